/-
  PROOFS: as data; bits of keys; what Verify answers.
  TREES OVER ROWS, as data: bits of keys, where rows part, the tree; it has their rows (no code in sight).
  Own work. No macro, syntax, notation, axiom.
-/
import Derived.Test.YtjkbjppopdfggaaDoorTruPk8
namespace Go.Proofs.YtjkbjppopdfggaaDoor.Sha
open Go Den Fn
open Go.RowKit (Below)
set_option maxRecDepth 8000
set_option maxHeartbeats 1000000
structure Fk where
  bit : Int
  oth : List Int
def Fk.ok (f : Fk) : Prop := I64 f.bit ∧ f.oth.length = 32 ∧ Bytes f.oth
abbrev fkC (f : Fk) : List Value := .int .i64 f.bit :: u8 f.oth
structure Pf where
  fs : List Fk
  leaf : Bool
  t : Int
  r : Int
  v : Int
structure Pf.ok (p : Pf) : Prop where
  fs : ∀ f ∈ p.fs, f.ok
  t : I64 p.t
  r : I64 p.r
  v : I64 p.v
abbrev pfC (a : Option Addr) (n c : Nat) (p : Pf) : List Value := [.slice a n c, .bool p.leaf, .int .i64 p.t, .int .i64 p.r, .int .i64 p.v]
theorem fkC_len {l : List Fk} (h : ∀ f ∈ l, f.ok) : ∀ f ∈ l, (fkC f).length = 33 := fun f hf => by
  have := (h f hf).2.1
  simp [this]
theorem fkC_ones {f : Fk} : ∀ u ∈ fkC f, one u = true := by
  intro u hu
  rcases List.mem_cons.1 hu with rfl | hu
  · rfl
  · exact ones_ints u hu
/-- A proof in memory. -/
def PfAt (w : World) (a : Option Addr) (n c : Nat) (p : Pf) : Prop := p.ok ∧ RSl w 33 a n c (rows fkC p.fs)
theorem PfAt.quiet {w w' : World} {a : Option Addr} {n c : Nat} {p : Pf} (h : PfAt w a n c p) (ht : Tch [] w w') : PfAt w' a n c p := ⟨h.1, h.2.tch ht (fun _ _ h => by cases h)⟩
theorem PfAt.len {w : World} {a : Option Addr} {n c : Nat} {p : Pf} (h : PfAt w a n c p) : p.fs.length = n := h.2.count (fkC_len h.1.fs) (by omega)
/-- A bit of a key's bytes. -/
def bitS (b : List Int) (n : Int) : Int := bAnd .u8 (shR .u8 (b.getD (n / 8).toNat 0) (7 - n % 8)) 1
def Rk (n : Int) : Prop := 0 ≤ n ∧ n < 80
instance (n : Int) : Decidable (Rk n) := by unfold Rk; infer_instance
theorem tdm {n : Int} (h : Rk n) : IntKind.wrap .i64 (Int.tdiv n 8) = n / 8 ∧ IntKind.wrap .i64 (7 - Int.tmod n 8) = 7 - n % 8 ∧ 0 ≤ n / 8 ∧ n / 8 < 10 ∧ 0 ≤ n % 8 ∧ n % 8 < 8 := by
  unfold Rk at h
  obtain ⟨m, rfl⟩ := Int.eq_ofNat_of_zero_le h.1
  have e1 : Int.tdiv (m : Int) 8 = (m : Int) / 8 := Int.tdiv_eq_ediv_of_nonneg h.1
  have e2 : Int.tmod (m : Int) 8 = (m : Int) % 8 := Int.tmod_eq_emod_of_nonneg h.1
  rw [e1, e2]
  refine ⟨wrap_i64 (by omega) (by omega), wrap_i64 (by omega) (by omega), by omega, by omega, by omega, by omega⟩
theorem bit_c (w : World) (a : Option Addr) (c : Nat) (kb : List Int) (n : Int) (hr : RSl w 1 a 10 c (u8 kb)) (hn : Rk n) :
    Calls Tryd.prog 75 #[.slice a 10 c, .int .i64 n] w fun e w' => e = .returned (.int .u8 (bitS kb n)) ∧ w' = w := by
  obtain ⟨e1, e2, g1, g2, g3, g4⟩ := tdm hn
  refine c75 _ _ _ _ ?_
  unfold d75
  rw [e1, e2]
  refine ⟨by omega, g1, by omega, ?_⟩
  obtain ⟨b, o, rfl, hc⟩ := hr.int (i := (n / 8).toNat) (by omega)
  refine ⟨kb.getD (n / 8).toNat 0, by rw [add_mk, Nat.mul_one]; exact hc, by omega, by omega, rfl, rfl⟩
theorem and1_8 : ∀ m : Fin 256, bAnd .u8 (m.val : Int) 1 = bAnd .i64 (m.val : Int) 1 := by decide +kernel
theorem shR_u8 {x y : Int} (h0 : 0 ≤ x) (h1 : x < 256) (hy : 0 ≤ y ∧ y < 8) : 0 ≤ shR .u8 x y ∧ shR .u8 x y < 256 := by
  unfold shR
  generalize min y.toNat (IntKind.u8).bits = k
  have hp : (0 : Int) ≤ 2 ^ k := Int.pow_nonneg (by omega)
  rw [Int.fdiv_eq_ediv_of_nonneg _ hp]
  have h2 := Int.ediv_nonneg h0 hp
  have h3 := Int.ediv_le_self (2 ^ k) h0
  omega
theorem bitS_ref {kb : List Int} (hB : Bytes kb) {n : Int} (hn : Rk n) : bAnd .i64 (IntKind.wrap .i64 (shR .u8 (kb.getD (n / 8).toNat 0) (7 - n % 8))) 1 = bitS kb n := by
  obtain ⟨_, _, g1, g2, g3, g4⟩ := tdm hn
  have hx : 0 ≤ kb.getD (n / 8).toNat 0 ∧ kb.getD (n / 8).toNat 0 < 256 := by
    rw [List.getD_eq_getElem?_getD]
    cases h : kb[(n / 8).toNat]? with
    | none => simp
    | some x => exact hB x (List.mem_of_getElem? h)
  obtain ⟨h1, h2⟩ := shR_u8 hx.1 hx.2 (y := 7 - n % 8) (by omega)
  unfold bitS
  rw [wrap_i64 (by omega) (by omega)]
  generalize shR .u8 (kb.getD (n / 8).toNat 0) (7 - n % 8) = z at *
  obtain ⟨m, rfl⟩ := Int.eq_ofNat_of_zero_le h1
  exact (and1_8 ⟨m, by omega⟩).symm
theorem refBit_c (w : World) (t r n : Int) (hk : KeyOk t) (hn : Rk n) :
    Calls Tryd.prog 59 #[.agg (keyC t r).toArray, .int .i64 n] w fun e w' => e = .returned (.int .i64 (bitS (keyB t r) n)) ∧ Tch [] w w' := by
  obtain ⟨e1, e2, g1, g2, g3, g4⟩ := tdm hn
  refine c59 _ _ ?_
  unfold d59
  rintro w2 rfl
  have hK := Blk.fresh w (cs := keyC t r) 29 rfl
  have ht := (Tch.refl [] w).alloc (.cells (keyC t r).toArray 29)
  refine get_all hK rfl ?_
  refine (refBytes_c t r _).mono ?_
  rintro e w5 h
  rw [if_pos hk] at h
  obtain ⟨a, c, rfl, hown, ht5⟩ := h
  refine ⟨_, _, _, _, rfl, _, _, _, rfl, _, rfl, ?_⟩
  rw [e1, e2]
  refine ⟨by omega, g1, by omega, ?_⟩
  obtain ⟨b, o, rfl, hc⟩ := (own_rsl hown ones_ints).int (i := (n / 8).toNat) (by omega)
  refine ⟨(keyB t r).getD (n / 8).toNat 0, by rw [add_mk, Nat.mul_one]; exact hc, by omega, by omega, ?_⟩
  rw [bitS_ref (keyB_bytes _ _) hn]
  exact ⟨rfl, ht.trans ht5 (by simp)⟩
theorem get_at2 {w : World} {b : Nat} {cs : List Value} (h : Blk w b cs) (o n : Nat) (ds : List Value) (he : (cs.drop o).take n = ds) (hl : ds.length = n) {A : Addr} (hA : A = ⟨b, o, none⟩) {K : List Value → Prop} (hK : K ds) :
    ∃ ds : List Value, List.length ds = n ∧ Cells w A ds ∧ K ds := by
  obtain ⟨es, h1, h2, h3⟩ := get_part h o n ds he hl hK
  refine ⟨es, h1, ?_, h3⟩
  rw [hA]
  rwa [add_mk, Nat.zero_add] at h2
theorem put_one {u : World} {b : Nat} {v0 q : Value} (h : Blk u b [v0]) (h1 : one q = true) {K : World → Prop} (hK : ∀ u', Blk u' b [q] → Tch [b] u u' → K u') :
    one q = true ∧ Option.isSome (World.cell? u ⟨b, 0, none⟩) = true ∧ World.frozen? u ⟨b, 0, none⟩ = false ∧ ∀ w' : World, w' = World.setCell u ⟨b, 0, none⟩ q → K w' := by
  refine ⟨h1, by rw [h.cell]; rfl, h.frozen _, ?_⟩
  rintro w' rfl
  exact hK _ (h.set 0 q) ((Tch.refl [b] u).setCell (p := ⟨b, 0, none⟩) (.inl (by simp)) q)
/-- One fork further up. -/
def stepD (kb : List Int) (f : Fk) (d : List Int) : List Int := if bitS kb f.bit = 0 then sha (forkT f.bit d f.oth) else sha (forkT f.bit f.oth d)
/-- The digest that some forks lead to, the last one first. -/
def upD (kb : List Int) (fs : List Fk) (d : List Int) : List Int := fs.foldr (stepD kb) d
theorem stepD_len {kb : List Int} {f : Fk} {d : List Int} : (stepD kb f d).length = 32 ∧ Bytes (stepD kb f d) := by
  unfold stepD
  split
  · exact ⟨sha_length _, sha_bytes _⟩
  · exact ⟨sha_length _, sha_bytes _⟩
theorem upD_len {kb : List Int} {d : List Int} (h : d.length = 32 ∧ Bytes d) : ∀ fs : List Fk, (upD kb fs d).length = 32 ∧ Bytes (upD kb fs d)
  | [] => h
  | _ :: _ => stepD_len
/-- Ranks, and they rise: the first ones. -/
def RiseU (fs : List Fk) (n : Nat) : Prop := ∀ (i : Nat) (f : Fk), i < n → fs[i]? = some f → Rk f.bit ∧ ∀ g, 0 < i → fs[i - 1]? = some g → g.bit < f.bit
def RiseF (fs : List Fk) : Prop := RiseU fs fs.length
theorem RiseU.succ {fs : List Fk} {n : Nat} (h : RiseU fs n) {f : Fk} (hf : fs[n]? = some f) (h1 : Rk f.bit) (h2 : ∀ g, 0 < n → fs[n - 1]? = some g → g.bit < f.bit) : RiseU fs (n + 1) := fun i x hi hx => by
  by_cases e : i = n
  · subst e
    rw [hf] at hx
    cases hx
    exact ⟨h1, h2⟩
  · exact h i x (by omega) hx
theorem RiseF.rank {fs : List Fk} (h : RiseF fs) : ∀ f ∈ fs, Rk f.bit := fun f hf => by
  obtain ⟨i, hi⟩ := List.getElem?_of_mem hf
  exact (h i f (List.getElem?_eq_some_iff.1 hi).1 hi).1
/-- Does a proof hold? -/
def holdsP (root kb : List Int) (p : Pf) : Prop :=
  RiseF p.fs ∧ if p.leaf = false then p.fs = [] ∧ (p.t = 0 ∧ p.r = 0 ∧ p.v = 0) ∧ root = z32
    else KeyOk p.t ∧ (∀ f ∈ p.fs, bitS (keyB p.t p.r) f.bit = bitS kb f.bit) ∧ upD kb p.fs (sha (leafT p.t p.r p.v)) = root
open Classical in
/-- What Verify answers: is there a row, its value; the error. -/
noncomputable def verS (root : List Int) (t r : Int) (p : Pf) : (Bool × Int) × Int :=
  if ¬ KeyOk t then ((false, 0), 20) else if ¬ holdsP root (keyB t r) p then ((false, 0), 250) else if p.leaf = true ∧ p.t = t ∧ p.r = r then ((true, p.v), 0) else ((false, 0), 0)
end Go.Proofs.YtjkbjppopdfggaaDoor.Sha
namespace Go.Proofs.YtjkbjppopdfggaaDoor.Tre
open Go Den
/-! ### Bytes in their order -/
def val : List Int → Int
  | [] => 0
  | x :: l => x * 256 ^ l.length + val l
theorem val_range : ∀ {l : List Int}, Lib.Bytes l → 0 ≤ val l ∧ val l < 256 ^ l.length
  | [], _ => by simp [val]
  | x :: l, h => by
    obtain ⟨h1, h2⟩ := val_range (l := l) fun y hy => h y (by simp [hy])
    obtain ⟨h3, h4⟩ := h x (by simp)
    have hp : (0 : Int) < 256 ^ l.length := Int.pow_pos (by omega)
    have e : (256 : Int) ^ (l.length + 1) = 256 * 256 ^ l.length := by rw [Int.pow_succ, Int.mul_comm]
    rw [val, List.length_cons, e]
    have h5 : 0 ≤ x * 256 ^ l.length := Int.mul_nonneg h3 (by omega)
    have h6 : x * 256 ^ l.length ≤ 255 * 256 ^ l.length := Int.mul_le_mul_of_nonneg_right (by omega) (by omega)
    constructor <;> omega
/-- Of two rows of bytes the one of less value is less at the first place where they differ. -/
theorem lex_of_val : ∀ {a b : List Int}, Lib.Bytes a → Lib.Bytes b → a.length = b.length → val a < val b → ∃ i, i < a.length ∧ (∀ j, j < i → a.getD j 0 = b.getD j 0) ∧ a.getD i 0 < b.getD i 0
  | [], [], _, _, _, h => by simp [val] at h
  | [], _ :: _, _, _, h, _ => by simp at h
  | _ :: _, [], _, _, h, _ => by simp at h
  | x :: l, y :: m, ha, hb, hl, h => by
    have hl' : l.length = m.length := by simpa using hl
    obtain ⟨h1, h2⟩ := val_range (l := l) fun z hz => ha z (by simp [hz])
    obtain ⟨h3, h4⟩ := val_range (l := m) fun z hz => hb z (by simp [hz])
    rw [val, val, ← hl'] at h
    rw [← hl'] at h4
    have hp : (0 : Int) < 256 ^ l.length := Int.pow_pos (by omega)
    rcases Int.lt_trichotomy x y with hlt | he | hgt
    · exact ⟨0, by simp, by omega, by simpa using hlt⟩
    · subst he
      obtain ⟨i, g1, g2, g3⟩ := lex_of_val (fun z hz => ha z (by simp [hz])) (fun z hz => hb z (by simp [hz])) hl' (by omega)
      refine ⟨i + 1, by simp; omega, fun j hj => ?_, by simpa using g3⟩
      cases j with
      | zero => rfl
      | succ j => simpa using g2 j (by omega)
    · exfalso
      have : (y + 1) * 256 ^ l.length ≤ x * 256 ^ l.length := Int.mul_le_mul_of_nonneg_right (by omega) (by omega)
      rw [Int.add_mul] at this
      omega
theorem val_foldl : ∀ (l : List Int) (u : Int), l.foldl (fun u x => u * 256 + x) u = u * 256 ^ l.length + val l
  | [], u => by simp [val]
  | x :: l, u => by
    rw [List.foldl_cons, val_foldl l, val, List.length_cons, Int.add_mul, Int.mul_assoc, Int.pow_succ, Int.mul_comm (256 ^ l.length) 256]
    omega
theorem val_beU (l : List Int) : val l = Lib.beU l := by
  rw [Lib.beU, val_foldl]
  omega
theorem rowU_val {r : Int} (h : Lib.I64 r) : Lib.rowU r = r + 9223372036854775808 := by
  unfold Lib.I64 at h
  unfold Lib.rowU
  by_cases h0 : 0 ≤ r
  · rw [wrap_u64 h0 (by omega), Lib.xor63 h0 (by omega), if_pos (by omega)]
  · have e : IntKind.wrap .u64 r = r + 18446744073709551616 := by rw [wrap_u64_eq]; omega
    rw [e, Lib.xor63 (by omega) (by omega), if_neg (by omega)]
    omega
theorem val_key {t r : Int} (ht : Lib.KeyOk t) (hr : Lib.I64 r) : val (Lib.keyB t r) = t * 18446744073709551616 + (r + 9223372036854775808) := by
  have hu := Lib.rowU_range r
  have e8 : val (Lib.be8 (Lib.rowU r)) = Lib.rowU r := by rw [val_beU, Lib.beU_be8 hu.1 hu.2]
  have hlo : IntKind.wrap .u8 t = t % 256 := by rw [wrap_u8_eq]
  unfold Lib.keyB
  rw [Lib.hi_byte ht, hlo]
  show t / 256 * 256 ^ (Lib.be8 (Lib.rowU r)).length.succ + (t % 256 * 256 ^ (Lib.be8 (Lib.rowU r)).length + val (Lib.be8 (Lib.rowU r))) = _
  rw [e8, Lib.be8_length, rowU_val hr]
  have p9 : (256 : Int) ^ Nat.succ 8 = 4722366482869645213696 := by decide
  have p8 : (256 : Int) ^ 8 = 18446744073709551616 := by decide
  rw [p9, p8]
  omega

/-! ### Bits -/
theorem bitv : ∀ m : Fin 256, ∀ s : Fin 8, bAnd .u8 (shR .u8 (m.val : Int) (s.val : Int)) 1 = ((m.val / 2 ^ s.val % 2 : Nat) : Int) := by decide +kernel
/-- A bit of bytes, as a number. -/
theorem bit_nat {kb : List Int} (hB : Lib.Bytes kb) {i k : Nat} (hk : k < 8) : Sha.bitS kb ((8 * i + k : Nat) : Int) = (((kb.getD i 0).toNat / 2 ^ (7 - k) % 2 : Nat) : Int) := by
  have e1 : (((8 * i + k : Nat) : Int) / 8).toNat = i := by omega
  have e2 : (7 : Int) - ((8 * i + k : Nat) : Int) % 8 = ((7 - k : Nat) : Int) := by omega
  unfold Sha.bitS
  rw [e1, e2]
  have hx := Lib.byte_of hB i
  generalize kb.getD i 0 = x at *
  obtain ⟨m, rfl⟩ := Int.eq_ofNat_of_zero_le hx.1
  exact bitv ⟨m, by omega⟩ ⟨7 - k, by omega⟩
/-- Of two unlike bytes: the highest place where they differ. -/
theorem top_diff {x y : Nat} (hx : x < 256) (hy : y < 256) (hne : x ≠ y) : ∃ s, s < 8 ∧ x / 2 ^ s ≠ y / 2 ^ s ∧ ∀ s', s < s' → x / 2 ^ s' = y / 2 ^ s' := by
  have high : ∀ s, 8 ≤ s → x / 2 ^ s = y / 2 ^ s := fun s hs => by
    have : 2 ^ 8 ≤ 2 ^ s := Nat.pow_le_pow_right (by omega) hs
    rw [Nat.div_eq_of_lt (by omega), Nat.div_eq_of_lt (by omega)]
  have go : ∀ j, j ≤ 8 → (∀ s, j ≤ s → x / 2 ^ s = y / 2 ^ s) → ∃ s, s < 8 ∧ x / 2 ^ s ≠ y / 2 ^ s ∧ ∀ s', s < s' → x / 2 ^ s' = y / 2 ^ s' := by
    intro j
    induction j with
    | zero => intro _ h; exact absurd (by simpa using h 0 (Nat.le_refl _)) hne
    | succ j ih =>
      intro hj h
      by_cases e : x / 2 ^ j = y / 2 ^ j
      · refine ih (by omega) fun s hs => ?_
        by_cases es : s = j
        · subst es; exact e
        · exact h s (by omega)
      · exact ⟨j, by omega, e, fun s' hs' => h s' (by omega)⟩
  exact go 8 (Nat.le_refl _) high
/-- Where it is, and which way. -/
theorem top_less {x y : Nat} (hy : y < 256) (hlt : x < y) : ∃ s, s < 8 ∧ x / 2 ^ s % 2 = 0 ∧ y / 2 ^ s % 2 = 1 ∧ y / 2 ^ s = x / 2 ^ s + 1 ∧ ∀ s', s < s' → x / 2 ^ s' = y / 2 ^ s' := by
  obtain ⟨s, h1, h2, h3⟩ := top_diff (x := x) (y := y) (by omega) hy (by omega)
  have hle : x / 2 ^ s ≤ y / 2 ^ s := Nat.div_le_div_right (by omega)
  have hn := h3 (s + 1) (by omega)
  rw [Nat.pow_succ, ← Nat.div_div_eq_div_mul, ← Nat.div_div_eq_div_mul] at hn
  refine ⟨s, h1, ?_, ?_, ?_, h3⟩
  all_goals
    generalize x / 2 ^ s = p at *
    generalize y / 2 ^ s = q at *
    omega

/-- The first bit in which two rows of bytes differ. -/
def Fst (a b : List Int) (n : Nat) : Prop := n < 80 ∧ Sha.bitS a n ≠ Sha.bitS b n ∧ ∀ m, m < n → Sha.bitS a m = Sha.bitS b m
theorem Fst.unique {a b : List Int} {n m : Nat} (h : Fst a b n) (g : Fst a b m) : n = m := by
  rcases Nat.lt_trichotomy n m with hl | he | hg
  · exact absurd (g.2.2 n hl) h.2.1
  · exact he
  · exact absurd (h.2.2 m hg) g.2.1
/-- Bytes that are less at the first place where they differ: the first bit. -/
theorem fst_of {a b : List Int} (hA : Lib.Bytes a) (hB : Lib.Bytes b) {i : Nat} (hi : i < 10) (heq : ∀ j, j < i → a.getD j 0 = b.getD j 0) {s : Nat} (hs : s < 8) (hne : (a.getD i 0).toNat / 2 ^ s % 2 ≠ (b.getD i 0).toNat / 2 ^ s % 2) (hup : ∀ s', s < s' → (a.getD i 0).toNat / 2 ^ s' = (b.getD i 0).toNat / 2 ^ s') : Fst a b (8 * i + (7 - s)) := by
  refine ⟨by omega, fun h => ?_, fun m hm => ?_⟩
  · rw [bit_nat hA (by omega), bit_nat hB (by omega), show 7 - (7 - s) = s by omega] at h
    exact hne (by omega)
  · have e : m = 8 * (m / 8) + m % 8 := by omega
    rw [e, bit_nat hA (by omega), bit_nat hB (by omega)]
    by_cases hmi : m / 8 < i
    · rw [heq _ hmi]
    · have : m / 8 = i := by omega
      rw [this, hup (7 - m % 8) (by omega)]
/-- Keys in their order part at a bit: the less has it not set. -/
theorem key_bits {a b : Int × Int} (ha : Lib.KeyOk a.1 ∧ Lib.I64 a.2) (hb : Lib.KeyOk b.1 ∧ Lib.I64 b.2) (h : Lib.cmpK a b < 0) : ∃ n, Fst (Lib.keyB a.1 a.2) (Lib.keyB b.1 b.2) n ∧ Sha.bitS (Lib.keyB a.1 a.2) n = 0 ∧ Sha.bitS (Lib.keyB b.1 b.2) n = 1 := by
  have hA := Lib.keyB_bytes a.1 a.2
  have hB := Lib.keyB_bytes b.1 b.2
  have hv : val (Lib.keyB a.1 a.2) < val (Lib.keyB b.1 b.2) := by
    rw [val_key ha.1 ha.2, val_key hb.1 hb.2]
    have h1 := ha.2
    have h2 := hb.2
    unfold Lib.I64 at h1 h2
    rcases cmpK_neg.1 h with h | h <;> omega
  obtain ⟨i, h1, h2, h3⟩ := lex_of_val hA hB (by rw [Lib.keyB_length, Lib.keyB_length]) hv
  rw [Lib.keyB_length] at h1
  have hxa := Lib.byte_of hA i
  have hxb := Lib.byte_of hB i
  obtain ⟨s, g1, g2, g3, _, g5⟩ := top_less (x := ((Lib.keyB a.1 a.2).getD i 0).toNat) (y := ((Lib.keyB b.1 b.2).getD i 0).toNat) (by omega) (by omega)
  refine ⟨8 * i + (7 - s), fst_of hA hB h1 h2 g1 (by omega) g5, ?_, ?_⟩
  · rw [bit_nat hA (by omega), show 7 - (7 - s) = s by omega, g2]; rfl
  · rw [bit_nat hB (by omega), show 7 - (7 - s) = s by omega, g3]; rfl
end Go.Proofs.YtjkbjppopdfggaaDoor.Tre
