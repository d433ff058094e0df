/-
  PROOFS: as data; bits of keys; what Verify answers.
  Own work. No macro, syntax, notation, axiom.
-/
import Derived.Test.YtjkbjppopdfggaaDoorNodeW4
import Derived.Test.YtjkbjppopdfggaaDoorDenWords11
import Derived.Test.YtjkbjppopdfggaaDoorFnVer
namespace Go.Proofs.YtjkbjppopdfggaaDoor.Sha
open Go Den Fn
open Go.RowKit (Below)
set_option maxRecDepth 8000
set_option maxHeartbeats 1000000

structure Fk where
  bit : Int
  oth : List Int
def Fk.ok (f : Fk) : Prop := I64 f.bit ∧ f.oth.length = 32 ∧ Bytes f.oth
abbrev fkC (f : Fk) : List Value := .int .i64 f.bit :: u8 f.oth
structure Pf where
  fs : List Fk
  leaf : Bool
  t : Int
  r : Int
  v : Int
structure Pf.ok (p : Pf) : Prop where
  fs : ∀ f ∈ p.fs, f.ok
  t : I64 p.t
  r : I64 p.r
  v : I64 p.v
abbrev pfC (a : Option Addr) (n c : Nat) (p : Pf) : List Value := [.slice a n c, .bool p.leaf, .int .i64 p.t, .int .i64 p.r, .int .i64 p.v]
theorem fkC_len {l : List Fk} (h : ∀ f ∈ l, f.ok) : ∀ f ∈ l, (fkC f).length = 33 := fun f hf => by
  have := (h f hf).2.1
  simp [this]
theorem fkC_ones {f : Fk} : ∀ u ∈ fkC f, one u = true := by
  intro u hu
  rcases List.mem_cons.1 hu with rfl | hu
  · rfl
  · exact ones_ints u hu
/-- A proof in memory. -/
def PfAt (w : World) (a : Option Addr) (n c : Nat) (p : Pf) : Prop := p.ok ∧ RSl w 33 a n c (rows fkC p.fs)
theorem PfAt.quiet {w w' : World} {a : Option Addr} {n c : Nat} {p : Pf} (h : PfAt w a n c p) (ht : Tch [] w w') : PfAt w' a n c p := ⟨h.1, h.2.tch ht (fun _ _ h => by cases h)⟩
theorem PfAt.len {w : World} {a : Option Addr} {n c : Nat} {p : Pf} (h : PfAt w a n c p) : p.fs.length = n := h.2.count (fkC_len h.1.fs) (by omega)
/-- A bit of a key's bytes. -/
def bitS (b : List Int) (n : Int) : Int := bAnd .u8 (shR .u8 (b.getD (n / 8).toNat 0) (7 - n % 8)) 1
def Rk (n : Int) : Prop := 0 ≤ n ∧ n < 80
instance (n : Int) : Decidable (Rk n) := by unfold Rk; infer_instance
theorem tdm {n : Int} (h : Rk n) : IntKind.wrap .i64 (Int.tdiv n 8) = n / 8 ∧ IntKind.wrap .i64 (7 - Int.tmod n 8) = 7 - n % 8 ∧ 0 ≤ n / 8 ∧ n / 8 < 10 ∧ 0 ≤ n % 8 ∧ n % 8 < 8 := by
  unfold Rk at h
  obtain ⟨m, rfl⟩ := Int.eq_ofNat_of_zero_le h.1
  have e1 : Int.tdiv (m : Int) 8 = (m : Int) / 8 := Int.tdiv_eq_ediv_of_nonneg h.1
  have e2 : Int.tmod (m : Int) 8 = (m : Int) % 8 := Int.tmod_eq_emod_of_nonneg h.1
  rw [e1, e2]
  refine ⟨wrap_i64 (by omega) (by omega), wrap_i64 (by omega) (by omega), by omega, by omega, by omega, by omega⟩
theorem bit_c (w : World) (a : Option Addr) (c : Nat) (kb : List Int) (n : Int) (hr : RSl w 1 a 10 c (u8 kb)) (hn : Rk n) :
    Calls Tryd.prog 75 #[.slice a 10 c, .int .i64 n] w fun e w' => e = .returned (.int .u8 (bitS kb n)) ∧ w' = w := by
  obtain ⟨e1, e2, g1, g2, g3, g4⟩ := tdm hn
  refine c75 _ _ _ _ ?_
  unfold d75
  rw [e1, e2]
  refine ⟨by omega, g1, by omega, ?_⟩
  obtain ⟨b, o, rfl, hc⟩ := hr.int (i := (n / 8).toNat) (by omega)
  refine ⟨kb.getD (n / 8).toNat 0, by rw [add_mk, Nat.mul_one]; exact hc, by omega, by omega, rfl, rfl⟩
theorem and1_8 : ∀ m : Fin 256, bAnd .u8 (m.val : Int) 1 = bAnd .i64 (m.val : Int) 1 := by decide +kernel
theorem shR_u8 {x y : Int} (h0 : 0 ≤ x) (h1 : x < 256) (hy : 0 ≤ y ∧ y < 8) : 0 ≤ shR .u8 x y ∧ shR .u8 x y < 256 := by
  unfold shR
  generalize min y.toNat (IntKind.u8).bits = k
  have hp : (0 : Int) ≤ 2 ^ k := Int.pow_nonneg (by omega)
  rw [Int.fdiv_eq_ediv_of_nonneg _ hp]
  have h2 := Int.ediv_nonneg h0 hp
  have h3 := Int.ediv_le_self (2 ^ k) h0
  omega
theorem bitS_ref {kb : List Int} (hB : Bytes kb) {n : Int} (hn : Rk n) : bAnd .i64 (IntKind.wrap .i64 (shR .u8 (kb.getD (n / 8).toNat 0) (7 - n % 8))) 1 = bitS kb n := by
  obtain ⟨_, _, g1, g2, g3, g4⟩ := tdm hn
  have hx : 0 ≤ kb.getD (n / 8).toNat 0 ∧ kb.getD (n / 8).toNat 0 < 256 := by
    rw [List.getD_eq_getElem?_getD]
    cases h : kb[(n / 8).toNat]? with
    | none => simp
    | some x => exact hB x (List.mem_of_getElem? h)
  obtain ⟨h1, h2⟩ := shR_u8 hx.1 hx.2 (y := 7 - n % 8) (by omega)
  unfold bitS
  rw [wrap_i64 (by omega) (by omega)]
  generalize shR .u8 (kb.getD (n / 8).toNat 0) (7 - n % 8) = z at *
  obtain ⟨m, rfl⟩ := Int.eq_ofNat_of_zero_le h1
  exact (and1_8 ⟨m, by omega⟩).symm
theorem refBit_c (w : World) (t r n : Int) (hk : KeyOk t) (hn : Rk n) :
    Calls Tryd.prog 59 #[.agg (keyC t r).toArray, .int .i64 n] w fun e w' => e = .returned (.int .i64 (bitS (keyB t r) n)) ∧ Tch [] w w' := by
  obtain ⟨e1, e2, g1, g2, g3, g4⟩ := tdm hn
  refine c59 _ _ ?_
  unfold d59
  rintro w2 rfl
  have hK := Blk.fresh w (cs := keyC t r) 29 rfl
  have ht := (Tch.refl [] w).alloc (.cells (keyC t r).toArray 29)
  refine get_all hK rfl ?_
  refine (refBytes_c t r _).mono ?_
  rintro e w5 h
  rw [if_pos hk] at h
  obtain ⟨a, c, rfl, hown, ht5⟩ := h
  refine ⟨_, _, _, _, rfl, _, _, _, rfl, _, rfl, ?_⟩
  rw [e1, e2]
  refine ⟨by omega, g1, by omega, ?_⟩
  obtain ⟨b, o, rfl, hc⟩ := (own_rsl hown ones_ints).int (i := (n / 8).toNat) (by omega)
  refine ⟨(keyB t r).getD (n / 8).toNat 0, by rw [add_mk, Nat.mul_one]; exact hc, by omega, by omega, ?_⟩
  rw [bitS_ref (keyB_bytes _ _) hn]
  exact ⟨rfl, ht.trans ht5 (by simp)⟩
theorem get_at2 {w : World} {b : Nat} {cs : List Value} (h : Blk w b cs) (o n : Nat) (ds : List Value) (he : (cs.drop o).take n = ds) (hl : ds.length = n) {A : Addr} (hA : A = ⟨b, o, none⟩) {K : List Value → Prop} (hK : K ds) :
    ∃ ds : List Value, List.length ds = n ∧ Cells w A ds ∧ K ds := by
  obtain ⟨es, h1, h2, h3⟩ := get_part h o n ds he hl hK
  refine ⟨es, h1, ?_, h3⟩
  rw [hA]
  rwa [add_mk, Nat.zero_add] at h2
theorem put_one {u : World} {b : Nat} {v0 q : Value} (h : Blk u b [v0]) (h1 : one q = true) {K : World → Prop} (hK : ∀ u', Blk u' b [q] → Tch [b] u u' → K u') :
    one q = true ∧ Option.isSome (World.cell? u ⟨b, 0, none⟩) = true ∧ World.frozen? u ⟨b, 0, none⟩ = false ∧ ∀ w' : World, w' = World.setCell u ⟨b, 0, none⟩ q → K w' := by
  refine ⟨h1, by rw [h.cell]; rfl, h.frozen _, ?_⟩
  rintro w' rfl
  exact hK _ (h.set 0 q) ((Tch.refl [b] u).setCell (p := ⟨b, 0, none⟩) (.inl (by simp)) q)
/-- One fork further up. -/
def stepD (kb : List Int) (f : Fk) (d : List Int) : List Int := if bitS kb f.bit = 0 then sha (forkT f.bit d f.oth) else sha (forkT f.bit f.oth d)
/-- The digest that some forks lead to, the last one first. -/
def upD (kb : List Int) (fs : List Fk) (d : List Int) : List Int := fs.foldr (stepD kb) d
theorem stepD_len {kb : List Int} {f : Fk} {d : List Int} : (stepD kb f d).length = 32 ∧ Bytes (stepD kb f d) := by
  unfold stepD
  split
  · exact ⟨sha_length _, sha_bytes _⟩
  · exact ⟨sha_length _, sha_bytes _⟩
theorem upD_len {kb : List Int} {d : List Int} (h : d.length = 32 ∧ Bytes d) : ∀ fs : List Fk, (upD kb fs d).length = 32 ∧ Bytes (upD kb fs d)
  | [] => h
  | _ :: _ => stepD_len
/-- Ranks, and they rise: the first ones. -/
def RiseU (fs : List Fk) (n : Nat) : Prop := ∀ (i : Nat) (f : Fk), i < n → fs[i]? = some f → Rk f.bit ∧ ∀ g, 0 < i → fs[i - 1]? = some g → g.bit < f.bit
def RiseF (fs : List Fk) : Prop := RiseU fs fs.length
theorem RiseU.succ {fs : List Fk} {n : Nat} (h : RiseU fs n) {f : Fk} (hf : fs[n]? = some f) (h1 : Rk f.bit) (h2 : ∀ g, 0 < n → fs[n - 1]? = some g → g.bit < f.bit) : RiseU fs (n + 1) := fun i x hi hx => by
  by_cases e : i = n
  · subst e
    rw [hf] at hx
    cases hx
    exact ⟨h1, h2⟩
  · exact h i x (by omega) hx
theorem RiseF.rank {fs : List Fk} (h : RiseF fs) : ∀ f ∈ fs, Rk f.bit := fun f hf => by
  obtain ⟨i, hi⟩ := List.getElem?_of_mem hf
  exact (h i f (List.getElem?_eq_some_iff.1 hi).1 hi).1
/-- Does a proof hold? -/
def holdsP (root kb : List Int) (p : Pf) : Prop :=
  RiseF p.fs ∧ if p.leaf = false then p.fs = [] ∧ (p.t = 0 ∧ p.r = 0 ∧ p.v = 0) ∧ root = z32
    else KeyOk p.t ∧ (∀ f ∈ p.fs, bitS (keyB p.t p.r) f.bit = bitS kb f.bit) ∧ upD kb p.fs (sha (leafT p.t p.r p.v)) = root
open Classical in
/-- What Verify answers: is there a row, its value; the error. -/
noncomputable def verS (root : List Int) (t r : Int) (p : Pf) : (Bool × Int) × Int :=
  if ¬ KeyOk t then ((false, 0), 20) else if ¬ holdsP root (keyB t r) p then ((false, 0), 250) else if p.leaf = true ∧ p.t = t ∧ p.r = r then ((true, p.v), 0) else ((false, 0), 0)
end Go.Proofs.YtjkbjppopdfggaaDoor.Sha
