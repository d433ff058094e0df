/-
  A READER OF BYTES: contracts of Read, uint, Uint, Upto, Byte, Int, Raw, Fail, Err, End, At, Left.
  Own work. No macro, syntax, notation, axiom.
-/
import Derived.Test.YtjkbjppopdfggaaLibCodS
import Derived.Test.YtjkbjppopdfggaaLibClone
import Derived.Test.YtjkbjppopdfggaaDenWords10
namespace Go.Proofs.Ytjkbjppopdfggaa.Lib
open Go Den Fn
open Go.RowKit (Below)
set_option maxRecDepth 8000
set_option maxHeartbeats 1000000

theorem elem8 {w : World} {a : Option Addr} {n c : Nat} {bs : List Int} (h : RSl w 1 a n c (u8 bs)) {i : Nat} (hi : i < n) {K : Int → Prop} (hK : K (bs.getD i 0)) :
    optK a fun x => ∃ y : Int, World.cell? w (Addr.add x (i * 1)) = some (.int .u8 y) ∧ K y := by
  obtain ⟨b, o, rfl, g⟩ := h.int hi
  refine ⟨_, ?_, hK⟩
  rw [add_mk, Nat.mul_one]
  exact g
theorem _root_.Go.Proofs.Ytjkbjppopdfggaa.Den.RSl.tch0 {s : List Nat} {w w' : World} {sz n c : Nat} {a : Option Addr} {cs : List Value} (h : RSl w sz a n c cs) (ht : Tch s w w') (hs : n = 0 ∨ Off s a) : RSl w' sz a n c cs := by
  rcases hs with h0 | hs
  · refine ⟨h.cap, h.len, h.ones, ?_⟩
    rcases h.at' with h' | ⟨b, o, h1, h2⟩
    · exact .inl h'
    · have := h.len
      rw [h0, Nat.zero_mul] at this
      rw [List.length_eq_zero_iff.1 this]
      exact .inr ⟨b, o, h1, fun i v hv => by simp at hv⟩
  · exact h.tch ht hs
theorem _root_.Go.Proofs.Ytjkbjppopdfggaa.Den.RSl.low {w : World} {sz n c : Nat} {a : Option Addr} {cs : List Value} (h : RSl w sz a n c cs) (h0 : 0 < sz) : n = 0 ∨ ∀ x, a = some x → x.block < w.heap.size := by
  rcases Nat.eq_zero_or_pos n with hn | hn
  · exact .inl hn
  · refine .inr fun x hx => ?_
    rcases h.at' with h' | ⟨b, o, h1, h2⟩
    · have := h.cap; omega
    · rw [h1] at hx
      cases hx
      have hl := h.len
      have : 0 < n * sz := Nat.mul_pos hn h0
      obtain ⟨v, hv⟩ : ∃ v, cs[0]? = some v := ⟨cs[0], by simp⟩
      have := h2 0 v hv
      rw [add_mk] at this
      exact World.block_lt_of_cell? _ _ this
/-- A reader at a block: what it reads, where it stands, its error. -/
structure Rd (w : World) (b : Nat) (a : Option Addr) (n c : Nat) (bs : List Int) (p : Nat) (e : Int) : Prop where
  blk : Blk w b [.slice a n c, .int .i64 p, .int .i64 e]
  row : RSl w 1 a n c (u8 bs)
  off : n = 0 ∨ Off [b] a
  le : p ≤ n
  B : Bytes bs
  N : n ≤ 140737488355328
/-- Behind a call. -/
def RdR (w w' : World) (b : Nat) (a : Option Addr) (n c : Nat) (bs : List Int) (st : Nat × Int) : Prop := Rd w' b a n c bs st.1 st.2 ∧ Tch [b] w w'
theorem Rd.len {w : World} {b n c p : Nat} {a : Option Addr} {bs : List Int} {e : Int} (h : Rd w b a n c bs p e) : bs.length = n := u8_len h.row
theorem Rd.quiet {w w' : World} {b n c p : Nat} {a : Option Addr} {bs : List Int} {e : Int} (h : Rd w b a n c bs p e) (ht : Tch [] w w') : Rd w' b a n c bs p e :=
  ⟨h.blk.tch ht (by simp), h.row.tch ht (fun _ _ h => by cases h), h.off, h.le, h.B, h.N⟩
theorem Rd.tch {w w' : World} {b n c p : Nat} {a : Option Addr} {bs : List Int} {e : Int} {s : List Nat} (h : Rd w b a n c bs p e) (ht : Tch s w w') (hb : b ∉ s) (ha : n = 0 ∨ Off s a) : Rd w' b a n c bs p e :=
  ⟨h.blk.tch ht hb, h.row.tch0 ht ha, h.off, h.le, h.B, h.N⟩
theorem Rd.refl {w : World} {b n c p : Nat} {a : Option Addr} {bs : List Int} {e : Int} (h : Rd w b a n c bs p e) : RdR w w b a n c bs (p, e) := ⟨h, Tch.refl _ _⟩
theorem RdR.trans {w w1 w2 : World} {b n c : Nat} {a : Option Addr} {bs : List Int} {st st' : Nat × Int} (h : RdR w w1 b a n c bs st) (k : RdR w1 w2 b a n c bs st') : RdR w w2 b a n c bs st' :=
  ⟨k.1, h.2.trans k.2 fun i hi => .inl hi⟩
theorem RdR.pre {w w1 w2 : World} {b n c : Nat} {a : Option Addr} {bs : List Int} {st : Nat × Int} (h : Tch [] w w1) (k : RdR w1 w2 b a n c bs st) : RdR w w2 b a n c bs st :=
  ⟨k.1, (h.weaken (by simp)).trans k.2 fun i hi => .inl hi⟩
theorem RdR.post {w w1 w2 : World} {b n c : Nat} {a : Option Addr} {bs : List Int} {st : Nat × Int} (h : RdR w w1 b a n c bs st) (k : Tch [] w1 w2) : RdR w w2 b a n c bs st :=
  ⟨h.1.quiet k, h.2.trans k (by simp)⟩
theorem Rd.slice {w : World} {b n c p : Nat} {a : Option Addr} {bs : List Int} {e : Int} (h : Rd w b a n c bs p e) {K : Option Addr → Nat → Nat → Prop} (hK : K a n c) :
    optK (some ⟨b, 0, none⟩) fun x => ∃ (y : Option Addr) (yn : Nat) (yc : Nat), World.cell? w (Addr.add x 0) = some (.slice y yn yc) ∧ K y yn yc := ⟨a, n, c, by rw [add_mk]; exact h.blk.cell 0, hK⟩
theorem Rd.at {w : World} {b n c p : Nat} {a : Option Addr} {bs : List Int} {e : Int} (h : Rd w b a n c bs p e) {K : Int → Prop} (hK : K p) :
    optK (some ⟨b, 0, none⟩) fun x => ∃ y : Int, World.cell? w (Addr.add x 1) = some (.int .i64 y) ∧ K y := ⟨_, by rw [add_mk]; exact h.blk.cell 1, hK⟩
theorem Rd.err {w : World} {b n c p : Nat} {a : Option Addr} {bs : List Int} {e : Int} (h : Rd w b a n c bs p e) {K : Int → Prop} (hK : K e) :
    optK (some ⟨b, 0, none⟩) fun x => ∃ y : Int, World.cell? w (Addr.add x 2) = some (.int .i64 y) ∧ K y := ⟨_, by rw [add_mk]; exact h.blk.cell 2, hK⟩
theorem Rd.setErr {w : World} {b n c p : Nat} {a : Option Addr} {bs : List Int} {e : Int} (h : Rd w b a n c bs p e) (k : Int) {K : World → Prop} (hK : ∀ w', RdR w w' b a n c bs (p, k) → K w') :
    optK (some ⟨b, 0, none⟩) fun x => one (.int .i64 k) = true ∧ Option.isSome (World.cell? w (Addr.add x 2)) = true ∧ World.frozen? w (Addr.add x 2) = false ∧ ∀ w' : World, w' = World.setCell w (Addr.add x 2) (.int .i64 k) → K w' := by
  show _ ∧ _
  rw [add_mk]
  refine ⟨rfl, by rw [h.blk.cell]; rfl, h.blk.frozen _, ?_⟩
  rintro w' rfl
  have ht := (Tch.refl [b] w).setCell (p := ⟨b, 0 + 2, none⟩) (.inl (by simp)) (.int .i64 k)
  exact hK _ ⟨⟨h.blk.set 2 _, h.row.tch0 ht h.off, h.off, h.le, h.B, h.N⟩, ht⟩
theorem Rd.setAt {w : World} {b n c p : Nat} {a : Option Addr} {bs : List Int} {e : Int} (h : Rd w b a n c bs p e) {k : Int} {q : Nat} (hk : k = q) (hq : q ≤ n) {K : World → Prop} (hK : ∀ w', RdR w w' b a n c bs (q, e) → K w') :
    optK (some ⟨b, 0, none⟩) fun x => one (.int .i64 k) = true ∧ Option.isSome (World.cell? w (Addr.add x 1)) = true ∧ World.frozen? w (Addr.add x 1) = false ∧ ∀ w' : World, w' = World.setCell w (Addr.add x 1) (.int .i64 k) → K w' := by
  subst hk
  show _ ∧ _
  rw [add_mk]
  refine ⟨rfl, by rw [h.blk.cell]; rfl, h.blk.frozen _, ?_⟩
  rintro w' rfl
  have ht := (Tch.refl [b] w).setCell (p := ⟨b, 0 + 1, none⟩) (.inl (by simp)) (.int .i64 (q : Int))
  exact hK _ ⟨⟨h.blk.set 1 _, h.row.tch0 ht h.off, h.off, hq, h.B, h.N⟩, ht⟩

/-! ### Sums of groups of seven bits -/
theorem and127 {c : Int} (h0 : 0 ≤ c) (h1 : c < 256) : bAnd .u8 c 127 = ((c.toNat % 128 : Nat) : Int) := by
  have key : ∀ m : Fin 256, bAnd .u8 (m.val : Int) 127 = ((m.val % 128 : Nat) : Int) := by decide +kernel
  have h := key ⟨c.toNat, by omega⟩
  simp only at h
  rwa [show ((c.toNat : Nat) : Int) = c by omega] at h
theorem part_lt {k x : Nat} (hk : k ≤ 9) (hx : x < 128) (h9 : k = 9 → x ≤ 1) : x * 2 ^ (7 * k) < 18446744073709551616 := by
  by_cases h : k = 9
  · subst h
    have : x * 2 ^ (7 * 9) ≤ 1 * 2 ^ (7 * 9) := Nat.mul_le_mul_right _ (h9 rfl)
    omega
  · have h1 : 2 ^ (7 * k) ≤ 2 ^ 56 := Nat.pow_le_pow_right (by omega) (by omega)
    have h2 : x * 2 ^ (7 * k) ≤ 127 * 2 ^ 56 := Nat.mul_le_mul (by omega) h1
    omega
theorem sum_lt {bs : List Int} {k : Nat} (hk : k ≤ 9) (h9 : k = 9 → (bs.getD k 0).toNat % 128 ≤ 1) : numA bs (k + 1) < 18446744073709551616 := by
  by_cases h : k = 9
  · subst h
    have h1 := numA_lt bs 9
    have h2 : (bs.getD 9 0).toNat % 128 * 2 ^ (7 * 9) ≤ 1 * 2 ^ (7 * 9) := Nat.mul_le_mul_right _ (h9 rfl)
    show numA bs 9 + (bs.getD 9 0).toNat % 128 * 2 ^ (7 * 9) < _
    omega
  · have h1 := numA_lt bs (k + 1)
    have h2 : 2 ^ (7 * (k + 1)) ≤ 2 ^ 63 := Nat.pow_le_pow_right (by omega) (by omega)
    omega
theorem shl7 {k x : Nat} (hk : k ≤ 9) (hx : x < 128) (h9 : k = 9 → x ≤ 1) : shL .u64 (x : Int) ((7 * k : Nat) : Int) = ((x * 2 ^ (7 * k) : Nat) : Int) := by
  have hlt := part_lt hk hx h9
  unfold shL
  rw [Int.toNat_natCast, Nat.min_eq_left (show 7 * k ≤ IntKind.bits .u64 from (by omega : 7 * k ≤ 64))]
  rw [show (x : Int) * 2 ^ (7 * k) = ((x * 2 ^ (7 * k) : Nat) : Int) by norm_cast]
  exact wrap_u64 (Int.natCast_nonneg _) (by generalize x * 2 ^ (7 * k) = y at hlt ⊢; omega)
theorem num_or {bs : List Int} {k : Nat} (hk : k ≤ 9) (h9 : k = 9 → (bs.getD k 0).toNat % 128 ≤ 1) :
    bOr .u64 ((numA bs k : Nat) : Int) (((bs.getD k 0).toNat % 128 * 2 ^ (7 * k) : Nat) : Int) = ((numA bs (k + 1) : Nat) : Int) := by
  have hlt := sum_lt hk h9
  have e : (bs.getD k 0).toNat % 128 * 2 ^ (7 * k) + numA bs k = numA bs (k + 1) := by show _ = numA bs k + _; omega
  rw [bOr_comm, bOr_nat (k := .u64) (by decide) (7 * k) (numA_lt bs k) (by rw [e]; exact hlt) (by rw [e]; exact wrap_u64 (by omega) (by omega)), e]

theorem ruint_c (w : World) (b n c p : Nat) (a : Option Addr) (bs : List Int) (e : Int) (h : Rd w b a n c bs p e) :
    Calls Try.prog 42 #[.pointer (some ⟨b, 0, none⟩), .int .i64 p] w fun e w' =>
      e = .returned (.tuple #[.int .u64 (number (bs.drop p)).1, .int .i64 ((p + (number (bs.drop p)).2.1 : Nat) : Int), .int .i64 (number (bs.drop p)).2.2]) ∧ w' = w := by
  refine c42 _ _ ?_
  unfold d42
  have hn := h.len
  have hN := h.N
  have hple := h.le
  have hDl : (bs.drop p).length = n - p := by rw [List.length_drop]; omega
  refine ⟨fun m x y w' => ∃ k : Nat, k ≤ 9 ∧ y = k ∧ x = ((numA (bs.drop p) k : Nat) : Int) ∧ m = 10 - k ∧ (∀ i, i < k → numOn (bs.drop p) i) ∧ w' = w, ⟨10, 0, by omega, rfl, rfl, rfl, fun i hi => by omega, rfl⟩, ?_⟩
  rintro m w4 x y ⟨k, hk9, rfl, rfl, rfl, hon, rfl⟩
  refine h.slice ?_
  rw [wrap_i64 (n := (p : Int) + (k : Int)) (by omega) (by omega)]
  by_cases hs : n ≤ p + k
  · rw [bif_pos (by omega), number_short (k := k) (by omega) hon (by omega)]
    exact ⟨rfl, rfl⟩
  rw [bif_neg (by omega)]
  refine h.slice ⟨by omega, by omega, ?_⟩
  rw [show Int.toNat ((p : Int) + (k : Int)) = p + k by omega]
  refine elem8 h.row (by omega) ?_
  have hgd : bs.getD (p + k) 0 = (bs.drop p).getD k 0 := by rw [getD_drop]
  have hc := byte_of (h.B.drop p) k
  rw [hgd]
  by_cases hf : (k = 9 ∧ 1 < (bs.drop p).getD k 0) ∨ (0 < k ∧ (bs.drop p).getD k 0 = 0)
  · refine ⟨fun _ => False, ?_, fun _ h => h.elim⟩
    rw [number_form (k := k) (by omega) hon (by omega) hf]
    rcases hf with ⟨h1, h2⟩ | ⟨h1, h2⟩
    · rw [bif_pos (by omega), bif_pos h2]
      exact ⟨rfl, rfl⟩
    · by_cases h9 : k = 9
      · rw [bif_pos (by omega), bif_neg (by omega), bif_pos (by omega), bif_pos h2]
        exact ⟨rfl, rfl⟩
      · rw [bif_neg (by omega), bif_pos (by omega), bif_pos h2]
        exact ⟨rfl, rfl⟩
  have h9 : k = 9 → ((bs.drop p).getD k 0).toNat % 128 ≤ 1 := fun h9 => by
    have : ¬ 1 < (bs.drop p).getD k 0 := fun h => hf (.inl ⟨h9, h⟩)
    omega
  refine ⟨fun w' => w' = w4, ?_, ?_⟩
  · by_cases h9' : k = 9
    · rw [bif_pos (by omega), bif_neg (fun h => hf (.inl ⟨h9', h⟩)), bif_pos (by omega), bif_neg (fun h => hf (.inr ⟨by omega, h⟩))]
    · rw [bif_neg (by omega)]
      by_cases h0 : 0 < k
      · rw [bif_pos (by omega), bif_neg (fun h => hf (.inr ⟨h0, h⟩))]
      · rw [bif_neg (by omega)]
  rintro w14 rfl
  rw [wrap_i64 (n := 7 * (k : Int)) (by omega) (by omega), and127 hc.1 hc.2, wrap_u64 (n := ((((bs.drop p).getD k 0).toNat % 128 : Nat) : Int)) (by omega) (by omega), show 7 * (k : Int) = ((7 * k : Nat) : Int) by omega, shl7 hk9 (by omega) h9, num_or hk9 h9]
  refine ⟨by omega, ?_⟩
  by_cases hlt : (bs.drop p).getD k 0 < 128
  · rw [bif_pos hlt, number_ok (k := k) (by omega) hon (by omega) hf hlt, wrap_i64 (by omega) (by omega)]
    exact ⟨by rw [show (p : Int) + k + 1 = ((p + (k + 1) : Nat) : Int) by omega], rfl⟩
  · rw [bif_neg hlt, wrap_i64 (by omega) (by omega)]
    have hk8 : k ≠ 9 := fun h => by have := h9 h; have : ¬ 1 < (bs.drop p).getD k 0 := fun h' => hf (.inl ⟨h, h'⟩); omega
    refine ⟨10 - (k + 1), by omega, k + 1, by omega, by omega, rfl, rfl, fun i hi => ?_, rfl⟩
    by_cases hik : i = k
    · subst hik; exact ⟨by omega, hf, hlt⟩
    · exact hon i (by omega)
theorem zcReader : zc Try.prog 82 = [.slice none 0 0, .int .i64 0, .int .i64 0] := by kernel_rfl
theorem read_c (w : World) (bs : List Int) (xa : Option Addr) (n xc : Nat) (hr : RSl w 1 xa n xc (u8 bs)) (hB : Bytes bs) (hN : n ≤ 140737488355328) :
    Calls Try.prog 24 #[.slice xa n xc] w fun e w' => ∃ b a c, e = .returned (.pointer (some ⟨b, 0, none⟩)) ∧ Rd w' b a n c bs 0 0 ∧ Tch [] w w' ∧ w.heap.size ≤ b ∧ (∀ x, a = some x → w.heap.size ≤ x.block) := by
  refine c24 _ _ _ ?_
  unfold d24
  refine (clone_c w bs xa n xc hr hN).mono ?_
  rintro e w2 ⟨a, c, rfl, hown, ht⟩
  refine ⟨_, _, _, rfl, [.slice a n c, .int .i64 0, .int .i64 0], by rw [zcReader]; rfl, ?_⟩
  rintro w5 rfl
  have ht5 := (Tch.refl [] w2).alloc (.cells [Value.slice a n c, .int .i64 0, .int .i64 0].toArray 82)
  have hge := own_ge hown
  refine ⟨_, a, c, rfl, ⟨Blk.fresh _ _ rfl, (own_rsl hown ones_ints).tch ht5 (fun _ _ h => by cases h), .inr fun x hx hm => ?_, by omega, hB, hN⟩, ht.trans ht5 (by simp), ht.size, fun x hx => (hge x hx).1⟩
  have := (hge x hx).2
  simp at hm
  omega
theorem upto_c (w : World) (b n c p : Nat) (a : Option Addr) (bs : List Int) (e : Int) (most : Nat) (h : Rd w b a n c bs p e) :
    Calls Try.prog 25 #[.pointer (some ⟨b, 0, none⟩), .int .u64 most] w fun en w' => en = .returned (.int .u64 (rUpto bs most p e).1) ∧ RdR w w' b a n c bs (rUpto bs most p e).2 := by
  refine c25 _ _ ?_
  unfold d25
  have hr := number_range (h.B.drop p)
  have hn := h.len
  have hple := h.le
  rw [List.length_drop] at hr
  refine h.err ?_
  by_cases he : e = 0
  rotate_left
  · rw [bif_nneg he]
    unfold rUpto
    rw [if_pos he]
    exact ⟨rfl, h.refl⟩
  subst he
  rw [bif_npos rfl]
  refine h.at ?_
  refine (ruint_c w b n c p a bs 0 h).mono ?_
  rintro en w7 ⟨rfl, rfl⟩
  refine ⟨_, _, _, rfl, _, rfl, _, rfl, _, rfl, ?_⟩
  unfold rUpto
  rw [if_neg (show ¬ (0 : Int) ≠ 0 by omega)]
  by_cases h0 : (number (bs.drop p)).2.2 = 0
  rotate_left
  · refine ⟨fun k w' => k = (number (bs.drop p)).2.2 ∧ w' = w7, by rw [bif_neg h0]; exact ⟨rfl, rfl⟩, ?_⟩
    rintro w15 k ⟨rfl, rfl⟩
    rw [bif_nneg h0, if_pos h0]
    exact h.setErr _ fun w' hw => ⟨rfl, hw⟩
  rw [if_neg (by simpa using h0)]
  by_cases hm : most < (number (bs.drop p)).1
  · refine ⟨fun k w' => k = 12 ∧ w' = w7, by rw [bif_pos h0, bif_pos (by omega)]; exact ⟨rfl, rfl⟩, ?_⟩
    rintro w15 k ⟨rfl, rfl⟩
    rw [bif_nneg (by omega), if_pos hm]
    exact h.setErr _ fun w' hw => ⟨rfl, hw⟩
  · refine ⟨fun k w' => k = 0 ∧ w' = w7, by rw [bif_pos h0, bif_neg (by omega)]; exact ⟨h0, rfl⟩, ?_⟩
    rintro w15 k ⟨rfl, rfl⟩
    rw [bif_npos rfl, if_neg hm]
    exact h.setAt rfl (by omega) fun w' hw => ⟨rfl, hw⟩
theorem uintR_c (w : World) (b n c p : Nat) (a : Option Addr) (bs : List Int) (e : Int) (h : Rd w b a n c bs p e) :
    Calls Try.prog 43 #[.pointer (some ⟨b, 0, none⟩)] w fun en w' => en = .returned (.int .u64 (rUpto bs 18446744073709551615 p e).1) ∧ RdR w w' b a n c bs (rUpto bs 18446744073709551615 p e).2 := by
  refine c43 _ ?_
  unfold d43
  refine (upto_c w b n c p a bs e 18446744073709551615 h).mono ?_
  rintro en w' ⟨rfl, hw⟩
  exact ⟨_, rfl, rfl, hw⟩
theorem zag {u : Nat} (h : u < 18446744073709551616) : bXor .i64 (IntKind.wrap .i64 (shR .u64 (u : Int) 1)) (IntKind.wrap .i64 (0 - (IntKind.wrap .i64 (bAnd .u64 (u : Int) 1)))) = unfold' u := by
  have e1 : shR .u64 (u : Int) 1 = ((u / 2 : Nat) : Int) := by
    rw [show (1 : Int) = ((1 : Nat) : Int) from rfl, shR_nat (k := .u64) 1 (by decide)]; omega
  have e2 : bAnd .u64 (u : Int) 1 = ((u % 2 : Nat) : Int) := by
    unfold bAnd
    rw [BitVec.toNat_and, toNat_ofInt (n := IntKind.bits .u64) (by omega) (by show (u : Int) < 18446744073709551616; omega), show (BitVec.ofInt (IntKind.bits .u64) 1).toNat = 2 ^ 1 - 1 from rfl, Nat.and_two_pow_sub_one_eq_mod, Int.toNat_natCast]
    exact wrap_u64 (by omega) (by omega)
  rw [e1, e2, wrap_i64 (n := ((u / 2 : Nat) : Int)) (by omega) (by omega), wrap_i64 (n := ((u % 2 : Nat) : Int)) (by omega) (by omega), wrap_i64 (by omega) (by omega)]
  unfold unfold'
  have h63 : u / 2 < 2 ^ 63 := by omega
  generalize u / 2 = y at *
  split
  · rename_i h2
    rw [h2]
    unfold bXor
    show IntKind.wrap .i64 (((BitVec.ofInt 64 (y : Int) ^^^ BitVec.ofInt 64 (0 - ((0 : Nat) : Int))).toNat : Nat) : Int) = _
    rw [show BitVec.ofInt 64 (0 - ((0 : Nat) : Int)) = 0#64 from rfl, BitVec.xor_zero, toNat_ofInt (n := 64) (by omega) (by show (y : Int) < 18446744073709551616; omega), Int.toNat_natCast]
    exact wrap_i64 (by omega) (by omega)
  · rename_i h2
    rw [show u % 2 = 1 by omega]
    unfold bXor
    show IntKind.wrap .i64 (((BitVec.ofInt 64 (y : Int) ^^^ BitVec.ofInt 64 (0 - ((1 : Nat) : Int))).toNat : Nat) : Int) = _
    rw [show BitVec.ofInt 64 (0 - ((1 : Nat) : Int)) = BitVec.allOnes 64 from rfl, BitVec.xor_allOnes, BitVec.toNat_not, toNat_ofInt (n := 64) (by omega) (by show (y : Int) < 18446744073709551616; omega), Int.toNat_natCast]
    simp only [IntKind.wrap, IntKind.bits, IntKind.signed]
    simp
    omega
theorem intR_c (w : World) (b n c p : Nat) (a : Option Addr) (bs : List Int) (e : Int) (h : Rd w b a n c bs p e) :
    Calls Try.prog 30 #[.pointer (some ⟨b, 0, none⟩)] w fun en w' => en = .returned (.int .i64 (rInt bs p e).1) ∧ RdR w w' b a n c bs (rInt bs p e).2 := by
  refine c30 _ ?_
  unfold d30
  refine (uintR_c w b n c p a bs e h).mono ?_
  rintro en w' ⟨rfl, hw⟩
  have hr : (rUpto bs 18446744073709551615 p e).1 < 18446744073709551616 := by
    have := (rUpto_le (bs := bs) (e := e) (most := 18446744073709551615) h.B (by rw [h.len]; exact h.le)).2.2
    omega
  refine ⟨_, rfl, by omega, ?_, hw⟩
  rw [zag hr]
  rfl
theorem rawR_c (w : World) (b n c p : Nat) (a : Option Addr) (bs : List Int) (e : Int) (k : Int) (h : Rd w b a n c bs p e) :
    Calls Try.prog 27 #[.pointer (some ⟨b, 0, none⟩), .int .i64 k] w fun en w' => ∃ xa xc, en = .returned (.slice xa (rRaw bs k p e).1.length xc) ∧ RdR w w' b a n c bs (rRaw bs k p e).2 ∧
      w'.ownsRow w.heap.size 5 1 (.slice xa (rRaw bs k p e).1.length xc) (rRaw bs k p e).1.length (u8 (rRaw bs k p e).1) := by
  refine c27 _ _ ?_
  unfold d27
  have hn := h.len
  have hN := h.N
  have hple := h.le
  unfold rRaw
  refine h.err ?_
  by_cases he : e = 0
  rotate_left
  · rw [bif_nneg he, if_pos he]
    exact ⟨none, 0, rfl, h.refl, own_nil _ _ _ _⟩
  subst he
  rw [bif_npos rfl, if_neg (show ¬ (0 : Int) ≠ 0 by omega)]
  by_cases h0 : k < 0
  · rw [bif_pos h0, if_pos h0]
    exact h.setErr _ fun w' hw => ⟨none, 0, rfl, hw, own_nil _ _ _ _⟩
  rw [bif_neg h0, if_neg h0]
  rintro w6 rfl
  have ht := (Tch.refl [] w).drew
  have hs0 : w.drew.heap.size = w.heap.size := rfl
  replace h := h.quiet ht
  generalize w.drew = w6 at *
  refine h.slice (h.at ?_)
  rw [wrap_i64 (n := (n : Int) - (p : Int)) (by omega) (by omega)]
  by_cases hs : (n : Int) - p < k
  · rw [bif_pos hs, if_pos (by omega)]
    exact h.setErr _ fun w' hw => ⟨none, 0, rfl, RdR.pre ht hw, own_nil _ _ _ _⟩
  rw [bif_neg hs, if_neg (by omega)]
  obtain ⟨q, rfl⟩ := Int.eq_ofNat_of_zero_le (show 0 ≤ k by omega)
  refine h.at ?_
  rw [wrap_i64 (n := (p : Int) + (q : Int)) (by omega) (by omega)]
  refine h.setAt (q := p + q) (by omega) (by omega) fun w16 hw => ?_
  rintro w17 rfl
  replace hw := hw.post (Tch.refl [] w16).drew
  generalize w16.drew = w17 at *
  obtain ⟨hR, hT⟩ := hw
  refine hR.slice (hR.at (hR.at ?_))
  simp only
  rw [show ((p + q : Nat) : Int) - (q : Int) = p by omega, wrap_i64 (n := (p : Int)) (by omega) (by omega), Int.toNat_natCast, Int.toNat_natCast]
  have hcap := hR.row.cap
  refine ⟨by omega, by omega, by omega, by omega, ?_⟩
  have hc := hR.row.cut (l := p) (hh := p + q) (by omega) (by omega)
  rw [show p + q - p = q by omega] at hc ⊢
  have hl : ((bs.drop p).take q).length = q := by rw [List.length_take, List.length_drop]; omega
  refine (clone_c w17 ((bs.drop p).take q) _ q _ hc (by omega)).mono ?_
  rintro en w25 ⟨xa, xc, rfl, hown, ht25⟩
  refine ⟨_, _, _, rfl, ?_⟩
  rw [Int.toNat_natCast, hl]
  refine ⟨xa, xc, rfl, RdR.pre ht (RdR.post ⟨hR, hT⟩ ht25), own_base hown ?_⟩
  have := hT.size
  omega
theorem byteR_c (w : World) (b n c p : Nat) (a : Option Addr) (bs : List Int) (e : Int) (h : Rd w b a n c bs p e) :
    Calls Try.prog 26 #[.pointer (some ⟨b, 0, none⟩)] w fun en w' => en = .returned (.int .u8 (rByte bs p e).1) ∧ RdR w w' b a n c bs (rByte bs p e).2 := by
  refine c26 _ ?_
  unfold d26
  refine (rawR_c w b n c p a bs e 1 h).mono ?_
  rintro en w' ⟨xa, xc, rfl, hw, hown⟩
  refine ⟨_, _, _, rfl, ?_⟩
  unfold rByte
  by_cases hl : (rRaw bs 1 p e).1.length = 0
  · rw [bif_pos (by omega)]
    rw [List.length_eq_zero_iff.1 hl]
    exact ⟨rfl, hw⟩
  · rw [bif_neg (by omega)]
    refine ⟨by omega, by omega, ?_⟩
    exact elem8 (i := 0) (own_rsl hown ones_ints) (by omega) ⟨rfl, hw⟩
theorem failR_c (w : World) (b n c p : Nat) (a : Option Addr) (bs : List Int) (e k : Int) (h : Rd w b a n c bs p e) :
    Calls Try.prog 28 #[.pointer (some ⟨b, 0, none⟩), .int .i64 k] w fun en w' => en = .returned (.tuple #[]) ∧ RdR w w' b a n c bs (p, rFail k e) := by
  refine c28 _ _ ?_
  unfold d28 rFail
  refine h.err ?_
  by_cases he : e = 0
  · rw [bif_pos he, if_pos he]
    exact h.setErr _ fun w' hw => ⟨rfl, hw⟩
  · rw [bif_neg he, if_neg he]
    exact ⟨rfl, h.refl⟩
theorem endR_c (w : World) (b n c p : Nat) (a : Option Addr) (bs : List Int) (e : Int) (h : Rd w b a n c bs p e) :
    Calls Try.prog 31 #[.pointer (some ⟨b, 0, none⟩)] w fun en w' => en = .returned (.int .i64 (rEnd bs p e)) ∧ Tch [] w w' := by
  refine c31 _ ?_
  unfold d31 rEnd
  have hn := h.len
  rintro w1 rfl
  have ht := (Tch.refl [] w).drew
  replace h := h.quiet ht
  refine h.err ?_
  by_cases he : e = 0
  · rw [bif_pos he]
    refine h.at (h.slice ?_)
    by_cases hp : p < n
    · rw [bif_pos (by omega), if_pos ⟨he, by omega⟩]
      exact ⟨rfl, ht⟩
    · rw [bif_neg (by omega), if_neg (by omega)]
      exact h.err ⟨rfl, ht⟩
  · rw [bif_neg he, if_neg (fun h => he h.1)]
    exact h.err ⟨rfl, ht⟩
end Go.Proofs.Ytjkbjppopdfggaa.Lib
