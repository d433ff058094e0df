/-
  KEYS: their ten bytes; contracts of Check, form, Bytes, FromBytes, Compare, Rises and of the reference's.
  WORDS FOR CONTRACTS: rows of structs; memory that reads as nested rows of numbers, booleans and strings ('RepR').
  KEYS IN ORDER: contracts of Compare, Rises, and of the reference's.
  DIFFERENCES OF TWO RISING LISTS OF ROWS: the program's walk and the reference's (plain functions, no code in sight).
  NODES: contracts of the reference's Text and Of, and of the program's Of; the law ProofNodes answers true.
  NODES: contracts of the reference's Of and of the program's Of; the law ProofNodes answers true.
  THE CODE of some functions of the given program, resolved, and proved to ask what the readable texts (d..) say; contracts c.. follow. Printed by a small program of mine.
  Own work. No macro, syntax, notation, axiom.
-/
import Derived.Test.YtjkbjppopdfggaaDoorTruPk7
import Derived.Test.YtjkbjppopdfggaaDoorTruPk6
import Derived.Test.YtjkbjppopdfggaaDoorTruPk3
import Derived.Test.YtjkbjppopdfggaaDoorProg
namespace Go.Proofs.YtjkbjppopdfggaaDoor.Lib
open Go Den Fn
open Go.RowKit (Below)
set_option maxRecDepth 8000
set_option maxHeartbeats 1000000
def KeyOk (t : Int) : Prop := 0 ≤ t ∧ t ≤ 65535
instance (t : Int) : Decidable (KeyOk t) := by unfold KeyOk; infer_instance
abbrev keyC (t r : Int) : List Value := [.int .i64 t, .int .i64 r]
def rowU (r : Int) : Int := bXor .u64 (IntKind.wrap .u64 r) 9223372036854775808
/-- The eight bytes of a number, the high ones first. -/
def be8 (u : Int) : List Int := (List.range 8).map fun i : Nat => IntKind.wrap .u8 (shR .u64 u (56 - 8 * (i : Int)))
def keyB (t r : Int) : List Int := [IntKind.wrap .u8 (shR .i64 t 8), IntKind.wrap .u8 t] ++ be8 (rowU r)
theorem be8_length (u : Int) : (be8 u).length = 8 := by simp [be8]
theorem keyB_length (t r : Int) : (keyB t r).length = 10 := by simp [keyB, be8_length]
theorem be8_bytes (u : Int) : Bytes (be8 u) := by
  intro x hx
  simp only [be8, List.mem_map] at hx
  obtain ⟨i, _, rfl⟩ := hx
  exact wrap_u8_byte _
theorem keyB_bytes (t r : Int) : Bytes (keyB t r) := by
  refine Bytes.append (fun x hx => ?_) (be8_bytes _)
  simp at hx
  rcases hx with rfl | rfl <;> exact wrap_u8_byte _
theorem be8_take {u : Int} {i : Nat} (h : i < 8) : (be8 u).take (i + 1) = (be8 u).take i ++ [IntKind.wrap .u8 (shR .u64 u (56 - 8 * (i : Int)))] := by
  rw [List.take_succ_eq_append_getElem (by rw [be8_length]; exact h)]
  simp [be8]
theorem rowU_range (r : Int) : 0 ≤ rowU r ∧ rowU r < 18446744073709551616 := by
  unfold rowU bXor
  rw [wrap_u64_eq]
  omega

theorem zc140 : zc Tryd.prog 140 = u8 (List.replicate 10 0) := by kernel_rfl
theorem check_c (t r : Int) (w : World) : Calls Tryd.prog 50 #[.agg (keyC t r).toArray] w fun e w' => e = .returned (.int .i64 (if KeyOk t then 0 else 20)) ∧ Tch [] w w' := by
  refine c50 _ ?_
  unfold d50
  rintro w1 rfl
  have hX := Blk.fresh w (cs := keyC t r) 29 rfl
  have ht := (Tch.refl [] w).alloc (.cells (keyC t r).toArray 29)
  rw [add_mk]
  refine ⟨t, hX.cell 0, ?_⟩
  by_cases h1 : t < 0
  · rw [bif_pos h1, if_neg (by unfold KeyOk; omega)]
    exact ⟨rfl, ht⟩
  rw [bif_neg h1]
  refine ⟨t, hX.cell 0, ?_⟩
  by_cases h2 : 65535 < t
  · rw [bif_pos h2, if_neg (by unfold KeyOk; omega)]
    exact ⟨rfl, ht⟩
  rw [bif_neg h2, if_pos (by unfold KeyOk; omega)]
  exact ⟨rfl, ht⟩
theorem refCheck_c (t r : Int) (w : World) : Calls Tryd.prog 57 #[.agg (keyC t r).toArray] w fun e w' => e = .returned (.int .i64 (if KeyOk t then 0 else 20)) ∧ Tch [] w w' := by
  refine c57 _ ?_
  unfold d57
  rintro w1 rfl
  have hX := Blk.fresh w (cs := keyC t r) 29 rfl
  have ht := (Tch.refl [] w).alloc (.cells (keyC t r).toArray 29)
  rw [add_mk]
  refine ⟨t, hX.cell 0, ?_⟩
  by_cases h1 : t < 0
  · rw [bif_pos h1, if_neg (by unfold KeyOk; omega)]
    exact ⟨rfl, ht⟩
  rw [bif_neg h1]
  refine ⟨t, hX.cell 0, ?_⟩
  by_cases h2 : 65535 < t
  · rw [bif_pos h2, if_neg (by unfold KeyOk; omega)]
    exact ⟨rfl, ht⟩
  rw [bif_neg h2, if_pos (by unfold KeyOk; omega)]
  exact ⟨rfl, ht⟩

theorem form_c (t r : Int) (w : World) : Calls Tryd.prog 73 #[.agg (keyC t r).toArray] w fun e w' => e = .returned (.agg (u8 (keyB t r)).toArray) ∧ Tch [] w w' := by
  refine c73 _ ?_
  unfold d73
  rintro w1 rfl
  have hK := Blk.fresh w (cs := keyC t r) 29 rfl
  have ht := (Tch.refl [] w).alloc (.cells (keyC t r).toArray 29)
  have s1 := size_alloc w (.cells (keyC t r).toArray 29)
  generalize w.alloc (.cells (keyC t r).toArray 29) = W1 at *
  rintro w2 rfl
  have hO : Blk _ _ (u8 (List.replicate 10 0)) := Blk.fresh W1 140 zc140
  have s2 := size_alloc W1 (.cells (zc Tryd.prog 140).toArray 140)
  replace hK := hK.alloc (.cells (zc Tryd.prog 140).toArray 140)
  replace ht := ht.alloc (.cells (zc Tryd.prog 140).toArray 140)
  generalize W1.alloc (.cells (zc Tryd.prog 140).toArray 140) = W2 at *
  rintro w3 rfl
  have hB : Blk _ _ (u8 (List.replicate 10 0)) := Blk.fresh W2 140 zc140
  replace hK := hK.alloc (.cells (zc Tryd.prog 140).toArray 140)
  replace hO := hO.alloc (.cells (zc Tryd.prog 140).toArray 140)
  replace ht := ht.alloc (.cells (zc Tryd.prog 140).toArray 140)
  rintro w4 rfl
  replace hK := hK.drew
  replace hO := hO.drew
  replace hB := hB.drew
  replace ht := ht.drew
  generalize (W2.alloc (.cells (zc Tryd.prog 140).toArray 140)).drew = W at *
  generalize hob : W1.heap.size = ob at *
  generalize hbb : W2.heap.size = bb at *
  generalize hkb : w.heap.size = kb at *
  simp only [add_mk, Nat.zero_add, Nat.mul_one]
  refine ⟨t, hK.cell 0, by omega, t, hK.cell 0, by omega, by omega, rfl, by rw [show Int.toNat 0 = 0 from rfl, hB.cell]; rfl, hB.frozen _, ?_⟩
  rintro w7 rfl
  have hB1 := hB.setInt 0 (IntKind.wrap .u8 (shR .i64 t 8))
  have hK1 := hK.set_ne (a := ⟨bb, 0, none⟩) (by show kb ≠ bb; omega) (.int .u8 (IntKind.wrap .u8 (shR .i64 t 8)))
  refine ⟨⟨t, hK1.cell 0, rfl, trivial⟩, by omega, by omega, rfl, by rw [show Int.toNat 1 = 1 from rfl]; erw [hB1.cell]; rfl, hB1.frozen _, ?_⟩
  rintro w9 rfl
  have hB2 := hB1.setInt 1 (IntKind.wrap .u8 t)
  have hK2 := hK1.set_ne (a := ⟨bb, 1, none⟩) (by show kb ≠ bb; omega) (.int .u8 (IntKind.wrap .u8 t))
  have hO2 := (hO.set_ne (a := ⟨bb, 0, none⟩) (by show ob ≠ bb; omega) (.int .u8 (IntKind.wrap .u8 (shR .i64 t 8)))).set_ne (a := ⟨bb, 1, none⟩) (by show ob ≠ bb; omega) (.int .u8 (IntKind.wrap .u8 t))
  refine ⟨r, hK2.cell 1, ?_⟩
  refine ⟨fun m x w' => ∃ (i : Nat) (l : List Int), i ≤ 8 ∧ x = i ∧ m = 8 - i ∧ Blk w' bb (u8 l) ∧ l.length = 10 ∧ l.take (2 + i) = (keyB t r).take (2 + i) ∧ Blk w' ob (u8 (List.replicate 10 0)) ∧ Tch [] w w', ⟨8, 0, _, by omega, rfl, rfl, hB2, rfl, rfl, hO2, (ht.setCell (.inr (by show _ ≤ bb; omega)) _).setCell (.inr (by show _ ≤ bb; omega)) _⟩, ?_⟩
  clear hB hB1 hB2 hK hK1 hK2 hO hO2 ht
  rintro m w13 x ⟨i, l, hi, rfl, rfl, hB, hll, htk, hO, ht⟩
  by_cases hlt : i < 8
  · rw [bif_pos (by omega), wrap_i64 (n := 8 * (i : Int)) (by omega) (by omega), wrap_i64 (n := 56 - 8 * (i : Int)) (by omega) (by omega), wrap_i64 (n := 2 + (i : Int)) (by omega) (by omega), show Int.toNat (2 + (i : Int)) = 2 + i by omega]
    refine ⟨by omega, by omega, by omega, rfl, by rw [hB.int (by omega)]; rfl, hB.frozen _, ?_⟩
    rintro w15 rfl
    rw [wrap_i64 (by omega) (by omega)]
    refine ⟨8 - (i + 1), by omega, i + 1, _, by omega, rfl, rfl, hB.setInt _ _, by simpa using hll, ?_, hO.set_ne (by show ob ≠ bb; omega) _, ht.setCell (.inr (by show _ ≤ bb; omega)) _⟩
    rw [← Nat.add_assoc, take_set_len (by omega), htk, List.take_succ_eq_append_getElem (by rw [keyB_length]; omega)]
    congr 2
    show IntKind.wrap .u8 (shR .u64 (rowU r) (56 - 8 * (i : Int))) = _
    have : (keyB t r)[2 + i]'(by rw [keyB_length]; omega) = (be8 (rowU r))[i]'(by rw [be8_length]; omega) := by
      simp only [keyB]
      rw [List.getElem_append_right (by simp)]
      simp
    rw [this]
    simp [be8]
  · have : i = 8 := by omega
    subst this
    rw [bif_neg (by omega)]
    have hl : l = keyB t r := by rw [← List.take_of_length_le (l := l) (i := 2 + 8) (by omega), htk, List.take_of_length_le (by rw [keyB_length]; omega)]
    subst hl
    refine get_all hB (by rw [List.length_map, hll]) ?_
    refine put_all hO (by simp) (by rw [List.length_map, hll]) ones_ints fun w' h1 h2 _ => ?_
    exact get_all h1 (by rw [List.length_map, hll]) ⟨rfl, ht.trans h2 (by simp; omega)⟩

theorem shR_le {u : Int} (i : Nat) (hi : i < 8) : shR .u64 u (56 - 8 * ((7 - i : Nat) : Int)) = u / 256 ^ i := by
  unfold shR
  have e : (56 - 8 * ((7 - i : Nat) : Int)).toNat = 8 * i := by omega
  rw [e, show min (8 * i) (IntKind.bits .u64) = 8 * i from Nat.min_eq_left (by show 8 * i ≤ 64; omega), Int.pow_mul, show (2 : Int) ^ 8 = 256 from rfl, Int.fdiv_eq_ediv_of_nonneg _ (Int.pow_nonneg (by omega))]
theorem be8_getD {u : Int} (j : Nat) (hj : j < 8) : (be8 u).getD (7 - j) 0 = IntKind.wrap .u8 (u / 256 ^ j) := by
  rw [← shR_le j hj]
  have : 7 - j < 8 := by omega
  simp [be8, List.getD_eq_getElem?_getD, this]
theorem keyB_getD {t r : Int} (j : Nat) (hj : j < 8) : (keyB t r).getD (9 - j) 0 = IntKind.wrap .u8 (rowU r / 256 ^ j) := by
  rw [← be8_getD j hj]
  simp only [keyB, List.getD_eq_getElem?_getD]
  rw [List.getElem?_append_right (by simp; omega)]
  simp only [List.length_cons, List.length_nil]
  congr 2
  omega
theorem ten_c (t r : Int) (w : World) (hk : KeyOk t) : Calls Tryd.prog 87 #[.agg (keyC t r).toArray] w fun e w' => e = .returned (.agg (u8 (keyB t r)).toArray) ∧ Tch [] w w' := by
  refine c87 _ ?_
  unfold d87
  rintro w1 rfl
  have hK := Blk.fresh w (cs := keyC t r) 29 rfl
  have ht := (Tch.refl [] w).alloc (.cells (keyC t r).toArray 29)
  have s1 := size_alloc w (.cells (keyC t r).toArray 29)
  generalize w.alloc (.cells (keyC t r).toArray 29) = W1 at *
  rintro w2 rfl
  have hO : Blk _ _ (u8 (List.replicate 10 0)) := Blk.fresh W1 140 zc140
  have s2 := size_alloc W1 (.cells (zc Tryd.prog 140).toArray 140)
  replace hK := hK.alloc (.cells (zc Tryd.prog 140).toArray 140)
  replace ht := ht.alloc (.cells (zc Tryd.prog 140).toArray 140)
  generalize W1.alloc (.cells (zc Tryd.prog 140).toArray 140) = W2 at *
  rintro w3 rfl
  have hB : Blk _ _ (u8 (List.replicate 10 0)) := Blk.fresh W2 140 zc140
  replace hK := hK.alloc (.cells (zc Tryd.prog 140).toArray 140)
  replace hO := hO.alloc (.cells (zc Tryd.prog 140).toArray 140)
  replace ht := ht.alloc (.cells (zc Tryd.prog 140).toArray 140)
  generalize W2.alloc (.cells (zc Tryd.prog 140).toArray 140) = W at *
  generalize hob : W1.heap.size = ob at *
  generalize hbb : W2.heap.size = bb at *
  generalize hkb : w.heap.size = kb at *
  unfold KeyOk at hk
  simp only [add_mk, Nat.zero_add, Nat.mul_one]
  refine ⟨t, hK.cell 0, by omega, by omega, by omega, rfl, by rw [show Int.toNat 0 = 0 from rfl, hB.cell]; rfl, hB.frozen _, ?_⟩
  rintro w5 rfl
  have hB1 := hB.setInt 0 (IntKind.wrap .u8 (IntKind.wrap .i64 (Int.tdiv t 256)))
  have hK1 := hK.set_ne (a := ⟨bb, 0, none⟩) (by show kb ≠ bb; omega) (.int .u8 (IntKind.wrap .u8 (IntKind.wrap .i64 (Int.tdiv t 256))))
  refine ⟨t, hK1.cell 0, by omega, by omega, by omega, rfl, by rw [show Int.toNat 1 = 1 from rfl]; erw [hB1.cell]; rfl, hB1.frozen _, ?_⟩
  rintro w7 rfl
  have hB2 := hB1.setInt 1 (IntKind.wrap .u8 (Int.tmod t 256))
  have hK2 := hK1.set_ne (a := ⟨bb, 1, none⟩) (by show kb ≠ bb; omega) (.int .u8 (IntKind.wrap .u8 (Int.tmod t 256)))
  have hO2 := (hO.set_ne (a := ⟨bb, 0, none⟩) (by show ob ≠ bb; omega) (.int .u8 (IntKind.wrap .u8 (IntKind.wrap .i64 (Int.tdiv t 256))))).set_ne (a := ⟨bb, 1, none⟩) (by show ob ≠ bb; omega) (.int .u8 (IntKind.wrap .u8 (Int.tmod t 256)))
  refine ⟨r, hK2.cell 1, ?_⟩
  have hU := rowU_range r
  refine ⟨fun m u x w' => ∃ (i : Nat) (l : List Int), i ≤ 8 ∧ x = i ∧ u = rowU r / 256 ^ i ∧ m = 8 - i ∧ Blk w' bb (u8 l) ∧ l.length = 10 ∧ (∀ p, p < 10 → (p < 2 ∨ 9 - i < p) → l.getD p 0 = (keyB t r).getD p 0) ∧ Blk w' ob (u8 (List.replicate 10 0)) ∧ Tch [] w w', ⟨8, 0, _, by omega, rfl, ?_, rfl, hB2, rfl, ?_, hO2, (ht.setCell (.inr (by show _ ≤ bb; omega)) _).setCell (.inr (by show _ ≤ bb; omega)) _⟩, ?_⟩
  · show rowU r = _
    simp
  · intro p hp hq
    have hq : p = 0 ∨ p = 1 := by omega
    rcases hq with rfl | rfl
    · show IntKind.wrap .u8 (IntKind.wrap .i64 (Int.tdiv t 256)) = IntKind.wrap .u8 (shR .i64 t 8)
      rw [Int.tdiv_eq_ediv_of_nonneg hk.1, wrap_i64 (by omega) (by omega)]
      unfold shR
      rw [show min (Int.toNat 8) (IntKind.bits .i64) = 8 from rfl, Int.fdiv_eq_ediv_of_nonneg _ (by decide)]
      rfl
    · show IntKind.wrap .u8 (Int.tmod t 256) = IntKind.wrap .u8 t
      rw [Int.tmod_eq_emod_of_nonneg hk.1, wrap_u8_eq, wrap_u8_eq]
      omega
  clear hB hB1 hB2 hK hK1 hK2 hO hO2 ht
  rintro m w13 u x ⟨i, l, hi, rfl, rfl, rfl, hB, hll, hp, hO, ht⟩
  have h256 : (0 : Int) < 256 ^ i := Int.pow_pos (by omega)
  have hu0 : 0 ≤ rowU r / 256 ^ i := Int.ediv_nonneg hU.1 (by omega)
  have hu1 : rowU r / 256 ^ i < 18446744073709551616 := Int.lt_of_le_of_lt (Int.ediv_le_self _ hU.1) hU.2
  by_cases hlt : i < 8
  · rw [bif_pos (by omega), wrap_i64 (n := 9 - (i : Int)) (by omega) (by omega), show Int.toNat (9 - (i : Int)) = 9 - i by omega]
    refine ⟨by omega, by omega, by omega, rfl, by rw [hB.int (by omega)]; rfl, hB.frozen _, ?_⟩
    rintro w14 rfl
    rw [wrap_i64 (by omega) (by omega), Int.tdiv_eq_ediv_of_nonneg hu0, wrap_u64 (by omega) (by omega), Int.ediv_ediv_of_nonneg (by omega), ← Int.pow_succ]
    refine ⟨by omega, 8 - (i + 1), by omega, i + 1, _, by omega, rfl, rfl, rfl, hB.setInt _ _, by simpa using hll, ?_, hO.set_ne (by show ob ≠ bb; omega) _, ht.setCell (.inr (by show _ ≤ bb; omega)) _⟩
    intro p h1 h2
    by_cases hpe : p = 9 - i
    · subst hpe
      rw [getD_set_self (by omega), keyB_getD i hlt, Int.tmod_eq_emod_of_nonneg hu0, wrap_u8_eq, wrap_u8_eq]
      omega
    · rw [getD_set_ne (fun e => hpe e.symm)]
      exact hp p h1 (by omega)
  · have : i = 8 := by omega
    subst this
    rw [bif_neg (by omega)]
    have hl : l = keyB t r := ext_getD hll (keyB_length _ _) fun p h => hp p h (by omega)
    subst hl
    refine get_all hB (by rw [List.length_map, hll]) ?_
    refine put_all hO (by simp) (by rw [List.length_map, hll]) ones_ints fun w' h1 h2 _ => ?_
    exact get_all h1 (by rw [List.length_map, hll]) ⟨rfl, ht.trans h2 (by simp; omega)⟩

theorem bytes_c (t r : Int) (w : World) : Calls Tryd.prog 55 #[.agg (keyC t r).toArray] w fun e w' =>
    if KeyOk t then ∃ a c, e = .returned (.tuple #[.slice a 10 c, .int .i64 0]) ∧ w'.ownsRow w.heap.size 5 1 (.slice a 10 c) 10 (u8 (keyB t r)) ∧ Tch [] w w'
    else e = .returned (.tuple #[.slice none 0 0, .int .i64 20]) ∧ Tch [] w w' := by
  refine c55 _ ?_
  unfold d55
  rintro w1 rfl
  have hK := Blk.fresh w (cs := keyC t r) 29 rfl
  have ht := (Tch.refl [] w).alloc (.cells (keyC t r).toArray 29)
  refine get_all hK rfl ?_
  refine (check_c t r _).mono ?_
  rintro e w4 ⟨rfl, ht4⟩
  refine ⟨_, rfl, ?_⟩
  replace hK := hK.tch ht4 (by simp)
  replace ht := ht.trans ht4 (by simp)
  by_cases hk : KeyOk t
  · rw [if_pos hk, bif_npos rfl]
    simp only [if_pos hk]
    refine get_all hK rfl ?_
    refine (form_c t r w4).mono ?_
    rintro e w8 ⟨rfl, ht8⟩
    replace ht := ht.trans ht8 (by simp)
    refine ⟨_, rfl, ?_⟩
    refine var_init (by rw [zc140]; simp) (by rw [List.length_map, keyB_length]) ones_ints fun w10 w11 h1 h2 h3 => ?_
    have hs8 := ht.size
    refine app_row bT (own_nil w11 w.heap.size 5 1) (ys := u8 (keyB t r)) (m := 10) (mc := 10) ?_ (by omega) (by omega) (by omega) fun a' c' w' h4 h5 => ?_
    · exact h1.rsl (by rw [List.length_map, keyB_length]) ones_ints
    · exact ⟨a', c', rfl, h4, (ht.trans h2 (by simp)).up h5 (Nat.le_refl _)⟩
  · rw [if_neg hk, bif_nneg (by omega)]
    simp only [if_neg hk]
    exact ⟨trivial, ht⟩
theorem refBytes_c (t r : Int) (w : World) : Calls Tryd.prog 72 #[.agg (keyC t r).toArray] w fun e w' =>
    if KeyOk t then ∃ a c, e = .returned (.tuple #[.slice a 10 c, .int .i64 0]) ∧ w'.ownsRow w.heap.size 5 1 (.slice a 10 c) 10 (u8 (keyB t r)) ∧ Tch [] w w'
    else e = .returned (.tuple #[.slice none 0 0, .int .i64 20]) ∧ Tch [] w w' := by
  refine c72 _ ?_
  unfold d72
  rintro w1 rfl
  have hK := Blk.fresh w (cs := keyC t r) 29 rfl
  have ht := (Tch.refl [] w).alloc (.cells (keyC t r).toArray 29)
  refine get_all hK rfl ?_
  refine (refCheck_c t r _).mono ?_
  rintro e w4 ⟨rfl, ht4⟩
  refine ⟨_, rfl, ?_⟩
  replace hK := hK.tch ht4 (by simp)
  replace ht := ht.trans ht4 (by simp)
  by_cases hk : KeyOk t
  · rw [if_pos hk, bif_npos rfl]
    simp only [if_pos hk]
    refine get_all hK rfl ?_
    refine (ten_c t r w4 hk).mono ?_
    rintro e w8 ⟨rfl, ht8⟩
    replace ht := ht.trans ht8 (by simp)
    refine ⟨_, rfl, ?_⟩
    refine var_init (by rw [zc140]; simp) (by rw [List.length_map, keyB_length]) ones_ints fun w10 w11 h1 h2 h3 => ?_
    have hs8 := ht.size
    replace ht := ht.trans h2 (by simp)
    refine ⟨fun m a' n' c' x w' => ∃ i : Nat, i ≤ 10 ∧ x = i ∧ i = n' ∧ m = 10 - i ∧ w'.ownsRow w11.heap.size 5 1 (.slice a' n' c') n' (u8 ((keyB t r).take i)) ∧ Below w11.heap.size w11 w', ⟨10, 0, by omega, rfl, rfl, rfl, own_nil _ _ _ _, Below.refl _ _⟩, ?_⟩
    rintro m w14 a' n' c' x ⟨i, hi, rfl, rfl, rfl, hown, hb⟩
    by_cases hlt : i < 10
    · rw [bif_pos (by omega), add_mk, Int.toNat_natCast, Nat.mul_one, Nat.zero_add]
      refine ⟨by omega, by omega, _, (h1.below hb h1.lt).int (by rw [keyB_length]; exact hlt), ?_⟩
      refine app_elem bT hown (by rw [zc8]; rfl) (ys := u8 [(keyB t r).getD i 0]) rfl rfl ones_ints hb.size (by omega) (by omega) fun a2 c2 w2 g1 g2 => ?_
      rw [wrap_i64 (by omega) (by omega)]
      refine ⟨10 - (i + 1), by omega, i + 1, by omega, rfl, rfl, rfl, ?_, hb.trans g2⟩
      rw [List.take_succ_eq_append_getElem (by rw [keyB_length]; exact hlt)]
      rw [← List.map_append] at g1
      simpa [List.getD_eq_getElem?_getD, show i < (keyB t r).length by rw [keyB_length]; exact hlt] using g1
    · have : i = 10 := by omega
      subst this
      rw [bif_neg (by omega)]
      rw [List.take_of_length_le (by rw [keyB_length]; omega)] at hown
      exact ⟨a', c', rfl, own_base hown (by omega), ht.up hb (by omega)⟩
  · rw [if_neg hk, bif_nneg (by omega)]
    simp only [if_neg hk]
    exact ⟨trivial, ht⟩

/-! ### A key out of ten bytes -/
theorem xor63 {x : Int} (h0 : 0 ≤ x) (h1 : x < 18446744073709551616) : bXor .u64 x 9223372036854775808 = if x < 9223372036854775808 then x + 9223372036854775808 else x - 9223372036854775808 := by
  obtain ⟨n, rfl⟩ := Int.eq_ofNat_of_zero_le h0
  have hn : n < 18446744073709551616 := by omega
  unfold bXor
  rw [BitVec.toNat_xor, toNat_ofInt (n := IntKind.bits .u64) (by omega) (by show (n : Int) < 18446744073709551616; omega), show (BitVec.ofInt (IntKind.bits .u64) 9223372036854775808).toNat = 2 ^ 63 from rfl, Int.toNat_natCast]
  have e1 : (n ^^^ 2 ^ 63) / 2 ^ 63 = n / 2 ^ 63 ^^^ 1 := by rw [Nat.xor_div_two_pow]
  have e2 : (n ^^^ 2 ^ 63) % 2 ^ 63 = n % 2 ^ 63 := by rw [Nat.xor_mod_two_pow, Nat.mod_self, Nat.xor_zero]
  have e3 : n ^^^ 2 ^ 63 = if n < 9223372036854775808 then n + 9223372036854775808 else n - 9223372036854775808 := by
    have h2 : n / 2 ^ 63 = if n < 9223372036854775808 then 0 else 1 := by split <;> omega
    rw [h2] at e1
    generalize n ^^^ 2 ^ 63 = y at *
    split at e1
    · rw [if_pos (by assumption)]; have : (0 ^^^ 1 : Nat) = 1 := rfl; omega
    · rw [if_neg (by assumption)]; have : (1 ^^^ 1 : Nat) = 0 := rfl; omega
  rw [e3]
  split
  · rw [if_pos (by omega), wrap_u64 (by omega) (by omega)]; omega
  · rw [if_neg (by omega), wrap_u64 (by omega) (by omega)]; omega
/-- A number out of bytes, the high ones first. -/
def beU (l : List Int) : Int := l.foldl (fun u x => u * 256 + x) 0
theorem be8_eq {u : Int} (h0 : 0 ≤ u) : be8 u = [u / 72057594037927936 % 256, u / 281474976710656 % 256, u / 1099511627776 % 256, u / 4294967296 % 256, u / 16777216 % 256, u / 65536 % 256, u / 256 % 256, u % 256] := by
  have hs : ∀ k : Nat, k ≤ 64 → IntKind.wrap .u8 (shR .u64 u ((k : Nat) : Int)) = u / 2 ^ k % 256 := fun k hk => by rw [wrap_u8_eq, shR_nat (k := .u64) k hk]
  have h1 := hs 56 (by omega); have h2 := hs 48 (by omega); have h3 := hs 40 (by omega); have h4 := hs 32 (by omega); have h5 := hs 24 (by omega); have h6 := hs 16 (by omega); have h7 := hs 8 (by omega); have h8 := hs 0 (by omega)
  have e : be8 u = [IntKind.wrap .u8 (shR .u64 u ((56 : Nat) : Int)), IntKind.wrap .u8 (shR .u64 u ((48 : Nat) : Int)), IntKind.wrap .u8 (shR .u64 u ((40 : Nat) : Int)), IntKind.wrap .u8 (shR .u64 u ((32 : Nat) : Int)), IntKind.wrap .u8 (shR .u64 u ((24 : Nat) : Int)), IntKind.wrap .u8 (shR .u64 u ((16 : Nat) : Int)), IntKind.wrap .u8 (shR .u64 u ((8 : Nat) : Int)), IntKind.wrap .u8 (shR .u64 u ((0 : Nat) : Int))] := rfl
  rw [e, h1, h2, h3, h4, h5, h6, h7, h8]
  simp
theorem beU_be8 {u : Int} (h0 : 0 ≤ u) (h1 : u < 18446744073709551616) : beU (be8 u) = u := by
  rw [be8_eq h0]
  simp only [beU, List.foldl_cons, List.foldl_nil]
  omega
theorem hi_byte {t : Int} (h : KeyOk t) : IntKind.wrap .u8 (shR .i64 t 8) = t / 256 := by
  unfold KeyOk at h
  rw [show (8 : Int) = ((8 : Nat) : Int) from rfl, shR_nat (k := .i64) 8 (by decide), wrap_u8 (by omega) (by omega)]
  omega
theorem zcKey : zc Tryd.prog 29 = keyC 0 0 := by kernel_rfl
end Go.Proofs.YtjkbjppopdfggaaDoor.Lib
namespace Go.Proofs.YtjkbjppopdfggaaDoor.Den
open Go
open Go.RowKit (Below)
/-! ### Rows of structs -/
def rows {α : Type} (f : α → List Value) (l : List α) : List Value := (l.map f).flatten
variable {α : Type} {f : α → List Value} {sz : Nat}
theorem rows_cons (x : α) (l : List α) : rows f (x :: l) = f x ++ rows f l := by simp [rows]
theorem rows_append (a b : List α) : rows f (a ++ b) = rows f a ++ rows f b := by simp [rows]
theorem rows_one (x : α) : rows f [x] = f x := by simp [rows]
theorem rows_len : ∀ {l : List α}, (∀ x ∈ l, (f x).length = sz) → (rows f l).length = l.length * sz
  | [], _ => by simp [rows]
  | x :: l, h => by
    rw [rows_cons, List.length_append, h x (by simp), rows_len fun y hy => h y (by simp [hy]), List.length_cons, Nat.succ_mul]
    omega
theorem rows_drop : ∀ {l : List α} (_ : ∀ x ∈ l, (f x).length = sz) (k : Nat), (rows f l).drop (k * sz) = rows f (l.drop k)
  | [], _, k => by simp [rows]
  | x :: l, h, 0 => by simp
  | x :: l, h, k + 1 => by
    rw [List.drop_succ_cons, ← rows_drop (fun y hy => h y (by simp [hy])) k, rows_cons, Nat.succ_mul, Nat.add_comm, ← List.drop_drop]
    congr 1
    have := h x (by simp)
    rw [← this, List.drop_left]
theorem rows_get {l : List α} (h : ∀ x ∈ l, (f x).length = sz) {i : Nat} {x : α} (hx : l[i]? = some x) : ((rows f l).drop (i * sz)).take sz = f x := by
  rw [rows_drop h]
  obtain ⟨hi, hxi⟩ := List.getElem?_eq_some_iff.1 hx
  rw [List.drop_eq_getElem_cons hi, hxi, rows_cons, ← h x (List.mem_of_getElem? hx), List.take_left]
theorem RSl.count {w : World} {a : Option Addr} {n c : Nat} {l : List α} (hr : RSl w sz a n c (rows f l)) (hf : ∀ x ∈ l, (f x).length = sz) (h0 : 0 < sz) : l.length = n := by
  have := hr.len
  rw [rows_len hf] at this
  exact Nat.eq_of_mul_eq_mul_right h0 this
theorem RSl.elem' {w : World} {a : Option Addr} {n c : Nat} {l : List α} (hr : RSl w sz a n c (rows f l)) (hf : ∀ x ∈ l, (f x).length = sz) (h0 : 0 < sz) {i : Nat} {x : α} (hi : l[i]? = some x) :
    ∃ b o, a = some ⟨b, o, none⟩ ∧ Cells w ⟨b, o + i * sz, none⟩ (f x) := by
  have hin : i < n := by rw [← hr.count hf h0]; exact (List.getElem?_eq_some_iff.1 hi).1
  obtain ⟨b, o, h1, h2⟩ := hr.get hin h0
  rw [rows_get hf hi] at h2
  exact ⟨b, o, h1, h2⟩
/-- An element is read whole. -/
theorem RSl.elem {w : World} {a : Option Addr} {n c : Nat} {l : List α} (hr : RSl w sz a n c (rows f l)) (hf : ∀ x ∈ l, (f x).length = sz) (h0 : 0 < sz) {i : Nat} {x : α} (hi : l[i]? = some x) {K : List Value → Prop} (hK : K (f x)) :
    optK a fun y => ∃ cs : List Value, List.length cs = sz ∧ Cells w (Addr.add y (i * sz)) cs ∧ K cs := by
  obtain ⟨b, o, rfl, h⟩ := hr.elem' hf h0 hi
  refine ⟨f x, hf x (List.mem_of_getElem? hi), ?_, hK⟩
  rw [add_mk]
  exact h
theorem cells_get {w : World} {b o : Nat} {cs : List Value} (h : Cells w ⟨b, o, none⟩ cs) {i : Nat} {v : Value} (hv : cs[i]? = some v) : w.cell? ⟨b, o + i, none⟩ = some v := by
  have := h i v hv
  rwa [add_mk] at this
theorem cells_part {w : World} {b o : Nat} {cs : List Value} (h : Cells w ⟨b, o, none⟩ cs) (k n : Nat) : Cells w ⟨b, o + k, none⟩ ((cs.drop k).take n) := fun i v hv => by
  rw [List.getElem?_take] at hv
  split at hv
  · rw [List.getElem?_drop] at hv
    have := h _ _ hv
    rw [add_mk] at this ⊢
    rw [Nat.add_assoc]; exact this
  · cases hv

/-! ### Nested rows -/
inductive CK where
  | int (k : IntKind)
  | bool
  | str
  | sl (e : List CK)
def RepL (F : CK → Value → Prop) : List CK → List Value → Prop
  | [], [] => True
  | k :: ks, v :: vs => F k v ∧ RepL F ks vs
  | _, _ => False
/-- A cell that reads so, to a depth. -/
def RepV (w : World) : Nat → CK → Value → Prop
  | _, .int k, v => fit (.int k) v
  | _, .bool, v => fit .bool v
  | _, .str, v => fit .str v
  | 0, .sl _, _ => False
  | d + 1, .sl e, v => ∃ (a : Option Addr) (n c : Nat) (rs : List (List Value)), v = .slice a n c ∧ rs.length = n ∧ c ≤ maxLen ∧ RSl w e.length a n c rs.flatten ∧ (∀ r ∈ rs, RepL (RepV w d) e r)
abbrev RepR (w : World) (d : Nat) (ks : List CK) (vs : List Value) : Prop := RepL (RepV w d) ks vs
theorem RepL.length {F : CK → Value → Prop} : ∀ {ks : List CK} {vs : List Value}, RepL F ks vs → vs.length = ks.length
  | [], [], _ => rfl
  | _ :: _, _ :: _, h => by simp [RepL.length h.2]
  | [], _ :: _, h => h.elim
  | _ :: _, [], h => h.elim
theorem RepL.mono {F G : CK → Value → Prop} (hFG : ∀ k v, F k v → G k v) : ∀ {ks : List CK} {vs : List Value}, RepL F ks vs → RepL G ks vs
  | [], [], _ => trivial
  | _ :: _, _ :: _, h => ⟨hFG _ _ h.1, RepL.mono hFG h.2⟩
  | [], _ :: _, h => h.elim
  | _ :: _, [], h => h.elim
theorem RepL.append {F : CK → Value → Prop} : ∀ {ks js : List CK} {vs us : List Value}, RepL F ks vs → RepL F js us → RepL F (ks ++ js) (vs ++ us)
  | [], _, [], _, _, h => h
  | _ :: _, _, _ :: _, _, h, k => ⟨h.1, RepL.append h.2 k⟩
  | [], _, _ :: _, _, h, _ => h.elim
  | _ :: _, _, [], _, h, _ => h.elim
theorem RepV.below {w w' : World} (hb : Below w.heap.size w w') : ∀ (d : Nat) (k : CK) (v : Value), RepV w d k v → RepV w' d k v
  | 0, .int _, _, h => h
  | 0, .bool, _, h => h
  | 0, .str, _, h => h
  | 0, .sl _, _, h => h.elim
  | _ + 1, .int _, _, h => h
  | _ + 1, .bool, _, h => h
  | _ + 1, .str, _, h => h
  | d + 1, .sl e, v, h => by
    obtain ⟨a, n, c, rs, rfl, h1, h2, h3, h4⟩ := h
    exact ⟨a, n, c, rs, rfl, h1, h2, h3.below hb, fun r hr => (h4 r hr).mono (RepV.below hb d)⟩
theorem RepV.one {w : World} : ∀ {d : Nat} {k : CK} {v : Value}, RepV w d k v → one v = true
  | 0, .int _, v, h => by cases v <;> first | rfl | exact h.elim
  | 0, .bool, v, h => by cases v <;> first | rfl | exact h.elim
  | 0, .str, v, h => by cases v <;> first | rfl | exact h.elim
  | 0, .sl _, _, h => h.elim
  | _ + 1, .int _, v, h => by cases v <;> first | rfl | exact h.elim
  | _ + 1, .bool, v, h => by cases v <;> first | rfl | exact h.elim
  | _ + 1, .str, v, h => by cases v <;> first | rfl | exact h.elim
  | d + 1, .sl e, v, h => by
    obtain ⟨a, n, c, rs, rfl, _⟩ := h
    rfl
theorem RepL.ones {w : World} {d : Nat} : ∀ {ks : List CK} {vs : List Value}, RepR w d ks vs → ∀ u ∈ vs, one u = true
  | [], [], _, u, hu => by simp at hu
  | k :: ks, v :: vs, h, u, hu => by
    rcases List.mem_cons.1 hu with rfl | hu
    · exact RepV.one h.1
    · exact RepL.ones h.2 u hu
  | [], _ :: _, h, _, _ => h.elim
  | _ :: _, [], h, _, _ => h.elim
theorem RepV.int {w : World} {d : Nat} {k : IntKind} {v : Value} (h : RepV w d (.int k) v) : ∃ n, v = .int k n ∧ (Lit.int k n).wf = true := by
  have h : fit (.int k) v := by cases d <;> exact h
  cases v <;> first | exact h.elim | skip
  obtain ⟨rfl, hw⟩ := h
  exact ⟨_, rfl, hw⟩
theorem RepV.bool {w : World} {d : Nat} {v : Value} (h : RepV w d .bool v) : ∃ b, v = .bool b := by
  have h : fit .bool v := by cases d <;> exact h
  cases v <;> first | exact h.elim | skip
  exact ⟨_, rfl⟩
theorem RepV.sl {w : World} {d : Nat} {e : List CK} {v : Value} (h : RepV w d (.sl e) v) : ∃ (d' : Nat) (a : Option Addr) (n c : Nat) (rs : List (List Value)), d = d' + 1 ∧ v = .slice a n c ∧ rs.length = n ∧ c ≤ maxLen ∧ RSl w e.length a n c rs.flatten ∧ (∀ r ∈ rs, RepR w d' e r) := by
  cases d with
  | zero => exact h.elim
  | succ d =>
    obtain ⟨a, n, c, rs, h⟩ := h
    exact ⟨d, a, n, c, rs, rfl, h⟩
theorem RepL.cons {F : CK → Value → Prop} {k : CK} {ks : List CK} {vs : List Value} (h : RepL F (k :: ks) vs) : ∃ v r, vs = v :: r ∧ F k v ∧ RepL F ks r := by
  cases vs with
  | nil => exact h.elim
  | cons v r => exact ⟨v, r, rfl, h⟩
theorem RepL.nil {F : CK → Value → Prop} {vs : List Value} (h : RepL F [] vs) : vs = [] := by
  cases vs with
  | nil => rfl
  | cons v r => exact h.elim
theorem RepL.ints {w : World} {d : Nat} {k : IntKind} : ∀ {n : Nat} {ks : List CK} {vs : List Value}, RepR w d (List.replicate n (.int k) ++ ks) vs → ∃ (l : List Int) (us : List Value), vs = l.map (Value.int k) ++ us ∧ l.length = n ∧ (∀ x ∈ l, (Lit.int k x).wf = true) ∧ RepR w d ks us
  | 0, ks, vs, h => ⟨[], vs, rfl, rfl, by simp, h⟩
  | n + 1, ks, vs, h => by
    rw [List.replicate_succ, List.cons_append] at h
    obtain ⟨v, r, rfl, h1, h2⟩ := h.cons
    obtain ⟨x, rfl, hx⟩ := h1.int
    obtain ⟨l, us, rfl, rfl, h3, h4⟩ := RepL.ints h2
    exact ⟨x :: l, us, rfl, rfl, fun y hy => by
      rcases List.mem_cons.1 hy with rfl | hy
      · exact hx
      · exact h3 y hy, h4⟩
theorem RepV.up {w : World} : ∀ {d : Nat} {k : CK} {v : Value}, RepV w d k v → RepV w (d + 1) k v
  | 0, .int _, _, h => h
  | 0, .bool, _, h => h
  | 0, .str, _, h => h
  | 0, .sl _, _, h => h.elim
  | _ + 1, .int _, _, h => h
  | _ + 1, .bool, _, h => h
  | _ + 1, .str, _, h => h
  | d + 1, .sl e, v, h => by
    obtain ⟨a, n, c, rs, rfl, h1, h2, h3, h4⟩ := h
    exact ⟨a, n, c, rs, rfl, h1, h2, h3, fun r hr => (h4 r hr).mono fun _ _ => RepV.up⟩
theorem cells_append {w : World} {b o : Nat} {xs ys : List Value} (h : Cells w ⟨b, o, none⟩ xs) (k : Cells w ⟨b, o + xs.length, none⟩ ys) : Cells w ⟨b, o, none⟩ (xs ++ ys) := fun i v hv => by
  rw [add_mk]
  by_cases hi : i < xs.length
  · rw [List.getElem?_append_left hi] at hv
    exact cells_get h hv
  · rw [List.getElem?_append_right (by omega)] at hv
    have := cells_get k hv
    rwa [show o + xs.length + (i - xs.length) = o + i by omega] at this
theorem cells_rows {w : World} {b : Nat} : ∀ {l : List α} {o : Nat}, (∀ x ∈ l, (f x).length = sz) → (∀ i x, l[i]? = some x → Cells w ⟨b, o + i * sz, none⟩ (f x)) → Cells w ⟨b, o, none⟩ (rows f l)
  | [], o, _, _ => fun i v hv => by simp [rows] at hv
  | x :: l, o, hf, h => by
    rw [rows_cons]
    refine cells_append (by have := h 0 x rfl; simpa using this) ?_
    rw [hf x (by simp)]
    refine cells_rows (fun y hy => hf y (by simp [hy])) fun i y hy => ?_
    have := h (i + 1) y (by simpa using hy)
    rwa [Nat.succ_mul, show o + (i * sz + sz) = o + sz + i * sz by omega] at this
end Go.Proofs.YtjkbjppopdfggaaDoor.Den
namespace Go.Proofs.YtjkbjppopdfggaaDoor.Lib
open Go Den Fn
open Go.RowKit (Below)
open Classical
set_option maxRecDepth 8000
set_option maxHeartbeats 1000000
abbrev kC (k : Int × Int) : List Value := keyC k.1 k.2
def kI (k : Int × Int) : Prop := I64 k.1 ∧ I64 k.2
def cmpK (a b : Int × Int) : Int := if a.1 < b.1 then -1 else if b.1 < a.1 then 1 else if a.2 < b.2 then -1 else if b.2 < a.2 then 1 else 0
def RisesS (l : List (Int × Int)) : Prop := (∀ k ∈ l, KeyOk k.1) ∧ ∀ i a b, l[i]? = some a → l[i + 1]? = some b → cmpK a b < 0
theorem kC_len {l : List (Int × Int)} : ∀ k ∈ l, (kC k).length = 2 := fun _ _ => rfl
theorem key_flat : flatK Tryd.prog 6 29 = some [.int .i64, .int .i64] := by kernel_rfl
theorem key_eqT : eqT Tryd.prog 6 29 = true := by kernel_rfl
theorem key_fits {k : Int × Int} (h : kI k) : Fits [.int .i64, .int .i64] (kC k) := ⟨⟨rfl, i64_wf.2 h.1⟩, ⟨rfl, i64_wf.2 h.2⟩, trivial⟩
theorem kC_inj {a b : Int × Int} : kC a = kC b ↔ a = b := by
  obtain ⟨a1, a2⟩ := a
  obtain ⟨b1, b2⟩ := b
  simp
theorem kT : slT Tryd.prog 67 29 2 16 = true := by kernel_rfl
theorem kC_one {k : Int × Int} : ∀ u ∈ kC k, one u = true := by simp [one]
theorem kCs_one {l : List (Int × Int)} : ∀ u ∈ rows kC l, one u = true := fun u hu => by
  unfold rows at hu
  obtain ⟨r, hr, hu⟩ := List.mem_flatten.1 hu
  obtain ⟨k, _, rfl⟩ := List.mem_map.1 hr
  exact kC_one u hu
theorem cmpi_c (x y : Int) (w : World) : Calls Tryd.prog 80 #[.int .i64 x, .int .i64 y] w fun e w' => e = .returned (.int .i64 (if x < y then -1 else if y < x then 1 else 0)) ∧ w' = w := by
  refine c80 _ _ ?_
  unfold d80
  have nan : ∀ x w, Calls Tryd.prog 90 #[.int .i64 x] w fun e w' => e = .returned (.bool false) ∧ w' = w := fun x w => by
    refine c90 _ ?_
    unfold d90
    simp
  refine (nan x w).mono ?_
  rintro e w3 ⟨rfl, rfl⟩
  refine ⟨_, rfl, ?_⟩
  refine (nan y w3).mono ?_
  rintro e w6 ⟨rfl, rfl⟩
  refine ⟨_, rfl, ?_⟩
  rw [cond_false, cond_false]
  by_cases h1 : x < y
  · rw [bif_pos h1, if_pos h1]; exact ⟨rfl, rfl⟩
  rw [bif_neg h1, if_neg h1]
  by_cases h2 : y < x
  · rw [bif_pos h2, if_pos h2]; exact ⟨rfl, rfl⟩
  · rw [bif_neg h2, if_neg h2]; exact ⟨rfl, rfl⟩
theorem cmpl_c (x y : Int) (w : World) : Calls Tryd.prog 81 #[.int .i64 x, .int .i64 y] w fun e w' => e = .returned (.int .i64 (if x < y then -1 else if y < x then 1 else 0)) ∧ w' = w := by
  refine c81 _ _ ?_
  unfold d81
  have nan : ∀ x w, Calls Tryd.prog 91 #[.int .i64 x] w fun e w' => e = .returned (.bool false) ∧ w' = w := fun x w => by
    refine c91 _ ?_
    unfold d91
    simp
  refine (nan x w).mono ?_
  rintro e w3 ⟨rfl, rfl⟩
  refine ⟨_, rfl, ?_⟩
  refine (nan y w3).mono ?_
  rintro e w6 ⟨rfl, rfl⟩
  refine ⟨_, rfl, ?_⟩
  rw [cond_false, cond_false]
  by_cases h1 : x < y
  · rw [bif_pos h1, if_pos h1]; exact ⟨rfl, rfl⟩
  rw [bif_neg h1, if_neg h1]
  by_cases h2 : y < x
  · rw [bif_pos h2, if_pos h2]; exact ⟨rfl, rfl⟩
  · rw [bif_neg h2, if_neg h2]; exact ⟨rfl, rfl⟩
theorem or_c (x y : Int) (w : World) (b : Nat) (hb : Blk w b [.int .i64 x, .int .i64 y]) : Calls Tryd.prog 79 #[.slice (some ⟨b, 0, none⟩) 2 2] w fun e w' => e = .returned (.int .i64 (if x = 0 then y else x)) ∧ w' = w := by
  refine c79 _ _ _ ?_
  unfold d79
  refine ⟨fun m i w' => ∃ k : Nat, k ≤ 2 ∧ i = k ∧ m = 2 - k ∧ w' = w ∧ (0 < k → x = 0) ∧ (1 < k → y = 0), ⟨2, 0, by omega, rfl, rfl, rfl, by omega, by omega⟩, ?_⟩
  rintro m w3 i ⟨k, hk, rfl, rfl, rfl, h0, h1⟩
  by_cases hlt : k < 2
  · rw [bif_pos (by omega)]
    refine ⟨by omega, by omega, ?_⟩
    show ∃ _, _
    rw [Int.toNat_natCast, add_mk, Nat.mul_one, Nat.zero_add]
    rcases (show k = 0 ∨ k = 1 by omega) with rfl | rfl
    · refine ⟨x, hb.cell 0, ?_⟩
      by_cases hx : x = 0
      · rw [bif_npos hx]
        exact ⟨1, by omega, 1, by omega, by decide, rfl, rfl, fun _ => hx, by omega⟩
      · rw [bif_nneg hx, if_neg hx]
        exact ⟨rfl, rfl⟩
    · refine ⟨y, hb.cell 1, ?_⟩
      rw [if_pos (h0 (by omega))]
      by_cases hy : y = 0
      · rw [bif_npos hy]
        exact ⟨0, by omega, 2, by omega, by decide, rfl, rfl, fun _ => h0 (by omega), fun _ => hy⟩
      · rw [bif_nneg hy]
        exact ⟨rfl, rfl⟩
  · rw [bif_neg (by omega), if_pos (h0 (by omega)), h1 (by omega)]
    exact ⟨rfl, rfl⟩
theorem zcInt : zc Tryd.prog 3 = [.int .i64 0] := by kernel_rfl
theorem compare_c (a b : Int × Int) (w : World) (ha : kI a) (hb : kI b) : Calls Tryd.prog 62 #[.agg (kC a).toArray, .agg (kC b).toArray] w fun e w' => e = .returned (.int .i64 (cmpK a b)) ∧ Tch [] w w' := by
  refine c62 _ _ ?_
  unfold d62
  rintro w2 rfl w3 rfl
  have hS := ((St.refl w []).new (kC a) 29 rfl).new (kC b) 29 rfl
  generalize (w.alloc (.cells (kC a).toArray 29)).alloc (.cells (kC b).toArray 29) = w3 at *
  generalize (w.alloc (.cells (kC a).toArray 29)).heap.size = qb at *
  generalize w.heap.size = pb at *
  refine get_all (hS.blk (b := pb) (cs := kC a) (by simp)) rfl ?_
  refine get_all (hS.blk (b := qb) (cs := kC b) (by simp)) rfl ?_
  refine eq_flat_d key_flat key_eqT (key_fits ha) (key_fits hb) kC_inj ?_
  by_cases he : a = b
  · rw [bif_pos he]
    refine ⟨?_, hS.tch⟩
    subst he
    unfold cmpK
    simp
  rw [bif_neg he]
  rintro w7 rfl
  replace hS := hS.drew
  generalize w3.drew = w7 at *
  refine ⟨a.1, by rw [add_mk]; exact (hS.blk (b := pb) (cs := kC a) (by simp)).cell 0, b.1, by rw [add_mk]; exact (hS.blk (b := qb) (cs := kC b) (by simp)).cell 0, a.2, by rw [add_mk]; exact (hS.blk (b := pb) (cs := kC a) (by simp)).cell 1, b.2, by rw [add_mk]; exact (hS.blk (b := qb) (cs := kC b) (by simp)).cell 1, ?_⟩
  refine (cmpi_c a.1 b.1 w7).mono ?_
  rintro e w13 ⟨rfl, rfl⟩
  refine ⟨_, rfl, ⟨b.2, by rw [add_mk]; exact (hS.blk (b := qb) (cs := kC b) (by simp)).cell 1, rfl, rfl⟩, ⟨a.2, by rw [add_mk]; exact (hS.blk (b := pb) (cs := kC a) (by simp)).cell 1, rfl, rfl⟩, ?_⟩
  refine (cmpl_c a.2 b.2 w13).mono ?_
  rintro e w18 ⟨rfl, rfl⟩
  refine ⟨_, rfl, i64s [if a.1 < b.1 then -1 else if b.1 < a.1 then 1 else 0, if a.2 < b.2 then -1 else if b.2 < a.2 then 1 else 0], by rw [zcInt]; rfl, ?_⟩
  rintro w21 rfl
  refine (or_c _ _ _ _ (Blk.fresh _ _ rfl)).mono ?_
  rintro e w23 ⟨rfl, rfl⟩
  refine ⟨_, rfl, ?_, (hS.alloc _).tch⟩
  have key : (if (if a.1 < b.1 then (-1 : Int) else if b.1 < a.1 then 1 else 0) = 0 then (if a.2 < b.2 then (-1 : Int) else if b.2 < a.2 then 1 else 0) else (if a.1 < b.1 then (-1 : Int) else if b.1 < a.1 then 1 else 0)) = cmpK a b := by
    unfold cmpK
    by_cases h1 : a.1 < b.1
    · simp [h1]
    · by_cases h2 : b.1 < a.1 <;> simp [h1, h2]
  rw [key]
theorem rises_c (w : World) (l : List (Int × Int)) (a : Option Addr) (n c : Nat) (hr : RSl w 2 a n c (rows kC l)) (hI : ∀ k ∈ l, kI k) (hN : n < 9223372036854775807) :
    Calls Tryd.prog 60 #[.slice a n c] w fun e w' => e = .returned (.bool (decide (RisesS l))) ∧ Tch [] w w' := by
  have hn := hr.count kC_len (by omega)
  refine c60 _ _ _ ?_
  unfold d60
  refine ⟨fun m x u => ∃ i : Nat, x = i ∧ i ≤ n ∧ m = n - i ∧ (∀ k ∈ l.take i, KeyOk k.1) ∧ (∀ j a b, j + 1 < i → l[j]? = some a → l[j + 1]? = some b → cmpK a b < 0) ∧ Tch [] w u, ⟨n, 0, rfl, by omega, rfl, by simp, by omega, Tch.refl _ _⟩, ?_⟩
  rintro m w3 x ⟨i, rfl, hi, rfl, hk, hc, ht⟩
  by_cases hlt : i < n
  · rw [bif_pos (by omega)]
    refine ⟨by omega, by omega, ?_⟩
    rw [Int.toNat_natCast]
    have hli : l[i]? = some (l[i]'(by omega)) := List.getElem?_eq_getElem (by omega)
    generalize l[i]'(by omega) = k at hli
    have hkI := hI k (List.mem_of_getElem? hli)
    replace hr := hr.tch ht (fun _ _ h => by cases h)
    refine hr.elem kC_len (by omega) hli ?_
    refine var_init (n := 2) (by rw [zcKey]; rfl) rfl kC_one fun w7 w8 h1 h2 _ => ?_
    generalize w3.heap.size = kb at *
    rintro w9 rfl
    replace h1 := h1.tch ((Tch.refl [] w8).drew) (by simp)
    replace h2 := h2.drew
    generalize w8.drew = w9 at *
    refine get_all h1 rfl ?_
    refine (check_c k.1 k.2 w9).mono ?_
    rintro e w12 ⟨rfl, ht12⟩
    replace h1 := h1.tch ht12 (by simp)
    replace h2 := h2.trans ht12 (by simp)
    refine ⟨_, rfl, ?_⟩
    by_cases hok : KeyOk k.1
    rotate_left
    · rw [if_neg hok, bif_nneg (by omega)]
      exact ⟨by rw [decide_eq_false fun h => hok (h.1 k (List.mem_of_getElem? hli))], ht.trans h2 (by simp)⟩
    rw [if_pos hok, bif_npos rfl]
    have hk' : ∀ k ∈ l.take (i + 1), KeyOk k.1 := fun x hx => by
      rw [List.take_add_one, hli] at hx
      rcases List.mem_append.1 hx with hx | hx
      · exact hk x hx
      · simp at hx; rw [hx]; exact hok
    by_cases h0 : 0 < i
    · rw [bif_pos (by omega), wrap_i64 (n := (i : Int) - 1) (by omega) (by omega)]
      refine ⟨by omega, by omega, ?_⟩
      rw [show Int.toNat ((i : Int) - 1) = i - 1 by omega]
      have hlj : l[i - 1]? = some (l[i - 1]'(by omega)) := List.getElem?_eq_getElem (by omega)
      generalize l[i - 1]'(by omega) = k0 at hlj
      refine (hr.tch h2 (fun _ _ h => by cases h)).elem kC_len (by omega) hlj ?_
      refine get_all h1 rfl ?_
      refine (compare_c k0 k w12 (hI k0 (List.mem_of_getElem? hlj)) hkI).mono ?_
      rintro e w18 ⟨rfl, ht18⟩
      refine ⟨_, rfl, ?_⟩
      have htt := (ht.trans h2 (by simp)).trans ht18 (by simp)
      by_cases hcc : 0 ≤ cmpK k0 k
      · rw [bif_pos hcc]
        refine ⟨?_, htt⟩
        rw [decide_eq_false fun h => ?_]
        have := h.2 (i - 1) k0 k hlj (by rw [show i - 1 + 1 = i by omega]; exact hli)
        omega
      · rw [bif_neg hcc, wrap_i64 (by omega) (by omega)]
        refine ⟨n - (i + 1), by omega, i + 1, by omega, by omega, rfl, hk', fun j a b hj ha hb => ?_, htt⟩
        by_cases hji : j + 1 = i
        · rw [show j = i - 1 by omega, hlj] at ha
          rw [hji, hli] at hb
          cases ha; cases hb
          omega
        · exact hc j a b (by omega) ha hb
    · rw [bif_neg (by omega), wrap_i64 (by omega) (by omega)]
      exact ⟨n - (i + 1), by omega, i + 1, by omega, by omega, rfl, hk', fun j a b hj ha hb => by omega, ht.trans h2 (by simp)⟩
  · rw [bif_neg (by omega)]
    refine ⟨?_, ht⟩
    rw [decide_eq_true]
    rw [List.take_of_length_le (by omega)] at hk
    refine ⟨hk, fun j a b ha hb => hc j a b ?_ ha hb⟩
    have := (List.getElem?_eq_some_iff.1 hb).1
    omega
theorem refCompare_c (a b : Int × Int) (w : World) : Calls Tryd.prog 84 #[.agg (kC a).toArray, .agg (kC b).toArray] w fun e w' => e = .returned (.int .i64 (cmpK a b)) ∧ Tch [] w w' := by
  refine c84 _ _ ?_
  unfold d84
  rintro w2 rfl w3 rfl
  have hS := ((St.refl w []).new (kC a) 29 rfl).new (kC b) 29 rfl
  generalize (w.alloc (.cells (kC a).toArray 29)).alloc (.cells (kC b).toArray 29) = w3 at *
  generalize (w.alloc (.cells (kC a).toArray 29)).heap.size = qb at *
  generalize w.heap.size = pb at *
  have hp := hS.blk (b := pb) (cs := kC a) (by simp)
  have hq := hS.blk (b := qb) (cs := kC b) (by simp)
  unfold cmpK
  refine ⟨a.1, by rw [add_mk]; exact hp.cell 0, b.1, by rw [add_mk]; exact hq.cell 0, ?_⟩
  by_cases h1 : a.1 < b.1
  · rw [bif_pos h1, if_pos h1]; exact ⟨rfl, hS.tch⟩
  rw [bif_neg h1, if_neg h1]
  refine ⟨a.1, by rw [add_mk]; exact hp.cell 0, b.1, by rw [add_mk]; exact hq.cell 0, ?_⟩
  by_cases h2 : b.1 < a.1
  · rw [bif_pos h2, if_pos h2]; exact ⟨rfl, hS.tch⟩
  rw [bif_neg h2, if_neg h2]
  refine ⟨a.2, by rw [add_mk]; exact hp.cell 1, b.2, by rw [add_mk]; exact hq.cell 1, ?_⟩
  by_cases h3 : a.2 < b.2
  · rw [bif_pos h3, if_pos h3]; exact ⟨rfl, hS.tch⟩
  rw [bif_neg h3, if_neg h3]
  refine ⟨a.2, by rw [add_mk]; exact hp.cell 1, b.2, by rw [add_mk]; exact hq.cell 1, ?_⟩
  by_cases h4 : b.2 < a.2
  · rw [bif_pos h4, if_pos h4]; exact ⟨rfl, hS.tch⟩
  · rw [bif_neg h4, if_neg h4]; exact ⟨rfl, hS.tch⟩
theorem refAll_c (w : World) (l : List (Int × Int)) (a : Option Addr) (n c : Nat) (hr : RSl w 2 a n c (rows kC l)) (hN : n < 9223372036854775807) :
    Calls Tryd.prog 82 #[.slice a n c] w fun e w' => e = .returned (.bool (decide (∀ k ∈ l, KeyOk k.1))) ∧ Tch [] w w' := by
  have hn := hr.count kC_len (by omega)
  refine c82 _ _ _ ?_
  unfold d82
  refine ⟨fun m x u => ∃ i : Nat, x = i ∧ i ≤ n ∧ m = n - i ∧ (∀ k ∈ l.take i, KeyOk k.1) ∧ Tch [] w u, ⟨n, 0, rfl, by omega, rfl, by simp, Tch.refl _ _⟩, ?_⟩
  rintro m w3 x ⟨i, rfl, hi, rfl, hk, ht⟩
  by_cases hlt : i < n
  · rw [bif_pos (by omega)]
    refine ⟨by omega, by omega, ?_⟩
    rw [Int.toNat_natCast]
    have hli : l[i]? = some (l[i]'(by omega)) := List.getElem?_eq_getElem (by omega)
    generalize l[i]'(by omega) = k at hli
    refine (hr.tch ht (fun _ _ h => by cases h)).elem kC_len (by omega) hli ?_
    refine (refCheck_c k.1 k.2 w3).mono ?_
    rintro e w8 ⟨rfl, ht8⟩
    refine ⟨_, rfl, ?_⟩
    by_cases hok : KeyOk k.1
    · rw [if_pos hok, bif_npos rfl, wrap_i64 (by omega) (by omega)]
      refine ⟨n - (i + 1), by omega, i + 1, by omega, by omega, rfl, fun x hx => ?_, ht.trans ht8 (by simp)⟩
      rw [List.take_add_one, hli] at hx
      rcases List.mem_append.1 hx with hx | hx
      · exact hk x hx
      · simp at hx; rw [hx]; exact hok
    · rw [if_neg hok, bif_nneg (by omega)]
      exact ⟨by rw [decide_eq_false fun h => hok (h k (List.mem_of_getElem? hli))], ht.trans ht8 (by simp)⟩
  · rw [bif_neg (by omega)]
    rw [List.take_of_length_le (by omega)] at hk
    exact ⟨by rw [decide_eq_true hk], ht⟩
theorem refRises_c (w : World) (l : List (Int × Int)) (a : Option Addr) (n c : Nat) (hr : RSl w 2 a n c (rows kC l)) (hN : n < 9223372036854775807) :
    Calls Tryd.prog 65 #[.slice a n c] w fun e w' => e = .returned (.bool (decide (RisesS l))) ∧ Tch [] w w' := by
  have hn := hr.count kC_len (by omega)
  refine c65 _ _ _ ?_
  unfold d65
  refine (refAll_c w l a n c hr hN).mono ?_
  rintro e w2 ⟨rfl, ht2⟩
  refine ⟨_, rfl, ?_⟩
  refine ⟨fun m ok x u => ∃ i : Nat, x = i ∧ 1 ≤ i ∧ m = n - i ∧ (i ≤ n ∨ i = 1) ∧ ok = decide ((∀ k ∈ l, KeyOk k.1) ∧ ∀ j a b, j + 1 < i → l[j]? = some a → l[j + 1]? = some b → cmpK a b < 0) ∧ Tch [] w u, ⟨n - 1, 1, rfl, by omega, rfl, .inr rfl, ?_, ht2⟩, ?_⟩
  · rw [decide_eq_decide]
    exact ⟨fun h => ⟨h, fun j a b hj => by omega⟩, fun h => h.1⟩
  rintro m w6 ok x ⟨i, rfl, h1, rfl, hi, rfl, ht⟩
  by_cases hlt : i < n
  · rw [bif_pos (by omega)]
    rintro w9 rfl
    replace ht := ht.drew
    generalize w6.drew = w9 at *
    have step : ∀ {q : Prop} [Decidable q], (q ↔ ((∀ k ∈ l, KeyOk k.1) ∧ ∀ j a b, j + 1 < i + 1 → l[j]? = some a → l[j + 1]? = some b → cmpK a b < 0)) → decide q = decide ((∀ k ∈ l, KeyOk k.1) ∧ ∀ j a b, j + 1 < i + 1 → l[j]? = some a → l[j + 1]? = some b → cmpK a b < 0) := fun h => decide_eq_decide.2 h
    by_cases hok : (∀ k ∈ l, KeyOk k.1) ∧ ∀ j a b, j + 1 < i → l[j]? = some a → l[j + 1]? = some b → cmpK a b < 0
    · rw [bif_pos hok, wrap_i64 (n := (i : Int) - 1) (by omega) (by omega)]
      refine ⟨by omega, by omega, ?_⟩
      rw [show Int.toNat ((i : Int) - 1) = i - 1 by omega]
      have hlj : l[i - 1]? = some (l[i - 1]'(by omega)) := List.getElem?_eq_getElem (by omega)
      have hli : l[i]? = some (l[i]'(by omega)) := List.getElem?_eq_getElem (by omega)
      generalize l[i - 1]'(by omega) = k0 at hlj
      generalize l[i]'(by omega) = k at hli
      replace hr := hr.tch ht (fun _ _ h => by cases h)
      refine hr.elem kC_len (by omega) hlj ?_
      refine ⟨by omega, by omega, ?_⟩
      rw [Int.toNat_natCast]
      refine hr.elem kC_len (by omega) hli ?_
      refine (refCompare_c k0 k w9).mono ?_
      rintro e w15 ⟨rfl, ht15⟩
      refine ⟨_, rfl, n - (i + 1), by omega, i + 1, by rw [wrap_i64 (by omega) (by omega)]; omega, by omega, rfl, .inl (by omega), step ⟨fun h => ⟨hok.1, fun j a b hj ha hb => ?_⟩, fun h => ?_⟩, ht.trans ht15 (by simp)⟩
      · by_cases hji : j + 1 = i
        · rw [show j = i - 1 by omega, hlj] at ha
          rw [hji, hli] at hb
          cases ha; cases hb
          exact h
        · exact hok.2 j a b (by omega) ha hb
      · exact h.2 (i - 1) k0 k (by omega) hlj (by rw [show i - 1 + 1 = i by omega]; exact hli)
    · rw [bif_neg hok]
      refine ⟨n - (i + 1), by omega, i + 1, by rw [wrap_i64 (by omega) (by omega)]; omega, by omega, rfl, .inl (by omega), ?_, ht⟩
      rw [decide_eq_false fun h => hok ⟨h.1, fun j a b hj ha hb => h.2 j a b (by omega) ha hb⟩]
  · rw [bif_neg (by omega)]
    refine ⟨?_, ht⟩
    congr 2
    rw [decide_eq_decide]
    refine ⟨fun h => ⟨h.1, fun j a b ha hb => h.2 j a b ?_ ha hb⟩, fun h => ⟨h.1, fun j a b _ ha hb => h.2 j a b ha hb⟩⟩
    have := (List.getElem?_eq_some_iff.1 hb).1
    omega
end Go.Proofs.YtjkbjppopdfggaaDoor.Lib
namespace Go.Proofs.YtjkbjppopdfggaaDoor.Tre
open Go Den Lib
structure Rw where
  t : Int
  r : Int
  v : Int
def Rw.k (x : Rw) : Int × Int := (x.t, x.r)
/-- A change: its key, what was, what is. -/
structure Chg where
  k : Int × Int
  was : Bool × Int
  is : Bool × Int
abbrev no : Bool × Int := (false, 0)
def emit (c : Chg) (l : List Chg) : List Chg := if c.was = c.is then l else c :: l
/-- The program's walk. -/
def diffS : Nat → List Rw → List Rw → List Chg
  | 0, _, _ => []
  | _ + 1, [], [] => []
  | n + 1, x :: xs, [] => emit ⟨x.k, (true, x.v), no⟩ (diffS n xs [])
  | n + 1, [], y :: ys => emit ⟨y.k, no, (true, y.v)⟩ (diffS n [] ys)
  | n + 1, x :: xs, y :: ys =>
    if cmpK x.k y.k < 0 then emit ⟨x.k, (true, x.v), no⟩ (diffS n xs (y :: ys))
    else if 0 < cmpK x.k y.k then emit ⟨y.k, no, (true, y.v)⟩ (diffS n (x :: xs) ys)
    else emit ⟨y.k, (true, x.v), (true, y.v)⟩ (diffS n xs ys)
/-- What stands at a key. -/
def atS : List Rw → Int × Int → Bool × Int
  | [], _ => no
  | x :: l, k => if x.k = k then (true, x.v) else atS l k
/-! ### The order -/
theorem cmpK_neg {a b : Int × Int} : cmpK a b < 0 ↔ a.1 < b.1 ∨ (a.1 = b.1 ∧ a.2 < b.2) := by
  unfold cmpK
  constructor
  · intro h
    split at h
    · omega
    split at h
    · omega
    split at h
    · omega
    split at h <;> omega
  · intro h
    split
    · omega
    split
    · omega
    split
    · omega
    split <;> omega
theorem lt_trans' {a b c : Int × Int} (h1 : cmpK a b < 0) (h2 : cmpK b c < 0) : cmpK a c < 0 := by
  rw [cmpK_neg] at *
  omega
theorem lt_irrefl' {a : Int × Int} : ¬ cmpK a a < 0 := by
  rw [cmpK_neg]; omega
/-- A list that rises, each ahead of all behind it. -/
abbrev Up (l : List (Int × Int)) : Prop := l.Pairwise fun a b => cmpK a b < 0
/-! ### The two walks are one -/
abbrev keysOf (l : List Rw) : List (Int × Int) := l.map Rw.k
end Go.Proofs.YtjkbjppopdfggaaDoor.Tre
namespace Go.Proofs.YtjkbjppopdfggaaDoor.Sha
open Go Den Fn
open Go.RowKit (Below)
set_option maxRecDepth 8000
set_option maxHeartbeats 1000000
theorem get_at {w : World} {b : Nat} {cs : List Value} (h : Blk w b cs) (o n : Nat) (ds : List Value) (he : (cs.drop o).take n = ds) (hl : ds.length = n) {K : List Value → Prop} (hK : K ds) :
    ∃ ds : List Value, List.length ds = n ∧ Cells w ⟨b, o, none⟩ ds ∧ K ds := by
  subst he
  exact ⟨_, hl, h.cells_at o n, hK⟩
theorem u8_eq {a b : List Int} : u8 a = u8 b ↔ a = b := ⟨u8_inj, fun h => by rw [h]⟩
theorem rowC_eq {t r v t' r' v' : Int} : rowC t r v = rowC t' r' v' ↔ (t = t' ∧ r = r' ∧ v = v') := by simp
def Nd.row0 (n : Nd) : Prop := n.tab = 0 ∧ n.row = 0 ∧ n.val = 0
instance (n : Nd) : Decidable n.row0 := by unfold Nd.row0; infer_instance
def Nd.sides0 (n : Nd) : Prop := n.left = z32 ∧ n.right = z32
instance (n : Nd) : Decidable n.sides0 := by unfold Nd.sides0; infer_instance
def textS (n : Nd) : Option (List Int) :=
  if n.kind = 0 then (if n.row0 ∧ n.sides0 ∧ n.bit = 0 then some [] else none)
  else if n.kind = 1 then (if n.sides0 ∧ n.bit = 0 ∧ KeyOk n.tab then some (leafT n.tab n.row n.val) else none)
  else if n.kind = 2 then (if n.row0 ∧ 0 ≤ n.bit ∧ n.bit < 80 then some (forkT n.bit n.left n.right) else none)
  else none
theorem Nd.part_left {n : Nd} (h : n.ok) : (n.cells.drop 2).take 32 = u8 n.left := by
  have e : n.cells = ([.int .i64 n.kind, .int .i64 n.bit] ++ (u8 n.left ++ (u8 n.right ++ rowC n.tab n.row n.val))) := by simp [Nd.cells]
  rw [e, List.drop_append_of_le_length (by simp)]
  simp only [List.drop_succ_cons, List.drop_zero, List.drop_nil, List.nil_append]
  rw [List.take_append_of_le_length (by simp [h.ll]), List.take_of_length_le (by simp [h.ll])]
theorem Nd.part_right {n : Nd} (h : n.ok) : (n.cells.drop 34).take 32 = u8 n.right := by
  have e : n.cells = (([.int .i64 n.kind, .int .i64 n.bit] ++ u8 n.left) ++ (u8 n.right ++ rowC n.tab n.row n.val)) := by simp [Nd.cells]
  have hl : (([Value.int .i64 n.kind, .int .i64 n.bit] ++ u8 n.left)).length = 34 := by simp [h.ll]
  rw [e, ← hl, List.drop_left, List.take_append_of_le_length (by simp [h.rl]), List.take_of_length_le (by simp [h.rl])]
theorem Nd.part_row {n : Nd} (h : n.ok) : n.cells.drop 66 = rowC n.tab n.row n.val := by
  have hl : (([Value.int .i64 n.kind, .int .i64 n.bit] ++ u8 n.left ++ u8 n.right)).length = 66 := by simp [h.ll, h.rl]
  unfold Nd.cells
  rw [← hl, List.drop_left]
theorem Nd.cell_row {n : Nd} (h : n.ok) (i : Nat) : n.cells[66 + i]? = (rowC n.tab n.row n.val)[i]? := by
  rw [← Nd.part_row h, List.getElem?_drop]

def TextR (n : Nd) (w : World) (e : Ending) (w' : World) : Prop :=
  Tch [] w w' ∧ match textS n with
    | some t => ∃ a c, e = .returned (.tuple #[.slice a t.length c, .bool true]) ∧ w'.ownsRow w.heap.size 5 1 (.slice a t.length c) t.length (u8 t)
    | none => e = .returned (.tuple #[.slice none 0 0, .bool false])
theorem TextR.no {n : Nd} {w w' : World} (ht : Tch [] w w') (h : textS n = none) : TextR n w (.returned (.tuple #[.slice none 0 0, .bool false])) w' := by
  refine ⟨ht, ?_⟩
  rw [h]
theorem TextR.yes {n : Nd} {w w' : World} {t : List Int} {a : Option Addr} {m c : Nat} (ht : Tch [] w w') (h : textS n = some t) (hm : m = t.length) (ho : w'.ownsRow w.heap.size 5 1 (.slice a m c) m (u8 t)) :
    TextR n w (.returned (.tuple #[.slice a m c, .bool true])) w' := by
  subst hm
  refine ⟨ht, ?_⟩
  rw [h]
  exact ⟨a, c, rfl, ho⟩
theorem i64_0 : I64 0 := by unfold I64; decide
theorem text_c (n : Nd) (hn : n.ok) (w : World) : Calls Tryd.prog 54 #[.agg n.cells.toArray] w (TextR n w) := by
  refine c54 _ ?_
  unfold d54
  rintro w1 rfl
  have hX := Blk.fresh w (cs := n.cells) 33 rfl
  have ht := (Tch.refl [] w).alloc (.cells n.cells.toArray 33)
  have s1 := size_alloc w (.cells n.cells.toArray 33)
  generalize w.alloc (.cells n.cells.toArray 33) = W1 at *
  have hrow : (n.cells.drop 66).take 3 = rowC n.tab n.row n.val := by rw [Nd.part_row hn]; rfl
  have hkey : (n.cells.drop 66).take 2 = keyC n.tab n.row := by rw [Nd.part_row hn]; rfl
  refine get_part hX 66 3 _ hrow rfl ?_
  refine ⟨rowC 0 0 0, by rw [zcRow]; rfl, ?_⟩
  refine eq_flat_d row_flat row_eqT (row_fits hn.ti hn.ri hn.vi) (row_fits i64_0 i64_0 i64_0) (p := n.row0) rowC_eq ?_
  refine ⟨fun b w' => b = decide n.sides0 ∧ w' = W1, ?_, ?_⟩
  · refine get_part hX 2 32 _ (Nd.part_left hn) (by rw [List.length_map, hn.ll]) ?_
    refine ⟨u8 z32, by rw [zcDig]; rfl, ?_⟩
    refine eq_flat dig_flat dig_eqT (dig_fits hn.ll hn.lb) (dig_fits rfl z32_bytes) (fun h => ?_) (fun h => ?_)
    · rw [u8_eq] at h
      show bif true then _ else _
      refine get_part hX 34 32 _ (Nd.part_right hn) (by rw [List.length_map, hn.rl]) ?_
      refine ⟨u8 z32, by rw [zcDig]; rfl, ?_⟩
      refine eq_flat_d dig_flat dig_eqT (dig_fits hn.rl hn.rb) (dig_fits rfl z32_bytes) (p := n.right = z32) u8_eq ?_
      refine ⟨?_, rfl⟩
      unfold Nd.sides0
      simp [h]
    · rw [Ne, u8_eq] at h
      refine ⟨?_, rfl⟩
      unfold Nd.sides0
      simp [h]
  rintro w12 sides ⟨rfl, rfl⟩
  simp only [add_mk, Nat.zero_add]
  refine ⟨n.kind, hX.cell 0, ?_⟩
  by_cases hk0 : n.kind = 0
  · rw [bif_pos hk0]
    have e1 : textS n = if n.row0 ∧ n.sides0 ∧ n.bit = 0 then some [] else none := by unfold textS; rw [if_pos hk0]
    rintro w15 rfl
    by_cases h1 : n.row0
    · rw [decide_eq_true h1]
      by_cases h2 : n.sides0
      · rw [decide_eq_true h2]
        refine ⟨n.bit, hX.drew.cell 1, ?_⟩
        by_cases h3 : n.bit = 0
        · rw [decide_eq_true h3]
          exact TextR.yes ht.drew (by rw [e1, if_pos ⟨h1, h2, h3⟩]) rfl (own_nil _ _ _ _)
        · rw [decide_eq_false h3]
          exact TextR.no ht.drew (by rw [e1, if_neg (fun h => h3 h.2.2)])
      · rw [decide_eq_false h2]
        exact TextR.no ht.drew (by rw [e1, if_neg (fun h => h2 h.2.1)])
    · rw [decide_eq_false h1]
      exact TextR.no ht.drew (by rw [e1, if_neg (fun h => h1 h.1)])
  rw [bif_neg hk0]
  by_cases hk1 : n.kind = 1
  · rw [bif_pos hk1]
    have e1 : textS n = if n.sides0 ∧ n.bit = 0 ∧ KeyOk n.tab then some (leafT n.tab n.row n.val) else none := by unfold textS; rw [if_neg hk0, if_pos hk1]
    refine ⟨fun w' => n.sides0 ∧ n.bit = 0 ∧ KeyOk n.tab ∧ Tch [] w w' ∧ Blk w' w.heap.size n.cells, ?_, ?_⟩
    · by_cases h2 : n.sides0
      · rw [decide_eq_true h2]
        refine ⟨n.bit, hX.cell 1, ?_⟩
        by_cases h3 : n.bit = 0
        · rw [bif_npos h3]
          refine get_at hX 66 2 _ hkey rfl ?_
          refine (refCheck_c n.tab n.row w12).mono ?_
          rintro e w' ⟨rfl, ht'⟩
          refine ⟨_, rfl, ?_⟩
          by_cases h4 : KeyOk n.tab
          · rw [if_pos h4, bif_npos rfl]
            exact ⟨h2, h3, h4, ht.trans ht' (by simp), hX.tch ht' (by simp)⟩
          · rw [if_neg h4, bif_nneg (by omega)]
            exact TextR.no (ht.trans ht' (by simp)) (by rw [e1, if_neg (fun h => h4 h.2.2)])
        · rw [bif_nneg h3]
          exact TextR.no ht (by rw [e1, if_neg (fun h => h3 h.2.1)])
      · rw [decide_eq_false h2]
        exact TextR.no ht (by rw [e1, if_neg (fun h => h2 h.1)])
    rintro w23 ⟨h2, h3, h4, ht, hX⟩
    have e2 : textS n = some (leafT n.tab n.row n.val) := by rw [e1, if_pos ⟨h2, h3, h4⟩]
    refine get_at hX 66 2 _ hkey rfl ?_
    refine (refBytes_c n.tab n.row w23).mono ?_
    intro e w5 h5
    rw [if_pos h4] at h5
    obtain ⟨ka, kc, rfl, hkb, ht5⟩ := h5
    refine ⟨_, _, _, _, rfl, _, _, _, rfl, _, rfl, ?_⟩
    refine ⟨[.int .u8 0], by rw [zc5]; rfl, ?_⟩
    rintro w11 rfl
    have hs := ht.size
    have hs5 := ht5.size
    have hl23 := hX.lt
    refine app_row bT (own_new w5 (n := 1) (cs := [.int .u8 0]) (base := w5.heap.size) (size := 1) (Nat.le_refl _) rfl (by omega)) (ys := u8 (keyB n.tab n.row)) ((own_rsl hkb ones_ints).below ((Below.refl _ _).alloc (Nat.le_refl _) _)) (by rw [size_alloc]; omega) (by omega) (by omega) fun a' c' w13 g1 g2 => ?_
    replace hX := ((hX.tch ht5 (by simp)).alloc (.cells [Value.int .u8 0].toArray 5)).below g2 (by omega)
    replace ht := ((ht.trans ht5 (by simp)).alloc (.cells [Value.int .u8 0].toArray 5)).up g2 (by omega)
    have hs13 := g2.size
    rw [size_alloc] at hs13
    refine ⟨fun m a2 n2 c2 x w' => ∃ i : Nat, i ≤ 8 ∧ x = 7 - (i : Int) ∧ n2 = 11 + i ∧ m = 8 - i ∧ w'.ownsRow w5.heap.size 5 1 (.slice a2 n2 c2) n2 (u8 ([0] ++ keyB n.tab n.row ++ (be8 (IntKind.wrap .u64 n.val)).take i)) ∧ Below w5.heap.size w13 w', ⟨8, 0, by omega, rfl, rfl, rfl, by simpa using g1, Below.refl _ _⟩, ?_⟩
    rintro m w17 a2 n2 c2 x ⟨i, hi, rfl, rfl, rfl, hown, hb⟩
    by_cases hlt : i < 8
    · rw [bif_pos (by omega), wrap_i64 (n := 8 * (7 - (i : Int))) (by omega) (by omega), show 8 * (7 - (i : Int)) = 56 - 8 * (i : Int) by omega]
      refine ⟨n.val, ((hX.below hb (by omega)).cell 68).trans (Nd.cell_row hn 2), by omega, ?_⟩
      have hs17 := hb.size
      refine app_elem bT hown (by rw [zc5]; rfl) (ys := u8 [IntKind.wrap .u8 (shR .u64 (IntKind.wrap .u64 n.val) (56 - 8 * (i : Int)))]) rfl rfl ones_ints (by omega) (by omega) (by omega) fun a3 c3 w3 k1 k2 => ?_
      rw [wrap_i64 (by omega) (by omega)]
      refine ⟨8 - (i + 1), by omega, i + 1, by omega, by omega, rfl, rfl, ?_, hb.trans k2⟩
      rw [← List.map_append] at k1
      rw [be8_take hlt, ← List.append_assoc]
      exact k1
    · have : i = 8 := by omega
      subst this
      rw [bif_neg (by omega)]
      rw [List.take_of_length_le (by rw [be8_length]; omega)] at hown
      exact TextR.yes (ht.up hb (by omega)) e2 (by rw [leafT_length]) (own_base hown (by omega))
  rw [bif_neg hk1]
  by_cases hk2 : n.kind = 2
  · rw [bif_pos hk2]
    have e1 : textS n = if n.row0 ∧ 0 ≤ n.bit ∧ n.bit < 80 then some (forkT n.bit n.left n.right) else none := by unfold textS; rw [if_neg hk0, if_neg hk1, if_pos hk2]
    refine ⟨fun w' => n.row0 ∧ 0 ≤ n.bit ∧ n.bit < 80 ∧ w' = w12, ?_, ?_⟩
    · by_cases h2 : n.row0
      · rw [decide_eq_true h2]
        refine ⟨n.bit, hX.cell 1, ?_⟩
        by_cases h3 : n.bit < 0
        · rw [bif_pos h3]
          exact TextR.no ht (by rw [e1, if_neg (fun h => by omega)])
        · rw [bif_neg h3]
          refine ⟨n.bit, hX.cell 1, ?_⟩
          by_cases h4 : 80 ≤ n.bit
          · rw [bif_pos h4]
            exact TextR.no ht (by rw [e1, if_neg (fun h => by omega)])
          · rw [bif_neg h4]
            exact ⟨h2, by omega, by omega, rfl⟩
      · rw [decide_eq_false h2]
        exact TextR.no ht (by rw [e1, if_neg (fun h => h2 h.1)])
    rintro w51 ⟨h2, h3, h4, rfl⟩
    refine ⟨n.bit, hX.cell 1, u8 [1, IntKind.wrap .u8 n.bit], by rw [zc5]; rfl, ?_⟩
    rintro w54 rfl
    have hs := ht.size
    have hl := hX.lt
    have hXa := hX.alloc (.cells (u8 [1, IntKind.wrap .u8 n.bit]).toArray 5)
    have hr1 : ∀ {w' : World}, Blk w' w.heap.size n.cells → RSl w' 1 (some ⟨w.heap.size, 2, none⟩) 32 32 (u8 n.left) := fun h =>
      ⟨Nat.le_refl _, by rw [List.length_map, hn.ll], ones_ints, .inr ⟨_, 2, rfl, by rw [← Nd.part_left hn]; exact h.cells_at 2 32⟩⟩
    have hr2 : ∀ {w' : World}, Blk w' w.heap.size n.cells → RSl w' 1 (some ⟨w.heap.size, 34, none⟩) 32 32 (u8 n.right) := fun h =>
      ⟨Nat.le_refl _, by rw [List.length_map, hn.rl], ones_ints, .inr ⟨_, 34, rfl, by rw [← Nd.part_right hn]; exact h.cells_at 34 32⟩⟩
    refine app_row bT (own_new w51 (n := 2) (cs := u8 [1, IntKind.wrap .u8 n.bit]) (base := w51.heap.size) (size := 1) (Nat.le_refl _) rfl (by omega)) (hr1 hXa) (by rw [size_alloc]; omega) (by omega) (by omega) fun a' c' w13 g1 g2 => ?_
    replace hX := hXa.below g2 (by omega)
    replace ht := (ht.alloc (.cells (u8 [1, IntKind.wrap .u8 n.bit]).toArray 5)).up g2 (by omega)
    have hs13 := g2.size
    rw [size_alloc] at hs13
    refine app_row bT g1 (hr2 hX) (by omega) (by omega) (by omega) fun a2 c2 w14 k1 k2 => ?_
    rw [← List.map_append, ← List.map_append] at k1
    exact TextR.yes (ht.up k2 (by omega)) (by rw [e1, if_pos ⟨h2, h3, h4⟩]; rfl) (by simp [hn.ll, hn.rl]) (own_base k1 (by omega))
  · rw [bif_neg hk2]
    refine TextR.no ht ?_
    unfold textS
    rw [if_neg hk0, if_neg hk1, if_neg hk2]
end Go.Proofs.YtjkbjppopdfggaaDoor.Sha
namespace Go.Proofs.YtjkbjppopdfggaaDoor.Sha
open Go Den Fn
open Go.RowKit (Below)
set_option maxRecDepth 8000
set_option maxHeartbeats 1000000
def OfR (n : Nd) (w : World) (e : Ending) (w' : World) : Prop := e = .returned (.tuple #[.agg (u8 (ofS n).1).toArray, .int .i64 (ofS n).2]) ∧ Tch [] w w'
theorem OfR.mk' {n : Nd} {w w' : World} {l : List Int} {x : Int} (h : ofS n = (l, x)) (ht : Tch [] w w') : OfR n w (.returned (.tuple #[.agg (u8 l).toArray, .int .i64 x])) w' := by
  unfold OfR
  rw [h]
  exact ⟨rfl, ht⟩
theorem text_len {n : Nd} (hn : n.ok) {t : List Int} (h : textS n = some t) : t.length ≤ 66 ∧ Bytes t := by
  unfold textS at h
  split at h
  · split at h
    · cases h; exact ⟨by simp, fun x hx => by simp at hx⟩
    · cases h
  · split at h
    · split at h
      · cases h; exact ⟨by rw [leafT_length]; omega, leafT_bytes _ _ _⟩
      · cases h
    · split at h
      · split at h
        · cases h; exact ⟨by simp [forkT, hn.ll, hn.rl], forkT_bytes hn.lb hn.rb⟩
        · cases h
      · cases h
theorem ofS_none {n : Nd} (h : textS n = none) : ofS n = (z32, 252) := by
  unfold ofS
  unfold textS Nd.row0 Nd.sides0 at h
  split at h
  · split at h
    · cases h
    · rename_i h0 h1
      rw [if_neg (fun h2 => h1 ⟨⟨h2.2.2.2.2.1, h2.2.2.2.2.2⟩, ⟨h2.2.2.1, h2.2.2.2.1⟩, h2.2.1⟩), if_neg (fun h2 => by omega), if_neg (fun h2 => by omega)]
  · rename_i h0
    rw [if_neg (fun h2 => h0 h2.1)]
    split at h
    · rename_i h1
      split at h
      · cases h
      · rename_i h2
        rw [if_neg (fun h3 => h2 ⟨⟨h3.2.2.1, h3.2.2.2.1⟩, h3.2.1, h3.2.2.2.2⟩), if_neg (fun h2 => by omega)]
    · rename_i h1
      rw [if_neg (fun h2 => h1 h2.1)]
      split at h
      · split at h
        · cases h
        · rename_i h2 h3
          rw [if_neg (fun h4 => h3 h4.2)]
      · rename_i h2
        rw [if_neg (fun h4 => h2 h4.1)]
theorem ofS_zero {n : Nd} {t : List Int} (h : textS n = some t) (h0 : n.kind = 0) : ofS n = (z32, 0) := by
  unfold textS Nd.row0 Nd.sides0 at h
  rw [if_pos h0] at h
  split at h
  · rename_i h1
    unfold ofS
    rw [if_pos ⟨h0, h1.2.2, h1.2.1.1, h1.2.1.2, h1.1⟩]
  · cases h
theorem ofS_sum {n : Nd} {t : List Int} (h : textS n = some t) (h0 : ¬ n.kind = 0) : ofS n = (sha t, 0) := by
  unfold textS Nd.row0 Nd.sides0 at h
  rw [if_neg h0] at h
  unfold ofS
  rw [if_neg (fun h2 => h0 h2.1)]
  split at h
  · rename_i h1
    split at h
    · rename_i h2
      cases h
      rw [if_pos ⟨h1, h2.2.1, h2.1.1, h2.1.2, h2.2.2⟩]
    · cases h
  · rename_i h1
    rw [if_neg (fun h2 => h1 h2.1)]
    split at h
    · rename_i h2
      split at h
      · rename_i h3
        cases h
        rw [if_pos ⟨h2, h3⟩]
      · cases h
    · cases h

theorem refOf_c (n : Nd) (hn : n.ok) (w : World) : Calls Tryd.prog 16 #[.agg n.cells.toArray] w (OfR n w) := by
  refine c16 _ ?_
  unfold d16
  rintro w1 rfl
  have hX := Blk.fresh w (cs := n.cells) 33 rfl
  have ht := (Tch.refl [] w).alloc (.cells n.cells.toArray 33)
  have s1 := size_alloc w (.cells n.cells.toArray 33)
  generalize w.alloc (.cells n.cells.toArray 33) = W1 at *
  rintro w2 rfl
  have hO : Blk _ _ (u8 z32) := Blk.fresh W1 24 zcDig
  replace hX := hX.alloc (.cells (zc Tryd.prog 24).toArray 24)
  replace ht := ht.alloc (.cells (zc Tryd.prog 24).toArray 24)
  generalize W1.alloc (.cells (zc Tryd.prog 24).toArray 24) = W2 at *
  refine get_all hX (Nd.cells_length hn) ?_
  refine (text_c n hn W2).mono ?_
  rintro e w5 ⟨ht5, h5⟩
  replace hX := hX.tch ht5 (by simp)
  replace hO := hO.tch ht5 (by simp)
  replace ht := ht.trans ht5 (by simp)
  cases htx : textS n with
  | none =>
    rw [htx] at h5
    subst h5
    refine ⟨_, _, _, _, rfl, _, _, _, rfl, _, rfl, ?_⟩
    show bif true then _ else _
    refine ⟨u8 z32, by rw [zcDig]; rfl, ?_⟩
    refine put_all (n := 32) hO rfl rfl ones_ints fun w' h1 h2 _ => ?_
    exact get_all h1 rfl (OfR.mk' (ofS_none htx) (ht.trans h2 (by simp; omega)))
  | some t =>
    rw [htx] at h5
    obtain ⟨a, c, rfl, hown⟩ := h5
    refine ⟨_, _, _, _, rfl, _, _, _, rfl, _, rfl, ?_⟩
    show bif false then _ else _
    rw [add_mk]
    refine ⟨n.kind, hX.cell 0, ?_⟩
    by_cases hk0 : n.kind = 0
    · rw [bif_pos hk0]
      refine ⟨u8 z32, by rw [zcDig]; rfl, ?_⟩
      refine put_all (n := 32) hO rfl rfl ones_ints fun w' h1 h2 _ => ?_
      exact get_all h1 rfl (OfR.mk' (ofS_zero htx hk0) (ht.trans h2 (by simp; omega)))
    · rw [bif_neg hk0]
      have htl := text_len hn htx
      refine (refSum_c w5 t a _ c (own_rsl hown ones_ints) htl.2 (by omega)).mono ?_
      rintro e w18 ⟨rfl, ht18⟩
      refine ⟨_, rfl, ?_⟩
      refine put_all (n := 32) (hO.tch ht18 (by simp)) rfl (by rw [List.length_map, sha_length]) ones_ints fun w' h1 h2 _ => ?_
      exact get_all h1 (by rw [List.length_map, sha_length]) (OfR.mk' (ofS_sum htx hk0) ((ht.trans ht18 (by simp)).trans h2 (by simp; omega)))

theorem i64_1 : I64 1 := by unfold I64; decide
theorem rank_c (n : Int) (w : World) : Calls Tryd.prog 52 #[.int .i64 n] w fun e w' => e = .returned (.bool (decide (0 ≤ n ∧ n < 80))) ∧ w' = w := by
  refine c52 _ ?_
  unfold d52
  by_cases h : 0 ≤ n
  · rw [bif_pos h]
    exact ⟨by simp [h], rfl⟩
  · rw [bif_neg h]
    exact ⟨by rw [decide_eq_false fun h2 => h h2.1], rfl⟩

def Nd.leaf0 (n : Nd) : Prop := n.bit = 0 ∧ n.sides0
instance (n : Nd) : Decidable n.leaf0 := by unfold Nd.leaf0; infer_instance
theorem num_c (n : Int) (w : World) : Calls Tryd.prog 17 #[.int .i64 n] w fun e w' => e = .returned (.int .i64 n) ∧ w' = w := by
  refine c17 _ ?_
  unfold d17
  exact ⟨rfl, rfl⟩

end Go.Proofs.YtjkbjppopdfggaaDoor.Sha
set_option maxRecDepth 100000
namespace Go.Proofs.YtjkbjppopdfggaaDoor.Fn
open Go Den
/-- prelude/proof.Verify -/
def s18 : S := (.seq (.ops [⟨(some 3), (.box 24 (.tmp 0)), .ptr, none⟩,
  ⟨(some 4), (.box 29 (.tmp 1)), .ptr, none⟩,
  ⟨(some 5), (.box 43 (.tmp 2)), .ptr, none⟩,
  ⟨(some 6), (.alloc 45), .ptr, none⟩,
  ⟨(some 7), (.mv (.const (.int .i64 0))), (.int .i64), none⟩] [4, 6, 3, 5])
 (.seq (.ops [⟨(some 11), (.ldN 2 (.tmp 4)), .agg, none⟩,
  ⟨(some 12), (.call 55 [(.tmp 11)] [.sl, (.int .i64)]), .any, none⟩,
  ⟨(some 10), (.mv (.tmp 12)), .any, none⟩,
  ⟨(some 13), (.ext 0 (.tmp 10)), .sl, none⟩,
  ⟨(some 14), (.ext 1 (.tmp 10)), (.int .i64), none⟩,
  ⟨(some 8), (.mv (.tmp 13)), .sl, none⟩,
  ⟨(some 9), (.mv (.tmp 14)), (.int .i64), none⟩] [9, 6, 3, 8, 5, 4])
 (.seq (.seq (.ops [⟨(some 15), (.mv (.tmp 9)), (.int .i64), none⟩,
  ⟨(some 16), (.bin .neq (.tmp 15) (.const (.int .i64 0))), .bool, none⟩] [16, 9, 6, 3, 8, 5, 4])
 (.cond (.tmp 16)
 (.seq (.ops [⟨(some 17), (.bld 45 (.fields [(0, 1), (1, 1)]) []), .agg, none⟩,
  ⟨(some 18), (.mv (.tmp 9)), (.int .i64), none⟩,
  ⟨none, (.stN 2 (.tmp 6) (.tmp 17)), .any, none⟩,
  ⟨(some 7), (.mv (.tmp 18)), (.int .i64), none⟩] [6, 7])
 .ret)
 .skip))
 (.seq (.seq (.ops [⟨(some 19), (.ldN 32 (.tmp 3)), .agg, none⟩,
  ⟨(some 20), (.mv (.tmp 8)), .sl, none⟩,
  ⟨(some 21), (.ldN 5 (.tmp 5)), .agg, none⟩,
  ⟨(some 22), (.call 56 [(.tmp 19), (.tmp 20), (.tmp 21)] [.bool]), .bool, none⟩,
  ⟨(some 23), (.un .not (.tmp 22)), .bool, none⟩] [23, 6, 5, 4])
 (.cond (.tmp 23)
 (.seq (.ops [⟨(some 24), (.bld 45 (.fields [(0, 1), (1, 1)]) []), .agg, none⟩,
  ⟨none, (.stN 2 (.tmp 6) (.tmp 24)), .any, none⟩,
  ⟨(some 7), (.mv (.const (.int .i64 250))), (.int .i64), none⟩] [6, 7])
 .ret)
 .skip))
 (.seq (.seq (.ops [⟨(some 25), (.fa 1 (.tmp 5)), .ptr, none⟩,
  ⟨(some 26), (.ld1 (.tmp 25)), .bool, none⟩,
  ⟨(some 27), (.mv (.tmp 26)), .bool, none⟩,
  ⟨(some 28), (.fa 2 (.tmp 5)), .ptr, (some (27, true))⟩,
  ⟨(some 29), (.fa 0 (.tmp 28)), .ptr, (some (27, true))⟩,
  ⟨(some 30), (.ldN 2 (.tmp 29)), .agg, (some (27, true))⟩,
  ⟨(some 31), (.ldN 2 (.tmp 4)), .agg, (some (27, true))⟩,
  ⟨(some 32), (.eqG .eql 29 (.tmp 30) (.tmp 31)), .bool, (some (27, true))⟩,
  ⟨(some 33), (.pick (.tmp 27) (.tmp 32) (.const (.bool false))), .bool, none⟩] [33, 5, 6])
 (.cond (.tmp 33)
 (.seq (.ops [⟨(some 34), (.fa 2 (.tmp 5)), .ptr, none⟩,
  ⟨(some 35), (.fa 2 (.tmp 34)), .ptr, none⟩,
  ⟨(some 36), (.ld1 (.tmp 35)), (.int .i64), none⟩,
  ⟨(some 37), (.bld 45 (.fields [(0, 1), (1, 1)]) [(0, (.const (.bool true))), (1, (.tmp 36))]), .agg, none⟩,
  ⟨none, (.stN 2 (.tmp 6) (.tmp 37)), .any, none⟩,
  ⟨(some 7), (.mv (.const (.int .i64 0))), (.int .i64), none⟩] [6, 7])
 .ret)
 .skip))
 (.seq (.ops [⟨(some 38), (.bld 45 (.fields [(0, 1), (1, 1)]) []), .agg, none⟩,
  ⟨none, (.stN 2 (.tmp 6) (.tmp 38)), .any, none⟩,
  ⟨(some 7), (.mv (.const (.int .i64 0))), (.int .i64), none⟩] [6, 7])
 .ret))))))
def r18 : List Res := [.cN 6 2, .t 7]
theorem tr18 : trS Tryd.prog [] 39 (Tryd.f18.body.getD .skip) s18 = some s18 := by kernel_rfl
theorem den18 (args : List Value) (w : World) (R : Ending → World → Prop) (hn : args.length ≤ 39) (h : denS Tryd.prog s18 (argsEnv 0 args) w (endK r18 R)) : Calls Tryd.prog 18 args.toArray w R :=
  calls_of_den (pn := []) (fn := Tryd.f18) (c := Tryd.f18.body.getD .skip) Tryd.func18 (by kernel_rfl) (by rw [Tryd.ntmps18]; exact hn) (by rw [Tryd.ntmps18]; exact tr18) (by kernel_rfl) h
def d18 (root0 : Array Value) (k1 : Array Value) (p2 : Array Value) (w : World) (R : Ending → World → Prop) : Prop :=
 ∀ w3 : World, w3 = World.alloc w (.cells root0 24) →
 ∀ w4 : World, w4 = World.alloc w3 (.cells k1 29) →
 ∀ w5 : World, w5 = World.alloc w4 (.cells p2 43) →
 ∀ w6 : World, w6 = World.alloc w5 (.cells (zc Tryd.prog 45).toArray 45) →
 ∃ cs7 : List Value, List.length cs7 = 2 ∧ Cells w6 ⟨World.heap w3 |>.size, 0, none⟩ cs7 ∧
 Calls Tryd.prog 55 #[(.agg (List.toArray cs7))] w6 fun e8 w9 => ∃ (x10 : Option Addr) (x10n : Nat) (x10c : Nat), ∃ x11 : Int, e8 = .returned (.tuple #[(.slice x10 x10n x10c), (.int .i64 x11)]) ∧
 ∃ (x12 : Option Addr) (x12n : Nat) (x12c : Nat), (#[(.slice x10 x10n x10c), (.int .i64 x11)] : Array Value)[0]? = some (.slice x12 x12n x12c) ∧
 ∃ x13 : Int, (#[(.slice x10 x10n x10c), (.int .i64 x11)] : Array Value)[1]? = some (.int .i64 x13) ∧
 (bif (!decide (x13 = 0)) then
 (∃ cs14, fillL (.fields [(0, 1), (1, 1)]) (zc Tryd.prog 45) [] = some cs14 ∧
 Array.size (List.toArray cs14) = 2 ∧ (∀ u ∈ Array.toList (List.toArray cs14), one u = true) ∧ Room w9 ⟨World.heap w5 |>.size, 0, none⟩ 2 ∧
 ∀ w15 : World, w15 = setCells w9 ⟨World.heap w5 |>.size, 0, none⟩ (Array.toList (List.toArray cs14)) 0 →
 ∃ cs16 : List Value, List.length cs16 = 2 ∧ Cells w15 ⟨World.heap w5 |>.size, 0, none⟩ cs16 ∧
 R (.returned (.tuple #[(.agg (List.toArray cs16)), (.int .i64 x13)])) w15)
 else
 (∃ cs17 : List Value, List.length cs17 = 32 ∧ Cells w9 ⟨World.heap w |>.size, 0, none⟩ cs17 ∧
 ∃ cs18 : List Value, List.length cs18 = 5 ∧ Cells w9 ⟨World.heap w4 |>.size, 0, none⟩ cs18 ∧
 Calls Tryd.prog 56 #[(.agg (List.toArray cs17)), (.slice x12 x12n x12c), (.agg (List.toArray cs18))] w9 fun e19 w20 => ∃ x21 : Bool, e19 = .returned (.bool x21) ∧
 (bif (!x21) then
 (∃ cs22, fillL (.fields [(0, 1), (1, 1)]) (zc Tryd.prog 45) [] = some cs22 ∧
 Array.size (List.toArray cs22) = 2 ∧ (∀ u ∈ Array.toList (List.toArray cs22), one u = true) ∧ Room w20 ⟨World.heap w5 |>.size, 0, none⟩ 2 ∧
 ∀ w23 : World, w23 = setCells w20 ⟨World.heap w5 |>.size, 0, none⟩ (Array.toList (List.toArray cs22)) 0 →
 ∃ cs24 : List Value, List.length cs24 = 2 ∧ Cells w23 ⟨World.heap w5 |>.size, 0, none⟩ cs24 ∧
 R (.returned (.tuple #[(.agg (List.toArray cs24)), (.int .i64 250)])) w23)
 else
 (∃ x25 : Bool, World.cell? w20 (Addr.add ⟨World.heap w4 |>.size, 0, none⟩ 1) = some (.bool x25) ∧
 (bif x25 then
 (∃ cs26 : List Value, List.length cs26 = 2 ∧ Cells w20 (Addr.add (Addr.add ⟨World.heap w4 |>.size, 0, none⟩ 2) 0) cs26 ∧
 ∃ cs27 : List Value, List.length cs27 = 2 ∧ Cells w20 ⟨World.heap w3 |>.size, 0, none⟩ cs27 ∧
 ∃ q28 : Bool, Sem.run Tryd.prog (do eqGuard .eql 29 (.tmp 30) (.tmp 31) (.agg (List.toArray cs26)) (.agg (List.toArray cs27)); binOp .eql 29 (.agg (List.toArray cs26)) (.agg (List.toArray cs27))) w20 = .ok (.bool q28) w20 ∧
 (bif q28 then
 (∃ x29 : Int, World.cell? w20 (Addr.add (Addr.add ⟨World.heap w4 |>.size, 0, none⟩ 2) 2) = some (.int .i64 x29) ∧
 ∃ cs30, fillL (.fields [(0, 1), (1, 1)]) (zc Tryd.prog 45) [(0, (.bool true)), (1, (.int .i64 x29))] = some cs30 ∧
 Array.size (List.toArray cs30) = 2 ∧ (∀ u ∈ Array.toList (List.toArray cs30), one u = true) ∧ Room w20 ⟨World.heap w5 |>.size, 0, none⟩ 2 ∧
 ∀ w31 : World, w31 = setCells w20 ⟨World.heap w5 |>.size, 0, none⟩ (Array.toList (List.toArray cs30)) 0 →
 ∃ cs32 : List Value, List.length cs32 = 2 ∧ Cells w31 ⟨World.heap w5 |>.size, 0, none⟩ cs32 ∧
 R (.returned (.tuple #[(.agg (List.toArray cs32)), (.int .i64 0)])) w31)
 else
 (∃ cs33, fillL (.fields [(0, 1), (1, 1)]) (zc Tryd.prog 45) [] = some cs33 ∧
 Array.size (List.toArray cs33) = 2 ∧ (∀ u ∈ Array.toList (List.toArray cs33), one u = true) ∧ Room w20 ⟨World.heap w5 |>.size, 0, none⟩ 2 ∧
 ∀ w34 : World, w34 = setCells w20 ⟨World.heap w5 |>.size, 0, none⟩ (Array.toList (List.toArray cs33)) 0 →
 ∃ cs35 : List Value, List.length cs35 = 2 ∧ Cells w34 ⟨World.heap w5 |>.size, 0, none⟩ cs35 ∧
 R (.returned (.tuple #[(.agg (List.toArray cs35)), (.int .i64 0)])) w34)))
 else
 (∃ cs36, fillL (.fields [(0, 1), (1, 1)]) (zc Tryd.prog 45) [] = some cs36 ∧
 Array.size (List.toArray cs36) = 2 ∧ (∀ u ∈ Array.toList (List.toArray cs36), one u = true) ∧ Room w20 ⟨World.heap w5 |>.size, 0, none⟩ 2 ∧
 ∀ w37 : World, w37 = setCells w20 ⟨World.heap w5 |>.size, 0, none⟩ (Array.toList (List.toArray cs36)) 0 →
 ∃ cs38 : List Value, List.length cs38 = 2 ∧ Cells w37 ⟨World.heap w5 |>.size, 0, none⟩ cs38 ∧
 R (.returned (.tuple #[(.agg (List.toArray cs38)), (.int .i64 0)])) w37))))))
theorem e18 (root0 : Array Value) (k1 : Array Value) (p2 : Array Value) (w : World) (R : Ending → World → Prop) : denS Tryd.prog s18 (argsEnv 0 [(.agg root0), (.agg k1), (.agg p2)]) w (endK r18 R) = d18 root0 k1 p2 w R := by kernel_rfl
theorem c18 (root0 : Array Value) (k1 : Array Value) (p2 : Array Value) {w : World} {R : Ending → World → Prop} (h : d18 root0 k1 p2 w R) : Calls Tryd.prog 18 #[(.agg root0), (.agg k1), (.agg p2)] w R :=
  den18 [(.agg root0), (.agg k1), (.agg p2)] w R (by simp) ((e18 root0 k1 p2 w R).symm ▸ h)

/-- prelude/preluderef24.Path -/
def s20 : S := (.seq (.ops [⟨(some 2), (.box 29 (.tmp 0)), .ptr, none⟩,
  ⟨(some 3), (.box 43 (.tmp 1)), .ptr, none⟩,
  ⟨(some 4), (.mv (.const (.slice none 0 0))), .sl, none⟩] [3, 2])
 (.seq (.ops [⟨(some 12), (.bld 33 (.fields [(0, 1), (1, 1), (2, 32), (34, 32), (66, 3)]) []), .agg, none⟩,
  ⟨(some 5), (.alloc 33), .ptr, none⟩,
  ⟨none, (.stN 69 (.tmp 5) (.tmp 12)), .any, none⟩] [3, 5, 2])
 (.join [] [2, 3, 5]
 (.seq (.ops [⟨(some 13), (.fa 1 (.tmp 3)), .ptr, none⟩,
  ⟨(some 14), (.ld1 (.tmp 13)), .bool, none⟩] [14, 3, 5, 2])
 (.cond (.tmp 14)
 (.ops [⟨(some 15), (.fa 2 (.tmp 3)), .ptr, none⟩,
  ⟨(some 16), (.ldN 3 (.tmp 15)), .agg, none⟩,
  ⟨(some 17), (.bld 33 (.fields [(0, 1), (1, 1), (2, 32), (34, 32), (66, 3)]) [(0, (.const (.int .i64 1))), (4, (.tmp 16))]), .agg, none⟩,
  ⟨none, (.stN 69 (.tmp 5) (.tmp 17)), .any, none⟩] [5, 3, 2])
 .skip))
 (.seq (.ops [⟨(some 18), (.ldN 69 (.tmp 5)), .agg, none⟩,
  ⟨(some 19), (.bldS 33 1 69 [(0, (.tmp 18))]), .sl, none⟩,
  ⟨(some 6), (.mv (.tmp 19)), .sl, none⟩] [5, 3, 2, 6])
 (.seq (.ops [⟨(some 21), (.ldN 69 (.tmp 5)), .agg, none⟩,
  ⟨(some 22), (.call 16 [(.tmp 21)] [.agg, (.int .i64)]), .any, none⟩,
  ⟨(some 20), (.mv (.tmp 22)), .any, none⟩,
  ⟨(some 23), (.ext 0 (.tmp 20)), .agg, none⟩,
  ⟨(some 24), (.ext 1 (.tmp 20)), (.int .i64), none⟩,
  ⟨(some 7), (.alloc 24), .ptr, none⟩,
  ⟨none, (.stN 32 (.tmp 7) (.tmp 23)), .any, none⟩,
  ⟨(some 8), (.mv (.tmp 24)), (.int .i64), none⟩] [3, 7, 2, 6])
 (.seq (.seq (.ops [⟨(some 25), (.fa 0 (.tmp 3)), .ptr, none⟩,
  ⟨(some 26), (.ld1 (.tmp 25)), .sl, none⟩,
  ⟨(some 27), (.len (.tmp 26)), (.int .i64), none⟩,
  ⟨(some 28), (.bin .sub (.tmp 27) (.const (.int .i64 1))), (.int .i64), none⟩,
  ⟨(some 9), (.mv (.tmp 28)), (.int .i64), none⟩] [9, 3, 7, 2, 6])
 (.block 0
 (.loop [(6, .sl), (9, (.int .i64))] [2, 3, 7]
 (.seq (.seq (.ops [⟨(some 29), (.mv (.tmp 9)), (.int .i64), none⟩,
  ⟨(some 30), (.bin .geq (.tmp 29) (.const (.int .i64 0))), .bool, none⟩] [30, 3, 9, 7, 2, 6])
 (.cond (.tmp 30)
 .skip
 (.exit 0)))
 (.seq (.block 1
 (.seq (.ops [⟨(some 33), (.fa 0 (.tmp 3)), .ptr, none⟩,
  ⟨(some 34), (.ld1 (.tmp 33)), .sl, none⟩,
  ⟨(some 35), (.mv (.tmp 9)), (.int .i64), none⟩,
  ⟨(some 36), (.ia 33 (.tmp 34) (.tmp 35)), .ptr, none⟩,
  ⟨(some 37), (.ldN 33 (.tmp 36)), .agg, none⟩,
  ⟨(some 10), (.alloc 51), .ptr, none⟩,
  ⟨none, (.stN 33 (.tmp 10) (.tmp 37)), .any, none⟩] [10, 7, 2, 6, 9, 3])
 (.seq (.ops [⟨(some 38), (.fa 0 (.tmp 10)), .ptr, none⟩,
  ⟨(some 39), (.ld1 (.tmp 38)), (.int .i64), none⟩,
  ⟨(some 40), (.ldN 32 (.tmp 7)), .agg, none⟩,
  ⟨(some 41), (.fa 1 (.tmp 10)), .ptr, none⟩,
  ⟨(some 42), (.ldN 32 (.tmp 41)), .agg, none⟩,
  ⟨(some 43), (.bld 33 (.fields [(0, 1), (1, 1), (2, 32), (34, 32), (66, 3)]) [(0, (.const (.int .i64 2))), (1, (.tmp 39)), (2, (.tmp 40)), (3, (.tmp 42))]), .agg, none⟩,
  ⟨(some 11), (.alloc 33), .ptr, none⟩,
  ⟨none, (.stN 69 (.tmp 11) (.tmp 43)), .any, none⟩] [2, 10, 11, 7, 6, 9, 3])
 (.join [] [2, 3, 6, 7, 9, 11]
 (.seq (.ops [⟨(some 44), (.ldN 2 (.tmp 2)), .agg, none⟩,
  ⟨(some 45), (.fa 0 (.tmp 10)), .ptr, none⟩,
  ⟨(some 46), (.ld1 (.tmp 45)), (.int .i64), none⟩,
  ⟨(some 47), (.call 59 [(.tmp 44), (.tmp 46)] [(.int .i64)]), (.int .i64), none⟩,
  ⟨(some 48), (.bin .eql (.tmp 47) (.const (.int .i64 1))), .bool, none⟩] [48, 10, 11, 7, 6, 9, 3, 2])
 (.cond (.tmp 48)
 (.seq (.ops [⟨(some 49), (.fa 1 (.tmp 10)), .ptr, none⟩,
  ⟨(some 50), (.ldN 32 (.tmp 49)), .agg, none⟩,
  ⟨(some 51), (.fa 2 (.tmp 11)), .ptr, none⟩,
  ⟨none, (.stN 32 (.tmp 51) (.tmp 50)), .any, none⟩] [7, 11, 6, 9, 3, 2])
 (.ops [⟨(some 52), (.ldN 32 (.tmp 7)), .agg, none⟩,
  ⟨(some 53), (.fa 34 (.tmp 11)), .ptr, none⟩,
  ⟨none, (.stN 32 (.tmp 53) (.tmp 52)), .any, none⟩] [6, 11, 7, 9, 3, 2]))
 .skip))
 (.seq (.ops [⟨(some 54), (.mv (.tmp 6)), .sl, none⟩,
  ⟨(some 55), (.ldN 69 (.tmp 11)), .agg, none⟩,
  ⟨(some 56), (.bldS 33 1 69 [(0, (.tmp 55))]), .sl, none⟩,
  ⟨(some 57), (.app #[52, 52] 52 (.tmp 54) (.tmp 56)), .sl, none⟩,
  ⟨(some 6), (.mv (.tmp 57)), .sl, none⟩] [11, 7, 9, 3, 2, 6])
 (.ops [⟨(some 59), (.ldN 69 (.tmp 11)), .agg, none⟩,
  ⟨(some 60), (.call 16 [(.tmp 59)] [.agg, (.int .i64)]), .any, none⟩,
  ⟨(some 58), (.mv (.tmp 60)), .any, none⟩,
  ⟨(some 61), (.ext 0 (.tmp 58)), .agg, none⟩,
  ⟨(some 62), (.ext 1 (.tmp 58)), (.int .i64), none⟩,
  ⟨none, (.stN 32 (.tmp 7) (.tmp 61)), .any, none⟩] [9, 3, 7, 2, 6]))))))
 (.ops [⟨(some 31), (.mv (.tmp 9)), (.int .i64), none⟩,
  ⟨(some 32), (.bin .sub (.tmp 31) (.const (.int .i64 1))), (.int .i64), none⟩,
  ⟨(some 9), (.mv (.tmp 32)), (.int .i64), none⟩] [9, 3, 7, 2, 6]))))))
 (.seq (.ops [⟨(some 63), (.mv (.tmp 6)), .sl, none⟩,
  ⟨(some 4), (.mv (.tmp 63)), .sl, none⟩] [4])
 .ret)))))))
def r20 : List Res := [.t 4]
theorem tr20 : trS Tryd.prog [] 64 (Tryd.f20.body.getD .skip) s20 = some s20 := by kernel_rfl
theorem den20 (args : List Value) (w : World) (R : Ending → World → Prop) (hn : args.length ≤ 64) (h : denS Tryd.prog s20 (argsEnv 0 args) w (endK r20 R)) : Calls Tryd.prog 20 args.toArray w R :=
  calls_of_den (pn := []) (fn := Tryd.f20) (c := Tryd.f20.body.getD .skip) Tryd.func20 (by kernel_rfl) (by rw [Tryd.ntmps20]; exact hn) (by rw [Tryd.ntmps20]; exact tr20) (by kernel_rfl) h
def d20 (k0 : Array Value) (p1 : Array Value) (w : World) (R : Ending → World → Prop) : Prop :=
 ∀ w2 : World, w2 = World.alloc w (.cells k0 29) →
 ∀ w3 : World, w3 = World.alloc w2 (.cells p1 43) →
 ∃ cs4, fillL (.fields [(0, 1), (1, 1), (2, 32), (34, 32), (66, 3)]) (zc Tryd.prog 33) [] = some cs4 ∧
 ∀ w5 : World, w5 = World.alloc w3 (.cells (zc Tryd.prog 33).toArray 33) →
 Array.size (List.toArray cs4) = 69 ∧ (∀ u ∈ Array.toList (List.toArray cs4), one u = true) ∧ Room w5 ⟨World.heap w3 |>.size, 0, none⟩ 69 ∧
 ∀ w6 : World, w6 = setCells w5 ⟨World.heap w3 |>.size, 0, none⟩ (Array.toList (List.toArray cs4)) 0 →
 ∃ J7 : World → Prop,
 (∃ x8 : Bool, World.cell? w6 (Addr.add ⟨World.heap w2 |>.size, 0, none⟩ 1) = some (.bool x8) ∧
 (bif x8 then
 (∃ cs9 : List Value, List.length cs9 = 3 ∧ Cells w6 (Addr.add ⟨World.heap w2 |>.size, 0, none⟩ 2) cs9 ∧
 ∃ cs10, fillL (.fields [(0, 1), (1, 1), (2, 32), (34, 32), (66, 3)]) (zc Tryd.prog 33) [(0, (.int .i64 1)), (4, (.agg (List.toArray cs9)))] = some cs10 ∧
 Array.size (List.toArray cs10) = 69 ∧ (∀ u ∈ Array.toList (List.toArray cs10), one u = true) ∧ Room w6 ⟨World.heap w3 |>.size, 0, none⟩ 69 ∧
 ∀ w11 : World, w11 = setCells w6 ⟨World.heap w3 |>.size, 0, none⟩ (Array.toList (List.toArray cs10)) 0 →
 J7  w11)
 else
 (J7  w6))) ∧
 (∀ (w12 : World), J7  w12 →
 ∃ cs13 : List Value, List.length cs13 = 69 ∧ Cells w12 ⟨World.heap w3 |>.size, 0, none⟩ cs13 ∧
 ∃ cs14, fillL (.elems 69) (zrep (zc Tryd.prog 33) (1 * 69)) [(0, (.agg (List.toArray cs13)))] = some cs14 ∧
 ∀ w15 : World, w15 = World.alloc w12 (.cells (List.toArray cs14) 33) →
 ∃ cs16 : List Value, List.length cs16 = 69 ∧ Cells w15 ⟨World.heap w3 |>.size, 0, none⟩ cs16 ∧
 Calls Tryd.prog 16 #[(.agg (List.toArray cs16))] w15 fun e17 w18 => ∃ x19 : Array Value, ∃ x20 : Int, e17 = .returned (.tuple #[(.agg x19), (.int .i64 x20)]) ∧
 ∃ x21 : Array Value, (#[(.agg x19), (.int .i64 x20)] : Array Value)[0]? = some (.agg x21) ∧
 ∃ x22 : Int, (#[(.agg x19), (.int .i64 x20)] : Array Value)[1]? = some (.int .i64 x22) ∧
 ∀ w23 : World, w23 = World.alloc w18 (.cells (zc Tryd.prog 24).toArray 24) →
 Array.size x21 = 32 ∧ (∀ u ∈ Array.toList x21, one u = true) ∧ Room w23 ⟨World.heap w18 |>.size, 0, none⟩ 32 ∧
 ∀ w24 : World, w24 = setCells w23 ⟨World.heap w18 |>.size, 0, none⟩ (Array.toList x21) 0 →
 ∃ (x25 : Option Addr) (x25n : Nat) (x25c : Nat), World.cell? w24 (Addr.add ⟨World.heap w2 |>.size, 0, none⟩ 0) = some (.slice x25 x25n x25c) ∧
 ∃ I26 : Nat → Option Addr → Nat → Nat → Int → World → Prop,
 (∃ m, I26 m (some ⟨World.heap w12 |>.size, 0, none⟩) 1 1 (IntKind.wrap .i64 (((x25n : Nat) : Int) - 1)) w24) ∧
 (∀ (m27 : Nat) (w28 : World) (l29 : Option Addr) (l29n : Nat) (l29c : Nat) (i30 : Int), I26 m27 l29 l29n l29c i30 w28 →
 (bif (decide (0 ≤ i30)) then
 (∃ (x31 : Option Addr) (x31n : Nat) (x31c : Nat), World.cell? w28 (Addr.add ⟨World.heap w2 |>.size, 0, none⟩ 0) = some (.slice x31 x31n x31c) ∧
 0 ≤ i30 ∧ i30 < ((x31n : Nat) : Int) ∧ optK x31 fun a32 =>
 ∃ cs33 : List Value, List.length cs33 = 33 ∧ Cells w28 (Addr.add a32 (Int.toNat i30 * 33)) cs33 ∧
 ∀ w34 : World, w34 = World.alloc w28 (.cells (zc Tryd.prog 51).toArray 51) →
 Array.size (List.toArray cs33) = 33 ∧ (∀ u ∈ Array.toList (List.toArray cs33), one u = true) ∧ Room w34 ⟨World.heap w28 |>.size, 0, none⟩ 33 ∧
 ∀ w35 : World, w35 = setCells w34 ⟨World.heap w28 |>.size, 0, none⟩ (Array.toList (List.toArray cs33)) 0 →
 ∃ x36 : Int, World.cell? w35 (Addr.add ⟨World.heap w28 |>.size, 0, none⟩ 0) = some (.int .i64 x36) ∧
 ∃ cs37 : List Value, List.length cs37 = 32 ∧ Cells w35 ⟨World.heap w18 |>.size, 0, none⟩ cs37 ∧
 ∃ cs38 : List Value, List.length cs38 = 32 ∧ Cells w35 (Addr.add ⟨World.heap w28 |>.size, 0, none⟩ 1) cs38 ∧
 ∃ cs39, fillL (.fields [(0, 1), (1, 1), (2, 32), (34, 32), (66, 3)]) (zc Tryd.prog 33) [(0, (.int .i64 2)), (1, (.int .i64 x36)), (2, (.agg (List.toArray cs37))), (3, (.agg (List.toArray cs38)))] = some cs39 ∧
 ∀ w40 : World, w40 = World.alloc w35 (.cells (zc Tryd.prog 33).toArray 33) →
 Array.size (List.toArray cs39) = 69 ∧ (∀ u ∈ Array.toList (List.toArray cs39), one u = true) ∧ Room w40 ⟨World.heap w35 |>.size, 0, none⟩ 69 ∧
 ∀ w41 : World, w41 = setCells w40 ⟨World.heap w35 |>.size, 0, none⟩ (Array.toList (List.toArray cs39)) 0 →
 ∃ J42 : World → Prop,
 (∃ cs43 : List Value, List.length cs43 = 2 ∧ Cells w41 ⟨World.heap w |>.size, 0, none⟩ cs43 ∧
 ∃ x44 : Int, World.cell? w41 (Addr.add ⟨World.heap w28 |>.size, 0, none⟩ 0) = some (.int .i64 x44) ∧
 Calls Tryd.prog 59 #[(.agg (List.toArray cs43)), (.int .i64 x44)] w41 fun e45 w46 => ∃ x47 : Int, e45 = .returned (.int .i64 x47) ∧
 (bif (decide (x47 = 1)) then
 (∃ cs48 : List Value, List.length cs48 = 32 ∧ Cells w46 (Addr.add ⟨World.heap w28 |>.size, 0, none⟩ 1) cs48 ∧
 Array.size (List.toArray cs48) = 32 ∧ (∀ u ∈ Array.toList (List.toArray cs48), one u = true) ∧ Room w46 (Addr.add ⟨World.heap w35 |>.size, 0, none⟩ 2) 32 ∧
 ∀ w49 : World, w49 = setCells w46 (Addr.add ⟨World.heap w35 |>.size, 0, none⟩ 2) (Array.toList (List.toArray cs48)) 0 →
 ∃ cs50 : List Value, List.length cs50 = 32 ∧ Cells w49 ⟨World.heap w18 |>.size, 0, none⟩ cs50 ∧
 Array.size (List.toArray cs50) = 32 ∧ (∀ u ∈ Array.toList (List.toArray cs50), one u = true) ∧ Room w49 (Addr.add ⟨World.heap w35 |>.size, 0, none⟩ 34) 32 ∧
 ∀ w51 : World, w51 = setCells w49 (Addr.add ⟨World.heap w35 |>.size, 0, none⟩ 34) (Array.toList (List.toArray cs50)) 0 →
 J42  w51)
 else
 (J42  w46))) ∧
 (∀ (w52 : World), J42  w52 →
 ∃ cs53 : List Value, List.length cs53 = 69 ∧ Cells w52 ⟨World.heap w35 |>.size, 0, none⟩ cs53 ∧
 ∃ cs54, fillL (.elems 69) (zrep (zc Tryd.prog 33) (1 * 69)) [(0, (.agg (List.toArray cs53)))] = some cs54 ∧
 ∀ w55 : World, w55 = World.alloc w52 (.cells (List.toArray cs54) 33) →
 RunV Tryd.prog (Builtin.append_ #[52, 52] 52 #[(.slice l29 l29n l29c), (.slice (some ⟨World.heap w52 |>.size, 0, none⟩) 1 1)]) w55 fun v56 w57 => ∃ (x58 : Option Addr) (x58n : Nat) (x58c : Nat), v56 = (.slice x58 x58n x58c) ∧
 ∃ cs59 : List Value, List.length cs59 = 69 ∧ Cells w57 ⟨World.heap w35 |>.size, 0, none⟩ cs59 ∧
 Calls Tryd.prog 16 #[(.agg (List.toArray cs59))] w57 fun e60 w61 => ∃ x62 : Array Value, ∃ x63 : Int, e60 = .returned (.tuple #[(.agg x62), (.int .i64 x63)]) ∧
 ∃ x64 : Array Value, (#[(.agg x62), (.int .i64 x63)] : Array Value)[0]? = some (.agg x64) ∧
 ∃ x65 : Int, (#[(.agg x62), (.int .i64 x63)] : Array Value)[1]? = some (.int .i64 x65) ∧
 Array.size x64 = 32 ∧ (∀ u ∈ Array.toList x64, one u = true) ∧ Room w61 ⟨World.heap w18 |>.size, 0, none⟩ 32 ∧
 ∀ w66 : World, w66 = setCells w61 ⟨World.heap w18 |>.size, 0, none⟩ (Array.toList x64) 0 →
 ∃ m67, m67 < m27 ∧ I26 m67 x58 x58n x58c (IntKind.wrap .i64 (i30 - 1)) w66))
 else
 (R (.returned (.slice l29 l29n l29c)) w28))))
theorem e20 (k0 : Array Value) (p1 : Array Value) (w : World) (R : Ending → World → Prop) : denS Tryd.prog s20 (argsEnv 0 [(.agg k0), (.agg p1)]) w (endK r20 R) = d20 k0 p1 w R := by kernel_rfl
theorem c20 (k0 : Array Value) (p1 : Array Value) {w : World} {R : Ending → World → Prop} (h : d20 k0 p1 w R) : Calls Tryd.prog 20 #[(.agg k0), (.agg p1)] w R :=
  den20 [(.agg k0), (.agg p1)] w R (by simp) ((e20 k0 p1 w R).symm ▸ h)

/-- prelude/preluderef24.Bit -/
def s59 : S := (.seq (.ops [⟨(some 2), (.box 29 (.tmp 0)), .ptr, none⟩,
  ⟨(some 4), (.mv (.const (.int .i64 0))), (.int .i64), none⟩] [2, 1])
 (.seq (.ops [⟨(some 8), (.ldN 2 (.tmp 2)), .agg, none⟩,
  ⟨(some 9), (.call 72 [(.tmp 8)] [.sl, (.int .i64)]), .any, none⟩,
  ⟨(some 7), (.mv (.tmp 9)), .any, none⟩,
  ⟨(some 10), (.ext 0 (.tmp 7)), .sl, none⟩,
  ⟨(some 11), (.ext 1 (.tmp 7)), (.int .i64), none⟩,
  ⟨(some 5), (.mv (.tmp 10)), .sl, none⟩,
  ⟨(some 6), (.mv (.tmp 11)), (.int .i64), none⟩] [5, 1])
 (.seq (.ops [⟨(some 12), (.mv (.tmp 5)), .sl, none⟩,
  ⟨(some 13), (.mv (.tmp 1)), (.int .i64), none⟩,
  ⟨(some 14), (.bin .quo (.tmp 13) (.const (.int .i64 8))), (.int .i64), none⟩,
  ⟨(some 15), (.ia 1 (.tmp 12) (.tmp 14)), .ptr, none⟩,
  ⟨(some 16), (.ld1 (.tmp 15)), (.int .u8), none⟩,
  ⟨(some 17), (.mv (.tmp 1)), (.int .i64), none⟩,
  ⟨(some 18), (.bin .rem (.tmp 17) (.const (.int .i64 8))), (.int .i64), none⟩,
  ⟨(some 19), (.bin .sub (.const (.int .i64 7)) (.tmp 18)), (.int .i64), none⟩,
  ⟨(some 20), (.bin .shr (.tmp 16) (.tmp 19)), (.int .u8), none⟩,
  ⟨(some 21), (.cv .i64 (.tmp 20)), (.int .i64), none⟩,
  ⟨(some 22), (.bin .and (.tmp 21) (.const (.int .i64 1))), (.int .i64), none⟩,
  ⟨(some 4), (.mv (.tmp 22)), (.int .i64), none⟩] [4])
 .ret)))
def r59 : List Res := [.t 4]
theorem tr59 : trS Tryd.prog [] 23 (Tryd.f59.body.getD .skip) s59 = some s59 := by kernel_rfl
theorem den59 (args : List Value) (w : World) (R : Ending → World → Prop) (hn : args.length ≤ 23) (h : denS Tryd.prog s59 (argsEnv 0 args) w (endK r59 R)) : Calls Tryd.prog 59 args.toArray w R :=
  calls_of_den (pn := []) (fn := Tryd.f59) (c := Tryd.f59.body.getD .skip) Tryd.func59 (by kernel_rfl) (by rw [Tryd.ntmps59]; exact hn) (by rw [Tryd.ntmps59]; exact tr59) (by kernel_rfl) h
def d59 (k0 : Array Value) (n1 : Int) (w : World) (R : Ending → World → Prop) : Prop :=
 ∀ w2 : World, w2 = World.alloc w (.cells k0 29) →
 ∃ cs3 : List Value, List.length cs3 = 2 ∧ Cells w2 ⟨World.heap w |>.size, 0, none⟩ cs3 ∧
 Calls Tryd.prog 72 #[(.agg (List.toArray cs3))] w2 fun e4 w5 => ∃ (x6 : Option Addr) (x6n : Nat) (x6c : Nat), ∃ x7 : Int, e4 = .returned (.tuple #[(.slice x6 x6n x6c), (.int .i64 x7)]) ∧
 ∃ (x8 : Option Addr) (x8n : Nat) (x8c : Nat), (#[(.slice x6 x6n x6c), (.int .i64 x7)] : Array Value)[0]? = some (.slice x8 x8n x8c) ∧
 ∃ x9 : Int, (#[(.slice x6 x6n x6c), (.int .i64 x7)] : Array Value)[1]? = some (.int .i64 x9) ∧
 (8 : Int) ≠ 0 ∧ 0 ≤ (IntKind.wrap .i64 (Int.tdiv n1 8)) ∧ (IntKind.wrap .i64 (Int.tdiv n1 8)) < ((x8n : Nat) : Int) ∧ optK x8 fun a10 =>
 ∃ x11 : Int, World.cell? w5 (Addr.add a10 (Int.toNat (IntKind.wrap .i64 (Int.tdiv n1 8)) * 1)) = some (.int .u8 x11) ∧
 (8 : Int) ≠ 0 ∧ 0 ≤ (IntKind.wrap .i64 (7 - (Int.tmod n1 8))) ∧ R (.returned (.int .i64 (bAnd .i64 (IntKind.wrap .i64 (shR .u8 x11 (IntKind.wrap .i64 (7 - (Int.tmod n1 8))))) 1))) w5
theorem e59 (k0 : Array Value) (n1 : Int) (w : World) (R : Ending → World → Prop) : denS Tryd.prog s59 (argsEnv 0 [(.agg k0), (.int .i64 n1)]) w (endK r59 R) = d59 k0 n1 w R := by kernel_rfl
theorem c59 (k0 : Array Value) (n1 : Int) {w : World} {R : Ending → World → Prop} (h : d59 k0 n1 w R) : Calls Tryd.prog 59 #[(.agg k0), (.int .i64 n1)] w R :=
  den59 [(.agg k0), (.int .i64 n1)] w R (by simp) ((e59 k0 n1 w R).symm ▸ h)

/-- prelude/proof.bit -/
def s75 : S := (.seq (.ops [⟨(some 4), (.mv (.const (.int .u8 0))), (.int .u8), none⟩] [0, 1])
 (.seq (.ops [⟨(some 5), (.mv (.tmp 0)), .sl, none⟩,
  ⟨(some 6), (.mv (.tmp 1)), (.int .i64), none⟩,
  ⟨(some 7), (.bin .quo (.tmp 6) (.const (.int .i64 8))), (.int .i64), none⟩,
  ⟨(some 8), (.ia 1 (.tmp 5) (.tmp 7)), .ptr, none⟩,
  ⟨(some 9), (.ld1 (.tmp 8)), (.int .u8), none⟩,
  ⟨(some 10), (.mv (.tmp 1)), (.int .i64), none⟩,
  ⟨(some 11), (.bin .rem (.tmp 10) (.const (.int .i64 8))), (.int .i64), none⟩,
  ⟨(some 12), (.bin .sub (.const (.int .i64 7)) (.tmp 11)), (.int .i64), none⟩,
  ⟨(some 13), (.bin .shr (.tmp 9) (.tmp 12)), (.int .u8), none⟩,
  ⟨(some 14), (.bin .and (.tmp 13) (.const (.int .u8 1))), (.int .u8), none⟩,
  ⟨(some 4), (.mv (.tmp 14)), (.int .u8), none⟩] [4])
 .ret))
def r75 : List Res := [.t 4]
theorem tr75 : trS Tryd.prog [] 15 (Tryd.f75.body.getD .skip) s75 = some s75 := by kernel_rfl
theorem den75 (args : List Value) (w : World) (R : Ending → World → Prop) (hn : args.length ≤ 15) (h : denS Tryd.prog s75 (argsEnv 0 args) w (endK r75 R)) : Calls Tryd.prog 75 args.toArray w R :=
  calls_of_den (pn := []) (fn := Tryd.f75) (c := Tryd.f75.body.getD .skip) Tryd.func75 (by kernel_rfl) (by rw [Tryd.ntmps75]; exact hn) (by rw [Tryd.ntmps75]; exact tr75) (by kernel_rfl) h
def d75 (b0 : Option Addr) (b0n : Nat) (b0c : Nat) (n1 : Int) (w : World) (R : Ending → World → Prop) : Prop :=
 (8 : Int) ≠ 0 ∧ 0 ≤ (IntKind.wrap .i64 (Int.tdiv n1 8)) ∧ (IntKind.wrap .i64 (Int.tdiv n1 8)) < ((b0n : Nat) : Int) ∧ optK b0 fun a2 =>
 ∃ x3 : Int, World.cell? w (Addr.add a2 (Int.toNat (IntKind.wrap .i64 (Int.tdiv n1 8)) * 1)) = some (.int .u8 x3) ∧
 (8 : Int) ≠ 0 ∧ 0 ≤ (IntKind.wrap .i64 (7 - (Int.tmod n1 8))) ∧ R (.returned (.int .u8 (bAnd .u8 (shR .u8 x3 (IntKind.wrap .i64 (7 - (Int.tmod n1 8)))) 1))) w
theorem e75 (b0 : Option Addr) (b0n : Nat) (b0c : Nat) (n1 : Int) (w : World) (R : Ending → World → Prop) : denS Tryd.prog s75 (argsEnv 0 [(.slice b0 b0n b0c), (.int .i64 n1)]) w (endK r75 R) = d75 b0 b0n b0c n1 w R := by kernel_rfl
theorem c75 (b0 : Option Addr) (b0n : Nat) (b0c : Nat) (n1 : Int) {w : World} {R : Ending → World → Prop} (h : d75 b0 b0n b0c n1 w R) : Calls Tryd.prog 75 #[(.slice b0 b0n b0c), (.int .i64 n1)] w R :=
  den75 [(.slice b0 b0n b0c), (.int .i64 n1)] w R (by simp) ((e75 b0 b0n b0c n1 w R).symm ▸ h)

/-- slices.Backward[[]prelude/api.Fork,prelude/api.Fork] -/
def s74 : S := (.seq (.ops [⟨(some 1), (.box 41 (.tmp 0)), .ptr, none⟩,
  ⟨(some 2), (.mv (.const .nilFunc)), .any, none⟩] [1])
 (.seq (.ops [⟨(some 3), (.mkF (.func 88) [] [(.tmp 1)]), .any, none⟩,
  ⟨(some 2), (.mv (.tmp 3)), .any, none⟩] [2])
 .ret))
def r74 : List Res := [.t 2]
theorem tr74 : trS Tryd.prog [] 4 (Tryd.f74.body.getD .skip) s74 = some s74 := by kernel_rfl
theorem den74 (args : List Value) (w : World) (R : Ending → World → Prop) (hn : args.length ≤ 4) (h : denS Tryd.prog s74 (argsEnv 0 args) w (endK r74 R)) : Calls Tryd.prog 74 args.toArray w R :=
  calls_of_den (pn := []) (fn := Tryd.f74) (c := Tryd.f74.body.getD .skip) Tryd.func74 (by kernel_rfl) (by rw [Tryd.ntmps74]; exact hn) (by rw [Tryd.ntmps74]; exact tr74) (by kernel_rfl) h
def d74 (s0 : Option Addr) (s0n : Nat) (s0c : Nat) (w : World) (R : Ending → World → Prop) : Prop :=
 ∀ w1 : World, w1 = World.alloc w (.cells #[(.slice s0 s0n s0c)] 41) →
 R (.returned (Value.func (.func 88) #[] #[(.pointer (some ⟨World.heap w |>.size, 0, none⟩))])) w1
theorem e74 (s0 : Option Addr) (s0n : Nat) (s0c : Nat) (w : World) (R : Ending → World → Prop) : denS Tryd.prog s74 (argsEnv 0 [(.slice s0 s0n s0c)]) w (endK r74 R) = d74 s0 s0n s0c w R := by kernel_rfl
theorem c74 (s0 : Option Addr) (s0n : Nat) (s0c : Nat) {w : World} {R : Ending → World → Prop} (h : d74 s0 s0n s0c w R) : Calls Tryd.prog 74 #[(.slice s0 s0n s0c)] w R :=
  den74 [(.slice s0 s0n s0c)] w R (by simp) ((e74 s0 s0n s0c w R).symm ▸ h)

end Go.Proofs.YtjkbjppopdfggaaDoor.Fn
