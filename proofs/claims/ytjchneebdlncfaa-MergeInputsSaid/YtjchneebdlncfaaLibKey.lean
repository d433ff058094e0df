/-
  KEYS: their ten bytes; contracts of Check, form, Bytes, FromBytes, Compare, Rises and of the reference's.
  Own work. No macro, syntax, notation, axiom.
-/
import Derived.Test.YtjchneebdlncfaaLibBase
import Derived.Test.YtjchneebdlncfaaFnKey
import Derived.Test.YtjchneebdlncfaaDenWords10
namespace Go.Proofs.Ytjchneebdlncfaa.Lib
open Go Den Fn
open Go.RowKit (Below)
set_option maxRecDepth 8000
set_option maxHeartbeats 1000000

def KeyOk (t : Int) : Prop := 0 ≤ t ∧ t ≤ 65535
instance (t : Int) : Decidable (KeyOk t) := by unfold KeyOk; infer_instance
abbrev keyC (t r : Int) : List Value := [.int .i64 t, .int .i64 r]
def rowU (r : Int) : Int := bXor .u64 (IntKind.wrap .u64 r) 9223372036854775808
/-- The eight bytes of a number, the high ones first. -/
def be8 (u : Int) : List Int := (List.range 8).map fun i : Nat => IntKind.wrap .u8 (shR .u64 u (56 - 8 * (i : Int)))
def keyB (t r : Int) : List Int := [IntKind.wrap .u8 (shR .i64 t 8), IntKind.wrap .u8 t] ++ be8 (rowU r)
theorem be8_length (u : Int) : (be8 u).length = 8 := by simp [be8]
theorem keyB_length (t r : Int) : (keyB t r).length = 10 := by simp [keyB, be8_length]
theorem be8_bytes (u : Int) : Bytes (be8 u) := by
  intro x hx
  simp only [be8, List.mem_map] at hx
  obtain ⟨i, _, rfl⟩ := hx
  exact wrap_u8_byte _
theorem keyB_bytes (t r : Int) : Bytes (keyB t r) := by
  refine Bytes.append (fun x hx => ?_) (be8_bytes _)
  simp at hx
  rcases hx with rfl | rfl <;> exact wrap_u8_byte _
theorem be8_take {u : Int} {i : Nat} (h : i < 8) : (be8 u).take (i + 1) = (be8 u).take i ++ [IntKind.wrap .u8 (shR .u64 u (56 - 8 * (i : Int)))] := by
  rw [List.take_succ_eq_append_getElem (by rw [be8_length]; exact h)]
  simp [be8]
theorem rowU_range (r : Int) : 0 ≤ rowU r ∧ rowU r < 18446744073709551616 := by
  unfold rowU bXor
  rw [wrap_u64_eq]
  omega

theorem zc140 : zc Try.prog 142 = u8 (List.replicate 10 0) := by kernel_rfl
theorem check_c (t r : Int) (w : World) : Calls Try.prog 72 #[.agg (keyC t r).toArray] w fun e w' => e = .returned (.int .i64 (if KeyOk t then 0 else 20)) ∧ Tch [] w w' := by
  refine c72 _ ?_
  unfold d72
  rintro w1 rfl
  have hX := Blk.fresh w (cs := keyC t r) 97 rfl
  have ht := (Tch.refl [] w).alloc (.cells (keyC t r).toArray 97)
  rw [add_mk]
  refine ⟨t, hX.cell 0, ?_⟩
  by_cases h1 : t < 0
  · rw [bif_pos h1, if_neg (by unfold KeyOk; omega)]
    exact ⟨rfl, ht⟩
  rw [bif_neg h1]
  refine ⟨t, hX.cell 0, ?_⟩
  by_cases h2 : 65535 < t
  · rw [bif_pos h2, if_neg (by unfold KeyOk; omega)]
    exact ⟨rfl, ht⟩
  rw [bif_neg h2, if_pos (by unfold KeyOk; omega)]
  exact ⟨rfl, ht⟩
theorem refCheck_c (t r : Int) (w : World) : Calls Try.prog 89 #[.agg (keyC t r).toArray] w fun e w' => e = .returned (.int .i64 (if KeyOk t then 0 else 20)) ∧ Tch [] w w' := by
  refine c89 _ ?_
  unfold d89
  rintro w1 rfl
  have hX := Blk.fresh w (cs := keyC t r) 97 rfl
  have ht := (Tch.refl [] w).alloc (.cells (keyC t r).toArray 97)
  rw [add_mk]
  refine ⟨t, hX.cell 0, ?_⟩
  by_cases h1 : t < 0
  · rw [bif_pos h1, if_neg (by unfold KeyOk; omega)]
    exact ⟨rfl, ht⟩
  rw [bif_neg h1]
  refine ⟨t, hX.cell 0, ?_⟩
  by_cases h2 : 65535 < t
  · rw [bif_pos h2, if_neg (by unfold KeyOk; omega)]
    exact ⟨rfl, ht⟩
  rw [bif_neg h2, if_pos (by unfold KeyOk; omega)]
  exact ⟨rfl, ht⟩

theorem form_c (t r : Int) (w : World) : Calls Try.prog 73 #[.agg (keyC t r).toArray] w fun e w' => e = .returned (.agg (u8 (keyB t r)).toArray) ∧ Tch [] w w' := by
  refine c73 _ ?_
  unfold d73
  rintro w1 rfl
  have hK := Blk.fresh w (cs := keyC t r) 97 rfl
  have ht := (Tch.refl [] w).alloc (.cells (keyC t r).toArray 97)
  have s1 := size_alloc w (.cells (keyC t r).toArray 97)
  generalize w.alloc (.cells (keyC t r).toArray 97) = W1 at *
  rintro w2 rfl
  have hO : Blk _ _ (u8 (List.replicate 10 0)) := Blk.fresh W1 142 zc140
  have s2 := size_alloc W1 (.cells (zc Try.prog 142).toArray 142)
  replace hK := hK.alloc (.cells (zc Try.prog 142).toArray 142)
  replace ht := ht.alloc (.cells (zc Try.prog 142).toArray 142)
  generalize W1.alloc (.cells (zc Try.prog 142).toArray 142) = W2 at *
  rintro w3 rfl
  have hB : Blk _ _ (u8 (List.replicate 10 0)) := Blk.fresh W2 142 zc140
  replace hK := hK.alloc (.cells (zc Try.prog 142).toArray 142)
  replace hO := hO.alloc (.cells (zc Try.prog 142).toArray 142)
  replace ht := ht.alloc (.cells (zc Try.prog 142).toArray 142)
  rintro w4 rfl
  replace hK := hK.drew
  replace hO := hO.drew
  replace hB := hB.drew
  replace ht := ht.drew
  generalize (W2.alloc (.cells (zc Try.prog 142).toArray 142)).drew = W at *
  generalize hob : W1.heap.size = ob at *
  generalize hbb : W2.heap.size = bb at *
  generalize hkb : w.heap.size = kb at *
  simp only [add_mk, Nat.zero_add, Nat.mul_one]
  refine ⟨t, hK.cell 0, by omega, t, hK.cell 0, by omega, by omega, rfl, by rw [show Int.toNat 0 = 0 from rfl, hB.cell]; rfl, hB.frozen _, ?_⟩
  rintro w7 rfl
  have hB1 := hB.setInt 0 (IntKind.wrap .u8 (shR .i64 t 8))
  have hK1 := hK.set_ne (a := ⟨bb, 0, none⟩) (by show kb ≠ bb; omega) (.int .u8 (IntKind.wrap .u8 (shR .i64 t 8)))
  refine ⟨⟨t, hK1.cell 0, rfl, trivial⟩, by omega, by omega, rfl, by rw [show Int.toNat 1 = 1 from rfl]; erw [hB1.cell]; rfl, hB1.frozen _, ?_⟩
  rintro w9 rfl
  have hB2 := hB1.setInt 1 (IntKind.wrap .u8 t)
  have hK2 := hK1.set_ne (a := ⟨bb, 1, none⟩) (by show kb ≠ bb; omega) (.int .u8 (IntKind.wrap .u8 t))
  have hO2 := (hO.set_ne (a := ⟨bb, 0, none⟩) (by show ob ≠ bb; omega) (.int .u8 (IntKind.wrap .u8 (shR .i64 t 8)))).set_ne (a := ⟨bb, 1, none⟩) (by show ob ≠ bb; omega) (.int .u8 (IntKind.wrap .u8 t))
  refine ⟨r, hK2.cell 1, ?_⟩
  refine ⟨fun m x w' => ∃ (i : Nat) (l : List Int), i ≤ 8 ∧ x = i ∧ m = 8 - i ∧ Blk w' bb (u8 l) ∧ l.length = 10 ∧ l.take (2 + i) = (keyB t r).take (2 + i) ∧ Blk w' ob (u8 (List.replicate 10 0)) ∧ Tch [] w w', ⟨8, 0, _, by omega, rfl, rfl, hB2, rfl, rfl, hO2, (ht.setCell (.inr (by show _ ≤ bb; omega)) _).setCell (.inr (by show _ ≤ bb; omega)) _⟩, ?_⟩
  clear hB hB1 hB2 hK hK1 hK2 hO hO2 ht
  rintro m w13 x ⟨i, l, hi, rfl, rfl, hB, hll, htk, hO, ht⟩
  by_cases hlt : i < 8
  · rw [bif_pos (by omega), wrap_i64 (n := 8 * (i : Int)) (by omega) (by omega), wrap_i64 (n := 56 - 8 * (i : Int)) (by omega) (by omega), wrap_i64 (n := 2 + (i : Int)) (by omega) (by omega), show Int.toNat (2 + (i : Int)) = 2 + i by omega]
    refine ⟨by omega, by omega, by omega, rfl, by rw [hB.int (by omega)]; rfl, hB.frozen _, ?_⟩
    rintro w15 rfl
    rw [wrap_i64 (by omega) (by omega)]
    refine ⟨8 - (i + 1), by omega, i + 1, _, by omega, rfl, rfl, hB.setInt _ _, by simpa using hll, ?_, hO.set_ne (by show ob ≠ bb; omega) _, ht.setCell (.inr (by show _ ≤ bb; omega)) _⟩
    rw [← Nat.add_assoc, take_set_len (by omega), htk, List.take_succ_eq_append_getElem (by rw [keyB_length]; omega)]
    congr 2
    show IntKind.wrap .u8 (shR .u64 (rowU r) (56 - 8 * (i : Int))) = _
    have : (keyB t r)[2 + i]'(by rw [keyB_length]; omega) = (be8 (rowU r))[i]'(by rw [be8_length]; omega) := by
      simp only [keyB]
      rw [List.getElem_append_right (by simp)]
      simp
    rw [this]
    simp [be8]
  · have : i = 8 := by omega
    subst this
    rw [bif_neg (by omega)]
    have hl : l = keyB t r := by rw [← List.take_of_length_le (l := l) (i := 2 + 8) (by omega), htk, List.take_of_length_le (by rw [keyB_length]; omega)]
    subst hl
    refine get_all hB (by rw [List.length_map, hll]) ?_
    refine put_all hO (by simp) (by rw [List.length_map, hll]) ones_ints fun w' h1 h2 _ => ?_
    exact get_all h1 (by rw [List.length_map, hll]) ⟨rfl, ht.trans h2 (by simp; omega)⟩

theorem shR_le {u : Int} (i : Nat) (hi : i < 8) : shR .u64 u (56 - 8 * ((7 - i : Nat) : Int)) = u / 256 ^ i := by
  unfold shR
  have e : (56 - 8 * ((7 - i : Nat) : Int)).toNat = 8 * i := by omega
  rw [e, show min (8 * i) (IntKind.bits .u64) = 8 * i from Nat.min_eq_left (by show 8 * i ≤ 64; omega), Int.pow_mul, show (2 : Int) ^ 8 = 256 from rfl, Int.fdiv_eq_ediv_of_nonneg _ (Int.pow_nonneg (by omega))]
theorem be8_getD {u : Int} (j : Nat) (hj : j < 8) : (be8 u).getD (7 - j) 0 = IntKind.wrap .u8 (u / 256 ^ j) := by
  rw [← shR_le j hj]
  have : 7 - j < 8 := by omega
  simp [be8, List.getD_eq_getElem?_getD, this]
theorem keyB_getD {t r : Int} (j : Nat) (hj : j < 8) : (keyB t r).getD (9 - j) 0 = IntKind.wrap .u8 (rowU r / 256 ^ j) := by
  rw [← be8_getD j hj]
  simp only [keyB, List.getD_eq_getElem?_getD]
  rw [List.getElem?_append_right (by simp; omega)]
  simp only [List.length_cons, List.length_nil]
  congr 2
  omega
theorem ten_c (t r : Int) (w : World) (hk : KeyOk t) : Calls Try.prog 90 #[.agg (keyC t r).toArray] w fun e w' => e = .returned (.agg (u8 (keyB t r)).toArray) ∧ Tch [] w w' := by
  refine c90 _ ?_
  unfold d90
  rintro w1 rfl
  have hK := Blk.fresh w (cs := keyC t r) 97 rfl
  have ht := (Tch.refl [] w).alloc (.cells (keyC t r).toArray 97)
  have s1 := size_alloc w (.cells (keyC t r).toArray 97)
  generalize w.alloc (.cells (keyC t r).toArray 97) = W1 at *
  rintro w2 rfl
  have hO : Blk _ _ (u8 (List.replicate 10 0)) := Blk.fresh W1 142 zc140
  have s2 := size_alloc W1 (.cells (zc Try.prog 142).toArray 142)
  replace hK := hK.alloc (.cells (zc Try.prog 142).toArray 142)
  replace ht := ht.alloc (.cells (zc Try.prog 142).toArray 142)
  generalize W1.alloc (.cells (zc Try.prog 142).toArray 142) = W2 at *
  rintro w3 rfl
  have hB : Blk _ _ (u8 (List.replicate 10 0)) := Blk.fresh W2 142 zc140
  replace hK := hK.alloc (.cells (zc Try.prog 142).toArray 142)
  replace hO := hO.alloc (.cells (zc Try.prog 142).toArray 142)
  replace ht := ht.alloc (.cells (zc Try.prog 142).toArray 142)
  generalize W2.alloc (.cells (zc Try.prog 142).toArray 142) = W at *
  generalize hob : W1.heap.size = ob at *
  generalize hbb : W2.heap.size = bb at *
  generalize hkb : w.heap.size = kb at *
  unfold KeyOk at hk
  simp only [add_mk, Nat.zero_add, Nat.mul_one]
  refine ⟨t, hK.cell 0, by omega, by omega, by omega, rfl, by rw [show Int.toNat 0 = 0 from rfl, hB.cell]; rfl, hB.frozen _, ?_⟩
  rintro w5 rfl
  have hB1 := hB.setInt 0 (IntKind.wrap .u8 (IntKind.wrap .i64 (Int.tdiv t 256)))
  have hK1 := hK.set_ne (a := ⟨bb, 0, none⟩) (by show kb ≠ bb; omega) (.int .u8 (IntKind.wrap .u8 (IntKind.wrap .i64 (Int.tdiv t 256))))
  refine ⟨t, hK1.cell 0, by omega, by omega, by omega, rfl, by rw [show Int.toNat 1 = 1 from rfl]; erw [hB1.cell]; rfl, hB1.frozen _, ?_⟩
  rintro w7 rfl
  have hB2 := hB1.setInt 1 (IntKind.wrap .u8 (Int.tmod t 256))
  have hK2 := hK1.set_ne (a := ⟨bb, 1, none⟩) (by show kb ≠ bb; omega) (.int .u8 (IntKind.wrap .u8 (Int.tmod t 256)))
  have hO2 := (hO.set_ne (a := ⟨bb, 0, none⟩) (by show ob ≠ bb; omega) (.int .u8 (IntKind.wrap .u8 (IntKind.wrap .i64 (Int.tdiv t 256))))).set_ne (a := ⟨bb, 1, none⟩) (by show ob ≠ bb; omega) (.int .u8 (IntKind.wrap .u8 (Int.tmod t 256)))
  refine ⟨r, hK2.cell 1, ?_⟩
  have hU := rowU_range r
  refine ⟨fun m u x w' => ∃ (i : Nat) (l : List Int), i ≤ 8 ∧ x = i ∧ u = rowU r / 256 ^ i ∧ m = 8 - i ∧ Blk w' bb (u8 l) ∧ l.length = 10 ∧ (∀ p, p < 10 → (p < 2 ∨ 9 - i < p) → l.getD p 0 = (keyB t r).getD p 0) ∧ Blk w' ob (u8 (List.replicate 10 0)) ∧ Tch [] w w', ⟨8, 0, _, by omega, rfl, ?_, rfl, hB2, rfl, ?_, hO2, (ht.setCell (.inr (by show _ ≤ bb; omega)) _).setCell (.inr (by show _ ≤ bb; omega)) _⟩, ?_⟩
  · show rowU r = _
    simp
  · intro p hp hq
    have hq : p = 0 ∨ p = 1 := by omega
    rcases hq with rfl | rfl
    · show IntKind.wrap .u8 (IntKind.wrap .i64 (Int.tdiv t 256)) = IntKind.wrap .u8 (shR .i64 t 8)
      rw [Int.tdiv_eq_ediv_of_nonneg hk.1, wrap_i64 (by omega) (by omega)]
      unfold shR
      rw [show min (Int.toNat 8) (IntKind.bits .i64) = 8 from rfl, Int.fdiv_eq_ediv_of_nonneg _ (by decide)]
      rfl
    · show IntKind.wrap .u8 (Int.tmod t 256) = IntKind.wrap .u8 t
      rw [Int.tmod_eq_emod_of_nonneg hk.1, wrap_u8_eq, wrap_u8_eq]
      omega
  clear hB hB1 hB2 hK hK1 hK2 hO hO2 ht
  rintro m w13 u x ⟨i, l, hi, rfl, rfl, rfl, hB, hll, hp, hO, ht⟩
  have h256 : (0 : Int) < 256 ^ i := Int.pow_pos (by omega)
  have hu0 : 0 ≤ rowU r / 256 ^ i := Int.ediv_nonneg hU.1 (by omega)
  have hu1 : rowU r / 256 ^ i < 18446744073709551616 := Int.lt_of_le_of_lt (Int.ediv_le_self _ hU.1) hU.2
  by_cases hlt : i < 8
  · rw [bif_pos (by omega), wrap_i64 (n := 9 - (i : Int)) (by omega) (by omega), show Int.toNat (9 - (i : Int)) = 9 - i by omega]
    refine ⟨by omega, by omega, by omega, rfl, by rw [hB.int (by omega)]; rfl, hB.frozen _, ?_⟩
    rintro w14 rfl
    rw [wrap_i64 (by omega) (by omega), Int.tdiv_eq_ediv_of_nonneg hu0, wrap_u64 (by omega) (by omega), Int.ediv_ediv_of_nonneg (by omega), ← Int.pow_succ]
    refine ⟨by omega, 8 - (i + 1), by omega, i + 1, _, by omega, rfl, rfl, rfl, hB.setInt _ _, by simpa using hll, ?_, hO.set_ne (by show ob ≠ bb; omega) _, ht.setCell (.inr (by show _ ≤ bb; omega)) _⟩
    intro p h1 h2
    by_cases hpe : p = 9 - i
    · subst hpe
      rw [getD_set_self (by omega), keyB_getD i hlt, Int.tmod_eq_emod_of_nonneg hu0, wrap_u8_eq, wrap_u8_eq]
      omega
    · rw [getD_set_ne (fun e => hpe e.symm)]
      exact hp p h1 (by omega)
  · have : i = 8 := by omega
    subst this
    rw [bif_neg (by omega)]
    have hl : l = keyB t r := ext_getD hll (keyB_length _ _) fun p h => hp p h (by omega)
    subst hl
    refine get_all hB (by rw [List.length_map, hll]) ?_
    refine put_all hO (by simp) (by rw [List.length_map, hll]) ones_ints fun w' h1 h2 _ => ?_
    exact get_all h1 (by rw [List.length_map, hll]) ⟨rfl, ht.trans h2 (by simp; omega)⟩

theorem bytes_c (t r : Int) (w : World) : Calls Try.prog 61 #[.agg (keyC t r).toArray] w fun e w' =>
    if KeyOk t then ∃ a c, e = .returned (.tuple #[.slice a 10 c, .int .i64 0]) ∧ w'.ownsRow w.heap.size 5 1 (.slice a 10 c) 10 (u8 (keyB t r)) ∧ Tch [] w w'
    else e = .returned (.tuple #[.slice none 0 0, .int .i64 20]) ∧ Tch [] w w' := by
  refine c61 _ ?_
  unfold d61
  rintro w1 rfl
  have hK := Blk.fresh w (cs := keyC t r) 97 rfl
  have ht := (Tch.refl [] w).alloc (.cells (keyC t r).toArray 97)
  refine get_all hK rfl ?_
  refine (check_c t r _).mono ?_
  rintro e w4 ⟨rfl, ht4⟩
  refine ⟨_, rfl, ?_⟩
  replace hK := hK.tch ht4 (by simp)
  replace ht := ht.trans ht4 (by simp)
  by_cases hk : KeyOk t
  · rw [if_pos hk, bif_npos rfl]
    simp only [if_pos hk]
    refine get_all hK rfl ?_
    refine (form_c t r w4).mono ?_
    rintro e w8 ⟨rfl, ht8⟩
    replace ht := ht.trans ht8 (by simp)
    refine ⟨_, rfl, ?_⟩
    refine var_init (by rw [zc140]; simp) (by rw [List.length_map, keyB_length]) ones_ints fun w10 w11 h1 h2 h3 => ?_
    have hs8 := ht.size
    refine app_row bT (own_nil w11 w.heap.size 5 1) (ys := u8 (keyB t r)) (m := 10) (mc := 10) ?_ (by omega) (by omega) (by omega) fun a' c' w' h4 h5 => ?_
    · exact h1.rsl (by rw [List.length_map, keyB_length]) ones_ints
    · exact ⟨a', c', rfl, h4, (ht.trans h2 (by simp)).up h5 (Nat.le_refl _)⟩
  · rw [if_neg hk, bif_nneg (by omega)]
    simp only [if_neg hk]
    exact ⟨trivial, ht⟩
theorem refBytes_c (t r : Int) (w : World) : Calls Try.prog 83 #[.agg (keyC t r).toArray] w fun e w' =>
    if KeyOk t then ∃ a c, e = .returned (.tuple #[.slice a 10 c, .int .i64 0]) ∧ w'.ownsRow w.heap.size 5 1 (.slice a 10 c) 10 (u8 (keyB t r)) ∧ Tch [] w w'
    else e = .returned (.tuple #[.slice none 0 0, .int .i64 20]) ∧ Tch [] w w' := by
  refine c83 _ ?_
  unfold d83
  rintro w1 rfl
  have hK := Blk.fresh w (cs := keyC t r) 97 rfl
  have ht := (Tch.refl [] w).alloc (.cells (keyC t r).toArray 97)
  refine get_all hK rfl ?_
  refine (refCheck_c t r _).mono ?_
  rintro e w4 ⟨rfl, ht4⟩
  refine ⟨_, rfl, ?_⟩
  replace hK := hK.tch ht4 (by simp)
  replace ht := ht.trans ht4 (by simp)
  by_cases hk : KeyOk t
  · rw [if_pos hk, bif_npos rfl]
    simp only [if_pos hk]
    refine get_all hK rfl ?_
    refine (ten_c t r w4 hk).mono ?_
    rintro e w8 ⟨rfl, ht8⟩
    replace ht := ht.trans ht8 (by simp)
    refine ⟨_, rfl, ?_⟩
    refine var_init (by rw [zc140]; simp) (by rw [List.length_map, keyB_length]) ones_ints fun w10 w11 h1 h2 h3 => ?_
    have hs8 := ht.size
    replace ht := ht.trans h2 (by simp)
    refine ⟨fun m a' n' c' x w' => ∃ i : Nat, i ≤ 10 ∧ x = i ∧ i = n' ∧ m = 10 - i ∧ w'.ownsRow w11.heap.size 5 1 (.slice a' n' c') n' (u8 ((keyB t r).take i)) ∧ Below w11.heap.size w11 w', ⟨10, 0, by omega, rfl, rfl, rfl, own_nil _ _ _ _, Below.refl _ _⟩, ?_⟩
    rintro m w14 a' n' c' x ⟨i, hi, rfl, rfl, rfl, hown, hb⟩
    by_cases hlt : i < 10
    · rw [bif_pos (by omega), add_mk, Int.toNat_natCast, Nat.mul_one, Nat.zero_add]
      refine ⟨by omega, by omega, _, (h1.below hb h1.lt).int (by rw [keyB_length]; exact hlt), ?_⟩
      refine app_elem bT hown (by rw [zc8]; rfl) (ys := u8 [(keyB t r).getD i 0]) rfl rfl ones_ints hb.size (by omega) (by omega) fun a2 c2 w2 g1 g2 => ?_
      rw [wrap_i64 (by omega) (by omega)]
      refine ⟨10 - (i + 1), by omega, i + 1, by omega, rfl, rfl, rfl, ?_, hb.trans g2⟩
      rw [List.take_succ_eq_append_getElem (by rw [keyB_length]; exact hlt)]
      rw [← List.map_append] at g1
      simpa [List.getD_eq_getElem?_getD, show i < (keyB t r).length by rw [keyB_length]; exact hlt] using g1
    · have : i = 10 := by omega
      subst this
      rw [bif_neg (by omega)]
      rw [List.take_of_length_le (by rw [keyB_length]; omega)] at hown
      exact ⟨a', c', rfl, own_base hown (by omega), ht.up hb (by omega)⟩
  · rw [if_neg hk, bif_nneg (by omega)]
    simp only [if_neg hk]
    exact ⟨trivial, ht⟩

/-! ### A key out of ten bytes -/
theorem xor63 {x : Int} (h0 : 0 ≤ x) (h1 : x < 18446744073709551616) : bXor .u64 x 9223372036854775808 = if x < 9223372036854775808 then x + 9223372036854775808 else x - 9223372036854775808 := by
  obtain ⟨n, rfl⟩ := Int.eq_ofNat_of_zero_le h0
  have hn : n < 18446744073709551616 := by omega
  unfold bXor
  rw [BitVec.toNat_xor, toNat_ofInt (n := IntKind.bits .u64) (by omega) (by show (n : Int) < 18446744073709551616; omega), show (BitVec.ofInt (IntKind.bits .u64) 9223372036854775808).toNat = 2 ^ 63 from rfl, Int.toNat_natCast]
  have e1 : (n ^^^ 2 ^ 63) / 2 ^ 63 = n / 2 ^ 63 ^^^ 1 := by rw [Nat.xor_div_two_pow]
  have e2 : (n ^^^ 2 ^ 63) % 2 ^ 63 = n % 2 ^ 63 := by rw [Nat.xor_mod_two_pow, Nat.mod_self, Nat.xor_zero]
  have e3 : n ^^^ 2 ^ 63 = if n < 9223372036854775808 then n + 9223372036854775808 else n - 9223372036854775808 := by
    have h2 : n / 2 ^ 63 = if n < 9223372036854775808 then 0 else 1 := by split <;> omega
    rw [h2] at e1
    generalize n ^^^ 2 ^ 63 = y at *
    split at e1
    · rw [if_pos (by assumption)]; have : (0 ^^^ 1 : Nat) = 1 := rfl; omega
    · rw [if_neg (by assumption)]; have : (1 ^^^ 1 : Nat) = 0 := rfl; omega
  rw [e3]
  split
  · rw [if_pos (by omega), wrap_u64 (by omega) (by omega)]; omega
  · rw [if_neg (by omega), wrap_u64 (by omega) (by omega)]; omega
def rowI (u : Int) : Int := IntKind.wrap .i64 (bXor .u64 u 9223372036854775808)
theorem wrap_i64_hi {n : Int} (h1 : 9223372036854775808 ≤ n) (h2 : n < 18446744073709551616) : IntKind.wrap .i64 n = n - 18446744073709551616 := by
  simp [IntKind.wrap, IntKind.bits, IntKind.signed]
  omega
theorem rowI_rowU {r : Int} (h : I64 r) : rowI (rowU r) = r := by
  unfold I64 at h
  unfold rowI rowU
  rw [wrap_u64_eq, xor63 (x := r % 18446744073709551616) (by omega) (by omega)]
  split
  · rw [xor63 (by omega) (by omega), if_neg (by omega), wrap_i64 (by omega) (by omega)]; omega
  · rw [xor63 (by omega) (by omega), if_pos (by omega), wrap_i64_hi (by omega) (by omega)]; omega
theorem rowI_range {u : Int} (h0 : 0 ≤ u) (h1 : u < 18446744073709551616) : I64 (rowI u) := by
  unfold I64 rowI
  rw [xor63 h0 h1]
  split
  · rw [wrap_i64_hi (by omega) (by omega)]; omega
  · rw [wrap_i64 (by omega) (by omega)]; omega
theorem rowU_rowI {u : Int} (h0 : 0 ≤ u) (h1 : u < 18446744073709551616) : rowU (rowI u) = u := by
  unfold rowU rowI
  rw [xor63 h0 h1]
  split
  · rw [wrap_i64_hi (by omega) (by omega), wrap_u64_eq, xor63 (by omega) (by omega), if_neg (by omega)]; omega
  · rw [wrap_i64 (by omega) (by omega), wrap_u64 (by omega) (by omega), xor63 (by omega) (by omega), if_pos (by omega)]; omega
/-- A number out of bytes, the high ones first. -/
def beU (l : List Int) : Int := l.foldl (fun u x => u * 256 + x) 0
theorem beU_snoc (l : List Int) (x : Int) : beU (l ++ [x]) = beU l * 256 + x := by simp [beU]
theorem beU_take {l : List Int} {k : Nat} (h : k < l.length) : beU (l.take (k + 1)) = beU (l.take k) * 256 + l.getD k 0 := by rw [take_succ_getD h, beU_snoc]
theorem beU_range {l : List Int} (hB : Bytes l) : ∀ k, k ≤ l.length → 0 ≤ beU (l.take k) ∧ beU (l.take k) < 256 ^ k
  | 0, _ => by simp [beU]
  | k + 1, h => by
    have := beU_range hB k (by omega)
    have hb := byte_of hB k
    rw [beU_take (by omega), Int.pow_succ]
    omega
theorem eight8 {v : List Int} (h : v.length = 8) : ∃ a b c d e f g k, v = [a, b, c, d, e, f, g, k] := by
  match v, h with
  | [a, b, c, d, e, f, g, k], _ => exact ⟨a, b, c, d, e, f, g, k, rfl⟩
theorem be8_eq {u : Int} (h0 : 0 ≤ u) : be8 u = [u / 72057594037927936 % 256, u / 281474976710656 % 256, u / 1099511627776 % 256, u / 4294967296 % 256, u / 16777216 % 256, u / 65536 % 256, u / 256 % 256, u % 256] := by
  have hs : ∀ k : Nat, k ≤ 64 → IntKind.wrap .u8 (shR .u64 u ((k : Nat) : Int)) = u / 2 ^ k % 256 := fun k hk => by rw [wrap_u8_eq, shR_nat (k := .u64) k hk]
  have h1 := hs 56 (by omega); have h2 := hs 48 (by omega); have h3 := hs 40 (by omega); have h4 := hs 32 (by omega); have h5 := hs 24 (by omega); have h6 := hs 16 (by omega); have h7 := hs 8 (by omega); have h8 := hs 0 (by omega)
  have e : be8 u = [IntKind.wrap .u8 (shR .u64 u ((56 : Nat) : Int)), IntKind.wrap .u8 (shR .u64 u ((48 : Nat) : Int)), IntKind.wrap .u8 (shR .u64 u ((40 : Nat) : Int)), IntKind.wrap .u8 (shR .u64 u ((32 : Nat) : Int)), IntKind.wrap .u8 (shR .u64 u ((24 : Nat) : Int)), IntKind.wrap .u8 (shR .u64 u ((16 : Nat) : Int)), IntKind.wrap .u8 (shR .u64 u ((8 : Nat) : Int)), IntKind.wrap .u8 (shR .u64 u ((0 : Nat) : Int))] := rfl
  rw [e, h1, h2, h3, h4, h5, h6, h7, h8]
  simp
theorem be8_beU {l : List Int} (h : l.length = 8) (hB : Bytes l) : be8 (beU l) = l := by
  have hr := beU_range hB 8 (by omega)
  rw [List.take_of_length_le (by omega)] at hr
  rw [be8_eq hr.1]
  obtain ⟨a, b, c, d, e, f, g, k, rfl⟩ := eight8 h
  have ha := hB a (by simp); have hb := hB b (by simp); have hc := hB c (by simp); have hd := hB d (by simp)
  have he := hB e (by simp); have hf := hB f (by simp); have hg := hB g (by simp); have hk := hB k (by simp)
  simp only [beU, List.foldl_cons, List.foldl_nil]
  clear h hB hr
  congr 1
  · omega
  congr 1
  · omega
  congr 1
  · omega
  congr 1
  · omega
  congr 1
  · omega
  congr 1
  · omega
  congr 1
  · omega
  congr 1
  omega
theorem beU_be8 {u : Int} (h0 : 0 ≤ u) (h1 : u < 18446744073709551616) : beU (be8 u) = u := by
  rw [be8_eq h0]
  simp only [beU, List.foldl_cons, List.foldl_nil]
  omega
/-- The key of ten bytes, and the error. -/
def fromB (l : List Int) : Int × Int × Int :=
  if l.length < 10 then (0, 0, 10) else if 10 < l.length then (0, 0, 11) else (l.getD 0 0 * 256 + l.getD 1 0, rowI (beU (l.drop 2)), 0)
theorem fromB_range {l : List Int} (hB : Bytes l) : KeyOk (fromB l).1 ∧ I64 (fromB l).2.1 := by
  unfold fromB
  split
  · unfold KeyOk I64; simp
  split
  · unfold KeyOk I64; simp
  have h0 := byte_of hB 0; have h1 := byte_of hB 1
  have hl : (l.drop 2).length = 8 := by rw [List.length_drop]; omega
  have hr := beU_range (hB.drop 2) 8 (by omega)
  rw [List.take_of_length_le (by omega)] at hr
  exact ⟨by unfold KeyOk; simp only; omega, rowI_range hr.1 hr.2⟩
theorem hi_byte {t : Int} (h : KeyOk t) : IntKind.wrap .u8 (shR .i64 t 8) = t / 256 := by
  unfold KeyOk at h
  rw [show (8 : Int) = ((8 : Nat) : Int) from rfl, shR_nat (k := .i64) 8 (by decide), wrap_u8 (by omega) (by omega)]
  omega
theorem fromB_keyB {t r : Int} (ht : KeyOk t) (hr : I64 r) : fromB (keyB t r) = (t, r, 0) := by
  have hl := keyB_length t r
  unfold fromB
  rw [if_neg (by omega), if_neg (by omega)]
  have hu := rowU_range r
  have e2 : (keyB t r).drop 2 = be8 (rowU r) := rfl
  have e0 : (keyB t r).getD 0 0 = IntKind.wrap .u8 (shR .i64 t 8) := rfl
  have e1 : (keyB t r).getD 1 0 = IntKind.wrap .u8 t := rfl
  rw [e2, e0, e1, beU_be8 hu.1 hu.2, rowI_rowU hr, hi_byte ht, wrap_u8_eq]
  unfold KeyOk at ht
  congr 1
  omega
theorem keyB_fromB {l : List Int} (hl : l.length = 10) (hB : Bytes l) : keyB (fromB l).1 (fromB l).2.1 = l := by
  unfold fromB
  rw [if_neg (by omega), if_neg (by omega)]
  have h0 := byte_of hB 0; have h1 := byte_of hB 1
  have hl2 : (l.drop 2).length = 8 := by rw [List.length_drop]; omega
  have hr := beU_range (hB.drop 2) 8 (by omega)
  rw [List.take_of_length_le (by omega)] at hr
  unfold keyB
  simp only
  rw [hi_byte (by unfold KeyOk; omega), rowU_rowI hr.1 hr.2, be8_beU hl2 (hB.drop 2), wrap_u8_eq]
  conv => rhs; rw [← List.take_append_drop 2 l]
  congr 1
  rw [take_succ_getD (by omega), take_succ_getD (by omega)]
  simp only [List.take_zero, List.nil_append, List.cons_append]
  congr 1
  · omega
  · congr 1; omega
theorem zcKey : zc Try.prog 97 = keyC 0 0 := by kernel_rfl
end Go.Proofs.Ytjchneebdlncfaa.Lib
