/-
  KEYS: contracts of Check, form, Bytes and of the reference's.
  Own work. No macro, syntax, notation, axiom.
-/
import Derived.Test.YtjkbjppopdfggaaDoorNodeSpec
namespace Go.Proofs.YtjkbjppopdfggaaDoor.Sha
open Go Den Fn
open Go.RowKit (Below)
set_option maxRecDepth 8000
set_option maxHeartbeats 1000000

theorem check_c (t r : Int) (w : World) : Calls Tryd.prog 50 #[.agg (keyC t r).toArray] w fun e w' => e = .returned (.int .i64 (if KeyOk t then 0 else 20)) ∧ Tch [] w w' := by
  refine c50 _ ?_
  unfold d50
  rintro w1 rfl
  have hX := Blk.fresh w (cs := keyC t r) 29 rfl
  have ht := (Tch.refl [] w).alloc (.cells (keyC t r).toArray 29)
  rw [add_mk]
  refine ⟨t, hX.cell 0, ?_⟩
  by_cases h1 : t < 0
  · rw [bif_pos h1, if_neg (by unfold KeyOk; omega)]
    exact ⟨rfl, ht⟩
  rw [bif_neg h1]
  refine ⟨t, hX.cell 0, ?_⟩
  by_cases h2 : 65535 < t
  · rw [bif_pos h2, if_neg (by unfold KeyOk; omega)]
    exact ⟨rfl, ht⟩
  rw [bif_neg h2, if_pos (by unfold KeyOk; omega)]
  exact ⟨rfl, ht⟩
theorem refCheck_c (t r : Int) (w : World) : Calls Tryd.prog 57 #[.agg (keyC t r).toArray] w fun e w' => e = .returned (.int .i64 (if KeyOk t then 0 else 20)) ∧ Tch [] w w' := by
  refine c57 _ ?_
  unfold d57
  rintro w1 rfl
  have hX := Blk.fresh w (cs := keyC t r) 29 rfl
  have ht := (Tch.refl [] w).alloc (.cells (keyC t r).toArray 29)
  rw [add_mk]
  refine ⟨t, hX.cell 0, ?_⟩
  by_cases h1 : t < 0
  · rw [bif_pos h1, if_neg (by unfold KeyOk; omega)]
    exact ⟨rfl, ht⟩
  rw [bif_neg h1]
  refine ⟨t, hX.cell 0, ?_⟩
  by_cases h2 : 65535 < t
  · rw [bif_pos h2, if_neg (by unfold KeyOk; omega)]
    exact ⟨rfl, ht⟩
  rw [bif_neg h2, if_pos (by unfold KeyOk; omega)]
  exact ⟨rfl, ht⟩

theorem form_c (t r : Int) (w : World) : Calls Tryd.prog 73 #[.agg (keyC t r).toArray] w fun e w' => e = .returned (.agg (u8 (keyB t r)).toArray) ∧ Tch [] w w' := by
  refine c73 _ ?_
  unfold d73
  rintro w1 rfl
  have hK := Blk.fresh w (cs := keyC t r) 29 rfl
  have ht := (Tch.refl [] w).alloc (.cells (keyC t r).toArray 29)
  have s1 := size_alloc w (.cells (keyC t r).toArray 29)
  generalize w.alloc (.cells (keyC t r).toArray 29) = W1 at *
  rintro w2 rfl
  have hO : Blk _ _ (u8 (List.replicate 10 0)) := Blk.fresh W1 140 zc140
  have s2 := size_alloc W1 (.cells (zc Tryd.prog 140).toArray 140)
  replace hK := hK.alloc (.cells (zc Tryd.prog 140).toArray 140)
  replace ht := ht.alloc (.cells (zc Tryd.prog 140).toArray 140)
  generalize W1.alloc (.cells (zc Tryd.prog 140).toArray 140) = W2 at *
  rintro w3 rfl
  have hB : Blk _ _ (u8 (List.replicate 10 0)) := Blk.fresh W2 140 zc140
  replace hK := hK.alloc (.cells (zc Tryd.prog 140).toArray 140)
  replace hO := hO.alloc (.cells (zc Tryd.prog 140).toArray 140)
  replace ht := ht.alloc (.cells (zc Tryd.prog 140).toArray 140)
  rintro w4 rfl
  replace hK := hK.drew
  replace hO := hO.drew
  replace hB := hB.drew
  replace ht := ht.drew
  generalize (W2.alloc (.cells (zc Tryd.prog 140).toArray 140)).drew = W at *
  generalize hob : W1.heap.size = ob at *
  generalize hbb : W2.heap.size = bb at *
  generalize hkb : w.heap.size = kb at *
  simp only [add_mk, Nat.zero_add, Nat.mul_one]
  refine ⟨t, hK.cell 0, by omega, t, hK.cell 0, by omega, by omega, rfl, by rw [show Int.toNat 0 = 0 from rfl, hB.cell]; rfl, hB.frozen _, ?_⟩
  rintro w7 rfl
  have hB1 := hB.setInt 0 (IntKind.wrap .u8 (shR .i64 t 8))
  have hK1 := hK.set_ne (a := ⟨bb, 0, none⟩) (by show kb ≠ bb; omega) (.int .u8 (IntKind.wrap .u8 (shR .i64 t 8)))
  refine ⟨⟨t, hK1.cell 0, rfl, trivial⟩, by omega, by omega, rfl, by rw [show Int.toNat 1 = 1 from rfl]; erw [hB1.cell]; rfl, hB1.frozen _, ?_⟩
  rintro w9 rfl
  have hB2 := hB1.setInt 1 (IntKind.wrap .u8 t)
  have hK2 := hK1.set_ne (a := ⟨bb, 1, none⟩) (by show kb ≠ bb; omega) (.int .u8 (IntKind.wrap .u8 t))
  have hO2 := (hO.set_ne (a := ⟨bb, 0, none⟩) (by show ob ≠ bb; omega) (.int .u8 (IntKind.wrap .u8 (shR .i64 t 8)))).set_ne (a := ⟨bb, 1, none⟩) (by show ob ≠ bb; omega) (.int .u8 (IntKind.wrap .u8 t))
  refine ⟨r, hK2.cell 1, ?_⟩
  refine ⟨fun m x w' => ∃ (i : Nat) (l : List Int), i ≤ 8 ∧ x = i ∧ m = 8 - i ∧ Blk w' bb (u8 l) ∧ l.length = 10 ∧ l.take (2 + i) = (keyB t r).take (2 + i) ∧ Blk w' ob (u8 (List.replicate 10 0)) ∧ Tch [] w w', ⟨8, 0, _, by omega, rfl, rfl, hB2, rfl, rfl, hO2, (ht.setCell (.inr (by show _ ≤ bb; omega)) _).setCell (.inr (by show _ ≤ bb; omega)) _⟩, ?_⟩
  clear hB hB1 hB2 hK hK1 hK2 hO hO2 ht
  rintro m w13 x ⟨i, l, hi, rfl, rfl, hB, hll, htk, hO, ht⟩
  by_cases hlt : i < 8
  · rw [bif_pos (by omega), wrap_i64 (n := 8 * (i : Int)) (by omega) (by omega), wrap_i64 (n := 56 - 8 * (i : Int)) (by omega) (by omega), wrap_i64 (n := 2 + (i : Int)) (by omega) (by omega), show Int.toNat (2 + (i : Int)) = 2 + i by omega]
    refine ⟨by omega, by omega, by omega, rfl, by rw [hB.int (by omega)]; rfl, hB.frozen _, ?_⟩
    rintro w15 rfl
    rw [wrap_i64 (by omega) (by omega)]
    refine ⟨8 - (i + 1), by omega, i + 1, _, by omega, rfl, rfl, hB.setInt _ _, by simpa using hll, ?_, hO.set_ne (by show ob ≠ bb; omega) _, ht.setCell (.inr (by show _ ≤ bb; omega)) _⟩
    rw [← Nat.add_assoc, take_set_len (by omega), htk, List.take_succ_eq_append_getElem (by rw [keyB_length]; omega)]
    congr 2
    show IntKind.wrap .u8 (shR .u64 (rowU r) (56 - 8 * (i : Int))) = _
    have : (keyB t r)[2 + i]'(by rw [keyB_length]; omega) = (be8 (rowU r))[i]'(by rw [be8_length]; omega) := by
      simp only [keyB]
      rw [List.getElem_append_right (by simp)]
      simp
    rw [this]
    simp [be8]
  · have : i = 8 := by omega
    subst this
    rw [bif_neg (by omega)]
    have hl : l = keyB t r := by rw [← List.take_of_length_le (l := l) (i := 2 + 8) (by omega), htk, List.take_of_length_le (by rw [keyB_length]; omega)]
    subst hl
    refine get_all hB (by rw [List.length_map, hll]) ?_
    refine put_all hO (by simp) (by rw [List.length_map, hll]) ones_ints fun w' h1 h2 _ => ?_
    exact get_all h1 (by rw [List.length_map, hll]) ⟨rfl, ht.trans h2 (by simp; omega)⟩

theorem shR_le {u : Int} (i : Nat) (hi : i < 8) : shR .u64 u (56 - 8 * ((7 - i : Nat) : Int)) = u / 256 ^ i := by
  unfold shR
  have e : (56 - 8 * ((7 - i : Nat) : Int)).toNat = 8 * i := by omega
  rw [e, show min (8 * i) (IntKind.bits .u64) = 8 * i from Nat.min_eq_left (by show 8 * i ≤ 64; omega), Int.pow_mul, show (2 : Int) ^ 8 = 256 from rfl, Int.fdiv_eq_ediv_of_nonneg _ (Int.pow_nonneg (by omega))]
theorem be8_getD {u : Int} (j : Nat) (hj : j < 8) : (be8 u).getD (7 - j) 0 = IntKind.wrap .u8 (u / 256 ^ j) := by
  rw [← shR_le j hj]
  have : 7 - j < 8 := by omega
  simp [be8, List.getD_eq_getElem?_getD, this]
theorem keyB_getD {t r : Int} (j : Nat) (hj : j < 8) : (keyB t r).getD (9 - j) 0 = IntKind.wrap .u8 (rowU r / 256 ^ j) := by
  rw [← be8_getD j hj]
  simp only [keyB, List.getD_eq_getElem?_getD]
  rw [List.getElem?_append_right (by simp; omega)]
  simp only [List.length_cons, List.length_nil]
  congr 2
  omega
theorem ext_getD {a b : List Int} {n : Nat} (ha : a.length = n) (hb : b.length = n) (h : ∀ p, p < n → a.getD p 0 = b.getD p 0) : a = b := by
  apply List.ext_getElem (by omega)
  intro i h1 h2
  have := h i (by omega)
  simpa [List.getD_eq_getElem?_getD, h1, h2] using this

theorem ten_c (t r : Int) (w : World) (hk : KeyOk t) : Calls Tryd.prog 87 #[.agg (keyC t r).toArray] w fun e w' => e = .returned (.agg (u8 (keyB t r)).toArray) ∧ Tch [] w w' := by
  refine c87 _ ?_
  unfold d87
  rintro w1 rfl
  have hK := Blk.fresh w (cs := keyC t r) 29 rfl
  have ht := (Tch.refl [] w).alloc (.cells (keyC t r).toArray 29)
  have s1 := size_alloc w (.cells (keyC t r).toArray 29)
  generalize w.alloc (.cells (keyC t r).toArray 29) = W1 at *
  rintro w2 rfl
  have hO : Blk _ _ (u8 (List.replicate 10 0)) := Blk.fresh W1 140 zc140
  have s2 := size_alloc W1 (.cells (zc Tryd.prog 140).toArray 140)
  replace hK := hK.alloc (.cells (zc Tryd.prog 140).toArray 140)
  replace ht := ht.alloc (.cells (zc Tryd.prog 140).toArray 140)
  generalize W1.alloc (.cells (zc Tryd.prog 140).toArray 140) = W2 at *
  rintro w3 rfl
  have hB : Blk _ _ (u8 (List.replicate 10 0)) := Blk.fresh W2 140 zc140
  replace hK := hK.alloc (.cells (zc Tryd.prog 140).toArray 140)
  replace hO := hO.alloc (.cells (zc Tryd.prog 140).toArray 140)
  replace ht := ht.alloc (.cells (zc Tryd.prog 140).toArray 140)
  generalize W2.alloc (.cells (zc Tryd.prog 140).toArray 140) = W at *
  generalize hob : W1.heap.size = ob at *
  generalize hbb : W2.heap.size = bb at *
  generalize hkb : w.heap.size = kb at *
  unfold KeyOk at hk
  simp only [add_mk, Nat.zero_add, Nat.mul_one]
  refine ⟨t, hK.cell 0, by omega, by omega, by omega, rfl, by rw [show Int.toNat 0 = 0 from rfl, hB.cell]; rfl, hB.frozen _, ?_⟩
  rintro w5 rfl
  have hB1 := hB.setInt 0 (IntKind.wrap .u8 (IntKind.wrap .i64 (Int.tdiv t 256)))
  have hK1 := hK.set_ne (a := ⟨bb, 0, none⟩) (by show kb ≠ bb; omega) (.int .u8 (IntKind.wrap .u8 (IntKind.wrap .i64 (Int.tdiv t 256))))
  refine ⟨t, hK1.cell 0, by omega, by omega, by omega, rfl, by rw [show Int.toNat 1 = 1 from rfl]; erw [hB1.cell]; rfl, hB1.frozen _, ?_⟩
  rintro w7 rfl
  have hB2 := hB1.setInt 1 (IntKind.wrap .u8 (Int.tmod t 256))
  have hK2 := hK1.set_ne (a := ⟨bb, 1, none⟩) (by show kb ≠ bb; omega) (.int .u8 (IntKind.wrap .u8 (Int.tmod t 256)))
  have hO2 := (hO.set_ne (a := ⟨bb, 0, none⟩) (by show ob ≠ bb; omega) (.int .u8 (IntKind.wrap .u8 (IntKind.wrap .i64 (Int.tdiv t 256))))).set_ne (a := ⟨bb, 1, none⟩) (by show ob ≠ bb; omega) (.int .u8 (IntKind.wrap .u8 (Int.tmod t 256)))
  refine ⟨r, hK2.cell 1, ?_⟩
  have hU := rowU_range r
  refine ⟨fun m u x w' => ∃ (i : Nat) (l : List Int), i ≤ 8 ∧ x = i ∧ u = rowU r / 256 ^ i ∧ m = 8 - i ∧ Blk w' bb (u8 l) ∧ l.length = 10 ∧ (∀ p, p < 10 → (p < 2 ∨ 9 - i < p) → l.getD p 0 = (keyB t r).getD p 0) ∧ Blk w' ob (u8 (List.replicate 10 0)) ∧ Tch [] w w', ⟨8, 0, _, by omega, rfl, ?_, rfl, hB2, rfl, ?_, hO2, (ht.setCell (.inr (by show _ ≤ bb; omega)) _).setCell (.inr (by show _ ≤ bb; omega)) _⟩, ?_⟩
  · show rowU r = _
    simp
  · intro p hp hq
    have hq : p = 0 ∨ p = 1 := by omega
    rcases hq with rfl | rfl
    · show IntKind.wrap .u8 (IntKind.wrap .i64 (Int.tdiv t 256)) = IntKind.wrap .u8 (shR .i64 t 8)
      rw [Int.tdiv_eq_ediv_of_nonneg hk.1, wrap_i64 (by omega) (by omega)]
      unfold shR
      rw [show min (Int.toNat 8) (IntKind.bits .i64) = 8 from rfl, Int.fdiv_eq_ediv_of_nonneg _ (by decide)]
      rfl
    · show IntKind.wrap .u8 (Int.tmod t 256) = IntKind.wrap .u8 t
      rw [Int.tmod_eq_emod_of_nonneg hk.1, wrap_u8_eq, wrap_u8_eq]
      omega
  clear hB hB1 hB2 hK hK1 hK2 hO hO2 ht
  rintro m w13 u x ⟨i, l, hi, rfl, rfl, rfl, hB, hll, hp, hO, ht⟩
  have h256 : (0 : Int) < 256 ^ i := Int.pow_pos (by omega)
  have hu0 : 0 ≤ rowU r / 256 ^ i := Int.ediv_nonneg hU.1 (by omega)
  have hu1 : rowU r / 256 ^ i < 18446744073709551616 := Int.lt_of_le_of_lt (Int.ediv_le_self _ hU.1) hU.2
  by_cases hlt : i < 8
  · rw [bif_pos (by omega), wrap_i64 (n := 9 - (i : Int)) (by omega) (by omega), show Int.toNat (9 - (i : Int)) = 9 - i by omega]
    refine ⟨by omega, by omega, by omega, rfl, by rw [hB.int (by omega)]; rfl, hB.frozen _, ?_⟩
    rintro w14 rfl
    rw [wrap_i64 (by omega) (by omega), Int.tdiv_eq_ediv_of_nonneg hu0, wrap_u64 (by omega) (by omega), Int.ediv_ediv_of_nonneg (by omega), ← Int.pow_succ]
    refine ⟨by omega, 8 - (i + 1), by omega, i + 1, _, by omega, rfl, rfl, rfl, hB.setInt _ _, by simpa using hll, ?_, hO.set_ne (by show ob ≠ bb; omega) _, ht.setCell (.inr (by show _ ≤ bb; omega)) _⟩
    intro p h1 h2
    by_cases hpe : p = 9 - i
    · subst hpe
      rw [getD_set_self (by omega), keyB_getD i hlt, Int.tmod_eq_emod_of_nonneg hu0, wrap_u8_eq, wrap_u8_eq]
      omega
    · rw [getD_set_ne (fun e => hpe e.symm)]
      exact hp p h1 (by omega)
  · have : i = 8 := by omega
    subst this
    rw [bif_neg (by omega)]
    have hl : l = keyB t r := ext_getD hll (keyB_length _ _) fun p h => hp p h (by omega)
    subst hl
    refine get_all hB (by rw [List.length_map, hll]) ?_
    refine put_all hO (by simp) (by rw [List.length_map, hll]) ones_ints fun w' h1 h2 _ => ?_
    exact get_all h1 (by rw [List.length_map, hll]) ⟨rfl, ht.trans h2 (by simp; omega)⟩

theorem bytes_c (t r : Int) (w : World) : Calls Tryd.prog 55 #[.agg (keyC t r).toArray] w fun e w' =>
    if KeyOk t then ∃ a c, e = .returned (.tuple #[.slice a 10 c, .int .i64 0]) ∧ w'.ownsRow w.heap.size 5 1 (.slice a 10 c) 10 (u8 (keyB t r)) ∧ Tch [] w w'
    else e = .returned (.tuple #[.slice none 0 0, .int .i64 20]) ∧ Tch [] w w' := by
  refine c55 _ ?_
  unfold d55
  rintro w1 rfl
  have hK := Blk.fresh w (cs := keyC t r) 29 rfl
  have ht := (Tch.refl [] w).alloc (.cells (keyC t r).toArray 29)
  refine get_all hK rfl ?_
  refine (check_c t r _).mono ?_
  rintro e w4 ⟨rfl, ht4⟩
  refine ⟨_, rfl, ?_⟩
  replace hK := hK.tch ht4 (by simp)
  replace ht := ht.trans ht4 (by simp)
  by_cases hk : KeyOk t
  · rw [if_pos hk, bif_npos rfl]
    simp only [if_pos hk]
    refine get_all hK rfl ?_
    refine (form_c t r w4).mono ?_
    rintro e w8 ⟨rfl, ht8⟩
    replace ht := ht.trans ht8 (by simp)
    refine ⟨_, rfl, ?_⟩
    refine var_init (by rw [zc140]; simp) (by rw [List.length_map, keyB_length]) ones_ints fun w10 w11 h1 h2 h3 => ?_
    have hs8 := ht.size
    refine app_row bT (own_nil w11 w.heap.size 5 1) (ys := u8 (keyB t r)) (m := 10) (mc := 10) ?_ (by omega) (by omega) (by omega) fun a' c' w' h4 h5 => ?_
    · exact h1.rsl (by rw [List.length_map, keyB_length]) ones_ints
    · exact ⟨a', c', rfl, h4, (ht.trans h2 (by simp)).up h5 (Nat.le_refl _)⟩
  · rw [if_neg hk, bif_nneg (by omega)]
    simp only [if_neg hk]
    exact ⟨trivial, ht⟩
theorem refBytes_c (t r : Int) (w : World) : Calls Tryd.prog 72 #[.agg (keyC t r).toArray] w fun e w' =>
    if KeyOk t then ∃ a c, e = .returned (.tuple #[.slice a 10 c, .int .i64 0]) ∧ w'.ownsRow w.heap.size 5 1 (.slice a 10 c) 10 (u8 (keyB t r)) ∧ Tch [] w w'
    else e = .returned (.tuple #[.slice none 0 0, .int .i64 20]) ∧ Tch [] w w' := by
  refine c72 _ ?_
  unfold d72
  rintro w1 rfl
  have hK := Blk.fresh w (cs := keyC t r) 29 rfl
  have ht := (Tch.refl [] w).alloc (.cells (keyC t r).toArray 29)
  refine get_all hK rfl ?_
  refine (refCheck_c t r _).mono ?_
  rintro e w4 ⟨rfl, ht4⟩
  refine ⟨_, rfl, ?_⟩
  replace hK := hK.tch ht4 (by simp)
  replace ht := ht.trans ht4 (by simp)
  by_cases hk : KeyOk t
  · rw [if_pos hk, bif_npos rfl]
    simp only [if_pos hk]
    refine get_all hK rfl ?_
    refine (ten_c t r w4 hk).mono ?_
    rintro e w8 ⟨rfl, ht8⟩
    replace ht := ht.trans ht8 (by simp)
    refine ⟨_, rfl, ?_⟩
    refine var_init (by rw [zc140]; simp) (by rw [List.length_map, keyB_length]) ones_ints fun w10 w11 h1 h2 h3 => ?_
    have hs8 := ht.size
    replace ht := ht.trans h2 (by simp)
    refine ⟨fun m a' n' c' x w' => ∃ i : Nat, i ≤ 10 ∧ x = i ∧ i = n' ∧ m = 10 - i ∧ w'.ownsRow w11.heap.size 5 1 (.slice a' n' c') n' (u8 ((keyB t r).take i)) ∧ Below w11.heap.size w11 w', ⟨10, 0, by omega, rfl, rfl, rfl, own_nil _ _ _ _, Below.refl _ _⟩, ?_⟩
    rintro m w14 a' n' c' x ⟨i, hi, rfl, rfl, rfl, hown, hb⟩
    by_cases hlt : i < 10
    · rw [bif_pos (by omega), add_mk, Int.toNat_natCast, Nat.mul_one, Nat.zero_add]
      refine ⟨by omega, by omega, _, (h1.below hb h1.lt).int (by rw [keyB_length]; exact hlt), ?_⟩
      refine app_elem bT hown (by rw [zc5]; rfl) (ys := u8 [(keyB t r).getD i 0]) rfl rfl ones_ints hb.size (by omega) (by omega) fun a2 c2 w2 g1 g2 => ?_
      rw [wrap_i64 (by omega) (by omega)]
      refine ⟨10 - (i + 1), by omega, i + 1, by omega, rfl, rfl, rfl, ?_, hb.trans g2⟩
      rw [List.take_succ_eq_append_getElem (by rw [keyB_length]; exact hlt)]
      rw [← List.map_append] at g1
      simpa [List.getD_eq_getElem?_getD, show i < (keyB t r).length by rw [keyB_length]; exact hlt] using g1
    · have : i = 10 := by omega
      subst this
      rw [bif_neg (by omega)]
      rw [List.take_of_length_le (by rw [keyB_length]; omega)] at hown
      exact ⟨a', c', rfl, own_base hown (by omega), ht.up hb (by omega)⟩
  · rw [if_neg hk, bif_nneg (by omega)]
    simp only [if_neg hk]
    exact ⟨trivial, ht⟩
end Go.Proofs.YtjkbjppopdfggaaDoor.Sha
