/-
  THE REFERENCE's NUMBERS AS BYTES, AND ITS READER: contracts.
  Own work. No macro, syntax, notation, axiom.
-/
import Derived.Test.YtjkbjppopdfggaaLibCodR
import Derived.Test.YtjkbjppopdfggaaFnRef
namespace Go.Proofs.Ytjkbjppopdfggaa.Lib
open Go Den Fn
open Go.RowKit (Below)
set_option maxRecDepth 8000
set_option maxHeartbeats 1000000

theorem tmod128 (n : Nat) : IntKind.wrap .u8 (IntKind.wrap .u8 (Int.tmod (n : Int) 128) + 128) = ((n % 128 + 128 : Nat) : Int) := by
  rw [show Int.tmod (n : Int) 128 = ((n % 128 : Nat) : Int) from tmod_nat n 128, wrap_u8 (n := ((n % 128 : Nat) : Int)) (by omega) (by omega), wrap_u8 (by omega) (by omega)]
  omega
theorem refUint_c (w : World) (n : Nat) (hn : n < 18446744073709551616) :
    Calls Try.prog 21 #[.int .u64 n] w fun e w' => ∃ a c, e = .returned (.slice a (uv n).length c) ∧ w'.ownsRow w.heap.size 5 1 (.slice a (uv n).length c) (uv n).length (u8 (uv n)) ∧ Tch [] w w' := by
  refine c21 _ ?_
  unfold d21
  refine ⟨fun m x a k c w' => ∃ (q : Nat) (pre : List Int), x = q ∧ m = q ∧ q < 18446744073709551616 ∧ uv n = pre ++ uv q ∧ k = pre.length ∧ w'.ownsRow w.heap.size 5 1 (.slice a k c) k (u8 pre) ∧ Tch [] w w', ⟨n, n, [], rfl, rfl, hn, rfl, rfl, own_nil _ _ _ _, Tch.refl _ _⟩, ?_⟩
  rintro m w3 x a k c ⟨q, pre, rfl, rfl, hq, hu, rfl, hown, ht⟩
  have hl10 := (uv_len10 hn).2
  have hl1 := (uv_len10 hq).1
  rw [hu, List.length_append] at hl10
  have hsz := ht.size
  have hrow := rowL_ge hown
  by_cases h1 : 128 ≤ m
  · rw [bif_pos (by omega)]
    refine ⟨by omega, ?_⟩
    refine app_elem_at bT hown (by rw [zc8]; rfl) (ys := u8 [((m % 128 + 128 : Nat) : Int)]) (by rw [tmod128]; rfl) rfl ones_ints hsz (by omega) (by omega) fun a' c' w9 k1 k2 k3 => ?_
    rw [← List.map_append] at k1
    refine ⟨by omega, ?_⟩
    rw [show Int.tdiv (m : Int) 128 = ((m / 128 : Nat) : Int) from tdiv_nat m 128, wrap_u64 (by omega) (by omega)]
    refine ⟨m / 128, by omega, m / 128, pre ++ [((m % 128 + 128 : Nat) : Int)], rfl, rfl, by omega, ?_, by simp, k1, ht.trans k2 fun i hi => .inr (hrow i hi).1⟩
    rw [hu, uv_hi h1, List.append_assoc]
    rfl
  · rw [bif_neg (by omega)]
    refine app_elem_at bT hown (by rw [zc8]; rfl) (ys := u8 [(m : Int)]) (by rw [wrap_u8 (by omega) (by omega)]; rfl) rfl ones_ints hsz (by omega) (by omega) fun a' c' w9 k1 k2 k3 => ?_
    rw [← List.map_append] at k1
    have hu' : uv n = pre ++ [(m : Int)] := by rw [hu, uv_lo (by omega)]
    rw [hu']
    refine ⟨a', c', by simp, by simpa using k1, ht.trans k2 fun i hi => .inr (hrow i hi).1⟩
theorem refFold_c (w : World) (n : Int) (hn : I64 n) : Calls Try.prog 41 #[.int .i64 n] w fun e w' => e = .returned (.int .u64 (fold n)) ∧ w' = w := by
  refine c41 _ ?_
  unfold d41 fold
  unfold I64 at hn
  by_cases h0 : 0 ≤ n
  · rw [bif_pos h0, if_pos h0, wrap_u64 (n := n) (by omega) (by omega), wrap_u64 (by omega) (by omega)]
    refine ⟨?_, rfl⟩
    rw [show 2 * n = ((2 * n.toNat : Nat) : Int) by omega]
  · rw [bif_neg h0, if_neg h0, wrap_i64 (by omega) (by omega), wrap_u64 (n := -1 - n) (by omega) (by omega), wrap_u64 (n := 2 * (-1 - n)) (by omega) (by omega), wrap_u64 (by omega) (by omega)]
    refine ⟨?_, rfl⟩
    rw [show 2 * (-1 - n) + 1 = ((2 * (-1 - n).toNat + 1 : Nat) : Int) by omega]
theorem refInt_c (w : World) (n : Int) (hn : I64 n) :
    Calls Try.prog 23 #[.int .i64 n] w fun e w' => ∃ a c, e = .returned (.slice a (iv n).length c) ∧ w'.ownsRow w.heap.size 5 1 (.slice a (iv n).length c) (iv n).length (u8 (iv n)) ∧ Tch [] w w' := by
  refine c23 _ ?_
  unfold d23
  refine (refFold_c w n hn).mono ?_
  rintro e w2 ⟨rfl, rfl⟩
  refine ⟨_, rfl, ?_⟩
  refine (refUint_c w2 (fold n) (fold_range hn)).mono ?_
  rintro e w5 ⟨a, c, rfl, h1, h2⟩
  exact ⟨_, _, _, rfl, a, c, rfl, h1, h2⟩
theorem num_add {bs : List Int} {k : Nat} (hk : k ≤ 9) (h9 : k = 9 → (bs.getD k 0).toNat % 128 ≤ 1) :
    IntKind.wrap .u64 (((numA bs k : Nat) : Int) + (((bs.getD k 0).toNat % 128 * 2 ^ (7 * k) : Nat) : Int)) = ((numA bs (k + 1) : Nat) : Int) := by
  have hlt := sum_lt hk h9
  have e : numA bs k + (bs.getD k 0).toNat % 128 * 2 ^ (7 * k) = numA bs (k + 1) := rfl
  rw [← Int.natCast_add, e]
  exact wrap_u64 (by omega) (by omega)
theorem refNumber_c (w : World) (bs : List Int) (a : Option Addr) (n c : Nat) (hr : RSl w 1 a n c (u8 bs)) (hB : Bytes bs) (hN : n ≤ 140737488355328) :
    Calls Try.prog 46 #[.slice a n c] w fun e w' => e = .returned (.tuple #[.int .u64 (number bs).1, .int .i64 (number bs).2.1, .int .i64 (number bs).2.2]) ∧ w' = w := by
  have hn := u8_len hr
  refine c46 _ _ _ ?_
  unfold d46
  refine ⟨fun m x y w' => ∃ k : Nat, k ≤ 9 ∧ y = k ∧ x = ((numA bs k : Nat) : Int) ∧ m = 10 - k ∧ (∀ i, i < k → numOn bs i) ∧ w' = w, ⟨10, 0, by omega, rfl, rfl, rfl, fun i hi => by omega, rfl⟩, ?_⟩
  rintro m w4 x y ⟨k, hk9, rfl, rfl, rfl, hon, rfl⟩
  have hkn : k ≤ n := by
    by_cases h0 : k = 0
    · omega
    · have := (hon (k - 1) (by omega)).1; omega
  rw [bif_pos (by omega)]
  by_cases hs : n ≤ k
  · rw [bif_pos (by omega), number_short (k := k) (by omega) hon (by omega)]
    exact ⟨rfl, rfl⟩
  rw [bif_neg (by omega)]
  have hc := byte_of hB k
  have hel : ∀ {K : Int → Prop}, K (bs.getD k 0) → 0 ≤ (k : Int) ∧ (k : Int) < ((n : Nat) : Int) ∧ optK a fun x => ∃ y : Int, World.cell? w4 (Addr.add x (Int.toNat (k : Int) * 1)) = some (.int .u8 y) ∧ K y := by
    intro K hK
    refine ⟨by omega, by omega, ?_⟩
    rw [Int.toNat_natCast]
    exact elem8 hr (by omega) hK
  by_cases hf : (k = 9 ∧ 1 < bs.getD k 0) ∨ (0 < k ∧ bs.getD k 0 = 0)
  · refine ⟨fun _ => False, ?_, fun _ h => h.elim⟩
    rw [number_form (k := k) (by omega) hon (by omega) hf]
    rcases hf with ⟨h1, h2⟩ | ⟨h1, h2⟩
    · rw [bif_pos (by omega)]
      refine hel ?_
      rw [bif_pos h2]
      exact ⟨rfl, rfl⟩
    · by_cases h9 : k = 9
      · rw [bif_pos (by omega)]
        refine hel ?_
        rw [bif_neg (by omega), bif_pos (by omega)]
        refine hel ?_
        rw [bif_pos h2]
        exact ⟨rfl, rfl⟩
      · rw [bif_neg (by omega), bif_pos (by omega)]
        refine hel ?_
        rw [bif_pos h2]
        exact ⟨rfl, rfl⟩
  have h9 : k = 9 → (bs.getD k 0).toNat % 128 ≤ 1 := fun h9 => by
    have : ¬ 1 < bs.getD k 0 := fun h => hf (.inl ⟨h9, h⟩)
    omega
  refine ⟨fun w' => w' = w4, ?_, ?_⟩
  · by_cases h9' : k = 9
    · rw [bif_pos (by omega)]
      refine hel ?_
      rw [bif_neg (fun h => hf (.inl ⟨h9', h⟩)), bif_pos (by omega)]
      refine hel ?_
      rw [bif_neg (fun h => hf (.inr ⟨by omega, h⟩))]
    · rw [bif_neg (by omega)]
      by_cases h0 : 0 < k
      · rw [bif_pos (by omega)]
        refine hel ?_
        rw [bif_neg (fun h => hf (.inr ⟨h0, h⟩))]
      · rw [bif_neg (by omega)]
  rintro w14 rfl
  refine hel ?_
  rw [wrap_i64 (n := 7 * (k : Int)) (by omega) (by omega), show Int.tmod (bs.getD k 0) 128 = (((bs.getD k 0).toNat % 128 : Nat) : Int) by
    obtain ⟨q, hq⟩ := Int.eq_ofNat_of_zero_le hc.1
    rw [hq, Int.toNat_natCast]
    exact tmod_nat q 128,
    wrap_u64 (n := (((bs.getD k 0).toNat % 128 : Nat) : Int)) (by omega) (by omega), show 7 * (k : Int) = ((7 * k : Nat) : Int) by omega, shl7 hk9 (by omega) h9, num_add hk9 h9]
  refine ⟨by omega, by omega, hel ?_⟩
  by_cases hlt : bs.getD k 0 < 128
  · rw [bif_pos hlt, number_ok (k := k) (by omega) hon (by omega) hf hlt, wrap_i64 (by omega) (by omega)]
    exact ⟨rfl, rfl⟩
  · rw [bif_neg hlt, wrap_i64 (by omega) (by omega)]
    have hk8 : k ≠ 9 := fun h => by have := h9 h; have : ¬ 1 < bs.getD k 0 := fun h' => hf (.inl ⟨h, h'⟩); omega
    refine ⟨10 - (k + 1), by omega, k + 1, by omega, by omega, rfl, rfl, fun i hi => ?_, rfl⟩
    by_cases hik : i = k
    · subst hik; exact ⟨by omega, hf, hlt⟩
    · exact hon i (by omega)
theorem rUpto_max {bs : List Int} (hB : Bytes bs) (p : Nat) (e : Int) : rUpto bs 18446744073709551615 p e = if e ≠ 0 then (0, p, e) else ((number (bs.drop p)).1, p + (number (bs.drop p)).2.1, (number (bs.drop p)).2.2) := by
  unfold rUpto
  split
  · rfl
  · have hr := (number_range (hB.drop p)).1
    rw [if_neg (show ¬ 18446744073709551615 < (number (bs.drop p)).1 by omega)]
    rcases number_cases (hB.drop p) with h | h | ⟨k, h1, h2, h3, h4, h5, h⟩ <;> rw [h] <;> simp
theorem refUintR_c (w : World) (b n c p : Nat) (a : Option Addr) (bs : List Int) (e : Int) (h : Rd w b a n c bs p e) :
    Calls Try.prog 44 #[.pointer (some ⟨b, 0, none⟩)] w fun en w' => en = .returned (.int .u64 (rUpto bs 18446744073709551615 p e).1) ∧ RdR w w' b a n c bs (rUpto bs 18446744073709551615 p e).2 := by
  refine c44 _ ?_
  unfold d44
  rw [rUpto_max h.B]
  have hr := number_range (h.B.drop p)
  have hn := h.len
  have hN := h.N
  have hple := h.le
  rw [List.length_drop] at hr
  refine h.err ?_
  by_cases he : e = 0
  rotate_left
  · rw [bif_nneg he, if_pos he]
    exact ⟨rfl, h.refl⟩
  subst he
  rw [bif_npos rfl, if_neg (show ¬ (0 : Int) ≠ 0 by omega)]
  rintro w3 rfl
  have ht := (Tch.refl [] w).drew
  replace h := h.quiet ht
  generalize w.drew = w3 at *
  refine h.slice (h.at ⟨by omega, by omega, ?_⟩)
  rw [Int.toNat_natCast]
  have hc := h.row.cut (l := p) (hh := n) (by omega) (by omega)
  rw [List.take_of_length_le (by rw [List.length_drop]; omega)] at hc
  refine (refNumber_c w3 (bs.drop p) _ _ _ hc (h.B.drop p) (by omega)).mono ?_
  rintro en w9 ⟨rfl, rfl⟩
  refine ⟨_, _, _, rfl, _, rfl, _, rfl, _, rfl, ?_⟩
  refine h.setErr _ fun w' hw => ?_
  refine hw.1.at (hw.1.setAt (q := p + (number (bs.drop p)).2.1) ?_ (by omega) fun w2 hw2 => ⟨rfl, RdR.pre ht (hw.trans hw2)⟩)
  rw [wrap_i64 (by omega) (by omega)]
  simp
theorem refUpto_c (w : World) (b n c p : Nat) (a : Option Addr) (bs : List Int) (e : Int) (most : Nat) (h : Rd w b a n c bs p e) :
    Calls Try.prog 32 #[.pointer (some ⟨b, 0, none⟩), .int .u64 most] w fun en w' => en = .returned (.int .u64 (rUpto bs most p e).1) ∧ RdR w w' b a n c bs (rUpto bs most p e).2 := by
  refine c32 _ _ ?_
  unfold d32
  have hB := h.B
  have hple := h.le
  refine h.at ?_
  refine (refUintR_c w b n c p a bs e h).mono ?_
  rintro en w5 ⟨rfl, hw⟩
  have hm := rUpto_max h.B p e
  have hnc := number_cases (h.B.drop p)
  refine ⟨_, rfl, ?_⟩
  have key : rUpto bs most p e = if (rUpto bs 18446744073709551615 p e).2.2 = 0 ∧ most < (rUpto bs 18446744073709551615 p e).1 then (0, p, 12) else rUpto bs 18446744073709551615 p e := by
    rw [hm]
    unfold rUpto
    by_cases he : e = 0
    · subst he
      rw [if_neg (show ¬ (0 : Int) ≠ 0 by omega), if_neg (show ¬ (0 : Int) ≠ 0 by omega)]
      rcases hnc with h | h | ⟨k, h1, h2, h3, h4, h5, h⟩ <;> rw [h] <;> simp
    · rw [if_pos he, if_pos he, if_neg (fun h => he h.1)]
  rw [key]
  generalize rUpto bs 18446744073709551615 p e = u at *
  obtain ⟨v, q, k⟩ := u
  by_cases h0 : k = 0
  · refine ⟨fun x w' => x = decide (most < v) ∧ w' = w5, ?_, ?_⟩
    · refine hw.1.err ?_
      rw [bif_pos h0]
      refine ⟨?_, rfl⟩
      simp
    · rintro w10 x ⟨rfl, rfl⟩
      by_cases hv : most < v
      · rw [decide_eq_true hv, cond_true, if_pos ⟨h0, hv⟩]
        refine hw.1.setErr _ fun w' hw' => hw'.1.setAt rfl hple fun w2 hw2 => ⟨rfl, (hw.trans hw').trans hw2⟩
      · rw [decide_eq_false hv, cond_false, if_neg (fun h => hv h.2)]
        exact ⟨rfl, hw⟩
  · refine ⟨fun x w' => x = false ∧ w' = w5, ?_, ?_⟩
    · refine hw.1.err ?_
      rw [bif_neg h0]
      exact ⟨rfl, rfl⟩
    · rintro w10 x ⟨rfl, rfl⟩
      rw [cond_false, if_neg (fun h => h0 h.1)]
      exact ⟨rfl, hw⟩
theorem refUnfold_c (w : World) (u : Nat) (hu : u < 18446744073709551616) : Calls Try.prog 45 #[.int .u64 u] w fun e w' => e = .returned (.int .i64 (unfold' u)) ∧ w' = w := by
  refine c45 _ ?_
  unfold d45 unfold'
  rw [show Int.tmod (u : Int) 2 = ((u % 2 : Nat) : Int) from tmod_nat u 2, show Int.tdiv (u : Int) 2 = ((u / 2 : Nat) : Int) from tdiv_nat u 2, wrap_u64 (n := ((u / 2 : Nat) : Int)) (by omega) (by omega), wrap_i64 (n := ((u / 2 : Nat) : Int)) (by omega) (by omega), wrap_i64 (n := -1 - ((u / 2 : Nat) : Int)) (by omega) (by omega)]
  refine ⟨by omega, ?_⟩
  by_cases h : u % 2 = 0
  · rw [bif_pos (by omega), if_pos h]
    exact ⟨by omega, rfl, rfl⟩
  · rw [bif_neg (by omega), if_neg h]
    exact ⟨by omega, rfl, rfl⟩
theorem refIntR_c (w : World) (b n c p : Nat) (a : Option Addr) (bs : List Int) (e : Int) (h : Rd w b a n c bs p e) :
    Calls Try.prog 36 #[.pointer (some ⟨b, 0, none⟩)] w fun en w' => en = .returned (.int .i64 (rInt bs p e).1) ∧ RdR w w' b a n c bs (rInt bs p e).2 := by
  refine c36 _ ?_
  unfold d36
  refine (refUintR_c w b n c p a bs e h).mono ?_
  rintro en w' ⟨rfl, hw⟩
  have hr : (rUpto bs 18446744073709551615 p e).1 < 18446744073709551616 := by
    have := (rUpto_le (bs := bs) (e := e) (most := 18446744073709551615) h.B (by rw [h.len]; exact h.le)).2.2
    omega
  refine ⟨_, rfl, ?_⟩
  refine (refUnfold_c w' _ hr).mono ?_
  rintro en w2 ⟨rfl, rfl⟩
  exact ⟨_, rfl, rfl, hw⟩
theorem refRaw_c (w : World) (b n c p : Nat) (a : Option Addr) (bs : List Int) (e : Int) (k : Int) (h : Rd w b a n c bs p e) :
    Calls Try.prog 34 #[.pointer (some ⟨b, 0, none⟩), .int .i64 k] w fun en w' => ∃ xa xc, en = .returned (.slice xa (rRaw bs k p e).1.length xc) ∧ RdR w w' b a n c bs (rRaw bs k p e).2 ∧
      w'.ownsRow w.heap.size 5 1 (.slice xa (rRaw bs k p e).1.length xc) (rRaw bs k p e).1.length (u8 (rRaw bs k p e).1) := by
  refine c34 _ _ ?_
  unfold d34
  have hn := h.len
  have hN := h.N
  have hple := h.le
  unfold rRaw
  refine h.err ?_
  by_cases he : e = 0
  rotate_left
  · rw [bif_nneg he, if_pos he]
    exact ⟨none, 0, rfl, h.refl, own_nil _ _ _ _⟩
  subst he
  rw [bif_npos rfl, if_neg (show ¬ (0 : Int) ≠ 0 by omega)]
  by_cases h0 : k < 0
  · rw [bif_pos h0, if_pos h0]
    exact h.setErr _ fun w' hw => ⟨none, 0, rfl, hw, own_nil _ _ _ _⟩
  rw [bif_neg h0, if_neg h0]
  rintro w6 rfl
  have ht := (Tch.refl [] w).drew
  have hs0 : w.drew.heap.size = w.heap.size := rfl
  replace h := h.quiet ht
  generalize w.drew = w6 at *
  refine h.slice (h.at ?_)
  rw [wrap_i64 (n := (n : Int) - (p : Int)) (by omega) (by omega)]
  by_cases hs : (n : Int) - p < k
  · rw [bif_pos hs, if_pos (by omega)]
    exact h.setErr _ fun w' hw => ⟨none, 0, rfl, RdR.pre ht hw, own_nil _ _ _ _⟩
  rw [bif_neg hs, if_neg (by omega)]
  obtain ⟨q, rfl⟩ := Int.eq_ofNat_of_zero_le (show 0 ≤ k by omega)
  have hl : ((bs.drop p).take q).length = q := by rw [List.length_take, List.length_drop]; omega
  refine ⟨fun m xa xn xc i w' => ∃ j : Nat, i = j ∧ j ≤ q ∧ m = q - j ∧ xn = j ∧ w'.ownsRow w.heap.size 5 1 (.slice xa xn xc) xn (u8 (((bs.drop p).take q).take j)) ∧ Tch [] w6 w', ⟨q, 0, rfl, by omega, rfl, rfl, own_nil _ _ _ _, Tch.refl _ _⟩, ?_⟩
  rintro m w15 xa xn xc i ⟨j, rfl, hj, rfl, rfl, hown, ht2⟩
  have h15 := h.quiet ht2
  have hsz := ht2.size
  by_cases hlt : xn < q
  · rw [bif_pos (by omega)]
    rintro w18 rfl
    have ht3 := ht2.drew
    have h18 := h15.quiet (Tch.refl [] w15).drew
    have hown2 := own_up hown (Tch.refl [] w15).drew (fun _ _ h => by cases h)
    have hs18 : w15.drew.heap.size = w15.heap.size := rfl
    generalize w15.drew = w18 at *
    refine h18.slice (h18.at ?_)
    rw [wrap_i64 (n := (p : Int) + (xn : Int)) (by omega) (by omega), show Int.toNat ((p : Int) + (xn : Int)) = p + xn by omega]
    refine ⟨by omega, by omega, elem8 h18.row (by omega) ?_⟩
    refine app_elem_at bT hown2 (by rw [zc8]; rfl) (ys := u8 [bs.getD (p + xn) 0]) rfl rfl ones_ints (by omega) (by omega) (by omega) fun a' c' w28 k1 k2 k3 => ?_
    rw [wrap_i64 (by omega) (by omega)]
    refine ⟨q - (xn + 1), by omega, xn + 1, by omega, by omega, rfl, rfl, ?_, ht3.trans k2 fun i hi => .inr ?_⟩
    · rw [← List.map_append] at k1
      rw [take_succ_getD (by omega), getD_take (by omega), getD_drop]
      exact k1
    · have := rowL_ge hown2 i hi; omega
  · rw [bif_neg (by omega)]
    obtain rfl : xn = q := by omega
    refine h15.at (h15.setAt (q := p + xn) ?_ (by omega) fun w' hw => ?_)
    · rw [wrap_i64 (by omega) (by omega)]; omega
    rw [Int.toNat_natCast, hl]
    rw [List.take_of_length_le (l := (bs.drop p).take xn) (by omega)] at hown
    refine ⟨xa, xc, rfl, RdR.pre ht (RdR.pre ht2 hw), own_up hown hw.2 fun k hk => ?_⟩
    have h1 := h.blk.lt
    have h2 := (own_lt hown hk).1
    intro hm
    simp at hm
    omega
theorem refByte_c (w : World) (b n c p : Nat) (a : Option Addr) (bs : List Int) (e : Int) (h : Rd w b a n c bs p e) :
    Calls Try.prog 33 #[.pointer (some ⟨b, 0, none⟩)] w fun en w' => en = .returned (.int .u8 (rByte bs p e).1) ∧ RdR w w' b a n c bs (rByte bs p e).2 := by
  refine c33 _ ?_
  unfold d33
  refine (refRaw_c w b n c p a bs e 1 h).mono ?_
  rintro en w' ⟨xa, xc, rfl, hw, hown⟩
  refine ⟨_, _, _, rfl, ?_⟩
  unfold rByte
  by_cases hl : (rRaw bs 1 p e).1.length = 0
  · rw [bif_pos (by omega)]
    rw [List.length_eq_zero_iff.1 hl]
    exact ⟨rfl, hw⟩
  · rw [bif_neg (by omega)]
    refine ⟨by omega, by omega, ?_⟩
    exact elem8 (i := 0) (own_rsl hown ones_ints) (by omega) ⟨rfl, hw⟩
theorem refEnd_c (w : World) (b n c p : Nat) (a : Option Addr) (bs : List Int) (e : Int) (h : Rd w b a n c bs p e) :
    Calls Try.prog 37 #[.pointer (some ⟨b, 0, none⟩)] w fun en w' => en = .returned (.int .i64 (rEnd bs p e)) ∧ Tch [] w w' := by
  refine c37 _ ?_
  unfold d37 rEnd
  have hn := h.len
  rintro w1 rfl
  have ht := (Tch.refl [] w).drew
  replace h := h.quiet ht
  refine h.err ?_
  by_cases he : e = 0
  · rw [bif_pos he]
    refine h.at (h.slice ?_)
    by_cases hp : p < n
    · rw [bif_pos (by omega), if_pos ⟨he, by omega⟩]
      exact ⟨rfl, ht⟩
    · rw [bif_neg (by omega), if_neg (by omega)]
      exact h.err ⟨rfl, ht⟩
  · rw [bif_neg he, if_neg (fun h => he h.1)]
    exact h.err ⟨rfl, ht⟩
end Go.Proofs.Ytjkbjppopdfggaa.Lib
