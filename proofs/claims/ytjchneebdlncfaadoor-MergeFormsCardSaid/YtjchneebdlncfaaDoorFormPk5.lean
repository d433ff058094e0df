/-
  KEYS: their ten bytes; contracts of Check, form, Bytes, FromBytes, Compare, Rises and of the reference's.
  WORDS FOR CONTRACTS: rows of structs; memory that reads as nested rows of numbers, booleans and strings ('RepR').
  KEYS IN ORDER: contracts of Compare, Rises, and of the reference's.
  NUMBERS AS BYTES, AND BACK: 'uv', 'number', what a reader's steps do, as plain functions; there and back.
  TRANSACTIONS AND BATCHES: as data, as memory, as bytes (plain functions, no code in sight).
  Own work. No macro, syntax, notation, axiom.
-/
import Derived.Test.YtjchneebdlncfaaDoorFormPk3
import Derived.Test.YtjchneebdlncfaaDoorFormPk4
namespace Go.Proofs.YtjchneebdlncfaaDoor.Lib
open Go Den Fn
open Go.RowKit (Below)
set_option maxRecDepth 8000
set_option maxHeartbeats 1000000
def KeyOk (t : Int) : Prop := 0 ≤ t ∧ t ≤ 65535
instance (t : Int) : Decidable (KeyOk t) := by unfold KeyOk; infer_instance
abbrev keyC (t r : Int) : List Value := [.int .i64 t, .int .i64 r]
def rowU (r : Int) : Int := bXor .u64 (IntKind.wrap .u64 r) 9223372036854775808
/-- The eight bytes of a number, the high ones first. -/
def be8 (u : Int) : List Int := (List.range 8).map fun i : Nat => IntKind.wrap .u8 (shR .u64 u (56 - 8 * (i : Int)))
def keyB (t r : Int) : List Int := [IntKind.wrap .u8 (shR .i64 t 8), IntKind.wrap .u8 t] ++ be8 (rowU r)
theorem be8_length (u : Int) : (be8 u).length = 8 := by simp [be8]
theorem keyB_length (t r : Int) : (keyB t r).length = 10 := by simp [keyB, be8_length]
theorem be8_bytes (u : Int) : Bytes (be8 u) := by
  intro x hx
  simp only [be8, List.mem_map] at hx
  obtain ⟨i, _, rfl⟩ := hx
  exact wrap_u8_byte _
theorem keyB_bytes (t r : Int) : Bytes (keyB t r) := by
  refine Bytes.append (fun x hx => ?_) (be8_bytes _)
  simp at hx
  rcases hx with rfl | rfl <;> exact wrap_u8_byte _
theorem rowU_range (r : Int) : 0 ≤ rowU r ∧ rowU r < 18446744073709551616 := by
  unfold rowU bXor
  rw [wrap_u64_eq]
  omega

theorem zc140 : zc Tryd.prog 162 = u8 (List.replicate 10 0) := by kernel_rfl
theorem check_c (t r : Int) (w : World) : Calls Tryd.prog 90 #[.agg (keyC t r).toArray] w fun e w' => e = .returned (.int .i64 (if KeyOk t then 0 else 20)) ∧ Tch [] w w' := by
  refine c90 _ ?_
  unfold d90
  rintro w1 rfl
  have hX := Blk.fresh w (cs := keyC t r) 129 rfl
  have ht := (Tch.refl [] w).alloc (.cells (keyC t r).toArray 129)
  rw [add_mk]
  refine ⟨t, hX.cell 0, ?_⟩
  by_cases h1 : t < 0
  · rw [bif_pos h1, if_neg (by unfold KeyOk; omega)]
    exact ⟨rfl, ht⟩
  rw [bif_neg h1]
  refine ⟨t, hX.cell 0, ?_⟩
  by_cases h2 : 65535 < t
  · rw [bif_pos h2, if_neg (by unfold KeyOk; omega)]
    exact ⟨rfl, ht⟩
  rw [bif_neg h2, if_pos (by unfold KeyOk; omega)]
  exact ⟨rfl, ht⟩
theorem form_c (t r : Int) (w : World) : Calls Tryd.prog 91 #[.agg (keyC t r).toArray] w fun e w' => e = .returned (.agg (u8 (keyB t r)).toArray) ∧ Tch [] w w' := by
  refine c91 _ ?_
  unfold d91
  rintro w1 rfl
  have hK := Blk.fresh w (cs := keyC t r) 129 rfl
  have ht := (Tch.refl [] w).alloc (.cells (keyC t r).toArray 129)
  have s1 := size_alloc w (.cells (keyC t r).toArray 129)
  generalize w.alloc (.cells (keyC t r).toArray 129) = W1 at *
  rintro w2 rfl
  have hO : Blk _ _ (u8 (List.replicate 10 0)) := Blk.fresh W1 162 zc140
  have s2 := size_alloc W1 (.cells (zc Tryd.prog 162).toArray 162)
  replace hK := hK.alloc (.cells (zc Tryd.prog 162).toArray 162)
  replace ht := ht.alloc (.cells (zc Tryd.prog 162).toArray 162)
  generalize W1.alloc (.cells (zc Tryd.prog 162).toArray 162) = W2 at *
  rintro w3 rfl
  have hB : Blk _ _ (u8 (List.replicate 10 0)) := Blk.fresh W2 162 zc140
  replace hK := hK.alloc (.cells (zc Tryd.prog 162).toArray 162)
  replace hO := hO.alloc (.cells (zc Tryd.prog 162).toArray 162)
  replace ht := ht.alloc (.cells (zc Tryd.prog 162).toArray 162)
  rintro w4 rfl
  replace hK := hK.drew
  replace hO := hO.drew
  replace hB := hB.drew
  replace ht := ht.drew
  generalize (W2.alloc (.cells (zc Tryd.prog 162).toArray 162)).drew = W at *
  generalize hob : W1.heap.size = ob at *
  generalize hbb : W2.heap.size = bb at *
  generalize hkb : w.heap.size = kb at *
  simp only [add_mk, Nat.zero_add, Nat.mul_one]
  refine ⟨t, hK.cell 0, by omega, t, hK.cell 0, by omega, by omega, rfl, by rw [show Int.toNat 0 = 0 from rfl, hB.cell]; rfl, hB.frozen _, ?_⟩
  rintro w7 rfl
  have hB1 := hB.setInt 0 (IntKind.wrap .u8 (shR .i64 t 8))
  have hK1 := hK.set_ne (a := ⟨bb, 0, none⟩) (by show kb ≠ bb; omega) (.int .u8 (IntKind.wrap .u8 (shR .i64 t 8)))
  refine ⟨⟨t, hK1.cell 0, rfl, trivial⟩, by omega, by omega, rfl, by rw [show Int.toNat 1 = 1 from rfl]; erw [hB1.cell]; rfl, hB1.frozen _, ?_⟩
  rintro w9 rfl
  have hB2 := hB1.setInt 1 (IntKind.wrap .u8 t)
  have hK2 := hK1.set_ne (a := ⟨bb, 1, none⟩) (by show kb ≠ bb; omega) (.int .u8 (IntKind.wrap .u8 t))
  have hO2 := (hO.set_ne (a := ⟨bb, 0, none⟩) (by show ob ≠ bb; omega) (.int .u8 (IntKind.wrap .u8 (shR .i64 t 8)))).set_ne (a := ⟨bb, 1, none⟩) (by show ob ≠ bb; omega) (.int .u8 (IntKind.wrap .u8 t))
  refine ⟨r, hK2.cell 1, ?_⟩
  refine ⟨fun m x w' => ∃ (i : Nat) (l : List Int), i ≤ 8 ∧ x = i ∧ m = 8 - i ∧ Blk w' bb (u8 l) ∧ l.length = 10 ∧ l.take (2 + i) = (keyB t r).take (2 + i) ∧ Blk w' ob (u8 (List.replicate 10 0)) ∧ Tch [] w w', ⟨8, 0, _, by omega, rfl, rfl, hB2, rfl, rfl, hO2, (ht.setCell (.inr (by show _ ≤ bb; omega)) _).setCell (.inr (by show _ ≤ bb; omega)) _⟩, ?_⟩
  clear hB hB1 hB2 hK hK1 hK2 hO hO2 ht
  rintro m w13 x ⟨i, l, hi, rfl, rfl, hB, hll, htk, hO, ht⟩
  by_cases hlt : i < 8
  · rw [bif_pos (by omega), wrap_i64 (n := 8 * (i : Int)) (by omega) (by omega), wrap_i64 (n := 56 - 8 * (i : Int)) (by omega) (by omega), wrap_i64 (n := 2 + (i : Int)) (by omega) (by omega), show Int.toNat (2 + (i : Int)) = 2 + i by omega]
    refine ⟨by omega, by omega, by omega, rfl, by rw [hB.int (by omega)]; rfl, hB.frozen _, ?_⟩
    rintro w15 rfl
    rw [wrap_i64 (by omega) (by omega)]
    refine ⟨8 - (i + 1), by omega, i + 1, _, by omega, rfl, rfl, hB.setInt _ _, by simpa using hll, ?_, hO.set_ne (by show ob ≠ bb; omega) _, ht.setCell (.inr (by show _ ≤ bb; omega)) _⟩
    rw [← Nat.add_assoc, take_set_len (by omega), htk, List.take_succ_eq_append_getElem (by rw [keyB_length]; omega)]
    congr 2
    show IntKind.wrap .u8 (shR .u64 (rowU r) (56 - 8 * (i : Int))) = _
    have : (keyB t r)[2 + i]'(by rw [keyB_length]; omega) = (be8 (rowU r))[i]'(by rw [be8_length]; omega) := by
      simp only [keyB]
      rw [List.getElem_append_right (by simp)]
      simp
    rw [this]
    simp [be8]
  · have : i = 8 := by omega
    subst this
    rw [bif_neg (by omega)]
    have hl : l = keyB t r := by rw [← List.take_of_length_le (l := l) (i := 2 + 8) (by omega), htk, List.take_of_length_le (by rw [keyB_length]; omega)]
    subst hl
    refine get_all hB (by rw [List.length_map, hll]) ?_
    refine put_all hO (by simp) (by rw [List.length_map, hll]) ones_ints fun w' h1 h2 _ => ?_
    exact get_all h1 (by rw [List.length_map, hll]) ⟨rfl, ht.trans h2 (by simp; omega)⟩

theorem bytes_c (t r : Int) (w : World) : Calls Tryd.prog 68 #[.agg (keyC t r).toArray] w fun e w' =>
    if KeyOk t then ∃ a c, e = .returned (.tuple #[.slice a 10 c, .int .i64 0]) ∧ w'.ownsRow w.heap.size 5 1 (.slice a 10 c) 10 (u8 (keyB t r)) ∧ Tch [] w w'
    else e = .returned (.tuple #[.slice none 0 0, .int .i64 20]) ∧ Tch [] w w' := by
  refine c68 _ ?_
  unfold d68
  rintro w1 rfl
  have hK := Blk.fresh w (cs := keyC t r) 129 rfl
  have ht := (Tch.refl [] w).alloc (.cells (keyC t r).toArray 129)
  refine get_all hK rfl ?_
  refine (check_c t r _).mono ?_
  rintro e w4 ⟨rfl, ht4⟩
  refine ⟨_, rfl, ?_⟩
  replace hK := hK.tch ht4 (by simp)
  replace ht := ht.trans ht4 (by simp)
  by_cases hk : KeyOk t
  · rw [if_pos hk, bif_npos rfl]
    simp only [if_pos hk]
    refine get_all hK rfl ?_
    refine (form_c t r w4).mono ?_
    rintro e w8 ⟨rfl, ht8⟩
    replace ht := ht.trans ht8 (by simp)
    refine ⟨_, rfl, ?_⟩
    refine var_init (by rw [zc140]; simp) (by rw [List.length_map, keyB_length]) ones_ints fun w10 w11 h1 h2 h3 => ?_
    have hs8 := ht.size
    refine app_row bT (own_nil w11 w.heap.size 5 1) (ys := u8 (keyB t r)) (m := 10) (mc := 10) ?_ (by omega) (by omega) (by omega) fun a' c' w' h4 h5 => ?_
    · exact h1.rsl (by rw [List.length_map, keyB_length]) ones_ints
    · exact ⟨a', c', rfl, h4, (ht.trans h2 (by simp)).up h5 (Nat.le_refl _)⟩
  · rw [if_neg hk, bif_nneg (by omega)]
    simp only [if_neg hk]
    exact ⟨trivial, ht⟩
/-! ### A key out of ten bytes -/
theorem xor63 {x : Int} (h0 : 0 ≤ x) (h1 : x < 18446744073709551616) : bXor .u64 x 9223372036854775808 = if x < 9223372036854775808 then x + 9223372036854775808 else x - 9223372036854775808 := by
  obtain ⟨n, rfl⟩ := Int.eq_ofNat_of_zero_le h0
  have hn : n < 18446744073709551616 := by omega
  unfold bXor
  rw [BitVec.toNat_xor, toNat_ofInt (n := IntKind.bits .u64) (by omega) (by show (n : Int) < 18446744073709551616; omega), show (BitVec.ofInt (IntKind.bits .u64) 9223372036854775808).toNat = 2 ^ 63 from rfl, Int.toNat_natCast]
  have e1 : (n ^^^ 2 ^ 63) / 2 ^ 63 = n / 2 ^ 63 ^^^ 1 := by rw [Nat.xor_div_two_pow]
  have e2 : (n ^^^ 2 ^ 63) % 2 ^ 63 = n % 2 ^ 63 := by rw [Nat.xor_mod_two_pow, Nat.mod_self, Nat.xor_zero]
  have e3 : n ^^^ 2 ^ 63 = if n < 9223372036854775808 then n + 9223372036854775808 else n - 9223372036854775808 := by
    have h2 : n / 2 ^ 63 = if n < 9223372036854775808 then 0 else 1 := by split <;> omega
    rw [h2] at e1
    generalize n ^^^ 2 ^ 63 = y at *
    split at e1
    · rw [if_pos (by assumption)]; have : (0 ^^^ 1 : Nat) = 1 := rfl; omega
    · rw [if_neg (by assumption)]; have : (1 ^^^ 1 : Nat) = 0 := rfl; omega
  rw [e3]
  split
  · rw [if_pos (by omega), wrap_u64 (by omega) (by omega)]; omega
  · rw [if_neg (by omega), wrap_u64 (by omega) (by omega)]; omega
def rowI (u : Int) : Int := IntKind.wrap .i64 (bXor .u64 u 9223372036854775808)
theorem wrap_i64_hi {n : Int} (h1 : 9223372036854775808 ≤ n) (h2 : n < 18446744073709551616) : IntKind.wrap .i64 n = n - 18446744073709551616 := by
  simp [IntKind.wrap, IntKind.bits, IntKind.signed]
  omega
theorem rowI_rowU {r : Int} (h : I64 r) : rowI (rowU r) = r := by
  unfold I64 at h
  unfold rowI rowU
  rw [wrap_u64_eq, xor63 (x := r % 18446744073709551616) (by omega) (by omega)]
  split
  · rw [xor63 (by omega) (by omega), if_neg (by omega), wrap_i64 (by omega) (by omega)]; omega
  · rw [xor63 (by omega) (by omega), if_pos (by omega), wrap_i64_hi (by omega) (by omega)]; omega
theorem rowI_range {u : Int} (h0 : 0 ≤ u) (h1 : u < 18446744073709551616) : I64 (rowI u) := by
  unfold I64 rowI
  rw [xor63 h0 h1]
  split
  · rw [wrap_i64_hi (by omega) (by omega)]; omega
  · rw [wrap_i64 (by omega) (by omega)]; omega
theorem rowU_rowI {u : Int} (h0 : 0 ≤ u) (h1 : u < 18446744073709551616) : rowU (rowI u) = u := by
  unfold rowU rowI
  rw [xor63 h0 h1]
  split
  · rw [wrap_i64_hi (by omega) (by omega), wrap_u64_eq, xor63 (by omega) (by omega), if_neg (by omega)]; omega
  · rw [wrap_i64 (by omega) (by omega), wrap_u64 (by omega) (by omega), xor63 (by omega) (by omega), if_pos (by omega)]; omega
/-- A number out of bytes, the high ones first. -/
def beU (l : List Int) : Int := l.foldl (fun u x => u * 256 + x) 0
theorem beU_snoc (l : List Int) (x : Int) : beU (l ++ [x]) = beU l * 256 + x := by simp [beU]
theorem beU_take {l : List Int} {k : Nat} (h : k < l.length) : beU (l.take (k + 1)) = beU (l.take k) * 256 + l.getD k 0 := by rw [take_succ_getD h, beU_snoc]
theorem beU_range {l : List Int} (hB : Bytes l) : ∀ k, k ≤ l.length → 0 ≤ beU (l.take k) ∧ beU (l.take k) < 256 ^ k
  | 0, _ => by simp [beU]
  | k + 1, h => by
    have := beU_range hB k (by omega)
    have hb := byte_of hB k
    rw [beU_take (by omega), Int.pow_succ]
    omega
theorem eight8 {v : List Int} (h : v.length = 8) : ∃ a b c d e f g k, v = [a, b, c, d, e, f, g, k] := by
  match v, h with
  | [a, b, c, d, e, f, g, k], _ => exact ⟨a, b, c, d, e, f, g, k, rfl⟩
theorem be8_eq {u : Int} (h0 : 0 ≤ u) : be8 u = [u / 72057594037927936 % 256, u / 281474976710656 % 256, u / 1099511627776 % 256, u / 4294967296 % 256, u / 16777216 % 256, u / 65536 % 256, u / 256 % 256, u % 256] := by
  have hs : ∀ k : Nat, k ≤ 64 → IntKind.wrap .u8 (shR .u64 u ((k : Nat) : Int)) = u / 2 ^ k % 256 := fun k hk => by rw [wrap_u8_eq, shR_nat (k := .u64) k hk]
  have h1 := hs 56 (by omega); have h2 := hs 48 (by omega); have h3 := hs 40 (by omega); have h4 := hs 32 (by omega); have h5 := hs 24 (by omega); have h6 := hs 16 (by omega); have h7 := hs 8 (by omega); have h8 := hs 0 (by omega)
  have e : be8 u = [IntKind.wrap .u8 (shR .u64 u ((56 : Nat) : Int)), IntKind.wrap .u8 (shR .u64 u ((48 : Nat) : Int)), IntKind.wrap .u8 (shR .u64 u ((40 : Nat) : Int)), IntKind.wrap .u8 (shR .u64 u ((32 : Nat) : Int)), IntKind.wrap .u8 (shR .u64 u ((24 : Nat) : Int)), IntKind.wrap .u8 (shR .u64 u ((16 : Nat) : Int)), IntKind.wrap .u8 (shR .u64 u ((8 : Nat) : Int)), IntKind.wrap .u8 (shR .u64 u ((0 : Nat) : Int))] := rfl
  rw [e, h1, h2, h3, h4, h5, h6, h7, h8]
  simp
theorem be8_beU {l : List Int} (h : l.length = 8) (hB : Bytes l) : be8 (beU l) = l := by
  have hr := beU_range hB 8 (by omega)
  rw [List.take_of_length_le (by omega)] at hr
  rw [be8_eq hr.1]
  obtain ⟨a, b, c, d, e, f, g, k, rfl⟩ := eight8 h
  have ha := hB a (by simp); have hb := hB b (by simp); have hc := hB c (by simp); have hd := hB d (by simp)
  have he := hB e (by simp); have hf := hB f (by simp); have hg := hB g (by simp); have hk := hB k (by simp)
  simp only [beU, List.foldl_cons, List.foldl_nil]
  clear h hB hr
  congr 1
  · omega
  congr 1
  · omega
  congr 1
  · omega
  congr 1
  · omega
  congr 1
  · omega
  congr 1
  · omega
  congr 1
  · omega
  congr 1
  omega
theorem beU_be8 {u : Int} (h0 : 0 ≤ u) (h1 : u < 18446744073709551616) : beU (be8 u) = u := by
  rw [be8_eq h0]
  simp only [beU, List.foldl_cons, List.foldl_nil]
  omega
/-- The key of ten bytes, and the error. -/
def fromB (l : List Int) : Int × Int × Int :=
  if l.length < 10 then (0, 0, 10) else if 10 < l.length then (0, 0, 11) else (l.getD 0 0 * 256 + l.getD 1 0, rowI (beU (l.drop 2)), 0)
theorem fromB_range {l : List Int} (hB : Bytes l) : KeyOk (fromB l).1 ∧ I64 (fromB l).2.1 := by
  unfold fromB
  split
  · unfold KeyOk I64; simp
  split
  · unfold KeyOk I64; simp
  have h0 := byte_of hB 0; have h1 := byte_of hB 1
  have hl : (l.drop 2).length = 8 := by rw [List.length_drop]; omega
  have hr := beU_range (hB.drop 2) 8 (by omega)
  rw [List.take_of_length_le (by omega)] at hr
  exact ⟨by unfold KeyOk; simp only; omega, rowI_range hr.1 hr.2⟩
theorem hi_byte {t : Int} (h : KeyOk t) : IntKind.wrap .u8 (shR .i64 t 8) = t / 256 := by
  unfold KeyOk at h
  rw [show (8 : Int) = ((8 : Nat) : Int) from rfl, shR_nat (k := .i64) 8 (by decide), wrap_u8 (by omega) (by omega)]
  omega
theorem fromB_keyB {t r : Int} (ht : KeyOk t) (hr : I64 r) : fromB (keyB t r) = (t, r, 0) := by
  have hl := keyB_length t r
  unfold fromB
  rw [if_neg (by omega), if_neg (by omega)]
  have hu := rowU_range r
  have e2 : (keyB t r).drop 2 = be8 (rowU r) := rfl
  have e0 : (keyB t r).getD 0 0 = IntKind.wrap .u8 (shR .i64 t 8) := rfl
  have e1 : (keyB t r).getD 1 0 = IntKind.wrap .u8 t := rfl
  rw [e2, e0, e1, beU_be8 hu.1 hu.2, rowI_rowU hr, hi_byte ht, wrap_u8_eq]
  unfold KeyOk at ht
  congr 1
  omega
theorem keyB_fromB {l : List Int} (hl : l.length = 10) (hB : Bytes l) : keyB (fromB l).1 (fromB l).2.1 = l := by
  unfold fromB
  rw [if_neg (by omega), if_neg (by omega)]
  have h0 := byte_of hB 0; have h1 := byte_of hB 1
  have hl2 : (l.drop 2).length = 8 := by rw [List.length_drop]; omega
  have hr := beU_range (hB.drop 2) 8 (by omega)
  rw [List.take_of_length_le (by omega)] at hr
  unfold keyB
  simp only
  rw [hi_byte (by unfold KeyOk; omega), rowU_rowI hr.1 hr.2, be8_beU hl2 (hB.drop 2), wrap_u8_eq]
  conv => rhs; rw [← List.take_append_drop 2 l]
  congr 1
  rw [take_succ_getD (by omega), take_succ_getD (by omega)]
  simp only [List.take_zero, List.nil_append, List.cons_append]
  congr 1
  · omega
  · congr 1; omega
theorem zcKey : zc Tryd.prog 129 = keyC 0 0 := by kernel_rfl
theorem elemK {w : World} {a : Option Addr} {n c : Nat} {bs : List Int} (h : RSl w 1 a n c (u8 bs)) {i : Nat} (hi : i < n) {K : Int → Prop} (hK : K (bs.getD i 0)) :
    optK a fun x => ∃ y : Int, World.cell? w (Addr.add x (i * 1)) = some (.int .u8 y) ∧ K y := by
  obtain ⟨b, o, rfl, g⟩ := h.int hi
  refine ⟨_, ?_, hK⟩
  rw [add_mk, Nat.mul_one]
  exact g
theorem row_step {u x : Int} (h0 : 0 ≤ u) (h1 : u < 72057594037927936) (hx : 0 ≤ x ∧ x < 256) : bOr .u64 (shL .u64 u 8) (IntKind.wrap .u64 x) = u * 256 + x := by
  obtain ⟨n, rfl⟩ := Int.eq_ofNat_of_zero_le h0
  obtain ⟨m, rfl⟩ := Int.eq_ofNat_of_zero_le hx.1
  have e : shL .u64 (n : Int) 8 = ((n * 2 ^ 8 : Nat) : Int) := by
    unfold shL
    rw [show min (Int.toNat 8) (IntKind.bits .u64) = 8 from rfl, wrap_u64 (by omega) (by omega)]
    omega
  rw [e, wrap_u64 (by omega) (by omega), bOr_nat (k := .u64) (by decide) 8 (by omega) (by show n * 2 ^ 8 + m < 18446744073709551616; omega) (wrap_u64 (by omega) (by omega))]
  omega
theorem tab_step {x y : Int} (hx : 0 ≤ x ∧ x < 256) (hy : 0 ≤ y ∧ y < 256) : bOr .i64 (shL .i64 (IntKind.wrap .i64 x) 8) (IntKind.wrap .i64 y) = x * 256 + y := by
  obtain ⟨n, rfl⟩ := Int.eq_ofNat_of_zero_le hx.1
  obtain ⟨m, rfl⟩ := Int.eq_ofNat_of_zero_le hy.1
  have e : shL .i64 (n : Int) 8 = ((n * 2 ^ 8 : Nat) : Int) := by
    unfold shL
    rw [show min (Int.toNat 8) (IntKind.bits .i64) = 8 from rfl, wrap_i64 (by omega) (by omega)]
    omega
  rw [wrap_i64 (n := (n : Int)) (by omega) (by omega), wrap_i64 (n := (m : Int)) (by omega) (by omega), e, bOr_nat (k := .i64) (by decide) 8 (by omega) (by show n * 2 ^ 8 + m < 18446744073709551616; omega) (wrap_i64 (by omega) (by omega))]
  omega
theorem fromBytes_c (w : World) (bs : List Int) (a : Option Addr) (n c : Nat) (hr : RSl w 1 a n c (u8 bs)) (hB : Bytes bs) :
    Calls Tryd.prog 110 #[.slice a n c] w fun e w' => e = .returned (.tuple #[.agg (keyC (fromB bs).1 (fromB bs).2.1).toArray, .int .i64 (fromB bs).2.2]) ∧ Tch [] w w' := by
  refine c110 _ _ _ ?_
  unfold d110
  have hn := u8_len hr
  have hcap := hr.cap
  rintro w1 rfl
  have hS := (St.refl w []).new _ 129 zcKey
  replace hr := hr.tch hS.tch (fun _ _ h => by cases h)
  generalize w.alloc (.cells (zc Tryd.prog 129).toArray 129) = w1 at *
  unfold fromB
  by_cases h1 : n < 10
  · rw [bif_pos (by omega), if_pos (by omega)]
    refine ⟨keyC 0 0, by rw [zcKey]; rfl, ?_⟩
    refine put_all (n := 2) (hS.blk (List.mem_singleton.2 rfl)) rfl rfl (ones_ints (l := [0, 0])) fun w' h1 h2 _ => ?_
    exact get_all h1 rfl ⟨rfl, hS.tch.trans h2 (by simp)⟩
  rw [bif_neg (by omega), if_neg (show ¬ bs.length < 10 by omega)]
  by_cases h2 : 10 < n
  · rw [bif_pos (by omega), if_pos (by omega)]
    refine ⟨keyC 0 0, by rw [zcKey]; rfl, ?_⟩
    refine put_all (n := 2) (hS.blk (List.mem_singleton.2 rfl)) rfl rfl (ones_ints (l := [0, 0])) fun w' h1 h2 _ => ?_
    exact get_all h1 rfl ⟨rfl, hS.tch.trans h2 (by simp)⟩
  rw [bif_neg (by omega), if_neg (show ¬ 10 < bs.length by omega)]
  have hl2 : (bs.drop 2).length = 8 := by rw [List.length_drop]; omega
  have hc2 := hr.cut (l := 2) (hh := n) (by omega) (by omega)
  rw [List.take_of_length_le (by omega)] at hc2
  refine ⟨by omega, by omega, ?_⟩
  refine ⟨fun m u x w' => ∃ k : Nat, x = k ∧ k ≤ 8 ∧ m = 8 - k ∧ u = beU ((bs.drop 2).take k) ∧ w' = w1, ⟨8, 0, rfl, by omega, rfl, rfl, rfl⟩, ?_⟩
  rintro m w10 u x ⟨k, rfl, hk, rfl, rfl, rfl⟩
  have hrg := beU_range (hB.drop 2) k (by omega)
  simp only [show Int.toNat 2 = 2 from rfl]
  by_cases hlt : k < 8
  · rw [bif_pos (by omega)]
    refine ⟨by omega, by omega, ?_⟩
    rw [Int.toNat_natCast]
    refine elemK hc2 (by omega) ⟨by omega, ?_⟩
    have h56 : (256 : Int) ^ k ≤ 256 ^ 7 := by
      have : (256 : Nat) ^ k ≤ 256 ^ 7 := Nat.pow_le_pow_right (by omega) (by omega)
      exact_mod_cast this
    rw [row_step hrg.1 (by omega) (byte_of (hB.drop 2) k), wrap_i64 (by omega) (by omega)]
    exact ⟨8 - (k + 1), by omega, k + 1, by omega, by omega, rfl, by rw [beU_take (by omega)], trivial⟩
  · obtain rfl : k = 8 := by omega
    rw [bif_neg (by omega), List.take_of_length_le (by omega)]
    rintro w16 rfl
    replace hS := hS.drew
    have hrd := hr.tch (Tch.refl [] w10).drew (fun _ _ h => by cases h)
    refine ⟨by omega, by omega, elemK (i := 0) hrd (by omega) ?_⟩
    refine ⟨by omega, by omega, by omega, elemK (i := 1) hrd (by omega) ?_⟩
    rw [tab_step (byte_of hB 0) (byte_of hB 1)]
    refine ⟨keyC (bs.getD 0 0 * 256 + bs.getD 1 0) (rowI (beU (bs.drop 2))), by rw [zcKey]; rfl, ?_⟩
    refine put_all (n := 2) (hS.blk (List.mem_singleton.2 rfl)) rfl rfl (ones_ints (l := [_, _])) fun w' h1 h2 _ => ?_
    exact get_all h1 rfl ⟨rfl, hS.tch.trans h2 (by simp)⟩
end Go.Proofs.YtjchneebdlncfaaDoor.Lib
namespace Go.Proofs.YtjchneebdlncfaaDoor.Den
open Go
open Go.RowKit (Below)
/-! ### Rows of structs -/
def rows {α : Type} (f : α → List Value) (l : List α) : List Value := (l.map f).flatten
variable {α : Type} {f : α → List Value} {sz : Nat}
theorem rows_cons (x : α) (l : List α) : rows f (x :: l) = f x ++ rows f l := by simp [rows]
theorem rows_append (a b : List α) : rows f (a ++ b) = rows f a ++ rows f b := by simp [rows]
theorem rows_len : ∀ {l : List α}, (∀ x ∈ l, (f x).length = sz) → (rows f l).length = l.length * sz
  | [], _ => by simp [rows]
  | x :: l, h => by
    rw [rows_cons, List.length_append, h x (by simp), rows_len fun y hy => h y (by simp [hy]), List.length_cons, Nat.succ_mul]
    omega
theorem rows_drop : ∀ {l : List α} (_ : ∀ x ∈ l, (f x).length = sz) (k : Nat), (rows f l).drop (k * sz) = rows f (l.drop k)
  | [], _, k => by simp [rows]
  | x :: l, h, 0 => by simp
  | x :: l, h, k + 1 => by
    rw [List.drop_succ_cons, ← rows_drop (fun y hy => h y (by simp [hy])) k, rows_cons, Nat.succ_mul, Nat.add_comm, ← List.drop_drop]
    congr 1
    have := h x (by simp)
    rw [← this, List.drop_left]
theorem rows_get {l : List α} (h : ∀ x ∈ l, (f x).length = sz) {i : Nat} {x : α} (hx : l[i]? = some x) : ((rows f l).drop (i * sz)).take sz = f x := by
  rw [rows_drop h]
  obtain ⟨hi, hxi⟩ := List.getElem?_eq_some_iff.1 hx
  rw [List.drop_eq_getElem_cons hi, hxi, rows_cons, ← h x (List.mem_of_getElem? hx), List.take_left]
theorem RSl.count {w : World} {a : Option Addr} {n c : Nat} {l : List α} (hr : RSl w sz a n c (rows f l)) (hf : ∀ x ∈ l, (f x).length = sz) (h0 : 0 < sz) : l.length = n := by
  have := hr.len
  rw [rows_len hf] at this
  exact Nat.eq_of_mul_eq_mul_right h0 this
theorem RSl.elem' {w : World} {a : Option Addr} {n c : Nat} {l : List α} (hr : RSl w sz a n c (rows f l)) (hf : ∀ x ∈ l, (f x).length = sz) (h0 : 0 < sz) {i : Nat} {x : α} (hi : l[i]? = some x) :
    ∃ b o, a = some ⟨b, o, none⟩ ∧ Cells w ⟨b, o + i * sz, none⟩ (f x) := by
  have hin : i < n := by rw [← hr.count hf h0]; exact (List.getElem?_eq_some_iff.1 hi).1
  obtain ⟨b, o, h1, h2⟩ := hr.get hin h0
  rw [rows_get hf hi] at h2
  exact ⟨b, o, h1, h2⟩
/-- An element is read whole. -/
theorem RSl.elem {w : World} {a : Option Addr} {n c : Nat} {l : List α} (hr : RSl w sz a n c (rows f l)) (hf : ∀ x ∈ l, (f x).length = sz) (h0 : 0 < sz) {i : Nat} {x : α} (hi : l[i]? = some x) {K : List Value → Prop} (hK : K (f x)) :
    optK a fun y => ∃ cs : List Value, List.length cs = sz ∧ Cells w (Addr.add y (i * sz)) cs ∧ K cs := by
  obtain ⟨b, o, rfl, h⟩ := hr.elem' hf h0 hi
  refine ⟨f x, hf x (List.mem_of_getElem? hi), ?_, hK⟩
  rw [add_mk]
  exact h
theorem cells_get {w : World} {b o : Nat} {cs : List Value} (h : Cells w ⟨b, o, none⟩ cs) {i : Nat} {v : Value} (hv : cs[i]? = some v) : w.cell? ⟨b, o + i, none⟩ = some v := by
  have := h i v hv
  rwa [add_mk] at this
/-! ### Nested rows -/
inductive CK where
  | int (k : IntKind)
  | bool
  | str
  | sl (e : List CK)
def RepL (F : CK → Value → Prop) : List CK → List Value → Prop
  | [], [] => True
  | k :: ks, v :: vs => F k v ∧ RepL F ks vs
  | _, _ => False
/-- A cell that reads so, to a depth. -/
def RepV (w : World) : Nat → CK → Value → Prop
  | _, .int k, v => fit (.int k) v
  | _, .bool, v => fit .bool v
  | _, .str, v => fit .str v
  | 0, .sl _, _ => False
  | d + 1, .sl e, v => ∃ (a : Option Addr) (n c : Nat) (rs : List (List Value)), v = .slice a n c ∧ rs.length = n ∧ c ≤ maxLen ∧ RSl w e.length a n c rs.flatten ∧ (∀ r ∈ rs, RepL (RepV w d) e r)
abbrev RepR (w : World) (d : Nat) (ks : List CK) (vs : List Value) : Prop := RepL (RepV w d) ks vs
theorem RepL.length {F : CK → Value → Prop} : ∀ {ks : List CK} {vs : List Value}, RepL F ks vs → vs.length = ks.length
  | [], [], _ => rfl
  | _ :: _, _ :: _, h => by simp [RepL.length h.2]
  | [], _ :: _, h => h.elim
  | _ :: _, [], h => h.elim
theorem RepL.mono {F G : CK → Value → Prop} (hFG : ∀ k v, F k v → G k v) : ∀ {ks : List CK} {vs : List Value}, RepL F ks vs → RepL G ks vs
  | [], [], _ => trivial
  | _ :: _, _ :: _, h => ⟨hFG _ _ h.1, RepL.mono hFG h.2⟩
  | [], _ :: _, h => h.elim
  | _ :: _, [], h => h.elim
theorem RepL.append {F : CK → Value → Prop} : ∀ {ks js : List CK} {vs us : List Value}, RepL F ks vs → RepL F js us → RepL F (ks ++ js) (vs ++ us)
  | [], _, [], _, _, h => h
  | _ :: _, _, _ :: _, _, h, k => ⟨h.1, RepL.append h.2 k⟩
  | [], _, _ :: _, _, h, _ => h.elim
  | _ :: _, _, [], _, h, _ => h.elim
theorem RepV.below {w w' : World} (hb : Below w.heap.size w w') : ∀ (d : Nat) (k : CK) (v : Value), RepV w d k v → RepV w' d k v
  | 0, .int _, _, h => h
  | 0, .bool, _, h => h
  | 0, .str, _, h => h
  | 0, .sl _, _, h => h.elim
  | _ + 1, .int _, _, h => h
  | _ + 1, .bool, _, h => h
  | _ + 1, .str, _, h => h
  | d + 1, .sl e, v, h => by
    obtain ⟨a, n, c, rs, rfl, h1, h2, h3, h4⟩ := h
    exact ⟨a, n, c, rs, rfl, h1, h2, h3.below hb, fun r hr => (h4 r hr).mono (RepV.below hb d)⟩
theorem RepV.one {w : World} : ∀ {d : Nat} {k : CK} {v : Value}, RepV w d k v → one v = true
  | 0, .int _, v, h => by cases v <;> first | rfl | exact h.elim
  | 0, .bool, v, h => by cases v <;> first | rfl | exact h.elim
  | 0, .str, v, h => by cases v <;> first | rfl | exact h.elim
  | 0, .sl _, _, h => h.elim
  | _ + 1, .int _, v, h => by cases v <;> first | rfl | exact h.elim
  | _ + 1, .bool, v, h => by cases v <;> first | rfl | exact h.elim
  | _ + 1, .str, v, h => by cases v <;> first | rfl | exact h.elim
  | d + 1, .sl e, v, h => by
    obtain ⟨a, n, c, rs, rfl, _⟩ := h
    rfl
theorem RepL.ones {w : World} {d : Nat} : ∀ {ks : List CK} {vs : List Value}, RepR w d ks vs → ∀ u ∈ vs, one u = true
  | [], [], _, u, hu => by simp at hu
  | k :: ks, v :: vs, h, u, hu => by
    rcases List.mem_cons.1 hu with rfl | hu
    · exact RepV.one h.1
    · exact RepL.ones h.2 u hu
  | [], _ :: _, h, _, _ => h.elim
  | _ :: _, [], h, _, _ => h.elim
theorem RepV.int {w : World} {d : Nat} {k : IntKind} {v : Value} (h : RepV w d (.int k) v) : ∃ n, v = .int k n ∧ (Lit.int k n).wf = true := by
  have h : fit (.int k) v := by cases d <;> exact h
  cases v <;> first | exact h.elim | skip
  obtain ⟨rfl, hw⟩ := h
  exact ⟨_, rfl, hw⟩
theorem RepV.bool {w : World} {d : Nat} {v : Value} (h : RepV w d .bool v) : ∃ b, v = .bool b := by
  have h : fit .bool v := by cases d <;> exact h
  cases v <;> first | exact h.elim | skip
  exact ⟨_, rfl⟩
theorem RepV.sl {w : World} {d : Nat} {e : List CK} {v : Value} (h : RepV w d (.sl e) v) : ∃ (d' : Nat) (a : Option Addr) (n c : Nat) (rs : List (List Value)), d = d' + 1 ∧ v = .slice a n c ∧ rs.length = n ∧ c ≤ maxLen ∧ RSl w e.length a n c rs.flatten ∧ (∀ r ∈ rs, RepR w d' e r) := by
  cases d with
  | zero => exact h.elim
  | succ d =>
    obtain ⟨a, n, c, rs, h⟩ := h
    exact ⟨d, a, n, c, rs, rfl, h⟩
theorem RepL.cons {F : CK → Value → Prop} {k : CK} {ks : List CK} {vs : List Value} (h : RepL F (k :: ks) vs) : ∃ v r, vs = v :: r ∧ F k v ∧ RepL F ks r := by
  cases vs with
  | nil => exact h.elim
  | cons v r => exact ⟨v, r, rfl, h⟩
theorem RepL.nil {F : CK → Value → Prop} {vs : List Value} (h : RepL F [] vs) : vs = [] := by
  cases vs with
  | nil => rfl
  | cons v r => exact h.elim
theorem RepV.up {w : World} : ∀ {d : Nat} {k : CK} {v : Value}, RepV w d k v → RepV w (d + 1) k v
  | 0, .int _, _, h => h
  | 0, .bool, _, h => h
  | 0, .str, _, h => h
  | 0, .sl _, _, h => h.elim
  | _ + 1, .int _, _, h => h
  | _ + 1, .bool, _, h => h
  | _ + 1, .str, _, h => h
  | d + 1, .sl e, v, h => by
    obtain ⟨a, n, c, rs, rfl, h1, h2, h3, h4⟩ := h
    exact ⟨a, n, c, rs, rfl, h1, h2, h3, fun r hr => (h4 r hr).mono fun _ _ => RepV.up⟩
theorem cells_append {w : World} {b o : Nat} {xs ys : List Value} (h : Cells w ⟨b, o, none⟩ xs) (k : Cells w ⟨b, o + xs.length, none⟩ ys) : Cells w ⟨b, o, none⟩ (xs ++ ys) := fun i v hv => by
  rw [add_mk]
  by_cases hi : i < xs.length
  · rw [List.getElem?_append_left hi] at hv
    exact cells_get h hv
  · rw [List.getElem?_append_right (by omega)] at hv
    have := cells_get k hv
    rwa [show o + xs.length + (i - xs.length) = o + i by omega] at this
theorem cells_rows {w : World} {b : Nat} : ∀ {l : List α} {o : Nat}, (∀ x ∈ l, (f x).length = sz) → (∀ i x, l[i]? = some x → Cells w ⟨b, o + i * sz, none⟩ (f x)) → Cells w ⟨b, o, none⟩ (rows f l)
  | [], o, _, _ => fun i v hv => by simp [rows] at hv
  | x :: l, o, hf, h => by
    rw [rows_cons]
    refine cells_append (by have := h 0 x rfl; simpa using this) ?_
    rw [hf x (by simp)]
    refine cells_rows (fun y hy => hf y (by simp [hy])) fun i y hy => ?_
    have := h (i + 1) y (by simpa using hy)
    rwa [Nat.succ_mul, show o + (i * sz + sz) = o + sz + i * sz by omega] at this
end Go.Proofs.YtjchneebdlncfaaDoor.Den
namespace Go.Proofs.YtjchneebdlncfaaDoor.Lib
open Go Den Fn
open Go.RowKit (Below)
open Classical
set_option maxRecDepth 8000
set_option maxHeartbeats 1000000
abbrev kC (k : Int × Int) : List Value := keyC k.1 k.2
def kI (k : Int × Int) : Prop := I64 k.1 ∧ I64 k.2
def cmpK (a b : Int × Int) : Int := if a.1 < b.1 then -1 else if b.1 < a.1 then 1 else if a.2 < b.2 then -1 else if b.2 < a.2 then 1 else 0
def RisesS (l : List (Int × Int)) : Prop := (∀ k ∈ l, KeyOk k.1) ∧ ∀ i a b, l[i]? = some a → l[i + 1]? = some b → cmpK a b < 0
theorem kC_len {l : List (Int × Int)} : ∀ k ∈ l, (kC k).length = 2 := fun _ _ => rfl
theorem key_flat : flatK Tryd.prog 6 129 = some [.int .i64, .int .i64] := by kernel_rfl
theorem key_eqT : eqT Tryd.prog 6 129 = true := by kernel_rfl
theorem key_fits {k : Int × Int} (h : kI k) : Fits [.int .i64, .int .i64] (kC k) := ⟨⟨rfl, i64_wf.2 h.1⟩, ⟨rfl, i64_wf.2 h.2⟩, trivial⟩
theorem kC_inj {a b : Int × Int} : kC a = kC b ↔ a = b := by
  obtain ⟨a1, a2⟩ := a
  obtain ⟨b1, b2⟩ := b
  simp
theorem kT : slT Tryd.prog 74 129 2 16 = true := by kernel_rfl
theorem kC_one {k : Int × Int} : ∀ u ∈ kC k, one u = true := by simp [one]
theorem kCs_one {l : List (Int × Int)} : ∀ u ∈ rows kC l, one u = true := fun u hu => by
  unfold rows at hu
  obtain ⟨r, hr, hu⟩ := List.mem_flatten.1 hu
  obtain ⟨k, _, rfl⟩ := List.mem_map.1 hr
  exact kC_one u hu
theorem cmpi_c (x y : Int) (w : World) : Calls Tryd.prog 115 #[.int .i64 x, .int .i64 y] w fun e w' => e = .returned (.int .i64 (if x < y then -1 else if y < x then 1 else 0)) ∧ w' = w := by
  refine c115 _ _ ?_
  unfold d115
  have nan : ∀ x w, Calls Tryd.prog 117 #[.int .i64 x] w fun e w' => e = .returned (.bool false) ∧ w' = w := fun x w => by
    refine c117 _ ?_
    unfold d117
    simp
  refine (nan x w).mono ?_
  rintro e w3 ⟨rfl, rfl⟩
  refine ⟨_, rfl, ?_⟩
  refine (nan y w3).mono ?_
  rintro e w6 ⟨rfl, rfl⟩
  refine ⟨_, rfl, ?_⟩
  rw [cond_false, cond_false]
  by_cases h1 : x < y
  · rw [bif_pos h1, if_pos h1]; exact ⟨rfl, rfl⟩
  rw [bif_neg h1, if_neg h1]
  by_cases h2 : y < x
  · rw [bif_pos h2, if_pos h2]; exact ⟨rfl, rfl⟩
  · rw [bif_neg h2, if_neg h2]; exact ⟨rfl, rfl⟩
theorem cmpl_c (x y : Int) (w : World) : Calls Tryd.prog 116 #[.int .i64 x, .int .i64 y] w fun e w' => e = .returned (.int .i64 (if x < y then -1 else if y < x then 1 else 0)) ∧ w' = w := by
  refine c116 _ _ ?_
  unfold d116
  have nan : ∀ x w, Calls Tryd.prog 118 #[.int .i64 x] w fun e w' => e = .returned (.bool false) ∧ w' = w := fun x w => by
    refine c118 _ ?_
    unfold d118
    simp
  refine (nan x w).mono ?_
  rintro e w3 ⟨rfl, rfl⟩
  refine ⟨_, rfl, ?_⟩
  refine (nan y w3).mono ?_
  rintro e w6 ⟨rfl, rfl⟩
  refine ⟨_, rfl, ?_⟩
  rw [cond_false, cond_false]
  by_cases h1 : x < y
  · rw [bif_pos h1, if_pos h1]; exact ⟨rfl, rfl⟩
  rw [bif_neg h1, if_neg h1]
  by_cases h2 : y < x
  · rw [bif_pos h2, if_pos h2]; exact ⟨rfl, rfl⟩
  · rw [bif_neg h2, if_neg h2]; exact ⟨rfl, rfl⟩
theorem or_c (x y : Int) (w : World) (b : Nat) (hb : Blk w b [.int .i64 x, .int .i64 y]) : Calls Tryd.prog 114 #[.slice (some ⟨b, 0, none⟩) 2 2] w fun e w' => e = .returned (.int .i64 (if x = 0 then y else x)) ∧ w' = w := by
  refine c114 _ _ _ ?_
  unfold d114
  refine ⟨fun m i w' => ∃ k : Nat, k ≤ 2 ∧ i = k ∧ m = 2 - k ∧ w' = w ∧ (0 < k → x = 0) ∧ (1 < k → y = 0), ⟨2, 0, by omega, rfl, rfl, rfl, by omega, by omega⟩, ?_⟩
  rintro m w3 i ⟨k, hk, rfl, rfl, rfl, h0, h1⟩
  by_cases hlt : k < 2
  · rw [bif_pos (by omega)]
    refine ⟨by omega, by omega, ?_⟩
    show ∃ _, _
    rw [Int.toNat_natCast, add_mk, Nat.mul_one, Nat.zero_add]
    rcases (show k = 0 ∨ k = 1 by omega) with rfl | rfl
    · refine ⟨x, hb.cell 0, ?_⟩
      by_cases hx : x = 0
      · rw [bif_npos hx]
        exact ⟨1, by omega, 1, by omega, by decide, rfl, rfl, fun _ => hx, by omega⟩
      · rw [bif_nneg hx, if_neg hx]
        exact ⟨rfl, rfl⟩
    · refine ⟨y, hb.cell 1, ?_⟩
      rw [if_pos (h0 (by omega))]
      by_cases hy : y = 0
      · rw [bif_npos hy]
        exact ⟨0, by omega, 2, by omega, by decide, rfl, rfl, fun _ => h0 (by omega), fun _ => hy⟩
      · rw [bif_nneg hy]
        exact ⟨rfl, rfl⟩
  · rw [bif_neg (by omega), if_pos (h0 (by omega)), h1 (by omega)]
    exact ⟨rfl, rfl⟩
theorem zcInt : zc Tryd.prog 3 = [.int .i64 0] := by kernel_rfl
theorem compare_c (a b : Int × Int) (w : World) (ha : kI a) (hb : kI b) : Calls Tryd.prog 104 #[.agg (kC a).toArray, .agg (kC b).toArray] w fun e w' => e = .returned (.int .i64 (cmpK a b)) ∧ Tch [] w w' := by
  refine c104 _ _ ?_
  unfold d104
  rintro w2 rfl w3 rfl
  have hS := ((St.refl w []).new (kC a) 129 rfl).new (kC b) 129 rfl
  generalize (w.alloc (.cells (kC a).toArray 129)).alloc (.cells (kC b).toArray 129) = w3 at *
  generalize (w.alloc (.cells (kC a).toArray 129)).heap.size = qb at *
  generalize w.heap.size = pb at *
  refine get_all (hS.blk (b := pb) (cs := kC a) (by simp)) rfl ?_
  refine get_all (hS.blk (b := qb) (cs := kC b) (by simp)) rfl ?_
  refine eq_flat_d key_flat key_eqT (key_fits ha) (key_fits hb) kC_inj ?_
  by_cases he : a = b
  · rw [bif_pos he]
    refine ⟨?_, hS.tch⟩
    subst he
    unfold cmpK
    simp
  rw [bif_neg he]
  rintro w7 rfl
  replace hS := hS.drew
  generalize w3.drew = w7 at *
  refine ⟨a.1, by rw [add_mk]; exact (hS.blk (b := pb) (cs := kC a) (by simp)).cell 0, b.1, by rw [add_mk]; exact (hS.blk (b := qb) (cs := kC b) (by simp)).cell 0, a.2, by rw [add_mk]; exact (hS.blk (b := pb) (cs := kC a) (by simp)).cell 1, b.2, by rw [add_mk]; exact (hS.blk (b := qb) (cs := kC b) (by simp)).cell 1, ?_⟩
  refine (cmpi_c a.1 b.1 w7).mono ?_
  rintro e w13 ⟨rfl, rfl⟩
  refine ⟨_, rfl, ⟨b.2, by rw [add_mk]; exact (hS.blk (b := qb) (cs := kC b) (by simp)).cell 1, rfl, rfl⟩, ⟨a.2, by rw [add_mk]; exact (hS.blk (b := pb) (cs := kC a) (by simp)).cell 1, rfl, rfl⟩, ?_⟩
  refine (cmpl_c a.2 b.2 w13).mono ?_
  rintro e w18 ⟨rfl, rfl⟩
  refine ⟨_, rfl, i64s [if a.1 < b.1 then -1 else if b.1 < a.1 then 1 else 0, if a.2 < b.2 then -1 else if b.2 < a.2 then 1 else 0], by rw [zcInt]; rfl, ?_⟩
  rintro w21 rfl
  refine (or_c _ _ _ _ (Blk.fresh _ _ rfl)).mono ?_
  rintro e w23 ⟨rfl, rfl⟩
  refine ⟨_, rfl, ?_, (hS.alloc _).tch⟩
  have key : (if (if a.1 < b.1 then (-1 : Int) else if b.1 < a.1 then 1 else 0) = 0 then (if a.2 < b.2 then (-1 : Int) else if b.2 < a.2 then 1 else 0) else (if a.1 < b.1 then (-1 : Int) else if b.1 < a.1 then 1 else 0)) = cmpK a b := by
    unfold cmpK
    by_cases h1 : a.1 < b.1
    · simp [h1]
    · by_cases h2 : b.1 < a.1 <;> simp [h1, h2]
  rw [key]
theorem rises_c (w : World) (l : List (Int × Int)) (a : Option Addr) (n c : Nat) (hr : RSl w 2 a n c (rows kC l)) (hI : ∀ k ∈ l, kI k) (hN : n < 9223372036854775807) :
    Calls Tryd.prog 89 #[.slice a n c] w fun e w' => e = .returned (.bool (decide (RisesS l))) ∧ Tch [] w w' := by
  have hn := hr.count kC_len (by omega)
  refine c89 _ _ _ ?_
  unfold d89
  refine ⟨fun m x u => ∃ i : Nat, x = i ∧ i ≤ n ∧ m = n - i ∧ (∀ k ∈ l.take i, KeyOk k.1) ∧ (∀ j a b, j + 1 < i → l[j]? = some a → l[j + 1]? = some b → cmpK a b < 0) ∧ Tch [] w u, ⟨n, 0, rfl, by omega, rfl, by simp, by omega, Tch.refl _ _⟩, ?_⟩
  rintro m w3 x ⟨i, rfl, hi, rfl, hk, hc, ht⟩
  by_cases hlt : i < n
  · rw [bif_pos (by omega)]
    refine ⟨by omega, by omega, ?_⟩
    rw [Int.toNat_natCast]
    have hli : l[i]? = some (l[i]'(by omega)) := List.getElem?_eq_getElem (by omega)
    generalize l[i]'(by omega) = k at hli
    have hkI := hI k (List.mem_of_getElem? hli)
    replace hr := hr.tch ht (fun _ _ h => by cases h)
    refine hr.elem kC_len (by omega) hli ?_
    refine var_init (n := 2) (by rw [zcKey]; rfl) rfl kC_one fun w7 w8 h1 h2 _ => ?_
    generalize w3.heap.size = kb at *
    rintro w9 rfl
    replace h1 := h1.tch ((Tch.refl [] w8).drew) (by simp)
    replace h2 := h2.drew
    generalize w8.drew = w9 at *
    refine get_all h1 rfl ?_
    refine (check_c k.1 k.2 w9).mono ?_
    rintro e w12 ⟨rfl, ht12⟩
    replace h1 := h1.tch ht12 (by simp)
    replace h2 := h2.trans ht12 (by simp)
    refine ⟨_, rfl, ?_⟩
    by_cases hok : KeyOk k.1
    rotate_left
    · rw [if_neg hok, bif_nneg (by omega)]
      exact ⟨by rw [decide_eq_false fun h => hok (h.1 k (List.mem_of_getElem? hli))], ht.trans h2 (by simp)⟩
    rw [if_pos hok, bif_npos rfl]
    have hk' : ∀ k ∈ l.take (i + 1), KeyOk k.1 := fun x hx => by
      rw [List.take_add_one, hli] at hx
      rcases List.mem_append.1 hx with hx | hx
      · exact hk x hx
      · simp at hx; rw [hx]; exact hok
    by_cases h0 : 0 < i
    · rw [bif_pos (by omega), wrap_i64 (n := (i : Int) - 1) (by omega) (by omega)]
      refine ⟨by omega, by omega, ?_⟩
      rw [show Int.toNat ((i : Int) - 1) = i - 1 by omega]
      have hlj : l[i - 1]? = some (l[i - 1]'(by omega)) := List.getElem?_eq_getElem (by omega)
      generalize l[i - 1]'(by omega) = k0 at hlj
      refine (hr.tch h2 (fun _ _ h => by cases h)).elem kC_len (by omega) hlj ?_
      refine get_all h1 rfl ?_
      refine (compare_c k0 k w12 (hI k0 (List.mem_of_getElem? hlj)) hkI).mono ?_
      rintro e w18 ⟨rfl, ht18⟩
      refine ⟨_, rfl, ?_⟩
      have htt := (ht.trans h2 (by simp)).trans ht18 (by simp)
      by_cases hcc : 0 ≤ cmpK k0 k
      · rw [bif_pos hcc]
        refine ⟨?_, htt⟩
        rw [decide_eq_false fun h => ?_]
        have := h.2 (i - 1) k0 k hlj (by rw [show i - 1 + 1 = i by omega]; exact hli)
        omega
      · rw [bif_neg hcc, wrap_i64 (by omega) (by omega)]
        refine ⟨n - (i + 1), by omega, i + 1, by omega, by omega, rfl, hk', fun j a b hj ha hb => ?_, htt⟩
        by_cases hji : j + 1 = i
        · rw [show j = i - 1 by omega, hlj] at ha
          rw [hji, hli] at hb
          cases ha; cases hb
          omega
        · exact hc j a b (by omega) ha hb
    · rw [bif_neg (by omega), wrap_i64 (by omega) (by omega)]
      exact ⟨n - (i + 1), by omega, i + 1, by omega, by omega, rfl, hk', fun j a b hj ha hb => by omega, ht.trans h2 (by simp)⟩
  · rw [bif_neg (by omega)]
    refine ⟨?_, ht⟩
    rw [decide_eq_true]
    rw [List.take_of_length_le (by omega)] at hk
    refine ⟨hk, fun j a b ha hb => hc j a b ?_ ha hb⟩
    have := (List.getElem?_eq_some_iff.1 hb).1
    omega
end Go.Proofs.YtjchneebdlncfaaDoor.Lib
namespace Go.Proofs.YtjchneebdlncfaaDoor.Lib
open Go Den
/-- A number without sign, as bytes. -/
def uv (n : Nat) : List Int := if n < 128 then [(n : Int)] else ((n % 128 + 128 : Nat) : Int) :: uv (n / 128)
termination_by n
decreasing_by omega
theorem uv_lo {n : Nat} (h : n < 128) : uv n = [(n : Int)] := by rw [uv, if_pos h]
theorem uv_hi {n : Nat} (h : 128 ≤ n) : uv n = ((n % 128 + 128 : Nat) : Int) :: uv (n / 128) := by rw [uv, if_neg (by omega)]
theorem uv_bytes (n : Nat) : Bytes (uv n) := by
  induction n using Nat.strongRecOn with
  | _ n ih =>
    by_cases h : n < 128
    · rw [uv_lo h]; exact Bytes.one (by omega) (by omega)
    · rw [uv_hi (by omega)]
      intro x hx
      rcases List.mem_cons.1 hx with rfl | hx
      · omega
      · exact ih (n / 128) (by omega) x hx
theorem uv_len {k : Nat} : ∀ {n : Nat}, n < 128 ^ (k + 1) → 1 ≤ (uv n).length ∧ (uv n).length ≤ k + 1 := by
  induction k with
  | zero => intro n h; rw [uv_lo (by simpa using h)]; simp
  | succ k ih =>
    intro n h
    by_cases h1 : n < 128
    · rw [uv_lo h1]; simp
    · rw [uv_hi (by omega)]
      have := ih (n := n / 128) (by rw [Nat.pow_succ] at h; omega)
      simp only [List.length_cons]
      omega
theorem uv_len10 {n : Nat} (h : n < 18446744073709551616) : 1 ≤ (uv n).length ∧ (uv n).length ≤ 10 := uv_len (k := 9) (by omega)

/-- The number at the front of some bytes, how many bytes it has, and what is wrong. -/
def numG (bs : List Int) : Nat → Nat → Nat → Nat × Nat × Int
  | 0, _, _ => (0, 0, 11)
  | f + 1, k, n =>
    if bs.length ≤ k then (0, 0, 10)
    else if (k = 9 ∧ 1 < bs.getD k 0) ∨ (0 < k ∧ bs.getD k 0 = 0) then (0, 0, 11)
    else if bs.getD k 0 < 128 then (n + (bs.getD k 0).toNat % 128 * 2 ^ (7 * k), k + 1, 0)
    else numG bs f (k + 1) (n + (bs.getD k 0).toNat % 128 * 2 ^ (7 * k))
def number (bs : List Int) : Nat × Nat × Int := numG bs 10 0 0
/-- What a reading has come to before its k-th byte. -/
def numA (bs : List Int) : Nat → Nat
  | 0 => 0
  | k + 1 => numA bs k + (bs.getD k 0).toNat % 128 * 2 ^ (7 * k)
theorem numA_lt (bs : List Int) : ∀ k, numA bs k < 2 ^ (7 * k)
  | 0 => by simp [numA]
  | k + 1 => by
    have := numA_lt bs k
    have h1 : (bs.getD k 0).toNat % 128 < 128 := Nat.mod_lt _ (by omega)
    show numA bs k + (bs.getD k 0).toNat % 128 * 2 ^ (7 * k) < 2 ^ (7 * k + 7)
    rw [Nat.pow_add]
    have h2 : (bs.getD k 0).toNat % 128 * 2 ^ (7 * k) ≤ 127 * 2 ^ (7 * k) := Nat.mul_le_mul_right _ (by omega)
    omega
/-- It may be left: the k-th byte is one of a number's. -/
def numOn (bs : List Int) (k : Nat) : Prop := k < bs.length ∧ ¬ ((k = 9 ∧ 1 < bs.getD k 0) ∨ (0 < k ∧ bs.getD k 0 = 0)) ∧ ¬ bs.getD k 0 < 128
theorem numG_on {bs : List Int} : ∀ {f k : Nat}, numOn bs k → numG bs (f + 1) k (numA bs k) = numG bs f (k + 1) (numA bs (k + 1))
  | f, k, ⟨h1, h2, h3⟩ => by
    rw [numG, if_neg (by omega), if_neg h2, if_neg h3]
    rfl
theorem number_at {bs : List Int} : ∀ {k : Nat}, k ≤ 10 → (∀ i, i < k → numOn bs i) → number bs = numG bs (10 - k) k (numA bs k)
  | 0, _, _ => rfl
  | k + 1, hk, h => by
    rw [number_at (k := k) (by omega) fun i hi => h i (by omega), show 10 - k = (10 - (k + 1)) + 1 by omega]
    exact numG_on (h k (by omega))
theorem number_short {bs : List Int} {k : Nat} (hk : k < 10) (h : ∀ i, i < k → numOn bs i) (hl : bs.length ≤ k) : number bs = (0, 0, 10) := by
  rw [number_at (by omega) h, show 10 - k = (9 - k) + 1 by omega, numG, if_pos hl]
theorem number_form {bs : List Int} {k : Nat} (hk : k < 10) (h : ∀ i, i < k → numOn bs i) (hl : k < bs.length) (hf : (k = 9 ∧ 1 < bs.getD k 0) ∨ (0 < k ∧ bs.getD k 0 = 0)) : number bs = (0, 0, 11) := by
  rw [number_at (by omega) h, show 10 - k = (9 - k) + 1 by omega, numG, if_neg (by omega), if_pos hf]
theorem number_ok {bs : List Int} {k : Nat} (hk : k < 10) (h : ∀ i, i < k → numOn bs i) (hl : k < bs.length) (hf : ¬ ((k = 9 ∧ 1 < bs.getD k 0) ∨ (0 < k ∧ bs.getD k 0 = 0))) (hc : bs.getD k 0 < 128) : number bs = (numA bs (k + 1), k + 1, 0) := by
  rw [number_at (by omega) h, show 10 - k = (9 - k) + 1 by omega, numG, if_neg (by omega), if_neg hf, if_pos hc]
  rfl
/-- One of the three. -/
theorem number_cases {bs : List Int} (hB : Bytes bs) : number bs = (0, 0, 10) ∨ number bs = (0, 0, 11) ∨
    ∃ k, k < 10 ∧ (∀ i, i < k → numOn bs i) ∧ k < bs.length ∧ ¬ ((k = 9 ∧ 1 < bs.getD k 0) ∨ (0 < k ∧ bs.getD k 0 = 0)) ∧ bs.getD k 0 < 128 ∧ number bs = (numA bs (k + 1), k + 1, 0) := by
  have key : ∀ f k, f + k = 10 → (∀ i, i < k → numOn bs i) → number bs = (0, 0, 10) ∨ number bs = (0, 0, 11) ∨
    ∃ k, k < 10 ∧ (∀ i, i < k → numOn bs i) ∧ k < bs.length ∧ ¬ ((k = 9 ∧ 1 < bs.getD k 0) ∨ (0 < k ∧ bs.getD k 0 = 0)) ∧ bs.getD k 0 < 128 ∧ number bs = (numA bs (k + 1), k + 1, 0) := by
    intro f
    induction f with
    | zero =>
      intro k hk h
      exfalso
      obtain ⟨h1, h2, h3⟩ := h 9 (by omega)
      exact h2 (.inl ⟨rfl, by omega⟩)
    | succ f ih =>
      intro k hk h
      by_cases h1 : bs.length ≤ k
      · exact .inl (number_short (by omega) h h1)
      by_cases h2 : (k = 9 ∧ 1 < bs.getD k 0) ∨ (0 < k ∧ bs.getD k 0 = 0)
      · exact .inr (.inl (number_form (by omega) h (by omega) h2))
      by_cases h3 : bs.getD k 0 < 128
      · exact .inr (.inr ⟨k, by omega, h, by omega, h2, h3, number_ok (by omega) h (by omega) h2 h3⟩)
      · refine ih (k + 1) (by omega) fun i hi => ?_
        by_cases hik : i = k
        · subst hik; exact ⟨by omega, h2, h3⟩
        · exact h i (by omega)
  exact key 10 0 rfl fun i hi => by omega
theorem number_range {bs : List Int} (hB : Bytes bs) : (number bs).1 < 18446744073709551616 ∧ (number bs).2.1 ≤ bs.length ∧ (number bs).2.1 ≤ 10 := by
  rcases number_cases hB with h | h | ⟨k, h1, h2, h3, h4, h5, h⟩
  · rw [h]; simp
  · rw [h]; simp
  · rw [h]
    refine ⟨?_, by show k + 1 ≤ _; omega, by show k + 1 ≤ 10; omega⟩
    show numA bs (k + 1) < _
    by_cases h9 : k = 9
    · subst h9
      have := numA_lt bs 9
      have hb := byte_of hB 9
      have h1 : bs.getD 9 0 ≤ 1 := by
        have : ¬ 1 < bs.getD 9 0 := fun hc => h4 (.inl ⟨rfl, hc⟩)
        omega
      show numA bs 9 + (bs.getD 9 0).toNat % 128 * 2 ^ (7 * 9) < _
      have h2 : (bs.getD 9 0).toNat % 128 ≤ 1 := by omega
      have h3 : (bs.getD 9 0).toNat % 128 * 2 ^ (7 * 9) ≤ 1 * 2 ^ (7 * 9) := Nat.mul_le_mul_right _ h2
      omega
    · have := numA_lt bs (k + 1)
      have h2 : 2 ^ (7 * (k + 1)) ≤ 2 ^ 63 := Nat.pow_le_pow_right (by omega) (by omega)
      omega
/-! ### There and back -/
theorem numA_cons (c : Int) (bs : List Int) : ∀ k, numA (c :: bs) (k + 1) = c.toNat % 128 + 128 * numA bs k
  | 0 => by simp [numA]
  | k + 1 => by
    rw [numA, numA_cons c bs k, numA, List.getD_cons_succ, Nat.mul_add, Nat.mul_add, Nat.pow_add]
    have : 128 * ((bs.getD k 0).toNat % 128 * 2 ^ (7 * k)) = (bs.getD k 0).toNat % 128 * (2 ^ (7 * k) * 2 ^ (7 * 1)) := by
      rw [show (2 : Nat) ^ (7 * 1) = 128 from rfl, Nat.mul_comm (2 ^ (7 * k)) 128, ← Nat.mul_assoc, ← Nat.mul_assoc, Nat.mul_comm 128]
    omega
/-- How a number's bytes look. -/
theorem uv_look : ∀ (k n : Nat), (uv n).length = k + 1 → (∀ i, i < k → 128 ≤ (uv n).getD i 0) ∧ (uv n).getD k 0 < 128 ∧ (0 < k → 0 < (uv n).getD k 0) ∧ numA (uv n) (k + 1) = n ∧ 128 ^ k ≤ n + (if k = 0 then 1 else 0)
  | 0, n, h => by
    by_cases h1 : n < 128
    · rw [uv_lo h1]
      refine ⟨fun i hi => by omega, by simp; omega, fun h => by omega, ?_, by simp⟩
      simp [numA]
      omega
    · rw [uv_hi (by omega)] at h
      have : (uv (n / 128)).length = 0 := by simpa using h
      have h2 := (uv_len (k := n) (n := n / 128) (by
        have : n / 128 ≤ n := Nat.div_le_self _ _
        have : n < 128 ^ (n + 1) := Nat.lt_of_lt_of_le (Nat.lt_pow_self (by omega)) (Nat.pow_le_pow_right (by omega) (by omega))
        omega)).1
      omega
  | k + 1, n, h => by
    have h1 : ¬ n < 128 := fun h1 => by rw [uv_lo h1] at h; simp at h
    rw [uv_hi (by omega)] at h ⊢
    have hl : (uv (n / 128)).length = k + 1 := by simpa using h
    obtain ⟨g1, g2, g3, g4, g5⟩ := uv_look k (n / 128) hl
    refine ⟨fun i hi => ?_, by rw [List.getD_cons_succ]; exact g2, fun _ => ?_, ?_, ?_⟩
    · cases i with
      | zero => simp; omega
      | succ i => rw [List.getD_cons_succ]; exact g1 i (by omega)
    · rw [List.getD_cons_succ]
      by_cases hk : 0 < k
      · exact g3 hk
      · obtain rfl : k = 0 := by omega
        have hn : n / 128 < 128 := by
          by_cases hn : n / 128 < 128
          · exact hn
          · rw [uv_hi (by omega)] at hl
            have := g2
            rw [uv_hi (by omega)] at this
            simp at this
            omega
        rw [uv_lo hn]
        simp
        omega
    · rw [numA_cons, g4]
      simp
      omega
    · rw [Nat.pow_succ, if_neg (by omega)]
      by_cases hk : k = 0
      · subst hk; simp; omega
      · rw [if_neg hk] at g5; omega
theorem numA_append {a b : List Int} : ∀ {k : Nat}, k ≤ a.length → numA (a ++ b) k = numA a k
  | 0, _ => rfl
  | k + 1, h => by rw [numA, numA, numA_append (by omega), getD_append (by omega)]
theorem number_uv {n : Nat} (hn : n < 18446744073709551616) (rest : List Int) : number (uv n ++ rest) = (n, (uv n).length, 0) := by
  obtain ⟨l1, l2⟩ := uv_len10 hn
  obtain ⟨k, hk⟩ : ∃ k, (uv n).length = k + 1 := ⟨(uv n).length - 1, by omega⟩
  obtain ⟨g1, g2, g3, g4, g5⟩ := uv_look k n hk
  have hg : ∀ i, i ≤ k → (uv n ++ rest).getD i 0 = (uv n).getD i 0 := fun i hi => getD_append (by omega)
  rw [number_ok (k := k) (by omega) (fun i hi => ⟨by rw [List.length_append]; omega, by rw [hg i (by omega)]; have := g1 i hi; omega, by rw [hg i (by omega)]; have := g1 i hi; omega⟩) (by rw [List.length_append]; omega) ?_ (by rw [hg k (Nat.le_refl _)]; exact g2),
    numA_append (by omega), g4, hk]
  rw [hg k (Nat.le_refl _)]
  rintro (⟨h9, hc⟩ | ⟨h0, hc⟩)
  · subst h9
    have h9 := numA_lt (uv n) 9
    have : numA (uv n) (9 + 1) = numA (uv n) 9 + ((uv n).getD 9 0).toNat % 128 * 2 ^ (7 * 9) := rfl
    have h2 : 2 ≤ ((uv n).getD 9 0).toNat % 128 := by omega
    have h3 : 2 * 2 ^ (7 * 9) ≤ ((uv n).getD 9 0).toNat % 128 * 2 ^ (7 * 9) := Nat.mul_le_mul_right _ h2
    omega
  · have := g3 h0; omega
/-- What is read as a number is that number's bytes. -/
theorem uv_numA : ∀ {k : Nat} {bs : List Int}, Bytes bs → k < bs.length → (∀ i, i < k → 128 ≤ bs.getD i 0) → bs.getD k 0 < 128 → (0 < k → bs.getD k 0 ≠ 0) → uv (numA bs (k + 1)) = bs.take (k + 1)
  | 0, bs, hB, hl, h1, h2, h3 => by
    have hb := byte_of hB 0
    have : numA bs (0 + 1) = (bs.getD 0 0).toNat := by simp only [numA, Nat.mul_zero, Nat.pow_zero]; omega
    rw [this, uv_lo (by omega), take_succ_getD hl, Int.toNat_of_nonneg hb.1]
    rfl
  | k + 1, [], hB, hl, h1, h2, h3 => by simp at hl
  | k + 1, c :: bs, hB, hl, h1, h2, h3 => by
    have hb := byte_of hB 0
    have h0 := h1 0 (by omega)
    simp only [List.getD_cons_zero] at hb h0
    have hB' : Bytes bs := fun x hx => hB x (by simp [hx])
    have ih := uv_numA (k := k) hB' (by simpa using hl) (fun i hi => by have := h1 (i + 1) (by omega); simpa using this) (by simpa using h2) (fun hk => by have := h3 (by omega); simpa using this)
    rw [numA_cons]
    have hpos : 0 < numA bs (k + 1) := by
      by_cases hz : 0 < numA bs (k + 1)
      · exact hz
      · exfalso
        have hz : numA bs (k + 1) = 0 := by omega
        rw [hz, uv_lo (by omega)] at ih
        have hlen : (bs.take (k + 1)).length = 1 := by rw [← ih]; rfl
        rw [List.length_take] at hlen
        simp at hl
        obtain rfl : k = 0 := by omega
        have : (bs.take (0 + 1)).getD 0 0 = 0 := by rw [← ih]; rfl
        rw [getD_take (by omega)] at this
        have h4 := h3 (by omega)
        simp only [Nat.zero_add, List.getD_cons_succ] at h4
        exact h4 this
    rw [uv_hi (by omega), List.take_succ_cons, ← ih]
    congr 2
    · omega
    · omega
theorem number_back {bs : List Int} (hB : Bytes bs) (h : (number bs).2.2 = 0) : bs.take (number bs).2.1 = uv (number bs).1 ∧ 0 < (number bs).2.1 := by
  rcases number_cases hB with g | g | ⟨k, h1, h2, h3, h4, h5, g⟩
  · rw [g] at h; simp at h
  · rw [g] at h; simp at h
  · rw [g]
    refine ⟨(uv_numA hB h3 (fun i hi => ?_) h5 (fun hk hz => h4 (.inr ⟨hk, hz⟩))).symm, by simp⟩
    have := (h2 i hi).2.2
    omega

/-! ### With a sign -/
def fold (n : Int) : Nat := if 0 ≤ n then 2 * n.toNat else 2 * (-1 - n).toNat + 1
def unfold' (u : Nat) : Int := if u % 2 = 0 then ((u / 2 : Nat) : Int) else -1 - ((u / 2 : Nat) : Int)
theorem unfold_fold (n : Int) : unfold' (fold n) = n := by
  unfold fold unfold'
  split <;> split <;> omega
theorem fold_unfold (u : Nat) : fold (unfold' u) = u := by
  unfold fold unfold'
  split <;> split <;> omega
theorem fold_range {n : Int} (h : I64 n) : fold n < 18446744073709551616 := by
  unfold I64 at h
  unfold fold
  split <;> omega
theorem unfold_range {u : Nat} (h : u < 18446744073709551616) : I64 (unfold' u) := by
  unfold I64 unfold'
  split <;> omega
def iv (n : Int) : List Int := uv (fold n)

/-! ### A reader's steps: where it stands, its error -/
def rUpto (bs : List Int) (most : Nat) (p : Nat) (e : Int) : Nat × Nat × Int :=
  if e ≠ 0 then (0, p, e)
  else if (number (bs.drop p)).2.2 ≠ 0 then (0, p, (number (bs.drop p)).2.2)
  else if most < (number (bs.drop p)).1 then (0, p, 12)
  else ((number (bs.drop p)).1, p + (number (bs.drop p)).2.1, 0)
def rRaw (bs : List Int) (n : Int) (p : Nat) (e : Int) : List Int × Nat × Int :=
  if e ≠ 0 then ([], p, e)
  else if n < 0 then ([], p, 11)
  else if (bs.length : Int) - p < n then ([], p, 10)
  else ((bs.drop p).take n.toNat, p + n.toNat, 0)
def rInt (bs : List Int) (p : Nat) (e : Int) : Int × Nat × Int := (unfold' (rUpto bs 18446744073709551615 p e).1, (rUpto bs 18446744073709551615 p e).2)
def rEnd (bs : List Int) (p : Nat) (e : Int) : Int := if e = 0 ∧ p < bs.length then 11 else e
theorem rUpto_le {bs : List Int} (hB : Bytes bs) {most p : Nat} {e : Int} (hp : p ≤ bs.length) : (rUpto bs most p e).2.1 ≤ bs.length ∧ p ≤ (rUpto bs most p e).2.1 ∧ (rUpto bs most p e).1 ≤ most := by
  unfold rUpto
  have := (number_range (hB.drop p)).2.1
  rw [List.length_drop] at this
  split
  · simp; omega
  · split
    · simp; omega
    · split
      · simp; omega
      · simp only; omega
theorem rRaw_cases (bs : List Int) (k p : Nat) (e : Int) : (e = 0 ∧ p + k ≤ bs.length ∧ rRaw bs k p e = ((bs.drop p).take k, p + k, 0)) ∨ (¬ (e = 0 ∧ p + k ≤ bs.length) ∧ (rRaw bs k p e).1 = [] ∧ (rRaw bs k p e).2.1 = p ∧ (rRaw bs k p e).2.2 ≠ 0 ∧ (e ≠ 0 → (rRaw bs k p e).2.2 = e)) := by
  unfold rRaw
  by_cases he : e = 0
  · subst he
    rw [if_neg (show ¬ (0 : Int) ≠ 0 by omega), if_neg (show ¬ (k : Int) < 0 by omega)]
    by_cases h : p + k ≤ bs.length
    · rw [if_neg (show ¬ (bs.length : Int) - p < k by omega)]
      exact .inl ⟨rfl, h, rfl⟩
    · rw [if_pos (show (bs.length : Int) - p < k by omega)]
      exact .inr ⟨fun hh => h hh.2, rfl, rfl, by simp, fun hh => absurd rfl hh⟩
  · rw [if_pos he]
    exact .inr ⟨fun hh => he hh.1, rfl, rfl, he, fun _ => rfl⟩
end Go.Proofs.YtjchneebdlncfaaDoor.Lib
namespace Go.Proofs.YtjchneebdlncfaaDoor.Lib
open Go Den
open Go.RowKit (Below)
open Classical
set_option maxRecDepth 8000
structure Tx where
  proc : Int
  args : List Int
  reads : List (Int × Int)
  writes : List (Int × Int)
structure Tx.ok (x : Tx) : Prop where
  proc : I64 x.proc
  args : ∀ v ∈ x.args, I64 v
  reads : ∀ k ∈ x.reads, kI k
  writes : ∀ k ∈ x.writes, kI k
/-- A row of memory whose block is among F. -/
def FR (F : Nat → Prop) (w : World) (sz : Nat) (a : Option Addr) (n c : Nat) (cs : List Value) : Prop := RSl w sz a n c cs ∧ (n = 0 ∨ ∀ x, a = some x → F x.block)
theorem FR.mono {F G : Nat → Prop} {w : World} {sz n c : Nat} {a : Option Addr} {cs : List Value} (h : FR F w sz a n c cs) (hFG : ∀ k, F k → G k) : FR G w sz a n c cs := ⟨h.1, h.2.imp id fun h x hx => hFG _ (h x hx)⟩
theorem FR.tch {F : Nat → Prop} {w w' : World} {sz n c : Nat} {a : Option Addr} {cs : List Value} {s : List Nat} (h : FR F w sz a n c cs) (ht : Tch s w w') (hs : ∀ k ∈ s, ¬ F k) : FR F w' sz a n c cs := by
  refine ⟨?_, h.2⟩
  rcases h.2 with h0 | h2
  · obtain ⟨h1, h2, h3, h4⟩ := h.1
    refine ⟨h1, h2, h3, ?_⟩
    rcases h4 with h4 | ⟨b, o, hb, hc⟩
    · exact .inl h4
    · rw [h0, Nat.zero_mul] at h2
      rw [List.length_eq_zero_iff.1 h2]
      exact .inr ⟨b, o, hb, fun i v hv => by simp at hv⟩
  · exact h.1.tch ht fun x hx hm => hs _ hm (h2 x hx)
/-- It lies below the heap's end. -/
theorem FR.under {F : Nat → Prop} {w : World} {sz n c : Nat} {a : Option Addr} {cs : List Value} (h : FR F w sz a n c cs) (h0 : 0 < sz) : FR (fun k => F k ∧ k < w.heap.size) w sz a n c cs := by
  refine ⟨h.1, ?_⟩
  rcases h.2 with h1 | h1
  · exact .inl h1
  · rcases Nat.eq_zero_or_pos n with hn | hn
    · exact .inl hn
    · refine .inr fun x hx => ⟨h1 x hx, ?_⟩
      rcases h.1.at' with h' | ⟨b, o, hb, hc⟩
      · have := h.1.cap; omega
      · rw [hb] at hx
        cases hx
        have hl := h.1.len
        have : 0 < n * sz := Nat.mul_pos hn h0
        have hv : cs[0]? = some (cs[0]'(by omega)) := List.getElem?_eq_getElem (by omega)
        have := hc 0 _ hv
        rw [add_mk] at this
        exact World.block_lt_of_cell? _ _ this
theorem FR.own {w : World} {base e size : Nat} {a : Option Addr} {n c : Nat} {xs : List Value} (h : w.ownsRow base e size (.slice a n c) n xs) (h1 : ∀ u ∈ xs, one u = true) : FR (fun k => base ≤ k ∧ k < w.heap.size) w size a n c xs :=
  ⟨own_rsl h h1, .inr fun x hx => own_ge h x hx⟩
theorem rows_id' (rs : List (List Value)) : rows id rs = rs.flatten := by simp [rows]
/-- A transaction's cells. -/
def TxV (F : Nat → Prop) (w : World) (v : List Value) (x : Tx) : Prop :=
  ∃ (a1 : Option Addr) (n1 c1 : Nat) (a2 : Option Addr) (n2 c2 : Nat) (a3 : Option Addr) (n3 c3 : Nat), v = [.int .i64 x.proc, .slice a1 n1 c1, .slice a2 n2 c2, .slice a3 n3 c3] ∧
    FR F w 1 a1 n1 c1 (i64s x.args) ∧ FR F w 2 a2 n2 c2 (rows kC x.reads) ∧ FR F w 2 a3 n3 c3 (rows kC x.writes) ∧ x.ok
/-- A batch in memory. -/
def BatchV (F : Nat → Prop) (w : World) (a : Option Addr) (n c : Nat) (l : List Tx) : Prop :=
  ∃ vs : List (List Value), vs.length = l.length ∧ FR F w 4 a n c vs.flatten ∧ ∀ (i : Nat) (v : List Value) (x : Tx), vs[i]? = some v → l[i]? = some x → TxV F w v x
section
variable {F G : Nat → Prop} {w w' : World} {v : List Value} {x : Tx} {a : Option Addr} {n c : Nat} {l : List Tx} {s : List Nat}
theorem TxV.tch (h : TxV F w v x) (ht : Tch s w w') (hs : ∀ k ∈ s, ¬ F k) : TxV F w' v x := by
  obtain ⟨a1, n1, c1, a2, n2, c2, a3, n3, c3, e, h1, h2, h3, h4⟩ := h
  exact ⟨a1, n1, c1, a2, n2, c2, a3, n3, c3, e, h1.tch ht hs, h2.tch ht hs, h3.tch ht hs, h4⟩
theorem TxV.mono (h : TxV F w v x) (hFG : ∀ k, F k → G k) : TxV G w v x := by
  obtain ⟨a1, n1, c1, a2, n2, c2, a3, n3, c3, e, h1, h2, h3, h4⟩ := h
  exact ⟨a1, n1, c1, a2, n2, c2, a3, n3, c3, e, h1.mono hFG, h2.mono hFG, h3.mono hFG, h4⟩
theorem TxV.under (h : TxV F w v x) : TxV (fun k => F k ∧ k < w.heap.size) w v x := by
  obtain ⟨a1, n1, c1, a2, n2, c2, a3, n3, c3, e, h1, h2, h3, h4⟩ := h
  exact ⟨a1, n1, c1, a2, n2, c2, a3, n3, c3, e, h1.under (by omega), h2.under (by omega), h3.under (by omega), h4⟩
theorem TxV.len (h : TxV F w v x) : v.length = 4 := by
  obtain ⟨a1, n1, c1, a2, n2, c2, a3, n3, c3, rfl, _⟩ := h
  rfl
theorem TxV.ones (h : TxV F w v x) : ∀ u ∈ v, one u = true := by
  obtain ⟨a1, n1, c1, a2, n2, c2, a3, n3, c3, rfl, _⟩ := h
  simp [one]
theorem BatchV.tch (h : BatchV F w a n c l) (ht : Tch s w w') (hs : ∀ k ∈ s, ¬ F k) : BatchV F w' a n c l := by
  obtain ⟨vs, h1, h2, h3⟩ := h
  exact ⟨vs, h1, h2.tch ht hs, fun i v x hv hx => (h3 i v x hv hx).tch ht hs⟩
theorem BatchV.quiet (h : BatchV F w a n c l) (ht : Tch [] w w') : BatchV F w' a n c l := h.tch ht (by simp)
theorem TxV.quiet (h : TxV F w v x) (ht : Tch [] w w') : TxV F w' v x := h.tch ht (by simp)
theorem BatchV.mono (h : BatchV F w a n c l) (hFG : ∀ k, F k → G k) : BatchV G w a n c l := by
  obtain ⟨vs, h1, h2, h3⟩ := h
  exact ⟨vs, h1, h2.mono hFG, fun i v x hv hx => (h3 i v x hv hx).mono hFG⟩
theorem BatchV.under (h : BatchV F w a n c l) : BatchV (fun k => F k ∧ k < w.heap.size) w a n c l := by
  obtain ⟨vs, h1, h2, h3⟩ := h
  exact ⟨vs, h1, h2.under (by omega), fun i v x hv hx => (h3 i v x hv hx).under⟩
theorem BatchV.lens {vs : List (List Value)} (h1 : vs.length = l.length) (h3 : ∀ (i : Nat) (v : List Value) (x : Tx), vs[i]? = some v → l[i]? = some x → TxV F w v x) : ∀ v ∈ vs, v.length = 4 := fun v hv => by
  obtain ⟨i, hi⟩ := List.getElem?_of_mem hv
  have hlt := (List.getElem?_eq_some_iff.1 hi).1
  exact (h3 i v l[i] hi (List.getElem?_eq_getElem (by omega))).len
theorem BatchV.count (h : BatchV F w a n c l) : l.length = n := by
  obtain ⟨vs, h1, h2, h3⟩ := h
  have hl := BatchV.lens h1 h3
  have := h2.1.len
  rw [← rows_id', rows_len (f := id) hl, h1] at this
  omega
theorem BatchV.nil (F : Nat → Prop) (w : World) : BatchV F w none 0 0 [] := ⟨[], rfl, ⟨⟨Nat.le_refl _, rfl, by simp, .inl rfl⟩, .inl rfl⟩, by simp⟩
theorem BatchV.elem (h : BatchV F w a n c l) {i : Nat} (hi : l[i]? = some x) {K : List Value → Prop} (hK : ∀ v, TxV F w v x → K v) :
    optK a fun y => ∃ cs : List Value, List.length cs = 4 ∧ Cells w (Addr.add y (i * 4)) cs ∧ K cs := by
  obtain ⟨vs, h1, h2, h3⟩ := h
  have hlt := (List.getElem?_eq_some_iff.1 hi).1
  have hvi : vs[i]? = some (vs[i]'(by omega)) := List.getElem?_eq_getElem (by omega)
  have hr := h2.1
  rw [← rows_id'] at hr
  exact hr.elem (f := id) (BatchV.lens h1 h3) (by omega) hvi (hK _ (h3 i _ x hvi hi))
theorem BatchV.elemW (h : BatchV F w a n c l) {u : World} (ht : Tch [] w u) {i : Nat} (hi : l[i]? = some x) {K : List Value → Prop} (hK : ∀ v, TxV F w v x → K v) :
    optK a fun y => ∃ cs : List Value, List.length cs = 4 ∧ Cells u (Addr.add y (i * 4)) cs ∧ K cs := by
  obtain ⟨vs, h1, h2, h3⟩ := h
  have hlt := (List.getElem?_eq_some_iff.1 hi).1
  have hvi : vs[i]? = some (vs[i]'(by omega)) := List.getElem?_eq_getElem (by omega)
  have hr := (h2.tch ht (by simp)).1
  rw [← rows_id'] at hr
  exact hr.elem (f := id) (BatchV.lens h1 h3) (by omega) hvi (hK _ (h3 i _ x hvi hi))
theorem BatchV.ok (h : BatchV F w a n c l) : ∀ x ∈ l, x.ok := fun x hx => by
  obtain ⟨vs, h1, h2, h3⟩ := h
  obtain ⟨i, hi⟩ := List.getElem?_of_mem hx
  have hlt := (List.getElem?_eq_some_iff.1 hi).1
  obtain ⟨_, _, _, _, _, _, _, _, _, _, _, _, _, h⟩ := h3 i (vs[i]'(by omega)) x (List.getElem?_eq_getElem (by omega)) hi
  exact h
end
/-- What is wrong with a transaction. -/
noncomputable def formedS (x : Tx) : Int :=
  if x.proc < 0 ∨ 64 ≤ x.proc then 61 else if 16 < x.args.length then 62 else if 16 < x.reads.length then 63 else if 16 < x.writes.length then 64 else if ¬ RisesS x.reads ∨ ¬ RisesS x.writes then 65 else 0
noncomputable def firstG : List Tx → Nat → Int × Int
  | [], _ => (0, 0)
  | x :: l, i => if formedS x ≠ 0 then ((i : Int), formedS x) else firstG l (i + 1)
noncomputable def firstS (l : List Tx) : Int × Int := if 64 < l.length then (0, 60) else firstG l 0
def encKs (l : List (Int × Int)) : List Int := uv l.length ++ (l.map fun k => keyB k.1 k.2).flatten
def encTx (x : Tx) : List Int := uv x.proc.toNat ++ (uv x.args.length ++ ((x.args.map iv).flatten ++ (encKs x.reads ++ encKs x.writes)))
def encTxs (l : List Tx) : List Int := (l.map encTx).flatten
/-- A batch's bytes, and the error. -/
noncomputable def encB (l : List Tx) : List Int × Int := if (firstS l).2 ≠ 0 then ([], (firstS l).2) else (uv l.length ++ encTxs l, 0)
def Good (x : Tx) : Prop := (0 ≤ x.proc ∧ x.proc < 64) ∧ x.args.length ≤ 16 ∧ x.reads.length ≤ 16 ∧ x.writes.length ≤ 16 ∧ RisesS x.reads ∧ RisesS x.writes
theorem formedS_zero (x : Tx) : formedS x = 0 ↔ Good x := by
  unfold formedS Good
  constructor
  · intro h
    split at h
    · omega
    split at h
    · omega
    split at h
    · omega
    split at h
    · omega
    split at h
    · omega
    rename_i h1 h2 h3 h4 h5
    exact ⟨⟨by omega, by omega⟩, by omega, by omega, by omega, Classical.byContradiction fun h => h5 (.inl h), Classical.byContradiction fun h => h5 (.inr h)⟩
  · rintro ⟨h1, h2, h3, h4, h5, h6⟩
    rw [if_neg (by omega), if_neg (by omega), if_neg (by omega), if_neg (by omega), if_neg (fun h => by rcases h with h | h; exact h h5; exact h h6)]
theorem firstG_zero : ∀ (l : List Tx) (i : Nat), (firstG l i).2 = 0 ↔ ∀ x ∈ l, Good x
  | [], i => by simp [firstG]
  | x :: l, i => by
    unfold firstG
    by_cases h : formedS x = 0
    · rw [if_neg (by simpa using h), firstG_zero l (i + 1)]
      have := (formedS_zero x).1 h
      simp [this]
    · rw [if_pos h]
      simp only [List.mem_cons, forall_eq_or_imp]
      exact ⟨fun h' => absurd h' h, fun h' => (formedS_zero x).2 h'.1⟩
theorem firstS_zero (l : List Tx) : (firstS l).2 = 0 ↔ l.length ≤ 64 ∧ ∀ x ∈ l, Good x := by
  unfold firstS
  split
  · simp; omega
  · rw [firstG_zero]
    exact ⟨fun h => ⟨by omega, h⟩, fun h => h.2⟩
theorem encB_zero (l : List Tx) : (encB l).2 = 0 ↔ l.length ≤ 64 ∧ ∀ x ∈ l, Good x := by
  rw [← firstS_zero]
  unfold encB
  split <;> simp_all
theorem encB_good {l : List Tx} (h : l.length ≤ 64 ∧ ∀ x ∈ l, Good x) : encB l = (uv l.length ++ encTxs l, 0) := by
  unfold encB
  rw [if_neg (by simpa using (firstS_zero l).2 h)]
theorem flat_len {α : Type} {f : α → List Int} {k : Nat} : ∀ {l : List α}, (∀ x ∈ l, (f x).length ≤ k) → (l.map f).flatten.length ≤ l.length * k
  | [], _ => by simp
  | x :: l, h => by
    have h1 := h x (by simp)
    have h2 := flat_len (l := l) fun y hy => h y (by simp [hy])
    simp only [List.map_cons, List.flatten_cons, List.length_append, List.length_cons]
    rw [Nat.add_mul]
    omega
theorem encKs_len {l : List (Int × Int)} (h : l.length ≤ 16) : (encKs l).length ≤ 170 := by
  unfold encKs
  have h1 := (uv_len10 (n := l.length) (by omega)).2
  have h2 := flat_len (l := l) (f := fun k => keyB k.1 k.2) (k := 10) fun x _ => Nat.le_of_eq (keyB_length _ _)
  rw [List.length_append]
  omega
theorem encTx_len {x : Tx} (hx : x.ok) (h : Good x) : (encTx x).length ≤ 520 := by
  obtain ⟨h1, h2, h3, h4, _⟩ := h
  have e1 := (uv_len10 (n := x.proc.toNat) (by omega)).2
  have e2 := (uv_len10 (n := x.args.length) (by omega)).2
  have e3 := flat_len (l := x.args) (f := iv) (k := 10) fun v hv => (uv_len10 (fold_range (hx.args v hv))).2
  have e4 := encKs_len h3
  have e5 := encKs_len h4
  unfold encTx
  simp only [List.length_append]
  omega
theorem encTxs_len {l : List Tx} (hx : ∀ x ∈ l, x.ok) (h : ∀ x ∈ l, Good x) : (encTxs l).length ≤ l.length * 520 := flat_len fun x hm => encTx_len (hx x hm) (h x hm)
/-! ### One reading -/
theorem uv_split {n m : Nat} (hn : n < 18446744073709551616) (hm : m < 18446744073709551616) {r s : List Int} (h : uv n ++ r = uv m ++ s) : n = m ∧ r = s := by
  have h1 := number_uv hn r
  have h2 := number_uv hm s
  rw [h, h2] at h1
  simp only [Prod.mk.injEq] at h1
  have e : m = n := h1.1
  subst e
  exact ⟨rfl, List.append_cancel_left h⟩
theorem iv_split {n m : Int} (hn : I64 n) (hm : I64 m) {r s : List Int} (h : iv n ++ r = iv m ++ s) : n = m ∧ r = s := by
  obtain ⟨h1, h2⟩ := uv_split (fold_range hn) (fold_range hm) h
  exact ⟨by rw [← unfold_fold n, h1, unfold_fold], h2⟩
theorem key_split {k j : Int × Int} (hk : KeyOk k.1) (hj : KeyOk j.1) (hk2 : I64 k.2) (hj2 : I64 j.2) {r s : List Int} (h : keyB k.1 k.2 ++ r = keyB j.1 j.2 ++ s) : k = j ∧ r = s := by
  have h1 : keyB k.1 k.2 = keyB j.1 j.2 := by
    have := congrArg (List.take 10) h
    rwa [List.take_append_of_le_length (by rw [keyB_length]; omega), List.take_append_of_le_length (by rw [keyB_length]; omega), List.take_of_length_le (by rw [keyB_length]; omega), List.take_of_length_le (by rw [keyB_length]; omega)] at this
  have h2 := fromB_keyB hk hk2
  rw [h1, fromB_keyB hj hj2] at h2
  simp only [Prod.mk.injEq] at h2
  exact ⟨Prod.ext h2.1.symm h2.2.1.symm, by rw [h1] at h; exact List.append_cancel_left h⟩
theorem list_split {α : Type} {f : α → List Int} {p : α → Prop} (hf : ∀ {x y : α}, p x → p y → ∀ {r s : List Int}, f x ++ r = f y ++ s → x = y ∧ r = s) :
    ∀ {l m : List α}, l.length = m.length → (∀ x ∈ l, p x) → (∀ x ∈ m, p x) → ∀ {r s : List Int}, (l.map f).flatten ++ r = (m.map f).flatten ++ s → l = m ∧ r = s
  | [], [], _, _, _, r, s, h => ⟨rfl, by simpa using h⟩
  | [], _ :: _, h, _, _, _, _, _ => by simp at h
  | _ :: _, [], h, _, _, _, _, _ => by simp at h
  | x :: l, y :: m, hl, hx, hy, r, s, h => by
    simp only [List.map_cons, List.flatten_cons, List.append_assoc] at h
    obtain ⟨rfl, h1⟩ := hf (hx x (by simp)) (hy y (by simp)) h
    obtain ⟨rfl, h2⟩ := list_split hf (by simpa using hl) (fun z hz => hx z (by simp [hz])) (fun z hz => hy z (by simp [hz])) h1
    exact ⟨rfl, h2⟩
theorem encKs_split {l m : List (Int × Int)} (hl : l.length ≤ 16) (hm : m.length ≤ 16) (h1 : RisesS l) (h2 : RisesS m) (h3 : ∀ k ∈ l, kI k) (h4 : ∀ k ∈ m, kI k) {r s : List Int} (h : encKs l ++ r = encKs m ++ s) : l = m ∧ r = s := by
  unfold encKs at h
  rw [List.append_assoc, List.append_assoc] at h
  obtain ⟨e, h⟩ := uv_split (by omega) (by omega) h
  exact list_split (p := fun k : Int × Int => KeyOk k.1 ∧ I64 k.2) (f := fun k => keyB k.1 k.2) (fun hx hy _ _ h => key_split hx.1 hy.1 hx.2 hy.2 h) e (fun k hk => ⟨h1.1 k hk, (h3 k hk).2⟩) (fun k hk => ⟨h2.1 k hk, (h4 k hk).2⟩) h
theorem encTx_split {x y : Tx} (hx : x.ok ∧ Good x) (hy : y.ok ∧ Good y) {r s : List Int} (h : encTx x ++ r = encTx y ++ s) : x = y ∧ r = s := by
  obtain ⟨hxo, g1, g2, g3, g4, g5, g6⟩ := hx
  obtain ⟨hyo, k1, k2, k3, k4, k5, k6⟩ := hy
  unfold encTx at h
  simp only [List.append_assoc] at h
  obtain ⟨e1, h⟩ := uv_split (by omega) (by omega) h
  obtain ⟨e2, h⟩ := uv_split (by omega) (by omega) h
  obtain ⟨e3, h⟩ := list_split (f := iv) (fun hx hy _ _ h => iv_split hx hy h) e2 hxo.args hyo.args h
  obtain ⟨e4, h⟩ := encKs_split g3 k3 g5 k5 hxo.reads hyo.reads h
  obtain ⟨e5, h⟩ := encKs_split g4 k4 g6 k6 hxo.writes hyo.writes h
  refine ⟨?_, h⟩
  have e0 : x.proc = y.proc := by omega
  obtain ⟨xp, xa, xr, xw⟩ := x
  obtain ⟨yp, ya, yr, yw⟩ := y
  simp only at e0 e3 e4 e5
  rw [e0, e3, e4, e5]
/-- Well-formed batches have the same bytes only if they are the same. -/
theorem encB_inj {l m : List Tx} (hl : ∀ x ∈ l, x.ok) (hm : ∀ x ∈ m, x.ok) (h1 : (encB l).2 = 0) (h2 : (encB m).2 = 0) (h : (encB l).1 = (encB m).1) : l = m := by
  have g1 := (encB_zero l).1 h1
  have g2 := (encB_zero m).1 h2
  rw [encB_good g1, encB_good g2] at h
  obtain ⟨e, h⟩ := uv_split (by omega) (by omega) h
  have := list_split (f := encTx) (p := fun x => x.ok ∧ Good x) (r := []) (s := []) (fun hx hy _ _ h => encTx_split hx hy h) e (fun x hx => ⟨hl x hx, g1.2 x hx⟩) (fun x hx => ⟨hm x hx, g2.2 x hx⟩) (by simpa [encTxs] using h)
  exact this.1
end Go.Proofs.YtjchneebdlncfaaDoor.Lib
