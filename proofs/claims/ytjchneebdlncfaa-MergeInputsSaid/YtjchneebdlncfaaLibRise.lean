/-
  KEYS IN ORDER: contracts of Compare, Rises, and of the reference's.
  Own work. No macro, syntax, notation, axiom.
-/
import Derived.Test.YtjchneebdlncfaaLibKey
import Derived.Test.YtjchneebdlncfaaDenWords11
namespace Go.Proofs.Ytjchneebdlncfaa.Lib
open Go Den Fn
open Go.RowKit (Below)
open Classical
set_option maxRecDepth 8000
set_option maxHeartbeats 1000000

abbrev kC (k : Int × Int) : List Value := keyC k.1 k.2
def kI (k : Int × Int) : Prop := I64 k.1 ∧ I64 k.2
def cmpK (a b : Int × Int) : Int := if a.1 < b.1 then -1 else if b.1 < a.1 then 1 else if a.2 < b.2 then -1 else if b.2 < a.2 then 1 else 0
theorem cmpK_range (a b : Int × Int) : -1 ≤ cmpK a b ∧ cmpK a b ≤ 1 := by
  unfold cmpK
  split <;> (try split) <;> (try split) <;> (try split) <;> omega
def RisesS (l : List (Int × Int)) : Prop := (∀ k ∈ l, KeyOk k.1) ∧ ∀ i a b, l[i]? = some a → l[i + 1]? = some b → cmpK a b < 0
theorem kC_len {l : List (Int × Int)} : ∀ k ∈ l, (kC k).length = 2 := fun _ _ => rfl
theorem key_flat : flatK Try.prog 6 97 = some [.int .i64, .int .i64] := by kernel_rfl
theorem key_eqT : eqT Try.prog 6 97 = true := by kernel_rfl
theorem key_fits {k : Int × Int} (h : kI k) : Fits [.int .i64, .int .i64] (kC k) := ⟨⟨rfl, i64_wf.2 h.1⟩, ⟨rfl, i64_wf.2 h.2⟩, trivial⟩
theorem kC_inj {a b : Int × Int} : kC a = kC b ↔ a = b := by
  obtain ⟨a1, a2⟩ := a
  obtain ⟨b1, b2⟩ := b
  simp
theorem kT : slT Try.prog 37 97 2 16 = true := by kernel_rfl
theorem kC_one {k : Int × Int} : ∀ u ∈ kC k, one u = true := by simp [one]
theorem kCs_one {l : List (Int × Int)} : ∀ u ∈ rows kC l, one u = true := fun u hu => by
  unfold rows at hu
  obtain ⟨r, hr, hu⟩ := List.mem_flatten.1 hu
  obtain ⟨k, _, rfl⟩ := List.mem_map.1 hr
  exact kC_one u hu
theorem cmpi_c (x y : Int) (w : World) : Calls Try.prog 85 #[.int .i64 x, .int .i64 y] w fun e w' => e = .returned (.int .i64 (if x < y then -1 else if y < x then 1 else 0)) ∧ w' = w := by
  refine c85 _ _ ?_
  unfold d85
  have nan : ∀ x w, Calls Try.prog 91 #[.int .i64 x] w fun e w' => e = .returned (.bool false) ∧ w' = w := fun x w => by
    refine c91 _ ?_
    unfold d91
    simp
  refine (nan x w).mono ?_
  rintro e w3 ⟨rfl, rfl⟩
  refine ⟨_, rfl, ?_⟩
  refine (nan y w3).mono ?_
  rintro e w6 ⟨rfl, rfl⟩
  refine ⟨_, rfl, ?_⟩
  rw [cond_false, cond_false]
  by_cases h1 : x < y
  · rw [bif_pos h1, if_pos h1]; exact ⟨rfl, rfl⟩
  rw [bif_neg h1, if_neg h1]
  by_cases h2 : y < x
  · rw [bif_pos h2, if_pos h2]; exact ⟨rfl, rfl⟩
  · rw [bif_neg h2, if_neg h2]; exact ⟨rfl, rfl⟩
theorem cmpl_c (x y : Int) (w : World) : Calls Try.prog 86 #[.int .i64 x, .int .i64 y] w fun e w' => e = .returned (.int .i64 (if x < y then -1 else if y < x then 1 else 0)) ∧ w' = w := by
  refine c86 _ _ ?_
  unfold d86
  have nan : ∀ x w, Calls Try.prog 92 #[.int .i64 x] w fun e w' => e = .returned (.bool false) ∧ w' = w := fun x w => by
    refine c92 _ ?_
    unfold d92
    simp
  refine (nan x w).mono ?_
  rintro e w3 ⟨rfl, rfl⟩
  refine ⟨_, rfl, ?_⟩
  refine (nan y w3).mono ?_
  rintro e w6 ⟨rfl, rfl⟩
  refine ⟨_, rfl, ?_⟩
  rw [cond_false, cond_false]
  by_cases h1 : x < y
  · rw [bif_pos h1, if_pos h1]; exact ⟨rfl, rfl⟩
  rw [bif_neg h1, if_neg h1]
  by_cases h2 : y < x
  · rw [bif_pos h2, if_pos h2]; exact ⟨rfl, rfl⟩
  · rw [bif_neg h2, if_neg h2]; exact ⟨rfl, rfl⟩
theorem or_c (x y : Int) (w : World) (b : Nat) (hb : Blk w b [.int .i64 x, .int .i64 y]) : Calls Try.prog 84 #[.slice (some ⟨b, 0, none⟩) 2 2] w fun e w' => e = .returned (.int .i64 (if x = 0 then y else x)) ∧ w' = w := by
  refine c84 _ _ _ ?_
  unfold d84
  refine ⟨fun m i w' => ∃ k : Nat, k ≤ 2 ∧ i = k ∧ m = 2 - k ∧ w' = w ∧ (0 < k → x = 0) ∧ (1 < k → y = 0), ⟨2, 0, by omega, rfl, rfl, rfl, by omega, by omega⟩, ?_⟩
  rintro m w3 i ⟨k, hk, rfl, rfl, rfl, h0, h1⟩
  by_cases hlt : k < 2
  · rw [bif_pos (by omega)]
    refine ⟨by omega, by omega, ?_⟩
    show ∃ _, _
    rw [Int.toNat_natCast, add_mk, Nat.mul_one, Nat.zero_add]
    rcases (show k = 0 ∨ k = 1 by omega) with rfl | rfl
    · refine ⟨x, hb.cell 0, ?_⟩
      by_cases hx : x = 0
      · rw [bif_npos hx]
        exact ⟨1, by omega, 1, by omega, by decide, rfl, rfl, fun _ => hx, by omega⟩
      · rw [bif_nneg hx, if_neg hx]
        exact ⟨rfl, rfl⟩
    · refine ⟨y, hb.cell 1, ?_⟩
      rw [if_pos (h0 (by omega))]
      by_cases hy : y = 0
      · rw [bif_npos hy]
        exact ⟨0, by omega, 2, by omega, by decide, rfl, rfl, fun _ => h0 (by omega), fun _ => hy⟩
      · rw [bif_nneg hy]
        exact ⟨rfl, rfl⟩
  · rw [bif_neg (by omega), if_pos (h0 (by omega)), h1 (by omega)]
    exact ⟨rfl, rfl⟩
theorem zcInt : zc Try.prog 3 = [.int .i64 0] := by kernel_rfl
theorem compare_c (a b : Int × Int) (w : World) (ha : kI a) (hb : kI b) : Calls Try.prog 79 #[.agg (kC a).toArray, .agg (kC b).toArray] w fun e w' => e = .returned (.int .i64 (cmpK a b)) ∧ Tch [] w w' := by
  refine c79 _ _ ?_
  unfold d79
  rintro w2 rfl w3 rfl
  have hS := ((St.refl w []).new (kC a) 97 rfl).new (kC b) 97 rfl
  generalize (w.alloc (.cells (kC a).toArray 97)).alloc (.cells (kC b).toArray 97) = w3 at *
  generalize (w.alloc (.cells (kC a).toArray 97)).heap.size = qb at *
  generalize w.heap.size = pb at *
  refine get_all (hS.blk (b := pb) (cs := kC a) (by simp)) rfl ?_
  refine get_all (hS.blk (b := qb) (cs := kC b) (by simp)) rfl ?_
  refine eq_flat_d key_flat key_eqT (key_fits ha) (key_fits hb) kC_inj ?_
  by_cases he : a = b
  · rw [bif_pos he]
    refine ⟨?_, hS.tch⟩
    subst he
    unfold cmpK
    simp
  rw [bif_neg he]
  rintro w7 rfl
  replace hS := hS.drew
  generalize w3.drew = w7 at *
  refine ⟨a.1, by rw [add_mk]; exact (hS.blk (b := pb) (cs := kC a) (by simp)).cell 0, b.1, by rw [add_mk]; exact (hS.blk (b := qb) (cs := kC b) (by simp)).cell 0, a.2, by rw [add_mk]; exact (hS.blk (b := pb) (cs := kC a) (by simp)).cell 1, b.2, by rw [add_mk]; exact (hS.blk (b := qb) (cs := kC b) (by simp)).cell 1, ?_⟩
  refine (cmpi_c a.1 b.1 w7).mono ?_
  rintro e w13 ⟨rfl, rfl⟩
  refine ⟨_, rfl, ⟨b.2, by rw [add_mk]; exact (hS.blk (b := qb) (cs := kC b) (by simp)).cell 1, rfl, rfl⟩, ⟨a.2, by rw [add_mk]; exact (hS.blk (b := pb) (cs := kC a) (by simp)).cell 1, rfl, rfl⟩, ?_⟩
  refine (cmpl_c a.2 b.2 w13).mono ?_
  rintro e w18 ⟨rfl, rfl⟩
  refine ⟨_, rfl, i64s [if a.1 < b.1 then -1 else if b.1 < a.1 then 1 else 0, if a.2 < b.2 then -1 else if b.2 < a.2 then 1 else 0], by rw [zcInt]; rfl, ?_⟩
  rintro w21 rfl
  refine (or_c _ _ _ _ (Blk.fresh _ _ rfl)).mono ?_
  rintro e w23 ⟨rfl, rfl⟩
  refine ⟨_, rfl, ?_, (hS.alloc _).tch⟩
  have key : (if (if a.1 < b.1 then (-1 : Int) else if b.1 < a.1 then 1 else 0) = 0 then (if a.2 < b.2 then (-1 : Int) else if b.2 < a.2 then 1 else 0) else (if a.1 < b.1 then (-1 : Int) else if b.1 < a.1 then 1 else 0)) = cmpK a b := by
    unfold cmpK
    by_cases h1 : a.1 < b.1
    · simp [h1]
    · by_cases h2 : b.1 < a.1 <;> simp [h1, h2]
  rw [key]
theorem rises_c (w : World) (l : List (Int × Int)) (a : Option Addr) (n c : Nat) (hr : RSl w 2 a n c (rows kC l)) (hI : ∀ k ∈ l, kI k) (hN : n < 9223372036854775807) :
    Calls Try.prog 71 #[.slice a n c] w fun e w' => e = .returned (.bool (decide (RisesS l))) ∧ Tch [] w w' := by
  have hn := hr.count kC_len (by omega)
  refine c71 _ _ _ ?_
  unfold d71
  refine ⟨fun m x u => ∃ i : Nat, x = i ∧ i ≤ n ∧ m = n - i ∧ (∀ k ∈ l.take i, KeyOk k.1) ∧ (∀ j a b, j + 1 < i → l[j]? = some a → l[j + 1]? = some b → cmpK a b < 0) ∧ Tch [] w u, ⟨n, 0, rfl, by omega, rfl, by simp, by omega, Tch.refl _ _⟩, ?_⟩
  rintro m w3 x ⟨i, rfl, hi, rfl, hk, hc, ht⟩
  by_cases hlt : i < n
  · rw [bif_pos (by omega)]
    refine ⟨by omega, by omega, ?_⟩
    rw [Int.toNat_natCast]
    have hli : l[i]? = some (l[i]'(by omega)) := List.getElem?_eq_getElem (by omega)
    generalize l[i]'(by omega) = k at hli
    have hkI := hI k (List.mem_of_getElem? hli)
    replace hr := hr.tch ht (fun _ _ h => by cases h)
    refine hr.elem kC_len (by omega) hli ?_
    refine var_init (n := 2) (by rw [zcKey]; rfl) rfl kC_one fun w7 w8 h1 h2 _ => ?_
    generalize w3.heap.size = kb at *
    rintro w9 rfl
    replace h1 := h1.tch ((Tch.refl [] w8).drew) (by simp)
    replace h2 := h2.drew
    generalize w8.drew = w9 at *
    refine get_all h1 rfl ?_
    refine (check_c k.1 k.2 w9).mono ?_
    rintro e w12 ⟨rfl, ht12⟩
    replace h1 := h1.tch ht12 (by simp)
    replace h2 := h2.trans ht12 (by simp)
    refine ⟨_, rfl, ?_⟩
    by_cases hok : KeyOk k.1
    rotate_left
    · rw [if_neg hok, bif_nneg (by omega)]
      exact ⟨by rw [decide_eq_false fun h => hok (h.1 k (List.mem_of_getElem? hli))], ht.trans h2 (by simp)⟩
    rw [if_pos hok, bif_npos rfl]
    have hk' : ∀ k ∈ l.take (i + 1), KeyOk k.1 := fun x hx => by
      rw [List.take_add_one, hli] at hx
      rcases List.mem_append.1 hx with hx | hx
      · exact hk x hx
      · simp at hx; rw [hx]; exact hok
    by_cases h0 : 0 < i
    · rw [bif_pos (by omega), wrap_i64 (n := (i : Int) - 1) (by omega) (by omega)]
      refine ⟨by omega, by omega, ?_⟩
      rw [show Int.toNat ((i : Int) - 1) = i - 1 by omega]
      have hlj : l[i - 1]? = some (l[i - 1]'(by omega)) := List.getElem?_eq_getElem (by omega)
      generalize l[i - 1]'(by omega) = k0 at hlj
      refine (hr.tch h2 (fun _ _ h => by cases h)).elem kC_len (by omega) hlj ?_
      refine get_all h1 rfl ?_
      refine (compare_c k0 k w12 (hI k0 (List.mem_of_getElem? hlj)) hkI).mono ?_
      rintro e w18 ⟨rfl, ht18⟩
      refine ⟨_, rfl, ?_⟩
      have htt := (ht.trans h2 (by simp)).trans ht18 (by simp)
      by_cases hcc : 0 ≤ cmpK k0 k
      · rw [bif_pos hcc]
        refine ⟨?_, htt⟩
        rw [decide_eq_false fun h => ?_]
        have := h.2 (i - 1) k0 k hlj (by rw [show i - 1 + 1 = i by omega]; exact hli)
        omega
      · rw [bif_neg hcc, wrap_i64 (by omega) (by omega)]
        refine ⟨n - (i + 1), by omega, i + 1, by omega, by omega, rfl, hk', fun j a b hj ha hb => ?_, htt⟩
        by_cases hji : j + 1 = i
        · rw [show j = i - 1 by omega, hlj] at ha
          rw [hji, hli] at hb
          cases ha; cases hb
          omega
        · exact hc j a b (by omega) ha hb
    · rw [bif_neg (by omega), wrap_i64 (by omega) (by omega)]
      exact ⟨n - (i + 1), by omega, i + 1, by omega, by omega, rfl, hk', fun j a b hj ha hb => by omega, ht.trans h2 (by simp)⟩
  · rw [bif_neg (by omega)]
    refine ⟨?_, ht⟩
    rw [decide_eq_true]
    rw [List.take_of_length_le (by omega)] at hk
    refine ⟨hk, fun j a b ha hb => hc j a b ?_ ha hb⟩
    have := (List.getElem?_eq_some_iff.1 hb).1
    omega
theorem refCompare_c (a b : Int × Int) (w : World) : Calls Try.prog 88 #[.agg (kC a).toArray, .agg (kC b).toArray] w fun e w' => e = .returned (.int .i64 (cmpK a b)) ∧ Tch [] w w' := by
  refine c88 _ _ ?_
  unfold d88
  rintro w2 rfl w3 rfl
  have hS := ((St.refl w []).new (kC a) 97 rfl).new (kC b) 97 rfl
  generalize (w.alloc (.cells (kC a).toArray 97)).alloc (.cells (kC b).toArray 97) = w3 at *
  generalize (w.alloc (.cells (kC a).toArray 97)).heap.size = qb at *
  generalize w.heap.size = pb at *
  have hp := hS.blk (b := pb) (cs := kC a) (by simp)
  have hq := hS.blk (b := qb) (cs := kC b) (by simp)
  unfold cmpK
  refine ⟨a.1, by rw [add_mk]; exact hp.cell 0, b.1, by rw [add_mk]; exact hq.cell 0, ?_⟩
  by_cases h1 : a.1 < b.1
  · rw [bif_pos h1, if_pos h1]; exact ⟨rfl, hS.tch⟩
  rw [bif_neg h1, if_neg h1]
  refine ⟨a.1, by rw [add_mk]; exact hp.cell 0, b.1, by rw [add_mk]; exact hq.cell 0, ?_⟩
  by_cases h2 : b.1 < a.1
  · rw [bif_pos h2, if_pos h2]; exact ⟨rfl, hS.tch⟩
  rw [bif_neg h2, if_neg h2]
  refine ⟨a.2, by rw [add_mk]; exact hp.cell 1, b.2, by rw [add_mk]; exact hq.cell 1, ?_⟩
  by_cases h3 : a.2 < b.2
  · rw [bif_pos h3, if_pos h3]; exact ⟨rfl, hS.tch⟩
  rw [bif_neg h3, if_neg h3]
  refine ⟨a.2, by rw [add_mk]; exact hp.cell 1, b.2, by rw [add_mk]; exact hq.cell 1, ?_⟩
  by_cases h4 : b.2 < a.2
  · rw [bif_pos h4, if_pos h4]; exact ⟨rfl, hS.tch⟩
  · rw [bif_neg h4, if_neg h4]; exact ⟨rfl, hS.tch⟩
theorem refAll_c (w : World) (l : List (Int × Int)) (a : Option Addr) (n c : Nat) (hr : RSl w 2 a n c (rows kC l)) (hN : n < 9223372036854775807) :
    Calls Try.prog 87 #[.slice a n c] w fun e w' => e = .returned (.bool (decide (∀ k ∈ l, KeyOk k.1))) ∧ Tch [] w w' := by
  have hn := hr.count kC_len (by omega)
  refine c87 _ _ _ ?_
  unfold d87
  refine ⟨fun m x u => ∃ i : Nat, x = i ∧ i ≤ n ∧ m = n - i ∧ (∀ k ∈ l.take i, KeyOk k.1) ∧ Tch [] w u, ⟨n, 0, rfl, by omega, rfl, by simp, Tch.refl _ _⟩, ?_⟩
  rintro m w3 x ⟨i, rfl, hi, rfl, hk, ht⟩
  by_cases hlt : i < n
  · rw [bif_pos (by omega)]
    refine ⟨by omega, by omega, ?_⟩
    rw [Int.toNat_natCast]
    have hli : l[i]? = some (l[i]'(by omega)) := List.getElem?_eq_getElem (by omega)
    generalize l[i]'(by omega) = k at hli
    refine (hr.tch ht (fun _ _ h => by cases h)).elem kC_len (by omega) hli ?_
    refine (refCheck_c k.1 k.2 w3).mono ?_
    rintro e w8 ⟨rfl, ht8⟩
    refine ⟨_, rfl, ?_⟩
    by_cases hok : KeyOk k.1
    · rw [if_pos hok, bif_npos rfl, wrap_i64 (by omega) (by omega)]
      refine ⟨n - (i + 1), by omega, i + 1, by omega, by omega, rfl, fun x hx => ?_, ht.trans ht8 (by simp)⟩
      rw [List.take_add_one, hli] at hx
      rcases List.mem_append.1 hx with hx | hx
      · exact hk x hx
      · simp at hx; rw [hx]; exact hok
    · rw [if_neg hok, bif_nneg (by omega)]
      exact ⟨by rw [decide_eq_false fun h => hok (h k (List.mem_of_getElem? hli))], ht.trans ht8 (by simp)⟩
  · rw [bif_neg (by omega)]
    rw [List.take_of_length_le (by omega)] at hk
    exact ⟨by rw [decide_eq_true hk], ht⟩
theorem refRises_c (w : World) (l : List (Int × Int)) (a : Option Addr) (n c : Nat) (hr : RSl w 2 a n c (rows kC l)) (hN : n < 9223372036854775807) :
    Calls Try.prog 81 #[.slice a n c] w fun e w' => e = .returned (.bool (decide (RisesS l))) ∧ Tch [] w w' := by
  have hn := hr.count kC_len (by omega)
  refine c81 _ _ _ ?_
  unfold d81
  refine (refAll_c w l a n c hr hN).mono ?_
  rintro e w2 ⟨rfl, ht2⟩
  refine ⟨_, rfl, ?_⟩
  refine ⟨fun m ok x u => ∃ i : Nat, x = i ∧ 1 ≤ i ∧ m = n - i ∧ (i ≤ n ∨ i = 1) ∧ ok = decide ((∀ k ∈ l, KeyOk k.1) ∧ ∀ j a b, j + 1 < i → l[j]? = some a → l[j + 1]? = some b → cmpK a b < 0) ∧ Tch [] w u, ⟨n - 1, 1, rfl, by omega, rfl, .inr rfl, ?_, ht2⟩, ?_⟩
  · rw [decide_eq_decide]
    exact ⟨fun h => ⟨h, fun j a b hj => by omega⟩, fun h => h.1⟩
  rintro m w6 ok x ⟨i, rfl, h1, rfl, hi, rfl, ht⟩
  by_cases hlt : i < n
  · rw [bif_pos (by omega)]
    rintro w9 rfl
    replace ht := ht.drew
    generalize w6.drew = w9 at *
    have step : ∀ {q : Prop} [Decidable q], (q ↔ ((∀ k ∈ l, KeyOk k.1) ∧ ∀ j a b, j + 1 < i + 1 → l[j]? = some a → l[j + 1]? = some b → cmpK a b < 0)) → decide q = decide ((∀ k ∈ l, KeyOk k.1) ∧ ∀ j a b, j + 1 < i + 1 → l[j]? = some a → l[j + 1]? = some b → cmpK a b < 0) := fun h => decide_eq_decide.2 h
    by_cases hok : (∀ k ∈ l, KeyOk k.1) ∧ ∀ j a b, j + 1 < i → l[j]? = some a → l[j + 1]? = some b → cmpK a b < 0
    · rw [bif_pos hok, wrap_i64 (n := (i : Int) - 1) (by omega) (by omega)]
      refine ⟨by omega, by omega, ?_⟩
      rw [show Int.toNat ((i : Int) - 1) = i - 1 by omega]
      have hlj : l[i - 1]? = some (l[i - 1]'(by omega)) := List.getElem?_eq_getElem (by omega)
      have hli : l[i]? = some (l[i]'(by omega)) := List.getElem?_eq_getElem (by omega)
      generalize l[i - 1]'(by omega) = k0 at hlj
      generalize l[i]'(by omega) = k at hli
      replace hr := hr.tch ht (fun _ _ h => by cases h)
      refine hr.elem kC_len (by omega) hlj ?_
      refine ⟨by omega, by omega, ?_⟩
      rw [Int.toNat_natCast]
      refine hr.elem kC_len (by omega) hli ?_
      refine (refCompare_c k0 k w9).mono ?_
      rintro e w15 ⟨rfl, ht15⟩
      refine ⟨_, rfl, n - (i + 1), by omega, i + 1, by rw [wrap_i64 (by omega) (by omega)]; omega, by omega, rfl, .inl (by omega), step ⟨fun h => ⟨hok.1, fun j a b hj ha hb => ?_⟩, fun h => ?_⟩, ht.trans ht15 (by simp)⟩
      · by_cases hji : j + 1 = i
        · rw [show j = i - 1 by omega, hlj] at ha
          rw [hji, hli] at hb
          cases ha; cases hb
          exact h
        · exact hok.2 j a b (by omega) ha hb
      · exact h.2 (i - 1) k0 k (by omega) hlj (by rw [show i - 1 + 1 = i by omega]; exact hli)
    · rw [bif_neg hok]
      refine ⟨n - (i + 1), by omega, i + 1, by rw [wrap_i64 (by omega) (by omega)]; omega, by omega, rfl, .inl (by omega), ?_, ht⟩
      rw [decide_eq_false fun h => hok ⟨h.1, fun j a b hj ha hb => h.2 j a b (by omega) ha hb⟩]
  · rw [bif_neg (by omega)]
    refine ⟨?_, ht⟩
    congr 2
    rw [decide_eq_decide]
    refine ⟨fun h => ⟨h.1, fun j a b ha hb => h.2 j a b ?_ ha hb⟩, fun h => ⟨h.1, fun j a b _ ha hb => h.2 j a b ha hb⟩⟩
    have := (List.getElem?_eq_some_iff.1 hb).1
    omega
end Go.Proofs.Ytjchneebdlncfaa.Lib
