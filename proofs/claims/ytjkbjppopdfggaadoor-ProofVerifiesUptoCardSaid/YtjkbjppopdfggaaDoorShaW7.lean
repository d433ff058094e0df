/-
  THE DIGEST: the law ProofSums answers true.
  Own work. No macro, syntax, notation, axiom.
-/
import Derived.Test.YtjkbjppopdfggaaDoorShaW6
import Derived.Test.YtjkbjppopdfggaaDoorDenWords4
namespace Go.Proofs.YtjkbjppopdfggaaDoor.Sha
open Go Den Fn
open Go.RowKit (Below)
set_option maxRecDepth 8000
set_option maxHeartbeats 1000000

theorem sha_length (bs : List Int) : (sha bs).length = 32 := outB_length _
theorem sha_bytes (bs : List Int) : Bytes (sha bs) := by
  intro x hx
  simp only [sha, outB, List.mem_map] at hx
  obtain ⟨i, _, rfl⟩ := hx
  exact wrap_u8_byte _
theorem byte_wf {l : List Int} (h : Bytes l) : ∀ x ∈ l, (Lit.int .u8 x).wf = true := by
  intro x hx
  have := h x hx
  simp [Lit.wf, IntKind.min, IntKind.max, IntKind.signed, IntKind.bits]
  omega
theorem dig_T : arrT Tryd.prog 24 5 32 .u8 = true := by kernel_rfl

theorem same_c (w : World) (xs ys : List Int) (a b : Option Addr) (n c m mc : Nat) (hx : RSl w 1 a n c (u8 xs)) (hy : RSl w 1 b m mc (u8 ys)) (hN : n ≤ 140737488351232) :
    Calls Tryd.prog 14 #[.slice a n c, .slice b m mc] w fun e w' => e = .returned (.bool (decide (xs = ys))) ∧ Tch [] w w' := by
  have hn := u8_len hx
  have hm := u8_len hy
  refine c14 _ _ _ _ _ _ ?_
  unfold d14
  by_cases he : n = m
  · subst he
    rw [bif_npos rfl]
    refine ⟨fun q x w' => ∃ k : Nat, k ≤ n ∧ x = k ∧ q = n - k ∧ xs.take k = ys.take k ∧ Tch [] w w', ⟨n, 0, by omega, rfl, rfl, rfl, Tch.refl _ _⟩, ?_⟩
    rintro q w4 x ⟨k, hk, rfl, rfl, htk, ht⟩
    by_cases hlt : k < n
    · rw [bif_pos (by omega)]
      rintro w6 rfl
      obtain ⟨b1, o1, rfl, g1⟩ := (hx.below ht.drew.below).int (i := k) hlt
      obtain ⟨b2, o2, rfl, g2⟩ := (hy.below ht.drew.below).int (i := k) hlt
      simp only [optK, add_mk, Nat.mul_one, Int.toNat_natCast]
      refine ⟨by omega, by omega, _, g1, by omega, by omega, _, g2, ?_⟩
      by_cases hd : xs.getD k 0 = ys.getD k 0
      · rw [bif_npos hd, wrap_i64 (by omega) (by omega)]
        refine ⟨n - (k + 1), by omega, k + 1, by omega, by omega, rfl, ?_, ht.drew⟩
        rw [List.take_succ_eq_append_getElem (by omega), List.take_succ_eq_append_getElem (by omega), htk]
        have h1 : k < xs.length := by omega
        have h2 : k < ys.length := by omega
        simp only [List.getD_eq_getElem?_getD, List.getElem?_eq_getElem h1, List.getElem?_eq_getElem h2, Option.getD_some] at hd
        rw [hd]
      · rw [bif_nneg hd]
        refine ⟨?_, ht.drew⟩
        rw [decide_eq_false fun e => hd (by rw [e])]
    · rw [bif_neg (by omega)]
      have : k = n := by omega
      subst this
      rw [List.take_of_length_le (by omega), List.take_of_length_le (by omega)] at htk
      exact ⟨by rw [decide_eq_true htk], ht⟩
  · rw [bif_nneg (by omega)]
    refine ⟨?_, Tch.refl _ _⟩
    rw [decide_eq_false fun e => he (by rw [← hn, ← hm, e])]

theorem law_c (w : World) (bs : List Int) (a : Option Addr) (n c : Nat) (hr : RSl w 1 a n c (u8 bs)) (hB : Bytes bs) (hN : n ≤ 140737488351232)
    (hk : Cells w ⟨1, 0, none⟩ (u32 Ks)) (h0 : Cells w ⟨0, 0, none⟩ (u32 Hs)) :
    Calls Tryd.prog 3 #[.slice a n c] w fun e w' => e = .returned (.bool true) ∧ Below w.heap.size w w' := by
  have hcap := hr.cap
  have hn := u8_len hr
  have hT : slT Tryd.prog 22 5 1 1 = true := by kernel_rfl
  refine c3 _ _ _ ?_
  unfold d3
  rintro w1 rfl
  have hs1 := size_alloc w (.cells #[] 5)
  have ht := (Tch.refl [] w).alloc (.cells #[] 5)
  refine app_own hT (own_new w (n := 0) (cs := []) (base := w.heap.size) (size := 1) (Nat.le_refl _) rfl (by omega)) (hr.below ht.below) (by omega) (by omega) (by omega) ?_
  rw [Nat.zero_add, List.nil_append]
  intro b c1 w13 hown hg
  replace ht := ht.grown hg (by intro k hk; cases hk; exact .inr (Nat.le_refl _))
  refine ⟨b, _, c1, rfl, [.int .u8 165], by rw [zc5]; rfl, ?_⟩
  rintro w16 rfl
  have hn1 : RSl (w13.alloc (.cells [Value.int .u8 165].toArray 5)) 1 (some ⟨w13.heap.size, 0, none⟩) 1 1 (u8 [165]) := (Blk.fresh w13 (cs := [Value.int .u8 165]) 5 rfl).rsl rfl (ones_ints (l := [165]))
  have hsz13 := ht.size
  refine app_own hT (own_alloc hown _) hn1 (by rw [size_alloc]; omega) (by omega) (by omega) ?_
  replace ht := ht.alloc (.cells [Value.int .u8 165].toArray 5)
  intro b2 c2 w18 hown2 hg2
  replace ht := ht.grown hg2 (fun k hk => .inr (own_lt hown hk).1)
  refine ⟨b2, _, c2, rfl, ?_⟩
  clear hg hg2 hown hn1 hsz13 hs1
  rw [← List.map_append] at hown2
  have hr2 := own_rsl hown2 ones_ints
  have hc2 := hr2.cap
  refine ⟨by omega, by omega, ?_⟩
  have hr3 := hr2.sub (l := 0) (hh := n) (by omega) (by omega)
  rw [Nat.zero_mul, List.drop_zero, Nat.sub_zero, Nat.sub_zero, Nat.mul_one, ← List.map_take, List.take_append_of_le_length (by omega), List.take_of_length_le (by omega)] at hr3
  rw [Nat.zero_mul, Int.toNat_natCast, Nat.sub_zero, Nat.sub_zero]
  refine (sum_c w18 bs _ n c2 hr3 hB (ks_tch hk ht (by simp)) (fun i v hv => by
    have := h0 i v hv
    rw [add_mk] at this ⊢
    rw [World.cell?_of_block (w := w) (ht.block 0 (World.block_lt_of_cell? _ _ this) (by simp))]
    exact this)).mono ?_
  rintro e w11 ⟨rfl, ht11⟩
  refine ⟨_, rfl, ?_⟩
  have hsl : (u8 (sha bs)).length = 32 := by rw [List.length_map, sha_length]
  have htA := ht.trans ht11 (by simp)
  rintro w13' rfl
  have hD : Blk _ _ (u8 (List.replicate 32 0)) := Blk.fresh w11 24 (zc24.trans (by simp))
  have hb18 := ht11.size
  have hb11 := htA.size
  replace htA := htA.alloc (.cells (zc Tryd.prog 24).toArray 24)
  replace ht11 := ht11.alloc (.cells (zc Tryd.prog 24).toArray 24)
  refine ⟨by simpa using hsl, by simpa using ones_ints, hD.room 0 32 (by simp), ?_⟩
  rintro w14 rfl
  replace hD := hD.sets (vs := u8 (sha bs)) (i := 0) (o := 0) (by rw [hsl]; simp)
  rw [splice_all (by rw [hsl]; simp)] at hD
  replace htA := Tch.setCells (b := w11.heap.size) (o := 0) (vs := u8 (sha bs)) (i := 0) (.inr hb11) htA
  replace ht11 := Tch.setCells (b := w11.heap.size) (o := 0) (vs := u8 (sha bs)) (i := 0) (.inr hb18) ht11
  change Blk (setCells (w11.alloc _) ⟨w11.heap.size, 0, none⟩ (u8 (sha bs)).toArray.toList 0) _ _ at hD
  change Tch [] w (setCells (w11.alloc _) ⟨w11.heap.size, 0, none⟩ (u8 (sha bs)).toArray.toList 0) at htA
  change Tch [] w18 (setCells (w11.alloc _) ⟨w11.heap.size, 0, none⟩ (u8 (sha bs)).toArray.toList 0) at ht11
  generalize setCells (w11.alloc (.cells (zc Tryd.prog 24).toArray 24)) ⟨w11.heap.size, 0, none⟩ (u8 (sha bs)).toArray.toList 0 = W14 at *
  rintro w15 rfl
  replace hD := hD.drew
  replace htA := htA.drew
  replace ht11 := ht11.drew
  refine ⟨u8 (sha bs), hsl, hD.cells, ?_⟩
  refine (refSum_c W14.drew bs a n c (hr.below htA.below) hB hN).mono ?_
  rintro e w19 ⟨rfl, ht19⟩
  replace hD := hD.tch ht19 (by simp)
  replace htA := htA.trans ht19 (by simp)
  replace ht11 := ht11.trans ht19 (by simp)
  refine ⟨_, rfl, ⟨u8 (sha bs), hsl, hD.cells, rfl, rfl⟩, true, ?_, ?_⟩
  · have := eq_ints (P := Tryd.prog) dig_T (.tmp 15) (.tmp 17) (sha bs) (sha bs) (sha_length bs) (sha_length bs) (byte_wf (sha_bytes bs)) (byte_wf (sha_bytes bs)) w19
    rw [decide_eq_true rfl] at this
    exact this
  show _ ∧ _ ∧ _
  refine ⟨by omega, by omega, ?_⟩
  refine (same_c w19 bs bs _ _ _ _ _ _ (hr3.below ht11.below) (hr.below htA.below) hN).mono ?_
  rintro e w23 ⟨rfl, ht23⟩
  refine ⟨_, rfl, ?_⟩
  rw [bif_pos rfl]
  replace ht11 := ht11.trans ht23 (by simp)
  replace htA := htA.trans ht23 (by simp)
  obtain ⟨gb, go, rfl, g⟩ := (hr2.below ht11.below).int (i := n) (by omega)
  rw [Nat.mul_one]
  refine ⟨by omega, by omega, _, by rw [add_mk]; exact g, ?_, htA.below⟩
  have : (bs ++ [165]).getD n 0 = 165 := by rw [← hn]; simp [List.getD_eq_getElem?_getD]
  rw [this]
  rfl
end Go.Proofs.YtjkbjppopdfggaaDoor.Sha
