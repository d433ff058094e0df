/-
  THE DIGEST, as the reference has it: preluderef24.Sum.
  Own work. No macro, syntax, notation, axiom.
-/
import Derived.Test.YtjkbjppopdfggaaDoorShaW5
namespace Go.Proofs.YtjkbjppopdfggaaDoor.Sha
open Go Den Fn
open Go.RowKit (Below)
set_option maxRecDepth 8000
set_option maxHeartbeats 1000000

theorem refSum_c (w : World) (bs : List Int) (a : Option Addr) (n c : Nat) (hr : RSl w 1 a n c (u8 bs)) (hB : Bytes bs) (hN : n ≤ 140737488351232) :
    Calls Tryd.prog 13 #[.slice a n c] w fun e w' => e = .returned (.agg (u8 (sha bs)).toArray) ∧ Tch [] w w' := by
  have hcap := hr.cap
  have hn := u8_len hr
  refine c13 _ _ _ ?_
  unfold d13
  rintro w1 rfl
  have hO : Blk _ _ (u8 (List.replicate 32 0)) := Blk.fresh w 24 (zc24.trans (by simp))
  have ht := (Tch.refl [] w).alloc (.cells (zc Tryd.prog 24).toArray 24)
  have hs1 := size_alloc w (.cells (zc Tryd.prog 24).toArray 24)
  generalize w.alloc (.cells (zc Tryd.prog 24).toArray 24) = W1 at *
  refine (roots_c W1).mono ?_
  rintro e w3 ⟨rfl, ht3⟩
  have hs3 := ht3.size
  replace hO := hO.tch ht3 (by simp)
  replace ht := ht.trans ht3 (by simp)
  clear ht3
  refine ⟨_, rfl, ?_⟩
  rintro w5 rfl
  generalize hhb : w3.heap.size = hb at *
  have hH : Blk _ _ (u32 (List.replicate 8 0)) := Blk.fresh w3 91 (zc91.trans (by simp))
  rw [hhb] at hH
  replace hO := hO.alloc (.cells (zc Tryd.prog 91).toArray 91)
  replace ht := ht.alloc (.cells (zc Tryd.prog 91).toArray 91)
  refine ⟨rfl, by simpa using ones_ints, hH.room 0 8 (by simp), ?_⟩
  rintro w6 rfl
  replace hH := hH.sets (vs := u32 Hs) (i := 0) (o := 0) (by simp [Hs])
  rw [splice_all (by simp [Hs])] at hH
  replace hO := hO.of_heap (heap_setCells (vs := u32 Hs) (i := 0) (b := hb) (o := 0) (by omega))
  replace ht := Tch.setCells (b := hb) (o := 0) (vs := u32 Hs) (i := 0) (.inr (by omega)) ht
  change Blk (setCells (w3.alloc _) ⟨hb, 0, none⟩ (u32 Hs).toArray.toList 0) _ _ at hH
  change Blk (setCells (w3.alloc _) ⟨hb, 0, none⟩ (u32 Hs).toArray.toList 0) _ _ at hO
  change Tch [] w (setCells (w3.alloc _) ⟨hb, 0, none⟩ (u32 Hs).toArray.toList 0) at ht
  generalize setCells (w3.alloc (.cells (zc Tryd.prog 91).toArray 91)) ⟨hb, 0, none⟩ (u32 Hs).toArray.toList 0 = W6 at *
  have hb6 := hH.lt
  refine (cubes_c W6).mono ?_
  rintro e w8 ⟨rfl, ht8⟩
  have hs8 := ht8.size
  replace hO := hO.tch ht8 (by simp)
  replace hH := hH.tch ht8 (by simp)
  replace ht := ht.trans ht8 (by simp)
  clear ht8
  refine ⟨_, rfl, ?_⟩
  rintro w10 rfl
  generalize hkb : w8.heap.size = kb at *
  have hK : Blk _ _ (u32 (List.replicate 64 0)) := Blk.fresh w8 96 (zc96.trans (by simp))
  rw [hkb] at hK
  replace hO := hO.alloc (.cells (zc Tryd.prog 96).toArray 96)
  replace hH := hH.alloc (.cells (zc Tryd.prog 96).toArray 96)
  replace ht := ht.alloc (.cells (zc Tryd.prog 96).toArray 96)
  refine ⟨rfl, by simpa using ones_ints, hK.room 0 64 (by simp), ?_⟩
  rintro w11 rfl
  replace hK := hK.sets (vs := u32 Ks) (i := 0) (o := 0) (by simp [Ks])
  rw [splice_all (by simp [Ks])] at hK
  replace hO := hO.of_heap (heap_setCells (vs := u32 Ks) (i := 0) (b := kb) (o := 0) (by omega))
  replace hH := hH.of_heap (heap_setCells (vs := u32 Ks) (i := 0) (b := kb) (o := 0) (by omega))
  replace ht := Tch.setCells (b := kb) (o := 0) (vs := u32 Ks) (i := 0) (.inr (by omega)) ht
  change Blk (setCells (w8.alloc _) ⟨kb, 0, none⟩ (u32 Ks).toArray.toList 0) _ _ at hK
  change Blk (setCells (w8.alloc _) ⟨kb, 0, none⟩ (u32 Ks).toArray.toList 0) _ _ at hH
  change Blk (setCells (w8.alloc _) ⟨kb, 0, none⟩ (u32 Ks).toArray.toList 0) _ _ at hO
  change Tch [] w (setCells (w8.alloc _) ⟨kb, 0, none⟩ (u32 Ks).toArray.toList 0) at ht
  generalize setCells (w8.alloc (.cells (zc Tryd.prog 96).toArray 96)) ⟨kb, 0, none⟩ (u32 Ks).toArray.toList 0 = W11 at *
  have hk11 := hK.lt
  refine (padded_c W11 bs a n c (hr.below ht.below) hN).mono ?_
  rintro e w13 ⟨pa, pc, rfl, hp, hpoff, ht13⟩
  have hs13 := ht13.size
  replace hO := hO.tch ht13 (by simp)
  replace hH := hH.tch ht13 (by simp)
  replace hK := hK.tch ht13 (by simp)
  replace ht := ht.trans ht13 (by simp)
  clear ht13
  refine ⟨_, _, _, rfl, ?_⟩
  have hpB := pad_bytes hB
  have hpcap := hp.cap
  obtain ⟨Q, hQ⟩ : ∃ Q, (pad bs).length = 64 * Q := ⟨(pad bs).length / 64, by have := pad_length bs; unfold zeros at this; omega⟩
  have hQ2 : (pad bs).length ≤ 140737488351232 + 200 := by have := pad_length bs; unfold zeros at this; omega
  have hsha : sha bs = outB (blocks Hs (pad bs) Q) := by unfold sha; rw [hQ, Nat.mul_div_cancel_left _ (by omega)]
  have hoffb : Off [hb] pa := fun x hx hm => hpoff x hx (List.mem_range.2 (by simp at hm; omega))
  refine ⟨fun m x w' => ∃ j : Nat, j ≤ Q ∧ x = 64 * (j : Int) ∧ m = Q - j ∧ Blk w' hb (u32 (blocks Hs (pad bs) j)) ∧ Tch [hb] w13 w', ⟨Q, 0, by omega, rfl, rfl, hH, Tch.refl _ _⟩, ?_⟩
  clear hH
  rintro m w17 x ⟨j, hjQ, rfl, rfl, hH, ht17⟩
  have hs17 := ht17.size
  have hbl : (blocks Hs (pad bs) j).length = 8 := blocks_length rfl
  by_cases hlt : j < Q
  · rw [bif_pos (by omega), wrap_i64 (n := 64 * (j : Int) + 64) (by omega) (by omega), show Int.toNat (64 * (j : Int) + 64) = 64 * j + 64 by omega, show Int.toNat (64 * (j : Int)) = 64 * j by omega]
    refine ⟨by omega, by omega, by omega, by omega, ?_⟩
    have hp17 := (hp.tch ht17 hoffb).sub (l := 64 * j) (hh := 64 * j + 64) (by omega) (by omega)
    rw [Nat.mul_one, ← List.map_drop, ← List.map_take, show 64 * j + 64 - 64 * j = 64 by omega, Nat.mul_one] at hp17
    rw [Nat.mul_one, show 64 * j + 64 - 64 * j = 64 by omega]
    refine (spread_c w17 _ _ _ _ hp17 (Nat.le_refl _) (fun x hx => hpB x (List.mem_of_mem_drop (List.mem_of_mem_take hx)))).mono ?_
    rintro e w20 ⟨rfl, ht20⟩
    refine ⟨_, rfl, ?_⟩
    have hws : ws (List.take 64 (List.drop (64 * j) (pad bs))) = ws (List.drop (64 * j) (pad bs)) := by
      unfold ws
      congr 1
      unfold words
      apply List.map_congr_left
      intro i hi
      rw [List.mem_range] at hi
      unfold word
      rw [getD_take (by omega), getD_take (by omega), getD_take (by omega), getD_take (by omega)]
    rw [hws]
    have hsl : (u32 (ws (List.drop (64 * j) (pad bs)))).length = 64 := by unfold ws; rw [List.length_map, sched_length, words_length]
    have hmix : mixS (blocks Hs (pad bs) j) (List.drop (64 * j) (pad bs)) = List.zipWith ad (blocks Hs (pad bs) j) (rounds (blocks Hs (pad bs) j) Ks (ws (List.drop (64 * j) (pad bs))) 64) := rfl
    have hbs : blocks Hs (pad bs) (j + 1) = mixS (blocks Hs (pad bs) j) (List.drop (64 * j) (pad bs)) := blocks_succ
    rw [hmix] at hbs
    generalize ws (List.drop (64 * j) (pad bs)) = z at *
    generalize blocks Hs (pad bs) j = hs at *
    replace hH := hH.tch ht20 (by simp)
    have ht2 := ht17.trans ht20 (by simp)
    have hs20 := ht20.size
    clear ht20
    rintro w22 rfl
    have hS : Blk _ _ (u32 (List.replicate 64 0)) := Blk.fresh w20 96 (zc96.trans (by simp))
    replace hH := hH.alloc (.cells (zc Tryd.prog 96).toArray 96)
    replace ht2 := ht2.alloc (.cells (zc Tryd.prog 96).toArray 96)
    refine ⟨by simpa using hsl, by simpa using ones_ints, hS.room 0 64 (by simp), ?_⟩
    rintro w23 rfl
    replace hS := hS.sets (vs := u32 z) (i := 0) (o := 0) (by rw [hsl]; simp)
    rw [splice_all (by rw [hsl]; simp)] at hS
    replace hH := hH.of_heap (heap_setCells (vs := u32 z) (i := 0) (b := w20.heap.size) (o := 0) (by omega))
    replace ht2 := Tch.setCells (b := w20.heap.size) (o := 0) (vs := u32 z) (i := 0) (.inr (by omega)) ht2
    change Blk (setCells (w20.alloc _) ⟨w20.heap.size, 0, none⟩ (u32 z).toArray.toList 0) _ _ at hS
    change Blk (setCells (w20.alloc _) ⟨w20.heap.size, 0, none⟩ (u32 z).toArray.toList 0) _ _ at hH
    change Tch [hb] w13 (setCells (w20.alloc _) ⟨w20.heap.size, 0, none⟩ (u32 z).toArray.toList 0) at ht2
    generalize setCells (w20.alloc (.cells (zc Tryd.prog 96).toArray 96)) ⟨w20.heap.size, 0, none⟩ (u32 z).toArray.toList 0 = W23 at *
    generalize hsb : w20.heap.size = sb at *
    have hsb2 := hS.lt
    refine ⟨u32 hs, by simpa using hbl, hH.cells, ?_⟩
    rintro w25 rfl
    generalize hvb : W23.heap.size = vb at *
    have hV : Blk _ _ (u32 (List.replicate 8 0)) := Blk.fresh W23 91 (zc91.trans (by simp))
    rw [hvb] at hV
    replace hH := hH.alloc (.cells (zc Tryd.prog 91).toArray 91)
    replace hS := hS.alloc (.cells (zc Tryd.prog 91).toArray 91)
    replace ht2 := ht2.alloc (.cells (zc Tryd.prog 91).toArray 91)
    refine ⟨by simpa using hbl, by simpa using ones_ints, hV.room 0 8 (by simp), ?_⟩
    rintro w26 rfl
    replace hV := hV.sets (vs := u32 hs) (i := 0) (o := 0) (by simp [hbl])
    rw [splice_all (by simp [hbl])] at hV
    replace hH := hH.of_heap (heap_setCells (vs := u32 hs) (i := 0) (b := vb) (o := 0) (by omega))
    replace hS := hS.of_heap (heap_setCells (vs := u32 hs) (i := 0) (b := vb) (o := 0) (by omega))
    replace ht2 := Tch.setCells (b := vb) (o := 0) (vs := u32 hs) (i := 0) (.inr (by omega)) ht2
    change Blk (setCells (W23.alloc _) ⟨vb, 0, none⟩ (u32 hs).toArray.toList 0) _ _ at hV
    change Blk (setCells (W23.alloc _) ⟨vb, 0, none⟩ (u32 hs).toArray.toList 0) _ _ at hS
    change Blk (setCells (W23.alloc _) ⟨vb, 0, none⟩ (u32 hs).toArray.toList 0) _ _ at hH
    change Tch [hb] w13 (setCells (W23.alloc _) ⟨vb, 0, none⟩ (u32 hs).toArray.toList 0) at ht2
    generalize setCells (W23.alloc (.cells (zc Tryd.prog 91).toArray 91)) ⟨vb, 0, none⟩ (u32 hs).toArray.toList 0 = W26 at *
    replace hK := hK.tch ht2 (by simp; omega)
    refine ⟨fun m x w' => ∃ k : Nat, k ≤ 64 ∧ x = k ∧ m = 64 - k ∧ Blk w' vb (u32 (rounds hs Ks z k)) ∧ Tch [vb] W26 w', ⟨64, 0, by omega, rfl, rfl, hV, Tch.refl _ _⟩, ?_⟩
    clear hV
    rintro m w29 x ⟨k, hk64, rfl, rfl, hV, ht3⟩
    have hlv := rounds_length (ks := Ks) (w := z) hbl k
    by_cases hlt2 : k < 64
    · rw [bif_pos (by omega)]
      have e1 : rounds hs Ks z (k + 1) = rnd (rounds hs Ks z k) (Ks.getD k 0) (z.getD k 0) := rfl
      generalize rounds hs Ks z k = v at *
      obtain ⟨a0, a1, a2, a3, a4, a5, a6, a7, rfl⟩ := eight hlv
      rintro w31 rfl
      simp only [add_mk, Nat.mul_one, Nat.zero_add, Int.toNat_natCast]
      have hV1 := hV.drew
      have hV2 := hV1.drew
      have hKc := (hK.tch ht3 (by simp; omega)).drew
      have hSc := (hS.tch ht3 (by simp; omega)).drew
      have ck : World.cell? w29.drew ⟨kb, k, none⟩ = some (.int .u32 (Ks.getD k 0)) := hKc.int (show k < Ks.length from hlt2)
      have cw : World.cell? w29.drew ⟨sb, k, none⟩ = some (.int .u32 (z.getD k 0)) := hSc.int (by have := hsl; rw [List.length_map] at this; omega)
      have c4 : World.cell? w29.drew ⟨vb, Int.toNat 4, none⟩ = some (.int .u32 a4) := hV1.cell 4
      have c5 : World.cell? w29.drew ⟨vb, Int.toNat 5, none⟩ = some (.int .u32 a5) := hV1.cell 5
      have c6 : World.cell? w29.drew ⟨vb, Int.toNat 6, none⟩ = some (.int .u32 a6) := hV1.cell 6
      have c7 : World.cell? w29.drew ⟨vb, Int.toNat 7, none⟩ = some (.int .u32 a7) := hV1.cell 7
      have b0 : World.cell? w29.drew.drew ⟨vb, Int.toNat 0, none⟩ = some (.int .u32 a0) := hV2.cell 0
      have b1 : World.cell? w29.drew.drew ⟨vb, Int.toNat 1, none⟩ = some (.int .u32 a1) := hV2.cell 1
      have b2 : World.cell? w29.drew.drew ⟨vb, Int.toNat 2, none⟩ = some (.int .u32 a2) := hV2.cell 2
      have b3 : World.cell? w29.drew.drew ⟨vb, Int.toNat 3, none⟩ = some (.int .u32 a3) := hV2.cell 3
      have b4 : World.cell? w29.drew.drew ⟨vb, Int.toNat 4, none⟩ = some (.int .u32 a4) := hV2.cell 4
      have b5 : World.cell? w29.drew.drew ⟨vb, Int.toNat 5, none⟩ = some (.int .u32 a5) := hV2.cell 5
      have b6 : World.cell? w29.drew.drew ⟨vb, Int.toNat 6, none⟩ = some (.int .u32 a6) := hV2.cell 6
      refine ⟨by omega, by omega, a7, c7, by omega, by omega, a4, c4, by omega, by omega, a4, c4, by omega, by omega, a4, c4, by omega, by omega, a4, c4, by omega, by omega, a5, c5, by omega, by omega, a4, c4, by omega, by omega, a6, c6, by omega, by omega, _, ck, by omega, by omega, _, cw, ?_⟩
      refine (turn_c _ _ _ (by omega) (by omega)).mono ?_
      rintro e w' ⟨rfl, rfl⟩
      refine ⟨_, rfl, ⟨_, cw, rfl, trivial⟩, ⟨_, ck, rfl, trivial⟩, ⟨_, c6, rfl, trivial⟩, ⟨_, c4, rfl, trivial⟩, ⟨_, c5, rfl, trivial⟩, ⟨_, c4, rfl, trivial⟩, ⟨_, c4, rfl, trivial⟩, ⟨_, c4, rfl, trivial⟩, ⟨_, c7, rfl, trivial⟩, ?_⟩
      refine (turn_c _ _ _ (by omega) (by omega)).mono ?_
      rintro e w' ⟨rfl, rfl⟩
      refine ⟨_, rfl, ⟨_, cw, rfl, trivial⟩, ⟨_, ck, rfl, trivial⟩, ⟨_, c6, rfl, trivial⟩, ⟨_, c4, rfl, trivial⟩, ⟨_, c5, rfl, trivial⟩, ⟨_, c4, rfl, trivial⟩, ⟨_, c4, rfl, trivial⟩, ⟨_, c7, rfl, trivial⟩, ?_⟩
      refine (turn_c _ _ _ (by omega) (by omega)).mono ?_
      rintro e w' ⟨rfl, rfl⟩
      refine ⟨_, rfl, ⟨_, cw, rfl, trivial⟩, ⟨_, ck, rfl, trivial⟩, ⟨_, c6, rfl, trivial⟩, ⟨_, c4, rfl, trivial⟩, ⟨_, c5, rfl, trivial⟩, ⟨_, c4, rfl, trivial⟩, ⟨_, c7, rfl, trivial⟩, ?_⟩
      rintro w75 rfl
      refine ⟨by omega, by omega, a0, b0, by omega, by omega, a0, b0, by omega, by omega, a0, b0, by omega, by omega, a0, b0, by omega, by omega, a1, b1, by omega, by omega, a0, b0, by omega, by omega, a2, b2, by omega, by omega, a1, b1, by omega, by omega, a2, b2, ?_⟩
      refine (turn_c _ _ _ (by omega) (by omega)).mono ?_
      rintro e w' ⟨rfl, rfl⟩
      refine ⟨_, rfl, ⟨_, b2, rfl, trivial⟩, ⟨_, b1, rfl, trivial⟩, ⟨_, b2, rfl, trivial⟩, ⟨_, b0, rfl, trivial⟩, ⟨_, b1, rfl, trivial⟩, ⟨_, b0, rfl, trivial⟩, ⟨_, b0, rfl, trivial⟩, ⟨_, b0, rfl, trivial⟩, ?_⟩
      refine (turn_c _ _ _ (by omega) (by omega)).mono ?_
      rintro e w' ⟨rfl, rfl⟩
      refine ⟨_, rfl, ⟨_, b2, rfl, trivial⟩, ⟨_, b1, rfl, trivial⟩, ⟨_, b2, rfl, trivial⟩, ⟨_, b0, rfl, trivial⟩, ⟨_, b1, rfl, trivial⟩, ⟨_, b0, rfl, trivial⟩, ⟨_, b0, rfl, trivial⟩, ?_⟩
      refine (turn_c _ _ _ (by omega) (by omega)).mono ?_
      rintro e w' ⟨rfl, rfl⟩
      refine ⟨_, rfl, ⟨_, b2, rfl, trivial⟩, ⟨_, b1, rfl, trivial⟩, ⟨_, b2, rfl, trivial⟩, ⟨_, b0, rfl, trivial⟩, ⟨_, b1, rfl, trivial⟩, ⟨_, b0, rfl, trivial⟩, ?_⟩
      refine ⟨by omega, by omega, a0, b0, by omega, by omega, a1, b1, by omega, by omega, a2, b2, by omega, by omega, a3, b3, by omega, by omega, a4, b4, by omega, by omega, a5, b5, by omega, by omega, a6, b6, ?_⟩
      refine ⟨u32 (rnd [a0, a1, a2, a3, a4, a5, a6, a7] (Ks.getD k 0) (z.getD k 0)), by rw [zc91]; rfl, rfl, by simpa using ones_ints, hV2.room 0 8 (by simp), ?_⟩
      rintro w123 rfl
      rw [wrap_i64 (by omega) (by omega)]
      refine ⟨64 - (k + 1), by omega, k + 1, by omega, rfl, rfl, ?_, Tch.setCells (.inl (by simp)) ht3.drew.drew⟩
      have hV3 := hV2.sets (vs := u32 (rnd [a0, a1, a2, a3, a4, a5, a6, a7] (Ks.getD k 0) (z.getD k 0))) (i := 0) (o := 0) (by simp [rnd])
      rw [splice_all (by simp [rnd])] at hV3
      rw [e1]
      exact hV3
    · have : k = 64 := by omega
      subst this
      rw [bif_neg (by omega)]
      clear hlt2 hk64
      replace hH := hH.tch ht3 (by simp; omega)
      have hne : hb ≠ vb := by omega
      have hsz3 := ht3.size
      have hWall : Tch [hb] w13 w29 := ht2.trans ht3 (by simp; omega)
      generalize rounds hs Ks z 64 = v at *
      have hhl : (List.zipWith ad hs v).length = 8 := by rw [List.length_zipWith, hbl, hlv]; rfl
      refine ⟨fun m x w' => ∃ (k : Nat) (l : List Int), k ≤ 8 ∧ x = k ∧ m = 8 - k ∧ Blk w' hb (u32 l) ∧ l.length = 8 ∧ l.take k = (List.zipWith ad hs v).take k ∧ (∀ i, k ≤ i → l.getD i 0 = hs.getD i 0) ∧ Tch [hb] w29 w', ⟨8, 0, hs, by omega, rfl, rfl, hH, hbl, rfl, fun _ _ => rfl, Tch.refl _ _⟩, ?_⟩
      clear hH
      rintro m w5 x6 ⟨k, l, hk8, rfl, rfl, hH, hll, htk, hz, ht4⟩
      replace hV := hV.tch ht4 (by simp; omega)
      by_cases hlt : k < 8
      · rw [bif_pos (by omega)]
        rintro w107 rfl
        have hV1 := hV.drew
        have hH1 := hH.drew
        simp only [optK, add_mk, Nat.mul_one, Nat.zero_add, Int.toNat_natCast]
        refine ⟨by omega, by omega, _, hH1.int (by omega), by omega, by omega, _, hV1.int (by omega), by omega, by omega, rfl, by rw [hH1.int (by omega)]; rfl, hH1.frozen _, ?_⟩
        rintro w112 rfl
        rw [wrap_i64 (by omega) (by omega)]
        refine ⟨8 - (k + 1), by omega, k + 1, _, by omega, rfl, rfl, hH1.setInt _ _, by simpa using hll, ?_, ?_, ht4.drew.setCell (.inl (by simp)) _⟩
        · have ez : (List.zipWith ad hs v)[k] = IntKind.wrap .u32 (hs.getD k 0 + v.getD k 0) := by
            simp [ad, List.getD_eq_getElem?_getD, List.getElem?_eq_getElem (show k < hs.length by omega), List.getElem?_eq_getElem (show k < v.length by omega)]
          rw [take_set_len (by omega), htk, hz k (Nat.le_refl _), List.take_succ_eq_append_getElem (by omega), ez]
        · intro i hi
          rw [getD_set_ne (by omega)]; exact hz i (by omega)
      · have : k = 8 := by omega
        subst this
        rw [bif_neg (by omega)]
        have : l = List.zipWith ad hs v := by rw [← List.take_of_length_le (l := l) (i := 8) (by omega), htk, List.take_of_length_le (by omega)]
        rw [this] at hH
        refine ⟨Q - (j + 1), by omega, j + 1, by omega, by omega, rfl, ?_, hWall.trans ht4 (by simp)⟩
        rw [hbs]
        exact hH
  · have : j = Q := by omega
    subst this
    rw [bif_neg (by omega)]
    replace hO := hO.tch ht17 (by simp; omega)
    replace ht := ht.trans ht17 (by simp; omega)
    generalize blocks Hs (pad bs) j = hs at *
    have hb17 := hH.lt
    rintro w48 rfl
    have hD : Blk _ _ (u8 (List.replicate 32 0)) := Blk.fresh w17 24 (zc24.trans (by simp))
    replace hO := hO.alloc (.cells (zc Tryd.prog 24).toArray 24)
    replace hH := hH.alloc (.cells (zc Tryd.prog 24).toArray 24)
    replace ht := ht.alloc (.cells (zc Tryd.prog 24).toArray 24)
    refine ⟨fun m x w' => ∃ (i : Nat) (l : List Int), i ≤ 32 ∧ x = i ∧ m = 32 - i ∧ Blk w' w17.heap.size (u8 l) ∧ l.length = 32 ∧ l.take i = (outB hs).take i ∧ Blk w' hb (u32 hs) ∧ Blk w' w.heap.size (u8 (List.replicate 32 0)) ∧ Tch [] w w', ⟨32, 0, _, by omega, rfl, rfl, hD, by simp, rfl, hH, hO, ht⟩, ?_⟩
    clear hD hO hH ht
    rintro m w51 x ⟨i, l, hi, rfl, rfl, hD, hll, htk, hH, hO, ht⟩
    by_cases hlt : i < 32
    · rw [bif_pos (by omega)]
      have e1 : Int.tdiv (i : Int) 4 = ((i / 4 : Nat) : Int) := tdiv_nat i 4
      have e2 : Int.tmod (i : Int) 4 = ((i % 4 : Nat) : Int) := tmod_nat i 4
      rw [e1, e2, wrap_i64 (n := ((i / 4 : Nat) : Int)) (by omega) (by omega), wrap_i64 (n := 8 * ((i % 4 : Nat) : Int)) (by omega) (by omega), wrap_i64 (n := 24 - 8 * ((i % 4 : Nat) : Int)) (by omega) (by omega)]
      simp only [add_mk, Nat.mul_one, Nat.zero_add, Int.toNat_natCast]
      refine ⟨by omega, by omega, by omega, _, hH.int (by omega), by omega, by omega, by omega, by omega, rfl, by rw [hD.int (by omega)]; rfl, hD.frozen _, ?_⟩
      rintro w54 rfl
      rw [wrap_i64 (by omega) (by omega)]
      refine ⟨32 - (i + 1), by omega, i + 1, _, by omega, rfl, rfl, hD.setInt _ _, by simpa using hll, ?_, hH.set_ne (by show _ ≠ w17.heap.size; omega) _, hO.set_ne (by show _ ≠ w17.heap.size; omega) _, ht.setCell (.inr (by show _ ≤ w17.heap.size; omega)) _⟩
      rw [take_set_len (by omega), htk, List.take_succ_eq_append_getElem (by rw [outB_length]; omega)]
      simp [outB]
    · have : i = 32 := by omega
      subst this
      rw [bif_neg (by omega)]
      have hl : l = sha bs := by rw [hsha, ← List.take_of_length_le (l := l) (i := 32) (by omega), htk, List.take_of_length_le (by rw [outB_length]; omega)]
      rw [hl] at hD
      have hsl : (u8 (sha bs)).length = 32 := by simp [hsha, outB_length]
      refine ⟨u8 (sha bs), hsl, hD.cells, by simpa using hsl, by simpa using ones_ints, hO.room 0 32 (by simp), ?_⟩
      rintro w57 rfl
      have hO2 := hO.sets (vs := u8 (sha bs)) (i := 0) (o := 0) (by rw [hsl]; simp)
      rw [splice_all (by rw [hsl]; simp)] at hO2
      exact ⟨u8 (sha bs), hsl, hO2.cells, rfl, Tch.setCells (.inr (Nat.le_refl _)) ht⟩
end Go.Proofs.YtjkbjppopdfggaaDoor.Sha
