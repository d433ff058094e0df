/-
  THE DIGEST, as the reference has it: the words of a block.
  Own work. No macro, syntax, notation, axiom.
-/
import Derived.Test.YtjkbjppopdfggaaDoorShaW4
namespace Go.Proofs.YtjkbjppopdfggaaDoor.Sha
open Go Den Fn
open Go.RowKit (Below)
set_option maxRecDepth 8000
set_option maxHeartbeats 1000000

theorem or_word {a b c d : Int} (ha : 0 ≤ a ∧ a < 256) (hb : 0 ≤ b ∧ b < 256) (hc : 0 ≤ c ∧ c < 256) (hd : 0 ≤ d ∧ d < 256) :
    bOr .u32 (bOr .u32 (bOr .u32 (shL .u32 (IntKind.wrap .u32 a) 24) (shL .u32 (IntKind.wrap .u32 b) 16)) (shL .u32 (IntKind.wrap .u32 c) 8)) (IntKind.wrap .u32 d) = ((a * 256 + b) * 256 + c) * 256 + d := by
  obtain ⟨ha, ha'⟩ := ha
  obtain ⟨hb, hb'⟩ := hb
  obtain ⟨hc, hc'⟩ := hc
  obtain ⟨hd, hd'⟩ := hd
  obtain ⟨a, rfl⟩ := Int.eq_ofNat_of_zero_le ha
  obtain ⟨b, rfl⟩ := Int.eq_ofNat_of_zero_le hb
  obtain ⟨c, rfl⟩ := Int.eq_ofNat_of_zero_le hc
  obtain ⟨d, rfl⟩ := Int.eq_ofNat_of_zero_le hd
  have e1 : shL .u32 (IntKind.wrap .u32 (a : Int)) 24 = ((a * 2 ^ 24 : Nat) : Int) := by
    rw [wrap_u32 (by omega) (by omega)]
    unfold shL
    rw [show min (Int.toNat 24) (IntKind.bits .u32) = 24 from rfl, wrap_u32 (by omega) (by omega)]
    omega
  have e2 : shL .u32 (IntKind.wrap .u32 (b : Int)) 16 = ((b * 2 ^ 16 : Nat) : Int) := by
    rw [wrap_u32 (by omega) (by omega)]
    unfold shL
    rw [show min (Int.toNat 16) (IntKind.bits .u32) = 16 from rfl, wrap_u32 (by omega) (by omega)]
    omega
  have e3 : shL .u32 (IntKind.wrap .u32 (c : Int)) 8 = ((c * 2 ^ 8 : Nat) : Int) := by
    rw [wrap_u32 (by omega) (by omega)]
    unfold shL
    rw [show min (Int.toNat 8) (IntKind.bits .u32) = 8 from rfl, wrap_u32 (by omega) (by omega)]
    omega
  rw [e1, e2, e3, bOr_u32 24 (by omega) (by omega), show a * 2 ^ 24 + b * 2 ^ 16 = (a * 2 ^ 8 + b) * 2 ^ 16 by omega, bOr_u32 16 (by omega) (by omega),
    show (a * 2 ^ 8 + b) * 2 ^ 16 + c * 2 ^ 8 = ((a * 2 ^ 8 + b) * 2 ^ 8 + c) * 2 ^ 8 by omega, wrap_u32 (by omega) (by omega), bOr_u32 8 (by omega) (by omega)]
  push_cast; omega

theorem spread_c (w : World) (bs : List Int) (a : Option Addr) (n c : Nat) (hr : RSl w 1 a n c (u8 bs)) (hn : 64 ≤ n) (hB : Bytes bs) :
    Calls Tryd.prog 48 #[.slice a n c] w fun e w' => e = .returned (.agg (u32 (ws bs)).toArray) ∧ Tch [] w w' := by
  have hcap := hr.cap
  have hbl := u8_len hr
  refine c48 _ _ _ ?_
  unfold d48
  rintro w1 rfl
  have hO : Blk _ _ (u32 (List.replicate 64 0)) := Blk.fresh w 96 (zc96.trans (by simp))
  have ht := (Tch.refl [] w).alloc (.cells (zc Tryd.prog 96).toArray 96)
  have hs1 := size_alloc w (.cells (zc Tryd.prog 96).toArray 96)
  rw [hs1]
  rintro w2 rfl
  have hW : Blk _ _ (u32 (List.replicate 64 0)) := Blk.fresh (w.alloc (.cells (zc Tryd.prog 96).toArray 96)) 96 (zc96.trans (by simp))
  rw [hs1] at hW
  replace hO := hO.alloc (.cells (zc Tryd.prog 96).toArray 96)
  replace ht := ht.alloc (.cells (zc Tryd.prog 96).toArray 96)
  generalize (w.alloc (.cells (zc Tryd.prog 96).toArray 96)).alloc (.cells (zc Tryd.prog 96).toArray 96) = W at *
  refine ⟨fun m x w' => ∃ (k : Nat) (l : List Int), k ≤ 16 ∧ x = k ∧ m = 16 - k ∧ Blk w' (w.heap.size + 1) (u32 l) ∧ l.length = 64 ∧ l.take k = (words bs).take k ∧ Blk w' w.heap.size (u32 (List.replicate 64 0)) ∧ Tch [] w w', ⟨16, 0, List.replicate 64 0, by omega, rfl, rfl, hW, by simp, by simp, hO, ht⟩, ?_⟩
  clear hO hW ht hs1
  rintro m w5 x6 ⟨k, l, hk16, rfl, rfl, hW, hll, htk, hO, ht⟩
  by_cases hlt : k < 16
  · rw [bif_pos (by omega)]
    rintro w7 rfl
    rw [wrap_i64 (n := 4 * (k : Int)) (by omega) (by omega), wrap_i64 (n := 4 * (k : Int) + 1) (by omega) (by omega), wrap_i64 (n := 4 * (k : Int) + 2) (by omega) (by omega), wrap_i64 (n := 4 * (k : Int) + 3) (by omega) (by omega),
      show Int.toNat (4 * (k : Int)) = 4 * k by omega, show Int.toNat (4 * (k : Int) + 1) = 4 * k + 1 by omega, show Int.toNat (4 * (k : Int) + 2) = 4 * k + 2 by omega, show Int.toNat (4 * (k : Int) + 3) = 4 * k + 3 by omega]
    have hr5 := hr.below ht.drew.below
    obtain ⟨b, o, rfl, g0⟩ := hr5.int (i := 4 * k) (by omega)
    obtain ⟨b', o', hh, g1⟩ := hr5.int (i := 4 * k + 1) (by omega)
    cases hh
    obtain ⟨b', o', hh, g2⟩ := hr5.int (i := 4 * k + 2) (by omega)
    cases hh
    obtain ⟨b', o', hh, g3⟩ := hr5.int (i := 4 * k + 3) (by omega)
    cases hh
    have hW1 := hW.drew
    simp only [optK, add_mk, Nat.mul_one, Nat.zero_add, Int.toNat_natCast]
    refine ⟨by omega, by omega, _, g0, by omega, by omega, by omega, _, g1, by omega, by omega, by omega, _, g2, by omega, by omega, by omega, _, g3, by omega, by omega, rfl, by rw [hW1.int (by omega)]; rfl, hW1.frozen _, ?_⟩
    rintro w16 rfl
    rw [or_word (byte_of hB _) (byte_of hB _) (byte_of hB _) (byte_of hB _), wrap_i64 (by omega) (by omega)]
    refine ⟨16 - (k + 1), by omega, k + 1, _, by omega, rfl, rfl, hW1.setInt _ _, by simpa using hll, ?_, hO.drew.set_ne (by show _ ≠ w.heap.size + 1; omega) _, ht.drew.setCell (.inr (by show _ ≤ w.heap.size + 1; omega)) _⟩
    rw [take_set_len (by omega), htk, List.take_succ_eq_append_getElem (by rw [words_length]; omega)]
    simp [words, word]
  · have : k = 16 := by omega
    subst this
    rw [bif_neg (by omega)]
    replace htk : l.take 16 = sched (words bs) 0 := by rw [htk]; exact List.take_of_length_le (by rw [words_length]; omega)
    refine ⟨fun m x w' => ∃ (k : Nat) (l : List Int), 16 ≤ k ∧ k ≤ 64 ∧ x = k ∧ m = 64 - k ∧ Blk w' (w.heap.size + 1) (u32 l) ∧ l.length = 64 ∧ l.take k = sched (words bs) (k - 16) ∧ Blk w' w.heap.size (u32 (List.replicate 64 0)) ∧ Tch [] w w', ⟨48, 16, l, by omega, by omega, rfl, rfl, hW, hll, htk, hO, ht⟩, ?_⟩
    clear hW hll htk ht l hO
    rintro m w5 x6 ⟨k, l, hk0, hk1, rfl, rfl, hW, hll, htk, hO, ht⟩
    by_cases hlt : k < 64
    · rw [bif_pos (by omega)]
      rw [wrap_i64 (n := (k : Int) - 2) (by omega) (by omega), wrap_i64 (n := (k : Int) - 15) (by omega) (by omega), wrap_i64 (n := (k : Int) - 7) (by omega) (by omega), wrap_i64 (n := (k : Int) - 16) (by omega) (by omega),
        show Int.toNat ((k : Int) - 2) = k - 2 by omega, show Int.toNat ((k : Int) - 15) = k - 15 by omega, show Int.toNat ((k : Int) - 7) = k - 7 by omega, show Int.toNat ((k : Int) - 16) = k - 16 by omega]
      simp only [add_mk, Nat.mul_one, Nat.zero_add, Int.toNat_natCast]
      have hW' := hW.drew
      refine ⟨by omega, by omega, _, hW.int (by omega), by omega, by omega, _, hW.int (by omega), ?_⟩
      refine (turn_c _ _ _ (by omega) (by omega)).mono ?_
      rintro e w' ⟨rfl, rfl⟩
      refine ⟨_, rfl, ?_⟩
      refine (turn_c _ _ _ (by omega) (by omega)).mono ?_
      rintro e w' ⟨rfl, rfl⟩
      refine ⟨_, rfl, by omega, ?_⟩
      refine (turn_c _ _ _ (by omega) (by omega)).mono ?_
      rintro e w' ⟨rfl, rfl⟩
      refine ⟨_, rfl, ?_⟩
      refine (turn_c _ _ _ (by omega) (by omega)).mono ?_
      rintro e w' ⟨rfl, rfl⟩
      refine ⟨_, rfl, by omega, ?_⟩
      rintro w36 rfl
      refine ⟨by omega, by omega, _, hW'.int (by omega), by omega, by omega, _, hW'.int (by omega), by omega, by omega, rfl, by rw [hW'.int (by omega)]; rfl, hW'.frozen _, ?_⟩
      rintro w39 rfl
      rw [wrap_i64 (by omega) (by omega)]
      refine ⟨64 - (k + 1), by omega, k + 1, _, by omega, by omega, rfl, rfl, hW'.setInt _ _, by simpa using hll, ?_, hO.drew.set_ne (by show _ ≠ w.heap.size + 1; omega) _, ht.drew.setCell (.inr (by show _ ≤ w.heap.size + 1; omega)) _⟩
      rw [take_set_len (by omega), htk, show k + 1 - 16 = (k - 16) + 1 by omega, sched]
      congr 2
      unfold nextW
      rw [sched_length, words_length, ← htk, show 16 + (k - 16) - 2 = k - 2 by omega, show 16 + (k - 16) - 7 = k - 7 by omega, show 16 + (k - 16) - 15 = k - 15 by omega, show 16 + (k - 16) - 16 = k - 16 by omega,
        getD_take (by omega), getD_take (by omega), getD_take (by omega), getD_take (by omega)]
      rfl
    · have : k = 64 := by omega
      subst this
      rw [bif_neg (by omega)]
      have hll' : l = ws bs := by rw [← List.take_of_length_le (l := l) (i := 64) (by omega), htk]; rfl
      clear htk hlt
      rw [hll'] at hW
      have hwl : (u32 (ws bs)).length = 64 := by rw [← hll']; simpa using hll
      generalize ws bs = z at *
      refine ⟨u32 z, hwl, hW.cells, by simpa using hwl, by simpa using ones_ints, hO.room 0 64 (by simp), ?_⟩
      rintro w42 rfl
      have hO2 := hO.sets (vs := u32 z) (i := 0) (o := 0) (by rw [hwl]; simp)
      rw [splice_all (by rw [hwl]; simp)] at hO2
      exact ⟨u32 z, hwl, hO2.cells, rfl, Tch.setCells (.inr (Nat.le_refl _)) ht⟩
end Go.Proofs.YtjkbjppopdfggaaDoor.Sha
