/-
  THE DIGEST: contracts of the small functions.
  THE DIGEST: one block of 64 bytes mixed in (proof.mix).
  THE DIGEST: proof.Sum.
  THE DIGEST, as the reference has it: the constants, the padded text, the words of a block.
  THE DIGEST, as the reference has it: the words of a block.
  THE DIGEST, as the reference has it: preluderef24.Sum.
  THE DIGEST: the law ProofSums answers true.
  Own work. No macro, syntax, notation, axiom.
-/
import Derived.Test.YtjkbjppopdfggaaDoorTruPk3
import Derived.Test.YtjkbjppopdfggaaDoorTruPk4
import Derived.DeepKeys
namespace Go.Proofs.YtjkbjppopdfggaaDoor.Sha
open Go Den Fn
open Go.RowKit (Below)
theorem zc96 : zc Tryd.prog 96 = List.replicate 64 (.int .u32 0) := by kernel_rfl
theorem zc91 : zc Tryd.prog 91 = List.replicate 8 (.int .u32 0) := by kernel_rfl
theorem zc24 : zc Tryd.prog 24 = List.replicate 32 (.int .u8 0) := by kernel_rfl
theorem zc5 : zc Tryd.prog 5 = [.int .u8 0] := by kernel_rfl

theorem rot_c (x n : Int) (w : World) (h0 : 0 ≤ n) (h1 : n ≤ 31) (hn : 1 ≤ n) :
    Calls Tryd.prog 85 #[.int .u32 x, .int .i64 (-n)] w fun e w' => e = .returned (.int .u32 (rotr x n)) ∧ w' = w := by
  refine c85 _ _ ?_
  have e1 : bAnd .u64 (IntKind.wrap .u64 (-n)) 31 = 32 - n := by
    have hh : n = 1 ∨ n = 2 ∨ n = 3 ∨ n = 4 ∨ n = 5 ∨ n = 6 ∨ n = 7 ∨ n = 8 ∨ n = 9 ∨ n = 10 ∨ n = 11 ∨ n = 12 ∨ n = 13 ∨ n = 14 ∨ n = 15 ∨ n = 16 ∨ n = 17 ∨ n = 18 ∨ n = 19 ∨ n = 20 ∨ n = 21 ∨ n = 22 ∨ n = 23 ∨ n = 24 ∨ n = 25 ∨ n = 26 ∨ n = 27 ∨ n = 28 ∨ n = 29 ∨ n = 30 ∨ n = 31 := by omega
    rcases hh with rfl | rfl | rfl | rfl | rfl | rfl | rfl | rfl | rfl | rfl | rfl | rfl | rfl | rfl | rfl | rfl | rfl | rfl | rfl | rfl | rfl | rfl | rfl | rfl | rfl | rfl | rfl | rfl | rfl | rfl | rfl <;> decide +kernel
  unfold d85
  rw [e1, wrap_u64 (by omega) (by omega), show (32 : Int) - (32 - n) = n by omega]
  refine ⟨by omega, by omega, ?_, rfl⟩
  rw [bOr_comm]; rfl
theorem turned_c (x n : Int) (w : World) (h1 : n ≤ 31) (hn : 1 ≤ n) :
    Calls Tryd.prog 70 #[.int .u32 x, .int .i64 n] w fun e w' => e = .returned (.int .u32 (rotr x n)) ∧ w' = w := by
  refine c70 _ _ ?_
  unfold d70
  rw [wrap_i64 (by omega) (by omega), Int.zero_sub]
  refine (rot_c x n w (by omega) h1 hn).mono ?_
  rintro e w' ⟨rfl, rfl⟩
  exact ⟨_, rfl, rfl, rfl⟩
theorem turn_c (x n : Int) (w : World) (h1 : n ≤ 31) (hn : 1 ≤ n) :
    Calls Tryd.prog 49 #[.int .u32 x, .int .u32 n] w fun e w' => e = .returned (.int .u32 (rotr x n)) ∧ w' = w := by
  refine c49 _ _ ?_
  unfold d49
  rw [wrap_u32 (by omega) (by omega)]
  exact ⟨by omega, by omega, rfl, rfl⟩
end Go.Proofs.YtjkbjppopdfggaaDoor.Sha
namespace Go.Proofs.YtjkbjppopdfggaaDoor.Sha
open Go Den Fn
open Go.RowKit (Below)
set_option maxRecDepth 8000
set_option maxHeartbeats 1000000
theorem take_set_len {l : List Int} {k : Nat} (h : k < l.length) (v : Int) : (l.set k v).take (k + 1) = l.take k ++ [v] := by
  rw [List.take_set, List.take_succ_eq_append_getElem h, List.set_append_right _ _ (by simp; omega)]
  simp [Nat.min_eq_left (Nat.le_of_lt h)]
theorem getD_take {l : List Int} {k i : Nat} (h : i < k) : (l.take k).getD i 0 = l.getD i 0 := by
  simp [List.getD_eq_getElem?_getD, List.getElem?_take, h]
theorem getD_set_self {l : List Int} {k : Nat} (h : k < l.length) (v : Int) : (l.set k v).getD k 0 = v := by
  simp [List.getD_eq_getElem?_getD, h]
theorem getD_set_ne {l : List Int} {k i : Nat} (h : k ≠ i) (v : Int) : (l.set k v).getD i 0 = l.getD i 0 := by
  simp [List.getD_eq_getElem?_getD, List.getElem?_set, h]
theorem take_set_lt {l : List Int} {k i : Nat} (h : k ≤ i) (v : Int) : (l.set i v).take k = l.take k := by
  rw [List.take_set, List.set_eq_of_length_le (by simp; omega)]

theorem getD_rep (n i : Nat) : (List.replicate n (0 : Int)).getD i 0 = 0 := by
  rw [List.getD_eq_getElem?_getD, List.getElem?_replicate]
  split <;> rfl
/-- A word of so many bytes so far. -/
def part (bs : List Int) (t : Nat) : Nat → Int
  | 0 => 0
  | n + 1 => part bs t n * 256 + bs.getD (4 * t + n) 0
theorem part_four (bs : List Int) (t : Nat) : part bs t 4 = word bs t := by simp [part, word]
theorem byte_of {bs : List Int} (h : Bytes bs) (i : Nat) : 0 ≤ bs.getD i 0 ∧ bs.getD i 0 < 256 := by
  rw [List.getD_eq_getElem?_getD]
  cases e : bs[i]? with
  | none => simp
  | some x => exact h x (List.mem_of_getElem? e)
theorem part_lt {bs : List Int} (h : Bytes bs) (t : Nat) : ∀ n, 0 ≤ part bs t n ∧ part bs t n < 256 ^ n
  | 0 => by simp [part]
  | n + 1 => by
    have h1 := part_lt h t n
    have h2 := byte_of h (4 * t + n)
    have h3 : (256 : Int) ^ (n + 1) = 256 ^ n * 256 := Int.pow_succ _ _
    unfold part
    rw [h3]
    omega
theorem or_byte {x b : Int} (h0 : 0 ≤ x) (h1 : x < 16777216) (h2 : 0 ≤ b) (h3 : b < 256) : bOr .u32 (shL .u32 x 8) (IntKind.wrap .u32 b) = x * 256 + b := by
  obtain ⟨x, rfl⟩ := Int.eq_ofNat_of_zero_le h0
  obtain ⟨b, rfl⟩ := Int.eq_ofNat_of_zero_le h2
  have e : shL .u32 (x : Int) 8 = ((x * 2 ^ 8 : Nat) : Int) := by
    unfold shL
    rw [show min (Int.toNat 8) (IntKind.bits .u32) = 8 from rfl, wrap_u32 (by omega) (by omega)]
    push_cast; rfl
  rw [e, wrap_u32 (by omega) (by omega), bOr_u32 8 (by omega) (by omega)]
  push_cast; omega

theorem eight {v : List Int} (h : v.length = 8) : ∃ a b c d e f g k, v = [a, b, c, d, e, f, g, k] := by
  match v, h with
  | [a, b, c, d, e, f, g, k], _ => exact ⟨a, b, c, d, e, f, g, k, rfl⟩
/-- The row of round numbers. -/
def KRow (w : World) : Prop := ∀ k : Nat, k < 64 → w.cell? ⟨1, k, none⟩ = some (.int .u32 (Ks.getD k 0))
theorem KRow.drew {w : World} (h : KRow w) : KRow w.drew := fun k hk => h k hk
theorem ks_tch {w w' : World} {s : List Nat} (h : Cells w ⟨1, 0, none⟩ (u32 Ks)) (ht : Tch s w w') (hn : 1 ∉ s) : Cells w' ⟨1, 0, none⟩ (u32 Ks) := fun i v hv => by
  have := h i v hv
  rw [add_mk] at this ⊢
  rw [World.cell?_of_block (w := w) (ht.block 1 (World.block_lt_of_cell? _ _ this) hn)]
  exact this
theorem krow {w : World} (h : Cells w ⟨1, 0, none⟩ (u32 Ks)) : KRow w := fun k hk => by
  have := h k _ (ints_get (show k < Ks.length from hk))
  rwa [add_mk, Nat.zero_add] at this
theorem mix_c (w : World) (hb : Nat) (hs bs : List Int) (a : Option Addr) (n c : Nat) (hh : Blk w hb (u32 hs)) (hl : hs.length = 8) (hr : RSl w 1 a n c (u8 bs)) (hn : 64 ≤ n) (hB : Bytes bs)
    (hk : Cells w ⟨1, 0, none⟩ (u32 Ks)) (h1 : 1 ≠ hb) :
    Calls Tryd.prog 44 #[.pointer (some ⟨hb, 0, none⟩), .slice a n c] w fun e w' =>
      e = .returned (.tuple #[]) ∧ Blk w' hb (u32 (mixS hs bs)) ∧ Tch [hb] w w' := by
  have hhlt := hh.lt
  have hcap := hr.cap
  refine c44 _ _ _ _ ?_
  unfold d44
  rintro w2 rfl
  refine ⟨fun m x w' => ∃ (k : Nat) (l : List Int), k ≤ 16 ∧ x = k ∧ m = 16 - k ∧ Blk w' w.heap.size (u32 l) ∧ l.length = 64 ∧ l.take k = (words bs).take k ∧ (∀ i, k ≤ i → l.getD i 0 = 0) ∧ Tch [] w w', ⟨16, 0, List.replicate 64 0, by omega, rfl, rfl, ?_, by simp, by simp, ?_, ?_⟩, ?_⟩
  · rw [zc96]
    have := Blk.new w (List.replicate 64 (.int .u32 0)).toArray 96
    simpa using this
  · exact fun i _ => getD_rep 64 i
  · exact (Tch.refl _ _).alloc _
  rintro m w5 x6 ⟨k, l, hk16, rfl, rfl, hW, hll, htk, hz, ht⟩
  by_cases hlt : k < 16
  · rw [bif_pos (by omega), wrap_i64 (n := 4 * (k : Int)) (by omega) (by omega), wrap_i64 (n := 4 * (k : Int) + 4) (by omega) (by omega),
      show Int.toNat (4 * (k : Int) + 4) = 4 * k + 4 by omega, show Int.toNat (4 * (k : Int)) = 4 * k by omega, show 4 * k + 4 - 4 * k = 4 by omega]
    refine ⟨by omega, by omega, by omega, by omega, ?_⟩
    refine ⟨fun m x w' => ∃ (j : Nat) (l : List Int), j ≤ 4 ∧ x = j ∧ m = 4 - j ∧ Blk w' w.heap.size (u32 l) ∧ l.length = 64 ∧ l.take k = (words bs).take k ∧ l.getD k 0 = part bs k j ∧ (∀ i, k + 1 ≤ i → l.getD i 0 = 0) ∧ Tch [] w w', ⟨4, 0, l, by omega, rfl, rfl, hW, hll, htk, hz k (Nat.le_refl _), fun i hi => hz i (by omega), ht⟩, ?_⟩
    rintro m w9 x10 ⟨j, l, hj4, rfl, rfl, hW, hll, htk, hp, hz, ht⟩
    by_cases hj : j < 4
    · rw [bif_pos (by omega)]
      have hr9 := (hr.below ht.below).sub (l := 4 * k) (hh := 4 * k + 4) (by omega) (by omega)
      rw [Nat.mul_one, show 4 * k + 4 - 4 * k = 4 by omega, Nat.mul_one] at hr9
      refine ⟨by omega, by omega, ?_⟩
      have hg : (List.take 4 (List.drop (4 * k) (u8 bs)))[j]? = some (.int .u8 (bs.getD (4 * k + j) 0)) := by
        have hbl := hr.len
        simp at hbl
        rw [List.getElem?_take, if_pos hj, List.getElem?_drop, ints_get (by omega)]
      obtain ⟨b, o, hab, hcell⟩ := hr9.get1 hg
      rw [Nat.mul_one, hab]
      refine ⟨bs.getD (4 * k + j) 0, ?_, by omega, by omega, l.getD k 0, ?_, by omega, by omega, by omega, rfl, ?_, ?_, ?_⟩
      · rw [add_mk, Int.toNat_natCast, Nat.mul_one]; exact hcell
      · rw [add_mk, Int.toNat_natCast, Nat.mul_one, Nat.zero_add]; exact hW.int (by omega)
      · rw [add_mk, Int.toNat_natCast, Nat.mul_one, Nat.zero_add, hW.int (by omega)]; rfl
      · rw [add_mk]; exact hW.frozen _
      rw [add_mk, Int.toNat_natCast, Nat.mul_one, Nat.zero_add]
      rintro w14 rfl
      have hpl := part_lt hB k j
      have hby := byte_of hB (4 * k + j)
      have hpow : (256 : Int) ^ j ≤ 16777216 := by
        have : j = 0 ∨ j = 1 ∨ j = 2 ∨ j = 3 := by omega
        rcases this with rfl | rfl | rfl | rfl <;> decide
      rw [hp, or_byte (by omega) (by omega) hby.1 hby.2, wrap_i64 (by omega) (by omega)]
      refine ⟨4 - (j + 1), by omega, j + 1, l.set k (part bs k (j + 1)), by omega, rfl, rfl, hW.setInt _ _, by simpa using hll, ?_, getD_set_self (by omega) _, fun i hi => ?_, ht.setCell (.inr (Nat.le_refl _)) _⟩
      · rw [take_set_lt (Nat.le_refl _), htk]
      · rw [getD_set_ne (by omega)]; exact hz i hi
    · have : j = 4 := by omega
      subst this
      rw [bif_neg (by omega), wrap_i64 (by omega) (by omega)]
      refine ⟨16 - (k + 1), by omega, k + 1, l, by omega, rfl, rfl, hW, hll, ?_, hz, ht⟩
      rw [List.take_succ_eq_append_getElem (by omega), htk, List.take_succ_eq_append_getElem (by rw [words_length]; omega)]
      congr 2
      have := hp
      rw [List.getD_eq_getElem?_getD, List.getElem?_eq_getElem (by omega), part_four] at this
      simpa [words] using this
  · have : k = 16 := by omega
    subst this
    rw [bif_neg (by omega)]
    clear hz
    replace htk : l.take 16 = sched (words bs) 0 := by rw [htk]; exact List.take_of_length_le (by rw [words_length]; omega)
    refine ⟨fun m x w' => ∃ (k : Nat) (l : List Int), 16 ≤ k ∧ k ≤ 64 ∧ x = k ∧ m = 64 - k ∧ Blk w' w.heap.size (u32 l) ∧ l.length = 64 ∧ l.take k = sched (words bs) (k - 16) ∧ Tch [] w w', ⟨48, 16, l, by omega, by omega, rfl, rfl, hW, hll, htk, ht⟩, ?_⟩
    clear hW hll htk ht l
    rintro m w5 x6 ⟨k, l, hk0, hk1, rfl, rfl, hW, hll, htk, ht⟩
    by_cases hlt : k < 64
    · rw [bif_pos (by omega)]
      rintro w21 rfl
      rw [wrap_i64 (n := (k : Int) - 2) (by omega) (by omega), wrap_i64 (n := (k : Int) - 15) (by omega) (by omega), wrap_i64 (n := (k : Int) - 7) (by omega) (by omega), wrap_i64 (n := (k : Int) - 16) (by omega) (by omega),
        show Int.toNat ((k : Int) - 2) = k - 2 by omega, show Int.toNat ((k : Int) - 15) = k - 15 by omega, show Int.toNat ((k : Int) - 7) = k - 7 by omega, show Int.toNat ((k : Int) - 16) = k - 16 by omega]
      simp only [add_mk, Nat.mul_one, Nat.zero_add, Int.toNat_natCast]
      have hW' := hW.drew.drew
      refine ⟨by omega, by omega, _, hW.drew.int (by omega), by omega, by omega, _, hW.drew.int (by omega), ?_⟩
      rintro w24 rfl
      refine ⟨by omega, by omega, by omega, _, hW'.int (by omega), by omega, by omega, by omega, _, hW'.int (by omega), ?_⟩
      refine (turned_c _ _ _ (by omega) (by omega)).mono ?_
      rintro e w' ⟨rfl, rfl⟩
      refine ⟨_, rfl, ⟨_, hW'.int (by omega), rfl, trivial⟩, ⟨_, hW'.int (by omega), rfl, trivial⟩, ?_⟩
      refine (turned_c _ _ _ (by omega) (by omega)).mono ?_
      rintro e w' ⟨rfl, rfl⟩
      refine ⟨_, rfl, ⟨_, hW'.int (by omega), rfl, trivial⟩, ⟨_, hW'.int (by omega), rfl, trivial⟩, ?_⟩
      refine (turned_c _ _ _ (by omega) (by omega)).mono ?_
      rintro e w' ⟨rfl, rfl⟩
      refine ⟨_, rfl, ⟨_, hW'.int (by omega), rfl, trivial⟩, ⟨_, hW'.int (by omega), rfl, trivial⟩, ?_⟩
      refine (turned_c _ _ _ (by omega) (by omega)).mono ?_
      rintro e w' ⟨rfl, rfl⟩
      refine ⟨_, rfl, ⟨_, hW'.int (by omega), rfl, trivial⟩, ⟨_, hW'.int (by omega), rfl, trivial⟩, ?_⟩
      refine ⟨by omega, by omega, rfl, by rw [hW'.int (by omega)]; rfl, hW'.frozen _, ?_⟩
      rintro w47 rfl
      rw [wrap_i64 (by omega) (by omega)]
      refine ⟨64 - (k + 1), by omega, k + 1, _, by omega, by omega, rfl, rfl, hW'.setInt _ _, by simpa using hll, ?_, ht.drew.drew.setCell (.inr (Nat.le_refl _)) _⟩
      rw [take_set_len (by omega), htk, show k + 1 - 16 = (k - 16) + 1 by omega, sched]
      congr 2
      unfold nextW
      rw [sched_length, words_length, ← htk, show 16 + (k - 16) - 2 = k - 2 by omega, show 16 + (k - 16) - 7 = k - 7 by omega, show 16 + (k - 16) - 15 = k - 15 by omega, show 16 + (k - 16) - 16 = k - 16 by omega,
        getD_take (by omega), getD_take (by omega), getD_take (by omega), getD_take (by omega)]
      rfl
    · have : k = 64 := by omega
      subst this
      rw [bif_neg (by omega)]
      have hll' : l = ws bs := by rw [← List.take_of_length_le (l := l) (i := 64) (by omega), htk]; rfl
      clear htk hlt
      rw [hll'] at hW
      have hh5 : Blk w5 hb (u32 hs) := hh.tch ht (by simp)
      refine ⟨u32 hs, by simp [hl], hh5.cells, ?_⟩
      rintro w51 rfl
      have hV0 : Blk (w5.alloc (.cells (zc Tryd.prog 91).toArray 91)) w5.heap.size (u32 (List.replicate 8 0)) := by
        rw [zc91]
        have := Blk.new w5 (List.replicate 8 (.int .u32 0)).toArray 91
        simpa using this
      have hW1 := hW.alloc (.cells (zc Tryd.prog 91).toArray 91)
      have ht1 := ht.alloc (.cells (zc Tryd.prog 91).toArray 91)
      have hsz := ht.size
      have hWlt := hW.lt
      refine ⟨by simp [hl], by simpa using ones_ints, hV0.room 0 8 (by simp), ?_⟩
      rintro w52 rfl
      have hV1 := hV0.sets (vs := u32 hs) (i := 0) (o := 0) (by simp [hl])
      rw [splice_all (by simp [hl])] at hV1
      have hW2 : Blk (setCells (w5.alloc (.cells (zc Tryd.prog 91).toArray 91)) ⟨w5.heap.size, 0, none⟩ (u32 hs) 0) w.heap.size (u32 (ws bs)) := hW1.of_heap (heap_setCells (by omega))
      have ht2 : Tch [] w (setCells (w5.alloc (.cells (zc Tryd.prog 91).toArray 91)) ⟨w5.heap.size, 0, none⟩ (u32 hs) 0) := Tch.setCells (.inr hsz) ht1
      have hW2' := hW2.tch (Tch.refl [] _) (by simp)
      generalize setCells (w5.alloc (.cells (zc Tryd.prog 91).toArray 91)) ⟨w5.heap.size, 0, none⟩ (u32 hs) 0 = W at *
      generalize hvb : w5.heap.size = vb at *
      clear hV0 hW1 ht1 hW2' hW ht hh5
      refine ⟨fun m x w' => ∃ k : Nat, k ≤ 64 ∧ x = k ∧ m = 64 - k ∧ Blk w' vb (u32 (rounds hs Ks (ws bs) k)) ∧ Blk w' w.heap.size (u32 (ws bs)) ∧ Tch [] w w', ⟨64, 0, by omega, rfl, rfl, hV1, hW2, ht2⟩, ?_⟩
      clear hV1 hW2 ht2 W
      rintro m w55 x56 ⟨k, hk64, rfl, rfl, hV, hW, ht⟩
      have hKc := KRow.drew (KRow.drew (krow (ks_tch hk ht (by simp))))
      have hlv := rounds_length (ks := Ks) (w := ws bs) hl k
      by_cases hlt : k < 64
      · rw [bif_pos (by omega)]
        generalize hv : rounds hs Ks (ws bs) k = v at *
        obtain ⟨a0, a1, a2, a3, a4, a5, a6, a7, rfl⟩ := eight hlv
        rintro w57 rfl
        simp only [add_mk, Nat.mul_one, Nat.zero_add, Int.toNat_natCast]
        have hV1 := hV.drew
        have hV2 := hV1.drew
        have hW2 := hW.drew.drew
        have c7 : World.cell? w55.drew.drew ⟨vb, Int.toNat 7, none⟩ = some (.int .u32 a7) := hV2.cell 7
        have cw : World.cell? w55.drew.drew ⟨w.heap.size, k, none⟩ = some (.int .u32 ((ws bs).getD k 0)) := hW2.int (by unfold ws; rw [sched_length, words_length]; omega)
        have ck : World.cell? w55.drew.drew ⟨1, k, none⟩ = some (.int .u32 (Ks.getD k 0)) := hKc k hlt
        refine ⟨by omega, by omega, a0, hV1.cell 0, by omega, by omega, a1, hV1.cell 1, by omega, by omega, a2, hV1.cell 2, by omega, by omega, a4, hV1.cell 4, by omega, by omega, a5, hV1.cell 5, by omega, by omega, a6, hV1.cell 6, ?_⟩
        rintro w64 rfl
        refine ⟨by omega, by omega, a7, c7, by omega, by omega, Ks.getD k 0, ck, by omega, by omega, (ws bs).getD k 0, cw, ?_⟩
        refine (turned_c _ _ _ (by omega) (by omega)).mono ?_
        rintro e w' ⟨rfl, rfl⟩
        refine ⟨_, rfl, ⟨_, cw, rfl, trivial⟩, ⟨_, ck, rfl, trivial⟩, ⟨_, c7, rfl, trivial⟩, ?_⟩
        refine (turned_c _ _ _ (by omega) (by omega)).mono ?_
        rintro e w' ⟨rfl, rfl⟩
        refine ⟨_, rfl, ⟨_, cw, rfl, trivial⟩, ⟨_, ck, rfl, trivial⟩, ⟨_, c7, rfl, trivial⟩, ?_⟩
        refine (turned_c _ _ _ (by omega) (by omega)).mono ?_
        rintro e w' ⟨rfl, rfl⟩
        refine ⟨_, rfl, ⟨_, cw, rfl, trivial⟩, ⟨_, ck, rfl, trivial⟩, ⟨_, c7, rfl, trivial⟩, ?_⟩
        refine (turned_c _ _ _ (by omega) (by omega)).mono ?_
        rintro e w' ⟨rfl, rfl⟩
        refine ⟨_, rfl, ?_⟩
        refine (turned_c _ _ _ (by omega) (by omega)).mono ?_
        rintro e w' ⟨rfl, rfl⟩
        refine ⟨_, rfl, ?_⟩
        refine (turned_c _ _ _ (by omega) (by omega)).mono ?_
        rintro e w' ⟨rfl, rfl⟩
        refine ⟨_, rfl, ?_⟩
        rintro w95 rfl
        refine ⟨by omega, by omega, by omega, by omega, ?_⟩
        refine cpy (g := vb) (o := 1) (dn := 7) (b := some ⟨vb, 0, none⟩) (sn := 7) (e := 90) (bytes := 4) (by kernel_rfl) hV2.drew ⟨by omega, rfl, ?_, .inr ⟨vb, 0, rfl, (hV2.drew.cells_at 0 7)⟩⟩ (by simp) ?_
        · exact fun u hu => ones_ints u (List.mem_of_mem_take hu)
        intro w97 hV3 ht3 _
        replace hV3 : Blk w97 vb (u32 [a0, a0, a1, a2, a3, a4, a5, a6]) := hV3
        refine ⟨_, rfl, by omega, by omega, a3, hV3.cell 4, by omega, by omega, rfl, by rw [show Int.toNat 4 = 4 from rfl, hV3.cell]; rfl, hV3.frozen _, ?_⟩
        rintro w100 rfl
        have hV4 := hV3.setInt 4 (ad a3 (t1 a4 a5 a6 a7 (Ks.getD k 0) ((ws bs).getD k 0)))
        refine ⟨by omega, by omega, rfl, by rw [show Int.toNat 0 = 0 from rfl]; erw [hV4.cell]; rfl, hV4.frozen _, ?_⟩
        rintro w101 rfl
        rw [wrap_i64 (by omega) (by omega)]
        have hne : vb ≠ w.heap.size := by omega
        refine ⟨64 - (k + 1), by omega, k + 1, by omega, rfl, rfl, ?_, ?_, ?_⟩
        · have hV5 := hV4.setInt 0 (ad (t1 a4 a5 a6 a7 (Ks.getD k 0) ((ws bs).getD k 0)) (t2 a0 a1 a2))
          rw [rounds, hv]
          exact hV5
        · refine Blk.set_ne (Blk.set_ne (hW2.drew.tch ht3 (by simp; omega)) ?_ _) ?_ _ <;> exact Ne.symm hne
        · exact Tch.setCell (Tch.setCell (ht.drew.drew.drew.trans ht3 (by simp; omega)) (.inr (by show _ ≤ vb; omega)) _) (.inr (by show _ ≤ vb; omega)) _
      · have : k = 64 := by omega
        subst this
        rw [bif_neg (by omega)]
        clear hlt
        refine ⟨fun m x w' => ∃ (k : Nat) (l : List Int), k ≤ 8 ∧ x = k ∧ m = 8 - k ∧ Blk w' vb (u32 (rounds hs Ks (ws bs) 64)) ∧ Blk w' hb (u32 l) ∧ l.length = 8 ∧ l.take k = (mixS hs bs).take k ∧ (∀ i, k ≤ i → l.getD i 0 = hs.getD i 0) ∧ Tch [hb] w w', ⟨8, 0, hs, by omega, rfl, rfl, hV, hh.tch ht (by simp), hl, rfl, fun _ _ => rfl, ht.weaken (by simp)⟩, ?_⟩
        clear hV hW ht
        rintro m w5 x6 ⟨k, l, hk8, rfl, rfl, hV, hH, hll, htk, hz, ht⟩
        have hml := mixS_length (bs := bs) hl
        by_cases hlt : k < 8
        · rw [bif_pos (by omega)]
          rintro w107 rfl
          have hV1 := hV.drew
          have hH1 := hH.drew
          simp only [optK, add_mk, Nat.mul_one, Nat.zero_add, Int.toNat_natCast]
          refine ⟨by omega, by omega, _, hH1.int (by omega), by omega, by omega, _, hV1.int (by omega), by omega, by omega, rfl, by rw [hH1.int (by omega)]; rfl, hH1.frozen _, ?_⟩
          rintro w112 rfl
          rw [wrap_i64 (by omega) (by omega)]
          refine ⟨8 - (k + 1), by omega, k + 1, _, by omega, rfl, rfl, hV1.set_ne (by show vb ≠ hb; omega) _, hH1.setInt _ _, by simpa using hll, ?_, ?_, ht.drew.setCell (.inl (by simp)) _⟩
          · rw [take_set_len (by omega), htk, hz k (Nat.le_refl _), List.take_succ_eq_append_getElem (by omega)]
            congr 2
            simp [mixS, ad, List.getD_eq_getElem?_getD, List.getElem?_eq_getElem (show k < hs.length by omega), List.getElem?_eq_getElem (show k < (rounds hs Ks (ws bs) 64).length by omega)]
          · intro i hi
            rw [getD_set_ne (by omega)]; exact hz i (by omega)
        · have : k = 8 := by omega
          subst this
          rw [bif_neg (by omega)]
          have : l = mixS hs bs := by rw [← List.take_of_length_le (l := l) (i := 8) (by omega), htk, List.take_of_length_le (by omega)]
          rw [this] at hH
          exact ⟨rfl, hH, ht⟩
end Go.Proofs.YtjkbjppopdfggaaDoor.Sha
namespace Go.Proofs.YtjkbjppopdfggaaDoor.Sha
open Go Den Fn
open Go.RowKit (Below)
set_option maxRecDepth 8000
set_option maxHeartbeats 1000000
theorem getD_append {a b : List Int} {i : Nat} (h : i < a.length) : (a ++ b).getD i 0 = a.getD i 0 := by
  simp [List.getD_eq_getElem?_getD, List.getElem?_append, h]
theorem mixS_append {h a b : List Int} (hl : 64 ≤ a.length) : mixS h (a ++ b) = mixS h a := by
  have : words (a ++ b) = words a := by
    unfold words
    apply List.map_congr_left
    intro i hi
    rw [List.mem_range] at hi
    unfold word
    rw [getD_append (by omega), getD_append (by omega), getD_append (by omega), getD_append (by omega)]
  unfold mixS ws
  rw [this]
theorem blocks_succ : ∀ {n : Nat} {h bs : List Int}, blocks h bs (n + 1) = mixS (blocks h bs n) (bs.drop (64 * n))
  | 0, _, _ => rfl
  | n + 1, h, bs => by
    rw [blocks, blocks_succ, List.drop_drop]
    rw [show 64 + 64 * n = 64 * (n + 1) by omega]
    rfl
theorem lenBytes_length (n : Nat) : (lenBytes n).length = 8 := by simp [lenBytes]
theorem pad_length (bs : List Int) : (pad bs).length = bs.length + 1 + zeros bs.length + 8 := by
  simp [pad, lenBytes_length]; omega
theorem lenBytes_take {n i : Nat} (h : i < 8) : (lenBytes n).take (i + 1) = (lenBytes n).take i ++ [IntKind.wrap .u8 (shR .u64 (IntKind.wrap .u64 (IntKind.wrap .u64 (n : Int) * 8)) (56 - 8 * (i : Int)))] := by
  rw [List.take_succ_eq_append_getElem (by rw [lenBytes_length]; exact h)]
  simp [lenBytes]
theorem outB_length (h : List Int) : (outB h).length = 32 := by simp [outB]
theorem wrap_u8_byte (x : Int) : 0 ≤ IntKind.wrap .u8 x ∧ IntKind.wrap .u8 x < 256 := by rw [wrap_u8_eq]; omega
theorem pad_bytes {bs : List Int} (h : Bytes bs) : Bytes (pad bs) := by
  intro x hx
  simp only [pad, List.mem_append, List.mem_singleton, List.mem_replicate] at hx
  rcases hx with ((hx | rfl) | ⟨_, rfl⟩) | hx
  · exact h x hx
  · omega
  · omega
  · simp only [lenBytes, List.mem_map] at hx
    obtain ⟨i, _, rfl⟩ := hx
    exact wrap_u8_byte _
theorem drop_bytes {bs : List Int} (h : Bytes bs) (n : Nat) : Bytes (bs.drop n) := fun x hx => h x (List.mem_of_mem_drop hx)
theorem u8_len {w : World} {a : Option Addr} {n c : Nat} {bs : List Int} (h : RSl w 1 a n c (u8 bs)) : bs.length = n := by have := h.len; simpa using this

theorem sum_c (w : World) (bs : List Int) (a : Option Addr) (n c : Nat) (hr : RSl w 1 a n c (u8 bs)) (hB : Bytes bs)
    (hk : Cells w ⟨1, 0, none⟩ (u32 Ks)) (h0 : Cells w ⟨0, 0, none⟩ (u32 Hs)) :
    Calls Tryd.prog 12 #[.slice a n c] w fun e w' =>
      e = .returned (.agg (u8 (sha bs)).toArray) ∧ Tch [] w w' := by
  have hcap := hr.cap
  have hn := u8_len hr
  have hw1 : 1 < w.heap.size := by
    have := hk 0 _ rfl
    rw [add_mk] at this
    exact World.block_lt_of_cell? _ _ this
  refine c12 _ _ _ ?_
  unfold d12
  rintro w1 rfl
  have hO : Blk _ _ (u8 (List.replicate 32 0)) := Blk.fresh w 24 (zc24.trans (by simp))
  have ht := (Tch.refl [] w).alloc (.cells (zc Tryd.prog 24).toArray 24)
  have hs1 := size_alloc w (.cells (zc Tryd.prog 24).toArray 24)
  rw [hs1]
  refine ⟨u32 Hs, rfl, fun i v hv => ?_, ?_⟩
  · have := h0 i v hv
    rw [add_mk] at this ⊢
    rw [World.cell?_of_block (w := w) (ht.block 0 (World.block_lt_of_cell? _ _ this) (by simp))]
    exact this
  rintro w3 rfl
  have hH : Blk _ _ (u32 (List.replicate 8 0)) := Blk.fresh (w.alloc (.cells (zc Tryd.prog 24).toArray 24)) 91 (zc91.trans (by simp))
  rw [hs1] at hH
  replace hO := hO.alloc (.cells (zc Tryd.prog 91).toArray 91)
  replace ht := ht.alloc (.cells (zc Tryd.prog 91).toArray 91)
  refine ⟨rfl, by simpa using ones_ints, hH.room 0 8 (by simp), ?_⟩
  rintro w4 rfl
  replace hH := hH.sets (vs := u32 Hs) (i := 0) (o := 0) (by simp [Hs])
  rw [splice_all (by simp [Hs])] at hH
  replace ht : Tch [] w (setCells ((w.alloc (.cells (zc Tryd.prog 24).toArray 24)).alloc (.cells (zc Tryd.prog 91).toArray 91)) ⟨w.heap.size + 1, 0, none⟩ (u32 Hs) 0) := Tch.setCells (.inr (by omega)) ht
  replace hO := hO.of_heap (heap_setCells (vs := u32 Hs) (i := 0) (b := w.heap.size + 1) (o := 0) (by omega))
  generalize setCells ((w.alloc (.cells (zc Tryd.prog 24).toArray 24)).alloc (.cells (zc Tryd.prog 91).toArray 91)) ⟨w.heap.size + 1, 0, none⟩ (u32 Hs) 0 = W at *
  have hpl := pad_length bs
  have hpB := pad_bytes hB
  have hdr : ∀ k, 64 * k ≤ n → (pad bs).drop (64 * k) = bs.drop (64 * k) ++ ([128] ++ List.replicate (zeros bs.length) 0 ++ lenBytes bs.length) := by
    intro k hk
    unfold pad
    rw [List.append_assoc, List.append_assoc, List.drop_append_of_le_length (by omega), List.append_assoc]
  refine ⟨fun m a n' c' w' => ∃ k : Nat, 64 * k ≤ n ∧ n' = n - 64 * k ∧ m = n' ∧ RSl w 1 a n' c' (u8 (bs.drop (64 * k))) ∧ Blk w' (w.heap.size + 1) (u32 (blocks Hs (pad bs) k)) ∧ Blk w' w.heap.size (u8 (List.replicate 32 0)) ∧ Tch [] w w', ⟨n, 0, by omega, by omega, rfl, by simpa using hr, hH, hO, ht⟩, ?_⟩
  clear hH hO ht hs1
  rintro m w7 a' n' c' ⟨k, hkn, rfl, rfl, hr', hH, hO, ht⟩
  have hcap' := hr'.cap
  by_cases hlt : 64 ≤ n - 64 * k
  · rw [bif_pos (by omega)]
    refine (mix_c w7 (w.heap.size + 1) _ _ a' _ c' hH (blocks_length rfl) (hr'.below ht.below) hlt (drop_bytes hB _) (ks_tch hk ht (by simp)) (by omega)).mono ?_
    rintro e w' ⟨rfl, hH', ht'⟩
    refine ⟨rfl, by omega, by omega, n - 64 * (k + 1), by omega, k + 1, by omega, by show n - 64 * k - 64 = _; omega, rfl, ?_, ?_, hO.tch ht' (by simp), ht.trans ht' (by simp)⟩
    · have := hr'.sub (l := 64) (hh := n - 64 * k) (by omega) (Nat.le_refl _)
      rw [← List.map_drop, ← List.map_take, List.drop_drop, List.take_of_length_le (by simp; omega)] at this
      rw [show 64 * (k + 1) = 64 * k + 64 * 1 by omega]
      exact this
    · rw [blocks_succ, hdr k hkn, mixS_append (by simp; omega)]
      exact hH'
  · rw [bif_neg (by omega)]
    have hlen : (bs.drop (64 * k)).length = n - 64 * k := by simp; omega
    have hr64 : n - 64 * k < 64 := by omega
    have hsz := ht.size
    have hb2 := hH.lt
    have hz1 : zeros bs.length = (119 - (n - 64 * k)) % 64 := by unfold zeros; omega
    have hz2 : zeros bs.length < 64 := Nat.mod_lt _ (by omega)
    have hT : slT Tryd.prog 22 5 1 1 = true := by kernel_rfl
    have hoff : ∀ i ∈ [w.heap.size, w.heap.size + 1], i < w.heap.size + 2 := by simp
    refine app_own hT (own_nil w7 (w.heap.size + 2) 5 1) (hr'.below ht.below) (by omega) (by omega) (by omega) ?_
    rw [Nat.zero_add, List.nil_append]
    intro b c1 w13 hown hg
    replace ht := ht.grown hg (by intro k hk; cases hk)
    replace hH := hH.of_heap (hg.block _ hH.lt (by intro h; cases h))
    replace hO := hO.of_heap (hg.block _ hO.lt (by intro h; cases h))
    refine ⟨b, _, c1, rfl, [.int .u8 128], by rw [zc5]; rfl, ?_⟩
    rintro w16 rfl
    have hn1 : RSl (w13.alloc (.cells [Value.int .u8 128].toArray 5)) 1 (some ⟨w13.heap.size, 0, none⟩) 1 1 (u8 [128]) := (Blk.fresh w13 (cs := [Value.int .u8 128]) 5 rfl).rsl rfl (ones_ints (l := [128]))
    have hsz13 := ht.size
    have hb13 := hH.lt
    refine app_own hT (own_alloc hown _) hn1 (by rw [size_alloc]; omega) (by omega) (by omega) ?_
    replace ht := ht.alloc (.cells [Value.int .u8 128].toArray 5)
    replace hH := hH.alloc (.cells [Value.int .u8 128].toArray 5)
    replace hO := hO.alloc (.cells [Value.int .u8 128].toArray 5)
    intro b2 c2 w18 hown2 hg2
    replace ht := ht.grown hg2 (fun k hk => .inr (by have := (own_lt hown hk).1; omega))
    replace hH := hH.of_heap (hg2.block _ hH.lt (by intro h; have := (own_lt hown h.symm).1; omega))
    replace hO := hO.of_heap (hg2.block _ hO.lt (by intro h; have := (own_lt hown h.symm).1; omega))
    refine ⟨b2, _, c2, rfl, ?_⟩
    clear hg hg2 hown hn1 hsz13 hb13 hlt hsz hb2
    refine ⟨fun m a' n' c' w' => ∃ j : Nat, j ≤ zeros bs.length ∧ n' = n - 64 * k + 1 + j ∧ m = zeros bs.length - j ∧ w'.ownsRow (w.heap.size + 2) 5 1 (.slice a' n' c') n' (u8 (bs.drop (64 * k) ++ [128] ++ List.replicate j 0)) ∧ Blk w' (w.heap.size + 1) (u32 (blocks Hs (pad bs) k)) ∧ Blk w' w.heap.size (u8 (List.replicate 32 0)) ∧ Tch [] w w', ⟨zeros bs.length, 0, by omega, rfl, by omega, by simpa using hown2, hH, hO, ht⟩, ?_⟩
    clear hown2 hH hO ht
    rintro m w22 a2 n2 c2 ⟨j, hjz, rfl, rfl, hown, hH, hO, ht⟩
    have hsz := ht.size
    have hb22 := hH.lt
    refine ⟨by omega, ?_⟩
    rw [show (64 : Int) = ((64 : Nat) : Int) from rfl, tmod_nat]
    by_cases hlt : j < zeros bs.length
    · rw [bif_nneg (by omega)]
      refine ⟨[.int .u8 0], by rw [zc5]; rfl, ?_⟩
      rintro w25 rfl
      have hn1 : RSl (w22.alloc (.cells [Value.int .u8 0].toArray 5)) 1 (some ⟨w22.heap.size, 0, none⟩) 1 1 (u8 [0]) := (Blk.fresh w22 (cs := [Value.int .u8 0]) 5 rfl).rsl rfl (ones_ints (l := [0]))
      refine app_own hT (own_alloc hown _) hn1 (by rw [size_alloc]; omega) (by omega) (by omega) ?_
      intro b3 c3 w27 hown3 hg
      refine ⟨b3, _, c3, rfl, zeros bs.length - (j + 1), by omega, j + 1, by omega, rfl, rfl, ?_, (hH.alloc _).of_heap (hg.block _ (hH.alloc _).lt (by intro h; have := (own_lt hown h.symm).1; omega)), (hO.alloc _).of_heap (hg.block _ (hO.alloc _).lt (by intro h; have := (own_lt hown h.symm).1; omega)),
        (ht.alloc _).grown hg (fun k hk => .inr (by have := (own_lt hown hk).1; omega))⟩
      rw [← List.map_append, List.append_assoc _ _ [0]] at hown3
      rw [List.replicate_succ']
      exact hown3
    · have : j = zeros bs.length := by omega
      rw [bif_npos (by omega)]
      subst this
      refine ⟨fun m a' n' c' x w' => ∃ j : Nat, j ≤ 8 ∧ x = 56 - 8 * (j : Int) ∧ n' = n - 64 * k + 1 + zeros bs.length + j ∧ m = 8 - j ∧ w'.ownsRow (w.heap.size + 2) 5 1 (.slice a' n' c') n' (u8 (bs.drop (64 * k) ++ [128] ++ List.replicate (zeros bs.length) 0 ++ (lenBytes bs.length).take j)) ∧ Blk w' (w.heap.size + 1) (u32 (blocks Hs (pad bs) k)) ∧ Blk w' w.heap.size (u8 (List.replicate 32 0)) ∧ Tch [] w w', ⟨8, 0, by omega, rfl, rfl, rfl, by rw [List.take_zero, List.append_nil]; exact hown, hH, hO, ht⟩, ?_⟩
      clear hown hH hO ht hsz hb22 hlt hjz
      rintro m w32 a3 n3 c3 x ⟨j, hj8, rfl, rfl, rfl, hown, hH, hO, ht⟩
      have hsz := ht.size
      have hb22 := hH.lt
      by_cases hlt : j < 8
      · rw [bif_pos (by omega)]
        refine ⟨by omega, [.int .u8 _], by rw [zc5]; rfl, ?_⟩
        rintro w36 rfl
        generalize hx : IntKind.wrap .u8 (shR .u64 (IntKind.wrap .u64 (IntKind.wrap .u64 (n : Int) * 8)) (56 - 8 * (j : Int))) = x
        have hx' : IntKind.wrap .u8 (shR .u64 (IntKind.wrap .u64 (IntKind.wrap .u64 (bs.length : Int) * 8)) (56 - 8 * (j : Int))) = x := by rw [hn]; exact hx
        have hn1 : RSl (w32.alloc (.cells [Value.int .u8 x].toArray 5)) 1 (some ⟨w32.heap.size, 0, none⟩) 1 1 (u8 [x]) := (Blk.fresh w32 (cs := [Value.int .u8 x]) 5 rfl).rsl rfl (ones_ints (l := [x]))
        refine app_own hT (own_alloc hown _) hn1 (by rw [size_alloc]; omega) (by omega) (by omega) ?_
        intro b3 c3 w38 hown3 hg
        rw [wrap_i64 (by omega) (by omega)]
        refine ⟨b3, _, c3, rfl, 8 - (j + 1), by omega, j + 1, by omega, by omega, rfl, rfl, ?_, (hH.alloc _).of_heap (hg.block _ (hH.alloc _).lt (by intro h; have := (own_lt hown h.symm).1; omega)), (hO.alloc _).of_heap (hg.block _ (hO.alloc _).lt (by intro h; have := (own_lt hown h.symm).1; omega)),
          (ht.alloc _).grown hg (fun k hk => .inr (by have := (own_lt hown hk).1; omega))⟩
        rw [lenBytes_take hlt, hx', ← List.append_assoc]
        rw [← List.map_append] at hown3
        exact hown3
      · have : j = 8 := by omega
        subst this
        rw [bif_neg (by omega)]
        rw [List.take_of_length_le (by rw [lenBytes_length]; omega), List.append_assoc, List.append_assoc, ← List.append_assoc [128], ← hdr k hkn] at hown
        clear hlt hj8
        have hrt := own_rsl hown ones_ints
        have hoffT := own_off hown hoff
        have hrt' := hrt
        have hb32 := hO.lt
        generalize hN : n - 64 * k + 1 + zeros bs.length + 8 = N at *
        obtain ⟨Q, hQ⟩ : ∃ Q, (pad bs).length = 64 * Q := ⟨(pad bs).length / 64, by omega⟩
        have hNQ : N = 64 * Q - 64 * k := by omega
        refine ⟨fun m a' n' c' w' => ∃ j : Nat, j ≤ Q ∧ n' = 64 * Q - 64 * j ∧ m = n' ∧ RSl w32 1 a' n' c' (u8 ((pad bs).drop (64 * j))) ∧ Off [w.heap.size, w.heap.size + 1] a' ∧ Blk w' (w.heap.size + 1) (u32 (blocks Hs (pad bs) j)) ∧ Tch [w.heap.size + 1] w32 w', ⟨N, k, by omega, hNQ, rfl, hrt, hoffT, hH, Tch.refl _ _⟩, ?_⟩
        clear hown hrt hoffT hrt' hH
        rintro m w43 a4 n4 c4 ⟨j, hjQ, rfl, rfl, hr4, hoff4, hH, ht4⟩
        have hcap4 := hr4.cap
        have ht43 : Tch [] w w43 := ht.trans ht4 (by simp)
        by_cases hlt : j < Q
        · rw [bif_pos (by omega)]
          have hoff4' : Off [w.heap.size + 1] a4 := fun x hx hm => hoff4 x hx (by simp at hm; simp [hm])
          refine (mix_c w43 (w.heap.size + 1) _ _ a4 _ c4 hH (blocks_length rfl) (hr4.tch ht4 hoff4') (by omega) (drop_bytes hpB _) (ks_tch hk ht43 (by simp)) (by omega)).mono ?_
          rintro e w' ⟨rfl, hH', ht'⟩
          refine ⟨rfl, by omega, by omega, 64 * Q - 64 * (j + 1), by omega, j + 1, by omega, by show 64 * Q - 64 * j - 64 = _; omega, rfl, ?_, hoff4.sub _ _, ?_, ht4.trans ht' (by simp)⟩
          · have := hr4.sub (l := 64) (hh := 64 * Q - 64 * j) (by omega) (Nat.le_refl _)
            rw [← List.map_drop, ← List.map_take, List.drop_drop, List.take_of_length_le (by simp; omega)] at this
            rw [show 64 * (j + 1) = 64 * j + 64 * 1 by omega]
            exact this
          · rw [blocks_succ]
            exact hH'
        · have : j = Q := by omega
          subst this
          rw [bif_neg (by omega)]
          replace hO := hO.tch ht4 (by simp)
          rintro w48 rfl
          have hD : Blk _ _ (u8 (List.replicate 32 0)) := Blk.fresh w43 24 (zc24.trans (by simp))
          replace hO := hO.alloc (.cells (zc Tryd.prog 24).toArray 24)
          replace hH := hH.alloc (.cells (zc Tryd.prog 24).toArray 24)
          have ht := ht43.alloc (.cells (zc Tryd.prog 24).toArray 24)
          have hs43 := ht43.size
          have hb43 : w.heap.size + 1 < w43.heap.size := by have := ht4.size; omega
          have hsha : sha bs = outB (blocks Hs (pad bs) j) := by unfold sha; rw [hQ, Nat.mul_div_cancel_left _ (by omega)]
          have hbl : (blocks Hs (pad bs) j).length = 8 := blocks_length rfl
          generalize blocks Hs (pad bs) j = hs at *
          refine ⟨fun m x w' => ∃ (i : Nat) (l : List Int), i ≤ 32 ∧ x = i ∧ m = 32 - i ∧ Blk w' w43.heap.size (u8 l) ∧ l.length = 32 ∧ l.take i = (outB hs).take i ∧ Blk w' (w.heap.size + 1) (u32 hs) ∧ Blk w' w.heap.size (u8 (List.replicate 32 0)) ∧ Tch [] w w', ⟨32, 0, _, by omega, rfl, rfl, hD, by simp, rfl, hH, hO, ht⟩, ?_⟩
          clear hD hO hH ht
          rintro m w51 x ⟨i, l, hi, rfl, rfl, hD, hll, htk, hH, hO, ht⟩
          by_cases hlt : i < 32
          · rw [bif_pos (by omega)]
            have e1 : Int.tdiv (i : Int) 4 = ((i / 4 : Nat) : Int) := tdiv_nat i 4
            have e2 : Int.tmod (i : Int) 4 = ((i % 4 : Nat) : Int) := tmod_nat i 4
            rw [e1, e2, wrap_i64 (n := ((i / 4 : Nat) : Int)) (by omega) (by omega), wrap_i64 (n := 8 * ((i % 4 : Nat) : Int)) (by omega) (by omega), wrap_i64 (n := 24 - 8 * ((i % 4 : Nat) : Int)) (by omega) (by omega)]
            simp only [add_mk, Nat.mul_one, Nat.zero_add, Int.toNat_natCast]
            refine ⟨by omega, by omega, by omega, _, hH.int (by omega), by omega, by omega, by omega, by omega, rfl, by rw [hD.int (by omega)]; rfl, hD.frozen _, ?_⟩
            rintro w54 rfl
            rw [wrap_i64 (by omega) (by omega)]
            refine ⟨32 - (i + 1), by omega, i + 1, _, by omega, rfl, rfl, hD.setInt _ _, by simpa using hll, ?_, hH.set_ne (by show _ ≠ w43.heap.size; omega) _, hO.set_ne (by show _ ≠ w43.heap.size; omega) _, ht.setCell (.inr (by show _ ≤ w43.heap.size; omega)) _⟩
            rw [take_set_len (by omega), htk, List.take_succ_eq_append_getElem (by rw [outB_length]; omega)]
            simp [outB]
          · have : i = 32 := by omega
            subst this
            rw [bif_neg (by omega)]
            have hl : l = sha bs := by rw [hsha, ← List.take_of_length_le (l := l) (i := 32) (by omega), htk, List.take_of_length_le (by rw [outB_length]; omega)]
            rw [hl] at hD
            have hsl : (u8 (sha bs)).length = 32 := by simp [hsha, outB_length]
            refine ⟨u8 (sha bs), hsl, hD.cells, by simpa using hsl, by simpa using ones_ints, hO.room 0 32 (by simp), ?_⟩
            rintro w57 rfl
            have hO2 := hO.sets (vs := u8 (sha bs)) (i := 0) (o := 0) (by rw [hsl]; simp)
            rw [splice_all (by rw [hsl]; simp)] at hO2
            exact ⟨u8 (sha bs), hsl, hO2.cells, rfl, Tch.setCells (.inr (Nat.le_refl _)) ht⟩
end Go.Proofs.YtjkbjppopdfggaaDoor.Sha
namespace Go.Proofs.YtjkbjppopdfggaaDoor.Sha
open Go Den Fn
open Go.RowKit (Below)
set_option maxRecDepth 8000
set_option maxHeartbeats 1000000
theorem roots_c (w : World) : Calls Tryd.prog 45 #[] w fun e w' => e = .returned (.agg (u32 Hs).toArray) ∧ Tch [] w w' := by
  refine c45 ?_
  unfold d45
  rintro w0 rfl
  have hX : Blk _ _ (u32 (List.replicate 8 0)) := Blk.fresh w 91 (zc91.trans (by simp))
  have ht := (Tch.refl [] w).alloc (.cells (zc Tryd.prog 91).toArray 91)
  refine ⟨u32 Hs, by rw [zc91]; rfl, rfl, by simpa using ones_ints, hX.room 0 8 (by simp), ?_⟩
  rintro w2 rfl
  replace hX := hX.sets (vs := u32 Hs) (i := 0) (o := 0) (by simp [Hs])
  rw [splice_all (by simp [Hs])] at hX
  exact ⟨u32 Hs, rfl, hX.cells, rfl, Tch.setCells (.inr (Nat.le_refl _)) ht⟩
theorem cubes_c (w : World) : Calls Tryd.prog 46 #[] w fun e w' => e = .returned (.agg (u32 Ks).toArray) ∧ Tch [] w w' := by
  refine c46 ?_
  unfold d46
  rintro w0 rfl
  have hX : Blk _ _ (u32 (List.replicate 64 0)) := Blk.fresh w 96 (zc96.trans (by simp))
  have ht := (Tch.refl [] w).alloc (.cells (zc Tryd.prog 96).toArray 96)
  refine ⟨u32 Ks, by rw [zc96]; rfl, rfl, by simpa using ones_ints, hX.room 0 64 (by simp), ?_⟩
  rintro w2 rfl
  replace hX := hX.sets (vs := u32 Ks) (i := 0) (o := 0) (by simp [Ks])
  rw [splice_all (by simp [Ks])] at hX
  exact ⟨u32 Ks, rfl, hX.cells, rfl, Tch.setCells (.inr (Nat.le_refl _)) ht⟩

theorem padded_c (w : World) (bs : List Int) (a : Option Addr) (n c : Nat) (hr : RSl w 1 a n c (u8 bs)) (hN : n ≤ 140737488351232) :
    Calls Tryd.prog 47 #[.slice a n c] w fun e w' => ∃ a' c', e = .returned (.slice a' (pad bs).length c') ∧
      RSl w' 1 a' (pad bs).length c' (u8 (pad bs)) ∧ Off (List.range w.heap.size) a' ∧ Tch [] w w' := by
  have hcap := hr.cap
  have hn := u8_len hr
  refine c47 _ _ _ ?_
  unfold d47
  have hz1 : zeros bs.length = (119 - n % 64) % 64 := by unfold zeros; rw [hn]
  have hz2 : zeros bs.length < 64 := Nat.mod_lt _ (by omega)
  have hT : slT Tryd.prog 22 5 1 1 = true := by kernel_rfl
  refine app_own hT (own_nil w w.heap.size 5 1) hr (Nat.le_refl _) (by omega) (by omega) ?_
  rw [Nat.zero_add, List.nil_append]
  intro b c1 w13 hown hg
  have ht := (Tch.refl [] w).grown hg (by intro k hk; cases hk)
  refine ⟨b, _, c1, rfl, [.int .u8 128], by rw [zc5]; rfl, ?_⟩
  rintro w16 rfl
  have hn1 : RSl (w13.alloc (.cells [Value.int .u8 128].toArray 5)) 1 (some ⟨w13.heap.size, 0, none⟩) 1 1 (u8 [128]) := (Blk.fresh w13 (cs := [Value.int .u8 128]) 5 rfl).rsl rfl (ones_ints (l := [128]))
  have hsz13 := ht.size
  refine app_own hT (own_alloc hown _) hn1 (by rw [size_alloc]; omega) (by omega) (by omega) ?_
  replace ht := ht.alloc (.cells [Value.int .u8 128].toArray 5)
  intro b2 c2 w18 hown2 hg2
  replace ht := ht.grown hg2 (fun k hk => .inr (own_lt hown hk).1)
  refine ⟨b2, _, c2, rfl, ?_⟩
  clear hg hg2 hown hn1 hsz13
  refine ⟨fun m a' n' c' w' => ∃ j : Nat, j ≤ zeros bs.length ∧ n' = n + 1 + j ∧ m = zeros bs.length - j ∧ w'.ownsRow w.heap.size 5 1 (.slice a' n' c') n' (u8 (bs ++ [128] ++ List.replicate j 0)) ∧ Tch [] w w', ⟨zeros bs.length, 0, by omega, rfl, by omega, by simpa using hown2, ht⟩, ?_⟩
  clear hown2 ht
  rintro m w22 a2 n2 c2 ⟨j, hjz, rfl, rfl, hown, ht⟩
  have hsz := ht.size
  refine ⟨by omega, ?_⟩
  rw [show (64 : Int) = ((64 : Nat) : Int) from rfl, tmod_nat]
  by_cases hlt : j < zeros bs.length
  · rw [bif_nneg (by omega)]
    refine ⟨[.int .u8 0], by rw [zc5]; rfl, ?_⟩
    rintro w25 rfl
    have hn1 : RSl (w22.alloc (.cells [Value.int .u8 0].toArray 5)) 1 (some ⟨w22.heap.size, 0, none⟩) 1 1 (u8 [0]) := (Blk.fresh w22 (cs := [Value.int .u8 0]) 5 rfl).rsl rfl (ones_ints (l := [0]))
    refine app_own hT (own_alloc hown _) hn1 (by rw [size_alloc]; omega) (by omega) (by omega) ?_
    intro b3 c3 w27 hown3 hg
    refine ⟨b3, _, c3, rfl, zeros bs.length - (j + 1), by omega, j + 1, by omega, rfl, rfl, ?_, (ht.alloc _).grown hg (fun k hk => .inr (own_lt hown hk).1)⟩
    rw [← List.map_append, List.append_assoc _ _ [0]] at hown3
    rw [List.replicate_succ']
    exact hown3
  · have : j = zeros bs.length := by omega
    rw [bif_npos (by omega)]
    subst this
    refine ⟨fun m a' n' c' x w' => ∃ j : Nat, j ≤ 8 ∧ x = 7 - (j : Int) ∧ n' = n + 1 + zeros bs.length + j ∧ m = 8 - j ∧ w'.ownsRow w.heap.size 5 1 (.slice a' n' c') n' (u8 (bs ++ [128] ++ List.replicate (zeros bs.length) 0 ++ (lenBytes bs.length).take j)) ∧ Tch [] w w', ⟨8, 0, by omega, rfl, rfl, rfl, by rw [List.take_zero, List.append_nil]; exact hown, ht⟩, ?_⟩
    clear hown ht hsz hlt hjz
    rintro m w32 a3 n3 c3 x ⟨j, hj8, rfl, rfl, rfl, hown, ht⟩
    have hsz := ht.size
    by_cases hlt : j < 8
    · rw [bif_pos (by omega), wrap_i64 (n := 8 * (7 - (j : Int))) (by omega) (by omega), show 8 * (7 - (j : Int)) = 56 - 8 * (j : Int) by omega]
      refine ⟨by omega, [.int .u8 _], by rw [zc5]; rfl, ?_⟩
      rintro w36 rfl
      generalize hx : IntKind.wrap .u8 (shR .u64 (IntKind.wrap .u64 (IntKind.wrap .u64 (n : Int) * 8)) (56 - 8 * (j : Int))) = x
      have hx' : IntKind.wrap .u8 (shR .u64 (IntKind.wrap .u64 (IntKind.wrap .u64 (bs.length : Int) * 8)) (56 - 8 * (j : Int))) = x := by rw [hn]; exact hx
      have hn1 : RSl (w32.alloc (.cells [Value.int .u8 x].toArray 5)) 1 (some ⟨w32.heap.size, 0, none⟩) 1 1 (u8 [x]) := (Blk.fresh w32 (cs := [Value.int .u8 x]) 5 rfl).rsl rfl (ones_ints (l := [x]))
      refine app_own hT (own_alloc hown _) hn1 (by rw [size_alloc]; omega) (by omega) (by omega) ?_
      intro b3 c3 w38 hown3 hg
      rw [wrap_i64 (by omega) (by omega)]
      refine ⟨b3, _, c3, rfl, 8 - (j + 1), by omega, j + 1, by omega, by omega, rfl, rfl, ?_, (ht.alloc _).grown hg (fun k hk => .inr (own_lt hown hk).1)⟩
      rw [lenBytes_take hlt, hx', ← List.append_assoc]
      rw [← List.map_append] at hown3
      exact hown3
    · have : j = 8 := by omega
      subst this
      rw [bif_neg (by omega)]
      rw [List.take_of_length_le (by rw [lenBytes_length]; omega)] at hown
      have hpl : (pad bs).length = n + 1 + zeros bs.length + 8 := by rw [pad_length]; omega
      refine ⟨a3, c3, by rw [hpl], ?_, own_off hown (fun k hk => List.mem_range.1 hk), ht⟩
      rw [hpl]
      exact own_rsl hown ones_ints
end Go.Proofs.YtjkbjppopdfggaaDoor.Sha
namespace Go.Proofs.YtjkbjppopdfggaaDoor.Sha
open Go Den Fn
open Go.RowKit (Below)
set_option maxRecDepth 8000
set_option maxHeartbeats 1000000
theorem or_word {a b c d : Int} (ha : 0 ≤ a ∧ a < 256) (hb : 0 ≤ b ∧ b < 256) (hc : 0 ≤ c ∧ c < 256) (hd : 0 ≤ d ∧ d < 256) :
    bOr .u32 (bOr .u32 (bOr .u32 (shL .u32 (IntKind.wrap .u32 a) 24) (shL .u32 (IntKind.wrap .u32 b) 16)) (shL .u32 (IntKind.wrap .u32 c) 8)) (IntKind.wrap .u32 d) = ((a * 256 + b) * 256 + c) * 256 + d := by
  obtain ⟨ha, ha'⟩ := ha
  obtain ⟨hb, hb'⟩ := hb
  obtain ⟨hc, hc'⟩ := hc
  obtain ⟨hd, hd'⟩ := hd
  obtain ⟨a, rfl⟩ := Int.eq_ofNat_of_zero_le ha
  obtain ⟨b, rfl⟩ := Int.eq_ofNat_of_zero_le hb
  obtain ⟨c, rfl⟩ := Int.eq_ofNat_of_zero_le hc
  obtain ⟨d, rfl⟩ := Int.eq_ofNat_of_zero_le hd
  have e1 : shL .u32 (IntKind.wrap .u32 (a : Int)) 24 = ((a * 2 ^ 24 : Nat) : Int) := by
    rw [wrap_u32 (by omega) (by omega)]
    unfold shL
    rw [show min (Int.toNat 24) (IntKind.bits .u32) = 24 from rfl, wrap_u32 (by omega) (by omega)]
    omega
  have e2 : shL .u32 (IntKind.wrap .u32 (b : Int)) 16 = ((b * 2 ^ 16 : Nat) : Int) := by
    rw [wrap_u32 (by omega) (by omega)]
    unfold shL
    rw [show min (Int.toNat 16) (IntKind.bits .u32) = 16 from rfl, wrap_u32 (by omega) (by omega)]
    omega
  have e3 : shL .u32 (IntKind.wrap .u32 (c : Int)) 8 = ((c * 2 ^ 8 : Nat) : Int) := by
    rw [wrap_u32 (by omega) (by omega)]
    unfold shL
    rw [show min (Int.toNat 8) (IntKind.bits .u32) = 8 from rfl, wrap_u32 (by omega) (by omega)]
    omega
  rw [e1, e2, e3, bOr_u32 24 (by omega) (by omega), show a * 2 ^ 24 + b * 2 ^ 16 = (a * 2 ^ 8 + b) * 2 ^ 16 by omega, bOr_u32 16 (by omega) (by omega),
    show (a * 2 ^ 8 + b) * 2 ^ 16 + c * 2 ^ 8 = ((a * 2 ^ 8 + b) * 2 ^ 8 + c) * 2 ^ 8 by omega, wrap_u32 (by omega) (by omega), bOr_u32 8 (by omega) (by omega)]
  push_cast; omega

theorem spread_c (w : World) (bs : List Int) (a : Option Addr) (n c : Nat) (hr : RSl w 1 a n c (u8 bs)) (hn : 64 ≤ n) (hB : Bytes bs) :
    Calls Tryd.prog 48 #[.slice a n c] w fun e w' => e = .returned (.agg (u32 (ws bs)).toArray) ∧ Tch [] w w' := by
  have hcap := hr.cap
  have hbl := u8_len hr
  refine c48 _ _ _ ?_
  unfold d48
  rintro w1 rfl
  have hO : Blk _ _ (u32 (List.replicate 64 0)) := Blk.fresh w 96 (zc96.trans (by simp))
  have ht := (Tch.refl [] w).alloc (.cells (zc Tryd.prog 96).toArray 96)
  have hs1 := size_alloc w (.cells (zc Tryd.prog 96).toArray 96)
  rw [hs1]
  rintro w2 rfl
  have hW : Blk _ _ (u32 (List.replicate 64 0)) := Blk.fresh (w.alloc (.cells (zc Tryd.prog 96).toArray 96)) 96 (zc96.trans (by simp))
  rw [hs1] at hW
  replace hO := hO.alloc (.cells (zc Tryd.prog 96).toArray 96)
  replace ht := ht.alloc (.cells (zc Tryd.prog 96).toArray 96)
  generalize (w.alloc (.cells (zc Tryd.prog 96).toArray 96)).alloc (.cells (zc Tryd.prog 96).toArray 96) = W at *
  refine ⟨fun m x w' => ∃ (k : Nat) (l : List Int), k ≤ 16 ∧ x = k ∧ m = 16 - k ∧ Blk w' (w.heap.size + 1) (u32 l) ∧ l.length = 64 ∧ l.take k = (words bs).take k ∧ Blk w' w.heap.size (u32 (List.replicate 64 0)) ∧ Tch [] w w', ⟨16, 0, List.replicate 64 0, by omega, rfl, rfl, hW, by simp, by simp, hO, ht⟩, ?_⟩
  clear hO hW ht hs1
  rintro m w5 x6 ⟨k, l, hk16, rfl, rfl, hW, hll, htk, hO, ht⟩
  by_cases hlt : k < 16
  · rw [bif_pos (by omega)]
    rintro w7 rfl
    rw [wrap_i64 (n := 4 * (k : Int)) (by omega) (by omega), wrap_i64 (n := 4 * (k : Int) + 1) (by omega) (by omega), wrap_i64 (n := 4 * (k : Int) + 2) (by omega) (by omega), wrap_i64 (n := 4 * (k : Int) + 3) (by omega) (by omega),
      show Int.toNat (4 * (k : Int)) = 4 * k by omega, show Int.toNat (4 * (k : Int) + 1) = 4 * k + 1 by omega, show Int.toNat (4 * (k : Int) + 2) = 4 * k + 2 by omega, show Int.toNat (4 * (k : Int) + 3) = 4 * k + 3 by omega]
    have hr5 := hr.below ht.drew.below
    obtain ⟨b, o, rfl, g0⟩ := hr5.int (i := 4 * k) (by omega)
    obtain ⟨b', o', hh, g1⟩ := hr5.int (i := 4 * k + 1) (by omega)
    cases hh
    obtain ⟨b', o', hh, g2⟩ := hr5.int (i := 4 * k + 2) (by omega)
    cases hh
    obtain ⟨b', o', hh, g3⟩ := hr5.int (i := 4 * k + 3) (by omega)
    cases hh
    have hW1 := hW.drew
    simp only [optK, add_mk, Nat.mul_one, Nat.zero_add, Int.toNat_natCast]
    refine ⟨by omega, by omega, _, g0, by omega, by omega, by omega, _, g1, by omega, by omega, by omega, _, g2, by omega, by omega, by omega, _, g3, by omega, by omega, rfl, by rw [hW1.int (by omega)]; rfl, hW1.frozen _, ?_⟩
    rintro w16 rfl
    rw [or_word (byte_of hB _) (byte_of hB _) (byte_of hB _) (byte_of hB _), wrap_i64 (by omega) (by omega)]
    refine ⟨16 - (k + 1), by omega, k + 1, _, by omega, rfl, rfl, hW1.setInt _ _, by simpa using hll, ?_, hO.drew.set_ne (by show _ ≠ w.heap.size + 1; omega) _, ht.drew.setCell (.inr (by show _ ≤ w.heap.size + 1; omega)) _⟩
    rw [take_set_len (by omega), htk, List.take_succ_eq_append_getElem (by rw [words_length]; omega)]
    simp [words, word]
  · have : k = 16 := by omega
    subst this
    rw [bif_neg (by omega)]
    replace htk : l.take 16 = sched (words bs) 0 := by rw [htk]; exact List.take_of_length_le (by rw [words_length]; omega)
    refine ⟨fun m x w' => ∃ (k : Nat) (l : List Int), 16 ≤ k ∧ k ≤ 64 ∧ x = k ∧ m = 64 - k ∧ Blk w' (w.heap.size + 1) (u32 l) ∧ l.length = 64 ∧ l.take k = sched (words bs) (k - 16) ∧ Blk w' w.heap.size (u32 (List.replicate 64 0)) ∧ Tch [] w w', ⟨48, 16, l, by omega, by omega, rfl, rfl, hW, hll, htk, hO, ht⟩, ?_⟩
    clear hW hll htk ht l hO
    rintro m w5 x6 ⟨k, l, hk0, hk1, rfl, rfl, hW, hll, htk, hO, ht⟩
    by_cases hlt : k < 64
    · rw [bif_pos (by omega)]
      rw [wrap_i64 (n := (k : Int) - 2) (by omega) (by omega), wrap_i64 (n := (k : Int) - 15) (by omega) (by omega), wrap_i64 (n := (k : Int) - 7) (by omega) (by omega), wrap_i64 (n := (k : Int) - 16) (by omega) (by omega),
        show Int.toNat ((k : Int) - 2) = k - 2 by omega, show Int.toNat ((k : Int) - 15) = k - 15 by omega, show Int.toNat ((k : Int) - 7) = k - 7 by omega, show Int.toNat ((k : Int) - 16) = k - 16 by omega]
      simp only [add_mk, Nat.mul_one, Nat.zero_add, Int.toNat_natCast]
      have hW' := hW.drew
      refine ⟨by omega, by omega, _, hW.int (by omega), by omega, by omega, _, hW.int (by omega), ?_⟩
      refine (turn_c _ _ _ (by omega) (by omega)).mono ?_
      rintro e w' ⟨rfl, rfl⟩
      refine ⟨_, rfl, ?_⟩
      refine (turn_c _ _ _ (by omega) (by omega)).mono ?_
      rintro e w' ⟨rfl, rfl⟩
      refine ⟨_, rfl, by omega, ?_⟩
      refine (turn_c _ _ _ (by omega) (by omega)).mono ?_
      rintro e w' ⟨rfl, rfl⟩
      refine ⟨_, rfl, ?_⟩
      refine (turn_c _ _ _ (by omega) (by omega)).mono ?_
      rintro e w' ⟨rfl, rfl⟩
      refine ⟨_, rfl, by omega, ?_⟩
      rintro w36 rfl
      refine ⟨by omega, by omega, _, hW'.int (by omega), by omega, by omega, _, hW'.int (by omega), by omega, by omega, rfl, by rw [hW'.int (by omega)]; rfl, hW'.frozen _, ?_⟩
      rintro w39 rfl
      rw [wrap_i64 (by omega) (by omega)]
      refine ⟨64 - (k + 1), by omega, k + 1, _, by omega, by omega, rfl, rfl, hW'.setInt _ _, by simpa using hll, ?_, hO.drew.set_ne (by show _ ≠ w.heap.size + 1; omega) _, ht.drew.setCell (.inr (by show _ ≤ w.heap.size + 1; omega)) _⟩
      rw [take_set_len (by omega), htk, show k + 1 - 16 = (k - 16) + 1 by omega, sched]
      congr 2
      unfold nextW
      rw [sched_length, words_length, ← htk, show 16 + (k - 16) - 2 = k - 2 by omega, show 16 + (k - 16) - 7 = k - 7 by omega, show 16 + (k - 16) - 15 = k - 15 by omega, show 16 + (k - 16) - 16 = k - 16 by omega,
        getD_take (by omega), getD_take (by omega), getD_take (by omega), getD_take (by omega)]
      rfl
    · have : k = 64 := by omega
      subst this
      rw [bif_neg (by omega)]
      have hll' : l = ws bs := by rw [← List.take_of_length_le (l := l) (i := 64) (by omega), htk]; rfl
      clear htk hlt
      rw [hll'] at hW
      have hwl : (u32 (ws bs)).length = 64 := by rw [← hll']; simpa using hll
      generalize ws bs = z at *
      refine ⟨u32 z, hwl, hW.cells, by simpa using hwl, by simpa using ones_ints, hO.room 0 64 (by simp), ?_⟩
      rintro w42 rfl
      have hO2 := hO.sets (vs := u32 z) (i := 0) (o := 0) (by rw [hwl]; simp)
      rw [splice_all (by rw [hwl]; simp)] at hO2
      exact ⟨u32 z, hwl, hO2.cells, rfl, Tch.setCells (.inr (Nat.le_refl _)) ht⟩
end Go.Proofs.YtjkbjppopdfggaaDoor.Sha
namespace Go.Proofs.YtjkbjppopdfggaaDoor.Sha
open Go Den Fn
open Go.RowKit (Below)
set_option maxRecDepth 8000
set_option maxHeartbeats 1000000
theorem refSum_c (w : World) (bs : List Int) (a : Option Addr) (n c : Nat) (hr : RSl w 1 a n c (u8 bs)) (hB : Bytes bs) (hN : n ≤ 140737488351232) :
    Calls Tryd.prog 13 #[.slice a n c] w fun e w' => e = .returned (.agg (u8 (sha bs)).toArray) ∧ Tch [] w w' := by
  have hcap := hr.cap
  have hn := u8_len hr
  refine c13 _ _ _ ?_
  unfold d13
  rintro w1 rfl
  have hO : Blk _ _ (u8 (List.replicate 32 0)) := Blk.fresh w 24 (zc24.trans (by simp))
  have ht := (Tch.refl [] w).alloc (.cells (zc Tryd.prog 24).toArray 24)
  have hs1 := size_alloc w (.cells (zc Tryd.prog 24).toArray 24)
  generalize w.alloc (.cells (zc Tryd.prog 24).toArray 24) = W1 at *
  refine (roots_c W1).mono ?_
  rintro e w3 ⟨rfl, ht3⟩
  have hs3 := ht3.size
  replace hO := hO.tch ht3 (by simp)
  replace ht := ht.trans ht3 (by simp)
  clear ht3
  refine ⟨_, rfl, ?_⟩
  rintro w5 rfl
  generalize hhb : w3.heap.size = hb at *
  have hH : Blk _ _ (u32 (List.replicate 8 0)) := Blk.fresh w3 91 (zc91.trans (by simp))
  rw [hhb] at hH
  replace hO := hO.alloc (.cells (zc Tryd.prog 91).toArray 91)
  replace ht := ht.alloc (.cells (zc Tryd.prog 91).toArray 91)
  refine ⟨rfl, by simpa using ones_ints, hH.room 0 8 (by simp), ?_⟩
  rintro w6 rfl
  replace hH := hH.sets (vs := u32 Hs) (i := 0) (o := 0) (by simp [Hs])
  rw [splice_all (by simp [Hs])] at hH
  replace hO := hO.of_heap (heap_setCells (vs := u32 Hs) (i := 0) (b := hb) (o := 0) (by omega))
  replace ht := Tch.setCells (b := hb) (o := 0) (vs := u32 Hs) (i := 0) (.inr (by omega)) ht
  change Blk (setCells (w3.alloc _) ⟨hb, 0, none⟩ (u32 Hs).toArray.toList 0) _ _ at hH
  change Blk (setCells (w3.alloc _) ⟨hb, 0, none⟩ (u32 Hs).toArray.toList 0) _ _ at hO
  change Tch [] w (setCells (w3.alloc _) ⟨hb, 0, none⟩ (u32 Hs).toArray.toList 0) at ht
  generalize setCells (w3.alloc (.cells (zc Tryd.prog 91).toArray 91)) ⟨hb, 0, none⟩ (u32 Hs).toArray.toList 0 = W6 at *
  have hb6 := hH.lt
  refine (cubes_c W6).mono ?_
  rintro e w8 ⟨rfl, ht8⟩
  have hs8 := ht8.size
  replace hO := hO.tch ht8 (by simp)
  replace hH := hH.tch ht8 (by simp)
  replace ht := ht.trans ht8 (by simp)
  clear ht8
  refine ⟨_, rfl, ?_⟩
  rintro w10 rfl
  generalize hkb : w8.heap.size = kb at *
  have hK : Blk _ _ (u32 (List.replicate 64 0)) := Blk.fresh w8 96 (zc96.trans (by simp))
  rw [hkb] at hK
  replace hO := hO.alloc (.cells (zc Tryd.prog 96).toArray 96)
  replace hH := hH.alloc (.cells (zc Tryd.prog 96).toArray 96)
  replace ht := ht.alloc (.cells (zc Tryd.prog 96).toArray 96)
  refine ⟨rfl, by simpa using ones_ints, hK.room 0 64 (by simp), ?_⟩
  rintro w11 rfl
  replace hK := hK.sets (vs := u32 Ks) (i := 0) (o := 0) (by simp [Ks])
  rw [splice_all (by simp [Ks])] at hK
  replace hO := hO.of_heap (heap_setCells (vs := u32 Ks) (i := 0) (b := kb) (o := 0) (by omega))
  replace hH := hH.of_heap (heap_setCells (vs := u32 Ks) (i := 0) (b := kb) (o := 0) (by omega))
  replace ht := Tch.setCells (b := kb) (o := 0) (vs := u32 Ks) (i := 0) (.inr (by omega)) ht
  change Blk (setCells (w8.alloc _) ⟨kb, 0, none⟩ (u32 Ks).toArray.toList 0) _ _ at hK
  change Blk (setCells (w8.alloc _) ⟨kb, 0, none⟩ (u32 Ks).toArray.toList 0) _ _ at hH
  change Blk (setCells (w8.alloc _) ⟨kb, 0, none⟩ (u32 Ks).toArray.toList 0) _ _ at hO
  change Tch [] w (setCells (w8.alloc _) ⟨kb, 0, none⟩ (u32 Ks).toArray.toList 0) at ht
  generalize setCells (w8.alloc (.cells (zc Tryd.prog 96).toArray 96)) ⟨kb, 0, none⟩ (u32 Ks).toArray.toList 0 = W11 at *
  have hk11 := hK.lt
  refine (padded_c W11 bs a n c (hr.below ht.below) hN).mono ?_
  rintro e w13 ⟨pa, pc, rfl, hp, hpoff, ht13⟩
  have hs13 := ht13.size
  replace hO := hO.tch ht13 (by simp)
  replace hH := hH.tch ht13 (by simp)
  replace hK := hK.tch ht13 (by simp)
  replace ht := ht.trans ht13 (by simp)
  clear ht13
  refine ⟨_, _, _, rfl, ?_⟩
  have hpB := pad_bytes hB
  have hpcap := hp.cap
  obtain ⟨Q, hQ⟩ : ∃ Q, (pad bs).length = 64 * Q := ⟨(pad bs).length / 64, by have := pad_length bs; unfold zeros at this; omega⟩
  have hQ2 : (pad bs).length ≤ 140737488351232 + 200 := by have := pad_length bs; unfold zeros at this; omega
  have hsha : sha bs = outB (blocks Hs (pad bs) Q) := by unfold sha; rw [hQ, Nat.mul_div_cancel_left _ (by omega)]
  have hoffb : Off [hb] pa := fun x hx hm => hpoff x hx (List.mem_range.2 (by simp at hm; omega))
  refine ⟨fun m x w' => ∃ j : Nat, j ≤ Q ∧ x = 64 * (j : Int) ∧ m = Q - j ∧ Blk w' hb (u32 (blocks Hs (pad bs) j)) ∧ Tch [hb] w13 w', ⟨Q, 0, by omega, rfl, rfl, hH, Tch.refl _ _⟩, ?_⟩
  clear hH
  rintro m w17 x ⟨j, hjQ, rfl, rfl, hH, ht17⟩
  have hs17 := ht17.size
  have hbl : (blocks Hs (pad bs) j).length = 8 := blocks_length rfl
  by_cases hlt : j < Q
  · rw [bif_pos (by omega), wrap_i64 (n := 64 * (j : Int) + 64) (by omega) (by omega), show Int.toNat (64 * (j : Int) + 64) = 64 * j + 64 by omega, show Int.toNat (64 * (j : Int)) = 64 * j by omega]
    refine ⟨by omega, by omega, by omega, by omega, ?_⟩
    have hp17 := (hp.tch ht17 hoffb).sub (l := 64 * j) (hh := 64 * j + 64) (by omega) (by omega)
    rw [Nat.mul_one, ← List.map_drop, ← List.map_take, show 64 * j + 64 - 64 * j = 64 by omega, Nat.mul_one] at hp17
    rw [Nat.mul_one, show 64 * j + 64 - 64 * j = 64 by omega]
    refine (spread_c w17 _ _ _ _ hp17 (Nat.le_refl _) (fun x hx => hpB x (List.mem_of_mem_drop (List.mem_of_mem_take hx)))).mono ?_
    rintro e w20 ⟨rfl, ht20⟩
    refine ⟨_, rfl, ?_⟩
    have hws : ws (List.take 64 (List.drop (64 * j) (pad bs))) = ws (List.drop (64 * j) (pad bs)) := by
      unfold ws
      congr 1
      unfold words
      apply List.map_congr_left
      intro i hi
      rw [List.mem_range] at hi
      unfold word
      rw [getD_take (by omega), getD_take (by omega), getD_take (by omega), getD_take (by omega)]
    rw [hws]
    have hsl : (u32 (ws (List.drop (64 * j) (pad bs)))).length = 64 := by unfold ws; rw [List.length_map, sched_length, words_length]
    have hmix : mixS (blocks Hs (pad bs) j) (List.drop (64 * j) (pad bs)) = List.zipWith ad (blocks Hs (pad bs) j) (rounds (blocks Hs (pad bs) j) Ks (ws (List.drop (64 * j) (pad bs))) 64) := rfl
    have hbs : blocks Hs (pad bs) (j + 1) = mixS (blocks Hs (pad bs) j) (List.drop (64 * j) (pad bs)) := blocks_succ
    rw [hmix] at hbs
    generalize ws (List.drop (64 * j) (pad bs)) = z at *
    generalize blocks Hs (pad bs) j = hs at *
    replace hH := hH.tch ht20 (by simp)
    have ht2 := ht17.trans ht20 (by simp)
    have hs20 := ht20.size
    clear ht20
    rintro w22 rfl
    have hS : Blk _ _ (u32 (List.replicate 64 0)) := Blk.fresh w20 96 (zc96.trans (by simp))
    replace hH := hH.alloc (.cells (zc Tryd.prog 96).toArray 96)
    replace ht2 := ht2.alloc (.cells (zc Tryd.prog 96).toArray 96)
    refine ⟨by simpa using hsl, by simpa using ones_ints, hS.room 0 64 (by simp), ?_⟩
    rintro w23 rfl
    replace hS := hS.sets (vs := u32 z) (i := 0) (o := 0) (by rw [hsl]; simp)
    rw [splice_all (by rw [hsl]; simp)] at hS
    replace hH := hH.of_heap (heap_setCells (vs := u32 z) (i := 0) (b := w20.heap.size) (o := 0) (by omega))
    replace ht2 := Tch.setCells (b := w20.heap.size) (o := 0) (vs := u32 z) (i := 0) (.inr (by omega)) ht2
    change Blk (setCells (w20.alloc _) ⟨w20.heap.size, 0, none⟩ (u32 z).toArray.toList 0) _ _ at hS
    change Blk (setCells (w20.alloc _) ⟨w20.heap.size, 0, none⟩ (u32 z).toArray.toList 0) _ _ at hH
    change Tch [hb] w13 (setCells (w20.alloc _) ⟨w20.heap.size, 0, none⟩ (u32 z).toArray.toList 0) at ht2
    generalize setCells (w20.alloc (.cells (zc Tryd.prog 96).toArray 96)) ⟨w20.heap.size, 0, none⟩ (u32 z).toArray.toList 0 = W23 at *
    generalize hsb : w20.heap.size = sb at *
    have hsb2 := hS.lt
    refine ⟨u32 hs, by simpa using hbl, hH.cells, ?_⟩
    rintro w25 rfl
    generalize hvb : W23.heap.size = vb at *
    have hV : Blk _ _ (u32 (List.replicate 8 0)) := Blk.fresh W23 91 (zc91.trans (by simp))
    rw [hvb] at hV
    replace hH := hH.alloc (.cells (zc Tryd.prog 91).toArray 91)
    replace hS := hS.alloc (.cells (zc Tryd.prog 91).toArray 91)
    replace ht2 := ht2.alloc (.cells (zc Tryd.prog 91).toArray 91)
    refine ⟨by simpa using hbl, by simpa using ones_ints, hV.room 0 8 (by simp), ?_⟩
    rintro w26 rfl
    replace hV := hV.sets (vs := u32 hs) (i := 0) (o := 0) (by simp [hbl])
    rw [splice_all (by simp [hbl])] at hV
    replace hH := hH.of_heap (heap_setCells (vs := u32 hs) (i := 0) (b := vb) (o := 0) (by omega))
    replace hS := hS.of_heap (heap_setCells (vs := u32 hs) (i := 0) (b := vb) (o := 0) (by omega))
    replace ht2 := Tch.setCells (b := vb) (o := 0) (vs := u32 hs) (i := 0) (.inr (by omega)) ht2
    change Blk (setCells (W23.alloc _) ⟨vb, 0, none⟩ (u32 hs).toArray.toList 0) _ _ at hV
    change Blk (setCells (W23.alloc _) ⟨vb, 0, none⟩ (u32 hs).toArray.toList 0) _ _ at hS
    change Blk (setCells (W23.alloc _) ⟨vb, 0, none⟩ (u32 hs).toArray.toList 0) _ _ at hH
    change Tch [hb] w13 (setCells (W23.alloc _) ⟨vb, 0, none⟩ (u32 hs).toArray.toList 0) at ht2
    generalize setCells (W23.alloc (.cells (zc Tryd.prog 91).toArray 91)) ⟨vb, 0, none⟩ (u32 hs).toArray.toList 0 = W26 at *
    replace hK := hK.tch ht2 (by simp; omega)
    refine ⟨fun m x w' => ∃ k : Nat, k ≤ 64 ∧ x = k ∧ m = 64 - k ∧ Blk w' vb (u32 (rounds hs Ks z k)) ∧ Tch [vb] W26 w', ⟨64, 0, by omega, rfl, rfl, hV, Tch.refl _ _⟩, ?_⟩
    clear hV
    rintro m w29 x ⟨k, hk64, rfl, rfl, hV, ht3⟩
    have hlv := rounds_length (ks := Ks) (w := z) hbl k
    by_cases hlt2 : k < 64
    · rw [bif_pos (by omega)]
      have e1 : rounds hs Ks z (k + 1) = rnd (rounds hs Ks z k) (Ks.getD k 0) (z.getD k 0) := rfl
      generalize rounds hs Ks z k = v at *
      obtain ⟨a0, a1, a2, a3, a4, a5, a6, a7, rfl⟩ := eight hlv
      rintro w31 rfl
      simp only [add_mk, Nat.mul_one, Nat.zero_add, Int.toNat_natCast]
      have hV1 := hV.drew
      have hV2 := hV1.drew
      have hKc := (hK.tch ht3 (by simp; omega)).drew
      have hSc := (hS.tch ht3 (by simp; omega)).drew
      have ck : World.cell? w29.drew ⟨kb, k, none⟩ = some (.int .u32 (Ks.getD k 0)) := hKc.int (show k < Ks.length from hlt2)
      have cw : World.cell? w29.drew ⟨sb, k, none⟩ = some (.int .u32 (z.getD k 0)) := hSc.int (by have := hsl; rw [List.length_map] at this; omega)
      have c4 : World.cell? w29.drew ⟨vb, Int.toNat 4, none⟩ = some (.int .u32 a4) := hV1.cell 4
      have c5 : World.cell? w29.drew ⟨vb, Int.toNat 5, none⟩ = some (.int .u32 a5) := hV1.cell 5
      have c6 : World.cell? w29.drew ⟨vb, Int.toNat 6, none⟩ = some (.int .u32 a6) := hV1.cell 6
      have c7 : World.cell? w29.drew ⟨vb, Int.toNat 7, none⟩ = some (.int .u32 a7) := hV1.cell 7
      have b0 : World.cell? w29.drew.drew ⟨vb, Int.toNat 0, none⟩ = some (.int .u32 a0) := hV2.cell 0
      have b1 : World.cell? w29.drew.drew ⟨vb, Int.toNat 1, none⟩ = some (.int .u32 a1) := hV2.cell 1
      have b2 : World.cell? w29.drew.drew ⟨vb, Int.toNat 2, none⟩ = some (.int .u32 a2) := hV2.cell 2
      have b3 : World.cell? w29.drew.drew ⟨vb, Int.toNat 3, none⟩ = some (.int .u32 a3) := hV2.cell 3
      have b4 : World.cell? w29.drew.drew ⟨vb, Int.toNat 4, none⟩ = some (.int .u32 a4) := hV2.cell 4
      have b5 : World.cell? w29.drew.drew ⟨vb, Int.toNat 5, none⟩ = some (.int .u32 a5) := hV2.cell 5
      have b6 : World.cell? w29.drew.drew ⟨vb, Int.toNat 6, none⟩ = some (.int .u32 a6) := hV2.cell 6
      refine ⟨by omega, by omega, a7, c7, by omega, by omega, a4, c4, by omega, by omega, a4, c4, by omega, by omega, a4, c4, by omega, by omega, a4, c4, by omega, by omega, a5, c5, by omega, by omega, a4, c4, by omega, by omega, a6, c6, by omega, by omega, _, ck, by omega, by omega, _, cw, ?_⟩
      refine (turn_c _ _ _ (by omega) (by omega)).mono ?_
      rintro e w' ⟨rfl, rfl⟩
      refine ⟨_, rfl, ⟨_, cw, rfl, trivial⟩, ⟨_, ck, rfl, trivial⟩, ⟨_, c6, rfl, trivial⟩, ⟨_, c4, rfl, trivial⟩, ⟨_, c5, rfl, trivial⟩, ⟨_, c4, rfl, trivial⟩, ⟨_, c4, rfl, trivial⟩, ⟨_, c4, rfl, trivial⟩, ⟨_, c7, rfl, trivial⟩, ?_⟩
      refine (turn_c _ _ _ (by omega) (by omega)).mono ?_
      rintro e w' ⟨rfl, rfl⟩
      refine ⟨_, rfl, ⟨_, cw, rfl, trivial⟩, ⟨_, ck, rfl, trivial⟩, ⟨_, c6, rfl, trivial⟩, ⟨_, c4, rfl, trivial⟩, ⟨_, c5, rfl, trivial⟩, ⟨_, c4, rfl, trivial⟩, ⟨_, c4, rfl, trivial⟩, ⟨_, c7, rfl, trivial⟩, ?_⟩
      refine (turn_c _ _ _ (by omega) (by omega)).mono ?_
      rintro e w' ⟨rfl, rfl⟩
      refine ⟨_, rfl, ⟨_, cw, rfl, trivial⟩, ⟨_, ck, rfl, trivial⟩, ⟨_, c6, rfl, trivial⟩, ⟨_, c4, rfl, trivial⟩, ⟨_, c5, rfl, trivial⟩, ⟨_, c4, rfl, trivial⟩, ⟨_, c7, rfl, trivial⟩, ?_⟩
      rintro w75 rfl
      refine ⟨by omega, by omega, a0, b0, by omega, by omega, a0, b0, by omega, by omega, a0, b0, by omega, by omega, a0, b0, by omega, by omega, a1, b1, by omega, by omega, a0, b0, by omega, by omega, a2, b2, by omega, by omega, a1, b1, by omega, by omega, a2, b2, ?_⟩
      refine (turn_c _ _ _ (by omega) (by omega)).mono ?_
      rintro e w' ⟨rfl, rfl⟩
      refine ⟨_, rfl, ⟨_, b2, rfl, trivial⟩, ⟨_, b1, rfl, trivial⟩, ⟨_, b2, rfl, trivial⟩, ⟨_, b0, rfl, trivial⟩, ⟨_, b1, rfl, trivial⟩, ⟨_, b0, rfl, trivial⟩, ⟨_, b0, rfl, trivial⟩, ⟨_, b0, rfl, trivial⟩, ?_⟩
      refine (turn_c _ _ _ (by omega) (by omega)).mono ?_
      rintro e w' ⟨rfl, rfl⟩
      refine ⟨_, rfl, ⟨_, b2, rfl, trivial⟩, ⟨_, b1, rfl, trivial⟩, ⟨_, b2, rfl, trivial⟩, ⟨_, b0, rfl, trivial⟩, ⟨_, b1, rfl, trivial⟩, ⟨_, b0, rfl, trivial⟩, ⟨_, b0, rfl, trivial⟩, ?_⟩
      refine (turn_c _ _ _ (by omega) (by omega)).mono ?_
      rintro e w' ⟨rfl, rfl⟩
      refine ⟨_, rfl, ⟨_, b2, rfl, trivial⟩, ⟨_, b1, rfl, trivial⟩, ⟨_, b2, rfl, trivial⟩, ⟨_, b0, rfl, trivial⟩, ⟨_, b1, rfl, trivial⟩, ⟨_, b0, rfl, trivial⟩, ?_⟩
      refine ⟨by omega, by omega, a0, b0, by omega, by omega, a1, b1, by omega, by omega, a2, b2, by omega, by omega, a3, b3, by omega, by omega, a4, b4, by omega, by omega, a5, b5, by omega, by omega, a6, b6, ?_⟩
      refine ⟨u32 (rnd [a0, a1, a2, a3, a4, a5, a6, a7] (Ks.getD k 0) (z.getD k 0)), by rw [zc91]; rfl, rfl, by simpa using ones_ints, hV2.room 0 8 (by simp), ?_⟩
      rintro w123 rfl
      rw [wrap_i64 (by omega) (by omega)]
      refine ⟨64 - (k + 1), by omega, k + 1, by omega, rfl, rfl, ?_, Tch.setCells (.inl (by simp)) ht3.drew.drew⟩
      have hV3 := hV2.sets (vs := u32 (rnd [a0, a1, a2, a3, a4, a5, a6, a7] (Ks.getD k 0) (z.getD k 0))) (i := 0) (o := 0) (by simp [rnd])
      rw [splice_all (by simp [rnd])] at hV3
      rw [e1]
      exact hV3
    · have : k = 64 := by omega
      subst this
      rw [bif_neg (by omega)]
      clear hlt2 hk64
      replace hH := hH.tch ht3 (by simp; omega)
      have hne : hb ≠ vb := by omega
      have hsz3 := ht3.size
      have hWall : Tch [hb] w13 w29 := ht2.trans ht3 (by simp; omega)
      generalize rounds hs Ks z 64 = v at *
      have hhl : (List.zipWith ad hs v).length = 8 := by rw [List.length_zipWith, hbl, hlv]; rfl
      refine ⟨fun m x w' => ∃ (k : Nat) (l : List Int), k ≤ 8 ∧ x = k ∧ m = 8 - k ∧ Blk w' hb (u32 l) ∧ l.length = 8 ∧ l.take k = (List.zipWith ad hs v).take k ∧ (∀ i, k ≤ i → l.getD i 0 = hs.getD i 0) ∧ Tch [hb] w29 w', ⟨8, 0, hs, by omega, rfl, rfl, hH, hbl, rfl, fun _ _ => rfl, Tch.refl _ _⟩, ?_⟩
      clear hH
      rintro m w5 x6 ⟨k, l, hk8, rfl, rfl, hH, hll, htk, hz, ht4⟩
      replace hV := hV.tch ht4 (by simp; omega)
      by_cases hlt : k < 8
      · rw [bif_pos (by omega)]
        rintro w107 rfl
        have hV1 := hV.drew
        have hH1 := hH.drew
        simp only [optK, add_mk, Nat.mul_one, Nat.zero_add, Int.toNat_natCast]
        refine ⟨by omega, by omega, _, hH1.int (by omega), by omega, by omega, _, hV1.int (by omega), by omega, by omega, rfl, by rw [hH1.int (by omega)]; rfl, hH1.frozen _, ?_⟩
        rintro w112 rfl
        rw [wrap_i64 (by omega) (by omega)]
        refine ⟨8 - (k + 1), by omega, k + 1, _, by omega, rfl, rfl, hH1.setInt _ _, by simpa using hll, ?_, ?_, ht4.drew.setCell (.inl (by simp)) _⟩
        · have ez : (List.zipWith ad hs v)[k] = IntKind.wrap .u32 (hs.getD k 0 + v.getD k 0) := by
            simp [ad, List.getD_eq_getElem?_getD, List.getElem?_eq_getElem (show k < hs.length by omega), List.getElem?_eq_getElem (show k < v.length by omega)]
          rw [take_set_len (by omega), htk, hz k (Nat.le_refl _), List.take_succ_eq_append_getElem (by omega), ez]
        · intro i hi
          rw [getD_set_ne (by omega)]; exact hz i (by omega)
      · have : k = 8 := by omega
        subst this
        rw [bif_neg (by omega)]
        have : l = List.zipWith ad hs v := by rw [← List.take_of_length_le (l := l) (i := 8) (by omega), htk, List.take_of_length_le (by omega)]
        rw [this] at hH
        refine ⟨Q - (j + 1), by omega, j + 1, by omega, by omega, rfl, ?_, hWall.trans ht4 (by simp)⟩
        rw [hbs]
        exact hH
  · have : j = Q := by omega
    subst this
    rw [bif_neg (by omega)]
    replace hO := hO.tch ht17 (by simp; omega)
    replace ht := ht.trans ht17 (by simp; omega)
    generalize blocks Hs (pad bs) j = hs at *
    have hb17 := hH.lt
    rintro w48 rfl
    have hD : Blk _ _ (u8 (List.replicate 32 0)) := Blk.fresh w17 24 (zc24.trans (by simp))
    replace hO := hO.alloc (.cells (zc Tryd.prog 24).toArray 24)
    replace hH := hH.alloc (.cells (zc Tryd.prog 24).toArray 24)
    replace ht := ht.alloc (.cells (zc Tryd.prog 24).toArray 24)
    refine ⟨fun m x w' => ∃ (i : Nat) (l : List Int), i ≤ 32 ∧ x = i ∧ m = 32 - i ∧ Blk w' w17.heap.size (u8 l) ∧ l.length = 32 ∧ l.take i = (outB hs).take i ∧ Blk w' hb (u32 hs) ∧ Blk w' w.heap.size (u8 (List.replicate 32 0)) ∧ Tch [] w w', ⟨32, 0, _, by omega, rfl, rfl, hD, by simp, rfl, hH, hO, ht⟩, ?_⟩
    clear hD hO hH ht
    rintro m w51 x ⟨i, l, hi, rfl, rfl, hD, hll, htk, hH, hO, ht⟩
    by_cases hlt : i < 32
    · rw [bif_pos (by omega)]
      have e1 : Int.tdiv (i : Int) 4 = ((i / 4 : Nat) : Int) := tdiv_nat i 4
      have e2 : Int.tmod (i : Int) 4 = ((i % 4 : Nat) : Int) := tmod_nat i 4
      rw [e1, e2, wrap_i64 (n := ((i / 4 : Nat) : Int)) (by omega) (by omega), wrap_i64 (n := 8 * ((i % 4 : Nat) : Int)) (by omega) (by omega), wrap_i64 (n := 24 - 8 * ((i % 4 : Nat) : Int)) (by omega) (by omega)]
      simp only [add_mk, Nat.mul_one, Nat.zero_add, Int.toNat_natCast]
      refine ⟨by omega, by omega, by omega, _, hH.int (by omega), by omega, by omega, by omega, by omega, rfl, by rw [hD.int (by omega)]; rfl, hD.frozen _, ?_⟩
      rintro w54 rfl
      rw [wrap_i64 (by omega) (by omega)]
      refine ⟨32 - (i + 1), by omega, i + 1, _, by omega, rfl, rfl, hD.setInt _ _, by simpa using hll, ?_, hH.set_ne (by show _ ≠ w17.heap.size; omega) _, hO.set_ne (by show _ ≠ w17.heap.size; omega) _, ht.setCell (.inr (by show _ ≤ w17.heap.size; omega)) _⟩
      rw [take_set_len (by omega), htk, List.take_succ_eq_append_getElem (by rw [outB_length]; omega)]
      simp [outB]
    · have : i = 32 := by omega
      subst this
      rw [bif_neg (by omega)]
      have hl : l = sha bs := by rw [hsha, ← List.take_of_length_le (l := l) (i := 32) (by omega), htk, List.take_of_length_le (by rw [outB_length]; omega)]
      rw [hl] at hD
      have hsl : (u8 (sha bs)).length = 32 := by simp [hsha, outB_length]
      refine ⟨u8 (sha bs), hsl, hD.cells, by simpa using hsl, by simpa using ones_ints, hO.room 0 32 (by simp), ?_⟩
      rintro w57 rfl
      have hO2 := hO.sets (vs := u8 (sha bs)) (i := 0) (o := 0) (by rw [hsl]; simp)
      rw [splice_all (by rw [hsl]; simp)] at hO2
      exact ⟨u8 (sha bs), hsl, hO2.cells, rfl, Tch.setCells (.inr (Nat.le_refl _)) ht⟩
end Go.Proofs.YtjkbjppopdfggaaDoor.Sha
namespace Go.Proofs.YtjkbjppopdfggaaDoor.Sha
open Go Den Fn
open Go.RowKit (Below)
set_option maxRecDepth 8000
set_option maxHeartbeats 1000000
theorem sha_length (bs : List Int) : (sha bs).length = 32 := outB_length _
theorem sha_bytes (bs : List Int) : Bytes (sha bs) := by
  intro x hx
  simp only [sha, outB, List.mem_map] at hx
  obtain ⟨i, _, rfl⟩ := hx
  exact wrap_u8_byte _
theorem same_c (w : World) (xs ys : List Int) (a b : Option Addr) (n c m mc : Nat) (hx : RSl w 1 a n c (u8 xs)) (hy : RSl w 1 b m mc (u8 ys)) (hN : n ≤ 140737488351232) :
    Calls Tryd.prog 14 #[.slice a n c, .slice b m mc] w fun e w' => e = .returned (.bool (decide (xs = ys))) ∧ Tch [] w w' := by
  have hn := u8_len hx
  have hm := u8_len hy
  refine c14 _ _ _ _ _ _ ?_
  unfold d14
  by_cases he : n = m
  · subst he
    rw [bif_npos rfl]
    refine ⟨fun q x w' => ∃ k : Nat, k ≤ n ∧ x = k ∧ q = n - k ∧ xs.take k = ys.take k ∧ Tch [] w w', ⟨n, 0, by omega, rfl, rfl, rfl, Tch.refl _ _⟩, ?_⟩
    rintro q w4 x ⟨k, hk, rfl, rfl, htk, ht⟩
    by_cases hlt : k < n
    · rw [bif_pos (by omega)]
      rintro w6 rfl
      obtain ⟨b1, o1, rfl, g1⟩ := (hx.below ht.drew.below).int (i := k) hlt
      obtain ⟨b2, o2, rfl, g2⟩ := (hy.below ht.drew.below).int (i := k) hlt
      simp only [optK, add_mk, Nat.mul_one, Int.toNat_natCast]
      refine ⟨by omega, by omega, _, g1, by omega, by omega, _, g2, ?_⟩
      by_cases hd : xs.getD k 0 = ys.getD k 0
      · rw [bif_npos hd, wrap_i64 (by omega) (by omega)]
        refine ⟨n - (k + 1), by omega, k + 1, by omega, by omega, rfl, ?_, ht.drew⟩
        rw [List.take_succ_eq_append_getElem (by omega), List.take_succ_eq_append_getElem (by omega), htk]
        have h1 : k < xs.length := by omega
        have h2 : k < ys.length := by omega
        simp only [List.getD_eq_getElem?_getD, List.getElem?_eq_getElem h1, List.getElem?_eq_getElem h2, Option.getD_some] at hd
        rw [hd]
      · rw [bif_nneg hd]
        refine ⟨?_, ht.drew⟩
        rw [decide_eq_false fun e => hd (by rw [e])]
    · rw [bif_neg (by omega)]
      have : k = n := by omega
      subst this
      rw [List.take_of_length_le (by omega), List.take_of_length_le (by omega)] at htk
      exact ⟨by rw [decide_eq_true htk], ht⟩
  · rw [bif_nneg (by omega)]
    refine ⟨?_, Tch.refl _ _⟩
    rw [decide_eq_false fun e => he (by rw [← hn, ← hm, e])]

end Go.Proofs.YtjkbjppopdfggaaDoor.Sha
