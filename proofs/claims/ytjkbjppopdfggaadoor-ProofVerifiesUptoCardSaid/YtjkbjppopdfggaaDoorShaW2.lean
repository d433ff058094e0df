/-
  THE DIGEST: one block of 64 bytes mixed in (proof.mix).
  Own work. No macro, syntax, notation, axiom.
-/
import Derived.Test.YtjkbjppopdfggaaDoorShaW1
namespace Go.Proofs.YtjkbjppopdfggaaDoor.Sha
open Go Den Fn
open Go.RowKit (Below)
set_option maxRecDepth 8000
set_option maxHeartbeats 1000000

theorem take_set_len {l : List Int} {k : Nat} (h : k < l.length) (v : Int) : (l.set k v).take (k + 1) = l.take k ++ [v] := by
  rw [List.take_set, List.take_succ_eq_append_getElem h, List.set_append_right _ _ (by simp; omega)]
  simp [Nat.min_eq_left (Nat.le_of_lt h)]
theorem getD_take {l : List Int} {k i : Nat} (h : i < k) : (l.take k).getD i 0 = l.getD i 0 := by
  simp [List.getD_eq_getElem?_getD, List.getElem?_take, h]
theorem getD_set_self {l : List Int} {k : Nat} (h : k < l.length) (v : Int) : (l.set k v).getD k 0 = v := by
  simp [List.getD_eq_getElem?_getD, h]
theorem getD_set_ne {l : List Int} {k i : Nat} (h : k ≠ i) (v : Int) : (l.set k v).getD i 0 = l.getD i 0 := by
  simp [List.getD_eq_getElem?_getD, List.getElem?_set, h]
theorem take_set_lt {l : List Int} {k i : Nat} (h : k ≤ i) (v : Int) : (l.set i v).take k = l.take k := by
  rw [List.take_set, List.set_eq_of_length_le (by simp; omega)]

theorem getD_rep (n i : Nat) : (List.replicate n (0 : Int)).getD i 0 = 0 := by
  rw [List.getD_eq_getElem?_getD, List.getElem?_replicate]
  split <;> rfl
/-- A word of so many bytes so far. -/
def part (bs : List Int) (t : Nat) : Nat → Int
  | 0 => 0
  | n + 1 => part bs t n * 256 + bs.getD (4 * t + n) 0
theorem part_four (bs : List Int) (t : Nat) : part bs t 4 = word bs t := by simp [part, word]
theorem byte_of {bs : List Int} (h : Bytes bs) (i : Nat) : 0 ≤ bs.getD i 0 ∧ bs.getD i 0 < 256 := by
  rw [List.getD_eq_getElem?_getD]
  cases e : bs[i]? with
  | none => simp
  | some x => exact h x (List.mem_of_getElem? e)
theorem part_lt {bs : List Int} (h : Bytes bs) (t : Nat) : ∀ n, 0 ≤ part bs t n ∧ part bs t n < 256 ^ n
  | 0 => by simp [part]
  | n + 1 => by
    have h1 := part_lt h t n
    have h2 := byte_of h (4 * t + n)
    have h3 : (256 : Int) ^ (n + 1) = 256 ^ n * 256 := Int.pow_succ _ _
    unfold part
    rw [h3]
    omega
theorem or_byte {x b : Int} (h0 : 0 ≤ x) (h1 : x < 16777216) (h2 : 0 ≤ b) (h3 : b < 256) : bOr .u32 (shL .u32 x 8) (IntKind.wrap .u32 b) = x * 256 + b := by
  obtain ⟨x, rfl⟩ := Int.eq_ofNat_of_zero_le h0
  obtain ⟨b, rfl⟩ := Int.eq_ofNat_of_zero_le h2
  have e : shL .u32 (x : Int) 8 = ((x * 2 ^ 8 : Nat) : Int) := by
    unfold shL
    rw [show min (Int.toNat 8) (IntKind.bits .u32) = 8 from rfl, wrap_u32 (by omega) (by omega)]
    push_cast; rfl
  rw [e, wrap_u32 (by omega) (by omega), bOr_u32 8 (by omega) (by omega)]
  push_cast; omega

theorem eight {v : List Int} (h : v.length = 8) : ∃ a b c d e f g k, v = [a, b, c, d, e, f, g, k] := by
  match v, h with
  | [a, b, c, d, e, f, g, k], _ => exact ⟨a, b, c, d, e, f, g, k, rfl⟩
/-- The row of round numbers. -/
def KRow (w : World) : Prop := ∀ k : Nat, k < 64 → w.cell? ⟨1, k, none⟩ = some (.int .u32 (Ks.getD k 0))
theorem KRow.drew {w : World} (h : KRow w) : KRow w.drew := fun k hk => h k hk
theorem ks_tch {w w' : World} {s : List Nat} (h : Cells w ⟨1, 0, none⟩ (u32 Ks)) (ht : Tch s w w') (hn : 1 ∉ s) : Cells w' ⟨1, 0, none⟩ (u32 Ks) := fun i v hv => by
  have := h i v hv
  rw [add_mk] at this ⊢
  rw [World.cell?_of_block (w := w) (ht.block 1 (World.block_lt_of_cell? _ _ this) hn)]
  exact this
theorem krow {w : World} (h : Cells w ⟨1, 0, none⟩ (u32 Ks)) : KRow w := fun k hk => by
  have := h k _ (ints_get (show k < Ks.length from hk))
  rwa [add_mk, Nat.zero_add] at this
theorem mix_c (w : World) (hb : Nat) (hs bs : List Int) (a : Option Addr) (n c : Nat) (hh : Blk w hb (u32 hs)) (hl : hs.length = 8) (hr : RSl w 1 a n c (u8 bs)) (hn : 64 ≤ n) (hB : Bytes bs)
    (hk : Cells w ⟨1, 0, none⟩ (u32 Ks)) (h1 : 1 ≠ hb) :
    Calls Tryd.prog 44 #[.pointer (some ⟨hb, 0, none⟩), .slice a n c] w fun e w' =>
      e = .returned (.tuple #[]) ∧ Blk w' hb (u32 (mixS hs bs)) ∧ Tch [hb] w w' := by
  have hhlt := hh.lt
  have hcap := hr.cap
  refine c44 _ _ _ _ ?_
  unfold d44
  rintro w2 rfl
  refine ⟨fun m x w' => ∃ (k : Nat) (l : List Int), k ≤ 16 ∧ x = k ∧ m = 16 - k ∧ Blk w' w.heap.size (u32 l) ∧ l.length = 64 ∧ l.take k = (words bs).take k ∧ (∀ i, k ≤ i → l.getD i 0 = 0) ∧ Tch [] w w', ⟨16, 0, List.replicate 64 0, by omega, rfl, rfl, ?_, by simp, by simp, ?_, ?_⟩, ?_⟩
  · rw [zc96]
    have := Blk.new w (List.replicate 64 (.int .u32 0)).toArray 96
    simpa using this
  · exact fun i _ => getD_rep 64 i
  · exact (Tch.refl _ _).alloc _
  rintro m w5 x6 ⟨k, l, hk16, rfl, rfl, hW, hll, htk, hz, ht⟩
  by_cases hlt : k < 16
  · rw [bif_pos (by omega), wrap_i64 (n := 4 * (k : Int)) (by omega) (by omega), wrap_i64 (n := 4 * (k : Int) + 4) (by omega) (by omega),
      show Int.toNat (4 * (k : Int) + 4) = 4 * k + 4 by omega, show Int.toNat (4 * (k : Int)) = 4 * k by omega, show 4 * k + 4 - 4 * k = 4 by omega]
    refine ⟨by omega, by omega, by omega, by omega, ?_⟩
    refine ⟨fun m x w' => ∃ (j : Nat) (l : List Int), j ≤ 4 ∧ x = j ∧ m = 4 - j ∧ Blk w' w.heap.size (u32 l) ∧ l.length = 64 ∧ l.take k = (words bs).take k ∧ l.getD k 0 = part bs k j ∧ (∀ i, k + 1 ≤ i → l.getD i 0 = 0) ∧ Tch [] w w', ⟨4, 0, l, by omega, rfl, rfl, hW, hll, htk, hz k (Nat.le_refl _), fun i hi => hz i (by omega), ht⟩, ?_⟩
    rintro m w9 x10 ⟨j, l, hj4, rfl, rfl, hW, hll, htk, hp, hz, ht⟩
    by_cases hj : j < 4
    · rw [bif_pos (by omega)]
      have hr9 := (hr.below ht.below).sub (l := 4 * k) (hh := 4 * k + 4) (by omega) (by omega)
      rw [Nat.mul_one, show 4 * k + 4 - 4 * k = 4 by omega, Nat.mul_one] at hr9
      refine ⟨by omega, by omega, ?_⟩
      have hg : (List.take 4 (List.drop (4 * k) (u8 bs)))[j]? = some (.int .u8 (bs.getD (4 * k + j) 0)) := by
        have hbl := hr.len
        simp at hbl
        rw [List.getElem?_take, if_pos hj, List.getElem?_drop, ints_get (by omega)]
      obtain ⟨b, o, hab, hcell⟩ := hr9.get1 hg
      rw [Nat.mul_one, hab]
      refine ⟨bs.getD (4 * k + j) 0, ?_, by omega, by omega, l.getD k 0, ?_, by omega, by omega, by omega, rfl, ?_, ?_, ?_⟩
      · rw [add_mk, Int.toNat_natCast, Nat.mul_one]; exact hcell
      · rw [add_mk, Int.toNat_natCast, Nat.mul_one, Nat.zero_add]; exact hW.int (by omega)
      · rw [add_mk, Int.toNat_natCast, Nat.mul_one, Nat.zero_add, hW.int (by omega)]; rfl
      · rw [add_mk]; exact hW.frozen _
      rw [add_mk, Int.toNat_natCast, Nat.mul_one, Nat.zero_add]
      rintro w14 rfl
      have hpl := part_lt hB k j
      have hby := byte_of hB (4 * k + j)
      have hpow : (256 : Int) ^ j ≤ 16777216 := by
        have : j = 0 ∨ j = 1 ∨ j = 2 ∨ j = 3 := by omega
        rcases this with rfl | rfl | rfl | rfl <;> decide
      rw [hp, or_byte (by omega) (by omega) hby.1 hby.2, wrap_i64 (by omega) (by omega)]
      refine ⟨4 - (j + 1), by omega, j + 1, l.set k (part bs k (j + 1)), by omega, rfl, rfl, hW.setInt _ _, by simpa using hll, ?_, getD_set_self (by omega) _, fun i hi => ?_, ht.setCell (.inr (Nat.le_refl _)) _⟩
      · rw [take_set_lt (Nat.le_refl _), htk]
      · rw [getD_set_ne (by omega)]; exact hz i hi
    · have : j = 4 := by omega
      subst this
      rw [bif_neg (by omega), wrap_i64 (by omega) (by omega)]
      refine ⟨16 - (k + 1), by omega, k + 1, l, by omega, rfl, rfl, hW, hll, ?_, hz, ht⟩
      rw [List.take_succ_eq_append_getElem (by omega), htk, List.take_succ_eq_append_getElem (by rw [words_length]; omega)]
      congr 2
      have := hp
      rw [List.getD_eq_getElem?_getD, List.getElem?_eq_getElem (by omega), part_four] at this
      simpa [words] using this
  · have : k = 16 := by omega
    subst this
    rw [bif_neg (by omega)]
    clear hz
    replace htk : l.take 16 = sched (words bs) 0 := by rw [htk]; exact List.take_of_length_le (by rw [words_length]; omega)
    refine ⟨fun m x w' => ∃ (k : Nat) (l : List Int), 16 ≤ k ∧ k ≤ 64 ∧ x = k ∧ m = 64 - k ∧ Blk w' w.heap.size (u32 l) ∧ l.length = 64 ∧ l.take k = sched (words bs) (k - 16) ∧ Tch [] w w', ⟨48, 16, l, by omega, by omega, rfl, rfl, hW, hll, htk, ht⟩, ?_⟩
    clear hW hll htk ht l
    rintro m w5 x6 ⟨k, l, hk0, hk1, rfl, rfl, hW, hll, htk, ht⟩
    by_cases hlt : k < 64
    · rw [bif_pos (by omega)]
      rintro w21 rfl
      rw [wrap_i64 (n := (k : Int) - 2) (by omega) (by omega), wrap_i64 (n := (k : Int) - 15) (by omega) (by omega), wrap_i64 (n := (k : Int) - 7) (by omega) (by omega), wrap_i64 (n := (k : Int) - 16) (by omega) (by omega),
        show Int.toNat ((k : Int) - 2) = k - 2 by omega, show Int.toNat ((k : Int) - 15) = k - 15 by omega, show Int.toNat ((k : Int) - 7) = k - 7 by omega, show Int.toNat ((k : Int) - 16) = k - 16 by omega]
      simp only [add_mk, Nat.mul_one, Nat.zero_add, Int.toNat_natCast]
      have hW' := hW.drew.drew
      refine ⟨by omega, by omega, _, hW.drew.int (by omega), by omega, by omega, _, hW.drew.int (by omega), ?_⟩
      rintro w24 rfl
      refine ⟨by omega, by omega, by omega, _, hW'.int (by omega), by omega, by omega, by omega, _, hW'.int (by omega), ?_⟩
      refine (turned_c _ _ _ (by omega) (by omega)).mono ?_
      rintro e w' ⟨rfl, rfl⟩
      refine ⟨_, rfl, ⟨_, hW'.int (by omega), rfl, trivial⟩, ⟨_, hW'.int (by omega), rfl, trivial⟩, ?_⟩
      refine (turned_c _ _ _ (by omega) (by omega)).mono ?_
      rintro e w' ⟨rfl, rfl⟩
      refine ⟨_, rfl, ⟨_, hW'.int (by omega), rfl, trivial⟩, ⟨_, hW'.int (by omega), rfl, trivial⟩, ?_⟩
      refine (turned_c _ _ _ (by omega) (by omega)).mono ?_
      rintro e w' ⟨rfl, rfl⟩
      refine ⟨_, rfl, ⟨_, hW'.int (by omega), rfl, trivial⟩, ⟨_, hW'.int (by omega), rfl, trivial⟩, ?_⟩
      refine (turned_c _ _ _ (by omega) (by omega)).mono ?_
      rintro e w' ⟨rfl, rfl⟩
      refine ⟨_, rfl, ⟨_, hW'.int (by omega), rfl, trivial⟩, ⟨_, hW'.int (by omega), rfl, trivial⟩, ?_⟩
      refine ⟨by omega, by omega, rfl, by rw [hW'.int (by omega)]; rfl, hW'.frozen _, ?_⟩
      rintro w47 rfl
      rw [wrap_i64 (by omega) (by omega)]
      refine ⟨64 - (k + 1), by omega, k + 1, _, by omega, by omega, rfl, rfl, hW'.setInt _ _, by simpa using hll, ?_, ht.drew.drew.setCell (.inr (Nat.le_refl _)) _⟩
      rw [take_set_len (by omega), htk, show k + 1 - 16 = (k - 16) + 1 by omega, sched]
      congr 2
      unfold nextW
      rw [sched_length, words_length, ← htk, show 16 + (k - 16) - 2 = k - 2 by omega, show 16 + (k - 16) - 7 = k - 7 by omega, show 16 + (k - 16) - 15 = k - 15 by omega, show 16 + (k - 16) - 16 = k - 16 by omega,
        getD_take (by omega), getD_take (by omega), getD_take (by omega), getD_take (by omega)]
      rfl
    · have : k = 64 := by omega
      subst this
      rw [bif_neg (by omega)]
      have hll' : l = ws bs := by rw [← List.take_of_length_le (l := l) (i := 64) (by omega), htk]; rfl
      clear htk hlt
      rw [hll'] at hW
      have hh5 : Blk w5 hb (u32 hs) := hh.tch ht (by simp)
      refine ⟨u32 hs, by simp [hl], hh5.cells, ?_⟩
      rintro w51 rfl
      have hV0 : Blk (w5.alloc (.cells (zc Tryd.prog 91).toArray 91)) w5.heap.size (u32 (List.replicate 8 0)) := by
        rw [zc91]
        have := Blk.new w5 (List.replicate 8 (.int .u32 0)).toArray 91
        simpa using this
      have hW1 := hW.alloc (.cells (zc Tryd.prog 91).toArray 91)
      have ht1 := ht.alloc (.cells (zc Tryd.prog 91).toArray 91)
      have hsz := ht.size
      have hWlt := hW.lt
      refine ⟨by simp [hl], by simpa using ones_ints, hV0.room 0 8 (by simp), ?_⟩
      rintro w52 rfl
      have hV1 := hV0.sets (vs := u32 hs) (i := 0) (o := 0) (by simp [hl])
      rw [splice_all (by simp [hl])] at hV1
      have hW2 : Blk (setCells (w5.alloc (.cells (zc Tryd.prog 91).toArray 91)) ⟨w5.heap.size, 0, none⟩ (u32 hs) 0) w.heap.size (u32 (ws bs)) := hW1.of_heap (heap_setCells (by omega))
      have ht2 : Tch [] w (setCells (w5.alloc (.cells (zc Tryd.prog 91).toArray 91)) ⟨w5.heap.size, 0, none⟩ (u32 hs) 0) := Tch.setCells (.inr hsz) ht1
      have hW2' := hW2.tch (Tch.refl [] _) (by simp)
      generalize setCells (w5.alloc (.cells (zc Tryd.prog 91).toArray 91)) ⟨w5.heap.size, 0, none⟩ (u32 hs) 0 = W at *
      generalize hvb : w5.heap.size = vb at *
      clear hV0 hW1 ht1 hW2' hW ht hh5
      refine ⟨fun m x w' => ∃ k : Nat, k ≤ 64 ∧ x = k ∧ m = 64 - k ∧ Blk w' vb (u32 (rounds hs Ks (ws bs) k)) ∧ Blk w' w.heap.size (u32 (ws bs)) ∧ Tch [] w w', ⟨64, 0, by omega, rfl, rfl, hV1, hW2, ht2⟩, ?_⟩
      clear hV1 hW2 ht2 W
      rintro m w55 x56 ⟨k, hk64, rfl, rfl, hV, hW, ht⟩
      have hKc := KRow.drew (KRow.drew (krow (ks_tch hk ht (by simp))))
      have hlv := rounds_length (ks := Ks) (w := ws bs) hl k
      by_cases hlt : k < 64
      · rw [bif_pos (by omega)]
        generalize hv : rounds hs Ks (ws bs) k = v at *
        obtain ⟨a0, a1, a2, a3, a4, a5, a6, a7, rfl⟩ := eight hlv
        rintro w57 rfl
        simp only [add_mk, Nat.mul_one, Nat.zero_add, Int.toNat_natCast]
        have hV1 := hV.drew
        have hV2 := hV1.drew
        have hW2 := hW.drew.drew
        have c7 : World.cell? w55.drew.drew ⟨vb, Int.toNat 7, none⟩ = some (.int .u32 a7) := hV2.cell 7
        have cw : World.cell? w55.drew.drew ⟨w.heap.size, k, none⟩ = some (.int .u32 ((ws bs).getD k 0)) := hW2.int (by unfold ws; rw [sched_length, words_length]; omega)
        have ck : World.cell? w55.drew.drew ⟨1, k, none⟩ = some (.int .u32 (Ks.getD k 0)) := hKc k hlt
        refine ⟨by omega, by omega, a0, hV1.cell 0, by omega, by omega, a1, hV1.cell 1, by omega, by omega, a2, hV1.cell 2, by omega, by omega, a4, hV1.cell 4, by omega, by omega, a5, hV1.cell 5, by omega, by omega, a6, hV1.cell 6, ?_⟩
        rintro w64 rfl
        refine ⟨by omega, by omega, a7, c7, by omega, by omega, Ks.getD k 0, ck, by omega, by omega, (ws bs).getD k 0, cw, ?_⟩
        refine (turned_c _ _ _ (by omega) (by omega)).mono ?_
        rintro e w' ⟨rfl, rfl⟩
        refine ⟨_, rfl, ⟨_, cw, rfl, trivial⟩, ⟨_, ck, rfl, trivial⟩, ⟨_, c7, rfl, trivial⟩, ?_⟩
        refine (turned_c _ _ _ (by omega) (by omega)).mono ?_
        rintro e w' ⟨rfl, rfl⟩
        refine ⟨_, rfl, ⟨_, cw, rfl, trivial⟩, ⟨_, ck, rfl, trivial⟩, ⟨_, c7, rfl, trivial⟩, ?_⟩
        refine (turned_c _ _ _ (by omega) (by omega)).mono ?_
        rintro e w' ⟨rfl, rfl⟩
        refine ⟨_, rfl, ⟨_, cw, rfl, trivial⟩, ⟨_, ck, rfl, trivial⟩, ⟨_, c7, rfl, trivial⟩, ?_⟩
        refine (turned_c _ _ _ (by omega) (by omega)).mono ?_
        rintro e w' ⟨rfl, rfl⟩
        refine ⟨_, rfl, ?_⟩
        refine (turned_c _ _ _ (by omega) (by omega)).mono ?_
        rintro e w' ⟨rfl, rfl⟩
        refine ⟨_, rfl, ?_⟩
        refine (turned_c _ _ _ (by omega) (by omega)).mono ?_
        rintro e w' ⟨rfl, rfl⟩
        refine ⟨_, rfl, ?_⟩
        rintro w95 rfl
        refine ⟨by omega, by omega, by omega, by omega, ?_⟩
        refine cpy (g := vb) (o := 1) (dn := 7) (b := some ⟨vb, 0, none⟩) (sn := 7) (e := 90) (bytes := 4) (by kernel_rfl) hV2.drew ⟨by omega, rfl, ?_, .inr ⟨vb, 0, rfl, (hV2.drew.cells_at 0 7)⟩⟩ (by simp) ?_
        · exact fun u hu => ones_ints u (List.mem_of_mem_take hu)
        intro w97 hV3 ht3 _
        replace hV3 : Blk w97 vb (u32 [a0, a0, a1, a2, a3, a4, a5, a6]) := hV3
        refine ⟨_, rfl, by omega, by omega, a3, hV3.cell 4, by omega, by omega, rfl, by rw [show Int.toNat 4 = 4 from rfl, hV3.cell]; rfl, hV3.frozen _, ?_⟩
        rintro w100 rfl
        have hV4 := hV3.setInt 4 (ad a3 (t1 a4 a5 a6 a7 (Ks.getD k 0) ((ws bs).getD k 0)))
        refine ⟨by omega, by omega, rfl, by rw [show Int.toNat 0 = 0 from rfl]; erw [hV4.cell]; rfl, hV4.frozen _, ?_⟩
        rintro w101 rfl
        rw [wrap_i64 (by omega) (by omega)]
        have hne : vb ≠ w.heap.size := by omega
        refine ⟨64 - (k + 1), by omega, k + 1, by omega, rfl, rfl, ?_, ?_, ?_⟩
        · have hV5 := hV4.setInt 0 (ad (t1 a4 a5 a6 a7 (Ks.getD k 0) ((ws bs).getD k 0)) (t2 a0 a1 a2))
          rw [rounds, hv]
          exact hV5
        · refine Blk.set_ne (Blk.set_ne (hW2.drew.tch ht3 (by simp; omega)) ?_ _) ?_ _ <;> exact Ne.symm hne
        · exact Tch.setCell (Tch.setCell (ht.drew.drew.drew.trans ht3 (by simp; omega)) (.inr (by show _ ≤ vb; omega)) _) (.inr (by show _ ≤ vb; omega)) _
      · have : k = 64 := by omega
        subst this
        rw [bif_neg (by omega)]
        clear hlt
        refine ⟨fun m x w' => ∃ (k : Nat) (l : List Int), k ≤ 8 ∧ x = k ∧ m = 8 - k ∧ Blk w' vb (u32 (rounds hs Ks (ws bs) 64)) ∧ Blk w' hb (u32 l) ∧ l.length = 8 ∧ l.take k = (mixS hs bs).take k ∧ (∀ i, k ≤ i → l.getD i 0 = hs.getD i 0) ∧ Tch [hb] w w', ⟨8, 0, hs, by omega, rfl, rfl, hV, hh.tch ht (by simp), hl, rfl, fun _ _ => rfl, ht.weaken (by simp)⟩, ?_⟩
        clear hV hW ht
        rintro m w5 x6 ⟨k, l, hk8, rfl, rfl, hV, hH, hll, htk, hz, ht⟩
        have hml := mixS_length (bs := bs) hl
        by_cases hlt : k < 8
        · rw [bif_pos (by omega)]
          rintro w107 rfl
          have hV1 := hV.drew
          have hH1 := hH.drew
          simp only [optK, add_mk, Nat.mul_one, Nat.zero_add, Int.toNat_natCast]
          refine ⟨by omega, by omega, _, hH1.int (by omega), by omega, by omega, _, hV1.int (by omega), by omega, by omega, rfl, by rw [hH1.int (by omega)]; rfl, hH1.frozen _, ?_⟩
          rintro w112 rfl
          rw [wrap_i64 (by omega) (by omega)]
          refine ⟨8 - (k + 1), by omega, k + 1, _, by omega, rfl, rfl, hV1.set_ne (by show vb ≠ hb; omega) _, hH1.setInt _ _, by simpa using hll, ?_, ?_, ht.drew.setCell (.inl (by simp)) _⟩
          · rw [take_set_len (by omega), htk, hz k (Nat.le_refl _), List.take_succ_eq_append_getElem (by omega)]
            congr 2
            simp [mixS, ad, List.getD_eq_getElem?_getD, List.getElem?_eq_getElem (show k < hs.length by omega), List.getElem?_eq_getElem (show k < (rounds hs Ks (ws bs) 64).length by omega)]
          · intro i hi
            rw [getD_set_ne (by omega)]; exact hz i (by omega)
        · have : k = 8 := by omega
          subst this
          rw [bif_neg (by omega)]
          have : l = mixS hs bs := by rw [← List.take_of_length_le (l := l) (i := 8) (by omega), htk, List.take_of_length_le (by omega)]
          rw [this] at hH
          exact ⟨rfl, hH, ht⟩
end Go.Proofs.YtjkbjppopdfggaaDoor.Sha
