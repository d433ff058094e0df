/-
  THE DIGEST: proof.Sum.
  Own work. No macro, syntax, notation, axiom.
-/
import Derived.Test.YtjkbjppopdfggaaDoorShaW2
namespace Go.Proofs.YtjkbjppopdfggaaDoor.Sha
open Go Den Fn
open Go.RowKit (Below)
set_option maxRecDepth 8000
set_option maxHeartbeats 1000000

theorem getD_append {a b : List Int} {i : Nat} (h : i < a.length) : (a ++ b).getD i 0 = a.getD i 0 := by
  simp [List.getD_eq_getElem?_getD, List.getElem?_append, h]
theorem mixS_append {h a b : List Int} (hl : 64 ≤ a.length) : mixS h (a ++ b) = mixS h a := by
  have : words (a ++ b) = words a := by
    unfold words
    apply List.map_congr_left
    intro i hi
    rw [List.mem_range] at hi
    unfold word
    rw [getD_append (by omega), getD_append (by omega), getD_append (by omega), getD_append (by omega)]
  unfold mixS ws
  rw [this]
theorem blocks_succ : ∀ {n : Nat} {h bs : List Int}, blocks h bs (n + 1) = mixS (blocks h bs n) (bs.drop (64 * n))
  | 0, _, _ => rfl
  | n + 1, h, bs => by
    rw [blocks, blocks_succ, List.drop_drop]
    rw [show 64 + 64 * n = 64 * (n + 1) by omega]
    rfl
theorem lenBytes_length (n : Nat) : (lenBytes n).length = 8 := by simp [lenBytes]
theorem pad_length (bs : List Int) : (pad bs).length = bs.length + 1 + zeros bs.length + 8 := by
  simp [pad, lenBytes_length]; omega
theorem lenBytes_take {n i : Nat} (h : i < 8) : (lenBytes n).take (i + 1) = (lenBytes n).take i ++ [IntKind.wrap .u8 (shR .u64 (IntKind.wrap .u64 (IntKind.wrap .u64 (n : Int) * 8)) (56 - 8 * (i : Int)))] := by
  rw [List.take_succ_eq_append_getElem (by rw [lenBytes_length]; exact h)]
  simp [lenBytes]
theorem outB_length (h : List Int) : (outB h).length = 32 := by simp [outB]
theorem wrap_u8_byte (x : Int) : 0 ≤ IntKind.wrap .u8 x ∧ IntKind.wrap .u8 x < 256 := by rw [wrap_u8_eq]; omega
theorem pad_bytes {bs : List Int} (h : Bytes bs) : Bytes (pad bs) := by
  intro x hx
  simp only [pad, List.mem_append, List.mem_singleton, List.mem_replicate] at hx
  rcases hx with ((hx | rfl) | ⟨_, rfl⟩) | hx
  · exact h x hx
  · omega
  · omega
  · simp only [lenBytes, List.mem_map] at hx
    obtain ⟨i, _, rfl⟩ := hx
    exact wrap_u8_byte _
theorem drop_bytes {bs : List Int} (h : Bytes bs) (n : Nat) : Bytes (bs.drop n) := fun x hx => h x (List.mem_of_mem_drop hx)
theorem u8_len {w : World} {a : Option Addr} {n c : Nat} {bs : List Int} (h : RSl w 1 a n c (u8 bs)) : bs.length = n := by have := h.len; simpa using this

theorem sum_c (w : World) (bs : List Int) (a : Option Addr) (n c : Nat) (hr : RSl w 1 a n c (u8 bs)) (hB : Bytes bs)
    (hk : Cells w ⟨1, 0, none⟩ (u32 Ks)) (h0 : Cells w ⟨0, 0, none⟩ (u32 Hs)) :
    Calls Tryd.prog 12 #[.slice a n c] w fun e w' =>
      e = .returned (.agg (u8 (sha bs)).toArray) ∧ Tch [] w w' := by
  have hcap := hr.cap
  have hn := u8_len hr
  have hw1 : 1 < w.heap.size := by
    have := hk 0 _ rfl
    rw [add_mk] at this
    exact World.block_lt_of_cell? _ _ this
  refine c12 _ _ _ ?_
  unfold d12
  rintro w1 rfl
  have hO : Blk _ _ (u8 (List.replicate 32 0)) := Blk.fresh w 24 (zc24.trans (by simp))
  have ht := (Tch.refl [] w).alloc (.cells (zc Tryd.prog 24).toArray 24)
  have hs1 := size_alloc w (.cells (zc Tryd.prog 24).toArray 24)
  rw [hs1]
  refine ⟨u32 Hs, rfl, fun i v hv => ?_, ?_⟩
  · have := h0 i v hv
    rw [add_mk] at this ⊢
    rw [World.cell?_of_block (w := w) (ht.block 0 (World.block_lt_of_cell? _ _ this) (by simp))]
    exact this
  rintro w3 rfl
  have hH : Blk _ _ (u32 (List.replicate 8 0)) := Blk.fresh (w.alloc (.cells (zc Tryd.prog 24).toArray 24)) 91 (zc91.trans (by simp))
  rw [hs1] at hH
  replace hO := hO.alloc (.cells (zc Tryd.prog 91).toArray 91)
  replace ht := ht.alloc (.cells (zc Tryd.prog 91).toArray 91)
  refine ⟨rfl, by simpa using ones_ints, hH.room 0 8 (by simp), ?_⟩
  rintro w4 rfl
  replace hH := hH.sets (vs := u32 Hs) (i := 0) (o := 0) (by simp [Hs])
  rw [splice_all (by simp [Hs])] at hH
  replace ht : Tch [] w (setCells ((w.alloc (.cells (zc Tryd.prog 24).toArray 24)).alloc (.cells (zc Tryd.prog 91).toArray 91)) ⟨w.heap.size + 1, 0, none⟩ (u32 Hs) 0) := Tch.setCells (.inr (by omega)) ht
  replace hO := hO.of_heap (heap_setCells (vs := u32 Hs) (i := 0) (b := w.heap.size + 1) (o := 0) (by omega))
  generalize setCells ((w.alloc (.cells (zc Tryd.prog 24).toArray 24)).alloc (.cells (zc Tryd.prog 91).toArray 91)) ⟨w.heap.size + 1, 0, none⟩ (u32 Hs) 0 = W at *
  have hpl := pad_length bs
  have hpB := pad_bytes hB
  have hdr : ∀ k, 64 * k ≤ n → (pad bs).drop (64 * k) = bs.drop (64 * k) ++ ([128] ++ List.replicate (zeros bs.length) 0 ++ lenBytes bs.length) := by
    intro k hk
    unfold pad
    rw [List.append_assoc, List.append_assoc, List.drop_append_of_le_length (by omega), List.append_assoc]
  refine ⟨fun m a n' c' w' => ∃ k : Nat, 64 * k ≤ n ∧ n' = n - 64 * k ∧ m = n' ∧ RSl w 1 a n' c' (u8 (bs.drop (64 * k))) ∧ Blk w' (w.heap.size + 1) (u32 (blocks Hs (pad bs) k)) ∧ Blk w' w.heap.size (u8 (List.replicate 32 0)) ∧ Tch [] w w', ⟨n, 0, by omega, by omega, rfl, by simpa using hr, hH, hO, ht⟩, ?_⟩
  clear hH hO ht hs1
  rintro m w7 a' n' c' ⟨k, hkn, rfl, rfl, hr', hH, hO, ht⟩
  have hcap' := hr'.cap
  by_cases hlt : 64 ≤ n - 64 * k
  · rw [bif_pos (by omega)]
    refine (mix_c w7 (w.heap.size + 1) _ _ a' _ c' hH (blocks_length rfl) (hr'.below ht.below) hlt (drop_bytes hB _) (ks_tch hk ht (by simp)) (by omega)).mono ?_
    rintro e w' ⟨rfl, hH', ht'⟩
    refine ⟨rfl, by omega, by omega, n - 64 * (k + 1), by omega, k + 1, by omega, by show n - 64 * k - 64 = _; omega, rfl, ?_, ?_, hO.tch ht' (by simp), ht.trans ht' (by simp)⟩
    · have := hr'.sub (l := 64) (hh := n - 64 * k) (by omega) (Nat.le_refl _)
      rw [← List.map_drop, ← List.map_take, List.drop_drop, List.take_of_length_le (by simp; omega)] at this
      rw [show 64 * (k + 1) = 64 * k + 64 * 1 by omega]
      exact this
    · rw [blocks_succ, hdr k hkn, mixS_append (by simp; omega)]
      exact hH'
  · rw [bif_neg (by omega)]
    have hlen : (bs.drop (64 * k)).length = n - 64 * k := by simp; omega
    have hr64 : n - 64 * k < 64 := by omega
    have hsz := ht.size
    have hb2 := hH.lt
    have hz1 : zeros bs.length = (119 - (n - 64 * k)) % 64 := by unfold zeros; omega
    have hz2 : zeros bs.length < 64 := Nat.mod_lt _ (by omega)
    have hT : slT Tryd.prog 22 5 1 1 = true := by kernel_rfl
    have hoff : ∀ i ∈ [w.heap.size, w.heap.size + 1], i < w.heap.size + 2 := by simp
    refine app_own hT (own_nil w7 (w.heap.size + 2) 5 1) (hr'.below ht.below) (by omega) (by omega) (by omega) ?_
    rw [Nat.zero_add, List.nil_append]
    intro b c1 w13 hown hg
    replace ht := ht.grown hg (by intro k hk; cases hk)
    replace hH := hH.of_heap (hg.block _ hH.lt (by intro h; cases h))
    replace hO := hO.of_heap (hg.block _ hO.lt (by intro h; cases h))
    refine ⟨b, _, c1, rfl, [.int .u8 128], by rw [zc5]; rfl, ?_⟩
    rintro w16 rfl
    have hn1 : RSl (w13.alloc (.cells [Value.int .u8 128].toArray 5)) 1 (some ⟨w13.heap.size, 0, none⟩) 1 1 (u8 [128]) := (Blk.fresh w13 (cs := [Value.int .u8 128]) 5 rfl).rsl rfl (ones_ints (l := [128]))
    have hsz13 := ht.size
    have hb13 := hH.lt
    refine app_own hT (own_alloc hown _) hn1 (by rw [size_alloc]; omega) (by omega) (by omega) ?_
    replace ht := ht.alloc (.cells [Value.int .u8 128].toArray 5)
    replace hH := hH.alloc (.cells [Value.int .u8 128].toArray 5)
    replace hO := hO.alloc (.cells [Value.int .u8 128].toArray 5)
    intro b2 c2 w18 hown2 hg2
    replace ht := ht.grown hg2 (fun k hk => .inr (by have := (own_lt hown hk).1; omega))
    replace hH := hH.of_heap (hg2.block _ hH.lt (by intro h; have := (own_lt hown h.symm).1; omega))
    replace hO := hO.of_heap (hg2.block _ hO.lt (by intro h; have := (own_lt hown h.symm).1; omega))
    refine ⟨b2, _, c2, rfl, ?_⟩
    clear hg hg2 hown hn1 hsz13 hb13 hlt hsz hb2
    refine ⟨fun m a' n' c' w' => ∃ j : Nat, j ≤ zeros bs.length ∧ n' = n - 64 * k + 1 + j ∧ m = zeros bs.length - j ∧ w'.ownsRow (w.heap.size + 2) 5 1 (.slice a' n' c') n' (u8 (bs.drop (64 * k) ++ [128] ++ List.replicate j 0)) ∧ Blk w' (w.heap.size + 1) (u32 (blocks Hs (pad bs) k)) ∧ Blk w' w.heap.size (u8 (List.replicate 32 0)) ∧ Tch [] w w', ⟨zeros bs.length, 0, by omega, rfl, by omega, by simpa using hown2, hH, hO, ht⟩, ?_⟩
    clear hown2 hH hO ht
    rintro m w22 a2 n2 c2 ⟨j, hjz, rfl, rfl, hown, hH, hO, ht⟩
    have hsz := ht.size
    have hb22 := hH.lt
    refine ⟨by omega, ?_⟩
    rw [show (64 : Int) = ((64 : Nat) : Int) from rfl, tmod_nat]
    by_cases hlt : j < zeros bs.length
    · rw [bif_nneg (by omega)]
      refine ⟨[.int .u8 0], by rw [zc5]; rfl, ?_⟩
      rintro w25 rfl
      have hn1 : RSl (w22.alloc (.cells [Value.int .u8 0].toArray 5)) 1 (some ⟨w22.heap.size, 0, none⟩) 1 1 (u8 [0]) := (Blk.fresh w22 (cs := [Value.int .u8 0]) 5 rfl).rsl rfl (ones_ints (l := [0]))
      refine app_own hT (own_alloc hown _) hn1 (by rw [size_alloc]; omega) (by omega) (by omega) ?_
      intro b3 c3 w27 hown3 hg
      refine ⟨b3, _, c3, rfl, zeros bs.length - (j + 1), by omega, j + 1, by omega, rfl, rfl, ?_, (hH.alloc _).of_heap (hg.block _ (hH.alloc _).lt (by intro h; have := (own_lt hown h.symm).1; omega)), (hO.alloc _).of_heap (hg.block _ (hO.alloc _).lt (by intro h; have := (own_lt hown h.symm).1; omega)),
        (ht.alloc _).grown hg (fun k hk => .inr (by have := (own_lt hown hk).1; omega))⟩
      rw [← List.map_append, List.append_assoc _ _ [0]] at hown3
      rw [List.replicate_succ']
      exact hown3
    · have : j = zeros bs.length := by omega
      rw [bif_npos (by omega)]
      subst this
      refine ⟨fun m a' n' c' x w' => ∃ j : Nat, j ≤ 8 ∧ x = 56 - 8 * (j : Int) ∧ n' = n - 64 * k + 1 + zeros bs.length + j ∧ m = 8 - j ∧ w'.ownsRow (w.heap.size + 2) 5 1 (.slice a' n' c') n' (u8 (bs.drop (64 * k) ++ [128] ++ List.replicate (zeros bs.length) 0 ++ (lenBytes bs.length).take j)) ∧ Blk w' (w.heap.size + 1) (u32 (blocks Hs (pad bs) k)) ∧ Blk w' w.heap.size (u8 (List.replicate 32 0)) ∧ Tch [] w w', ⟨8, 0, by omega, rfl, rfl, rfl, by rw [List.take_zero, List.append_nil]; exact hown, hH, hO, ht⟩, ?_⟩
      clear hown hH hO ht hsz hb22 hlt hjz
      rintro m w32 a3 n3 c3 x ⟨j, hj8, rfl, rfl, rfl, hown, hH, hO, ht⟩
      have hsz := ht.size
      have hb22 := hH.lt
      by_cases hlt : j < 8
      · rw [bif_pos (by omega)]
        refine ⟨by omega, [.int .u8 _], by rw [zc5]; rfl, ?_⟩
        rintro w36 rfl
        generalize hx : IntKind.wrap .u8 (shR .u64 (IntKind.wrap .u64 (IntKind.wrap .u64 (n : Int) * 8)) (56 - 8 * (j : Int))) = x
        have hx' : IntKind.wrap .u8 (shR .u64 (IntKind.wrap .u64 (IntKind.wrap .u64 (bs.length : Int) * 8)) (56 - 8 * (j : Int))) = x := by rw [hn]; exact hx
        have hn1 : RSl (w32.alloc (.cells [Value.int .u8 x].toArray 5)) 1 (some ⟨w32.heap.size, 0, none⟩) 1 1 (u8 [x]) := (Blk.fresh w32 (cs := [Value.int .u8 x]) 5 rfl).rsl rfl (ones_ints (l := [x]))
        refine app_own hT (own_alloc hown _) hn1 (by rw [size_alloc]; omega) (by omega) (by omega) ?_
        intro b3 c3 w38 hown3 hg
        rw [wrap_i64 (by omega) (by omega)]
        refine ⟨b3, _, c3, rfl, 8 - (j + 1), by omega, j + 1, by omega, by omega, rfl, rfl, ?_, (hH.alloc _).of_heap (hg.block _ (hH.alloc _).lt (by intro h; have := (own_lt hown h.symm).1; omega)), (hO.alloc _).of_heap (hg.block _ (hO.alloc _).lt (by intro h; have := (own_lt hown h.symm).1; omega)),
          (ht.alloc _).grown hg (fun k hk => .inr (by have := (own_lt hown hk).1; omega))⟩
        rw [lenBytes_take hlt, hx', ← List.append_assoc]
        rw [← List.map_append] at hown3
        exact hown3
      · have : j = 8 := by omega
        subst this
        rw [bif_neg (by omega)]
        rw [List.take_of_length_le (by rw [lenBytes_length]; omega), List.append_assoc, List.append_assoc, ← List.append_assoc [128], ← hdr k hkn] at hown
        clear hlt hj8
        have hrt := own_rsl hown ones_ints
        have hoffT := own_off hown hoff
        have hrt' := hrt
        have hb32 := hO.lt
        generalize hN : n - 64 * k + 1 + zeros bs.length + 8 = N at *
        obtain ⟨Q, hQ⟩ : ∃ Q, (pad bs).length = 64 * Q := ⟨(pad bs).length / 64, by omega⟩
        have hNQ : N = 64 * Q - 64 * k := by omega
        refine ⟨fun m a' n' c' w' => ∃ j : Nat, j ≤ Q ∧ n' = 64 * Q - 64 * j ∧ m = n' ∧ RSl w32 1 a' n' c' (u8 ((pad bs).drop (64 * j))) ∧ Off [w.heap.size, w.heap.size + 1] a' ∧ Blk w' (w.heap.size + 1) (u32 (blocks Hs (pad bs) j)) ∧ Tch [w.heap.size + 1] w32 w', ⟨N, k, by omega, hNQ, rfl, hrt, hoffT, hH, Tch.refl _ _⟩, ?_⟩
        clear hown hrt hoffT hrt' hH
        rintro m w43 a4 n4 c4 ⟨j, hjQ, rfl, rfl, hr4, hoff4, hH, ht4⟩
        have hcap4 := hr4.cap
        have ht43 : Tch [] w w43 := ht.trans ht4 (by simp)
        by_cases hlt : j < Q
        · rw [bif_pos (by omega)]
          have hoff4' : Off [w.heap.size + 1] a4 := fun x hx hm => hoff4 x hx (by simp at hm; simp [hm])
          refine (mix_c w43 (w.heap.size + 1) _ _ a4 _ c4 hH (blocks_length rfl) (hr4.tch ht4 hoff4') (by omega) (drop_bytes hpB _) (ks_tch hk ht43 (by simp)) (by omega)).mono ?_
          rintro e w' ⟨rfl, hH', ht'⟩
          refine ⟨rfl, by omega, by omega, 64 * Q - 64 * (j + 1), by omega, j + 1, by omega, by show 64 * Q - 64 * j - 64 = _; omega, rfl, ?_, hoff4.sub _ _, ?_, ht4.trans ht' (by simp)⟩
          · have := hr4.sub (l := 64) (hh := 64 * Q - 64 * j) (by omega) (Nat.le_refl _)
            rw [← List.map_drop, ← List.map_take, List.drop_drop, List.take_of_length_le (by simp; omega)] at this
            rw [show 64 * (j + 1) = 64 * j + 64 * 1 by omega]
            exact this
          · rw [blocks_succ]
            exact hH'
        · have : j = Q := by omega
          subst this
          rw [bif_neg (by omega)]
          replace hO := hO.tch ht4 (by simp)
          rintro w48 rfl
          have hD : Blk _ _ (u8 (List.replicate 32 0)) := Blk.fresh w43 24 (zc24.trans (by simp))
          replace hO := hO.alloc (.cells (zc Tryd.prog 24).toArray 24)
          replace hH := hH.alloc (.cells (zc Tryd.prog 24).toArray 24)
          have ht := ht43.alloc (.cells (zc Tryd.prog 24).toArray 24)
          have hs43 := ht43.size
          have hb43 : w.heap.size + 1 < w43.heap.size := by have := ht4.size; omega
          have hsha : sha bs = outB (blocks Hs (pad bs) j) := by unfold sha; rw [hQ, Nat.mul_div_cancel_left _ (by omega)]
          have hbl : (blocks Hs (pad bs) j).length = 8 := blocks_length rfl
          generalize blocks Hs (pad bs) j = hs at *
          refine ⟨fun m x w' => ∃ (i : Nat) (l : List Int), i ≤ 32 ∧ x = i ∧ m = 32 - i ∧ Blk w' w43.heap.size (u8 l) ∧ l.length = 32 ∧ l.take i = (outB hs).take i ∧ Blk w' (w.heap.size + 1) (u32 hs) ∧ Blk w' w.heap.size (u8 (List.replicate 32 0)) ∧ Tch [] w w', ⟨32, 0, _, by omega, rfl, rfl, hD, by simp, rfl, hH, hO, ht⟩, ?_⟩
          clear hD hO hH ht
          rintro m w51 x ⟨i, l, hi, rfl, rfl, hD, hll, htk, hH, hO, ht⟩
          by_cases hlt : i < 32
          · rw [bif_pos (by omega)]
            have e1 : Int.tdiv (i : Int) 4 = ((i / 4 : Nat) : Int) := tdiv_nat i 4
            have e2 : Int.tmod (i : Int) 4 = ((i % 4 : Nat) : Int) := tmod_nat i 4
            rw [e1, e2, wrap_i64 (n := ((i / 4 : Nat) : Int)) (by omega) (by omega), wrap_i64 (n := 8 * ((i % 4 : Nat) : Int)) (by omega) (by omega), wrap_i64 (n := 24 - 8 * ((i % 4 : Nat) : Int)) (by omega) (by omega)]
            simp only [add_mk, Nat.mul_one, Nat.zero_add, Int.toNat_natCast]
            refine ⟨by omega, by omega, by omega, _, hH.int (by omega), by omega, by omega, by omega, by omega, rfl, by rw [hD.int (by omega)]; rfl, hD.frozen _, ?_⟩
            rintro w54 rfl
            rw [wrap_i64 (by omega) (by omega)]
            refine ⟨32 - (i + 1), by omega, i + 1, _, by omega, rfl, rfl, hD.setInt _ _, by simpa using hll, ?_, hH.set_ne (by show _ ≠ w43.heap.size; omega) _, hO.set_ne (by show _ ≠ w43.heap.size; omega) _, ht.setCell (.inr (by show _ ≤ w43.heap.size; omega)) _⟩
            rw [take_set_len (by omega), htk, List.take_succ_eq_append_getElem (by rw [outB_length]; omega)]
            simp [outB]
          · have : i = 32 := by omega
            subst this
            rw [bif_neg (by omega)]
            have hl : l = sha bs := by rw [hsha, ← List.take_of_length_le (l := l) (i := 32) (by omega), htk, List.take_of_length_le (by rw [outB_length]; omega)]
            rw [hl] at hD
            have hsl : (u8 (sha bs)).length = 32 := by simp [hsha, outB_length]
            refine ⟨u8 (sha bs), hsl, hD.cells, by simpa using hsl, by simpa using ones_ints, hO.room 0 32 (by simp), ?_⟩
            rintro w57 rfl
            have hO2 := hO.sets (vs := u8 (sha bs)) (i := 0) (o := 0) (by rw [hsl]; simp)
            rw [splice_all (by rw [hsl]; simp)] at hO2
            exact ⟨u8 (sha bs), hsl, hO2.cells, rfl, Tch.setCells (.inr (Nat.le_refl _)) ht⟩
end Go.Proofs.YtjkbjppopdfggaaDoor.Sha
