/-
  THE DIGEST, as the reference has it: the constants, the padded text, the words of a block.
  Own work. No macro, syntax, notation, axiom.
-/
import Derived.Test.YtjkbjppopdfggaaDoorShaW3
namespace Go.Proofs.YtjkbjppopdfggaaDoor.Sha
open Go Den Fn
open Go.RowKit (Below)
set_option maxRecDepth 8000
set_option maxHeartbeats 1000000

theorem roots_c (w : World) : Calls Tryd.prog 45 #[] w fun e w' => e = .returned (.agg (u32 Hs).toArray) ∧ Tch [] w w' := by
  refine c45 ?_
  unfold d45
  rintro w0 rfl
  have hX : Blk _ _ (u32 (List.replicate 8 0)) := Blk.fresh w 91 (zc91.trans (by simp))
  have ht := (Tch.refl [] w).alloc (.cells (zc Tryd.prog 91).toArray 91)
  refine ⟨u32 Hs, by rw [zc91]; rfl, rfl, by simpa using ones_ints, hX.room 0 8 (by simp), ?_⟩
  rintro w2 rfl
  replace hX := hX.sets (vs := u32 Hs) (i := 0) (o := 0) (by simp [Hs])
  rw [splice_all (by simp [Hs])] at hX
  exact ⟨u32 Hs, rfl, hX.cells, rfl, Tch.setCells (.inr (Nat.le_refl _)) ht⟩
theorem cubes_c (w : World) : Calls Tryd.prog 46 #[] w fun e w' => e = .returned (.agg (u32 Ks).toArray) ∧ Tch [] w w' := by
  refine c46 ?_
  unfold d46
  rintro w0 rfl
  have hX : Blk _ _ (u32 (List.replicate 64 0)) := Blk.fresh w 96 (zc96.trans (by simp))
  have ht := (Tch.refl [] w).alloc (.cells (zc Tryd.prog 96).toArray 96)
  refine ⟨u32 Ks, by rw [zc96]; rfl, rfl, by simpa using ones_ints, hX.room 0 64 (by simp), ?_⟩
  rintro w2 rfl
  replace hX := hX.sets (vs := u32 Ks) (i := 0) (o := 0) (by simp [Ks])
  rw [splice_all (by simp [Ks])] at hX
  exact ⟨u32 Ks, rfl, hX.cells, rfl, Tch.setCells (.inr (Nat.le_refl _)) ht⟩

theorem padded_c (w : World) (bs : List Int) (a : Option Addr) (n c : Nat) (hr : RSl w 1 a n c (u8 bs)) (hN : n ≤ 140737488351232) :
    Calls Tryd.prog 47 #[.slice a n c] w fun e w' => ∃ a' c', e = .returned (.slice a' (pad bs).length c') ∧
      RSl w' 1 a' (pad bs).length c' (u8 (pad bs)) ∧ Off (List.range w.heap.size) a' ∧ Tch [] w w' := by
  have hcap := hr.cap
  have hn := u8_len hr
  refine c47 _ _ _ ?_
  unfold d47
  have hz1 : zeros bs.length = (119 - n % 64) % 64 := by unfold zeros; rw [hn]
  have hz2 : zeros bs.length < 64 := Nat.mod_lt _ (by omega)
  have hT : slT Tryd.prog 22 5 1 1 = true := by kernel_rfl
  refine app_own hT (own_nil w w.heap.size 5 1) hr (Nat.le_refl _) (by omega) (by omega) ?_
  rw [Nat.zero_add, List.nil_append]
  intro b c1 w13 hown hg
  have ht := (Tch.refl [] w).grown hg (by intro k hk; cases hk)
  refine ⟨b, _, c1, rfl, [.int .u8 128], by rw [zc5]; rfl, ?_⟩
  rintro w16 rfl
  have hn1 : RSl (w13.alloc (.cells [Value.int .u8 128].toArray 5)) 1 (some ⟨w13.heap.size, 0, none⟩) 1 1 (u8 [128]) := (Blk.fresh w13 (cs := [Value.int .u8 128]) 5 rfl).rsl rfl (ones_ints (l := [128]))
  have hsz13 := ht.size
  refine app_own hT (own_alloc hown _) hn1 (by rw [size_alloc]; omega) (by omega) (by omega) ?_
  replace ht := ht.alloc (.cells [Value.int .u8 128].toArray 5)
  intro b2 c2 w18 hown2 hg2
  replace ht := ht.grown hg2 (fun k hk => .inr (own_lt hown hk).1)
  refine ⟨b2, _, c2, rfl, ?_⟩
  clear hg hg2 hown hn1 hsz13
  refine ⟨fun m a' n' c' w' => ∃ j : Nat, j ≤ zeros bs.length ∧ n' = n + 1 + j ∧ m = zeros bs.length - j ∧ w'.ownsRow w.heap.size 5 1 (.slice a' n' c') n' (u8 (bs ++ [128] ++ List.replicate j 0)) ∧ Tch [] w w', ⟨zeros bs.length, 0, by omega, rfl, by omega, by simpa using hown2, ht⟩, ?_⟩
  clear hown2 ht
  rintro m w22 a2 n2 c2 ⟨j, hjz, rfl, rfl, hown, ht⟩
  have hsz := ht.size
  refine ⟨by omega, ?_⟩
  rw [show (64 : Int) = ((64 : Nat) : Int) from rfl, tmod_nat]
  by_cases hlt : j < zeros bs.length
  · rw [bif_nneg (by omega)]
    refine ⟨[.int .u8 0], by rw [zc5]; rfl, ?_⟩
    rintro w25 rfl
    have hn1 : RSl (w22.alloc (.cells [Value.int .u8 0].toArray 5)) 1 (some ⟨w22.heap.size, 0, none⟩) 1 1 (u8 [0]) := (Blk.fresh w22 (cs := [Value.int .u8 0]) 5 rfl).rsl rfl (ones_ints (l := [0]))
    refine app_own hT (own_alloc hown _) hn1 (by rw [size_alloc]; omega) (by omega) (by omega) ?_
    intro b3 c3 w27 hown3 hg
    refine ⟨b3, _, c3, rfl, zeros bs.length - (j + 1), by omega, j + 1, by omega, rfl, rfl, ?_, (ht.alloc _).grown hg (fun k hk => .inr (own_lt hown hk).1)⟩
    rw [← List.map_append, List.append_assoc _ _ [0]] at hown3
    rw [List.replicate_succ']
    exact hown3
  · have : j = zeros bs.length := by omega
    rw [bif_npos (by omega)]
    subst this
    refine ⟨fun m a' n' c' x w' => ∃ j : Nat, j ≤ 8 ∧ x = 7 - (j : Int) ∧ n' = n + 1 + zeros bs.length + j ∧ m = 8 - j ∧ w'.ownsRow w.heap.size 5 1 (.slice a' n' c') n' (u8 (bs ++ [128] ++ List.replicate (zeros bs.length) 0 ++ (lenBytes bs.length).take j)) ∧ Tch [] w w', ⟨8, 0, by omega, rfl, rfl, rfl, by rw [List.take_zero, List.append_nil]; exact hown, ht⟩, ?_⟩
    clear hown ht hsz hlt hjz
    rintro m w32 a3 n3 c3 x ⟨j, hj8, rfl, rfl, rfl, hown, ht⟩
    have hsz := ht.size
    by_cases hlt : j < 8
    · rw [bif_pos (by omega), wrap_i64 (n := 8 * (7 - (j : Int))) (by omega) (by omega), show 8 * (7 - (j : Int)) = 56 - 8 * (j : Int) by omega]
      refine ⟨by omega, [.int .u8 _], by rw [zc5]; rfl, ?_⟩
      rintro w36 rfl
      generalize hx : IntKind.wrap .u8 (shR .u64 (IntKind.wrap .u64 (IntKind.wrap .u64 (n : Int) * 8)) (56 - 8 * (j : Int))) = x
      have hx' : IntKind.wrap .u8 (shR .u64 (IntKind.wrap .u64 (IntKind.wrap .u64 (bs.length : Int) * 8)) (56 - 8 * (j : Int))) = x := by rw [hn]; exact hx
      have hn1 : RSl (w32.alloc (.cells [Value.int .u8 x].toArray 5)) 1 (some ⟨w32.heap.size, 0, none⟩) 1 1 (u8 [x]) := (Blk.fresh w32 (cs := [Value.int .u8 x]) 5 rfl).rsl rfl (ones_ints (l := [x]))
      refine app_own hT (own_alloc hown _) hn1 (by rw [size_alloc]; omega) (by omega) (by omega) ?_
      intro b3 c3 w38 hown3 hg
      rw [wrap_i64 (by omega) (by omega)]
      refine ⟨b3, _, c3, rfl, 8 - (j + 1), by omega, j + 1, by omega, by omega, rfl, rfl, ?_, (ht.alloc _).grown hg (fun k hk => .inr (own_lt hown hk).1)⟩
      rw [lenBytes_take hlt, hx', ← List.append_assoc]
      rw [← List.map_append] at hown3
      exact hown3
    · have : j = 8 := by omega
      subst this
      rw [bif_neg (by omega)]
      rw [List.take_of_length_le (by rw [lenBytes_length]; omega)] at hown
      have hpl : (pad bs).length = n + 1 + zeros bs.length + 8 := by rw [pad_length]; omega
      refine ⟨a3, c3, by rw [hpl], ?_, own_off hown (fun k hk => List.mem_range.1 hk), ht⟩
      rw [hpl]
      exact own_rsl hown ones_ints
end Go.Proofs.YtjkbjppopdfggaaDoor.Sha
