/-
  NODES: contracts of the reference's Of and of the program's Of; the law ProofNodes answers true.
  Own work. No macro, syntax, notation, axiom.
-/
import Derived.Test.YtjkbjppopdfggaaDoorNodeW3
namespace Go.Proofs.YtjkbjppopdfggaaDoor.Sha
open Go Den Fn
open Go.RowKit (Below)
set_option maxRecDepth 8000
set_option maxHeartbeats 1000000

def OfR (n : Nd) (w : World) (e : Ending) (w' : World) : Prop := e = .returned (.tuple #[.agg (u8 (ofS n).1).toArray, .int .i64 (ofS n).2]) ∧ Tch [] w w'
theorem OfR.mk' {n : Nd} {w w' : World} {l : List Int} {x : Int} (h : ofS n = (l, x)) (ht : Tch [] w w') : OfR n w (.returned (.tuple #[.agg (u8 l).toArray, .int .i64 x])) w' := by
  unfold OfR
  rw [h]
  exact ⟨rfl, ht⟩
theorem text_len {n : Nd} (hn : n.ok) {t : List Int} (h : textS n = some t) : t.length ≤ 66 ∧ Bytes t := by
  unfold textS at h
  split at h
  · split at h
    · cases h; exact ⟨by simp, fun x hx => by simp at hx⟩
    · cases h
  · split at h
    · split at h
      · cases h; exact ⟨by rw [leafT_length]; omega, leafT_bytes _ _ _⟩
      · cases h
    · split at h
      · split at h
        · cases h; exact ⟨by simp [forkT, hn.ll, hn.rl], forkT_bytes hn.lb hn.rb⟩
        · cases h
      · cases h
theorem ofS_none {n : Nd} (h : textS n = none) : ofS n = (z32, 252) := by
  unfold ofS
  unfold textS Nd.row0 Nd.sides0 at h
  split at h
  · split at h
    · cases h
    · rename_i h0 h1
      rw [if_neg (fun h2 => h1 ⟨⟨h2.2.2.2.2.1, h2.2.2.2.2.2⟩, ⟨h2.2.2.1, h2.2.2.2.1⟩, h2.2.1⟩), if_neg (fun h2 => by omega), if_neg (fun h2 => by omega)]
  · rename_i h0
    rw [if_neg (fun h2 => h0 h2.1)]
    split at h
    · rename_i h1
      split at h
      · cases h
      · rename_i h2
        rw [if_neg (fun h3 => h2 ⟨⟨h3.2.2.1, h3.2.2.2.1⟩, h3.2.1, h3.2.2.2.2⟩), if_neg (fun h2 => by omega)]
    · rename_i h1
      rw [if_neg (fun h2 => h1 h2.1)]
      split at h
      · split at h
        · cases h
        · rename_i h2 h3
          rw [if_neg (fun h4 => h3 h4.2)]
      · rename_i h2
        rw [if_neg (fun h4 => h2 h4.1)]
theorem ofS_zero {n : Nd} {t : List Int} (h : textS n = some t) (h0 : n.kind = 0) : ofS n = (z32, 0) := by
  unfold textS Nd.row0 Nd.sides0 at h
  rw [if_pos h0] at h
  split at h
  · rename_i h1
    unfold ofS
    rw [if_pos ⟨h0, h1.2.2, h1.2.1.1, h1.2.1.2, h1.1⟩]
  · cases h
theorem ofS_sum {n : Nd} {t : List Int} (h : textS n = some t) (h0 : ¬ n.kind = 0) : ofS n = (sha t, 0) := by
  unfold textS Nd.row0 Nd.sides0 at h
  rw [if_neg h0] at h
  unfold ofS
  rw [if_neg (fun h2 => h0 h2.1)]
  split at h
  · rename_i h1
    split at h
    · rename_i h2
      cases h
      rw [if_pos ⟨h1, h2.2.1, h2.1.1, h2.1.2, h2.2.2⟩]
    · cases h
  · rename_i h1
    rw [if_neg (fun h2 => h1 h2.1)]
    split at h
    · rename_i h2
      split at h
      · rename_i h3
        cases h
        rw [if_pos ⟨h2, h3⟩]
      · cases h
    · cases h

theorem refOf_c (n : Nd) (hn : n.ok) (w : World) : Calls Tryd.prog 16 #[.agg n.cells.toArray] w (OfR n w) := by
  refine c16 _ ?_
  unfold d16
  rintro w1 rfl
  have hX := Blk.fresh w (cs := n.cells) 33 rfl
  have ht := (Tch.refl [] w).alloc (.cells n.cells.toArray 33)
  have s1 := size_alloc w (.cells n.cells.toArray 33)
  generalize w.alloc (.cells n.cells.toArray 33) = W1 at *
  rintro w2 rfl
  have hO : Blk _ _ (u8 z32) := Blk.fresh W1 24 zcDig
  replace hX := hX.alloc (.cells (zc Tryd.prog 24).toArray 24)
  replace ht := ht.alloc (.cells (zc Tryd.prog 24).toArray 24)
  generalize W1.alloc (.cells (zc Tryd.prog 24).toArray 24) = W2 at *
  refine get_all hX (Nd.cells_length hn) ?_
  refine (text_c n hn W2).mono ?_
  rintro e w5 ⟨ht5, h5⟩
  replace hX := hX.tch ht5 (by simp)
  replace hO := hO.tch ht5 (by simp)
  replace ht := ht.trans ht5 (by simp)
  cases htx : textS n with
  | none =>
    rw [htx] at h5
    subst h5
    refine ⟨_, _, _, _, rfl, _, _, _, rfl, _, rfl, ?_⟩
    show bif true then _ else _
    refine ⟨u8 z32, by rw [zcDig]; rfl, ?_⟩
    refine put_all (n := 32) hO rfl rfl ones_ints fun w' h1 h2 _ => ?_
    exact get_all h1 rfl (OfR.mk' (ofS_none htx) (ht.trans h2 (by simp; omega)))
  | some t =>
    rw [htx] at h5
    obtain ⟨a, c, rfl, hown⟩ := h5
    refine ⟨_, _, _, _, rfl, _, _, _, rfl, _, rfl, ?_⟩
    show bif false then _ else _
    rw [add_mk]
    refine ⟨n.kind, hX.cell 0, ?_⟩
    by_cases hk0 : n.kind = 0
    · rw [bif_pos hk0]
      refine ⟨u8 z32, by rw [zcDig]; rfl, ?_⟩
      refine put_all (n := 32) hO rfl rfl ones_ints fun w' h1 h2 _ => ?_
      exact get_all h1 rfl (OfR.mk' (ofS_zero htx hk0) (ht.trans h2 (by simp; omega)))
    · rw [bif_neg hk0]
      have htl := text_len hn htx
      refine (refSum_c w5 t a _ c (own_rsl hown ones_ints) htl.2 (by omega)).mono ?_
      rintro e w18 ⟨rfl, ht18⟩
      refine ⟨_, rfl, ?_⟩
      refine put_all (n := 32) (hO.tch ht18 (by simp)) rfl (by rw [List.length_map, sha_length]) ones_ints fun w' h1 h2 _ => ?_
      exact get_all h1 (by rw [List.length_map, sha_length]) (OfR.mk' (ofS_sum htx hk0) ((ht.trans ht18 (by simp)).trans h2 (by simp; omega)))

theorem i64_1 : I64 1 := by unfold I64; decide
theorem rank_c (n : Int) (w : World) : Calls Tryd.prog 52 #[.int .i64 n] w fun e w' => e = .returned (.bool (decide (0 ≤ n ∧ n < 80))) ∧ w' = w := by
  refine c52 _ ?_
  unfold d52
  by_cases h : 0 ≤ n
  · rw [bif_pos h]
    exact ⟨by simp [h], rfl⟩
  · rw [bif_neg h]
    exact ⟨by rw [decide_eq_false fun h2 => h h2.1], rfl⟩

def Nd.leaf0 (n : Nd) : Prop := n.bit = 0 ∧ n.sides0
instance (n : Nd) : Decidable n.leaf0 := by unfold Nd.leaf0; infer_instance
theorem of_c (n : Nd) (hn : n.ok) (w : World) (hT : Tabs w) : Calls Tryd.prog 15 #[.agg n.cells.toArray] w (OfR n w) := by
  refine c15 _ ?_
  unfold d15
  rintro w1 rfl
  have hX := Blk.fresh w (cs := n.cells) 33 rfl
  have ht := (Tch.refl [] w).alloc (.cells n.cells.toArray 33)
  have s1 := size_alloc w (.cells n.cells.toArray 33)
  generalize w.alloc (.cells n.cells.toArray 33) = W1 at *
  rintro w2 rfl
  have hO : Blk _ _ (u8 z32) := Blk.fresh W1 24 zcDig
  replace hX := hX.alloc (.cells (zc Tryd.prog 24).toArray 24)
  replace ht := ht.alloc (.cells (zc Tryd.prog 24).toArray 24)
  generalize W1.alloc (.cells (zc Tryd.prog 24).toArray 24) = W2 at *
  have hrow : (n.cells.drop 66).take 3 = rowC n.tab n.row n.val := by rw [Nd.part_row hn]; rfl
  have hkey : (n.cells.drop 66).take 2 = keyC n.tab n.row := by rw [Nd.part_row hn]; rfl
  refine get_all hX (Nd.cells_length hn) ?_
  refine ⟨Nd.zero.cells, by rw [zcNd]; rfl, ?_⟩
  refine eq_flat nd_flat nd_eqT (Nd.fits hn) (Nd.fits Nd.zero_ok) (fun h => ?_) (fun h => ?_)
  · obtain rfl := Nd.cells_inj hn Nd.zero_ok h
    show bif true then _ else _
    refine ⟨u8 z32, by rw [zcDig]; rfl, ?_⟩
    refine put_all (n := 32) hO rfl rfl ones_ints fun w' h1 h2 _ => ?_
    exact get_all h1 rfl (OfR.mk' rfl (ht.trans h2 (by simp; omega)))
  have hnz : ¬ (n.kind = 0 ∧ n.bit = 0 ∧ n.left = z32 ∧ n.right = z32 ∧ n.tab = 0 ∧ n.row = 0 ∧ n.val = 0) := fun h0 => h (by
    obtain ⟨h1, h2, h3, h4, h5, h6, h7⟩ := h0
    obtain ⟨k, b, l, r, t, ro, v⟩ := n
    simp only at h1 h2 h3 h4 h5 h6 h7
    subst h1; subst h2; subst h3; subst h4; subst h5; subst h6; subst h7
    rfl)
  clear h
  show bif false then _ else _
  simp only [add_mk, Nat.zero_add]
  refine ⟨fun b w' => b = decide (n.kind = 1 ∧ n.leaf0 ∧ KeyOk n.tab) ∧ Tch [] W2 w', ?_, ?_⟩
  · refine ⟨n.kind, hX.cell 0, ?_⟩
    by_cases hk1 : n.kind = 1
    · rw [bif_pos hk1]
      refine get_all hX (Nd.cells_length hn) ?_
      refine get_at hX 66 3 _ hrow rfl ?_
      have hm : (Nd.mk 1 0 z32 z32 n.tab n.row n.val).ok := ⟨rfl, rfl, z32_bytes, z32_bytes, i64_1, i64_0, hn.ti, hn.ri, hn.vi⟩
      refine ⟨(Nd.mk 1 0 z32 z32 n.tab n.row n.val).cells, by rw [zcNd]; rfl, ?_⟩
      refine eq_flat nd_flat nd_eqT (Nd.fits hn) (Nd.fits hm) (fun h => ?_) (fun h => ?_)
      · have h := Nd.cells_inj hn hm h
        have hleaf : n.leaf0 := by rw [h]; exact ⟨rfl, rfl, rfl⟩
        show bif true then _ else _
        refine get_at hX 66 2 _ hkey rfl ?_
        refine (check_c n.tab n.row W2).mono ?_
        rintro e w' ⟨rfl, ht'⟩
        refine ⟨_, rfl, ?_, ht'⟩
        by_cases h4 : KeyOk n.tab
        · rw [if_pos h4, decide_eq_true rfl, decide_eq_true ⟨hk1, hleaf, h4⟩]
        · rw [if_neg h4, decide_eq_false (by omega), decide_eq_false fun h5 => h4 h5.2.2]
      · refine ⟨?_, Tch.refl _ _⟩
        rw [decide_eq_false]
        intro h5
        apply h
        obtain ⟨h1, ⟨h2, h3, h4⟩, _⟩ := h5
        obtain ⟨k, b, l, r, t, ro, v⟩ := n
        simp only at h1 h2 h3 h4
        subst h1; subst h2; subst h3; subst h4
        rfl
    · rw [bif_neg hk1]
      exact ⟨by rw [decide_eq_false fun h => hk1 h.1], Tch.refl _ _⟩
  rintro w19 b ⟨rfl, ht19⟩
  replace hX := hX.tch ht19 (by simp)
  replace hO := hO.tch ht19 (by simp)
  replace ht := ht.trans ht19 (by simp)
  by_cases h1 : n.kind = 1 ∧ n.leaf0 ∧ KeyOk n.tab
  · rw [bif_pos h1]
    have e1 : ofS n = (sha (leafT n.tab n.row n.val), 0) := by
      unfold ofS
      rw [if_neg hnz, if_pos ⟨h1.1, h1.2.1.1, h1.2.1.2.1, h1.2.1.2.2, h1.2.2⟩]
    refine get_at hX 66 3 _ hrow rfl ?_
    refine (leafSum_c _ _ _ w19 h1.2.2 (hT.tch ht)).mono ?_
    rintro e w' ⟨rfl, ht'⟩
    refine ⟨_, rfl, ?_⟩
    refine put_all (n := 32) (hO.tch ht' (by simp)) rfl (by rw [List.length_map, sha_length]) ones_ints fun w' h1 h2 _ => ?_
    exact get_all h1 (by rw [List.length_map, sha_length]) (OfR.mk' e1 ((ht.trans ht' (by simp)).trans h2 (by simp; omega)))
  rw [bif_neg h1]
  have hn1 : ¬ (n.kind = 1 ∧ n.bit = 0 ∧ n.left = z32 ∧ n.right = z32 ∧ KeyOk n.tab) := fun h => h1 ⟨h.1, ⟨h.2.1, h.2.2.1, h.2.2.2.1⟩, h.2.2.2.2⟩
  refine ⟨fun b w' => b = decide (n.kind = 2 ∧ n.row0 ∧ 0 ≤ n.bit ∧ n.bit < 80) ∧ w' = w19, ?_, ?_⟩
  · refine ⟨n.kind, hX.cell 0, ?_⟩
    by_cases hk2 : n.kind = 2
    · rw [bif_pos hk2]
      refine get_at hX 66 3 _ hrow rfl ?_
      refine ⟨rowC 0 0 0, by rw [zcRow]; rfl, ?_⟩
      refine eq_flat row_flat row_eqT (row_fits hn.ti hn.ri hn.vi) (row_fits i64_0 i64_0 i64_0) (fun h => ?_) (fun h => ?_)
      · rw [rowC_eq] at h
        show bif true then _ else _
        refine ⟨n.bit, hX.cell 1, ?_⟩
        refine (rank_c n.bit w19).mono ?_
        rintro e w' ⟨rfl, rfl⟩
        refine ⟨_, rfl, ?_, rfl⟩
        have : n.row0 := h
        simp [hk2, this]
      · rw [Ne, rowC_eq] at h
        refine ⟨?_, rfl⟩
        rw [decide_eq_false fun h2 => h h2.2.1]
    · rw [bif_neg hk2]
      exact ⟨by rw [decide_eq_false fun h => hk2 h.1], rfl⟩
  rintro w36 b ⟨rfl, rfl⟩
  by_cases h2 : n.kind = 2 ∧ n.row0 ∧ 0 ≤ n.bit ∧ n.bit < 80
  · rw [bif_pos h2]
    have e1 : ofS n = (sha (forkT n.bit n.left n.right), 0) := by
      unfold ofS
      unfold Nd.row0 at h2
      rw [if_neg hnz, if_neg hn1, if_pos h2]
    refine ⟨n.bit, hX.cell 1, ?_⟩
    refine get_at hX 2 32 _ (Nd.part_left hn) (by rw [List.length_map, hn.ll]) ?_
    refine get_at hX 34 32 _ (Nd.part_right hn) (by rw [List.length_map, hn.rl]) ?_
    refine (forkSum_c n.bit n.left n.right w36 hn.ll hn.rl hn.lb hn.rb (hT.tch ht)).mono ?_
    rintro e w' ⟨rfl, ht'⟩
    refine ⟨_, rfl, ?_⟩
    refine put_all (n := 32) (hO.tch ht' (by simp)) rfl (by rw [List.length_map, sha_length]) ones_ints fun w' h1 h2 _ => ?_
    exact get_all h1 (by rw [List.length_map, sha_length]) (OfR.mk' e1 ((ht.trans ht' (by simp)).trans h2 (by simp; omega)))
  · rw [bif_neg h2]
    have e1 : ofS n = (z32, 252) := by
      unfold ofS
      unfold Nd.row0 at h2
      rw [if_neg hnz, if_neg hn1, if_neg h2]
    refine ⟨u8 z32, by rw [zcDig]; rfl, ?_⟩
    refine put_all (n := 32) hO rfl rfl ones_ints fun w' h1 h2 _ => ?_
    exact get_all h1 rfl (OfR.mk' e1 (ht.trans h2 (by simp; omega)))

theorem num_c (n : Int) (w : World) : Calls Tryd.prog 17 #[.int .i64 n] w fun e w' => e = .returned (.int .i64 n) ∧ w' = w := by
  refine c17 _ ?_
  unfold d17
  exact ⟨rfl, rfl⟩

theorem nodes_law (n : Nd) (hn : n.ok) (w : World) (hT : Tabs w) : Calls Tryd.prog 4 #[.agg n.cells.toArray] w fun e w' => e = .returned (.bool true) ∧ Below w.heap.size w w' := by
  refine c4 _ ?_
  unfold d4
  rintro w1 rfl
  have hX := Blk.fresh w (cs := n.cells) 33 rfl
  have ht := (Tch.refl [] w).alloc (.cells n.cells.toArray 33)
  generalize w.alloc (.cells n.cells.toArray 33) = W1 at *
  have hlen : (u8 (ofS n).1).length = 32 := by rw [List.length_map, ofS_length]
  refine get_all hX (Nd.cells_length hn) ?_
  refine (of_c n hn W1 (hT.tch ht)).mono ?_
  rintro e w4 ⟨rfl, ht4⟩
  replace hX := hX.tch ht4 (by simp)
  replace ht := ht.trans ht4 (by simp)
  refine ⟨_, _, rfl, _, rfl, _, rfl, ?_⟩
  refine var_init (n := 32) (by rw [zcDig]; rfl) hlen ones_ints fun w9 w10 h1 h2 h3 => ?_
  replace hX := hX.tch h2 (by simp)
  replace ht := ht.trans h2 (by simp)
  refine get_all hX (Nd.cells_length hn) ?_
  refine (refOf_c n hn w10).mono ?_
  rintro e w13 ⟨rfl, ht13⟩
  replace h1 := h1.tch ht13 (by simp)
  replace ht := ht.trans ht13 (by simp)
  refine ⟨_, _, rfl, _, rfl, _, rfl, ?_⟩
  refine var_init (n := 32) (by rw [zcDig]; rfl) hlen ones_ints fun w18 w19 k1 k2 k3 => ?_
  replace h1 := h1.tch k2 (by simp)
  replace ht := ht.trans k2 (by simp)
  refine get_all h1 hlen ?_
  refine get_all k1 hlen ?_
  have hf := dig_fits (ofS_length n) (ofS_bytes n)
  refine eq_flat dig_flat dig_eqT hf hf (fun _ => ?_) (fun h => absurd rfl h)
  show bif true then _ else _
  refine (num_c _ w19).mono ?_
  rintro e w' ⟨rfl, rfl⟩
  refine ⟨_, rfl, ?_, ht.below⟩
  rw [decide_eq_true rfl]
end Go.Proofs.YtjkbjppopdfggaaDoor.Sha
