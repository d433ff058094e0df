/-
  NODES: contracts of slices.Grow and slices.Concat on bytes, of leafSum and forkSum.
  Own work. No macro, syntax, notation, axiom.
-/
import Derived.Test.YtjkbjppopdfggaaDoorNodeW1
import Derived.Test.YtjkbjppopdfggaaDoorDenWords7
namespace Go.Proofs.YtjkbjppopdfggaaDoor.Sha
open Go Den Fn
open Go.RowKit (Below)
set_option maxRecDepth 8000
set_option maxHeartbeats 1000000

theorem grow_c (w : World) (k : Nat) (hk : k ≤ 1099511627776) : Calls Tryd.prog 86 #[.slice none 0 0, .int .i64 k] w fun e w' =>
    ∃ a c, e = .returned (.slice a 0 c) ∧ w'.ownsRow w.heap.size 5 1 (.slice a 0 c) 0 [] ∧ Tch [] w w' := by
  refine c86 _ _ _ _ ?_
  unfold d86
  refine ⟨fun w' => w' = w, ?_, ?_⟩
  · rw [bif_neg (by omega)]
  rintro w3 rfl
  refine run_capK bT ?_
  refine ⟨_, rfl, ?_⟩
  rw [show IntKind.wrap .i64 (((0 : Nat) : Int) - ((0 : Nat) : Int)) = 0 from rfl, wrap_i64 (n := (k : Int) - 0) (by omega) (by omega)]
  by_cases h0 : 0 < k
  · rw [bif_pos (by omega)]
    refine run_capK bT ?_
    refine ⟨_, rfl, by omega, by omega, ?_⟩
    rw [show (k : Int) - 0 = k by omega]
    refine app_zeros bT (ti := 3) (k := .i64) (by kernel_rfl) h0 (by omega) (by omega) ?_
    intro c w' zs hown ht
    refine ⟨_, _, _, rfl, by omega, by omega, ?_⟩
    have := own_head hown (k := 0) (by omega)
    exact ⟨_, _, rfl, by simpa using this, ht⟩
  · rw [bif_neg (by omega)]
    exact ⟨_, _, rfl, own_nil _ _ _ _, Tch.refl _ _⟩

abbrev Part := Option Addr × Nat × Nat × List Int
abbrev partC (xs : List Part) : List Value := xs.map fun x => .slice x.1 x.2.1 x.2.2.1
def cat (xs : List Part) : List Int := (xs.map (·.2.2.2)).flatten
def Parts (w : World) (xs : List Part) : Prop := ∀ x ∈ xs, RSl w 1 x.1 x.2.1 x.2.2.1 (u8 x.2.2.2)
theorem cat_take (xs : List Part) {i : Nat} (h : i < xs.length) : cat (xs.take (i + 1)) = cat (xs.take i) ++ xs[i].2.2.2 := by
  unfold cat
  rw [List.take_succ_eq_append_getElem h, List.map_append, List.flatten_append]
  simp
theorem cat_le (xs : List Part) (i : Nat) : (cat (xs.take i)).length ≤ (cat xs).length := by
  conv => rhs; rw [← List.take_append_drop i xs]
  unfold cat
  rw [List.map_append, List.flatten_append, List.length_append]
  omega
theorem concat_c (w : World) (xs : List Part) (a : Option Addr) (n c : Nat) (hr : RSl w 1 a n c (partC xs)) (hx : Parts w xs) (hN : (cat xs).length ≤ 1099511627776) (hn0 : n ≤ 1099511627776) :
    Calls Tryd.prog 71 #[.slice a n c] w fun e w' =>
      ∃ a' c', e = .returned (.slice a' (cat xs).length c') ∧ w'.ownsRow w.heap.size 5 1 (.slice a' (cat xs).length c') (cat xs).length (u8 (cat xs)) ∧ Tch [] w w' := by
  have hn : xs.length = n := by have := hr.len; simpa using this
  refine c71 _ _ _ ?_
  unfold d71
  refine ⟨fun m s x w' => ∃ i : Nat, i ≤ n ∧ x = i ∧ s = (cat (xs.take i)).length ∧ m = n - i ∧ w' = w, ⟨n, 0, by omega, rfl, rfl, rfl, rfl⟩, ?_⟩
  rintro m w3 s x ⟨i, hi, rfl, rfl, rfl, rfl⟩
  by_cases hlt : i < n
  · rw [bif_pos (by omega)]
    have hil : i < xs.length := by omega
    obtain ⟨b, o, rfl, g⟩ := hr.get1 (i := i) (v := .slice xs[i].1 xs[i].2.1 xs[i].2.2.1) (by simp [hil])
    have hlen := u8_len (hx xs[i] (List.getElem_mem hil))
    have h1 := cat_take xs hil
    have h2 := cat_le xs (i + 1)
    have h3 : (cat (xs.take (i + 1))).length = (cat (xs.take i)).length + xs[i].2.1 := by rw [h1, List.length_append, hlen]
    refine ⟨by omega, by omega, _, _, _, by rw [add_mk, Int.toNat_natCast, Nat.mul_one]; exact g, ?_⟩
    rw [wrap_i64 (n := ((cat (xs.take i)).length : Int) + (xs[i].2.1 : Int)) (by omega) (by omega), wrap_i64 (by omega) (by omega), bif_neg (by omega)]
    exact ⟨n - (i + 1), by omega, i + 1, by omega, by omega, by omega, rfl, rfl⟩
  · have : i = n := by omega
    subst this
    rw [bif_neg (by omega), List.take_of_length_le (by omega)]
    refine (grow_c w3 _ hN).mono ?_
    rintro e w10 ⟨ga, gc, rfl, hg, ht⟩
    refine ⟨_, _, _, rfl, ?_⟩
    refine ⟨fun m a' n' c' x w' => ∃ j : Nat, j ≤ i ∧ x = j ∧ n' = (cat (xs.take j)).length ∧ m = i - j ∧ w'.ownsRow w3.heap.size 5 1 (.slice a' n' c') n' (u8 (cat (xs.take j))) ∧ Tch [] w3 w', ⟨i, 0, by omega, rfl, rfl, rfl, by simpa [cat] using hg, ht⟩, ?_⟩
    clear hg ht
    rintro m w14 a2 n2 c2 x ⟨j, hj, rfl, rfl, rfl, hown, ht⟩
    by_cases hlt : j < i
    · rw [bif_pos (by omega)]
      have hil : j < xs.length := by omega
      obtain ⟨b, o, rfl, g⟩ := (hr.below ht.below).get1 (i := j) (v := .slice xs[j].1 xs[j].2.1 xs[j].2.2.1) (by simp [hil])
      have hlen := u8_len (hx xs[j] (List.getElem_mem hil))
      have h1 := cat_take xs hil
      have h2 := cat_le xs (j + 1)
      have h3 : (cat (xs.take (j + 1))).length = (cat (xs.take j)).length + xs[j].2.1 := by rw [h1, List.length_append, hlen]
      refine ⟨by omega, by omega, _, _, _, by rw [add_mk, Int.toNat_natCast, Nat.mul_one]; exact g, ?_⟩
      refine app_row bT hown ((hx xs[j] (List.getElem_mem hil)).below ht.below) ht.size (by omega) (by omega) fun a' c' w' g1 g2 => ?_
      rw [wrap_i64 (by omega) (by omega)]
      refine ⟨i - (j + 1), by omega, j + 1, by omega, by omega, by omega, rfl, ?_, ht.up g2 (Nat.le_refl _)⟩
      rw [← List.map_append] at g1
      rw [h1]
      exact g1
    · have : j = i := by omega
      subst this
      rw [bif_neg (by omega)]
      rw [List.take_of_length_le (by omega)] at hown ⊢
      exact ⟨_, _, rfl, hown, ht⟩

/-- What the digest's tables are. -/
def Tabs (w : World) : Prop := Cells w ⟨1, 0, none⟩ (u32 Ks) ∧ Cells w ⟨0, 0, none⟩ (u32 Hs)
theorem cells_tch {w w' : World} {b o : Nat} {cs : List Value} (h : Cells w ⟨b, o, none⟩ cs) (ht : Tch [] w w') : Cells w' ⟨b, o, none⟩ cs := fun i v hv => by
  have := h i v hv
  rw [add_mk] at this ⊢
  rw [World.cell?_of_block (w := w) (ht.block b (World.block_lt_of_cell? _ _ this) (by simp))]
  exact this
theorem Tabs.tch {w w' : World} (h : Tabs w) (ht : Tch [] w w') : Tabs w' := ⟨cells_tch h.1 ht, cells_tch h.2 ht⟩

theorem leafSum_c (t r v : Int) (w : World) (hk : KeyOk t) (hT : Tabs w) : Calls Tryd.prog 51 #[.agg (rowC t r v).toArray] w fun e w' => e = .returned (.agg (u8 (sha (leafT t r v))).toArray) ∧ Tch [] w w' := by
  refine c51 _ ?_
  unfold d51
  rintro w1 rfl
  have hR := Blk.fresh w (cs := rowC t r v) 31 rfl
  have ht := (Tch.refl [] w).alloc (.cells (rowC t r v).toArray 31)
  have s1 := size_alloc w (.cells (rowC t r v).toArray 31)
  generalize w.alloc (.cells (rowC t r v).toArray 31) = W1 at *
  rintro w2 rfl
  have hO : Blk _ _ (u8 z32) := Blk.fresh W1 24 zcDig
  replace hR := hR.alloc (.cells (zc Tryd.prog 24).toArray 24)
  replace ht := ht.alloc (.cells (zc Tryd.prog 24).toArray 24)
  have s2 := size_alloc W1 (.cells (zc Tryd.prog 24).toArray 24)
  generalize W1.alloc (.cells (zc Tryd.prog 24).toArray 24) = W2 at *
  generalize hob : W1.heap.size = ob at *
  refine get_part hR 0 2 (keyC t r) rfl rfl ?_
  refine (bytes_c t r W2).mono ?_
  rintro e w5 h5
  rw [if_pos hk] at h5
  obtain ⟨ka, kc, rfl, hkb, ht5⟩ := h5
  replace hR := hR.tch ht5 (by simp)
  replace hO := hO.tch ht5 (by simp)
  replace ht := ht.trans ht5 (by simp)
  refine ⟨_, _, _, _, rfl, _, _, _, rfl, _, rfl, ?_⟩
  refine ⟨[.int .u8 0], by rw [zc5]; rfl, ?_⟩
  rintro w11 rfl
  have hs5 := ht5.size
  refine app_row bT (own_new w5 (n := 1) (cs := [.int .u8 0]) (base := w5.heap.size) (size := 1) (Nat.le_refl _) rfl (by omega)) (ys := u8 (keyB t r)) ((own_rsl hkb ones_ints).below ((Below.refl _ _).alloc (Nat.le_refl _) _)) (by rw [size_alloc]; omega) (by omega) (by omega) fun a' c' w13 g1 g2 => ?_
  replace hR := (hR.alloc (.cells [Value.int .u8 0].toArray 5)).below g2 (by omega)
  replace hO := (hO.alloc (.cells [Value.int .u8 0].toArray 5)).below g2 (by omega)
  replace ht := (ht.alloc (.cells [Value.int .u8 0].toArray 5)).up g2 (by omega)
  have hs13 := g2.size
  rw [size_alloc] at hs13
  refine ⟨fun m a2 n2 c2 x w' => ∃ i : Nat, i ≤ 8 ∧ x = 56 - 8 * (i : Int) ∧ n2 = 11 + i ∧ m = 8 - i ∧ w'.ownsRow w5.heap.size 5 1 (.slice a2 n2 c2) n2 (u8 ([0] ++ keyB t r ++ (be8 (IntKind.wrap .u64 v)).take i)) ∧ Below w5.heap.size w13 w', ⟨8, 0, by omega, rfl, rfl, rfl, by simpa using g1, Below.refl _ _⟩, ?_⟩
  rintro m w17 a2 n2 c2 x ⟨i, hi, rfl, rfl, rfl, hown, hb⟩
  by_cases hlt : i < 8
  · rw [bif_pos (by omega), add_mk]
    refine ⟨v, (hR.below hb (by omega)).cell 2, by omega, ?_⟩
    have hs17 := hb.size
    refine app_elem bT hown (by rw [zc5]; rfl) (ys := u8 [IntKind.wrap .u8 (shR .u64 (IntKind.wrap .u64 v) (56 - 8 * (i : Int)))]) rfl rfl ones_ints (by omega) (by omega) (by omega) fun a3 c3 w3 k1 k2 => ?_
    rw [wrap_i64 (by omega) (by omega)]
    refine ⟨8 - (i + 1), by omega, i + 1, by omega, by omega, rfl, rfl, ?_, hb.trans k2⟩
    rw [← List.map_append] at k1
    rw [be8_take hlt, ← List.append_assoc]
    exact k1
  · have : i = 8 := by omega
    subst this
    rw [bif_neg (by omega)]
    rw [List.take_of_length_le (by rw [be8_length]; omega)] at hown
    replace ht := ht.up hb (by omega)
    replace hO := hO.below hb (by omega)
    refine (sum_c w17 (leafT t r v) a2 _ c2 (own_rsl hown ones_ints) (leafT_bytes t r v) (hT.tch ht).1 (hT.tch ht).2).mono ?_
    rintro e w28 ⟨rfl, ht28⟩
    refine ⟨_, rfl, ?_⟩
    refine put_all (n := 32) (hO.tch ht28 (by simp)) rfl (by rw [List.length_map, sha_length]) ones_ints fun w' h1 h2 _ => ?_
    exact get_all h1 (by rw [List.length_map, sha_length]) ⟨rfl, (ht.trans ht28 (by simp)).trans h2 (by simp; omega)⟩

theorem forkSum_c (n : Int) (l r : List Int) (w : World) (hl : l.length = 32) (hr : r.length = 32) (hlb : Bytes l) (hrb : Bytes r) (hT : Tabs w) :
    Calls Tryd.prog 53 #[.int .i64 n, .agg (u8 l).toArray, .agg (u8 r).toArray] w fun e w' => e = .returned (.agg (u8 (sha (forkT n l r))).toArray) ∧ Tch [] w w' := by
  refine c53 _ _ _ ?_
  unfold d53
  rintro w3 rfl
  have hL := Blk.fresh w (cs := u8 l) 24 rfl
  have ht := (Tch.refl [] w).alloc (.cells (u8 l).toArray 24)
  have s1 := size_alloc w (.cells (u8 l).toArray 24)
  generalize w.alloc (.cells (u8 l).toArray 24) = W3 at *
  rintro w4 rfl
  have hR := Blk.fresh W3 (cs := u8 r) 24 rfl
  replace hL := hL.alloc (.cells (u8 r).toArray 24)
  replace ht := ht.alloc (.cells (u8 r).toArray 24)
  have s2 := size_alloc W3 (.cells (u8 r).toArray 24)
  generalize W3.alloc (.cells (u8 r).toArray 24) = W4 at *
  rintro w5 rfl
  have hO : Blk _ _ (u8 z32) := Blk.fresh W4 24 zcDig
  replace hL := hL.alloc (.cells (zc Tryd.prog 24).toArray 24)
  replace hR := hR.alloc (.cells (zc Tryd.prog 24).toArray 24)
  replace ht := ht.alloc (.cells (zc Tryd.prog 24).toArray 24)
  have s3 := size_alloc W4 (.cells (zc Tryd.prog 24).toArray 24)
  rintro w6 rfl
  replace hL := hL.drew
  replace hR := hR.drew
  replace hO := hO.drew
  replace ht := ht.drew
  have s4 : (W4.alloc (.cells (zc Tryd.prog 24).toArray 24)).drew.heap.size = W4.heap.size + 1 := s3
  generalize (W4.alloc (.cells (zc Tryd.prog 24).toArray 24)).drew = W6 at *
  refine ⟨u8 [1, IntKind.wrap .u8 n], by rw [zc5]; rfl, ?_⟩
  rintro w8 rfl
  have hA := Blk.fresh W6 (cs := u8 [1, IntKind.wrap .u8 n]) 5 rfl
  replace hL := hL.alloc (.cells (u8 [1, IntKind.wrap .u8 n]).toArray 5)
  replace hR := hR.alloc (.cells (u8 [1, IntKind.wrap .u8 n]).toArray 5)
  replace hO := hO.alloc (.cells (u8 [1, IntKind.wrap .u8 n]).toArray 5)
  replace ht := ht.alloc (.cells (u8 [1, IntKind.wrap .u8 n]).toArray 5)
  have s5 := size_alloc W6 (.cells (u8 [1, IntKind.wrap .u8 n]).toArray 5)
  generalize W6.alloc (.cells (u8 [1, IntKind.wrap .u8 n]).toArray 5) = W8 at *
  have zc22 : zc Tryd.prog 22 = [.slice none 0 0] := by kernel_rfl
  refine ⟨partC [(some ⟨W6.heap.size, 0, none⟩, 2, 2, [1, IntKind.wrap .u8 n]), (some ⟨w.heap.size, 0, none⟩, 32, 32, l), (some ⟨W3.heap.size, 0, none⟩, 32, 32, r)], by rw [zc22]; rfl, ?_⟩
  generalize hps : [((some ⟨W6.heap.size, 0, none⟩, 2, 2, [1, IntKind.wrap .u8 n]) : Part), (some ⟨w.heap.size, 0, none⟩, 32, 32, l), (some ⟨W3.heap.size, 0, none⟩, 32, 32, r)] = ps
  have hcat : cat ps = forkT n l r := by rw [← hps]; simp [cat, forkT]
  have hparts : Parts W8 ps := by
    rw [← hps]
    intro x hx
    simp at hx
    rcases hx with rfl | rfl | rfl
    · exact hA.rsl rfl ones_ints
    · exact hL.rsl (by rw [List.length_map]; exact hl) ones_ints
    · exact hR.rsl (by rw [List.length_map]; exact hr) ones_ints
  have hplen : ps.length = 3 := by rw [← hps]; rfl
  rintro w10 rfl
  have hP := Blk.fresh W8 (cs := partC ps) 22 rfl
  replace hO := hO.alloc (.cells (partC ps).toArray 22)
  replace ht := ht.alloc (.cells (partC ps).toArray 22)
  have hbl : Below W8.heap.size W8 (W8.alloc (.cells (partC ps).toArray 22)) := (Below.refl _ _).alloc (Nat.le_refl _) _
  have hcl : (cat ps).length = 66 := by rw [hcat]; simp [forkT, hl, hr]
  refine (concat_c _ ps _ _ _ (hP.rsl (by rw [List.length_map, hplen]) (fun u hu => by
    obtain ⟨x, _, rfl⟩ := List.mem_map.1 hu
    rfl)) (fun x hx => (hparts x hx).below hbl) (by omega) (by omega)).mono ?_
  rintro e w12 ⟨a', c', rfl, hown, ht12⟩
  refine ⟨_, _, _, rfl, ?_⟩
  replace hO := hO.tch ht12 (by simp)
  replace ht := ht.trans ht12 (by simp)
  rw [hcat] at hown ⊢
  refine (sum_c w12 (forkT n l r) a' _ c' (own_rsl hown ones_ints) (forkT_bytes hlb hrb) (hT.tch ht).1 (hT.tch ht).2).mono ?_
  rintro e w15 ⟨rfl, ht15⟩
  refine ⟨_, rfl, ?_⟩
  refine put_all (n := 32) (hO.tch ht15 (by simp)) rfl (by rw [List.length_map, sha_length]) ones_ints fun w' h1 h2 _ => ?_
  exact get_all h1 (by rw [List.length_map, sha_length]) ⟨rfl, (ht.trans ht15 (by simp)).trans h2 (by simp; omega)⟩
end Go.Proofs.YtjkbjppopdfggaaDoor.Sha
