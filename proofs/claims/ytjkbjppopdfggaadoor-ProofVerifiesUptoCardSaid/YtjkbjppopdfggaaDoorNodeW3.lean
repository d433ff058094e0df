/-
  NODES: contracts of the reference's Text and Of, and of the program's Of; the law ProofNodes answers true.
  Own work. No macro, syntax, notation, axiom.
-/
import Derived.Test.YtjkbjppopdfggaaDoorNodeW2
namespace Go.Proofs.YtjkbjppopdfggaaDoor.Sha
open Go Den Fn
open Go.RowKit (Below)
set_option maxRecDepth 8000
set_option maxHeartbeats 1000000

theorem get_at {w : World} {b : Nat} {cs : List Value} (h : Blk w b cs) (o n : Nat) (ds : List Value) (he : (cs.drop o).take n = ds) (hl : ds.length = n) {K : List Value → Prop} (hK : K ds) :
    ∃ ds : List Value, List.length ds = n ∧ Cells w ⟨b, o, none⟩ ds ∧ K ds := by
  subst he
  exact ⟨_, hl, h.cells_at o n, hK⟩
theorem u8_eq {a b : List Int} : u8 a = u8 b ↔ a = b := ⟨u8_inj, fun h => by rw [h]⟩
theorem rowC_eq {t r v t' r' v' : Int} : rowC t r v = rowC t' r' v' ↔ (t = t' ∧ r = r' ∧ v = v') := by simp
def Nd.row0 (n : Nd) : Prop := n.tab = 0 ∧ n.row = 0 ∧ n.val = 0
instance (n : Nd) : Decidable n.row0 := by unfold Nd.row0; infer_instance
def Nd.sides0 (n : Nd) : Prop := n.left = z32 ∧ n.right = z32
instance (n : Nd) : Decidable n.sides0 := by unfold Nd.sides0; infer_instance
def textS (n : Nd) : Option (List Int) :=
  if n.kind = 0 then (if n.row0 ∧ n.sides0 ∧ n.bit = 0 then some [] else none)
  else if n.kind = 1 then (if n.sides0 ∧ n.bit = 0 ∧ KeyOk n.tab then some (leafT n.tab n.row n.val) else none)
  else if n.kind = 2 then (if n.row0 ∧ 0 ≤ n.bit ∧ n.bit < 80 then some (forkT n.bit n.left n.right) else none)
  else none
theorem Nd.part_left {n : Nd} (h : n.ok) : (n.cells.drop 2).take 32 = u8 n.left := by
  have e : n.cells = ([.int .i64 n.kind, .int .i64 n.bit] ++ (u8 n.left ++ (u8 n.right ++ rowC n.tab n.row n.val))) := by simp [Nd.cells]
  rw [e, List.drop_append_of_le_length (by simp)]
  simp only [List.drop_succ_cons, List.drop_zero, List.drop_nil, List.nil_append]
  rw [List.take_append_of_le_length (by simp [h.ll]), List.take_of_length_le (by simp [h.ll])]
theorem Nd.part_right {n : Nd} (h : n.ok) : (n.cells.drop 34).take 32 = u8 n.right := by
  have e : n.cells = (([.int .i64 n.kind, .int .i64 n.bit] ++ u8 n.left) ++ (u8 n.right ++ rowC n.tab n.row n.val)) := by simp [Nd.cells]
  have hl : (([Value.int .i64 n.kind, .int .i64 n.bit] ++ u8 n.left)).length = 34 := by simp [h.ll]
  rw [e, ← hl, List.drop_left, List.take_append_of_le_length (by simp [h.rl]), List.take_of_length_le (by simp [h.rl])]
theorem Nd.part_row {n : Nd} (h : n.ok) : n.cells.drop 66 = rowC n.tab n.row n.val := by
  have hl : (([Value.int .i64 n.kind, .int .i64 n.bit] ++ u8 n.left ++ u8 n.right)).length = 66 := by simp [h.ll, h.rl]
  unfold Nd.cells
  rw [← hl, List.drop_left]
theorem Nd.cell_row {n : Nd} (h : n.ok) (i : Nat) : n.cells[66 + i]? = (rowC n.tab n.row n.val)[i]? := by
  rw [← Nd.part_row h, List.getElem?_drop]

def TextR (n : Nd) (w : World) (e : Ending) (w' : World) : Prop :=
  Tch [] w w' ∧ match textS n with
    | some t => ∃ a c, e = .returned (.tuple #[.slice a t.length c, .bool true]) ∧ w'.ownsRow w.heap.size 5 1 (.slice a t.length c) t.length (u8 t)
    | none => e = .returned (.tuple #[.slice none 0 0, .bool false])
theorem TextR.no {n : Nd} {w w' : World} (ht : Tch [] w w') (h : textS n = none) : TextR n w (.returned (.tuple #[.slice none 0 0, .bool false])) w' := by
  refine ⟨ht, ?_⟩
  rw [h]
theorem TextR.yes {n : Nd} {w w' : World} {t : List Int} {a : Option Addr} {m c : Nat} (ht : Tch [] w w') (h : textS n = some t) (hm : m = t.length) (ho : w'.ownsRow w.heap.size 5 1 (.slice a m c) m (u8 t)) :
    TextR n w (.returned (.tuple #[.slice a m c, .bool true])) w' := by
  subst hm
  refine ⟨ht, ?_⟩
  rw [h]
  exact ⟨a, c, rfl, ho⟩
theorem i64_0 : I64 0 := by unfold I64; decide
theorem text_c (n : Nd) (hn : n.ok) (w : World) : Calls Tryd.prog 54 #[.agg n.cells.toArray] w (TextR n w) := by
  refine c54 _ ?_
  unfold d54
  rintro w1 rfl
  have hX := Blk.fresh w (cs := n.cells) 33 rfl
  have ht := (Tch.refl [] w).alloc (.cells n.cells.toArray 33)
  have s1 := size_alloc w (.cells n.cells.toArray 33)
  generalize w.alloc (.cells n.cells.toArray 33) = W1 at *
  have hrow : (n.cells.drop 66).take 3 = rowC n.tab n.row n.val := by rw [Nd.part_row hn]; rfl
  have hkey : (n.cells.drop 66).take 2 = keyC n.tab n.row := by rw [Nd.part_row hn]; rfl
  refine get_part hX 66 3 _ hrow rfl ?_
  refine ⟨rowC 0 0 0, by rw [zcRow]; rfl, ?_⟩
  refine eq_flat_d row_flat row_eqT (row_fits hn.ti hn.ri hn.vi) (row_fits i64_0 i64_0 i64_0) (p := n.row0) rowC_eq ?_
  refine ⟨fun b w' => b = decide n.sides0 ∧ w' = W1, ?_, ?_⟩
  · refine get_part hX 2 32 _ (Nd.part_left hn) (by rw [List.length_map, hn.ll]) ?_
    refine ⟨u8 z32, by rw [zcDig]; rfl, ?_⟩
    refine eq_flat dig_flat dig_eqT (dig_fits hn.ll hn.lb) (dig_fits rfl z32_bytes) (fun h => ?_) (fun h => ?_)
    · rw [u8_eq] at h
      show bif true then _ else _
      refine get_part hX 34 32 _ (Nd.part_right hn) (by rw [List.length_map, hn.rl]) ?_
      refine ⟨u8 z32, by rw [zcDig]; rfl, ?_⟩
      refine eq_flat_d dig_flat dig_eqT (dig_fits hn.rl hn.rb) (dig_fits rfl z32_bytes) (p := n.right = z32) u8_eq ?_
      refine ⟨?_, rfl⟩
      unfold Nd.sides0
      simp [h]
    · rw [Ne, u8_eq] at h
      refine ⟨?_, rfl⟩
      unfold Nd.sides0
      simp [h]
  rintro w12 sides ⟨rfl, rfl⟩
  simp only [add_mk, Nat.zero_add]
  refine ⟨n.kind, hX.cell 0, ?_⟩
  by_cases hk0 : n.kind = 0
  · rw [bif_pos hk0]
    have e1 : textS n = if n.row0 ∧ n.sides0 ∧ n.bit = 0 then some [] else none := by unfold textS; rw [if_pos hk0]
    rintro w15 rfl
    by_cases h1 : n.row0
    · rw [decide_eq_true h1]
      by_cases h2 : n.sides0
      · rw [decide_eq_true h2]
        refine ⟨n.bit, hX.drew.cell 1, ?_⟩
        by_cases h3 : n.bit = 0
        · rw [decide_eq_true h3]
          exact TextR.yes ht.drew (by rw [e1, if_pos ⟨h1, h2, h3⟩]) rfl (own_nil _ _ _ _)
        · rw [decide_eq_false h3]
          exact TextR.no ht.drew (by rw [e1, if_neg (fun h => h3 h.2.2)])
      · rw [decide_eq_false h2]
        exact TextR.no ht.drew (by rw [e1, if_neg (fun h => h2 h.2.1)])
    · rw [decide_eq_false h1]
      exact TextR.no ht.drew (by rw [e1, if_neg (fun h => h1 h.1)])
  rw [bif_neg hk0]
  by_cases hk1 : n.kind = 1
  · rw [bif_pos hk1]
    have e1 : textS n = if n.sides0 ∧ n.bit = 0 ∧ KeyOk n.tab then some (leafT n.tab n.row n.val) else none := by unfold textS; rw [if_neg hk0, if_pos hk1]
    refine ⟨fun w' => n.sides0 ∧ n.bit = 0 ∧ KeyOk n.tab ∧ Tch [] w w' ∧ Blk w' w.heap.size n.cells, ?_, ?_⟩
    · by_cases h2 : n.sides0
      · rw [decide_eq_true h2]
        refine ⟨n.bit, hX.cell 1, ?_⟩
        by_cases h3 : n.bit = 0
        · rw [bif_npos h3]
          refine get_at hX 66 2 _ hkey rfl ?_
          refine (refCheck_c n.tab n.row w12).mono ?_
          rintro e w' ⟨rfl, ht'⟩
          refine ⟨_, rfl, ?_⟩
          by_cases h4 : KeyOk n.tab
          · rw [if_pos h4, bif_npos rfl]
            exact ⟨h2, h3, h4, ht.trans ht' (by simp), hX.tch ht' (by simp)⟩
          · rw [if_neg h4, bif_nneg (by omega)]
            exact TextR.no (ht.trans ht' (by simp)) (by rw [e1, if_neg (fun h => h4 h.2.2)])
        · rw [bif_nneg h3]
          exact TextR.no ht (by rw [e1, if_neg (fun h => h3 h.2.1)])
      · rw [decide_eq_false h2]
        exact TextR.no ht (by rw [e1, if_neg (fun h => h2 h.1)])
    rintro w23 ⟨h2, h3, h4, ht, hX⟩
    have e2 : textS n = some (leafT n.tab n.row n.val) := by rw [e1, if_pos ⟨h2, h3, h4⟩]
    refine get_at hX 66 2 _ hkey rfl ?_
    refine (refBytes_c n.tab n.row w23).mono ?_
    intro e w5 h5
    rw [if_pos h4] at h5
    obtain ⟨ka, kc, rfl, hkb, ht5⟩ := h5
    refine ⟨_, _, _, _, rfl, _, _, _, rfl, _, rfl, ?_⟩
    refine ⟨[.int .u8 0], by rw [zc5]; rfl, ?_⟩
    rintro w11 rfl
    have hs := ht.size
    have hs5 := ht5.size
    have hl23 := hX.lt
    refine app_row bT (own_new w5 (n := 1) (cs := [.int .u8 0]) (base := w5.heap.size) (size := 1) (Nat.le_refl _) rfl (by omega)) (ys := u8 (keyB n.tab n.row)) ((own_rsl hkb ones_ints).below ((Below.refl _ _).alloc (Nat.le_refl _) _)) (by rw [size_alloc]; omega) (by omega) (by omega) fun a' c' w13 g1 g2 => ?_
    replace hX := ((hX.tch ht5 (by simp)).alloc (.cells [Value.int .u8 0].toArray 5)).below g2 (by omega)
    replace ht := ((ht.trans ht5 (by simp)).alloc (.cells [Value.int .u8 0].toArray 5)).up g2 (by omega)
    have hs13 := g2.size
    rw [size_alloc] at hs13
    refine ⟨fun m a2 n2 c2 x w' => ∃ i : Nat, i ≤ 8 ∧ x = 7 - (i : Int) ∧ n2 = 11 + i ∧ m = 8 - i ∧ w'.ownsRow w5.heap.size 5 1 (.slice a2 n2 c2) n2 (u8 ([0] ++ keyB n.tab n.row ++ (be8 (IntKind.wrap .u64 n.val)).take i)) ∧ Below w5.heap.size w13 w', ⟨8, 0, by omega, rfl, rfl, rfl, by simpa using g1, Below.refl _ _⟩, ?_⟩
    rintro m w17 a2 n2 c2 x ⟨i, hi, rfl, rfl, rfl, hown, hb⟩
    by_cases hlt : i < 8
    · rw [bif_pos (by omega), wrap_i64 (n := 8 * (7 - (i : Int))) (by omega) (by omega), show 8 * (7 - (i : Int)) = 56 - 8 * (i : Int) by omega]
      refine ⟨n.val, ((hX.below hb (by omega)).cell 68).trans (Nd.cell_row hn 2), by omega, ?_⟩
      have hs17 := hb.size
      refine app_elem bT hown (by rw [zc5]; rfl) (ys := u8 [IntKind.wrap .u8 (shR .u64 (IntKind.wrap .u64 n.val) (56 - 8 * (i : Int)))]) rfl rfl ones_ints (by omega) (by omega) (by omega) fun a3 c3 w3 k1 k2 => ?_
      rw [wrap_i64 (by omega) (by omega)]
      refine ⟨8 - (i + 1), by omega, i + 1, by omega, by omega, rfl, rfl, ?_, hb.trans k2⟩
      rw [← List.map_append] at k1
      rw [be8_take hlt, ← List.append_assoc]
      exact k1
    · have : i = 8 := by omega
      subst this
      rw [bif_neg (by omega)]
      rw [List.take_of_length_le (by rw [be8_length]; omega)] at hown
      exact TextR.yes (ht.up hb (by omega)) e2 (by rw [leafT_length]) (own_base hown (by omega))
  rw [bif_neg hk1]
  by_cases hk2 : n.kind = 2
  · rw [bif_pos hk2]
    have e1 : textS n = if n.row0 ∧ 0 ≤ n.bit ∧ n.bit < 80 then some (forkT n.bit n.left n.right) else none := by unfold textS; rw [if_neg hk0, if_neg hk1, if_pos hk2]
    refine ⟨fun w' => n.row0 ∧ 0 ≤ n.bit ∧ n.bit < 80 ∧ w' = w12, ?_, ?_⟩
    · by_cases h2 : n.row0
      · rw [decide_eq_true h2]
        refine ⟨n.bit, hX.cell 1, ?_⟩
        by_cases h3 : n.bit < 0
        · rw [bif_pos h3]
          exact TextR.no ht (by rw [e1, if_neg (fun h => by omega)])
        · rw [bif_neg h3]
          refine ⟨n.bit, hX.cell 1, ?_⟩
          by_cases h4 : 80 ≤ n.bit
          · rw [bif_pos h4]
            exact TextR.no ht (by rw [e1, if_neg (fun h => by omega)])
          · rw [bif_neg h4]
            exact ⟨h2, by omega, by omega, rfl⟩
      · rw [decide_eq_false h2]
        exact TextR.no ht (by rw [e1, if_neg (fun h => h2 h.1)])
    rintro w51 ⟨h2, h3, h4, rfl⟩
    refine ⟨n.bit, hX.cell 1, u8 [1, IntKind.wrap .u8 n.bit], by rw [zc5]; rfl, ?_⟩
    rintro w54 rfl
    have hs := ht.size
    have hl := hX.lt
    have hXa := hX.alloc (.cells (u8 [1, IntKind.wrap .u8 n.bit]).toArray 5)
    have hr1 : ∀ {w' : World}, Blk w' w.heap.size n.cells → RSl w' 1 (some ⟨w.heap.size, 2, none⟩) 32 32 (u8 n.left) := fun h =>
      ⟨Nat.le_refl _, by rw [List.length_map, hn.ll], ones_ints, .inr ⟨_, 2, rfl, by rw [← Nd.part_left hn]; exact h.cells_at 2 32⟩⟩
    have hr2 : ∀ {w' : World}, Blk w' w.heap.size n.cells → RSl w' 1 (some ⟨w.heap.size, 34, none⟩) 32 32 (u8 n.right) := fun h =>
      ⟨Nat.le_refl _, by rw [List.length_map, hn.rl], ones_ints, .inr ⟨_, 34, rfl, by rw [← Nd.part_right hn]; exact h.cells_at 34 32⟩⟩
    refine app_row bT (own_new w51 (n := 2) (cs := u8 [1, IntKind.wrap .u8 n.bit]) (base := w51.heap.size) (size := 1) (Nat.le_refl _) rfl (by omega)) (hr1 hXa) (by rw [size_alloc]; omega) (by omega) (by omega) fun a' c' w13 g1 g2 => ?_
    replace hX := hXa.below g2 (by omega)
    replace ht := (ht.alloc (.cells (u8 [1, IntKind.wrap .u8 n.bit]).toArray 5)).up g2 (by omega)
    have hs13 := g2.size
    rw [size_alloc] at hs13
    refine app_row bT g1 (hr2 hX) (by omega) (by omega) (by omega) fun a2 c2 w14 k1 k2 => ?_
    rw [← List.map_append, ← List.map_append] at k1
    exact TextR.yes (ht.up k2 (by omega)) (by rw [e1, if_pos ⟨h2, h3, h4⟩]; rfl) (by simp [hn.ll, hn.rl]) (own_base k1 (by omega))
  · rw [bif_neg hk2]
    refine TextR.no ht ?_
    unfold textS
    rw [if_neg hk0, if_neg hk1, if_neg hk2]
end Go.Proofs.YtjkbjppopdfggaaDoor.Sha
