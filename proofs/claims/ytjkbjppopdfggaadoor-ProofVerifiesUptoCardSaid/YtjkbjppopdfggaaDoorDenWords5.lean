/-
  WORDS FOR CONTRACTS: a local row read and written as a whole; append of one element, and of zeros.
  Own work. No macro, syntax, notation, axiom.
-/
import Derived.Test.YtjkbjppopdfggaaDoorDenWords4
namespace Go.Proofs.YtjkbjppopdfggaaDoor.Den
open Go
open Go.RowKit (Below)

/-! ### A block as a whole, or a part of it -/
theorem get_all {w : World} {b n : Nat} {cs : List Value} (h : Blk w b cs) (hl : cs.length = n) {K : List Value → Prop} (hK : K cs) :
    ∃ ds : List Value, List.length ds = n ∧ Cells w ⟨b, 0, none⟩ ds ∧ K ds := ⟨cs, hl, h.cells, hK⟩
theorem get_part {w : World} {b : Nat} {cs : List Value} (h : Blk w b cs) (o n : Nat) (ds : List Value) (he : (cs.drop o).take n = ds) (hl : ds.length = n) {K : List Value → Prop} (hK : K ds) :
    ∃ ds : List Value, List.length ds = n ∧ Cells w (Addr.add ⟨b, 0, none⟩ o) ds ∧ K ds := by
  subst he
  refine ⟨_, hl, ?_, hK⟩
  rw [add_mk, Nat.zero_add]
  exact h.cells_at o n
theorem put_all {w : World} {b n : Nat} {old new : List Value} (h : Blk w b old) (ho : old.length = n) (hn : new.length = n) (h1 : ∀ u ∈ new, one u = true) {K : World → Prop}
    (hK : ∀ w', Blk w' b new → Tch [b] w w' → w'.heap.size = w.heap.size → K w') :
    Array.size (List.toArray new) = n ∧ (∀ u ∈ Array.toList (List.toArray new), one u = true) ∧ Room w ⟨b, 0, none⟩ n ∧
      ∀ w' : World, w' = setCells w ⟨b, 0, none⟩ (Array.toList (List.toArray new)) 0 → K w' := by
  refine ⟨by simpa using hn, by simpa using h1, h.room 0 n (by omega), ?_⟩
  rintro w' rfl
  have h2 := h.sets (vs := new) (i := 0) (o := 0) (by omega)
  rw [splice_all (by omega)] at h2
  exact hK _ h2 (Tch.setCells (.inl (by simp)) (Tch.refl _ _)) size_setCells
/-- A new variable that is given its value at once. -/
theorem var_init {P : Program} {t : TypeId} {w : World} {n : Nat} {new : List Value} (hz : (zc P t).length = n) (hn : new.length = n) (h1 : ∀ u ∈ new, one u = true) {K : World → World → Prop}
    (hK : ∀ w1 w', Blk w' w.heap.size new → Tch [] w w' → w'.heap.size = w.heap.size + 1 → K w1 w') :
    ∀ w1 : World, w1 = World.alloc w (.cells (zc P t).toArray t) → Array.size (List.toArray new) = n ∧ (∀ u ∈ Array.toList (List.toArray new), one u = true) ∧ Room w1 ⟨World.heap w |>.size, 0, none⟩ n ∧
      ∀ w' : World, w' = setCells w1 ⟨World.heap w |>.size, 0, none⟩ (Array.toList (List.toArray new)) 0 → K w1 w' := by
  rintro w1 rfl
  refine put_all (Blk.fresh w t rfl) hz hn h1 fun w' h2 h3 h4 => ?_
  exact hK _ w' h2 (((Tch.refl [] w).alloc _).trans h3 (by simp)) (by rw [h4, size_alloc])
/-- A part of a block that is written. -/
theorem Blk.sets_at {w : World} {b : Nat} {cs vs : List Value} (h : Blk w b cs) (o : Nat) (ho : o + vs.length ≤ cs.length) : Blk (setCells w ⟨b, o, none⟩ vs 0) b (splice cs o vs) := by
  have := h.sets (o := o) (i := 0) (vs := vs) (by omega)
  simpa using this

/-! ### Frames -/
theorem Tch.to_below {s : List Nat} {w w' : World} {B : Nat} (h : Tch s w w') (hB : B ≤ w.heap.size) (hs : ∀ i ∈ s, B ≤ i) : Below B w w' := h.below' hB hs
theorem Tch.up {s : List Nat} {a w w' : World} {B : Nat} (h : Tch s a w) (hb : Below B w w') (hB : a.heap.size ≤ B) : Tch s a w' :=
  ⟨hb.os.trans h.os, hb.tape.trans h.tape, hb.output.trans h.output, Nat.le_trans h.size hb.size, fun i hi hn => (hb.block i (by omega)).trans (h.block i hi hn)⟩
theorem own_up {w w' : World} {base e size : Nat} {v : Value} {n : Nat} {xs : List Value} (h : w.ownsRow base e size v n xs) {s : List Nat} (ht : Tch s w w') (hs : ∀ k, v.ownBlock = some k → k ∉ s) : w'.ownsRow base e size v n xs :=
  own_keep h fun k hk => ht.block k (own_lt h hk).2 (hs k hk)

/-! ### append -/
theorem fill1 {l : List Value} {sz : Nat} {v : Value} {cs : List Value} (hl : l.length = sz) (hv : v.cells = cs.toArray) (hc : cs.length = sz) : fillL (.elems sz) l [(0, v)] = some cs := by
  have h1 : Place.at (.elems sz) 0 = some (0, sz) := by simp [Place.at]
  have h2 : v.cells.size = sz := by rw [hv]; simpa using hc
  simp only [fillL, h1, h2, hl, Nat.zero_add, Nat.le_refl, and_self, if_true]
  rw [hv, splice_all (by simp; omega)]
/-- append of rows of one's own: what is below the base stays. -/
theorem app_row {P : Program} {t e ty : TypeId} {size bytes : Nat} (hT : slT P t e size bytes = true) {w : World} {base : Nat} {a : Option Addr} {n c : Nat} {xs : List Value} (hown : w.ownsRow base e size (.slice a n c) n xs)
    {b : Option Addr} {m mc : Nat} {ys : List Value} (hy : RSl w size b m mc ys) (hb : base ≤ w.heap.size) (hlen : n + m ≤ 9223372036854775807) (hbytes : (n + m) * bytes ≤ 140737488355328) {K : Option Addr → Nat → Nat → World → Prop}
    (hK : ∀ a' c' w', w'.ownsRow base e size (.slice a' (n + m) c') (n + m) (xs ++ ys) → Below base w w' → K a' (n + m) c' w') :
    RunV P (Builtin.append_ #[t, t] ty #[.slice a n c, .slice b m mc]) w fun v w' => ∃ (x : Option Addr) (xn : Nat) (xc : Nat), v = (.slice x xn xc) ∧ K x xn xc w' :=
  app_own hT hown hy hb hlen hbytes fun a' c' w' h1 h2 => ⟨a', _, c', rfl, hK a' c' w' h1 (grown_below (Below.refl base w) hown h2 hb (Nat.le_refl _))⟩
/-- append of one element to a row of one's own. -/
theorem app_elem {P : Program} {t e ty : TypeId} {size bytes : Nat} (hT : slT P t e size bytes = true) {w : World} {base : Nat} {a : Option Addr} {n c : Nat} {xs : List Value} (hown : w.ownsRow base e size (.slice a n c) n xs)
    {z : List Value} (hz : z.length = 1 * size) {v : Value} {ys : List Value} (hv : v.cells = ys.toArray) (hl : ys.length = size) (h1 : ∀ u ∈ ys, one u = true)
    (hb : base ≤ w.heap.size) (hlen : n < 9223372036854775807) (hbytes : (n + 1) * bytes ≤ 140737488355328) {K : Option Addr → Nat → Nat → World → Prop}
    (hK : ∀ a' c' w', w'.ownsRow base e size (.slice a' (n + 1) c') (n + 1) (xs ++ ys) → Below base w w' → K a' (n + 1) c' w') :
    ∃ cs, fillL (.elems size) z [(0, v)] = some cs ∧ ∀ w1 : World, w1 = World.alloc w (.cells (List.toArray cs) e) →
      RunV P (Builtin.append_ #[t, t] ty #[.slice a n c, .slice (some ⟨World.heap w |>.size, 0, none⟩) 1 1]) w1 fun v w' => ∃ (x : Option Addr) (xn : Nat) (xc : Nat), v = (.slice x xn xc) ∧ K x xn xc w' := by
  refine ⟨ys, fill1 (by omega) hv hl, ?_⟩
  rintro w1 rfl
  have hr : RSl (w.alloc (.cells ys.toArray e)) size (some ⟨w.heap.size, 0, none⟩) 1 1 ys := (Blk.fresh w e rfl).rsl (by omega) h1
  refine app_row hT (own_alloc hown _) hr (by rw [size_alloc]; omega) (by omega) hbytes fun a' c' w' h2 h3 => hK a' c' w' h2 ?_
  exact ((Below.refl base w).alloc hb _).trans h3
theorem own_base {w : World} {base base' e size : Nat} {v : Value} {n : Nat} {xs : List Value} (h : w.ownsRow base e size v n xs) (hb : base' ≤ base) : w.ownsRow base' e size v n xs := by
  obtain ⟨hl, h0 | ⟨g, cap, cur, rfl, hg, r⟩⟩ := h
  · exact ⟨hl, .inl h0⟩
  · exact ⟨hl, .inr ⟨g, cap, cur, rfl, by omega, r⟩⟩
/-- append of so many zeros to nothing. -/
theorem app_zeros {P : Program} {t e ty ti : TypeId} {bytes : Nat} {k : IntKind} (hT : slT P t e 1 bytes = true) (hti : P.underlying ti = some (.int k)) {w : World} {n : Nat} (h0 : 0 < n) (hn : n ≤ 9223372036854775807) (hbytes : n * bytes ≤ 140737488355328) {K : Value → World → Prop}
    (hK : ∀ c w' zs, w'.ownsRow w.heap.size e 1 (.slice (some ⟨w.heap.size, 0, none⟩) n c) n zs → Tch [] w w' → K (.slice (some ⟨w.heap.size, 0, none⟩) n c) w') :
    RunV P (Builtin.append_ #[t, ti] ty #[.slice none 0 0, .int .i64 n]) w K := by
  obtain ⟨g1, g2, i, z, g3, g4, g5, g6, g7⟩ := slT_spec hT
  have hn0 : n ≠ 0 := by omega
  have h63 : ¬ ((n : Int) < 0) := by omega
  have h63' : ¬ (9223372036854775807 < (n : Int)) := by omega
  have h48 : ¬ (281474976710656 < (n : Int) * (i.bytes : Int)) := by
    rw [g6, ← Int.natCast_mul]
    omega
  have h48' : ¬ (281474976710656 < Builtin.nextslicecap n 0 * i.bytes) := by rw [nextslicecap_zero h0, g6]; omega
  have hw : IntKind.wrap .i64 (n : Int) = n := wrap_i64 (by omega) (by omega)
  have hle : ¬ ((n : Int) ≤ 0) := by omega
  have hmax : max (n : Int) 0 = n := by omega
  have hge := grownCap_ge w n 0 e
  have hcm : grownCap w n 0 e ≤ maxLen := grownCap_le_maxLen w n 0 e (by unfold maxLen; omega)
  refine ⟨.slice (some ⟨w.heap.size, 0, none⟩) n (grownCap w n 0 e), w.drew.alloc (.cells (Builtin.zeroCells z.cells n ++ Builtin.zeroCells z.cells (grownCap w n 0 e - n)) e), ?_, ?_⟩
  · simp [Builtin.append_, run_underlying g1, run_underlying hti, sizeOf, typeInfo, zeroValue, g3, g4, hn0, h63, h63', h48, h48', hw, asInt, asIntOf, hle, hmax, Question.forced, newRow, grownCap, g5, run_firstCells_none]
  · refine hK _ _ (Builtin.zeroCells z.cells n).toList ⟨?_, .inr ⟨w.heap.size, _, _, rfl, Nat.le_refl _, heap_alloc_new w.drew _, hge, hcm, ?_, ?_⟩⟩ ((Tch.refl [] w).drew.alloc _)
    · rw [Array.length_toList, size_zeroCells, g7]
    · simp only [Array.size_append, size_zeroCells, g7]; omega
    · rw [Array.toList_append, List.take_left' (by rw [Array.length_toList, size_zeroCells, g7])]
end Go.Proofs.YtjkbjppopdfggaaDoor.Den
