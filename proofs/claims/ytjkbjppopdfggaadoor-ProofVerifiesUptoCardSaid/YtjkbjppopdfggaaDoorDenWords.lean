/-
  WORDS FOR CONTRACTS: numbers in range, blocks of cells, rows that are read, slices that are owned.
  Own work. No macro, syntax, notation, axiom.
-/
import Derived.Test.YtjkbjppopdfggaaDoorDenSound8
import Derived.Below
namespace Go.Proofs.YtjkbjppopdfggaaDoor.Den
open Go
open Go.RowKit (Below)

/-! ### Numbers -/
theorem wrap_i64 {n : Int} (h1 : -9223372036854775808 ≤ n) (h2 : n ≤ 9223372036854775807) : IntKind.wrap .i64 n = n := by
  simp [IntKind.wrap, IntKind.bits, IntKind.signed]
  split <;> omega
theorem wrap_u8 {n : Int} (h1 : 0 ≤ n) (h2 : n < 256) : IntKind.wrap .u8 n = n := by
  simp [IntKind.wrap, IntKind.bits, IntKind.signed]
  omega
theorem wrap_u32 {n : Int} (h1 : 0 ≤ n) (h2 : n < 4294967296) : IntKind.wrap .u32 n = n := by
  simp [IntKind.wrap, IntKind.bits, IntKind.signed]
  omega
theorem wrap_u64 {n : Int} (h1 : 0 ≤ n) (h2 : n < 18446744073709551616) : IntKind.wrap .u64 n = n := by
  simp [IntKind.wrap, IntKind.bits, IntKind.signed]
  omega
theorem wrap_u8_eq (n : Int) : IntKind.wrap .u8 n = n % 256 := by simp [IntKind.wrap, IntKind.bits, IntKind.signed]
theorem wrap_u32_eq (n : Int) : IntKind.wrap .u32 n = n % 4294967296 := by simp [IntKind.wrap, IntKind.bits, IntKind.signed]
theorem wrap_u64_eq (n : Int) : IntKind.wrap .u64 n = n % 18446744073709551616 := by simp [IntKind.wrap, IntKind.bits, IntKind.signed]
theorem bOr_comm (k : IntKind) (x y : Int) : bOr k x y = bOr k y x := by unfold bOr; rw [BitVec.or_comm]

/-! ### Blocks -/
theorem add_mk (b o n : Nat) : Addr.add ⟨b, o, none⟩ n = ⟨b, o + n, none⟩ := by
  unfold Addr.add
  split
  · rename_i h; subst h; rfl
  · rfl
/-- The block's cells, not frozen. -/
def Blk (w : World) (b : Nat) (cs : List Value) : Prop := ∃ T, w.heap[b]? = some (.cells cs.toArray T (0, 0))
theorem Blk.cell {w : World} {b : Nat} {cs : List Value} (h : Blk w b cs) (o : Nat) : w.cell? ⟨b, o, none⟩ = cs[o]? := by
  obtain ⟨T, h⟩ := h
  simp [World.cell?, h]
theorem Blk.frozen {w : World} {b : Nat} {cs : List Value} (h : Blk w b cs) (o : Nat) : w.frozen? ⟨b, o, none⟩ = false := by
  obtain ⟨T, h⟩ := h
  simp [World.frozen?, h]
theorem Blk.lt {w : World} {b : Nat} {cs : List Value} (h : Blk w b cs) : b < w.heap.size := by
  obtain ⟨T, h⟩ := h
  exact (Array.getElem?_eq_some_iff.1 h).1
theorem Blk.uniq {w : World} {b : Nat} {cs ds : List Value} (h : Blk w b cs) (k : Blk w b ds) : cs = ds := by
  obtain ⟨T, h⟩ := h
  obtain ⟨U, k⟩ := k
  rw [h] at k
  simp at k
  exact k.1
theorem Blk.of_heap {w w' : World} {b : Nat} {cs : List Value} (h : Blk w b cs) (e : w'.heap[b]? = w.heap[b]?) : Blk w' b cs := by
  obtain ⟨T, h⟩ := h
  exact ⟨T, e.trans h⟩
theorem Blk.drew {w : World} {b : Nat} {cs : List Value} (h : Blk w b cs) : Blk w.drew b cs := h.of_heap rfl
theorem Blk.alloc {w : World} {b : Nat} {cs : List Value} (h : Blk w b cs) (o : Obj) : Blk (w.alloc o) b cs := h.of_heap (Below.heap_alloc w o b h.lt)
theorem Blk.new (w : World) (c : Array Value) (T : TypeId) : Blk (w.alloc (.cells c T)) w.heap.size c.toList := ⟨T, by show (w.heap.push _)[w.heap.size]? = _; simp⟩
theorem Blk.set {w : World} {b : Nat} {cs : List Value} (h : Blk w b cs) (o : Nat) (v : Value) : Blk (w.setCell ⟨b, o, none⟩ v) b (cs.set o v) := by
  obtain ⟨T, h⟩ := h
  exact ⟨T, by simp [World.setCell, Array.getElem?_modify, h]⟩
theorem Blk.set_ne {w : World} {b : Nat} {cs : List Value} (h : Blk w b cs) {a : Addr} (hne : b ≠ a.block) (v : Value) : Blk (w.setCell a v) b cs := h.of_heap (Below.heap_setCell w a v b hne)
theorem Blk.below {B : Nat} {w w' : World} {b : Nat} {cs : List Value} (h : Blk w b cs) (hb : Below B w w') (hlt : b < B) : Blk w' b cs := h.of_heap (hb.block b hlt)
theorem Blk.cells {w : World} {b : Nat} {cs : List Value} (h : Blk w b cs) : Cells w ⟨b, 0, none⟩ cs := fun i v hv => by
  rw [add_mk, h.cell]; simpa using hv
theorem Blk.cells_at {w : World} {b : Nat} {cs : List Value} (h : Blk w b cs) (o n : Nat) : Cells w ⟨b, o, none⟩ ((cs.drop o).take n) := fun i v hv => by
  rw [add_mk, h.cell]
  rw [List.getElem?_take] at hv
  split at hv
  · rwa [List.getElem?_drop] at hv
  · cases hv
theorem Blk.room {w : World} {b : Nat} {cs : List Value} (h : Blk w b cs) (o n : Nat) (hn : o + n ≤ cs.length) : Room w ⟨b, o, none⟩ n := fun i hi => by
  rw [add_mk, h.cell, h.frozen]
  have : o + i < cs.length := by omega
  simp [this]
theorem heap_setCells {b o : Nat} : ∀ {vs : List Value} {i : Nat} {w : World} {k : Nat}, k ≠ b → (setCells w ⟨b, o, none⟩ vs i).heap[k]? = w.heap[k]?
  | [], _, _, _, _ => rfl
  | v :: r, i, w, k, hk => by
    unfold setCells
    rw [heap_setCells hk, Below.heap_setCell _ _ _ _ (by rw [add_mk]; exact hk)]
theorem Blk.sets {b o : Nat} : ∀ {vs : List Value} {i : Nat} {w : World} {cs : List Value}, Blk w b cs → o + i + vs.length ≤ cs.length → Blk (setCells w ⟨b, o, none⟩ vs i) b (splice cs (o + i) vs)
  | [], i, w, cs, h, _ => by simpa [setCells, splice] using h
  | v :: r, i, w, cs, h, hl => by
    unfold setCells
    rw [add_mk]
    simp only [List.length_cons] at hl
    have := Blk.sets (b := b) (o := o) (vs := r) (i := i + 1) (h.set (o + i) v) (by simp; omega)
    have e : splice (cs.set (o + i) v) (o + (i + 1)) r = splice cs (o + i) (v :: r) := by
      simp only [splice, List.length_cons]
      apply List.ext_getElem?
      intro j
      simp only [List.getElem?_append, List.getElem?_take, List.getElem?_drop, List.getElem?_set, List.length_take, List.length_set, List.getElem?_cons]
      rcases Nat.lt_trichotomy j (o + i) with h | h | h
      · have h1 : j < min (o + (i + 1)) cs.length := by omega
        have h2 : j < min (o + i) cs.length := by omega
        rw [if_pos h1, if_pos h2, if_pos (by omega), if_neg (by omega), if_pos h]
      · subst h
        have h1 : o + i < min (o + (i + 1)) cs.length := by omega
        have h2 : ¬ o + i < min (o + i) cs.length := by omega
        rw [if_pos h1, if_neg h2]
        simp [show o + i < cs.length by omega, show o + i < o + (i + 1) by omega, show min (o + i) cs.length = o + i by omega]
      · have h1 : ¬ j < min (o + (i + 1)) cs.length := by omega
        have h2 : ¬ j < min (o + i) cs.length := by omega
        rw [if_neg h1, if_neg h2, show min (o + (i + 1)) cs.length = o + (i + 1) by omega, show min (o + i) cs.length = o + i by omega]
        have hl2 : (v :: r).length = r.length + 1 := rfl
        by_cases h3 : j - (o + (i + 1)) < r.length
        · rw [if_pos h3, if_pos (by omega), if_neg (by omega)]
          congr 1
        · rw [if_neg h3, if_neg (by omega), if_neg (by omega)]
          congr 1; omega
    rw [← e]
    exact this
theorem below_setCells {B : Nat} {a w : World} (h : Below B a w) {b o : Nat} (hb : B ≤ b) : ∀ {vs : List Value} {i : Nat}, Below B a (setCells w ⟨b, o, none⟩ vs i) := by
  intro vs
  induction vs generalizing w with
  | nil => intro i; exact h
  | cons v r ih =>
    intro i
    unfold setCells
    rw [add_mk]
    exact ih (h.setCell hb v)
theorem size_setCells {b o : Nat} : ∀ {vs : List Value} {i : Nat} {w : World}, (setCells w ⟨b, o, none⟩ vs i).heap.size = w.heap.size
  | [], _, _ => rfl
  | v :: r, i, w => by unfold setCells; rw [size_setCells]; simp [World.setCell]
theorem splice_all {l vs : List Value} (h : vs.length = l.length) : splice l 0 vs = vs := by simp [splice, h]

/-! ### Rows that are read -/
def Row (w : World) (a : Option Addr) (cs : List Value) : Prop := cs = [] ∨ ∃ b o, a = some ⟨b, o, none⟩ ∧ Cells w ⟨b, o, none⟩ cs
theorem Row.get {w : World} {a : Option Addr} {cs : List Value} (h : Row w a cs) {i : Nat} (hi : i < cs.length) : ∃ b o, a = some ⟨b, o, none⟩ ∧ w.cell? ⟨b, o + i, none⟩ = some cs[i] := by
  rcases h with rfl | ⟨b, o, h1, h2⟩
  · simp at hi
  · refine ⟨b, o, h1, ?_⟩
    have := h2 i cs[i] (by simp [hi])
    rwa [add_mk] at this
theorem cells_below {B : Nat} {w w' : World} {b o : Nat} {cs : List Value} (h : Cells w ⟨b, o, none⟩ cs) (hb : Below B w w') (hlt : b < B) : Cells w' ⟨b, o, none⟩ cs := fun i v hv => by
  have := h i v hv
  rw [add_mk] at this ⊢
  rw [hb.cell (p := ⟨b, o + i, none⟩) hlt]; exact this
theorem Row.below {w w' : World} {a : Option Addr} {cs : List Value} (h : Row w a cs) (hb : Below w.heap.size w w') : Row w' a cs := by
  rcases h with rfl | ⟨b, o, h1, h2⟩
  · exact .inl rfl
  · by_cases hc : cs = []
    · exact .inl hc
    · refine .inr ⟨b, o, h1, cells_below h2 hb ?_⟩
      cases cs with
      | nil => exact absurd rfl hc
      | cons v r =>
        have := h2 0 v rfl
        rw [add_mk] at this
        exact World.block_lt_of_cell? _ _ this
theorem Row.sub {w : World} {a : Option Addr} {cs : List Value} (h : Row w a cs) (o n : Nat) (p : Prop) [Decidable p] (hp : p → (cs.drop o).take n = []) : Row w (if p then a else a.map (·.add o)) ((cs.drop o).take n) := by
  split
  · exact .inl (hp ‹_›)
  · rcases h with rfl | ⟨b, q, h1, h2⟩
    · exact .inl (by simp)
    · refine .inr ⟨b, q + o, by simp [h1, add_mk], fun i v hv => ?_⟩
      rw [List.getElem?_take] at hv
      split at hv
      · rw [List.getElem?_drop] at hv
        have := h2 _ _ hv
        rw [add_mk] at this ⊢
        rw [Nat.add_assoc]; exact this
      · cases hv
theorem Blk.row {w : World} {b : Nat} {cs : List Value} (h : Blk w b cs) : Row w (some ⟨b, 0, none⟩) cs := .inr ⟨b, 0, rfl, h.cells⟩
theorem Row.take {w : World} {a : Option Addr} {cs : List Value} (h : Row w a cs) (n : Nat) : Row w a (cs.take n) := by
  rcases h with rfl | ⟨b, q, h1, h2⟩
  · exact .inl (by simp)
  · exact .inr ⟨b, q, h1, fun i v hv => h2 i v (by rw [List.getElem?_take] at hv; split at hv; exact hv; cases hv)⟩
end Go.Proofs.YtjkbjppopdfggaaDoor.Den
