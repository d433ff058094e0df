/-
  WORDS FOR MAPS whose keys are rows of numbers, booleans, strings: 'MapAt'; lookup, update, delete.
  TREES OVER ROWS: the tree as data and as memory; contracts of IndexFunc, digest, grow.
  A FUNCTION WITH A RANGE OVER A FUNCTION IN ITS OUTERMOST SEQUENCE: what is asked of it, and that this is right.
  THE CODE of some functions of the given program, resolved, and proved to ask what the readable texts (d..) say; contracts c.. follow. Printed by a small program of mine.
  slices.Backward over forks: the iterator's contract.
  THE CODE of some functions of the given program, resolved, and proved to ask what the readable texts (d..) say; contracts c.. follow. Printed by a small program of mine.
  Own work. No macro, syntax, notation, axiom.
-/
import Derived.Test.YtjkbjppopdfggaaDoorTruPk8
import Derived.DeepKeys3
import Derived.Test.YtjkbjppopdfggaaDoorTruPk10
import Derived.Test.YtjkbjppopdfggaaDoorTruPk7
import Derived.Test.YtjkbjppopdfggaaDoorTruPk3
import Derived.RangeFuncNested
import Derived.RangeFuncLeaves
import Derived.Test.YtjkbjppopdfggaaDoorProg
import Derived.Test.YtjkbjppopdfggaaDoorTruPk9
namespace Go.Proofs.YtjkbjppopdfggaaDoor.Den
open Go
open Go.RowKit (Below)
open Classical
abbrev Ents := List (List Value × Value)
def entOf (e : List Value × Value) (m : MapEntry) : Prop := m.key = .agg e.1.toArray ∧ m.val = e.2
/-- A map's block, its entries in order. -/
def MapAt (w : World) (b : Nat) (es : Ents) : Prop := ∃ (arr : Array MapEntry) (clock : Nat), w.heap[b]? = some (.map arr clock) ∧ arr.toList.length = es.length ∧ ∀ (i : Nat) (m : MapEntry) (e : List Value × Value), arr.toList[i]? = some m → es[i]? = some e → entOf e m
theorem MapAt.lt {w : World} {b : Nat} {es : Ents} (h : MapAt w b es) : b < w.heap.size := by
  obtain ⟨arr, c, hb, _⟩ := h
  exact (Array.getElem?_eq_some_iff.1 hb).1
theorem MapAt.of_heap {w w' : World} {b : Nat} {es : Ents} (h : MapAt w b es) (he : w'.heap[b]? = w.heap[b]?) : MapAt w' b es := by
  obtain ⟨arr, c, hb, h⟩ := h
  exact ⟨arr, c, he.trans hb, h⟩
theorem MapAt.tch {s : List Nat} {w w' : World} {b : Nat} {es : Ents} (h : MapAt w b es) (ht : Tch s w w') (hb : b ∉ s) : MapAt w' b es := h.of_heap (ht.block b h.lt hb)
theorem MapAt.new (w : World) : MapAt (w.alloc (.map #[] 0)) w.heap.size [] := ⟨#[], 0, by show (w.heap.push _)[w.heap.size]? = _; simp, rfl, by simp⟩
noncomputable def mGet : Ents → List Value → Option Value
  | [], _ => none
  | e :: r, k => if e.1 = k then some e.2 else mGet r k
noncomputable def mDel : Ents → List Value → Ents
  | [], _ => []
  | e :: r, k => if e.1 = k then r else e :: mDel r k
/-- An entry is set, or comes. -/
noncomputable def mPut : Ents → List Value → Value → Ents
  | [], k, v => [(k, v)]
  | e :: r, k, v => if e.1 = k then (k, v) :: r else e :: mPut r k v
theorem mPut_none {v : Value} {k : List Value} : ∀ {es : Ents}, mGet es k = none → mPut es k v = es ++ [(k, v)]
  | [], _ => rfl
  | e :: r, h => by
    unfold mGet at h
    split at h
    · cases h
    · rename_i hn
      rw [mPut, if_neg hn, mPut_none h]
      rfl
theorem mPut_keys {v : Value} {k : List Value} : ∀ {es : Ents} {e : List Value × Value}, e ∈ mPut es k v → e.1 = k ∨ e ∈ es
  | [], e, h => by rw [mPut, List.mem_singleton] at h; exact .inl (by rw [h])
  | x :: r, e, h => by
    unfold mPut at h
    split at h
    · rcases List.mem_cons.1 h with rfl | h
      · exact .inl rfl
      · exact .inr (List.mem_cons_of_mem _ h)
    · rcases List.mem_cons.1 h with rfl | h
      · exact .inr (by simp)
      · exact (mPut_keys h).imp id (List.mem_cons_of_mem _)
/-- What a map's key type is asked. -/
structure MapT (P : Program) (t kt et : TypeId) (d : Nat) (ks : List FK) : Prop where
  map : P.underlying t = some (.map kt et)
  flat : flatK P d kt = some ks
  eqT : eqT P d kt = true
section
variable {P : Program} {t kt et : TypeId} {d : Nat} {ks : List FK}
theorem MapT.check (T : MapT P t kt et d ks) {xs : List Value} (hx : Fits ks xs) (em : Bool) (w : World) : (Instr.checkKey em 10000 kt (.agg xs.toArray)).run P w = .ok () w := by
  have hk := T.eqT
  unfold Den.eqT at hk
  simp only [Bool.and_eq_true, decide_eq_true_eq] at hk
  have h := run_checkKey_deep (P := P) em (10000 - d) d kt hk.1.1.1
  rw [show 10000 - d + d = 10000 by omega] at h
  refine h w d _ (xs.map litOf) (flat_cells T.flat T.eqT hx) ?_
  show P.keyLits d kt (xs.toArray).toList = _
  rw [List.toList_toArray]
  rcases lits_flat d kt ks T.flat xs with h | h | h
  · exact h.1
  · exact absurd hx h.2
  · exact absurd hx.length h
theorem MapT.wide (T : MapT P t kt et d ks) : (match P.underlying kt with | some (.array _ _) | some (.struct _) => true | _ => false) = true := by
  have hk := T.eqT
  unfold Den.eqT at hk
  simp only [Bool.and_eq_true] at hk
  exact hk.1.2
theorem MapT.asks (T : MapT P t kt et d ks) {xs : List Value} (hx : Fits ks xs) (w : World) : ∀ (ms : List MapEntry) (es : Ents) (i : Nat), ms.length = es.length → (∀ (j : Nat) (m : MapEntry) (e : List Value × Value), ms[j]? = some m → es[j]? = some e → entOf e m) → (∀ e ∈ es, Fits ks e.1) →
    (mGet es xs = none ∧ (Instr.findAsking kt (.agg xs.toArray) ms i).run P w = .ok none w ∧ mDel es xs = es) ∨
    ∃ j v, mGet es xs = some v ∧ (Instr.findAsking kt (.agg xs.toArray) ms i).run P w = .ok (some (i + j, v)) w ∧ j < ms.length ∧ mDel es xs = es.eraseIdx j ∧ es[j]? = some (xs, v) ∧ ∀ u, mPut es xs u = es.set j (xs, u)
  | [], [], i, _, _, _ => .inl ⟨rfl, by simp [Instr.findAsking], rfl⟩
  | [], _ :: _, _, h, _, _ => by simp at h
  | _ :: _, [], _, h, _, _ => by simp at h
  | m :: ms, e :: es, i, hl, he, hf => by
    obtain ⟨h1, h2⟩ := he 0 m e rfl rfl
    obtain ⟨r, hr, hiff⟩ := run_flat T.flat T.eqT hx (hf e (by simp)) w
    have hq : (Op.equal kt (.agg xs.toArray) m.key).run P w = .ok r w := by rw [h1]; exact hr
    by_cases hke : e.1 = xs
    · have hrt : r = true := hiff.2 hke.symm
      subst hrt
      refine .inr ⟨0, e.2, by simp [mGet, hke], ?_, by simp, by simp [mDel, hke], by rw [← hke]; rfl, fun u => by simp [mPut, hke]⟩
      simp [Instr.findAsking, hq, Result.andThen, h2]
    · have hrf : r = false := by
        cases r
        · rfl
        · exact absurd (hiff.1 rfl).symm hke
      subst hrf
      rcases MapT.asks T hx w ms es (i + 1) (by simpa using hl) (fun j m' e' hm' he' => he (j + 1) m' e' (by simpa using hm') (by simpa using he')) (fun e' h' => hf e' (by simp [h'])) with ⟨g1, g2, g3⟩ | ⟨j, v, g1, g2, g3, g4, g5, g6⟩
      · refine .inl ⟨by simp [mGet, hke, g1], ?_, by simp [mDel, hke, g3]⟩
        simp [Instr.findAsking, hq, Result.andThen, g2]
      · refine .inr ⟨j + 1, v, by simp [mGet, hke, g1], ?_, by simpa using g3, by simp [mDel, hke, g4], by simpa using g5, fun u => by simp [mPut, hke, g6]⟩
        simp [Instr.findAsking, hq, Result.andThen, g2]
        omega
theorem MapT.find (T : MapT P t kt et d ks) {xs : List Value} (hx : Fits ks xs) (w : World) {ms : List MapEntry} {es : Ents} (hl : ms.length = es.length) (he : ∀ (j : Nat) (m : MapEntry) (e : List Value × Value), ms[j]? = some m → es[j]? = some e → entOf e m) (hf : ∀ e ∈ es, Fits ks e.1) :
    (mGet es xs = none ∧ (Instr.findKey kt (.agg xs.toArray) ms).run P w = .ok none w ∧ mDel es xs = es) ∨
    ∃ j v, mGet es xs = some v ∧ (Instr.findKey kt (.agg xs.toArray) ms).run P w = .ok (some (j, v)) w ∧ j < ms.length ∧ mDel es xs = es.eraseIdx j ∧ es[j]? = some (xs, v) ∧ ∀ u, mPut es xs u = es.set j (xs, u) := by
  rw [run_findKey_eq w T.wide]
  rcases T.asks hx w ms es 0 hl he hf with h | ⟨j, v, h1, h2, h3⟩
  · exact .inl h
  · rw [Nat.zero_add] at h2
    exact .inr ⟨j, v, h1, h2, h3⟩
/-- What a lookup hands back. -/
noncomputable def mOk (o : Option Value) (z : Value) : Value := .tuple #[o.getD z, .bool o.isSome]
theorem MapT.lookup (T : MapT P t kt et d ks) {z : Value} (hz : ∀ w : World, (zeroValue et).run P w = .ok z w) {w : World} {b : Nat} {es : Ents} (h : MapAt w b es) (hf : ∀ e ∈ es, Fits ks e.1) {xs : List Value} (hx : Fits ks xs) :
    Sem.run P (Instr.lookup t (.map (some b)) (.agg xs.toArray) true) w = .ok (mOk (mGet es xs) z) w := by
  obtain ⟨arr, clock, hb, hl, he⟩ := h
  rcases T.find hx w hl he hf with ⟨h1, h2, _⟩ | ⟨j, v, h1, h2, _⟩
  · simp [Instr.lookup, run_underlying T.map, MapKept.run_getObj_map hb, T.check hx, h2, hz, h1, Result.andThen, mOk]
  · simp [Instr.lookup, run_underlying T.map, MapKept.run_getObj_map hb, T.check hx, h2, h1, Result.andThen, mOk]
theorem tch_put {w : World} {b : Nat} {o : Obj} : Tch [b] w { w with heap := w.heap.setIfInBounds b o } :=
  ⟨rfl, rfl, rfl, by simp, fun i _ hn => by
    have : b ≠ i := fun e => hn (by simp [e])
    simp [Array.getElem?_setIfInBounds_ne this]⟩
/-- A new entry. -/
theorem MapT.upd (T : MapT P t kt et d ks) {w : World} {b : Nat} {es : Ents} (h : MapAt w b es) (hf : ∀ e ∈ es, Fits ks e.1) {xs : List Value} (hx : Fits ks xs) (hno : mGet es xs = none) {v : Value} {K : World → Prop}
    (hK : ∀ w', MapAt w' b (es ++ [(xs, v)]) → Tch [b] w w' → K w') : RunU P (Instr.mapUpdate t (.map (some b)) (.agg xs.toArray) v) w K := by
  obtain ⟨arr, clock, hb, hl, he⟩ := h
  rcases T.find hx w hl he hf with ⟨h1, h2, _⟩ | ⟨j, v, h1, _⟩
  · refine ⟨_, by simp [Instr.mapUpdate, run_underlying T.map, MapKept.run_getObj_map hb, T.check hx, h2, MapKept.run_setObj_map _ hb, Result.andThen], hK _ ⟨arr.push { key := .agg xs.toArray, val := v, born := clock }, clock + 1, (MapKept.heap_set hb).1, by simp [← hl], fun i m e hm hi => ?_⟩ tch_put⟩
    rw [Array.toList_push, List.getElem?_append] at hm
    rw [List.getElem?_append, ← hl] at hi
    split at hm
    · rename_i hlt
      rw [if_pos hlt] at hi
      exact he i m e hm hi
    · rename_i hlt
      rw [if_neg hlt] at hi
      by_cases h0 : i - arr.toList.length = 0
      · rw [h0] at hm hi
        cases hm; cases hi
        exact ⟨rfl, rfl⟩
      · rw [List.getElem?_eq_none (by show 1 ≤ _; omega)] at hm
        cases hm
  · rw [hno] at h1; cases h1
theorem sameBits_flat {ks : List FK} : ∀ {xs : List Value}, Fits ks xs → ((xs.zip xs).all fun (x, y) => Instr.sameBits 9999 x y) = true := by
  induction ks with
  | nil => intro xs h; cases xs with
    | nil => rfl
    | cons _ _ => exact h.elim
  | cons k ks ih => intro xs h; cases xs with
    | nil => exact h.elim
    | cons x xs =>
      obtain ⟨h1, h2⟩ := h
      rw [List.zip_cons_cons, List.all_cons, ih h2, Bool.and_true]
      cases k <;> cases x <;> first | exact (show False from h1).elim | (simp [Instr.sameBits]; done) | (rename_i b; show (b == b) = true; obtain ⟨d⟩ := b; show (d == d) = true; simp)
/-- An entry is set, whether it was there or not. -/
theorem MapT.put (T : MapT P t kt et d ks) {w : World} {b : Nat} {es : Ents} (h : MapAt w b es) (hf : ∀ e ∈ es, Fits ks e.1) {xs : List Value} (hx : Fits ks xs) {v : Value} {K : World → Prop}
    (hK : ∀ w', MapAt w' b (mPut es xs v) → Tch [b] w w' → K w') : RunU P (Instr.mapUpdate t (.map (some b)) (.agg xs.toArray) v) w K := by
  cases hno : mGet es xs with
  | none => exact T.upd h hf hx hno fun w' h1 h2 => hK w' (by rw [mPut_none hno]; exact h1) h2
  | some u =>
    obtain ⟨arr, clock, hb, hl, he⟩ := h
    rcases T.find hx w hl he hf with ⟨h1, _⟩ | ⟨j, v', h1, h2, h3, _, h5, h6⟩
    · rw [hno] at h1; cases h1
    · have hjm : arr.toList[j]? = some (arr.toList[j]'h3) := List.getElem?_eq_getElem h3
      have hje := he j _ _ hjm h5
      have hkey : ((arr[j]?).map (·.key)).getD (.agg xs.toArray) = .agg xs.toArray := by
        rw [← Array.getElem?_toList, hjm]
        exact hje.1
      have hsb : Instr.sameBits 10000 (.agg xs.toArray) (.agg xs.toArray) = true := by
        show (xs.toArray.size == xs.toArray.size && (xs.toArray.toList.zip xs.toArray.toList).all fun (x, y) => Instr.sameBits 9999 x y) = true
        rw [List.toList_toArray, sameBits_flat hx]
        simp
      have hks : (Instr.keyThatStays (.agg xs.toArray) (.agg xs.toArray)).run P w = .ok (.agg xs.toArray) w := by
        unfold Instr.keyThatStays
        rw [if_pos hsb]
        rfl
      refine ⟨_, by simp [Instr.mapUpdate, run_underlying T.map, MapKept.run_getObj_map hb, T.check hx, h2, hkey, hks, MapKept.run_setObj_map _ hb, Result.andThen], hK _ ⟨arr.modify j fun e => { e with key := .agg xs.toArray, val := v }, clock, (MapKept.heap_set hb).1, ?_, ?_⟩ tch_put⟩
      · rw [h6, List.length_set, ← hl]; simp
      · intro i m e hm hi
        rw [h6, List.getElem?_set] at hi
        rw [Array.getElem?_toList, Array.getElem?_modify] at hm
        by_cases hij : j = i
        · rw [if_pos hij] at hi hm
          split at hi
          · cases hi
            rw [Option.map_eq_some_iff] at hm
            obtain ⟨m0, _, rfl⟩ := hm
            exact ⟨rfl, rfl⟩
          · cases hi
        · rw [if_neg hij] at hi hm
          exact he i m e (by rw [Array.getElem?_toList]; exact hm) hi
end
end Go.Proofs.YtjkbjppopdfggaaDoor.Den
namespace Go.Proofs.YtjkbjppopdfggaaDoor.Tre
open Go Den Fn Sha
open Go.RowKit (Below)
open Classical
set_option maxRecDepth 8000
set_option maxHeartbeats 2000000
inductive Tr where
  | leaf (x : Rw)
  | fork (bit : Nat) (l r : Tr)
def Tr.sum : Tr → List Int
  | .leaf x => sha (leafT x.t x.r x.v)
  | .fork n l r => sha (forkT (n : Int) l.sum r.sum)
def Tr.rows : Tr → List Rw
  | .leaf x => [x]
  | .fork _ l r => l.rows ++ r.rows
theorem Tr.sum_len (t : Tr) : t.sum.length = 32 := by cases t <;> exact sha_length _
theorem Tr.sum_bytes (t : Tr) : Bytes t.sum := by cases t <;> exact sha_bytes _
/-- The bit at which rows part. -/
noncomputable def partBit (l : List Rw) : Nat := if h : ∃ n, PartB l n then Classical.choose h else 0
theorem partBit_ok {l : List Rw} (h : RowsOk l) (h2 : 2 ≤ l.length) : PartB l (partBit l) := by
  unfold partBit
  rw [dif_pos (partB_ex h h2)]
  exact Classical.choose_spec (partB_ex h h2)
/-- The tree over rows. -/
noncomputable def treeS : Nat → List Rw → Tr
  | 0, _ => .leaf ⟨0, 0, 0⟩
  | k + 1, l => if l.length = 1 then .leaf (l.headD ⟨0, 0, 0⟩) else .fork (partBit l) (treeS k (l.take (partAt l (partBit l)))) (treeS k (l.drop (partAt l (partBit l))))
theorem treeS_rows : ∀ {k : Nat} {l : List Rw}, l.length ≤ k → 1 ≤ l.length → RowsOk l → (treeS k l).rows = l
  | 0, l, h1, h2, _ => by omega
  | k + 1, l, h1, h2, h => by
    unfold treeS
    by_cases e : l.length = 1
    · rw [if_pos e]
      obtain ⟨x, rfl⟩ := List.length_eq_one_iff.1 e
      rfl
    · rw [if_neg e]
      obtain ⟨g1, g2, _⟩ := (partBit_ok h (by omega)).at
      show (treeS k _).rows ++ (treeS k _).rows = l
      rw [treeS_rows (by rw [List.length_take]; omega) (by rw [List.length_take]; omega) (h.take _), treeS_rows (by rw [List.length_drop]; omega) (by rw [List.length_drop]; omega) (h.drop _)]
      exact List.take_append_drop _ _
/-- A tree's part in memory: its value; L: what it puts among the nodes, in order. -/
def PartAt (F : Nat → Prop) (w : World) : Value → Tr → List (List Int × Value) → Prop
  | v, .leaf x, L => ∃ b, v = .iface 146 (.pointer (some ⟨b, 0, none⟩)) ∧ F b ∧ Blk w b (rwC x ++ u8 (Tr.leaf x).sum) ∧ L = [((Tr.leaf x).sum, v)]
  | v, .fork n l r, L => ∃ b vl vr Ll Lr, v = .iface 151 (.pointer (some ⟨b, 0, none⟩)) ∧ F b ∧ Blk w b ([.int .i64 (n : Int), vl, vr] ++ u8 (Tr.fork n l r).sum) ∧ PartAt F w vl l Ll ∧ PartAt F w vr r Lr ∧ L = Ll ++ Lr ++ [((Tr.fork n l r).sum, v)]
theorem PartAt.tch {F : Nat → Prop} {w w' : World} {s : List Nat} (ht : Tch s w w') (hs : ∀ k ∈ s, ¬ F k) : ∀ {tr : Tr} {v : Value} {L : List (List Int × Value)}, PartAt F w v tr L → PartAt F w' v tr L
  | .leaf x, v, L, ⟨b, h1, h2, h3, h4⟩ => ⟨b, h1, h2, h3.tch ht fun hm => hs b hm h2, h4⟩
  | .fork n l r, v, L, ⟨b, vl, vr, Ll, Lr, h1, h2, h3, h4, h5, h6⟩ => ⟨b, vl, vr, Ll, Lr, h1, h2, h3.tch ht fun hm => hs b hm h2, PartAt.tch ht hs h4, PartAt.tch ht hs h5, h6⟩
theorem PartAt.mono {F G : Nat → Prop} {w : World} (hFG : ∀ k, F k → G k) : ∀ {tr : Tr} {v : Value} {L : List (List Int × Value)}, PartAt F w v tr L → PartAt G w v tr L
  | .leaf x, v, L, ⟨b, h1, h2, h3, h4⟩ => ⟨b, h1, hFG b h2, h3, h4⟩
  | .fork n l r, v, L, ⟨b, vl, vr, Ll, Lr, h1, h2, h3, h4, h5, h6⟩ => ⟨b, vl, vr, Ll, Lr, h1, hFG b h2, h3, PartAt.mono hFG h4, PartAt.mono hFG h5, h6⟩
theorem PartAt.shape {F : Nat → Prop} {w : World} {tr : Tr} {v : Value} {L : List (List Int × Value)} (h : PartAt F w v tr L) : ∃ b, (v = .iface 146 (.pointer (some ⟨b, 0, none⟩)) ∨ v = .iface 151 (.pointer (some ⟨b, 0, none⟩))) := by
  cases tr with
  | leaf x => obtain ⟨b, h, _⟩ := h; exact ⟨b, .inl h⟩
  | fork n l r => obtain ⟨b, _, _, _, _, h, _⟩ := h; exact ⟨b, .inr h⟩
/-! ### Methods -/
theorem mLeafDigest (v : Value) (w : World) : Sem.run Tryd.prog (method (Tryd.prog.types.size + Made.depth) 146 v "prelude/proof.digest") w = .ok (109, v) w := by kernel_rfl
theorem mForkDigest (v : Value) (w : World) : Sem.run Tryd.prog (method (Tryd.prog.types.size + Made.depth) 151 v "prelude/proof.digest") w = .ok (113, v) w := by kernel_rfl
theorem mLeafRows (v : Value) (w : World) : Sem.run Tryd.prog (method (Tryd.prog.types.size + Made.depth) 146 v "prelude/proof.rows") w = .ok (111, v) w := by kernel_rfl
theorem mForkRows (v : Value) (w : World) : Sem.run Tryd.prog (method (Tryd.prog.types.size + Made.depth) 151 v "prelude/proof.rows") w = .ok (115, v) w := by kernel_rfl
theorem leafDigest_c (w : World) (b : Nat) (x : Rw) (d : List Int) (hd : d.length = 32) (hb : Blk w b (rwC x ++ u8 d)) : Calls Tryd.prog 109 #[.pointer (some ⟨b, 0, none⟩)] w fun e w' => e = .returned (.agg (u8 d).toArray) ∧ Tch [] w w' := by
  refine c109 _ ?_
  unfold d109
  rintro w1 rfl
  have hO : Blk _ _ (u8 z32) := Blk.fresh w 24 zcDig
  have ht := (Tch.refl [] w).alloc (.cells (zc Tryd.prog 24).toArray 24)
  have s1 := size_alloc w (.cells (zc Tryd.prog 24).toArray 24)
  generalize w.alloc (.cells (zc Tryd.prog 24).toArray 24) = w1 at *
  refine get_part (hb.tch ht (by simp)) 3 32 (u8 d) (by show (u8 d).take 32 = _; exact List.take_of_length_le (by rw [List.length_map, hd]; exact Nat.le_refl _)) (by simpa using hd) ?_
  refine put_all (n := 32) hO rfl (by simpa using hd) ones_ints fun w4 k t _ => ?_
  exact get_all k (by simpa using hd) ⟨rfl, ht.trans t (by simp)⟩
theorem forkDigest_c (w : World) (b : Nat) (n : Int) (vl vr : Value) (d : List Int) (hd : d.length = 32) (hb : Blk w b ([.int .i64 n, vl, vr] ++ u8 d)) : Calls Tryd.prog 113 #[.pointer (some ⟨b, 0, none⟩)] w fun e w' => e = .returned (.agg (u8 d).toArray) ∧ Tch [] w w' := by
  refine c113 _ ?_
  unfold d113
  rintro w1 rfl
  have hO : Blk _ _ (u8 z32) := Blk.fresh w 24 zcDig
  have ht := (Tch.refl [] w).alloc (.cells (zc Tryd.prog 24).toArray 24)
  have s1 := size_alloc w (.cells (zc Tryd.prog 24).toArray 24)
  generalize w.alloc (.cells (zc Tryd.prog 24).toArray 24) = w1 at *
  refine get_part (hb.tch ht (by simp)) 3 32 (u8 d) (by show (u8 d).take 32 = _; exact List.take_of_length_le (by rw [List.length_map, hd]; exact Nat.le_refl _)) (by simpa using hd) ?_
  refine put_all (n := 32) hO rfl (by simpa using hd) ones_ints fun w4 k t _ => ?_
  exact get_all k (by simpa using hd) ⟨rfl, ht.trans t (by simp)⟩
/-- digest, through the interface. -/
theorem digest_k {F : Nat → Prop} {w : World} {v : Value} {tr : Tr} {L : List (List Int × Value)} (h : PartAt F w v tr L) {K : Array Value → World → Prop} (hK : ∀ w', Tch [] w w' → K (u8 tr.sum).toArray w') :
    ∃ t u g r, v = .iface t u ∧ Sem.run Tryd.prog (method (Tryd.prog.types.size + Made.depth) t u "prelude/proof.digest") w = .ok (g, r) w ∧ HasBody Tryd.prog g ∧ Calls Tryd.prog g (#[r] ++ #[]) w fun e w' => ∃ x : Array Value, e = .returned (.agg x) ∧ K x w' := by
  cases tr with
  | leaf x =>
    obtain ⟨b, rfl, _, hb, _⟩ := h
    refine ⟨_, _, _, _, rfl, mLeafDigest _ w, hasBody_spec (by kernel_rfl), ?_⟩
    refine (leafDigest_c w b x _ (Tr.sum_len _) hb).mono ?_
    rintro e w' ⟨rfl, ht⟩
    exact ⟨_, rfl, hK w' ht⟩
  | fork n l r =>
    obtain ⟨b, vl, vr, _, _, rfl, _, hb, _⟩ := h
    refine ⟨_, _, _, _, rfl, mForkDigest _ w, hasBody_spec (by kernel_rfl), ?_⟩
    refine (forkDigest_c w b n vl vr _ (Tr.sum_len _) hb).mono ?_
    rintro e w' ⟨rfl, ht⟩
    exact ⟨_, rfl, hK w' ht⟩
/-! ### Forms; IndexFunc -/
/-- The bytes of rows' keys, in memory. -/
def FormsAt (w : World) (a : Option Addr) (c : Nat) (l : List Rw) : Prop := ∃ vs : List Value, RSl w 1 a l.length c vs ∧ ∀ (i : Nat) (x : Rw), l[i]? = some x → ∃ b d, vs[i]? = some (.slice b 10 d) ∧ RSl w 1 b 10 d (u8 (kw x))
theorem FormsAt.quiet {w w' : World} {a : Option Addr} {c : Nat} {l : List Rw} (h : FormsAt w a c l) (ht : Tch [] w w') : FormsAt w' a c l := by
  obtain ⟨vs, h1, h2⟩ := h
  refine ⟨vs, h1.tch ht (fun _ _ h => by cases h), fun i x hx => ?_⟩
  obtain ⟨b, d, g1, g2⟩ := h2 i x hx
  exact ⟨b, d, g1, g2.tch ht (fun _ _ h => by cases h)⟩
theorem FormsAt.get {w : World} {y : Addr} {c : Nat} {l : List Rw} (h : FormsAt w (some y) c l) {i : Nat} {x : Rw} (hx : l[i]? = some x) : ∃ b d, World.cell? w (Addr.add y (i * 1)) = some (.slice b 10 d) ∧ RSl w 1 b 10 d (u8 (kw x)) := by
  obtain ⟨vs, h1, h2⟩ := h
  obtain ⟨b, d, g1, g2⟩ := h2 i x hx
  refine ⟨b, d, ?_, g2⟩
  have hil := (List.getElem?_eq_some_iff.1 hx).1
  obtain ⟨b', o', e, hc⟩ := h1.get (i := i) hil (by omega)
  cases e
  have hlen : vs.length = l.length := by have := h1.len; simpa using this
  have := hc 0 (.slice b 10 d) (by
    rw [List.getElem?_take, if_pos (by omega), List.getElem?_drop, Nat.mul_one, Nat.add_zero]
    exact g1)
  rw [add_mk] at this ⊢
  simpa using this
theorem FormsAt.none {w : World} {c : Nat} {l : List Rw} (h : FormsAt w none c l) : l.length = 0 := by
  obtain ⟨vs, h1, _⟩ := h
  rcases h1.at' with h' | ⟨b, o, hb, _⟩
  · have := h1.cap; omega
  · cases hb
theorem indexFunc_c (w : World) (l : List Rw) (a : Option Addr) (c : Nat) (hf : FormsAt w a c l) (n : Nat) (nb : Nat) (hb : Blk w nb [.int .i64 (n : Int)]) (hn : n < 80) (hlt : partAt l n < l.length) (hl : l.length ≤ 1000000000000) :
    Calls Tryd.prog 77 #[.slice a l.length c, .func (.func 78) #[] #[.pointer (some ⟨nb, 0, none⟩)]] w fun e w' => e = .returned (.int .i64 ((partAt l n : Nat) : Int)) ∧ w' = w := by
  refine c77 _ _ _ _ ?_
  unfold d77
  refine ⟨fun m x u => ∃ i : Nat, x = i ∧ i ≤ partAt l n ∧ m = l.length - i ∧ u = w, ⟨_, 0, rfl, by omega, rfl, rfl⟩, ?_⟩
  rintro m w4 x ⟨i, rfl, hi, rfl, rfl⟩
  rw [bif_pos (by omega)]
  refine ⟨by omega, by omega, ?_⟩
  rw [Int.toNat_natCast]
  have hix : l[i]? = some (l[i]'(by omega)) := List.getElem?_eq_getElem (by omega)
  cases a with
  | none => have := hf.none; omega
  | some y =>
    obtain ⟨b, d, g1, g2⟩ := hf.get hix
    refine ⟨b, 10, d, g1, hasBody_spec (by kernel_rfl), ?_⟩
    show Calls _ _ #[.slice b 10 d, .pointer (some ⟨nb, 0, none⟩)] w4 _
    refine c78 _ _ _ _ ?_
    unfold d78
    refine ⟨(n : Int), hb.cell 0, ?_⟩
    refine (bit_c w4 b d _ (n : Int) g2 ⟨by omega, by omega⟩).mono ?_
    rintro e w5 ⟨rfl, rfl⟩
    refine ⟨_, rfl, _, rfl, ?_⟩
    by_cases h1 : bitS (kw (l[i]'(by omega))) (n : Int) = 1
    · rw [bif_pos h1]
      refine ⟨?_, rfl⟩
      have : partAt l n ≤ i := by
        rcases Nat.lt_or_ge i (partAt l n) with h | h
        · have := List.not_of_lt_findIdx h
          simp [h1] at this
        · exact h
      rw [show i = partAt l n by omega]
    · rw [bif_neg h1]
      have hne : i ≠ partAt l n := by
        rintro rfl
        have := List.findIdx_getElem (p := fun x => decide (bitS (kw x) n = 1)) (w := hlt)
        exact h1 (of_decide_eq_true this)
      exact ⟨l.length - (i + 1), by omega, i + 1, by rw [wrap_i64 (by omega) (by omega)]; omega, by omega, rfl, rfl⟩
end Go.Proofs.YtjkbjppopdfggaaDoor.Tre
namespace Go.Proofs.YtjkbjppopdfggaaDoor.Den
open Go Go.RowKit
/-- A function's outermost sequence. -/
inductive T where
  | last (s : S)
  | seq (a : S) (t : T)
  | join (sl : List (Nat × Ty)) (ks : List Nat) (a : S) (t : T)
  | rf (g : Operand) (ps : List (Nat × Ty)) (sl : List (Nat × Ty)) (ks : List Nat) (sa sb : S) (t : T)
/-- The blocks for deferred calls are shut, the newest first. -/
def leaveK : List Nat → World → (World → Prop) → Prop
  | [], w, K => K w
  | D :: r, w, K => w.heap[D]? = some (.deferred (some [])) ∧ ∀ w', Tch [D] w w' → leaveK r w' K
/-- What is asked at the function's end. -/
def endM (rs : List Res) (R : Ending → World → Prop) (ms : List Nat) : Post
  | .normal, e, w => leaveK ms w fun w' => resK e w' rs fun vs => R (.returned (endV vs)) w'
  | .ret, e, w => leaveK ms w fun w' => resK e w' rs fun vs => R (.returned (endV vs)) w'
  | .panic ch, _, w => leaveK ms w fun w' => R (.panicked ch) w'
  | _, _, _ => False
/-- These blocks lie as they lay. -/
def KpL (L : List Nat) (W W' : World) : Prop := ∀ k ∈ L, W'.heap[k]? = W.heap[k]?
/-- What turns is no cells, and lies at or beyond B. -/
def NoCells (B : Nat) (s : List Nat) (W : World) : Prop := ∀ k ∈ s, B ≤ k ∧ ∃ o : Obj, W.heap[k]? = some o ∧ o.isCells = false
/-- This is no matter. -/
def Stable {α : Type} (B : Nat) (I : α → World → Prop) : Prop := ∀ (x : α) (W W' : World) (s : List Nat), I x W → Tch s W W' → NoCells B s W → I x W'
def StableF (B : Nat) : (ts : List Ty) → Fn ts → Prop
  | [], J => ∀ (W W' : World) (s : List Nat), J W → Tch s W W' → NoCells B s W → J W'
  | .int _ :: ts, J => ∀ n, StableF B ts (J n)
  | .bool :: ts, J => ∀ b, StableF B ts (J b)
  | .str :: ts, J => ∀ s, StableF B ts (J s)
  | .sl :: ts, J => ∀ a n c, StableF B ts (J a n c)
  | .ptr :: ts, J => ∀ a, StableF B ts (J a)
  | .mp :: ts, J => ∀ r, StableF B ts (J r)
  | .agg :: ts, J => ∀ cs, StableF B ts (J cs)
  | .any :: ts, J => ∀ v, StableF B ts (J v)
/-- A round's end, by what is asked where it goes on and where it returns. -/
def outQ (go ret : World → Prop) : Post
  | .normal, _, W' => go W'
  | .ret, _, W' => ret W'
  | _, _, _ => False
/-- What is asked of a loop over an iterator; 'A': of the assignment to its variables; 'B': of a round; 'next': of what follows; 'out': of a return out of a round. -/
def LoopK (P : Program) (gf : FuncId) (lb : Array Value) (ts us : List Ty) (w : World) (A : List Value → Fn us → (World → Prop) → World → Prop) (B : Fn us → (World → Prop) → (World → Prop) → World → Prop) (next out : Nat → World → Prop) : Prop :=
  ∃ (α : Type) (encs : α → List Value) (L : List Nat) (S Sp : List α → Prop) (N : Nat) (I X : List α → World → Prop) (J : α → Fn us),
    (∀ x, exTys ts fun vs => encs x = vs) ∧ (∀ k ∈ L, k < w.heap.size) ∧ SeqStopsK (Fr none) 2 P gf lb (fun x => (encs x).toArray) (KpL L) S Sp N w ∧
    Stable w.heap.size I ∧ Stable w.heap.size X ∧ (∀ x, StableF w.heap.size us (J x)) ∧ (∀ pre W, I pre W → w.heap.size ≤ W.heap.size) ∧ I [] w ∧
    (∀ x pre W, I pre W → A (encs x) (J x) (fun W' => Tch [] W W' ∧ I pre W') W) ∧
    (∀ x pre W, I pre W → pre.length < N → B (J x) (fun W' => (∃ s, Tch s W W' ∧ ∀ k ∈ s, k < w.heap.size ∧ k ∉ L) ∧ I (pre ++ [x]) W') (fun W' => (∃ s, Tch s W W' ∧ ∀ k ∈ s, k < w.heap.size) ∧ X (pre ++ [x]) W') W) ∧
    (∀ (D : Nat) (xs : List α) (W : World), w.heap.size ≤ D → S xs → I xs W → W.heap[D]? = some (.deferred (some [])) → next D W) ∧
    (∀ (D : Nat) (pre : List α) (W : World), w.heap.size ≤ D → Sp pre → X pre W → W.heap[D]? = some (.deferred (some [])) → out D W)
def denT (P : Program) (rs : List Res) (R : Ending → World → Prop) : T → List Nat → Env → World → Prop
  | .last s, ms, e, w => denS P s e w (endM rs R ms)
  | .seq a t, ms, e, w => denS P a e w (thenE (fun e' w' => denT P rs R t ms e' w') (endM rs R ms))
  | .join sl ks a t, ms, e, w => ∃ J : Fn (tys sl), denS P a e w (thenE (fun e' w' => valsK e' sl fun vs => app (tys sl) J vs w') (endM rs R ms)) ∧
      ∀ w', allSl sl fun es vs => app (tys sl) J vs w' → keepK e ks fun ek => denT P rs R t ms (es ++ ek) w'
  | .rf g ps sl ks sa sb t, ms, e, w => rdK e g fun v => fnK v fun gf first lb => first = #[] ∧ HasBody P gf ∧
      LoopK P gf lb (tys ps) (tys sl) w (fun vs J K W => allSl ps fun es us => vs = us →
          denS P sa (es ++ e) W (thenE (fun e' W' => K W' ∧ valsK e' sl fun vs => app (tys sl) J vs W') fun _ _ _ => False))
        (fun J go ret W => allSl sl fun es vs => app (tys sl) J vs W → keepK e ks fun ek => denS P sb (es ++ ek) W (outQ go ret))
        (fun D W => denT P rs R t (D :: ms) e W) (fun D W => endM rs R (D :: ms) .ret e W)
/-- A sequence's parts. -/
def flat : Code → List Code
  | .seq a b => flat a ++ flat b
  | c => [c]
def rfOf : Code → Option (Operand × Array Tmp × Code × Code)
  | .rangeFunc g ps asn bd => some (g, ps, asn, bd)
  | .block _ (.rangeFunc g ps asn bd) => some (g, ps, asn, bd)
  | _ => none
def trT (P : Program) (pn : List Nat) (n : Nat) : T → List Code → Option T
  | .last s, cs =>
    match cs with
    | [c] =>
      match trS P pn n c s with
      | some x => some (.last x)
      | none => none
    | _ => none
  | .seq s t, cs =>
    match cs with
    | a :: b =>
      match trS P pn n a s, trT P pn n t b with
      | some x, some y => some (.seq x y)
      | _, _ => none
    | [] => none
  | .join sl ks s t, cs =>
    match cs with
    | a :: b =>
      match trS P pn n a s, trT P pn n t b, ks.all fun k => !(asg a).contains k with
      | some x, some y, true => some (.join sl ks x y)
      | _, _, _ => none
    | [] => none
  | .rf _ pt sl ks sa sb t, cs =>
    match cs with
    | a :: b =>
      match rfOf a with
      | some (g, ps, asn, bd) =>
        match trS P pn n asn sa, trS P pn n bd sb, trT P pn n t b, decide (pt.map (·.1) = ps.toList ∧ ps.toList.Nodup) && (ps.toList.all fun k => decide (k < n)) && (ks.all fun k => !(asg asn).contains k && !ps.toList.contains k) with
        | some x, some y, some z, true => some (.rf g pt sl ks x y z)
        | _, _, _, _ => none
      | none => none
    | [] => none

/-! ### It is right -/
def mark (D : Nat) : Deferred := { target := .collected D, args := #[] }
theorem grown_tch {W W' : World} {row : Option Nat} (h : W.grownBy W' row) : Tch row.toList W W' :=
  ⟨h.os, h.tape, h.output, h.size, fun k hk hn => h.block k hk (fun e => hn (by simp [← e]))⟩
theorem noCells_row {B : Nat} {W : World} {row : Option Nat} (hr : ∀ r, row = some r → B ≤ r ∧ ∃ o : Obj, W.heap[r]? = some o ∧ o.isCells = false) : NoCells B row.toList W := fun k hk => by
  cases row with
  | none => simp at hk
  | some r => simp at hk; subst hk; exact hr k rfl
theorem Stable.own {α : Type} {B : Nat} {I : α → World → Prop} (h : Stable B I) : OwnFrom B I := fun x W W' row hs hg hr => h x W W' _ hs (grown_tch hg) (noCells_row hr)
theorem StableF.app {B : Nat} : ∀ {ts : List Ty} {J : Fn ts} {vs : List Value} {W W' : World} {s : List Nat}, StableF B ts J → Den.app ts J vs W → Tch s W W' → NoCells B s W → Den.app ts J vs W'
  | [], _, [], _, _, _, h, ha, ht, hn => h _ _ _ ha ht hn
  | [], _, _ :: _, _, _, _, _, ha, _, _ => ha.elim
  | t :: ts, J, [], _, _, _, _, ha, _, _ => by cases t <;> exact (show False from ha).elim
  | t :: ts, J, v :: vs, W, W', s, h, ha, ht, hn => by
    cases t
    case any => exact StableF.app (ts := ts) (J := J v) (h v) ha ht hn
    all_goals cases v <;> first | exact (show False from ha).elim | skip
    case int.int k k' n =>
      have ha' : (bif same k' k then Den.app ts (J n) vs W else False) := ha
      show bif same k' k then Den.app ts (J n) vs W' else False
      cases hs : same k' k
      · rw [hs] at ha'; exact ha'.elim
      · rw [hs] at ha'; exact StableF.app (ts := ts) (J := J n) (h n) ha' ht hn
    case sl.slice a n c => exact StableF.app (ts := ts) (J := J a n c) (h a n c) ha ht hn
    all_goals exact StableF.app (ts := ts) (h _) ha ht hn
theorem valsK_mono {e : Env} : ∀ {sl : List (Nat × Ty)} {K K' : List Value → Prop}, valsK e sl K → (∀ vs, K vs → K' vs) → valsK e sl K'
  | [], _, _, h, hk => hk _ h
  | (k, _) :: r, _, _, h, hk => by
    unfold valsK at h ⊢
    split at h
    · exact valsK_mono h fun vs hv => hk _ hv
    · exact h.elim
/-- Codes, one behind the other. -/
def wpL (F : Fence) (n : Nat) (P : Program) (Q : Exit → Act → World → Prop) : List Code → Act → World → Prop
  | [], a, w => Q .normal a w
  | c :: cs, a, w => c.wpIn F n P (Exit.then (wpL F n P Q cs) Q) a w
theorem wpL_flat {F : Fence} {n : Nat} {P : Program} {Q : Exit → Act → World → Prop} : ∀ {c : Code} {cs : List Code} {a : Act} {w : World}, wpL F n P Q (flat c ++ cs) a w → c.wpIn F n P (Exit.then (wpL F n P Q cs) Q) a w := by
  intro c
  induction c with
  | seq c1 c2 ih1 ih2 =>
    intro cs a w h
    have h' : wpL F n P Q (flat c1 ++ (flat c2 ++ cs)) a w := by
      have e : flat (.seq c1 c2) ++ cs = flat c1 ++ (flat c2 ++ cs) := by simp [flat]
      rw [← e]; exact h
    refine wpIn_seq (wpIn_mono (ih1 h') fun ex a' w' hA => ?_)
    cases ex
    case normal => exact ih2 hA
    all_goals exact hA
  | _ => intro cs a w h; exact h
theorem KeepsFrom.of_tch {B : Nat} {s : List Nat} {W W' : World} (h : Tch s W W') (hs : ∀ k ∈ s, k < B) : KeepsFrom B W W' :=
  ⟨h.size, fun k o hB hk _ => by
    obtain ⟨hlt, _⟩ := Array.getElem?_eq_some_iff.1 hk
    rw [h.block k hlt fun hm => by have := hs k hm; omega]
    exact hk⟩
theorem leaves_of {P : Program} {n : Nat} {fn : Func} {tmps : Array Value} {R : Ending → World → Prop} {u : FrameMode} (hu : u ≠ .run) : ∀ {ms : List Nat} {w : World}, leaveK ms w (fun w' => LeavesIn (Fr none) n P fn tmps R [] u w') → LeavesInM (Fr none) n P fn tmps R (ms.map mark) u w
  | [], _, h => h
  | D :: ms, w, h => ⟨hu, .inl ⟨D, _, rfl, run_takeDeferred h.1, leaves_of hu (h.2 _ (grown_tch (grownBy_putObj' w D (.deferred none))))⟩⟩
theorem leaveK_mono : ∀ {ms : List Nat} {w : World} {K K' : World → Prop}, leaveK ms w K → (∀ w, K w → K' w) → leaveK ms w K'
  | [], _, _, _, h, hk => hk _ h
  | _ :: _, _, _, _, h, hk => ⟨h.1, fun w' ht => leaveK_mono (h.2 w' ht) hk⟩
theorem exTys_length : ∀ {ts : List Ty} {vs : List Value}, exTys ts (fun us => vs = us) → vs.length = ts.length
  | [], _, h => by rw [show _ = [] from h]; rfl
  | t :: ts, vs, h => by
    obtain ⟨v, h1, _⟩ := exTy_char h
    obtain ⟨us, h2⟩ := exTys_spec h1
    cases vs with
    | nil => cases h2
    | cons a r =>
      cases h2
      rw [List.length_cons, List.length_cons, exTys_length (ts := ts) (vs := us) (exTys_mono h1 fun _ e => by injection e)]
theorem exTys_allSl : ∀ {sl : List (Nat × Ty)} {vs : List Value} {F : Env → List Value → Prop}, exTys (tys sl) (fun us => vs = us) → allSl sl F → ∃ es : Env, es.map (·.1) = sl.map (·.1) ∧ es.map (·.2) = vs ∧ F es vs
  | [], vs, F, h, ha => ⟨[], rfl, by rw [show vs = [] from h]; rfl, by rw [show vs = [] from h]; exact ha⟩
  | (k, t) :: r, vs, F, h, ha => by
    have fin : ∀ v, (exTys (tys r) fun us => vs = v :: us) → allSl r (fun e us => F ((k, v) :: e) (v :: us)) → ∃ es : Env, es.map (·.1) = ((k, t) :: r).map (·.1) ∧ es.map (·.2) = vs ∧ F es vs := fun v h1 h2 => by
      obtain ⟨us, rfl⟩ := exTys_spec h1
      obtain ⟨es, g1, g2, g3⟩ := exTys_allSl (exTys_mono h1 fun _ e => by injection e) h2
      exact ⟨(k, v) :: es, by simp [g1], by simp [g2], g3⟩
    have h' : exTy t fun v => exTys (tys r) fun us => vs = v :: us := h
    have ha' : allTy t fun v => allSl r fun e us => F ((k, v) :: e) (v :: us) := ha
    cases t <;> simp only [exTy, allTy] at h' ha'
    case sl => obtain ⟨a, n, c, h'⟩ := h'; exact fin _ h' (ha' a n c)
    all_goals (obtain ⟨x, h'⟩ := h'; exact fin _ h' (ha' x))
theorem set_all : ∀ (es : Env) (tmps : Array Value), (es.map (·.1)).Nodup → (∀ p ∈ es, p.1 < tmps.size) → (es.foldl (fun t p => t.setIfInBounds p.1 p.2) tmps).size = tmps.size ∧ ∀ t : Nat, (es.foldl (fun t p => t.setIfInBounds p.1 p.2) tmps)[t]? = (find es t).or tmps[t]?
  | [], _, _, _ => ⟨rfl, fun _ => rfl⟩
  | (k, v) :: es, tmps, hn, hb => by
    have hn' := List.nodup_cons.1 hn
    obtain ⟨h1, h2⟩ := set_all es (tmps.setIfInBounds k v) hn'.2 (fun p hp => by rw [Array.size_setIfInBounds]; exact hb p (List.mem_cons_of_mem _ hp))
    refine ⟨by rw [List.foldl_cons, h1, Array.size_setIfInBounds], fun t => ?_⟩
    rw [List.foldl_cons, h2, find_cons]
    by_cases e : k = t
    · subst e
      have hf : find es k = none := by
        cases hf : find es k with
        | none => rfl
        | some u =>
          have : ∀ {es : Env}, find es k = some u → k ∈ es.map (·.1) := by
            intro es
            induction es with
            | nil => intro h; cases h
            | cons q es ih =>
              intro h
              obtain ⟨q1, q2⟩ := q
              rw [find_cons] at h
              by_cases e : q1 = k
              · simp [e]
              · rw [if_neg e] at h; exact List.mem_cons_of_mem _ (ih h)
          exact absurd (this hf) hn'.1
      rw [if_pos rfl, hf]
      have := hb (k, v) (by simp)
      simp [Array.getElem?_setIfInBounds, this]
    · rw [if_neg e, Array.getElem?_setIfInBounds_ne e]
section
variable {P : Program} {pn : List Nat} {rs : List Res} {R : Ending → World → Prop} {fn : Func}
theorem end_of_aft (hr : trRess P fn.results.toList = some rs) {n : Nat} {ms : List Nat} {l : List Nat} {a0 a' : Act} {w' : World} {ex : Exit} (h : Aft n (ms.map mark) l a0 (endM rs R ms) ex a' w') : bodyPostM (Fr none) 3 P fn R ex a' w' := by
  cases ex
  case normal =>
    obtain ⟨_, _, e', ok', hq⟩ := h
    show LeavesInM _ _ _ _ _ _ a'.defers _ _
    rw [ok'.defers]
    exact leaves_of (by simp) (leaveK_mono hq fun w2 h2 => run_results (K := fun v => R (.returned v) w2) hr ok' h2)
  case ret =>
    obtain ⟨_, _, e', ok', hq⟩ := h
    show LeavesInM _ _ _ _ _ _ a'.defers _ _
    rw [ok'.defers]
    exact leaves_of (by simp) (leaveK_mono hq fun w2 h2 => run_results (K := fun v => R (.returned v) w2) hr ok' h2)
  case panic ch =>
    obtain ⟨hd, _, hq⟩ := h
    show LeavesInM _ _ _ _ _ _ a'.defers _ _
    rw [hd]
    exact leaves_of (by simp) hq
  all_goals
    obtain ⟨_, _, e', ok', hq⟩ := h
    exact hq.elim
theorem then_of_aft (hr : trRess P fn.results.toList = some rs) {n : Nat} {ms : List Nat} {l : List Nat} {a0 : Act} {next : Env → World → Prop} {Q : Act → World → Prop} (hn : ∀ e' a' w', Ok n (ms.map mark) a' e' → (∀ t, t ∉ l → a'.tmps[t]? = a0.tmps[t]?) → next e' w' → Q a' w') {ex : Exit} {a' : Act} {w' : World}
    (h : Aft n (ms.map mark) l a0 (thenE next (endM rs R ms)) ex a' w') : Exit.then Q (bodyPostM (Fr none) 3 P fn R) ex a' w' := by
  cases ex
  case normal =>
    obtain ⟨_, hs, e', ok', hq⟩ := h
    exact hn e' a' w' ok' hs hq
  case exit id => exact end_of_aft hr (show Aft n (ms.map mark) l a0 (endM rs R ms) (.exit id) a' w' from h)
  case goto t => exact end_of_aft hr (show Aft n (ms.map mark) l a0 (endM rs R ms) (.goto t) a' w' from h)
  case ret => exact end_of_aft hr (show Aft n (ms.map mark) l a0 (endM rs R ms) .ret a' w' from h)
  case panic ch => exact end_of_aft hr (show Aft n (ms.map mark) l a0 (endM rs R ms) (.panic ch) a' w' from h)
  case outgrown => exact end_of_aft hr (show Aft n (ms.map mark) l a0 (endM rs R ms) .outgrown a' w' from h)
theorem denT_sound (hr : trRess P fn.results.toList = some rs) : ∀ {h t : T} {c : List Code} {ms : List Nat} {e : Env} {a : Act} {w : World}, trT P pn fn.ntmps h c = some t → Ok fn.ntmps (ms.map mark) a e → denT P rs R t ms e w → wpL (Fr none) 3 P (bodyPostM (Fr none) 3 P fn R) c a w := by
  intro h
  induction h with
  | last s =>
    intro t c ms e a w ht ha hd
    cases c with
    | nil => simp [trT] at ht
    | cons c1 c2 =>
    cases c2 with
    | cons _ _ => simp [trT] at ht
    | nil =>
    simp only [trT] at ht
    split at ht
    · rename_i x hx
      cases ht
      refine wpIn_mono (denS_sound hx ha hd) fun ex a' w' hA => ?_
      have := end_of_aft hr hA
      cases ex <;> exact this
    · cases ht
  | seq s h ih =>
    intro t c ms e a w ht ha hd
    cases c with
    | nil => simp [trT] at ht
    | cons c1 c2 =>
    simp only [trT] at ht
    split at ht
    · rename_i x y h1 h2
      cases ht
      exact wpIn_mono (denS_sound h1 ha hd) fun ex a' w' hA => then_of_aft (Q := wpL (Fr none) 3 P (bodyPostM (Fr none) 3 P fn R) c2) hr (fun e' a' w' ok' _ hq => ih h2 ok' hq) hA
    · cases ht
  | join sl ks s h ih =>
    intro t c ms e a w ht ha hd
    cases c with
    | nil => simp [trT] at ht
    | cons c1 c2 =>
    simp only [trT] at ht
    split at ht
    · rename_i x y h1 h2 hks
      cases ht
      obtain ⟨J, hd1, hd2⟩ := hd
      refine wpIn_mono (denS_sound h1 ha hd1) fun ex a' w' hA => then_of_aft (Q := wpL (Fr none) 3 P (bodyPostM (Fr none) 3 P fn R) c2) hr (fun e' a' w' ok' hs hq => ?_) hA
      obtain ⟨vs, ⟨hlen, hvs⟩, happ⟩ := valsK_spec hq
      obtain ⟨es, he1, he2, hF⟩ := allSl_spec J vs w' (hd2 w') happ
      obtain ⟨ek, hk, hden⟩ := keepK_spec (hF happ)
      refine ih h2 (e := es ++ ek) ⟨ok'.size, ok'.defers, fun t v hf => ?_⟩ hden
      rw [find_append] at hf
      cases hes : find es t with
      | some u =>
        rw [hes] at hf; cases hf
        exact ok'.at' t _ (find_zip he1 he2 hvs t _ hes)
      | none =>
        rw [hes] at hf
        exact keep_ok ha hk hks hs t v hf
    · cases ht
  | rf g0 pt sl ks sa sb h ih =>
    intro t c ms e a w ht ha hd
    cases c with
    | nil => simp [trT] at ht
    | cons c1 c2 =>
    simp only [trT] at ht
    split at ht
    · rename_i g ps asn bd hrf
      split at ht
      · rename_i x y z h1 h2 h3 hc
        cases ht
        simp only [Bool.and_eq_true, decide_eq_true_eq, List.all_eq_true] at hc
        obtain ⟨⟨⟨hpt, hnd⟩, hlt⟩, hks⟩ := hc
        obtain ⟨v, hv, hd⟩ := rdK_spec hd
        cases v <;> first | exact (show False from hd).elim | skip
        rename_i f first lb
        cases f <;> first | exact (show False from hd).elim | skip
        rename_i gf
        obtain ⟨rfl, hb, α, encs, L, S, Sp, N, I, X, J, k1, k2, k3, k4, k5, kJ, kS, k6, kA, kB, k8, k9⟩ := hd
        have hloop : (Code.rangeFunc g ps asn bd).wpIn (Fr none) 3 P (Exit.then (wpL (Fr none) 3 P (bodyPostM (Fr none) 3 P fn R) c2) (fun ex a w => ex = .ret ∧ bodyPostM (Fr none) 3 P fn R ex a w)) a w := by
          refine wpIn_rangeFunc_ownH (F := Fr none) (n := 3) rfl (by omega) (gf := gf) (lb := lb) (ha.eval _ _ hv) trivial (fun args w => run_callFunc hb) k3 (fun h k i hi => (k i hi).trans (h i hi))
            (fun W l o o' hl _ _ _ i hi => World.putObj_heap_other (by have := k2 i hi; omega)) (Below.refl _ _) (fun x => by
              have := exTys_length (k1 x)
              rw [List.size_toArray, this, tys, List.length_map]
              have := congrArg List.length hpt
              simpa using this)
            I (fun c pre W => c = .ret ∧ X pre W) k4.own (fun c pre W W' row hs hg hr => ⟨hs.1, k5.own pre W W' row hs.2 hg hr⟩) k6
            (fun x a' W => (∀ t v, t ∈ ks → find e t = some v → a'.tmps[t]? = some v) ∧ ∃ e', Ok fn.ntmps [] a' e' ∧ valsK e' sl fun vs => app (tys sl) (J x) vs W)
            (fun x a' _ W W' row hs hg hr => by
              obtain ⟨q1, e', q2, q3⟩ := hs
              obtain ⟨vs, _, _⟩ := valsK_spec q3
              exact ⟨q1, e', q2, valsK_mono q3 fun vs hvs => (kJ x).app hvs (grown_tch hg) (noCells_row hr)⟩) ?_ ?_ ?_ ?_
          · intro l pre x W K hI hK
            obtain ⟨es, he1, he2, hF⟩ := exTys_allSl (k1 x) (kA x pre W hI)
            have hden := hF rfl
            have hes : (ps.zip (encs x).toArray).foldl (fun t (p, v) => t.setIfInBounds p v) a.tmps = es.foldl (fun t p => t.setIfInBounds p.1 p.2) a.tmps := by
              rw [← Array.foldl_toList, Array.toList_zip, ← hpt, ← he1, ← he2]
              congr 1
              exact (List.zip_of_prod rfl rfl).symm
            have hset := set_all es a.tmps (by rw [he1, hpt]; exact hnd) (fun p hp => by
              have : p.1 ∈ ps.toList := by rw [← hpt, ← he1]; exact List.mem_map.2 ⟨p, hp, rfl⟩
              rw [ha.size]
              exact hlt _ this)
            rw [hes]
            generalize es.foldl (fun t p => t.setIfInBounds p.1 p.2) a.tmps = T at *
            have hok : Ok fn.ntmps [] { tmps := T, defers := [] } (es ++ e) := ⟨by rw [← ha.size]; exact hset.1, rfl, fun t v hf => ?_⟩
            refine wpIn_mono (F := Fr (some l)) (denS_sound (r0 := some l) (m := 3 - 1 - 1) (d0 := []) h1 hok hden) fun ex a' w' hA => ?_
            rotate_left
            · show T[t]? = some v
              rw [hset.2]
              rw [find_append] at hf
              cases hfe : find es t with
              | some u => rw [hfe] at hf; exact hf
              | none =>
                rw [hfe] at hf
                exact ha.at' t v hf
            · cases ex
              case normal =>
                obtain ⟨_, hs, e', ok', ⟨htt, hI'⟩, hq⟩ := hA
                refine hK a' w' (KeepsFrom.of_tch htt (by simp)) (fun k hk => htt.block k (by have := k2 k hk; have := kS _ _ hI; omega) (by simp)) hI' ⟨fun t v ht hf => ?_, e', ok', hq⟩
                have hkt := hks t ht
                simp only [Bool.and_eq_true, Bool.not_eq_true', List.contains_eq_mem, decide_eq_false_iff_not] at hkt
                rw [hs t hkt.1]
                show T[t]? = some v
                rw [hset.2]
                have hfn : find es t = none := by
                  cases hfe : find es t with
                  | none => rfl
                  | some u =>
                    have hmem : ∀ {es : Env}, find es t = some u → t ∈ es.map (·.1) := by
                      intro es
                      induction es with
                      | nil => intro h; cases h
                      | cons q es ih =>
                        intro h
                        obtain ⟨q1, q2⟩ := q
                        rw [find_cons] at h
                        by_cases e : q1 = t
                        · simp [e]
                        · rw [if_neg e] at h; exact List.mem_cons_of_mem _ (ih h)
                    have := hmem hfe
                    rw [he1, hpt] at this
                    exact absurd this hkt.2
                rw [hfn]
                exact ha.at' t v hf
              case panic ch => exact hA.2.2.elim
              all_goals
                obtain ⟨_, _, e', ok', hq⟩ := hA
                exact hq.elim
          · rintro l pre x a' W hl ⟨r, hr'⟩ hI ⟨q1, e', ok', hq⟩ hlen
            have hlt' : l < W.heap.size := (Array.getElem?_eq_some_iff.1 hr').1
            obtain ⟨vs, ⟨hlen', hvs⟩, happ⟩ := valsK_spec hq
            obtain ⟨es, he1, he2, hF⟩ := allSl_spec (J x) vs W (kB x pre W hI hlen) happ
            obtain ⟨ek, hk, hden⟩ := keepK_spec (hF happ)
            have ok2 : Ok fn.ntmps [] a' (es ++ ek) := ⟨ok'.size, ok'.defers, fun t v hf => by
              rw [find_append] at hf
              cases hes : find es t with
              | some u =>
                rw [hes] at hf; cases hf
                exact ok'.at' t _ (find_zip he1 he2 hvs t _ hes)
              | none =>
                rw [hes] at hf
                obtain ⟨g1, g2⟩ := hk t v hf
                exact q1 t v g1 g2⟩
            refine wpIn_mono (F := Fr (some l)) (denS_sound (r0 := some l) (m := 3 - 1 - 1) (d0 := []) h2 ok2 hden) fun ex a2 w2 hA => ?_
            cases ex
            case normal =>
              obtain ⟨_, _, _, _, ⟨s, ht, hs⟩, hi⟩ := hA
              exact ⟨KeepsFrom.of_tch ht fun k hk => (hs k hk).1, fun k hk => ht.block k (by have := k2 k hk; omega) fun hm => (hs k hm).2 hk, hi⟩
            case ret =>
              obtain ⟨_, _, _, _, ⟨s, ht, hs⟩, hi⟩ := hA
              exact ⟨KeepsFrom.of_tch ht hs, rfl, hi⟩
            case panic ch => exact hA.2.2.elim
            all_goals
              obtain ⟨_, _, e', ok', hq⟩ := hA
              exact hq.elim
          · intro D xs W hD hS hI hh
            exact ih h3 (ms := D :: ms) (a := { a with defers := mark D :: a.defers }) ⟨ha.size, by show mark D :: a.defers = _; rw [ha.defers]; rfl, ha.at'⟩ (k8 D xs W hD hS hI hh)
          · rintro D c pre W hD hSp ⟨rfl, hX⟩ hh
            refine wpIn_ret ?_
            have hq := k9 D pre W hD hSp hX hh
            have hA : Aft fn.ntmps ((D :: ms).map mark) [] a (endM rs R (D :: ms)) .ret { a with defers := mark D :: a.defers } W := ⟨trivial, fun _ _ => rfl, e, ⟨ha.size, by show mark D :: a.defers = _; rw [ha.defers]; rfl, ha.at'⟩, hq⟩
            exact ⟨rfl, end_of_aft hr hA⟩
        have hlast : ∀ ex a' w', Exit.then (wpL (Fr none) 3 P (bodyPostM (Fr none) 3 P fn R) c2) (fun ex a w => ex = .ret ∧ bodyPostM (Fr none) 3 P fn R ex a w) ex a' w' → (ex = .normal ∨ ex = .ret) ∧ Exit.then (wpL (Fr none) 3 P (bodyPostM (Fr none) 3 P fn R) c2) (bodyPostM (Fr none) 3 P fn R) ex a' w' := by
          intro ex a' w' hQ
          cases ex
          case normal => exact ⟨.inl rfl, hQ⟩
          case ret => exact ⟨.inr rfl, hQ.2⟩
          all_goals exact (Exit.noConfusion hQ.1)
        show c1.wpIn _ _ _ _ _ _
        unfold rfOf at hrf
        split at hrf
        · cases hrf
          exact wpIn_mono hloop fun ex a' w' hQ => (hlast ex a' w' hQ).2
        · cases hrf
          refine wpIn_block (wpIn_mono hloop fun ex a' w' hQ => ?_)
          obtain ⟨h', h''⟩ := hlast ex a' w' hQ
          rcases h' with rfl | rfl
          · exact h''
          · exact h''
        · cases hrf
      · cases ht
    · cases ht
end
/-- A CALL of a function with a range over a function, out of its code's denotation. -/
theorem calls_of_denT {P : Program} {pn : List Nat} {f : FuncId} {fn : Func} {c : Code} {h t : T} {rs : List Res} {args : List Value} {w : World} {R : Ending → World → Prop} (hf : P.funcs[f]? = some fn) (hb : fn.body = some c) (hn : args.length ≤ fn.ntmps)
    (ht : trT P pn fn.ntmps h (flat c) = some t) (hr : trRess P fn.results.toList = some rs) (hd : denT P rs R t [] (argsEnv 0 args) w) : Calls P f args.toArray w R := by
  refine callsFr.1 (callsIn_of_wp_marks (F := Fr none) (n := 3) hf hb trivial ?_ rfl)
  have ha : Ok fn.ntmps ([].map mark) { tmps := args.toArray ++ Array.replicate (fn.ntmps - args.toArray.size) undef, defers := [] } (argsEnv 0 args) := by
    refine ⟨by simp; omega, rfl, fun t v hf => ?_⟩
    obtain ⟨_, h2⟩ := find_args hf
    have hlt : t < args.length := (List.getElem?_eq_some_iff.1 h2).1
    simp only [Nat.sub_zero] at h2
    obtain ⟨_, h3⟩ := List.getElem?_eq_some_iff.1 h2
    simp [Array.getElem?_append, hlt, h3]
  refine wpIn_mono (wpL_flat (cs := []) (by rw [List.append_nil]; exact denT_sound hr ht ha hd)) fun ex a' w' hQ => ?_
  cases ex <;> exact hQ
end Go.Proofs.YtjkbjppopdfggaaDoor.Den
set_option maxRecDepth 100000
namespace Go.Proofs.YtjkbjppopdfggaaDoor.Fn
open Go Den
/-- slices.Backward[[]prelude/api.Fork,prelude/api.Fork]$1 -/
def s88 : S := (.seq (.ops [⟨(some 4), (.ld1 (.tmp 1)), .sl, none⟩,
  ⟨(some 5), (.len (.tmp 4)), (.int .i64), none⟩,
  ⟨(some 6), (.bin .sub (.tmp 5) (.const (.int .i64 1))), (.int .i64), none⟩,
  ⟨(some 3), (.mv (.tmp 6)), (.int .i64), none⟩] [3, 0, 1])
 (.block 0
 (.loop [(3, (.int .i64))] [0, 1]
 (.seq (.seq (.ops [⟨(some 7), (.mv (.tmp 3)), (.int .i64), none⟩,
  ⟨(some 8), (.bin .geq (.tmp 7) (.const (.int .i64 0))), .bool, none⟩] [8, 0, 3, 1])
 (.cond (.tmp 8)
 .skip
 (.exit 0)))
 (.seq (.block 1
 (.seq (.ops [⟨(some 11), (.mv (.tmp 0)), .any, none⟩,
  ⟨(some 12), (.mv (.tmp 3)), (.int .i64), none⟩,
  ⟨(some 13), (.ld1 (.tmp 1)), .sl, none⟩,
  ⟨(some 14), (.mv (.tmp 3)), (.int .i64), none⟩,
  ⟨(some 15), (.ia 33 (.tmp 13) (.tmp 14)), .ptr, none⟩,
  ⟨(some 16), (.ldN 33 (.tmp 15)), .agg, none⟩,
  ⟨(some 17), (.callv (.tmp 11) [(.tmp 12), (.tmp 16)] [.bool]), .bool, none⟩,
  ⟨(some 18), (.un .not (.tmp 17)), .bool, none⟩] [18, 3, 0, 1])
 (.cond (.tmp 18)
 .ret
 .skip)))
 (.ops [⟨(some 9), (.mv (.tmp 3)), (.int .i64), none⟩,
  ⟨(some 10), (.bin .sub (.tmp 9) (.const (.int .i64 1))), (.int .i64), none⟩,
  ⟨(some 3), (.mv (.tmp 10)), (.int .i64), none⟩] [3, 0, 1]))))))
def r88 : List Res := []
theorem tr88 : trS Tryd.prog [] 19 (Tryd.f88.body.getD .skip) s88 = some s88 := by kernel_rfl
theorem den88 (args : List Value) (w : World) (R : Ending → World → Prop) (hn : args.length ≤ 19) (h : denS Tryd.prog s88 (argsEnv 0 args) w (endK r88 R)) : Calls Tryd.prog 88 args.toArray w R :=
  calls_of_den (pn := []) (fn := Tryd.f88) (c := Tryd.f88.body.getD .skip) Tryd.func88 (by kernel_rfl) (by rw [Tryd.ntmps88]; exact hn) (by rw [Tryd.ntmps88]; exact tr88) (by kernel_rfl) h
def d88 (yield0 : Value) (x1 : Option Addr) (w : World) (R : Ending → World → Prop) : Prop :=
 optK x1 fun a2 =>
 ∃ (x3 : Option Addr) (x3n : Nat) (x3c : Nat), World.cell? w a2 = some (.slice x3 x3n x3c) ∧
 ∃ I4 : Nat → Int → World → Prop,
 (∃ m, I4 m (IntKind.wrap .i64 (((x3n : Nat) : Int) - 1)) w) ∧
 (∀ (m5 : Nat) (w6 : World) (i7 : Int), I4 m5 i7 w6 →
 (bif (decide (0 ≤ i7)) then
 (optK x1 fun a8 =>
 ∃ (x9 : Option Addr) (x9n : Nat) (x9c : Nat), World.cell? w6 a8 = some (.slice x9 x9n x9c) ∧
 0 ≤ i7 ∧ i7 < ((x9n : Nat) : Int) ∧ optK x9 fun a10 =>
 ∃ cs11 : List Value, List.length cs11 = 33 ∧ Cells w6 (Addr.add a10 (Int.toNat i7 * 33)) cs11 ∧
 fvK Tryd.prog yield0 #[(.int .i64 i7), (.agg (List.toArray cs11))] w6 fun e12 w13 => ∃ x14 : Bool, e12 = .returned (.bool x14) ∧
 (bif (!x14) then
 (R (.returned (.tuple #[])) w13)
 else
 (∃ m15, m15 < m5 ∧ I4 m15 (IntKind.wrap .i64 (i7 - 1)) w13)))
 else
 (R (.returned (.tuple #[])) w6)))
theorem e88 (yield0 : Value) (x1 : Option Addr) (w : World) (R : Ending → World → Prop) : denS Tryd.prog s88 (argsEnv 0 [yield0, (.pointer x1)]) w (endK r88 R) = d88 yield0 x1 w R := by kernel_rfl
theorem c88 (yield0 : Value) (x1 : Option Addr) {w : World} {R : Ending → World → Prop} (h : d88 yield0 x1 w R) : Calls Tryd.prog 88 #[yield0, (.pointer x1)] w R :=
  den88 [yield0, (.pointer x1)] w R (by simp) ((e88 yield0 x1 w R).symm ▸ h)

end Go.Proofs.YtjkbjppopdfggaaDoor.Fn
namespace Go.Proofs.YtjkbjppopdfggaaDoor.Sha
open Go Den Fn
open Go.RowKit (Below)
set_option maxRecDepth 8000
set_option maxHeartbeats 1000000
/-- What a round is handed: the place, a fork of the right form. -/
abbrev Fo := { x : Nat × Fk // x.2.ok ∧ Rk x.2.bit }
def encF (x : Fo) : List Value := [.int .i64 (x.1.1 : Int), .agg (fkC x.1.2).toArray]
def ups (fs : List Fk) (h : ∀ f ∈ fs, f.ok ∧ Rk f.bit) : (k : Nat) → k ≤ fs.length → List Fo
  | 0, _ => []
  | k + 1, hk => ups fs h k (by omega) ++ [⟨(fs.length - 1 - k, fs[fs.length - 1 - k]'(by omega)), h _ (List.getElem_mem _)⟩]
theorem ups_map {fs : List Fk} {h : ∀ f ∈ fs, f.ok ∧ Rk f.bit} : ∀ {k : Nat} {hk : k ≤ fs.length}, (ups fs h k hk).map (·.1.2) = fs.reverse.take k
  | 0, _ => by simp [ups]
  | k + 1, hk => by
    rw [ups, List.map_append, ups_map, List.map_singleton, List.take_add_one, List.getElem?_reverse (by omega), List.getElem?_eq_getElem (by omega)]
    rfl
theorem ups_len {fs : List Fk} {h : ∀ f ∈ fs, f.ok ∧ Rk f.bit} {k : Nat} {hk : k ≤ fs.length} : (ups fs h k hk).length = k := by
  have := congrArg List.length (ups_map (h := h) (hk := hk))
  simpa [hk] using this
theorem yieldFr {m : Nat} {P : Program} {l : Nat} {args : Array Value} {W : World} {R : Ending → World → Prop} (h : YieldAt (Fr none) m P l args W R) : YieldAt Fence.wide 0 P l args W R := by
  obtain ⟨fn, tmps, asn, bd, hy, hR⟩ := h
  exact ⟨fn, tmps, asn, bd, hy, trivial, fun c cs _ => hR.2 c cs (room_wide _)⟩
theorem back_stops (w : World) (Bs : Nat) (a : Option Addr) (n c : Nat) (fs : List Fk) (h : ∀ f ∈ fs, f.ok ∧ Rk f.bit) (hr : RSl w 33 a n c (rows fkC fs)) (hn : n ≤ 9223372036854775807) (hB : w.cell? ⟨Bs, 0, none⟩ = some (.slice a n c)) :
    SeqStopsK (Fr none) 2 Tryd.prog 88 #[.pointer (some ⟨Bs, 0, none⟩)] (fun x : Fo => (encF x).toArray) (KpL (Bs :: if n = 0 then [] else rowL a)) (fun xs => xs.map (·.1.2) = fs.reverse) (fun pre => ∀ x ∈ pre, x.1.2 ∈ fs) fs.length w := by
  intro l J Jx W hW _ _ hY h0
  have hlen : ∀ f ∈ fs, (fkC f).length = 33 := fkC_len fun f hf => (h f hf).1
  have hnl : fs.length = n := hr.count hlen (by omega)
  have hBlt : Bs < w.heap.size := World.block_lt_of_cell? _ _ hB
  have hrW : RSl W 33 a n c (rows fkC fs) := hr.keep fun k _ hk => hW.block k hk
  have hBW : W.cell? ⟨Bs, 0, none⟩ = some (.slice a n c) := by rw [World.cell?_of_block (hW.block Bs hBlt)]; exact hB
  refine callsFr.2 ?_
  show Calls _ _ #[.func (.yield l) #[] #[], .pointer (some ⟨Bs, 0, none⟩)] W _
  refine c88 _ _ ?_
  unfold d88
  refine ⟨a, n, c, hBW, ?_⟩
  refine ⟨fun m i u => ∃ (k : Nat) (hk : k ≤ fs.length), i = (n : Int) - 1 - k ∧ m = fs.length - k ∧ J (ups fs h k hk) u ∧ RSl u 33 a n c (rows fkC fs) ∧ u.cell? ⟨Bs, 0, none⟩ = some (.slice a n c), ⟨_, 0, by omega, by rw [wrap_i64 (by omega) (by omega)]; omega, rfl, h0, hrW, hBW⟩, ?_⟩
  clear hrW hBW h0
  rintro m w6 i ⟨k, hk, rfl, rfl, hJ, hru, hBu⟩
  by_cases hkn : k < n
  rotate_left
  · rw [bif_neg (by omega)]
    refine ⟨⟨_, rfl⟩, .inl ⟨_, ?_, hJ⟩⟩
    show (ups fs h k hk).map (·.1.2) = _
    rw [ups_map, List.take_of_length_le (by simp; omega)]
  rw [bif_pos (by omega)]
  refine ⟨a, n, c, hBu, by omega, by omega, ?_⟩
  have ei : ((n : Int) - 1 - k).toNat = fs.length - 1 - k := by omega
  rw [ei]
  have hfi : fs[fs.length - 1 - k]? = some (fs[fs.length - 1 - k]'(by omega)) := List.getElem?_eq_getElem (by omega)
  refine hru.elem hlen (by omega) hfi ?_
  have hy := yieldFr (hY _ ⟨(fs.length - 1 - k, fs[fs.length - 1 - k]'(by omega)), h _ (List.getElem_mem _)⟩ w6 hJ (by rw [ups_len]; omega))
  have ea : (encF ⟨(fs.length - 1 - k, fs[fs.length - 1 - k]'(by omega)), h _ (List.getElem_mem _)⟩).toArray = #[] ++ #[.int .i64 ((n : Int) - 1 - k), .agg (fkC (fs[fs.length - 1 - k]'(by omega))).toArray] := by
    have : ((fs.length - 1 - k : Nat) : Int) = (n : Int) - 1 - k := by omega
    simp [encF, this]
  have hy := hy
  replace hy : YieldAt Fence.wide 0 Tryd.prog l (encF ⟨(fs.length - 1 - k, fs[fs.length - 1 - k]'(by omega)), h _ (List.getElem_mem _)⟩).toArray w6 _ := hy
  rw [ea] at hy
  obtain ⟨fn, tmps, asn, bd, hy1, hy2⟩ := hy
  refine ⟨fn, tmps, asn, bd, hy1, RoundIn.mono hy2 ?_⟩
  rintro e w13 (⟨rfl, hJ', hkp⟩ | ⟨rfl, hJx'⟩)
  · refine ⟨_, rfl, ?_⟩
    rw [show (!true) = false from rfl, cond_false]
    refine ⟨fs.length - (k + 1), by omega, k + 1, by omega, by rw [wrap_i64 (by omega) (by omega)]; omega, rfl, hJ', hru.keep fun z hz _ => hkp z ?_, ?_⟩
    · exact List.mem_cons_of_mem _ (by rw [if_neg (by omega)]; exact mem_rowL.2 hz)
    · rw [World.cell?_of_block (hkp Bs (by simp))]
      exact hBu
  · refine ⟨_, rfl, ?_⟩
    rw [show (!false) = true from rfl, cond_true]
    refine ⟨⟨_, rfl⟩, .inr ⟨_, fun x hx => ?_, hJx'⟩⟩
    have : x.1.2 ∈ (ups fs h (k + 1) (by omega)).map (·.1.2) := List.mem_map.2 ⟨x, hx, rfl⟩
    rw [ups_map] at this
    exact List.mem_reverse.1 (List.mem_of_mem_take this)
end Go.Proofs.YtjkbjppopdfggaaDoor.Sha
set_option maxRecDepth 100000
namespace Go.Proofs.YtjkbjppopdfggaaDoor.Fn
open Go Den
/-- prelude/proof.holds -/
def s56 : Den.T := (.seq (.ops [⟨(some 3), (.box 24 (.tmp 0)), .ptr, none⟩,
  ⟨(some 4), (.box 22 (.tmp 1)), .ptr, none⟩,
  ⟨(some 5), (.box 43 (.tmp 2)), .ptr, none⟩,
  ⟨(some 6), (.alloc 4), .ptr, none⟩] [5, 6, 3, 4])
 (.seq (.ops [⟨(some 14), (.fa 0 (.tmp 5)), .ptr, none⟩,
  ⟨(some 15), (.ld1 (.tmp 14)), .sl, none⟩,
  ⟨(some 16), (.len (.tmp 15)), (.int .i64), none⟩,
  ⟨(some 17), (.mv (.const (.int .i64 0))), (.int .i64), none⟩] [17, 16, 15, 5, 6, 3, 4])
 (.seq (.block 0
 (.loop [(17, (.int .i64))] [3, 4, 5, 6, 15, 16]
 (.seq (.ops [⟨(some 18), (.bin .lss (.tmp 17) (.tmp 16)), .any, none⟩] [18, 17, 15, 5, 6, 16, 3, 4])
 (.seq (.cond (.tmp 18)
 .skip
 (.exit 0))
 (.seq (.block 1
 (.seq (.ops [⟨(some 19), (.mv (.tmp 17)), (.int .i64), none⟩,
  ⟨(some 20), (.ia 33 (.tmp 15) (.tmp 17)), .ptr, none⟩,
  ⟨(some 21), (.ldN 33 (.tmp 20)), .agg, none⟩,
  ⟨(some 8), (.alloc 51), .ptr, none⟩,
  ⟨(some 7), (.mv (.tmp 19)), (.int .i64), none⟩,
  ⟨none, (.stN 33 (.tmp 8) (.tmp 21)), .any, none⟩] [8, 7, 5, 6, 17, 16, 15, 3, 4])
 (.seq (.draw (.take 0 ⟨(some 22), (.fa 0 (.tmp 8)), .ptr, none⟩
  (.take 1 ⟨(some 23), (.ld1 (.tmp 22)), (.int .i64), none⟩
  (.go 2 ⟨(some 24), (.call 52 [(.tmp 23)] [.bool]), .bool, none⟩ []
  (.take 3 ⟨(some 25), (.un .not (.tmp 24)), .bool, none⟩
  (.take 4 ⟨(some 26), (.mv (.tmp 25)), .bool, none⟩
  (.take 5 ⟨(some 27), (.mv (.tmp 7)), (.int .i64), (some (26, false))⟩
  (.take 6 ⟨(some 28), (.bin .gtr (.tmp 27) (.const (.int .i64 0))), .bool, (some (26, false))⟩
  (.take 7 ⟨(some 29), (.mv (.tmp 28)), .bool, (some (26, false))⟩
  (.take 8 ⟨(some 30), (.fa 0 (.tmp 5)), .ptr, (some (29, true))⟩
  (.take 9 ⟨(some 31), (.ld1 (.tmp 30)), .sl, (some (29, true))⟩
  (.take 10 ⟨(some 32), (.mv (.tmp 7)), (.int .i64), (some (29, true))⟩
  (.take 11 ⟨(some 33), (.bin .sub (.tmp 32) (.const (.int .i64 1))), (.int .i64), (some (29, true))⟩
  (.take 12 ⟨(some 34), (.ia 33 (.tmp 31) (.tmp 33)), .ptr, (some (29, true))⟩
  (.take 13 ⟨(some 35), (.fa 0 (.tmp 34)), .ptr, (some (29, true))⟩
  (.take 14 ⟨(some 36), (.ld1 (.tmp 35)), (.int .i64), (some (29, true))⟩
  (.take 15 ⟨(some 37), (.fa 0 (.tmp 8)), .ptr, (some (29, true))⟩
  (.take 16 ⟨(some 38), (.ld1 (.tmp 37)), (.int .i64), (some (29, true))⟩
  (.take 17 ⟨(some 39), (.bin .geq (.tmp 36) (.tmp 38)), .bool, (some (29, true))⟩
  (.take 18 ⟨(some 40), (.pick (.tmp 29) (.tmp 39) (.const (.bool false))), .bool, (some (26, false))⟩
  (.take 19 ⟨(some 41), (.pick (.tmp 26) (.const (.bool true)) (.tmp 40)), .bool, none⟩
  .done)))))))))))))))))))) [41, 6, 17, 16, 15, 5, 3, 4])
 (.cond (.tmp 41)
 (.seq (.ops [⟨none, (.st1 (.tmp 6) (.const (.bool false))), .any, none⟩] [6])
 .ret)
 .skip))))
 (.ops [⟨(some 42), (.bin .add (.tmp 17) (.const (.int .i64 1))), (.int .i64), none⟩,
  ⟨(some 17), (.mv (.tmp 42)), (.int .i64), none⟩] [17, 16, 15, 5, 6, 3, 4]))))))
 (.seq (.ops [⟨(some 43), (.fa 1 (.tmp 5)), .ptr, none⟩,
  ⟨(some 44), (.ld1 (.tmp 43)), .bool, none⟩,
  ⟨(some 45), (.un .not (.tmp 44)), .bool, none⟩] [45, 5, 3, 6, 4])
 (.seq (.cond (.tmp 45)
 (.seq (.ops [⟨(some 46), (.fa 0 (.tmp 5)), .ptr, none⟩,
  ⟨(some 47), (.ld1 (.tmp 46)), .sl, none⟩,
  ⟨(some 48), (.len (.tmp 47)), (.int .i64), none⟩,
  ⟨(some 49), (.bin .eql (.tmp 48) (.const (.int .i64 0))), .bool, none⟩,
  ⟨(some 50), (.mv (.tmp 49)), .bool, none⟩,
  ⟨(some 51), (.fa 2 (.tmp 5)), .ptr, (some (50, true))⟩,
  ⟨(some 52), (.ldN 3 (.tmp 51)), .agg, (some (50, true))⟩,
  ⟨(some 53), (.bld 31 (.fields [(0, 2), (2, 1)]) []), .agg, (some (50, true))⟩,
  ⟨(some 54), (.eqG .eql 31 (.tmp 52) (.tmp 53)), .bool, (some (50, true))⟩,
  ⟨(some 55), (.pick (.tmp 50) (.tmp 54) (.const (.bool false))), .bool, none⟩,
  ⟨(some 56), (.mv (.tmp 55)), .bool, none⟩,
  ⟨(some 57), (.ldN 32 (.tmp 3)), .agg, (some (56, true))⟩,
  ⟨(some 58), (.bld 24 (.elems 1) []), .agg, (some (56, true))⟩,
  ⟨(some 59), (.eqG .eql 24 (.tmp 57) (.tmp 58)), .bool, (some (56, true))⟩,
  ⟨(some 60), (.pick (.tmp 56) (.tmp 59) (.const (.bool false))), .bool, none⟩,
  ⟨none, (.st1 (.tmp 6) (.tmp 60)), .any, none⟩] [6])
 .ret)
 .skip)
 (.seq (.ops [⟨(some 62), (.fa 2 (.tmp 5)), .ptr, none⟩,
  ⟨(some 63), (.fa 0 (.tmp 62)), .ptr, none⟩,
  ⟨(some 64), (.ldN 2 (.tmp 63)), .agg, none⟩,
  ⟨(some 65), (.call 55 [(.tmp 64)] [.sl, (.int .i64)]), .any, none⟩,
  ⟨(some 61), (.mv (.tmp 65)), .any, none⟩,
  ⟨(some 66), (.ext 0 (.tmp 61)), .sl, none⟩,
  ⟨(some 67), (.ext 1 (.tmp 61)), (.int .i64), none⟩,
  ⟨(some 9), (.alloc 22), .ptr, none⟩,
  ⟨none, (.st1 (.tmp 9) (.tmp 66)), .any, none⟩,
  ⟨(some 10), (.mv (.tmp 67)), (.int .i64), none⟩] [10, 6, 5, 9, 4, 3])
 (.seq (.ops [⟨(some 68), (.mv (.tmp 10)), (.int .i64), none⟩,
  ⟨(some 69), (.bin .neq (.tmp 68) (.const (.int .i64 0))), .bool, none⟩] [69, 6, 5, 9, 4, 3])
 (.seq (.cond (.tmp 69)
 (.seq (.ops [⟨none, (.st1 (.tmp 6) (.const (.bool false))), .any, none⟩] [6])
 .ret)
 .skip)
 (.seq (.ops [⟨(some 70), (.fa 2 (.tmp 5)), .ptr, none⟩,
  ⟨(some 71), (.ldN 3 (.tmp 70)), .agg, none⟩,
  ⟨(some 72), (.call 51 [(.tmp 71)] [.agg]), .agg, none⟩,
  ⟨(some 11), (.alloc 24), .ptr, none⟩,
  ⟨none, (.stN 32 (.tmp 11) (.tmp 72)), .any, none⟩] [5, 9, 4, 6, 11, 3])
 (.seq (.ops [⟨(some 73), (.fa 0 (.tmp 5)), .ptr, none⟩,
  ⟨(some 74), (.ld1 (.tmp 73)), .sl, none⟩,
  ⟨(some 75), (.call 74 [(.tmp 74)] [.any]), .any, none⟩] [75, 9, 4, 6, 11, 3])
 (.rf (.tmp 75) [(76, (.int .i64)), (77, .agg)] [(13, .ptr)] [4, 6, 9, 11]
 (.ops [⟨(some 13), (.alloc 51), .ptr, none⟩,
  ⟨none, (.stN 33 (.tmp 13) (.tmp 77)), .any, none⟩] [9, 13, 4, 6, 11])
 (.block 3
 (.seq (.seq (.draw (.take 0 ⟨(some 78), (.ld1 (.tmp 9)), .sl, none⟩
  (.take 1 ⟨(some 79), (.fa 0 (.tmp 13)), .ptr, none⟩
  (.take 2 ⟨(some 80), (.ld1 (.tmp 79)), (.int .i64), none⟩
  (.take 4 ⟨(some 82), (.ld1 (.tmp 4)), .sl, none⟩
  (.take 5 ⟨(some 83), (.fa 0 (.tmp 13)), .ptr, none⟩
  (.take 6 ⟨(some 84), (.ld1 (.tmp 83)), (.int .i64), none⟩
  (.go 3 ⟨(some 81), (.call 75 [(.tmp 78), (.tmp 80)] [(.int .u8)]), (.int .u8), none⟩ [(6, ⟨(some 84), (.ld1 (.tmp 83)), (.int .i64), none⟩), (4, ⟨(some 82), (.ld1 (.tmp 4)), .sl, none⟩)]
  (.go 7 ⟨(some 85), (.call 75 [(.tmp 82), (.tmp 84)] [(.int .u8)]), (.int .u8), none⟩ []
  (.take 8 ⟨(some 86), (.bin .neq (.tmp 81) (.tmp 85)), .bool, none⟩
  .done))))))))) [86, 6, 4, 13, 11])
 (.cond (.tmp 86)
 (.seq (.ops [⟨none, (.st1 (.tmp 6) (.const (.bool false))), .any, none⟩] [])
 .ret)
 .skip))
 (.seq (.ops [⟨(some 87), (.ld1 (.tmp 4)), .sl, none⟩,
  ⟨(some 88), (.fa 0 (.tmp 13)), .ptr, none⟩,
  ⟨(some 89), (.ld1 (.tmp 88)), (.int .i64), none⟩,
  ⟨(some 90), (.call 75 [(.tmp 87), (.tmp 89)] [(.int .u8)]), (.int .u8), none⟩,
  ⟨(some 91), (.bin .eql (.tmp 90) (.const (.int .u8 0))), .bool, none⟩] [91, 13, 11])
 (.cond (.tmp 91)
 (.ops [⟨(some 92), (.fa 0 (.tmp 13)), .ptr, none⟩,
  ⟨(some 93), (.ld1 (.tmp 92)), (.int .i64), none⟩,
  ⟨(some 94), (.ldN 32 (.tmp 11)), .agg, none⟩,
  ⟨(some 95), (.fa 1 (.tmp 13)), .ptr, none⟩,
  ⟨(some 96), (.ldN 32 (.tmp 95)), .agg, none⟩,
  ⟨(some 97), (.call 53 [(.tmp 93), (.tmp 94), (.tmp 96)] [.agg]), .agg, none⟩,
  ⟨none, (.stN 32 (.tmp 11) (.tmp 97)), .any, none⟩] [])
 (.ops [⟨(some 98), (.fa 0 (.tmp 13)), .ptr, none⟩,
  ⟨(some 99), (.ld1 (.tmp 98)), (.int .i64), none⟩,
  ⟨(some 100), (.fa 1 (.tmp 13)), .ptr, none⟩,
  ⟨(some 101), (.ldN 32 (.tmp 100)), .agg, none⟩,
  ⟨(some 102), (.ldN 32 (.tmp 11)), .agg, none⟩,
  ⟨(some 103), (.call 53 [(.tmp 99), (.tmp 101), (.tmp 102)] [.agg]), .agg, none⟩,
  ⟨none, (.stN 32 (.tmp 11) (.tmp 103)), .any, none⟩] [])))))
 (.seq (.ops [⟨(some 104), (.ldN 32 (.tmp 11)), .agg, none⟩,
  ⟨(some 105), (.ldN 32 (.tmp 3)), .agg, none⟩,
  ⟨(some 106), (.eqG .eql 24 (.tmp 104) (.tmp 105)), .bool, none⟩,
  ⟨none, (.st1 (.tmp 6) (.tmp 106)), .any, none⟩] [6])
 (.last .ret)))))))))))))
def r56 : List Res := [.c1 6 .bool]
theorem tr56 : trT Tryd.prog [] 107 s56 (flat (Tryd.f56.body.getD .skip)) = some s56 := by kernel_rfl
theorem den56 (args : List Value) (w : World) (R : Ending → World → Prop) (hn : args.length ≤ 107) (h : denT Tryd.prog r56 R s56 [] (argsEnv 0 args) w) : Calls Tryd.prog 56 args.toArray w R :=
  calls_of_denT (pn := []) (fn := Tryd.f56) (c := Tryd.f56.body.getD .skip) Tryd.func56 (by kernel_rfl) (by rw [Tryd.ntmps56]; exact hn) (by rw [Tryd.ntmps56]; exact tr56) (by kernel_rfl) h
def d56 (root0 : Array Value) (b1 : Option Addr) (b1n : Nat) (b1c : Nat) (p2 : Array Value) (w : World) (R : Ending → World → Prop) : Prop :=
 ∀ w3 : World, w3 = World.alloc w (.cells root0 24) →
 ∀ w4 : World, w4 = World.alloc w3 (.cells #[(.slice b1 b1n b1c)] 22) →
 ∀ w5 : World, w5 = World.alloc w4 (.cells p2 43) →
 ∀ w6 : World, w6 = World.alloc w5 (.cells (zc Tryd.prog 4).toArray 4) →
 ∃ (x7 : Option Addr) (x7n : Nat) (x7c : Nat), World.cell? w6 (Addr.add ⟨World.heap w4 |>.size, 0, none⟩ 0) = some (.slice x7 x7n x7c) ∧
 ∃ I8 : Nat → Int → World → Prop,
 (∃ m, I8 m 0 w6) ∧
 (∀ (m9 : Nat) (w10 : World) (x11 : Int), I8 m9 x11 w10 →
 (bif (decide (x11 < ((x7n : Nat) : Int))) then
 (0 ≤ x11 ∧ x11 < ((x7n : Nat) : Int) ∧ optK x7 fun a12 =>
 ∃ cs13 : List Value, List.length cs13 = 33 ∧ Cells w10 (Addr.add a12 (Int.toNat x11 * 33)) cs13 ∧
 ∀ w14 : World, w14 = World.alloc w10 (.cells (zc Tryd.prog 51).toArray 51) →
 Array.size (List.toArray cs13) = 33 ∧ (∀ u ∈ Array.toList (List.toArray cs13), one u = true) ∧ Room w14 ⟨World.heap w10 |>.size, 0, none⟩ 33 ∧
 ∀ w15 : World, w15 = setCells w14 ⟨World.heap w10 |>.size, 0, none⟩ (Array.toList (List.toArray cs13)) 0 →
 ∀ w16 : World, w16 = World.drew w15 →
 ∃ x17 : Int, World.cell? w16 (Addr.add ⟨World.heap w10 |>.size, 0, none⟩ 0) = some (.int .i64 x17) ∧
 Calls Tryd.prog 52 #[(.int .i64 x17)] w16 fun e18 w19 => ∃ x20 : Bool, e18 = .returned (.bool x20) ∧
 (bif (!x20) then
 (one (.bool false) = true ∧ Option.isSome (World.cell? w19 ⟨World.heap w5 |>.size, 0, none⟩) = true ∧ World.frozen? w19 ⟨World.heap w5 |>.size, 0, none⟩ = false ∧
 ∀ w21 : World, w21 = World.setCell w19 ⟨World.heap w5 |>.size, 0, none⟩ (.bool false) →
 ∃ z22 : Bool, World.cell? w21 ⟨World.heap w5 |>.size, 0, none⟩ = some (.bool z22) ∧
 R (.returned (.bool z22)) w21)
 else
 ((bif (decide (0 < x11)) then
 (∃ (x23 : Option Addr) (x23n : Nat) (x23c : Nat), World.cell? w19 (Addr.add ⟨World.heap w4 |>.size, 0, none⟩ 0) = some (.slice x23 x23n x23c) ∧
 0 ≤ (IntKind.wrap .i64 (x11 - 1)) ∧ (IntKind.wrap .i64 (x11 - 1)) < ((x23n : Nat) : Int) ∧ optK x23 fun a24 =>
 ∃ x25 : Int, World.cell? w19 (Addr.add (Addr.add a24 (Int.toNat (IntKind.wrap .i64 (x11 - 1)) * 33)) 0) = some (.int .i64 x25) ∧
 ∃ x26 : Int, World.cell? w19 (Addr.add ⟨World.heap w10 |>.size, 0, none⟩ 0) = some (.int .i64 x26) ∧
 (bif (decide (x26 ≤ x25)) then
 (one (.bool false) = true ∧ Option.isSome (World.cell? w19 ⟨World.heap w5 |>.size, 0, none⟩) = true ∧ World.frozen? w19 ⟨World.heap w5 |>.size, 0, none⟩ = false ∧
 ∀ w27 : World, w27 = World.setCell w19 ⟨World.heap w5 |>.size, 0, none⟩ (.bool false) →
 ∃ z28 : Bool, World.cell? w27 ⟨World.heap w5 |>.size, 0, none⟩ = some (.bool z28) ∧
 R (.returned (.bool z28)) w27)
 else
 (∃ m29, m29 < m9 ∧ I8 m29 (IntKind.wrap .i64 (x11 + 1)) w19)))
 else
 (∃ m30, m30 < m9 ∧ I8 m30 (IntKind.wrap .i64 (x11 + 1)) w19)))))
 else
 (∃ x31 : Bool, World.cell? w10 (Addr.add ⟨World.heap w4 |>.size, 0, none⟩ 1) = some (.bool x31) ∧
 (bif (!x31) then
 (∃ (x32 : Option Addr) (x32n : Nat) (x32c : Nat), World.cell? w10 (Addr.add ⟨World.heap w4 |>.size, 0, none⟩ 0) = some (.slice x32 x32n x32c) ∧
 (bif (decide (((x32n : Nat) : Int) = 0)) then
 (∃ cs33 : List Value, List.length cs33 = 3 ∧ Cells w10 (Addr.add ⟨World.heap w4 |>.size, 0, none⟩ 2) cs33 ∧
 ∃ cs34, fillL (.fields [(0, 2), (2, 1)]) (zc Tryd.prog 31) [] = some cs34 ∧
 ∃ q35 : Bool, Sem.run Tryd.prog (do eqGuard .eql 31 (.tmp 52) (.tmp 53) (.agg (List.toArray cs33)) (.agg (List.toArray cs34)); binOp .eql 31 (.agg (List.toArray cs33)) (.agg (List.toArray cs34))) w10 = .ok (.bool q35) w10 ∧
 (bif q35 then
 (∃ cs36 : List Value, List.length cs36 = 32 ∧ Cells w10 ⟨World.heap w |>.size, 0, none⟩ cs36 ∧
 ∃ cs37, fillL (.elems 1) (zc Tryd.prog 24) [] = some cs37 ∧
 ∃ q38 : Bool, Sem.run Tryd.prog (do eqGuard .eql 24 (.tmp 57) (.tmp 58) (.agg (List.toArray cs36)) (.agg (List.toArray cs37)); binOp .eql 24 (.agg (List.toArray cs36)) (.agg (List.toArray cs37))) w10 = .ok (.bool q38) w10 ∧
 one (.bool q38) = true ∧ Option.isSome (World.cell? w10 ⟨World.heap w5 |>.size, 0, none⟩) = true ∧ World.frozen? w10 ⟨World.heap w5 |>.size, 0, none⟩ = false ∧
 ∀ w39 : World, w39 = World.setCell w10 ⟨World.heap w5 |>.size, 0, none⟩ (.bool q38) →
 ∃ z40 : Bool, World.cell? w39 ⟨World.heap w5 |>.size, 0, none⟩ = some (.bool z40) ∧
 R (.returned (.bool z40)) w39)
 else
 (one (.bool false) = true ∧ Option.isSome (World.cell? w10 ⟨World.heap w5 |>.size, 0, none⟩) = true ∧ World.frozen? w10 ⟨World.heap w5 |>.size, 0, none⟩ = false ∧
 ∀ w41 : World, w41 = World.setCell w10 ⟨World.heap w5 |>.size, 0, none⟩ (.bool false) →
 ∃ z42 : Bool, World.cell? w41 ⟨World.heap w5 |>.size, 0, none⟩ = some (.bool z42) ∧
 R (.returned (.bool z42)) w41)))
 else
 (one (.bool false) = true ∧ Option.isSome (World.cell? w10 ⟨World.heap w5 |>.size, 0, none⟩) = true ∧ World.frozen? w10 ⟨World.heap w5 |>.size, 0, none⟩ = false ∧
 ∀ w43 : World, w43 = World.setCell w10 ⟨World.heap w5 |>.size, 0, none⟩ (.bool false) →
 ∃ z44 : Bool, World.cell? w43 ⟨World.heap w5 |>.size, 0, none⟩ = some (.bool z44) ∧
 R (.returned (.bool z44)) w43)))
 else
 (∃ cs45 : List Value, List.length cs45 = 2 ∧ Cells w10 (Addr.add (Addr.add ⟨World.heap w4 |>.size, 0, none⟩ 2) 0) cs45 ∧
 Calls Tryd.prog 55 #[(.agg (List.toArray cs45))] w10 fun e46 w47 => ∃ (x48 : Option Addr) (x48n : Nat) (x48c : Nat), ∃ x49 : Int, e46 = .returned (.tuple #[(.slice x48 x48n x48c), (.int .i64 x49)]) ∧
 ∃ (x50 : Option Addr) (x50n : Nat) (x50c : Nat), (#[(.slice x48 x48n x48c), (.int .i64 x49)] : Array Value)[0]? = some (.slice x50 x50n x50c) ∧
 ∃ x51 : Int, (#[(.slice x48 x48n x48c), (.int .i64 x49)] : Array Value)[1]? = some (.int .i64 x51) ∧
 ∀ w52 : World, w52 = World.alloc w47 (.cells (zc Tryd.prog 22).toArray 22) →
 one (.slice x50 x50n x50c) = true ∧ Option.isSome (World.cell? w52 ⟨World.heap w47 |>.size, 0, none⟩) = true ∧ World.frozen? w52 ⟨World.heap w47 |>.size, 0, none⟩ = false ∧
 ∀ w53 : World, w53 = World.setCell w52 ⟨World.heap w47 |>.size, 0, none⟩ (.slice x50 x50n x50c) →
 (bif (!decide (x51 = 0)) then
 (one (.bool false) = true ∧ Option.isSome (World.cell? w53 ⟨World.heap w5 |>.size, 0, none⟩) = true ∧ World.frozen? w53 ⟨World.heap w5 |>.size, 0, none⟩ = false ∧
 ∀ w54 : World, w54 = World.setCell w53 ⟨World.heap w5 |>.size, 0, none⟩ (.bool false) →
 ∃ z55 : Bool, World.cell? w54 ⟨World.heap w5 |>.size, 0, none⟩ = some (.bool z55) ∧
 R (.returned (.bool z55)) w54)
 else
 (∃ cs56 : List Value, List.length cs56 = 3 ∧ Cells w53 (Addr.add ⟨World.heap w4 |>.size, 0, none⟩ 2) cs56 ∧
 Calls Tryd.prog 51 #[(.agg (List.toArray cs56))] w53 fun e57 w58 => ∃ x59 : Array Value, e57 = .returned (.agg x59) ∧
 ∀ w60 : World, w60 = World.alloc w58 (.cells (zc Tryd.prog 24).toArray 24) →
 Array.size x59 = 32 ∧ (∀ u ∈ Array.toList x59, one u = true) ∧ Room w60 ⟨World.heap w58 |>.size, 0, none⟩ 32 ∧
 ∀ w61 : World, w61 = setCells w60 ⟨World.heap w58 |>.size, 0, none⟩ (Array.toList x59) 0 →
 ∃ (x62 : Option Addr) (x62n : Nat) (x62c : Nat), World.cell? w61 (Addr.add ⟨World.heap w4 |>.size, 0, none⟩ 0) = some (.slice x62 x62n x62c) ∧
 Calls Tryd.prog 74 #[(.slice x62 x62n x62c)] w61 fun e63 w64 => ∃ x65 : Value, e63 = .returned x65 ∧
 fnK x65 fun gf first lb => first = #[] ∧ HasBody Tryd.prog gf ∧
 LoopK Tryd.prog gf lb [(.int .i64), .agg] [.ptr] w64 (fun (vs : List Value) (J : Option Addr → World → Prop) (K : World → Prop) (w69 : World) => ∀ (x66 : Int) (x67 : Array Value), vs = [(.int .i64 x66), (.agg x67)] →
 ∀ w71 : World, w71 = World.alloc w69 (.cells (zc Tryd.prog 51).toArray 51) →
 Array.size x67 = 33 ∧ (∀ u ∈ Array.toList x67, one u = true) ∧ Room w71 ⟨World.heap w69 |>.size, 0, none⟩ 33 ∧
 ∀ w72 : World, w72 = setCells w71 ⟨World.heap w69 |>.size, 0, none⟩ (Array.toList x67) 0 →
 (K w72 ∧ J (some ⟨World.heap w69 |>.size, 0, none⟩) w72))
 (fun (J : Option Addr → World → Prop) (go ret : World → Prop) (w70 : World) => ∀ (f68 : Option Addr), J f68 w70 →
 ∀ w73 : World, w73 = World.drew w70 →
 ∃ (x74 : Option Addr) (x74n : Nat) (x74c : Nat), World.cell? w73 ⟨World.heap w47 |>.size, 0, none⟩ = some (.slice x74 x74n x74c) ∧
 optK f68 fun a75 =>
 ∃ x76 : Int, World.cell? w73 (Addr.add a75 0) = some (.int .i64 x76) ∧
 ∃ (x77 : Option Addr) (x77n : Nat) (x77c : Nat), World.cell? w73 ⟨World.heap w3 |>.size, 0, none⟩ = some (.slice x77 x77n x77c) ∧
 optK f68 fun a78 =>
 ∃ x79 : Int, World.cell? w73 (Addr.add a78 0) = some (.int .i64 x79) ∧
 Calls Tryd.prog 75 #[(.slice x74 x74n x74c), (.int .i64 x76)] w73 fun e80 w81 => ∃ x82 : Int, e80 = .returned (.int .u8 x82) ∧
 (∃ z83 : Int, World.cell? w81 (Addr.add a78 0) = some (.int .i64 z83) ∧
 (((.int .i64 z83) : Value) = (.int .i64 x79) ∧ w81 = w81)) ∧
 (∃ (z84 : Option Addr) (z84n : Nat) (z84c : Nat), World.cell? w81 ⟨World.heap w3 |>.size, 0, none⟩ = some (.slice z84 z84n z84c) ∧
 (((.slice z84 z84n z84c) : Value) = (.slice x77 x77n x77c) ∧ w81 = w81)) ∧
 Calls Tryd.prog 75 #[(.slice x77 x77n x77c), (.int .i64 x79)] w81 fun e85 w86 => ∃ x87 : Int, e85 = .returned (.int .u8 x87) ∧
 (bif (!decide (x82 = x87)) then
 (one (.bool false) = true ∧ Option.isSome (World.cell? w86 ⟨World.heap w5 |>.size, 0, none⟩) = true ∧ World.frozen? w86 ⟨World.heap w5 |>.size, 0, none⟩ = false ∧
 ∀ w88 : World, w88 = World.setCell w86 ⟨World.heap w5 |>.size, 0, none⟩ (.bool false) →
 ret w88)
 else
 (∃ (x89 : Option Addr) (x89n : Nat) (x89c : Nat), World.cell? w86 ⟨World.heap w3 |>.size, 0, none⟩ = some (.slice x89 x89n x89c) ∧
 optK f68 fun a90 =>
 ∃ x91 : Int, World.cell? w86 (Addr.add a90 0) = some (.int .i64 x91) ∧
 Calls Tryd.prog 75 #[(.slice x89 x89n x89c), (.int .i64 x91)] w86 fun e92 w93 => ∃ x94 : Int, e92 = .returned (.int .u8 x94) ∧
 (bif (decide (x94 = 0)) then
 (optK f68 fun a95 =>
 ∃ x96 : Int, World.cell? w93 (Addr.add a95 0) = some (.int .i64 x96) ∧
 ∃ cs97 : List Value, List.length cs97 = 32 ∧ Cells w93 ⟨World.heap w58 |>.size, 0, none⟩ cs97 ∧
 optK f68 fun a98 =>
 ∃ cs99 : List Value, List.length cs99 = 32 ∧ Cells w93 (Addr.add a98 1) cs99 ∧
 Calls Tryd.prog 53 #[(.int .i64 x96), (.agg (List.toArray cs97)), (.agg (List.toArray cs99))] w93 fun e100 w101 => ∃ x102 : Array Value, e100 = .returned (.agg x102) ∧
 Array.size x102 = 32 ∧ (∀ u ∈ Array.toList x102, one u = true) ∧ Room w101 ⟨World.heap w58 |>.size, 0, none⟩ 32 ∧
 ∀ w103 : World, w103 = setCells w101 ⟨World.heap w58 |>.size, 0, none⟩ (Array.toList x102) 0 →
 go w103)
 else
 (optK f68 fun a104 =>
 ∃ x105 : Int, World.cell? w93 (Addr.add a104 0) = some (.int .i64 x105) ∧
 optK f68 fun a106 =>
 ∃ cs107 : List Value, List.length cs107 = 32 ∧ Cells w93 (Addr.add a106 1) cs107 ∧
 ∃ cs108 : List Value, List.length cs108 = 32 ∧ Cells w93 ⟨World.heap w58 |>.size, 0, none⟩ cs108 ∧
 Calls Tryd.prog 53 #[(.int .i64 x105), (.agg (List.toArray cs107)), (.agg (List.toArray cs108))] w93 fun e109 w110 => ∃ x111 : Array Value, e109 = .returned (.agg x111) ∧
 Array.size x111 = 32 ∧ (∀ u ∈ Array.toList x111, one u = true) ∧ Room w110 ⟨World.heap w58 |>.size, 0, none⟩ 32 ∧
 ∀ w112 : World, w112 = setCells w110 ⟨World.heap w58 |>.size, 0, none⟩ (Array.toList x111) 0 →
 go w112)))))
 (fun (D113 : Nat) (w114 : World) =>
 ∃ cs115 : List Value, List.length cs115 = 32 ∧ Cells w114 ⟨World.heap w58 |>.size, 0, none⟩ cs115 ∧
 ∃ cs116 : List Value, List.length cs116 = 32 ∧ Cells w114 ⟨World.heap w |>.size, 0, none⟩ cs116 ∧
 ∃ q117 : Bool, Sem.run Tryd.prog (do eqGuard .eql 24 (.tmp 104) (.tmp 105) (.agg (List.toArray cs115)) (.agg (List.toArray cs116)); binOp .eql 24 (.agg (List.toArray cs115)) (.agg (List.toArray cs116))) w114 = .ok (.bool q117) w114 ∧
 one (.bool q117) = true ∧ Option.isSome (World.cell? w114 ⟨World.heap w5 |>.size, 0, none⟩) = true ∧ World.frozen? w114 ⟨World.heap w5 |>.size, 0, none⟩ = false ∧
 ∀ w118 : World, w118 = World.setCell w114 ⟨World.heap w5 |>.size, 0, none⟩ (.bool q117) →
 leaveK [D113] w118 fun w119 =>
 ∃ z120 : Bool, World.cell? w119 ⟨World.heap w5 |>.size, 0, none⟩ = some (.bool z120) ∧
 R (.returned (.bool z120)) w119)
 (fun (D113 : Nat) (w114 : World) =>
 leaveK [D113] w114 fun w121 =>
 ∃ z122 : Bool, World.cell? w121 ⟨World.heap w5 |>.size, 0, none⟩ = some (.bool z122) ∧
 R (.returned (.bool z122)) w121))))))))
theorem e56 (root0 : Array Value) (b1 : Option Addr) (b1n : Nat) (b1c : Nat) (p2 : Array Value) (w : World) (R : Ending → World → Prop) : denT Tryd.prog r56 R s56 [] (argsEnv 0 [(.agg root0), (.slice b1 b1n b1c), (.agg p2)]) w = d56 root0 b1 b1n b1c p2 w R := by kernel_rfl
theorem c56 (root0 : Array Value) (b1 : Option Addr) (b1n : Nat) (b1c : Nat) (p2 : Array Value) {w : World} {R : Ending → World → Prop} (h : d56 root0 b1 b1n b1c p2 w R) : Calls Tryd.prog 56 #[(.agg root0), (.slice b1 b1n b1c), (.agg p2)] w R :=
  den56 [(.agg root0), (.slice b1 b1n b1c), (.agg p2)] w R (by simp) ((e56 root0 b1 b1n b1c p2 w R).symm ▸ h)

end Go.Proofs.YtjkbjppopdfggaaDoor.Fn
