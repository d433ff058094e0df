/-
  WORDS FOR MAPS whose keys are rows of numbers, booleans, strings: 'MapAt'; lookup, update, delete.
  Own work. No macro, syntax, notation, axiom.
-/
import Derived.Test.YtjchneebdlncfaaDenWords11
import Derived.DeepKeys3
namespace Go.Proofs.Ytjchneebdlncfaa.Den
open Go
open Go.RowKit (Below)
open Classical

abbrev Ents := List (List Value × Value)
def entOf (e : List Value × Value) (m : MapEntry) : Prop := m.key = .agg e.1.toArray ∧ m.val = e.2
/-- A map's block, its entries in order. -/
def MapAt (w : World) (b : Nat) (es : Ents) : Prop := ∃ (arr : Array MapEntry) (clock : Nat), w.heap[b]? = some (.map arr clock) ∧ arr.toList.length = es.length ∧ ∀ (i : Nat) (m : MapEntry) (e : List Value × Value), arr.toList[i]? = some m → es[i]? = some e → entOf e m
theorem MapAt.lt {w : World} {b : Nat} {es : Ents} (h : MapAt w b es) : b < w.heap.size := by
  obtain ⟨arr, c, hb, _⟩ := h
  exact (Array.getElem?_eq_some_iff.1 hb).1
theorem MapAt.of_heap {w w' : World} {b : Nat} {es : Ents} (h : MapAt w b es) (he : w'.heap[b]? = w.heap[b]?) : MapAt w' b es := by
  obtain ⟨arr, c, hb, h⟩ := h
  exact ⟨arr, c, he.trans hb, h⟩
theorem MapAt.tch {s : List Nat} {w w' : World} {b : Nat} {es : Ents} (h : MapAt w b es) (ht : Tch s w w') (hb : b ∉ s) : MapAt w' b es := h.of_heap (ht.block b h.lt hb)
theorem MapAt.new (w : World) : MapAt (w.alloc (.map #[] 0)) w.heap.size [] := ⟨#[], 0, by show (w.heap.push _)[w.heap.size]? = _; simp, rfl, by simp⟩
noncomputable def mGet : Ents → List Value → Option Value
  | [], _ => none
  | e :: r, k => if e.1 = k then some e.2 else mGet r k
noncomputable def mDel : Ents → List Value → Ents
  | [], _ => []
  | e :: r, k => if e.1 = k then r else e :: mDel r k
/-- What a map's key type is asked. -/
structure MapT (P : Program) (t kt et : TypeId) (d : Nat) (ks : List FK) : Prop where
  map : P.underlying t = some (.map kt et)
  flat : flatK P d kt = some ks
  eqT : eqT P d kt = true
section
variable {P : Program} {t kt et : TypeId} {d : Nat} {ks : List FK}
theorem MapT.check (T : MapT P t kt et d ks) {xs : List Value} (hx : Fits ks xs) (em : Bool) (w : World) : (Instr.checkKey em 10000 kt (.agg xs.toArray)).run P w = .ok () w := by
  have hk := T.eqT
  unfold Den.eqT at hk
  simp only [Bool.and_eq_true, decide_eq_true_eq] at hk
  have h := run_checkKey_deep (P := P) em (10000 - d) d kt hk.1.1.1
  rw [show 10000 - d + d = 10000 by omega] at h
  refine h w d _ (xs.map litOf) (flat_cells T.flat T.eqT hx) ?_
  show P.keyLits d kt (xs.toArray).toList = _
  rw [List.toList_toArray]
  rcases lits_flat d kt ks T.flat xs with h | h | h
  · exact h.1
  · exact absurd hx h.2
  · exact absurd hx.length h
theorem MapT.wide (T : MapT P t kt et d ks) : (match P.underlying kt with | some (.array _ _) | some (.struct _) => true | _ => false) = true := by
  have hk := T.eqT
  unfold Den.eqT at hk
  simp only [Bool.and_eq_true] at hk
  exact hk.1.2
theorem MapT.asks (T : MapT P t kt et d ks) {xs : List Value} (hx : Fits ks xs) (w : World) : ∀ (ms : List MapEntry) (es : Ents) (i : Nat), ms.length = es.length → (∀ (j : Nat) (m : MapEntry) (e : List Value × Value), ms[j]? = some m → es[j]? = some e → entOf e m) → (∀ e ∈ es, Fits ks e.1) →
    (mGet es xs = none ∧ (Instr.findAsking kt (.agg xs.toArray) ms i).run P w = .ok none w ∧ mDel es xs = es) ∨
    ∃ j v, mGet es xs = some v ∧ (Instr.findAsking kt (.agg xs.toArray) ms i).run P w = .ok (some (i + j, v)) w ∧ j < ms.length ∧ mDel es xs = es.eraseIdx j
  | [], [], i, _, _, _ => .inl ⟨rfl, by simp [Instr.findAsking], rfl⟩
  | [], _ :: _, _, h, _, _ => by simp at h
  | _ :: _, [], _, h, _, _ => by simp at h
  | m :: ms, e :: es, i, hl, he, hf => by
    obtain ⟨h1, h2⟩ := he 0 m e rfl rfl
    obtain ⟨r, hr, hiff⟩ := run_flat T.flat T.eqT hx (hf e (by simp)) w
    have hq : (Op.equal kt (.agg xs.toArray) m.key).run P w = .ok r w := by rw [h1]; exact hr
    by_cases hke : e.1 = xs
    · have hrt : r = true := hiff.2 hke.symm
      subst hrt
      refine .inr ⟨0, e.2, by simp [mGet, hke], ?_, by simp, by simp [mDel, hke]⟩
      simp [Instr.findAsking, hq, Result.andThen, h2]
    · have hrf : r = false := by
        cases r
        · rfl
        · exact absurd (hiff.1 rfl).symm hke
      subst hrf
      rcases MapT.asks T hx w ms es (i + 1) (by simpa using hl) (fun j m' e' hm' he' => he (j + 1) m' e' (by simpa using hm') (by simpa using he')) (fun e' h' => hf e' (by simp [h'])) with ⟨g1, g2, g3⟩ | ⟨j, v, g1, g2, g3, g4⟩
      · refine .inl ⟨by simp [mGet, hke, g1], ?_, by simp [mDel, hke, g3]⟩
        simp [Instr.findAsking, hq, Result.andThen, g2]
      · refine .inr ⟨j + 1, v, by simp [mGet, hke, g1], ?_, by simpa using g3, by simp [mDel, hke, g4]⟩
        simp [Instr.findAsking, hq, Result.andThen, g2]
        omega
theorem MapT.find (T : MapT P t kt et d ks) {xs : List Value} (hx : Fits ks xs) (w : World) {ms : List MapEntry} {es : Ents} (hl : ms.length = es.length) (he : ∀ (j : Nat) (m : MapEntry) (e : List Value × Value), ms[j]? = some m → es[j]? = some e → entOf e m) (hf : ∀ e ∈ es, Fits ks e.1) :
    (mGet es xs = none ∧ (Instr.findKey kt (.agg xs.toArray) ms).run P w = .ok none w ∧ mDel es xs = es) ∨
    ∃ j v, mGet es xs = some v ∧ (Instr.findKey kt (.agg xs.toArray) ms).run P w = .ok (some (j, v)) w ∧ j < ms.length ∧ mDel es xs = es.eraseIdx j := by
  rw [run_findKey_eq w T.wide]
  rcases T.asks hx w ms es 0 hl he hf with h | ⟨j, v, h1, h2, h3⟩
  · exact .inl h
  · rw [Nat.zero_add] at h2
    exact .inr ⟨j, v, h1, h2, h3⟩
/-- What a lookup hands back. -/
noncomputable def mOk (o : Option Value) (z : Value) : Value := .tuple #[o.getD z, .bool o.isSome]
theorem MapT.lookup (T : MapT P t kt et d ks) {z : Value} (hz : ∀ w : World, (zeroValue et).run P w = .ok z w) {w : World} {b : Nat} {es : Ents} (h : MapAt w b es) (hf : ∀ e ∈ es, Fits ks e.1) {xs : List Value} (hx : Fits ks xs) :
    Sem.run P (Instr.lookup t (.map (some b)) (.agg xs.toArray) true) w = .ok (mOk (mGet es xs) z) w := by
  obtain ⟨arr, clock, hb, hl, he⟩ := h
  rcases T.find hx w hl he hf with ⟨h1, h2, _⟩ | ⟨j, v, h1, h2, _⟩
  · simp [Instr.lookup, run_underlying T.map, MapKept.run_getObj_map hb, T.check hx, h2, hz, h1, Result.andThen, mOk]
  · simp [Instr.lookup, run_underlying T.map, MapKept.run_getObj_map hb, T.check hx, h2, h1, Result.andThen, mOk]
theorem tch_put {w : World} {b : Nat} {o : Obj} : Tch [b] w { w with heap := w.heap.setIfInBounds b o } :=
  ⟨rfl, rfl, rfl, by simp, fun i _ hn => by
    have : b ≠ i := fun e => hn (by simp [e])
    simp [Array.getElem?_setIfInBounds_ne this]⟩
/-- A new entry. -/
theorem MapT.upd (T : MapT P t kt et d ks) {w : World} {b : Nat} {es : Ents} (h : MapAt w b es) (hf : ∀ e ∈ es, Fits ks e.1) {xs : List Value} (hx : Fits ks xs) (hno : mGet es xs = none) {v : Value} {K : World → Prop}
    (hK : ∀ w', MapAt w' b (es ++ [(xs, v)]) → Tch [b] w w' → K w') : RunU P (Instr.mapUpdate t (.map (some b)) (.agg xs.toArray) v) w K := by
  obtain ⟨arr, clock, hb, hl, he⟩ := h
  rcases T.find hx w hl he hf with ⟨h1, h2, _⟩ | ⟨j, v, h1, _⟩
  · refine ⟨_, by simp [Instr.mapUpdate, run_underlying T.map, MapKept.run_getObj_map hb, T.check hx, h2, MapKept.run_setObj_map _ hb, Result.andThen], hK _ ⟨arr.push { key := .agg xs.toArray, val := v, born := clock }, clock + 1, (MapKept.heap_set hb).1, by simp [← hl], fun i m e hm hi => ?_⟩ tch_put⟩
    rw [Array.toList_push, List.getElem?_append] at hm
    rw [List.getElem?_append, ← hl] at hi
    split at hm
    · rename_i hlt
      rw [if_pos hlt] at hi
      exact he i m e hm hi
    · rename_i hlt
      rw [if_neg hlt] at hi
      by_cases h0 : i - arr.toList.length = 0
      · rw [h0] at hm hi
        cases hm; cases hi
        exact ⟨rfl, rfl⟩
      · rw [List.getElem?_eq_none (by show 1 ≤ _; omega)] at hm
        cases hm
  · rw [hno] at h1; cases h1
theorem erase_get {α : Type} {l : List α} {j i : Nat} {x : α} (h : (l.eraseIdx j)[i]? = some x) : l[if i < j then i else i + 1]? = some x := by
  rw [List.getElem?_eraseIdx] at h
  split at h
  · rename_i hlt; rw [if_pos hlt]; exact h
  · rename_i hlt; rw [if_neg hlt]; exact h
/-- An entry goes. -/
theorem MapT.del (T : MapT P t kt et d ks) {w : World} {b : Nat} {ty : TypeId} {es : Ents} (h : MapAt w b es) (hf : ∀ e ∈ es, Fits ks e.1) {xs : List Value} (hx : Fits ks xs) {K : Value → World → Prop}
    (hK : ∀ w', MapAt w' b (mDel es xs) → Tch [b] w w' → K (.tuple #[]) w') : RunV P (Builtin.delete_ #[t, kt] ty #[.map (some b), .agg xs.toArray]) w K := by
  obtain ⟨arr, clock, hb, hl, he⟩ := h
  rcases T.find hx w hl he hf with ⟨h1, h2, h3⟩ | ⟨j, v, h1, h2, h3, h4⟩
  · refine ⟨.tuple #[], _, by simp [Builtin.delete_, run_underlying T.map, MapKept.run_getObj_map hb, T.check hx, h2, MapKept.run_setObj_map _ hb, Result.andThen], hK _ ⟨arr, clock, (MapKept.heap_set hb).1, ?_⟩ tch_put⟩
    rw [h3]
    exact ⟨hl, he⟩
  · refine ⟨.tuple #[], _, by simp [Builtin.delete_, run_underlying T.map, MapKept.run_getObj_map hb, T.check hx, h2, MapKept.run_setObj_map _ hb, Result.andThen], hK _ ⟨arr.eraseIdxIfInBounds j, clock, (MapKept.heap_set hb).1, ?_⟩ tch_put⟩
    rw [h4]
    have e : (arr.eraseIdxIfInBounds j).toList = arr.toList.eraseIdx j := by simp
    rw [e]
    refine ⟨by rw [List.length_eraseIdx, List.length_eraseIdx, hl], fun i m e hm hi => he _ m e (erase_get hm) (erase_get hi)⟩
end
end Go.Proofs.Ytjchneebdlncfaa.Den
