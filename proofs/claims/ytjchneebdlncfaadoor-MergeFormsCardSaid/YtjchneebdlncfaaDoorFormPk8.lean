/-
  WORDS FOR MAPS whose keys are rows of numbers, booleans, strings: 'MapAt'; lookup, update, delete.
  COPIES OF BATCHES, THEIR COMPARISON: contracts of slices.Equal, slices.Clone, copied, same, epoch.
  A MERGER: as data, in memory; contracts of New, Epoch, Take.
  Own work. No macro, syntax, notation, axiom.
-/
import Derived.Test.YtjchneebdlncfaaDoorFormPk5
import Derived.DeepKeys3
import Derived.Test.YtjchneebdlncfaaDoorFormPk7
namespace Go.Proofs.YtjchneebdlncfaaDoor.Den
open Go
open Go.RowKit (Below)
open Classical
abbrev Ents := List (List Value × Value)
def entOf (e : List Value × Value) (m : MapEntry) : Prop := m.key = .agg e.1.toArray ∧ m.val = e.2
/-- A map's block, its entries in order. -/
def MapAt (w : World) (b : Nat) (es : Ents) : Prop := ∃ (arr : Array MapEntry) (clock : Nat), w.heap[b]? = some (.map arr clock) ∧ arr.toList.length = es.length ∧ ∀ (i : Nat) (m : MapEntry) (e : List Value × Value), arr.toList[i]? = some m → es[i]? = some e → entOf e m
theorem MapAt.lt {w : World} {b : Nat} {es : Ents} (h : MapAt w b es) : b < w.heap.size := by
  obtain ⟨arr, c, hb, _⟩ := h
  exact (Array.getElem?_eq_some_iff.1 hb).1
theorem MapAt.of_heap {w w' : World} {b : Nat} {es : Ents} (h : MapAt w b es) (he : w'.heap[b]? = w.heap[b]?) : MapAt w' b es := by
  obtain ⟨arr, c, hb, h⟩ := h
  exact ⟨arr, c, he.trans hb, h⟩
theorem MapAt.tch {s : List Nat} {w w' : World} {b : Nat} {es : Ents} (h : MapAt w b es) (ht : Tch s w w') (hb : b ∉ s) : MapAt w' b es := h.of_heap (ht.block b h.lt hb)
theorem MapAt.new (w : World) : MapAt (w.alloc (.map #[] 0)) w.heap.size [] := ⟨#[], 0, by show (w.heap.push _)[w.heap.size]? = _; simp, rfl, by simp⟩
noncomputable def mGet : Ents → List Value → Option Value
  | [], _ => none
  | e :: r, k => if e.1 = k then some e.2 else mGet r k
noncomputable def mDel : Ents → List Value → Ents
  | [], _ => []
  | e :: r, k => if e.1 = k then r else e :: mDel r k
/-- An entry is set, or comes. -/
noncomputable def mPut : Ents → List Value → Value → Ents
  | [], k, v => [(k, v)]
  | e :: r, k, v => if e.1 = k then (k, v) :: r else e :: mPut r k v
theorem mPut_none {v : Value} {k : List Value} : ∀ {es : Ents}, mGet es k = none → mPut es k v = es ++ [(k, v)]
  | [], _ => rfl
  | e :: r, h => by
    unfold mGet at h
    split at h
    · cases h
    · rename_i hn
      rw [mPut, if_neg hn, mPut_none h]
      rfl
/-- What a map's key type is asked. -/
structure MapT (P : Program) (t kt et : TypeId) (d : Nat) (ks : List FK) : Prop where
  map : P.underlying t = some (.map kt et)
  flat : flatK P d kt = some ks
  eqT : eqT P d kt = true
section
variable {P : Program} {t kt et : TypeId} {d : Nat} {ks : List FK}
theorem MapT.check (T : MapT P t kt et d ks) {xs : List Value} (hx : Fits ks xs) (em : Bool) (w : World) : (Instr.checkKey em 10000 kt (.agg xs.toArray)).run P w = .ok () w := by
  have hk := T.eqT
  unfold Den.eqT at hk
  simp only [Bool.and_eq_true, decide_eq_true_eq] at hk
  have h := run_checkKey_deep (P := P) em (10000 - d) d kt hk.1.1.1
  rw [show 10000 - d + d = 10000 by omega] at h
  refine h w d _ (xs.map litOf) (flat_cells T.flat T.eqT hx) ?_
  show P.keyLits d kt (xs.toArray).toList = _
  rw [List.toList_toArray]
  rcases lits_flat d kt ks T.flat xs with h | h | h
  · exact h.1
  · exact absurd hx h.2
  · exact absurd hx.length h
theorem MapT.wide (T : MapT P t kt et d ks) : (match P.underlying kt with | some (.array _ _) | some (.struct _) => true | _ => false) = true := by
  have hk := T.eqT
  unfold Den.eqT at hk
  simp only [Bool.and_eq_true] at hk
  exact hk.1.2
theorem MapT.asks (T : MapT P t kt et d ks) {xs : List Value} (hx : Fits ks xs) (w : World) : ∀ (ms : List MapEntry) (es : Ents) (i : Nat), ms.length = es.length → (∀ (j : Nat) (m : MapEntry) (e : List Value × Value), ms[j]? = some m → es[j]? = some e → entOf e m) → (∀ e ∈ es, Fits ks e.1) →
    (mGet es xs = none ∧ (Instr.findAsking kt (.agg xs.toArray) ms i).run P w = .ok none w ∧ mDel es xs = es) ∨
    ∃ j v, mGet es xs = some v ∧ (Instr.findAsking kt (.agg xs.toArray) ms i).run P w = .ok (some (i + j, v)) w ∧ j < ms.length ∧ mDel es xs = es.eraseIdx j ∧ es[j]? = some (xs, v) ∧ ∀ u, mPut es xs u = es.set j (xs, u)
  | [], [], i, _, _, _ => .inl ⟨rfl, by simp [Instr.findAsking], rfl⟩
  | [], _ :: _, _, h, _, _ => by simp at h
  | _ :: _, [], _, h, _, _ => by simp at h
  | m :: ms, e :: es, i, hl, he, hf => by
    obtain ⟨h1, h2⟩ := he 0 m e rfl rfl
    obtain ⟨r, hr, hiff⟩ := run_flat T.flat T.eqT hx (hf e (by simp)) w
    have hq : (Op.equal kt (.agg xs.toArray) m.key).run P w = .ok r w := by rw [h1]; exact hr
    by_cases hke : e.1 = xs
    · have hrt : r = true := hiff.2 hke.symm
      subst hrt
      refine .inr ⟨0, e.2, by simp [mGet, hke], ?_, by simp, by simp [mDel, hke], by rw [← hke]; rfl, fun u => by simp [mPut, hke]⟩
      simp [Instr.findAsking, hq, Result.andThen, h2]
    · have hrf : r = false := by
        cases r
        · rfl
        · exact absurd (hiff.1 rfl).symm hke
      subst hrf
      rcases MapT.asks T hx w ms es (i + 1) (by simpa using hl) (fun j m' e' hm' he' => he (j + 1) m' e' (by simpa using hm') (by simpa using he')) (fun e' h' => hf e' (by simp [h'])) with ⟨g1, g2, g3⟩ | ⟨j, v, g1, g2, g3, g4, g5, g6⟩
      · refine .inl ⟨by simp [mGet, hke, g1], ?_, by simp [mDel, hke, g3]⟩
        simp [Instr.findAsking, hq, Result.andThen, g2]
      · refine .inr ⟨j + 1, v, by simp [mGet, hke, g1], ?_, by simpa using g3, by simp [mDel, hke, g4], by simpa using g5, fun u => by simp [mPut, hke, g6]⟩
        simp [Instr.findAsking, hq, Result.andThen, g2]
        omega
theorem MapT.find (T : MapT P t kt et d ks) {xs : List Value} (hx : Fits ks xs) (w : World) {ms : List MapEntry} {es : Ents} (hl : ms.length = es.length) (he : ∀ (j : Nat) (m : MapEntry) (e : List Value × Value), ms[j]? = some m → es[j]? = some e → entOf e m) (hf : ∀ e ∈ es, Fits ks e.1) :
    (mGet es xs = none ∧ (Instr.findKey kt (.agg xs.toArray) ms).run P w = .ok none w ∧ mDel es xs = es) ∨
    ∃ j v, mGet es xs = some v ∧ (Instr.findKey kt (.agg xs.toArray) ms).run P w = .ok (some (j, v)) w ∧ j < ms.length ∧ mDel es xs = es.eraseIdx j ∧ es[j]? = some (xs, v) ∧ ∀ u, mPut es xs u = es.set j (xs, u) := by
  rw [run_findKey_eq w T.wide]
  rcases T.asks hx w ms es 0 hl he hf with h | ⟨j, v, h1, h2, h3⟩
  · exact .inl h
  · rw [Nat.zero_add] at h2
    exact .inr ⟨j, v, h1, h2, h3⟩
/-- What a lookup hands back. -/
noncomputable def mOk (o : Option Value) (z : Value) : Value := .tuple #[o.getD z, .bool o.isSome]
theorem MapT.lookup (T : MapT P t kt et d ks) {z : Value} (hz : ∀ w : World, (zeroValue et).run P w = .ok z w) {w : World} {b : Nat} {es : Ents} (h : MapAt w b es) (hf : ∀ e ∈ es, Fits ks e.1) {xs : List Value} (hx : Fits ks xs) :
    Sem.run P (Instr.lookup t (.map (some b)) (.agg xs.toArray) true) w = .ok (mOk (mGet es xs) z) w := by
  obtain ⟨arr, clock, hb, hl, he⟩ := h
  rcases T.find hx w hl he hf with ⟨h1, h2, _⟩ | ⟨j, v, h1, h2, _⟩
  · simp [Instr.lookup, run_underlying T.map, MapKept.run_getObj_map hb, T.check hx, h2, hz, h1, Result.andThen, mOk]
  · simp [Instr.lookup, run_underlying T.map, MapKept.run_getObj_map hb, T.check hx, h2, h1, Result.andThen, mOk]
theorem tch_put {w : World} {b : Nat} {o : Obj} : Tch [b] w { w with heap := w.heap.setIfInBounds b o } :=
  ⟨rfl, rfl, rfl, by simp, fun i _ hn => by
    have : b ≠ i := fun e => hn (by simp [e])
    simp [Array.getElem?_setIfInBounds_ne this]⟩
/-- A new entry. -/
theorem MapT.upd (T : MapT P t kt et d ks) {w : World} {b : Nat} {es : Ents} (h : MapAt w b es) (hf : ∀ e ∈ es, Fits ks e.1) {xs : List Value} (hx : Fits ks xs) (hno : mGet es xs = none) {v : Value} {K : World → Prop}
    (hK : ∀ w', MapAt w' b (es ++ [(xs, v)]) → Tch [b] w w' → K w') : RunU P (Instr.mapUpdate t (.map (some b)) (.agg xs.toArray) v) w K := by
  obtain ⟨arr, clock, hb, hl, he⟩ := h
  rcases T.find hx w hl he hf with ⟨h1, h2, _⟩ | ⟨j, v, h1, _⟩
  · refine ⟨_, by simp [Instr.mapUpdate, run_underlying T.map, MapKept.run_getObj_map hb, T.check hx, h2, MapKept.run_setObj_map _ hb, Result.andThen], hK _ ⟨arr.push { key := .agg xs.toArray, val := v, born := clock }, clock + 1, (MapKept.heap_set hb).1, by simp [← hl], fun i m e hm hi => ?_⟩ tch_put⟩
    rw [Array.toList_push, List.getElem?_append] at hm
    rw [List.getElem?_append, ← hl] at hi
    split at hm
    · rename_i hlt
      rw [if_pos hlt] at hi
      exact he i m e hm hi
    · rename_i hlt
      rw [if_neg hlt] at hi
      by_cases h0 : i - arr.toList.length = 0
      · rw [h0] at hm hi
        cases hm; cases hi
        exact ⟨rfl, rfl⟩
      · rw [List.getElem?_eq_none (by show 1 ≤ _; omega)] at hm
        cases hm
  · rw [hno] at h1; cases h1
theorem sameBits_flat {ks : List FK} : ∀ {xs : List Value}, Fits ks xs → ((xs.zip xs).all fun (x, y) => Instr.sameBits 9999 x y) = true := by
  induction ks with
  | nil => intro xs h; cases xs with
    | nil => rfl
    | cons _ _ => exact h.elim
  | cons k ks ih => intro xs h; cases xs with
    | nil => exact h.elim
    | cons x xs =>
      obtain ⟨h1, h2⟩ := h
      rw [List.zip_cons_cons, List.all_cons, ih h2, Bool.and_true]
      cases k <;> cases x <;> first | exact (show False from h1).elim | (simp [Instr.sameBits]; done) | (rename_i b; show (b == b) = true; obtain ⟨d⟩ := b; show (d == d) = true; simp)
/-- An entry is set, whether it was there or not. -/
theorem MapT.put (T : MapT P t kt et d ks) {w : World} {b : Nat} {es : Ents} (h : MapAt w b es) (hf : ∀ e ∈ es, Fits ks e.1) {xs : List Value} (hx : Fits ks xs) {v : Value} {K : World → Prop}
    (hK : ∀ w', MapAt w' b (mPut es xs v) → Tch [b] w w' → K w') : RunU P (Instr.mapUpdate t (.map (some b)) (.agg xs.toArray) v) w K := by
  cases hno : mGet es xs with
  | none => exact T.upd h hf hx hno fun w' h1 h2 => hK w' (by rw [mPut_none hno]; exact h1) h2
  | some u =>
    obtain ⟨arr, clock, hb, hl, he⟩ := h
    rcases T.find hx w hl he hf with ⟨h1, _⟩ | ⟨j, v', h1, h2, h3, _, h5, h6⟩
    · rw [hno] at h1; cases h1
    · have hjm : arr.toList[j]? = some (arr.toList[j]'h3) := List.getElem?_eq_getElem h3
      have hje := he j _ _ hjm h5
      have hkey : ((arr[j]?).map (·.key)).getD (.agg xs.toArray) = .agg xs.toArray := by
        rw [← Array.getElem?_toList, hjm]
        exact hje.1
      have hsb : Instr.sameBits 10000 (.agg xs.toArray) (.agg xs.toArray) = true := by
        show (xs.toArray.size == xs.toArray.size && (xs.toArray.toList.zip xs.toArray.toList).all fun (x, y) => Instr.sameBits 9999 x y) = true
        rw [List.toList_toArray, sameBits_flat hx]
        simp
      have hks : (Instr.keyThatStays (.agg xs.toArray) (.agg xs.toArray)).run P w = .ok (.agg xs.toArray) w := by
        unfold Instr.keyThatStays
        rw [if_pos hsb]
        rfl
      refine ⟨_, by simp [Instr.mapUpdate, run_underlying T.map, MapKept.run_getObj_map hb, T.check hx, h2, hkey, hks, MapKept.run_setObj_map _ hb, Result.andThen], hK _ ⟨arr.modify j fun e => { e with key := .agg xs.toArray, val := v }, clock, (MapKept.heap_set hb).1, ?_, ?_⟩ tch_put⟩
      · rw [h6, List.length_set, ← hl]; simp
      · intro i m e hm hi
        rw [h6, List.getElem?_set] at hi
        rw [Array.getElem?_toList, Array.getElem?_modify] at hm
        by_cases hij : j = i
        · rw [if_pos hij] at hi hm
          split at hi
          · cases hi
            rw [Option.map_eq_some_iff] at hm
            obtain ⟨m0, _, rfl⟩ := hm
            exact ⟨rfl, rfl⟩
          · cases hi
        · rw [if_neg hij] at hi hm
          exact he i m e (by rw [Array.getElem?_toList]; exact hm) hi
theorem erase_get {α : Type} {l : List α} {j i : Nat} {x : α} (h : (l.eraseIdx j)[i]? = some x) : l[if i < j then i else i + 1]? = some x := by
  rw [List.getElem?_eraseIdx] at h
  split at h
  · rename_i hlt; rw [if_pos hlt]; exact h
  · rename_i hlt; rw [if_neg hlt]; exact h
/-- An entry goes. -/
theorem MapT.del (T : MapT P t kt et d ks) {w : World} {b : Nat} {ty : TypeId} {es : Ents} (h : MapAt w b es) (hf : ∀ e ∈ es, Fits ks e.1) {xs : List Value} (hx : Fits ks xs) {K : Value → World → Prop}
    (hK : ∀ w', MapAt w' b (mDel es xs) → Tch [b] w w' → K (.tuple #[]) w') : RunV P (Builtin.delete_ #[t, kt] ty #[.map (some b), .agg xs.toArray]) w K := by
  obtain ⟨arr, clock, hb, hl, he⟩ := h
  rcases T.find hx w hl he hf with ⟨h1, h2, h3⟩ | ⟨j, v, h1, h2, h3, h4, _⟩
  · refine ⟨.tuple #[], _, by simp [Builtin.delete_, run_underlying T.map, MapKept.run_getObj_map hb, T.check hx, h2, MapKept.run_setObj_map _ hb, Result.andThen], hK _ ⟨arr, clock, (MapKept.heap_set hb).1, ?_⟩ tch_put⟩
    rw [h3]
    exact ⟨hl, he⟩
  · refine ⟨.tuple #[], _, by simp [Builtin.delete_, run_underlying T.map, MapKept.run_getObj_map hb, T.check hx, h2, MapKept.run_setObj_map _ hb, Result.andThen], hK _ ⟨arr.eraseIdxIfInBounds j, clock, (MapKept.heap_set hb).1, ?_⟩ tch_put⟩
    rw [h4]
    have e : (arr.eraseIdxIfInBounds j).toList = arr.toList.eraseIdx j := by simp
    rw [e]
    refine ⟨by rw [List.length_eraseIdx, List.length_eraseIdx, hl], fun i m e hm hi => he _ m e (erase_get hm) (erase_get hi)⟩
end
end Go.Proofs.YtjchneebdlncfaaDoor.Den
namespace Go.Proofs.YtjchneebdlncfaaDoor.Lib
open Go Den Fn
open Go.RowKit (Below)
open Classical
set_option maxRecDepth 8000
set_option maxHeartbeats 1000000
theorem iT : slT Tryd.prog 73 2 1 8 = true := by kernel_rfl
theorem equal_c (w : World) (xs ys : List Int) (a b : Option Addr) (n c m mc : Nat) (hx : RSl w 1 a n c (u8 xs)) (hy : RSl w 1 b m mc (u8 ys)) (hN : n ≤ 140737488351232) :
    Calls Tryd.prog 101 #[.slice a n c, .slice b m mc] w fun e w' => e = .returned (.bool (decide (xs = ys))) ∧ Tch [] w w' := by
  have hn := u8_len hx
  have hm := u8_len hy
  refine c101 _ _ _ _ _ _ ?_
  unfold d101
  by_cases he : n = m
  · subst he
    rw [bif_npos rfl]
    refine ⟨fun q x w' => ∃ k : Nat, k ≤ n ∧ x = k ∧ q = n - k ∧ xs.take k = ys.take k ∧ Tch [] w w', ⟨n, 0, by omega, rfl, rfl, rfl, Tch.refl _ _⟩, ?_⟩
    rintro q w4 x ⟨k, hk, rfl, rfl, htk, ht⟩
    by_cases hlt : k < n
    · rw [bif_pos (by omega)]
      rintro w6 rfl
      obtain ⟨b1, o1, rfl, g1⟩ := (hx.below ht.drew.below).int (i := k) hlt
      obtain ⟨b2, o2, rfl, g2⟩ := (hy.below ht.drew.below).int (i := k) hlt
      simp only [optK, add_mk, Nat.mul_one, Int.toNat_natCast]
      refine ⟨by omega, by omega, _, g1, by omega, by omega, _, g2, ?_⟩
      by_cases hd : xs.getD k 0 = ys.getD k 0
      · rw [bif_npos hd, wrap_i64 (by omega) (by omega)]
        refine ⟨n - (k + 1), by omega, k + 1, by omega, by omega, rfl, ?_, ht.drew⟩
        rw [List.take_succ_eq_append_getElem (by omega), List.take_succ_eq_append_getElem (by omega), htk]
        have h1 : k < xs.length := by omega
        have h2 : k < ys.length := by omega
        simp only [List.getD_eq_getElem?_getD, List.getElem?_eq_getElem h1, List.getElem?_eq_getElem h2, Option.getD_some] at hd
        rw [hd]
      · rw [bif_nneg hd]
        refine ⟨?_, ht.drew⟩
        rw [decide_eq_false fun e => hd (by rw [e])]
    · rw [bif_neg (by omega)]
      have : k = n := by omega
      subst this
      rw [List.take_of_length_le (by omega), List.take_of_length_le (by omega)] at htk
      exact ⟨by rw [decide_eq_true htk], ht⟩
  · rw [bif_nneg (by omega)]
    exact ⟨by rw [decide_eq_false fun e => he (by rw [← hn, ← hm, e])], Tch.refl _ _⟩
theorem own_empty' (w : World) (T : TypeId) (sz : Nat) : (w.alloc (.cells #[] T)).ownsRow w.heap.size T sz (.slice (some ⟨w.heap.size, 0, none⟩) 0 0) 0 [] :=
  (BlkT.new w #[] T).own (Nat.le_refl _) (by simp) (by omega)
theorem rsl_none {w : World} {sz n c : Nat} {cs : List Value} (h : RSl w sz none n c cs) : n = 0 ∧ cs = [] := by
  have hn : n = 0 := by
    rcases h.at' with h' | ⟨b, o, h', _⟩
    · have := h.cap; omega
    · cases h'
  refine ⟨hn, ?_⟩
  have := h.len
  rw [hn, Nat.zero_mul] at this
  exact List.length_eq_zero_iff.1 this
theorem cloneI_c (w : World) (l : List Value) (a : Option Addr) (n c : Nat) (hr : RSl w 1 a n c l) (hN : n ≤ 1000000) :
    Calls Tryd.prog 102 #[.slice a n c] w fun e w' => ∃ a' c', e = .returned (.slice a' n c') ∧ w'.ownsRow w.heap.size 2 1 (.slice a' n c') n l ∧ Tch [] w w' := by
  refine c102 _ _ _ ?_
  unfold d102
  cases a with
  | none =>
    obtain ⟨rfl, rfl⟩ := rsl_none hr
    exact ⟨none, 0, rfl, own_nil _ _ _ _, Tch.refl _ _⟩
  | some x =>
    show ∀ _, _
    rintro w1 rfl
    have ht := (Tch.refl [] w).alloc (.cells #[] 2)
    refine app_at iT (own_empty' w _ _) (hr.tch ht (fun _ _ h => by cases h)) (by rw [size_alloc]; omega) (by omega) (by omega) fun a' c' w' h1 h2 h3 => ?_
    rw [Nat.zero_add, List.nil_append] at h1
    rw [Nat.zero_add]
    exact ⟨a', c', rfl, h1, ht.trans h2 fun i hi => .inr (by simp [rowL] at hi; omega)⟩
theorem cloneK_c (w : World) (l : List Value) (a : Option Addr) (n c : Nat) (hr : RSl w 2 a n c l) (hN : n ≤ 1000000) :
    Calls Tryd.prog 103 #[.slice a n c] w fun e w' => ∃ a' c', e = .returned (.slice a' n c') ∧ w'.ownsRow w.heap.size 129 2 (.slice a' n c') n l ∧ Tch [] w w' := by
  refine c103 _ _ _ ?_
  unfold d103
  cases a with
  | none =>
    obtain ⟨rfl, rfl⟩ := rsl_none hr
    exact ⟨none, 0, rfl, own_nil _ _ _ _, Tch.refl _ _⟩
  | some x =>
    show ∀ _, _
    rintro w1 rfl
    have ht := (Tch.refl [] w).alloc (.cells #[] 129)
    refine app_at kT (own_empty' w _ _) (hr.tch ht (fun _ _ h => by cases h)) (by rw [size_alloc]; omega) (by omega) (by omega) fun a' c' w' h1 h2 h3 => ?_
    rw [Nat.zero_add, List.nil_append] at h1
    rw [Nat.zero_add]
    exact ⟨a', c', rfl, h1, ht.trans h2 fun i hi => .inr (by simp [rowL] at hi; omega)⟩
/-- Small enough to be copied. -/
def Small (l : List Tx) : Prop := l.length ≤ 100000 ∧ ∀ x ∈ l, x.args.length ≤ 100000 ∧ x.reads.length ≤ 100000 ∧ x.writes.length ≤ 100000
theorem Small.of_good {l : List Tx} (h : l.length ≤ 64 ∧ ∀ x ∈ l, Good x) : Small l := ⟨by omega, fun x hx => by
  obtain ⟨_, h1, h2, h3, _⟩ := h.2 x hx
  omega⟩
/-- What lies between two sizes. -/
def Btw (A B k : Nat) : Prop := A ≤ k ∧ k < B
theorem copied_c {F : Nat → Prop} (w : World) (a : Option Addr) (n c : Nat) (l : List Tx) (h : BatchV F w a n c l) (hs : Small l) :
    Calls Tryd.prog 88 #[.slice a n c] w fun e w' => ∃ a' c', e = .returned (.slice a' n c') ∧ BatchV (Btw w.heap.size w'.heap.size) w' a' n c' l ∧ Tch [] w w' := by
  have hn := h.count
  refine c88 _ _ _ ?_
  unfold d88
  generalize hB : w.heap.size = B
  refine ⟨fun m x k c i u => ∃ (q : Nat) (vs : List (List Value)), i = q ∧ q ≤ n ∧ m = n - q ∧ k = q ∧ vs.length = q ∧ u.ownsRow B 76 4 (.slice x k c) k vs.flatten ∧
    (∀ (i : Nat) (v : List Value) (y : Tx), vs[i]? = some v → l[i]? = some y → TxV (fun k => Btw B u.heap.size k ∧ k ∉ rowL x) u v y) ∧ Tch [] w u, ⟨n, 0, [], rfl, by omega, rfl, rfl, rfl, own_nil _ _ _ _, by simp, Tch.refl _ _⟩, ?_⟩
  rintro m w3 x k xc i ⟨q, vs, rfl, hq, rfl, rfl, hvl, hown, hvs, ht⟩
  have hBs : B ≤ w3.heap.size := by rw [← hB]; exact ht.size
  have hrow3 : ∀ i ∈ rowL x, i < w3.heap.size := fun i hi => (rowL_ge hown i hi).2
  by_cases hlt : k < n
  rotate_left
  · rw [bif_neg (by omega)]
    obtain rfl : k = n := by omega
    have hlens := BatchV.lens (F := fun k => Btw B w3.heap.size k ∧ k ∉ rowL x) (w := w3) (l := l) (vs := vs) (by omega) hvs
    refine ⟨x, xc, rfl, ⟨vs, by omega, ?_, fun i v y h1 h2 => (hvs i v y h1 h2).mono fun _ h => h.1⟩, ht⟩
    refine (FR.own hown ?_).mono fun _ h => h
    intro u hu
    obtain ⟨v, hv, hu⟩ := List.mem_flatten.1 hu
    obtain ⟨i, hi⟩ := List.getElem?_of_mem hv
    have hil := (List.getElem?_eq_some_iff.1 hi).1
    exact (hvs i v (l[i]'(by omega)) hi (List.getElem?_eq_getElem (by omega))).ones u hu
  rw [bif_pos (by omega)]
  refine ⟨by omega, by omega, ?_⟩
  rw [Int.toNat_natCast]
  have hli : l[k]? = some (l[k]'(by omega)) := List.getElem?_eq_getElem (by omega)
  generalize l[k]'(by omega) = y at hli
  obtain ⟨s1, s2, s3⟩ := hs.2 y (List.mem_of_getElem? hli)
  have hs0 := hs.1
  refine h.elemW ht hli fun v hv => ?_
  refine var_init (n := 4) (by rw [zcTx]; rfl) hv.len hv.ones fun w8 w9 h1 h2 h3 => ?_
  rintro w10 rfl
  replace h1 := h1.tch ((Tch.refl [] w9).drew) (by simp)
  replace h2 := h2.drew
  have hs10 : w9.drew.heap.size = w9.heap.size := rfl
  generalize w9.drew = w10 at *
  obtain ⟨a1, n1, c1, a2, n2, c2, a3, n3, c3, rfl, k1, k2, k3, hyo⟩ := hv
  have e1 := args_count k1
  have e2 := keys_count k2
  have e3 := keys_count k3
  generalize w3.heap.size = xb at *
  have t10 := ht.trans h2 (by simp)
  refine ⟨y.proc, by rw [add_mk]; exact h1.cell 0, a1, n1, c1, by rw [add_mk]; exact h1.cell 1, a2, n2, c2, by rw [add_mk]; exact h1.cell 2, a3, n3, c3, by rw [add_mk]; exact h1.cell 3, ?_⟩
  refine (cloneI_c w10 _ a1 n1 c1 (k1.tch t10 (by simp)).1 (by omega)).mono ?_
  rintro e w16 ⟨b1, d1, rfl, o1, t1⟩
  replace h1 := h1.tch t1 (by simp)
  have t16 := t10.trans t1 (by simp)
  have q1 := t1.size
  refine ⟨_, _, _, rfl, ⟨a3, n3, c3, by rw [add_mk]; exact h1.cell 3, rfl, rfl⟩, ⟨a2, n2, c2, by rw [add_mk]; exact h1.cell 2, rfl, rfl⟩, ⟨y.proc, by rw [add_mk]; exact h1.cell 0, rfl, rfl⟩, ?_⟩
  refine (cloneK_c w16 _ a2 n2 c2 (k2.tch t16 (by simp)).1 (by omega)).mono ?_
  rintro e w22 ⟨b2, d2, rfl, o2, t2⟩
  replace h1 := h1.tch t2 (by simp)
  have t22 := t16.trans t2 (by simp)
  have q2 := t2.size
  replace o1 := own_up o1 t2 (fun _ _ h => by cases h)
  refine ⟨_, _, _, rfl, ⟨a3, n3, c3, by rw [add_mk]; exact h1.cell 3, rfl, rfl⟩, ⟨y.proc, by rw [add_mk]; exact h1.cell 0, rfl, rfl⟩, ?_⟩
  refine (cloneK_c w22 _ a3 n3 c3 (k3.tch t22 (by simp)).1 (by omega)).mono ?_
  rintro e w27 ⟨b3, d3, rfl, o3, t3⟩
  replace h1 := h1.tch t3 (by simp)
  have t27 := t22.trans t3 (by simp)
  have q3 := t3.size
  replace o1 := own_up o1 t3 (fun _ _ h => by cases h)
  replace o2 := own_up o2 t3 (fun _ _ h => by cases h)
  refine ⟨_, _, _, rfl, ⟨y.proc, by rw [add_mk]; exact h1.cell 0, rfl, rfl⟩, ?_⟩
  have tq : Tch [] w3 w27 := ((h2.trans t1 (by simp)).trans t2 (by simp)).trans t3 (by simp)
  replace hown := own_up hown tq (fun _ _ h => by cases h)
  have hrow := rowL_ge hown
  refine ⟨[.int .i64 y.proc, .slice b1 n1 d1, .slice b2 n2 d2, .slice b3 n3 d3], by rw [zcTx]; rfl, ?_⟩
  refine app_elem_at txT hown (by rw [zcTx]; rfl) (ys := [.int .i64 y.proc, .slice b1 n1 d1, .slice b2 n2 d2, .slice b3 n3 d3]) rfl rfl (by simp [one]) (by omega) (by omega) (by omega) fun a5 c5 w34 o5 t5 m5 => ?_
  have q5 := t5.size
  refine ⟨n - (k + 1), by omega, k + 1, vs ++ [[.int .i64 y.proc, .slice b1 n1 d1, .slice b2 n2 d2, .slice b3 n3 d3]], by rw [wrap_i64 (by omega) (by omega)]; omega, by omega, rfl, rfl, by simp [hvl], by simpa using o5, ?_, t27.trans t5 fun i hi => .inr (by have := (hrow i hi).1; omega)⟩
  have moved : ∀ {z : Nat}, z ∉ rowL x → z < w27.heap.size → z ∉ rowL a5 := fun hz hlt hm => by
    rw [mem_rowL] at hm
    obtain ⟨ad, rfl, rfl⟩ := hm
    rcases m5 ad rfl with h | h
    · exact hz h
    · omega
  have keep : ∀ {P : Nat → Prop} {sz : Nat} {a : Option Addr} {n c : Nat} {cs : List Value}, FR P w27 sz a n c cs → (∀ z, P z → Btw B w27.heap.size z ∧ z ∉ rowL x) → FR (fun z => Btw B w34.heap.size z ∧ z ∉ rowL a5) w34 sz a n c cs := fun hfr hP =>
    (hfr.tch t5 fun z hz hp => (hP z hp).2 hz).mono fun z hp => ⟨⟨(hP z hp).1.1, by have := (hP z hp).1.2; omega⟩, moved (hP z hp).2 (hP z hp).1.2⟩
  intro i v z hv hz
  rw [List.getElem?_append] at hv
  split at hv
  · rename_i hil
    obtain ⟨x1, m1, g1, x2, m2, g2, x3, m3, g3, rfl, r1, r2, r3, ro⟩ := hvs i v z hv hz
    have hP : ∀ z, (Btw B xb z ∧ z ∉ rowL x) → Btw B w27.heap.size z ∧ z ∉ rowL x := fun z h => ⟨⟨h.1.1, by have := h.1.2; omega⟩, h.2⟩
    exact ⟨x1, m1, g1, x2, m2, g2, x3, m3, g3, rfl, keep (r1.tch tq (by simp)) hP, keep (r2.tch tq (by simp)) hP, keep (r3.tch tq (by simp)) hP, ro⟩
  · rename_i hil
    by_cases h0 : i - vs.length = 0
    rotate_left
    · rw [List.getElem?_eq_none (by show 1 ≤ _; omega)] at hv
      cases hv
    rw [h0] at hv
    cases hv
    rw [show i = k by omega, hli] at hz
    cases hz
    have hnew : ∀ {A B' : Nat}, xb ≤ A → B' ≤ w27.heap.size → ∀ z, (A ≤ z ∧ z < B') → Btw B w27.heap.size z ∧ z ∉ rowL x := fun hA hB' z hz => ⟨⟨by omega, by omega⟩, fun hm => by have := hrow3 z hm; omega⟩
    exact ⟨b1, n1, d1, b2, n2, d2, b3, n3, d3, rfl, keep (FR.own o1 ones_ints) (hnew (by omega) (by omega)), keep (FR.own o2 kCs_one) (hnew (by omega) (by omega)), keep (FR.own o3 kCs_one) (hnew (by omega) (by omega)), hyo⟩
theorem same_c {F G : Nat → Prop} (w : World) (a b : Option Addr) (n c m mc : Nat) (l k : List Tx) (h : BatchV F w a n c l) (g : BatchV G w b m mc k) (h0 : (encB l).2 = 0) (g0 : (encB k).2 = 0) :
    Calls Tryd.prog 87 #[.slice a n c, .slice b m mc] w fun e w' => e = .returned (.bool (decide (l = k))) ∧ Tch [] w w' := by
  refine c87 _ _ _ _ _ _ ?_
  unfold d87
  refine (encode_c w a n c l h).mono ?_
  rintro e w3 ⟨xa, xc, rfl, ho, ht⟩
  refine ⟨_, _, _, _, rfl, _, _, _, rfl, _, rfl, ?_⟩
  refine (encode_c w3 b m mc k (g.quiet ht)).mono ?_
  rintro e w9 ⟨ya, yc, rfl, ho2, ht2⟩
  refine ⟨_, _, _, _, rfl, _, _, _, rfl, _, rfl, ?_⟩
  have hl := (encB_zero l).1 h0
  have hlen : (encB l).1.length ≤ 140737488351232 := by
    rw [encB_good hl]
    have h1 := (uv_len10 (n := l.length) (by omega)).2
    have h2 := encTxs_len h.ok hl.2
    simp only [List.length_append]
    omega
  refine (equal_c w9 _ _ xa ya _ xc _ yc ((own_rsl ho ones_ints).tch ht2 (fun _ _ h => by cases h)) (own_rsl ho2 ones_ints) hlen).mono ?_
  rintro e w14 ⟨rfl, ht3⟩
  refine ⟨_, rfl, ?_, (ht.trans ht2 (by simp)).trans ht3 (by simp)⟩
  congr 2
  rw [decide_eq_decide]
  exact ⟨fun he => encB_inj h.ok g.ok h0 g0 he, fun he => by rw [he]⟩
def Ep (n : Int) : Prop := 1 ≤ n ∧ n ≤ 1099511627776
instance (n : Int) : Decidable (Ep n) := by unfold Ep; infer_instance
theorem epoch_c (n : Int) (w : World) : Calls Tryd.prog 64 #[.int .i64 n] w fun e w' => e = .returned (.bool (decide (Ep n))) ∧ w' = w := by
  refine c64 _ ?_
  unfold d64
  by_cases h : 1 ≤ n
  · rw [bif_pos h]
    refine ⟨?_, rfl⟩
    congr 2
    rw [decide_eq_decide]
    unfold Ep
    omega
  · rw [bif_neg h]
    exact ⟨by rw [decide_eq_false fun he => h he.1], rfl⟩
end Go.Proofs.YtjchneebdlncfaaDoor.Lib
namespace Go.Proofs.YtjchneebdlncfaaDoor.Lib
open Go Den Fn
open Go.RowKit (Below)
open Classical
set_option maxRecDepth 8000
set_option maxHeartbeats 1000000
abbrev Pcs := List ((Int × Int) × List Tx)
structure Mg where
  k : Int
  e : Int
  top : Int
  ps : Pcs
noncomputable def pGet : Pcs → Int × Int → Option (List Tx)
  | [], _ => none
  | q :: r, k => if q.1 = k then some q.2 else pGet r k
noncomputable def pDel : Pcs → Int × Int → Pcs
  | [], _ => []
  | q :: r, k => if q.1 = k then r else q :: pDel r k
abbrev wFK : List FK := [.int .i64, .int .i64]
theorem mapT : MapT Tryd.prog 155 59 35 6 wFK := ⟨by kernel_rfl, by kernel_rfl, by kernel_rfl⟩
theorem zeroTxs (w : World) : (zeroValue 35).run Tryd.prog w = .ok (.slice none 0 0) w := by
  have hz : (Tryd.prog.info? 35).map (·.zero) = some (some (.slice none 0 0)) := by kernel_rfl
  obtain ⟨j, hj, hz'⟩ := Option.map_eq_some_iff.1 hz
  simp [zeroValue, hj, hz', typeInfo]
theorem zcWant : zc Tryd.prog 59 = kC (0, 0) := by kernel_rfl
theorem want_fits {k : Int × Int} (h : kI k) : Fits wFK (kC k) := key_fits h
/-- A map's entries as pieces. -/
def EntAt (F : Nat → Prop) (w : World) (x : List Value × Value) (q : (Int × Int) × List Tx) : Prop := x.1 = kC q.1 ∧ kI q.1 ∧ ∃ a n c, x.2 = .slice a n c ∧ BatchV F w a n c q.2
def PsAt (F : Nat → Prop) (w : World) : Ents → Pcs → Prop
  | [], [] => True
  | x :: es, q :: ps => EntAt F w x q ∧ PsAt F w es ps
  | _, _ => False
section
variable {F G : Nat → Prop} {w w' : World} {s : List Nat}
theorem EntAt.tch {x : List Value × Value} {q : (Int × Int) × List Tx} (h : EntAt F w x q) (ht : Tch s w w') (hs : ∀ k ∈ s, ¬ F k) : EntAt F w' x q := by
  obtain ⟨h1, h2, a, n, c, h3, h4⟩ := h
  exact ⟨h1, h2, a, n, c, h3, h4.tch ht hs⟩
theorem EntAt.mono {x : List Value × Value} {q : (Int × Int) × List Tx} (h : EntAt F w x q) (hFG : ∀ k, F k → G k) : EntAt G w x q := by
  obtain ⟨h1, h2, a, n, c, h3, h4⟩ := h
  exact ⟨h1, h2, a, n, c, h3, h4.mono hFG⟩
theorem PsAt.tch (ht : Tch s w w') (hs : ∀ k ∈ s, ¬ F k) : ∀ {es : Ents} {ps : Pcs}, PsAt F w es ps → PsAt F w' es ps
  | [], [], _ => trivial
  | [], _ :: _, h => h.elim
  | _ :: _, [], h => h.elim
  | _ :: _, _ :: _, h => ⟨h.1.tch ht hs, PsAt.tch ht hs h.2⟩
theorem PsAt.mono (hFG : ∀ k, F k → G k) : ∀ {es : Ents} {ps : Pcs}, PsAt F w es ps → PsAt G w es ps
  | [], [], _ => trivial
  | [], _ :: _, h => h.elim
  | _ :: _, [], h => h.elim
  | _ :: _, _ :: _, h => ⟨h.1.mono hFG, PsAt.mono hFG h.2⟩
theorem PsAt.fits : ∀ {es : Ents} {ps : Pcs}, PsAt F w es ps → ∀ e ∈ es, Fits wFK e.1
  | [], _, _, _, h => by cases h
  | _ :: _, [], h, _, _ => h.elim
  | x :: es, q :: ps, h, e, he => by
    rcases List.mem_cons.1 he with rfl | he
    · rw [h.1.1]; exact want_fits h.1.2.1
    · exact PsAt.fits h.2 e he
theorem PsAt.get (k : Int × Int) : ∀ {es : Ents} {ps : Pcs}, PsAt F w es ps → (pGet ps k = none ∧ mGet es (kC k) = none) ∨ ∃ l a n c, pGet ps k = some l ∧ mGet es (kC k) = some (.slice a n c) ∧ BatchV F w a n c l
  | [], [], _ => .inl ⟨rfl, rfl⟩
  | [], _ :: _, h => h.elim
  | _ :: _, [], h => h.elim
  | x :: es, q :: ps, h => by
    obtain ⟨⟨h1, h2, a, n, c, h3, h4⟩, hr⟩ := h
    by_cases hq : q.1 = k
    · refine .inr ⟨q.2, a, n, c, by simp [pGet, hq], ?_, h4⟩
      unfold mGet
      rw [if_pos (by rw [h1, hq]), h3]
    · have hne : x.1 ≠ kC k := fun he => hq (kC_inj.1 (h1.symm.trans he))
      rcases PsAt.get k hr with ⟨g1, g2⟩ | ⟨l, a, n, c, g1, g2, g3⟩
      · refine .inl ⟨by simp [pGet, hq, g1], ?_⟩
        unfold mGet
        rw [if_neg hne, g2]
      · refine .inr ⟨l, a, n, c, by simp [pGet, hq, g1], ?_, g3⟩
        unfold mGet
        rw [if_neg hne, g2]
theorem PsAt.push {x : List Value × Value} {q : (Int × Int) × List Tx} (hx : EntAt F w x q) : ∀ {es : Ents} {ps : Pcs}, PsAt F w es ps → PsAt F w (es ++ [x]) (ps ++ [q])
  | [], [], _ => ⟨hx, trivial⟩
  | [], _ :: _, h => h.elim
  | _ :: _, [], h => h.elim
  | _ :: _, _ :: _, h => ⟨h.1, PsAt.push hx h.2⟩
theorem PsAt.del (k : Int × Int) : ∀ {es : Ents} {ps : Pcs}, PsAt F w es ps → PsAt F w (mDel es (kC k)) (pDel ps k)
  | [], [], _ => trivial
  | [], _ :: _, h => h.elim
  | _ :: _, [], h => h.elim
  | x :: es, q :: ps, h => by
    unfold mDel pDel
    by_cases hq : q.1 = k
    · rw [if_pos (by rw [h.1.1, hq]), if_pos hq]; exact h.2
    · rw [if_neg fun he => hq (kC_inj.1 (h.1.1.symm.trans he)), if_neg hq]
      exact ⟨h.1, PsAt.del k h.2⟩
end
/-- A merger at a block, its map at another; its pieces lie among F. -/
structure MgAt (F : Nat → Prop) (w : World) (mb pb : Nat) (g : Mg) : Prop where
  blk : Blk w mb [.int .i64 g.k, .int .i64 g.e, .int .i64 g.top, .map (some pb)]
  map : ∃ es, MapAt w pb es ∧ PsAt F w es g.ps
  ne : mb ≠ pb
  nF : ¬ F mb ∧ ¬ F pb
  k : 1 ≤ g.k ∧ g.k ≤ 16
  e : 1 ≤ g.e ∧ g.e ≤ 1099511627777
  top : 0 ≤ g.top ∧ g.top ≤ 1099511627776 ∧ g.top < g.e + 64
  good : ∀ q ∈ g.ps, (encB q.2).2 = 0 ∧ kI q.1
section
variable {F G : Nat → Prop} {w w' : World} {s : List Nat} {mb pb : Nat} {g : Mg}
theorem MgAt.tch (h : MgAt F w mb pb g) (ht : Tch s w w') (hm : mb ∉ s) (hp : pb ∉ s) (hs : ∀ k ∈ s, ¬ F k) : MgAt F w' mb pb g := by
  obtain ⟨es, h1, h2⟩ := h.map
  exact ⟨h.blk.tch ht hm, ⟨es, h1.tch ht hp, h2.tch ht hs⟩, h.ne, h.nF, h.k, h.e, h.top, h.good⟩
theorem MgAt.quiet (h : MgAt F w mb pb g) (ht : Tch [] w w') : MgAt F w' mb pb g := h.tch ht (by simp) (by simp) (by simp)
theorem MgAt.mono (h : MgAt F w mb pb g) (hFG : ∀ k, F k → G k) (hG : ¬ G mb ∧ ¬ G pb) : MgAt G w mb pb g := by
  obtain ⟨es, h1, h2⟩ := h.map
  exact ⟨h.blk, ⟨es, h1, h2.mono hFG⟩, h.ne, hG, h.k, h.e, h.top, h.good⟩
theorem MgAt.lt (h : MgAt F w mb pb g) : mb < w.heap.size ∧ pb < w.heap.size := ⟨h.blk.lt, h.map.elim fun _ h => h.1.lt⟩
theorem MgAt.cell (h : MgAt F w mb pb g) (i : Nat) : w.cell? (Addr.add ⟨mb, 0, none⟩ i) = ([.int .i64 g.k, .int .i64 g.e, .int .i64 g.top, .map (some pb)] : List Value)[i]? := by
  rw [add_mk, Nat.zero_add]; exact h.blk.cell i
end
theorem zcMerger : zc Tryd.prog 157 = [.int .i64 0, .int .i64 0, .int .i64 0, .map none] := by kernel_rfl
theorem new_mg_c (w : World) (k e : Int) (hk : 1 ≤ k ∧ k ≤ 16) (he : Ep e) :
    Calls Tryd.prog 54 #[.int .i64 k, .int .i64 e] w fun en w' => ∃ mb pb, en = .returned (.tuple #[.pointer (some ⟨mb, 0, none⟩), .int .i64 0]) ∧ MgAt (fun _ => False) w' mb pb ⟨k, e, 0, []⟩ ∧ Tch [] w w' ∧ w.heap.size ≤ mb ∧ w.heap.size ≤ pb := by
  refine c54 _ _ ?_
  unfold d54
  refine ⟨fun u => u = w, ?_, ?_⟩
  · rw [bif_neg (by omega), bif_neg (by omega)]
  rintro w3 rfl
  refine (epoch_c e w3).mono ?_
  rintro en w5 ⟨rfl, rfl⟩
  refine ⟨_, rfl, ?_⟩
  rw [bif_npos he]
  rintro w7 rfl
  refine ⟨[.int .i64 k, .int .i64 e, .int .i64 0, .map (some w5.heap.size)], by rw [zcMerger]; rfl, ?_⟩
  rintro w9 rfl
  have t1 := (Tch.refl [] w5).alloc (.map #[] 0)
  have s1 := size_alloc w5 (.map #[] 0)
  have hm := MapAt.new w5
  generalize w5.alloc (.map #[] 0) = w7 at *
  have t2 := (Tch.refl [] w7).alloc (.cells [Value.int .i64 k, .int .i64 e, .int .i64 0, .map (some w5.heap.size)].toArray 157)
  unfold Ep at he
  exact ⟨_, w5.heap.size, rfl, ⟨Blk.fresh _ _ rfl, ⟨[], hm.tch t2 (by simp), trivial⟩, by omega, ⟨id, id⟩, hk, by simp only; omega, by simp only; omega, by simp⟩, t1.trans t2 (by simp), by omega, by omega⟩
theorem epochOf_c {F : Nat → Prop} (w : World) (mb pb : Nat) (g : Mg) (h : MgAt F w mb pb g) : Calls Tryd.prog 58 #[.pointer (some ⟨mb, 0, none⟩)] w fun en w' => en = .returned (.int .i64 g.e) ∧ w' = w := by
  refine c58 _ ?_
  unfold d58
  exact ⟨g.e, h.cell 1, rfl, rfl⟩
/-- What Take does. -/
noncomputable def takeS (g : Mg) (i e : Int) (l : List Tx) : Mg × Int :=
  if i < 0 ∨ g.k ≤ i then (g, 261)
  else if ¬ Ep e ∨ g.e + 64 ≤ e then (g, 262)
  else if (encB l).2 ≠ 0 then (g, (encB l).2)
  else if e < g.e then (g, 0)
  else match pGet g.ps (i, e) with
    | some was => (g, if was = l then 0 else 263)
    | none => (⟨g.k, g.e, if e > g.top then e else g.top, g.ps ++ [((i, e), l)]⟩, 0)
theorem pGet_mem {ps : Pcs} {k : Int × Int} {l : List Tx} : pGet ps k = some l → (k, l) ∈ ps := by
  induction ps with
  | nil => intro h; cases h
  | cons q r ih =>
    intro h
    unfold pGet at h
    split at h
    · rename_i hq
      cases h
      rw [← hq]; simp
    · exact List.mem_cons_of_mem _ (ih h)
theorem take_c {F G : Nat → Prop} (w : World) (mb pb : Nat) (g : Mg) (h : MgAt F w mb pb g) (i e : Int) (a : Option Addr) (n c : Nat) (l : List Tx) (hB : BatchV G w a n c l) (hi : I64 i) (he : I64 e) :
    Calls Tryd.prog 56 #[.pointer (some ⟨mb, 0, none⟩), .agg [Value.int .i64 i, .int .i64 e, .slice a n c].toArray] w fun en w' => en = .returned (.int .i64 (takeS g i e l).2) ∧
      MgAt (fun k => F k ∨ Btw w.heap.size w'.heap.size k) w' mb pb (takeS g i e l).1 ∧ Tch [mb, pb] w w' := by
  obtain ⟨hmb, hpb⟩ := h.lt
  have hk := h.k
  have hge := h.e
  have stay : ∀ {u : World} {x : Int}, Tch [] w u → (Ending.returned (.int .i64 x) = .returned (.int .i64 x) ∧ MgAt (fun k => F k ∨ Btw w.heap.size u.heap.size k) u mb pb g ∧ Tch [mb, pb] w u) := fun ht =>
    ⟨rfl, (h.quiet ht).mono (fun _ h => .inl h) ⟨fun hh => hh.elim h.nF.1 fun hh => by have := hh.1; omega, fun hh => hh.elim h.nF.2 fun hh => by have := hh.1; omega⟩, ht.weaken (by simp)⟩
  refine c56 _ _ ?_
  unfold d56
  rintro w2 rfl
  have hS := (St.refl w []).new [.int .i64 i, .int .i64 e, .slice a n c] 37 rfl
  generalize w.alloc (.cells [Value.int .i64 i, .int .i64 e, .slice a n c].toArray 37) = w2 at *
  generalize hab : w.heap.size = ab at *
  have ac : ∀ {u : World} (q : Nat), St w [] u [fBlk ab [.int .i64 i, .int .i64 e, .slice a n c]] → u.cell? (Addr.add ⟨ab, 0, none⟩ q) = ([.int .i64 i, .int .i64 e, .slice a n c] : List Value)[q]? := fun q hS => by
    rw [add_mk, Nat.zero_add]; exact (hS.blk (List.mem_singleton.2 rfl)).cell q
  unfold takeS
  refine ⟨fun u => ¬ (i < 0 ∨ g.k ≤ i) ∧ St w [] u [fBlk ab [.int .i64 i, .int .i64 e, .slice a n c]], ?_, ?_⟩
  · rintro w4 rfl
    replace hS := hS.drew
    generalize w2.drew = w4 at *
    refine ⟨i, ac 0 hS, ?_⟩
    by_cases h1 : i < 0
    · rw [bif_pos h1, if_pos (.inl h1)]
      exact stay hS.tch
    rw [bif_neg h1]
    refine ⟨i, ac 0 hS, g.k, (h.quiet hS.tch).cell 0, ?_⟩
    by_cases h2 : g.k ≤ i
    · rw [bif_pos h2, if_pos (.inr h2)]
      exact stay hS.tch
    rw [bif_neg h2]
    exact ⟨by omega, hS⟩
  clear hS
  rintro w9 ⟨hin, hS⟩
  rw [if_neg hin]
  refine ⟨fun u => ¬ (¬ Ep e ∨ g.e + 64 ≤ e) ∧ St w [] u [fBlk ab [.int .i64 i, .int .i64 e, .slice a n c]], ?_, ?_⟩
  · rintro w11 rfl
    replace hS := hS.drew
    generalize w9.drew = w11 at *
    refine ⟨e, ac 1 hS, ?_⟩
    refine (epoch_c e w11).mono ?_
    rintro en w14 ⟨rfl, rfl⟩
    refine ⟨_, rfl, ?_⟩
    by_cases h1 : Ep e
    rotate_left
    · rw [bif_nneg h1, if_pos (.inl h1)]
      exact stay hS.tch
    rw [bif_npos h1]
    refine ⟨e, ac 1 hS, g.e, (h.quiet hS.tch).cell 1, ?_⟩
    rw [wrap_i64 (by omega) (by omega)]
    by_cases h2 : g.e + 64 ≤ e
    · rw [bif_pos h2, if_pos (.inr h2)]
      exact stay hS.tch
    rw [bif_neg h2]
    exact ⟨fun hh => by rcases hh with hh | hh; exact hh h1; exact h2 hh, hS⟩
  clear hS
  rintro w19 ⟨hep, hS⟩
  rw [if_neg hep]
  have hEp : Ep e := Classical.byContradiction fun hh => hep (.inl hh)
  refine ⟨a, n, c, ac 2 hS, ?_⟩
  refine (encode_c w19 a n c l (hB.quiet hS.tch)).mono ?_
  rintro en w22 ⟨xa, xc, rfl, ho, ht⟩
  replace hS := hS.quiet ht
  clear ho ht
  refine ⟨_, _, _, _, rfl, _, _, _, rfl, _, rfl, ?_⟩
  by_cases h0 : (encB l).2 = 0
  rotate_left
  · rw [bif_nneg h0, if_pos h0]
    exact stay hS.tch
  rw [bif_npos h0, if_neg (by simpa using h0)]
  rintro w27 rfl
  replace hS := hS.drew
  generalize w22.drew = w27 at *
  refine ⟨e, ac 1 hS, g.e, (h.quiet hS.tch).cell 1, ?_⟩
  by_cases hlt : e < g.e
  · rw [bif_pos hlt, if_pos hlt]
    exact stay hS.tch
  rw [bif_neg hlt, if_neg hlt]
  refine ⟨i, ac 0 hS, e, ac 1 hS, kC (i, e), by rw [zcWant]; rfl, ?_⟩
  refine var_init (n := 2) (by rw [zcWant]; rfl) rfl kC_one fun w34 w35 k1 k2 _ => ?_
  have hs27 := hS.size
  generalize hxb : w27.heap.size = xb at *
  replace hS := hS.quiet k2
  rintro w36 rfl
  replace hS := hS.drew
  replace k1 := k1.tch ((Tch.refl [] w35).drew) (by simp)
  generalize w35.drew = w36 at *
  have hM := h.quiet hS.tch
  refine ⟨some pb, hM.cell 3, ?_⟩
  refine get_all k1 rfl ?_
  obtain ⟨es, hes, hps⟩ := hM.map
  have hkI : kI (i, e) := ⟨hi, he⟩
  refine ⟨_, mapT.lookup zeroTxs hes hps.fits (want_fits hkI), _, rfl, ?_⟩
  rcases hps.get (i, e) with ⟨g1, g2⟩ | ⟨was, wa, wn, wc, g1, g2, g3⟩
  rotate_left
  · rw [g1, g2]
    refine ⟨wa, wn, wc, rfl, true, rfl, ?_⟩
    rw [cond_true]
    refine ⟨a, n, c, ac 2 hS, ?_⟩
    refine (same_c w36 wa a wn wc n c was l g3 (hB.quiet hS.tch) (h.good _ (pGet_mem g1)).1 h0).mono ?_
    rintro en w48 ⟨rfl, ht⟩
    refine ⟨_, rfl, ?_⟩
    by_cases hw : was = l
    · rw [bif_npos hw]
      simp only [if_pos hw]
      exact ⟨trivial, (stay (x := 0) (hS.quiet ht).tch).2⟩
    · rw [bif_nneg hw]
      simp only [if_neg hw]
      exact ⟨trivial, (stay (x := 0) (hS.quiet ht).tch).2⟩
  rw [g1, g2]
  refine ⟨none, 0, 0, rfl, false, rfl, ?_⟩
  rw [cond_false]
  rintro w50 rfl
  replace hS := hS.drew
  replace k1 := k1.tch ((Tch.refl [] w36).drew) (by simp)
  replace hes := hes.tch ((Tch.refl [] w36).drew) (by simp)
  replace hM := hM.quiet ((Tch.refl [] w36).drew)
  replace hps := hps.tch ((Tch.refl [] w36).drew) (by simp)
  generalize w36.drew = w50 at *
  refine ⟨some pb, hM.cell 3, ?_⟩
  refine get_all k1 rfl ?_
  refine ⟨a, n, c, ac 2 hS, ?_⟩
  refine (copied_c w50 a n c l (hB.quiet hS.tch) (Small.of_good ((encB_zero l).1 h0))).mono ?_
  rintro en w56 ⟨da, dc, rfl, hD, ht⟩
  have hs50 := hS.size
  replace hS := hS.quiet ht
  replace k1 := k1.tch ht (by simp)
  replace hes := hes.tch ht (by simp)
  replace hM := hM.quiet ht
  replace hps := hps.tch ht (by simp)
  refine ⟨_, _, _, rfl, get_all k1 rfl (by constructor <;> first | rfl | trivial), ⟨some pb, hM.cell 3, by constructor <;> first | rfl | trivial⟩, ?_⟩
  refine mapT.upd hes hps.fits (want_fits hkI) g2 fun w60 hmap tm => ?_
  have hs60 := tm.size
  have hs56 := ht.size
  rintro w61 rfl
  have tm2 := tm.drew
  replace hmap := hmap.tch ((Tch.refl [] w60).drew) (by simp)
  have hsd : w60.drew.heap.size = w60.heap.size := rfl
  generalize w60.drew = w61 at *
  have hbk : Blk w61 mb [.int .i64 g.k, .int .i64 g.e, .int .i64 g.top, .map (some pb)] := hM.blk.tch tm2 (by simpa using h.ne)
  have hai : Blk w61 ab [.int .i64 i, .int .i64 e, .slice a n c] := (hS.blk (List.mem_singleton.2 rfl)).tch tm2 (by simp; omega)
  refine ⟨g.top, by rw [add_mk]; exact hbk.cell 2, e, by rw [add_mk]; exact hai.cell 1, ?_⟩
  refine ⟨.int .i64 (if e > g.top then e else g.top), w61, run_max_int2 _ _ _ _ _ _ _, _, rfl, ?_⟩
  show _ ∧ _
  rw [add_mk]
  refine ⟨rfl, by rw [hbk.cell]; rfl, hbk.frozen _, ?_⟩
  rintro w69 rfl
  have t3 := (Tch.refl [mb] w61).setCell (p := ⟨mb, 0 + 2, none⟩) (.inl (by simp)) (.int .i64 (if e > g.top then e else g.top))
  have hs69 := t3.size
  have hnF : ¬ (F mb ∨ Btw ab (w61.setCell ⟨mb, 0 + 2, none⟩ (.int .i64 (if e > g.top then e else g.top))).heap.size mb) ∧ ¬ (F pb ∨ Btw ab (w61.setCell ⟨mb, 0 + 2, none⟩ (.int .i64 (if e > g.top then e else g.top))).heap.size pb) :=
    ⟨fun hh => hh.elim h.nF.1 fun hh => by have := hh.1; omega, fun hh => hh.elim h.nF.2 fun hh => by have := hh.1; omega⟩
  have tall : Tch [mb, pb] w (w61.setCell ⟨mb, 0 + 2, none⟩ (.int .i64 (if e > g.top then e else g.top))) :=
    ((hS.tch.weaken (t := [mb, pb]) (by simp)).trans tm2 (by simp)).trans t3 (by simp)
  refine ⟨rfl, ⟨hbk.set 2 _, ⟨es ++ [(kC (i, e), .slice da n dc)], hmap.tch t3 (by simpa using Ne.symm h.ne), ?_⟩, h.ne, hnF, h.k, h.e, ?_, ?_⟩, tall⟩
  · refine PsAt.push ⟨rfl, hkI, da, n, dc, rfl, ?_⟩ ?_
    · refine ((hD.tch tm2 fun k hk hb => ?_).tch t3 fun k hk hb => ?_).mono fun k hk => .inr ⟨by have := hk.1; omega, by have := hk.2; omega⟩
      · have := hb.1; simp at hk; omega
      · have := hb.1; simp at hk; omega
    · refine ((hps.tch tm2 fun k hk => ?_).tch t3 fun k hk => ?_).mono fun k hk => .inl hk
      · simp at hk; rw [hk]; exact h.nF.2
      · simp at hk; rw [hk]; exact h.nF.1
  · have := h.top
    have hne : ¬ g.e + 64 ≤ e := fun hh => hep (.inr hh)
    unfold Ep at hEp
    simp only
    split <;> omega
  · intro q hq
    rcases List.mem_append.1 hq with hq | hq
    · exact h.good q hq
    · simp at hq
      rw [hq]
      exact ⟨h0, hkI⟩
end Go.Proofs.YtjchneebdlncfaaDoor.Lib
