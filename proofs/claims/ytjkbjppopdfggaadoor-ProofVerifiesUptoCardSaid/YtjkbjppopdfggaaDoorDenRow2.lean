/-
  ARGUMENTS THAT ARE NESTED ROWS: what the row's reading says of memory ('open_rep').
  Own work. No macro, syntax, notation, axiom.
-/
import Derived.Test.YtjkbjppopdfggaaDoorDenRow
import Derived.Test.YtjkbjppopdfggaaDoorDenWords11
namespace Go.Proofs.YtjkbjppopdfggaaDoor.Den
open Go Go.ChangeShapes Go.WideShapes Go.ChangeAt Go.RowKit

variable {H : Type} {enc : TypeId × Value → H} {P : Program}
def fieldsC (P : Program) (f : TypeId → Option (List CK)) : List Field → Nat → Option (List CK)
  | [], _ => some []
  | x :: r, o =>
    match f x.type with
    | some l =>
      if x.offset = o ∧ P.cellsOf x.type = l.length then
        match fieldsC P f r (o + l.length) with
        | some l' => some (l ++ l')
        | none => none
      else none
    | none => none
/-- The cells' kinds of a type, by the kernel. -/
def shT (P : Program) : Nat → TypeId → Option (List CK)
  | 0, _ => none
  | d + 1, t =>
    match P.underlying t with
    | some .bool => some [.bool]
    | some (.int k) => some [.int k]
    | some .string => some [.str]
    | some (.slice e) =>
      match shT P d e with
      | some l => if P.cellsOf e = l.length ∧ 0 < l.length then some [.sl l] else none
      | none => none
    | some (.array n e) =>
      match shT P d e with
      | some l => if P.cellsOf t = n * l.length ∧ P.cellsOf e = l.length then some (List.replicate n l).flatten else none
      | none => none
    | some (.struct fs) =>
      match fieldsC P (shT P d) fs.toList 0 with
      | some l => if P.cellsOf t = l.length then some l else none
      | none => none
    | _ => none
theorem mapM_cons_some {α β : Type} {g : α → Option β} {x : α} {l : List α} {ys : List β} (h : (x :: l).mapM g = some ys) : ∃ y r, g x = some y ∧ l.mapM g = some r ∧ ys = y :: r := by
  rw [List.mapM_cons] at h
  cases hx : g x with
  | none => rw [hx] at h; cases h
  | some y =>
    rw [hx] at h
    cases hr : l.mapM g with
    | none => rw [hr] at h; cases h
    | some r => rw [hr] at h; cases h; exact ⟨y, r, rfl, rfl, rfl⟩
theorem mapM_all {α β : Type} {g : α → Option β} : ∀ {l : List α} {ys : List β}, l.mapM g = some ys → ys.length = l.length ∧ ∀ x ∈ l, ∃ y, g x = some y
  | [], ys, h => by
    simp at h
    subst h
    exact ⟨rfl, by simp⟩
  | x :: l, ys, h => by
    obtain ⟨y, r, h1, h2, rfl⟩ := mapM_cons_some h
    obtain ⟨h3, h4⟩ := mapM_all h2
    exact ⟨by simp [h3], fun z hz => by
      rcases List.mem_cons.1 hz with rfl | hz
      · exact ⟨y, h1⟩
      · exact h4 z hz⟩
theorem cells?_spec {w : World} {base : Nat} {a : Addr} {n : Nat} {cs : List Value} (h : w.cells? base a n = some cs) : cs.length = n ∧ ∀ i v, cs[i]? = some v → w.cell? (a.add i) = some v := by
  unfold World.cells? at h
  split at h
  · obtain ⟨h1, h2⟩ := mapM_all h
    refine ⟨by simpa using h1, fun i v hv => ?_⟩
    have key : ∀ (l : List Nat) (cs : List Value), l.mapM (fun i => w.cell? (a.add i)) = some cs → ∀ (j k : Nat) (u : Value), l[j]? = some k → cs[j]? = some u → w.cell? (a.add k) = some u := by
      intro l
      induction l with
      | nil => intro cs _ j k u hj _; simp at hj
      | cons x l ih =>
        intro cs hcs j k u hj hu
        obtain ⟨y, r, h1, h2, rfl⟩ := mapM_cons_some hcs
        cases j with
        | zero => simp at hj hu; subst hj; subst hu; exact h1
        | succ j => exact ih r h2 j k u (by simpa using hj) (by simpa using hu)
    have hi : i < n := by have := (List.getElem?_eq_some_iff.1 hv).1; simp at h1; omega
    exact key _ _ h i i v (by simp [hi]) hv
  · cases h
theorem cell_spot {w : World} {a : Addr} {v : Value} (h : w.cell? a = some v) : a.spot = none := by
  unfold World.cell? at h
  split at h
  · split at h
    · cases h
    · rename_i hs
      simpa using hs
  · cases h
theorem rows_id (rs : List (List Value)) : rows id rs = rs.flatten := by simp [rows]
/-- A slice, from the readings of its elements. -/
theorem slice_rep {W : World} {d : Nat} {l : List CK} {a : Addr} {len cap : Nat} (hl : 0 < l.length) (hlc : len ≤ cap) (hcap : cap ≤ maxLen)
    (hel : ∀ i, i < cap → ∃ cs, W.cells? 0 (a.add (i * l.length)) l.length = some cs ∧ RepR W d l cs) : RepV W (d + 1) (.sl l) (.slice (some a) len cap) := by
  let g : Nat → List Value := fun i => (W.cells? 0 (a.add (i * l.length)) l.length).getD []
  have hg : ∀ i, i < cap → (g i).length = l.length ∧ (∀ j v, (g i)[j]? = some v → W.cell? ((a.add (i * l.length)).add j) = some v) ∧ RepR W d l (g i) := by
    intro i hi
    obtain ⟨cs, h1, h2⟩ := hel i hi
    have e : g i = cs := by show (W.cells? 0 _ _).getD [] = cs; rw [h1]; rfl
    rw [e]
    exact ⟨(cells?_spec h1).1, (cells?_spec h1).2, h2⟩
  refine ⟨some a, len, cap, (List.range len).map g, rfl, by simp, hcap, ⟨hlc, ?_, ?_, ?_⟩, ?_⟩
  · rw [← rows_id, rows_len (sz := l.length)]
    · simp
    · intro x hx
      obtain ⟨i, hi, rfl⟩ := List.mem_map.1 hx
      exact (hg i (by have := List.mem_range.1 hi; omega)).1
  · intro u hu
    obtain ⟨x, hx, hux⟩ := List.mem_flatten.1 hu
    obtain ⟨i, hi, rfl⟩ := List.mem_map.1 hx
    exact RepL.ones (hg i (by have := List.mem_range.1 hi; omega)).2.2 u hux
  · by_cases h0 : cap = 0
    · exact .inl h0
    · right
      obtain ⟨h1, h2, h3⟩ := hg 0 (by omega)
      have hc : ∃ v, (g 0)[0]? = some v := ⟨(g 0)[0], by rw [List.getElem?_eq_getElem (by omega)]⟩
      obtain ⟨v, hv⟩ := hc
      have hs := h2 0 v hv
      have e0 : (a.add (0 * l.length)).add 0 = a := by simp [Addr.add]
      rw [e0] at hs
      have hsp := cell_spot hs
      obtain ⟨b, o, s⟩ := a
      simp only at hsp
      subst hsp
      refine ⟨b, o, rfl, ?_⟩
      rw [← rows_id]
      refine cells_rows (sz := l.length) ?_ ?_
      · intro x hx
        obtain ⟨i, hi, rfl⟩ := List.mem_map.1 hx
        exact (hg i (by have := List.mem_range.1 hi; omega)).1
      · intro i x hx j v hv
        rw [List.getElem?_map, Option.map_eq_some_iff] at hx
        obtain ⟨k, hk, rfl⟩ := hx
        have hik : i < len := by have := (List.getElem?_eq_some_iff.1 hk).1; simpa using this
        obtain rfl : k = i := by have := (List.getElem?_eq_some_iff.1 hk).2; simpa using this.symm
        have := (hg k (by omega)).2.1 j v hv
        rwa [add_mk] at this
  · intro r hr
    obtain ⟨i, hi, rfl⟩ := List.mem_map.1 hr
    exact (hg i (by have := List.mem_range.1 hi; omega)).2.2
theorem rep_items {W : World} {d : Nat} {l : List CK} : ∀ (n : Nat) (cs : List Value), cs.length = n * l.length → (∀ i, i < n → RepR W d l ((cs.drop (i * l.length)).take l.length)) → RepR W d (List.replicate n l).flatten cs
  | 0, cs, h, _ => by
    rw [Nat.zero_mul] at h
    rw [List.length_eq_zero_iff.1 h]
    exact trivial
  | n + 1, cs, h, hi => by
    rw [List.replicate_succ, List.flatten_cons, ← List.take_append_drop l.length cs]
    refine RepL.append (by have := hi 0 (by omega); simpa using this) (rep_items n _ (by rw [List.length_drop, h, Nat.succ_mul]; omega) fun i hin => ?_)
    have := hi (i + 1) (by omega)
    rwa [List.drop_drop, show l.length + i * l.length = (i + 1) * l.length by rw [Nat.succ_mul]; omega]
theorem rep_fields {W : World} {d n : Nat} (IH : ∀ (t : TypeId) (ks : List CK), shT P d t = some ks → ∀ cs x, DataW.trod enc P W 0 (fun _ => true) true n t cs = some x → RepR W d ks cs) :
    ∀ (fs : List Field) (pre cs : List Value) (ks : List CK), fieldsC P (shT P d) fs pre.length = some ks → cs.length = ks.length →
      (∀ f ∈ fs, ∃ y, DataW.trod enc P W 0 (fun _ => true) true n f.type (((pre ++ cs).drop f.offset).take (P.cellsOf f.type)) = some y) → RepR W d ks cs
  | [], pre, cs, ks, h, hl, _ => by
    simp only [fieldsC, Option.some.injEq] at h
    subst h
    rw [List.length_eq_zero_iff.1 hl]
    exact trivial
  | f :: fs, pre, cs, ks, h, hl, hx => by
    unfold fieldsC at h
    split at h
    · rename_i l hfl
      split at h
      · rename_i hc
        obtain ⟨ho, hsz⟩ := hc
        split at h
        · rename_i l' hr
          simp only [Option.some.injEq] at h
          subst h
          rw [List.length_append] at hl
          obtain ⟨y, h1⟩ := hx f (by simp)
          rw [ho, List.drop_left, hsz] at h1
          have hy := IH f.type l hfl _ _ h1
          rw [← List.take_append_drop l.length cs]
          refine RepL.append hy ?_
          have e : pre ++ cs = (pre ++ cs.take l.length) ++ cs.drop l.length := by rw [List.append_assoc, List.take_append_drop]
          have hpl : (pre ++ cs.take l.length).length = pre.length + l.length := by rw [List.length_append, List.length_take]; omega
          refine rep_fields IH fs (pre ++ cs.take l.length) (cs.drop l.length) l' (by rw [hpl]; exact hr) (by rw [List.length_drop]; omega) ?_
          rw [← e]
          exact fun g hg => hx g (by simp [hg])
        · cases h
      · cases h
    · cases h
/-- What is read is so. -/
theorem open_rep {W : World} : ∀ (d n : Nat) (t : TypeId) (ks : List CK), shT P d t = some ks → ∀ cs x, DataW.trod enc P W 0 (fun _ => true) true n t cs = some x → RepR W d ks cs
  | 0, _, _, _, h => by simp [shT] at h
  | d + 1, n, t, ks, h => by
    intro cs x hx
    unfold shT at h
    split at h
    · rename_i hu
      cases h
      obtain ⟨b, rfl, _⟩ := DataW.trod_bool hu hx
      exact ⟨trivial, trivial⟩
    · rename_i k hu
      cases h
      obtain ⟨m, rfl, _, hw⟩ := DataW.trod_int hu hx
      exact ⟨⟨rfl, hw⟩, trivial⟩
    · rename_i hu
      cases h
      obtain ⟨s, rfl, _, hw⟩ := DataW.trod_string hu hx
      exact ⟨hw, trivial⟩
    · rename_i e hu
      split at h
      · rename_i l hl
        split at h
        · rename_i hc
          cases h
          obtain ⟨hc1, hc2⟩ := hc
          rcases DataW.trod_slice hu hx with ⟨rfl, _⟩ | ⟨a, len, cap, elems, rest, m, rfl, rfl, _, _, hlc, hcap, hel, h1, h2, _⟩
          · exact ⟨⟨none, 0, 0, [], rfl, rfl, Nat.zero_le _, ⟨Nat.le_refl _, by simp, by simp, .inl rfl⟩, by simp⟩, trivial⟩
          · refine ⟨slice_rep hc2 hlc hcap fun i hi => ?_, trivial⟩
            obtain ⟨hr1, hr2⟩ := h2 rfl
            have hb : ∃ y, (W.cells? 0 (a.add (i * P.cellsOf e)) (P.cellsOf e)).bind (DataW.trod enc P W 0 (fun _ => true) true m e) = some y := by
              by_cases hil : i < len
              · rw [h1 i hil]; exact ⟨elems[i], by rw [List.getElem?_eq_getElem (by omega)]⟩
              · have := hr2 (i - len) (by omega)
                rw [show len + (i - len) = i by omega] at this
                rw [this]; exact ⟨rest[i - len], by rw [List.getElem?_eq_getElem (by omega)]⟩
            obtain ⟨y, hy⟩ := hb
            rw [Option.bind_eq_some_iff] at hy
            obtain ⟨cs, g1, g2⟩ := hy
            rw [hc1] at g1
            exact ⟨cs, g1, open_rep d m e l hl cs y g2⟩
        · cases h
      · cases h
    · rename_i k e hu
      split at h
      · rename_i l hl
        split at h
        · rename_i hc
          cases h
          obtain ⟨hc1, hc2⟩ := hc
          obtain ⟨xs, m, rfl, _, hlen, hxl, hi⟩ := DataW.trod_array hu hx
          refine (rep_items k cs (by rw [hlen, hc1]) fun i hik => ?_).mono fun _ _ => RepV.up
          have := hi i hik
          rw [hc2, List.getElem?_eq_getElem (by omega)] at this
          exact open_rep d m e l hl _ _ this
        · cases h
      · cases h
    · rename_i fs hu
      split at h
      · rename_i l hl
        split at h
        · rename_i hc
          cases h
          obtain ⟨xs, m, rfl, _, hlen, hxl, hi⟩ := DataW.trod_struct hu hx
          refine (rep_fields (n := m) (fun t ks h cs x hx => open_rep d m t ks h cs x hx) fs.toList [] cs ks hl (by rw [hlen, hc]) fun f hf => ?_).mono fun _ _ => RepV.up
          obtain ⟨i, hif⟩ := List.getElem?_of_mem hf
          have := hi i f (by simpa using hif)
          have hlt : i < xs.length := by rw [hxl]; have := (List.getElem?_eq_some_iff.1 hif).1; simpa using this
          rw [List.getElem?_eq_getElem hlt] at this
          exact ⟨_, this⟩
        · cases h
      · cases h
    · cases h
/-- An argument that is a struct or an array. -/
theorem open_aggR {d : Nat} {t : TypeId} {ks : List CK} (hs : shT P d t = some ks) (hk : (match P.underlying t with | some (.struct _) => true | some (.array _ _) => true | _ => false) = true) {W : World} {base : Nat} {v : Value} {x : DataW H} {ps : List MemPlace}
    (hval : Value.okWide P W .any base t v) (hd : DataW.Trod enc P W 0 (fun _ => true) true t v x ps) : ∃ cs : List Value, v = .agg cs.toArray ∧ RepR W d ks cs := by
  have hl : ∃ cs, v = .agg cs ∧ cs.size = P.cellsOf t := by
    split at hk
    · rename_i hu
      simp only [Value.okWide, hu] at hval
      obtain ⟨cs, h1, h2, _⟩ := hval
      exact ⟨cs, h1, h2⟩
    · rename_i hu
      simp only [Value.okWide, hu] at hval
      obtain ⟨cs, h1, h2, _⟩ := hval
      exact ⟨cs, h1, h2⟩
    · cases hk
  obtain ⟨cs, rfl, _⟩ := hl
  obtain ⟨n, hn⟩ := hd
  refine ⟨cs.toList, by simp, open_rep d n t ks hs _ _ (by simpa [Value.cells] using hn)⟩
end Go.Proofs.YtjkbjppopdfggaaDoor.Den
