/-
  WORDS FOR CONTRACTS: values that are rows of numbers, booleans and strings ('Fits'): they are compared, and they are read as arguments.
  Own work. No macro, syntax, notation, axiom.
-/
import Derived.Test.YtjkbjppopdfggaaDoorDenWords5
import Derived.MapViews
namespace Go.Proofs.YtjkbjppopdfggaaDoor.Den
open Go
open Go.RowKit (Below)

inductive FK where
  | int (k : IntKind)
  | bool
  | str
def fit : FK → Value → Prop
  | .int k, .int k' n => k' = k ∧ (Lit.int k n).wf = true
  | .bool, .bool _ => True
  | .str, .string s => s.size ≤ maxLen
  | _, _ => False
def litOf : Value → Lit
  | .int k n => .int k n
  | .bool b => .bool b
  | .string s => .string s.data.toList
  | _ => .bool false
def Fits : List FK → List Value → Prop
  | [], [] => True
  | k :: ks, v :: vs => fit k v ∧ Fits ks vs
  | _, _ => False
theorem Fits.length : ∀ {ks : List FK} {vs : List Value}, Fits ks vs → vs.length = ks.length
  | [], [], _ => rfl
  | _ :: _, _ :: _, h => by simp [Fits.length h.2]
  | [], _ :: _, h => h.elim
  | _ :: _, [], h => h.elim
theorem Fits.append : ∀ {ks js : List FK} {vs us : List Value}, Fits ks vs → Fits js us → Fits (ks ++ js) (vs ++ us)
  | [], _, [], _, _, h => h
  | _ :: _, _, _ :: _, _, h, k => ⟨h.1, Fits.append h.2 k⟩
  | [], _, _ :: _, _, h, _ => h.elim
  | _ :: _, _, [], _, h, _ => h.elim
theorem Fits.split : ∀ {ks js : List FK} {vs : List Value}, Fits (ks ++ js) vs → ∃ a b, vs = a ++ b ∧ Fits ks a ∧ Fits js b
  | [], _, vs, h => ⟨[], vs, rfl, trivial, h⟩
  | k :: ks, js, v :: vs, h => by
    obtain ⟨a, b, rfl, h1, h2⟩ := Fits.split (ks := ks) h.2
    exact ⟨v :: a, b, rfl, ⟨h.1, h1⟩, h2⟩
  | _ :: _, _, [], h => h.elim
theorem Fits.ints {k : IntKind} : ∀ {l : List Int}, (∀ x ∈ l, (Lit.int k x).wf = true) → Fits (List.replicate l.length (.int k)) (l.map (Value.int k))
  | [], _ => trivial
  | x :: r, h => ⟨⟨rfl, h x (by simp)⟩, Fits.ints fun y hy => h y (by simp [hy])⟩
theorem Fits.of_ints {k : IntKind} : ∀ {n : Nat} {vs : List Value}, Fits (List.replicate n (.int k)) vs → ∃ l : List Int, vs = l.map (Value.int k) ∧ l.length = n ∧ ∀ x ∈ l, (Lit.int k x).wf = true
  | 0, [], _ => ⟨[], rfl, rfl, by simp⟩
  | n + 1, v :: vs, h => by
    rw [List.replicate_succ] at h
    obtain ⟨h1, h2⟩ := h
    obtain ⟨l, rfl, rfl, h3⟩ := Fits.of_ints h2
    cases v with
    | int k' x =>
      obtain ⟨rfl, hx⟩ := h1
      exact ⟨x :: l, rfl, rfl, fun y hy => by
        rcases List.mem_cons.1 hy with rfl | hy
        · exact hx
        · exact h3 y hy⟩
    | _ => exact h1.elim
  | 0, _ :: _, h => h.elim
  | n + 1, [], h => by rw [List.replicate_succ] at h; exact h.elim
theorem Fits.int1 {k : IntKind} {ks : List FK} {vs : List Value} (h : Fits (.int k :: ks) vs) : ∃ n r, vs = .int k n :: r ∧ (Lit.int k n).wf = true ∧ Fits ks r := by
  match vs, h with
  | .int k' n :: r, h =>
    obtain ⟨⟨rfl, hw⟩, h2⟩ := h
    exact ⟨n, r, rfl, hw, h2⟩
theorem Fits.bool1 {ks : List FK} {vs : List Value} (h : Fits (.bool :: ks) vs) : ∃ b r, vs = .bool b :: r ∧ Fits ks r := by
  match vs, h with
  | .bool b :: r, h => exact ⟨b, r, rfl, h.2⟩
theorem Fits.nil {vs : List Value} (h : Fits [] vs) : vs = [] := by
  match vs, h with
  | [], _ => rfl
theorem Fits.ones : ∀ {ks : List FK} {vs : List Value}, Fits ks vs → ∀ u ∈ vs, one u = true
  | [], [], _, u, hu => by simp at hu
  | k :: ks, v :: vs, h, u, hu => by
    rcases List.mem_cons.1 hu with rfl | hu
    · cases u <;> cases k <;> first | rfl | exact h.1.elim
    · exact Fits.ones h.2 u hu
  | [], _ :: _, h, _, _ => h.elim
  | _ :: _, [], h, _, _ => h.elim
theorem fit_inj {k : FK} {u v : Value} (hu : fit k u) (hv : fit k v) (h : litOf u = litOf v) : u = v := by
  cases k <;> cases u <;> first | exact hu.elim | skip
  all_goals cases v <;> first | exact hv.elim | skip
  all_goals simp only [litOf, Lit.int.injEq, Lit.bool.injEq, Lit.string.injEq] at h
  · rw [h.1, h.2]
  · rw [h]
  · rename_i s t
    obtain ⟨s⟩ := s
    obtain ⟨t⟩ := t
    simp only at h
    rw [Array.ext' h]
theorem Fits.inj : ∀ {ks : List FK} {us vs : List Value}, Fits ks us → Fits ks vs → us.map litOf = vs.map litOf → us = vs
  | [], [], [], _, _, _ => rfl
  | k :: ks, u :: us, v :: vs, hu, hv, h => by
    simp only [List.map_cons, List.cons.injEq] at h
    rw [fit_inj hu.1 hv.1 h.1, Fits.inj hu.2 hv.2 h.2]
  | [], _ :: _, _, h, _, _ => h.elim
  | [], [], _ :: _, _, h, _ => h.elim
  | _ :: _, [], _, h, _, _ => h.elim
  | _ :: _, _ :: _, [], _, h, _ => h.elim

/-! ### A type's kinds, by the kernel -/
def fieldsK (P : Program) (f : TypeId → Option (List FK)) : List Field → Nat → Option (List FK)
  | [], _ => some []
  | x :: r, o =>
    match f x.type with
    | some l =>
      if x.offset = o ∧ (x.name != "_") = true ∧ P.cellsOf x.type = l.length then
        match fieldsK P f r (o + l.length) with
        | some l' => some (l ++ l')
        | none => none
      else none
    | none => none
def flatK (P : Program) : Nat → TypeId → Option (List FK)
  | 0, _ => none
  | d + 1, t =>
    match P.underlying t with
    | some .bool => some [.bool]
    | some (.int k) => some [.int k]
    | some .string => some [.str]
    | some (.array n e) =>
      match flatK P d e with
      | some l => if P.cellsOf t = n * l.length ∧ P.cellsOf e = l.length then some (List.replicate n l).flatten else none
      | none => none
    | some (.struct fs) =>
      match fieldsK P (flatK P d) fs.toList 0 with
      | some l => if P.cellsOf t = l.length then some l else none
      | none => none
    | _ => none
theorem lits_items {P : Program} {d : Nat} {e : TypeId} {l : List FK} (IH : ∀ cs, P.keyLits d e cs = some (cs.map litOf) ∧ Fits l cs ∨ P.keyLits d e cs = none ∧ ¬ Fits l cs ∨ cs.length ≠ l.length) :
    ∀ (n : Nat) (cs : List Value), cs.length = n * l.length → (((List.range n).mapM fun i => P.keyLits d e ((cs.drop (i * l.length)).take l.length)).map List.flatten = some (cs.map litOf) ∧ Fits (List.replicate n l).flatten cs) ∨
      (((List.range n).mapM fun i => P.keyLits d e ((cs.drop (i * l.length)).take l.length)).map List.flatten = none ∧ ¬ Fits (List.replicate n l).flatten cs)
  | 0, cs, h => by
    rw [Nat.zero_mul] at h
    obtain rfl := List.length_eq_zero_iff.1 h
    exact .inl ⟨by simp, trivial⟩
  | n + 1, cs, h => by
    have h1 : (cs.take l.length).length = l.length := by rw [List.length_take, h, Nat.succ_mul]; omega
    have h2 : (cs.drop l.length).length = n * l.length := by rw [List.length_drop, h, Nat.succ_mul]; omega
    have e1 : ∀ i, (cs.drop ((i + 1) * l.length)).take l.length = ((cs.drop l.length).drop (i * l.length)).take l.length := fun i => by
      rw [List.drop_drop, Nat.succ_mul, Nat.add_comm]
    have hF : Fits (List.replicate (n + 1) l).flatten cs ↔ Fits l (cs.take l.length) ∧ Fits (List.replicate n l).flatten (cs.drop l.length) := by
      rw [List.replicate_succ, List.flatten_cons]
      constructor
      · intro hf
        obtain ⟨a, b, rfl, ha, hb⟩ := hf.split
        have hla := ha.length
        rw [← hla, List.take_left, List.drop_left]
        exact ⟨ha, hb⟩
      · intro hf
        have := hf.1.append hf.2
        rwa [List.take_append_drop] at this
    have e2 : ((fun i => P.keyLits d e (List.take l.length (List.drop (i * l.length) cs))) ∘ Nat.succ) = fun i => P.keyLits d e (List.take l.length (List.drop (i * l.length) (List.drop l.length cs))) := by
      funext i
      show P.keyLits d e (List.take l.length (List.drop ((i + 1) * l.length) cs)) = _
      rw [e1]
    rw [List.range_succ_eq_map, List.mapM_cons, List.mapM_map, e2, Nat.zero_mul, List.drop_zero]
    rcases IH (cs.take l.length) with ⟨g1, g2⟩ | ⟨g1, g2⟩ | g
    · rw [g1]
      rcases lits_items IH n (cs.drop l.length) h2 with ⟨k1, k2⟩ | ⟨k1, k2⟩
      · left
        refine ⟨?_, hF.2 ⟨g2, k2⟩⟩
        rw [Option.map_eq_some_iff] at k1
        obtain ⟨xs, hx1, hx2⟩ := k1
        have : (List.mapM (fun i => P.keyLits d e (List.take l.length (List.drop (i * l.length) (List.drop l.length cs)))) (List.range n)) = some xs := hx1
        simp only [Option.bind_eq_bind, Option.bind_some, this, Option.pure_def, Option.map_some, List.flatten_cons, hx2]
        rw [← List.map_append, List.take_append_drop]
      · right
        refine ⟨?_, fun hf => k2 (hF.1 hf).2⟩
        rw [Option.map_eq_none_iff] at k1
        have : (List.mapM (fun i => P.keyLits d e (List.take l.length (List.drop (i * l.length) (List.drop l.length cs)))) (List.range n)) = none := k1
        simp only [Option.bind_eq_bind, Option.bind_some, this, Option.bind_none, Option.map_none]
    · right
      rw [g1]
      exact ⟨rfl, fun hf => g2 (hF.1 hf).1⟩
    · exact absurd h1 g
theorem lits_fields {P : Program} {d : Nat} (IH : ∀ (t : TypeId) (ks : List FK), flatK P d t = some ks → ∀ cs, P.keyLits d t cs = some (cs.map litOf) ∧ Fits ks cs ∨ P.keyLits d t cs = none ∧ ¬ Fits ks cs ∨ cs.length ≠ ks.length) :
    ∀ (fs : List Field) (pre cs : List Value) (ks : List FK), fieldsK P (flatK P d) fs pre.length = some ks → cs.length = ks.length →
      ((fs.mapM fun f => P.keyLits d f.type (((pre ++ cs).drop f.offset).take (P.cellsOf f.type))).map List.flatten = some (cs.map litOf) ∧ Fits ks cs) ∨
      ((fs.mapM fun f => P.keyLits d f.type (((pre ++ cs).drop f.offset).take (P.cellsOf f.type))).map List.flatten = none ∧ ¬ Fits ks cs)
  | [], pre, cs, ks, h, hl => by
    simp only [fieldsK, Option.some.injEq] at h
    subst h
    obtain rfl := List.length_eq_zero_iff.1 hl
    exact .inl ⟨by simp, trivial⟩
  | f :: fs, pre, cs, ks, h, hl => by
    unfold fieldsK at h
    split at h
    · rename_i l hfl
      split at h
      · rename_i hc
        obtain ⟨ho, hn, hsz⟩ := hc
        split at h
        · rename_i l' hr
          simp only [Option.some.injEq] at h
          subst h
          rw [List.length_append] at hl
          have h1 : (cs.take l.length).length = l.length := by rw [List.length_take]; omega
          have h2 : (cs.drop l.length).length = l'.length := by rw [List.length_drop]; omega
          have hF : Fits (l ++ l') cs ↔ Fits l (cs.take l.length) ∧ Fits l' (cs.drop l.length) := by
            constructor
            · intro hf
              obtain ⟨a, b, rfl, ha, hb⟩ := hf.split
              rw [← ha.length, List.take_left, List.drop_left]
              exact ⟨ha, hb⟩
            · intro hf
              have := hf.1.append hf.2
              rwa [List.take_append_drop] at this
          have e1 : pre ++ cs = (pre ++ cs.take l.length) ++ cs.drop l.length := by rw [List.append_assoc, List.take_append_drop]
          rw [List.mapM_cons, ho, List.drop_left, hsz]
          have hrec := lits_fields IH fs (pre ++ cs.take l.length) (cs.drop l.length) l' (by rw [List.length_append, h1]; exact hr) h2
          rw [← e1] at hrec
          rcases IH f.type l hfl (cs.take l.length) with ⟨g1, g2⟩ | ⟨g1, g2⟩ | g
          · rw [g1]
            rcases hrec with ⟨k1, k2⟩ | ⟨k1, k2⟩
            · left
              refine ⟨?_, hF.2 ⟨g2, k2⟩⟩
              rw [Option.map_eq_some_iff] at k1
              obtain ⟨xs, hx1, hx2⟩ := k1
              rw [hx1]
              simp only [Option.bind_eq_bind, Option.bind_some, Option.pure_def, Option.map_some, List.flatten_cons, hx2]
              rw [← List.map_append, List.take_append_drop]
            · right
              refine ⟨?_, fun hf => k2 (hF.1 hf).2⟩
              rw [Option.map_eq_none_iff] at k1
              rw [k1]
              rfl
          · right
            rw [g1]
            exact ⟨rfl, fun hf => g2 (hF.1 hf).1⟩
          · exact absurd h1 g
        · cases h
      · cases h
    · cases h
theorem fieldsK_names {P : Program} {f : TypeId → Option (List FK)} : ∀ {fs : List Field} {o : Nat} {ks : List FK}, fieldsK P f fs o = some ks → fs.all (·.name != "_") = true
  | [], _, _, _ => rfl
  | x :: r, o, ks, h => by
    unfold fieldsK at h
    split at h
    · split at h
      · rename_i hc
        split at h
        · rename_i hr
          simp only [List.all_cons, hc.2.1, fieldsK_names hr, Bool.and_self]
        · cases h
      · cases h
    · cases h
theorem lits_flat {P : Program} : ∀ (d : Nat) (t : TypeId) (ks : List FK), flatK P d t = some ks → ∀ cs, P.keyLits d t cs = some (cs.map litOf) ∧ Fits ks cs ∨ P.keyLits d t cs = none ∧ ¬ Fits ks cs ∨ cs.length ≠ ks.length
  | 0, _, _, h => by simp [flatK] at h
  | d + 1, t, ks, h => by
    intro cs
    by_cases hl : cs.length = ks.length
    · unfold flatK at h
      unfold Program.keyLits
      split at h
      · rename_i hu
        cases h
        rw [hu]
        match cs, hl with
        | [v], _ =>
          cases v <;> first | exact .inl ⟨rfl, trivial, trivial⟩ | exact .inr (.inl ⟨rfl, fun hf => hf.1⟩)
      · rename_i k hu
        cases h
        rw [hu]
        match cs, hl with
        | [v], _ =>
          cases v with
          | int k' n =>
            by_cases hw : k' = k ∧ (Lit.int k n).wf = true
            · obtain ⟨rfl, hw⟩ := hw
              exact .inl ⟨by simp [hw, litOf], ⟨rfl, hw⟩, trivial⟩
            · exact .inr (.inl ⟨by simp only [if_neg hw], fun hf => hw hf.1⟩)
          | _ => exact .inr (.inl ⟨rfl, fun hf => hf.1⟩)
      · rename_i hu
        cases h
        rw [hu]
        match cs, hl with
        | [v], _ =>
          cases v with
          | string s =>
            by_cases hw : s.size ≤ maxLen
            · exact .inl ⟨by simp [hw, litOf], hw, trivial⟩
            · exact .inr (.inl ⟨by simp only [if_neg hw], fun hf => hw hf.1⟩)
          | _ => exact .inr (.inl ⟨rfl, fun hf => hf.1⟩)
      · rename_i n e hu
        split at h
        · rename_i l hfl
          split at h
          · rename_i hc
            cases h
            rw [hu]
            have hlen : cs.length = n * l.length := by rw [hl, List.length_flatten]; simp
            simp only [hc.1, hc.2, hlen, if_true]
            rcases lits_items (lits_flat d e l hfl) n cs hlen with h1 | h1
            · exact .inl h1
            · exact .inr (.inl h1)
          · cases h
        · cases h
      · rename_i fs hu
        split at h
        · rename_i l hfl
          split at h
          · rename_i hc
            cases h
            rw [hu]
            have hn := fieldsK_names hfl
            rw [Array.all_toList] at hn
            simp only [hc, hl, true_and, hn, if_true]
            have := lits_fields (lits_flat d) fs.toList [] cs ks hfl hl
            simp only [List.nil_append] at this
            rcases this with h1 | h1
            · exact .inl h1
            · exact .inr (.inl h1)
          · cases h
        · cases h
      · cases h
    · exact .inr (.inr hl)
/-- What a type must be, so that its values are compared cell by cell. -/
def eqT (P : Program) (d : Nat) (t : TypeId) : Bool :=
  P.keyTypeAt d t && !P.eqGuardType P.depth t && (match P.underlying t with | some (.array _ _) | some (.struct _) => true | _ => false) && decide (d ≤ 10000)
theorem flat_cells {P : Program} {d : Nat} {t : TypeId} {ks : List FK} (hf : flatK P d t = some ks) (hk : eqT P d t = true) {xs : List Value} (hx : Fits ks xs) : (Value.agg xs.toArray).formed P t = true := by
  have hl := hx.length
  unfold eqT at hk
  simp only [Bool.and_eq_true] at hk
  cases d with
  | zero => simp [flatK] at hf
  | succ d =>
    unfold flatK at hf
    split at hf
    · rename_i hu; rw [hu] at hk; exact absurd hk.1.2 (by simp)
    · rename_i hu; rw [hu] at hk; exact absurd hk.1.2 (by simp)
    · rename_i hu; rw [hu] at hk; exact absurd hk.1.2 (by simp)
    · rename_i n e hu
      split at hf
      · split at hf
        · rename_i l _ hc
          cases hf
          simp [Value.formed, hu, hc.1, hl, List.length_flatten]
        · cases hf
      · cases hf
    · rename_i fs hu
      split at hf
      · split at hf
        · rename_i l _ hc
          cases hf
          simp [Value.formed, hu, hc, hl]
        · cases hf
      · cases hf
    · cases hf
theorem run_flat {P : Program} {d : Nat} {t : TypeId} {ks : List FK} (hf : flatK P d t = some ks) (hk : eqT P d t = true) {xs ys : List Value} (hx : Fits ks xs) (hy : Fits ks ys) (w : World) :
    ∃ r : Bool, (Op.equalIn 10000 t (.agg xs.toArray) (.agg ys.toArray)).run P w = .ok r w ∧ (r = true ↔ xs = ys) := by
  have hk' := hk
  unfold eqT at hk'
  simp only [Bool.and_eq_true, decide_eq_true_eq] at hk'
  have lx : P.keyLits d t xs = some (xs.map litOf) := by
    rcases lits_flat d t ks hf xs with h | h | h
    · exact h.1
    · exact absurd hx h.2
    · exact absurd hx.length h
  have ly : P.keyLits d t ys = some (ys.map litOf) := by
    rcases lits_flat d t ks hf ys with h | h | h
    · exact h.1
    · exact absurd hy h.2
    · exact absurd hy.length h
  obtain ⟨r, hr, hiff⟩ := run_equalIn_deep (P := P) (10000 - d) d t hk'.1.1.1 w d d (.agg xs.toArray) (.agg ys.toArray) (xs.map litOf) (ys.map litOf) (flat_cells hf hk hx) (flat_cells hf hk hy) lx ly
  rw [Nat.sub_add_cancel hk'.2] at hr
  exact ⟨r, hr, hiff.trans ⟨hx.inj hy, fun e => by rw [e]⟩⟩
theorem eq_flat {P : Program} {d : Nat} {t : TypeId} {ks : List FK} (hf : flatK P d t = some ks) (hk : eqT P d t = true) {a b : Operand} {xs ys : List Value} (hx : Fits ks xs) (hy : Fits ks ys) {w : World} {K : Bool → Prop}
    (h1 : xs = ys → K true) (h2 : xs ≠ ys → K false) :
    ∃ q : Bool, Sem.run P (do eqGuard .eql t a b (.agg (List.toArray xs)) (.agg (List.toArray ys)); binOp .eql t (.agg (List.toArray xs)) (.agg (List.toArray ys))) w = .ok (.bool q) w ∧ K q := by
  obtain ⟨r, hr, hiff⟩ := run_flat hf hk hx hy w
  have hg : P.eqGuardType P.depth t = false := by
    unfold eqT at hk
    simp only [Bool.and_eq_true, Bool.not_eq_true'] at hk
    exact hk.1.1.2
  refine ⟨r, ?_, ?_⟩
  · rw [Sem.run_bind, run_eqGuard_agg w .eql t a b _ _ hg]
    simp only [Result.andThen_ok]
    rw [run_eql_struct w t, hr, Result.andThen_ok]
  · cases r with
    | true => exact h1 (hiff.1 rfl)
    | false => exact h2 fun e => by have := hiff.2 e; cases this
theorem neq_flat {P : Program} {d : Nat} {t : TypeId} {ks : List FK} (hf : flatK P d t = some ks) (hk : eqT P d t = true) {a b : Operand} {xs ys : List Value} (hx : Fits ks xs) (hy : Fits ks ys) {w : World} {K : Bool → Prop}
    (h1 : xs = ys → K false) (h2 : xs ≠ ys → K true) :
    ∃ q : Bool, Sem.run P (do eqGuard .neq t a b (.agg (List.toArray xs)) (.agg (List.toArray ys)); binOp .neq t (.agg (List.toArray xs)) (.agg (List.toArray ys))) w = .ok (.bool q) w ∧ K q := by
  obtain ⟨r, hr, hiff⟩ := run_flat hf hk hx hy w
  have hg : P.eqGuardType P.depth t = false := by
    unfold eqT at hk
    simp only [Bool.and_eq_true, Bool.not_eq_true'] at hk
    exact hk.1.1.2
  refine ⟨!r, ?_, ?_⟩
  · rw [Sem.run_bind, run_eqGuard_agg w .neq t a b _ _ hg]
    simp only [Result.andThen_ok]
    rw [run_neq_struct w t, hr, Result.andThen_ok]
  · cases r with
    | true => exact h1 (hiff.1 rfl)
    | false => exact h2 fun e => by have := hiff.2 e; cases this
/-- An argument of such a type. -/
theorem open_flat {H : Type} {enc : TypeId × Value → H} {P : Program} {d : Nat} {t : TypeId} {ks : List FK} (hf : flatK P d t = some ks) (hk : P.keyTypeAt d t = true) {W : World} {base : Nat} {sp : Nat → Bool} {held : Bool} {n : Nat} {cs : List Value} {x : DataW H × List MemPlace}
    (h : DataW.trod enc P W base sp held n t cs = some x) : Fits ks cs ∨ cs.length ≠ ks.length := by
  have hL := (keyLits_of_trod d t hk n cs x h).1
  rcases lits_flat d t ks hf cs with h | h | h
  · exact .inl h.2
  · rw [hL] at h; cases h.1
  · exact .inr h
end Go.Proofs.YtjkbjppopdfggaaDoor.Den
