/-
  STRUCTURED CODE AND FUNCTIONS: 'trS', 'denS_sound', 'calls_of_den'.
  WORDS FOR CONTRACTS: numbers in range, blocks of cells, rows that are read, slices that are owned.
  WORDS FOR CONTRACTS: slices that are read ('RSl'), slices that are owned (the kit's 'ownsRow'), append, copy, loops.
  WORDS FOR CONTRACTS: what a run has touched ('Tch'), copy, bits as numbers, rows of numbers.
  FROM A CONTRACT TO A STATEMENT: a law that answers true and leaves its input as it was; a row of bytes as an argument.
  WORDS FOR CONTRACTS: a local row read and written as a whole; append of one element, and of zeros.
  WORDS FOR CONTRACTS: values that are rows of numbers, booleans and strings ('Fits'): they are compared, and they are read as arguments.
  WORDS FOR CONTRACTS: an owned slice is cut; cap.
  WORDS FOR CONTRACTS: what is known of a world, as one list of facts with the blocks that they hang on ('St'): it goes through each step as a whole.
  NUMBERS AND BYTES: lists of numbers as cells, ranges, bytes of numbers.
  THE CHECK SUM, as bits: a step of one bit, a table's step of four bits, a byte.
  Own work. No macro, syntax, notation, axiom.
-/
import Derived.Test.YtjchneebdlncfaaDoorFormPk2
import Derived.Scope
import Derived.Below
import Derived.Laws.CopyRow
import Derived.Test.YtjchneebdlncfaaDoorRows
import Derived.DeepKeys
import Derived.WalkKit
import Derived.ProofKit
import Derived.OpenShut
import Derived.Carry
import Derived.Deep.DeepHandedRow
import Derived.Lib.LaidTab
import Derived.MapViews
import Derived.Test.YtjchneebdlncfaaDoorProg
namespace Go.Proofs.YtjchneebdlncfaaDoor.Den
open Go
def clStep (acc : List (List Nat)) (o : Oper) : List (List Nat) :=
  acc ++ [(o.after.toList.flatMap fun e => if Region.binds .any e then e.on :: acc.getD e.on [] else []).eraseDups]
def clOf (ops : Array Oper) : List (List Nat) := ops.toList.foldl clStep []
def clOkB (ops : Array Oper) (t : List (List Nat)) : Bool :=
  (List.range ops.size).all fun j =>
    match ops[j]? with
    | some o => (t.getD j []).all fun k => o.after.any fun e => Region.binds .any e && (e.on == k || (decide (e.on < j) && (t.getD e.on []).contains k && (ops[e.on]?).isSome))
    | none => true
theorem clOk_spec {ops : Array Oper} {t : List (List Nat)} (h : clOkB ops t = true) : ClOk ops fun j => t.getD j [] := by
  intro j o ho k hk
  unfold clOkB at h
  rw [List.all_eq_true] at h
  have hj : j < ops.size := (Array.getElem?_eq_some_iff.1 ho).1
  have h1 := h j (List.mem_range.2 hj)
  rw [ho] at h1
  simp only [List.all_eq_true] at h1
  have h2 := h1 k hk
  obtain ⟨e, he, hb⟩ := Array.any_eq_true'.1 h2
  simp only [Bool.and_eq_true, Bool.or_eq_true, beq_iff_eq, decide_eq_true_eq, List.contains_iff_mem] at hb
  refine ⟨e, he, hb.1, ?_⟩
  rcases hb.2 with h | ⟨⟨h, h'⟩, h''⟩
  · exact .inl h
  · exact .inr ⟨h, h', Option.isSome_iff_exists.1 h''⟩

/-- The slots that code writes. -/
def asg : Code → List Nat
  | .region _ ops _ => ops.toList.filterMap (·.dst)
  | .seq a b => asg a ++ asg b
  | .cond _ a b => asg a ++ asg b
  | .block _ a => asg a
  | .loop a => asg a
  | .scope a => asg a
  | _ => []
def trS (P : Program) (pn : List Nat) (n : Nat) : Code → S → Option S
  | .skip, _ => some .skip
  | .exit id, _ => some (.exit id)
  | .ret, _ => some .ret
  | .region _ ops draw, s =>
    match draw, s with
    | false, .ops _ ks => match trXs P pn n ops ops.toList with
      | some xs => some (.ops xs ks)
      | none => none
    | true, .draw d ks =>
      if P.follows .mixedOrders && Region.noSelect ops && clOkB ops (clOf ops) then
        match trD P pn n ops (fun j => (clOf ops).getD j []) d true ops.size (Array.replicate ops.size false) [] with
        | some d' => some (.draw d' ks)
        | none => none
      else none
    | _, _ => none
  | .seq a b, .seq s1 s2 =>
    match trS P pn n a s1, trS P pn n b s2 with
    | some x, some y => some (.seq x y)
    | _, _ => none
  | .seq a b, .join sl ks s1 s2 =>
    match trS P pn n a s1, trS P pn n b s2, ks.all fun k => !(asg a).contains k with
    | some x, some y, true => some (.join sl ks x y)
    | _, _, _ => none
  | .cond c a b, .cond _ s1 s2 =>
    match trS P pn n a s1, trS P pn n b s2 with
    | some x, some y => some (.cond c x y)
    | _, _ => none
  | .block id a, .block _ s =>
    match trS P pn n a s with
    | some x => some (.block id x)
    | none => none
  | .loop a, .loop sl ks s =>
    match trS P pn n a s, ks.all fun k => !(asg a).contains k with
    | some x, true => some (.loop sl ks x)
    | _, _ => none
  | .scope a, .scope s =>
    match trS P pn n a s with
    | some x => some (.scope x)
    | none => none
  | _, _ => none

theorem valsK_spec {e : Env} : ∀ {sl : List (Nat × Ty)} {K : List Value → Prop}, valsK e sl K → ∃ vs, (vs.length = sl.length ∧ ∀ (i k : Nat) (t : Ty), sl[i]? = some (k, t) → ∃ v, vs[i]? = some v ∧ find e k = some v) ∧ K vs
  | [], _, h => ⟨[], ⟨rfl, fun _ _ _ h => by simp at h⟩, h⟩
  | (k, t) :: r, K, h => by
    unfold valsK at h
    split at h
    · rename_i v hv
      obtain ⟨vs, ⟨h1, h2⟩, h3⟩ := valsK_spec h
      refine ⟨v :: vs, ⟨by simp [h1], fun i k' t' hi => ?_⟩, h3⟩
      cases i with
      | zero => simp at hi; obtain ⟨rfl, rfl⟩ := hi; exact ⟨v, rfl, hv⟩
      | succ i => simp at hi; simpa using h2 i k' t' hi
    · exact h.elim
/-- What 'app' says of the values' shapes is what 'allSl' runs over. -/
theorem allSl_spec : ∀ {sl : List (Nat × Ty)} {F : Env → List Value → Prop} (J : Fn (tys sl)) (vs : List Value) (w : World), allSl sl F → app (tys sl) J vs w → (∃ es : Env, (es.map (·.1) = sl.map (·.1)) ∧ es.map (·.2) = vs ∧ F es vs)
  | [], F, J, vs, w, h, ha => by
    cases vs with
    | nil => exact ⟨[], rfl, rfl, h⟩
    | cons v vs => exact (show False from ha).elim
  | (k, t) :: r, F, J, vs, w, h, ha => by
    cases vs with
    | nil => cases t <;> exact (show False from ha).elim
    | cons v vs =>
      have fin : ∀ (J' : Fn (tys r)), (allSl r fun e vs => F ((k, v) :: e) (v :: vs)) → app (tys r) J' vs w → (∃ es : Env, (es.map (·.1) = ((k, t) :: r).map (·.1)) ∧ es.map (·.2) = v :: vs ∧ F es (v :: vs)) := by
        intro J' h' ha'
        obtain ⟨es, h1, h2, h3⟩ := allSl_spec J' vs w h' ha'
        exact ⟨(k, v) :: es, by simp [h1], by simp [h2], h3⟩
      cases t
      case any => exact fin _ (h v) ha
      all_goals
        cases v <;> first | exact (show False from ha).elim | skip
      case int.int k0 k1 q =>
        obtain ⟨h1, h2⟩ := same_if (show bif same k1 k0 then app (tys r) _ vs w else False from ha)
        subst h1
        exact fin _ (h q) h2
      case sl.slice a n' c => exact fin _ (h a n' c) ha
      all_goals exact fin _ (h _) ha
theorem find_zip : ∀ {es : Env} {sl : List (Nat × Ty)} {vs : List Value} {e : Env}, es.map (·.1) = sl.map (·.1) → es.map (·.2) = vs → (∀ (i k : Nat) (t : Ty), sl[i]? = some (k, t) → ∃ v, vs[i]? = some v ∧ find e k = some v) →
    ∀ t v, find es t = some v → find e t = some v
  | [], _, _, _, _, _, _, t, v, h => by cases h
  | (k, u) :: es, sl, vs, e, h1, h2, h3, t, v, h => by
    cases sl with
    | nil => simp at h1
    | cons s sl =>
      obtain ⟨k', t'⟩ := s
      simp at h1
      obtain ⟨rfl, h1⟩ := h1
      subst h2
      rw [find_cons] at h
      split at h
      · rename_i hk
        subst hk
        cases h
        obtain ⟨v', hv, hf⟩ := h3 0 k t' rfl
        simp at hv
        subst hv
        exact hf
      · exact find_zip h1 rfl (fun i k t hi => by simpa using h3 (i + 1) k t (by simpa using hi)) t v h
theorem find_append (es ek : Env) (t : Nat) : find (es ++ ek) t = (find es t).or (find ek t) := by
  induction es with
  | nil => rfl
  | cons p es ih =>
    obtain ⟨k, v⟩ := p
    rw [List.cons_append, find_cons, find_cons]
    split
    · rfl
    · exact ih
theorem wpIn_loop_nat {F : Fence} {m0 : Nat} {P : Program} {c : Code} {Q : Exit → Act → World → Prop} {a : Act} {w : World} (I : Nat → Act → World → Prop) (m : Nat) (h₀ : I m a w)
    (round : ∀ m a w, I m a w → c.wpIn F m0 P (Exit.then (fun a' w' => ∃ m', m' < m ∧ I m' a' w') Q) a w) : (Code.loop c).wpIn F m0 P Q a w := by
  intro b k cs hro hb hr
  have key : ∀ m a w, I m a w → ∃ e a' w', Q e a' w' ∧ ArrivesIn (Machine.fenced P F) P (lone (b.atR a (.code c :: .inLoop c :: k)) cs w) b k cs e a' w' := by
    intro m
    induction m using Nat.strongRecOn with
    | _ m ih =>
      intro a w hI
      obtain ⟨e, a₁, w₁, hq, harr⟩ := round m a w hI b (.inLoop c :: k) cs hro hb hr
      cases e with
      | normal =>
        obtain ⟨m', hlt, hI₁⟩ := hq
        obtain ⟨e₂, a₂, w₂, hq₂, harr₂⟩ := ih m' hlt a₁ w₁ hI₁
        exact ⟨e₂, a₂, w₂, hq₂, .of_steps (StepsIn.trans harr (.one (fenced_calm hb hr rfl) stepR_inLoop)) harr₂⟩
      | exit id => exact ⟨_, a₁, w₁, hq, .pass (x := .inLoop c) rfl (fun _ _ => .inl (by simp)) harr⟩
      | goto l => exact ⟨_, a₁, w₁, hq, .pass (x := .inLoop c) rfl (fun _ _ => .inl (by simp)) harr⟩
      | ret => exact ⟨_, a₁, w₁, hq, .pass (x := .inLoop c) rfl (fun _ _ => .inl (by simp)) harr⟩
      | panic ch => exact ⟨_, a₁, w₁, hq, .pass (x := .inLoop c) rfl (fun _ _ => .inl (by simp)) harr⟩
      | outgrown => exact ⟨_, a₁, w₁, hq, .pass (x := .inLoop c) rfl (fun _ _ => .inl (by simp)) harr⟩
  obtain ⟨e, a', w', hq, harr⟩ := key m a w h₀
  exact ⟨e, a', w', hq, .of_steps (.one (fenced_calm hb hr rfl) stepR_loop) harr⟩
section
variable {P : Program} {b : Frame} {a : Act} {k : List Item} {cs : List Frame} {w : World}
theorem stepR_scope {c : Code} : step P (lone (b.atR a (.code (.scope c) :: k)) cs w) = .next (lone (b.atR a (.code c :: .inScope c :: k)) cs w) :=
  step_lone_go (by simp [stepG, stepG.exec, Frame.atR])
theorem stepR_inScope {c : Code} : step P (lone (b.atR a (.inScope c :: k)) cs w) = .next (lone (b.atR a k) cs w) :=
  step_lone_go (by simp [stepG, stepG.exec, Frame.atR])
end
theorem exitTo_inScope (id : Nat) (c : Code) (k : List Item) : exitTo id (.inScope c :: k) = exitTo id k := by simp [exitTo]
theorem wpIn_scope_straight {F : Fence} {m0 : Nat} {P : Program} {Q : Exit → Act → World → Prop} {a : Act} {w : World} {c : Code} (h : c.wpIn F m0 P (Exit.noGoto Q) a w) : (Code.scope c).wpIn F m0 P Q a w := by
  intro b k cs hro hb hr
  have h0 : (lone (b.atR a (.code (.scope c) :: k)) cs w).fenced P F := fenced_calm hb hr rfl
  obtain ⟨e, a₁, w₁, hq, harr⟩ := h b (.inScope c :: k) cs hro hb hr
  cases e with
  | normal => exact ⟨.normal, a₁, w₁, hq, .head h0 stepR_scope (StepsIn.trans harr (.one (fenced_calm hb hr rfl) stepR_inScope))⟩
  | exit id => exact ⟨.exit id, a₁, w₁, hq, fun k' hk => .head h0 stepR_scope (harr.1 k' (by rw [exitTo_inScope]; exact hk)), fun hro hk => by
      obtain ⟨k₁, h1, h2⟩ := harr.2 hro (by rw [exitTo_inScope]; exact hk)
      exact ⟨k₁, h1, .head h0 stepR_scope h2⟩⟩
  | goto l => exact hq.elim
  | ret => exact ⟨_, a₁, w₁, hq, .of_steps (.one h0 stepR_scope) harr⟩
  | panic ch => exact ⟨_, a₁, w₁, hq, .of_steps (.one h0 stepR_scope) harr⟩
  | outgrown => exact ⟨_, a₁, w₁, hq, .of_steps (.one h0 stepR_scope) harr⟩

/-- No jump by name. -/
def tame : Exit → Prop
  | .goto _ => False
  | _ => True
/-- What stands behind a piece of code. -/
def Aft (n : Nat) (d0 : List Deferred) (l : List Nat) (a : Act) (Q : Post) (ex : Exit) (a' : Act) (w' : World) : Prop :=
  match ex with
  | .panic ch => a'.defers = d0 ∧ SmA l a a' ∧ Q (.panic ch) [] w'
  | ex => tame ex ∧ (∀ t, t ∉ l → a'.tmps[t]? = a.tmps[t]?) ∧ ∃ e', Ok n d0 a' e' ∧ Q ex e' w'
theorem Aft.widen {n : Nat} {d0 : List Deferred} {l l' : List Nat} {a0 a : Act} {Q : Post} {ex : Exit} {a' : Act} {w' : World} (h : Aft n d0 l a Q ex a' w') (hsz : a.tmps.size = a0.tmps.size) (hl : ∀ t, t ∉ l' → t ∉ l ∧ a.tmps[t]? = a0.tmps[t]?) : Aft n d0 l' a0 Q ex a' w' := by
  cases ex
  case panic ch => exact ⟨h.1, ⟨h.2.1.1.trans hsz, fun t ht => (h.2.1.2 t (hl t ht).1).trans (hl t ht).2⟩, h.2.2⟩
  all_goals exact ⟨h.1, fun t ht => (h.2.1 t (hl t ht).1).trans (hl t ht).2, h.2.2⟩
theorem keep_ok {n : Nat} {d0 : List Deferred} {a a' : Act} {e ek : Env} {ks : List Nat} {l : List Nat} (ha : Ok n d0 a e) (hek : ∀ t v, find ek t = some v → t ∈ ks ∧ find e t = some v) (hks : ks.all (fun k => !l.contains k) = true)
    (hsame : ∀ t, t ∉ l → a'.tmps[t]? = a.tmps[t]?) : ∀ t v, find ek t = some v → a'.tmps[t]? = some v := by
  intro t v hf
  obtain ⟨h1, h2⟩ := hek t v hf
  rw [List.all_eq_true] at hks
  have := hks t h1
  rw [hsame t (by simpa using this)]
  exact ha.at' t v h2

section
variable {P : Program} {pn : List Nat} {n m : Nat} {r0 : Option Nat} {d0 : List Deferred}
theorem anyR_same {Z : Pan} {ops : Array Oper} {cl : Nat → List Nat} {Q : Act → World → Prop} {l : List Nat} (hl : ∀ o ∈ ops.toList, ∀ d, o.dst = some d → d ∈ l) {a0 : Act} : ∀ {f : Nat} {listed : Array Bool} {p : List (Nat × Value)} {a : Act} {w : World},
    (∀ t, t ∉ l → a.tmps[t]? = a0.tmps[t]?) → anyR P Z ops cl Q f listed p a w → anyR P Z ops cl (fun a' w' => (∀ t, t ∉ l → a'.tmps[t]? = a0.tmps[t]?) ∧ Q a' w') f listed p a w
  | 0, _, _, _, _, hs, h => ⟨h.1, hs, h.2⟩
  | f + 1, listed, p, a, w, hs, h => ⟨fun h0 => ⟨hs, h.1 h0⟩, fun j hj o ho => opR_mono (h.2 j hj o ho) fun v w' ⟨h1, h2⟩ => ⟨h1, anyR_same hl (fun t ht => by
      cases hd : o.dst with
      | none => simpa [Act.put] using hs t ht
      | some d =>
        simp only [Act.put]
        rw [Array.getElem?_setIfInBounds_ne (fun e => ht (by rw [← e]; exact hl o (by simpa using Array.mem_of_getElem? ho) d hd))]
        exact hs t ht) h2⟩⟩
theorem denS_sound : ∀ {c : Code} {h s : S} {e : Env} {a : Act} {w : World} {Q : Post}, trS P pn n c h = some s → Ok n d0 a e → denS P s e w Q → c.wpIn (Fr r0) m P (Aft n d0 (asg c) a Q) a w := by
  intro c
  induction c with
  | skip =>
    intro h s e a w Q ht ha hd
    unfold trS at ht; cases ht
    exact wpIn_skip ⟨trivial, fun _ _ => rfl, e, ha, hd⟩
  | exit id =>
    intro h s e a w Q ht ha hd
    unfold trS at ht; cases ht
    exact wpIn_exit ⟨trivial, fun _ _ => rfl, e, ha, hd⟩
  | ret =>
    intro h s e a w Q ht ha hd
    unfold trS at ht; cases ht
    exact wpIn_ret ⟨trivial, fun _ _ => rfl, e, ha, hd⟩
  | region id ops draw =>
    intro h s e a w Q ht ha hd
    unfold trS at ht
    split at ht
    · split at ht
      · rename_i xs hx
        cases ht
        refine wpIn_region_list (denOps_sound (Z := panQ Q) (d0 := d0) (l0 := asg (.region id ops false)) (a0 := a) (fun ch a' w' hdf hsm hz => ⟨hdf, hsm, hz⟩) (fun o ho d hdst => List.mem_filterMap.2 ⟨o, ho, hdst⟩) (SmA.refl _ _) hx ha hd fun a' e' w' h1 h2 h3 => ?_)
        obtain ⟨e'', hk, hq⟩ := keepK_spec h3
        exact ⟨trivial, fun t htn => h2 t (fun o ho hdst => htn (List.mem_filterMap.2 ⟨o, ho, hdst⟩)), e'', h1.keep (fun t v hf => (hk t v hf).2), hq⟩
      · cases ht
    · split at ht
      · rename_i hcond
        simp only [Bool.and_eq_true] at hcond
        obtain ⟨⟨hm, hsel⟩, hcl⟩ := hcond
        split at ht
        · rename_i d' hd'
          cases ht
          have hden := hd w.drew rfl
          have hany := (denD_sound (d0 := d0) hsel (clOk_spec hcl) _ true ops.size _ [] [] d' e a w.drew hd' ha hden (fun j o ho hj => by simp [Array.getElem?_replicate] at hj; split at hj <;> simp at hj) ⟨fun p hp => (nomatch hp)⟩).1 rfl
          have hsame := anyR_same (l := asg (.region id ops true)) (a0 := a) (fun o ho d hdst => List.mem_filterMap.2 ⟨o, ho, hdst⟩) (fun _ _ => rfl) hany
          refine wpIn_region_any hm (anyR_any (d0 := d0) (Q' := Aft n d0 (asg (.region id ops true)) a Q) (fun o ho d hdst => List.mem_filterMap.2 ⟨o, ho, hdst⟩) (fun ch a' w' hdf hsm hz => ⟨hdf, hsm, hz⟩) (fun a' w' ⟨h1, e', h2, h3⟩ => ?_) ha.defers (SmA.refl _ a) hsame)
          obtain ⟨e'', hk, hq⟩ := keepK_spec h3
          exact ⟨trivial, h1, e'', h2.keep (fun t v hf => (hk t v hf).2), hq⟩
        · cases ht
      · cases ht
    · cases ht
  | seq c1 c2 ih1 ih2 =>
    intro h s e a w Q ht ha hd
    cases h <;> first | (unfold trS at ht; cases ht; done) | skip
    case seq s1 s2 =>
      unfold trS at ht
      split at ht
      · rename_i x y h1 h2
        cases ht
        refine wpIn_seq (wpIn_mono (ih1 h1 ha hd) fun ex a' w' hA => ?_)
        cases ex
        case normal =>
          obtain ⟨htm, hs, e', ok', hq⟩ := hA
          exact wpIn_mono (ih2 h2 ok' hq) fun ex2 a2 w2 hB => hB.widen (ok'.size.trans ha.size.symm) fun t htn => ⟨fun h => htn (List.mem_append_right _ h), hs t (fun h => htn (List.mem_append_left _ h))⟩
        case panic ch => exact ⟨hA.1, ⟨hA.2.1.1, fun t htn => hA.2.1.2 t (fun h => htn (List.mem_append_left _ h))⟩, hA.2.2⟩
        all_goals
          obtain ⟨htm, hs, e', ok', hq⟩ := hA
          exact ⟨htm, fun t htn => hs t (fun h => htn (List.mem_append_left _ h)), e', ok', hq⟩
      · cases ht
    case join sl ks s1 s2 =>
      unfold trS at ht
      split at ht
      · rename_i x y h1 h2 hks
        cases ht
        obtain ⟨J, hd1, hd2⟩ := hd
        refine wpIn_seq (wpIn_mono (ih1 h1 ha hd1) fun ex a' w' hA => ?_)
        cases ex
        case normal =>
          obtain ⟨htm, hs, e', ok', hq⟩ := hA
          obtain ⟨vs, ⟨hlen, hvs⟩, happ⟩ := valsK_spec hq
          obtain ⟨es, he1, he2, hF⟩ := allSl_spec J vs w' (hd2 w') happ
          obtain ⟨ek, hk, hden⟩ := keepK_spec (hF happ)
          have ok2 : Ok n d0 a' (es ++ ek) := ⟨ok'.size, ok'.defers, fun t v hf => by
            rw [find_append] at hf
            cases hes : find es t with
            | some u =>
              rw [hes] at hf; cases hf
              exact ok'.at' t _ (find_zip he1 he2 hvs t _ hes)
            | none =>
              rw [hes] at hf
              exact keep_ok ha hk hks hs t v hf⟩
          exact wpIn_mono (ih2 h2 ok2 hden) fun ex2 a2 w2 hB => hB.widen (ok2.size.trans ha.size.symm) fun t htn => ⟨fun h => htn (List.mem_append_right _ h), hs t (fun h => htn (List.mem_append_left _ h))⟩
        case panic ch => exact ⟨hA.1, ⟨hA.2.1.1, fun t htn => hA.2.1.2 t (fun h => htn (List.mem_append_left _ h))⟩, hA.2.2⟩
        all_goals
          obtain ⟨htm, hs, e', ok', hq⟩ := hA
          exact ⟨htm, fun t htn => hs t (fun h => htn (List.mem_append_left _ h)), e', ok', hq⟩
      · cases ht
  | cond x c1 c2 ih1 ih2 =>
    intro h s e a w Q ht ha hd
    cases h <;> first | (unfold trS at ht; cases ht; done) | skip
    unfold trS at ht
    split at ht
    · rename_i s1 s2 h1 h2
      cases ht
      obtain ⟨v, hv, hd⟩ := rdK_spec hd
      cases v <;> first | exact (show False from hd).elim | skip
      rename_i t
      refine wpIn_cond (t := t) (ha.eval _ _ hv) ?_
      cases t
      · exact wpIn_mono (ih2 h2 ha hd) fun ex a' w' hA => hA.widen rfl fun t htn => ⟨fun h => htn (List.mem_append_right _ h), rfl⟩
      · exact wpIn_mono (ih1 h1 ha hd) fun ex a' w' hA => hA.widen rfl fun t htn => ⟨fun h => htn (List.mem_append_left _ h), rfl⟩
    · cases ht
  | block id c1 ih =>
    intro h s e a w Q ht ha hd
    cases h <;> first | (unfold trS at ht; cases ht; done) | skip
    unfold trS at ht
    split at ht
    · rename_i s1 h1
      cases ht
      refine wpIn_block (wpIn_mono (ih h1 ha hd) fun ex a' w' hA => ?_)
      cases ex
      case exit id' =>
        obtain ⟨htm, hs, e', ok', hq⟩ := hA
        simp only [Exit.inBlock]
        simp only [inBlockE] at hq
        cases hb : Nat.beq id' id
        · rw [hb] at hq
          have hne : id' ≠ id := fun e => by subst e; simp at hb
          rw [if_neg hne]
          exact ⟨trivial, hs, e', ok', hq⟩
        · rw [hb] at hq
          rw [if_pos (Nat.eq_of_beq_eq_true hb)]
          exact ⟨trivial, hs, e', ok', hq⟩
      all_goals exact hA
    · cases ht
  | loop c1 ih =>
    intro h s e a w Q ht ha hd
    cases h <;> first | (unfold trS at ht; cases ht; done) | skip
    rename_i sl ks s0
    unfold trS at ht
    split at ht
    · rename_i s1 h1 hks
      cases ht
      obtain ⟨I, ⟨m, hm⟩, hround⟩ := hd
      let I' : Nat → Act → World → Prop := fun m a' w' => a'.tmps.size = n ∧ a'.defers = d0 ∧ (∀ t, t ∉ asg c1 → a'.tmps[t]? = a.tmps[t]?) ∧ ∃ e', Ok n d0 a' e' ∧ valsK e' sl fun vs => app (tys sl) (I m) vs w'
      refine wpIn_loop_nat I' m ⟨ha.size, ha.defers, fun _ _ => rfl, e, ha, hm⟩ fun m a' w' hI => ?_
      obtain ⟨hsz, hdf, hs, e', ok', hv⟩ := hI
      obtain ⟨vs, ⟨hlen, hvs⟩, happ⟩ := valsK_spec hv
      obtain ⟨es, he1, he2, hF⟩ := allSl_spec (I m) vs w' (hround m w') happ
      obtain ⟨ek, hk, hden⟩ := keepK_spec (hF happ)
      have ok2 : Ok n d0 a' (es ++ ek) := ⟨hsz, hdf, fun t v hf => by
        rw [find_append] at hf
        cases hes : find es t with
        | some u =>
          rw [hes] at hf; cases hf
          exact ok'.at' t _ (find_zip he1 he2 hvs t _ hes)
        | none =>
          rw [hes] at hf
          exact keep_ok ha hk hks hs t v hf⟩
      refine wpIn_mono (ih h1 ok2 hden) fun ex a2 w2 hA => ?_
      cases ex
      case normal =>
        obtain ⟨htm, hs2, e2, ok3, hq⟩ := hA
        obtain ⟨m', hlt, hv'⟩ := hq
        exact ⟨m', hlt, ok3.size, ok3.defers, fun t htn => by rw [hs2 t htn, hs t htn], e2, ok3, hv'⟩
      case panic ch => exact ⟨hA.1, ⟨hA.2.1.1.trans (hsz.trans ha.size.symm), fun t htn => by rw [hA.2.1.2 t htn, hs t htn]⟩, hA.2.2⟩
      all_goals
        obtain ⟨htm, hs2, e2, ok3, hq⟩ := hA
        exact ⟨htm, fun t htn => by rw [hs2 t htn, hs t htn], e2, ok3, hq⟩
    · cases ht
  | scope c1 ih =>
    intro h s e a w Q ht ha hd
    cases h <;> first | (unfold trS at ht; cases ht; done) | skip
    unfold trS at ht
    split at ht
    · rename_i s1 h1
      cases ht
      refine wpIn_scope_straight (wpIn_mono (ih h1 ha hd) fun ex a' w' hA => ?_)
      cases ex
      case goto l => exact hA.1.elim
      all_goals exact hA
    · cases ht
  | _ =>
    intro h s e a w Q ht ha hd
    unfold trS at ht
    cases ht
end
def trRes (P : Program) : ResultVar → Option Res
  | .tmp t => some (.t t)
  | .cell t T => if aggT P T then (if (P.info? T).isSome then some (.cN t (P.cellsOf T)) else none) else if (P.underlying T).isSome then some (.c1 t (tyOf P T)) else none
def trRess (P : Program) : List ResultVar → Option (List Res)
  | [] => some []
  | r :: l =>
    match trRes P r, trRess P l with
    | some x, some xs => some (x :: xs)
    | _, _ => none
def resF (tmps : Array Value) : ResultVar → Sem Value
  | .tmp t => pure (tmps.getD t undef)
  | .cell b t => do loadVar t (← asAddr (tmps.getD b undef))
theorem run_mapM_cons {P : Program} {α : Type} {f : α → Sem Value} {x : α} {l : List α} {v : Value} {vs : List Value} {w : World} (h1 : (f x).run P w = .ok v w) (h2 : Sem.run P (l.mapM f) w = .ok vs w) : Sem.run P ((x :: l).mapM f) w = .ok (v :: vs) w := by
  rw [List.mapM_cons]
  simp [h1, h2, Result.andThen]
theorem getD_of {a : Array Value} {t : Nat} {v : Value} (h : a[t]? = some v) : a.getD t undef = v := by simp [h]
theorem resK_run {P : Program} {n : Nat} {d0 : List Deferred} {a : Act} {e : Env} {w : World} (ha : Ok n d0 a e) : ∀ {l : List ResultVar} {rs : List Res} {K : List Value → Prop}, trRess P l = some rs → resK e w rs K →
    ∃ vs, K vs ∧ Sem.run P (l.mapM (resF a.tmps)) w = .ok vs w
  | [], rs, K, ht, h => by cases ht; exact ⟨[], h, by simp⟩
  | r :: l, rs, K, ht, h => by
    unfold trRess at ht
    split at ht
    · rename_i x xs h1 h2
      cases ht
      cases r with
      | tmp t =>
        cases h1
        simp only [resK] at h
        split at h
        · rename_i v hv
          obtain ⟨vs, k1, k2⟩ := resK_run ha h2 h
          refine ⟨v :: vs, k1, run_mapM_cons ?_ k2⟩
          show Sem.run P (pure (a.tmps.getD t undef)) w = _
          rw [getD_of (ha.at' _ _ hv)]
          rfl
        · exact h.elim
      | cell b T =>
        simp only [trRes] at h1
        split at h1
        · rename_i hagg
          split at h1
          · rename_i hi
            cases h1
            simp only [resK] at h
            split at h
            · rename_i ad hv
              obtain ⟨cs, c1, c2, h⟩ := h
              obtain ⟨vs, k1, k2⟩ := resK_run ha h2 h
              refine ⟨.agg cs.toArray :: vs, k1, run_mapM_cons ?_ k2⟩
              have hu : ∃ d, P.underlying T = some d := by
                unfold aggT at hagg
                split at hagg <;> first | exact ⟨_, by assumption⟩ | cases hagg
              obtain ⟨d, hu⟩ := hu
              have hl := run_loadCells_cells (P := P) c2
              show Sem.run P (do loadVar T (← asAddr (a.tmps.getD b undef))) w = _
              rw [getD_of (ha.at' _ _ hv)]
              simp [asAddr, loadVar, run_isAgg_any hu, hagg, run_sizeOf_some hi, ← c1, hl, Result.andThen]
            · exact h.elim
          · cases h1
        · rename_i hagg
          split at h1
          · rename_i hu
            cases h1
            obtain ⟨d, hu⟩ := Option.isSome_iff_exists.1 hu
            simp only [resK] at h
            split at h
            · rename_i ad hv
              obtain ⟨u, hc, h⟩ := exTy_spec h
              obtain ⟨vs, k1, k2⟩ := resK_run ha h2 h
              refine ⟨u :: vs, k1, run_mapM_cons ?_ k2⟩
              show Sem.run P (do loadVar T (← asAddr (a.tmps.getD b undef))) w = _
              rw [getD_of (ha.at' _ _ hv)]
              simp [asAddr, loadVar, run_isAgg_any hu, hagg, load, Sem.run, hc, Result.andThen]
            · exact h.elim
          · cases h1
    · cases ht
theorem results_eq (fn : Func) (tmps : Array Value) : results fn tmps = (do let vs ← fn.results.mapM (resF tmps); pure (if h : vs.size = 1 then vs[0] else .tuple vs)) := by
  unfold results
  rfl
theorem run_results {P : Program} {fn : Func} {n : Nat} {d0 : List Deferred} {a : Act} {e : Env} {w : World} {rs : List Res} {K : Value → Prop} (hr : trRess P fn.results.toList = some rs) (ha : Ok n d0 a e)
    (h : resK e w rs fun vs => K (endV vs)) : ∃ v, (results fn a.tmps).run P w = .ok v w ∧ K v := by
  obtain ⟨vs, h1, h2⟩ := resK_run ha hr h
  refine ⟨_, ?_, h1⟩
  rw [results_eq, Array.mapM_eq_mapM_toList]
  simp [h2, Result.andThen]
  match vs with
  | [] => rfl
  | [v] => rfl
  | u :: v :: r => rfl
theorem find_args : ∀ {l : List Value} {k t : Nat} {v : Value}, find (argsEnv k l) t = some v → k ≤ t ∧ l[t - k]? = some v
  | [], _, _, _, h => by cases h
  | u :: r, k, t, v, h => by
    simp only [argsEnv] at h
    rw [find_cons] at h
    split at h
    · rename_i hk; subst hk; cases h; simp
    · rename_i hk
      obtain ⟨h1, h2⟩ := find_args h
      refine ⟨by omega, ?_⟩
      rw [show t - k = (t - (k + 1)) + 1 by omega, List.getElem?_cons_succ]
      exact h2
/-- A CALL, out of its code's denotation. -/
theorem calls_of_den {P : Program} {pn : List Nat} {f : FuncId} {fn : Func} {c : Code} {h s : S} {rs : List Res} {args : List Value} {w : World} {R : Ending → World → Prop} (hf : P.funcs[f]? = some fn) (hb : fn.body = some c) (hn : args.length ≤ fn.ntmps)
    (ht : trS P pn fn.ntmps c h = some s) (hr : trRess P fn.results.toList = some rs) (hd : denS P s (argsEnv 0 args) w (endK rs R)) : Calls P f args.toArray w R := by
  refine calls_of_wp hf hb ?_
  have ha : Ok fn.ntmps [] { tmps := args.toArray ++ Array.replicate (fn.ntmps - args.toArray.size) undef, defers := [] } (argsEnv 0 args) := by
    refine ⟨by simp; omega, rfl, fun t v hf => ?_⟩
    obtain ⟨_, h2⟩ := find_args hf
    have hlt : t < args.length := (List.getElem?_eq_some_iff.1 h2).1
    simp only [Nat.sub_zero] at h2
    obtain ⟨_, h3⟩ := List.getElem?_eq_some_iff.1 h2
    simp [Array.getElem?_append, hlt, h3]
  refine (wpIn_wide (n := 0)).1 (wpIn_mono (denS_sound (r0 := none) (m := 0) ht ha hd) fun ex a' w' hA => ?_)
  cases ex with
  | normal =>
    obtain ⟨htm, hs, e', ok', hq⟩ := hA
    obtain ⟨v, h1, h2⟩ := run_results (K := fun v => R (.returned v) w') hr ok' hq
    exact ⟨ok'.defers, v, h1, h2⟩
  | ret =>
    obtain ⟨htm, hs, e', ok', hq⟩ := hA
    obtain ⟨v, h1, h2⟩ := run_results (K := fun v => R (.returned v) w') hr ok' hq
    exact ⟨ok'.defers, v, h1, h2⟩
  | panic ch => exact ⟨hA.1, hA.2.2⟩
  | _ =>
    obtain ⟨htm, hs, e', ok', hq⟩ := hA
    exact hq.elim
end Go.Proofs.YtjchneebdlncfaaDoor.Den
namespace Go.Proofs.YtjchneebdlncfaaDoor.Den
open Go
open Go.RowKit (Below)
/-! ### Numbers -/
theorem wrap_i64 {n : Int} (h1 : -9223372036854775808 ≤ n) (h2 : n ≤ 9223372036854775807) : IntKind.wrap .i64 n = n := by
  simp [IntKind.wrap, IntKind.bits, IntKind.signed]
  split <;> omega
theorem wrap_u8 {n : Int} (h1 : 0 ≤ n) (h2 : n < 256) : IntKind.wrap .u8 n = n := by
  simp [IntKind.wrap, IntKind.bits, IntKind.signed]
  omega
theorem wrap_u32 {n : Int} (h1 : 0 ≤ n) (h2 : n < 4294967296) : IntKind.wrap .u32 n = n := by
  simp [IntKind.wrap, IntKind.bits, IntKind.signed]
  omega
theorem wrap_u64 {n : Int} (h1 : 0 ≤ n) (h2 : n < 18446744073709551616) : IntKind.wrap .u64 n = n := by
  simp [IntKind.wrap, IntKind.bits, IntKind.signed]
  omega
theorem wrap_u8_eq (n : Int) : IntKind.wrap .u8 n = n % 256 := by simp [IntKind.wrap, IntKind.bits, IntKind.signed]
theorem wrap_u64_eq (n : Int) : IntKind.wrap .u64 n = n % 18446744073709551616 := by simp [IntKind.wrap, IntKind.bits, IntKind.signed]
theorem bOr_comm (k : IntKind) (x y : Int) : bOr k x y = bOr k y x := by unfold bOr; rw [BitVec.or_comm]

/-! ### Blocks -/
theorem add_mk (b o n : Nat) : Addr.add ⟨b, o, none⟩ n = ⟨b, o + n, none⟩ := by
  unfold Addr.add
  split
  · rename_i h; subst h; rfl
  · rfl
/-- The block's cells, not frozen. -/
def Blk (w : World) (b : Nat) (cs : List Value) : Prop := ∃ T, w.heap[b]? = some (.cells cs.toArray T (0, 0))
theorem Blk.cell {w : World} {b : Nat} {cs : List Value} (h : Blk w b cs) (o : Nat) : w.cell? ⟨b, o, none⟩ = cs[o]? := by
  obtain ⟨T, h⟩ := h
  simp [World.cell?, h]
theorem Blk.frozen {w : World} {b : Nat} {cs : List Value} (h : Blk w b cs) (o : Nat) : w.frozen? ⟨b, o, none⟩ = false := by
  obtain ⟨T, h⟩ := h
  simp [World.frozen?, h]
theorem Blk.lt {w : World} {b : Nat} {cs : List Value} (h : Blk w b cs) : b < w.heap.size := by
  obtain ⟨T, h⟩ := h
  exact (Array.getElem?_eq_some_iff.1 h).1
theorem Blk.of_heap {w w' : World} {b : Nat} {cs : List Value} (h : Blk w b cs) (e : w'.heap[b]? = w.heap[b]?) : Blk w' b cs := by
  obtain ⟨T, h⟩ := h
  exact ⟨T, e.trans h⟩
theorem Blk.drew {w : World} {b : Nat} {cs : List Value} (h : Blk w b cs) : Blk w.drew b cs := h.of_heap rfl
theorem Blk.alloc {w : World} {b : Nat} {cs : List Value} (h : Blk w b cs) (o : Obj) : Blk (w.alloc o) b cs := h.of_heap (Below.heap_alloc w o b h.lt)
theorem Blk.new (w : World) (c : Array Value) (T : TypeId) : Blk (w.alloc (.cells c T)) w.heap.size c.toList := ⟨T, by show (w.heap.push _)[w.heap.size]? = _; simp⟩
theorem Blk.set {w : World} {b : Nat} {cs : List Value} (h : Blk w b cs) (o : Nat) (v : Value) : Blk (w.setCell ⟨b, o, none⟩ v) b (cs.set o v) := by
  obtain ⟨T, h⟩ := h
  exact ⟨T, by simp [World.setCell, Array.getElem?_modify, h]⟩
theorem Blk.set_ne {w : World} {b : Nat} {cs : List Value} (h : Blk w b cs) {a : Addr} (hne : b ≠ a.block) (v : Value) : Blk (w.setCell a v) b cs := h.of_heap (Below.heap_setCell w a v b hne)
theorem Blk.below {B : Nat} {w w' : World} {b : Nat} {cs : List Value} (h : Blk w b cs) (hb : Below B w w') (hlt : b < B) : Blk w' b cs := h.of_heap (hb.block b hlt)
theorem Blk.cells {w : World} {b : Nat} {cs : List Value} (h : Blk w b cs) : Cells w ⟨b, 0, none⟩ cs := fun i v hv => by
  rw [add_mk, h.cell]; simpa using hv
theorem Blk.cells_at {w : World} {b : Nat} {cs : List Value} (h : Blk w b cs) (o n : Nat) : Cells w ⟨b, o, none⟩ ((cs.drop o).take n) := fun i v hv => by
  rw [add_mk, h.cell]
  rw [List.getElem?_take] at hv
  split at hv
  · rwa [List.getElem?_drop] at hv
  · cases hv
theorem Blk.room {w : World} {b : Nat} {cs : List Value} (h : Blk w b cs) (o n : Nat) (hn : o + n ≤ cs.length) : Room w ⟨b, o, none⟩ n := fun i hi => by
  rw [add_mk, h.cell, h.frozen]
  have : o + i < cs.length := by omega
  simp [this]
theorem Blk.sets {b o : Nat} : ∀ {vs : List Value} {i : Nat} {w : World} {cs : List Value}, Blk w b cs → o + i + vs.length ≤ cs.length → Blk (setCells w ⟨b, o, none⟩ vs i) b (splice cs (o + i) vs)
  | [], i, w, cs, h, _ => by simpa [setCells, splice] using h
  | v :: r, i, w, cs, h, hl => by
    unfold setCells
    rw [add_mk]
    simp only [List.length_cons] at hl
    have := Blk.sets (b := b) (o := o) (vs := r) (i := i + 1) (h.set (o + i) v) (by simp; omega)
    have e : splice (cs.set (o + i) v) (o + (i + 1)) r = splice cs (o + i) (v :: r) := by
      simp only [splice, List.length_cons]
      apply List.ext_getElem?
      intro j
      simp only [List.getElem?_append, List.getElem?_take, List.getElem?_drop, List.getElem?_set, List.length_take, List.length_set, List.getElem?_cons]
      rcases Nat.lt_trichotomy j (o + i) with h | h | h
      · have h1 : j < min (o + (i + 1)) cs.length := by omega
        have h2 : j < min (o + i) cs.length := by omega
        rw [if_pos h1, if_pos h2, if_pos (by omega), if_neg (by omega), if_pos h]
      · subst h
        have h1 : o + i < min (o + (i + 1)) cs.length := by omega
        have h2 : ¬ o + i < min (o + i) cs.length := by omega
        rw [if_pos h1, if_neg h2]
        simp [show o + i < cs.length by omega, show o + i < o + (i + 1) by omega, show min (o + i) cs.length = o + i by omega]
      · have h1 : ¬ j < min (o + (i + 1)) cs.length := by omega
        have h2 : ¬ j < min (o + i) cs.length := by omega
        rw [if_neg h1, if_neg h2, show min (o + (i + 1)) cs.length = o + (i + 1) by omega, show min (o + i) cs.length = o + i by omega]
        have hl2 : (v :: r).length = r.length + 1 := rfl
        by_cases h3 : j - (o + (i + 1)) < r.length
        · rw [if_pos h3, if_pos (by omega), if_neg (by omega)]
          congr 1
        · rw [if_neg h3, if_neg (by omega), if_neg (by omega)]
          congr 1; omega
    rw [← e]
    exact this
theorem size_setCells {b o : Nat} : ∀ {vs : List Value} {i : Nat} {w : World}, (setCells w ⟨b, o, none⟩ vs i).heap.size = w.heap.size
  | [], _, _ => rfl
  | v :: r, i, w => by unfold setCells; rw [size_setCells]; simp [World.setCell]
theorem splice_all {l vs : List Value} (h : vs.length = l.length) : splice l 0 vs = vs := by simp [splice, h]

/-! ### Rows that are read -/
def Row (w : World) (a : Option Addr) (cs : List Value) : Prop := cs = [] ∨ ∃ b o, a = some ⟨b, o, none⟩ ∧ Cells w ⟨b, o, none⟩ cs
theorem Row.get {w : World} {a : Option Addr} {cs : List Value} (h : Row w a cs) {i : Nat} (hi : i < cs.length) : ∃ b o, a = some ⟨b, o, none⟩ ∧ w.cell? ⟨b, o + i, none⟩ = some cs[i] := by
  rcases h with rfl | ⟨b, o, h1, h2⟩
  · simp at hi
  · refine ⟨b, o, h1, ?_⟩
    have := h2 i cs[i] (by simp [hi])
    rwa [add_mk] at this
theorem cells_below {B : Nat} {w w' : World} {b o : Nat} {cs : List Value} (h : Cells w ⟨b, o, none⟩ cs) (hb : Below B w w') (hlt : b < B) : Cells w' ⟨b, o, none⟩ cs := fun i v hv => by
  have := h i v hv
  rw [add_mk] at this ⊢
  rw [hb.cell (p := ⟨b, o + i, none⟩) hlt]; exact this
theorem Row.below {w w' : World} {a : Option Addr} {cs : List Value} (h : Row w a cs) (hb : Below w.heap.size w w') : Row w' a cs := by
  rcases h with rfl | ⟨b, o, h1, h2⟩
  · exact .inl rfl
  · by_cases hc : cs = []
    · exact .inl hc
    · refine .inr ⟨b, o, h1, cells_below h2 hb ?_⟩
      cases cs with
      | nil => exact absurd rfl hc
      | cons v r =>
        have := h2 0 v rfl
        rw [add_mk] at this
        exact World.block_lt_of_cell? _ _ this
theorem Row.sub {w : World} {a : Option Addr} {cs : List Value} (h : Row w a cs) (o n : Nat) (p : Prop) [Decidable p] (hp : p → (cs.drop o).take n = []) : Row w (if p then a else a.map (·.add o)) ((cs.drop o).take n) := by
  split
  · exact .inl (hp ‹_›)
  · rcases h with rfl | ⟨b, q, h1, h2⟩
    · exact .inl (by simp)
    · refine .inr ⟨b, q + o, by simp [h1, add_mk], fun i v hv => ?_⟩
      rw [List.getElem?_take] at hv
      split at hv
      · rw [List.getElem?_drop] at hv
        have := h2 _ _ hv
        rw [add_mk] at this ⊢
        rw [Nat.add_assoc]; exact this
      · cases hv
theorem Blk.row {w : World} {b : Nat} {cs : List Value} (h : Blk w b cs) : Row w (some ⟨b, 0, none⟩) cs := .inr ⟨b, 0, rfl, h.cells⟩
theorem Row.take {w : World} {a : Option Addr} {cs : List Value} (h : Row w a cs) (n : Nat) : Row w a (cs.take n) := by
  rcases h with rfl | ⟨b, q, h1, h2⟩
  · exact .inl (by simp)
  · exact .inr ⟨b, q, h1, fun i v hv => h2 i v (by rw [List.getElem?_take] at hv; split at hv; exact hv; cases hv)⟩
end Go.Proofs.YtjchneebdlncfaaDoor.Den
namespace Go.Proofs.YtjchneebdlncfaaDoor.Den
open Go
open Go.RowKit (Below)
/-- A slice value that reads as these cells. -/
structure RSl (w : World) (sz : Nat) (a : Option Addr) (n c : Nat) (cs : List Value) : Prop where
  cap : n ≤ c
  len : cs.length = n * sz
  ones : ∀ u ∈ cs, one u = true
  at' : c = 0 ∨ ∃ b o, a = some ⟨b, o, none⟩ ∧ Cells w ⟨b, o, none⟩ cs
/-- Where its cells are read from, whatever address it has. -/
theorem RSl.from {w : World} {sz n c : Nat} {a : Option Addr} {cs : List Value} (h : RSl w sz a n c cs) : (a = none ∧ c = 0) ∨ ∃ ad, a = some ad ∧ ∀ i v, cs[i]? = some v → w.cell? (ad.add i) = some v := by
  rcases h.at' with hc | ⟨b, o, h1, h2⟩
  · cases a with
    | none => exact .inl ⟨rfl, hc⟩
    | some ad =>
      refine .inr ⟨ad, rfl, fun i v hv => ?_⟩
      have hn : n = 0 := by have := h.cap; omega
      have hl := h.len
      rw [hn, Nat.zero_mul] at hl
      rw [List.length_eq_zero_iff.1 hl] at hv
      simp at hv
  · exact .inr ⟨_, h1, h2⟩
theorem RSl.row {w : World} {sz n c : Nat} {a : Option Addr} {cs : List Value} (h : RSl w sz a n c cs) : Row w a cs := by
  rcases h.at' with hc | h'
  · have hn : n = 0 := by have := h.cap; omega
    have hl := h.len
    rw [hn, Nat.zero_mul] at hl
    exact .inl (List.length_eq_zero_iff.1 hl)
  · exact .inr h'
theorem RSl.below {w w' : World} {sz n c : Nat} {a : Option Addr} {cs : List Value} (h : RSl w sz a n c cs) (hb : Below w.heap.size w w') : RSl w' sz a n c cs := by
  refine ⟨h.cap, h.len, h.ones, ?_⟩
  rcases h.at' with h' | ⟨b, o, h1, h2⟩
  · exact .inl h'
  · refine .inr ⟨b, o, h1, fun i v hv => ?_⟩
    have := h2 i v hv
    rw [add_mk] at this ⊢
    rw [hb.cell (p := ⟨b, o + i, none⟩) (World.block_lt_of_cell? _ _ this)]
    exact this
theorem RSl.nil (w : World) (sz : Nat) : RSl w sz none 0 0 [] := ⟨Nat.le_refl _, by simp, by simp, .inl rfl⟩
/-- An element's cells. -/
theorem RSl.get {w : World} {sz n c : Nat} {a : Option Addr} {cs : List Value} (h : RSl w sz a n c cs) {i : Nat} (hi : i < n) (hsz : 0 < sz) :
    ∃ b o, a = some ⟨b, o, none⟩ ∧ Cells w ⟨b, o + i * sz, none⟩ ((cs.drop (i * sz)).take sz) := by
  rcases h.at' with hc | ⟨b, o, h1, h2⟩
  · have := h.cap; omega
  · refine ⟨b, o, h1, fun j v hv => ?_⟩
    rw [List.getElem?_take] at hv
    split at hv
    · rw [List.getElem?_drop] at hv
      have := h2 _ _ hv
      rw [add_mk] at this ⊢
      rw [Nat.add_assoc]; exact this
    · cases hv
theorem RSl.get1 {w : World} {n c : Nat} {a : Option Addr} {cs : List Value} (h : RSl w 1 a n c cs) {i : Nat} {v : Value} (hv : cs[i]? = some v) :
    ∃ b o, a = some ⟨b, o, none⟩ ∧ w.cell? ⟨b, o + i, none⟩ = some v := by
  have hi : i < cs.length := (List.getElem?_eq_some_iff.1 hv).1
  rcases h.at' with hc | ⟨b, o, h1, h2⟩
  · have := h.cap; have := h.len; omega
  · refine ⟨b, o, h1, ?_⟩
    have := h2 i v hv
    rwa [add_mk] at this
theorem RSl.sub {w : World} {sz n c : Nat} {a : Option Addr} {cs : List Value} (h : RSl w sz a n c cs) {l hh : Nat} (h1 : l ≤ hh) (h2 : hh ≤ n) :
    RSl w sz (if c = l then a else a.map fun y => y.add (l * sz)) (hh - l) (c - l) ((cs.drop (l * sz)).take ((hh - l) * sz)) := by
  have hcap := h.cap
  have hle : l * sz ≤ n * sz := Nat.mul_le_mul_right _ (Nat.le_trans h1 h2)
  have hle2 : hh * sz ≤ n * sz := Nat.mul_le_mul_right _ h2
  refine ⟨by omega, ?_, fun u hu => h.ones u (List.mem_of_mem_drop (List.mem_of_mem_take hu)), ?_⟩
  · rw [List.length_take, List.length_drop, h.len, Nat.min_eq_left]
    rw [Nat.sub_mul]; omega
  · split
    · rename_i hcl
      have : hh - l = 0 := by omega
      rw [this, Nat.zero_mul, List.take_zero]
      rcases h.at' with hc | ⟨b, o, ha, _⟩
      · exact .inl (by omega)
      · exact .inr ⟨b, o, ha, fun i v hv => by simp at hv⟩
    · rcases h.at' with hc | ⟨b, o, ha, hb⟩
      · exfalso; omega
      · refine .inr ⟨b, o + l * sz, by simp [ha, add_mk], fun i v hv => ?_⟩
        rw [List.getElem?_take] at hv
        split at hv
        · rw [List.getElem?_drop] at hv
          have := hb _ _ hv
          rw [add_mk] at this ⊢
          rw [Nat.add_assoc]; exact this
        · cases hv
theorem Blk.rsl {w : World} {b sz n : Nat} {cs : List Value} (h : Blk w b cs) (hn : cs.length = n * sz) (h1 : ∀ u ∈ cs, one u = true) : RSl w sz (some ⟨b, 0, none⟩) n n cs :=
  ⟨Nat.le_refl _, hn, h1, .inr ⟨b, 0, rfl, h.cells⟩⟩

/-! ### append -/
def slT (P : Program) (t e : TypeId) (size bytes : Nat) : Bool :=
  match P.underlying t, P.info? e with
  | some (.slice e'), some i => e' == e && i.size == size && i.bytes == bytes && (match i.zero with | some z => z.cells.size == size | none => false) && decide (0 < size)
  | _, _ => false
theorem slT_spec {P : Program} {t e : TypeId} {size bytes : Nat} (h : slT P t e size bytes = true) :
    P.underlying t = some (.slice e) ∧ 0 < size ∧ ∃ i z, P.info? e = some i ∧ i.zero = some z ∧ i.size = size ∧ i.bytes = bytes ∧ z.cells.size = size := by
  unfold slT at h
  split at h
  · rename_i e' i h1 h2
    simp only [Bool.and_eq_true, beq_iff_eq, decide_eq_true_eq] at h
    obtain ⟨⟨⟨⟨rfl, h3⟩, h4⟩, h5⟩, h6⟩ := h
    split at h5
    · rename_i z hz
      exact ⟨h1, h6, i, z, h2, hz, h3, h4, by simpa using h5⟩
    · cases h5
  · cases h
theorem ones_cells {cs : List Value} : (∀ u ∈ cs, one u = true) ↔ ∀ u ∈ cs, u.oneCell' = true := by
  constructor <;> intro h u hu <;> have := h u hu <;> rwa [one_eq] at *
/-- append onto a slice that the call owns. -/
theorem app_own {P : Program} {t e ty : TypeId} {size bytes : Nat} (hT : slT P t e size bytes = true) {w : World} {base : Nat} {a : Option Addr} {n c : Nat} {xs : List Value} (hown : w.ownsRow base e size (.slice a n c) n xs)
    {b : Option Addr} {m mc : Nat} {ys : List Value} (hy : RSl w size b m mc ys) (hb : base ≤ w.heap.size) (hlen : n + m ≤ 9223372036854775807) (hbytes : (n + m) * bytes ≤ 140737488355328) {K : Value → World → Prop}
    (hK : ∀ a' c' w', w'.ownsRow base e size (.slice a' (n + m) c') (n + m) (xs ++ ys) → w.grownBy w' (Value.slice a n c).ownBlock → K (.slice a' (n + m) c') w') :
    RunV P (Builtin.append_ #[t, t] ty #[.slice a n c, .slice b m mc]) w K := by
  obtain ⟨h1, h2, i, z, h3, h4, h5, h6, h7⟩ := slT_spec hT
  obtain ⟨rfl, hm⟩ | ⟨ad, rfl, hcells⟩ : (b = none ∧ mc = 0) ∨ ∃ ad, b = some ad ∧ ∀ i v, ys[i]? = some v → w.cell? (ad.add i) = some v := hy.from
  · subst hm
    have hm : m = 0 := by have := hy.cap; omega
    subst hm
    have hys : ys = [] := by have := hy.len; rw [Nat.zero_mul] at this; exact List.length_eq_zero_iff.1 this
    subst hys
    refine ⟨_, _, run_append_owned_none w base t ty e i size h1 h3 _ n xs hown, ?_⟩
    have := hK a c w (by simpa using hown) ⟨rfl, rfl, rfl, Nat.le_refl _, fun _ _ _ => rfl⟩
    simpa using this
  · obtain ⟨v', w', r1, r2, r3, r4⟩ := run_append_own w base t ty e i z size bytes h1 h3 h4 h5 h6 h7 h2 (.slice a n c) n xs hown ad m mc ys hy.len hcells (ones_cells.1 hy.ones) (by unfold maxLen; omega) hbytes hb
    refine ⟨v', w', r1, ?_⟩
    have hv : ∃ a' c', v' = .slice a' (n + m) c' := by
      rcases r2.2 with ⟨rfl, h0⟩ | ⟨g, cap, cur, rfl, _⟩
      · exact ⟨none, 0, by rw [h0]⟩
      · exact ⟨_, _, rfl⟩
    obtain ⟨a', c', rfl⟩ := hv
    exact hK a' c' w' r2 r3
theorem own_nil (w : World) (base e size : Nat) : w.ownsRow base e size (.slice none 0 0) 0 [] := ⟨by simp, .inl ⟨rfl, rfl⟩⟩
theorem own_new (w : World) {base e size n : Nat} {cs : List Value} (hb : base ≤ w.heap.size) (hn : cs.length = n * size) (hm : n ≤ 9223372036854775807) :
    (w.alloc (.cells cs.toArray e)).ownsRow base e size (.slice (some ⟨w.heap.size, 0, none⟩) n n) n cs := by
  have := World.ownsRow_lit (e := e) (size := size) (base := base) w cs.toArray n hb (by unfold maxLen; exact hm) (by simpa using hn)
  simpa using this
/-- What is owned is read. -/
theorem own_rsl {w : World} {base e size : Nat} {a : Option Addr} {n c : Nat} {xs : List Value} (h : w.ownsRow base e size (.slice a n c) n xs) (h1 : ∀ u ∈ xs, one u = true) : RSl w size a n c xs := by
  obtain ⟨hl, ⟨hv, hn⟩ | ⟨g, cap, cur, hv, hg, hh, hnc, hm, hs, ht⟩⟩ := h
  · cases hv
    exact ⟨Nat.le_refl _, hl, h1, .inl rfl⟩
  · cases hv
    refine ⟨hnc, hl, h1, .inr ⟨g, 0, rfl, fun i v hv => ?_⟩⟩
    rw [add_mk, Nat.zero_add]
    simp only [World.cell?, hh]
    rw [← ht, List.getElem?_take] at hv
    split at hv
    · simpa using hv
    · cases hv
/-- It stays owned where its block stays. -/
theorem own_keep {w w' : World} {base e size : Nat} {v : Value} {n : Nat} {xs : List Value} (h : w.ownsRow base e size v n xs) (hk : ∀ k, v.ownBlock = some k → w'.heap[k]? = w.heap[k]?) : w'.ownsRow base e size v n xs := by
  obtain ⟨hl, h0 | ⟨g, cap, cur, rfl, hg, hh, r⟩⟩ := h
  · exact ⟨hl, .inl h0⟩
  · exact ⟨hl, .inr ⟨g, cap, cur, rfl, hg, by rw [hk g rfl]; exact hh, r⟩⟩
theorem own_lt {w : World} {base e size : Nat} {v : Value} {n : Nat} {xs : List Value} (h : w.ownsRow base e size v n xs) {k : Nat} (hk : v.ownBlock = some k) : base ≤ k ∧ k < w.heap.size := by
  obtain ⟨hl, ⟨rfl, _⟩ | ⟨g, cap, cur, rfl, hg, hh, r⟩⟩ := h
  · cases hk
  · simp only [Value.ownBlock, Option.some.injEq] at hk
    subst hk
    exact ⟨hg, (Array.getElem?_eq_some_iff.1 hh).1⟩
theorem own_alloc {w : World} {base e size : Nat} {v : Value} {n : Nat} {xs : List Value} (h : w.ownsRow base e size v n xs) (o : Obj) : (w.alloc o).ownsRow base e size v n xs :=
  own_keep h fun _ hk => Below.heap_alloc _ _ _ (own_lt h hk).2
/-- Behind an append onto a slice of its own nothing below 'base' has turned. -/
theorem grown_below {B base e size : Nat} {w0 w w' : World} {v : Value} {n : Nat} {xs : List Value} (h0 : Below B w0 w) (hown : w.ownsRow base e size v n xs) (hg : w.grownBy w' v.ownBlock) (hB : B ≤ w.heap.size) (hBb : B ≤ base) : Below B w0 w' :=
  h0.grown hg hB fun k hk => by have := (own_lt hown hk).1; omega
end Go.Proofs.YtjchneebdlncfaaDoor.Den
namespace Go.Proofs.YtjchneebdlncfaaDoor.Den
open Go
open Go.RowKit (Below)
/-! ### Choices -/
theorem bif_pos {p : Prop} [Decidable p] {A B : Prop} (h : p) : (bif decide p then A else B) = A := by rw [decide_eq_true h]; rfl
theorem bif_neg {p : Prop} [Decidable p] {A B : Prop} (h : ¬ p) : (bif decide p then A else B) = B := by rw [decide_eq_false h]; rfl
theorem bif_npos {p : Prop} [Decidable p] {A B : Prop} (h : p) : (bif !decide p then A else B) = B := by rw [decide_eq_true h]; rfl
theorem bif_nneg {p : Prop} [Decidable p] {A B : Prop} (h : ¬ p) : (bif !decide p then A else B) = A := by rw [decide_eq_false h]; rfl

/-! ### What is touched -/
/-- Of the blocks that were there, at most these have turned. -/
structure Tch (s : List Nat) (w w' : World) : Prop where
  os : w'.os = w.os
  tape : w'.tape = w.tape
  output : w'.output = w.output
  size : w.heap.size ≤ w'.heap.size
  block : ∀ k, k < w.heap.size → k ∉ s → w'.heap[k]? = w.heap[k]?
theorem Tch.refl (s : List Nat) (w : World) : Tch s w w := ⟨rfl, rfl, rfl, Nat.le_refl _, fun _ _ _ => rfl⟩
theorem Tch.trans {s t : List Nat} {a b c : World} (h : Tch s a b) (k : Tch t b c) (hs : ∀ i ∈ t, i ∈ s ∨ a.heap.size ≤ i) : Tch s a c :=
  ⟨k.os.trans h.os, k.tape.trans h.tape, k.output.trans h.output, Nat.le_trans h.size k.size, fun i hi hn =>
    (k.block i (Nat.lt_of_lt_of_le hi h.size) fun hm => (hs i hm).elim hn fun h2 => by omega).trans (h.block i hi hn)⟩
theorem Tch.drew {s : List Nat} {a w : World} (h : Tch s a w) : Tch s a w.drew := ⟨h.os, h.tape, h.output, h.size, h.block⟩
theorem Tch.alloc {s : List Nat} {a w : World} (h : Tch s a w) (o : Obj) : Tch s a (w.alloc o) :=
  ⟨h.os, h.tape, h.output, by have := h.size; show _ ≤ (w.heap.push o).size; simp; omega, fun i hi hn => (Below.heap_alloc w o i (Nat.lt_of_lt_of_le hi h.size)).trans (h.block i hi hn)⟩
theorem Tch.setCell {s : List Nat} {a w : World} (h : Tch s a w) {p : Addr} (hp : p.block ∈ s ∨ a.heap.size ≤ p.block) (u : Value) : Tch s a (w.setCell p u) :=
  ⟨h.os, h.tape, h.output, by have := h.size; simp [World.setCell]; omega, fun i hi hn => (Below.heap_setCell w p u i (fun e => by subst e; exact hp.elim hn (by omega))).trans (h.block i hi hn)⟩
theorem Tch.setCells {s : List Nat} {a : World} {b o : Nat} (hp : b ∈ s ∨ a.heap.size ≤ b) : ∀ {vs : List Value} {i : Nat} {w : World}, Tch s a w → Tch s a (setCells w ⟨b, o, none⟩ vs i)
  | [], _, _, h => h
  | v :: r, i, w, h => by
    unfold Den.setCells
    rw [add_mk]
    exact Tch.setCells hp (h.setCell hp v)
theorem Tch.below {a w : World} (h : Tch [] a w) : Below a.heap.size a w := ⟨h.os, h.tape, h.output, h.size, fun i hi => h.block i hi (by simp)⟩
theorem Tch.below' {s : List Nat} {a w : World} (h : Tch s a w) {B : Nat} (hB : B ≤ a.heap.size) (hs : ∀ i ∈ s, B ≤ i) : Below B a w :=
  ⟨h.os, h.tape, h.output, h.size, fun i hi => h.block i (by omega) fun hm => by have := hs i hm; omega⟩
theorem Tch.grown {s : List Nat} {a w w' : World} (h : Tch s a w) {row : Option Nat} (hg : w.grownBy w' row) (hr : ∀ k, row = some k → k ∈ s ∨ a.heap.size ≤ k) : Tch s a w' :=
  ⟨hg.os.trans h.os, hg.tape.trans h.tape, hg.output.trans h.output, Nat.le_trans h.size hg.size, fun i hi hn =>
    (hg.block i (Nat.lt_of_lt_of_le hi h.size) fun e => (hr i e.symm).elim hn (by omega)).trans (h.block i hi hn)⟩
theorem Tch.weaken {s t : List Nat} {a w : World} (h : Tch s a w) (hs : ∀ i ∈ s, i ∈ t ∨ a.heap.size ≤ i) : Tch t a w :=
  ⟨h.os, h.tape, h.output, h.size, fun i hi hn => h.block i hi fun hm => (hs i hm).elim hn (by omega)⟩
theorem Blk.tch {s : List Nat} {w w' : World} {b : Nat} {cs : List Value} (h : Blk w b cs) (ht : Tch s w w') (hb : b ∉ s) : Blk w' b cs := h.of_heap (ht.block b h.lt hb)
/-! ### Rows of numbers -/
theorem ints_get {k : IntKind} {l : List Int} {o : Nat} (h : o < l.length) : (l.map (Value.int k))[o]? = some (.int k (l.getD o 0)) := by simp [h]
theorem Blk.int {w : World} {b : Nat} {k : IntKind} {l : List Int} (h : Blk w b (l.map (Value.int k))) {o : Nat} (ho : o < l.length) : w.cell? ⟨b, o, none⟩ = some (.int k (l.getD o 0)) := by rw [h.cell, ints_get ho]
theorem Blk.setInt {w : World} {b : Nat} {k : IntKind} {l : List Int} (h : Blk w b (l.map (Value.int k))) (o : Nat) (v : Int) : Blk (w.setCell ⟨b, o, none⟩ (.int k v)) b ((l.set o v).map (Value.int k)) := by
  rw [List.map_set]; exact h.set o _
theorem ones_ints {k : IntKind} {l : List Int} : ∀ u ∈ l.map (Value.int k), one u = true := by
  intro u hu
  obtain ⟨x, _, rfl⟩ := List.mem_map.1 hu
  rfl
theorem RSl.int {w : World} {n c : Nat} {a : Option Addr} {k : IntKind} {l : List Int} (h : RSl w 1 a n c (l.map (Value.int k))) {i : Nat} (hi : i < n) :
    ∃ b o, a = some ⟨b, o, none⟩ ∧ w.cell? ⟨b, o + i, none⟩ = some (.int k (l.getD i 0)) := by
  have := h.len
  simp at this
  exact h.get1 (ints_get (by omega))

theorem Blk.fresh (w : World) {cs ds : List Value} (T : TypeId) (h : cs = ds) : Blk (w.alloc (.cells cs.toArray T)) w.heap.size ds := by
  subst h
  have := Blk.new w cs.toArray T
  rwa [List.toList_toArray] at this
theorem size_alloc (w : World) (o : Obj) : (w.alloc o).heap.size = w.heap.size + 1 := by
  show (w.heap.push o).size = _
  simp

/-! ### Slices of another block -/
def Off (s : List Nat) (a : Option Addr) : Prop := ∀ x, a = some x → x.block ∉ s
theorem block_add (a : Addr) (n : Nat) : (a.add n).block = a.block := by
  unfold Addr.add; split <;> rfl
theorem Off.sub {s : List Nat} {a : Option Addr} (h : Off s a) (p : Prop) [Decidable p] (k : Nat) : Off s (if p then a else a.map fun y => y.add k) := by
  split
  · exact h
  · intro x hx
    cases a with
    | none => cases hx
    | some y =>
      simp only [Option.map_some, Option.some.injEq] at hx
      rw [← hx, block_add]; exact h y rfl
theorem RSl.tch {s : List Nat} {w w' : World} {sz n c : Nat} {a : Option Addr} {cs : List Value} (h : RSl w sz a n c cs) (ht : Tch s w w') (hs : Off s a) : RSl w' sz a n c cs := by
  refine ⟨h.cap, h.len, h.ones, ?_⟩
  rcases h.at' with h' | ⟨b, o, h1, h2⟩
  · exact .inl h'
  · refine .inr ⟨b, o, h1, fun i v hv => ?_⟩
    have := h2 i v hv
    rw [add_mk] at this ⊢
    rw [World.cell?_of_block (w := w) (ht.block b (World.block_lt_of_cell? _ _ this) (hs _ h1))]
    exact this
/-! ### copy -/
/-- A copy into a block. -/
theorem cpy {P : Program} {dT sT ty e bytes : TypeId} (hT : slT P dT e 1 bytes = true) {w : World} {g o dn dc : Nat} {cur : List Value} (hg : Blk w g cur) {b : Option Addr} {sn sc : Nat} {ys : List Value}
    (hy : RSl w 1 b sn sc ys) (hfit : o + min sn dn ≤ cur.length) {K : Value → World → Prop}
    (hK : ∀ w', Blk w' g (splice cur o (ys.take (min sn dn))) → Tch [g] w w' → w'.heap.size = w.heap.size → K (.int .i64 ((min sn dn : Nat) : Int)) w') :
    RunV P (Builtin.copy_ #[dT, sT] ty #[.slice (some ⟨g, o, none⟩) dn dc, .slice b sn sc]) w K := by
  obtain ⟨h1, h2, i, z, h3, h4, h5, h6, h7⟩ := slT_spec hT
  obtain ⟨T, hg⟩ := hg
  have hlen : (ys.take (min sn dn)).length = min sn dn := by have := hy.len; rw [List.length_take]; omega
  have hsr : ∀ cs : Array Value, Tch [g] w (w.setRow g cs) ∧ (w.setRow g cs).heap.size = w.heap.size := fun cs =>
    ⟨⟨rfl, rfl, rfl, by simp [World.setRow], fun k _ hn => by
      have : g ≠ k := fun e => hn (by simp [e])
      simp [World.setRow, Array.getElem?_modify, this]⟩, by simp [World.setRow]⟩
  obtain ⟨rfl, hc⟩ | ⟨ad, rfl, hcells⟩ := hy.from
  · have hn : sn = 0 := by have := hy.cap; omega
    subst hn; subst hc
    refine ⟨_, _, run_copy_nil P w dT sT ty e ⟨g, o, none⟩ dn dc h1 (by rw [h3]; rfl), ?_⟩
    rw [Nat.zero_min] at hK
    exact hK w ⟨T, by simp [splice]; exact hg⟩ (Tch.refl _ _) rfl
  · refine ⟨_, _, run_copy_row P w dT sT ty e g o dn dc ad sn sc cur.toArray T (ys.take (min sn dn)) h1 (by rw [h3]; simp [h5]) hg hlen (fun j v hv => hcells j v (by rw [List.getElem?_take] at hv; split at hv; exact hv; cases hv)) (by rw [hlen]; simpa using hfit) (fun v hv => by rw [← one_eq]; exact hy.ones v (List.mem_of_mem_take hv)), ?_⟩
    rw [hlen]
    refine hK _ ⟨T, ?_⟩ (hsr _).1 (hsr _).2
    rw [setRow_heap w g cur.toArray _ T (0, 0) hg]
    simp [splice, hlen]

/-! ### Bits as numbers -/
theorem toNat_ofInt {n : Nat} {x : Int} (h0 : 0 ≤ x) (h1 : x < 2 ^ n) : (BitVec.ofInt n x).toNat = x.toNat := by
  rw [BitVec.toNat_ofInt]
  congr 1
  exact Int.emod_eq_of_lt h0 (by exact_mod_cast h1)
/-- Two numbers without a common bit: or is plus. -/
theorem or_plus {a b : Nat} (n : Nat) (h : b < 2 ^ n) : a * 2 ^ n ||| b = a * 2 ^ n + b := by
  rw [Nat.mul_comm, ← Nat.two_pow_add_eq_or_of_lt h]
theorem bOr_u32 {a b : Nat} (n : Nat) (h : b < 2 ^ n) (ha : a * 2 ^ n + b < 4294967296) : bOr .u32 ((a * 2 ^ n : Nat) : Int) (b : Int) = ((a * 2 ^ n + b : Nat) : Int) := by
  unfold bOr
  rw [BitVec.toNat_or, toNat_ofInt (by omega) (by show ((a * 2 ^ n : Nat) : Int) < 4294967296; omega), toNat_ofInt (by omega) (by show (b : Int) < 4294967296; omega), Int.toNat_natCast, Int.toNat_natCast, or_plus n h]
  exact wrap_u32 (by omega) (by omega)
end Go.Proofs.YtjchneebdlncfaaDoor.Den
namespace Go.Proofs.YtjchneebdlncfaaDoor.Den
open Go Go.ChangeShapes Go.WideShapes Go.ChangeAt Go.RowKit
variable {H : Type} {enc : TypeId × Value → H} {P : Program}
theorem trodAll_stays (hl : laidOutB P = true) {W W' : World} (hb : Below W.heap.size W W') : ∀ {ts : List TypeId} {vs : List Value} {ds : List (DataW H)} {ps : List MemPlace},
    (∀ t ∈ ts, P.readableRec t = true ∧ t < P.types.size) → DataW.TrodAll enc P W 0 (fun _ => true) true ts vs ds ps → (∀ x ∈ ps, x.block < W.heap.size) →
    DataW.TrodAll enc P W' 0 (fun b => decide (b < W.heap.size)) true ts vs ds ps
  | [], [], [], _, _, h, _ => h
  | t :: ts, v :: vs, d :: ds, ps, ht, h, hlt => by
    obtain ⟨p, q, h1, h2, rfl⟩ := h
    exact ⟨p, q, Below.trod hl (ht t (by simp)).1 (ht t (by simp)).2 h1 hb fun x hx => hlt x (by simp [hx]),
      trodAll_stays hl hb (fun t h => ht t (by simp [h])) h2 fun x hx => hlt x (by simp [hx]), rfl⟩
  | [], _ :: _, _, _, _, h, _ => h.elim
  | [], [], _ :: _, _, _, h, _ => h.elim
  | _ :: _, [], _, _, _, h, _ => h.elim
  | _ :: _, _ :: _, [], _, _, h, _ => h.elim

/-- A law of no variables that answers true, and below the old heap nothing has turned. -/
theorem post_true {f : Func} {s : ChangeSpec} {apart fresh : Bool} {W W' : World} {args : Array Value} {ds gs : List (DataW H)} {before : List MemPlace} {tb : TypeId}
    (hl : laidOutB P = true) (hr : ∀ t ∈ f.params.toList, P.readableRec t = true ∧ t < P.types.size) (htb : P.underlying tb = some .bool) (hrt : f.resultTypes = #[tb])
    (hW : DataW.Whole enc P f.params.toList s.vars apart W args.toList ds gs before) (hvars : s.vars = [])
    (hs : (s.fn H (ds ++ gs)).results = [.lit (.bool true)] ∧ (s.fn H (ds ++ gs)).args = ds ∧ (s.fn H (ds ++ gs)).vars = []) (hb : Below W.heap.size W W') :
    s.post enc P f apart fresh false false W args (.bool true) W' := by
  have hW' := hW
  obtain ⟨p, q, hA, hV, rfl, hfz, hnd⟩ := hW
  rw [hvars] at hV
  obtain ⟨rfl, rfl⟩ := trodVars_none hV
  have hlt : ∀ x ∈ p, x.block < W.heap.size := fun x hx => by simpa using hW'.lt x (by simp [hx])
  refine ⟨ds, [], p ++ [], [], p, [], hW', ?_, ?_, ?_, hb.frame _, fun h => by cases h⟩
  · rw [hs.1, hrt]
    exact trodAll_cons_mk (shut_bool htb _) trodAll_mk0
  · rw [hs.2.1]
    exact trodAll_stays hl hb hr hA hlt
  · rw [hs.2.2, hvars]
    exact rfl

/-! ### Bulk -/
theorem bulk_lits (k : IntKind) : ∀ zs : List Int, Rows.uptoBulkAll (H := H) (lits k zs) = zs.length
  | [] => by simp [lits, Rows.uptoBulkAll]
  | z :: r => by
    have := bulk_lits k r
    simp only [lits, List.map_cons, Rows.uptoBulkAll, Rows.uptoBulk, List.length_cons] at this ⊢
    omega
/-! ### A row of bytes -/
theorem cells_spot {W : World} {a : Addr} {cs : List Value} (hs : a.spot = none) (h : ∀ i v, cs[i]? = some v → W.cell? (a.add i) = some v) : ∃ b o, a = ⟨b, o, none⟩ ∧ Cells W ⟨b, o, none⟩ cs := by
  obtain ⟨b, o, s⟩ := a
  simp only at hs
  subst hs
  exact ⟨b, o, rfl, h⟩
theorem open_bytes {t e : TypeId} {W : World} {v : Value} {d : DataW H} {ps : List MemPlace} {base : Nat} (ht : P.underlying t = some (.slice e)) (he : P.underlying e = some (.int .u8)) (hc : P.cellsOf e = 1)
    (hval : Value.okWide P W .any base t v) (hd : DataW.Trod enc P W 0 (fun _ => true) true t v d ps) :
    ∃ (a : Option Addr) (n c : Nat) (bs : List Int), v = .slice a n c ∧ RSl W 1 a n c (bs.map (Value.int .u8)) ∧ (∀ x ∈ bs, 0 ≤ x ∧ x < 256) ∧ bs.length ≤ Rows.uptoBulk d ∧
      ((a = none ∧ bs = [] ∧ d = .nil) ∨ ∃ sp, d = .slice (lits .u8 bs) sp) := by
  obtain ⟨a0, len, cap, rfl⟩ := okWide_slice ht hval
  obtain ⟨fuel, hf⟩ := hd
  rcases open_ints ht he hc hf with ⟨hcs, hx⟩ | ⟨a, len', cap', zs, hcs, _, hl, hm, hz, hx, hcell, hwz⟩
  · simp [Value.cells] at hcs
    obtain ⟨rfl, rfl, rfl⟩ := hcs
    simp only [Prod.mk.injEq] at hx
    obtain ⟨rfl, rfl⟩ := hx
    exact ⟨none, 0, 0, [], rfl, RSl.nil W 1, by simp, by simp, .inl ⟨rfl, rfl, rfl⟩⟩
  · simp [Value.cells] at hcs
    obtain ⟨rfl, rfl, rfl⟩ := hcs
    simp only [Prod.mk.injEq] at hx
    obtain ⟨rfl, rfl⟩ := hx
    simp only [if_true] at hz
    have hs : a.spot = none := by
      have : Cell.ok P W .any base t (.slice (some a) len cap) := by
        simp only [Value.okWide, ht] at hval
        simpa only [Cell.okWide, ht] using hval
      simp only [Cell.ok, ht] at this
      exact this.2.2.2.1
    have htl : (zs.take len).length = len := by simp; omega
    obtain ⟨b, o, rfl, hcl⟩ := cells_spot (W := W) (cs := (zs.take len).map (Value.int .u8)) hs (fun i v hv => by
      rw [List.getElem?_map, Option.map_eq_some_iff] at hv
      obtain ⟨x, hx, rfl⟩ := hv
      rw [List.getElem?_take] at hx
      split at hx
      · have hil := (List.getElem?_eq_some_iff.1 hx).1
        rw [hcell i hil]
        simp [List.getD_eq_getElem?_getD, hx]
      · cases hx)
    refine ⟨some ⟨b, o, none⟩, len, cap, zs.take len, rfl, ⟨hl, by simp; omega, ones_ints, .inr ⟨b, o, rfl, hcl⟩⟩, ?_, ?_, .inr ⟨_, rfl⟩⟩
    · intro x hx
      have := hwz x (List.mem_of_mem_take hx)
      simp [Lit.wf, IntKind.min, IntKind.max, IntKind.signed, IntKind.bits] at this
      omega
    · rw [Rows.uptoBulk, bulk_lits, htl]
      omega
end Go.Proofs.YtjchneebdlncfaaDoor.Den
namespace Go.Proofs.YtjchneebdlncfaaDoor.Den
open Go
open Go.RowKit (Below)
/-! ### A block as a whole, or a part of it -/
theorem get_all {w : World} {b n : Nat} {cs : List Value} (h : Blk w b cs) (hl : cs.length = n) {K : List Value → Prop} (hK : K cs) :
    ∃ ds : List Value, List.length ds = n ∧ Cells w ⟨b, 0, none⟩ ds ∧ K ds := ⟨cs, hl, h.cells, hK⟩
theorem get_part {w : World} {b : Nat} {cs : List Value} (h : Blk w b cs) (o n : Nat) (ds : List Value) (he : (cs.drop o).take n = ds) (hl : ds.length = n) {K : List Value → Prop} (hK : K ds) :
    ∃ ds : List Value, List.length ds = n ∧ Cells w (Addr.add ⟨b, 0, none⟩ o) ds ∧ K ds := by
  subst he
  refine ⟨_, hl, ?_, hK⟩
  rw [add_mk, Nat.zero_add]
  exact h.cells_at o n
theorem put_all {w : World} {b n : Nat} {old new : List Value} (h : Blk w b old) (ho : old.length = n) (hn : new.length = n) (h1 : ∀ u ∈ new, one u = true) {K : World → Prop}
    (hK : ∀ w', Blk w' b new → Tch [b] w w' → w'.heap.size = w.heap.size → K w') :
    Array.size (List.toArray new) = n ∧ (∀ u ∈ Array.toList (List.toArray new), one u = true) ∧ Room w ⟨b, 0, none⟩ n ∧
      ∀ w' : World, w' = setCells w ⟨b, 0, none⟩ (Array.toList (List.toArray new)) 0 → K w' := by
  refine ⟨by simpa using hn, by simpa using h1, h.room 0 n (by omega), ?_⟩
  rintro w' rfl
  have h2 := h.sets (vs := new) (i := 0) (o := 0) (by omega)
  rw [splice_all (by omega)] at h2
  exact hK _ h2 (Tch.setCells (.inl (by simp)) (Tch.refl _ _)) size_setCells
/-- A new variable that is given its value at once. -/
theorem var_init {P : Program} {t : TypeId} {w : World} {n : Nat} {new : List Value} (hz : (zc P t).length = n) (hn : new.length = n) (h1 : ∀ u ∈ new, one u = true) {K : World → World → Prop}
    (hK : ∀ w1 w', Blk w' w.heap.size new → Tch [] w w' → w'.heap.size = w.heap.size + 1 → K w1 w') :
    ∀ w1 : World, w1 = World.alloc w (.cells (zc P t).toArray t) → Array.size (List.toArray new) = n ∧ (∀ u ∈ Array.toList (List.toArray new), one u = true) ∧ Room w1 ⟨World.heap w |>.size, 0, none⟩ n ∧
      ∀ w' : World, w' = setCells w1 ⟨World.heap w |>.size, 0, none⟩ (Array.toList (List.toArray new)) 0 → K w1 w' := by
  rintro w1 rfl
  refine put_all (Blk.fresh w t rfl) hz hn h1 fun w' h2 h3 h4 => ?_
  exact hK _ w' h2 (((Tch.refl [] w).alloc _).trans h3 (by simp)) (by rw [h4, size_alloc])
/-! ### Frames -/
theorem Tch.up {s : List Nat} {a w w' : World} {B : Nat} (h : Tch s a w) (hb : Below B w w') (hB : a.heap.size ≤ B) : Tch s a w' :=
  ⟨hb.os.trans h.os, hb.tape.trans h.tape, hb.output.trans h.output, Nat.le_trans h.size hb.size, fun i hi hn => (hb.block i (by omega)).trans (h.block i hi hn)⟩
theorem own_up {w w' : World} {base e size : Nat} {v : Value} {n : Nat} {xs : List Value} (h : w.ownsRow base e size v n xs) {s : List Nat} (ht : Tch s w w') (hs : ∀ k, v.ownBlock = some k → k ∉ s) : w'.ownsRow base e size v n xs :=
  own_keep h fun k hk => ht.block k (own_lt h hk).2 (hs k hk)

/-! ### append -/
theorem fill1 {l : List Value} {sz : Nat} {v : Value} {cs : List Value} (hl : l.length = sz) (hv : v.cells = cs.toArray) (hc : cs.length = sz) : fillL (.elems sz) l [(0, v)] = some cs := by
  have h1 : Place.at (.elems sz) 0 = some (0, sz) := by simp [Place.at]
  have h2 : v.cells.size = sz := by rw [hv]; simpa using hc
  simp only [fillL, h1, h2, hl, Nat.zero_add, Nat.le_refl, and_self, if_true]
  rw [hv, splice_all (by simp; omega)]
/-- append of rows of one's own: what is below the base stays. -/
theorem app_row {P : Program} {t e ty : TypeId} {size bytes : Nat} (hT : slT P t e size bytes = true) {w : World} {base : Nat} {a : Option Addr} {n c : Nat} {xs : List Value} (hown : w.ownsRow base e size (.slice a n c) n xs)
    {b : Option Addr} {m mc : Nat} {ys : List Value} (hy : RSl w size b m mc ys) (hb : base ≤ w.heap.size) (hlen : n + m ≤ 9223372036854775807) (hbytes : (n + m) * bytes ≤ 140737488355328) {K : Option Addr → Nat → Nat → World → Prop}
    (hK : ∀ a' c' w', w'.ownsRow base e size (.slice a' (n + m) c') (n + m) (xs ++ ys) → Below base w w' → K a' (n + m) c' w') :
    RunV P (Builtin.append_ #[t, t] ty #[.slice a n c, .slice b m mc]) w fun v w' => ∃ (x : Option Addr) (xn : Nat) (xc : Nat), v = (.slice x xn xc) ∧ K x xn xc w' :=
  app_own hT hown hy hb hlen hbytes fun a' c' w' h1 h2 => ⟨a', _, c', rfl, hK a' c' w' h1 (grown_below (Below.refl base w) hown h2 hb (Nat.le_refl _))⟩
theorem own_base {w : World} {base base' e size : Nat} {v : Value} {n : Nat} {xs : List Value} (h : w.ownsRow base e size v n xs) (hb : base' ≤ base) : w.ownsRow base' e size v n xs := by
  obtain ⟨hl, h0 | ⟨g, cap, cur, rfl, hg, r⟩⟩ := h
  · exact ⟨hl, .inl h0⟩
  · exact ⟨hl, .inr ⟨g, cap, cur, rfl, by omega, r⟩⟩
end Go.Proofs.YtjchneebdlncfaaDoor.Den
namespace Go.Proofs.YtjchneebdlncfaaDoor.Den
open Go
open Go.RowKit (Below)
inductive FK where
  | int (k : IntKind)
  | bool
  | str
def fit : FK → Value → Prop
  | .int k, .int k' n => k' = k ∧ (Lit.int k n).wf = true
  | .bool, .bool _ => True
  | .str, .string s => s.size ≤ maxLen
  | _, _ => False
def litOf : Value → Lit
  | .int k n => .int k n
  | .bool b => .bool b
  | .string s => .string s.data.toList
  | _ => .bool false
def Fits : List FK → List Value → Prop
  | [], [] => True
  | k :: ks, v :: vs => fit k v ∧ Fits ks vs
  | _, _ => False
theorem Fits.length : ∀ {ks : List FK} {vs : List Value}, Fits ks vs → vs.length = ks.length
  | [], [], _ => rfl
  | _ :: _, _ :: _, h => by simp [Fits.length h.2]
  | [], _ :: _, h => h.elim
  | _ :: _, [], h => h.elim
theorem Fits.append : ∀ {ks js : List FK} {vs us : List Value}, Fits ks vs → Fits js us → Fits (ks ++ js) (vs ++ us)
  | [], _, [], _, _, h => h
  | _ :: _, _, _ :: _, _, h, k => ⟨h.1, Fits.append h.2 k⟩
  | [], _, _ :: _, _, h, _ => h.elim
  | _ :: _, _, [], _, h, _ => h.elim
theorem Fits.split : ∀ {ks js : List FK} {vs : List Value}, Fits (ks ++ js) vs → ∃ a b, vs = a ++ b ∧ Fits ks a ∧ Fits js b
  | [], _, vs, h => ⟨[], vs, rfl, trivial, h⟩
  | k :: ks, js, v :: vs, h => by
    obtain ⟨a, b, rfl, h1, h2⟩ := Fits.split (ks := ks) h.2
    exact ⟨v :: a, b, rfl, ⟨h.1, h1⟩, h2⟩
  | _ :: _, _, [], h => h.elim
theorem Fits.nil {vs : List Value} (h : Fits [] vs) : vs = [] := by
  match vs, h with
  | [], _ => rfl
theorem Fits.ones : ∀ {ks : List FK} {vs : List Value}, Fits ks vs → ∀ u ∈ vs, one u = true
  | [], [], _, u, hu => by simp at hu
  | k :: ks, v :: vs, h, u, hu => by
    rcases List.mem_cons.1 hu with rfl | hu
    · cases u <;> cases k <;> first | rfl | exact h.1.elim
    · exact Fits.ones h.2 u hu
  | [], _ :: _, h, _, _ => h.elim
  | _ :: _, [], h, _, _ => h.elim
theorem fit_inj {k : FK} {u v : Value} (hu : fit k u) (hv : fit k v) (h : litOf u = litOf v) : u = v := by
  cases k <;> cases u <;> first | exact hu.elim | skip
  all_goals cases v <;> first | exact hv.elim | skip
  all_goals simp only [litOf, Lit.int.injEq, Lit.bool.injEq, Lit.string.injEq] at h
  · rw [h.1, h.2]
  · rw [h]
  · rename_i s t
    obtain ⟨s⟩ := s
    obtain ⟨t⟩ := t
    simp only at h
    rw [Array.ext' h]
theorem Fits.inj : ∀ {ks : List FK} {us vs : List Value}, Fits ks us → Fits ks vs → us.map litOf = vs.map litOf → us = vs
  | [], [], [], _, _, _ => rfl
  | k :: ks, u :: us, v :: vs, hu, hv, h => by
    simp only [List.map_cons, List.cons.injEq] at h
    rw [fit_inj hu.1 hv.1 h.1, Fits.inj hu.2 hv.2 h.2]
  | [], _ :: _, _, h, _, _ => h.elim
  | [], [], _ :: _, _, h, _ => h.elim
  | _ :: _, [], _, h, _, _ => h.elim
  | _ :: _, _ :: _, [], _, h, _ => h.elim

/-! ### A type's kinds, by the kernel -/
def fieldsK (P : Program) (f : TypeId → Option (List FK)) : List Field → Nat → Option (List FK)
  | [], _ => some []
  | x :: r, o =>
    match f x.type with
    | some l =>
      if x.offset = o ∧ (x.name != "_") = true ∧ P.cellsOf x.type = l.length then
        match fieldsK P f r (o + l.length) with
        | some l' => some (l ++ l')
        | none => none
      else none
    | none => none
def flatK (P : Program) : Nat → TypeId → Option (List FK)
  | 0, _ => none
  | d + 1, t =>
    match P.underlying t with
    | some .bool => some [.bool]
    | some (.int k) => some [.int k]
    | some .string => some [.str]
    | some (.array n e) =>
      match flatK P d e with
      | some l => if P.cellsOf t = n * l.length ∧ P.cellsOf e = l.length then some (List.replicate n l).flatten else none
      | none => none
    | some (.struct fs) =>
      match fieldsK P (flatK P d) fs.toList 0 with
      | some l => if P.cellsOf t = l.length then some l else none
      | none => none
    | _ => none
theorem lits_items {P : Program} {d : Nat} {e : TypeId} {l : List FK} (IH : ∀ cs, P.keyLits d e cs = some (cs.map litOf) ∧ Fits l cs ∨ P.keyLits d e cs = none ∧ ¬ Fits l cs ∨ cs.length ≠ l.length) :
    ∀ (n : Nat) (cs : List Value), cs.length = n * l.length → (((List.range n).mapM fun i => P.keyLits d e ((cs.drop (i * l.length)).take l.length)).map List.flatten = some (cs.map litOf) ∧ Fits (List.replicate n l).flatten cs) ∨
      (((List.range n).mapM fun i => P.keyLits d e ((cs.drop (i * l.length)).take l.length)).map List.flatten = none ∧ ¬ Fits (List.replicate n l).flatten cs)
  | 0, cs, h => by
    rw [Nat.zero_mul] at h
    obtain rfl := List.length_eq_zero_iff.1 h
    exact .inl ⟨by simp, trivial⟩
  | n + 1, cs, h => by
    have h1 : (cs.take l.length).length = l.length := by rw [List.length_take, h, Nat.succ_mul]; omega
    have h2 : (cs.drop l.length).length = n * l.length := by rw [List.length_drop, h, Nat.succ_mul]; omega
    have e1 : ∀ i, (cs.drop ((i + 1) * l.length)).take l.length = ((cs.drop l.length).drop (i * l.length)).take l.length := fun i => by
      rw [List.drop_drop, Nat.succ_mul, Nat.add_comm]
    have hF : Fits (List.replicate (n + 1) l).flatten cs ↔ Fits l (cs.take l.length) ∧ Fits (List.replicate n l).flatten (cs.drop l.length) := by
      rw [List.replicate_succ, List.flatten_cons]
      constructor
      · intro hf
        obtain ⟨a, b, rfl, ha, hb⟩ := hf.split
        have hla := ha.length
        rw [← hla, List.take_left, List.drop_left]
        exact ⟨ha, hb⟩
      · intro hf
        have := hf.1.append hf.2
        rwa [List.take_append_drop] at this
    have e2 : ((fun i => P.keyLits d e (List.take l.length (List.drop (i * l.length) cs))) ∘ Nat.succ) = fun i => P.keyLits d e (List.take l.length (List.drop (i * l.length) (List.drop l.length cs))) := by
      funext i
      show P.keyLits d e (List.take l.length (List.drop ((i + 1) * l.length) cs)) = _
      rw [e1]
    rw [List.range_succ_eq_map, List.mapM_cons, List.mapM_map, e2, Nat.zero_mul, List.drop_zero]
    rcases IH (cs.take l.length) with ⟨g1, g2⟩ | ⟨g1, g2⟩ | g
    · rw [g1]
      rcases lits_items IH n (cs.drop l.length) h2 with ⟨k1, k2⟩ | ⟨k1, k2⟩
      · left
        refine ⟨?_, hF.2 ⟨g2, k2⟩⟩
        rw [Option.map_eq_some_iff] at k1
        obtain ⟨xs, hx1, hx2⟩ := k1
        have : (List.mapM (fun i => P.keyLits d e (List.take l.length (List.drop (i * l.length) (List.drop l.length cs)))) (List.range n)) = some xs := hx1
        simp only [Option.bind_eq_bind, Option.bind_some, this, Option.pure_def, Option.map_some, List.flatten_cons, hx2]
        rw [← List.map_append, List.take_append_drop]
      · right
        refine ⟨?_, fun hf => k2 (hF.1 hf).2⟩
        rw [Option.map_eq_none_iff] at k1
        have : (List.mapM (fun i => P.keyLits d e (List.take l.length (List.drop (i * l.length) (List.drop l.length cs)))) (List.range n)) = none := k1
        simp only [Option.bind_eq_bind, Option.bind_some, this, Option.bind_none, Option.map_none]
    · right
      rw [g1]
      exact ⟨rfl, fun hf => g2 (hF.1 hf).1⟩
    · exact absurd h1 g
theorem lits_fields {P : Program} {d : Nat} (IH : ∀ (t : TypeId) (ks : List FK), flatK P d t = some ks → ∀ cs, P.keyLits d t cs = some (cs.map litOf) ∧ Fits ks cs ∨ P.keyLits d t cs = none ∧ ¬ Fits ks cs ∨ cs.length ≠ ks.length) :
    ∀ (fs : List Field) (pre cs : List Value) (ks : List FK), fieldsK P (flatK P d) fs pre.length = some ks → cs.length = ks.length →
      ((fs.mapM fun f => P.keyLits d f.type (((pre ++ cs).drop f.offset).take (P.cellsOf f.type))).map List.flatten = some (cs.map litOf) ∧ Fits ks cs) ∨
      ((fs.mapM fun f => P.keyLits d f.type (((pre ++ cs).drop f.offset).take (P.cellsOf f.type))).map List.flatten = none ∧ ¬ Fits ks cs)
  | [], pre, cs, ks, h, hl => by
    simp only [fieldsK, Option.some.injEq] at h
    subst h
    obtain rfl := List.length_eq_zero_iff.1 hl
    exact .inl ⟨by simp, trivial⟩
  | f :: fs, pre, cs, ks, h, hl => by
    unfold fieldsK at h
    split at h
    · rename_i l hfl
      split at h
      · rename_i hc
        obtain ⟨ho, hn, hsz⟩ := hc
        split at h
        · rename_i l' hr
          simp only [Option.some.injEq] at h
          subst h
          rw [List.length_append] at hl
          have h1 : (cs.take l.length).length = l.length := by rw [List.length_take]; omega
          have h2 : (cs.drop l.length).length = l'.length := by rw [List.length_drop]; omega
          have hF : Fits (l ++ l') cs ↔ Fits l (cs.take l.length) ∧ Fits l' (cs.drop l.length) := by
            constructor
            · intro hf
              obtain ⟨a, b, rfl, ha, hb⟩ := hf.split
              rw [← ha.length, List.take_left, List.drop_left]
              exact ⟨ha, hb⟩
            · intro hf
              have := hf.1.append hf.2
              rwa [List.take_append_drop] at this
          have e1 : pre ++ cs = (pre ++ cs.take l.length) ++ cs.drop l.length := by rw [List.append_assoc, List.take_append_drop]
          rw [List.mapM_cons, ho, List.drop_left, hsz]
          have hrec := lits_fields IH fs (pre ++ cs.take l.length) (cs.drop l.length) l' (by rw [List.length_append, h1]; exact hr) h2
          rw [← e1] at hrec
          rcases IH f.type l hfl (cs.take l.length) with ⟨g1, g2⟩ | ⟨g1, g2⟩ | g
          · rw [g1]
            rcases hrec with ⟨k1, k2⟩ | ⟨k1, k2⟩
            · left
              refine ⟨?_, hF.2 ⟨g2, k2⟩⟩
              rw [Option.map_eq_some_iff] at k1
              obtain ⟨xs, hx1, hx2⟩ := k1
              rw [hx1]
              simp only [Option.bind_eq_bind, Option.bind_some, Option.pure_def, Option.map_some, List.flatten_cons, hx2]
              rw [← List.map_append, List.take_append_drop]
            · right
              refine ⟨?_, fun hf => k2 (hF.1 hf).2⟩
              rw [Option.map_eq_none_iff] at k1
              rw [k1]
              rfl
          · right
            rw [g1]
            exact ⟨rfl, fun hf => g2 (hF.1 hf).1⟩
          · exact absurd h1 g
        · cases h
      · cases h
    · cases h
theorem fieldsK_names {P : Program} {f : TypeId → Option (List FK)} : ∀ {fs : List Field} {o : Nat} {ks : List FK}, fieldsK P f fs o = some ks → fs.all (·.name != "_") = true
  | [], _, _, _ => rfl
  | x :: r, o, ks, h => by
    unfold fieldsK at h
    split at h
    · split at h
      · rename_i hc
        split at h
        · rename_i hr
          simp only [List.all_cons, hc.2.1, fieldsK_names hr, Bool.and_self]
        · cases h
      · cases h
    · cases h
theorem lits_flat {P : Program} : ∀ (d : Nat) (t : TypeId) (ks : List FK), flatK P d t = some ks → ∀ cs, P.keyLits d t cs = some (cs.map litOf) ∧ Fits ks cs ∨ P.keyLits d t cs = none ∧ ¬ Fits ks cs ∨ cs.length ≠ ks.length
  | 0, _, _, h => by simp [flatK] at h
  | d + 1, t, ks, h => by
    intro cs
    by_cases hl : cs.length = ks.length
    · unfold flatK at h
      unfold Program.keyLits
      split at h
      · rename_i hu
        cases h
        rw [hu]
        match cs, hl with
        | [v], _ =>
          cases v <;> first | exact .inl ⟨rfl, trivial, trivial⟩ | exact .inr (.inl ⟨rfl, fun hf => hf.1⟩)
      · rename_i k hu
        cases h
        rw [hu]
        match cs, hl with
        | [v], _ =>
          cases v with
          | int k' n =>
            by_cases hw : k' = k ∧ (Lit.int k n).wf = true
            · obtain ⟨rfl, hw⟩ := hw
              exact .inl ⟨by simp [hw, litOf], ⟨rfl, hw⟩, trivial⟩
            · exact .inr (.inl ⟨by simp only [if_neg hw], fun hf => hw hf.1⟩)
          | _ => exact .inr (.inl ⟨rfl, fun hf => hf.1⟩)
      · rename_i hu
        cases h
        rw [hu]
        match cs, hl with
        | [v], _ =>
          cases v with
          | string s =>
            by_cases hw : s.size ≤ maxLen
            · exact .inl ⟨by simp [hw, litOf], hw, trivial⟩
            · exact .inr (.inl ⟨by simp only [if_neg hw], fun hf => hw hf.1⟩)
          | _ => exact .inr (.inl ⟨rfl, fun hf => hf.1⟩)
      · rename_i n e hu
        split at h
        · rename_i l hfl
          split at h
          · rename_i hc
            cases h
            rw [hu]
            have hlen : cs.length = n * l.length := by rw [hl, List.length_flatten]; simp
            simp only [hc.1, hc.2, hlen, if_true]
            rcases lits_items (lits_flat d e l hfl) n cs hlen with h1 | h1
            · exact .inl h1
            · exact .inr (.inl h1)
          · cases h
        · cases h
      · rename_i fs hu
        split at h
        · rename_i l hfl
          split at h
          · rename_i hc
            cases h
            rw [hu]
            have hn := fieldsK_names hfl
            rw [Array.all_toList] at hn
            simp only [hc, hl, true_and, hn, if_true]
            have := lits_fields (lits_flat d) fs.toList [] cs ks hfl hl
            simp only [List.nil_append] at this
            rcases this with h1 | h1
            · exact .inl h1
            · exact .inr (.inl h1)
          · cases h
        · cases h
      · cases h
    · exact .inr (.inr hl)
/-- What a type must be, so that its values are compared cell by cell. -/
def eqT (P : Program) (d : Nat) (t : TypeId) : Bool :=
  P.keyTypeAt d t && !P.eqGuardType P.depth t && (match P.underlying t with | some (.array _ _) | some (.struct _) => true | _ => false) && decide (d ≤ 10000)
theorem flat_cells {P : Program} {d : Nat} {t : TypeId} {ks : List FK} (hf : flatK P d t = some ks) (hk : eqT P d t = true) {xs : List Value} (hx : Fits ks xs) : (Value.agg xs.toArray).formed P t = true := by
  have hl := hx.length
  unfold eqT at hk
  simp only [Bool.and_eq_true] at hk
  cases d with
  | zero => simp [flatK] at hf
  | succ d =>
    unfold flatK at hf
    split at hf
    · rename_i hu; rw [hu] at hk; exact absurd hk.1.2 (by simp)
    · rename_i hu; rw [hu] at hk; exact absurd hk.1.2 (by simp)
    · rename_i hu; rw [hu] at hk; exact absurd hk.1.2 (by simp)
    · rename_i n e hu
      split at hf
      · split at hf
        · rename_i l _ hc
          cases hf
          simp [Value.formed, hu, hc.1, hl, List.length_flatten]
        · cases hf
      · cases hf
    · rename_i fs hu
      split at hf
      · split at hf
        · rename_i l _ hc
          cases hf
          simp [Value.formed, hu, hc, hl]
        · cases hf
      · cases hf
    · cases hf
theorem run_flat {P : Program} {d : Nat} {t : TypeId} {ks : List FK} (hf : flatK P d t = some ks) (hk : eqT P d t = true) {xs ys : List Value} (hx : Fits ks xs) (hy : Fits ks ys) (w : World) :
    ∃ r : Bool, (Op.equalIn 10000 t (.agg xs.toArray) (.agg ys.toArray)).run P w = .ok r w ∧ (r = true ↔ xs = ys) := by
  have hk' := hk
  unfold eqT at hk'
  simp only [Bool.and_eq_true, decide_eq_true_eq] at hk'
  have lx : P.keyLits d t xs = some (xs.map litOf) := by
    rcases lits_flat d t ks hf xs with h | h | h
    · exact h.1
    · exact absurd hx h.2
    · exact absurd hx.length h
  have ly : P.keyLits d t ys = some (ys.map litOf) := by
    rcases lits_flat d t ks hf ys with h | h | h
    · exact h.1
    · exact absurd hy h.2
    · exact absurd hy.length h
  obtain ⟨r, hr, hiff⟩ := run_equalIn_deep (P := P) (10000 - d) d t hk'.1.1.1 w d d (.agg xs.toArray) (.agg ys.toArray) (xs.map litOf) (ys.map litOf) (flat_cells hf hk hx) (flat_cells hf hk hy) lx ly
  rw [Nat.sub_add_cancel hk'.2] at hr
  exact ⟨r, hr, hiff.trans ⟨hx.inj hy, fun e => by rw [e]⟩⟩
theorem eq_flat {P : Program} {d : Nat} {t : TypeId} {ks : List FK} (hf : flatK P d t = some ks) (hk : eqT P d t = true) {a b : Operand} {xs ys : List Value} (hx : Fits ks xs) (hy : Fits ks ys) {w : World} {K : Bool → Prop}
    (h1 : xs = ys → K true) (h2 : xs ≠ ys → K false) :
    ∃ q : Bool, Sem.run P (do eqGuard .eql t a b (.agg (List.toArray xs)) (.agg (List.toArray ys)); binOp .eql t (.agg (List.toArray xs)) (.agg (List.toArray ys))) w = .ok (.bool q) w ∧ K q := by
  obtain ⟨r, hr, hiff⟩ := run_flat hf hk hx hy w
  have hg : P.eqGuardType P.depth t = false := by
    unfold eqT at hk
    simp only [Bool.and_eq_true, Bool.not_eq_true'] at hk
    exact hk.1.1.2
  refine ⟨r, ?_, ?_⟩
  · rw [Sem.run_bind, run_eqGuard_agg w .eql t a b _ _ hg]
    simp only [Result.andThen_ok]
    rw [run_eql_struct w t, hr, Result.andThen_ok]
  · cases r with
    | true => exact h1 (hiff.1 rfl)
    | false => exact h2 fun e => by have := hiff.2 e; cases this
theorem neq_flat {P : Program} {d : Nat} {t : TypeId} {ks : List FK} (hf : flatK P d t = some ks) (hk : eqT P d t = true) {a b : Operand} {xs ys : List Value} (hx : Fits ks xs) (hy : Fits ks ys) {w : World} {K : Bool → Prop}
    (h1 : xs = ys → K false) (h2 : xs ≠ ys → K true) :
    ∃ q : Bool, Sem.run P (do eqGuard .neq t a b (.agg (List.toArray xs)) (.agg (List.toArray ys)); binOp .neq t (.agg (List.toArray xs)) (.agg (List.toArray ys))) w = .ok (.bool q) w ∧ K q := by
  obtain ⟨r, hr, hiff⟩ := run_flat hf hk hx hy w
  have hg : P.eqGuardType P.depth t = false := by
    unfold eqT at hk
    simp only [Bool.and_eq_true, Bool.not_eq_true'] at hk
    exact hk.1.1.2
  refine ⟨!r, ?_, ?_⟩
  · rw [Sem.run_bind, run_eqGuard_agg w .neq t a b _ _ hg]
    simp only [Result.andThen_ok]
    rw [run_neq_struct w t, hr, Result.andThen_ok]
  · cases r with
    | true => exact h1 (hiff.1 rfl)
    | false => exact h2 fun e => by have := hiff.2 e; cases this
end Go.Proofs.YtjchneebdlncfaaDoor.Den
namespace Go.Proofs.YtjchneebdlncfaaDoor.Den
open Go
open Go.RowKit (Below)
theorem eq_flat_d {P : Program} {d : Nat} {t : TypeId} {ks : List FK} (hf : flatK P d t = some ks) (hk : eqT P d t = true) {a b : Operand} {xs ys : List Value} (hx : Fits ks xs) (hy : Fits ks ys) {w : World} {K : Bool → Prop}
    {p : Prop} [Decidable p] (hp : xs = ys ↔ p) (hK : K (decide p)) :
    ∃ q : Bool, Sem.run P (do eqGuard .eql t a b (.agg (List.toArray xs)) (.agg (List.toArray ys)); binOp .eql t (.agg (List.toArray xs)) (.agg (List.toArray ys))) w = .ok (.bool q) w ∧ K q :=
  eq_flat hf hk hx hy (fun h => by rwa [decide_eq_true (hp.1 h)] at hK) (fun h => by rwa [decide_eq_false fun h2 => h (hp.2 h2)] at hK)
theorem neq_flat_d {P : Program} {d : Nat} {t : TypeId} {ks : List FK} (hf : flatK P d t = some ks) (hk : eqT P d t = true) {a b : Operand} {xs ys : List Value} (hx : Fits ks xs) (hy : Fits ks ys) {w : World} {K : Bool → Prop}
    {p : Prop} [Decidable p] (hp : xs = ys ↔ p) (hK : K (!decide p)) :
    ∃ q : Bool, Sem.run P (do eqGuard .neq t a b (.agg (List.toArray xs)) (.agg (List.toArray ys)); binOp .neq t (.agg (List.toArray xs)) (.agg (List.toArray ys))) w = .ok (.bool q) w ∧ K q :=
  neq_flat hf hk hx hy (fun h => by rwa [decide_eq_true (hp.1 h)] at hK) (fun h => by rwa [decide_eq_false fun h2 => h (hp.2 h2)] at hK)
end Go.Proofs.YtjchneebdlncfaaDoor.Den
namespace Go.Proofs.YtjchneebdlncfaaDoor.Den
open Go
open Go.RowKit (Below)
/-- A fact about a world, and the blocks that it hangs on. -/
structure Fact where
  holds : World → Prop
  foot : Nat → Prop
  keep : ∀ {w w' : World}, holds w → (∀ k, foot k → k < w.heap.size → w'.heap[k]? = w.heap[k]?) → holds w'
def blkOf (a : Option Addr) (k : Nat) : Prop := ∃ x, a = some x ∧ x.block = k
theorem RSl.keep {w w' : World} {sz n c : Nat} {a : Option Addr} {cs : List Value} (h : RSl w sz a n c cs) (hk : ∀ k, blkOf a k → k < w.heap.size → w'.heap[k]? = w.heap[k]?) : RSl w' sz a n c cs := by
  refine ⟨h.cap, h.len, h.ones, ?_⟩
  rcases h.at' with h' | ⟨b, o, h1, h2⟩
  · exact .inl h'
  · refine .inr ⟨b, o, h1, fun i v hv => ?_⟩
    have := h2 i v hv
    rw [add_mk] at this ⊢
    rw [World.cell?_of_block (w := w) (hk b ⟨_, h1, rfl⟩ (World.block_lt_of_cell? _ _ this))]
    exact this
theorem own_keep' {w w' : World} {base e size : Nat} {a : Option Addr} {m n c : Nat} {xs : List Value} (h : w.ownsRow base e size (.slice a m c) n xs) (hk : ∀ k, blkOf a k → k < w.heap.size → w'.heap[k]? = w.heap[k]?) : w'.ownsRow base e size (.slice a m c) n xs := by
  refine own_keep h fun k hb => ?_
  cases a with
  | none => cases hb
  | some x =>
    simp only [Value.ownBlock, Option.some.injEq] at hb
    exact hk k ⟨x, rfl, hb⟩ (own_lt h (by simp only [Value.ownBlock, Option.some.injEq]; exact hb)).2
def fBlk (b : Nat) (cs : List Value) : Fact := ⟨fun w => Blk w b cs, fun k => k = b, fun h hk => h.of_heap (hk b rfl h.lt)⟩
def fRsl (sz : Nat) (a : Option Addr) (n c : Nat) (cs : List Value) : Fact := ⟨fun w => RSl w sz a n c cs, blkOf a, fun h hk => h.keep hk⟩
def fOwn (base e size : Nat) (a : Option Addr) (n c : Nat) (xs : List Value) : Fact := ⟨fun w => w.ownsRow base e size (.slice a n c) n xs, blkOf a, fun h hk => own_keep' h hk⟩
/-- The fact does not hang on these blocks. -/
def Fact.off (f : Fact) (s : List Nat) : Prop := ∀ k ∈ s, ¬ f.foot k
/-- It hangs on blocks below b alone. -/
def Fact.under (f : Fact) (b : Nat) : Prop := ∀ k, f.foot k → k < b
/-- Since 'w0' at most the blocks 's' (and new ones) have turned; and these facts hold. -/
structure St (w0 : World) (s : List Nat) (w : World) (L : List Fact) : Prop where
  tch : Tch s w0 w
  all : ∀ f ∈ L, f.holds w
variable {w0 w w' : World} {s t : List Nat} {L : List Fact}
theorem St.refl (w : World) (s : List Nat) : St w s w [] := ⟨Tch.refl s w, fun f hf => by cases hf⟩
theorem St.add (h : St w0 s w L) (f : Fact) (hf : f.holds w) : St w0 s w (f :: L) := ⟨h.tch, fun g hg => by
  rcases List.mem_cons.1 hg with rfl | hg
  · exact hf
  · exact h.all g hg⟩
theorem St.sub (h : St w0 s w L) {M : List Fact} (hM : ∀ f ∈ M, f ∈ L) : St w0 s w M := ⟨h.tch, fun f hf => h.all f (hM f hf)⟩
theorem St.step (h : St w0 s w L) (ht : Tch t w w') (hf : ∀ f ∈ L, f.off t) (hs : ∀ i ∈ t, i ∈ s ∨ w0.heap.size ≤ i) : St w0 s w' L :=
  ⟨h.tch.trans ht hs, fun f hm => f.keep (h.all f hm) fun k hk hlt => ht.block k hlt fun hkt => hf f hm k hkt hk⟩
theorem St.quiet (h : St w0 s w L) (ht : Tch [] w w') : St w0 s w' L := h.step ht (fun _ _ _ hk => by cases hk) (fun _ hi => by cases hi)
theorem St.drew (h : St w0 s w L) : St w0 s w.drew L := h.quiet ((Tch.refl [] w).drew)
theorem St.alloc (h : St w0 s w L) (o : Obj) : St w0 s (w.alloc o) L := h.quiet ((Tch.refl [] w).alloc o)
/-- A new block. -/
theorem St.new (h : St w0 s w L) {cs : List Value} (ds : List Value) (T : TypeId) (e : cs = ds) : St w0 s (w.alloc (.cells cs.toArray T)) (fBlk w.heap.size ds :: L) :=
  (h.alloc _).add _ (Blk.fresh w T e)
theorem St.below (h : St w0 s w L) {B : Nat} (hb : Below B w w') (hf : ∀ f ∈ L, f.under B) (hB : w0.heap.size ≤ B) : St w0 s w' L :=
  ⟨h.tch.up hb hB, fun f hm => f.keep (h.all f hm) fun k hk _ => hb.block k (hf f hm k hk)⟩
theorem St.size (h : St w0 s w L) : w0.heap.size ≤ w.heap.size := h.tch.size
theorem St.get (h : St w0 s w L) {f : Fact} (hm : f ∈ L) : f.holds w := h.all f hm
theorem St.blk (h : St w0 s w L) {b : Nat} {cs : List Value} (hm : fBlk b cs ∈ L) : Blk w b cs := h.all _ hm
theorem St.rsl (h : St w0 s w L) {sz n c : Nat} {a : Option Addr} {cs : List Value} (hm : fRsl sz a n c cs ∈ L) : RSl w sz a n c cs := h.all _ hm
theorem St.own (h : St w0 s w L) {base e size n c : Nat} {a : Option Addr} {xs : List Value} (hm : fOwn base e size a n c xs ∈ L) : w.ownsRow base e size (.slice a n c) n xs := h.all _ hm
end Go.Proofs.YtjchneebdlncfaaDoor.Den
namespace Go.Proofs.YtjchneebdlncfaaDoor.Lib
open Go Den
open Go.RowKit (Below)
set_option maxRecDepth 8000
abbrev u8 (l : List Int) : List Value := l.map (Value.int .u8)
abbrev i64s (l : List Int) : List Value := l.map (Value.int .i64)
def Bytes (l : List Int) : Prop := ∀ x ∈ l, 0 ≤ x ∧ x < 256
def I64 (n : Int) : Prop := -9223372036854775808 ≤ n ∧ n ≤ 9223372036854775807
theorem i64_wf {n : Int} : (Lit.int .i64 n).wf = true ↔ I64 n := by
  simp [Lit.wf, IntKind.min, IntKind.max, IntKind.signed, IntKind.bits, I64]
theorem take_set_len {l : List Int} {k : Nat} (h : k < l.length) (v : Int) : (l.set k v).take (k + 1) = l.take k ++ [v] := by
  rw [List.take_succ_eq_append_getElem (by simpa using h)]
  simp [List.take_set_of_le]
theorem getD_take {l : List Int} {k i : Nat} (h : i < k) : (l.take k).getD i 0 = l.getD i 0 := by
  simp [List.getD_eq_getElem?_getD, List.getElem?_take, h]
theorem getD_set_ne {l : List Int} {k i : Nat} (h : k ≠ i) (v : Int) : (l.set k v).getD i 0 = l.getD i 0 := by
  simp [List.getD_eq_getElem?_getD, List.getElem?_set_ne h]
theorem getD_append {a b : List Int} {i : Nat} (h : i < a.length) : (a ++ b).getD i 0 = a.getD i 0 := by
  simp [List.getD_eq_getElem?_getD, List.getElem?_append_left h]
theorem getD_drop {l : List Int} {k i : Nat} : (l.drop k).getD i 0 = l.getD (k + i) 0 := by
  simp [List.getD_eq_getElem?_getD, List.getElem?_drop]
theorem byte_of {bs : List Int} (h : Bytes bs) (i : Nat) : 0 ≤ bs.getD i 0 ∧ bs.getD i 0 < 256 := by
  rw [List.getD_eq_getElem?_getD]
  cases hb : bs[i]? with
  | none => simp
  | some x => exact h x (List.mem_of_getElem? hb)
theorem wrap_u8_byte (x : Int) : 0 ≤ IntKind.wrap .u8 x ∧ IntKind.wrap .u8 x < 256 := by rw [wrap_u8_eq]; omega
theorem u8_len {w : World} {a : Option Addr} {n c : Nat} {bs : List Int} (h : RSl w 1 a n c (u8 bs)) : bs.length = n := by have := h.len; simpa using this
theorem Bytes.append {a b : List Int} (h : Bytes a) (k : Bytes b) : Bytes (a ++ b) := fun x hx => (List.mem_append.1 hx).elim (h x) (k x)
theorem Bytes.nil : Bytes [] := fun x hx => by cases hx
theorem Bytes.drop {bs : List Int} (h : Bytes bs) (n : Nat) : Bytes (bs.drop n) := fun x hx => h x (List.mem_of_mem_drop hx)
theorem Bytes.take {bs : List Int} (h : Bytes bs) (n : Nat) : Bytes (bs.take n) := fun x hx => h x (List.mem_of_mem_take hx)
theorem Bytes.one {x : Int} (h0 : 0 ≤ x) (h1 : x < 256) : Bytes [x] := fun y hy => by simp at hy; omega
theorem take_succ_getD {l : List Int} {k : Nat} (h : k < l.length) : l.take (k + 1) = l.take k ++ [l.getD k 0] := by
  rw [List.take_succ_eq_append_getElem h]
  simp [List.getD_eq_getElem?_getD, h]
theorem shR_nat {k : IntKind} {x : Int} (n : Nat) (hn : n ≤ k.bits) : shR k x (n : Int) = x / 2 ^ n := by
  unfold shR
  rw [Int.toNat_natCast, Nat.min_eq_left hn, Int.fdiv_eq_ediv_of_nonneg _ (by exact Int.pow_nonneg (by omega))]
theorem bOr_nat {k : IntKind} (h63 : k.bits ≤ 64) {a b : Nat} (n : Nat) (h : b < 2 ^ n) (ha : a * 2 ^ n + b < 2 ^ k.bits) (hw : IntKind.wrap k ((a * 2 ^ n + b : Nat) : Int) = ((a * 2 ^ n + b : Nat) : Int)) : bOr k ((a * 2 ^ n : Nat) : Int) (b : Int) = ((a * 2 ^ n + b : Nat) : Int) := by
  unfold bOr
  rw [BitVec.toNat_or, toNat_ofInt (by omega) (by exact_mod_cast (show a * 2 ^ n < 2 ^ k.bits by omega)), toNat_ofInt (by omega) (by exact_mod_cast (show b < 2 ^ k.bits by omega)), Int.toNat_natCast, Int.toNat_natCast, or_plus n h]
  exact hw
theorem _root_.Go.Proofs.YtjchneebdlncfaaDoor.Den.RSl.cut {w : World} {a : Option Addr} {n c : Nat} {bs : List Int} (h : RSl w 1 a n c (u8 bs)) {l hh : Nat} (h1 : l ≤ hh) (h2 : hh ≤ n) :
    RSl w 1 (if c = l then a else Option.map (fun y => Addr.add y (l * 1)) a) (hh - l) (c - l) (u8 ((bs.drop l).take (hh - l))) := by
  have := h.sub h1 h2
  rw [Nat.mul_one, Nat.mul_one, ← List.map_drop, ← List.map_take] at this
  rw [Nat.mul_one]
  exact this
theorem zc8 : zc Tryd.prog 5 = [.int .u8 0] := by kernel_rfl
theorem bT : slT Tryd.prog 22 5 1 1 = true := by kernel_rfl
end Go.Proofs.YtjchneebdlncfaaDoor.Lib
namespace Go.Proofs.YtjchneebdlncfaaDoor.Lib
open Go Den
set_option maxRecDepth 8000
/-! ### Numbers of 32 bits -/
theorem ofInt_toNat {n : Nat} (s : BitVec n) : BitVec.ofInt n (s.toNat : Int) = s := by
  apply BitVec.eq_of_toNat_eq
  rw [BitVec.toNat_ofInt, Int.emod_eq_of_lt (by omega) (by have := s.isLt; exact_mod_cast this), Int.toNat_natCast]
theorem xor32 (s t : BitVec 32) : bXor .u32 (s.toNat : Int) (t.toNat : Int) = ((s ^^^ t).toNat : Int) := by
  unfold bXor
  show IntKind.wrap .u32 (((BitVec.ofInt 32 _ ^^^ BitVec.ofInt 32 _).toNat : Nat) : Int) = _
  rw [ofInt_toNat, ofInt_toNat, wrap_u32 (by omega) (by have := (s ^^^ t).isLt; omega)]
theorem and32 (s t : BitVec 32) : bAnd .u32 (s.toNat : Int) (t.toNat : Int) = ((s &&& t).toNat : Int) := by
  unfold bAnd
  show IntKind.wrap .u32 (((BitVec.ofInt 32 _ &&& BitVec.ofInt 32 _).toNat : Nat) : Int) = _
  rw [ofInt_toNat, ofInt_toNat, wrap_u32 (by omega) (by have := (s &&& t).isLt; omega)]
theorem shr32 (s : BitVec 32) (k : Nat) (hk : k ≤ 32) : shR .u32 (s.toNat : Int) (k : Int) = ((s >>> k).toNat : Int) := by
  unfold shR
  show Int.fdiv (s.toNat : Int) (2 ^ (min (Int.toNat (k : Int)) 32)) = _
  rw [Int.toNat_natCast, Nat.min_eq_left hk, BitVec.toNat_ushiftRight, Nat.shiftRight_eq_div_pow]
  rw [Int.fdiv_eq_ediv_of_nonneg _ (by exact Int.pow_nonneg (by omega))]
  norm_cast
theorem and15 (s : BitVec 32) : bAnd .u32 (s.toNat : Int) 15 = ((s.toNat % 16 : Nat) : Int) := by
  have := and32 s 15#32
  rw [show ((15#32 : BitVec 32).toNat : Int) = 15 from rfl] at this
  rw [this, BitVec.toNat_and]
  congr 1
  exact Nat.and_two_pow_sub_one_eq_mod _ 4

/-! ### Steps -/
def P32 : BitVec 32 := 3988292384#32
def cs (s : BitVec 32) : BitVec 32 := (s >>> 1) ^^^ (bif s.getLsbD 0 then P32 else 0#32)
theorem cs_xor (a b : BitVec 32) : cs (a ^^^ b) = cs a ^^^ cs b := by
  unfold cs
  rw [BitVec.getLsbD_xor, BitVec.ushiftRight_xor_distrib]
  generalize a >>> 1 = x
  generalize b >>> 1 = y
  have h : ∀ p q : BitVec 32, p = q → (x ^^^ p) ^^^ (y ^^^ q) = x ^^^ y := by
    rintro p _ rfl
    rw [show (x ^^^ p) ^^^ (y ^^^ p) = (x ^^^ y) ^^^ (p ^^^ p) by ac_rfl, BitVec.xor_self, BitVec.xor_zero]
  cases a.getLsbD 0 <;> cases b.getLsbD 0
  · simp
  · simp [BitVec.xor_assoc]
  · simp only [Bool.true_xor, Bool.not_false, cond_true, cond_false, BitVec.xor_zero]; ac_rfl
  · simp only [Bool.true_xor, Bool.not_true, cond_true, cond_false, BitVec.xor_zero]; exact (h _ _ rfl).symm
def cs4 (s : BitVec 32) : BitVec 32 := cs (cs (cs (cs s)))
theorem cs4_xor (a b : BitVec 32) : cs4 (a ^^^ b) = cs4 a ^^^ cs4 b := by simp only [cs4, cs_xor]
theorem cs_even {a : BitVec 32} (h : a.getLsbD 0 = false) : cs a = a >>> 1 := by unfold cs; rw [h, cond_false, BitVec.xor_zero]
theorem shr_shr (a : BitVec 32) (i j : Nat) : (a >>> i) >>> j = a >>> (i + j) := by
  apply BitVec.eq_of_getLsbD_eq
  intro k hk
  simp [BitVec.getLsbD_ushiftRight, Nat.add_assoc]
theorem cs4_high {a : BitVec 32} (h : ∀ i, i < 4 → a.getLsbD i = false) : cs4 a = a >>> 4 := by
  unfold cs4
  rw [cs_even (h 0 (by omega)), cs_even (a := a >>> 1) (by rw [BitVec.getLsbD_ushiftRight]; exact h 1 (by omega)), shr_shr,
    cs_even (a := a >>> (1 + 1)) (by rw [BitVec.getLsbD_ushiftRight]; exact h 2 (by omega)), shr_shr,
    cs_even (a := a >>> (1 + 1 + 1)) (by rw [BitVec.getLsbD_ushiftRight]; exact h 3 (by omega)), shr_shr]
def halves : List Int := [0, 498536548, 997073096, 651767980, 1994146192, 1802195444, 1303535960, 1342533948, 3988292384, 4027552580, 3604390888, 3412177804, 2607071920, 2262029012, 2685067896, 3183342108]
theorem halves_spec : ∀ i : Fin 16, halves.getD i.val 0 = ((cs4 (BitVec.ofNat 32 i.val)).toNat : Int) := by decide
theorem split4 (s : BitVec 32) : s = (s &&& 4294967280#32) ^^^ BitVec.ofNat 32 (s.toNat % 16) := by
  have h1 : BitVec.ofNat 32 (s.toNat % 16) = s &&& 15#32 := by
    apply BitVec.eq_of_toNat_eq
    rw [BitVec.toNat_ofNat, BitVec.toNat_and]
    have := Nat.and_two_pow_sub_one_eq_mod s.toNat 4
    simp only [show (15#32 : BitVec 32).toNat = 2 ^ 4 - 1 from rfl, this]
    omega
  rw [h1]
  apply BitVec.eq_of_getLsbD_eq
  intro i hi
  rw [BitVec.getLsbD_xor, BitVec.getLsbD_and, BitVec.getLsbD_and]
  have : (4294967280#32).getLsbD i = !(15#32 : BitVec 32).getLsbD i := by
    have : ∀ i : Fin 32, (4294967280#32).getLsbD i.val = !(15#32 : BitVec 32).getLsbD i.val := by decide
    exact this ⟨i, hi⟩
  rw [this]
  cases s.getLsbD i <;> cases (15#32 : BitVec 32).getLsbD i <;> rfl
/-- The table's step. -/
theorem half_step (s : BitVec 32) : bXor .u32 (shR .u32 (s.toNat : Int) 4) (halves.getD (bAnd .u32 (s.toNat : Int) 15).toNat 0) = ((cs4 s).toNat : Int) := by
  have h1 : s.toNat % 16 < 16 := Nat.mod_lt _ (by omega)
  rw [and15, Int.toNat_natCast, halves_spec ⟨s.toNat % 16, h1⟩, show (4 : Int) = ((4 : Nat) : Int) from rfl, shr32 s 4 (by omega), xor32]
  congr 2
  show _ ^^^ cs4 (BitVec.ofNat 32 (s.toNat % 16)) = _
  have hx : cs4 s = cs4 (s &&& 4294967280#32) ^^^ cs4 (BitVec.ofNat 32 (s.toNat % 16)) := by rw [← cs4_xor, ← split4]
  rw [hx, cs4_high (a := s &&& 4294967280#32)]
  · congr 1
    apply BitVec.eq_of_getLsbD_eq
    intro i hi
    rw [BitVec.getLsbD_ushiftRight, BitVec.getLsbD_ushiftRight, BitVec.getLsbD_and]
    have : ∀ i : Fin 28, (4294967280#32).getLsbD (4 + i.val) = true := by decide
    by_cases h : i < 28
    · rw [this ⟨i, h⟩, Bool.and_true]
    · rw [BitVec.getLsbD_of_ge _ _ (by omega), Bool.false_and]
  · intro i hi
    rw [BitVec.getLsbD_and]
    have : ∀ i : Fin 4, (4294967280#32).getLsbD i.val = false := by decide
    rw [this ⟨i, hi⟩, Bool.and_false]
def cb (s : BitVec 32) (c : Int) : BitVec 32 := cs4 (cs4 (s ^^^ BitVec.ofInt 32 c))
def crcF (l : List Int) : BitVec 32 := l.foldl cb 4294967295#32
/-- The check sum of some bytes. -/
def crc (l : List Int) : Int := ((crcF l ^^^ 4294967295#32).toNat : Int)
theorem crcF_snoc (l : List Int) (c : Int) : crcF (l ++ [c]) = cb (crcF l) c := by simp [crcF]
theorem crc_range (l : List Int) : 0 ≤ crc l ∧ crc l < 4294967296 := by
  unfold crc
  have := (crcF l ^^^ 4294967295#32).isLt
  omega
/-! ### Bit by bit -/
def csN : Nat → BitVec 32 → BitVec 32
  | 0, s => s
  | k + 1, s => cs (csN k s)
/-- The state within a byte, before its k-th bit. -/
def rb (s : BitVec 32) (c k : Nat) : BitVec 32 := csN k (s ^^^ BitVec.ofNat 32 (c % 2 ^ k))
end Go.Proofs.YtjchneebdlncfaaDoor.Lib
