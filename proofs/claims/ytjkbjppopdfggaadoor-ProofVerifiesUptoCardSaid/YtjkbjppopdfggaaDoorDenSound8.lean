/-
  STRUCTURED CODE AND FUNCTIONS: 'trS', 'denS_sound', 'calls_of_den'.
  Own work. No macro, syntax, notation, axiom.
-/
import Derived.Test.YtjkbjppopdfggaaDoorDenSound7
import Derived.Scope
namespace Go.Proofs.YtjkbjppopdfggaaDoor.Den
open Go

def clStep (acc : List (List Nat)) (o : Oper) : List (List Nat) :=
  acc ++ [(o.after.toList.flatMap fun e => if Region.binds .any e then e.on :: acc.getD e.on [] else []).eraseDups]
def clOf (ops : Array Oper) : List (List Nat) := ops.toList.foldl clStep []
def clOkB (ops : Array Oper) (t : List (List Nat)) : Bool :=
  (List.range ops.size).all fun j =>
    match ops[j]? with
    | some o => (t.getD j []).all fun k => o.after.any fun e => Region.binds .any e && (e.on == k || (decide (e.on < j) && (t.getD e.on []).contains k && (ops[e.on]?).isSome))
    | none => true
theorem clOk_spec {ops : Array Oper} {t : List (List Nat)} (h : clOkB ops t = true) : ClOk ops fun j => t.getD j [] := by
  intro j o ho k hk
  unfold clOkB at h
  rw [List.all_eq_true] at h
  have hj : j < ops.size := (Array.getElem?_eq_some_iff.1 ho).1
  have h1 := h j (List.mem_range.2 hj)
  rw [ho] at h1
  simp only [List.all_eq_true] at h1
  have h2 := h1 k hk
  obtain ⟨e, he, hb⟩ := Array.any_eq_true'.1 h2
  simp only [Bool.and_eq_true, Bool.or_eq_true, beq_iff_eq, decide_eq_true_eq, List.contains_iff_mem] at hb
  refine ⟨e, he, hb.1, ?_⟩
  rcases hb.2 with h | ⟨⟨h, h'⟩, h''⟩
  · exact .inl h
  · exact .inr ⟨h, h', Option.isSome_iff_exists.1 h''⟩

/-- The slots that code writes. -/
def asg : Code → List Nat
  | .region _ ops _ => ops.toList.filterMap (·.dst)
  | .seq a b => asg a ++ asg b
  | .cond _ a b => asg a ++ asg b
  | .block _ a => asg a
  | .loop a => asg a
  | .scope a => asg a
  | _ => []
def trS (P : Program) (pn : List Nat) (n : Nat) : Code → S → Option S
  | .skip, _ => some .skip
  | .exit id, _ => some (.exit id)
  | .ret, _ => some .ret
  | .region _ ops draw, s =>
    match draw, s with
    | false, .ops _ ks => match trXs P pn n ops ops.toList with
      | some xs => some (.ops xs ks)
      | none => none
    | true, .draw d ks =>
      if P.follows .mixedOrders && Region.noSelect ops && clOkB ops (clOf ops) then
        match trD P pn n ops (fun j => (clOf ops).getD j []) d true ops.size (Array.replicate ops.size false) [] with
        | some d' => some (.draw d' ks)
        | none => none
      else none
    | _, _ => none
  | .seq a b, .seq s1 s2 =>
    match trS P pn n a s1, trS P pn n b s2 with
    | some x, some y => some (.seq x y)
    | _, _ => none
  | .seq a b, .join sl ks s1 s2 =>
    match trS P pn n a s1, trS P pn n b s2, ks.all fun k => !(asg a).contains k with
    | some x, some y, true => some (.join sl ks x y)
    | _, _, _ => none
  | .cond c a b, .cond _ s1 s2 =>
    match trS P pn n a s1, trS P pn n b s2 with
    | some x, some y => some (.cond c x y)
    | _, _ => none
  | .block id a, .block _ s =>
    match trS P pn n a s with
    | some x => some (.block id x)
    | none => none
  | .loop a, .loop sl ks s =>
    match trS P pn n a s, ks.all fun k => !(asg a).contains k with
    | some x, true => some (.loop sl ks x)
    | _, _ => none
  | .scope a, .scope s =>
    match trS P pn n a s with
    | some x => some (.scope x)
    | none => none
  | _, _ => none

theorem valsK_spec {e : Env} : ∀ {sl : List (Nat × Ty)} {K : List Value → Prop}, valsK e sl K → ∃ vs, (vs.length = sl.length ∧ ∀ (i k : Nat) (t : Ty), sl[i]? = some (k, t) → ∃ v, vs[i]? = some v ∧ find e k = some v) ∧ K vs
  | [], _, h => ⟨[], ⟨rfl, fun _ _ _ h => by simp at h⟩, h⟩
  | (k, t) :: r, K, h => by
    unfold valsK at h
    split at h
    · rename_i v hv
      obtain ⟨vs, ⟨h1, h2⟩, h3⟩ := valsK_spec h
      refine ⟨v :: vs, ⟨by simp [h1], fun i k' t' hi => ?_⟩, h3⟩
      cases i with
      | zero => simp at hi; obtain ⟨rfl, rfl⟩ := hi; exact ⟨v, rfl, hv⟩
      | succ i => simp at hi; simpa using h2 i k' t' hi
    · exact h.elim
/-- What 'app' says of the values' shapes is what 'allSl' runs over. -/
theorem allSl_spec : ∀ {sl : List (Nat × Ty)} {F : Env → List Value → Prop} (J : Fn (tys sl)) (vs : List Value) (w : World), allSl sl F → app (tys sl) J vs w → (∃ es : Env, (es.map (·.1) = sl.map (·.1)) ∧ es.map (·.2) = vs ∧ F es vs)
  | [], F, J, vs, w, h, ha => by
    cases vs with
    | nil => exact ⟨[], rfl, rfl, h⟩
    | cons v vs => exact (show False from ha).elim
  | (k, t) :: r, F, J, vs, w, h, ha => by
    cases vs with
    | nil => cases t <;> exact (show False from ha).elim
    | cons v vs =>
      have fin : ∀ (J' : Fn (tys r)), (allSl r fun e vs => F ((k, v) :: e) (v :: vs)) → app (tys r) J' vs w → (∃ es : Env, (es.map (·.1) = ((k, t) :: r).map (·.1)) ∧ es.map (·.2) = v :: vs ∧ F es (v :: vs)) := by
        intro J' h' ha'
        obtain ⟨es, h1, h2, h3⟩ := allSl_spec J' vs w h' ha'
        exact ⟨(k, v) :: es, by simp [h1], by simp [h2], h3⟩
      cases t
      case any => exact fin _ (h v) ha
      all_goals
        cases v <;> first | exact (show False from ha).elim | skip
      case int.int k0 k1 q =>
        obtain ⟨h1, h2⟩ := same_if (show bif same k1 k0 then app (tys r) _ vs w else False from ha)
        subst h1
        exact fin _ (h q) h2
      case sl.slice a n' c => exact fin _ (h a n' c) ha
      all_goals exact fin _ (h _) ha
theorem find_zip : ∀ {es : Env} {sl : List (Nat × Ty)} {vs : List Value} {e : Env}, es.map (·.1) = sl.map (·.1) → es.map (·.2) = vs → (∀ (i k : Nat) (t : Ty), sl[i]? = some (k, t) → ∃ v, vs[i]? = some v ∧ find e k = some v) →
    ∀ t v, find es t = some v → find e t = some v
  | [], _, _, _, _, _, _, t, v, h => by cases h
  | (k, u) :: es, sl, vs, e, h1, h2, h3, t, v, h => by
    cases sl with
    | nil => simp at h1
    | cons s sl =>
      obtain ⟨k', t'⟩ := s
      simp at h1
      obtain ⟨rfl, h1⟩ := h1
      subst h2
      rw [find_cons] at h
      split at h
      · rename_i hk
        subst hk
        cases h
        obtain ⟨v', hv, hf⟩ := h3 0 k t' rfl
        simp at hv
        subst hv
        exact hf
      · exact find_zip h1 rfl (fun i k t hi => by simpa using h3 (i + 1) k t (by simpa using hi)) t v h
theorem find_append (es ek : Env) (t : Nat) : find (es ++ ek) t = (find es t).or (find ek t) := by
  induction es with
  | nil => rfl
  | cons p es ih =>
    obtain ⟨k, v⟩ := p
    rw [List.cons_append, find_cons, find_cons]
    split
    · rfl
    · exact ih
theorem wpIn_loop_nat {F : Fence} {m0 : Nat} {P : Program} {c : Code} {Q : Exit → Act → World → Prop} {a : Act} {w : World} (I : Nat → Act → World → Prop) (m : Nat) (h₀ : I m a w)
    (round : ∀ m a w, I m a w → c.wpIn F m0 P (Exit.then (fun a' w' => ∃ m', m' < m ∧ I m' a' w') Q) a w) : (Code.loop c).wpIn F m0 P Q a w := by
  intro b k cs hro hb hr
  have key : ∀ m a w, I m a w → ∃ e a' w', Q e a' w' ∧ ArrivesIn (Machine.fenced P F) P (lone (b.atR a (.code c :: .inLoop c :: k)) cs w) b k cs e a' w' := by
    intro m
    induction m using Nat.strongRecOn with
    | _ m ih =>
      intro a w hI
      obtain ⟨e, a₁, w₁, hq, harr⟩ := round m a w hI b (.inLoop c :: k) cs hro hb hr
      cases e with
      | normal =>
        obtain ⟨m', hlt, hI₁⟩ := hq
        obtain ⟨e₂, a₂, w₂, hq₂, harr₂⟩ := ih m' hlt a₁ w₁ hI₁
        exact ⟨e₂, a₂, w₂, hq₂, .of_steps (StepsIn.trans harr (.one (fenced_calm hb hr rfl) stepR_inLoop)) harr₂⟩
      | exit id => exact ⟨_, a₁, w₁, hq, .pass (x := .inLoop c) rfl (fun _ _ => .inl (by simp)) harr⟩
      | goto l => exact ⟨_, a₁, w₁, hq, .pass (x := .inLoop c) rfl (fun _ _ => .inl (by simp)) harr⟩
      | ret => exact ⟨_, a₁, w₁, hq, .pass (x := .inLoop c) rfl (fun _ _ => .inl (by simp)) harr⟩
      | panic ch => exact ⟨_, a₁, w₁, hq, .pass (x := .inLoop c) rfl (fun _ _ => .inl (by simp)) harr⟩
      | outgrown => exact ⟨_, a₁, w₁, hq, .pass (x := .inLoop c) rfl (fun _ _ => .inl (by simp)) harr⟩
  obtain ⟨e, a', w', hq, harr⟩ := key m a w h₀
  exact ⟨e, a', w', hq, .of_steps (.one (fenced_calm hb hr rfl) stepR_loop) harr⟩
section
variable {P : Program} {b : Frame} {a : Act} {k : List Item} {cs : List Frame} {w : World}
theorem stepR_scope {c : Code} : step P (lone (b.atR a (.code (.scope c) :: k)) cs w) = .next (lone (b.atR a (.code c :: .inScope c :: k)) cs w) :=
  step_lone_go (by simp [stepG, stepG.exec, Frame.atR])
theorem stepR_inScope {c : Code} : step P (lone (b.atR a (.inScope c :: k)) cs w) = .next (lone (b.atR a k) cs w) :=
  step_lone_go (by simp [stepG, stepG.exec, Frame.atR])
end
theorem exitTo_inScope (id : Nat) (c : Code) (k : List Item) : exitTo id (.inScope c :: k) = exitTo id k := by simp [exitTo]
theorem wpIn_scope_straight {F : Fence} {m0 : Nat} {P : Program} {Q : Exit → Act → World → Prop} {a : Act} {w : World} {c : Code} (h : c.wpIn F m0 P (Exit.noGoto Q) a w) : (Code.scope c).wpIn F m0 P Q a w := by
  intro b k cs hro hb hr
  have h0 : (lone (b.atR a (.code (.scope c) :: k)) cs w).fenced P F := fenced_calm hb hr rfl
  obtain ⟨e, a₁, w₁, hq, harr⟩ := h b (.inScope c :: k) cs hro hb hr
  cases e with
  | normal => exact ⟨.normal, a₁, w₁, hq, .head h0 stepR_scope (StepsIn.trans harr (.one (fenced_calm hb hr rfl) stepR_inScope))⟩
  | exit id => exact ⟨.exit id, a₁, w₁, hq, fun k' hk => .head h0 stepR_scope (harr.1 k' (by rw [exitTo_inScope]; exact hk)), fun hro hk => by
      obtain ⟨k₁, h1, h2⟩ := harr.2 hro (by rw [exitTo_inScope]; exact hk)
      exact ⟨k₁, h1, .head h0 stepR_scope h2⟩⟩
  | goto l => exact hq.elim
  | ret => exact ⟨_, a₁, w₁, hq, .of_steps (.one h0 stepR_scope) harr⟩
  | panic ch => exact ⟨_, a₁, w₁, hq, .of_steps (.one h0 stepR_scope) harr⟩
  | outgrown => exact ⟨_, a₁, w₁, hq, .of_steps (.one h0 stepR_scope) harr⟩

/-- No jump by name. -/
def tame : Exit → Prop
  | .goto _ => False
  | _ => True
/-- What stands behind a piece of code. -/
def Aft (n : Nat) (d0 : List Deferred) (l : List Nat) (a : Act) (Q : Post) (ex : Exit) (a' : Act) (w' : World) : Prop :=
  match ex with
  | .panic ch => a'.defers = d0 ∧ Q (.panic ch) [] w'
  | ex => tame ex ∧ (∀ t, t ∉ l → a'.tmps[t]? = a.tmps[t]?) ∧ ∃ e', Ok n d0 a' e' ∧ Q ex e' w'
theorem Aft.widen {n : Nat} {d0 : List Deferred} {l l' : List Nat} {a0 a : Act} {Q : Post} {ex : Exit} {a' : Act} {w' : World} (h : Aft n d0 l a Q ex a' w') (hl : ∀ t, t ∉ l' → t ∉ l ∧ a.tmps[t]? = a0.tmps[t]?) : Aft n d0 l' a0 Q ex a' w' := by
  cases ex
  case panic ch => exact h
  all_goals exact ⟨h.1, fun t ht => (h.2.1 t (hl t ht).1).trans (hl t ht).2, h.2.2⟩
theorem keep_ok {n : Nat} {d0 : List Deferred} {a a' : Act} {e ek : Env} {ks : List Nat} {l : List Nat} (ha : Ok n d0 a e) (hek : ∀ t v, find ek t = some v → t ∈ ks ∧ find e t = some v) (hks : ks.all (fun k => !l.contains k) = true)
    (hsame : ∀ t, t ∉ l → a'.tmps[t]? = a.tmps[t]?) : ∀ t v, find ek t = some v → a'.tmps[t]? = some v := by
  intro t v hf
  obtain ⟨h1, h2⟩ := hek t v hf
  rw [List.all_eq_true] at hks
  have := hks t h1
  rw [hsame t (by simpa using this)]
  exact ha.at' t v h2

section
variable {P : Program} {pn : List Nat} {n m : Nat} {r0 : Option Nat} {d0 : List Deferred}
theorem anyR_same {Z : Pan} {ops : Array Oper} {cl : Nat → List Nat} {Q : Act → World → Prop} {l : List Nat} (hl : ∀ o ∈ ops.toList, ∀ d, o.dst = some d → d ∈ l) {a0 : Act} : ∀ {f : Nat} {listed : Array Bool} {p : List (Nat × Value)} {a : Act} {w : World},
    (∀ t, t ∉ l → a.tmps[t]? = a0.tmps[t]?) → anyR P Z ops cl Q f listed p a w → anyR P Z ops cl (fun a' w' => (∀ t, t ∉ l → a'.tmps[t]? = a0.tmps[t]?) ∧ Q a' w') f listed p a w
  | 0, _, _, _, _, hs, h => ⟨h.1, hs, h.2⟩
  | f + 1, listed, p, a, w, hs, h => ⟨fun h0 => ⟨hs, h.1 h0⟩, fun j hj o ho => opR_mono (h.2 j hj o ho) fun v w' ⟨h1, h2⟩ => ⟨h1, anyR_same hl (fun t ht => by
      cases hd : o.dst with
      | none => simpa [Act.put] using hs t ht
      | some d =>
        simp only [Act.put]
        rw [Array.getElem?_setIfInBounds_ne (fun e => ht (by rw [← e]; exact hl o (by simpa using Array.mem_of_getElem? ho) d hd))]
        exact hs t ht) h2⟩⟩
theorem denS_sound : ∀ {c : Code} {h s : S} {e : Env} {a : Act} {w : World} {Q : Post}, trS P pn n c h = some s → Ok n d0 a e → denS P s e w Q → c.wpIn (Fr r0) m P (Aft n d0 (asg c) a Q) a w := by
  intro c
  induction c with
  | skip =>
    intro h s e a w Q ht ha hd
    unfold trS at ht; cases ht
    exact wpIn_skip ⟨trivial, fun _ _ => rfl, e, ha, hd⟩
  | exit id =>
    intro h s e a w Q ht ha hd
    unfold trS at ht; cases ht
    exact wpIn_exit ⟨trivial, fun _ _ => rfl, e, ha, hd⟩
  | ret =>
    intro h s e a w Q ht ha hd
    unfold trS at ht; cases ht
    exact wpIn_ret ⟨trivial, fun _ _ => rfl, e, ha, hd⟩
  | region id ops draw =>
    intro h s e a w Q ht ha hd
    unfold trS at ht
    split at ht
    · split at ht
      · rename_i xs hx
        cases ht
        refine wpIn_region_list (denOps_sound (Z := panQ Q) (d0 := d0) (fun ch a' w' hdf hz => ⟨hdf, hz⟩) hx ha hd fun a' e' w' h1 h2 h3 => ?_)
        obtain ⟨e'', hk, hq⟩ := keepK_spec h3
        exact ⟨trivial, fun t htn => h2 t (fun o ho hdst => htn (List.mem_filterMap.2 ⟨o, ho, hdst⟩)), e'', h1.keep (fun t v hf => (hk t v hf).2), hq⟩
      · cases ht
    · split at ht
      · rename_i hcond
        simp only [Bool.and_eq_true] at hcond
        obtain ⟨⟨hm, hsel⟩, hcl⟩ := hcond
        split at ht
        · rename_i d' hd'
          cases ht
          have hden := hd w.drew rfl
          have hany := (denD_sound (d0 := d0) hsel (clOk_spec hcl) _ true ops.size _ [] [] d' e a w.drew hd' ha hden (fun j o ho hj => by simp [Array.getElem?_replicate] at hj; split at hj <;> simp at hj) ⟨fun p hp => (nomatch hp)⟩).1 rfl
          have hsame := anyR_same (l := asg (.region id ops true)) (a0 := a) (fun o ho d hdst => List.mem_filterMap.2 ⟨o, ho, hdst⟩) (fun _ _ => rfl) hany
          refine wpIn_region_any hm (anyR_any (d0 := d0) (Q' := Aft n d0 (asg (.region id ops true)) a Q) (fun ch a' w' hdf hz => ⟨hdf, hz⟩) (fun a' w' ⟨h1, e', h2, h3⟩ => ?_) ha.defers hsame)
          obtain ⟨e'', hk, hq⟩ := keepK_spec h3
          exact ⟨trivial, h1, e'', h2.keep (fun t v hf => (hk t v hf).2), hq⟩
        · cases ht
      · cases ht
    · cases ht
  | seq c1 c2 ih1 ih2 =>
    intro h s e a w Q ht ha hd
    cases h <;> first | (unfold trS at ht; cases ht; done) | skip
    case seq s1 s2 =>
      unfold trS at ht
      split at ht
      · rename_i x y h1 h2
        cases ht
        refine wpIn_seq (wpIn_mono (ih1 h1 ha hd) fun ex a' w' hA => ?_)
        cases ex
        case normal =>
          obtain ⟨htm, hs, e', ok', hq⟩ := hA
          exact wpIn_mono (ih2 h2 ok' hq) fun ex2 a2 w2 hB => hB.widen fun t htn => ⟨fun h => htn (List.mem_append_right _ h), hs t (fun h => htn (List.mem_append_left _ h))⟩
        case panic ch => exact hA
        all_goals
          obtain ⟨htm, hs, e', ok', hq⟩ := hA
          exact ⟨htm, fun t htn => hs t (fun h => htn (List.mem_append_left _ h)), e', ok', hq⟩
      · cases ht
    case join sl ks s1 s2 =>
      unfold trS at ht
      split at ht
      · rename_i x y h1 h2 hks
        cases ht
        obtain ⟨J, hd1, hd2⟩ := hd
        refine wpIn_seq (wpIn_mono (ih1 h1 ha hd1) fun ex a' w' hA => ?_)
        cases ex
        case normal =>
          obtain ⟨htm, hs, e', ok', hq⟩ := hA
          obtain ⟨vs, ⟨hlen, hvs⟩, happ⟩ := valsK_spec hq
          obtain ⟨es, he1, he2, hF⟩ := allSl_spec J vs w' (hd2 w') happ
          obtain ⟨ek, hk, hden⟩ := keepK_spec (hF happ)
          have ok2 : Ok n d0 a' (es ++ ek) := ⟨ok'.size, ok'.defers, fun t v hf => by
            rw [find_append] at hf
            cases hes : find es t with
            | some u =>
              rw [hes] at hf; cases hf
              exact ok'.at' t _ (find_zip he1 he2 hvs t _ hes)
            | none =>
              rw [hes] at hf
              exact keep_ok ha hk hks hs t v hf⟩
          exact wpIn_mono (ih2 h2 ok2 hden) fun ex2 a2 w2 hB => hB.widen fun t htn => ⟨fun h => htn (List.mem_append_right _ h), hs t (fun h => htn (List.mem_append_left _ h))⟩
        case panic ch => exact hA
        all_goals
          obtain ⟨htm, hs, e', ok', hq⟩ := hA
          exact ⟨htm, fun t htn => hs t (fun h => htn (List.mem_append_left _ h)), e', ok', hq⟩
      · cases ht
  | cond x c1 c2 ih1 ih2 =>
    intro h s e a w Q ht ha hd
    cases h <;> first | (unfold trS at ht; cases ht; done) | skip
    unfold trS at ht
    split at ht
    · rename_i s1 s2 h1 h2
      cases ht
      obtain ⟨v, hv, hd⟩ := rdK_spec hd
      cases v <;> first | exact (show False from hd).elim | skip
      rename_i t
      refine wpIn_cond (t := t) (ha.eval _ _ hv) ?_
      cases t
      · exact wpIn_mono (ih2 h2 ha hd) fun ex a' w' hA => hA.widen fun t htn => ⟨fun h => htn (List.mem_append_right _ h), rfl⟩
      · exact wpIn_mono (ih1 h1 ha hd) fun ex a' w' hA => hA.widen fun t htn => ⟨fun h => htn (List.mem_append_left _ h), rfl⟩
    · cases ht
  | block id c1 ih =>
    intro h s e a w Q ht ha hd
    cases h <;> first | (unfold trS at ht; cases ht; done) | skip
    unfold trS at ht
    split at ht
    · rename_i s1 h1
      cases ht
      refine wpIn_block (wpIn_mono (ih h1 ha hd) fun ex a' w' hA => ?_)
      cases ex
      case exit id' =>
        obtain ⟨htm, hs, e', ok', hq⟩ := hA
        simp only [Exit.inBlock]
        simp only [inBlockE] at hq
        cases hb : Nat.beq id' id
        · rw [hb] at hq
          have hne : id' ≠ id := fun e => by subst e; simp at hb
          rw [if_neg hne]
          exact ⟨trivial, hs, e', ok', hq⟩
        · rw [hb] at hq
          rw [if_pos (Nat.eq_of_beq_eq_true hb)]
          exact ⟨trivial, hs, e', ok', hq⟩
      all_goals exact hA
    · cases ht
  | loop c1 ih =>
    intro h s e a w Q ht ha hd
    cases h <;> first | (unfold trS at ht; cases ht; done) | skip
    rename_i sl ks s0
    unfold trS at ht
    split at ht
    · rename_i s1 h1 hks
      cases ht
      obtain ⟨I, ⟨m, hm⟩, hround⟩ := hd
      let I' : Nat → Act → World → Prop := fun m a' w' => a'.tmps.size = n ∧ a'.defers = d0 ∧ (∀ t, t ∉ asg c1 → a'.tmps[t]? = a.tmps[t]?) ∧ ∃ e', Ok n d0 a' e' ∧ valsK e' sl fun vs => app (tys sl) (I m) vs w'
      refine wpIn_loop_nat I' m ⟨ha.size, ha.defers, fun _ _ => rfl, e, ha, hm⟩ fun m a' w' hI => ?_
      obtain ⟨hsz, hdf, hs, e', ok', hv⟩ := hI
      obtain ⟨vs, ⟨hlen, hvs⟩, happ⟩ := valsK_spec hv
      obtain ⟨es, he1, he2, hF⟩ := allSl_spec (I m) vs w' (hround m w') happ
      obtain ⟨ek, hk, hden⟩ := keepK_spec (hF happ)
      have ok2 : Ok n d0 a' (es ++ ek) := ⟨hsz, hdf, fun t v hf => by
        rw [find_append] at hf
        cases hes : find es t with
        | some u =>
          rw [hes] at hf; cases hf
          exact ok'.at' t _ (find_zip he1 he2 hvs t _ hes)
        | none =>
          rw [hes] at hf
          exact keep_ok ha hk hks hs t v hf⟩
      refine wpIn_mono (ih h1 ok2 hden) fun ex a2 w2 hA => ?_
      cases ex
      case normal =>
        obtain ⟨htm, hs2, e2, ok3, hq⟩ := hA
        obtain ⟨m', hlt, hv'⟩ := hq
        exact ⟨m', hlt, ok3.size, ok3.defers, fun t htn => by rw [hs2 t htn, hs t htn], e2, ok3, hv'⟩
      case panic ch => exact hA
      all_goals
        obtain ⟨htm, hs2, e2, ok3, hq⟩ := hA
        exact ⟨htm, fun t htn => by rw [hs2 t htn, hs t htn], e2, ok3, hq⟩
    · cases ht
  | scope c1 ih =>
    intro h s e a w Q ht ha hd
    cases h <;> first | (unfold trS at ht; cases ht; done) | skip
    unfold trS at ht
    split at ht
    · rename_i s1 h1
      cases ht
      refine wpIn_scope_straight (wpIn_mono (ih h1 ha hd) fun ex a' w' hA => ?_)
      cases ex
      case goto l => exact hA.1.elim
      all_goals exact hA
    · cases ht
  | _ =>
    intro h s e a w Q ht ha hd
    unfold trS at ht
    cases ht
end

def trRes (P : Program) : ResultVar → Option Res
  | .tmp t => some (.t t)
  | .cell t T => if aggT P T then (if (P.info? T).isSome then some (.cN t (P.cellsOf T)) else none) else if (P.underlying T).isSome then some (.c1 t (tyOf P T)) else none
def trRess (P : Program) : List ResultVar → Option (List Res)
  | [] => some []
  | r :: l =>
    match trRes P r, trRess P l with
    | some x, some xs => some (x :: xs)
    | _, _ => none
def resF (tmps : Array Value) : ResultVar → Sem Value
  | .tmp t => pure (tmps.getD t undef)
  | .cell b t => do loadVar t (← asAddr (tmps.getD b undef))
theorem run_mapM_cons {P : Program} {α : Type} {f : α → Sem Value} {x : α} {l : List α} {v : Value} {vs : List Value} {w : World} (h1 : (f x).run P w = .ok v w) (h2 : Sem.run P (l.mapM f) w = .ok vs w) : Sem.run P ((x :: l).mapM f) w = .ok (v :: vs) w := by
  rw [List.mapM_cons]
  simp [h1, h2, Result.andThen]
theorem getD_of {a : Array Value} {t : Nat} {v : Value} (h : a[t]? = some v) : a.getD t undef = v := by simp [h]
theorem resK_run {P : Program} {n : Nat} {d0 : List Deferred} {a : Act} {e : Env} {w : World} (ha : Ok n d0 a e) : ∀ {l : List ResultVar} {rs : List Res} {K : List Value → Prop}, trRess P l = some rs → resK e w rs K →
    ∃ vs, K vs ∧ Sem.run P (l.mapM (resF a.tmps)) w = .ok vs w
  | [], rs, K, ht, h => by cases ht; exact ⟨[], h, by simp⟩
  | r :: l, rs, K, ht, h => by
    unfold trRess at ht
    split at ht
    · rename_i x xs h1 h2
      cases ht
      cases r with
      | tmp t =>
        cases h1
        simp only [resK] at h
        split at h
        · rename_i v hv
          obtain ⟨vs, k1, k2⟩ := resK_run ha h2 h
          refine ⟨v :: vs, k1, run_mapM_cons ?_ k2⟩
          show Sem.run P (pure (a.tmps.getD t undef)) w = _
          rw [getD_of (ha.at' _ _ hv)]
          rfl
        · exact h.elim
      | cell b T =>
        simp only [trRes] at h1
        split at h1
        · rename_i hagg
          split at h1
          · rename_i hi
            cases h1
            simp only [resK] at h
            split at h
            · rename_i ad hv
              obtain ⟨cs, c1, c2, h⟩ := h
              obtain ⟨vs, k1, k2⟩ := resK_run ha h2 h
              refine ⟨.agg cs.toArray :: vs, k1, run_mapM_cons ?_ k2⟩
              have hu : ∃ d, P.underlying T = some d := by
                unfold aggT at hagg
                split at hagg <;> first | exact ⟨_, by assumption⟩ | cases hagg
              obtain ⟨d, hu⟩ := hu
              have hl := run_loadCells_cells (P := P) c2
              show Sem.run P (do loadVar T (← asAddr (a.tmps.getD b undef))) w = _
              rw [getD_of (ha.at' _ _ hv)]
              simp [asAddr, loadVar, run_isAgg_any hu, hagg, run_sizeOf_some hi, ← c1, hl, Result.andThen]
            · exact h.elim
          · cases h1
        · rename_i hagg
          split at h1
          · rename_i hu
            cases h1
            obtain ⟨d, hu⟩ := Option.isSome_iff_exists.1 hu
            simp only [resK] at h
            split at h
            · rename_i ad hv
              obtain ⟨u, hc, h⟩ := exTy_spec h
              obtain ⟨vs, k1, k2⟩ := resK_run ha h2 h
              refine ⟨u :: vs, k1, run_mapM_cons ?_ k2⟩
              show Sem.run P (do loadVar T (← asAddr (a.tmps.getD b undef))) w = _
              rw [getD_of (ha.at' _ _ hv)]
              simp [asAddr, loadVar, run_isAgg_any hu, hagg, load, Sem.run, hc, Result.andThen]
            · exact h.elim
          · cases h1
    · cases ht
theorem results_eq (fn : Func) (tmps : Array Value) : results fn tmps = (do let vs ← fn.results.mapM (resF tmps); pure (if h : vs.size = 1 then vs[0] else .tuple vs)) := by
  unfold results
  rfl
theorem run_results {P : Program} {fn : Func} {n : Nat} {d0 : List Deferred} {a : Act} {e : Env} {w : World} {rs : List Res} {K : Value → Prop} (hr : trRess P fn.results.toList = some rs) (ha : Ok n d0 a e)
    (h : resK e w rs fun vs => K (endV vs)) : ∃ v, (results fn a.tmps).run P w = .ok v w ∧ K v := by
  obtain ⟨vs, h1, h2⟩ := resK_run ha hr h
  refine ⟨_, ?_, h1⟩
  rw [results_eq, Array.mapM_eq_mapM_toList]
  simp [h2, Result.andThen]
  match vs with
  | [] => rfl
  | [v] => rfl
  | u :: v :: r => rfl
theorem find_args : ∀ {l : List Value} {k t : Nat} {v : Value}, find (argsEnv k l) t = some v → k ≤ t ∧ l[t - k]? = some v
  | [], _, _, _, h => by cases h
  | u :: r, k, t, v, h => by
    simp only [argsEnv] at h
    rw [find_cons] at h
    split at h
    · rename_i hk; subst hk; cases h; simp
    · rename_i hk
      obtain ⟨h1, h2⟩ := find_args h
      refine ⟨by omega, ?_⟩
      rw [show t - k = (t - (k + 1)) + 1 by omega, List.getElem?_cons_succ]
      exact h2
/-- A CALL, out of its code's denotation. -/
theorem calls_of_den {P : Program} {pn : List Nat} {f : FuncId} {fn : Func} {c : Code} {h s : S} {rs : List Res} {args : List Value} {w : World} {R : Ending → World → Prop} (hf : P.funcs[f]? = some fn) (hb : fn.body = some c) (hn : args.length ≤ fn.ntmps)
    (ht : trS P pn fn.ntmps c h = some s) (hr : trRess P fn.results.toList = some rs) (hd : denS P s (argsEnv 0 args) w (endK rs R)) : Calls P f args.toArray w R := by
  refine calls_of_wp hf hb ?_
  have ha : Ok fn.ntmps [] { tmps := args.toArray ++ Array.replicate (fn.ntmps - args.toArray.size) undef, defers := [] } (argsEnv 0 args) := by
    refine ⟨by simp; omega, rfl, fun t v hf => ?_⟩
    obtain ⟨_, h2⟩ := find_args hf
    have hlt : t < args.length := (List.getElem?_eq_some_iff.1 h2).1
    simp only [Nat.sub_zero] at h2
    obtain ⟨_, h3⟩ := List.getElem?_eq_some_iff.1 h2
    simp [Array.getElem?_append, hlt, h3]
  refine (wpIn_wide (n := 0)).1 (wpIn_mono (denS_sound (r0 := none) (m := 0) ht ha hd) fun ex a' w' hA => ?_)
  cases ex with
  | normal =>
    obtain ⟨htm, hs, e', ok', hq⟩ := hA
    obtain ⟨v, h1, h2⟩ := run_results (K := fun v => R (.returned v) w') hr ok' hq
    exact ⟨ok'.defers, v, h1, h2⟩
  | ret =>
    obtain ⟨htm, hs, e', ok', hq⟩ := hA
    obtain ⟨v, h1, h2⟩ := run_results (K := fun v => R (.returned v) w') hr ok' hq
    exact ⟨ok'.defers, v, h1, h2⟩
  | panic ch => exact hA
  | _ =>
    obtain ⟨htm, hs, e', ok', hq⟩ := hA
    exact hq.elim
end Go.Proofs.YtjkbjppopdfggaaDoor.Den
