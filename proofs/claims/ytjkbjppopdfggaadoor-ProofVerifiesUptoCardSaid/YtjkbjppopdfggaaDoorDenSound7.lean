/-
  REGIONS THAT DRAW THEIR ORDER: 'trD', 'denD_sound'.
  Own work. No macro, syntax, notation, axiom.
-/
import Derived.Test.YtjkbjppopdfggaaDoorDenSound6
namespace Go.Proofs.YtjkbjppopdfggaaDoor.Den
open Go

def heads : D → List Nat
  | .go i _ _ _ => [i]
  | .alt a b => heads a ++ heads b
  | _ => []
def looksFree (ops : Array Oper) (i : Nat) (d : Option Nat) : Bool :=
  match ops[i]?, d with
  | some o, some d => !(o.looksAt ops).contains d && !(o.dst == some d)
  | some _, none => true
  | none, _ => false
def selfFree (ops : Array Oper) (o : Oper) : Bool :=
  match o.dst with
  | some d => !(o.looksAt ops).contains d
  | none => true
def pendOk (ops : Array Oper) (pend : List (Nat × X)) (o : Oper) : Bool := pend.all fun p => looksFree ops p.1 o.dst
def trD (P : Program) (pn : List Nat) (n : Nat) (ops : Array Oper) (cl : Nat → List Nat) : D → Bool → Nat → Array Bool → List (Nat × X) → Option D
  | .done, root, _, listed, _ => if root && (Region.ready .any ops listed).isEmpty then some .done else none
  | .take i _ r, root, f + 1, listed, pend =>
    match ops[i]? with
    | some o =>
      match trX P pn n ops o with
      | some x =>
        if root && (Region.ready .any ops listed).contains i && Region.free .any ops listed i && (pureI x.i || readI x.i) && selfFree ops o && pendOk ops pend o && x.dst.isSome then
          match trD P pn n ops cl r true f (listed.setIfInBounds i true) (bif readI x.i then (i, x) :: pend else pend) with
          | some r' => some (.take i x r')
          | none => none
        else none
      | none => none
    | none => none
  | .go i _ _ r, root, f + 1, listed, pend =>
    match ops[i]? with
    | some o =>
      match trX P pn n ops o with
      | some x =>
        if (!root || (Region.ready .any ops listed).all fun j => j == i) && (Region.ready .any ops listed).contains i && pendOk ops pend o then
          match trD P pn n ops cl r true f (listed.setIfInBounds i true) (pend.filter fun p => !(cl i).contains p.1) with
          | some r' => some (.go i x (pend.filter fun p => !(cl i).contains p.1) r')
          | none => none
        else none
      | none => none
    | none => none
  | .alt a b, root, f, listed, pend =>
    if !root || (Region.ready .any ops listed).all fun j => (heads (.alt a b)).contains j then
      match trD P pn n ops cl a false f listed pend, trD P pn n ops cl b false f listed pend with
      | some a', some b' => some (.alt a' b')
      | _, _ => none
    else none
  | _, _, _, _, _ => none

theorem denX_sound' {P : Program} {Z : Pan} {pn : List Nat} {n : Nat} {d0 : List Deferred} {ops : Array Oper} {o : Oper} {x : X} {e : Env} {a : Act} {w : World} {K : Env → World → Prop} (ht : trX P pn n ops o = some x) (ha : Ok n d0 a e) (hd : denX P Z x e w K) :
    opR P Z ops o (fun a' w' => ∃ e', Ok n d0 a' e' ∧ (∀ d, o.dst ≠ some d → find e' d = find e d) ∧ K e' w') a w := by
  obtain ⟨h1, _, _, _⟩ := trX_dst ht
  refine opR_mono (denX_sound (K := fun e' w' => (∀ d, o.dst ≠ some d → find e' d = find e d) ∧ K e' w') ht ha ?_) fun v w' h => h
  unfold denX at hd ⊢
  have key : ∀ (v : Value) (e' : Env), (∀ d, find e' d = find e d) → ∀ d, o.dst ≠ some d → find (put x.dst v e') d = find e d := by
    intro v e' he d hne
    rw [h1]
    cases hdst : o.dst with
    | none => exact he d
    | some k =>
      simp only [Den.put]
      rw [find_cons, if_neg (fun e => hne (by rw [hdst, e]))]
      exact he d
  have mono : ∀ {e' : Env} {F G : Value → World → Prop}, (∀ v w, F v w → G v w) → denI P Z x.i x.ty e' w F → denI P Z x.i x.ty e' w G := by
    intro e' F G hFG h
    exact denI_mono h hFG
  split at hd
  · exact mono (fun v w' hK => ⟨key v e (fun _ => rfl), hK⟩) hd
  · rename_i g b hg
    cases hf : find e g with
    | none => rw [hf] at hd; exact hd.elim
    | some u =>
      rw [hf] at hd
      simp only at hd ⊢
      cases hgv : gv u with
      | none =>
        rw [hgv] at hd
        exact ⟨key undef e (fun _ => rfl), hd⟩
      | some t =>
      rw [hgv] at hd
      obtain rfl := gv_some hgv
      simp only at hd ⊢
      have hsame : ∀ d, find ((g, Value.bool t) :: e) d = find e d := by
        intro d
        rw [find_cons]
        split
        · rename_i hgd; rw [← hgd, hf]
        · rfl
      have brm : ∀ c : Bool, c = t → (bif (c == b) then denI P Z x.i x.ty ((g, .bool c) :: e) w (fun v w' => K (put x.dst v ((g, .bool c) :: e)) w') else K (put x.dst undef ((g, .bool c) :: e)) w) →
          bif (c == b) then denI P Z x.i x.ty ((g, .bool c) :: e) w (fun v w' => (∀ d, o.dst ≠ some d → find (put x.dst v ((g, .bool c) :: e)) d = find e d) ∧ K (put x.dst v ((g, .bool c) :: e)) w')
            else (∀ d, o.dst ≠ some d → find (put x.dst undef ((g, .bool c) :: e)) d = find e d) ∧ K (put x.dst undef ((g, .bool c) :: e)) w := by
        intro c hct h
        subst hct
        cases hcb : (c == b)
        · rw [hcb] at h; exact ⟨key undef _ hsame, h⟩
        · rw [hcb] at h; exact mono (G := fun v w' => (∀ d, o.dst ≠ some d → find (put x.dst v ((g, .bool c) :: e)) d = find e d) ∧ K (put x.dst v ((g, .bool c) :: e)) w') (fun v w' hK => ⟨key v _ hsame, hK⟩) h
      cases t
      · exact brm false rfl hd
      · exact brm true rfl hd

/-- What is known of the reads that were taken ahead. -/
structure Pend (P : Program) (pn : List Nat) (n : Nat) (ops : Array Oper) (pend : List (Nat × X)) (pv : List (Nat × Value)) (e : Env) (a : Act) (w : World) : Prop where
  of : ∀ p ∈ pv, ∃ x o d, (p.1, x) ∈ pend ∧ ops[p.1]? = some o ∧ trX P pn n ops o = some x ∧ x.dst = some d ∧ find e d = some p.2 ∧ Y P ops o p.2 a w
theorem pendOk_spec {ops : Array Oper} {pend : List (Nat × X)} {o : Oper} (h : pendOk ops pend o = true) {p : Nat × X} (hp : p ∈ pend) {op : Oper} (hop : ops[p.1]? = some op) :
    (∀ d, o.dst = some d → d ∉ op.looksAt ops) ∧ (∀ d, o.dst = some d → op.dst ≠ some d) := by
  unfold pendOk at h
  rw [List.all_eq_true] at h
  have := h p hp
  unfold looksFree at this
  rw [hop] at this
  cases hd : o.dst with
  | none => exact ⟨fun _ h => (nomatch h), fun _ h => (nomatch h)⟩
  | some d =>
    rw [hd] at this
    simp only [Bool.and_eq_true, Bool.not_eq_true'] at this
    refine ⟨fun k hk => by cases hk; simpa using this.1, fun k hk => by cases hk; simpa using this.2⟩
theorem stills_spec {P : Program} {e : Env} {w : World} {K : Prop} : ∀ {l : List (Nat × X)}, stills P e w l K → (∀ p ∈ l, stillX P p.2 e w) ∧ K
  | [], h => ⟨fun _ h => (nomatch h), h⟩
  | (i, x) :: r, h => by
    obtain ⟨h1, h2⟩ := h
    obtain ⟨h3, h4⟩ := stills_spec h2
    exact ⟨fun p hp => by rcases List.mem_cons.1 hp with rfl | hp; exact h1; exact h3 p hp, h4⟩
theorem stillX_Y {P : Program} {pn : List Nat} {n : Nat} {d0 : List Deferred} {ops : Array Oper} {o : Oper} {x : X} {e : Env} {a a0 : Act} {w w0 : World} {v : Value} {d : Nat} (ht : trX P pn n ops o = some x) (ha : Ok n d0 a e) (hd : x.dst = some d) (hf : find e d = some v)
    (hs : stillX P x e w) (hw : Region.wanted o (yielded ops a.tmps) = Region.wanted o (yielded ops a0.tmps)) (hy : Y P ops o v a0 w0) : Y P ops o v a w := by
  obtain ⟨_, _, h3, h4⟩ := trX_dst ht
  unfold stillX at hs
  simp only [hd, hf] at hs
  have body : (denI P noPan x.i x.ty e w fun u w' => u = v ∧ w' = w) → Region.wanted o (yielded ops a.tmps) = true → Y P ops o v a w := fun h hw => .inl ⟨hw, denI_sound h3 ha.eval h⟩
  rcases h4 with ⟨hg, hxg⟩ | ⟨j, g, b, hg, hgd, hxg⟩
  · rw [hxg] at hs
    exact body hs (wanted_none hg)
  · rw [hxg] at hs
    simp only at hs
    cases hfg : find e g with
    | none => rw [hfg] at hs; exact hs.elim
    | some u =>
      rw [hfg] at hs
      simp only at hs
      cases hgv : gv u with
      | none =>
        refine .inr ⟨wanted_undef hg hgd (ha.at' _ _ hfg) hgv, ?_⟩
        rcases hy with ⟨h, _⟩ | ⟨_, h⟩
        · rw [← hw, wanted_undef hg hgd (ha.at' _ _ hfg) hgv] at h; cases h
        · exact h
      | some t =>
      rw [hgv] at hs
      obtain rfl := gv_some hgv
      have hwt := wanted_some hg hgd (ha.at' _ _ hfg)
      cases htb : (t == b)
      · rw [htb] at hwt
        refine .inr ⟨hwt, ?_⟩
        rcases hy with ⟨h, _⟩ | ⟨_, h⟩
        · rw [← hw, hwt] at h; cases h
        · exact h
      · rw [htb] at hwt
        simp only [htb, cond_true] at hs
        exact body hs hwt

section
variable {P : Program} {Z : Pan} {pn : List Nat} {n : Nat} {d0 : List Deferred} {ops : Array Oper} {cl : Nat → List Nat}
theorem denD_sound (hsel : Region.noSelect ops = true) (hc : ClOk ops cl) {K : Env → World → Prop} : ∀ (d : D) (root : Bool) (f : Nat) (listed : Array Bool) (pend : List (Nat × X)) (pv : List (Nat × Value)) (d' : D) (e : Env) (a : Act) (w : World),
    trD P pn n ops cl d root f listed pend = some d' → Ok n d0 a e → denD P Z d' e w K → Closed ops listed → Pend P pn n ops pend pv e a w →
    (root = true → anyR P Z ops cl (fun a' w' => ∃ e', Ok n d0 a' e' ∧ K e' w') f listed pv a w) ∧
    (∀ f', f = f' + 1 → ∀ j ∈ heads d, ∀ o, ops[j]? = some o → opR P Z ops o (fun a' w' =>
      (∀ p ∈ pv, p.1 ∉ cl j → ∀ op, ops[p.1]? = some op → Y P ops op p.2 a' w') ∧
      anyR P Z ops cl (fun a' w' => ∃ e', Ok n d0 a' e' ∧ K e' w') f' (listed.setIfInBounds j true) (pv.filter fun p => !(cl j).contains p.1) a' w') a w) := by
  intro d
  induction d with
  | done =>
    intro root f listed pend pv d' e a w ht ha hd hl hp
    unfold trD at ht
    split at ht
    · rename_i hr
      simp only [Bool.and_eq_true, List.isEmpty_iff] at hr
      cases ht
      refine ⟨fun _ => ?_, fun _ _ j hj => (nomatch hj)⟩
      cases f with
      | zero => exact ⟨hr.2, e, ha, hd⟩
      | succ f => exact ⟨fun _ => ⟨e, ha, hd⟩, fun j hj => by rw [hr.2] at hj; cases hj⟩
    · cases ht
  | take i x0 r ih =>
    intro root f listed pend pv d' e a w ht ha hd hl hp
    refine ⟨fun _ => ?_, fun _ _ j hj => (nomatch hj)⟩
    cases f with
    | zero => cases ht
    | succ f =>
      unfold trD at ht
      cases ho : ops[i]? with
      | none => rw [ho] at ht; cases ht
      | some o =>
        rw [ho] at ht
        simp only at ht
        cases hx : trX P pn n ops o with
        | none => rw [hx] at ht; cases ht
        | some x =>
          rw [hx] at ht
          simp only at ht
          split at ht
          · rename_i hcond
            simp only [Bool.and_eq_true] at hcond
            obtain ⟨⟨⟨⟨⟨⟨_, hr⟩, hfr⟩, hk⟩, hself⟩, hpo⟩, hdst⟩ := hcond
            cases hr' : trD P pn n ops cl r true f (listed.setIfInBounds i true) (bif readI x.i then (i, x) :: pend else pend) with
            | none => rw [hr'] at ht; cases ht
            | some r' =>
              rw [hr'] at ht
              cases ht
              have hir : i ∈ Region.ready .any ops listed := by simpa using hr
              obtain ⟨hxd, hdn, h3, h4⟩ := trX_dst hx
              obtain ⟨dd, hdd⟩ := Option.isSome_iff_exists.1 hdst
              have hod : o.dst = some dd := by rw [← hxd]; exact hdd
              have hselfd : ∀ d, o.dst = some d → d ∉ o.looksAt ops := by
                intro d hd'
                unfold selfFree at hself
                rw [hd'] at hself
                simpa using hself
              -- the value
              have hv : ∃ v e', Ok n d0 (a.put o.dst v) e' ∧ (∀ d, o.dst ≠ some d → find e' d = find e d) ∧ find e' dd = some v ∧ denD P Z r' e' w K ∧ Y P ops o v a w ∧ (readI x.i = false → ∀ w2, Y P ops o v a w2) := by
                unfold denD at hd
                unfold denX at hd
                rcases h4 with ⟨hg, hxg⟩ | ⟨j, g, b, hg, hgd, hxg⟩
                · rw [hxg] at hd
                  obtain ⟨v, k1, k2, k3⟩ := denI_take hk hd
                  refine ⟨v, put x.dst v e, by rw [← hxd]; exact ha.put (by rw [hxd]; exact hdn) v, ?_, ?_, k1, .inl ⟨wanted_none hg, denI_sound h3 ha.eval k2⟩, fun hrd w2 => .inl ⟨wanted_none hg, denI_sound h3 ha.eval (k3 hrd noPan w2 _ ⟨rfl, rfl⟩)⟩⟩
                  · intro d hne
                    rw [hdd]
                    simp only [Den.put]
                    rw [find_cons, if_neg (fun e => hne (by rw [hod, e]))]
                  · rw [hdd]; simp only [Den.put]; rw [find_cons, if_pos rfl]
                · rw [hxg] at hd
                  simp only at hd
                  cases hfg : find e g with
                  | none => rw [hfg] at hd; exact hd.elim
                  | some u =>
                    rw [hfg] at hd
                    simp only at hd
                    cases hgv : gv u with
                    | none =>
                      rw [hgv] at hd
                      have hwt := wanted_undef hg hgd (ha.at' _ _ hfg) hgv
                      refine ⟨undef, put x.dst undef e, by rw [← hxd]; exact ha.put (by rw [hxd]; exact hdn) _, ?_, ?_, hd, .inr ⟨hwt, rfl⟩, fun _ _ => .inr ⟨hwt, rfl⟩⟩
                      · intro d hne
                        rw [hdd]
                        simp only [Den.put]
                        rw [find_cons, if_neg (fun e => hne (by rw [hod, e]))]
                      · rw [hdd]; simp only [Den.put]; rw [find_cons, if_pos rfl]
                    | some t =>
                    rw [hgv] at hd
                    obtain rfl := gv_some hgv
                    have hsame : ∀ d, find ((g, Value.bool t) :: e) d = find e d := by
                      intro d
                      rw [find_cons]
                      split
                      · rename_i hgd'; rw [← hgd', hfg]
                      · rfl
                    have hwt := wanted_some hg hgd (ha.at' _ _ hfg)
                    have hbr : bif (t == b) then denI P Z x.i x.ty ((g, .bool t) :: e) w (fun v w' => denD P Z r' (put x.dst v ((g, .bool t) :: e)) w' K) else denD P Z r' (put x.dst undef ((g, .bool t) :: e)) w K := by
                      cases t <;> exact hd
                    cases htb : (t == b)
                    · rw [htb] at hbr hwt
                      refine ⟨undef, put x.dst undef ((g, .bool t) :: e), by rw [← hxd]; exact (ha.bool hfg).put (by rw [hxd]; exact hdn) _, ?_, ?_, hbr, .inr ⟨hwt, rfl⟩, fun _ _ => .inr ⟨hwt, rfl⟩⟩
                      · intro d hne
                        rw [hdd]
                        simp only [Den.put]
                        rw [find_cons, if_neg (fun e => hne (by rw [hod, e])), hsame]
                      · rw [hdd]; simp only [Den.put]; rw [find_cons, if_pos rfl]
                    · rw [htb] at hbr hwt
                      obtain ⟨v, k1, k2, k3⟩ := denI_take hk (show denI P Z x.i x.ty ((g, .bool t) :: e) w (fun v w' => denD P Z r' (put x.dst v ((g, .bool t) :: e)) w' K) from hbr)
                      refine ⟨v, put x.dst v ((g, .bool t) :: e), by rw [← hxd]; exact (ha.bool hfg).put (by rw [hxd]; exact hdn) _, ?_, ?_, k1, .inl ⟨hwt, denI_sound h3 (ha.bool hfg).eval k2⟩, fun hrd w2 => .inl ⟨hwt, denI_sound h3 (ha.bool hfg).eval (k3 hrd noPan w2 _ ⟨rfl, rfl⟩)⟩⟩
                      · intro d hne
                        rw [hdd]
                        simp only [Den.put]
                        rw [find_cons, if_neg (fun e => hne (by rw [hod, e])), hsame]
                      · rw [hdd]; simp only [Den.put]; rw [find_cons, if_pos rfl]
              obtain ⟨v, e', ok', same', fdd, hden, hy, hfree⟩ := hv
              have hpd : ∀ p ∈ pv, ∀ op, ops[p.1]? = some op → ∀ d, o.dst = some d → d ∉ op.looksAt ops := by
                intro p hpm op hop
                obtain ⟨x', o', d', h1, h2, _⟩ := hp.of p hpm
                rw [hop] at h2; cases h2
                exact (pendOk_spec hpo h1 hop).1
              have hpy : ∀ p ∈ pv, ∀ op, ops[p.1]? = some op → Y P ops op p.2 a w := by
                intro p hpm op hop
                obtain ⟨x', o', d', _, h2, _, _, _, h6⟩ := hp.of p hpm
                rw [hop] at h2; cases h2
                exact h6
              have hl' := closed_set hl hir
              have hold : ∀ p ∈ pv, ∃ x' o' d', (p.1, x') ∈ pend ∧ ops[p.1]? = some o' ∧ trX P pn n ops o' = some x' ∧ x'.dst = some d' ∧ find e' d' = some p.2 ∧ Y P ops o' p.2 (a.put o.dst v) w := by
                intro p hpm
                obtain ⟨x', o', d', h1, h2, h3', h4', h5, h6⟩ := hp.of p hpm
                have hpo' := pendOk_spec hpo h1 h2
                refine ⟨x', o', d', h1, h2, h3', h4', ?_, (Y.put (fun cs b => Region.noSelect_spec hsel _ _ cs b h2) hpo'.1).2 h6⟩
                rw [same' d' ?_, h5]
                intro hod'
                obtain ⟨hxd', _⟩ := trX_dst h3'
                exact hpo'.2 d' hod' (by rw [← hxd', h4'])
              cases hrd : readI x.i
              · rw [hrd] at hr'
                simp only [cond_false] at hr'
                have := (ih true f _ pend pv r' e' (a.put o.dst v) w hr' ok' hden hl' ⟨hold⟩).1 rfl
                exact anyR_pure hsel hc ho hselfd f listed pv a w hl (Region.free_spec ho hfr) hir hpy hpd (hfree hrd) this
              · rw [hrd] at hr'
                simp only [cond_true] at hr'
                have hyi : Y P ops o v (a.put o.dst v) w := (Y.put (fun cs b => Region.noSelect_spec hsel _ _ cs b ho) hselfd).2 hy
                have := (ih true f _ ((i, x) :: pend) ((i, v) :: pv) r' e' (a.put o.dst v) w hr' ok' hden hl' ⟨fun p hpm => by
                  rcases List.mem_cons.1 hpm with rfl | hpm
                  · exact ⟨x, o, dd, by simp, ho, hx, hdd, fdd, hyi⟩
                  · obtain ⟨x', o', d', h1, h2⟩ := hold p hpm
                    exact ⟨x', o', d', List.mem_cons_of_mem _ h1, h2⟩⟩).1 rfl
                exact anyR_first hsel hc ho hselfd f listed pv a w hl (Region.free_spec ho hfr) hir hpy hpd hy this
          · cases ht
  | go i x0 chk r ih =>
    intro root f listed pend pv d' e a w ht ha hd hl hp
    have main : ∀ f', f = f' + 1 → (root = true → ∀ j ∈ Region.ready .any ops listed, j = i) ∧ ∀ o, ops[i]? = some o → opR P Z ops o (fun a' w' =>
      (∀ p ∈ pv, p.1 ∉ cl i → ∀ op, ops[p.1]? = some op → Y P ops op p.2 a' w') ∧
      anyR P Z ops cl (fun a' w' => ∃ e', Ok n d0 a' e' ∧ K e' w') f' (listed.setIfInBounds i true) (pv.filter fun p => !(cl i).contains p.1) a' w') a w := by
      intro f' hf
      subst hf
      unfold trD at ht
      cases ho : ops[i]? with
      | none => rw [ho] at ht; cases ht
      | some o =>
        rw [ho] at ht
        simp only at ht
        cases hx : trX P pn n ops o with
        | none => rw [hx] at ht; cases ht
        | some x =>
          rw [hx] at ht
          simp only at ht
          split at ht
          · rename_i hcond
            simp only [Bool.and_eq_true] at hcond
            obtain ⟨⟨hroot, hr⟩, hpo⟩ := hcond
            cases hr' : trD P pn n ops cl r true f' (listed.setIfInBounds i true) (pend.filter fun p => !(cl i).contains p.1) with
            | none => rw [hr'] at ht; cases ht
            | some r' =>
              rw [hr'] at ht
              cases ht
              have hir : i ∈ Region.ready .any ops listed := by simpa using hr
              refine ⟨fun hrt j hj => ?_, fun o' ho' => ?_⟩
              · rw [hrt] at hroot
                simp only [Bool.not_true, Bool.false_or, List.all_eq_true, beq_iff_eq] at hroot
                exact hroot j hj
              · cases ho'
                unfold denD at hd
                have hs := denX_sound' hx ha hd
                refine opR_mono hs fun v w' ⟨e', ok', same', hst⟩ => ?_
                obtain ⟨hst1, hst2⟩ := stills_spec hst
                have hold : ∀ p ∈ pv, p.1 ∉ cl i → ∃ x' o' d', (p.1, x') ∈ (pend.filter fun p => !(cl i).contains p.1) ∧ ops[p.1]? = some o' ∧ trX P pn n ops o' = some x' ∧ x'.dst = some d' ∧ find e' d' = some p.2 ∧ Y P ops o' p.2 (a.put o.dst v) w' := by
                  intro p hpm hpc
                  obtain ⟨x', o', d', h1, h2, h3', h4', h5, h6⟩ := hp.of p hpm
                  have hpo' := pendOk_spec hpo h1 h2
                  have hmem : (p.1, x') ∈ (pend.filter fun p => !(cl i).contains p.1) := by
                    rw [List.mem_filter]; exact ⟨h1, by simpa using hpc⟩
                  have hfd : find e' d' = some p.2 := by
                    rw [same' d' ?_, h5]
                    intro hod'
                    obtain ⟨hxd', _⟩ := trX_dst h3'
                    exact hpo'.2 d' hod' (by rw [← hxd', h4'])
                  exact ⟨x', o', d', hmem, h2, h3', h4', hfd, stillX_Y h3' ok' h4' hfd (hst1 _ hmem) (wanted_put o' a o.dst v hpo'.1) h6⟩
                refine ⟨fun p hpm hpc op hop => ?_, (ih true f' _ _ (pv.filter fun p => !(cl i).contains p.1) r' e' (a.put o.dst v) w' hr' ok' hst2 (closed_set hl hir) ⟨fun p hpm => ?_⟩).1 rfl⟩
                · obtain ⟨x', o', d', _, h2, _, _, _, h6⟩ := hold p hpm hpc
                  rw [hop] at h2; cases h2
                  exact h6
                · rw [List.mem_filter] at hpm
                  exact hold p hpm.1 (by simpa using hpm.2)
          · cases ht
    refine ⟨fun hroot => ?_, fun f' hf j hj o ho => ?_⟩
    · cases f with
      | zero => cases ht
      | succ f =>
        obtain ⟨m1, m2⟩ := main f rfl
        refine ⟨fun h0 => ?_, fun j hj o ho => ?_⟩
        · exfalso
          unfold trD at ht
          split at ht
          · split at ht
            · split at ht
              · rename_i hcond
                simp only [Bool.and_eq_true] at hcond
                have := hcond.1.2
                rw [h0] at this
                cases this
              · cases ht
            · cases ht
          · cases ht
        · have := m1 hroot j hj
          subst this
          exact m2 o ho
    · simp only [heads, List.mem_singleton] at hj
      subst hj
      exact (main f' hf).2 o ho
  | alt b1 b2 ih1 ih2 =>
    intro root f listed pend pv d' e a w ht ha hd hl hp
    unfold trD at ht
    split at ht
    · rename_i hcond
      split at ht
      · rename_i a' b' h1 h2
        cases ht
        obtain ⟨hd1, hd2⟩ := hd
        have key : ∀ f', f = f' + 1 → ∀ j ∈ heads (.alt b1 b2), ∀ o, ops[j]? = some o → opR P Z ops o (fun a' w' =>
          (∀ p ∈ pv, p.1 ∉ cl j → ∀ op, ops[p.1]? = some op → Y P ops op p.2 a' w') ∧
          anyR P Z ops cl (fun a' w' => ∃ e', Ok n d0 a' e' ∧ K e' w') f' (listed.setIfInBounds j true) (pv.filter fun p => !(cl j).contains p.1) a' w') a w := by
          intro f' hf j hj o ho
          simp only [heads, List.mem_append] at hj
          rcases hj with hj | hj
          · exact (ih1 false f listed pend pv a' e a w h1 ha hd1 hl hp).2 f' hf j hj o ho
          · exact (ih2 false f listed pend pv b' e a w h2 ha hd2 hl hp).2 f' hf j hj o ho
        refine ⟨fun hroot => ?_, key⟩
        rw [hroot] at hcond
        simp only [Bool.not_true, Bool.false_or, List.all_eq_true] at hcond
        have hne : f ≠ 0 ∧ Region.ready .any ops listed ≠ [] := by
          have gen : ∀ (b : D) (b' : D), trD P pn n ops cl b false f listed pend = some b' → f ≠ 0 ∧ Region.ready .any ops listed ≠ [] := by
            intro b
            induction b with
            | done => intro b' h; unfold trD at h; simp at h
            | take => intro b' h; unfold trD at h; cases f <;> simp at h <;> (split at h <;> try cases h) <;> (split at h <;> cases h)
            | go i _ _ _ =>
              intro b' h
              unfold trD at h
              cases f with
              | zero => cases h
              | succ f =>
                refine ⟨by simp, fun h0 => ?_⟩
                simp only at h
                split at h
                · split at h
                  · split at h
                    · rename_i hc'
                      simp only [Bool.and_eq_true] at hc'
                      have := hc'.1.2
                      rw [h0] at this
                      cases this
                    · cases h
                  · cases h
                · cases h
            | alt c1 c2 i1 _ =>
              intro b' h
              unfold trD at h
              split at h
              · split at h
                · rename_i h1 _; exact i1 _ h1
                · cases h
              · cases h
          exact gen b1 a' h1
        cases f with
        | zero => exact absurd rfl hne.1
        | succ f =>
          refine ⟨fun h0 => absurd h0 hne.2, fun j hj o ho => key f rfl j (by simpa using hcond j hj) o ho⟩
      · cases ht
    · cases ht
end
end Go.Proofs.YtjkbjppopdfggaaDoor.Den
