/-
  A FUNCTION THAT DEFERS A CALL OF A CLOSURE, AND THE CLOSURE THAT RECOVERS: what is asked of them, and that this is right.
  A CLOSURE THAT IS CALLED AS A DEFERRED CALL AND RECOVERS FIRST: what is asked of it, and that this is right.
  THE CODE of some functions of the given program, resolved, and proved to ask what the readable texts (d..) say; contracts c.. follow. Printed by a small program of mine.
  Decode OF A BATCH: contracts of the reader's parts, which give up by a panic, of the closure that recovers, and of Decode.
  Decode OF A BATCH: a transaction's reading, and the whole.
  A BATCH THAT GROWS.
  Own work. No macro, syntax, notation, axiom.
-/
import Derived.Test.YtjchneebdlncfaaDoorFormPk9
import Derived.RecoverIn
import Derived.Test.YtjchneebdlncfaaDoorProg
import Derived.Test.YtjchneebdlncfaaDoorFormPk7
import Derived.Test.YtjchneebdlncfaaDoorFormPk5
namespace Go.Proofs.YtjchneebdlncfaaDoor.Den
open Go Go.RowKit
/-! ### The function -/
/-- Its outermost sequence: what comes ahead; the operations ahead of 'defer'; the closure's slot; the slots of the results; those that live on; the rest. -/
structure Dn where
  pre : List S
  xs : List X
  g : Nat
  rk : List Nat
  ks : List Nat
  rest : S
/-- A frame's way out, by its mode. -/
def outK (rs : List Res) (R : Ending → World → Prop) (e : Env) : FrameMode → World → Prop
  | .returning, w => resK e w rs fun vs => R (.returned (endV vs)) w
  | .panicking ch, w => R (.panicked ch) w
  | .run, _ => False
def outD (P : Program) (gf : FuncId) (cap : Array Value) (u : FrameMode) (w : World) (K : FrameMode → World → Prop) : Prop :=
  CallsDIn (Fr none) 2 P gf cap u w fun
    | .returned _, u', w' => K (settle u') w'
    | .panicked ch, u', w' => K (raised u' ch) w'
    | .outgrown, _, _ => False
def endF (P : Program) (rs : List Res) (R : Ending → World → Prop) (gf : FuncId) (cap : Array Value) (er : Env) : Post
  | .normal, e, w => outD P gf cap .returning w (outK rs R e)
  | .ret, e, w => outD P gf cap .returning w (outK rs R e)
  | .panic ch, _, w => outD P gf cap (.panicking ch) w (outK rs R er)
  | _, _, _ => False
def denL (P : Program) (Q : Post) : List S → Env → World → (Env → World → Prop) → Prop
  | [], e, w, K => K e w
  | s :: r, e, w, K => denS P s e w (thenE (fun e' w' => denL P Q r e' w' K) Q)
def denDn (P : Program) (rs : List Res) (R : Ending → World → Prop) (d : Dn) (e : Env) (w : World) : Prop :=
  denL P (endK rs R) d.pre e w fun e1 w1 => denOps P (panQ (endK rs R)) d.xs e1 w1 fun e2 w2 =>
    rdK e2 (.tmp d.g) fun v => fnK v fun gf first cap => first = #[] ∧ HasBody P gf ∧ keepK e2 d.rk fun er => keepK e2 d.ks fun e3 => denS P d.rest e3 w2 (endF P rs R gf cap er)
def isDefer (o : Oper) (g : Nat) : Bool :=
  match o.op, o.dst, o.guard with
  | .defer c, none, none => (match c.callee with | .value (.tmp t) => Nat.beq t g | _ => false) && c.args.isEmpty
  | _, _, _ => false
def trDn0 (P : Program) (pn : List Nat) (n : Nat) (d : Dn) (cs : List Code) : Option Dn :=
  match cs with
  | [.region _ ops false, c] =>
    match ops.toList.getLast? with
    | some o =>
      match trXs P pn n ops ops.toList.dropLast, trS P pn n c d.rest, isDefer o d.g && (d.rk.all fun k => !(asg c).contains k) with
      | some xs, some s, true => some { pre := [], xs, g := d.g, rk := d.rk, ks := d.ks, rest := s }
      | _, _, _ => none
    | none => none
  | _ => none
def trDn (P : Program) (pn : List Nat) (n : Nat) (d : Dn) : List S → List Code → Option Dn
  | [], cs => trDn0 P pn n d cs
  | p :: ps, cs =>
    match cs with
    | c :: b =>
      match trS P pn n c p, trDn P pn n d ps b with
      | some s, some d' => some { d' with pre := s :: d'.pre }
      | _, _ => none
    | [] => none

theorem run_deferOp {ρ : Operand → Value} {o : Oper} {g : Nat} {gf : FuncId} {cap : Array Value} {P : Program} {w : World} (h : isDefer o g = true) (hv : ρ (.tmp g) = .func (.func gf) #[] cap) :
    (execOp ρ o).run P w = .ok (.defer { target := .fn (.func gf) cap, args := #[] }) w := by
  unfold isDefer at h
  split at h
  · rename_i c ho hd hg
    rw [Bool.and_eq_true] at h
    obtain ⟨h1, h2⟩ := h
    split at h1
    · rename_i t hc
      obtain rfl := Nat.eq_of_beq_eq_true h1
      have ha : c.args = #[] := by simpa using h2
      obtain ⟨dst, op, ty, pos, after, guard⟩ := o
      subst ho
      have e1 : execOp ρ ⟨dst, .defer c, ty, pos, after, guard⟩ = (do pure (Next.defer (← resolve ρ c ty))) := rfl
      rw [e1]
      unfold resolve
      rw [hc]
      show Sem.run P (do pure (Next.defer (← Deferred.ofValue (ρ (.tmp t)) (c.args.map ρ)))) w = _
      rw [hv, ha]
      simp [Deferred.ofValue, Result.andThen]
    · cases h1
  · cases h

/-- A code's parts, so many of them. -/
def spineC : Nat → Code → List Code
  | 0, c => [c]
  | k + 1, .seq a b => a :: spineC k b
  | _ + 1, c => [c]
theorem wpL_one {F : Fence} {n : Nat} {P : Program} {Q : Exit → Act → World → Prop} {c : Code} {a : Act} {w : World} (h : wpL F n P Q [c] a w) : c.wpIn F n P Q a w :=
  wpIn_mono h fun ex a' w' hQ => by cases ex <;> exact hQ
theorem wpL_spineC {F : Fence} {n : Nat} {P : Program} {Q : Exit → Act → World → Prop} : ∀ {k : Nat} {c : Code} {a : Act} {w : World}, wpL F n P Q (spineC k c) a w → c.wpIn F n P Q a w := by
  intro k
  induction k with
  | zero => intro c a w h; exact wpL_one h
  | succ k ih =>
    intro c a w h
    cases c with
    | seq c1 c2 =>
      refine wpIn_seq (wpIn_mono (show c1.wpIn F n P (Exit.then (wpL F n P Q (spineC k c2)) Q) a w from h) fun ex a' w' hQ => ?_)
      cases ex
      case normal => exact ih hQ
      all_goals exact hQ
    | _ => exact wpL_one h
section
variable {P : Program} {pn : List Nat} {rs : List Res} {R : Ending → World → Prop} {fn : Func}
theorem leaves_out (hr : trRess P fn.results.toList = some rs) {n : Nat} {d0 : List Deferred} {a : Act} {e : Env} {w : World} (ok : Ok n d0 a e) {u : FrameMode} (h : outK rs R e u w) : LeavesIn (Fr none) 3 P fn a.tmps R [] u w := by
  cases u with
  | run => exact h.elim
  | returning => exact run_results (K := fun v => R (.returned v) w) hr ok h
  | panicking ch => exact h
theorem leaves_fn (hr : trRess P fn.results.toList = some rs) {n : Nat} {d0 : List Deferred} {a : Act} {e : Env} {w : World} (ok : Ok n d0 a e) {u : FrameMode} (hu : u ≠ .run) {gf : FuncId} {cap : Array Value} (hb : HasBody P gf) (h : outD P gf cap u w (outK rs R e)) :
    LeavesIn (Fr none) 3 P fn a.tmps R [{ target := .fn (.func gf) cap, args := #[] }] u w := by
  refine ⟨hu, fun _ => by omega, .func gf, cap, gf, #[] ++ cap, rfl, run_callFunc hb, fun _ _ => trivial, ?_⟩
  rw [Array.empty_append]
  refine CallsDIn.mono h fun e' u' w' hq => ?_
  cases e' with
  | returned v => exact leaves_out hr ok hq
  | panicked ch => exact leaves_out hr ok hq
  | outgrown => exact hq.elim
theorem denDn_sound (hr : trRess P fn.results.toList = some rs) : ∀ {ps : List S} {d d' : Dn} {cs : List Code} {e : Env} {a : Act} {w : World}, trDn P pn fn.ntmps d ps cs = some d' → Ok fn.ntmps [] a e → denDn P rs R d' e w → wpL (Fr none) 3 P (bodyPostDIn (Fr none) 3 P fn R) cs a w
  | [], d, d', cs, e, a, w, ht, ha, hd => by
    unfold trDn trDn0 at ht
    split at ht
    · rename_i id ops c
      split at ht
      · rename_i o ho
        split at ht
        · rename_i xs s h1 h2 h3
          cases ht
          rw [Bool.and_eq_true] at h3
          obtain ⟨hdf, hrk⟩ := h3
          have hd' : denOps P (panQ (endK rs R)) xs e w fun e2 w2 => rdK e2 (.tmp d.g) fun v => fnK v fun gf first cap => first = #[] ∧ HasBody P gf ∧ keepK e2 d.rk fun er => keepK e2 d.ks fun e3 => denS P s e3 w2 (endF P rs R gf cap er) := hd
          have hl : ops.toList = ops.toList.dropLast ++ [o] := by
            obtain ⟨ys, hy⟩ := List.getLast?_eq_some_iff.1 ho
            rw [hy, List.dropLast_concat]
          refine wpIn_region_list ?_
          rw [hl]
          refine denOps_tail (l2 := [o]) (Z := panQ (endK rs R)) (d0 := []) (r0 := none) (l0 := asg (.region id ops false)) (a0 := a) (fun ch a' w' hdf hsm hz => ?_) (fun o' ho' d hdst => List.mem_filterMap.2 ⟨o', List.dropLast_subset _ ho', hdst⟩) (SmA.refl _ _) h1 ha hd' fun a' e2 w2 ok2 _ hK => ?_
          · show LeavesIn _ _ _ _ _ _ a'.defers _ _
            rw [hdf]
            exact hz
          obtain ⟨v, hv, hK⟩ := rdK_spec hK
          cases v <;> first | exact (show False from hK).elim | skip
          rename_i f first cap
          cases f <;> first | exact (show False from hK).elim | skip
          rename_i gf
          obtain ⟨rfl, hb, hK⟩ := hK
          obtain ⟨er, her, hK⟩ := keepK_spec hK
          obtain ⟨e3, he3, hden⟩ := keepK_spec hK
          have hev := ok2.eval _ _ hv
          have hgn : o.guard = none ∧ o.dst = none ∧ ∃ c, o.op = .defer c := by
            unfold isDefer at hdf
            split at hdf
            · rename_i c q1 q2 q3; exact ⟨q3, q2, c, q1⟩
            · cases hdf
          obtain ⟨q1, q2, cc, q3⟩ := hgn
          show wpListIn (Fr none) 3 P ops _ [o] a' w2
          unfold wpListIn
          rw [if_pos (by unfold Region.wanted; rw [q1])]
          refine ⟨fun f hf => (by unfold Oper.about at hf; rw [q3] at hf; cases hf), ?_⟩
          show o.uponIn _ _ _ _ _ _ ((Oper.semAt none a'.eval o).run P w2)
          rw [Oper.semAt_none, run_deferOp hdf hev, Oper.uponIn_defer, q2]
          show wpL (Fr none) 3 P (bodyPostDIn (Fr none) 3 P fn R) [c] _ w2
          have ok3 : Ok fn.ntmps [{ target := .fn (.func gf) cap, args := #[] }] { a' with defers := { target := .fn (.func gf) cap, args := #[] } :: a'.defers } e3 := ⟨ok2.size, by show _ :: a'.defers = _; rw [ok2.defers], fun t v hf => ok2.at' t v (he3 t v hf).2⟩
          refine wpIn_mono (denS_sound (r0 := none) (m := 3) h2 ok3 hden) fun ex a3 w3 hA => ?_
          cases ex
          case normal =>
            obtain ⟨_, _, e', ok', hq⟩ := hA
            show LeavesIn _ _ _ _ _ _ a3.defers _ _
            rw [ok'.defers]
            exact leaves_fn hr ok' (by simp) hb hq
          case ret =>
            obtain ⟨_, _, e', ok', hq⟩ := hA
            show LeavesIn _ _ _ _ _ _ a3.defers _ _
            rw [ok'.defers]
            exact leaves_fn hr ok' (by simp) hb hq
          case panic ch =>
            obtain ⟨hdef, hsm, hq⟩ := hA
            show LeavesIn _ _ _ _ _ _ a3.defers _ _
            rw [hdef]
            have oke : Ok fn.ntmps [{ target := .fn (.func gf) cap, args := #[] }] a3 er := ⟨hsm.1.trans ok2.size, hdef, fun t v hf => by
              obtain ⟨g1, g2⟩ := her t v hf
              have hk := List.all_eq_true.1 hrk t g1
              simp only [Bool.not_eq_true', List.contains_eq_mem, decide_eq_false_iff_not] at hk
              rw [hsm.2 t hk]
              exact ok2.at' t v g2⟩
            exact leaves_fn hr oke (by simp) hb hq
          all_goals
            obtain ⟨_, _, e', ok', hq⟩ := hA
            exact hq.elim
        · cases ht
      · cases ht
    · cases ht
  | p :: ps, d, d', cs, e, a, w, ht, ha, hd => by
    unfold trDn at ht
    split at ht
    · rename_i c b
      split at ht
      · rename_i s d2 h1 h2
        cases ht
        have hd' : denS P s e w (thenE (fun e' w' => denDn P rs R d2 e' w') (endK rs R)) := hd
        refine wpIn_mono (denS_sound (r0 := none) (m := 3) h1 ha hd') fun ex a' w' hA => ?_
        cases ex
        case normal =>
          obtain ⟨_, _, e', ok', hq⟩ := hA
          exact denDn_sound hr h2 ok' hq
        case ret =>
          obtain ⟨_, _, e', ok', hq⟩ := hA
          show LeavesIn _ _ _ _ _ _ a'.defers _ _
          rw [ok'.defers]
          exact run_results (K := fun v => R (.returned v) w') hr ok' hq
        case panic ch =>
          obtain ⟨hdef, _, hq⟩ := hA
          show LeavesIn _ _ _ _ _ _ a'.defers _ _
          rw [hdef]
          exact hq
        all_goals
          obtain ⟨_, _, e', ok', hq⟩ := hA
          exact hq.elim
      · cases ht
    · cases ht
end
/-- A CALL of a function that defers a closure, out of its code's denotation. -/
theorem calls_of_denDn {P : Program} {pn : List Nat} {f : FuncId} {fn : Func} {c : Code} {d : Dn} {rs : List Res} {args : List Value} {w : World} {R : Ending → World → Prop} (hf : P.funcs[f]? = some fn) (hb : fn.body = some c) (hn : args.length ≤ fn.ntmps)
    (ht : trDn P pn fn.ntmps d d.pre (spineC (d.pre.length + 1) c) = some d) (hr : trRess P fn.results.toList = some rs) (hd : denDn P rs R d (argsEnv 0 args) w) : Calls P f args.toArray w R := by
  refine callsFr.1 (callsIn_of_wp_defers (F := Fr none) (n := 3) hf hb trivial ?_ rfl)
  have ha : Ok fn.ntmps [] { tmps := args.toArray ++ Array.replicate (fn.ntmps - args.toArray.size) undef, defers := [] } (argsEnv 0 args) := by
    refine ⟨by simp; omega, rfl, fun t v hf => ?_⟩
    obtain ⟨_, h2⟩ := find_args hf
    have hlt : t < args.length := (List.getElem?_eq_some_iff.1 h2).1
    simp only [Nat.sub_zero] at h2
    obtain ⟨_, h3⟩ := List.getElem?_eq_some_iff.1 h2
    simp [Array.getElem?_append, hlt, h3]
  exact wpL_spineC (denDn_sound hr ht ha hd)
end Go.Proofs.YtjchneebdlncfaaDoor.Den
namespace Go.Proofs.YtjchneebdlncfaaDoor.Den
open Go Go.RowKit
/-- Its code: 'recover' into a slot, the operations behind it, those slots that live on, the rest. -/
structure Df where
  d : Nat
  xs : List X
  ks : List Nat
  s : S
/-- What 'recover' yields, and the mode of the frame below then. -/
def recQ : FrameMode → Value × FrameMode
  | .panicking ({ v, recovered := false, goexit := false } :: older) => (v, .panicking ({ v, recovered := true } :: older))
  | u => (.nilIface, u)
def endD (rs : List Res) (R : Ending → FrameMode → World → Prop) (u : FrameMode) : Post
  | .normal, e, w => resK e w rs fun vs => R (.returned (endV vs)) u w
  | .ret, e, w => resK e w rs fun vs => R (.returned (endV vs)) u w
  | .panic ch, _, w => R (.panicked ch) u w
  | _, _, _ => False
def denDf (P : Program) (rs : List Res) (R : Ending → FrameMode → World → Prop) (h : Df) (u : FrameMode) (e : Env) (w : World) : Prop :=
  denOps P (panQ (endD rs R (recQ u).2)) h.xs (put (some h.d) (recQ u).1 e) w fun e' w' => keepK e' h.ks fun e'' => denS P h.s e'' w' (endD rs R (recQ u).2)
/-- An operation that calls nothing. -/
def calmOp : Op → Bool
  | .move _ | .assign _ | .binOp _ _ _ _ _ | .typeAssert _ _ _ _ | .extract _ _ | .unOp _ _ _ | .load _ _ | .alloc _ | .store _ _ _ => true
  | _ => false
def isRecover (o : Oper) (d : Nat) : Bool :=
  match o.op, o.dst, o.guard with
  | .call c, some k, none => (match c.callee with | .builtin .recover => true | _ => false) && c.args.isEmpty && Nat.beq k d
  | _, _, _ => false
def trDf (P : Program) (pn : List Nat) (n : Nat) (h : Df) : Code → Option Df
  | .seq (.region _ ops false) c =>
    match ops.toList with
    | o :: r =>
      match trXs P pn n ops r, trS P pn n c h.s, isRecover o h.d && (r.all fun o => calmOp o.op) && decide (h.d < n) with
      | some xs, some s, true => some { d := h.d, xs, ks := h.ks, s }
      | _, _, _ => none
    | [] => none
  | _ => none

theorem run_v {P : Program} {w w' : World} {n : Next} {s : Sem Value} (h : Sem.run P (do pure (Next.value (← s))) w = .ok n w') : ∃ v, n = .value v := by
  cases hs : Sem.run P s w with
  | ok x w1 => simp [hs, Result.andThen] at h; exact ⟨x, h.1.symm⟩
  | halt a w1 => simp [hs, Result.andThen] at h
theorem run_u {P : Program} {w w' : World} {n : Next} {s : Sem Unit} (h : Sem.run P (do s; pure Next.skip) w = .ok n w') : n = .skip := by
  cases hs : Sem.run P s w with
  | ok x w1 => simp [hs, Result.andThen] at h; exact h.1.symm
  | halt a w1 => simp [hs, Result.andThen] at h
theorem run_pv {P : Program} {w w' : World} {n : Next} {v : Value} (h : Sem.run P (pure (Next.value v)) w = .ok n w') : ∃ v, n = .value v := by
  simp at h; exact ⟨v, h.1.symm⟩
theorem calm_next {P : Program} {w w' : World} {n : Next} {ρ : Operand → Value} {o : Oper} (hc : calmOp o.op = true) (h : (execOp ρ o).run P w = .ok n w') : (∃ v, n = .value v) ∨ n = .skip := by
  obtain ⟨dst, op, ty, pos, after, guard⟩ := o
  cases op <;> first | (cases hc; done) | exact .inl (run_pv h) | exact .inl (run_v h) | exact .inr (run_u h)
def wpListSIn (F : Fence) (P : Program) (ops : Array Oper) (Q : Exit → Act → List Frame → World → Prop) : List Oper → Act → List Frame → World → Prop
  | [], a, cs, w => Q .normal a cs w
  | o :: rest, a, cs, w =>
      (∀ f, o.about P w a.eval = some f → F.fn f) ∧
      if Region.wanted o (yielded ops a.tmps) then
        match (execOp a.eval o).run P w with
        | .ok .recover w' =>
          match recoverD cs with
          | some (v, cs') => wpListSIn F P ops Q rest (a.put o.dst v) cs' w'
          | none => wpListSIn F P ops Q rest (a.put o.dst .nilIface) cs w'
        | .ok (.value v) w' => wpListSIn F P ops Q rest (a.put o.dst v) cs w'
        | .ok .skip w' => wpListSIn F P ops Q rest (a.put o.dst undef) cs w'
        | .halt (.panic v) w' => Q (.panic [{ v, recovered := false }]) a cs w'
        | _ => False
      else wpListSIn F P ops Q rest (a.put o.dst undef) cs w
theorem wpOpsSIn_eq {F : Fence} {n : Nat} {P : Program} {ops : Array Oper} {Q : Exit → Act → List Frame → World → Prop} (l : List Oper) : ∀ k, (∀ j, l[j]? = ops[k + j]?) → wpOpsSIn F n P ops Q (List.range' k l.length) = wpListSIn F P ops Q l := by
  induction l with
  | nil => intro k _; funext a cs w; simp [wpOpsSIn, wpListSIn]
  | cons o l ih =>
    intro k h
    have h0 : ops[k]? = some o := by simpa using (h 0).symm
    have ih' := ih (k + 1) (fun j => by have := h (j + 1); simpa [Nat.add_assoc, Nat.add_comm 1 j] using this)
    funext a cs w
    simp only [List.length_cons, List.range'_succ, wpOpsSIn, h0, wpListSIn, ih']
    rfl
section
variable {P : Program} {pn : List Nat} {Z : Pan}
theorem denOps_S {n : Nat} {d0 : List Deferred} {ops : Array Oper} {cs : List Frame} {Q : Exit → Act → List Frame → World → Prop} (hz : ∀ ch a' w', a'.defers = d0 → Z ch w' → Q (.panic ch) a' cs w') : ∀ {l : List Oper} {xs : List X} {e : Env} {a : Act} {w : World} {K : Env → World → Prop},
    (∀ o ∈ l, calmOp o.op = true) → trXs P pn n ops l = some xs → Ok n d0 a e → denOps P Z xs e w K → (∀ a' e' w', Ok n d0 a' e' → K e' w' → Q .normal a' cs w') → wpListSIn (Fr none) P ops Q l a cs w
  | [], xs, e, a, w, K, _, ht, ha, hd, hq => by
    cases ht
    exact hq a e w ha hd
  | o :: r, xs, e, a, w, K, hc, ht, ha, hd, hq => by
    unfold trXs at ht
    split at ht
    · rename_i x xs' hx hxs
      cases ht
      have hs := denX_sound hx ha hd
      unfold opR at hs
      unfold wpListSIn
      have step : ∀ v w', (∃ e', Ok n d0 (a.put o.dst v) e' ∧ denOps P Z xs' e' w' K) → wpListSIn (Fr none) P ops Q r (a.put o.dst v) cs w' := fun v w' ⟨e', hok, hden⟩ =>
        denOps_S hz (fun o' ho' => hc o' (by simp [ho'])) hxs hok hden hq
      refine ⟨fun _ _ => trivial, ?_⟩
      split
      · rename_i hw
        rw [if_pos hw] at hs
        unfold RunsTo at hs
        cases hr : (execOp a.eval o).run P w with
        | ok nx w' =>
          rw [hr] at hs
          rcases calm_next (hc o (by simp)) hr with ⟨v, rfl⟩ | rfl
          · exact step v w' hs
          · exact step undef w' hs
        | halt x w' =>
          rw [hr] at hs
          cases x <;> first | exact hz _ a w' ha.defers hs | exact hs.elim
      · rename_i hw
        rw [if_neg hw] at hs
        exact step _ _ hs
    · cases ht
theorem run_recover {ρ : Operand → Value} {o : Oper} {d : Nat} {w : World} (h : isRecover o d = true) : (execOp ρ o).run P w = .ok .recover w := by
  obtain ⟨dst, op, ty, pos, after, guard⟩ := o
  unfold isRecover at h
  split at h
  · rename_i c k ho hd hg
    simp only [Bool.and_eq_true] at h
    obtain ⟨⟨h1, h2⟩, _⟩ := h
    split at h1
    · rename_i hcal
      have ha : c.args = #[] := by simpa using h2
      simp only at ho
      subst ho
      have e1 : execOp ρ ⟨dst, .call c, ty, pos, after, guard⟩ = (do let d ← resolve ρ c ty; invoke d.target d.args) := rfl
      rw [e1]
      unfold resolve
      rw [hcal, ha]
      rfl
    · cases h1
  · cases h
theorem recoverD_eq (c0 : Frame) (cs : List Frame) : recoverD (c0 :: cs) = some ((recQ c0.mode).1, { c0 with mode := (recQ c0.mode).2 } :: cs) ∨ (recoverD (c0 :: cs) = none ∧ recQ c0.mode = (.nilIface, c0.mode)) := by
  simp only [recoverD, recQ]
  split <;> simp_all
end
/-- A DEFERRED CALL of a closure that recovers, out of its code's denotation. -/
theorem callsD_of_den {P : Program} {pn : List Nat} {f : FuncId} {fn : Func} {c : Code} {h : Df} {rs : List Res} {args : List Value} {u : FrameMode} {w : World} {R : Ending → FrameMode → World → Prop} {m : Nat} (hf : P.funcs[f]? = some fn) (hb : fn.body = some c) (hn : args.length ≤ fn.ntmps)
    (ht : trDf P pn fn.ntmps h c = some h) (hr : trRess P fn.results.toList = some rs) (hd : denDf P rs R h u (argsEnv 0 args) w) : CallsDIn (Fr none) m P f args.toArray u w R := by
  refine callsDIn_of_wpSIn hf hb trivial fun c0 cs hu => ?_
  subst hu
  have ha : Ok fn.ntmps [] { tmps := args.toArray ++ Array.replicate (fn.ntmps - args.toArray.size) undef, defers := [] } (argsEnv 0 args) := by
    refine ⟨by simp; omega, rfl, fun t v hf => ?_⟩
    obtain ⟨_, h2⟩ := find_args hf
    have hlt : t < args.length := (List.getElem?_eq_some_iff.1 h2).1
    simp only [Nat.sub_zero] at h2
    obtain ⟨_, h3⟩ := List.getElem?_eq_some_iff.1 h2
    simp [Array.getElem?_append, hlt, h3]
  generalize ({ tmps := args.toArray ++ Array.replicate (fn.ntmps - args.toArray.size) undef, defers := [] } : Act) = a at ha ⊢
  unfold trDf at ht
  split at ht
  · rename_i id ops c2
    split at ht
    · rename_i o r hops
      split at ht
      · rename_i xs s h1 h2 h3
        simp only [Bool.and_eq_true, decide_eq_true_eq, List.all_eq_true] at h3
        obtain ⟨⟨hrec, hcalm⟩, hdn⟩ := h3
        have exs : xs = h.xs := congrArg Df.xs (Option.some.inj ht)
        have es : s = h.s := congrArg Df.s (Option.some.inj ht)
        subst exs
        subst es
        clear ht
        obtain ⟨hd', xs, ks, s⟩ := h
        refine wpSIn_seq (wpSIn_region ?_)
        rw [List.range_eq_range', ← Array.length_toList, wpOpsSIn_eq ops.toList 0 (by simp), hops]
        unfold wpListSIn
        refine ⟨fun _ _ => trivial, ?_⟩
        have hg : o.guard = none ∧ o.dst = some hd' := by
          unfold isRecover at hrec
          split at hrec
          · rename_i cc k g1 g2 g3
            simp only [Bool.and_eq_true] at hrec
            exact ⟨g3, by rw [g2, Nat.eq_of_beq_eq_true hrec.2]⟩
          · cases hrec
        rw [if_pos (by unfold Region.wanted; rw [hg.1]), run_recover hrec]
        simp only
        have fin : wpListSIn (Fr none) P ops (Exit.thenS (c2.wpSIn (Fr none) m P (bodyPostS P fn c0 cs R)) (bodyPostS P fn c0 cs R)) r (a.put o.dst (recQ c0.mode).1) ({ c0 with mode := (recQ c0.mode).2 } :: cs) w := by
          rw [hg.2]
          have ok1 : Ok fn.ntmps [] (a.put (some hd') (recQ c0.mode).1) (put (some hd') (recQ c0.mode).1 (argsEnv 0 args)) := by
            have := ha.put (dst := some hd') (fun d hd => by cases hd; exact hdn) (recQ c0.mode).1
            exact this
          refine denOps_S (Z := panQ (endD rs R (recQ c0.mode).2)) (d0 := []) (fun ch a' w' hdef hz => ⟨hdef, _, rfl, hz⟩) hcalm h1 ok1 hd fun a' e' w' ok' hK => ?_
          obtain ⟨e'', hk, hden⟩ := keepK_spec hK
          refine wpSIn_of_wpIn rfl (wpIn_mono (denS_sound (r0 := none) (m := m) h2 (ok'.keep fun t v hf => (hk t v hf).2) hden) fun ex a3 w3 hA => ?_)
          cases ex with
          | normal =>
            obtain ⟨_, _, e3, ok3, hq⟩ := hA
            obtain ⟨v, g1, g2⟩ := run_results (K := fun v => R (.returned v) (recQ c0.mode).2 w3) hr ok3 hq
            exact ⟨ok3.defers, _, rfl, v, g1, g2⟩
          | ret =>
            obtain ⟨_, _, e3, ok3, hq⟩ := hA
            obtain ⟨v, g1, g2⟩ := run_results (K := fun v => R (.returned v) (recQ c0.mode).2 w3) hr ok3 hq
            exact ⟨ok3.defers, _, rfl, v, g1, g2⟩
          | panic ch => exact ⟨hA.1, _, rfl, hA.2.2⟩
          | _ =>
            obtain ⟨_, _, e3, ok3, hq⟩ := hA
            exact hq.elim
        rcases recoverD_eq c0 cs with hq | ⟨hq, hq2⟩
        · rw [hq]; exact fin
        · rw [hq]
          rw [hq2] at fin
          exact fin
      · cases ht
    · cases ht
  · cases ht
end Go.Proofs.YtjchneebdlncfaaDoor.Den
set_option maxRecDepth 100000
namespace Go.Proofs.YtjchneebdlncfaaDoor.Fn
open Go Den
/-- prelude/batch.Decode -/
def s43 : Den.Dn := { pre := [(.ops [⟨(some 2), (.alloc 35), .ptr, none⟩,
  ⟨(some 3), (.alloc 3), .ptr, none⟩,
  ⟨(some 4), (.alloc 40), .ptr, none⟩] [2, 3, 4, 0])], xs := [⟨(some 6), (.mkF (.func 78) [] [(.tmp 2), (.tmp 3), (.tmp 4)]), .any, none⟩], g := 6, rk := [2, 3, 4], ks := [0, 2, 3, 4], rest := (.seq (.ops [⟨(some 7), (.mv (.tmp 0)), .sl, none⟩,
  ⟨(some 8), (.call 76 [(.tmp 7)] [.ptr]), .ptr, none⟩,
  ⟨(some 9), (.bld 144 (.fields [(0, 1)]) [(0, (.tmp 8))]), .agg, none⟩,
  ⟨(some 5), (.alloc 144), .ptr, none⟩,
  ⟨none, (.stN 1 (.tmp 5) (.tmp 9)), .any, none⟩] [5, 2, 3, 4])
 (.seq (.seq (.ops [⟨(some 10), (.ldN 1 (.tmp 5)), .agg, none⟩,
  ⟨(some 11), (.callP 79 [(.tmp 10), (.const (.int .i64 64))] [(.int .i64)]), (.int .i64), none⟩,
  ⟨(some 12), (.mv (.const (.int .i64 0))), (.int .i64), none⟩] [12, 11, 2, 5, 3, 4])
 (.block 0
 (.loop [(12, (.int .i64))] [2, 3, 4, 5, 11]
 (.seq (.ops [⟨(some 13), (.bin .lss (.tmp 12) (.tmp 11)), .bool, none⟩] [13, 2, 5, 12, 11, 3, 4])
 (.seq (.cond (.tmp 13)
 .skip
 (.exit 0))
 (.seq (.block 1
 (.draw (.take 0 ⟨(some 14), (.ld1 (.tmp 2)), .sl, none⟩
  (.take 1 ⟨(some 15), (.ldN 1 (.tmp 5)), .agg, none⟩
  (.go 2 ⟨(some 16), (.callP 80 [(.tmp 15)] [.agg]), .agg, none⟩ [(0, ⟨(some 14), (.ld1 (.tmp 2)), .sl, none⟩)]
  (.go 3 ⟨(some 17), (.bldS 76 1 4 [(0, (.tmp 16))]), .sl, none⟩ [(0, ⟨(some 14), (.ld1 (.tmp 2)), .sl, none⟩)]
  (.go 4 ⟨(some 18), (.app #[35, 35] 35 (.tmp 14) (.tmp 17)), .sl, none⟩ []
  (.go 5 ⟨none, (.st1 (.tmp 2) (.tmp 18)), .any, none⟩ []
  .done)))))) [12, 11, 2, 5, 3, 4]))
 (.ops [⟨(some 19), (.bin .add (.tmp 12) (.const (.int .i64 1))), (.int .i64), none⟩,
  ⟨(some 12), (.mv (.tmp 19)), (.int .i64), none⟩] [12, 11, 2, 5, 3, 4])))))))
 (.seq (.seq (.ops [⟨(some 20), (.fa 0 (.tmp 5)), .ptr, none⟩,
  ⟨(some 21), (.ld1 (.tmp 20)), .ptr, none⟩,
  ⟨(some 22), (.call 45 [(.tmp 21)] [(.int .i64)]), (.int .i64), none⟩,
  ⟨(some 23), (.bin .gtr (.tmp 22) (.const (.int .i64 0))), .bool, none⟩] [23, 5, 2, 3, 4])
 (.cond (.tmp 23)
 (.ops [⟨(some 24), (.fa 0 (.tmp 5)), .ptr, none⟩,
  ⟨(some 25), (.ld1 (.tmp 24)), .ptr, none⟩,
  ⟨(some 26), (.call 81 [(.tmp 25)] [(.int .i64)]), (.int .i64), none⟩,
  ⟨(some 27), (.bld 141 (.fields [(0, 1), (1, 1)]) [(0, (.tmp 26)), (1, (.const (.int .i64 11)))]), .agg, none⟩,
  ⟨(some 28), (.mkI 141 (.tmp 27)), .any, none⟩,
  ⟨none, (.pan (.tmp 28)), .any, none⟩] [2, 3, 4])
 .skip))
 (.seq (.ops [⟨(some 29), (.ld1 (.tmp 2)), .sl, none⟩,
  ⟨none, (.st1 (.tmp 2) (.tmp 29)), .any, none⟩,
  ⟨none, (.st1 (.tmp 3) (.const (.int .i64 0))), .any, none⟩,
  ⟨none, (.st1 (.tmp 4) (.const (.int .i64 0))), .any, none⟩] [2, 3, 4])
 .ret)))) }
def r43 : List Res := [.c1 2 .sl, .c1 3 (.int .i64), .c1 4 (.int .i64)]
theorem tr43 : trDn Tryd.prog [79, 80, 95, 97] 30 s43 s43.pre (spineC (s43.pre.length + 1) (Tryd.f43.body.getD .skip)) = some s43 := by kernel_rfl
def d43 (data0 : Option Addr) (data0n : Nat) (data0c : Nat) (w : World) (R : Ending → World → Prop) : Prop :=
 ∀ w1 : World, w1 = World.alloc w (.cells (zc Tryd.prog 35).toArray 35) →
 ∀ w2 : World, w2 = World.alloc w1 (.cells (zc Tryd.prog 3).toArray 3) →
 ∀ w3 : World, w3 = World.alloc w2 (.cells (zc Tryd.prog 40).toArray 40) →
 (#[] : Array Value) = #[] ∧ HasBody Tryd.prog 78 ∧
 Calls Tryd.prog 76 #[(.slice data0 data0n data0c)] w3 fun e4 w5 => ∃ x6 : Option Addr, e4 = .returned (.pointer x6) ∧
 ∃ cs7, fillL (.fields [(0, 1)]) (zc Tryd.prog 144) [(0, (.pointer x6))] = some cs7 ∧
 ∀ w8 : World, w8 = World.alloc w5 (.cells (zc Tryd.prog 144).toArray 144) →
 Array.size (List.toArray cs7) = 1 ∧ (∀ u ∈ Array.toList (List.toArray cs7), one u = true) ∧ Room w8 ⟨World.heap w5 |>.size, 0, none⟩ 1 ∧
 ∀ w9 : World, w9 = setCells w8 ⟨World.heap w5 |>.size, 0, none⟩ (Array.toList (List.toArray cs7)) 0 →
 ∃ cs10 : List Value, List.length cs10 = 1 ∧ Cells w9 ⟨World.heap w5 |>.size, 0, none⟩ cs10 ∧
 Calls Tryd.prog 79 #[(.agg (List.toArray cs10)), (.int .i64 64)] w9 fun e11 w12 => orPan e11 (fun ch47 => outD Tryd.prog 78 #[(.pointer (some ⟨World.heap w |>.size, 0, none⟩)), (.pointer (some ⟨World.heap w1 |>.size, 0, none⟩)), (.pointer (some ⟨World.heap w2 |>.size, 0, none⟩))] (.panicking ch47) w12 (outK r43 R [(2, (.pointer (some ⟨World.heap w |>.size, 0, none⟩))), (3, (.pointer (some ⟨World.heap w1 |>.size, 0, none⟩))), (4, (.pointer (some ⟨World.heap w2 |>.size, 0, none⟩)))])) (∃ x13 : Int, e11 = .returned (.int .i64 x13) ∧
 ∃ I14 : Nat → Int → World → Prop,
 (∃ m, I14 m 0 w12) ∧
 (∀ (m15 : Nat) (w16 : World) (x17 : Int), I14 m15 x17 w16 →
 (bif (decide (x17 < x13)) then
 (∀ w18 : World, w18 = World.drew w16 →
 ∃ (x19 : Option Addr) (x19n : Nat) (x19c : Nat), World.cell? w18 ⟨World.heap w |>.size, 0, none⟩ = some (.slice x19 x19n x19c) ∧
 ∃ cs20 : List Value, List.length cs20 = 1 ∧ Cells w18 ⟨World.heap w5 |>.size, 0, none⟩ cs20 ∧
 Calls Tryd.prog 80 #[(.agg (List.toArray cs20))] w18 fun e21 w22 => orPan e21 (fun ch33 => outD Tryd.prog 78 #[(.pointer (some ⟨World.heap w |>.size, 0, none⟩)), (.pointer (some ⟨World.heap w1 |>.size, 0, none⟩)), (.pointer (some ⟨World.heap w2 |>.size, 0, none⟩))] (.panicking ch33) w22 (outK r43 R [(2, (.pointer (some ⟨World.heap w |>.size, 0, none⟩))), (3, (.pointer (some ⟨World.heap w1 |>.size, 0, none⟩))), (4, (.pointer (some ⟨World.heap w2 |>.size, 0, none⟩)))])) (∃ x23 : Array Value, e21 = .returned (.agg x23) ∧
 (∃ (z24 : Option Addr) (z24n : Nat) (z24c : Nat), World.cell? w22 ⟨World.heap w |>.size, 0, none⟩ = some (.slice z24 z24n z24c) ∧
 (((.slice z24 z24n z24c) : Value) = (.slice x19 x19n x19c) ∧ w22 = w22)) ∧
 ∃ cs25, fillL (.elems 4) (zrep (zc Tryd.prog 76) (1 * 4)) [(0, (.agg x23))] = some cs25 ∧
 ∀ w26 : World, w26 = World.alloc w22 (.cells (List.toArray cs25) 76) →
 (∃ (z27 : Option Addr) (z27n : Nat) (z27c : Nat), World.cell? w26 ⟨World.heap w |>.size, 0, none⟩ = some (.slice z27 z27n z27c) ∧
 (((.slice z27 z27n z27c) : Value) = (.slice x19 x19n x19c) ∧ w26 = w26)) ∧
 RunV Tryd.prog (Builtin.append_ #[35, 35] 35 #[(.slice x19 x19n x19c), (.slice (some ⟨World.heap w22 |>.size, 0, none⟩) 1 1)]) w26 fun v28 w29 => ∃ (x30 : Option Addr) (x30n : Nat) (x30c : Nat), v28 = (.slice x30 x30n x30c) ∧
 one (.slice x30 x30n x30c) = true ∧ Option.isSome (World.cell? w29 ⟨World.heap w |>.size, 0, none⟩) = true ∧ World.frozen? w29 ⟨World.heap w |>.size, 0, none⟩ = false ∧
 ∀ w31 : World, w31 = World.setCell w29 ⟨World.heap w |>.size, 0, none⟩ (.slice x30 x30n x30c) →
 ∃ m32, m32 < m15 ∧ I14 m32 (IntKind.wrap .i64 (x17 + 1)) w31))
 else
 (∃ x34 : Option Addr, World.cell? w16 (Addr.add ⟨World.heap w5 |>.size, 0, none⟩ 0) = some (.pointer x34) ∧
 Calls Tryd.prog 45 #[(.pointer x34)] w16 fun e35 w36 => ∃ x37 : Int, e35 = .returned (.int .i64 x37) ∧
 (bif (decide (0 < x37)) then
 (∃ x38 : Option Addr, World.cell? w36 (Addr.add ⟨World.heap w5 |>.size, 0, none⟩ 0) = some (.pointer x38) ∧
 Calls Tryd.prog 81 #[(.pointer x38)] w36 fun e39 w40 => ∃ x41 : Int, e39 = .returned (.int .i64 x41) ∧
 ∃ cs42, fillL (.fields [(0, 1), (1, 1)]) (zc Tryd.prog 141) [(0, (.int .i64 x41)), (1, (.int .i64 11))] = some cs42 ∧
 (∃ t u, ((.iface 141 (.agg (List.toArray cs42))) : Value) = .iface t u) ∧ outD Tryd.prog 78 #[(.pointer (some ⟨World.heap w |>.size, 0, none⟩)), (.pointer (some ⟨World.heap w1 |>.size, 0, none⟩)), (.pointer (some ⟨World.heap w2 |>.size, 0, none⟩))] (.panicking [⟨(.iface 141 (.agg (List.toArray cs42))), false, false⟩]) w40 (outK r43 R [(2, (.pointer (some ⟨World.heap w |>.size, 0, none⟩))), (3, (.pointer (some ⟨World.heap w1 |>.size, 0, none⟩))), (4, (.pointer (some ⟨World.heap w2 |>.size, 0, none⟩)))]))
 else
 (∃ (x43 : Option Addr) (x43n : Nat) (x43c : Nat), World.cell? w36 ⟨World.heap w |>.size, 0, none⟩ = some (.slice x43 x43n x43c) ∧
 one (.slice x43 x43n x43c) = true ∧ Option.isSome (World.cell? w36 ⟨World.heap w |>.size, 0, none⟩) = true ∧ World.frozen? w36 ⟨World.heap w |>.size, 0, none⟩ = false ∧
 ∀ w44 : World, w44 = World.setCell w36 ⟨World.heap w |>.size, 0, none⟩ (.slice x43 x43n x43c) →
 one (.int .i64 0) = true ∧ Option.isSome (World.cell? w44 ⟨World.heap w1 |>.size, 0, none⟩) = true ∧ World.frozen? w44 ⟨World.heap w1 |>.size, 0, none⟩ = false ∧
 ∀ w45 : World, w45 = World.setCell w44 ⟨World.heap w1 |>.size, 0, none⟩ (.int .i64 0) →
 one (.int .i64 0) = true ∧ Option.isSome (World.cell? w45 ⟨World.heap w2 |>.size, 0, none⟩) = true ∧ World.frozen? w45 ⟨World.heap w2 |>.size, 0, none⟩ = false ∧
 ∀ w46 : World, w46 = World.setCell w45 ⟨World.heap w2 |>.size, 0, none⟩ (.int .i64 0) →
 outD Tryd.prog 78 #[(.pointer (some ⟨World.heap w |>.size, 0, none⟩)), (.pointer (some ⟨World.heap w1 |>.size, 0, none⟩)), (.pointer (some ⟨World.heap w2 |>.size, 0, none⟩))] .returning w46 (outK r43 R [(2, (.pointer (some ⟨World.heap w |>.size, 0, none⟩))), (3, (.pointer (some ⟨World.heap w1 |>.size, 0, none⟩))), (4, (.pointer (some ⟨World.heap w2 |>.size, 0, none⟩)))])))))))
theorem e43 (data0 : Option Addr) (data0n : Nat) (data0c : Nat) (w : World) (R : Ending → World → Prop) : denDn Tryd.prog r43 R s43 (argsEnv 0 [(.slice data0 data0n data0c)]) w = d43 data0 data0n data0c w R := by kernel_rfl
theorem c43 (data0 : Option Addr) (data0n : Nat) (data0c : Nat) {w : World} {R : Ending → World → Prop} (h : d43 data0 data0n data0c w R) : Calls Tryd.prog 43 #[(.slice data0 data0n data0c)] w R :=
  calls_of_denDn (pn := [79, 80, 95, 97]) (fn := Tryd.f43) (c := Tryd.f43.body.getD .skip) (args := [(.slice data0 data0n data0c)]) Tryd.func43 (by kernel_rfl) (by rw [Tryd.ntmps43]; simp) (by rw [Tryd.ntmps43]; exact tr43) (by kernel_rfl) ((e43 data0 data0n data0c w R).symm ▸ h)

/-- prelude/batch.Decode$1 -/
def s78 : Den.Df := { d := 6, xs := [⟨(some 3), (.mv (.tmp 6)), .any, none⟩], ks := [0, 1, 2, 3], s := (.seq (.ops [⟨(some 7), (.mv (.tmp 3)), .any, none⟩,
  ⟨(some 8), (.nilEq true 4 (.tmp 7)), .bool, none⟩] [8, 3, 0, 1, 2])
 (.cond (.tmp 8)
 (.seq (.ops [⟨(some 10), (.mv (.tmp 3)), .any, none⟩,
  ⟨(some 11), (.rv (.asrt 20 141 true) [(.tmp 10)]), .any, none⟩,
  ⟨(some 9), (.mv (.tmp 11)), .any, none⟩,
  ⟨(some 12), (.ext 0 (.tmp 9)), .agg, none⟩,
  ⟨(some 13), (.ext 1 (.tmp 9)), .bool, none⟩,
  ⟨(some 4), (.alloc 141), .ptr, none⟩,
  ⟨none, (.stN 2 (.tmp 4) (.tmp 12)), .any, none⟩,
  ⟨(some 5), (.mv (.tmp 13)), .bool, none⟩] [5, 3, 4, 0, 1, 2])
 (.join [] [0, 1, 2, 4]
 (.seq (.ops [⟨(some 14), (.mv (.tmp 5)), .bool, none⟩,
  ⟨(some 15), (.un .not (.tmp 14)), .bool, none⟩] [15, 3, 4, 0, 1, 2])
 (.cond (.tmp 15)
 (.ops [⟨(some 16), (.mv (.tmp 3)), .any, none⟩,
  ⟨none, (.pan (.tmp 16)), .any, none⟩] [4, 0, 1, 2])
 .skip))
 (.draw (.take 0 ⟨(some 17), (.fa 0 (.tmp 4)), .ptr, none⟩
  (.take 1 ⟨(some 18), (.ld1 (.tmp 17)), (.int .i64), none⟩
  (.take 2 ⟨(some 19), (.fa 1 (.tmp 4)), .ptr, none⟩
  (.take 3 ⟨(some 20), (.ld1 (.tmp 19)), (.int .i64), none⟩
  (.go 4 ⟨none, (.st1 (.tmp 0) (.const (.slice none 0 0))), .any, none⟩ [(3, ⟨(some 20), (.ld1 (.tmp 19)), (.int .i64), none⟩), (1, ⟨(some 18), (.ld1 (.tmp 17)), (.int .i64), none⟩)]
  (.go 5 ⟨none, (.st1 (.tmp 1) (.tmp 18)), .any, none⟩ [(3, ⟨(some 20), (.ld1 (.tmp 19)), (.int .i64), none⟩)]
  (.go 6 ⟨none, (.st1 (.tmp 2) (.tmp 20)), .any, none⟩ []
  .done))))))) [])))
 .skip)) }
def r78 : List Res := []
theorem tr78 : trDf Tryd.prog [79, 80, 95, 97] 21 s78 (Tryd.f78.body.getD .skip) = some s78 := by kernel_rfl
def d78 (x0 : Option Addr) (x1 : Option Addr) (x2 : Option Addr) (x : Value) (u' : FrameMode) (w : World) (R : Ending → FrameMode → World → Prop) : Prop :=
 nilQ 4 x fun q3 => (bif (!q3) then
 (RunV Tryd.prog (Instr.typeAssert x 20 141 true) w fun v4 w5 => ∃ x6 : Value, v4 = x6 ∧
 tupK x6 fun vs7 =>
 ∃ x8 : Array Value, (vs7)[0]? = some (.agg x8) ∧
 tupK x6 fun vs9 =>
 ∃ x10 : Bool, (vs9)[1]? = some (.bool x10) ∧
 ∀ w11 : World, w11 = World.alloc w5 (.cells (zc Tryd.prog 141).toArray 141) →
 Array.size x8 = 2 ∧ (∀ u ∈ Array.toList x8, one u = true) ∧ Room w11 ⟨World.heap w5 |>.size, 0, none⟩ 2 ∧
 ∀ w12 : World, w12 = setCells w11 ⟨World.heap w5 |>.size, 0, none⟩ (Array.toList x8) 0 →
 ∃ J13 : World → Prop,
 ((bif (!x10) then
 ((∃ t u, (x : Value) = .iface t u) ∧ R (.panicked [⟨x, false, false⟩]) u' w12)
 else
 (J13  w12))) ∧
 (∀ (w14 : World), J13  w14 →
 ∀ w15 : World, w15 = World.drew w14 →
 ∃ x16 : Int, World.cell? w15 (Addr.add ⟨World.heap w5 |>.size, 0, none⟩ 0) = some (.int .i64 x16) ∧
 ∃ x17 : Int, World.cell? w15 (Addr.add ⟨World.heap w5 |>.size, 0, none⟩ 1) = some (.int .i64 x17) ∧
 optK x0 fun a18 =>
 one (.slice none 0 0) = true ∧ Option.isSome (World.cell? w15 a18) = true ∧ World.frozen? w15 a18 = false ∧
 ∀ w19 : World, w19 = World.setCell w15 a18 (.slice none 0 0) →
 (∃ z20 : Int, World.cell? w19 (Addr.add ⟨World.heap w5 |>.size, 0, none⟩ 1) = some (.int .i64 z20) ∧
 (((.int .i64 z20) : Value) = (.int .i64 x17) ∧ w19 = w19)) ∧
 (∃ z21 : Int, World.cell? w19 (Addr.add ⟨World.heap w5 |>.size, 0, none⟩ 0) = some (.int .i64 z21) ∧
 (((.int .i64 z21) : Value) = (.int .i64 x16) ∧ w19 = w19)) ∧
 optK x1 fun a22 =>
 one (.int .i64 x16) = true ∧ Option.isSome (World.cell? w19 a22) = true ∧ World.frozen? w19 a22 = false ∧
 ∀ w23 : World, w23 = World.setCell w19 a22 (.int .i64 x16) →
 (∃ z24 : Int, World.cell? w23 (Addr.add ⟨World.heap w5 |>.size, 0, none⟩ 1) = some (.int .i64 z24) ∧
 (((.int .i64 z24) : Value) = (.int .i64 x17) ∧ w23 = w23)) ∧
 optK x2 fun a25 =>
 one (.int .i64 x17) = true ∧ Option.isSome (World.cell? w23 a25) = true ∧ World.frozen? w23 a25 = false ∧
 ∀ w26 : World, w26 = World.setCell w23 a25 (.int .i64 x17) →
 R (.returned (.tuple #[])) u' w26))
 else
 (R (.returned (.tuple #[])) u' w))
theorem e78 (x0 : Option Addr) (x1 : Option Addr) (x2 : Option Addr) (x : Value) (u' : FrameMode) (w : World) (R : Ending → FrameMode → World → Prop) : denOps Tryd.prog (panQ (endD r78 R u')) s78.xs (put (some s78.d) x (argsEnv 0 [(.pointer x0), (.pointer x1), (.pointer x2)])) w (fun e' w' => keepK e' s78.ks fun e'' => denS Tryd.prog s78.s e'' w' (endD r78 R u')) = d78 x0 x1 x2 x u' w R := by kernel_rfl
theorem c78 (x0 : Option Addr) (x1 : Option Addr) (x2 : Option Addr) {m : Nat} {u : FrameMode} {w : World} {R : Ending → FrameMode → World → Prop} (h : d78 x0 x1 x2 (recQ u).1 (recQ u).2 w R) : CallsDIn (Fr none) m Tryd.prog 78 #[(.pointer x0), (.pointer x1), (.pointer x2)] u w R :=
  callsD_of_den (pn := [79, 80, 95, 97]) (fn := Tryd.f78) (c := Tryd.f78.body.getD .skip) (args := [(.pointer x0), (.pointer x1), (.pointer x2)]) Tryd.func78 (by kernel_rfl) (by rw [Tryd.ntmps78]; simp) (by rw [Tryd.ntmps78]; exact tr78) (by kernel_rfl) ((e78 x0 x1 x2 (recQ u).1 (recQ u).2 w R).symm ▸ h)

/-- (prelude/batch.reader).upto -/
def s79 : S := (.seq (.ops [⟨(some 2), (.box 144 (.tmp 0)), .ptr, none⟩,
  ⟨(some 4), (.mv (.const (.int .i64 0))), (.int .i64), none⟩] [2, 1])
 (.seq (.ops [⟨(some 7), (.fa 0 (.tmp 2)), .ptr, none⟩,
  ⟨(some 8), (.ld1 (.tmp 7)), .ptr, none⟩,
  ⟨(some 9), (.call 81 [(.tmp 8)] [(.int .i64)]), (.int .i64), none⟩,
  ⟨(some 5), (.mv (.tmp 9)), (.int .i64), none⟩] [2, 1, 5])
 (.seq (.ops [⟨(some 10), (.fa 0 (.tmp 2)), .ptr, none⟩,
  ⟨(some 11), (.ld1 (.tmp 10)), .ptr, none⟩,
  ⟨(some 12), (.mv (.tmp 1)), (.int .i64), none⟩,
  ⟨(some 13), (.cv .u64 (.tmp 12)), (.int .u64), none⟩,
  ⟨(some 14), (.call 49 [(.tmp 11), (.tmp 13)] [(.int .u64)]), (.int .u64), none⟩,
  ⟨(some 6), (.mv (.tmp 14)), (.int .u64), none⟩] [2, 5, 6])
 (.seq (.ops [⟨(some 15), (.ldN 1 (.tmp 2)), .agg, none⟩,
  ⟨(some 16), (.mv (.tmp 5)), (.int .i64), none⟩,
  ⟨(some 17), (.callP 95 [(.tmp 15), (.tmp 16)] []), .any, none⟩] [6])
 (.seq (.ops [⟨(some 18), (.mv (.tmp 6)), (.int .u64), none⟩,
  ⟨(some 19), (.cv .i64 (.tmp 18)), (.int .i64), none⟩,
  ⟨(some 4), (.mv (.tmp 19)), (.int .i64), none⟩] [4])
 .ret)))))
def r79 : List Res := [.t 4]
theorem tr79 : trS Tryd.prog [79, 80, 95, 97] 20 (Tryd.f79.body.getD .skip) s79 = some s79 := by kernel_rfl
theorem den79 (args : List Value) (w : World) (R : Ending → World → Prop) (hn : args.length ≤ 20) (h : denS Tryd.prog s79 (argsEnv 0 args) w (endK r79 R)) : Calls Tryd.prog 79 args.toArray w R :=
  calls_of_den (pn := [79, 80, 95, 97]) (fn := Tryd.f79) (c := Tryd.f79.body.getD .skip) Tryd.func79 (by kernel_rfl) (by rw [Tryd.ntmps79]; exact hn) (by rw [Tryd.ntmps79]; exact tr79) (by kernel_rfl) h
def d79 (r0 : Array Value) (most1 : Int) (w : World) (R : Ending → World → Prop) : Prop :=
 ∀ w2 : World, w2 = World.alloc w (.cells r0 144) →
 ∃ x3 : Option Addr, World.cell? w2 (Addr.add ⟨World.heap w |>.size, 0, none⟩ 0) = some (.pointer x3) ∧
 Calls Tryd.prog 81 #[(.pointer x3)] w2 fun e4 w5 => ∃ x6 : Int, e4 = .returned (.int .i64 x6) ∧
 ∃ x7 : Option Addr, World.cell? w5 (Addr.add ⟨World.heap w |>.size, 0, none⟩ 0) = some (.pointer x7) ∧
 Calls Tryd.prog 49 #[(.pointer x7), (.int .u64 (IntKind.wrap .u64 most1))] w5 fun e8 w9 => ∃ x10 : Int, e8 = .returned (.int .u64 x10) ∧
 ∃ cs11 : List Value, List.length cs11 = 1 ∧ Cells w9 ⟨World.heap w |>.size, 0, none⟩ cs11 ∧
 Calls Tryd.prog 95 #[(.agg (List.toArray cs11)), (.int .i64 x6)] w9 fun e12 w13 => orPan e12 (fun ch14 => R (.panicked ch14) w13) (e12 = .returned (.tuple #[]) ∧ R (.returned (.int .i64 (IntKind.wrap .i64 x10))) w13)
theorem e79 (r0 : Array Value) (most1 : Int) (w : World) (R : Ending → World → Prop) : denS Tryd.prog s79 (argsEnv 0 [(.agg r0), (.int .i64 most1)]) w (endK r79 R) = d79 r0 most1 w R := by kernel_rfl
theorem c79 (r0 : Array Value) (most1 : Int) {w : World} {R : Ending → World → Prop} (h : d79 r0 most1 w R) : Calls Tryd.prog 79 #[(.agg r0), (.int .i64 most1)] w R :=
  den79 [(.agg r0), (.int .i64 most1)] w R (by simp) ((e79 r0 most1 w R).symm ▸ h)

/-- (prelude/batch.reader).tx -/
def s80 : S := (.seq (.ops [⟨(some 1), (.box 144 (.tmp 0)), .ptr, none⟩,
  ⟨(some 2), (.alloc 76), .ptr, none⟩] [1, 2])
 (.seq (.ops [⟨(some 6), (.ldN 1 (.tmp 1)), .agg, none⟩,
  ⟨(some 7), (.callP 79 [(.tmp 6), (.const (.int .i64 63))] [(.int .i64)]), (.int .i64), none⟩,
  ⟨(some 8), (.bld 76 (.fields [(0, 1), (1, 1), (2, 1), (3, 1)]) [(0, (.tmp 7))]), .agg, none⟩,
  ⟨(some 3), (.alloc 76), .ptr, none⟩,
  ⟨none, (.stN 4 (.tmp 3) (.tmp 8)), .any, none⟩] [1, 3, 2])
 (.seq (.seq (.ops [⟨(some 9), (.ldN 1 (.tmp 1)), .agg, none⟩,
  ⟨(some 10), (.callP 79 [(.tmp 9), (.const (.int .i64 16))] [(.int .i64)]), (.int .i64), none⟩,
  ⟨(some 11), (.mv (.const (.int .i64 0))), (.int .i64), none⟩] [11, 10, 1, 3, 2])
 (.block 0
 (.loop [(11, (.int .i64))] [1, 2, 3, 10]
 (.seq (.ops [⟨(some 12), (.bin .lss (.tmp 11) (.tmp 10)), .bool, none⟩] [12, 1, 3, 11, 10, 2])
 (.seq (.cond (.tmp 12)
 .skip
 (.exit 0))
 (.seq (.block 1
 (.seq (.ops [⟨(some 13), (.fa 0 (.tmp 1)), .ptr, none⟩,
  ⟨(some 14), (.ld1 (.tmp 13)), .ptr, none⟩,
  ⟨(some 15), (.call 81 [(.tmp 14)] [(.int .i64)]), (.int .i64), none⟩,
  ⟨(some 4), (.mv (.tmp 15)), (.int .i64), none⟩] [1, 4, 3, 11, 10, 2])
 (.seq (.ops [⟨(some 16), (.fa 0 (.tmp 1)), .ptr, none⟩,
  ⟨(some 17), (.ld1 (.tmp 16)), .ptr, none⟩,
  ⟨(some 18), (.call 96 [(.tmp 17)] [(.int .i64)]), (.int .i64), none⟩,
  ⟨(some 5), (.mv (.tmp 18)), (.int .i64), none⟩] [1, 4, 3, 5, 11, 10, 2])
 (.seq (.ops [⟨(some 19), (.ldN 1 (.tmp 1)), .agg, none⟩,
  ⟨(some 20), (.mv (.tmp 4)), (.int .i64), none⟩,
  ⟨(some 21), (.callP 95 [(.tmp 19), (.tmp 20)] []), .any, none⟩] [3, 5, 11, 10, 1, 2])
 (.ops [⟨(some 22), (.fa 1 (.tmp 3)), .ptr, none⟩,
  ⟨(some 23), (.ld1 (.tmp 22)), .sl, none⟩,
  ⟨(some 24), (.mv (.tmp 5)), (.int .i64), none⟩,
  ⟨(some 25), (.bldS 2 1 1 [(0, (.tmp 24))]), .sl, none⟩,
  ⟨(some 26), (.app #[73, 73] 73 (.tmp 23) (.tmp 25)), .sl, none⟩,
  ⟨(some 27), (.fa 1 (.tmp 3)), .ptr, none⟩,
  ⟨none, (.st1 (.tmp 27) (.tmp 26)), .any, none⟩] [11, 10, 1, 3, 2])))))
 (.ops [⟨(some 28), (.bin .add (.tmp 11) (.const (.int .i64 1))), (.int .i64), none⟩,
  ⟨(some 11), (.mv (.tmp 28)), (.int .i64), none⟩] [11, 10, 1, 3, 2])))))))
 (.seq (.ops [⟨(some 29), (.ldN 1 (.tmp 1)), .agg, none⟩,
  ⟨(some 30), (.callP 97 [(.tmp 29), (.const (.int .i64 16))] [.sl]), .sl, none⟩,
  ⟨(some 31), (.fa 2 (.tmp 3)), .ptr, none⟩,
  ⟨none, (.st1 (.tmp 31) (.tmp 30)), .any, none⟩] [1, 3, 2])
 (.seq (.ops [⟨(some 32), (.ldN 1 (.tmp 1)), .agg, none⟩,
  ⟨(some 33), (.callP 97 [(.tmp 32), (.const (.int .i64 16))] [.sl]), .sl, none⟩,
  ⟨(some 34), (.fa 3 (.tmp 3)), .ptr, none⟩,
  ⟨none, (.st1 (.tmp 34) (.tmp 33)), .any, none⟩] [3, 2])
 (.seq (.ops [⟨(some 35), (.ldN 4 (.tmp 3)), .agg, none⟩,
  ⟨none, (.stN 4 (.tmp 2) (.tmp 35)), .any, none⟩] [2])
 .ret))))))
def r80 : List Res := [.cN 2 4]
theorem tr80 : trS Tryd.prog [79, 80, 95, 97] 36 (Tryd.f80.body.getD .skip) s80 = some s80 := by kernel_rfl
theorem den80 (args : List Value) (w : World) (R : Ending → World → Prop) (hn : args.length ≤ 36) (h : denS Tryd.prog s80 (argsEnv 0 args) w (endK r80 R)) : Calls Tryd.prog 80 args.toArray w R :=
  calls_of_den (pn := [79, 80, 95, 97]) (fn := Tryd.f80) (c := Tryd.f80.body.getD .skip) Tryd.func80 (by kernel_rfl) (by rw [Tryd.ntmps80]; exact hn) (by rw [Tryd.ntmps80]; exact tr80) (by kernel_rfl) h
def d80 (r0 : Array Value) (w : World) (R : Ending → World → Prop) : Prop :=
 ∀ w1 : World, w1 = World.alloc w (.cells r0 144) →
 ∀ w2 : World, w2 = World.alloc w1 (.cells (zc Tryd.prog 76).toArray 76) →
 ∃ cs3 : List Value, List.length cs3 = 1 ∧ Cells w2 ⟨World.heap w |>.size, 0, none⟩ cs3 ∧
 Calls Tryd.prog 79 #[(.agg (List.toArray cs3)), (.int .i64 63)] w2 fun e4 w5 => orPan e4 (fun ch54 => R (.panicked ch54) w5) (∃ x6 : Int, e4 = .returned (.int .i64 x6) ∧
 ∃ cs7, fillL (.fields [(0, 1), (1, 1), (2, 1), (3, 1)]) (zc Tryd.prog 76) [(0, (.int .i64 x6))] = some cs7 ∧
 ∀ w8 : World, w8 = World.alloc w5 (.cells (zc Tryd.prog 76).toArray 76) →
 Array.size (List.toArray cs7) = 4 ∧ (∀ u ∈ Array.toList (List.toArray cs7), one u = true) ∧ Room w8 ⟨World.heap w5 |>.size, 0, none⟩ 4 ∧
 ∀ w9 : World, w9 = setCells w8 ⟨World.heap w5 |>.size, 0, none⟩ (Array.toList (List.toArray cs7)) 0 →
 ∃ cs10 : List Value, List.length cs10 = 1 ∧ Cells w9 ⟨World.heap w |>.size, 0, none⟩ cs10 ∧
 Calls Tryd.prog 79 #[(.agg (List.toArray cs10)), (.int .i64 16)] w9 fun e11 w12 => orPan e11 (fun ch53 => R (.panicked ch53) w12) (∃ x13 : Int, e11 = .returned (.int .i64 x13) ∧
 ∃ I14 : Nat → Int → World → Prop,
 (∃ m, I14 m 0 w12) ∧
 (∀ (m15 : Nat) (w16 : World) (x17 : Int), I14 m15 x17 w16 →
 (bif (decide (x17 < x13)) then
 (∃ x18 : Option Addr, World.cell? w16 (Addr.add ⟨World.heap w |>.size, 0, none⟩ 0) = some (.pointer x18) ∧
 Calls Tryd.prog 81 #[(.pointer x18)] w16 fun e19 w20 => ∃ x21 : Int, e19 = .returned (.int .i64 x21) ∧
 ∃ x22 : Option Addr, World.cell? w20 (Addr.add ⟨World.heap w |>.size, 0, none⟩ 0) = some (.pointer x22) ∧
 Calls Tryd.prog 96 #[(.pointer x22)] w20 fun e23 w24 => ∃ x25 : Int, e23 = .returned (.int .i64 x25) ∧
 ∃ cs26 : List Value, List.length cs26 = 1 ∧ Cells w24 ⟨World.heap w |>.size, 0, none⟩ cs26 ∧
 Calls Tryd.prog 95 #[(.agg (List.toArray cs26)), (.int .i64 x21)] w24 fun e27 w28 => orPan e27 (fun ch37 => R (.panicked ch37) w28) (e27 = .returned (.tuple #[]) ∧ ∃ (x29 : Option Addr) (x29n : Nat) (x29c : Nat), World.cell? w28 (Addr.add ⟨World.heap w5 |>.size, 0, none⟩ 1) = some (.slice x29 x29n x29c) ∧
 ∃ cs30, fillL (.elems 1) (zrep (zc Tryd.prog 2) (1 * 1)) [(0, (.int .i64 x25))] = some cs30 ∧
 ∀ w31 : World, w31 = World.alloc w28 (.cells (List.toArray cs30) 2) →
 RunV Tryd.prog (Builtin.append_ #[73, 73] 73 #[(.slice x29 x29n x29c), (.slice (some ⟨World.heap w28 |>.size, 0, none⟩) 1 1)]) w31 fun v32 w33 => ∃ (x34 : Option Addr) (x34n : Nat) (x34c : Nat), v32 = (.slice x34 x34n x34c) ∧
 one (.slice x34 x34n x34c) = true ∧ Option.isSome (World.cell? w33 (Addr.add ⟨World.heap w5 |>.size, 0, none⟩ 1)) = true ∧ World.frozen? w33 (Addr.add ⟨World.heap w5 |>.size, 0, none⟩ 1) = false ∧
 ∀ w35 : World, w35 = World.setCell w33 (Addr.add ⟨World.heap w5 |>.size, 0, none⟩ 1) (.slice x34 x34n x34c) →
 ∃ m36, m36 < m15 ∧ I14 m36 (IntKind.wrap .i64 (x17 + 1)) w35))
 else
 (∃ cs38 : List Value, List.length cs38 = 1 ∧ Cells w16 ⟨World.heap w |>.size, 0, none⟩ cs38 ∧
 Calls Tryd.prog 97 #[(.agg (List.toArray cs38)), (.int .i64 16)] w16 fun e39 w40 => orPan e39 (fun ch52 => R (.panicked ch52) w40) (∃ (x41 : Option Addr) (x41n : Nat) (x41c : Nat), e39 = .returned (.slice x41 x41n x41c) ∧
 one (.slice x41 x41n x41c) = true ∧ Option.isSome (World.cell? w40 (Addr.add ⟨World.heap w5 |>.size, 0, none⟩ 2)) = true ∧ World.frozen? w40 (Addr.add ⟨World.heap w5 |>.size, 0, none⟩ 2) = false ∧
 ∀ w42 : World, w42 = World.setCell w40 (Addr.add ⟨World.heap w5 |>.size, 0, none⟩ 2) (.slice x41 x41n x41c) →
 ∃ cs43 : List Value, List.length cs43 = 1 ∧ Cells w42 ⟨World.heap w |>.size, 0, none⟩ cs43 ∧
 Calls Tryd.prog 97 #[(.agg (List.toArray cs43)), (.int .i64 16)] w42 fun e44 w45 => orPan e44 (fun ch51 => R (.panicked ch51) w45) (∃ (x46 : Option Addr) (x46n : Nat) (x46c : Nat), e44 = .returned (.slice x46 x46n x46c) ∧
 one (.slice x46 x46n x46c) = true ∧ Option.isSome (World.cell? w45 (Addr.add ⟨World.heap w5 |>.size, 0, none⟩ 3)) = true ∧ World.frozen? w45 (Addr.add ⟨World.heap w5 |>.size, 0, none⟩ 3) = false ∧
 ∀ w47 : World, w47 = World.setCell w45 (Addr.add ⟨World.heap w5 |>.size, 0, none⟩ 3) (.slice x46 x46n x46c) →
 ∃ cs48 : List Value, List.length cs48 = 4 ∧ Cells w47 ⟨World.heap w5 |>.size, 0, none⟩ cs48 ∧
 Array.size (List.toArray cs48) = 4 ∧ (∀ u ∈ Array.toList (List.toArray cs48), one u = true) ∧ Room w47 ⟨World.heap w1 |>.size, 0, none⟩ 4 ∧
 ∀ w49 : World, w49 = setCells w47 ⟨World.heap w1 |>.size, 0, none⟩ (Array.toList (List.toArray cs48)) 0 →
 ∃ cs50 : List Value, List.length cs50 = 4 ∧ Cells w49 ⟨World.heap w1 |>.size, 0, none⟩ cs50 ∧
 R (.returned (.agg (List.toArray cs50))) w49)))))))
theorem e80 (r0 : Array Value) (w : World) (R : Ending → World → Prop) : denS Tryd.prog s80 (argsEnv 0 [(.agg r0)]) w (endK r80 R) = d80 r0 w R := by kernel_rfl
theorem c80 (r0 : Array Value) {w : World} {R : Ending → World → Prop} (h : d80 r0 w R) : Calls Tryd.prog 80 #[(.agg r0)] w R :=
  den80 [(.agg r0)] w R (by simp) ((e80 r0 w R).symm ▸ h)

/-- (prelude/batch.reader).held -/
def s95 : S := (.seq (.ops [⟨(some 2), (.box 144 (.tmp 0)), .ptr, none⟩] [2, 1])
 (.seq (.ops [⟨(some 5), (.fa 0 (.tmp 2)), .ptr, none⟩,
  ⟨(some 6), (.ld1 (.tmp 5)), .ptr, none⟩,
  ⟨(some 7), (.call 77 [(.tmp 6)] [(.int .i64)]), (.int .i64), none⟩,
  ⟨(some 4), (.mv (.tmp 7)), (.int .i64), none⟩] [4, 1])
 (.seq (.ops [⟨(some 8), (.mv (.tmp 4)), (.int .i64), none⟩,
  ⟨(some 9), (.bin .neq (.tmp 8) (.const (.int .i64 0))), .bool, none⟩] [9, 1, 4])
 (.cond (.tmp 9)
 (.ops [⟨(some 10), (.mv (.tmp 1)), (.int .i64), none⟩,
  ⟨(some 11), (.mv (.tmp 4)), (.int .i64), none⟩,
  ⟨(some 12), (.bld 141 (.fields [(0, 1), (1, 1)]) [(0, (.tmp 10)), (1, (.tmp 11))]), .agg, none⟩,
  ⟨(some 13), (.mkI 141 (.tmp 12)), .any, none⟩,
  ⟨none, (.pan (.tmp 13)), .any, none⟩] [])
 .skip))))
def r95 : List Res := []
theorem tr95 : trS Tryd.prog [79, 80, 95, 97] 14 (Tryd.f95.body.getD .skip) s95 = some s95 := by kernel_rfl
theorem den95 (args : List Value) (w : World) (R : Ending → World → Prop) (hn : args.length ≤ 14) (h : denS Tryd.prog s95 (argsEnv 0 args) w (endK r95 R)) : Calls Tryd.prog 95 args.toArray w R :=
  calls_of_den (pn := [79, 80, 95, 97]) (fn := Tryd.f95) (c := Tryd.f95.body.getD .skip) Tryd.func95 (by kernel_rfl) (by rw [Tryd.ntmps95]; exact hn) (by rw [Tryd.ntmps95]; exact tr95) (by kernel_rfl) h
def d95 (r0 : Array Value) (at1 : Int) (w : World) (R : Ending → World → Prop) : Prop :=
 ∀ w2 : World, w2 = World.alloc w (.cells r0 144) →
 ∃ x3 : Option Addr, World.cell? w2 (Addr.add ⟨World.heap w |>.size, 0, none⟩ 0) = some (.pointer x3) ∧
 Calls Tryd.prog 77 #[(.pointer x3)] w2 fun e4 w5 => ∃ x6 : Int, e4 = .returned (.int .i64 x6) ∧
 (bif (!decide (x6 = 0)) then
 (∃ cs7, fillL (.fields [(0, 1), (1, 1)]) (zc Tryd.prog 141) [(0, (.int .i64 at1)), (1, (.int .i64 x6))] = some cs7 ∧
 (∃ t u, ((.iface 141 (.agg (List.toArray cs7))) : Value) = .iface t u) ∧ R (.panicked [⟨(.iface 141 (.agg (List.toArray cs7))), false, false⟩]) w5)
 else
 (R (.returned (.tuple #[])) w5))
theorem e95 (r0 : Array Value) (at1 : Int) (w : World) (R : Ending → World → Prop) : denS Tryd.prog s95 (argsEnv 0 [(.agg r0), (.int .i64 at1)]) w (endK r95 R) = d95 r0 at1 w R := by kernel_rfl
theorem c95 (r0 : Array Value) (at1 : Int) {w : World} {R : Ending → World → Prop} (h : d95 r0 at1 w R) : Calls Tryd.prog 95 #[(.agg r0), (.int .i64 at1)] w R :=
  den95 [(.agg r0), (.int .i64 at1)] w R (by simp) ((e95 r0 at1 w R).symm ▸ h)

/-- (prelude/batch.reader).set -/
def s97 : S := (.seq (.ops [⟨(some 2), (.box 144 (.tmp 0)), .ptr, none⟩,
  ⟨(some 4), (.mv (.const (.slice none 0 0))), .sl, none⟩] [2, 1])
 (.seq (.ops [⟨(some 5), (.mv (.const (.slice none 0 0))), .sl, none⟩] [2, 1, 5])
 (.seq (.seq (.ops [⟨(some 10), (.ldN 1 (.tmp 2)), .agg, none⟩,
  ⟨(some 11), (.mv (.tmp 1)), (.int .i64), none⟩,
  ⟨(some 12), (.callP 79 [(.tmp 10), (.tmp 11)] [(.int .i64)]), (.int .i64), none⟩,
  ⟨(some 13), (.mv (.const (.int .i64 0))), (.int .i64), none⟩] [13, 12, 2, 5])
 (.block 0
 (.loop [(5, .sl), (13, (.int .i64))] [2, 12]
 (.seq (.ops [⟨(some 14), (.bin .lss (.tmp 13) (.tmp 12)), .bool, none⟩] [14, 2, 5, 13, 12])
 (.seq (.cond (.tmp 14)
 .skip
 (.exit 0))
 (.seq (.block 1
 (.seq (.ops [⟨(some 15), (.fa 0 (.tmp 2)), .ptr, none⟩,
  ⟨(some 16), (.ld1 (.tmp 15)), .ptr, none⟩,
  ⟨(some 17), (.call 81 [(.tmp 16)] [(.int .i64)]), (.int .i64), none⟩,
  ⟨(some 6), (.mv (.tmp 17)), (.int .i64), none⟩] [2, 6, 5, 13, 12])
 (.seq (.ops [⟨(some 18), (.fa 0 (.tmp 2)), .ptr, none⟩,
  ⟨(some 19), (.ld1 (.tmp 18)), .ptr, none⟩,
  ⟨(some 20), (.call 44 [(.tmp 19), (.const (.int .i64 10))] [.sl]), .sl, none⟩,
  ⟨(some 7), (.mv (.tmp 20)), .sl, none⟩] [2, 6, 7, 5, 13, 12])
 (.seq (.ops [⟨(some 21), (.ldN 1 (.tmp 2)), .agg, none⟩,
  ⟨(some 22), (.mv (.tmp 6)), (.int .i64), none⟩,
  ⟨(some 23), (.callP 95 [(.tmp 21), (.tmp 22)] []), .any, none⟩] [7, 5, 6, 13, 12, 2])
 (.seq (.ops [⟨(some 25), (.mv (.tmp 7)), .sl, none⟩,
  ⟨(some 26), (.call 110 [(.tmp 25)] [.agg, (.int .i64)]), .any, none⟩,
  ⟨(some 24), (.mv (.tmp 26)), .any, none⟩,
  ⟨(some 27), (.ext 0 (.tmp 24)), .agg, none⟩,
  ⟨(some 28), (.ext 1 (.tmp 24)), (.int .i64), none⟩,
  ⟨(some 8), (.alloc 129), .ptr, none⟩,
  ⟨none, (.stN 2 (.tmp 8) (.tmp 27)), .any, none⟩,
  ⟨(some 9), (.mv (.tmp 28)), (.int .i64), none⟩] [5, 8, 6, 13, 12, 2])
 (.join [] [2, 5, 8, 12, 13]
 (.seq (.draw (.take 0 ⟨(some 29), (.mv (.tmp 5)), .sl, none⟩
  (.take 1 ⟨(some 30), (.len (.tmp 29)), (.int .i64), none⟩
  (.take 2 ⟨(some 31), (.bin .gtr (.tmp 30) (.const (.int .i64 0))), .bool, none⟩
  (.take 3 ⟨(some 32), (.mv (.tmp 31)), .bool, none⟩
  (.take 4 ⟨(some 33), (.mv (.tmp 5)), .sl, (some (32, true))⟩
  (.take 5 ⟨(some 34), (.mv (.tmp 5)), .sl, (some (32, true))⟩
  (.take 6 ⟨(some 35), (.len (.tmp 34)), (.int .i64), (some (32, true))⟩
  (.take 7 ⟨(some 36), (.bin .sub (.tmp 35) (.const (.int .i64 1))), (.int .i64), (some (32, true))⟩
  (.take 8 ⟨(some 37), (.ia 2 (.tmp 33) (.tmp 36)), .ptr, (some (32, true))⟩
  (.take 9 ⟨(some 38), (.ldN 2 (.tmp 37)), .agg, (some (32, true))⟩
  (.take 10 ⟨(some 39), (.ldN 2 (.tmp 8)), .agg, (some (32, true))⟩
  (.go 11 ⟨(some 40), (.call 104 [(.tmp 38), (.tmp 39)] [(.int .i64)]), (.int .i64), (some (32, true))⟩ []
  (.take 12 ⟨(some 41), (.bin .geq (.tmp 40) (.const (.int .i64 0))), .bool, (some (32, true))⟩
  (.take 13 ⟨(some 42), (.pick (.tmp 32) (.tmp 41) (.const (.bool false))), .bool, none⟩
  .done)))))))))))))) [42, 6, 5, 8, 13, 12, 2])
 (.cond (.tmp 42)
 (.ops [⟨(some 43), (.mv (.tmp 6)), (.int .i64), none⟩,
  ⟨(some 44), (.bld 141 (.fields [(0, 1), (1, 1)]) [(0, (.tmp 43)), (1, (.const (.int .i64 65)))]), .agg, none⟩,
  ⟨(some 45), (.mkI 141 (.tmp 44)), .any, none⟩,
  ⟨none, (.pan (.tmp 45)), .any, none⟩] [5, 8, 13, 12, 2])
 .skip))
 (.ops [⟨(some 46), (.mv (.tmp 5)), .sl, none⟩,
  ⟨(some 47), (.ldN 2 (.tmp 8)), .agg, none⟩,
  ⟨(some 48), (.bldS 129 1 2 [(0, (.tmp 47))]), .sl, none⟩,
  ⟨(some 49), (.app #[74, 74] 74 (.tmp 46) (.tmp 48)), .sl, none⟩,
  ⟨(some 5), (.mv (.tmp 49)), .sl, none⟩] [13, 12, 2, 5])))))))
 (.ops [⟨(some 50), (.bin .add (.tmp 13) (.const (.int .i64 1))), (.int .i64), none⟩,
  ⟨(some 13), (.mv (.tmp 50)), (.int .i64), none⟩] [13, 12, 2, 5])))))))
 (.seq (.ops [⟨(some 51), (.mv (.tmp 5)), .sl, none⟩,
  ⟨(some 4), (.mv (.tmp 51)), .sl, none⟩] [4])
 .ret))))
def r97 : List Res := [.t 4]
theorem tr97 : trS Tryd.prog [79, 80, 95, 97] 52 (Tryd.f97.body.getD .skip) s97 = some s97 := by kernel_rfl
theorem den97 (args : List Value) (w : World) (R : Ending → World → Prop) (hn : args.length ≤ 52) (h : denS Tryd.prog s97 (argsEnv 0 args) w (endK r97 R)) : Calls Tryd.prog 97 args.toArray w R :=
  calls_of_den (pn := [79, 80, 95, 97]) (fn := Tryd.f97) (c := Tryd.f97.body.getD .skip) Tryd.func97 (by kernel_rfl) (by rw [Tryd.ntmps97]; exact hn) (by rw [Tryd.ntmps97]; exact tr97) (by kernel_rfl) h
def d97 (r0 : Array Value) (most1 : Int) (w : World) (R : Ending → World → Prop) : Prop :=
 ∀ w2 : World, w2 = World.alloc w (.cells r0 144) →
 ∃ cs3 : List Value, List.length cs3 = 1 ∧ Cells w2 ⟨World.heap w |>.size, 0, none⟩ cs3 ∧
 Calls Tryd.prog 79 #[(.agg (List.toArray cs3)), (.int .i64 most1)] w2 fun e4 w5 => orPan e4 (fun ch49 => R (.panicked ch49) w5) (∃ x6 : Int, e4 = .returned (.int .i64 x6) ∧
 ∃ I7 : Nat → Option Addr → Nat → Nat → Int → World → Prop,
 (∃ m, I7 m none 0 0 0 w5) ∧
 (∀ (m8 : Nat) (w9 : World) (l10 : Option Addr) (l10n : Nat) (l10c : Nat) (x11 : Int), I7 m8 l10 l10n l10c x11 w9 →
 (bif (decide (x11 < x6)) then
 (∃ x12 : Option Addr, World.cell? w9 (Addr.add ⟨World.heap w |>.size, 0, none⟩ 0) = some (.pointer x12) ∧
 Calls Tryd.prog 81 #[(.pointer x12)] w9 fun e13 w14 => ∃ x15 : Int, e13 = .returned (.int .i64 x15) ∧
 ∃ x16 : Option Addr, World.cell? w14 (Addr.add ⟨World.heap w |>.size, 0, none⟩ 0) = some (.pointer x16) ∧
 Calls Tryd.prog 44 #[(.pointer x16), (.int .i64 10)] w14 fun e17 w18 => ∃ (x19 : Option Addr) (x19n : Nat) (x19c : Nat), e17 = .returned (.slice x19 x19n x19c) ∧
 ∃ cs20 : List Value, List.length cs20 = 1 ∧ Cells w18 ⟨World.heap w |>.size, 0, none⟩ cs20 ∧
 Calls Tryd.prog 95 #[(.agg (List.toArray cs20)), (.int .i64 x15)] w18 fun e21 w22 => orPan e21 (fun ch48 => R (.panicked ch48) w22) (e21 = .returned (.tuple #[]) ∧ Calls Tryd.prog 110 #[(.slice x19 x19n x19c)] w22 fun e23 w24 => ∃ x25 : Array Value, ∃ x26 : Int, e23 = .returned (.tuple #[(.agg x25), (.int .i64 x26)]) ∧
 ∃ x27 : Array Value, (#[(.agg x25), (.int .i64 x26)] : Array Value)[0]? = some (.agg x27) ∧
 ∃ x28 : Int, (#[(.agg x25), (.int .i64 x26)] : Array Value)[1]? = some (.int .i64 x28) ∧
 ∀ w29 : World, w29 = World.alloc w24 (.cells (zc Tryd.prog 129).toArray 129) →
 Array.size x27 = 2 ∧ (∀ u ∈ Array.toList x27, one u = true) ∧ Room w29 ⟨World.heap w24 |>.size, 0, none⟩ 2 ∧
 ∀ w30 : World, w30 = setCells w29 ⟨World.heap w24 |>.size, 0, none⟩ (Array.toList x27) 0 →
 ∃ J31 : World → Prop,
 (∀ w32 : World, w32 = World.drew w30 →
 (bif (decide (0 < ((l10n : Nat) : Int))) then
 (0 ≤ (IntKind.wrap .i64 (((l10n : Nat) : Int) - 1)) ∧ (IntKind.wrap .i64 (((l10n : Nat) : Int) - 1)) < ((l10n : Nat) : Int) ∧ optK l10 fun a33 =>
 ∃ cs34 : List Value, List.length cs34 = 2 ∧ Cells w32 (Addr.add a33 (Int.toNat (IntKind.wrap .i64 (((l10n : Nat) : Int) - 1)) * 2)) cs34 ∧
 ∃ cs35 : List Value, List.length cs35 = 2 ∧ Cells w32 ⟨World.heap w24 |>.size, 0, none⟩ cs35 ∧
 Calls Tryd.prog 104 #[(.agg (List.toArray cs34)), (.agg (List.toArray cs35))] w32 fun e36 w37 => ∃ x38 : Int, e36 = .returned (.int .i64 x38) ∧
 (bif (decide (0 ≤ x38)) then
 (∃ cs39, fillL (.fields [(0, 1), (1, 1)]) (zc Tryd.prog 141) [(0, (.int .i64 x15)), (1, (.int .i64 65))] = some cs39 ∧
 (∃ t u, ((.iface 141 (.agg (List.toArray cs39))) : Value) = .iface t u) ∧ R (.panicked [⟨(.iface 141 (.agg (List.toArray cs39))), false, false⟩]) w37)
 else
 (J31  w37)))
 else
 (J31  w32))) ∧
 (∀ (w40 : World), J31  w40 →
 ∃ cs41 : List Value, List.length cs41 = 2 ∧ Cells w40 ⟨World.heap w24 |>.size, 0, none⟩ cs41 ∧
 ∃ cs42, fillL (.elems 2) (zrep (zc Tryd.prog 129) (1 * 2)) [(0, (.agg (List.toArray cs41)))] = some cs42 ∧
 ∀ w43 : World, w43 = World.alloc w40 (.cells (List.toArray cs42) 129) →
 RunV Tryd.prog (Builtin.append_ #[74, 74] 74 #[(.slice l10 l10n l10c), (.slice (some ⟨World.heap w40 |>.size, 0, none⟩) 1 1)]) w43 fun v44 w45 => ∃ (x46 : Option Addr) (x46n : Nat) (x46c : Nat), v44 = (.slice x46 x46n x46c) ∧
 ∃ m47, m47 < m8 ∧ I7 m47 x46 x46n x46c (IntKind.wrap .i64 (x11 + 1)) w45)))
 else
 (R (.returned (.slice l10 l10n l10c)) w9))))
theorem e97 (r0 : Array Value) (most1 : Int) (w : World) (R : Ending → World → Prop) : denS Tryd.prog s97 (argsEnv 0 [(.agg r0), (.int .i64 most1)]) w (endK r97 R) = d97 r0 most1 w R := by kernel_rfl
theorem c97 (r0 : Array Value) (most1 : Int) {w : World} {R : Ending → World → Prop} (h : d97 r0 most1 w R) : Calls Tryd.prog 97 #[(.agg r0), (.int .i64 most1)] w R :=
  den97 [(.agg r0), (.int .i64 most1)] w R (by simp) ((e97 r0 most1 w R).symm ▸ h)

end Go.Proofs.YtjchneebdlncfaaDoor.Fn
namespace Go.Proofs.YtjchneebdlncfaaDoor.Lib
open Go Den Fn
open Go.RowKit (Below)
open Classical
set_option maxRecDepth 8000
set_option maxHeartbeats 2000000
theorem atR_c (w : World) (b n c p : Nat) (a : Option Addr) (bs : List Int) (e : Int) (h : Rd w b a n c bs p e) : Calls Tryd.prog 81 #[.pointer (some ⟨b, 0, none⟩)] w fun en w' => en = .returned (.int .i64 p) ∧ w' = w := by
  refine c81 _ ?_
  unfold d81
  exact h.at ⟨rfl, rfl⟩
theorem errR_c (w : World) (b n c p : Nat) (a : Option Addr) (bs : List Int) (e : Int) (h : Rd w b a n c bs p e) : Calls Tryd.prog 77 #[.pointer (some ⟨b, 0, none⟩)] w fun en w' => en = .returned (.int .i64 e) ∧ w' = w := by
  refine c77 _ ?_
  unfold d77
  exact h.err ⟨rfl, rfl⟩
theorem leftR_c (w : World) (b n c p : Nat) (a : Option Addr) (bs : List Int) (e : Int) (h : Rd w b a n c bs p e) : Calls Tryd.prog 45 #[.pointer (some ⟨b, 0, none⟩)] w fun en w' => en = .returned (.int .i64 ((n : Int) - p)) ∧ Tch [] w w' := by
  refine c45 _ ?_
  unfold d45
  rintro w1 rfl
  have td := (Tch.refl [] w).drew
  have hd := h.quiet td
  refine hd.slice ?_
  refine hd.at ?_
  have := h.le
  have := h.N
  rw [wrap_i64 (by omega) (by omega)]
  exact ⟨rfl, td⟩
theorem zcBroken : zc Tryd.prog 141 = [.int .i64 0, .int .i64 0] := by kernel_rfl
theorem zcKey' : zc Tryd.prog 129 = kC (0, 0) := by kernel_rfl
/-- What a reading gives up with. -/
abbrev brk (p : Nat) (e : Int) : List PanicEntry := [⟨.iface 141 (.agg #[.int .i64 (p : Int), .int .i64 e]), false, false⟩]
abbrev rdA (b : Nat) : Value := .agg #[.pointer (some ⟨b, 0, none⟩)]
theorem held_c (w : World) (b n c p : Nat) (a : Option Addr) (bs : List Int) (e : Int) (at' : Nat) (h : Rd w b a n c bs p e) :
    Calls Tryd.prog 95 #[rdA b, .int .i64 at'] w fun en w' => en = (if e ≠ 0 then .panicked (brk at' e) else .returned (.tuple #[])) ∧ Tch [] w w' := by
  refine c95 _ _ ?_
  unfold d95
  rintro w2 rfl
  have hB : Blk _ _ [Value.pointer (some ⟨b, 0, none⟩)] := Blk.fresh w (cs := [Value.pointer (some ⟨b, 0, none⟩)]) 144 rfl
  have t := (Tch.refl [] w).alloc (.cells #[Value.pointer (some ⟨b, 0, none⟩)] 144)
  refine ⟨_, by rw [add_mk]; exact hB.cell 0, ?_⟩
  refine (errR_c _ b n c p a bs e (h.quiet t)).mono ?_
  rintro en w5 ⟨rfl, hw⟩
  rw [hw]
  refine ⟨_, rfl, ?_⟩
  by_cases he : e = 0
  · rw [bif_npos he, if_neg (by simpa using he)]
    exact ⟨rfl, t⟩
  · rw [bif_nneg he, if_pos he]
    exact ⟨[.int .i64 at', .int .i64 e], by rw [zcBroken]; rfl, ⟨_, _, rfl⟩, rfl, t⟩
/-- What a number's reading comes to: it, or a giving up. -/
def UpO (w : World) (b n c p : Nat) (a : Option Addr) (bs : List Int) (most : Nat) (en : Ending) (w' : World) : Prop := (if (rUpto bs most p 0).2.2 ≠ 0 then en = .panicked (brk p (rUpto bs most p 0).2.2) else en = .returned (.int .i64 (rUpto bs most p 0).1)) ∧ RdR w w' b a n c bs (rUpto bs most p 0).2
theorem bupto_c (w : World) (b n c p : Nat) (a : Option Addr) (bs : List Int) (most : Nat) (hm : most < 9223372036854775808) (h : Rd w b a n c bs p 0) :
    Calls Tryd.prog 79 #[rdA b, .int .i64 most] w (UpO w b n c p a bs most) := by
  refine c79 _ _ ?_
  unfold d79
  rintro w2 rfl
  have hB : Blk _ _ [Value.pointer (some ⟨b, 0, none⟩)] := Blk.fresh w (cs := [Value.pointer (some ⟨b, 0, none⟩)]) 144 rfl
  have t := (Tch.refl [] w).alloc (.cells #[Value.pointer (some ⟨b, 0, none⟩)] 144)
  have hbl := h.blk.lt
  generalize hw2 : w.alloc (.cells #[Value.pointer (some ⟨b, 0, none⟩)] 144) = w2 at *
  generalize hrb : w.heap.size = rb at *
  refine ⟨_, by rw [add_mk]; exact hB.cell 0, ?_⟩
  refine (atR_c _ b n c p a bs 0 (h.quiet t)).mono ?_
  rintro en w5 ⟨rfl, rfl⟩
  refine ⟨_, rfl, _, by rw [add_mk]; exact hB.cell 0, ?_⟩
  rw [wrap_u64 (by omega) (by omega)]
  refine (upto_c w5 b n c p a bs 0 most (h.quiet t)).mono ?_
  rintro en w9 ⟨rfl, hR⟩
  have hB9 := hB.tch hR.2 (by simp; omega)
  refine ⟨_, rfl, get_all hB9 rfl ?_⟩
  refine (held_c w9 b n c _ a bs _ p hR.1).mono ?_
  rintro en w13 ⟨rfl, t13⟩
  have fin := (RdR.pre t hR).post t13
  have hu := (rUpto_le (most := most) (e := 0) h.B (by rw [h.len]; exact h.le)).2.2
  by_cases he : (rUpto bs most p 0).2.2 = 0
  · rw [if_neg (by simpa using he)]
    refine ⟨rfl, ?_, fin⟩
    rw [if_neg (by simpa using he), wrap_i64 (by omega) (by omega)]
  · rw [if_pos he]
    refine ⟨?_, fin⟩
    rw [if_pos he]
/-- What a list's reading comes to. -/
def SetO (w : World) (b n c : Nat) (a : Option Addr) (bs : List Int) (K : List (Int × Int) × Nat × Int) (en : Ending) (w' : World) : Prop :=
  if K.2.2 ≠ 0 then en = .panicked (brk K.2.1 K.2.2) ∧ Tch [b] w w'
  else RdR w w' b a n c bs K.2 ∧ ∃ la lc, en = .returned (.slice la K.1.length lc) ∧ w'.ownsRow w.heap.size 129 2 (.slice la K.1.length lc) K.1.length (rows kC K.1)
theorem SetO.bad {w : World} {b n c p : Nat} {a : Option Addr} {bs : List Int} {e : Int} {en : Ending} {w' : World} (he : e ≠ 0) (h : en = .panicked (brk p e)) (ht : Tch [b] w w') : SetO w b n c a bs ([], p, e) en w' := by
  unfold SetO
  rw [if_pos he]
  exact ⟨h, ht⟩
theorem kI_kOf {bs : List Int} (hB : Bytes bs) (p : Nat) : kI (kOf bs p) := by
  have hk := kOf_ok hB p
  have := hk.1
  unfold KeyOk at this
  exact ⟨by unfold I64; omega, hk.2⟩
theorem set_c (w : World) (b n c p : Nat) (a : Option Addr) (bs : List Int) (h : Rd w b a n c bs p 0) :
    Calls Tryd.prog 97 #[rdA b, .int .i64 16] w (SetO w b n c a bs (keysS bs p)) := by
  refine c97 _ _ ?_
  unfold d97
  rintro w2 rfl
  have hB : Blk _ _ [Value.pointer (some ⟨b, 0, none⟩)] := Blk.fresh w (cs := [Value.pointer (some ⟨b, 0, none⟩)]) 144 rfl
  have t := (Tch.refl [] w).alloc (.cells #[Value.pointer (some ⟨b, 0, none⟩)] 144)
  have hbl := h.blk.lt
  generalize hw2 : w.alloc (.cells #[Value.pointer (some ⟨b, 0, none⟩)] 144) = w2 at *
  generalize hrb : w.heap.size = rb at *
  have hlen := h.len
  refine get_all hB rfl ?_
  refine (bupto_c w2 b n c p a bs 16 (by omega) (h.quiet t)).mono ?_
  rintro en w5 ⟨hen, hR⟩
  have hle := rUpto_le (most := 16) (e := 0) h.B (by rw [h.len]; exact h.le)
  unfold keysS
  by_cases he : (rUpto bs 16 p 0).2.2 ≠ 0
  · rw [if_pos he] at hen ⊢
    rw [hen]
    exact SetO.bad he rfl (RdR.pre t hR).2
  rw [if_neg he] at hen ⊢
  rw [hen]
  have he0 : (rUpto bs 16 p 0).2.2 = 0 := by simpa using he
  have hst : (rUpto bs 16 p 0).2 = ((rUpto bs 16 p 0).2.1, 0) := Prod.ext rfl he0
  rw [hst] at hR
  generalize (rUpto bs 16 p 0).1 = cnt at *
  generalize (rUpto bs 16 p 0).2.1 = p1 at *
  replace hB := hB.tch hR.2 (by simp; omega)
  replace hR := RdR.pre t hR
  have hs5 := hR.2.size
  clear t hw2
  refine ⟨_, rfl, fun m l ln lc x u => ∃ (q p' : Nat) (acc : List (Int × Int)), x = q ∧ q ≤ cnt ∧ m = cnt - q ∧ ln = acc.length ∧ acc.length = q ∧ (∀ k ∈ acc, kI k) ∧ RdR w u b a n c bs (p', 0) ∧ Blk u rb [Value.pointer (some ⟨b, 0, none⟩)] ∧ u.ownsRow (rb + 1) 129 2 (.slice l ln lc) ln (rows kC acc) ∧ rb + 1 ≤ u.heap.size ∧ kS bs cnt p1 [] = kS bs (cnt - q) p' acc,
    ⟨cnt, 0, p1, [], rfl, by omega, rfl, rfl, rfl, by simp, hR, hB, own_nil _ _ _ _, by have := hB.lt; omega, rfl⟩, ?_⟩
  clear hR hB
  rintro m w9 l ln lc x ⟨q, p', acc, rfl, hq, rfl, rfl, hal, hki, hR, hB, hown, hsz, hk⟩
  rw [hk]
  have hs9 := hR.2.size
  by_cases hlt : q < cnt
  rotate_left
  · rw [bif_neg (by omega)]
    have : cnt - q = 0 := by omega
    rw [this]
    unfold kS SetO
    rw [if_neg (by simp)]
    exact ⟨hR, l, lc, rfl, own_base hown (by omega)⟩
  rw [bif_pos (by omega)]
  obtain ⟨r, hr⟩ : ∃ r, cnt - q = r + 1 := ⟨cnt - q - 1, by omega⟩
  rw [hr] at hk ⊢
  have hp9 := hR.1.le
  refine ⟨_, by rw [add_mk]; exact hB.cell 0, ?_⟩
  refine (atR_c w9 b n c p' a bs 0 hR.1).mono ?_
  rintro en w14 ⟨rfl, hw⟩
  rw [hw]
  clear hw
  refine ⟨_, rfl, _, by rw [add_mk]; exact hB.cell 0, ?_⟩
  refine (rawR_c w9 b n c p' a bs 0 10 hR.1).mono ?_
  rintro en w18 ⟨xa, xc, rfl, hR18, hx⟩
  have hbo : b ∉ rowL l := fun hm => by
    rw [mem_rowL] at hm
    obtain ⟨z, hz, hb⟩ := hm
    have := (own_ge hown z hz).1
    omega
  have hown18 : w18.ownsRow (rb + 1) 129 2 (.slice l acc.length lc) acc.length (rows kC acc) := own_up hown hR18.2 (fun z hz hm => by
    simp only [List.mem_singleton] at hm
    have := (own_lt hown hz).1
    omega)
  have hB18 := hB.tch hR18.2 (by simp; omega)
  refine ⟨_, _, _, rfl, get_all hB18 rfl ?_⟩
  have hRw := hR.trans hR18
  refine (held_c w18 b n c _ a bs _ p' hR18.1).mono ?_
  rintro en w22 ⟨rfl, t22⟩
  replace hRw := hRw.post t22
  by_cases he : (rRaw bs 10 p' 0).2.2 ≠ 0
  · rw [if_pos he]
    have : kS bs (r + 1) p' acc = ([], p', (rRaw bs 10 p' 0).2.2) := by unfold kS; rw [if_pos he]
    rw [this]
    exact SetO.bad he rfl hRw.2
  rw [if_neg he]
  refine ⟨rfl, ?_⟩
  have hraw : p' + 10 ≤ bs.length ∧ rRaw bs 10 p' 0 = ((bs.drop p').take 10, p' + 10, 0) := by
    rcases raw10 bs p' with g | g
    · exact g
    · exact absurd g.2.2.2 he
  rw [hraw.2] at hx hRw
  rw [show (rRaw bs 10 p' 0).1 = (bs.drop p').take 10 by rw [hraw.2]]
  have hx22 := own_rsl (own_up hx t22 (fun _ _ h => by cases h)) ones_ints
  refine (fromBytes_c w22 ((bs.drop p').take 10) xa _ xc hx22 ((h.B.drop p').take 10)).mono ?_
  rintro en w24 ⟨rfl, t24⟩
  refine ⟨_, _, rfl, _, rfl, _, rfl, ?_⟩
  replace hRw := hRw.post t24
  have t2224 := t22.trans t24 (by simp)
  have hown24 := own_up hown18 t2224 (fun _ _ h => by cases h)
  have hB24 := hB18.tch t2224 (by simp)
  show ∀ w29 : World, w29 = World.alloc w24 _ → Array.size (List.toArray (kC (kOf bs p'))) = 2 ∧ _
  refine var_init (n := 2) (by rw [zcKey']; rfl) rfl kC_one fun w29 w30 kk t30 s30 => ?_
  have hkI := kI_kOf h.B p'
  replace hRw := hRw.post t30
  have hown30 := own_up hown24 t30 (fun _ _ h => by cases h)
  have hB30 := hB24.tch t30 (by simp)
  generalize w24.heap.size = kb at *
  have hkS : kS bs (r + 1) p' acc = if clash acc (kOf bs p') then ([], p', 65) else kS bs r (p' + 10) (acc ++ [kOf bs p']) := by
    conv => lhs; unfold kS
    rw [if_neg he]
  refine ⟨fun u => Tch [] w30 u ∧ ¬ clash acc (kOf bs p'), ?_, ?_⟩
  · rintro w32 rfl
    have td := (Tch.refl [] w30).drew
    by_cases h0 : 0 < acc.length
    rotate_left
    · rw [bif_neg (by omega)]
      refine ⟨td, ?_⟩
      rintro ⟨l, hl, _⟩
      have : acc = [] := List.length_eq_zero_iff.1 (by omega)
      rw [this] at hl
      cases hl
    rw [bif_pos (by omega), wrap_i64 (by omega) (by omega)]
    refine ⟨by omega, by omega, ?_⟩
    have hlast : acc[acc.length - 1]? = some (acc[acc.length - 1]'(by omega)) := List.getElem?_eq_getElem (by omega)
    have hgl : acc.getLast? = some (acc[acc.length - 1]'(by omega)) := by rw [List.getLast?_eq_getElem?]; exact hlast
    generalize acc[acc.length - 1]'(by omega) = y at hlast hgl
    rw [show ((acc.length : Int) - 1).toNat = acc.length - 1 by omega]
    refine (own_rsl (own_up hown30 td (fun _ _ h => by cases h)) kCs_one).elem kC_len (by omega) hlast ?_
    refine get_all (kk.tch td (by simp)) rfl ?_
    refine (compare_c y (kOf bs p') _ (hki y (List.mem_of_getElem? hlast)) hkI).mono ?_
    rintro en w37 ⟨rfl, t37⟩
    refine ⟨_, rfl, ?_⟩
    have q37 := td.trans t37 (by simp)
    by_cases hc : 0 ≤ cmpK y (kOf bs p')
    · rw [bif_pos hc]
      refine ⟨[.int .i64 p', .int .i64 65], by rw [zcBroken]; rfl, ⟨_, _, rfl⟩, ?_⟩
      rw [hkS, if_pos ⟨y, hgl, hc⟩]
      exact SetO.bad (by simp) rfl (hRw.post q37).2
    · rw [bif_neg hc]
      refine ⟨q37, ?_⟩
      rintro ⟨z, hz, hzc⟩
      rw [hgl] at hz
      cases hz
      exact hc hzc
  rintro w40 ⟨t40, hnc⟩
  rw [hkS, if_neg hnc] at hk
  refine get_all (kk.tch t40 (by simp)) rfl ?_
  have hown40 := own_up hown30 t40 (fun _ _ h => by cases h)
  replace hRw := hRw.post t40
  have hs40 := hRw.2.size
  have hs9' := (hR18.2.trans (((t2224.trans t30 (by simp)).trans t40 (by simp)).weaken (by simp)) (fun i hi => .inl hi)).size
  refine app_elem_at kT hown40 (by rw [zcKey']; rfl) (ys := kC (kOf bs p')) rfl rfl kC_one (by omega) (by omega) (by omega) fun a5 c5 w45 o5 t5 m5 => ?_
  have hge := own_ge hown40
  have q45 : Tch [b] w w45 := hRw.2.trans t5 fun k hk => .inr (by
    rw [mem_rowL] at hk
    obtain ⟨z, hz, rfl⟩ := hk
    have := (hge z hz).1
    omega)
  refine ⟨r, by omega, q + 1, p' + 10, acc ++ [kOf bs p'], by rw [wrap_i64 (by omega) (by omega)]; omega, by omega, by omega, by simp, by simp [hal], fun k hm => ?_, ⟨?_, q45⟩, ?_, ?_, by have := t5.size; omega, ?_⟩
  · rcases List.mem_append.1 hm with hm | hm
    · exact hki k hm
    · rw [List.mem_singleton.1 hm]; exact hkI
  · refine hRw.1.tch t5 ?_ ?_
    · intro hm
      rw [mem_rowL] at hm
      obtain ⟨z, hz, hb⟩ := hm
      have := (hge z hz).1
      omega
    · have hlow := h.row.low (by omega)
      rcases hlow with hl0 | hl0
      · exact .inl hl0
      · refine .inr fun z hz hm => ?_
        rw [mem_rowL] at hm
        obtain ⟨y, hy, hyb⟩ := hm
        have := (hge y hy).1
        have := hl0 z hz
        omega
  · exact (hB30.tch t40 (by simp)).tch t5 (fun hm => by
      rw [mem_rowL] at hm
      obtain ⟨z, hz, hb⟩ := hm
      have := (hge z hz).1
      omega)
  · rw [rows_append, show rows kC [kOf bs p'] = kC (kOf bs p') by simp [rows]]
    exact o5
  · rw [hkS, if_neg hnc, show cnt - (q + 1) = r by omega]
end Go.Proofs.YtjchneebdlncfaaDoor.Lib
namespace Go.Proofs.YtjchneebdlncfaaDoor.Lib
open Go Den Fn
open Go.RowKit (Below)
open Classical
set_option maxRecDepth 8000
set_option maxHeartbeats 4000000
theorem zcTx' : zc Tryd.prog 76 = [.int .i64 0, .slice none 0 0, .slice none 0 0, .slice none 0 0] := by kernel_rfl
theorem i64T : slT Tryd.prog 73 2 1 8 = true := by kernel_rfl
theorem zcI64' : zc Tryd.prog 2 = [.int .i64 0] := by kernel_rfl
/-- Writes into later blocks leave a reader alone. -/
theorem RdR.far {w0 w u u' : World} {b n c p0 : Nat} {e0 : Int} {a : Option Addr} {bs : List Int} {st : Nat × Int} {s : List Nat} (h0 : Rd w0 b a n c bs p0 e0) (hw : w0.heap.size ≤ w.heap.size) (h : RdR w u b a n c bs st) (ht : Tch s u u') (hs : ∀ k ∈ s, w.heap.size ≤ k) : RdR w u' b a n c bs st := by
  have hbl := h0.blk.lt
  refine ⟨h.1.tch ht (fun hm => by have := hs b hm; omega) ?_, h.2.trans ht fun k hk => .inr (hs k hk)⟩
  rcases h0.row.low (by omega) with hl0 | hl0
  · exact .inl hl0
  · refine .inr fun z hz hm => ?_
    have := hs _ hm
    have := hl0 z hz
    omega
theorem put_cell' {w : World} {b : Nat} {cs : List Value} (h : Blk w b cs) (o : Nat) (ho : o < cs.length) {v : Value} (h1 : one v = true) {K : World → Prop}
    (hK : ∀ w', Blk w' b (cs.set o v) → Tch [b] w w' → w'.heap.size = w.heap.size → K w') :
    one v = true ∧ Option.isSome (World.cell? w (Addr.add ⟨b, 0, none⟩ o)) = true ∧ World.frozen? w (Addr.add ⟨b, 0, none⟩ o) = false ∧ ∀ w' : World, w' = World.setCell w (Addr.add ⟨b, 0, none⟩ o) v → K w' := by
  rw [add_mk, Nat.zero_add]
  refine ⟨h1, by rw [h.cell, List.getElem?_eq_getElem ho]; rfl, h.frozen _, ?_⟩
  rintro w' rfl
  exact hK _ (h.set o v) ((Tch.refl [b] w).setCell (p := ⟨b, o, none⟩) (.inl (by simp)) v) (World.size_setCell _ _ _)
def TxO (w : World) (b n c : Nat) (a : Option Addr) (bs : List Int) (T : Tx × Nat × Int) (en : Ending) (w' : World) : Prop :=
  if T.2.2 ≠ 0 then en = .panicked (brk T.2.1 T.2.2) ∧ Tch [b] w w'
  else RdR w w' b a n c bs T.2 ∧ ∃ v : List Value, en = .returned (.agg v.toArray) ∧ TxV (fun k => w.heap.size ≤ k ∧ k < w'.heap.size) w' v T.1
theorem TxO.bad {w : World} {b n c : Nat} {a : Option Addr} {bs : List Int} {T : Tx × Nat × Int} {st : Nat × Int} {en : Ending} {w' : World} (hT : T = (.zero, st)) (he : st.2 ≠ 0) (h : en = .panicked (brk st.1 st.2)) (ht : Tch [b] w w') : TxO w b n c a bs T en w' := by
  unfold TxO
  rw [hT, if_pos he]
  exact ⟨h, ht⟩
theorem tx_c (w : World) (b n c p : Nat) (a : Option Addr) (bs : List Int) (h : Rd w b a n c bs p 0) :
    Calls Tryd.prog 80 #[rdA b] w (TxO w b n c a bs (txS bs p)) := by
  refine c80 _ ?_
  unfold d80
  rintro w1 rfl w2 rfl
  have hB : Blk _ _ [Value.pointer (some ⟨b, 0, none⟩)] := Blk.fresh w (cs := [Value.pointer (some ⟨b, 0, none⟩)]) 144 rfl
  have t1 := (Tch.refl [] w).alloc (.cells #[Value.pointer (some ⟨b, 0, none⟩)] 144)
  have s1 := size_alloc w (.cells #[Value.pointer (some ⟨b, 0, none⟩)] 144)
  have hbl := h.blk.lt
  generalize hw1 : w.alloc (.cells #[Value.pointer (some ⟨b, 0, none⟩)] 144) = w1 at *
  have hZ : Blk _ _ [.int .i64 0, .slice none 0 0, .slice none 0 0, .slice none 0 0] := Blk.fresh w1 (cs := zc Tryd.prog 76) 76 zcTx'
  have t2 := (Tch.refl [] w1).alloc (.cells (zc Tryd.prog 76).toArray 76)
  have s2 := size_alloc w1 (.cells (zc Tryd.prog 76).toArray 76)
  generalize w1.alloc (.cells (zc Tryd.prog 76).toArray 76) = w2 at *
  replace hB := hB.tch t2 (by simp)
  have t := t1.trans t2 (by simp)
  obtain ⟨rb, hrb⟩ : ∃ rb, w.heap.size = rb := ⟨_, rfl⟩
  obtain ⟨zb, hzb⟩ : ∃ zb, w1.heap.size = zb := ⟨_, rfl⟩
  rw [hrb] at hB hbl s1
  rw [hzb] at hZ s2 s1
  rw [hrb, hzb]
  clear hw1 t1 t2
  refine get_all hB rfl ?_
  refine (bupto_c w2 b n c p a bs 63 (by omega) (h.quiet t)).mono ?_
  rintro en w5 ⟨hen, hR⟩
  have hle := rUpto_le (most := 63) (e := 0) h.B (by rw [h.len]; exact h.le)
  unfold txS tx1
  generalize hu : rUpto bs 63 p 0 = u1 at *
  by_cases he : u1.2.2 ≠ 0
  · rw [if_pos he] at hen ⊢
    rw [hen]
    refine TxO.bad (st := u1.2) rfl he ?_ (RdR.pre t hR).2
    have : u1.2.1 = p := by rw [← hu] at he ⊢; exact (rUpto_err he).2
    rw [this]
  rw [if_neg he] at hen ⊢
  rw [hen]
  have he0 : u1.2.2 = 0 := by simpa using he
  rw [show u1.2 = (u1.2.1, 0) from Prod.ext rfl he0] at hR
  have hB5 := hB.tch hR.2 (by simp; omega)
  have hZ5 := hZ.tch hR.2 (by simp; omega)
  replace hR := RdR.pre t hR
  have hsz5 := hZ5.lt
  clear t hB hZ hen he he0
  refine ⟨_, rfl, [.int .i64 (u1.1 : Int), .slice none 0 0, .slice none 0 0, .slice none 0 0], by rw [zcTx']; rfl, ?_⟩
  refine var_init (n := 4) (by rw [zcTx']; rfl) rfl (by simp [one]) fun w8 w9 hX t9 s9 => ?_
  obtain ⟨xb, hxb⟩ : ∃ xb, w5.heap.size = xb := ⟨_, rfl⟩
  rw [hxb] at hX s9 hsz5
  rw [hxb]
  have hB9 := hB5.tch t9 (by simp)
  have hZ9 := hZ5.tch t9 (by simp)
  replace hR := hR.post t9
  clear t9 hB5 hZ5
  refine get_all hB9 rfl ?_
  refine (bupto_c w9 b n c u1.2.1 a bs 16 (by omega) hR.1).mono ?_
  rintro en w12 ⟨hen, hR2⟩
  have hle2 := rUpto_le (most := 16) (e := 0) h.B hle.1
  unfold tx2
  generalize hu2 : rUpto bs 16 u1.2.1 0 = u2 at *
  have hRn := hR.trans hR2
  by_cases he : u2.2.2 ≠ 0
  · rw [if_pos he] at hen ⊢
    rw [hen]
    refine TxO.bad (st := u2.2) rfl he ?_ hRn.2
    have : u2.2.1 = u1.2.1 := by rw [← hu2] at he ⊢; exact (rUpto_err he).2
    rw [this]
  rw [if_neg he] at hen ⊢
  rw [hen]
  have he0 : u2.2.2 = 0 := by simpa using he
  rw [show u2.2 = (u2.2.1, 0) from Prod.ext rfl he0] at hR2 hRn
  have hB12 := hB9.tch hR2.2 (by simp; omega)
  have hZ12 := hZ9.tch hR2.2 (by simp; omega)
  have hX12 := hX.tch hR2.2 (by simp; omega)
  clear hR hR2 hB9 hZ9 hX hen he he0
  have hs12 := hX12.lt
  generalize hp2 : u2.2.1 = p2 at *
  refine ⟨_, rfl, fun m x u => ∃ (q p' : Nat) (acc : List Int) (la : Option Addr) (lc : Nat), x = q ∧ q ≤ u2.1 ∧ m = u2.1 - q ∧ acc.length = q ∧ RdR w u b a n c bs (p', 0) ∧ p' ≤ bs.length ∧ Blk u rb [Value.pointer (some ⟨b, 0, none⟩)] ∧ Blk u zb [.int .i64 0, .slice none 0 0, .slice none 0 0, .slice none 0 0] ∧ Blk u xb [.int .i64 (u1.1 : Int), .slice la q lc, .slice none 0 0, .slice none 0 0] ∧ u.ownsRow (xb + 1) 2 1 (.slice la q lc) q (i64s acc) ∧ aS bs u2.1 p2 [] = aS bs (u2.1 - q) p' acc ∧ (∀ v ∈ acc, I64 v),
    ⟨u2.1, 0, p2, [], none, 0, rfl, by omega, rfl, rfl, hRn, hle2.1, hB12, hZ12, hX12, own_nil _ _ _ _, rfl, by simp⟩, ?_⟩
  clear hRn hB12 hZ12 hX12
  rintro m w16 x ⟨q, p', acc, la, lc, rfl, hq, rfl, hal, hR, hp', hB, hZ, hX, hown, hk, hai⟩
  rw [hk]
  have hX16 := hX.lt
  by_cases hlt : q < u2.1
  · rw [bif_pos (by omega)]
    obtain ⟨r, hr⟩ : ∃ r, u2.1 - q = r + 1 := ⟨u2.1 - q - 1, by omega⟩
    rw [hr] at hk ⊢
    refine ⟨_, by rw [add_mk]; exact hB.cell 0, ?_⟩
    refine (atR_c w16 b n c p' a bs 0 hR.1).mono ?_
    rintro en w20 ⟨rfl, hw⟩
    rw [hw]
    clear hw
    refine ⟨_, rfl, _, by rw [add_mk]; exact hB.cell 0, ?_⟩
    refine (intR_c w16 b n c p' a bs 0 hR.1).mono ?_
    rintro en w24 ⟨rfl, hR24⟩
    have hB24 := hB.tch hR24.2 (by simp; omega)
    have hZ24 := hZ.tch hR24.2 (by simp; omega)
    have hX24 := hX.tch hR24.2 (by simp; omega)
    have hown24 := own_up hown hR24.2 (fun z hz hm => by
      simp only [List.mem_singleton] at hm
      have := (own_lt hown hz).1
      omega)
    refine ⟨_, rfl, get_all hB24 rfl ?_⟩
    have hRw := hR.trans hR24
    refine (held_c w24 b n c _ a bs _ p' hR24.1).mono ?_
    rintro en w28 ⟨rfl, t28⟩
    replace hRw := hRw.post t28
    have haS : aS bs (r + 1) p' acc = if (rInt bs p' 0).2.2 ≠ 0 then ([], p', (rInt bs p' 0).2.2) else aS bs r (rInt bs p' 0).2.1 (acc ++ [(rInt bs p' 0).1]) := rfl
    by_cases he : (rInt bs p' 0).2.2 ≠ 0
    · rw [if_pos he]
      rw [haS, if_pos he]
      refine TxO.bad (st := (p', (rInt bs p' 0).2.2)) ?_ he rfl hRw.2
      unfold tx3
      rw [if_pos he]
    rw [if_neg he]
    have he0 : (rInt bs p' 0).2.2 = 0 := by simpa using he
    rw [show (rInt bs p' 0).2 = ((rInt bs p' 0).2.1, 0) from Prod.ext rfl he0] at hRw
    obtain ⟨hle3, hi3⟩ := rInt_le h.B hp'
    refine ⟨rfl, ?_⟩
    have hB28 := hB24.tch t28 (by simp)
    have hZ28 := hZ24.tch t28 (by simp)
    have hX28 := hX24.tch t28 (by simp)
    have hown28 := own_up hown24 t28 (fun _ _ h => by cases h)
    have hs28 := hX28.lt
    have hRws := hRw.2.size
    refine ⟨_, _, _, by rw [add_mk]; exact hX28.cell 1, ?_⟩
    refine app_elem_at i64T hown28 (by rw [zcI64']; rfl) (ys := [.int .i64 (rInt bs p' 0).1]) rfl rfl (by simp [one]) (by omega) (by omega) (by omega) fun a5 c5 w33 o5 t5 m5 => ?_
    have hge := own_ge hown28
    have far5 : ∀ k ∈ rowL la, xb + 1 ≤ k := fun k hk => by
      rw [mem_rowL] at hk
      obtain ⟨z, hz, rfl⟩ := hk
      exact (hge z hz).1
    have hX33 := hX28.tch t5 (fun hm => by have := far5 _ hm; omega)
    refine put_cell' hX33 1 (by simp) rfl fun w35 hX35 t35 s35 => ?_
    have q35 := t5
    refine ⟨r, by omega, q + 1, (rInt bs p' 0).2.1, acc ++ [(rInt bs p' 0).1], a5, c5, by rw [wrap_i64 (by omega) (by omega)]; omega, by omega, by omega, by simp [hal], ?_, hle3, ?_, ?_, hX35, ?_, ?_, fun v hm => ?_⟩
    · refine (hRw.far h (Nat.le_refl _) t5 fun k hk => by have := far5 k hk; omega).far h (Nat.le_refl _) t35 fun k hk => by simp at hk; omega
    · exact (hB28.tch t5 (fun hm => by have := far5 _ hm; omega)).tch t35 (by simp; omega)
    · exact (hZ28.tch t5 (fun hm => by have := far5 _ hm; omega)).tch t35 (by simp; omega)
    · rw [show i64s (acc ++ [(rInt bs p' 0).1]) = i64s acc ++ [.int .i64 (rInt bs p' 0).1] by simp]
      exact own_up o5 t35 (fun z hz hm => by
        simp only [List.mem_singleton] at hm
        have := (own_lt o5 hz).1
        omega)
    · rw [haS, if_neg he, show u2.1 - (q + 1) = r by omega]
    · rcases List.mem_append.1 hm with hm | hm
      · exact hai v hm
      · rw [List.mem_singleton.1 hm]; exact hi3
  rw [bif_neg (by omega)]
  have hq0 : u2.1 - q = 0 := by omega
  rw [hq0]
  show ∃ cs38 : List Value, _
  unfold aS tx3
  rw [if_neg (by simp)]
  simp only
  clear hk hq0 hlt
  have hRs := hR.2.size
  refine get_all hB rfl ?_
  refine (set_c w16 b n c p' a bs hR.1).mono ?_
  rintro en w40 hS
  unfold tx4
  have hkok := keysS_ok h.B hp'
  generalize hK1 : keysS bs p' = K1 at *
  unfold SetO at hS
  by_cases he : K1.2.2 ≠ 0
  · rw [if_pos he] at hS ⊢
    rw [hS.1]
    exact TxO.bad (st := K1.2) rfl he rfl (hR.2.trans hS.2 fun k hk => .inl hk)
  rw [if_neg he] at hS ⊢
  obtain ⟨hR40, ra, rc, rfl, hor⟩ := hS
  have he0 : K1.2.2 = 0 := by simpa using he
  rw [show K1.2 = (K1.2.1, 0) from Prod.ext rfl he0] at hR40
  refine ⟨_, _, _, rfl, ?_⟩
  have hB40 := hB.tch hR40.2 (by simp; omega)
  have hZ40 := hZ.tch hR40.2 (by simp; omega)
  have hX40 := hX.tch hR40.2 (by simp; omega)
  have hown40 := own_up hown hR40.2 (fun z hz hm => by
    simp only [List.mem_singleton] at hm
    have := (own_lt hown hz).1
    omega)
  have hRw := hR.trans hR40
  refine put_cell' hX40 2 (by simp) rfl fun w42 hX42 t42 s42 => ?_
  have s40 := hR40.2.size
  have hB42 := hB40.tch t42 (by simp; omega)
  have hZ42 := hZ40.tch t42 (by simp; omega)
  have hown42 := own_up hown40 t42 (fun z hz hm => by
    simp only [List.mem_singleton] at hm
    have := (own_lt hown40 hz).1
    omega)
  have hor42 := own_up hor t42 (fun z hz hm => by
    simp only [List.mem_singleton] at hm
    have := (own_lt hor hz).1
    omega)
  have hR42 := hRw.far h (Nat.le_refl _) t42 (fun k hk => by simp at hk; omega)
  clear hRw hR40 hB40 hZ40 hX40 hown40 hor hR hB hZ hX hown
  refine get_all hB42 rfl ?_
  refine (set_c w42 b n c K1.2.1 a bs hR42.1).mono ?_
  rintro en w45 hS
  unfold tx5
  have hkok2 := keysS_ok h.B hkok.1
  generalize hK2 : keysS bs K1.2.1 = K2 at *
  unfold SetO at hS
  by_cases he2 : K2.2.2 ≠ 0
  · rw [if_pos he2] at hS ⊢
    rw [hS.1]
    exact TxO.bad (st := K2.2) rfl he2 rfl (hR42.2.trans hS.2 fun k hk => .inl hk)
  rw [if_neg he2] at hS ⊢
  obtain ⟨hR45, wa, wc, rfl, how⟩ := hS
  have he02 : K2.2.2 = 0 := by simpa using he2
  rw [show K2.2 = (K2.2.1, 0) from Prod.ext rfl he02] at hR45
  refine ⟨_, _, _, rfl, ?_⟩
  have hZ45 := hZ42.tch hR45.2 (by simp; omega)
  have hX45 := hX42.tch hR45.2 (by simp; omega)
  have hown45 := own_up hown42 hR45.2 (fun z hz hm => by
    simp only [List.mem_singleton] at hm
    have := (own_lt hown42 hz).1
    omega)
  have hor45 := own_up hor42 hR45.2 (fun z hz hm => by
    simp only [List.mem_singleton] at hm
    have := (own_lt hor42 hz).1
    omega)
  have hRw := hR42.trans hR45
  have s45 := hR45.2.size
  refine put_cell' hX45 3 (by simp) rfl fun w47 hX47 t47 s47 => ?_
  have hown47 := own_up hown45 t47 (fun z hz hm => by
    simp only [List.mem_singleton] at hm
    have := (own_lt hown45 hz).1
    omega)
  have hor47 := own_up hor45 t47 (fun z hz hm => by
    simp only [List.mem_singleton] at hm
    have := (own_lt hor45 hz).1
    omega)
  have how47 := own_up how t47 (fun z hz hm => by
    simp only [List.mem_singleton] at hm
    have := (own_lt how hz).1
    omega)
  have hZ47 := hZ45.tch t47 (by simp; omega)
  have hR47 := hRw.far h (Nat.le_refl _) t47 (fun k hk => by simp at hk; omega)
  refine get_all hX47 rfl ?_
  refine put_all (n := 4) hZ47 rfl rfl (by simp [one]) fun w49 hZ49 t49 s49 => ?_
  have hown49 := own_up hown47 t49 (fun z hz hm => by
    simp only [List.mem_singleton] at hm
    have := (own_lt hown47 hz).1
    omega)
  have hor49 := own_up hor47 t49 (fun z hz hm => by
    simp only [List.mem_singleton] at hm
    have := (own_lt hor47 hz).1
    omega)
  have how49 := own_up how47 t49 (fun z hz hm => by
    simp only [List.mem_singleton] at hm
    have := (own_lt how47 hz).1
    omega)
  have hR49 := hR47.far h (Nat.le_refl _) t49 (fun k hk => by simp at hk; omega)
  refine get_all hZ49 rfl ?_
  unfold TxO
  rw [if_neg (by simp)]
  have hI : I64 ((u1.1 : Nat) : Int) := by
    have := hle.2.2
    generalize u1.1 = u at this
    unfold I64
    omega
  refine ⟨hR49, _, rfl, la, q, lc, ra, _, rc, wa, _, wc, rfl, (FR.own hown49 (by simp [one])).mono fun k hk => ⟨by omega, hk.2⟩, (FR.own hor49 kCs_one).mono fun k hk => ⟨by omega, hk.2⟩, (FR.own how49 kCs_one).mono fun k hk => ⟨by omega, hk.2⟩, ⟨hI, hai, hkok.2.1, hkok2.2.1⟩⟩
end Go.Proofs.YtjchneebdlncfaaDoor.Lib
namespace Go.Proofs.YtjchneebdlncfaaDoor.Lib
open Go Den
open Go.RowKit (Below)
open Classical
set_option maxRecDepth 8000
set_option maxHeartbeats 1000000
theorem txT2 : slT Tryd.prog 35 76 4 80 = true := by kernel_rfl
def Btw2 (A B k : Nat) : Prop := A ≤ k ∧ k < B
/-! ### A batch that grows -/
def Grows (B : Nat) (u : World) (x : Option Addr) (k c : Nat) (l : List Tx) : Prop := ∃ vs : List (List Value), vs.length = l.length ∧ k = l.length ∧ u.ownsRow B 76 4 (.slice x k c) k vs.flatten ∧
  ∀ (i : Nat) (v : List Value) (y : Tx), vs[i]? = some v → l[i]? = some y → TxV (fun z => Btw2 B u.heap.size z ∧ z ∉ rowL x) u v y
theorem Grows.nil (B : Nat) (u : World) : Grows B u none 0 0 [] := ⟨[], rfl, rfl, own_nil _ _ _ _, by simp⟩
theorem Grows.row {B : Nat} {u : World} {x : Option Addr} {k c : Nat} {l : List Tx} (h : Grows B u x k c l) : ∀ i ∈ rowL x, B ≤ i ∧ i < u.heap.size := h.elim fun _ h => rowL_ge h.2.2.1
theorem Grows.tch {B : Nat} {u u' : World} {x : Option Addr} {k c : Nat} {l : List Tx} {s : List Nat} (h : Grows B u x k c l) (ht : Tch s u u') (hs : ∀ z ∈ s, z < B ∨ u.heap.size ≤ z) : Grows B u' x k c l := by
  obtain ⟨vs, h1, h2, h3, h4⟩ := h
  have hq := ht.size
  refine ⟨vs, h1, h2, own_keep' h3 fun z hz hlt => ht.block z hlt fun hm => ?_, fun i v y hv hy => ((h4 i v y hv hy).tch ht fun z hz hh => ?_).mono fun z hz => ⟨⟨hz.1.1, by have := hz.1.2; omega⟩, hz.2⟩⟩
  · have := rowL_ge h3 z (mem_rowL.2 hz)
    rcases hs z hm with h | h <;> omega
  · have h1 := hh.1.1
    have h2 := hh.1.2
    rcases hs z hz with h | h <;> omega
theorem Grows.quiet {B : Nat} {u u' : World} {x : Option Addr} {k c : Nat} {l : List Tx} (h : Grows B u x k c l) (ht : Tch [] u u') : Grows B u' x k c l := h.tch ht (by simp)
theorem Grows.done {B : Nat} {u : World} {x : Option Addr} {k c : Nat} {l : List Tx} (h : Grows B u x k c l) : BatchV (Btw2 B u.heap.size) u x k c l := by
  obtain ⟨vs, h1, rfl, h3, h4⟩ := h
  refine ⟨vs, h1, (FR.own h3 ?_).mono fun _ h => h, fun i v y hv hy => (h4 i v y hv hy).mono fun _ h => h.1⟩
  intro u' hu
  obtain ⟨v, hv, hu⟩ := List.mem_flatten.1 hu
  obtain ⟨i, hi⟩ := List.getElem?_of_mem hv
  have hil := (List.getElem?_eq_some_iff.1 hi).1
  exact (h4 i v (l[i]'(by omega)) hi (List.getElem?_eq_getElem (by omega))).ones u' hu
/-- One more, that was made since u0. -/
theorem Grows.push {B : Nat} {u0 u : World} {x : Option Addr} {k c : Nat} {l : List Tx} (h : Grows B u0 x k c l) {s : List Nat} (tq : Tch s u0 u) (hsB : ∀ z ∈ s, z < B) {v : List Value} {y : Tx} (hv : TxV (Btw2 u0.heap.size u.heap.size) u v y) (hB : B ≤ u0.heap.size) (hl : l.length ≤ 100000) {z : List Value} (hz : z.length = 4) {K : Option Addr → Nat → Nat → World → Prop}
    (hK : ∀ a' c' w', Grows B w' a' (k + 1) c' (l ++ [y]) → Tch (rowL x) u w' → (∀ i ∈ rowL x, B ≤ i) → K a' (k + 1) c' w') :
    ∃ cs, fillL (.elems 4) z [(0, .agg v.toArray)] = some cs ∧ ∀ w1 : World, w1 = World.alloc u (.cells (List.toArray cs) 76) →
      RunV Tryd.prog (Builtin.append_ #[35, 35] 35 #[.slice x k c, .slice (some ⟨World.heap u |>.size, 0, none⟩) 1 1]) w1 fun v w' => ∃ (x : Option Addr) (xn : Nat) (xc : Nat), v = (.slice x xn xc) ∧ K x xn xc w' := by
  have hrow0 := h.row
  have hs := tq.size
  obtain ⟨vs, h1, h2, h3, h4⟩ := h
  have hown := own_up h3 tq (fun z hz hm => by have := (own_lt h3 hz).1; have := hsB z hm; omega)
  refine app_elem_at txT2 hown (by omega) (ys := v) rfl hv.len hv.ones (by omega) (by omega) (by omega) fun a5 c5 w34 o5 t5 m5 => ?_
  have q5 := t5.size
  refine hK a5 c5 w34 ⟨vs ++ [v], by simp [h1], by simp [h2], by simpa using o5, ?_⟩ t5 fun i hi => (hrow0 i hi).1
  have moved : ∀ {z : Nat}, z ∉ rowL x → z < u.heap.size → z ∉ rowL a5 := fun hz hlt hm => by
    rw [mem_rowL] at hm
    obtain ⟨ad, rfl, rfl⟩ := hm
    rcases m5 ad rfl with h | h
    · exact hz h
    · omega
  have keep : ∀ {P : Nat → Prop} {v : List Value} {y : Tx}, TxV P u v y → (∀ z, P z → Btw2 B u.heap.size z ∧ z ∉ rowL x) → TxV (fun z => Btw2 B w34.heap.size z ∧ z ∉ rowL a5) w34 v y := fun hfr hP =>
    (hfr.tch t5 fun z hz hp => (hP z hp).2 hz).mono fun z hp => ⟨⟨(hP z hp).1.1, by have := (hP z hp).1.2; omega⟩, moved (hP z hp).2 (hP z hp).1.2⟩
  intro i v' y' hv' hy'
  rw [List.getElem?_append] at hv' hy'
  split at hv'
  · rename_i hil
    rw [if_pos (by omega)] at hy'
    exact keep ((h4 i v' y' hv' hy').tch tq (fun z hz hP => by have := hsB z hz; have := hP.1.1; omega)) fun z h => ⟨⟨h.1.1, by have := h.1.2; omega⟩, h.2⟩
  · rename_i hil
    rw [if_neg (by omega)] at hy'
    by_cases h0 : i - vs.length = 0
    rotate_left
    · rw [List.getElem?_eq_none (by show 1 ≤ _; omega)] at hv'
      cases hv'
    rw [h0] at hv'
    rw [show i - l.length = 0 by omega] at hy'
    cases hv'; cases hy'
    exact keep hv fun z hz => ⟨⟨by have := hz.1; omega, by have := hz.2; omega⟩, fun hm => by have := (hrow0 z hm).2; have := hz.1; omega⟩

/-- What Decode hands back. -/
def DecO (w : World) (D : List Tx × Nat × Int) (en : Ending) (w' : World) : Prop := Tch [] w w' ∧ ∃ (ba : Option Addr) (bn bc : Nat), en = .returned (.tuple #[.slice ba bn bc, .int .i64 (D.2.1 : Int), .int .i64 D.2.2]) ∧
  if D.2.2 ≠ 0 then ba = none ∧ bn = 0 ∧ bc = 0 else BatchV (Btw2 w.heap.size w'.heap.size) w' ba bn bc D.1
end Go.Proofs.YtjchneebdlncfaaDoor.Lib
