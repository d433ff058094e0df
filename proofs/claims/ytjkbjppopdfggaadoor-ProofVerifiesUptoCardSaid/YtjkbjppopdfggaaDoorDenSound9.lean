/-
  A FUNCTION WITH A RANGE OVER A FUNCTION IN ITS OUTERMOST SEQUENCE: what is asked of it, and that this is right.
  Own work over the kit's law (wpIn_rangeFunc_ownH, callsIn_of_wp_marks). No macro, syntax, notation, axiom.
-/
import Derived.Test.YtjkbjppopdfggaaDoorDenSound8
import Derived.Test.YtjkbjppopdfggaaDoorDenWords3
import Derived.RangeFuncNested
import Derived.RangeFuncLeaves
namespace Go.Proofs.YtjkbjppopdfggaaDoor.Den
open Go Go.RowKit

/-- A function's outermost sequence. -/
inductive T where
  | last (s : S)
  | seq (a : S) (t : T)
  | join (sl : List (Nat × Ty)) (ks : List Nat) (a : S) (t : T)
  | rf (g : Operand) (ps : List (Nat × Ty)) (sl : List (Nat × Ty)) (ks : List Nat) (sa sb : S) (t : T)
/-- The blocks for deferred calls are shut, the newest first. -/
def leaveK : List Nat → World → (World → Prop) → Prop
  | [], w, K => K w
  | D :: r, w, K => w.heap[D]? = some (.deferred (some [])) ∧ ∀ w', Tch [D] w w' → leaveK r w' K
/-- What is asked at the function's end. -/
def endM (rs : List Res) (R : Ending → World → Prop) (ms : List Nat) : Post
  | .normal, e, w => leaveK ms w fun w' => resK e w' rs fun vs => R (.returned (endV vs)) w'
  | .ret, e, w => leaveK ms w fun w' => resK e w' rs fun vs => R (.returned (endV vs)) w'
  | .panic ch, _, w => leaveK ms w fun w' => R (.panicked ch) w'
  | _, _, _ => False
/-- These blocks lie as they lay. -/
def KpL (L : List Nat) (W W' : World) : Prop := ∀ k ∈ L, W'.heap[k]? = W.heap[k]?
/-- What turns is no cells, and lies at or beyond B. -/
def NoCells (B : Nat) (s : List Nat) (W : World) : Prop := ∀ k ∈ s, B ≤ k ∧ ∃ o : Obj, W.heap[k]? = some o ∧ o.isCells = false
/-- This is no matter. -/
def Stable {α : Type} (B : Nat) (I : α → World → Prop) : Prop := ∀ (x : α) (W W' : World) (s : List Nat), I x W → Tch s W W' → NoCells B s W → I x W'
def StableF (B : Nat) : (ts : List Ty) → Fn ts → Prop
  | [], J => ∀ (W W' : World) (s : List Nat), J W → Tch s W W' → NoCells B s W → J W'
  | .int _ :: ts, J => ∀ n, StableF B ts (J n)
  | .bool :: ts, J => ∀ b, StableF B ts (J b)
  | .str :: ts, J => ∀ s, StableF B ts (J s)
  | .sl :: ts, J => ∀ a n c, StableF B ts (J a n c)
  | .ptr :: ts, J => ∀ a, StableF B ts (J a)
  | .mp :: ts, J => ∀ r, StableF B ts (J r)
  | .agg :: ts, J => ∀ cs, StableF B ts (J cs)
  | .any :: ts, J => ∀ v, StableF B ts (J v)
/-- A round's end, by what is asked where it goes on and where it returns. -/
def outQ (go ret : World → Prop) : Post
  | .normal, _, W' => go W'
  | .ret, _, W' => ret W'
  | _, _, _ => False
/-- What is asked of a loop over an iterator; 'A': of the assignment to its variables; 'B': of a round; 'next': of what follows; 'out': of a return out of a round. -/
def LoopK (P : Program) (gf : FuncId) (lb : Array Value) (ts us : List Ty) (w : World) (A : List Value → Fn us → (World → Prop) → World → Prop) (B : Fn us → (World → Prop) → (World → Prop) → World → Prop) (next out : Nat → World → Prop) : Prop :=
  ∃ (α : Type) (encs : α → List Value) (L : List Nat) (S Sp : List α → Prop) (N : Nat) (I X : List α → World → Prop) (J : α → Fn us),
    (∀ x, exTys ts fun vs => encs x = vs) ∧ (∀ k ∈ L, k < w.heap.size) ∧ SeqStopsK (Fr none) 2 P gf lb (fun x => (encs x).toArray) (KpL L) S Sp N w ∧
    Stable w.heap.size I ∧ Stable w.heap.size X ∧ (∀ x, StableF w.heap.size us (J x)) ∧ (∀ pre W, I pre W → w.heap.size ≤ W.heap.size) ∧ I [] w ∧
    (∀ x pre W, I pre W → A (encs x) (J x) (fun W' => Tch [] W W' ∧ I pre W') W) ∧
    (∀ x pre W, I pre W → pre.length < N → B (J x) (fun W' => (∃ s, Tch s W W' ∧ ∀ k ∈ s, k < w.heap.size ∧ k ∉ L) ∧ I (pre ++ [x]) W') (fun W' => (∃ s, Tch s W W' ∧ ∀ k ∈ s, k < w.heap.size) ∧ X (pre ++ [x]) W') W) ∧
    (∀ (D : Nat) (xs : List α) (W : World), w.heap.size ≤ D → S xs → I xs W → W.heap[D]? = some (.deferred (some [])) → next D W) ∧
    (∀ (D : Nat) (pre : List α) (W : World), w.heap.size ≤ D → Sp pre → X pre W → W.heap[D]? = some (.deferred (some [])) → out D W)
def denT (P : Program) (rs : List Res) (R : Ending → World → Prop) : T → List Nat → Env → World → Prop
  | .last s, ms, e, w => denS P s e w (endM rs R ms)
  | .seq a t, ms, e, w => denS P a e w (thenE (fun e' w' => denT P rs R t ms e' w') (endM rs R ms))
  | .join sl ks a t, ms, e, w => ∃ J : Fn (tys sl), denS P a e w (thenE (fun e' w' => valsK e' sl fun vs => app (tys sl) J vs w') (endM rs R ms)) ∧
      ∀ w', allSl sl fun es vs => app (tys sl) J vs w' → keepK e ks fun ek => denT P rs R t ms (es ++ ek) w'
  | .rf g ps sl ks sa sb t, ms, e, w => rdK e g fun v => fnK v fun gf first lb => first = #[] ∧ HasBody P gf ∧
      LoopK P gf lb (tys ps) (tys sl) w (fun vs J K W => allSl ps fun es us => vs = us →
          denS P sa (es ++ e) W (thenE (fun e' W' => K W' ∧ valsK e' sl fun vs => app (tys sl) J vs W') fun _ _ _ => False))
        (fun J go ret W => allSl sl fun es vs => app (tys sl) J vs W → keepK e ks fun ek => denS P sb (es ++ ek) W (outQ go ret))
        (fun D W => denT P rs R t (D :: ms) e W) (fun D W => endM rs R (D :: ms) .ret e W)
/-- A sequence's parts. -/
def flat : Code → List Code
  | .seq a b => flat a ++ flat b
  | c => [c]
def rfOf : Code → Option (Operand × Array Tmp × Code × Code)
  | .rangeFunc g ps asn bd => some (g, ps, asn, bd)
  | .block _ (.rangeFunc g ps asn bd) => some (g, ps, asn, bd)
  | _ => none
def trT (P : Program) (pn : List Nat) (n : Nat) : T → List Code → Option T
  | .last s, cs =>
    match cs with
    | [c] =>
      match trS P pn n c s with
      | some x => some (.last x)
      | none => none
    | _ => none
  | .seq s t, cs =>
    match cs with
    | a :: b =>
      match trS P pn n a s, trT P pn n t b with
      | some x, some y => some (.seq x y)
      | _, _ => none
    | [] => none
  | .join sl ks s t, cs =>
    match cs with
    | a :: b =>
      match trS P pn n a s, trT P pn n t b, ks.all fun k => !(asg a).contains k with
      | some x, some y, true => some (.join sl ks x y)
      | _, _, _ => none
    | [] => none
  | .rf _ pt sl ks sa sb t, cs =>
    match cs with
    | a :: b =>
      match rfOf a with
      | some (g, ps, asn, bd) =>
        match trS P pn n asn sa, trS P pn n bd sb, trT P pn n t b, decide (pt.map (·.1) = ps.toList ∧ ps.toList.Nodup) && (ps.toList.all fun k => decide (k < n)) && (ks.all fun k => !(asg asn).contains k && !ps.toList.contains k) with
        | some x, some y, some z, true => some (.rf g pt sl ks x y z)
        | _, _, _, _ => none
      | none => none
    | [] => none

/-! ### It is right -/
def mark (D : Nat) : Deferred := { target := .collected D, args := #[] }
theorem grown_tch {W W' : World} {row : Option Nat} (h : W.grownBy W' row) : Tch row.toList W W' :=
  ⟨h.os, h.tape, h.output, h.size, fun k hk hn => h.block k hk (fun e => hn (by simp [← e]))⟩
theorem noCells_row {B : Nat} {W : World} {row : Option Nat} (hr : ∀ r, row = some r → B ≤ r ∧ ∃ o : Obj, W.heap[r]? = some o ∧ o.isCells = false) : NoCells B row.toList W := fun k hk => by
  cases row with
  | none => simp at hk
  | some r => simp at hk; subst hk; exact hr k rfl
theorem Stable.own {α : Type} {B : Nat} {I : α → World → Prop} (h : Stable B I) : OwnFrom B I := fun x W W' row hs hg hr => h x W W' _ hs (grown_tch hg) (noCells_row hr)
theorem StableF.app {B : Nat} : ∀ {ts : List Ty} {J : Fn ts} {vs : List Value} {W W' : World} {s : List Nat}, StableF B ts J → Den.app ts J vs W → Tch s W W' → NoCells B s W → Den.app ts J vs W'
  | [], _, [], _, _, _, h, ha, ht, hn => h _ _ _ ha ht hn
  | [], _, _ :: _, _, _, _, _, ha, _, _ => ha.elim
  | t :: ts, J, [], _, _, _, _, ha, _, _ => by cases t <;> exact (show False from ha).elim
  | t :: ts, J, v :: vs, W, W', s, h, ha, ht, hn => by
    cases t
    case any => exact StableF.app (ts := ts) (J := J v) (h v) ha ht hn
    all_goals cases v <;> first | exact (show False from ha).elim | skip
    case int.int k k' n =>
      have ha' : (bif same k' k then Den.app ts (J n) vs W else False) := ha
      show bif same k' k then Den.app ts (J n) vs W' else False
      cases hs : same k' k
      · rw [hs] at ha'; exact ha'.elim
      · rw [hs] at ha'; exact StableF.app (ts := ts) (J := J n) (h n) ha' ht hn
    case sl.slice a n c => exact StableF.app (ts := ts) (J := J a n c) (h a n c) ha ht hn
    all_goals exact StableF.app (ts := ts) (h _) ha ht hn
theorem valsK_mono {e : Env} : ∀ {sl : List (Nat × Ty)} {K K' : List Value → Prop}, valsK e sl K → (∀ vs, K vs → K' vs) → valsK e sl K'
  | [], _, _, h, hk => hk _ h
  | (k, _) :: r, _, _, h, hk => by
    unfold valsK at h ⊢
    split at h
    · exact valsK_mono h fun vs hv => hk _ hv
    · exact h.elim
/-- Codes, one behind the other. -/
def wpL (F : Fence) (n : Nat) (P : Program) (Q : Exit → Act → World → Prop) : List Code → Act → World → Prop
  | [], a, w => Q .normal a w
  | c :: cs, a, w => c.wpIn F n P (Exit.then (wpL F n P Q cs) Q) a w
theorem wpL_flat {F : Fence} {n : Nat} {P : Program} {Q : Exit → Act → World → Prop} : ∀ {c : Code} {cs : List Code} {a : Act} {w : World}, wpL F n P Q (flat c ++ cs) a w → c.wpIn F n P (Exit.then (wpL F n P Q cs) Q) a w := by
  intro c
  induction c with
  | seq c1 c2 ih1 ih2 =>
    intro cs a w h
    have h' : wpL F n P Q (flat c1 ++ (flat c2 ++ cs)) a w := by
      have e : flat (.seq c1 c2) ++ cs = flat c1 ++ (flat c2 ++ cs) := by simp [flat]
      rw [← e]; exact h
    refine wpIn_seq (wpIn_mono (ih1 h') fun ex a' w' hA => ?_)
    cases ex
    case normal => exact ih2 hA
    all_goals exact hA
  | _ => intro cs a w h; exact h
theorem KeepsFrom.of_tch {B : Nat} {s : List Nat} {W W' : World} (h : Tch s W W') (hs : ∀ k ∈ s, k < B) : KeepsFrom B W W' :=
  ⟨h.size, fun k o hB hk _ => by
    obtain ⟨hlt, _⟩ := Array.getElem?_eq_some_iff.1 hk
    rw [h.block k hlt fun hm => by have := hs k hm; omega]
    exact hk⟩
theorem leaves_of {P : Program} {n : Nat} {fn : Func} {tmps : Array Value} {R : Ending → World → Prop} {u : FrameMode} (hu : u ≠ .run) : ∀ {ms : List Nat} {w : World}, leaveK ms w (fun w' => LeavesIn (Fr none) n P fn tmps R [] u w') → LeavesInM (Fr none) n P fn tmps R (ms.map mark) u w
  | [], _, h => h
  | D :: ms, w, h => ⟨hu, .inl ⟨D, _, rfl, run_takeDeferred h.1, leaves_of hu (h.2 _ (grown_tch (grownBy_putObj' w D (.deferred none))))⟩⟩
theorem leaveK_mono : ∀ {ms : List Nat} {w : World} {K K' : World → Prop}, leaveK ms w K → (∀ w, K w → K' w) → leaveK ms w K'
  | [], _, _, _, h, hk => hk _ h
  | _ :: _, _, _, _, h, hk => ⟨h.1, fun w' ht => leaveK_mono (h.2 w' ht) hk⟩
theorem exTys_length : ∀ {ts : List Ty} {vs : List Value}, exTys ts (fun us => vs = us) → vs.length = ts.length
  | [], _, h => by rw [show _ = [] from h]; rfl
  | t :: ts, vs, h => by
    obtain ⟨v, h1, _⟩ := exTy_char h
    obtain ⟨us, h2⟩ := exTys_spec h1
    cases vs with
    | nil => cases h2
    | cons a r =>
      cases h2
      rw [List.length_cons, List.length_cons, exTys_length (ts := ts) (vs := us) (exTys_mono h1 fun _ e => by injection e)]
theorem exTys_allSl : ∀ {sl : List (Nat × Ty)} {vs : List Value} {F : Env → List Value → Prop}, exTys (tys sl) (fun us => vs = us) → allSl sl F → ∃ es : Env, es.map (·.1) = sl.map (·.1) ∧ es.map (·.2) = vs ∧ F es vs
  | [], vs, F, h, ha => ⟨[], rfl, by rw [show vs = [] from h]; rfl, by rw [show vs = [] from h]; exact ha⟩
  | (k, t) :: r, vs, F, h, ha => by
    have fin : ∀ v, (exTys (tys r) fun us => vs = v :: us) → allSl r (fun e us => F ((k, v) :: e) (v :: us)) → ∃ es : Env, es.map (·.1) = ((k, t) :: r).map (·.1) ∧ es.map (·.2) = vs ∧ F es vs := fun v h1 h2 => by
      obtain ⟨us, rfl⟩ := exTys_spec h1
      obtain ⟨es, g1, g2, g3⟩ := exTys_allSl (exTys_mono h1 fun _ e => by injection e) h2
      exact ⟨(k, v) :: es, by simp [g1], by simp [g2], g3⟩
    have h' : exTy t fun v => exTys (tys r) fun us => vs = v :: us := h
    have ha' : allTy t fun v => allSl r fun e us => F ((k, v) :: e) (v :: us) := ha
    cases t <;> simp only [exTy, allTy] at h' ha'
    case sl => obtain ⟨a, n, c, h'⟩ := h'; exact fin _ h' (ha' a n c)
    all_goals (obtain ⟨x, h'⟩ := h'; exact fin _ h' (ha' x))
theorem set_all : ∀ (es : Env) (tmps : Array Value), (es.map (·.1)).Nodup → (∀ p ∈ es, p.1 < tmps.size) → (es.foldl (fun t p => t.setIfInBounds p.1 p.2) tmps).size = tmps.size ∧ ∀ t : Nat, (es.foldl (fun t p => t.setIfInBounds p.1 p.2) tmps)[t]? = (find es t).or tmps[t]?
  | [], _, _, _ => ⟨rfl, fun _ => rfl⟩
  | (k, v) :: es, tmps, hn, hb => by
    have hn' := List.nodup_cons.1 hn
    obtain ⟨h1, h2⟩ := set_all es (tmps.setIfInBounds k v) hn'.2 (fun p hp => by rw [Array.size_setIfInBounds]; exact hb p (List.mem_cons_of_mem _ hp))
    refine ⟨by rw [List.foldl_cons, h1, Array.size_setIfInBounds], fun t => ?_⟩
    rw [List.foldl_cons, h2, find_cons]
    by_cases e : k = t
    · subst e
      have hf : find es k = none := by
        cases hf : find es k with
        | none => rfl
        | some u =>
          have : ∀ {es : Env}, find es k = some u → k ∈ es.map (·.1) := by
            intro es
            induction es with
            | nil => intro h; cases h
            | cons q es ih =>
              intro h
              obtain ⟨q1, q2⟩ := q
              rw [find_cons] at h
              by_cases e : q1 = k
              · simp [e]
              · rw [if_neg e] at h; exact List.mem_cons_of_mem _ (ih h)
          exact absurd (this hf) hn'.1
      rw [if_pos rfl, hf]
      have := hb (k, v) (by simp)
      simp [Array.getElem?_setIfInBounds, this]
    · rw [if_neg e, Array.getElem?_setIfInBounds_ne e]
section
variable {P : Program} {pn : List Nat} {rs : List Res} {R : Ending → World → Prop} {fn : Func}
theorem end_of_aft (hr : trRess P fn.results.toList = some rs) {n : Nat} {ms : List Nat} {l : List Nat} {a0 a' : Act} {w' : World} {ex : Exit} (h : Aft n (ms.map mark) l a0 (endM rs R ms) ex a' w') : bodyPostM (Fr none) 3 P fn R ex a' w' := by
  cases ex
  case normal =>
    obtain ⟨_, _, e', ok', hq⟩ := h
    show LeavesInM _ _ _ _ _ _ a'.defers _ _
    rw [ok'.defers]
    exact leaves_of (by simp) (leaveK_mono hq fun w2 h2 => run_results (K := fun v => R (.returned v) w2) hr ok' h2)
  case ret =>
    obtain ⟨_, _, e', ok', hq⟩ := h
    show LeavesInM _ _ _ _ _ _ a'.defers _ _
    rw [ok'.defers]
    exact leaves_of (by simp) (leaveK_mono hq fun w2 h2 => run_results (K := fun v => R (.returned v) w2) hr ok' h2)
  case panic ch =>
    obtain ⟨hd, hq⟩ := h
    show LeavesInM _ _ _ _ _ _ a'.defers _ _
    rw [hd]
    exact leaves_of (by simp) hq
  all_goals
    obtain ⟨_, _, e', ok', hq⟩ := h
    exact hq.elim
theorem then_of_aft (hr : trRess P fn.results.toList = some rs) {n : Nat} {ms : List Nat} {l : List Nat} {a0 : Act} {next : Env → World → Prop} {Q : Act → World → Prop} (hn : ∀ e' a' w', Ok n (ms.map mark) a' e' → (∀ t, t ∉ l → a'.tmps[t]? = a0.tmps[t]?) → next e' w' → Q a' w') {ex : Exit} {a' : Act} {w' : World}
    (h : Aft n (ms.map mark) l a0 (thenE next (endM rs R ms)) ex a' w') : Exit.then Q (bodyPostM (Fr none) 3 P fn R) ex a' w' := by
  cases ex
  case normal =>
    obtain ⟨_, hs, e', ok', hq⟩ := h
    exact hn e' a' w' ok' hs hq
  case exit id => exact end_of_aft hr (show Aft n (ms.map mark) l a0 (endM rs R ms) (.exit id) a' w' from h)
  case goto t => exact end_of_aft hr (show Aft n (ms.map mark) l a0 (endM rs R ms) (.goto t) a' w' from h)
  case ret => exact end_of_aft hr (show Aft n (ms.map mark) l a0 (endM rs R ms) .ret a' w' from h)
  case panic ch => exact end_of_aft hr (show Aft n (ms.map mark) l a0 (endM rs R ms) (.panic ch) a' w' from h)
  case outgrown => exact end_of_aft hr (show Aft n (ms.map mark) l a0 (endM rs R ms) .outgrown a' w' from h)
theorem denT_sound (hr : trRess P fn.results.toList = some rs) : ∀ {h t : T} {c : List Code} {ms : List Nat} {e : Env} {a : Act} {w : World}, trT P pn fn.ntmps h c = some t → Ok fn.ntmps (ms.map mark) a e → denT P rs R t ms e w → wpL (Fr none) 3 P (bodyPostM (Fr none) 3 P fn R) c a w := by
  intro h
  induction h with
  | last s =>
    intro t c ms e a w ht ha hd
    cases c with
    | nil => simp [trT] at ht
    | cons c1 c2 =>
    cases c2 with
    | cons _ _ => simp [trT] at ht
    | nil =>
    simp only [trT] at ht
    split at ht
    · rename_i x hx
      cases ht
      refine wpIn_mono (denS_sound hx ha hd) fun ex a' w' hA => ?_
      have := end_of_aft hr hA
      cases ex <;> exact this
    · cases ht
  | seq s h ih =>
    intro t c ms e a w ht ha hd
    cases c with
    | nil => simp [trT] at ht
    | cons c1 c2 =>
    simp only [trT] at ht
    split at ht
    · rename_i x y h1 h2
      cases ht
      exact wpIn_mono (denS_sound h1 ha hd) fun ex a' w' hA => then_of_aft (Q := wpL (Fr none) 3 P (bodyPostM (Fr none) 3 P fn R) c2) hr (fun e' a' w' ok' _ hq => ih h2 ok' hq) hA
    · cases ht
  | join sl ks s h ih =>
    intro t c ms e a w ht ha hd
    cases c with
    | nil => simp [trT] at ht
    | cons c1 c2 =>
    simp only [trT] at ht
    split at ht
    · rename_i x y h1 h2 hks
      cases ht
      obtain ⟨J, hd1, hd2⟩ := hd
      refine wpIn_mono (denS_sound h1 ha hd1) fun ex a' w' hA => then_of_aft (Q := wpL (Fr none) 3 P (bodyPostM (Fr none) 3 P fn R) c2) hr (fun e' a' w' ok' hs hq => ?_) hA
      obtain ⟨vs, ⟨hlen, hvs⟩, happ⟩ := valsK_spec hq
      obtain ⟨es, he1, he2, hF⟩ := allSl_spec J vs w' (hd2 w') happ
      obtain ⟨ek, hk, hden⟩ := keepK_spec (hF happ)
      refine ih h2 (e := es ++ ek) ⟨ok'.size, ok'.defers, fun t v hf => ?_⟩ hden
      rw [find_append] at hf
      cases hes : find es t with
      | some u =>
        rw [hes] at hf; cases hf
        exact ok'.at' t _ (find_zip he1 he2 hvs t _ hes)
      | none =>
        rw [hes] at hf
        exact keep_ok ha hk hks hs t v hf
    · cases ht
  | rf g0 pt sl ks sa sb h ih =>
    intro t c ms e a w ht ha hd
    cases c with
    | nil => simp [trT] at ht
    | cons c1 c2 =>
    simp only [trT] at ht
    split at ht
    · rename_i g ps asn bd hrf
      split at ht
      · rename_i x y z h1 h2 h3 hc
        cases ht
        simp only [Bool.and_eq_true, decide_eq_true_eq, List.all_eq_true] at hc
        obtain ⟨⟨⟨hpt, hnd⟩, hlt⟩, hks⟩ := hc
        obtain ⟨v, hv, hd⟩ := rdK_spec hd
        cases v <;> first | exact (show False from hd).elim | skip
        rename_i f first lb
        cases f <;> first | exact (show False from hd).elim | skip
        rename_i gf
        obtain ⟨rfl, hb, α, encs, L, S, Sp, N, I, X, J, k1, k2, k3, k4, k5, kJ, kS, k6, kA, kB, k8, k9⟩ := hd
        have hloop : (Code.rangeFunc g ps asn bd).wpIn (Fr none) 3 P (Exit.then (wpL (Fr none) 3 P (bodyPostM (Fr none) 3 P fn R) c2) (fun ex a w => ex = .ret ∧ bodyPostM (Fr none) 3 P fn R ex a w)) a w := by
          refine wpIn_rangeFunc_ownH (F := Fr none) (n := 3) rfl (by omega) (gf := gf) (lb := lb) (ha.eval _ _ hv) trivial (fun args w => run_callFunc hb) k3 (fun h k i hi => (k i hi).trans (h i hi))
            (fun W l o o' hl _ _ _ i hi => World.putObj_heap_other (by have := k2 i hi; omega)) (Below.refl _ _) (fun x => by
              have := exTys_length (k1 x)
              rw [List.size_toArray, this, tys, List.length_map]
              have := congrArg List.length hpt
              simpa using this)
            I (fun c pre W => c = .ret ∧ X pre W) k4.own (fun c pre W W' row hs hg hr => ⟨hs.1, k5.own pre W W' row hs.2 hg hr⟩) k6
            (fun x a' W => (∀ t v, t ∈ ks → find e t = some v → a'.tmps[t]? = some v) ∧ ∃ e', Ok fn.ntmps [] a' e' ∧ valsK e' sl fun vs => app (tys sl) (J x) vs W)
            (fun x a' _ W W' row hs hg hr => by
              obtain ⟨q1, e', q2, q3⟩ := hs
              obtain ⟨vs, _, _⟩ := valsK_spec q3
              exact ⟨q1, e', q2, valsK_mono q3 fun vs hvs => (kJ x).app hvs (grown_tch hg) (noCells_row hr)⟩) ?_ ?_ ?_ ?_
          · intro l pre x W K hI hK
            obtain ⟨es, he1, he2, hF⟩ := exTys_allSl (k1 x) (kA x pre W hI)
            have hden := hF rfl
            have hes : (ps.zip (encs x).toArray).foldl (fun t (p, v) => t.setIfInBounds p v) a.tmps = es.foldl (fun t p => t.setIfInBounds p.1 p.2) a.tmps := by
              rw [← Array.foldl_toList, Array.toList_zip, ← hpt, ← he1, ← he2]
              congr 1
              exact (List.zip_of_prod rfl rfl).symm
            have hset := set_all es a.tmps (by rw [he1, hpt]; exact hnd) (fun p hp => by
              have : p.1 ∈ ps.toList := by rw [← hpt, ← he1]; exact List.mem_map.2 ⟨p, hp, rfl⟩
              rw [ha.size]
              exact hlt _ this)
            rw [hes]
            generalize es.foldl (fun t p => t.setIfInBounds p.1 p.2) a.tmps = T at *
            have hok : Ok fn.ntmps [] { tmps := T, defers := [] } (es ++ e) := ⟨by rw [← ha.size]; exact hset.1, rfl, fun t v hf => ?_⟩
            refine wpIn_mono (F := Fr (some l)) (denS_sound (r0 := some l) (m := 3 - 1 - 1) (d0 := []) h1 hok hden) fun ex a' w' hA => ?_
            rotate_left
            · show T[t]? = some v
              rw [hset.2]
              rw [find_append] at hf
              cases hfe : find es t with
              | some u => rw [hfe] at hf; exact hf
              | none =>
                rw [hfe] at hf
                exact ha.at' t v hf
            · cases ex
              case normal =>
                obtain ⟨_, hs, e', ok', ⟨htt, hI'⟩, hq⟩ := hA
                refine hK a' w' (KeepsFrom.of_tch htt (by simp)) (fun k hk => htt.block k (by have := k2 k hk; have := kS _ _ hI; omega) (by simp)) hI' ⟨fun t v ht hf => ?_, e', ok', hq⟩
                have hkt := hks t ht
                simp only [Bool.and_eq_true, Bool.not_eq_true', List.contains_eq_mem, decide_eq_false_iff_not] at hkt
                rw [hs t hkt.1]
                show T[t]? = some v
                rw [hset.2]
                have hfn : find es t = none := by
                  cases hfe : find es t with
                  | none => rfl
                  | some u =>
                    have hmem : ∀ {es : Env}, find es t = some u → t ∈ es.map (·.1) := by
                      intro es
                      induction es with
                      | nil => intro h; cases h
                      | cons q es ih =>
                        intro h
                        obtain ⟨q1, q2⟩ := q
                        rw [find_cons] at h
                        by_cases e : q1 = t
                        · simp [e]
                        · rw [if_neg e] at h; exact List.mem_cons_of_mem _ (ih h)
                    have := hmem hfe
                    rw [he1, hpt] at this
                    exact absurd this hkt.2
                rw [hfn]
                exact ha.at' t v hf
              case panic ch => exact hA.2.elim
              all_goals
                obtain ⟨_, _, e', ok', hq⟩ := hA
                exact hq.elim
          · rintro l pre x a' W hl ⟨r, hr'⟩ hI ⟨q1, e', ok', hq⟩ hlen
            have hlt' : l < W.heap.size := (Array.getElem?_eq_some_iff.1 hr').1
            obtain ⟨vs, ⟨hlen', hvs⟩, happ⟩ := valsK_spec hq
            obtain ⟨es, he1, he2, hF⟩ := allSl_spec (J x) vs W (kB x pre W hI hlen) happ
            obtain ⟨ek, hk, hden⟩ := keepK_spec (hF happ)
            have ok2 : Ok fn.ntmps [] a' (es ++ ek) := ⟨ok'.size, ok'.defers, fun t v hf => by
              rw [find_append] at hf
              cases hes : find es t with
              | some u =>
                rw [hes] at hf; cases hf
                exact ok'.at' t _ (find_zip he1 he2 hvs t _ hes)
              | none =>
                rw [hes] at hf
                obtain ⟨g1, g2⟩ := hk t v hf
                exact q1 t v g1 g2⟩
            refine wpIn_mono (F := Fr (some l)) (denS_sound (r0 := some l) (m := 3 - 1 - 1) (d0 := []) h2 ok2 hden) fun ex a2 w2 hA => ?_
            cases ex
            case normal =>
              obtain ⟨_, _, _, _, ⟨s, ht, hs⟩, hi⟩ := hA
              exact ⟨KeepsFrom.of_tch ht fun k hk => (hs k hk).1, fun k hk => ht.block k (by have := k2 k hk; omega) fun hm => (hs k hm).2 hk, hi⟩
            case ret =>
              obtain ⟨_, _, _, _, ⟨s, ht, hs⟩, hi⟩ := hA
              exact ⟨KeepsFrom.of_tch ht hs, rfl, hi⟩
            case panic ch => exact hA.2.elim
            all_goals
              obtain ⟨_, _, e', ok', hq⟩ := hA
              exact hq.elim
          · intro D xs W hD hS hI hh
            exact ih h3 (ms := D :: ms) (a := { a with defers := mark D :: a.defers }) ⟨ha.size, by show mark D :: a.defers = _; rw [ha.defers]; rfl, ha.at'⟩ (k8 D xs W hD hS hI hh)
          · rintro D c pre W hD hSp ⟨rfl, hX⟩ hh
            refine wpIn_ret ?_
            have hq := k9 D pre W hD hSp hX hh
            have hA : Aft fn.ntmps ((D :: ms).map mark) [] a (endM rs R (D :: ms)) .ret { a with defers := mark D :: a.defers } W := ⟨trivial, fun _ _ => rfl, e, ⟨ha.size, by show mark D :: a.defers = _; rw [ha.defers]; rfl, ha.at'⟩, hq⟩
            exact ⟨rfl, end_of_aft hr hA⟩
        have hlast : ∀ ex a' w', Exit.then (wpL (Fr none) 3 P (bodyPostM (Fr none) 3 P fn R) c2) (fun ex a w => ex = .ret ∧ bodyPostM (Fr none) 3 P fn R ex a w) ex a' w' → (ex = .normal ∨ ex = .ret) ∧ Exit.then (wpL (Fr none) 3 P (bodyPostM (Fr none) 3 P fn R) c2) (bodyPostM (Fr none) 3 P fn R) ex a' w' := by
          intro ex a' w' hQ
          cases ex
          case normal => exact ⟨.inl rfl, hQ⟩
          case ret => exact ⟨.inr rfl, hQ.2⟩
          all_goals exact (Exit.noConfusion hQ.1)
        show c1.wpIn _ _ _ _ _ _
        unfold rfOf at hrf
        split at hrf
        · cases hrf
          exact wpIn_mono hloop fun ex a' w' hQ => (hlast ex a' w' hQ).2
        · cases hrf
          refine wpIn_block (wpIn_mono hloop fun ex a' w' hQ => ?_)
          obtain ⟨h', h''⟩ := hlast ex a' w' hQ
          rcases h' with rfl | rfl
          · exact h''
          · exact h''
        · cases hrf
      · cases ht
    · cases ht
end
/-- A CALL of a function with a range over a function, out of its code's denotation. -/
theorem calls_of_denT {P : Program} {pn : List Nat} {f : FuncId} {fn : Func} {c : Code} {h t : T} {rs : List Res} {args : List Value} {w : World} {R : Ending → World → Prop} (hf : P.funcs[f]? = some fn) (hb : fn.body = some c) (hn : args.length ≤ fn.ntmps)
    (ht : trT P pn fn.ntmps h (flat c) = some t) (hr : trRess P fn.results.toList = some rs) (hd : denT P rs R t [] (argsEnv 0 args) w) : Calls P f args.toArray w R := by
  refine callsFr.1 (callsIn_of_wp_marks (F := Fr none) (n := 3) hf hb trivial ?_ rfl)
  have ha : Ok fn.ntmps ([].map mark) { tmps := args.toArray ++ Array.replicate (fn.ntmps - args.toArray.size) undef, defers := [] } (argsEnv 0 args) := by
    refine ⟨by simp; omega, rfl, fun t v hf => ?_⟩
    obtain ⟨_, h2⟩ := find_args hf
    have hlt : t < args.length := (List.getElem?_eq_some_iff.1 h2).1
    simp only [Nat.sub_zero] at h2
    obtain ⟨_, h3⟩ := List.getElem?_eq_some_iff.1 h2
    simp [Array.getElem?_append, hlt, h3]
  refine wpIn_mono (wpL_flat (cs := []) (by rw [List.append_nil]; exact denT_sound hr ht ha hd)) fun ex a' w' hQ => ?_
  cases ex <;> exact hQ
end Go.Proofs.YtjkbjppopdfggaaDoor.Den
