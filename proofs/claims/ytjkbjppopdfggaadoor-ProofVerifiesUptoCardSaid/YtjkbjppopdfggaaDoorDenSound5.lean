/-
  REGIONS THAT DRAW THEIR ORDER: a read may be taken first, if what acts beside it leaves it as it is.
  Own work. No macro, syntax, notation, axiom.
-/
import Derived.Test.YtjkbjppopdfggaaDoorDenSound4
namespace Go.Proofs.YtjkbjppopdfggaaDoor.Den
open Go

section
variable {P : Program} {Z : Pan} {pn : List Nat} {ops : Array Oper} {cl : Nat → List Nat}
theorem opR_mono {o : Oper} {K K' : Act → World → Prop} {a : Act} {w : World} (h : opR P Z ops o K a w) (hK : ∀ v w', K (a.put o.dst v) w' → K' (a.put o.dst v) w') : opR P Z ops o K' a w := by
  unfold opR at *
  split
  · rename_i hw; rw [if_pos hw] at h; exact h.mono fun v w' => hK v w'
  · rename_i hw; rw [if_neg hw] at h; exact hK _ _ h
/-- In this state it yields just this, and leaves the world alone. -/
def Y (P : Program) (ops : Array Oper) (o : Oper) (v : Value) (a : Act) (w : World) : Prop :=
  (Region.wanted o (yielded ops a.tmps) = true ∧ RunsTo P noPan (execOp a.eval o) w fun u w' => u = v ∧ w' = w) ∨
  (Region.wanted o (yielded ops a.tmps) = false ∧ v = undef)
theorem Y.opR {o : Oper} {v : Value} {a : Act} {w : World} {K : Act → World → Prop} (h : Y P ops o v a w) (hK : K (a.put o.dst v) w) : opR P Z ops o K a w := by
  unfold Den.opR
  rcases h with ⟨h1, h2⟩ | ⟨h1, rfl⟩
  · rw [if_pos h1]; exact (RunsTo.calm h2).mono fun u w' ⟨e1, e2⟩ => by rw [e1, e2]; exact hK
  · rw [if_neg (by simp [h1])]; exact hK
theorem Y.put {o : Oper} (hs : ∀ cs b, o.op ≠ .select cs b) {v : Value} {a : Act} {w : World} {d : Option Nat} {u : Value} (hd : ∀ k, d = some k → k ∉ o.looksAt ops) : Y P ops o v (a.put d u) w ↔ Y P ops o v a w := by
  unfold Y
  rw [execOp_put o hs a d u hd, wanted_put o a d u hd]
theorem opR_put {o : Oper} (hs : ∀ cs b, o.op ≠ .select cs b) {a : Act} {w : World} {d : Option Nat} {u : Value} {K : Act → World → Prop} (hd : ∀ k, d = some k → k ∉ o.looksAt ops) (hdd : ∀ k, d = some k → o.dst ≠ some k)
    (h : opR P Z ops o K (a.put d u) w) : opR P Z ops o (fun a2 w2 => K (a2.put d u) w2) a w := by
  unfold opR at *
  rw [execOp_put o hs a d u hd, wanted_put o a d u hd] at h
  split
  · rename_i hw; rw [if_pos hw] at h; exact h.mono fun v w' hk => by show K ((a.put o.dst v).put d u) w'; rw [← Act.put_comm a u v hdd]; exact hk
  · rename_i hw; rw [if_neg hw] at h; show K ((a.put o.dst undef).put d u) w; rw [← Act.put_comm a u undef hdd]; exact h

/-- Whatever order is picked from here on; what has been taken ahead reads the same behind each that acts and isn't bound to come later. -/
def anyR (P : Program) (Z : Pan) (ops : Array Oper) (cl : Nat → List Nat) (Q : Act → World → Prop) : Nat → Array Bool → List (Nat × Value) → Act → World → Prop
  | 0, listed, _, a, w => Region.ready .any ops listed = [] ∧ Q a w
  | f + 1, listed, pend, a, w =>
    (Region.ready .any ops listed = [] → Q a w) ∧
    ∀ j ∈ Region.ready .any ops listed, ∀ o, ops[j]? = some o → opR P Z ops o (fun a' w' =>
      (∀ p ∈ pend, p.1 ∉ cl j → ∀ op, ops[p.1]? = some op → Y P ops op p.2 a' w') ∧
      anyR P Z ops cl Q f (listed.setIfInBounds j true) (pend.filter fun p => !(cl j).contains p.1) a' w') a w
theorem anyR_sub {Q : Act → World → Prop} : ∀ {f : Nat} {listed : Array Bool} {p1 p2 : List (Nat × Value)} {a : Act} {w : World}, (∀ p ∈ p2, p ∈ p1) → anyR P Z ops cl Q f listed p1 a w → anyR P Z ops cl Q f listed p2 a w
  | 0, _, _, _, _, _, _, h => h
  | f + 1, listed, p1, p2, a, w, hs, h => ⟨h.1, fun j hj o ho => opR_mono (h.2 j hj o ho) fun v w' ⟨h1, h2⟩ =>
      ⟨fun p hp => h1 p (hs p hp), anyR_sub (fun p hp => by rw [List.mem_filter] at *; exact ⟨hs p hp.1, hp.2⟩) h2⟩⟩
theorem put_defers {a : Act} {d : Option Tmp} {v : Value} : (a.put d v).defers = a.defers := by cases d <;> rfl
theorem anyR_any {m : Nat} {r0 : Option Nat} {d0 : List Deferred} {Q : Act → World → Prop} {Q' : Exit → Act → World → Prop} (hz : ∀ ch a' w', a'.defers = d0 → Z ch w' → Q' (.panic ch) a' w') (hQ : ∀ a w, Q a w → Q' .normal a w) : ∀ {f : Nat} {listed : Array Bool} {p : List (Nat × Value)} {a : Act} {w : World}, a.defers = d0 → anyR P Z ops cl Q f listed p a w → wpAnyIn (Fr r0) m P .any ops Q' f listed a w
  | 0, _, _, _, _, _, h => ⟨h.1, hQ _ _ h.2⟩
  | f + 1, listed, p, a, w, hdf, h => ⟨fun h0 => hQ _ _ (h.1 h0), fun i hi => by
      unfold wpOpIn
      split
      · rename_i hn
        have := (mem_ready.1 hi).2
        rw [hn] at this
        obtain ⟨o, ho, _⟩ := this
        cases ho
      · rename_i o ho
        have h1 := h.2 i hi o ho
        unfold opR at h1
        split
        · rename_i hw
          rw [if_pos hw] at h1
          exact RunsTo.wp (h1.mono fun v w' h2 => anyR_any hz hQ (put_defers.trans hdf) h2.2) fun ch w' h => hz ch a w' hdf h
        · rename_i hw
          rw [if_neg hw] at h1
          exact ⟨fun _ _ => trivial, anyR_any hz hQ (put_defers.trans hdf) h1.2⟩⟩

def Closed (ops : Array Oper) (listed : Array Bool) : Prop := ∀ j o, ops[j]? = some o → listed.getD j false = true → ∀ e ∈ o.after, Region.binds .any e = true → listed.getD e.on false = true
/-- 'cl j': all that must come before j. -/
def ClOk (ops : Array Oper) (cl : Nat → List Nat) : Prop := ∀ j o, ops[j]? = some o → ∀ k ∈ cl j, ∃ e ∈ o.after, Region.binds .any e = true ∧ (e.on = k ∨ (e.on < j ∧ k ∈ cl e.on ∧ ∃ o', ops[e.on]? = some o'))
theorem cl_listed (hc : ClOk ops cl) {listed : Array Bool} (hl : Closed ops listed) : ∀ (n j : Nat), j ≤ n → ∀ o, ops[j]? = some o → (∀ e ∈ o.after, Region.binds .any e = true → listed.getD e.on false = true) → ∀ k ∈ cl j, listed.getD k false = true
  | n, j, hn, o, ho, ha, k, hk => by
    obtain ⟨e, he, hb, h | ⟨hlt, h, o', ho'⟩⟩ := hc j o ho k hk
    · rw [← h]; exact ha e he hb
    · match n with
      | 0 => omega
      | n + 1 => exact cl_listed hc hl n e.on (by omega) o' ho' (fun e' he' hb' => hl e.on o' ho' (ha e he hb) e' he' hb') k h
theorem closed_set {listed : Array Bool} (hl : Closed ops listed) {j : Nat} (hj : j ∈ Region.ready .any ops listed) : Closed ops (listed.setIfInBounds j true) := by
  intro i o ho hi e he hb
  by_cases hij : j = i
  · subst hij
    obtain ⟨_, o', ho', ha⟩ := mem_ready.1 hj
    rw [ho] at ho'
    cases ho'
    exact getD_set_true (ha e he hb)
  · rw [getD_set_ne false hij] at hi
    exact getD_set_true (hl i o ho hi e he hb)

theorem anyR_first {Q : Act → World → Prop} (hsel : Region.noSelect ops = true) (hc : ClOk ops cl) {i : Nat} {oi : Oper} {v : Value} (hi : ops[i]? = some oi) (hself : ∀ d, oi.dst = some d → d ∉ oi.looksAt ops) :
    ∀ (f : Nat) (listed : Array Bool) (pend : List (Nat × Value)) (a : Act) (w : World), Closed ops listed →
      (∀ j oj, ops[j]? = some oj → j ≠ i → listed.getD j true = false → (∀ e ∈ oj.after, Region.binds .any e = true → e.on ≠ i) → oi.apart ops oj = true) →
      i ∈ Region.ready .any ops listed →
      (∀ p ∈ pend, ∀ op, ops[p.1]? = some op → Y P ops op p.2 a w) →
      (∀ p ∈ pend, ∀ op, ops[p.1]? = some op → ∀ d, oi.dst = some d → d ∉ op.looksAt ops) →
      Y P ops oi v a w → anyR P Z ops cl Q f (listed.setIfInBounds i true) ((i, v) :: pend) (a.put oi.dst v) w → anyR P Z ops cl Q (f + 1) listed pend a w := by
  intro f
  induction f with
  | zero =>
    intro listed pend a w _ _ hr hp hpd hy H
    refine ⟨fun h => (by rw [h] at hr; cases hr), fun j hj o ho => ?_⟩
    by_cases hji : j = i
    · subst hji
      rw [hi] at ho; cases ho
      refine hy.opR ⟨fun p hpm hpc op hop => (Y.put (Region.noSelect_spec hsel _ _ · · hop) (hpd p hpm op hop)).2 (hp p hpm op hop), H⟩
    · have := ready_mono hj hji
      rw [H.1] at this
      cases this
  | succ f ih =>
    intro listed pend a w hl hfree hr hp hpd hy H
    refine ⟨fun h => (by rw [h] at hr; cases hr), fun j hj o ho => ?_⟩
    by_cases hji : j = i
    · subst hji
      rw [hi] at ho; cases ho
      refine hy.opR ⟨fun p hpm hpc op hop => (Y.put (Region.noSelect_spec hsel _ _ · · hop) (hpd p hpm op hop)).2 (hp p hpm op hop), anyR_sub (fun p hpm => ?_) H⟩
      rw [List.mem_filter] at hpm
      exact List.mem_cons_of_mem _ hpm.1
    · have h1 := H.2 j (ready_mono hj hji) o ho
      obtain ⟨hjun, oj, hoj, hall⟩ := mem_ready.1 hj
      rw [ho] at hoj; cases hoj
      have hiun : listed.getD i false = false := by
        have h0 := (mem_ready.1 hr).1
        rcases Nat.lt_or_ge i listed.size with h' | h' <;> simp [h'] at h0 ⊢ <;> exact h0
      have hnot : ∀ e ∈ o.after, Region.binds .any e = true → e.on ≠ i := fun e he hb heq => by
        have h1 := hall e he hb
        rw [heq, hiun] at h1
        cases h1
      have hap := hfree j o ho hji hjun hnot
      obtain ⟨ap1, ap2, ap3⟩ := Oper.apart_spec hap
      have hicl : i ∉ cl j := fun hm => by
        have := cl_listed hc hl j j (Nat.le_refl _) o ho hall i hm
        rw [hiun] at this
        cases this
      have hsi := fun cs b => Region.noSelect_spec hsel i oi cs b hi
      have hsj := fun cs b => Region.noSelect_spec hsel j o cs b ho
      have h2 := opR_put hsj (fun k hk => ap1 k hk) (fun k hk => ap2 k hk) h1
      refine opR_mono h2 fun u w2 ⟨k1, k2⟩ => ?_
      have kp : ∀ p ∈ pend, p.1 ∉ cl j → ∀ op, ops[p.1]? = some op → Y P ops op p.2 (a.put o.dst u) w2 := fun p hpm hpc op hop =>
        (Y.put (Region.noSelect_spec hsel _ _ · · hop) (hpd p hpm op hop)).1 (k1 p (List.mem_cons_of_mem _ hpm) hpc op hop)
      refine ⟨kp, ?_⟩
      have kyi : Y P ops oi v (a.put o.dst u) w2 := (Y.put hsi hself).1 (k1 (i, v) (by simp) hicl oi hi)
      refine ih (listed.setIfInBounds j true) _ (a.put o.dst u) w2 (closed_set hl hj) ?_ (ready_mono hr (Ne.symm hji)) ?_ ?_ kyi ?_
      · intro k ok hk hki hun hno
        refine hfree k ok hk hki ?_ hno
        by_cases hjk : j = k
        · subst hjk; exact hjun
        · rw [getD_set_ne true hjk] at hun; exact hun
      · intro p hpm op hop
        rw [List.mem_filter] at hpm
        exact kp p hpm.1 (by simpa using hpm.2) op hop
      · intro p hpm
        rw [List.mem_filter] at hpm
        exact hpd p hpm.1
      · rw [Array.setIfInBounds_comm _ _ hji]
        have hf : (((i, v) :: pend).filter fun p => !(cl j).contains p.1) = (i, v) :: pend.filter fun p => !(cl j).contains p.1 := by
          rw [List.filter_cons, if_pos (by simpa using hicl)]
        rw [hf] at k2
        exact k2
theorem anyR_pure {Q : Act → World → Prop} (hsel : Region.noSelect ops = true) (hc : ClOk ops cl) {i : Nat} {oi : Oper} {v : Value} (hi : ops[i]? = some oi) (hself : ∀ d, oi.dst = some d → d ∉ oi.looksAt ops) :
    ∀ (f : Nat) (listed : Array Bool) (pend : List (Nat × Value)) (a : Act) (w : World), Closed ops listed →
      (∀ j oj, ops[j]? = some oj → j ≠ i → listed.getD j true = false → (∀ e ∈ oj.after, Region.binds .any e = true → e.on ≠ i) → oi.apart ops oj = true) →
      i ∈ Region.ready .any ops listed →
      (∀ p ∈ pend, ∀ op, ops[p.1]? = some op → Y P ops op p.2 a w) →
      (∀ p ∈ pend, ∀ op, ops[p.1]? = some op → ∀ d, oi.dst = some d → d ∉ op.looksAt ops) →
      (∀ w, Y P ops oi v a w) → anyR P Z ops cl Q f (listed.setIfInBounds i true) pend (a.put oi.dst v) w → anyR P Z ops cl Q (f + 1) listed pend a w := by
  intro f
  induction f with
  | zero =>
    intro listed pend a w _ _ hr hp hpd hy H
    refine ⟨fun h => (by rw [h] at hr; cases hr), fun j hj o ho => ?_⟩
    by_cases hji : j = i
    · subst hji
      rw [hi] at ho; cases ho
      refine (hy w).opR ⟨fun p hpm hpc op hop => (Y.put (Region.noSelect_spec hsel _ _ · · hop) (hpd p hpm op hop)).2 (hp p hpm op hop), H⟩
    · have := ready_mono hj hji
      rw [H.1] at this
      cases this
  | succ f ih =>
    intro listed pend a w hl hfree hr hp hpd hy H
    refine ⟨fun h => (by rw [h] at hr; cases hr), fun j hj o ho => ?_⟩
    by_cases hji : j = i
    · subst hji
      rw [hi] at ho; cases ho
      refine (hy w).opR ⟨fun p hpm hpc op hop => (Y.put (Region.noSelect_spec hsel _ _ · · hop) (hpd p hpm op hop)).2 (hp p hpm op hop), anyR_sub (fun p hpm => ?_) H⟩
      rw [List.mem_filter] at hpm
      exact hpm.1
    · have h1 := H.2 j (ready_mono hj hji) o ho
      obtain ⟨hjun, oj, hoj, hall⟩ := mem_ready.1 hj
      rw [ho] at hoj; cases hoj
      have hiun : listed.getD i false = false := by
        have h0 := (mem_ready.1 hr).1
        rcases Nat.lt_or_ge i listed.size with h' | h' <;> simp [h'] at h0 ⊢ <;> exact h0
      have hnot : ∀ e ∈ o.after, Region.binds .any e = true → e.on ≠ i := fun e he hb heq => by
        have h1 := hall e he hb
        rw [heq, hiun] at h1
        cases h1
      have hap := hfree j o ho hji hjun hnot
      obtain ⟨ap1, ap2, ap3⟩ := Oper.apart_spec hap
      have hicl : i ∉ cl j := fun hm => by
        have := cl_listed hc hl j j (Nat.le_refl _) o ho hall i hm
        rw [hiun] at this
        cases this
      have hsi := fun cs b => Region.noSelect_spec hsel i oi cs b hi
      have hsj := fun cs b => Region.noSelect_spec hsel j o cs b ho
      have h2 := opR_put hsj (fun k hk => ap1 k hk) (fun k hk => ap2 k hk) h1
      refine opR_mono h2 fun u w2 ⟨k1, k2⟩ => ?_
      have kp : ∀ p ∈ pend, p.1 ∉ cl j → ∀ op, ops[p.1]? = some op → Y P ops op p.2 (a.put o.dst u) w2 := fun p hpm hpc op hop =>
        (Y.put (Region.noSelect_spec hsel _ _ · · hop) (hpd p hpm op hop)).1 (k1 p hpm hpc op hop)
      refine ⟨kp, ?_⟩
      have kyi : ∀ w, Y P ops oi v (a.put o.dst u) w := fun w => (Y.put hsi (fun k hk => ap3 k hk)).2 (hy w)
      refine ih (listed.setIfInBounds j true) _ (a.put o.dst u) w2 (closed_set hl hj) ?_ (ready_mono hr (Ne.symm hji)) ?_ ?_ kyi ?_
      · intro k ok hk hki hun hno
        refine hfree k ok hk hki ?_ hno
        by_cases hjk : j = k
        · subst hjk; exact hjun
        · rw [getD_set_ne true hjk] at hun; exact hun
      · intro p hpm op hop
        rw [List.mem_filter] at hpm
        exact kp p hpm.1 (by simpa using hpm.2) op hop
      · intro p hpm
        rw [List.mem_filter] at hpm
        exact hpd p hpm.1
      · rw [Array.setIfInBounds_comm _ _ hji]
        exact k2
end
end Go.Proofs.YtjkbjppopdfggaaDoor.Den
