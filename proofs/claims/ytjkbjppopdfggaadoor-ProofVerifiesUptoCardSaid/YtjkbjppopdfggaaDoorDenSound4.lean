/-
  STRUCTURED CODE: how it is resolved, and that its denotation is right.
  Own work. No macro, syntax, notation, axiom.
-/
import Derived.Test.YtjkbjppopdfggaaDoorDenSound3
import Derived.TacticsIn
import Derived.OrdersIn
import Derived.RangeFuncCalls
namespace Go.Proofs.YtjkbjppopdfggaaDoor.Den
open Go

/-! ### Frames -/
structure Ok (n : Nat) (d0 : List Deferred) (a : Act) (e : Env) : Prop where
  size : a.tmps.size = n
  defers : a.defers = d0
  at' : ∀ t v, find e t = some v → a.tmps[t]? = some v
theorem find_cons (k : Nat) (v : Value) (e : Env) (t : Nat) : find ((k, v) :: e) t = if k = t then some v else find e t := by
  show (bif Nat.beq k t then some v else find e t) = _
  cases h : Nat.beq k t
  · have : k ≠ t := fun e => by subst e; simp at h
    simp [this]
  · have : k = t := Nat.eq_of_beq_eq_true h
    simp [this]
theorem Ok.eval {n : Nat} {d0 : List Deferred} {a : Act} {e : Env} (h : Ok n d0 a e) : ∀ x v, rd e x = some v → a.eval x = v := by
  intro x v hx
  cases x with
  | tmp t => have := h.at' t v hx; simp [Act.eval, this]
  | const c => exact Option.some.inj hx
  | global g => exact Option.some.inj hx
  | func f => exact Option.some.inj hx
theorem Ok.put {n : Nat} {d0 : List Deferred} {a : Act} {e : Env} (h : Ok n d0 a e) {dst : Option Nat} (hd : ∀ d, dst = some d → d < n) (v : Value) : Ok n d0 (a.put dst v) (put dst v e) := by
  cases dst with
  | none => exact h
  | some d =>
    have hd := hd d rfl
    refine ⟨by simp [Act.put, h.size], h.defers, fun t u ht => ?_⟩
    simp only [Den.put] at ht
    rw [find_cons] at ht
    by_cases hdt : d = t
    · subst hdt
      simp only [if_true] at ht
      cases ht
      simp [Act.put, h.size, hd]
    · rw [if_neg hdt] at ht
      simp only [Act.put]
      rw [Array.getElem?_setIfInBounds_ne hdt]
      exact h.at' t u ht
theorem Ok.bool {n : Nat} {d0 : List Deferred} {a : Act} {e : Env} (h : Ok n d0 a e) {g : Nat} {t : Bool} (hf : find e g = some (.bool t)) : Ok n d0 a ((g, .bool t) :: e) := by
  refine ⟨h.size, h.defers, fun k u hk => ?_⟩
  rw [find_cons] at hk
  split at hk
  · rename_i hgk; subst hgk; cases hk; exact h.at' _ _ hf
  · exact h.at' k u hk
theorem keepK_spec {e : Env} : ∀ {ks : List Nat} {K : Env → Prop}, keepK e ks K → ∃ e' : Env, (∀ t v, find e' t = some v → t ∈ ks ∧ find e t = some v) ∧ K e'
  | [], _, h => ⟨[], ⟨fun _ _ hf => (nomatch hf), h⟩⟩
  | k :: ks, K, h => by
    unfold keepK at h
    split at h
    · rename_i v hv
      obtain ⟨e', h1, h2⟩ := keepK_spec h
      refine ⟨_, ⟨fun t u ht => ?_, h2⟩⟩
      rw [find_cons] at ht
      split at ht
      · rename_i hk; subst hk; cases ht; exact ⟨by simp, hv⟩
      · have := h1 t u ht; exact ⟨by simp [this.1], this.2⟩
    · exact h.elim
theorem Ok.keep {n : Nat} {d0 : List Deferred} {a : Act} {e e' : Env} (h : Ok n d0 a e) (hk : ∀ t v, find e' t = some v → find e t = some v) : Ok n d0 a e' :=
  ⟨h.size, h.defers, fun t v hf => h.at' t v (hk t v hf)⟩

theorem rdK_mono {e : Env} {x : Operand} {K K' : Value → Prop} (h : rdK e x K) (hK : ∀ v, K v → K' v) : rdK e x K' := by
  unfold rdK at *
  split <;> rename_i hr <;> rw [hr] at h <;> first | exact hK _ h | exact h
theorem rdo_mono {e : Env} {x : Option Operand} {K K' : Option Value → Prop} (h : rdo e x K) (hK : ∀ v, K v → K' v) : rdo e x K' := by
  cases x with
  | none => exact hK _ h
  | some y => exact rdK_mono h fun v => hK (some v)
theorem rdsK_mono {e : Env} : ∀ {l : List Operand} {K K' : List Value → Prop}, rdsK e l K → (∀ v, K v → K' v) → rdsK e l K'
  | [], _, _, h, hK => hK _ h
  | _ :: _, _, _, h, hK => rdK_mono h fun _ h => rdsK_mono h fun _ => hK _
theorem rdps_mono {e : Env} : ∀ {l : List (Nat × Operand)} {K K' : List (Nat × Value) → Prop}, rdps e l K → (∀ v, K v → K' v) → rdps e l K'
  | [], _, _, h, hK => hK _ h
  | _ :: _, _, _, h, hK => rdK_mono h fun _ h => rdps_mono h fun _ => hK _
theorem exTy_mono {t : Ty} {F F' : Value → Prop} (h : exTy t F) (hF : ∀ v, F v → F' v) : exTy t F' := by
  cases t <;> simp only [exTy] at h ⊢
  case sl => obtain ⟨a, n, c, h⟩ := h; exact ⟨a, n, c, hF _ h⟩
  all_goals obtain ⟨a, h⟩ := h; exact ⟨a, hF _ h⟩
theorem exTys_mono : ∀ {ts : List Ty} {F F' : List Value → Prop}, exTys ts F → (∀ v, F v → F' v) → exTys ts F'
  | [], _, _, h, hF => hF _ h
  | _ :: _, _, _, h, hF => exTy_mono h fun _ h => exTys_mono h fun _ => hF _
theorem intro_mono {t : Ty} {v : Value} {K K' : Value → Prop} (h : intro t v K) (hK : ∀ v, K v → K' v) : intro t v K' := exTy_mono h fun _ h => ⟨h.1, hK _ h.2⟩
theorem bnd_mono {v : Option Value} {d top : Nat} {F F' : Nat → Prop} (h : bnd v d top F) (hF : ∀ x, F x → F' x) : bnd v d top F' := by
  unfold bnd at *
  split at h
  · exact hF _ h
  · exact ⟨h.1, h.2.1, hF _ h.2.2⟩
  · exact h
theorem retK_mono {ts : List Ty} {e : Ending} {K K' : Value → Prop} (h : retK ts e K) (hK : ∀ v, K v → K' v) : retK ts e K' := by
  unfold retK at *
  split at h
  · exact ⟨h.1, hK _ h.2⟩
  · exact exTy_mono h fun _ h => ⟨h.1, hK _ h.2⟩
  · exact exTys_mono h fun _ h => ⟨h.1, hK _ h.2⟩
theorem bif_mono {b : Bool} {p q : Prop} (h : bif b then p else False) (hpq : p → q) : bif b then q else False := by
  cases b
  · exact h
  · exact hpq h
theorem nilQ_mono {k : Nat} {v : Value} {K K' : Bool → Prop} (h : nilQ k v K) (hK : ∀ b, K b → K' b) : nilQ k v K' := by
  obtain ⟨b, h1, h2⟩ := nilQ_spec h
  exact nilQ_mk h1 (hK b h2)
theorem denBin_mono {op : BinOp} {a b : Value} {F F' : Value → Prop} (h : denBin op a b F) (hF : ∀ v, F v → F' v) : denBin op a b F' := by
  unfold denBin at *
  split at h
  · cases op <;> simp only at h ⊢
    case shl => exact ⟨h.1, hF _ h.2⟩
    case shr => exact ⟨h.1, hF _ h.2⟩
    case quo => exact bif_mono h fun h => ⟨h.1, hF _ h.2⟩
    case rem => exact bif_mono h fun h => ⟨h.1, hF _ h.2⟩
    all_goals exact bif_mono h (hF _)
  · cases op <;> simp only at h ⊢
    case add => exact ⟨h.1, hF _ h.2⟩
    case eql => exact hF _ h
    case neq => exact hF _ h
  · exact h
theorem denUn_mono {op : UnOp} {a : Value} {F F' : Value → Prop} (h : denUn op a F) (hF : ∀ v, F v → F' v) : denUn op a F' := by
  unfold denUn at *
  split at h <;> first | exact hF _ h | exact h
theorem CallK_mono {P : Program} {f : FuncId} {args : Array Value} {ts : List Ty} {w : World} {K K' : Value → World → Prop} (h : CallK P f args ts w K) (hK : ∀ v w, K v w → K' v w) : CallK P f args ts w K' :=
  Calls.mono h fun _ _ h => retK_mono h fun _ => hK _ _
theorem RunsTo.mono {P : Program} {Z : Pan} {s : Sem Next} {w : World} {K K' : Value → World → Prop} (h : RunsTo P Z s w K) (hK : ∀ v w', K v w' → K' v w') : RunsTo P Z s w K' := by
  unfold RunsTo at h ⊢
  split
  · rename_i hr; rw [hr] at h; exact hK _ _ h
  · rename_i hr; rw [hr] at h; exact hK _ _ h
  · rename_i hr; rw [hr] at h; exact Calls.mono h fun _ _ h => orPan_mono h (fun _ h => h) fun ⟨v, a, b⟩ => ⟨v, a, hK _ _ b⟩
  · rename_i hr; rw [hr] at h; exact RoundIn.mono h fun _ _ h => orPan_mono h (fun _ h => h) fun ⟨v, a, b⟩ => ⟨v, a, hK _ _ b⟩
  · rename_i hr; rw [hr] at h; exact h
  · rename_i h1 h2 h3 h5 h4
    split at h
    · rename_i hr; exact h1 _ _ hr
    · rename_i hr; exact h2 _ hr
    · rename_i hr; exact h3 _ _ _ hr
    · rename_i hr; exact h5 _ _ _ _ _ _ hr
    · rename_i hr; exact h4 _ _ hr
    · exact h
theorem denI_mono {P : Program} {Z : Pan} {i : I} {ty : Ty} {e : Env} {w : World} {K K' : Value → World → Prop} (h0 : denI P Z i ty e w K) (hK : ∀ v w, K v w → K' v w) : denI P Z i ty e w K' := by
  cases i
  case mv x => exact rdK_mono h0 fun _ => hK _ _
  case nc x => exact rdK_mono h0 fun v h => ncK_mono h (hK _ _)
  case pick c a b =>
    refine rdK_mono h0 fun v h => ?_
    cases v <;> first | exact (show False from h).elim | skip
    rename_i t
    cases t
    · exact rdK_mono (show rdK e b fun v => K v w from h) fun _ => hK _ _
    · exact rdK_mono (show rdK e a fun v => K v w from h) fun _ => hK _ _
  case bin op x y => exact rdK_mono h0 fun _ h => rdK_mono h fun _ h => denBin_mono h fun _ => hK _ _
  case eqB neg x y =>
    refine rdK_mono h0 fun a h1 => rdK_mono h1 fun b h => ?_
    cases a <;> first | exact (show False from h).elim | skip
    cases b <;> first | exact (show False from h).elim | skip
    exact hK _ _ h
  case nilEq neg k x => exact rdK_mono h0 fun _ h => nilQ_mono h fun _ => hK _ _
  case eqG op t x y => exact rdK_mono h0 fun _ h => rdK_mono h fun _ ⟨r, h1, h2⟩ => ⟨r, h1, hK _ _ h2⟩
  case un op x => exact rdK_mono h0 fun _ h => denUn_mono h fun _ => hK _ _
  case cv k x =>
    refine rdK_mono h0 fun a h => ?_
    cases a <;> first | exact (show False from h).elim | skip
    exact hK _ _ h
  case alloc T => exact fun w' hw => hK _ _ (h0 w' hw)
  case box T x => exact rdK_mono h0 fun _ h w' hw => hK _ _ (h w' hw)
  case bld T p parts => exact rdps_mono h0 fun _ ⟨cs, h1, h2⟩ => ⟨cs, h1, hK _ _ h2⟩
  case bldS T len size parts => exact rdps_mono h0 fun _ ⟨cs, h1, h2⟩ => ⟨cs, h1, fun w' hw => hK _ _ (h2 w' hw)⟩
  case bld0 T len => exact fun w' hw => hK _ _ (h0 w' hw)
  case ld1 x =>
    refine rdK_mono h0 fun a h => ?_
    obtain ⟨a, rfl, hptr⟩ := ptrK_spec h
    replace h := hptr
    exact exTy_mono h fun _ h => ⟨h.1, hK _ _ h.2⟩
  case ldN n x =>
    refine rdK_mono h0 fun a h => ?_
    obtain ⟨a, rfl, hptr⟩ := ptrK_spec h
    replace h := hptr
    obtain ⟨cs, h1, h2, h3⟩ := h
    exact ⟨cs, h1, h2, hK _ _ h3⟩
  case st1 x v =>
    refine rdK_mono h0 fun a h1 => rdK_mono h1 fun b h => ?_
    obtain ⟨a, rfl, hptr⟩ := ptrK_spec h
    replace h := hptr
    exact ⟨h.1, h.2.1, h.2.2.1, fun w' hw => hK _ _ (h.2.2.2 w' hw)⟩
  case stN n x v =>
    refine rdK_mono h0 fun a h1 => rdK_mono h1 fun b h => ?_
    obtain ⟨a, rfl, hptr⟩ := ptrK_spec h
    replace h := hptr
    cases b <;> first | exact (show False from h).elim | skip
    exact ⟨h.1, h.2.1, h.2.2.1, fun w' hw => hK _ _ (h.2.2.2 w' hw)⟩
  case fa off x =>
    refine rdK_mono h0 fun a h => ?_
    obtain ⟨a, rfl, hptr⟩ := ptrK_spec h
    replace h := hptr
    exact hK _ _ h
  case fld off x =>
    refine rdK_mono h0 fun a h => ?_
    cases a <;> first | exact (show False from h).elim | skip
    exact exTy_mono h fun _ h => ⟨h.1, hK _ _ h.2⟩
  case fldN off n x =>
    refine rdK_mono h0 fun a h => ?_
    cases a <;> first | exact (show False from h).elim | skip
    exact hK _ _ h
  case ia size x i =>
    refine rdK_mono h0 fun a h1 => rdK_mono h1 fun b h => ?_
    cases a <;> first | exact (show False from h).elim | skip
    rename_i a n c
    cases b <;> first | exact (show False from h).elim | skip
    obtain ⟨k1, k2, k3⟩ := h
    obtain ⟨b, rfl, k4⟩ := optK_spec k3
    exact ⟨k1, k2, hK _ _ k4⟩
  case iaA n size x i =>
    refine rdK_mono h0 fun a h1 => rdK_mono h1 fun b h => ?_
    obtain ⟨a, rfl, hptr⟩ := ptrK_spec h
    replace h := hptr
    cases b <;> first | exact (show False from h).elim | skip
    exact ⟨h.1, h.2.1, hK _ _ h.2.2⟩
  case ixA n size x i =>
    refine rdK_mono h0 fun a h1 => rdK_mono h1 fun b h => ?_
    cases a <;> first | exact (show False from h).elim | skip
    cases b <;> first | exact (show False from h).elim | skip
    exact ⟨h.1, h.2.1, exTy_mono h.2.2 fun _ h => ⟨h.1, hK _ _ h.2⟩⟩
  case ixN n size x i =>
    refine rdK_mono h0 fun a h1 => rdK_mono h1 fun b h => ?_
    cases a <;> first | exact (show False from h).elim | skip
    cases b <;> first | exact (show False from h).elim | skip
    exact ⟨h.1, h.2.1, hK _ _ h.2.2⟩
  case ixS x i =>
    refine rdK_mono h0 fun a h1 => rdK_mono h1 fun b h => ?_
    cases a <;> first | exact (show False from h).elim | skip
    cases b <;> first | exact (show False from h).elim | skip
    obtain ⟨h1, d, h2, h3⟩ := h
    exact ⟨h1, d, h2, hK _ _ h3⟩
  case slS size x lo hi mx =>
    refine rdK_mono h0 fun a h1 => rdo_mono h1 fun _ h2 => rdo_mono h2 fun _ h3 => rdo_mono h3 fun _ h => ?_
    cases a <;> first | exact (show False from h).elim | skip
    exact bnd_mono h fun _ h => bnd_mono h fun _ h => bnd_mono h fun _ => hK _ _
  case slA n size x lo hi mx =>
    refine rdK_mono h0 fun a h1 => rdo_mono h1 fun _ h2 => rdo_mono h2 fun _ h3 => rdo_mono h3 fun _ h => ?_
    obtain ⟨a, rfl, hptr⟩ := ptrK_spec h
    replace h := hptr
    exact bnd_mono h fun _ h => bnd_mono h fun _ h => bnd_mono h fun _ => hK _ _
  case slT x lo hi =>
    refine rdK_mono h0 fun a h1 => rdo_mono h1 fun _ h2 => rdo_mono h2 fun _ h => ?_
    cases a <;> first | exact (show False from h).elim | skip
    exact bnd_mono h fun _ h => bnd_mono h fun _ => hK _ _
  case len x =>
    refine rdK_mono h0 fun a h => ?_
    cases a <;> first | exact (show False from h).elim | skip
    exact hK _ _ h
  case lenT x =>
    refine rdK_mono h0 fun a h => ?_
    cases a <;> first | exact (show False from h).elim | skip
    exact hK _ _ h
  case app ats T x y => exact rdK_mono h0 fun _ h => rdK_mono h fun _ ⟨v, w', h1, h2⟩ => ⟨v, w', h1, intro_mono h2 fun _ => hK _ _⟩
  case cpy ats T x y => exact rdK_mono h0 fun _ h => rdK_mono h fun _ ⟨v, w', h1, h2⟩ => ⟨v, w', h1, intro_mono h2 fun _ => hK _ _⟩
  case mk T x y => exact rdK_mono h0 fun _ h => rdK_mono h fun _ ⟨v, w', h1, h2⟩ => ⟨v, w', h1, intro_mono h2 fun _ => hK _ _⟩
  case mkI T x => exact rdK_mono h0 fun _ => hK _ _
  case mkM T => exact fun w' hw => hK _ _ (h0 w' hw)
  case look T x i ok => exact rdK_mono h0 fun _ h => rdK_mono h fun _ ⟨v, h1, h2⟩ => ⟨v, h1, intro_mono h2 fun _ => hK _ _⟩
  case upd T m k v => exact rdK_mono h0 fun _ h => rdK_mono h fun _ h => rdK_mono h fun _ ⟨w', h1, h2⟩ => ⟨w', h1, hK _ _ h2⟩
  case ext i x =>
    refine rdK_mono h0 fun a h => ?_
    obtain ⟨vs, rfl, h2⟩ := tupK_spec h
    exact exTy_mono h2 fun _ h => ⟨h.1, hK _ _ h.2⟩
  case call f args ts => exact rdsK_mono h0 fun _ h => CallK_mono h hK
  case callv f args ts =>
    refine rdK_mono h0 fun a h1 => rdsK_mono h1 fun vs h => ?_
    rcases fvK_spec h with ⟨g, fi, c, rfl, h2, h3⟩ | ⟨l, fi, c, rfl, fn, tmps, asn, bd, h2, h3⟩
    · exact ⟨h2, Calls.mono h3 fun _ _ h => retK_mono h fun _ => hK _ _⟩
    · exact ⟨fn, tmps, asn, bd, h2, RoundIn.mono h3 fun _ _ h => retK_mono h fun _ => hK _ _⟩
  case inv x name args ts => exact rdK_mono h0 fun _ h => rdsK_mono h fun _ ⟨t, v, g, r, h1, h2, h3, h4⟩ => ⟨t, v, g, r, h1, h2, h3, CallK_mono h4 hK⟩
  case rv r xs => exact rdsK_mono h0 fun _ ⟨v, w', h1, h2⟩ => ⟨v, w', h1, intro_mono h2 fun _ => hK _ _⟩
  case mkF f a c => exact rdsK_mono h0 fun _ h => rdsK_mono h fun _ => hK _ _
  case est T m s v => exact rdK_mono h0 fun _ h => rdK_mono h fun _ h => rdK_mono h fun _ ⟨w', h1, h2⟩ => ⟨w', h1, hK _ _ h2⟩
  case callP f args ts => exact rdsK_mono h0 fun _ h => Calls.mono h fun _ _ h => orPan_mono h (fun _ h => h) fun h => retK_mono h fun _ => hK _ _
  case pan x => exact h0
  case run op T =>
    obtain ⟨h1, h2, h3⟩ := h0
    refine ⟨h1, h2, ?_⟩
    exact RunsTo.mono h3 fun v w' h => intro_mono h fun _ => hK _ _

/-! ### Operations in the text's order -/
section
variable {P : Program} {Z : Pan} {pn : List Nat}
theorem RunsTo.calm {s : Sem Next} {w : World} {K : Value → World → Prop} (h : RunsTo P noPan s w K) : RunsTo P Z s w K := by
  unfold RunsTo at h ⊢
  split
  · rename_i hr; rw [hr] at h; exact h
  · rename_i hr; rw [hr] at h; exact h
  · rename_i hr; rw [hr] at h; exact Calls.mono h fun _ _ h => orPan_mono h (fun _ h => h.elim) fun h => h
  · rename_i hr; rw [hr] at h; exact RoundIn.mono h fun _ _ h => orPan_mono h (fun _ h => h.elim) fun h => h
  · rename_i hr; rw [hr] at h; exact h.elim
  · rename_i h1 h2 h3 h5 h4
    split at h
    · rename_i hr; exact h1 _ _ hr
    · rename_i hr; exact h2 _ hr
    · rename_i hr; exact h3 _ _ _ hr
    · rename_i hr; exact h5 _ _ _ _ _ _ hr
    · rename_i hr; exact h4 _ _ hr
    · exact h
/-- No fence; within a round of a range over a function, or not. -/
def Fr (r : Option Nat) : Fence := { Fence.wide with round := r }
theorem callsFr {r : Option Nat} {m : Nat} {f : FuncId} {args : Array Value} {w : World} {R : Ending → World → Prop} : CallsIn (Fr r) m P f args w R ↔ Calls P f args w R := by
  cases r with
  | none => exact callsIn_wide
  | some l => exact Iff.trans ⟨fun h => CallsIn.outOfRound (F := Fence.wide) (l := l) h, fun h => CallsIn.inRound (F := Fence.wide) l h⟩ callsIn_wide
theorem roundFr {r : Option Nat} {m m' : Nat} {l : Nat} {f : FuncId} {tmps : Array Value} {assign body : Code} {w : World} {R : Ending → World → Prop} (h : RoundIn Fence.wide m P l f tmps assign body w R) : RoundIn (Fr r) m' P l f tmps assign body w R :=
  ⟨trivial, fun c cs _ => by
    obtain ⟨e, w', h1, h2⟩ := h.2 c cs (room_wide _)
    exact ⟨e, w', h1, h2⟩⟩
theorem RunsTo.wp {r : Option Nat} {m : Nat} {o : Oper} {a : Act} {w : World} {F : Act → World → Prop} {Q : Exit → Act → World → Prop} (h : RunsTo P Z (execOp a.eval o) w fun v w' => F (a.put o.dst v) w')
    (hz : ∀ ch w', Z ch w' → Q (.panic ch) a w') : o.wpIn (Fr r) m P a w F Q := by
  refine ⟨fun _ _ => trivial, ?_⟩
  have go : ∀ x, x = (execOp a.eval o).run P w → o.uponIn (Fr r) m P a F Q x := by
    intro x hx
    unfold RunsTo at h
    rw [← hx] at h
    split at h
    · exact h
    · exact h
    · refine ⟨fun h => (by cases h), callsFr.2 (Calls.mono h fun e w' h => ?_)⟩
      cases e with
      | returned v => obtain ⟨v', h1, h2⟩ := h; cases h1; exact h2
      | panicked ch => exact hz _ _ h
      | outgrown => obtain ⟨v', h1, h2⟩ := h; cases h1
    · refine ⟨fun h => (by cases h), roundFr (RoundIn.mono h fun e w' h => ?_)⟩
      cases e with
      | returned v => obtain ⟨v', h1, h2⟩ := h; cases h1; exact h2
      | panicked ch => exact hz _ _ h
      | outgrown => obtain ⟨v', h1, h2⟩ := h; cases h1
    · exact hz _ _ h
    · exact h.elim
  cases r with
  | none => exact go _ rfl
  | some l =>
    show o.uponIn _ m P a F Q ((o.semAt (some l) a.eval).run P w)
    obtain ⟨dst, op, T, pos, after, guard⟩ := o
    cases op
    case defer c =>
      have hr : (execOp a.eval ⟨dst, .defer c, T, pos, after, guard⟩) = (do pure (.defer (← resolve a.eval c T))) := rfl
      unfold RunsTo at h
      rw [hr] at h
      show Oper.uponIn _ m P _ a F Q (Sem.run P (do Instr.deferInRound l (← resolve a.eval c T); pure .skip) w)
      rw [Sem.run_bind] at h ⊢
      cases hres : Sem.run P (resolve a.eval c T) w with
      | ok d w' => rw [hres] at h; exact h.elim
      | halt x w' =>
        rw [hres] at h
        cases x <;> first | exact hz _ _ h | exact h.elim
    all_goals exact go _ rfl

def dstOk (n : Nat) : Option Nat → Bool
  | some d => decide (d < n)
  | none => true
def trX (P : Program) (pn : List Nat) (n : Nat) (ops : Array Oper) (o : Oper) : Option X :=
  match trOp P pn o, dstOk n o.dst with
  | some (i, ty), true =>
    match o.guard with
    | none => some ⟨o.dst, i, ty, none⟩
    | some (j, b) =>
      match (ops[j]?).bind (·.dst) with
      | some g => some ⟨o.dst, i, ty, some (g, b)⟩
      | none => none
  | _, _ => none
def trXs (P : Program) (pn : List Nat) (n : Nat) (ops : Array Oper) : List Oper → Option (List X)
  | [] => some []
  | o :: r =>
    match trX P pn n ops o, trXs P pn n ops r with
    | some x, some xs => some (x :: xs)
    | _, _ => none
/-- One operation, guard and all. -/
def opR (P : Program) (Z : Pan) (ops : Array Oper) (o : Oper) (K : Act → World → Prop) (a : Act) (w : World) : Prop :=
  if Region.wanted o (yielded ops a.tmps) then RunsTo P Z (execOp a.eval o) w fun v w' => K (a.put o.dst v) w' else K (a.put o.dst undef) w
theorem wanted_none {o : Oper} {f : Nat → Option Bool} (h : o.guard = none) : Region.wanted o f = true := by simp [Region.wanted, h]
theorem wanted_some {ops : Array Oper} {o : Oper} {a : Act} {j g : Nat} {b t : Bool} (h : o.guard = some (j, b)) (hg : (ops[j]?).bind (·.dst) = some g) (ht : a.tmps[g]? = some (.bool t)) :
    Region.wanted o (yielded ops a.tmps) = (t == b) := by
  simp [Region.wanted, h, yielded, hg, ht]
theorem gv_some {u : Value} {t : Bool} (h : gv u = some t) : u = .bool t := by
  cases u <;> simp [gv] at h
  rw [h]
theorem wanted_undef {ops : Array Oper} {o : Oper} {a : Act} {j g : Nat} {b : Bool} {u : Value} (h : o.guard = some (j, b)) (hg : (ops[j]?).bind (·.dst) = some g) (ht : a.tmps[g]? = some u) (hu : gv u = none) :
    Region.wanted o (yielded ops a.tmps) = false := by
  simp only [Region.wanted, h, yielded, hg, Option.bind_some, ht]
  cases u <;> first | rfl | simp [gv] at hu
theorem trX_dst {n : Nat} {ops : Array Oper} {o : Oper} {x : X} (h : trX P pn n ops o = some x) : x.dst = o.dst ∧ (∀ d, o.dst = some d → d < n) ∧ trOp P pn o = some (x.i, x.ty) ∧
    ((o.guard = none ∧ x.guard = none) ∨ ∃ j g b, o.guard = some (j, b) ∧ (ops[j]?).bind (·.dst) = some g ∧ x.guard = some (g, b)) := by
  unfold trX at h
  split at h
  · rename_i i ty hi hd
    have hd' : ∀ d, o.dst = some d → d < n := by
      intro d he
      rw [he] at hd
      exact of_decide_eq_true hd
    split at h
    · rename_i hg
      cases h
      exact ⟨rfl, hd', hi, .inl ⟨hg, rfl⟩⟩
    · rename_i j b hg
      split at h
      · rename_i g hgd
        cases h
        exact ⟨rfl, hd', hi, .inr ⟨j, g, b, hg, hgd, rfl⟩⟩
      · cases h
  · cases h
theorem denX_sound {n : Nat} {d0 : List Deferred} {ops : Array Oper} {o : Oper} {x : X} {e : Env} {a : Act} {w : World} {K : Env → World → Prop} (ht : trX P pn n ops o = some x) (ha : Ok n d0 a e) (hd : denX P Z x e w K) :
    opR P Z ops o (fun a' w' => ∃ e', Ok n d0 a' e' ∧ K e' w') a w := by
  obtain ⟨h1, h2, h3, h4⟩ := trX_dst ht
  unfold denX at hd
  unfold opR
  rcases h4 with ⟨hg, hxg⟩ | ⟨j, g, b, hg, hgd, hxg⟩
  · rw [hxg] at hd
    rw [if_pos (wanted_none hg)]
    refine (denI_sound h3 ha.eval hd).mono fun v w' hK => ?_
    rw [h1] at hK
    exact ⟨_, ha.put h2 v, hK⟩
  · rw [hxg] at hd
    simp only at hd
    split at hd
    · rename_i u hf
      cases hgv : gv u with
      | none =>
        rw [hgv] at hd
        rw [if_neg (by rw [wanted_undef hg hgd (ha.at' _ _ hf) hgv]; simp)]
        rw [h1] at hd
        exact ⟨_, ha.put h2 undef, hd⟩
      | some t =>
      rw [hgv] at hd
      obtain rfl := gv_some hgv
      rw [wanted_some hg hgd (ha.at' _ _ hf)]
      have hbr : bif (t == b) then denI P Z x.i x.ty ((g, .bool t) :: e) w (fun v w' => K (put x.dst v ((g, .bool t) :: e)) w') else K (put x.dst undef ((g, .bool t) :: e)) w := by
        cases t <;> exact hd
      cases htb : (t == b)
      · rw [htb] at hbr
        simp only [Bool.false_eq_true, if_false]
        rw [h1] at hbr
        exact ⟨_, (ha.bool hf).put h2 undef, hbr⟩
      · rw [htb] at hbr
        simp only [if_true]
        refine (denI_sound h3 (ha.bool hf).eval hbr).mono fun v w' hK => ?_
        rw [h1] at hK
        exact ⟨_, (ha.bool hf).put h2 v, hK⟩
    · exact hd.elim
theorem denOps_sound {n m : Nat} {r0 : Option Nat} {d0 : List Deferred} {ops : Array Oper} {Q : Exit → Act → World → Prop} (hz : ∀ ch a' w', a'.defers = d0 → Z ch w' → Q (.panic ch) a' w') : ∀ {l : List Oper} {xs : List X} {e : Env} {a : Act} {w : World} {K : Env → World → Prop}, trXs P pn n ops l = some xs → Ok n d0 a e → denOps P Z xs e w K →
    (∀ a' e' w', Ok n d0 a' e' → (∀ t, (∀ o ∈ l, o.dst ≠ some t) → a'.tmps[t]? = a.tmps[t]?) → K e' w' → Q .normal a' w') → wpListIn (Fr r0) m P ops Q l a w
  | [], xs, e, a, w, K, ht, ha, hd, hq => by
    cases ht
    exact hq a e w ha (fun _ _ => rfl) hd
  | o :: r, xs, e, a, w, K, ht, ha, hd, hq => by
    unfold trXs at ht
    split at ht
    · rename_i x xs' hx hxs
      cases ht
      have hs := denX_sound hx ha hd
      unfold opR at hs
      unfold wpListIn
      have step : ∀ v w', (∃ e', Ok n d0 (a.put o.dst v) e' ∧ denOps P Z xs' e' w' K) → wpListIn (Fr r0) m P ops Q r (a.put o.dst v) w' := by
        intro v w' ⟨e', hok, hden⟩
        refine denOps_sound hz hxs hok hden fun a' e'' w'' h1 h2 h3 => hq a' e'' w'' h1 (fun t htn => ?_) h3
        rw [h2 t (fun o' ho' => htn o' (by simp [ho']))]
        have hne := htn o (by simp)
        cases hdst : o.dst with
        | none => rfl
        | some d =>
          simp only [Act.put]
          exact Array.getElem?_setIfInBounds_ne (fun e => hne (by rw [hdst, e]))
      split
      · rename_i hw
        rw [if_pos hw] at hs
        exact RunsTo.wp (hs.mono fun v w' h => step v w' h) fun ch w' h => hz ch a w' ha.defers h
      · rename_i hw
        rw [if_neg hw] at hs
        exact ⟨fun _ _ => trivial, step _ _ hs⟩
    · cases ht
end
end Go.Proofs.YtjkbjppopdfggaaDoor.Den
