/-
  STRUCTURED CODE: how it is resolved, and that its denotation is right.
  REGIONS THAT DRAW THEIR ORDER: a read may be taken first, if what acts beside it leaves it as it is.
  REGIONS THAT DRAW THEIR ORDER: the walk 'D' is right.
  REGIONS THAT DRAW THEIR ORDER: 'trD', 'denD_sound'.
  Own work. No macro, syntax, notation, axiom.
-/
import Derived.Test.YtjchneebdlncfaaDoorFormPk1
import Derived.TacticsIn
import Derived.OrdersIn
import Derived.RangeFuncCalls
namespace Go.Proofs.YtjchneebdlncfaaDoor.Den
open Go
/-! ### Frames -/
structure Ok (n : Nat) (d0 : List Deferred) (a : Act) (e : Env) : Prop where
  size : a.tmps.size = n
  defers : a.defers = d0
  at' : ∀ t v, find e t = some v → a.tmps[t]? = some v
theorem find_cons (k : Nat) (v : Value) (e : Env) (t : Nat) : find ((k, v) :: e) t = if k = t then some v else find e t := by
  show (bif Nat.beq k t then some v else find e t) = _
  cases h : Nat.beq k t
  · have : k ≠ t := fun e => by subst e; simp at h
    simp [this]
  · have : k = t := Nat.eq_of_beq_eq_true h
    simp [this]
theorem Ok.eval {n : Nat} {d0 : List Deferred} {a : Act} {e : Env} (h : Ok n d0 a e) : ∀ x v, rd e x = some v → a.eval x = v := by
  intro x v hx
  cases x with
  | tmp t => have := h.at' t v hx; simp [Act.eval, this]
  | const c => exact Option.some.inj hx
  | global g => exact Option.some.inj hx
  | func f => exact Option.some.inj hx
theorem Ok.put {n : Nat} {d0 : List Deferred} {a : Act} {e : Env} (h : Ok n d0 a e) {dst : Option Nat} (hd : ∀ d, dst = some d → d < n) (v : Value) : Ok n d0 (a.put dst v) (put dst v e) := by
  cases dst with
  | none => exact h
  | some d =>
    have hd := hd d rfl
    refine ⟨by simp [Act.put, h.size], h.defers, fun t u ht => ?_⟩
    simp only [Den.put] at ht
    rw [find_cons] at ht
    by_cases hdt : d = t
    · subst hdt
      simp only [if_true] at ht
      cases ht
      simp [Act.put, h.size, hd]
    · rw [if_neg hdt] at ht
      simp only [Act.put]
      rw [Array.getElem?_setIfInBounds_ne hdt]
      exact h.at' t u ht
theorem Ok.bool {n : Nat} {d0 : List Deferred} {a : Act} {e : Env} (h : Ok n d0 a e) {g : Nat} {t : Bool} (hf : find e g = some (.bool t)) : Ok n d0 a ((g, .bool t) :: e) := by
  refine ⟨h.size, h.defers, fun k u hk => ?_⟩
  rw [find_cons] at hk
  split at hk
  · rename_i hgk; subst hgk; cases hk; exact h.at' _ _ hf
  · exact h.at' k u hk
theorem keepK_spec {e : Env} : ∀ {ks : List Nat} {K : Env → Prop}, keepK e ks K → ∃ e' : Env, (∀ t v, find e' t = some v → t ∈ ks ∧ find e t = some v) ∧ K e'
  | [], _, h => ⟨[], ⟨fun _ _ hf => (nomatch hf), h⟩⟩
  | k :: ks, K, h => by
    unfold keepK at h
    split at h
    · rename_i v hv
      obtain ⟨e', h1, h2⟩ := keepK_spec h
      refine ⟨_, ⟨fun t u ht => ?_, h2⟩⟩
      rw [find_cons] at ht
      split at ht
      · rename_i hk; subst hk; cases ht; exact ⟨by simp, hv⟩
      · have := h1 t u ht; exact ⟨by simp [this.1], this.2⟩
    · exact h.elim
theorem Ok.keep {n : Nat} {d0 : List Deferred} {a : Act} {e e' : Env} (h : Ok n d0 a e) (hk : ∀ t v, find e' t = some v → find e t = some v) : Ok n d0 a e' :=
  ⟨h.size, h.defers, fun t v hf => h.at' t v (hk t v hf)⟩

theorem rdK_mono {e : Env} {x : Operand} {K K' : Value → Prop} (h : rdK e x K) (hK : ∀ v, K v → K' v) : rdK e x K' := by
  unfold rdK at *
  split <;> rename_i hr <;> rw [hr] at h <;> first | exact hK _ h | exact h
theorem rdo_mono {e : Env} {x : Option Operand} {K K' : Option Value → Prop} (h : rdo e x K) (hK : ∀ v, K v → K' v) : rdo e x K' := by
  cases x with
  | none => exact hK _ h
  | some y => exact rdK_mono h fun v => hK (some v)
theorem rdsK_mono {e : Env} : ∀ {l : List Operand} {K K' : List Value → Prop}, rdsK e l K → (∀ v, K v → K' v) → rdsK e l K'
  | [], _, _, h, hK => hK _ h
  | _ :: _, _, _, h, hK => rdK_mono h fun _ h => rdsK_mono h fun _ => hK _
theorem rdps_mono {e : Env} : ∀ {l : List (Nat × Operand)} {K K' : List (Nat × Value) → Prop}, rdps e l K → (∀ v, K v → K' v) → rdps e l K'
  | [], _, _, h, hK => hK _ h
  | _ :: _, _, _, h, hK => rdK_mono h fun _ h => rdps_mono h fun _ => hK _
theorem exTy_mono {t : Ty} {F F' : Value → Prop} (h : exTy t F) (hF : ∀ v, F v → F' v) : exTy t F' := by
  cases t <;> simp only [exTy] at h ⊢
  case sl => obtain ⟨a, n, c, h⟩ := h; exact ⟨a, n, c, hF _ h⟩
  all_goals obtain ⟨a, h⟩ := h; exact ⟨a, hF _ h⟩
theorem exTys_mono : ∀ {ts : List Ty} {F F' : List Value → Prop}, exTys ts F → (∀ v, F v → F' v) → exTys ts F'
  | [], _, _, h, hF => hF _ h
  | _ :: _, _, _, h, hF => exTy_mono h fun _ h => exTys_mono h fun _ => hF _
theorem intro_mono {t : Ty} {v : Value} {K K' : Value → Prop} (h : intro t v K) (hK : ∀ v, K v → K' v) : intro t v K' := exTy_mono h fun _ h => ⟨h.1, hK _ h.2⟩
theorem bnd_mono {v : Option Value} {d top : Nat} {F F' : Nat → Prop} (h : bnd v d top F) (hF : ∀ x, F x → F' x) : bnd v d top F' := by
  unfold bnd at *
  split at h
  · exact hF _ h
  · exact ⟨h.1, h.2.1, hF _ h.2.2⟩
  · exact h
theorem retK_mono {ts : List Ty} {e : Ending} {K K' : Value → Prop} (h : retK ts e K) (hK : ∀ v, K v → K' v) : retK ts e K' := by
  unfold retK at *
  split at h
  · exact ⟨h.1, hK _ h.2⟩
  · exact exTy_mono h fun _ h => ⟨h.1, hK _ h.2⟩
  · exact exTys_mono h fun _ h => ⟨h.1, hK _ h.2⟩
theorem bif_mono {b : Bool} {p q : Prop} (h : bif b then p else False) (hpq : p → q) : bif b then q else False := by
  cases b
  · exact h
  · exact hpq h
theorem nilQ_mono {k : Nat} {v : Value} {K K' : Bool → Prop} (h : nilQ k v K) (hK : ∀ b, K b → K' b) : nilQ k v K' := by
  obtain ⟨b, h1, h2⟩ := nilQ_spec h
  exact nilQ_mk h1 (hK b h2)
theorem denBin_mono {op : BinOp} {a b : Value} {F F' : Value → Prop} (h : denBin op a b F) (hF : ∀ v, F v → F' v) : denBin op a b F' := by
  unfold denBin at *
  split at h
  · cases op <;> simp only at h ⊢
    case shl => exact ⟨h.1, hF _ h.2⟩
    case shr => exact ⟨h.1, hF _ h.2⟩
    case quo => exact bif_mono h fun h => ⟨h.1, hF _ h.2⟩
    case rem => exact bif_mono h fun h => ⟨h.1, hF _ h.2⟩
    all_goals exact bif_mono h (hF _)
  · cases op <;> simp only at h ⊢
    case add => exact ⟨h.1, hF _ h.2⟩
    case eql => exact hF _ h
    case neq => exact hF _ h
  · exact h
theorem denUn_mono {op : UnOp} {a : Value} {F F' : Value → Prop} (h : denUn op a F) (hF : ∀ v, F v → F' v) : denUn op a F' := by
  unfold denUn at *
  split at h <;> first | exact hF _ h | exact h
theorem CallK_mono {P : Program} {f : FuncId} {args : Array Value} {ts : List Ty} {w : World} {K K' : Value → World → Prop} (h : CallK P f args ts w K) (hK : ∀ v w, K v w → K' v w) : CallK P f args ts w K' :=
  Calls.mono h fun _ _ h => retK_mono h fun _ => hK _ _
theorem RunsTo.mono {P : Program} {Z : Pan} {s : Sem Next} {w : World} {K K' : Value → World → Prop} (h : RunsTo P Z s w K) (hK : ∀ v w', K v w' → K' v w') : RunsTo P Z s w K' := by
  unfold RunsTo at h ⊢
  split
  · rename_i hr; rw [hr] at h; exact hK _ _ h
  · rename_i hr; rw [hr] at h; exact hK _ _ h
  · rename_i hr; rw [hr] at h; exact Calls.mono h fun _ _ h => orPan_mono h (fun _ h => h) fun ⟨v, a, b⟩ => ⟨v, a, hK _ _ b⟩
  · rename_i hr; rw [hr] at h; exact RoundIn.mono h fun _ _ h => orPan_mono h (fun _ h => h) fun ⟨v, a, b⟩ => ⟨v, a, hK _ _ b⟩
  · rename_i hr; rw [hr] at h; exact h
  · rename_i h1 h2 h3 h5 h4
    split at h
    · rename_i hr; exact h1 _ _ hr
    · rename_i hr; exact h2 _ hr
    · rename_i hr; exact h3 _ _ _ hr
    · rename_i hr; exact h5 _ _ _ _ _ _ hr
    · rename_i hr; exact h4 _ _ hr
    · exact h
theorem denI_mono {P : Program} {Z : Pan} {i : I} {ty : Ty} {e : Env} {w : World} {K K' : Value → World → Prop} (h0 : denI P Z i ty e w K) (hK : ∀ v w, K v w → K' v w) : denI P Z i ty e w K' := by
  cases i
  case mv x => exact rdK_mono h0 fun _ => hK _ _
  case nc x => exact rdK_mono h0 fun v h => ncK_mono h (hK _ _)
  case pick c a b =>
    refine rdK_mono h0 fun v h => ?_
    cases v <;> first | exact (show False from h).elim | skip
    rename_i t
    cases t
    · exact rdK_mono (show rdK e b fun v => K v w from h) fun _ => hK _ _
    · exact rdK_mono (show rdK e a fun v => K v w from h) fun _ => hK _ _
  case bin op x y => exact rdK_mono h0 fun _ h => rdK_mono h fun _ h => denBin_mono h fun _ => hK _ _
  case eqB neg x y =>
    refine rdK_mono h0 fun a h1 => rdK_mono h1 fun b h => ?_
    cases a <;> first | exact (show False from h).elim | skip
    cases b <;> first | exact (show False from h).elim | skip
    exact hK _ _ h
  case nilEq neg k x => exact rdK_mono h0 fun _ h => nilQ_mono h fun _ => hK _ _
  case eqG op t x y => exact rdK_mono h0 fun _ h => rdK_mono h fun _ ⟨r, h1, h2⟩ => ⟨r, h1, hK _ _ h2⟩
  case un op x => exact rdK_mono h0 fun _ h => denUn_mono h fun _ => hK _ _
  case cv k x =>
    refine rdK_mono h0 fun a h => ?_
    cases a <;> first | exact (show False from h).elim | skip
    exact hK _ _ h
  case alloc T => exact fun w' hw => hK _ _ (h0 w' hw)
  case box T x => exact rdK_mono h0 fun _ h w' hw => hK _ _ (h w' hw)
  case bld T p parts => exact rdps_mono h0 fun _ ⟨cs, h1, h2⟩ => ⟨cs, h1, hK _ _ h2⟩
  case bldS T len size parts => exact rdps_mono h0 fun _ ⟨cs, h1, h2⟩ => ⟨cs, h1, fun w' hw => hK _ _ (h2 w' hw)⟩
  case bld0 T len => exact fun w' hw => hK _ _ (h0 w' hw)
  case ld1 x =>
    refine rdK_mono h0 fun a h => ?_
    obtain ⟨a, rfl, hptr⟩ := ptrK_spec h
    replace h := hptr
    exact exTy_mono h fun _ h => ⟨h.1, hK _ _ h.2⟩
  case ldN n x =>
    refine rdK_mono h0 fun a h => ?_
    obtain ⟨a, rfl, hptr⟩ := ptrK_spec h
    replace h := hptr
    obtain ⟨cs, h1, h2, h3⟩ := h
    exact ⟨cs, h1, h2, hK _ _ h3⟩
  case st1 x v =>
    refine rdK_mono h0 fun a h1 => rdK_mono h1 fun b h => ?_
    obtain ⟨a, rfl, hptr⟩ := ptrK_spec h
    replace h := hptr
    exact ⟨h.1, h.2.1, h.2.2.1, fun w' hw => hK _ _ (h.2.2.2 w' hw)⟩
  case stN n x v =>
    refine rdK_mono h0 fun a h1 => rdK_mono h1 fun b h => ?_
    obtain ⟨a, rfl, hptr⟩ := ptrK_spec h
    replace h := hptr
    cases b <;> first | exact (show False from h).elim | skip
    exact ⟨h.1, h.2.1, h.2.2.1, fun w' hw => hK _ _ (h.2.2.2 w' hw)⟩
  case fa off x =>
    refine rdK_mono h0 fun a h => ?_
    obtain ⟨a, rfl, hptr⟩ := ptrK_spec h
    replace h := hptr
    exact hK _ _ h
  case fld off x =>
    refine rdK_mono h0 fun a h => ?_
    cases a <;> first | exact (show False from h).elim | skip
    exact exTy_mono h fun _ h => ⟨h.1, hK _ _ h.2⟩
  case fldN off n x =>
    refine rdK_mono h0 fun a h => ?_
    cases a <;> first | exact (show False from h).elim | skip
    exact hK _ _ h
  case ia size x i =>
    refine rdK_mono h0 fun a h1 => rdK_mono h1 fun b h => ?_
    cases a <;> first | exact (show False from h).elim | skip
    rename_i a n c
    cases b <;> first | exact (show False from h).elim | skip
    obtain ⟨k1, k2, k3⟩ := h
    obtain ⟨b, rfl, k4⟩ := optK_spec k3
    exact ⟨k1, k2, hK _ _ k4⟩
  case iaA n size x i =>
    refine rdK_mono h0 fun a h1 => rdK_mono h1 fun b h => ?_
    obtain ⟨a, rfl, hptr⟩ := ptrK_spec h
    replace h := hptr
    cases b <;> first | exact (show False from h).elim | skip
    exact ⟨h.1, h.2.1, hK _ _ h.2.2⟩
  case ixA n size x i =>
    refine rdK_mono h0 fun a h1 => rdK_mono h1 fun b h => ?_
    cases a <;> first | exact (show False from h).elim | skip
    cases b <;> first | exact (show False from h).elim | skip
    exact ⟨h.1, h.2.1, exTy_mono h.2.2 fun _ h => ⟨h.1, hK _ _ h.2⟩⟩
  case ixN n size x i =>
    refine rdK_mono h0 fun a h1 => rdK_mono h1 fun b h => ?_
    cases a <;> first | exact (show False from h).elim | skip
    cases b <;> first | exact (show False from h).elim | skip
    exact ⟨h.1, h.2.1, hK _ _ h.2.2⟩
  case ixS x i =>
    refine rdK_mono h0 fun a h1 => rdK_mono h1 fun b h => ?_
    cases a <;> first | exact (show False from h).elim | skip
    cases b <;> first | exact (show False from h).elim | skip
    obtain ⟨h1, d, h2, h3⟩ := h
    exact ⟨h1, d, h2, hK _ _ h3⟩
  case slS size x lo hi mx =>
    refine rdK_mono h0 fun a h1 => rdo_mono h1 fun _ h2 => rdo_mono h2 fun _ h3 => rdo_mono h3 fun _ h => ?_
    cases a <;> first | exact (show False from h).elim | skip
    exact bnd_mono h fun _ h => bnd_mono h fun _ h => bnd_mono h fun _ => hK _ _
  case slA n size x lo hi mx =>
    refine rdK_mono h0 fun a h1 => rdo_mono h1 fun _ h2 => rdo_mono h2 fun _ h3 => rdo_mono h3 fun _ h => ?_
    obtain ⟨a, rfl, hptr⟩ := ptrK_spec h
    replace h := hptr
    exact bnd_mono h fun _ h => bnd_mono h fun _ h => bnd_mono h fun _ => hK _ _
  case slT x lo hi =>
    refine rdK_mono h0 fun a h1 => rdo_mono h1 fun _ h2 => rdo_mono h2 fun _ h => ?_
    cases a <;> first | exact (show False from h).elim | skip
    exact bnd_mono h fun _ h => bnd_mono h fun _ => hK _ _
  case len x =>
    refine rdK_mono h0 fun a h => ?_
    cases a <;> first | exact (show False from h).elim | skip
    exact hK _ _ h
  case lenT x =>
    refine rdK_mono h0 fun a h => ?_
    cases a <;> first | exact (show False from h).elim | skip
    exact hK _ _ h
  case app ats T x y => exact rdK_mono h0 fun _ h => rdK_mono h fun _ ⟨v, w', h1, h2⟩ => ⟨v, w', h1, intro_mono h2 fun _ => hK _ _⟩
  case cpy ats T x y => exact rdK_mono h0 fun _ h => rdK_mono h fun _ ⟨v, w', h1, h2⟩ => ⟨v, w', h1, intro_mono h2 fun _ => hK _ _⟩
  case mk T x y => exact rdK_mono h0 fun _ h => rdK_mono h fun _ ⟨v, w', h1, h2⟩ => ⟨v, w', h1, intro_mono h2 fun _ => hK _ _⟩
  case mkI T x => exact rdK_mono h0 fun _ => hK _ _
  case mkM T => exact fun w' hw => hK _ _ (h0 w' hw)
  case look T x i ok => exact rdK_mono h0 fun _ h => rdK_mono h fun _ ⟨v, h1, h2⟩ => ⟨v, h1, intro_mono h2 fun _ => hK _ _⟩
  case upd T m k v => exact rdK_mono h0 fun _ h => rdK_mono h fun _ h => rdK_mono h fun _ ⟨w', h1, h2⟩ => ⟨w', h1, hK _ _ h2⟩
  case ext i x =>
    refine rdK_mono h0 fun a h => ?_
    obtain ⟨vs, rfl, h2⟩ := tupK_spec h
    exact exTy_mono h2 fun _ h => ⟨h.1, hK _ _ h.2⟩
  case call f args ts => exact rdsK_mono h0 fun _ h => CallK_mono h hK
  case callv f args ts =>
    refine rdK_mono h0 fun a h1 => rdsK_mono h1 fun vs h => ?_
    rcases fvK_spec h with ⟨g, fi, c, rfl, h2, h3⟩ | ⟨l, fi, c, rfl, fn, tmps, asn, bd, h2, h3⟩
    · exact ⟨h2, Calls.mono h3 fun _ _ h => retK_mono h fun _ => hK _ _⟩
    · exact ⟨fn, tmps, asn, bd, h2, RoundIn.mono h3 fun _ _ h => retK_mono h fun _ => hK _ _⟩
  case inv x name args ts => exact rdK_mono h0 fun _ h => rdsK_mono h fun _ ⟨t, v, g, r, h1, h2, h3, h4⟩ => ⟨t, v, g, r, h1, h2, h3, CallK_mono h4 hK⟩
  case rv r xs => exact rdsK_mono h0 fun _ ⟨v, w', h1, h2⟩ => ⟨v, w', h1, intro_mono h2 fun _ => hK _ _⟩
  case mkF f a c => exact rdsK_mono h0 fun _ h => rdsK_mono h fun _ => hK _ _
  case est T m s v => exact rdK_mono h0 fun _ h => rdK_mono h fun _ h => rdK_mono h fun _ ⟨w', h1, h2⟩ => ⟨w', h1, hK _ _ h2⟩
  case callP f args ts => exact rdsK_mono h0 fun _ h => Calls.mono h fun _ _ h => orPan_mono h (fun _ h => h) fun h => retK_mono h fun _ => hK _ _
  case pan x => exact h0
  case run op T =>
    obtain ⟨h1, h2, h3⟩ := h0
    refine ⟨h1, h2, ?_⟩
    exact RunsTo.mono h3 fun v w' h => intro_mono h fun _ => hK _ _

/-! ### Operations in the text's order -/
section
variable {P : Program} {Z : Pan} {pn : List Nat}
theorem RunsTo.calm {s : Sem Next} {w : World} {K : Value → World → Prop} (h : RunsTo P noPan s w K) : RunsTo P Z s w K := by
  unfold RunsTo at h ⊢
  split
  · rename_i hr; rw [hr] at h; exact h
  · rename_i hr; rw [hr] at h; exact h
  · rename_i hr; rw [hr] at h; exact Calls.mono h fun _ _ h => orPan_mono h (fun _ h => h.elim) fun h => h
  · rename_i hr; rw [hr] at h; exact RoundIn.mono h fun _ _ h => orPan_mono h (fun _ h => h.elim) fun h => h
  · rename_i hr; rw [hr] at h; exact h.elim
  · rename_i h1 h2 h3 h5 h4
    split at h
    · rename_i hr; exact h1 _ _ hr
    · rename_i hr; exact h2 _ hr
    · rename_i hr; exact h3 _ _ _ hr
    · rename_i hr; exact h5 _ _ _ _ _ _ hr
    · rename_i hr; exact h4 _ _ hr
    · exact h
/-- No fence; within a round of a range over a function, or not. -/
def Fr (r : Option Nat) : Fence := { Fence.wide with round := r }
theorem callsFr {r : Option Nat} {m : Nat} {f : FuncId} {args : Array Value} {w : World} {R : Ending → World → Prop} : CallsIn (Fr r) m P f args w R ↔ Calls P f args w R := by
  cases r with
  | none => exact callsIn_wide
  | some l => exact Iff.trans ⟨fun h => CallsIn.outOfRound (F := Fence.wide) (l := l) h, fun h => CallsIn.inRound (F := Fence.wide) l h⟩ callsIn_wide
theorem roundFr {r : Option Nat} {m m' : Nat} {l : Nat} {f : FuncId} {tmps : Array Value} {assign body : Code} {w : World} {R : Ending → World → Prop} (h : RoundIn Fence.wide m P l f tmps assign body w R) : RoundIn (Fr r) m' P l f tmps assign body w R :=
  ⟨trivial, fun c cs _ => by
    obtain ⟨e, w', h1, h2⟩ := h.2 c cs (room_wide _)
    exact ⟨e, w', h1, h2⟩⟩
theorem RunsTo.wp {r : Option Nat} {m : Nat} {o : Oper} {a : Act} {w : World} {F : Act → World → Prop} {Q : Exit → Act → World → Prop} (h : RunsTo P Z (execOp a.eval o) w fun v w' => F (a.put o.dst v) w')
    (hz : ∀ ch w', Z ch w' → Q (.panic ch) a w') : o.wpIn (Fr r) m P a w F Q := by
  refine ⟨fun _ _ => trivial, ?_⟩
  have go : ∀ x, x = (execOp a.eval o).run P w → o.uponIn (Fr r) m P a F Q x := by
    intro x hx
    unfold RunsTo at h
    rw [← hx] at h
    split at h
    · exact h
    · exact h
    · refine ⟨fun h => (by cases h), callsFr.2 (Calls.mono h fun e w' h => ?_)⟩
      cases e with
      | returned v => obtain ⟨v', h1, h2⟩ := h; cases h1; exact h2
      | panicked ch => exact hz _ _ h
      | outgrown => obtain ⟨v', h1, h2⟩ := h; cases h1
    · refine ⟨fun h => (by cases h), roundFr (RoundIn.mono h fun e w' h => ?_)⟩
      cases e with
      | returned v => obtain ⟨v', h1, h2⟩ := h; cases h1; exact h2
      | panicked ch => exact hz _ _ h
      | outgrown => obtain ⟨v', h1, h2⟩ := h; cases h1
    · exact hz _ _ h
    · exact h.elim
  cases r with
  | none => exact go _ rfl
  | some l =>
    show o.uponIn _ m P a F Q ((o.semAt (some l) a.eval).run P w)
    obtain ⟨dst, op, T, pos, after, guard⟩ := o
    cases op
    case defer c =>
      have hr : (execOp a.eval ⟨dst, .defer c, T, pos, after, guard⟩) = (do pure (.defer (← resolve a.eval c T))) := rfl
      unfold RunsTo at h
      rw [hr] at h
      show Oper.uponIn _ m P _ a F Q (Sem.run P (do Instr.deferInRound l (← resolve a.eval c T); pure .skip) w)
      rw [Sem.run_bind] at h ⊢
      cases hres : Sem.run P (resolve a.eval c T) w with
      | ok d w' => rw [hres] at h; exact h.elim
      | halt x w' =>
        rw [hres] at h
        cases x <;> first | exact hz _ _ h | exact h.elim
    all_goals exact go _ rfl

def dstOk (n : Nat) : Option Nat → Bool
  | some d => decide (d < n)
  | none => true
def trX (P : Program) (pn : List Nat) (n : Nat) (ops : Array Oper) (o : Oper) : Option X :=
  match trOp P pn o, dstOk n o.dst with
  | some (i, ty), true =>
    match o.guard with
    | none => some ⟨o.dst, i, ty, none⟩
    | some (j, b) =>
      match (ops[j]?).bind (·.dst) with
      | some g => some ⟨o.dst, i, ty, some (g, b)⟩
      | none => none
  | _, _ => none
def trXs (P : Program) (pn : List Nat) (n : Nat) (ops : Array Oper) : List Oper → Option (List X)
  | [] => some []
  | o :: r =>
    match trX P pn n ops o, trXs P pn n ops r with
    | some x, some xs => some (x :: xs)
    | _, _ => none
/-- One operation, guard and all. -/
def opR (P : Program) (Z : Pan) (ops : Array Oper) (o : Oper) (K : Act → World → Prop) (a : Act) (w : World) : Prop :=
  if Region.wanted o (yielded ops a.tmps) then RunsTo P Z (execOp a.eval o) w fun v w' => K (a.put o.dst v) w' else K (a.put o.dst undef) w
theorem wanted_none {o : Oper} {f : Nat → Option Bool} (h : o.guard = none) : Region.wanted o f = true := by simp [Region.wanted, h]
theorem wanted_some {ops : Array Oper} {o : Oper} {a : Act} {j g : Nat} {b t : Bool} (h : o.guard = some (j, b)) (hg : (ops[j]?).bind (·.dst) = some g) (ht : a.tmps[g]? = some (.bool t)) :
    Region.wanted o (yielded ops a.tmps) = (t == b) := by
  simp [Region.wanted, h, yielded, hg, ht]
theorem gv_some {u : Value} {t : Bool} (h : gv u = some t) : u = .bool t := by
  cases u <;> simp [gv] at h
  rw [h]
theorem wanted_undef {ops : Array Oper} {o : Oper} {a : Act} {j g : Nat} {b : Bool} {u : Value} (h : o.guard = some (j, b)) (hg : (ops[j]?).bind (·.dst) = some g) (ht : a.tmps[g]? = some u) (hu : gv u = none) :
    Region.wanted o (yielded ops a.tmps) = false := by
  simp only [Region.wanted, h, yielded, hg, Option.bind_some, ht]
  cases u <;> first | rfl | simp [gv] at hu
theorem trX_dst {n : Nat} {ops : Array Oper} {o : Oper} {x : X} (h : trX P pn n ops o = some x) : x.dst = o.dst ∧ (∀ d, o.dst = some d → d < n) ∧ trOp P pn o = some (x.i, x.ty) ∧
    ((o.guard = none ∧ x.guard = none) ∨ ∃ j g b, o.guard = some (j, b) ∧ (ops[j]?).bind (·.dst) = some g ∧ x.guard = some (g, b)) := by
  unfold trX at h
  split at h
  · rename_i i ty hi hd
    have hd' : ∀ d, o.dst = some d → d < n := by
      intro d he
      rw [he] at hd
      exact of_decide_eq_true hd
    split at h
    · rename_i hg
      cases h
      exact ⟨rfl, hd', hi, .inl ⟨hg, rfl⟩⟩
    · rename_i j b hg
      split at h
      · rename_i g hgd
        cases h
        exact ⟨rfl, hd', hi, .inr ⟨j, g, b, hg, hgd, rfl⟩⟩
      · cases h
  · cases h
theorem denX_sound {n : Nat} {d0 : List Deferred} {ops : Array Oper} {o : Oper} {x : X} {e : Env} {a : Act} {w : World} {K : Env → World → Prop} (ht : trX P pn n ops o = some x) (ha : Ok n d0 a e) (hd : denX P Z x e w K) :
    opR P Z ops o (fun a' w' => ∃ e', Ok n d0 a' e' ∧ K e' w') a w := by
  obtain ⟨h1, h2, h3, h4⟩ := trX_dst ht
  unfold denX at hd
  unfold opR
  rcases h4 with ⟨hg, hxg⟩ | ⟨j, g, b, hg, hgd, hxg⟩
  · rw [hxg] at hd
    rw [if_pos (wanted_none hg)]
    refine (denI_sound h3 ha.eval hd).mono fun v w' hK => ?_
    rw [h1] at hK
    exact ⟨_, ha.put h2 v, hK⟩
  · rw [hxg] at hd
    simp only at hd
    split at hd
    · rename_i u hf
      cases hgv : gv u with
      | none =>
        rw [hgv] at hd
        rw [if_neg (by rw [wanted_undef hg hgd (ha.at' _ _ hf) hgv]; simp)]
        rw [h1] at hd
        exact ⟨_, ha.put h2 undef, hd⟩
      | some t =>
      rw [hgv] at hd
      obtain rfl := gv_some hgv
      rw [wanted_some hg hgd (ha.at' _ _ hf)]
      have hbr : bif (t == b) then denI P Z x.i x.ty ((g, .bool t) :: e) w (fun v w' => K (put x.dst v ((g, .bool t) :: e)) w') else K (put x.dst undef ((g, .bool t) :: e)) w := by
        cases t <;> exact hd
      cases htb : (t == b)
      · rw [htb] at hbr
        simp only [Bool.false_eq_true, if_false]
        rw [h1] at hbr
        exact ⟨_, (ha.bool hf).put h2 undef, hbr⟩
      · rw [htb] at hbr
        simp only [if_true]
        refine (denI_sound h3 (ha.bool hf).eval hbr).mono fun v w' hK => ?_
        rw [h1] at hK
        exact ⟨_, (ha.bool hf).put h2 v, hK⟩
    · exact hd.elim
/-- Slots outside a list are as they were. -/
def SmA (l : List Nat) (a0 a : Act) : Prop := a.tmps.size = a0.tmps.size ∧ ∀ t, t ∉ l → a.tmps[t]? = a0.tmps[t]?
theorem SmA.refl (l : List Nat) (a : Act) : SmA l a a := ⟨rfl, fun _ _ => rfl⟩
theorem SmA.put {a a0 : Act} {d : Option Nat} {v : Value} {l0 : List Nat} (hd : ∀ k, d = some k → k ∈ l0) (hs : SmA l0 a0 a) : SmA l0 a0 (a.put d v) := by
  refine ⟨?_, fun t ht => ?_⟩
  · cases d with
    | none => exact hs.1
    | some k => simp only [Act.put]; rw [Array.size_setIfInBounds]; exact hs.1
  · cases hdst : d with
    | none => exact hs.2 t ht
    | some k =>
      simp only [Act.put]
      rw [Array.getElem?_setIfInBounds_ne (fun e => ht (by rw [← e]; exact hd k hdst))]
      exact hs.2 t ht
theorem denOps_tail {l2 : List Oper} {n m : Nat} {r0 : Option Nat} {d0 : List Deferred} {ops : Array Oper} {Q : Exit → Act → World → Prop} {l0 : List Nat} {a0 : Act} (hz : ∀ ch a' w', a'.defers = d0 → SmA l0 a0 a' → Z ch w' → Q (.panic ch) a' w') : ∀ {l : List Oper} {xs : List X} {e : Env} {a : Act} {w : World} {K : Env → World → Prop}, (∀ o ∈ l, ∀ d, o.dst = some d → d ∈ l0) → SmA l0 a0 a → trXs P pn n ops l = some xs → Ok n d0 a e → denOps P Z xs e w K →
    (∀ a' e' w', Ok n d0 a' e' → (∀ t, (∀ o ∈ l, o.dst ≠ some t) → a'.tmps[t]? = a.tmps[t]?) → K e' w' → wpListIn (Fr r0) m P ops Q l2 a' w') → wpListIn (Fr r0) m P ops Q (l ++ l2) a w
  | [], xs, e, a, w, K, _, _, ht, ha, hd, hq => by
    cases ht
    exact hq a e w ha (fun _ _ => rfl) hd
  | o :: r, xs, e, a, w, K, hds, hsame, ht, ha, hd, hq => by
    unfold trXs at ht
    split at ht
    · rename_i x xs' hx hxs
      cases ht
      have hs := denX_sound hx ha hd
      unfold opR at hs
      show wpListIn (Fr r0) m P ops Q (o :: (r ++ l2)) a w
      unfold wpListIn
      have step : ∀ v w', (∃ e', Ok n d0 (a.put o.dst v) e' ∧ denOps P Z xs' e' w' K) → wpListIn (Fr r0) m P ops Q (r ++ l2) (a.put o.dst v) w' := by
        intro v w' ⟨e', hok, hden⟩
        refine denOps_tail hz (fun o' ho' => hds o' (by simp [ho'])) (hsame.put (hds o (by simp))) hxs hok hden fun a' e'' w'' h1 h2 h3 => hq a' e'' w'' h1 (fun t htn => ?_) h3
        rw [h2 t (fun o' ho' => htn o' (by simp [ho']))]
        have hne := htn o (by simp)
        cases hdst : o.dst with
        | none => rfl
        | some d =>
          simp only [Act.put]
          exact Array.getElem?_setIfInBounds_ne (fun e => hne (by rw [hdst, e]))
      split
      · rename_i hw
        rw [if_pos hw] at hs
        exact RunsTo.wp (hs.mono fun v w' h => step v w' h) fun ch w' h => hz ch a w' ha.defers hsame h
      · rename_i hw
        rw [if_neg hw] at hs
        exact ⟨fun _ _ => trivial, step _ _ hs⟩
    · cases ht
theorem denOps_sound {n m : Nat} {r0 : Option Nat} {d0 : List Deferred} {ops : Array Oper} {Q : Exit → Act → World → Prop} {l0 : List Nat} {a0 : Act} (hz : ∀ ch a' w', a'.defers = d0 → SmA l0 a0 a' → Z ch w' → Q (.panic ch) a' w') : ∀ {l : List Oper} {xs : List X} {e : Env} {a : Act} {w : World} {K : Env → World → Prop}, (∀ o ∈ l, ∀ d, o.dst = some d → d ∈ l0) → SmA l0 a0 a → trXs P pn n ops l = some xs → Ok n d0 a e → denOps P Z xs e w K →
    (∀ a' e' w', Ok n d0 a' e' → (∀ t, (∀ o ∈ l, o.dst ≠ some t) → a'.tmps[t]? = a.tmps[t]?) → K e' w' → Q .normal a' w') → wpListIn (Fr r0) m P ops Q l a w := by
  intro l xs e a w K h1 h2 h3 h4 h5 h6
  have := denOps_tail (l2 := []) (m := m) (r0 := r0) hz h1 h2 h3 h4 h5 fun a' e' w' g1 g2 g3 => h6 a' e' w' g1 g2 g3
  rwa [List.append_nil] at this
end
end Go.Proofs.YtjchneebdlncfaaDoor.Den
namespace Go.Proofs.YtjchneebdlncfaaDoor.Den
open Go
section
variable {P : Program} {Z : Pan} {pn : List Nat} {ops : Array Oper} {cl : Nat → List Nat}
theorem opR_mono {o : Oper} {K K' : Act → World → Prop} {a : Act} {w : World} (h : opR P Z ops o K a w) (hK : ∀ v w', K (a.put o.dst v) w' → K' (a.put o.dst v) w') : opR P Z ops o K' a w := by
  unfold opR at *
  split
  · rename_i hw; rw [if_pos hw] at h; exact h.mono fun v w' => hK v w'
  · rename_i hw; rw [if_neg hw] at h; exact hK _ _ h
/-- In this state it yields just this, and leaves the world alone. -/
def Y (P : Program) (ops : Array Oper) (o : Oper) (v : Value) (a : Act) (w : World) : Prop :=
  (Region.wanted o (yielded ops a.tmps) = true ∧ RunsTo P noPan (execOp a.eval o) w fun u w' => u = v ∧ w' = w) ∨
  (Region.wanted o (yielded ops a.tmps) = false ∧ v = undef)
theorem Y.opR {o : Oper} {v : Value} {a : Act} {w : World} {K : Act → World → Prop} (h : Y P ops o v a w) (hK : K (a.put o.dst v) w) : opR P Z ops o K a w := by
  unfold Den.opR
  rcases h with ⟨h1, h2⟩ | ⟨h1, rfl⟩
  · rw [if_pos h1]; exact (RunsTo.calm h2).mono fun u w' ⟨e1, e2⟩ => by rw [e1, e2]; exact hK
  · rw [if_neg (by simp [h1])]; exact hK
theorem Y.put {o : Oper} (hs : ∀ cs b, o.op ≠ .select cs b) {v : Value} {a : Act} {w : World} {d : Option Nat} {u : Value} (hd : ∀ k, d = some k → k ∉ o.looksAt ops) : Y P ops o v (a.put d u) w ↔ Y P ops o v a w := by
  unfold Y
  rw [execOp_put o hs a d u hd, wanted_put o a d u hd]
theorem opR_put {o : Oper} (hs : ∀ cs b, o.op ≠ .select cs b) {a : Act} {w : World} {d : Option Nat} {u : Value} {K : Act → World → Prop} (hd : ∀ k, d = some k → k ∉ o.looksAt ops) (hdd : ∀ k, d = some k → o.dst ≠ some k)
    (h : opR P Z ops o K (a.put d u) w) : opR P Z ops o (fun a2 w2 => K (a2.put d u) w2) a w := by
  unfold opR at *
  rw [execOp_put o hs a d u hd, wanted_put o a d u hd] at h
  split
  · rename_i hw; rw [if_pos hw] at h; exact h.mono fun v w' hk => by show K ((a.put o.dst v).put d u) w'; rw [← Act.put_comm a u v hdd]; exact hk
  · rename_i hw; rw [if_neg hw] at h; show K ((a.put o.dst undef).put d u) w; rw [← Act.put_comm a u undef hdd]; exact h

/-- Whatever order is picked from here on; what has been taken ahead reads the same behind each that acts and isn't bound to come later. -/
def anyR (P : Program) (Z : Pan) (ops : Array Oper) (cl : Nat → List Nat) (Q : Act → World → Prop) : Nat → Array Bool → List (Nat × Value) → Act → World → Prop
  | 0, listed, _, a, w => Region.ready .any ops listed = [] ∧ Q a w
  | f + 1, listed, pend, a, w =>
    (Region.ready .any ops listed = [] → Q a w) ∧
    ∀ j ∈ Region.ready .any ops listed, ∀ o, ops[j]? = some o → opR P Z ops o (fun a' w' =>
      (∀ p ∈ pend, p.1 ∉ cl j → ∀ op, ops[p.1]? = some op → Y P ops op p.2 a' w') ∧
      anyR P Z ops cl Q f (listed.setIfInBounds j true) (pend.filter fun p => !(cl j).contains p.1) a' w') a w
theorem anyR_sub {Q : Act → World → Prop} : ∀ {f : Nat} {listed : Array Bool} {p1 p2 : List (Nat × Value)} {a : Act} {w : World}, (∀ p ∈ p2, p ∈ p1) → anyR P Z ops cl Q f listed p1 a w → anyR P Z ops cl Q f listed p2 a w
  | 0, _, _, _, _, _, _, h => h
  | f + 1, listed, p1, p2, a, w, hs, h => ⟨h.1, fun j hj o ho => opR_mono (h.2 j hj o ho) fun v w' ⟨h1, h2⟩ =>
      ⟨fun p hp => h1 p (hs p hp), anyR_sub (fun p hp => by rw [List.mem_filter] at *; exact ⟨hs p hp.1, hp.2⟩) h2⟩⟩
theorem put_defers {a : Act} {d : Option Tmp} {v : Value} : (a.put d v).defers = a.defers := by cases d <;> rfl
theorem anyR_any {m : Nat} {r0 : Option Nat} {d0 : List Deferred} {Q : Act → World → Prop} {Q' : Exit → Act → World → Prop} {l0 : List Nat} {a0 : Act} (hds : ∀ o ∈ ops.toList, ∀ d, o.dst = some d → d ∈ l0) (hz : ∀ ch a' w', a'.defers = d0 → SmA l0 a0 a' → Z ch w' → Q' (.panic ch) a' w') (hQ : ∀ a w, Q a w → Q' .normal a w) : ∀ {f : Nat} {listed : Array Bool} {p : List (Nat × Value)} {a : Act} {w : World}, a.defers = d0 → SmA l0 a0 a → anyR P Z ops cl Q f listed p a w → wpAnyIn (Fr r0) m P .any ops Q' f listed a w
  | 0, _, _, _, _, _, _, h => ⟨h.1, hQ _ _ h.2⟩
  | f + 1, listed, p, a, w, hdf, hsame, h => ⟨fun h0 => hQ _ _ (h.1 h0), fun i hi => by
      unfold wpOpIn
      split
      · rename_i hn
        have := (mem_ready.1 hi).2
        rw [hn] at this
        obtain ⟨o, ho, _⟩ := this
        cases ho
      · rename_i o ho
        have h1 := h.2 i hi o ho
        unfold opR at h1
        split
        · rename_i hw
          rw [if_pos hw] at h1
          exact RunsTo.wp (h1.mono fun v w' h2 => anyR_any hds hz hQ (put_defers.trans hdf) (hsame.put (hds o (by simpa using Array.mem_of_getElem? ho))) h2.2) fun ch w' h => hz ch a w' hdf hsame h
        · rename_i hw
          rw [if_neg hw] at h1
          exact ⟨fun _ _ => trivial, anyR_any hds hz hQ (put_defers.trans hdf) (hsame.put (hds o (by simpa using Array.mem_of_getElem? ho))) h1.2⟩⟩

def Closed (ops : Array Oper) (listed : Array Bool) : Prop := ∀ j o, ops[j]? = some o → listed.getD j false = true → ∀ e ∈ o.after, Region.binds .any e = true → listed.getD e.on false = true
/-- 'cl j': all that must come before j. -/
def ClOk (ops : Array Oper) (cl : Nat → List Nat) : Prop := ∀ j o, ops[j]? = some o → ∀ k ∈ cl j, ∃ e ∈ o.after, Region.binds .any e = true ∧ (e.on = k ∨ (e.on < j ∧ k ∈ cl e.on ∧ ∃ o', ops[e.on]? = some o'))
theorem cl_listed (hc : ClOk ops cl) {listed : Array Bool} (hl : Closed ops listed) : ∀ (n j : Nat), j ≤ n → ∀ o, ops[j]? = some o → (∀ e ∈ o.after, Region.binds .any e = true → listed.getD e.on false = true) → ∀ k ∈ cl j, listed.getD k false = true
  | n, j, hn, o, ho, ha, k, hk => by
    obtain ⟨e, he, hb, h | ⟨hlt, h, o', ho'⟩⟩ := hc j o ho k hk
    · rw [← h]; exact ha e he hb
    · match n with
      | 0 => omega
      | n + 1 => exact cl_listed hc hl n e.on (by omega) o' ho' (fun e' he' hb' => hl e.on o' ho' (ha e he hb) e' he' hb') k h
theorem closed_set {listed : Array Bool} (hl : Closed ops listed) {j : Nat} (hj : j ∈ Region.ready .any ops listed) : Closed ops (listed.setIfInBounds j true) := by
  intro i o ho hi e he hb
  by_cases hij : j = i
  · subst hij
    obtain ⟨_, o', ho', ha⟩ := mem_ready.1 hj
    rw [ho] at ho'
    cases ho'
    exact getD_set_true (ha e he hb)
  · rw [getD_set_ne false hij] at hi
    exact getD_set_true (hl i o ho hi e he hb)

theorem anyR_first {Q : Act → World → Prop} (hsel : Region.noSelect ops = true) (hc : ClOk ops cl) {i : Nat} {oi : Oper} {v : Value} (hi : ops[i]? = some oi) (hself : ∀ d, oi.dst = some d → d ∉ oi.looksAt ops) :
    ∀ (f : Nat) (listed : Array Bool) (pend : List (Nat × Value)) (a : Act) (w : World), Closed ops listed →
      (∀ j oj, ops[j]? = some oj → j ≠ i → listed.getD j true = false → (∀ e ∈ oj.after, Region.binds .any e = true → e.on ≠ i) → oi.apart ops oj = true) →
      i ∈ Region.ready .any ops listed →
      (∀ p ∈ pend, ∀ op, ops[p.1]? = some op → Y P ops op p.2 a w) →
      (∀ p ∈ pend, ∀ op, ops[p.1]? = some op → ∀ d, oi.dst = some d → d ∉ op.looksAt ops) →
      Y P ops oi v a w → anyR P Z ops cl Q f (listed.setIfInBounds i true) ((i, v) :: pend) (a.put oi.dst v) w → anyR P Z ops cl Q (f + 1) listed pend a w := by
  intro f
  induction f with
  | zero =>
    intro listed pend a w _ _ hr hp hpd hy H
    refine ⟨fun h => (by rw [h] at hr; cases hr), fun j hj o ho => ?_⟩
    by_cases hji : j = i
    · subst hji
      rw [hi] at ho; cases ho
      refine hy.opR ⟨fun p hpm hpc op hop => (Y.put (Region.noSelect_spec hsel _ _ · · hop) (hpd p hpm op hop)).2 (hp p hpm op hop), H⟩
    · have := ready_mono hj hji
      rw [H.1] at this
      cases this
  | succ f ih =>
    intro listed pend a w hl hfree hr hp hpd hy H
    refine ⟨fun h => (by rw [h] at hr; cases hr), fun j hj o ho => ?_⟩
    by_cases hji : j = i
    · subst hji
      rw [hi] at ho; cases ho
      refine hy.opR ⟨fun p hpm hpc op hop => (Y.put (Region.noSelect_spec hsel _ _ · · hop) (hpd p hpm op hop)).2 (hp p hpm op hop), anyR_sub (fun p hpm => ?_) H⟩
      rw [List.mem_filter] at hpm
      exact List.mem_cons_of_mem _ hpm.1
    · have h1 := H.2 j (ready_mono hj hji) o ho
      obtain ⟨hjun, oj, hoj, hall⟩ := mem_ready.1 hj
      rw [ho] at hoj; cases hoj
      have hiun : listed.getD i false = false := by
        have h0 := (mem_ready.1 hr).1
        rcases Nat.lt_or_ge i listed.size with h' | h' <;> simp [h'] at h0 ⊢ <;> exact h0
      have hnot : ∀ e ∈ o.after, Region.binds .any e = true → e.on ≠ i := fun e he hb heq => by
        have h1 := hall e he hb
        rw [heq, hiun] at h1
        cases h1
      have hap := hfree j o ho hji hjun hnot
      obtain ⟨ap1, ap2, ap3⟩ := Oper.apart_spec hap
      have hicl : i ∉ cl j := fun hm => by
        have := cl_listed hc hl j j (Nat.le_refl _) o ho hall i hm
        rw [hiun] at this
        cases this
      have hsi := fun cs b => Region.noSelect_spec hsel i oi cs b hi
      have hsj := fun cs b => Region.noSelect_spec hsel j o cs b ho
      have h2 := opR_put hsj (fun k hk => ap1 k hk) (fun k hk => ap2 k hk) h1
      refine opR_mono h2 fun u w2 ⟨k1, k2⟩ => ?_
      have kp : ∀ p ∈ pend, p.1 ∉ cl j → ∀ op, ops[p.1]? = some op → Y P ops op p.2 (a.put o.dst u) w2 := fun p hpm hpc op hop =>
        (Y.put (Region.noSelect_spec hsel _ _ · · hop) (hpd p hpm op hop)).1 (k1 p (List.mem_cons_of_mem _ hpm) hpc op hop)
      refine ⟨kp, ?_⟩
      have kyi : Y P ops oi v (a.put o.dst u) w2 := (Y.put hsi hself).1 (k1 (i, v) (by simp) hicl oi hi)
      refine ih (listed.setIfInBounds j true) _ (a.put o.dst u) w2 (closed_set hl hj) ?_ (ready_mono hr (Ne.symm hji)) ?_ ?_ kyi ?_
      · intro k ok hk hki hun hno
        refine hfree k ok hk hki ?_ hno
        by_cases hjk : j = k
        · subst hjk; exact hjun
        · rw [getD_set_ne true hjk] at hun; exact hun
      · intro p hpm op hop
        rw [List.mem_filter] at hpm
        exact kp p hpm.1 (by simpa using hpm.2) op hop
      · intro p hpm
        rw [List.mem_filter] at hpm
        exact hpd p hpm.1
      · rw [Array.setIfInBounds_comm _ _ hji]
        have hf : (((i, v) :: pend).filter fun p => !(cl j).contains p.1) = (i, v) :: pend.filter fun p => !(cl j).contains p.1 := by
          rw [List.filter_cons, if_pos (by simpa using hicl)]
        rw [hf] at k2
        exact k2
theorem anyR_pure {Q : Act → World → Prop} (hsel : Region.noSelect ops = true) (hc : ClOk ops cl) {i : Nat} {oi : Oper} {v : Value} (hi : ops[i]? = some oi) (hself : ∀ d, oi.dst = some d → d ∉ oi.looksAt ops) :
    ∀ (f : Nat) (listed : Array Bool) (pend : List (Nat × Value)) (a : Act) (w : World), Closed ops listed →
      (∀ j oj, ops[j]? = some oj → j ≠ i → listed.getD j true = false → (∀ e ∈ oj.after, Region.binds .any e = true → e.on ≠ i) → oi.apart ops oj = true) →
      i ∈ Region.ready .any ops listed →
      (∀ p ∈ pend, ∀ op, ops[p.1]? = some op → Y P ops op p.2 a w) →
      (∀ p ∈ pend, ∀ op, ops[p.1]? = some op → ∀ d, oi.dst = some d → d ∉ op.looksAt ops) →
      (∀ w, Y P ops oi v a w) → anyR P Z ops cl Q f (listed.setIfInBounds i true) pend (a.put oi.dst v) w → anyR P Z ops cl Q (f + 1) listed pend a w := by
  intro f
  induction f with
  | zero =>
    intro listed pend a w _ _ hr hp hpd hy H
    refine ⟨fun h => (by rw [h] at hr; cases hr), fun j hj o ho => ?_⟩
    by_cases hji : j = i
    · subst hji
      rw [hi] at ho; cases ho
      refine (hy w).opR ⟨fun p hpm hpc op hop => (Y.put (Region.noSelect_spec hsel _ _ · · hop) (hpd p hpm op hop)).2 (hp p hpm op hop), H⟩
    · have := ready_mono hj hji
      rw [H.1] at this
      cases this
  | succ f ih =>
    intro listed pend a w hl hfree hr hp hpd hy H
    refine ⟨fun h => (by rw [h] at hr; cases hr), fun j hj o ho => ?_⟩
    by_cases hji : j = i
    · subst hji
      rw [hi] at ho; cases ho
      refine (hy w).opR ⟨fun p hpm hpc op hop => (Y.put (Region.noSelect_spec hsel _ _ · · hop) (hpd p hpm op hop)).2 (hp p hpm op hop), anyR_sub (fun p hpm => ?_) H⟩
      rw [List.mem_filter] at hpm
      exact hpm.1
    · have h1 := H.2 j (ready_mono hj hji) o ho
      obtain ⟨hjun, oj, hoj, hall⟩ := mem_ready.1 hj
      rw [ho] at hoj; cases hoj
      have hiun : listed.getD i false = false := by
        have h0 := (mem_ready.1 hr).1
        rcases Nat.lt_or_ge i listed.size with h' | h' <;> simp [h'] at h0 ⊢ <;> exact h0
      have hnot : ∀ e ∈ o.after, Region.binds .any e = true → e.on ≠ i := fun e he hb heq => by
        have h1 := hall e he hb
        rw [heq, hiun] at h1
        cases h1
      have hap := hfree j o ho hji hjun hnot
      obtain ⟨ap1, ap2, ap3⟩ := Oper.apart_spec hap
      have hicl : i ∉ cl j := fun hm => by
        have := cl_listed hc hl j j (Nat.le_refl _) o ho hall i hm
        rw [hiun] at this
        cases this
      have hsi := fun cs b => Region.noSelect_spec hsel i oi cs b hi
      have hsj := fun cs b => Region.noSelect_spec hsel j o cs b ho
      have h2 := opR_put hsj (fun k hk => ap1 k hk) (fun k hk => ap2 k hk) h1
      refine opR_mono h2 fun u w2 ⟨k1, k2⟩ => ?_
      have kp : ∀ p ∈ pend, p.1 ∉ cl j → ∀ op, ops[p.1]? = some op → Y P ops op p.2 (a.put o.dst u) w2 := fun p hpm hpc op hop =>
        (Y.put (Region.noSelect_spec hsel _ _ · · hop) (hpd p hpm op hop)).1 (k1 p hpm hpc op hop)
      refine ⟨kp, ?_⟩
      have kyi : ∀ w, Y P ops oi v (a.put o.dst u) w := fun w => (Y.put hsi (fun k hk => ap3 k hk)).2 (hy w)
      refine ih (listed.setIfInBounds j true) _ (a.put o.dst u) w2 (closed_set hl hj) ?_ (ready_mono hr (Ne.symm hji)) ?_ ?_ kyi ?_
      · intro k ok hk hki hun hno
        refine hfree k ok hk hki ?_ hno
        by_cases hjk : j = k
        · subst hjk; exact hjun
        · rw [getD_set_ne true hjk] at hun; exact hun
      · intro p hpm op hop
        rw [List.mem_filter] at hpm
        exact kp p hpm.1 (by simpa using hpm.2) op hop
      · intro p hpm
        rw [List.mem_filter] at hpm
        exact hpd p hpm.1
      · rw [Array.setIfInBounds_comm _ _ hji]
        exact k2
end
end Go.Proofs.YtjchneebdlncfaaDoor.Den
namespace Go.Proofs.YtjchneebdlncfaaDoor.Den
open Go
theorem rdK_char {e : Env} {x : Operand} {K : Value → Prop} (h : rdK e x K) : ∃ v, K v ∧ ∀ K' : Value → Prop, K' v → rdK e x K' := by
  obtain ⟨v, h1, h2⟩ := rdK_spec h
  exact ⟨v, h2, fun K' hK => by unfold rdK; rw [h1]; exact hK⟩
theorem rdo_char {e : Env} {x : Option Operand} {K : Option Value → Prop} (h : rdo e x K) : ∃ v, K v ∧ ∀ K' : Option Value → Prop, K' v → rdo e x K' := by
  cases x with
  | none => exact ⟨none, h, fun _ hK => hK⟩
  | some y => obtain ⟨v, h1, h2⟩ := rdK_char h; exact ⟨some v, h1, fun K' hK => h2 (fun v => K' (some v)) hK⟩
theorem rdps_char {e : Env} : ∀ {l : List (Nat × Operand)} {K : List (Nat × Value) → Prop}, rdps e l K → ∃ vs, K vs ∧ ∀ K' : List (Nat × Value) → Prop, K' vs → rdps e l K'
  | [], _, h => ⟨[], h, fun _ hK => hK⟩
  | (i, x) :: r, K, h => by
    obtain ⟨v, h1, c1⟩ := rdK_char (K := fun v => rdps e r fun vs => K ((i, v) :: vs)) h
    obtain ⟨vs, h2, c2⟩ := rdps_char h1
    exact ⟨(i, v) :: vs, h2, fun K' hK => c1 (fun v => rdps e r fun vs => K' ((i, v) :: vs)) (c2 (fun vs => K' ((i, v) :: vs)) hK)⟩
theorem rdsK_char {e : Env} : ∀ {l : List Operand} {K : List Value → Prop}, rdsK e l K → ∃ vs, K vs ∧ ∀ K' : List Value → Prop, K' vs → rdsK e l K'
  | [], _, h => ⟨[], h, fun _ hK => hK⟩
  | x :: r, K, h => by
    obtain ⟨v, h1, c1⟩ := rdK_char (K := fun v => rdsK e r fun vs => K (v :: vs)) h
    obtain ⟨vs, h2, c2⟩ := rdsK_char h1
    exact ⟨v :: vs, h2, fun K' hK => c1 (fun v => rdsK e r fun vs => K' (v :: vs)) (c2 (fun vs => K' (v :: vs)) hK)⟩
theorem exTy_char {t : Ty} {F : Value → Prop} (h : exTy t F) : ∃ v, F v ∧ ∀ F' : Value → Prop, F' v → exTy t F' := by
  cases t <;> simp only [exTy] at h ⊢
  case sl => obtain ⟨a, n, c, h⟩ := h; exact ⟨_, h, fun F' hF => ⟨a, n, c, hF⟩⟩
  all_goals obtain ⟨a, h⟩ := h; exact ⟨_, h, fun F' hF => ⟨a, hF⟩⟩
theorem bnd_char {v : Option Value} {d top : Nat} {F : Nat → Prop} (h : bnd v d top F) : ∃ x, F x ∧ ∀ F' : Nat → Prop, F' x → bnd v d top F' := by
  unfold bnd at h
  split at h
  · exact ⟨_, h, fun _ hF => hF⟩
  · exact ⟨_, h.2.2, fun _ hF => ⟨h.1, h.2.1, hF⟩⟩
  · exact h.elim
theorem bif_char {b : Bool} {p : Prop} (h : bif b then p else False) : p ∧ ∀ q : Prop, q → bif b then q else False := by
  cases b
  · exact h.elim
  · exact ⟨h, fun _ hq => hq⟩
theorem denBin_char {op : BinOp} {a b : Value} {F : Value → Prop} (h : denBin op a b F) : ∃ v, F v ∧ ∀ F' : Value → Prop, F' v → denBin op a b F' := by
  unfold denBin at h
  split at h
  · cases op <;> simp only at h
    case shl => exact ⟨_, h.2, fun F' hF => ⟨h.1, hF⟩⟩
    case shr => exact ⟨_, h.2, fun F' hF => ⟨h.1, hF⟩⟩
    case quo => exact ⟨_, (bif_char h).1.2, fun F' hF => (bif_char h).2 _ ⟨(bif_char h).1.1, hF⟩⟩
    case rem => exact ⟨_, (bif_char h).1.2, fun F' hF => (bif_char h).2 _ ⟨(bif_char h).1.1, hF⟩⟩
    all_goals exact ⟨_, (bif_char h).1, fun F' hF => (bif_char h).2 _ hF⟩
  · cases op <;> simp only at h
    case add => exact ⟨_, h.2, fun F' hF => ⟨h.1, hF⟩⟩
    case eql => exact ⟨_, h, fun F' hF => hF⟩
    case neq => exact ⟨_, h, fun F' hF => hF⟩
  · exact h.elim
theorem denUn_char {op : UnOp} {a : Value} {F : Value → Prop} (h : denUn op a F) : ∃ v, F v ∧ ∀ F' : Value → Prop, F' v → denUn op a F' := by
  unfold denUn at h
  split at h
  · exact ⟨_, h, fun F' hF => hF⟩
  · exact ⟨_, h, fun F' hF => hF⟩
  · exact ⟨_, h, fun F' hF => hF⟩
  · exact h.elim

section
variable {P : Program} {Z : Pan} {pn : List Nat}
/-- Its value hangs on nothing but its operands. -/
def Free (P : Program) (i : I) (ty : Ty) (e : Env) (v : Value) : Prop := ∀ (Z : Pan) w (K : Value → World → Prop), K v w → denI P Z i ty e w K
theorem denI_pure {i : I} {ty : Ty} {e : Env} {w : World} {K : Value → World → Prop} (hp : pureI i = true) (h : denI P Z i ty e w K) : ∃ v, K v w ∧ Free P i ty e v := by
  cases i <;> simp only [pureI, Bool.false_eq_true] at hp
  case mv x =>
    obtain ⟨v, h1, c1⟩ := rdK_char h
    exact ⟨v, h1, fun _ w K hK => c1 _ hK⟩
  case nc x =>
    obtain ⟨v, h1, c1⟩ := rdK_char h
    have h2 : K v w := by rcases ncK_spec h1 with ⟨a, rfl, h6⟩ | ⟨_, _, _, h5⟩ <;> assumption
    exact ⟨v, h2, fun _ w K hK => c1 _ (ncK_mono h1 fun _ => hK)⟩
  case pick c a b =>
    obtain ⟨v, h1, c1⟩ := rdK_char h
    cases v <;> first | exact (show False from h1).elim | skip
    rename_i t
    cases t
    · obtain ⟨u, h2, c2⟩ := rdK_char (show rdK e b fun v => K v w from h1)
      exact ⟨u, h2, fun _ w K hK => c1 _ (c2 (fun v => K v w) hK)⟩
    · obtain ⟨u, h2, c2⟩ := rdK_char (show rdK e a fun v => K v w from h1)
      exact ⟨u, h2, fun _ w K hK => c1 _ (c2 (fun v => K v w) hK)⟩
  case bin op x y =>
    obtain ⟨a, h1, c1⟩ := rdK_char h
    obtain ⟨b, h2, c2⟩ := rdK_char h1
    obtain ⟨v, h3, c3⟩ := denBin_char h2
    exact ⟨v, h3, fun _ w K hK => c1 _ (c2 _ (c3 _ hK))⟩
  case eqB neg x y =>
    obtain ⟨a, h1, c1⟩ := rdK_char h
    obtain ⟨b, h2, c2⟩ := rdK_char h1
    cases a <;> first | exact (show False from h2).elim | skip
    cases b <;> first | exact (show False from h2).elim | skip
    exact ⟨_, h2, fun _ w K hK => c1 _ (c2 _ hK)⟩
  case nilEq neg k x =>
    obtain ⟨a, hq, c1⟩ := rdK_char h
    obtain ⟨b, h1, h2⟩ := nilQ_spec hq
    exact ⟨_, h2, fun _ w K hK => c1 _ (nilQ_mk h1 hK)⟩
  case un op x =>
    obtain ⟨a, h1, c1⟩ := rdK_char h
    obtain ⟨v, h3, c3⟩ := denUn_char h1
    exact ⟨v, h3, fun _ w K hK => c1 _ (c3 _ hK)⟩
  case cv k x =>
    obtain ⟨a, h1, c1⟩ := rdK_char h
    cases a <;> first | exact (show False from h1).elim | skip
    exact ⟨_, h1, fun _ w K hK => c1 _ hK⟩
  case bld T p parts =>
    obtain ⟨vs, ⟨cs, h1, h2⟩, c1⟩ := rdps_char h
    exact ⟨_, h2, fun _ w K hK => c1 _ ⟨cs, h1, hK⟩⟩
  case fa off x =>
    obtain ⟨a, h1, c1⟩ := rdK_char h
    obtain ⟨a, rfl, hptr⟩ := ptrK_spec h1
    replace h1 := hptr
    exact ⟨_, h1, fun _ w K hK => c1 _ hK⟩
  case fld off x =>
    obtain ⟨a, h1, c1⟩ := rdK_char h
    cases a <;> first | exact (show False from h1).elim | skip
    obtain ⟨v, ⟨h2, h3⟩, c2⟩ := exTy_char h1
    exact ⟨v, h3, fun _ w K hK => c1 _ (c2 (fun u => _ ∧ K u w) ⟨h2, hK⟩)⟩
  case fldN off n x =>
    obtain ⟨a, h1, c1⟩ := rdK_char h
    cases a <;> first | exact (show False from h1).elim | skip
    exact ⟨_, h1, fun _ w K hK => c1 _ hK⟩
  case ia size x i =>
    obtain ⟨a, h1, c1⟩ := rdK_char h
    obtain ⟨b, h2, c2⟩ := rdK_char h1
    cases a <;> first | exact (show False from h2).elim | skip
    rename_i a n c
    cases b <;> first | exact (show False from h2).elim | skip
    obtain ⟨h3, h4, h5⟩ := h2
    obtain ⟨b, rfl, h5⟩ := optK_spec h5
    exact ⟨_, h5, fun _ w K hK => c1 _ (c2 _ ⟨h3, h4, hK⟩)⟩
  case iaA n size x i =>
    obtain ⟨a, h1, c1⟩ := rdK_char h
    obtain ⟨b, h2, c2⟩ := rdK_char h1
    obtain ⟨a, rfl, hptr⟩ := ptrK_spec h2
    replace h2 := hptr
    cases b <;> first | exact (show False from h2).elim | skip
    exact ⟨_, h2.2.2, fun _ w K hK => c1 _ (c2 _ ⟨h2.1, h2.2.1, hK⟩)⟩
  case ixA n size x i =>
    obtain ⟨a, h1, c1⟩ := rdK_char h
    obtain ⟨b, h2, c2⟩ := rdK_char h1
    cases a <;> first | exact (show False from h2).elim | skip
    cases b <;> first | exact (show False from h2).elim | skip
    obtain ⟨v, ⟨h3, h4⟩, c3⟩ := exTy_char h2.2.2
    exact ⟨v, h4, fun _ w K hK => c1 _ (c2 _ ⟨h2.1, h2.2.1, c3 (fun u => _ ∧ K u w) ⟨h3, hK⟩⟩)⟩
  case ixN n size x i =>
    obtain ⟨a, h1, c1⟩ := rdK_char h
    obtain ⟨b, h2, c2⟩ := rdK_char h1
    cases a <;> first | exact (show False from h2).elim | skip
    cases b <;> first | exact (show False from h2).elim | skip
    exact ⟨_, h2.2.2, fun _ w K hK => c1 _ (c2 _ ⟨h2.1, h2.2.1, hK⟩)⟩
  case ixS x i =>
    obtain ⟨a, h1, c1⟩ := rdK_char h
    obtain ⟨b, h2, c2⟩ := rdK_char h1
    cases a <;> first | exact (show False from h2).elim | skip
    cases b <;> first | exact (show False from h2).elim | skip
    obtain ⟨h3, d, h4, h5⟩ := h2
    exact ⟨_, h5, fun _ w K hK => c1 _ (c2 _ ⟨h3, d, h4, hK⟩)⟩
  case slS size x lo hi mx =>
    obtain ⟨a, h1, c1⟩ := rdK_char h
    obtain ⟨l, h2, c2⟩ := rdo_char h1
    obtain ⟨hh, h3, c3⟩ := rdo_char h2
    obtain ⟨m, h4, c4⟩ := rdo_char h3
    cases a <;> first | exact (show False from h4).elim | skip
    obtain ⟨m', h5, c5⟩ := bnd_char h4
    obtain ⟨h', h6, c6⟩ := bnd_char h5
    obtain ⟨l', h7, c7⟩ := bnd_char h6
    exact ⟨_, h7, fun _ w K hK => c1 _ (c2 _ (c3 _ (c4 _ (c5 _ (c6 _ (c7 _ hK))))))⟩
  case slA n size x lo hi mx =>
    obtain ⟨a, h1, c1⟩ := rdK_char h
    obtain ⟨l, h2, c2⟩ := rdo_char h1
    obtain ⟨hh, h3, c3⟩ := rdo_char h2
    obtain ⟨m, h4, c4⟩ := rdo_char h3
    obtain ⟨a, rfl, hptr⟩ := ptrK_spec h4
    replace h4 := hptr
    obtain ⟨m', h5, c5⟩ := bnd_char h4
    obtain ⟨h', h6, c6⟩ := bnd_char h5
    obtain ⟨l', h7, c7⟩ := bnd_char h6
    refine ⟨_, h7, fun _ w K hK => c1 _ (c2 _ (c3 _ (c4 _ ?_)))⟩
    rw [ptrK_some]
    exact c5 _ (c6 _ (c7 _ hK))
  case slT x lo hi =>
    obtain ⟨a, h1, c1⟩ := rdK_char h
    obtain ⟨l, h2, c2⟩ := rdo_char h1
    obtain ⟨hh, h3, c3⟩ := rdo_char h2
    cases a <;> first | exact (show False from h3).elim | skip
    obtain ⟨h', h6, c6⟩ := bnd_char h3
    obtain ⟨l', h7, c7⟩ := bnd_char h6
    exact ⟨_, h7, fun _ w K hK => c1 _ (c2 _ (c3 _ (c6 _ (c7 _ hK))))⟩
  case len x =>
    obtain ⟨a, h1, c1⟩ := rdK_char h
    cases a <;> first | exact (show False from h1).elim | skip
    exact ⟨_, h1, fun _ w K hK => c1 _ hK⟩
  case lenT x =>
    obtain ⟨a, h1, c1⟩ := rdK_char h
    cases a <;> first | exact (show False from h1).elim | skip
    exact ⟨_, h1, fun _ w K hK => c1 _ hK⟩
  case mkI T x =>
    obtain ⟨a, h1, c1⟩ := rdK_char h
    exact ⟨_, h1, fun _ w K hK => c1 _ hK⟩
  case mkF f a c =>
    obtain ⟨va, h1, c1⟩ := rdsK_char h
    obtain ⟨vc, h2, c2⟩ := rdsK_char h1
    exact ⟨_, h2, fun _ w K hK => c1 _ (c2 _ hK)⟩
  case ext ix x =>
    obtain ⟨a, h1, c1⟩ := rdK_char h
    obtain ⟨vs, rfl, h4⟩ := tupK_spec h1
    obtain ⟨v, ⟨h2, h3⟩, c2⟩ := exTy_char h4
    exact ⟨v, h3, fun _ w K hK => c1 _ (c2 (fun u => _ ∧ K u w) ⟨h2, hK⟩)⟩
theorem denI_read {i : I} {ty : Ty} {e : Env} {w : World} {K : Value → World → Prop} (hp : readI i = true) (h : denI P Z i ty e w K) : ∃ v, K v w ∧ ∀ (Z : Pan) (K' : Value → World → Prop), K' v w → denI P Z i ty e w K' := by
  cases i <;> simp only [readI, Bool.false_eq_true] at hp
  case ld1 x =>
    obtain ⟨a, h1, c1⟩ := rdK_char h
    obtain ⟨a, rfl, hptr⟩ := ptrK_spec h1
    replace h1 := hptr
    obtain ⟨v, ⟨h2, h3⟩, c2⟩ := exTy_char h1
    exact ⟨v, h3, fun _ K hK => c1 _ (c2 (fun u => _ ∧ K u w) ⟨h2, hK⟩)⟩
  case ldN n x =>
    obtain ⟨a, h1, c1⟩ := rdK_char h
    obtain ⟨a, rfl, hptr⟩ := ptrK_spec h1
    replace h1 := hptr
    obtain ⟨cs, h2, h3, h4⟩ := h1
    exact ⟨_, h4, fun _ K hK => c1 _ ⟨cs, h2, h3, hK⟩⟩
  case look T x k ok =>
    obtain ⟨a, h1, c1⟩ := rdK_char h
    obtain ⟨b, ⟨v, h2, h3⟩, c2⟩ := rdK_char h1
    obtain ⟨u, ⟨h4, h5⟩, c3⟩ := exTy_char h3
    subst h4
    exact ⟨v, h5, fun _ K hK => c1 _ (c2 _ ⟨v, h2, c3 (fun u => v = u ∧ K u w) ⟨rfl, hK⟩⟩)⟩
  case eqG op t x y =>
    obtain ⟨a, h1, c1⟩ := rdK_char h
    obtain ⟨b, ⟨r, h2, h3⟩, c2⟩ := rdK_char h1
    exact ⟨_, h3, fun _ K hK => c1 _ (c2 _ ⟨r, h2, hK⟩)⟩
theorem denI_take {i : I} {ty : Ty} {e : Env} {w : World} {K : Value → World → Prop} (hp : (pureI i || readI i) = true) (h : denI P Z i ty e w K) :
    ∃ v, K v w ∧ (denI P noPan i ty e w fun u w' => u = v ∧ w' = w) ∧ (readI i = false → Free P i ty e v) := by
  cases h1 : pureI i
  · cases h2 : readI i
    · simp [h1, h2] at hp
    · obtain ⟨v, k, c⟩ := denI_read h2 h
      exact ⟨v, k, c _ _ ⟨rfl, rfl⟩, fun h => by cases h⟩
  · obtain ⟨v, k, c⟩ := denI_pure h1 h
    exact ⟨v, k, c _ _ _ ⟨rfl, rfl⟩, fun _ => c⟩
end
end Go.Proofs.YtjchneebdlncfaaDoor.Den
namespace Go.Proofs.YtjchneebdlncfaaDoor.Den
open Go
def heads : D → List Nat
  | .go i _ _ _ => [i]
  | .alt a b => heads a ++ heads b
  | _ => []
def looksFree (ops : Array Oper) (i : Nat) (d : Option Nat) : Bool :=
  match ops[i]?, d with
  | some o, some d => !(o.looksAt ops).contains d && !(o.dst == some d)
  | some _, none => true
  | none, _ => false
def selfFree (ops : Array Oper) (o : Oper) : Bool :=
  match o.dst with
  | some d => !(o.looksAt ops).contains d
  | none => true
def pendOk (ops : Array Oper) (pend : List (Nat × X)) (o : Oper) : Bool := pend.all fun p => looksFree ops p.1 o.dst
def trD (P : Program) (pn : List Nat) (n : Nat) (ops : Array Oper) (cl : Nat → List Nat) : D → Bool → Nat → Array Bool → List (Nat × X) → Option D
  | .done, root, _, listed, _ => if root && (Region.ready .any ops listed).isEmpty then some .done else none
  | .take i _ r, root, f + 1, listed, pend =>
    match ops[i]? with
    | some o =>
      match trX P pn n ops o with
      | some x =>
        if root && (Region.ready .any ops listed).contains i && Region.free .any ops listed i && (pureI x.i || readI x.i) && selfFree ops o && pendOk ops pend o && x.dst.isSome then
          match trD P pn n ops cl r true f (listed.setIfInBounds i true) (bif readI x.i then (i, x) :: pend else pend) with
          | some r' => some (.take i x r')
          | none => none
        else none
      | none => none
    | none => none
  | .go i _ _ r, root, f + 1, listed, pend =>
    match ops[i]? with
    | some o =>
      match trX P pn n ops o with
      | some x =>
        if (!root || (Region.ready .any ops listed).all fun j => j == i) && (Region.ready .any ops listed).contains i && pendOk ops pend o then
          match trD P pn n ops cl r true f (listed.setIfInBounds i true) (pend.filter fun p => !(cl i).contains p.1) with
          | some r' => some (.go i x (pend.filter fun p => !(cl i).contains p.1) r')
          | none => none
        else none
      | none => none
    | none => none
  | .alt a b, root, f, listed, pend =>
    if !root || (Region.ready .any ops listed).all fun j => (heads (.alt a b)).contains j then
      match trD P pn n ops cl a false f listed pend, trD P pn n ops cl b false f listed pend with
      | some a', some b' => some (.alt a' b')
      | _, _ => none
    else none
  | _, _, _, _, _ => none

theorem denX_sound' {P : Program} {Z : Pan} {pn : List Nat} {n : Nat} {d0 : List Deferred} {ops : Array Oper} {o : Oper} {x : X} {e : Env} {a : Act} {w : World} {K : Env → World → Prop} (ht : trX P pn n ops o = some x) (ha : Ok n d0 a e) (hd : denX P Z x e w K) :
    opR P Z ops o (fun a' w' => ∃ e', Ok n d0 a' e' ∧ (∀ d, o.dst ≠ some d → find e' d = find e d) ∧ K e' w') a w := by
  obtain ⟨h1, _, _, _⟩ := trX_dst ht
  refine opR_mono (denX_sound (K := fun e' w' => (∀ d, o.dst ≠ some d → find e' d = find e d) ∧ K e' w') ht ha ?_) fun v w' h => h
  unfold denX at hd ⊢
  have key : ∀ (v : Value) (e' : Env), (∀ d, find e' d = find e d) → ∀ d, o.dst ≠ some d → find (put x.dst v e') d = find e d := by
    intro v e' he d hne
    rw [h1]
    cases hdst : o.dst with
    | none => exact he d
    | some k =>
      simp only [Den.put]
      rw [find_cons, if_neg (fun e => hne (by rw [hdst, e]))]
      exact he d
  have mono : ∀ {e' : Env} {F G : Value → World → Prop}, (∀ v w, F v w → G v w) → denI P Z x.i x.ty e' w F → denI P Z x.i x.ty e' w G := by
    intro e' F G hFG h
    exact denI_mono h hFG
  split at hd
  · exact mono (fun v w' hK => ⟨key v e (fun _ => rfl), hK⟩) hd
  · rename_i g b hg
    cases hf : find e g with
    | none => rw [hf] at hd; exact hd.elim
    | some u =>
      rw [hf] at hd
      simp only at hd ⊢
      cases hgv : gv u with
      | none =>
        rw [hgv] at hd
        exact ⟨key undef e (fun _ => rfl), hd⟩
      | some t =>
      rw [hgv] at hd
      obtain rfl := gv_some hgv
      simp only at hd ⊢
      have hsame : ∀ d, find ((g, Value.bool t) :: e) d = find e d := by
        intro d
        rw [find_cons]
        split
        · rename_i hgd; rw [← hgd, hf]
        · rfl
      have brm : ∀ c : Bool, c = t → (bif (c == b) then denI P Z x.i x.ty ((g, .bool c) :: e) w (fun v w' => K (put x.dst v ((g, .bool c) :: e)) w') else K (put x.dst undef ((g, .bool c) :: e)) w) →
          bif (c == b) then denI P Z x.i x.ty ((g, .bool c) :: e) w (fun v w' => (∀ d, o.dst ≠ some d → find (put x.dst v ((g, .bool c) :: e)) d = find e d) ∧ K (put x.dst v ((g, .bool c) :: e)) w')
            else (∀ d, o.dst ≠ some d → find (put x.dst undef ((g, .bool c) :: e)) d = find e d) ∧ K (put x.dst undef ((g, .bool c) :: e)) w := by
        intro c hct h
        subst hct
        cases hcb : (c == b)
        · rw [hcb] at h; exact ⟨key undef _ hsame, h⟩
        · rw [hcb] at h; exact mono (G := fun v w' => (∀ d, o.dst ≠ some d → find (put x.dst v ((g, .bool c) :: e)) d = find e d) ∧ K (put x.dst v ((g, .bool c) :: e)) w') (fun v w' hK => ⟨key v _ hsame, hK⟩) h
      cases t
      · exact brm false rfl hd
      · exact brm true rfl hd

/-- What is known of the reads that were taken ahead. -/
structure Pend (P : Program) (pn : List Nat) (n : Nat) (ops : Array Oper) (pend : List (Nat × X)) (pv : List (Nat × Value)) (e : Env) (a : Act) (w : World) : Prop where
  of : ∀ p ∈ pv, ∃ x o d, (p.1, x) ∈ pend ∧ ops[p.1]? = some o ∧ trX P pn n ops o = some x ∧ x.dst = some d ∧ find e d = some p.2 ∧ Y P ops o p.2 a w
theorem pendOk_spec {ops : Array Oper} {pend : List (Nat × X)} {o : Oper} (h : pendOk ops pend o = true) {p : Nat × X} (hp : p ∈ pend) {op : Oper} (hop : ops[p.1]? = some op) :
    (∀ d, o.dst = some d → d ∉ op.looksAt ops) ∧ (∀ d, o.dst = some d → op.dst ≠ some d) := by
  unfold pendOk at h
  rw [List.all_eq_true] at h
  have := h p hp
  unfold looksFree at this
  rw [hop] at this
  cases hd : o.dst with
  | none => exact ⟨fun _ h => (nomatch h), fun _ h => (nomatch h)⟩
  | some d =>
    rw [hd] at this
    simp only [Bool.and_eq_true, Bool.not_eq_true'] at this
    refine ⟨fun k hk => by cases hk; simpa using this.1, fun k hk => by cases hk; simpa using this.2⟩
theorem stills_spec {P : Program} {e : Env} {w : World} {K : Prop} : ∀ {l : List (Nat × X)}, stills P e w l K → (∀ p ∈ l, stillX P p.2 e w) ∧ K
  | [], h => ⟨fun _ h => (nomatch h), h⟩
  | (i, x) :: r, h => by
    obtain ⟨h1, h2⟩ := h
    obtain ⟨h3, h4⟩ := stills_spec h2
    exact ⟨fun p hp => by rcases List.mem_cons.1 hp with rfl | hp; exact h1; exact h3 p hp, h4⟩
theorem stillX_Y {P : Program} {pn : List Nat} {n : Nat} {d0 : List Deferred} {ops : Array Oper} {o : Oper} {x : X} {e : Env} {a a0 : Act} {w w0 : World} {v : Value} {d : Nat} (ht : trX P pn n ops o = some x) (ha : Ok n d0 a e) (hd : x.dst = some d) (hf : find e d = some v)
    (hs : stillX P x e w) (hw : Region.wanted o (yielded ops a.tmps) = Region.wanted o (yielded ops a0.tmps)) (hy : Y P ops o v a0 w0) : Y P ops o v a w := by
  obtain ⟨_, _, h3, h4⟩ := trX_dst ht
  unfold stillX at hs
  simp only [hd, hf] at hs
  have body : (denI P noPan x.i x.ty e w fun u w' => u = v ∧ w' = w) → Region.wanted o (yielded ops a.tmps) = true → Y P ops o v a w := fun h hw => .inl ⟨hw, denI_sound h3 ha.eval h⟩
  rcases h4 with ⟨hg, hxg⟩ | ⟨j, g, b, hg, hgd, hxg⟩
  · rw [hxg] at hs
    exact body hs (wanted_none hg)
  · rw [hxg] at hs
    simp only at hs
    cases hfg : find e g with
    | none => rw [hfg] at hs; exact hs.elim
    | some u =>
      rw [hfg] at hs
      simp only at hs
      cases hgv : gv u with
      | none =>
        refine .inr ⟨wanted_undef hg hgd (ha.at' _ _ hfg) hgv, ?_⟩
        rcases hy with ⟨h, _⟩ | ⟨_, h⟩
        · rw [← hw, wanted_undef hg hgd (ha.at' _ _ hfg) hgv] at h; cases h
        · exact h
      | some t =>
      rw [hgv] at hs
      obtain rfl := gv_some hgv
      have hwt := wanted_some hg hgd (ha.at' _ _ hfg)
      cases htb : (t == b)
      · rw [htb] at hwt
        refine .inr ⟨hwt, ?_⟩
        rcases hy with ⟨h, _⟩ | ⟨_, h⟩
        · rw [← hw, hwt] at h; cases h
        · exact h
      · rw [htb] at hwt
        simp only [htb, cond_true] at hs
        exact body hs hwt

section
variable {P : Program} {Z : Pan} {pn : List Nat} {n : Nat} {d0 : List Deferred} {ops : Array Oper} {cl : Nat → List Nat}
theorem denD_sound (hsel : Region.noSelect ops = true) (hc : ClOk ops cl) {K : Env → World → Prop} : ∀ (d : D) (root : Bool) (f : Nat) (listed : Array Bool) (pend : List (Nat × X)) (pv : List (Nat × Value)) (d' : D) (e : Env) (a : Act) (w : World),
    trD P pn n ops cl d root f listed pend = some d' → Ok n d0 a e → denD P Z d' e w K → Closed ops listed → Pend P pn n ops pend pv e a w →
    (root = true → anyR P Z ops cl (fun a' w' => ∃ e', Ok n d0 a' e' ∧ K e' w') f listed pv a w) ∧
    (∀ f', f = f' + 1 → ∀ j ∈ heads d, ∀ o, ops[j]? = some o → opR P Z ops o (fun a' w' =>
      (∀ p ∈ pv, p.1 ∉ cl j → ∀ op, ops[p.1]? = some op → Y P ops op p.2 a' w') ∧
      anyR P Z ops cl (fun a' w' => ∃ e', Ok n d0 a' e' ∧ K e' w') f' (listed.setIfInBounds j true) (pv.filter fun p => !(cl j).contains p.1) a' w') a w) := by
  intro d
  induction d with
  | done =>
    intro root f listed pend pv d' e a w ht ha hd hl hp
    unfold trD at ht
    split at ht
    · rename_i hr
      simp only [Bool.and_eq_true, List.isEmpty_iff] at hr
      cases ht
      refine ⟨fun _ => ?_, fun _ _ j hj => (nomatch hj)⟩
      cases f with
      | zero => exact ⟨hr.2, e, ha, hd⟩
      | succ f => exact ⟨fun _ => ⟨e, ha, hd⟩, fun j hj => by rw [hr.2] at hj; cases hj⟩
    · cases ht
  | take i x0 r ih =>
    intro root f listed pend pv d' e a w ht ha hd hl hp
    refine ⟨fun _ => ?_, fun _ _ j hj => (nomatch hj)⟩
    cases f with
    | zero => cases ht
    | succ f =>
      unfold trD at ht
      cases ho : ops[i]? with
      | none => rw [ho] at ht; cases ht
      | some o =>
        rw [ho] at ht
        simp only at ht
        cases hx : trX P pn n ops o with
        | none => rw [hx] at ht; cases ht
        | some x =>
          rw [hx] at ht
          simp only at ht
          split at ht
          · rename_i hcond
            simp only [Bool.and_eq_true] at hcond
            obtain ⟨⟨⟨⟨⟨⟨_, hr⟩, hfr⟩, hk⟩, hself⟩, hpo⟩, hdst⟩ := hcond
            cases hr' : trD P pn n ops cl r true f (listed.setIfInBounds i true) (bif readI x.i then (i, x) :: pend else pend) with
            | none => rw [hr'] at ht; cases ht
            | some r' =>
              rw [hr'] at ht
              cases ht
              have hir : i ∈ Region.ready .any ops listed := by simpa using hr
              obtain ⟨hxd, hdn, h3, h4⟩ := trX_dst hx
              obtain ⟨dd, hdd⟩ := Option.isSome_iff_exists.1 hdst
              have hod : o.dst = some dd := by rw [← hxd]; exact hdd
              have hselfd : ∀ d, o.dst = some d → d ∉ o.looksAt ops := by
                intro d hd'
                unfold selfFree at hself
                rw [hd'] at hself
                simpa using hself
              -- the value
              have hv : ∃ v e', Ok n d0 (a.put o.dst v) e' ∧ (∀ d, o.dst ≠ some d → find e' d = find e d) ∧ find e' dd = some v ∧ denD P Z r' e' w K ∧ Y P ops o v a w ∧ (readI x.i = false → ∀ w2, Y P ops o v a w2) := by
                unfold denD at hd
                unfold denX at hd
                rcases h4 with ⟨hg, hxg⟩ | ⟨j, g, b, hg, hgd, hxg⟩
                · rw [hxg] at hd
                  obtain ⟨v, k1, k2, k3⟩ := denI_take hk hd
                  refine ⟨v, put x.dst v e, by rw [← hxd]; exact ha.put (by rw [hxd]; exact hdn) v, ?_, ?_, k1, .inl ⟨wanted_none hg, denI_sound h3 ha.eval k2⟩, fun hrd w2 => .inl ⟨wanted_none hg, denI_sound h3 ha.eval (k3 hrd noPan w2 _ ⟨rfl, rfl⟩)⟩⟩
                  · intro d hne
                    rw [hdd]
                    simp only [Den.put]
                    rw [find_cons, if_neg (fun e => hne (by rw [hod, e]))]
                  · rw [hdd]; simp only [Den.put]; rw [find_cons, if_pos rfl]
                · rw [hxg] at hd
                  simp only at hd
                  cases hfg : find e g with
                  | none => rw [hfg] at hd; exact hd.elim
                  | some u =>
                    rw [hfg] at hd
                    simp only at hd
                    cases hgv : gv u with
                    | none =>
                      rw [hgv] at hd
                      have hwt := wanted_undef hg hgd (ha.at' _ _ hfg) hgv
                      refine ⟨undef, put x.dst undef e, by rw [← hxd]; exact ha.put (by rw [hxd]; exact hdn) _, ?_, ?_, hd, .inr ⟨hwt, rfl⟩, fun _ _ => .inr ⟨hwt, rfl⟩⟩
                      · intro d hne
                        rw [hdd]
                        simp only [Den.put]
                        rw [find_cons, if_neg (fun e => hne (by rw [hod, e]))]
                      · rw [hdd]; simp only [Den.put]; rw [find_cons, if_pos rfl]
                    | some t =>
                    rw [hgv] at hd
                    obtain rfl := gv_some hgv
                    have hsame : ∀ d, find ((g, Value.bool t) :: e) d = find e d := by
                      intro d
                      rw [find_cons]
                      split
                      · rename_i hgd'; rw [← hgd', hfg]
                      · rfl
                    have hwt := wanted_some hg hgd (ha.at' _ _ hfg)
                    have hbr : bif (t == b) then denI P Z x.i x.ty ((g, .bool t) :: e) w (fun v w' => denD P Z r' (put x.dst v ((g, .bool t) :: e)) w' K) else denD P Z r' (put x.dst undef ((g, .bool t) :: e)) w K := by
                      cases t <;> exact hd
                    cases htb : (t == b)
                    · rw [htb] at hbr hwt
                      refine ⟨undef, put x.dst undef ((g, .bool t) :: e), by rw [← hxd]; exact (ha.bool hfg).put (by rw [hxd]; exact hdn) _, ?_, ?_, hbr, .inr ⟨hwt, rfl⟩, fun _ _ => .inr ⟨hwt, rfl⟩⟩
                      · intro d hne
                        rw [hdd]
                        simp only [Den.put]
                        rw [find_cons, if_neg (fun e => hne (by rw [hod, e])), hsame]
                      · rw [hdd]; simp only [Den.put]; rw [find_cons, if_pos rfl]
                    · rw [htb] at hbr hwt
                      obtain ⟨v, k1, k2, k3⟩ := denI_take hk (show denI P Z x.i x.ty ((g, .bool t) :: e) w (fun v w' => denD P Z r' (put x.dst v ((g, .bool t) :: e)) w' K) from hbr)
                      refine ⟨v, put x.dst v ((g, .bool t) :: e), by rw [← hxd]; exact (ha.bool hfg).put (by rw [hxd]; exact hdn) _, ?_, ?_, k1, .inl ⟨hwt, denI_sound h3 (ha.bool hfg).eval k2⟩, fun hrd w2 => .inl ⟨hwt, denI_sound h3 (ha.bool hfg).eval (k3 hrd noPan w2 _ ⟨rfl, rfl⟩)⟩⟩
                      · intro d hne
                        rw [hdd]
                        simp only [Den.put]
                        rw [find_cons, if_neg (fun e => hne (by rw [hod, e])), hsame]
                      · rw [hdd]; simp only [Den.put]; rw [find_cons, if_pos rfl]
              obtain ⟨v, e', ok', same', fdd, hden, hy, hfree⟩ := hv
              have hpd : ∀ p ∈ pv, ∀ op, ops[p.1]? = some op → ∀ d, o.dst = some d → d ∉ op.looksAt ops := by
                intro p hpm op hop
                obtain ⟨x', o', d', h1, h2, _⟩ := hp.of p hpm
                rw [hop] at h2; cases h2
                exact (pendOk_spec hpo h1 hop).1
              have hpy : ∀ p ∈ pv, ∀ op, ops[p.1]? = some op → Y P ops op p.2 a w := by
                intro p hpm op hop
                obtain ⟨x', o', d', _, h2, _, _, _, h6⟩ := hp.of p hpm
                rw [hop] at h2; cases h2
                exact h6
              have hl' := closed_set hl hir
              have hold : ∀ p ∈ pv, ∃ x' o' d', (p.1, x') ∈ pend ∧ ops[p.1]? = some o' ∧ trX P pn n ops o' = some x' ∧ x'.dst = some d' ∧ find e' d' = some p.2 ∧ Y P ops o' p.2 (a.put o.dst v) w := by
                intro p hpm
                obtain ⟨x', o', d', h1, h2, h3', h4', h5, h6⟩ := hp.of p hpm
                have hpo' := pendOk_spec hpo h1 h2
                refine ⟨x', o', d', h1, h2, h3', h4', ?_, (Y.put (fun cs b => Region.noSelect_spec hsel _ _ cs b h2) hpo'.1).2 h6⟩
                rw [same' d' ?_, h5]
                intro hod'
                obtain ⟨hxd', _⟩ := trX_dst h3'
                exact hpo'.2 d' hod' (by rw [← hxd', h4'])
              cases hrd : readI x.i
              · rw [hrd] at hr'
                simp only [cond_false] at hr'
                have := (ih true f _ pend pv r' e' (a.put o.dst v) w hr' ok' hden hl' ⟨hold⟩).1 rfl
                exact anyR_pure hsel hc ho hselfd f listed pv a w hl (Region.free_spec ho hfr) hir hpy hpd (hfree hrd) this
              · rw [hrd] at hr'
                simp only [cond_true] at hr'
                have hyi : Y P ops o v (a.put o.dst v) w := (Y.put (fun cs b => Region.noSelect_spec hsel _ _ cs b ho) hselfd).2 hy
                have := (ih true f _ ((i, x) :: pend) ((i, v) :: pv) r' e' (a.put o.dst v) w hr' ok' hden hl' ⟨fun p hpm => by
                  rcases List.mem_cons.1 hpm with rfl | hpm
                  · exact ⟨x, o, dd, by simp, ho, hx, hdd, fdd, hyi⟩
                  · obtain ⟨x', o', d', h1, h2⟩ := hold p hpm
                    exact ⟨x', o', d', List.mem_cons_of_mem _ h1, h2⟩⟩).1 rfl
                exact anyR_first hsel hc ho hselfd f listed pv a w hl (Region.free_spec ho hfr) hir hpy hpd hy this
          · cases ht
  | go i x0 chk r ih =>
    intro root f listed pend pv d' e a w ht ha hd hl hp
    have main : ∀ f', f = f' + 1 → (root = true → ∀ j ∈ Region.ready .any ops listed, j = i) ∧ ∀ o, ops[i]? = some o → opR P Z ops o (fun a' w' =>
      (∀ p ∈ pv, p.1 ∉ cl i → ∀ op, ops[p.1]? = some op → Y P ops op p.2 a' w') ∧
      anyR P Z ops cl (fun a' w' => ∃ e', Ok n d0 a' e' ∧ K e' w') f' (listed.setIfInBounds i true) (pv.filter fun p => !(cl i).contains p.1) a' w') a w := by
      intro f' hf
      subst hf
      unfold trD at ht
      cases ho : ops[i]? with
      | none => rw [ho] at ht; cases ht
      | some o =>
        rw [ho] at ht
        simp only at ht
        cases hx : trX P pn n ops o with
        | none => rw [hx] at ht; cases ht
        | some x =>
          rw [hx] at ht
          simp only at ht
          split at ht
          · rename_i hcond
            simp only [Bool.and_eq_true] at hcond
            obtain ⟨⟨hroot, hr⟩, hpo⟩ := hcond
            cases hr' : trD P pn n ops cl r true f' (listed.setIfInBounds i true) (pend.filter fun p => !(cl i).contains p.1) with
            | none => rw [hr'] at ht; cases ht
            | some r' =>
              rw [hr'] at ht
              cases ht
              have hir : i ∈ Region.ready .any ops listed := by simpa using hr
              refine ⟨fun hrt j hj => ?_, fun o' ho' => ?_⟩
              · rw [hrt] at hroot
                simp only [Bool.not_true, Bool.false_or, List.all_eq_true, beq_iff_eq] at hroot
                exact hroot j hj
              · cases ho'
                unfold denD at hd
                have hs := denX_sound' hx ha hd
                refine opR_mono hs fun v w' ⟨e', ok', same', hst⟩ => ?_
                obtain ⟨hst1, hst2⟩ := stills_spec hst
                have hold : ∀ p ∈ pv, p.1 ∉ cl i → ∃ x' o' d', (p.1, x') ∈ (pend.filter fun p => !(cl i).contains p.1) ∧ ops[p.1]? = some o' ∧ trX P pn n ops o' = some x' ∧ x'.dst = some d' ∧ find e' d' = some p.2 ∧ Y P ops o' p.2 (a.put o.dst v) w' := by
                  intro p hpm hpc
                  obtain ⟨x', o', d', h1, h2, h3', h4', h5, h6⟩ := hp.of p hpm
                  have hpo' := pendOk_spec hpo h1 h2
                  have hmem : (p.1, x') ∈ (pend.filter fun p => !(cl i).contains p.1) := by
                    rw [List.mem_filter]; exact ⟨h1, by simpa using hpc⟩
                  have hfd : find e' d' = some p.2 := by
                    rw [same' d' ?_, h5]
                    intro hod'
                    obtain ⟨hxd', _⟩ := trX_dst h3'
                    exact hpo'.2 d' hod' (by rw [← hxd', h4'])
                  exact ⟨x', o', d', hmem, h2, h3', h4', hfd, stillX_Y h3' ok' h4' hfd (hst1 _ hmem) (wanted_put o' a o.dst v hpo'.1) h6⟩
                refine ⟨fun p hpm hpc op hop => ?_, (ih true f' _ _ (pv.filter fun p => !(cl i).contains p.1) r' e' (a.put o.dst v) w' hr' ok' hst2 (closed_set hl hir) ⟨fun p hpm => ?_⟩).1 rfl⟩
                · obtain ⟨x', o', d', _, h2, _, _, _, h6⟩ := hold p hpm hpc
                  rw [hop] at h2; cases h2
                  exact h6
                · rw [List.mem_filter] at hpm
                  exact hold p hpm.1 (by simpa using hpm.2)
          · cases ht
    refine ⟨fun hroot => ?_, fun f' hf j hj o ho => ?_⟩
    · cases f with
      | zero => cases ht
      | succ f =>
        obtain ⟨m1, m2⟩ := main f rfl
        refine ⟨fun h0 => ?_, fun j hj o ho => ?_⟩
        · exfalso
          unfold trD at ht
          split at ht
          · split at ht
            · split at ht
              · rename_i hcond
                simp only [Bool.and_eq_true] at hcond
                have := hcond.1.2
                rw [h0] at this
                cases this
              · cases ht
            · cases ht
          · cases ht
        · have := m1 hroot j hj
          subst this
          exact m2 o ho
    · simp only [heads, List.mem_singleton] at hj
      subst hj
      exact (main f' hf).2 o ho
  | alt b1 b2 ih1 ih2 =>
    intro root f listed pend pv d' e a w ht ha hd hl hp
    unfold trD at ht
    split at ht
    · rename_i hcond
      split at ht
      · rename_i a' b' h1 h2
        cases ht
        obtain ⟨hd1, hd2⟩ := hd
        have key : ∀ f', f = f' + 1 → ∀ j ∈ heads (.alt b1 b2), ∀ o, ops[j]? = some o → opR P Z ops o (fun a' w' =>
          (∀ p ∈ pv, p.1 ∉ cl j → ∀ op, ops[p.1]? = some op → Y P ops op p.2 a' w') ∧
          anyR P Z ops cl (fun a' w' => ∃ e', Ok n d0 a' e' ∧ K e' w') f' (listed.setIfInBounds j true) (pv.filter fun p => !(cl j).contains p.1) a' w') a w := by
          intro f' hf j hj o ho
          simp only [heads, List.mem_append] at hj
          rcases hj with hj | hj
          · exact (ih1 false f listed pend pv a' e a w h1 ha hd1 hl hp).2 f' hf j hj o ho
          · exact (ih2 false f listed pend pv b' e a w h2 ha hd2 hl hp).2 f' hf j hj o ho
        refine ⟨fun hroot => ?_, key⟩
        rw [hroot] at hcond
        simp only [Bool.not_true, Bool.false_or, List.all_eq_true] at hcond
        have hne : f ≠ 0 ∧ Region.ready .any ops listed ≠ [] := by
          have gen : ∀ (b : D) (b' : D), trD P pn n ops cl b false f listed pend = some b' → f ≠ 0 ∧ Region.ready .any ops listed ≠ [] := by
            intro b
            induction b with
            | done => intro b' h; unfold trD at h; simp at h
            | take => intro b' h; unfold trD at h; cases f <;> simp at h <;> (split at h <;> try cases h) <;> (split at h <;> cases h)
            | go i _ _ _ =>
              intro b' h
              unfold trD at h
              cases f with
              | zero => cases h
              | succ f =>
                refine ⟨by simp, fun h0 => ?_⟩
                simp only at h
                split at h
                · split at h
                  · split at h
                    · rename_i hc'
                      simp only [Bool.and_eq_true] at hc'
                      have := hc'.1.2
                      rw [h0] at this
                      cases this
                    · cases h
                  · cases h
                · cases h
            | alt c1 c2 i1 _ =>
              intro b' h
              unfold trD at h
              split at h
              · split at h
                · rename_i h1 _; exact i1 _ h1
                · cases h
              · cases h
          exact gen b1 a' h1
        cases f with
        | zero => exact absurd rfl hne.1
        | succ f =>
          refine ⟨fun h0 => absurd h0 hne.2, fun j hj o ho => key f rfl j (by simpa using hcond j hj) o ho⟩
      · cases ht
    · cases ht
end
end Go.Proofs.YtjchneebdlncfaaDoor.Den
