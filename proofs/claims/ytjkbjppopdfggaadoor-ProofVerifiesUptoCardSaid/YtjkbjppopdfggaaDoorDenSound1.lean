/-
  HOW AN OPERATION IS RESOLVED ('trOp'), AND THAT ITS DENOTATION IS RIGHT ('denI_sound').
  Own work. No macro, syntax, notation, axiom.
-/
import Derived.Test.YtjkbjppopdfggaaDoorDenCore
namespace Go.Proofs.YtjkbjppopdfggaaDoor.Den
open Go

def tyOf (P : Program) (T : TypeId) : Ty :=
  match P.underlying T with
  | some (.int k) => .int k
  | some .bool => .bool
  | some .string => .str
  | some (.slice _) => .sl
  | some (.pointer _) => .ptr
  | some (.map _ _) => .mp
  | some (.struct _) => .agg
  | some (.array _ _) => .agg
  | _ => .any
def tysOf (P : Program) (T : TypeId) : List Ty :=
  match P.underlying T with
  | some (.tuple es) => es.toList.map (tyOf P)
  | some .invalid => []
  | none => []
  | _ => [tyOf P T]
def nilKind (d : TypeDesc) (y : Operand) : Option Nat :=
  match d, y with
  | .slice _, .const (.slice none _ _) => some 0
  | .pointer _, .const (.pointer none) => some 1
  | .map _ _, .const (.map none) => some 2
  | .func _ _ _, .const .nilFunc => some 3
  | .interface _, .const .nilIface => some 4
  | _, _ => none
def aggT (P : Program) (T : TypeId) : Bool :=
  match P.underlying T with
  | some (.struct _) | some (.array _ _) => true
  | _ => false
def hasZero (P : Program) (T : TypeId) : Bool := ((P.info? T).bind (·.zero)).isSome
def hasBody (P : Program) (f : FuncId) : Bool :=
  match P.funcs[f]? with
  | some fn => !fn.body.isNone && !(fn.name == "runtime.NumGoroutine")
  | none => false
def trEq (P : Program) (op : BinOp) (t : TypeId) (x y : Operand) : Option I :=
  if op == .eql || op == .neq then
    match P.underlying t with
    | some .bool => some (.eqB (op == .neq) x y)
    | some d =>
      match nilKind d y with
      | some k => some (.nilEq (op == .neq) k x)
      | none => some (.eqG op t x y)
    | none => none
  else none
def trOp (P : Program) (pn : List Nat) (o : Oper) : Option (I × Ty) :=
  let ty := tyOf P o.type
  let run : Option (I × Ty) := some (.run o.op o.type, ty)
  match o.op with
  | .move x | .assign x => some (.mv x, ty)
  | .nilCheck x => some (.nc x, ty)
  | .pick c a b => some (.pick c a b, ty)
  | .binOp op xt x y _ =>
    match P.underlying xt with
    | some (.int _) | some .string => some (.bin op x y, ty)
    | _ => (trEq P op xt x y).map (·, ty)
  | .unOp op _ x => some (.un op x, ty)
  | .convert src dst x =>
    match P.underlying src, P.underlying dst with
    | some (.int _), some (.int k) => some (.cv k x, ty)
    | _, _ => some (.rv (.cvG src dst) [x], ty)
  | .alloc T => if hasZero P T then some (.alloc T, .ptr) else run
  | .box T x => some (.box T x, .ptr)
  | .build T parts =>
    if hasZero P T then
      match P.underlying T with
      | some (.struct fs) => if fs.all (fun f => (P.info? f.type).isSome) then some (.bld T (.fields (fs.toList.map fun f => (f.offset, P.cellsOf f.type))) parts.toList, ty) else run
      | some (.array _ el) => if (P.info? el).isSome then some (.bld T (.elems (P.cellsOf el)) parts.toList, ty) else run
      | _ => run
    else run
  | .buildSlice T len parts =>
    match P.underlying T with
    | some (.slice el) => if hasZero P el && decide (0 < len * P.cellsOf el) && decide (len * P.cellsOf el ≤ 16777216) then some (.bldS el len (P.cellsOf el) parts.toList, ty)
      else if (P.info? el).isSome && decide (len * P.cellsOf el = 0) && parts.isEmpty then some (.bld0 el len, ty) else run
    | _ => run
  | .load T x =>
    if aggT P T then (if (P.info? T).isSome then some (.ldN (P.cellsOf T) x, ty) else run)
    else if (P.underlying T).isSome then some (.ld1 x, tyOf P T) else run
  | .store T x v =>
    if (P.info? T).isSome then (if aggT P T then some (.stN (P.cellsOf T) x v, ty) else if P.cellsOf T = 1 then some (.st1 x v, ty) else run) else run
  | .fieldAddr T x f =>
    match P.underlying T with
    | some (.struct fs) => match fs[f]? with
      | some fd => if decide (P.cellsOf fd.type ≠ 0) then some (.fa fd.offset x, .ptr) else run
      | none => run
    | _ => run
  | .field T x f =>
    match P.underlying T with
    | some (.struct fs) => match fs[f]? with
      | some fd => if (P.info? fd.type).isSome && (P.underlying fd.type).isSome then (if aggT P fd.type then some (.fldN fd.offset (P.cellsOf fd.type) x, ty) else some (.fld fd.offset x, ty)) else run
      | none => run
    | _ => run
  | .indexAddr T x i =>
    match P.underlying T with
    | some (.slice el) => if (P.info? el).isSome then some (.ia (P.cellsOf el) x i, .ptr) else run
    | some (.array n el) => if (P.info? el).isSome then some (.iaA n (P.cellsOf el) x i, .ptr) else run
    | _ => run
  | .index T x i =>
    match P.underlying T with
    | some (.array n el) => if (P.info? el).isSome && (P.underlying el).isSome then (if aggT P el then some (.ixN n (P.cellsOf el) x i, ty) else some (.ixA n (P.cellsOf el) x i, ty)) else run
    | some .string => some (.ixS x i, ty)
    | _ => run
  | .slice T x lo hi mx =>
    if mx.isSome && hi.isNone then run else
    match P.underlying T with
    | some (.slice el) => if (P.info? el).isSome then some (.slS (P.cellsOf el) x lo hi mx, ty) else run
    | some (.array n el) => if (P.info? el).isSome then some (.slA n (P.cellsOf el) x lo hi mx, ty) else run
    | some .string => if mx.isNone then some (.slT x lo hi, ty) else run
    | _ => run
  | .makeInterface T x =>
    match P.underlying T with
    | some (.interface _) => run
    | some _ => some (.mkI T x, ty)
    | none => run
  | .makeMap T none => some (.mkM T, ty)
  | .makeMap T (some r) => some (.rv (.mkR T) [r], ty)
  | .makeFunc f a c => some (.mkF f a.toList c.toList, ty)
  | .mapEntry T m k => some (.rv (.ment T) [m, k], ty)
  | .entryStore T m s v => some (.est T m s v, ty)
  | .range T x => some (.rv (.rng T) [x], ty)
  | .next x b => some (.rv (.nxt b o.type) [x], ty)
  | .entry x => some (.rv .entr [x], ty)
  | .typeAssert x xt at_ ok => some (.rv (.asrt xt at_ ok) [x], if ok then .any else ty)
  | .panic x => some (.pan x, ty)
  | .makeSlice T l c => some (.mk T l c, ty)
  | .lookup T x i ok => some (.look T x i ok, if ok then .any else ty)
  | .mapUpdate T m k v | .insert T m k v => some (.upd T m k v, ty)
  | .extract x i => some (.ext i x, ty)
  | .call { callee := .value (.func f), args, .. } => if hasBody P f then some ((if pn.contains f then I.callP else I.call) f args.toList (((P.funcs[f]?).map (·.resultTypes.toList.map (tyOf P))).getD []), ty) else run
  | .call { callee := .value f, args, .. } => some (.callv f args.toList (tysOf P o.type), ty)
  | .call { callee := .invoke x name, args, .. } => some (.inv x name args.toList (tysOf P o.type), ty)
  | .call { callee := .builtin .append, args, argTypes } => if args.size = 2 then some (.app argTypes o.type (args.getD 0 (.const undef)) (args.getD 1 (.const undef)), ty) else run
  | .call { callee := .builtin .copy, args, argTypes } => if args.size = 2 then some (.cpy argTypes o.type (args.getD 0 (.const undef)) (args.getD 1 (.const undef)), ty) else run
  | .call { callee := .builtin .len, args, argTypes } =>
    if args.size = 1 && argTypes.size = 1 then
      match P.underlying (argTypes.getD 0 0) with
      | some (.slice _) => some (.len (args.getD 0 (.const undef)), ty)
      | some .string => some (.lenT (args.getD 0 (.const undef)), ty)
      | _ => some (.rv (.lenB argTypes o.type) args.toList, ty)
    else run
  | .call { callee := .builtin .cap, args, argTypes } => some (.rv (.capB argTypes o.type) args.toList, ty)
  | .call { callee := .builtin .max, args, argTypes } => some (.rv (.maxB argTypes o.type) args.toList, ty)
  | .call { callee := .builtin .min, args, argTypes } => some (.rv (.minB argTypes o.type) args.toList, ty)
  | .call { callee := .builtin .delete, args, argTypes } => some (.rv (.delB argTypes o.type) args.toList, .any)
  | .call { callee := .builtin .clear, args, argTypes } => some (.rv (.clrB argTypes o.type) args.toList, .any)
  | _ => run

/-! ### Readings -/
theorem rdK_spec {e : Env} {x : Operand} {K : Value → Prop} (h : rdK e x K) : ∃ v, rd e x = some v ∧ K v := by
  unfold rdK at h
  split at h
  · exact ⟨_, by assumption, h⟩
  · exact h.elim
theorem rdo_spec {e : Env} {x : Option Operand} {K : Option Value → Prop} (h : rdo e x K) : (x = none ∧ K none) ∨ ∃ y v, x = some y ∧ rd e y = some v ∧ K (some v) := by
  cases x with
  | none => exact .inl ⟨rfl, h⟩
  | some y => obtain ⟨v, h1, h2⟩ := rdK_spec h; exact .inr ⟨y, v, rfl, h1, h2⟩
theorem rdsK_spec {e : Env} : ∀ {l : List Operand} {K : List Value → Prop}, rdsK e l K → ∃ vs, (∀ ρ : Operand → Value, (∀ x v, rd e x = some v → ρ x = v) → l.map ρ = vs) ∧ K vs
  | [], _, h => ⟨[], fun _ _ => rfl, h⟩
  | x :: r, K, h => by
    obtain ⟨v, h1, h2⟩ := rdK_spec (K := fun v => rdsK e r fun vs => K (v :: vs)) h
    obtain ⟨vs, h3, h4⟩ := rdsK_spec h2
    exact ⟨v :: vs, fun ρ hρ => by rw [List.map_cons, hρ x v h1, h3 ρ hρ], h4⟩
theorem rdps_spec {e : Env} : ∀ {l : List (Nat × Operand)} {K : List (Nat × Value) → Prop}, rdps e l K → ∃ vs, (∀ ρ : Operand → Value, (∀ x v, rd e x = some v → ρ x = v) → l.map (fun p => (p.1, ρ p.2)) = vs) ∧ K vs
  | [], _, h => ⟨[], fun _ _ => rfl, h⟩
  | (i, x) :: r, K, h => by
    obtain ⟨v, h1, h2⟩ := rdK_spec (K := fun v => rdps e r fun vs => K ((i, v) :: vs)) h
    obtain ⟨vs, h3, h4⟩ := rdps_spec h2
    exact ⟨(i, v) :: vs, fun ρ hρ => by rw [List.map_cons, hρ x v h1, h3 ρ hρ], h4⟩
theorem exTy_spec {t : Ty} {F : Value → Prop} (h : exTy t F) : ∃ v, F v := by
  cases t <;> simp only [exTy] at h <;> first | exact (let ⟨a, h⟩ := h; ⟨_, h⟩) | exact (let ⟨a, n, c, h⟩ := h; ⟨_, h⟩)
theorem intro_spec {t : Ty} {v : Value} {K : Value → Prop} (h : intro t v K) : K v := by
  obtain ⟨u, h1, h2⟩ := exTy_spec h
  exact h1 ▸ h2
theorem exTys_spec : ∀ {ts : List Ty} {F : List Value → Prop}, exTys ts F → ∃ vs, F vs
  | [], _, h => ⟨[], h⟩
  | t :: ts, F, h => by
    obtain ⟨v, h1⟩ := exTy_spec (F := fun v => exTys ts fun vs => F (v :: vs)) h
    obtain ⟨vs, h2⟩ := exTys_spec h1
    exact ⟨v :: vs, h2⟩
theorem retK_spec {ts : List Ty} {e : Ending} {K : Value → Prop} (h : retK ts e K) : ∃ v, e = .returned v ∧ K v := by
  unfold retK at h
  split at h
  · exact ⟨_, h⟩
  · exact exTy_spec h
  · obtain ⟨vs, h⟩ := exTys_spec h; exact ⟨_, h⟩

section
variable {P : Program} {Z : Pan} {pn : List Nat} {w : World} {K : Value → World → Prop}
theorem RunsTo.val {s : Sem Value} (h : RunV P s w K) : RunsTo P Z (do pure (.value (← s))) w K := by
  obtain ⟨v, w', h1, h2⟩ := h
  simp [RunsTo, h1, Result.andThen, h2]
theorem RunsTo.unit {s : Sem Unit} (h : RunU P s w (K undef)) : RunsTo P Z (do s; pure .skip) w K := by
  obtain ⟨w', h1, h2⟩ := h
  simp [RunsTo, h1, Result.andThen, h2]
theorem RunsTo.same {s : Sem Value} {v : Value} (h : s.run P w = .ok v w) (hK : K v w) : RunsTo P Z (do pure (.value (← s))) w K := .val ⟨v, w, h, hK⟩
theorem run_callFunc {f : FuncId} {args : Array Value} (h : HasBody P f) : (callFunc f args).run P w = .ok (.enter f args) w := by
  obtain ⟨fn, h1, h2, h3⟩ := h
  have h2' : fn.body ≠ none := fun e => by rw [e] at h2; cases h2
  have h3' : fn.name ≠ "runtime.NumGoroutine" := fun e => by rw [e] at h3; cases h3
  simp [callFunc, h1, h2', h3', Result.andThen]
theorem hasBody_spec {f : FuncId} (h : hasBody P f = true) : HasBody P f := by
  unfold hasBody at h
  split at h
  · rename_i fn hf
    simp only [Bool.and_eq_true, Bool.not_eq_true'] at h
    exact ⟨fn, hf, h.1, h.2⟩
  · cases h
theorem CallK.runs {f : FuncId} {args : Array Value} {ts : List Ty} (h : CallK P f args ts w K) : Calls P f args w fun e w'' => ∃ v, e = .returned v ∧ K v w'' :=
  Calls.mono h fun _ _ hr => retK_spec hr
theorem RunsTo.call {f : FuncId} {args : Array Value} {ts : List Ty} (hb : HasBody P f) (h : CallK P f args ts w K) : RunsTo P Z (callFunc f args) w K := by
  unfold RunsTo
  rw [run_callFunc hb]
  exact Calls.mono h.runs fun e w' ⟨v, he, hK⟩ => by subst he; exact ⟨v, rfl, hK⟩
theorem orPan_mono {e : Ending} {Z Z' : List PanicEntry → Prop} {K K' : Prop} (h : orPan e Z K) (hz : ∀ ch, Z ch → Z' ch) (hk : K → K') : orPan e Z' K' := by
  cases e with
  | returned v => exact hk h
  | panicked ch => exact hz ch h
  | outgrown => exact hk h
theorem RunsTo.callP {f : FuncId} {args : Array Value} {ts : List Ty} (hb : HasBody P f) (h : Calls P f args w fun en w' => orPan en (fun ch => Z ch w') (retK ts en fun v => K v w')) : RunsTo P Z (callFunc f args) w K := by
  unfold RunsTo
  rw [run_callFunc hb]
  refine Calls.mono h fun e w' h => ?_
  cases e with
  | returned v => exact retK_spec (show retK ts (.returned v) fun v => K v w' from h)
  | panicked ch => exact h
  | outgrown => exact retK_spec (show retK ts .outgrown fun v => K v w' from h)
theorem RunsTo.pan {t : TypeId} {u : Value} (h : Z [{ v := .iface t u, recovered := false }] w) : RunsTo P Z (do pure (.value (← Instr.panic (.iface t u)))) w K := by
  have hr : (Instr.panic (.iface t u)).run P w = .halt (.panic (.iface t u)) w := by
    simp [Instr.panic, goPanic, Sem.run]
  unfold RunsTo
  simp only [Sem.run_bind, hr, Result.andThen]
  exact h
end
end Go.Proofs.YtjkbjppopdfggaaDoor.Den
