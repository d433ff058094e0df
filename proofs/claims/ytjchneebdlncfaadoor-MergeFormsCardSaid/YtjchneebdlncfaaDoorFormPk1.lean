/-
  A SMALL DENOTATION OF THE TRANSLATED CODE: resolved operations ('I'), structured code ('S'), what each asks ('denI', 'denOps', 'denS'), and how code is resolved ('trOp', 'trS').
  HOW AN OPERATION IS RESOLVED ('trOp'), AND THAT ITS DENOTATION IS RIGHT ('denI_sound').
  'denI' IS RIGHT: what it asks is what the model's own operation needs.
  'denI' IS RIGHT, operation by operation.
  Own work. No macro, syntax, notation, axiom.
-/
import Derived.WalkKit
import Derived.Orders
import Derived.RangeFuncSeq
import Derived.Great.BuildSlice
namespace Go.Proofs.YtjchneebdlncfaaDoor.Den
open Go
/-- The live slots and what they hold, the newest first. -/
abbrev Env := List (Nat × Value)
def find : Env → Nat → Option Value
  | [], _ => none
  | (k, v) :: r, t => bif Nat.beq k t then some v else find r t
def rd (e : Env) : Operand → Option Value
  | .tmp t => find e t
  | .const v => some v
  | .global g => some (.pointer (some ⟨g, 0, none⟩))
  | .func f => some (.func (.func f) #[] #[])
def rdK (e : Env) (x : Operand) (K : Value → Prop) : Prop :=
  match rd e x with
  | some v => K v
  | none => False
def rdsK (e : Env) : List Operand → (List Value → Prop) → Prop
  | [], K => K []
  | x :: r, K => rdK e x fun v => rdsK e r fun vs => K (v :: vs)
def rdo (e : Env) (x : Option Operand) (K : Option Value → Prop) : Prop :=
  match x with
  | none => K none
  | some x => rdK e x fun v => K (some v)
def put (d : Option Nat) (v : Value) (e : Env) : Env :=
  match d with
  | some d => (d, v) :: e
  | none => e
/-- The entries of some slots. -/
def keepK (e : Env) : List Nat → (Env → Prop) → Prop
  | [], K => K []
  | k :: ks, K =>
    match find e k with
    | some v => keepK e ks fun r => K ((k, v) :: r)
    | none => False

/-- The outer shape of a value. -/
inductive Ty where
  | int (k : IntKind) | bool | str | sl | ptr | mp | agg | any
def exTy : Ty → (Value → Prop) → Prop
  | .int k, F => ∃ n, F (.int k n)
  | .bool, F => ∃ b, F (.bool b)
  | .str, F => ∃ s, F (.string s)
  | .sl, F => ∃ a n c, F (.slice a n c)
  | .ptr, F => ∃ a, F (.pointer a)
  | .mp, F => ∃ r, F (.map r)
  | .agg, F => ∃ cs, F (.agg cs)
  | .any, F => ∃ v, F v
def allTy : Ty → (Value → Prop) → Prop
  | .int k, F => ∀ n, F (.int k n)
  | .bool, F => ∀ b, F (.bool b)
  | .str, F => ∀ s, F (.string s)
  | .sl, F => ∀ a n c, F (.slice a n c)
  | .ptr, F => ∀ a, F (.pointer a)
  | .mp, F => ∀ r, F (.map r)
  | .agg, F => ∀ cs, F (.agg cs)
  | .any, F => ∀ v, F v
/-- A value, by its shape. -/
def intro (t : Ty) (v : Value) (K : Value → Prop) : Prop := exTy t fun u => v = u ∧ K u
def exTys : List Ty → (List Value → Prop) → Prop
  | [], F => F []
  | t :: ts, F => exTy t fun v => exTys ts fun vs => F (v :: vs)
/-- What a call hands back. -/
def retK (ts : List Ty) (e : Ending) (K : Value → Prop) : Prop :=
  match ts with
  | [] => e = .returned (.tuple #[]) ∧ K (.tuple #[])
  | [t] => exTy t fun v => e = .returned v ∧ K v
  | ts => exTys ts fun vs => e = .returned (.tuple vs.toArray) ∧ K (.tuple vs.toArray)

/-- Predicates over values of given shapes and a world. -/
def Fn : List Ty → Type
  | [] => World → Prop
  | .int _ :: ts => Int → Fn ts
  | .bool :: ts => Bool → Fn ts
  | .str :: ts => ByteArray → Fn ts
  | .sl :: ts => Option Addr → Nat → Nat → Fn ts
  | .ptr :: ts => Option Addr → Fn ts
  | .mp :: ts => Option Nat → Fn ts
  | .agg :: ts => Array Value → Fn ts
  | .any :: ts => Value → Fn ts
def same (a b : IntKind) : Bool := decide (a = b)
def app : (ts : List Ty) → Fn ts → List Value → World → Prop
  | [], J, [], w => J w
  | .int k :: ts, J, .int k' n :: vs, w => bif same k' k then app ts (J n) vs w else False
  | .bool :: ts, J, .bool b :: vs, w => app ts (J b) vs w
  | .str :: ts, J, .string s :: vs, w => app ts (J s) vs w
  | .sl :: ts, J, .slice a n c :: vs, w => app ts (J a n c) vs w
  | .ptr :: ts, J, .pointer a :: vs, w => app ts (J a) vs w
  | .mp :: ts, J, .map r :: vs, w => app ts (J r) vs w
  | .agg :: ts, J, .agg cs :: vs, w => app ts (J cs) vs w
  | .any :: ts, J, v :: vs, w => app ts (J v) vs w
  | _, _, _, _ => False
/-- For all values of the slots' shapes: the entries. -/
def allSl : List (Nat × Ty) → (Env → List Value → Prop) → Prop
  | [], F => F [] []
  | (k, t) :: r, F => allTy t fun v => allSl r fun e vs => F ((k, v) :: e) (v :: vs)
def valsK (e : Env) : List (Nat × Ty) → (List Value → Prop) → Prop
  | [], K => K []
  | (k, _) :: r, K =>
    match find e k with
    | some v => valsK e r fun vs => K (v :: vs)
    | none => False
def tys (sl : List (Nat × Ty)) : List Ty := sl.map (·.2)

/-! ### Operations -/
inductive Place where
  | fields (l : List (Nat × Nat))
  | elems (size : Nat)
def Place.at : Place → Nat → Option (Nat × Nat)
  | .fields l, i => l[i]?
  | .elems s, i => some (i * s, s)
def splice (l : List Value) (off : Nat) (vs : List Value) : List Value := l.take off ++ (vs ++ l.drop (off + vs.length))
def fillL (p : Place) (l : List Value) : List (Nat × Value) → Option (List Value)
  | [] => some l
  | (i, v) :: r =>
    match p.at i with
    | none => none
    | some (off, size) => if v.cells.size = size ∧ off + size ≤ l.length then fillL p (splice l off v.cells.toList) r else none
/-- The cells of a type's zero value. -/
def zc (P : Program) (T : TypeId) : List Value := (((P.info? T).bind (·.zero)).map (·.cells.toList)).getD []
def zrep (z : List Value) (n : Nat) : List Value := (List.range n).map fun i => z.toArray[i % z.toArray.size]!
def rdps (e : Env) : List (Nat × Operand) → (List (Nat × Value) → Prop) → Prop
  | [], K => K []
  | (i, x) :: r, K => rdK e x fun v => rdps e r fun vs => K ((i, v) :: vs)

/-- Operations that are left to the model's own text. -/
inductive Rv where
  | cvG (s d : TypeId)
  | ment (T : TypeId)
  | rng (T : TypeId)
  | nxt (b : Bool) (T : TypeId)
  | entr
  | asrt (xt at_ : TypeId) (ok : Bool)
  | mkR (T : TypeId)
  | capB (ats : Array TypeId) (T : TypeId)
  | maxB (ats : Array TypeId) (T : TypeId)
  | minB (ats : Array TypeId) (T : TypeId)
  | delB (ats : Array TypeId) (T : TypeId)
  | clrB (ats : Array TypeId) (T : TypeId)
  | lenB (ats : Array TypeId) (T : TypeId)
def Rv.sem : Rv → List Value → Sem Value
  | .cvG s d, [v] => convert s d v
  | .ment T, [m, k] => Instr.mapEntry T m k
  | .rng T, [x] => Instr.range T x
  | .nxt b T, [x] => Instr.next x b T
  | .entr, [x] => Instr.entry x
  | .asrt xt at_ ok, [x] => Instr.typeAssert x xt at_ ok
  | .mkR T, [r] => Instr.makeMap T (some r)
  | .capB ats T, l => Builtin.cap_ ats T l.toArray
  | .maxB ats T, l => Builtin.max_ ats T l.toArray
  | .minB ats T, l => Builtin.min_ ats T l.toArray
  | .delB ats T, l => Builtin.delete_ ats T l.toArray
  | .clrB ats T, l => Builtin.clear_ ats T l.toArray
  | .lenB ats T, l => Builtin.len_ ats T l.toArray
  | _, _ => stuck "operands"
inductive I where
  | mv (x : Operand)
  | nc (x : Operand)
  | pick (c a b : Operand)
  | bin (op : BinOp) (x y : Operand)
  | eqB (neg : Bool) (x y : Operand)
  | nilEq (neg : Bool) (kind : Nat) (x : Operand)
  | eqG (op : BinOp) (t : TypeId) (x y : Operand)
  | un (op : UnOp) (x : Operand)
  | cv (k : IntKind) (x : Operand)
  | alloc (T : TypeId)
  | box (T : TypeId) (x : Operand)
  | bld (T : TypeId) (p : Place) (parts : List (Nat × Operand))
  | bldS (T : TypeId) (len size : Nat) (parts : List (Nat × Operand))
  | bld0 (T : TypeId) (len : Nat)
  | ld1 (x : Operand)
  | ldN (n : Nat) (x : Operand)
  | st1 (x v : Operand)
  | stN (n : Nat) (x v : Operand)
  | fa (off : Nat) (x : Operand)
  | fld (off : Nat) (x : Operand)
  | fldN (off n : Nat) (x : Operand)
  | ia (size : Nat) (x i : Operand)
  | iaA (n size : Nat) (x i : Operand)
  | ixA (n size : Nat) (x i : Operand)
  | ixN (n size : Nat) (x i : Operand)
  | ixS (x i : Operand)
  | slS (size : Nat) (x : Operand) (lo hi mx : Option Operand)
  | slA (n size : Nat) (x : Operand) (lo hi mx : Option Operand)
  | slT (x : Operand) (lo hi : Option Operand)
  | len (x : Operand)
  | lenT (x : Operand)
  | app (ats : Array TypeId) (T : TypeId) (x y : Operand)
  | cpy (ats : Array TypeId) (T : TypeId) (x y : Operand)
  | mk (T : TypeId) (x y : Operand)
  | mkI (T : TypeId) (x : Operand)
  | mkM (T : TypeId)
  | look (T : TypeId) (x i : Operand) (ok : Bool)
  | upd (T : TypeId) (m k v : Operand)
  | ext (i : Nat) (x : Operand)
  | call (f : FuncId) (args : List Operand) (ts : List Ty)
  | callP (f : FuncId) (args : List Operand) (ts : List Ty)
  | callv (f : Operand) (args : List Operand) (ts : List Ty)
  | inv (x : Operand) (name : String) (args : List Operand) (ts : List Ty)
  | rv (r : Rv) (xs : List Operand)
  | mkF (f : Go.Fn) (a c : List Operand)
  | est (T : TypeId) (m s v : Operand)
  | pan (x : Operand)
  | run (op : Op) (T : TypeId)

def bAnd (k : IntKind) (x y : Int) : Int := k.wrap ((BitVec.ofInt k.bits x &&& BitVec.ofInt k.bits y).toNat : Nat)
def bOr (k : IntKind) (x y : Int) : Int := k.wrap ((BitVec.ofInt k.bits x ||| BitVec.ofInt k.bits y).toNat : Nat)
def bXor (k : IntKind) (x y : Int) : Int := k.wrap ((BitVec.ofInt k.bits x ^^^ BitVec.ofInt k.bits y).toNat : Nat)
def bAndNot (k : IntKind) (x y : Int) : Int := k.wrap ((BitVec.ofInt k.bits x &&& ~~~BitVec.ofInt k.bits y).toNat : Nat)
def shL (k : IntKind) (x y : Int) : Int := k.wrap (x * 2 ^ (min y.toNat k.bits))
def shR (k : IntKind) (x y : Int) : Int := x.fdiv (2 ^ (min y.toNat k.bits))

def denBin (op : BinOp) (a b : Value) (K : Value → Prop) : Prop :=
  match a, b with
  | .int k x, .int k' y =>
    match op with
    | .shl => 0 ≤ y ∧ K (.int k (shL k x y))
    | .shr => 0 ≤ y ∧ K (.int k (shR k x y))
    | .add => bif same k k' then K (.int k (k.wrap (x + y))) else False
    | .sub => bif same k k' then K (.int k (k.wrap (x - y))) else False
    | .mul => bif same k k' then K (.int k (k.wrap (x * y))) else False
    | .quo => bif same k k' then y ≠ 0 ∧ K (.int k (k.wrap (x.tdiv y))) else False
    | .rem => bif same k k' then y ≠ 0 ∧ K (.int k (x.tmod y)) else False
    | .and => bif same k k' then K (.int k (bAnd k x y)) else False
    | .or => bif same k k' then K (.int k (bOr k x y)) else False
    | .xor => bif same k k' then K (.int k (bXor k x y)) else False
    | .andNot => bif same k k' then K (.int k (bAndNot k x y)) else False
    | .eql => bif same k k' then K (.bool (decide (x = y))) else False
    | .neq => bif same k k' then K (.bool (!decide (x = y))) else False
    | .lss => bif same k k' then K (.bool (decide (x < y))) else False
    | .leq => bif same k k' then K (.bool (decide (x ≤ y))) else False
    | .gtr => bif same k k' then K (.bool (decide (y < x))) else False
    | .geq => bif same k k' then K (.bool (decide (y ≤ x))) else False
  | .string x, .string y =>
    match op with
    | .add => ((x.size + y.size : Nat) : Int) ≤ 9223372036854775807 ∧ K (.string (x ++ y))
    | .eql => K (.bool (x.toList == y.toList))
    | .neq => K (.bool (!(x.toList == y.toList)))
    | _ => False
  | _, _ => False
def denUn (op : UnOp) (a : Value) (K : Value → Prop) : Prop :=
  match op, a with
  | .neg, .int k n => K (.int k (k.wrap (0 - n)))
  | .xor, .int k n => K (.int k (bXor k (if k.signed then -1 else k.max) n))
  | .not, .bool b => K (.bool !b)
  | _, _ => False
def isNilV : Value → Option Bool
  | .pointer a => some a.isNone
  | .slice a _ _ => some a.isNone
  | .map a => some a.isNone
  | .nilIface => some true
  | .iface _ _ => some false
  | .nilFunc => some true
  | .func _ _ _ => some false
  | _ => none
def isNilK : Nat → Value → Option Bool
  | 0, .slice a _ _ => some a.isNone
  | 1, .pointer a => some a.isNone
  | 2, .map a => some a.isNone
  | 3, .nilFunc => some true
  | 3, .func _ _ _ => some false
  | 4, .nilIface => some true
  | 4, .iface _ _ => some false
  | _, _ => none
def optK (a : Option Addr) (K : Addr → Prop) : Prop :=
  match a with
  | some b => K b
  | none => False
def ncK (v : Value) (K : Value → Prop) : Prop :=
  match v with
  | .pointer p => optK p fun a => K (.pointer (some a))
  | v => isNilV v = some false ∧ (∀ n f c, v ≠ .func (.method n) f c) ∧ K v
def tupK (v : Value) (K : Array Value → Prop) : Prop :=
  match v with
  | .tuple vs => K vs
  | _ => False
def fnK (v : Value) (K : FuncId → Array Value → Array Value → Prop) : Prop :=
  match v with
  | .func (.func g) first cap => K g first cap
  | _ => False
def ptrK (v : Value) (K : Addr → Prop) : Prop :=
  match v with
  | .pointer p => optK p K
  | _ => False
def nilQ (kind : Nat) (v : Value) (K : Bool → Prop) : Prop :=
  match isNilK kind v with
  | some b => K b
  | none => False
def RunV (P : Program) (s : Sem Value) (w : World) (K : Value → World → Prop) : Prop := ∃ v w', s.run P w = .ok v w' ∧ K v w'
def RunU (P : Program) (s : Sem Unit) (w : World) (K : World → Prop) : Prop := ∃ w', s.run P w = .ok () w' ∧ K w'
/-- What is asked where a run panics. -/
abbrev Pan := List PanicEntry → World → Prop
abbrev noPan : Pan := fun _ _ => False
def orPan (e : Ending) (Z : List PanicEntry → Prop) (K : Prop) : Prop :=
  match e with
  | .panicked ch => Z ch
  | _ => K
def RunsTo (P : Program) (Z : Pan) (s : Sem Next) (w : World) (K : Value → World → Prop) : Prop :=
  match s.run P w with
  | .ok (.value v) w' => K v w'
  | .ok .skip w' => K undef w'
  | .ok (.enter f args) w' => Calls P f args w' fun e w'' => orPan e (fun ch => Z ch w'') (∃ v, e = .returned v ∧ K v w'')
  | .ok (.round l f tmps assign body) w' => RoundIn Fence.wide 0 P l f tmps assign body w' fun e w'' => orPan e (fun ch => Z ch w'') (∃ v, e = .returned v ∧ K v w'')
  | .halt (.panic v) w' => Z [{ v, recovered := false }] w'
  | _ => False
/-- Some cells in a row. -/
def Cells (w : World) (a : Addr) (cs : List Value) : Prop := ∀ i v, cs[i]? = some v → w.cell? (a.add i) = some v
def setCells (w : World) (a : Addr) : List Value → Nat → World
  | [], _ => w
  | v :: r, i => setCells (w.setCell (a.add i) v) a r (i + 1)
def one : Value → Bool
  | .agg _ | .tuple _ => false
  | _ => true
/-- May these cells be written? -/
def Room (w : World) (a : Addr) (n : Nat) : Prop := ∀ i, i < n → (w.cell? (a.add i)).isSome = true ∧ w.frozen? (a.add i) = false
def bnd (v : Option Value) (dflt top : Nat) (K : Nat → Prop) : Prop :=
  match v with
  | none => K dflt
  | some (.int _ i) => 0 ≤ i ∧ i ≤ top ∧ K i.toNat
  | _ => False
def HasBody (P : Program) (f : FuncId) : Prop := ∃ fn, P.funcs[f]? = some fn ∧ fn.body.isNone = false ∧ (fn.name == "runtime.NumGoroutine") = false
def CallK (P : Program) (f : FuncId) (args : Array Value) (ts : List Ty) (w : World) (K : Value → World → Prop) : Prop :=
  Calls P f args w fun e w' => retK ts e fun v => K v w'

/-- A call of a function's value: a function, or a loop's yield. -/
def fvK (P : Program) (v : Value) (args : Array Value) (w : World) (K : Ending → World → Prop) : Prop :=
  match v with
  | .func (.func g) first cap => HasBody P g ∧ Calls P g (first ++ args ++ cap) w K
  | .func (.yield l) first cap => YieldAt Fence.wide 0 P l (first ++ args) w K
  | _ => False

def denI (P : Program) (Z : Pan) (i : I) (ty : Ty) (e : Env) (w : World) (K : Value → World → Prop) : Prop :=
  match i with
  | .mv x => rdK e x fun v => K v w
  | .nc x => rdK e x fun v => ncK v fun v => K v w
  | .pick c a b => rdK e c fun vc =>
    match vc with
    | .bool t => bif t then rdK e a fun v => K v w else rdK e b fun v => K v w
    | _ => False
  | .bin op x y => rdK e x fun a => rdK e y fun b => denBin op a b fun v => K v w
  | .eqB neg x y => rdK e x fun a => rdK e y fun b =>
    match a, b with
    | .bool s, .bool t => K (.bool (bif neg then !(s == t) else (s == t))) w
    | _, _ => False
  | .nilEq neg kind x => rdK e x fun v => nilQ kind v fun b => K (.bool (bif neg then !b else b)) w
  | .eqG op t x y => rdK e x fun a => rdK e y fun b => ∃ r : Bool, Sem.run P (do eqGuard op t x y a b; binOp op t a b) w = .ok (.bool r) w ∧ K (.bool r) w
  | .un op x => rdK e x fun a => denUn op a fun v => K v w
  | .cv k x => rdK e x fun a =>
    match a with
    | .int _ n => K (.int k (k.wrap n)) w
    | _ => False
  | .alloc T => ∀ w', w' = w.alloc (.cells (zc P T).toArray T) → K (.pointer (some ⟨w.heap.size, 0, none⟩)) w'
  | .box T x => rdK e x fun v => ∀ w', w' = w.alloc (.cells v.cells T) → K (.pointer (some ⟨w.heap.size, 0, none⟩)) w'
  | .bld T p parts => rdps e parts fun vs => ∃ cs, fillL p (zc P T) vs = some cs ∧ K (.agg cs.toArray) w
  | .bldS T len size parts => rdps e parts fun vs => ∃ cs, fillL (.elems size) (zrep (zc P T) (len * size)) vs = some cs ∧
      ∀ w', w' = w.alloc (.cells cs.toArray T) → K (.slice (some ⟨w.heap.size, 0, none⟩) len len) w'
  | .bld0 T len => ∀ w', w' = w.alloc (.cells #[] T) → K (.slice (some ⟨w.heap.size, 0, none⟩) len len) w'
  | .ld1 x => rdK e x fun p => ptrK p fun a => exTy ty fun u => w.cell? a = some u ∧ K u w
  | .ldN n x => rdK e x fun p => ptrK p fun a => ∃ cs : List Value, cs.length = n ∧ Cells w a cs ∧ K (.agg cs.toArray) w
  | .st1 x v => rdK e x fun p => rdK e v fun u =>
    ptrK p fun a => one u = true ∧ (w.cell? a).isSome = true ∧ w.frozen? a = false ∧ ∀ w', w' = w.setCell a u → K undef w'
  | .stN n x v => rdK e x fun p => rdK e v fun u =>
    ptrK p fun a => match u with
    | .agg cs => cs.size = n ∧ (∀ u ∈ cs.toList, one u = true) ∧ Room w a n ∧ ∀ w', w' = setCells w a cs.toList 0 → K undef w'
    | _ => False
  | .fa off x => rdK e x fun p => ptrK p fun a => K (.pointer (some (a.add off))) w
  | .fld off x => rdK e x fun v =>
    match v with
    | .agg cs => exTy ty fun u => cs[off]? = some u ∧ K u w
    | _ => False
  | .fldN off n x => rdK e x fun v =>
    match v with
    | .agg cs => K (.agg (cs.extract off (off + n))) w
    | _ => False
  | .ia size x i => rdK e x fun s => rdK e i fun j =>
    match s, j with
    | .slice a n _, .int _ q => 0 ≤ q ∧ q < n ∧ optK a fun b => K (.pointer (some (b.add (q.toNat * size)))) w
    | _, _ => False
  | .iaA n size x i => rdK e x fun s => rdK e i fun j =>
    ptrK s fun a => match j with
    | .int _ q => 0 ≤ q ∧ q < n ∧ K (.pointer (some (a.add (q.toNat * size)))) w
    | _ => False
  | .ixA n size x i => rdK e x fun s => rdK e i fun j =>
    match s, j with
    | .agg cs, .int _ q => 0 ≤ q ∧ q < n ∧ exTy ty fun u => cs[q.toNat * size]? = some u ∧ K u w
    | _, _ => False
  | .ixN n size x i => rdK e x fun s => rdK e i fun j =>
    match s, j with
    | .agg cs, .int _ q => 0 ≤ q ∧ q < n ∧ K (.agg (cs.extract (q.toNat * size) (q.toNat * size + size))) w
    | _, _ => False
  | .ixS x i => rdK e x fun s => rdK e i fun j =>
    match s, j with
    | .string s, .int _ q => 0 ≤ q ∧ ∃ b, s[q.toNat]? = some b ∧ K (.int .u8 b.toNat) w
    | _, _ => False
  | .slS size x lo hi mx => rdK e x fun s => rdo e lo fun l => rdo e hi fun h => rdo e mx fun m =>
    match s with
    | .slice a n c => bnd m c c fun m => bnd h n m fun h => bnd l 0 h fun l => K (.slice (if m = l then a else a.map (·.add (l * size))) (h - l) (m - l)) w
    | _ => False
  | .slA n size x lo hi mx => rdK e x fun s => rdo e lo fun l => rdo e hi fun h => rdo e mx fun m =>
    ptrK s fun a => bnd m n n fun m => bnd h n m fun h => bnd l 0 h fun l => K (.slice (some (if m = l then a else a.add (l * size))) (h - l) (m - l)) w
  | .slT x lo hi => rdK e x fun s => rdo e lo fun l => rdo e hi fun h =>
    match s with
    | .string s => bnd h s.size s.size fun h => bnd l 0 h fun l => K (.string (s.extract l h)) w
    | _ => False
  | .len x => rdK e x fun v =>
    match v with
    | .slice _ n _ => K (.int .i64 n) w
    | _ => False
  | .lenT x => rdK e x fun v =>
    match v with
    | .string s => K (.int .i64 s.size) w
    | _ => False
  | .app ats T x y => rdK e x fun a => rdK e y fun b => RunV P (Builtin.append_ ats T #[a, b]) w fun v w' => intro ty v fun v => K v w'
  | .cpy ats T x y => rdK e x fun a => rdK e y fun b => RunV P (Builtin.copy_ ats T #[a, b]) w fun v w' => intro ty v fun v => K v w'
  | .mk T x y => rdK e x fun a => rdK e y fun b => RunV P (Instr.makeSlice T a b) w fun v w' => intro ty v fun v => K v w'
  | .mkI T x => rdK e x fun v => K (.iface T v) w
  | .mkM _ => ∀ w', w' = w.alloc (.map #[] 0) → K (.map (some w.heap.size)) w'
  | .look T x i ok => rdK e x fun m => rdK e i fun k => ∃ v, Sem.run P (Instr.lookup T m k ok) w = .ok v w ∧ intro ty v fun v => K v w
  | .upd T m k v => rdK e m fun m => rdK e k fun k => rdK e v fun v => RunU P (Instr.mapUpdate T m k v) w fun w' => K undef w'
  | .ext i x => rdK e x fun v => tupK v fun vs => exTy ty fun u => vs[i]? = some u ∧ K u w
  | .call f args ts => rdsK e args fun vs => CallK P f vs.toArray ts w K
  | .callP f args ts => rdsK e args fun vs => Calls P f vs.toArray w fun en w' => orPan en (fun ch => Z ch w') (retK ts en fun v => K v w')
  | .callv f args ts => rdK e f fun vf => rdsK e args fun vs => fvK P vf vs.toArray w fun en w' => retK ts en fun v => K v w'
  | .inv x name args ts => rdK e x fun vx => rdsK e args fun vs =>
    ∃ t v g r, vx = .iface t v ∧ Sem.run P (method (P.types.size + Made.depth) t v name) w = .ok (g, r) w ∧ HasBody P g ∧ CallK P g (#[r] ++ vs.toArray) ts w K
  | .rv r xs => rdsK e xs fun vs => RunV P (r.sem vs) w fun v w' => intro ty v fun v => K v w'
  | .mkF f a c => rdsK e a fun va => rdsK e c fun vc => K (.func f va.toArray vc.toArray) w
  | .est T m s v => rdK e m fun m => rdK e s fun s => rdK e v fun v => RunU P (Instr.entryStore T m s v) w fun w' => K undef w'
  | .pan x => rdK e x fun v => (∃ t u, v = .iface t u) ∧ Z [{ v, recovered := false }] w
  | .run op T => (op.operands.all fun x => (rd e x).isSome) = true ∧ (∀ cs b, op ≠ .select cs b) ∧
      RunsTo P Z (execOp (fun x => (rd e x).getD undef) ⟨none, op, T, "", #[], none⟩) w fun v w' => intro ty v fun v => K v w'

/-- An operation with its place and its guard ('slot', 'as it must be'). -/
structure X where
  dst : Option Nat
  i : I
  ty : Ty
  guard : Option (Nat × Bool) := none
def gv : Value → Option Bool
  | .bool b => some b
  | _ => none
def denX (P : Program) (Z : Pan) (x : X) (e : Env) (w : World) (K : Env → World → Prop) : Prop :=
  match x.guard with
  | none => denI P Z x.i x.ty e w fun v w' => K (put x.dst v e) w'
  | some (g, b) =>
    match find e g with
    | some u =>
     match gv u with
     | some t =>
      let br (c : Bool) : Prop := bif (c == b) then denI P Z x.i x.ty ((g, .bool c) :: e) w fun v w' => K (put x.dst v ((g, .bool c) :: e)) w'
        else K (put x.dst undef ((g, .bool c) :: e)) w
      bif t then br true else br false
     | none => K (put x.dst undef e) w
    | none => False
def denOps (P : Program) (Z : Pan) : List X → Env → World → (Env → World → Prop) → Prop
  | [], e, w, K => K e w
  | x :: r, e, w, K => denX P Z x e w fun e' w' => denOps P Z r e' w' K

/-! ### Regions that draw their order -/
/-- May it be taken before others: it leaves the world alone; and does its value hang on the world? -/
def readI : I → Bool
  | .ld1 _ | .ldN _ _ | .look _ _ _ _ | .eqG _ _ _ _ => true
  | _ => false
def pureI : I → Bool
  | .mv _ | .nc _ | .pick _ _ _ | .bin _ _ _ | .eqB _ _ _ | .nilEq _ _ _ | .un _ _ | .cv _ _ | .bld _ _ _ | .fa _ _ | .fld _ _ | .fldN _ _ _
  | .ia _ _ _ | .iaA _ _ _ _ | .ixA _ _ _ _ | .ixN _ _ _ _ | .ixS _ _ | .slS _ _ _ _ _ | .slA _ _ _ _ _ _ | .slT _ _ _ | .len _ | .lenT _ | .mkI _ _ | .ext _ _ | .mkF _ _ _ => true
  | _ => false
/-- A walk of all orders: 'take' what may come first; 'go' on with one that acts (the reads taken before it, and not bound to be, read the same behind it); 'alt' both. -/
inductive D where
  | done
  | take (i : Nat) (x : X) (r : D)
  | go (i : Nat) (x : X) (chk : List (Nat × X)) (r : D)
  | alt (a b : D)
def stillX (P : Program) (x : X) (e : Env) (w : World) : Prop :=
  let body : Prop := match x.dst with
    | some d => match find e d with
      | some v => denI P noPan x.i x.ty e w fun u w' => u = v ∧ w' = w
      | none => False
    | none => False
  match x.guard with
  | none => body
  | some (g, b) =>
    match find e g with
    | some u =>
      match gv u with
      | some t => bif (t == b) then body else True
      | none => True
    | none => False
def stills (P : Program) (e : Env) (w : World) : List (Nat × X) → Prop → Prop
  | [], K => K
  | (_, x) :: r, K => stillX P x e w ∧ stills P e w r K
def denD (P : Program) (Z : Pan) : D → Env → World → (Env → World → Prop) → Prop
  | .done, e, w, K => K e w
  | .take _ x r, e, w, K => denX P Z x e w fun e' w' => denD P Z r e' w' K
  | .go _ x chk r, e, w, K => denX P Z x e w fun e' w' => stills P e' w' chk (denD P Z r e' w' K)
  | .alt a b, e, w, K => denD P Z a e w K ∧ denD P Z b e w K

/-! ### Structured code -/
inductive S where
  | skip
  | exit (id : Nat)
  | ret
  | ops (l : List X) (keep : List Nat)
  | draw (d : D) (keep : List Nat)
  | seq (a b : S)
  | join (sl : List (Nat × Ty)) (ks : List Nat) (a b : S)
  | cond (c : Operand) (a b : S)
  | block (id : Nat) (a : S)
  | loop (sl : List (Nat × Ty)) (ks : List Nat) (a : S)
  | scope (a : S)
abbrev Post := Exit → Env → World → Prop
def thenE (next : Env → World → Prop) (Q : Post) : Post
  | .normal, e, w => next e w
  | ex, e, w => Q ex e w
def inBlockE (id : Nat) (Q : Post) : Post
  | .exit id', e, w => bif Nat.beq id' id then Q .normal e w else Q (.exit id') e w
  | ex, e, w => Q ex e w
/-- What a piece's post-condition asks of a panic. -/
def panQ (Q : Post) : Pan := fun ch w => Q (.panic ch) [] w
def denS (P : Program) : S → Env → World → Post → Prop
  | .skip, e, w, Q => Q .normal e w
  | .exit id, e, w, Q => Q (.exit id) e w
  | .ret, e, w, Q => Q .ret e w
  | .ops l ks, e, w, Q => denOps P (panQ Q) l e w fun e' w' => keepK e' ks fun e'' => Q .normal e'' w'
  | .draw d ks, e, w, Q => ∀ w0, w0 = w.drew → denD P (panQ Q) d e w0 fun e' w' => keepK e' ks fun e'' => Q .normal e'' w'
  | .seq a b, e, w, Q => denS P a e w (thenE (fun e' w' => denS P b e' w' Q) Q)
  | .join sl ks a b, e, w, Q => ∃ J : Fn (tys sl), denS P a e w (thenE (fun e' w' => valsK e' sl fun vs => app (tys sl) J vs w') Q) ∧
      ∀ w', allSl sl fun es vs => app (tys sl) J vs w' → keepK e ks fun ek => denS P b (es ++ ek) w' Q
  | .cond c a b, e, w, Q => rdK e c fun v =>
    match v with
    | .bool t => bif t then denS P a e w Q else denS P b e w Q
    | _ => False
  | .block id a, e, w, Q => denS P a e w (inBlockE id Q)
  | .loop sl ks a, e, w, Q => ∃ I : Nat → Fn (tys sl), (∃ m, valsK e sl fun vs => app (tys sl) (I m) vs w) ∧
      ∀ m w', allSl sl fun es vs => app (tys sl) (I m) vs w' → keepK e ks fun ek =>
        denS P a (es ++ ek) w' (thenE (fun e' w'' => ∃ m', m' < m ∧ valsK e' sl fun vs => app (tys sl) (I m') vs w'') Q)
  | .scope a, e, w, Q => denS P a e w Q

/-! ### A function -/
inductive Res where
  | t (slot : Nat)
  | c1 (slot : Nat) (ty : Ty)
  | cN (slot n : Nat)
def resK (e : Env) (w : World) : List Res → (List Value → Prop) → Prop
  | [], K => K []
  | .t s :: r, K =>
    match find e s with
    | some v => resK e w r fun vs => K (v :: vs)
    | none => False
  | .c1 s ty :: r, K =>
    match find e s with
    | some (.pointer (some a)) => exTy ty fun u => w.cell? a = some u ∧ resK e w r fun vs => K (u :: vs)
    | _ => False
  | .cN s n :: r, K =>
    match find e s with
    | some (.pointer (some a)) => ∃ cs : List Value, cs.length = n ∧ Cells w a cs ∧ resK e w r fun vs => K (.agg cs.toArray :: vs)
    | _ => False
def endV : List Value → Value
  | [v] => v
  | vs => .tuple vs.toArray
/-- What is asked at a function's end. -/
def endK (rs : List Res) (R : Ending → World → Prop) : Post
  | .normal, e, w => resK e w rs fun vs => R (.returned (endV vs)) w
  | .ret, e, w => resK e w rs fun vs => R (.returned (endV vs)) w
  | .panic ch, _, w => R (.panicked ch) w
  | _, _, _ => False
def argsEnv : Nat → List Value → Env
  | _, [] => []
  | i, v :: r => (i, v) :: argsEnv (i + 1) r
end Go.Proofs.YtjchneebdlncfaaDoor.Den
namespace Go.Proofs.YtjchneebdlncfaaDoor.Den
open Go
def tyOf (P : Program) (T : TypeId) : Ty :=
  match P.underlying T with
  | some (.int k) => .int k
  | some .bool => .bool
  | some .string => .str
  | some (.slice _) => .sl
  | some (.pointer _) => .ptr
  | some (.map _ _) => .mp
  | some (.struct _) => .agg
  | some (.array _ _) => .agg
  | _ => .any
def tysOf (P : Program) (T : TypeId) : List Ty :=
  match P.underlying T with
  | some (.tuple es) => es.toList.map (tyOf P)
  | some .invalid => []
  | none => []
  | _ => [tyOf P T]
def nilKind (d : TypeDesc) (y : Operand) : Option Nat :=
  match d, y with
  | .slice _, .const (.slice none _ _) => some 0
  | .pointer _, .const (.pointer none) => some 1
  | .map _ _, .const (.map none) => some 2
  | .func _ _ _, .const .nilFunc => some 3
  | .interface _, .const .nilIface => some 4
  | _, _ => none
def aggT (P : Program) (T : TypeId) : Bool :=
  match P.underlying T with
  | some (.struct _) | some (.array _ _) => true
  | _ => false
def hasZero (P : Program) (T : TypeId) : Bool := ((P.info? T).bind (·.zero)).isSome
def hasBody (P : Program) (f : FuncId) : Bool :=
  match P.funcs[f]? with
  | some fn => !fn.body.isNone && !(fn.name == "runtime.NumGoroutine")
  | none => false
def trEq (P : Program) (op : BinOp) (t : TypeId) (x y : Operand) : Option I :=
  if op == .eql || op == .neq then
    match P.underlying t with
    | some .bool => some (.eqB (op == .neq) x y)
    | some d =>
      match nilKind d y with
      | some k => some (.nilEq (op == .neq) k x)
      | none => some (.eqG op t x y)
    | none => none
  else none
def trOp (P : Program) (pn : List Nat) (o : Oper) : Option (I × Ty) :=
  let ty := tyOf P o.type
  let run : Option (I × Ty) := some (.run o.op o.type, ty)
  match o.op with
  | .move x | .assign x => some (.mv x, ty)
  | .nilCheck x => some (.nc x, ty)
  | .pick c a b => some (.pick c a b, ty)
  | .binOp op xt x y _ =>
    match P.underlying xt with
    | some (.int _) | some .string => some (.bin op x y, ty)
    | _ => (trEq P op xt x y).map (·, ty)
  | .unOp op _ x => some (.un op x, ty)
  | .convert src dst x =>
    match P.underlying src, P.underlying dst with
    | some (.int _), some (.int k) => some (.cv k x, ty)
    | _, _ => some (.rv (.cvG src dst) [x], ty)
  | .alloc T => if hasZero P T then some (.alloc T, .ptr) else run
  | .box T x => some (.box T x, .ptr)
  | .build T parts =>
    if hasZero P T then
      match P.underlying T with
      | some (.struct fs) => if fs.all (fun f => (P.info? f.type).isSome) then some (.bld T (.fields (fs.toList.map fun f => (f.offset, P.cellsOf f.type))) parts.toList, ty) else run
      | some (.array _ el) => if (P.info? el).isSome then some (.bld T (.elems (P.cellsOf el)) parts.toList, ty) else run
      | _ => run
    else run
  | .buildSlice T len parts =>
    match P.underlying T with
    | some (.slice el) => if hasZero P el && decide (0 < len * P.cellsOf el) && decide (len * P.cellsOf el ≤ 16777216) then some (.bldS el len (P.cellsOf el) parts.toList, ty)
      else if (P.info? el).isSome && decide (len * P.cellsOf el = 0) && parts.isEmpty then some (.bld0 el len, ty) else run
    | _ => run
  | .load T x =>
    if aggT P T then (if (P.info? T).isSome then some (.ldN (P.cellsOf T) x, ty) else run)
    else if (P.underlying T).isSome then some (.ld1 x, tyOf P T) else run
  | .store T x v =>
    if (P.info? T).isSome then (if aggT P T then some (.stN (P.cellsOf T) x v, ty) else if P.cellsOf T = 1 then some (.st1 x v, ty) else run) else run
  | .fieldAddr T x f =>
    match P.underlying T with
    | some (.struct fs) => match fs[f]? with
      | some fd => if decide (P.cellsOf fd.type ≠ 0) then some (.fa fd.offset x, .ptr) else run
      | none => run
    | _ => run
  | .field T x f =>
    match P.underlying T with
    | some (.struct fs) => match fs[f]? with
      | some fd => if (P.info? fd.type).isSome && (P.underlying fd.type).isSome then (if aggT P fd.type then some (.fldN fd.offset (P.cellsOf fd.type) x, ty) else some (.fld fd.offset x, ty)) else run
      | none => run
    | _ => run
  | .indexAddr T x i =>
    match P.underlying T with
    | some (.slice el) => if (P.info? el).isSome then some (.ia (P.cellsOf el) x i, .ptr) else run
    | some (.array n el) => if (P.info? el).isSome then some (.iaA n (P.cellsOf el) x i, .ptr) else run
    | _ => run
  | .index T x i =>
    match P.underlying T with
    | some (.array n el) => if (P.info? el).isSome && (P.underlying el).isSome then (if aggT P el then some (.ixN n (P.cellsOf el) x i, ty) else some (.ixA n (P.cellsOf el) x i, ty)) else run
    | some .string => some (.ixS x i, ty)
    | _ => run
  | .slice T x lo hi mx =>
    if mx.isSome && hi.isNone then run else
    match P.underlying T with
    | some (.slice el) => if (P.info? el).isSome then some (.slS (P.cellsOf el) x lo hi mx, ty) else run
    | some (.array n el) => if (P.info? el).isSome then some (.slA n (P.cellsOf el) x lo hi mx, ty) else run
    | some .string => if mx.isNone then some (.slT x lo hi, ty) else run
    | _ => run
  | .makeInterface T x =>
    match P.underlying T with
    | some (.interface _) => run
    | some _ => some (.mkI T x, ty)
    | none => run
  | .makeMap T none => some (.mkM T, ty)
  | .makeMap T (some r) => some (.rv (.mkR T) [r], ty)
  | .makeFunc f a c => some (.mkF f a.toList c.toList, ty)
  | .mapEntry T m k => some (.rv (.ment T) [m, k], ty)
  | .entryStore T m s v => some (.est T m s v, ty)
  | .range T x => some (.rv (.rng T) [x], ty)
  | .next x b => some (.rv (.nxt b o.type) [x], ty)
  | .entry x => some (.rv .entr [x], ty)
  | .typeAssert x xt at_ ok => some (.rv (.asrt xt at_ ok) [x], if ok then .any else ty)
  | .panic x => some (.pan x, ty)
  | .makeSlice T l c => some (.mk T l c, ty)
  | .lookup T x i ok => some (.look T x i ok, if ok then .any else ty)
  | .mapUpdate T m k v | .insert T m k v => some (.upd T m k v, ty)
  | .extract x i => some (.ext i x, ty)
  | .call { callee := .value (.func f), args, .. } => if hasBody P f then some ((if pn.contains f then I.callP else I.call) f args.toList (((P.funcs[f]?).map (·.resultTypes.toList.map (tyOf P))).getD []), ty) else run
  | .call { callee := .value f, args, .. } => some (.callv f args.toList (tysOf P o.type), ty)
  | .call { callee := .invoke x name, args, .. } => some (.inv x name args.toList (tysOf P o.type), ty)
  | .call { callee := .builtin .append, args, argTypes } => if args.size = 2 then some (.app argTypes o.type (args.getD 0 (.const undef)) (args.getD 1 (.const undef)), ty) else run
  | .call { callee := .builtin .copy, args, argTypes } => if args.size = 2 then some (.cpy argTypes o.type (args.getD 0 (.const undef)) (args.getD 1 (.const undef)), ty) else run
  | .call { callee := .builtin .len, args, argTypes } =>
    if args.size = 1 && argTypes.size = 1 then
      match P.underlying (argTypes.getD 0 0) with
      | some (.slice _) => some (.len (args.getD 0 (.const undef)), ty)
      | some .string => some (.lenT (args.getD 0 (.const undef)), ty)
      | _ => some (.rv (.lenB argTypes o.type) args.toList, ty)
    else run
  | .call { callee := .builtin .cap, args, argTypes } => some (.rv (.capB argTypes o.type) args.toList, ty)
  | .call { callee := .builtin .max, args, argTypes } => some (.rv (.maxB argTypes o.type) args.toList, ty)
  | .call { callee := .builtin .min, args, argTypes } => some (.rv (.minB argTypes o.type) args.toList, ty)
  | .call { callee := .builtin .delete, args, argTypes } => some (.rv (.delB argTypes o.type) args.toList, .any)
  | .call { callee := .builtin .clear, args, argTypes } => some (.rv (.clrB argTypes o.type) args.toList, .any)
  | _ => run

/-! ### Readings -/
theorem rdK_spec {e : Env} {x : Operand} {K : Value → Prop} (h : rdK e x K) : ∃ v, rd e x = some v ∧ K v := by
  unfold rdK at h
  split at h
  · exact ⟨_, by assumption, h⟩
  · exact h.elim
theorem rdo_spec {e : Env} {x : Option Operand} {K : Option Value → Prop} (h : rdo e x K) : (x = none ∧ K none) ∨ ∃ y v, x = some y ∧ rd e y = some v ∧ K (some v) := by
  cases x with
  | none => exact .inl ⟨rfl, h⟩
  | some y => obtain ⟨v, h1, h2⟩ := rdK_spec h; exact .inr ⟨y, v, rfl, h1, h2⟩
theorem rdsK_spec {e : Env} : ∀ {l : List Operand} {K : List Value → Prop}, rdsK e l K → ∃ vs, (∀ ρ : Operand → Value, (∀ x v, rd e x = some v → ρ x = v) → l.map ρ = vs) ∧ K vs
  | [], _, h => ⟨[], fun _ _ => rfl, h⟩
  | x :: r, K, h => by
    obtain ⟨v, h1, h2⟩ := rdK_spec (K := fun v => rdsK e r fun vs => K (v :: vs)) h
    obtain ⟨vs, h3, h4⟩ := rdsK_spec h2
    exact ⟨v :: vs, fun ρ hρ => by rw [List.map_cons, hρ x v h1, h3 ρ hρ], h4⟩
theorem rdps_spec {e : Env} : ∀ {l : List (Nat × Operand)} {K : List (Nat × Value) → Prop}, rdps e l K → ∃ vs, (∀ ρ : Operand → Value, (∀ x v, rd e x = some v → ρ x = v) → l.map (fun p => (p.1, ρ p.2)) = vs) ∧ K vs
  | [], _, h => ⟨[], fun _ _ => rfl, h⟩
  | (i, x) :: r, K, h => by
    obtain ⟨v, h1, h2⟩ := rdK_spec (K := fun v => rdps e r fun vs => K ((i, v) :: vs)) h
    obtain ⟨vs, h3, h4⟩ := rdps_spec h2
    exact ⟨(i, v) :: vs, fun ρ hρ => by rw [List.map_cons, hρ x v h1, h3 ρ hρ], h4⟩
theorem exTy_spec {t : Ty} {F : Value → Prop} (h : exTy t F) : ∃ v, F v := by
  cases t <;> simp only [exTy] at h <;> first | exact (let ⟨a, h⟩ := h; ⟨_, h⟩) | exact (let ⟨a, n, c, h⟩ := h; ⟨_, h⟩)
theorem intro_spec {t : Ty} {v : Value} {K : Value → Prop} (h : intro t v K) : K v := by
  obtain ⟨u, h1, h2⟩ := exTy_spec h
  exact h1 ▸ h2
theorem exTys_spec : ∀ {ts : List Ty} {F : List Value → Prop}, exTys ts F → ∃ vs, F vs
  | [], _, h => ⟨[], h⟩
  | t :: ts, F, h => by
    obtain ⟨v, h1⟩ := exTy_spec (F := fun v => exTys ts fun vs => F (v :: vs)) h
    obtain ⟨vs, h2⟩ := exTys_spec h1
    exact ⟨v :: vs, h2⟩
theorem retK_spec {ts : List Ty} {e : Ending} {K : Value → Prop} (h : retK ts e K) : ∃ v, e = .returned v ∧ K v := by
  unfold retK at h
  split at h
  · exact ⟨_, h⟩
  · exact exTy_spec h
  · obtain ⟨vs, h⟩ := exTys_spec h; exact ⟨_, h⟩

section
variable {P : Program} {Z : Pan} {pn : List Nat} {w : World} {K : Value → World → Prop}
theorem RunsTo.val {s : Sem Value} (h : RunV P s w K) : RunsTo P Z (do pure (.value (← s))) w K := by
  obtain ⟨v, w', h1, h2⟩ := h
  simp [RunsTo, h1, Result.andThen, h2]
theorem RunsTo.unit {s : Sem Unit} (h : RunU P s w (K undef)) : RunsTo P Z (do s; pure .skip) w K := by
  obtain ⟨w', h1, h2⟩ := h
  simp [RunsTo, h1, Result.andThen, h2]
theorem RunsTo.same {s : Sem Value} {v : Value} (h : s.run P w = .ok v w) (hK : K v w) : RunsTo P Z (do pure (.value (← s))) w K := .val ⟨v, w, h, hK⟩
theorem run_callFunc {f : FuncId} {args : Array Value} (h : HasBody P f) : (callFunc f args).run P w = .ok (.enter f args) w := by
  obtain ⟨fn, h1, h2, h3⟩ := h
  have h2' : fn.body ≠ none := fun e => by rw [e] at h2; cases h2
  have h3' : fn.name ≠ "runtime.NumGoroutine" := fun e => by rw [e] at h3; cases h3
  simp [callFunc, h1, h2', h3', Result.andThen]
theorem hasBody_spec {f : FuncId} (h : hasBody P f = true) : HasBody P f := by
  unfold hasBody at h
  split at h
  · rename_i fn hf
    simp only [Bool.and_eq_true, Bool.not_eq_true'] at h
    exact ⟨fn, hf, h.1, h.2⟩
  · cases h
theorem CallK.runs {f : FuncId} {args : Array Value} {ts : List Ty} (h : CallK P f args ts w K) : Calls P f args w fun e w'' => ∃ v, e = .returned v ∧ K v w'' :=
  Calls.mono h fun _ _ hr => retK_spec hr
theorem RunsTo.call {f : FuncId} {args : Array Value} {ts : List Ty} (hb : HasBody P f) (h : CallK P f args ts w K) : RunsTo P Z (callFunc f args) w K := by
  unfold RunsTo
  rw [run_callFunc hb]
  exact Calls.mono h.runs fun e w' ⟨v, he, hK⟩ => by subst he; exact ⟨v, rfl, hK⟩
theorem orPan_mono {e : Ending} {Z Z' : List PanicEntry → Prop} {K K' : Prop} (h : orPan e Z K) (hz : ∀ ch, Z ch → Z' ch) (hk : K → K') : orPan e Z' K' := by
  cases e with
  | returned v => exact hk h
  | panicked ch => exact hz ch h
  | outgrown => exact hk h
theorem RunsTo.callP {f : FuncId} {args : Array Value} {ts : List Ty} (hb : HasBody P f) (h : Calls P f args w fun en w' => orPan en (fun ch => Z ch w') (retK ts en fun v => K v w')) : RunsTo P Z (callFunc f args) w K := by
  unfold RunsTo
  rw [run_callFunc hb]
  refine Calls.mono h fun e w' h => ?_
  cases e with
  | returned v => exact retK_spec (show retK ts (.returned v) fun v => K v w' from h)
  | panicked ch => exact h
  | outgrown => exact retK_spec (show retK ts .outgrown fun v => K v w' from h)
theorem RunsTo.pan {t : TypeId} {u : Value} (h : Z [{ v := .iface t u, recovered := false }] w) : RunsTo P Z (do pure (.value (← Instr.panic (.iface t u)))) w K := by
  have hr : (Instr.panic (.iface t u)).run P w = .halt (.panic (.iface t u)) w := by
    simp [Instr.panic, goPanic, Sem.run]
  unfold RunsTo
  simp only [Sem.run_bind, hr, Result.andThen]
  exact h
end
end Go.Proofs.YtjchneebdlncfaaDoor.Den
namespace Go.Proofs.YtjchneebdlncfaaDoor.Den
open Go
section
variable {P : Program} {Z : Pan} {pn : List Nat} {w : World} {K : Value → World → Prop}
theorem same_if {k k' : IntKind} {p : Prop} (h : bif same k k' then p else False) : k = k' ∧ p := by
  cases hk : same k k'
  · rw [hk] at h; exact h.elim
  · rw [hk] at h; exact ⟨of_decide_eq_true hk, h⟩
theorem nilQ_spec {k : Nat} {v : Value} {K : Bool → Prop} (h : nilQ k v K) : ∃ b, isNilK k v = some b ∧ K b := by
  unfold nilQ at h
  split at h
  · exact ⟨_, by assumption, h⟩
  · exact h.elim
theorem optK_spec {a : Option Addr} {K : Addr → Prop} (h : optK a K) : ∃ b, a = some b ∧ K b := by
  cases a with
  | none => exact h.elim
  | some b => exact ⟨b, rfl, h⟩
theorem tupK_spec {v : Value} {K : Array Value → Prop} (h : tupK v K) : ∃ vs, v = .tuple vs ∧ K vs := by
  unfold tupK at h
  split at h
  · exact ⟨_, rfl, h⟩
  · exact h.elim
theorem ptrK_spec {v : Value} {K : Addr → Prop} (h : ptrK v K) : ∃ a, v = .pointer (some a) ∧ K a := by
  unfold ptrK at h
  split at h
  · obtain ⟨a, rfl, h⟩ := optK_spec h; exact ⟨a, rfl, h⟩
  · exact h.elim
theorem ptrK_some (a : Addr) (K : Addr → Prop) : ptrK (.pointer (some a)) K = K a := rfl
theorem fvK_spec {P : Program} {v : Value} {args : Array Value} {w : World} {K : Ending → World → Prop} (h : fvK P v args w K) : (∃ g a c, v = .func (.func g) a c ∧ HasBody P g ∧ Calls P g (a ++ args ++ c) w K) ∨ ∃ l a c, v = .func (.yield l) a c ∧ YieldAt Fence.wide 0 P l (a ++ args) w K := by
  unfold fvK at h
  split at h
  · exact .inl ⟨_, _, _, rfl, h⟩
  · exact .inr ⟨_, _, _, rfl, h⟩
  · exact h.elim
theorem ncK_spec {v : Value} {K : Value → Prop} (h : ncK v K) : (∃ a, v = .pointer (some a) ∧ K v) ∨ ((∀ p, v ≠ .pointer p) ∧ isNilV v = some false ∧ (∀ n f c, v ≠ .func (.method n) f c) ∧ K v) := by
  unfold ncK at h
  split at h
  · obtain ⟨a, rfl, h⟩ := optK_spec h; exact .inl ⟨a, rfl, h⟩
  · rename_i hn; exact .inr ⟨fun p e => hn p e, h⟩
theorem ncK_mono {v : Value} {K K' : Value → Prop} (h : ncK v K) (hK : K v → K' v) : ncK v K' := by
  cases v
  case pointer p => obtain ⟨a, rfl, h⟩ := optK_spec (show optK p fun a => K (.pointer (some a)) from h); exact hK h
  all_goals exact ⟨h.1, h.2.1, hK h.2.2⟩
theorem nilQ_mk {k : Nat} {v : Value} {K : Bool → Prop} {b : Bool} (h : isNilK k v = some b) (hK : K b) : nilQ k v K := by
  unfold nilQ; rw [h]; exact hK
theorem denBin_sound {op : BinOp} {xt : TypeId} {a b : Value} {x y : Operand} {F : Value → Prop} (h : denBin op a b F) :
    ∃ v, F v ∧ Sem.run P (do eqGuard op xt x y a b; binOp op xt a b) w = .ok v w := by
  unfold denBin at h
  split at h
  · rename_i k i k' j
    cases op <;> simp only at h
    case shl => exact ⟨_, h.2, by simp [eqGuard, binOp, Op.shift, Int.not_lt.2 h.1, shL, Result.andThen]⟩
    case shr => exact ⟨_, h.2, by simp [eqGuard, binOp, Op.shift, Int.not_lt.2 h.1, shR, Result.andThen]⟩
    case quo => obtain ⟨rfl, h1, h2⟩ := same_if h; exact ⟨_, h2, by simp [eqGuard, binOp, Op.intDiv, h1, Result.andThen]⟩
    case rem => obtain ⟨rfl, h1, h2⟩ := same_if h; exact ⟨_, h2, by simp [eqGuard, binOp, Op.intDiv, h1, Result.andThen]⟩
    all_goals
      obtain ⟨rfl, h2⟩ := same_if h
      exact ⟨_, h2, by simp [eqGuard, binOp, Op.intArith, Op.intBits, Op.intCmp, bAnd, bOr, bXor, bAndNot] <;> rfl⟩
  · rename_i s t
    cases op <;> simp only at h
    case add =>
      refine ⟨_, h.2, ?_⟩
      simp [eqGuard, binOp, Op.stringOp, Result.andThen]
      exact h.1
    case eql => exact ⟨_, h, by simp [eqGuard, binOp, Op.stringOp, Result.andThen]⟩
    case neq => exact ⟨_, h, by simp [eqGuard, binOp, Op.stringOp, Result.andThen]⟩
  · exact h.elim
theorem denUn_sound {op : UnOp} {a : Value} {F : Value → Prop} (h : denUn op a F) : ∃ v, F v ∧ (Op.unary op a).run P w = .ok v w := by
  unfold denUn at h
  split at h
  · exact ⟨_, h, by simp [Op.unary, Op.intArith]⟩
  · exact ⟨_, h, by simp [Op.unary, Op.intBits, bXor]⟩
  · exact ⟨_, h, by simp [Op.unary]⟩
  · exact h.elim
theorem run_underlying_some {T : TypeId} {d : TypeDesc} (h : P.underlying T = some d) : (underlying T).run P w = .ok d w := run_underlying h w
theorem run_sizeOf_some {T : TypeId} (h : (P.info? T).isSome = true) : (sizeOf T).run P w = .ok (P.cellsOf T) w := by
  obtain ⟨i, hi⟩ := Option.isSome_iff_exists.1 h
  exact run_sizeOf w hi
theorem run_isAgg_any {T : TypeId} {d : TypeDesc} (h : P.underlying T = some d) : (isAgg T).run P w = .ok (aggT P T) w := by
  unfold isAgg aggT
  rw [h]
  rw [Sem.run_bind, run_underlying_some h]
  cases d <;> rfl
theorem one_eq {v : Value} : one v = v.oneCell' := by cases v <;> rfl
theorem run_zero {T : TypeId} (h : hasZero P T = true) : ∃ z, (zeroValue T).run P w = .ok z w ∧ z.cells.toList = zc P T := by
  unfold hasZero at h
  cases hi : P.info? T with
  | none => rw [hi] at h; cases h
  | some i =>
    cases hz : i.zero with
    | none => rw [hi] at h; simp [hz] at h
    | some z => exact ⟨z, by simp [zeroValue, typeInfo, hi, hz, Result.andThen], by simp [zc, hi, hz]⟩

theorem run_loadCells_cells {a : Addr} {cs : List Value} (h : Cells w a cs) : (loadCells a cs.length).run P w = .ok cs.toArray w := by
  exact run_loadCells_list w a cs h
theorem run_store_one {a : Addr} {v : Value} (h1 : one v = true) (h2 : (w.cell? a).isSome = true) (h3 : w.frozen? a = false) : (store a v).run P w = .ok () (w.setCell a v) := by
  obtain ⟨u, hu⟩ := Option.isSome_iff_exists.1 h2
  cases v <;> simp [one] at h1 <;> simp [store, Sem.run, hu, h3]
theorem cell_setCell_isSome {a b : Addr} {v : Value} (h : (w.cell? b).isSome = true) : ((w.setCell a v).cell? b).isSome = true := by
  obtain ⟨u, hu⟩ := Option.isSome_iff_exists.1 h
  unfold World.cell? World.setCell at *
  simp only [Array.getElem?_modify] at *
  by_cases hb : a.block = b.block
  · rw [hb, if_pos rfl]
    cases hh : w.heap[b.block]? with
    | none => rw [hh] at hu; cases hu
    | some o =>
      rw [hh] at hu
      cases o <;> simp only [Option.map_some] at * <;> first | (cases hu; done) | skip
      rename_i c t f
      by_cases hs : b.spot.isSome = true
      · rw [if_pos hs] at hu; cases hu
      · rw [if_neg hs] at hu ⊢
        by_cases ha : a.spot.isSome = true
        · rw [if_pos ha, hu]; rfl
        · rw [if_neg ha]
          have : b.off < c.size := by rcases Nat.lt_or_ge b.off c.size with h' | h'; exact h'; rw [Array.getElem?_eq_none h'] at hu; cases hu
          simp [this]
  · rw [if_neg hb]; exact h
theorem run_storeCells_cells {a : Addr} : ∀ {vs : List Value} {i : Nat} {w : World}, (∀ u ∈ vs, one u = true) → (∀ j, j < vs.length → (w.cell? (a.add (i + j))).isSome = true ∧ w.frozen? (a.add (i + j)) = false) →
    (storeCells a vs i).run P w = .ok () (setCells w a vs i)
  | [], _, _, _, _ => rfl
  | v :: r, i, w, h1, h2 => by
    have h0 := h2 0 (by simp)
    simp only [Nat.add_zero] at h0
    unfold storeCells setCells
    rw [Sem.run_bind, run_store_one (h1 v (by simp)) h0.1 h0.2]
    refine run_storeCells_cells (fun u hu => h1 u (by simp [hu])) fun j hj => ?_
    have h3 := h2 (j + 1) (by simp; omega)
    rw [show i + (j + 1) = i + 1 + j by omega] at h3
    exact ⟨cell_setCell_isSome h3.1, by rw [World.frozen?_setCell]; exact h3.2⟩
end
end Go.Proofs.YtjchneebdlncfaaDoor.Den
namespace Go.Proofs.YtjchneebdlncfaaDoor.Den
open Go
section
variable {P : Program} {Z : Pan} {pn : List Nat} {w : World} {K : Value → World → Prop}
theorem fill_eq (p : Place) : ∀ (vs : List (Nat × Value)) (l cs : List Value), fillL p l vs = some cs → Instr.fill p.at l.toArray vs = some cs.toArray
  | [], l, cs, h => by simp only [fillL, Option.some.injEq] at h; subst h; rfl
  | (i, v) :: r, l, cs, h => by
    unfold fillL at h
    unfold Instr.fill
    cases hp : p.at i with
    | none => rw [hp] at h; cases h
    | some q =>
      obtain ⟨off, size⟩ := q
      rw [hp] at h
      simp only at h ⊢
      split at h
      · rename_i hc
        have hcond : ¬ ((v.cells.size ≠ size || decide (off + v.cells.size > l.toArray.size)) = true) := by
          simp; exact ⟨hc.1, by omega⟩
        rw [if_neg hcond]
        have hfold : (v.cells.zipIdx.foldl (fun cs (x : Value × Nat) => cs.setIfInBounds (off + x.2) x.1) l.toArray) = (splice l off v.cells.toList).toArray := by
          have hlen : off + v.cells.toList.length ≤ l.length := by simp; omega
          rw [← Array.foldl_toList, Array.toList_zipIdx]
          generalize v.cells.toList = c at hlen
          have key : ∀ (c : List Value) (k : Nat) (l : List Value), off + k + c.length ≤ l.length →
              ((c.zipIdx k).foldl (fun cs (x : Value × Nat) => cs.setIfInBounds (off + x.2) x.1) l.toArray) = (splice l (off + k) c).toArray := by
            intro c
            induction c with
            | nil => intro k l _; simp [splice]
            | cons u c ih =>
              intro k l hl
              simp only [List.zipIdx_cons, List.foldl_cons, List.setIfInBounds_toArray]
              rw [ih (k + 1) _ (by simp at hl ⊢; omega)]
              congr 1
              simp only [splice, List.length_cons]
              simp at hl
              apply List.ext_getElem?
              intro j
              simp only [List.getElem?_append, List.getElem?_take, List.getElem?_drop, List.getElem?_set, List.length_take, List.length_set, List.getElem?_cons]
              rcases Nat.lt_trichotomy j (off + k) with h | h | h
              · have h1 : j < min (off + (k + 1)) l.length := by omega
                have h2 : j < min (off + k) l.length := by omega
                rw [if_pos h1, if_pos h2, if_pos (by omega), if_neg (by omega), if_pos h]
              · subst h
                have h1 : off + k < min (off + (k + 1)) l.length := by omega
                have h2 : ¬ off + k < min (off + k) l.length := by omega
                rw [if_pos h1, if_neg h2]
                simp [show off + k < l.length by omega, show off + k < off + (k + 1) by omega, show min (off + k) l.length = off + k by omega]
              · have h1 : ¬ j < min (off + (k + 1)) l.length := by omega
                have h2 : ¬ j < min (off + k) l.length := by omega
                rw [if_neg h1, if_neg h2, show min (off + (k + 1)) l.length = off + (k + 1) by omega, show min (off + k) l.length = off + k by omega]
                by_cases h3 : j - (off + (k + 1)) < c.length
                · rw [if_pos h3, if_pos (by simp; omega), if_neg (by omega)]
                  congr 1
                · rw [if_neg h3, if_neg (by omega), if_neg (by simp; omega)]
                  congr 1; simp; omega
          exact key c 0 l (by omega)
        rw [hfold]
        exact fill_eq p r _ _ h
      · cases h
theorem rd_getD {e : Env} {ρ : Operand → Value} (hρ : ∀ x v, rd e x = some v → ρ x = v) {x : Operand} (h : (rd e x).isSome = true) : ρ x = (rd e x).getD undef := by
  obtain ⟨v, hv⟩ := Option.isSome_iff_exists.1 h
  rw [hv]; exact hρ x v hv
theorem run_bnd {v : Option Value} {d top : Nat} {F : Nat → Prop} (h : bnd v d top F) :
    ∃ x, F x ∧ ((v = none ∧ x = d) ∨ ∃ u, v = some u ∧ ∀ code, (Instr.sliceBound u top code).run P w = .ok x w) := by
  unfold bnd at h
  split at h
  · exact ⟨_, h, .inl ⟨rfl, rfl⟩⟩
  · obtain ⟨h1, h2, h3⟩ := h
    exact ⟨_, h3, .inr ⟨_, rfl, fun code => by simp [Instr.sliceBound, asIntOf, h1, h2]⟩⟩
  · exact h.elim
theorem run_sliceBounds {isSlice : Bool} {n c : Nat} {l h m : Option Value} {F : Nat → Nat → Nat → Prop} (hm : m.isSome = true → h.isSome = true)
    (hb : bnd m c c fun m => bnd h n m fun h => bnd l 0 h fun l => F m h l) :
    ∃ m' h' l', F m' h' l' ∧ (Instr.sliceBounds isSlice n c l h m).run P w = .ok (l', h', m') w := by
  obtain ⟨m', hb1, c1⟩ := run_bnd (P := P) (w := w) hb
  obtain ⟨h', hb2, c2⟩ := run_bnd (P := P) (w := w) hb1
  obtain ⟨l', hb3, c3⟩ := run_bnd (P := P) (w := w) hb2
  refine ⟨m', h', l', hb3, ?_⟩
  clear hb hb1 hb2 hb3
  unfold Instr.sliceBounds
  rcases c1 with ⟨rfl, rfl⟩ | ⟨u1, rfl, r1⟩ <;> rcases c2 with ⟨rfl, rfl⟩ | ⟨u2, rfl, r2⟩ <;> rcases c3 with ⟨rfl, rfl⟩ | ⟨u3, rfl, r3⟩
  all_goals first | (exfalso; simp at hm; done) | skip
  all_goals simp [*, Result.andThen]

theorem equal_succ (t : TypeId) (x y : Value) : Op.equal t x y = Op.equalIn (9999 + 1) t x y := rfl
theorem run_equal_bool {t : TypeId} (h : P.underlying t = some .bool) (a b : Bool) : (Op.equal t (.bool a) (.bool b)).run P w = .ok (a == b) w := by
  rw [equal_succ, Op.equalIn, Sem.run_bind, run_underlying_some h]
  rfl
theorem run_equal_nil {t : TypeId} {d : TypeDesc} {y : Operand} {k : Nat} {v : Value} {b : Bool} (h : P.underlying t = some d) (hk : nilKind d y = some k) (hv : isNilK k v = some b) :
    ∃ u, y = .const u ∧ (Op.equal t v u).run P w = .ok b w ∧ (∀ op, binOp op t v u = binOp op t v u) ∧
      (∀ x, Sem.run P (eqGuard .eql t x y v u) w = .ok () w) ∧ (∀ x, Sem.run P (eqGuard .neq t x y v u) w = .ok () w) ∧
      binOp .eql t v u = (do pure (.bool (← Op.equal t v u))) ∧ binOp .neq t v u = (do pure (.bool (!(← Op.equal t v u)))) := by
  unfold nilKind at hk
  split at hk <;> simp only [Option.some.injEq, reduceCtorEq] at hk
  all_goals
    subst hk
    cases v <;> simp only [isNilK, Option.some.injEq, reduceCtorEq] at hv
    all_goals
      subst hv
      refine ⟨_, rfl, ?_, fun _ => rfl, fun _ => ?_, fun _ => ?_, ?_, ?_⟩
      · rw [equal_succ, Op.equalIn, Sem.run_bind, run_underlying_some h]
        first | rfl | (rename_i a _ _; cases a <;> rfl) | (rename_i a; cases a <;> rfl)
      · simp [eqGuard]
      · simp [eqGuard]
      · rfl
      · rfl
theorem trEq_sound {op : BinOp} {xt : TypeId} {x y : Operand} {j : I} {ty : Ty} {e : Env} {ρ : Operand → Value} {dst : Option Nat} {yt T : TypeId} {pos : String} {after : Array Edge} {guard : Option (Nat × Bool)}
    (hq : trEq P op xt x y = some j) (hρ : ∀ x v, rd e x = some v → ρ x = v) (hd : denI P Z j ty e w K) :
    RunsTo P Z (execOp ρ ⟨dst, .binOp op xt x y yt, T, pos, after, guard⟩) w K := by
  unfold trEq at hq
  split at hq
  · rename_i hop
    have hop : op = .eql ∨ op = .neq := by cases op <;> simp at hop ⊢
    split at hq
    · rename_i hu
      simp only [Option.some.injEq] at hq
      subst hq
      obtain ⟨u, h1, h2⟩ := rdK_spec hd
      obtain ⟨v, h3, h4⟩ := rdK_spec h2
      cases u <;> cases v <;> first | exact (show False from h4).elim | skip
      rename_i s t
      simp only [execOp, hρ x _ h1, hρ y _ h3]
      rcases hop with rfl | rfl
      · refine .same (v := .bool (s == t)) ?_ h4
        show Sem.run P (eqGuard .eql xt x y (.bool s) (.bool t) >>= fun _ => Op.equal xt (.bool s) (.bool t) >>= fun r => pure (Value.bool r)) w = _
        simp [eqGuard, run_equal_bool hu, Result.andThen]
      · refine .same (v := .bool (!(s == t))) ?_ h4
        show Sem.run P (eqGuard .neq xt x y (.bool s) (.bool t) >>= fun _ => Op.equal xt (.bool s) (.bool t) >>= fun r => pure (Value.bool (!r))) w = _
        simp [eqGuard, run_equal_bool hu, Result.andThen]
    · rename_i d hnb hu
      split at hq
      · rename_i k hk
        simp only [Option.some.injEq] at hq
        subst hq
        obtain ⟨u, h1, hq'⟩ := rdK_spec hd
        obtain ⟨b, h2, h3⟩ := nilQ_spec hq'
        obtain ⟨v, rfl, r1, -, g1, g2, b1, b2⟩ := run_equal_nil (w := w) hu hk h2
        simp only [execOp, hρ x _ h1, hρ (.const v) v rfl]
        rcases hop with rfl | rfl
        · refine .same (v := .bool b) ?_ h3
          simp [g1, b1, r1, Result.andThen]
        · refine .same (v := .bool (!b)) ?_ h3
          simp [g2, b2, r1, Result.andThen]
      · simp only [Option.some.injEq] at hq
        subst hq
        obtain ⟨u, h1, h2⟩ := rdK_spec hd
        obtain ⟨v, h3, r, h4, h5⟩ := rdK_spec h2
        simp only [execOp, hρ x u h1, hρ y v h3]
        exact .same h4 h5
    · cases hq
  · cases hq

theorem denI_sound {o : Oper} {i : I} {ty : Ty} {e : Env} {ρ : Operand → Value} (ht : trOp P pn o = some (i, ty)) (hρ : ∀ x v, rd e x = some v → ρ x = v) (hd : denI P Z i ty e w K) :
    RunsTo P Z (execOp ρ o) w K := by
  obtain ⟨dst, op, T, pos, after, guard⟩ := o
  have hrun : ∀ {i' : I} {ty' : Ty}, some (I.run op T, tyOf P T) = some (i', ty') → denI P Z i' ty' e w K → RunsTo P Z (execOp ρ ⟨dst, op, T, pos, after, guard⟩) w K := by
    intro i' ty' he hd
    simp only [Option.some.injEq, Prod.mk.injEq] at he
    obtain ⟨rfl, rfl⟩ := he
    obtain ⟨h1, h2, h3⟩ := hd
    have h4 : execOp ρ ⟨dst, op, T, pos, after, guard⟩ = execOp (fun x => (rd e x).getD undef) ⟨none, op, T, "", #[], none⟩ := by
      rw [show execOp ρ ⟨dst, op, T, pos, after, guard⟩ = execOp ρ ⟨none, op, T, "", #[], none⟩ by cases op <;> rfl]
      exact execOp_congr _ h2 fun x hx => rd_getD hρ (by
        rw [Array.all_eq_true'] at h1
        exact h1 x hx)
    rw [h4]
    unfold RunsTo at h3 ⊢
    split at h3
    · exact intro_spec h3
    · exact intro_spec h3
    · exact Calls.mono h3 fun _ _ h => orPan_mono h (fun _ h => h) fun ⟨v, a, b⟩ => ⟨v, a, intro_spec b⟩
    · exact RoundIn.mono h3 fun _ _ h => orPan_mono h (fun _ h => h) fun ⟨v, a, b⟩ => ⟨v, a, intro_spec b⟩
    · exact h3
    · exact h3.elim
  -- 'one some': the pair is read off
  have hsome : ∀ {i' : I} {ty' : Ty}, some (i', ty') = some (i, ty) → denI P Z i' ty' e w K := by
    intro i' ty' he
    simp only [Option.some.injEq, Prod.mk.injEq] at he
    obtain ⟨rfl, rfl⟩ := he
    exact hd
  cases op <;> simp only [trOp] at ht
  case move x =>
    obtain ⟨v, h1, h2⟩ := rdK_spec (hsome ht)
    simp [execOp, RunsTo, hρ x v h1, h2]
  case assign x =>
    obtain ⟨v, h1, h2⟩ := rdK_spec (hsome ht)
    simp [execOp, RunsTo, hρ x v h1, h2]
  case nilCheck x =>
    obtain ⟨v, h1, h2⟩ := rdK_spec (hsome ht)
    simp only [execOp, hρ x v h1]
    rcases ncK_spec h2 with ⟨a, rfl, h6⟩ | ⟨hp, h3, h4, h5⟩
    · simpa [RunsTo] using h6
    · cases v
      case pointer p => exact absurd rfl (hp p)
      case nilIface => cases h3
      case nilFunc => cases h3
      case func fn f c => cases fn <;> first | (exact absurd rfl (h4 _ _ _)) | (simpa [RunsTo] using h5)
      all_goals first | (cases h3; done) | (simpa [RunsTo] using h5)
  case pick c a b =>
    obtain ⟨v, h1, h2⟩ := rdK_spec (hsome ht)
    cases v <;> first | exact (show False from h2).elim | skip
    rename_i t
    cases t
    · obtain ⟨u, h3, h4⟩ := rdK_spec (show rdK e b fun v => K v w from h2)
      simp [execOp, RunsTo, hρ c _ h1, hρ b u h3, asBool, h4, Result.andThen]
    · obtain ⟨u, h3, h4⟩ := rdK_spec (show rdK e a fun v => K v w from h2)
      simp [execOp, RunsTo, hρ c _ h1, hρ a u h3, asBool, h4, Result.andThen]
  case binOp op xt x y yt =>
    have hbin : ∀ {ty'}, denI P Z (.bin op x y) ty' e w K → RunsTo P Z (execOp ρ ⟨dst, .binOp op xt x y yt, T, pos, after, guard⟩) w K := by
      intro ty' hd
      obtain ⟨u, h1, h2⟩ := rdK_spec (K := fun a => rdK e y fun b => denBin op a b fun v => K v w) hd
      obtain ⟨v, h3, h4⟩ := rdK_spec h2
      obtain ⟨r, h5, h6⟩ := denBin_sound (P := P) (w := w) (xt := xt) (x := x) (y := y) h4
      simp only [execOp, hρ x u h1, hρ y v h3]
      exact .same h6 h5
    split at ht
    · exact hbin (hsome ht)
    · exact hbin (hsome ht)
    · cases hq : trEq P op xt x y with
      | none => rw [hq] at ht; cases ht
      | some j =>
        rw [hq] at ht
        exact trEq_sound hq hρ (hsome ht)
  case unOp op ot x =>
    obtain ⟨u, h1, h2⟩ := rdK_spec (hsome ht)
    obtain ⟨v, h3, h4⟩ := denUn_sound (P := P) (w := w) h2
    simp only [execOp, hρ x u h1]
    exact .same h4 h3
  case convert src dst x =>
    split at ht
    · rename_i k1 k2 hs hd2
      obtain ⟨u, h1, h2⟩ := rdK_spec (hsome ht)
      cases u <;> first | exact (show False from h2).elim | skip
      simp only [execOp, hρ x _ h1]
      exact .same (by simp [convert, run_underlying_some hs, run_underlying_some hd2, Conv.intToInt, Result.andThen]) h2
    · obtain ⟨vs, h1, r, w', h4, h5⟩ := rdsK_spec (hsome ht)
      have h1 := h1 ρ hρ
      simp only [List.map_cons, List.map_nil] at h1
      subst h1
      simp only [execOp]
      exact .val ⟨r, w', h4, intro_spec h5⟩
  case alloc T' =>
    split at ht
    · rename_i hz
      obtain ⟨z, h1, h2⟩ := run_zero (w := w) hz
      have hd := hsome ht
      simp only [execOp]
      refine .val ⟨_, _, ?_, hd _ rfl⟩
      simp [Instr.alloc, h1, newVar, newRow, newObj, Sem.run, ← h2, Result.andThen]
    · exact hrun ht hd
  case box T' x =>
    obtain ⟨u, h1, h2⟩ := rdK_spec (hsome ht)
    simp only [execOp, hρ x u h1]
    refine .val ⟨_, _, ?_, h2 _ rfl⟩
    simp [Instr.box, newVar, newRow, newObj, Sem.run, Result.andThen]
  case load T' x =>
    split at ht
    · rename_i hagg
      split at ht
      · rename_i hi
        obtain ⟨u, h1, h2⟩ := rdK_spec (hsome ht)
        obtain ⟨a, rfl, hptr⟩ := ptrK_spec h2
        replace h2 := hptr
        obtain ⟨cs, h3, h4, h5⟩ := h2
        simp only [execOp, hρ x _ h1]
        have hu : ∃ d, P.underlying T' = some d := by
          unfold aggT at hagg
          split at hagg <;> first | exact ⟨_, by assumption⟩ | cases hagg
        obtain ⟨d, hu⟩ := hu
        refine .same ?_ h5
        have hl := run_loadCells_cells (P := P) h4
        simp [Instr.loadAt, Instr.sureAddr, loadVar, run_isAgg_any hu, hagg, run_sizeOf_some hi, ← h3, hl, Result.andThen]
      · exact hrun ht hd
    · rename_i hagg
      split at ht
      · rename_i hu
        obtain ⟨d, hu⟩ := Option.isSome_iff_exists.1 hu
        obtain ⟨u, h1, h2⟩ := rdK_spec (hsome ht)
        obtain ⟨a, rfl, hptr⟩ := ptrK_spec h2
        replace h2 := hptr
        obtain ⟨v, h3, h4⟩ := exTy_spec h2
        simp only [execOp, hρ x _ h1]
        refine .same ?_ h4
        simp [Instr.loadAt, Instr.sureAddr, loadVar, run_isAgg_any hu, hagg, load, Sem.run, h3, Result.andThen]
      · exact hrun ht hd
  case store T' x v =>
    split at ht
    · rename_i hi
      have hsz := run_sizeOf_some (w := w) hi
      split at ht
      · rename_i hagg
        obtain ⟨p, h1, h2⟩ := rdK_spec (hsome ht)
        obtain ⟨u, h3, h4⟩ := rdK_spec h2
        obtain ⟨a, rfl, hptr⟩ := ptrK_spec h4
        replace h4 := hptr
        cases u <;> first | exact (show False from h4).elim | skip
        rename_i cs
        obtain ⟨h5, h6, h7, h8⟩ := h4
        simp only [execOp, hρ x _ h1, hρ v _ h3]
        refine .unit ⟨_, ?_, h8 _ rfl⟩
        have hr := run_storeCells_cells (P := P) (a := a) (w := w) (vs := cs.toList) (i := 0) h6 (fun j hj => by rw [Nat.zero_add]; exact h7 j (by simp at hj; omega))
        simp [Instr.storeAt, Instr.sureAddr, storeVar, hsz, Value.cells, h5, hr, Result.andThen]
      · split at ht
        · rename_i hc
          obtain ⟨p, h1, h2⟩ := rdK_spec (hsome ht)
          obtain ⟨u, h3, h4⟩ := rdK_spec h2
          obtain ⟨a, rfl, hptr⟩ := ptrK_spec h4
          replace h4 := hptr
          obtain ⟨h5, h6, h7, h8⟩ := h4
          simp only [execOp, hρ x _ h1, hρ v _ h3]
          refine .unit ⟨_, ?_, h8 _ rfl⟩
          have hcells : u.cells = #[u] := by cases u <;> first | rfl | cases h5
          have hst := run_store_one (P := P) h5 h6 h7
          have ha : a.add 0 = a := rfl
          simp [Instr.storeAt, Instr.sureAddr, storeVar, hsz, hcells, hc, storeCells, ha, hst, Result.andThen]
        · exact hrun ht hd
    · exact hrun ht hd
  case fieldAddr T' x f =>
    split at ht
    · rename_i fs hu
      split at ht
      · rename_i fd hf
        split at ht
        · rename_i hc
          obtain ⟨u, h1, h2⟩ := rdK_spec (hsome ht)
          obtain ⟨a, rfl, hptr⟩ := ptrK_spec h2
          replace h2 := hptr
          simp only [execOp, hρ x _ h1]
          refine .same ?_ h2
          have hc' : P.cellsOf fd.type ≠ 0 := of_decide_eq_true hc
          have hi : (P.info? fd.type).isSome = true := by
            cases hq : P.info? fd.type with
            | none => exact absurd (by simp [Program.cellsOf, hq]) hc'
            | some _ => rfl
          simp [Instr.fieldAt, Instr.sureAddr, run_underlying_some hu, hf, fieldPlace, run_sizeOf_some hi, hc', Result.andThen]
        · exact hrun ht hd
      · exact hrun ht hd
    · exact hrun ht hd
  case field T' x f =>
    split at ht
    · rename_i fs hu
      split at ht
      · rename_i fd hf
        split at ht
        · rename_i hc
          simp only [Bool.and_eq_true] at hc
          obtain ⟨d, hd'⟩ := Option.isSome_iff_exists.1 hc.2
          split at ht
          · rename_i hagg
            obtain ⟨u, h1, h2⟩ := rdK_spec (hsome ht)
            cases u <;> first | exact (show False from h2).elim | skip
            simp only [execOp, hρ x _ h1]
            refine .same ?_ h2
            simp [Instr.field, run_underlying_some hu, hf, part, asAgg, run_isAgg_any hd', hagg, run_sizeOf_some hc.1, Result.andThen]
          · rename_i hagg
            obtain ⟨u, h1, h2⟩ := rdK_spec (hsome ht)
            cases u <;> first | exact (show False from h2).elim | skip
            obtain ⟨v, h3, h4⟩ := exTy_spec h2
            simp only [execOp, hρ x _ h1]
            refine .same ?_ h4
            simp [Instr.field, run_underlying_some hu, hf, part, asAgg, run_isAgg_any hd', hagg, h3, Result.andThen]
        · exact hrun ht hd
      · exact hrun ht hd
    · exact hrun ht hd
  case indexAddr T' x ix =>
    split at ht
    · rename_i el hu
      split at ht
      · rename_i hi
        obtain ⟨u, h1, h2⟩ := rdK_spec (hsome ht)
        obtain ⟨j, h3, h4⟩ := rdK_spec h2
        cases u <;> first | exact (show False from h4).elim | skip
        rename_i a n c
        cases j <;> first | exact (show False from h4).elim | skip
        rename_i k q
        simp only [execOp, hρ x _ h1, hρ ix _ h3]
        obtain ⟨h5, h6, h7⟩ := h4
        obtain ⟨b, rfl, h7⟩ := optK_spec h7
        · refine .same ?_ h7
          simp [Instr.indexAt, asIntOf, run_underlying_some hu, h5, h6, run_sizeOf_some hi, Result.andThen]
      · exact hrun ht hd
    · rename_i n el hu
      split at ht
      · rename_i hi
        obtain ⟨u, h1, h2⟩ := rdK_spec (hsome ht)
        obtain ⟨j, h3, h4⟩ := rdK_spec h2
        obtain ⟨a, rfl, hptr⟩ := ptrK_spec h4
        replace h4 := hptr
        cases j <;> first | exact (show False from h4).elim | skip
        obtain ⟨h5, h6, h7⟩ := h4
        simp only [execOp, hρ x _ h1, hρ ix _ h3]
        refine .same ?_ h7
        simp [Instr.indexAt, asIntOf, run_underlying_some hu, Instr.sureAddr, h5, h6, run_sizeOf_some hi, Result.andThen]
      · exact hrun ht hd
    · exact hrun ht hd
  case index T' x ix =>
    split at ht
    · rename_i n el hu
      split at ht
      · rename_i hc
        simp only [Bool.and_eq_true] at hc
        obtain ⟨d, hd'⟩ := Option.isSome_iff_exists.1 hc.2
        split at ht
        · rename_i hagg
          obtain ⟨u, h1, h2⟩ := rdK_spec (hsome ht)
          obtain ⟨j, h3, h4⟩ := rdK_spec h2
          cases u <;> first | exact (show False from h4).elim | skip
          cases j <;> first | exact (show False from h4).elim | skip
          obtain ⟨h5, h6, h7⟩ := h4
          simp only [execOp, hρ x _ h1, hρ ix _ h3]
          refine .same ?_ h7
          simp [Instr.index, asIntOf, run_underlying_some hu, h5, h6, part, run_isAgg_any hd', hagg, run_sizeOf_some hc.1, Result.andThen]
        · rename_i hagg
          obtain ⟨u, h1, h2⟩ := rdK_spec (hsome ht)
          obtain ⟨j, h3, h4⟩ := rdK_spec h2
          cases u <;> first | exact (show False from h4).elim | skip
          cases j <;> first | exact (show False from h4).elim | skip
          obtain ⟨h5, h6, h7⟩ := h4
          obtain ⟨v, h8, h9⟩ := exTy_spec h7
          simp only [execOp, hρ x _ h1, hρ ix _ h3]
          refine .same ?_ h9
          simp [Instr.index, asIntOf, run_underlying_some hu, h5, h6, part, run_isAgg_any hd', hagg, h8, run_sizeOf_some hc.1, Result.andThen]
      · exact hrun ht hd
    · rename_i hu
      obtain ⟨u, h1, h2⟩ := rdK_spec (hsome ht)
      obtain ⟨j, h3, h4⟩ := rdK_spec h2
      cases u <;> first | exact (show False from h4).elim | skip
      cases j <;> first | exact (show False from h4).elim | skip
      obtain ⟨h5, b, h6, h7⟩ := h4
      simp only [execOp, hρ x _ h1, hρ ix _ h3]
      refine .same ?_ h7
      simp [Instr.index, asIntOf, run_underlying_some hu, h5, h6, Result.andThen]
    · exact hrun ht hd
  case slice T' x lo hi mx =>
    split at ht
    · exact hrun ht hd
    · rename_i hmh
      have hm' : ∀ {m h : Option Value}, (mx = none ∧ m = none) ∨ (∃ y v, mx = some y ∧ rd e y = some v ∧ m = some v) → (hi = none ∧ h = none) ∨ (∃ y v, hi = some y ∧ rd e y = some v ∧ h = some v) → m.isSome = true → h.isSome = true := by
        intro m h c1 c2 hm
        rcases c1 with ⟨_, rfl⟩ | ⟨y, v, rfl, _, rfl⟩
        · cases hm
        · rcases c2 with ⟨rfl, rfl⟩ | ⟨y, v, rfl, _, rfl⟩
          · simp at hmh
          · rfl
      have rdo' : ∀ {x : Option Operand} {F : Option Value → Prop}, rdo e x F → ∃ v, ((x = none ∧ v = none) ∨ ∃ y u, x = some y ∧ rd e y = some u ∧ v = some u) ∧ x.map ρ = v ∧ F v := by
        intro x F h
        rcases rdo_spec h with ⟨rfl, h1⟩ | ⟨y, v, rfl, h1, h2⟩
        · exact ⟨none, .inl ⟨rfl, rfl⟩, rfl, h1⟩
        · exact ⟨some v, .inr ⟨y, v, rfl, h1, rfl⟩, by simp [hρ y v h1], h2⟩
      split at ht
      · rename_i el hu
        split at ht
        · rename_i hie
          obtain ⟨u, h1, h2⟩ := rdK_spec (hsome ht)
          obtain ⟨l, cl, el1, h3⟩ := rdo' h2
          obtain ⟨h, ch, el2, h4⟩ := rdo' h3
          obtain ⟨m, cm, el3, h5⟩ := rdo' h4
          cases u <;> first | exact (show False from h5).elim | skip
          rename_i a n c
          obtain ⟨m', h', l', h6, h7⟩ := run_sliceBounds (P := P) (w := w) (isSlice := true) (hm' cm ch) h5
          simp only [execOp, hρ x _ h1, el1, el2, el3]
          refine .same ?_ h6
          simp [Instr.sliceAt, run_underlying_some hu, Instr.slice, h7, run_sizeOf_some hie, Result.andThen]
        · exact hrun ht hd
      · rename_i n el hu
        split at ht
        · rename_i hie
          obtain ⟨u, h1, h2⟩ := rdK_spec (hsome ht)
          obtain ⟨l, cl, el1, h3⟩ := rdo' h2
          obtain ⟨h, ch, el2, h4⟩ := rdo' h3
          obtain ⟨m, cm, el3, h5⟩ := rdo' h4
          obtain ⟨a, rfl, hptr⟩ := ptrK_spec h5
          replace h5 := hptr
          obtain ⟨m', h', l', h6, h7⟩ := run_sliceBounds (P := P) (w := w) (isSlice := false) (hm' cm ch) h5
          simp only [execOp, hρ x _ h1, el1, el2, el3]
          refine .same ?_ h6
          simp [Instr.sliceAt, run_underlying_some hu, Instr.sureAddr, h7, run_sizeOf_some hie, Result.andThen]
        · exact hrun ht hd
      · rename_i hu
        split at ht
        · rename_i hmn
          have hmx : mx = none := by cases mx <;> first | rfl | cases hmn
          subst hmx
          obtain ⟨u, h1, h2⟩ := rdK_spec (hsome ht)
          obtain ⟨l, cl, el1, h3⟩ := rdo' h2
          obtain ⟨h, ch, el2, h4⟩ := rdo' h3
          cases u <;> first | exact (show False from h4).elim | skip
          rename_i str
          obtain ⟨m', h', l', h6, h7⟩ := run_sliceBounds (P := P) (w := w) (isSlice := false) (m := none) (fun hq => by cases hq) (show bnd none str.size str.size fun m => bnd h str.size m fun h => bnd l 0 h fun l => K (.string (str.extract l h)) w from h4)
          simp only [execOp, hρ x _ h1, el1, el2, Option.map_none]
          refine .same ?_ h6
          simp [Instr.sliceAt, run_underlying_some hu, Instr.slice, h7, Result.andThen]
        · exact hrun ht hd
      · exact hrun ht hd
  case makeInterface T' x =>
    split at ht
    · exact hrun ht hd
    · rename_i d hni hu
      obtain ⟨u, h1, h2⟩ := rdK_spec (hsome ht)
      simp only [execOp, hρ x _ h1]
      refine .same ?_ h2
      unfold Instr.makeInterface
      rw [Sem.run_bind, run_underlying_some hu]
      cases d <;> first | exact absurd rfl (hni _) | rfl
    · exact hrun ht hd
  case makeMap T' r =>
    cases r with
    | none =>
      have hd := hsome ht
      simp only [execOp]
      refine .val ⟨_, _, ?_, hd _ rfl⟩
      simp [Instr.makeMap, newObj, Sem.run, Result.andThen]
    | some r =>
      obtain ⟨vs, h1, q, w', h4, h5⟩ := rdsK_spec (hsome ht)
      have h1 := h1 ρ hρ
      simp only [List.map_cons, List.map_nil] at h1
      subst h1
      simp only [execOp]
      exact .val ⟨q, w', h4, intro_spec h5⟩
  case makeFunc f a c =>
    obtain ⟨va, h1, h2⟩ := rdsK_spec (hsome ht)
    obtain ⟨vc, h3, h4⟩ := rdsK_spec h2
    have ha : a.map ρ = va.toArray := by apply Array.ext'; rw [Array.toList_map, h1 ρ hρ]
    have hc : c.map ρ = vc.toArray := by apply Array.ext'; rw [Array.toList_map, h3 ρ hρ]
    simp only [execOp, ha, hc]
    exact .same rfl h4
  case mapEntry T' m k =>
    obtain ⟨vs, h1, q, w', h4, h5⟩ := rdsK_spec (hsome ht)
    have h1 := h1 ρ hρ
    simp only [List.map_cons, List.map_nil] at h1
    subst h1
    simp only [execOp]
    exact .val ⟨q, w', h4, intro_spec h5⟩
  case entryStore T' m s v =>
    obtain ⟨u, h1, h2⟩ := rdK_spec (hsome ht)
    obtain ⟨u2, h3, h4⟩ := rdK_spec h2
    obtain ⟨u3, h5, h6⟩ := rdK_spec h4
    simp only [execOp, hρ m _ h1, hρ s _ h3, hρ v _ h5]
    exact .unit h6
  case range T' x =>
    obtain ⟨vs, h1, q, w', h4, h5⟩ := rdsK_spec (hsome ht)
    have h1 := h1 ρ hρ
    simp only [List.map_cons, List.map_nil] at h1
    subst h1
    simp only [execOp]
    exact .val ⟨q, w', h4, intro_spec h5⟩
  case next x b =>
    obtain ⟨vs, h1, q, w', h4, h5⟩ := rdsK_spec (hsome ht)
    have h1 := h1 ρ hρ
    simp only [List.map_cons, List.map_nil] at h1
    subst h1
    simp only [execOp]
    exact .val ⟨q, w', h4, intro_spec h5⟩
  case entry x =>
    obtain ⟨vs, h1, q, w', h4, h5⟩ := rdsK_spec (hsome ht)
    have h1 := h1 ρ hρ
    simp only [List.map_cons, List.map_nil] at h1
    subst h1
    simp only [execOp]
    exact .val ⟨q, w', h4, intro_spec h5⟩
  case typeAssert x xt at_ ok =>
    obtain ⟨vs, h1, q, w', h4, h5⟩ := rdsK_spec (hsome ht)
    have h1 := h1 ρ hρ
    simp only [List.map_cons, List.map_nil] at h1
    subst h1
    simp only [execOp]
    exact .val ⟨q, w', h4, intro_spec h5⟩
  case panic x =>
    obtain ⟨u, h1, ⟨t, u', rfl⟩, h2⟩ := rdK_spec (hsome ht)
    simp only [execOp, hρ x _ h1]
    exact .pan h2
  case makeSlice T' l c =>
    obtain ⟨u, h1, h2⟩ := rdK_spec (hsome ht)
    obtain ⟨v, h3, r, w', h4, h5⟩ := rdK_spec h2
    simp only [execOp, hρ l _ h1, hρ c _ h3]
    exact .val ⟨r, w', h4, intro_spec h5⟩
  case lookup T' x ix ok =>
    obtain ⟨u, h1, h2⟩ := rdK_spec (hsome ht)
    obtain ⟨v, h3, r, h4, h5⟩ := rdK_spec h2
    simp only [execOp, hρ x _ h1, hρ ix _ h3]
    exact .same h4 (intro_spec h5)
  case mapUpdate T' m k v =>
    obtain ⟨u, h1, h2⟩ := rdK_spec (hsome ht)
    obtain ⟨u2, h3, h4⟩ := rdK_spec h2
    obtain ⟨u3, h5, h6⟩ := rdK_spec h4
    simp only [execOp, hρ m _ h1, hρ k _ h3, hρ v _ h5]
    exact .unit h6
  case insert T' m k v =>
    obtain ⟨u, h1, h2⟩ := rdK_spec (hsome ht)
    obtain ⟨u2, h3, h4⟩ := rdK_spec h2
    obtain ⟨u3, h5, h6⟩ := rdK_spec h4
    simp only [execOp, hρ m _ h1, hρ k _ h3, hρ v _ h5]
    exact .unit h6
  case extract x ix =>
    obtain ⟨u, h1, h2⟩ := rdK_spec (hsome ht)
    obtain ⟨vs, rfl, h4⟩ := tupK_spec h2
    obtain ⟨r, h5, h6⟩ := exTy_spec h4
    simp only [execOp, hρ x _ h1]
    refine .same ?_ h6
    simp [Instr.extract, h5]
  case call c =>
    obtain ⟨callee, args, ats⟩ := c
    have hcallv : ∀ (f : Operand), some (I.callv f args.toList (tysOf P T), tyOf P T) = some (i, ty) → RunsTo P Z (execOp ρ ⟨dst, .call { callee := .value f, args, argTypes := ats }, T, pos, after, guard⟩) w K := by
      intro f ht
      obtain ⟨u, h1, h2⟩ := rdK_spec (hsome ht)
      obtain ⟨vs, h3, h4⟩ := rdsK_spec h2
      have h5 := fvK_spec h4
      have ha : args.map ρ = vs.toArray := by apply Array.ext'; rw [Array.toList_map, h3 ρ hρ]
      rcases h5 with ⟨g, first, cap, rfl, hb, hc⟩ | ⟨l, first, cap, rfl, fn, tmps, assign, body, hy, hR⟩
      rotate_left
      · have : execOp ρ ⟨dst, .call { callee := .value f, args, argTypes := ats }, T, pos, after, guard⟩ = Instr.yield l (first ++ vs.toArray) := by
          simp only [execOp, resolve, hρ f _ h1, ha, Deferred.ofValue]
          rfl
        rw [this]
        unfold RunsTo
        rw [hy]
        refine RoundIn.mono hR fun en w' h => ?_
        cases en with
        | returned v => exact retK_spec h
        | panicked ch => obtain ⟨v, he, _⟩ := retK_spec h; cases he
        | outgrown => obtain ⟨v, he, _⟩ := retK_spec h; cases he
      have : execOp ρ ⟨dst, .call { callee := .value f, args, argTypes := ats }, T, pos, after, guard⟩ = callFunc g (first ++ vs.toArray ++ cap) := by
        simp only [execOp, resolve, hρ f _ h1, ha, Deferred.ofValue]
        rfl
      rw [this]
      exact .call hb hc
    cases callee with
    | value f =>
      cases f with
      | func f =>
        simp only at ht
        split at ht
        · rename_i hb
          have hgo : ∀ vs : List Value, (∀ ρ : Operand → Value, (∀ x v, rd e x = some v → ρ x = v) → args.toList.map ρ = vs) → execOp ρ ⟨dst, .call { callee := .value (.func f), args, argTypes := ats }, T, pos, after, guard⟩ = callFunc f vs.toArray := by
            intro vs h1
            have ha : args.map ρ = vs.toArray := by apply Array.ext'; rw [Array.toList_map, h1 ρ hρ]
            have hf : ρ (.func f) = .func (.func f) #[] #[] := hρ _ _ rfl
            simp only [execOp, resolve, hf, ha, Deferred.ofValue]
            show callFunc f (#[] ++ vs.toArray ++ #[]) = _
            simp
          have hs := hsome ht
          cases hp : pn.contains f
          · rw [hp] at hs
            obtain ⟨vs, h1, h2⟩ := rdsK_spec (show rdsK e args.toList _ from hs)
            rw [hgo vs h1]
            exact .call (hasBody_spec hb) h2
          · rw [hp] at hs
            obtain ⟨vs, h1, h2⟩ := rdsK_spec (show rdsK e args.toList _ from hs)
            rw [hgo vs h1]
            exact .callP (hasBody_spec hb) h2
        · exact hrun ht hd
      | tmp t => exact hcallv _ ht
      | const v => exact hcallv _ ht
      | global g => exact hcallv _ ht
    | invoke x name =>
      obtain ⟨u, h1, h2⟩ := rdK_spec (hsome ht)
      obtain ⟨vs, h3, t, v, g, r, rfl, h4, hb, hc⟩ := rdsK_spec h2
      have ha : args.map ρ = vs.toArray := by apply Array.ext'; rw [Array.toList_map, h3 ρ hρ]
      have : execOp ρ ⟨dst, .call { callee := .invoke x name, args, argTypes := ats }, T, pos, after, guard⟩ = callMethod (.iface t v) name vs.toArray := by
        simp only [execOp, resolve, hρ x _ h1, ha]
        show invoke (.fn (.method name) #[]) (#[Value.iface t v] ++ vs.toArray) = _
        simp [invoke]
      rw [this]
      have h5 : Sem.run P (callMethod (.iface t v) name vs.toArray) w = .ok (.enter g (#[r] ++ vs.toArray)) w := by
        simp [callMethod, h4, run_callFunc hb, Result.andThen]
      unfold RunsTo
      rw [h5]
      exact Calls.mono hc.runs fun e w' ⟨v, he, hK⟩ => by subst he; exact ⟨v, rfl, hK⟩
    | builtin b =>
      cases b <;> simp only at ht
      case append =>
        split at ht
        · rename_i hsz
          obtain ⟨u, h1, h2⟩ := rdK_spec (hsome ht)
          obtain ⟨v, h3, r, w', h4, h5⟩ := rdK_spec h2
          have ha : args.map ρ = #[u, v] := by
            obtain ⟨l⟩ := args
            match l, hsz with
            | [x, y], _ =>
              have h1 : rd e x = some u := h1
              have h3 : rd e y = some v := h3
              simp [hρ x u h1, hρ y v h3]
          have : execOp ρ ⟨dst, .call { callee := .builtin .append, args, argTypes := ats }, T, pos, after, guard⟩ = (do pure (.value (← Builtin.append_ ats T #[u, v]))) := by
            rw [← ha]; rfl
          rw [this]
          exact .val ⟨r, w', h4, intro_spec h5⟩
        · exact hrun ht hd
      case copy =>
        split at ht
        · rename_i hsz
          obtain ⟨u, h1, h2⟩ := rdK_spec (hsome ht)
          obtain ⟨v, h3, r, w', h4, h5⟩ := rdK_spec h2
          have ha : args.map ρ = #[u, v] := by
            obtain ⟨l⟩ := args
            match l, hsz with
            | [x, y], _ =>
              have h1 : rd e x = some u := h1
              have h3 : rd e y = some v := h3
              simp [hρ x u h1, hρ y v h3]
          have : execOp ρ ⟨dst, .call { callee := .builtin .copy, args, argTypes := ats }, T, pos, after, guard⟩ = (do pure (.value (← Builtin.copy_ ats T #[u, v]))) := by
            rw [← ha]; rfl
          rw [this]
          exact .val ⟨r, w', h4, intro_spec h5⟩
        · exact hrun ht hd
      case len =>
        split at ht
        · rename_i hsz
          simp only [Bool.and_eq_true, decide_eq_true_eq] at hsz
          obtain ⟨l⟩ := args
          obtain ⟨la⟩ := ats
          match l, la, hsz with
          | [x], [t0], _ =>
            have hx : ∀ _ : Value, execOp ρ ⟨dst, .call { callee := .builtin .len, args := #[x], argTypes := #[t0] }, T, pos, after, guard⟩ = (do pure (.value (← Builtin.len_ #[t0] T #[ρ x]))) := fun _ => by
              rw [← show (#[x].map ρ) = #[ρ x] by simp]
              rfl
            split at ht
            · rename_i el hu
              obtain ⟨u, h1, h2⟩ := rdK_spec (hsome ht)
              have h1 : rd e x = some u := h1
              have hu : P.underlying t0 = some (.slice el) := hu
              cases u <;> first | exact (show False from h2).elim | skip
              rw [hx .nilIface, hρ x _ h1]
              exact .same (by simp [Builtin.len_, run_underlying_some hu, goInt, Result.andThen]) h2
            · rename_i hu
              obtain ⟨u, h1, h2⟩ := rdK_spec (hsome ht)
              have h1 : rd e x = some u := h1
              have hu : P.underlying t0 = some .string := hu
              cases u <;> first | exact (show False from h2).elim | skip
              rw [hx .nilIface, hρ x _ h1]
              exact .same (by simp [Builtin.len_, run_underlying_some hu, goInt, Result.andThen]) h2
            · obtain ⟨vs, h1, r, w', h4, h5⟩ := rdsK_spec (hsome ht)
              have h1 := h1 ρ hρ
              simp only [List.map_cons, List.map_nil] at h1
              subst h1
              rw [hx .nilIface]
              exact .val ⟨r, w', h4, intro_spec h5⟩
        · exact hrun ht hd
      case cap =>
        obtain ⟨vs, h1, r, w', h4, h5⟩ := rdsK_spec (hsome ht)
        have ha : args.map ρ = vs.toArray := by apply Array.ext'; rw [Array.toList_map, h1 ρ hρ]
        have : execOp ρ ⟨dst, .call { callee := .builtin .cap, args, argTypes := ats }, T, pos, after, guard⟩ = (do pure (.value (← Builtin.cap_ ats T vs.toArray))) := by
          rw [← ha]; rfl
        rw [this]
        exact .val ⟨r, w', h4, intro_spec h5⟩
      case max =>
        obtain ⟨vs, h1, r, w', h4, h5⟩ := rdsK_spec (hsome ht)
        have ha : args.map ρ = vs.toArray := by apply Array.ext'; rw [Array.toList_map, h1 ρ hρ]
        have : execOp ρ ⟨dst, .call { callee := .builtin .max, args, argTypes := ats }, T, pos, after, guard⟩ = (do pure (.value (← Builtin.max_ ats T vs.toArray))) := by
          rw [← ha]; rfl
        rw [this]
        exact .val ⟨r, w', h4, intro_spec h5⟩
      case min =>
        obtain ⟨vs, h1, r, w', h4, h5⟩ := rdsK_spec (hsome ht)
        have ha : args.map ρ = vs.toArray := by apply Array.ext'; rw [Array.toList_map, h1 ρ hρ]
        have : execOp ρ ⟨dst, .call { callee := .builtin .min, args, argTypes := ats }, T, pos, after, guard⟩ = (do pure (.value (← Builtin.min_ ats T vs.toArray))) := by
          rw [← ha]; rfl
        rw [this]
        exact .val ⟨r, w', h4, intro_spec h5⟩
      case delete =>
        obtain ⟨vs, h1, r, w', h4, h5⟩ := rdsK_spec (hsome ht)
        have ha : args.map ρ = vs.toArray := by apply Array.ext'; rw [Array.toList_map, h1 ρ hρ]
        have : execOp ρ ⟨dst, .call { callee := .builtin .delete, args, argTypes := ats }, T, pos, after, guard⟩ = (do pure (.value (← Builtin.delete_ ats T vs.toArray))) := by
          rw [← ha]; rfl
        rw [this]
        exact .val ⟨r, w', h4, intro_spec h5⟩
      case clear =>
        obtain ⟨vs, h1, r, w', h4, h5⟩ := rdsK_spec (hsome ht)
        have ha : args.map ρ = vs.toArray := by apply Array.ext'; rw [Array.toList_map, h1 ρ hρ]
        have : execOp ρ ⟨dst, .call { callee := .builtin .clear, args, argTypes := ats }, T, pos, after, guard⟩ = (do pure (.value (← Builtin.clear_ ats T vs.toArray))) := by
          rw [← ha]; rfl
        rw [this]
        exact .val ⟨r, w', h4, intro_spec h5⟩
      all_goals exact hrun ht hd
  case build T' parts =>
    have hps : ∀ vs : List (Nat × Value), parts.toList.map (fun p => (p.1, ρ p.2)) = vs → (parts.map fun (i, x) => (i, ρ x)).toList = vs := fun vs h => by rw [← h]; simp
    split at ht
    · rename_i hz
      unfold hasZero at hz
      cases hi : P.info? T' with
      | none => rw [hi] at hz; cases hz
      | some it =>
        rw [hi] at hz
        simp only [Option.bind_some] at hz
        obtain ⟨z, hz⟩ := Option.isSome_iff_exists.1 hz
        have hzc : zc P T' = z.cells.toList := by simp [zc, hi, hz]
        split at ht
        · rename_i fs hu
          split at ht
          · rename_i hf
            obtain ⟨vs, h1, cs, h2, h3⟩ := rdps_spec (hsome ht)
            simp only [execOp]
            refine .same (run_build w T' _ cs.toArray ?_) h3
            unfold Program.built
            have hpl : fs.toList.mapM (fun f => (P.info? f.type).map fun i => (f.offset, i.size)) = some (fs.toList.map fun f => (f.offset, P.cellsOf f.type)) := by
              rw [Array.all_eq_true'] at hf
              have hf' : ∀ f ∈ fs.toList, (P.info? f.type).isSome = true := fun f h => hf f (by simpa using h)
              revert hf'
              generalize fs.toList = l
              induction l with
              | nil => intro _; rfl
              | cons f l ih =>
                intro hf'
                obtain ⟨inf, hinf⟩ := Option.isSome_iff_exists.1 (hf' f (by simp))
                simp [List.mapM_cons, ih (fun g hg => hf' g (by simp [hg])), hinf, Program.cellsOf]
            simp only [hi, hu, hz, hpl]
            have := fill_eq (.fields (fs.toList.map fun f => (f.offset, P.cellsOf f.type))) _ _ _ h2
            rw [hzc] at this
            rw [hps vs (h1 ρ hρ)]
            rw [← this]
            congr 1
            funext j
            simp [Place.at]
          · exact hrun ht hd
        · rename_i n el hu
          split at ht
          · rename_i hie
            obtain ⟨ie, hie⟩ := Option.isSome_iff_exists.1 hie
            obtain ⟨vs, h1, cs, h2, h3⟩ := rdps_spec (hsome ht)
            simp only [execOp]
            refine .same (run_build w T' _ cs.toArray ?_) h3
            unfold Program.built
            simp only [hi, hu, hz, hie]
            have := fill_eq (.elems (P.cellsOf el)) _ _ _ h2
            rw [hzc] at this
            rw [hps vs (h1 ρ hρ)]
            rw [← this]
            have hce : P.cellsOf el = ie.size := by simp [Program.cellsOf, hie]
            rw [hce]
            congr 1
          · exact hrun ht hd
        · exact hrun ht hd
    · exact hrun ht hd
  case buildSlice T' len parts =>
    have hps : ∀ vs : List (Nat × Value), parts.toList.map (fun p => (p.1, ρ p.2)) = vs → (parts.map fun (i, x) => (i, ρ x)).toList = vs := fun vs h => by rw [← h]; simp
    split at ht
    · rename_i el hu
      split at ht
      · rename_i hc
        simp only [Bool.and_eq_true, decide_eq_true_eq] at hc
        obtain ⟨⟨hz, h0⟩, h16⟩ := hc
        unfold hasZero at hz
        cases hi : P.info? el with
        | none => rw [hi] at hz; cases hz
        | some it =>
          rw [hi] at hz
          simp only [Option.bind_some] at hz
          obtain ⟨z, hz⟩ := Option.isSome_iff_exists.1 hz
          have hzc : zc P el = z.cells.toList := by simp [zc, hi, hz]
          have hce : P.cellsOf el = it.size := by simp [Program.cellsOf, hi]
          obtain ⟨vs, h1, cs, h2, h3⟩ := rdps_spec (hsome ht)
          simp only [execOp]
          refine .val ⟨_, _, run_buildSlice w T' el len _ cs.toArray it z hu hi hz (by rw [← hce]; omega) (by rw [← hce]; omega) ?_, h3 _ rfl⟩
          have := fill_eq (.elems (P.cellsOf el)) _ _ _ h2
          rw [hps vs (h1 ρ hρ), ← this, ← hce]
          congr 1
          unfold zrep
          rw [hzc]
          apply Array.ext'
          simp
      · split at ht
        · rename_i hc
          simp only [Bool.and_eq_true, decide_eq_true_eq] at hc
          obtain ⟨⟨hi, h0⟩, hp⟩ := hc
          have hd := hsome ht
          have hp' : parts = #[] := by simpa using hp
          subst hp'
          simp only [execOp]
          refine .val ⟨_, _, ?_, hd _ rfl⟩
          have h0' : len = 0 ∨ P.cellsOf el = 0 := by rcases Nat.eq_zero_or_pos len with h | h; exact .inl h; exact .inr (by rcases Nat.eq_zero_or_pos (P.cellsOf el) with h' | h'; exact h'; exact absurd h0 (Nat.ne_of_gt (Nat.mul_pos h h')))
          simp [Instr.buildSlice, run_underlying_some hu, run_sizeOf_some hi, h0, h0', Instr.fill, newRow, Result.andThen]
          have : ∀ f : Nat → Value, (Array.range 0).map f = #[] := fun f => by apply Array.ext'; simp
          rw [this]
        · exact hrun ht hd
    · exact hrun ht hd
  all_goals exact hrun ht hd
end
end Go.Proofs.YtjchneebdlncfaaDoor.Den
