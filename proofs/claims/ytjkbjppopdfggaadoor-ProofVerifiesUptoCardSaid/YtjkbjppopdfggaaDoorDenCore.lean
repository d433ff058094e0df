/-
  A SMALL DENOTATION OF THE TRANSLATED CODE: resolved operations ('I'), structured code ('S'), what each asks ('denI', 'denOps', 'denS'), and how code is resolved ('trOp', 'trS').
  Own work. No macro, syntax, notation, axiom.
-/
import Derived.WalkKit
import Derived.Orders
import Derived.RangeFuncSeq
namespace Go.Proofs.YtjkbjppopdfggaaDoor.Den
open Go

/-- The live slots and what they hold, the newest first. -/
abbrev Env := List (Nat × Value)
def find : Env → Nat → Option Value
  | [], _ => none
  | (k, v) :: r, t => bif Nat.beq k t then some v else find r t
def rd (e : Env) : Operand → Option Value
  | .tmp t => find e t
  | .const v => some v
  | .global g => some (.pointer (some ⟨g, 0, none⟩))
  | .func f => some (.func (.func f) #[] #[])
def rdK (e : Env) (x : Operand) (K : Value → Prop) : Prop :=
  match rd e x with
  | some v => K v
  | none => False
def rdsK (e : Env) : List Operand → (List Value → Prop) → Prop
  | [], K => K []
  | x :: r, K => rdK e x fun v => rdsK e r fun vs => K (v :: vs)
def rdo (e : Env) (x : Option Operand) (K : Option Value → Prop) : Prop :=
  match x with
  | none => K none
  | some x => rdK e x fun v => K (some v)
def put (d : Option Nat) (v : Value) (e : Env) : Env :=
  match d with
  | some d => (d, v) :: e
  | none => e
/-- The entries of some slots. -/
def keepK (e : Env) : List Nat → (Env → Prop) → Prop
  | [], K => K []
  | k :: ks, K =>
    match find e k with
    | some v => keepK e ks fun r => K ((k, v) :: r)
    | none => False

/-- The outer shape of a value. -/
inductive Ty where
  | int (k : IntKind) | bool | str | sl | ptr | mp | agg | any
def exTy : Ty → (Value → Prop) → Prop
  | .int k, F => ∃ n, F (.int k n)
  | .bool, F => ∃ b, F (.bool b)
  | .str, F => ∃ s, F (.string s)
  | .sl, F => ∃ a n c, F (.slice a n c)
  | .ptr, F => ∃ a, F (.pointer a)
  | .mp, F => ∃ r, F (.map r)
  | .agg, F => ∃ cs, F (.agg cs)
  | .any, F => ∃ v, F v
def allTy : Ty → (Value → Prop) → Prop
  | .int k, F => ∀ n, F (.int k n)
  | .bool, F => ∀ b, F (.bool b)
  | .str, F => ∀ s, F (.string s)
  | .sl, F => ∀ a n c, F (.slice a n c)
  | .ptr, F => ∀ a, F (.pointer a)
  | .mp, F => ∀ r, F (.map r)
  | .agg, F => ∀ cs, F (.agg cs)
  | .any, F => ∀ v, F v
/-- A value, by its shape. -/
def intro (t : Ty) (v : Value) (K : Value → Prop) : Prop := exTy t fun u => v = u ∧ K u
def exTys : List Ty → (List Value → Prop) → Prop
  | [], F => F []
  | t :: ts, F => exTy t fun v => exTys ts fun vs => F (v :: vs)
/-- What a call hands back. -/
def retK (ts : List Ty) (e : Ending) (K : Value → Prop) : Prop :=
  match ts with
  | [] => e = .returned (.tuple #[]) ∧ K (.tuple #[])
  | [t] => exTy t fun v => e = .returned v ∧ K v
  | ts => exTys ts fun vs => e = .returned (.tuple vs.toArray) ∧ K (.tuple vs.toArray)

/-- Predicates over values of given shapes and a world. -/
def Fn : List Ty → Type
  | [] => World → Prop
  | .int _ :: ts => Int → Fn ts
  | .bool :: ts => Bool → Fn ts
  | .str :: ts => ByteArray → Fn ts
  | .sl :: ts => Option Addr → Nat → Nat → Fn ts
  | .ptr :: ts => Option Addr → Fn ts
  | .mp :: ts => Option Nat → Fn ts
  | .agg :: ts => Array Value → Fn ts
  | .any :: ts => Value → Fn ts
def same (a b : IntKind) : Bool := decide (a = b)
def app : (ts : List Ty) → Fn ts → List Value → World → Prop
  | [], J, [], w => J w
  | .int k :: ts, J, .int k' n :: vs, w => bif same k' k then app ts (J n) vs w else False
  | .bool :: ts, J, .bool b :: vs, w => app ts (J b) vs w
  | .str :: ts, J, .string s :: vs, w => app ts (J s) vs w
  | .sl :: ts, J, .slice a n c :: vs, w => app ts (J a n c) vs w
  | .ptr :: ts, J, .pointer a :: vs, w => app ts (J a) vs w
  | .mp :: ts, J, .map r :: vs, w => app ts (J r) vs w
  | .agg :: ts, J, .agg cs :: vs, w => app ts (J cs) vs w
  | .any :: ts, J, v :: vs, w => app ts (J v) vs w
  | _, _, _, _ => False
/-- For all values of the slots' shapes: the entries. -/
def allSl : List (Nat × Ty) → (Env → List Value → Prop) → Prop
  | [], F => F [] []
  | (k, t) :: r, F => allTy t fun v => allSl r fun e vs => F ((k, v) :: e) (v :: vs)
def valsK (e : Env) : List (Nat × Ty) → (List Value → Prop) → Prop
  | [], K => K []
  | (k, _) :: r, K =>
    match find e k with
    | some v => valsK e r fun vs => K (v :: vs)
    | none => False
def tys (sl : List (Nat × Ty)) : List Ty := sl.map (·.2)

/-! ### Operations -/
inductive Place where
  | fields (l : List (Nat × Nat))
  | elems (size : Nat)
def Place.at : Place → Nat → Option (Nat × Nat)
  | .fields l, i => l[i]?
  | .elems s, i => some (i * s, s)
def splice (l : List Value) (off : Nat) (vs : List Value) : List Value := l.take off ++ (vs ++ l.drop (off + vs.length))
def fillL (p : Place) (l : List Value) : List (Nat × Value) → Option (List Value)
  | [] => some l
  | (i, v) :: r =>
    match p.at i with
    | none => none
    | some (off, size) => if v.cells.size = size ∧ off + size ≤ l.length then fillL p (splice l off v.cells.toList) r else none
/-- The cells of a type's zero value. -/
def zc (P : Program) (T : TypeId) : List Value := (((P.info? T).bind (·.zero)).map (·.cells.toList)).getD []
def zrep (z : List Value) (n : Nat) : List Value := (List.range n).map fun i => z.toArray[i % z.toArray.size]!
def rdps (e : Env) : List (Nat × Operand) → (List (Nat × Value) → Prop) → Prop
  | [], K => K []
  | (i, x) :: r, K => rdK e x fun v => rdps e r fun vs => K ((i, v) :: vs)

/-- Operations that are left to the model's own text. -/
inductive Rv where
  | cvG (s d : TypeId)
  | ment (T : TypeId)
  | rng (T : TypeId)
  | nxt (b : Bool) (T : TypeId)
  | entr
  | asrt (xt at_ : TypeId) (ok : Bool)
  | mkR (T : TypeId)
  | capB (ats : Array TypeId) (T : TypeId)
  | maxB (ats : Array TypeId) (T : TypeId)
  | minB (ats : Array TypeId) (T : TypeId)
  | delB (ats : Array TypeId) (T : TypeId)
  | clrB (ats : Array TypeId) (T : TypeId)
  | lenB (ats : Array TypeId) (T : TypeId)
def Rv.sem : Rv → List Value → Sem Value
  | .cvG s d, [v] => convert s d v
  | .ment T, [m, k] => Instr.mapEntry T m k
  | .rng T, [x] => Instr.range T x
  | .nxt b T, [x] => Instr.next x b T
  | .entr, [x] => Instr.entry x
  | .asrt xt at_ ok, [x] => Instr.typeAssert x xt at_ ok
  | .mkR T, [r] => Instr.makeMap T (some r)
  | .capB ats T, l => Builtin.cap_ ats T l.toArray
  | .maxB ats T, l => Builtin.max_ ats T l.toArray
  | .minB ats T, l => Builtin.min_ ats T l.toArray
  | .delB ats T, l => Builtin.delete_ ats T l.toArray
  | .clrB ats T, l => Builtin.clear_ ats T l.toArray
  | .lenB ats T, l => Builtin.len_ ats T l.toArray
  | _, _ => stuck "operands"
inductive I where
  | mv (x : Operand)
  | nc (x : Operand)
  | pick (c a b : Operand)
  | bin (op : BinOp) (x y : Operand)
  | eqB (neg : Bool) (x y : Operand)
  | nilEq (neg : Bool) (kind : Nat) (x : Operand)
  | eqG (op : BinOp) (t : TypeId) (x y : Operand)
  | un (op : UnOp) (x : Operand)
  | cv (k : IntKind) (x : Operand)
  | alloc (T : TypeId)
  | box (T : TypeId) (x : Operand)
  | bld (T : TypeId) (p : Place) (parts : List (Nat × Operand))
  | bldS (T : TypeId) (len size : Nat) (parts : List (Nat × Operand))
  | bld0 (T : TypeId) (len : Nat)
  | ld1 (x : Operand)
  | ldN (n : Nat) (x : Operand)
  | st1 (x v : Operand)
  | stN (n : Nat) (x v : Operand)
  | fa (off : Nat) (x : Operand)
  | fld (off : Nat) (x : Operand)
  | fldN (off n : Nat) (x : Operand)
  | ia (size : Nat) (x i : Operand)
  | iaA (n size : Nat) (x i : Operand)
  | ixA (n size : Nat) (x i : Operand)
  | ixN (n size : Nat) (x i : Operand)
  | ixS (x i : Operand)
  | slS (size : Nat) (x : Operand) (lo hi mx : Option Operand)
  | slA (n size : Nat) (x : Operand) (lo hi mx : Option Operand)
  | slT (x : Operand) (lo hi : Option Operand)
  | len (x : Operand)
  | lenT (x : Operand)
  | app (ats : Array TypeId) (T : TypeId) (x y : Operand)
  | cpy (ats : Array TypeId) (T : TypeId) (x y : Operand)
  | mk (T : TypeId) (x y : Operand)
  | mkI (T : TypeId) (x : Operand)
  | mkM (T : TypeId)
  | look (T : TypeId) (x i : Operand) (ok : Bool)
  | upd (T : TypeId) (m k v : Operand)
  | ext (i : Nat) (x : Operand)
  | call (f : FuncId) (args : List Operand) (ts : List Ty)
  | callP (f : FuncId) (args : List Operand) (ts : List Ty)
  | callv (f : Operand) (args : List Operand) (ts : List Ty)
  | inv (x : Operand) (name : String) (args : List Operand) (ts : List Ty)
  | rv (r : Rv) (xs : List Operand)
  | mkF (f : Go.Fn) (a c : List Operand)
  | est (T : TypeId) (m s v : Operand)
  | pan (x : Operand)
  | run (op : Op) (T : TypeId)

def bAnd (k : IntKind) (x y : Int) : Int := k.wrap ((BitVec.ofInt k.bits x &&& BitVec.ofInt k.bits y).toNat : Nat)
def bOr (k : IntKind) (x y : Int) : Int := k.wrap ((BitVec.ofInt k.bits x ||| BitVec.ofInt k.bits y).toNat : Nat)
def bXor (k : IntKind) (x y : Int) : Int := k.wrap ((BitVec.ofInt k.bits x ^^^ BitVec.ofInt k.bits y).toNat : Nat)
def bAndNot (k : IntKind) (x y : Int) : Int := k.wrap ((BitVec.ofInt k.bits x &&& ~~~BitVec.ofInt k.bits y).toNat : Nat)
def shL (k : IntKind) (x y : Int) : Int := k.wrap (x * 2 ^ (min y.toNat k.bits))
def shR (k : IntKind) (x y : Int) : Int := x.fdiv (2 ^ (min y.toNat k.bits))

def denBin (op : BinOp) (a b : Value) (K : Value → Prop) : Prop :=
  match a, b with
  | .int k x, .int k' y =>
    match op with
    | .shl => 0 ≤ y ∧ K (.int k (shL k x y))
    | .shr => 0 ≤ y ∧ K (.int k (shR k x y))
    | .add => bif same k k' then K (.int k (k.wrap (x + y))) else False
    | .sub => bif same k k' then K (.int k (k.wrap (x - y))) else False
    | .mul => bif same k k' then K (.int k (k.wrap (x * y))) else False
    | .quo => bif same k k' then y ≠ 0 ∧ K (.int k (k.wrap (x.tdiv y))) else False
    | .rem => bif same k k' then y ≠ 0 ∧ K (.int k (x.tmod y)) else False
    | .and => bif same k k' then K (.int k (bAnd k x y)) else False
    | .or => bif same k k' then K (.int k (bOr k x y)) else False
    | .xor => bif same k k' then K (.int k (bXor k x y)) else False
    | .andNot => bif same k k' then K (.int k (bAndNot k x y)) else False
    | .eql => bif same k k' then K (.bool (decide (x = y))) else False
    | .neq => bif same k k' then K (.bool (!decide (x = y))) else False
    | .lss => bif same k k' then K (.bool (decide (x < y))) else False
    | .leq => bif same k k' then K (.bool (decide (x ≤ y))) else False
    | .gtr => bif same k k' then K (.bool (decide (y < x))) else False
    | .geq => bif same k k' then K (.bool (decide (y ≤ x))) else False
  | .string x, .string y =>
    match op with
    | .add => ((x.size + y.size : Nat) : Int) ≤ 9223372036854775807 ∧ K (.string (x ++ y))
    | .eql => K (.bool (x.toList == y.toList))
    | .neq => K (.bool (!(x.toList == y.toList)))
    | _ => False
  | _, _ => False
def denUn (op : UnOp) (a : Value) (K : Value → Prop) : Prop :=
  match op, a with
  | .neg, .int k n => K (.int k (k.wrap (0 - n)))
  | .xor, .int k n => K (.int k (bXor k (if k.signed then -1 else k.max) n))
  | .not, .bool b => K (.bool !b)
  | _, _ => False
def isNilV : Value → Option Bool
  | .pointer a => some a.isNone
  | .slice a _ _ => some a.isNone
  | .map a => some a.isNone
  | .nilIface => some true
  | .iface _ _ => some false
  | .nilFunc => some true
  | .func _ _ _ => some false
  | _ => none
def isNilK : Nat → Value → Option Bool
  | 0, .slice a _ _ => some a.isNone
  | 1, .pointer a => some a.isNone
  | 2, .map a => some a.isNone
  | 3, .nilFunc => some true
  | 3, .func _ _ _ => some false
  | 4, .nilIface => some true
  | 4, .iface _ _ => some false
  | _, _ => none
def optK (a : Option Addr) (K : Addr → Prop) : Prop :=
  match a with
  | some b => K b
  | none => False
def ncK (v : Value) (K : Value → Prop) : Prop :=
  match v with
  | .pointer p => optK p fun a => K (.pointer (some a))
  | v => isNilV v = some false ∧ (∀ n f c, v ≠ .func (.method n) f c) ∧ K v
def tupK (v : Value) (K : Array Value → Prop) : Prop :=
  match v with
  | .tuple vs => K vs
  | _ => False
def fnK (v : Value) (K : FuncId → Array Value → Array Value → Prop) : Prop :=
  match v with
  | .func (.func g) first cap => K g first cap
  | _ => False
def ptrK (v : Value) (K : Addr → Prop) : Prop :=
  match v with
  | .pointer p => optK p K
  | _ => False
def nilQ (kind : Nat) (v : Value) (K : Bool → Prop) : Prop :=
  match isNilK kind v with
  | some b => K b
  | none => False
def RunV (P : Program) (s : Sem Value) (w : World) (K : Value → World → Prop) : Prop := ∃ v w', s.run P w = .ok v w' ∧ K v w'
def RunU (P : Program) (s : Sem Unit) (w : World) (K : World → Prop) : Prop := ∃ w', s.run P w = .ok () w' ∧ K w'
/-- What is asked where a run panics. -/
abbrev Pan := List PanicEntry → World → Prop
abbrev noPan : Pan := fun _ _ => False
def orPan (e : Ending) (Z : List PanicEntry → Prop) (K : Prop) : Prop :=
  match e with
  | .panicked ch => Z ch
  | _ => K
def RunsTo (P : Program) (Z : Pan) (s : Sem Next) (w : World) (K : Value → World → Prop) : Prop :=
  match s.run P w with
  | .ok (.value v) w' => K v w'
  | .ok .skip w' => K undef w'
  | .ok (.enter f args) w' => Calls P f args w' fun e w'' => orPan e (fun ch => Z ch w'') (∃ v, e = .returned v ∧ K v w'')
  | .ok (.round l f tmps assign body) w' => RoundIn Fence.wide 0 P l f tmps assign body w' fun e w'' => orPan e (fun ch => Z ch w'') (∃ v, e = .returned v ∧ K v w'')
  | .halt (.panic v) w' => Z [{ v, recovered := false }] w'
  | _ => False
/-- Some cells in a row. -/
def Cells (w : World) (a : Addr) (cs : List Value) : Prop := ∀ i v, cs[i]? = some v → w.cell? (a.add i) = some v
def setCells (w : World) (a : Addr) : List Value → Nat → World
  | [], _ => w
  | v :: r, i => setCells (w.setCell (a.add i) v) a r (i + 1)
def one : Value → Bool
  | .agg _ | .tuple _ => false
  | _ => true
/-- May these cells be written? -/
def Room (w : World) (a : Addr) (n : Nat) : Prop := ∀ i, i < n → (w.cell? (a.add i)).isSome = true ∧ w.frozen? (a.add i) = false
def bnd (v : Option Value) (dflt top : Nat) (K : Nat → Prop) : Prop :=
  match v with
  | none => K dflt
  | some (.int _ i) => 0 ≤ i ∧ i ≤ top ∧ K i.toNat
  | _ => False
def HasBody (P : Program) (f : FuncId) : Prop := ∃ fn, P.funcs[f]? = some fn ∧ fn.body.isNone = false ∧ (fn.name == "runtime.NumGoroutine") = false
def CallK (P : Program) (f : FuncId) (args : Array Value) (ts : List Ty) (w : World) (K : Value → World → Prop) : Prop :=
  Calls P f args w fun e w' => retK ts e fun v => K v w'

/-- A call of a function's value: a function, or a loop's yield. -/
def fvK (P : Program) (v : Value) (args : Array Value) (w : World) (K : Ending → World → Prop) : Prop :=
  match v with
  | .func (.func g) first cap => HasBody P g ∧ Calls P g (first ++ args ++ cap) w K
  | .func (.yield l) first cap => YieldAt Fence.wide 0 P l (first ++ args) w K
  | _ => False

def denI (P : Program) (Z : Pan) (i : I) (ty : Ty) (e : Env) (w : World) (K : Value → World → Prop) : Prop :=
  match i with
  | .mv x => rdK e x fun v => K v w
  | .nc x => rdK e x fun v => ncK v fun v => K v w
  | .pick c a b => rdK e c fun vc =>
    match vc with
    | .bool t => bif t then rdK e a fun v => K v w else rdK e b fun v => K v w
    | _ => False
  | .bin op x y => rdK e x fun a => rdK e y fun b => denBin op a b fun v => K v w
  | .eqB neg x y => rdK e x fun a => rdK e y fun b =>
    match a, b with
    | .bool s, .bool t => K (.bool (bif neg then !(s == t) else (s == t))) w
    | _, _ => False
  | .nilEq neg kind x => rdK e x fun v => nilQ kind v fun b => K (.bool (bif neg then !b else b)) w
  | .eqG op t x y => rdK e x fun a => rdK e y fun b => ∃ r : Bool, Sem.run P (do eqGuard op t x y a b; binOp op t a b) w = .ok (.bool r) w ∧ K (.bool r) w
  | .un op x => rdK e x fun a => denUn op a fun v => K v w
  | .cv k x => rdK e x fun a =>
    match a with
    | .int _ n => K (.int k (k.wrap n)) w
    | _ => False
  | .alloc T => ∀ w', w' = w.alloc (.cells (zc P T).toArray T) → K (.pointer (some ⟨w.heap.size, 0, none⟩)) w'
  | .box T x => rdK e x fun v => ∀ w', w' = w.alloc (.cells v.cells T) → K (.pointer (some ⟨w.heap.size, 0, none⟩)) w'
  | .bld T p parts => rdps e parts fun vs => ∃ cs, fillL p (zc P T) vs = some cs ∧ K (.agg cs.toArray) w
  | .bldS T len size parts => rdps e parts fun vs => ∃ cs, fillL (.elems size) (zrep (zc P T) (len * size)) vs = some cs ∧
      ∀ w', w' = w.alloc (.cells cs.toArray T) → K (.slice (some ⟨w.heap.size, 0, none⟩) len len) w'
  | .bld0 T len => ∀ w', w' = w.alloc (.cells #[] T) → K (.slice (some ⟨w.heap.size, 0, none⟩) len len) w'
  | .ld1 x => rdK e x fun p => ptrK p fun a => exTy ty fun u => w.cell? a = some u ∧ K u w
  | .ldN n x => rdK e x fun p => ptrK p fun a => ∃ cs : List Value, cs.length = n ∧ Cells w a cs ∧ K (.agg cs.toArray) w
  | .st1 x v => rdK e x fun p => rdK e v fun u =>
    ptrK p fun a => one u = true ∧ (w.cell? a).isSome = true ∧ w.frozen? a = false ∧ ∀ w', w' = w.setCell a u → K undef w'
  | .stN n x v => rdK e x fun p => rdK e v fun u =>
    ptrK p fun a => match u with
    | .agg cs => cs.size = n ∧ (∀ u ∈ cs.toList, one u = true) ∧ Room w a n ∧ ∀ w', w' = setCells w a cs.toList 0 → K undef w'
    | _ => False
  | .fa off x => rdK e x fun p => ptrK p fun a => K (.pointer (some (a.add off))) w
  | .fld off x => rdK e x fun v =>
    match v with
    | .agg cs => exTy ty fun u => cs[off]? = some u ∧ K u w
    | _ => False
  | .fldN off n x => rdK e x fun v =>
    match v with
    | .agg cs => K (.agg (cs.extract off (off + n))) w
    | _ => False
  | .ia size x i => rdK e x fun s => rdK e i fun j =>
    match s, j with
    | .slice a n _, .int _ q => 0 ≤ q ∧ q < n ∧ optK a fun b => K (.pointer (some (b.add (q.toNat * size)))) w
    | _, _ => False
  | .iaA n size x i => rdK e x fun s => rdK e i fun j =>
    ptrK s fun a => match j with
    | .int _ q => 0 ≤ q ∧ q < n ∧ K (.pointer (some (a.add (q.toNat * size)))) w
    | _ => False
  | .ixA n size x i => rdK e x fun s => rdK e i fun j =>
    match s, j with
    | .agg cs, .int _ q => 0 ≤ q ∧ q < n ∧ exTy ty fun u => cs[q.toNat * size]? = some u ∧ K u w
    | _, _ => False
  | .ixN n size x i => rdK e x fun s => rdK e i fun j =>
    match s, j with
    | .agg cs, .int _ q => 0 ≤ q ∧ q < n ∧ K (.agg (cs.extract (q.toNat * size) (q.toNat * size + size))) w
    | _, _ => False
  | .ixS x i => rdK e x fun s => rdK e i fun j =>
    match s, j with
    | .string s, .int _ q => 0 ≤ q ∧ ∃ b, s[q.toNat]? = some b ∧ K (.int .u8 b.toNat) w
    | _, _ => False
  | .slS size x lo hi mx => rdK e x fun s => rdo e lo fun l => rdo e hi fun h => rdo e mx fun m =>
    match s with
    | .slice a n c => bnd m c c fun m => bnd h n m fun h => bnd l 0 h fun l => K (.slice (if m = l then a else a.map (·.add (l * size))) (h - l) (m - l)) w
    | _ => False
  | .slA n size x lo hi mx => rdK e x fun s => rdo e lo fun l => rdo e hi fun h => rdo e mx fun m =>
    ptrK s fun a => bnd m n n fun m => bnd h n m fun h => bnd l 0 h fun l => K (.slice (some (if m = l then a else a.add (l * size))) (h - l) (m - l)) w
  | .slT x lo hi => rdK e x fun s => rdo e lo fun l => rdo e hi fun h =>
    match s with
    | .string s => bnd h s.size s.size fun h => bnd l 0 h fun l => K (.string (s.extract l h)) w
    | _ => False
  | .len x => rdK e x fun v =>
    match v with
    | .slice _ n _ => K (.int .i64 n) w
    | _ => False
  | .lenT x => rdK e x fun v =>
    match v with
    | .string s => K (.int .i64 s.size) w
    | _ => False
  | .app ats T x y => rdK e x fun a => rdK e y fun b => RunV P (Builtin.append_ ats T #[a, b]) w fun v w' => intro ty v fun v => K v w'
  | .cpy ats T x y => rdK e x fun a => rdK e y fun b => RunV P (Builtin.copy_ ats T #[a, b]) w fun v w' => intro ty v fun v => K v w'
  | .mk T x y => rdK e x fun a => rdK e y fun b => RunV P (Instr.makeSlice T a b) w fun v w' => intro ty v fun v => K v w'
  | .mkI T x => rdK e x fun v => K (.iface T v) w
  | .mkM _ => ∀ w', w' = w.alloc (.map #[] 0) → K (.map (some w.heap.size)) w'
  | .look T x i ok => rdK e x fun m => rdK e i fun k => ∃ v, Sem.run P (Instr.lookup T m k ok) w = .ok v w ∧ intro ty v fun v => K v w
  | .upd T m k v => rdK e m fun m => rdK e k fun k => rdK e v fun v => RunU P (Instr.mapUpdate T m k v) w fun w' => K undef w'
  | .ext i x => rdK e x fun v => tupK v fun vs => exTy ty fun u => vs[i]? = some u ∧ K u w
  | .call f args ts => rdsK e args fun vs => CallK P f vs.toArray ts w K
  | .callP f args ts => rdsK e args fun vs => Calls P f vs.toArray w fun en w' => orPan en (fun ch => Z ch w') (retK ts en fun v => K v w')
  | .callv f args ts => rdK e f fun vf => rdsK e args fun vs => fvK P vf vs.toArray w fun en w' => retK ts en fun v => K v w'
  | .inv x name args ts => rdK e x fun vx => rdsK e args fun vs =>
    ∃ t v g r, vx = .iface t v ∧ Sem.run P (method (P.types.size + Made.depth) t v name) w = .ok (g, r) w ∧ HasBody P g ∧ CallK P g (#[r] ++ vs.toArray) ts w K
  | .rv r xs => rdsK e xs fun vs => RunV P (r.sem vs) w fun v w' => intro ty v fun v => K v w'
  | .mkF f a c => rdsK e a fun va => rdsK e c fun vc => K (.func f va.toArray vc.toArray) w
  | .est T m s v => rdK e m fun m => rdK e s fun s => rdK e v fun v => RunU P (Instr.entryStore T m s v) w fun w' => K undef w'
  | .pan x => rdK e x fun v => (∃ t u, v = .iface t u) ∧ Z [{ v, recovered := false }] w
  | .run op T => (op.operands.all fun x => (rd e x).isSome) = true ∧ (∀ cs b, op ≠ .select cs b) ∧
      RunsTo P Z (execOp (fun x => (rd e x).getD undef) ⟨none, op, T, "", #[], none⟩) w fun v w' => intro ty v fun v => K v w'

/-- An operation with its place and its guard ('slot', 'as it must be'). -/
structure X where
  dst : Option Nat
  i : I
  ty : Ty
  guard : Option (Nat × Bool) := none
def gv : Value → Option Bool
  | .bool b => some b
  | _ => none
def denX (P : Program) (Z : Pan) (x : X) (e : Env) (w : World) (K : Env → World → Prop) : Prop :=
  match x.guard with
  | none => denI P Z x.i x.ty e w fun v w' => K (put x.dst v e) w'
  | some (g, b) =>
    match find e g with
    | some u =>
     match gv u with
     | some t =>
      let br (c : Bool) : Prop := bif (c == b) then denI P Z x.i x.ty ((g, .bool c) :: e) w fun v w' => K (put x.dst v ((g, .bool c) :: e)) w'
        else K (put x.dst undef ((g, .bool c) :: e)) w
      bif t then br true else br false
     | none => K (put x.dst undef e) w
    | none => False
def denOps (P : Program) (Z : Pan) : List X → Env → World → (Env → World → Prop) → Prop
  | [], e, w, K => K e w
  | x :: r, e, w, K => denX P Z x e w fun e' w' => denOps P Z r e' w' K

/-! ### Regions that draw their order -/
/-- May it be taken before others: it leaves the world alone; and does its value hang on the world? -/
def readI : I → Bool
  | .ld1 _ | .ldN _ _ | .look _ _ _ _ | .eqG _ _ _ _ => true
  | _ => false
def pureI : I → Bool
  | .mv _ | .nc _ | .pick _ _ _ | .bin _ _ _ | .eqB _ _ _ | .nilEq _ _ _ | .un _ _ | .cv _ _ | .bld _ _ _ | .fa _ _ | .fld _ _ | .fldN _ _ _
  | .ia _ _ _ | .iaA _ _ _ _ | .ixA _ _ _ _ | .ixN _ _ _ _ | .ixS _ _ | .slS _ _ _ _ _ | .slA _ _ _ _ _ _ | .slT _ _ _ | .len _ | .lenT _ | .mkI _ _ | .ext _ _ | .mkF _ _ _ => true
  | _ => false
/-- A walk of all orders: 'take' what may come first; 'go' on with one that acts (the reads taken before it, and not bound to be, read the same behind it); 'alt' both. -/
inductive D where
  | done
  | take (i : Nat) (x : X) (r : D)
  | go (i : Nat) (x : X) (chk : List (Nat × X)) (r : D)
  | alt (a b : D)
def stillX (P : Program) (x : X) (e : Env) (w : World) : Prop :=
  let body : Prop := match x.dst with
    | some d => match find e d with
      | some v => denI P noPan x.i x.ty e w fun u w' => u = v ∧ w' = w
      | none => False
    | none => False
  match x.guard with
  | none => body
  | some (g, b) =>
    match find e g with
    | some u =>
      match gv u with
      | some t => bif (t == b) then body else True
      | none => True
    | none => False
def stills (P : Program) (e : Env) (w : World) : List (Nat × X) → Prop → Prop
  | [], K => K
  | (_, x) :: r, K => stillX P x e w ∧ stills P e w r K
def denD (P : Program) (Z : Pan) : D → Env → World → (Env → World → Prop) → Prop
  | .done, e, w, K => K e w
  | .take _ x r, e, w, K => denX P Z x e w fun e' w' => denD P Z r e' w' K
  | .go _ x chk r, e, w, K => denX P Z x e w fun e' w' => stills P e' w' chk (denD P Z r e' w' K)
  | .alt a b, e, w, K => denD P Z a e w K ∧ denD P Z b e w K

/-! ### Structured code -/
inductive S where
  | skip
  | exit (id : Nat)
  | ret
  | ops (l : List X) (keep : List Nat)
  | draw (d : D) (keep : List Nat)
  | seq (a b : S)
  | join (sl : List (Nat × Ty)) (ks : List Nat) (a b : S)
  | cond (c : Operand) (a b : S)
  | block (id : Nat) (a : S)
  | loop (sl : List (Nat × Ty)) (ks : List Nat) (a : S)
  | scope (a : S)
abbrev Post := Exit → Env → World → Prop
def thenE (next : Env → World → Prop) (Q : Post) : Post
  | .normal, e, w => next e w
  | ex, e, w => Q ex e w
def inBlockE (id : Nat) (Q : Post) : Post
  | .exit id', e, w => bif Nat.beq id' id then Q .normal e w else Q (.exit id') e w
  | ex, e, w => Q ex e w
/-- What a piece's post-condition asks of a panic. -/
def panQ (Q : Post) : Pan := fun ch w => Q (.panic ch) [] w
def denS (P : Program) : S → Env → World → Post → Prop
  | .skip, e, w, Q => Q .normal e w
  | .exit id, e, w, Q => Q (.exit id) e w
  | .ret, e, w, Q => Q .ret e w
  | .ops l ks, e, w, Q => denOps P (panQ Q) l e w fun e' w' => keepK e' ks fun e'' => Q .normal e'' w'
  | .draw d ks, e, w, Q => ∀ w0, w0 = w.drew → denD P (panQ Q) d e w0 fun e' w' => keepK e' ks fun e'' => Q .normal e'' w'
  | .seq a b, e, w, Q => denS P a e w (thenE (fun e' w' => denS P b e' w' Q) Q)
  | .join sl ks a b, e, w, Q => ∃ J : Fn (tys sl), denS P a e w (thenE (fun e' w' => valsK e' sl fun vs => app (tys sl) J vs w') Q) ∧
      ∀ w', allSl sl fun es vs => app (tys sl) J vs w' → keepK e ks fun ek => denS P b (es ++ ek) w' Q
  | .cond c a b, e, w, Q => rdK e c fun v =>
    match v with
    | .bool t => bif t then denS P a e w Q else denS P b e w Q
    | _ => False
  | .block id a, e, w, Q => denS P a e w (inBlockE id Q)
  | .loop sl ks a, e, w, Q => ∃ I : Nat → Fn (tys sl), (∃ m, valsK e sl fun vs => app (tys sl) (I m) vs w) ∧
      ∀ m w', allSl sl fun es vs => app (tys sl) (I m) vs w' → keepK e ks fun ek =>
        denS P a (es ++ ek) w' (thenE (fun e' w'' => ∃ m', m' < m ∧ valsK e' sl fun vs => app (tys sl) (I m') vs w'') Q)
  | .scope a, e, w, Q => denS P a e w Q

/-! ### A function -/
inductive Res where
  | t (slot : Nat)
  | c1 (slot : Nat) (ty : Ty)
  | cN (slot n : Nat)
def resK (e : Env) (w : World) : List Res → (List Value → Prop) → Prop
  | [], K => K []
  | .t s :: r, K =>
    match find e s with
    | some v => resK e w r fun vs => K (v :: vs)
    | none => False
  | .c1 s ty :: r, K =>
    match find e s with
    | some (.pointer (some a)) => exTy ty fun u => w.cell? a = some u ∧ resK e w r fun vs => K (u :: vs)
    | _ => False
  | .cN s n :: r, K =>
    match find e s with
    | some (.pointer (some a)) => ∃ cs : List Value, cs.length = n ∧ Cells w a cs ∧ resK e w r fun vs => K (.agg cs.toArray :: vs)
    | _ => False
def endV : List Value → Value
  | [v] => v
  | vs => .tuple vs.toArray
/-- What is asked at a function's end. -/
def endK (rs : List Res) (R : Ending → World → Prop) : Post
  | .normal, e, w => resK e w rs fun vs => R (.returned (endV vs)) w
  | .ret, e, w => resK e w rs fun vs => R (.returned (endV vs)) w
  | .panic ch, _, w => R (.panicked ch) w
  | _, _, _ => False
def argsEnv : Nat → List Value → Env
  | _, [] => []
  | i, v :: r => (i, v) :: argsEnv (i + 1) r
end Go.Proofs.YtjkbjppopdfggaaDoor.Den
