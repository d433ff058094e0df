/-
  THE CODE of some functions of the given program, resolved, and proved to ask what the readable texts (d..) say; contracts c.. follow. Printed by a small program of mine.
-/
import Derived.Test.YtjkbjppopdfggaaDenWords8
import Derived.Test.YtjkbjppopdfggaaProg
set_option maxRecDepth 100000
namespace Go.Proofs.Ytjkbjppopdfggaa.Fn
open Go Den
/-- prelude/codec.New -/
def s12 : S := (.seq (.ops [⟨(some 0), (.mv (.const (.pointer none))), .ptr, none⟩] [])
 (.seq (.ops [⟨(some 1), (.bld 75 (.fields [(0, 1)]) []), .agg, none⟩,
  ⟨(some 2), (.box 75 (.tmp 1)), .ptr, none⟩,
  ⟨(some 0), (.mv (.tmp 2)), .ptr, none⟩] [0])
 .ret))
def r12 : List Res := [.t 0]
theorem tr12 : trS Try.prog [] 3 (Try.f12.body.getD .skip) s12 = some s12 := by kernel_rfl
theorem den12 (args : List Value) (w : World) (R : Ending → World → Prop) (hn : args.length ≤ 3) (h : denS Try.prog s12 (argsEnv 0 args) w (endK r12 R)) : Calls Try.prog 12 args.toArray w R :=
  calls_of_den (pn := []) (fn := Try.f12) (c := Try.f12.body.getD .skip) Try.func12 (by kernel_rfl) (by rw [Try.ntmps12]; exact hn) (by rw [Try.ntmps12]; exact tr12) (by kernel_rfl) h
def d12 (w : World) (R : Ending → World → Prop) : Prop :=
 ∃ cs0, fillL (.fields [(0, 1)]) (zc Try.prog 75) [] = some cs0 ∧
 ∀ w1 : World, w1 = World.alloc w (.cells (List.toArray cs0) 75) →
 R (.returned (.pointer (some ⟨World.heap w |>.size, 0, none⟩))) w1
theorem e12 (w : World) (R : Ending → World → Prop) : denS Try.prog s12 (argsEnv 0 []) w (endK r12 R) = d12  w R := by kernel_rfl
theorem c12 {w : World} {R : Ending → World → Prop} (h : d12  w R) : Calls Try.prog 12 #[] w R :=
  den12 [] w R (by simp) ((e12  w R).symm ▸ h)

/-- (*prelude/codec.Writer).Byte -/
def s15 : S := (.ops [⟨(some 4), (.mv (.tmp 0)), .ptr, none⟩,
  ⟨(some 5), (.mv (.tmp 0)), .ptr, none⟩,
  ⟨(some 6), (.nc (.tmp 5)), .any, none⟩,
  ⟨(some 7), (.fa 0 (.tmp 6)), .ptr, none⟩,
  ⟨(some 8), (.ld1 (.tmp 7)), .sl, none⟩,
  ⟨(some 9), (.mv (.tmp 1)), (.int .u8), none⟩,
  ⟨(some 10), (.bldS 5 1 1 [(0, (.tmp 9))]), .sl, none⟩,
  ⟨(some 11), (.app #[29, 29] 29 (.tmp 8) (.tmp 10)), .sl, none⟩,
  ⟨(some 12), (.nc (.tmp 4)), .any, none⟩,
  ⟨(some 13), (.fa 0 (.tmp 12)), .ptr, none⟩,
  ⟨none, (.st1 (.tmp 13) (.tmp 11)), .any, none⟩] [])
def r15 : List Res := []
theorem tr15 : trS Try.prog [] 14 (Try.f15.body.getD .skip) s15 = some s15 := by kernel_rfl
theorem den15 (args : List Value) (w : World) (R : Ending → World → Prop) (hn : args.length ≤ 14) (h : denS Try.prog s15 (argsEnv 0 args) w (endK r15 R)) : Calls Try.prog 15 args.toArray w R :=
  calls_of_den (pn := []) (fn := Try.f15) (c := Try.f15.body.getD .skip) Try.func15 (by kernel_rfl) (by rw [Try.ntmps15]; exact hn) (by rw [Try.ntmps15]; exact tr15) (by kernel_rfl) h
def d15 (w0 : Option Addr) (b1 : Int) (w : World) (R : Ending → World → Prop) : Prop :=
 optK w0 fun a2 =>
 ∃ (x3 : Option Addr) (x3n : Nat) (x3c : Nat), World.cell? w (Addr.add a2 0) = some (.slice x3 x3n x3c) ∧
 ∃ cs4, fillL (.elems 1) (zrep (zc Try.prog 5) (1 * 1)) [(0, (.int .u8 b1))] = some cs4 ∧
 ∀ w5 : World, w5 = World.alloc w (.cells (List.toArray cs4) 5) →
 RunV Try.prog (Builtin.append_ #[29, 29] 29 #[(.slice x3 x3n x3c), (.slice (some ⟨World.heap w |>.size, 0, none⟩) 1 1)]) w5 fun v6 w7 => ∃ (x8 : Option Addr) (x8n : Nat) (x8c : Nat), v6 = (.slice x8 x8n x8c) ∧
 optK w0 fun a9 =>
 one (.slice x8 x8n x8c) = true ∧ Option.isSome (World.cell? w7 (Addr.add a9 0)) = true ∧ World.frozen? w7 (Addr.add a9 0) = false ∧
 ∀ w10 : World, w10 = World.setCell w7 (Addr.add a9 0) (.slice x8 x8n x8c) →
 R (.returned (.tuple #[])) w10
theorem e15 (w0 : Option Addr) (b1 : Int) (w : World) (R : Ending → World → Prop) : denS Try.prog s15 (argsEnv 0 [(.pointer w0), (.int .u8 b1)]) w (endK r15 R) = d15 w0 b1 w R := by kernel_rfl
theorem c15 (w0 : Option Addr) (b1 : Int) {w : World} {R : Ending → World → Prop} (h : d15 w0 b1 w R) : Calls Try.prog 15 #[(.pointer w0), (.int .u8 b1)] w R :=
  den15 [(.pointer w0), (.int .u8 b1)] w R (by simp) ((e15 w0 b1 w R).symm ▸ h)

/-- (*prelude/codec.Writer).Uint -/
def s13 : S := (.seq (.block 0
 (.loop [(1, (.int .u64))] [0]
 (.seq (.seq (.ops [⟨(some 4), (.mv (.tmp 1)), (.int .u64), none⟩,
  ⟨(some 5), (.bin .geq (.tmp 4) (.const (.int .u64 128))), .bool, none⟩] [5, 0, 1])
 (.cond (.tmp 5)
 .skip
 (.exit 0)))
 (.block 1
 (.seq (.ops [⟨(some 6), (.mv (.tmp 0)), .ptr, none⟩,
  ⟨(some 7), (.mv (.tmp 0)), .ptr, none⟩,
  ⟨(some 8), (.nc (.tmp 7)), .any, none⟩,
  ⟨(some 9), (.fa 0 (.tmp 8)), .ptr, none⟩,
  ⟨(some 10), (.ld1 (.tmp 9)), .sl, none⟩,
  ⟨(some 11), (.mv (.tmp 1)), (.int .u64), none⟩,
  ⟨(some 12), (.cv .u8 (.tmp 11)), (.int .u8), none⟩,
  ⟨(some 13), (.bin .or (.tmp 12) (.const (.int .u8 128))), (.int .u8), none⟩,
  ⟨(some 14), (.bldS 5 1 1 [(0, (.tmp 13))]), .sl, none⟩,
  ⟨(some 15), (.app #[29, 29] 29 (.tmp 10) (.tmp 14)), .sl, none⟩,
  ⟨(some 16), (.nc (.tmp 6)), .any, none⟩,
  ⟨(some 17), (.fa 0 (.tmp 16)), .ptr, none⟩,
  ⟨none, (.st1 (.tmp 17) (.tmp 15)), .any, none⟩] [1, 0])
 (.ops [⟨(some 18), (.mv (.tmp 1)), (.int .u64), none⟩,
  ⟨(some 19), (.bin .shr (.tmp 18) (.const (.int .u64 7))), (.int .u64), none⟩,
  ⟨(some 1), (.mv (.tmp 19)), (.int .u64), none⟩] [1, 0]))))))
 (.ops [⟨(some 20), (.mv (.tmp 0)), .ptr, none⟩,
  ⟨(some 21), (.mv (.tmp 0)), .ptr, none⟩,
  ⟨(some 22), (.nc (.tmp 21)), .any, none⟩,
  ⟨(some 23), (.fa 0 (.tmp 22)), .ptr, none⟩,
  ⟨(some 24), (.ld1 (.tmp 23)), .sl, none⟩,
  ⟨(some 25), (.mv (.tmp 1)), (.int .u64), none⟩,
  ⟨(some 26), (.cv .u8 (.tmp 25)), (.int .u8), none⟩,
  ⟨(some 27), (.bldS 5 1 1 [(0, (.tmp 26))]), .sl, none⟩,
  ⟨(some 28), (.app #[29, 29] 29 (.tmp 24) (.tmp 27)), .sl, none⟩,
  ⟨(some 29), (.nc (.tmp 20)), .any, none⟩,
  ⟨(some 30), (.fa 0 (.tmp 29)), .ptr, none⟩,
  ⟨none, (.st1 (.tmp 30) (.tmp 28)), .any, none⟩] []))
def r13 : List Res := []
theorem tr13 : trS Try.prog [] 31 (Try.f13.body.getD .skip) s13 = some s13 := by kernel_rfl
theorem den13 (args : List Value) (w : World) (R : Ending → World → Prop) (hn : args.length ≤ 31) (h : denS Try.prog s13 (argsEnv 0 args) w (endK r13 R)) : Calls Try.prog 13 args.toArray w R :=
  calls_of_den (pn := []) (fn := Try.f13) (c := Try.f13.body.getD .skip) Try.func13 (by kernel_rfl) (by rw [Try.ntmps13]; exact hn) (by rw [Try.ntmps13]; exact tr13) (by kernel_rfl) h
def d13 (w0 : Option Addr) (n1 : Int) (w : World) (R : Ending → World → Prop) : Prop :=
 ∃ I2 : Nat → Int → World → Prop,
 (∃ m, I2 m n1 w) ∧
 (∀ (m3 : Nat) (w4 : World) (n5 : Int), I2 m3 n5 w4 →
 (bif (decide (128 ≤ n5)) then
 (optK w0 fun a6 =>
 ∃ (x7 : Option Addr) (x7n : Nat) (x7c : Nat), World.cell? w4 (Addr.add a6 0) = some (.slice x7 x7n x7c) ∧
 ∃ cs8, fillL (.elems 1) (zrep (zc Try.prog 5) (1 * 1)) [(0, (.int .u8 (bOr .u8 (IntKind.wrap .u8 n5) 128)))] = some cs8 ∧
 ∀ w9 : World, w9 = World.alloc w4 (.cells (List.toArray cs8) 5) →
 RunV Try.prog (Builtin.append_ #[29, 29] 29 #[(.slice x7 x7n x7c), (.slice (some ⟨World.heap w4 |>.size, 0, none⟩) 1 1)]) w9 fun v10 w11 => ∃ (x12 : Option Addr) (x12n : Nat) (x12c : Nat), v10 = (.slice x12 x12n x12c) ∧
 optK w0 fun a13 =>
 one (.slice x12 x12n x12c) = true ∧ Option.isSome (World.cell? w11 (Addr.add a13 0)) = true ∧ World.frozen? w11 (Addr.add a13 0) = false ∧
 ∀ w14 : World, w14 = World.setCell w11 (Addr.add a13 0) (.slice x12 x12n x12c) →
 0 ≤ (7 : Int) ∧ ∃ m15, m15 < m3 ∧ I2 m15 (shR .u64 n5 7) w14)
 else
 (optK w0 fun a16 =>
 ∃ (x17 : Option Addr) (x17n : Nat) (x17c : Nat), World.cell? w4 (Addr.add a16 0) = some (.slice x17 x17n x17c) ∧
 ∃ cs18, fillL (.elems 1) (zrep (zc Try.prog 5) (1 * 1)) [(0, (.int .u8 (IntKind.wrap .u8 n5)))] = some cs18 ∧
 ∀ w19 : World, w19 = World.alloc w4 (.cells (List.toArray cs18) 5) →
 RunV Try.prog (Builtin.append_ #[29, 29] 29 #[(.slice x17 x17n x17c), (.slice (some ⟨World.heap w4 |>.size, 0, none⟩) 1 1)]) w19 fun v20 w21 => ∃ (x22 : Option Addr) (x22n : Nat) (x22c : Nat), v20 = (.slice x22 x22n x22c) ∧
 optK w0 fun a23 =>
 one (.slice x22 x22n x22c) = true ∧ Option.isSome (World.cell? w21 (Addr.add a23 0)) = true ∧ World.frozen? w21 (Addr.add a23 0) = false ∧
 ∀ w24 : World, w24 = World.setCell w21 (Addr.add a23 0) (.slice x22 x22n x22c) →
 R (.returned (.tuple #[])) w24)))
theorem e13 (w0 : Option Addr) (n1 : Int) (w : World) (R : Ending → World → Prop) : denS Try.prog s13 (argsEnv 0 [(.pointer w0), (.int .u64 n1)]) w (endK r13 R) = d13 w0 n1 w R := by kernel_rfl
theorem c13 (w0 : Option Addr) (n1 : Int) {w : World} {R : Ending → World → Prop} (h : d13 w0 n1 w R) : Calls Try.prog 13 #[(.pointer w0), (.int .u64 n1)] w R :=
  den13 [(.pointer w0), (.int .u64 n1)] w R (by simp) ((e13 w0 n1 w R).symm ▸ h)

/-- (*prelude/codec.Writer).Int -/
def s19 : S := (.ops [⟨(some 4), (.mv (.tmp 0)), .ptr, none⟩,
  ⟨(some 5), (.mv (.tmp 1)), (.int .i64), none⟩,
  ⟨(some 6), (.cv .u64 (.tmp 5)), (.int .u64), none⟩,
  ⟨(some 7), (.bin .shl (.tmp 6) (.const (.int .u64 1))), (.int .u64), none⟩,
  ⟨(some 8), (.mv (.tmp 1)), (.int .i64), none⟩,
  ⟨(some 9), (.bin .shr (.tmp 8) (.const (.int .u64 63))), (.int .i64), none⟩,
  ⟨(some 10), (.cv .u64 (.tmp 9)), (.int .u64), none⟩,
  ⟨(some 11), (.bin .xor (.tmp 7) (.tmp 10)), (.int .u64), none⟩,
  ⟨(some 12), (.call 13 [(.tmp 4), (.tmp 11)] []), .any, none⟩] [])
def r19 : List Res := []
theorem tr19 : trS Try.prog [] 13 (Try.f19.body.getD .skip) s19 = some s19 := by kernel_rfl
theorem den19 (args : List Value) (w : World) (R : Ending → World → Prop) (hn : args.length ≤ 13) (h : denS Try.prog s19 (argsEnv 0 args) w (endK r19 R)) : Calls Try.prog 19 args.toArray w R :=
  calls_of_den (pn := []) (fn := Try.f19) (c := Try.f19.body.getD .skip) Try.func19 (by kernel_rfl) (by rw [Try.ntmps19]; exact hn) (by rw [Try.ntmps19]; exact tr19) (by kernel_rfl) h
def d19 (w0 : Option Addr) (n1 : Int) (w : World) (R : Ending → World → Prop) : Prop :=
 0 ≤ (1 : Int) ∧ 0 ≤ (63 : Int) ∧ Calls Try.prog 13 #[(.pointer w0), (.int .u64 (bXor .u64 (shL .u64 (IntKind.wrap .u64 n1) 1) (IntKind.wrap .u64 (shR .i64 n1 63))))] w fun e2 w3 => e2 = .returned (.tuple #[]) ∧ R (.returned (.tuple #[])) w3
theorem e19 (w0 : Option Addr) (n1 : Int) (w : World) (R : Ending → World → Prop) : denS Try.prog s19 (argsEnv 0 [(.pointer w0), (.int .i64 n1)]) w (endK r19 R) = d19 w0 n1 w R := by kernel_rfl
theorem c19 (w0 : Option Addr) (n1 : Int) {w : World} {R : Ending → World → Prop} (h : d19 w0 n1 w R) : Calls Try.prog 19 #[(.pointer w0), (.int .i64 n1)] w R :=
  den19 [(.pointer w0), (.int .i64 n1)] w R (by simp) ((e19 w0 n1 w R).symm ▸ h)

/-- (*prelude/codec.Writer).Raw -/
def s16 : S := (.ops [⟨(some 4), (.mv (.tmp 0)), .ptr, none⟩,
  ⟨(some 5), (.mv (.tmp 0)), .ptr, none⟩,
  ⟨(some 6), (.nc (.tmp 5)), .any, none⟩,
  ⟨(some 7), (.fa 0 (.tmp 6)), .ptr, none⟩,
  ⟨(some 8), (.ld1 (.tmp 7)), .sl, none⟩,
  ⟨(some 9), (.mv (.tmp 1)), .sl, none⟩,
  ⟨(some 10), (.app #[29, 29] 29 (.tmp 8) (.tmp 9)), .sl, none⟩,
  ⟨(some 11), (.nc (.tmp 4)), .any, none⟩,
  ⟨(some 12), (.fa 0 (.tmp 11)), .ptr, none⟩,
  ⟨none, (.st1 (.tmp 12) (.tmp 10)), .any, none⟩] [])
def r16 : List Res := []
theorem tr16 : trS Try.prog [] 13 (Try.f16.body.getD .skip) s16 = some s16 := by kernel_rfl
theorem den16 (args : List Value) (w : World) (R : Ending → World → Prop) (hn : args.length ≤ 13) (h : denS Try.prog s16 (argsEnv 0 args) w (endK r16 R)) : Calls Try.prog 16 args.toArray w R :=
  calls_of_den (pn := []) (fn := Try.f16) (c := Try.f16.body.getD .skip) Try.func16 (by kernel_rfl) (by rw [Try.ntmps16]; exact hn) (by rw [Try.ntmps16]; exact tr16) (by kernel_rfl) h
def d16 (w0 : Option Addr) (b1 : Option Addr) (b1n : Nat) (b1c : Nat) (w : World) (R : Ending → World → Prop) : Prop :=
 optK w0 fun a2 =>
 ∃ (x3 : Option Addr) (x3n : Nat) (x3c : Nat), World.cell? w (Addr.add a2 0) = some (.slice x3 x3n x3c) ∧
 RunV Try.prog (Builtin.append_ #[29, 29] 29 #[(.slice x3 x3n x3c), (.slice b1 b1n b1c)]) w fun v4 w5 => ∃ (x6 : Option Addr) (x6n : Nat) (x6c : Nat), v4 = (.slice x6 x6n x6c) ∧
 optK w0 fun a7 =>
 one (.slice x6 x6n x6c) = true ∧ Option.isSome (World.cell? w5 (Addr.add a7 0)) = true ∧ World.frozen? w5 (Addr.add a7 0) = false ∧
 ∀ w8 : World, w8 = World.setCell w5 (Addr.add a7 0) (.slice x6 x6n x6c) →
 R (.returned (.tuple #[])) w8
theorem e16 (w0 : Option Addr) (b1 : Option Addr) (b1n : Nat) (b1c : Nat) (w : World) (R : Ending → World → Prop) : denS Try.prog s16 (argsEnv 0 [(.pointer w0), (.slice b1 b1n b1c)]) w (endK r16 R) = d16 w0 b1 b1n b1c w R := by kernel_rfl
theorem c16 (w0 : Option Addr) (b1 : Option Addr) (b1n : Nat) (b1c : Nat) {w : World} {R : Ending → World → Prop} (h : d16 w0 b1 b1n b1c w R) : Calls Try.prog 16 #[(.pointer w0), (.slice b1 b1n b1c)] w R :=
  den16 [(.pointer w0), (.slice b1 b1n b1c)] w R (by simp) ((e16 w0 b1 b1n b1c w R).symm ▸ h)

/-- (*prelude/codec.Writer).Out -/
def s17 : S := (.seq (.ops [⟨(some 2), (.mv (.const (.slice none 0 0))), .sl, none⟩] [0])
 (.seq (.ops [⟨(some 3), (.mv (.tmp 0)), .ptr, none⟩,
  ⟨(some 4), (.nc (.tmp 3)), .any, none⟩,
  ⟨(some 5), (.fa 0 (.tmp 4)), .ptr, none⟩,
  ⟨(some 6), (.ld1 (.tmp 5)), .sl, none⟩,
  ⟨(some 7), (.call 38 [(.tmp 6)] [.sl]), .sl, none⟩,
  ⟨(some 2), (.mv (.tmp 7)), .sl, none⟩] [2])
 .ret))
def r17 : List Res := [.t 2]
theorem tr17 : trS Try.prog [] 8 (Try.f17.body.getD .skip) s17 = some s17 := by kernel_rfl
theorem den17 (args : List Value) (w : World) (R : Ending → World → Prop) (hn : args.length ≤ 8) (h : denS Try.prog s17 (argsEnv 0 args) w (endK r17 R)) : Calls Try.prog 17 args.toArray w R :=
  calls_of_den (pn := []) (fn := Try.f17) (c := Try.f17.body.getD .skip) Try.func17 (by kernel_rfl) (by rw [Try.ntmps17]; exact hn) (by rw [Try.ntmps17]; exact tr17) (by kernel_rfl) h
def d17 (w0 : Option Addr) (w : World) (R : Ending → World → Prop) : Prop :=
 optK w0 fun a1 =>
 ∃ (x2 : Option Addr) (x2n : Nat) (x2c : Nat), World.cell? w (Addr.add a1 0) = some (.slice x2 x2n x2c) ∧
 Calls Try.prog 38 #[(.slice x2 x2n x2c)] w fun e3 w4 => ∃ (x5 : Option Addr) (x5n : Nat) (x5c : Nat), e3 = .returned (.slice x5 x5n x5c) ∧
 R (.returned (.slice x5 x5n x5c)) w4
theorem e17 (w0 : Option Addr) (w : World) (R : Ending → World → Prop) : denS Try.prog s17 (argsEnv 0 [(.pointer w0)]) w (endK r17 R) = d17 w0 w R := by kernel_rfl
theorem c17 (w0 : Option Addr) {w : World} {R : Ending → World → Prop} (h : d17 w0 w R) : Calls Try.prog 17 #[(.pointer w0)] w R :=
  den17 [(.pointer w0)] w R (by simp) ((e17 w0 w R).symm ▸ h)

/-- prelude/codec.Read -/
def s24 : S := (.seq (.ops [⟨(some 2), (.mv (.const (.pointer none))), .ptr, none⟩] [0])
 (.seq (.ops [⟨(some 3), (.mv (.tmp 0)), .sl, none⟩,
  ⟨(some 4), (.call 38 [(.tmp 3)] [.sl]), .sl, none⟩,
  ⟨(some 5), (.bld 82 (.fields [(0, 1), (1, 1), (2, 1)]) [(0, (.tmp 4))]), .agg, none⟩,
  ⟨(some 6), (.box 82 (.tmp 5)), .ptr, none⟩,
  ⟨(some 2), (.mv (.tmp 6)), .ptr, none⟩] [2])
 .ret))
def r24 : List Res := [.t 2]
theorem tr24 : trS Try.prog [] 7 (Try.f24.body.getD .skip) s24 = some s24 := by kernel_rfl
theorem den24 (args : List Value) (w : World) (R : Ending → World → Prop) (hn : args.length ≤ 7) (h : denS Try.prog s24 (argsEnv 0 args) w (endK r24 R)) : Calls Try.prog 24 args.toArray w R :=
  calls_of_den (pn := []) (fn := Try.f24) (c := Try.f24.body.getD .skip) Try.func24 (by kernel_rfl) (by rw [Try.ntmps24]; exact hn) (by rw [Try.ntmps24]; exact tr24) (by kernel_rfl) h
def d24 (b0 : Option Addr) (b0n : Nat) (b0c : Nat) (w : World) (R : Ending → World → Prop) : Prop :=
 Calls Try.prog 38 #[(.slice b0 b0n b0c)] w fun e1 w2 => ∃ (x3 : Option Addr) (x3n : Nat) (x3c : Nat), e1 = .returned (.slice x3 x3n x3c) ∧
 ∃ cs4, fillL (.fields [(0, 1), (1, 1), (2, 1)]) (zc Try.prog 82) [(0, (.slice x3 x3n x3c))] = some cs4 ∧
 ∀ w5 : World, w5 = World.alloc w2 (.cells (List.toArray cs4) 82) →
 R (.returned (.pointer (some ⟨World.heap w2 |>.size, 0, none⟩))) w5
theorem e24 (b0 : Option Addr) (b0n : Nat) (b0c : Nat) (w : World) (R : Ending → World → Prop) : denS Try.prog s24 (argsEnv 0 [(.slice b0 b0n b0c)]) w (endK r24 R) = d24 b0 b0n b0c w R := by kernel_rfl
theorem c24 (b0 : Option Addr) (b0n : Nat) (b0c : Nat) {w : World} {R : Ending → World → Prop} (h : d24 b0 b0n b0c w R) : Calls Try.prog 24 #[(.slice b0 b0n b0c)] w R :=
  den24 [(.slice b0 b0n b0c)] w R (by simp) ((e24 b0 b0n b0c w R).symm ▸ h)

/-- (*prelude/codec.Reader).Byte -/
def s26 : S := (.seq (.ops [⟨(some 2), (.mv (.const (.int .u8 0))), (.int .u8), none⟩] [0])
 (.seq (.ops [⟨(some 4), (.mv (.tmp 0)), .ptr, none⟩,
  ⟨(some 5), (.call 27 [(.tmp 4), (.const (.int .i64 1))] [.sl]), .sl, none⟩,
  ⟨(some 3), (.mv (.tmp 5)), .sl, none⟩] [3])
 (.seq (.seq (.ops [⟨(some 6), (.mv (.tmp 3)), .sl, none⟩,
  ⟨(some 7), (.len (.tmp 6)), (.int .i64), none⟩,
  ⟨(some 8), (.bin .eql (.tmp 7) (.const (.int .i64 0))), .bool, none⟩] [8, 3])
 (.cond (.tmp 8)
 (.seq (.ops [⟨(some 2), (.mv (.const (.int .u8 0))), (.int .u8), none⟩] [2])
 .ret)
 .skip))
 (.seq (.ops [⟨(some 9), (.mv (.tmp 3)), .sl, none⟩,
  ⟨(some 10), (.ia 1 (.tmp 9) (.const (.int .i64 0))), .ptr, none⟩,
  ⟨(some 11), (.ld1 (.tmp 10)), (.int .u8), none⟩,
  ⟨(some 2), (.mv (.tmp 11)), (.int .u8), none⟩] [2])
 .ret))))
def r26 : List Res := [.t 2]
theorem tr26 : trS Try.prog [] 12 (Try.f26.body.getD .skip) s26 = some s26 := by kernel_rfl
theorem den26 (args : List Value) (w : World) (R : Ending → World → Prop) (hn : args.length ≤ 12) (h : denS Try.prog s26 (argsEnv 0 args) w (endK r26 R)) : Calls Try.prog 26 args.toArray w R :=
  calls_of_den (pn := []) (fn := Try.f26) (c := Try.f26.body.getD .skip) Try.func26 (by kernel_rfl) (by rw [Try.ntmps26]; exact hn) (by rw [Try.ntmps26]; exact tr26) (by kernel_rfl) h
def d26 (r0 : Option Addr) (w : World) (R : Ending → World → Prop) : Prop :=
 Calls Try.prog 27 #[(.pointer r0), (.int .i64 1)] w fun e1 w2 => ∃ (x3 : Option Addr) (x3n : Nat) (x3c : Nat), e1 = .returned (.slice x3 x3n x3c) ∧
 (bif (decide (((x3n : Nat) : Int) = 0)) then
 (R (.returned (.int .u8 0)) w2)
 else
 (0 ≤ (0 : Int) ∧ (0 : Int) < ((x3n : Nat) : Int) ∧ optK x3 fun a4 =>
 ∃ x5 : Int, World.cell? w2 (Addr.add a4 (Int.toNat 0 * 1)) = some (.int .u8 x5) ∧
 R (.returned (.int .u8 x5)) w2))
theorem e26 (r0 : Option Addr) (w : World) (R : Ending → World → Prop) : denS Try.prog s26 (argsEnv 0 [(.pointer r0)]) w (endK r26 R) = d26 r0 w R := by kernel_rfl
theorem c26 (r0 : Option Addr) {w : World} {R : Ending → World → Prop} (h : d26 r0 w R) : Calls Try.prog 26 #[(.pointer r0)] w R :=
  den26 [(.pointer r0)] w R (by simp) ((e26 r0 w R).symm ▸ h)

/-- (*prelude/codec.Reader).uint -/
def s42 : S := (.seq (.ops [⟨(some 4), (.mv (.const (.int .u64 0))), (.int .u64), none⟩,
  ⟨(some 5), (.mv (.const (.int .i64 0))), (.int .i64), none⟩,
  ⟨(some 6), (.mv (.const (.int .i64 0))), (.int .i64), none⟩] [1, 0])
 (.seq (.ops [⟨(some 7), (.mv (.const (.int .u64 0))), (.int .u64), none⟩] [1, 0, 7])
 (.seq (.ops [⟨(some 8), (.mv (.const (.int .i64 0))), (.int .i64), none⟩] [1, 8, 0, 7])
 (.block 0
 (.loop [(7, (.int .u64)), (8, (.int .i64))] [0, 1]
 (.seq (.block 1
 (.seq (.seq (.ops [⟨(some 12), (.mv (.tmp 1)), (.int .i64), none⟩,
  ⟨(some 13), (.mv (.tmp 8)), (.int .i64), none⟩,
  ⟨(some 14), (.bin .add (.tmp 12) (.tmp 13)), (.int .i64), none⟩,
  ⟨(some 15), (.mv (.tmp 0)), .ptr, none⟩,
  ⟨(some 16), (.nc (.tmp 15)), .any, none⟩,
  ⟨(some 17), (.fa 0 (.tmp 16)), .ptr, none⟩,
  ⟨(some 18), (.ld1 (.tmp 17)), .sl, none⟩,
  ⟨(some 19), (.len (.tmp 18)), (.int .i64), none⟩,
  ⟨(some 20), (.bin .geq (.tmp 14) (.tmp 19)), .bool, none⟩] [20, 1, 0, 8, 7])
 (.cond (.tmp 20)
 (.seq (.ops [⟨(some 21), (.mv (.tmp 1)), (.int .i64), none⟩,
  ⟨(some 4), (.mv (.const (.int .u64 0))), (.int .u64), none⟩,
  ⟨(some 5), (.mv (.tmp 21)), (.int .i64), none⟩,
  ⟨(some 6), (.mv (.const (.int .i64 10))), (.int .i64), none⟩] [4, 5, 6])
 .ret)
 .skip))
 (.seq (.ops [⟨(some 22), (.mv (.tmp 0)), .ptr, none⟩,
  ⟨(some 23), (.nc (.tmp 22)), .any, none⟩,
  ⟨(some 24), (.fa 0 (.tmp 23)), .ptr, none⟩,
  ⟨(some 25), (.ld1 (.tmp 24)), .sl, none⟩,
  ⟨(some 26), (.mv (.tmp 1)), (.int .i64), none⟩,
  ⟨(some 27), (.mv (.tmp 8)), (.int .i64), none⟩,
  ⟨(some 28), (.bin .add (.tmp 26) (.tmp 27)), (.int .i64), none⟩,
  ⟨(some 29), (.ia 1 (.tmp 25) (.tmp 28)), .ptr, none⟩,
  ⟨(some 30), (.ld1 (.tmp 29)), (.int .u8), none⟩,
  ⟨(some 9), (.mv (.tmp 30)), (.int .u8), none⟩] [8, 9, 1, 7, 0])
 (.join [] [0, 1, 7, 8, 9]
 (.seq (.ops [⟨(some 31), (.mv (.tmp 8)), (.int .i64), none⟩,
  ⟨(some 32), (.bin .eql (.tmp 31) (.const (.int .i64 9))), .bool, none⟩,
  ⟨(some 33), (.mv (.tmp 32)), .bool, none⟩,
  ⟨(some 34), (.mv (.tmp 9)), (.int .u8), (some (33, true))⟩,
  ⟨(some 35), (.bin .gtr (.tmp 34) (.const (.int .u8 1))), .bool, (some (33, true))⟩,
  ⟨(some 36), (.pick (.tmp 33) (.tmp 35) (.const (.bool false))), .bool, none⟩,
  ⟨(some 37), (.mv (.tmp 36)), .bool, none⟩,
  ⟨(some 38), (.mv (.tmp 8)), (.int .i64), (some (37, false))⟩,
  ⟨(some 39), (.bin .gtr (.tmp 38) (.const (.int .i64 0))), .bool, (some (37, false))⟩,
  ⟨(some 40), (.mv (.tmp 39)), .bool, (some (37, false))⟩,
  ⟨(some 41), (.mv (.tmp 9)), (.int .u8), (some (40, true))⟩,
  ⟨(some 42), (.bin .eql (.tmp 41) (.const (.int .u8 0))), .bool, (some (40, true))⟩,
  ⟨(some 43), (.pick (.tmp 40) (.tmp 42) (.const (.bool false))), .bool, (some (37, false))⟩,
  ⟨(some 44), (.pick (.tmp 37) (.const (.bool true)) (.tmp 43)), .bool, none⟩] [44, 1, 7, 9, 8, 0])
 (.cond (.tmp 44)
 (.seq (.ops [⟨(some 45), (.mv (.tmp 1)), (.int .i64), none⟩,
  ⟨(some 4), (.mv (.const (.int .u64 0))), (.int .u64), none⟩,
  ⟨(some 5), (.mv (.tmp 45)), (.int .i64), none⟩,
  ⟨(some 6), (.mv (.const (.int .i64 11))), (.int .i64), none⟩] [4, 5, 6])
 .ret)
 .skip))
 (.seq (.ops [⟨(some 46), (.mv (.tmp 7)), (.int .u64), none⟩,
  ⟨(some 47), (.mv (.tmp 9)), (.int .u8), none⟩,
  ⟨(some 48), (.bin .and (.tmp 47) (.const (.int .u8 127))), (.int .u8), none⟩,
  ⟨(some 49), (.cv .u64 (.tmp 48)), (.int .u64), none⟩,
  ⟨(some 50), (.mv (.tmp 8)), (.int .i64), none⟩,
  ⟨(some 51), (.bin .mul (.const (.int .i64 7)) (.tmp 50)), (.int .i64), none⟩,
  ⟨(some 52), (.bin .shl (.tmp 49) (.tmp 51)), (.int .u64), none⟩,
  ⟨(some 53), (.bin .or (.tmp 46) (.tmp 52)), (.int .u64), none⟩,
  ⟨(some 7), (.mv (.tmp 53)), (.int .u64), none⟩] [9, 7, 1, 8, 0])
 (.seq (.ops [⟨(some 54), (.mv (.tmp 9)), (.int .u8), none⟩,
  ⟨(some 55), (.bin .lss (.tmp 54) (.const (.int .u8 128))), .bool, none⟩] [55, 7, 1, 8, 0])
 (.cond (.tmp 55)
 (.seq (.ops [⟨(some 56), (.mv (.tmp 7)), (.int .u64), none⟩,
  ⟨(some 57), (.mv (.tmp 1)), (.int .i64), none⟩,
  ⟨(some 58), (.mv (.tmp 8)), (.int .i64), none⟩,
  ⟨(some 59), (.bin .add (.tmp 57) (.tmp 58)), (.int .i64), none⟩,
  ⟨(some 60), (.bin .add (.tmp 59) (.const (.int .i64 1))), (.int .i64), none⟩,
  ⟨(some 4), (.mv (.tmp 56)), (.int .u64), none⟩,
  ⟨(some 5), (.mv (.tmp 60)), (.int .i64), none⟩,
  ⟨(some 6), (.mv (.const (.int .i64 0))), (.int .i64), none⟩] [4, 5, 6])
 .ret)
 .skip)))))))
 (.ops [⟨(some 10), (.mv (.tmp 8)), (.int .i64), none⟩,
  ⟨(some 11), (.bin .add (.tmp 10) (.const (.int .i64 1))), (.int .i64), none⟩,
  ⟨(some 8), (.mv (.tmp 11)), (.int .i64), none⟩] [1, 8, 0, 7])))))))
def r42 : List Res := [.t 4, .t 5, .t 6]
theorem tr42 : trS Try.prog [] 61 (Try.f42.body.getD .skip) s42 = some s42 := by kernel_rfl
theorem den42 (args : List Value) (w : World) (R : Ending → World → Prop) (hn : args.length ≤ 61) (h : denS Try.prog s42 (argsEnv 0 args) w (endK r42 R)) : Calls Try.prog 42 args.toArray w R :=
  calls_of_den (pn := []) (fn := Try.f42) (c := Try.f42.body.getD .skip) Try.func42 (by kernel_rfl) (by rw [Try.ntmps42]; exact hn) (by rw [Try.ntmps42]; exact tr42) (by kernel_rfl) h
def d42 (r0 : Option Addr) (at1 : Int) (w : World) (R : Ending → World → Prop) : Prop :=
 ∃ I2 : Nat → Int → Int → World → Prop,
 (∃ m, I2 m 0 0 w) ∧
 (∀ (m3 : Nat) (w4 : World) (n5 : Int) (i6 : Int), I2 m3 n5 i6 w4 →
 optK r0 fun a7 =>
 ∃ (x8 : Option Addr) (x8n : Nat) (x8c : Nat), World.cell? w4 (Addr.add a7 0) = some (.slice x8 x8n x8c) ∧
 (bif (decide (((x8n : Nat) : Int) ≤ (IntKind.wrap .i64 (at1 + i6)))) then
 (R (.returned (.tuple #[(.int .u64 0), (.int .i64 at1), (.int .i64 10)])) w4)
 else
 (optK r0 fun a9 =>
 ∃ (x10 : Option Addr) (x10n : Nat) (x10c : Nat), World.cell? w4 (Addr.add a9 0) = some (.slice x10 x10n x10c) ∧
 0 ≤ (IntKind.wrap .i64 (at1 + i6)) ∧ (IntKind.wrap .i64 (at1 + i6)) < ((x10n : Nat) : Int) ∧ optK x10 fun a11 =>
 ∃ x12 : Int, World.cell? w4 (Addr.add a11 (Int.toNat (IntKind.wrap .i64 (at1 + i6)) * 1)) = some (.int .u8 x12) ∧
 ∃ J13 : World → Prop,
 ((bif (decide (i6 = 9)) then
 ((bif (decide (1 < x12)) then
 (R (.returned (.tuple #[(.int .u64 0), (.int .i64 at1), (.int .i64 11)])) w4)
 else
 ((bif (decide (0 < i6)) then
 ((bif (decide (x12 = 0)) then
 (R (.returned (.tuple #[(.int .u64 0), (.int .i64 at1), (.int .i64 11)])) w4)
 else
 (J13  w4)))
 else
 (J13  w4)))))
 else
 ((bif (decide (0 < i6)) then
 ((bif (decide (x12 = 0)) then
 (R (.returned (.tuple #[(.int .u64 0), (.int .i64 at1), (.int .i64 11)])) w4)
 else
 (J13  w4)))
 else
 (J13  w4))))) ∧
 (∀ (w14 : World), J13  w14 →
 0 ≤ (IntKind.wrap .i64 (7 * i6)) ∧ (bif (decide (x12 < 128)) then
 (R (.returned (.tuple #[(.int .u64 (bOr .u64 n5 (shL .u64 (IntKind.wrap .u64 (bAnd .u8 x12 127)) (IntKind.wrap .i64 (7 * i6))))), (.int .i64 (IntKind.wrap .i64 ((IntKind.wrap .i64 (at1 + i6)) + 1))), (.int .i64 0)])) w14)
 else
 (∃ m15, m15 < m3 ∧ I2 m15 (bOr .u64 n5 (shL .u64 (IntKind.wrap .u64 (bAnd .u8 x12 127)) (IntKind.wrap .i64 (7 * i6)))) (IntKind.wrap .i64 (i6 + 1)) w14))))))
theorem e42 (r0 : Option Addr) (at1 : Int) (w : World) (R : Ending → World → Prop) : denS Try.prog s42 (argsEnv 0 [(.pointer r0), (.int .i64 at1)]) w (endK r42 R) = d42 r0 at1 w R := by kernel_rfl
theorem c42 (r0 : Option Addr) (at1 : Int) {w : World} {R : Ending → World → Prop} (h : d42 r0 at1 w R) : Calls Try.prog 42 #[(.pointer r0), (.int .i64 at1)] w R :=
  den42 [(.pointer r0), (.int .i64 at1)] w R (by simp) ((e42 r0 at1 w R).symm ▸ h)

/-- (*prelude/codec.Reader).Uint -/
def s43 : S := (.seq (.ops [⟨(some 2), (.mv (.const (.int .u64 0))), (.int .u64), none⟩] [0])
 (.seq (.ops [⟨(some 3), (.mv (.tmp 0)), .ptr, none⟩,
  ⟨(some 4), (.call 25 [(.tmp 3), (.const (.int .u64 18446744073709551615))] [(.int .u64)]), (.int .u64), none⟩,
  ⟨(some 2), (.mv (.tmp 4)), (.int .u64), none⟩] [2])
 .ret))
def r43 : List Res := [.t 2]
theorem tr43 : trS Try.prog [] 5 (Try.f43.body.getD .skip) s43 = some s43 := by kernel_rfl
theorem den43 (args : List Value) (w : World) (R : Ending → World → Prop) (hn : args.length ≤ 5) (h : denS Try.prog s43 (argsEnv 0 args) w (endK r43 R)) : Calls Try.prog 43 args.toArray w R :=
  calls_of_den (pn := []) (fn := Try.f43) (c := Try.f43.body.getD .skip) Try.func43 (by kernel_rfl) (by rw [Try.ntmps43]; exact hn) (by rw [Try.ntmps43]; exact tr43) (by kernel_rfl) h
def d43 (r0 : Option Addr) (w : World) (R : Ending → World → Prop) : Prop :=
 Calls Try.prog 25 #[(.pointer r0), (.int .u64 18446744073709551615)] w fun e1 w2 => ∃ x3 : Int, e1 = .returned (.int .u64 x3) ∧
 R (.returned (.int .u64 x3)) w2
theorem e43 (r0 : Option Addr) (w : World) (R : Ending → World → Prop) : denS Try.prog s43 (argsEnv 0 [(.pointer r0)]) w (endK r43 R) = d43 r0 w R := by kernel_rfl
theorem c43 (r0 : Option Addr) {w : World} {R : Ending → World → Prop} (h : d43 r0 w R) : Calls Try.prog 43 #[(.pointer r0)] w R :=
  den43 [(.pointer r0)] w R (by simp) ((e43 r0 w R).symm ▸ h)

/-- (*prelude/codec.Reader).Upto -/
def s25 : S := (.seq (.ops [⟨(some 4), (.mv (.const (.int .u64 0))), (.int .u64), none⟩] [0, 1])
 (.seq (.seq (.ops [⟨(some 8), (.mv (.tmp 0)), .ptr, none⟩,
  ⟨(some 9), (.nc (.tmp 8)), .any, none⟩,
  ⟨(some 10), (.fa 2 (.tmp 9)), .ptr, none⟩,
  ⟨(some 11), (.ld1 (.tmp 10)), (.int .i64), none⟩,
  ⟨(some 12), (.bin .neq (.tmp 11) (.const (.int .i64 0))), .bool, none⟩] [12, 0, 1])
 (.cond (.tmp 12)
 (.seq (.ops [⟨(some 4), (.mv (.const (.int .u64 0))), (.int .u64), none⟩] [4])
 .ret)
 .skip))
 (.seq (.ops [⟨(some 14), (.mv (.tmp 0)), .ptr, none⟩,
  ⟨(some 15), (.mv (.tmp 0)), .ptr, none⟩,
  ⟨(some 16), (.nc (.tmp 15)), .any, none⟩,
  ⟨(some 17), (.fa 1 (.tmp 16)), .ptr, none⟩,
  ⟨(some 18), (.ld1 (.tmp 17)), (.int .i64), none⟩,
  ⟨(some 19), (.call 42 [(.tmp 14), (.tmp 18)] [(.int .u64), (.int .i64), (.int .i64)]), .any, none⟩,
  ⟨(some 13), (.mv (.tmp 19)), .any, none⟩,
  ⟨(some 20), (.ext 0 (.tmp 13)), (.int .u64), none⟩,
  ⟨(some 21), (.ext 1 (.tmp 13)), (.int .i64), none⟩,
  ⟨(some 22), (.ext 2 (.tmp 13)), (.int .i64), none⟩,
  ⟨(some 5), (.mv (.tmp 20)), (.int .u64), none⟩,
  ⟨(some 6), (.mv (.tmp 21)), (.int .i64), none⟩,
  ⟨(some 7), (.mv (.tmp 22)), (.int .i64), none⟩] [7, 5, 1, 0, 6])
 (.join [(7, (.int .i64))] [0, 5, 6]
 (.seq (.ops [⟨(some 23), (.mv (.tmp 7)), (.int .i64), none⟩,
  ⟨(some 24), (.bin .eql (.tmp 23) (.const (.int .i64 0))), .bool, none⟩,
  ⟨(some 25), (.mv (.tmp 24)), .bool, none⟩,
  ⟨(some 26), (.mv (.tmp 5)), (.int .u64), (some (25, true))⟩,
  ⟨(some 27), (.mv (.tmp 1)), (.int .u64), (some (25, true))⟩,
  ⟨(some 28), (.bin .gtr (.tmp 26) (.tmp 27)), .bool, (some (25, true))⟩,
  ⟨(some 29), (.pick (.tmp 25) (.tmp 28) (.const (.bool false))), .bool, none⟩] [29, 0, 6, 5, 7])
 (.cond (.tmp 29)
 (.ops [⟨(some 7), (.mv (.const (.int .i64 12))), (.int .i64), none⟩] [7, 0, 6, 5])
 .skip))
 (.seq (.seq (.ops [⟨(some 30), (.mv (.tmp 7)), (.int .i64), none⟩,
  ⟨(some 31), (.bin .neq (.tmp 30) (.const (.int .i64 0))), .bool, none⟩] [31, 0, 7, 6, 5])
 (.cond (.tmp 31)
 (.seq (.ops [⟨(some 32), (.mv (.tmp 0)), .ptr, none⟩,
  ⟨(some 33), (.mv (.tmp 7)), (.int .i64), none⟩,
  ⟨(some 34), (.nc (.tmp 32)), .any, none⟩,
  ⟨(some 35), (.fa 2 (.tmp 34)), .ptr, none⟩,
  ⟨none, (.st1 (.tmp 35) (.tmp 33)), .any, none⟩] [])
 (.seq (.ops [⟨(some 4), (.mv (.const (.int .u64 0))), (.int .u64), none⟩] [4])
 .ret))
 .skip))
 (.seq (.ops [⟨(some 36), (.mv (.tmp 0)), .ptr, none⟩,
  ⟨(some 37), (.mv (.tmp 6)), (.int .i64), none⟩,
  ⟨(some 38), (.nc (.tmp 36)), .any, none⟩,
  ⟨(some 39), (.fa 1 (.tmp 38)), .ptr, none⟩,
  ⟨none, (.st1 (.tmp 39) (.tmp 37)), .any, none⟩] [5])
 (.seq (.ops [⟨(some 40), (.mv (.tmp 5)), (.int .u64), none⟩,
  ⟨(some 4), (.mv (.tmp 40)), (.int .u64), none⟩] [4])
 .ret)))))))
def r25 : List Res := [.t 4]
theorem tr25 : trS Try.prog [] 41 (Try.f25.body.getD .skip) s25 = some s25 := by kernel_rfl
theorem den25 (args : List Value) (w : World) (R : Ending → World → Prop) (hn : args.length ≤ 41) (h : denS Try.prog s25 (argsEnv 0 args) w (endK r25 R)) : Calls Try.prog 25 args.toArray w R :=
  calls_of_den (pn := []) (fn := Try.f25) (c := Try.f25.body.getD .skip) Try.func25 (by kernel_rfl) (by rw [Try.ntmps25]; exact hn) (by rw [Try.ntmps25]; exact tr25) (by kernel_rfl) h
def d25 (r0 : Option Addr) (most1 : Int) (w : World) (R : Ending → World → Prop) : Prop :=
 optK r0 fun a2 =>
 ∃ x3 : Int, World.cell? w (Addr.add a2 2) = some (.int .i64 x3) ∧
 (bif (!decide (x3 = 0)) then
 (R (.returned (.int .u64 0)) w)
 else
 (optK r0 fun a4 =>
 ∃ x5 : Int, World.cell? w (Addr.add a4 1) = some (.int .i64 x5) ∧
 Calls Try.prog 42 #[(.pointer r0), (.int .i64 x5)] w fun e6 w7 => ∃ x8 : Int, ∃ x9 : Int, ∃ x10 : Int, e6 = .returned (.tuple #[(.int .u64 x8), (.int .i64 x9), (.int .i64 x10)]) ∧
 ∃ x11 : Int, (#[(.int .u64 x8), (.int .i64 x9), (.int .i64 x10)] : Array Value)[0]? = some (.int .u64 x11) ∧
 ∃ x12 : Int, (#[(.int .u64 x8), (.int .i64 x9), (.int .i64 x10)] : Array Value)[1]? = some (.int .i64 x12) ∧
 ∃ x13 : Int, (#[(.int .u64 x8), (.int .i64 x9), (.int .i64 x10)] : Array Value)[2]? = some (.int .i64 x13) ∧
 ∃ J14 : Int → World → Prop,
 ((bif (decide (x13 = 0)) then
 ((bif (decide (most1 < x11)) then
 (J14 12 w7)
 else
 (J14 x13 w7)))
 else
 (J14 x13 w7))) ∧
 (∀ (w15 : World) (e16 : Int), J14 e16 w15 →
 (bif (!decide (e16 = 0)) then
 (optK r0 fun a17 =>
 one (.int .i64 e16) = true ∧ Option.isSome (World.cell? w15 (Addr.add a17 2)) = true ∧ World.frozen? w15 (Addr.add a17 2) = false ∧
 ∀ w18 : World, w18 = World.setCell w15 (Addr.add a17 2) (.int .i64 e16) →
 R (.returned (.int .u64 0)) w18)
 else
 (optK r0 fun a19 =>
 one (.int .i64 x12) = true ∧ Option.isSome (World.cell? w15 (Addr.add a19 1)) = true ∧ World.frozen? w15 (Addr.add a19 1) = false ∧
 ∀ w20 : World, w20 = World.setCell w15 (Addr.add a19 1) (.int .i64 x12) →
 R (.returned (.int .u64 x11)) w20)))))
theorem e25 (r0 : Option Addr) (most1 : Int) (w : World) (R : Ending → World → Prop) : denS Try.prog s25 (argsEnv 0 [(.pointer r0), (.int .u64 most1)]) w (endK r25 R) = d25 r0 most1 w R := by kernel_rfl
theorem c25 (r0 : Option Addr) (most1 : Int) {w : World} {R : Ending → World → Prop} (h : d25 r0 most1 w R) : Calls Try.prog 25 #[(.pointer r0), (.int .u64 most1)] w R :=
  den25 [(.pointer r0), (.int .u64 most1)] w R (by simp) ((e25 r0 most1 w R).symm ▸ h)

/-- (*prelude/codec.Reader).Int -/
def s30 : S := (.seq (.ops [⟨(some 2), (.mv (.const (.int .i64 0))), (.int .i64), none⟩] [0])
 (.seq (.ops [⟨(some 4), (.mv (.tmp 0)), .ptr, none⟩,
  ⟨(some 5), (.call 43 [(.tmp 4)] [(.int .u64)]), (.int .u64), none⟩,
  ⟨(some 3), (.mv (.tmp 5)), (.int .u64), none⟩] [3])
 (.seq (.ops [⟨(some 6), (.mv (.tmp 3)), (.int .u64), none⟩,
  ⟨(some 7), (.bin .shr (.tmp 6) (.const (.int .u64 1))), (.int .u64), none⟩,
  ⟨(some 8), (.cv .i64 (.tmp 7)), (.int .i64), none⟩,
  ⟨(some 9), (.mv (.tmp 3)), (.int .u64), none⟩,
  ⟨(some 10), (.bin .and (.tmp 9) (.const (.int .u64 1))), (.int .u64), none⟩,
  ⟨(some 11), (.cv .i64 (.tmp 10)), (.int .i64), none⟩,
  ⟨(some 12), (.un .neg (.tmp 11)), (.int .i64), none⟩,
  ⟨(some 13), (.bin .xor (.tmp 8) (.tmp 12)), (.int .i64), none⟩,
  ⟨(some 2), (.mv (.tmp 13)), (.int .i64), none⟩] [2])
 .ret)))
def r30 : List Res := [.t 2]
theorem tr30 : trS Try.prog [] 14 (Try.f30.body.getD .skip) s30 = some s30 := by kernel_rfl
theorem den30 (args : List Value) (w : World) (R : Ending → World → Prop) (hn : args.length ≤ 14) (h : denS Try.prog s30 (argsEnv 0 args) w (endK r30 R)) : Calls Try.prog 30 args.toArray w R :=
  calls_of_den (pn := []) (fn := Try.f30) (c := Try.f30.body.getD .skip) Try.func30 (by kernel_rfl) (by rw [Try.ntmps30]; exact hn) (by rw [Try.ntmps30]; exact tr30) (by kernel_rfl) h
def d30 (r0 : Option Addr) (w : World) (R : Ending → World → Prop) : Prop :=
 Calls Try.prog 43 #[(.pointer r0)] w fun e1 w2 => ∃ x3 : Int, e1 = .returned (.int .u64 x3) ∧
 0 ≤ (1 : Int) ∧ R (.returned (.int .i64 (bXor .i64 (IntKind.wrap .i64 (shR .u64 x3 1)) (IntKind.wrap .i64 (0 - (IntKind.wrap .i64 (bAnd .u64 x3 1))))))) w2
theorem e30 (r0 : Option Addr) (w : World) (R : Ending → World → Prop) : denS Try.prog s30 (argsEnv 0 [(.pointer r0)]) w (endK r30 R) = d30 r0 w R := by kernel_rfl
theorem c30 (r0 : Option Addr) {w : World} {R : Ending → World → Prop} (h : d30 r0 w R) : Calls Try.prog 30 #[(.pointer r0)] w R :=
  den30 [(.pointer r0)] w R (by simp) ((e30 r0 w R).symm ▸ h)

/-- (*prelude/codec.Reader).Raw -/
def s27 : S := (.seq (.ops [⟨(some 4), (.mv (.const (.slice none 0 0))), .sl, none⟩] [0, 1])
 (.seq (.block 0
 (.seq (.ops [⟨(some 6), (.mv (.tmp 0)), .ptr, none⟩,
  ⟨(some 7), (.nc (.tmp 6)), .any, none⟩,
  ⟨(some 8), (.fa 2 (.tmp 7)), .ptr, none⟩,
  ⟨(some 9), (.ld1 (.tmp 8)), (.int .i64), none⟩,
  ⟨(some 10), (.bin .neq (.tmp 9) (.const (.int .i64 0))), .bool, none⟩,
  ⟨(some 5), (.mv (.tmp 10)), .bool, none⟩] [5, 1, 0])
 (.cond (.tmp 5)
 (.seq (.ops [⟨(some 4), (.mv (.const (.slice none 0 0))), .sl, none⟩] [4])
 .ret)
 (.seq (.ops [⟨(some 12), (.mv (.tmp 1)), (.int .i64), none⟩,
  ⟨(some 13), (.bin .lss (.tmp 12) (.const (.int .i64 0))), .bool, none⟩,
  ⟨(some 11), (.mv (.tmp 13)), .bool, none⟩] [11, 0, 1])
 (.cond (.tmp 11)
 (.seq (.ops [⟨(some 14), (.mv (.tmp 0)), .ptr, none⟩,
  ⟨(some 15), (.nc (.tmp 14)), .any, none⟩,
  ⟨(some 16), (.fa 2 (.tmp 15)), .ptr, none⟩,
  ⟨none, (.st1 (.tmp 16) (.const (.int .i64 11))), .any, none⟩] [])
 (.seq (.ops [⟨(some 4), (.mv (.const (.slice none 0 0))), .sl, none⟩] [4])
 .ret))
 (.seq (.draw (.take 0 ⟨(some 18), (.mv (.tmp 1)), (.int .i64), none⟩
  (.take 1 ⟨(some 19), (.mv (.tmp 0)), .ptr, none⟩
  (.take 2 ⟨(some 20), (.nc (.tmp 19)), .any, none⟩
  (.take 3 ⟨(some 21), (.fa 0 (.tmp 20)), .ptr, none⟩
  (.take 4 ⟨(some 22), (.ld1 (.tmp 21)), .sl, none⟩
  (.take 5 ⟨(some 23), (.len (.tmp 22)), (.int .i64), none⟩
  (.take 6 ⟨(some 24), (.mv (.tmp 0)), .ptr, none⟩
  (.take 7 ⟨(some 25), (.nc (.tmp 24)), .any, none⟩
  (.take 8 ⟨(some 26), (.fa 1 (.tmp 25)), .ptr, none⟩
  (.take 9 ⟨(some 27), (.ld1 (.tmp 26)), (.int .i64), none⟩
  (.take 10 ⟨(some 28), (.bin .sub (.tmp 23) (.tmp 27)), (.int .i64), none⟩
  (.take 11 ⟨(some 29), (.bin .gtr (.tmp 18) (.tmp 28)), .bool, none⟩
  (.take 12 ⟨(some 17), (.mv (.tmp 29)), .bool, none⟩
  .done))))))))))))) [17, 0, 1])
 (.cond (.tmp 17)
 (.seq (.ops [⟨(some 30), (.mv (.tmp 0)), .ptr, none⟩,
  ⟨(some 31), (.nc (.tmp 30)), .any, none⟩,
  ⟨(some 32), (.fa 2 (.tmp 31)), .ptr, none⟩,
  ⟨none, (.st1 (.tmp 32) (.const (.int .i64 10))), .any, none⟩] [])
 (.seq (.ops [⟨(some 4), (.mv (.const (.slice none 0 0))), .sl, none⟩] [4])
 .ret))
 .skip)))))))
 (.seq (.ops [⟨(some 33), (.mv (.tmp 0)), .ptr, none⟩,
  ⟨(some 34), (.nc (.tmp 33)), .any, none⟩,
  ⟨(some 35), (.fa 1 (.tmp 34)), .ptr, none⟩,
  ⟨(some 36), (.ld1 (.tmp 35)), (.int .i64), none⟩,
  ⟨(some 37), (.mv (.tmp 1)), (.int .i64), none⟩,
  ⟨(some 38), (.bin .add (.tmp 36) (.tmp 37)), (.int .i64), none⟩,
  ⟨(some 39), (.nc (.tmp 33)), .any, none⟩,
  ⟨(some 40), (.fa 1 (.tmp 39)), .ptr, none⟩,
  ⟨none, (.st1 (.tmp 40) (.tmp 38)), .any, none⟩] [0, 1])
 (.seq (.draw (.take 0 ⟨(some 41), (.mv (.tmp 0)), .ptr, none⟩
  (.take 1 ⟨(some 42), (.nc (.tmp 41)), .any, none⟩
  (.take 2 ⟨(some 43), (.fa 0 (.tmp 42)), .ptr, none⟩
  (.take 3 ⟨(some 44), (.ld1 (.tmp 43)), .sl, none⟩
  (.take 4 ⟨(some 45), (.mv (.tmp 0)), .ptr, none⟩
  (.take 5 ⟨(some 46), (.nc (.tmp 45)), .any, none⟩
  (.take 6 ⟨(some 47), (.fa 1 (.tmp 46)), .ptr, none⟩
  (.take 7 ⟨(some 48), (.ld1 (.tmp 47)), (.int .i64), none⟩
  (.take 8 ⟨(some 49), (.mv (.tmp 1)), (.int .i64), none⟩
  (.take 9 ⟨(some 50), (.bin .sub (.tmp 48) (.tmp 49)), (.int .i64), none⟩
  (.take 10 ⟨(some 51), (.mv (.tmp 0)), .ptr, none⟩
  (.take 11 ⟨(some 52), (.nc (.tmp 51)), .any, none⟩
  (.take 12 ⟨(some 53), (.fa 1 (.tmp 52)), .ptr, none⟩
  (.take 13 ⟨(some 54), (.ld1 (.tmp 53)), (.int .i64), none⟩
  (.take 14 ⟨(some 55), (.slS 1 (.tmp 44) (some (.tmp 50)) (some (.tmp 54)) none), .sl, none⟩
  (.go 15 ⟨(some 56), (.call 38 [(.tmp 55)] [.sl]), .sl, none⟩ []
  (.take 16 ⟨(some 4), (.mv (.tmp 56)), .sl, none⟩
  .done))))))))))))))))) [4])
 .ret))))
def r27 : List Res := [.t 4]
theorem tr27 : trS Try.prog [] 57 (Try.f27.body.getD .skip) s27 = some s27 := by kernel_rfl
theorem den27 (args : List Value) (w : World) (R : Ending → World → Prop) (hn : args.length ≤ 57) (h : denS Try.prog s27 (argsEnv 0 args) w (endK r27 R)) : Calls Try.prog 27 args.toArray w R :=
  calls_of_den (pn := []) (fn := Try.f27) (c := Try.f27.body.getD .skip) Try.func27 (by kernel_rfl) (by rw [Try.ntmps27]; exact hn) (by rw [Try.ntmps27]; exact tr27) (by kernel_rfl) h
def d27 (r0 : Option Addr) (n1 : Int) (w : World) (R : Ending → World → Prop) : Prop :=
 optK r0 fun a2 =>
 ∃ x3 : Int, World.cell? w (Addr.add a2 2) = some (.int .i64 x3) ∧
 (bif (!decide (x3 = 0)) then
 (R (.returned (.slice none 0 0)) w)
 else
 ((bif (decide (n1 < 0)) then
 (optK r0 fun a4 =>
 one (.int .i64 11) = true ∧ Option.isSome (World.cell? w (Addr.add a4 2)) = true ∧ World.frozen? w (Addr.add a4 2) = false ∧
 ∀ w5 : World, w5 = World.setCell w (Addr.add a4 2) (.int .i64 11) →
 R (.returned (.slice none 0 0)) w5)
 else
 (∀ w6 : World, w6 = World.drew w →
 optK r0 fun a7 =>
 ∃ (x8 : Option Addr) (x8n : Nat) (x8c : Nat), World.cell? w6 (Addr.add a7 0) = some (.slice x8 x8n x8c) ∧
 optK r0 fun a9 =>
 ∃ x10 : Int, World.cell? w6 (Addr.add a9 1) = some (.int .i64 x10) ∧
 (bif (decide ((IntKind.wrap .i64 (((x8n : Nat) : Int) - x10)) < n1)) then
 (optK r0 fun a11 =>
 one (.int .i64 10) = true ∧ Option.isSome (World.cell? w6 (Addr.add a11 2)) = true ∧ World.frozen? w6 (Addr.add a11 2) = false ∧
 ∀ w12 : World, w12 = World.setCell w6 (Addr.add a11 2) (.int .i64 10) →
 R (.returned (.slice none 0 0)) w12)
 else
 (optK r0 fun a13 =>
 ∃ x14 : Int, World.cell? w6 (Addr.add a13 1) = some (.int .i64 x14) ∧
 optK r0 fun a15 =>
 one (.int .i64 (IntKind.wrap .i64 (x14 + n1))) = true ∧ Option.isSome (World.cell? w6 (Addr.add a15 1)) = true ∧ World.frozen? w6 (Addr.add a15 1) = false ∧
 ∀ w16 : World, w16 = World.setCell w6 (Addr.add a15 1) (.int .i64 (IntKind.wrap .i64 (x14 + n1))) →
 ∀ w17 : World, w17 = World.drew w16 →
 optK r0 fun a18 =>
 ∃ (x19 : Option Addr) (x19n : Nat) (x19c : Nat), World.cell? w17 (Addr.add a18 0) = some (.slice x19 x19n x19c) ∧
 optK r0 fun a20 =>
 ∃ x21 : Int, World.cell? w17 (Addr.add a20 1) = some (.int .i64 x21) ∧
 optK r0 fun a22 =>
 ∃ x23 : Int, World.cell? w17 (Addr.add a22 1) = some (.int .i64 x23) ∧
 0 ≤ x23 ∧ x23 ≤ ((x19c : Nat) : Int) ∧ 0 ≤ (IntKind.wrap .i64 (x21 - n1)) ∧ (IntKind.wrap .i64 (x21 - n1)) ≤ (((Int.toNat x23) : Nat) : Int) ∧ Calls Try.prog 38 #[(.slice (if x19c = (Int.toNat (IntKind.wrap .i64 (x21 - n1))) then x19 else Option.map (fun y => Addr.add y ((Int.toNat (IntKind.wrap .i64 (x21 - n1))) * 1)) x19) ((Int.toNat x23) - (Int.toNat (IntKind.wrap .i64 (x21 - n1)))) (x19c - (Int.toNat (IntKind.wrap .i64 (x21 - n1)))))] w17 fun e24 w25 => ∃ (x26 : Option Addr) (x26n : Nat) (x26c : Nat), e24 = .returned (.slice x26 x26n x26c) ∧
 R (.returned (.slice x26 x26n x26c)) w25))))))
theorem e27 (r0 : Option Addr) (n1 : Int) (w : World) (R : Ending → World → Prop) : denS Try.prog s27 (argsEnv 0 [(.pointer r0), (.int .i64 n1)]) w (endK r27 R) = d27 r0 n1 w R := by kernel_rfl
theorem c27 (r0 : Option Addr) (n1 : Int) {w : World} {R : Ending → World → Prop} (h : d27 r0 n1 w R) : Calls Try.prog 27 #[(.pointer r0), (.int .i64 n1)] w R :=
  den27 [(.pointer r0), (.int .i64 n1)] w R (by simp) ((e27 r0 n1 w R).symm ▸ h)

-- no body
/-- (*prelude/codec.Reader).Fail -/
def s28 : S := (.seq (.ops [⟨(some 4), (.mv (.tmp 0)), .ptr, none⟩,
  ⟨(some 5), (.nc (.tmp 4)), .any, none⟩,
  ⟨(some 6), (.fa 2 (.tmp 5)), .ptr, none⟩,
  ⟨(some 7), (.ld1 (.tmp 6)), (.int .i64), none⟩,
  ⟨(some 8), (.bin .eql (.tmp 7) (.const (.int .i64 0))), .bool, none⟩] [8, 0, 1])
 (.cond (.tmp 8)
 (.ops [⟨(some 9), (.mv (.tmp 0)), .ptr, none⟩,
  ⟨(some 10), (.mv (.tmp 1)), (.int .i64), none⟩,
  ⟨(some 11), (.nc (.tmp 9)), .any, none⟩,
  ⟨(some 12), (.fa 2 (.tmp 11)), .ptr, none⟩,
  ⟨none, (.st1 (.tmp 12) (.tmp 10)), .any, none⟩] [])
 .skip))
def r28 : List Res := []
theorem tr28 : trS Try.prog [] 13 (Try.f28.body.getD .skip) s28 = some s28 := by kernel_rfl
theorem den28 (args : List Value) (w : World) (R : Ending → World → Prop) (hn : args.length ≤ 13) (h : denS Try.prog s28 (argsEnv 0 args) w (endK r28 R)) : Calls Try.prog 28 args.toArray w R :=
  calls_of_den (pn := []) (fn := Try.f28) (c := Try.f28.body.getD .skip) Try.func28 (by kernel_rfl) (by rw [Try.ntmps28]; exact hn) (by rw [Try.ntmps28]; exact tr28) (by kernel_rfl) h
def d28 (r0 : Option Addr) (e1 : Int) (w : World) (R : Ending → World → Prop) : Prop :=
 optK r0 fun a2 =>
 ∃ x3 : Int, World.cell? w (Addr.add a2 2) = some (.int .i64 x3) ∧
 (bif (decide (x3 = 0)) then
 (optK r0 fun a4 =>
 one (.int .i64 e1) = true ∧ Option.isSome (World.cell? w (Addr.add a4 2)) = true ∧ World.frozen? w (Addr.add a4 2) = false ∧
 ∀ w5 : World, w5 = World.setCell w (Addr.add a4 2) (.int .i64 e1) →
 R (.returned (.tuple #[])) w5)
 else
 (R (.returned (.tuple #[])) w))
theorem e28 (r0 : Option Addr) (e1 : Int) (w : World) (R : Ending → World → Prop) : denS Try.prog s28 (argsEnv 0 [(.pointer r0), (.int .i64 e1)]) w (endK r28 R) = d28 r0 e1 w R := by kernel_rfl
theorem c28 (r0 : Option Addr) (e1 : Int) {w : World} {R : Ending → World → Prop} (h : d28 r0 e1 w R) : Calls Try.prog 28 #[(.pointer r0), (.int .i64 e1)] w R :=
  den28 [(.pointer r0), (.int .i64 e1)] w R (by simp) ((e28 r0 e1 w R).symm ▸ h)

/-- (*prelude/codec.Reader).End -/
def s31 : S := (.seq (.ops [⟨(some 2), (.mv (.const (.int .i64 0))), (.int .i64), none⟩] [0])
 (.seq (.seq (.draw (.take 0 ⟨(some 3), (.mv (.tmp 0)), .ptr, none⟩
  (.take 1 ⟨(some 4), (.nc (.tmp 3)), .any, none⟩
  (.take 2 ⟨(some 5), (.fa 2 (.tmp 4)), .ptr, none⟩
  (.take 3 ⟨(some 6), (.ld1 (.tmp 5)), (.int .i64), none⟩
  (.take 4 ⟨(some 7), (.bin .eql (.tmp 6) (.const (.int .i64 0))), .bool, none⟩
  (.take 5 ⟨(some 8), (.mv (.tmp 7)), .bool, none⟩
  (.take 6 ⟨(some 9), (.mv (.tmp 0)), .ptr, (some (8, true))⟩
  (.take 7 ⟨(some 10), (.nc (.tmp 9)), .any, (some (8, true))⟩
  (.take 8 ⟨(some 11), (.fa 1 (.tmp 10)), .ptr, (some (8, true))⟩
  (.take 9 ⟨(some 12), (.ld1 (.tmp 11)), (.int .i64), (some (8, true))⟩
  (.take 10 ⟨(some 13), (.mv (.tmp 0)), .ptr, (some (8, true))⟩
  (.take 11 ⟨(some 14), (.nc (.tmp 13)), .any, (some (8, true))⟩
  (.take 12 ⟨(some 15), (.fa 0 (.tmp 14)), .ptr, (some (8, true))⟩
  (.take 13 ⟨(some 16), (.ld1 (.tmp 15)), .sl, (some (8, true))⟩
  (.take 14 ⟨(some 17), (.len (.tmp 16)), (.int .i64), (some (8, true))⟩
  (.take 15 ⟨(some 18), (.bin .lss (.tmp 12) (.tmp 17)), .bool, (some (8, true))⟩
  (.take 16 ⟨(some 19), (.pick (.tmp 8) (.tmp 18) (.const (.bool false))), .bool, none⟩
  .done))))))))))))))))) [19, 0])
 (.cond (.tmp 19)
 (.seq (.ops [⟨(some 2), (.mv (.const (.int .i64 11))), (.int .i64), none⟩] [2])
 .ret)
 .skip))
 (.seq (.ops [⟨(some 20), (.mv (.tmp 0)), .ptr, none⟩,
  ⟨(some 21), (.nc (.tmp 20)), .any, none⟩,
  ⟨(some 22), (.fa 2 (.tmp 21)), .ptr, none⟩,
  ⟨(some 23), (.ld1 (.tmp 22)), (.int .i64), none⟩,
  ⟨(some 2), (.mv (.tmp 23)), (.int .i64), none⟩] [2])
 .ret)))
def r31 : List Res := [.t 2]
theorem tr31 : trS Try.prog [] 24 (Try.f31.body.getD .skip) s31 = some s31 := by kernel_rfl
theorem den31 (args : List Value) (w : World) (R : Ending → World → Prop) (hn : args.length ≤ 24) (h : denS Try.prog s31 (argsEnv 0 args) w (endK r31 R)) : Calls Try.prog 31 args.toArray w R :=
  calls_of_den (pn := []) (fn := Try.f31) (c := Try.f31.body.getD .skip) Try.func31 (by kernel_rfl) (by rw [Try.ntmps31]; exact hn) (by rw [Try.ntmps31]; exact tr31) (by kernel_rfl) h
def d31 (r0 : Option Addr) (w : World) (R : Ending → World → Prop) : Prop :=
 ∀ w1 : World, w1 = World.drew w →
 optK r0 fun a2 =>
 ∃ x3 : Int, World.cell? w1 (Addr.add a2 2) = some (.int .i64 x3) ∧
 (bif (decide (x3 = 0)) then
 (optK r0 fun a4 =>
 ∃ x5 : Int, World.cell? w1 (Addr.add a4 1) = some (.int .i64 x5) ∧
 optK r0 fun a6 =>
 ∃ (x7 : Option Addr) (x7n : Nat) (x7c : Nat), World.cell? w1 (Addr.add a6 0) = some (.slice x7 x7n x7c) ∧
 (bif (decide (x5 < ((x7n : Nat) : Int))) then
 (R (.returned (.int .i64 11)) w1)
 else
 (optK r0 fun a8 =>
 ∃ x9 : Int, World.cell? w1 (Addr.add a8 2) = some (.int .i64 x9) ∧
 R (.returned (.int .i64 x9)) w1)))
 else
 (optK r0 fun a10 =>
 ∃ x11 : Int, World.cell? w1 (Addr.add a10 2) = some (.int .i64 x11) ∧
 R (.returned (.int .i64 x11)) w1))
theorem e31 (r0 : Option Addr) (w : World) (R : Ending → World → Prop) : denS Try.prog s31 (argsEnv 0 [(.pointer r0)]) w (endK r31 R) = d31 r0 w R := by kernel_rfl
theorem c31 (r0 : Option Addr) {w : World} {R : Ending → World → Prop} (h : d31 r0 w R) : Calls Try.prog 31 #[(.pointer r0)] w R :=
  den31 [(.pointer r0)] w R (by simp) ((e31 r0 w R).symm ▸ h)

/-- slices.Clone[[]byte,byte] -/
def s38 : S := (.seq (.ops [⟨(some 2), (.mv (.const (.slice none 0 0))), .sl, none⟩] [0])
 (.seq (.seq (.ops [⟨(some 3), (.mv (.tmp 0)), .sl, none⟩,
  ⟨(some 4), (.nilEq false 0 (.tmp 3)), .bool, none⟩] [4, 0])
 (.cond (.tmp 4)
 (.seq (.ops [⟨(some 2), (.mv (.const (.slice none 0 0))), .sl, none⟩] [2])
 .ret)
 .skip))
 (.seq (.ops [⟨(some 5), (.bld0 5 0), .sl, none⟩,
  ⟨(some 6), (.mv (.tmp 0)), .sl, none⟩,
  ⟨(some 7), (.app #[29, 29] 29 (.tmp 5) (.tmp 6)), .sl, none⟩,
  ⟨(some 2), (.mv (.tmp 7)), .sl, none⟩] [2])
 .ret)))
def r38 : List Res := [.t 2]
theorem tr38 : trS Try.prog [] 8 (Try.f38.body.getD .skip) s38 = some s38 := by kernel_rfl
theorem den38 (args : List Value) (w : World) (R : Ending → World → Prop) (hn : args.length ≤ 8) (h : denS Try.prog s38 (argsEnv 0 args) w (endK r38 R)) : Calls Try.prog 38 args.toArray w R :=
  calls_of_den (pn := []) (fn := Try.f38) (c := Try.f38.body.getD .skip) Try.func38 (by kernel_rfl) (by rw [Try.ntmps38]; exact hn) (by rw [Try.ntmps38]; exact tr38) (by kernel_rfl) h
def d38 (s0 : Option Addr) (s0n : Nat) (s0c : Nat) (w : World) (R : Ending → World → Prop) : Prop :=
 (bif (Option.isNone s0) then
 (R (.returned (.slice none 0 0)) w)
 else
 (∀ w1 : World, w1 = World.alloc w (.cells #[] 5) →
 RunV Try.prog (Builtin.append_ #[29, 29] 29 #[(.slice (some ⟨World.heap w |>.size, 0, none⟩) 0 0), (.slice s0 s0n s0c)]) w1 fun v2 w3 => ∃ (x4 : Option Addr) (x4n : Nat) (x4c : Nat), v2 = (.slice x4 x4n x4c) ∧
 R (.returned (.slice x4 x4n x4c)) w3))
theorem e38 (s0 : Option Addr) (s0n : Nat) (s0c : Nat) (w : World) (R : Ending → World → Prop) : denS Try.prog s38 (argsEnv 0 [(.slice s0 s0n s0c)]) w (endK r38 R) = d38 s0 s0n s0c w R := by kernel_rfl
theorem c38 (s0 : Option Addr) (s0n : Nat) (s0c : Nat) {w : World} {R : Ending → World → Prop} (h : d38 s0 s0n s0c w R) : Calls Try.prog 38 #[(.slice s0 s0n s0c)] w R :=
  den38 [(.slice s0 s0n s0c)] w R (by simp) ((e38 s0 s0n s0c w R).symm ▸ h)

end Go.Proofs.Ytjkbjppopdfggaa.Fn
