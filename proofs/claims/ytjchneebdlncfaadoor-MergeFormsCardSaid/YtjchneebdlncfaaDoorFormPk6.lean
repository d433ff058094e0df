/-
  THE CODE of some functions of the given program, resolved, and proved to ask what the readable texts (d..) say; contracts c.. follow. Printed by a small program of mine.
  slices.Clone OF BYTES: its contract.
  A WRITER OF BYTES: contracts of New, Byte, Uint, Int, Raw, Bytes, Len, Out.
  THE CODE of some functions of the given program, resolved, and proved to ask what the readable texts (d..) say; contracts c.. follow. Printed by a small program of mine.
  Own work. No macro, syntax, notation, axiom.
-/
import Derived.Test.YtjchneebdlncfaaDoorFormPk3
import Derived.Test.YtjchneebdlncfaaDoorProg
import Derived.Test.YtjchneebdlncfaaDoorFormPk4
import Derived.Test.YtjchneebdlncfaaDoorFormPk5
set_option maxRecDepth 100000
namespace Go.Proofs.YtjchneebdlncfaaDoor.Fn
open Go Den
/-- prelude/codec.New -/
def s30 : S := (.seq (.ops [⟨(some 0), (.mv (.const (.pointer none))), .ptr, none⟩] [])
 (.seq (.ops [⟨(some 1), (.bld 132 (.fields [(0, 1)]) []), .agg, none⟩,
  ⟨(some 2), (.box 132 (.tmp 1)), .ptr, none⟩,
  ⟨(some 0), (.mv (.tmp 2)), .ptr, none⟩] [0])
 .ret))
def r30 : List Res := [.t 0]
theorem tr30 : trS Tryd.prog [] 3 (Tryd.f30.body.getD .skip) s30 = some s30 := by kernel_rfl
theorem den30 (args : List Value) (w : World) (R : Ending → World → Prop) (hn : args.length ≤ 3) (h : denS Tryd.prog s30 (argsEnv 0 args) w (endK r30 R)) : Calls Tryd.prog 30 args.toArray w R :=
  calls_of_den (pn := []) (fn := Tryd.f30) (c := Tryd.f30.body.getD .skip) Tryd.func30 (by kernel_rfl) (by rw [Tryd.ntmps30]; exact hn) (by rw [Tryd.ntmps30]; exact tr30) (by kernel_rfl) h
def d30 (w : World) (R : Ending → World → Prop) : Prop :=
 ∃ cs0, fillL (.fields [(0, 1)]) (zc Tryd.prog 132) [] = some cs0 ∧
 ∀ w1 : World, w1 = World.alloc w (.cells (List.toArray cs0) 132) →
 R (.returned (.pointer (some ⟨World.heap w |>.size, 0, none⟩))) w1
theorem e30 (w : World) (R : Ending → World → Prop) : denS Tryd.prog s30 (argsEnv 0 []) w (endK r30 R) = d30  w R := by kernel_rfl
theorem c30 {w : World} {R : Ending → World → Prop} (h : d30  w R) : Calls Tryd.prog 30 #[] w R :=
  den30 [] w R (by simp) ((e30  w R).symm ▸ h)

-- no body
/-- (*prelude/codec.Writer).Uint -/
def s31 : S := (.seq (.block 0
 (.loop [(1, (.int .u64))] [0]
 (.seq (.seq (.ops [⟨(some 4), (.mv (.tmp 1)), (.int .u64), none⟩,
  ⟨(some 5), (.bin .geq (.tmp 4) (.const (.int .u64 128))), .bool, none⟩] [5, 0, 1])
 (.cond (.tmp 5)
 .skip
 (.exit 0)))
 (.block 1
 (.seq (.ops [⟨(some 6), (.mv (.tmp 0)), .ptr, none⟩,
  ⟨(some 7), (.mv (.tmp 0)), .ptr, none⟩,
  ⟨(some 8), (.nc (.tmp 7)), .any, none⟩,
  ⟨(some 9), (.fa 0 (.tmp 8)), .ptr, none⟩,
  ⟨(some 10), (.ld1 (.tmp 9)), .sl, none⟩,
  ⟨(some 11), (.mv (.tmp 1)), (.int .u64), none⟩,
  ⟨(some 12), (.cv .u8 (.tmp 11)), (.int .u8), none⟩,
  ⟨(some 13), (.bin .or (.tmp 12) (.const (.int .u8 128))), (.int .u8), none⟩,
  ⟨(some 14), (.bldS 5 1 1 [(0, (.tmp 13))]), .sl, none⟩,
  ⟨(some 15), (.app #[22, 22] 22 (.tmp 10) (.tmp 14)), .sl, none⟩,
  ⟨(some 16), (.nc (.tmp 6)), .any, none⟩,
  ⟨(some 17), (.fa 0 (.tmp 16)), .ptr, none⟩,
  ⟨none, (.st1 (.tmp 17) (.tmp 15)), .any, none⟩] [1, 0])
 (.ops [⟨(some 18), (.mv (.tmp 1)), (.int .u64), none⟩,
  ⟨(some 19), (.bin .shr (.tmp 18) (.const (.int .u64 7))), (.int .u64), none⟩,
  ⟨(some 1), (.mv (.tmp 19)), (.int .u64), none⟩] [1, 0]))))))
 (.ops [⟨(some 20), (.mv (.tmp 0)), .ptr, none⟩,
  ⟨(some 21), (.mv (.tmp 0)), .ptr, none⟩,
  ⟨(some 22), (.nc (.tmp 21)), .any, none⟩,
  ⟨(some 23), (.fa 0 (.tmp 22)), .ptr, none⟩,
  ⟨(some 24), (.ld1 (.tmp 23)), .sl, none⟩,
  ⟨(some 25), (.mv (.tmp 1)), (.int .u64), none⟩,
  ⟨(some 26), (.cv .u8 (.tmp 25)), (.int .u8), none⟩,
  ⟨(some 27), (.bldS 5 1 1 [(0, (.tmp 26))]), .sl, none⟩,
  ⟨(some 28), (.app #[22, 22] 22 (.tmp 24) (.tmp 27)), .sl, none⟩,
  ⟨(some 29), (.nc (.tmp 20)), .any, none⟩,
  ⟨(some 30), (.fa 0 (.tmp 29)), .ptr, none⟩,
  ⟨none, (.st1 (.tmp 30) (.tmp 28)), .any, none⟩] []))
def r31 : List Res := []
theorem tr31 : trS Tryd.prog [] 31 (Tryd.f31.body.getD .skip) s31 = some s31 := by kernel_rfl
theorem den31 (args : List Value) (w : World) (R : Ending → World → Prop) (hn : args.length ≤ 31) (h : denS Tryd.prog s31 (argsEnv 0 args) w (endK r31 R)) : Calls Tryd.prog 31 args.toArray w R :=
  calls_of_den (pn := []) (fn := Tryd.f31) (c := Tryd.f31.body.getD .skip) Tryd.func31 (by kernel_rfl) (by rw [Tryd.ntmps31]; exact hn) (by rw [Tryd.ntmps31]; exact tr31) (by kernel_rfl) h
def d31 (w0 : Option Addr) (n1 : Int) (w : World) (R : Ending → World → Prop) : Prop :=
 ∃ I2 : Nat → Int → World → Prop,
 (∃ m, I2 m n1 w) ∧
 (∀ (m3 : Nat) (w4 : World) (n5 : Int), I2 m3 n5 w4 →
 (bif (decide (128 ≤ n5)) then
 (optK w0 fun a6 =>
 ∃ (x7 : Option Addr) (x7n : Nat) (x7c : Nat), World.cell? w4 (Addr.add a6 0) = some (.slice x7 x7n x7c) ∧
 ∃ cs8, fillL (.elems 1) (zrep (zc Tryd.prog 5) (1 * 1)) [(0, (.int .u8 (bOr .u8 (IntKind.wrap .u8 n5) 128)))] = some cs8 ∧
 ∀ w9 : World, w9 = World.alloc w4 (.cells (List.toArray cs8) 5) →
 RunV Tryd.prog (Builtin.append_ #[22, 22] 22 #[(.slice x7 x7n x7c), (.slice (some ⟨World.heap w4 |>.size, 0, none⟩) 1 1)]) w9 fun v10 w11 => ∃ (x12 : Option Addr) (x12n : Nat) (x12c : Nat), v10 = (.slice x12 x12n x12c) ∧
 optK w0 fun a13 =>
 one (.slice x12 x12n x12c) = true ∧ Option.isSome (World.cell? w11 (Addr.add a13 0)) = true ∧ World.frozen? w11 (Addr.add a13 0) = false ∧
 ∀ w14 : World, w14 = World.setCell w11 (Addr.add a13 0) (.slice x12 x12n x12c) →
 0 ≤ (7 : Int) ∧ ∃ m15, m15 < m3 ∧ I2 m15 (shR .u64 n5 7) w14)
 else
 (optK w0 fun a16 =>
 ∃ (x17 : Option Addr) (x17n : Nat) (x17c : Nat), World.cell? w4 (Addr.add a16 0) = some (.slice x17 x17n x17c) ∧
 ∃ cs18, fillL (.elems 1) (zrep (zc Tryd.prog 5) (1 * 1)) [(0, (.int .u8 (IntKind.wrap .u8 n5)))] = some cs18 ∧
 ∀ w19 : World, w19 = World.alloc w4 (.cells (List.toArray cs18) 5) →
 RunV Tryd.prog (Builtin.append_ #[22, 22] 22 #[(.slice x17 x17n x17c), (.slice (some ⟨World.heap w4 |>.size, 0, none⟩) 1 1)]) w19 fun v20 w21 => ∃ (x22 : Option Addr) (x22n : Nat) (x22c : Nat), v20 = (.slice x22 x22n x22c) ∧
 optK w0 fun a23 =>
 one (.slice x22 x22n x22c) = true ∧ Option.isSome (World.cell? w21 (Addr.add a23 0)) = true ∧ World.frozen? w21 (Addr.add a23 0) = false ∧
 ∀ w24 : World, w24 = World.setCell w21 (Addr.add a23 0) (.slice x22 x22n x22c) →
 R (.returned (.tuple #[])) w24)))
theorem e31 (w0 : Option Addr) (n1 : Int) (w : World) (R : Ending → World → Prop) : denS Tryd.prog s31 (argsEnv 0 [(.pointer w0), (.int .u64 n1)]) w (endK r31 R) = d31 w0 n1 w R := by kernel_rfl
theorem c31 (w0 : Option Addr) (n1 : Int) {w : World} {R : Ending → World → Prop} (h : d31 w0 n1 w R) : Calls Tryd.prog 31 #[(.pointer w0), (.int .u64 n1)] w R :=
  den31 [(.pointer w0), (.int .u64 n1)] w R (by simp) ((e31 w0 n1 w R).symm ▸ h)

/-- (*prelude/codec.Writer).Int -/
def s67 : S := (.ops [⟨(some 4), (.mv (.tmp 0)), .ptr, none⟩,
  ⟨(some 5), (.mv (.tmp 1)), (.int .i64), none⟩,
  ⟨(some 6), (.cv .u64 (.tmp 5)), (.int .u64), none⟩,
  ⟨(some 7), (.bin .shl (.tmp 6) (.const (.int .u64 1))), (.int .u64), none⟩,
  ⟨(some 8), (.mv (.tmp 1)), (.int .i64), none⟩,
  ⟨(some 9), (.bin .shr (.tmp 8) (.const (.int .u64 63))), (.int .i64), none⟩,
  ⟨(some 10), (.cv .u64 (.tmp 9)), (.int .u64), none⟩,
  ⟨(some 11), (.bin .xor (.tmp 7) (.tmp 10)), (.int .u64), none⟩,
  ⟨(some 12), (.call 31 [(.tmp 4), (.tmp 11)] []), .any, none⟩] [])
def r67 : List Res := []
theorem tr67 : trS Tryd.prog [] 13 (Tryd.f67.body.getD .skip) s67 = some s67 := by kernel_rfl
theorem den67 (args : List Value) (w : World) (R : Ending → World → Prop) (hn : args.length ≤ 13) (h : denS Tryd.prog s67 (argsEnv 0 args) w (endK r67 R)) : Calls Tryd.prog 67 args.toArray w R :=
  calls_of_den (pn := []) (fn := Tryd.f67) (c := Tryd.f67.body.getD .skip) Tryd.func67 (by kernel_rfl) (by rw [Tryd.ntmps67]; exact hn) (by rw [Tryd.ntmps67]; exact tr67) (by kernel_rfl) h
def d67 (w0 : Option Addr) (n1 : Int) (w : World) (R : Ending → World → Prop) : Prop :=
 0 ≤ (1 : Int) ∧ 0 ≤ (63 : Int) ∧ Calls Tryd.prog 31 #[(.pointer w0), (.int .u64 (bXor .u64 (shL .u64 (IntKind.wrap .u64 n1) 1) (IntKind.wrap .u64 (shR .i64 n1 63))))] w fun e2 w3 => e2 = .returned (.tuple #[]) ∧ R (.returned (.tuple #[])) w3
theorem e67 (w0 : Option Addr) (n1 : Int) (w : World) (R : Ending → World → Prop) : denS Tryd.prog s67 (argsEnv 0 [(.pointer w0), (.int .i64 n1)]) w (endK r67 R) = d67 w0 n1 w R := by kernel_rfl
theorem c67 (w0 : Option Addr) (n1 : Int) {w : World} {R : Ending → World → Prop} (h : d67 w0 n1 w R) : Calls Tryd.prog 67 #[(.pointer w0), (.int .i64 n1)] w R :=
  den67 [(.pointer w0), (.int .i64 n1)] w R (by simp) ((e67 w0 n1 w R).symm ▸ h)

/-- (*prelude/codec.Writer).Raw -/
def s32 : S := (.ops [⟨(some 4), (.mv (.tmp 0)), .ptr, none⟩,
  ⟨(some 5), (.mv (.tmp 0)), .ptr, none⟩,
  ⟨(some 6), (.nc (.tmp 5)), .any, none⟩,
  ⟨(some 7), (.fa 0 (.tmp 6)), .ptr, none⟩,
  ⟨(some 8), (.ld1 (.tmp 7)), .sl, none⟩,
  ⟨(some 9), (.mv (.tmp 1)), .sl, none⟩,
  ⟨(some 10), (.app #[22, 22] 22 (.tmp 8) (.tmp 9)), .sl, none⟩,
  ⟨(some 11), (.nc (.tmp 4)), .any, none⟩,
  ⟨(some 12), (.fa 0 (.tmp 11)), .ptr, none⟩,
  ⟨none, (.st1 (.tmp 12) (.tmp 10)), .any, none⟩] [])
def r32 : List Res := []
theorem tr32 : trS Tryd.prog [] 13 (Tryd.f32.body.getD .skip) s32 = some s32 := by kernel_rfl
theorem den32 (args : List Value) (w : World) (R : Ending → World → Prop) (hn : args.length ≤ 13) (h : denS Tryd.prog s32 (argsEnv 0 args) w (endK r32 R)) : Calls Tryd.prog 32 args.toArray w R :=
  calls_of_den (pn := []) (fn := Tryd.f32) (c := Tryd.f32.body.getD .skip) Tryd.func32 (by kernel_rfl) (by rw [Tryd.ntmps32]; exact hn) (by rw [Tryd.ntmps32]; exact tr32) (by kernel_rfl) h
def d32 (w0 : Option Addr) (b1 : Option Addr) (b1n : Nat) (b1c : Nat) (w : World) (R : Ending → World → Prop) : Prop :=
 optK w0 fun a2 =>
 ∃ (x3 : Option Addr) (x3n : Nat) (x3c : Nat), World.cell? w (Addr.add a2 0) = some (.slice x3 x3n x3c) ∧
 RunV Tryd.prog (Builtin.append_ #[22, 22] 22 #[(.slice x3 x3n x3c), (.slice b1 b1n b1c)]) w fun v4 w5 => ∃ (x6 : Option Addr) (x6n : Nat) (x6c : Nat), v4 = (.slice x6 x6n x6c) ∧
 optK w0 fun a7 =>
 one (.slice x6 x6n x6c) = true ∧ Option.isSome (World.cell? w5 (Addr.add a7 0)) = true ∧ World.frozen? w5 (Addr.add a7 0) = false ∧
 ∀ w8 : World, w8 = World.setCell w5 (Addr.add a7 0) (.slice x6 x6n x6c) →
 R (.returned (.tuple #[])) w8
theorem e32 (w0 : Option Addr) (b1 : Option Addr) (b1n : Nat) (b1c : Nat) (w : World) (R : Ending → World → Prop) : denS Tryd.prog s32 (argsEnv 0 [(.pointer w0), (.slice b1 b1n b1c)]) w (endK r32 R) = d32 w0 b1 b1n b1c w R := by kernel_rfl
theorem c32 (w0 : Option Addr) (b1 : Option Addr) (b1n : Nat) (b1c : Nat) {w : World} {R : Ending → World → Prop} (h : d32 w0 b1 b1n b1c w R) : Calls Tryd.prog 32 #[(.pointer w0), (.slice b1 b1n b1c)] w R :=
  den32 [(.pointer w0), (.slice b1 b1n b1c)] w R (by simp) ((e32 w0 b1 b1n b1c w R).symm ▸ h)

/-- (*prelude/codec.Writer).Out -/
def s34 : S := (.seq (.ops [⟨(some 2), (.mv (.const (.slice none 0 0))), .sl, none⟩] [0])
 (.seq (.ops [⟨(some 3), (.mv (.tmp 0)), .ptr, none⟩,
  ⟨(some 4), (.nc (.tmp 3)), .any, none⟩,
  ⟨(some 5), (.fa 0 (.tmp 4)), .ptr, none⟩,
  ⟨(some 6), (.ld1 (.tmp 5)), .sl, none⟩,
  ⟨(some 7), (.call 61 [(.tmp 6)] [.sl]), .sl, none⟩,
  ⟨(some 2), (.mv (.tmp 7)), .sl, none⟩] [2])
 .ret))
def r34 : List Res := [.t 2]
theorem tr34 : trS Tryd.prog [] 8 (Tryd.f34.body.getD .skip) s34 = some s34 := by kernel_rfl
theorem den34 (args : List Value) (w : World) (R : Ending → World → Prop) (hn : args.length ≤ 8) (h : denS Tryd.prog s34 (argsEnv 0 args) w (endK r34 R)) : Calls Tryd.prog 34 args.toArray w R :=
  calls_of_den (pn := []) (fn := Tryd.f34) (c := Tryd.f34.body.getD .skip) Tryd.func34 (by kernel_rfl) (by rw [Tryd.ntmps34]; exact hn) (by rw [Tryd.ntmps34]; exact tr34) (by kernel_rfl) h
def d34 (w0 : Option Addr) (w : World) (R : Ending → World → Prop) : Prop :=
 optK w0 fun a1 =>
 ∃ (x2 : Option Addr) (x2n : Nat) (x2c : Nat), World.cell? w (Addr.add a1 0) = some (.slice x2 x2n x2c) ∧
 Calls Tryd.prog 61 #[(.slice x2 x2n x2c)] w fun e3 w4 => ∃ (x5 : Option Addr) (x5n : Nat) (x5c : Nat), e3 = .returned (.slice x5 x5n x5c) ∧
 R (.returned (.slice x5 x5n x5c)) w4
theorem e34 (w0 : Option Addr) (w : World) (R : Ending → World → Prop) : denS Tryd.prog s34 (argsEnv 0 [(.pointer w0)]) w (endK r34 R) = d34 w0 w R := by kernel_rfl
theorem c34 (w0 : Option Addr) {w : World} {R : Ending → World → Prop} (h : d34 w0 w R) : Calls Tryd.prog 34 #[(.pointer w0)] w R :=
  den34 [(.pointer w0)] w R (by simp) ((e34 w0 w R).symm ▸ h)

/-- prelude/codec.Read -/
def s76 : S := (.seq (.ops [⟨(some 2), (.mv (.const (.pointer none))), .ptr, none⟩] [0])
 (.seq (.ops [⟨(some 3), (.mv (.tmp 0)), .sl, none⟩,
  ⟨(some 4), (.call 61 [(.tmp 3)] [.sl]), .sl, none⟩,
  ⟨(some 5), (.bld 148 (.fields [(0, 1), (1, 1), (2, 1)]) [(0, (.tmp 4))]), .agg, none⟩,
  ⟨(some 6), (.box 148 (.tmp 5)), .ptr, none⟩,
  ⟨(some 2), (.mv (.tmp 6)), .ptr, none⟩] [2])
 .ret))
def r76 : List Res := [.t 2]
theorem tr76 : trS Tryd.prog [] 7 (Tryd.f76.body.getD .skip) s76 = some s76 := by kernel_rfl
theorem den76 (args : List Value) (w : World) (R : Ending → World → Prop) (hn : args.length ≤ 7) (h : denS Tryd.prog s76 (argsEnv 0 args) w (endK r76 R)) : Calls Tryd.prog 76 args.toArray w R :=
  calls_of_den (pn := []) (fn := Tryd.f76) (c := Tryd.f76.body.getD .skip) Tryd.func76 (by kernel_rfl) (by rw [Tryd.ntmps76]; exact hn) (by rw [Tryd.ntmps76]; exact tr76) (by kernel_rfl) h
def d76 (b0 : Option Addr) (b0n : Nat) (b0c : Nat) (w : World) (R : Ending → World → Prop) : Prop :=
 Calls Tryd.prog 61 #[(.slice b0 b0n b0c)] w fun e1 w2 => ∃ (x3 : Option Addr) (x3n : Nat) (x3c : Nat), e1 = .returned (.slice x3 x3n x3c) ∧
 ∃ cs4, fillL (.fields [(0, 1), (1, 1), (2, 1)]) (zc Tryd.prog 148) [(0, (.slice x3 x3n x3c))] = some cs4 ∧
 ∀ w5 : World, w5 = World.alloc w2 (.cells (List.toArray cs4) 148) →
 R (.returned (.pointer (some ⟨World.heap w2 |>.size, 0, none⟩))) w5
theorem e76 (b0 : Option Addr) (b0n : Nat) (b0c : Nat) (w : World) (R : Ending → World → Prop) : denS Tryd.prog s76 (argsEnv 0 [(.slice b0 b0n b0c)]) w (endK r76 R) = d76 b0 b0n b0c w R := by kernel_rfl
theorem c76 (b0 : Option Addr) (b0n : Nat) (b0c : Nat) {w : World} {R : Ending → World → Prop} (h : d76 b0 b0n b0c w R) : Calls Tryd.prog 76 #[(.slice b0 b0n b0c)] w R :=
  den76 [(.slice b0 b0n b0c)] w R (by simp) ((e76 b0 b0n b0c w R).symm ▸ h)

/-- (*prelude/codec.Reader).uint -/
def s84 : S := (.seq (.ops [⟨(some 4), (.mv (.const (.int .u64 0))), (.int .u64), none⟩,
  ⟨(some 5), (.mv (.const (.int .i64 0))), (.int .i64), none⟩,
  ⟨(some 6), (.mv (.const (.int .i64 0))), (.int .i64), none⟩] [1, 0])
 (.seq (.ops [⟨(some 7), (.mv (.const (.int .u64 0))), (.int .u64), none⟩] [1, 0, 7])
 (.seq (.ops [⟨(some 8), (.mv (.const (.int .i64 0))), (.int .i64), none⟩] [1, 8, 0, 7])
 (.block 0
 (.loop [(7, (.int .u64)), (8, (.int .i64))] [0, 1]
 (.seq (.block 1
 (.seq (.seq (.ops [⟨(some 12), (.mv (.tmp 1)), (.int .i64), none⟩,
  ⟨(some 13), (.mv (.tmp 8)), (.int .i64), none⟩,
  ⟨(some 14), (.bin .add (.tmp 12) (.tmp 13)), (.int .i64), none⟩,
  ⟨(some 15), (.mv (.tmp 0)), .ptr, none⟩,
  ⟨(some 16), (.nc (.tmp 15)), .any, none⟩,
  ⟨(some 17), (.fa 0 (.tmp 16)), .ptr, none⟩,
  ⟨(some 18), (.ld1 (.tmp 17)), .sl, none⟩,
  ⟨(some 19), (.len (.tmp 18)), (.int .i64), none⟩,
  ⟨(some 20), (.bin .geq (.tmp 14) (.tmp 19)), .bool, none⟩] [20, 1, 0, 8, 7])
 (.cond (.tmp 20)
 (.seq (.ops [⟨(some 21), (.mv (.tmp 1)), (.int .i64), none⟩,
  ⟨(some 4), (.mv (.const (.int .u64 0))), (.int .u64), none⟩,
  ⟨(some 5), (.mv (.tmp 21)), (.int .i64), none⟩,
  ⟨(some 6), (.mv (.const (.int .i64 10))), (.int .i64), none⟩] [4, 5, 6])
 .ret)
 .skip))
 (.seq (.ops [⟨(some 22), (.mv (.tmp 0)), .ptr, none⟩,
  ⟨(some 23), (.nc (.tmp 22)), .any, none⟩,
  ⟨(some 24), (.fa 0 (.tmp 23)), .ptr, none⟩,
  ⟨(some 25), (.ld1 (.tmp 24)), .sl, none⟩,
  ⟨(some 26), (.mv (.tmp 1)), (.int .i64), none⟩,
  ⟨(some 27), (.mv (.tmp 8)), (.int .i64), none⟩,
  ⟨(some 28), (.bin .add (.tmp 26) (.tmp 27)), (.int .i64), none⟩,
  ⟨(some 29), (.ia 1 (.tmp 25) (.tmp 28)), .ptr, none⟩,
  ⟨(some 30), (.ld1 (.tmp 29)), (.int .u8), none⟩,
  ⟨(some 9), (.mv (.tmp 30)), (.int .u8), none⟩] [8, 9, 1, 7, 0])
 (.join [] [0, 1, 7, 8, 9]
 (.seq (.ops [⟨(some 31), (.mv (.tmp 8)), (.int .i64), none⟩,
  ⟨(some 32), (.bin .eql (.tmp 31) (.const (.int .i64 9))), .bool, none⟩,
  ⟨(some 33), (.mv (.tmp 32)), .bool, none⟩,
  ⟨(some 34), (.mv (.tmp 9)), (.int .u8), (some (33, true))⟩,
  ⟨(some 35), (.bin .gtr (.tmp 34) (.const (.int .u8 1))), .bool, (some (33, true))⟩,
  ⟨(some 36), (.pick (.tmp 33) (.tmp 35) (.const (.bool false))), .bool, none⟩,
  ⟨(some 37), (.mv (.tmp 36)), .bool, none⟩,
  ⟨(some 38), (.mv (.tmp 8)), (.int .i64), (some (37, false))⟩,
  ⟨(some 39), (.bin .gtr (.tmp 38) (.const (.int .i64 0))), .bool, (some (37, false))⟩,
  ⟨(some 40), (.mv (.tmp 39)), .bool, (some (37, false))⟩,
  ⟨(some 41), (.mv (.tmp 9)), (.int .u8), (some (40, true))⟩,
  ⟨(some 42), (.bin .eql (.tmp 41) (.const (.int .u8 0))), .bool, (some (40, true))⟩,
  ⟨(some 43), (.pick (.tmp 40) (.tmp 42) (.const (.bool false))), .bool, (some (37, false))⟩,
  ⟨(some 44), (.pick (.tmp 37) (.const (.bool true)) (.tmp 43)), .bool, none⟩] [44, 1, 7, 9, 8, 0])
 (.cond (.tmp 44)
 (.seq (.ops [⟨(some 45), (.mv (.tmp 1)), (.int .i64), none⟩,
  ⟨(some 4), (.mv (.const (.int .u64 0))), (.int .u64), none⟩,
  ⟨(some 5), (.mv (.tmp 45)), (.int .i64), none⟩,
  ⟨(some 6), (.mv (.const (.int .i64 11))), (.int .i64), none⟩] [4, 5, 6])
 .ret)
 .skip))
 (.seq (.ops [⟨(some 46), (.mv (.tmp 7)), (.int .u64), none⟩,
  ⟨(some 47), (.mv (.tmp 9)), (.int .u8), none⟩,
  ⟨(some 48), (.bin .and (.tmp 47) (.const (.int .u8 127))), (.int .u8), none⟩,
  ⟨(some 49), (.cv .u64 (.tmp 48)), (.int .u64), none⟩,
  ⟨(some 50), (.mv (.tmp 8)), (.int .i64), none⟩,
  ⟨(some 51), (.bin .mul (.const (.int .i64 7)) (.tmp 50)), (.int .i64), none⟩,
  ⟨(some 52), (.bin .shl (.tmp 49) (.tmp 51)), (.int .u64), none⟩,
  ⟨(some 53), (.bin .or (.tmp 46) (.tmp 52)), (.int .u64), none⟩,
  ⟨(some 7), (.mv (.tmp 53)), (.int .u64), none⟩] [9, 7, 1, 8, 0])
 (.seq (.ops [⟨(some 54), (.mv (.tmp 9)), (.int .u8), none⟩,
  ⟨(some 55), (.bin .lss (.tmp 54) (.const (.int .u8 128))), .bool, none⟩] [55, 7, 1, 8, 0])
 (.cond (.tmp 55)
 (.seq (.ops [⟨(some 56), (.mv (.tmp 7)), (.int .u64), none⟩,
  ⟨(some 57), (.mv (.tmp 1)), (.int .i64), none⟩,
  ⟨(some 58), (.mv (.tmp 8)), (.int .i64), none⟩,
  ⟨(some 59), (.bin .add (.tmp 57) (.tmp 58)), (.int .i64), none⟩,
  ⟨(some 60), (.bin .add (.tmp 59) (.const (.int .i64 1))), (.int .i64), none⟩,
  ⟨(some 4), (.mv (.tmp 56)), (.int .u64), none⟩,
  ⟨(some 5), (.mv (.tmp 60)), (.int .i64), none⟩,
  ⟨(some 6), (.mv (.const (.int .i64 0))), (.int .i64), none⟩] [4, 5, 6])
 .ret)
 .skip)))))))
 (.ops [⟨(some 10), (.mv (.tmp 8)), (.int .i64), none⟩,
  ⟨(some 11), (.bin .add (.tmp 10) (.const (.int .i64 1))), (.int .i64), none⟩,
  ⟨(some 8), (.mv (.tmp 11)), (.int .i64), none⟩] [1, 8, 0, 7])))))))
def r84 : List Res := [.t 4, .t 5, .t 6]
theorem tr84 : trS Tryd.prog [] 61 (Tryd.f84.body.getD .skip) s84 = some s84 := by kernel_rfl
theorem den84 (args : List Value) (w : World) (R : Ending → World → Prop) (hn : args.length ≤ 61) (h : denS Tryd.prog s84 (argsEnv 0 args) w (endK r84 R)) : Calls Tryd.prog 84 args.toArray w R :=
  calls_of_den (pn := []) (fn := Tryd.f84) (c := Tryd.f84.body.getD .skip) Tryd.func84 (by kernel_rfl) (by rw [Tryd.ntmps84]; exact hn) (by rw [Tryd.ntmps84]; exact tr84) (by kernel_rfl) h
def d84 (r0 : Option Addr) (at1 : Int) (w : World) (R : Ending → World → Prop) : Prop :=
 ∃ I2 : Nat → Int → Int → World → Prop,
 (∃ m, I2 m 0 0 w) ∧
 (∀ (m3 : Nat) (w4 : World) (n5 : Int) (i6 : Int), I2 m3 n5 i6 w4 →
 optK r0 fun a7 =>
 ∃ (x8 : Option Addr) (x8n : Nat) (x8c : Nat), World.cell? w4 (Addr.add a7 0) = some (.slice x8 x8n x8c) ∧
 (bif (decide (((x8n : Nat) : Int) ≤ (IntKind.wrap .i64 (at1 + i6)))) then
 (R (.returned (.tuple #[(.int .u64 0), (.int .i64 at1), (.int .i64 10)])) w4)
 else
 (optK r0 fun a9 =>
 ∃ (x10 : Option Addr) (x10n : Nat) (x10c : Nat), World.cell? w4 (Addr.add a9 0) = some (.slice x10 x10n x10c) ∧
 0 ≤ (IntKind.wrap .i64 (at1 + i6)) ∧ (IntKind.wrap .i64 (at1 + i6)) < ((x10n : Nat) : Int) ∧ optK x10 fun a11 =>
 ∃ x12 : Int, World.cell? w4 (Addr.add a11 (Int.toNat (IntKind.wrap .i64 (at1 + i6)) * 1)) = some (.int .u8 x12) ∧
 ∃ J13 : World → Prop,
 ((bif (decide (i6 = 9)) then
 ((bif (decide (1 < x12)) then
 (R (.returned (.tuple #[(.int .u64 0), (.int .i64 at1), (.int .i64 11)])) w4)
 else
 ((bif (decide (0 < i6)) then
 ((bif (decide (x12 = 0)) then
 (R (.returned (.tuple #[(.int .u64 0), (.int .i64 at1), (.int .i64 11)])) w4)
 else
 (J13  w4)))
 else
 (J13  w4)))))
 else
 ((bif (decide (0 < i6)) then
 ((bif (decide (x12 = 0)) then
 (R (.returned (.tuple #[(.int .u64 0), (.int .i64 at1), (.int .i64 11)])) w4)
 else
 (J13  w4)))
 else
 (J13  w4))))) ∧
 (∀ (w14 : World), J13  w14 →
 0 ≤ (IntKind.wrap .i64 (7 * i6)) ∧ (bif (decide (x12 < 128)) then
 (R (.returned (.tuple #[(.int .u64 (bOr .u64 n5 (shL .u64 (IntKind.wrap .u64 (bAnd .u8 x12 127)) (IntKind.wrap .i64 (7 * i6))))), (.int .i64 (IntKind.wrap .i64 ((IntKind.wrap .i64 (at1 + i6)) + 1))), (.int .i64 0)])) w14)
 else
 (∃ m15, m15 < m3 ∧ I2 m15 (bOr .u64 n5 (shL .u64 (IntKind.wrap .u64 (bAnd .u8 x12 127)) (IntKind.wrap .i64 (7 * i6)))) (IntKind.wrap .i64 (i6 + 1)) w14))))))
theorem e84 (r0 : Option Addr) (at1 : Int) (w : World) (R : Ending → World → Prop) : denS Tryd.prog s84 (argsEnv 0 [(.pointer r0), (.int .i64 at1)]) w (endK r84 R) = d84 r0 at1 w R := by kernel_rfl
theorem c84 (r0 : Option Addr) (at1 : Int) {w : World} {R : Ending → World → Prop} (h : d84 r0 at1 w R) : Calls Tryd.prog 84 #[(.pointer r0), (.int .i64 at1)] w R :=
  den84 [(.pointer r0), (.int .i64 at1)] w R (by simp) ((e84 r0 at1 w R).symm ▸ h)

/-- (*prelude/codec.Reader).Uint -/
def s109 : S := (.seq (.ops [⟨(some 2), (.mv (.const (.int .u64 0))), (.int .u64), none⟩] [0])
 (.seq (.ops [⟨(some 3), (.mv (.tmp 0)), .ptr, none⟩,
  ⟨(some 4), (.call 49 [(.tmp 3), (.const (.int .u64 18446744073709551615))] [(.int .u64)]), (.int .u64), none⟩,
  ⟨(some 2), (.mv (.tmp 4)), (.int .u64), none⟩] [2])
 .ret))
def r109 : List Res := [.t 2]
theorem tr109 : trS Tryd.prog [] 5 (Tryd.f109.body.getD .skip) s109 = some s109 := by kernel_rfl
theorem den109 (args : List Value) (w : World) (R : Ending → World → Prop) (hn : args.length ≤ 5) (h : denS Tryd.prog s109 (argsEnv 0 args) w (endK r109 R)) : Calls Tryd.prog 109 args.toArray w R :=
  calls_of_den (pn := []) (fn := Tryd.f109) (c := Tryd.f109.body.getD .skip) Tryd.func109 (by kernel_rfl) (by rw [Tryd.ntmps109]; exact hn) (by rw [Tryd.ntmps109]; exact tr109) (by kernel_rfl) h
def d109 (r0 : Option Addr) (w : World) (R : Ending → World → Prop) : Prop :=
 Calls Tryd.prog 49 #[(.pointer r0), (.int .u64 18446744073709551615)] w fun e1 w2 => ∃ x3 : Int, e1 = .returned (.int .u64 x3) ∧
 R (.returned (.int .u64 x3)) w2
theorem e109 (r0 : Option Addr) (w : World) (R : Ending → World → Prop) : denS Tryd.prog s109 (argsEnv 0 [(.pointer r0)]) w (endK r109 R) = d109 r0 w R := by kernel_rfl
theorem c109 (r0 : Option Addr) {w : World} {R : Ending → World → Prop} (h : d109 r0 w R) : Calls Tryd.prog 109 #[(.pointer r0)] w R :=
  den109 [(.pointer r0)] w R (by simp) ((e109 r0 w R).symm ▸ h)

/-- (*prelude/codec.Reader).Upto -/
def s49 : S := (.seq (.ops [⟨(some 4), (.mv (.const (.int .u64 0))), (.int .u64), none⟩] [0, 1])
 (.seq (.seq (.ops [⟨(some 8), (.mv (.tmp 0)), .ptr, none⟩,
  ⟨(some 9), (.nc (.tmp 8)), .any, none⟩,
  ⟨(some 10), (.fa 2 (.tmp 9)), .ptr, none⟩,
  ⟨(some 11), (.ld1 (.tmp 10)), (.int .i64), none⟩,
  ⟨(some 12), (.bin .neq (.tmp 11) (.const (.int .i64 0))), .bool, none⟩] [12, 0, 1])
 (.cond (.tmp 12)
 (.seq (.ops [⟨(some 4), (.mv (.const (.int .u64 0))), (.int .u64), none⟩] [4])
 .ret)
 .skip))
 (.seq (.ops [⟨(some 14), (.mv (.tmp 0)), .ptr, none⟩,
  ⟨(some 15), (.mv (.tmp 0)), .ptr, none⟩,
  ⟨(some 16), (.nc (.tmp 15)), .any, none⟩,
  ⟨(some 17), (.fa 1 (.tmp 16)), .ptr, none⟩,
  ⟨(some 18), (.ld1 (.tmp 17)), (.int .i64), none⟩,
  ⟨(some 19), (.call 84 [(.tmp 14), (.tmp 18)] [(.int .u64), (.int .i64), (.int .i64)]), .any, none⟩,
  ⟨(some 13), (.mv (.tmp 19)), .any, none⟩,
  ⟨(some 20), (.ext 0 (.tmp 13)), (.int .u64), none⟩,
  ⟨(some 21), (.ext 1 (.tmp 13)), (.int .i64), none⟩,
  ⟨(some 22), (.ext 2 (.tmp 13)), (.int .i64), none⟩,
  ⟨(some 5), (.mv (.tmp 20)), (.int .u64), none⟩,
  ⟨(some 6), (.mv (.tmp 21)), (.int .i64), none⟩,
  ⟨(some 7), (.mv (.tmp 22)), (.int .i64), none⟩] [7, 5, 1, 0, 6])
 (.join [(7, (.int .i64))] [0, 5, 6]
 (.seq (.ops [⟨(some 23), (.mv (.tmp 7)), (.int .i64), none⟩,
  ⟨(some 24), (.bin .eql (.tmp 23) (.const (.int .i64 0))), .bool, none⟩,
  ⟨(some 25), (.mv (.tmp 24)), .bool, none⟩,
  ⟨(some 26), (.mv (.tmp 5)), (.int .u64), (some (25, true))⟩,
  ⟨(some 27), (.mv (.tmp 1)), (.int .u64), (some (25, true))⟩,
  ⟨(some 28), (.bin .gtr (.tmp 26) (.tmp 27)), .bool, (some (25, true))⟩,
  ⟨(some 29), (.pick (.tmp 25) (.tmp 28) (.const (.bool false))), .bool, none⟩] [29, 0, 6, 5, 7])
 (.cond (.tmp 29)
 (.ops [⟨(some 7), (.mv (.const (.int .i64 12))), (.int .i64), none⟩] [7, 0, 6, 5])
 .skip))
 (.seq (.seq (.ops [⟨(some 30), (.mv (.tmp 7)), (.int .i64), none⟩,
  ⟨(some 31), (.bin .neq (.tmp 30) (.const (.int .i64 0))), .bool, none⟩] [31, 0, 7, 6, 5])
 (.cond (.tmp 31)
 (.seq (.ops [⟨(some 32), (.mv (.tmp 0)), .ptr, none⟩,
  ⟨(some 33), (.mv (.tmp 7)), (.int .i64), none⟩,
  ⟨(some 34), (.nc (.tmp 32)), .any, none⟩,
  ⟨(some 35), (.fa 2 (.tmp 34)), .ptr, none⟩,
  ⟨none, (.st1 (.tmp 35) (.tmp 33)), .any, none⟩] [])
 (.seq (.ops [⟨(some 4), (.mv (.const (.int .u64 0))), (.int .u64), none⟩] [4])
 .ret))
 .skip))
 (.seq (.ops [⟨(some 36), (.mv (.tmp 0)), .ptr, none⟩,
  ⟨(some 37), (.mv (.tmp 6)), (.int .i64), none⟩,
  ⟨(some 38), (.nc (.tmp 36)), .any, none⟩,
  ⟨(some 39), (.fa 1 (.tmp 38)), .ptr, none⟩,
  ⟨none, (.st1 (.tmp 39) (.tmp 37)), .any, none⟩] [5])
 (.seq (.ops [⟨(some 40), (.mv (.tmp 5)), (.int .u64), none⟩,
  ⟨(some 4), (.mv (.tmp 40)), (.int .u64), none⟩] [4])
 .ret)))))))
def r49 : List Res := [.t 4]
theorem tr49 : trS Tryd.prog [] 41 (Tryd.f49.body.getD .skip) s49 = some s49 := by kernel_rfl
theorem den49 (args : List Value) (w : World) (R : Ending → World → Prop) (hn : args.length ≤ 41) (h : denS Tryd.prog s49 (argsEnv 0 args) w (endK r49 R)) : Calls Tryd.prog 49 args.toArray w R :=
  calls_of_den (pn := []) (fn := Tryd.f49) (c := Tryd.f49.body.getD .skip) Tryd.func49 (by kernel_rfl) (by rw [Tryd.ntmps49]; exact hn) (by rw [Tryd.ntmps49]; exact tr49) (by kernel_rfl) h
def d49 (r0 : Option Addr) (most1 : Int) (w : World) (R : Ending → World → Prop) : Prop :=
 optK r0 fun a2 =>
 ∃ x3 : Int, World.cell? w (Addr.add a2 2) = some (.int .i64 x3) ∧
 (bif (!decide (x3 = 0)) then
 (R (.returned (.int .u64 0)) w)
 else
 (optK r0 fun a4 =>
 ∃ x5 : Int, World.cell? w (Addr.add a4 1) = some (.int .i64 x5) ∧
 Calls Tryd.prog 84 #[(.pointer r0), (.int .i64 x5)] w fun e6 w7 => ∃ x8 : Int, ∃ x9 : Int, ∃ x10 : Int, e6 = .returned (.tuple #[(.int .u64 x8), (.int .i64 x9), (.int .i64 x10)]) ∧
 ∃ x11 : Int, (#[(.int .u64 x8), (.int .i64 x9), (.int .i64 x10)] : Array Value)[0]? = some (.int .u64 x11) ∧
 ∃ x12 : Int, (#[(.int .u64 x8), (.int .i64 x9), (.int .i64 x10)] : Array Value)[1]? = some (.int .i64 x12) ∧
 ∃ x13 : Int, (#[(.int .u64 x8), (.int .i64 x9), (.int .i64 x10)] : Array Value)[2]? = some (.int .i64 x13) ∧
 ∃ J14 : Int → World → Prop,
 ((bif (decide (x13 = 0)) then
 ((bif (decide (most1 < x11)) then
 (J14 12 w7)
 else
 (J14 x13 w7)))
 else
 (J14 x13 w7))) ∧
 (∀ (w15 : World) (e16 : Int), J14 e16 w15 →
 (bif (!decide (e16 = 0)) then
 (optK r0 fun a17 =>
 one (.int .i64 e16) = true ∧ Option.isSome (World.cell? w15 (Addr.add a17 2)) = true ∧ World.frozen? w15 (Addr.add a17 2) = false ∧
 ∀ w18 : World, w18 = World.setCell w15 (Addr.add a17 2) (.int .i64 e16) →
 R (.returned (.int .u64 0)) w18)
 else
 (optK r0 fun a19 =>
 one (.int .i64 x12) = true ∧ Option.isSome (World.cell? w15 (Addr.add a19 1)) = true ∧ World.frozen? w15 (Addr.add a19 1) = false ∧
 ∀ w20 : World, w20 = World.setCell w15 (Addr.add a19 1) (.int .i64 x12) →
 R (.returned (.int .u64 x11)) w20)))))
theorem e49 (r0 : Option Addr) (most1 : Int) (w : World) (R : Ending → World → Prop) : denS Tryd.prog s49 (argsEnv 0 [(.pointer r0), (.int .u64 most1)]) w (endK r49 R) = d49 r0 most1 w R := by kernel_rfl
theorem c49 (r0 : Option Addr) (most1 : Int) {w : World} {R : Ending → World → Prop} (h : d49 r0 most1 w R) : Calls Tryd.prog 49 #[(.pointer r0), (.int .u64 most1)] w R :=
  den49 [(.pointer r0), (.int .u64 most1)] w R (by simp) ((e49 r0 most1 w R).symm ▸ h)

/-- (*prelude/codec.Reader).Int -/
def s96 : S := (.seq (.ops [⟨(some 2), (.mv (.const (.int .i64 0))), (.int .i64), none⟩] [0])
 (.seq (.ops [⟨(some 4), (.mv (.tmp 0)), .ptr, none⟩,
  ⟨(some 5), (.call 109 [(.tmp 4)] [(.int .u64)]), (.int .u64), none⟩,
  ⟨(some 3), (.mv (.tmp 5)), (.int .u64), none⟩] [3])
 (.seq (.ops [⟨(some 6), (.mv (.tmp 3)), (.int .u64), none⟩,
  ⟨(some 7), (.bin .shr (.tmp 6) (.const (.int .u64 1))), (.int .u64), none⟩,
  ⟨(some 8), (.cv .i64 (.tmp 7)), (.int .i64), none⟩,
  ⟨(some 9), (.mv (.tmp 3)), (.int .u64), none⟩,
  ⟨(some 10), (.bin .and (.tmp 9) (.const (.int .u64 1))), (.int .u64), none⟩,
  ⟨(some 11), (.cv .i64 (.tmp 10)), (.int .i64), none⟩,
  ⟨(some 12), (.un .neg (.tmp 11)), (.int .i64), none⟩,
  ⟨(some 13), (.bin .xor (.tmp 8) (.tmp 12)), (.int .i64), none⟩,
  ⟨(some 2), (.mv (.tmp 13)), (.int .i64), none⟩] [2])
 .ret)))
def r96 : List Res := [.t 2]
theorem tr96 : trS Tryd.prog [] 14 (Tryd.f96.body.getD .skip) s96 = some s96 := by kernel_rfl
theorem den96 (args : List Value) (w : World) (R : Ending → World → Prop) (hn : args.length ≤ 14) (h : denS Tryd.prog s96 (argsEnv 0 args) w (endK r96 R)) : Calls Tryd.prog 96 args.toArray w R :=
  calls_of_den (pn := []) (fn := Tryd.f96) (c := Tryd.f96.body.getD .skip) Tryd.func96 (by kernel_rfl) (by rw [Tryd.ntmps96]; exact hn) (by rw [Tryd.ntmps96]; exact tr96) (by kernel_rfl) h
def d96 (r0 : Option Addr) (w : World) (R : Ending → World → Prop) : Prop :=
 Calls Tryd.prog 109 #[(.pointer r0)] w fun e1 w2 => ∃ x3 : Int, e1 = .returned (.int .u64 x3) ∧
 0 ≤ (1 : Int) ∧ R (.returned (.int .i64 (bXor .i64 (IntKind.wrap .i64 (shR .u64 x3 1)) (IntKind.wrap .i64 (0 - (IntKind.wrap .i64 (bAnd .u64 x3 1))))))) w2
theorem e96 (r0 : Option Addr) (w : World) (R : Ending → World → Prop) : denS Tryd.prog s96 (argsEnv 0 [(.pointer r0)]) w (endK r96 R) = d96 r0 w R := by kernel_rfl
theorem c96 (r0 : Option Addr) {w : World} {R : Ending → World → Prop} (h : d96 r0 w R) : Calls Tryd.prog 96 #[(.pointer r0)] w R :=
  den96 [(.pointer r0)] w R (by simp) ((e96 r0 w R).symm ▸ h)

/-- (*prelude/codec.Reader).Raw -/
def s44 : S := (.seq (.ops [⟨(some 4), (.mv (.const (.slice none 0 0))), .sl, none⟩] [0, 1])
 (.seq (.block 0
 (.seq (.ops [⟨(some 6), (.mv (.tmp 0)), .ptr, none⟩,
  ⟨(some 7), (.nc (.tmp 6)), .any, none⟩,
  ⟨(some 8), (.fa 2 (.tmp 7)), .ptr, none⟩,
  ⟨(some 9), (.ld1 (.tmp 8)), (.int .i64), none⟩,
  ⟨(some 10), (.bin .neq (.tmp 9) (.const (.int .i64 0))), .bool, none⟩,
  ⟨(some 5), (.mv (.tmp 10)), .bool, none⟩] [5, 1, 0])
 (.cond (.tmp 5)
 (.seq (.ops [⟨(some 4), (.mv (.const (.slice none 0 0))), .sl, none⟩] [4])
 .ret)
 (.seq (.ops [⟨(some 12), (.mv (.tmp 1)), (.int .i64), none⟩,
  ⟨(some 13), (.bin .lss (.tmp 12) (.const (.int .i64 0))), .bool, none⟩,
  ⟨(some 11), (.mv (.tmp 13)), .bool, none⟩] [11, 0, 1])
 (.cond (.tmp 11)
 (.seq (.ops [⟨(some 14), (.mv (.tmp 0)), .ptr, none⟩,
  ⟨(some 15), (.nc (.tmp 14)), .any, none⟩,
  ⟨(some 16), (.fa 2 (.tmp 15)), .ptr, none⟩,
  ⟨none, (.st1 (.tmp 16) (.const (.int .i64 11))), .any, none⟩] [])
 (.seq (.ops [⟨(some 4), (.mv (.const (.slice none 0 0))), .sl, none⟩] [4])
 .ret))
 (.seq (.draw (.take 0 ⟨(some 18), (.mv (.tmp 1)), (.int .i64), none⟩
  (.take 1 ⟨(some 19), (.mv (.tmp 0)), .ptr, none⟩
  (.take 2 ⟨(some 20), (.nc (.tmp 19)), .any, none⟩
  (.take 3 ⟨(some 21), (.fa 0 (.tmp 20)), .ptr, none⟩
  (.take 4 ⟨(some 22), (.ld1 (.tmp 21)), .sl, none⟩
  (.take 5 ⟨(some 23), (.len (.tmp 22)), (.int .i64), none⟩
  (.take 6 ⟨(some 24), (.mv (.tmp 0)), .ptr, none⟩
  (.take 7 ⟨(some 25), (.nc (.tmp 24)), .any, none⟩
  (.take 8 ⟨(some 26), (.fa 1 (.tmp 25)), .ptr, none⟩
  (.take 9 ⟨(some 27), (.ld1 (.tmp 26)), (.int .i64), none⟩
  (.take 10 ⟨(some 28), (.bin .sub (.tmp 23) (.tmp 27)), (.int .i64), none⟩
  (.take 11 ⟨(some 29), (.bin .gtr (.tmp 18) (.tmp 28)), .bool, none⟩
  (.take 12 ⟨(some 17), (.mv (.tmp 29)), .bool, none⟩
  .done))))))))))))) [17, 0, 1])
 (.cond (.tmp 17)
 (.seq (.ops [⟨(some 30), (.mv (.tmp 0)), .ptr, none⟩,
  ⟨(some 31), (.nc (.tmp 30)), .any, none⟩,
  ⟨(some 32), (.fa 2 (.tmp 31)), .ptr, none⟩,
  ⟨none, (.st1 (.tmp 32) (.const (.int .i64 10))), .any, none⟩] [])
 (.seq (.ops [⟨(some 4), (.mv (.const (.slice none 0 0))), .sl, none⟩] [4])
 .ret))
 .skip)))))))
 (.seq (.ops [⟨(some 33), (.mv (.tmp 0)), .ptr, none⟩,
  ⟨(some 34), (.nc (.tmp 33)), .any, none⟩,
  ⟨(some 35), (.fa 1 (.tmp 34)), .ptr, none⟩,
  ⟨(some 36), (.ld1 (.tmp 35)), (.int .i64), none⟩,
  ⟨(some 37), (.mv (.tmp 1)), (.int .i64), none⟩,
  ⟨(some 38), (.bin .add (.tmp 36) (.tmp 37)), (.int .i64), none⟩,
  ⟨(some 39), (.nc (.tmp 33)), .any, none⟩,
  ⟨(some 40), (.fa 1 (.tmp 39)), .ptr, none⟩,
  ⟨none, (.st1 (.tmp 40) (.tmp 38)), .any, none⟩] [0, 1])
 (.seq (.draw (.take 0 ⟨(some 41), (.mv (.tmp 0)), .ptr, none⟩
  (.take 1 ⟨(some 42), (.nc (.tmp 41)), .any, none⟩
  (.take 2 ⟨(some 43), (.fa 0 (.tmp 42)), .ptr, none⟩
  (.take 3 ⟨(some 44), (.ld1 (.tmp 43)), .sl, none⟩
  (.take 4 ⟨(some 45), (.mv (.tmp 0)), .ptr, none⟩
  (.take 5 ⟨(some 46), (.nc (.tmp 45)), .any, none⟩
  (.take 6 ⟨(some 47), (.fa 1 (.tmp 46)), .ptr, none⟩
  (.take 7 ⟨(some 48), (.ld1 (.tmp 47)), (.int .i64), none⟩
  (.take 8 ⟨(some 49), (.mv (.tmp 1)), (.int .i64), none⟩
  (.take 9 ⟨(some 50), (.bin .sub (.tmp 48) (.tmp 49)), (.int .i64), none⟩
  (.take 10 ⟨(some 51), (.mv (.tmp 0)), .ptr, none⟩
  (.take 11 ⟨(some 52), (.nc (.tmp 51)), .any, none⟩
  (.take 12 ⟨(some 53), (.fa 1 (.tmp 52)), .ptr, none⟩
  (.take 13 ⟨(some 54), (.ld1 (.tmp 53)), (.int .i64), none⟩
  (.take 14 ⟨(some 55), (.slS 1 (.tmp 44) (some (.tmp 50)) (some (.tmp 54)) none), .sl, none⟩
  (.go 15 ⟨(some 56), (.call 61 [(.tmp 55)] [.sl]), .sl, none⟩ []
  (.take 16 ⟨(some 4), (.mv (.tmp 56)), .sl, none⟩
  .done))))))))))))))))) [4])
 .ret))))
def r44 : List Res := [.t 4]
theorem tr44 : trS Tryd.prog [] 57 (Tryd.f44.body.getD .skip) s44 = some s44 := by kernel_rfl
theorem den44 (args : List Value) (w : World) (R : Ending → World → Prop) (hn : args.length ≤ 57) (h : denS Tryd.prog s44 (argsEnv 0 args) w (endK r44 R)) : Calls Tryd.prog 44 args.toArray w R :=
  calls_of_den (pn := []) (fn := Tryd.f44) (c := Tryd.f44.body.getD .skip) Tryd.func44 (by kernel_rfl) (by rw [Tryd.ntmps44]; exact hn) (by rw [Tryd.ntmps44]; exact tr44) (by kernel_rfl) h
def d44 (r0 : Option Addr) (n1 : Int) (w : World) (R : Ending → World → Prop) : Prop :=
 optK r0 fun a2 =>
 ∃ x3 : Int, World.cell? w (Addr.add a2 2) = some (.int .i64 x3) ∧
 (bif (!decide (x3 = 0)) then
 (R (.returned (.slice none 0 0)) w)
 else
 ((bif (decide (n1 < 0)) then
 (optK r0 fun a4 =>
 one (.int .i64 11) = true ∧ Option.isSome (World.cell? w (Addr.add a4 2)) = true ∧ World.frozen? w (Addr.add a4 2) = false ∧
 ∀ w5 : World, w5 = World.setCell w (Addr.add a4 2) (.int .i64 11) →
 R (.returned (.slice none 0 0)) w5)
 else
 (∀ w6 : World, w6 = World.drew w →
 optK r0 fun a7 =>
 ∃ (x8 : Option Addr) (x8n : Nat) (x8c : Nat), World.cell? w6 (Addr.add a7 0) = some (.slice x8 x8n x8c) ∧
 optK r0 fun a9 =>
 ∃ x10 : Int, World.cell? w6 (Addr.add a9 1) = some (.int .i64 x10) ∧
 (bif (decide ((IntKind.wrap .i64 (((x8n : Nat) : Int) - x10)) < n1)) then
 (optK r0 fun a11 =>
 one (.int .i64 10) = true ∧ Option.isSome (World.cell? w6 (Addr.add a11 2)) = true ∧ World.frozen? w6 (Addr.add a11 2) = false ∧
 ∀ w12 : World, w12 = World.setCell w6 (Addr.add a11 2) (.int .i64 10) →
 R (.returned (.slice none 0 0)) w12)
 else
 (optK r0 fun a13 =>
 ∃ x14 : Int, World.cell? w6 (Addr.add a13 1) = some (.int .i64 x14) ∧
 optK r0 fun a15 =>
 one (.int .i64 (IntKind.wrap .i64 (x14 + n1))) = true ∧ Option.isSome (World.cell? w6 (Addr.add a15 1)) = true ∧ World.frozen? w6 (Addr.add a15 1) = false ∧
 ∀ w16 : World, w16 = World.setCell w6 (Addr.add a15 1) (.int .i64 (IntKind.wrap .i64 (x14 + n1))) →
 ∀ w17 : World, w17 = World.drew w16 →
 optK r0 fun a18 =>
 ∃ (x19 : Option Addr) (x19n : Nat) (x19c : Nat), World.cell? w17 (Addr.add a18 0) = some (.slice x19 x19n x19c) ∧
 optK r0 fun a20 =>
 ∃ x21 : Int, World.cell? w17 (Addr.add a20 1) = some (.int .i64 x21) ∧
 optK r0 fun a22 =>
 ∃ x23 : Int, World.cell? w17 (Addr.add a22 1) = some (.int .i64 x23) ∧
 0 ≤ x23 ∧ x23 ≤ ((x19c : Nat) : Int) ∧ 0 ≤ (IntKind.wrap .i64 (x21 - n1)) ∧ (IntKind.wrap .i64 (x21 - n1)) ≤ (((Int.toNat x23) : Nat) : Int) ∧ Calls Tryd.prog 61 #[(.slice (if x19c = (Int.toNat (IntKind.wrap .i64 (x21 - n1))) then x19 else Option.map (fun y => Addr.add y ((Int.toNat (IntKind.wrap .i64 (x21 - n1))) * 1)) x19) ((Int.toNat x23) - (Int.toNat (IntKind.wrap .i64 (x21 - n1)))) (x19c - (Int.toNat (IntKind.wrap .i64 (x21 - n1)))))] w17 fun e24 w25 => ∃ (x26 : Option Addr) (x26n : Nat) (x26c : Nat), e24 = .returned (.slice x26 x26n x26c) ∧
 R (.returned (.slice x26 x26n x26c)) w25))))))
theorem e44 (r0 : Option Addr) (n1 : Int) (w : World) (R : Ending → World → Prop) : denS Tryd.prog s44 (argsEnv 0 [(.pointer r0), (.int .i64 n1)]) w (endK r44 R) = d44 r0 n1 w R := by kernel_rfl
theorem c44 (r0 : Option Addr) (n1 : Int) {w : World} {R : Ending → World → Prop} (h : d44 r0 n1 w R) : Calls Tryd.prog 44 #[(.pointer r0), (.int .i64 n1)] w R :=
  den44 [(.pointer r0), (.int .i64 n1)] w R (by simp) ((e44 r0 n1 w R).symm ▸ h)

/-- (*prelude/codec.Reader).At -/
def s81 : S := (.seq (.ops [⟨(some 2), (.mv (.const (.int .i64 0))), (.int .i64), none⟩] [0])
 (.seq (.ops [⟨(some 3), (.mv (.tmp 0)), .ptr, none⟩,
  ⟨(some 4), (.nc (.tmp 3)), .any, none⟩,
  ⟨(some 5), (.fa 1 (.tmp 4)), .ptr, none⟩,
  ⟨(some 6), (.ld1 (.tmp 5)), (.int .i64), none⟩,
  ⟨(some 2), (.mv (.tmp 6)), (.int .i64), none⟩] [2])
 .ret))
def r81 : List Res := [.t 2]
theorem tr81 : trS Tryd.prog [] 7 (Tryd.f81.body.getD .skip) s81 = some s81 := by kernel_rfl
theorem den81 (args : List Value) (w : World) (R : Ending → World → Prop) (hn : args.length ≤ 7) (h : denS Tryd.prog s81 (argsEnv 0 args) w (endK r81 R)) : Calls Tryd.prog 81 args.toArray w R :=
  calls_of_den (pn := []) (fn := Tryd.f81) (c := Tryd.f81.body.getD .skip) Tryd.func81 (by kernel_rfl) (by rw [Tryd.ntmps81]; exact hn) (by rw [Tryd.ntmps81]; exact tr81) (by kernel_rfl) h
def d81 (r0 : Option Addr) (w : World) (R : Ending → World → Prop) : Prop :=
 optK r0 fun a1 =>
 ∃ x2 : Int, World.cell? w (Addr.add a1 1) = some (.int .i64 x2) ∧
 R (.returned (.int .i64 x2)) w
theorem e81 (r0 : Option Addr) (w : World) (R : Ending → World → Prop) : denS Tryd.prog s81 (argsEnv 0 [(.pointer r0)]) w (endK r81 R) = d81 r0 w R := by kernel_rfl
theorem c81 (r0 : Option Addr) {w : World} {R : Ending → World → Prop} (h : d81 r0 w R) : Calls Tryd.prog 81 #[(.pointer r0)] w R :=
  den81 [(.pointer r0)] w R (by simp) ((e81 r0 w R).symm ▸ h)

/-- (*prelude/codec.Reader).Left -/
def s45 : S := (.seq (.ops [⟨(some 2), (.mv (.const (.int .i64 0))), (.int .i64), none⟩] [0])
 (.seq (.draw (.take 0 ⟨(some 3), (.mv (.tmp 0)), .ptr, none⟩
  (.take 1 ⟨(some 4), (.nc (.tmp 3)), .any, none⟩
  (.take 2 ⟨(some 5), (.fa 0 (.tmp 4)), .ptr, none⟩
  (.take 3 ⟨(some 6), (.ld1 (.tmp 5)), .sl, none⟩
  (.take 4 ⟨(some 7), (.len (.tmp 6)), (.int .i64), none⟩
  (.take 5 ⟨(some 8), (.mv (.tmp 0)), .ptr, none⟩
  (.take 6 ⟨(some 9), (.nc (.tmp 8)), .any, none⟩
  (.take 7 ⟨(some 10), (.fa 1 (.tmp 9)), .ptr, none⟩
  (.take 8 ⟨(some 11), (.ld1 (.tmp 10)), (.int .i64), none⟩
  (.take 9 ⟨(some 12), (.bin .sub (.tmp 7) (.tmp 11)), (.int .i64), none⟩
  (.take 10 ⟨(some 2), (.mv (.tmp 12)), (.int .i64), none⟩
  .done))))))))))) [2])
 .ret))
def r45 : List Res := [.t 2]
theorem tr45 : trS Tryd.prog [] 13 (Tryd.f45.body.getD .skip) s45 = some s45 := by kernel_rfl
theorem den45 (args : List Value) (w : World) (R : Ending → World → Prop) (hn : args.length ≤ 13) (h : denS Tryd.prog s45 (argsEnv 0 args) w (endK r45 R)) : Calls Tryd.prog 45 args.toArray w R :=
  calls_of_den (pn := []) (fn := Tryd.f45) (c := Tryd.f45.body.getD .skip) Tryd.func45 (by kernel_rfl) (by rw [Tryd.ntmps45]; exact hn) (by rw [Tryd.ntmps45]; exact tr45) (by kernel_rfl) h
def d45 (r0 : Option Addr) (w : World) (R : Ending → World → Prop) : Prop :=
 ∀ w1 : World, w1 = World.drew w →
 optK r0 fun a2 =>
 ∃ (x3 : Option Addr) (x3n : Nat) (x3c : Nat), World.cell? w1 (Addr.add a2 0) = some (.slice x3 x3n x3c) ∧
 optK r0 fun a4 =>
 ∃ x5 : Int, World.cell? w1 (Addr.add a4 1) = some (.int .i64 x5) ∧
 R (.returned (.int .i64 (IntKind.wrap .i64 (((x3n : Nat) : Int) - x5)))) w1
theorem e45 (r0 : Option Addr) (w : World) (R : Ending → World → Prop) : denS Tryd.prog s45 (argsEnv 0 [(.pointer r0)]) w (endK r45 R) = d45 r0 w R := by kernel_rfl
theorem c45 (r0 : Option Addr) {w : World} {R : Ending → World → Prop} (h : d45 r0 w R) : Calls Tryd.prog 45 #[(.pointer r0)] w R :=
  den45 [(.pointer r0)] w R (by simp) ((e45 r0 w R).symm ▸ h)

/-- (*prelude/codec.Reader).Err -/
def s77 : S := (.seq (.ops [⟨(some 2), (.mv (.const (.int .i64 0))), (.int .i64), none⟩] [0])
 (.seq (.ops [⟨(some 3), (.mv (.tmp 0)), .ptr, none⟩,
  ⟨(some 4), (.nc (.tmp 3)), .any, none⟩,
  ⟨(some 5), (.fa 2 (.tmp 4)), .ptr, none⟩,
  ⟨(some 6), (.ld1 (.tmp 5)), (.int .i64), none⟩,
  ⟨(some 2), (.mv (.tmp 6)), (.int .i64), none⟩] [2])
 .ret))
def r77 : List Res := [.t 2]
theorem tr77 : trS Tryd.prog [] 7 (Tryd.f77.body.getD .skip) s77 = some s77 := by kernel_rfl
theorem den77 (args : List Value) (w : World) (R : Ending → World → Prop) (hn : args.length ≤ 7) (h : denS Tryd.prog s77 (argsEnv 0 args) w (endK r77 R)) : Calls Tryd.prog 77 args.toArray w R :=
  calls_of_den (pn := []) (fn := Tryd.f77) (c := Tryd.f77.body.getD .skip) Tryd.func77 (by kernel_rfl) (by rw [Tryd.ntmps77]; exact hn) (by rw [Tryd.ntmps77]; exact tr77) (by kernel_rfl) h
def d77 (r0 : Option Addr) (w : World) (R : Ending → World → Prop) : Prop :=
 optK r0 fun a1 =>
 ∃ x2 : Int, World.cell? w (Addr.add a1 2) = some (.int .i64 x2) ∧
 R (.returned (.int .i64 x2)) w
theorem e77 (r0 : Option Addr) (w : World) (R : Ending → World → Prop) : denS Tryd.prog s77 (argsEnv 0 [(.pointer r0)]) w (endK r77 R) = d77 r0 w R := by kernel_rfl
theorem c77 (r0 : Option Addr) {w : World} {R : Ending → World → Prop} (h : d77 r0 w R) : Calls Tryd.prog 77 #[(.pointer r0)] w R :=
  den77 [(.pointer r0)] w R (by simp) ((e77 r0 w R).symm ▸ h)

/-- (*prelude/codec.Reader).End -/
def s50 : S := (.seq (.ops [⟨(some 2), (.mv (.const (.int .i64 0))), (.int .i64), none⟩] [0])
 (.seq (.seq (.draw (.take 0 ⟨(some 3), (.mv (.tmp 0)), .ptr, none⟩
  (.take 1 ⟨(some 4), (.nc (.tmp 3)), .any, none⟩
  (.take 2 ⟨(some 5), (.fa 2 (.tmp 4)), .ptr, none⟩
  (.take 3 ⟨(some 6), (.ld1 (.tmp 5)), (.int .i64), none⟩
  (.take 4 ⟨(some 7), (.bin .eql (.tmp 6) (.const (.int .i64 0))), .bool, none⟩
  (.take 5 ⟨(some 8), (.mv (.tmp 7)), .bool, none⟩
  (.take 6 ⟨(some 9), (.mv (.tmp 0)), .ptr, (some (8, true))⟩
  (.take 7 ⟨(some 10), (.nc (.tmp 9)), .any, (some (8, true))⟩
  (.take 8 ⟨(some 11), (.fa 1 (.tmp 10)), .ptr, (some (8, true))⟩
  (.take 9 ⟨(some 12), (.ld1 (.tmp 11)), (.int .i64), (some (8, true))⟩
  (.take 10 ⟨(some 13), (.mv (.tmp 0)), .ptr, (some (8, true))⟩
  (.take 11 ⟨(some 14), (.nc (.tmp 13)), .any, (some (8, true))⟩
  (.take 12 ⟨(some 15), (.fa 0 (.tmp 14)), .ptr, (some (8, true))⟩
  (.take 13 ⟨(some 16), (.ld1 (.tmp 15)), .sl, (some (8, true))⟩
  (.take 14 ⟨(some 17), (.len (.tmp 16)), (.int .i64), (some (8, true))⟩
  (.take 15 ⟨(some 18), (.bin .lss (.tmp 12) (.tmp 17)), .bool, (some (8, true))⟩
  (.take 16 ⟨(some 19), (.pick (.tmp 8) (.tmp 18) (.const (.bool false))), .bool, none⟩
  .done))))))))))))))))) [19, 0])
 (.cond (.tmp 19)
 (.seq (.ops [⟨(some 2), (.mv (.const (.int .i64 11))), (.int .i64), none⟩] [2])
 .ret)
 .skip))
 (.seq (.ops [⟨(some 20), (.mv (.tmp 0)), .ptr, none⟩,
  ⟨(some 21), (.nc (.tmp 20)), .any, none⟩,
  ⟨(some 22), (.fa 2 (.tmp 21)), .ptr, none⟩,
  ⟨(some 23), (.ld1 (.tmp 22)), (.int .i64), none⟩,
  ⟨(some 2), (.mv (.tmp 23)), (.int .i64), none⟩] [2])
 .ret)))
def r50 : List Res := [.t 2]
theorem tr50 : trS Tryd.prog [] 24 (Tryd.f50.body.getD .skip) s50 = some s50 := by kernel_rfl
theorem den50 (args : List Value) (w : World) (R : Ending → World → Prop) (hn : args.length ≤ 24) (h : denS Tryd.prog s50 (argsEnv 0 args) w (endK r50 R)) : Calls Tryd.prog 50 args.toArray w R :=
  calls_of_den (pn := []) (fn := Tryd.f50) (c := Tryd.f50.body.getD .skip) Tryd.func50 (by kernel_rfl) (by rw [Tryd.ntmps50]; exact hn) (by rw [Tryd.ntmps50]; exact tr50) (by kernel_rfl) h
def d50 (r0 : Option Addr) (w : World) (R : Ending → World → Prop) : Prop :=
 ∀ w1 : World, w1 = World.drew w →
 optK r0 fun a2 =>
 ∃ x3 : Int, World.cell? w1 (Addr.add a2 2) = some (.int .i64 x3) ∧
 (bif (decide (x3 = 0)) then
 (optK r0 fun a4 =>
 ∃ x5 : Int, World.cell? w1 (Addr.add a4 1) = some (.int .i64 x5) ∧
 optK r0 fun a6 =>
 ∃ (x7 : Option Addr) (x7n : Nat) (x7c : Nat), World.cell? w1 (Addr.add a6 0) = some (.slice x7 x7n x7c) ∧
 (bif (decide (x5 < ((x7n : Nat) : Int))) then
 (R (.returned (.int .i64 11)) w1)
 else
 (optK r0 fun a8 =>
 ∃ x9 : Int, World.cell? w1 (Addr.add a8 2) = some (.int .i64 x9) ∧
 R (.returned (.int .i64 x9)) w1)))
 else
 (optK r0 fun a10 =>
 ∃ x11 : Int, World.cell? w1 (Addr.add a10 2) = some (.int .i64 x11) ∧
 R (.returned (.int .i64 x11)) w1))
theorem e50 (r0 : Option Addr) (w : World) (R : Ending → World → Prop) : denS Tryd.prog s50 (argsEnv 0 [(.pointer r0)]) w (endK r50 R) = d50 r0 w R := by kernel_rfl
theorem c50 (r0 : Option Addr) {w : World} {R : Ending → World → Prop} (h : d50 r0 w R) : Calls Tryd.prog 50 #[(.pointer r0)] w R :=
  den50 [(.pointer r0)] w R (by simp) ((e50 r0 w R).symm ▸ h)

/-- slices.Clone[[]byte,byte] -/
def s61 : S := (.seq (.ops [⟨(some 2), (.mv (.const (.slice none 0 0))), .sl, none⟩] [0])
 (.seq (.seq (.ops [⟨(some 3), (.mv (.tmp 0)), .sl, none⟩,
  ⟨(some 4), (.nilEq false 0 (.tmp 3)), .bool, none⟩] [4, 0])
 (.cond (.tmp 4)
 (.seq (.ops [⟨(some 2), (.mv (.const (.slice none 0 0))), .sl, none⟩] [2])
 .ret)
 .skip))
 (.seq (.ops [⟨(some 5), (.bld0 5 0), .sl, none⟩,
  ⟨(some 6), (.mv (.tmp 0)), .sl, none⟩,
  ⟨(some 7), (.app #[22, 22] 22 (.tmp 5) (.tmp 6)), .sl, none⟩,
  ⟨(some 2), (.mv (.tmp 7)), .sl, none⟩] [2])
 .ret)))
def r61 : List Res := [.t 2]
theorem tr61 : trS Tryd.prog [] 8 (Tryd.f61.body.getD .skip) s61 = some s61 := by kernel_rfl
theorem den61 (args : List Value) (w : World) (R : Ending → World → Prop) (hn : args.length ≤ 8) (h : denS Tryd.prog s61 (argsEnv 0 args) w (endK r61 R)) : Calls Tryd.prog 61 args.toArray w R :=
  calls_of_den (pn := []) (fn := Tryd.f61) (c := Tryd.f61.body.getD .skip) Tryd.func61 (by kernel_rfl) (by rw [Tryd.ntmps61]; exact hn) (by rw [Tryd.ntmps61]; exact tr61) (by kernel_rfl) h
def d61 (s0 : Option Addr) (s0n : Nat) (s0c : Nat) (w : World) (R : Ending → World → Prop) : Prop :=
 (bif (Option.isNone s0) then
 (R (.returned (.slice none 0 0)) w)
 else
 (∀ w1 : World, w1 = World.alloc w (.cells #[] 5) →
 RunV Tryd.prog (Builtin.append_ #[22, 22] 22 #[(.slice (some ⟨World.heap w |>.size, 0, none⟩) 0 0), (.slice s0 s0n s0c)]) w1 fun v2 w3 => ∃ (x4 : Option Addr) (x4n : Nat) (x4c : Nat), v2 = (.slice x4 x4n x4c) ∧
 R (.returned (.slice x4 x4n x4c)) w3))
theorem e61 (s0 : Option Addr) (s0n : Nat) (s0c : Nat) (w : World) (R : Ending → World → Prop) : denS Tryd.prog s61 (argsEnv 0 [(.slice s0 s0n s0c)]) w (endK r61 R) = d61 s0 s0n s0c w R := by kernel_rfl
theorem c61 (s0 : Option Addr) (s0n : Nat) (s0c : Nat) {w : World} {R : Ending → World → Prop} (h : d61 s0 s0n s0c w R) : Calls Tryd.prog 61 #[(.slice s0 s0n s0c)] w R :=
  den61 [(.slice s0 s0n s0c)] w R (by simp) ((e61 s0 s0n s0c w R).symm ▸ h)

end Go.Proofs.YtjchneebdlncfaaDoor.Fn
namespace Go.Proofs.YtjchneebdlncfaaDoor.Lib
open Go Den Fn
open Go.RowKit (Below)
set_option maxRecDepth 8000
set_option maxHeartbeats 1000000
theorem clone_c (w : World) (bs : List Int) (a : Option Addr) (n c : Nat) (hr : RSl w 1 a n c (u8 bs)) (hN : n ≤ 140737488355328) :
    Calls Tryd.prog 61 #[.slice a n c] w fun e w' => ∃ a' c', e = .returned (.slice a' n c') ∧ w'.ownsRow w.heap.size 5 1 (.slice a' n c') n (u8 bs) ∧ Tch [] w w' := by
  refine c61 _ _ _ ?_
  unfold d61
  cases a with
  | none =>
    show ∃ _, _
    have hn : n = 0 := by
      rcases hr.at' with h | ⟨b, o, h, _⟩
      · have := hr.cap; omega
      · cases h
    subst hn
    have : bs = [] := by have := u8_len hr; exact List.length_eq_zero_iff.1 this
    subst this
    exact ⟨none, 0, rfl, own_nil _ _ _ _, Tch.refl _ _⟩
  | some x =>
    show ∀ _, _
    rintro w1 rfl
    have hb : Below w.heap.size w (w.alloc (.cells #[] 5)) := (Below.refl _ _).alloc (Nat.le_refl _) _
    have hs := size_alloc w (.cells #[] 5)
    refine app_at bT (own_new w (n := 0) (cs := []) (base := w.heap.size) (size := 1) (Nat.le_refl _) rfl (by omega)) (hr.below hb) (by omega) (by omega) (by omega) fun a' c' w' h1 h2 h3 => ?_
    rw [Nat.zero_add, List.nil_append] at h1
    rw [Nat.zero_add]
    exact ⟨a', c', rfl, h1, ((Tch.refl [] w).alloc _).trans h2 fun i hi => .inr (by simp [rowL] at hi; omega)⟩
end Go.Proofs.YtjchneebdlncfaaDoor.Lib
namespace Go.Proofs.YtjchneebdlncfaaDoor.Lib
open Go Den Fn
open Go.RowKit (Below)
set_option maxRecDepth 8000
set_option maxHeartbeats 1000000
/-- A writer at a block: its bytes lie in a row of its own. -/
def Wr (w : World) (b : Nat) (a : Option Addr) (bs : List Int) : Prop :=
  ∃ c, Blk w b [.slice a bs.length c] ∧ w.ownsRow (b + 1) 5 1 (.slice a bs.length c) bs.length (u8 bs)
/-- Behind a call: it has these bytes; and what it has touched. -/
def WrR (w w' : World) (b : Nat) (a : Option Addr) (bs : List Int) : Prop := Tch (b :: rowL a) w w' ∧ ∃ a', Wr w' b a' bs ∧ Moved a a' w.heap.size
theorem Wr.lt {w : World} {b : Nat} {a : Option Addr} {bs : List Int} (h : Wr w b a bs) : b < w.heap.size := h.elim fun _ h => h.1.lt
theorem Wr.row {w : World} {b : Nat} {a : Option Addr} {bs : List Int} (h : Wr w b a bs) : ∀ i ∈ rowL a, b + 1 ≤ i ∧ i < w.heap.size := h.elim fun _ h => rowL_ge h.2
theorem Wr.keep {w w' : World} {b : Nat} {a : Option Addr} {bs : List Int} (h : Wr w b a bs) (hk : ∀ k, (k = b ∨ blkOf a k) → k < w.heap.size → w'.heap[k]? = w.heap[k]?) : Wr w' b a bs := by
  obtain ⟨c, h1, h2⟩ := h
  exact ⟨c, h1.of_heap (hk b (.inl rfl) h1.lt), own_keep' h2 fun k hb hlt => hk k (.inr hb) hlt⟩
theorem Wr.quiet {w w' : World} {b : Nat} {a : Option Addr} {bs : List Int} (h : Wr w b a bs) (ht : Tch [] w w') : Wr w' b a bs := h.keep fun k _ hlt => ht.block k hlt (by simp)
theorem WrR.below {w w' : World} {b : Nat} {a : Option Addr} {bs bs' : List Int} (h : WrR w w' b a bs') (h0 : Wr w b a bs) : Below b w w' :=
  tch_base h.1 (Nat.le_of_lt h0.lt) fun i hi => by
    rcases List.mem_cons.1 hi with rfl | hi
    · exact Nat.le_refl _
    · have := h0.row i hi; omega
theorem WrR.trans {w w1 w2 : World} {b : Nat} {a a1 : Option Addr} {bs : List Int} (h : Tch (b :: rowL a) w w1) (hm : Moved a a1 w.heap.size) (k : WrR w1 w2 b a1 bs) : WrR w w2 b a bs := by
  obtain ⟨k1, a2, k2, k3⟩ := k
  refine ⟨h.trans k1 fun i hi => ?_, a2, k2, hm.trans k3 h.size⟩
  rcases List.mem_cons.1 hi with rfl | hi
  · exact .inl (by simp)
  · rw [mem_rowL] at hi
    obtain ⟨x, hx, rfl⟩ := hi
    rcases hm x hx with hk | hk
    · exact .inl (List.mem_cons_of_mem _ hk)
    · exact .inr hk
/-- The new slice is put into the writer. -/
theorem wr_put {w w7 : World} {b : Nat} {a a' : Option Addr} {n c' : Nat} {old : List Value} {bs : List Int} (hb : Blk w7 b [old.getD 0 (.bool false)]) (hn : n = bs.length) (hown : w7.ownsRow (b + 1) 5 1 (.slice a' n c') n (u8 bs)) (ht : Tch (b :: rowL a) w w7) (hm : Moved a a' w.heap.size) {K : World → Prop}
    (hK : ∀ w', WrR w w' b a bs → K w') :
    one (.slice a' n c') = true ∧ Option.isSome (World.cell? w7 (Addr.add ⟨b, 0, none⟩ 0)) = true ∧ World.frozen? w7 (Addr.add ⟨b, 0, none⟩ 0) = false ∧ ∀ w10 : World, w10 = World.setCell w7 (Addr.add ⟨b, 0, none⟩ 0) (.slice a' n c') → K w10 := by
  subst hn
  rw [add_mk]
  refine ⟨rfl, by rw [hb.cell]; rfl, hb.frozen _, ?_⟩
  rintro w10 rfl
  refine hK _ ⟨ht.setCell (.inl (by simp)) _, a', ⟨c', ?_, ?_⟩, hm⟩
  · have := hb.set 0 (.slice a' bs.length c')
    simpa using this
  · refine own_keep' hown fun k hk _ => Below.heap_setCell _ _ _ _ ?_
    have := rowL_ge hown k (mem_rowL.2 hk)
    show k ≠ b
    omega
theorem wr_byte {w : World} {b : Nat} {a : Option Addr} {bs : List Int} {v : Int} (h : Wr w b a bs) (hl : bs.length < 140737488355328) {K : World → Prop} (hK : ∀ w', WrR w w' b a (bs ++ [v]) → K w') :
    optK (some ⟨b, 0, none⟩) fun a2 => ∃ (x3 : Option Addr) (x3n : Nat) (x3c : Nat), World.cell? w (Addr.add a2 0) = some (.slice x3 x3n x3c) ∧
      ∃ cs4, fillL (.elems 1) (zrep (zc Tryd.prog 5) (1 * 1)) [(0, (.int .u8 v))] = some cs4 ∧
      ∀ w5 : World, w5 = World.alloc w (.cells (List.toArray cs4) 5) →
      RunV Tryd.prog (Builtin.append_ #[22, 22] 22 #[(.slice x3 x3n x3c), (.slice (some ⟨World.heap w |>.size, 0, none⟩) 1 1)]) w5 fun v6 w7 => ∃ (x8 : Option Addr) (x8n : Nat) (x8c : Nat), v6 = (.slice x8 x8n x8c) ∧
      optK (some ⟨b, 0, none⟩) fun a9 => one (.slice x8 x8n x8c) = true ∧ Option.isSome (World.cell? w7 (Addr.add a9 0)) = true ∧ World.frozen? w7 (Addr.add a9 0) = false ∧
      ∀ w10 : World, w10 = World.setCell w7 (Addr.add a9 0) (.slice x8 x8n x8c) → K w10 := by
  obtain ⟨c, h1, h2⟩ := h
  refine ⟨a, _, c, by rw [add_mk]; exact h1.cell 0, ?_⟩
  have hlt := h1.lt
  refine app_elem_at bT h2 (by rw [zc8]; rfl) (ys := u8 [v]) rfl rfl ones_ints (by omega) (by omega) (by omega) fun a' c' w7 k1 k2 k3 => ?_
  rw [← List.map_append] at k1
  refine wr_put (old := [.slice a bs.length c]) (h1.tch k2 ?_) (by simp) k1 (k2.weaken fun i hi => .inl (List.mem_cons_of_mem _ hi)) k3 hK
  intro hm
  have := rowL_ge h2 b hm
  omega
theorem wr_raw {w : World} {b : Nat} {a : Option Addr} {bs ys : List Int} {xa : Option Addr} {xn xc : Nat} (h : Wr w b a bs) (hx : RSl w 1 xa xn xc (u8 ys)) (hl : bs.length + xn ≤ 140737488355328) {K : World → Prop} (hK : ∀ w', WrR w w' b a (bs ++ ys) → K w') :
    optK (some ⟨b, 0, none⟩) fun a2 => ∃ (x3 : Option Addr) (x3n : Nat) (x3c : Nat), World.cell? w (Addr.add a2 0) = some (.slice x3 x3n x3c) ∧
      RunV Tryd.prog (Builtin.append_ #[22, 22] 22 #[(.slice x3 x3n x3c), (.slice xa xn xc)]) w fun v6 w7 => ∃ (x8 : Option Addr) (x8n : Nat) (x8c : Nat), v6 = (.slice x8 x8n x8c) ∧
      optK (some ⟨b, 0, none⟩) fun a9 => one (.slice x8 x8n x8c) = true ∧ Option.isSome (World.cell? w7 (Addr.add a9 0)) = true ∧ World.frozen? w7 (Addr.add a9 0) = false ∧
      ∀ w10 : World, w10 = World.setCell w7 (Addr.add a9 0) (.slice x8 x8n x8c) → K w10 := by
  obtain ⟨c, h1, h2⟩ := h
  refine ⟨a, _, c, by rw [add_mk]; exact h1.cell 0, ?_⟩
  have hlt := h1.lt
  have hxl := u8_len hx
  refine app_at bT h2 hx (by omega) (by omega) (by omega) fun a' c' w7 k1 k2 k3 => ?_
  rw [← List.map_append] at k1
  refine wr_put (old := [.slice a bs.length c]) (h1.tch k2 ?_) (by simp; omega) k1 (k2.weaken fun i hi => .inl (List.mem_cons_of_mem _ hi)) k3 hK
  intro hm
  have := rowL_ge h2 b hm
  omega
theorem zcWriter : zc Tryd.prog 132 = [.slice none 0 0] := by kernel_rfl
theorem new_c (w : World) : Calls Tryd.prog 30 #[] w fun e w' => e = .returned (.pointer (some ⟨w.heap.size, 0, none⟩)) ∧ Wr w' w.heap.size none [] ∧ Tch [] w w' := by
  refine c30 ?_
  unfold d30
  refine ⟨[.slice none 0 0], by rw [zcWriter]; rfl, ?_⟩
  rintro w1 rfl
  exact ⟨rfl, ⟨0, Blk.fresh _ _ rfl, own_nil _ _ _ _⟩, (Tch.refl [] w).alloc _⟩
theorem raw_c (w : World) (b : Nat) (a : Option Addr) (bs ys : List Int) (xa : Option Addr) (xn xc : Nat) (h : Wr w b a bs) (hx : RSl w 1 xa xn xc (u8 ys)) (hl : bs.length + xn ≤ 140737488355328) :
    Calls Tryd.prog 32 #[.pointer (some ⟨b, 0, none⟩), .slice xa xn xc] w fun e w' => e = .returned (.tuple #[]) ∧ WrR w w' b a (bs ++ ys) := by
  refine c32 _ _ _ _ ?_
  unfold d32
  exact wr_raw h hx hl fun w' hw => ⟨rfl, hw⟩
theorem or128 {n : Nat} : bOr .u8 (IntKind.wrap .u8 (n : Int)) 128 = ((n % 128 + 128 : Nat) : Int) := by
  have key : ∀ m : Fin 256, bOr .u8 (m.val : Int) 128 = ((m.val % 128 + 128 : Nat) : Int) := by decide +kernel
  have h := key ⟨n % 256, by omega⟩
  simp only at h
  rw [wrap_u8_eq, show (n : Int) % 256 = ((n % 256 : Nat) : Int) by omega, h]
  congr 2
  omega
theorem uint_c (w : World) (b : Nat) (a : Option Addr) (bs : List Int) (n : Nat) (h : Wr w b a bs) (hn : n < 18446744073709551616) (hl : bs.length + 10 ≤ 140737488355328) :
    Calls Tryd.prog 31 #[.pointer (some ⟨b, 0, none⟩), .int .u64 n] w fun e w' => e = .returned (.tuple #[]) ∧ WrR w w' b a (bs ++ uv n) := by
  refine c31 _ _ ?_
  unfold d31
  refine ⟨fun m x w' => ∃ (k : Nat) (pre : List Int) (a1 : Option Addr), x = k ∧ m = k ∧ k < 18446744073709551616 ∧ uv n = pre ++ uv k ∧ Wr w' b a1 (bs ++ pre) ∧ Tch (b :: rowL a) w w' ∧ Moved a a1 w.heap.size, ⟨n, n, [], a, rfl, rfl, hn, rfl, by simpa using h, Tch.refl _ _, Moved.refl _ _⟩, ?_⟩
  rintro m w4 x ⟨k, pre, a1, rfl, rfl, hk, hu, hw, ht, hm⟩
  have hl10 := (uv_len10 hn).2
  have hl1 := (uv_len10 hk).1
  rw [hu, List.length_append] at hl10
  by_cases h1 : 128 ≤ m
  · rw [bif_pos (by omega)]
    refine wr_byte hw (by rw [List.length_append]; omega) fun w' hw' => ⟨by omega, ?_⟩
    obtain ⟨t1, a2, t2, t3⟩ := WrR.trans ht hm hw'
    rw [show (7 : Int) = ((7 : Nat) : Int) from rfl, shR_nat (k := .u64) 7 (by decide), show (m : Int) / 2 ^ 7 = ((m / 128 : Nat) : Int) by omega]
    refine ⟨m / 128, by omega, m / 128, pre ++ [((m % 128 + 128 : Nat) : Int)], a2, rfl, rfl, by omega, ?_, ?_, t1, t3⟩
    · rw [hu, uv_hi h1, List.append_assoc]
      rfl
    · rw [or128, List.append_assoc] at t2
      exact t2
  · rw [bif_neg (by omega)]
    refine wr_byte hw (by rw [List.length_append]; omega) fun w' hw' => ⟨rfl, ?_⟩
    have := WrR.trans ht hm hw'
    rw [wrap_u8 (by omega) (by omega), List.append_assoc] at this
    rw [hu, uv_lo (by omega)]
    exact this
theorem zig {n : Int} (h : I64 n) : bXor .u64 (shL .u64 (IntKind.wrap .u64 n) 1) (IntKind.wrap .u64 (shR .i64 n 63)) = (fold n : Int) := by
  unfold I64 at h
  have e2 : shR .i64 n 63 = if 0 ≤ n then 0 else -1 := by
    rw [show (63 : Int) = ((63 : Nat) : Int) from rfl, shR_nat (k := .i64) 63 (by decide)]
    split <;> omega
  have e1 : shL .u64 (IntKind.wrap .u64 n) 1 = if 0 ≤ n then 2 * n else 18446744073709551616 + 2 * n := by
    unfold shL
    rw [wrap_u64_eq, wrap_u64_eq, show min (Int.toNat 1) (IntKind.bits .u64) = 1 from rfl]
    split <;> omega
  rw [e1, e2]
  unfold fold
  split
  · rename_i h0
    obtain ⟨k, rfl⟩ := Int.eq_ofNat_of_zero_le h0
    rw [show IntKind.wrap .u64 0 = 0 from rfl]
    unfold bXor
    rw [BitVec.toNat_xor, toNat_ofInt (n := IntKind.bits .u64) (by omega) (by show (2 * (k : Int)) < 18446744073709551616; omega), show (BitVec.ofInt (IntKind.bits .u64) 0).toNat = 0 from rfl, Nat.xor_zero, wrap_u64 (by omega) (by omega)]
    omega
  · rename_i h0
    rw [show IntKind.wrap .u64 (-1) = 18446744073709551615 from rfl]
    have hx : ∀ x : BitVec 64, (x ^^^ 18446744073709551615#64).toNat = 18446744073709551615 - x.toNat := by
      intro x
      rw [show (18446744073709551615#64 : BitVec 64) = BitVec.allOnes 64 from rfl, BitVec.xor_allOnes, BitVec.toNat_not]
    unfold bXor
    show IntKind.wrap .u64 (((BitVec.ofInt 64 (18446744073709551616 + 2 * n) ^^^ 18446744073709551615#64).toNat : Nat) : Int) = _
    rw [hx, toNat_ofInt (n := 64) (by omega) (by show (18446744073709551616 + 2 * n) < 18446744073709551616; omega), wrap_u64 (by omega) (by omega)]
    omega
theorem int_c (w : World) (b : Nat) (a : Option Addr) (bs : List Int) (n : Int) (h : Wr w b a bs) (hn : I64 n) (hl : bs.length + 10 ≤ 140737488355328) :
    Calls Tryd.prog 67 #[.pointer (some ⟨b, 0, none⟩), .int .i64 n] w fun e w' => e = .returned (.tuple #[]) ∧ WrR w w' b a (bs ++ iv n) := by
  refine c67 _ _ ?_
  unfold d67
  refine ⟨by omega, by omega, ?_⟩
  rw [zig hn]
  refine (uint_c w b a bs (fold n) h (fold_range hn) hl).mono ?_
  rintro e w' ⟨rfl, hw⟩
  exact ⟨rfl, rfl, hw⟩
theorem out_c (w : World) (b : Nat) (a : Option Addr) (bs : List Int) (h : Wr w b a bs) (hl : bs.length ≤ 140737488355328) :
    Calls Tryd.prog 34 #[.pointer (some ⟨b, 0, none⟩)] w fun e w' => ∃ a' c', e = .returned (.slice a' bs.length c') ∧ w'.ownsRow w.heap.size 5 1 (.slice a' bs.length c') bs.length (u8 bs) ∧ Tch [] w w' := by
  refine c34 _ ?_
  unfold d34
  obtain ⟨c, h1, h2⟩ := h
  refine ⟨a, _, c, by rw [add_mk]; exact h1.cell 0, ?_⟩
  refine (clone_c w bs a _ c (own_rsl h2 ones_ints) hl).mono ?_
  rintro e w' ⟨a', c', rfl, hown, ht⟩
  exact ⟨_, _, _, rfl, a', c', rfl, hown, ht⟩
end Go.Proofs.YtjchneebdlncfaaDoor.Lib
set_option maxRecDepth 100000
namespace Go.Proofs.YtjchneebdlncfaaDoor.Fn
open Go Den
/-- prelude/batch.Encode -/
def s29 : S := (.seq (.ops [⟨(some 2), (.mv (.const (.slice none 0 0))), .sl, none⟩,
  ⟨(some 3), (.mv (.const (.int .i64 0))), (.int .i64), none⟩] [0])
 (.seq (.seq (.ops [⟨(some 18), (.mv (.tmp 0)), .sl, none⟩,
  ⟨(some 19), (.call 65 [(.tmp 18), (.func 66)] [(.int .i64), (.int .i64)]), .any, none⟩,
  ⟨(some 17), (.mv (.tmp 19)), .any, none⟩,
  ⟨(some 20), (.ext 0 (.tmp 17)), (.int .i64), none⟩,
  ⟨(some 21), (.ext 1 (.tmp 17)), (.int .i64), none⟩,
  ⟨(some 4), (.mv (.tmp 20)), (.int .i64), none⟩,
  ⟨(some 5), (.mv (.tmp 21)), (.int .i64), none⟩] [5, 0])
 (.seq (.ops [⟨(some 22), (.mv (.tmp 5)), (.int .i64), none⟩,
  ⟨(some 23), (.bin .neq (.tmp 22) (.const (.int .i64 0))), .bool, none⟩] [23, 5, 0])
 (.cond (.tmp 23)
 (.seq (.ops [⟨(some 24), (.mv (.tmp 5)), (.int .i64), none⟩,
  ⟨(some 2), (.mv (.const (.slice none 0 0))), .sl, none⟩,
  ⟨(some 3), (.mv (.tmp 24)), (.int .i64), none⟩] [2, 3])
 .ret)
 .skip)))
 (.seq (.ops [⟨(some 25), (.call 30 [] [.ptr]), .ptr, none⟩,
  ⟨(some 6), (.mv (.tmp 25)), .ptr, none⟩] [6, 0])
 (.seq (.ops [⟨(some 26), (.mv (.tmp 6)), .ptr, none⟩,
  ⟨(some 27), (.mv (.tmp 0)), .sl, none⟩,
  ⟨(some 28), (.len (.tmp 27)), (.int .i64), none⟩,
  ⟨(some 29), (.cv .u64 (.tmp 28)), (.int .u64), none⟩,
  ⟨(some 30), (.call 31 [(.tmp 26), (.tmp 29)] []), .any, none⟩] [0, 6])
 (.seq (.seq (.ops [⟨(some 31), (.mv (.tmp 0)), .sl, none⟩,
  ⟨(some 32), (.len (.tmp 31)), (.int .i64), none⟩,
  ⟨(some 33), (.mv (.const (.int .i64 0))), (.int .i64), none⟩] [33, 32, 31, 6])
 (.block 0
 (.loop [(33, (.int .i64))] [6, 31, 32]
 (.seq (.ops [⟨(some 34), (.bin .lss (.tmp 33) (.tmp 32)), .any, none⟩] [34, 31, 33, 6, 32])
 (.seq (.cond (.tmp 34)
 .skip
 (.exit 0))
 (.seq (.block 1
 (.seq (.ops [⟨(some 35), (.ia 4 (.tmp 31) (.tmp 33)), .ptr, none⟩,
  ⟨(some 36), (.ldN 4 (.tmp 35)), .agg, none⟩,
  ⟨(some 8), (.alloc 76), .ptr, none⟩,
  ⟨none, (.stN 4 (.tmp 8) (.tmp 36)), .any, none⟩] [6, 8, 33, 32, 31])
 (.seq (.ops [⟨(some 37), (.mv (.tmp 6)), .ptr, none⟩,
  ⟨(some 38), (.fa 0 (.tmp 8)), .ptr, none⟩,
  ⟨(some 39), (.ld1 (.tmp 38)), (.int .i64), none⟩,
  ⟨(some 40), (.cv .u64 (.tmp 39)), (.int .u64), none⟩,
  ⟨(some 41), (.call 31 [(.tmp 37), (.tmp 40)] []), .any, none⟩] [6, 8, 33, 32, 31])
 (.seq (.ops [⟨(some 42), (.mv (.tmp 6)), .ptr, none⟩,
  ⟨(some 43), (.fa 1 (.tmp 8)), .ptr, none⟩,
  ⟨(some 44), (.ld1 (.tmp 43)), .sl, none⟩,
  ⟨(some 45), (.len (.tmp 44)), (.int .i64), none⟩,
  ⟨(some 46), (.cv .u64 (.tmp 45)), (.int .u64), none⟩,
  ⟨(some 47), (.call 31 [(.tmp 42), (.tmp 46)] []), .any, none⟩] [8, 6, 33, 32, 31])
 (.seq (.seq (.ops [⟨(some 48), (.fa 1 (.tmp 8)), .ptr, none⟩,
  ⟨(some 49), (.ld1 (.tmp 48)), .sl, none⟩,
  ⟨(some 50), (.len (.tmp 49)), (.int .i64), none⟩,
  ⟨(some 51), (.mv (.const (.int .i64 0))), (.int .i64), none⟩] [51, 50, 49, 6, 8, 33, 32, 31])
 (.block 2
 (.loop [(51, (.int .i64))] [6, 8, 31, 32, 33, 49, 50]
 (.seq (.ops [⟨(some 52), (.bin .lss (.tmp 51) (.tmp 50)), .any, none⟩] [52, 49, 51, 6, 50, 8, 33, 32, 31])
 (.seq (.cond (.tmp 52)
 .skip
 (.exit 2))
 (.seq (.block 3
 (.seq (.ops [⟨(some 53), (.ia 1 (.tmp 49) (.tmp 51)), .ptr, none⟩,
  ⟨(some 54), (.ld1 (.tmp 53)), (.int .i64), none⟩,
  ⟨(some 10), (.mv (.tmp 54)), (.int .i64), none⟩] [6, 10, 51, 50, 49, 8, 33, 32, 31])
 (.ops [⟨(some 55), (.mv (.tmp 6)), .ptr, none⟩,
  ⟨(some 56), (.mv (.tmp 10)), (.int .i64), none⟩,
  ⟨(some 57), (.call 67 [(.tmp 55), (.tmp 56)] []), .any, none⟩] [51, 50, 49, 6, 8, 33, 32, 31])))
 (.ops [⟨(some 58), (.bin .add (.tmp 51) (.const (.int .i64 1))), (.int .i64), none⟩,
  ⟨(some 51), (.mv (.tmp 58)), (.int .i64), none⟩] [51, 50, 49, 6, 8, 33, 32, 31])))))))
 (.seq (.ops [⟨(some 59), (.fa 2 (.tmp 8)), .ptr, none⟩,
  ⟨(some 60), (.ld1 (.tmp 59)), .sl, none⟩,
  ⟨(some 61), (.fa 3 (.tmp 8)), .ptr, none⟩,
  ⟨(some 62), (.ld1 (.tmp 61)), .sl, none⟩,
  ⟨(some 63), (.bld 127 (.elems 1) [(0, (.tmp 60)), (1, (.tmp 62))]), .agg, none⟩,
  ⟨(some 64), (.mv (.const (.int .i64 0))), (.int .i64), none⟩] [64, 63, 6, 33, 32, 31])
 (.block 4
 (.loop [(64, (.int .i64))] [6, 31, 32, 33, 63]
 (.seq (.ops [⟨(some 65), (.bin .lss (.tmp 64) (.const (.int .i64 2))), .any, none⟩] [65, 63, 64, 6, 33, 32, 31])
 (.seq (.cond (.tmp 65)
 .skip
 (.exit 4))
 (.seq (.block 5
 (.seq (.ops [⟨(some 66), (.ixA 2 1 (.tmp 63) (.tmp 64)), .sl, none⟩,
  ⟨(some 12), (.mv (.tmp 66)), .sl, none⟩] [6, 12, 64, 63, 33, 32, 31])
 (.seq (.ops [⟨(some 67), (.mv (.tmp 6)), .ptr, none⟩,
  ⟨(some 68), (.mv (.tmp 12)), .sl, none⟩,
  ⟨(some 69), (.len (.tmp 68)), (.int .i64), none⟩,
  ⟨(some 70), (.cv .u64 (.tmp 69)), (.int .u64), none⟩,
  ⟨(some 71), (.call 31 [(.tmp 67), (.tmp 70)] []), .any, none⟩] [12, 6, 64, 63, 33, 32, 31])
 (.seq (.ops [⟨(some 72), (.mv (.tmp 12)), .sl, none⟩,
  ⟨(some 73), (.len (.tmp 72)), (.int .i64), none⟩,
  ⟨(some 74), (.mv (.const (.int .i64 0))), (.int .i64), none⟩] [74, 73, 72, 6, 64, 63, 33, 32, 31])
 (.block 6
 (.loop [(74, (.int .i64))] [6, 31, 32, 33, 63, 64, 72, 73]
 (.seq (.ops [⟨(some 75), (.bin .lss (.tmp 74) (.tmp 73)), .any, none⟩] [75, 72, 74, 6, 73, 64, 63, 33, 32, 31])
 (.seq (.cond (.tmp 75)
 .skip
 (.exit 6))
 (.seq (.block 7
 (.seq (.ops [⟨(some 76), (.ia 2 (.tmp 72) (.tmp 74)), .ptr, none⟩,
  ⟨(some 77), (.ldN 2 (.tmp 76)), .agg, none⟩,
  ⟨(some 14), (.alloc 129), .ptr, none⟩,
  ⟨none, (.stN 2 (.tmp 14) (.tmp 77)), .any, none⟩] [14, 6, 74, 73, 72, 64, 63, 33, 32, 31])
 (.seq (.ops [⟨(some 79), (.ldN 2 (.tmp 14)), .agg, none⟩,
  ⟨(some 80), (.call 68 [(.tmp 79)] [.sl, (.int .i64)]), .any, none⟩,
  ⟨(some 78), (.mv (.tmp 80)), .any, none⟩,
  ⟨(some 81), (.ext 0 (.tmp 78)), .sl, none⟩,
  ⟨(some 82), (.ext 1 (.tmp 78)), (.int .i64), none⟩,
  ⟨(some 15), (.mv (.tmp 81)), .sl, none⟩,
  ⟨(some 16), (.mv (.tmp 82)), (.int .i64), none⟩] [6, 15, 74, 73, 72, 64, 63, 33, 32, 31])
 (.ops [⟨(some 83), (.mv (.tmp 6)), .ptr, none⟩,
  ⟨(some 84), (.mv (.tmp 15)), .sl, none⟩,
  ⟨(some 85), (.call 32 [(.tmp 83), (.tmp 84)] []), .any, none⟩] [74, 73, 72, 6, 64, 63, 33, 32, 31]))))
 (.ops [⟨(some 86), (.bin .add (.tmp 74) (.const (.int .i64 1))), (.int .i64), none⟩,
  ⟨(some 74), (.mv (.tmp 86)), (.int .i64), none⟩] [74, 73, 72, 6, 64, 63, 33, 32, 31]))))))))))
 (.ops [⟨(some 87), (.bin .add (.tmp 64) (.const (.int .i64 1))), (.int .i64), none⟩,
  ⟨(some 64), (.mv (.tmp 87)), (.int .i64), none⟩] [64, 63, 6, 33, 32, 31]))))))))))))
 (.ops [⟨(some 88), (.bin .add (.tmp 33) (.const (.int .i64 1))), (.int .i64), none⟩,
  ⟨(some 33), (.mv (.tmp 88)), (.int .i64), none⟩] [33, 32, 31, 6])))))))
 (.seq (.ops [⟨(some 89), (.mv (.tmp 6)), .ptr, none⟩,
  ⟨(some 90), (.call 34 [(.tmp 89)] [.sl]), .sl, none⟩,
  ⟨(some 2), (.mv (.tmp 90)), .sl, none⟩,
  ⟨(some 3), (.mv (.const (.int .i64 0))), (.int .i64), none⟩] [2, 3])
 .ret))))))
def r29 : List Res := [.t 2, .t 3]
theorem tr29 : trS Tryd.prog [] 91 (Tryd.f29.body.getD .skip) s29 = some s29 := by kernel_rfl
theorem den29 (args : List Value) (w : World) (R : Ending → World → Prop) (hn : args.length ≤ 91) (h : denS Tryd.prog s29 (argsEnv 0 args) w (endK r29 R)) : Calls Tryd.prog 29 args.toArray w R :=
  calls_of_den (pn := []) (fn := Tryd.f29) (c := Tryd.f29.body.getD .skip) Tryd.func29 (by kernel_rfl) (by rw [Tryd.ntmps29]; exact hn) (by rw [Tryd.ntmps29]; exact tr29) (by kernel_rfl) h
def d29 (b0 : Option Addr) (b0n : Nat) (b0c : Nat) (w : World) (R : Ending → World → Prop) : Prop :=
 Calls Tryd.prog 65 #[(.slice b0 b0n b0c), (Value.func (.func 66) #[] #[])] w fun e1 w2 => ∃ x3 : Int, ∃ x4 : Int, e1 = .returned (.tuple #[(.int .i64 x3), (.int .i64 x4)]) ∧
 ∃ x5 : Int, (#[(.int .i64 x3), (.int .i64 x4)] : Array Value)[0]? = some (.int .i64 x5) ∧
 ∃ x6 : Int, (#[(.int .i64 x3), (.int .i64 x4)] : Array Value)[1]? = some (.int .i64 x6) ∧
 (bif (!decide (x6 = 0)) then
 (R (.returned (.tuple #[(.slice none 0 0), (.int .i64 x6)])) w2)
 else
 (Calls Tryd.prog 30 #[] w2 fun e7 w8 => ∃ x9 : Option Addr, e7 = .returned (.pointer x9) ∧
 Calls Tryd.prog 31 #[(.pointer x9), (.int .u64 (IntKind.wrap .u64 ((b0n : Nat) : Int)))] w8 fun e10 w11 => e10 = .returned (.tuple #[]) ∧ ∃ I12 : Nat → Int → World → Prop,
 (∃ m, I12 m 0 w11) ∧
 (∀ (m13 : Nat) (w14 : World) (x15 : Int), I12 m13 x15 w14 →
 (bif (decide (x15 < ((b0n : Nat) : Int))) then
 (0 ≤ x15 ∧ x15 < ((b0n : Nat) : Int) ∧ optK b0 fun a16 =>
 ∃ cs17 : List Value, List.length cs17 = 4 ∧ Cells w14 (Addr.add a16 (Int.toNat x15 * 4)) cs17 ∧
 ∀ w18 : World, w18 = World.alloc w14 (.cells (zc Tryd.prog 76).toArray 76) →
 Array.size (List.toArray cs17) = 4 ∧ (∀ u ∈ Array.toList (List.toArray cs17), one u = true) ∧ Room w18 ⟨World.heap w14 |>.size, 0, none⟩ 4 ∧
 ∀ w19 : World, w19 = setCells w18 ⟨World.heap w14 |>.size, 0, none⟩ (Array.toList (List.toArray cs17)) 0 →
 ∃ x20 : Int, World.cell? w19 (Addr.add ⟨World.heap w14 |>.size, 0, none⟩ 0) = some (.int .i64 x20) ∧
 Calls Tryd.prog 31 #[(.pointer x9), (.int .u64 (IntKind.wrap .u64 x20))] w19 fun e21 w22 => e21 = .returned (.tuple #[]) ∧ ∃ (x23 : Option Addr) (x23n : Nat) (x23c : Nat), World.cell? w22 (Addr.add ⟨World.heap w14 |>.size, 0, none⟩ 1) = some (.slice x23 x23n x23c) ∧
 Calls Tryd.prog 31 #[(.pointer x9), (.int .u64 (IntKind.wrap .u64 ((x23n : Nat) : Int)))] w22 fun e24 w25 => e24 = .returned (.tuple #[]) ∧ ∃ (x26 : Option Addr) (x26n : Nat) (x26c : Nat), World.cell? w25 (Addr.add ⟨World.heap w14 |>.size, 0, none⟩ 1) = some (.slice x26 x26n x26c) ∧
 ∃ I27 : Nat → Int → World → Prop,
 (∃ m, I27 m 0 w25) ∧
 (∀ (m28 : Nat) (w29 : World) (x30 : Int), I27 m28 x30 w29 →
 (bif (decide (x30 < ((x26n : Nat) : Int))) then
 (0 ≤ x30 ∧ x30 < ((x26n : Nat) : Int) ∧ optK x26 fun a31 =>
 ∃ x32 : Int, World.cell? w29 (Addr.add a31 (Int.toNat x30 * 1)) = some (.int .i64 x32) ∧
 Calls Tryd.prog 67 #[(.pointer x9), (.int .i64 x32)] w29 fun e33 w34 => e33 = .returned (.tuple #[]) ∧ ∃ m35, m35 < m28 ∧ I27 m35 (IntKind.wrap .i64 (x30 + 1)) w34)
 else
 (∃ (x36 : Option Addr) (x36n : Nat) (x36c : Nat), World.cell? w29 (Addr.add ⟨World.heap w14 |>.size, 0, none⟩ 2) = some (.slice x36 x36n x36c) ∧
 ∃ (x37 : Option Addr) (x37n : Nat) (x37c : Nat), World.cell? w29 (Addr.add ⟨World.heap w14 |>.size, 0, none⟩ 3) = some (.slice x37 x37n x37c) ∧
 ∃ cs38, fillL (.elems 1) (zc Tryd.prog 127) [(0, (.slice x36 x36n x36c)), (1, (.slice x37 x37n x37c))] = some cs38 ∧
 ∃ I39 : Nat → Int → World → Prop,
 (∃ m, I39 m 0 w29) ∧
 (∀ (m40 : Nat) (w41 : World) (x42 : Int), I39 m40 x42 w41 →
 (bif (decide (x42 < 2)) then
 (0 ≤ x42 ∧ x42 < ((2 : Nat) : Int) ∧
 ∃ (x43 : Option Addr) (x43n : Nat) (x43c : Nat), ((List.toArray cs38))[Int.toNat x42 * 1]? = some (.slice x43 x43n x43c) ∧
 Calls Tryd.prog 31 #[(.pointer x9), (.int .u64 (IntKind.wrap .u64 ((x43n : Nat) : Int)))] w41 fun e44 w45 => e44 = .returned (.tuple #[]) ∧ ∃ I46 : Nat → Int → World → Prop,
 (∃ m, I46 m 0 w45) ∧
 (∀ (m47 : Nat) (w48 : World) (x49 : Int), I46 m47 x49 w48 →
 (bif (decide (x49 < ((x43n : Nat) : Int))) then
 (0 ≤ x49 ∧ x49 < ((x43n : Nat) : Int) ∧ optK x43 fun a50 =>
 ∃ cs51 : List Value, List.length cs51 = 2 ∧ Cells w48 (Addr.add a50 (Int.toNat x49 * 2)) cs51 ∧
 ∀ w52 : World, w52 = World.alloc w48 (.cells (zc Tryd.prog 129).toArray 129) →
 Array.size (List.toArray cs51) = 2 ∧ (∀ u ∈ Array.toList (List.toArray cs51), one u = true) ∧ Room w52 ⟨World.heap w48 |>.size, 0, none⟩ 2 ∧
 ∀ w53 : World, w53 = setCells w52 ⟨World.heap w48 |>.size, 0, none⟩ (Array.toList (List.toArray cs51)) 0 →
 ∃ cs54 : List Value, List.length cs54 = 2 ∧ Cells w53 ⟨World.heap w48 |>.size, 0, none⟩ cs54 ∧
 Calls Tryd.prog 68 #[(.agg (List.toArray cs54))] w53 fun e55 w56 => ∃ (x57 : Option Addr) (x57n : Nat) (x57c : Nat), ∃ x58 : Int, e55 = .returned (.tuple #[(.slice x57 x57n x57c), (.int .i64 x58)]) ∧
 ∃ (x59 : Option Addr) (x59n : Nat) (x59c : Nat), (#[(.slice x57 x57n x57c), (.int .i64 x58)] : Array Value)[0]? = some (.slice x59 x59n x59c) ∧
 ∃ x60 : Int, (#[(.slice x57 x57n x57c), (.int .i64 x58)] : Array Value)[1]? = some (.int .i64 x60) ∧
 Calls Tryd.prog 32 #[(.pointer x9), (.slice x59 x59n x59c)] w56 fun e61 w62 => e61 = .returned (.tuple #[]) ∧ ∃ m63, m63 < m47 ∧ I46 m63 (IntKind.wrap .i64 (x49 + 1)) w62)
 else
 (∃ m64, m64 < m40 ∧ I39 m64 (IntKind.wrap .i64 (x42 + 1)) w48))))
 else
 (∃ m65, m65 < m13 ∧ I12 m65 (IntKind.wrap .i64 (x15 + 1)) w41)))))))
 else
 (Calls Tryd.prog 34 #[(.pointer x9)] w14 fun e66 w67 => ∃ (x68 : Option Addr) (x68n : Nat) (x68c : Nat), e66 = .returned (.slice x68 x68n x68c) ∧
 R (.returned (.tuple #[(.slice x68 x68n x68c), (.int .i64 0)])) w67)))))
theorem e29 (b0 : Option Addr) (b0n : Nat) (b0c : Nat) (w : World) (R : Ending → World → Prop) : denS Tryd.prog s29 (argsEnv 0 [(.slice b0 b0n b0c)]) w (endK r29 R) = d29 b0 b0n b0c w R := by kernel_rfl
theorem c29 (b0 : Option Addr) (b0n : Nat) (b0c : Nat) {w : World} {R : Ending → World → Prop} (h : d29 b0 b0n b0c w R) : Calls Tryd.prog 29 #[(.slice b0 b0n b0c)] w R :=
  den29 [(.slice b0 b0n b0c)] w R (by simp) ((e29 b0 b0n b0c w R).symm ▸ h)

/-- prelude/batch.first -/
def s65 : S := (.seq (.ops [⟨(some 4), (.mv (.const (.int .i64 0))), (.int .i64), none⟩,
  ⟨(some 5), (.mv (.const (.int .i64 0))), (.int .i64), none⟩] [0, 1])
 (.seq (.seq (.ops [⟨(some 9), (.mv (.tmp 0)), .sl, none⟩,
  ⟨(some 10), (.len (.tmp 9)), (.int .i64), none⟩,
  ⟨(some 11), (.bin .gtr (.tmp 10) (.const (.int .i64 64))), .bool, none⟩] [11, 0, 1])
 (.cond (.tmp 11)
 (.seq (.ops [⟨(some 4), (.mv (.const (.int .i64 0))), (.int .i64), none⟩,
  ⟨(some 5), (.mv (.const (.int .i64 60))), (.int .i64), none⟩] [4, 5])
 .ret)
 .skip))
 (.seq (.seq (.ops [⟨(some 12), (.mv (.tmp 0)), .sl, none⟩,
  ⟨(some 13), (.len (.tmp 12)), (.int .i64), none⟩,
  ⟨(some 14), (.mv (.const (.int .i64 0))), (.int .i64), none⟩] [14, 13, 12, 1])
 (.block 0
 (.loop [(14, (.int .i64))] [1, 12, 13]
 (.seq (.ops [⟨(some 15), (.bin .lss (.tmp 14) (.tmp 13)), .any, none⟩] [15, 14, 12, 1, 13])
 (.seq (.cond (.tmp 15)
 .skip
 (.exit 0))
 (.seq (.block 1
 (.seq (.ops [⟨(some 16), (.mv (.tmp 14)), (.int .i64), none⟩,
  ⟨(some 17), (.ia 4 (.tmp 12) (.tmp 14)), .ptr, none⟩,
  ⟨(some 18), (.ldN 4 (.tmp 17)), .agg, none⟩,
  ⟨(some 7), (.alloc 76), .ptr, none⟩,
  ⟨(some 6), (.mv (.tmp 16)), (.int .i64), none⟩,
  ⟨none, (.stN 4 (.tmp 7) (.tmp 18)), .any, none⟩] [1, 7, 6, 14, 13, 12])
 (.seq (.ops [⟨(some 19), (.mv (.tmp 1)), .any, none⟩,
  ⟨(some 20), (.ldN 4 (.tmp 7)), .agg, none⟩,
  ⟨(some 21), (.callv (.tmp 19) [(.tmp 20)] [(.int .i64)]), (.int .i64), none⟩,
  ⟨(some 8), (.mv (.tmp 21)), (.int .i64), none⟩] [8, 6, 14, 13, 12, 1])
 (.seq (.ops [⟨(some 22), (.mv (.tmp 8)), (.int .i64), none⟩,
  ⟨(some 23), (.bin .neq (.tmp 22) (.const (.int .i64 0))), .bool, none⟩] [23, 6, 8, 14, 13, 12, 1])
 (.cond (.tmp 23)
 (.seq (.ops [⟨(some 24), (.mv (.tmp 6)), (.int .i64), none⟩,
  ⟨(some 25), (.mv (.tmp 8)), (.int .i64), none⟩,
  ⟨(some 4), (.mv (.tmp 24)), (.int .i64), none⟩,
  ⟨(some 5), (.mv (.tmp 25)), (.int .i64), none⟩] [4, 5])
 .ret)
 .skip)))))
 (.ops [⟨(some 26), (.bin .add (.tmp 14) (.const (.int .i64 1))), (.int .i64), none⟩,
  ⟨(some 14), (.mv (.tmp 26)), (.int .i64), none⟩] [14, 13, 12, 1])))))))
 (.seq (.ops [⟨(some 4), (.mv (.const (.int .i64 0))), (.int .i64), none⟩,
  ⟨(some 5), (.mv (.const (.int .i64 0))), (.int .i64), none⟩] [4, 5])
 .ret))))
def r65 : List Res := [.t 4, .t 5]
theorem tr65 : trS Tryd.prog [] 27 (Tryd.f65.body.getD .skip) s65 = some s65 := by kernel_rfl
theorem den65 (args : List Value) (w : World) (R : Ending → World → Prop) (hn : args.length ≤ 27) (h : denS Tryd.prog s65 (argsEnv 0 args) w (endK r65 R)) : Calls Tryd.prog 65 args.toArray w R :=
  calls_of_den (pn := []) (fn := Tryd.f65) (c := Tryd.f65.body.getD .skip) Tryd.func65 (by kernel_rfl) (by rw [Tryd.ntmps65]; exact hn) (by rw [Tryd.ntmps65]; exact tr65) (by kernel_rfl) h
def d65 (b0 : Option Addr) (b0n : Nat) (b0c : Nat) (wrong1 : Value) (w : World) (R : Ending → World → Prop) : Prop :=
 (bif (decide (64 < ((b0n : Nat) : Int))) then
 (R (.returned (.tuple #[(.int .i64 0), (.int .i64 60)])) w)
 else
 (∃ I2 : Nat → Int → World → Prop,
 (∃ m, I2 m 0 w) ∧
 (∀ (m3 : Nat) (w4 : World) (x5 : Int), I2 m3 x5 w4 →
 (bif (decide (x5 < ((b0n : Nat) : Int))) then
 (0 ≤ x5 ∧ x5 < ((b0n : Nat) : Int) ∧ optK b0 fun a6 =>
 ∃ cs7 : List Value, List.length cs7 = 4 ∧ Cells w4 (Addr.add a6 (Int.toNat x5 * 4)) cs7 ∧
 ∀ w8 : World, w8 = World.alloc w4 (.cells (zc Tryd.prog 76).toArray 76) →
 Array.size (List.toArray cs7) = 4 ∧ (∀ u ∈ Array.toList (List.toArray cs7), one u = true) ∧ Room w8 ⟨World.heap w4 |>.size, 0, none⟩ 4 ∧
 ∀ w9 : World, w9 = setCells w8 ⟨World.heap w4 |>.size, 0, none⟩ (Array.toList (List.toArray cs7)) 0 →
 ∃ cs10 : List Value, List.length cs10 = 4 ∧ Cells w9 ⟨World.heap w4 |>.size, 0, none⟩ cs10 ∧
 fvK Tryd.prog wrong1 #[(.agg (List.toArray cs10))] w9 fun e11 w12 => ∃ x13 : Int, e11 = .returned (.int .i64 x13) ∧
 (bif (!decide (x13 = 0)) then
 (R (.returned (.tuple #[(.int .i64 x5), (.int .i64 x13)])) w12)
 else
 (∃ m14, m14 < m3 ∧ I2 m14 (IntKind.wrap .i64 (x5 + 1)) w12)))
 else
 (R (.returned (.tuple #[(.int .i64 0), (.int .i64 0)])) w4)))))
theorem e65 (b0 : Option Addr) (b0n : Nat) (b0c : Nat) (wrong1 : Value) (w : World) (R : Ending → World → Prop) : denS Tryd.prog s65 (argsEnv 0 [(.slice b0 b0n b0c), wrong1]) w (endK r65 R) = d65 b0 b0n b0c wrong1 w R := by kernel_rfl
theorem c65 (b0 : Option Addr) (b0n : Nat) (b0c : Nat) (wrong1 : Value) {w : World} {R : Ending → World → Prop} (h : d65 b0 b0n b0c wrong1 w R) : Calls Tryd.prog 65 #[(.slice b0 b0n b0c), wrong1] w R :=
  den65 [(.slice b0 b0n b0c), wrong1] w R (by simp) ((e65 b0 b0n b0c wrong1 w R).symm ▸ h)

/-- prelude/batch.formed -/
def s66 : S := (.seq (.ops [⟨(some 1), (.box 76 (.tmp 0)), .ptr, none⟩,
  ⟨(some 2), (.mv (.const (.int .i64 0))), (.int .i64), none⟩] [1])
 (.seq (.block 0
 (.join [(3, .bool)] [1]
 (.ops [⟨(some 4), (.fa 0 (.tmp 1)), .ptr, none⟩,
  ⟨(some 5), (.ld1 (.tmp 4)), (.int .i64), none⟩,
  ⟨(some 6), (.bin .lss (.tmp 5) (.const (.int .i64 0))), .bool, none⟩,
  ⟨(some 7), (.mv (.tmp 6)), .bool, none⟩,
  ⟨(some 8), (.fa 0 (.tmp 1)), .ptr, (some (7, false))⟩,
  ⟨(some 9), (.ld1 (.tmp 8)), (.int .i64), (some (7, false))⟩,
  ⟨(some 10), (.bin .geq (.tmp 9) (.const (.int .i64 64))), .bool, (some (7, false))⟩,
  ⟨(some 11), (.pick (.tmp 7) (.const (.bool true)) (.tmp 10)), .bool, none⟩,
  ⟨(some 3), (.mv (.tmp 11)), .bool, none⟩] [3, 1])
 (.cond (.tmp 3)
 (.seq (.ops [⟨(some 2), (.mv (.const (.int .i64 61))), (.int .i64), none⟩] [2])
 .ret)
 (.seq (.ops [⟨(some 13), (.fa 1 (.tmp 1)), .ptr, none⟩,
  ⟨(some 14), (.ld1 (.tmp 13)), .sl, none⟩,
  ⟨(some 15), (.len (.tmp 14)), (.int .i64), none⟩,
  ⟨(some 16), (.bin .gtr (.tmp 15) (.const (.int .i64 16))), .bool, none⟩,
  ⟨(some 12), (.mv (.tmp 16)), .bool, none⟩] [12, 1])
 (.cond (.tmp 12)
 (.seq (.ops [⟨(some 2), (.mv (.const (.int .i64 62))), (.int .i64), none⟩] [2])
 .ret)
 (.seq (.ops [⟨(some 18), (.fa 2 (.tmp 1)), .ptr, none⟩,
  ⟨(some 19), (.ld1 (.tmp 18)), .sl, none⟩,
  ⟨(some 20), (.len (.tmp 19)), (.int .i64), none⟩,
  ⟨(some 21), (.bin .gtr (.tmp 20) (.const (.int .i64 16))), .bool, none⟩,
  ⟨(some 17), (.mv (.tmp 21)), .bool, none⟩] [17, 1])
 (.cond (.tmp 17)
 (.seq (.ops [⟨(some 2), (.mv (.const (.int .i64 63))), (.int .i64), none⟩] [2])
 .ret)
 (.seq (.ops [⟨(some 23), (.fa 3 (.tmp 1)), .ptr, none⟩,
  ⟨(some 24), (.ld1 (.tmp 23)), .sl, none⟩,
  ⟨(some 25), (.len (.tmp 24)), (.int .i64), none⟩,
  ⟨(some 26), (.bin .gtr (.tmp 25) (.const (.int .i64 16))), .bool, none⟩,
  ⟨(some 22), (.mv (.tmp 26)), .bool, none⟩] [22, 1])
 (.cond (.tmp 22)
 (.seq (.ops [⟨(some 2), (.mv (.const (.int .i64 64))), (.int .i64), none⟩] [2])
 .ret)
 (.seq (.ops [⟨(some 28), (.fa 2 (.tmp 1)), .ptr, none⟩,
  ⟨(some 29), (.ld1 (.tmp 28)), .sl, none⟩,
  ⟨(some 30), (.call 89 [(.tmp 29)] [.bool]), .bool, none⟩,
  ⟨(some 31), (.un .not (.tmp 30)), .bool, none⟩,
  ⟨(some 32), (.mv (.tmp 31)), .bool, none⟩,
  ⟨(some 33), (.fa 3 (.tmp 1)), .ptr, (some (32, false))⟩,
  ⟨(some 34), (.ld1 (.tmp 33)), .sl, (some (32, false))⟩,
  ⟨(some 35), (.call 89 [(.tmp 34)] [.bool]), .bool, (some (32, false))⟩,
  ⟨(some 36), (.un .not (.tmp 35)), .bool, (some (32, false))⟩,
  ⟨(some 37), (.pick (.tmp 32) (.const (.bool true)) (.tmp 36)), .bool, none⟩,
  ⟨(some 27), (.mv (.tmp 37)), .bool, none⟩] [27])
 (.cond (.tmp 27)
 (.seq (.ops [⟨(some 2), (.mv (.const (.int .i64 65))), (.int .i64), none⟩] [2])
 .ret)
 .skip)))))))))))
 (.seq (.ops [⟨(some 2), (.mv (.const (.int .i64 0))), (.int .i64), none⟩] [2])
 .ret)))
def r66 : List Res := [.t 2]
theorem tr66 : trS Tryd.prog [] 38 (Tryd.f66.body.getD .skip) s66 = some s66 := by kernel_rfl
theorem den66 (args : List Value) (w : World) (R : Ending → World → Prop) (hn : args.length ≤ 38) (h : denS Tryd.prog s66 (argsEnv 0 args) w (endK r66 R)) : Calls Tryd.prog 66 args.toArray w R :=
  calls_of_den (pn := []) (fn := Tryd.f66) (c := Tryd.f66.body.getD .skip) Tryd.func66 (by kernel_rfl) (by rw [Tryd.ntmps66]; exact hn) (by rw [Tryd.ntmps66]; exact tr66) (by kernel_rfl) h
def d66 (x0 : Array Value) (w : World) (R : Ending → World → Prop) : Prop :=
 ∀ w1 : World, w1 = World.alloc w (.cells x0 76) →
 ∃ J2 : Bool → World → Prop,
 (∃ x3 : Int, World.cell? w1 (Addr.add ⟨World.heap w |>.size, 0, none⟩ 0) = some (.int .i64 x3) ∧
 (bif (decide (x3 < 0)) then
 (J2 true w1)
 else
 (∃ x4 : Int, World.cell? w1 (Addr.add ⟨World.heap w |>.size, 0, none⟩ 0) = some (.int .i64 x4) ∧
 J2 (decide (64 ≤ x4)) w1))) ∧
 (∀ (w5 : World) (x6 : Bool), J2 x6 w5 →
 (bif x6 then
 (R (.returned (.int .i64 61)) w5)
 else
 (∃ (x7 : Option Addr) (x7n : Nat) (x7c : Nat), World.cell? w5 (Addr.add ⟨World.heap w |>.size, 0, none⟩ 1) = some (.slice x7 x7n x7c) ∧
 (bif (decide (16 < ((x7n : Nat) : Int))) then
 (R (.returned (.int .i64 62)) w5)
 else
 (∃ (x8 : Option Addr) (x8n : Nat) (x8c : Nat), World.cell? w5 (Addr.add ⟨World.heap w |>.size, 0, none⟩ 2) = some (.slice x8 x8n x8c) ∧
 (bif (decide (16 < ((x8n : Nat) : Int))) then
 (R (.returned (.int .i64 63)) w5)
 else
 (∃ (x9 : Option Addr) (x9n : Nat) (x9c : Nat), World.cell? w5 (Addr.add ⟨World.heap w |>.size, 0, none⟩ 3) = some (.slice x9 x9n x9c) ∧
 (bif (decide (16 < ((x9n : Nat) : Int))) then
 (R (.returned (.int .i64 64)) w5)
 else
 (∃ (x10 : Option Addr) (x10n : Nat) (x10c : Nat), World.cell? w5 (Addr.add ⟨World.heap w |>.size, 0, none⟩ 2) = some (.slice x10 x10n x10c) ∧
 Calls Tryd.prog 89 #[(.slice x10 x10n x10c)] w5 fun e11 w12 => ∃ x13 : Bool, e11 = .returned (.bool x13) ∧
 (bif (!x13) then
 (R (.returned (.int .i64 65)) w12)
 else
 (∃ (x14 : Option Addr) (x14n : Nat) (x14c : Nat), World.cell? w12 (Addr.add ⟨World.heap w |>.size, 0, none⟩ 3) = some (.slice x14 x14n x14c) ∧
 Calls Tryd.prog 89 #[(.slice x14 x14n x14c)] w12 fun e15 w16 => ∃ x17 : Bool, e15 = .returned (.bool x17) ∧
 (bif (!x17) then
 (R (.returned (.int .i64 65)) w16)
 else
 (R (.returned (.int .i64 0)) w16)))))))))))))
theorem e66 (x0 : Array Value) (w : World) (R : Ending → World → Prop) : denS Tryd.prog s66 (argsEnv 0 [(.agg x0)]) w (endK r66 R) = d66 x0 w R := by kernel_rfl
theorem c66 (x0 : Array Value) {w : World} {R : Ending → World → Prop} (h : d66 x0 w R) : Calls Tryd.prog 66 #[(.agg x0)] w R :=
  den66 [(.agg x0)] w R (by simp) ((e66 x0 w R).symm ▸ h)

end Go.Proofs.YtjchneebdlncfaaDoor.Fn
