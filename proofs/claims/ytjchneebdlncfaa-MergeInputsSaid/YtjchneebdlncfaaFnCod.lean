/-
  THE CODE of some functions of the given program, resolved, and proved to ask what the readable texts (d..) say; contracts c.. follow. Printed by a small program of mine.
-/
import Derived.Test.YtjchneebdlncfaaDenWords8
import Derived.Test.YtjchneebdlncfaaProg
set_option maxRecDepth 100000
namespace Go.Proofs.Ytjchneebdlncfaa.Fn
open Go Den
/-- prelude/codec.New -/
def s58 : S := (.seq (.ops [⟨(some 0), (.mv (.const (.pointer none))), .ptr, none⟩] [])
 (.seq (.ops [⟨(some 1), (.bld 139 (.fields [(0, 1)]) []), .agg, none⟩,
  ⟨(some 2), (.box 139 (.tmp 1)), .ptr, none⟩,
  ⟨(some 0), (.mv (.tmp 2)), .ptr, none⟩] [0])
 .ret))
def r58 : List Res := [.t 0]
theorem tr58 : trS Try.prog [] 3 (Try.f58.body.getD .skip) s58 = some s58 := by kernel_rfl
theorem den58 (args : List Value) (w : World) (R : Ending → World → Prop) (hn : args.length ≤ 3) (h : denS Try.prog s58 (argsEnv 0 args) w (endK r58 R)) : Calls Try.prog 58 args.toArray w R :=
  calls_of_den (pn := []) (fn := Try.f58) (c := Try.f58.body.getD .skip) Try.func58 (by kernel_rfl) (by rw [Try.ntmps58]; exact hn) (by rw [Try.ntmps58]; exact tr58) (by kernel_rfl) h
def d58 (w : World) (R : Ending → World → Prop) : Prop :=
 ∃ cs0, fillL (.fields [(0, 1)]) (zc Try.prog 139) [] = some cs0 ∧
 ∀ w1 : World, w1 = World.alloc w (.cells (List.toArray cs0) 139) →
 R (.returned (.pointer (some ⟨World.heap w |>.size, 0, none⟩))) w1
theorem e58 (w : World) (R : Ending → World → Prop) : denS Try.prog s58 (argsEnv 0 []) w (endK r58 R) = d58  w R := by kernel_rfl
theorem c58 {w : World} {R : Ending → World → Prop} (h : d58  w R) : Calls Try.prog 58 #[] w R :=
  den58 [] w R (by simp) ((e58  w R).symm ▸ h)

-- no body
/-- (*prelude/codec.Writer).Uint -/
def s59 : S := (.seq (.block 0
 (.loop [(1, (.int .u64))] [0]
 (.seq (.seq (.ops [⟨(some 4), (.mv (.tmp 1)), (.int .u64), none⟩,
  ⟨(some 5), (.bin .geq (.tmp 4) (.const (.int .u64 128))), .bool, none⟩] [5, 0, 1])
 (.cond (.tmp 5)
 .skip
 (.exit 0)))
 (.block 1
 (.seq (.ops [⟨(some 6), (.mv (.tmp 0)), .ptr, none⟩,
  ⟨(some 7), (.mv (.tmp 0)), .ptr, none⟩,
  ⟨(some 8), (.nc (.tmp 7)), .any, none⟩,
  ⟨(some 9), (.fa 0 (.tmp 8)), .ptr, none⟩,
  ⟨(some 10), (.ld1 (.tmp 9)), .sl, none⟩,
  ⟨(some 11), (.mv (.tmp 1)), (.int .u64), none⟩,
  ⟨(some 12), (.cv .u8 (.tmp 11)), (.int .u8), none⟩,
  ⟨(some 13), (.bin .or (.tmp 12) (.const (.int .u8 128))), (.int .u8), none⟩,
  ⟨(some 14), (.bldS 5 1 1 [(0, (.tmp 13))]), .sl, none⟩,
  ⟨(some 15), (.app #[98, 98] 98 (.tmp 10) (.tmp 14)), .sl, none⟩,
  ⟨(some 16), (.nc (.tmp 6)), .any, none⟩,
  ⟨(some 17), (.fa 0 (.tmp 16)), .ptr, none⟩,
  ⟨none, (.st1 (.tmp 17) (.tmp 15)), .any, none⟩] [1, 0])
 (.ops [⟨(some 18), (.mv (.tmp 1)), (.int .u64), none⟩,
  ⟨(some 19), (.bin .shr (.tmp 18) (.const (.int .u64 7))), (.int .u64), none⟩,
  ⟨(some 1), (.mv (.tmp 19)), (.int .u64), none⟩] [1, 0]))))))
 (.ops [⟨(some 20), (.mv (.tmp 0)), .ptr, none⟩,
  ⟨(some 21), (.mv (.tmp 0)), .ptr, none⟩,
  ⟨(some 22), (.nc (.tmp 21)), .any, none⟩,
  ⟨(some 23), (.fa 0 (.tmp 22)), .ptr, none⟩,
  ⟨(some 24), (.ld1 (.tmp 23)), .sl, none⟩,
  ⟨(some 25), (.mv (.tmp 1)), (.int .u64), none⟩,
  ⟨(some 26), (.cv .u8 (.tmp 25)), (.int .u8), none⟩,
  ⟨(some 27), (.bldS 5 1 1 [(0, (.tmp 26))]), .sl, none⟩,
  ⟨(some 28), (.app #[98, 98] 98 (.tmp 24) (.tmp 27)), .sl, none⟩,
  ⟨(some 29), (.nc (.tmp 20)), .any, none⟩,
  ⟨(some 30), (.fa 0 (.tmp 29)), .ptr, none⟩,
  ⟨none, (.st1 (.tmp 30) (.tmp 28)), .any, none⟩] []))
def r59 : List Res := []
theorem tr59 : trS Try.prog [] 31 (Try.f59.body.getD .skip) s59 = some s59 := by kernel_rfl
theorem den59 (args : List Value) (w : World) (R : Ending → World → Prop) (hn : args.length ≤ 31) (h : denS Try.prog s59 (argsEnv 0 args) w (endK r59 R)) : Calls Try.prog 59 args.toArray w R :=
  calls_of_den (pn := []) (fn := Try.f59) (c := Try.f59.body.getD .skip) Try.func59 (by kernel_rfl) (by rw [Try.ntmps59]; exact hn) (by rw [Try.ntmps59]; exact tr59) (by kernel_rfl) h
def d59 (w0 : Option Addr) (n1 : Int) (w : World) (R : Ending → World → Prop) : Prop :=
 ∃ I2 : Nat → Int → World → Prop,
 (∃ m, I2 m n1 w) ∧
 (∀ (m3 : Nat) (w4 : World) (n5 : Int), I2 m3 n5 w4 →
 (bif (decide (128 ≤ n5)) then
 (optK w0 fun a6 =>
 ∃ (x7 : Option Addr) (x7n : Nat) (x7c : Nat), World.cell? w4 (Addr.add a6 0) = some (.slice x7 x7n x7c) ∧
 ∃ cs8, fillL (.elems 1) (zrep (zc Try.prog 5) (1 * 1)) [(0, (.int .u8 (bOr .u8 (IntKind.wrap .u8 n5) 128)))] = some cs8 ∧
 ∀ w9 : World, w9 = World.alloc w4 (.cells (List.toArray cs8) 5) →
 RunV Try.prog (Builtin.append_ #[98, 98] 98 #[(.slice x7 x7n x7c), (.slice (some ⟨World.heap w4 |>.size, 0, none⟩) 1 1)]) w9 fun v10 w11 => ∃ (x12 : Option Addr) (x12n : Nat) (x12c : Nat), v10 = (.slice x12 x12n x12c) ∧
 optK w0 fun a13 =>
 one (.slice x12 x12n x12c) = true ∧ Option.isSome (World.cell? w11 (Addr.add a13 0)) = true ∧ World.frozen? w11 (Addr.add a13 0) = false ∧
 ∀ w14 : World, w14 = World.setCell w11 (Addr.add a13 0) (.slice x12 x12n x12c) →
 0 ≤ (7 : Int) ∧ ∃ m15, m15 < m3 ∧ I2 m15 (shR .u64 n5 7) w14)
 else
 (optK w0 fun a16 =>
 ∃ (x17 : Option Addr) (x17n : Nat) (x17c : Nat), World.cell? w4 (Addr.add a16 0) = some (.slice x17 x17n x17c) ∧
 ∃ cs18, fillL (.elems 1) (zrep (zc Try.prog 5) (1 * 1)) [(0, (.int .u8 (IntKind.wrap .u8 n5)))] = some cs18 ∧
 ∀ w19 : World, w19 = World.alloc w4 (.cells (List.toArray cs18) 5) →
 RunV Try.prog (Builtin.append_ #[98, 98] 98 #[(.slice x17 x17n x17c), (.slice (some ⟨World.heap w4 |>.size, 0, none⟩) 1 1)]) w19 fun v20 w21 => ∃ (x22 : Option Addr) (x22n : Nat) (x22c : Nat), v20 = (.slice x22 x22n x22c) ∧
 optK w0 fun a23 =>
 one (.slice x22 x22n x22c) = true ∧ Option.isSome (World.cell? w21 (Addr.add a23 0)) = true ∧ World.frozen? w21 (Addr.add a23 0) = false ∧
 ∀ w24 : World, w24 = World.setCell w21 (Addr.add a23 0) (.slice x22 x22n x22c) →
 R (.returned (.tuple #[])) w24)))
theorem e59 (w0 : Option Addr) (n1 : Int) (w : World) (R : Ending → World → Prop) : denS Try.prog s59 (argsEnv 0 [(.pointer w0), (.int .u64 n1)]) w (endK r59 R) = d59 w0 n1 w R := by kernel_rfl
theorem c59 (w0 : Option Addr) (n1 : Int) {w : World} {R : Ending → World → Prop} (h : d59 w0 n1 w R) : Calls Try.prog 59 #[(.pointer w0), (.int .u64 n1)] w R :=
  den59 [(.pointer w0), (.int .u64 n1)] w R (by simp) ((e59 w0 n1 w R).symm ▸ h)

/-- (*prelude/codec.Writer).Int -/
def s60 : S := (.ops [⟨(some 4), (.mv (.tmp 0)), .ptr, none⟩,
  ⟨(some 5), (.mv (.tmp 1)), (.int .i64), none⟩,
  ⟨(some 6), (.cv .u64 (.tmp 5)), (.int .u64), none⟩,
  ⟨(some 7), (.bin .shl (.tmp 6) (.const (.int .u64 1))), (.int .u64), none⟩,
  ⟨(some 8), (.mv (.tmp 1)), (.int .i64), none⟩,
  ⟨(some 9), (.bin .shr (.tmp 8) (.const (.int .u64 63))), (.int .i64), none⟩,
  ⟨(some 10), (.cv .u64 (.tmp 9)), (.int .u64), none⟩,
  ⟨(some 11), (.bin .xor (.tmp 7) (.tmp 10)), (.int .u64), none⟩,
  ⟨(some 12), (.call 59 [(.tmp 4), (.tmp 11)] []), .any, none⟩] [])
def r60 : List Res := []
theorem tr60 : trS Try.prog [] 13 (Try.f60.body.getD .skip) s60 = some s60 := by kernel_rfl
theorem den60 (args : List Value) (w : World) (R : Ending → World → Prop) (hn : args.length ≤ 13) (h : denS Try.prog s60 (argsEnv 0 args) w (endK r60 R)) : Calls Try.prog 60 args.toArray w R :=
  calls_of_den (pn := []) (fn := Try.f60) (c := Try.f60.body.getD .skip) Try.func60 (by kernel_rfl) (by rw [Try.ntmps60]; exact hn) (by rw [Try.ntmps60]; exact tr60) (by kernel_rfl) h
def d60 (w0 : Option Addr) (n1 : Int) (w : World) (R : Ending → World → Prop) : Prop :=
 0 ≤ (1 : Int) ∧ 0 ≤ (63 : Int) ∧ Calls Try.prog 59 #[(.pointer w0), (.int .u64 (bXor .u64 (shL .u64 (IntKind.wrap .u64 n1) 1) (IntKind.wrap .u64 (shR .i64 n1 63))))] w fun e2 w3 => e2 = .returned (.tuple #[]) ∧ R (.returned (.tuple #[])) w3
theorem e60 (w0 : Option Addr) (n1 : Int) (w : World) (R : Ending → World → Prop) : denS Try.prog s60 (argsEnv 0 [(.pointer w0), (.int .i64 n1)]) w (endK r60 R) = d60 w0 n1 w R := by kernel_rfl
theorem c60 (w0 : Option Addr) (n1 : Int) {w : World} {R : Ending → World → Prop} (h : d60 w0 n1 w R) : Calls Try.prog 60 #[(.pointer w0), (.int .i64 n1)] w R :=
  den60 [(.pointer w0), (.int .i64 n1)] w R (by simp) ((e60 w0 n1 w R).symm ▸ h)

/-- (*prelude/codec.Writer).Raw -/
def s62 : S := (.ops [⟨(some 4), (.mv (.tmp 0)), .ptr, none⟩,
  ⟨(some 5), (.mv (.tmp 0)), .ptr, none⟩,
  ⟨(some 6), (.nc (.tmp 5)), .any, none⟩,
  ⟨(some 7), (.fa 0 (.tmp 6)), .ptr, none⟩,
  ⟨(some 8), (.ld1 (.tmp 7)), .sl, none⟩,
  ⟨(some 9), (.mv (.tmp 1)), .sl, none⟩,
  ⟨(some 10), (.app #[98, 98] 98 (.tmp 8) (.tmp 9)), .sl, none⟩,
  ⟨(some 11), (.nc (.tmp 4)), .any, none⟩,
  ⟨(some 12), (.fa 0 (.tmp 11)), .ptr, none⟩,
  ⟨none, (.st1 (.tmp 12) (.tmp 10)), .any, none⟩] [])
def r62 : List Res := []
theorem tr62 : trS Try.prog [] 13 (Try.f62.body.getD .skip) s62 = some s62 := by kernel_rfl
theorem den62 (args : List Value) (w : World) (R : Ending → World → Prop) (hn : args.length ≤ 13) (h : denS Try.prog s62 (argsEnv 0 args) w (endK r62 R)) : Calls Try.prog 62 args.toArray w R :=
  calls_of_den (pn := []) (fn := Try.f62) (c := Try.f62.body.getD .skip) Try.func62 (by kernel_rfl) (by rw [Try.ntmps62]; exact hn) (by rw [Try.ntmps62]; exact tr62) (by kernel_rfl) h
def d62 (w0 : Option Addr) (b1 : Option Addr) (b1n : Nat) (b1c : Nat) (w : World) (R : Ending → World → Prop) : Prop :=
 optK w0 fun a2 =>
 ∃ (x3 : Option Addr) (x3n : Nat) (x3c : Nat), World.cell? w (Addr.add a2 0) = some (.slice x3 x3n x3c) ∧
 RunV Try.prog (Builtin.append_ #[98, 98] 98 #[(.slice x3 x3n x3c), (.slice b1 b1n b1c)]) w fun v4 w5 => ∃ (x6 : Option Addr) (x6n : Nat) (x6c : Nat), v4 = (.slice x6 x6n x6c) ∧
 optK w0 fun a7 =>
 one (.slice x6 x6n x6c) = true ∧ Option.isSome (World.cell? w5 (Addr.add a7 0)) = true ∧ World.frozen? w5 (Addr.add a7 0) = false ∧
 ∀ w8 : World, w8 = World.setCell w5 (Addr.add a7 0) (.slice x6 x6n x6c) →
 R (.returned (.tuple #[])) w8
theorem e62 (w0 : Option Addr) (b1 : Option Addr) (b1n : Nat) (b1c : Nat) (w : World) (R : Ending → World → Prop) : denS Try.prog s62 (argsEnv 0 [(.pointer w0), (.slice b1 b1n b1c)]) w (endK r62 R) = d62 w0 b1 b1n b1c w R := by kernel_rfl
theorem c62 (w0 : Option Addr) (b1 : Option Addr) (b1n : Nat) (b1c : Nat) {w : World} {R : Ending → World → Prop} (h : d62 w0 b1 b1n b1c w R) : Calls Try.prog 62 #[(.pointer w0), (.slice b1 b1n b1c)] w R :=
  den62 [(.pointer w0), (.slice b1 b1n b1c)] w R (by simp) ((e62 w0 b1 b1n b1c w R).symm ▸ h)

/-- (*prelude/codec.Writer).Out -/
def s63 : S := (.seq (.ops [⟨(some 2), (.mv (.const (.slice none 0 0))), .sl, none⟩] [0])
 (.seq (.ops [⟨(some 3), (.mv (.tmp 0)), .ptr, none⟩,
  ⟨(some 4), (.nc (.tmp 3)), .any, none⟩,
  ⟨(some 5), (.fa 0 (.tmp 4)), .ptr, none⟩,
  ⟨(some 6), (.ld1 (.tmp 5)), .sl, none⟩,
  ⟨(some 7), (.call 74 [(.tmp 6)] [.sl]), .sl, none⟩,
  ⟨(some 2), (.mv (.tmp 7)), .sl, none⟩] [2])
 .ret))
def r63 : List Res := [.t 2]
theorem tr63 : trS Try.prog [] 8 (Try.f63.body.getD .skip) s63 = some s63 := by kernel_rfl
theorem den63 (args : List Value) (w : World) (R : Ending → World → Prop) (hn : args.length ≤ 8) (h : denS Try.prog s63 (argsEnv 0 args) w (endK r63 R)) : Calls Try.prog 63 args.toArray w R :=
  calls_of_den (pn := []) (fn := Try.f63) (c := Try.f63.body.getD .skip) Try.func63 (by kernel_rfl) (by rw [Try.ntmps63]; exact hn) (by rw [Try.ntmps63]; exact tr63) (by kernel_rfl) h
def d63 (w0 : Option Addr) (w : World) (R : Ending → World → Prop) : Prop :=
 optK w0 fun a1 =>
 ∃ (x2 : Option Addr) (x2n : Nat) (x2c : Nat), World.cell? w (Addr.add a1 0) = some (.slice x2 x2n x2c) ∧
 Calls Try.prog 74 #[(.slice x2 x2n x2c)] w fun e3 w4 => ∃ (x5 : Option Addr) (x5n : Nat) (x5c : Nat), e3 = .returned (.slice x5 x5n x5c) ∧
 R (.returned (.slice x5 x5n x5c)) w4
theorem e63 (w0 : Option Addr) (w : World) (R : Ending → World → Prop) : denS Try.prog s63 (argsEnv 0 [(.pointer w0)]) w (endK r63 R) = d63 w0 w R := by kernel_rfl
theorem c63 (w0 : Option Addr) {w : World} {R : Ending → World → Prop} (h : d63 w0 w R) : Calls Try.prog 63 #[(.pointer w0)] w R :=
  den63 [(.pointer w0)] w R (by simp) ((e63 w0 w R).symm ▸ h)

/-- slices.Clone[[]byte,byte] -/
def s74 : S := (.seq (.ops [⟨(some 2), (.mv (.const (.slice none 0 0))), .sl, none⟩] [0])
 (.seq (.seq (.ops [⟨(some 3), (.mv (.tmp 0)), .sl, none⟩,
  ⟨(some 4), (.nilEq false 0 (.tmp 3)), .bool, none⟩] [4, 0])
 (.cond (.tmp 4)
 (.seq (.ops [⟨(some 2), (.mv (.const (.slice none 0 0))), .sl, none⟩] [2])
 .ret)
 .skip))
 (.seq (.ops [⟨(some 5), (.bld0 5 0), .sl, none⟩,
  ⟨(some 6), (.mv (.tmp 0)), .sl, none⟩,
  ⟨(some 7), (.app #[98, 98] 98 (.tmp 5) (.tmp 6)), .sl, none⟩,
  ⟨(some 2), (.mv (.tmp 7)), .sl, none⟩] [2])
 .ret)))
def r74 : List Res := [.t 2]
theorem tr74 : trS Try.prog [] 8 (Try.f74.body.getD .skip) s74 = some s74 := by kernel_rfl
theorem den74 (args : List Value) (w : World) (R : Ending → World → Prop) (hn : args.length ≤ 8) (h : denS Try.prog s74 (argsEnv 0 args) w (endK r74 R)) : Calls Try.prog 74 args.toArray w R :=
  calls_of_den (pn := []) (fn := Try.f74) (c := Try.f74.body.getD .skip) Try.func74 (by kernel_rfl) (by rw [Try.ntmps74]; exact hn) (by rw [Try.ntmps74]; exact tr74) (by kernel_rfl) h
def d74 (s0 : Option Addr) (s0n : Nat) (s0c : Nat) (w : World) (R : Ending → World → Prop) : Prop :=
 (bif (Option.isNone s0) then
 (R (.returned (.slice none 0 0)) w)
 else
 (∀ w1 : World, w1 = World.alloc w (.cells #[] 5) →
 RunV Try.prog (Builtin.append_ #[98, 98] 98 #[(.slice (some ⟨World.heap w |>.size, 0, none⟩) 0 0), (.slice s0 s0n s0c)]) w1 fun v2 w3 => ∃ (x4 : Option Addr) (x4n : Nat) (x4c : Nat), v2 = (.slice x4 x4n x4c) ∧
 R (.returned (.slice x4 x4n x4c)) w3))
theorem e74 (s0 : Option Addr) (s0n : Nat) (s0c : Nat) (w : World) (R : Ending → World → Prop) : denS Try.prog s74 (argsEnv 0 [(.slice s0 s0n s0c)]) w (endK r74 R) = d74 s0 s0n s0c w R := by kernel_rfl
theorem c74 (s0 : Option Addr) (s0n : Nat) (s0c : Nat) {w : World} {R : Ending → World → Prop} (h : d74 s0 s0n s0c w R) : Calls Try.prog 74 #[(.slice s0 s0n s0c)] w R :=
  den74 [(.slice s0 s0n s0c)] w R (by simp) ((e74 s0 s0n s0c w R).symm ▸ h)

end Go.Proofs.Ytjchneebdlncfaa.Fn
