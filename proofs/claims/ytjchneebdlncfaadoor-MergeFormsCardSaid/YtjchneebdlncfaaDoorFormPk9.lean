/-
  THE CODE of some functions of the given program, resolved, and proved to ask what the readable texts (d..) say; contracts c.. follow. Printed by a small program of mine.
  FRAMES OF PIECES AND WANTS: their bytes; contracts of the Encodes and of the document's.
  FRAMES OF WANTS, and the document's frames: contracts of the Encodes.
  READING A BATCH: what its bytes say, or the place at which they are wrong (plain functions).
  A FUNCTION WITH A RANGE OVER A FUNCTION IN ITS OUTERMOST SEQUENCE: what is asked of it, and that this is right.
  Own work. No macro, syntax, notation, axiom.
-/
import Derived.Test.YtjchneebdlncfaaDoorFormPk3
import Derived.Test.YtjchneebdlncfaaDoorProg
import Derived.Test.YtjchneebdlncfaaDoorFormPk7
import Derived.Test.YtjchneebdlncfaaDoorFormPk8
import Derived.Test.YtjchneebdlncfaaDoorFormPk5
import Derived.RangeFuncNested
import Derived.RangeFuncLeaves
set_option maxRecDepth 100000
namespace Go.Proofs.YtjchneebdlncfaaDoor.Fn
open Go Den
/-- prelude/merge.EncodePiece -/
def s12 : S := (.seq (.ops [⟨(some 1), (.box 37 (.tmp 0)), .ptr, none⟩,
  ⟨(some 2), (.mv (.const (.slice none 0 0))), .sl, none⟩,
  ⟨(some 3), (.mv (.const (.int .i64 0))), (.int .i64), none⟩] [1])
 (.seq (.seq (.ops [⟨(some 8), (.fa 0 (.tmp 1)), .ptr, none⟩,
  ⟨(some 9), (.ld1 (.tmp 8)), (.int .i64), none⟩,
  ⟨(some 10), (.fa 1 (.tmp 1)), .ptr, none⟩,
  ⟨(some 11), (.ld1 (.tmp 10)), (.int .i64), none⟩,
  ⟨(some 12), (.call 28 [(.tmp 9), (.tmp 11)] [(.int .i64)]), (.int .i64), none⟩,
  ⟨(some 4), (.mv (.tmp 12)), (.int .i64), none⟩] [4, 1])
 (.seq (.ops [⟨(some 13), (.mv (.tmp 4)), (.int .i64), none⟩,
  ⟨(some 14), (.bin .neq (.tmp 13) (.const (.int .i64 0))), .bool, none⟩] [14, 4, 1])
 (.cond (.tmp 14)
 (.seq (.ops [⟨(some 15), (.mv (.tmp 4)), (.int .i64), none⟩,
  ⟨(some 2), (.mv (.const (.slice none 0 0))), .sl, none⟩,
  ⟨(some 3), (.mv (.tmp 15)), (.int .i64), none⟩] [2, 3])
 .ret)
 .skip)))
 (.seq (.ops [⟨(some 17), (.fa 2 (.tmp 1)), .ptr, none⟩,
  ⟨(some 18), (.ld1 (.tmp 17)), .sl, none⟩,
  ⟨(some 19), (.call 29 [(.tmp 18)] [.sl, (.int .i64)]), .any, none⟩,
  ⟨(some 16), (.mv (.tmp 19)), .any, none⟩,
  ⟨(some 20), (.ext 0 (.tmp 16)), .sl, none⟩,
  ⟨(some 21), (.ext 1 (.tmp 16)), (.int .i64), none⟩,
  ⟨(some 5), (.mv (.tmp 20)), .sl, none⟩,
  ⟨(some 6), (.mv (.tmp 21)), (.int .i64), none⟩] [6, 1, 5])
 (.seq (.seq (.ops [⟨(some 22), (.mv (.tmp 6)), (.int .i64), none⟩,
  ⟨(some 23), (.bin .neq (.tmp 22) (.const (.int .i64 0))), .bool, none⟩] [23, 6, 1, 5])
 (.cond (.tmp 23)
 (.seq (.ops [⟨(some 24), (.mv (.tmp 6)), (.int .i64), none⟩,
  ⟨(some 2), (.mv (.const (.slice none 0 0))), .sl, none⟩,
  ⟨(some 3), (.mv (.tmp 24)), (.int .i64), none⟩] [2, 3])
 .ret)
 .skip))
 (.seq (.ops [⟨(some 25), (.call 30 [] [.ptr]), .ptr, none⟩,
  ⟨(some 7), (.mv (.tmp 25)), .ptr, none⟩] [7, 1, 5])
 (.seq (.ops [⟨(some 26), (.mv (.tmp 7)), .ptr, none⟩,
  ⟨(some 27), (.fa 0 (.tmp 1)), .ptr, none⟩,
  ⟨(some 28), (.ld1 (.tmp 27)), (.int .i64), none⟩,
  ⟨(some 29), (.cv .u64 (.tmp 28)), (.int .u64), none⟩,
  ⟨(some 30), (.call 31 [(.tmp 26), (.tmp 29)] []), .any, none⟩] [7, 1, 5])
 (.seq (.ops [⟨(some 31), (.mv (.tmp 7)), .ptr, none⟩,
  ⟨(some 32), (.fa 1 (.tmp 1)), .ptr, none⟩,
  ⟨(some 33), (.ld1 (.tmp 32)), (.int .i64), none⟩,
  ⟨(some 34), (.cv .u64 (.tmp 33)), (.int .u64), none⟩,
  ⟨(some 35), (.call 31 [(.tmp 31), (.tmp 34)] []), .any, none⟩] [7, 5])
 (.seq (.ops [⟨(some 36), (.mv (.tmp 7)), .ptr, none⟩,
  ⟨(some 37), (.mv (.tmp 5)), .sl, none⟩,
  ⟨(some 38), (.call 32 [(.tmp 36), (.tmp 37)] []), .any, none⟩] [7])
 (.seq (.ops [⟨(some 39), (.mv (.tmp 7)), .ptr, none⟩,
  ⟨(some 40), (.call 34 [(.tmp 39)] [.sl]), .sl, none⟩,
  ⟨(some 41), (.call 33 [(.const (.int .u8 77)), (.tmp 40)] [.sl]), .sl, none⟩,
  ⟨(some 2), (.mv (.tmp 41)), .sl, none⟩,
  ⟨(some 3), (.mv (.const (.int .i64 0))), (.int .i64), none⟩] [2, 3])
 .ret)))))))))
def r12 : List Res := [.t 2, .t 3]
theorem tr12 : trS Tryd.prog [] 42 (Tryd.f12.body.getD .skip) s12 = some s12 := by kernel_rfl
theorem den12 (args : List Value) (w : World) (R : Ending → World → Prop) (hn : args.length ≤ 42) (h : denS Tryd.prog s12 (argsEnv 0 args) w (endK r12 R)) : Calls Tryd.prog 12 args.toArray w R :=
  calls_of_den (pn := []) (fn := Tryd.f12) (c := Tryd.f12.body.getD .skip) Tryd.func12 (by kernel_rfl) (by rw [Tryd.ntmps12]; exact hn) (by rw [Tryd.ntmps12]; exact tr12) (by kernel_rfl) h
def d12 (p0 : Array Value) (w : World) (R : Ending → World → Prop) : Prop :=
 ∀ w1 : World, w1 = World.alloc w (.cells p0 37) →
 ∃ x2 : Int, World.cell? w1 (Addr.add ⟨World.heap w |>.size, 0, none⟩ 0) = some (.int .i64 x2) ∧
 ∃ x3 : Int, World.cell? w1 (Addr.add ⟨World.heap w |>.size, 0, none⟩ 1) = some (.int .i64 x3) ∧
 Calls Tryd.prog 28 #[(.int .i64 x2), (.int .i64 x3)] w1 fun e4 w5 => ∃ x6 : Int, e4 = .returned (.int .i64 x6) ∧
 (bif (!decide (x6 = 0)) then
 (R (.returned (.tuple #[(.slice none 0 0), (.int .i64 x6)])) w5)
 else
 (∃ (x7 : Option Addr) (x7n : Nat) (x7c : Nat), World.cell? w5 (Addr.add ⟨World.heap w |>.size, 0, none⟩ 2) = some (.slice x7 x7n x7c) ∧
 Calls Tryd.prog 29 #[(.slice x7 x7n x7c)] w5 fun e8 w9 => ∃ (x10 : Option Addr) (x10n : Nat) (x10c : Nat), ∃ x11 : Int, e8 = .returned (.tuple #[(.slice x10 x10n x10c), (.int .i64 x11)]) ∧
 ∃ (x12 : Option Addr) (x12n : Nat) (x12c : Nat), (#[(.slice x10 x10n x10c), (.int .i64 x11)] : Array Value)[0]? = some (.slice x12 x12n x12c) ∧
 ∃ x13 : Int, (#[(.slice x10 x10n x10c), (.int .i64 x11)] : Array Value)[1]? = some (.int .i64 x13) ∧
 (bif (!decide (x13 = 0)) then
 (R (.returned (.tuple #[(.slice none 0 0), (.int .i64 x13)])) w9)
 else
 (Calls Tryd.prog 30 #[] w9 fun e14 w15 => ∃ x16 : Option Addr, e14 = .returned (.pointer x16) ∧
 ∃ x17 : Int, World.cell? w15 (Addr.add ⟨World.heap w |>.size, 0, none⟩ 0) = some (.int .i64 x17) ∧
 Calls Tryd.prog 31 #[(.pointer x16), (.int .u64 (IntKind.wrap .u64 x17))] w15 fun e18 w19 => e18 = .returned (.tuple #[]) ∧ ∃ x20 : Int, World.cell? w19 (Addr.add ⟨World.heap w |>.size, 0, none⟩ 1) = some (.int .i64 x20) ∧
 Calls Tryd.prog 31 #[(.pointer x16), (.int .u64 (IntKind.wrap .u64 x20))] w19 fun e21 w22 => e21 = .returned (.tuple #[]) ∧ Calls Tryd.prog 32 #[(.pointer x16), (.slice x12 x12n x12c)] w22 fun e23 w24 => e23 = .returned (.tuple #[]) ∧ Calls Tryd.prog 34 #[(.pointer x16)] w24 fun e25 w26 => ∃ (x27 : Option Addr) (x27n : Nat) (x27c : Nat), e25 = .returned (.slice x27 x27n x27c) ∧
 Calls Tryd.prog 33 #[(.int .u8 77), (.slice x27 x27n x27c)] w26 fun e28 w29 => ∃ (x30 : Option Addr) (x30n : Nat) (x30c : Nat), e28 = .returned (.slice x30 x30n x30c) ∧
 R (.returned (.tuple #[(.slice x30 x30n x30c), (.int .i64 0)])) w29))))
theorem e12 (p0 : Array Value) (w : World) (R : Ending → World → Prop) : denS Tryd.prog s12 (argsEnv 0 [(.agg p0)]) w (endK r12 R) = d12 p0 w R := by kernel_rfl
theorem c12 (p0 : Array Value) {w : World} {R : Ending → World → Prop} (h : d12 p0 w R) : Calls Tryd.prog 12 #[(.agg p0)] w R :=
  den12 [(.agg p0)] w R (by simp) ((e12 p0 w R).symm ▸ h)

/-- prelude/merge.EncodeWants -/
def s15 : S := (.seq (.ops [⟨(some 2), (.mv (.const (.slice none 0 0))), .sl, none⟩,
  ⟨(some 3), (.mv (.const (.int .i64 0))), (.int .i64), none⟩] [0])
 (.seq (.seq (.ops [⟨(some 8), (.mv (.tmp 0)), .sl, none⟩,
  ⟨(some 9), (.len (.tmp 8)), (.int .i64), none⟩,
  ⟨(some 10), (.bin .gtr (.tmp 9) (.const (.int .i64 1024))), .bool, none⟩] [10, 0])
 (.cond (.tmp 10)
 (.seq (.ops [⟨(some 2), (.mv (.const (.slice none 0 0))), .sl, none⟩,
  ⟨(some 3), (.mv (.const (.int .i64 264))), (.int .i64), none⟩] [2, 3])
 .ret)
 .skip))
 (.seq (.ops [⟨(some 11), (.call 30 [] [.ptr]), .ptr, none⟩,
  ⟨(some 4), (.mv (.tmp 11)), .ptr, none⟩] [4, 0])
 (.seq (.ops [⟨(some 12), (.mv (.tmp 4)), .ptr, none⟩,
  ⟨(some 13), (.mv (.tmp 0)), .sl, none⟩,
  ⟨(some 14), (.len (.tmp 13)), (.int .i64), none⟩,
  ⟨(some 15), (.cv .u64 (.tmp 14)), (.int .u64), none⟩,
  ⟨(some 16), (.call 31 [(.tmp 12), (.tmp 15)] []), .any, none⟩] [0, 4])
 (.seq (.seq (.ops [⟨(some 17), (.mv (.tmp 0)), .sl, none⟩,
  ⟨(some 18), (.len (.tmp 17)), (.int .i64), none⟩,
  ⟨(some 19), (.mv (.const (.int .i64 0))), (.int .i64), none⟩] [19, 18, 17, 4])
 (.block 0
 (.loop [(19, (.int .i64))] [4, 17, 18]
 (.seq (.ops [⟨(some 20), (.bin .lss (.tmp 19) (.tmp 18)), .any, none⟩] [20, 17, 19, 4, 18])
 (.seq (.cond (.tmp 20)
 .skip
 (.exit 0))
 (.seq (.block 1
 (.seq (.ops [⟨(some 21), (.ia 2 (.tmp 17) (.tmp 19)), .ptr, none⟩,
  ⟨(some 22), (.ldN 2 (.tmp 21)), .agg, none⟩,
  ⟨(some 6), (.alloc 59), .ptr, none⟩,
  ⟨none, (.stN 2 (.tmp 6) (.tmp 22)), .any, none⟩] [6, 4, 19, 18, 17])
 (.seq (.seq (.ops [⟨(some 23), (.fa 0 (.tmp 6)), .ptr, none⟩,
  ⟨(some 24), (.ld1 (.tmp 23)), (.int .i64), none⟩,
  ⟨(some 25), (.fa 1 (.tmp 6)), .ptr, none⟩,
  ⟨(some 26), (.ld1 (.tmp 25)), (.int .i64), none⟩,
  ⟨(some 27), (.call 28 [(.tmp 24), (.tmp 26)] [(.int .i64)]), (.int .i64), none⟩,
  ⟨(some 7), (.mv (.tmp 27)), (.int .i64), none⟩] [7, 4, 6, 19, 18, 17])
 (.seq (.ops [⟨(some 28), (.mv (.tmp 7)), (.int .i64), none⟩,
  ⟨(some 29), (.bin .neq (.tmp 28) (.const (.int .i64 0))), .bool, none⟩] [29, 7, 4, 6, 19, 18, 17])
 (.cond (.tmp 29)
 (.seq (.ops [⟨(some 30), (.mv (.tmp 7)), (.int .i64), none⟩,
  ⟨(some 2), (.mv (.const (.slice none 0 0))), .sl, none⟩,
  ⟨(some 3), (.mv (.tmp 30)), (.int .i64), none⟩] [2, 3])
 .ret)
 .skip)))
 (.seq (.ops [⟨(some 31), (.mv (.tmp 4)), .ptr, none⟩,
  ⟨(some 32), (.fa 0 (.tmp 6)), .ptr, none⟩,
  ⟨(some 33), (.ld1 (.tmp 32)), (.int .i64), none⟩,
  ⟨(some 34), (.cv .u64 (.tmp 33)), (.int .u64), none⟩,
  ⟨(some 35), (.call 31 [(.tmp 31), (.tmp 34)] []), .any, none⟩] [4, 6, 19, 18, 17])
 (.ops [⟨(some 36), (.mv (.tmp 4)), .ptr, none⟩,
  ⟨(some 37), (.fa 1 (.tmp 6)), .ptr, none⟩,
  ⟨(some 38), (.ld1 (.tmp 37)), (.int .i64), none⟩,
  ⟨(some 39), (.cv .u64 (.tmp 38)), (.int .u64), none⟩,
  ⟨(some 40), (.call 31 [(.tmp 36), (.tmp 39)] []), .any, none⟩] [19, 18, 17, 4])))))
 (.ops [⟨(some 41), (.bin .add (.tmp 19) (.const (.int .i64 1))), (.int .i64), none⟩,
  ⟨(some 19), (.mv (.tmp 41)), (.int .i64), none⟩] [19, 18, 17, 4])))))))
 (.seq (.ops [⟨(some 42), (.mv (.tmp 4)), .ptr, none⟩,
  ⟨(some 43), (.call 34 [(.tmp 42)] [.sl]), .sl, none⟩,
  ⟨(some 44), (.call 33 [(.const (.int .u8 87)), (.tmp 43)] [.sl]), .sl, none⟩,
  ⟨(some 2), (.mv (.tmp 44)), .sl, none⟩,
  ⟨(some 3), (.mv (.const (.int .i64 0))), (.int .i64), none⟩] [2, 3])
 .ret))))))
def r15 : List Res := [.t 2, .t 3]
theorem tr15 : trS Tryd.prog [] 45 (Tryd.f15.body.getD .skip) s15 = some s15 := by kernel_rfl
theorem den15 (args : List Value) (w : World) (R : Ending → World → Prop) (hn : args.length ≤ 45) (h : denS Tryd.prog s15 (argsEnv 0 args) w (endK r15 R)) : Calls Tryd.prog 15 args.toArray w R :=
  calls_of_den (pn := []) (fn := Tryd.f15) (c := Tryd.f15.body.getD .skip) Tryd.func15 (by kernel_rfl) (by rw [Tryd.ntmps15]; exact hn) (by rw [Tryd.ntmps15]; exact tr15) (by kernel_rfl) h
def d15 (l0 : Option Addr) (l0n : Nat) (l0c : Nat) (w : World) (R : Ending → World → Prop) : Prop :=
 (bif (decide (1024 < ((l0n : Nat) : Int))) then
 (R (.returned (.tuple #[(.slice none 0 0), (.int .i64 264)])) w)
 else
 (Calls Tryd.prog 30 #[] w fun e1 w2 => ∃ x3 : Option Addr, e1 = .returned (.pointer x3) ∧
 Calls Tryd.prog 31 #[(.pointer x3), (.int .u64 (IntKind.wrap .u64 ((l0n : Nat) : Int)))] w2 fun e4 w5 => e4 = .returned (.tuple #[]) ∧ ∃ I6 : Nat → Int → World → Prop,
 (∃ m, I6 m 0 w5) ∧
 (∀ (m7 : Nat) (w8 : World) (x9 : Int), I6 m7 x9 w8 →
 (bif (decide (x9 < ((l0n : Nat) : Int))) then
 (0 ≤ x9 ∧ x9 < ((l0n : Nat) : Int) ∧ optK l0 fun a10 =>
 ∃ cs11 : List Value, List.length cs11 = 2 ∧ Cells w8 (Addr.add a10 (Int.toNat x9 * 2)) cs11 ∧
 ∀ w12 : World, w12 = World.alloc w8 (.cells (zc Tryd.prog 59).toArray 59) →
 Array.size (List.toArray cs11) = 2 ∧ (∀ u ∈ Array.toList (List.toArray cs11), one u = true) ∧ Room w12 ⟨World.heap w8 |>.size, 0, none⟩ 2 ∧
 ∀ w13 : World, w13 = setCells w12 ⟨World.heap w8 |>.size, 0, none⟩ (Array.toList (List.toArray cs11)) 0 →
 ∃ x14 : Int, World.cell? w13 (Addr.add ⟨World.heap w8 |>.size, 0, none⟩ 0) = some (.int .i64 x14) ∧
 ∃ x15 : Int, World.cell? w13 (Addr.add ⟨World.heap w8 |>.size, 0, none⟩ 1) = some (.int .i64 x15) ∧
 Calls Tryd.prog 28 #[(.int .i64 x14), (.int .i64 x15)] w13 fun e16 w17 => ∃ x18 : Int, e16 = .returned (.int .i64 x18) ∧
 (bif (!decide (x18 = 0)) then
 (R (.returned (.tuple #[(.slice none 0 0), (.int .i64 x18)])) w17)
 else
 (∃ x19 : Int, World.cell? w17 (Addr.add ⟨World.heap w8 |>.size, 0, none⟩ 0) = some (.int .i64 x19) ∧
 Calls Tryd.prog 31 #[(.pointer x3), (.int .u64 (IntKind.wrap .u64 x19))] w17 fun e20 w21 => e20 = .returned (.tuple #[]) ∧ ∃ x22 : Int, World.cell? w21 (Addr.add ⟨World.heap w8 |>.size, 0, none⟩ 1) = some (.int .i64 x22) ∧
 Calls Tryd.prog 31 #[(.pointer x3), (.int .u64 (IntKind.wrap .u64 x22))] w21 fun e23 w24 => e23 = .returned (.tuple #[]) ∧ ∃ m25, m25 < m7 ∧ I6 m25 (IntKind.wrap .i64 (x9 + 1)) w24)))
 else
 (Calls Tryd.prog 34 #[(.pointer x3)] w8 fun e26 w27 => ∃ (x28 : Option Addr) (x28n : Nat) (x28c : Nat), e26 = .returned (.slice x28 x28n x28c) ∧
 Calls Tryd.prog 33 #[(.int .u8 87), (.slice x28 x28n x28c)] w27 fun e29 w30 => ∃ (x31 : Option Addr) (x31n : Nat) (x31c : Nat), e29 = .returned (.slice x31 x31n x31c) ∧
 R (.returned (.tuple #[(.slice x31 x31n x31c), (.int .i64 0)])) w30)))))
theorem e15 (l0 : Option Addr) (l0n : Nat) (l0c : Nat) (w : World) (R : Ending → World → Prop) : denS Tryd.prog s15 (argsEnv 0 [(.slice l0 l0n l0c)]) w (endK r15 R) = d15 l0 l0n l0c w R := by kernel_rfl
theorem c15 (l0 : Option Addr) (l0n : Nat) (l0c : Nat) {w : World} {R : Ending → World → Prop} (h : d15 l0 l0n l0c w R) : Calls Tryd.prog 15 #[(.slice l0 l0n l0c)] w R :=
  den15 [(.slice l0 l0n l0c)] w R (by simp) ((e15 l0 l0n l0c w R).symm ▸ h)

/-- prelude/merge.load -/
def s41 : S := (.seq (.ops [⟨(some 4), (.mv (.const (.pointer none))), .ptr, none⟩,
  ⟨(some 5), (.mv (.const (.bool false))), .bool, none⟩] [0, 1])
 (.seq (.ops [⟨(some 11), (.mv (.tmp 0)), .sl, none⟩,
  ⟨(some 12), (.call 25 [(.tmp 11), (.const (.int .i64 0))] [(.int .u8), .sl, (.int .i64), (.int .i64)]), .any, none⟩,
  ⟨(some 10), (.mv (.tmp 12)), .any, none⟩,
  ⟨(some 13), (.ext 0 (.tmp 10)), (.int .u8), none⟩,
  ⟨(some 14), (.ext 1 (.tmp 10)), .sl, none⟩,
  ⟨(some 15), (.ext 2 (.tmp 10)), (.int .i64), none⟩,
  ⟨(some 16), (.ext 3 (.tmp 10)), (.int .i64), none⟩,
  ⟨(some 6), (.mv (.tmp 13)), (.int .u8), none⟩,
  ⟨(some 7), (.mv (.tmp 14)), .sl, none⟩,
  ⟨(some 8), (.mv (.tmp 15)), (.int .i64), none⟩,
  ⟨(some 9), (.mv (.tmp 16)), (.int .i64), none⟩] [9, 8, 0, 6, 1, 7])
 (.join [] [7]
 (.seq (.ops [⟨(some 17), (.mv (.tmp 9)), (.int .i64), none⟩,
  ⟨(some 18), (.bin .neq (.tmp 17) (.const (.int .i64 0))), .bool, none⟩,
  ⟨(some 19), (.mv (.tmp 18)), .bool, none⟩,
  ⟨(some 20), (.mv (.tmp 8)), (.int .i64), (some (19, false))⟩,
  ⟨(some 21), (.mv (.tmp 0)), .sl, (some (19, false))⟩,
  ⟨(some 22), (.len (.tmp 21)), (.int .i64), (some (19, false))⟩,
  ⟨(some 23), (.bin .neq (.tmp 20) (.tmp 22)), .bool, (some (19, false))⟩,
  ⟨(some 24), (.pick (.tmp 19) (.const (.bool true)) (.tmp 23)), .bool, none⟩,
  ⟨(some 25), (.mv (.tmp 24)), .bool, none⟩,
  ⟨(some 26), (.mv (.tmp 6)), (.int .u8), (some (25, false))⟩,
  ⟨(some 27), (.mv (.tmp 1)), (.int .u8), (some (25, false))⟩,
  ⟨(some 28), (.bin .neq (.tmp 26) (.tmp 27)), .bool, (some (25, false))⟩,
  ⟨(some 29), (.pick (.tmp 25) (.const (.bool true)) (.tmp 28)), .bool, none⟩] [29, 7])
 (.cond (.tmp 29)
 (.seq (.ops [⟨(some 4), (.mv (.const (.pointer none))), .ptr, none⟩,
  ⟨(some 5), (.mv (.const (.bool false))), .bool, none⟩] [4, 5])
 .ret)
 .skip))
 (.seq (.ops [⟨(some 30), (.mv (.tmp 7)), .sl, none⟩,
  ⟨(some 31), (.call 76 [(.tmp 30)] [.ptr]), .ptr, none⟩,
  ⟨(some 4), (.mv (.tmp 31)), .ptr, none⟩,
  ⟨(some 5), (.mv (.const (.bool true))), .bool, none⟩] [4, 5])
 .ret))))
def r41 : List Res := [.t 4, .t 5]
theorem tr41 : trS Tryd.prog [] 32 (Tryd.f41.body.getD .skip) s41 = some s41 := by kernel_rfl
theorem den41 (args : List Value) (w : World) (R : Ending → World → Prop) (hn : args.length ≤ 32) (h : denS Tryd.prog s41 (argsEnv 0 args) w (endK r41 R)) : Calls Tryd.prog 41 args.toArray w R :=
  calls_of_den (pn := []) (fn := Tryd.f41) (c := Tryd.f41.body.getD .skip) Tryd.func41 (by kernel_rfl) (by rw [Tryd.ntmps41]; exact hn) (by rw [Tryd.ntmps41]; exact tr41) (by kernel_rfl) h
def d41 (frame0 : Option Addr) (frame0n : Nat) (frame0c : Nat) (kind1 : Int) (w : World) (R : Ending → World → Prop) : Prop :=
 Calls Tryd.prog 25 #[(.slice frame0 frame0n frame0c), (.int .i64 0)] w fun e2 w3 => ∃ x4 : Int, ∃ (x5 : Option Addr) (x5n : Nat) (x5c : Nat), ∃ x6 : Int, ∃ x7 : Int, e2 = .returned (.tuple #[(.int .u8 x4), (.slice x5 x5n x5c), (.int .i64 x6), (.int .i64 x7)]) ∧
 ∃ x8 : Int, (#[(.int .u8 x4), (.slice x5 x5n x5c), (.int .i64 x6), (.int .i64 x7)] : Array Value)[0]? = some (.int .u8 x8) ∧
 ∃ (x9 : Option Addr) (x9n : Nat) (x9c : Nat), (#[(.int .u8 x4), (.slice x5 x5n x5c), (.int .i64 x6), (.int .i64 x7)] : Array Value)[1]? = some (.slice x9 x9n x9c) ∧
 ∃ x10 : Int, (#[(.int .u8 x4), (.slice x5 x5n x5c), (.int .i64 x6), (.int .i64 x7)] : Array Value)[2]? = some (.int .i64 x10) ∧
 ∃ x11 : Int, (#[(.int .u8 x4), (.slice x5 x5n x5c), (.int .i64 x6), (.int .i64 x7)] : Array Value)[3]? = some (.int .i64 x11) ∧
 ∃ J12 : World → Prop,
 ((bif (!decide (x11 = 0)) then
 (R (.returned (.tuple #[(.pointer none), (.bool false)])) w3)
 else
 ((bif (!decide (x10 = ((frame0n : Nat) : Int))) then
 (R (.returned (.tuple #[(.pointer none), (.bool false)])) w3)
 else
 ((bif (!decide (x8 = kind1)) then
 (R (.returned (.tuple #[(.pointer none), (.bool false)])) w3)
 else
 (J12  w3))))))) ∧
 (∀ (w13 : World), J12  w13 →
 Calls Tryd.prog 76 #[(.slice x9 x9n x9c)] w13 fun e14 w15 => ∃ x16 : Option Addr, e14 = .returned (.pointer x16) ∧
 R (.returned (.tuple #[(.pointer x16), (.bool true)])) w15)
theorem e41 (frame0 : Option Addr) (frame0n : Nat) (frame0c : Nat) (kind1 : Int) (w : World) (R : Ending → World → Prop) : denS Tryd.prog s41 (argsEnv 0 [(.slice frame0 frame0n frame0c), (.int .u8 kind1)]) w (endK r41 R) = d41 frame0 frame0n frame0c kind1 w R := by kernel_rfl
theorem c41 (frame0 : Option Addr) (frame0n : Nat) (frame0c : Nat) (kind1 : Int) {w : World} {R : Ending → World → Prop} (h : d41 frame0 frame0n frame0c kind1 w R) : Calls Tryd.prog 41 #[(.slice frame0 frame0n frame0c), (.int .u8 kind1)] w R :=
  den41 [(.slice frame0 frame0n frame0c), (.int .u8 kind1)] w R (by simp) ((e41 frame0 frame0n frame0c kind1 w R).symm ▸ h)

/-- prelude/merge.name -/
def s42 : S := (.seq (.ops [⟨(some 2), (.mv (.const (.int .i64 0))), (.int .i64), none⟩,
  ⟨(some 3), (.mv (.const (.int .i64 0))), (.int .i64), none⟩,
  ⟨(some 4), (.mv (.const (.bool false))), .bool, none⟩] [0])
 (.seq (.ops [⟨(some 7), (.mv (.tmp 0)), .ptr, none⟩,
  ⟨(some 8), (.call 49 [(.tmp 7), (.const (.int .u64 15))] [(.int .u64)]), (.int .u64), none⟩,
  ⟨(some 9), (.cv .i64 (.tmp 8)), (.int .i64), none⟩,
  ⟨(some 5), (.mv (.tmp 9)), (.int .i64), none⟩] [0, 5])
 (.seq (.ops [⟨(some 10), (.mv (.tmp 0)), .ptr, none⟩,
  ⟨(some 11), (.call 49 [(.tmp 10), (.const (.int .u64 1099511627776))] [(.int .u64)]), (.int .u64), none⟩,
  ⟨(some 12), (.cv .i64 (.tmp 11)), (.int .i64), none⟩,
  ⟨(some 6), (.mv (.tmp 12)), (.int .i64), none⟩] [5, 6, 0])
 (.seq (.ops [⟨(some 13), (.mv (.tmp 5)), (.int .i64), none⟩,
  ⟨(some 14), (.mv (.tmp 6)), (.int .i64), none⟩,
  ⟨(some 15), (.mv (.tmp 0)), .ptr, none⟩,
  ⟨(some 16), (.call 77 [(.tmp 15)] [(.int .i64)]), (.int .i64), none⟩,
  ⟨(some 17), (.bin .eql (.tmp 16) (.const (.int .i64 0))), .bool, none⟩,
  ⟨(some 18), (.mv (.tmp 17)), .bool, none⟩,
  ⟨(some 19), (.mv (.tmp 6)), (.int .i64), (some (18, true))⟩,
  ⟨(some 20), (.call 64 [(.tmp 19)] [.bool]), .bool, (some (18, true))⟩,
  ⟨(some 21), (.pick (.tmp 18) (.tmp 20) (.const (.bool false))), .bool, none⟩,
  ⟨(some 2), (.mv (.tmp 13)), (.int .i64), none⟩,
  ⟨(some 3), (.mv (.tmp 14)), (.int .i64), none⟩,
  ⟨(some 4), (.mv (.tmp 21)), .bool, none⟩] [2, 3, 4])
 .ret))))
def r42 : List Res := [.t 2, .t 3, .t 4]
theorem tr42 : trS Tryd.prog [] 22 (Tryd.f42.body.getD .skip) s42 = some s42 := by kernel_rfl
theorem den42 (args : List Value) (w : World) (R : Ending → World → Prop) (hn : args.length ≤ 22) (h : denS Tryd.prog s42 (argsEnv 0 args) w (endK r42 R)) : Calls Tryd.prog 42 args.toArray w R :=
  calls_of_den (pn := []) (fn := Tryd.f42) (c := Tryd.f42.body.getD .skip) Tryd.func42 (by kernel_rfl) (by rw [Tryd.ntmps42]; exact hn) (by rw [Tryd.ntmps42]; exact tr42) (by kernel_rfl) h
def d42 (r0 : Option Addr) (w : World) (R : Ending → World → Prop) : Prop :=
 Calls Tryd.prog 49 #[(.pointer r0), (.int .u64 15)] w fun e1 w2 => ∃ x3 : Int, e1 = .returned (.int .u64 x3) ∧
 Calls Tryd.prog 49 #[(.pointer r0), (.int .u64 1099511627776)] w2 fun e4 w5 => ∃ x6 : Int, e4 = .returned (.int .u64 x6) ∧
 Calls Tryd.prog 77 #[(.pointer r0)] w5 fun e7 w8 => ∃ x9 : Int, e7 = .returned (.int .i64 x9) ∧
 (bif (decide (x9 = 0)) then
 (Calls Tryd.prog 64 #[(.int .i64 (IntKind.wrap .i64 x6))] w8 fun e10 w11 => ∃ x12 : Bool, e10 = .returned (.bool x12) ∧
 R (.returned (.tuple #[(.int .i64 (IntKind.wrap .i64 x3)), (.int .i64 (IntKind.wrap .i64 x6)), (.bool x12)])) w11)
 else
 (R (.returned (.tuple #[(.int .i64 (IntKind.wrap .i64 x3)), (.int .i64 (IntKind.wrap .i64 x6)), (.bool false)])) w8))
theorem e42 (r0 : Option Addr) (w : World) (R : Ending → World → Prop) : denS Tryd.prog s42 (argsEnv 0 [(.pointer r0)]) w (endK r42 R) = d42 r0 w R := by kernel_rfl
theorem c42 (r0 : Option Addr) {w : World} {R : Ending → World → Prop} (h : d42 r0 w R) : Calls Tryd.prog 42 #[(.pointer r0)] w R :=
  den42 [(.pointer r0)] w R (by simp) ((e42 r0 w R).symm ▸ h)

/-- prelude/merge.named -/
def s28 : S := (.seq (.ops [⟨(some 4), (.mv (.const (.int .i64 0))), (.int .i64), none⟩] [0, 1])
 (.join [] [1]
 (.seq (.ops [⟨(some 5), (.mv (.tmp 0)), (.int .i64), none⟩,
  ⟨(some 6), (.bin .lss (.tmp 5) (.const (.int .i64 0))), .bool, none⟩,
  ⟨(some 7), (.mv (.tmp 6)), .bool, none⟩,
  ⟨(some 8), (.mv (.tmp 0)), (.int .i64), (some (7, false))⟩,
  ⟨(some 9), (.bin .geq (.tmp 8) (.const (.int .i64 16))), .bool, (some (7, false))⟩,
  ⟨(some 10), (.pick (.tmp 7) (.const (.bool true)) (.tmp 9)), .bool, none⟩] [10, 1])
 (.cond (.tmp 10)
 (.seq (.ops [⟨(some 4), (.mv (.const (.int .i64 261))), (.int .i64), none⟩] [4])
 .ret)
 .skip))
 (.seq (.seq (.ops [⟨(some 11), (.mv (.tmp 1)), (.int .i64), none⟩,
  ⟨(some 12), (.call 64 [(.tmp 11)] [.bool]), .bool, none⟩,
  ⟨(some 13), (.un .not (.tmp 12)), .bool, none⟩] [13])
 (.cond (.tmp 13)
 (.seq (.ops [⟨(some 4), (.mv (.const (.int .i64 262))), (.int .i64), none⟩] [4])
 .ret)
 .skip))
 (.seq (.ops [⟨(some 4), (.mv (.const (.int .i64 0))), (.int .i64), none⟩] [4])
 .ret))))
def r28 : List Res := [.t 4]
theorem tr28 : trS Tryd.prog [] 14 (Tryd.f28.body.getD .skip) s28 = some s28 := by kernel_rfl
theorem den28 (args : List Value) (w : World) (R : Ending → World → Prop) (hn : args.length ≤ 14) (h : denS Tryd.prog s28 (argsEnv 0 args) w (endK r28 R)) : Calls Tryd.prog 28 args.toArray w R :=
  calls_of_den (pn := []) (fn := Tryd.f28) (c := Tryd.f28.body.getD .skip) Tryd.func28 (by kernel_rfl) (by rw [Tryd.ntmps28]; exact hn) (by rw [Tryd.ntmps28]; exact tr28) (by kernel_rfl) h
def d28 (input0 : Int) (n1 : Int) (w : World) (R : Ending → World → Prop) : Prop :=
 ∃ J2 : World → Prop,
 ((bif (decide (input0 < 0)) then
 (R (.returned (.int .i64 261)) w)
 else
 ((bif (decide (16 ≤ input0)) then
 (R (.returned (.int .i64 261)) w)
 else
 (J2  w))))) ∧
 (∀ (w3 : World), J2  w3 →
 Calls Tryd.prog 64 #[(.int .i64 n1)] w3 fun e4 w5 => ∃ x6 : Bool, e4 = .returned (.bool x6) ∧
 (bif (!x6) then
 (R (.returned (.int .i64 262)) w5)
 else
 (R (.returned (.int .i64 0)) w5)))
theorem e28 (input0 : Int) (n1 : Int) (w : World) (R : Ending → World → Prop) : denS Tryd.prog s28 (argsEnv 0 [(.int .i64 input0), (.int .i64 n1)]) w (endK r28 R) = d28 input0 n1 w R := by kernel_rfl
theorem c28 (input0 : Int) (n1 : Int) {w : World} {R : Ending → World → Prop} (h : d28 input0 n1 w R) : Calls Tryd.prog 28 #[(.int .i64 input0), (.int .i64 n1)] w R :=
  den28 [(.int .i64 input0), (.int .i64 n1)] w R (by simp) ((e28 input0 n1 w R).symm ▸ h)

/-- prelude/merge.DecodePiece -/
def s18 : S := (.seq (.ops [⟨(some 2), (.alloc 37), .ptr, none⟩,
  ⟨(some 3), (.mv (.const (.int .i64 0))), (.int .i64), none⟩] [0, 2])
 (.seq (.ops [⟨(some 12), (.mv (.tmp 0)), .sl, none⟩,
  ⟨(some 13), (.call 41 [(.tmp 12), (.const (.int .u8 77))] [.ptr, .bool]), .any, none⟩,
  ⟨(some 11), (.mv (.tmp 13)), .any, none⟩,
  ⟨(some 14), (.ext 0 (.tmp 11)), .ptr, none⟩,
  ⟨(some 15), (.ext 1 (.tmp 11)), .bool, none⟩,
  ⟨(some 4), (.mv (.tmp 14)), .ptr, none⟩,
  ⟨(some 5), (.mv (.tmp 15)), .bool, none⟩] [5, 2, 4])
 (.seq (.seq (.ops [⟨(some 16), (.mv (.tmp 5)), .bool, none⟩,
  ⟨(some 17), (.un .not (.tmp 16)), .bool, none⟩] [17, 2, 4])
 (.cond (.tmp 17)
 (.seq (.ops [⟨(some 18), (.bld 37 (.fields [(0, 1), (1, 1), (2, 1)]) []), .agg, none⟩,
  ⟨none, (.stN 3 (.tmp 2) (.tmp 18)), .any, none⟩,
  ⟨(some 3), (.mv (.const (.int .i64 264))), (.int .i64), none⟩] [2, 3])
 .ret)
 .skip))
 (.seq (.ops [⟨(some 20), (.mv (.tmp 4)), .ptr, none⟩,
  ⟨(some 21), (.call 42 [(.tmp 20)] [(.int .i64), (.int .i64), .bool]), .any, none⟩,
  ⟨(some 19), (.mv (.tmp 21)), .any, none⟩,
  ⟨(some 22), (.ext 0 (.tmp 19)), (.int .i64), none⟩,
  ⟨(some 23), (.ext 1 (.tmp 19)), (.int .i64), none⟩,
  ⟨(some 24), (.ext 2 (.tmp 19)), .bool, none⟩,
  ⟨(some 6), (.mv (.tmp 22)), (.int .i64), none⟩,
  ⟨(some 7), (.mv (.tmp 23)), (.int .i64), none⟩,
  ⟨(some 5), (.mv (.tmp 24)), .bool, none⟩] [5, 2, 4, 6, 7])
 (.seq (.seq (.ops [⟨(some 25), (.mv (.tmp 5)), .bool, none⟩,
  ⟨(some 26), (.un .not (.tmp 25)), .bool, none⟩] [26, 2, 4, 6, 7])
 (.cond (.tmp 26)
 (.seq (.ops [⟨(some 27), (.bld 37 (.fields [(0, 1), (1, 1), (2, 1)]) []), .agg, none⟩,
  ⟨none, (.stN 3 (.tmp 2) (.tmp 27)), .any, none⟩,
  ⟨(some 3), (.mv (.const (.int .i64 264))), (.int .i64), none⟩] [2, 3])
 .ret)
 .skip))
 (.seq (.ops [⟨(some 29), (.mv (.tmp 4)), .ptr, none⟩,
  ⟨(some 30), (.mv (.tmp 4)), .ptr, none⟩,
  ⟨(some 31), (.call 45 [(.tmp 30)] [(.int .i64)]), (.int .i64), none⟩,
  ⟨(some 32), (.call 44 [(.tmp 29), (.tmp 31)] [.sl]), .sl, none⟩,
  ⟨(some 33), (.call 43 [(.tmp 32)] [.sl, (.int .i64), (.int .i64)]), .any, none⟩,
  ⟨(some 28), (.mv (.tmp 33)), .any, none⟩,
  ⟨(some 34), (.ext 0 (.tmp 28)), .sl, none⟩,
  ⟨(some 35), (.ext 1 (.tmp 28)), (.int .i64), none⟩,
  ⟨(some 36), (.ext 2 (.tmp 28)), (.int .i64), none⟩,
  ⟨(some 8), (.mv (.tmp 34)), .sl, none⟩,
  ⟨(some 9), (.mv (.tmp 35)), (.int .i64), none⟩,
  ⟨(some 10), (.mv (.tmp 36)), (.int .i64), none⟩] [10, 2, 6, 7, 8])
 (.seq (.seq (.ops [⟨(some 37), (.mv (.tmp 10)), (.int .i64), none⟩,
  ⟨(some 38), (.bin .neq (.tmp 37) (.const (.int .i64 0))), .bool, none⟩] [38, 2, 6, 7, 8])
 (.cond (.tmp 38)
 (.seq (.ops [⟨(some 39), (.bld 37 (.fields [(0, 1), (1, 1), (2, 1)]) []), .agg, none⟩,
  ⟨none, (.stN 3 (.tmp 2) (.tmp 39)), .any, none⟩,
  ⟨(some 3), (.mv (.const (.int .i64 264))), (.int .i64), none⟩] [2, 3])
 .ret)
 .skip))
 (.seq (.ops [⟨(some 40), (.mv (.tmp 6)), (.int .i64), none⟩,
  ⟨(some 41), (.mv (.tmp 7)), (.int .i64), none⟩,
  ⟨(some 42), (.mv (.tmp 8)), .sl, none⟩,
  ⟨(some 43), (.bld 37 (.fields [(0, 1), (1, 1), (2, 1)]) [(0, (.tmp 40)), (1, (.tmp 41)), (2, (.tmp 42))]), .agg, none⟩,
  ⟨none, (.stN 3 (.tmp 2) (.tmp 43)), .any, none⟩,
  ⟨(some 3), (.mv (.const (.int .i64 0))), (.int .i64), none⟩] [2, 3])
 .ret))))))))
def r18 : List Res := [.cN 2 3, .t 3]
theorem tr18 : trS Tryd.prog [] 44 (Tryd.f18.body.getD .skip) s18 = some s18 := by kernel_rfl
theorem den18 (args : List Value) (w : World) (R : Ending → World → Prop) (hn : args.length ≤ 44) (h : denS Tryd.prog s18 (argsEnv 0 args) w (endK r18 R)) : Calls Tryd.prog 18 args.toArray w R :=
  calls_of_den (pn := []) (fn := Tryd.f18) (c := Tryd.f18.body.getD .skip) Tryd.func18 (by kernel_rfl) (by rw [Tryd.ntmps18]; exact hn) (by rw [Tryd.ntmps18]; exact tr18) (by kernel_rfl) h
def d18 (frame0 : Option Addr) (frame0n : Nat) (frame0c : Nat) (w : World) (R : Ending → World → Prop) : Prop :=
 ∀ w1 : World, w1 = World.alloc w (.cells (zc Tryd.prog 37).toArray 37) →
 Calls Tryd.prog 41 #[(.slice frame0 frame0n frame0c), (.int .u8 77)] w1 fun e2 w3 => ∃ x4 : Option Addr, ∃ x5 : Bool, e2 = .returned (.tuple #[(.pointer x4), (.bool x5)]) ∧
 ∃ x6 : Option Addr, (#[(.pointer x4), (.bool x5)] : Array Value)[0]? = some (.pointer x6) ∧
 ∃ x7 : Bool, (#[(.pointer x4), (.bool x5)] : Array Value)[1]? = some (.bool x7) ∧
 (bif (!x7) then
 (∃ cs8, fillL (.fields [(0, 1), (1, 1), (2, 1)]) (zc Tryd.prog 37) [] = some cs8 ∧
 Array.size (List.toArray cs8) = 3 ∧ (∀ u ∈ Array.toList (List.toArray cs8), one u = true) ∧ Room w3 ⟨World.heap w |>.size, 0, none⟩ 3 ∧
 ∀ w9 : World, w9 = setCells w3 ⟨World.heap w |>.size, 0, none⟩ (Array.toList (List.toArray cs8)) 0 →
 ∃ cs10 : List Value, List.length cs10 = 3 ∧ Cells w9 ⟨World.heap w |>.size, 0, none⟩ cs10 ∧
 R (.returned (.tuple #[(.agg (List.toArray cs10)), (.int .i64 264)])) w9)
 else
 (Calls Tryd.prog 42 #[(.pointer x6)] w3 fun e11 w12 => ∃ x13 : Int, ∃ x14 : Int, ∃ x15 : Bool, e11 = .returned (.tuple #[(.int .i64 x13), (.int .i64 x14), (.bool x15)]) ∧
 ∃ x16 : Int, (#[(.int .i64 x13), (.int .i64 x14), (.bool x15)] : Array Value)[0]? = some (.int .i64 x16) ∧
 ∃ x17 : Int, (#[(.int .i64 x13), (.int .i64 x14), (.bool x15)] : Array Value)[1]? = some (.int .i64 x17) ∧
 ∃ x18 : Bool, (#[(.int .i64 x13), (.int .i64 x14), (.bool x15)] : Array Value)[2]? = some (.bool x18) ∧
 (bif (!x18) then
 (∃ cs19, fillL (.fields [(0, 1), (1, 1), (2, 1)]) (zc Tryd.prog 37) [] = some cs19 ∧
 Array.size (List.toArray cs19) = 3 ∧ (∀ u ∈ Array.toList (List.toArray cs19), one u = true) ∧ Room w12 ⟨World.heap w |>.size, 0, none⟩ 3 ∧
 ∀ w20 : World, w20 = setCells w12 ⟨World.heap w |>.size, 0, none⟩ (Array.toList (List.toArray cs19)) 0 →
 ∃ cs21 : List Value, List.length cs21 = 3 ∧ Cells w20 ⟨World.heap w |>.size, 0, none⟩ cs21 ∧
 R (.returned (.tuple #[(.agg (List.toArray cs21)), (.int .i64 264)])) w20)
 else
 (Calls Tryd.prog 45 #[(.pointer x6)] w12 fun e22 w23 => ∃ x24 : Int, e22 = .returned (.int .i64 x24) ∧
 Calls Tryd.prog 44 #[(.pointer x6), (.int .i64 x24)] w23 fun e25 w26 => ∃ (x27 : Option Addr) (x27n : Nat) (x27c : Nat), e25 = .returned (.slice x27 x27n x27c) ∧
 Calls Tryd.prog 43 #[(.slice x27 x27n x27c)] w26 fun e28 w29 => ∃ (x30 : Option Addr) (x30n : Nat) (x30c : Nat), ∃ x31 : Int, ∃ x32 : Int, e28 = .returned (.tuple #[(.slice x30 x30n x30c), (.int .i64 x31), (.int .i64 x32)]) ∧
 ∃ (x33 : Option Addr) (x33n : Nat) (x33c : Nat), (#[(.slice x30 x30n x30c), (.int .i64 x31), (.int .i64 x32)] : Array Value)[0]? = some (.slice x33 x33n x33c) ∧
 ∃ x34 : Int, (#[(.slice x30 x30n x30c), (.int .i64 x31), (.int .i64 x32)] : Array Value)[1]? = some (.int .i64 x34) ∧
 ∃ x35 : Int, (#[(.slice x30 x30n x30c), (.int .i64 x31), (.int .i64 x32)] : Array Value)[2]? = some (.int .i64 x35) ∧
 (bif (!decide (x35 = 0)) then
 (∃ cs36, fillL (.fields [(0, 1), (1, 1), (2, 1)]) (zc Tryd.prog 37) [] = some cs36 ∧
 Array.size (List.toArray cs36) = 3 ∧ (∀ u ∈ Array.toList (List.toArray cs36), one u = true) ∧ Room w29 ⟨World.heap w |>.size, 0, none⟩ 3 ∧
 ∀ w37 : World, w37 = setCells w29 ⟨World.heap w |>.size, 0, none⟩ (Array.toList (List.toArray cs36)) 0 →
 ∃ cs38 : List Value, List.length cs38 = 3 ∧ Cells w37 ⟨World.heap w |>.size, 0, none⟩ cs38 ∧
 R (.returned (.tuple #[(.agg (List.toArray cs38)), (.int .i64 264)])) w37)
 else
 (∃ cs39, fillL (.fields [(0, 1), (1, 1), (2, 1)]) (zc Tryd.prog 37) [(0, (.int .i64 x16)), (1, (.int .i64 x17)), (2, (.slice x33 x33n x33c))] = some cs39 ∧
 Array.size (List.toArray cs39) = 3 ∧ (∀ u ∈ Array.toList (List.toArray cs39), one u = true) ∧ Room w29 ⟨World.heap w |>.size, 0, none⟩ 3 ∧
 ∀ w40 : World, w40 = setCells w29 ⟨World.heap w |>.size, 0, none⟩ (Array.toList (List.toArray cs39)) 0 →
 ∃ cs41 : List Value, List.length cs41 = 3 ∧ Cells w40 ⟨World.heap w |>.size, 0, none⟩ cs41 ∧
 R (.returned (.tuple #[(.agg (List.toArray cs41)), (.int .i64 0)])) w40))))))
theorem e18 (frame0 : Option Addr) (frame0n : Nat) (frame0c : Nat) (w : World) (R : Ending → World → Prop) : denS Tryd.prog s18 (argsEnv 0 [(.slice frame0 frame0n frame0c)]) w (endK r18 R) = d18 frame0 frame0n frame0c w R := by kernel_rfl
theorem c18 (frame0 : Option Addr) (frame0n : Nat) (frame0c : Nat) {w : World} {R : Ending → World → Prop} (h : d18 frame0 frame0n frame0c w R) : Calls Tryd.prog 18 #[(.slice frame0 frame0n frame0c)] w R :=
  den18 [(.slice frame0 frame0n frame0c)] w R (by simp) ((e18 frame0 frame0n frame0c w R).symm ▸ h)

/-- prelude/merge.DecodeWants -/
def s20 : S := (.seq (.ops [⟨(some 2), (.mv (.const (.slice none 0 0))), .sl, none⟩,
  ⟨(some 3), (.mv (.const (.int .i64 0))), (.int .i64), none⟩] [0])
 (.seq (.ops [⟨(some 12), (.mv (.tmp 0)), .sl, none⟩,
  ⟨(some 13), (.call 41 [(.tmp 12), (.const (.int .u8 87))] [.ptr, .bool]), .any, none⟩,
  ⟨(some 11), (.mv (.tmp 13)), .any, none⟩,
  ⟨(some 14), (.ext 0 (.tmp 11)), .ptr, none⟩,
  ⟨(some 15), (.ext 1 (.tmp 11)), .bool, none⟩,
  ⟨(some 4), (.mv (.tmp 14)), .ptr, none⟩,
  ⟨(some 5), (.mv (.tmp 15)), .bool, none⟩] [5, 4])
 (.seq (.seq (.ops [⟨(some 16), (.mv (.tmp 5)), .bool, none⟩,
  ⟨(some 17), (.un .not (.tmp 16)), .bool, none⟩] [17, 4])
 (.cond (.tmp 17)
 (.seq (.ops [⟨(some 2), (.mv (.const (.slice none 0 0))), .sl, none⟩,
  ⟨(some 3), (.mv (.const (.int .i64 264))), (.int .i64), none⟩] [2, 3])
 .ret)
 .skip))
 (.seq (.ops [⟨(some 6), (.mv (.const (.slice none 0 0))), .sl, none⟩] [4, 6])
 (.seq (.seq (.ops [⟨(some 18), (.mv (.tmp 4)), .ptr, none⟩,
  ⟨(some 19), (.call 49 [(.tmp 18), (.const (.int .u64 1024))] [(.int .u64)]), (.int .u64), none⟩,
  ⟨(some 7), (.mv (.tmp 19)), (.int .u64), none⟩] [7, 4, 6])
 (.block 0
 (.loop [(6, .sl), (7, (.int .u64))] [4]
 (.seq (.seq (.ops [⟨(some 20), (.mv (.tmp 7)), (.int .u64), none⟩,
  ⟨(some 21), (.bin .gtr (.tmp 20) (.const (.int .u64 0))), .bool, none⟩] [21, 4, 6, 7])
 (.cond (.tmp 21)
 .skip
 (.exit 0)))
 (.seq (.block 1
 (.seq (.ops [⟨(some 25), (.mv (.tmp 4)), .ptr, none⟩,
  ⟨(some 26), (.call 42 [(.tmp 25)] [(.int .i64), (.int .i64), .bool]), .any, none⟩,
  ⟨(some 24), (.mv (.tmp 26)), .any, none⟩,
  ⟨(some 27), (.ext 0 (.tmp 24)), (.int .i64), none⟩,
  ⟨(some 28), (.ext 1 (.tmp 24)), (.int .i64), none⟩,
  ⟨(some 29), (.ext 2 (.tmp 24)), .bool, none⟩,
  ⟨(some 8), (.mv (.tmp 27)), (.int .i64), none⟩,
  ⟨(some 9), (.mv (.tmp 28)), (.int .i64), none⟩,
  ⟨(some 10), (.mv (.tmp 29)), .bool, none⟩] [10, 6, 8, 9, 7, 4])
 (.seq (.seq (.ops [⟨(some 30), (.mv (.tmp 10)), .bool, none⟩,
  ⟨(some 31), (.un .not (.tmp 30)), .bool, none⟩] [31, 6, 8, 9, 7, 4])
 (.cond (.tmp 31)
 (.seq (.ops [⟨(some 2), (.mv (.const (.slice none 0 0))), .sl, none⟩,
  ⟨(some 3), (.mv (.const (.int .i64 264))), (.int .i64), none⟩] [2, 3])
 .ret)
 .skip))
 (.ops [⟨(some 32), (.mv (.tmp 6)), .sl, none⟩,
  ⟨(some 33), (.mv (.tmp 8)), (.int .i64), none⟩,
  ⟨(some 34), (.mv (.tmp 9)), (.int .i64), none⟩,
  ⟨(some 35), (.bld 59 (.fields [(0, 1), (1, 1)]) [(0, (.tmp 33)), (1, (.tmp 34))]), .agg, none⟩,
  ⟨(some 36), (.bldS 59 1 2 [(0, (.tmp 35))]), .sl, none⟩,
  ⟨(some 37), (.app #[38, 38] 38 (.tmp 32) (.tmp 36)), .sl, none⟩,
  ⟨(some 6), (.mv (.tmp 37)), .sl, none⟩] [7, 4, 6]))))
 (.ops [⟨(some 22), (.mv (.tmp 7)), (.int .u64), none⟩,
  ⟨(some 23), (.bin .sub (.tmp 22) (.const (.int .u64 1))), (.int .u64), none⟩,
  ⟨(some 7), (.mv (.tmp 23)), (.int .u64), none⟩] [7, 4, 6]))))))
 (.seq (.seq (.ops [⟨(some 38), (.mv (.tmp 4)), .ptr, none⟩,
  ⟨(some 39), (.call 50 [(.tmp 38)] [(.int .i64)]), (.int .i64), none⟩,
  ⟨(some 40), (.bin .neq (.tmp 39) (.const (.int .i64 0))), .bool, none⟩] [40, 6])
 (.cond (.tmp 40)
 (.seq (.ops [⟨(some 2), (.mv (.const (.slice none 0 0))), .sl, none⟩,
  ⟨(some 3), (.mv (.const (.int .i64 264))), (.int .i64), none⟩] [2, 3])
 .ret)
 .skip))
 (.seq (.ops [⟨(some 41), (.mv (.tmp 6)), .sl, none⟩,
  ⟨(some 2), (.mv (.tmp 41)), .sl, none⟩,
  ⟨(some 3), (.mv (.const (.int .i64 0))), (.int .i64), none⟩] [2, 3])
 .ret)))))))
def r20 : List Res := [.t 2, .t 3]
theorem tr20 : trS Tryd.prog [] 42 (Tryd.f20.body.getD .skip) s20 = some s20 := by kernel_rfl
theorem den20 (args : List Value) (w : World) (R : Ending → World → Prop) (hn : args.length ≤ 42) (h : denS Tryd.prog s20 (argsEnv 0 args) w (endK r20 R)) : Calls Tryd.prog 20 args.toArray w R :=
  calls_of_den (pn := []) (fn := Tryd.f20) (c := Tryd.f20.body.getD .skip) Tryd.func20 (by kernel_rfl) (by rw [Tryd.ntmps20]; exact hn) (by rw [Tryd.ntmps20]; exact tr20) (by kernel_rfl) h
def d20 (frame0 : Option Addr) (frame0n : Nat) (frame0c : Nat) (w : World) (R : Ending → World → Prop) : Prop :=
 Calls Tryd.prog 41 #[(.slice frame0 frame0n frame0c), (.int .u8 87)] w fun e1 w2 => ∃ x3 : Option Addr, ∃ x4 : Bool, e1 = .returned (.tuple #[(.pointer x3), (.bool x4)]) ∧
 ∃ x5 : Option Addr, (#[(.pointer x3), (.bool x4)] : Array Value)[0]? = some (.pointer x5) ∧
 ∃ x6 : Bool, (#[(.pointer x3), (.bool x4)] : Array Value)[1]? = some (.bool x6) ∧
 (bif (!x6) then
 (R (.returned (.tuple #[(.slice none 0 0), (.int .i64 264)])) w2)
 else
 (Calls Tryd.prog 49 #[(.pointer x5), (.int .u64 1024)] w2 fun e7 w8 => ∃ x9 : Int, e7 = .returned (.int .u64 x9) ∧
 ∃ I10 : Nat → Option Addr → Nat → Nat → Int → World → Prop,
 (∃ m, I10 m none 0 0 x9 w8) ∧
 (∀ (m11 : Nat) (w12 : World) (l13 : Option Addr) (l13n : Nat) (l13c : Nat) (n14 : Int), I10 m11 l13 l13n l13c n14 w12 →
 (bif (decide (0 < n14)) then
 (Calls Tryd.prog 42 #[(.pointer x5)] w12 fun e15 w16 => ∃ x17 : Int, ∃ x18 : Int, ∃ x19 : Bool, e15 = .returned (.tuple #[(.int .i64 x17), (.int .i64 x18), (.bool x19)]) ∧
 ∃ x20 : Int, (#[(.int .i64 x17), (.int .i64 x18), (.bool x19)] : Array Value)[0]? = some (.int .i64 x20) ∧
 ∃ x21 : Int, (#[(.int .i64 x17), (.int .i64 x18), (.bool x19)] : Array Value)[1]? = some (.int .i64 x21) ∧
 ∃ x22 : Bool, (#[(.int .i64 x17), (.int .i64 x18), (.bool x19)] : Array Value)[2]? = some (.bool x22) ∧
 (bif (!x22) then
 (R (.returned (.tuple #[(.slice none 0 0), (.int .i64 264)])) w16)
 else
 (∃ cs23, fillL (.fields [(0, 1), (1, 1)]) (zc Tryd.prog 59) [(0, (.int .i64 x20)), (1, (.int .i64 x21))] = some cs23 ∧
 ∃ cs24, fillL (.elems 2) (zrep (zc Tryd.prog 59) (1 * 2)) [(0, (.agg (List.toArray cs23)))] = some cs24 ∧
 ∀ w25 : World, w25 = World.alloc w16 (.cells (List.toArray cs24) 59) →
 RunV Tryd.prog (Builtin.append_ #[38, 38] 38 #[(.slice l13 l13n l13c), (.slice (some ⟨World.heap w16 |>.size, 0, none⟩) 1 1)]) w25 fun v26 w27 => ∃ (x28 : Option Addr) (x28n : Nat) (x28c : Nat), v26 = (.slice x28 x28n x28c) ∧
 ∃ m29, m29 < m11 ∧ I10 m29 x28 x28n x28c (IntKind.wrap .u64 (n14 - 1)) w27)))
 else
 (Calls Tryd.prog 50 #[(.pointer x5)] w12 fun e30 w31 => ∃ x32 : Int, e30 = .returned (.int .i64 x32) ∧
 (bif (!decide (x32 = 0)) then
 (R (.returned (.tuple #[(.slice none 0 0), (.int .i64 264)])) w31)
 else
 (R (.returned (.tuple #[(.slice l13 l13n l13c), (.int .i64 0)])) w31)))))))
theorem e20 (frame0 : Option Addr) (frame0n : Nat) (frame0c : Nat) (w : World) (R : Ending → World → Prop) : denS Tryd.prog s20 (argsEnv 0 [(.slice frame0 frame0n frame0c)]) w (endK r20 R) = d20 frame0 frame0n frame0c w R := by kernel_rfl
theorem c20 (frame0 : Option Addr) (frame0n : Nat) (frame0c : Nat) {w : World} {R : Ending → World → Prop} (h : d20 frame0 frame0n frame0c w R) : Calls Tryd.prog 20 #[(.slice frame0 frame0n frame0c)] w R :=
  den20 [(.slice frame0 frame0n frame0c)] w R (by simp) ((e20 frame0 frame0n frame0c w R).symm ▸ h)

/-- prelude/preludelaw25.SamePiece -/
def s22 : S := (.seq (.ops [⟨(some 2), (.box 37 (.tmp 0)), .ptr, none⟩,
  ⟨(some 3), (.box 37 (.tmp 1)), .ptr, none⟩,
  ⟨(some 4), (.mv (.const (.bool false))), .bool, none⟩] [2, 3])
 (.seq (.ops [⟨(some 5), (.fa 0 (.tmp 2)), .ptr, none⟩,
  ⟨(some 6), (.ld1 (.tmp 5)), (.int .i64), none⟩,
  ⟨(some 7), (.fa 0 (.tmp 3)), .ptr, none⟩,
  ⟨(some 8), (.ld1 (.tmp 7)), (.int .i64), none⟩,
  ⟨(some 9), (.bin .eql (.tmp 6) (.tmp 8)), .bool, none⟩,
  ⟨(some 10), (.mv (.tmp 9)), .bool, none⟩,
  ⟨(some 11), (.fa 1 (.tmp 2)), .ptr, (some (10, true))⟩,
  ⟨(some 12), (.ld1 (.tmp 11)), (.int .i64), (some (10, true))⟩,
  ⟨(some 13), (.fa 1 (.tmp 3)), .ptr, (some (10, true))⟩,
  ⟨(some 14), (.ld1 (.tmp 13)), (.int .i64), (some (10, true))⟩,
  ⟨(some 15), (.bin .eql (.tmp 12) (.tmp 14)), .bool, (some (10, true))⟩,
  ⟨(some 16), (.pick (.tmp 10) (.tmp 15) (.const (.bool false))), .bool, none⟩,
  ⟨(some 17), (.mv (.tmp 16)), .bool, none⟩,
  ⟨(some 18), (.fa 2 (.tmp 2)), .ptr, (some (17, true))⟩,
  ⟨(some 19), (.ld1 (.tmp 18)), .sl, (some (17, true))⟩,
  ⟨(some 20), (.fa 2 (.tmp 3)), .ptr, (some (17, true))⟩,
  ⟨(some 21), (.ld1 (.tmp 20)), .sl, (some (17, true))⟩,
  ⟨(some 22), (.call 53 [(.tmp 19), (.tmp 21)] [.bool]), .bool, (some (17, true))⟩,
  ⟨(some 23), (.pick (.tmp 17) (.tmp 22) (.const (.bool false))), .bool, none⟩,
  ⟨(some 4), (.mv (.tmp 23)), .bool, none⟩] [4])
 .ret))
def r22 : List Res := [.t 4]
theorem tr22 : trS Tryd.prog [] 24 (Tryd.f22.body.getD .skip) s22 = some s22 := by kernel_rfl
theorem den22 (args : List Value) (w : World) (R : Ending → World → Prop) (hn : args.length ≤ 24) (h : denS Tryd.prog s22 (argsEnv 0 args) w (endK r22 R)) : Calls Tryd.prog 22 args.toArray w R :=
  calls_of_den (pn := []) (fn := Tryd.f22) (c := Tryd.f22.body.getD .skip) Tryd.func22 (by kernel_rfl) (by rw [Tryd.ntmps22]; exact hn) (by rw [Tryd.ntmps22]; exact tr22) (by kernel_rfl) h
def d22 (a0 : Array Value) (b1 : Array Value) (w : World) (R : Ending → World → Prop) : Prop :=
 ∀ w2 : World, w2 = World.alloc w (.cells a0 37) →
 ∀ w3 : World, w3 = World.alloc w2 (.cells b1 37) →
 ∃ x4 : Int, World.cell? w3 (Addr.add ⟨World.heap w |>.size, 0, none⟩ 0) = some (.int .i64 x4) ∧
 ∃ x5 : Int, World.cell? w3 (Addr.add ⟨World.heap w2 |>.size, 0, none⟩ 0) = some (.int .i64 x5) ∧
 (bif (decide (x4 = x5)) then
 (∃ x6 : Int, World.cell? w3 (Addr.add ⟨World.heap w |>.size, 0, none⟩ 1) = some (.int .i64 x6) ∧
 ∃ x7 : Int, World.cell? w3 (Addr.add ⟨World.heap w2 |>.size, 0, none⟩ 1) = some (.int .i64 x7) ∧
 (bif (decide (x6 = x7)) then
 (∃ (x8 : Option Addr) (x8n : Nat) (x8c : Nat), World.cell? w3 (Addr.add ⟨World.heap w |>.size, 0, none⟩ 2) = some (.slice x8 x8n x8c) ∧
 ∃ (x9 : Option Addr) (x9n : Nat) (x9c : Nat), World.cell? w3 (Addr.add ⟨World.heap w2 |>.size, 0, none⟩ 2) = some (.slice x9 x9n x9c) ∧
 Calls Tryd.prog 53 #[(.slice x8 x8n x8c), (.slice x9 x9n x9c)] w3 fun e10 w11 => ∃ x12 : Bool, e10 = .returned (.bool x12) ∧
 R (.returned (.bool x12)) w11)
 else
 (R (.returned (.bool false)) w3)))
 else
 (R (.returned (.bool false)) w3))
theorem e22 (a0 : Array Value) (b1 : Array Value) (w : World) (R : Ending → World → Prop) : denS Tryd.prog s22 (argsEnv 0 [(.agg a0), (.agg b1)]) w (endK r22 R) = d22 a0 b1 w R := by kernel_rfl
theorem c22 (a0 : Array Value) (b1 : Array Value) {w : World} {R : Ending → World → Prop} (h : d22 a0 b1 w R) : Calls Tryd.prog 22 #[(.agg a0), (.agg b1)] w R :=
  den22 [(.agg a0), (.agg b1)] w R (by simp) ((e22 a0 b1 w R).symm ▸ h)

/-- prelude/preludelaw25.sameBatch -/
def s53 : S := (.seq (.ops [⟨(some 4), (.mv (.const (.bool false))), .bool, none⟩] [0, 1])
 (.seq (.seq (.ops [⟨(some 6), (.mv (.tmp 0)), .sl, none⟩,
  ⟨(some 7), (.len (.tmp 6)), (.int .i64), none⟩,
  ⟨(some 8), (.mv (.tmp 1)), .sl, none⟩,
  ⟨(some 9), (.len (.tmp 8)), (.int .i64), none⟩,
  ⟨(some 10), (.bin .neq (.tmp 7) (.tmp 9)), .bool, none⟩] [10, 0, 1])
 (.cond (.tmp 10)
 (.seq (.ops [⟨(some 4), (.mv (.const (.bool false))), .bool, none⟩] [4])
 .ret)
 .skip))
 (.seq (.seq (.ops [⟨(some 5), (.mv (.const (.int .i64 0))), (.int .i64), none⟩] [5, 0, 1])
 (.block 0
 (.loop [(5, (.int .i64))] [0, 1]
 (.seq (.seq (.ops [⟨(some 11), (.mv (.tmp 5)), (.int .i64), none⟩,
  ⟨(some 12), (.mv (.tmp 0)), .sl, none⟩,
  ⟨(some 13), (.len (.tmp 12)), (.int .i64), none⟩,
  ⟨(some 14), (.bin .lss (.tmp 11) (.tmp 13)), .bool, none⟩] [14, 0, 5, 1])
 (.cond (.tmp 14)
 .skip
 (.exit 0)))
 (.seq (.block 1
 (.seq (.draw (.take 0 ⟨(some 17), (.mv (.tmp 0)), .sl, none⟩
  (.take 1 ⟨(some 18), (.mv (.tmp 5)), (.int .i64), none⟩
  (.take 2 ⟨(some 19), (.ia 4 (.tmp 17) (.tmp 18)), .ptr, none⟩
  (.take 3 ⟨(some 20), (.ldN 4 (.tmp 19)), .agg, none⟩
  (.take 4 ⟨(some 21), (.mv (.tmp 1)), .sl, none⟩
  (.take 5 ⟨(some 22), (.mv (.tmp 5)), (.int .i64), none⟩
  (.take 6 ⟨(some 23), (.ia 4 (.tmp 21) (.tmp 22)), .ptr, none⟩
  (.take 7 ⟨(some 24), (.ldN 4 (.tmp 23)), .agg, none⟩
  (.go 8 ⟨(some 25), (.call 86 [(.tmp 20), (.tmp 24)] [.bool]), .bool, none⟩ []
  (.take 9 ⟨(some 26), (.un .not (.tmp 25)), .bool, none⟩
  .done)))))))))) [26, 5, 0, 1])
 (.cond (.tmp 26)
 (.seq (.ops [⟨(some 4), (.mv (.const (.bool false))), .bool, none⟩] [4])
 .ret)
 .skip)))
 (.ops [⟨(some 15), (.mv (.tmp 5)), (.int .i64), none⟩,
  ⟨(some 16), (.bin .add (.tmp 15) (.const (.int .i64 1))), (.int .i64), none⟩,
  ⟨(some 5), (.mv (.tmp 16)), (.int .i64), none⟩] [5, 0, 1]))))))
 (.seq (.ops [⟨(some 4), (.mv (.const (.bool true))), .bool, none⟩] [4])
 .ret))))
def r53 : List Res := [.t 4]
theorem tr53 : trS Tryd.prog [] 27 (Tryd.f53.body.getD .skip) s53 = some s53 := by kernel_rfl
theorem den53 (args : List Value) (w : World) (R : Ending → World → Prop) (hn : args.length ≤ 27) (h : denS Tryd.prog s53 (argsEnv 0 args) w (endK r53 R)) : Calls Tryd.prog 53 args.toArray w R :=
  calls_of_den (pn := []) (fn := Tryd.f53) (c := Tryd.f53.body.getD .skip) Tryd.func53 (by kernel_rfl) (by rw [Tryd.ntmps53]; exact hn) (by rw [Tryd.ntmps53]; exact tr53) (by kernel_rfl) h
def d53 (a0 : Option Addr) (a0n : Nat) (a0c : Nat) (b1 : Option Addr) (b1n : Nat) (b1c : Nat) (w : World) (R : Ending → World → Prop) : Prop :=
 (bif (!decide (((a0n : Nat) : Int) = ((b1n : Nat) : Int))) then
 (R (.returned (.bool false)) w)
 else
 (∃ I2 : Nat → Int → World → Prop,
 (∃ m, I2 m 0 w) ∧
 (∀ (m3 : Nat) (w4 : World) (i5 : Int), I2 m3 i5 w4 →
 (bif (decide (i5 < ((a0n : Nat) : Int))) then
 (∀ w6 : World, w6 = World.drew w4 →
 0 ≤ i5 ∧ i5 < ((a0n : Nat) : Int) ∧ optK a0 fun a7 =>
 ∃ cs8 : List Value, List.length cs8 = 4 ∧ Cells w6 (Addr.add a7 (Int.toNat i5 * 4)) cs8 ∧
 0 ≤ i5 ∧ i5 < ((b1n : Nat) : Int) ∧ optK b1 fun a9 =>
 ∃ cs10 : List Value, List.length cs10 = 4 ∧ Cells w6 (Addr.add a9 (Int.toNat i5 * 4)) cs10 ∧
 Calls Tryd.prog 86 #[(.agg (List.toArray cs8)), (.agg (List.toArray cs10))] w6 fun e11 w12 => ∃ x13 : Bool, e11 = .returned (.bool x13) ∧
 (bif (!x13) then
 (R (.returned (.bool false)) w12)
 else
 (∃ m14, m14 < m3 ∧ I2 m14 (IntKind.wrap .i64 (i5 + 1)) w12)))
 else
 (R (.returned (.bool true)) w4)))))
theorem e53 (a0 : Option Addr) (a0n : Nat) (a0c : Nat) (b1 : Option Addr) (b1n : Nat) (b1c : Nat) (w : World) (R : Ending → World → Prop) : denS Tryd.prog s53 (argsEnv 0 [(.slice a0 a0n a0c), (.slice b1 b1n b1c)]) w (endK r53 R) = d53 a0 a0n a0c b1 b1n b1c w R := by kernel_rfl
theorem c53 (a0 : Option Addr) (a0n : Nat) (a0c : Nat) (b1 : Option Addr) (b1n : Nat) (b1c : Nat) {w : World} {R : Ending → World → Prop} (h : d53 a0 a0n a0c b1 b1n b1c w R) : Calls Tryd.prog 53 #[(.slice a0 a0n a0c), (.slice b1 b1n b1c)] w R :=
  den53 [(.slice a0 a0n a0c), (.slice b1 b1n b1c)] w R (by simp) ((e53 a0 a0n a0c b1 b1n b1c w R).symm ▸ h)

/-- prelude/preludelaw25.sameTx -/
def s86 : S := (.seq (.ops [⟨(some 2), (.box 76 (.tmp 0)), .ptr, none⟩,
  ⟨(some 3), (.box 76 (.tmp 1)), .ptr, none⟩,
  ⟨(some 4), (.mv (.const (.bool false))), .bool, none⟩] [2, 3])
 (.join [] [2, 3]
 (.seq (.ops [⟨(some 8), (.fa 0 (.tmp 2)), .ptr, none⟩,
  ⟨(some 9), (.ld1 (.tmp 8)), (.int .i64), none⟩,
  ⟨(some 10), (.fa 0 (.tmp 3)), .ptr, none⟩,
  ⟨(some 11), (.ld1 (.tmp 10)), (.int .i64), none⟩,
  ⟨(some 12), (.bin .neq (.tmp 9) (.tmp 11)), .bool, none⟩,
  ⟨(some 13), (.mv (.tmp 12)), .bool, none⟩,
  ⟨(some 14), (.fa 1 (.tmp 2)), .ptr, (some (13, false))⟩,
  ⟨(some 15), (.ld1 (.tmp 14)), .sl, (some (13, false))⟩,
  ⟨(some 16), (.len (.tmp 15)), (.int .i64), (some (13, false))⟩,
  ⟨(some 17), (.fa 1 (.tmp 3)), .ptr, (some (13, false))⟩,
  ⟨(some 18), (.ld1 (.tmp 17)), .sl, (some (13, false))⟩,
  ⟨(some 19), (.len (.tmp 18)), (.int .i64), (some (13, false))⟩,
  ⟨(some 20), (.bin .neq (.tmp 16) (.tmp 19)), .bool, (some (13, false))⟩,
  ⟨(some 21), (.pick (.tmp 13) (.const (.bool true)) (.tmp 20)), .bool, none⟩,
  ⟨(some 22), (.mv (.tmp 21)), .bool, none⟩,
  ⟨(some 23), (.fa 2 (.tmp 2)), .ptr, (some (22, false))⟩,
  ⟨(some 24), (.ld1 (.tmp 23)), .sl, (some (22, false))⟩,
  ⟨(some 25), (.len (.tmp 24)), (.int .i64), (some (22, false))⟩,
  ⟨(some 26), (.fa 2 (.tmp 3)), .ptr, (some (22, false))⟩,
  ⟨(some 27), (.ld1 (.tmp 26)), .sl, (some (22, false))⟩,
  ⟨(some 28), (.len (.tmp 27)), (.int .i64), (some (22, false))⟩,
  ⟨(some 29), (.bin .neq (.tmp 25) (.tmp 28)), .bool, (some (22, false))⟩,
  ⟨(some 30), (.pick (.tmp 22) (.const (.bool true)) (.tmp 29)), .bool, none⟩,
  ⟨(some 31), (.mv (.tmp 30)), .bool, none⟩,
  ⟨(some 32), (.fa 3 (.tmp 2)), .ptr, (some (31, false))⟩,
  ⟨(some 33), (.ld1 (.tmp 32)), .sl, (some (31, false))⟩,
  ⟨(some 34), (.len (.tmp 33)), (.int .i64), (some (31, false))⟩,
  ⟨(some 35), (.fa 3 (.tmp 3)), .ptr, (some (31, false))⟩,
  ⟨(some 36), (.ld1 (.tmp 35)), .sl, (some (31, false))⟩,
  ⟨(some 37), (.len (.tmp 36)), (.int .i64), (some (31, false))⟩,
  ⟨(some 38), (.bin .neq (.tmp 34) (.tmp 37)), .bool, (some (31, false))⟩,
  ⟨(some 39), (.pick (.tmp 31) (.const (.bool true)) (.tmp 38)), .bool, none⟩] [39, 2, 3])
 (.cond (.tmp 39)
 (.seq (.ops [⟨(some 4), (.mv (.const (.bool false))), .bool, none⟩] [4])
 .ret)
 .skip))
 (.seq (.seq (.ops [⟨(some 5), (.mv (.const (.int .i64 0))), (.int .i64), none⟩] [5, 2, 3])
 (.block 0
 (.loop [(5, (.int .i64))] [2, 3]
 (.seq (.seq (.ops [⟨(some 40), (.mv (.tmp 5)), (.int .i64), none⟩,
  ⟨(some 41), (.fa 1 (.tmp 2)), .ptr, none⟩,
  ⟨(some 42), (.ld1 (.tmp 41)), .sl, none⟩,
  ⟨(some 43), (.len (.tmp 42)), (.int .i64), none⟩,
  ⟨(some 44), (.bin .lss (.tmp 40) (.tmp 43)), .bool, none⟩] [44, 2, 5, 3])
 (.cond (.tmp 44)
 .skip
 (.exit 0)))
 (.seq (.block 1
 (.seq (.draw (.take 0 ⟨(some 47), (.fa 1 (.tmp 2)), .ptr, none⟩
  (.take 1 ⟨(some 48), (.ld1 (.tmp 47)), .sl, none⟩
  (.take 2 ⟨(some 49), (.mv (.tmp 5)), (.int .i64), none⟩
  (.take 3 ⟨(some 50), (.ia 1 (.tmp 48) (.tmp 49)), .ptr, none⟩
  (.take 4 ⟨(some 51), (.ld1 (.tmp 50)), (.int .i64), none⟩
  (.take 5 ⟨(some 52), (.fa 1 (.tmp 3)), .ptr, none⟩
  (.take 6 ⟨(some 53), (.ld1 (.tmp 52)), .sl, none⟩
  (.take 7 ⟨(some 54), (.mv (.tmp 5)), (.int .i64), none⟩
  (.take 8 ⟨(some 55), (.ia 1 (.tmp 53) (.tmp 54)), .ptr, none⟩
  (.take 9 ⟨(some 56), (.ld1 (.tmp 55)), (.int .i64), none⟩
  (.take 10 ⟨(some 57), (.bin .neq (.tmp 51) (.tmp 56)), .bool, none⟩
  .done))))))))))) [57, 5, 2, 3])
 (.cond (.tmp 57)
 (.seq (.ops [⟨(some 4), (.mv (.const (.bool false))), .bool, none⟩] [4])
 .ret)
 .skip)))
 (.ops [⟨(some 45), (.mv (.tmp 5)), (.int .i64), none⟩,
  ⟨(some 46), (.bin .add (.tmp 45) (.const (.int .i64 1))), (.int .i64), none⟩,
  ⟨(some 5), (.mv (.tmp 46)), (.int .i64), none⟩] [5, 2, 3]))))))
 (.seq (.seq (.ops [⟨(some 6), (.mv (.const (.int .i64 0))), (.int .i64), none⟩] [6, 2, 3])
 (.block 2
 (.loop [(6, (.int .i64))] [2, 3]
 (.seq (.seq (.ops [⟨(some 58), (.mv (.tmp 6)), (.int .i64), none⟩,
  ⟨(some 59), (.fa 2 (.tmp 2)), .ptr, none⟩,
  ⟨(some 60), (.ld1 (.tmp 59)), .sl, none⟩,
  ⟨(some 61), (.len (.tmp 60)), (.int .i64), none⟩,
  ⟨(some 62), (.bin .lss (.tmp 58) (.tmp 61)), .bool, none⟩] [62, 2, 6, 3])
 (.cond (.tmp 62)
 .skip
 (.exit 2)))
 (.seq (.block 3
 (.seq (.draw (.take 0 ⟨(some 65), (.fa 2 (.tmp 2)), .ptr, none⟩
  (.take 1 ⟨(some 66), (.ld1 (.tmp 65)), .sl, none⟩
  (.take 2 ⟨(some 67), (.mv (.tmp 6)), (.int .i64), none⟩
  (.take 3 ⟨(some 68), (.ia 2 (.tmp 66) (.tmp 67)), .ptr, none⟩
  (.take 4 ⟨(some 69), (.ldN 2 (.tmp 68)), .agg, none⟩
  (.take 5 ⟨(some 70), (.fa 2 (.tmp 3)), .ptr, none⟩
  (.take 6 ⟨(some 71), (.ld1 (.tmp 70)), .sl, none⟩
  (.take 7 ⟨(some 72), (.mv (.tmp 6)), (.int .i64), none⟩
  (.take 8 ⟨(some 73), (.ia 2 (.tmp 71) (.tmp 72)), .ptr, none⟩
  (.take 9 ⟨(some 74), (.ldN 2 (.tmp 73)), .agg, none⟩
  (.take 10 ⟨(some 75), (.eqG .neq 129 (.tmp 69) (.tmp 74)), .bool, none⟩
  .done))))))))))) [75, 6, 2, 3])
 (.cond (.tmp 75)
 (.seq (.ops [⟨(some 4), (.mv (.const (.bool false))), .bool, none⟩] [4])
 .ret)
 .skip)))
 (.ops [⟨(some 63), (.mv (.tmp 6)), (.int .i64), none⟩,
  ⟨(some 64), (.bin .add (.tmp 63) (.const (.int .i64 1))), (.int .i64), none⟩,
  ⟨(some 6), (.mv (.tmp 64)), (.int .i64), none⟩] [6, 2, 3]))))))
 (.seq (.seq (.ops [⟨(some 7), (.mv (.const (.int .i64 0))), (.int .i64), none⟩] [7, 2, 3])
 (.block 4
 (.loop [(7, (.int .i64))] [2, 3]
 (.seq (.seq (.ops [⟨(some 76), (.mv (.tmp 7)), (.int .i64), none⟩,
  ⟨(some 77), (.fa 3 (.tmp 2)), .ptr, none⟩,
  ⟨(some 78), (.ld1 (.tmp 77)), .sl, none⟩,
  ⟨(some 79), (.len (.tmp 78)), (.int .i64), none⟩,
  ⟨(some 80), (.bin .lss (.tmp 76) (.tmp 79)), .bool, none⟩] [80, 2, 7, 3])
 (.cond (.tmp 80)
 .skip
 (.exit 4)))
 (.seq (.block 5
 (.seq (.draw (.take 0 ⟨(some 83), (.fa 3 (.tmp 2)), .ptr, none⟩
  (.take 1 ⟨(some 84), (.ld1 (.tmp 83)), .sl, none⟩
  (.take 2 ⟨(some 85), (.mv (.tmp 7)), (.int .i64), none⟩
  (.take 3 ⟨(some 86), (.ia 2 (.tmp 84) (.tmp 85)), .ptr, none⟩
  (.take 4 ⟨(some 87), (.ldN 2 (.tmp 86)), .agg, none⟩
  (.take 5 ⟨(some 88), (.fa 3 (.tmp 3)), .ptr, none⟩
  (.take 6 ⟨(some 89), (.ld1 (.tmp 88)), .sl, none⟩
  (.take 7 ⟨(some 90), (.mv (.tmp 7)), (.int .i64), none⟩
  (.take 8 ⟨(some 91), (.ia 2 (.tmp 89) (.tmp 90)), .ptr, none⟩
  (.take 9 ⟨(some 92), (.ldN 2 (.tmp 91)), .agg, none⟩
  (.take 10 ⟨(some 93), (.eqG .neq 129 (.tmp 87) (.tmp 92)), .bool, none⟩
  .done))))))))))) [93, 7, 2, 3])
 (.cond (.tmp 93)
 (.seq (.ops [⟨(some 4), (.mv (.const (.bool false))), .bool, none⟩] [4])
 .ret)
 .skip)))
 (.ops [⟨(some 81), (.mv (.tmp 7)), (.int .i64), none⟩,
  ⟨(some 82), (.bin .add (.tmp 81) (.const (.int .i64 1))), (.int .i64), none⟩,
  ⟨(some 7), (.mv (.tmp 82)), (.int .i64), none⟩] [7, 2, 3]))))))
 (.seq (.ops [⟨(some 4), (.mv (.const (.bool true))), .bool, none⟩] [4])
 .ret))))))
def r86 : List Res := [.t 4]
theorem tr86 : trS Tryd.prog [] 94 (Tryd.f86.body.getD .skip) s86 = some s86 := by kernel_rfl
theorem den86 (args : List Value) (w : World) (R : Ending → World → Prop) (hn : args.length ≤ 94) (h : denS Tryd.prog s86 (argsEnv 0 args) w (endK r86 R)) : Calls Tryd.prog 86 args.toArray w R :=
  calls_of_den (pn := []) (fn := Tryd.f86) (c := Tryd.f86.body.getD .skip) Tryd.func86 (by kernel_rfl) (by rw [Tryd.ntmps86]; exact hn) (by rw [Tryd.ntmps86]; exact tr86) (by kernel_rfl) h
def d86 (a0 : Array Value) (b1 : Array Value) (w : World) (R : Ending → World → Prop) : Prop :=
 ∀ w2 : World, w2 = World.alloc w (.cells a0 76) →
 ∀ w3 : World, w3 = World.alloc w2 (.cells b1 76) →
 ∃ J4 : World → Prop,
 (∃ x5 : Int, World.cell? w3 (Addr.add ⟨World.heap w |>.size, 0, none⟩ 0) = some (.int .i64 x5) ∧
 ∃ x6 : Int, World.cell? w3 (Addr.add ⟨World.heap w2 |>.size, 0, none⟩ 0) = some (.int .i64 x6) ∧
 (bif (!decide (x5 = x6)) then
 (R (.returned (.bool false)) w3)
 else
 (∃ (x7 : Option Addr) (x7n : Nat) (x7c : Nat), World.cell? w3 (Addr.add ⟨World.heap w |>.size, 0, none⟩ 1) = some (.slice x7 x7n x7c) ∧
 ∃ (x8 : Option Addr) (x8n : Nat) (x8c : Nat), World.cell? w3 (Addr.add ⟨World.heap w2 |>.size, 0, none⟩ 1) = some (.slice x8 x8n x8c) ∧
 (bif (!decide (((x7n : Nat) : Int) = ((x8n : Nat) : Int))) then
 (R (.returned (.bool false)) w3)
 else
 (∃ (x9 : Option Addr) (x9n : Nat) (x9c : Nat), World.cell? w3 (Addr.add ⟨World.heap w |>.size, 0, none⟩ 2) = some (.slice x9 x9n x9c) ∧
 ∃ (x10 : Option Addr) (x10n : Nat) (x10c : Nat), World.cell? w3 (Addr.add ⟨World.heap w2 |>.size, 0, none⟩ 2) = some (.slice x10 x10n x10c) ∧
 (bif (!decide (((x9n : Nat) : Int) = ((x10n : Nat) : Int))) then
 (R (.returned (.bool false)) w3)
 else
 (∃ (x11 : Option Addr) (x11n : Nat) (x11c : Nat), World.cell? w3 (Addr.add ⟨World.heap w |>.size, 0, none⟩ 3) = some (.slice x11 x11n x11c) ∧
 ∃ (x12 : Option Addr) (x12n : Nat) (x12c : Nat), World.cell? w3 (Addr.add ⟨World.heap w2 |>.size, 0, none⟩ 3) = some (.slice x12 x12n x12c) ∧
 (bif (!decide (((x11n : Nat) : Int) = ((x12n : Nat) : Int))) then
 (R (.returned (.bool false)) w3)
 else
 (J4  w3))))))))) ∧
 (∀ (w13 : World), J4  w13 →
 ∃ I14 : Nat → Int → World → Prop,
 (∃ m, I14 m 0 w13) ∧
 (∀ (m15 : Nat) (w16 : World) (i17 : Int), I14 m15 i17 w16 →
 ∃ (x18 : Option Addr) (x18n : Nat) (x18c : Nat), World.cell? w16 (Addr.add ⟨World.heap w |>.size, 0, none⟩ 1) = some (.slice x18 x18n x18c) ∧
 (bif (decide (i17 < ((x18n : Nat) : Int))) then
 (∀ w19 : World, w19 = World.drew w16 →
 ∃ (x20 : Option Addr) (x20n : Nat) (x20c : Nat), World.cell? w19 (Addr.add ⟨World.heap w |>.size, 0, none⟩ 1) = some (.slice x20 x20n x20c) ∧
 0 ≤ i17 ∧ i17 < ((x20n : Nat) : Int) ∧ optK x20 fun a21 =>
 ∃ x22 : Int, World.cell? w19 (Addr.add a21 (Int.toNat i17 * 1)) = some (.int .i64 x22) ∧
 ∃ (x23 : Option Addr) (x23n : Nat) (x23c : Nat), World.cell? w19 (Addr.add ⟨World.heap w2 |>.size, 0, none⟩ 1) = some (.slice x23 x23n x23c) ∧
 0 ≤ i17 ∧ i17 < ((x23n : Nat) : Int) ∧ optK x23 fun a24 =>
 ∃ x25 : Int, World.cell? w19 (Addr.add a24 (Int.toNat i17 * 1)) = some (.int .i64 x25) ∧
 (bif (!decide (x22 = x25)) then
 (R (.returned (.bool false)) w19)
 else
 (∃ m26, m26 < m15 ∧ I14 m26 (IntKind.wrap .i64 (i17 + 1)) w19)))
 else
 (∃ I27 : Nat → Int → World → Prop,
 (∃ m, I27 m 0 w16) ∧
 (∀ (m28 : Nat) (w29 : World) (i30 : Int), I27 m28 i30 w29 →
 ∃ (x31 : Option Addr) (x31n : Nat) (x31c : Nat), World.cell? w29 (Addr.add ⟨World.heap w |>.size, 0, none⟩ 2) = some (.slice x31 x31n x31c) ∧
 (bif (decide (i30 < ((x31n : Nat) : Int))) then
 (∀ w32 : World, w32 = World.drew w29 →
 ∃ (x33 : Option Addr) (x33n : Nat) (x33c : Nat), World.cell? w32 (Addr.add ⟨World.heap w |>.size, 0, none⟩ 2) = some (.slice x33 x33n x33c) ∧
 0 ≤ i30 ∧ i30 < ((x33n : Nat) : Int) ∧ optK x33 fun a34 =>
 ∃ cs35 : List Value, List.length cs35 = 2 ∧ Cells w32 (Addr.add a34 (Int.toNat i30 * 2)) cs35 ∧
 ∃ (x36 : Option Addr) (x36n : Nat) (x36c : Nat), World.cell? w32 (Addr.add ⟨World.heap w2 |>.size, 0, none⟩ 2) = some (.slice x36 x36n x36c) ∧
 0 ≤ i30 ∧ i30 < ((x36n : Nat) : Int) ∧ optK x36 fun a37 =>
 ∃ cs38 : List Value, List.length cs38 = 2 ∧ Cells w32 (Addr.add a37 (Int.toNat i30 * 2)) cs38 ∧
 ∃ q39 : Bool, Sem.run Tryd.prog (do eqGuard .neq 129 (.tmp 69) (.tmp 74) (.agg (List.toArray cs35)) (.agg (List.toArray cs38)); binOp .neq 129 (.agg (List.toArray cs35)) (.agg (List.toArray cs38))) w32 = .ok (.bool q39) w32 ∧
 (bif q39 then
 (R (.returned (.bool false)) w32)
 else
 (∃ m40, m40 < m28 ∧ I27 m40 (IntKind.wrap .i64 (i30 + 1)) w32)))
 else
 (∃ I41 : Nat → Int → World → Prop,
 (∃ m, I41 m 0 w29) ∧
 (∀ (m42 : Nat) (w43 : World) (i44 : Int), I41 m42 i44 w43 →
 ∃ (x45 : Option Addr) (x45n : Nat) (x45c : Nat), World.cell? w43 (Addr.add ⟨World.heap w |>.size, 0, none⟩ 3) = some (.slice x45 x45n x45c) ∧
 (bif (decide (i44 < ((x45n : Nat) : Int))) then
 (∀ w46 : World, w46 = World.drew w43 →
 ∃ (x47 : Option Addr) (x47n : Nat) (x47c : Nat), World.cell? w46 (Addr.add ⟨World.heap w |>.size, 0, none⟩ 3) = some (.slice x47 x47n x47c) ∧
 0 ≤ i44 ∧ i44 < ((x47n : Nat) : Int) ∧ optK x47 fun a48 =>
 ∃ cs49 : List Value, List.length cs49 = 2 ∧ Cells w46 (Addr.add a48 (Int.toNat i44 * 2)) cs49 ∧
 ∃ (x50 : Option Addr) (x50n : Nat) (x50c : Nat), World.cell? w46 (Addr.add ⟨World.heap w2 |>.size, 0, none⟩ 3) = some (.slice x50 x50n x50c) ∧
 0 ≤ i44 ∧ i44 < ((x50n : Nat) : Int) ∧ optK x50 fun a51 =>
 ∃ cs52 : List Value, List.length cs52 = 2 ∧ Cells w46 (Addr.add a51 (Int.toNat i44 * 2)) cs52 ∧
 ∃ q53 : Bool, Sem.run Tryd.prog (do eqGuard .neq 129 (.tmp 87) (.tmp 92) (.agg (List.toArray cs49)) (.agg (List.toArray cs52)); binOp .neq 129 (.agg (List.toArray cs49)) (.agg (List.toArray cs52))) w46 = .ok (.bool q53) w46 ∧
 (bif q53 then
 (R (.returned (.bool false)) w46)
 else
 (∃ m54, m54 < m42 ∧ I41 m54 (IntKind.wrap .i64 (i44 + 1)) w46)))
 else
 (R (.returned (.bool true)) w43))))))))))
theorem e86 (a0 : Array Value) (b1 : Array Value) (w : World) (R : Ending → World → Prop) : denS Tryd.prog s86 (argsEnv 0 [(.agg a0), (.agg b1)]) w (endK r86 R) = d86 a0 b1 w R := by kernel_rfl
theorem c86 (a0 : Array Value) (b1 : Array Value) {w : World} {R : Ending → World → Prop} (h : d86 a0 b1 w R) : Calls Tryd.prog 86 #[(.agg a0), (.agg b1)] w R :=
  den86 [(.agg a0), (.agg b1)] w R (by simp) ((e86 a0 b1 w R).symm ▸ h)

/-- prelude/preludelaw25.sameWants -/
def s23 : S := (.seq (.ops [⟨(some 4), (.mv (.const (.bool false))), .bool, none⟩] [0, 1])
 (.seq (.seq (.ops [⟨(some 6), (.mv (.tmp 0)), .sl, none⟩,
  ⟨(some 7), (.len (.tmp 6)), (.int .i64), none⟩,
  ⟨(some 8), (.mv (.tmp 1)), .sl, none⟩,
  ⟨(some 9), (.len (.tmp 8)), (.int .i64), none⟩,
  ⟨(some 10), (.bin .neq (.tmp 7) (.tmp 9)), .bool, none⟩] [10, 0, 1])
 (.cond (.tmp 10)
 (.seq (.ops [⟨(some 4), (.mv (.const (.bool false))), .bool, none⟩] [4])
 .ret)
 .skip))
 (.seq (.seq (.ops [⟨(some 5), (.mv (.const (.int .i64 0))), (.int .i64), none⟩] [5, 0, 1])
 (.block 0
 (.loop [(5, (.int .i64))] [0, 1]
 (.seq (.seq (.ops [⟨(some 11), (.mv (.tmp 5)), (.int .i64), none⟩,
  ⟨(some 12), (.mv (.tmp 0)), .sl, none⟩,
  ⟨(some 13), (.len (.tmp 12)), (.int .i64), none⟩,
  ⟨(some 14), (.bin .lss (.tmp 11) (.tmp 13)), .bool, none⟩] [14, 0, 5, 1])
 (.cond (.tmp 14)
 .skip
 (.exit 0)))
 (.seq (.block 1
 (.seq (.draw (.take 0 ⟨(some 17), (.mv (.tmp 0)), .sl, none⟩
  (.take 1 ⟨(some 18), (.mv (.tmp 5)), (.int .i64), none⟩
  (.take 2 ⟨(some 19), (.ia 2 (.tmp 17) (.tmp 18)), .ptr, none⟩
  (.take 3 ⟨(some 20), (.ldN 2 (.tmp 19)), .agg, none⟩
  (.take 4 ⟨(some 21), (.mv (.tmp 1)), .sl, none⟩
  (.take 5 ⟨(some 22), (.mv (.tmp 5)), (.int .i64), none⟩
  (.take 6 ⟨(some 23), (.ia 2 (.tmp 21) (.tmp 22)), .ptr, none⟩
  (.take 7 ⟨(some 24), (.ldN 2 (.tmp 23)), .agg, none⟩
  (.take 8 ⟨(some 25), (.eqG .neq 59 (.tmp 20) (.tmp 24)), .bool, none⟩
  .done))))))))) [25, 5, 0, 1])
 (.cond (.tmp 25)
 (.seq (.ops [⟨(some 4), (.mv (.const (.bool false))), .bool, none⟩] [4])
 .ret)
 .skip)))
 (.ops [⟨(some 15), (.mv (.tmp 5)), (.int .i64), none⟩,
  ⟨(some 16), (.bin .add (.tmp 15) (.const (.int .i64 1))), (.int .i64), none⟩,
  ⟨(some 5), (.mv (.tmp 16)), (.int .i64), none⟩] [5, 0, 1]))))))
 (.seq (.ops [⟨(some 4), (.mv (.const (.bool true))), .bool, none⟩] [4])
 .ret))))
def r23 : List Res := [.t 4]
theorem tr23 : trS Tryd.prog [] 26 (Tryd.f23.body.getD .skip) s23 = some s23 := by kernel_rfl
theorem den23 (args : List Value) (w : World) (R : Ending → World → Prop) (hn : args.length ≤ 26) (h : denS Tryd.prog s23 (argsEnv 0 args) w (endK r23 R)) : Calls Tryd.prog 23 args.toArray w R :=
  calls_of_den (pn := []) (fn := Tryd.f23) (c := Tryd.f23.body.getD .skip) Tryd.func23 (by kernel_rfl) (by rw [Tryd.ntmps23]; exact hn) (by rw [Tryd.ntmps23]; exact tr23) (by kernel_rfl) h
def d23 (a0 : Option Addr) (a0n : Nat) (a0c : Nat) (b1 : Option Addr) (b1n : Nat) (b1c : Nat) (w : World) (R : Ending → World → Prop) : Prop :=
 (bif (!decide (((a0n : Nat) : Int) = ((b1n : Nat) : Int))) then
 (R (.returned (.bool false)) w)
 else
 (∃ I2 : Nat → Int → World → Prop,
 (∃ m, I2 m 0 w) ∧
 (∀ (m3 : Nat) (w4 : World) (i5 : Int), I2 m3 i5 w4 →
 (bif (decide (i5 < ((a0n : Nat) : Int))) then
 (∀ w6 : World, w6 = World.drew w4 →
 0 ≤ i5 ∧ i5 < ((a0n : Nat) : Int) ∧ optK a0 fun a7 =>
 ∃ cs8 : List Value, List.length cs8 = 2 ∧ Cells w6 (Addr.add a7 (Int.toNat i5 * 2)) cs8 ∧
 0 ≤ i5 ∧ i5 < ((b1n : Nat) : Int) ∧ optK b1 fun a9 =>
 ∃ cs10 : List Value, List.length cs10 = 2 ∧ Cells w6 (Addr.add a9 (Int.toNat i5 * 2)) cs10 ∧
 ∃ q11 : Bool, Sem.run Tryd.prog (do eqGuard .neq 59 (.tmp 20) (.tmp 24) (.agg (List.toArray cs8)) (.agg (List.toArray cs10)); binOp .neq 59 (.agg (List.toArray cs8)) (.agg (List.toArray cs10))) w6 = .ok (.bool q11) w6 ∧
 (bif q11 then
 (R (.returned (.bool false)) w6)
 else
 (∃ m12, m12 < m3 ∧ I2 m12 (IntKind.wrap .i64 (i5 + 1)) w6)))
 else
 (R (.returned (.bool true)) w4)))))
theorem e23 (a0 : Option Addr) (a0n : Nat) (a0c : Nat) (b1 : Option Addr) (b1n : Nat) (b1c : Nat) (w : World) (R : Ending → World → Prop) : denS Tryd.prog s23 (argsEnv 0 [(.slice a0 a0n a0c), (.slice b1 b1n b1c)]) w (endK r23 R) = d23 a0 a0n a0c b1 b1n b1c w R := by kernel_rfl
theorem c23 (a0 : Option Addr) (a0n : Nat) (a0c : Nat) (b1 : Option Addr) (b1n : Nat) (b1c : Nat) {w : World} {R : Ending → World → Prop} (h : d23 a0 a0n a0c b1 b1n b1c w R) : Calls Tryd.prog 23 #[(.slice a0 a0n a0c), (.slice b1 b1n b1c)] w R :=
  den23 [(.slice a0 a0n a0c), (.slice b1 b1n b1c)] w R (by simp) ((e23 a0 a0n a0c b1 b1n b1c w R).symm ▸ h)

/-- prelude/preludelaw25.sameBytes -/
def s17 : S := (.seq (.ops [⟨(some 4), (.mv (.const (.bool false))), .bool, none⟩] [0, 1])
 (.seq (.seq (.ops [⟨(some 6), (.mv (.tmp 0)), .sl, none⟩,
  ⟨(some 7), (.len (.tmp 6)), (.int .i64), none⟩,
  ⟨(some 8), (.mv (.tmp 1)), .sl, none⟩,
  ⟨(some 9), (.len (.tmp 8)), (.int .i64), none⟩,
  ⟨(some 10), (.bin .neq (.tmp 7) (.tmp 9)), .bool, none⟩] [10, 0, 1])
 (.cond (.tmp 10)
 (.seq (.ops [⟨(some 4), (.mv (.const (.bool false))), .bool, none⟩] [4])
 .ret)
 .skip))
 (.seq (.seq (.ops [⟨(some 5), (.mv (.const (.int .i64 0))), (.int .i64), none⟩] [5, 0, 1])
 (.block 0
 (.loop [(5, (.int .i64))] [0, 1]
 (.seq (.seq (.ops [⟨(some 11), (.mv (.tmp 5)), (.int .i64), none⟩,
  ⟨(some 12), (.mv (.tmp 0)), .sl, none⟩,
  ⟨(some 13), (.len (.tmp 12)), (.int .i64), none⟩,
  ⟨(some 14), (.bin .lss (.tmp 11) (.tmp 13)), .bool, none⟩] [14, 0, 5, 1])
 (.cond (.tmp 14)
 .skip
 (.exit 0)))
 (.seq (.block 1
 (.seq (.draw (.take 0 ⟨(some 17), (.mv (.tmp 0)), .sl, none⟩
  (.take 1 ⟨(some 18), (.mv (.tmp 5)), (.int .i64), none⟩
  (.take 2 ⟨(some 19), (.ia 1 (.tmp 17) (.tmp 18)), .ptr, none⟩
  (.take 3 ⟨(some 20), (.ld1 (.tmp 19)), (.int .u8), none⟩
  (.take 4 ⟨(some 21), (.mv (.tmp 1)), .sl, none⟩
  (.take 5 ⟨(some 22), (.mv (.tmp 5)), (.int .i64), none⟩
  (.take 6 ⟨(some 23), (.ia 1 (.tmp 21) (.tmp 22)), .ptr, none⟩
  (.take 7 ⟨(some 24), (.ld1 (.tmp 23)), (.int .u8), none⟩
  (.take 8 ⟨(some 25), (.bin .neq (.tmp 20) (.tmp 24)), .bool, none⟩
  .done))))))))) [25, 5, 0, 1])
 (.cond (.tmp 25)
 (.seq (.ops [⟨(some 4), (.mv (.const (.bool false))), .bool, none⟩] [4])
 .ret)
 .skip)))
 (.ops [⟨(some 15), (.mv (.tmp 5)), (.int .i64), none⟩,
  ⟨(some 16), (.bin .add (.tmp 15) (.const (.int .i64 1))), (.int .i64), none⟩,
  ⟨(some 5), (.mv (.tmp 16)), (.int .i64), none⟩] [5, 0, 1]))))))
 (.seq (.ops [⟨(some 4), (.mv (.const (.bool true))), .bool, none⟩] [4])
 .ret))))
def r17 : List Res := [.t 4]
theorem tr17 : trS Tryd.prog [] 26 (Tryd.f17.body.getD .skip) s17 = some s17 := by kernel_rfl
theorem den17 (args : List Value) (w : World) (R : Ending → World → Prop) (hn : args.length ≤ 26) (h : denS Tryd.prog s17 (argsEnv 0 args) w (endK r17 R)) : Calls Tryd.prog 17 args.toArray w R :=
  calls_of_den (pn := []) (fn := Tryd.f17) (c := Tryd.f17.body.getD .skip) Tryd.func17 (by kernel_rfl) (by rw [Tryd.ntmps17]; exact hn) (by rw [Tryd.ntmps17]; exact tr17) (by kernel_rfl) h
def d17 (a0 : Option Addr) (a0n : Nat) (a0c : Nat) (b1 : Option Addr) (b1n : Nat) (b1c : Nat) (w : World) (R : Ending → World → Prop) : Prop :=
 (bif (!decide (((a0n : Nat) : Int) = ((b1n : Nat) : Int))) then
 (R (.returned (.bool false)) w)
 else
 (∃ I2 : Nat → Int → World → Prop,
 (∃ m, I2 m 0 w) ∧
 (∀ (m3 : Nat) (w4 : World) (i5 : Int), I2 m3 i5 w4 →
 (bif (decide (i5 < ((a0n : Nat) : Int))) then
 (∀ w6 : World, w6 = World.drew w4 →
 0 ≤ i5 ∧ i5 < ((a0n : Nat) : Int) ∧ optK a0 fun a7 =>
 ∃ x8 : Int, World.cell? w6 (Addr.add a7 (Int.toNat i5 * 1)) = some (.int .u8 x8) ∧
 0 ≤ i5 ∧ i5 < ((b1n : Nat) : Int) ∧ optK b1 fun a9 =>
 ∃ x10 : Int, World.cell? w6 (Addr.add a9 (Int.toNat i5 * 1)) = some (.int .u8 x10) ∧
 (bif (!decide (x8 = x10)) then
 (R (.returned (.bool false)) w6)
 else
 (∃ m11, m11 < m3 ∧ I2 m11 (IntKind.wrap .i64 (i5 + 1)) w6)))
 else
 (R (.returned (.bool true)) w4)))))
theorem e17 (a0 : Option Addr) (a0n : Nat) (a0c : Nat) (b1 : Option Addr) (b1n : Nat) (b1c : Nat) (w : World) (R : Ending → World → Prop) : denS Tryd.prog s17 (argsEnv 0 [(.slice a0 a0n a0c), (.slice b1 b1n b1c)]) w (endK r17 R) = d17 a0 a0n a0c b1 b1n b1c w R := by kernel_rfl
theorem c17 (a0 : Option Addr) (a0n : Nat) (a0c : Nat) (b1 : Option Addr) (b1n : Nat) (b1c : Nat) {w : World} {R : Ending → World → Prop} (h : d17 a0 a0n a0c b1 b1n b1c w R) : Calls Tryd.prog 17 #[(.slice a0 a0n a0c), (.slice b1 b1n b1c)] w R :=
  den17 [(.slice a0 a0n a0c), (.slice b1 b1n b1c)] w R (by simp) ((e17 a0 a0n a0c b1 b1n b1c w R).symm ▸ h)

end Go.Proofs.YtjchneebdlncfaaDoor.Fn
namespace Go.Proofs.YtjchneebdlncfaaDoor.Lib
open Go Den Fn
open Go.RowKit (Below)
open Classical
set_option maxRecDepth 8000
set_option maxHeartbeats 4000000
abbrev EpOk (n : Int) : Prop := Ep n
def nameE (i n : Int) : Int := if i < 0 ∨ 16 ≤ i then 261 else if ¬ EpOk n then 262 else 0
theorem nameE_ok {i n : Int} (h : nameE i n = 0) : 0 ≤ i ∧ i < 16 ∧ EpOk n := by
  unfold nameE at h
  split at h
  · omega
  split at h
  · omega
  rename_i h1 h2
  exact ⟨by omega, by omega, Classical.byContradiction fun hh => h2 hh⟩
theorem named_c (i n : Int) (w : World) : Calls Tryd.prog 28 #[.int .i64 i, .int .i64 n] w fun e w' => e = .returned (.int .i64 (nameE i n)) ∧ w' = w := by
  refine c28 _ _ ?_
  unfold d28 nameE
  refine ⟨fun u => u = w ∧ ¬ (i < 0 ∨ 16 ≤ i), ?_, ?_⟩
  · by_cases h1 : i < 0
    · rw [bif_pos h1, if_pos (.inl h1)]; exact ⟨rfl, rfl⟩
    rw [bif_neg h1]
    by_cases h2 : 16 ≤ i
    · rw [bif_pos h2, if_pos (.inr h2)]; exact ⟨rfl, rfl⟩
    rw [bif_neg h2]
    exact ⟨rfl, fun h => h.elim h1 h2⟩
  rintro w3 ⟨rfl, h⟩
  rw [if_neg h]
  refine (epoch_c n w3).mono ?_
  rintro e w5 ⟨rfl, hw⟩
  rw [hw]
  refine ⟨_, rfl, ?_⟩
  by_cases he : EpOk n
  · rw [bif_npos he, if_neg (fun hh => hh he)]; exact ⟨rfl, rfl⟩
  · rw [bif_nneg he, if_pos he]; exact ⟨rfl, rfl⟩
/-- The bytes of an input's number and an epoch. -/
def twoB (i n : Int) : List Int := uv i.toNat ++ uv n.toNat
theorem twoB_len {i n : Int} (h : nameE i n = 0) : (twoB i n).length ≤ 20 := by
  obtain ⟨h1, h2, h3, h4⟩ := nameE_ok h
  have a1 := (uv_len10 (n := i.toNat) (by omega)).2
  have a2 := (uv_len10 (n := n.toNat) (by omega)).2
  unfold twoB
  rw [List.length_append]
  omega
theorem twoB_bytes (i n : Int) : Bytes (twoB i n) := (uv_bytes _).append (uv_bytes _)
/-- A piece's frame, and the error. -/
noncomputable def pieceE (i n : Int) (l : List Tx) : List Int × Int := if nameE i n ≠ 0 then ([], nameE i n) else if (encB l).2 ≠ 0 then ([], (encB l).2) else (sealS 77 (twoB i n ++ (encB l).1), 0)
/-- What is asked for, as bytes; the first that is wrong. -/
def wantsG : List (Int × Int) → List Int × Int
  | [] => ([], 0)
  | k :: l => if nameE k.1 k.2 ≠ 0 then ([], nameE k.1 k.2) else if (wantsG l).2 ≠ 0 then wantsG l else (twoB k.1 k.2 ++ (wantsG l).1, 0)
def wantsE (l : List (Int × Int)) : List Int × Int := if 1024 < l.length then ([], 264) else if (wantsG l).2 ≠ 0 then ([], (wantsG l).2) else (sealS 87 (uv l.length ++ (wantsG l).1), 0)
theorem wantsG_good : ∀ {l : List (Int × Int)}, (∀ k ∈ l, nameE k.1 k.2 = 0) → wantsG l = ((l.map fun k => twoB k.1 k.2).flatten, 0)
  | [], _ => rfl
  | k :: l, h => by
    have ih := wantsG_good (l := l) fun x hx => h x (by simp [hx])
    unfold wantsG
    rw [if_neg (by simpa using h k (by simp)), ih, if_neg (by simp)]
    rfl
theorem wantsG_bad : ∀ {l : List (Int × Int)} {q : Nat} {k : Int × Int}, l[q]? = some k → (∀ x ∈ l.take q, nameE x.1 x.2 = 0) → nameE k.1 k.2 ≠ 0 → (wantsG l).2 = nameE k.1 k.2
  | [], q, k, h, _, _ => by simp at h
  | x :: l, 0, k, h, _, hk => by
    cases h
    unfold wantsG
    rw [if_pos hk]
  | x :: l, q + 1, k, h, hg, hk => by
    have ih := wantsG_bad (l := l) (q := q) (by simpa using h) (fun y hy => hg y (by simp [hy])) hk
    unfold wantsG
    rw [if_neg (by simpa using hg x (by simp)), if_pos (by rw [ih]; exact hk), ih]
theorem encB_len {l : List Tx} (hok : ∀ x ∈ l, x.ok) (h : (encB l).2 = 0) : (encB l).1.length ≤ 40000 := by
  have hg := (encB_zero l).1 h
  have hun := (uv_len10 (n := l.length) (by have := hg.1; omega)).2
  have hlen := encTxs_len hok hg.2
  have := hg.1
  rw [encB_good hg]
  show (uv l.length ++ encTxs l).length ≤ _
  rw [List.length_append]
  omega
theorem encB_bytes {l : List Tx} (h : (encB l).2 = 0) : Bytes (encB l).1 := by
  have hg := (encB_zero l).1 h
  rw [encB_good hg]
  refine (uv_bytes _).append ?_
  intro y hy
  obtain ⟨bs, hbs, hy⟩ := List.mem_flatten.1 hy
  obtain ⟨x, _, rfl⟩ := List.mem_map.1 hbs
  have hks : ∀ l : List (Int × Int), Bytes (encKs l) := fun l => (uv_bytes _).append fun y hy => by
    obtain ⟨bs, hbs, hy⟩ := List.mem_flatten.1 hy
    obtain ⟨k, _, rfl⟩ := List.mem_map.1 hbs
    exact keyB_bytes _ _ y hy
  have ha : Bytes ((x.args.map iv).flatten) := fun y hy => by
    obtain ⟨bs, hbs, hy⟩ := List.mem_flatten.1 hy
    obtain ⟨k, _, rfl⟩ := List.mem_map.1 hbs
    exact uv_bytes _ y hy
  have : Bytes (encTx x) := (uv_bytes _).append ((uv_bytes _).append (ha.append ((hks _).append (hks _))))
  exact this y hy
theorem BytesR.none {w w' : World} {k : Int} (ht : Tch [] w w') : BytesR w ([], k) (.returned (.tuple #[.slice none 0 0, .int .i64 k])) w' := ⟨_, 0, rfl, own_nil _ _ _ _, ht⟩
theorem wo_uint {w u : World} {b : Nat} {bs : List Int} (h : WO w u b bs) {n : Nat} (hn : n < 18446744073709551616) (hl : bs.length + 10 ≤ 140737488355328) {K : World → Prop} (hK : ∀ u', WO w u' b (bs ++ uv n) → K u') :
    Calls Tryd.prog 31 #[.pointer (some ⟨b, 0, none⟩), .int .u64 n] u fun e u' => e = .returned (.tuple #[]) ∧ K u' := by
  obtain ⟨h1, h2, a, h4⟩ := h
  refine (uint_c u b a bs n h4 hn hl).mono ?_
  rintro e u' ⟨rfl, hr⟩
  exact ⟨rfl, hK u' (WO.step h1 h2 h4 hr)⟩
theorem wo_raw {w u : World} {b : Nat} {bs ys : List Int} (h : WO w u b bs) {xa : Option Addr} {xn xc : Nat} (hx : RSl u 1 xa xn xc (u8 ys)) (hl : bs.length + xn ≤ 140737488355328) {K : World → Prop} (hK : ∀ u', WO w u' b (bs ++ ys) → K u') :
    Calls Tryd.prog 32 #[.pointer (some ⟨b, 0, none⟩), .slice xa xn xc] u fun e u' => e = .returned (.tuple #[]) ∧ K u' := by
  obtain ⟨h1, h2, a, h4⟩ := h
  refine (raw_c u b a bs ys xa xn xc h4 hx hl).mono ?_
  rintro e u' ⟨rfl, hr⟩
  exact ⟨rfl, hK u' (WO.step h1 h2 h4 hr)⟩
theorem wo_out {w u : World} {b : Nat} {bs : List Int} (h : WO w u b bs) (hl : bs.length ≤ 140737488355328) :
    Calls Tryd.prog 34 #[.pointer (some ⟨b, 0, none⟩)] u fun e w' => ∃ a' c', e = .returned (.slice a' bs.length c') ∧ RSl w' 1 a' bs.length c' (u8 bs) ∧ Tch [] w w' := by
  obtain ⟨h1, h2, a, h4⟩ := h
  refine (out_c u b a bs h4 hl).mono ?_
  rintro e w' ⟨a', c', rfl, ho, ht⟩
  exact ⟨a', c', rfl, own_rsl ho ones_ints, h1.trans ht (by simp)⟩
theorem wo_new (w : World) : Calls Tryd.prog 30 #[] w fun e w' => e = .returned (.pointer (some ⟨w.heap.size, 0, none⟩)) ∧ WO w w' w.heap.size [] := by
  refine (new_c w).mono ?_
  rintro e w' ⟨rfl, hW, ht⟩
  exact ⟨rfl, ht, Nat.le_refl _, none, hW⟩
theorem WO.quiet {w u u' : World} {b : Nat} {bs : List Int} (h : WO w u b bs) (ht : Tch [] u u') : WO w u' b bs := ⟨h.1.trans ht (by simp), h.2.1, h.2.2.elim fun a ha => ⟨a, ha.quiet ht⟩⟩
theorem OwnO.bytesR {w w1 w' : World} {r : List Int} {a : Option Addr} {c : Nat} (ht : Tch [] w w1) (ho : w'.ownsRow w1.heap.size 5 1 (.slice a r.length c) r.length (u8 r)) (h : Tch [] w1 w') : BytesR w (r, 0) (.returned (.tuple #[.slice a r.length c, .int .i64 0])) w' :=
  ⟨a, c, rfl, own_base ho ht.size, ht.trans h (by simp)⟩
theorem encPiece_c {F : Nat → Prop} (w : World) (i n : Int) (a : Option Addr) (tn tc : Nat) (l : List Tx) (h : BatchV F w a tn tc l) (hT : Tab w) :
    Calls Tryd.prog 12 #[.agg #[.int .i64 i, .int .i64 n, .slice a tn tc]] w (BytesR w (pieceE i n l)) := by
  refine c12 _ ?_
  unfold d12
  rintro w1 rfl
  have hP : Blk _ _ [Value.int .i64 i, .int .i64 n, .slice a tn tc] := Blk.fresh w (cs := [Value.int .i64 i, .int .i64 n, .slice a tn tc]) 37 rfl
  have t1 := (Tch.refl [] w).alloc (.cells #[Value.int .i64 i, .int .i64 n, .slice a tn tc] 37)
  generalize w.alloc (.cells #[Value.int .i64 i, .int .i64 n, .slice a tn tc] 37) = w1 at *
  generalize w.heap.size = pb at *
  refine ⟨i, by rw [add_mk]; exact hP.cell 0, n, by rw [add_mk]; exact hP.cell 1, ?_⟩
  refine (named_c i n w1).mono ?_
  rintro e w5 ⟨rfl, hw⟩
  rw [hw]
  clear hw
  refine ⟨_, rfl, ?_⟩
  unfold pieceE
  by_cases hn : nameE i n = 0
  rotate_left
  · rw [bif_nneg hn, if_pos hn]
    exact BytesR.none t1
  rw [bif_npos hn, if_neg (by simpa using hn)]
  refine ⟨a, tn, tc, by rw [add_mk]; exact hP.cell 2, ?_⟩
  refine (encode_c w1 a tn tc l (h.quiet t1)).mono ?_
  rintro e w9 ⟨ea, ec, rfl, heo, t9⟩
  refine ⟨_, _, _, _, rfl, _, _, _, rfl, _, rfl, ?_⟩
  have q9 := t1.trans t9 (by simp)
  by_cases he : (encB l).2 = 0
  rotate_left
  · rw [bif_nneg he, if_pos he]
    exact BytesR.none q9
  rw [bif_npos he, if_neg (by simpa using he)]
  have hel := encB_len h.ok he
  have htl := twoB_len hn
  obtain ⟨hi0, hi1, hn0, hn1⟩ := nameE_ok hn
  have hP9 := hP.tch t9 (by simp)
  refine (wo_new w9).mono ?_
  rintro e w15 ⟨rfl, hO⟩
  refine ⟨_, rfl, i, by rw [add_mk]; exact (hP9.tch hO.1 (by simp)).cell 0, ?_⟩
  rw [wrap_u64 (by omega) (by omega)]
  have hu1 := (uv_len10 (n := i.toNat) (by omega)).2
  have hu2 := (uv_len10 (n := n.toNat) (by omega)).2
  rw [show (i : Int) = ((i.toNat : Nat) : Int) by omega]
  refine wo_uint hO (by omega) (by simp) fun w19 hO => ?_
  refine ⟨n, by rw [add_mk]; exact (hP9.tch hO.1 (by simp)).cell 1, ?_⟩
  rw [wrap_u64 (by omega) (by omega)]
  rw [show (n : Int) = ((n.toNat : Nat) : Int) by omega]
  refine wo_uint hO (by omega) (by rw [List.nil_append]; omega) fun w22 hO => ?_
  refine wo_raw hO ((own_rsl heo ones_ints).tch hO.1 (fun _ _ h => by cases h)) (by rw [List.nil_append, List.length_append]; omega) fun w24 hO => ?_
  rw [List.nil_append] at hO
  refine (wo_out hO (by simp only [List.length_append]; omega)).mono ?_
  rintro e w26 ⟨oa, oc, rfl, hor, t26⟩
  refine ⟨_, _, _, rfl, ?_⟩
  have q26 := q9.trans t26 (by simp)
  refine (seal_c w26 77 (by omega) oa _ oc _ hor (((uv_bytes _).append (uv_bytes _)).append (encB_bytes he)) (by simp only [List.length_append]; omega) (hT.since q26)).mono ?_
  rintro e w29 ⟨sa, sc, rfl, hso, t29⟩
  refine ⟨_, _, _, rfl, ?_⟩
  have e1 : ((i.toNat : Nat) : Int).toNat = i.toNat := by omega
  have e2 : ((n.toNat : Nat) : Int).toNat = n.toNat := by omega
  unfold twoB
  rw [e1, e2]
  exact OwnO.bytesR q26 hso t29
end Go.Proofs.YtjchneebdlncfaaDoor.Lib
namespace Go.Proofs.YtjchneebdlncfaaDoor.Lib
open Go Den Fn
open Go.RowKit (Below)
open Classical
set_option maxRecDepth 8000
set_option maxHeartbeats 4000000
def wB (k : Int × Int) : List Int := twoB k.1 k.2
theorem wB_flat : ∀ {l : List (Int × Int)}, (∀ k ∈ l, nameE k.1 k.2 = 0) → ((l.map wB).flatten).length ≤ 20 * l.length
  | [], _ => by simp
  | k :: l, h => by
    have ih := wB_flat (l := l) fun x hx => h x (by simp [hx])
    have := twoB_len (h k (by simp))
    simp only [List.map_cons, List.flatten_cons, List.length_append, List.length_cons]
    show (twoB k.1 k.2).length + _ ≤ _
    omega
theorem wB_bytes (l : List (Int × Int)) : Bytes ((l.map wB).flatten) := fun y hy => by
  obtain ⟨bs, hbs, hy⟩ := List.mem_flatten.1 hy
  obtain ⟨k, _, rfl⟩ := List.mem_map.1 hbs
  exact twoB_bytes _ _ y hy
theorem wantsE_big {l : List (Int × Int)} (h : 1024 < l.length) : wantsE l = ([], 264) := by unfold wantsE; rw [if_pos h]
theorem wantsE_bad {l : List (Int × Int)} (hn : ¬ 1024 < l.length) {q : Nat} {k : Int × Int} (h : l[q]? = some k) (hg : ∀ x ∈ l.take q, nameE x.1 x.2 = 0) (hk : nameE k.1 k.2 ≠ 0) : wantsE l = ([], nameE k.1 k.2) := by
  unfold wantsE
  rw [if_neg hn, wantsG_bad h hg hk, if_pos hk]
theorem wantsE_good {l : List (Int × Int)} (hn : ¬ 1024 < l.length) (hg : ∀ x ∈ l, nameE x.1 x.2 = 0) : wantsE l = (sealS 87 (uv l.length ++ (l.map wB).flatten), 0) := by
  unfold wantsE
  rw [if_neg hn, wantsG_good hg, if_neg (by simp)]
  rfl
theorem take_snoc {l : List (Int × Int)} {q : Nat} (h : q < l.length) : ∃ k, l[q]? = some k ∧ l.take (q + 1) = l.take q ++ [k] ∧ k ∈ l := ⟨l[q], List.getElem?_eq_getElem h, List.take_succ_eq_append_getElem h, List.getElem_mem h⟩
theorem WX.of {w u u' : World} {b : Nat} {bs : List Int} {cs : List Value} (h : WO w u b bs) (t : Tch [] u u') (hB : Blk u' u.heap.size cs) : WX w u' b bs u.heap.size cs := by
  obtain ⟨h1, h2, a, h4⟩ := h
  refine ⟨h1.trans t (by simp), h2, h4.lt, a, h4.quiet t, fun hm => ?_, hB⟩
  rcases List.mem_cons.1 hm with e | hm
  · have := h4.lt; omega
  · have := h4.row _ hm; omega
theorem WX.blk {w u : World} {b xb : Nat} {bs : List Int} {cs : List Value} (h : WX w u b bs xb cs) : Blk u xb cs := h.2.2.2.elim fun _ h => h.2.2
theorem two_eq {i n : Int} (h : nameE i n = 0) : ∃ a b : Nat, i = a ∧ n = b ∧ a < 16 ∧ b ≤ 1099511627776 ∧ twoB i n = uv a ++ uv b ∧ (uv a).length ≤ 10 ∧ (uv b).length ≤ 10 := by
  obtain ⟨h0, h1, h2, h3⟩ := nameE_ok h
  exact ⟨i.toNat, n.toNat, by omega, by omega, by omega, by omega, rfl, (uv_len10 (by omega)).2, (uv_len10 (by omega)).2⟩
theorem encWants_c (w : World) (a : Option Addr) (n c : Nat) (l : List (Int × Int)) (hr : RSl w 2 a n c (rows kC l)) (hT : Tab w) :
    Calls Tryd.prog 15 #[.slice a n c] w (BytesR w (wantsE l)) := by
  have hn : l.length = n := hr.count kC_len (by omega)
  refine c15 _ _ _ ?_
  unfold d15
  by_cases hbig : 1024 < n
  · rw [bif_pos (by omega), wantsE_big (by omega)]
    exact BytesR.none (Tch.refl _ _)
  rw [bif_neg (by omega)]
  refine (wo_new w).mono ?_
  rintro e w2 ⟨rfl, hO⟩
  refine ⟨_, rfl, ?_⟩
  rw [wrap_u64 (by omega) (by omega)]
  have un10 := (uv_len10 (n := n) (by omega)).2
  refine wo_uint hO (by omega) (by simp) fun w5 hO => ?_
  refine ⟨fun m x u => ∃ q : Nat, x = q ∧ q ≤ n ∧ m = n - q ∧ (∀ k ∈ l.take q, nameE k.1 k.2 = 0) ∧ WO w u w.heap.size (uv n ++ ((l.take q).map wB).flatten), ⟨n, 0, rfl, by omega, rfl, by simp, by simpa using hO⟩, ?_⟩
  clear hO
  rintro m w8 x ⟨q, rfl, hq, rfl, hg, hO⟩
  have hfl := wB_flat hg
  rw [List.length_take] at hfl
  by_cases hlt : q < n
  · rw [bif_pos (by omega)]
    obtain ⟨k, hk, htk, hkm⟩ := take_snoc (l := l) (q := q) (by omega)
    refine ⟨by omega, by omega, ?_⟩
    rw [Int.toNat_natCast]
    refine (hr.tch hO.1 (fun _ _ h => by cases h)).elem kC_len (by omega) hk ?_
    refine var_init (n := 2) (by rw [zcWant]; rfl) rfl kC_one fun w12 w13 hB t13 s13 => ?_
    refine ⟨k.1, by rw [add_mk]; exact hB.cell 0, k.2, by rw [add_mk]; exact hB.cell 1, ?_⟩
    refine (named_c k.1 k.2 w13).mono ?_
    rintro e w17 ⟨rfl, hw⟩
    rw [hw]
    clear hw
    refine ⟨_, rfl, ?_⟩
    have hO8 := hO
    replace hO := hO.quiet t13
    by_cases hf : nameE k.1 k.2 = 0
    rotate_left
    · rw [bif_nneg hf, wantsE_bad (by omega) hk hg hf]
      exact BytesR.none hO.1
    rw [bif_npos hf]
    have hl0 : (uv n ++ ((l.take q).map wB).flatten).length ≤ 10 + 20 * 1024 := by rw [List.length_append]; omega
    have hX := WX.of hO8 t13 hB
    obtain ⟨k1, k2⟩ := k
    obtain ⟨x1, x2, rfl, rfl, hx1, hx2, htw, hu1, hu2⟩ := two_eq hf
    simp only at hX hB ⊢
    refine ⟨x1, by rw [add_mk]; exact hX.blk.cell 0, ?_⟩
    rw [wrap_u64 (by omega) (by omega)]
    refine wx_uint hX (by omega) (by omega) fun w21 hX => ?_
    refine ⟨x2, by rw [add_mk]; exact hX.blk.cell 1, ?_⟩
    rw [wrap_u64 (by omega) (by omega)]
    refine wx_uint hX (by omega) (by rw [List.length_append]; omega) fun w24 hX => ?_
    refine ⟨n - (q + 1), by omega, q + 1, by rw [wrap_i64 (by omega) (by omega)]; omega, by omega, rfl, fun y hy => ?_, ?_⟩
    · rw [htk] at hy
      rcases List.mem_append.1 hy with hy | hy
      · exact hg y hy
      · rw [List.mem_singleton.1 hy]; exact hf
    · have := hX.out
      rw [htk, List.map_append, List.flatten_append]
      have e : (List.map wB [((x1 : Int), (x2 : Int))]).flatten = uv x1 ++ uv x2 := by simpa [wB] using htw
      rw [e]
      simpa only [List.append_assoc] using this
  · rw [bif_neg (by omega)]
    rw [List.take_of_length_le (by omega)] at hg hO hfl
    rw [wantsE_good (by omega) hg, hn]
    refine (wo_out hO (by rw [List.length_append]; omega)).mono ?_
    rintro e w27 ⟨oa, oc, rfl, hor, t27⟩
    refine ⟨_, _, _, rfl, ?_⟩
    refine (seal_c w27 87 (by omega) oa _ oc _ hor ((uv_bytes _).append (wB_bytes _)) (by rw [List.length_append]; omega) (hT.since t27)).mono ?_
    rintro e w30 ⟨sa, sc, rfl, hso, t30⟩
    exact ⟨_, _, _, rfl, OwnO.bytesR t27 hso t30⟩
end Go.Proofs.YtjchneebdlncfaaDoor.Lib
namespace Go.Proofs.YtjchneebdlncfaaDoor.Lib
open Go Den
open Classical
set_option maxRecDepth 8000
/-- The key at a place. -/
def kOf (bs : List Int) (p : Nat) : Int × Int := ((fromB ((bs.drop p).take 10)).1, (fromB ((bs.drop p).take 10)).2.1)
def clash (acc : List (Int × Int)) (k : Int × Int) : Prop := ∃ l, acc.getLast? = some l ∧ 0 ≤ cmpK l k
/-- So many keys. -/
noncomputable def kS (bs : List Int) : Nat → Nat → List (Int × Int) → List (Int × Int) × Nat × Int
  | 0, p, acc => (acc, p, 0)
  | m + 1, p, acc => if (rRaw bs 10 p 0).2.2 ≠ 0 then ([], p, (rRaw bs 10 p 0).2.2) else if clash acc (kOf bs p) then ([], p, 65) else kS bs m (p + 10) (acc ++ [kOf bs p])
noncomputable def keysS (bs : List Int) (p : Nat) : List (Int × Int) × Nat × Int :=
  if (rUpto bs 16 p 0).2.2 ≠ 0 then ([], p, (rUpto bs 16 p 0).2.2) else kS bs (rUpto bs 16 p 0).1 (rUpto bs 16 p 0).2.1 []
/-- So many numbers. -/
def aS (bs : List Int) : Nat → Nat → List Int → List Int × Nat × Int
  | 0, p, acc => (acc, p, 0)
  | m + 1, p, acc => if (rInt bs p 0).2.2 ≠ 0 then ([], p, (rInt bs p 0).2.2) else aS bs m (rInt bs p 0).2.1 (acc ++ [(rInt bs p 0).1])
def Tx.zero : Tx := ⟨0, [], [], []⟩
noncomputable def tx5 (u : Nat) (A : List Int) (R : List (Int × Int)) (W : List (Int × Int) × Nat × Int) : Tx × Nat × Int := if W.2.2 ≠ 0 then (.zero, W.2) else (⟨(u : Int), A, R, W.1⟩, W.2.1, 0)
noncomputable def tx4 (bs : List Int) (u : Nat) (A : List Int) (R : List (Int × Int) × Nat × Int) : Tx × Nat × Int := if R.2.2 ≠ 0 then (.zero, R.2) else tx5 u A R.1 (keysS bs R.2.1)
noncomputable def tx3 (bs : List Int) (u : Nat) (A : List Int × Nat × Int) : Tx × Nat × Int := if A.2.2 ≠ 0 then (.zero, A.2) else tx4 bs u A.1 (keysS bs A.2.1)
noncomputable def tx2 (bs : List Int) (u : Nat) (v : Nat × Nat × Int) : Tx × Nat × Int := if v.2.2 ≠ 0 then (.zero, v.2) else tx3 bs u (aS bs v.1 v.2.1 [])
noncomputable def tx1 (bs : List Int) (u : Nat × Nat × Int) : Tx × Nat × Int := if u.2.2 ≠ 0 then (.zero, u.2) else tx2 bs u.1 (rUpto bs 16 u.2.1 0)
noncomputable def txS (bs : List Int) (p : Nat) : Tx × Nat × Int := tx1 bs (rUpto bs 63 p 0)
noncomputable def txsS (bs : List Int) : Nat → Nat → List Tx → List Tx × Nat × Int
  | 0, p, acc => (acc, p, 0)
  | m + 1, p, acc => if (txS bs p).2.2 ≠ 0 then ([], (txS bs p).2.1, (txS bs p).2.2) else txsS bs m (txS bs p).2.1 (acc ++ [(txS bs p).1])
/-- A batch's bytes: the batch, the place, the error. -/
noncomputable def dec2 (bs : List Int) (T : List Tx × Nat × Int) : List Tx × Nat × Int := if T.2.2 ≠ 0 then ([], T.2) else if T.2.1 < bs.length then ([], T.2.1, 11) else (T.1, 0, 0)
noncomputable def dec1 (bs : List Int) (u : Nat × Nat × Int) : List Tx × Nat × Int := if u.2.2 ≠ 0 then ([], u.2) else dec2 bs (txsS bs u.1 u.2.1 [])
noncomputable def decS (bs : List Int) : List Tx × Nat × Int := dec1 bs (rUpto bs 64 0 0)

theorem rUpto_err {bs : List Int} {most p : Nat} (h : (rUpto bs most p 0).2.2 ≠ 0) : (rUpto bs most p 0).1 = 0 ∧ (rUpto bs most p 0).2.1 = p := by
  unfold rUpto at h ⊢
  rw [if_neg (by simp)] at h ⊢
  by_cases h1 : (number (bs.drop p)).2.2 = 0
  · rw [if_neg (by simpa using h1)] at h ⊢
    by_cases h2 : most < (number (bs.drop p)).1
    · rw [if_pos h2]; exact ⟨rfl, rfl⟩
    · rw [if_neg h2] at h; simp at h
  · rw [if_pos h1]; exact ⟨rfl, rfl⟩
theorem rInt_le {bs : List Int} (hB : Bytes bs) {p : Nat} (hp : p ≤ bs.length) : (rInt bs p 0).2.1 ≤ bs.length ∧ I64 (rInt bs p 0).1 := by
  have := rUpto_le hB (most := 18446744073709551615) (e := 0) hp
  exact ⟨this.1, unfold_range (by have := this.2.2; omega)⟩
theorem raw10 (bs : List Int) (p : Nat) : (p + 10 ≤ bs.length ∧ rRaw bs 10 p 0 = ((bs.drop p).take 10, p + 10, 0)) ∨ (¬ p + 10 ≤ bs.length ∧ (rRaw bs 10 p 0).1 = [] ∧ (rRaw bs 10 p 0).2.1 = p ∧ (rRaw bs 10 p 0).2.2 ≠ 0) := by
  rcases rRaw_cases bs 10 p 0 with ⟨_, h2, h3⟩ | ⟨h1, h2, h3, h4, _⟩
  · exact .inl ⟨h2, h3⟩
  · exact .inr ⟨fun h => h1 ⟨rfl, h⟩, h2, h3, h4⟩
theorem kOf_ok {bs : List Int} (hB : Bytes bs) (p : Nat) : KeyOk (kOf bs p).1 ∧ I64 (kOf bs p).2 := fromB_range ((hB.drop p).take 10)
theorem kS_ok {bs : List Int} (hB : Bytes bs) : ∀ {m p : Nat} {acc : List (Int × Int)}, p ≤ bs.length → (∀ k ∈ acc, kI k) → (kS bs m p acc).2.1 ≤ bs.length ∧ (∀ k ∈ (kS bs m p acc).1, kI k) ∧ (kS bs m p acc).1.length ≤ acc.length + m
  | 0, p, acc, hp, ha => ⟨hp, ha, by simp [kS]⟩
  | m + 1, p, acc, hp, ha => by
    unfold kS
    split
    · exact ⟨hp, by simp, by simp⟩
    · rename_i h1
      split
      · exact ⟨hp, by simp, by simp⟩
      · have hk := kOf_ok hB p
        have h10 : p + 10 ≤ bs.length := by
          rcases raw10 bs p with h | h
          · exact h.1
          · exact absurd h.2.2.2 h1
        have := kS_ok hB (m := m) (p := p + 10) (acc := acc ++ [kOf bs p]) h10 (fun k hm => by
          rcases List.mem_append.1 hm with hm | hm
          · exact ha k hm
          · rw [List.mem_singleton.1 hm]
            have := hk.1
            unfold KeyOk at this
            exact ⟨by unfold I64; omega, hk.2⟩)
        refine ⟨this.1, this.2.1, ?_⟩
        have := this.2.2
        rw [List.length_append, List.length_singleton] at this
        omega
theorem keysS_ok {bs : List Int} (hB : Bytes bs) {p : Nat} (hp : p ≤ bs.length) : (keysS bs p).2.1 ≤ bs.length ∧ (∀ k ∈ (keysS bs p).1, kI k) ∧ (keysS bs p).1.length ≤ 16 := by
  have := rUpto_le hB (most := 16) (e := 0) hp
  unfold keysS
  split
  · exact ⟨hp, by simp, by simp⟩
  · have h2 := kS_ok hB (m := (rUpto bs 16 p 0).1) (p := (rUpto bs 16 p 0).2.1) (acc := []) this.1 (by simp)
    refine ⟨h2.1, h2.2.1, ?_⟩
    have := h2.2.2
    simp at this
    omega
theorem aS_ok {bs : List Int} (hB : Bytes bs) : ∀ {m p : Nat} {acc : List Int}, p ≤ bs.length → (∀ v ∈ acc, I64 v) → (aS bs m p acc).2.1 ≤ bs.length ∧ (∀ v ∈ (aS bs m p acc).1, I64 v) ∧ (aS bs m p acc).1.length ≤ acc.length + m
  | 0, p, acc, hp, ha => ⟨hp, ha, by simp [aS]⟩
  | m + 1, p, acc, hp, ha => by
    unfold aS
    split
    · exact ⟨hp, by simp, by simp⟩
    · obtain ⟨h1, h2⟩ := rInt_le hB hp
      have := aS_ok hB (m := m) (p := (rInt bs p 0).2.1) (acc := acc ++ [(rInt bs p 0).1]) h1 (fun v hm => by
        rcases List.mem_append.1 hm with hm | hm
        · exact ha v hm
        · rw [List.mem_singleton.1 hm]; exact h2)
      refine ⟨this.1, this.2.1, ?_⟩
      have := this.2.2
      rw [List.length_append, List.length_singleton] at this
      omega
theorem Tx.zero_ok : Tx.zero.ok := ⟨by unfold I64; decide, by simp [Tx.zero], by simp [Tx.zero], by simp [Tx.zero]⟩
theorem txS_ok {bs : List Int} (hB : Bytes bs) {p : Nat} (hp : p ≤ bs.length) : (txS bs p).2.1 ≤ bs.length ∧ (txS bs p).1.ok := by
  have h1 := rUpto_le hB (most := 63) (e := 0) hp
  have h2 := rUpto_le hB (most := 16) (e := 0) h1.1
  unfold txS
  generalize rUpto bs 63 p 0 = u1 at *
  generalize hu2 : rUpto bs 16 u1.2.1 0 = u2 at *
  unfold tx1
  rw [hu2]
  split
  · exact ⟨h1.1, Tx.zero_ok⟩
  have h3 := aS_ok hB (m := u2.1) (acc := []) h2.1 (by simp)
  unfold tx2
  generalize aS bs u2.1 u2.2.1 [] = A at *
  split
  · exact ⟨h2.1, Tx.zero_ok⟩
  have h4 := keysS_ok hB h3.1
  unfold tx3
  generalize keysS bs A.2.1 = K1 at *
  split
  · exact ⟨h3.1, Tx.zero_ok⟩
  have h5 := keysS_ok hB h4.1
  unfold tx4
  generalize keysS bs K1.2.1 = K2 at *
  split
  · exact ⟨h4.1, Tx.zero_ok⟩
  unfold tx5
  split
  · exact ⟨h5.1, Tx.zero_ok⟩
  have hI : I64 ((u1.1 : Nat) : Int) := by
    have := h1.2.2
    generalize u1.1 = u at this
    unfold I64
    omega
  exact ⟨h5.1, ⟨hI, h3.2.1, h4.2.1, h5.2.1⟩⟩
end Go.Proofs.YtjchneebdlncfaaDoor.Lib
namespace Go.Proofs.YtjchneebdlncfaaDoor.Den
open Go Go.RowKit
/-- A function's outermost sequence. -/
inductive T where
  | last (s : S)
  | seq (a : S) (t : T)
  | join (sl : List (Nat × Ty)) (ks : List Nat) (a : S) (t : T)
  | rf (g : Operand) (ps : List (Nat × Ty)) (sl : List (Nat × Ty)) (ks : List Nat) (sa sb : S) (t : T)
/-- What turns is no cells, and lies at or beyond B. -/
def NoCells (B : Nat) (s : List Nat) (W : World) : Prop := ∀ k ∈ s, B ≤ k ∧ ∃ o : Obj, W.heap[k]? = some o ∧ o.isCells = false
/-- This is no matter. -/
def Stable {α : Type} (B : Nat) (I : α → World → Prop) : Prop := ∀ (x : α) (W W' : World) (s : List Nat), I x W → Tch s W W' → NoCells B s W → I x W'
def StableF (B : Nat) : (ts : List Ty) → Fn ts → Prop
  | [], J => ∀ (W W' : World) (s : List Nat), J W → Tch s W W' → NoCells B s W → J W'
  | .int _ :: ts, J => ∀ n, StableF B ts (J n)
  | .bool :: ts, J => ∀ b, StableF B ts (J b)
  | .str :: ts, J => ∀ s, StableF B ts (J s)
  | .sl :: ts, J => ∀ a n c, StableF B ts (J a n c)
  | .ptr :: ts, J => ∀ a, StableF B ts (J a)
  | .mp :: ts, J => ∀ r, StableF B ts (J r)
  | .agg :: ts, J => ∀ cs, StableF B ts (J cs)
  | .any :: ts, J => ∀ v, StableF B ts (J v)
/-- A sequence's parts. -/
def flat : Code → List Code
  | .seq a b => flat a ++ flat b
  | c => [c]
/-! ### It is right -/
theorem grown_tch {W W' : World} {row : Option Nat} (h : W.grownBy W' row) : Tch row.toList W W' :=
  ⟨h.os, h.tape, h.output, h.size, fun k hk hn => h.block k hk (fun e => hn (by simp [← e]))⟩
theorem noCells_row {B : Nat} {W : World} {row : Option Nat} (hr : ∀ r, row = some r → B ≤ r ∧ ∃ o : Obj, W.heap[r]? = some o ∧ o.isCells = false) : NoCells B row.toList W := fun k hk => by
  cases row with
  | none => simp at hk
  | some r => simp at hk; subst hk; exact hr k rfl
theorem Stable.own {α : Type} {B : Nat} {I : α → World → Prop} (h : Stable B I) : OwnFrom B I := fun x W W' row hs hg hr => h x W W' _ hs (grown_tch hg) (noCells_row hr)
theorem StableF.app {B : Nat} : ∀ {ts : List Ty} {J : Fn ts} {vs : List Value} {W W' : World} {s : List Nat}, StableF B ts J → Den.app ts J vs W → Tch s W W' → NoCells B s W → Den.app ts J vs W'
  | [], _, [], _, _, _, h, ha, ht, hn => h _ _ _ ha ht hn
  | [], _, _ :: _, _, _, _, _, ha, _, _ => ha.elim
  | t :: ts, J, [], _, _, _, _, ha, _, _ => by cases t <;> exact (show False from ha).elim
  | t :: ts, J, v :: vs, W, W', s, h, ha, ht, hn => by
    cases t
    case any => exact StableF.app (ts := ts) (J := J v) (h v) ha ht hn
    all_goals cases v <;> first | exact (show False from ha).elim | skip
    case int.int k k' n =>
      have ha' : (bif same k' k then Den.app ts (J n) vs W else False) := ha
      show bif same k' k then Den.app ts (J n) vs W' else False
      cases hs : same k' k
      · rw [hs] at ha'; exact ha'.elim
      · rw [hs] at ha'; exact StableF.app (ts := ts) (J := J n) (h n) ha' ht hn
    case sl.slice a n c => exact StableF.app (ts := ts) (J := J a n c) (h a n c) ha ht hn
    all_goals exact StableF.app (ts := ts) (h _) ha ht hn
/-- Codes, one behind the other. -/
def wpL (F : Fence) (n : Nat) (P : Program) (Q : Exit → Act → World → Prop) : List Code → Act → World → Prop
  | [], a, w => Q .normal a w
  | c :: cs, a, w => c.wpIn F n P (Exit.then (wpL F n P Q cs) Q) a w
section
variable {P : Program} {pn : List Nat} {rs : List Res} {R : Ending → World → Prop} {fn : Func}
end
end Go.Proofs.YtjchneebdlncfaaDoor.Den
