/-
  THE CODE of some functions of the given program, resolved, and proved to ask what the readable texts (d..) say; contracts c.. follow. Printed by a small program of mine.
  Own work. No macro, syntax, notation, axiom.
-/
import Derived.Test.YtjchneebdlncfaaDoorFrmPk3
import Derived.Test.YtjchneebdlncfaaDoorProg
set_option maxRecDepth 100000
namespace Go.Proofs.YtjchneebdlncfaaDoor.Fn
open Go Den
/-- prelude/merge.EncodePiece -/
def s12 : S := (.seq (.ops [⟨(some 1), (.box 37 (.tmp 0)), .ptr, none⟩,
  ⟨(some 2), (.mv (.const (.slice none 0 0))), .sl, none⟩,
  ⟨(some 3), (.mv (.const (.int .i64 0))), (.int .i64), none⟩] [1])
 (.seq (.seq (.ops [⟨(some 8), (.fa 0 (.tmp 1)), .ptr, none⟩,
  ⟨(some 9), (.ld1 (.tmp 8)), (.int .i64), none⟩,
  ⟨(some 10), (.fa 1 (.tmp 1)), .ptr, none⟩,
  ⟨(some 11), (.ld1 (.tmp 10)), (.int .i64), none⟩,
  ⟨(some 12), (.call 28 [(.tmp 9), (.tmp 11)] [(.int .i64)]), (.int .i64), none⟩,
  ⟨(some 4), (.mv (.tmp 12)), (.int .i64), none⟩] [4, 1])
 (.seq (.ops [⟨(some 13), (.mv (.tmp 4)), (.int .i64), none⟩,
  ⟨(some 14), (.bin .neq (.tmp 13) (.const (.int .i64 0))), .bool, none⟩] [14, 4, 1])
 (.cond (.tmp 14)
 (.seq (.ops [⟨(some 15), (.mv (.tmp 4)), (.int .i64), none⟩,
  ⟨(some 2), (.mv (.const (.slice none 0 0))), .sl, none⟩,
  ⟨(some 3), (.mv (.tmp 15)), (.int .i64), none⟩] [2, 3])
 .ret)
 .skip)))
 (.seq (.ops [⟨(some 17), (.fa 2 (.tmp 1)), .ptr, none⟩,
  ⟨(some 18), (.ld1 (.tmp 17)), .sl, none⟩,
  ⟨(some 19), (.call 29 [(.tmp 18)] [.sl, (.int .i64)]), .any, none⟩,
  ⟨(some 16), (.mv (.tmp 19)), .any, none⟩,
  ⟨(some 20), (.ext 0 (.tmp 16)), .sl, none⟩,
  ⟨(some 21), (.ext 1 (.tmp 16)), (.int .i64), none⟩,
  ⟨(some 5), (.mv (.tmp 20)), .sl, none⟩,
  ⟨(some 6), (.mv (.tmp 21)), (.int .i64), none⟩] [6, 1, 5])
 (.seq (.seq (.ops [⟨(some 22), (.mv (.tmp 6)), (.int .i64), none⟩,
  ⟨(some 23), (.bin .neq (.tmp 22) (.const (.int .i64 0))), .bool, none⟩] [23, 6, 1, 5])
 (.cond (.tmp 23)
 (.seq (.ops [⟨(some 24), (.mv (.tmp 6)), (.int .i64), none⟩,
  ⟨(some 2), (.mv (.const (.slice none 0 0))), .sl, none⟩,
  ⟨(some 3), (.mv (.tmp 24)), (.int .i64), none⟩] [2, 3])
 .ret)
 .skip))
 (.seq (.ops [⟨(some 25), (.call 30 [] [.ptr]), .ptr, none⟩,
  ⟨(some 7), (.mv (.tmp 25)), .ptr, none⟩] [7, 1, 5])
 (.seq (.ops [⟨(some 26), (.mv (.tmp 7)), .ptr, none⟩,
  ⟨(some 27), (.fa 0 (.tmp 1)), .ptr, none⟩,
  ⟨(some 28), (.ld1 (.tmp 27)), (.int .i64), none⟩,
  ⟨(some 29), (.cv .u64 (.tmp 28)), (.int .u64), none⟩,
  ⟨(some 30), (.call 31 [(.tmp 26), (.tmp 29)] []), .any, none⟩] [7, 1, 5])
 (.seq (.ops [⟨(some 31), (.mv (.tmp 7)), .ptr, none⟩,
  ⟨(some 32), (.fa 1 (.tmp 1)), .ptr, none⟩,
  ⟨(some 33), (.ld1 (.tmp 32)), (.int .i64), none⟩,
  ⟨(some 34), (.cv .u64 (.tmp 33)), (.int .u64), none⟩,
  ⟨(some 35), (.call 31 [(.tmp 31), (.tmp 34)] []), .any, none⟩] [7, 5])
 (.seq (.ops [⟨(some 36), (.mv (.tmp 7)), .ptr, none⟩,
  ⟨(some 37), (.mv (.tmp 5)), .sl, none⟩,
  ⟨(some 38), (.call 32 [(.tmp 36), (.tmp 37)] []), .any, none⟩] [7])
 (.seq (.ops [⟨(some 39), (.mv (.tmp 7)), .ptr, none⟩,
  ⟨(some 40), (.call 34 [(.tmp 39)] [.sl]), .sl, none⟩,
  ⟨(some 41), (.call 33 [(.const (.int .u8 77)), (.tmp 40)] [.sl]), .sl, none⟩,
  ⟨(some 2), (.mv (.tmp 41)), .sl, none⟩,
  ⟨(some 3), (.mv (.const (.int .i64 0))), (.int .i64), none⟩] [2, 3])
 .ret)))))))))
def r12 : List Res := [.t 2, .t 3]
theorem tr12 : trS Tryd.prog [] 42 (Tryd.f12.body.getD .skip) s12 = some s12 := by kernel_rfl
theorem den12 (args : List Value) (w : World) (R : Ending → World → Prop) (hn : args.length ≤ 42) (h : denS Tryd.prog s12 (argsEnv 0 args) w (endK r12 R)) : Calls Tryd.prog 12 args.toArray w R :=
  calls_of_den (pn := []) (fn := Tryd.f12) (c := Tryd.f12.body.getD .skip) Tryd.func12 (by kernel_rfl) (by rw [Tryd.ntmps12]; exact hn) (by rw [Tryd.ntmps12]; exact tr12) (by kernel_rfl) h
def d12 (p0 : Array Value) (w : World) (R : Ending → World → Prop) : Prop :=
 ∀ w1 : World, w1 = World.alloc w (.cells p0 37) →
 ∃ x2 : Int, World.cell? w1 (Addr.add ⟨World.heap w |>.size, 0, none⟩ 0) = some (.int .i64 x2) ∧
 ∃ x3 : Int, World.cell? w1 (Addr.add ⟨World.heap w |>.size, 0, none⟩ 1) = some (.int .i64 x3) ∧
 Calls Tryd.prog 28 #[(.int .i64 x2), (.int .i64 x3)] w1 fun e4 w5 => ∃ x6 : Int, e4 = .returned (.int .i64 x6) ∧
 (bif (!decide (x6 = 0)) then
 (R (.returned (.tuple #[(.slice none 0 0), (.int .i64 x6)])) w5)
 else
 (∃ (x7 : Option Addr) (x7n : Nat) (x7c : Nat), World.cell? w5 (Addr.add ⟨World.heap w |>.size, 0, none⟩ 2) = some (.slice x7 x7n x7c) ∧
 Calls Tryd.prog 29 #[(.slice x7 x7n x7c)] w5 fun e8 w9 => ∃ (x10 : Option Addr) (x10n : Nat) (x10c : Nat), ∃ x11 : Int, e8 = .returned (.tuple #[(.slice x10 x10n x10c), (.int .i64 x11)]) ∧
 ∃ (x12 : Option Addr) (x12n : Nat) (x12c : Nat), (#[(.slice x10 x10n x10c), (.int .i64 x11)] : Array Value)[0]? = some (.slice x12 x12n x12c) ∧
 ∃ x13 : Int, (#[(.slice x10 x10n x10c), (.int .i64 x11)] : Array Value)[1]? = some (.int .i64 x13) ∧
 (bif (!decide (x13 = 0)) then
 (R (.returned (.tuple #[(.slice none 0 0), (.int .i64 x13)])) w9)
 else
 (Calls Tryd.prog 30 #[] w9 fun e14 w15 => ∃ x16 : Option Addr, e14 = .returned (.pointer x16) ∧
 ∃ x17 : Int, World.cell? w15 (Addr.add ⟨World.heap w |>.size, 0, none⟩ 0) = some (.int .i64 x17) ∧
 Calls Tryd.prog 31 #[(.pointer x16), (.int .u64 (IntKind.wrap .u64 x17))] w15 fun e18 w19 => e18 = .returned (.tuple #[]) ∧ ∃ x20 : Int, World.cell? w19 (Addr.add ⟨World.heap w |>.size, 0, none⟩ 1) = some (.int .i64 x20) ∧
 Calls Tryd.prog 31 #[(.pointer x16), (.int .u64 (IntKind.wrap .u64 x20))] w19 fun e21 w22 => e21 = .returned (.tuple #[]) ∧ Calls Tryd.prog 32 #[(.pointer x16), (.slice x12 x12n x12c)] w22 fun e23 w24 => e23 = .returned (.tuple #[]) ∧ Calls Tryd.prog 34 #[(.pointer x16)] w24 fun e25 w26 => ∃ (x27 : Option Addr) (x27n : Nat) (x27c : Nat), e25 = .returned (.slice x27 x27n x27c) ∧
 Calls Tryd.prog 33 #[(.int .u8 77), (.slice x27 x27n x27c)] w26 fun e28 w29 => ∃ (x30 : Option Addr) (x30n : Nat) (x30c : Nat), e28 = .returned (.slice x30 x30n x30c) ∧
 R (.returned (.tuple #[(.slice x30 x30n x30c), (.int .i64 0)])) w29))))
theorem e12 (p0 : Array Value) (w : World) (R : Ending → World → Prop) : denS Tryd.prog s12 (argsEnv 0 [(.agg p0)]) w (endK r12 R) = d12 p0 w R := by kernel_rfl
theorem c12 (p0 : Array Value) {w : World} {R : Ending → World → Prop} (h : d12 p0 w R) : Calls Tryd.prog 12 #[(.agg p0)] w R :=
  den12 [(.agg p0)] w R (by simp) ((e12 p0 w R).symm ▸ h)

/-- prelude/merge.EncodeWants -/
def s15 : S := (.seq (.ops [⟨(some 2), (.mv (.const (.slice none 0 0))), .sl, none⟩,
  ⟨(some 3), (.mv (.const (.int .i64 0))), (.int .i64), none⟩] [0])
 (.seq (.seq (.ops [⟨(some 8), (.mv (.tmp 0)), .sl, none⟩,
  ⟨(some 9), (.len (.tmp 8)), (.int .i64), none⟩,
  ⟨(some 10), (.bin .gtr (.tmp 9) (.const (.int .i64 1024))), .bool, none⟩] [10, 0])
 (.cond (.tmp 10)
 (.seq (.ops [⟨(some 2), (.mv (.const (.slice none 0 0))), .sl, none⟩,
  ⟨(some 3), (.mv (.const (.int .i64 264))), (.int .i64), none⟩] [2, 3])
 .ret)
 .skip))
 (.seq (.ops [⟨(some 11), (.call 30 [] [.ptr]), .ptr, none⟩,
  ⟨(some 4), (.mv (.tmp 11)), .ptr, none⟩] [4, 0])
 (.seq (.ops [⟨(some 12), (.mv (.tmp 4)), .ptr, none⟩,
  ⟨(some 13), (.mv (.tmp 0)), .sl, none⟩,
  ⟨(some 14), (.len (.tmp 13)), (.int .i64), none⟩,
  ⟨(some 15), (.cv .u64 (.tmp 14)), (.int .u64), none⟩,
  ⟨(some 16), (.call 31 [(.tmp 12), (.tmp 15)] []), .any, none⟩] [0, 4])
 (.seq (.seq (.ops [⟨(some 17), (.mv (.tmp 0)), .sl, none⟩,
  ⟨(some 18), (.len (.tmp 17)), (.int .i64), none⟩,
  ⟨(some 19), (.mv (.const (.int .i64 0))), (.int .i64), none⟩] [19, 18, 17, 4])
 (.block 0
 (.loop [(19, (.int .i64))] [4, 17, 18]
 (.seq (.ops [⟨(some 20), (.bin .lss (.tmp 19) (.tmp 18)), .any, none⟩] [20, 17, 19, 4, 18])
 (.seq (.cond (.tmp 20)
 .skip
 (.exit 0))
 (.seq (.block 1
 (.seq (.ops [⟨(some 21), (.ia 2 (.tmp 17) (.tmp 19)), .ptr, none⟩,
  ⟨(some 22), (.ldN 2 (.tmp 21)), .agg, none⟩,
  ⟨(some 6), (.alloc 59), .ptr, none⟩,
  ⟨none, (.stN 2 (.tmp 6) (.tmp 22)), .any, none⟩] [6, 4, 19, 18, 17])
 (.seq (.seq (.ops [⟨(some 23), (.fa 0 (.tmp 6)), .ptr, none⟩,
  ⟨(some 24), (.ld1 (.tmp 23)), (.int .i64), none⟩,
  ⟨(some 25), (.fa 1 (.tmp 6)), .ptr, none⟩,
  ⟨(some 26), (.ld1 (.tmp 25)), (.int .i64), none⟩,
  ⟨(some 27), (.call 28 [(.tmp 24), (.tmp 26)] [(.int .i64)]), (.int .i64), none⟩,
  ⟨(some 7), (.mv (.tmp 27)), (.int .i64), none⟩] [7, 4, 6, 19, 18, 17])
 (.seq (.ops [⟨(some 28), (.mv (.tmp 7)), (.int .i64), none⟩,
  ⟨(some 29), (.bin .neq (.tmp 28) (.const (.int .i64 0))), .bool, none⟩] [29, 7, 4, 6, 19, 18, 17])
 (.cond (.tmp 29)
 (.seq (.ops [⟨(some 30), (.mv (.tmp 7)), (.int .i64), none⟩,
  ⟨(some 2), (.mv (.const (.slice none 0 0))), .sl, none⟩,
  ⟨(some 3), (.mv (.tmp 30)), (.int .i64), none⟩] [2, 3])
 .ret)
 .skip)))
 (.seq (.ops [⟨(some 31), (.mv (.tmp 4)), .ptr, none⟩,
  ⟨(some 32), (.fa 0 (.tmp 6)), .ptr, none⟩,
  ⟨(some 33), (.ld1 (.tmp 32)), (.int .i64), none⟩,
  ⟨(some 34), (.cv .u64 (.tmp 33)), (.int .u64), none⟩,
  ⟨(some 35), (.call 31 [(.tmp 31), (.tmp 34)] []), .any, none⟩] [4, 6, 19, 18, 17])
 (.ops [⟨(some 36), (.mv (.tmp 4)), .ptr, none⟩,
  ⟨(some 37), (.fa 1 (.tmp 6)), .ptr, none⟩,
  ⟨(some 38), (.ld1 (.tmp 37)), (.int .i64), none⟩,
  ⟨(some 39), (.cv .u64 (.tmp 38)), (.int .u64), none⟩,
  ⟨(some 40), (.call 31 [(.tmp 36), (.tmp 39)] []), .any, none⟩] [19, 18, 17, 4])))))
 (.ops [⟨(some 41), (.bin .add (.tmp 19) (.const (.int .i64 1))), (.int .i64), none⟩,
  ⟨(some 19), (.mv (.tmp 41)), (.int .i64), none⟩] [19, 18, 17, 4])))))))
 (.seq (.ops [⟨(some 42), (.mv (.tmp 4)), .ptr, none⟩,
  ⟨(some 43), (.call 34 [(.tmp 42)] [.sl]), .sl, none⟩,
  ⟨(some 44), (.call 33 [(.const (.int .u8 87)), (.tmp 43)] [.sl]), .sl, none⟩,
  ⟨(some 2), (.mv (.tmp 44)), .sl, none⟩,
  ⟨(some 3), (.mv (.const (.int .i64 0))), (.int .i64), none⟩] [2, 3])
 .ret))))))
def r15 : List Res := [.t 2, .t 3]
theorem tr15 : trS Tryd.prog [] 45 (Tryd.f15.body.getD .skip) s15 = some s15 := by kernel_rfl
theorem den15 (args : List Value) (w : World) (R : Ending → World → Prop) (hn : args.length ≤ 45) (h : denS Tryd.prog s15 (argsEnv 0 args) w (endK r15 R)) : Calls Tryd.prog 15 args.toArray w R :=
  calls_of_den (pn := []) (fn := Tryd.f15) (c := Tryd.f15.body.getD .skip) Tryd.func15 (by kernel_rfl) (by rw [Tryd.ntmps15]; exact hn) (by rw [Tryd.ntmps15]; exact tr15) (by kernel_rfl) h
def d15 (l0 : Option Addr) (l0n : Nat) (l0c : Nat) (w : World) (R : Ending → World → Prop) : Prop :=
 (bif (decide (1024 < ((l0n : Nat) : Int))) then
 (R (.returned (.tuple #[(.slice none 0 0), (.int .i64 264)])) w)
 else
 (Calls Tryd.prog 30 #[] w fun e1 w2 => ∃ x3 : Option Addr, e1 = .returned (.pointer x3) ∧
 Calls Tryd.prog 31 #[(.pointer x3), (.int .u64 (IntKind.wrap .u64 ((l0n : Nat) : Int)))] w2 fun e4 w5 => e4 = .returned (.tuple #[]) ∧ ∃ I6 : Nat → Int → World → Prop,
 (∃ m, I6 m 0 w5) ∧
 (∀ (m7 : Nat) (w8 : World) (x9 : Int), I6 m7 x9 w8 →
 (bif (decide (x9 < ((l0n : Nat) : Int))) then
 (0 ≤ x9 ∧ x9 < ((l0n : Nat) : Int) ∧ optK l0 fun a10 =>
 ∃ cs11 : List Value, List.length cs11 = 2 ∧ Cells w8 (Addr.add a10 (Int.toNat x9 * 2)) cs11 ∧
 ∀ w12 : World, w12 = World.alloc w8 (.cells (zc Tryd.prog 59).toArray 59) →
 Array.size (List.toArray cs11) = 2 ∧ (∀ u ∈ Array.toList (List.toArray cs11), one u = true) ∧ Room w12 ⟨World.heap w8 |>.size, 0, none⟩ 2 ∧
 ∀ w13 : World, w13 = setCells w12 ⟨World.heap w8 |>.size, 0, none⟩ (Array.toList (List.toArray cs11)) 0 →
 ∃ x14 : Int, World.cell? w13 (Addr.add ⟨World.heap w8 |>.size, 0, none⟩ 0) = some (.int .i64 x14) ∧
 ∃ x15 : Int, World.cell? w13 (Addr.add ⟨World.heap w8 |>.size, 0, none⟩ 1) = some (.int .i64 x15) ∧
 Calls Tryd.prog 28 #[(.int .i64 x14), (.int .i64 x15)] w13 fun e16 w17 => ∃ x18 : Int, e16 = .returned (.int .i64 x18) ∧
 (bif (!decide (x18 = 0)) then
 (R (.returned (.tuple #[(.slice none 0 0), (.int .i64 x18)])) w17)
 else
 (∃ x19 : Int, World.cell? w17 (Addr.add ⟨World.heap w8 |>.size, 0, none⟩ 0) = some (.int .i64 x19) ∧
 Calls Tryd.prog 31 #[(.pointer x3), (.int .u64 (IntKind.wrap .u64 x19))] w17 fun e20 w21 => e20 = .returned (.tuple #[]) ∧ ∃ x22 : Int, World.cell? w21 (Addr.add ⟨World.heap w8 |>.size, 0, none⟩ 1) = some (.int .i64 x22) ∧
 Calls Tryd.prog 31 #[(.pointer x3), (.int .u64 (IntKind.wrap .u64 x22))] w21 fun e23 w24 => e23 = .returned (.tuple #[]) ∧ ∃ m25, m25 < m7 ∧ I6 m25 (IntKind.wrap .i64 (x9 + 1)) w24)))
 else
 (Calls Tryd.prog 34 #[(.pointer x3)] w8 fun e26 w27 => ∃ (x28 : Option Addr) (x28n : Nat) (x28c : Nat), e26 = .returned (.slice x28 x28n x28c) ∧
 Calls Tryd.prog 33 #[(.int .u8 87), (.slice x28 x28n x28c)] w27 fun e29 w30 => ∃ (x31 : Option Addr) (x31n : Nat) (x31c : Nat), e29 = .returned (.slice x31 x31n x31c) ∧
 R (.returned (.tuple #[(.slice x31 x31n x31c), (.int .i64 0)])) w30)))))
theorem e15 (l0 : Option Addr) (l0n : Nat) (l0c : Nat) (w : World) (R : Ending → World → Prop) : denS Tryd.prog s15 (argsEnv 0 [(.slice l0 l0n l0c)]) w (endK r15 R) = d15 l0 l0n l0c w R := by kernel_rfl
theorem c15 (l0 : Option Addr) (l0n : Nat) (l0c : Nat) {w : World} {R : Ending → World → Prop} (h : d15 l0 l0n l0c w R) : Calls Tryd.prog 15 #[(.slice l0 l0n l0c)] w R :=
  den15 [(.slice l0 l0n l0c)] w R (by simp) ((e15 l0 l0n l0c w R).symm ▸ h)

/-- prelude/merge.load -/
def s41 : S := (.seq (.ops [⟨(some 4), (.mv (.const (.pointer none))), .ptr, none⟩,
  ⟨(some 5), (.mv (.const (.bool false))), .bool, none⟩] [0, 1])
 (.seq (.ops [⟨(some 11), (.mv (.tmp 0)), .sl, none⟩,
  ⟨(some 12), (.call 25 [(.tmp 11), (.const (.int .i64 0))] [(.int .u8), .sl, (.int .i64), (.int .i64)]), .any, none⟩,
  ⟨(some 10), (.mv (.tmp 12)), .any, none⟩,
  ⟨(some 13), (.ext 0 (.tmp 10)), (.int .u8), none⟩,
  ⟨(some 14), (.ext 1 (.tmp 10)), .sl, none⟩,
  ⟨(some 15), (.ext 2 (.tmp 10)), (.int .i64), none⟩,
  ⟨(some 16), (.ext 3 (.tmp 10)), (.int .i64), none⟩,
  ⟨(some 6), (.mv (.tmp 13)), (.int .u8), none⟩,
  ⟨(some 7), (.mv (.tmp 14)), .sl, none⟩,
  ⟨(some 8), (.mv (.tmp 15)), (.int .i64), none⟩,
  ⟨(some 9), (.mv (.tmp 16)), (.int .i64), none⟩] [9, 8, 0, 6, 1, 7])
 (.join [] [7]
 (.seq (.ops [⟨(some 17), (.mv (.tmp 9)), (.int .i64), none⟩,
  ⟨(some 18), (.bin .neq (.tmp 17) (.const (.int .i64 0))), .bool, none⟩,
  ⟨(some 19), (.mv (.tmp 18)), .bool, none⟩,
  ⟨(some 20), (.mv (.tmp 8)), (.int .i64), (some (19, false))⟩,
  ⟨(some 21), (.mv (.tmp 0)), .sl, (some (19, false))⟩,
  ⟨(some 22), (.len (.tmp 21)), (.int .i64), (some (19, false))⟩,
  ⟨(some 23), (.bin .neq (.tmp 20) (.tmp 22)), .bool, (some (19, false))⟩,
  ⟨(some 24), (.pick (.tmp 19) (.const (.bool true)) (.tmp 23)), .bool, none⟩,
  ⟨(some 25), (.mv (.tmp 24)), .bool, none⟩,
  ⟨(some 26), (.mv (.tmp 6)), (.int .u8), (some (25, false))⟩,
  ⟨(some 27), (.mv (.tmp 1)), (.int .u8), (some (25, false))⟩,
  ⟨(some 28), (.bin .neq (.tmp 26) (.tmp 27)), .bool, (some (25, false))⟩,
  ⟨(some 29), (.pick (.tmp 25) (.const (.bool true)) (.tmp 28)), .bool, none⟩] [29, 7])
 (.cond (.tmp 29)
 (.seq (.ops [⟨(some 4), (.mv (.const (.pointer none))), .ptr, none⟩,
  ⟨(some 5), (.mv (.const (.bool false))), .bool, none⟩] [4, 5])
 .ret)
 .skip))
 (.seq (.ops [⟨(some 30), (.mv (.tmp 7)), .sl, none⟩,
  ⟨(some 31), (.call 76 [(.tmp 30)] [.ptr]), .ptr, none⟩,
  ⟨(some 4), (.mv (.tmp 31)), .ptr, none⟩,
  ⟨(some 5), (.mv (.const (.bool true))), .bool, none⟩] [4, 5])
 .ret))))
def r41 : List Res := [.t 4, .t 5]
theorem tr41 : trS Tryd.prog [] 32 (Tryd.f41.body.getD .skip) s41 = some s41 := by kernel_rfl
theorem den41 (args : List Value) (w : World) (R : Ending → World → Prop) (hn : args.length ≤ 32) (h : denS Tryd.prog s41 (argsEnv 0 args) w (endK r41 R)) : Calls Tryd.prog 41 args.toArray w R :=
  calls_of_den (pn := []) (fn := Tryd.f41) (c := Tryd.f41.body.getD .skip) Tryd.func41 (by kernel_rfl) (by rw [Tryd.ntmps41]; exact hn) (by rw [Tryd.ntmps41]; exact tr41) (by kernel_rfl) h
def d41 (frame0 : Option Addr) (frame0n : Nat) (frame0c : Nat) (kind1 : Int) (w : World) (R : Ending → World → Prop) : Prop :=
 Calls Tryd.prog 25 #[(.slice frame0 frame0n frame0c), (.int .i64 0)] w fun e2 w3 => ∃ x4 : Int, ∃ (x5 : Option Addr) (x5n : Nat) (x5c : Nat), ∃ x6 : Int, ∃ x7 : Int, e2 = .returned (.tuple #[(.int .u8 x4), (.slice x5 x5n x5c), (.int .i64 x6), (.int .i64 x7)]) ∧
 ∃ x8 : Int, (#[(.int .u8 x4), (.slice x5 x5n x5c), (.int .i64 x6), (.int .i64 x7)] : Array Value)[0]? = some (.int .u8 x8) ∧
 ∃ (x9 : Option Addr) (x9n : Nat) (x9c : Nat), (#[(.int .u8 x4), (.slice x5 x5n x5c), (.int .i64 x6), (.int .i64 x7)] : Array Value)[1]? = some (.slice x9 x9n x9c) ∧
 ∃ x10 : Int, (#[(.int .u8 x4), (.slice x5 x5n x5c), (.int .i64 x6), (.int .i64 x7)] : Array Value)[2]? = some (.int .i64 x10) ∧
 ∃ x11 : Int, (#[(.int .u8 x4), (.slice x5 x5n x5c), (.int .i64 x6), (.int .i64 x7)] : Array Value)[3]? = some (.int .i64 x11) ∧
 ∃ J12 : World → Prop,
 ((bif (!decide (x11 = 0)) then
 (R (.returned (.tuple #[(.pointer none), (.bool false)])) w3)
 else
 ((bif (!decide (x10 = ((frame0n : Nat) : Int))) then
 (R (.returned (.tuple #[(.pointer none), (.bool false)])) w3)
 else
 ((bif (!decide (x8 = kind1)) then
 (R (.returned (.tuple #[(.pointer none), (.bool false)])) w3)
 else
 (J12  w3))))))) ∧
 (∀ (w13 : World), J12  w13 →
 Calls Tryd.prog 76 #[(.slice x9 x9n x9c)] w13 fun e14 w15 => ∃ x16 : Option Addr, e14 = .returned (.pointer x16) ∧
 R (.returned (.tuple #[(.pointer x16), (.bool true)])) w15)
theorem e41 (frame0 : Option Addr) (frame0n : Nat) (frame0c : Nat) (kind1 : Int) (w : World) (R : Ending → World → Prop) : denS Tryd.prog s41 (argsEnv 0 [(.slice frame0 frame0n frame0c), (.int .u8 kind1)]) w (endK r41 R) = d41 frame0 frame0n frame0c kind1 w R := by kernel_rfl
theorem c41 (frame0 : Option Addr) (frame0n : Nat) (frame0c : Nat) (kind1 : Int) {w : World} {R : Ending → World → Prop} (h : d41 frame0 frame0n frame0c kind1 w R) : Calls Tryd.prog 41 #[(.slice frame0 frame0n frame0c), (.int .u8 kind1)] w R :=
  den41 [(.slice frame0 frame0n frame0c), (.int .u8 kind1)] w R (by simp) ((e41 frame0 frame0n frame0c kind1 w R).symm ▸ h)

/-- prelude/merge.name -/
def s42 : S := (.seq (.ops [⟨(some 2), (.mv (.const (.int .i64 0))), (.int .i64), none⟩,
  ⟨(some 3), (.mv (.const (.int .i64 0))), (.int .i64), none⟩,
  ⟨(some 4), (.mv (.const (.bool false))), .bool, none⟩] [0])
 (.seq (.ops [⟨(some 7), (.mv (.tmp 0)), .ptr, none⟩,
  ⟨(some 8), (.call 49 [(.tmp 7), (.const (.int .u64 15))] [(.int .u64)]), (.int .u64), none⟩,
  ⟨(some 9), (.cv .i64 (.tmp 8)), (.int .i64), none⟩,
  ⟨(some 5), (.mv (.tmp 9)), (.int .i64), none⟩] [0, 5])
 (.seq (.ops [⟨(some 10), (.mv (.tmp 0)), .ptr, none⟩,
  ⟨(some 11), (.call 49 [(.tmp 10), (.const (.int .u64 1099511627776))] [(.int .u64)]), (.int .u64), none⟩,
  ⟨(some 12), (.cv .i64 (.tmp 11)), (.int .i64), none⟩,
  ⟨(some 6), (.mv (.tmp 12)), (.int .i64), none⟩] [5, 6, 0])
 (.seq (.ops [⟨(some 13), (.mv (.tmp 5)), (.int .i64), none⟩,
  ⟨(some 14), (.mv (.tmp 6)), (.int .i64), none⟩,
  ⟨(some 15), (.mv (.tmp 0)), .ptr, none⟩,
  ⟨(some 16), (.call 77 [(.tmp 15)] [(.int .i64)]), (.int .i64), none⟩,
  ⟨(some 17), (.bin .eql (.tmp 16) (.const (.int .i64 0))), .bool, none⟩,
  ⟨(some 18), (.mv (.tmp 17)), .bool, none⟩,
  ⟨(some 19), (.mv (.tmp 6)), (.int .i64), (some (18, true))⟩,
  ⟨(some 20), (.call 64 [(.tmp 19)] [.bool]), .bool, (some (18, true))⟩,
  ⟨(some 21), (.pick (.tmp 18) (.tmp 20) (.const (.bool false))), .bool, none⟩,
  ⟨(some 2), (.mv (.tmp 13)), (.int .i64), none⟩,
  ⟨(some 3), (.mv (.tmp 14)), (.int .i64), none⟩,
  ⟨(some 4), (.mv (.tmp 21)), .bool, none⟩] [2, 3, 4])
 .ret))))
def r42 : List Res := [.t 2, .t 3, .t 4]
theorem tr42 : trS Tryd.prog [] 22 (Tryd.f42.body.getD .skip) s42 = some s42 := by kernel_rfl
theorem den42 (args : List Value) (w : World) (R : Ending → World → Prop) (hn : args.length ≤ 22) (h : denS Tryd.prog s42 (argsEnv 0 args) w (endK r42 R)) : Calls Tryd.prog 42 args.toArray w R :=
  calls_of_den (pn := []) (fn := Tryd.f42) (c := Tryd.f42.body.getD .skip) Tryd.func42 (by kernel_rfl) (by rw [Tryd.ntmps42]; exact hn) (by rw [Tryd.ntmps42]; exact tr42) (by kernel_rfl) h
def d42 (r0 : Option Addr) (w : World) (R : Ending → World → Prop) : Prop :=
 Calls Tryd.prog 49 #[(.pointer r0), (.int .u64 15)] w fun e1 w2 => ∃ x3 : Int, e1 = .returned (.int .u64 x3) ∧
 Calls Tryd.prog 49 #[(.pointer r0), (.int .u64 1099511627776)] w2 fun e4 w5 => ∃ x6 : Int, e4 = .returned (.int .u64 x6) ∧
 Calls Tryd.prog 77 #[(.pointer r0)] w5 fun e7 w8 => ∃ x9 : Int, e7 = .returned (.int .i64 x9) ∧
 (bif (decide (x9 = 0)) then
 (Calls Tryd.prog 64 #[(.int .i64 (IntKind.wrap .i64 x6))] w8 fun e10 w11 => ∃ x12 : Bool, e10 = .returned (.bool x12) ∧
 R (.returned (.tuple #[(.int .i64 (IntKind.wrap .i64 x3)), (.int .i64 (IntKind.wrap .i64 x6)), (.bool x12)])) w11)
 else
 (R (.returned (.tuple #[(.int .i64 (IntKind.wrap .i64 x3)), (.int .i64 (IntKind.wrap .i64 x6)), (.bool false)])) w8))
theorem e42 (r0 : Option Addr) (w : World) (R : Ending → World → Prop) : denS Tryd.prog s42 (argsEnv 0 [(.pointer r0)]) w (endK r42 R) = d42 r0 w R := by kernel_rfl
theorem c42 (r0 : Option Addr) {w : World} {R : Ending → World → Prop} (h : d42 r0 w R) : Calls Tryd.prog 42 #[(.pointer r0)] w R :=
  den42 [(.pointer r0)] w R (by simp) ((e42 r0 w R).symm ▸ h)

/-- prelude/merge.named -/
def s28 : S := (.seq (.ops [⟨(some 4), (.mv (.const (.int .i64 0))), (.int .i64), none⟩] [0, 1])
 (.join [] [1]
 (.seq (.ops [⟨(some 5), (.mv (.tmp 0)), (.int .i64), none⟩,
  ⟨(some 6), (.bin .lss (.tmp 5) (.const (.int .i64 0))), .bool, none⟩,
  ⟨(some 7), (.mv (.tmp 6)), .bool, none⟩,
  ⟨(some 8), (.mv (.tmp 0)), (.int .i64), (some (7, false))⟩,
  ⟨(some 9), (.bin .geq (.tmp 8) (.const (.int .i64 16))), .bool, (some (7, false))⟩,
  ⟨(some 10), (.pick (.tmp 7) (.const (.bool true)) (.tmp 9)), .bool, none⟩] [10, 1])
 (.cond (.tmp 10)
 (.seq (.ops [⟨(some 4), (.mv (.const (.int .i64 261))), (.int .i64), none⟩] [4])
 .ret)
 .skip))
 (.seq (.seq (.ops [⟨(some 11), (.mv (.tmp 1)), (.int .i64), none⟩,
  ⟨(some 12), (.call 64 [(.tmp 11)] [.bool]), .bool, none⟩,
  ⟨(some 13), (.un .not (.tmp 12)), .bool, none⟩] [13])
 (.cond (.tmp 13)
 (.seq (.ops [⟨(some 4), (.mv (.const (.int .i64 262))), (.int .i64), none⟩] [4])
 .ret)
 .skip))
 (.seq (.ops [⟨(some 4), (.mv (.const (.int .i64 0))), (.int .i64), none⟩] [4])
 .ret))))
def r28 : List Res := [.t 4]
theorem tr28 : trS Tryd.prog [] 14 (Tryd.f28.body.getD .skip) s28 = some s28 := by kernel_rfl
theorem den28 (args : List Value) (w : World) (R : Ending → World → Prop) (hn : args.length ≤ 14) (h : denS Tryd.prog s28 (argsEnv 0 args) w (endK r28 R)) : Calls Tryd.prog 28 args.toArray w R :=
  calls_of_den (pn := []) (fn := Tryd.f28) (c := Tryd.f28.body.getD .skip) Tryd.func28 (by kernel_rfl) (by rw [Tryd.ntmps28]; exact hn) (by rw [Tryd.ntmps28]; exact tr28) (by kernel_rfl) h
def d28 (input0 : Int) (n1 : Int) (w : World) (R : Ending → World → Prop) : Prop :=
 ∃ J2 : World → Prop,
 ((bif (decide (input0 < 0)) then
 (R (.returned (.int .i64 261)) w)
 else
 ((bif (decide (16 ≤ input0)) then
 (R (.returned (.int .i64 261)) w)
 else
 (J2  w))))) ∧
 (∀ (w3 : World), J2  w3 →
 Calls Tryd.prog 64 #[(.int .i64 n1)] w3 fun e4 w5 => ∃ x6 : Bool, e4 = .returned (.bool x6) ∧
 (bif (!x6) then
 (R (.returned (.int .i64 262)) w5)
 else
 (R (.returned (.int .i64 0)) w5)))
theorem e28 (input0 : Int) (n1 : Int) (w : World) (R : Ending → World → Prop) : denS Tryd.prog s28 (argsEnv 0 [(.int .i64 input0), (.int .i64 n1)]) w (endK r28 R) = d28 input0 n1 w R := by kernel_rfl
theorem c28 (input0 : Int) (n1 : Int) {w : World} {R : Ending → World → Prop} (h : d28 input0 n1 w R) : Calls Tryd.prog 28 #[(.int .i64 input0), (.int .i64 n1)] w R :=
  den28 [(.int .i64 input0), (.int .i64 n1)] w R (by simp) ((e28 input0 n1 w R).symm ▸ h)

/-- prelude/merge.epoch -/
def s64 : S := (.seq (.ops [⟨(some 2), (.mv (.const (.bool false))), .bool, none⟩] [0])
 (.seq (.ops [⟨(some 3), (.mv (.tmp 0)), (.int .i64), none⟩,
  ⟨(some 4), (.bin .geq (.tmp 3) (.const (.int .i64 1))), .bool, none⟩,
  ⟨(some 5), (.mv (.tmp 4)), .bool, none⟩,
  ⟨(some 6), (.mv (.tmp 0)), (.int .i64), (some (5, true))⟩,
  ⟨(some 7), (.bin .leq (.tmp 6) (.const (.int .i64 1099511627776))), .bool, (some (5, true))⟩,
  ⟨(some 8), (.pick (.tmp 5) (.tmp 7) (.const (.bool false))), .bool, none⟩,
  ⟨(some 2), (.mv (.tmp 8)), .bool, none⟩] [2])
 .ret))
def r64 : List Res := [.t 2]
theorem tr64 : trS Tryd.prog [] 9 (Tryd.f64.body.getD .skip) s64 = some s64 := by kernel_rfl
theorem den64 (args : List Value) (w : World) (R : Ending → World → Prop) (hn : args.length ≤ 9) (h : denS Tryd.prog s64 (argsEnv 0 args) w (endK r64 R)) : Calls Tryd.prog 64 args.toArray w R :=
  calls_of_den (pn := []) (fn := Tryd.f64) (c := Tryd.f64.body.getD .skip) Tryd.func64 (by kernel_rfl) (by rw [Tryd.ntmps64]; exact hn) (by rw [Tryd.ntmps64]; exact tr64) (by kernel_rfl) h
def d64 (n0 : Int) (w : World) (R : Ending → World → Prop) : Prop :=
 (bif (decide (1 ≤ n0)) then
 (R (.returned (.bool (decide (n0 ≤ 1099511627776)))) w)
 else
 (R (.returned (.bool false)) w))
theorem e64 (n0 : Int) (w : World) (R : Ending → World → Prop) : denS Tryd.prog s64 (argsEnv 0 [(.int .i64 n0)]) w (endK r64 R) = d64 n0 w R := by kernel_rfl
theorem c64 (n0 : Int) {w : World} {R : Ending → World → Prop} (h : d64 n0 w R) : Calls Tryd.prog 64 #[(.int .i64 n0)] w R :=
  den64 [(.int .i64 n0)] w R (by simp) ((e64 n0 w R).symm ▸ h)

/-- prelude/merge.DecodePiece -/
def s18 : S := (.seq (.ops [⟨(some 2), (.alloc 37), .ptr, none⟩,
  ⟨(some 3), (.mv (.const (.int .i64 0))), (.int .i64), none⟩] [0, 2])
 (.seq (.ops [⟨(some 12), (.mv (.tmp 0)), .sl, none⟩,
  ⟨(some 13), (.call 41 [(.tmp 12), (.const (.int .u8 77))] [.ptr, .bool]), .any, none⟩,
  ⟨(some 11), (.mv (.tmp 13)), .any, none⟩,
  ⟨(some 14), (.ext 0 (.tmp 11)), .ptr, none⟩,
  ⟨(some 15), (.ext 1 (.tmp 11)), .bool, none⟩,
  ⟨(some 4), (.mv (.tmp 14)), .ptr, none⟩,
  ⟨(some 5), (.mv (.tmp 15)), .bool, none⟩] [5, 2, 4])
 (.seq (.seq (.ops [⟨(some 16), (.mv (.tmp 5)), .bool, none⟩,
  ⟨(some 17), (.un .not (.tmp 16)), .bool, none⟩] [17, 2, 4])
 (.cond (.tmp 17)
 (.seq (.ops [⟨(some 18), (.bld 37 (.fields [(0, 1), (1, 1), (2, 1)]) []), .agg, none⟩,
  ⟨none, (.stN 3 (.tmp 2) (.tmp 18)), .any, none⟩,
  ⟨(some 3), (.mv (.const (.int .i64 264))), (.int .i64), none⟩] [2, 3])
 .ret)
 .skip))
 (.seq (.ops [⟨(some 20), (.mv (.tmp 4)), .ptr, none⟩,
  ⟨(some 21), (.call 42 [(.tmp 20)] [(.int .i64), (.int .i64), .bool]), .any, none⟩,
  ⟨(some 19), (.mv (.tmp 21)), .any, none⟩,
  ⟨(some 22), (.ext 0 (.tmp 19)), (.int .i64), none⟩,
  ⟨(some 23), (.ext 1 (.tmp 19)), (.int .i64), none⟩,
  ⟨(some 24), (.ext 2 (.tmp 19)), .bool, none⟩,
  ⟨(some 6), (.mv (.tmp 22)), (.int .i64), none⟩,
  ⟨(some 7), (.mv (.tmp 23)), (.int .i64), none⟩,
  ⟨(some 5), (.mv (.tmp 24)), .bool, none⟩] [5, 2, 4, 6, 7])
 (.seq (.seq (.ops [⟨(some 25), (.mv (.tmp 5)), .bool, none⟩,
  ⟨(some 26), (.un .not (.tmp 25)), .bool, none⟩] [26, 2, 4, 6, 7])
 (.cond (.tmp 26)
 (.seq (.ops [⟨(some 27), (.bld 37 (.fields [(0, 1), (1, 1), (2, 1)]) []), .agg, none⟩,
  ⟨none, (.stN 3 (.tmp 2) (.tmp 27)), .any, none⟩,
  ⟨(some 3), (.mv (.const (.int .i64 264))), (.int .i64), none⟩] [2, 3])
 .ret)
 .skip))
 (.seq (.ops [⟨(some 29), (.mv (.tmp 4)), .ptr, none⟩,
  ⟨(some 30), (.mv (.tmp 4)), .ptr, none⟩,
  ⟨(some 31), (.call 45 [(.tmp 30)] [(.int .i64)]), (.int .i64), none⟩,
  ⟨(some 32), (.call 44 [(.tmp 29), (.tmp 31)] [.sl]), .sl, none⟩,
  ⟨(some 33), (.call 43 [(.tmp 32)] [.sl, (.int .i64), (.int .i64)]), .any, none⟩,
  ⟨(some 28), (.mv (.tmp 33)), .any, none⟩,
  ⟨(some 34), (.ext 0 (.tmp 28)), .sl, none⟩,
  ⟨(some 35), (.ext 1 (.tmp 28)), (.int .i64), none⟩,
  ⟨(some 36), (.ext 2 (.tmp 28)), (.int .i64), none⟩,
  ⟨(some 8), (.mv (.tmp 34)), .sl, none⟩,
  ⟨(some 9), (.mv (.tmp 35)), (.int .i64), none⟩,
  ⟨(some 10), (.mv (.tmp 36)), (.int .i64), none⟩] [10, 2, 6, 7, 8])
 (.seq (.seq (.ops [⟨(some 37), (.mv (.tmp 10)), (.int .i64), none⟩,
  ⟨(some 38), (.bin .neq (.tmp 37) (.const (.int .i64 0))), .bool, none⟩] [38, 2, 6, 7, 8])
 (.cond (.tmp 38)
 (.seq (.ops [⟨(some 39), (.bld 37 (.fields [(0, 1), (1, 1), (2, 1)]) []), .agg, none⟩,
  ⟨none, (.stN 3 (.tmp 2) (.tmp 39)), .any, none⟩,
  ⟨(some 3), (.mv (.const (.int .i64 264))), (.int .i64), none⟩] [2, 3])
 .ret)
 .skip))
 (.seq (.ops [⟨(some 40), (.mv (.tmp 6)), (.int .i64), none⟩,
  ⟨(some 41), (.mv (.tmp 7)), (.int .i64), none⟩,
  ⟨(some 42), (.mv (.tmp 8)), .sl, none⟩,
  ⟨(some 43), (.bld 37 (.fields [(0, 1), (1, 1), (2, 1)]) [(0, (.tmp 40)), (1, (.tmp 41)), (2, (.tmp 42))]), .agg, none⟩,
  ⟨none, (.stN 3 (.tmp 2) (.tmp 43)), .any, none⟩,
  ⟨(some 3), (.mv (.const (.int .i64 0))), (.int .i64), none⟩] [2, 3])
 .ret))))))))
def r18 : List Res := [.cN 2 3, .t 3]
theorem tr18 : trS Tryd.prog [] 44 (Tryd.f18.body.getD .skip) s18 = some s18 := by kernel_rfl
theorem den18 (args : List Value) (w : World) (R : Ending → World → Prop) (hn : args.length ≤ 44) (h : denS Tryd.prog s18 (argsEnv 0 args) w (endK r18 R)) : Calls Tryd.prog 18 args.toArray w R :=
  calls_of_den (pn := []) (fn := Tryd.f18) (c := Tryd.f18.body.getD .skip) Tryd.func18 (by kernel_rfl) (by rw [Tryd.ntmps18]; exact hn) (by rw [Tryd.ntmps18]; exact tr18) (by kernel_rfl) h
def d18 (frame0 : Option Addr) (frame0n : Nat) (frame0c : Nat) (w : World) (R : Ending → World → Prop) : Prop :=
 ∀ w1 : World, w1 = World.alloc w (.cells (zc Tryd.prog 37).toArray 37) →
 Calls Tryd.prog 41 #[(.slice frame0 frame0n frame0c), (.int .u8 77)] w1 fun e2 w3 => ∃ x4 : Option Addr, ∃ x5 : Bool, e2 = .returned (.tuple #[(.pointer x4), (.bool x5)]) ∧
 ∃ x6 : Option Addr, (#[(.pointer x4), (.bool x5)] : Array Value)[0]? = some (.pointer x6) ∧
 ∃ x7 : Bool, (#[(.pointer x4), (.bool x5)] : Array Value)[1]? = some (.bool x7) ∧
 (bif (!x7) then
 (∃ cs8, fillL (.fields [(0, 1), (1, 1), (2, 1)]) (zc Tryd.prog 37) [] = some cs8 ∧
 Array.size (List.toArray cs8) = 3 ∧ (∀ u ∈ Array.toList (List.toArray cs8), one u = true) ∧ Room w3 ⟨World.heap w |>.size, 0, none⟩ 3 ∧
 ∀ w9 : World, w9 = setCells w3 ⟨World.heap w |>.size, 0, none⟩ (Array.toList (List.toArray cs8)) 0 →
 ∃ cs10 : List Value, List.length cs10 = 3 ∧ Cells w9 ⟨World.heap w |>.size, 0, none⟩ cs10 ∧
 R (.returned (.tuple #[(.agg (List.toArray cs10)), (.int .i64 264)])) w9)
 else
 (Calls Tryd.prog 42 #[(.pointer x6)] w3 fun e11 w12 => ∃ x13 : Int, ∃ x14 : Int, ∃ x15 : Bool, e11 = .returned (.tuple #[(.int .i64 x13), (.int .i64 x14), (.bool x15)]) ∧
 ∃ x16 : Int, (#[(.int .i64 x13), (.int .i64 x14), (.bool x15)] : Array Value)[0]? = some (.int .i64 x16) ∧
 ∃ x17 : Int, (#[(.int .i64 x13), (.int .i64 x14), (.bool x15)] : Array Value)[1]? = some (.int .i64 x17) ∧
 ∃ x18 : Bool, (#[(.int .i64 x13), (.int .i64 x14), (.bool x15)] : Array Value)[2]? = some (.bool x18) ∧
 (bif (!x18) then
 (∃ cs19, fillL (.fields [(0, 1), (1, 1), (2, 1)]) (zc Tryd.prog 37) [] = some cs19 ∧
 Array.size (List.toArray cs19) = 3 ∧ (∀ u ∈ Array.toList (List.toArray cs19), one u = true) ∧ Room w12 ⟨World.heap w |>.size, 0, none⟩ 3 ∧
 ∀ w20 : World, w20 = setCells w12 ⟨World.heap w |>.size, 0, none⟩ (Array.toList (List.toArray cs19)) 0 →
 ∃ cs21 : List Value, List.length cs21 = 3 ∧ Cells w20 ⟨World.heap w |>.size, 0, none⟩ cs21 ∧
 R (.returned (.tuple #[(.agg (List.toArray cs21)), (.int .i64 264)])) w20)
 else
 (Calls Tryd.prog 45 #[(.pointer x6)] w12 fun e22 w23 => ∃ x24 : Int, e22 = .returned (.int .i64 x24) ∧
 Calls Tryd.prog 44 #[(.pointer x6), (.int .i64 x24)] w23 fun e25 w26 => ∃ (x27 : Option Addr) (x27n : Nat) (x27c : Nat), e25 = .returned (.slice x27 x27n x27c) ∧
 Calls Tryd.prog 43 #[(.slice x27 x27n x27c)] w26 fun e28 w29 => ∃ (x30 : Option Addr) (x30n : Nat) (x30c : Nat), ∃ x31 : Int, ∃ x32 : Int, e28 = .returned (.tuple #[(.slice x30 x30n x30c), (.int .i64 x31), (.int .i64 x32)]) ∧
 ∃ (x33 : Option Addr) (x33n : Nat) (x33c : Nat), (#[(.slice x30 x30n x30c), (.int .i64 x31), (.int .i64 x32)] : Array Value)[0]? = some (.slice x33 x33n x33c) ∧
 ∃ x34 : Int, (#[(.slice x30 x30n x30c), (.int .i64 x31), (.int .i64 x32)] : Array Value)[1]? = some (.int .i64 x34) ∧
 ∃ x35 : Int, (#[(.slice x30 x30n x30c), (.int .i64 x31), (.int .i64 x32)] : Array Value)[2]? = some (.int .i64 x35) ∧
 (bif (!decide (x35 = 0)) then
 (∃ cs36, fillL (.fields [(0, 1), (1, 1), (2, 1)]) (zc Tryd.prog 37) [] = some cs36 ∧
 Array.size (List.toArray cs36) = 3 ∧ (∀ u ∈ Array.toList (List.toArray cs36), one u = true) ∧ Room w29 ⟨World.heap w |>.size, 0, none⟩ 3 ∧
 ∀ w37 : World, w37 = setCells w29 ⟨World.heap w |>.size, 0, none⟩ (Array.toList (List.toArray cs36)) 0 →
 ∃ cs38 : List Value, List.length cs38 = 3 ∧ Cells w37 ⟨World.heap w |>.size, 0, none⟩ cs38 ∧
 R (.returned (.tuple #[(.agg (List.toArray cs38)), (.int .i64 264)])) w37)
 else
 (∃ cs39, fillL (.fields [(0, 1), (1, 1), (2, 1)]) (zc Tryd.prog 37) [(0, (.int .i64 x16)), (1, (.int .i64 x17)), (2, (.slice x33 x33n x33c))] = some cs39 ∧
 Array.size (List.toArray cs39) = 3 ∧ (∀ u ∈ Array.toList (List.toArray cs39), one u = true) ∧ Room w29 ⟨World.heap w |>.size, 0, none⟩ 3 ∧
 ∀ w40 : World, w40 = setCells w29 ⟨World.heap w |>.size, 0, none⟩ (Array.toList (List.toArray cs39)) 0 →
 ∃ cs41 : List Value, List.length cs41 = 3 ∧ Cells w40 ⟨World.heap w |>.size, 0, none⟩ cs41 ∧
 R (.returned (.tuple #[(.agg (List.toArray cs41)), (.int .i64 0)])) w40))))))
theorem e18 (frame0 : Option Addr) (frame0n : Nat) (frame0c : Nat) (w : World) (R : Ending → World → Prop) : denS Tryd.prog s18 (argsEnv 0 [(.slice frame0 frame0n frame0c)]) w (endK r18 R) = d18 frame0 frame0n frame0c w R := by kernel_rfl
theorem c18 (frame0 : Option Addr) (frame0n : Nat) (frame0c : Nat) {w : World} {R : Ending → World → Prop} (h : d18 frame0 frame0n frame0c w R) : Calls Tryd.prog 18 #[(.slice frame0 frame0n frame0c)] w R :=
  den18 [(.slice frame0 frame0n frame0c)] w R (by simp) ((e18 frame0 frame0n frame0c w R).symm ▸ h)

/-- prelude/merge.DecodeWants -/
def s20 : S := (.seq (.ops [⟨(some 2), (.mv (.const (.slice none 0 0))), .sl, none⟩,
  ⟨(some 3), (.mv (.const (.int .i64 0))), (.int .i64), none⟩] [0])
 (.seq (.ops [⟨(some 12), (.mv (.tmp 0)), .sl, none⟩,
  ⟨(some 13), (.call 41 [(.tmp 12), (.const (.int .u8 87))] [.ptr, .bool]), .any, none⟩,
  ⟨(some 11), (.mv (.tmp 13)), .any, none⟩,
  ⟨(some 14), (.ext 0 (.tmp 11)), .ptr, none⟩,
  ⟨(some 15), (.ext 1 (.tmp 11)), .bool, none⟩,
  ⟨(some 4), (.mv (.tmp 14)), .ptr, none⟩,
  ⟨(some 5), (.mv (.tmp 15)), .bool, none⟩] [5, 4])
 (.seq (.seq (.ops [⟨(some 16), (.mv (.tmp 5)), .bool, none⟩,
  ⟨(some 17), (.un .not (.tmp 16)), .bool, none⟩] [17, 4])
 (.cond (.tmp 17)
 (.seq (.ops [⟨(some 2), (.mv (.const (.slice none 0 0))), .sl, none⟩,
  ⟨(some 3), (.mv (.const (.int .i64 264))), (.int .i64), none⟩] [2, 3])
 .ret)
 .skip))
 (.seq (.ops [⟨(some 6), (.mv (.const (.slice none 0 0))), .sl, none⟩] [4, 6])
 (.seq (.seq (.ops [⟨(some 18), (.mv (.tmp 4)), .ptr, none⟩,
  ⟨(some 19), (.call 49 [(.tmp 18), (.const (.int .u64 1024))] [(.int .u64)]), (.int .u64), none⟩,
  ⟨(some 7), (.mv (.tmp 19)), (.int .u64), none⟩] [7, 4, 6])
 (.block 0
 (.loop [(6, .sl), (7, (.int .u64))] [4]
 (.seq (.seq (.ops [⟨(some 20), (.mv (.tmp 7)), (.int .u64), none⟩,
  ⟨(some 21), (.bin .gtr (.tmp 20) (.const (.int .u64 0))), .bool, none⟩] [21, 4, 6, 7])
 (.cond (.tmp 21)
 .skip
 (.exit 0)))
 (.seq (.block 1
 (.seq (.ops [⟨(some 25), (.mv (.tmp 4)), .ptr, none⟩,
  ⟨(some 26), (.call 42 [(.tmp 25)] [(.int .i64), (.int .i64), .bool]), .any, none⟩,
  ⟨(some 24), (.mv (.tmp 26)), .any, none⟩,
  ⟨(some 27), (.ext 0 (.tmp 24)), (.int .i64), none⟩,
  ⟨(some 28), (.ext 1 (.tmp 24)), (.int .i64), none⟩,
  ⟨(some 29), (.ext 2 (.tmp 24)), .bool, none⟩,
  ⟨(some 8), (.mv (.tmp 27)), (.int .i64), none⟩,
  ⟨(some 9), (.mv (.tmp 28)), (.int .i64), none⟩,
  ⟨(some 10), (.mv (.tmp 29)), .bool, none⟩] [10, 6, 8, 9, 7, 4])
 (.seq (.seq (.ops [⟨(some 30), (.mv (.tmp 10)), .bool, none⟩,
  ⟨(some 31), (.un .not (.tmp 30)), .bool, none⟩] [31, 6, 8, 9, 7, 4])
 (.cond (.tmp 31)
 (.seq (.ops [⟨(some 2), (.mv (.const (.slice none 0 0))), .sl, none⟩,
  ⟨(some 3), (.mv (.const (.int .i64 264))), (.int .i64), none⟩] [2, 3])
 .ret)
 .skip))
 (.ops [⟨(some 32), (.mv (.tmp 6)), .sl, none⟩,
  ⟨(some 33), (.mv (.tmp 8)), (.int .i64), none⟩,
  ⟨(some 34), (.mv (.tmp 9)), (.int .i64), none⟩,
  ⟨(some 35), (.bld 59 (.fields [(0, 1), (1, 1)]) [(0, (.tmp 33)), (1, (.tmp 34))]), .agg, none⟩,
  ⟨(some 36), (.bldS 59 1 2 [(0, (.tmp 35))]), .sl, none⟩,
  ⟨(some 37), (.app #[38, 38] 38 (.tmp 32) (.tmp 36)), .sl, none⟩,
  ⟨(some 6), (.mv (.tmp 37)), .sl, none⟩] [7, 4, 6]))))
 (.ops [⟨(some 22), (.mv (.tmp 7)), (.int .u64), none⟩,
  ⟨(some 23), (.bin .sub (.tmp 22) (.const (.int .u64 1))), (.int .u64), none⟩,
  ⟨(some 7), (.mv (.tmp 23)), (.int .u64), none⟩] [7, 4, 6]))))))
 (.seq (.seq (.ops [⟨(some 38), (.mv (.tmp 4)), .ptr, none⟩,
  ⟨(some 39), (.call 50 [(.tmp 38)] [(.int .i64)]), (.int .i64), none⟩,
  ⟨(some 40), (.bin .neq (.tmp 39) (.const (.int .i64 0))), .bool, none⟩] [40, 6])
 (.cond (.tmp 40)
 (.seq (.ops [⟨(some 2), (.mv (.const (.slice none 0 0))), .sl, none⟩,
  ⟨(some 3), (.mv (.const (.int .i64 264))), (.int .i64), none⟩] [2, 3])
 .ret)
 .skip))
 (.seq (.ops [⟨(some 41), (.mv (.tmp 6)), .sl, none⟩,
  ⟨(some 2), (.mv (.tmp 41)), .sl, none⟩,
  ⟨(some 3), (.mv (.const (.int .i64 0))), (.int .i64), none⟩] [2, 3])
 .ret)))))))
def r20 : List Res := [.t 2, .t 3]
theorem tr20 : trS Tryd.prog [] 42 (Tryd.f20.body.getD .skip) s20 = some s20 := by kernel_rfl
theorem den20 (args : List Value) (w : World) (R : Ending → World → Prop) (hn : args.length ≤ 42) (h : denS Tryd.prog s20 (argsEnv 0 args) w (endK r20 R)) : Calls Tryd.prog 20 args.toArray w R :=
  calls_of_den (pn := []) (fn := Tryd.f20) (c := Tryd.f20.body.getD .skip) Tryd.func20 (by kernel_rfl) (by rw [Tryd.ntmps20]; exact hn) (by rw [Tryd.ntmps20]; exact tr20) (by kernel_rfl) h
def d20 (frame0 : Option Addr) (frame0n : Nat) (frame0c : Nat) (w : World) (R : Ending → World → Prop) : Prop :=
 Calls Tryd.prog 41 #[(.slice frame0 frame0n frame0c), (.int .u8 87)] w fun e1 w2 => ∃ x3 : Option Addr, ∃ x4 : Bool, e1 = .returned (.tuple #[(.pointer x3), (.bool x4)]) ∧
 ∃ x5 : Option Addr, (#[(.pointer x3), (.bool x4)] : Array Value)[0]? = some (.pointer x5) ∧
 ∃ x6 : Bool, (#[(.pointer x3), (.bool x4)] : Array Value)[1]? = some (.bool x6) ∧
 (bif (!x6) then
 (R (.returned (.tuple #[(.slice none 0 0), (.int .i64 264)])) w2)
 else
 (Calls Tryd.prog 49 #[(.pointer x5), (.int .u64 1024)] w2 fun e7 w8 => ∃ x9 : Int, e7 = .returned (.int .u64 x9) ∧
 ∃ I10 : Nat → Option Addr → Nat → Nat → Int → World → Prop,
 (∃ m, I10 m none 0 0 x9 w8) ∧
 (∀ (m11 : Nat) (w12 : World) (l13 : Option Addr) (l13n : Nat) (l13c : Nat) (n14 : Int), I10 m11 l13 l13n l13c n14 w12 →
 (bif (decide (0 < n14)) then
 (Calls Tryd.prog 42 #[(.pointer x5)] w12 fun e15 w16 => ∃ x17 : Int, ∃ x18 : Int, ∃ x19 : Bool, e15 = .returned (.tuple #[(.int .i64 x17), (.int .i64 x18), (.bool x19)]) ∧
 ∃ x20 : Int, (#[(.int .i64 x17), (.int .i64 x18), (.bool x19)] : Array Value)[0]? = some (.int .i64 x20) ∧
 ∃ x21 : Int, (#[(.int .i64 x17), (.int .i64 x18), (.bool x19)] : Array Value)[1]? = some (.int .i64 x21) ∧
 ∃ x22 : Bool, (#[(.int .i64 x17), (.int .i64 x18), (.bool x19)] : Array Value)[2]? = some (.bool x22) ∧
 (bif (!x22) then
 (R (.returned (.tuple #[(.slice none 0 0), (.int .i64 264)])) w16)
 else
 (∃ cs23, fillL (.fields [(0, 1), (1, 1)]) (zc Tryd.prog 59) [(0, (.int .i64 x20)), (1, (.int .i64 x21))] = some cs23 ∧
 ∃ cs24, fillL (.elems 2) (zrep (zc Tryd.prog 59) (1 * 2)) [(0, (.agg (List.toArray cs23)))] = some cs24 ∧
 ∀ w25 : World, w25 = World.alloc w16 (.cells (List.toArray cs24) 59) →
 RunV Tryd.prog (Builtin.append_ #[38, 38] 38 #[(.slice l13 l13n l13c), (.slice (some ⟨World.heap w16 |>.size, 0, none⟩) 1 1)]) w25 fun v26 w27 => ∃ (x28 : Option Addr) (x28n : Nat) (x28c : Nat), v26 = (.slice x28 x28n x28c) ∧
 ∃ m29, m29 < m11 ∧ I10 m29 x28 x28n x28c (IntKind.wrap .u64 (n14 - 1)) w27)))
 else
 (Calls Tryd.prog 50 #[(.pointer x5)] w12 fun e30 w31 => ∃ x32 : Int, e30 = .returned (.int .i64 x32) ∧
 (bif (!decide (x32 = 0)) then
 (R (.returned (.tuple #[(.slice none 0 0), (.int .i64 264)])) w31)
 else
 (R (.returned (.tuple #[(.slice l13 l13n l13c), (.int .i64 0)])) w31)))))))
theorem e20 (frame0 : Option Addr) (frame0n : Nat) (frame0c : Nat) (w : World) (R : Ending → World → Prop) : denS Tryd.prog s20 (argsEnv 0 [(.slice frame0 frame0n frame0c)]) w (endK r20 R) = d20 frame0 frame0n frame0c w R := by kernel_rfl
theorem c20 (frame0 : Option Addr) (frame0n : Nat) (frame0c : Nat) {w : World} {R : Ending → World → Prop} (h : d20 frame0 frame0n frame0c w R) : Calls Tryd.prog 20 #[(.slice frame0 frame0n frame0c)] w R :=
  den20 [(.slice frame0 frame0n frame0c)] w R (by simp) ((e20 frame0 frame0n frame0c w R).symm ▸ h)

/-- prelude/preluderef25.EncodePiece -/
def s14 : S := (.seq (.ops [⟨(some 1), (.box 37 (.tmp 0)), .ptr, none⟩,
  ⟨(some 2), (.mv (.const (.slice none 0 0))), .sl, none⟩,
  ⟨(some 3), (.mv (.const (.int .i64 0))), (.int .i64), none⟩] [1])
 (.seq (.ops [⟨(some 6), (.fa 0 (.tmp 1)), .ptr, none⟩,
  ⟨(some 7), (.ld1 (.tmp 6)), (.int .i64), none⟩,
  ⟨(some 8), (.fa 1 (.tmp 1)), .ptr, none⟩,
  ⟨(some 9), (.ld1 (.tmp 8)), (.int .i64), none⟩,
  ⟨(some 10), (.call 36 [(.tmp 7), (.tmp 9)] [(.int .i64)]), (.int .i64), none⟩,
  ⟨(some 4), (.mv (.tmp 10)), (.int .i64), none⟩] [4, 1])
 (.seq (.seq (.ops [⟨(some 11), (.mv (.tmp 4)), (.int .i64), none⟩,
  ⟨(some 12), (.bin .neq (.tmp 11) (.const (.int .i64 0))), .bool, none⟩] [12, 4, 1])
 (.cond (.tmp 12)
 (.seq (.ops [⟨(some 13), (.mv (.tmp 4)), (.int .i64), none⟩,
  ⟨(some 2), (.mv (.const (.slice none 0 0))), .sl, none⟩,
  ⟨(some 3), (.mv (.tmp 13)), (.int .i64), none⟩] [2, 3])
 .ret)
 .skip))
 (.seq (.ops [⟨(some 15), (.fa 2 (.tmp 1)), .ptr, none⟩,
  ⟨(some 16), (.ld1 (.tmp 15)), .sl, none⟩,
  ⟨(some 17), (.call 37 [(.tmp 16)] [.sl, (.int .i64)]), .any, none⟩,
  ⟨(some 14), (.mv (.tmp 17)), .any, none⟩,
  ⟨(some 18), (.ext 0 (.tmp 14)), .sl, none⟩,
  ⟨(some 19), (.ext 1 (.tmp 14)), (.int .i64), none⟩,
  ⟨(some 5), (.mv (.tmp 18)), .sl, none⟩,
  ⟨(some 4), (.mv (.tmp 19)), (.int .i64), none⟩] [4, 1, 5])
 (.seq (.seq (.ops [⟨(some 20), (.mv (.tmp 4)), (.int .i64), none⟩,
  ⟨(some 21), (.bin .neq (.tmp 20) (.const (.int .i64 0))), .bool, none⟩] [21, 4, 1, 5])
 (.cond (.tmp 21)
 (.seq (.ops [⟨(some 22), (.mv (.tmp 4)), (.int .i64), none⟩,
  ⟨(some 2), (.mv (.const (.slice none 0 0))), .sl, none⟩,
  ⟨(some 3), (.mv (.tmp 22)), (.int .i64), none⟩] [2, 3])
 .ret)
 .skip))
 (.seq (.ops [⟨(some 23), (.fa 0 (.tmp 1)), .ptr, none⟩,
  ⟨(some 24), (.ld1 (.tmp 23)), (.int .i64), none⟩,
  ⟨(some 25), (.fa 1 (.tmp 1)), .ptr, none⟩,
  ⟨(some 26), (.ld1 (.tmp 25)), (.int .i64), none⟩,
  ⟨(some 27), (.call 39 [(.tmp 24), (.tmp 26)] [.sl]), .sl, none⟩,
  ⟨(some 28), (.mv (.tmp 5)), .sl, none⟩,
  ⟨(some 29), (.app #[22, 22] 22 (.tmp 27) (.tmp 28)), .sl, none⟩,
  ⟨(some 30), (.call 38 [(.const (.int .u8 77)), (.tmp 29)] [.sl]), .sl, none⟩,
  ⟨(some 2), (.mv (.tmp 30)), .sl, none⟩,
  ⟨(some 3), (.mv (.const (.int .i64 0))), (.int .i64), none⟩] [2, 3])
 .ret))))))
def r14 : List Res := [.t 2, .t 3]
theorem tr14 : trS Tryd.prog [] 31 (Tryd.f14.body.getD .skip) s14 = some s14 := by kernel_rfl
theorem den14 (args : List Value) (w : World) (R : Ending → World → Prop) (hn : args.length ≤ 31) (h : denS Tryd.prog s14 (argsEnv 0 args) w (endK r14 R)) : Calls Tryd.prog 14 args.toArray w R :=
  calls_of_den (pn := []) (fn := Tryd.f14) (c := Tryd.f14.body.getD .skip) Tryd.func14 (by kernel_rfl) (by rw [Tryd.ntmps14]; exact hn) (by rw [Tryd.ntmps14]; exact tr14) (by kernel_rfl) h
def d14 (p0 : Array Value) (w : World) (R : Ending → World → Prop) : Prop :=
 ∀ w1 : World, w1 = World.alloc w (.cells p0 37) →
 ∃ x2 : Int, World.cell? w1 (Addr.add ⟨World.heap w |>.size, 0, none⟩ 0) = some (.int .i64 x2) ∧
 ∃ x3 : Int, World.cell? w1 (Addr.add ⟨World.heap w |>.size, 0, none⟩ 1) = some (.int .i64 x3) ∧
 Calls Tryd.prog 36 #[(.int .i64 x2), (.int .i64 x3)] w1 fun e4 w5 => ∃ x6 : Int, e4 = .returned (.int .i64 x6) ∧
 (bif (!decide (x6 = 0)) then
 (R (.returned (.tuple #[(.slice none 0 0), (.int .i64 x6)])) w5)
 else
 (∃ (x7 : Option Addr) (x7n : Nat) (x7c : Nat), World.cell? w5 (Addr.add ⟨World.heap w |>.size, 0, none⟩ 2) = some (.slice x7 x7n x7c) ∧
 Calls Tryd.prog 37 #[(.slice x7 x7n x7c)] w5 fun e8 w9 => ∃ (x10 : Option Addr) (x10n : Nat) (x10c : Nat), ∃ x11 : Int, e8 = .returned (.tuple #[(.slice x10 x10n x10c), (.int .i64 x11)]) ∧
 ∃ (x12 : Option Addr) (x12n : Nat) (x12c : Nat), (#[(.slice x10 x10n x10c), (.int .i64 x11)] : Array Value)[0]? = some (.slice x12 x12n x12c) ∧
 ∃ x13 : Int, (#[(.slice x10 x10n x10c), (.int .i64 x11)] : Array Value)[1]? = some (.int .i64 x13) ∧
 (bif (!decide (x13 = 0)) then
 (R (.returned (.tuple #[(.slice none 0 0), (.int .i64 x13)])) w9)
 else
 (∃ x14 : Int, World.cell? w9 (Addr.add ⟨World.heap w |>.size, 0, none⟩ 0) = some (.int .i64 x14) ∧
 ∃ x15 : Int, World.cell? w9 (Addr.add ⟨World.heap w |>.size, 0, none⟩ 1) = some (.int .i64 x15) ∧
 Calls Tryd.prog 39 #[(.int .i64 x14), (.int .i64 x15)] w9 fun e16 w17 => ∃ (x18 : Option Addr) (x18n : Nat) (x18c : Nat), e16 = .returned (.slice x18 x18n x18c) ∧
 RunV Tryd.prog (Builtin.append_ #[22, 22] 22 #[(.slice x18 x18n x18c), (.slice x12 x12n x12c)]) w17 fun v19 w20 => ∃ (x21 : Option Addr) (x21n : Nat) (x21c : Nat), v19 = (.slice x21 x21n x21c) ∧
 Calls Tryd.prog 38 #[(.int .u8 77), (.slice x21 x21n x21c)] w20 fun e22 w23 => ∃ (x24 : Option Addr) (x24n : Nat) (x24c : Nat), e22 = .returned (.slice x24 x24n x24c) ∧
 R (.returned (.tuple #[(.slice x24 x24n x24c), (.int .i64 0)])) w23))))
theorem e14 (p0 : Array Value) (w : World) (R : Ending → World → Prop) : denS Tryd.prog s14 (argsEnv 0 [(.agg p0)]) w (endK r14 R) = d14 p0 w R := by kernel_rfl
theorem c14 (p0 : Array Value) {w : World} {R : Ending → World → Prop} (h : d14 p0 w R) : Calls Tryd.prog 14 #[(.agg p0)] w R :=
  den14 [(.agg p0)] w R (by simp) ((e14 p0 w R).symm ▸ h)

/-- prelude/preluderef25.EncodeWants -/
def s16 : S := (.seq (.ops [⟨(some 2), (.mv (.const (.slice none 0 0))), .sl, none⟩,
  ⟨(some 3), (.mv (.const (.int .i64 0))), (.int .i64), none⟩] [0])
 (.seq (.seq (.ops [⟨(some 7), (.mv (.tmp 0)), .sl, none⟩,
  ⟨(some 8), (.len (.tmp 7)), (.int .i64), none⟩,
  ⟨(some 9), (.bin .gtr (.tmp 8) (.const (.int .i64 1024))), .bool, none⟩] [9, 0])
 (.cond (.tmp 9)
 (.seq (.ops [⟨(some 2), (.mv (.const (.slice none 0 0))), .sl, none⟩,
  ⟨(some 3), (.mv (.const (.int .i64 264))), (.int .i64), none⟩] [2, 3])
 .ret)
 .skip))
 (.seq (.ops [⟨(some 10), (.mv (.tmp 0)), .sl, none⟩,
  ⟨(some 11), (.len (.tmp 10)), (.int .i64), none⟩,
  ⟨(some 12), (.cv .u64 (.tmp 11)), (.int .u64), none⟩,
  ⟨(some 13), (.call 40 [(.tmp 12)] [.sl]), .sl, none⟩,
  ⟨(some 4), (.mv (.tmp 13)), .sl, none⟩] [0, 4])
 (.seq (.seq (.ops [⟨(some 5), (.mv (.const (.int .i64 0))), (.int .i64), none⟩] [5, 0, 4])
 (.block 0
 (.loop [(4, .sl), (5, (.int .i64))] [0]
 (.seq (.seq (.ops [⟨(some 14), (.mv (.tmp 5)), (.int .i64), none⟩,
  ⟨(some 15), (.mv (.tmp 0)), .sl, none⟩,
  ⟨(some 16), (.len (.tmp 15)), (.int .i64), none⟩,
  ⟨(some 17), (.bin .lss (.tmp 14) (.tmp 16)), .bool, none⟩] [17, 0, 5, 4])
 (.cond (.tmp 17)
 .skip
 (.exit 0)))
 (.seq (.block 1
 (.seq (.draw (.take 0 ⟨(some 20), (.mv (.tmp 0)), .sl, none⟩
  (.take 1 ⟨(some 21), (.mv (.tmp 5)), (.int .i64), none⟩
  (.take 2 ⟨(some 22), (.ia 2 (.tmp 20) (.tmp 21)), .ptr, none⟩
  (.take 3 ⟨(some 23), (.fa 0 (.tmp 22)), .ptr, none⟩
  (.take 4 ⟨(some 24), (.ld1 (.tmp 23)), (.int .i64), none⟩
  (.take 5 ⟨(some 25), (.mv (.tmp 0)), .sl, none⟩
  (.take 6 ⟨(some 26), (.mv (.tmp 5)), (.int .i64), none⟩
  (.take 7 ⟨(some 27), (.ia 2 (.tmp 25) (.tmp 26)), .ptr, none⟩
  (.take 8 ⟨(some 28), (.fa 1 (.tmp 27)), .ptr, none⟩
  (.take 9 ⟨(some 29), (.ld1 (.tmp 28)), (.int .i64), none⟩
  (.go 10 ⟨(some 30), (.call 36 [(.tmp 24), (.tmp 29)] [(.int .i64)]), (.int .i64), none⟩ []
  (.take 11 ⟨(some 6), (.mv (.tmp 30)), (.int .i64), none⟩
  .done)))))))))))) [6, 4, 0, 5])
 (.seq (.seq (.ops [⟨(some 31), (.mv (.tmp 6)), (.int .i64), none⟩,
  ⟨(some 32), (.bin .neq (.tmp 31) (.const (.int .i64 0))), .bool, none⟩] [32, 6, 4, 0, 5])
 (.cond (.tmp 32)
 (.seq (.ops [⟨(some 33), (.mv (.tmp 6)), (.int .i64), none⟩,
  ⟨(some 2), (.mv (.const (.slice none 0 0))), .sl, none⟩,
  ⟨(some 3), (.mv (.tmp 33)), (.int .i64), none⟩] [2, 3])
 .ret)
 .skip))
 (.draw (.take 0 ⟨(some 34), (.mv (.tmp 4)), .sl, none⟩
  (.take 1 ⟨(some 35), (.mv (.tmp 0)), .sl, none⟩
  (.take 2 ⟨(some 36), (.mv (.tmp 5)), (.int .i64), none⟩
  (.take 3 ⟨(some 37), (.ia 2 (.tmp 35) (.tmp 36)), .ptr, none⟩
  (.take 4 ⟨(some 38), (.fa 0 (.tmp 37)), .ptr, none⟩
  (.take 5 ⟨(some 39), (.ld1 (.tmp 38)), (.int .i64), none⟩
  (.take 6 ⟨(some 40), (.mv (.tmp 0)), .sl, none⟩
  (.take 7 ⟨(some 41), (.mv (.tmp 5)), (.int .i64), none⟩
  (.take 8 ⟨(some 42), (.ia 2 (.tmp 40) (.tmp 41)), .ptr, none⟩
  (.take 9 ⟨(some 43), (.fa 1 (.tmp 42)), .ptr, none⟩
  (.take 10 ⟨(some 44), (.ld1 (.tmp 43)), (.int .i64), none⟩
  (.go 11 ⟨(some 45), (.call 39 [(.tmp 39), (.tmp 44)] [.sl]), .sl, none⟩ []
  (.go 12 ⟨(some 46), (.app #[22, 22] 22 (.tmp 34) (.tmp 45)), .sl, none⟩ []
  (.take 13 ⟨(some 4), (.mv (.tmp 46)), .sl, none⟩
  .done)))))))))))))) [5, 0, 4]))))
 (.ops [⟨(some 18), (.mv (.tmp 5)), (.int .i64), none⟩,
  ⟨(some 19), (.bin .add (.tmp 18) (.const (.int .i64 1))), (.int .i64), none⟩,
  ⟨(some 5), (.mv (.tmp 19)), (.int .i64), none⟩] [5, 0, 4]))))))
 (.seq (.ops [⟨(some 47), (.mv (.tmp 4)), .sl, none⟩,
  ⟨(some 48), (.call 38 [(.const (.int .u8 87)), (.tmp 47)] [.sl]), .sl, none⟩,
  ⟨(some 2), (.mv (.tmp 48)), .sl, none⟩,
  ⟨(some 3), (.mv (.const (.int .i64 0))), (.int .i64), none⟩] [2, 3])
 .ret)))))
def r16 : List Res := [.t 2, .t 3]
theorem tr16 : trS Tryd.prog [] 49 (Tryd.f16.body.getD .skip) s16 = some s16 := by kernel_rfl
theorem den16 (args : List Value) (w : World) (R : Ending → World → Prop) (hn : args.length ≤ 49) (h : denS Tryd.prog s16 (argsEnv 0 args) w (endK r16 R)) : Calls Tryd.prog 16 args.toArray w R :=
  calls_of_den (pn := []) (fn := Tryd.f16) (c := Tryd.f16.body.getD .skip) Tryd.func16 (by kernel_rfl) (by rw [Tryd.ntmps16]; exact hn) (by rw [Tryd.ntmps16]; exact tr16) (by kernel_rfl) h
def d16 (l0 : Option Addr) (l0n : Nat) (l0c : Nat) (w : World) (R : Ending → World → Prop) : Prop :=
 (bif (decide (1024 < ((l0n : Nat) : Int))) then
 (R (.returned (.tuple #[(.slice none 0 0), (.int .i64 264)])) w)
 else
 (Calls Tryd.prog 40 #[(.int .u64 (IntKind.wrap .u64 ((l0n : Nat) : Int)))] w fun e1 w2 => ∃ (x3 : Option Addr) (x3n : Nat) (x3c : Nat), e1 = .returned (.slice x3 x3n x3c) ∧
 ∃ I4 : Nat → Option Addr → Nat → Nat → Int → World → Prop,
 (∃ m, I4 m x3 x3n x3c 0 w2) ∧
 (∀ (m5 : Nat) (w6 : World) (b7 : Option Addr) (b7n : Nat) (b7c : Nat) (i8 : Int), I4 m5 b7 b7n b7c i8 w6 →
 (bif (decide (i8 < ((l0n : Nat) : Int))) then
 (∀ w9 : World, w9 = World.drew w6 →
 0 ≤ i8 ∧ i8 < ((l0n : Nat) : Int) ∧ optK l0 fun a10 =>
 ∃ x11 : Int, World.cell? w9 (Addr.add (Addr.add a10 (Int.toNat i8 * 2)) 0) = some (.int .i64 x11) ∧
 0 ≤ i8 ∧ i8 < ((l0n : Nat) : Int) ∧ optK l0 fun a12 =>
 ∃ x13 : Int, World.cell? w9 (Addr.add (Addr.add a12 (Int.toNat i8 * 2)) 1) = some (.int .i64 x13) ∧
 Calls Tryd.prog 36 #[(.int .i64 x11), (.int .i64 x13)] w9 fun e14 w15 => ∃ x16 : Int, e14 = .returned (.int .i64 x16) ∧
 (bif (!decide (x16 = 0)) then
 (R (.returned (.tuple #[(.slice none 0 0), (.int .i64 x16)])) w15)
 else
 (∀ w17 : World, w17 = World.drew w15 →
 0 ≤ i8 ∧ i8 < ((l0n : Nat) : Int) ∧ optK l0 fun a18 =>
 ∃ x19 : Int, World.cell? w17 (Addr.add (Addr.add a18 (Int.toNat i8 * 2)) 0) = some (.int .i64 x19) ∧
 0 ≤ i8 ∧ i8 < ((l0n : Nat) : Int) ∧ optK l0 fun a20 =>
 ∃ x21 : Int, World.cell? w17 (Addr.add (Addr.add a20 (Int.toNat i8 * 2)) 1) = some (.int .i64 x21) ∧
 Calls Tryd.prog 39 #[(.int .i64 x19), (.int .i64 x21)] w17 fun e22 w23 => ∃ (x24 : Option Addr) (x24n : Nat) (x24c : Nat), e22 = .returned (.slice x24 x24n x24c) ∧
 RunV Tryd.prog (Builtin.append_ #[22, 22] 22 #[(.slice b7 b7n b7c), (.slice x24 x24n x24c)]) w23 fun v25 w26 => ∃ (x27 : Option Addr) (x27n : Nat) (x27c : Nat), v25 = (.slice x27 x27n x27c) ∧
 ∃ m28, m28 < m5 ∧ I4 m28 x27 x27n x27c (IntKind.wrap .i64 (i8 + 1)) w26)))
 else
 (Calls Tryd.prog 38 #[(.int .u8 87), (.slice b7 b7n b7c)] w6 fun e29 w30 => ∃ (x31 : Option Addr) (x31n : Nat) (x31c : Nat), e29 = .returned (.slice x31 x31n x31c) ∧
 R (.returned (.tuple #[(.slice x31 x31n x31c), (.int .i64 0)])) w30)))))
theorem e16 (l0 : Option Addr) (l0n : Nat) (l0c : Nat) (w : World) (R : Ending → World → Prop) : denS Tryd.prog s16 (argsEnv 0 [(.slice l0 l0n l0c)]) w (endK r16 R) = d16 l0 l0n l0c w R := by kernel_rfl
theorem c16 (l0 : Option Addr) (l0n : Nat) (l0c : Nat) {w : World} {R : Ending → World → Prop} (h : d16 l0 l0n l0c w R) : Calls Tryd.prog 16 #[(.slice l0 l0n l0c)] w R :=
  den16 [(.slice l0 l0n l0c)] w R (by simp) ((e16 l0 l0n l0c w R).symm ▸ h)

/-- prelude/preluderef25.opened -/
def s46 : S := (.seq (.ops [⟨(some 4), (.mv (.const (.slice none 0 0))), .sl, none⟩,
  ⟨(some 5), (.mv (.const (.bool false))), .bool, none⟩] [0, 1])
 (.seq (.ops [⟨(some 11), (.mv (.tmp 0)), .sl, none⟩,
  ⟨(some 12), (.call 26 [(.tmp 11), (.const (.int .i64 0))] [(.int .u8), .sl, (.int .i64), (.int .i64)]), .any, none⟩,
  ⟨(some 10), (.mv (.tmp 12)), .any, none⟩,
  ⟨(some 13), (.ext 0 (.tmp 10)), (.int .u8), none⟩,
  ⟨(some 14), (.ext 1 (.tmp 10)), .sl, none⟩,
  ⟨(some 15), (.ext 2 (.tmp 10)), (.int .i64), none⟩,
  ⟨(some 16), (.ext 3 (.tmp 10)), (.int .i64), none⟩,
  ⟨(some 6), (.mv (.tmp 13)), (.int .u8), none⟩,
  ⟨(some 7), (.mv (.tmp 14)), .sl, none⟩,
  ⟨(some 8), (.mv (.tmp 15)), (.int .i64), none⟩,
  ⟨(some 9), (.mv (.tmp 16)), (.int .i64), none⟩] [7, 9, 6, 1, 8, 0])
 (.seq (.ops [⟨(some 17), (.mv (.tmp 7)), .sl, none⟩,
  ⟨(some 18), (.mv (.tmp 9)), (.int .i64), none⟩,
  ⟨(some 19), (.bin .eql (.tmp 18) (.const (.int .i64 0))), .bool, none⟩,
  ⟨(some 20), (.mv (.tmp 19)), .bool, none⟩,
  ⟨(some 21), (.mv (.tmp 6)), (.int .u8), (some (20, true))⟩,
  ⟨(some 22), (.mv (.tmp 1)), (.int .u8), (some (20, true))⟩,
  ⟨(some 23), (.bin .eql (.tmp 21) (.tmp 22)), .bool, (some (20, true))⟩,
  ⟨(some 24), (.pick (.tmp 20) (.tmp 23) (.const (.bool false))), .bool, none⟩,
  ⟨(some 25), (.mv (.tmp 24)), .bool, none⟩,
  ⟨(some 26), (.mv (.tmp 8)), (.int .i64), (some (25, true))⟩,
  ⟨(some 27), (.mv (.tmp 0)), .sl, (some (25, true))⟩,
  ⟨(some 28), (.len (.tmp 27)), (.int .i64), (some (25, true))⟩,
  ⟨(some 29), (.bin .eql (.tmp 26) (.tmp 28)), .bool, (some (25, true))⟩,
  ⟨(some 30), (.pick (.tmp 25) (.tmp 29) (.const (.bool false))), .bool, none⟩,
  ⟨(some 4), (.mv (.tmp 17)), .sl, none⟩,
  ⟨(some 5), (.mv (.tmp 30)), .bool, none⟩] [4, 5])
 .ret)))
def r46 : List Res := [.t 4, .t 5]
theorem tr46 : trS Tryd.prog [] 31 (Tryd.f46.body.getD .skip) s46 = some s46 := by kernel_rfl
theorem den46 (args : List Value) (w : World) (R : Ending → World → Prop) (hn : args.length ≤ 31) (h : denS Tryd.prog s46 (argsEnv 0 args) w (endK r46 R)) : Calls Tryd.prog 46 args.toArray w R :=
  calls_of_den (pn := []) (fn := Tryd.f46) (c := Tryd.f46.body.getD .skip) Tryd.func46 (by kernel_rfl) (by rw [Tryd.ntmps46]; exact hn) (by rw [Tryd.ntmps46]; exact tr46) (by kernel_rfl) h
def d46 (frame0 : Option Addr) (frame0n : Nat) (frame0c : Nat) (kind1 : Int) (w : World) (R : Ending → World → Prop) : Prop :=
 Calls Tryd.prog 26 #[(.slice frame0 frame0n frame0c), (.int .i64 0)] w fun e2 w3 => ∃ x4 : Int, ∃ (x5 : Option Addr) (x5n : Nat) (x5c : Nat), ∃ x6 : Int, ∃ x7 : Int, e2 = .returned (.tuple #[(.int .u8 x4), (.slice x5 x5n x5c), (.int .i64 x6), (.int .i64 x7)]) ∧
 ∃ x8 : Int, (#[(.int .u8 x4), (.slice x5 x5n x5c), (.int .i64 x6), (.int .i64 x7)] : Array Value)[0]? = some (.int .u8 x8) ∧
 ∃ (x9 : Option Addr) (x9n : Nat) (x9c : Nat), (#[(.int .u8 x4), (.slice x5 x5n x5c), (.int .i64 x6), (.int .i64 x7)] : Array Value)[1]? = some (.slice x9 x9n x9c) ∧
 ∃ x10 : Int, (#[(.int .u8 x4), (.slice x5 x5n x5c), (.int .i64 x6), (.int .i64 x7)] : Array Value)[2]? = some (.int .i64 x10) ∧
 ∃ x11 : Int, (#[(.int .u8 x4), (.slice x5 x5n x5c), (.int .i64 x6), (.int .i64 x7)] : Array Value)[3]? = some (.int .i64 x11) ∧
 (bif (decide (x11 = 0)) then
 ((bif (decide (x8 = kind1)) then
 (R (.returned (.tuple #[(.slice x9 x9n x9c), (.bool (decide (x10 = ((frame0n : Nat) : Int))))])) w3)
 else
 (R (.returned (.tuple #[(.slice x9 x9n x9c), (.bool false)])) w3)))
 else
 (R (.returned (.tuple #[(.slice x9 x9n x9c), (.bool false)])) w3))
theorem e46 (frame0 : Option Addr) (frame0n : Nat) (frame0c : Nat) (kind1 : Int) (w : World) (R : Ending → World → Prop) : denS Tryd.prog s46 (argsEnv 0 [(.slice frame0 frame0n frame0c), (.int .u8 kind1)]) w (endK r46 R) = d46 frame0 frame0n frame0c kind1 w R := by kernel_rfl
theorem c46 (frame0 : Option Addr) (frame0n : Nat) (frame0c : Nat) (kind1 : Int) {w : World} {R : Ending → World → Prop} (h : d46 frame0 frame0n frame0c kind1 w R) : Calls Tryd.prog 46 #[(.slice frame0 frame0n frame0c), (.int .u8 kind1)] w R :=
  den46 [(.slice frame0 frame0n frame0c), (.int .u8 kind1)] w R (by simp) ((e46 frame0 frame0n frame0c kind1 w R).symm ▸ h)

/-- prelude/preluderef25.want -/
def s47 : S := (.seq (.ops [⟨(some 2), (.alloc 59), .ptr, none⟩] [0, 2])
 (.seq (.ops [⟨(some 4), (.mv (.tmp 0)), .ptr, none⟩,
  ⟨(some 5), (.call 51 [(.tmp 4), (.const (.int .u64 15))] [(.int .u64)]), (.int .u64), none⟩,
  ⟨(some 6), (.cv .i64 (.tmp 5)), (.int .i64), none⟩,
  ⟨(some 7), (.bld 59 (.fields [(0, 1), (1, 1)]) [(0, (.tmp 6))]), .agg, none⟩,
  ⟨(some 3), (.alloc 59), .ptr, none⟩,
  ⟨none, (.stN 2 (.tmp 3) (.tmp 7)), .any, none⟩] [0, 3, 2])
 (.seq (.ops [⟨(some 8), (.mv (.tmp 0)), .ptr, none⟩,
  ⟨(some 9), (.call 51 [(.tmp 8), (.const (.int .u64 1099511627776))] [(.int .u64)]), (.int .u64), none⟩,
  ⟨(some 10), (.cv .i64 (.tmp 9)), (.int .i64), none⟩,
  ⟨(some 11), (.fa 1 (.tmp 3)), .ptr, none⟩,
  ⟨none, (.st1 (.tmp 11) (.tmp 10)), .any, none⟩] [3, 0, 2])
 (.seq (.seq (.ops [⟨(some 12), (.fa 1 (.tmp 3)), .ptr, none⟩,
  ⟨(some 13), (.ld1 (.tmp 12)), (.int .i64), none⟩,
  ⟨(some 14), (.bin .lss (.tmp 13) (.const (.int .i64 1))), .bool, none⟩] [14, 0, 3, 2])
 (.cond (.tmp 14)
 (.ops [⟨(some 15), (.mv (.tmp 0)), .ptr, none⟩,
  ⟨(some 16), (.call 82 [(.tmp 15), (.const (.int .i64 264))] []), .any, none⟩] [3, 2])
 .skip))
 (.seq (.ops [⟨(some 17), (.ldN 2 (.tmp 3)), .agg, none⟩,
  ⟨none, (.stN 2 (.tmp 2) (.tmp 17)), .any, none⟩] [2])
 .ret)))))
def r47 : List Res := [.cN 2 2]
theorem tr47 : trS Tryd.prog [] 18 (Tryd.f47.body.getD .skip) s47 = some s47 := by kernel_rfl
theorem den47 (args : List Value) (w : World) (R : Ending → World → Prop) (hn : args.length ≤ 18) (h : denS Tryd.prog s47 (argsEnv 0 args) w (endK r47 R)) : Calls Tryd.prog 47 args.toArray w R :=
  calls_of_den (pn := []) (fn := Tryd.f47) (c := Tryd.f47.body.getD .skip) Tryd.func47 (by kernel_rfl) (by rw [Tryd.ntmps47]; exact hn) (by rw [Tryd.ntmps47]; exact tr47) (by kernel_rfl) h
def d47 (r0 : Option Addr) (w : World) (R : Ending → World → Prop) : Prop :=
 ∀ w1 : World, w1 = World.alloc w (.cells (zc Tryd.prog 59).toArray 59) →
 Calls Tryd.prog 51 #[(.pointer r0), (.int .u64 15)] w1 fun e2 w3 => ∃ x4 : Int, e2 = .returned (.int .u64 x4) ∧
 ∃ cs5, fillL (.fields [(0, 1), (1, 1)]) (zc Tryd.prog 59) [(0, (.int .i64 (IntKind.wrap .i64 x4)))] = some cs5 ∧
 ∀ w6 : World, w6 = World.alloc w3 (.cells (zc Tryd.prog 59).toArray 59) →
 Array.size (List.toArray cs5) = 2 ∧ (∀ u ∈ Array.toList (List.toArray cs5), one u = true) ∧ Room w6 ⟨World.heap w3 |>.size, 0, none⟩ 2 ∧
 ∀ w7 : World, w7 = setCells w6 ⟨World.heap w3 |>.size, 0, none⟩ (Array.toList (List.toArray cs5)) 0 →
 Calls Tryd.prog 51 #[(.pointer r0), (.int .u64 1099511627776)] w7 fun e8 w9 => ∃ x10 : Int, e8 = .returned (.int .u64 x10) ∧
 one (.int .i64 (IntKind.wrap .i64 x10)) = true ∧ Option.isSome (World.cell? w9 (Addr.add ⟨World.heap w3 |>.size, 0, none⟩ 1)) = true ∧ World.frozen? w9 (Addr.add ⟨World.heap w3 |>.size, 0, none⟩ 1) = false ∧
 ∀ w11 : World, w11 = World.setCell w9 (Addr.add ⟨World.heap w3 |>.size, 0, none⟩ 1) (.int .i64 (IntKind.wrap .i64 x10)) →
 ∃ x12 : Int, World.cell? w11 (Addr.add ⟨World.heap w3 |>.size, 0, none⟩ 1) = some (.int .i64 x12) ∧
 (bif (decide (x12 < 1)) then
 (Calls Tryd.prog 82 #[(.pointer r0), (.int .i64 264)] w11 fun e13 w14 => e13 = .returned (.tuple #[]) ∧ ∃ cs15 : List Value, List.length cs15 = 2 ∧ Cells w14 ⟨World.heap w3 |>.size, 0, none⟩ cs15 ∧
 Array.size (List.toArray cs15) = 2 ∧ (∀ u ∈ Array.toList (List.toArray cs15), one u = true) ∧ Room w14 ⟨World.heap w |>.size, 0, none⟩ 2 ∧
 ∀ w16 : World, w16 = setCells w14 ⟨World.heap w |>.size, 0, none⟩ (Array.toList (List.toArray cs15)) 0 →
 ∃ cs17 : List Value, List.length cs17 = 2 ∧ Cells w16 ⟨World.heap w |>.size, 0, none⟩ cs17 ∧
 R (.returned (.agg (List.toArray cs17))) w16)
 else
 (∃ cs18 : List Value, List.length cs18 = 2 ∧ Cells w11 ⟨World.heap w3 |>.size, 0, none⟩ cs18 ∧
 Array.size (List.toArray cs18) = 2 ∧ (∀ u ∈ Array.toList (List.toArray cs18), one u = true) ∧ Room w11 ⟨World.heap w |>.size, 0, none⟩ 2 ∧
 ∀ w19 : World, w19 = setCells w11 ⟨World.heap w |>.size, 0, none⟩ (Array.toList (List.toArray cs18)) 0 →
 ∃ cs20 : List Value, List.length cs20 = 2 ∧ Cells w19 ⟨World.heap w |>.size, 0, none⟩ cs20 ∧
 R (.returned (.agg (List.toArray cs20))) w19))
theorem e47 (r0 : Option Addr) (w : World) (R : Ending → World → Prop) : denS Tryd.prog s47 (argsEnv 0 [(.pointer r0)]) w (endK r47 R) = d47 r0 w R := by kernel_rfl
theorem c47 (r0 : Option Addr) {w : World} {R : Ending → World → Prop} (h : d47 r0 w R) : Calls Tryd.prog 47 #[(.pointer r0)] w R :=
  den47 [(.pointer r0)] w R (by simp) ((e47 r0 w R).symm ▸ h)

/-- prelude/preluderef25.DecodePiece -/
def s19 : S := (.seq (.ops [⟨(some 2), (.alloc 37), .ptr, none⟩,
  ⟨(some 3), (.mv (.const (.int .i64 0))), (.int .i64), none⟩] [0, 2])
 (.seq (.ops [⟨(some 12), (.mv (.tmp 0)), .sl, none⟩,
  ⟨(some 13), (.call 46 [(.tmp 12), (.const (.int .u8 77))] [.sl, .bool]), .any, none⟩,
  ⟨(some 11), (.mv (.tmp 13)), .any, none⟩,
  ⟨(some 14), (.ext 0 (.tmp 11)), .sl, none⟩,
  ⟨(some 15), (.ext 1 (.tmp 11)), .bool, none⟩,
  ⟨(some 4), (.mv (.tmp 14)), .sl, none⟩,
  ⟨(some 5), (.mv (.tmp 15)), .bool, none⟩] [5, 2, 4])
 (.seq (.seq (.ops [⟨(some 16), (.mv (.tmp 5)), .bool, none⟩,
  ⟨(some 17), (.un .not (.tmp 16)), .bool, none⟩] [17, 2, 4])
 (.cond (.tmp 17)
 (.seq (.ops [⟨(some 18), (.bld 37 (.fields [(0, 1), (1, 1), (2, 1)]) []), .agg, none⟩,
  ⟨none, (.stN 3 (.tmp 2) (.tmp 18)), .any, none⟩,
  ⟨(some 3), (.mv (.const (.int .i64 264))), (.int .i64), none⟩] [2, 3])
 .ret)
 .skip))
 (.seq (.ops [⟨(some 19), (.mv (.tmp 4)), .sl, none⟩,
  ⟨(some 20), (.bld 104 (.fields [(0, 1), (1, 1), (2, 1)]) [(0, (.tmp 19))]), .agg, none⟩,
  ⟨(some 21), (.box 104 (.tmp 20)), .ptr, none⟩,
  ⟨(some 6), (.mv (.tmp 21)), .ptr, none⟩] [6, 2, 4])
 (.seq (.ops [⟨(some 22), (.mv (.tmp 6)), .ptr, none⟩,
  ⟨(some 23), (.call 47 [(.tmp 22)] [.agg]), .agg, none⟩,
  ⟨(some 7), (.alloc 59), .ptr, none⟩,
  ⟨none, (.stN 2 (.tmp 7) (.tmp 23)), .any, none⟩] [6, 2, 4, 7])
 (.seq (.seq (.ops [⟨(some 24), (.mv (.tmp 6)), .ptr, none⟩,
  ⟨(some 25), (.nc (.tmp 24)), .any, none⟩,
  ⟨(some 26), (.fa 2 (.tmp 25)), .ptr, none⟩,
  ⟨(some 27), (.ld1 (.tmp 26)), (.int .i64), none⟩,
  ⟨(some 28), (.bin .neq (.tmp 27) (.const (.int .i64 0))), .bool, none⟩] [28, 2, 4, 6, 7])
 (.cond (.tmp 28)
 (.seq (.ops [⟨(some 29), (.bld 37 (.fields [(0, 1), (1, 1), (2, 1)]) []), .agg, none⟩,
  ⟨none, (.stN 3 (.tmp 2) (.tmp 29)), .any, none⟩,
  ⟨(some 3), (.mv (.const (.int .i64 264))), (.int .i64), none⟩] [2, 3])
 .ret)
 .skip))
 (.seq (.ops [⟨(some 31), (.mv (.tmp 4)), .sl, none⟩,
  ⟨(some 32), (.mv (.tmp 6)), .ptr, none⟩,
  ⟨(some 33), (.nc (.tmp 32)), .any, none⟩,
  ⟨(some 34), (.fa 1 (.tmp 33)), .ptr, none⟩,
  ⟨(some 35), (.ld1 (.tmp 34)), (.int .i64), none⟩,
  ⟨(some 36), (.slS 1 (.tmp 31) (some (.tmp 35)) none none), .sl, none⟩,
  ⟨(some 37), (.call 48 [(.tmp 36)] [.sl, (.int .i64), (.int .i64)]), .any, none⟩,
  ⟨(some 30), (.mv (.tmp 37)), .any, none⟩,
  ⟨(some 38), (.ext 0 (.tmp 30)), .sl, none⟩,
  ⟨(some 39), (.ext 1 (.tmp 30)), (.int .i64), none⟩,
  ⟨(some 40), (.ext 2 (.tmp 30)), (.int .i64), none⟩,
  ⟨(some 8), (.mv (.tmp 38)), .sl, none⟩,
  ⟨(some 9), (.mv (.tmp 39)), (.int .i64), none⟩,
  ⟨(some 10), (.mv (.tmp 40)), (.int .i64), none⟩] [10, 2, 7, 8])
 (.seq (.seq (.ops [⟨(some 41), (.mv (.tmp 10)), (.int .i64), none⟩,
  ⟨(some 42), (.bin .neq (.tmp 41) (.const (.int .i64 0))), .bool, none⟩] [42, 2, 7, 8])
 (.cond (.tmp 42)
 (.seq (.ops [⟨(some 43), (.bld 37 (.fields [(0, 1), (1, 1), (2, 1)]) []), .agg, none⟩,
  ⟨none, (.stN 3 (.tmp 2) (.tmp 43)), .any, none⟩,
  ⟨(some 3), (.mv (.const (.int .i64 264))), (.int .i64), none⟩] [2, 3])
 .ret)
 .skip))
 (.seq (.ops [⟨(some 44), (.fa 0 (.tmp 7)), .ptr, none⟩,
  ⟨(some 45), (.ld1 (.tmp 44)), (.int .i64), none⟩,
  ⟨(some 46), (.fa 1 (.tmp 7)), .ptr, none⟩,
  ⟨(some 47), (.ld1 (.tmp 46)), (.int .i64), none⟩,
  ⟨(some 48), (.mv (.tmp 8)), .sl, none⟩,
  ⟨(some 49), (.bld 37 (.fields [(0, 1), (1, 1), (2, 1)]) [(0, (.tmp 45)), (1, (.tmp 47)), (2, (.tmp 48))]), .agg, none⟩,
  ⟨none, (.stN 3 (.tmp 2) (.tmp 49)), .any, none⟩,
  ⟨(some 3), (.mv (.const (.int .i64 0))), (.int .i64), none⟩] [2, 3])
 .ret)))))))))
def r19 : List Res := [.cN 2 3, .t 3]
theorem tr19 : trS Tryd.prog [] 50 (Tryd.f19.body.getD .skip) s19 = some s19 := by kernel_rfl
theorem den19 (args : List Value) (w : World) (R : Ending → World → Prop) (hn : args.length ≤ 50) (h : denS Tryd.prog s19 (argsEnv 0 args) w (endK r19 R)) : Calls Tryd.prog 19 args.toArray w R :=
  calls_of_den (pn := []) (fn := Tryd.f19) (c := Tryd.f19.body.getD .skip) Tryd.func19 (by kernel_rfl) (by rw [Tryd.ntmps19]; exact hn) (by rw [Tryd.ntmps19]; exact tr19) (by kernel_rfl) h
def d19 (frame0 : Option Addr) (frame0n : Nat) (frame0c : Nat) (w : World) (R : Ending → World → Prop) : Prop :=
 ∀ w1 : World, w1 = World.alloc w (.cells (zc Tryd.prog 37).toArray 37) →
 Calls Tryd.prog 46 #[(.slice frame0 frame0n frame0c), (.int .u8 77)] w1 fun e2 w3 => ∃ (x4 : Option Addr) (x4n : Nat) (x4c : Nat), ∃ x5 : Bool, e2 = .returned (.tuple #[(.slice x4 x4n x4c), (.bool x5)]) ∧
 ∃ (x6 : Option Addr) (x6n : Nat) (x6c : Nat), (#[(.slice x4 x4n x4c), (.bool x5)] : Array Value)[0]? = some (.slice x6 x6n x6c) ∧
 ∃ x7 : Bool, (#[(.slice x4 x4n x4c), (.bool x5)] : Array Value)[1]? = some (.bool x7) ∧
 (bif (!x7) then
 (∃ cs8, fillL (.fields [(0, 1), (1, 1), (2, 1)]) (zc Tryd.prog 37) [] = some cs8 ∧
 Array.size (List.toArray cs8) = 3 ∧ (∀ u ∈ Array.toList (List.toArray cs8), one u = true) ∧ Room w3 ⟨World.heap w |>.size, 0, none⟩ 3 ∧
 ∀ w9 : World, w9 = setCells w3 ⟨World.heap w |>.size, 0, none⟩ (Array.toList (List.toArray cs8)) 0 →
 ∃ cs10 : List Value, List.length cs10 = 3 ∧ Cells w9 ⟨World.heap w |>.size, 0, none⟩ cs10 ∧
 R (.returned (.tuple #[(.agg (List.toArray cs10)), (.int .i64 264)])) w9)
 else
 (∃ cs11, fillL (.fields [(0, 1), (1, 1), (2, 1)]) (zc Tryd.prog 104) [(0, (.slice x6 x6n x6c))] = some cs11 ∧
 ∀ w12 : World, w12 = World.alloc w3 (.cells (List.toArray cs11) 104) →
 Calls Tryd.prog 47 #[(.pointer (some ⟨World.heap w3 |>.size, 0, none⟩))] w12 fun e13 w14 => ∃ x15 : Array Value, e13 = .returned (.agg x15) ∧
 ∀ w16 : World, w16 = World.alloc w14 (.cells (zc Tryd.prog 59).toArray 59) →
 Array.size x15 = 2 ∧ (∀ u ∈ Array.toList x15, one u = true) ∧ Room w16 ⟨World.heap w14 |>.size, 0, none⟩ 2 ∧
 ∀ w17 : World, w17 = setCells w16 ⟨World.heap w14 |>.size, 0, none⟩ (Array.toList x15) 0 →
 ∃ x18 : Int, World.cell? w17 (Addr.add ⟨World.heap w3 |>.size, 0, none⟩ 2) = some (.int .i64 x18) ∧
 (bif (!decide (x18 = 0)) then
 (∃ cs19, fillL (.fields [(0, 1), (1, 1), (2, 1)]) (zc Tryd.prog 37) [] = some cs19 ∧
 Array.size (List.toArray cs19) = 3 ∧ (∀ u ∈ Array.toList (List.toArray cs19), one u = true) ∧ Room w17 ⟨World.heap w |>.size, 0, none⟩ 3 ∧
 ∀ w20 : World, w20 = setCells w17 ⟨World.heap w |>.size, 0, none⟩ (Array.toList (List.toArray cs19)) 0 →
 ∃ cs21 : List Value, List.length cs21 = 3 ∧ Cells w20 ⟨World.heap w |>.size, 0, none⟩ cs21 ∧
 R (.returned (.tuple #[(.agg (List.toArray cs21)), (.int .i64 264)])) w20)
 else
 (∃ x22 : Int, World.cell? w17 (Addr.add ⟨World.heap w3 |>.size, 0, none⟩ 1) = some (.int .i64 x22) ∧
 0 ≤ x22 ∧ x22 ≤ ((x6n : Nat) : Int) ∧ Calls Tryd.prog 48 #[(.slice (if x6c = (Int.toNat x22) then x6 else Option.map (fun y => Addr.add y ((Int.toNat x22) * 1)) x6) (x6n - (Int.toNat x22)) (x6c - (Int.toNat x22)))] w17 fun e23 w24 => ∃ (x25 : Option Addr) (x25n : Nat) (x25c : Nat), ∃ x26 : Int, ∃ x27 : Int, e23 = .returned (.tuple #[(.slice x25 x25n x25c), (.int .i64 x26), (.int .i64 x27)]) ∧
 ∃ (x28 : Option Addr) (x28n : Nat) (x28c : Nat), (#[(.slice x25 x25n x25c), (.int .i64 x26), (.int .i64 x27)] : Array Value)[0]? = some (.slice x28 x28n x28c) ∧
 ∃ x29 : Int, (#[(.slice x25 x25n x25c), (.int .i64 x26), (.int .i64 x27)] : Array Value)[1]? = some (.int .i64 x29) ∧
 ∃ x30 : Int, (#[(.slice x25 x25n x25c), (.int .i64 x26), (.int .i64 x27)] : Array Value)[2]? = some (.int .i64 x30) ∧
 (bif (!decide (x30 = 0)) then
 (∃ cs31, fillL (.fields [(0, 1), (1, 1), (2, 1)]) (zc Tryd.prog 37) [] = some cs31 ∧
 Array.size (List.toArray cs31) = 3 ∧ (∀ u ∈ Array.toList (List.toArray cs31), one u = true) ∧ Room w24 ⟨World.heap w |>.size, 0, none⟩ 3 ∧
 ∀ w32 : World, w32 = setCells w24 ⟨World.heap w |>.size, 0, none⟩ (Array.toList (List.toArray cs31)) 0 →
 ∃ cs33 : List Value, List.length cs33 = 3 ∧ Cells w32 ⟨World.heap w |>.size, 0, none⟩ cs33 ∧
 R (.returned (.tuple #[(.agg (List.toArray cs33)), (.int .i64 264)])) w32)
 else
 (∃ x34 : Int, World.cell? w24 (Addr.add ⟨World.heap w14 |>.size, 0, none⟩ 0) = some (.int .i64 x34) ∧
 ∃ x35 : Int, World.cell? w24 (Addr.add ⟨World.heap w14 |>.size, 0, none⟩ 1) = some (.int .i64 x35) ∧
 ∃ cs36, fillL (.fields [(0, 1), (1, 1), (2, 1)]) (zc Tryd.prog 37) [(0, (.int .i64 x34)), (1, (.int .i64 x35)), (2, (.slice x28 x28n x28c))] = some cs36 ∧
 Array.size (List.toArray cs36) = 3 ∧ (∀ u ∈ Array.toList (List.toArray cs36), one u = true) ∧ Room w24 ⟨World.heap w |>.size, 0, none⟩ 3 ∧
 ∀ w37 : World, w37 = setCells w24 ⟨World.heap w |>.size, 0, none⟩ (Array.toList (List.toArray cs36)) 0 →
 ∃ cs38 : List Value, List.length cs38 = 3 ∧ Cells w37 ⟨World.heap w |>.size, 0, none⟩ cs38 ∧
 R (.returned (.tuple #[(.agg (List.toArray cs38)), (.int .i64 0)])) w37))))))
theorem e19 (frame0 : Option Addr) (frame0n : Nat) (frame0c : Nat) (w : World) (R : Ending → World → Prop) : denS Tryd.prog s19 (argsEnv 0 [(.slice frame0 frame0n frame0c)]) w (endK r19 R) = d19 frame0 frame0n frame0c w R := by kernel_rfl
theorem c19 (frame0 : Option Addr) (frame0n : Nat) (frame0c : Nat) {w : World} {R : Ending → World → Prop} (h : d19 frame0 frame0n frame0c w R) : Calls Tryd.prog 19 #[(.slice frame0 frame0n frame0c)] w R :=
  den19 [(.slice frame0 frame0n frame0c)] w R (by simp) ((e19 frame0 frame0n frame0c w R).symm ▸ h)

/-- prelude/preluderef25.DecodeWants -/
def s21 : S := (.seq (.ops [⟨(some 2), (.mv (.const (.slice none 0 0))), .sl, none⟩,
  ⟨(some 3), (.mv (.const (.int .i64 0))), (.int .i64), none⟩] [0])
 (.seq (.ops [⟨(some 12), (.mv (.tmp 0)), .sl, none⟩,
  ⟨(some 13), (.call 46 [(.tmp 12), (.const (.int .u8 87))] [.sl, .bool]), .any, none⟩,
  ⟨(some 11), (.mv (.tmp 13)), .any, none⟩,
  ⟨(some 14), (.ext 0 (.tmp 11)), .sl, none⟩,
  ⟨(some 15), (.ext 1 (.tmp 11)), .bool, none⟩,
  ⟨(some 4), (.mv (.tmp 14)), .sl, none⟩,
  ⟨(some 5), (.mv (.tmp 15)), .bool, none⟩] [5, 4])
 (.seq (.seq (.ops [⟨(some 16), (.mv (.tmp 5)), .bool, none⟩,
  ⟨(some 17), (.un .not (.tmp 16)), .bool, none⟩] [17, 4])
 (.cond (.tmp 17)
 (.seq (.ops [⟨(some 2), (.mv (.const (.slice none 0 0))), .sl, none⟩,
  ⟨(some 3), (.mv (.const (.int .i64 264))), (.int .i64), none⟩] [2, 3])
 .ret)
 .skip))
 (.seq (.ops [⟨(some 18), (.mv (.tmp 4)), .sl, none⟩,
  ⟨(some 19), (.bld 104 (.fields [(0, 1), (1, 1), (2, 1)]) [(0, (.tmp 18))]), .agg, none⟩,
  ⟨(some 20), (.box 104 (.tmp 19)), .ptr, none⟩,
  ⟨(some 6), (.mv (.tmp 20)), .ptr, none⟩] [6])
 (.seq (.ops [⟨(some 21), (.mv (.tmp 6)), .ptr, none⟩,
  ⟨(some 22), (.call 51 [(.tmp 21), (.const (.int .u64 1024))] [(.int .u64)]), (.int .u64), none⟩,
  ⟨(some 23), (.cv .i64 (.tmp 22)), (.int .i64), none⟩,
  ⟨(some 7), (.mv (.tmp 23)), (.int .i64), none⟩] [7, 6])
 (.seq (.ops [⟨(some 8), (.mv (.const (.slice none 0 0))), .sl, none⟩] [7, 6, 8])
 (.join [(8, .sl)] [6]
 (.seq (.ops [⟨(some 9), (.mv (.const (.int .i64 0))), (.int .i64), none⟩] [9, 7, 6, 8])
 (.block 0
 (.loop [(8, .sl), (9, (.int .i64))] [6, 7]
 (.join [] [6, 7, 8, 9]
 (.seq (.ops [⟨(some 24), (.mv (.tmp 9)), (.int .i64), none⟩,
  ⟨(some 25), (.mv (.tmp 7)), (.int .i64), none⟩,
  ⟨(some 26), (.bin .lss (.tmp 24) (.tmp 25)), .bool, none⟩,
  ⟨(some 27), (.mv (.tmp 26)), .bool, none⟩,
  ⟨(some 28), (.mv (.tmp 6)), .ptr, (some (27, true))⟩,
  ⟨(some 29), (.nc (.tmp 28)), .any, (some (27, true))⟩,
  ⟨(some 30), (.fa 2 (.tmp 29)), .ptr, (some (27, true))⟩,
  ⟨(some 31), (.ld1 (.tmp 30)), (.int .i64), (some (27, true))⟩,
  ⟨(some 32), (.bin .eql (.tmp 31) (.const (.int .i64 0))), .bool, (some (27, true))⟩,
  ⟨(some 33), (.pick (.tmp 27) (.tmp 32) (.const (.bool false))), .bool, none⟩] [33, 6, 8, 9, 7])
 (.cond (.tmp 33)
 .skip
 (.exit 0)))
 (.seq (.block 1
 (.seq (.ops [⟨(some 36), (.mv (.tmp 6)), .ptr, none⟩,
  ⟨(some 37), (.call 47 [(.tmp 36)] [.agg]), .agg, none⟩,
  ⟨(some 10), (.alloc 59), .ptr, none⟩,
  ⟨none, (.stN 2 (.tmp 10) (.tmp 37)), .any, none⟩] [8, 10, 9, 7, 6])
 (.ops [⟨(some 38), (.mv (.tmp 8)), .sl, none⟩,
  ⟨(some 39), (.ldN 2 (.tmp 10)), .agg, none⟩,
  ⟨(some 40), (.bldS 59 1 2 [(0, (.tmp 39))]), .sl, none⟩,
  ⟨(some 41), (.app #[38, 38] 38 (.tmp 38) (.tmp 40)), .sl, none⟩,
  ⟨(some 8), (.mv (.tmp 41)), .sl, none⟩] [9, 7, 6, 8])))
 (.ops [⟨(some 34), (.mv (.tmp 9)), (.int .i64), none⟩,
  ⟨(some 35), (.bin .add (.tmp 34) (.const (.int .i64 1))), (.int .i64), none⟩,
  ⟨(some 9), (.mv (.tmp 35)), (.int .i64), none⟩] [9, 7, 6, 8]))))))
 (.seq (.seq (.ops [⟨(some 42), (.mv (.tmp 6)), .ptr, none⟩,
  ⟨(some 43), (.call 52 [(.tmp 42)] [(.int .i64)]), (.int .i64), none⟩,
  ⟨(some 44), (.bin .neq (.tmp 43) (.const (.int .i64 0))), .bool, none⟩] [44, 8])
 (.cond (.tmp 44)
 (.seq (.ops [⟨(some 2), (.mv (.const (.slice none 0 0))), .sl, none⟩,
  ⟨(some 3), (.mv (.const (.int .i64 264))), (.int .i64), none⟩] [2, 3])
 .ret)
 .skip))
 (.seq (.ops [⟨(some 45), (.mv (.tmp 8)), .sl, none⟩,
  ⟨(some 2), (.mv (.tmp 45)), .sl, none⟩,
  ⟨(some 3), (.mv (.const (.int .i64 0))), (.int .i64), none⟩] [2, 3])
 .ret)))))))))
def r21 : List Res := [.t 2, .t 3]
theorem tr21 : trS Tryd.prog [] 46 (Tryd.f21.body.getD .skip) s21 = some s21 := by kernel_rfl
theorem den21 (args : List Value) (w : World) (R : Ending → World → Prop) (hn : args.length ≤ 46) (h : denS Tryd.prog s21 (argsEnv 0 args) w (endK r21 R)) : Calls Tryd.prog 21 args.toArray w R :=
  calls_of_den (pn := []) (fn := Tryd.f21) (c := Tryd.f21.body.getD .skip) Tryd.func21 (by kernel_rfl) (by rw [Tryd.ntmps21]; exact hn) (by rw [Tryd.ntmps21]; exact tr21) (by kernel_rfl) h
def d21 (frame0 : Option Addr) (frame0n : Nat) (frame0c : Nat) (w : World) (R : Ending → World → Prop) : Prop :=
 Calls Tryd.prog 46 #[(.slice frame0 frame0n frame0c), (.int .u8 87)] w fun e1 w2 => ∃ (x3 : Option Addr) (x3n : Nat) (x3c : Nat), ∃ x4 : Bool, e1 = .returned (.tuple #[(.slice x3 x3n x3c), (.bool x4)]) ∧
 ∃ (x5 : Option Addr) (x5n : Nat) (x5c : Nat), (#[(.slice x3 x3n x3c), (.bool x4)] : Array Value)[0]? = some (.slice x5 x5n x5c) ∧
 ∃ x6 : Bool, (#[(.slice x3 x3n x3c), (.bool x4)] : Array Value)[1]? = some (.bool x6) ∧
 (bif (!x6) then
 (R (.returned (.tuple #[(.slice none 0 0), (.int .i64 264)])) w2)
 else
 (∃ cs7, fillL (.fields [(0, 1), (1, 1), (2, 1)]) (zc Tryd.prog 104) [(0, (.slice x5 x5n x5c))] = some cs7 ∧
 ∀ w8 : World, w8 = World.alloc w2 (.cells (List.toArray cs7) 104) →
 Calls Tryd.prog 51 #[(.pointer (some ⟨World.heap w2 |>.size, 0, none⟩)), (.int .u64 1024)] w8 fun e9 w10 => ∃ x11 : Int, e9 = .returned (.int .u64 x11) ∧
 ∃ J12 : Option Addr → Nat → Nat → World → Prop,
 (∃ I13 : Nat → Option Addr → Nat → Nat → Int → World → Prop,
 (∃ m, I13 m none 0 0 0 w10) ∧
 (∀ (m14 : Nat) (w15 : World) (l16 : Option Addr) (l16n : Nat) (l16c : Nat) (i17 : Int), I13 m14 l16 l16n l16c i17 w15 →
 ∃ J18 : World → Prop,
 ((bif (decide (i17 < (IntKind.wrap .i64 x11))) then
 (∃ x19 : Int, World.cell? w15 (Addr.add ⟨World.heap w2 |>.size, 0, none⟩ 2) = some (.int .i64 x19) ∧
 (bif (decide (x19 = 0)) then
 (J18  w15)
 else
 (J12 l16 l16n l16c w15)))
 else
 (J12 l16 l16n l16c w15))) ∧
 (∀ (w20 : World), J18  w20 →
 Calls Tryd.prog 47 #[(.pointer (some ⟨World.heap w2 |>.size, 0, none⟩))] w20 fun e21 w22 => ∃ x23 : Array Value, e21 = .returned (.agg x23) ∧
 ∀ w24 : World, w24 = World.alloc w22 (.cells (zc Tryd.prog 59).toArray 59) →
 Array.size x23 = 2 ∧ (∀ u ∈ Array.toList x23, one u = true) ∧ Room w24 ⟨World.heap w22 |>.size, 0, none⟩ 2 ∧
 ∀ w25 : World, w25 = setCells w24 ⟨World.heap w22 |>.size, 0, none⟩ (Array.toList x23) 0 →
 ∃ cs26 : List Value, List.length cs26 = 2 ∧ Cells w25 ⟨World.heap w22 |>.size, 0, none⟩ cs26 ∧
 ∃ cs27, fillL (.elems 2) (zrep (zc Tryd.prog 59) (1 * 2)) [(0, (.agg (List.toArray cs26)))] = some cs27 ∧
 ∀ w28 : World, w28 = World.alloc w25 (.cells (List.toArray cs27) 59) →
 RunV Tryd.prog (Builtin.append_ #[38, 38] 38 #[(.slice l16 l16n l16c), (.slice (some ⟨World.heap w25 |>.size, 0, none⟩) 1 1)]) w28 fun v29 w30 => ∃ (x31 : Option Addr) (x31n : Nat) (x31c : Nat), v29 = (.slice x31 x31n x31c) ∧
 ∃ m32, m32 < m14 ∧ I13 m32 x31 x31n x31c (IntKind.wrap .i64 (i17 + 1)) w30))) ∧
 (∀ (w33 : World) (l34 : Option Addr) (l34n : Nat) (l34c : Nat), J12 l34 l34n l34c w33 →
 Calls Tryd.prog 52 #[(.pointer (some ⟨World.heap w2 |>.size, 0, none⟩))] w33 fun e35 w36 => ∃ x37 : Int, e35 = .returned (.int .i64 x37) ∧
 (bif (!decide (x37 = 0)) then
 (R (.returned (.tuple #[(.slice none 0 0), (.int .i64 264)])) w36)
 else
 (R (.returned (.tuple #[(.slice l34 l34n l34c), (.int .i64 0)])) w36)))))
theorem e21 (frame0 : Option Addr) (frame0n : Nat) (frame0c : Nat) (w : World) (R : Ending → World → Prop) : denS Tryd.prog s21 (argsEnv 0 [(.slice frame0 frame0n frame0c)]) w (endK r21 R) = d21 frame0 frame0n frame0c w R := by kernel_rfl
theorem c21 (frame0 : Option Addr) (frame0n : Nat) (frame0c : Nat) {w : World} {R : Ending → World → Prop} (h : d21 frame0 frame0n frame0c w R) : Calls Tryd.prog 21 #[(.slice frame0 frame0n frame0c)] w R :=
  den21 [(.slice frame0 frame0n frame0c)] w R (by simp) ((e21 frame0 frame0n frame0c w R).symm ▸ h)

/-- prelude/preluderef25.Copy -/
def s35 : S := (.seq (.ops [⟨(some 2), (.mv (.const (.slice none 0 0))), .sl, none⟩] [0])
 (.seq (.ops [⟨(some 3), (.mv (.const (.slice none 0 0))), .sl, none⟩] [0, 3])
 (.seq (.seq (.ops [⟨(some 4), (.mv (.const (.int .i64 0))), (.int .i64), none⟩] [4, 0, 3])
 (.block 0
 (.loop [(3, .sl), (4, (.int .i64))] [0]
 (.seq (.seq (.ops [⟨(some 6), (.mv (.tmp 4)), (.int .i64), none⟩,
  ⟨(some 7), (.mv (.tmp 0)), .sl, none⟩,
  ⟨(some 8), (.len (.tmp 7)), (.int .i64), none⟩,
  ⟨(some 9), (.bin .lss (.tmp 6) (.tmp 8)), .bool, none⟩] [9, 0, 4, 3])
 (.cond (.tmp 9)
 .skip
 (.exit 0)))
 (.seq (.block 1
 (.seq (.ops [⟨(some 12), (.mv (.tmp 0)), .sl, none⟩,
  ⟨(some 13), (.mv (.tmp 4)), (.int .i64), none⟩,
  ⟨(some 14), (.ia 4 (.tmp 12) (.tmp 13)), .ptr, none⟩,
  ⟨(some 15), (.fa 0 (.tmp 14)), .ptr, none⟩,
  ⟨(some 16), (.ld1 (.tmp 15)), (.int .i64), none⟩,
  ⟨(some 17), (.bld 76 (.fields [(0, 1), (1, 1), (2, 1), (3, 1)]) [(0, (.tmp 16))]), .agg, none⟩,
  ⟨(some 5), (.alloc 76), .ptr, none⟩,
  ⟨none, (.stN 4 (.tmp 5) (.tmp 17)), .any, none⟩] [5, 0, 4, 3])
 (.seq (.draw (.take 0 ⟨(some 18), (.fa 1 (.tmp 5)), .ptr, none⟩
  (.take 1 ⟨(some 19), (.ld1 (.tmp 18)), .sl, none⟩
  (.take 2 ⟨(some 20), (.mv (.tmp 0)), .sl, none⟩
  (.take 3 ⟨(some 21), (.mv (.tmp 4)), (.int .i64), none⟩
  (.take 4 ⟨(some 22), (.ia 4 (.tmp 20) (.tmp 21)), .ptr, none⟩
  (.take 5 ⟨(some 23), (.fa 1 (.tmp 22)), .ptr, none⟩
  (.take 6 ⟨(some 24), (.ld1 (.tmp 23)), .sl, none⟩
  (.go 7 ⟨(some 25), (.app #[73, 73] 73 (.tmp 19) (.tmp 24)), .sl, none⟩ []
  (.take 8 ⟨(some 26), (.fa 1 (.tmp 5)), .ptr, none⟩
  (.go 9 ⟨none, (.st1 (.tmp 26) (.tmp 25)), .any, none⟩ []
  .done)))))))))) [5, 0, 4, 3])
 (.seq (.draw (.take 0 ⟨(some 27), (.fa 2 (.tmp 5)), .ptr, none⟩
  (.take 1 ⟨(some 28), (.ld1 (.tmp 27)), .sl, none⟩
  (.take 2 ⟨(some 29), (.mv (.tmp 0)), .sl, none⟩
  (.take 3 ⟨(some 30), (.mv (.tmp 4)), (.int .i64), none⟩
  (.take 4 ⟨(some 31), (.ia 4 (.tmp 29) (.tmp 30)), .ptr, none⟩
  (.take 5 ⟨(some 32), (.fa 2 (.tmp 31)), .ptr, none⟩
  (.take 6 ⟨(some 33), (.ld1 (.tmp 32)), .sl, none⟩
  (.go 7 ⟨(some 34), (.app #[74, 74] 74 (.tmp 28) (.tmp 33)), .sl, none⟩ []
  (.take 8 ⟨(some 35), (.fa 2 (.tmp 5)), .ptr, none⟩
  (.go 9 ⟨none, (.st1 (.tmp 35) (.tmp 34)), .any, none⟩ []
  .done)))))))))) [5, 0, 4, 3])
 (.seq (.draw (.take 0 ⟨(some 36), (.fa 3 (.tmp 5)), .ptr, none⟩
  (.take 1 ⟨(some 37), (.ld1 (.tmp 36)), .sl, none⟩
  (.take 2 ⟨(some 38), (.mv (.tmp 0)), .sl, none⟩
  (.take 3 ⟨(some 39), (.mv (.tmp 4)), (.int .i64), none⟩
  (.take 4 ⟨(some 40), (.ia 4 (.tmp 38) (.tmp 39)), .ptr, none⟩
  (.take 5 ⟨(some 41), (.fa 3 (.tmp 40)), .ptr, none⟩
  (.take 6 ⟨(some 42), (.ld1 (.tmp 41)), .sl, none⟩
  (.go 7 ⟨(some 43), (.app #[74, 74] 74 (.tmp 37) (.tmp 42)), .sl, none⟩ []
  (.take 8 ⟨(some 44), (.fa 3 (.tmp 5)), .ptr, none⟩
  (.go 9 ⟨none, (.st1 (.tmp 44) (.tmp 43)), .any, none⟩ []
  .done)))))))))) [3, 5, 4, 0])
 (.ops [⟨(some 45), (.mv (.tmp 3)), .sl, none⟩,
  ⟨(some 46), (.ldN 4 (.tmp 5)), .agg, none⟩,
  ⟨(some 47), (.bldS 76 1 4 [(0, (.tmp 46))]), .sl, none⟩,
  ⟨(some 48), (.app #[35, 35] 35 (.tmp 45) (.tmp 47)), .sl, none⟩,
  ⟨(some 3), (.mv (.tmp 48)), .sl, none⟩] [4, 0, 3]))))))
 (.ops [⟨(some 10), (.mv (.tmp 4)), (.int .i64), none⟩,
  ⟨(some 11), (.bin .add (.tmp 10) (.const (.int .i64 1))), (.int .i64), none⟩,
  ⟨(some 4), (.mv (.tmp 11)), (.int .i64), none⟩] [4, 0, 3]))))))
 (.seq (.ops [⟨(some 49), (.mv (.tmp 3)), .sl, none⟩,
  ⟨(some 2), (.mv (.tmp 49)), .sl, none⟩] [2])
 .ret))))
def r35 : List Res := [.t 2]
theorem tr35 : trS Tryd.prog [] 50 (Tryd.f35.body.getD .skip) s35 = some s35 := by kernel_rfl
theorem den35 (args : List Value) (w : World) (R : Ending → World → Prop) (hn : args.length ≤ 50) (h : denS Tryd.prog s35 (argsEnv 0 args) w (endK r35 R)) : Calls Tryd.prog 35 args.toArray w R :=
  calls_of_den (pn := []) (fn := Tryd.f35) (c := Tryd.f35.body.getD .skip) Tryd.func35 (by kernel_rfl) (by rw [Tryd.ntmps35]; exact hn) (by rw [Tryd.ntmps35]; exact tr35) (by kernel_rfl) h
def d35 (l0 : Option Addr) (l0n : Nat) (l0c : Nat) (w : World) (R : Ending → World → Prop) : Prop :=
 ∃ I1 : Nat → Option Addr → Nat → Nat → Int → World → Prop,
 (∃ m, I1 m none 0 0 0 w) ∧
 (∀ (m2 : Nat) (w3 : World) (out4 : Option Addr) (out4n : Nat) (out4c : Nat) (i5 : Int), I1 m2 out4 out4n out4c i5 w3 →
 (bif (decide (i5 < ((l0n : Nat) : Int))) then
 (0 ≤ i5 ∧ i5 < ((l0n : Nat) : Int) ∧ optK l0 fun a6 =>
 ∃ x7 : Int, World.cell? w3 (Addr.add (Addr.add a6 (Int.toNat i5 * 4)) 0) = some (.int .i64 x7) ∧
 ∃ cs8, fillL (.fields [(0, 1), (1, 1), (2, 1), (3, 1)]) (zc Tryd.prog 76) [(0, (.int .i64 x7))] = some cs8 ∧
 ∀ w9 : World, w9 = World.alloc w3 (.cells (zc Tryd.prog 76).toArray 76) →
 Array.size (List.toArray cs8) = 4 ∧ (∀ u ∈ Array.toList (List.toArray cs8), one u = true) ∧ Room w9 ⟨World.heap w3 |>.size, 0, none⟩ 4 ∧
 ∀ w10 : World, w10 = setCells w9 ⟨World.heap w3 |>.size, 0, none⟩ (Array.toList (List.toArray cs8)) 0 →
 ∀ w11 : World, w11 = World.drew w10 →
 ∃ (x12 : Option Addr) (x12n : Nat) (x12c : Nat), World.cell? w11 (Addr.add ⟨World.heap w3 |>.size, 0, none⟩ 1) = some (.slice x12 x12n x12c) ∧
 0 ≤ i5 ∧ i5 < ((l0n : Nat) : Int) ∧ optK l0 fun a13 =>
 ∃ (x14 : Option Addr) (x14n : Nat) (x14c : Nat), World.cell? w11 (Addr.add (Addr.add a13 (Int.toNat i5 * 4)) 1) = some (.slice x14 x14n x14c) ∧
 RunV Tryd.prog (Builtin.append_ #[73, 73] 73 #[(.slice x12 x12n x12c), (.slice x14 x14n x14c)]) w11 fun v15 w16 => ∃ (x17 : Option Addr) (x17n : Nat) (x17c : Nat), v15 = (.slice x17 x17n x17c) ∧
 one (.slice x17 x17n x17c) = true ∧ Option.isSome (World.cell? w16 (Addr.add ⟨World.heap w3 |>.size, 0, none⟩ 1)) = true ∧ World.frozen? w16 (Addr.add ⟨World.heap w3 |>.size, 0, none⟩ 1) = false ∧
 ∀ w18 : World, w18 = World.setCell w16 (Addr.add ⟨World.heap w3 |>.size, 0, none⟩ 1) (.slice x17 x17n x17c) →
 ∀ w19 : World, w19 = World.drew w18 →
 ∃ (x20 : Option Addr) (x20n : Nat) (x20c : Nat), World.cell? w19 (Addr.add ⟨World.heap w3 |>.size, 0, none⟩ 2) = some (.slice x20 x20n x20c) ∧
 0 ≤ i5 ∧ i5 < ((l0n : Nat) : Int) ∧ optK l0 fun a21 =>
 ∃ (x22 : Option Addr) (x22n : Nat) (x22c : Nat), World.cell? w19 (Addr.add (Addr.add a21 (Int.toNat i5 * 4)) 2) = some (.slice x22 x22n x22c) ∧
 RunV Tryd.prog (Builtin.append_ #[74, 74] 74 #[(.slice x20 x20n x20c), (.slice x22 x22n x22c)]) w19 fun v23 w24 => ∃ (x25 : Option Addr) (x25n : Nat) (x25c : Nat), v23 = (.slice x25 x25n x25c) ∧
 one (.slice x25 x25n x25c) = true ∧ Option.isSome (World.cell? w24 (Addr.add ⟨World.heap w3 |>.size, 0, none⟩ 2)) = true ∧ World.frozen? w24 (Addr.add ⟨World.heap w3 |>.size, 0, none⟩ 2) = false ∧
 ∀ w26 : World, w26 = World.setCell w24 (Addr.add ⟨World.heap w3 |>.size, 0, none⟩ 2) (.slice x25 x25n x25c) →
 ∀ w27 : World, w27 = World.drew w26 →
 ∃ (x28 : Option Addr) (x28n : Nat) (x28c : Nat), World.cell? w27 (Addr.add ⟨World.heap w3 |>.size, 0, none⟩ 3) = some (.slice x28 x28n x28c) ∧
 0 ≤ i5 ∧ i5 < ((l0n : Nat) : Int) ∧ optK l0 fun a29 =>
 ∃ (x30 : Option Addr) (x30n : Nat) (x30c : Nat), World.cell? w27 (Addr.add (Addr.add a29 (Int.toNat i5 * 4)) 3) = some (.slice x30 x30n x30c) ∧
 RunV Tryd.prog (Builtin.append_ #[74, 74] 74 #[(.slice x28 x28n x28c), (.slice x30 x30n x30c)]) w27 fun v31 w32 => ∃ (x33 : Option Addr) (x33n : Nat) (x33c : Nat), v31 = (.slice x33 x33n x33c) ∧
 one (.slice x33 x33n x33c) = true ∧ Option.isSome (World.cell? w32 (Addr.add ⟨World.heap w3 |>.size, 0, none⟩ 3)) = true ∧ World.frozen? w32 (Addr.add ⟨World.heap w3 |>.size, 0, none⟩ 3) = false ∧
 ∀ w34 : World, w34 = World.setCell w32 (Addr.add ⟨World.heap w3 |>.size, 0, none⟩ 3) (.slice x33 x33n x33c) →
 ∃ cs35 : List Value, List.length cs35 = 4 ∧ Cells w34 ⟨World.heap w3 |>.size, 0, none⟩ cs35 ∧
 ∃ cs36, fillL (.elems 4) (zrep (zc Tryd.prog 76) (1 * 4)) [(0, (.agg (List.toArray cs35)))] = some cs36 ∧
 ∀ w37 : World, w37 = World.alloc w34 (.cells (List.toArray cs36) 76) →
 RunV Tryd.prog (Builtin.append_ #[35, 35] 35 #[(.slice out4 out4n out4c), (.slice (some ⟨World.heap w34 |>.size, 0, none⟩) 1 1)]) w37 fun v38 w39 => ∃ (x40 : Option Addr) (x40n : Nat) (x40c : Nat), v38 = (.slice x40 x40n x40c) ∧
 ∃ m41, m41 < m2 ∧ I1 m41 x40 x40n x40c (IntKind.wrap .i64 (i5 + 1)) w39)
 else
 (R (.returned (.slice out4 out4n out4c)) w3)))
theorem e35 (l0 : Option Addr) (l0n : Nat) (l0c : Nat) (w : World) (R : Ending → World → Prop) : denS Tryd.prog s35 (argsEnv 0 [(.slice l0 l0n l0c)]) w (endK r35 R) = d35 l0 l0n l0c w R := by kernel_rfl
theorem c35 (l0 : Option Addr) (l0n : Nat) (l0c : Nat) {w : World} {R : Ending → World → Prop} (h : d35 l0 l0n l0c w R) : Calls Tryd.prog 35 #[(.slice l0 l0n l0c)] w R :=
  den35 [(.slice l0 l0n l0c)] w R (by simp) ((e35 l0 l0n l0c w R).symm ▸ h)

/-- prelude/preluderef25.two -/
def s39 : S := (.seq (.ops [⟨(some 4), (.mv (.const (.slice none 0 0))), .sl, none⟩] [0, 1])
 (.seq (.ops [⟨(some 5), (.mv (.tmp 0)), (.int .i64), none⟩,
  ⟨(some 6), (.cv .u64 (.tmp 5)), (.int .u64), none⟩,
  ⟨(some 7), (.call 40 [(.tmp 6)] [.sl]), .sl, none⟩,
  ⟨(some 8), (.mv (.tmp 1)), (.int .i64), none⟩,
  ⟨(some 9), (.cv .u64 (.tmp 8)), (.int .u64), none⟩,
  ⟨(some 10), (.call 40 [(.tmp 9)] [.sl]), .sl, none⟩,
  ⟨(some 11), (.app #[22, 22] 22 (.tmp 7) (.tmp 10)), .sl, none⟩,
  ⟨(some 4), (.mv (.tmp 11)), .sl, none⟩] [4])
 .ret))
def r39 : List Res := [.t 4]
theorem tr39 : trS Tryd.prog [] 12 (Tryd.f39.body.getD .skip) s39 = some s39 := by kernel_rfl
theorem den39 (args : List Value) (w : World) (R : Ending → World → Prop) (hn : args.length ≤ 12) (h : denS Tryd.prog s39 (argsEnv 0 args) w (endK r39 R)) : Calls Tryd.prog 39 args.toArray w R :=
  calls_of_den (pn := []) (fn := Tryd.f39) (c := Tryd.f39.body.getD .skip) Tryd.func39 (by kernel_rfl) (by rw [Tryd.ntmps39]; exact hn) (by rw [Tryd.ntmps39]; exact tr39) (by kernel_rfl) h
def d39 (a0 : Int) (b1 : Int) (w : World) (R : Ending → World → Prop) : Prop :=
 Calls Tryd.prog 40 #[(.int .u64 (IntKind.wrap .u64 a0))] w fun e2 w3 => ∃ (x4 : Option Addr) (x4n : Nat) (x4c : Nat), e2 = .returned (.slice x4 x4n x4c) ∧
 Calls Tryd.prog 40 #[(.int .u64 (IntKind.wrap .u64 b1))] w3 fun e5 w6 => ∃ (x7 : Option Addr) (x7n : Nat) (x7c : Nat), e5 = .returned (.slice x7 x7n x7c) ∧
 RunV Tryd.prog (Builtin.append_ #[22, 22] 22 #[(.slice x4 x4n x4c), (.slice x7 x7n x7c)]) w6 fun v8 w9 => ∃ (x10 : Option Addr) (x10n : Nat) (x10c : Nat), v8 = (.slice x10 x10n x10c) ∧
 R (.returned (.slice x10 x10n x10c)) w9
theorem e39 (a0 : Int) (b1 : Int) (w : World) (R : Ending → World → Prop) : denS Tryd.prog s39 (argsEnv 0 [(.int .i64 a0), (.int .i64 b1)]) w (endK r39 R) = d39 a0 b1 w R := by kernel_rfl
theorem c39 (a0 : Int) (b1 : Int) {w : World} {R : Ending → World → Prop} (h : d39 a0 b1 w R) : Calls Tryd.prog 39 #[(.int .i64 a0), (.int .i64 b1)] w R :=
  den39 [(.int .i64 a0), (.int .i64 b1)] w R (by simp) ((e39 a0 b1 w R).symm ▸ h)

/-- prelude/preluderef25.valid -/
def s36 : S := (.seq (.ops [⟨(some 4), (.mv (.const (.int .i64 0))), (.int .i64), none⟩] [0, 1])
 (.join [] [1]
 (.seq (.ops [⟨(some 5), (.mv (.tmp 0)), (.int .i64), none⟩,
  ⟨(some 6), (.bin .lss (.tmp 5) (.const (.int .i64 0))), .bool, none⟩,
  ⟨(some 7), (.mv (.tmp 6)), .bool, none⟩,
  ⟨(some 8), (.mv (.tmp 0)), (.int .i64), (some (7, false))⟩,
  ⟨(some 9), (.bin .geq (.tmp 8) (.const (.int .i64 16))), .bool, (some (7, false))⟩,
  ⟨(some 10), (.pick (.tmp 7) (.const (.bool true)) (.tmp 9)), .bool, none⟩] [10, 1])
 (.cond (.tmp 10)
 (.seq (.ops [⟨(some 4), (.mv (.const (.int .i64 261))), (.int .i64), none⟩] [4])
 .ret)
 .skip))
 (.seq (.seq (.ops [⟨(some 11), (.mv (.tmp 1)), (.int .i64), none⟩,
  ⟨(some 12), (.call 70 [(.tmp 11)] [.bool]), .bool, none⟩,
  ⟨(some 13), (.un .not (.tmp 12)), .bool, none⟩] [13])
 (.cond (.tmp 13)
 (.seq (.ops [⟨(some 4), (.mv (.const (.int .i64 262))), (.int .i64), none⟩] [4])
 .ret)
 .skip))
 (.seq (.ops [⟨(some 4), (.mv (.const (.int .i64 0))), (.int .i64), none⟩] [4])
 .ret))))
def r36 : List Res := [.t 4]
theorem tr36 : trS Tryd.prog [] 14 (Tryd.f36.body.getD .skip) s36 = some s36 := by kernel_rfl
theorem den36 (args : List Value) (w : World) (R : Ending → World → Prop) (hn : args.length ≤ 14) (h : denS Tryd.prog s36 (argsEnv 0 args) w (endK r36 R)) : Calls Tryd.prog 36 args.toArray w R :=
  calls_of_den (pn := []) (fn := Tryd.f36) (c := Tryd.f36.body.getD .skip) Tryd.func36 (by kernel_rfl) (by rw [Tryd.ntmps36]; exact hn) (by rw [Tryd.ntmps36]; exact tr36) (by kernel_rfl) h
def d36 (input0 : Int) (at1 : Int) (w : World) (R : Ending → World → Prop) : Prop :=
 ∃ J2 : World → Prop,
 ((bif (decide (input0 < 0)) then
 (R (.returned (.int .i64 261)) w)
 else
 ((bif (decide (16 ≤ input0)) then
 (R (.returned (.int .i64 261)) w)
 else
 (J2  w))))) ∧
 (∀ (w3 : World), J2  w3 →
 Calls Tryd.prog 70 #[(.int .i64 at1)] w3 fun e4 w5 => ∃ x6 : Bool, e4 = .returned (.bool x6) ∧
 (bif (!x6) then
 (R (.returned (.int .i64 262)) w5)
 else
 (R (.returned (.int .i64 0)) w5)))
theorem e36 (input0 : Int) (at1 : Int) (w : World) (R : Ending → World → Prop) : denS Tryd.prog s36 (argsEnv 0 [(.int .i64 input0), (.int .i64 at1)]) w (endK r36 R) = d36 input0 at1 w R := by kernel_rfl
theorem c36 (input0 : Int) (at1 : Int) {w : World} {R : Ending → World → Prop} (h : d36 input0 at1 w R) : Calls Tryd.prog 36 #[(.int .i64 input0), (.int .i64 at1)] w R :=
  den36 [(.int .i64 input0), (.int .i64 at1)] w R (by simp) ((e36 input0 at1 w R).symm ▸ h)

/-- prelude/preluderef25.epoch -/
def s70 : S := (.seq (.ops [⟨(some 2), (.mv (.const (.bool false))), .bool, none⟩] [0])
 (.seq (.ops [⟨(some 3), (.mv (.tmp 0)), (.int .i64), none⟩,
  ⟨(some 4), (.bin .geq (.tmp 3) (.const (.int .i64 1))), .bool, none⟩,
  ⟨(some 5), (.mv (.tmp 4)), .bool, none⟩,
  ⟨(some 6), (.mv (.tmp 0)), (.int .i64), (some (5, true))⟩,
  ⟨(some 7), (.bin .leq (.tmp 6) (.const (.int .i64 1099511627776))), .bool, (some (5, true))⟩,
  ⟨(some 8), (.pick (.tmp 5) (.tmp 7) (.const (.bool false))), .bool, none⟩,
  ⟨(some 2), (.mv (.tmp 8)), .bool, none⟩] [2])
 .ret))
def r70 : List Res := [.t 2]
theorem tr70 : trS Tryd.prog [] 9 (Tryd.f70.body.getD .skip) s70 = some s70 := by kernel_rfl
theorem den70 (args : List Value) (w : World) (R : Ending → World → Prop) (hn : args.length ≤ 9) (h : denS Tryd.prog s70 (argsEnv 0 args) w (endK r70 R)) : Calls Tryd.prog 70 args.toArray w R :=
  calls_of_den (pn := []) (fn := Tryd.f70) (c := Tryd.f70.body.getD .skip) Tryd.func70 (by kernel_rfl) (by rw [Tryd.ntmps70]; exact hn) (by rw [Tryd.ntmps70]; exact tr70) (by kernel_rfl) h
def d70 (n0 : Int) (w : World) (R : Ending → World → Prop) : Prop :=
 (bif (decide (1 ≤ n0)) then
 (R (.returned (.bool (decide (n0 ≤ 1099511627776)))) w)
 else
 (R (.returned (.bool false)) w))
theorem e70 (n0 : Int) (w : World) (R : Ending → World → Prop) : denS Tryd.prog s70 (argsEnv 0 [(.int .i64 n0)]) w (endK r70 R) = d70 n0 w R := by kernel_rfl
theorem c70 (n0 : Int) {w : World} {R : Ending → World → Prop} (h : d70 n0 w R) : Calls Tryd.prog 70 #[(.int .i64 n0)] w R :=
  den70 [(.int .i64 n0)] w R (by simp) ((e70 n0 w R).symm ▸ h)

/-- prelude/preludelaw25.wide -/
def s11 : S := (.seq (.ops [⟨(some 2), (.mv (.const (.bool false))), .bool, none⟩] [0])
 (.seq (.ops [⟨(some 5), (.mv (.tmp 0)), .sl, none⟩,
  ⟨(some 6), (.len (.tmp 5)), (.int .i64), none⟩,
  ⟨(some 3), (.mv (.tmp 6)), (.int .i64), none⟩] [0, 3])
 (.seq (.seq (.ops [⟨(some 4), (.mv (.const (.int .i64 0))), (.int .i64), none⟩] [4, 0, 3])
 (.block 0
 (.loop [(3, (.int .i64)), (4, (.int .i64))] [0]
 (.join [] [0, 3, 4]
 (.seq (.ops [⟨(some 7), (.mv (.tmp 4)), (.int .i64), none⟩,
  ⟨(some 8), (.mv (.tmp 0)), .sl, none⟩,
  ⟨(some 9), (.len (.tmp 8)), (.int .i64), none⟩,
  ⟨(some 10), (.bin .lss (.tmp 7) (.tmp 9)), .bool, none⟩,
  ⟨(some 11), (.mv (.tmp 10)), .bool, none⟩,
  ⟨(some 12), (.mv (.tmp 3)), (.int .i64), (some (11, true))⟩,
  ⟨(some 13), (.bin .leq (.tmp 12) (.const (.int .i64 100000))), .bool, (some (11, true))⟩,
  ⟨(some 14), (.pick (.tmp 11) (.tmp 13) (.const (.bool false))), .bool, none⟩] [14, 3, 0, 4])
 (.cond (.tmp 14)
 .skip
 (.exit 0)))
 (.seq (.block 1
 (.draw (.take 0 ⟨(some 17), (.mv (.tmp 3)), (.int .i64), none⟩
  (.take 1 ⟨(some 18), (.mv (.tmp 0)), .sl, none⟩
  (.take 2 ⟨(some 19), (.mv (.tmp 4)), (.int .i64), none⟩
  (.take 3 ⟨(some 20), (.ia 4 (.tmp 18) (.tmp 19)), .ptr, none⟩
  (.take 4 ⟨(some 21), (.fa 1 (.tmp 20)), .ptr, none⟩
  (.take 5 ⟨(some 22), (.ld1 (.tmp 21)), .sl, none⟩
  (.take 6 ⟨(some 23), (.len (.tmp 22)), (.int .i64), none⟩
  (.take 7 ⟨(some 24), (.mv (.tmp 0)), .sl, none⟩
  (.take 8 ⟨(some 25), (.mv (.tmp 4)), (.int .i64), none⟩
  (.take 9 ⟨(some 26), (.ia 4 (.tmp 24) (.tmp 25)), .ptr, none⟩
  (.take 10 ⟨(some 27), (.fa 2 (.tmp 26)), .ptr, none⟩
  (.take 11 ⟨(some 28), (.ld1 (.tmp 27)), .sl, none⟩
  (.take 12 ⟨(some 29), (.len (.tmp 28)), (.int .i64), none⟩
  (.take 13 ⟨(some 30), (.bin .add (.tmp 23) (.tmp 29)), (.int .i64), none⟩
  (.take 14 ⟨(some 31), (.mv (.tmp 0)), .sl, none⟩
  (.take 15 ⟨(some 32), (.mv (.tmp 4)), (.int .i64), none⟩
  (.take 16 ⟨(some 33), (.ia 4 (.tmp 31) (.tmp 32)), .ptr, none⟩
  (.take 17 ⟨(some 34), (.fa 3 (.tmp 33)), .ptr, none⟩
  (.take 18 ⟨(some 35), (.ld1 (.tmp 34)), .sl, none⟩
  (.take 19 ⟨(some 36), (.len (.tmp 35)), (.int .i64), none⟩
  (.take 20 ⟨(some 37), (.bin .add (.tmp 30) (.tmp 36)), (.int .i64), none⟩
  (.take 21 ⟨(some 38), (.bin .add (.tmp 17) (.tmp 37)), (.int .i64), none⟩
  (.take 22 ⟨(some 3), (.mv (.tmp 38)), (.int .i64), none⟩
  .done))))))))))))))))))))))) [4, 0, 3]))
 (.ops [⟨(some 15), (.mv (.tmp 4)), (.int .i64), none⟩,
  ⟨(some 16), (.bin .add (.tmp 15) (.const (.int .i64 1))), (.int .i64), none⟩,
  ⟨(some 4), (.mv (.tmp 16)), (.int .i64), none⟩] [4, 0, 3]))))))
 (.seq (.ops [⟨(some 39), (.mv (.tmp 3)), (.int .i64), none⟩,
  ⟨(some 40), (.bin .gtr (.tmp 39) (.const (.int .i64 100000))), .bool, none⟩,
  ⟨(some 2), (.mv (.tmp 40)), .bool, none⟩] [2])
 .ret))))
def r11 : List Res := [.t 2]
theorem tr11 : trS Tryd.prog [] 41 (Tryd.f11.body.getD .skip) s11 = some s11 := by kernel_rfl
theorem den11 (args : List Value) (w : World) (R : Ending → World → Prop) (hn : args.length ≤ 41) (h : denS Tryd.prog s11 (argsEnv 0 args) w (endK r11 R)) : Calls Tryd.prog 11 args.toArray w R :=
  calls_of_den (pn := []) (fn := Tryd.f11) (c := Tryd.f11.body.getD .skip) Tryd.func11 (by kernel_rfl) (by rw [Tryd.ntmps11]; exact hn) (by rw [Tryd.ntmps11]; exact tr11) (by kernel_rfl) h
def d11 (txs0 : Option Addr) (txs0n : Nat) (txs0c : Nat) (w : World) (R : Ending → World → Prop) : Prop :=
 ∃ I1 : Nat → Int → Int → World → Prop,
 (∃ m, I1 m ((txs0n : Nat) : Int) 0 w) ∧
 (∀ (m2 : Nat) (w3 : World) (n4 : Int) (i5 : Int), I1 m2 n4 i5 w3 →
 ∃ J6 : World → Prop,
 ((bif (decide (i5 < ((txs0n : Nat) : Int))) then
 ((bif (decide (n4 ≤ 100000)) then
 (J6  w3)
 else
 (R (.returned (.bool (decide (100000 < n4)))) w3)))
 else
 (R (.returned (.bool (decide (100000 < n4)))) w3))) ∧
 (∀ (w7 : World), J6  w7 →
 ∀ w8 : World, w8 = World.drew w7 →
 0 ≤ i5 ∧ i5 < ((txs0n : Nat) : Int) ∧ optK txs0 fun a9 =>
 ∃ (x10 : Option Addr) (x10n : Nat) (x10c : Nat), World.cell? w8 (Addr.add (Addr.add a9 (Int.toNat i5 * 4)) 1) = some (.slice x10 x10n x10c) ∧
 0 ≤ i5 ∧ i5 < ((txs0n : Nat) : Int) ∧ optK txs0 fun a11 =>
 ∃ (x12 : Option Addr) (x12n : Nat) (x12c : Nat), World.cell? w8 (Addr.add (Addr.add a11 (Int.toNat i5 * 4)) 2) = some (.slice x12 x12n x12c) ∧
 0 ≤ i5 ∧ i5 < ((txs0n : Nat) : Int) ∧ optK txs0 fun a13 =>
 ∃ (x14 : Option Addr) (x14n : Nat) (x14c : Nat), World.cell? w8 (Addr.add (Addr.add a13 (Int.toNat i5 * 4)) 3) = some (.slice x14 x14n x14c) ∧
 ∃ m15, m15 < m2 ∧ I1 m15 (IntKind.wrap .i64 (n4 + (IntKind.wrap .i64 ((IntKind.wrap .i64 (((x10n : Nat) : Int) + ((x12n : Nat) : Int))) + ((x14n : Nat) : Int))))) (IntKind.wrap .i64 (i5 + 1)) w8))
theorem e11 (txs0 : Option Addr) (txs0n : Nat) (txs0c : Nat) (w : World) (R : Ending → World → Prop) : denS Tryd.prog s11 (argsEnv 0 [(.slice txs0 txs0n txs0c)]) w (endK r11 R) = d11 txs0 txs0n txs0c w R := by kernel_rfl
theorem c11 (txs0 : Option Addr) (txs0n : Nat) (txs0c : Nat) {w : World} {R : Ending → World → Prop} (h : d11 txs0 txs0n txs0c w R) : Calls Tryd.prog 11 #[(.slice txs0 txs0n txs0c)] w R :=
  den11 [(.slice txs0 txs0n txs0c)] w R (by simp) ((e11 txs0 txs0n txs0c w R).symm ▸ h)

/-- prelude/preludelaw25.handed -/
def s13 : S := (.seq (.ops [⟨(some 1), (.box 37 (.tmp 0)), .ptr, none⟩,
  ⟨(some 2), (.alloc 37), .ptr, none⟩] [1, 2])
 (.seq (.draw (.take 0 ⟨(some 3), (.fa 0 (.tmp 1)), .ptr, none⟩
  (.take 1 ⟨(some 4), (.ld1 (.tmp 3)), (.int .i64), none⟩
  (.take 2 ⟨(some 5), (.fa 1 (.tmp 1)), .ptr, none⟩
  (.take 3 ⟨(some 6), (.ld1 (.tmp 5)), (.int .i64), none⟩
  (.take 4 ⟨(some 7), (.fa 2 (.tmp 1)), .ptr, none⟩
  (.take 5 ⟨(some 8), (.ld1 (.tmp 7)), .sl, none⟩
  (.go 6 ⟨(some 9), (.call 35 [(.tmp 8)] [.sl]), .sl, none⟩ [(3, ⟨(some 6), (.ld1 (.tmp 5)), (.int .i64), none⟩), (1, ⟨(some 4), (.ld1 (.tmp 3)), (.int .i64), none⟩)]
  (.take 7 ⟨(some 10), (.bld 37 (.fields [(0, 1), (1, 1), (2, 1)]) [(0, (.tmp 4)), (1, (.tmp 6)), (2, (.tmp 9))]), .agg, none⟩
  (.go 8 ⟨none, (.stN 3 (.tmp 2) (.tmp 10)), .any, none⟩ []
  .done))))))))) [2])
 .ret))
def r13 : List Res := [.cN 2 3]
theorem tr13 : trS Tryd.prog [] 11 (Tryd.f13.body.getD .skip) s13 = some s13 := by kernel_rfl
theorem den13 (args : List Value) (w : World) (R : Ending → World → Prop) (hn : args.length ≤ 11) (h : denS Tryd.prog s13 (argsEnv 0 args) w (endK r13 R)) : Calls Tryd.prog 13 args.toArray w R :=
  calls_of_den (pn := []) (fn := Tryd.f13) (c := Tryd.f13.body.getD .skip) Tryd.func13 (by kernel_rfl) (by rw [Tryd.ntmps13]; exact hn) (by rw [Tryd.ntmps13]; exact tr13) (by kernel_rfl) h
def d13 (p0 : Array Value) (w : World) (R : Ending → World → Prop) : Prop :=
 ∀ w1 : World, w1 = World.alloc w (.cells p0 37) →
 ∀ w2 : World, w2 = World.alloc w1 (.cells (zc Tryd.prog 37).toArray 37) →
 ∀ w3 : World, w3 = World.drew w2 →
 ∃ x4 : Int, World.cell? w3 (Addr.add ⟨World.heap w |>.size, 0, none⟩ 0) = some (.int .i64 x4) ∧
 ∃ x5 : Int, World.cell? w3 (Addr.add ⟨World.heap w |>.size, 0, none⟩ 1) = some (.int .i64 x5) ∧
 ∃ (x6 : Option Addr) (x6n : Nat) (x6c : Nat), World.cell? w3 (Addr.add ⟨World.heap w |>.size, 0, none⟩ 2) = some (.slice x6 x6n x6c) ∧
 Calls Tryd.prog 35 #[(.slice x6 x6n x6c)] w3 fun e7 w8 => ∃ (x9 : Option Addr) (x9n : Nat) (x9c : Nat), e7 = .returned (.slice x9 x9n x9c) ∧
 (∃ z10 : Int, World.cell? w8 (Addr.add ⟨World.heap w |>.size, 0, none⟩ 1) = some (.int .i64 z10) ∧
 (((.int .i64 z10) : Value) = (.int .i64 x5) ∧ w8 = w8)) ∧
 (∃ z11 : Int, World.cell? w8 (Addr.add ⟨World.heap w |>.size, 0, none⟩ 0) = some (.int .i64 z11) ∧
 (((.int .i64 z11) : Value) = (.int .i64 x4) ∧ w8 = w8)) ∧
 ∃ cs12, fillL (.fields [(0, 1), (1, 1), (2, 1)]) (zc Tryd.prog 37) [(0, (.int .i64 x4)), (1, (.int .i64 x5)), (2, (.slice x9 x9n x9c))] = some cs12 ∧
 Array.size (List.toArray cs12) = 3 ∧ (∀ u ∈ Array.toList (List.toArray cs12), one u = true) ∧ Room w8 ⟨World.heap w1 |>.size, 0, none⟩ 3 ∧
 ∀ w13 : World, w13 = setCells w8 ⟨World.heap w1 |>.size, 0, none⟩ (Array.toList (List.toArray cs12)) 0 →
 ∃ cs14 : List Value, List.length cs14 = 3 ∧ Cells w13 ⟨World.heap w1 |>.size, 0, none⟩ cs14 ∧
 R (.returned (.agg (List.toArray cs14))) w13
theorem e13 (p0 : Array Value) (w : World) (R : Ending → World → Prop) : denS Tryd.prog s13 (argsEnv 0 [(.agg p0)]) w (endK r13 R) = d13 p0 w R := by kernel_rfl
theorem c13 (p0 : Array Value) {w : World} {R : Ending → World → Prop} (h : d13 p0 w R) : Calls Tryd.prog 13 #[(.agg p0)] w R :=
  den13 [(.agg p0)] w R (by simp) ((e13 p0 w R).symm ▸ h)

/-- prelude/preludelaw25.SamePiece -/
def s22 : S := (.seq (.ops [⟨(some 2), (.box 37 (.tmp 0)), .ptr, none⟩,
  ⟨(some 3), (.box 37 (.tmp 1)), .ptr, none⟩,
  ⟨(some 4), (.mv (.const (.bool false))), .bool, none⟩] [2, 3])
 (.seq (.ops [⟨(some 5), (.fa 0 (.tmp 2)), .ptr, none⟩,
  ⟨(some 6), (.ld1 (.tmp 5)), (.int .i64), none⟩,
  ⟨(some 7), (.fa 0 (.tmp 3)), .ptr, none⟩,
  ⟨(some 8), (.ld1 (.tmp 7)), (.int .i64), none⟩,
  ⟨(some 9), (.bin .eql (.tmp 6) (.tmp 8)), .bool, none⟩,
  ⟨(some 10), (.mv (.tmp 9)), .bool, none⟩,
  ⟨(some 11), (.fa 1 (.tmp 2)), .ptr, (some (10, true))⟩,
  ⟨(some 12), (.ld1 (.tmp 11)), (.int .i64), (some (10, true))⟩,
  ⟨(some 13), (.fa 1 (.tmp 3)), .ptr, (some (10, true))⟩,
  ⟨(some 14), (.ld1 (.tmp 13)), (.int .i64), (some (10, true))⟩,
  ⟨(some 15), (.bin .eql (.tmp 12) (.tmp 14)), .bool, (some (10, true))⟩,
  ⟨(some 16), (.pick (.tmp 10) (.tmp 15) (.const (.bool false))), .bool, none⟩,
  ⟨(some 17), (.mv (.tmp 16)), .bool, none⟩,
  ⟨(some 18), (.fa 2 (.tmp 2)), .ptr, (some (17, true))⟩,
  ⟨(some 19), (.ld1 (.tmp 18)), .sl, (some (17, true))⟩,
  ⟨(some 20), (.fa 2 (.tmp 3)), .ptr, (some (17, true))⟩,
  ⟨(some 21), (.ld1 (.tmp 20)), .sl, (some (17, true))⟩,
  ⟨(some 22), (.call 53 [(.tmp 19), (.tmp 21)] [.bool]), .bool, (some (17, true))⟩,
  ⟨(some 23), (.pick (.tmp 17) (.tmp 22) (.const (.bool false))), .bool, none⟩,
  ⟨(some 4), (.mv (.tmp 23)), .bool, none⟩] [4])
 .ret))
def r22 : List Res := [.t 4]
theorem tr22 : trS Tryd.prog [] 24 (Tryd.f22.body.getD .skip) s22 = some s22 := by kernel_rfl
theorem den22 (args : List Value) (w : World) (R : Ending → World → Prop) (hn : args.length ≤ 24) (h : denS Tryd.prog s22 (argsEnv 0 args) w (endK r22 R)) : Calls Tryd.prog 22 args.toArray w R :=
  calls_of_den (pn := []) (fn := Tryd.f22) (c := Tryd.f22.body.getD .skip) Tryd.func22 (by kernel_rfl) (by rw [Tryd.ntmps22]; exact hn) (by rw [Tryd.ntmps22]; exact tr22) (by kernel_rfl) h
def d22 (a0 : Array Value) (b1 : Array Value) (w : World) (R : Ending → World → Prop) : Prop :=
 ∀ w2 : World, w2 = World.alloc w (.cells a0 37) →
 ∀ w3 : World, w3 = World.alloc w2 (.cells b1 37) →
 ∃ x4 : Int, World.cell? w3 (Addr.add ⟨World.heap w |>.size, 0, none⟩ 0) = some (.int .i64 x4) ∧
 ∃ x5 : Int, World.cell? w3 (Addr.add ⟨World.heap w2 |>.size, 0, none⟩ 0) = some (.int .i64 x5) ∧
 (bif (decide (x4 = x5)) then
 (∃ x6 : Int, World.cell? w3 (Addr.add ⟨World.heap w |>.size, 0, none⟩ 1) = some (.int .i64 x6) ∧
 ∃ x7 : Int, World.cell? w3 (Addr.add ⟨World.heap w2 |>.size, 0, none⟩ 1) = some (.int .i64 x7) ∧
 (bif (decide (x6 = x7)) then
 (∃ (x8 : Option Addr) (x8n : Nat) (x8c : Nat), World.cell? w3 (Addr.add ⟨World.heap w |>.size, 0, none⟩ 2) = some (.slice x8 x8n x8c) ∧
 ∃ (x9 : Option Addr) (x9n : Nat) (x9c : Nat), World.cell? w3 (Addr.add ⟨World.heap w2 |>.size, 0, none⟩ 2) = some (.slice x9 x9n x9c) ∧
 Calls Tryd.prog 53 #[(.slice x8 x8n x8c), (.slice x9 x9n x9c)] w3 fun e10 w11 => ∃ x12 : Bool, e10 = .returned (.bool x12) ∧
 R (.returned (.bool x12)) w11)
 else
 (R (.returned (.bool false)) w3)))
 else
 (R (.returned (.bool false)) w3))
theorem e22 (a0 : Array Value) (b1 : Array Value) (w : World) (R : Ending → World → Prop) : denS Tryd.prog s22 (argsEnv 0 [(.agg a0), (.agg b1)]) w (endK r22 R) = d22 a0 b1 w R := by kernel_rfl
theorem c22 (a0 : Array Value) (b1 : Array Value) {w : World} {R : Ending → World → Prop} (h : d22 a0 b1 w R) : Calls Tryd.prog 22 #[(.agg a0), (.agg b1)] w R :=
  den22 [(.agg a0), (.agg b1)] w R (by simp) ((e22 a0 b1 w R).symm ▸ h)

/-- prelude/preludelaw25.sameBatch -/
def s53 : S := (.seq (.ops [⟨(some 4), (.mv (.const (.bool false))), .bool, none⟩] [0, 1])
 (.seq (.seq (.ops [⟨(some 6), (.mv (.tmp 0)), .sl, none⟩,
  ⟨(some 7), (.len (.tmp 6)), (.int .i64), none⟩,
  ⟨(some 8), (.mv (.tmp 1)), .sl, none⟩,
  ⟨(some 9), (.len (.tmp 8)), (.int .i64), none⟩,
  ⟨(some 10), (.bin .neq (.tmp 7) (.tmp 9)), .bool, none⟩] [10, 0, 1])
 (.cond (.tmp 10)
 (.seq (.ops [⟨(some 4), (.mv (.const (.bool false))), .bool, none⟩] [4])
 .ret)
 .skip))
 (.seq (.seq (.ops [⟨(some 5), (.mv (.const (.int .i64 0))), (.int .i64), none⟩] [5, 0, 1])
 (.block 0
 (.loop [(5, (.int .i64))] [0, 1]
 (.seq (.seq (.ops [⟨(some 11), (.mv (.tmp 5)), (.int .i64), none⟩,
  ⟨(some 12), (.mv (.tmp 0)), .sl, none⟩,
  ⟨(some 13), (.len (.tmp 12)), (.int .i64), none⟩,
  ⟨(some 14), (.bin .lss (.tmp 11) (.tmp 13)), .bool, none⟩] [14, 0, 5, 1])
 (.cond (.tmp 14)
 .skip
 (.exit 0)))
 (.seq (.block 1
 (.seq (.draw (.take 0 ⟨(some 17), (.mv (.tmp 0)), .sl, none⟩
  (.take 1 ⟨(some 18), (.mv (.tmp 5)), (.int .i64), none⟩
  (.take 2 ⟨(some 19), (.ia 4 (.tmp 17) (.tmp 18)), .ptr, none⟩
  (.take 3 ⟨(some 20), (.ldN 4 (.tmp 19)), .agg, none⟩
  (.take 4 ⟨(some 21), (.mv (.tmp 1)), .sl, none⟩
  (.take 5 ⟨(some 22), (.mv (.tmp 5)), (.int .i64), none⟩
  (.take 6 ⟨(some 23), (.ia 4 (.tmp 21) (.tmp 22)), .ptr, none⟩
  (.take 7 ⟨(some 24), (.ldN 4 (.tmp 23)), .agg, none⟩
  (.go 8 ⟨(some 25), (.call 86 [(.tmp 20), (.tmp 24)] [.bool]), .bool, none⟩ []
  (.take 9 ⟨(some 26), (.un .not (.tmp 25)), .bool, none⟩
  .done)))))))))) [26, 5, 0, 1])
 (.cond (.tmp 26)
 (.seq (.ops [⟨(some 4), (.mv (.const (.bool false))), .bool, none⟩] [4])
 .ret)
 .skip)))
 (.ops [⟨(some 15), (.mv (.tmp 5)), (.int .i64), none⟩,
  ⟨(some 16), (.bin .add (.tmp 15) (.const (.int .i64 1))), (.int .i64), none⟩,
  ⟨(some 5), (.mv (.tmp 16)), (.int .i64), none⟩] [5, 0, 1]))))))
 (.seq (.ops [⟨(some 4), (.mv (.const (.bool true))), .bool, none⟩] [4])
 .ret))))
def r53 : List Res := [.t 4]
theorem tr53 : trS Tryd.prog [] 27 (Tryd.f53.body.getD .skip) s53 = some s53 := by kernel_rfl
theorem den53 (args : List Value) (w : World) (R : Ending → World → Prop) (hn : args.length ≤ 27) (h : denS Tryd.prog s53 (argsEnv 0 args) w (endK r53 R)) : Calls Tryd.prog 53 args.toArray w R :=
  calls_of_den (pn := []) (fn := Tryd.f53) (c := Tryd.f53.body.getD .skip) Tryd.func53 (by kernel_rfl) (by rw [Tryd.ntmps53]; exact hn) (by rw [Tryd.ntmps53]; exact tr53) (by kernel_rfl) h
def d53 (a0 : Option Addr) (a0n : Nat) (a0c : Nat) (b1 : Option Addr) (b1n : Nat) (b1c : Nat) (w : World) (R : Ending → World → Prop) : Prop :=
 (bif (!decide (((a0n : Nat) : Int) = ((b1n : Nat) : Int))) then
 (R (.returned (.bool false)) w)
 else
 (∃ I2 : Nat → Int → World → Prop,
 (∃ m, I2 m 0 w) ∧
 (∀ (m3 : Nat) (w4 : World) (i5 : Int), I2 m3 i5 w4 →
 (bif (decide (i5 < ((a0n : Nat) : Int))) then
 (∀ w6 : World, w6 = World.drew w4 →
 0 ≤ i5 ∧ i5 < ((a0n : Nat) : Int) ∧ optK a0 fun a7 =>
 ∃ cs8 : List Value, List.length cs8 = 4 ∧ Cells w6 (Addr.add a7 (Int.toNat i5 * 4)) cs8 ∧
 0 ≤ i5 ∧ i5 < ((b1n : Nat) : Int) ∧ optK b1 fun a9 =>
 ∃ cs10 : List Value, List.length cs10 = 4 ∧ Cells w6 (Addr.add a9 (Int.toNat i5 * 4)) cs10 ∧
 Calls Tryd.prog 86 #[(.agg (List.toArray cs8)), (.agg (List.toArray cs10))] w6 fun e11 w12 => ∃ x13 : Bool, e11 = .returned (.bool x13) ∧
 (bif (!x13) then
 (R (.returned (.bool false)) w12)
 else
 (∃ m14, m14 < m3 ∧ I2 m14 (IntKind.wrap .i64 (i5 + 1)) w12)))
 else
 (R (.returned (.bool true)) w4)))))
theorem e53 (a0 : Option Addr) (a0n : Nat) (a0c : Nat) (b1 : Option Addr) (b1n : Nat) (b1c : Nat) (w : World) (R : Ending → World → Prop) : denS Tryd.prog s53 (argsEnv 0 [(.slice a0 a0n a0c), (.slice b1 b1n b1c)]) w (endK r53 R) = d53 a0 a0n a0c b1 b1n b1c w R := by kernel_rfl
theorem c53 (a0 : Option Addr) (a0n : Nat) (a0c : Nat) (b1 : Option Addr) (b1n : Nat) (b1c : Nat) {w : World} {R : Ending → World → Prop} (h : d53 a0 a0n a0c b1 b1n b1c w R) : Calls Tryd.prog 53 #[(.slice a0 a0n a0c), (.slice b1 b1n b1c)] w R :=
  den53 [(.slice a0 a0n a0c), (.slice b1 b1n b1c)] w R (by simp) ((e53 a0 a0n a0c b1 b1n b1c w R).symm ▸ h)

/-- prelude/preludelaw25.sameTx -/
def s86 : S := (.seq (.ops [⟨(some 2), (.box 76 (.tmp 0)), .ptr, none⟩,
  ⟨(some 3), (.box 76 (.tmp 1)), .ptr, none⟩,
  ⟨(some 4), (.mv (.const (.bool false))), .bool, none⟩] [2, 3])
 (.join [] [2, 3]
 (.seq (.ops [⟨(some 8), (.fa 0 (.tmp 2)), .ptr, none⟩,
  ⟨(some 9), (.ld1 (.tmp 8)), (.int .i64), none⟩,
  ⟨(some 10), (.fa 0 (.tmp 3)), .ptr, none⟩,
  ⟨(some 11), (.ld1 (.tmp 10)), (.int .i64), none⟩,
  ⟨(some 12), (.bin .neq (.tmp 9) (.tmp 11)), .bool, none⟩,
  ⟨(some 13), (.mv (.tmp 12)), .bool, none⟩,
  ⟨(some 14), (.fa 1 (.tmp 2)), .ptr, (some (13, false))⟩,
  ⟨(some 15), (.ld1 (.tmp 14)), .sl, (some (13, false))⟩,
  ⟨(some 16), (.len (.tmp 15)), (.int .i64), (some (13, false))⟩,
  ⟨(some 17), (.fa 1 (.tmp 3)), .ptr, (some (13, false))⟩,
  ⟨(some 18), (.ld1 (.tmp 17)), .sl, (some (13, false))⟩,
  ⟨(some 19), (.len (.tmp 18)), (.int .i64), (some (13, false))⟩,
  ⟨(some 20), (.bin .neq (.tmp 16) (.tmp 19)), .bool, (some (13, false))⟩,
  ⟨(some 21), (.pick (.tmp 13) (.const (.bool true)) (.tmp 20)), .bool, none⟩,
  ⟨(some 22), (.mv (.tmp 21)), .bool, none⟩,
  ⟨(some 23), (.fa 2 (.tmp 2)), .ptr, (some (22, false))⟩,
  ⟨(some 24), (.ld1 (.tmp 23)), .sl, (some (22, false))⟩,
  ⟨(some 25), (.len (.tmp 24)), (.int .i64), (some (22, false))⟩,
  ⟨(some 26), (.fa 2 (.tmp 3)), .ptr, (some (22, false))⟩,
  ⟨(some 27), (.ld1 (.tmp 26)), .sl, (some (22, false))⟩,
  ⟨(some 28), (.len (.tmp 27)), (.int .i64), (some (22, false))⟩,
  ⟨(some 29), (.bin .neq (.tmp 25) (.tmp 28)), .bool, (some (22, false))⟩,
  ⟨(some 30), (.pick (.tmp 22) (.const (.bool true)) (.tmp 29)), .bool, none⟩,
  ⟨(some 31), (.mv (.tmp 30)), .bool, none⟩,
  ⟨(some 32), (.fa 3 (.tmp 2)), .ptr, (some (31, false))⟩,
  ⟨(some 33), (.ld1 (.tmp 32)), .sl, (some (31, false))⟩,
  ⟨(some 34), (.len (.tmp 33)), (.int .i64), (some (31, false))⟩,
  ⟨(some 35), (.fa 3 (.tmp 3)), .ptr, (some (31, false))⟩,
  ⟨(some 36), (.ld1 (.tmp 35)), .sl, (some (31, false))⟩,
  ⟨(some 37), (.len (.tmp 36)), (.int .i64), (some (31, false))⟩,
  ⟨(some 38), (.bin .neq (.tmp 34) (.tmp 37)), .bool, (some (31, false))⟩,
  ⟨(some 39), (.pick (.tmp 31) (.const (.bool true)) (.tmp 38)), .bool, none⟩] [39, 2, 3])
 (.cond (.tmp 39)
 (.seq (.ops [⟨(some 4), (.mv (.const (.bool false))), .bool, none⟩] [4])
 .ret)
 .skip))
 (.seq (.seq (.ops [⟨(some 5), (.mv (.const (.int .i64 0))), (.int .i64), none⟩] [5, 2, 3])
 (.block 0
 (.loop [(5, (.int .i64))] [2, 3]
 (.seq (.seq (.ops [⟨(some 40), (.mv (.tmp 5)), (.int .i64), none⟩,
  ⟨(some 41), (.fa 1 (.tmp 2)), .ptr, none⟩,
  ⟨(some 42), (.ld1 (.tmp 41)), .sl, none⟩,
  ⟨(some 43), (.len (.tmp 42)), (.int .i64), none⟩,
  ⟨(some 44), (.bin .lss (.tmp 40) (.tmp 43)), .bool, none⟩] [44, 2, 5, 3])
 (.cond (.tmp 44)
 .skip
 (.exit 0)))
 (.seq (.block 1
 (.seq (.draw (.take 0 ⟨(some 47), (.fa 1 (.tmp 2)), .ptr, none⟩
  (.take 1 ⟨(some 48), (.ld1 (.tmp 47)), .sl, none⟩
  (.take 2 ⟨(some 49), (.mv (.tmp 5)), (.int .i64), none⟩
  (.take 3 ⟨(some 50), (.ia 1 (.tmp 48) (.tmp 49)), .ptr, none⟩
  (.take 4 ⟨(some 51), (.ld1 (.tmp 50)), (.int .i64), none⟩
  (.take 5 ⟨(some 52), (.fa 1 (.tmp 3)), .ptr, none⟩
  (.take 6 ⟨(some 53), (.ld1 (.tmp 52)), .sl, none⟩
  (.take 7 ⟨(some 54), (.mv (.tmp 5)), (.int .i64), none⟩
  (.take 8 ⟨(some 55), (.ia 1 (.tmp 53) (.tmp 54)), .ptr, none⟩
  (.take 9 ⟨(some 56), (.ld1 (.tmp 55)), (.int .i64), none⟩
  (.take 10 ⟨(some 57), (.bin .neq (.tmp 51) (.tmp 56)), .bool, none⟩
  .done))))))))))) [57, 5, 2, 3])
 (.cond (.tmp 57)
 (.seq (.ops [⟨(some 4), (.mv (.const (.bool false))), .bool, none⟩] [4])
 .ret)
 .skip)))
 (.ops [⟨(some 45), (.mv (.tmp 5)), (.int .i64), none⟩,
  ⟨(some 46), (.bin .add (.tmp 45) (.const (.int .i64 1))), (.int .i64), none⟩,
  ⟨(some 5), (.mv (.tmp 46)), (.int .i64), none⟩] [5, 2, 3]))))))
 (.seq (.seq (.ops [⟨(some 6), (.mv (.const (.int .i64 0))), (.int .i64), none⟩] [6, 2, 3])
 (.block 2
 (.loop [(6, (.int .i64))] [2, 3]
 (.seq (.seq (.ops [⟨(some 58), (.mv (.tmp 6)), (.int .i64), none⟩,
  ⟨(some 59), (.fa 2 (.tmp 2)), .ptr, none⟩,
  ⟨(some 60), (.ld1 (.tmp 59)), .sl, none⟩,
  ⟨(some 61), (.len (.tmp 60)), (.int .i64), none⟩,
  ⟨(some 62), (.bin .lss (.tmp 58) (.tmp 61)), .bool, none⟩] [62, 2, 6, 3])
 (.cond (.tmp 62)
 .skip
 (.exit 2)))
 (.seq (.block 3
 (.seq (.draw (.take 0 ⟨(some 65), (.fa 2 (.tmp 2)), .ptr, none⟩
  (.take 1 ⟨(some 66), (.ld1 (.tmp 65)), .sl, none⟩
  (.take 2 ⟨(some 67), (.mv (.tmp 6)), (.int .i64), none⟩
  (.take 3 ⟨(some 68), (.ia 2 (.tmp 66) (.tmp 67)), .ptr, none⟩
  (.take 4 ⟨(some 69), (.ldN 2 (.tmp 68)), .agg, none⟩
  (.take 5 ⟨(some 70), (.fa 2 (.tmp 3)), .ptr, none⟩
  (.take 6 ⟨(some 71), (.ld1 (.tmp 70)), .sl, none⟩
  (.take 7 ⟨(some 72), (.mv (.tmp 6)), (.int .i64), none⟩
  (.take 8 ⟨(some 73), (.ia 2 (.tmp 71) (.tmp 72)), .ptr, none⟩
  (.take 9 ⟨(some 74), (.ldN 2 (.tmp 73)), .agg, none⟩
  (.take 10 ⟨(some 75), (.eqG .neq 129 (.tmp 69) (.tmp 74)), .bool, none⟩
  .done))))))))))) [75, 6, 2, 3])
 (.cond (.tmp 75)
 (.seq (.ops [⟨(some 4), (.mv (.const (.bool false))), .bool, none⟩] [4])
 .ret)
 .skip)))
 (.ops [⟨(some 63), (.mv (.tmp 6)), (.int .i64), none⟩,
  ⟨(some 64), (.bin .add (.tmp 63) (.const (.int .i64 1))), (.int .i64), none⟩,
  ⟨(some 6), (.mv (.tmp 64)), (.int .i64), none⟩] [6, 2, 3]))))))
 (.seq (.seq (.ops [⟨(some 7), (.mv (.const (.int .i64 0))), (.int .i64), none⟩] [7, 2, 3])
 (.block 4
 (.loop [(7, (.int .i64))] [2, 3]
 (.seq (.seq (.ops [⟨(some 76), (.mv (.tmp 7)), (.int .i64), none⟩,
  ⟨(some 77), (.fa 3 (.tmp 2)), .ptr, none⟩,
  ⟨(some 78), (.ld1 (.tmp 77)), .sl, none⟩,
  ⟨(some 79), (.len (.tmp 78)), (.int .i64), none⟩,
  ⟨(some 80), (.bin .lss (.tmp 76) (.tmp 79)), .bool, none⟩] [80, 2, 7, 3])
 (.cond (.tmp 80)
 .skip
 (.exit 4)))
 (.seq (.block 5
 (.seq (.draw (.take 0 ⟨(some 83), (.fa 3 (.tmp 2)), .ptr, none⟩
  (.take 1 ⟨(some 84), (.ld1 (.tmp 83)), .sl, none⟩
  (.take 2 ⟨(some 85), (.mv (.tmp 7)), (.int .i64), none⟩
  (.take 3 ⟨(some 86), (.ia 2 (.tmp 84) (.tmp 85)), .ptr, none⟩
  (.take 4 ⟨(some 87), (.ldN 2 (.tmp 86)), .agg, none⟩
  (.take 5 ⟨(some 88), (.fa 3 (.tmp 3)), .ptr, none⟩
  (.take 6 ⟨(some 89), (.ld1 (.tmp 88)), .sl, none⟩
  (.take 7 ⟨(some 90), (.mv (.tmp 7)), (.int .i64), none⟩
  (.take 8 ⟨(some 91), (.ia 2 (.tmp 89) (.tmp 90)), .ptr, none⟩
  (.take 9 ⟨(some 92), (.ldN 2 (.tmp 91)), .agg, none⟩
  (.take 10 ⟨(some 93), (.eqG .neq 129 (.tmp 87) (.tmp 92)), .bool, none⟩
  .done))))))))))) [93, 7, 2, 3])
 (.cond (.tmp 93)
 (.seq (.ops [⟨(some 4), (.mv (.const (.bool false))), .bool, none⟩] [4])
 .ret)
 .skip)))
 (.ops [⟨(some 81), (.mv (.tmp 7)), (.int .i64), none⟩,
  ⟨(some 82), (.bin .add (.tmp 81) (.const (.int .i64 1))), (.int .i64), none⟩,
  ⟨(some 7), (.mv (.tmp 82)), (.int .i64), none⟩] [7, 2, 3]))))))
 (.seq (.ops [⟨(some 4), (.mv (.const (.bool true))), .bool, none⟩] [4])
 .ret))))))
def r86 : List Res := [.t 4]
theorem tr86 : trS Tryd.prog [] 94 (Tryd.f86.body.getD .skip) s86 = some s86 := by kernel_rfl
theorem den86 (args : List Value) (w : World) (R : Ending → World → Prop) (hn : args.length ≤ 94) (h : denS Tryd.prog s86 (argsEnv 0 args) w (endK r86 R)) : Calls Tryd.prog 86 args.toArray w R :=
  calls_of_den (pn := []) (fn := Tryd.f86) (c := Tryd.f86.body.getD .skip) Tryd.func86 (by kernel_rfl) (by rw [Tryd.ntmps86]; exact hn) (by rw [Tryd.ntmps86]; exact tr86) (by kernel_rfl) h
def d86 (a0 : Array Value) (b1 : Array Value) (w : World) (R : Ending → World → Prop) : Prop :=
 ∀ w2 : World, w2 = World.alloc w (.cells a0 76) →
 ∀ w3 : World, w3 = World.alloc w2 (.cells b1 76) →
 ∃ J4 : World → Prop,
 (∃ x5 : Int, World.cell? w3 (Addr.add ⟨World.heap w |>.size, 0, none⟩ 0) = some (.int .i64 x5) ∧
 ∃ x6 : Int, World.cell? w3 (Addr.add ⟨World.heap w2 |>.size, 0, none⟩ 0) = some (.int .i64 x6) ∧
 (bif (!decide (x5 = x6)) then
 (R (.returned (.bool false)) w3)
 else
 (∃ (x7 : Option Addr) (x7n : Nat) (x7c : Nat), World.cell? w3 (Addr.add ⟨World.heap w |>.size, 0, none⟩ 1) = some (.slice x7 x7n x7c) ∧
 ∃ (x8 : Option Addr) (x8n : Nat) (x8c : Nat), World.cell? w3 (Addr.add ⟨World.heap w2 |>.size, 0, none⟩ 1) = some (.slice x8 x8n x8c) ∧
 (bif (!decide (((x7n : Nat) : Int) = ((x8n : Nat) : Int))) then
 (R (.returned (.bool false)) w3)
 else
 (∃ (x9 : Option Addr) (x9n : Nat) (x9c : Nat), World.cell? w3 (Addr.add ⟨World.heap w |>.size, 0, none⟩ 2) = some (.slice x9 x9n x9c) ∧
 ∃ (x10 : Option Addr) (x10n : Nat) (x10c : Nat), World.cell? w3 (Addr.add ⟨World.heap w2 |>.size, 0, none⟩ 2) = some (.slice x10 x10n x10c) ∧
 (bif (!decide (((x9n : Nat) : Int) = ((x10n : Nat) : Int))) then
 (R (.returned (.bool false)) w3)
 else
 (∃ (x11 : Option Addr) (x11n : Nat) (x11c : Nat), World.cell? w3 (Addr.add ⟨World.heap w |>.size, 0, none⟩ 3) = some (.slice x11 x11n x11c) ∧
 ∃ (x12 : Option Addr) (x12n : Nat) (x12c : Nat), World.cell? w3 (Addr.add ⟨World.heap w2 |>.size, 0, none⟩ 3) = some (.slice x12 x12n x12c) ∧
 (bif (!decide (((x11n : Nat) : Int) = ((x12n : Nat) : Int))) then
 (R (.returned (.bool false)) w3)
 else
 (J4  w3))))))))) ∧
 (∀ (w13 : World), J4  w13 →
 ∃ I14 : Nat → Int → World → Prop,
 (∃ m, I14 m 0 w13) ∧
 (∀ (m15 : Nat) (w16 : World) (i17 : Int), I14 m15 i17 w16 →
 ∃ (x18 : Option Addr) (x18n : Nat) (x18c : Nat), World.cell? w16 (Addr.add ⟨World.heap w |>.size, 0, none⟩ 1) = some (.slice x18 x18n x18c) ∧
 (bif (decide (i17 < ((x18n : Nat) : Int))) then
 (∀ w19 : World, w19 = World.drew w16 →
 ∃ (x20 : Option Addr) (x20n : Nat) (x20c : Nat), World.cell? w19 (Addr.add ⟨World.heap w |>.size, 0, none⟩ 1) = some (.slice x20 x20n x20c) ∧
 0 ≤ i17 ∧ i17 < ((x20n : Nat) : Int) ∧ optK x20 fun a21 =>
 ∃ x22 : Int, World.cell? w19 (Addr.add a21 (Int.toNat i17 * 1)) = some (.int .i64 x22) ∧
 ∃ (x23 : Option Addr) (x23n : Nat) (x23c : Nat), World.cell? w19 (Addr.add ⟨World.heap w2 |>.size, 0, none⟩ 1) = some (.slice x23 x23n x23c) ∧
 0 ≤ i17 ∧ i17 < ((x23n : Nat) : Int) ∧ optK x23 fun a24 =>
 ∃ x25 : Int, World.cell? w19 (Addr.add a24 (Int.toNat i17 * 1)) = some (.int .i64 x25) ∧
 (bif (!decide (x22 = x25)) then
 (R (.returned (.bool false)) w19)
 else
 (∃ m26, m26 < m15 ∧ I14 m26 (IntKind.wrap .i64 (i17 + 1)) w19)))
 else
 (∃ I27 : Nat → Int → World → Prop,
 (∃ m, I27 m 0 w16) ∧
 (∀ (m28 : Nat) (w29 : World) (i30 : Int), I27 m28 i30 w29 →
 ∃ (x31 : Option Addr) (x31n : Nat) (x31c : Nat), World.cell? w29 (Addr.add ⟨World.heap w |>.size, 0, none⟩ 2) = some (.slice x31 x31n x31c) ∧
 (bif (decide (i30 < ((x31n : Nat) : Int))) then
 (∀ w32 : World, w32 = World.drew w29 →
 ∃ (x33 : Option Addr) (x33n : Nat) (x33c : Nat), World.cell? w32 (Addr.add ⟨World.heap w |>.size, 0, none⟩ 2) = some (.slice x33 x33n x33c) ∧
 0 ≤ i30 ∧ i30 < ((x33n : Nat) : Int) ∧ optK x33 fun a34 =>
 ∃ cs35 : List Value, List.length cs35 = 2 ∧ Cells w32 (Addr.add a34 (Int.toNat i30 * 2)) cs35 ∧
 ∃ (x36 : Option Addr) (x36n : Nat) (x36c : Nat), World.cell? w32 (Addr.add ⟨World.heap w2 |>.size, 0, none⟩ 2) = some (.slice x36 x36n x36c) ∧
 0 ≤ i30 ∧ i30 < ((x36n : Nat) : Int) ∧ optK x36 fun a37 =>
 ∃ cs38 : List Value, List.length cs38 = 2 ∧ Cells w32 (Addr.add a37 (Int.toNat i30 * 2)) cs38 ∧
 ∃ q39 : Bool, Sem.run Tryd.prog (do eqGuard .neq 129 (.tmp 69) (.tmp 74) (.agg (List.toArray cs35)) (.agg (List.toArray cs38)); binOp .neq 129 (.agg (List.toArray cs35)) (.agg (List.toArray cs38))) w32 = .ok (.bool q39) w32 ∧
 (bif q39 then
 (R (.returned (.bool false)) w32)
 else
 (∃ m40, m40 < m28 ∧ I27 m40 (IntKind.wrap .i64 (i30 + 1)) w32)))
 else
 (∃ I41 : Nat → Int → World → Prop,
 (∃ m, I41 m 0 w29) ∧
 (∀ (m42 : Nat) (w43 : World) (i44 : Int), I41 m42 i44 w43 →
 ∃ (x45 : Option Addr) (x45n : Nat) (x45c : Nat), World.cell? w43 (Addr.add ⟨World.heap w |>.size, 0, none⟩ 3) = some (.slice x45 x45n x45c) ∧
 (bif (decide (i44 < ((x45n : Nat) : Int))) then
 (∀ w46 : World, w46 = World.drew w43 →
 ∃ (x47 : Option Addr) (x47n : Nat) (x47c : Nat), World.cell? w46 (Addr.add ⟨World.heap w |>.size, 0, none⟩ 3) = some (.slice x47 x47n x47c) ∧
 0 ≤ i44 ∧ i44 < ((x47n : Nat) : Int) ∧ optK x47 fun a48 =>
 ∃ cs49 : List Value, List.length cs49 = 2 ∧ Cells w46 (Addr.add a48 (Int.toNat i44 * 2)) cs49 ∧
 ∃ (x50 : Option Addr) (x50n : Nat) (x50c : Nat), World.cell? w46 (Addr.add ⟨World.heap w2 |>.size, 0, none⟩ 3) = some (.slice x50 x50n x50c) ∧
 0 ≤ i44 ∧ i44 < ((x50n : Nat) : Int) ∧ optK x50 fun a51 =>
 ∃ cs52 : List Value, List.length cs52 = 2 ∧ Cells w46 (Addr.add a51 (Int.toNat i44 * 2)) cs52 ∧
 ∃ q53 : Bool, Sem.run Tryd.prog (do eqGuard .neq 129 (.tmp 87) (.tmp 92) (.agg (List.toArray cs49)) (.agg (List.toArray cs52)); binOp .neq 129 (.agg (List.toArray cs49)) (.agg (List.toArray cs52))) w46 = .ok (.bool q53) w46 ∧
 (bif q53 then
 (R (.returned (.bool false)) w46)
 else
 (∃ m54, m54 < m42 ∧ I41 m54 (IntKind.wrap .i64 (i44 + 1)) w46)))
 else
 (R (.returned (.bool true)) w43))))))))))
theorem e86 (a0 : Array Value) (b1 : Array Value) (w : World) (R : Ending → World → Prop) : denS Tryd.prog s86 (argsEnv 0 [(.agg a0), (.agg b1)]) w (endK r86 R) = d86 a0 b1 w R := by kernel_rfl
theorem c86 (a0 : Array Value) (b1 : Array Value) {w : World} {R : Ending → World → Prop} (h : d86 a0 b1 w R) : Calls Tryd.prog 86 #[(.agg a0), (.agg b1)] w R :=
  den86 [(.agg a0), (.agg b1)] w R (by simp) ((e86 a0 b1 w R).symm ▸ h)

/-- prelude/preludelaw25.sameWants -/
def s23 : S := (.seq (.ops [⟨(some 4), (.mv (.const (.bool false))), .bool, none⟩] [0, 1])
 (.seq (.seq (.ops [⟨(some 6), (.mv (.tmp 0)), .sl, none⟩,
  ⟨(some 7), (.len (.tmp 6)), (.int .i64), none⟩,
  ⟨(some 8), (.mv (.tmp 1)), .sl, none⟩,
  ⟨(some 9), (.len (.tmp 8)), (.int .i64), none⟩,
  ⟨(some 10), (.bin .neq (.tmp 7) (.tmp 9)), .bool, none⟩] [10, 0, 1])
 (.cond (.tmp 10)
 (.seq (.ops [⟨(some 4), (.mv (.const (.bool false))), .bool, none⟩] [4])
 .ret)
 .skip))
 (.seq (.seq (.ops [⟨(some 5), (.mv (.const (.int .i64 0))), (.int .i64), none⟩] [5, 0, 1])
 (.block 0
 (.loop [(5, (.int .i64))] [0, 1]
 (.seq (.seq (.ops [⟨(some 11), (.mv (.tmp 5)), (.int .i64), none⟩,
  ⟨(some 12), (.mv (.tmp 0)), .sl, none⟩,
  ⟨(some 13), (.len (.tmp 12)), (.int .i64), none⟩,
  ⟨(some 14), (.bin .lss (.tmp 11) (.tmp 13)), .bool, none⟩] [14, 0, 5, 1])
 (.cond (.tmp 14)
 .skip
 (.exit 0)))
 (.seq (.block 1
 (.seq (.draw (.take 0 ⟨(some 17), (.mv (.tmp 0)), .sl, none⟩
  (.take 1 ⟨(some 18), (.mv (.tmp 5)), (.int .i64), none⟩
  (.take 2 ⟨(some 19), (.ia 2 (.tmp 17) (.tmp 18)), .ptr, none⟩
  (.take 3 ⟨(some 20), (.ldN 2 (.tmp 19)), .agg, none⟩
  (.take 4 ⟨(some 21), (.mv (.tmp 1)), .sl, none⟩
  (.take 5 ⟨(some 22), (.mv (.tmp 5)), (.int .i64), none⟩
  (.take 6 ⟨(some 23), (.ia 2 (.tmp 21) (.tmp 22)), .ptr, none⟩
  (.take 7 ⟨(some 24), (.ldN 2 (.tmp 23)), .agg, none⟩
  (.take 8 ⟨(some 25), (.eqG .neq 59 (.tmp 20) (.tmp 24)), .bool, none⟩
  .done))))))))) [25, 5, 0, 1])
 (.cond (.tmp 25)
 (.seq (.ops [⟨(some 4), (.mv (.const (.bool false))), .bool, none⟩] [4])
 .ret)
 .skip)))
 (.ops [⟨(some 15), (.mv (.tmp 5)), (.int .i64), none⟩,
  ⟨(some 16), (.bin .add (.tmp 15) (.const (.int .i64 1))), (.int .i64), none⟩,
  ⟨(some 5), (.mv (.tmp 16)), (.int .i64), none⟩] [5, 0, 1]))))))
 (.seq (.ops [⟨(some 4), (.mv (.const (.bool true))), .bool, none⟩] [4])
 .ret))))
def r23 : List Res := [.t 4]
theorem tr23 : trS Tryd.prog [] 26 (Tryd.f23.body.getD .skip) s23 = some s23 := by kernel_rfl
theorem den23 (args : List Value) (w : World) (R : Ending → World → Prop) (hn : args.length ≤ 26) (h : denS Tryd.prog s23 (argsEnv 0 args) w (endK r23 R)) : Calls Tryd.prog 23 args.toArray w R :=
  calls_of_den (pn := []) (fn := Tryd.f23) (c := Tryd.f23.body.getD .skip) Tryd.func23 (by kernel_rfl) (by rw [Tryd.ntmps23]; exact hn) (by rw [Tryd.ntmps23]; exact tr23) (by kernel_rfl) h
def d23 (a0 : Option Addr) (a0n : Nat) (a0c : Nat) (b1 : Option Addr) (b1n : Nat) (b1c : Nat) (w : World) (R : Ending → World → Prop) : Prop :=
 (bif (!decide (((a0n : Nat) : Int) = ((b1n : Nat) : Int))) then
 (R (.returned (.bool false)) w)
 else
 (∃ I2 : Nat → Int → World → Prop,
 (∃ m, I2 m 0 w) ∧
 (∀ (m3 : Nat) (w4 : World) (i5 : Int), I2 m3 i5 w4 →
 (bif (decide (i5 < ((a0n : Nat) : Int))) then
 (∀ w6 : World, w6 = World.drew w4 →
 0 ≤ i5 ∧ i5 < ((a0n : Nat) : Int) ∧ optK a0 fun a7 =>
 ∃ cs8 : List Value, List.length cs8 = 2 ∧ Cells w6 (Addr.add a7 (Int.toNat i5 * 2)) cs8 ∧
 0 ≤ i5 ∧ i5 < ((b1n : Nat) : Int) ∧ optK b1 fun a9 =>
 ∃ cs10 : List Value, List.length cs10 = 2 ∧ Cells w6 (Addr.add a9 (Int.toNat i5 * 2)) cs10 ∧
 ∃ q11 : Bool, Sem.run Tryd.prog (do eqGuard .neq 59 (.tmp 20) (.tmp 24) (.agg (List.toArray cs8)) (.agg (List.toArray cs10)); binOp .neq 59 (.agg (List.toArray cs8)) (.agg (List.toArray cs10))) w6 = .ok (.bool q11) w6 ∧
 (bif q11 then
 (R (.returned (.bool false)) w6)
 else
 (∃ m12, m12 < m3 ∧ I2 m12 (IntKind.wrap .i64 (i5 + 1)) w6)))
 else
 (R (.returned (.bool true)) w4)))))
theorem e23 (a0 : Option Addr) (a0n : Nat) (a0c : Nat) (b1 : Option Addr) (b1n : Nat) (b1c : Nat) (w : World) (R : Ending → World → Prop) : denS Tryd.prog s23 (argsEnv 0 [(.slice a0 a0n a0c), (.slice b1 b1n b1c)]) w (endK r23 R) = d23 a0 a0n a0c b1 b1n b1c w R := by kernel_rfl
theorem c23 (a0 : Option Addr) (a0n : Nat) (a0c : Nat) (b1 : Option Addr) (b1n : Nat) (b1c : Nat) {w : World} {R : Ending → World → Prop} (h : d23 a0 a0n a0c b1 b1n b1c w R) : Calls Tryd.prog 23 #[(.slice a0 a0n a0c), (.slice b1 b1n b1c)] w R :=
  den23 [(.slice a0 a0n a0c), (.slice b1 b1n b1c)] w R (by simp) ((e23 a0 a0n a0c b1 b1n b1c w R).symm ▸ h)

/-- prelude/preludelaw25.sameBytes -/
def s17 : S := (.seq (.ops [⟨(some 4), (.mv (.const (.bool false))), .bool, none⟩] [0, 1])
 (.seq (.seq (.ops [⟨(some 6), (.mv (.tmp 0)), .sl, none⟩,
  ⟨(some 7), (.len (.tmp 6)), (.int .i64), none⟩,
  ⟨(some 8), (.mv (.tmp 1)), .sl, none⟩,
  ⟨(some 9), (.len (.tmp 8)), (.int .i64), none⟩,
  ⟨(some 10), (.bin .neq (.tmp 7) (.tmp 9)), .bool, none⟩] [10, 0, 1])
 (.cond (.tmp 10)
 (.seq (.ops [⟨(some 4), (.mv (.const (.bool false))), .bool, none⟩] [4])
 .ret)
 .skip))
 (.seq (.seq (.ops [⟨(some 5), (.mv (.const (.int .i64 0))), (.int .i64), none⟩] [5, 0, 1])
 (.block 0
 (.loop [(5, (.int .i64))] [0, 1]
 (.seq (.seq (.ops [⟨(some 11), (.mv (.tmp 5)), (.int .i64), none⟩,
  ⟨(some 12), (.mv (.tmp 0)), .sl, none⟩,
  ⟨(some 13), (.len (.tmp 12)), (.int .i64), none⟩,
  ⟨(some 14), (.bin .lss (.tmp 11) (.tmp 13)), .bool, none⟩] [14, 0, 5, 1])
 (.cond (.tmp 14)
 .skip
 (.exit 0)))
 (.seq (.block 1
 (.seq (.draw (.take 0 ⟨(some 17), (.mv (.tmp 0)), .sl, none⟩
  (.take 1 ⟨(some 18), (.mv (.tmp 5)), (.int .i64), none⟩
  (.take 2 ⟨(some 19), (.ia 1 (.tmp 17) (.tmp 18)), .ptr, none⟩
  (.take 3 ⟨(some 20), (.ld1 (.tmp 19)), (.int .u8), none⟩
  (.take 4 ⟨(some 21), (.mv (.tmp 1)), .sl, none⟩
  (.take 5 ⟨(some 22), (.mv (.tmp 5)), (.int .i64), none⟩
  (.take 6 ⟨(some 23), (.ia 1 (.tmp 21) (.tmp 22)), .ptr, none⟩
  (.take 7 ⟨(some 24), (.ld1 (.tmp 23)), (.int .u8), none⟩
  (.take 8 ⟨(some 25), (.bin .neq (.tmp 20) (.tmp 24)), .bool, none⟩
  .done))))))))) [25, 5, 0, 1])
 (.cond (.tmp 25)
 (.seq (.ops [⟨(some 4), (.mv (.const (.bool false))), .bool, none⟩] [4])
 .ret)
 .skip)))
 (.ops [⟨(some 15), (.mv (.tmp 5)), (.int .i64), none⟩,
  ⟨(some 16), (.bin .add (.tmp 15) (.const (.int .i64 1))), (.int .i64), none⟩,
  ⟨(some 5), (.mv (.tmp 16)), (.int .i64), none⟩] [5, 0, 1]))))))
 (.seq (.ops [⟨(some 4), (.mv (.const (.bool true))), .bool, none⟩] [4])
 .ret))))
def r17 : List Res := [.t 4]
theorem tr17 : trS Tryd.prog [] 26 (Tryd.f17.body.getD .skip) s17 = some s17 := by kernel_rfl
theorem den17 (args : List Value) (w : World) (R : Ending → World → Prop) (hn : args.length ≤ 26) (h : denS Tryd.prog s17 (argsEnv 0 args) w (endK r17 R)) : Calls Tryd.prog 17 args.toArray w R :=
  calls_of_den (pn := []) (fn := Tryd.f17) (c := Tryd.f17.body.getD .skip) Tryd.func17 (by kernel_rfl) (by rw [Tryd.ntmps17]; exact hn) (by rw [Tryd.ntmps17]; exact tr17) (by kernel_rfl) h
def d17 (a0 : Option Addr) (a0n : Nat) (a0c : Nat) (b1 : Option Addr) (b1n : Nat) (b1c : Nat) (w : World) (R : Ending → World → Prop) : Prop :=
 (bif (!decide (((a0n : Nat) : Int) = ((b1n : Nat) : Int))) then
 (R (.returned (.bool false)) w)
 else
 (∃ I2 : Nat → Int → World → Prop,
 (∃ m, I2 m 0 w) ∧
 (∀ (m3 : Nat) (w4 : World) (i5 : Int), I2 m3 i5 w4 →
 (bif (decide (i5 < ((a0n : Nat) : Int))) then
 (∀ w6 : World, w6 = World.drew w4 →
 0 ≤ i5 ∧ i5 < ((a0n : Nat) : Int) ∧ optK a0 fun a7 =>
 ∃ x8 : Int, World.cell? w6 (Addr.add a7 (Int.toNat i5 * 1)) = some (.int .u8 x8) ∧
 0 ≤ i5 ∧ i5 < ((b1n : Nat) : Int) ∧ optK b1 fun a9 =>
 ∃ x10 : Int, World.cell? w6 (Addr.add a9 (Int.toNat i5 * 1)) = some (.int .u8 x10) ∧
 (bif (!decide (x8 = x10)) then
 (R (.returned (.bool false)) w6)
 else
 (∃ m11, m11 < m3 ∧ I2 m11 (IntKind.wrap .i64 (i5 + 1)) w6)))
 else
 (R (.returned (.bool true)) w4)))))
theorem e17 (a0 : Option Addr) (a0n : Nat) (a0c : Nat) (b1 : Option Addr) (b1n : Nat) (b1c : Nat) (w : World) (R : Ending → World → Prop) : denS Tryd.prog s17 (argsEnv 0 [(.slice a0 a0n a0c), (.slice b1 b1n b1c)]) w (endK r17 R) = d17 a0 a0n a0c b1 b1n b1c w R := by kernel_rfl
theorem c17 (a0 : Option Addr) (a0n : Nat) (a0c : Nat) (b1 : Option Addr) (b1n : Nat) (b1c : Nat) {w : World} {R : Ending → World → Prop} (h : d17 a0 a0n a0c b1 b1n b1c w R) : Calls Tryd.prog 17 #[(.slice a0 a0n a0c), (.slice b1 b1n b1c)] w R :=
  den17 [(.slice a0 a0n a0c), (.slice b1 b1n b1c)] w R (by simp) ((e17 a0 a0n a0c b1 b1n b1c w R).symm ▸ h)

/-- prelude/preludelaw25.MergeFrames -/
def s4 : S := (.seq (.ops [⟨(some 3), (.box 37 (.tmp 0)), .ptr, none⟩,
  ⟨(some 6), (.mv (.const (.bool false))), .bool, none⟩] [3, 1, 2])
 (.seq (.seq (.ops [⟨(some 27), (.fa 2 (.tmp 3)), .ptr, none⟩,
  ⟨(some 28), (.ld1 (.tmp 27)), .sl, none⟩,
  ⟨(some 29), (.call 11 [(.tmp 28)] [.bool]), .bool, none⟩] [29, 3, 1, 2])
 (.cond (.tmp 29)
 (.seq (.ops [⟨(some 6), (.mv (.const (.bool true))), .bool, none⟩] [6])
 .ret)
 .skip))
 (.seq (.ops [⟨(some 31), (.ldN 3 (.tmp 3)), .agg, none⟩,
  ⟨(some 32), (.call 13 [(.tmp 31)] [.agg]), .agg, none⟩,
  ⟨(some 33), (.call 12 [(.tmp 32)] [.sl, (.int .i64)]), .any, none⟩,
  ⟨(some 30), (.mv (.tmp 33)), .any, none⟩,
  ⟨(some 34), (.ext 0 (.tmp 30)), .sl, none⟩,
  ⟨(some 35), (.ext 1 (.tmp 30)), (.int .i64), none⟩,
  ⟨(some 7), (.mv (.tmp 34)), .sl, none⟩,
  ⟨(some 8), (.mv (.tmp 35)), (.int .i64), none⟩] [3, 1, 8, 7, 2])
 (.seq (.ops [⟨(some 37), (.ldN 3 (.tmp 3)), .agg, none⟩,
  ⟨(some 38), (.call 14 [(.tmp 37)] [.sl, (.int .i64)]), .any, none⟩,
  ⟨(some 36), (.mv (.tmp 38)), .any, none⟩,
  ⟨(some 39), (.ext 0 (.tmp 36)), .sl, none⟩,
  ⟨(some 40), (.ext 1 (.tmp 36)), (.int .i64), none⟩,
  ⟨(some 9), (.mv (.tmp 39)), .sl, none⟩,
  ⟨(some 10), (.mv (.tmp 40)), (.int .i64), none⟩] [1, 8, 10, 7, 9, 2])
 (.seq (.ops [⟨(some 42), (.bld0 59 0), .sl, none⟩,
  ⟨(some 43), (.mv (.tmp 1)), .sl, none⟩,
  ⟨(some 44), (.app #[38, 38] 38 (.tmp 42) (.tmp 43)), .sl, none⟩,
  ⟨(some 45), (.call 15 [(.tmp 44)] [.sl, (.int .i64)]), .any, none⟩,
  ⟨(some 41), (.mv (.tmp 45)), .any, none⟩,
  ⟨(some 46), (.ext 0 (.tmp 41)), .sl, none⟩,
  ⟨(some 47), (.ext 1 (.tmp 41)), (.int .i64), none⟩,
  ⟨(some 11), (.mv (.tmp 46)), .sl, none⟩,
  ⟨(some 12), (.mv (.tmp 47)), (.int .i64), none⟩] [1, 8, 10, 7, 9, 12, 11, 2])
 (.seq (.ops [⟨(some 49), (.mv (.tmp 1)), .sl, none⟩,
  ⟨(some 50), (.call 16 [(.tmp 49)] [.sl, (.int .i64)]), .any, none⟩,
  ⟨(some 48), (.mv (.tmp 50)), .any, none⟩,
  ⟨(some 51), (.ext 0 (.tmp 48)), .sl, none⟩,
  ⟨(some 52), (.ext 1 (.tmp 48)), (.int .i64), none⟩,
  ⟨(some 13), (.mv (.tmp 51)), .sl, none⟩,
  ⟨(some 14), (.mv (.tmp 52)), (.int .i64), none⟩] [8, 10, 7, 9, 12, 14, 11, 13, 2])
 (.join [] [2]
 (.seq (.ops [⟨(some 53), (.mv (.tmp 8)), (.int .i64), none⟩,
  ⟨(some 54), (.mv (.tmp 10)), (.int .i64), none⟩,
  ⟨(some 55), (.bin .neq (.tmp 53) (.tmp 54)), .bool, none⟩,
  ⟨(some 56), (.mv (.tmp 55)), .bool, none⟩,
  ⟨(some 57), (.mv (.tmp 7)), .sl, (some (56, false))⟩,
  ⟨(some 58), (.mv (.tmp 9)), .sl, (some (56, false))⟩,
  ⟨(some 59), (.call 17 [(.tmp 57), (.tmp 58)] [.bool]), .bool, (some (56, false))⟩,
  ⟨(some 60), (.un .not (.tmp 59)), .bool, (some (56, false))⟩,
  ⟨(some 61), (.pick (.tmp 56) (.const (.bool true)) (.tmp 60)), .bool, none⟩,
  ⟨(some 62), (.mv (.tmp 61)), .bool, none⟩,
  ⟨(some 63), (.mv (.tmp 12)), (.int .i64), (some (62, false))⟩,
  ⟨(some 64), (.mv (.tmp 14)), (.int .i64), (some (62, false))⟩,
  ⟨(some 65), (.bin .neq (.tmp 63) (.tmp 64)), .bool, (some (62, false))⟩,
  ⟨(some 66), (.pick (.tmp 62) (.const (.bool true)) (.tmp 65)), .bool, none⟩,
  ⟨(some 67), (.mv (.tmp 66)), .bool, none⟩,
  ⟨(some 68), (.mv (.tmp 11)), .sl, (some (67, false))⟩,
  ⟨(some 69), (.mv (.tmp 13)), .sl, (some (67, false))⟩,
  ⟨(some 70), (.call 17 [(.tmp 68), (.tmp 69)] [.bool]), .bool, (some (67, false))⟩,
  ⟨(some 71), (.un .not (.tmp 70)), .bool, (some (67, false))⟩,
  ⟨(some 72), (.pick (.tmp 67) (.const (.bool true)) (.tmp 71)), .bool, none⟩] [72, 2])
 (.cond (.tmp 72)
 (.seq (.ops [⟨(some 6), (.mv (.const (.bool false))), .bool, none⟩] [6])
 .ret)
 .skip))
 (.seq (.ops [⟨(some 73), (.bld0 5 0), .sl, none⟩,
  ⟨(some 74), (.mv (.tmp 2)), .sl, none⟩,
  ⟨(some 75), (.app #[22, 22] 22 (.tmp 73) (.tmp 74)), .sl, none⟩,
  ⟨(some 76), (.bldS 5 1 1 [(0, (.const (.int .u8 7)))]), .sl, none⟩,
  ⟨(some 77), (.app #[22, 22] 22 (.tmp 75) (.tmp 76)), .sl, none⟩,
  ⟨(some 15), (.mv (.tmp 77)), .sl, none⟩] [15, 2])
 (.seq (.ops [⟨(some 79), (.mv (.tmp 15)), .sl, none⟩,
  ⟨(some 80), (.mv (.tmp 2)), .sl, none⟩,
  ⟨(some 81), (.len (.tmp 80)), (.int .i64), none⟩,
  ⟨(some 82), (.slS 1 (.tmp 79) none (some (.tmp 81)) none), .sl, none⟩,
  ⟨(some 83), (.call 18 [(.tmp 82)] [.agg, (.int .i64)]), .any, none⟩,
  ⟨(some 78), (.mv (.tmp 83)), .any, none⟩,
  ⟨(some 84), (.ext 0 (.tmp 78)), .agg, none⟩,
  ⟨(some 85), (.ext 1 (.tmp 78)), (.int .i64), none⟩,
  ⟨(some 16), (.alloc 37), .ptr, none⟩,
  ⟨none, (.stN 3 (.tmp 16) (.tmp 84)), .any, none⟩,
  ⟨(some 17), (.mv (.tmp 85)), (.int .i64), none⟩] [2, 15, 17, 16])
 (.seq (.ops [⟨(some 87), (.mv (.tmp 2)), .sl, none⟩,
  ⟨(some 88), (.call 19 [(.tmp 87)] [.agg, (.int .i64)]), .any, none⟩,
  ⟨(some 86), (.mv (.tmp 88)), .any, none⟩,
  ⟨(some 89), (.ext 0 (.tmp 86)), .agg, none⟩,
  ⟨(some 90), (.ext 1 (.tmp 86)), (.int .i64), none⟩,
  ⟨(some 18), (.alloc 37), .ptr, none⟩,
  ⟨none, (.stN 3 (.tmp 18) (.tmp 89)), .any, none⟩,
  ⟨(some 19), (.mv (.tmp 90)), (.int .i64), none⟩] [15, 2, 17, 19, 16, 18])
 (.seq (.ops [⟨(some 92), (.mv (.tmp 15)), .sl, none⟩,
  ⟨(some 93), (.mv (.tmp 2)), .sl, none⟩,
  ⟨(some 94), (.len (.tmp 93)), (.int .i64), none⟩,
  ⟨(some 95), (.slS 1 (.tmp 92) none (some (.tmp 94)) none), .sl, none⟩,
  ⟨(some 96), (.call 20 [(.tmp 95)] [.sl, (.int .i64)]), .any, none⟩,
  ⟨(some 91), (.mv (.tmp 96)), .any, none⟩,
  ⟨(some 97), (.ext 0 (.tmp 91)), .sl, none⟩,
  ⟨(some 98), (.ext 1 (.tmp 91)), (.int .i64), none⟩,
  ⟨(some 20), (.mv (.tmp 97)), .sl, none⟩,
  ⟨(some 21), (.mv (.tmp 98)), (.int .i64), none⟩] [15, 2, 17, 19, 16, 18, 21, 20])
 (.seq (.ops [⟨(some 100), (.mv (.tmp 15)), .sl, none⟩,
  ⟨(some 101), (.mv (.tmp 2)), .sl, none⟩,
  ⟨(some 102), (.len (.tmp 101)), (.int .i64), none⟩,
  ⟨(some 103), (.slS 1 (.tmp 100) none (some (.tmp 102)) none), .sl, none⟩,
  ⟨(some 104), (.call 20 [(.tmp 103)] [.sl, (.int .i64)]), .any, none⟩,
  ⟨(some 99), (.mv (.tmp 104)), .any, none⟩,
  ⟨(some 105), (.ext 0 (.tmp 99)), .sl, none⟩,
  ⟨(some 106), (.ext 1 (.tmp 99)), (.int .i64), none⟩,
  ⟨(some 22), (.mv (.tmp 105)), .sl, none⟩,
  ⟨(some 23), (.mv (.tmp 106)), (.int .i64), none⟩] [2, 17, 19, 16, 18, 21, 20, 15, 22])
 (.seq (.ops [⟨(some 108), (.mv (.tmp 2)), .sl, none⟩,
  ⟨(some 109), (.call 21 [(.tmp 108)] [.sl, (.int .i64)]), .any, none⟩,
  ⟨(some 107), (.mv (.tmp 109)), .any, none⟩,
  ⟨(some 110), (.ext 0 (.tmp 107)), .sl, none⟩,
  ⟨(some 111), (.ext 1 (.tmp 107)), (.int .i64), none⟩,
  ⟨(some 24), (.mv (.tmp 110)), .sl, none⟩,
  ⟨(some 25), (.mv (.tmp 111)), (.int .i64), none⟩] [17, 19, 16, 18, 21, 25, 20, 24, 15, 2, 22])
 (.join [] [20, 22, 24]
 (.seq (.ops [⟨(some 112), (.mv (.tmp 17)), (.int .i64), none⟩,
  ⟨(some 113), (.mv (.tmp 19)), (.int .i64), none⟩,
  ⟨(some 114), (.bin .neq (.tmp 112) (.tmp 113)), .bool, none⟩,
  ⟨(some 115), (.mv (.tmp 114)), .bool, none⟩,
  ⟨(some 116), (.ldN 3 (.tmp 16)), .agg, (some (115, false))⟩,
  ⟨(some 117), (.ldN 3 (.tmp 18)), .agg, (some (115, false))⟩,
  ⟨(some 118), (.call 22 [(.tmp 116), (.tmp 117)] [.bool]), .bool, (some (115, false))⟩,
  ⟨(some 119), (.un .not (.tmp 118)), .bool, (some (115, false))⟩,
  ⟨(some 120), (.pick (.tmp 115) (.const (.bool true)) (.tmp 119)), .bool, none⟩,
  ⟨(some 121), (.mv (.tmp 120)), .bool, none⟩,
  ⟨(some 122), (.mv (.tmp 21)), (.int .i64), (some (121, false))⟩,
  ⟨(some 123), (.mv (.tmp 25)), (.int .i64), (some (121, false))⟩,
  ⟨(some 124), (.bin .neq (.tmp 122) (.tmp 123)), .bool, (some (121, false))⟩,
  ⟨(some 125), (.pick (.tmp 121) (.const (.bool true)) (.tmp 124)), .bool, none⟩,
  ⟨(some 126), (.mv (.tmp 125)), .bool, none⟩,
  ⟨(some 127), (.mv (.tmp 20)), .sl, (some (126, false))⟩,
  ⟨(some 128), (.mv (.tmp 24)), .sl, (some (126, false))⟩,
  ⟨(some 129), (.call 23 [(.tmp 127), (.tmp 128)] [.bool]), .bool, (some (126, false))⟩,
  ⟨(some 130), (.un .not (.tmp 129)), .bool, (some (126, false))⟩,
  ⟨(some 131), (.pick (.tmp 126) (.const (.bool true)) (.tmp 130)), .bool, none⟩,
  ⟨(some 132), (.mv (.tmp 131)), .bool, none⟩,
  ⟨(some 133), (.mv (.tmp 15)), .sl, (some (132, false))⟩,
  ⟨(some 134), (.mv (.tmp 2)), .sl, (some (132, false))⟩,
  ⟨(some 135), (.len (.tmp 134)), (.int .i64), (some (132, false))⟩,
  ⟨(some 136), (.slS 1 (.tmp 133) none (some (.tmp 135)) none), .sl, (some (132, false))⟩,
  ⟨(some 137), (.mv (.tmp 2)), .sl, (some (132, false))⟩,
  ⟨(some 138), (.call 17 [(.tmp 136), (.tmp 137)] [.bool]), .bool, (some (132, false))⟩,
  ⟨(some 139), (.un .not (.tmp 138)), .bool, (some (132, false))⟩,
  ⟨(some 140), (.pick (.tmp 132) (.const (.bool true)) (.tmp 139)), .bool, none⟩,
  ⟨(some 141), (.mv (.tmp 140)), .bool, none⟩,
  ⟨(some 142), (.mv (.tmp 15)), .sl, (some (141, false))⟩,
  ⟨(some 143), (.mv (.tmp 2)), .sl, (some (141, false))⟩,
  ⟨(some 144), (.len (.tmp 143)), (.int .i64), (some (141, false))⟩,
  ⟨(some 145), (.ia 1 (.tmp 142) (.tmp 144)), .ptr, (some (141, false))⟩,
  ⟨(some 146), (.ld1 (.tmp 145)), (.int .u8), (some (141, false))⟩,
  ⟨(some 147), (.bin .neq (.tmp 146) (.const (.int .u8 7))), .bool, (some (141, false))⟩,
  ⟨(some 148), (.pick (.tmp 141) (.const (.bool true)) (.tmp 147)), .bool, none⟩] [148, 20, 22, 24])
 (.cond (.tmp 148)
 (.seq (.ops [⟨(some 6), (.mv (.const (.bool false))), .bool, none⟩] [6])
 .ret)
 .skip))
 (.seq (.seq (.ops [⟨(some 26), (.mv (.const (.int .i64 0))), (.int .i64), none⟩] [26, 20, 22, 24])
 (.block 0
 (.loop [(26, (.int .i64))] [20, 22, 24]
 (.seq (.seq (.ops [⟨(some 149), (.mv (.tmp 26)), (.int .i64), none⟩,
  ⟨(some 150), (.mv (.tmp 20)), .sl, none⟩,
  ⟨(some 151), (.len (.tmp 150)), (.int .i64), none⟩,
  ⟨(some 152), (.bin .lss (.tmp 149) (.tmp 151)), .bool, none⟩] [152, 20, 26, 22, 24])
 (.cond (.tmp 152)
 .skip
 (.exit 0)))
 (.seq (.block 1
 (.ops [⟨(some 155), (.mv (.tmp 20)), .sl, none⟩,
  ⟨(some 156), (.mv (.tmp 26)), (.int .i64), none⟩,
  ⟨(some 157), (.ia 2 (.tmp 155) (.tmp 156)), .ptr, none⟩,
  ⟨(some 158), (.fa 0 (.tmp 157)), .ptr, none⟩,
  ⟨none, (.st1 (.tmp 158) (.const (.int .i64 (-9)))), .any, none⟩] [26, 20, 22, 24]))
 (.ops [⟨(some 153), (.mv (.tmp 26)), (.int .i64), none⟩,
  ⟨(some 154), (.bin .add (.tmp 153) (.const (.int .i64 1))), (.int .i64), none⟩,
  ⟨(some 26), (.mv (.tmp 154)), (.int .i64), none⟩] [26, 20, 22, 24]))))))
 (.seq (.ops [⟨(some 159), (.mv (.tmp 22)), .sl, none⟩,
  ⟨(some 160), (.mv (.tmp 24)), .sl, none⟩,
  ⟨(some 161), (.call 23 [(.tmp 159), (.tmp 160)] [.bool]), .bool, none⟩,
  ⟨(some 6), (.mv (.tmp 161)), .bool, none⟩] [6])
 .ret))))))))))))))))
def r4 : List Res := [.t 6]
theorem tr4 : trS Tryd.prog [] 162 (Tryd.f4.body.getD .skip) s4 = some s4 := by kernel_rfl
theorem den4 (args : List Value) (w : World) (R : Ending → World → Prop) (hn : args.length ≤ 162) (h : denS Tryd.prog s4 (argsEnv 0 args) w (endK r4 R)) : Calls Tryd.prog 4 args.toArray w R :=
  calls_of_den (pn := []) (fn := Tryd.f4) (c := Tryd.f4.body.getD .skip) Tryd.func4 (by kernel_rfl) (by rw [Tryd.ntmps4]; exact hn) (by rw [Tryd.ntmps4]; exact tr4) (by kernel_rfl) h
def d4 (p0 : Array Value) (l1 : Option Addr) (l1n : Nat) (l1c : Nat) (b2 : Option Addr) (b2n : Nat) (b2c : Nat) (w : World) (R : Ending → World → Prop) : Prop :=
 ∀ w3 : World, w3 = World.alloc w (.cells p0 37) →
 ∃ (x4 : Option Addr) (x4n : Nat) (x4c : Nat), World.cell? w3 (Addr.add ⟨World.heap w |>.size, 0, none⟩ 2) = some (.slice x4 x4n x4c) ∧
 Calls Tryd.prog 11 #[(.slice x4 x4n x4c)] w3 fun e5 w6 => ∃ x7 : Bool, e5 = .returned (.bool x7) ∧
 (bif x7 then
 (R (.returned (.bool true)) w6)
 else
 (∃ cs8 : List Value, List.length cs8 = 3 ∧ Cells w6 ⟨World.heap w |>.size, 0, none⟩ cs8 ∧
 Calls Tryd.prog 13 #[(.agg (List.toArray cs8))] w6 fun e9 w10 => ∃ x11 : Array Value, e9 = .returned (.agg x11) ∧
 Calls Tryd.prog 12 #[(.agg x11)] w10 fun e12 w13 => ∃ (x14 : Option Addr) (x14n : Nat) (x14c : Nat), ∃ x15 : Int, e12 = .returned (.tuple #[(.slice x14 x14n x14c), (.int .i64 x15)]) ∧
 ∃ (x16 : Option Addr) (x16n : Nat) (x16c : Nat), (#[(.slice x14 x14n x14c), (.int .i64 x15)] : Array Value)[0]? = some (.slice x16 x16n x16c) ∧
 ∃ x17 : Int, (#[(.slice x14 x14n x14c), (.int .i64 x15)] : Array Value)[1]? = some (.int .i64 x17) ∧
 ∃ cs18 : List Value, List.length cs18 = 3 ∧ Cells w13 ⟨World.heap w |>.size, 0, none⟩ cs18 ∧
 Calls Tryd.prog 14 #[(.agg (List.toArray cs18))] w13 fun e19 w20 => ∃ (x21 : Option Addr) (x21n : Nat) (x21c : Nat), ∃ x22 : Int, e19 = .returned (.tuple #[(.slice x21 x21n x21c), (.int .i64 x22)]) ∧
 ∃ (x23 : Option Addr) (x23n : Nat) (x23c : Nat), (#[(.slice x21 x21n x21c), (.int .i64 x22)] : Array Value)[0]? = some (.slice x23 x23n x23c) ∧
 ∃ x24 : Int, (#[(.slice x21 x21n x21c), (.int .i64 x22)] : Array Value)[1]? = some (.int .i64 x24) ∧
 ∀ w25 : World, w25 = World.alloc w20 (.cells #[] 59) →
 RunV Tryd.prog (Builtin.append_ #[38, 38] 38 #[(.slice (some ⟨World.heap w20 |>.size, 0, none⟩) 0 0), (.slice l1 l1n l1c)]) w25 fun v26 w27 => ∃ (x28 : Option Addr) (x28n : Nat) (x28c : Nat), v26 = (.slice x28 x28n x28c) ∧
 Calls Tryd.prog 15 #[(.slice x28 x28n x28c)] w27 fun e29 w30 => ∃ (x31 : Option Addr) (x31n : Nat) (x31c : Nat), ∃ x32 : Int, e29 = .returned (.tuple #[(.slice x31 x31n x31c), (.int .i64 x32)]) ∧
 ∃ (x33 : Option Addr) (x33n : Nat) (x33c : Nat), (#[(.slice x31 x31n x31c), (.int .i64 x32)] : Array Value)[0]? = some (.slice x33 x33n x33c) ∧
 ∃ x34 : Int, (#[(.slice x31 x31n x31c), (.int .i64 x32)] : Array Value)[1]? = some (.int .i64 x34) ∧
 Calls Tryd.prog 16 #[(.slice l1 l1n l1c)] w30 fun e35 w36 => ∃ (x37 : Option Addr) (x37n : Nat) (x37c : Nat), ∃ x38 : Int, e35 = .returned (.tuple #[(.slice x37 x37n x37c), (.int .i64 x38)]) ∧
 ∃ (x39 : Option Addr) (x39n : Nat) (x39c : Nat), (#[(.slice x37 x37n x37c), (.int .i64 x38)] : Array Value)[0]? = some (.slice x39 x39n x39c) ∧
 ∃ x40 : Int, (#[(.slice x37 x37n x37c), (.int .i64 x38)] : Array Value)[1]? = some (.int .i64 x40) ∧
 ∃ J41 : World → Prop,
 ((bif (!decide (x17 = x24)) then
 (R (.returned (.bool false)) w36)
 else
 (Calls Tryd.prog 17 #[(.slice x16 x16n x16c), (.slice x23 x23n x23c)] w36 fun e42 w43 => ∃ x44 : Bool, e42 = .returned (.bool x44) ∧
 (bif (!x44) then
 (R (.returned (.bool false)) w43)
 else
 ((bif (!decide (x34 = x40)) then
 (R (.returned (.bool false)) w43)
 else
 (Calls Tryd.prog 17 #[(.slice x33 x33n x33c), (.slice x39 x39n x39c)] w43 fun e45 w46 => ∃ x47 : Bool, e45 = .returned (.bool x47) ∧
 (bif (!x47) then
 (R (.returned (.bool false)) w46)
 else
 (J41  w46))))))))) ∧
 (∀ (w48 : World), J41  w48 →
 ∀ w49 : World, w49 = World.alloc w48 (.cells #[] 5) →
 RunV Tryd.prog (Builtin.append_ #[22, 22] 22 #[(.slice (some ⟨World.heap w48 |>.size, 0, none⟩) 0 0), (.slice b2 b2n b2c)]) w49 fun v50 w51 => ∃ (x52 : Option Addr) (x52n : Nat) (x52c : Nat), v50 = (.slice x52 x52n x52c) ∧
 ∃ cs53, fillL (.elems 1) (zrep (zc Tryd.prog 5) (1 * 1)) [(0, (.int .u8 7))] = some cs53 ∧
 ∀ w54 : World, w54 = World.alloc w51 (.cells (List.toArray cs53) 5) →
 RunV Tryd.prog (Builtin.append_ #[22, 22] 22 #[(.slice x52 x52n x52c), (.slice (some ⟨World.heap w51 |>.size, 0, none⟩) 1 1)]) w54 fun v55 w56 => ∃ (x57 : Option Addr) (x57n : Nat) (x57c : Nat), v55 = (.slice x57 x57n x57c) ∧
 0 ≤ ((b2n : Nat) : Int) ∧ ((b2n : Nat) : Int) ≤ ((x57c : Nat) : Int) ∧ Calls Tryd.prog 18 #[(.slice (if x57c = 0 then x57 else Option.map (fun y => Addr.add y (0 * 1)) x57) ((Int.toNat ((b2n : Nat) : Int)) - 0) (x57c - 0))] w56 fun e58 w59 => ∃ x60 : Array Value, ∃ x61 : Int, e58 = .returned (.tuple #[(.agg x60), (.int .i64 x61)]) ∧
 ∃ x62 : Array Value, (#[(.agg x60), (.int .i64 x61)] : Array Value)[0]? = some (.agg x62) ∧
 ∃ x63 : Int, (#[(.agg x60), (.int .i64 x61)] : Array Value)[1]? = some (.int .i64 x63) ∧
 ∀ w64 : World, w64 = World.alloc w59 (.cells (zc Tryd.prog 37).toArray 37) →
 Array.size x62 = 3 ∧ (∀ u ∈ Array.toList x62, one u = true) ∧ Room w64 ⟨World.heap w59 |>.size, 0, none⟩ 3 ∧
 ∀ w65 : World, w65 = setCells w64 ⟨World.heap w59 |>.size, 0, none⟩ (Array.toList x62) 0 →
 Calls Tryd.prog 19 #[(.slice b2 b2n b2c)] w65 fun e66 w67 => ∃ x68 : Array Value, ∃ x69 : Int, e66 = .returned (.tuple #[(.agg x68), (.int .i64 x69)]) ∧
 ∃ x70 : Array Value, (#[(.agg x68), (.int .i64 x69)] : Array Value)[0]? = some (.agg x70) ∧
 ∃ x71 : Int, (#[(.agg x68), (.int .i64 x69)] : Array Value)[1]? = some (.int .i64 x71) ∧
 ∀ w72 : World, w72 = World.alloc w67 (.cells (zc Tryd.prog 37).toArray 37) →
 Array.size x70 = 3 ∧ (∀ u ∈ Array.toList x70, one u = true) ∧ Room w72 ⟨World.heap w67 |>.size, 0, none⟩ 3 ∧
 ∀ w73 : World, w73 = setCells w72 ⟨World.heap w67 |>.size, 0, none⟩ (Array.toList x70) 0 →
 0 ≤ ((b2n : Nat) : Int) ∧ ((b2n : Nat) : Int) ≤ ((x57c : Nat) : Int) ∧ Calls Tryd.prog 20 #[(.slice (if x57c = 0 then x57 else Option.map (fun y => Addr.add y (0 * 1)) x57) ((Int.toNat ((b2n : Nat) : Int)) - 0) (x57c - 0))] w73 fun e74 w75 => ∃ (x76 : Option Addr) (x76n : Nat) (x76c : Nat), ∃ x77 : Int, e74 = .returned (.tuple #[(.slice x76 x76n x76c), (.int .i64 x77)]) ∧
 ∃ (x78 : Option Addr) (x78n : Nat) (x78c : Nat), (#[(.slice x76 x76n x76c), (.int .i64 x77)] : Array Value)[0]? = some (.slice x78 x78n x78c) ∧
 ∃ x79 : Int, (#[(.slice x76 x76n x76c), (.int .i64 x77)] : Array Value)[1]? = some (.int .i64 x79) ∧
 0 ≤ ((b2n : Nat) : Int) ∧ ((b2n : Nat) : Int) ≤ ((x57c : Nat) : Int) ∧ Calls Tryd.prog 20 #[(.slice (if x57c = 0 then x57 else Option.map (fun y => Addr.add y (0 * 1)) x57) ((Int.toNat ((b2n : Nat) : Int)) - 0) (x57c - 0))] w75 fun e80 w81 => ∃ (x82 : Option Addr) (x82n : Nat) (x82c : Nat), ∃ x83 : Int, e80 = .returned (.tuple #[(.slice x82 x82n x82c), (.int .i64 x83)]) ∧
 ∃ (x84 : Option Addr) (x84n : Nat) (x84c : Nat), (#[(.slice x82 x82n x82c), (.int .i64 x83)] : Array Value)[0]? = some (.slice x84 x84n x84c) ∧
 ∃ x85 : Int, (#[(.slice x82 x82n x82c), (.int .i64 x83)] : Array Value)[1]? = some (.int .i64 x85) ∧
 Calls Tryd.prog 21 #[(.slice b2 b2n b2c)] w81 fun e86 w87 => ∃ (x88 : Option Addr) (x88n : Nat) (x88c : Nat), ∃ x89 : Int, e86 = .returned (.tuple #[(.slice x88 x88n x88c), (.int .i64 x89)]) ∧
 ∃ (x90 : Option Addr) (x90n : Nat) (x90c : Nat), (#[(.slice x88 x88n x88c), (.int .i64 x89)] : Array Value)[0]? = some (.slice x90 x90n x90c) ∧
 ∃ x91 : Int, (#[(.slice x88 x88n x88c), (.int .i64 x89)] : Array Value)[1]? = some (.int .i64 x91) ∧
 ∃ J92 : World → Prop,
 ((bif (!decide (x63 = x71)) then
 (R (.returned (.bool false)) w87)
 else
 (∃ cs93 : List Value, List.length cs93 = 3 ∧ Cells w87 ⟨World.heap w59 |>.size, 0, none⟩ cs93 ∧
 ∃ cs94 : List Value, List.length cs94 = 3 ∧ Cells w87 ⟨World.heap w67 |>.size, 0, none⟩ cs94 ∧
 Calls Tryd.prog 22 #[(.agg (List.toArray cs93)), (.agg (List.toArray cs94))] w87 fun e95 w96 => ∃ x97 : Bool, e95 = .returned (.bool x97) ∧
 (bif (!x97) then
 (R (.returned (.bool false)) w96)
 else
 ((bif (!decide (x79 = x91)) then
 (R (.returned (.bool false)) w96)
 else
 (Calls Tryd.prog 23 #[(.slice x78 x78n x78c), (.slice x90 x90n x90c)] w96 fun e98 w99 => ∃ x100 : Bool, e98 = .returned (.bool x100) ∧
 (bif (!x100) then
 (R (.returned (.bool false)) w99)
 else
 (0 ≤ ((b2n : Nat) : Int) ∧ ((b2n : Nat) : Int) ≤ ((x57c : Nat) : Int) ∧ Calls Tryd.prog 17 #[(.slice (if x57c = 0 then x57 else Option.map (fun y => Addr.add y (0 * 1)) x57) ((Int.toNat ((b2n : Nat) : Int)) - 0) (x57c - 0)), (.slice b2 b2n b2c)] w99 fun e101 w102 => ∃ x103 : Bool, e101 = .returned (.bool x103) ∧
 (bif (!x103) then
 (R (.returned (.bool false)) w102)
 else
 (0 ≤ ((b2n : Nat) : Int) ∧ ((b2n : Nat) : Int) < ((x57n : Nat) : Int) ∧ optK x57 fun a104 =>
 ∃ x105 : Int, World.cell? w102 (Addr.add a104 (Int.toNat ((b2n : Nat) : Int) * 1)) = some (.int .u8 x105) ∧
 (bif (!decide (x105 = 7)) then
 (R (.returned (.bool false)) w102)
 else
 (J92  w102))))))))))))) ∧
 (∀ (w106 : World), J92  w106 →
 ∃ I107 : Nat → Int → World → Prop,
 (∃ m, I107 m 0 w106) ∧
 (∀ (m108 : Nat) (w109 : World) (z110 : Int), I107 m108 z110 w109 →
 (bif (decide (z110 < ((x78n : Nat) : Int))) then
 (0 ≤ z110 ∧ z110 < ((x78n : Nat) : Int) ∧ optK x78 fun a111 =>
 one (.int .i64 (-9)) = true ∧ Option.isSome (World.cell? w109 (Addr.add (Addr.add a111 (Int.toNat z110 * 2)) 0)) = true ∧ World.frozen? w109 (Addr.add (Addr.add a111 (Int.toNat z110 * 2)) 0) = false ∧
 ∀ w112 : World, w112 = World.setCell w109 (Addr.add (Addr.add a111 (Int.toNat z110 * 2)) 0) (.int .i64 (-9)) →
 ∃ m113, m113 < m108 ∧ I107 m113 (IntKind.wrap .i64 (z110 + 1)) w112)
 else
 (Calls Tryd.prog 23 #[(.slice x84 x84n x84c), (.slice x90 x90n x90c)] w109 fun e114 w115 => ∃ x116 : Bool, e114 = .returned (.bool x116) ∧
 R (.returned (.bool x116)) w115)))))))
theorem e4 (p0 : Array Value) (l1 : Option Addr) (l1n : Nat) (l1c : Nat) (b2 : Option Addr) (b2n : Nat) (b2c : Nat) (w : World) (R : Ending → World → Prop) : denS Tryd.prog s4 (argsEnv 0 [(.agg p0), (.slice l1 l1n l1c), (.slice b2 b2n b2c)]) w (endK r4 R) = d4 p0 l1 l1n l1c b2 b2n b2c w R := by kernel_rfl
theorem c4 (p0 : Array Value) (l1 : Option Addr) (l1n : Nat) (l1c : Nat) (b2 : Option Addr) (b2n : Nat) (b2c : Nat) {w : World} {R : Ending → World → Prop} (h : d4 p0 l1 l1n l1c b2 b2n b2c w R) : Calls Tryd.prog 4 #[(.agg p0), (.slice l1 l1n l1c), (.slice b2 b2n b2c)] w R :=
  den4 [(.agg p0), (.slice l1 l1n l1c), (.slice b2 b2n b2c)] w R (by simp) ((e4 p0 l1 l1n l1c b2 b2n b2c w R).symm ▸ h)

end Go.Proofs.YtjchneebdlncfaaDoor.Fn
