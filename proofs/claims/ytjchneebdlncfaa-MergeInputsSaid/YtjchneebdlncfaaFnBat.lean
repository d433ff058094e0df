/-
  THE CODE of some functions of the given program, resolved, and proved to ask what the readable texts (d..) say; contracts c.. follow. Printed by a small program of mine.
-/
import Derived.Test.YtjchneebdlncfaaDenWords8
import Derived.Test.YtjchneebdlncfaaProg
set_option maxRecDepth 100000
namespace Go.Proofs.Ytjchneebdlncfaa.Fn
open Go Den
/-- prelude/batch.Encode -/
def s36 : S := (.seq (.ops [⟨(some 2), (.mv (.const (.slice none 0 0))), .sl, none⟩,
  ⟨(some 3), (.mv (.const (.int .i64 0))), (.int .i64), none⟩] [0])
 (.seq (.seq (.ops [⟨(some 18), (.mv (.tmp 0)), .sl, none⟩,
  ⟨(some 19), (.call 56 [(.tmp 18), (.func 57)] [(.int .i64), (.int .i64)]), .any, none⟩,
  ⟨(some 17), (.mv (.tmp 19)), .any, none⟩,
  ⟨(some 20), (.ext 0 (.tmp 17)), (.int .i64), none⟩,
  ⟨(some 21), (.ext 1 (.tmp 17)), (.int .i64), none⟩,
  ⟨(some 4), (.mv (.tmp 20)), (.int .i64), none⟩,
  ⟨(some 5), (.mv (.tmp 21)), (.int .i64), none⟩] [5, 0])
 (.seq (.ops [⟨(some 22), (.mv (.tmp 5)), (.int .i64), none⟩,
  ⟨(some 23), (.bin .neq (.tmp 22) (.const (.int .i64 0))), .bool, none⟩] [23, 5, 0])
 (.cond (.tmp 23)
 (.seq (.ops [⟨(some 24), (.mv (.tmp 5)), (.int .i64), none⟩,
  ⟨(some 2), (.mv (.const (.slice none 0 0))), .sl, none⟩,
  ⟨(some 3), (.mv (.tmp 24)), (.int .i64), none⟩] [2, 3])
 .ret)
 .skip)))
 (.seq (.ops [⟨(some 25), (.call 58 [] [.ptr]), .ptr, none⟩,
  ⟨(some 6), (.mv (.tmp 25)), .ptr, none⟩] [6, 0])
 (.seq (.ops [⟨(some 26), (.mv (.tmp 6)), .ptr, none⟩,
  ⟨(some 27), (.mv (.tmp 0)), .sl, none⟩,
  ⟨(some 28), (.len (.tmp 27)), (.int .i64), none⟩,
  ⟨(some 29), (.cv .u64 (.tmp 28)), (.int .u64), none⟩,
  ⟨(some 30), (.call 59 [(.tmp 26), (.tmp 29)] []), .any, none⟩] [0, 6])
 (.seq (.seq (.ops [⟨(some 31), (.mv (.tmp 0)), .sl, none⟩,
  ⟨(some 32), (.len (.tmp 31)), (.int .i64), none⟩,
  ⟨(some 33), (.mv (.const (.int .i64 0))), (.int .i64), none⟩] [33, 32, 31, 6])
 (.block 0
 (.loop [(33, (.int .i64))] [6, 31, 32]
 (.seq (.ops [⟨(some 34), (.bin .lss (.tmp 33) (.tmp 32)), .any, none⟩] [34, 31, 33, 6, 32])
 (.seq (.cond (.tmp 34)
 .skip
 (.exit 0))
 (.seq (.block 1
 (.seq (.ops [⟨(some 35), (.ia 4 (.tmp 31) (.tmp 33)), .ptr, none⟩,
  ⟨(some 36), (.ldN 4 (.tmp 35)), .agg, none⟩,
  ⟨(some 8), (.alloc 39), .ptr, none⟩,
  ⟨none, (.stN 4 (.tmp 8) (.tmp 36)), .any, none⟩] [6, 8, 33, 32, 31])
 (.seq (.ops [⟨(some 37), (.mv (.tmp 6)), .ptr, none⟩,
  ⟨(some 38), (.fa 0 (.tmp 8)), .ptr, none⟩,
  ⟨(some 39), (.ld1 (.tmp 38)), (.int .i64), none⟩,
  ⟨(some 40), (.cv .u64 (.tmp 39)), (.int .u64), none⟩,
  ⟨(some 41), (.call 59 [(.tmp 37), (.tmp 40)] []), .any, none⟩] [6, 8, 33, 32, 31])
 (.seq (.ops [⟨(some 42), (.mv (.tmp 6)), .ptr, none⟩,
  ⟨(some 43), (.fa 1 (.tmp 8)), .ptr, none⟩,
  ⟨(some 44), (.ld1 (.tmp 43)), .sl, none⟩,
  ⟨(some 45), (.len (.tmp 44)), (.int .i64), none⟩,
  ⟨(some 46), (.cv .u64 (.tmp 45)), (.int .u64), none⟩,
  ⟨(some 47), (.call 59 [(.tmp 42), (.tmp 46)] []), .any, none⟩] [8, 6, 33, 32, 31])
 (.seq (.seq (.ops [⟨(some 48), (.fa 1 (.tmp 8)), .ptr, none⟩,
  ⟨(some 49), (.ld1 (.tmp 48)), .sl, none⟩,
  ⟨(some 50), (.len (.tmp 49)), (.int .i64), none⟩,
  ⟨(some 51), (.mv (.const (.int .i64 0))), (.int .i64), none⟩] [51, 50, 49, 6, 8, 33, 32, 31])
 (.block 2
 (.loop [(51, (.int .i64))] [6, 8, 31, 32, 33, 49, 50]
 (.seq (.ops [⟨(some 52), (.bin .lss (.tmp 51) (.tmp 50)), .any, none⟩] [52, 49, 51, 6, 50, 8, 33, 32, 31])
 (.seq (.cond (.tmp 52)
 .skip
 (.exit 2))
 (.seq (.block 3
 (.seq (.ops [⟨(some 53), (.ia 1 (.tmp 49) (.tmp 51)), .ptr, none⟩,
  ⟨(some 54), (.ld1 (.tmp 53)), (.int .i64), none⟩,
  ⟨(some 10), (.mv (.tmp 54)), (.int .i64), none⟩] [6, 10, 51, 50, 49, 8, 33, 32, 31])
 (.ops [⟨(some 55), (.mv (.tmp 6)), .ptr, none⟩,
  ⟨(some 56), (.mv (.tmp 10)), (.int .i64), none⟩,
  ⟨(some 57), (.call 60 [(.tmp 55), (.tmp 56)] []), .any, none⟩] [51, 50, 49, 6, 8, 33, 32, 31])))
 (.ops [⟨(some 58), (.bin .add (.tmp 51) (.const (.int .i64 1))), (.int .i64), none⟩,
  ⟨(some 51), (.mv (.tmp 58)), (.int .i64), none⟩] [51, 50, 49, 6, 8, 33, 32, 31])))))))
 (.seq (.ops [⟨(some 59), (.fa 2 (.tmp 8)), .ptr, none⟩,
  ⟨(some 60), (.ld1 (.tmp 59)), .sl, none⟩,
  ⟨(some 61), (.fa 3 (.tmp 8)), .ptr, none⟩,
  ⟨(some 62), (.ld1 (.tmp 61)), .sl, none⟩,
  ⟨(some 63), (.bld 125 (.elems 1) [(0, (.tmp 60)), (1, (.tmp 62))]), .agg, none⟩,
  ⟨(some 64), (.mv (.const (.int .i64 0))), (.int .i64), none⟩] [64, 63, 6, 33, 32, 31])
 (.block 4
 (.loop [(64, (.int .i64))] [6, 31, 32, 33, 63]
 (.seq (.ops [⟨(some 65), (.bin .lss (.tmp 64) (.const (.int .i64 2))), .any, none⟩] [65, 63, 64, 6, 33, 32, 31])
 (.seq (.cond (.tmp 65)
 .skip
 (.exit 4))
 (.seq (.block 5
 (.seq (.ops [⟨(some 66), (.ixA 2 1 (.tmp 63) (.tmp 64)), .sl, none⟩,
  ⟨(some 12), (.mv (.tmp 66)), .sl, none⟩] [6, 12, 64, 63, 33, 32, 31])
 (.seq (.ops [⟨(some 67), (.mv (.tmp 6)), .ptr, none⟩,
  ⟨(some 68), (.mv (.tmp 12)), .sl, none⟩,
  ⟨(some 69), (.len (.tmp 68)), (.int .i64), none⟩,
  ⟨(some 70), (.cv .u64 (.tmp 69)), (.int .u64), none⟩,
  ⟨(some 71), (.call 59 [(.tmp 67), (.tmp 70)] []), .any, none⟩] [12, 6, 64, 63, 33, 32, 31])
 (.seq (.ops [⟨(some 72), (.mv (.tmp 12)), .sl, none⟩,
  ⟨(some 73), (.len (.tmp 72)), (.int .i64), none⟩,
  ⟨(some 74), (.mv (.const (.int .i64 0))), (.int .i64), none⟩] [74, 73, 72, 6, 64, 63, 33, 32, 31])
 (.block 6
 (.loop [(74, (.int .i64))] [6, 31, 32, 33, 63, 64, 72, 73]
 (.seq (.ops [⟨(some 75), (.bin .lss (.tmp 74) (.tmp 73)), .any, none⟩] [75, 72, 74, 6, 73, 64, 63, 33, 32, 31])
 (.seq (.cond (.tmp 75)
 .skip
 (.exit 6))
 (.seq (.block 7
 (.seq (.ops [⟨(some 76), (.ia 2 (.tmp 72) (.tmp 74)), .ptr, none⟩,
  ⟨(some 77), (.ldN 2 (.tmp 76)), .agg, none⟩,
  ⟨(some 14), (.alloc 97), .ptr, none⟩,
  ⟨none, (.stN 2 (.tmp 14) (.tmp 77)), .any, none⟩] [14, 6, 74, 73, 72, 64, 63, 33, 32, 31])
 (.seq (.ops [⟨(some 79), (.ldN 2 (.tmp 14)), .agg, none⟩,
  ⟨(some 80), (.call 61 [(.tmp 79)] [.sl, (.int .i64)]), .any, none⟩,
  ⟨(some 78), (.mv (.tmp 80)), .any, none⟩,
  ⟨(some 81), (.ext 0 (.tmp 78)), .sl, none⟩,
  ⟨(some 82), (.ext 1 (.tmp 78)), (.int .i64), none⟩,
  ⟨(some 15), (.mv (.tmp 81)), .sl, none⟩,
  ⟨(some 16), (.mv (.tmp 82)), (.int .i64), none⟩] [6, 15, 74, 73, 72, 64, 63, 33, 32, 31])
 (.ops [⟨(some 83), (.mv (.tmp 6)), .ptr, none⟩,
  ⟨(some 84), (.mv (.tmp 15)), .sl, none⟩,
  ⟨(some 85), (.call 62 [(.tmp 83), (.tmp 84)] []), .any, none⟩] [74, 73, 72, 6, 64, 63, 33, 32, 31]))))
 (.ops [⟨(some 86), (.bin .add (.tmp 74) (.const (.int .i64 1))), (.int .i64), none⟩,
  ⟨(some 74), (.mv (.tmp 86)), (.int .i64), none⟩] [74, 73, 72, 6, 64, 63, 33, 32, 31]))))))))))
 (.ops [⟨(some 87), (.bin .add (.tmp 64) (.const (.int .i64 1))), (.int .i64), none⟩,
  ⟨(some 64), (.mv (.tmp 87)), (.int .i64), none⟩] [64, 63, 6, 33, 32, 31]))))))))))))
 (.ops [⟨(some 88), (.bin .add (.tmp 33) (.const (.int .i64 1))), (.int .i64), none⟩,
  ⟨(some 33), (.mv (.tmp 88)), (.int .i64), none⟩] [33, 32, 31, 6])))))))
 (.seq (.ops [⟨(some 89), (.mv (.tmp 6)), .ptr, none⟩,
  ⟨(some 90), (.call 63 [(.tmp 89)] [.sl]), .sl, none⟩,
  ⟨(some 2), (.mv (.tmp 90)), .sl, none⟩,
  ⟨(some 3), (.mv (.const (.int .i64 0))), (.int .i64), none⟩] [2, 3])
 .ret))))))
def r36 : List Res := [.t 2, .t 3]
theorem tr36 : trS Try.prog [] 91 (Try.f36.body.getD .skip) s36 = some s36 := by kernel_rfl
theorem den36 (args : List Value) (w : World) (R : Ending → World → Prop) (hn : args.length ≤ 91) (h : denS Try.prog s36 (argsEnv 0 args) w (endK r36 R)) : Calls Try.prog 36 args.toArray w R :=
  calls_of_den (pn := []) (fn := Try.f36) (c := Try.f36.body.getD .skip) Try.func36 (by kernel_rfl) (by rw [Try.ntmps36]; exact hn) (by rw [Try.ntmps36]; exact tr36) (by kernel_rfl) h
def d36 (b0 : Option Addr) (b0n : Nat) (b0c : Nat) (w : World) (R : Ending → World → Prop) : Prop :=
 Calls Try.prog 56 #[(.slice b0 b0n b0c), (Value.func (.func 57) #[] #[])] w fun e1 w2 => ∃ x3 : Int, ∃ x4 : Int, e1 = .returned (.tuple #[(.int .i64 x3), (.int .i64 x4)]) ∧
 ∃ x5 : Int, (#[(.int .i64 x3), (.int .i64 x4)] : Array Value)[0]? = some (.int .i64 x5) ∧
 ∃ x6 : Int, (#[(.int .i64 x3), (.int .i64 x4)] : Array Value)[1]? = some (.int .i64 x6) ∧
 (bif (!decide (x6 = 0)) then
 (R (.returned (.tuple #[(.slice none 0 0), (.int .i64 x6)])) w2)
 else
 (Calls Try.prog 58 #[] w2 fun e7 w8 => ∃ x9 : Option Addr, e7 = .returned (.pointer x9) ∧
 Calls Try.prog 59 #[(.pointer x9), (.int .u64 (IntKind.wrap .u64 ((b0n : Nat) : Int)))] w8 fun e10 w11 => e10 = .returned (.tuple #[]) ∧ ∃ I12 : Nat → Int → World → Prop,
 (∃ m, I12 m 0 w11) ∧
 (∀ (m13 : Nat) (w14 : World) (x15 : Int), I12 m13 x15 w14 →
 (bif (decide (x15 < ((b0n : Nat) : Int))) then
 (0 ≤ x15 ∧ x15 < ((b0n : Nat) : Int) ∧ optK b0 fun a16 =>
 ∃ cs17 : List Value, List.length cs17 = 4 ∧ Cells w14 (Addr.add a16 (Int.toNat x15 * 4)) cs17 ∧
 ∀ w18 : World, w18 = World.alloc w14 (.cells (zc Try.prog 39).toArray 39) →
 Array.size (List.toArray cs17) = 4 ∧ (∀ u ∈ Array.toList (List.toArray cs17), one u = true) ∧ Room w18 ⟨World.heap w14 |>.size, 0, none⟩ 4 ∧
 ∀ w19 : World, w19 = setCells w18 ⟨World.heap w14 |>.size, 0, none⟩ (Array.toList (List.toArray cs17)) 0 →
 ∃ x20 : Int, World.cell? w19 (Addr.add ⟨World.heap w14 |>.size, 0, none⟩ 0) = some (.int .i64 x20) ∧
 Calls Try.prog 59 #[(.pointer x9), (.int .u64 (IntKind.wrap .u64 x20))] w19 fun e21 w22 => e21 = .returned (.tuple #[]) ∧ ∃ (x23 : Option Addr) (x23n : Nat) (x23c : Nat), World.cell? w22 (Addr.add ⟨World.heap w14 |>.size, 0, none⟩ 1) = some (.slice x23 x23n x23c) ∧
 Calls Try.prog 59 #[(.pointer x9), (.int .u64 (IntKind.wrap .u64 ((x23n : Nat) : Int)))] w22 fun e24 w25 => e24 = .returned (.tuple #[]) ∧ ∃ (x26 : Option Addr) (x26n : Nat) (x26c : Nat), World.cell? w25 (Addr.add ⟨World.heap w14 |>.size, 0, none⟩ 1) = some (.slice x26 x26n x26c) ∧
 ∃ I27 : Nat → Int → World → Prop,
 (∃ m, I27 m 0 w25) ∧
 (∀ (m28 : Nat) (w29 : World) (x30 : Int), I27 m28 x30 w29 →
 (bif (decide (x30 < ((x26n : Nat) : Int))) then
 (0 ≤ x30 ∧ x30 < ((x26n : Nat) : Int) ∧ optK x26 fun a31 =>
 ∃ x32 : Int, World.cell? w29 (Addr.add a31 (Int.toNat x30 * 1)) = some (.int .i64 x32) ∧
 Calls Try.prog 60 #[(.pointer x9), (.int .i64 x32)] w29 fun e33 w34 => e33 = .returned (.tuple #[]) ∧ ∃ m35, m35 < m28 ∧ I27 m35 (IntKind.wrap .i64 (x30 + 1)) w34)
 else
 (∃ (x36 : Option Addr) (x36n : Nat) (x36c : Nat), World.cell? w29 (Addr.add ⟨World.heap w14 |>.size, 0, none⟩ 2) = some (.slice x36 x36n x36c) ∧
 ∃ (x37 : Option Addr) (x37n : Nat) (x37c : Nat), World.cell? w29 (Addr.add ⟨World.heap w14 |>.size, 0, none⟩ 3) = some (.slice x37 x37n x37c) ∧
 ∃ cs38, fillL (.elems 1) (zc Try.prog 125) [(0, (.slice x36 x36n x36c)), (1, (.slice x37 x37n x37c))] = some cs38 ∧
 ∃ I39 : Nat → Int → World → Prop,
 (∃ m, I39 m 0 w29) ∧
 (∀ (m40 : Nat) (w41 : World) (x42 : Int), I39 m40 x42 w41 →
 (bif (decide (x42 < 2)) then
 (0 ≤ x42 ∧ x42 < ((2 : Nat) : Int) ∧
 ∃ (x43 : Option Addr) (x43n : Nat) (x43c : Nat), ((List.toArray cs38))[Int.toNat x42 * 1]? = some (.slice x43 x43n x43c) ∧
 Calls Try.prog 59 #[(.pointer x9), (.int .u64 (IntKind.wrap .u64 ((x43n : Nat) : Int)))] w41 fun e44 w45 => e44 = .returned (.tuple #[]) ∧ ∃ I46 : Nat → Int → World → Prop,
 (∃ m, I46 m 0 w45) ∧
 (∀ (m47 : Nat) (w48 : World) (x49 : Int), I46 m47 x49 w48 →
 (bif (decide (x49 < ((x43n : Nat) : Int))) then
 (0 ≤ x49 ∧ x49 < ((x43n : Nat) : Int) ∧ optK x43 fun a50 =>
 ∃ cs51 : List Value, List.length cs51 = 2 ∧ Cells w48 (Addr.add a50 (Int.toNat x49 * 2)) cs51 ∧
 ∀ w52 : World, w52 = World.alloc w48 (.cells (zc Try.prog 97).toArray 97) →
 Array.size (List.toArray cs51) = 2 ∧ (∀ u ∈ Array.toList (List.toArray cs51), one u = true) ∧ Room w52 ⟨World.heap w48 |>.size, 0, none⟩ 2 ∧
 ∀ w53 : World, w53 = setCells w52 ⟨World.heap w48 |>.size, 0, none⟩ (Array.toList (List.toArray cs51)) 0 →
 ∃ cs54 : List Value, List.length cs54 = 2 ∧ Cells w53 ⟨World.heap w48 |>.size, 0, none⟩ cs54 ∧
 Calls Try.prog 61 #[(.agg (List.toArray cs54))] w53 fun e55 w56 => ∃ (x57 : Option Addr) (x57n : Nat) (x57c : Nat), ∃ x58 : Int, e55 = .returned (.tuple #[(.slice x57 x57n x57c), (.int .i64 x58)]) ∧
 ∃ (x59 : Option Addr) (x59n : Nat) (x59c : Nat), (#[(.slice x57 x57n x57c), (.int .i64 x58)] : Array Value)[0]? = some (.slice x59 x59n x59c) ∧
 ∃ x60 : Int, (#[(.slice x57 x57n x57c), (.int .i64 x58)] : Array Value)[1]? = some (.int .i64 x60) ∧
 Calls Try.prog 62 #[(.pointer x9), (.slice x59 x59n x59c)] w56 fun e61 w62 => e61 = .returned (.tuple #[]) ∧ ∃ m63, m63 < m47 ∧ I46 m63 (IntKind.wrap .i64 (x49 + 1)) w62)
 else
 (∃ m64, m64 < m40 ∧ I39 m64 (IntKind.wrap .i64 (x42 + 1)) w48))))
 else
 (∃ m65, m65 < m13 ∧ I12 m65 (IntKind.wrap .i64 (x15 + 1)) w41)))))))
 else
 (Calls Try.prog 63 #[(.pointer x9)] w14 fun e66 w67 => ∃ (x68 : Option Addr) (x68n : Nat) (x68c : Nat), e66 = .returned (.slice x68 x68n x68c) ∧
 R (.returned (.tuple #[(.slice x68 x68n x68c), (.int .i64 0)])) w67)))))
theorem e36 (b0 : Option Addr) (b0n : Nat) (b0c : Nat) (w : World) (R : Ending → World → Prop) : denS Try.prog s36 (argsEnv 0 [(.slice b0 b0n b0c)]) w (endK r36 R) = d36 b0 b0n b0c w R := by kernel_rfl
theorem c36 (b0 : Option Addr) (b0n : Nat) (b0c : Nat) {w : World} {R : Ending → World → Prop} (h : d36 b0 b0n b0c w R) : Calls Try.prog 36 #[(.slice b0 b0n b0c)] w R :=
  den36 [(.slice b0 b0n b0c)] w R (by simp) ((e36 b0 b0n b0c w R).symm ▸ h)

/-- prelude/batch.first -/
def s56 : S := (.seq (.ops [⟨(some 4), (.mv (.const (.int .i64 0))), (.int .i64), none⟩,
  ⟨(some 5), (.mv (.const (.int .i64 0))), (.int .i64), none⟩] [0, 1])
 (.seq (.seq (.ops [⟨(some 9), (.mv (.tmp 0)), .sl, none⟩,
  ⟨(some 10), (.len (.tmp 9)), (.int .i64), none⟩,
  ⟨(some 11), (.bin .gtr (.tmp 10) (.const (.int .i64 64))), .bool, none⟩] [11, 0, 1])
 (.cond (.tmp 11)
 (.seq (.ops [⟨(some 4), (.mv (.const (.int .i64 0))), (.int .i64), none⟩,
  ⟨(some 5), (.mv (.const (.int .i64 60))), (.int .i64), none⟩] [4, 5])
 .ret)
 .skip))
 (.seq (.seq (.ops [⟨(some 12), (.mv (.tmp 0)), .sl, none⟩,
  ⟨(some 13), (.len (.tmp 12)), (.int .i64), none⟩,
  ⟨(some 14), (.mv (.const (.int .i64 0))), (.int .i64), none⟩] [14, 13, 12, 1])
 (.block 0
 (.loop [(14, (.int .i64))] [1, 12, 13]
 (.seq (.ops [⟨(some 15), (.bin .lss (.tmp 14) (.tmp 13)), .any, none⟩] [15, 14, 12, 1, 13])
 (.seq (.cond (.tmp 15)
 .skip
 (.exit 0))
 (.seq (.block 1
 (.seq (.ops [⟨(some 16), (.mv (.tmp 14)), (.int .i64), none⟩,
  ⟨(some 17), (.ia 4 (.tmp 12) (.tmp 14)), .ptr, none⟩,
  ⟨(some 18), (.ldN 4 (.tmp 17)), .agg, none⟩,
  ⟨(some 7), (.alloc 39), .ptr, none⟩,
  ⟨(some 6), (.mv (.tmp 16)), (.int .i64), none⟩,
  ⟨none, (.stN 4 (.tmp 7) (.tmp 18)), .any, none⟩] [1, 7, 6, 14, 13, 12])
 (.seq (.ops [⟨(some 19), (.mv (.tmp 1)), .any, none⟩,
  ⟨(some 20), (.ldN 4 (.tmp 7)), .agg, none⟩,
  ⟨(some 21), (.callv (.tmp 19) [(.tmp 20)] [(.int .i64)]), (.int .i64), none⟩,
  ⟨(some 8), (.mv (.tmp 21)), (.int .i64), none⟩] [8, 6, 14, 13, 12, 1])
 (.seq (.ops [⟨(some 22), (.mv (.tmp 8)), (.int .i64), none⟩,
  ⟨(some 23), (.bin .neq (.tmp 22) (.const (.int .i64 0))), .bool, none⟩] [23, 6, 8, 14, 13, 12, 1])
 (.cond (.tmp 23)
 (.seq (.ops [⟨(some 24), (.mv (.tmp 6)), (.int .i64), none⟩,
  ⟨(some 25), (.mv (.tmp 8)), (.int .i64), none⟩,
  ⟨(some 4), (.mv (.tmp 24)), (.int .i64), none⟩,
  ⟨(some 5), (.mv (.tmp 25)), (.int .i64), none⟩] [4, 5])
 .ret)
 .skip)))))
 (.ops [⟨(some 26), (.bin .add (.tmp 14) (.const (.int .i64 1))), (.int .i64), none⟩,
  ⟨(some 14), (.mv (.tmp 26)), (.int .i64), none⟩] [14, 13, 12, 1])))))))
 (.seq (.ops [⟨(some 4), (.mv (.const (.int .i64 0))), (.int .i64), none⟩,
  ⟨(some 5), (.mv (.const (.int .i64 0))), (.int .i64), none⟩] [4, 5])
 .ret))))
def r56 : List Res := [.t 4, .t 5]
theorem tr56 : trS Try.prog [] 27 (Try.f56.body.getD .skip) s56 = some s56 := by kernel_rfl
theorem den56 (args : List Value) (w : World) (R : Ending → World → Prop) (hn : args.length ≤ 27) (h : denS Try.prog s56 (argsEnv 0 args) w (endK r56 R)) : Calls Try.prog 56 args.toArray w R :=
  calls_of_den (pn := []) (fn := Try.f56) (c := Try.f56.body.getD .skip) Try.func56 (by kernel_rfl) (by rw [Try.ntmps56]; exact hn) (by rw [Try.ntmps56]; exact tr56) (by kernel_rfl) h
def d56 (b0 : Option Addr) (b0n : Nat) (b0c : Nat) (wrong1 : Value) (w : World) (R : Ending → World → Prop) : Prop :=
 (bif (decide (64 < ((b0n : Nat) : Int))) then
 (R (.returned (.tuple #[(.int .i64 0), (.int .i64 60)])) w)
 else
 (∃ I2 : Nat → Int → World → Prop,
 (∃ m, I2 m 0 w) ∧
 (∀ (m3 : Nat) (w4 : World) (x5 : Int), I2 m3 x5 w4 →
 (bif (decide (x5 < ((b0n : Nat) : Int))) then
 (0 ≤ x5 ∧ x5 < ((b0n : Nat) : Int) ∧ optK b0 fun a6 =>
 ∃ cs7 : List Value, List.length cs7 = 4 ∧ Cells w4 (Addr.add a6 (Int.toNat x5 * 4)) cs7 ∧
 ∀ w8 : World, w8 = World.alloc w4 (.cells (zc Try.prog 39).toArray 39) →
 Array.size (List.toArray cs7) = 4 ∧ (∀ u ∈ Array.toList (List.toArray cs7), one u = true) ∧ Room w8 ⟨World.heap w4 |>.size, 0, none⟩ 4 ∧
 ∀ w9 : World, w9 = setCells w8 ⟨World.heap w4 |>.size, 0, none⟩ (Array.toList (List.toArray cs7)) 0 →
 ∃ cs10 : List Value, List.length cs10 = 4 ∧ Cells w9 ⟨World.heap w4 |>.size, 0, none⟩ cs10 ∧
 fnK wrong1 fun g11 fst12 cap13 => HasBody Try.prog g11 ∧
 Calls Try.prog g11 (fst12 ++ #[(.agg (List.toArray cs10))] ++ cap13) w9 fun e14 w15 => ∃ x16 : Int, e14 = .returned (.int .i64 x16) ∧
 (bif (!decide (x16 = 0)) then
 (R (.returned (.tuple #[(.int .i64 x5), (.int .i64 x16)])) w15)
 else
 (∃ m17, m17 < m3 ∧ I2 m17 (IntKind.wrap .i64 (x5 + 1)) w15)))
 else
 (R (.returned (.tuple #[(.int .i64 0), (.int .i64 0)])) w4)))))
theorem e56 (b0 : Option Addr) (b0n : Nat) (b0c : Nat) (wrong1 : Value) (w : World) (R : Ending → World → Prop) : denS Try.prog s56 (argsEnv 0 [(.slice b0 b0n b0c), wrong1]) w (endK r56 R) = d56 b0 b0n b0c wrong1 w R := by kernel_rfl
theorem c56 (b0 : Option Addr) (b0n : Nat) (b0c : Nat) (wrong1 : Value) {w : World} {R : Ending → World → Prop} (h : d56 b0 b0n b0c wrong1 w R) : Calls Try.prog 56 #[(.slice b0 b0n b0c), wrong1] w R :=
  den56 [(.slice b0 b0n b0c), wrong1] w R (by simp) ((e56 b0 b0n b0c wrong1 w R).symm ▸ h)

/-- prelude/batch.formed -/
def s57 : S := (.seq (.ops [⟨(some 1), (.box 39 (.tmp 0)), .ptr, none⟩,
  ⟨(some 2), (.mv (.const (.int .i64 0))), (.int .i64), none⟩] [1])
 (.seq (.block 0
 (.join [(3, .bool)] [1]
 (.ops [⟨(some 4), (.fa 0 (.tmp 1)), .ptr, none⟩,
  ⟨(some 5), (.ld1 (.tmp 4)), (.int .i64), none⟩,
  ⟨(some 6), (.bin .lss (.tmp 5) (.const (.int .i64 0))), .bool, none⟩,
  ⟨(some 7), (.mv (.tmp 6)), .bool, none⟩,
  ⟨(some 8), (.fa 0 (.tmp 1)), .ptr, (some (7, false))⟩,
  ⟨(some 9), (.ld1 (.tmp 8)), (.int .i64), (some (7, false))⟩,
  ⟨(some 10), (.bin .geq (.tmp 9) (.const (.int .i64 64))), .bool, (some (7, false))⟩,
  ⟨(some 11), (.pick (.tmp 7) (.const (.bool true)) (.tmp 10)), .bool, none⟩,
  ⟨(some 3), (.mv (.tmp 11)), .bool, none⟩] [3, 1])
 (.cond (.tmp 3)
 (.seq (.ops [⟨(some 2), (.mv (.const (.int .i64 61))), (.int .i64), none⟩] [2])
 .ret)
 (.seq (.ops [⟨(some 13), (.fa 1 (.tmp 1)), .ptr, none⟩,
  ⟨(some 14), (.ld1 (.tmp 13)), .sl, none⟩,
  ⟨(some 15), (.len (.tmp 14)), (.int .i64), none⟩,
  ⟨(some 16), (.bin .gtr (.tmp 15) (.const (.int .i64 16))), .bool, none⟩,
  ⟨(some 12), (.mv (.tmp 16)), .bool, none⟩] [12, 1])
 (.cond (.tmp 12)
 (.seq (.ops [⟨(some 2), (.mv (.const (.int .i64 62))), (.int .i64), none⟩] [2])
 .ret)
 (.seq (.ops [⟨(some 18), (.fa 2 (.tmp 1)), .ptr, none⟩,
  ⟨(some 19), (.ld1 (.tmp 18)), .sl, none⟩,
  ⟨(some 20), (.len (.tmp 19)), (.int .i64), none⟩,
  ⟨(some 21), (.bin .gtr (.tmp 20) (.const (.int .i64 16))), .bool, none⟩,
  ⟨(some 17), (.mv (.tmp 21)), .bool, none⟩] [17, 1])
 (.cond (.tmp 17)
 (.seq (.ops [⟨(some 2), (.mv (.const (.int .i64 63))), (.int .i64), none⟩] [2])
 .ret)
 (.seq (.ops [⟨(some 23), (.fa 3 (.tmp 1)), .ptr, none⟩,
  ⟨(some 24), (.ld1 (.tmp 23)), .sl, none⟩,
  ⟨(some 25), (.len (.tmp 24)), (.int .i64), none⟩,
  ⟨(some 26), (.bin .gtr (.tmp 25) (.const (.int .i64 16))), .bool, none⟩,
  ⟨(some 22), (.mv (.tmp 26)), .bool, none⟩] [22, 1])
 (.cond (.tmp 22)
 (.seq (.ops [⟨(some 2), (.mv (.const (.int .i64 64))), (.int .i64), none⟩] [2])
 .ret)
 (.seq (.ops [⟨(some 28), (.fa 2 (.tmp 1)), .ptr, none⟩,
  ⟨(some 29), (.ld1 (.tmp 28)), .sl, none⟩,
  ⟨(some 30), (.call 71 [(.tmp 29)] [.bool]), .bool, none⟩,
  ⟨(some 31), (.un .not (.tmp 30)), .bool, none⟩,
  ⟨(some 32), (.mv (.tmp 31)), .bool, none⟩,
  ⟨(some 33), (.fa 3 (.tmp 1)), .ptr, (some (32, false))⟩,
  ⟨(some 34), (.ld1 (.tmp 33)), .sl, (some (32, false))⟩,
  ⟨(some 35), (.call 71 [(.tmp 34)] [.bool]), .bool, (some (32, false))⟩,
  ⟨(some 36), (.un .not (.tmp 35)), .bool, (some (32, false))⟩,
  ⟨(some 37), (.pick (.tmp 32) (.const (.bool true)) (.tmp 36)), .bool, none⟩,
  ⟨(some 27), (.mv (.tmp 37)), .bool, none⟩] [27])
 (.cond (.tmp 27)
 (.seq (.ops [⟨(some 2), (.mv (.const (.int .i64 65))), (.int .i64), none⟩] [2])
 .ret)
 .skip)))))))))))
 (.seq (.ops [⟨(some 2), (.mv (.const (.int .i64 0))), (.int .i64), none⟩] [2])
 .ret)))
def r57 : List Res := [.t 2]
theorem tr57 : trS Try.prog [] 38 (Try.f57.body.getD .skip) s57 = some s57 := by kernel_rfl
theorem den57 (args : List Value) (w : World) (R : Ending → World → Prop) (hn : args.length ≤ 38) (h : denS Try.prog s57 (argsEnv 0 args) w (endK r57 R)) : Calls Try.prog 57 args.toArray w R :=
  calls_of_den (pn := []) (fn := Try.f57) (c := Try.f57.body.getD .skip) Try.func57 (by kernel_rfl) (by rw [Try.ntmps57]; exact hn) (by rw [Try.ntmps57]; exact tr57) (by kernel_rfl) h
def d57 (x0 : Array Value) (w : World) (R : Ending → World → Prop) : Prop :=
 ∀ w1 : World, w1 = World.alloc w (.cells x0 39) →
 ∃ J2 : Bool → World → Prop,
 (∃ x3 : Int, World.cell? w1 (Addr.add ⟨World.heap w |>.size, 0, none⟩ 0) = some (.int .i64 x3) ∧
 (bif (decide (x3 < 0)) then
 (J2 true w1)
 else
 (∃ x4 : Int, World.cell? w1 (Addr.add ⟨World.heap w |>.size, 0, none⟩ 0) = some (.int .i64 x4) ∧
 J2 (decide (64 ≤ x4)) w1))) ∧
 (∀ (w5 : World) (x6 : Bool), J2 x6 w5 →
 (bif x6 then
 (R (.returned (.int .i64 61)) w5)
 else
 (∃ (x7 : Option Addr) (x7n : Nat) (x7c : Nat), World.cell? w5 (Addr.add ⟨World.heap w |>.size, 0, none⟩ 1) = some (.slice x7 x7n x7c) ∧
 (bif (decide (16 < ((x7n : Nat) : Int))) then
 (R (.returned (.int .i64 62)) w5)
 else
 (∃ (x8 : Option Addr) (x8n : Nat) (x8c : Nat), World.cell? w5 (Addr.add ⟨World.heap w |>.size, 0, none⟩ 2) = some (.slice x8 x8n x8c) ∧
 (bif (decide (16 < ((x8n : Nat) : Int))) then
 (R (.returned (.int .i64 63)) w5)
 else
 (∃ (x9 : Option Addr) (x9n : Nat) (x9c : Nat), World.cell? w5 (Addr.add ⟨World.heap w |>.size, 0, none⟩ 3) = some (.slice x9 x9n x9c) ∧
 (bif (decide (16 < ((x9n : Nat) : Int))) then
 (R (.returned (.int .i64 64)) w5)
 else
 (∃ (x10 : Option Addr) (x10n : Nat) (x10c : Nat), World.cell? w5 (Addr.add ⟨World.heap w |>.size, 0, none⟩ 2) = some (.slice x10 x10n x10c) ∧
 Calls Try.prog 71 #[(.slice x10 x10n x10c)] w5 fun e11 w12 => ∃ x13 : Bool, e11 = .returned (.bool x13) ∧
 (bif (!x13) then
 (R (.returned (.int .i64 65)) w12)
 else
 (∃ (x14 : Option Addr) (x14n : Nat) (x14c : Nat), World.cell? w12 (Addr.add ⟨World.heap w |>.size, 0, none⟩ 3) = some (.slice x14 x14n x14c) ∧
 Calls Try.prog 71 #[(.slice x14 x14n x14c)] w12 fun e15 w16 => ∃ x17 : Bool, e15 = .returned (.bool x17) ∧
 (bif (!x17) then
 (R (.returned (.int .i64 65)) w16)
 else
 (R (.returned (.int .i64 0)) w16)))))))))))))
theorem e57 (x0 : Array Value) (w : World) (R : Ending → World → Prop) : denS Try.prog s57 (argsEnv 0 [(.agg x0)]) w (endK r57 R) = d57 x0 w R := by kernel_rfl
theorem c57 (x0 : Array Value) {w : World} {R : Ending → World → Prop} (h : d57 x0 w R) : Calls Try.prog 57 #[(.agg x0)] w R :=
  den57 [(.agg x0)] w R (by simp) ((e57 x0 w R).symm ▸ h)

/-- prelude/preluderef06.count -/
def s75 : S := (.seq (.ops [⟨(some 2), (.mv (.const (.slice none 0 0))), .sl, none⟩] [0])
 (.seq (.ops [⟨(some 3), (.mv (.tmp 0)), (.int .i64), none⟩,
  ⟨(some 4), (.cv .u64 (.tmp 3)), (.int .u64), none⟩,
  ⟨(some 5), (.call 80 [(.tmp 4)] [.sl]), .sl, none⟩,
  ⟨(some 2), (.mv (.tmp 5)), .sl, none⟩] [2])
 .ret))
def r75 : List Res := [.t 2]
theorem tr75 : trS Try.prog [] 6 (Try.f75.body.getD .skip) s75 = some s75 := by kernel_rfl
theorem den75 (args : List Value) (w : World) (R : Ending → World → Prop) (hn : args.length ≤ 6) (h : denS Try.prog s75 (argsEnv 0 args) w (endK r75 R)) : Calls Try.prog 75 args.toArray w R :=
  calls_of_den (pn := []) (fn := Try.f75) (c := Try.f75.body.getD .skip) Try.func75 (by kernel_rfl) (by rw [Try.ntmps75]; exact hn) (by rw [Try.ntmps75]; exact tr75) (by kernel_rfl) h
def d75 (n0 : Int) (w : World) (R : Ending → World → Prop) : Prop :=
 Calls Try.prog 80 #[(.int .u64 (IntKind.wrap .u64 n0))] w fun e1 w2 => ∃ (x3 : Option Addr) (x3n : Nat) (x3c : Nat), e1 = .returned (.slice x3 x3n x3c) ∧
 R (.returned (.slice x3 x3n x3c)) w2
theorem e75 (n0 : Int) (w : World) (R : Ending → World → Prop) : denS Try.prog s75 (argsEnv 0 [(.int .i64 n0)]) w (endK r75 R) = d75 n0 w R := by kernel_rfl
theorem c75 (n0 : Int) {w : World} {R : Ending → World → Prop} (h : d75 n0 w R) : Calls Try.prog 75 #[(.int .i64 n0)] w R :=
  den75 [(.int .i64 n0)] w R (by simp) ((e75 n0 w R).symm ▸ h)

/-- prelude/preluderef06.set -/
def s78 : S := (.seq (.ops [⟨(some 2), (.mv (.const (.slice none 0 0))), .sl, none⟩] [0])
 (.seq (.ops [⟨(some 7), (.mv (.tmp 0)), .sl, none⟩,
  ⟨(some 8), (.len (.tmp 7)), (.int .i64), none⟩,
  ⟨(some 9), (.call 75 [(.tmp 8)] [.sl]), .sl, none⟩,
  ⟨(some 3), (.mv (.tmp 9)), .sl, none⟩] [0, 3])
 (.seq (.seq (.ops [⟨(some 4), (.mv (.const (.int .i64 0))), (.int .i64), none⟩] [4, 0, 3])
 (.block 0
 (.loop [(3, .sl), (4, (.int .i64))] [0]
 (.seq (.seq (.ops [⟨(some 10), (.mv (.tmp 4)), (.int .i64), none⟩,
  ⟨(some 11), (.mv (.tmp 0)), .sl, none⟩,
  ⟨(some 12), (.len (.tmp 11)), (.int .i64), none⟩,
  ⟨(some 13), (.bin .lss (.tmp 10) (.tmp 12)), .bool, none⟩] [13, 0, 4, 3])
 (.cond (.tmp 13)
 .skip
 (.exit 0)))
 (.seq (.block 1
 (.seq (.ops [⟨(some 17), (.mv (.tmp 0)), .sl, none⟩,
  ⟨(some 18), (.mv (.tmp 4)), (.int .i64), none⟩,
  ⟨(some 19), (.ia 2 (.tmp 17) (.tmp 18)), .ptr, none⟩,
  ⟨(some 20), (.ldN 2 (.tmp 19)), .agg, none⟩,
  ⟨(some 21), (.call 83 [(.tmp 20)] [.sl, (.int .i64)]), .any, none⟩,
  ⟨(some 16), (.mv (.tmp 21)), .any, none⟩,
  ⟨(some 22), (.ext 0 (.tmp 16)), .sl, none⟩,
  ⟨(some 23), (.ext 1 (.tmp 16)), (.int .i64), none⟩,
  ⟨(some 5), (.mv (.tmp 22)), .sl, none⟩,
  ⟨(some 6), (.mv (.tmp 23)), (.int .i64), none⟩] [3, 5, 4, 0])
 (.ops [⟨(some 24), (.mv (.tmp 3)), .sl, none⟩,
  ⟨(some 25), (.mv (.tmp 5)), .sl, none⟩,
  ⟨(some 26), (.app #[98, 98] 98 (.tmp 24) (.tmp 25)), .sl, none⟩,
  ⟨(some 3), (.mv (.tmp 26)), .sl, none⟩] [4, 0, 3])))
 (.ops [⟨(some 14), (.mv (.tmp 4)), (.int .i64), none⟩,
  ⟨(some 15), (.bin .add (.tmp 14) (.const (.int .i64 1))), (.int .i64), none⟩,
  ⟨(some 4), (.mv (.tmp 15)), (.int .i64), none⟩] [4, 0, 3]))))))
 (.seq (.ops [⟨(some 27), (.mv (.tmp 3)), .sl, none⟩,
  ⟨(some 2), (.mv (.tmp 27)), .sl, none⟩] [2])
 .ret))))
def r78 : List Res := [.t 2]
theorem tr78 : trS Try.prog [] 28 (Try.f78.body.getD .skip) s78 = some s78 := by kernel_rfl
theorem den78 (args : List Value) (w : World) (R : Ending → World → Prop) (hn : args.length ≤ 28) (h : denS Try.prog s78 (argsEnv 0 args) w (endK r78 R)) : Calls Try.prog 78 args.toArray w R :=
  calls_of_den (pn := []) (fn := Try.f78) (c := Try.f78.body.getD .skip) Try.func78 (by kernel_rfl) (by rw [Try.ntmps78]; exact hn) (by rw [Try.ntmps78]; exact tr78) (by kernel_rfl) h
def d78 (l0 : Option Addr) (l0n : Nat) (l0c : Nat) (w : World) (R : Ending → World → Prop) : Prop :=
 Calls Try.prog 75 #[(.int .i64 ((l0n : Nat) : Int))] w fun e1 w2 => ∃ (x3 : Option Addr) (x3n : Nat) (x3c : Nat), e1 = .returned (.slice x3 x3n x3c) ∧
 ∃ I4 : Nat → Option Addr → Nat → Nat → Int → World → Prop,
 (∃ m, I4 m x3 x3n x3c 0 w2) ∧
 (∀ (m5 : Nat) (w6 : World) (out7 : Option Addr) (out7n : Nat) (out7c : Nat) (i8 : Int), I4 m5 out7 out7n out7c i8 w6 →
 (bif (decide (i8 < ((l0n : Nat) : Int))) then
 (0 ≤ i8 ∧ i8 < ((l0n : Nat) : Int) ∧ optK l0 fun a9 =>
 ∃ cs10 : List Value, List.length cs10 = 2 ∧ Cells w6 (Addr.add a9 (Int.toNat i8 * 2)) cs10 ∧
 Calls Try.prog 83 #[(.agg (List.toArray cs10))] w6 fun e11 w12 => ∃ (x13 : Option Addr) (x13n : Nat) (x13c : Nat), ∃ x14 : Int, e11 = .returned (.tuple #[(.slice x13 x13n x13c), (.int .i64 x14)]) ∧
 ∃ (x15 : Option Addr) (x15n : Nat) (x15c : Nat), (#[(.slice x13 x13n x13c), (.int .i64 x14)] : Array Value)[0]? = some (.slice x15 x15n x15c) ∧
 ∃ x16 : Int, (#[(.slice x13 x13n x13c), (.int .i64 x14)] : Array Value)[1]? = some (.int .i64 x16) ∧
 RunV Try.prog (Builtin.append_ #[98, 98] 98 #[(.slice out7 out7n out7c), (.slice x15 x15n x15c)]) w12 fun v17 w18 => ∃ (x19 : Option Addr) (x19n : Nat) (x19c : Nat), v17 = (.slice x19 x19n x19c) ∧
 ∃ m20, m20 < m5 ∧ I4 m20 x19 x19n x19c (IntKind.wrap .i64 (i8 + 1)) w18)
 else
 (R (.returned (.slice out7 out7n out7c)) w6)))
theorem e78 (l0 : Option Addr) (l0n : Nat) (l0c : Nat) (w : World) (R : Ending → World → Prop) : denS Try.prog s78 (argsEnv 0 [(.slice l0 l0n l0c)]) w (endK r78 R) = d78 l0 l0n l0c w R := by kernel_rfl
theorem c78 (l0 : Option Addr) (l0n : Nat) (l0c : Nat) {w : World} {R : Ending → World → Prop} (h : d78 l0 l0n l0c w R) : Calls Try.prog 78 #[(.slice l0 l0n l0c)] w R :=
  den78 [(.slice l0 l0n l0c)] w R (by simp) ((e78 l0 l0n l0c w R).symm ▸ h)

/-- prelude/preluderef06.Formed -/
def s76 : S := (.seq (.ops [⟨(some 1), (.box 39 (.tmp 0)), .ptr, none⟩,
  ⟨(some 2), (.mv (.const (.int .i64 0))), (.int .i64), none⟩] [1])
 (.seq (.block 0
 (.join [(5, .bool)] [1]
 (.ops [⟨(some 6), (.fa 0 (.tmp 1)), .ptr, none⟩,
  ⟨(some 7), (.ld1 (.tmp 6)), (.int .i64), none⟩,
  ⟨(some 8), (.bin .lss (.tmp 7) (.const (.int .i64 0))), .bool, none⟩,
  ⟨(some 9), (.mv (.tmp 8)), .bool, none⟩,
  ⟨(some 10), (.fa 0 (.tmp 1)), .ptr, (some (9, false))⟩,
  ⟨(some 11), (.ld1 (.tmp 10)), (.int .i64), (some (9, false))⟩,
  ⟨(some 12), (.bin .geq (.tmp 11) (.const (.int .i64 64))), .bool, (some (9, false))⟩,
  ⟨(some 13), (.pick (.tmp 9) (.const (.bool true)) (.tmp 12)), .bool, none⟩,
  ⟨(some 5), (.mv (.tmp 13)), .bool, none⟩] [5, 1])
 (.cond (.tmp 5)
 (.seq (.ops [⟨(some 2), (.mv (.const (.int .i64 61))), (.int .i64), none⟩] [2])
 .ret)
 (.seq (.ops [⟨(some 15), (.fa 1 (.tmp 1)), .ptr, none⟩,
  ⟨(some 16), (.ld1 (.tmp 15)), .sl, none⟩,
  ⟨(some 17), (.len (.tmp 16)), (.int .i64), none⟩,
  ⟨(some 18), (.bin .gtr (.tmp 17) (.const (.int .i64 16))), .bool, none⟩,
  ⟨(some 14), (.mv (.tmp 18)), .bool, none⟩] [14, 1])
 (.cond (.tmp 14)
 (.seq (.ops [⟨(some 2), (.mv (.const (.int .i64 62))), (.int .i64), none⟩] [2])
 .ret)
 (.seq (.ops [⟨(some 20), (.fa 2 (.tmp 1)), .ptr, none⟩,
  ⟨(some 21), (.ld1 (.tmp 20)), .sl, none⟩,
  ⟨(some 22), (.len (.tmp 21)), (.int .i64), none⟩,
  ⟨(some 23), (.bin .gtr (.tmp 22) (.const (.int .i64 16))), .bool, none⟩,
  ⟨(some 19), (.mv (.tmp 23)), .bool, none⟩] [19, 1])
 (.cond (.tmp 19)
 (.seq (.ops [⟨(some 2), (.mv (.const (.int .i64 63))), (.int .i64), none⟩] [2])
 .ret)
 (.seq (.ops [⟨(some 25), (.fa 3 (.tmp 1)), .ptr, none⟩,
  ⟨(some 26), (.ld1 (.tmp 25)), .sl, none⟩,
  ⟨(some 27), (.len (.tmp 26)), (.int .i64), none⟩,
  ⟨(some 28), (.bin .gtr (.tmp 27) (.const (.int .i64 16))), .bool, none⟩,
  ⟨(some 24), (.mv (.tmp 28)), .bool, none⟩] [24, 1])
 (.cond (.tmp 24)
 (.seq (.ops [⟨(some 2), (.mv (.const (.int .i64 64))), (.int .i64), none⟩] [2])
 .ret)
 .skip)))))))))
 (.seq (.ops [⟨(some 29), (.fa 2 (.tmp 1)), .ptr, none⟩,
  ⟨(some 30), (.ld1 (.tmp 29)), .sl, none⟩,
  ⟨(some 31), (.call 81 [(.tmp 30)] [.bool]), .bool, none⟩,
  ⟨(some 3), (.mv (.tmp 31)), .bool, none⟩] [1, 3])
 (.seq (.ops [⟨(some 32), (.fa 3 (.tmp 1)), .ptr, none⟩,
  ⟨(some 33), (.ld1 (.tmp 32)), .sl, none⟩,
  ⟨(some 34), (.call 81 [(.tmp 33)] [.bool]), .bool, none⟩,
  ⟨(some 4), (.mv (.tmp 34)), .bool, none⟩] [3, 4])
 (.seq (.seq (.ops [⟨(some 35), (.mv (.tmp 3)), .bool, none⟩,
  ⟨(some 36), (.un .not (.tmp 35)), .bool, none⟩,
  ⟨(some 37), (.mv (.tmp 36)), .bool, none⟩,
  ⟨(some 38), (.mv (.tmp 4)), .bool, (some (37, false))⟩,
  ⟨(some 39), (.un .not (.tmp 38)), .bool, (some (37, false))⟩,
  ⟨(some 40), (.pick (.tmp 37) (.const (.bool true)) (.tmp 39)), .bool, none⟩] [40])
 (.cond (.tmp 40)
 (.seq (.ops [⟨(some 2), (.mv (.const (.int .i64 65))), (.int .i64), none⟩] [2])
 .ret)
 .skip))
 (.seq (.ops [⟨(some 2), (.mv (.const (.int .i64 0))), (.int .i64), none⟩] [2])
 .ret))))))
def r76 : List Res := [.t 2]
theorem tr76 : trS Try.prog [] 41 (Try.f76.body.getD .skip) s76 = some s76 := by kernel_rfl
theorem den76 (args : List Value) (w : World) (R : Ending → World → Prop) (hn : args.length ≤ 41) (h : denS Try.prog s76 (argsEnv 0 args) w (endK r76 R)) : Calls Try.prog 76 args.toArray w R :=
  calls_of_den (pn := []) (fn := Try.f76) (c := Try.f76.body.getD .skip) Try.func76 (by kernel_rfl) (by rw [Try.ntmps76]; exact hn) (by rw [Try.ntmps76]; exact tr76) (by kernel_rfl) h
def d76 (x0 : Array Value) (w : World) (R : Ending → World → Prop) : Prop :=
 ∀ w1 : World, w1 = World.alloc w (.cells x0 39) →
 ∃ J2 : Bool → World → Prop,
 (∃ x3 : Int, World.cell? w1 (Addr.add ⟨World.heap w |>.size, 0, none⟩ 0) = some (.int .i64 x3) ∧
 (bif (decide (x3 < 0)) then
 (J2 true w1)
 else
 (∃ x4 : Int, World.cell? w1 (Addr.add ⟨World.heap w |>.size, 0, none⟩ 0) = some (.int .i64 x4) ∧
 J2 (decide (64 ≤ x4)) w1))) ∧
 (∀ (w5 : World) (x6 : Bool), J2 x6 w5 →
 (bif x6 then
 (R (.returned (.int .i64 61)) w5)
 else
 (∃ (x7 : Option Addr) (x7n : Nat) (x7c : Nat), World.cell? w5 (Addr.add ⟨World.heap w |>.size, 0, none⟩ 1) = some (.slice x7 x7n x7c) ∧
 (bif (decide (16 < ((x7n : Nat) : Int))) then
 (R (.returned (.int .i64 62)) w5)
 else
 (∃ (x8 : Option Addr) (x8n : Nat) (x8c : Nat), World.cell? w5 (Addr.add ⟨World.heap w |>.size, 0, none⟩ 2) = some (.slice x8 x8n x8c) ∧
 (bif (decide (16 < ((x8n : Nat) : Int))) then
 (R (.returned (.int .i64 63)) w5)
 else
 (∃ (x9 : Option Addr) (x9n : Nat) (x9c : Nat), World.cell? w5 (Addr.add ⟨World.heap w |>.size, 0, none⟩ 3) = some (.slice x9 x9n x9c) ∧
 (bif (decide (16 < ((x9n : Nat) : Int))) then
 (R (.returned (.int .i64 64)) w5)
 else
 (∃ (x10 : Option Addr) (x10n : Nat) (x10c : Nat), World.cell? w5 (Addr.add ⟨World.heap w |>.size, 0, none⟩ 2) = some (.slice x10 x10n x10c) ∧
 Calls Try.prog 81 #[(.slice x10 x10n x10c)] w5 fun e11 w12 => ∃ x13 : Bool, e11 = .returned (.bool x13) ∧
 ∃ (x14 : Option Addr) (x14n : Nat) (x14c : Nat), World.cell? w12 (Addr.add ⟨World.heap w |>.size, 0, none⟩ 3) = some (.slice x14 x14n x14c) ∧
 Calls Try.prog 81 #[(.slice x14 x14n x14c)] w12 fun e15 w16 => ∃ x17 : Bool, e15 = .returned (.bool x17) ∧
 (bif (!x13) then
 (R (.returned (.int .i64 65)) w16)
 else
 ((bif (!x17) then
 (R (.returned (.int .i64 65)) w16)
 else
 (R (.returned (.int .i64 0)) w16)))))))))))))
theorem e76 (x0 : Array Value) (w : World) (R : Ending → World → Prop) : denS Try.prog s76 (argsEnv 0 [(.agg x0)]) w (endK r76 R) = d76 x0 w R := by kernel_rfl
theorem c76 (x0 : Array Value) {w : World} {R : Ending → World → Prop} (h : d76 x0 w R) : Calls Try.prog 76 #[(.agg x0)] w R :=
  den76 [(.agg x0)] w R (by simp) ((e76 x0 w R).symm ▸ h)

/-- prelude/preluderef06.Encode -/
def s68 : S := (.seq (.ops [⟨(some 2), (.mv (.const (.slice none 0 0))), .sl, none⟩,
  ⟨(some 3), (.mv (.const (.int .i64 0))), (.int .i64), none⟩] [0])
 (.seq (.seq (.ops [⟨(some 8), (.mv (.tmp 0)), .sl, none⟩,
  ⟨(some 9), (.len (.tmp 8)), (.int .i64), none⟩,
  ⟨(some 10), (.bin .gtr (.tmp 9) (.const (.int .i64 64))), .bool, none⟩] [10, 0])
 (.cond (.tmp 10)
 (.seq (.ops [⟨(some 2), (.mv (.const (.slice none 0 0))), .sl, none⟩,
  ⟨(some 3), (.mv (.const (.int .i64 60))), (.int .i64), none⟩] [2, 3])
 .ret)
 .skip))
 (.seq (.ops [⟨(some 11), (.mv (.tmp 0)), .sl, none⟩,
  ⟨(some 12), (.len (.tmp 11)), (.int .i64), none⟩,
  ⟨(some 13), (.call 75 [(.tmp 12)] [.sl]), .sl, none⟩,
  ⟨(some 4), (.mv (.tmp 13)), .sl, none⟩] [0, 4])
 (.seq (.seq (.ops [⟨(some 5), (.mv (.const (.int .i64 0))), (.int .i64), none⟩] [5, 0, 4])
 (.block 0
 (.loop [(4, .sl), (5, (.int .i64))] [0]
 (.seq (.seq (.ops [⟨(some 14), (.mv (.tmp 5)), (.int .i64), none⟩,
  ⟨(some 15), (.mv (.tmp 0)), .sl, none⟩,
  ⟨(some 16), (.len (.tmp 15)), (.int .i64), none⟩,
  ⟨(some 17), (.bin .lss (.tmp 14) (.tmp 16)), .bool, none⟩] [17, 0, 5, 4])
 (.cond (.tmp 17)
 .skip
 (.exit 0)))
 (.seq (.block 1
 (.seq (.ops [⟨(some 20), (.mv (.tmp 0)), .sl, none⟩,
  ⟨(some 21), (.mv (.tmp 5)), (.int .i64), none⟩,
  ⟨(some 22), (.ia 4 (.tmp 20) (.tmp 21)), .ptr, none⟩,
  ⟨(some 23), (.ldN 4 (.tmp 22)), .agg, none⟩,
  ⟨(some 24), (.call 76 [(.tmp 23)] [(.int .i64)]), (.int .i64), none⟩,
  ⟨(some 6), (.mv (.tmp 24)), (.int .i64), none⟩] [6, 4, 0, 5])
 (.seq (.seq (.ops [⟨(some 25), (.mv (.tmp 6)), (.int .i64), none⟩,
  ⟨(some 26), (.bin .neq (.tmp 25) (.const (.int .i64 0))), .bool, none⟩] [26, 6, 4, 0, 5])
 (.cond (.tmp 26)
 (.seq (.ops [⟨(some 27), (.mv (.tmp 6)), (.int .i64), none⟩,
  ⟨(some 2), (.mv (.const (.slice none 0 0))), .sl, none⟩,
  ⟨(some 3), (.mv (.tmp 27)), (.int .i64), none⟩] [2, 3])
 .ret)
 .skip))
 (.seq (.ops [⟨(some 28), (.mv (.tmp 4)), .sl, none⟩,
  ⟨(some 29), (.mv (.tmp 0)), .sl, none⟩,
  ⟨(some 30), (.mv (.tmp 5)), (.int .i64), none⟩,
  ⟨(some 31), (.ia 4 (.tmp 29) (.tmp 30)), .ptr, none⟩,
  ⟨(some 32), (.fa 0 (.tmp 31)), .ptr, none⟩,
  ⟨(some 33), (.ld1 (.tmp 32)), (.int .i64), none⟩,
  ⟨(some 34), (.call 75 [(.tmp 33)] [.sl]), .sl, none⟩,
  ⟨(some 35), (.app #[98, 98] 98 (.tmp 28) (.tmp 34)), .sl, none⟩,
  ⟨(some 4), (.mv (.tmp 35)), .sl, none⟩] [4, 0, 5])
 (.seq (.ops [⟨(some 36), (.mv (.tmp 4)), .sl, none⟩,
  ⟨(some 37), (.mv (.tmp 0)), .sl, none⟩,
  ⟨(some 38), (.mv (.tmp 5)), (.int .i64), none⟩,
  ⟨(some 39), (.ia 4 (.tmp 37) (.tmp 38)), .ptr, none⟩,
  ⟨(some 40), (.fa 1 (.tmp 39)), .ptr, none⟩,
  ⟨(some 41), (.ld1 (.tmp 40)), .sl, none⟩,
  ⟨(some 42), (.len (.tmp 41)), (.int .i64), none⟩,
  ⟨(some 43), (.call 75 [(.tmp 42)] [.sl]), .sl, none⟩,
  ⟨(some 44), (.app #[98, 98] 98 (.tmp 36) (.tmp 43)), .sl, none⟩,
  ⟨(some 4), (.mv (.tmp 44)), .sl, none⟩] [0, 5, 4])
 (.seq (.seq (.ops [⟨(some 7), (.mv (.const (.int .i64 0))), (.int .i64), none⟩] [7, 0, 5, 4])
 (.block 2
 (.loop [(4, .sl), (7, (.int .i64))] [0, 5]
 (.seq (.seq (.ops [⟨(some 45), (.mv (.tmp 7)), (.int .i64), none⟩,
  ⟨(some 46), (.mv (.tmp 0)), .sl, none⟩,
  ⟨(some 47), (.mv (.tmp 5)), (.int .i64), none⟩,
  ⟨(some 48), (.ia 4 (.tmp 46) (.tmp 47)), .ptr, none⟩,
  ⟨(some 49), (.fa 1 (.tmp 48)), .ptr, none⟩,
  ⟨(some 50), (.ld1 (.tmp 49)), .sl, none⟩,
  ⟨(some 51), (.len (.tmp 50)), (.int .i64), none⟩,
  ⟨(some 52), (.bin .lss (.tmp 45) (.tmp 51)), .bool, none⟩] [52, 4, 0, 5, 7])
 (.cond (.tmp 52)
 .skip
 (.exit 2)))
 (.seq (.block 3
 (.ops [⟨(some 55), (.mv (.tmp 4)), .sl, none⟩,
  ⟨(some 56), (.mv (.tmp 0)), .sl, none⟩,
  ⟨(some 57), (.mv (.tmp 5)), (.int .i64), none⟩,
  ⟨(some 58), (.ia 4 (.tmp 56) (.tmp 57)), .ptr, none⟩,
  ⟨(some 59), (.fa 1 (.tmp 58)), .ptr, none⟩,
  ⟨(some 60), (.ld1 (.tmp 59)), .sl, none⟩,
  ⟨(some 61), (.mv (.tmp 7)), (.int .i64), none⟩,
  ⟨(some 62), (.ia 1 (.tmp 60) (.tmp 61)), .ptr, none⟩,
  ⟨(some 63), (.ld1 (.tmp 62)), (.int .i64), none⟩,
  ⟨(some 64), (.call 77 [(.tmp 63)] [.sl]), .sl, none⟩,
  ⟨(some 65), (.app #[98, 98] 98 (.tmp 55) (.tmp 64)), .sl, none⟩,
  ⟨(some 4), (.mv (.tmp 65)), .sl, none⟩] [7, 0, 5, 4]))
 (.ops [⟨(some 53), (.mv (.tmp 7)), (.int .i64), none⟩,
  ⟨(some 54), (.bin .add (.tmp 53) (.const (.int .i64 1))), (.int .i64), none⟩,
  ⟨(some 7), (.mv (.tmp 54)), (.int .i64), none⟩] [7, 0, 5, 4]))))))
 (.seq (.ops [⟨(some 66), (.mv (.tmp 4)), .sl, none⟩,
  ⟨(some 67), (.mv (.tmp 0)), .sl, none⟩,
  ⟨(some 68), (.mv (.tmp 5)), (.int .i64), none⟩,
  ⟨(some 69), (.ia 4 (.tmp 67) (.tmp 68)), .ptr, none⟩,
  ⟨(some 70), (.fa 2 (.tmp 69)), .ptr, none⟩,
  ⟨(some 71), (.ld1 (.tmp 70)), .sl, none⟩,
  ⟨(some 72), (.call 78 [(.tmp 71)] [.sl]), .sl, none⟩,
  ⟨(some 73), (.app #[98, 98] 98 (.tmp 66) (.tmp 72)), .sl, none⟩,
  ⟨(some 4), (.mv (.tmp 73)), .sl, none⟩] [4, 0, 5])
 (.ops [⟨(some 74), (.mv (.tmp 4)), .sl, none⟩,
  ⟨(some 75), (.mv (.tmp 0)), .sl, none⟩,
  ⟨(some 76), (.mv (.tmp 5)), (.int .i64), none⟩,
  ⟨(some 77), (.ia 4 (.tmp 75) (.tmp 76)), .ptr, none⟩,
  ⟨(some 78), (.fa 3 (.tmp 77)), .ptr, none⟩,
  ⟨(some 79), (.ld1 (.tmp 78)), .sl, none⟩,
  ⟨(some 80), (.call 78 [(.tmp 79)] [.sl]), .sl, none⟩,
  ⟨(some 81), (.app #[98, 98] 98 (.tmp 74) (.tmp 80)), .sl, none⟩,
  ⟨(some 4), (.mv (.tmp 81)), .sl, none⟩] [5, 0, 4]))))))))
 (.ops [⟨(some 18), (.mv (.tmp 5)), (.int .i64), none⟩,
  ⟨(some 19), (.bin .add (.tmp 18) (.const (.int .i64 1))), (.int .i64), none⟩,
  ⟨(some 5), (.mv (.tmp 19)), (.int .i64), none⟩] [5, 0, 4]))))))
 (.seq (.ops [⟨(some 82), (.mv (.tmp 4)), .sl, none⟩,
  ⟨(some 2), (.mv (.tmp 82)), .sl, none⟩,
  ⟨(some 3), (.mv (.const (.int .i64 0))), (.int .i64), none⟩] [2, 3])
 .ret)))))
def r68 : List Res := [.t 2, .t 3]
theorem tr68 : trS Try.prog [] 83 (Try.f68.body.getD .skip) s68 = some s68 := by kernel_rfl
theorem den68 (args : List Value) (w : World) (R : Ending → World → Prop) (hn : args.length ≤ 83) (h : denS Try.prog s68 (argsEnv 0 args) w (endK r68 R)) : Calls Try.prog 68 args.toArray w R :=
  calls_of_den (pn := []) (fn := Try.f68) (c := Try.f68.body.getD .skip) Try.func68 (by kernel_rfl) (by rw [Try.ntmps68]; exact hn) (by rw [Try.ntmps68]; exact tr68) (by kernel_rfl) h
def d68 (b0 : Option Addr) (b0n : Nat) (b0c : Nat) (w : World) (R : Ending → World → Prop) : Prop :=
 (bif (decide (64 < ((b0n : Nat) : Int))) then
 (R (.returned (.tuple #[(.slice none 0 0), (.int .i64 60)])) w)
 else
 (Calls Try.prog 75 #[(.int .i64 ((b0n : Nat) : Int))] w fun e1 w2 => ∃ (x3 : Option Addr) (x3n : Nat) (x3c : Nat), e1 = .returned (.slice x3 x3n x3c) ∧
 ∃ I4 : Nat → Option Addr → Nat → Nat → Int → World → Prop,
 (∃ m, I4 m x3 x3n x3c 0 w2) ∧
 (∀ (m5 : Nat) (w6 : World) (out7 : Option Addr) (out7n : Nat) (out7c : Nat) (i8 : Int), I4 m5 out7 out7n out7c i8 w6 →
 (bif (decide (i8 < ((b0n : Nat) : Int))) then
 (0 ≤ i8 ∧ i8 < ((b0n : Nat) : Int) ∧ optK b0 fun a9 =>
 ∃ cs10 : List Value, List.length cs10 = 4 ∧ Cells w6 (Addr.add a9 (Int.toNat i8 * 4)) cs10 ∧
 Calls Try.prog 76 #[(.agg (List.toArray cs10))] w6 fun e11 w12 => ∃ x13 : Int, e11 = .returned (.int .i64 x13) ∧
 (bif (!decide (x13 = 0)) then
 (R (.returned (.tuple #[(.slice none 0 0), (.int .i64 x13)])) w12)
 else
 (0 ≤ i8 ∧ i8 < ((b0n : Nat) : Int) ∧ optK b0 fun a14 =>
 ∃ x15 : Int, World.cell? w12 (Addr.add (Addr.add a14 (Int.toNat i8 * 4)) 0) = some (.int .i64 x15) ∧
 Calls Try.prog 75 #[(.int .i64 x15)] w12 fun e16 w17 => ∃ (x18 : Option Addr) (x18n : Nat) (x18c : Nat), e16 = .returned (.slice x18 x18n x18c) ∧
 RunV Try.prog (Builtin.append_ #[98, 98] 98 #[(.slice out7 out7n out7c), (.slice x18 x18n x18c)]) w17 fun v19 w20 => ∃ (x21 : Option Addr) (x21n : Nat) (x21c : Nat), v19 = (.slice x21 x21n x21c) ∧
 0 ≤ i8 ∧ i8 < ((b0n : Nat) : Int) ∧ optK b0 fun a22 =>
 ∃ (x23 : Option Addr) (x23n : Nat) (x23c : Nat), World.cell? w20 (Addr.add (Addr.add a22 (Int.toNat i8 * 4)) 1) = some (.slice x23 x23n x23c) ∧
 Calls Try.prog 75 #[(.int .i64 ((x23n : Nat) : Int))] w20 fun e24 w25 => ∃ (x26 : Option Addr) (x26n : Nat) (x26c : Nat), e24 = .returned (.slice x26 x26n x26c) ∧
 RunV Try.prog (Builtin.append_ #[98, 98] 98 #[(.slice x21 x21n x21c), (.slice x26 x26n x26c)]) w25 fun v27 w28 => ∃ (x29 : Option Addr) (x29n : Nat) (x29c : Nat), v27 = (.slice x29 x29n x29c) ∧
 ∃ I30 : Nat → Option Addr → Nat → Nat → Int → World → Prop,
 (∃ m, I30 m x29 x29n x29c 0 w28) ∧
 (∀ (m31 : Nat) (w32 : World) (out33 : Option Addr) (out33n : Nat) (out33c : Nat) (k34 : Int), I30 m31 out33 out33n out33c k34 w32 →
 0 ≤ i8 ∧ i8 < ((b0n : Nat) : Int) ∧ optK b0 fun a35 =>
 ∃ (x36 : Option Addr) (x36n : Nat) (x36c : Nat), World.cell? w32 (Addr.add (Addr.add a35 (Int.toNat i8 * 4)) 1) = some (.slice x36 x36n x36c) ∧
 (bif (decide (k34 < ((x36n : Nat) : Int))) then
 (0 ≤ i8 ∧ i8 < ((b0n : Nat) : Int) ∧ optK b0 fun a37 =>
 ∃ (x38 : Option Addr) (x38n : Nat) (x38c : Nat), World.cell? w32 (Addr.add (Addr.add a37 (Int.toNat i8 * 4)) 1) = some (.slice x38 x38n x38c) ∧
 0 ≤ k34 ∧ k34 < ((x38n : Nat) : Int) ∧ optK x38 fun a39 =>
 ∃ x40 : Int, World.cell? w32 (Addr.add a39 (Int.toNat k34 * 1)) = some (.int .i64 x40) ∧
 Calls Try.prog 77 #[(.int .i64 x40)] w32 fun e41 w42 => ∃ (x43 : Option Addr) (x43n : Nat) (x43c : Nat), e41 = .returned (.slice x43 x43n x43c) ∧
 RunV Try.prog (Builtin.append_ #[98, 98] 98 #[(.slice out33 out33n out33c), (.slice x43 x43n x43c)]) w42 fun v44 w45 => ∃ (x46 : Option Addr) (x46n : Nat) (x46c : Nat), v44 = (.slice x46 x46n x46c) ∧
 ∃ m47, m47 < m31 ∧ I30 m47 x46 x46n x46c (IntKind.wrap .i64 (k34 + 1)) w45)
 else
 (0 ≤ i8 ∧ i8 < ((b0n : Nat) : Int) ∧ optK b0 fun a48 =>
 ∃ (x49 : Option Addr) (x49n : Nat) (x49c : Nat), World.cell? w32 (Addr.add (Addr.add a48 (Int.toNat i8 * 4)) 2) = some (.slice x49 x49n x49c) ∧
 Calls Try.prog 78 #[(.slice x49 x49n x49c)] w32 fun e50 w51 => ∃ (x52 : Option Addr) (x52n : Nat) (x52c : Nat), e50 = .returned (.slice x52 x52n x52c) ∧
 RunV Try.prog (Builtin.append_ #[98, 98] 98 #[(.slice out33 out33n out33c), (.slice x52 x52n x52c)]) w51 fun v53 w54 => ∃ (x55 : Option Addr) (x55n : Nat) (x55c : Nat), v53 = (.slice x55 x55n x55c) ∧
 0 ≤ i8 ∧ i8 < ((b0n : Nat) : Int) ∧ optK b0 fun a56 =>
 ∃ (x57 : Option Addr) (x57n : Nat) (x57c : Nat), World.cell? w54 (Addr.add (Addr.add a56 (Int.toNat i8 * 4)) 3) = some (.slice x57 x57n x57c) ∧
 Calls Try.prog 78 #[(.slice x57 x57n x57c)] w54 fun e58 w59 => ∃ (x60 : Option Addr) (x60n : Nat) (x60c : Nat), e58 = .returned (.slice x60 x60n x60c) ∧
 RunV Try.prog (Builtin.append_ #[98, 98] 98 #[(.slice x55 x55n x55c), (.slice x60 x60n x60c)]) w59 fun v61 w62 => ∃ (x63 : Option Addr) (x63n : Nat) (x63c : Nat), v61 = (.slice x63 x63n x63c) ∧
 ∃ m64, m64 < m5 ∧ I4 m64 x63 x63n x63c (IntKind.wrap .i64 (i8 + 1)) w62))))))
 else
 (R (.returned (.tuple #[(.slice out7 out7n out7c), (.int .i64 0)])) w6)))))
theorem e68 (b0 : Option Addr) (b0n : Nat) (b0c : Nat) (w : World) (R : Ending → World → Prop) : denS Try.prog s68 (argsEnv 0 [(.slice b0 b0n b0c)]) w (endK r68 R) = d68 b0 b0n b0c w R := by kernel_rfl
theorem c68 (b0 : Option Addr) (b0n : Nat) (b0c : Nat) {w : World} {R : Ending → World → Prop} (h : d68 b0 b0n b0c w R) : Calls Try.prog 68 #[(.slice b0 b0n b0c)] w R :=
  den68 [(.slice b0 b0n b0c)] w R (by simp) ((e68 b0 b0n b0c w R).symm ▸ h)

end Go.Proofs.Ytjchneebdlncfaa.Fn
