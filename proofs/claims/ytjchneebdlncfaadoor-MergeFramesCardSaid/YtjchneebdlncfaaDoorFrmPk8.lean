/-
  THE CODE of some functions of the given program, resolved, and proved to ask what the readable texts (d..) say; contracts c.. follow. Printed by a small program of mine.
  BATCHES AS BYTES: contracts of formed, first, Encode.
  A READER OF BYTES: contracts of Read, uint, Uint, Upto, Byte, Int, Raw, Fail, Err, End, At, Left.
  Own work. No macro, syntax, notation, axiom.
-/
import Derived.Test.YtjchneebdlncfaaDoorFrmPk3
import Derived.Test.YtjchneebdlncfaaDoorProg
import Derived.Test.YtjchneebdlncfaaDoorFrmPk6
import Derived.Test.YtjchneebdlncfaaDoorFrmPk7
import Derived.Test.YtjchneebdlncfaaDoorFrmPk5
set_option maxRecDepth 100000
namespace Go.Proofs.YtjchneebdlncfaaDoor.Fn
open Go Den
/-- prelude/batch.Encode -/
def s29 : S := (.seq (.ops [⟨(some 2), (.mv (.const (.slice none 0 0))), .sl, none⟩,
  ⟨(some 3), (.mv (.const (.int .i64 0))), (.int .i64), none⟩] [0])
 (.seq (.seq (.ops [⟨(some 18), (.mv (.tmp 0)), .sl, none⟩,
  ⟨(some 19), (.call 65 [(.tmp 18), (.func 66)] [(.int .i64), (.int .i64)]), .any, none⟩,
  ⟨(some 17), (.mv (.tmp 19)), .any, none⟩,
  ⟨(some 20), (.ext 0 (.tmp 17)), (.int .i64), none⟩,
  ⟨(some 21), (.ext 1 (.tmp 17)), (.int .i64), none⟩,
  ⟨(some 4), (.mv (.tmp 20)), (.int .i64), none⟩,
  ⟨(some 5), (.mv (.tmp 21)), (.int .i64), none⟩] [5, 0])
 (.seq (.ops [⟨(some 22), (.mv (.tmp 5)), (.int .i64), none⟩,
  ⟨(some 23), (.bin .neq (.tmp 22) (.const (.int .i64 0))), .bool, none⟩] [23, 5, 0])
 (.cond (.tmp 23)
 (.seq (.ops [⟨(some 24), (.mv (.tmp 5)), (.int .i64), none⟩,
  ⟨(some 2), (.mv (.const (.slice none 0 0))), .sl, none⟩,
  ⟨(some 3), (.mv (.tmp 24)), (.int .i64), none⟩] [2, 3])
 .ret)
 .skip)))
 (.seq (.ops [⟨(some 25), (.call 30 [] [.ptr]), .ptr, none⟩,
  ⟨(some 6), (.mv (.tmp 25)), .ptr, none⟩] [6, 0])
 (.seq (.ops [⟨(some 26), (.mv (.tmp 6)), .ptr, none⟩,
  ⟨(some 27), (.mv (.tmp 0)), .sl, none⟩,
  ⟨(some 28), (.len (.tmp 27)), (.int .i64), none⟩,
  ⟨(some 29), (.cv .u64 (.tmp 28)), (.int .u64), none⟩,
  ⟨(some 30), (.call 31 [(.tmp 26), (.tmp 29)] []), .any, none⟩] [0, 6])
 (.seq (.seq (.ops [⟨(some 31), (.mv (.tmp 0)), .sl, none⟩,
  ⟨(some 32), (.len (.tmp 31)), (.int .i64), none⟩,
  ⟨(some 33), (.mv (.const (.int .i64 0))), (.int .i64), none⟩] [33, 32, 31, 6])
 (.block 0
 (.loop [(33, (.int .i64))] [6, 31, 32]
 (.seq (.ops [⟨(some 34), (.bin .lss (.tmp 33) (.tmp 32)), .any, none⟩] [34, 31, 33, 6, 32])
 (.seq (.cond (.tmp 34)
 .skip
 (.exit 0))
 (.seq (.block 1
 (.seq (.ops [⟨(some 35), (.ia 4 (.tmp 31) (.tmp 33)), .ptr, none⟩,
  ⟨(some 36), (.ldN 4 (.tmp 35)), .agg, none⟩,
  ⟨(some 8), (.alloc 76), .ptr, none⟩,
  ⟨none, (.stN 4 (.tmp 8) (.tmp 36)), .any, none⟩] [6, 8, 33, 32, 31])
 (.seq (.ops [⟨(some 37), (.mv (.tmp 6)), .ptr, none⟩,
  ⟨(some 38), (.fa 0 (.tmp 8)), .ptr, none⟩,
  ⟨(some 39), (.ld1 (.tmp 38)), (.int .i64), none⟩,
  ⟨(some 40), (.cv .u64 (.tmp 39)), (.int .u64), none⟩,
  ⟨(some 41), (.call 31 [(.tmp 37), (.tmp 40)] []), .any, none⟩] [6, 8, 33, 32, 31])
 (.seq (.ops [⟨(some 42), (.mv (.tmp 6)), .ptr, none⟩,
  ⟨(some 43), (.fa 1 (.tmp 8)), .ptr, none⟩,
  ⟨(some 44), (.ld1 (.tmp 43)), .sl, none⟩,
  ⟨(some 45), (.len (.tmp 44)), (.int .i64), none⟩,
  ⟨(some 46), (.cv .u64 (.tmp 45)), (.int .u64), none⟩,
  ⟨(some 47), (.call 31 [(.tmp 42), (.tmp 46)] []), .any, none⟩] [8, 6, 33, 32, 31])
 (.seq (.seq (.ops [⟨(some 48), (.fa 1 (.tmp 8)), .ptr, none⟩,
  ⟨(some 49), (.ld1 (.tmp 48)), .sl, none⟩,
  ⟨(some 50), (.len (.tmp 49)), (.int .i64), none⟩,
  ⟨(some 51), (.mv (.const (.int .i64 0))), (.int .i64), none⟩] [51, 50, 49, 6, 8, 33, 32, 31])
 (.block 2
 (.loop [(51, (.int .i64))] [6, 8, 31, 32, 33, 49, 50]
 (.seq (.ops [⟨(some 52), (.bin .lss (.tmp 51) (.tmp 50)), .any, none⟩] [52, 49, 51, 6, 50, 8, 33, 32, 31])
 (.seq (.cond (.tmp 52)
 .skip
 (.exit 2))
 (.seq (.block 3
 (.seq (.ops [⟨(some 53), (.ia 1 (.tmp 49) (.tmp 51)), .ptr, none⟩,
  ⟨(some 54), (.ld1 (.tmp 53)), (.int .i64), none⟩,
  ⟨(some 10), (.mv (.tmp 54)), (.int .i64), none⟩] [6, 10, 51, 50, 49, 8, 33, 32, 31])
 (.ops [⟨(some 55), (.mv (.tmp 6)), .ptr, none⟩,
  ⟨(some 56), (.mv (.tmp 10)), (.int .i64), none⟩,
  ⟨(some 57), (.call 67 [(.tmp 55), (.tmp 56)] []), .any, none⟩] [51, 50, 49, 6, 8, 33, 32, 31])))
 (.ops [⟨(some 58), (.bin .add (.tmp 51) (.const (.int .i64 1))), (.int .i64), none⟩,
  ⟨(some 51), (.mv (.tmp 58)), (.int .i64), none⟩] [51, 50, 49, 6, 8, 33, 32, 31])))))))
 (.seq (.ops [⟨(some 59), (.fa 2 (.tmp 8)), .ptr, none⟩,
  ⟨(some 60), (.ld1 (.tmp 59)), .sl, none⟩,
  ⟨(some 61), (.fa 3 (.tmp 8)), .ptr, none⟩,
  ⟨(some 62), (.ld1 (.tmp 61)), .sl, none⟩,
  ⟨(some 63), (.bld 127 (.elems 1) [(0, (.tmp 60)), (1, (.tmp 62))]), .agg, none⟩,
  ⟨(some 64), (.mv (.const (.int .i64 0))), (.int .i64), none⟩] [64, 63, 6, 33, 32, 31])
 (.block 4
 (.loop [(64, (.int .i64))] [6, 31, 32, 33, 63]
 (.seq (.ops [⟨(some 65), (.bin .lss (.tmp 64) (.const (.int .i64 2))), .any, none⟩] [65, 63, 64, 6, 33, 32, 31])
 (.seq (.cond (.tmp 65)
 .skip
 (.exit 4))
 (.seq (.block 5
 (.seq (.ops [⟨(some 66), (.ixA 2 1 (.tmp 63) (.tmp 64)), .sl, none⟩,
  ⟨(some 12), (.mv (.tmp 66)), .sl, none⟩] [6, 12, 64, 63, 33, 32, 31])
 (.seq (.ops [⟨(some 67), (.mv (.tmp 6)), .ptr, none⟩,
  ⟨(some 68), (.mv (.tmp 12)), .sl, none⟩,
  ⟨(some 69), (.len (.tmp 68)), (.int .i64), none⟩,
  ⟨(some 70), (.cv .u64 (.tmp 69)), (.int .u64), none⟩,
  ⟨(some 71), (.call 31 [(.tmp 67), (.tmp 70)] []), .any, none⟩] [12, 6, 64, 63, 33, 32, 31])
 (.seq (.ops [⟨(some 72), (.mv (.tmp 12)), .sl, none⟩,
  ⟨(some 73), (.len (.tmp 72)), (.int .i64), none⟩,
  ⟨(some 74), (.mv (.const (.int .i64 0))), (.int .i64), none⟩] [74, 73, 72, 6, 64, 63, 33, 32, 31])
 (.block 6
 (.loop [(74, (.int .i64))] [6, 31, 32, 33, 63, 64, 72, 73]
 (.seq (.ops [⟨(some 75), (.bin .lss (.tmp 74) (.tmp 73)), .any, none⟩] [75, 72, 74, 6, 73, 64, 63, 33, 32, 31])
 (.seq (.cond (.tmp 75)
 .skip
 (.exit 6))
 (.seq (.block 7
 (.seq (.ops [⟨(some 76), (.ia 2 (.tmp 72) (.tmp 74)), .ptr, none⟩,
  ⟨(some 77), (.ldN 2 (.tmp 76)), .agg, none⟩,
  ⟨(some 14), (.alloc 129), .ptr, none⟩,
  ⟨none, (.stN 2 (.tmp 14) (.tmp 77)), .any, none⟩] [14, 6, 74, 73, 72, 64, 63, 33, 32, 31])
 (.seq (.ops [⟨(some 79), (.ldN 2 (.tmp 14)), .agg, none⟩,
  ⟨(some 80), (.call 68 [(.tmp 79)] [.sl, (.int .i64)]), .any, none⟩,
  ⟨(some 78), (.mv (.tmp 80)), .any, none⟩,
  ⟨(some 81), (.ext 0 (.tmp 78)), .sl, none⟩,
  ⟨(some 82), (.ext 1 (.tmp 78)), (.int .i64), none⟩,
  ⟨(some 15), (.mv (.tmp 81)), .sl, none⟩,
  ⟨(some 16), (.mv (.tmp 82)), (.int .i64), none⟩] [6, 15, 74, 73, 72, 64, 63, 33, 32, 31])
 (.ops [⟨(some 83), (.mv (.tmp 6)), .ptr, none⟩,
  ⟨(some 84), (.mv (.tmp 15)), .sl, none⟩,
  ⟨(some 85), (.call 32 [(.tmp 83), (.tmp 84)] []), .any, none⟩] [74, 73, 72, 6, 64, 63, 33, 32, 31]))))
 (.ops [⟨(some 86), (.bin .add (.tmp 74) (.const (.int .i64 1))), (.int .i64), none⟩,
  ⟨(some 74), (.mv (.tmp 86)), (.int .i64), none⟩] [74, 73, 72, 6, 64, 63, 33, 32, 31]))))))))))
 (.ops [⟨(some 87), (.bin .add (.tmp 64) (.const (.int .i64 1))), (.int .i64), none⟩,
  ⟨(some 64), (.mv (.tmp 87)), (.int .i64), none⟩] [64, 63, 6, 33, 32, 31]))))))))))))
 (.ops [⟨(some 88), (.bin .add (.tmp 33) (.const (.int .i64 1))), (.int .i64), none⟩,
  ⟨(some 33), (.mv (.tmp 88)), (.int .i64), none⟩] [33, 32, 31, 6])))))))
 (.seq (.ops [⟨(some 89), (.mv (.tmp 6)), .ptr, none⟩,
  ⟨(some 90), (.call 34 [(.tmp 89)] [.sl]), .sl, none⟩,
  ⟨(some 2), (.mv (.tmp 90)), .sl, none⟩,
  ⟨(some 3), (.mv (.const (.int .i64 0))), (.int .i64), none⟩] [2, 3])
 .ret))))))
def r29 : List Res := [.t 2, .t 3]
theorem tr29 : trS Tryd.prog [] 91 (Tryd.f29.body.getD .skip) s29 = some s29 := by kernel_rfl
theorem den29 (args : List Value) (w : World) (R : Ending → World → Prop) (hn : args.length ≤ 91) (h : denS Tryd.prog s29 (argsEnv 0 args) w (endK r29 R)) : Calls Tryd.prog 29 args.toArray w R :=
  calls_of_den (pn := []) (fn := Tryd.f29) (c := Tryd.f29.body.getD .skip) Tryd.func29 (by kernel_rfl) (by rw [Tryd.ntmps29]; exact hn) (by rw [Tryd.ntmps29]; exact tr29) (by kernel_rfl) h
def d29 (b0 : Option Addr) (b0n : Nat) (b0c : Nat) (w : World) (R : Ending → World → Prop) : Prop :=
 Calls Tryd.prog 65 #[(.slice b0 b0n b0c), (Value.func (.func 66) #[] #[])] w fun e1 w2 => ∃ x3 : Int, ∃ x4 : Int, e1 = .returned (.tuple #[(.int .i64 x3), (.int .i64 x4)]) ∧
 ∃ x5 : Int, (#[(.int .i64 x3), (.int .i64 x4)] : Array Value)[0]? = some (.int .i64 x5) ∧
 ∃ x6 : Int, (#[(.int .i64 x3), (.int .i64 x4)] : Array Value)[1]? = some (.int .i64 x6) ∧
 (bif (!decide (x6 = 0)) then
 (R (.returned (.tuple #[(.slice none 0 0), (.int .i64 x6)])) w2)
 else
 (Calls Tryd.prog 30 #[] w2 fun e7 w8 => ∃ x9 : Option Addr, e7 = .returned (.pointer x9) ∧
 Calls Tryd.prog 31 #[(.pointer x9), (.int .u64 (IntKind.wrap .u64 ((b0n : Nat) : Int)))] w8 fun e10 w11 => e10 = .returned (.tuple #[]) ∧ ∃ I12 : Nat → Int → World → Prop,
 (∃ m, I12 m 0 w11) ∧
 (∀ (m13 : Nat) (w14 : World) (x15 : Int), I12 m13 x15 w14 →
 (bif (decide (x15 < ((b0n : Nat) : Int))) then
 (0 ≤ x15 ∧ x15 < ((b0n : Nat) : Int) ∧ optK b0 fun a16 =>
 ∃ cs17 : List Value, List.length cs17 = 4 ∧ Cells w14 (Addr.add a16 (Int.toNat x15 * 4)) cs17 ∧
 ∀ w18 : World, w18 = World.alloc w14 (.cells (zc Tryd.prog 76).toArray 76) →
 Array.size (List.toArray cs17) = 4 ∧ (∀ u ∈ Array.toList (List.toArray cs17), one u = true) ∧ Room w18 ⟨World.heap w14 |>.size, 0, none⟩ 4 ∧
 ∀ w19 : World, w19 = setCells w18 ⟨World.heap w14 |>.size, 0, none⟩ (Array.toList (List.toArray cs17)) 0 →
 ∃ x20 : Int, World.cell? w19 (Addr.add ⟨World.heap w14 |>.size, 0, none⟩ 0) = some (.int .i64 x20) ∧
 Calls Tryd.prog 31 #[(.pointer x9), (.int .u64 (IntKind.wrap .u64 x20))] w19 fun e21 w22 => e21 = .returned (.tuple #[]) ∧ ∃ (x23 : Option Addr) (x23n : Nat) (x23c : Nat), World.cell? w22 (Addr.add ⟨World.heap w14 |>.size, 0, none⟩ 1) = some (.slice x23 x23n x23c) ∧
 Calls Tryd.prog 31 #[(.pointer x9), (.int .u64 (IntKind.wrap .u64 ((x23n : Nat) : Int)))] w22 fun e24 w25 => e24 = .returned (.tuple #[]) ∧ ∃ (x26 : Option Addr) (x26n : Nat) (x26c : Nat), World.cell? w25 (Addr.add ⟨World.heap w14 |>.size, 0, none⟩ 1) = some (.slice x26 x26n x26c) ∧
 ∃ I27 : Nat → Int → World → Prop,
 (∃ m, I27 m 0 w25) ∧
 (∀ (m28 : Nat) (w29 : World) (x30 : Int), I27 m28 x30 w29 →
 (bif (decide (x30 < ((x26n : Nat) : Int))) then
 (0 ≤ x30 ∧ x30 < ((x26n : Nat) : Int) ∧ optK x26 fun a31 =>
 ∃ x32 : Int, World.cell? w29 (Addr.add a31 (Int.toNat x30 * 1)) = some (.int .i64 x32) ∧
 Calls Tryd.prog 67 #[(.pointer x9), (.int .i64 x32)] w29 fun e33 w34 => e33 = .returned (.tuple #[]) ∧ ∃ m35, m35 < m28 ∧ I27 m35 (IntKind.wrap .i64 (x30 + 1)) w34)
 else
 (∃ (x36 : Option Addr) (x36n : Nat) (x36c : Nat), World.cell? w29 (Addr.add ⟨World.heap w14 |>.size, 0, none⟩ 2) = some (.slice x36 x36n x36c) ∧
 ∃ (x37 : Option Addr) (x37n : Nat) (x37c : Nat), World.cell? w29 (Addr.add ⟨World.heap w14 |>.size, 0, none⟩ 3) = some (.slice x37 x37n x37c) ∧
 ∃ cs38, fillL (.elems 1) (zc Tryd.prog 127) [(0, (.slice x36 x36n x36c)), (1, (.slice x37 x37n x37c))] = some cs38 ∧
 ∃ I39 : Nat → Int → World → Prop,
 (∃ m, I39 m 0 w29) ∧
 (∀ (m40 : Nat) (w41 : World) (x42 : Int), I39 m40 x42 w41 →
 (bif (decide (x42 < 2)) then
 (0 ≤ x42 ∧ x42 < ((2 : Nat) : Int) ∧
 ∃ (x43 : Option Addr) (x43n : Nat) (x43c : Nat), ((List.toArray cs38))[Int.toNat x42 * 1]? = some (.slice x43 x43n x43c) ∧
 Calls Tryd.prog 31 #[(.pointer x9), (.int .u64 (IntKind.wrap .u64 ((x43n : Nat) : Int)))] w41 fun e44 w45 => e44 = .returned (.tuple #[]) ∧ ∃ I46 : Nat → Int → World → Prop,
 (∃ m, I46 m 0 w45) ∧
 (∀ (m47 : Nat) (w48 : World) (x49 : Int), I46 m47 x49 w48 →
 (bif (decide (x49 < ((x43n : Nat) : Int))) then
 (0 ≤ x49 ∧ x49 < ((x43n : Nat) : Int) ∧ optK x43 fun a50 =>
 ∃ cs51 : List Value, List.length cs51 = 2 ∧ Cells w48 (Addr.add a50 (Int.toNat x49 * 2)) cs51 ∧
 ∀ w52 : World, w52 = World.alloc w48 (.cells (zc Tryd.prog 129).toArray 129) →
 Array.size (List.toArray cs51) = 2 ∧ (∀ u ∈ Array.toList (List.toArray cs51), one u = true) ∧ Room w52 ⟨World.heap w48 |>.size, 0, none⟩ 2 ∧
 ∀ w53 : World, w53 = setCells w52 ⟨World.heap w48 |>.size, 0, none⟩ (Array.toList (List.toArray cs51)) 0 →
 ∃ cs54 : List Value, List.length cs54 = 2 ∧ Cells w53 ⟨World.heap w48 |>.size, 0, none⟩ cs54 ∧
 Calls Tryd.prog 68 #[(.agg (List.toArray cs54))] w53 fun e55 w56 => ∃ (x57 : Option Addr) (x57n : Nat) (x57c : Nat), ∃ x58 : Int, e55 = .returned (.tuple #[(.slice x57 x57n x57c), (.int .i64 x58)]) ∧
 ∃ (x59 : Option Addr) (x59n : Nat) (x59c : Nat), (#[(.slice x57 x57n x57c), (.int .i64 x58)] : Array Value)[0]? = some (.slice x59 x59n x59c) ∧
 ∃ x60 : Int, (#[(.slice x57 x57n x57c), (.int .i64 x58)] : Array Value)[1]? = some (.int .i64 x60) ∧
 Calls Tryd.prog 32 #[(.pointer x9), (.slice x59 x59n x59c)] w56 fun e61 w62 => e61 = .returned (.tuple #[]) ∧ ∃ m63, m63 < m47 ∧ I46 m63 (IntKind.wrap .i64 (x49 + 1)) w62)
 else
 (∃ m64, m64 < m40 ∧ I39 m64 (IntKind.wrap .i64 (x42 + 1)) w48))))
 else
 (∃ m65, m65 < m13 ∧ I12 m65 (IntKind.wrap .i64 (x15 + 1)) w41)))))))
 else
 (Calls Tryd.prog 34 #[(.pointer x9)] w14 fun e66 w67 => ∃ (x68 : Option Addr) (x68n : Nat) (x68c : Nat), e66 = .returned (.slice x68 x68n x68c) ∧
 R (.returned (.tuple #[(.slice x68 x68n x68c), (.int .i64 0)])) w67)))))
theorem e29 (b0 : Option Addr) (b0n : Nat) (b0c : Nat) (w : World) (R : Ending → World → Prop) : denS Tryd.prog s29 (argsEnv 0 [(.slice b0 b0n b0c)]) w (endK r29 R) = d29 b0 b0n b0c w R := by kernel_rfl
theorem c29 (b0 : Option Addr) (b0n : Nat) (b0c : Nat) {w : World} {R : Ending → World → Prop} (h : d29 b0 b0n b0c w R) : Calls Tryd.prog 29 #[(.slice b0 b0n b0c)] w R :=
  den29 [(.slice b0 b0n b0c)] w R (by simp) ((e29 b0 b0n b0c w R).symm ▸ h)

/-- prelude/batch.first -/
def s65 : S := (.seq (.ops [⟨(some 4), (.mv (.const (.int .i64 0))), (.int .i64), none⟩,
  ⟨(some 5), (.mv (.const (.int .i64 0))), (.int .i64), none⟩] [0, 1])
 (.seq (.seq (.ops [⟨(some 9), (.mv (.tmp 0)), .sl, none⟩,
  ⟨(some 10), (.len (.tmp 9)), (.int .i64), none⟩,
  ⟨(some 11), (.bin .gtr (.tmp 10) (.const (.int .i64 64))), .bool, none⟩] [11, 0, 1])
 (.cond (.tmp 11)
 (.seq (.ops [⟨(some 4), (.mv (.const (.int .i64 0))), (.int .i64), none⟩,
  ⟨(some 5), (.mv (.const (.int .i64 60))), (.int .i64), none⟩] [4, 5])
 .ret)
 .skip))
 (.seq (.seq (.ops [⟨(some 12), (.mv (.tmp 0)), .sl, none⟩,
  ⟨(some 13), (.len (.tmp 12)), (.int .i64), none⟩,
  ⟨(some 14), (.mv (.const (.int .i64 0))), (.int .i64), none⟩] [14, 13, 12, 1])
 (.block 0
 (.loop [(14, (.int .i64))] [1, 12, 13]
 (.seq (.ops [⟨(some 15), (.bin .lss (.tmp 14) (.tmp 13)), .any, none⟩] [15, 14, 12, 1, 13])
 (.seq (.cond (.tmp 15)
 .skip
 (.exit 0))
 (.seq (.block 1
 (.seq (.ops [⟨(some 16), (.mv (.tmp 14)), (.int .i64), none⟩,
  ⟨(some 17), (.ia 4 (.tmp 12) (.tmp 14)), .ptr, none⟩,
  ⟨(some 18), (.ldN 4 (.tmp 17)), .agg, none⟩,
  ⟨(some 7), (.alloc 76), .ptr, none⟩,
  ⟨(some 6), (.mv (.tmp 16)), (.int .i64), none⟩,
  ⟨none, (.stN 4 (.tmp 7) (.tmp 18)), .any, none⟩] [1, 7, 6, 14, 13, 12])
 (.seq (.ops [⟨(some 19), (.mv (.tmp 1)), .any, none⟩,
  ⟨(some 20), (.ldN 4 (.tmp 7)), .agg, none⟩,
  ⟨(some 21), (.callv (.tmp 19) [(.tmp 20)] [(.int .i64)]), (.int .i64), none⟩,
  ⟨(some 8), (.mv (.tmp 21)), (.int .i64), none⟩] [8, 6, 14, 13, 12, 1])
 (.seq (.ops [⟨(some 22), (.mv (.tmp 8)), (.int .i64), none⟩,
  ⟨(some 23), (.bin .neq (.tmp 22) (.const (.int .i64 0))), .bool, none⟩] [23, 6, 8, 14, 13, 12, 1])
 (.cond (.tmp 23)
 (.seq (.ops [⟨(some 24), (.mv (.tmp 6)), (.int .i64), none⟩,
  ⟨(some 25), (.mv (.tmp 8)), (.int .i64), none⟩,
  ⟨(some 4), (.mv (.tmp 24)), (.int .i64), none⟩,
  ⟨(some 5), (.mv (.tmp 25)), (.int .i64), none⟩] [4, 5])
 .ret)
 .skip)))))
 (.ops [⟨(some 26), (.bin .add (.tmp 14) (.const (.int .i64 1))), (.int .i64), none⟩,
  ⟨(some 14), (.mv (.tmp 26)), (.int .i64), none⟩] [14, 13, 12, 1])))))))
 (.seq (.ops [⟨(some 4), (.mv (.const (.int .i64 0))), (.int .i64), none⟩,
  ⟨(some 5), (.mv (.const (.int .i64 0))), (.int .i64), none⟩] [4, 5])
 .ret))))
def r65 : List Res := [.t 4, .t 5]
theorem tr65 : trS Tryd.prog [] 27 (Tryd.f65.body.getD .skip) s65 = some s65 := by kernel_rfl
theorem den65 (args : List Value) (w : World) (R : Ending → World → Prop) (hn : args.length ≤ 27) (h : denS Tryd.prog s65 (argsEnv 0 args) w (endK r65 R)) : Calls Tryd.prog 65 args.toArray w R :=
  calls_of_den (pn := []) (fn := Tryd.f65) (c := Tryd.f65.body.getD .skip) Tryd.func65 (by kernel_rfl) (by rw [Tryd.ntmps65]; exact hn) (by rw [Tryd.ntmps65]; exact tr65) (by kernel_rfl) h
def d65 (b0 : Option Addr) (b0n : Nat) (b0c : Nat) (wrong1 : Value) (w : World) (R : Ending → World → Prop) : Prop :=
 (bif (decide (64 < ((b0n : Nat) : Int))) then
 (R (.returned (.tuple #[(.int .i64 0), (.int .i64 60)])) w)
 else
 (∃ I2 : Nat → Int → World → Prop,
 (∃ m, I2 m 0 w) ∧
 (∀ (m3 : Nat) (w4 : World) (x5 : Int), I2 m3 x5 w4 →
 (bif (decide (x5 < ((b0n : Nat) : Int))) then
 (0 ≤ x5 ∧ x5 < ((b0n : Nat) : Int) ∧ optK b0 fun a6 =>
 ∃ cs7 : List Value, List.length cs7 = 4 ∧ Cells w4 (Addr.add a6 (Int.toNat x5 * 4)) cs7 ∧
 ∀ w8 : World, w8 = World.alloc w4 (.cells (zc Tryd.prog 76).toArray 76) →
 Array.size (List.toArray cs7) = 4 ∧ (∀ u ∈ Array.toList (List.toArray cs7), one u = true) ∧ Room w8 ⟨World.heap w4 |>.size, 0, none⟩ 4 ∧
 ∀ w9 : World, w9 = setCells w8 ⟨World.heap w4 |>.size, 0, none⟩ (Array.toList (List.toArray cs7)) 0 →
 ∃ cs10 : List Value, List.length cs10 = 4 ∧ Cells w9 ⟨World.heap w4 |>.size, 0, none⟩ cs10 ∧
 fvK Tryd.prog wrong1 #[(.agg (List.toArray cs10))] w9 fun e11 w12 => ∃ x13 : Int, e11 = .returned (.int .i64 x13) ∧
 (bif (!decide (x13 = 0)) then
 (R (.returned (.tuple #[(.int .i64 x5), (.int .i64 x13)])) w12)
 else
 (∃ m14, m14 < m3 ∧ I2 m14 (IntKind.wrap .i64 (x5 + 1)) w12)))
 else
 (R (.returned (.tuple #[(.int .i64 0), (.int .i64 0)])) w4)))))
theorem e65 (b0 : Option Addr) (b0n : Nat) (b0c : Nat) (wrong1 : Value) (w : World) (R : Ending → World → Prop) : denS Tryd.prog s65 (argsEnv 0 [(.slice b0 b0n b0c), wrong1]) w (endK r65 R) = d65 b0 b0n b0c wrong1 w R := by kernel_rfl
theorem c65 (b0 : Option Addr) (b0n : Nat) (b0c : Nat) (wrong1 : Value) {w : World} {R : Ending → World → Prop} (h : d65 b0 b0n b0c wrong1 w R) : Calls Tryd.prog 65 #[(.slice b0 b0n b0c), wrong1] w R :=
  den65 [(.slice b0 b0n b0c), wrong1] w R (by simp) ((e65 b0 b0n b0c wrong1 w R).symm ▸ h)

/-- prelude/batch.formed -/
def s66 : S := (.seq (.ops [⟨(some 1), (.box 76 (.tmp 0)), .ptr, none⟩,
  ⟨(some 2), (.mv (.const (.int .i64 0))), (.int .i64), none⟩] [1])
 (.seq (.block 0
 (.join [(3, .bool)] [1]
 (.ops [⟨(some 4), (.fa 0 (.tmp 1)), .ptr, none⟩,
  ⟨(some 5), (.ld1 (.tmp 4)), (.int .i64), none⟩,
  ⟨(some 6), (.bin .lss (.tmp 5) (.const (.int .i64 0))), .bool, none⟩,
  ⟨(some 7), (.mv (.tmp 6)), .bool, none⟩,
  ⟨(some 8), (.fa 0 (.tmp 1)), .ptr, (some (7, false))⟩,
  ⟨(some 9), (.ld1 (.tmp 8)), (.int .i64), (some (7, false))⟩,
  ⟨(some 10), (.bin .geq (.tmp 9) (.const (.int .i64 64))), .bool, (some (7, false))⟩,
  ⟨(some 11), (.pick (.tmp 7) (.const (.bool true)) (.tmp 10)), .bool, none⟩,
  ⟨(some 3), (.mv (.tmp 11)), .bool, none⟩] [3, 1])
 (.cond (.tmp 3)
 (.seq (.ops [⟨(some 2), (.mv (.const (.int .i64 61))), (.int .i64), none⟩] [2])
 .ret)
 (.seq (.ops [⟨(some 13), (.fa 1 (.tmp 1)), .ptr, none⟩,
  ⟨(some 14), (.ld1 (.tmp 13)), .sl, none⟩,
  ⟨(some 15), (.len (.tmp 14)), (.int .i64), none⟩,
  ⟨(some 16), (.bin .gtr (.tmp 15) (.const (.int .i64 16))), .bool, none⟩,
  ⟨(some 12), (.mv (.tmp 16)), .bool, none⟩] [12, 1])
 (.cond (.tmp 12)
 (.seq (.ops [⟨(some 2), (.mv (.const (.int .i64 62))), (.int .i64), none⟩] [2])
 .ret)
 (.seq (.ops [⟨(some 18), (.fa 2 (.tmp 1)), .ptr, none⟩,
  ⟨(some 19), (.ld1 (.tmp 18)), .sl, none⟩,
  ⟨(some 20), (.len (.tmp 19)), (.int .i64), none⟩,
  ⟨(some 21), (.bin .gtr (.tmp 20) (.const (.int .i64 16))), .bool, none⟩,
  ⟨(some 17), (.mv (.tmp 21)), .bool, none⟩] [17, 1])
 (.cond (.tmp 17)
 (.seq (.ops [⟨(some 2), (.mv (.const (.int .i64 63))), (.int .i64), none⟩] [2])
 .ret)
 (.seq (.ops [⟨(some 23), (.fa 3 (.tmp 1)), .ptr, none⟩,
  ⟨(some 24), (.ld1 (.tmp 23)), .sl, none⟩,
  ⟨(some 25), (.len (.tmp 24)), (.int .i64), none⟩,
  ⟨(some 26), (.bin .gtr (.tmp 25) (.const (.int .i64 16))), .bool, none⟩,
  ⟨(some 22), (.mv (.tmp 26)), .bool, none⟩] [22, 1])
 (.cond (.tmp 22)
 (.seq (.ops [⟨(some 2), (.mv (.const (.int .i64 64))), (.int .i64), none⟩] [2])
 .ret)
 (.seq (.ops [⟨(some 28), (.fa 2 (.tmp 1)), .ptr, none⟩,
  ⟨(some 29), (.ld1 (.tmp 28)), .sl, none⟩,
  ⟨(some 30), (.call 89 [(.tmp 29)] [.bool]), .bool, none⟩,
  ⟨(some 31), (.un .not (.tmp 30)), .bool, none⟩,
  ⟨(some 32), (.mv (.tmp 31)), .bool, none⟩,
  ⟨(some 33), (.fa 3 (.tmp 1)), .ptr, (some (32, false))⟩,
  ⟨(some 34), (.ld1 (.tmp 33)), .sl, (some (32, false))⟩,
  ⟨(some 35), (.call 89 [(.tmp 34)] [.bool]), .bool, (some (32, false))⟩,
  ⟨(some 36), (.un .not (.tmp 35)), .bool, (some (32, false))⟩,
  ⟨(some 37), (.pick (.tmp 32) (.const (.bool true)) (.tmp 36)), .bool, none⟩,
  ⟨(some 27), (.mv (.tmp 37)), .bool, none⟩] [27])
 (.cond (.tmp 27)
 (.seq (.ops [⟨(some 2), (.mv (.const (.int .i64 65))), (.int .i64), none⟩] [2])
 .ret)
 .skip)))))))))))
 (.seq (.ops [⟨(some 2), (.mv (.const (.int .i64 0))), (.int .i64), none⟩] [2])
 .ret)))
def r66 : List Res := [.t 2]
theorem tr66 : trS Tryd.prog [] 38 (Tryd.f66.body.getD .skip) s66 = some s66 := by kernel_rfl
theorem den66 (args : List Value) (w : World) (R : Ending → World → Prop) (hn : args.length ≤ 38) (h : denS Tryd.prog s66 (argsEnv 0 args) w (endK r66 R)) : Calls Tryd.prog 66 args.toArray w R :=
  calls_of_den (pn := []) (fn := Tryd.f66) (c := Tryd.f66.body.getD .skip) Tryd.func66 (by kernel_rfl) (by rw [Tryd.ntmps66]; exact hn) (by rw [Tryd.ntmps66]; exact tr66) (by kernel_rfl) h
def d66 (x0 : Array Value) (w : World) (R : Ending → World → Prop) : Prop :=
 ∀ w1 : World, w1 = World.alloc w (.cells x0 76) →
 ∃ J2 : Bool → World → Prop,
 (∃ x3 : Int, World.cell? w1 (Addr.add ⟨World.heap w |>.size, 0, none⟩ 0) = some (.int .i64 x3) ∧
 (bif (decide (x3 < 0)) then
 (J2 true w1)
 else
 (∃ x4 : Int, World.cell? w1 (Addr.add ⟨World.heap w |>.size, 0, none⟩ 0) = some (.int .i64 x4) ∧
 J2 (decide (64 ≤ x4)) w1))) ∧
 (∀ (w5 : World) (x6 : Bool), J2 x6 w5 →
 (bif x6 then
 (R (.returned (.int .i64 61)) w5)
 else
 (∃ (x7 : Option Addr) (x7n : Nat) (x7c : Nat), World.cell? w5 (Addr.add ⟨World.heap w |>.size, 0, none⟩ 1) = some (.slice x7 x7n x7c) ∧
 (bif (decide (16 < ((x7n : Nat) : Int))) then
 (R (.returned (.int .i64 62)) w5)
 else
 (∃ (x8 : Option Addr) (x8n : Nat) (x8c : Nat), World.cell? w5 (Addr.add ⟨World.heap w |>.size, 0, none⟩ 2) = some (.slice x8 x8n x8c) ∧
 (bif (decide (16 < ((x8n : Nat) : Int))) then
 (R (.returned (.int .i64 63)) w5)
 else
 (∃ (x9 : Option Addr) (x9n : Nat) (x9c : Nat), World.cell? w5 (Addr.add ⟨World.heap w |>.size, 0, none⟩ 3) = some (.slice x9 x9n x9c) ∧
 (bif (decide (16 < ((x9n : Nat) : Int))) then
 (R (.returned (.int .i64 64)) w5)
 else
 (∃ (x10 : Option Addr) (x10n : Nat) (x10c : Nat), World.cell? w5 (Addr.add ⟨World.heap w |>.size, 0, none⟩ 2) = some (.slice x10 x10n x10c) ∧
 Calls Tryd.prog 89 #[(.slice x10 x10n x10c)] w5 fun e11 w12 => ∃ x13 : Bool, e11 = .returned (.bool x13) ∧
 (bif (!x13) then
 (R (.returned (.int .i64 65)) w12)
 else
 (∃ (x14 : Option Addr) (x14n : Nat) (x14c : Nat), World.cell? w12 (Addr.add ⟨World.heap w |>.size, 0, none⟩ 3) = some (.slice x14 x14n x14c) ∧
 Calls Tryd.prog 89 #[(.slice x14 x14n x14c)] w12 fun e15 w16 => ∃ x17 : Bool, e15 = .returned (.bool x17) ∧
 (bif (!x17) then
 (R (.returned (.int .i64 65)) w16)
 else
 (R (.returned (.int .i64 0)) w16)))))))))))))
theorem e66 (x0 : Array Value) (w : World) (R : Ending → World → Prop) : denS Tryd.prog s66 (argsEnv 0 [(.agg x0)]) w (endK r66 R) = d66 x0 w R := by kernel_rfl
theorem c66 (x0 : Array Value) {w : World} {R : Ending → World → Prop} (h : d66 x0 w R) : Calls Tryd.prog 66 #[(.agg x0)] w R :=
  den66 [(.agg x0)] w R (by simp) ((e66 x0 w R).symm ▸ h)

/-- prelude/preluderef06.count -/
def s71 : S := (.seq (.ops [⟨(some 2), (.mv (.const (.slice none 0 0))), .sl, none⟩] [0])
 (.seq (.ops [⟨(some 3), (.mv (.tmp 0)), (.int .i64), none⟩,
  ⟨(some 4), (.cv .u64 (.tmp 3)), (.int .u64), none⟩,
  ⟨(some 5), (.call 40 [(.tmp 4)] [.sl]), .sl, none⟩,
  ⟨(some 2), (.mv (.tmp 5)), .sl, none⟩] [2])
 .ret))
def r71 : List Res := [.t 2]
theorem tr71 : trS Tryd.prog [] 6 (Tryd.f71.body.getD .skip) s71 = some s71 := by kernel_rfl
theorem den71 (args : List Value) (w : World) (R : Ending → World → Prop) (hn : args.length ≤ 6) (h : denS Tryd.prog s71 (argsEnv 0 args) w (endK r71 R)) : Calls Tryd.prog 71 args.toArray w R :=
  calls_of_den (pn := []) (fn := Tryd.f71) (c := Tryd.f71.body.getD .skip) Tryd.func71 (by kernel_rfl) (by rw [Tryd.ntmps71]; exact hn) (by rw [Tryd.ntmps71]; exact tr71) (by kernel_rfl) h
def d71 (n0 : Int) (w : World) (R : Ending → World → Prop) : Prop :=
 Calls Tryd.prog 40 #[(.int .u64 (IntKind.wrap .u64 n0))] w fun e1 w2 => ∃ (x3 : Option Addr) (x3n : Nat) (x3c : Nat), e1 = .returned (.slice x3 x3n x3c) ∧
 R (.returned (.slice x3 x3n x3c)) w2
theorem e71 (n0 : Int) (w : World) (R : Ending → World → Prop) : denS Tryd.prog s71 (argsEnv 0 [(.int .i64 n0)]) w (endK r71 R) = d71 n0 w R := by kernel_rfl
theorem c71 (n0 : Int) {w : World} {R : Ending → World → Prop} (h : d71 n0 w R) : Calls Tryd.prog 71 #[(.int .i64 n0)] w R :=
  den71 [(.int .i64 n0)] w R (by simp) ((e71 n0 w R).symm ▸ h)

/-- prelude/preluderef06.set -/
def s74 : S := (.seq (.ops [⟨(some 2), (.mv (.const (.slice none 0 0))), .sl, none⟩] [0])
 (.seq (.ops [⟨(some 7), (.mv (.tmp 0)), .sl, none⟩,
  ⟨(some 8), (.len (.tmp 7)), (.int .i64), none⟩,
  ⟨(some 9), (.call 71 [(.tmp 8)] [.sl]), .sl, none⟩,
  ⟨(some 3), (.mv (.tmp 9)), .sl, none⟩] [0, 3])
 (.seq (.seq (.ops [⟨(some 4), (.mv (.const (.int .i64 0))), (.int .i64), none⟩] [4, 0, 3])
 (.block 0
 (.loop [(3, .sl), (4, (.int .i64))] [0]
 (.seq (.seq (.ops [⟨(some 10), (.mv (.tmp 4)), (.int .i64), none⟩,
  ⟨(some 11), (.mv (.tmp 0)), .sl, none⟩,
  ⟨(some 12), (.len (.tmp 11)), (.int .i64), none⟩,
  ⟨(some 13), (.bin .lss (.tmp 10) (.tmp 12)), .bool, none⟩] [13, 0, 4, 3])
 (.cond (.tmp 13)
 .skip
 (.exit 0)))
 (.seq (.block 1
 (.seq (.ops [⟨(some 17), (.mv (.tmp 0)), .sl, none⟩,
  ⟨(some 18), (.mv (.tmp 4)), (.int .i64), none⟩,
  ⟨(some 19), (.ia 2 (.tmp 17) (.tmp 18)), .ptr, none⟩,
  ⟨(some 20), (.ldN 2 (.tmp 19)), .agg, none⟩,
  ⟨(some 21), (.call 94 [(.tmp 20)] [.sl, (.int .i64)]), .any, none⟩,
  ⟨(some 16), (.mv (.tmp 21)), .any, none⟩,
  ⟨(some 22), (.ext 0 (.tmp 16)), .sl, none⟩,
  ⟨(some 23), (.ext 1 (.tmp 16)), (.int .i64), none⟩,
  ⟨(some 5), (.mv (.tmp 22)), .sl, none⟩,
  ⟨(some 6), (.mv (.tmp 23)), (.int .i64), none⟩] [3, 5, 4, 0])
 (.ops [⟨(some 24), (.mv (.tmp 3)), .sl, none⟩,
  ⟨(some 25), (.mv (.tmp 5)), .sl, none⟩,
  ⟨(some 26), (.app #[22, 22] 22 (.tmp 24) (.tmp 25)), .sl, none⟩,
  ⟨(some 3), (.mv (.tmp 26)), .sl, none⟩] [4, 0, 3])))
 (.ops [⟨(some 14), (.mv (.tmp 4)), (.int .i64), none⟩,
  ⟨(some 15), (.bin .add (.tmp 14) (.const (.int .i64 1))), (.int .i64), none⟩,
  ⟨(some 4), (.mv (.tmp 15)), (.int .i64), none⟩] [4, 0, 3]))))))
 (.seq (.ops [⟨(some 27), (.mv (.tmp 3)), .sl, none⟩,
  ⟨(some 2), (.mv (.tmp 27)), .sl, none⟩] [2])
 .ret))))
def r74 : List Res := [.t 2]
theorem tr74 : trS Tryd.prog [] 28 (Tryd.f74.body.getD .skip) s74 = some s74 := by kernel_rfl
theorem den74 (args : List Value) (w : World) (R : Ending → World → Prop) (hn : args.length ≤ 28) (h : denS Tryd.prog s74 (argsEnv 0 args) w (endK r74 R)) : Calls Tryd.prog 74 args.toArray w R :=
  calls_of_den (pn := []) (fn := Tryd.f74) (c := Tryd.f74.body.getD .skip) Tryd.func74 (by kernel_rfl) (by rw [Tryd.ntmps74]; exact hn) (by rw [Tryd.ntmps74]; exact tr74) (by kernel_rfl) h
def d74 (l0 : Option Addr) (l0n : Nat) (l0c : Nat) (w : World) (R : Ending → World → Prop) : Prop :=
 Calls Tryd.prog 71 #[(.int .i64 ((l0n : Nat) : Int))] w fun e1 w2 => ∃ (x3 : Option Addr) (x3n : Nat) (x3c : Nat), e1 = .returned (.slice x3 x3n x3c) ∧
 ∃ I4 : Nat → Option Addr → Nat → Nat → Int → World → Prop,
 (∃ m, I4 m x3 x3n x3c 0 w2) ∧
 (∀ (m5 : Nat) (w6 : World) (out7 : Option Addr) (out7n : Nat) (out7c : Nat) (i8 : Int), I4 m5 out7 out7n out7c i8 w6 →
 (bif (decide (i8 < ((l0n : Nat) : Int))) then
 (0 ≤ i8 ∧ i8 < ((l0n : Nat) : Int) ∧ optK l0 fun a9 =>
 ∃ cs10 : List Value, List.length cs10 = 2 ∧ Cells w6 (Addr.add a9 (Int.toNat i8 * 2)) cs10 ∧
 Calls Tryd.prog 94 #[(.agg (List.toArray cs10))] w6 fun e11 w12 => ∃ (x13 : Option Addr) (x13n : Nat) (x13c : Nat), ∃ x14 : Int, e11 = .returned (.tuple #[(.slice x13 x13n x13c), (.int .i64 x14)]) ∧
 ∃ (x15 : Option Addr) (x15n : Nat) (x15c : Nat), (#[(.slice x13 x13n x13c), (.int .i64 x14)] : Array Value)[0]? = some (.slice x15 x15n x15c) ∧
 ∃ x16 : Int, (#[(.slice x13 x13n x13c), (.int .i64 x14)] : Array Value)[1]? = some (.int .i64 x16) ∧
 RunV Tryd.prog (Builtin.append_ #[22, 22] 22 #[(.slice out7 out7n out7c), (.slice x15 x15n x15c)]) w12 fun v17 w18 => ∃ (x19 : Option Addr) (x19n : Nat) (x19c : Nat), v17 = (.slice x19 x19n x19c) ∧
 ∃ m20, m20 < m5 ∧ I4 m20 x19 x19n x19c (IntKind.wrap .i64 (i8 + 1)) w18)
 else
 (R (.returned (.slice out7 out7n out7c)) w6)))
theorem e74 (l0 : Option Addr) (l0n : Nat) (l0c : Nat) (w : World) (R : Ending → World → Prop) : denS Tryd.prog s74 (argsEnv 0 [(.slice l0 l0n l0c)]) w (endK r74 R) = d74 l0 l0n l0c w R := by kernel_rfl
theorem c74 (l0 : Option Addr) (l0n : Nat) (l0c : Nat) {w : World} {R : Ending → World → Prop} (h : d74 l0 l0n l0c w R) : Calls Tryd.prog 74 #[(.slice l0 l0n l0c)] w R :=
  den74 [(.slice l0 l0n l0c)] w R (by simp) ((e74 l0 l0n l0c w R).symm ▸ h)

/-- prelude/preluderef06.Formed -/
def s72 : S := (.seq (.ops [⟨(some 1), (.box 76 (.tmp 0)), .ptr, none⟩,
  ⟨(some 2), (.mv (.const (.int .i64 0))), (.int .i64), none⟩] [1])
 (.seq (.block 0
 (.join [(5, .bool)] [1]
 (.ops [⟨(some 6), (.fa 0 (.tmp 1)), .ptr, none⟩,
  ⟨(some 7), (.ld1 (.tmp 6)), (.int .i64), none⟩,
  ⟨(some 8), (.bin .lss (.tmp 7) (.const (.int .i64 0))), .bool, none⟩,
  ⟨(some 9), (.mv (.tmp 8)), .bool, none⟩,
  ⟨(some 10), (.fa 0 (.tmp 1)), .ptr, (some (9, false))⟩,
  ⟨(some 11), (.ld1 (.tmp 10)), (.int .i64), (some (9, false))⟩,
  ⟨(some 12), (.bin .geq (.tmp 11) (.const (.int .i64 64))), .bool, (some (9, false))⟩,
  ⟨(some 13), (.pick (.tmp 9) (.const (.bool true)) (.tmp 12)), .bool, none⟩,
  ⟨(some 5), (.mv (.tmp 13)), .bool, none⟩] [5, 1])
 (.cond (.tmp 5)
 (.seq (.ops [⟨(some 2), (.mv (.const (.int .i64 61))), (.int .i64), none⟩] [2])
 .ret)
 (.seq (.ops [⟨(some 15), (.fa 1 (.tmp 1)), .ptr, none⟩,
  ⟨(some 16), (.ld1 (.tmp 15)), .sl, none⟩,
  ⟨(some 17), (.len (.tmp 16)), (.int .i64), none⟩,
  ⟨(some 18), (.bin .gtr (.tmp 17) (.const (.int .i64 16))), .bool, none⟩,
  ⟨(some 14), (.mv (.tmp 18)), .bool, none⟩] [14, 1])
 (.cond (.tmp 14)
 (.seq (.ops [⟨(some 2), (.mv (.const (.int .i64 62))), (.int .i64), none⟩] [2])
 .ret)
 (.seq (.ops [⟨(some 20), (.fa 2 (.tmp 1)), .ptr, none⟩,
  ⟨(some 21), (.ld1 (.tmp 20)), .sl, none⟩,
  ⟨(some 22), (.len (.tmp 21)), (.int .i64), none⟩,
  ⟨(some 23), (.bin .gtr (.tmp 22) (.const (.int .i64 16))), .bool, none⟩,
  ⟨(some 19), (.mv (.tmp 23)), .bool, none⟩] [19, 1])
 (.cond (.tmp 19)
 (.seq (.ops [⟨(some 2), (.mv (.const (.int .i64 63))), (.int .i64), none⟩] [2])
 .ret)
 (.seq (.ops [⟨(some 25), (.fa 3 (.tmp 1)), .ptr, none⟩,
  ⟨(some 26), (.ld1 (.tmp 25)), .sl, none⟩,
  ⟨(some 27), (.len (.tmp 26)), (.int .i64), none⟩,
  ⟨(some 28), (.bin .gtr (.tmp 27) (.const (.int .i64 16))), .bool, none⟩,
  ⟨(some 24), (.mv (.tmp 28)), .bool, none⟩] [24, 1])
 (.cond (.tmp 24)
 (.seq (.ops [⟨(some 2), (.mv (.const (.int .i64 64))), (.int .i64), none⟩] [2])
 .ret)
 .skip)))))))))
 (.seq (.ops [⟨(some 29), (.fa 2 (.tmp 1)), .ptr, none⟩,
  ⟨(some 30), (.ld1 (.tmp 29)), .sl, none⟩,
  ⟨(some 31), (.call 92 [(.tmp 30)] [.bool]), .bool, none⟩,
  ⟨(some 3), (.mv (.tmp 31)), .bool, none⟩] [1, 3])
 (.seq (.ops [⟨(some 32), (.fa 3 (.tmp 1)), .ptr, none⟩,
  ⟨(some 33), (.ld1 (.tmp 32)), .sl, none⟩,
  ⟨(some 34), (.call 92 [(.tmp 33)] [.bool]), .bool, none⟩,
  ⟨(some 4), (.mv (.tmp 34)), .bool, none⟩] [3, 4])
 (.seq (.seq (.ops [⟨(some 35), (.mv (.tmp 3)), .bool, none⟩,
  ⟨(some 36), (.un .not (.tmp 35)), .bool, none⟩,
  ⟨(some 37), (.mv (.tmp 36)), .bool, none⟩,
  ⟨(some 38), (.mv (.tmp 4)), .bool, (some (37, false))⟩,
  ⟨(some 39), (.un .not (.tmp 38)), .bool, (some (37, false))⟩,
  ⟨(some 40), (.pick (.tmp 37) (.const (.bool true)) (.tmp 39)), .bool, none⟩] [40])
 (.cond (.tmp 40)
 (.seq (.ops [⟨(some 2), (.mv (.const (.int .i64 65))), (.int .i64), none⟩] [2])
 .ret)
 .skip))
 (.seq (.ops [⟨(some 2), (.mv (.const (.int .i64 0))), (.int .i64), none⟩] [2])
 .ret))))))
def r72 : List Res := [.t 2]
theorem tr72 : trS Tryd.prog [] 41 (Tryd.f72.body.getD .skip) s72 = some s72 := by kernel_rfl
theorem den72 (args : List Value) (w : World) (R : Ending → World → Prop) (hn : args.length ≤ 41) (h : denS Tryd.prog s72 (argsEnv 0 args) w (endK r72 R)) : Calls Tryd.prog 72 args.toArray w R :=
  calls_of_den (pn := []) (fn := Tryd.f72) (c := Tryd.f72.body.getD .skip) Tryd.func72 (by kernel_rfl) (by rw [Tryd.ntmps72]; exact hn) (by rw [Tryd.ntmps72]; exact tr72) (by kernel_rfl) h
def d72 (x0 : Array Value) (w : World) (R : Ending → World → Prop) : Prop :=
 ∀ w1 : World, w1 = World.alloc w (.cells x0 76) →
 ∃ J2 : Bool → World → Prop,
 (∃ x3 : Int, World.cell? w1 (Addr.add ⟨World.heap w |>.size, 0, none⟩ 0) = some (.int .i64 x3) ∧
 (bif (decide (x3 < 0)) then
 (J2 true w1)
 else
 (∃ x4 : Int, World.cell? w1 (Addr.add ⟨World.heap w |>.size, 0, none⟩ 0) = some (.int .i64 x4) ∧
 J2 (decide (64 ≤ x4)) w1))) ∧
 (∀ (w5 : World) (x6 : Bool), J2 x6 w5 →
 (bif x6 then
 (R (.returned (.int .i64 61)) w5)
 else
 (∃ (x7 : Option Addr) (x7n : Nat) (x7c : Nat), World.cell? w5 (Addr.add ⟨World.heap w |>.size, 0, none⟩ 1) = some (.slice x7 x7n x7c) ∧
 (bif (decide (16 < ((x7n : Nat) : Int))) then
 (R (.returned (.int .i64 62)) w5)
 else
 (∃ (x8 : Option Addr) (x8n : Nat) (x8c : Nat), World.cell? w5 (Addr.add ⟨World.heap w |>.size, 0, none⟩ 2) = some (.slice x8 x8n x8c) ∧
 (bif (decide (16 < ((x8n : Nat) : Int))) then
 (R (.returned (.int .i64 63)) w5)
 else
 (∃ (x9 : Option Addr) (x9n : Nat) (x9c : Nat), World.cell? w5 (Addr.add ⟨World.heap w |>.size, 0, none⟩ 3) = some (.slice x9 x9n x9c) ∧
 (bif (decide (16 < ((x9n : Nat) : Int))) then
 (R (.returned (.int .i64 64)) w5)
 else
 (∃ (x10 : Option Addr) (x10n : Nat) (x10c : Nat), World.cell? w5 (Addr.add ⟨World.heap w |>.size, 0, none⟩ 2) = some (.slice x10 x10n x10c) ∧
 Calls Tryd.prog 92 #[(.slice x10 x10n x10c)] w5 fun e11 w12 => ∃ x13 : Bool, e11 = .returned (.bool x13) ∧
 ∃ (x14 : Option Addr) (x14n : Nat) (x14c : Nat), World.cell? w12 (Addr.add ⟨World.heap w |>.size, 0, none⟩ 3) = some (.slice x14 x14n x14c) ∧
 Calls Tryd.prog 92 #[(.slice x14 x14n x14c)] w12 fun e15 w16 => ∃ x17 : Bool, e15 = .returned (.bool x17) ∧
 (bif (!x13) then
 (R (.returned (.int .i64 65)) w16)
 else
 ((bif (!x17) then
 (R (.returned (.int .i64 65)) w16)
 else
 (R (.returned (.int .i64 0)) w16)))))))))))))
theorem e72 (x0 : Array Value) (w : World) (R : Ending → World → Prop) : denS Tryd.prog s72 (argsEnv 0 [(.agg x0)]) w (endK r72 R) = d72 x0 w R := by kernel_rfl
theorem c72 (x0 : Array Value) {w : World} {R : Ending → World → Prop} (h : d72 x0 w R) : Calls Tryd.prog 72 #[(.agg x0)] w R :=
  den72 [(.agg x0)] w R (by simp) ((e72 x0 w R).symm ▸ h)

/-- prelude/preluderef06.Encode -/
def s37 : S := (.seq (.ops [⟨(some 2), (.mv (.const (.slice none 0 0))), .sl, none⟩,
  ⟨(some 3), (.mv (.const (.int .i64 0))), (.int .i64), none⟩] [0])
 (.seq (.seq (.ops [⟨(some 8), (.mv (.tmp 0)), .sl, none⟩,
  ⟨(some 9), (.len (.tmp 8)), (.int .i64), none⟩,
  ⟨(some 10), (.bin .gtr (.tmp 9) (.const (.int .i64 64))), .bool, none⟩] [10, 0])
 (.cond (.tmp 10)
 (.seq (.ops [⟨(some 2), (.mv (.const (.slice none 0 0))), .sl, none⟩,
  ⟨(some 3), (.mv (.const (.int .i64 60))), (.int .i64), none⟩] [2, 3])
 .ret)
 .skip))
 (.seq (.ops [⟨(some 11), (.mv (.tmp 0)), .sl, none⟩,
  ⟨(some 12), (.len (.tmp 11)), (.int .i64), none⟩,
  ⟨(some 13), (.call 71 [(.tmp 12)] [.sl]), .sl, none⟩,
  ⟨(some 4), (.mv (.tmp 13)), .sl, none⟩] [0, 4])
 (.seq (.seq (.ops [⟨(some 5), (.mv (.const (.int .i64 0))), (.int .i64), none⟩] [5, 0, 4])
 (.block 0
 (.loop [(4, .sl), (5, (.int .i64))] [0]
 (.seq (.seq (.ops [⟨(some 14), (.mv (.tmp 5)), (.int .i64), none⟩,
  ⟨(some 15), (.mv (.tmp 0)), .sl, none⟩,
  ⟨(some 16), (.len (.tmp 15)), (.int .i64), none⟩,
  ⟨(some 17), (.bin .lss (.tmp 14) (.tmp 16)), .bool, none⟩] [17, 0, 5, 4])
 (.cond (.tmp 17)
 .skip
 (.exit 0)))
 (.seq (.block 1
 (.seq (.ops [⟨(some 20), (.mv (.tmp 0)), .sl, none⟩,
  ⟨(some 21), (.mv (.tmp 5)), (.int .i64), none⟩,
  ⟨(some 22), (.ia 4 (.tmp 20) (.tmp 21)), .ptr, none⟩,
  ⟨(some 23), (.ldN 4 (.tmp 22)), .agg, none⟩,
  ⟨(some 24), (.call 72 [(.tmp 23)] [(.int .i64)]), (.int .i64), none⟩,
  ⟨(some 6), (.mv (.tmp 24)), (.int .i64), none⟩] [6, 4, 0, 5])
 (.seq (.seq (.ops [⟨(some 25), (.mv (.tmp 6)), (.int .i64), none⟩,
  ⟨(some 26), (.bin .neq (.tmp 25) (.const (.int .i64 0))), .bool, none⟩] [26, 6, 4, 0, 5])
 (.cond (.tmp 26)
 (.seq (.ops [⟨(some 27), (.mv (.tmp 6)), (.int .i64), none⟩,
  ⟨(some 2), (.mv (.const (.slice none 0 0))), .sl, none⟩,
  ⟨(some 3), (.mv (.tmp 27)), (.int .i64), none⟩] [2, 3])
 .ret)
 .skip))
 (.seq (.ops [⟨(some 28), (.mv (.tmp 4)), .sl, none⟩,
  ⟨(some 29), (.mv (.tmp 0)), .sl, none⟩,
  ⟨(some 30), (.mv (.tmp 5)), (.int .i64), none⟩,
  ⟨(some 31), (.ia 4 (.tmp 29) (.tmp 30)), .ptr, none⟩,
  ⟨(some 32), (.fa 0 (.tmp 31)), .ptr, none⟩,
  ⟨(some 33), (.ld1 (.tmp 32)), (.int .i64), none⟩,
  ⟨(some 34), (.call 71 [(.tmp 33)] [.sl]), .sl, none⟩,
  ⟨(some 35), (.app #[22, 22] 22 (.tmp 28) (.tmp 34)), .sl, none⟩,
  ⟨(some 4), (.mv (.tmp 35)), .sl, none⟩] [4, 0, 5])
 (.seq (.ops [⟨(some 36), (.mv (.tmp 4)), .sl, none⟩,
  ⟨(some 37), (.mv (.tmp 0)), .sl, none⟩,
  ⟨(some 38), (.mv (.tmp 5)), (.int .i64), none⟩,
  ⟨(some 39), (.ia 4 (.tmp 37) (.tmp 38)), .ptr, none⟩,
  ⟨(some 40), (.fa 1 (.tmp 39)), .ptr, none⟩,
  ⟨(some 41), (.ld1 (.tmp 40)), .sl, none⟩,
  ⟨(some 42), (.len (.tmp 41)), (.int .i64), none⟩,
  ⟨(some 43), (.call 71 [(.tmp 42)] [.sl]), .sl, none⟩,
  ⟨(some 44), (.app #[22, 22] 22 (.tmp 36) (.tmp 43)), .sl, none⟩,
  ⟨(some 4), (.mv (.tmp 44)), .sl, none⟩] [0, 5, 4])
 (.seq (.seq (.ops [⟨(some 7), (.mv (.const (.int .i64 0))), (.int .i64), none⟩] [7, 0, 5, 4])
 (.block 2
 (.loop [(4, .sl), (7, (.int .i64))] [0, 5]
 (.seq (.seq (.ops [⟨(some 45), (.mv (.tmp 7)), (.int .i64), none⟩,
  ⟨(some 46), (.mv (.tmp 0)), .sl, none⟩,
  ⟨(some 47), (.mv (.tmp 5)), (.int .i64), none⟩,
  ⟨(some 48), (.ia 4 (.tmp 46) (.tmp 47)), .ptr, none⟩,
  ⟨(some 49), (.fa 1 (.tmp 48)), .ptr, none⟩,
  ⟨(some 50), (.ld1 (.tmp 49)), .sl, none⟩,
  ⟨(some 51), (.len (.tmp 50)), (.int .i64), none⟩,
  ⟨(some 52), (.bin .lss (.tmp 45) (.tmp 51)), .bool, none⟩] [52, 4, 0, 5, 7])
 (.cond (.tmp 52)
 .skip
 (.exit 2)))
 (.seq (.block 3
 (.ops [⟨(some 55), (.mv (.tmp 4)), .sl, none⟩,
  ⟨(some 56), (.mv (.tmp 0)), .sl, none⟩,
  ⟨(some 57), (.mv (.tmp 5)), (.int .i64), none⟩,
  ⟨(some 58), (.ia 4 (.tmp 56) (.tmp 57)), .ptr, none⟩,
  ⟨(some 59), (.fa 1 (.tmp 58)), .ptr, none⟩,
  ⟨(some 60), (.ld1 (.tmp 59)), .sl, none⟩,
  ⟨(some 61), (.mv (.tmp 7)), (.int .i64), none⟩,
  ⟨(some 62), (.ia 1 (.tmp 60) (.tmp 61)), .ptr, none⟩,
  ⟨(some 63), (.ld1 (.tmp 62)), (.int .i64), none⟩,
  ⟨(some 64), (.call 73 [(.tmp 63)] [.sl]), .sl, none⟩,
  ⟨(some 65), (.app #[22, 22] 22 (.tmp 55) (.tmp 64)), .sl, none⟩,
  ⟨(some 4), (.mv (.tmp 65)), .sl, none⟩] [7, 0, 5, 4]))
 (.ops [⟨(some 53), (.mv (.tmp 7)), (.int .i64), none⟩,
  ⟨(some 54), (.bin .add (.tmp 53) (.const (.int .i64 1))), (.int .i64), none⟩,
  ⟨(some 7), (.mv (.tmp 54)), (.int .i64), none⟩] [7, 0, 5, 4]))))))
 (.seq (.ops [⟨(some 66), (.mv (.tmp 4)), .sl, none⟩,
  ⟨(some 67), (.mv (.tmp 0)), .sl, none⟩,
  ⟨(some 68), (.mv (.tmp 5)), (.int .i64), none⟩,
  ⟨(some 69), (.ia 4 (.tmp 67) (.tmp 68)), .ptr, none⟩,
  ⟨(some 70), (.fa 2 (.tmp 69)), .ptr, none⟩,
  ⟨(some 71), (.ld1 (.tmp 70)), .sl, none⟩,
  ⟨(some 72), (.call 74 [(.tmp 71)] [.sl]), .sl, none⟩,
  ⟨(some 73), (.app #[22, 22] 22 (.tmp 66) (.tmp 72)), .sl, none⟩,
  ⟨(some 4), (.mv (.tmp 73)), .sl, none⟩] [4, 0, 5])
 (.ops [⟨(some 74), (.mv (.tmp 4)), .sl, none⟩,
  ⟨(some 75), (.mv (.tmp 0)), .sl, none⟩,
  ⟨(some 76), (.mv (.tmp 5)), (.int .i64), none⟩,
  ⟨(some 77), (.ia 4 (.tmp 75) (.tmp 76)), .ptr, none⟩,
  ⟨(some 78), (.fa 3 (.tmp 77)), .ptr, none⟩,
  ⟨(some 79), (.ld1 (.tmp 78)), .sl, none⟩,
  ⟨(some 80), (.call 74 [(.tmp 79)] [.sl]), .sl, none⟩,
  ⟨(some 81), (.app #[22, 22] 22 (.tmp 74) (.tmp 80)), .sl, none⟩,
  ⟨(some 4), (.mv (.tmp 81)), .sl, none⟩] [5, 0, 4]))))))))
 (.ops [⟨(some 18), (.mv (.tmp 5)), (.int .i64), none⟩,
  ⟨(some 19), (.bin .add (.tmp 18) (.const (.int .i64 1))), (.int .i64), none⟩,
  ⟨(some 5), (.mv (.tmp 19)), (.int .i64), none⟩] [5, 0, 4]))))))
 (.seq (.ops [⟨(some 82), (.mv (.tmp 4)), .sl, none⟩,
  ⟨(some 2), (.mv (.tmp 82)), .sl, none⟩,
  ⟨(some 3), (.mv (.const (.int .i64 0))), (.int .i64), none⟩] [2, 3])
 .ret)))))
def r37 : List Res := [.t 2, .t 3]
theorem tr37 : trS Tryd.prog [] 83 (Tryd.f37.body.getD .skip) s37 = some s37 := by kernel_rfl
theorem den37 (args : List Value) (w : World) (R : Ending → World → Prop) (hn : args.length ≤ 83) (h : denS Tryd.prog s37 (argsEnv 0 args) w (endK r37 R)) : Calls Tryd.prog 37 args.toArray w R :=
  calls_of_den (pn := []) (fn := Tryd.f37) (c := Tryd.f37.body.getD .skip) Tryd.func37 (by kernel_rfl) (by rw [Tryd.ntmps37]; exact hn) (by rw [Tryd.ntmps37]; exact tr37) (by kernel_rfl) h
def d37 (b0 : Option Addr) (b0n : Nat) (b0c : Nat) (w : World) (R : Ending → World → Prop) : Prop :=
 (bif (decide (64 < ((b0n : Nat) : Int))) then
 (R (.returned (.tuple #[(.slice none 0 0), (.int .i64 60)])) w)
 else
 (Calls Tryd.prog 71 #[(.int .i64 ((b0n : Nat) : Int))] w fun e1 w2 => ∃ (x3 : Option Addr) (x3n : Nat) (x3c : Nat), e1 = .returned (.slice x3 x3n x3c) ∧
 ∃ I4 : Nat → Option Addr → Nat → Nat → Int → World → Prop,
 (∃ m, I4 m x3 x3n x3c 0 w2) ∧
 (∀ (m5 : Nat) (w6 : World) (out7 : Option Addr) (out7n : Nat) (out7c : Nat) (i8 : Int), I4 m5 out7 out7n out7c i8 w6 →
 (bif (decide (i8 < ((b0n : Nat) : Int))) then
 (0 ≤ i8 ∧ i8 < ((b0n : Nat) : Int) ∧ optK b0 fun a9 =>
 ∃ cs10 : List Value, List.length cs10 = 4 ∧ Cells w6 (Addr.add a9 (Int.toNat i8 * 4)) cs10 ∧
 Calls Tryd.prog 72 #[(.agg (List.toArray cs10))] w6 fun e11 w12 => ∃ x13 : Int, e11 = .returned (.int .i64 x13) ∧
 (bif (!decide (x13 = 0)) then
 (R (.returned (.tuple #[(.slice none 0 0), (.int .i64 x13)])) w12)
 else
 (0 ≤ i8 ∧ i8 < ((b0n : Nat) : Int) ∧ optK b0 fun a14 =>
 ∃ x15 : Int, World.cell? w12 (Addr.add (Addr.add a14 (Int.toNat i8 * 4)) 0) = some (.int .i64 x15) ∧
 Calls Tryd.prog 71 #[(.int .i64 x15)] w12 fun e16 w17 => ∃ (x18 : Option Addr) (x18n : Nat) (x18c : Nat), e16 = .returned (.slice x18 x18n x18c) ∧
 RunV Tryd.prog (Builtin.append_ #[22, 22] 22 #[(.slice out7 out7n out7c), (.slice x18 x18n x18c)]) w17 fun v19 w20 => ∃ (x21 : Option Addr) (x21n : Nat) (x21c : Nat), v19 = (.slice x21 x21n x21c) ∧
 0 ≤ i8 ∧ i8 < ((b0n : Nat) : Int) ∧ optK b0 fun a22 =>
 ∃ (x23 : Option Addr) (x23n : Nat) (x23c : Nat), World.cell? w20 (Addr.add (Addr.add a22 (Int.toNat i8 * 4)) 1) = some (.slice x23 x23n x23c) ∧
 Calls Tryd.prog 71 #[(.int .i64 ((x23n : Nat) : Int))] w20 fun e24 w25 => ∃ (x26 : Option Addr) (x26n : Nat) (x26c : Nat), e24 = .returned (.slice x26 x26n x26c) ∧
 RunV Tryd.prog (Builtin.append_ #[22, 22] 22 #[(.slice x21 x21n x21c), (.slice x26 x26n x26c)]) w25 fun v27 w28 => ∃ (x29 : Option Addr) (x29n : Nat) (x29c : Nat), v27 = (.slice x29 x29n x29c) ∧
 ∃ I30 : Nat → Option Addr → Nat → Nat → Int → World → Prop,
 (∃ m, I30 m x29 x29n x29c 0 w28) ∧
 (∀ (m31 : Nat) (w32 : World) (out33 : Option Addr) (out33n : Nat) (out33c : Nat) (k34 : Int), I30 m31 out33 out33n out33c k34 w32 →
 0 ≤ i8 ∧ i8 < ((b0n : Nat) : Int) ∧ optK b0 fun a35 =>
 ∃ (x36 : Option Addr) (x36n : Nat) (x36c : Nat), World.cell? w32 (Addr.add (Addr.add a35 (Int.toNat i8 * 4)) 1) = some (.slice x36 x36n x36c) ∧
 (bif (decide (k34 < ((x36n : Nat) : Int))) then
 (0 ≤ i8 ∧ i8 < ((b0n : Nat) : Int) ∧ optK b0 fun a37 =>
 ∃ (x38 : Option Addr) (x38n : Nat) (x38c : Nat), World.cell? w32 (Addr.add (Addr.add a37 (Int.toNat i8 * 4)) 1) = some (.slice x38 x38n x38c) ∧
 0 ≤ k34 ∧ k34 < ((x38n : Nat) : Int) ∧ optK x38 fun a39 =>
 ∃ x40 : Int, World.cell? w32 (Addr.add a39 (Int.toNat k34 * 1)) = some (.int .i64 x40) ∧
 Calls Tryd.prog 73 #[(.int .i64 x40)] w32 fun e41 w42 => ∃ (x43 : Option Addr) (x43n : Nat) (x43c : Nat), e41 = .returned (.slice x43 x43n x43c) ∧
 RunV Tryd.prog (Builtin.append_ #[22, 22] 22 #[(.slice out33 out33n out33c), (.slice x43 x43n x43c)]) w42 fun v44 w45 => ∃ (x46 : Option Addr) (x46n : Nat) (x46c : Nat), v44 = (.slice x46 x46n x46c) ∧
 ∃ m47, m47 < m31 ∧ I30 m47 x46 x46n x46c (IntKind.wrap .i64 (k34 + 1)) w45)
 else
 (0 ≤ i8 ∧ i8 < ((b0n : Nat) : Int) ∧ optK b0 fun a48 =>
 ∃ (x49 : Option Addr) (x49n : Nat) (x49c : Nat), World.cell? w32 (Addr.add (Addr.add a48 (Int.toNat i8 * 4)) 2) = some (.slice x49 x49n x49c) ∧
 Calls Tryd.prog 74 #[(.slice x49 x49n x49c)] w32 fun e50 w51 => ∃ (x52 : Option Addr) (x52n : Nat) (x52c : Nat), e50 = .returned (.slice x52 x52n x52c) ∧
 RunV Tryd.prog (Builtin.append_ #[22, 22] 22 #[(.slice out33 out33n out33c), (.slice x52 x52n x52c)]) w51 fun v53 w54 => ∃ (x55 : Option Addr) (x55n : Nat) (x55c : Nat), v53 = (.slice x55 x55n x55c) ∧
 0 ≤ i8 ∧ i8 < ((b0n : Nat) : Int) ∧ optK b0 fun a56 =>
 ∃ (x57 : Option Addr) (x57n : Nat) (x57c : Nat), World.cell? w54 (Addr.add (Addr.add a56 (Int.toNat i8 * 4)) 3) = some (.slice x57 x57n x57c) ∧
 Calls Tryd.prog 74 #[(.slice x57 x57n x57c)] w54 fun e58 w59 => ∃ (x60 : Option Addr) (x60n : Nat) (x60c : Nat), e58 = .returned (.slice x60 x60n x60c) ∧
 RunV Tryd.prog (Builtin.append_ #[22, 22] 22 #[(.slice x55 x55n x55c), (.slice x60 x60n x60c)]) w59 fun v61 w62 => ∃ (x63 : Option Addr) (x63n : Nat) (x63c : Nat), v61 = (.slice x63 x63n x63c) ∧
 ∃ m64, m64 < m5 ∧ I4 m64 x63 x63n x63c (IntKind.wrap .i64 (i8 + 1)) w62))))))
 else
 (R (.returned (.tuple #[(.slice out7 out7n out7c), (.int .i64 0)])) w6)))))
theorem e37 (b0 : Option Addr) (b0n : Nat) (b0c : Nat) (w : World) (R : Ending → World → Prop) : denS Tryd.prog s37 (argsEnv 0 [(.slice b0 b0n b0c)]) w (endK r37 R) = d37 b0 b0n b0c w R := by kernel_rfl
theorem c37 (b0 : Option Addr) (b0n : Nat) (b0c : Nat) {w : World} {R : Ending → World → Prop} (h : d37 b0 b0n b0c w R) : Calls Tryd.prog 37 #[(.slice b0 b0n b0c)] w R :=
  den37 [(.slice b0 b0n b0c)] w R (by simp) ((e37 b0 b0n b0c w R).symm ▸ h)

end Go.Proofs.YtjchneebdlncfaaDoor.Fn
namespace Go.Proofs.YtjchneebdlncfaaDoor.Lib
open Go Den Fn
open Go.RowKit (Below)
open Classical
set_option maxRecDepth 8000
set_option maxHeartbeats 1000000
theorem zcTx : zc Tryd.prog 76 = [.int .i64 0, .slice none 0 0, .slice none 0 0, .slice none 0 0] := by kernel_rfl
/-- What is asked of bytes and an error. -/
def BytesR (w : World) (u : List Int × Int) (e : Ending) (w' : World) : Prop :=
  ∃ a c, e = .returned (.tuple #[.slice a u.1.length c, .int .i64 u.2]) ∧ w'.ownsRow w.heap.size 5 1 (.slice a u.1.length c) u.1.length (u8 u.1) ∧ Tch [] w w'
theorem keys_count {F : Nat → Prop} {w : World} {a : Option Addr} {n c : Nat} {l : List (Int × Int)} (h : FR F w 2 a n c (rows kC l)) : l.length = n := h.1.count kC_len (by omega)
theorem args_count {F : Nat → Prop} {w : World} {a : Option Addr} {n c : Nat} {l : List Int} (h : FR F w 1 a n c (i64s l)) : l.length = n := by
  have := h.1.len
  simp at this
  omega
theorem formed_c {F : Nat → Prop} (w : World) (v : List Value) (x : Tx) (h : TxV F w v x) : Calls Tryd.prog 66 #[.agg v.toArray] w fun e w' => e = .returned (.int .i64 (formedS x)) ∧ Tch [] w w' := by
  obtain ⟨a1, n1, c1, a2, n2, c2, a3, n3, c3, rfl, h1, h2, h3, hok⟩ := h
  have e1 := args_count h1
  have e2 := keys_count h2
  have e3 := keys_count h3
  refine c66 _ ?_
  unfold d66
  rintro w1 rfl
  have hS := (St.refl w []).new [.int .i64 x.proc, .slice a1 n1 c1, .slice a2 n2 c2, .slice a3 n3 c3] 76 rfl
  generalize w.alloc (.cells [Value.int .i64 x.proc, .slice a1 n1 c1, .slice a2 n2 c2, .slice a3 n3 c3].toArray 76) = w1 at *
  generalize w.heap.size = pb at *
  have hX := hS.blk (List.mem_singleton.2 rfl)
  unfold formedS
  refine ⟨fun t u => t = decide (x.proc < 0 ∨ 64 ≤ x.proc) ∧ u = w1, ?_, ?_⟩
  · refine ⟨x.proc, by rw [add_mk]; exact hX.cell 0, ?_⟩
    by_cases hp : x.proc < 0
    · rw [bif_pos hp]
      exact ⟨by rw [decide_eq_true (.inl hp)], rfl⟩
    · rw [bif_neg hp]
      refine ⟨x.proc, by rw [add_mk]; exact hX.cell 0, ?_, rfl⟩
      rw [decide_eq_decide]
      omega
  rintro w5 t ⟨rfl, rfl⟩
  by_cases hp : x.proc < 0 ∨ 64 ≤ x.proc
  · rw [bif_pos hp, if_pos hp]
    exact ⟨rfl, hS.tch⟩
  rw [bif_neg hp, if_neg hp]
  refine ⟨a1, n1, c1, by rw [add_mk]; exact hX.cell 1, ?_⟩
  by_cases g1 : 16 < n1
  · rw [bif_pos (by omega), if_pos (show 16 < x.args.length by omega)]
    exact ⟨rfl, hS.tch⟩
  rw [bif_neg (by omega), if_neg (show ¬ 16 < x.args.length by omega)]
  refine ⟨a2, n2, c2, by rw [add_mk]; exact hX.cell 2, ?_⟩
  by_cases g2 : 16 < n2
  · rw [bif_pos (by omega), if_pos (show 16 < x.reads.length by omega)]
    exact ⟨rfl, hS.tch⟩
  rw [bif_neg (by omega), if_neg (show ¬ 16 < x.reads.length by omega)]
  refine ⟨a3, n3, c3, by rw [add_mk]; exact hX.cell 3, ?_⟩
  by_cases g3 : 16 < n3
  · rw [bif_pos (by omega), if_pos (show 16 < x.writes.length by omega)]
    exact ⟨rfl, hS.tch⟩
  rw [bif_neg (by omega), if_neg (show ¬ 16 < x.writes.length by omega)]
  refine ⟨a2, n2, c2, by rw [add_mk]; exact hX.cell 2, ?_⟩
  refine (rises_c w5 x.reads a2 n2 c2 (h2.tch hS.tch (by simp)).1 hok.reads (by omega)).mono ?_
  rintro e w12 ⟨rfl, ht⟩
  refine ⟨_, rfl, ?_⟩
  replace hS := hS.quiet ht
  by_cases r1 : RisesS x.reads
  rotate_left
  · rw [bif_nneg r1, if_pos (.inl r1)]
    exact ⟨rfl, hS.tch⟩
  rw [bif_npos r1]
  refine ⟨a3, n3, c3, by rw [add_mk]; exact (hS.blk (List.mem_singleton.2 rfl)).cell 3, ?_⟩
  refine (rises_c w12 x.writes a3 n3 c3 (h3.tch hS.tch (by simp)).1 hok.writes (by omega)).mono ?_
  rintro e w16 ⟨rfl, ht⟩
  refine ⟨_, rfl, ?_⟩
  replace hS := hS.quiet ht
  by_cases r2 : RisesS x.writes
  · rw [bif_npos r2, if_neg (fun h => by rcases h with h | h; exact h r1; exact h r2)]
    exact ⟨rfl, hS.tch⟩
  · rw [bif_nneg r2, if_pos (.inr r2)]
    exact ⟨rfl, hS.tch⟩
theorem body57 : HasBody Tryd.prog 66 := ⟨_, Tryd.func66, by kernel_rfl, by kernel_rfl⟩
theorem first_c {F : Nat → Prop} (w : World) (a : Option Addr) (n c : Nat) (l : List Tx) (h : BatchV F w a n c l) :
    Calls Tryd.prog 65 #[.slice a n c, .func (.func 66) #[] #[]] w fun e w' => e = .returned (.tuple #[.int .i64 (firstS l).1, .int .i64 (firstS l).2]) ∧ Tch [] w w' := by
  have hn := h.count
  refine c65 _ _ _ _ ?_
  unfold d65 firstS
  by_cases h64 : 64 < n
  · rw [bif_pos (by omega), if_pos (by omega)]
    exact ⟨rfl, Tch.refl _ _⟩
  rw [bif_neg (by omega), if_neg (by omega)]
  refine ⟨fun m i u => ∃ k : Nat, i = k ∧ k ≤ n ∧ m = n - k ∧ firstG l 0 = firstG (l.drop k) k ∧ Tch [] w u, ⟨n, 0, rfl, by omega, rfl, by simp, Tch.refl _ _⟩, ?_⟩
  rintro m w4 i ⟨k, rfl, hk, rfl, hf, ht⟩
  by_cases hlt : k < n
  · rw [bif_pos (by omega)]
    refine ⟨by omega, by omega, ?_⟩
    rw [Int.toNat_natCast]
    have hlk : l[k]? = some (l[k]'(by omega)) := List.getElem?_eq_getElem (by omega)
    have hd : l.drop k = l[k]'(by omega) :: l.drop (k + 1) := List.drop_eq_getElem_cons (by omega)
    generalize l[k]'(by omega) = x at hlk hd
    rw [hd] at hf
    refine (h.quiet ht).elem hlk fun v hv => ?_
    refine var_init (n := 4) (by rw [zcTx]; rfl) hv.len hv.ones fun w8 w9 h1 h2 _ => ?_
    refine get_all h1 hv.len ?_
    refine ⟨body57, ?_⟩
    rw [show (#[] ++ #[Value.agg v.toArray] ++ #[] : Array Value) = #[.agg v.toArray] by simp]
    refine (formed_c w9 v x (hv.quiet h2)).mono ?_
    rintro e w15 ⟨rfl, ht15⟩
    refine ⟨_, rfl, ?_⟩
    replace ht := (ht.trans h2 (by simp)).trans ht15 (by simp)
    rw [show firstG (x :: l.drop (k + 1)) k = if formedS x ≠ 0 then ((k : Int), formedS x) else firstG (l.drop (k + 1)) (k + 1) from rfl] at hf
    by_cases h0 : formedS x = 0
    · rw [bif_npos h0]
      rw [if_neg (by simpa using h0)] at hf
      exact ⟨n - (k + 1), by omega, k + 1, by rw [wrap_i64 (by omega) (by omega)]; omega, by omega, rfl, hf, ht⟩
    · rw [bif_nneg h0]
      rw [if_pos h0] at hf
      rw [hf]
      exact ⟨rfl, ht⟩
  · rw [bif_neg (by omega)]
    rw [List.drop_of_length_le (by omega)] at hf
    rw [hf]
    exact ⟨rfl, ht⟩
/-- A writer at work: since w, at b, beside a block of its caller's own. -/
def WX (w u : World) (b : Nat) (bs : List Int) (xb : Nat) (cs : List Value) : Prop := Tch [] w u ∧ w.heap.size ≤ b ∧ b < xb ∧ ∃ a, Wr u b a bs ∧ xb ∉ b :: rowL a ∧ Blk u xb cs
def WO (w u : World) (b : Nat) (bs : List Int) : Prop := Tch [] w u ∧ w.heap.size ≤ b ∧ ∃ a, Wr u b a bs
theorem since_wr {w u u' : World} {b : Nat} {a : Option Addr} {bs bs' : List Int} (h : Tch [] w u) (hb : w.heap.size ≤ b) (hw : Wr u b a bs) (hr : WrR u u' b a bs') : Tch [] w u' :=
  h.trans hr.1 fun i hi => .inr (by
    rcases List.mem_cons.1 hi with rfl | hi
    · exact hb
    · have := hw.row i hi; omega)
theorem WO.step {w u u' : World} {b : Nat} {a : Option Addr} {bs bs' : List Int} (h : Tch [] w u) (hb : w.heap.size ≤ b) (hw : Wr u b a bs) (hr : WrR u u' b a bs') : WO w u' b bs' :=
  ⟨since_wr h hb hw hr, hb, hr.2.elim fun a' h => ⟨a', h.1⟩⟩
theorem WX.out {w u : World} {b xb : Nat} {bs : List Int} {cs : List Value} (h : WX w u b bs xb cs) : WO w u b bs := ⟨h.1, h.2.1, h.2.2.2.elim fun a h => ⟨a, h.1⟩⟩
theorem WX.step {w u u' : World} {b xb : Nat} {a : Option Addr} {bs bs' : List Int} {cs : List Value} (h : Tch [] w u) (hb : w.heap.size ≤ b) (hbx : b < xb) (hw : Wr u b a bs) (ho : xb ∉ b :: rowL a) (hx : Blk u xb cs) (hr : WrR u u' b a bs') : WX w u' b bs' xb cs := by
  refine ⟨since_wr h hb hw hr, hb, hbx, ?_⟩
  obtain ⟨ht, a', hw', hm⟩ := hr
  refine ⟨a', hw', fun hmem => ?_, hx.tch ht ho⟩
  rcases List.mem_cons.1 hmem with hm' | hm'
  · exact ho (by rw [hm']; simp)
  · rw [mem_rowL] at hm'
    obtain ⟨y, hy, rfl⟩ := hm'
    rcases hm y hy with hk | hk
    · exact ho (List.mem_cons_of_mem _ hk)
    · have := hx.lt; omega
theorem WX.quiet {w u u' : World} {b xb : Nat} {bs : List Int} {cs : List Value} (h : WX w u b bs xb cs) (ht : Tch [] u u') : WX w u' b bs xb cs := by
  obtain ⟨h1, h2, h3, a, h4, h5, h6⟩ := h
  exact ⟨h1.trans ht (by simp), h2, h3, a, h4.quiet ht, h5, h6.tch ht (by simp)⟩
theorem wx_uint {w u : World} {b xb : Nat} {bs : List Int} {cs : List Value} (h : WX w u b bs xb cs) {n : Nat} (hn : n < 18446744073709551616) (hl : bs.length + 10 ≤ 140737488355328) {K : World → Prop} (hK : ∀ u', WX w u' b (bs ++ uv n) xb cs → K u') :
    Calls Tryd.prog 31 #[.pointer (some ⟨b, 0, none⟩), .int .u64 n] u fun e u' => e = .returned (.tuple #[]) ∧ K u' := by
  obtain ⟨h1, h2, h3, a, h4, h5, h6⟩ := h
  refine (uint_c u b a bs n h4 hn hl).mono ?_
  rintro e u' ⟨rfl, hr⟩
  exact ⟨rfl, hK u' (WX.step h1 h2 h3 h4 h5 h6 hr)⟩
theorem wx_int {w u : World} {b xb : Nat} {bs : List Int} {cs : List Value} (h : WX w u b bs xb cs) {n : Int} (hn : I64 n) (hl : bs.length + 10 ≤ 140737488355328) {K : World → Prop} (hK : ∀ u', WX w u' b (bs ++ iv n) xb cs → K u') :
    Calls Tryd.prog 67 #[.pointer (some ⟨b, 0, none⟩), .int .i64 n] u fun e u' => e = .returned (.tuple #[]) ∧ K u' := by
  obtain ⟨h1, h2, h3, a, h4, h5, h6⟩ := h
  refine (int_c u b a bs n h4 hn hl).mono ?_
  rintro e u' ⟨rfl, hr⟩
  exact ⟨rfl, hK u' (WX.step h1 h2 h3 h4 h5 h6 hr)⟩
theorem wx_raw {w u : World} {b xb : Nat} {bs ys : List Int} {cs : List Value} (h : WX w u b bs xb cs) {xa : Option Addr} {xn xc : Nat} (hx : RSl u 1 xa xn xc (u8 ys)) (hl : bs.length + xn ≤ 140737488355328) {K : World → Prop} (hK : ∀ u', WX w u' b (bs ++ ys) xb cs → K u') :
    Calls Tryd.prog 32 #[.pointer (some ⟨b, 0, none⟩), .slice xa xn xc] u fun e u' => e = .returned (.tuple #[]) ∧ K u' := by
  obtain ⟨h1, h2, h3, a, h4, h5, h6⟩ := h
  refine (raw_c u b a bs ys xa xn xc h4 hx hl).mono ?_
  rintro e u' ⟨rfl, hr⟩
  exact ⟨rfl, hK u' (WX.step h1 h2 h3 h4 h5 h6 hr)⟩
theorem map_take_succ {α : Type} {f : α → List Int} {l : List α} {j : Nat} {x : α} (h : l[j]? = some x) : ((l.take (j + 1)).map f).flatten = ((l.take j).map f).flatten ++ f x := by
  rw [List.take_add_one, h]
  simp
theorem flat_take {α : Type} {f : α → List Int} {k j : Nat} {l : List α} (h : ∀ x ∈ l, (f x).length ≤ k) : ((l.take j).map f).flatten.length ≤ j * k := by
  have h1 := flat_len (l := l.take j) fun x hx => h x (List.mem_of_mem_take hx)
  have h2 : (l.take j).length * k ≤ j * k := Nat.mul_le_mul_right _ (List.length_take_le _ _)
  omega
theorem zc125 : zc Tryd.prog 127 = [.slice none 0 0, .slice none 0 0] := by kernel_rfl
theorem encode_c {F : Nat → Prop} (w : World) (a : Option Addr) (n c : Nat) (l : List Tx) (h : BatchV F w a n c l) :
    Calls Tryd.prog 29 #[.slice a n c] w fun e w' => BytesR w (encB l) e w' := by
  have hn := h.count
  refine c29 _ _ _ ?_
  unfold d29
  refine (first_c w a n c l h).mono ?_
  rintro e w2 ⟨rfl, ht⟩
  refine ⟨_, _, rfl, _, rfl, _, rfl, ?_⟩
  by_cases h0 : (firstS l).2 = 0
  rotate_left
  · rw [bif_nneg h0]
    unfold encB
    rw [if_pos h0]
    exact ⟨none, 0, rfl, own_nil _ _ _ _, ht⟩
  rw [bif_npos h0]
  have hgood := (firstS_zero l).1 h0
  have hok := h.ok
  rw [encB_good hgood]
  refine (new_c w2).mono ?_
  rintro e w8 ⟨rfl, hW, ht8⟩
  have hb := ht.size
  generalize w2.heap.size = b at *
  refine ⟨_, rfl, ?_⟩
  rw [wrap_u64 (by omega) (by omega)]
  refine (uint_c w8 b none [] n hW (by omega) (by simp)).mono ?_
  rintro e w11 ⟨rfl, hR⟩
  have hO := WO.step (ht.trans ht8 (by simp)) hb hW hR
  rw [List.nil_append] at hO
  clear hR hW ht8 ht
  refine ⟨rfl, ?_⟩
  have hun := (uv_len10 (n := n) (by omega)).2
  refine ⟨fun m x u => ∃ i : Nat, x = i ∧ i ≤ n ∧ m = n - i ∧ WO w u b (uv n ++ encTxs (l.take i)), ⟨n, 0, rfl, by omega, rfl, by simpa [encTxs] using hO⟩, ?_⟩
  clear hO
  rintro m w14 x ⟨i, rfl, hi, rfl, hO⟩
  have hlen : (encTxs (l.take i)).length ≤ i * 520 := flat_take fun x hx => encTx_len (hok x hx) (hgood.2 x hx)
  by_cases hlt : i < n
  rotate_left
  · obtain rfl : i = n := by omega
    rw [bif_neg (by omega)]
    rw [List.take_of_length_le (by omega)] at hO hlen
    obtain ⟨ht, _, a1, hW⟩ := hO
    refine (out_c w14 b a1 _ hW (by rw [List.length_append]; omega)).mono ?_
    rintro e w67 ⟨a2, c2, rfl, hown, ht2⟩
    refine ⟨_, _, _, rfl, ?_⟩
    rw [hn]
    exact ⟨a2, c2, rfl, own_base hown ht.size, ht.trans ht2 (by simp)⟩
  rw [bif_pos (by omega)]
  refine ⟨by omega, by omega, ?_⟩
  rw [Int.toNat_natCast]
  have hli : l[i]? = some (l[i]'(by omega)) := List.getElem?_eq_getElem (by omega)
  generalize l[i]'(by omega) = x at hli
  have hxg := hgood.2 x (List.mem_of_getElem? hli)
  have hxo := hok x (List.mem_of_getElem? hli)
  obtain ⟨gp, ga, gr, gw, gR, gW⟩ := hxg
  refine h.elemW hO.1 hli fun v hv => ?_
  refine var_init (n := 4) (by rw [zcTx]; rfl) hv.len hv.ones fun w18 w19 h1 h2 h3 => ?_
  have hX : WX w w19 b (uv n ++ encTxs (l.take i)) w14.heap.size v := by
    obtain ⟨ht, hb, a1, hW⟩ := hO
    refine ⟨ht.trans h2 (by simp), hb, hW.lt, a1, hW.quiet h2, fun hm => ?_, h1⟩
    rcases List.mem_cons.1 hm with hm | hm
    · have := hW.lt; omega
    · have := (hW.row _ hm).2; omega
  clear h1 h2 h3
  generalize w14.heap.size = xb at *
  have hpre : (uv n ++ encTxs (l.take i)).length ≤ 40000 := by rw [List.length_append]; omega
  have hnew : uv n ++ encTxs (l.take (i + 1)) = (uv n ++ encTxs (l.take i)) ++ encTx x := by
    unfold encTxs
    rw [map_take_succ hli, List.append_assoc]
  generalize uv n ++ encTxs (l.take i) = pre at *
  generalize hpost : uv n ++ encTxs (l.take (i + 1)) = post at *
  obtain ⟨a1, n1, c1, a2, n2, c2, a3, n3, c3, rfl, h1, h2, h3, _⟩ := hv
  have e1 := args_count h1
  have e2 := keys_count h2
  have e3 := keys_count h3
  have cell : ∀ {u : World} {bs : List Int}, WX w u b bs xb [.int .i64 x.proc, .slice a1 n1 c1, .slice a2 n2 c2, .slice a3 n3 c3] → Blk u xb [.int .i64 x.proc, .slice a1 n1 c1, .slice a2 n2 c2, .slice a3 n3 c3] := fun h => by
    obtain ⟨_, _, _, _, _, _, hx⟩ := h
    exact hx
  have lit : ∀ {ys : List Int}, I64 0 := by unfold I64; simp
  clear lit
  refine ⟨x.proc, by rw [add_mk]; exact (cell hX).cell 0, ?_⟩
  rw [wrap_u64 (by omega) (by omega), show x.proc = ((x.proc.toNat : Nat) : Int) by omega]
  refine wx_uint hX (by omega) (by omega) fun w22 hX => ?_
  have lp := (uv_len10 (n := x.proc.toNat) (by omega)).2
  refine ⟨a1, n1, c1, by rw [add_mk]; exact (cell hX).cell 1, ?_⟩
  rw [wrap_u64 (by omega) (by omega)]
  refine wx_uint hX (by omega) (by rw [List.length_append]; omega) fun w25 hX => ?_
  have la := (uv_len10 (n := n1) (by omega)).2
  refine ⟨a1, n1, c1, by rw [add_mk]; exact (cell hX).cell 1, ?_⟩
  have hp2 : (pre ++ uv x.proc.toNat ++ uv n1).length ≤ 40020 := by simp only [List.length_append]; omega
  have hfin : post = (pre ++ uv x.proc.toNat ++ uv n1) ++ ((x.args.map iv).flatten ++ (encKs x.reads ++ encKs x.writes)) := by
    rw [hnew]
    unfold encTx
    rw [e1]
    simp only [List.append_assoc]
  generalize pre ++ uv x.proc.toNat ++ uv n1 = pre2 at *
  clear hnew hpre
  have hiv : ∀ v ∈ x.args, (iv v).length ≤ 10 := fun v hv => (uv_len10 (fold_range (hxo.args v hv))).2
  refine ⟨fun m k u => ∃ j : Nat, k = j ∧ j ≤ n1 ∧ m = n1 - j ∧ WX w u b (pre2 ++ ((x.args.take j).map iv).flatten) xb [.int .i64 x.proc, .slice a1 n1 c1, .slice a2 n2 c2, .slice a3 n3 c3], ⟨n1, 0, rfl, by omega, rfl, by simpa using hX⟩, ?_⟩
  clear hX
  rintro m w29 k ⟨j, rfl, hj, rfl, hX⟩
  have hja := flat_take (j := j) hiv
  by_cases hjn : j < n1
  · rw [bif_pos (by omega)]
    refine ⟨by omega, by omega, ?_⟩
    rw [Int.toNat_natCast]
    have hvj : x.args[j]? = some (x.args[j]'(by omega)) := List.getElem?_eq_getElem (by omega)
    obtain ⟨b1, o1, rfl, hc⟩ := (h1.tch hX.1 (by simp)).1.int (i := j) hjn
    show ∃ _, _
    rw [add_mk, Nat.mul_one]
    refine ⟨_, hc, ?_⟩
    rw [show x.args.getD j 0 = x.args[j]'(by omega) by simp [List.getD_eq_getElem?_getD, hvj]]
    generalize x.args[j]'(by omega) = v at hvj
    refine wx_int hX (hxo.args v (List.mem_of_getElem? hvj)) (by rw [List.length_append]; omega) fun w34 hX => ?_
    refine ⟨n1 - (j + 1), by omega, j + 1, by rw [wrap_i64 (by omega) (by omega)]; omega, by omega, rfl, ?_⟩
    rw [map_take_succ hvj, ← List.append_assoc]
    exact hX
  rw [bif_neg (by omega)]
  obtain rfl : j = n1 := by omega
  rw [List.take_of_length_le (by omega)] at hX hja
  refine ⟨a2, n2, c2, by rw [add_mk]; exact (cell hX).cell 2, a3, n3, c3, by rw [add_mk]; exact (cell hX).cell 3, [.slice a2 n2 c2, .slice a3 n3 c3], by rw [zc125]; rfl, ?_⟩
  have hp3 : (pre2 ++ (x.args.map iv).flatten).length ≤ 40180 := by rw [List.length_append]; omega
  rw [← List.append_assoc] at hfin
  generalize pre2 ++ (x.args.map iv).flatten = pre3 at *
  clear hp2 hja
  refine ⟨fun m k u => ∃ q : Nat, k = q ∧ q ≤ 2 ∧ m = 2 - q ∧ WX w u b (pre3 ++ (if q = 0 then [] else if q = 1 then encKs x.reads else encKs x.reads ++ encKs x.writes)) xb [.int .i64 x.proc, .slice a1 j c1, .slice a2 n2 c2, .slice a3 n3 c3], ⟨2, 0, rfl, by omega, rfl, by simpa using hX⟩, ?_⟩
  clear hX
  rintro m w41 k ⟨q, rfl, hq, rfl, hX⟩
  by_cases hq2 : q < 2
  rotate_left
  · rw [bif_neg (by omega)]
    refine ⟨n - (i + 1), by omega, i + 1, by rw [wrap_i64 (by omega) (by omega)]; omega, by omega, rfl, ?_⟩
    rw [if_neg (by omega), if_neg (by omega)] at hX
    rw [hpost, hfin]
    exact hX.out
  rw [bif_pos (by omega)]
  obtain ⟨a4, n4, c4, ks, hel, hfr, hri, hki, hn16, hstart, hend⟩ : ∃ (a4 : Option Addr) (n4 c4 : Nat) (ks : List (Int × Int)), ([Value.slice a2 n2 c2, .slice a3 n3 c3] : List Value)[q]? = some (.slice a4 n4 c4) ∧ FR F w 2 a4 n4 c4 (rows kC ks) ∧ RisesS ks ∧ (∀ k ∈ ks, kI k) ∧ ks.length ≤ 16 ∧
      (if q = 0 then [] else if q = 1 then encKs x.reads else encKs x.reads ++ encKs x.writes).length ≤ 170 ∧ (if q + 1 = 0 then [] else if q + 1 = 1 then encKs x.reads else encKs x.reads ++ encKs x.writes) = (if q = 0 then [] else if q = 1 then encKs x.reads else encKs x.reads ++ encKs x.writes) ++ encKs ks := by
    rcases (show q = 0 ∨ q = 1 by omega) with rfl | rfl
    · exact ⟨a2, n2, c2, x.reads, rfl, h2, gR, hxo.reads, gr, by simp, by simp⟩
    · exact ⟨a3, n3, c3, x.writes, rfl, h3, gW, hxo.writes, gw, by simpa using encKs_len gr, by simp⟩
  have e4 := keys_count hfr
  refine ⟨by omega, by omega, a4, n4, c4, by rw [Int.toNat_natCast, Nat.mul_one]; simpa using hel, ?_⟩
  rw [wrap_u64 (by omega) (by omega)]
  refine wx_uint hX (by omega) (by rw [List.length_append]; omega) fun w45 hX => ?_
  have lk := (uv_len10 (n := n4) (by omega)).2
  have hnext : pre3 ++ (if q + 1 = 0 then [] else if q + 1 = 1 then encKs x.reads else encKs x.reads ++ encKs x.writes) = (pre3 ++ (if q = 0 then [] else if q = 1 then encKs x.reads else encKs x.reads ++ encKs x.writes) ++ uv n4) ++ (ks.map fun k => keyB k.1 k.2).flatten := by
    rw [hend, show encKs ks = uv n4 ++ (ks.map fun k => keyB k.1 k.2).flatten by unfold encKs; rw [e4]]
    simp only [List.append_assoc]
  have hp4 : (pre3 ++ (if q = 0 then [] else if q = 1 then encKs x.reads else encKs x.reads ++ encKs x.writes) ++ uv n4).length ≤ 40360 := by simp only [List.length_append]; omega
  generalize pre3 ++ (if q = 0 then [] else if q = 1 then encKs x.reads else encKs x.reads ++ encKs x.writes) ++ uv n4 = pre4 at *
  refine ⟨fun m k u => ∃ p : Nat, k = p ∧ p ≤ n4 ∧ m = n4 - p ∧ WX w u b (pre4 ++ ((ks.take p).map fun k => keyB k.1 k.2).flatten) xb [.int .i64 x.proc, .slice a1 j c1, .slice a2 n2 c2, .slice a3 n3 c3], ⟨n4, 0, rfl, by omega, rfl, by simpa using hX⟩, ?_⟩
  clear hX
  rintro m w48 k ⟨p, rfl, hp, rfl, hX⟩
  have hkp := flat_take (l := ks) (f := fun k => keyB k.1 k.2) (k := 10) (j := p) fun x _ => Nat.le_of_eq (keyB_length _ _)
  by_cases hpn : p < n4
  rotate_left
  · rw [bif_neg (by omega)]
    rw [List.take_of_length_le (by omega)] at hX
    refine ⟨2 - (q + 1), by omega, q + 1, by rw [wrap_i64 (by omega) (by omega)]; omega, by omega, rfl, ?_⟩
    rw [hnext]
    exact hX
  rw [bif_pos (by omega)]
  refine ⟨by omega, by omega, ?_⟩
  rw [Int.toNat_natCast]
  have hkq : ks[p]? = some (ks[p]'(by omega)) := List.getElem?_eq_getElem (by omega)
  generalize ks[p]'(by omega) = k at hkq
  refine (hfr.tch hX.1 (by simp)).1.elem kC_len (by omega) hkq ?_
  refine var_init (n := 2) (by rw [zcKey]; rfl) rfl kC_one fun w52 w53 g1 g2 _ => ?_
  replace hX := hX.quiet g2
  refine get_all g1 rfl ?_
  refine (bytes_c k.1 k.2 w53).mono ?_
  rintro e w56 hk
  rw [if_pos (hri.1 k (List.mem_of_getElem? hkq))] at hk
  obtain ⟨ka, kc, rfl, hkb, ht5⟩ := hk
  replace hX := hX.quiet ht5
  refine ⟨_, _, _, _, rfl, _, _, _, rfl, _, rfl, ?_⟩
  refine wx_raw hX (own_rsl hkb ones_ints) (by rw [List.length_append]; omega) fun w62 hX => ?_
  refine ⟨n4 - (p + 1), by omega, p + 1, by rw [wrap_i64 (by omega) (by omega)]; omega, by omega, rfl, ?_⟩
  rw [map_take_succ (f := fun k : Int × Int => keyB k.1 k.2) hkq, ← List.append_assoc]
  exact hX
end Go.Proofs.YtjchneebdlncfaaDoor.Lib
namespace Go.Proofs.YtjchneebdlncfaaDoor.Lib
open Go Den Fn
open Go.RowKit (Below)
set_option maxRecDepth 8000
set_option maxHeartbeats 1000000
theorem elem8 {w : World} {a : Option Addr} {n c : Nat} {bs : List Int} (h : RSl w 1 a n c (u8 bs)) {i : Nat} (hi : i < n) {K : Int → Prop} (hK : K (bs.getD i 0)) :
    optK a fun x => ∃ y : Int, World.cell? w (Addr.add x (i * 1)) = some (.int .u8 y) ∧ K y := by
  obtain ⟨b, o, rfl, g⟩ := h.int hi
  refine ⟨_, ?_, hK⟩
  rw [add_mk, Nat.mul_one]
  exact g
theorem _root_.Go.Proofs.YtjchneebdlncfaaDoor.Den.RSl.tch0 {s : List Nat} {w w' : World} {sz n c : Nat} {a : Option Addr} {cs : List Value} (h : RSl w sz a n c cs) (ht : Tch s w w') (hs : n = 0 ∨ Off s a) : RSl w' sz a n c cs := by
  rcases hs with h0 | hs
  · refine ⟨h.cap, h.len, h.ones, ?_⟩
    rcases h.at' with h' | ⟨b, o, h1, h2⟩
    · exact .inl h'
    · have := h.len
      rw [h0, Nat.zero_mul] at this
      rw [List.length_eq_zero_iff.1 this]
      exact .inr ⟨b, o, h1, fun i v hv => by simp at hv⟩
  · exact h.tch ht hs
theorem _root_.Go.Proofs.YtjchneebdlncfaaDoor.Den.RSl.low {w : World} {sz n c : Nat} {a : Option Addr} {cs : List Value} (h : RSl w sz a n c cs) (h0 : 0 < sz) : n = 0 ∨ ∀ x, a = some x → x.block < w.heap.size := by
  rcases Nat.eq_zero_or_pos n with hn | hn
  · exact .inl hn
  · refine .inr fun x hx => ?_
    rcases h.at' with h' | ⟨b, o, h1, h2⟩
    · have := h.cap; omega
    · rw [h1] at hx
      cases hx
      have hl := h.len
      have : 0 < n * sz := Nat.mul_pos hn h0
      obtain ⟨v, hv⟩ : ∃ v, cs[0]? = some v := ⟨cs[0], by simp⟩
      have := h2 0 v hv
      rw [add_mk] at this
      exact World.block_lt_of_cell? _ _ this
/-- A reader at a block: what it reads, where it stands, its error. -/
structure Rd (w : World) (b : Nat) (a : Option Addr) (n c : Nat) (bs : List Int) (p : Nat) (e : Int) : Prop where
  blk : Blk w b [.slice a n c, .int .i64 p, .int .i64 e]
  row : RSl w 1 a n c (u8 bs)
  off : n = 0 ∨ Off [b] a
  le : p ≤ n
  B : Bytes bs
  N : n ≤ 140737488355328
/-- Behind a call. -/
def RdR (w w' : World) (b : Nat) (a : Option Addr) (n c : Nat) (bs : List Int) (st : Nat × Int) : Prop := Rd w' b a n c bs st.1 st.2 ∧ Tch [b] w w'
theorem Rd.len {w : World} {b n c p : Nat} {a : Option Addr} {bs : List Int} {e : Int} (h : Rd w b a n c bs p e) : bs.length = n := u8_len h.row
theorem Rd.quiet {w w' : World} {b n c p : Nat} {a : Option Addr} {bs : List Int} {e : Int} (h : Rd w b a n c bs p e) (ht : Tch [] w w') : Rd w' b a n c bs p e :=
  ⟨h.blk.tch ht (by simp), h.row.tch ht (fun _ _ h => by cases h), h.off, h.le, h.B, h.N⟩
theorem Rd.tch {w w' : World} {b n c p : Nat} {a : Option Addr} {bs : List Int} {e : Int} {s : List Nat} (h : Rd w b a n c bs p e) (ht : Tch s w w') (hb : b ∉ s) (ha : n = 0 ∨ Off s a) : Rd w' b a n c bs p e :=
  ⟨h.blk.tch ht hb, h.row.tch0 ht ha, h.off, h.le, h.B, h.N⟩
theorem Rd.refl {w : World} {b n c p : Nat} {a : Option Addr} {bs : List Int} {e : Int} (h : Rd w b a n c bs p e) : RdR w w b a n c bs (p, e) := ⟨h, Tch.refl _ _⟩
theorem RdR.trans {w w1 w2 : World} {b n c : Nat} {a : Option Addr} {bs : List Int} {st st' : Nat × Int} (h : RdR w w1 b a n c bs st) (k : RdR w1 w2 b a n c bs st') : RdR w w2 b a n c bs st' :=
  ⟨k.1, h.2.trans k.2 fun i hi => .inl hi⟩
theorem RdR.pre {w w1 w2 : World} {b n c : Nat} {a : Option Addr} {bs : List Int} {st : Nat × Int} (h : Tch [] w w1) (k : RdR w1 w2 b a n c bs st) : RdR w w2 b a n c bs st :=
  ⟨k.1, (h.weaken (by simp)).trans k.2 fun i hi => .inl hi⟩
theorem RdR.post {w w1 w2 : World} {b n c : Nat} {a : Option Addr} {bs : List Int} {st : Nat × Int} (h : RdR w w1 b a n c bs st) (k : Tch [] w1 w2) : RdR w w2 b a n c bs st :=
  ⟨h.1.quiet k, h.2.trans k (by simp)⟩
theorem Rd.slice {w : World} {b n c p : Nat} {a : Option Addr} {bs : List Int} {e : Int} (h : Rd w b a n c bs p e) {K : Option Addr → Nat → Nat → Prop} (hK : K a n c) :
    optK (some ⟨b, 0, none⟩) fun x => ∃ (y : Option Addr) (yn : Nat) (yc : Nat), World.cell? w (Addr.add x 0) = some (.slice y yn yc) ∧ K y yn yc := ⟨a, n, c, by rw [add_mk]; exact h.blk.cell 0, hK⟩
theorem Rd.at {w : World} {b n c p : Nat} {a : Option Addr} {bs : List Int} {e : Int} (h : Rd w b a n c bs p e) {K : Int → Prop} (hK : K p) :
    optK (some ⟨b, 0, none⟩) fun x => ∃ y : Int, World.cell? w (Addr.add x 1) = some (.int .i64 y) ∧ K y := ⟨_, by rw [add_mk]; exact h.blk.cell 1, hK⟩
theorem Rd.err {w : World} {b n c p : Nat} {a : Option Addr} {bs : List Int} {e : Int} (h : Rd w b a n c bs p e) {K : Int → Prop} (hK : K e) :
    optK (some ⟨b, 0, none⟩) fun x => ∃ y : Int, World.cell? w (Addr.add x 2) = some (.int .i64 y) ∧ K y := ⟨_, by rw [add_mk]; exact h.blk.cell 2, hK⟩
theorem Rd.setErr {w : World} {b n c p : Nat} {a : Option Addr} {bs : List Int} {e : Int} (h : Rd w b a n c bs p e) (k : Int) {K : World → Prop} (hK : ∀ w', RdR w w' b a n c bs (p, k) → K w') :
    optK (some ⟨b, 0, none⟩) fun x => one (.int .i64 k) = true ∧ Option.isSome (World.cell? w (Addr.add x 2)) = true ∧ World.frozen? w (Addr.add x 2) = false ∧ ∀ w' : World, w' = World.setCell w (Addr.add x 2) (.int .i64 k) → K w' := by
  show _ ∧ _
  rw [add_mk]
  refine ⟨rfl, by rw [h.blk.cell]; rfl, h.blk.frozen _, ?_⟩
  rintro w' rfl
  have ht := (Tch.refl [b] w).setCell (p := ⟨b, 0 + 2, none⟩) (.inl (by simp)) (.int .i64 k)
  exact hK _ ⟨⟨h.blk.set 2 _, h.row.tch0 ht h.off, h.off, h.le, h.B, h.N⟩, ht⟩
theorem Rd.setAt {w : World} {b n c p : Nat} {a : Option Addr} {bs : List Int} {e : Int} (h : Rd w b a n c bs p e) {k : Int} {q : Nat} (hk : k = q) (hq : q ≤ n) {K : World → Prop} (hK : ∀ w', RdR w w' b a n c bs (q, e) → K w') :
    optK (some ⟨b, 0, none⟩) fun x => one (.int .i64 k) = true ∧ Option.isSome (World.cell? w (Addr.add x 1)) = true ∧ World.frozen? w (Addr.add x 1) = false ∧ ∀ w' : World, w' = World.setCell w (Addr.add x 1) (.int .i64 k) → K w' := by
  subst hk
  show _ ∧ _
  rw [add_mk]
  refine ⟨rfl, by rw [h.blk.cell]; rfl, h.blk.frozen _, ?_⟩
  rintro w' rfl
  have ht := (Tch.refl [b] w).setCell (p := ⟨b, 0 + 1, none⟩) (.inl (by simp)) (.int .i64 (q : Int))
  exact hK _ ⟨⟨h.blk.set 1 _, h.row.tch0 ht h.off, h.off, hq, h.B, h.N⟩, ht⟩

/-! ### Sums of groups of seven bits -/
theorem and127 {c : Int} (h0 : 0 ≤ c) (h1 : c < 256) : bAnd .u8 c 127 = ((c.toNat % 128 : Nat) : Int) := by
  have key : ∀ m : Fin 256, bAnd .u8 (m.val : Int) 127 = ((m.val % 128 : Nat) : Int) := by decide +kernel
  have h := key ⟨c.toNat, by omega⟩
  simp only at h
  rwa [show ((c.toNat : Nat) : Int) = c by omega] at h
theorem part_lt {k x : Nat} (hk : k ≤ 9) (hx : x < 128) (h9 : k = 9 → x ≤ 1) : x * 2 ^ (7 * k) < 18446744073709551616 := by
  by_cases h : k = 9
  · subst h
    have : x * 2 ^ (7 * 9) ≤ 1 * 2 ^ (7 * 9) := Nat.mul_le_mul_right _ (h9 rfl)
    omega
  · have h1 : 2 ^ (7 * k) ≤ 2 ^ 56 := Nat.pow_le_pow_right (by omega) (by omega)
    have h2 : x * 2 ^ (7 * k) ≤ 127 * 2 ^ 56 := Nat.mul_le_mul (by omega) h1
    omega
theorem sum_lt {bs : List Int} {k : Nat} (hk : k ≤ 9) (h9 : k = 9 → (bs.getD k 0).toNat % 128 ≤ 1) : numA bs (k + 1) < 18446744073709551616 := by
  by_cases h : k = 9
  · subst h
    have h1 := numA_lt bs 9
    have h2 : (bs.getD 9 0).toNat % 128 * 2 ^ (7 * 9) ≤ 1 * 2 ^ (7 * 9) := Nat.mul_le_mul_right _ (h9 rfl)
    show numA bs 9 + (bs.getD 9 0).toNat % 128 * 2 ^ (7 * 9) < _
    omega
  · have h1 := numA_lt bs (k + 1)
    have h2 : 2 ^ (7 * (k + 1)) ≤ 2 ^ 63 := Nat.pow_le_pow_right (by omega) (by omega)
    omega
theorem shl7 {k x : Nat} (hk : k ≤ 9) (hx : x < 128) (h9 : k = 9 → x ≤ 1) : shL .u64 (x : Int) ((7 * k : Nat) : Int) = ((x * 2 ^ (7 * k) : Nat) : Int) := by
  have hlt := part_lt hk hx h9
  unfold shL
  rw [Int.toNat_natCast, Nat.min_eq_left (show 7 * k ≤ IntKind.bits .u64 from (by omega : 7 * k ≤ 64))]
  rw [show (x : Int) * 2 ^ (7 * k) = ((x * 2 ^ (7 * k) : Nat) : Int) by norm_cast]
  exact wrap_u64 (Int.natCast_nonneg _) (by generalize x * 2 ^ (7 * k) = y at hlt ⊢; omega)
theorem num_or {bs : List Int} {k : Nat} (hk : k ≤ 9) (h9 : k = 9 → (bs.getD k 0).toNat % 128 ≤ 1) :
    bOr .u64 ((numA bs k : Nat) : Int) (((bs.getD k 0).toNat % 128 * 2 ^ (7 * k) : Nat) : Int) = ((numA bs (k + 1) : Nat) : Int) := by
  have hlt := sum_lt hk h9
  have e : (bs.getD k 0).toNat % 128 * 2 ^ (7 * k) + numA bs k = numA bs (k + 1) := by show _ = numA bs k + _; omega
  rw [bOr_comm, bOr_nat (k := .u64) (by decide) (7 * k) (numA_lt bs k) (by rw [e]; exact hlt) (by rw [e]; exact wrap_u64 (by omega) (by omega)), e]

theorem ruint_c (w : World) (b n c p : Nat) (a : Option Addr) (bs : List Int) (e : Int) (h : Rd w b a n c bs p e) :
    Calls Tryd.prog 84 #[.pointer (some ⟨b, 0, none⟩), .int .i64 p] w fun e w' =>
      e = .returned (.tuple #[.int .u64 (number (bs.drop p)).1, .int .i64 ((p + (number (bs.drop p)).2.1 : Nat) : Int), .int .i64 (number (bs.drop p)).2.2]) ∧ w' = w := by
  refine c84 _ _ ?_
  unfold d84
  have hn := h.len
  have hN := h.N
  have hple := h.le
  have hDl : (bs.drop p).length = n - p := by rw [List.length_drop]; omega
  refine ⟨fun m x y w' => ∃ k : Nat, k ≤ 9 ∧ y = k ∧ x = ((numA (bs.drop p) k : Nat) : Int) ∧ m = 10 - k ∧ (∀ i, i < k → numOn (bs.drop p) i) ∧ w' = w, ⟨10, 0, by omega, rfl, rfl, rfl, fun i hi => by omega, rfl⟩, ?_⟩
  rintro m w4 x y ⟨k, hk9, rfl, rfl, rfl, hon, rfl⟩
  refine h.slice ?_
  rw [wrap_i64 (n := (p : Int) + (k : Int)) (by omega) (by omega)]
  by_cases hs : n ≤ p + k
  · rw [bif_pos (by omega), number_short (k := k) (by omega) hon (by omega)]
    exact ⟨rfl, rfl⟩
  rw [bif_neg (by omega)]
  refine h.slice ⟨by omega, by omega, ?_⟩
  rw [show Int.toNat ((p : Int) + (k : Int)) = p + k by omega]
  refine elem8 h.row (by omega) ?_
  have hgd : bs.getD (p + k) 0 = (bs.drop p).getD k 0 := by rw [getD_drop]
  have hc := byte_of (h.B.drop p) k
  rw [hgd]
  by_cases hf : (k = 9 ∧ 1 < (bs.drop p).getD k 0) ∨ (0 < k ∧ (bs.drop p).getD k 0 = 0)
  · refine ⟨fun _ => False, ?_, fun _ h => h.elim⟩
    rw [number_form (k := k) (by omega) hon (by omega) hf]
    rcases hf with ⟨h1, h2⟩ | ⟨h1, h2⟩
    · rw [bif_pos (by omega), bif_pos h2]
      exact ⟨rfl, rfl⟩
    · by_cases h9 : k = 9
      · rw [bif_pos (by omega), bif_neg (by omega), bif_pos (by omega), bif_pos h2]
        exact ⟨rfl, rfl⟩
      · rw [bif_neg (by omega), bif_pos (by omega), bif_pos h2]
        exact ⟨rfl, rfl⟩
  have h9 : k = 9 → ((bs.drop p).getD k 0).toNat % 128 ≤ 1 := fun h9 => by
    have : ¬ 1 < (bs.drop p).getD k 0 := fun h => hf (.inl ⟨h9, h⟩)
    omega
  refine ⟨fun w' => w' = w4, ?_, ?_⟩
  · by_cases h9' : k = 9
    · rw [bif_pos (by omega), bif_neg (fun h => hf (.inl ⟨h9', h⟩)), bif_pos (by omega), bif_neg (fun h => hf (.inr ⟨by omega, h⟩))]
    · rw [bif_neg (by omega)]
      by_cases h0 : 0 < k
      · rw [bif_pos (by omega), bif_neg (fun h => hf (.inr ⟨h0, h⟩))]
      · rw [bif_neg (by omega)]
  rintro w14 rfl
  rw [wrap_i64 (n := 7 * (k : Int)) (by omega) (by omega), and127 hc.1 hc.2, wrap_u64 (n := ((((bs.drop p).getD k 0).toNat % 128 : Nat) : Int)) (by omega) (by omega), show 7 * (k : Int) = ((7 * k : Nat) : Int) by omega, shl7 hk9 (by omega) h9, num_or hk9 h9]
  refine ⟨by omega, ?_⟩
  by_cases hlt : (bs.drop p).getD k 0 < 128
  · rw [bif_pos hlt, number_ok (k := k) (by omega) hon (by omega) hf hlt, wrap_i64 (by omega) (by omega)]
    exact ⟨by rw [show (p : Int) + k + 1 = ((p + (k + 1) : Nat) : Int) by omega], rfl⟩
  · rw [bif_neg hlt, wrap_i64 (by omega) (by omega)]
    have hk8 : k ≠ 9 := fun h => by have := h9 h; have : ¬ 1 < (bs.drop p).getD k 0 := fun h' => hf (.inl ⟨h, h'⟩); omega
    refine ⟨10 - (k + 1), by omega, k + 1, by omega, by omega, rfl, rfl, fun i hi => ?_, rfl⟩
    by_cases hik : i = k
    · subst hik; exact ⟨by omega, hf, hlt⟩
    · exact hon i (by omega)
theorem zcReader : zc Tryd.prog 148 = [.slice none 0 0, .int .i64 0, .int .i64 0] := by kernel_rfl
theorem read_c (w : World) (bs : List Int) (xa : Option Addr) (n xc : Nat) (hr : RSl w 1 xa n xc (u8 bs)) (hB : Bytes bs) (hN : n ≤ 140737488355328) :
    Calls Tryd.prog 76 #[.slice xa n xc] w fun e w' => ∃ b a c, e = .returned (.pointer (some ⟨b, 0, none⟩)) ∧ Rd w' b a n c bs 0 0 ∧ Tch [] w w' ∧ w.heap.size ≤ b ∧ (∀ x, a = some x → w.heap.size ≤ x.block) := by
  refine c76 _ _ _ ?_
  unfold d76
  refine (clone_c w bs xa n xc hr hN).mono ?_
  rintro e w2 ⟨a, c, rfl, hown, ht⟩
  refine ⟨_, _, _, rfl, [.slice a n c, .int .i64 0, .int .i64 0], by rw [zcReader]; rfl, ?_⟩
  rintro w5 rfl
  have ht5 := (Tch.refl [] w2).alloc (.cells [Value.slice a n c, .int .i64 0, .int .i64 0].toArray 148)
  have hge := own_ge hown
  refine ⟨_, a, c, rfl, ⟨Blk.fresh _ _ rfl, (own_rsl hown ones_ints).tch ht5 (fun _ _ h => by cases h), .inr fun x hx hm => ?_, by omega, hB, hN⟩, ht.trans ht5 (by simp), ht.size, fun x hx => (hge x hx).1⟩
  have := (hge x hx).2
  simp at hm
  omega
theorem upto_c (w : World) (b n c p : Nat) (a : Option Addr) (bs : List Int) (e : Int) (most : Nat) (h : Rd w b a n c bs p e) :
    Calls Tryd.prog 49 #[.pointer (some ⟨b, 0, none⟩), .int .u64 most] w fun en w' => en = .returned (.int .u64 (rUpto bs most p e).1) ∧ RdR w w' b a n c bs (rUpto bs most p e).2 := by
  refine c49 _ _ ?_
  unfold d49
  have hr := number_range (h.B.drop p)
  have hn := h.len
  have hple := h.le
  rw [List.length_drop] at hr
  refine h.err ?_
  by_cases he : e = 0
  rotate_left
  · rw [bif_nneg he]
    unfold rUpto
    rw [if_pos he]
    exact ⟨rfl, h.refl⟩
  subst he
  rw [bif_npos rfl]
  refine h.at ?_
  refine (ruint_c w b n c p a bs 0 h).mono ?_
  rintro en w7 ⟨rfl, rfl⟩
  refine ⟨_, _, _, rfl, _, rfl, _, rfl, _, rfl, ?_⟩
  unfold rUpto
  rw [if_neg (show ¬ (0 : Int) ≠ 0 by omega)]
  by_cases h0 : (number (bs.drop p)).2.2 = 0
  rotate_left
  · refine ⟨fun k w' => k = (number (bs.drop p)).2.2 ∧ w' = w7, by rw [bif_neg h0]; exact ⟨rfl, rfl⟩, ?_⟩
    rintro w15 k ⟨rfl, rfl⟩
    rw [bif_nneg h0, if_pos h0]
    exact h.setErr _ fun w' hw => ⟨rfl, hw⟩
  rw [if_neg (by simpa using h0)]
  by_cases hm : most < (number (bs.drop p)).1
  · refine ⟨fun k w' => k = 12 ∧ w' = w7, by rw [bif_pos h0, bif_pos (by omega)]; exact ⟨rfl, rfl⟩, ?_⟩
    rintro w15 k ⟨rfl, rfl⟩
    rw [bif_nneg (by omega), if_pos hm]
    exact h.setErr _ fun w' hw => ⟨rfl, hw⟩
  · refine ⟨fun k w' => k = 0 ∧ w' = w7, by rw [bif_pos h0, bif_neg (by omega)]; exact ⟨h0, rfl⟩, ?_⟩
    rintro w15 k ⟨rfl, rfl⟩
    rw [bif_npos rfl, if_neg hm]
    exact h.setAt rfl (by omega) fun w' hw => ⟨rfl, hw⟩
theorem uintR_c (w : World) (b n c p : Nat) (a : Option Addr) (bs : List Int) (e : Int) (h : Rd w b a n c bs p e) :
    Calls Tryd.prog 109 #[.pointer (some ⟨b, 0, none⟩)] w fun en w' => en = .returned (.int .u64 (rUpto bs 18446744073709551615 p e).1) ∧ RdR w w' b a n c bs (rUpto bs 18446744073709551615 p e).2 := by
  refine c109 _ ?_
  unfold d109
  refine (upto_c w b n c p a bs e 18446744073709551615 h).mono ?_
  rintro en w' ⟨rfl, hw⟩
  exact ⟨_, rfl, rfl, hw⟩
theorem zag {u : Nat} (h : u < 18446744073709551616) : bXor .i64 (IntKind.wrap .i64 (shR .u64 (u : Int) 1)) (IntKind.wrap .i64 (0 - (IntKind.wrap .i64 (bAnd .u64 (u : Int) 1)))) = unfold' u := by
  have e1 : shR .u64 (u : Int) 1 = ((u / 2 : Nat) : Int) := by
    rw [show (1 : Int) = ((1 : Nat) : Int) from rfl, shR_nat (k := .u64) 1 (by decide)]; omega
  have e2 : bAnd .u64 (u : Int) 1 = ((u % 2 : Nat) : Int) := by
    unfold bAnd
    rw [BitVec.toNat_and, toNat_ofInt (n := IntKind.bits .u64) (by omega) (by show (u : Int) < 18446744073709551616; omega), show (BitVec.ofInt (IntKind.bits .u64) 1).toNat = 2 ^ 1 - 1 from rfl, Nat.and_two_pow_sub_one_eq_mod, Int.toNat_natCast]
    exact wrap_u64 (by omega) (by omega)
  rw [e1, e2, wrap_i64 (n := ((u / 2 : Nat) : Int)) (by omega) (by omega), wrap_i64 (n := ((u % 2 : Nat) : Int)) (by omega) (by omega), wrap_i64 (by omega) (by omega)]
  unfold unfold'
  have h63 : u / 2 < 2 ^ 63 := by omega
  generalize u / 2 = y at *
  split
  · rename_i h2
    rw [h2]
    unfold bXor
    show IntKind.wrap .i64 (((BitVec.ofInt 64 (y : Int) ^^^ BitVec.ofInt 64 (0 - ((0 : Nat) : Int))).toNat : Nat) : Int) = _
    rw [show BitVec.ofInt 64 (0 - ((0 : Nat) : Int)) = 0#64 from rfl, BitVec.xor_zero, toNat_ofInt (n := 64) (by omega) (by show (y : Int) < 18446744073709551616; omega), Int.toNat_natCast]
    exact wrap_i64 (by omega) (by omega)
  · rename_i h2
    rw [show u % 2 = 1 by omega]
    unfold bXor
    show IntKind.wrap .i64 (((BitVec.ofInt 64 (y : Int) ^^^ BitVec.ofInt 64 (0 - ((1 : Nat) : Int))).toNat : Nat) : Int) = _
    rw [show BitVec.ofInt 64 (0 - ((1 : Nat) : Int)) = BitVec.allOnes 64 from rfl, BitVec.xor_allOnes, BitVec.toNat_not, toNat_ofInt (n := 64) (by omega) (by show (y : Int) < 18446744073709551616; omega), Int.toNat_natCast]
    simp only [IntKind.wrap, IntKind.bits, IntKind.signed]
    simp
    omega
theorem intR_c (w : World) (b n c p : Nat) (a : Option Addr) (bs : List Int) (e : Int) (h : Rd w b a n c bs p e) :
    Calls Tryd.prog 96 #[.pointer (some ⟨b, 0, none⟩)] w fun en w' => en = .returned (.int .i64 (rInt bs p e).1) ∧ RdR w w' b a n c bs (rInt bs p e).2 := by
  refine c96 _ ?_
  unfold d96
  refine (uintR_c w b n c p a bs e h).mono ?_
  rintro en w' ⟨rfl, hw⟩
  have hr : (rUpto bs 18446744073709551615 p e).1 < 18446744073709551616 := by
    have := (rUpto_le (bs := bs) (e := e) (most := 18446744073709551615) h.B (by rw [h.len]; exact h.le)).2.2
    omega
  refine ⟨_, rfl, by omega, ?_, hw⟩
  rw [zag hr]
  rfl
theorem rawR_c (w : World) (b n c p : Nat) (a : Option Addr) (bs : List Int) (e : Int) (k : Int) (h : Rd w b a n c bs p e) :
    Calls Tryd.prog 44 #[.pointer (some ⟨b, 0, none⟩), .int .i64 k] w fun en w' => ∃ xa xc, en = .returned (.slice xa (rRaw bs k p e).1.length xc) ∧ RdR w w' b a n c bs (rRaw bs k p e).2 ∧
      w'.ownsRow w.heap.size 5 1 (.slice xa (rRaw bs k p e).1.length xc) (rRaw bs k p e).1.length (u8 (rRaw bs k p e).1) := by
  refine c44 _ _ ?_
  unfold d44
  have hn := h.len
  have hN := h.N
  have hple := h.le
  unfold rRaw
  refine h.err ?_
  by_cases he : e = 0
  rotate_left
  · rw [bif_nneg he, if_pos he]
    exact ⟨none, 0, rfl, h.refl, own_nil _ _ _ _⟩
  subst he
  rw [bif_npos rfl, if_neg (show ¬ (0 : Int) ≠ 0 by omega)]
  by_cases h0 : k < 0
  · rw [bif_pos h0, if_pos h0]
    exact h.setErr _ fun w' hw => ⟨none, 0, rfl, hw, own_nil _ _ _ _⟩
  rw [bif_neg h0, if_neg h0]
  rintro w6 rfl
  have ht := (Tch.refl [] w).drew
  have hs0 : w.drew.heap.size = w.heap.size := rfl
  replace h := h.quiet ht
  generalize w.drew = w6 at *
  refine h.slice (h.at ?_)
  rw [wrap_i64 (n := (n : Int) - (p : Int)) (by omega) (by omega)]
  by_cases hs : (n : Int) - p < k
  · rw [bif_pos hs, if_pos (by omega)]
    exact h.setErr _ fun w' hw => ⟨none, 0, rfl, RdR.pre ht hw, own_nil _ _ _ _⟩
  rw [bif_neg hs, if_neg (by omega)]
  obtain ⟨q, rfl⟩ := Int.eq_ofNat_of_zero_le (show 0 ≤ k by omega)
  refine h.at ?_
  rw [wrap_i64 (n := (p : Int) + (q : Int)) (by omega) (by omega)]
  refine h.setAt (q := p + q) (by omega) (by omega) fun w16 hw => ?_
  rintro w17 rfl
  replace hw := hw.post (Tch.refl [] w16).drew
  generalize w16.drew = w17 at *
  obtain ⟨hR, hT⟩ := hw
  refine hR.slice (hR.at (hR.at ?_))
  simp only
  rw [show ((p + q : Nat) : Int) - (q : Int) = p by omega, wrap_i64 (n := (p : Int)) (by omega) (by omega), Int.toNat_natCast, Int.toNat_natCast]
  have hcap := hR.row.cap
  refine ⟨by omega, by omega, by omega, by omega, ?_⟩
  have hc := hR.row.cut (l := p) (hh := p + q) (by omega) (by omega)
  rw [show p + q - p = q by omega] at hc ⊢
  have hl : ((bs.drop p).take q).length = q := by rw [List.length_take, List.length_drop]; omega
  refine (clone_c w17 ((bs.drop p).take q) _ q _ hc (by omega)).mono ?_
  rintro en w25 ⟨xa, xc, rfl, hown, ht25⟩
  refine ⟨_, _, _, rfl, ?_⟩
  rw [Int.toNat_natCast, hl]
  refine ⟨xa, xc, rfl, RdR.pre ht (RdR.post ⟨hR, hT⟩ ht25), own_base hown ?_⟩
  have := hT.size
  omega
theorem endR_c (w : World) (b n c p : Nat) (a : Option Addr) (bs : List Int) (e : Int) (h : Rd w b a n c bs p e) :
    Calls Tryd.prog 50 #[.pointer (some ⟨b, 0, none⟩)] w fun en w' => en = .returned (.int .i64 (rEnd bs p e)) ∧ Tch [] w w' := by
  refine c50 _ ?_
  unfold d50 rEnd
  have hn := h.len
  rintro w1 rfl
  have ht := (Tch.refl [] w).drew
  replace h := h.quiet ht
  refine h.err ?_
  by_cases he : e = 0
  · rw [bif_pos he]
    refine h.at (h.slice ?_)
    by_cases hp : p < n
    · rw [bif_pos (by omega), if_pos ⟨he, by omega⟩]
      exact ⟨rfl, ht⟩
    · rw [bif_neg (by omega), if_neg (by omega)]
      exact h.err ⟨rfl, ht⟩
  · rw [bif_neg he, if_neg (fun h => he h.1)]
    exact h.err ⟨rfl, ht⟩
end Go.Proofs.YtjchneebdlncfaaDoor.Lib
