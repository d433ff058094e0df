/-
  THE CODE of some functions of the given program, resolved, and proved to ask what the readable texts (d..) say; contracts c.. follow. Printed by a small program of mine.
-/
import Derived.Test.YtjchneebdlncfaaDenWords8
import Derived.Test.YtjchneebdlncfaaProg
set_option maxRecDepth 100000
namespace Go.Proofs.Ytjchneebdlncfaa.Fn
open Go Den
/-- prelude/preludelaw25.awake -/
def s7 : S := (.seq (.ops [⟨(some 0), (.mv (.const (.bool false))), .bool, none⟩] [])
 (.seq (.ops [⟨(some 12), (.call 10 [(.const (.int .i64 2)), (.const (.int .i64 1))] [.ptr, (.int .i64)]), .any, none⟩,
  ⟨(some 11), (.mv (.tmp 12)), .any, none⟩,
  ⟨(some 13), (.ext 0 (.tmp 11)), .ptr, none⟩,
  ⟨(some 14), (.ext 1 (.tmp 11)), (.int .i64), none⟩,
  ⟨(some 1), (.mv (.tmp 13)), .ptr, none⟩,
  ⟨(some 2), (.mv (.tmp 14)), (.int .i64), none⟩] [2, 1])
 (.join [] [1]
 (.seq (.ops [⟨(some 15), (.mv (.tmp 2)), (.int .i64), none⟩,
  ⟨(some 16), (.bin .neq (.tmp 15) (.const (.int .i64 0))), .bool, none⟩,
  ⟨(some 17), (.mv (.tmp 16)), .bool, none⟩,
  ⟨(some 18), (.mv (.tmp 1)), .ptr, (some (17, false))⟩,
  ⟨(some 19), (.nilEq false 1 (.tmp 18)), .bool, (some (17, false))⟩,
  ⟨(some 20), (.pick (.tmp 17) (.const (.bool true)) (.tmp 19)), .bool, none⟩] [20, 1])
 (.cond (.tmp 20)
 (.seq (.ops [⟨(some 0), (.mv (.const (.bool false))), .bool, none⟩] [0])
 .ret)
 .skip))
 (.seq (.ops [⟨(some 21), (.bld 35 (.fields [(0, 1), (1, 1), (2, 1)]) [(0, (.const (.int .i64 1))), (1, (.const (.int .i64 2)))]), .agg, none⟩,
  ⟨(some 22), (.call 14 [(.const (.int .i64 3))] [.agg]), .agg, none⟩,
  ⟨(some 23), (.bldS 39 1 4 [(0, (.tmp 22))]), .sl, none⟩,
  ⟨(some 24), (.bld 35 (.fields [(0, 1), (1, 1), (2, 1)]) [(0, (.const (.int .i64 0))), (1, (.const (.int .i64 2))), (2, (.tmp 23))]), .agg, none⟩,
  ⟨(some 25), (.call 14 [(.const (.int .i64 2))] [.agg]), .agg, none⟩,
  ⟨(some 26), (.bldS 39 1 4 [(0, (.tmp 25))]), .sl, none⟩,
  ⟨(some 27), (.bld 35 (.fields [(0, 1), (1, 1), (2, 1)]) [(0, (.const (.int .i64 1))), (1, (.const (.int .i64 1))), (2, (.tmp 26))]), .agg, none⟩,
  ⟨(some 28), (.call 14 [(.const (.int .i64 1))] [.agg]), .agg, none⟩,
  ⟨(some 29), (.bldS 39 1 4 [(0, (.tmp 28))]), .sl, none⟩,
  ⟨(some 30), (.bld 35 (.fields [(0, 1), (1, 1), (2, 1)]) [(0, (.const (.int .i64 0))), (1, (.const (.int .i64 1))), (2, (.tmp 29))]), .agg, none⟩,
  ⟨(some 31), (.bldS 35 4 3 [(0, (.tmp 21)), (1, (.tmp 24)), (2, (.tmp 27)), (3, (.tmp 30))]), .sl, none⟩,
  ⟨(some 3), (.mv (.tmp 31)), .sl, none⟩] [3, 1])
 (.seq (.seq (.ops [⟨(some 4), (.mv (.const (.int .i64 0))), (.int .i64), none⟩] [4, 3, 1])
 (.block 0
 (.loop [(4, (.int .i64))] [1, 3]
 (.seq (.seq (.ops [⟨(some 32), (.mv (.tmp 4)), (.int .i64), none⟩,
  ⟨(some 33), (.mv (.tmp 3)), .sl, none⟩,
  ⟨(some 34), (.len (.tmp 33)), (.int .i64), none⟩,
  ⟨(some 35), (.bin .lss (.tmp 32) (.tmp 34)), .bool, none⟩] [35, 1, 3, 4])
 (.cond (.tmp 35)
 .skip
 (.exit 0)))
 (.seq (.block 1
 (.seq (.ops [⟨(some 38), (.mv (.tmp 1)), .ptr, none⟩,
  ⟨(some 39), (.mv (.tmp 3)), .sl, none⟩,
  ⟨(some 40), (.mv (.tmp 4)), (.int .i64), none⟩,
  ⟨(some 41), (.ia 3 (.tmp 39) (.tmp 40)), .ptr, none⟩,
  ⟨(some 42), (.ldN 3 (.tmp 41)), .agg, none⟩,
  ⟨(some 43), (.call 15 [(.tmp 38), (.tmp 42)] [(.int .i64)]), (.int .i64), none⟩,
  ⟨(some 44), (.bin .neq (.tmp 43) (.const (.int .i64 0))), .bool, none⟩] [44, 4, 3, 1])
 (.cond (.tmp 44)
 (.seq (.ops [⟨(some 0), (.mv (.const (.bool false))), .bool, none⟩] [0])
 .ret)
 .skip)))
 (.ops [⟨(some 36), (.mv (.tmp 4)), (.int .i64), none⟩,
  ⟨(some 37), (.bin .add (.tmp 36) (.const (.int .i64 1))), (.int .i64), none⟩,
  ⟨(some 4), (.mv (.tmp 37)), (.int .i64), none⟩] [4, 3, 1]))))))
 (.seq (.ops [⟨(some 46), (.mv (.tmp 1)), .ptr, none⟩,
  ⟨(some 47), (.call 33 [(.tmp 46)] [.sl, .bool]), .any, none⟩,
  ⟨(some 45), (.mv (.tmp 47)), .any, none⟩,
  ⟨(some 48), (.ext 0 (.tmp 45)), .sl, none⟩,
  ⟨(some 49), (.ext 1 (.tmp 45)), .bool, none⟩,
  ⟨(some 5), (.mv (.tmp 48)), .sl, none⟩,
  ⟨(some 6), (.mv (.tmp 49)), .bool, none⟩] [1, 6, 5])
 (.seq (.ops [⟨(some 51), (.mv (.tmp 1)), .ptr, none⟩,
  ⟨(some 52), (.call 33 [(.tmp 51)] [.sl, .bool]), .any, none⟩,
  ⟨(some 50), (.mv (.tmp 52)), .any, none⟩,
  ⟨(some 53), (.ext 0 (.tmp 50)), .sl, none⟩,
  ⟨(some 54), (.ext 1 (.tmp 50)), .bool, none⟩,
  ⟨(some 7), (.mv (.tmp 53)), .sl, none⟩,
  ⟨(some 8), (.mv (.tmp 54)), .bool, none⟩] [1, 6, 8, 5, 7])
 (.seq (.ops [⟨(some 56), (.mv (.tmp 1)), .ptr, none⟩,
  ⟨(some 57), (.call 33 [(.tmp 56)] [.sl, .bool]), .any, none⟩,
  ⟨(some 55), (.mv (.tmp 57)), .any, none⟩,
  ⟨(some 58), (.ext 0 (.tmp 55)), .sl, none⟩,
  ⟨(some 59), (.ext 1 (.tmp 55)), .bool, none⟩,
  ⟨(some 9), (.mv (.tmp 58)), .sl, none⟩,
  ⟨(some 10), (.mv (.tmp 59)), .bool, none⟩] [6, 8, 10, 1, 5, 7])
 (.join [] [5, 7]
 (.seq (.ops [⟨(some 60), (.mv (.tmp 6)), .bool, none⟩,
  ⟨(some 61), (.un .not (.tmp 60)), .bool, none⟩,
  ⟨(some 62), (.mv (.tmp 61)), .bool, none⟩,
  ⟨(some 63), (.mv (.tmp 8)), .bool, (some (62, false))⟩,
  ⟨(some 64), (.un .not (.tmp 63)), .bool, (some (62, false))⟩,
  ⟨(some 65), (.pick (.tmp 62) (.const (.bool true)) (.tmp 64)), .bool, none⟩,
  ⟨(some 66), (.mv (.tmp 65)), .bool, none⟩,
  ⟨(some 67), (.mv (.tmp 10)), .bool, (some (66, false))⟩,
  ⟨(some 68), (.pick (.tmp 66) (.const (.bool true)) (.tmp 67)), .bool, none⟩,
  ⟨(some 69), (.mv (.tmp 68)), .bool, none⟩,
  ⟨(some 70), (.mv (.tmp 1)), .ptr, (some (69, false))⟩,
  ⟨(some 71), (.call 12 [(.tmp 70)] [(.int .i64)]), (.int .i64), (some (69, false))⟩,
  ⟨(some 72), (.bin .neq (.tmp 71) (.const (.int .i64 3))), .bool, (some (69, false))⟩,
  ⟨(some 73), (.pick (.tmp 69) (.const (.bool true)) (.tmp 72)), .bool, none⟩,
  ⟨(some 74), (.mv (.tmp 73)), .bool, none⟩,
  ⟨(some 75), (.mv (.tmp 5)), .sl, (some (74, false))⟩,
  ⟨(some 76), (.len (.tmp 75)), (.int .i64), (some (74, false))⟩,
  ⟨(some 77), (.bin .neq (.tmp 76) (.const (.int .i64 2))), .bool, (some (74, false))⟩,
  ⟨(some 78), (.pick (.tmp 74) (.const (.bool true)) (.tmp 77)), .bool, none⟩,
  ⟨(some 79), (.mv (.tmp 78)), .bool, none⟩,
  ⟨(some 80), (.mv (.tmp 7)), .sl, (some (79, false))⟩,
  ⟨(some 81), (.len (.tmp 80)), (.int .i64), (some (79, false))⟩,
  ⟨(some 82), (.bin .neq (.tmp 81) (.const (.int .i64 2))), .bool, (some (79, false))⟩,
  ⟨(some 83), (.pick (.tmp 79) (.const (.bool true)) (.tmp 82)), .bool, none⟩] [83, 5, 7])
 (.cond (.tmp 83)
 (.seq (.ops [⟨(some 0), (.mv (.const (.bool false))), .bool, none⟩] [0])
 .ret)
 .skip))
 (.seq (.draw (.take 0 ⟨(some 84), (.mv (.tmp 5)), .sl, none⟩
  (.take 1 ⟨(some 85), (.ia 1 (.tmp 84) (.const (.int .i64 0))), .ptr, none⟩
  (.take 2 ⟨(some 86), (.ld1 (.tmp 85)), .sl, none⟩
  (.go 3 ⟨(some 87), (.call 14 [(.const (.int .i64 1))] [.agg]), .agg, none⟩ [(2, ⟨(some 86), (.ld1 (.tmp 85)), .sl, none⟩)]
  (.go 4 ⟨(some 88), (.bldS 39 1 4 [(0, (.tmp 87))]), .sl, none⟩ [(2, ⟨(some 86), (.ld1 (.tmp 85)), .sl, none⟩)]
  (.go 5 ⟨(some 89), (.call 34 [(.tmp 86), (.tmp 88)] [.bool]), .bool, none⟩ []
  (.take 6 ⟨(some 90), (.mv (.tmp 89)), .bool, none⟩
  (.take 7 ⟨(some 91), (.mv (.tmp 5)), .sl, (some (90, true))⟩
  (.take 8 ⟨(some 92), (.ia 1 (.tmp 91) (.const (.int .i64 1))), .ptr, (some (90, true))⟩
  (.take 9 ⟨(some 93), (.ld1 (.tmp 92)), .sl, (some (90, true))⟩
  (.go 10 ⟨(some 94), (.call 14 [(.const (.int .i64 2))] [.agg]), .agg, (some (90, true))⟩ [(9, ⟨(some 93), (.ld1 (.tmp 92)), .sl, (some (90, true))⟩)]
  (.go 11 ⟨(some 95), (.bldS 39 1 4 [(0, (.tmp 94))]), .sl, (some (90, true))⟩ [(9, ⟨(some 93), (.ld1 (.tmp 92)), .sl, (some (90, true))⟩)]
  (.go 12 ⟨(some 96), (.call 34 [(.tmp 93), (.tmp 95)] [.bool]), .bool, (some (90, true))⟩ []
  (.take 13 ⟨(some 97), (.pick (.tmp 90) (.tmp 96) (.const (.bool false))), .bool, none⟩
  (.take 14 ⟨(some 98), (.mv (.tmp 97)), .bool, none⟩
  (.take 15 ⟨(some 99), (.mv (.tmp 7)), .sl, (some (98, true))⟩
  (.take 16 ⟨(some 100), (.ia 1 (.tmp 99) (.const (.int .i64 0))), .ptr, (some (98, true))⟩
  (.take 17 ⟨(some 101), (.ld1 (.tmp 100)), .sl, (some (98, true))⟩
  (.take 18 ⟨(some 102), (.len (.tmp 101)), (.int .i64), (some (98, true))⟩
  (.take 19 ⟨(some 103), (.bin .eql (.tmp 102) (.const (.int .i64 0))), .bool, (some (98, true))⟩
  (.take 20 ⟨(some 104), (.pick (.tmp 98) (.tmp 103) (.const (.bool false))), .bool, none⟩
  (.take 21 ⟨(some 105), (.mv (.tmp 104)), .bool, none⟩
  (.take 22 ⟨(some 106), (.mv (.tmp 7)), .sl, (some (105, true))⟩
  (.take 23 ⟨(some 107), (.ia 1 (.tmp 106) (.const (.int .i64 1))), .ptr, (some (105, true))⟩
  (.take 24 ⟨(some 108), (.ld1 (.tmp 107)), .sl, (some (105, true))⟩
  (.go 25 ⟨(some 109), (.call 14 [(.const (.int .i64 3))] [.agg]), .agg, (some (105, true))⟩ [(24, ⟨(some 108), (.ld1 (.tmp 107)), .sl, (some (105, true))⟩)]
  (.go 26 ⟨(some 110), (.bldS 39 1 4 [(0, (.tmp 109))]), .sl, (some (105, true))⟩ [(24, ⟨(some 108), (.ld1 (.tmp 107)), .sl, (some (105, true))⟩)]
  (.go 27 ⟨(some 111), (.call 34 [(.tmp 108), (.tmp 110)] [.bool]), .bool, (some (105, true))⟩ []
  (.take 28 ⟨(some 112), (.pick (.tmp 105) (.tmp 111) (.const (.bool false))), .bool, none⟩
  (.take 29 ⟨(some 0), (.mv (.tmp 112)), .bool, none⟩
  .done)))))))))))))))))))))))))))))) [0])
 .ret))))))))))
def r7 : List Res := [.t 0]
theorem tr7 : trS Try.prog [] 113 (Try.f7.body.getD .skip) s7 = some s7 := by kernel_rfl
theorem den7 (args : List Value) (w : World) (R : Ending → World → Prop) (hn : args.length ≤ 113) (h : denS Try.prog s7 (argsEnv 0 args) w (endK r7 R)) : Calls Try.prog 7 args.toArray w R :=
  calls_of_den (pn := []) (fn := Try.f7) (c := Try.f7.body.getD .skip) Try.func7 (by kernel_rfl) (by rw [Try.ntmps7]; exact hn) (by rw [Try.ntmps7]; exact tr7) (by kernel_rfl) h
def d7 (w : World) (R : Ending → World → Prop) : Prop :=
 Calls Try.prog 10 #[(.int .i64 2), (.int .i64 1)] w fun e0 w1 => ∃ x2 : Option Addr, ∃ x3 : Int, e0 = .returned (.tuple #[(.pointer x2), (.int .i64 x3)]) ∧
 ∃ x4 : Option Addr, (#[(.pointer x2), (.int .i64 x3)] : Array Value)[0]? = some (.pointer x4) ∧
 ∃ x5 : Int, (#[(.pointer x2), (.int .i64 x3)] : Array Value)[1]? = some (.int .i64 x5) ∧
 ∃ J6 : World → Prop,
 ((bif (!decide (x5 = 0)) then
 (R (.returned (.bool false)) w1)
 else
 ((bif (Option.isNone x4) then
 (R (.returned (.bool false)) w1)
 else
 (J6  w1))))) ∧
 (∀ (w7 : World), J6  w7 →
 ∃ cs8, fillL (.fields [(0, 1), (1, 1), (2, 1)]) (zc Try.prog 35) [(0, (.int .i64 1)), (1, (.int .i64 2))] = some cs8 ∧
 Calls Try.prog 14 #[(.int .i64 3)] w7 fun e9 w10 => ∃ x11 : Array Value, e9 = .returned (.agg x11) ∧
 ∃ cs12, fillL (.elems 4) (zrep (zc Try.prog 39) (1 * 4)) [(0, (.agg x11))] = some cs12 ∧
 ∀ w13 : World, w13 = World.alloc w10 (.cells (List.toArray cs12) 39) →
 ∃ cs14, fillL (.fields [(0, 1), (1, 1), (2, 1)]) (zc Try.prog 35) [(0, (.int .i64 0)), (1, (.int .i64 2)), (2, (.slice (some ⟨World.heap w10 |>.size, 0, none⟩) 1 1))] = some cs14 ∧
 Calls Try.prog 14 #[(.int .i64 2)] w13 fun e15 w16 => ∃ x17 : Array Value, e15 = .returned (.agg x17) ∧
 ∃ cs18, fillL (.elems 4) (zrep (zc Try.prog 39) (1 * 4)) [(0, (.agg x17))] = some cs18 ∧
 ∀ w19 : World, w19 = World.alloc w16 (.cells (List.toArray cs18) 39) →
 ∃ cs20, fillL (.fields [(0, 1), (1, 1), (2, 1)]) (zc Try.prog 35) [(0, (.int .i64 1)), (1, (.int .i64 1)), (2, (.slice (some ⟨World.heap w16 |>.size, 0, none⟩) 1 1))] = some cs20 ∧
 Calls Try.prog 14 #[(.int .i64 1)] w19 fun e21 w22 => ∃ x23 : Array Value, e21 = .returned (.agg x23) ∧
 ∃ cs24, fillL (.elems 4) (zrep (zc Try.prog 39) (1 * 4)) [(0, (.agg x23))] = some cs24 ∧
 ∀ w25 : World, w25 = World.alloc w22 (.cells (List.toArray cs24) 39) →
 ∃ cs26, fillL (.fields [(0, 1), (1, 1), (2, 1)]) (zc Try.prog 35) [(0, (.int .i64 0)), (1, (.int .i64 1)), (2, (.slice (some ⟨World.heap w22 |>.size, 0, none⟩) 1 1))] = some cs26 ∧
 ∃ cs27, fillL (.elems 3) (zrep (zc Try.prog 35) (4 * 3)) [(0, (.agg (List.toArray cs8))), (1, (.agg (List.toArray cs14))), (2, (.agg (List.toArray cs20))), (3, (.agg (List.toArray cs26)))] = some cs27 ∧
 ∀ w28 : World, w28 = World.alloc w25 (.cells (List.toArray cs27) 35) →
 ∃ I29 : Nat → Int → World → Prop,
 (∃ m, I29 m 0 w28) ∧
 (∀ (m30 : Nat) (w31 : World) (i32 : Int), I29 m30 i32 w31 →
 (bif (decide (i32 < ((4 : Nat) : Int))) then
 (0 ≤ i32 ∧ i32 < ((4 : Nat) : Int) ∧
 ∃ cs33 : List Value, List.length cs33 = 3 ∧ Cells w31 (Addr.add ⟨World.heap w25 |>.size, 0, none⟩ (Int.toNat i32 * 3)) cs33 ∧
 Calls Try.prog 15 #[(.pointer x4), (.agg (List.toArray cs33))] w31 fun e34 w35 => ∃ x36 : Int, e34 = .returned (.int .i64 x36) ∧
 (bif (!decide (x36 = 0)) then
 (R (.returned (.bool false)) w35)
 else
 (∃ m37, m37 < m30 ∧ I29 m37 (IntKind.wrap .i64 (i32 + 1)) w35)))
 else
 (Calls Try.prog 33 #[(.pointer x4)] w31 fun e38 w39 => ∃ (x40 : Option Addr) (x40n : Nat) (x40c : Nat), ∃ x41 : Bool, e38 = .returned (.tuple #[(.slice x40 x40n x40c), (.bool x41)]) ∧
 ∃ (x42 : Option Addr) (x42n : Nat) (x42c : Nat), (#[(.slice x40 x40n x40c), (.bool x41)] : Array Value)[0]? = some (.slice x42 x42n x42c) ∧
 ∃ x43 : Bool, (#[(.slice x40 x40n x40c), (.bool x41)] : Array Value)[1]? = some (.bool x43) ∧
 Calls Try.prog 33 #[(.pointer x4)] w39 fun e44 w45 => ∃ (x46 : Option Addr) (x46n : Nat) (x46c : Nat), ∃ x47 : Bool, e44 = .returned (.tuple #[(.slice x46 x46n x46c), (.bool x47)]) ∧
 ∃ (x48 : Option Addr) (x48n : Nat) (x48c : Nat), (#[(.slice x46 x46n x46c), (.bool x47)] : Array Value)[0]? = some (.slice x48 x48n x48c) ∧
 ∃ x49 : Bool, (#[(.slice x46 x46n x46c), (.bool x47)] : Array Value)[1]? = some (.bool x49) ∧
 Calls Try.prog 33 #[(.pointer x4)] w45 fun e50 w51 => ∃ (x52 : Option Addr) (x52n : Nat) (x52c : Nat), ∃ x53 : Bool, e50 = .returned (.tuple #[(.slice x52 x52n x52c), (.bool x53)]) ∧
 ∃ (x54 : Option Addr) (x54n : Nat) (x54c : Nat), (#[(.slice x52 x52n x52c), (.bool x53)] : Array Value)[0]? = some (.slice x54 x54n x54c) ∧
 ∃ x55 : Bool, (#[(.slice x52 x52n x52c), (.bool x53)] : Array Value)[1]? = some (.bool x55) ∧
 ∃ J56 : World → Prop,
 ((bif (!x43) then
 (R (.returned (.bool false)) w51)
 else
 ((bif (!x49) then
 (R (.returned (.bool false)) w51)
 else
 ((bif x55 then
 (R (.returned (.bool false)) w51)
 else
 (Calls Try.prog 12 #[(.pointer x4)] w51 fun e57 w58 => ∃ x59 : Int, e57 = .returned (.int .i64 x59) ∧
 (bif (!decide (x59 = 3)) then
 (R (.returned (.bool false)) w58)
 else
 ((bif (!decide (((x42n : Nat) : Int) = 2)) then
 (R (.returned (.bool false)) w58)
 else
 ((bif (!decide (((x48n : Nat) : Int) = 2)) then
 (R (.returned (.bool false)) w58)
 else
 (J56  w58))))))))))))) ∧
 (∀ (w60 : World), J56  w60 →
 ∀ w61 : World, w61 = World.drew w60 →
 0 ≤ (0 : Int) ∧ (0 : Int) < ((x42n : Nat) : Int) ∧ optK x42 fun a62 =>
 ∃ (x63 : Option Addr) (x63n : Nat) (x63c : Nat), World.cell? w61 (Addr.add a62 (Int.toNat 0 * 1)) = some (.slice x63 x63n x63c) ∧
 Calls Try.prog 14 #[(.int .i64 1)] w61 fun e64 w65 => ∃ x66 : Array Value, e64 = .returned (.agg x66) ∧
 (∃ (z67 : Option Addr) (z67n : Nat) (z67c : Nat), World.cell? w65 (Addr.add a62 (Int.toNat 0 * 1)) = some (.slice z67 z67n z67c) ∧
 (((.slice z67 z67n z67c) : Value) = (.slice x63 x63n x63c) ∧ w65 = w65)) ∧
 ∃ cs68, fillL (.elems 4) (zrep (zc Try.prog 39) (1 * 4)) [(0, (.agg x66))] = some cs68 ∧
 ∀ w69 : World, w69 = World.alloc w65 (.cells (List.toArray cs68) 39) →
 (∃ (z70 : Option Addr) (z70n : Nat) (z70c : Nat), World.cell? w69 (Addr.add a62 (Int.toNat 0 * 1)) = some (.slice z70 z70n z70c) ∧
 (((.slice z70 z70n z70c) : Value) = (.slice x63 x63n x63c) ∧ w69 = w69)) ∧
 Calls Try.prog 34 #[(.slice x63 x63n x63c), (.slice (some ⟨World.heap w65 |>.size, 0, none⟩) 1 1)] w69 fun e71 w72 => ∃ x73 : Bool, e71 = .returned (.bool x73) ∧
 (bif x73 then
 (0 ≤ (1 : Int) ∧ (1 : Int) < ((x42n : Nat) : Int) ∧ optK x42 fun a74 =>
 ∃ (x75 : Option Addr) (x75n : Nat) (x75c : Nat), World.cell? w72 (Addr.add a74 (Int.toNat 1 * 1)) = some (.slice x75 x75n x75c) ∧
 Calls Try.prog 14 #[(.int .i64 2)] w72 fun e76 w77 => ∃ x78 : Array Value, e76 = .returned (.agg x78) ∧
 (∃ (z79 : Option Addr) (z79n : Nat) (z79c : Nat), World.cell? w77 (Addr.add a74 (Int.toNat 1 * 1)) = some (.slice z79 z79n z79c) ∧
 (((.slice z79 z79n z79c) : Value) = (.slice x75 x75n x75c) ∧ w77 = w77)) ∧
 ∃ cs80, fillL (.elems 4) (zrep (zc Try.prog 39) (1 * 4)) [(0, (.agg x78))] = some cs80 ∧
 ∀ w81 : World, w81 = World.alloc w77 (.cells (List.toArray cs80) 39) →
 (∃ (z82 : Option Addr) (z82n : Nat) (z82c : Nat), World.cell? w81 (Addr.add a74 (Int.toNat 1 * 1)) = some (.slice z82 z82n z82c) ∧
 (((.slice z82 z82n z82c) : Value) = (.slice x75 x75n x75c) ∧ w81 = w81)) ∧
 Calls Try.prog 34 #[(.slice x75 x75n x75c), (.slice (some ⟨World.heap w77 |>.size, 0, none⟩) 1 1)] w81 fun e83 w84 => ∃ x85 : Bool, e83 = .returned (.bool x85) ∧
 (bif x85 then
 (0 ≤ (0 : Int) ∧ (0 : Int) < ((x48n : Nat) : Int) ∧ optK x48 fun a86 =>
 ∃ (x87 : Option Addr) (x87n : Nat) (x87c : Nat), World.cell? w84 (Addr.add a86 (Int.toNat 0 * 1)) = some (.slice x87 x87n x87c) ∧
 (bif (decide (((x87n : Nat) : Int) = 0)) then
 (0 ≤ (1 : Int) ∧ (1 : Int) < ((x48n : Nat) : Int) ∧ optK x48 fun a88 =>
 ∃ (x89 : Option Addr) (x89n : Nat) (x89c : Nat), World.cell? w84 (Addr.add a88 (Int.toNat 1 * 1)) = some (.slice x89 x89n x89c) ∧
 Calls Try.prog 14 #[(.int .i64 3)] w84 fun e90 w91 => ∃ x92 : Array Value, e90 = .returned (.agg x92) ∧
 (∃ (z93 : Option Addr) (z93n : Nat) (z93c : Nat), World.cell? w91 (Addr.add a88 (Int.toNat 1 * 1)) = some (.slice z93 z93n z93c) ∧
 (((.slice z93 z93n z93c) : Value) = (.slice x89 x89n x89c) ∧ w91 = w91)) ∧
 ∃ cs94, fillL (.elems 4) (zrep (zc Try.prog 39) (1 * 4)) [(0, (.agg x92))] = some cs94 ∧
 ∀ w95 : World, w95 = World.alloc w91 (.cells (List.toArray cs94) 39) →
 (∃ (z96 : Option Addr) (z96n : Nat) (z96c : Nat), World.cell? w95 (Addr.add a88 (Int.toNat 1 * 1)) = some (.slice z96 z96n z96c) ∧
 (((.slice z96 z96n z96c) : Value) = (.slice x89 x89n x89c) ∧ w95 = w95)) ∧
 Calls Try.prog 34 #[(.slice x89 x89n x89c), (.slice (some ⟨World.heap w91 |>.size, 0, none⟩) 1 1)] w95 fun e97 w98 => ∃ x99 : Bool, e97 = .returned (.bool x99) ∧
 R (.returned (.bool x99)) w98)
 else
 ((True) ∧
 (True) ∧
 R (.returned (.bool false)) w84)))
 else
 ((True) ∧
 (True) ∧
 R (.returned (.bool false)) w84)))
 else
 ((True) ∧
 (True) ∧
 (True) ∧
 (True) ∧
 R (.returned (.bool false)) w72)))))))
theorem e7 (w : World) (R : Ending → World → Prop) : denS Try.prog s7 (argsEnv 0 []) w (endK r7 R) = d7  w R := by kernel_rfl
theorem c7 {w : World} {R : Ending → World → Prop} (h : d7  w R) : Calls Try.prog 7 #[] w R :=
  den7 [] w R (by simp) ((e7  w R).symm ▸ h)

/-- (prelude/preludelaw25.History).inputs -/
def s8 : S := (.seq (.ops [⟨(some 1), (.box 24 (.tmp 0)), .ptr, none⟩,
  ⟨(some 2), (.mv (.const (.int .i64 0))), (.int .i64), none⟩] [1])
 (.seq (.ops [⟨(some 3), (.fa 0 (.tmp 1)), .ptr, none⟩,
  ⟨(some 4), (.ld1 (.tmp 3)), (.int .i64), none⟩,
  ⟨(some 5), (.cv .u64 (.tmp 4)), (.int .u64), none⟩,
  ⟨(some 6), (.bin .rem (.tmp 5) (.const (.int .u64 16))), (.int .u64), none⟩,
  ⟨(some 7), (.cv .i64 (.tmp 6)), (.int .i64), none⟩,
  ⟨(some 8), (.bin .add (.const (.int .i64 1)) (.tmp 7)), (.int .i64), none⟩,
  ⟨(some 2), (.mv (.tmp 8)), (.int .i64), none⟩] [2])
 .ret))
def r8 : List Res := [.t 2]
theorem tr8 : trS Try.prog [] 9 (Try.f8.body.getD .skip) s8 = some s8 := by kernel_rfl
theorem den8 (args : List Value) (w : World) (R : Ending → World → Prop) (hn : args.length ≤ 9) (h : denS Try.prog s8 (argsEnv 0 args) w (endK r8 R)) : Calls Try.prog 8 args.toArray w R :=
  calls_of_den (pn := []) (fn := Try.f8) (c := Try.f8.body.getD .skip) Try.func8 (by kernel_rfl) (by rw [Try.ntmps8]; exact hn) (by rw [Try.ntmps8]; exact tr8) (by kernel_rfl) h
def d8 (h0 : Array Value) (w : World) (R : Ending → World → Prop) : Prop :=
 ∀ w1 : World, w1 = World.alloc w (.cells h0 24) →
 ∃ x2 : Int, World.cell? w1 (Addr.add ⟨World.heap w |>.size, 0, none⟩ 0) = some (.int .i64 x2) ∧
 (16 : Int) ≠ 0 ∧ R (.returned (.int .i64 (IntKind.wrap .i64 (1 + (IntKind.wrap .i64 (Int.tmod (IntKind.wrap .u64 x2) 16)))))) w1
theorem e8 (h0 : Array Value) (w : World) (R : Ending → World → Prop) : denS Try.prog s8 (argsEnv 0 [(.agg h0)]) w (endK r8 R) = d8 h0 w R := by kernel_rfl
theorem c8 (h0 : Array Value) {w : World} {R : Ending → World → Prop} (h : d8 h0 w R) : Calls Try.prog 8 #[(.agg h0)] w R :=
  den8 [(.agg h0)] w R (by simp) ((e8 h0 w R).symm ▸ h)

/-- (prelude/preludelaw25.History).epochs -/
def s9 : S := (.seq (.ops [⟨(some 1), (.box 24 (.tmp 0)), .ptr, none⟩,
  ⟨(some 2), (.mv (.const (.int .i64 0))), (.int .i64), none⟩] [1])
 (.seq (.draw (.take 0 ⟨(some 3), (.fa 2 (.tmp 1)), .ptr, none⟩
  (.take 1 ⟨(some 4), (.ld1 (.tmp 3)), .sl, none⟩
  (.take 2 ⟨(some 5), (.len (.tmp 4)), (.int .i64), none⟩
  (.take 3 ⟨(some 6), (.ldN 3 (.tmp 1)), .agg, none⟩
  (.go 4 ⟨(some 7), (.call 8 [(.tmp 6)] [(.int .i64)]), (.int .i64), none⟩ [(1, ⟨(some 4), (.ld1 (.tmp 3)), .sl, none⟩)]
  (.take 5 ⟨(some 8), (.bin .quo (.tmp 5) (.tmp 7)), (.int .i64), none⟩
  (.go 6 ⟨(some 9), (.rv (.minB #[3, 3] 3) [(.const (.int .i64 60)), (.tmp 8)]), (.int .i64), none⟩ []
  (.take 7 ⟨(some 2), (.mv (.tmp 9)), (.int .i64), none⟩
  .done)))))))) [2])
 .ret))
def r9 : List Res := [.t 2]
theorem tr9 : trS Try.prog [] 10 (Try.f9.body.getD .skip) s9 = some s9 := by kernel_rfl
theorem den9 (args : List Value) (w : World) (R : Ending → World → Prop) (hn : args.length ≤ 10) (h : denS Try.prog s9 (argsEnv 0 args) w (endK r9 R)) : Calls Try.prog 9 args.toArray w R :=
  calls_of_den (pn := []) (fn := Try.f9) (c := Try.f9.body.getD .skip) Try.func9 (by kernel_rfl) (by rw [Try.ntmps9]; exact hn) (by rw [Try.ntmps9]; exact tr9) (by kernel_rfl) h
def d9 (h0 : Array Value) (w : World) (R : Ending → World → Prop) : Prop :=
 ∀ w1 : World, w1 = World.alloc w (.cells h0 24) →
 ∀ w2 : World, w2 = World.drew w1 →
 ∃ (x3 : Option Addr) (x3n : Nat) (x3c : Nat), World.cell? w2 (Addr.add ⟨World.heap w |>.size, 0, none⟩ 2) = some (.slice x3 x3n x3c) ∧
 ∃ cs4 : List Value, List.length cs4 = 3 ∧ Cells w2 ⟨World.heap w |>.size, 0, none⟩ cs4 ∧
 Calls Try.prog 8 #[(.agg (List.toArray cs4))] w2 fun e5 w6 => ∃ x7 : Int, e5 = .returned (.int .i64 x7) ∧
 (∃ (z8 : Option Addr) (z8n : Nat) (z8c : Nat), World.cell? w6 (Addr.add ⟨World.heap w |>.size, 0, none⟩ 2) = some (.slice z8 z8n z8c) ∧
 (((.slice z8 z8n z8c) : Value) = (.slice x3 x3n x3c) ∧ w6 = w6)) ∧
 x7 ≠ 0 ∧ RunV Try.prog (Builtin.min_ #[3, 3] 3 #[(.int .i64 60), (.int .i64 (IntKind.wrap .i64 (Int.tdiv ((x3n : Nat) : Int) x7)))]) w6 fun v9 w10 => ∃ x11 : Int, v9 = (.int .i64 x11) ∧
 R (.returned (.int .i64 x11)) w10
theorem e9 (h0 : Array Value) (w : World) (R : Ending → World → Prop) : denS Try.prog s9 (argsEnv 0 [(.agg h0)]) w (endK r9 R) = d9 h0 w R := by kernel_rfl
theorem c9 (h0 : Array Value) {w : World} {R : Ending → World → Prop} (h : d9 h0 w R) : Calls Try.prog 9 #[(.agg h0)] w R :=
  den9 [(.agg h0)] w R (by simp) ((e9 h0 w R).symm ▸ h)

/-- (prelude/preludelaw25.History).first -/
def s11 : S := (.seq (.ops [⟨(some 1), (.box 24 (.tmp 0)), .ptr, none⟩,
  ⟨(some 2), (.mv (.const (.int .i64 0))), (.int .i64), none⟩] [1])
 (.seq (.ops [⟨(some 3), (.fa 1 (.tmp 1)), .ptr, none⟩,
  ⟨(some 4), (.ld1 (.tmp 3)), (.int .i64), none⟩,
  ⟨(some 5), (.cv .u64 (.tmp 4)), (.int .u64), none⟩,
  ⟨(some 6), (.bin .rem (.tmp 5) (.const (.int .u64 1000))), (.int .u64), none⟩,
  ⟨(some 7), (.cv .i64 (.tmp 6)), (.int .i64), none⟩,
  ⟨(some 8), (.bin .add (.const (.int .i64 1)) (.tmp 7)), (.int .i64), none⟩,
  ⟨(some 2), (.mv (.tmp 8)), (.int .i64), none⟩] [2])
 .ret))
def r11 : List Res := [.t 2]
theorem tr11 : trS Try.prog [] 9 (Try.f11.body.getD .skip) s11 = some s11 := by kernel_rfl
theorem den11 (args : List Value) (w : World) (R : Ending → World → Prop) (hn : args.length ≤ 9) (h : denS Try.prog s11 (argsEnv 0 args) w (endK r11 R)) : Calls Try.prog 11 args.toArray w R :=
  calls_of_den (pn := []) (fn := Try.f11) (c := Try.f11.body.getD .skip) Try.func11 (by kernel_rfl) (by rw [Try.ntmps11]; exact hn) (by rw [Try.ntmps11]; exact tr11) (by kernel_rfl) h
def d11 (h0 : Array Value) (w : World) (R : Ending → World → Prop) : Prop :=
 ∀ w1 : World, w1 = World.alloc w (.cells h0 24) →
 ∃ x2 : Int, World.cell? w1 (Addr.add ⟨World.heap w |>.size, 0, none⟩ 1) = some (.int .i64 x2) ∧
 (1000 : Int) ≠ 0 ∧ R (.returned (.int .i64 (IntKind.wrap .i64 (1 + (IntKind.wrap .i64 (Int.tmod (IntKind.wrap .u64 x2) 1000)))))) w1
theorem e11 (h0 : Array Value) (w : World) (R : Ending → World → Prop) : denS Try.prog s11 (argsEnv 0 [(.agg h0)]) w (endK r11 R) = d11 h0 w R := by kernel_rfl
theorem c11 (h0 : Array Value) {w : World} {R : Ending → World → Prop} (h : d11 h0 w R) : Calls Try.prog 11 #[(.agg h0)] w R :=
  den11 [(.agg h0)] w R (by simp) ((e11 h0 w R).symm ▸ h)

/-- (prelude/preludelaw25.History).piece -/
def s13 : S := (.seq (.ops [⟨(some 3), (.box 24 (.tmp 0)), .ptr, none⟩,
  ⟨(some 6), (.alloc 35), .ptr, none⟩] [1, 3, 2, 6])
 (.seq (.draw (.take 0 ⟨(some 7), (.mv (.tmp 1)), (.int .i64), none⟩
  (.take 1 ⟨(some 8), (.ldN 3 (.tmp 3)), .agg, none⟩
  (.take 3 ⟨(some 10), (.mv (.tmp 2)), (.int .i64), none⟩
  (.take 5 ⟨(some 12), (.ldN 3 (.tmp 3)), .agg, none⟩
  (.take 6 ⟨(some 13), (.mv (.tmp 1)), (.int .i64), none⟩
  (.take 7 ⟨(some 14), (.mv (.tmp 2)), (.int .i64), none⟩
  (.go 2 ⟨(some 9), (.call 11 [(.tmp 8)] [(.int .i64)]), (.int .i64), none⟩ [(5, ⟨(some 12), (.ldN 3 (.tmp 3)), .agg, none⟩)]
  (.take 4 ⟨(some 11), (.bin .add (.tmp 9) (.tmp 10)), (.int .i64), none⟩
  (.go 8 ⟨(some 15), (.call 22 [(.tmp 12), (.tmp 13), (.tmp 14)] [.sl]), .sl, none⟩ []
  (.take 9 ⟨(some 16), (.bld 35 (.fields [(0, 1), (1, 1), (2, 1)]) [(0, (.tmp 7)), (1, (.tmp 11)), (2, (.tmp 15))]), .agg, none⟩
  (.go 10 ⟨none, (.stN 3 (.tmp 6) (.tmp 16)), .any, none⟩ []
  .done))))))))))) [6])
 .ret))
def r13 : List Res := [.cN 6 3]
theorem tr13 : trS Try.prog [] 17 (Try.f13.body.getD .skip) s13 = some s13 := by kernel_rfl
theorem den13 (args : List Value) (w : World) (R : Ending → World → Prop) (hn : args.length ≤ 17) (h : denS Try.prog s13 (argsEnv 0 args) w (endK r13 R)) : Calls Try.prog 13 args.toArray w R :=
  calls_of_den (pn := []) (fn := Try.f13) (c := Try.f13.body.getD .skip) Try.func13 (by kernel_rfl) (by rw [Try.ntmps13]; exact hn) (by rw [Try.ntmps13]; exact tr13) (by kernel_rfl) h
def d13 (h0 : Array Value) (input1 : Int) (epoch2 : Int) (w : World) (R : Ending → World → Prop) : Prop :=
 ∀ w3 : World, w3 = World.alloc w (.cells h0 24) →
 ∀ w4 : World, w4 = World.alloc w3 (.cells (zc Try.prog 35).toArray 35) →
 ∀ w5 : World, w5 = World.drew w4 →
 ∃ cs6 : List Value, List.length cs6 = 3 ∧ Cells w5 ⟨World.heap w |>.size, 0, none⟩ cs6 ∧
 ∃ cs7 : List Value, List.length cs7 = 3 ∧ Cells w5 ⟨World.heap w |>.size, 0, none⟩ cs7 ∧
 Calls Try.prog 11 #[(.agg (List.toArray cs6))] w5 fun e8 w9 => ∃ x10 : Int, e8 = .returned (.int .i64 x10) ∧
 (∃ cs11 : List Value, List.length cs11 = 3 ∧ Cells w9 ⟨World.heap w |>.size, 0, none⟩ cs11 ∧
 (((.agg (List.toArray cs11)) : Value) = (.agg (List.toArray cs7)) ∧ w9 = w9)) ∧
 Calls Try.prog 22 #[(.agg (List.toArray cs7)), (.int .i64 input1), (.int .i64 epoch2)] w9 fun e12 w13 => ∃ (x14 : Option Addr) (x14n : Nat) (x14c : Nat), e12 = .returned (.slice x14 x14n x14c) ∧
 ∃ cs15, fillL (.fields [(0, 1), (1, 1), (2, 1)]) (zc Try.prog 35) [(0, (.int .i64 input1)), (1, (.int .i64 (IntKind.wrap .i64 (x10 + epoch2)))), (2, (.slice x14 x14n x14c))] = some cs15 ∧
 Array.size (List.toArray cs15) = 3 ∧ (∀ u ∈ Array.toList (List.toArray cs15), one u = true) ∧ Room w13 ⟨World.heap w3 |>.size, 0, none⟩ 3 ∧
 ∀ w16 : World, w16 = setCells w13 ⟨World.heap w3 |>.size, 0, none⟩ (Array.toList (List.toArray cs15)) 0 →
 ∃ cs17 : List Value, List.length cs17 = 3 ∧ Cells w16 ⟨World.heap w3 |>.size, 0, none⟩ cs17 ∧
 R (.returned (.agg (List.toArray cs17))) w16
theorem e13 (h0 : Array Value) (input1 : Int) (epoch2 : Int) (w : World) (R : Ending → World → Prop) : denS Try.prog s13 (argsEnv 0 [(.agg h0), (.int .i64 input1), (.int .i64 epoch2)]) w (endK r13 R) = d13 h0 input1 epoch2 w R := by kernel_rfl
theorem c13 (h0 : Array Value) (input1 : Int) (epoch2 : Int) {w : World} {R : Ending → World → Prop} (h : d13 h0 input1 epoch2 w R) : Calls Try.prog 13 #[(.agg h0), (.int .i64 input1), (.int .i64 epoch2)] w R :=
  den13 [(.agg h0), (.int .i64 input1), (.int .i64 epoch2)] w R (by simp) ((e13 h0 input1 epoch2 w R).symm ▸ h)

/-- prelude/preludelaw25.put -/
def s14 : S := (.seq (.ops [⟨(some 2), (.alloc 39), .ptr, none⟩] [0, 2])
 (.seq (.ops [⟨(some 3), (.mv (.tmp 0)), (.int .i64), none⟩,
  ⟨(some 4), (.bldS 2 1 1 [(0, (.tmp 3))]), .sl, none⟩,
  ⟨(some 5), (.mv (.tmp 0)), (.int .i64), none⟩,
  ⟨(some 6), (.bld 97 (.fields [(0, 1), (1, 1)]) [(1, (.tmp 5))]), .agg, none⟩,
  ⟨(some 7), (.bldS 97 1 2 [(0, (.tmp 6))]), .sl, none⟩,
  ⟨(some 8), (.bld 39 (.fields [(0, 1), (1, 1), (2, 1), (3, 1)]) [(0, (.const (.int .i64 1))), (1, (.tmp 4)), (3, (.tmp 7))]), .agg, none⟩,
  ⟨none, (.stN 4 (.tmp 2) (.tmp 8)), .any, none⟩] [2])
 .ret))
def r14 : List Res := [.cN 2 4]
theorem tr14 : trS Try.prog [] 9 (Try.f14.body.getD .skip) s14 = some s14 := by kernel_rfl
theorem den14 (args : List Value) (w : World) (R : Ending → World → Prop) (hn : args.length ≤ 9) (h : denS Try.prog s14 (argsEnv 0 args) w (endK r14 R)) : Calls Try.prog 14 args.toArray w R :=
  calls_of_den (pn := []) (fn := Try.f14) (c := Try.f14.body.getD .skip) Try.func14 (by kernel_rfl) (by rw [Try.ntmps14]; exact hn) (by rw [Try.ntmps14]; exact tr14) (by kernel_rfl) h
def d14 (v0 : Int) (w : World) (R : Ending → World → Prop) : Prop :=
 ∀ w1 : World, w1 = World.alloc w (.cells (zc Try.prog 39).toArray 39) →
 ∃ cs2, fillL (.elems 1) (zrep (zc Try.prog 2) (1 * 1)) [(0, (.int .i64 v0))] = some cs2 ∧
 ∀ w3 : World, w3 = World.alloc w1 (.cells (List.toArray cs2) 2) →
 ∃ cs4, fillL (.fields [(0, 1), (1, 1)]) (zc Try.prog 97) [(1, (.int .i64 v0))] = some cs4 ∧
 ∃ cs5, fillL (.elems 2) (zrep (zc Try.prog 97) (1 * 2)) [(0, (.agg (List.toArray cs4)))] = some cs5 ∧
 ∀ w6 : World, w6 = World.alloc w3 (.cells (List.toArray cs5) 97) →
 ∃ cs7, fillL (.fields [(0, 1), (1, 1), (2, 1), (3, 1)]) (zc Try.prog 39) [(0, (.int .i64 1)), (1, (.slice (some ⟨World.heap w1 |>.size, 0, none⟩) 1 1)), (3, (.slice (some ⟨World.heap w3 |>.size, 0, none⟩) 1 1))] = some cs7 ∧
 Array.size (List.toArray cs7) = 4 ∧ (∀ u ∈ Array.toList (List.toArray cs7), one u = true) ∧ Room w6 ⟨World.heap w |>.size, 0, none⟩ 4 ∧
 ∀ w8 : World, w8 = setCells w6 ⟨World.heap w |>.size, 0, none⟩ (Array.toList (List.toArray cs7)) 0 →
 ∃ cs9 : List Value, List.length cs9 = 4 ∧ Cells w8 ⟨World.heap w |>.size, 0, none⟩ cs9 ∧
 R (.returned (.agg (List.toArray cs9))) w8
theorem e14 (v0 : Int) (w : World) (R : Ending → World → Prop) : denS Try.prog s14 (argsEnv 0 [(.int .i64 v0)]) w (endK r14 R) = d14 v0 w R := by kernel_rfl
theorem c14 (v0 : Int) {w : World} {R : Ending → World → Prop} (h : d14 v0 w R) : Calls Try.prog 14 #[(.int .i64 v0)] w R :=
  den14 [(.int .i64 v0)] w R (by simp) ((e14 v0 w R).symm ▸ h)

/-- prelude/preludelaw25.SamePiece -/
def s16 : S := (.seq (.ops [⟨(some 2), (.box 35 (.tmp 0)), .ptr, none⟩,
  ⟨(some 3), (.box 35 (.tmp 1)), .ptr, none⟩,
  ⟨(some 4), (.mv (.const (.bool false))), .bool, none⟩] [2, 3])
 (.seq (.ops [⟨(some 5), (.fa 0 (.tmp 2)), .ptr, none⟩,
  ⟨(some 6), (.ld1 (.tmp 5)), (.int .i64), none⟩,
  ⟨(some 7), (.fa 0 (.tmp 3)), .ptr, none⟩,
  ⟨(some 8), (.ld1 (.tmp 7)), (.int .i64), none⟩,
  ⟨(some 9), (.bin .eql (.tmp 6) (.tmp 8)), .bool, none⟩,
  ⟨(some 10), (.mv (.tmp 9)), .bool, none⟩,
  ⟨(some 11), (.fa 1 (.tmp 2)), .ptr, (some (10, true))⟩,
  ⟨(some 12), (.ld1 (.tmp 11)), (.int .i64), (some (10, true))⟩,
  ⟨(some 13), (.fa 1 (.tmp 3)), .ptr, (some (10, true))⟩,
  ⟨(some 14), (.ld1 (.tmp 13)), (.int .i64), (some (10, true))⟩,
  ⟨(some 15), (.bin .eql (.tmp 12) (.tmp 14)), .bool, (some (10, true))⟩,
  ⟨(some 16), (.pick (.tmp 10) (.tmp 15) (.const (.bool false))), .bool, none⟩,
  ⟨(some 17), (.mv (.tmp 16)), .bool, none⟩,
  ⟨(some 18), (.fa 2 (.tmp 2)), .ptr, (some (17, true))⟩,
  ⟨(some 19), (.ld1 (.tmp 18)), .sl, (some (17, true))⟩,
  ⟨(some 20), (.fa 2 (.tmp 3)), .ptr, (some (17, true))⟩,
  ⟨(some 21), (.ld1 (.tmp 20)), .sl, (some (17, true))⟩,
  ⟨(some 22), (.call 34 [(.tmp 19), (.tmp 21)] [.bool]), .bool, (some (17, true))⟩,
  ⟨(some 23), (.pick (.tmp 17) (.tmp 22) (.const (.bool false))), .bool, none⟩,
  ⟨(some 4), (.mv (.tmp 23)), .bool, none⟩] [4])
 .ret))
def r16 : List Res := [.t 4]
theorem tr16 : trS Try.prog [] 24 (Try.f16.body.getD .skip) s16 = some s16 := by kernel_rfl
theorem den16 (args : List Value) (w : World) (R : Ending → World → Prop) (hn : args.length ≤ 24) (h : denS Try.prog s16 (argsEnv 0 args) w (endK r16 R)) : Calls Try.prog 16 args.toArray w R :=
  calls_of_den (pn := []) (fn := Try.f16) (c := Try.f16.body.getD .skip) Try.func16 (by kernel_rfl) (by rw [Try.ntmps16]; exact hn) (by rw [Try.ntmps16]; exact tr16) (by kernel_rfl) h
def d16 (a0 : Array Value) (b1 : Array Value) (w : World) (R : Ending → World → Prop) : Prop :=
 ∀ w2 : World, w2 = World.alloc w (.cells a0 35) →
 ∀ w3 : World, w3 = World.alloc w2 (.cells b1 35) →
 ∃ x4 : Int, World.cell? w3 (Addr.add ⟨World.heap w |>.size, 0, none⟩ 0) = some (.int .i64 x4) ∧
 ∃ x5 : Int, World.cell? w3 (Addr.add ⟨World.heap w2 |>.size, 0, none⟩ 0) = some (.int .i64 x5) ∧
 (bif (decide (x4 = x5)) then
 (∃ x6 : Int, World.cell? w3 (Addr.add ⟨World.heap w |>.size, 0, none⟩ 1) = some (.int .i64 x6) ∧
 ∃ x7 : Int, World.cell? w3 (Addr.add ⟨World.heap w2 |>.size, 0, none⟩ 1) = some (.int .i64 x7) ∧
 (bif (decide (x6 = x7)) then
 (∃ (x8 : Option Addr) (x8n : Nat) (x8c : Nat), World.cell? w3 (Addr.add ⟨World.heap w |>.size, 0, none⟩ 2) = some (.slice x8 x8n x8c) ∧
 ∃ (x9 : Option Addr) (x9n : Nat) (x9c : Nat), World.cell? w3 (Addr.add ⟨World.heap w2 |>.size, 0, none⟩ 2) = some (.slice x9 x9n x9c) ∧
 Calls Try.prog 34 #[(.slice x8 x8n x8c), (.slice x9 x9n x9c)] w3 fun e10 w11 => ∃ x12 : Bool, e10 = .returned (.bool x12) ∧
 R (.returned (.bool x12)) w11)
 else
 (R (.returned (.bool false)) w3)))
 else
 (R (.returned (.bool false)) w3))
theorem e16 (a0 : Array Value) (b1 : Array Value) (w : World) (R : Ending → World → Prop) : denS Try.prog s16 (argsEnv 0 [(.agg a0), (.agg b1)]) w (endK r16 R) = d16 a0 b1 w R := by kernel_rfl
theorem c16 (a0 : Array Value) (b1 : Array Value) {w : World} {R : Ending → World → Prop} (h : d16 a0 b1 w R) : Calls Try.prog 16 #[(.agg a0), (.agg b1)] w R :=
  den16 [(.agg a0), (.agg b1)] w R (by simp) ((e16 a0 b1 w R).symm ▸ h)

/-- (prelude/preludelaw25.History).given -/
def s17 : S := (.seq (.ops [⟨(some 4), (.box 24 (.tmp 0)), .ptr, none⟩,
  ⟨(some 8), (.mv (.const (.int .i64 0))), (.int .i64), none⟩,
  ⟨(some 9), (.mv (.const (.bool false))), .bool, none⟩] [1, 2, 4, 3])
 (.block 0
 (.loop [(2, (.int .i64))] [1, 3, 4]
 (.block 1
 (.seq (.ops [⟨(some 14), (.mv (.tmp 1)), .ptr, none⟩,
  ⟨(some 15), (.call 33 [(.tmp 14)] [.sl, .bool]), .any, none⟩,
  ⟨(some 13), (.mv (.tmp 15)), .any, none⟩,
  ⟨(some 16), (.ext 0 (.tmp 13)), .sl, none⟩,
  ⟨(some 17), (.ext 1 (.tmp 13)), .bool, none⟩,
  ⟨(some 10), (.mv (.tmp 16)), .sl, none⟩,
  ⟨(some 11), (.mv (.tmp 17)), .bool, none⟩] [11, 2, 10, 4, 3, 1])
 (.seq (.seq (.ops [⟨(some 18), (.mv (.tmp 11)), .bool, none⟩,
  ⟨(some 19), (.un .not (.tmp 18)), .bool, none⟩] [19, 2, 10, 4, 3, 1])
 (.cond (.tmp 19)
 (.seq (.ops [⟨(some 20), (.mv (.tmp 2)), (.int .i64), none⟩,
  ⟨(some 21), (.mv (.tmp 10)), .sl, none⟩,
  ⟨(some 22), (.len (.tmp 21)), (.int .i64), none⟩,
  ⟨(some 23), (.bin .eql (.tmp 22) (.const (.int .i64 0))), .bool, none⟩,
  ⟨(some 8), (.mv (.tmp 20)), (.int .i64), none⟩,
  ⟨(some 9), (.mv (.tmp 23)), .bool, none⟩] [8, 9])
 .ret)
 .skip))
 (.join [] [1, 2, 3, 4, 10]
 (.seq (.ops [⟨(some 24), (.mv (.tmp 2)), (.int .i64), none⟩,
  ⟨(some 25), (.ldN 3 (.tmp 4)), .agg, none⟩,
  ⟨(some 26), (.call 9 [(.tmp 25)] [(.int .i64)]), (.int .i64), none⟩,
  ⟨(some 27), (.bin .geq (.tmp 24) (.tmp 26)), .bool, none⟩,
  ⟨(some 28), (.mv (.tmp 27)), .bool, none⟩,
  ⟨(some 29), (.mv (.tmp 10)), .sl, (some (28, false))⟩,
  ⟨(some 30), (.len (.tmp 29)), (.int .i64), (some (28, false))⟩,
  ⟨(some 31), (.ldN 3 (.tmp 4)), .agg, (some (28, false))⟩,
  ⟨(some 32), (.call 8 [(.tmp 31)] [(.int .i64)]), (.int .i64), (some (28, false))⟩,
  ⟨(some 33), (.bin .neq (.tmp 30) (.tmp 32)), .bool, (some (28, false))⟩,
  ⟨(some 34), (.pick (.tmp 28) (.const (.bool true)) (.tmp 33)), .bool, none⟩] [34, 2, 10, 4, 3, 1])
 (.cond (.tmp 34)
 (.seq (.ops [⟨(some 35), (.mv (.tmp 2)), (.int .i64), none⟩,
  ⟨(some 8), (.mv (.tmp 35)), (.int .i64), none⟩,
  ⟨(some 9), (.mv (.const (.bool false))), .bool, none⟩] [8, 9])
 .ret)
 .skip))
 (.seq (.seq (.ops [⟨(some 12), (.mv (.const (.int .i64 0))), (.int .i64), none⟩] [12, 10, 4, 2, 3, 1])
 (.block 2
 (.loop [(12, (.int .i64))] [1, 2, 3, 4, 10]
 (.seq (.seq (.ops [⟨(some 36), (.mv (.tmp 12)), (.int .i64), none⟩,
  ⟨(some 37), (.mv (.tmp 10)), .sl, none⟩,
  ⟨(some 38), (.len (.tmp 37)), (.int .i64), none⟩,
  ⟨(some 39), (.bin .lss (.tmp 36) (.tmp 38)), .bool, none⟩] [39, 10, 12, 4, 2, 3, 1])
 (.cond (.tmp 39)
 .skip
 (.exit 2)))
 (.seq (.block 3
 (.seq (.draw (.take 0 ⟨(some 42), (.mv (.tmp 10)), .sl, none⟩
  (.take 1 ⟨(some 43), (.mv (.tmp 12)), (.int .i64), none⟩
  (.take 2 ⟨(some 44), (.ia 1 (.tmp 42) (.tmp 43)), .ptr, none⟩
  (.take 3 ⟨(some 45), (.ld1 (.tmp 44)), .sl, none⟩
  (.take 4 ⟨(some 46), (.ldN 3 (.tmp 4)), .agg, none⟩
  (.take 5 ⟨(some 47), (.ldN 3 (.tmp 4)), .agg, none⟩
  (.take 7 ⟨(some 49), (.mv (.tmp 2)), (.int .i64), none⟩
  (.take 10 ⟨(some 52), (.mv (.tmp 12)), (.int .i64), none⟩
  (.take 12 ⟨(some 54), (.ldN 3 (.tmp 4)), .agg, none⟩
  (.take 15 ⟨(some 57), (.mv (.tmp 2)), (.int .i64), none⟩
  (.go 6 ⟨(some 48), (.call 11 [(.tmp 47)] [(.int .i64)]), (.int .i64), none⟩ [(12, ⟨(some 54), (.ldN 3 (.tmp 4)), .agg, none⟩), (4, ⟨(some 46), (.ldN 3 (.tmp 4)), .agg, none⟩), (3, ⟨(some 45), (.ld1 (.tmp 44)), .sl, none⟩)]
  (.take 8 ⟨(some 50), (.bin .add (.tmp 48) (.tmp 49)), (.int .i64), none⟩
  (.take 9 ⟨(some 51), (.bin .sub (.tmp 50) (.const (.int .i64 1))), (.int .i64), none⟩
  (.take 11 ⟨(some 53), (.bin .add (.tmp 51) (.tmp 52)), (.int .i64), none⟩
  (.go 13 ⟨(some 55), (.call 8 [(.tmp 54)] [(.int .i64)]), (.int .i64), none⟩ [(4, ⟨(some 46), (.ldN 3 (.tmp 4)), .agg, none⟩), (3, ⟨(some 45), (.ld1 (.tmp 44)), .sl, none⟩)]
  (.take 14 ⟨(some 56), (.bin .rem (.tmp 53) (.tmp 55)), (.int .i64), none⟩
  (.go 16 ⟨(some 58), (.call 22 [(.tmp 46), (.tmp 56), (.tmp 57)] [.sl]), .sl, none⟩ [(3, ⟨(some 45), (.ld1 (.tmp 44)), .sl, none⟩)]
  (.go 17 ⟨(some 59), (.call 34 [(.tmp 45), (.tmp 58)] [.bool]), .bool, none⟩ []
  (.take 18 ⟨(some 60), (.un .not (.tmp 59)), .bool, none⟩
  .done))))))))))))))))))) [60, 2, 12, 10, 4, 3, 1])
 (.cond (.tmp 60)
 (.seq (.ops [⟨(some 61), (.mv (.tmp 2)), (.int .i64), none⟩,
  ⟨(some 8), (.mv (.tmp 61)), (.int .i64), none⟩,
  ⟨(some 9), (.mv (.const (.bool false))), .bool, none⟩] [8, 9])
 .ret)
 .skip)))
 (.ops [⟨(some 40), (.mv (.tmp 12)), (.int .i64), none⟩,
  ⟨(some 41), (.bin .add (.tmp 40) (.const (.int .i64 1))), (.int .i64), none⟩,
  ⟨(some 12), (.mv (.tmp 41)), (.int .i64), none⟩] [12, 10, 4, 2, 3, 1]))))))
 (.seq (.ops [⟨(some 62), (.mv (.tmp 2)), (.int .i64), none⟩,
  ⟨(some 63), (.bin .add (.tmp 62) (.const (.int .i64 1))), (.int .i64), none⟩,
  ⟨(some 2), (.mv (.tmp 63)), (.int .i64), none⟩] [3, 2, 1, 4])
 (.seq (.ops [⟨(some 64), (.mv (.tmp 3)), .bool, none⟩,
  ⟨(some 65), (.un .not (.tmp 64)), .bool, none⟩] [65, 2, 1, 4, 3])
 (.cond (.tmp 65)
 (.seq (.ops [⟨(some 66), (.mv (.tmp 2)), (.int .i64), none⟩,
  ⟨(some 8), (.mv (.tmp 66)), (.int .i64), none⟩,
  ⟨(some 9), (.mv (.const (.bool true))), .bool, none⟩] [8, 9])
 .ret)
 .skip)))))))))))
def r17 : List Res := [.t 8, .t 9]
theorem tr17 : trS Try.prog [] 67 (Try.f17.body.getD .skip) s17 = some s17 := by kernel_rfl
theorem den17 (args : List Value) (w : World) (R : Ending → World → Prop) (hn : args.length ≤ 67) (h : denS Try.prog s17 (argsEnv 0 args) w (endK r17 R)) : Calls Try.prog 17 args.toArray w R :=
  calls_of_den (pn := []) (fn := Try.f17) (c := Try.f17.body.getD .skip) Try.func17 (by kernel_rfl) (by rw [Try.ntmps17]; exact hn) (by rw [Try.ntmps17]; exact tr17) (by kernel_rfl) h
def d17 (h0 : Array Value) (m1 : Option Addr) (n2 : Int) (more3 : Bool) (w : World) (R : Ending → World → Prop) : Prop :=
 ∀ w4 : World, w4 = World.alloc w (.cells h0 24) →
 ∃ I5 : Nat → Int → World → Prop,
 (∃ m, I5 m n2 w4) ∧
 (∀ (m6 : Nat) (w7 : World) (n8 : Int), I5 m6 n8 w7 →
 Calls Try.prog 33 #[(.pointer m1)] w7 fun e9 w10 => ∃ (x11 : Option Addr) (x11n : Nat) (x11c : Nat), ∃ x12 : Bool, e9 = .returned (.tuple #[(.slice x11 x11n x11c), (.bool x12)]) ∧
 ∃ (x13 : Option Addr) (x13n : Nat) (x13c : Nat), (#[(.slice x11 x11n x11c), (.bool x12)] : Array Value)[0]? = some (.slice x13 x13n x13c) ∧
 ∃ x14 : Bool, (#[(.slice x11 x11n x11c), (.bool x12)] : Array Value)[1]? = some (.bool x14) ∧
 (bif (!x14) then
 (R (.returned (.tuple #[(.int .i64 n8), (.bool (decide (((x13n : Nat) : Int) = 0)))])) w10)
 else
 (∃ J15 : World → Prop,
 (∃ cs16 : List Value, List.length cs16 = 3 ∧ Cells w10 ⟨World.heap w |>.size, 0, none⟩ cs16 ∧
 Calls Try.prog 9 #[(.agg (List.toArray cs16))] w10 fun e17 w18 => ∃ x19 : Int, e17 = .returned (.int .i64 x19) ∧
 (bif (decide (x19 ≤ n8)) then
 (R (.returned (.tuple #[(.int .i64 n8), (.bool false)])) w18)
 else
 (∃ cs20 : List Value, List.length cs20 = 3 ∧ Cells w18 ⟨World.heap w |>.size, 0, none⟩ cs20 ∧
 Calls Try.prog 8 #[(.agg (List.toArray cs20))] w18 fun e21 w22 => ∃ x23 : Int, e21 = .returned (.int .i64 x23) ∧
 (bif (!decide (((x13n : Nat) : Int) = x23)) then
 (R (.returned (.tuple #[(.int .i64 n8), (.bool false)])) w22)
 else
 (J15  w22))))) ∧
 (∀ (w24 : World), J15  w24 →
 ∃ I25 : Nat → Int → World → Prop,
 (∃ m, I25 m 0 w24) ∧
 (∀ (m26 : Nat) (w27 : World) (i28 : Int), I25 m26 i28 w27 →
 (bif (decide (i28 < ((x13n : Nat) : Int))) then
 (∀ w29 : World, w29 = World.drew w27 →
 0 ≤ i28 ∧ i28 < ((x13n : Nat) : Int) ∧ optK x13 fun a30 =>
 ∃ (x31 : Option Addr) (x31n : Nat) (x31c : Nat), World.cell? w29 (Addr.add a30 (Int.toNat i28 * 1)) = some (.slice x31 x31n x31c) ∧
 ∃ cs32 : List Value, List.length cs32 = 3 ∧ Cells w29 ⟨World.heap w |>.size, 0, none⟩ cs32 ∧
 ∃ cs33 : List Value, List.length cs33 = 3 ∧ Cells w29 ⟨World.heap w |>.size, 0, none⟩ cs33 ∧
 ∃ cs34 : List Value, List.length cs34 = 3 ∧ Cells w29 ⟨World.heap w |>.size, 0, none⟩ cs34 ∧
 Calls Try.prog 11 #[(.agg (List.toArray cs33))] w29 fun e35 w36 => ∃ x37 : Int, e35 = .returned (.int .i64 x37) ∧
 (∃ cs38 : List Value, List.length cs38 = 3 ∧ Cells w36 ⟨World.heap w |>.size, 0, none⟩ cs38 ∧
 (((.agg (List.toArray cs38)) : Value) = (.agg (List.toArray cs34)) ∧ w36 = w36)) ∧
 (∃ cs39 : List Value, List.length cs39 = 3 ∧ Cells w36 ⟨World.heap w |>.size, 0, none⟩ cs39 ∧
 (((.agg (List.toArray cs39)) : Value) = (.agg (List.toArray cs32)) ∧ w36 = w36)) ∧
 (∃ (z40 : Option Addr) (z40n : Nat) (z40c : Nat), World.cell? w36 (Addr.add a30 (Int.toNat i28 * 1)) = some (.slice z40 z40n z40c) ∧
 (((.slice z40 z40n z40c) : Value) = (.slice x31 x31n x31c) ∧ w36 = w36)) ∧
 Calls Try.prog 8 #[(.agg (List.toArray cs34))] w36 fun e41 w42 => ∃ x43 : Int, e41 = .returned (.int .i64 x43) ∧
 (∃ cs44 : List Value, List.length cs44 = 3 ∧ Cells w42 ⟨World.heap w |>.size, 0, none⟩ cs44 ∧
 (((.agg (List.toArray cs44)) : Value) = (.agg (List.toArray cs32)) ∧ w42 = w42)) ∧
 (∃ (z45 : Option Addr) (z45n : Nat) (z45c : Nat), World.cell? w42 (Addr.add a30 (Int.toNat i28 * 1)) = some (.slice z45 z45n z45c) ∧
 (((.slice z45 z45n z45c) : Value) = (.slice x31 x31n x31c) ∧ w42 = w42)) ∧
 x43 ≠ 0 ∧ Calls Try.prog 22 #[(.agg (List.toArray cs32)), (.int .i64 (Int.tmod (IntKind.wrap .i64 ((IntKind.wrap .i64 ((IntKind.wrap .i64 (x37 + n8)) - 1)) + i28)) x43)), (.int .i64 n8)] w42 fun e46 w47 => ∃ (x48 : Option Addr) (x48n : Nat) (x48c : Nat), e46 = .returned (.slice x48 x48n x48c) ∧
 (∃ (z49 : Option Addr) (z49n : Nat) (z49c : Nat), World.cell? w47 (Addr.add a30 (Int.toNat i28 * 1)) = some (.slice z49 z49n z49c) ∧
 (((.slice z49 z49n z49c) : Value) = (.slice x31 x31n x31c) ∧ w47 = w47)) ∧
 Calls Try.prog 34 #[(.slice x31 x31n x31c), (.slice x48 x48n x48c)] w47 fun e50 w51 => ∃ x52 : Bool, e50 = .returned (.bool x52) ∧
 (bif (!x52) then
 (R (.returned (.tuple #[(.int .i64 n8), (.bool false)])) w51)
 else
 (∃ m53, m53 < m26 ∧ I25 m53 (IntKind.wrap .i64 (i28 + 1)) w51)))
 else
 ((bif (!more3) then
 (R (.returned (.tuple #[(.int .i64 (IntKind.wrap .i64 (n8 + 1))), (.bool true)])) w27)
 else
 (∃ m54, m54 < m6 ∧ I5 m54 (IntKind.wrap .i64 (n8 + 1)) w27)))))))))
theorem e17 (h0 : Array Value) (m1 : Option Addr) (n2 : Int) (more3 : Bool) (w : World) (R : Ending → World → Prop) : denS Try.prog s17 (argsEnv 0 [(.agg h0), (.pointer m1), (.int .i64 n2), (.bool more3)]) w (endK r17 R) = d17 h0 m1 n2 more3 w R := by kernel_rfl
theorem c17 (h0 : Array Value) (m1 : Option Addr) (n2 : Int) (more3 : Bool) {w : World} {R : Ending → World → Prop} (h : d17 h0 m1 n2 more3 w R) : Calls Try.prog 17 #[(.agg h0), (.pointer m1), (.int .i64 n2), (.bool more3)] w R :=
  den17 [(.agg h0), (.pointer m1), (.int .i64 n2), (.bool more3)] w R (by simp) ((e17 h0 m1 n2 more3 w R).symm ▸ h)

/-- prelude/preludelaw25.all -/
def s18 : S := (.seq (.ops [⟨(some 2), (.mv (.const (.bool false))), .bool, none⟩] [0])
 (.seq (.seq (.ops [⟨(some 3), (.mv (.const (.int .i64 0))), (.int .i64), none⟩] [3, 0])
 (.block 0
 (.loop [(3, (.int .i64))] [0]
 (.seq (.seq (.ops [⟨(some 4), (.mv (.tmp 3)), (.int .i64), none⟩,
  ⟨(some 5), (.mv (.tmp 0)), .sl, none⟩,
  ⟨(some 6), (.len (.tmp 5)), (.int .i64), none⟩,
  ⟨(some 7), (.bin .lss (.tmp 4) (.tmp 6)), .bool, none⟩] [7, 0, 3])
 (.cond (.tmp 7)
 .skip
 (.exit 0)))
 (.seq (.block 1
 (.seq (.ops [⟨(some 10), (.mv (.tmp 0)), .sl, none⟩,
  ⟨(some 11), (.mv (.tmp 3)), (.int .i64), none⟩,
  ⟨(some 12), (.ia 1 (.tmp 10) (.tmp 11)), .ptr, none⟩,
  ⟨(some 13), (.ld1 (.tmp 12)), .bool, none⟩,
  ⟨(some 14), (.un .not (.tmp 13)), .bool, none⟩] [14, 3, 0])
 (.cond (.tmp 14)
 (.seq (.ops [⟨(some 2), (.mv (.const (.bool false))), .bool, none⟩] [2])
 .ret)
 .skip)))
 (.ops [⟨(some 8), (.mv (.tmp 3)), (.int .i64), none⟩,
  ⟨(some 9), (.bin .add (.tmp 8) (.const (.int .i64 1))), (.int .i64), none⟩,
  ⟨(some 3), (.mv (.tmp 9)), (.int .i64), none⟩] [3, 0]))))))
 (.seq (.ops [⟨(some 2), (.mv (.const (.bool true))), .bool, none⟩] [2])
 .ret)))
def r18 : List Res := [.t 2]
theorem tr18 : trS Try.prog [] 15 (Try.f18.body.getD .skip) s18 = some s18 := by kernel_rfl
theorem den18 (args : List Value) (w : World) (R : Ending → World → Prop) (hn : args.length ≤ 15) (h : denS Try.prog s18 (argsEnv 0 args) w (endK r18 R)) : Calls Try.prog 18 args.toArray w R :=
  calls_of_den (pn := []) (fn := Try.f18) (c := Try.f18.body.getD .skip) Try.func18 (by kernel_rfl) (by rw [Try.ntmps18]; exact hn) (by rw [Try.ntmps18]; exact tr18) (by kernel_rfl) h
def d18 (l0 : Option Addr) (l0n : Nat) (l0c : Nat) (w : World) (R : Ending → World → Prop) : Prop :=
 ∃ I1 : Nat → Int → World → Prop,
 (∃ m, I1 m 0 w) ∧
 (∀ (m2 : Nat) (w3 : World) (i4 : Int), I1 m2 i4 w3 →
 (bif (decide (i4 < ((l0n : Nat) : Int))) then
 (0 ≤ i4 ∧ i4 < ((l0n : Nat) : Int) ∧ optK l0 fun a5 =>
 ∃ x6 : Bool, World.cell? w3 (Addr.add a5 (Int.toNat i4 * 1)) = some (.bool x6) ∧
 (bif (!x6) then
 (R (.returned (.bool false)) w3)
 else
 (∃ m7, m7 < m2 ∧ I1 m7 (IntKind.wrap .i64 (i4 + 1)) w3)))
 else
 (R (.returned (.bool true)) w3)))
theorem e18 (l0 : Option Addr) (l0n : Nat) (l0c : Nat) (w : World) (R : Ending → World → Prop) : denS Try.prog s18 (argsEnv 0 [(.slice l0 l0n l0c)]) w (endK r18 R) = d18 l0 l0n l0c w R := by kernel_rfl
theorem c18 (l0 : Option Addr) (l0n : Nat) (l0c : Nat) {w : World} {R : Ending → World → Prop} (h : d18 l0 l0n l0c w R) : Calls Try.prog 18 #[(.slice l0 l0n l0c)] w R :=
  den18 [(.slice l0 l0n l0c)] w R (by simp) ((e18 l0 l0n l0c w R).symm ▸ h)

/-- (prelude/preludelaw25.History).batch -/
def s22 : S := (.seq (.ops [⟨(some 3), (.box 24 (.tmp 0)), .ptr, none⟩,
  ⟨(some 6), (.mv (.const (.slice none 0 0))), .sl, none⟩] [3, 2, 1])
 (.seq (.ops [⟨(some 7), (.mv (.const (.slice none 0 0))), .sl, none⟩] [3, 2, 1, 7])
 (.seq (.draw (.take 0 ⟨(some 10), (.fa 2 (.tmp 3)), .ptr, none⟩
  (.take 1 ⟨(some 11), (.ld1 (.tmp 10)), .sl, none⟩
  (.take 2 ⟨(some 12), (.mv (.tmp 2)), (.int .i64), none⟩
  (.take 3 ⟨(some 13), (.ldN 3 (.tmp 3)), .agg, none⟩
  (.take 6 ⟨(some 16), (.mv (.tmp 1)), (.int .i64), none⟩
  (.go 4 ⟨(some 14), (.call 8 [(.tmp 13)] [(.int .i64)]), (.int .i64), none⟩ [(1, ⟨(some 11), (.ld1 (.tmp 10)), .sl, none⟩)]
  (.take 5 ⟨(some 15), (.bin .mul (.tmp 12) (.tmp 14)), (.int .i64), none⟩
  (.take 7 ⟨(some 17), (.bin .add (.tmp 15) (.tmp 16)), (.int .i64), none⟩
  (.take 8 ⟨(some 18), (.ia 1 (.tmp 11) (.tmp 17)), .ptr, none⟩
  (.take 9 ⟨(some 19), (.ld1 (.tmp 18)), .sl, none⟩
  (.take 10 ⟨(some 8), (.mv (.tmp 19)), .sl, none⟩
  .done))))))))))) [8, 7])
 (.seq (.seq (.ops [⟨(some 9), (.mv (.const (.int .i64 0))), (.int .i64), none⟩] [9, 8, 7])
 (.block 0
 (.loop [(7, .sl), (9, (.int .i64))] [8]
 (.join [] [7, 8, 9]
 (.seq (.ops [⟨(some 20), (.mv (.tmp 9)), (.int .i64), none⟩,
  ⟨(some 21), (.mv (.tmp 8)), .sl, none⟩,
  ⟨(some 22), (.len (.tmp 21)), (.int .i64), none⟩,
  ⟨(some 23), (.bin .lss (.tmp 20) (.tmp 22)), .bool, none⟩,
  ⟨(some 24), (.mv (.tmp 23)), .bool, none⟩,
  ⟨(some 25), (.mv (.tmp 9)), (.int .i64), (some (24, true))⟩,
  ⟨(some 26), (.bin .lss (.tmp 25) (.const (.int .i64 64))), .bool, (some (24, true))⟩,
  ⟨(some 27), (.pick (.tmp 24) (.tmp 26) (.const (.bool false))), .bool, none⟩] [27, 7, 8, 9])
 (.cond (.tmp 27)
 .skip
 (.exit 0)))
 (.seq (.block 1
 (.ops [⟨(some 30), (.mv (.tmp 7)), .sl, none⟩,
  ⟨(some 31), (.mv (.tmp 8)), .sl, none⟩,
  ⟨(some 32), (.mv (.tmp 9)), (.int .i64), none⟩,
  ⟨(some 33), (.ia 1 (.tmp 31) (.tmp 32)), .ptr, none⟩,
  ⟨(some 34), (.ld1 (.tmp 33)), (.int .i64), none⟩,
  ⟨(some 35), (.call 14 [(.tmp 34)] [.agg]), .agg, none⟩,
  ⟨(some 36), (.bldS 39 1 4 [(0, (.tmp 35))]), .sl, none⟩,
  ⟨(some 37), (.app #[33, 33] 33 (.tmp 30) (.tmp 36)), .sl, none⟩,
  ⟨(some 7), (.mv (.tmp 37)), .sl, none⟩] [9, 8, 7]))
 (.ops [⟨(some 28), (.mv (.tmp 9)), (.int .i64), none⟩,
  ⟨(some 29), (.bin .add (.tmp 28) (.const (.int .i64 1))), (.int .i64), none⟩,
  ⟨(some 9), (.mv (.tmp 29)), (.int .i64), none⟩] [9, 8, 7]))))))
 (.seq (.ops [⟨(some 38), (.mv (.tmp 7)), .sl, none⟩,
  ⟨(some 6), (.mv (.tmp 38)), .sl, none⟩] [6])
 .ret)))))
def r22 : List Res := [.t 6]
theorem tr22 : trS Try.prog [] 39 (Try.f22.body.getD .skip) s22 = some s22 := by kernel_rfl
theorem den22 (args : List Value) (w : World) (R : Ending → World → Prop) (hn : args.length ≤ 39) (h : denS Try.prog s22 (argsEnv 0 args) w (endK r22 R)) : Calls Try.prog 22 args.toArray w R :=
  calls_of_den (pn := []) (fn := Try.f22) (c := Try.f22.body.getD .skip) Try.func22 (by kernel_rfl) (by rw [Try.ntmps22]; exact hn) (by rw [Try.ntmps22]; exact tr22) (by kernel_rfl) h
def d22 (h0 : Array Value) (input1 : Int) (epoch2 : Int) (w : World) (R : Ending → World → Prop) : Prop :=
 ∀ w3 : World, w3 = World.alloc w (.cells h0 24) →
 ∀ w4 : World, w4 = World.drew w3 →
 ∃ (x5 : Option Addr) (x5n : Nat) (x5c : Nat), World.cell? w4 (Addr.add ⟨World.heap w |>.size, 0, none⟩ 2) = some (.slice x5 x5n x5c) ∧
 ∃ cs6 : List Value, List.length cs6 = 3 ∧ Cells w4 ⟨World.heap w |>.size, 0, none⟩ cs6 ∧
 Calls Try.prog 8 #[(.agg (List.toArray cs6))] w4 fun e7 w8 => ∃ x9 : Int, e7 = .returned (.int .i64 x9) ∧
 (∃ (z10 : Option Addr) (z10n : Nat) (z10c : Nat), World.cell? w8 (Addr.add ⟨World.heap w |>.size, 0, none⟩ 2) = some (.slice z10 z10n z10c) ∧
 (((.slice z10 z10n z10c) : Value) = (.slice x5 x5n x5c) ∧ w8 = w8)) ∧
 0 ≤ (IntKind.wrap .i64 ((IntKind.wrap .i64 (epoch2 * x9)) + input1)) ∧ (IntKind.wrap .i64 ((IntKind.wrap .i64 (epoch2 * x9)) + input1)) < ((x5n : Nat) : Int) ∧ optK x5 fun a11 =>
 ∃ (x12 : Option Addr) (x12n : Nat) (x12c : Nat), World.cell? w8 (Addr.add a11 (Int.toNat (IntKind.wrap .i64 ((IntKind.wrap .i64 (epoch2 * x9)) + input1)) * 1)) = some (.slice x12 x12n x12c) ∧
 ∃ I13 : Nat → Option Addr → Nat → Nat → Int → World → Prop,
 (∃ m, I13 m none 0 0 0 w8) ∧
 (∀ (m14 : Nat) (w15 : World) (l16 : Option Addr) (l16n : Nat) (l16c : Nat) (i17 : Int), I13 m14 l16 l16n l16c i17 w15 →
 ∃ J18 : World → Prop,
 ((bif (decide (i17 < ((x12n : Nat) : Int))) then
 ((bif (decide (i17 < 64)) then
 (J18  w15)
 else
 (R (.returned (.slice l16 l16n l16c)) w15)))
 else
 (R (.returned (.slice l16 l16n l16c)) w15))) ∧
 (∀ (w19 : World), J18  w19 →
 0 ≤ i17 ∧ i17 < ((x12n : Nat) : Int) ∧ optK x12 fun a20 =>
 ∃ x21 : Int, World.cell? w19 (Addr.add a20 (Int.toNat i17 * 1)) = some (.int .i64 x21) ∧
 Calls Try.prog 14 #[(.int .i64 x21)] w19 fun e22 w23 => ∃ x24 : Array Value, e22 = .returned (.agg x24) ∧
 ∃ cs25, fillL (.elems 4) (zrep (zc Try.prog 39) (1 * 4)) [(0, (.agg x24))] = some cs25 ∧
 ∀ w26 : World, w26 = World.alloc w23 (.cells (List.toArray cs25) 39) →
 RunV Try.prog (Builtin.append_ #[33, 33] 33 #[(.slice l16 l16n l16c), (.slice (some ⟨World.heap w23 |>.size, 0, none⟩) 1 1)]) w26 fun v27 w28 => ∃ (x29 : Option Addr) (x29n : Nat) (x29c : Nat), v27 = (.slice x29 x29n x29c) ∧
 ∃ m30, m30 < m14 ∧ I13 m30 x29 x29n x29c (IntKind.wrap .i64 (i17 + 1)) w28))
theorem e22 (h0 : Array Value) (input1 : Int) (epoch2 : Int) (w : World) (R : Ending → World → Prop) : denS Try.prog s22 (argsEnv 0 [(.agg h0), (.int .i64 input1), (.int .i64 epoch2)]) w (endK r22 R) = d22 h0 input1 epoch2 w R := by kernel_rfl
theorem c22 (h0 : Array Value) (input1 : Int) (epoch2 : Int) {w : World} {R : Ending → World → Prop} (h : d22 h0 input1 epoch2 w R) : Calls Try.prog 22 #[(.agg h0), (.int .i64 input1), (.int .i64 epoch2)] w R :=
  den22 [(.agg h0), (.int .i64 input1), (.int .i64 epoch2)] w R (by simp) ((e22 h0 input1 epoch2 w R).symm ▸ h)

/-- prelude/preludelaw25.sameBatch -/
def s34 : S := (.seq (.ops [⟨(some 4), (.mv (.const (.bool false))), .bool, none⟩] [0, 1])
 (.seq (.seq (.ops [⟨(some 6), (.mv (.tmp 0)), .sl, none⟩,
  ⟨(some 7), (.len (.tmp 6)), (.int .i64), none⟩,
  ⟨(some 8), (.mv (.tmp 1)), .sl, none⟩,
  ⟨(some 9), (.len (.tmp 8)), (.int .i64), none⟩,
  ⟨(some 10), (.bin .neq (.tmp 7) (.tmp 9)), .bool, none⟩] [10, 0, 1])
 (.cond (.tmp 10)
 (.seq (.ops [⟨(some 4), (.mv (.const (.bool false))), .bool, none⟩] [4])
 .ret)
 .skip))
 (.seq (.seq (.ops [⟨(some 5), (.mv (.const (.int .i64 0))), (.int .i64), none⟩] [5, 0, 1])
 (.block 0
 (.loop [(5, (.int .i64))] [0, 1]
 (.seq (.seq (.ops [⟨(some 11), (.mv (.tmp 5)), (.int .i64), none⟩,
  ⟨(some 12), (.mv (.tmp 0)), .sl, none⟩,
  ⟨(some 13), (.len (.tmp 12)), (.int .i64), none⟩,
  ⟨(some 14), (.bin .lss (.tmp 11) (.tmp 13)), .bool, none⟩] [14, 0, 5, 1])
 (.cond (.tmp 14)
 .skip
 (.exit 0)))
 (.seq (.block 1
 (.seq (.draw (.take 0 ⟨(some 17), (.mv (.tmp 0)), .sl, none⟩
  (.take 1 ⟨(some 18), (.mv (.tmp 5)), (.int .i64), none⟩
  (.take 2 ⟨(some 19), (.ia 4 (.tmp 17) (.tmp 18)), .ptr, none⟩
  (.take 3 ⟨(some 20), (.ldN 4 (.tmp 19)), .agg, none⟩
  (.take 4 ⟨(some 21), (.mv (.tmp 1)), .sl, none⟩
  (.take 5 ⟨(some 22), (.mv (.tmp 5)), (.int .i64), none⟩
  (.take 6 ⟨(some 23), (.ia 4 (.tmp 21) (.tmp 22)), .ptr, none⟩
  (.take 7 ⟨(some 24), (.ldN 4 (.tmp 23)), .agg, none⟩
  (.go 8 ⟨(some 25), (.call 55 [(.tmp 20), (.tmp 24)] [.bool]), .bool, none⟩ []
  (.take 9 ⟨(some 26), (.un .not (.tmp 25)), .bool, none⟩
  .done)))))))))) [26, 5, 0, 1])
 (.cond (.tmp 26)
 (.seq (.ops [⟨(some 4), (.mv (.const (.bool false))), .bool, none⟩] [4])
 .ret)
 .skip)))
 (.ops [⟨(some 15), (.mv (.tmp 5)), (.int .i64), none⟩,
  ⟨(some 16), (.bin .add (.tmp 15) (.const (.int .i64 1))), (.int .i64), none⟩,
  ⟨(some 5), (.mv (.tmp 16)), (.int .i64), none⟩] [5, 0, 1]))))))
 (.seq (.ops [⟨(some 4), (.mv (.const (.bool true))), .bool, none⟩] [4])
 .ret))))
def r34 : List Res := [.t 4]
theorem tr34 : trS Try.prog [] 27 (Try.f34.body.getD .skip) s34 = some s34 := by kernel_rfl
theorem den34 (args : List Value) (w : World) (R : Ending → World → Prop) (hn : args.length ≤ 27) (h : denS Try.prog s34 (argsEnv 0 args) w (endK r34 R)) : Calls Try.prog 34 args.toArray w R :=
  calls_of_den (pn := []) (fn := Try.f34) (c := Try.f34.body.getD .skip) Try.func34 (by kernel_rfl) (by rw [Try.ntmps34]; exact hn) (by rw [Try.ntmps34]; exact tr34) (by kernel_rfl) h
def d34 (a0 : Option Addr) (a0n : Nat) (a0c : Nat) (b1 : Option Addr) (b1n : Nat) (b1c : Nat) (w : World) (R : Ending → World → Prop) : Prop :=
 (bif (!decide (((a0n : Nat) : Int) = ((b1n : Nat) : Int))) then
 (R (.returned (.bool false)) w)
 else
 (∃ I2 : Nat → Int → World → Prop,
 (∃ m, I2 m 0 w) ∧
 (∀ (m3 : Nat) (w4 : World) (i5 : Int), I2 m3 i5 w4 →
 (bif (decide (i5 < ((a0n : Nat) : Int))) then
 (∀ w6 : World, w6 = World.drew w4 →
 0 ≤ i5 ∧ i5 < ((a0n : Nat) : Int) ∧ optK a0 fun a7 =>
 ∃ cs8 : List Value, List.length cs8 = 4 ∧ Cells w6 (Addr.add a7 (Int.toNat i5 * 4)) cs8 ∧
 0 ≤ i5 ∧ i5 < ((b1n : Nat) : Int) ∧ optK b1 fun a9 =>
 ∃ cs10 : List Value, List.length cs10 = 4 ∧ Cells w6 (Addr.add a9 (Int.toNat i5 * 4)) cs10 ∧
 Calls Try.prog 55 #[(.agg (List.toArray cs8)), (.agg (List.toArray cs10))] w6 fun e11 w12 => ∃ x13 : Bool, e11 = .returned (.bool x13) ∧
 (bif (!x13) then
 (R (.returned (.bool false)) w12)
 else
 (∃ m14, m14 < m3 ∧ I2 m14 (IntKind.wrap .i64 (i5 + 1)) w12)))
 else
 (R (.returned (.bool true)) w4)))))
theorem e34 (a0 : Option Addr) (a0n : Nat) (a0c : Nat) (b1 : Option Addr) (b1n : Nat) (b1c : Nat) (w : World) (R : Ending → World → Prop) : denS Try.prog s34 (argsEnv 0 [(.slice a0 a0n a0c), (.slice b1 b1n b1c)]) w (endK r34 R) = d34 a0 a0n a0c b1 b1n b1c w R := by kernel_rfl
theorem c34 (a0 : Option Addr) (a0n : Nat) (a0c : Nat) (b1 : Option Addr) (b1n : Nat) (b1c : Nat) {w : World} {R : Ending → World → Prop} (h : d34 a0 a0n a0c b1 b1n b1c w R) : Calls Try.prog 34 #[(.slice a0 a0n a0c), (.slice b1 b1n b1c)] w R :=
  den34 [(.slice a0 a0n a0c), (.slice b1 b1n b1c)] w R (by simp) ((e34 a0 a0n a0c b1 b1n b1c w R).symm ▸ h)

/-- prelude/preludelaw25.sameTx -/
def s55 : S := (.seq (.ops [⟨(some 2), (.box 39 (.tmp 0)), .ptr, none⟩,
  ⟨(some 3), (.box 39 (.tmp 1)), .ptr, none⟩,
  ⟨(some 4), (.mv (.const (.bool false))), .bool, none⟩] [2, 3])
 (.join [] [2, 3]
 (.seq (.ops [⟨(some 8), (.fa 0 (.tmp 2)), .ptr, none⟩,
  ⟨(some 9), (.ld1 (.tmp 8)), (.int .i64), none⟩,
  ⟨(some 10), (.fa 0 (.tmp 3)), .ptr, none⟩,
  ⟨(some 11), (.ld1 (.tmp 10)), (.int .i64), none⟩,
  ⟨(some 12), (.bin .neq (.tmp 9) (.tmp 11)), .bool, none⟩,
  ⟨(some 13), (.mv (.tmp 12)), .bool, none⟩,
  ⟨(some 14), (.fa 1 (.tmp 2)), .ptr, (some (13, false))⟩,
  ⟨(some 15), (.ld1 (.tmp 14)), .sl, (some (13, false))⟩,
  ⟨(some 16), (.len (.tmp 15)), (.int .i64), (some (13, false))⟩,
  ⟨(some 17), (.fa 1 (.tmp 3)), .ptr, (some (13, false))⟩,
  ⟨(some 18), (.ld1 (.tmp 17)), .sl, (some (13, false))⟩,
  ⟨(some 19), (.len (.tmp 18)), (.int .i64), (some (13, false))⟩,
  ⟨(some 20), (.bin .neq (.tmp 16) (.tmp 19)), .bool, (some (13, false))⟩,
  ⟨(some 21), (.pick (.tmp 13) (.const (.bool true)) (.tmp 20)), .bool, none⟩,
  ⟨(some 22), (.mv (.tmp 21)), .bool, none⟩,
  ⟨(some 23), (.fa 2 (.tmp 2)), .ptr, (some (22, false))⟩,
  ⟨(some 24), (.ld1 (.tmp 23)), .sl, (some (22, false))⟩,
  ⟨(some 25), (.len (.tmp 24)), (.int .i64), (some (22, false))⟩,
  ⟨(some 26), (.fa 2 (.tmp 3)), .ptr, (some (22, false))⟩,
  ⟨(some 27), (.ld1 (.tmp 26)), .sl, (some (22, false))⟩,
  ⟨(some 28), (.len (.tmp 27)), (.int .i64), (some (22, false))⟩,
  ⟨(some 29), (.bin .neq (.tmp 25) (.tmp 28)), .bool, (some (22, false))⟩,
  ⟨(some 30), (.pick (.tmp 22) (.const (.bool true)) (.tmp 29)), .bool, none⟩,
  ⟨(some 31), (.mv (.tmp 30)), .bool, none⟩,
  ⟨(some 32), (.fa 3 (.tmp 2)), .ptr, (some (31, false))⟩,
  ⟨(some 33), (.ld1 (.tmp 32)), .sl, (some (31, false))⟩,
  ⟨(some 34), (.len (.tmp 33)), (.int .i64), (some (31, false))⟩,
  ⟨(some 35), (.fa 3 (.tmp 3)), .ptr, (some (31, false))⟩,
  ⟨(some 36), (.ld1 (.tmp 35)), .sl, (some (31, false))⟩,
  ⟨(some 37), (.len (.tmp 36)), (.int .i64), (some (31, false))⟩,
  ⟨(some 38), (.bin .neq (.tmp 34) (.tmp 37)), .bool, (some (31, false))⟩,
  ⟨(some 39), (.pick (.tmp 31) (.const (.bool true)) (.tmp 38)), .bool, none⟩] [39, 2, 3])
 (.cond (.tmp 39)
 (.seq (.ops [⟨(some 4), (.mv (.const (.bool false))), .bool, none⟩] [4])
 .ret)
 .skip))
 (.seq (.seq (.ops [⟨(some 5), (.mv (.const (.int .i64 0))), (.int .i64), none⟩] [5, 2, 3])
 (.block 0
 (.loop [(5, (.int .i64))] [2, 3]
 (.seq (.seq (.ops [⟨(some 40), (.mv (.tmp 5)), (.int .i64), none⟩,
  ⟨(some 41), (.fa 1 (.tmp 2)), .ptr, none⟩,
  ⟨(some 42), (.ld1 (.tmp 41)), .sl, none⟩,
  ⟨(some 43), (.len (.tmp 42)), (.int .i64), none⟩,
  ⟨(some 44), (.bin .lss (.tmp 40) (.tmp 43)), .bool, none⟩] [44, 2, 5, 3])
 (.cond (.tmp 44)
 .skip
 (.exit 0)))
 (.seq (.block 1
 (.seq (.draw (.take 0 ⟨(some 47), (.fa 1 (.tmp 2)), .ptr, none⟩
  (.take 1 ⟨(some 48), (.ld1 (.tmp 47)), .sl, none⟩
  (.take 2 ⟨(some 49), (.mv (.tmp 5)), (.int .i64), none⟩
  (.take 3 ⟨(some 50), (.ia 1 (.tmp 48) (.tmp 49)), .ptr, none⟩
  (.take 4 ⟨(some 51), (.ld1 (.tmp 50)), (.int .i64), none⟩
  (.take 5 ⟨(some 52), (.fa 1 (.tmp 3)), .ptr, none⟩
  (.take 6 ⟨(some 53), (.ld1 (.tmp 52)), .sl, none⟩
  (.take 7 ⟨(some 54), (.mv (.tmp 5)), (.int .i64), none⟩
  (.take 8 ⟨(some 55), (.ia 1 (.tmp 53) (.tmp 54)), .ptr, none⟩
  (.take 9 ⟨(some 56), (.ld1 (.tmp 55)), (.int .i64), none⟩
  (.take 10 ⟨(some 57), (.bin .neq (.tmp 51) (.tmp 56)), .bool, none⟩
  .done))))))))))) [57, 5, 2, 3])
 (.cond (.tmp 57)
 (.seq (.ops [⟨(some 4), (.mv (.const (.bool false))), .bool, none⟩] [4])
 .ret)
 .skip)))
 (.ops [⟨(some 45), (.mv (.tmp 5)), (.int .i64), none⟩,
  ⟨(some 46), (.bin .add (.tmp 45) (.const (.int .i64 1))), (.int .i64), none⟩,
  ⟨(some 5), (.mv (.tmp 46)), (.int .i64), none⟩] [5, 2, 3]))))))
 (.seq (.seq (.ops [⟨(some 6), (.mv (.const (.int .i64 0))), (.int .i64), none⟩] [6, 2, 3])
 (.block 2
 (.loop [(6, (.int .i64))] [2, 3]
 (.seq (.seq (.ops [⟨(some 58), (.mv (.tmp 6)), (.int .i64), none⟩,
  ⟨(some 59), (.fa 2 (.tmp 2)), .ptr, none⟩,
  ⟨(some 60), (.ld1 (.tmp 59)), .sl, none⟩,
  ⟨(some 61), (.len (.tmp 60)), (.int .i64), none⟩,
  ⟨(some 62), (.bin .lss (.tmp 58) (.tmp 61)), .bool, none⟩] [62, 2, 6, 3])
 (.cond (.tmp 62)
 .skip
 (.exit 2)))
 (.seq (.block 3
 (.seq (.draw (.take 0 ⟨(some 65), (.fa 2 (.tmp 2)), .ptr, none⟩
  (.take 1 ⟨(some 66), (.ld1 (.tmp 65)), .sl, none⟩
  (.take 2 ⟨(some 67), (.mv (.tmp 6)), (.int .i64), none⟩
  (.take 3 ⟨(some 68), (.ia 2 (.tmp 66) (.tmp 67)), .ptr, none⟩
  (.take 4 ⟨(some 69), (.ldN 2 (.tmp 68)), .agg, none⟩
  (.take 5 ⟨(some 70), (.fa 2 (.tmp 3)), .ptr, none⟩
  (.take 6 ⟨(some 71), (.ld1 (.tmp 70)), .sl, none⟩
  (.take 7 ⟨(some 72), (.mv (.tmp 6)), (.int .i64), none⟩
  (.take 8 ⟨(some 73), (.ia 2 (.tmp 71) (.tmp 72)), .ptr, none⟩
  (.take 9 ⟨(some 74), (.ldN 2 (.tmp 73)), .agg, none⟩
  (.take 10 ⟨(some 75), (.eqG .neq 97 (.tmp 69) (.tmp 74)), .bool, none⟩
  .done))))))))))) [75, 6, 2, 3])
 (.cond (.tmp 75)
 (.seq (.ops [⟨(some 4), (.mv (.const (.bool false))), .bool, none⟩] [4])
 .ret)
 .skip)))
 (.ops [⟨(some 63), (.mv (.tmp 6)), (.int .i64), none⟩,
  ⟨(some 64), (.bin .add (.tmp 63) (.const (.int .i64 1))), (.int .i64), none⟩,
  ⟨(some 6), (.mv (.tmp 64)), (.int .i64), none⟩] [6, 2, 3]))))))
 (.seq (.seq (.ops [⟨(some 7), (.mv (.const (.int .i64 0))), (.int .i64), none⟩] [7, 2, 3])
 (.block 4
 (.loop [(7, (.int .i64))] [2, 3]
 (.seq (.seq (.ops [⟨(some 76), (.mv (.tmp 7)), (.int .i64), none⟩,
  ⟨(some 77), (.fa 3 (.tmp 2)), .ptr, none⟩,
  ⟨(some 78), (.ld1 (.tmp 77)), .sl, none⟩,
  ⟨(some 79), (.len (.tmp 78)), (.int .i64), none⟩,
  ⟨(some 80), (.bin .lss (.tmp 76) (.tmp 79)), .bool, none⟩] [80, 2, 7, 3])
 (.cond (.tmp 80)
 .skip
 (.exit 4)))
 (.seq (.block 5
 (.seq (.draw (.take 0 ⟨(some 83), (.fa 3 (.tmp 2)), .ptr, none⟩
  (.take 1 ⟨(some 84), (.ld1 (.tmp 83)), .sl, none⟩
  (.take 2 ⟨(some 85), (.mv (.tmp 7)), (.int .i64), none⟩
  (.take 3 ⟨(some 86), (.ia 2 (.tmp 84) (.tmp 85)), .ptr, none⟩
  (.take 4 ⟨(some 87), (.ldN 2 (.tmp 86)), .agg, none⟩
  (.take 5 ⟨(some 88), (.fa 3 (.tmp 3)), .ptr, none⟩
  (.take 6 ⟨(some 89), (.ld1 (.tmp 88)), .sl, none⟩
  (.take 7 ⟨(some 90), (.mv (.tmp 7)), (.int .i64), none⟩
  (.take 8 ⟨(some 91), (.ia 2 (.tmp 89) (.tmp 90)), .ptr, none⟩
  (.take 9 ⟨(some 92), (.ldN 2 (.tmp 91)), .agg, none⟩
  (.take 10 ⟨(some 93), (.eqG .neq 97 (.tmp 87) (.tmp 92)), .bool, none⟩
  .done))))))))))) [93, 7, 2, 3])
 (.cond (.tmp 93)
 (.seq (.ops [⟨(some 4), (.mv (.const (.bool false))), .bool, none⟩] [4])
 .ret)
 .skip)))
 (.ops [⟨(some 81), (.mv (.tmp 7)), (.int .i64), none⟩,
  ⟨(some 82), (.bin .add (.tmp 81) (.const (.int .i64 1))), (.int .i64), none⟩,
  ⟨(some 7), (.mv (.tmp 82)), (.int .i64), none⟩] [7, 2, 3]))))))
 (.seq (.ops [⟨(some 4), (.mv (.const (.bool true))), .bool, none⟩] [4])
 .ret))))))
def r55 : List Res := [.t 4]
theorem tr55 : trS Try.prog [] 94 (Try.f55.body.getD .skip) s55 = some s55 := by kernel_rfl
theorem den55 (args : List Value) (w : World) (R : Ending → World → Prop) (hn : args.length ≤ 94) (h : denS Try.prog s55 (argsEnv 0 args) w (endK r55 R)) : Calls Try.prog 55 args.toArray w R :=
  calls_of_den (pn := []) (fn := Try.f55) (c := Try.f55.body.getD .skip) Try.func55 (by kernel_rfl) (by rw [Try.ntmps55]; exact hn) (by rw [Try.ntmps55]; exact tr55) (by kernel_rfl) h
def d55 (a0 : Array Value) (b1 : Array Value) (w : World) (R : Ending → World → Prop) : Prop :=
 ∀ w2 : World, w2 = World.alloc w (.cells a0 39) →
 ∀ w3 : World, w3 = World.alloc w2 (.cells b1 39) →
 ∃ J4 : World → Prop,
 (∃ x5 : Int, World.cell? w3 (Addr.add ⟨World.heap w |>.size, 0, none⟩ 0) = some (.int .i64 x5) ∧
 ∃ x6 : Int, World.cell? w3 (Addr.add ⟨World.heap w2 |>.size, 0, none⟩ 0) = some (.int .i64 x6) ∧
 (bif (!decide (x5 = x6)) then
 (R (.returned (.bool false)) w3)
 else
 (∃ (x7 : Option Addr) (x7n : Nat) (x7c : Nat), World.cell? w3 (Addr.add ⟨World.heap w |>.size, 0, none⟩ 1) = some (.slice x7 x7n x7c) ∧
 ∃ (x8 : Option Addr) (x8n : Nat) (x8c : Nat), World.cell? w3 (Addr.add ⟨World.heap w2 |>.size, 0, none⟩ 1) = some (.slice x8 x8n x8c) ∧
 (bif (!decide (((x7n : Nat) : Int) = ((x8n : Nat) : Int))) then
 (R (.returned (.bool false)) w3)
 else
 (∃ (x9 : Option Addr) (x9n : Nat) (x9c : Nat), World.cell? w3 (Addr.add ⟨World.heap w |>.size, 0, none⟩ 2) = some (.slice x9 x9n x9c) ∧
 ∃ (x10 : Option Addr) (x10n : Nat) (x10c : Nat), World.cell? w3 (Addr.add ⟨World.heap w2 |>.size, 0, none⟩ 2) = some (.slice x10 x10n x10c) ∧
 (bif (!decide (((x9n : Nat) : Int) = ((x10n : Nat) : Int))) then
 (R (.returned (.bool false)) w3)
 else
 (∃ (x11 : Option Addr) (x11n : Nat) (x11c : Nat), World.cell? w3 (Addr.add ⟨World.heap w |>.size, 0, none⟩ 3) = some (.slice x11 x11n x11c) ∧
 ∃ (x12 : Option Addr) (x12n : Nat) (x12c : Nat), World.cell? w3 (Addr.add ⟨World.heap w2 |>.size, 0, none⟩ 3) = some (.slice x12 x12n x12c) ∧
 (bif (!decide (((x11n : Nat) : Int) = ((x12n : Nat) : Int))) then
 (R (.returned (.bool false)) w3)
 else
 (J4  w3))))))))) ∧
 (∀ (w13 : World), J4  w13 →
 ∃ I14 : Nat → Int → World → Prop,
 (∃ m, I14 m 0 w13) ∧
 (∀ (m15 : Nat) (w16 : World) (i17 : Int), I14 m15 i17 w16 →
 ∃ (x18 : Option Addr) (x18n : Nat) (x18c : Nat), World.cell? w16 (Addr.add ⟨World.heap w |>.size, 0, none⟩ 1) = some (.slice x18 x18n x18c) ∧
 (bif (decide (i17 < ((x18n : Nat) : Int))) then
 (∀ w19 : World, w19 = World.drew w16 →
 ∃ (x20 : Option Addr) (x20n : Nat) (x20c : Nat), World.cell? w19 (Addr.add ⟨World.heap w |>.size, 0, none⟩ 1) = some (.slice x20 x20n x20c) ∧
 0 ≤ i17 ∧ i17 < ((x20n : Nat) : Int) ∧ optK x20 fun a21 =>
 ∃ x22 : Int, World.cell? w19 (Addr.add a21 (Int.toNat i17 * 1)) = some (.int .i64 x22) ∧
 ∃ (x23 : Option Addr) (x23n : Nat) (x23c : Nat), World.cell? w19 (Addr.add ⟨World.heap w2 |>.size, 0, none⟩ 1) = some (.slice x23 x23n x23c) ∧
 0 ≤ i17 ∧ i17 < ((x23n : Nat) : Int) ∧ optK x23 fun a24 =>
 ∃ x25 : Int, World.cell? w19 (Addr.add a24 (Int.toNat i17 * 1)) = some (.int .i64 x25) ∧
 (bif (!decide (x22 = x25)) then
 (R (.returned (.bool false)) w19)
 else
 (∃ m26, m26 < m15 ∧ I14 m26 (IntKind.wrap .i64 (i17 + 1)) w19)))
 else
 (∃ I27 : Nat → Int → World → Prop,
 (∃ m, I27 m 0 w16) ∧
 (∀ (m28 : Nat) (w29 : World) (i30 : Int), I27 m28 i30 w29 →
 ∃ (x31 : Option Addr) (x31n : Nat) (x31c : Nat), World.cell? w29 (Addr.add ⟨World.heap w |>.size, 0, none⟩ 2) = some (.slice x31 x31n x31c) ∧
 (bif (decide (i30 < ((x31n : Nat) : Int))) then
 (∀ w32 : World, w32 = World.drew w29 →
 ∃ (x33 : Option Addr) (x33n : Nat) (x33c : Nat), World.cell? w32 (Addr.add ⟨World.heap w |>.size, 0, none⟩ 2) = some (.slice x33 x33n x33c) ∧
 0 ≤ i30 ∧ i30 < ((x33n : Nat) : Int) ∧ optK x33 fun a34 =>
 ∃ cs35 : List Value, List.length cs35 = 2 ∧ Cells w32 (Addr.add a34 (Int.toNat i30 * 2)) cs35 ∧
 ∃ (x36 : Option Addr) (x36n : Nat) (x36c : Nat), World.cell? w32 (Addr.add ⟨World.heap w2 |>.size, 0, none⟩ 2) = some (.slice x36 x36n x36c) ∧
 0 ≤ i30 ∧ i30 < ((x36n : Nat) : Int) ∧ optK x36 fun a37 =>
 ∃ cs38 : List Value, List.length cs38 = 2 ∧ Cells w32 (Addr.add a37 (Int.toNat i30 * 2)) cs38 ∧
 ∃ q39 : Bool, Sem.run Try.prog (do eqGuard .neq 97 (.tmp 69) (.tmp 74) (.agg (List.toArray cs35)) (.agg (List.toArray cs38)); binOp .neq 97 (.agg (List.toArray cs35)) (.agg (List.toArray cs38))) w32 = .ok (.bool q39) w32 ∧
 (bif q39 then
 (R (.returned (.bool false)) w32)
 else
 (∃ m40, m40 < m28 ∧ I27 m40 (IntKind.wrap .i64 (i30 + 1)) w32)))
 else
 (∃ I41 : Nat → Int → World → Prop,
 (∃ m, I41 m 0 w29) ∧
 (∀ (m42 : Nat) (w43 : World) (i44 : Int), I41 m42 i44 w43 →
 ∃ (x45 : Option Addr) (x45n : Nat) (x45c : Nat), World.cell? w43 (Addr.add ⟨World.heap w |>.size, 0, none⟩ 3) = some (.slice x45 x45n x45c) ∧
 (bif (decide (i44 < ((x45n : Nat) : Int))) then
 (∀ w46 : World, w46 = World.drew w43 →
 ∃ (x47 : Option Addr) (x47n : Nat) (x47c : Nat), World.cell? w46 (Addr.add ⟨World.heap w |>.size, 0, none⟩ 3) = some (.slice x47 x47n x47c) ∧
 0 ≤ i44 ∧ i44 < ((x47n : Nat) : Int) ∧ optK x47 fun a48 =>
 ∃ cs49 : List Value, List.length cs49 = 2 ∧ Cells w46 (Addr.add a48 (Int.toNat i44 * 2)) cs49 ∧
 ∃ (x50 : Option Addr) (x50n : Nat) (x50c : Nat), World.cell? w46 (Addr.add ⟨World.heap w2 |>.size, 0, none⟩ 3) = some (.slice x50 x50n x50c) ∧
 0 ≤ i44 ∧ i44 < ((x50n : Nat) : Int) ∧ optK x50 fun a51 =>
 ∃ cs52 : List Value, List.length cs52 = 2 ∧ Cells w46 (Addr.add a51 (Int.toNat i44 * 2)) cs52 ∧
 ∃ q53 : Bool, Sem.run Try.prog (do eqGuard .neq 97 (.tmp 87) (.tmp 92) (.agg (List.toArray cs49)) (.agg (List.toArray cs52)); binOp .neq 97 (.agg (List.toArray cs49)) (.agg (List.toArray cs52))) w46 = .ok (.bool q53) w46 ∧
 (bif q53 then
 (R (.returned (.bool false)) w46)
 else
 (∃ m54, m54 < m42 ∧ I41 m54 (IntKind.wrap .i64 (i44 + 1)) w46)))
 else
 (R (.returned (.bool true)) w43))))))))))
theorem e55 (a0 : Array Value) (b1 : Array Value) (w : World) (R : Ending → World → Prop) : denS Try.prog s55 (argsEnv 0 [(.agg a0), (.agg b1)]) w (endK r55 R) = d55 a0 b1 w R := by kernel_rfl
theorem c55 (a0 : Array Value) (b1 : Array Value) {w : World} {R : Ending → World → Prop} (h : d55 a0 b1 w R) : Calls Try.prog 55 #[(.agg a0), (.agg b1)] w R :=
  den55 [(.agg a0), (.agg b1)] w R (by simp) ((e55 a0 b1 w R).symm ▸ h)

/-- prelude/preludelaw25.MergeForged -/
def s3 : S := (.seq (.ops [⟨(some 3), (.box 24 (.tmp 0)), .ptr, none⟩,
  ⟨(some 6), (.mv (.const (.bool false))), .bool, none⟩] [3, 1, 2])
 (.seq (.seq (.ops [⟨(some 22), (.call 7 [] [.bool]), .bool, none⟩,
  ⟨(some 23), (.un .not (.tmp 22)), .bool, none⟩] [23, 3, 1, 2])
 (.cond (.tmp 23)
 (.seq (.ops [⟨(some 6), (.mv (.const (.bool false))), .bool, none⟩] [6])
 .ret)
 .skip))
 (.seq (.draw (.take 0 ⟨(some 24), (.ldN 3 (.tmp 3)), .agg, none⟩
  (.take 2 ⟨(some 26), (.ldN 3 (.tmp 3)), .agg, none⟩
  (.go 1 ⟨(some 25), (.call 8 [(.tmp 24)] [(.int .i64)]), (.int .i64), none⟩ [(2, ⟨(some 26), (.ldN 3 (.tmp 3)), .agg, none⟩)]
  (.go 3 ⟨(some 27), (.call 9 [(.tmp 26)] [(.int .i64)]), (.int .i64), none⟩ []
  (.take 4 ⟨(some 7), (.mv (.tmp 25)), (.int .i64), none⟩
  (.take 5 ⟨(some 8), (.mv (.tmp 27)), (.int .i64), none⟩
  .done)))))) [7, 3, 8, 1, 2])
 (.seq (.ops [⟨(some 29), (.mv (.tmp 7)), (.int .i64), none⟩,
  ⟨(some 30), (.ldN 3 (.tmp 3)), .agg, none⟩,
  ⟨(some 31), (.call 11 [(.tmp 30)] [(.int .i64)]), (.int .i64), none⟩,
  ⟨(some 32), (.call 10 [(.tmp 29), (.tmp 31)] [.ptr, (.int .i64)]), .any, none⟩,
  ⟨(some 28), (.mv (.tmp 32)), .any, none⟩,
  ⟨(some 33), (.ext 0 (.tmp 28)), .ptr, none⟩,
  ⟨(some 34), (.ext 1 (.tmp 28)), (.int .i64), none⟩,
  ⟨(some 9), (.mv (.tmp 33)), .ptr, none⟩,
  ⟨(some 10), (.mv (.tmp 34)), (.int .i64), none⟩] [10, 9, 8, 3, 1, 7, 2])
 (.join [] [1, 2, 3, 7, 8, 9]
 (.seq (.ops [⟨(some 35), (.mv (.tmp 10)), (.int .i64), none⟩,
  ⟨(some 36), (.bin .neq (.tmp 35) (.const (.int .i64 0))), .bool, none⟩,
  ⟨(some 37), (.mv (.tmp 36)), .bool, none⟩,
  ⟨(some 38), (.mv (.tmp 9)), .ptr, (some (37, false))⟩,
  ⟨(some 39), (.nilEq false 1 (.tmp 38)), .bool, (some (37, false))⟩,
  ⟨(some 40), (.pick (.tmp 37) (.const (.bool true)) (.tmp 39)), .bool, none⟩] [40, 8, 9, 3, 1, 7, 2])
 (.cond (.tmp 40)
 (.seq (.ops [⟨(some 6), (.mv (.const (.bool false))), .bool, none⟩] [6])
 .ret)
 .skip))
 (.seq (.seq (.ops [⟨(some 41), (.mv (.tmp 8)), (.int .i64), none⟩,
  ⟨(some 42), (.bin .eql (.tmp 41) (.const (.int .i64 0))), .bool, none⟩] [42, 9, 3, 1, 7, 8, 2])
 (.cond (.tmp 42)
 (.seq (.draw (.take 0 ⟨(some 43), (.mv (.tmp 9)), .ptr, none⟩
  (.take 2 ⟨(some 45), (.ldN 3 (.tmp 3)), .agg, none⟩
  (.go 1 ⟨(some 44), (.call 12 [(.tmp 43)] [(.int .i64)]), (.int .i64), none⟩ [(2, ⟨(some 45), (.ldN 3 (.tmp 3)), .agg, none⟩)]
  (.go 3 ⟨(some 46), (.call 11 [(.tmp 45)] [(.int .i64)]), (.int .i64), none⟩ []
  (.take 4 ⟨(some 47), (.bin .eql (.tmp 44) (.tmp 46)), .bool, none⟩
  (.take 5 ⟨(some 6), (.mv (.tmp 47)), .bool, none⟩
  .done)))))) [6])
 .ret)
 .skip))
 (.seq (.ops [⟨(some 48), (.mv (.tmp 1)), (.int .i64), none⟩,
  ⟨(some 49), (.cv .u64 (.tmp 48)), (.int .u64), none⟩,
  ⟨(some 50), (.mv (.tmp 7)), (.int .i64), none⟩,
  ⟨(some 51), (.mv (.tmp 8)), (.int .i64), none⟩,
  ⟨(some 52), (.bin .mul (.tmp 50) (.tmp 51)), (.int .i64), none⟩,
  ⟨(some 53), (.cv .u64 (.tmp 52)), (.int .u64), none⟩,
  ⟨(some 54), (.bin .rem (.tmp 49) (.tmp 53)), (.int .u64), none⟩,
  ⟨(some 55), (.cv .i64 (.tmp 54)), (.int .i64), none⟩,
  ⟨(some 11), (.mv (.tmp 55)), (.int .i64), none⟩] [3, 11, 7, 2, 9, 8])
 (.join [(12, .ptr)] [2, 3, 7, 8, 9]
 (.draw (.take 0 ⟨(some 56), (.ldN 3 (.tmp 3)), .agg, none⟩
  (.take 1 ⟨(some 57), (.mv (.tmp 11)), (.int .i64), none⟩
  (.take 2 ⟨(some 58), (.mv (.tmp 7)), (.int .i64), none⟩
  (.take 3 ⟨(some 59), (.bin .rem (.tmp 57) (.tmp 58)), (.int .i64), none⟩
  (.take 4 ⟨(some 60), (.mv (.tmp 11)), (.int .i64), none⟩
  (.take 5 ⟨(some 61), (.mv (.tmp 7)), (.int .i64), none⟩
  (.take 6 ⟨(some 62), (.bin .quo (.tmp 60) (.tmp 61)), (.int .i64), none⟩
  (.alt (.go 7 ⟨(some 63), (.call 13 [(.tmp 56), (.tmp 59), (.tmp 62)] [.agg]), .agg, none⟩ []
  (.go 8 ⟨(some 12), (.alloc 35), .ptr, none⟩ []
  (.go 9 ⟨none, (.stN 3 (.tmp 12) (.tmp 63)), .any, none⟩ []
  .done)))
 (.go 8 ⟨(some 12), (.alloc 35), .ptr, none⟩ [(0, ⟨(some 56), (.ldN 3 (.tmp 3)), .agg, none⟩)]
  (.go 7 ⟨(some 63), (.call 13 [(.tmp 56), (.tmp 59), (.tmp 62)] [.agg]), .agg, none⟩ []
  (.go 9 ⟨none, (.stN 3 (.tmp 12) (.tmp 63)), .any, none⟩ []
  .done))))))))))) [12, 2, 9, 7, 8, 3])
 (.seq (.ops [⟨(some 64), (.fa 0 (.tmp 12)), .ptr, none⟩,
  ⟨(some 65), (.ld1 (.tmp 64)), (.int .i64), none⟩,
  ⟨(some 66), (.fa 1 (.tmp 12)), .ptr, none⟩,
  ⟨(some 67), (.ld1 (.tmp 66)), (.int .i64), none⟩,
  ⟨(some 68), (.bld 35 (.fields [(0, 1), (1, 1), (2, 1)]) [(0, (.tmp 65)), (1, (.tmp 67))]), .agg, none⟩,
  ⟨(some 13), (.alloc 35), .ptr, none⟩,
  ⟨none, (.stN 3 (.tmp 13) (.tmp 68)), .any, none⟩] [2, 13, 9, 12, 7, 8, 3])
 (.join [] [3, 7, 8, 9, 12, 13]
 (.seq (.ops [⟨(some 14), (.mv (.const (.int .i64 0))), (.int .i64), none⟩] [14, 2, 13, 9, 12, 7, 8, 3])
 (.block 0
 (.loop [(14, (.int .i64))] [2, 3, 7, 8, 9, 12, 13]
 (.join [] [2, 3, 7, 8, 9, 12, 13, 14]
 (.seq (.ops [⟨(some 69), (.mv (.tmp 14)), (.int .i64), none⟩,
  ⟨(some 70), (.mv (.tmp 2)), .sl, none⟩,
  ⟨(some 71), (.len (.tmp 70)), (.int .i64), none⟩,
  ⟨(some 72), (.bin .lss (.tmp 69) (.tmp 71)), .bool, none⟩,
  ⟨(some 73), (.mv (.tmp 72)), .bool, none⟩,
  ⟨(some 74), (.mv (.tmp 14)), (.int .i64), (some (73, true))⟩,
  ⟨(some 75), (.bin .lss (.tmp 74) (.const (.int .i64 64))), .bool, (some (73, true))⟩,
  ⟨(some 76), (.pick (.tmp 73) (.tmp 75) (.const (.bool false))), .bool, none⟩] [76, 13, 2, 14, 9, 12, 7, 8, 3])
 (.cond (.tmp 76)
 .skip
 (.exit 0)))
 (.seq (.block 1
 (.draw (.take 0 ⟨(some 79), (.fa 2 (.tmp 13)), .ptr, none⟩
  (.take 1 ⟨(some 80), (.ld1 (.tmp 79)), .sl, none⟩
  (.take 2 ⟨(some 81), (.mv (.tmp 2)), .sl, none⟩
  (.take 3 ⟨(some 82), (.mv (.tmp 14)), (.int .i64), none⟩
  (.take 4 ⟨(some 83), (.ia 1 (.tmp 81) (.tmp 82)), .ptr, none⟩
  (.take 5 ⟨(some 84), (.ld1 (.tmp 83)), (.int .i64), none⟩
  (.go 6 ⟨(some 85), (.call 14 [(.tmp 84)] [.agg]), .agg, none⟩ [(1, ⟨(some 80), (.ld1 (.tmp 79)), .sl, none⟩)]
  (.go 7 ⟨(some 86), (.bldS 39 1 4 [(0, (.tmp 85))]), .sl, none⟩ [(1, ⟨(some 80), (.ld1 (.tmp 79)), .sl, none⟩)]
  (.go 8 ⟨(some 87), (.app #[33, 33] 33 (.tmp 80) (.tmp 86)), .sl, none⟩ []
  (.take 9 ⟨(some 88), (.fa 2 (.tmp 13)), .ptr, none⟩
  (.go 10 ⟨none, (.st1 (.tmp 88) (.tmp 87)), .any, none⟩ []
  .done))))))))))) [14, 2, 13, 9, 12, 7, 8, 3]))
 (.ops [⟨(some 77), (.mv (.tmp 14)), (.int .i64), none⟩,
  ⟨(some 78), (.bin .add (.tmp 77) (.const (.int .i64 1))), (.int .i64), none⟩,
  ⟨(some 14), (.mv (.tmp 78)), (.int .i64), none⟩] [14, 2, 13, 9, 12, 7, 8, 3]))))))
 (.seq (.draw (.take 0 ⟨(some 89), (.mv (.tmp 9)), .ptr, none⟩
  (.take 1 ⟨(some 90), (.ldN 3 (.tmp 12)), .agg, none⟩
  (.take 3 ⟨(some 92), (.mv (.tmp 9)), .ptr, none⟩
  (.take 4 ⟨(some 93), (.ldN 3 (.tmp 13)), .agg, none⟩
  (.take 6 ⟨(some 95), (.mv (.tmp 9)), .ptr, none⟩
  (.take 7 ⟨(some 96), (.ldN 3 (.tmp 12)), .agg, none⟩
  (.go 2 ⟨(some 91), (.call 15 [(.tmp 89), (.tmp 90)] [(.int .i64)]), (.int .i64), none⟩ [(7, ⟨(some 96), (.ldN 3 (.tmp 12)), .agg, none⟩), (4, ⟨(some 93), (.ldN 3 (.tmp 13)), .agg, none⟩)]
  (.go 5 ⟨(some 94), (.call 15 [(.tmp 92), (.tmp 93)] [(.int .i64)]), (.int .i64), none⟩ [(7, ⟨(some 96), (.ldN 3 (.tmp 12)), .agg, none⟩)]
  (.go 8 ⟨(some 97), (.call 15 [(.tmp 95), (.tmp 96)] [(.int .i64)]), (.int .i64), none⟩ []
  (.take 9 ⟨(some 15), (.mv (.tmp 91)), (.int .i64), none⟩
  (.take 10 ⟨(some 16), (.mv (.tmp 94)), (.int .i64), none⟩
  (.take 11 ⟨(some 17), (.mv (.tmp 97)), (.int .i64), none⟩
  .done)))))))))))) [12, 13, 15, 16, 17, 7, 8, 9, 3])
 (.seq (.ops [⟨(some 18), (.mv (.const (.int .i64 263))), (.int .i64), none⟩] [12, 13, 15, 16, 17, 7, 8, 9, 3, 18])
 (.join [(18, (.int .i64))] [3, 7, 8, 9, 13, 15, 16, 17]
 (.seq (.ops [⟨(some 98), (.ldN 3 (.tmp 12)), .agg, none⟩,
  ⟨(some 99), (.ldN 3 (.tmp 13)), .agg, none⟩,
  ⟨(some 100), (.call 16 [(.tmp 98), (.tmp 99)] [.bool]), .bool, none⟩] [100, 15, 16, 17, 7, 8, 9, 3, 13, 18])
 (.cond (.tmp 100)
 (.ops [⟨(some 18), (.mv (.const (.int .i64 0))), (.int .i64), none⟩] [15, 16, 18, 17, 7, 8, 9, 3, 13])
 .skip))
 (.join [] [3, 7, 8, 9, 13]
 (.seq (.ops [⟨(some 101), (.mv (.tmp 15)), (.int .i64), none⟩,
  ⟨(some 102), (.bin .neq (.tmp 101) (.const (.int .i64 0))), .bool, none⟩,
  ⟨(some 103), (.mv (.tmp 102)), .bool, none⟩,
  ⟨(some 104), (.mv (.tmp 16)), (.int .i64), (some (103, false))⟩,
  ⟨(some 105), (.mv (.tmp 18)), (.int .i64), (some (103, false))⟩,
  ⟨(some 106), (.bin .neq (.tmp 104) (.tmp 105)), .bool, (some (103, false))⟩,
  ⟨(some 107), (.pick (.tmp 103) (.const (.bool true)) (.tmp 106)), .bool, none⟩,
  ⟨(some 108), (.mv (.tmp 107)), .bool, none⟩,
  ⟨(some 109), (.mv (.tmp 17)), (.int .i64), (some (108, false))⟩,
  ⟨(some 110), (.bin .neq (.tmp 109) (.const (.int .i64 0))), .bool, (some (108, false))⟩,
  ⟨(some 111), (.pick (.tmp 108) (.const (.bool true)) (.tmp 110)), .bool, none⟩] [111, 7, 8, 9, 3, 13])
 (.cond (.tmp 111)
 (.seq (.ops [⟨(some 6), (.mv (.const (.bool false))), .bool, none⟩] [6])
 .ret)
 .skip))
 (.seq (.seq (.ops [⟨(some 19), (.mv (.const (.int .i64 0))), (.int .i64), none⟩] [19, 7, 8, 9, 3, 13])
 (.block 2
 (.loop [(19, (.int .i64))] [3, 7, 8, 9, 13]
 (.seq (.seq (.ops [⟨(some 112), (.mv (.tmp 19)), (.int .i64), none⟩,
  ⟨(some 113), (.mv (.tmp 7)), (.int .i64), none⟩,
  ⟨(some 114), (.mv (.tmp 8)), (.int .i64), none⟩,
  ⟨(some 115), (.bin .mul (.tmp 113) (.tmp 114)), (.int .i64), none⟩,
  ⟨(some 116), (.bin .lss (.tmp 112) (.tmp 115)), .bool, none⟩] [116, 9, 3, 19, 7, 8, 13])
 (.cond (.tmp 116)
 .skip
 (.exit 2)))
 (.seq (.block 3
 (.seq (.draw (.take 0 ⟨(some 119), (.mv (.tmp 9)), .ptr, none⟩
  (.take 1 ⟨(some 120), (.ldN 3 (.tmp 3)), .agg, none⟩
  (.take 2 ⟨(some 121), (.mv (.tmp 19)), (.int .i64), none⟩
  (.take 3 ⟨(some 122), (.mv (.tmp 7)), (.int .i64), none⟩
  (.take 4 ⟨(some 123), (.bin .rem (.tmp 121) (.tmp 122)), (.int .i64), none⟩
  (.take 5 ⟨(some 124), (.mv (.tmp 19)), (.int .i64), none⟩
  (.take 6 ⟨(some 125), (.mv (.tmp 7)), (.int .i64), none⟩
  (.take 7 ⟨(some 126), (.bin .quo (.tmp 124) (.tmp 125)), (.int .i64), none⟩
  (.go 8 ⟨(some 127), (.call 13 [(.tmp 120), (.tmp 123), (.tmp 126)] [.agg]), .agg, none⟩ []
  (.go 9 ⟨(some 128), (.call 15 [(.tmp 119), (.tmp 127)] [(.int .i64)]), (.int .i64), none⟩ []
  (.take 10 ⟨(some 129), (.bin .neq (.tmp 128) (.const (.int .i64 0))), .bool, none⟩
  .done))))))))))) [129, 19, 7, 8, 9, 3, 13])
 (.cond (.tmp 129)
 (.seq (.ops [⟨(some 6), (.mv (.const (.bool false))), .bool, none⟩] [6])
 .ret)
 .skip)))
 (.ops [⟨(some 117), (.mv (.tmp 19)), (.int .i64), none⟩,
  ⟨(some 118), (.bin .add (.tmp 117) (.const (.int .i64 1))), (.int .i64), none⟩,
  ⟨(some 19), (.mv (.tmp 118)), (.int .i64), none⟩] [19, 7, 8, 9, 3, 13]))))))
 (.seq (.ops [⟨(some 131), (.ldN 3 (.tmp 3)), .agg, none⟩,
  ⟨(some 132), (.mv (.tmp 9)), .ptr, none⟩,
  ⟨(some 133), (.call 17 [(.tmp 131), (.tmp 132), (.const (.int .i64 0)), (.const (.bool true))] [(.int .i64), .bool]), .any, none⟩,
  ⟨(some 130), (.mv (.tmp 133)), .any, none⟩,
  ⟨(some 134), (.ext 0 (.tmp 130)), (.int .i64), none⟩,
  ⟨(some 135), (.ext 1 (.tmp 130)), .bool, none⟩,
  ⟨(some 20), (.mv (.tmp 134)), (.int .i64), none⟩,
  ⟨(some 21), (.mv (.tmp 135)), .bool, none⟩] [21, 20, 8, 9, 13])
 (.seq (.ops [⟨(some 136), (.mv (.tmp 21)), .bool, none⟩,
  ⟨(some 137), (.mv (.tmp 136)), .bool, none⟩,
  ⟨(some 138), (.mv (.tmp 20)), (.int .i64), (some (137, true))⟩,
  ⟨(some 139), (.mv (.tmp 8)), (.int .i64), (some (137, true))⟩,
  ⟨(some 140), (.bin .eql (.tmp 138) (.tmp 139)), .bool, (some (137, true))⟩,
  ⟨(some 141), (.pick (.tmp 137) (.tmp 140) (.const (.bool false))), .bool, none⟩,
  ⟨(some 142), (.mv (.tmp 141)), .bool, none⟩,
  ⟨(some 143), (.mv (.tmp 9)), .ptr, (some (142, true))⟩,
  ⟨(some 144), (.ldN 3 (.tmp 13)), .agg, (some (142, true))⟩,
  ⟨(some 145), (.call 15 [(.tmp 143), (.tmp 144)] [(.int .i64)]), (.int .i64), (some (142, true))⟩,
  ⟨(some 146), (.bin .eql (.tmp 145) (.const (.int .i64 0))), .bool, (some (142, true))⟩,
  ⟨(some 147), (.pick (.tmp 142) (.tmp 146) (.const (.bool false))), .bool, none⟩,
  ⟨(some 6), (.mv (.tmp 147)), .bool, none⟩] [6])
 .ret)))))))))))))))))
def r3 : List Res := [.t 6]
theorem tr3 : trS Try.prog [] 148 (Try.f3.body.getD .skip) s3 = some s3 := by kernel_rfl
theorem den3 (args : List Value) (w : World) (R : Ending → World → Prop) (hn : args.length ≤ 148) (h : denS Try.prog s3 (argsEnv 0 args) w (endK r3 R)) : Calls Try.prog 3 args.toArray w R :=
  calls_of_den (pn := []) (fn := Try.f3) (c := Try.f3.body.getD .skip) Try.func3 (by kernel_rfl) (by rw [Try.ntmps3]; exact hn) (by rw [Try.ntmps3]; exact tr3) (by kernel_rfl) h
def d3 (h0 : Array Value) (at1 : Int) (other2 : Option Addr) (other2n : Nat) (other2c : Nat) (w : World) (R : Ending → World → Prop) : Prop :=
 ∀ w3 : World, w3 = World.alloc w (.cells h0 24) →
 Calls Try.prog 7 #[] w3 fun e4 w5 => ∃ x6 : Bool, e4 = .returned (.bool x6) ∧
 (bif (!x6) then
 (R (.returned (.bool false)) w5)
 else
 (∀ w7 : World, w7 = World.drew w5 →
 ∃ cs8 : List Value, List.length cs8 = 3 ∧ Cells w7 ⟨World.heap w |>.size, 0, none⟩ cs8 ∧
 ∃ cs9 : List Value, List.length cs9 = 3 ∧ Cells w7 ⟨World.heap w |>.size, 0, none⟩ cs9 ∧
 Calls Try.prog 8 #[(.agg (List.toArray cs8))] w7 fun e10 w11 => ∃ x12 : Int, e10 = .returned (.int .i64 x12) ∧
 (∃ cs13 : List Value, List.length cs13 = 3 ∧ Cells w11 ⟨World.heap w |>.size, 0, none⟩ cs13 ∧
 (((.agg (List.toArray cs13)) : Value) = (.agg (List.toArray cs9)) ∧ w11 = w11)) ∧
 Calls Try.prog 9 #[(.agg (List.toArray cs9))] w11 fun e14 w15 => ∃ x16 : Int, e14 = .returned (.int .i64 x16) ∧
 ∃ cs17 : List Value, List.length cs17 = 3 ∧ Cells w15 ⟨World.heap w |>.size, 0, none⟩ cs17 ∧
 Calls Try.prog 11 #[(.agg (List.toArray cs17))] w15 fun e18 w19 => ∃ x20 : Int, e18 = .returned (.int .i64 x20) ∧
 Calls Try.prog 10 #[(.int .i64 x12), (.int .i64 x20)] w19 fun e21 w22 => ∃ x23 : Option Addr, ∃ x24 : Int, e21 = .returned (.tuple #[(.pointer x23), (.int .i64 x24)]) ∧
 ∃ x25 : Option Addr, (#[(.pointer x23), (.int .i64 x24)] : Array Value)[0]? = some (.pointer x25) ∧
 ∃ x26 : Int, (#[(.pointer x23), (.int .i64 x24)] : Array Value)[1]? = some (.int .i64 x26) ∧
 ∃ J27 : World → Prop,
 ((bif (!decide (x26 = 0)) then
 (R (.returned (.bool false)) w22)
 else
 ((bif (Option.isNone x25) then
 (R (.returned (.bool false)) w22)
 else
 (J27  w22))))) ∧
 (∀ (w28 : World), J27  w28 →
 (bif (decide (x16 = 0)) then
 (∀ w29 : World, w29 = World.drew w28 →
 ∃ cs30 : List Value, List.length cs30 = 3 ∧ Cells w29 ⟨World.heap w |>.size, 0, none⟩ cs30 ∧
 Calls Try.prog 12 #[(.pointer x25)] w29 fun e31 w32 => ∃ x33 : Int, e31 = .returned (.int .i64 x33) ∧
 (∃ cs34 : List Value, List.length cs34 = 3 ∧ Cells w32 ⟨World.heap w |>.size, 0, none⟩ cs34 ∧
 (((.agg (List.toArray cs34)) : Value) = (.agg (List.toArray cs30)) ∧ w32 = w32)) ∧
 Calls Try.prog 11 #[(.agg (List.toArray cs30))] w32 fun e35 w36 => ∃ x37 : Int, e35 = .returned (.int .i64 x37) ∧
 R (.returned (.bool (decide (x33 = x37)))) w36)
 else
 ((IntKind.wrap .u64 (IntKind.wrap .i64 (x12 * x16))) ≠ 0 ∧ ∃ J38 : Option Addr → World → Prop,
 (∀ w39 : World, w39 = World.drew w28 →
 ∃ cs40 : List Value, List.length cs40 = 3 ∧ Cells w39 ⟨World.heap w |>.size, 0, none⟩ cs40 ∧
 x12 ≠ 0 ∧ x12 ≠ 0 ∧ (Calls Try.prog 13 #[(.agg (List.toArray cs40)), (.int .i64 (Int.tmod (IntKind.wrap .i64 (Int.tmod (IntKind.wrap .u64 at1) (IntKind.wrap .u64 (IntKind.wrap .i64 (x12 * x16))))) x12)), (.int .i64 (IntKind.wrap .i64 (Int.tdiv (IntKind.wrap .i64 (Int.tmod (IntKind.wrap .u64 at1) (IntKind.wrap .u64 (IntKind.wrap .i64 (x12 * x16))))) x12)))] w39 fun e41 w42 => ∃ x43 : Array Value, e41 = .returned (.agg x43) ∧
 ∀ w44 : World, w44 = World.alloc w42 (.cells (zc Try.prog 35).toArray 35) →
 Array.size x43 = 3 ∧ (∀ u ∈ Array.toList x43, one u = true) ∧ Room w44 ⟨World.heap w42 |>.size, 0, none⟩ 3 ∧
 ∀ w45 : World, w45 = setCells w44 ⟨World.heap w42 |>.size, 0, none⟩ (Array.toList x43) 0 →
 J38 (some ⟨World.heap w42 |>.size, 0, none⟩) w45) ∧
 (∀ w46 : World, w46 = World.alloc w39 (.cells (zc Try.prog 35).toArray 35) →
 (∃ cs47 : List Value, List.length cs47 = 3 ∧ Cells w46 ⟨World.heap w |>.size, 0, none⟩ cs47 ∧
 (((.agg (List.toArray cs47)) : Value) = (.agg (List.toArray cs40)) ∧ w46 = w46)) ∧
 Calls Try.prog 13 #[(.agg (List.toArray cs40)), (.int .i64 (Int.tmod (IntKind.wrap .i64 (Int.tmod (IntKind.wrap .u64 at1) (IntKind.wrap .u64 (IntKind.wrap .i64 (x12 * x16))))) x12)), (.int .i64 (IntKind.wrap .i64 (Int.tdiv (IntKind.wrap .i64 (Int.tmod (IntKind.wrap .u64 at1) (IntKind.wrap .u64 (IntKind.wrap .i64 (x12 * x16))))) x12)))] w46 fun e48 w49 => ∃ x50 : Array Value, e48 = .returned (.agg x50) ∧
 Array.size x50 = 3 ∧ (∀ u ∈ Array.toList x50, one u = true) ∧ Room w49 ⟨World.heap w39 |>.size, 0, none⟩ 3 ∧
 ∀ w51 : World, w51 = setCells w49 ⟨World.heap w39 |>.size, 0, none⟩ (Array.toList x50) 0 →
 J38 (some ⟨World.heap w39 |>.size, 0, none⟩) w51)) ∧
 (∀ (w52 : World) (p53 : Option Addr), J38 p53 w52 →
 optK p53 fun a54 =>
 ∃ x55 : Int, World.cell? w52 (Addr.add a54 0) = some (.int .i64 x55) ∧
 optK p53 fun a56 =>
 ∃ x57 : Int, World.cell? w52 (Addr.add a56 1) = some (.int .i64 x57) ∧
 ∃ cs58, fillL (.fields [(0, 1), (1, 1), (2, 1)]) (zc Try.prog 35) [(0, (.int .i64 x55)), (1, (.int .i64 x57))] = some cs58 ∧
 ∀ w59 : World, w59 = World.alloc w52 (.cells (zc Try.prog 35).toArray 35) →
 Array.size (List.toArray cs58) = 3 ∧ (∀ u ∈ Array.toList (List.toArray cs58), one u = true) ∧ Room w59 ⟨World.heap w52 |>.size, 0, none⟩ 3 ∧
 ∀ w60 : World, w60 = setCells w59 ⟨World.heap w52 |>.size, 0, none⟩ (Array.toList (List.toArray cs58)) 0 →
 ∃ J61 : World → Prop,
 (∃ I62 : Nat → Int → World → Prop,
 (∃ m, I62 m 0 w60) ∧
 (∀ (m63 : Nat) (w64 : World) (i65 : Int), I62 m63 i65 w64 →
 ∃ J66 : World → Prop,
 ((bif (decide (i65 < ((other2n : Nat) : Int))) then
 ((bif (decide (i65 < 64)) then
 (J66  w64)
 else
 (J61  w64)))
 else
 (J61  w64))) ∧
 (∀ (w67 : World), J66  w67 →
 ∀ w68 : World, w68 = World.drew w67 →
 ∃ (x69 : Option Addr) (x69n : Nat) (x69c : Nat), World.cell? w68 (Addr.add ⟨World.heap w52 |>.size, 0, none⟩ 2) = some (.slice x69 x69n x69c) ∧
 0 ≤ i65 ∧ i65 < ((other2n : Nat) : Int) ∧ optK other2 fun a70 =>
 ∃ x71 : Int, World.cell? w68 (Addr.add a70 (Int.toNat i65 * 1)) = some (.int .i64 x71) ∧
 Calls Try.prog 14 #[(.int .i64 x71)] w68 fun e72 w73 => ∃ x74 : Array Value, e72 = .returned (.agg x74) ∧
 (∃ (z75 : Option Addr) (z75n : Nat) (z75c : Nat), World.cell? w73 (Addr.add ⟨World.heap w52 |>.size, 0, none⟩ 2) = some (.slice z75 z75n z75c) ∧
 (((.slice z75 z75n z75c) : Value) = (.slice x69 x69n x69c) ∧ w73 = w73)) ∧
 ∃ cs76, fillL (.elems 4) (zrep (zc Try.prog 39) (1 * 4)) [(0, (.agg x74))] = some cs76 ∧
 ∀ w77 : World, w77 = World.alloc w73 (.cells (List.toArray cs76) 39) →
 (∃ (z78 : Option Addr) (z78n : Nat) (z78c : Nat), World.cell? w77 (Addr.add ⟨World.heap w52 |>.size, 0, none⟩ 2) = some (.slice z78 z78n z78c) ∧
 (((.slice z78 z78n z78c) : Value) = (.slice x69 x69n x69c) ∧ w77 = w77)) ∧
 RunV Try.prog (Builtin.append_ #[33, 33] 33 #[(.slice x69 x69n x69c), (.slice (some ⟨World.heap w73 |>.size, 0, none⟩) 1 1)]) w77 fun v79 w80 => ∃ (x81 : Option Addr) (x81n : Nat) (x81c : Nat), v79 = (.slice x81 x81n x81c) ∧
 one (.slice x81 x81n x81c) = true ∧ Option.isSome (World.cell? w80 (Addr.add ⟨World.heap w52 |>.size, 0, none⟩ 2)) = true ∧ World.frozen? w80 (Addr.add ⟨World.heap w52 |>.size, 0, none⟩ 2) = false ∧
 ∀ w82 : World, w82 = World.setCell w80 (Addr.add ⟨World.heap w52 |>.size, 0, none⟩ 2) (.slice x81 x81n x81c) →
 ∃ m83, m83 < m63 ∧ I62 m83 (IntKind.wrap .i64 (i65 + 1)) w82))) ∧
 (∀ (w84 : World), J61  w84 →
 ∀ w85 : World, w85 = World.drew w84 →
 optK p53 fun a86 =>
 ∃ cs87 : List Value, List.length cs87 = 3 ∧ Cells w85 a86 cs87 ∧
 ∃ cs88 : List Value, List.length cs88 = 3 ∧ Cells w85 ⟨World.heap w52 |>.size, 0, none⟩ cs88 ∧
 optK p53 fun a89 =>
 ∃ cs90 : List Value, List.length cs90 = 3 ∧ Cells w85 a89 cs90 ∧
 Calls Try.prog 15 #[(.pointer x25), (.agg (List.toArray cs87))] w85 fun e91 w92 => ∃ x93 : Int, e91 = .returned (.int .i64 x93) ∧
 (optK p53 fun a94 =>
 ∃ cs95 : List Value, List.length cs95 = 3 ∧ Cells w92 a94 cs95 ∧
 (((.agg (List.toArray cs95)) : Value) = (.agg (List.toArray cs90)) ∧ w92 = w92)) ∧
 (∃ cs96 : List Value, List.length cs96 = 3 ∧ Cells w92 ⟨World.heap w52 |>.size, 0, none⟩ cs96 ∧
 (((.agg (List.toArray cs96)) : Value) = (.agg (List.toArray cs88)) ∧ w92 = w92)) ∧
 Calls Try.prog 15 #[(.pointer x25), (.agg (List.toArray cs88))] w92 fun e97 w98 => ∃ x99 : Int, e97 = .returned (.int .i64 x99) ∧
 (optK p53 fun a100 =>
 ∃ cs101 : List Value, List.length cs101 = 3 ∧ Cells w98 a100 cs101 ∧
 (((.agg (List.toArray cs101)) : Value) = (.agg (List.toArray cs90)) ∧ w98 = w98)) ∧
 Calls Try.prog 15 #[(.pointer x25), (.agg (List.toArray cs90))] w98 fun e102 w103 => ∃ x104 : Int, e102 = .returned (.int .i64 x104) ∧
 ∃ J105 : Int → World → Prop,
 (optK p53 fun a106 =>
 ∃ cs107 : List Value, List.length cs107 = 3 ∧ Cells w103 a106 cs107 ∧
 ∃ cs108 : List Value, List.length cs108 = 3 ∧ Cells w103 ⟨World.heap w52 |>.size, 0, none⟩ cs108 ∧
 Calls Try.prog 16 #[(.agg (List.toArray cs107)), (.agg (List.toArray cs108))] w103 fun e109 w110 => ∃ x111 : Bool, e109 = .returned (.bool x111) ∧
 (bif x111 then
 (J105 0 w110)
 else
 (J105 263 w110))) ∧
 (∀ (w112 : World) (want113 : Int), J105 want113 w112 →
 ∃ J114 : World → Prop,
 ((bif (!decide (x93 = 0)) then
 (R (.returned (.bool false)) w112)
 else
 ((bif (!decide (x99 = want113)) then
 (R (.returned (.bool false)) w112)
 else
 ((bif (!decide (x104 = 0)) then
 (R (.returned (.bool false)) w112)
 else
 (J114  w112))))))) ∧
 (∀ (w115 : World), J114  w115 →
 ∃ I116 : Nat → Int → World → Prop,
 (∃ m, I116 m 0 w115) ∧
 (∀ (m117 : Nat) (w118 : World) (i119 : Int), I116 m117 i119 w118 →
 (bif (decide (i119 < (IntKind.wrap .i64 (x12 * x16)))) then
 (∀ w120 : World, w120 = World.drew w118 →
 ∃ cs121 : List Value, List.length cs121 = 3 ∧ Cells w120 ⟨World.heap w |>.size, 0, none⟩ cs121 ∧
 x12 ≠ 0 ∧ x12 ≠ 0 ∧ Calls Try.prog 13 #[(.agg (List.toArray cs121)), (.int .i64 (Int.tmod i119 x12)), (.int .i64 (IntKind.wrap .i64 (Int.tdiv i119 x12)))] w120 fun e122 w123 => ∃ x124 : Array Value, e122 = .returned (.agg x124) ∧
 Calls Try.prog 15 #[(.pointer x25), (.agg x124)] w123 fun e125 w126 => ∃ x127 : Int, e125 = .returned (.int .i64 x127) ∧
 (bif (!decide (x127 = 0)) then
 (R (.returned (.bool false)) w126)
 else
 (∃ m128, m128 < m117 ∧ I116 m128 (IntKind.wrap .i64 (i119 + 1)) w126)))
 else
 (∃ cs129 : List Value, List.length cs129 = 3 ∧ Cells w118 ⟨World.heap w |>.size, 0, none⟩ cs129 ∧
 Calls Try.prog 17 #[(.agg (List.toArray cs129)), (.pointer x25), (.int .i64 0), (.bool true)] w118 fun e130 w131 => ∃ x132 : Int, ∃ x133 : Bool, e130 = .returned (.tuple #[(.int .i64 x132), (.bool x133)]) ∧
 ∃ x134 : Int, (#[(.int .i64 x132), (.bool x133)] : Array Value)[0]? = some (.int .i64 x134) ∧
 ∃ x135 : Bool, (#[(.int .i64 x132), (.bool x133)] : Array Value)[1]? = some (.bool x135) ∧
 (bif x135 then
 ((bif (decide (x134 = x16)) then
 (∃ cs136 : List Value, List.length cs136 = 3 ∧ Cells w131 ⟨World.heap w52 |>.size, 0, none⟩ cs136 ∧
 Calls Try.prog 15 #[(.pointer x25), (.agg (List.toArray cs136))] w131 fun e137 w138 => ∃ x139 : Int, e137 = .returned (.int .i64 x139) ∧
 R (.returned (.bool (decide (x139 = 0)))) w138)
 else
 (R (.returned (.bool false)) w131)))
 else
 (R (.returned (.bool false)) w131))))))))))))))
theorem e3 (h0 : Array Value) (at1 : Int) (other2 : Option Addr) (other2n : Nat) (other2c : Nat) (w : World) (R : Ending → World → Prop) : denS Try.prog s3 (argsEnv 0 [(.agg h0), (.int .i64 at1), (.slice other2 other2n other2c)]) w (endK r3 R) = d3 h0 at1 other2 other2n other2c w R := by kernel_rfl
theorem c3 (h0 : Array Value) (at1 : Int) (other2 : Option Addr) (other2n : Nat) (other2c : Nat) {w : World} {R : Ending → World → Prop} (h : d3 h0 at1 other2 other2n other2c w R) : Calls Try.prog 3 #[(.agg h0), (.int .i64 at1), (.slice other2 other2n other2c)] w R :=
  den3 [(.agg h0), (.int .i64 at1), (.slice other2 other2n other2c)] w R (by simp) ((e3 h0 at1 other2 other2n other2c w R).symm ▸ h)

/-- prelude/preludelaw25.MergeOneLog -/
def s4 : S := (.seq (.ops [⟨(some 2), (.box 24 (.tmp 0)), .ptr, none⟩,
  ⟨(some 4), (.mv (.const (.bool false))), .bool, none⟩] [2, 1])
 (.seq (.seq (.ops [⟨(some 20), (.call 7 [] [.bool]), .bool, none⟩,
  ⟨(some 21), (.un .not (.tmp 20)), .bool, none⟩] [21, 2, 1])
 (.cond (.tmp 21)
 (.seq (.ops [⟨(some 4), (.mv (.const (.bool false))), .bool, none⟩] [4])
 .ret)
 .skip))
 (.seq (.draw (.take 0 ⟨(some 22), (.ldN 3 (.tmp 2)), .agg, none⟩
  (.take 2 ⟨(some 24), (.ldN 3 (.tmp 2)), .agg, none⟩
  (.take 4 ⟨(some 26), (.ldN 3 (.tmp 2)), .agg, none⟩
  (.go 1 ⟨(some 23), (.call 8 [(.tmp 22)] [(.int .i64)]), (.int .i64), none⟩ [(4, ⟨(some 26), (.ldN 3 (.tmp 2)), .agg, none⟩), (2, ⟨(some 24), (.ldN 3 (.tmp 2)), .agg, none⟩)]
  (.go 3 ⟨(some 25), (.call 11 [(.tmp 24)] [(.int .i64)]), (.int .i64), none⟩ [(4, ⟨(some 26), (.ldN 3 (.tmp 2)), .agg, none⟩)]
  (.go 5 ⟨(some 27), (.call 9 [(.tmp 26)] [(.int .i64)]), (.int .i64), none⟩ []
  (.take 6 ⟨(some 5), (.mv (.tmp 23)), (.int .i64), none⟩
  (.take 7 ⟨(some 6), (.mv (.tmp 25)), (.int .i64), none⟩
  (.take 8 ⟨(some 7), (.mv (.tmp 27)), (.int .i64), none⟩
  .done))))))))) [5, 6, 7, 1, 2])
 (.seq (.ops [⟨(some 29), (.mv (.tmp 5)), (.int .i64), none⟩,
  ⟨(some 30), (.mv (.tmp 6)), (.int .i64), none⟩,
  ⟨(some 31), (.call 10 [(.tmp 29), (.tmp 30)] [.ptr, (.int .i64)]), .any, none⟩,
  ⟨(some 28), (.mv (.tmp 31)), .any, none⟩,
  ⟨(some 32), (.ext 0 (.tmp 28)), .ptr, none⟩,
  ⟨(some 33), (.ext 1 (.tmp 28)), (.int .i64), none⟩,
  ⟨(some 8), (.mv (.tmp 32)), .ptr, none⟩,
  ⟨(some 9), (.mv (.tmp 33)), (.int .i64), none⟩] [9, 8, 5, 7, 1, 2, 6])
 (.join [] [1, 2, 5, 6, 7, 8]
 (.seq (.ops [⟨(some 34), (.mv (.tmp 9)), (.int .i64), none⟩,
  ⟨(some 35), (.bin .neq (.tmp 34) (.const (.int .i64 0))), .bool, none⟩,
  ⟨(some 36), (.mv (.tmp 35)), .bool, none⟩,
  ⟨(some 37), (.mv (.tmp 8)), .ptr, (some (36, false))⟩,
  ⟨(some 38), (.nilEq false 1 (.tmp 37)), .bool, (some (36, false))⟩,
  ⟨(some 39), (.pick (.tmp 36) (.const (.bool true)) (.tmp 38)), .bool, none⟩] [39, 5, 7, 1, 8, 2, 6])
 (.cond (.tmp 39)
 (.seq (.ops [⟨(some 4), (.mv (.const (.bool false))), .bool, none⟩] [4])
 .ret)
 .skip))
 (.seq (.ops [⟨(some 10), (.mv (.const (.int .i64 0))), (.int .i64), none⟩] [5, 7, 1, 8, 2, 10, 6])
 (.seq (.ops [⟨(some 40), (.mv (.tmp 5)), (.int .i64), none⟩,
  ⟨(some 41), (.mv (.tmp 7)), (.int .i64), none⟩,
  ⟨(some 42), (.bin .mul (.tmp 40) (.tmp 41)), (.int .i64), none⟩,
  ⟨(some 43), (.mk 47 (.tmp 42) (.tmp 42)), .sl, none⟩,
  ⟨(some 11), (.mv (.tmp 43)), .sl, none⟩] [1, 7, 5, 8, 2, 11, 10, 6])
 (.join [(10, (.int .i64))] [2, 5, 6, 7, 8, 11]
 (.seq (.ops [⟨(some 12), (.mv (.const (.int .i64 0))), (.int .i64), none⟩] [12, 1, 7, 5, 8, 2, 11, 10, 6])
 (.block 0
 (.loop [(10, (.int .i64)), (12, (.int .i64))] [1, 2, 5, 6, 7, 8, 11]
 (.join [] [1, 2, 5, 6, 7, 8, 10, 11, 12]
 (.seq (.ops [⟨(some 44), (.mv (.tmp 12)), (.int .i64), none⟩,
  ⟨(some 45), (.mv (.tmp 1)), .sl, none⟩,
  ⟨(some 46), (.len (.tmp 45)), (.int .i64), none⟩,
  ⟨(some 47), (.bin .lss (.tmp 44) (.tmp 46)), .bool, none⟩,
  ⟨(some 48), (.mv (.tmp 47)), .bool, none⟩,
  ⟨(some 49), (.mv (.tmp 7)), (.int .i64), (some (48, true))⟩,
  ⟨(some 50), (.bin .gtr (.tmp 49) (.const (.int .i64 0))), .bool, (some (48, true))⟩,
  ⟨(some 51), (.pick (.tmp 48) (.tmp 50) (.const (.bool false))), .bool, none⟩] [51, 1, 12, 5, 7, 8, 2, 11, 10, 6])
 (.cond (.tmp 51)
 .skip
 (.exit 0)))
 (.seq (.block 1
 (.seq (.ops [⟨(some 54), (.mv (.tmp 1)), .sl, none⟩,
  ⟨(some 55), (.mv (.tmp 12)), (.int .i64), none⟩,
  ⟨(some 56), (.ia 1 (.tmp 54) (.tmp 55)), .ptr, none⟩,
  ⟨(some 57), (.ld1 (.tmp 56)), (.int .i64), none⟩,
  ⟨(some 58), (.cv .u64 (.tmp 57)), (.int .u64), none⟩,
  ⟨(some 59), (.mv (.tmp 5)), (.int .i64), none⟩,
  ⟨(some 60), (.mv (.tmp 7)), (.int .i64), none⟩,
  ⟨(some 61), (.bin .mul (.tmp 59) (.tmp 60)), (.int .i64), none⟩,
  ⟨(some 62), (.cv .u64 (.tmp 61)), (.int .u64), none⟩,
  ⟨(some 63), (.bin .rem (.tmp 58) (.tmp 62)), (.int .u64), none⟩,
  ⟨(some 64), (.cv .i64 (.tmp 63)), (.int .i64), none⟩,
  ⟨(some 13), (.mv (.tmp 64)), (.int .i64), none⟩] [8, 2, 13, 5, 11, 10, 1, 12, 6, 7])
 (.seq (.seq (.draw (.take 0 ⟨(some 65), (.mv (.tmp 8)), .ptr, none⟩
  (.take 1 ⟨(some 66), (.ldN 3 (.tmp 2)), .agg, none⟩
  (.take 2 ⟨(some 67), (.mv (.tmp 13)), (.int .i64), none⟩
  (.take 3 ⟨(some 68), (.mv (.tmp 5)), (.int .i64), none⟩
  (.take 4 ⟨(some 69), (.bin .rem (.tmp 67) (.tmp 68)), (.int .i64), none⟩
  (.take 5 ⟨(some 70), (.mv (.tmp 13)), (.int .i64), none⟩
  (.take 6 ⟨(some 71), (.mv (.tmp 5)), (.int .i64), none⟩
  (.take 7 ⟨(some 72), (.bin .quo (.tmp 70) (.tmp 71)), (.int .i64), none⟩
  (.go 8 ⟨(some 73), (.call 13 [(.tmp 66), (.tmp 69), (.tmp 72)] [.agg]), .agg, none⟩ []
  (.go 9 ⟨(some 74), (.call 15 [(.tmp 65), (.tmp 73)] [(.int .i64)]), (.int .i64), none⟩ []
  (.take 10 ⟨(some 75), (.bin .neq (.tmp 74) (.const (.int .i64 0))), .bool, none⟩
  .done))))))))))) [75, 11, 13, 2, 8, 10, 1, 12, 6, 7, 5])
 (.cond (.tmp 75)
 (.seq (.ops [⟨(some 4), (.mv (.const (.bool false))), .bool, none⟩] [4])
 .ret)
 .skip))
 (.seq (.ops [⟨(some 76), (.mv (.tmp 11)), .sl, none⟩,
  ⟨(some 77), (.mv (.tmp 13)), (.int .i64), none⟩,
  ⟨(some 78), (.ia 1 (.tmp 76) (.tmp 77)), .ptr, none⟩,
  ⟨none, (.st1 (.tmp 78) (.const (.bool true))), .any, none⟩] [2, 8, 10, 1, 12, 6, 7, 5, 11])
 (.seq (.ops [⟨(some 14), (.mv (.const (.bool false))), .bool, none⟩] [2, 8, 10, 1, 12, 6, 7, 5, 11])
 (.seq (.draw (.take 0 ⟨(some 80), (.ldN 3 (.tmp 2)), .agg, none⟩
  (.take 1 ⟨(some 81), (.mv (.tmp 8)), .ptr, none⟩
  (.take 2 ⟨(some 82), (.mv (.tmp 10)), (.int .i64), none⟩
  (.take 3 ⟨(some 83), (.mv (.tmp 1)), .sl, none⟩
  (.take 4 ⟨(some 84), (.mv (.tmp 12)), (.int .i64), none⟩
  (.take 5 ⟨(some 85), (.ia 1 (.tmp 83) (.tmp 84)), .ptr, none⟩
  (.take 6 ⟨(some 86), (.ld1 (.tmp 85)), (.int .i64), none⟩
  (.take 7 ⟨(some 87), (.bin .and (.tmp 86) (.const (.int .i64 1))), (.int .i64), none⟩
  (.take 8 ⟨(some 88), (.bin .eql (.tmp 87) (.const (.int .i64 1))), .bool, none⟩
  (.go 9 ⟨(some 89), (.call 17 [(.tmp 80), (.tmp 81), (.tmp 82), (.tmp 88)] [(.int .i64), .bool]), .any, none⟩ []
  (.take 10 ⟨(some 79), (.mv (.tmp 89)), .any, none⟩
  (.take 11 ⟨(some 90), (.ext 0 (.tmp 79)), (.int .i64), none⟩
  (.take 12 ⟨(some 91), (.ext 1 (.tmp 79)), .bool, none⟩
  (.take 13 ⟨(some 10), (.mv (.tmp 90)), (.int .i64), none⟩
  (.take 14 ⟨(some 14), (.mv (.tmp 91)), .bool, none⟩
  .done))))))))))))))) [14, 8, 6, 10, 12, 1, 7, 5, 2, 11])
 (.seq (.ops [⟨(some 92), (.mv (.tmp 14)), .bool, none⟩,
  ⟨(some 93), (.un .not (.tmp 92)), .bool, none⟩,
  ⟨(some 94), (.mv (.tmp 93)), .bool, none⟩,
  ⟨(some 95), (.mv (.tmp 8)), .ptr, (some (94, false))⟩,
  ⟨(some 96), (.call 12 [(.tmp 95)] [(.int .i64)]), (.int .i64), (some (94, false))⟩,
  ⟨(some 97), (.mv (.tmp 6)), (.int .i64), (some (94, false))⟩,
  ⟨(some 98), (.mv (.tmp 10)), (.int .i64), (some (94, false))⟩,
  ⟨(some 99), (.bin .add (.tmp 97) (.tmp 98)), (.int .i64), (some (94, false))⟩,
  ⟨(some 100), (.bin .neq (.tmp 96) (.tmp 99)), .bool, (some (94, false))⟩,
  ⟨(some 101), (.pick (.tmp 94) (.const (.bool true)) (.tmp 100)), .bool, none⟩] [101, 12, 1, 7, 5, 8, 2, 11, 10, 6])
 (.cond (.tmp 101)
 (.seq (.ops [⟨(some 4), (.mv (.const (.bool false))), .bool, none⟩] [4])
 .ret)
 .skip))))))))
 (.ops [⟨(some 52), (.mv (.tmp 12)), (.int .i64), none⟩,
  ⟨(some 53), (.bin .add (.tmp 52) (.const (.int .i64 1))), (.int .i64), none⟩,
  ⟨(some 12), (.mv (.tmp 53)), (.int .i64), none⟩] [12, 1, 7, 5, 8, 2, 11, 10, 6]))))))
 (.seq (.ops [⟨(some 103), (.ldN 3 (.tmp 2)), .agg, none⟩,
  ⟨(some 104), (.mv (.tmp 8)), .ptr, none⟩,
  ⟨(some 105), (.mv (.tmp 10)), (.int .i64), none⟩,
  ⟨(some 106), (.call 17 [(.tmp 103), (.tmp 104), (.tmp 105), (.const (.bool true))] [(.int .i64), .bool]), .any, none⟩,
  ⟨(some 102), (.mv (.tmp 106)), .any, none⟩,
  ⟨(some 107), (.ext 0 (.tmp 102)), (.int .i64), none⟩,
  ⟨(some 108), (.ext 1 (.tmp 102)), .bool, none⟩,
  ⟨(some 10), (.mv (.tmp 107)), (.int .i64), none⟩,
  ⟨(some 15), (.mv (.tmp 108)), .bool, none⟩] [15, 7, 11, 5, 10, 8, 6, 2])
 (.seq (.seq (.ops [⟨(some 109), (.mv (.tmp 15)), .bool, none⟩,
  ⟨(some 110), (.un .not (.tmp 109)), .bool, none⟩] [110, 7, 11, 5, 10, 8, 6, 2])
 (.cond (.tmp 110)
 (.seq (.ops [⟨(some 4), (.mv (.const (.bool false))), .bool, none⟩] [4])
 .ret)
 .skip))
 (.seq (.ops [⟨(some 16), (.mv (.const (.int .i64 0))), (.int .i64), none⟩] [16, 7, 11, 5, 10, 8, 6, 2])
 (.join [(16, (.int .i64))] [2, 6, 7, 8, 10]
 (.block 2
 (.loop [(16, (.int .i64))] [2, 5, 6, 7, 8, 10, 11]
 (.seq (.seq (.ops [⟨(some 111), (.mv (.tmp 16)), (.int .i64), none⟩,
  ⟨(some 112), (.mv (.tmp 7)), (.int .i64), none⟩,
  ⟨(some 113), (.bin .lss (.tmp 111) (.tmp 112)), .bool, none⟩,
  ⟨(some 114), (.mv (.tmp 113)), .bool, none⟩,
  ⟨(some 115), (.mv (.tmp 11)), .sl, (some (114, true))⟩,
  ⟨(some 116), (.mv (.tmp 16)), (.int .i64), (some (114, true))⟩,
  ⟨(some 117), (.mv (.tmp 5)), (.int .i64), (some (114, true))⟩,
  ⟨(some 118), (.bin .mul (.tmp 116) (.tmp 117)), (.int .i64), (some (114, true))⟩,
  ⟨(some 119), (.mv (.tmp 16)), (.int .i64), (some (114, true))⟩,
  ⟨(some 120), (.bin .add (.tmp 119) (.const (.int .i64 1))), (.int .i64), (some (114, true))⟩,
  ⟨(some 121), (.mv (.tmp 5)), (.int .i64), (some (114, true))⟩,
  ⟨(some 122), (.bin .mul (.tmp 120) (.tmp 121)), (.int .i64), (some (114, true))⟩,
  ⟨(some 123), (.slS 1 (.tmp 115) (some (.tmp 118)) (some (.tmp 122)) none), .sl, (some (114, true))⟩,
  ⟨(some 124), (.call 18 [(.tmp 123)] [.bool]), .bool, (some (114, true))⟩,
  ⟨(some 125), (.pick (.tmp 114) (.tmp 124) (.const (.bool false))), .bool, none⟩] [125, 16, 7, 11, 5, 10, 8, 6, 2])
 (.cond (.tmp 125)
 .skip
 (.exit 2)))
 (.block 3
 (.ops [⟨(some 126), (.mv (.tmp 16)), (.int .i64), none⟩,
  ⟨(some 127), (.bin .add (.tmp 126) (.const (.int .i64 1))), (.int .i64), none⟩,
  ⟨(some 16), (.mv (.tmp 127)), (.int .i64), none⟩] [16, 7, 11, 5, 10, 8, 6, 2])))))
 (.seq (.seq (.ops [⟨(some 128), (.mv (.tmp 10)), (.int .i64), none⟩,
  ⟨(some 129), (.mv (.tmp 16)), (.int .i64), none⟩,
  ⟨(some 130), (.bin .neq (.tmp 128) (.tmp 129)), .bool, none⟩] [130, 10, 7, 8, 6, 2])
 (.cond (.tmp 130)
 (.seq (.ops [⟨(some 4), (.mv (.const (.bool false))), .bool, none⟩] [4])
 .ret)
 .skip))
 (.seq (.seq (.ops [⟨(some 17), (.mv (.const (.int .i64 0))), (.int .i64), none⟩] [10, 7, 8, 17, 6, 2])
 (.block 4
 (.loop [(10, (.int .i64)), (17, (.int .i64))] [2, 6, 7, 8]
 (.seq (.seq (.ops [⟨(some 131), (.mv (.tmp 10)), (.int .i64), none⟩,
  ⟨(some 132), (.mv (.tmp 7)), (.int .i64), none⟩,
  ⟨(some 133), (.bin .lss (.tmp 131) (.tmp 132)), .bool, none⟩] [133, 8, 17, 7, 6, 2, 10])
 (.cond (.tmp 133)
 .skip
 (.exit 4)))
 (.seq (.block 5
 (.seq (.ops [⟨(some 136), (.mv (.tmp 8)), .ptr, none⟩,
  ⟨(some 137), (.call 19 [(.tmp 136), (.const (.int .i64 1048576))] [.sl]), .sl, none⟩,
  ⟨(some 18), (.mv (.tmp 137)), .sl, none⟩] [17, 7, 18, 8, 6, 2, 10])
 (.join [] [2, 6, 7, 8, 10, 17, 18]
 (.seq (.ops [⟨(some 138), (.mv (.tmp 17)), (.int .i64), none⟩,
  ⟨(some 139), (.mv (.tmp 7)), (.int .i64), none⟩,
  ⟨(some 140), (.bin .mul (.const (.int .i64 2)) (.tmp 139)), (.int .i64), none⟩,
  ⟨(some 141), (.bin .gtr (.tmp 138) (.tmp 140)), .bool, none⟩,
  ⟨(some 142), (.mv (.tmp 141)), .bool, none⟩,
  ⟨(some 143), (.mv (.tmp 18)), .sl, (some (142, false))⟩,
  ⟨(some 144), (.len (.tmp 143)), (.int .i64), (some (142, false))⟩,
  ⟨(some 145), (.bin .eql (.tmp 144) (.const (.int .i64 0))), .bool, (some (142, false))⟩,
  ⟨(some 146), (.pick (.tmp 142) (.const (.bool true)) (.tmp 145)), .bool, none⟩] [146, 18, 8, 6, 7, 2, 10, 17])
 (.cond (.tmp 146)
 (.seq (.ops [⟨(some 4), (.mv (.const (.bool false))), .bool, none⟩] [4])
 .ret)
 .skip))
 (.seq (.seq (.ops [⟨(some 19), (.mv (.const (.int .i64 0))), (.int .i64), none⟩] [19, 18, 8, 6, 7, 2, 10, 17])
 (.block 6
 (.loop [(19, (.int .i64))] [2, 6, 7, 8, 10, 17, 18]
 (.seq (.seq (.ops [⟨(some 147), (.mv (.tmp 19)), (.int .i64), none⟩,
  ⟨(some 148), (.mv (.tmp 18)), .sl, none⟩,
  ⟨(some 149), (.len (.tmp 148)), (.int .i64), none⟩,
  ⟨(some 150), (.bin .lss (.tmp 147) (.tmp 149)), .bool, none⟩] [150, 8, 18, 19, 6, 7, 2, 10, 17])
 (.cond (.tmp 150)
 .skip
 (.exit 6)))
 (.seq (.block 7
 (.seq (.draw (.take 0 ⟨(some 153), (.mv (.tmp 8)), .ptr, none⟩
  (.take 1 ⟨(some 154), (.mv (.tmp 18)), .sl, none⟩
  (.take 2 ⟨(some 155), (.mv (.tmp 19)), (.int .i64), none⟩
  (.take 3 ⟨(some 156), (.ia 2 (.tmp 154) (.tmp 155)), .ptr, none⟩
  (.take 4 ⟨(some 157), (.ldN 2 (.tmp 156)), .agg, none⟩
  (.go 5 ⟨(some 158), (.call 20 [(.tmp 153), (.tmp 157)] [.bool]), .bool, none⟩ []
  (.take 6 ⟨(some 159), (.mv (.tmp 158)), .bool, none⟩
  (.take 7 ⟨(some 160), (.mv (.tmp 18)), .sl, (some (159, false))⟩
  (.take 8 ⟨(some 161), (.mv (.tmp 19)), (.int .i64), (some (159, false))⟩
  (.take 9 ⟨(some 162), (.ia 2 (.tmp 160) (.tmp 161)), .ptr, (some (159, false))⟩
  (.take 10 ⟨(some 163), (.fa 1 (.tmp 162)), .ptr, (some (159, false))⟩
  (.take 11 ⟨(some 164), (.ld1 (.tmp 163)), (.int .i64), (some (159, false))⟩
  (.take 12 ⟨(some 165), (.mv (.tmp 6)), (.int .i64), (some (159, false))⟩
  (.take 13 ⟨(some 166), (.bin .lss (.tmp 164) (.tmp 165)), .bool, (some (159, false))⟩
  (.take 14 ⟨(some 167), (.pick (.tmp 159) (.const (.bool true)) (.tmp 166)), .bool, none⟩
  (.take 15 ⟨(some 168), (.mv (.tmp 167)), .bool, none⟩
  (.take 16 ⟨(some 169), (.mv (.tmp 18)), .sl, (some (168, false))⟩
  (.take 17 ⟨(some 170), (.mv (.tmp 19)), (.int .i64), (some (168, false))⟩
  (.take 18 ⟨(some 171), (.ia 2 (.tmp 169) (.tmp 170)), .ptr, (some (168, false))⟩
  (.take 19 ⟨(some 172), (.fa 1 (.tmp 171)), .ptr, (some (168, false))⟩
  (.take 20 ⟨(some 173), (.ld1 (.tmp 172)), (.int .i64), (some (168, false))⟩
  (.take 21 ⟨(some 174), (.mv (.tmp 6)), (.int .i64), (some (168, false))⟩
  (.take 22 ⟨(some 175), (.bin .sub (.tmp 173) (.tmp 174)), (.int .i64), (some (168, false))⟩
  (.take 23 ⟨(some 176), (.mv (.tmp 7)), (.int .i64), (some (168, false))⟩
  (.take 24 ⟨(some 177), (.bin .geq (.tmp 175) (.tmp 176)), .bool, (some (168, false))⟩
  (.take 25 ⟨(some 178), (.pick (.tmp 168) (.const (.bool true)) (.tmp 177)), .bool, none⟩
  (.take 26 ⟨(some 179), (.mv (.tmp 178)), .bool, none⟩
  (.take 27 ⟨(some 180), (.mv (.tmp 8)), .ptr, (some (179, false))⟩
  (.take 28 ⟨(some 181), (.ldN 3 (.tmp 2)), .agg, (some (179, false))⟩
  (.take 29 ⟨(some 182), (.mv (.tmp 18)), .sl, (some (179, false))⟩
  (.take 30 ⟨(some 183), (.mv (.tmp 19)), (.int .i64), (some (179, false))⟩
  (.take 31 ⟨(some 184), (.ia 2 (.tmp 182) (.tmp 183)), .ptr, (some (179, false))⟩
  (.take 32 ⟨(some 185), (.fa 0 (.tmp 184)), .ptr, (some (179, false))⟩
  (.take 33 ⟨(some 186), (.ld1 (.tmp 185)), (.int .i64), (some (179, false))⟩
  (.take 34 ⟨(some 187), (.mv (.tmp 18)), .sl, (some (179, false))⟩
  (.take 35 ⟨(some 188), (.mv (.tmp 19)), (.int .i64), (some (179, false))⟩
  (.take 36 ⟨(some 189), (.ia 2 (.tmp 187) (.tmp 188)), .ptr, (some (179, false))⟩
  (.take 37 ⟨(some 190), (.fa 1 (.tmp 189)), .ptr, (some (179, false))⟩
  (.take 38 ⟨(some 191), (.ld1 (.tmp 190)), (.int .i64), (some (179, false))⟩
  (.take 39 ⟨(some 192), (.mv (.tmp 6)), (.int .i64), (some (179, false))⟩
  (.take 40 ⟨(some 193), (.bin .sub (.tmp 191) (.tmp 192)), (.int .i64), (some (179, false))⟩
  (.go 41 ⟨(some 194), (.call 13 [(.tmp 181), (.tmp 186), (.tmp 193)] [.agg]), .agg, (some (179, false))⟩ []
  (.go 42 ⟨(some 195), (.call 15 [(.tmp 180), (.tmp 194)] [(.int .i64)]), (.int .i64), (some (179, false))⟩ []
  (.take 43 ⟨(some 196), (.bin .neq (.tmp 195) (.const (.int .i64 0))), .bool, (some (179, false))⟩
  (.take 44 ⟨(some 197), (.pick (.tmp 179) (.const (.bool true)) (.tmp 196)), .bool, none⟩
  (.take 45 ⟨(some 198), (.mv (.tmp 197)), .bool, none⟩
  (.take 46 ⟨(some 199), (.mv (.tmp 8)), .ptr, (some (198, false))⟩
  (.take 47 ⟨(some 200), (.mv (.tmp 18)), .sl, (some (198, false))⟩
  (.take 48 ⟨(some 201), (.mv (.tmp 19)), (.int .i64), (some (198, false))⟩
  (.take 49 ⟨(some 202), (.ia 2 (.tmp 200) (.tmp 201)), .ptr, (some (198, false))⟩
  (.take 50 ⟨(some 203), (.ldN 2 (.tmp 202)), .agg, (some (198, false))⟩
  (.go 51 ⟨(some 204), (.call 20 [(.tmp 199), (.tmp 203)] [.bool]), .bool, (some (198, false))⟩ []
  (.take 52 ⟨(some 205), (.un .not (.tmp 204)), .bool, (some (198, false))⟩
  (.take 53 ⟨(some 206), (.pick (.tmp 198) (.const (.bool true)) (.tmp 205)), .bool, none⟩
  .done)))))))))))))))))))))))))))))))))))))))))))))))))))))) [206, 19, 18, 8, 6, 7, 2, 10, 17])
 (.cond (.tmp 206)
 (.seq (.ops [⟨(some 4), (.mv (.const (.bool false))), .bool, none⟩] [4])
 .ret)
 .skip)))
 (.ops [⟨(some 151), (.mv (.tmp 19)), (.int .i64), none⟩,
  ⟨(some 152), (.bin .add (.tmp 151) (.const (.int .i64 1))), (.int .i64), none⟩,
  ⟨(some 19), (.mv (.tmp 152)), (.int .i64), none⟩] [19, 18, 8, 6, 7, 2, 10, 17]))))))
 (.seq (.ops [⟨(some 208), (.ldN 3 (.tmp 2)), .agg, none⟩,
  ⟨(some 209), (.mv (.tmp 8)), .ptr, none⟩,
  ⟨(some 210), (.mv (.tmp 10)), (.int .i64), none⟩,
  ⟨(some 211), (.call 17 [(.tmp 208), (.tmp 209), (.tmp 210), (.const (.bool true))] [(.int .i64), .bool]), .any, none⟩,
  ⟨(some 207), (.mv (.tmp 211)), .any, none⟩,
  ⟨(some 212), (.ext 0 (.tmp 207)), (.int .i64), none⟩,
  ⟨(some 213), (.ext 1 (.tmp 207)), .bool, none⟩,
  ⟨(some 10), (.mv (.tmp 212)), (.int .i64), none⟩,
  ⟨(some 15), (.mv (.tmp 213)), .bool, none⟩] [15, 17, 10, 7, 8, 6, 2])
 (.seq (.ops [⟨(some 214), (.mv (.tmp 15)), .bool, none⟩,
  ⟨(some 215), (.un .not (.tmp 214)), .bool, none⟩] [215, 17, 10, 7, 8, 6, 2])
 (.cond (.tmp 215)
 (.seq (.ops [⟨(some 4), (.mv (.const (.bool false))), .bool, none⟩] [4])
 .ret)
 .skip)))))))
 (.ops [⟨(some 134), (.mv (.tmp 17)), (.int .i64), none⟩,
  ⟨(some 135), (.bin .add (.tmp 134) (.const (.int .i64 1))), (.int .i64), none⟩,
  ⟨(some 17), (.mv (.tmp 135)), (.int .i64), none⟩] [10, 7, 8, 17, 6, 2]))))))
 (.seq (.ops [⟨(some 216), (.mv (.tmp 8)), .ptr, none⟩,
  ⟨(some 217), (.call 12 [(.tmp 216)] [(.int .i64)]), (.int .i64), none⟩,
  ⟨(some 218), (.mv (.tmp 6)), (.int .i64), none⟩,
  ⟨(some 219), (.mv (.tmp 7)), (.int .i64), none⟩,
  ⟨(some 220), (.bin .add (.tmp 218) (.tmp 219)), (.int .i64), none⟩,
  ⟨(some 221), (.bin .eql (.tmp 217) (.tmp 220)), .bool, none⟩,
  ⟨(some 4), (.mv (.tmp 221)), .bool, none⟩] [4])
 .ret)))))))))))))))
def r4 : List Res := [.t 4]
theorem tr4 : trS Try.prog [] 222 (Try.f4.body.getD .skip) s4 = some s4 := by kernel_rfl
theorem den4 (args : List Value) (w : World) (R : Ending → World → Prop) (hn : args.length ≤ 222) (h : denS Try.prog s4 (argsEnv 0 args) w (endK r4 R)) : Calls Try.prog 4 args.toArray w R :=
  calls_of_den (pn := []) (fn := Try.f4) (c := Try.f4.body.getD .skip) Try.func4 (by kernel_rfl) (by rw [Try.ntmps4]; exact hn) (by rw [Try.ntmps4]; exact tr4) (by kernel_rfl) h
def d4 (h0 : Array Value) (order1 : Option Addr) (order1n : Nat) (order1c : Nat) (w : World) (R : Ending → World → Prop) : Prop :=
 ∀ w2 : World, w2 = World.alloc w (.cells h0 24) →
 Calls Try.prog 7 #[] w2 fun e3 w4 => ∃ x5 : Bool, e3 = .returned (.bool x5) ∧
 (bif (!x5) then
 (R (.returned (.bool false)) w4)
 else
 (∀ w6 : World, w6 = World.drew w4 →
 ∃ cs7 : List Value, List.length cs7 = 3 ∧ Cells w6 ⟨World.heap w |>.size, 0, none⟩ cs7 ∧
 ∃ cs8 : List Value, List.length cs8 = 3 ∧ Cells w6 ⟨World.heap w |>.size, 0, none⟩ cs8 ∧
 ∃ cs9 : List Value, List.length cs9 = 3 ∧ Cells w6 ⟨World.heap w |>.size, 0, none⟩ cs9 ∧
 Calls Try.prog 8 #[(.agg (List.toArray cs7))] w6 fun e10 w11 => ∃ x12 : Int, e10 = .returned (.int .i64 x12) ∧
 (∃ cs13 : List Value, List.length cs13 = 3 ∧ Cells w11 ⟨World.heap w |>.size, 0, none⟩ cs13 ∧
 (((.agg (List.toArray cs13)) : Value) = (.agg (List.toArray cs9)) ∧ w11 = w11)) ∧
 (∃ cs14 : List Value, List.length cs14 = 3 ∧ Cells w11 ⟨World.heap w |>.size, 0, none⟩ cs14 ∧
 (((.agg (List.toArray cs14)) : Value) = (.agg (List.toArray cs8)) ∧ w11 = w11)) ∧
 Calls Try.prog 11 #[(.agg (List.toArray cs8))] w11 fun e15 w16 => ∃ x17 : Int, e15 = .returned (.int .i64 x17) ∧
 (∃ cs18 : List Value, List.length cs18 = 3 ∧ Cells w16 ⟨World.heap w |>.size, 0, none⟩ cs18 ∧
 (((.agg (List.toArray cs18)) : Value) = (.agg (List.toArray cs9)) ∧ w16 = w16)) ∧
 Calls Try.prog 9 #[(.agg (List.toArray cs9))] w16 fun e19 w20 => ∃ x21 : Int, e19 = .returned (.int .i64 x21) ∧
 Calls Try.prog 10 #[(.int .i64 x12), (.int .i64 x17)] w20 fun e22 w23 => ∃ x24 : Option Addr, ∃ x25 : Int, e22 = .returned (.tuple #[(.pointer x24), (.int .i64 x25)]) ∧
 ∃ x26 : Option Addr, (#[(.pointer x24), (.int .i64 x25)] : Array Value)[0]? = some (.pointer x26) ∧
 ∃ x27 : Int, (#[(.pointer x24), (.int .i64 x25)] : Array Value)[1]? = some (.int .i64 x27) ∧
 ∃ J28 : World → Prop,
 ((bif (!decide (x27 = 0)) then
 (R (.returned (.bool false)) w23)
 else
 ((bif (Option.isNone x26) then
 (R (.returned (.bool false)) w23)
 else
 (J28  w23))))) ∧
 (∀ (w29 : World), J28  w29 →
 RunV Try.prog (Instr.makeSlice 47 (.int .i64 (IntKind.wrap .i64 (x12 * x21))) (.int .i64 (IntKind.wrap .i64 (x12 * x21)))) w29 fun v30 w31 => ∃ (x32 : Option Addr) (x32n : Nat) (x32c : Nat), v30 = (.slice x32 x32n x32c) ∧
 ∃ J33 : Int → World → Prop,
 (∃ I34 : Nat → Int → Int → World → Prop,
 (∃ m, I34 m 0 0 w31) ∧
 (∀ (m35 : Nat) (w36 : World) (given37 : Int) (i38 : Int), I34 m35 given37 i38 w36 →
 ∃ J39 : World → Prop,
 ((bif (decide (i38 < ((order1n : Nat) : Int))) then
 ((bif (decide (0 < x21)) then
 (J39  w36)
 else
 (J33 given37 w36)))
 else
 (J33 given37 w36))) ∧
 (∀ (w40 : World), J39  w40 →
 0 ≤ i38 ∧ i38 < ((order1n : Nat) : Int) ∧ optK order1 fun a41 =>
 ∃ x42 : Int, World.cell? w40 (Addr.add a41 (Int.toNat i38 * 1)) = some (.int .i64 x42) ∧
 (IntKind.wrap .u64 (IntKind.wrap .i64 (x12 * x21))) ≠ 0 ∧ ∀ w43 : World, w43 = World.drew w40 →
 ∃ cs44 : List Value, List.length cs44 = 3 ∧ Cells w43 ⟨World.heap w |>.size, 0, none⟩ cs44 ∧
 x12 ≠ 0 ∧ x12 ≠ 0 ∧ Calls Try.prog 13 #[(.agg (List.toArray cs44)), (.int .i64 (Int.tmod (IntKind.wrap .i64 (Int.tmod (IntKind.wrap .u64 x42) (IntKind.wrap .u64 (IntKind.wrap .i64 (x12 * x21))))) x12)), (.int .i64 (IntKind.wrap .i64 (Int.tdiv (IntKind.wrap .i64 (Int.tmod (IntKind.wrap .u64 x42) (IntKind.wrap .u64 (IntKind.wrap .i64 (x12 * x21))))) x12)))] w43 fun e45 w46 => ∃ x47 : Array Value, e45 = .returned (.agg x47) ∧
 Calls Try.prog 15 #[(.pointer x26), (.agg x47)] w46 fun e48 w49 => ∃ x50 : Int, e48 = .returned (.int .i64 x50) ∧
 (bif (!decide (x50 = 0)) then
 (R (.returned (.bool false)) w49)
 else
 (0 ≤ (IntKind.wrap .i64 (Int.tmod (IntKind.wrap .u64 x42) (IntKind.wrap .u64 (IntKind.wrap .i64 (x12 * x21))))) ∧ (IntKind.wrap .i64 (Int.tmod (IntKind.wrap .u64 x42) (IntKind.wrap .u64 (IntKind.wrap .i64 (x12 * x21))))) < ((x32n : Nat) : Int) ∧ optK x32 fun a51 =>
 one (.bool true) = true ∧ Option.isSome (World.cell? w49 (Addr.add a51 (Int.toNat (IntKind.wrap .i64 (Int.tmod (IntKind.wrap .u64 x42) (IntKind.wrap .u64 (IntKind.wrap .i64 (x12 * x21))))) * 1))) = true ∧ World.frozen? w49 (Addr.add a51 (Int.toNat (IntKind.wrap .i64 (Int.tmod (IntKind.wrap .u64 x42) (IntKind.wrap .u64 (IntKind.wrap .i64 (x12 * x21))))) * 1)) = false ∧
 ∀ w52 : World, w52 = World.setCell w49 (Addr.add a51 (Int.toNat (IntKind.wrap .i64 (Int.tmod (IntKind.wrap .u64 x42) (IntKind.wrap .u64 (IntKind.wrap .i64 (x12 * x21))))) * 1)) (.bool true) →
 ∀ w53 : World, w53 = World.drew w52 →
 ∃ cs54 : List Value, List.length cs54 = 3 ∧ Cells w53 ⟨World.heap w |>.size, 0, none⟩ cs54 ∧
 0 ≤ i38 ∧ i38 < ((order1n : Nat) : Int) ∧ optK order1 fun a55 =>
 ∃ x56 : Int, World.cell? w53 (Addr.add a55 (Int.toNat i38 * 1)) = some (.int .i64 x56) ∧
 Calls Try.prog 17 #[(.agg (List.toArray cs54)), (.pointer x26), (.int .i64 given37), (.bool (decide ((bAnd .i64 x56 1) = 1)))] w53 fun e57 w58 => ∃ x59 : Int, ∃ x60 : Bool, e57 = .returned (.tuple #[(.int .i64 x59), (.bool x60)]) ∧
 ∃ x61 : Int, (#[(.int .i64 x59), (.bool x60)] : Array Value)[0]? = some (.int .i64 x61) ∧
 ∃ x62 : Bool, (#[(.int .i64 x59), (.bool x60)] : Array Value)[1]? = some (.bool x62) ∧
 (bif (!x62) then
 (R (.returned (.bool false)) w58)
 else
 (Calls Try.prog 12 #[(.pointer x26)] w58 fun e63 w64 => ∃ x65 : Int, e63 = .returned (.int .i64 x65) ∧
 (bif (!decide (x65 = (IntKind.wrap .i64 (x17 + x61)))) then
 (R (.returned (.bool false)) w64)
 else
 (∃ m66, m66 < m35 ∧ I34 m66 x61 (IntKind.wrap .i64 (i38 + 1)) w64))))))))) ∧
 (∀ (w67 : World) (given68 : Int), J33 given68 w67 →
 ∃ cs69 : List Value, List.length cs69 = 3 ∧ Cells w67 ⟨World.heap w |>.size, 0, none⟩ cs69 ∧
 Calls Try.prog 17 #[(.agg (List.toArray cs69)), (.pointer x26), (.int .i64 given68), (.bool true)] w67 fun e70 w71 => ∃ x72 : Int, ∃ x73 : Bool, e70 = .returned (.tuple #[(.int .i64 x72), (.bool x73)]) ∧
 ∃ x74 : Int, (#[(.int .i64 x72), (.bool x73)] : Array Value)[0]? = some (.int .i64 x74) ∧
 ∃ x75 : Bool, (#[(.int .i64 x72), (.bool x73)] : Array Value)[1]? = some (.bool x75) ∧
 (bif (!x75) then
 (R (.returned (.bool false)) w71)
 else
 (∃ J76 : Int → World → Prop,
 (∃ I77 : Nat → Int → World → Prop,
 (∃ m, I77 m 0 w71) ∧
 (∀ (m78 : Nat) (w79 : World) (whole80 : Int), I77 m78 whole80 w79 →
 (bif (decide (whole80 < x21)) then
 (0 ≤ (IntKind.wrap .i64 ((IntKind.wrap .i64 (whole80 + 1)) * x12)) ∧ (IntKind.wrap .i64 ((IntKind.wrap .i64 (whole80 + 1)) * x12)) ≤ ((x32c : Nat) : Int) ∧ 0 ≤ (IntKind.wrap .i64 (whole80 * x12)) ∧ (IntKind.wrap .i64 (whole80 * x12)) ≤ (((Int.toNat (IntKind.wrap .i64 ((IntKind.wrap .i64 (whole80 + 1)) * x12))) : Nat) : Int) ∧ Calls Try.prog 18 #[(.slice (if x32c = (Int.toNat (IntKind.wrap .i64 (whole80 * x12))) then x32 else Option.map (fun y => Addr.add y ((Int.toNat (IntKind.wrap .i64 (whole80 * x12))) * 1)) x32) ((Int.toNat (IntKind.wrap .i64 ((IntKind.wrap .i64 (whole80 + 1)) * x12))) - (Int.toNat (IntKind.wrap .i64 (whole80 * x12)))) (x32c - (Int.toNat (IntKind.wrap .i64 (whole80 * x12)))))] w79 fun e81 w82 => ∃ x83 : Bool, e81 = .returned (.bool x83) ∧
 (bif x83 then
 (∃ m84, m84 < m78 ∧ I77 m84 (IntKind.wrap .i64 (whole80 + 1)) w82)
 else
 (J76 whole80 w82)))
 else
 (J76 whole80 w79)))) ∧
 (∀ (w85 : World) (whole86 : Int), J76 whole86 w85 →
 (bif (!decide (x74 = whole86)) then
 (R (.returned (.bool false)) w85)
 else
 (∃ I87 : Nat → Int → Int → World → Prop,
 (∃ m, I87 m x74 0 w85) ∧
 (∀ (m88 : Nat) (w89 : World) (given90 : Int) (round91 : Int), I87 m88 given90 round91 w89 →
 (bif (decide (given90 < x21)) then
 (Calls Try.prog 19 #[(.pointer x26), (.int .i64 1048576)] w89 fun e92 w93 => ∃ (x94 : Option Addr) (x94n : Nat) (x94c : Nat), e92 = .returned (.slice x94 x94n x94c) ∧
 ∃ J95 : World → Prop,
 ((bif (decide ((IntKind.wrap .i64 (2 * x21)) < round91)) then
 (R (.returned (.bool false)) w93)
 else
 ((bif (decide (((x94n : Nat) : Int) = 0)) then
 (R (.returned (.bool false)) w93)
 else
 (J95  w93))))) ∧
 (∀ (w96 : World), J95  w96 →
 ∃ I97 : Nat → Int → World → Prop,
 (∃ m, I97 m 0 w96) ∧
 (∀ (m98 : Nat) (w99 : World) (i100 : Int), I97 m98 i100 w99 →
 (bif (decide (i100 < ((x94n : Nat) : Int))) then
 (∀ w101 : World, w101 = World.drew w99 →
 0 ≤ i100 ∧ i100 < ((x94n : Nat) : Int) ∧ optK x94 fun a102 =>
 ∃ cs103 : List Value, List.length cs103 = 2 ∧ Cells w101 (Addr.add a102 (Int.toNat i100 * 2)) cs103 ∧
 Calls Try.prog 20 #[(.pointer x26), (.agg (List.toArray cs103))] w101 fun e104 w105 => ∃ x106 : Bool, e104 = .returned (.bool x106) ∧
 (bif x106 then
 (R (.returned (.bool false)) w105)
 else
 (0 ≤ i100 ∧ i100 < ((x94n : Nat) : Int) ∧ optK x94 fun a107 =>
 ∃ x108 : Int, World.cell? w105 (Addr.add (Addr.add a107 (Int.toNat i100 * 2)) 1) = some (.int .i64 x108) ∧
 (bif (decide (x108 < x17)) then
 (R (.returned (.bool false)) w105)
 else
 (0 ≤ i100 ∧ i100 < ((x94n : Nat) : Int) ∧ optK x94 fun a109 =>
 ∃ x110 : Int, World.cell? w105 (Addr.add (Addr.add a109 (Int.toNat i100 * 2)) 1) = some (.int .i64 x110) ∧
 (bif (decide (x21 ≤ (IntKind.wrap .i64 (x110 - x17)))) then
 (R (.returned (.bool false)) w105)
 else
 (∃ cs111 : List Value, List.length cs111 = 3 ∧ Cells w105 ⟨World.heap w |>.size, 0, none⟩ cs111 ∧
 0 ≤ i100 ∧ i100 < ((x94n : Nat) : Int) ∧ optK x94 fun a112 =>
 ∃ x113 : Int, World.cell? w105 (Addr.add (Addr.add a112 (Int.toNat i100 * 2)) 0) = some (.int .i64 x113) ∧
 0 ≤ i100 ∧ i100 < ((x94n : Nat) : Int) ∧ optK x94 fun a114 =>
 ∃ x115 : Int, World.cell? w105 (Addr.add (Addr.add a114 (Int.toNat i100 * 2)) 1) = some (.int .i64 x115) ∧
 Calls Try.prog 13 #[(.agg (List.toArray cs111)), (.int .i64 x113), (.int .i64 (IntKind.wrap .i64 (x115 - x17)))] w105 fun e116 w117 => ∃ x118 : Array Value, e116 = .returned (.agg x118) ∧
 Calls Try.prog 15 #[(.pointer x26), (.agg x118)] w117 fun e119 w120 => ∃ x121 : Int, e119 = .returned (.int .i64 x121) ∧
 (bif (!decide (x121 = 0)) then
 (R (.returned (.bool false)) w120)
 else
 (0 ≤ i100 ∧ i100 < ((x94n : Nat) : Int) ∧ optK x94 fun a122 =>
 ∃ cs123 : List Value, List.length cs123 = 2 ∧ Cells w120 (Addr.add a122 (Int.toNat i100 * 2)) cs123 ∧
 Calls Try.prog 20 #[(.pointer x26), (.agg (List.toArray cs123))] w120 fun e124 w125 => ∃ x126 : Bool, e124 = .returned (.bool x126) ∧
 (bif (!x126) then
 (R (.returned (.bool false)) w125)
 else
 (∃ m127, m127 < m98 ∧ I97 m127 (IntKind.wrap .i64 (i100 + 1)) w125)))))))))))
 else
 (∃ cs128 : List Value, List.length cs128 = 3 ∧ Cells w99 ⟨World.heap w |>.size, 0, none⟩ cs128 ∧
 Calls Try.prog 17 #[(.agg (List.toArray cs128)), (.pointer x26), (.int .i64 given90), (.bool true)] w99 fun e129 w130 => ∃ x131 : Int, ∃ x132 : Bool, e129 = .returned (.tuple #[(.int .i64 x131), (.bool x132)]) ∧
 ∃ x133 : Int, (#[(.int .i64 x131), (.bool x132)] : Array Value)[0]? = some (.int .i64 x133) ∧
 ∃ x134 : Bool, (#[(.int .i64 x131), (.bool x132)] : Array Value)[1]? = some (.bool x134) ∧
 (bif (!x134) then
 (R (.returned (.bool false)) w130)
 else
 (∃ m135, m135 < m88 ∧ I87 m135 x133 (IntKind.wrap .i64 (round91 + 1)) w130)))))))
 else
 (Calls Try.prog 12 #[(.pointer x26)] w89 fun e136 w137 => ∃ x138 : Int, e136 = .returned (.int .i64 x138) ∧
 R (.returned (.bool (decide (x138 = (IntKind.wrap .i64 (x17 + x21)))))) w137))))))))))))
theorem e4 (h0 : Array Value) (order1 : Option Addr) (order1n : Nat) (order1c : Nat) (w : World) (R : Ending → World → Prop) : denS Try.prog s4 (argsEnv 0 [(.agg h0), (.slice order1 order1n order1c)]) w (endK r4 R) = d4 h0 order1 order1n order1c w R := by kernel_rfl
theorem c4 (h0 : Array Value) (order1 : Option Addr) (order1n : Nat) (order1c : Nat) {w : World} {R : Ending → World → Prop} (h : d4 h0 order1 order1n order1c w R) : Calls Try.prog 4 #[(.agg h0), (.slice order1 order1n order1c)] w R :=
  den4 [(.agg h0), (.slice order1 order1n order1c)] w R (by simp) ((e4 h0 order1 order1n order1c w R).symm ▸ h)

/-- prelude/preludelaw25.MergeInputs -/
def s5 : S := (.seq (.ops [⟨(some 2), (.box 24 (.tmp 0)), .ptr, none⟩,
  ⟨(some 4), (.mv (.const (.bool false))), .bool, none⟩] [2, 1])
 (.seq (.seq (.ops [⟨(some 24), (.call 7 [] [.bool]), .bool, none⟩,
  ⟨(some 25), (.un .not (.tmp 24)), .bool, none⟩] [25, 2, 1])
 (.cond (.tmp 25)
 (.seq (.ops [⟨(some 4), (.mv (.const (.bool false))), .bool, none⟩] [4])
 .ret)
 .skip))
 (.seq (.draw (.take 0 ⟨(some 26), (.ldN 3 (.tmp 2)), .agg, none⟩
  (.take 2 ⟨(some 28), (.ldN 3 (.tmp 2)), .agg, none⟩
  (.take 4 ⟨(some 30), (.ldN 3 (.tmp 2)), .agg, none⟩
  (.go 1 ⟨(some 27), (.call 8 [(.tmp 26)] [(.int .i64)]), (.int .i64), none⟩ [(4, ⟨(some 30), (.ldN 3 (.tmp 2)), .agg, none⟩), (2, ⟨(some 28), (.ldN 3 (.tmp 2)), .agg, none⟩)]
  (.go 3 ⟨(some 29), (.call 11 [(.tmp 28)] [(.int .i64)]), (.int .i64), none⟩ [(4, ⟨(some 30), (.ldN 3 (.tmp 2)), .agg, none⟩)]
  (.go 5 ⟨(some 31), (.call 9 [(.tmp 30)] [(.int .i64)]), (.int .i64), none⟩ []
  (.take 6 ⟨(some 5), (.mv (.tmp 27)), (.int .i64), none⟩
  (.take 7 ⟨(some 6), (.mv (.tmp 29)), (.int .i64), none⟩
  (.take 8 ⟨(some 7), (.mv (.tmp 31)), (.int .i64), none⟩
  .done))))))))) [5, 6, 7, 2, 1])
 (.seq (.ops [⟨(some 33), (.mv (.tmp 5)), (.int .i64), none⟩,
  ⟨(some 34), (.mv (.tmp 6)), (.int .i64), none⟩,
  ⟨(some 35), (.call 10 [(.tmp 33), (.tmp 34)] [.ptr, (.int .i64)]), .any, none⟩,
  ⟨(some 32), (.mv (.tmp 35)), .any, none⟩,
  ⟨(some 36), (.ext 0 (.tmp 32)), .ptr, none⟩,
  ⟨(some 37), (.ext 1 (.tmp 32)), (.int .i64), none⟩,
  ⟨(some 8), (.mv (.tmp 36)), .ptr, none⟩,
  ⟨(some 9), (.mv (.tmp 37)), (.int .i64), none⟩] [9, 8, 5, 6, 7, 2, 1])
 (.join [] [1, 2, 5, 6, 7, 8]
 (.seq (.ops [⟨(some 38), (.mv (.tmp 9)), (.int .i64), none⟩,
  ⟨(some 39), (.bin .neq (.tmp 38) (.const (.int .i64 0))), .bool, none⟩,
  ⟨(some 40), (.mv (.tmp 39)), .bool, none⟩,
  ⟨(some 41), (.mv (.tmp 8)), .ptr, (some (40, false))⟩,
  ⟨(some 42), (.nilEq false 1 (.tmp 41)), .bool, (some (40, false))⟩,
  ⟨(some 43), (.pick (.tmp 40) (.const (.bool true)) (.tmp 42)), .bool, none⟩] [43, 5, 6, 7, 2, 1, 8])
 (.cond (.tmp 43)
 (.seq (.ops [⟨(some 4), (.mv (.const (.bool false))), .bool, none⟩] [4])
 .ret)
 .skip))
 (.seq (.ops [⟨(some 10), (.mv (.const (.int .i64 0))), (.int .i64), none⟩] [5, 6, 7, 2, 1, 8, 10])
 (.seq (.seq (.ops [⟨(some 11), (.mv (.const (.int .i64 0))), (.int .i64), none⟩] [11, 5, 6, 7, 2, 1, 8, 10])
 (.block 0
 (.loop [(10, (.int .i64)), (11, (.int .i64))] [1, 2, 5, 6, 7, 8]
 (.seq (.seq (.ops [⟨(some 44), (.mv (.tmp 11)), (.int .i64), none⟩,
  ⟨(some 45), (.mv (.tmp 5)), (.int .i64), none⟩,
  ⟨(some 46), (.bin .lss (.tmp 44) (.tmp 45)), .bool, none⟩] [46, 11, 6, 7, 2, 1, 8, 10, 5])
 (.cond (.tmp 46)
 .skip
 (.exit 0)))
 (.seq (.block 1
 (.seq (.ops [⟨(some 50), (.mv (.tmp 11)), (.int .i64), none⟩,
  ⟨(some 51), (.mv (.tmp 6)), (.int .i64), none⟩,
  ⟨(some 52), (.call 21 [(.tmp 50), (.tmp 51)] [.ptr, (.int .i64)]), .any, none⟩,
  ⟨(some 49), (.mv (.tmp 52)), .any, none⟩,
  ⟨(some 53), (.ext 0 (.tmp 49)), .ptr, none⟩,
  ⟨(some 54), (.ext 1 (.tmp 49)), (.int .i64), none⟩,
  ⟨(some 12), (.mv (.tmp 53)), .ptr, none⟩,
  ⟨(some 13), (.mv (.tmp 54)), (.int .i64), none⟩] [13, 12, 7, 2, 11, 1, 6, 8, 10, 5])
 (.join [] [1, 2, 5, 6, 7, 8, 10, 11, 12]
 (.seq (.ops [⟨(some 55), (.mv (.tmp 13)), (.int .i64), none⟩,
  ⟨(some 56), (.bin .neq (.tmp 55) (.const (.int .i64 0))), .bool, none⟩,
  ⟨(some 57), (.mv (.tmp 56)), .bool, none⟩,
  ⟨(some 58), (.mv (.tmp 12)), .ptr, (some (57, false))⟩,
  ⟨(some 59), (.nilEq false 1 (.tmp 58)), .bool, (some (57, false))⟩,
  ⟨(some 60), (.pick (.tmp 57) (.const (.bool true)) (.tmp 59)), .bool, none⟩] [60, 7, 2, 11, 12, 1, 6, 8, 10, 5])
 (.cond (.tmp 60)
 (.seq (.ops [⟨(some 4), (.mv (.const (.bool false))), .bool, none⟩] [4])
 .ret)
 .skip))
 (.seq (.seq (.ops [⟨(some 14), (.mv (.const (.int .i64 0))), (.int .i64), none⟩] [14, 7, 2, 11, 12, 1, 6, 8, 10, 5])
 (.block 2
 (.loop [(12, .ptr), (14, (.int .i64))] [1, 2, 5, 6, 7, 8, 10, 11]
 (.seq (.seq (.ops [⟨(some 61), (.mv (.tmp 14)), (.int .i64), none⟩,
  ⟨(some 62), (.mv (.tmp 7)), (.int .i64), none⟩,
  ⟨(some 63), (.bin .lss (.tmp 61) (.tmp 62)), .bool, none⟩] [63, 2, 11, 14, 12, 1, 6, 8, 7, 10, 5])
 (.cond (.tmp 63)
 .skip
 (.exit 2)))
 (.seq (.block 3
 (.seq (.ops [⟨(some 66), (.ldN 3 (.tmp 2)), .agg, none⟩,
  ⟨(some 67), (.mv (.tmp 11)), (.int .i64), none⟩,
  ⟨(some 68), (.mv (.tmp 14)), (.int .i64), none⟩,
  ⟨(some 69), (.call 22 [(.tmp 66), (.tmp 67), (.tmp 68)] [.sl]), .sl, none⟩,
  ⟨(some 15), (.mv (.tmp 69)), .sl, none⟩] [15, 12, 2, 11, 14, 1, 6, 8, 7, 10, 5])
 (.seq (.seq (.ops [⟨(some 16), (.mv (.const (.int .i64 0))), (.int .i64), none⟩] [16, 15, 12, 2, 11, 14, 1, 6, 8, 7, 10, 5])
 (.block 4
 (.loop [(16, (.int .i64))] [1, 2, 5, 6, 7, 8, 10, 11, 12, 14, 15]
 (.seq (.seq (.ops [⟨(some 70), (.mv (.tmp 16)), (.int .i64), none⟩,
  ⟨(some 71), (.mv (.tmp 15)), .sl, none⟩,
  ⟨(some 72), (.len (.tmp 71)), (.int .i64), none⟩,
  ⟨(some 73), (.bin .lss (.tmp 70) (.tmp 72)), .bool, none⟩] [73, 12, 16, 15, 2, 11, 14, 1, 6, 8, 7, 10, 5])
 (.cond (.tmp 73)
 .skip
 (.exit 4)))
 (.seq (.block 5
 (.seq (.ops [⟨(some 76), (.mv (.tmp 12)), .ptr, none⟩,
  ⟨(some 77), (.call 23 [(.tmp 76)] [(.int .i64)]), (.int .i64), none⟩,
  ⟨(some 78), (.mv (.tmp 16)), (.int .i64), none⟩,
  ⟨(some 79), (.bin .neq (.tmp 77) (.tmp 78)), .bool, none⟩,
  ⟨(some 80), (.mv (.tmp 79)), .bool, none⟩,
  ⟨(some 81), (.mv (.tmp 12)), .ptr, (some (80, false))⟩,
  ⟨(some 82), (.mv (.tmp 15)), .sl, (some (80, false))⟩,
  ⟨(some 83), (.mv (.tmp 16)), (.int .i64), (some (80, false))⟩,
  ⟨(some 84), (.ia 4 (.tmp 82) (.tmp 83)), .ptr, (some (80, false))⟩,
  ⟨(some 85), (.ldN 4 (.tmp 84)), .agg, (some (80, false))⟩,
  ⟨(some 86), (.call 24 [(.tmp 81), (.tmp 85)] [(.int .i64)]), (.int .i64), (some (80, false))⟩,
  ⟨(some 87), (.bin .neq (.tmp 86) (.const (.int .i64 0))), .bool, (some (80, false))⟩,
  ⟨(some 88), (.pick (.tmp 80) (.const (.bool true)) (.tmp 87)), .bool, none⟩] [88, 16, 15, 12, 2, 11, 14, 1, 6, 8, 7, 10, 5])
 (.cond (.tmp 88)
 (.seq (.ops [⟨(some 4), (.mv (.const (.bool false))), .bool, none⟩] [4])
 .ret)
 .skip)))
 (.ops [⟨(some 74), (.mv (.tmp 16)), (.int .i64), none⟩,
  ⟨(some 75), (.bin .add (.tmp 74) (.const (.int .i64 1))), (.int .i64), none⟩,
  ⟨(some 16), (.mv (.tmp 75)), (.int .i64), none⟩] [16, 15, 12, 2, 11, 14, 1, 6, 8, 7, 10, 5]))))))
 (.seq (.ops [⟨(some 89), (.mv (.tmp 12)), .ptr, none⟩,
  ⟨(some 90), (.call 25 [(.tmp 89)] [.agg]), .agg, none⟩,
  ⟨(some 17), (.alloc 35), .ptr, none⟩,
  ⟨none, (.stN 3 (.tmp 17) (.tmp 90)), .any, none⟩] [17, 2, 11, 14, 12, 1, 6, 8, 7, 10, 5])
 (.join [] [1, 2, 5, 6, 7, 8, 10, 11, 12, 14, 17]
 (.seq (.draw (.take 0 ⟨(some 91), (.ldN 3 (.tmp 17)), .agg, none⟩
  (.take 1 ⟨(some 92), (.ldN 3 (.tmp 2)), .agg, none⟩
  (.take 2 ⟨(some 93), (.mv (.tmp 11)), (.int .i64), none⟩
  (.take 3 ⟨(some 94), (.mv (.tmp 14)), (.int .i64), none⟩
  (.go 4 ⟨(some 95), (.call 13 [(.tmp 92), (.tmp 93), (.tmp 94)] [.agg]), .agg, none⟩ [(0, ⟨(some 91), (.ldN 3 (.tmp 17)), .agg, none⟩)]
  (.go 5 ⟨(some 96), (.call 16 [(.tmp 91), (.tmp 95)] [.bool]), .bool, none⟩ []
  (.take 6 ⟨(some 97), (.un .not (.tmp 96)), .bool, none⟩
  (.take 7 ⟨(some 98), (.mv (.tmp 97)), .bool, none⟩
  (.take 8 ⟨(some 99), (.mv (.tmp 12)), .ptr, (some (98, false))⟩
  (.go 9 ⟨(some 100), (.call 23 [(.tmp 99)] [(.int .i64)]), (.int .i64), (some (98, false))⟩ []
  (.take 10 ⟨(some 101), (.bin .neq (.tmp 100) (.const (.int .i64 0))), .bool, (some (98, false))⟩
  (.take 11 ⟨(some 102), (.pick (.tmp 98) (.const (.bool true)) (.tmp 101)), .bool, none⟩
  .done)))))))))))) [102, 14, 1, 11, 6, 12, 17, 8, 7, 2, 10, 5])
 (.cond (.tmp 102)
 (.seq (.ops [⟨(some 4), (.mv (.const (.bool false))), .bool, none⟩] [4])
 .ret)
 .skip))
 (.join [(12, .ptr)] [1, 2, 5, 6, 7, 8, 10, 11, 14, 17]
 (.join [(112, .bool)] [1, 2, 5, 6, 7, 8, 10, 11, 12, 14, 17]
 (.ops [⟨(some 103), (.mv (.tmp 14)), (.int .i64), none⟩,
  ⟨(some 104), (.mv (.tmp 1)), .sl, none⟩,
  ⟨(some 105), (.len (.tmp 104)), (.int .i64), none⟩,
  ⟨(some 106), (.bin .lss (.tmp 103) (.tmp 105)), .bool, none⟩,
  ⟨(some 107), (.mv (.tmp 106)), .bool, none⟩,
  ⟨(some 108), (.mv (.tmp 1)), .sl, (some (107, true))⟩,
  ⟨(some 109), (.mv (.tmp 14)), (.int .i64), (some (107, true))⟩,
  ⟨(some 110), (.ia 1 (.tmp 108) (.tmp 109)), .ptr, (some (107, true))⟩,
  ⟨(some 111), (.ld1 (.tmp 110)), .bool, (some (107, true))⟩,
  ⟨(some 112), (.pick (.tmp 107) (.tmp 111) (.const (.bool false))), .bool, none⟩] [112, 11, 6, 14, 12, 17, 8, 7, 2, 1, 10, 5])
 (.cond (.tmp 112)
 (.seq (.ops [⟨(some 114), (.mv (.tmp 11)), (.int .i64), none⟩,
  ⟨(some 115), (.mv (.tmp 6)), (.int .i64), none⟩,
  ⟨(some 116), (.call 21 [(.tmp 114), (.tmp 115)] [.ptr, (.int .i64)]), .any, none⟩,
  ⟨(some 113), (.mv (.tmp 116)), .any, none⟩,
  ⟨(some 117), (.ext 0 (.tmp 113)), .ptr, none⟩,
  ⟨(some 118), (.ext 1 (.tmp 113)), (.int .i64), none⟩,
  ⟨(some 18), (.mv (.tmp 117)), .ptr, none⟩,
  ⟨(some 19), (.mv (.tmp 118)), (.int .i64), none⟩] [19, 18, 14, 12, 6, 17, 8, 7, 2, 11, 1, 10, 5])
 (.join [] [1, 2, 5, 6, 7, 8, 10, 11, 12, 14, 17, 18]
 (.seq (.ops [⟨(some 119), (.mv (.tmp 19)), (.int .i64), none⟩,
  ⟨(some 120), (.bin .neq (.tmp 119) (.const (.int .i64 0))), .bool, none⟩,
  ⟨(some 121), (.mv (.tmp 120)), .bool, none⟩,
  ⟨(some 122), (.mv (.tmp 18)), .ptr, (some (121, false))⟩,
  ⟨(some 123), (.nilEq false 1 (.tmp 122)), .bool, (some (121, false))⟩,
  ⟨(some 124), (.pick (.tmp 121) (.const (.bool true)) (.tmp 123)), .bool, none⟩] [124, 14, 12, 6, 18, 17, 8, 7, 2, 11, 1, 10, 5])
 (.cond (.tmp 124)
 (.seq (.ops [⟨(some 4), (.mv (.const (.bool false))), .bool, none⟩] [4])
 .ret)
 .skip))
 (.seq (.seq (.ops [⟨(some 20), (.mv (.const (.int .i64 0))), (.int .i64), none⟩] [20, 14, 12, 6, 18, 17, 8, 7, 2, 11, 1, 10, 5])
 (.block 6
 (.loop [(20, (.int .i64))] [1, 2, 5, 6, 7, 8, 10, 11, 12, 14, 17, 18]
 (.seq (.seq (.ops [⟨(some 125), (.mv (.tmp 20)), (.int .i64), none⟩,
  ⟨(some 126), (.mv (.tmp 14)), (.int .i64), none⟩,
  ⟨(some 127), (.bin .leq (.tmp 125) (.tmp 126)), .bool, none⟩] [127, 12, 6, 20, 18, 14, 17, 8, 7, 2, 11, 1, 10, 5])
 (.cond (.tmp 127)
 .skip
 (.exit 6)))
 (.seq (.block 7
 (.seq (.ops [⟨(some 131), (.mv (.tmp 12)), .ptr, none⟩,
  ⟨(some 132), (.mv (.tmp 6)), (.int .i64), none⟩,
  ⟨(some 133), (.mv (.tmp 20)), (.int .i64), none⟩,
  ⟨(some 134), (.bin .add (.tmp 132) (.tmp 133)), (.int .i64), none⟩,
  ⟨(some 135), (.call 26 [(.tmp 131), (.tmp 134)] [.agg, (.int .i64)]), .any, none⟩,
  ⟨(some 130), (.mv (.tmp 135)), .any, none⟩,
  ⟨(some 136), (.ext 0 (.tmp 130)), .agg, none⟩,
  ⟨(some 137), (.ext 1 (.tmp 130)), (.int .i64), none⟩,
  ⟨(some 21), (.alloc 35), .ptr, none⟩,
  ⟨none, (.stN 3 (.tmp 21) (.tmp 136)), .any, none⟩,
  ⟨(some 22), (.mv (.tmp 137)), (.int .i64), none⟩] [22, 18, 21, 20, 14, 12, 6, 17, 8, 7, 2, 11, 1, 10, 5])
 (.seq (.ops [⟨(some 138), (.mv (.tmp 22)), (.int .i64), none⟩,
  ⟨(some 139), (.bin .neq (.tmp 138) (.const (.int .i64 0))), .bool, none⟩,
  ⟨(some 140), (.mv (.tmp 139)), .bool, none⟩,
  ⟨(some 141), (.mv (.tmp 18)), .ptr, (some (140, false))⟩,
  ⟨(some 142), (.ldN 3 (.tmp 21)), .agg, (some (140, false))⟩,
  ⟨(some 143), (.call 27 [(.tmp 141), (.tmp 142)] [(.int .i64)]), (.int .i64), (some (140, false))⟩,
  ⟨(some 144), (.bin .neq (.tmp 143) (.const (.int .i64 0))), .bool, (some (140, false))⟩,
  ⟨(some 145), (.pick (.tmp 140) (.const (.bool true)) (.tmp 144)), .bool, none⟩] [145, 20, 14, 12, 6, 18, 17, 8, 7, 2, 11, 1, 10, 5])
 (.cond (.tmp 145)
 (.seq (.ops [⟨(some 4), (.mv (.const (.bool false))), .bool, none⟩] [4])
 .ret)
 .skip))))
 (.ops [⟨(some 128), (.mv (.tmp 20)), (.int .i64), none⟩,
  ⟨(some 129), (.bin .add (.tmp 128) (.const (.int .i64 1))), (.int .i64), none⟩,
  ⟨(some 20), (.mv (.tmp 129)), (.int .i64), none⟩] [20, 14, 12, 6, 18, 17, 8, 7, 2, 11, 1, 10, 5]))))))
 (.seq (.ops [⟨(some 146), (.mv (.tmp 18)), .ptr, none⟩,
  ⟨(some 12), (.mv (.tmp 146)), .ptr, none⟩] [12, 6, 14, 17, 8, 7, 2, 11, 1, 10, 5])
 (.seq (.ops [⟨(some 148), (.mv (.tmp 12)), .ptr, none⟩,
  ⟨(some 149), (.mv (.tmp 6)), (.int .i64), none⟩,
  ⟨(some 150), (.mv (.tmp 14)), (.int .i64), none⟩,
  ⟨(some 151), (.bin .add (.tmp 149) (.tmp 150)), (.int .i64), none⟩,
  ⟨(some 152), (.call 26 [(.tmp 148), (.tmp 151)] [.agg, (.int .i64)]), .any, none⟩,
  ⟨(some 147), (.mv (.tmp 152)), .any, none⟩,
  ⟨(some 153), (.ext 0 (.tmp 147)), .agg, none⟩,
  ⟨(some 154), (.ext 1 (.tmp 147)), (.int .i64), none⟩,
  ⟨none, (.stN 3 (.tmp 17) (.tmp 153)), .any, none⟩,
  ⟨(some 19), (.mv (.tmp 154)), (.int .i64), none⟩] [19, 8, 17, 14, 7, 2, 11, 12, 1, 6, 10, 5])
 (.seq (.ops [⟨(some 155), (.mv (.tmp 19)), (.int .i64), none⟩,
  ⟨(some 156), (.bin .neq (.tmp 155) (.const (.int .i64 0))), .bool, none⟩] [156, 8, 17, 14, 7, 2, 11, 12, 1, 6, 10, 5])
 (.cond (.tmp 156)
 (.seq (.ops [⟨(some 4), (.mv (.const (.bool false))), .bool, none⟩] [4])
 .ret)
 .skip)))))))
 .skip))
 (.seq (.ops [⟨(some 157), (.mv (.tmp 8)), .ptr, none⟩,
  ⟨(some 158), (.ldN 3 (.tmp 17)), .agg, none⟩,
  ⟨(some 159), (.call 15 [(.tmp 157), (.tmp 158)] [(.int .i64)]), (.int .i64), none⟩,
  ⟨(some 160), (.bin .neq (.tmp 159) (.const (.int .i64 0))), .bool, none⟩,
  ⟨(some 161), (.mv (.tmp 160)), .bool, none⟩,
  ⟨(some 162), (.mv (.tmp 8)), .ptr, (some (161, false))⟩,
  ⟨(some 163), (.ldN 3 (.tmp 17)), .agg, (some (161, false))⟩,
  ⟨(some 164), (.call 15 [(.tmp 162), (.tmp 163)] [(.int .i64)]), (.int .i64), (some (161, false))⟩,
  ⟨(some 165), (.bin .neq (.tmp 164) (.const (.int .i64 0))), .bool, (some (161, false))⟩,
  ⟨(some 166), (.pick (.tmp 161) (.const (.bool true)) (.tmp 165)), .bool, none⟩] [166, 14, 7, 2, 11, 12, 1, 6, 8, 10, 5])
 (.cond (.tmp 166)
 (.seq (.ops [⟨(some 4), (.mv (.const (.bool false))), .bool, none⟩] [4])
 .ret)
 .skip))))))))
 (.ops [⟨(some 64), (.mv (.tmp 14)), (.int .i64), none⟩,
  ⟨(some 65), (.bin .add (.tmp 64) (.const (.int .i64 1))), (.int .i64), none⟩,
  ⟨(some 14), (.mv (.tmp 65)), (.int .i64), none⟩] [14, 7, 2, 11, 12, 1, 6, 8, 10, 5]))))))
 (.seq (.ops [⟨(some 23), (.mv (.const (.bool false))), .bool, none⟩] [2, 8, 10, 11, 5, 6, 7, 1])
 (.seq (.ops [⟨(some 168), (.ldN 3 (.tmp 2)), .agg, none⟩,
  ⟨(some 169), (.mv (.tmp 8)), .ptr, none⟩,
  ⟨(some 170), (.mv (.tmp 10)), (.int .i64), none⟩,
  ⟨(some 171), (.call 17 [(.tmp 168), (.tmp 169), (.tmp 170), (.const (.bool true))] [(.int .i64), .bool]), .any, none⟩,
  ⟨(some 167), (.mv (.tmp 171)), .any, none⟩,
  ⟨(some 172), (.ext 0 (.tmp 167)), (.int .i64), none⟩,
  ⟨(some 173), (.ext 1 (.tmp 167)), .bool, none⟩,
  ⟨(some 10), (.mv (.tmp 172)), (.int .i64), none⟩,
  ⟨(some 23), (.mv (.tmp 173)), .bool, none⟩] [23, 10, 11, 5, 6, 7, 2, 1, 8])
 (.seq (.ops [⟨(some 174), (.mv (.tmp 23)), .bool, none⟩,
  ⟨(some 175), (.un .not (.tmp 174)), .bool, none⟩,
  ⟨(some 176), (.mv (.tmp 175)), .bool, none⟩,
  ⟨(some 177), (.mv (.tmp 10)), (.int .i64), (some (176, false))⟩,
  ⟨(some 178), (.bin .neq (.tmp 177) (.const (.int .i64 0))), .bool, (some (176, false))⟩,
  ⟨(some 179), (.mv (.tmp 178)), .bool, (some (176, false))⟩,
  ⟨(some 180), (.mv (.tmp 11)), (.int .i64), (some (179, true))⟩,
  ⟨(some 181), (.mv (.tmp 5)), (.int .i64), (some (179, true))⟩,
  ⟨(some 182), (.bin .sub (.tmp 181) (.const (.int .i64 1))), (.int .i64), (some (179, true))⟩,
  ⟨(some 183), (.bin .lss (.tmp 180) (.tmp 182)), .bool, (some (179, true))⟩,
  ⟨(some 184), (.pick (.tmp 179) (.tmp 183) (.const (.bool false))), .bool, (some (176, false))⟩,
  ⟨(some 185), (.pick (.tmp 176) (.const (.bool true)) (.tmp 184)), .bool, none⟩] [185, 11, 5, 6, 7, 2, 1, 8, 10])
 (.cond (.tmp 185)
 (.seq (.ops [⟨(some 4), (.mv (.const (.bool false))), .bool, none⟩] [4])
 .ret)
 .skip))))))))
 (.ops [⟨(some 47), (.mv (.tmp 11)), (.int .i64), none⟩,
  ⟨(some 48), (.bin .add (.tmp 47) (.const (.int .i64 1))), (.int .i64), none⟩,
  ⟨(some 11), (.mv (.tmp 48)), (.int .i64), none⟩] [11, 5, 6, 7, 2, 1, 8, 10]))))))
 (.seq (.ops [⟨(some 186), (.mv (.tmp 10)), (.int .i64), none⟩,
  ⟨(some 187), (.mv (.tmp 7)), (.int .i64), none⟩,
  ⟨(some 188), (.bin .eql (.tmp 186) (.tmp 187)), .bool, none⟩,
  ⟨(some 4), (.mv (.tmp 188)), .bool, none⟩] [4])
 .ret))))))))
def r5 : List Res := [.t 4]
theorem tr5 : trS Try.prog [] 189 (Try.f5.body.getD .skip) s5 = some s5 := by kernel_rfl
theorem den5 (args : List Value) (w : World) (R : Ending → World → Prop) (hn : args.length ≤ 189) (h : denS Try.prog s5 (argsEnv 0 args) w (endK r5 R)) : Calls Try.prog 5 args.toArray w R :=
  calls_of_den (pn := []) (fn := Try.f5) (c := Try.f5.body.getD .skip) Try.func5 (by kernel_rfl) (by rw [Try.ntmps5]; exact hn) (by rw [Try.ntmps5]; exact tr5) (by kernel_rfl) h
def d5 (h0 : Array Value) (again1 : Option Addr) (again1n : Nat) (again1c : Nat) (w : World) (R : Ending → World → Prop) : Prop :=
 ∀ w2 : World, w2 = World.alloc w (.cells h0 24) →
 Calls Try.prog 7 #[] w2 fun e3 w4 => ∃ x5 : Bool, e3 = .returned (.bool x5) ∧
 (bif (!x5) then
 (R (.returned (.bool false)) w4)
 else
 (∀ w6 : World, w6 = World.drew w4 →
 ∃ cs7 : List Value, List.length cs7 = 3 ∧ Cells w6 ⟨World.heap w |>.size, 0, none⟩ cs7 ∧
 ∃ cs8 : List Value, List.length cs8 = 3 ∧ Cells w6 ⟨World.heap w |>.size, 0, none⟩ cs8 ∧
 ∃ cs9 : List Value, List.length cs9 = 3 ∧ Cells w6 ⟨World.heap w |>.size, 0, none⟩ cs9 ∧
 Calls Try.prog 8 #[(.agg (List.toArray cs7))] w6 fun e10 w11 => ∃ x12 : Int, e10 = .returned (.int .i64 x12) ∧
 (∃ cs13 : List Value, List.length cs13 = 3 ∧ Cells w11 ⟨World.heap w |>.size, 0, none⟩ cs13 ∧
 (((.agg (List.toArray cs13)) : Value) = (.agg (List.toArray cs9)) ∧ w11 = w11)) ∧
 (∃ cs14 : List Value, List.length cs14 = 3 ∧ Cells w11 ⟨World.heap w |>.size, 0, none⟩ cs14 ∧
 (((.agg (List.toArray cs14)) : Value) = (.agg (List.toArray cs8)) ∧ w11 = w11)) ∧
 Calls Try.prog 11 #[(.agg (List.toArray cs8))] w11 fun e15 w16 => ∃ x17 : Int, e15 = .returned (.int .i64 x17) ∧
 (∃ cs18 : List Value, List.length cs18 = 3 ∧ Cells w16 ⟨World.heap w |>.size, 0, none⟩ cs18 ∧
 (((.agg (List.toArray cs18)) : Value) = (.agg (List.toArray cs9)) ∧ w16 = w16)) ∧
 Calls Try.prog 9 #[(.agg (List.toArray cs9))] w16 fun e19 w20 => ∃ x21 : Int, e19 = .returned (.int .i64 x21) ∧
 Calls Try.prog 10 #[(.int .i64 x12), (.int .i64 x17)] w20 fun e22 w23 => ∃ x24 : Option Addr, ∃ x25 : Int, e22 = .returned (.tuple #[(.pointer x24), (.int .i64 x25)]) ∧
 ∃ x26 : Option Addr, (#[(.pointer x24), (.int .i64 x25)] : Array Value)[0]? = some (.pointer x26) ∧
 ∃ x27 : Int, (#[(.pointer x24), (.int .i64 x25)] : Array Value)[1]? = some (.int .i64 x27) ∧
 ∃ J28 : World → Prop,
 ((bif (!decide (x27 = 0)) then
 (R (.returned (.bool false)) w23)
 else
 ((bif (Option.isNone x26) then
 (R (.returned (.bool false)) w23)
 else
 (J28  w23))))) ∧
 (∀ (w29 : World), J28  w29 →
 ∃ I30 : Nat → Int → Int → World → Prop,
 (∃ m, I30 m 0 0 w29) ∧
 (∀ (m31 : Nat) (w32 : World) (given33 : Int) (i34 : Int), I30 m31 given33 i34 w32 →
 (bif (decide (i34 < x12)) then
 (Calls Try.prog 21 #[(.int .i64 i34), (.int .i64 x17)] w32 fun e35 w36 => ∃ x37 : Option Addr, ∃ x38 : Int, e35 = .returned (.tuple #[(.pointer x37), (.int .i64 x38)]) ∧
 ∃ x39 : Option Addr, (#[(.pointer x37), (.int .i64 x38)] : Array Value)[0]? = some (.pointer x39) ∧
 ∃ x40 : Int, (#[(.pointer x37), (.int .i64 x38)] : Array Value)[1]? = some (.int .i64 x40) ∧
 ∃ J41 : World → Prop,
 ((bif (!decide (x40 = 0)) then
 (R (.returned (.bool false)) w36)
 else
 ((bif (Option.isNone x39) then
 (R (.returned (.bool false)) w36)
 else
 (J41  w36))))) ∧
 (∀ (w42 : World), J41  w42 →
 ∃ I43 : Nat → Option Addr → Int → World → Prop,
 (∃ m, I43 m x39 0 w42) ∧
 (∀ (m44 : Nat) (w45 : World) (x46 : Option Addr) (n47 : Int), I43 m44 x46 n47 w45 →
 (bif (decide (n47 < x21)) then
 (∃ cs48 : List Value, List.length cs48 = 3 ∧ Cells w45 ⟨World.heap w |>.size, 0, none⟩ cs48 ∧
 Calls Try.prog 22 #[(.agg (List.toArray cs48)), (.int .i64 i34), (.int .i64 n47)] w45 fun e49 w50 => ∃ (x51 : Option Addr) (x51n : Nat) (x51c : Nat), e49 = .returned (.slice x51 x51n x51c) ∧
 ∃ I52 : Nat → Int → World → Prop,
 (∃ m, I52 m 0 w50) ∧
 (∀ (m53 : Nat) (w54 : World) (j55 : Int), I52 m53 j55 w54 →
 (bif (decide (j55 < ((x51n : Nat) : Int))) then
 (Calls Try.prog 23 #[(.pointer x46)] w54 fun e56 w57 => ∃ x58 : Int, e56 = .returned (.int .i64 x58) ∧
 (bif (!decide (x58 = j55)) then
 (R (.returned (.bool false)) w57)
 else
 (0 ≤ j55 ∧ j55 < ((x51n : Nat) : Int) ∧ optK x51 fun a59 =>
 ∃ cs60 : List Value, List.length cs60 = 4 ∧ Cells w57 (Addr.add a59 (Int.toNat j55 * 4)) cs60 ∧
 Calls Try.prog 24 #[(.pointer x46), (.agg (List.toArray cs60))] w57 fun e61 w62 => ∃ x63 : Int, e61 = .returned (.int .i64 x63) ∧
 (bif (!decide (x63 = 0)) then
 (R (.returned (.bool false)) w62)
 else
 (∃ m64, m64 < m53 ∧ I52 m64 (IntKind.wrap .i64 (j55 + 1)) w62)))))
 else
 (Calls Try.prog 25 #[(.pointer x46)] w54 fun e65 w66 => ∃ x67 : Array Value, e65 = .returned (.agg x67) ∧
 ∀ w68 : World, w68 = World.alloc w66 (.cells (zc Try.prog 35).toArray 35) →
 Array.size x67 = 3 ∧ (∀ u ∈ Array.toList x67, one u = true) ∧ Room w68 ⟨World.heap w66 |>.size, 0, none⟩ 3 ∧
 ∀ w69 : World, w69 = setCells w68 ⟨World.heap w66 |>.size, 0, none⟩ (Array.toList x67) 0 →
 ∃ J70 : World → Prop,
 (∀ w71 : World, w71 = World.drew w69 →
 ∃ cs72 : List Value, List.length cs72 = 3 ∧ Cells w71 ⟨World.heap w66 |>.size, 0, none⟩ cs72 ∧
 ∃ cs73 : List Value, List.length cs73 = 3 ∧ Cells w71 ⟨World.heap w |>.size, 0, none⟩ cs73 ∧
 Calls Try.prog 13 #[(.agg (List.toArray cs73)), (.int .i64 i34), (.int .i64 n47)] w71 fun e74 w75 => ∃ x76 : Array Value, e74 = .returned (.agg x76) ∧
 (∃ cs77 : List Value, List.length cs77 = 3 ∧ Cells w75 ⟨World.heap w66 |>.size, 0, none⟩ cs77 ∧
 (((.agg (List.toArray cs77)) : Value) = (.agg (List.toArray cs72)) ∧ w75 = w75)) ∧
 Calls Try.prog 16 #[(.agg (List.toArray cs72)), (.agg x76)] w75 fun e78 w79 => ∃ x80 : Bool, e78 = .returned (.bool x80) ∧
 (bif (!x80) then
 (R (.returned (.bool false)) w79)
 else
 (Calls Try.prog 23 #[(.pointer x46)] w79 fun e81 w82 => ∃ x83 : Int, e81 = .returned (.int .i64 x83) ∧
 (bif (!decide (x83 = 0)) then
 (R (.returned (.bool false)) w82)
 else
 (J70  w82))))) ∧
 (∀ (w84 : World), J70  w84 →
 ∃ J85 : Option Addr → World → Prop,
 (∃ J86 : Bool → World → Prop,
 ((bif (decide (n47 < ((again1n : Nat) : Int))) then
 (0 ≤ n47 ∧ n47 < ((again1n : Nat) : Int) ∧ optK again1 fun a87 =>
 ∃ x88 : Bool, World.cell? w84 (Addr.add a87 (Int.toNat n47 * 1)) = some (.bool x88) ∧
 J86 x88 w84)
 else
 (J86 false w84))) ∧
 (∀ (w89 : World) (x90 : Bool), J86 x90 w89 →
 (bif x90 then
 (Calls Try.prog 21 #[(.int .i64 i34), (.int .i64 x17)] w89 fun e91 w92 => ∃ x93 : Option Addr, ∃ x94 : Int, e91 = .returned (.tuple #[(.pointer x93), (.int .i64 x94)]) ∧
 ∃ x95 : Option Addr, (#[(.pointer x93), (.int .i64 x94)] : Array Value)[0]? = some (.pointer x95) ∧
 ∃ x96 : Int, (#[(.pointer x93), (.int .i64 x94)] : Array Value)[1]? = some (.int .i64 x96) ∧
 ∃ J97 : World → Prop,
 ((bif (!decide (x96 = 0)) then
 (R (.returned (.bool false)) w92)
 else
 ((bif (Option.isNone x95) then
 (R (.returned (.bool false)) w92)
 else
 (J97  w92))))) ∧
 (∀ (w98 : World), J97  w98 →
 ∃ I99 : Nat → Int → World → Prop,
 (∃ m, I99 m 0 w98) ∧
 (∀ (m100 : Nat) (w101 : World) (j102 : Int), I99 m100 j102 w101 →
 (bif (decide (j102 ≤ n47)) then
 (Calls Try.prog 26 #[(.pointer x46), (.int .i64 (IntKind.wrap .i64 (x17 + j102)))] w101 fun e103 w104 => ∃ x105 : Array Value, ∃ x106 : Int, e103 = .returned (.tuple #[(.agg x105), (.int .i64 x106)]) ∧
 ∃ x107 : Array Value, (#[(.agg x105), (.int .i64 x106)] : Array Value)[0]? = some (.agg x107) ∧
 ∃ x108 : Int, (#[(.agg x105), (.int .i64 x106)] : Array Value)[1]? = some (.int .i64 x108) ∧
 ∀ w109 : World, w109 = World.alloc w104 (.cells (zc Try.prog 35).toArray 35) →
 Array.size x107 = 3 ∧ (∀ u ∈ Array.toList x107, one u = true) ∧ Room w109 ⟨World.heap w104 |>.size, 0, none⟩ 3 ∧
 ∀ w110 : World, w110 = setCells w109 ⟨World.heap w104 |>.size, 0, none⟩ (Array.toList x107) 0 →
 (bif (!decide (x108 = 0)) then
 (R (.returned (.bool false)) w110)
 else
 (∃ cs111 : List Value, List.length cs111 = 3 ∧ Cells w110 ⟨World.heap w104 |>.size, 0, none⟩ cs111 ∧
 Calls Try.prog 27 #[(.pointer x95), (.agg (List.toArray cs111))] w110 fun e112 w113 => ∃ x114 : Int, e112 = .returned (.int .i64 x114) ∧
 (bif (!decide (x114 = 0)) then
 (R (.returned (.bool false)) w113)
 else
 (∃ m115, m115 < m100 ∧ I99 m115 (IntKind.wrap .i64 (j102 + 1)) w113)))))
 else
 (Calls Try.prog 26 #[(.pointer x95), (.int .i64 (IntKind.wrap .i64 (x17 + n47)))] w101 fun e116 w117 => ∃ x118 : Array Value, ∃ x119 : Int, e116 = .returned (.tuple #[(.agg x118), (.int .i64 x119)]) ∧
 ∃ x120 : Array Value, (#[(.agg x118), (.int .i64 x119)] : Array Value)[0]? = some (.agg x120) ∧
 ∃ x121 : Int, (#[(.agg x118), (.int .i64 x119)] : Array Value)[1]? = some (.int .i64 x121) ∧
 Array.size x120 = 3 ∧ (∀ u ∈ Array.toList x120, one u = true) ∧ Room w117 ⟨World.heap w66 |>.size, 0, none⟩ 3 ∧
 ∀ w122 : World, w122 = setCells w117 ⟨World.heap w66 |>.size, 0, none⟩ (Array.toList x120) 0 →
 (bif (!decide (x121 = 0)) then
 (R (.returned (.bool false)) w122)
 else
 (J85 x95 w122)))))))
 else
 (J85 x46 w89)))) ∧
 (∀ (w123 : World) (x124 : Option Addr), J85 x124 w123 →
 ∃ cs125 : List Value, List.length cs125 = 3 ∧ Cells w123 ⟨World.heap w66 |>.size, 0, none⟩ cs125 ∧
 Calls Try.prog 15 #[(.pointer x26), (.agg (List.toArray cs125))] w123 fun e126 w127 => ∃ x128 : Int, e126 = .returned (.int .i64 x128) ∧
 (bif (!decide (x128 = 0)) then
 (R (.returned (.bool false)) w127)
 else
 (∃ cs129 : List Value, List.length cs129 = 3 ∧ Cells w127 ⟨World.heap w66 |>.size, 0, none⟩ cs129 ∧
 Calls Try.prog 15 #[(.pointer x26), (.agg (List.toArray cs129))] w127 fun e130 w131 => ∃ x132 : Int, e130 = .returned (.int .i64 x132) ∧
 (bif (!decide (x132 = 0)) then
 (R (.returned (.bool false)) w131)
 else
 (∃ m133, m133 < m44 ∧ I43 m133 x124 (IntKind.wrap .i64 (n47 + 1)) w131))))))))))
 else
 (∃ cs134 : List Value, List.length cs134 = 3 ∧ Cells w45 ⟨World.heap w |>.size, 0, none⟩ cs134 ∧
 Calls Try.prog 17 #[(.agg (List.toArray cs134)), (.pointer x26), (.int .i64 given33), (.bool true)] w45 fun e135 w136 => ∃ x137 : Int, ∃ x138 : Bool, e135 = .returned (.tuple #[(.int .i64 x137), (.bool x138)]) ∧
 ∃ x139 : Int, (#[(.int .i64 x137), (.bool x138)] : Array Value)[0]? = some (.int .i64 x139) ∧
 ∃ x140 : Bool, (#[(.int .i64 x137), (.bool x138)] : Array Value)[1]? = some (.bool x140) ∧
 (bif (!x140) then
 (R (.returned (.bool false)) w136)
 else
 ((bif (!decide (x139 = 0)) then
 ((bif (decide (i34 < (IntKind.wrap .i64 (x12 - 1)))) then
 (R (.returned (.bool false)) w136)
 else
 (∃ m141, m141 < m31 ∧ I30 m141 x139 (IntKind.wrap .i64 (i34 + 1)) w136)))
 else
 (∃ m142, m142 < m31 ∧ I30 m142 x139 (IntKind.wrap .i64 (i34 + 1)) w136)))))))))
 else
 (R (.returned (.bool (decide (given33 = x21)))) w32))))))
theorem e5 (h0 : Array Value) (again1 : Option Addr) (again1n : Nat) (again1c : Nat) (w : World) (R : Ending → World → Prop) : denS Try.prog s5 (argsEnv 0 [(.agg h0), (.slice again1 again1n again1c)]) w (endK r5 R) = d5 h0 again1 again1n again1c w R := by kernel_rfl
theorem c5 (h0 : Array Value) (again1 : Option Addr) (again1n : Nat) (again1c : Nat) {w : World} {R : Ending → World → Prop} (h : d5 h0 again1 again1n again1c w R) : Calls Try.prog 5 #[(.agg h0), (.slice again1 again1n again1c)] w R :=
  den5 [(.agg h0), (.slice again1 again1n again1c)] w R (by simp) ((e5 h0 again1 again1n again1c w R).symm ▸ h)

end Go.Proofs.Ytjchneebdlncfaa.Fn
