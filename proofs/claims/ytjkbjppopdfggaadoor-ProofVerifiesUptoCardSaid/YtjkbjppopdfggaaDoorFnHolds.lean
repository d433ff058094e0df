/-
  THE CODE of some functions of the given program, resolved, and proved to ask what the readable texts (d..) say; contracts c.. follow. Printed by a small program of mine.
-/
import Derived.Test.YtjkbjppopdfggaaDoorDenSound9
import Derived.Test.YtjkbjppopdfggaaDoorProg
set_option maxRecDepth 100000
namespace Go.Proofs.YtjkbjppopdfggaaDoor.Fn
open Go Den
/-- prelude/proof.holds -/
def s56 : Den.T := (.seq (.ops [⟨(some 3), (.box 24 (.tmp 0)), .ptr, none⟩,
  ⟨(some 4), (.box 22 (.tmp 1)), .ptr, none⟩,
  ⟨(some 5), (.box 43 (.tmp 2)), .ptr, none⟩,
  ⟨(some 6), (.alloc 4), .ptr, none⟩] [5, 6, 3, 4])
 (.seq (.ops [⟨(some 14), (.fa 0 (.tmp 5)), .ptr, none⟩,
  ⟨(some 15), (.ld1 (.tmp 14)), .sl, none⟩,
  ⟨(some 16), (.len (.tmp 15)), (.int .i64), none⟩,
  ⟨(some 17), (.mv (.const (.int .i64 0))), (.int .i64), none⟩] [17, 16, 15, 5, 6, 3, 4])
 (.seq (.block 0
 (.loop [(17, (.int .i64))] [3, 4, 5, 6, 15, 16]
 (.seq (.ops [⟨(some 18), (.bin .lss (.tmp 17) (.tmp 16)), .any, none⟩] [18, 17, 15, 5, 6, 16, 3, 4])
 (.seq (.cond (.tmp 18)
 .skip
 (.exit 0))
 (.seq (.block 1
 (.seq (.ops [⟨(some 19), (.mv (.tmp 17)), (.int .i64), none⟩,
  ⟨(some 20), (.ia 33 (.tmp 15) (.tmp 17)), .ptr, none⟩,
  ⟨(some 21), (.ldN 33 (.tmp 20)), .agg, none⟩,
  ⟨(some 8), (.alloc 51), .ptr, none⟩,
  ⟨(some 7), (.mv (.tmp 19)), (.int .i64), none⟩,
  ⟨none, (.stN 33 (.tmp 8) (.tmp 21)), .any, none⟩] [8, 7, 5, 6, 17, 16, 15, 3, 4])
 (.seq (.draw (.take 0 ⟨(some 22), (.fa 0 (.tmp 8)), .ptr, none⟩
  (.take 1 ⟨(some 23), (.ld1 (.tmp 22)), (.int .i64), none⟩
  (.go 2 ⟨(some 24), (.call 52 [(.tmp 23)] [.bool]), .bool, none⟩ []
  (.take 3 ⟨(some 25), (.un .not (.tmp 24)), .bool, none⟩
  (.take 4 ⟨(some 26), (.mv (.tmp 25)), .bool, none⟩
  (.take 5 ⟨(some 27), (.mv (.tmp 7)), (.int .i64), (some (26, false))⟩
  (.take 6 ⟨(some 28), (.bin .gtr (.tmp 27) (.const (.int .i64 0))), .bool, (some (26, false))⟩
  (.take 7 ⟨(some 29), (.mv (.tmp 28)), .bool, (some (26, false))⟩
  (.take 8 ⟨(some 30), (.fa 0 (.tmp 5)), .ptr, (some (29, true))⟩
  (.take 9 ⟨(some 31), (.ld1 (.tmp 30)), .sl, (some (29, true))⟩
  (.take 10 ⟨(some 32), (.mv (.tmp 7)), (.int .i64), (some (29, true))⟩
  (.take 11 ⟨(some 33), (.bin .sub (.tmp 32) (.const (.int .i64 1))), (.int .i64), (some (29, true))⟩
  (.take 12 ⟨(some 34), (.ia 33 (.tmp 31) (.tmp 33)), .ptr, (some (29, true))⟩
  (.take 13 ⟨(some 35), (.fa 0 (.tmp 34)), .ptr, (some (29, true))⟩
  (.take 14 ⟨(some 36), (.ld1 (.tmp 35)), (.int .i64), (some (29, true))⟩
  (.take 15 ⟨(some 37), (.fa 0 (.tmp 8)), .ptr, (some (29, true))⟩
  (.take 16 ⟨(some 38), (.ld1 (.tmp 37)), (.int .i64), (some (29, true))⟩
  (.take 17 ⟨(some 39), (.bin .geq (.tmp 36) (.tmp 38)), .bool, (some (29, true))⟩
  (.take 18 ⟨(some 40), (.pick (.tmp 29) (.tmp 39) (.const (.bool false))), .bool, (some (26, false))⟩
  (.take 19 ⟨(some 41), (.pick (.tmp 26) (.const (.bool true)) (.tmp 40)), .bool, none⟩
  .done)))))))))))))))))))) [41, 6, 17, 16, 15, 5, 3, 4])
 (.cond (.tmp 41)
 (.seq (.ops [⟨none, (.st1 (.tmp 6) (.const (.bool false))), .any, none⟩] [6])
 .ret)
 .skip))))
 (.ops [⟨(some 42), (.bin .add (.tmp 17) (.const (.int .i64 1))), (.int .i64), none⟩,
  ⟨(some 17), (.mv (.tmp 42)), (.int .i64), none⟩] [17, 16, 15, 5, 6, 3, 4]))))))
 (.seq (.ops [⟨(some 43), (.fa 1 (.tmp 5)), .ptr, none⟩,
  ⟨(some 44), (.ld1 (.tmp 43)), .bool, none⟩,
  ⟨(some 45), (.un .not (.tmp 44)), .bool, none⟩] [45, 5, 3, 6, 4])
 (.seq (.cond (.tmp 45)
 (.seq (.ops [⟨(some 46), (.fa 0 (.tmp 5)), .ptr, none⟩,
  ⟨(some 47), (.ld1 (.tmp 46)), .sl, none⟩,
  ⟨(some 48), (.len (.tmp 47)), (.int .i64), none⟩,
  ⟨(some 49), (.bin .eql (.tmp 48) (.const (.int .i64 0))), .bool, none⟩,
  ⟨(some 50), (.mv (.tmp 49)), .bool, none⟩,
  ⟨(some 51), (.fa 2 (.tmp 5)), .ptr, (some (50, true))⟩,
  ⟨(some 52), (.ldN 3 (.tmp 51)), .agg, (some (50, true))⟩,
  ⟨(some 53), (.bld 31 (.fields [(0, 2), (2, 1)]) []), .agg, (some (50, true))⟩,
  ⟨(some 54), (.eqG .eql 31 (.tmp 52) (.tmp 53)), .bool, (some (50, true))⟩,
  ⟨(some 55), (.pick (.tmp 50) (.tmp 54) (.const (.bool false))), .bool, none⟩,
  ⟨(some 56), (.mv (.tmp 55)), .bool, none⟩,
  ⟨(some 57), (.ldN 32 (.tmp 3)), .agg, (some (56, true))⟩,
  ⟨(some 58), (.bld 24 (.elems 1) []), .agg, (some (56, true))⟩,
  ⟨(some 59), (.eqG .eql 24 (.tmp 57) (.tmp 58)), .bool, (some (56, true))⟩,
  ⟨(some 60), (.pick (.tmp 56) (.tmp 59) (.const (.bool false))), .bool, none⟩,
  ⟨none, (.st1 (.tmp 6) (.tmp 60)), .any, none⟩] [6])
 .ret)
 .skip)
 (.seq (.ops [⟨(some 62), (.fa 2 (.tmp 5)), .ptr, none⟩,
  ⟨(some 63), (.fa 0 (.tmp 62)), .ptr, none⟩,
  ⟨(some 64), (.ldN 2 (.tmp 63)), .agg, none⟩,
  ⟨(some 65), (.call 55 [(.tmp 64)] [.sl, (.int .i64)]), .any, none⟩,
  ⟨(some 61), (.mv (.tmp 65)), .any, none⟩,
  ⟨(some 66), (.ext 0 (.tmp 61)), .sl, none⟩,
  ⟨(some 67), (.ext 1 (.tmp 61)), (.int .i64), none⟩,
  ⟨(some 9), (.alloc 22), .ptr, none⟩,
  ⟨none, (.st1 (.tmp 9) (.tmp 66)), .any, none⟩,
  ⟨(some 10), (.mv (.tmp 67)), (.int .i64), none⟩] [10, 6, 5, 9, 4, 3])
 (.seq (.ops [⟨(some 68), (.mv (.tmp 10)), (.int .i64), none⟩,
  ⟨(some 69), (.bin .neq (.tmp 68) (.const (.int .i64 0))), .bool, none⟩] [69, 6, 5, 9, 4, 3])
 (.seq (.cond (.tmp 69)
 (.seq (.ops [⟨none, (.st1 (.tmp 6) (.const (.bool false))), .any, none⟩] [6])
 .ret)
 .skip)
 (.seq (.ops [⟨(some 70), (.fa 2 (.tmp 5)), .ptr, none⟩,
  ⟨(some 71), (.ldN 3 (.tmp 70)), .agg, none⟩,
  ⟨(some 72), (.call 51 [(.tmp 71)] [.agg]), .agg, none⟩,
  ⟨(some 11), (.alloc 24), .ptr, none⟩,
  ⟨none, (.stN 32 (.tmp 11) (.tmp 72)), .any, none⟩] [5, 9, 4, 6, 11, 3])
 (.seq (.ops [⟨(some 73), (.fa 0 (.tmp 5)), .ptr, none⟩,
  ⟨(some 74), (.ld1 (.tmp 73)), .sl, none⟩,
  ⟨(some 75), (.call 74 [(.tmp 74)] [.any]), .any, none⟩] [75, 9, 4, 6, 11, 3])
 (.rf (.tmp 75) [(76, (.int .i64)), (77, .agg)] [(13, .ptr)] [4, 6, 9, 11]
 (.ops [⟨(some 13), (.alloc 51), .ptr, none⟩,
  ⟨none, (.stN 33 (.tmp 13) (.tmp 77)), .any, none⟩] [9, 13, 4, 6, 11])
 (.block 3
 (.seq (.seq (.draw (.take 0 ⟨(some 78), (.ld1 (.tmp 9)), .sl, none⟩
  (.take 1 ⟨(some 79), (.fa 0 (.tmp 13)), .ptr, none⟩
  (.take 2 ⟨(some 80), (.ld1 (.tmp 79)), (.int .i64), none⟩
  (.take 4 ⟨(some 82), (.ld1 (.tmp 4)), .sl, none⟩
  (.take 5 ⟨(some 83), (.fa 0 (.tmp 13)), .ptr, none⟩
  (.take 6 ⟨(some 84), (.ld1 (.tmp 83)), (.int .i64), none⟩
  (.go 3 ⟨(some 81), (.call 75 [(.tmp 78), (.tmp 80)] [(.int .u8)]), (.int .u8), none⟩ [(6, ⟨(some 84), (.ld1 (.tmp 83)), (.int .i64), none⟩), (4, ⟨(some 82), (.ld1 (.tmp 4)), .sl, none⟩)]
  (.go 7 ⟨(some 85), (.call 75 [(.tmp 82), (.tmp 84)] [(.int .u8)]), (.int .u8), none⟩ []
  (.take 8 ⟨(some 86), (.bin .neq (.tmp 81) (.tmp 85)), .bool, none⟩
  .done))))))))) [86, 6, 4, 13, 11])
 (.cond (.tmp 86)
 (.seq (.ops [⟨none, (.st1 (.tmp 6) (.const (.bool false))), .any, none⟩] [])
 .ret)
 .skip))
 (.seq (.ops [⟨(some 87), (.ld1 (.tmp 4)), .sl, none⟩,
  ⟨(some 88), (.fa 0 (.tmp 13)), .ptr, none⟩,
  ⟨(some 89), (.ld1 (.tmp 88)), (.int .i64), none⟩,
  ⟨(some 90), (.call 75 [(.tmp 87), (.tmp 89)] [(.int .u8)]), (.int .u8), none⟩,
  ⟨(some 91), (.bin .eql (.tmp 90) (.const (.int .u8 0))), .bool, none⟩] [91, 13, 11])
 (.cond (.tmp 91)
 (.ops [⟨(some 92), (.fa 0 (.tmp 13)), .ptr, none⟩,
  ⟨(some 93), (.ld1 (.tmp 92)), (.int .i64), none⟩,
  ⟨(some 94), (.ldN 32 (.tmp 11)), .agg, none⟩,
  ⟨(some 95), (.fa 1 (.tmp 13)), .ptr, none⟩,
  ⟨(some 96), (.ldN 32 (.tmp 95)), .agg, none⟩,
  ⟨(some 97), (.call 53 [(.tmp 93), (.tmp 94), (.tmp 96)] [.agg]), .agg, none⟩,
  ⟨none, (.stN 32 (.tmp 11) (.tmp 97)), .any, none⟩] [])
 (.ops [⟨(some 98), (.fa 0 (.tmp 13)), .ptr, none⟩,
  ⟨(some 99), (.ld1 (.tmp 98)), (.int .i64), none⟩,
  ⟨(some 100), (.fa 1 (.tmp 13)), .ptr, none⟩,
  ⟨(some 101), (.ldN 32 (.tmp 100)), .agg, none⟩,
  ⟨(some 102), (.ldN 32 (.tmp 11)), .agg, none⟩,
  ⟨(some 103), (.call 53 [(.tmp 99), (.tmp 101), (.tmp 102)] [.agg]), .agg, none⟩,
  ⟨none, (.stN 32 (.tmp 11) (.tmp 103)), .any, none⟩] [])))))
 (.seq (.ops [⟨(some 104), (.ldN 32 (.tmp 11)), .agg, none⟩,
  ⟨(some 105), (.ldN 32 (.tmp 3)), .agg, none⟩,
  ⟨(some 106), (.eqG .eql 24 (.tmp 104) (.tmp 105)), .bool, none⟩,
  ⟨none, (.st1 (.tmp 6) (.tmp 106)), .any, none⟩] [6])
 (.last .ret)))))))))))))
def r56 : List Res := [.c1 6 .bool]
theorem tr56 : trT Tryd.prog [] 107 s56 (flat (Tryd.f56.body.getD .skip)) = some s56 := by kernel_rfl
theorem den56 (args : List Value) (w : World) (R : Ending → World → Prop) (hn : args.length ≤ 107) (h : denT Tryd.prog r56 R s56 [] (argsEnv 0 args) w) : Calls Tryd.prog 56 args.toArray w R :=
  calls_of_denT (pn := []) (fn := Tryd.f56) (c := Tryd.f56.body.getD .skip) Tryd.func56 (by kernel_rfl) (by rw [Tryd.ntmps56]; exact hn) (by rw [Tryd.ntmps56]; exact tr56) (by kernel_rfl) h
def d56 (root0 : Array Value) (b1 : Option Addr) (b1n : Nat) (b1c : Nat) (p2 : Array Value) (w : World) (R : Ending → World → Prop) : Prop :=
 ∀ w3 : World, w3 = World.alloc w (.cells root0 24) →
 ∀ w4 : World, w4 = World.alloc w3 (.cells #[(.slice b1 b1n b1c)] 22) →
 ∀ w5 : World, w5 = World.alloc w4 (.cells p2 43) →
 ∀ w6 : World, w6 = World.alloc w5 (.cells (zc Tryd.prog 4).toArray 4) →
 ∃ (x7 : Option Addr) (x7n : Nat) (x7c : Nat), World.cell? w6 (Addr.add ⟨World.heap w4 |>.size, 0, none⟩ 0) = some (.slice x7 x7n x7c) ∧
 ∃ I8 : Nat → Int → World → Prop,
 (∃ m, I8 m 0 w6) ∧
 (∀ (m9 : Nat) (w10 : World) (x11 : Int), I8 m9 x11 w10 →
 (bif (decide (x11 < ((x7n : Nat) : Int))) then
 (0 ≤ x11 ∧ x11 < ((x7n : Nat) : Int) ∧ optK x7 fun a12 =>
 ∃ cs13 : List Value, List.length cs13 = 33 ∧ Cells w10 (Addr.add a12 (Int.toNat x11 * 33)) cs13 ∧
 ∀ w14 : World, w14 = World.alloc w10 (.cells (zc Tryd.prog 51).toArray 51) →
 Array.size (List.toArray cs13) = 33 ∧ (∀ u ∈ Array.toList (List.toArray cs13), one u = true) ∧ Room w14 ⟨World.heap w10 |>.size, 0, none⟩ 33 ∧
 ∀ w15 : World, w15 = setCells w14 ⟨World.heap w10 |>.size, 0, none⟩ (Array.toList (List.toArray cs13)) 0 →
 ∀ w16 : World, w16 = World.drew w15 →
 ∃ x17 : Int, World.cell? w16 (Addr.add ⟨World.heap w10 |>.size, 0, none⟩ 0) = some (.int .i64 x17) ∧
 Calls Tryd.prog 52 #[(.int .i64 x17)] w16 fun e18 w19 => ∃ x20 : Bool, e18 = .returned (.bool x20) ∧
 (bif (!x20) then
 (one (.bool false) = true ∧ Option.isSome (World.cell? w19 ⟨World.heap w5 |>.size, 0, none⟩) = true ∧ World.frozen? w19 ⟨World.heap w5 |>.size, 0, none⟩ = false ∧
 ∀ w21 : World, w21 = World.setCell w19 ⟨World.heap w5 |>.size, 0, none⟩ (.bool false) →
 ∃ z22 : Bool, World.cell? w21 ⟨World.heap w5 |>.size, 0, none⟩ = some (.bool z22) ∧
 R (.returned (.bool z22)) w21)
 else
 ((bif (decide (0 < x11)) then
 (∃ (x23 : Option Addr) (x23n : Nat) (x23c : Nat), World.cell? w19 (Addr.add ⟨World.heap w4 |>.size, 0, none⟩ 0) = some (.slice x23 x23n x23c) ∧
 0 ≤ (IntKind.wrap .i64 (x11 - 1)) ∧ (IntKind.wrap .i64 (x11 - 1)) < ((x23n : Nat) : Int) ∧ optK x23 fun a24 =>
 ∃ x25 : Int, World.cell? w19 (Addr.add (Addr.add a24 (Int.toNat (IntKind.wrap .i64 (x11 - 1)) * 33)) 0) = some (.int .i64 x25) ∧
 ∃ x26 : Int, World.cell? w19 (Addr.add ⟨World.heap w10 |>.size, 0, none⟩ 0) = some (.int .i64 x26) ∧
 (bif (decide (x26 ≤ x25)) then
 (one (.bool false) = true ∧ Option.isSome (World.cell? w19 ⟨World.heap w5 |>.size, 0, none⟩) = true ∧ World.frozen? w19 ⟨World.heap w5 |>.size, 0, none⟩ = false ∧
 ∀ w27 : World, w27 = World.setCell w19 ⟨World.heap w5 |>.size, 0, none⟩ (.bool false) →
 ∃ z28 : Bool, World.cell? w27 ⟨World.heap w5 |>.size, 0, none⟩ = some (.bool z28) ∧
 R (.returned (.bool z28)) w27)
 else
 (∃ m29, m29 < m9 ∧ I8 m29 (IntKind.wrap .i64 (x11 + 1)) w19)))
 else
 (∃ m30, m30 < m9 ∧ I8 m30 (IntKind.wrap .i64 (x11 + 1)) w19)))))
 else
 (∃ x31 : Bool, World.cell? w10 (Addr.add ⟨World.heap w4 |>.size, 0, none⟩ 1) = some (.bool x31) ∧
 (bif (!x31) then
 (∃ (x32 : Option Addr) (x32n : Nat) (x32c : Nat), World.cell? w10 (Addr.add ⟨World.heap w4 |>.size, 0, none⟩ 0) = some (.slice x32 x32n x32c) ∧
 (bif (decide (((x32n : Nat) : Int) = 0)) then
 (∃ cs33 : List Value, List.length cs33 = 3 ∧ Cells w10 (Addr.add ⟨World.heap w4 |>.size, 0, none⟩ 2) cs33 ∧
 ∃ cs34, fillL (.fields [(0, 2), (2, 1)]) (zc Tryd.prog 31) [] = some cs34 ∧
 ∃ q35 : Bool, Sem.run Tryd.prog (do eqGuard .eql 31 (.tmp 52) (.tmp 53) (.agg (List.toArray cs33)) (.agg (List.toArray cs34)); binOp .eql 31 (.agg (List.toArray cs33)) (.agg (List.toArray cs34))) w10 = .ok (.bool q35) w10 ∧
 (bif q35 then
 (∃ cs36 : List Value, List.length cs36 = 32 ∧ Cells w10 ⟨World.heap w |>.size, 0, none⟩ cs36 ∧
 ∃ cs37, fillL (.elems 1) (zc Tryd.prog 24) [] = some cs37 ∧
 ∃ q38 : Bool, Sem.run Tryd.prog (do eqGuard .eql 24 (.tmp 57) (.tmp 58) (.agg (List.toArray cs36)) (.agg (List.toArray cs37)); binOp .eql 24 (.agg (List.toArray cs36)) (.agg (List.toArray cs37))) w10 = .ok (.bool q38) w10 ∧
 one (.bool q38) = true ∧ Option.isSome (World.cell? w10 ⟨World.heap w5 |>.size, 0, none⟩) = true ∧ World.frozen? w10 ⟨World.heap w5 |>.size, 0, none⟩ = false ∧
 ∀ w39 : World, w39 = World.setCell w10 ⟨World.heap w5 |>.size, 0, none⟩ (.bool q38) →
 ∃ z40 : Bool, World.cell? w39 ⟨World.heap w5 |>.size, 0, none⟩ = some (.bool z40) ∧
 R (.returned (.bool z40)) w39)
 else
 (one (.bool false) = true ∧ Option.isSome (World.cell? w10 ⟨World.heap w5 |>.size, 0, none⟩) = true ∧ World.frozen? w10 ⟨World.heap w5 |>.size, 0, none⟩ = false ∧
 ∀ w41 : World, w41 = World.setCell w10 ⟨World.heap w5 |>.size, 0, none⟩ (.bool false) →
 ∃ z42 : Bool, World.cell? w41 ⟨World.heap w5 |>.size, 0, none⟩ = some (.bool z42) ∧
 R (.returned (.bool z42)) w41)))
 else
 (one (.bool false) = true ∧ Option.isSome (World.cell? w10 ⟨World.heap w5 |>.size, 0, none⟩) = true ∧ World.frozen? w10 ⟨World.heap w5 |>.size, 0, none⟩ = false ∧
 ∀ w43 : World, w43 = World.setCell w10 ⟨World.heap w5 |>.size, 0, none⟩ (.bool false) →
 ∃ z44 : Bool, World.cell? w43 ⟨World.heap w5 |>.size, 0, none⟩ = some (.bool z44) ∧
 R (.returned (.bool z44)) w43)))
 else
 (∃ cs45 : List Value, List.length cs45 = 2 ∧ Cells w10 (Addr.add (Addr.add ⟨World.heap w4 |>.size, 0, none⟩ 2) 0) cs45 ∧
 Calls Tryd.prog 55 #[(.agg (List.toArray cs45))] w10 fun e46 w47 => ∃ (x48 : Option Addr) (x48n : Nat) (x48c : Nat), ∃ x49 : Int, e46 = .returned (.tuple #[(.slice x48 x48n x48c), (.int .i64 x49)]) ∧
 ∃ (x50 : Option Addr) (x50n : Nat) (x50c : Nat), (#[(.slice x48 x48n x48c), (.int .i64 x49)] : Array Value)[0]? = some (.slice x50 x50n x50c) ∧
 ∃ x51 : Int, (#[(.slice x48 x48n x48c), (.int .i64 x49)] : Array Value)[1]? = some (.int .i64 x51) ∧
 ∀ w52 : World, w52 = World.alloc w47 (.cells (zc Tryd.prog 22).toArray 22) →
 one (.slice x50 x50n x50c) = true ∧ Option.isSome (World.cell? w52 ⟨World.heap w47 |>.size, 0, none⟩) = true ∧ World.frozen? w52 ⟨World.heap w47 |>.size, 0, none⟩ = false ∧
 ∀ w53 : World, w53 = World.setCell w52 ⟨World.heap w47 |>.size, 0, none⟩ (.slice x50 x50n x50c) →
 (bif (!decide (x51 = 0)) then
 (one (.bool false) = true ∧ Option.isSome (World.cell? w53 ⟨World.heap w5 |>.size, 0, none⟩) = true ∧ World.frozen? w53 ⟨World.heap w5 |>.size, 0, none⟩ = false ∧
 ∀ w54 : World, w54 = World.setCell w53 ⟨World.heap w5 |>.size, 0, none⟩ (.bool false) →
 ∃ z55 : Bool, World.cell? w54 ⟨World.heap w5 |>.size, 0, none⟩ = some (.bool z55) ∧
 R (.returned (.bool z55)) w54)
 else
 (∃ cs56 : List Value, List.length cs56 = 3 ∧ Cells w53 (Addr.add ⟨World.heap w4 |>.size, 0, none⟩ 2) cs56 ∧
 Calls Tryd.prog 51 #[(.agg (List.toArray cs56))] w53 fun e57 w58 => ∃ x59 : Array Value, e57 = .returned (.agg x59) ∧
 ∀ w60 : World, w60 = World.alloc w58 (.cells (zc Tryd.prog 24).toArray 24) →
 Array.size x59 = 32 ∧ (∀ u ∈ Array.toList x59, one u = true) ∧ Room w60 ⟨World.heap w58 |>.size, 0, none⟩ 32 ∧
 ∀ w61 : World, w61 = setCells w60 ⟨World.heap w58 |>.size, 0, none⟩ (Array.toList x59) 0 →
 ∃ (x62 : Option Addr) (x62n : Nat) (x62c : Nat), World.cell? w61 (Addr.add ⟨World.heap w4 |>.size, 0, none⟩ 0) = some (.slice x62 x62n x62c) ∧
 Calls Tryd.prog 74 #[(.slice x62 x62n x62c)] w61 fun e63 w64 => ∃ x65 : Value, e63 = .returned x65 ∧
 fnK x65 fun gf first lb => first = #[] ∧ HasBody Tryd.prog gf ∧
 LoopK Tryd.prog gf lb [(.int .i64), .agg] [.ptr] w64 (fun (vs : List Value) (J : Option Addr → World → Prop) (K : World → Prop) (w69 : World) => ∀ (x66 : Int) (x67 : Array Value), vs = [(.int .i64 x66), (.agg x67)] →
 ∀ w71 : World, w71 = World.alloc w69 (.cells (zc Tryd.prog 51).toArray 51) →
 Array.size x67 = 33 ∧ (∀ u ∈ Array.toList x67, one u = true) ∧ Room w71 ⟨World.heap w69 |>.size, 0, none⟩ 33 ∧
 ∀ w72 : World, w72 = setCells w71 ⟨World.heap w69 |>.size, 0, none⟩ (Array.toList x67) 0 →
 (K w72 ∧ J (some ⟨World.heap w69 |>.size, 0, none⟩) w72))
 (fun (J : Option Addr → World → Prop) (go ret : World → Prop) (w70 : World) => ∀ (f68 : Option Addr), J f68 w70 →
 ∀ w73 : World, w73 = World.drew w70 →
 ∃ (x74 : Option Addr) (x74n : Nat) (x74c : Nat), World.cell? w73 ⟨World.heap w47 |>.size, 0, none⟩ = some (.slice x74 x74n x74c) ∧
 optK f68 fun a75 =>
 ∃ x76 : Int, World.cell? w73 (Addr.add a75 0) = some (.int .i64 x76) ∧
 ∃ (x77 : Option Addr) (x77n : Nat) (x77c : Nat), World.cell? w73 ⟨World.heap w3 |>.size, 0, none⟩ = some (.slice x77 x77n x77c) ∧
 optK f68 fun a78 =>
 ∃ x79 : Int, World.cell? w73 (Addr.add a78 0) = some (.int .i64 x79) ∧
 Calls Tryd.prog 75 #[(.slice x74 x74n x74c), (.int .i64 x76)] w73 fun e80 w81 => ∃ x82 : Int, e80 = .returned (.int .u8 x82) ∧
 (∃ z83 : Int, World.cell? w81 (Addr.add a78 0) = some (.int .i64 z83) ∧
 (((.int .i64 z83) : Value) = (.int .i64 x79) ∧ w81 = w81)) ∧
 (∃ (z84 : Option Addr) (z84n : Nat) (z84c : Nat), World.cell? w81 ⟨World.heap w3 |>.size, 0, none⟩ = some (.slice z84 z84n z84c) ∧
 (((.slice z84 z84n z84c) : Value) = (.slice x77 x77n x77c) ∧ w81 = w81)) ∧
 Calls Tryd.prog 75 #[(.slice x77 x77n x77c), (.int .i64 x79)] w81 fun e85 w86 => ∃ x87 : Int, e85 = .returned (.int .u8 x87) ∧
 (bif (!decide (x82 = x87)) then
 (one (.bool false) = true ∧ Option.isSome (World.cell? w86 ⟨World.heap w5 |>.size, 0, none⟩) = true ∧ World.frozen? w86 ⟨World.heap w5 |>.size, 0, none⟩ = false ∧
 ∀ w88 : World, w88 = World.setCell w86 ⟨World.heap w5 |>.size, 0, none⟩ (.bool false) →
 ret w88)
 else
 (∃ (x89 : Option Addr) (x89n : Nat) (x89c : Nat), World.cell? w86 ⟨World.heap w3 |>.size, 0, none⟩ = some (.slice x89 x89n x89c) ∧
 optK f68 fun a90 =>
 ∃ x91 : Int, World.cell? w86 (Addr.add a90 0) = some (.int .i64 x91) ∧
 Calls Tryd.prog 75 #[(.slice x89 x89n x89c), (.int .i64 x91)] w86 fun e92 w93 => ∃ x94 : Int, e92 = .returned (.int .u8 x94) ∧
 (bif (decide (x94 = 0)) then
 (optK f68 fun a95 =>
 ∃ x96 : Int, World.cell? w93 (Addr.add a95 0) = some (.int .i64 x96) ∧
 ∃ cs97 : List Value, List.length cs97 = 32 ∧ Cells w93 ⟨World.heap w58 |>.size, 0, none⟩ cs97 ∧
 optK f68 fun a98 =>
 ∃ cs99 : List Value, List.length cs99 = 32 ∧ Cells w93 (Addr.add a98 1) cs99 ∧
 Calls Tryd.prog 53 #[(.int .i64 x96), (.agg (List.toArray cs97)), (.agg (List.toArray cs99))] w93 fun e100 w101 => ∃ x102 : Array Value, e100 = .returned (.agg x102) ∧
 Array.size x102 = 32 ∧ (∀ u ∈ Array.toList x102, one u = true) ∧ Room w101 ⟨World.heap w58 |>.size, 0, none⟩ 32 ∧
 ∀ w103 : World, w103 = setCells w101 ⟨World.heap w58 |>.size, 0, none⟩ (Array.toList x102) 0 →
 go w103)
 else
 (optK f68 fun a104 =>
 ∃ x105 : Int, World.cell? w93 (Addr.add a104 0) = some (.int .i64 x105) ∧
 optK f68 fun a106 =>
 ∃ cs107 : List Value, List.length cs107 = 32 ∧ Cells w93 (Addr.add a106 1) cs107 ∧
 ∃ cs108 : List Value, List.length cs108 = 32 ∧ Cells w93 ⟨World.heap w58 |>.size, 0, none⟩ cs108 ∧
 Calls Tryd.prog 53 #[(.int .i64 x105), (.agg (List.toArray cs107)), (.agg (List.toArray cs108))] w93 fun e109 w110 => ∃ x111 : Array Value, e109 = .returned (.agg x111) ∧
 Array.size x111 = 32 ∧ (∀ u ∈ Array.toList x111, one u = true) ∧ Room w110 ⟨World.heap w58 |>.size, 0, none⟩ 32 ∧
 ∀ w112 : World, w112 = setCells w110 ⟨World.heap w58 |>.size, 0, none⟩ (Array.toList x111) 0 →
 go w112)))))
 (fun (D113 : Nat) (w114 : World) =>
 ∃ cs115 : List Value, List.length cs115 = 32 ∧ Cells w114 ⟨World.heap w58 |>.size, 0, none⟩ cs115 ∧
 ∃ cs116 : List Value, List.length cs116 = 32 ∧ Cells w114 ⟨World.heap w |>.size, 0, none⟩ cs116 ∧
 ∃ q117 : Bool, Sem.run Tryd.prog (do eqGuard .eql 24 (.tmp 104) (.tmp 105) (.agg (List.toArray cs115)) (.agg (List.toArray cs116)); binOp .eql 24 (.agg (List.toArray cs115)) (.agg (List.toArray cs116))) w114 = .ok (.bool q117) w114 ∧
 one (.bool q117) = true ∧ Option.isSome (World.cell? w114 ⟨World.heap w5 |>.size, 0, none⟩) = true ∧ World.frozen? w114 ⟨World.heap w5 |>.size, 0, none⟩ = false ∧
 ∀ w118 : World, w118 = World.setCell w114 ⟨World.heap w5 |>.size, 0, none⟩ (.bool q117) →
 leaveK [D113] w118 fun w119 =>
 ∃ z120 : Bool, World.cell? w119 ⟨World.heap w5 |>.size, 0, none⟩ = some (.bool z120) ∧
 R (.returned (.bool z120)) w119)
 (fun (D113 : Nat) (w114 : World) =>
 leaveK [D113] w114 fun w121 =>
 ∃ z122 : Bool, World.cell? w121 ⟨World.heap w5 |>.size, 0, none⟩ = some (.bool z122) ∧
 R (.returned (.bool z122)) w121))))))))
theorem e56 (root0 : Array Value) (b1 : Option Addr) (b1n : Nat) (b1c : Nat) (p2 : Array Value) (w : World) (R : Ending → World → Prop) : denT Tryd.prog r56 R s56 [] (argsEnv 0 [(.agg root0), (.slice b1 b1n b1c), (.agg p2)]) w = d56 root0 b1 b1n b1c p2 w R := by kernel_rfl
theorem c56 (root0 : Array Value) (b1 : Option Addr) (b1n : Nat) (b1c : Nat) (p2 : Array Value) {w : World} {R : Ending → World → Prop} (h : d56 root0 b1 b1n b1c p2 w R) : Calls Tryd.prog 56 #[(.agg root0), (.slice b1 b1n b1c), (.agg p2)] w R :=
  den56 [(.agg root0), (.slice b1 b1n b1c), (.agg p2)] w R (by simp) ((e56 root0 b1 b1n b1c p2 w R).symm ▸ h)

end Go.Proofs.YtjkbjppopdfggaaDoor.Fn
