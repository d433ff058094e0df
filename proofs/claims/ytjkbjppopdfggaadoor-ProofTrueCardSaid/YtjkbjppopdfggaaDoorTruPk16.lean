/-
  THE CODE of some functions of the given program, resolved, and proved to ask what the readable texts (d..) say; contracts c.. follow. Printed by a small program of mine.
  THE EXAMPLES THAT A LAW ASKS AHEAD: two trees of two rows: their roots, a proof, what differs (reckoned by the kernel), and the contract of works.
  THE LAW OF ROOTS: two trees have one root just if their rows are the same, or two unlike texts have one digest.
  THE LAW OF TRUTH: a tree's own proof says what stands there; a forged one that is taken and says something else shows two unlike texts with one digest.
  Own work. No macro, syntax, notation, axiom.
-/
import Derived.Test.YtjkbjppopdfggaaDoorTruPk3
import Derived.Test.YtjkbjppopdfggaaDoorProg
import Derived.Test.YtjkbjppopdfggaaDoorTruPk15
set_option maxRecDepth 100000
namespace Go.Proofs.YtjkbjppopdfggaaDoor.Fn
open Go Den
/-- prelude/preludelaw24.works -/
def s41 : S := (.seq (.ops [⟨(some 0), (.mv (.const (.bool false))), .bool, none⟩] [])
 (.seq (.ops [⟨(some 9), (.bld 29 (.fields [(0, 1), (1, 1)]) [(1, (.const (.int .i64 1)))]), .agg, none⟩,
  ⟨(some 10), (.bld 31 (.fields [(0, 2), (2, 1)]) [(0, (.tmp 9)), (1, (.const (.int .i64 10)))]), .agg, none⟩,
  ⟨(some 11), (.bld 29 (.fields [(0, 1), (1, 1)]) [(1, (.const (.int .i64 2)))]), .agg, none⟩,
  ⟨(some 12), (.bld 31 (.fields [(0, 2), (2, 1)]) [(0, (.tmp 11)), (1, (.const (.int .i64 20)))]), .agg, none⟩,
  ⟨(some 13), (.bldS 31 2 3 [(0, (.tmp 10)), (1, (.tmp 12))]), .sl, none⟩,
  ⟨(some 14), (.call 23 [(.tmp 13)] [.ptr, (.int .i64)]), .any, none⟩,
  ⟨(some 8), (.mv (.tmp 14)), .any, none⟩,
  ⟨(some 15), (.ext 0 (.tmp 8)), .ptr, none⟩,
  ⟨(some 16), (.ext 1 (.tmp 8)), (.int .i64), none⟩,
  ⟨(some 1), (.mv (.tmp 15)), .ptr, none⟩,
  ⟨(some 2), (.mv (.tmp 16)), (.int .i64), none⟩] [1, 2])
 (.seq (.ops [⟨(some 18), (.bld 29 (.fields [(0, 1), (1, 1)]) [(1, (.const (.int .i64 1)))]), .agg, none⟩,
  ⟨(some 19), (.bld 31 (.fields [(0, 2), (2, 1)]) [(0, (.tmp 18)), (1, (.const (.int .i64 10)))]), .agg, none⟩,
  ⟨(some 20), (.bld 29 (.fields [(0, 1), (1, 1)]) [(1, (.const (.int .i64 2)))]), .agg, none⟩,
  ⟨(some 21), (.bld 31 (.fields [(0, 2), (2, 1)]) [(0, (.tmp 20)), (1, (.const (.int .i64 21)))]), .agg, none⟩,
  ⟨(some 22), (.bldS 31 2 3 [(0, (.tmp 19)), (1, (.tmp 21))]), .sl, none⟩,
  ⟨(some 23), (.call 23 [(.tmp 22)] [.ptr, (.int .i64)]), .any, none⟩,
  ⟨(some 17), (.mv (.tmp 23)), .any, none⟩,
  ⟨(some 24), (.ext 0 (.tmp 17)), .ptr, none⟩,
  ⟨(some 25), (.ext 1 (.tmp 17)), (.int .i64), none⟩,
  ⟨(some 3), (.mv (.tmp 24)), .ptr, none⟩,
  ⟨(some 4), (.mv (.tmp 25)), (.int .i64), none⟩] [1, 3, 2, 4])
 (.join [] [1, 3]
 (.seq (.ops [⟨(some 26), (.mv (.tmp 1)), .ptr, none⟩,
  ⟨(some 27), (.nilEq false 1 (.tmp 26)), .bool, none⟩,
  ⟨(some 28), (.mv (.tmp 27)), .bool, none⟩,
  ⟨(some 29), (.mv (.tmp 3)), .ptr, (some (28, false))⟩,
  ⟨(some 30), (.nilEq false 1 (.tmp 29)), .bool, (some (28, false))⟩,
  ⟨(some 31), (.pick (.tmp 28) (.const (.bool true)) (.tmp 30)), .bool, none⟩,
  ⟨(some 32), (.mv (.tmp 31)), .bool, none⟩,
  ⟨(some 33), (.mv (.tmp 2)), (.int .i64), (some (32, false))⟩,
  ⟨(some 34), (.call 17 [(.tmp 33)] [(.int .i64)]), (.int .i64), (some (32, false))⟩,
  ⟨(some 35), (.bin .neq (.tmp 34) (.const (.int .i64 0))), .bool, (some (32, false))⟩,
  ⟨(some 36), (.pick (.tmp 32) (.const (.bool true)) (.tmp 35)), .bool, none⟩,
  ⟨(some 37), (.mv (.tmp 36)), .bool, none⟩,
  ⟨(some 38), (.mv (.tmp 4)), (.int .i64), (some (37, false))⟩,
  ⟨(some 39), (.call 17 [(.tmp 38)] [(.int .i64)]), (.int .i64), (some (37, false))⟩,
  ⟨(some 40), (.bin .neq (.tmp 39) (.const (.int .i64 0))), .bool, (some (37, false))⟩,
  ⟨(some 41), (.pick (.tmp 37) (.const (.bool true)) (.tmp 40)), .bool, none⟩,
  ⟨(some 42), (.mv (.tmp 41)), .bool, none⟩,
  ⟨(some 43), (.mv (.tmp 1)), .ptr, (some (42, false))⟩,
  ⟨(some 44), (.call 32 [(.tmp 43)] [.agg]), .agg, (some (42, false))⟩,
  ⟨(some 45), (.mv (.tmp 3)), .ptr, (some (42, false))⟩,
  ⟨(some 46), (.call 32 [(.tmp 45)] [.agg]), .agg, (some (42, false))⟩,
  ⟨(some 47), (.eqG .eql 24 (.tmp 44) (.tmp 46)), .bool, (some (42, false))⟩,
  ⟨(some 48), (.pick (.tmp 42) (.const (.bool true)) (.tmp 47)), .bool, none⟩] [48, 1, 3])
 (.cond (.tmp 48)
 (.seq (.ops [⟨(some 0), (.mv (.const (.bool false))), .bool, none⟩] [0])
 .ret)
 .skip))
 (.seq (.ops [⟨(some 50), (.mv (.tmp 1)), .ptr, none⟩,
  ⟨(some 51), (.bld 29 (.fields [(0, 1), (1, 1)]) [(1, (.const (.int .i64 3)))]), .agg, none⟩,
  ⟨(some 52), (.call 39 [(.tmp 50), (.tmp 51)] [.agg, (.int .i64)]), .any, none⟩,
  ⟨(some 49), (.mv (.tmp 52)), .any, none⟩,
  ⟨(some 53), (.ext 0 (.tmp 49)), .agg, none⟩,
  ⟨(some 54), (.ext 1 (.tmp 49)), (.int .i64), none⟩,
  ⟨(some 5), (.alloc 43), .ptr, none⟩,
  ⟨none, (.stN 5 (.tmp 5) (.tmp 53)), .any, none⟩,
  ⟨(some 2), (.mv (.tmp 54)), (.int .i64), none⟩] [2, 5, 1, 3])
 (.join [] [1, 3, 5]
 (.seq (.ops [⟨(some 55), (.mv (.tmp 2)), (.int .i64), none⟩,
  ⟨(some 56), (.call 17 [(.tmp 55)] [(.int .i64)]), (.int .i64), none⟩,
  ⟨(some 57), (.bin .neq (.tmp 56) (.const (.int .i64 0))), .bool, none⟩,
  ⟨(some 58), (.mv (.tmp 57)), .bool, none⟩,
  ⟨(some 59), (.fa 0 (.tmp 5)), .ptr, (some (58, false))⟩,
  ⟨(some 60), (.ld1 (.tmp 59)), .sl, (some (58, false))⟩,
  ⟨(some 61), (.len (.tmp 60)), (.int .i64), (some (58, false))⟩,
  ⟨(some 62), (.bin .neq (.tmp 61) (.const (.int .i64 1))), .bool, (some (58, false))⟩,
  ⟨(some 63), (.pick (.tmp 58) (.const (.bool true)) (.tmp 62)), .bool, none⟩,
  ⟨(some 64), (.mv (.tmp 63)), .bool, none⟩,
  ⟨(some 65), (.fa 0 (.tmp 5)), .ptr, (some (64, false))⟩,
  ⟨(some 66), (.ld1 (.tmp 65)), .sl, (some (64, false))⟩,
  ⟨(some 67), (.ia 33 (.tmp 66) (.const (.int .i64 0))), .ptr, (some (64, false))⟩,
  ⟨(some 68), (.fa 0 (.tmp 67)), .ptr, (some (64, false))⟩,
  ⟨(some 69), (.ld1 (.tmp 68)), (.int .i64), (some (64, false))⟩,
  ⟨(some 70), (.bin .neq (.tmp 69) (.const (.int .i64 78))), .bool, (some (64, false))⟩,
  ⟨(some 71), (.pick (.tmp 64) (.const (.bool true)) (.tmp 70)), .bool, none⟩,
  ⟨(some 72), (.mv (.tmp 71)), .bool, none⟩,
  ⟨(some 73), (.fa 1 (.tmp 5)), .ptr, (some (72, false))⟩,
  ⟨(some 74), (.ld1 (.tmp 73)), .bool, (some (72, false))⟩,
  ⟨(some 75), (.un .not (.tmp 74)), .bool, (some (72, false))⟩,
  ⟨(some 76), (.pick (.tmp 72) (.const (.bool true)) (.tmp 75)), .bool, none⟩,
  ⟨(some 77), (.mv (.tmp 76)), .bool, none⟩,
  ⟨(some 78), (.fa 2 (.tmp 5)), .ptr, (some (77, false))⟩,
  ⟨(some 79), (.fa 2 (.tmp 78)), .ptr, (some (77, false))⟩,
  ⟨(some 80), (.ld1 (.tmp 79)), (.int .i64), (some (77, false))⟩,
  ⟨(some 81), (.bin .neq (.tmp 80) (.const (.int .i64 20))), .bool, (some (77, false))⟩,
  ⟨(some 82), (.pick (.tmp 77) (.const (.bool true)) (.tmp 81)), .bool, none⟩] [82, 1, 5, 3])
 (.cond (.tmp 82)
 (.seq (.ops [⟨(some 0), (.mv (.const (.bool false))), .bool, none⟩] [0])
 .ret)
 .skip))
 (.join [(4, (.int .i64)), (6, .ptr)] [1, 3]
 (.draw (.take 0 ⟨(some 84), (.mv (.tmp 1)), .ptr, none⟩
  (.take 2 ⟨(some 86), (.bld 29 (.fields [(0, 1), (1, 1)]) [(1, (.const (.int .i64 3)))]), .agg, none⟩
  (.take 3 ⟨(some 87), (.ldN 5 (.tmp 5)), .agg, none⟩
  (.alt (.go 1 ⟨(some 85), (.call 32 [(.tmp 84)] [.agg]), .agg, none⟩ [(3, ⟨(some 87), (.ldN 5 (.tmp 5)), .agg, none⟩)]
  (.alt (.go 4 ⟨(some 88), (.call 18 [(.tmp 85), (.tmp 86), (.tmp 87)] [.agg, (.int .i64)]), .any, none⟩ []
  (.take 5 ⟨(some 83), (.mv (.tmp 88)), .any, none⟩
  (.take 6 ⟨(some 89), (.ext 0 (.tmp 83)), .agg, none⟩
  (.take 7 ⟨(some 90), (.ext 1 (.tmp 83)), (.int .i64), none⟩
  (.go 8 ⟨(some 6), (.alloc 45), .ptr, none⟩ []
  (.go 9 ⟨none, (.stN 2 (.tmp 6) (.tmp 89)), .any, none⟩ []
  (.take 10 ⟨(some 4), (.mv (.tmp 90)), (.int .i64), none⟩
  .done)))))))
 (.go 8 ⟨(some 6), (.alloc 45), .ptr, none⟩ [(3, ⟨(some 87), (.ldN 5 (.tmp 5)), .agg, none⟩)]
  (.go 4 ⟨(some 88), (.call 18 [(.tmp 85), (.tmp 86), (.tmp 87)] [.agg, (.int .i64)]), .any, none⟩ []
  (.take 5 ⟨(some 83), (.mv (.tmp 88)), .any, none⟩
  (.take 6 ⟨(some 89), (.ext 0 (.tmp 83)), .agg, none⟩
  (.take 7 ⟨(some 90), (.ext 1 (.tmp 83)), (.int .i64), none⟩
  (.go 9 ⟨none, (.stN 2 (.tmp 6) (.tmp 89)), .any, none⟩ []
  (.take 10 ⟨(some 4), (.mv (.tmp 90)), (.int .i64), none⟩
  .done)))))))))
 (.go 8 ⟨(some 6), (.alloc 45), .ptr, none⟩ [(3, ⟨(some 87), (.ldN 5 (.tmp 5)), .agg, none⟩)]
  (.go 1 ⟨(some 85), (.call 32 [(.tmp 84)] [.agg]), .agg, none⟩ [(3, ⟨(some 87), (.ldN 5 (.tmp 5)), .agg, none⟩)]
  (.go 4 ⟨(some 88), (.call 18 [(.tmp 85), (.tmp 86), (.tmp 87)] [.agg, (.int .i64)]), .any, none⟩ []
  (.take 5 ⟨(some 83), (.mv (.tmp 88)), .any, none⟩
  (.take 6 ⟨(some 89), (.ext 0 (.tmp 83)), .agg, none⟩
  (.take 7 ⟨(some 90), (.ext 1 (.tmp 83)), (.int .i64), none⟩
  (.go 9 ⟨none, (.stN 2 (.tmp 6) (.tmp 89)), .any, none⟩ []
  (.take 10 ⟨(some 4), (.mv (.tmp 90)), (.int .i64), none⟩
  .done)))))))))))) [1, 3, 4, 6])
 (.seq (.ops [⟨(some 91), (.mv (.tmp 1)), .ptr, none⟩,
  ⟨(some 92), (.mv (.tmp 3)), .ptr, none⟩,
  ⟨(some 93), (.call 25 [(.tmp 91), (.tmp 92)] [.sl]), .sl, none⟩,
  ⟨(some 7), (.mv (.tmp 93)), .sl, none⟩] [4, 6, 7])
 (.seq (.ops [⟨(some 94), (.mv (.tmp 4)), (.int .i64), none⟩,
  ⟨(some 95), (.call 17 [(.tmp 94)] [(.int .i64)]), (.int .i64), none⟩,
  ⟨(some 96), (.bin .eql (.tmp 95) (.const (.int .i64 0))), .bool, none⟩,
  ⟨(some 97), (.mv (.tmp 96)), .bool, none⟩,
  ⟨(some 98), (.fa 0 (.tmp 6)), .ptr, (some (97, true))⟩,
  ⟨(some 99), (.ld1 (.tmp 98)), .bool, (some (97, true))⟩,
  ⟨(some 100), (.un .not (.tmp 99)), .bool, (some (97, true))⟩,
  ⟨(some 101), (.pick (.tmp 97) (.tmp 100) (.const (.bool false))), .bool, none⟩,
  ⟨(some 102), (.mv (.tmp 101)), .bool, none⟩,
  ⟨(some 103), (.mv (.tmp 7)), .sl, (some (102, true))⟩,
  ⟨(some 104), (.len (.tmp 103)), (.int .i64), (some (102, true))⟩,
  ⟨(some 105), (.bin .eql (.tmp 104) (.const (.int .i64 1))), .bool, (some (102, true))⟩,
  ⟨(some 106), (.pick (.tmp 102) (.tmp 105) (.const (.bool false))), .bool, none⟩,
  ⟨(some 107), (.mv (.tmp 106)), .bool, none⟩,
  ⟨(some 108), (.mv (.tmp 7)), .sl, (some (107, true))⟩,
  ⟨(some 109), (.ia 6 (.tmp 108) (.const (.int .i64 0))), .ptr, (some (107, true))⟩,
  ⟨(some 110), (.fa 0 (.tmp 109)), .ptr, (some (107, true))⟩,
  ⟨(some 111), (.ldN 2 (.tmp 110)), .agg, (some (107, true))⟩,
  ⟨(some 112), (.bld 29 (.fields [(0, 1), (1, 1)]) [(1, (.const (.int .i64 2)))]), .agg, (some (107, true))⟩,
  ⟨(some 113), (.eqG .eql 29 (.tmp 111) (.tmp 112)), .bool, (some (107, true))⟩,
  ⟨(some 114), (.pick (.tmp 107) (.tmp 113) (.const (.bool false))), .bool, none⟩,
  ⟨(some 0), (.mv (.tmp 114)), .bool, none⟩] [0])
 .ret)))))))))
def r41 : List Res := [.t 0]
theorem tr41 : trS Tryd.prog [] 115 (Tryd.f41.body.getD .skip) s41 = some s41 := by kernel_rfl
theorem den41 (args : List Value) (w : World) (R : Ending → World → Prop) (hn : args.length ≤ 115) (h : denS Tryd.prog s41 (argsEnv 0 args) w (endK r41 R)) : Calls Tryd.prog 41 args.toArray w R :=
  calls_of_den (pn := []) (fn := Tryd.f41) (c := Tryd.f41.body.getD .skip) Tryd.func41 (by kernel_rfl) (by rw [Tryd.ntmps41]; exact hn) (by rw [Tryd.ntmps41]; exact tr41) (by kernel_rfl) h
def d41 (w : World) (R : Ending → World → Prop) : Prop :=
 ∃ cs0, fillL (.fields [(0, 1), (1, 1)]) (zc Tryd.prog 29) [(1, (.int .i64 1))] = some cs0 ∧
 ∃ cs1, fillL (.fields [(0, 2), (2, 1)]) (zc Tryd.prog 31) [(0, (.agg (List.toArray cs0))), (1, (.int .i64 10))] = some cs1 ∧
 ∃ cs2, fillL (.fields [(0, 1), (1, 1)]) (zc Tryd.prog 29) [(1, (.int .i64 2))] = some cs2 ∧
 ∃ cs3, fillL (.fields [(0, 2), (2, 1)]) (zc Tryd.prog 31) [(0, (.agg (List.toArray cs2))), (1, (.int .i64 20))] = some cs3 ∧
 ∃ cs4, fillL (.elems 3) (zrep (zc Tryd.prog 31) (2 * 3)) [(0, (.agg (List.toArray cs1))), (1, (.agg (List.toArray cs3)))] = some cs4 ∧
 ∀ w5 : World, w5 = World.alloc w (.cells (List.toArray cs4) 31) →
 Calls Tryd.prog 23 #[(.slice (some ⟨World.heap w |>.size, 0, none⟩) 2 2)] w5 fun e6 w7 => ∃ x8 : Option Addr, ∃ x9 : Int, e6 = .returned (.tuple #[(.pointer x8), (.int .i64 x9)]) ∧
 ∃ x10 : Option Addr, (#[(.pointer x8), (.int .i64 x9)] : Array Value)[0]? = some (.pointer x10) ∧
 ∃ x11 : Int, (#[(.pointer x8), (.int .i64 x9)] : Array Value)[1]? = some (.int .i64 x11) ∧
 ∃ cs12, fillL (.fields [(0, 1), (1, 1)]) (zc Tryd.prog 29) [(1, (.int .i64 1))] = some cs12 ∧
 ∃ cs13, fillL (.fields [(0, 2), (2, 1)]) (zc Tryd.prog 31) [(0, (.agg (List.toArray cs12))), (1, (.int .i64 10))] = some cs13 ∧
 ∃ cs14, fillL (.fields [(0, 1), (1, 1)]) (zc Tryd.prog 29) [(1, (.int .i64 2))] = some cs14 ∧
 ∃ cs15, fillL (.fields [(0, 2), (2, 1)]) (zc Tryd.prog 31) [(0, (.agg (List.toArray cs14))), (1, (.int .i64 21))] = some cs15 ∧
 ∃ cs16, fillL (.elems 3) (zrep (zc Tryd.prog 31) (2 * 3)) [(0, (.agg (List.toArray cs13))), (1, (.agg (List.toArray cs15)))] = some cs16 ∧
 ∀ w17 : World, w17 = World.alloc w7 (.cells (List.toArray cs16) 31) →
 Calls Tryd.prog 23 #[(.slice (some ⟨World.heap w7 |>.size, 0, none⟩) 2 2)] w17 fun e18 w19 => ∃ x20 : Option Addr, ∃ x21 : Int, e18 = .returned (.tuple #[(.pointer x20), (.int .i64 x21)]) ∧
 ∃ x22 : Option Addr, (#[(.pointer x20), (.int .i64 x21)] : Array Value)[0]? = some (.pointer x22) ∧
 ∃ x23 : Int, (#[(.pointer x20), (.int .i64 x21)] : Array Value)[1]? = some (.int .i64 x23) ∧
 ∃ J24 : World → Prop,
 ((bif (Option.isNone x10) then
 (R (.returned (.bool false)) w19)
 else
 ((bif (Option.isNone x22) then
 (R (.returned (.bool false)) w19)
 else
 (Calls Tryd.prog 17 #[(.int .i64 x11)] w19 fun e25 w26 => ∃ x27 : Int, e25 = .returned (.int .i64 x27) ∧
 (bif (!decide (x27 = 0)) then
 (R (.returned (.bool false)) w26)
 else
 (Calls Tryd.prog 17 #[(.int .i64 x23)] w26 fun e28 w29 => ∃ x30 : Int, e28 = .returned (.int .i64 x30) ∧
 (bif (!decide (x30 = 0)) then
 (R (.returned (.bool false)) w29)
 else
 (Calls Tryd.prog 32 #[(.pointer x10)] w29 fun e31 w32 => ∃ x33 : Array Value, e31 = .returned (.agg x33) ∧
 Calls Tryd.prog 32 #[(.pointer x22)] w32 fun e34 w35 => ∃ x36 : Array Value, e34 = .returned (.agg x36) ∧
 ∃ q37 : Bool, Sem.run Tryd.prog (do eqGuard .eql 24 (.tmp 44) (.tmp 46) (.agg x33) (.agg x36); binOp .eql 24 (.agg x33) (.agg x36)) w35 = .ok (.bool q37) w35 ∧
 (bif q37 then
 (R (.returned (.bool false)) w35)
 else
 (J24  w35))))))))))) ∧
 (∀ (w38 : World), J24  w38 →
 ∃ cs39, fillL (.fields [(0, 1), (1, 1)]) (zc Tryd.prog 29) [(1, (.int .i64 3))] = some cs39 ∧
 Calls Tryd.prog 39 #[(.pointer x10), (.agg (List.toArray cs39))] w38 fun e40 w41 => ∃ x42 : Array Value, ∃ x43 : Int, e40 = .returned (.tuple #[(.agg x42), (.int .i64 x43)]) ∧
 ∃ x44 : Array Value, (#[(.agg x42), (.int .i64 x43)] : Array Value)[0]? = some (.agg x44) ∧
 ∃ x45 : Int, (#[(.agg x42), (.int .i64 x43)] : Array Value)[1]? = some (.int .i64 x45) ∧
 ∀ w46 : World, w46 = World.alloc w41 (.cells (zc Tryd.prog 43).toArray 43) →
 Array.size x44 = 5 ∧ (∀ u ∈ Array.toList x44, one u = true) ∧ Room w46 ⟨World.heap w41 |>.size, 0, none⟩ 5 ∧
 ∀ w47 : World, w47 = setCells w46 ⟨World.heap w41 |>.size, 0, none⟩ (Array.toList x44) 0 →
 ∃ J48 : World → Prop,
 (Calls Tryd.prog 17 #[(.int .i64 x45)] w47 fun e49 w50 => ∃ x51 : Int, e49 = .returned (.int .i64 x51) ∧
 (bif (!decide (x51 = 0)) then
 (R (.returned (.bool false)) w50)
 else
 (∃ (x52 : Option Addr) (x52n : Nat) (x52c : Nat), World.cell? w50 (Addr.add ⟨World.heap w41 |>.size, 0, none⟩ 0) = some (.slice x52 x52n x52c) ∧
 (bif (!decide (((x52n : Nat) : Int) = 1)) then
 (R (.returned (.bool false)) w50)
 else
 (∃ (x53 : Option Addr) (x53n : Nat) (x53c : Nat), World.cell? w50 (Addr.add ⟨World.heap w41 |>.size, 0, none⟩ 0) = some (.slice x53 x53n x53c) ∧
 0 ≤ (0 : Int) ∧ (0 : Int) < ((x53n : Nat) : Int) ∧ optK x53 fun a54 =>
 ∃ x55 : Int, World.cell? w50 (Addr.add (Addr.add a54 (Int.toNat 0 * 33)) 0) = some (.int .i64 x55) ∧
 (bif (!decide (x55 = 78)) then
 (R (.returned (.bool false)) w50)
 else
 (∃ x56 : Bool, World.cell? w50 (Addr.add ⟨World.heap w41 |>.size, 0, none⟩ 1) = some (.bool x56) ∧
 (bif (!x56) then
 (R (.returned (.bool false)) w50)
 else
 (∃ x57 : Int, World.cell? w50 (Addr.add (Addr.add ⟨World.heap w41 |>.size, 0, none⟩ 2) 2) = some (.int .i64 x57) ∧
 (bif (!decide (x57 = 20)) then
 (R (.returned (.bool false)) w50)
 else
 (J48  w50))))))))))) ∧
 (∀ (w58 : World), J48  w58 →
 ∃ J59 : Int → Option Addr → World → Prop,
 (∀ w60 : World, w60 = World.drew w58 →
 ∃ cs61, fillL (.fields [(0, 1), (1, 1)]) (zc Tryd.prog 29) [(1, (.int .i64 3))] = some cs61 ∧
 ∃ cs62 : List Value, List.length cs62 = 5 ∧ Cells w60 ⟨World.heap w41 |>.size, 0, none⟩ cs62 ∧
 (Calls Tryd.prog 32 #[(.pointer x10)] w60 fun e63 w64 => ∃ x65 : Array Value, e63 = .returned (.agg x65) ∧
 (∃ cs66 : List Value, List.length cs66 = 5 ∧ Cells w64 ⟨World.heap w41 |>.size, 0, none⟩ cs66 ∧
 (((.agg (List.toArray cs66)) : Value) = (.agg (List.toArray cs62)) ∧ w64 = w64)) ∧
 (Calls Tryd.prog 18 #[(.agg x65), (.agg (List.toArray cs61)), (.agg (List.toArray cs62))] w64 fun e67 w68 => ∃ x69 : Array Value, ∃ x70 : Int, e67 = .returned (.tuple #[(.agg x69), (.int .i64 x70)]) ∧
 ∃ x71 : Array Value, (#[(.agg x69), (.int .i64 x70)] : Array Value)[0]? = some (.agg x71) ∧
 ∃ x72 : Int, (#[(.agg x69), (.int .i64 x70)] : Array Value)[1]? = some (.int .i64 x72) ∧
 ∀ w73 : World, w73 = World.alloc w68 (.cells (zc Tryd.prog 45).toArray 45) →
 Array.size x71 = 2 ∧ (∀ u ∈ Array.toList x71, one u = true) ∧ Room w73 ⟨World.heap w68 |>.size, 0, none⟩ 2 ∧
 ∀ w74 : World, w74 = setCells w73 ⟨World.heap w68 |>.size, 0, none⟩ (Array.toList x71) 0 →
 J59 x72 (some ⟨World.heap w68 |>.size, 0, none⟩) w74) ∧
 (∀ w75 : World, w75 = World.alloc w64 (.cells (zc Tryd.prog 45).toArray 45) →
 (∃ cs76 : List Value, List.length cs76 = 5 ∧ Cells w75 ⟨World.heap w41 |>.size, 0, none⟩ cs76 ∧
 (((.agg (List.toArray cs76)) : Value) = (.agg (List.toArray cs62)) ∧ w75 = w75)) ∧
 Calls Tryd.prog 18 #[(.agg x65), (.agg (List.toArray cs61)), (.agg (List.toArray cs62))] w75 fun e77 w78 => ∃ x79 : Array Value, ∃ x80 : Int, e77 = .returned (.tuple #[(.agg x79), (.int .i64 x80)]) ∧
 ∃ x81 : Array Value, (#[(.agg x79), (.int .i64 x80)] : Array Value)[0]? = some (.agg x81) ∧
 ∃ x82 : Int, (#[(.agg x79), (.int .i64 x80)] : Array Value)[1]? = some (.int .i64 x82) ∧
 Array.size x81 = 2 ∧ (∀ u ∈ Array.toList x81, one u = true) ∧ Room w78 ⟨World.heap w64 |>.size, 0, none⟩ 2 ∧
 ∀ w83 : World, w83 = setCells w78 ⟨World.heap w64 |>.size, 0, none⟩ (Array.toList x81) 0 →
 J59 x82 (some ⟨World.heap w64 |>.size, 0, none⟩) w83)) ∧
 (∀ w84 : World, w84 = World.alloc w60 (.cells (zc Tryd.prog 45).toArray 45) →
 (∃ cs85 : List Value, List.length cs85 = 5 ∧ Cells w84 ⟨World.heap w41 |>.size, 0, none⟩ cs85 ∧
 (((.agg (List.toArray cs85)) : Value) = (.agg (List.toArray cs62)) ∧ w84 = w84)) ∧
 Calls Tryd.prog 32 #[(.pointer x10)] w84 fun e86 w87 => ∃ x88 : Array Value, e86 = .returned (.agg x88) ∧
 (∃ cs89 : List Value, List.length cs89 = 5 ∧ Cells w87 ⟨World.heap w41 |>.size, 0, none⟩ cs89 ∧
 (((.agg (List.toArray cs89)) : Value) = (.agg (List.toArray cs62)) ∧ w87 = w87)) ∧
 Calls Tryd.prog 18 #[(.agg x88), (.agg (List.toArray cs61)), (.agg (List.toArray cs62))] w87 fun e90 w91 => ∃ x92 : Array Value, ∃ x93 : Int, e90 = .returned (.tuple #[(.agg x92), (.int .i64 x93)]) ∧
 ∃ x94 : Array Value, (#[(.agg x92), (.int .i64 x93)] : Array Value)[0]? = some (.agg x94) ∧
 ∃ x95 : Int, (#[(.agg x92), (.int .i64 x93)] : Array Value)[1]? = some (.int .i64 x95) ∧
 Array.size x94 = 2 ∧ (∀ u ∈ Array.toList x94, one u = true) ∧ Room w91 ⟨World.heap w60 |>.size, 0, none⟩ 2 ∧
 ∀ w96 : World, w96 = setCells w91 ⟨World.heap w60 |>.size, 0, none⟩ (Array.toList x94) 0 →
 J59 x95 (some ⟨World.heap w60 |>.size, 0, none⟩) w96)) ∧
 (∀ (w97 : World) (f98 : Int) (c99 : Option Addr), J59 f98 c99 w97 →
 Calls Tryd.prog 25 #[(.pointer x10), (.pointer x22)] w97 fun e100 w101 => ∃ (x102 : Option Addr) (x102n : Nat) (x102c : Nat), e100 = .returned (.slice x102 x102n x102c) ∧
 Calls Tryd.prog 17 #[(.int .i64 f98)] w101 fun e103 w104 => ∃ x105 : Int, e103 = .returned (.int .i64 x105) ∧
 (bif (decide (x105 = 0)) then
 (optK c99 fun a106 =>
 ∃ x107 : Bool, World.cell? w104 (Addr.add a106 0) = some (.bool x107) ∧
 (bif (!x107) then
 ((bif (decide (((x102n : Nat) : Int) = 1)) then
 (0 ≤ (0 : Int) ∧ (0 : Int) < ((x102n : Nat) : Int) ∧ optK x102 fun a108 =>
 ∃ cs109 : List Value, List.length cs109 = 2 ∧ Cells w104 (Addr.add (Addr.add a108 (Int.toNat 0 * 6)) 0) cs109 ∧
 ∃ cs110, fillL (.fields [(0, 1), (1, 1)]) (zc Tryd.prog 29) [(1, (.int .i64 2))] = some cs110 ∧
 ∃ q111 : Bool, Sem.run Tryd.prog (do eqGuard .eql 29 (.tmp 111) (.tmp 112) (.agg (List.toArray cs109)) (.agg (List.toArray cs110)); binOp .eql 29 (.agg (List.toArray cs109)) (.agg (List.toArray cs110))) w104 = .ok (.bool q111) w104 ∧
 R (.returned (.bool q111)) w104)
 else
 (R (.returned (.bool false)) w104)))
 else
 (R (.returned (.bool false)) w104)))
 else
 (R (.returned (.bool false)) w104)))))
theorem e41 (w : World) (R : Ending → World → Prop) : denS Tryd.prog s41 (argsEnv 0 []) w (endK r41 R) = d41  w R := by kernel_rfl
theorem c41 {w : World} {R : Ending → World → Prop} (h : d41  w R) : Calls Tryd.prog 41 #[] w R :=
  den41 [] w R (by simp) ((e41  w R).symm ▸ h)

/-- prelude/preludelaw24.ProofTrue -/
def s8 : S := (.seq (.ops [⟨(some 4), (.box 29 (.tmp 1)), .ptr, none⟩,
  ⟨(some 5), (.box 43 (.tmp 2)), .ptr, none⟩,
  ⟨(some 6), (.mv (.const (.bool false))), .bool, none⟩] [0, 4, 5])
 (.seq (.seq (.ops [⟨(some 15), (.call 41 [] [.bool]), .bool, none⟩,
  ⟨(some 16), (.un .not (.tmp 15)), .bool, none⟩] [16, 0, 4, 5])
 (.cond (.tmp 16)
 (.seq (.ops [⟨(some 6), (.mv (.const (.bool false))), .bool, none⟩] [6])
 .ret)
 .skip))
 (.seq (.ops [⟨(some 17), (.mv (.tmp 0)), .sl, none⟩,
  ⟨(some 18), (.call 22 [(.tmp 17)] [.sl]), .sl, none⟩,
  ⟨(some 19), (.call 21 [(.tmp 18)] [.sl]), .sl, none⟩,
  ⟨(some 7), (.mv (.tmp 19)), .sl, none⟩] [7, 4, 5])
 (.seq (.ops [⟨(some 21), (.mv (.tmp 7)), .sl, none⟩,
  ⟨(some 22), (.call 24 [(.tmp 21)] [.sl]), .sl, none⟩,
  ⟨(some 23), (.call 23 [(.tmp 22)] [.ptr, (.int .i64)]), .any, none⟩,
  ⟨(some 20), (.mv (.tmp 23)), .any, none⟩,
  ⟨(some 24), (.ext 0 (.tmp 20)), .ptr, none⟩,
  ⟨(some 25), (.ext 1 (.tmp 20)), (.int .i64), none⟩,
  ⟨(some 8), (.mv (.tmp 24)), .ptr, none⟩,
  ⟨(some 9), (.mv (.tmp 25)), (.int .i64), none⟩] [8, 9, 4, 7, 5])
 (.join [] [4, 5, 7, 8]
 (.seq (.ops [⟨(some 26), (.mv (.tmp 8)), .ptr, none⟩,
  ⟨(some 27), (.nilEq false 1 (.tmp 26)), .bool, none⟩,
  ⟨(some 28), (.mv (.tmp 27)), .bool, none⟩,
  ⟨(some 29), (.mv (.tmp 9)), (.int .i64), (some (28, false))⟩,
  ⟨(some 30), (.call 17 [(.tmp 29)] [(.int .i64)]), (.int .i64), (some (28, false))⟩,
  ⟨(some 31), (.bin .neq (.tmp 30) (.const (.int .i64 0))), .bool, (some (28, false))⟩,
  ⟨(some 32), (.pick (.tmp 28) (.const (.bool true)) (.tmp 31)), .bool, none⟩] [32, 8, 4, 7, 5])
 (.cond (.tmp 32)
 (.seq (.ops [⟨(some 6), (.mv (.const (.bool false))), .bool, none⟩] [6])
 .ret)
 .skip))
 (.seq (.ops [⟨(some 34), (.mv (.tmp 8)), .ptr, none⟩,
  ⟨(some 35), (.ldN 2 (.tmp 4)), .agg, none⟩,
  ⟨(some 36), (.call 39 [(.tmp 34), (.tmp 35)] [.agg, (.int .i64)]), .any, none⟩,
  ⟨(some 33), (.mv (.tmp 36)), .any, none⟩,
  ⟨(some 37), (.ext 0 (.tmp 33)), .agg, none⟩,
  ⟨(some 38), (.ext 1 (.tmp 33)), (.int .i64), none⟩,
  ⟨(some 10), (.alloc 43), .ptr, none⟩,
  ⟨none, (.stN 5 (.tmp 10) (.tmp 37)), .any, none⟩,
  ⟨(some 9), (.mv (.tmp 38)), (.int .i64), none⟩] [8, 4, 10, 9, 7, 5])
 (.join [(11, .ptr), (12, (.int .i64))] [4, 5, 7, 8, 9]
 (.draw (.take 0 ⟨(some 40), (.mv (.tmp 8)), .ptr, none⟩
  (.take 2 ⟨(some 42), (.ldN 2 (.tmp 4)), .agg, none⟩
  (.take 3 ⟨(some 43), (.ldN 5 (.tmp 10)), .agg, none⟩
  (.alt (.go 1 ⟨(some 41), (.call 32 [(.tmp 40)] [.agg]), .agg, none⟩ [(3, ⟨(some 43), (.ldN 5 (.tmp 10)), .agg, none⟩), (2, ⟨(some 42), (.ldN 2 (.tmp 4)), .agg, none⟩)]
  (.alt (.go 4 ⟨(some 44), (.call 18 [(.tmp 41), (.tmp 42), (.tmp 43)] [.agg, (.int .i64)]), .any, none⟩ []
  (.take 5 ⟨(some 39), (.mv (.tmp 44)), .any, none⟩
  (.take 6 ⟨(some 45), (.ext 0 (.tmp 39)), .agg, none⟩
  (.take 7 ⟨(some 46), (.ext 1 (.tmp 39)), (.int .i64), none⟩
  (.go 8 ⟨(some 11), (.alloc 45), .ptr, none⟩ []
  (.go 9 ⟨none, (.stN 2 (.tmp 11) (.tmp 45)), .any, none⟩ []
  (.take 10 ⟨(some 12), (.mv (.tmp 46)), (.int .i64), none⟩
  .done)))))))
 (.go 8 ⟨(some 11), (.alloc 45), .ptr, none⟩ [(3, ⟨(some 43), (.ldN 5 (.tmp 10)), .agg, none⟩), (2, ⟨(some 42), (.ldN 2 (.tmp 4)), .agg, none⟩)]
  (.go 4 ⟨(some 44), (.call 18 [(.tmp 41), (.tmp 42), (.tmp 43)] [.agg, (.int .i64)]), .any, none⟩ []
  (.take 5 ⟨(some 39), (.mv (.tmp 44)), .any, none⟩
  (.take 6 ⟨(some 45), (.ext 0 (.tmp 39)), .agg, none⟩
  (.take 7 ⟨(some 46), (.ext 1 (.tmp 39)), (.int .i64), none⟩
  (.go 9 ⟨none, (.stN 2 (.tmp 11) (.tmp 45)), .any, none⟩ []
  (.take 10 ⟨(some 12), (.mv (.tmp 46)), (.int .i64), none⟩
  .done)))))))))
 (.go 8 ⟨(some 11), (.alloc 45), .ptr, none⟩ [(3, ⟨(some 43), (.ldN 5 (.tmp 10)), .agg, none⟩), (2, ⟨(some 42), (.ldN 2 (.tmp 4)), .agg, none⟩)]
  (.go 1 ⟨(some 41), (.call 32 [(.tmp 40)] [.agg]), .agg, none⟩ [(3, ⟨(some 43), (.ldN 5 (.tmp 10)), .agg, none⟩), (2, ⟨(some 42), (.ldN 2 (.tmp 4)), .agg, none⟩)]
  (.go 4 ⟨(some 44), (.call 18 [(.tmp 41), (.tmp 42), (.tmp 43)] [.agg, (.int .i64)]), .any, none⟩ []
  (.take 5 ⟨(some 39), (.mv (.tmp 44)), .any, none⟩
  (.take 6 ⟨(some 45), (.ext 0 (.tmp 39)), .agg, none⟩
  (.take 7 ⟨(some 46), (.ext 1 (.tmp 39)), (.int .i64), none⟩
  (.go 9 ⟨none, (.stN 2 (.tmp 11) (.tmp 45)), .any, none⟩ []
  (.take 10 ⟨(some 12), (.mv (.tmp 46)), (.int .i64), none⟩
  .done)))))))))))) [9, 12, 11, 7, 4, 8, 5])
 (.seq (.seq (.ops [⟨(some 47), (.mv (.tmp 9)), (.int .i64), none⟩,
  ⟨(some 48), (.call 17 [(.tmp 47)] [(.int .i64)]), (.int .i64), none⟩,
  ⟨(some 49), (.bin .neq (.tmp 48) (.const (.int .i64 0))), .bool, none⟩] [49, 9, 12, 11, 7, 4, 8, 5])
 (.cond (.tmp 49)
 (.seq (.ops [⟨(some 50), (.mv (.tmp 9)), (.int .i64), none⟩,
  ⟨(some 51), (.call 17 [(.tmp 50)] [(.int .i64)]), (.int .i64), none⟩,
  ⟨(some 52), (.bin .eql (.tmp 51) (.const (.int .i64 20))), .bool, none⟩,
  ⟨(some 53), (.mv (.tmp 52)), .bool, none⟩,
  ⟨(some 54), (.mv (.tmp 12)), (.int .i64), (some (53, true))⟩,
  ⟨(some 55), (.call 17 [(.tmp 54)] [(.int .i64)]), (.int .i64), (some (53, true))⟩,
  ⟨(some 56), (.bin .eql (.tmp 55) (.const (.int .i64 20))), .bool, (some (53, true))⟩,
  ⟨(some 57), (.pick (.tmp 53) (.tmp 56) (.const (.bool false))), .bool, none⟩,
  ⟨(some 6), (.mv (.tmp 57)), .bool, none⟩] [6])
 .ret)
 .skip))
 (.join [] [4, 5, 7, 8, 11]
 (.seq (.draw (.take 0 ⟨(some 58), (.mv (.tmp 12)), (.int .i64), none⟩
  (.go 1 ⟨(some 59), (.call 17 [(.tmp 58)] [(.int .i64)]), (.int .i64), none⟩ []
  (.take 2 ⟨(some 60), (.bin .neq (.tmp 59) (.const (.int .i64 0))), .bool, none⟩
  (.take 3 ⟨(some 61), (.mv (.tmp 60)), .bool, none⟩
  (.take 4 ⟨(some 62), (.ldN 2 (.tmp 11)), .agg, (some (61, false))⟩
  (.take 5 ⟨(some 63), (.mv (.tmp 7)), .sl, (some (61, false))⟩
  (.take 6 ⟨(some 64), (.ldN 2 (.tmp 4)), .agg, (some (61, false))⟩
  (.go 7 ⟨(some 65), (.call 42 [(.tmp 63), (.tmp 64)] [.agg]), .agg, (some (61, false))⟩ [(4, ⟨(some 62), (.ldN 2 (.tmp 11)), .agg, (some (61, false))⟩)]
  (.take 8 ⟨(some 66), (.eqG .neq 45 (.tmp 62) (.tmp 65)), .bool, (some (61, false))⟩
  (.take 9 ⟨(some 67), (.pick (.tmp 61) (.const (.bool true)) (.tmp 66)), .bool, none⟩
  .done)))))))))) [67, 8, 4, 5, 11, 7])
 (.cond (.tmp 67)
 (.seq (.ops [⟨(some 6), (.mv (.const (.bool false))), .bool, none⟩] [6])
 .ret)
 .skip))
 (.seq (.draw (.take 0 ⟨(some 69), (.mv (.tmp 8)), .ptr, none⟩
  (.take 2 ⟨(some 71), (.ldN 2 (.tmp 4)), .agg, none⟩
  (.take 3 ⟨(some 72), (.ldN 5 (.tmp 5)), .agg, none⟩
  (.go 1 ⟨(some 70), (.call 32 [(.tmp 69)] [.agg]), .agg, none⟩ [(3, ⟨(some 72), (.ldN 5 (.tmp 5)), .agg, none⟩), (2, ⟨(some 71), (.ldN 2 (.tmp 4)), .agg, none⟩)]
  (.go 4 ⟨(some 73), (.call 18 [(.tmp 70), (.tmp 71), (.tmp 72)] [.agg, (.int .i64)]), .any, none⟩ []
  (.take 5 ⟨(some 68), (.mv (.tmp 73)), .any, none⟩
  (.take 6 ⟨(some 74), (.ext 0 (.tmp 68)), .agg, none⟩
  (.take 7 ⟨(some 75), (.ext 1 (.tmp 68)), (.int .i64), none⟩
  (.go 8 ⟨none, (.stN 2 (.tmp 11) (.tmp 74)), .any, none⟩ []
  (.take 9 ⟨(some 12), (.mv (.tmp 75)), (.int .i64), none⟩
  .done)))))))))) [12, 11, 7, 4, 5])
 (.join [] [4, 5, 7]
 (.seq (.draw (.take 0 ⟨(some 76), (.mv (.tmp 12)), (.int .i64), none⟩
  (.go 1 ⟨(some 77), (.call 17 [(.tmp 76)] [(.int .i64)]), (.int .i64), none⟩ []
  (.take 2 ⟨(some 78), (.bin .neq (.tmp 77) (.const (.int .i64 0))), .bool, none⟩
  (.take 3 ⟨(some 79), (.mv (.tmp 78)), .bool, none⟩
  (.take 4 ⟨(some 80), (.ldN 2 (.tmp 11)), .agg, (some (79, false))⟩
  (.take 5 ⟨(some 81), (.mv (.tmp 7)), .sl, (some (79, false))⟩
  (.take 6 ⟨(some 82), (.ldN 2 (.tmp 4)), .agg, (some (79, false))⟩
  (.go 7 ⟨(some 83), (.call 42 [(.tmp 81), (.tmp 82)] [.agg]), .agg, (some (79, false))⟩ [(4, ⟨(some 80), (.ldN 2 (.tmp 11)), .agg, (some (79, false))⟩)]
  (.take 8 ⟨(some 84), (.eqG .eql 45 (.tmp 80) (.tmp 83)), .bool, (some (79, false))⟩
  (.take 9 ⟨(some 85), (.pick (.tmp 79) (.const (.bool true)) (.tmp 84)), .bool, none⟩
  .done)))))))))) [85, 5, 7, 4])
 (.cond (.tmp 85)
 (.seq (.ops [⟨(some 6), (.mv (.const (.bool true))), .bool, none⟩] [6])
 .ret)
 .skip))
 (.seq (.seq (.ops [⟨(some 13), (.mv (.const (.int .i64 0))), (.int .i64), none⟩] [13, 5, 7, 4])
 (.block 0
 (.loop [(13, (.int .i64))] [4, 5, 7]
 (.seq (.seq (.ops [⟨(some 86), (.mv (.tmp 13)), (.int .i64), none⟩,
  ⟨(some 87), (.fa 0 (.tmp 5)), .ptr, none⟩,
  ⟨(some 88), (.ld1 (.tmp 87)), .sl, none⟩,
  ⟨(some 89), (.len (.tmp 88)), (.int .i64), none⟩,
  ⟨(some 90), (.bin .lss (.tmp 86) (.tmp 89)), .bool, none⟩] [90, 5, 13, 7, 4])
 (.cond (.tmp 90)
 .skip
 (.exit 0)))
 (.seq (.block 1
 (.seq (.ops [⟨(some 93), (.fa 0 (.tmp 5)), .ptr, none⟩,
  ⟨(some 94), (.ld1 (.tmp 93)), .sl, none⟩,
  ⟨(some 95), (.mv (.tmp 13)), (.int .i64), none⟩,
  ⟨(some 96), (.ia 33 (.tmp 94) (.tmp 95)), .ptr, none⟩,
  ⟨(some 97), (.fa 0 (.tmp 96)), .ptr, none⟩,
  ⟨(some 98), (.ld1 (.tmp 97)), (.int .i64), none⟩,
  ⟨(some 99), (.bin .lss (.tmp 98) (.const (.int .i64 0))), .bool, none⟩,
  ⟨(some 100), (.mv (.tmp 99)), .bool, none⟩,
  ⟨(some 101), (.fa 0 (.tmp 5)), .ptr, (some (100, false))⟩,
  ⟨(some 102), (.ld1 (.tmp 101)), .sl, (some (100, false))⟩,
  ⟨(some 103), (.mv (.tmp 13)), (.int .i64), (some (100, false))⟩,
  ⟨(some 104), (.ia 33 (.tmp 102) (.tmp 103)), .ptr, (some (100, false))⟩,
  ⟨(some 105), (.fa 0 (.tmp 104)), .ptr, (some (100, false))⟩,
  ⟨(some 106), (.ld1 (.tmp 105)), (.int .i64), (some (100, false))⟩,
  ⟨(some 107), (.bin .geq (.tmp 106) (.const (.int .i64 80))), .bool, (some (100, false))⟩,
  ⟨(some 108), (.pick (.tmp 100) (.const (.bool true)) (.tmp 107)), .bool, none⟩] [108, 13, 5, 7, 4])
 (.cond (.tmp 108)
 (.seq (.ops [⟨(some 6), (.mv (.const (.bool false))), .bool, none⟩] [6])
 .ret)
 .skip)))
 (.ops [⟨(some 91), (.mv (.tmp 13)), (.int .i64), none⟩,
  ⟨(some 92), (.bin .add (.tmp 91) (.const (.int .i64 1))), (.int .i64), none⟩,
  ⟨(some 13), (.mv (.tmp 92)), (.int .i64), none⟩] [13, 5, 7, 4]))))))
 (.seq (.draw (.take 0 ⟨(some 109), (.mv (.tmp 7)), .sl, none⟩
  (.take 2 ⟨(some 111), (.ldN 2 (.tmp 4)), .agg, none⟩
  (.take 3 ⟨(some 112), (.ldN 5 (.tmp 5)), .agg, none⟩
  (.go 1 ⟨(some 110), (.call 30 [(.tmp 109)] [.sl]), .sl, none⟩ [(3, ⟨(some 112), (.ldN 5 (.tmp 5)), .agg, none⟩), (2, ⟨(some 111), (.ldN 2 (.tmp 4)), .agg, none⟩)]
  (.go 4 ⟨(some 113), (.call 20 [(.tmp 111), (.tmp 112)] [.sl]), .sl, none⟩ []
  (.go 5 ⟨(some 114), (.app #[52, 52] 52 (.tmp 110) (.tmp 113)), .sl, none⟩ []
  (.take 6 ⟨(some 14), (.mv (.tmp 114)), .sl, none⟩
  .done))))))) [14])
 (.seq (.ops [⟨(some 115), (.mv (.tmp 14)), .sl, none⟩,
  ⟨(some 116), (.call 38 [(.tmp 115)] [.sl]), .sl, none⟩,
  ⟨(some 117), (.call 37 [(.tmp 116)] [.bool]), .bool, none⟩,
  ⟨(some 6), (.mv (.tmp 117)), .bool, none⟩] [6])
 .ret))))))))))))))
def r8 : List Res := [.t 6]
theorem tr8 : trS Tryd.prog [] 118 (Tryd.f8.body.getD .skip) s8 = some s8 := by kernel_rfl
theorem den8 (args : List Value) (w : World) (R : Ending → World → Prop) (hn : args.length ≤ 118) (h : denS Tryd.prog s8 (argsEnv 0 args) w (endK r8 R)) : Calls Tryd.prog 8 args.toArray w R :=
  calls_of_den (pn := []) (fn := Tryd.f8) (c := Tryd.f8.body.getD .skip) Tryd.func8 (by kernel_rfl) (by rw [Tryd.ntmps8]; exact hn) (by rw [Tryd.ntmps8]; exact tr8) (by kernel_rfl) h
def d8 (rows0 : Option Addr) (rows0n : Nat) (rows0c : Nat) (k1 : Array Value) (forged2 : Array Value) (w : World) (R : Ending → World → Prop) : Prop :=
 ∀ w3 : World, w3 = World.alloc w (.cells k1 29) →
 ∀ w4 : World, w4 = World.alloc w3 (.cells forged2 43) →
 Calls Tryd.prog 41 #[] w4 fun e5 w6 => ∃ x7 : Bool, e5 = .returned (.bool x7) ∧
 (bif (!x7) then
 (R (.returned (.bool false)) w6)
 else
 (Calls Tryd.prog 22 #[(.slice rows0 rows0n rows0c)] w6 fun e8 w9 => ∃ (x10 : Option Addr) (x10n : Nat) (x10c : Nat), e8 = .returned (.slice x10 x10n x10c) ∧
 Calls Tryd.prog 21 #[(.slice x10 x10n x10c)] w9 fun e11 w12 => ∃ (x13 : Option Addr) (x13n : Nat) (x13c : Nat), e11 = .returned (.slice x13 x13n x13c) ∧
 Calls Tryd.prog 24 #[(.slice x13 x13n x13c)] w12 fun e14 w15 => ∃ (x16 : Option Addr) (x16n : Nat) (x16c : Nat), e14 = .returned (.slice x16 x16n x16c) ∧
 Calls Tryd.prog 23 #[(.slice x16 x16n x16c)] w15 fun e17 w18 => ∃ x19 : Option Addr, ∃ x20 : Int, e17 = .returned (.tuple #[(.pointer x19), (.int .i64 x20)]) ∧
 ∃ x21 : Option Addr, (#[(.pointer x19), (.int .i64 x20)] : Array Value)[0]? = some (.pointer x21) ∧
 ∃ x22 : Int, (#[(.pointer x19), (.int .i64 x20)] : Array Value)[1]? = some (.int .i64 x22) ∧
 ∃ J23 : World → Prop,
 ((bif (Option.isNone x21) then
 (R (.returned (.bool false)) w18)
 else
 (Calls Tryd.prog 17 #[(.int .i64 x22)] w18 fun e24 w25 => ∃ x26 : Int, e24 = .returned (.int .i64 x26) ∧
 (bif (!decide (x26 = 0)) then
 (R (.returned (.bool false)) w25)
 else
 (J23  w25))))) ∧
 (∀ (w27 : World), J23  w27 →
 ∃ cs28 : List Value, List.length cs28 = 2 ∧ Cells w27 ⟨World.heap w |>.size, 0, none⟩ cs28 ∧
 Calls Tryd.prog 39 #[(.pointer x21), (.agg (List.toArray cs28))] w27 fun e29 w30 => ∃ x31 : Array Value, ∃ x32 : Int, e29 = .returned (.tuple #[(.agg x31), (.int .i64 x32)]) ∧
 ∃ x33 : Array Value, (#[(.agg x31), (.int .i64 x32)] : Array Value)[0]? = some (.agg x33) ∧
 ∃ x34 : Int, (#[(.agg x31), (.int .i64 x32)] : Array Value)[1]? = some (.int .i64 x34) ∧
 ∀ w35 : World, w35 = World.alloc w30 (.cells (zc Tryd.prog 43).toArray 43) →
 Array.size x33 = 5 ∧ (∀ u ∈ Array.toList x33, one u = true) ∧ Room w35 ⟨World.heap w30 |>.size, 0, none⟩ 5 ∧
 ∀ w36 : World, w36 = setCells w35 ⟨World.heap w30 |>.size, 0, none⟩ (Array.toList x33) 0 →
 ∃ J37 : Option Addr → Int → World → Prop,
 (∀ w38 : World, w38 = World.drew w36 →
 ∃ cs39 : List Value, List.length cs39 = 2 ∧ Cells w38 ⟨World.heap w |>.size, 0, none⟩ cs39 ∧
 ∃ cs40 : List Value, List.length cs40 = 5 ∧ Cells w38 ⟨World.heap w30 |>.size, 0, none⟩ cs40 ∧
 (Calls Tryd.prog 32 #[(.pointer x21)] w38 fun e41 w42 => ∃ x43 : Array Value, e41 = .returned (.agg x43) ∧
 (∃ cs44 : List Value, List.length cs44 = 5 ∧ Cells w42 ⟨World.heap w30 |>.size, 0, none⟩ cs44 ∧
 (((.agg (List.toArray cs44)) : Value) = (.agg (List.toArray cs40)) ∧ w42 = w42)) ∧
 (∃ cs45 : List Value, List.length cs45 = 2 ∧ Cells w42 ⟨World.heap w |>.size, 0, none⟩ cs45 ∧
 (((.agg (List.toArray cs45)) : Value) = (.agg (List.toArray cs39)) ∧ w42 = w42)) ∧
 (Calls Tryd.prog 18 #[(.agg x43), (.agg (List.toArray cs39)), (.agg (List.toArray cs40))] w42 fun e46 w47 => ∃ x48 : Array Value, ∃ x49 : Int, e46 = .returned (.tuple #[(.agg x48), (.int .i64 x49)]) ∧
 ∃ x50 : Array Value, (#[(.agg x48), (.int .i64 x49)] : Array Value)[0]? = some (.agg x50) ∧
 ∃ x51 : Int, (#[(.agg x48), (.int .i64 x49)] : Array Value)[1]? = some (.int .i64 x51) ∧
 ∀ w52 : World, w52 = World.alloc w47 (.cells (zc Tryd.prog 45).toArray 45) →
 Array.size x50 = 2 ∧ (∀ u ∈ Array.toList x50, one u = true) ∧ Room w52 ⟨World.heap w47 |>.size, 0, none⟩ 2 ∧
 ∀ w53 : World, w53 = setCells w52 ⟨World.heap w47 |>.size, 0, none⟩ (Array.toList x50) 0 →
 J37 (some ⟨World.heap w47 |>.size, 0, none⟩) x51 w53) ∧
 (∀ w54 : World, w54 = World.alloc w42 (.cells (zc Tryd.prog 45).toArray 45) →
 (∃ cs55 : List Value, List.length cs55 = 5 ∧ Cells w54 ⟨World.heap w30 |>.size, 0, none⟩ cs55 ∧
 (((.agg (List.toArray cs55)) : Value) = (.agg (List.toArray cs40)) ∧ w54 = w54)) ∧
 (∃ cs56 : List Value, List.length cs56 = 2 ∧ Cells w54 ⟨World.heap w |>.size, 0, none⟩ cs56 ∧
 (((.agg (List.toArray cs56)) : Value) = (.agg (List.toArray cs39)) ∧ w54 = w54)) ∧
 Calls Tryd.prog 18 #[(.agg x43), (.agg (List.toArray cs39)), (.agg (List.toArray cs40))] w54 fun e57 w58 => ∃ x59 : Array Value, ∃ x60 : Int, e57 = .returned (.tuple #[(.agg x59), (.int .i64 x60)]) ∧
 ∃ x61 : Array Value, (#[(.agg x59), (.int .i64 x60)] : Array Value)[0]? = some (.agg x61) ∧
 ∃ x62 : Int, (#[(.agg x59), (.int .i64 x60)] : Array Value)[1]? = some (.int .i64 x62) ∧
 Array.size x61 = 2 ∧ (∀ u ∈ Array.toList x61, one u = true) ∧ Room w58 ⟨World.heap w42 |>.size, 0, none⟩ 2 ∧
 ∀ w63 : World, w63 = setCells w58 ⟨World.heap w42 |>.size, 0, none⟩ (Array.toList x61) 0 →
 J37 (some ⟨World.heap w42 |>.size, 0, none⟩) x62 w63)) ∧
 (∀ w64 : World, w64 = World.alloc w38 (.cells (zc Tryd.prog 45).toArray 45) →
 (∃ cs65 : List Value, List.length cs65 = 5 ∧ Cells w64 ⟨World.heap w30 |>.size, 0, none⟩ cs65 ∧
 (((.agg (List.toArray cs65)) : Value) = (.agg (List.toArray cs40)) ∧ w64 = w64)) ∧
 (∃ cs66 : List Value, List.length cs66 = 2 ∧ Cells w64 ⟨World.heap w |>.size, 0, none⟩ cs66 ∧
 (((.agg (List.toArray cs66)) : Value) = (.agg (List.toArray cs39)) ∧ w64 = w64)) ∧
 Calls Tryd.prog 32 #[(.pointer x21)] w64 fun e67 w68 => ∃ x69 : Array Value, e67 = .returned (.agg x69) ∧
 (∃ cs70 : List Value, List.length cs70 = 5 ∧ Cells w68 ⟨World.heap w30 |>.size, 0, none⟩ cs70 ∧
 (((.agg (List.toArray cs70)) : Value) = (.agg (List.toArray cs40)) ∧ w68 = w68)) ∧
 (∃ cs71 : List Value, List.length cs71 = 2 ∧ Cells w68 ⟨World.heap w |>.size, 0, none⟩ cs71 ∧
 (((.agg (List.toArray cs71)) : Value) = (.agg (List.toArray cs39)) ∧ w68 = w68)) ∧
 Calls Tryd.prog 18 #[(.agg x69), (.agg (List.toArray cs39)), (.agg (List.toArray cs40))] w68 fun e72 w73 => ∃ x74 : Array Value, ∃ x75 : Int, e72 = .returned (.tuple #[(.agg x74), (.int .i64 x75)]) ∧
 ∃ x76 : Array Value, (#[(.agg x74), (.int .i64 x75)] : Array Value)[0]? = some (.agg x76) ∧
 ∃ x77 : Int, (#[(.agg x74), (.int .i64 x75)] : Array Value)[1]? = some (.int .i64 x77) ∧
 Array.size x76 = 2 ∧ (∀ u ∈ Array.toList x76, one u = true) ∧ Room w73 ⟨World.heap w38 |>.size, 0, none⟩ 2 ∧
 ∀ w78 : World, w78 = setCells w73 ⟨World.heap w38 |>.size, 0, none⟩ (Array.toList x76) 0 →
 J37 (some ⟨World.heap w38 |>.size, 0, none⟩) x77 w78)) ∧
 (∀ (w79 : World) (c80 : Option Addr) (f81 : Int), J37 c80 f81 w79 →
 Calls Tryd.prog 17 #[(.int .i64 x34)] w79 fun e82 w83 => ∃ x84 : Int, e82 = .returned (.int .i64 x84) ∧
 (bif (!decide (x84 = 0)) then
 (Calls Tryd.prog 17 #[(.int .i64 x34)] w83 fun e85 w86 => ∃ x87 : Int, e85 = .returned (.int .i64 x87) ∧
 (bif (decide (x87 = 20)) then
 (Calls Tryd.prog 17 #[(.int .i64 f81)] w86 fun e88 w89 => ∃ x90 : Int, e88 = .returned (.int .i64 x90) ∧
 R (.returned (.bool (decide (x90 = 20)))) w89)
 else
 (R (.returned (.bool false)) w86)))
 else
 (∃ J91 : World → Prop,
 (∀ w92 : World, w92 = World.drew w83 →
 Calls Tryd.prog 17 #[(.int .i64 f81)] w92 fun e93 w94 => ∃ x95 : Int, e93 = .returned (.int .i64 x95) ∧
 (bif (!decide (x95 = 0)) then
 ((True) ∧
 R (.returned (.bool false)) w94)
 else
 (optK c80 fun a96 =>
 ∃ cs97 : List Value, List.length cs97 = 2 ∧ Cells w94 a96 cs97 ∧
 ∃ cs98 : List Value, List.length cs98 = 2 ∧ Cells w94 ⟨World.heap w |>.size, 0, none⟩ cs98 ∧
 Calls Tryd.prog 42 #[(.slice x13 x13n x13c), (.agg (List.toArray cs98))] w94 fun e99 w100 => ∃ x101 : Array Value, e99 = .returned (.agg x101) ∧
 (optK c80 fun a102 =>
 ∃ cs103 : List Value, List.length cs103 = 2 ∧ Cells w100 a102 cs103 ∧
 (((.agg (List.toArray cs103)) : Value) = (.agg (List.toArray cs97)) ∧ w100 = w100)) ∧
 ∃ q104 : Bool, Sem.run Tryd.prog (do eqGuard .neq 45 (.tmp 62) (.tmp 65) (.agg (List.toArray cs97)) (.agg x101); binOp .neq 45 (.agg (List.toArray cs97)) (.agg x101)) w100 = .ok (.bool q104) w100 ∧
 (bif q104 then
 (R (.returned (.bool false)) w100)
 else
 (J91  w100))))) ∧
 (∀ (w105 : World), J91  w105 →
 ∀ w106 : World, w106 = World.drew w105 →
 ∃ cs107 : List Value, List.length cs107 = 2 ∧ Cells w106 ⟨World.heap w |>.size, 0, none⟩ cs107 ∧
 ∃ cs108 : List Value, List.length cs108 = 5 ∧ Cells w106 ⟨World.heap w3 |>.size, 0, none⟩ cs108 ∧
 Calls Tryd.prog 32 #[(.pointer x21)] w106 fun e109 w110 => ∃ x111 : Array Value, e109 = .returned (.agg x111) ∧
 (∃ cs112 : List Value, List.length cs112 = 5 ∧ Cells w110 ⟨World.heap w3 |>.size, 0, none⟩ cs112 ∧
 (((.agg (List.toArray cs112)) : Value) = (.agg (List.toArray cs108)) ∧ w110 = w110)) ∧
 (∃ cs113 : List Value, List.length cs113 = 2 ∧ Cells w110 ⟨World.heap w |>.size, 0, none⟩ cs113 ∧
 (((.agg (List.toArray cs113)) : Value) = (.agg (List.toArray cs107)) ∧ w110 = w110)) ∧
 Calls Tryd.prog 18 #[(.agg x111), (.agg (List.toArray cs107)), (.agg (List.toArray cs108))] w110 fun e114 w115 => ∃ x116 : Array Value, ∃ x117 : Int, e114 = .returned (.tuple #[(.agg x116), (.int .i64 x117)]) ∧
 ∃ x118 : Array Value, (#[(.agg x116), (.int .i64 x117)] : Array Value)[0]? = some (.agg x118) ∧
 ∃ x119 : Int, (#[(.agg x116), (.int .i64 x117)] : Array Value)[1]? = some (.int .i64 x119) ∧
 optK c80 fun a120 =>
 Array.size x118 = 2 ∧ (∀ u ∈ Array.toList x118, one u = true) ∧ Room w115 a120 2 ∧
 ∀ w121 : World, w121 = setCells w115 a120 (Array.toList x118) 0 →
 ∃ J122 : World → Prop,
 (∀ w123 : World, w123 = World.drew w121 →
 Calls Tryd.prog 17 #[(.int .i64 x119)] w123 fun e124 w125 => ∃ x126 : Int, e124 = .returned (.int .i64 x126) ∧
 (bif (!decide (x126 = 0)) then
 ((True) ∧
 R (.returned (.bool true)) w125)
 else
 (optK c80 fun a127 =>
 ∃ cs128 : List Value, List.length cs128 = 2 ∧ Cells w125 a127 cs128 ∧
 ∃ cs129 : List Value, List.length cs129 = 2 ∧ Cells w125 ⟨World.heap w |>.size, 0, none⟩ cs129 ∧
 Calls Tryd.prog 42 #[(.slice x13 x13n x13c), (.agg (List.toArray cs129))] w125 fun e130 w131 => ∃ x132 : Array Value, e130 = .returned (.agg x132) ∧
 (optK c80 fun a133 =>
 ∃ cs134 : List Value, List.length cs134 = 2 ∧ Cells w131 a133 cs134 ∧
 (((.agg (List.toArray cs134)) : Value) = (.agg (List.toArray cs128)) ∧ w131 = w131)) ∧
 ∃ q135 : Bool, Sem.run Tryd.prog (do eqGuard .eql 45 (.tmp 80) (.tmp 83) (.agg (List.toArray cs128)) (.agg x132); binOp .eql 45 (.agg (List.toArray cs128)) (.agg x132)) w131 = .ok (.bool q135) w131 ∧
 (bif q135 then
 (R (.returned (.bool true)) w131)
 else
 (J122  w131))))) ∧
 (∀ (w136 : World), J122  w136 →
 ∃ I137 : Nat → Int → World → Prop,
 (∃ m, I137 m 0 w136) ∧
 (∀ (m138 : Nat) (w139 : World) (i140 : Int), I137 m138 i140 w139 →
 ∃ (x141 : Option Addr) (x141n : Nat) (x141c : Nat), World.cell? w139 (Addr.add ⟨World.heap w3 |>.size, 0, none⟩ 0) = some (.slice x141 x141n x141c) ∧
 (bif (decide (i140 < ((x141n : Nat) : Int))) then
 (∃ (x142 : Option Addr) (x142n : Nat) (x142c : Nat), World.cell? w139 (Addr.add ⟨World.heap w3 |>.size, 0, none⟩ 0) = some (.slice x142 x142n x142c) ∧
 0 ≤ i140 ∧ i140 < ((x142n : Nat) : Int) ∧ optK x142 fun a143 =>
 ∃ x144 : Int, World.cell? w139 (Addr.add (Addr.add a143 (Int.toNat i140 * 33)) 0) = some (.int .i64 x144) ∧
 (bif (decide (x144 < 0)) then
 (R (.returned (.bool false)) w139)
 else
 (∃ (x145 : Option Addr) (x145n : Nat) (x145c : Nat), World.cell? w139 (Addr.add ⟨World.heap w3 |>.size, 0, none⟩ 0) = some (.slice x145 x145n x145c) ∧
 0 ≤ i140 ∧ i140 < ((x145n : Nat) : Int) ∧ optK x145 fun a146 =>
 ∃ x147 : Int, World.cell? w139 (Addr.add (Addr.add a146 (Int.toNat i140 * 33)) 0) = some (.int .i64 x147) ∧
 (bif (decide (80 ≤ x147)) then
 (R (.returned (.bool false)) w139)
 else
 (∃ m148, m148 < m138 ∧ I137 m148 (IntKind.wrap .i64 (i140 + 1)) w139)))))
 else
 (∀ w149 : World, w149 = World.drew w139 →
 ∃ cs150 : List Value, List.length cs150 = 2 ∧ Cells w149 ⟨World.heap w |>.size, 0, none⟩ cs150 ∧
 ∃ cs151 : List Value, List.length cs151 = 5 ∧ Cells w149 ⟨World.heap w3 |>.size, 0, none⟩ cs151 ∧
 Calls Tryd.prog 30 #[(.slice x13 x13n x13c)] w149 fun e152 w153 => ∃ (x154 : Option Addr) (x154n : Nat) (x154c : Nat), e152 = .returned (.slice x154 x154n x154c) ∧
 (∃ cs155 : List Value, List.length cs155 = 5 ∧ Cells w153 ⟨World.heap w3 |>.size, 0, none⟩ cs155 ∧
 (((.agg (List.toArray cs155)) : Value) = (.agg (List.toArray cs151)) ∧ w153 = w153)) ∧
 (∃ cs156 : List Value, List.length cs156 = 2 ∧ Cells w153 ⟨World.heap w |>.size, 0, none⟩ cs156 ∧
 (((.agg (List.toArray cs156)) : Value) = (.agg (List.toArray cs150)) ∧ w153 = w153)) ∧
 Calls Tryd.prog 20 #[(.agg (List.toArray cs150)), (.agg (List.toArray cs151))] w153 fun e157 w158 => ∃ (x159 : Option Addr) (x159n : Nat) (x159c : Nat), e157 = .returned (.slice x159 x159n x159c) ∧
 RunV Tryd.prog (Builtin.append_ #[52, 52] 52 #[(.slice x154 x154n x154c), (.slice x159 x159n x159c)]) w158 fun v160 w161 => ∃ (x162 : Option Addr) (x162n : Nat) (x162c : Nat), v160 = (.slice x162 x162n x162c) ∧
 Calls Tryd.prog 38 #[(.slice x162 x162n x162c)] w161 fun e163 w164 => ∃ (x165 : Option Addr) (x165n : Nat) (x165c : Nat), e163 = .returned (.slice x165 x165n x165c) ∧
 Calls Tryd.prog 37 #[(.slice x165 x165n x165c)] w164 fun e166 w167 => ∃ x168 : Bool, e166 = .returned (.bool x168) ∧
 R (.returned (.bool x168)) w167)))))))))))
theorem e8 (rows0 : Option Addr) (rows0n : Nat) (rows0c : Nat) (k1 : Array Value) (forged2 : Array Value) (w : World) (R : Ending → World → Prop) : denS Tryd.prog s8 (argsEnv 0 [(.slice rows0 rows0n rows0c), (.agg k1), (.agg forged2)]) w (endK r8 R) = d8 rows0 rows0n rows0c k1 forged2 w R := by kernel_rfl
theorem c8 (rows0 : Option Addr) (rows0n : Nat) (rows0c : Nat) (k1 : Array Value) (forged2 : Array Value) {w : World} {R : Ending → World → Prop} (h : d8 rows0 rows0n rows0c k1 forged2 w R) : Calls Tryd.prog 8 #[(.slice rows0 rows0n rows0c), (.agg k1), (.agg forged2)] w R :=
  den8 [(.slice rows0 rows0n rows0c), (.agg k1), (.agg forged2)] w R (by simp) ((e8 rows0 rows0n rows0c k1 forged2 w R).symm ▸ h)

/-- prelude/preludelaw24.at -/
def s42 : S := (.seq (.ops [⟨(some 3), (.box 29 (.tmp 1)), .ptr, none⟩,
  ⟨(some 4), (.alloc 45), .ptr, none⟩] [0, 3, 4])
 (.seq (.seq (.ops [⟨(some 5), (.mv (.const (.int .i64 0))), (.int .i64), none⟩] [5, 0, 3, 4])
 (.block 0
 (.loop [(5, (.int .i64))] [0, 3, 4]
 (.seq (.seq (.ops [⟨(some 6), (.mv (.tmp 5)), (.int .i64), none⟩,
  ⟨(some 7), (.mv (.tmp 0)), .sl, none⟩,
  ⟨(some 8), (.len (.tmp 7)), (.int .i64), none⟩,
  ⟨(some 9), (.bin .lss (.tmp 6) (.tmp 8)), .bool, none⟩] [9, 0, 5, 3, 4])
 (.cond (.tmp 9)
 .skip
 (.exit 0)))
 (.seq (.block 1
 (.seq (.draw (.take 0 ⟨(some 12), (.mv (.tmp 0)), .sl, none⟩
  (.take 1 ⟨(some 13), (.mv (.tmp 5)), (.int .i64), none⟩
  (.take 2 ⟨(some 14), (.ia 3 (.tmp 12) (.tmp 13)), .ptr, none⟩
  (.take 3 ⟨(some 15), (.fa 0 (.tmp 14)), .ptr, none⟩
  (.take 4 ⟨(some 16), (.ldN 2 (.tmp 15)), .agg, none⟩
  (.take 5 ⟨(some 17), (.ldN 2 (.tmp 3)), .agg, none⟩
  (.take 6 ⟨(some 18), (.eqG .eql 29 (.tmp 16) (.tmp 17)), .bool, none⟩
  .done))))))) [18, 0, 5, 4, 3])
 (.cond (.tmp 18)
 (.seq (.ops [⟨(some 19), (.mv (.tmp 0)), .sl, none⟩,
  ⟨(some 20), (.mv (.tmp 5)), (.int .i64), none⟩,
  ⟨(some 21), (.ia 3 (.tmp 19) (.tmp 20)), .ptr, none⟩,
  ⟨(some 22), (.fa 2 (.tmp 21)), .ptr, none⟩,
  ⟨(some 23), (.ld1 (.tmp 22)), (.int .i64), none⟩,
  ⟨(some 24), (.bld 45 (.fields [(0, 1), (1, 1)]) [(0, (.const (.bool true))), (1, (.tmp 23))]), .agg, none⟩,
  ⟨none, (.stN 2 (.tmp 4) (.tmp 24)), .any, none⟩] [4])
 .ret)
 .skip)))
 (.ops [⟨(some 10), (.mv (.tmp 5)), (.int .i64), none⟩,
  ⟨(some 11), (.bin .add (.tmp 10) (.const (.int .i64 1))), (.int .i64), none⟩,
  ⟨(some 5), (.mv (.tmp 11)), (.int .i64), none⟩] [5, 0, 3, 4]))))))
 (.seq (.ops [⟨(some 25), (.bld 45 (.fields [(0, 1), (1, 1)]) []), .agg, none⟩,
  ⟨none, (.stN 2 (.tmp 4) (.tmp 25)), .any, none⟩] [4])
 .ret)))
def r42 : List Res := [.cN 4 2]
theorem tr42 : trS Tryd.prog [] 26 (Tryd.f42.body.getD .skip) s42 = some s42 := by kernel_rfl
theorem den42 (args : List Value) (w : World) (R : Ending → World → Prop) (hn : args.length ≤ 26) (h : denS Tryd.prog s42 (argsEnv 0 args) w (endK r42 R)) : Calls Tryd.prog 42 args.toArray w R :=
  calls_of_den (pn := []) (fn := Tryd.f42) (c := Tryd.f42.body.getD .skip) Tryd.func42 (by kernel_rfl) (by rw [Tryd.ntmps42]; exact hn) (by rw [Tryd.ntmps42]; exact tr42) (by kernel_rfl) h
def d42 (rows0 : Option Addr) (rows0n : Nat) (rows0c : Nat) (k1 : Array Value) (w : World) (R : Ending → World → Prop) : Prop :=
 ∀ w2 : World, w2 = World.alloc w (.cells k1 29) →
 ∀ w3 : World, w3 = World.alloc w2 (.cells (zc Tryd.prog 45).toArray 45) →
 ∃ I4 : Nat → Int → World → Prop,
 (∃ m, I4 m 0 w3) ∧
 (∀ (m5 : Nat) (w6 : World) (i7 : Int), I4 m5 i7 w6 →
 (bif (decide (i7 < ((rows0n : Nat) : Int))) then
 (∀ w8 : World, w8 = World.drew w6 →
 0 ≤ i7 ∧ i7 < ((rows0n : Nat) : Int) ∧ optK rows0 fun a9 =>
 ∃ cs10 : List Value, List.length cs10 = 2 ∧ Cells w8 (Addr.add (Addr.add a9 (Int.toNat i7 * 3)) 0) cs10 ∧
 ∃ cs11 : List Value, List.length cs11 = 2 ∧ Cells w8 ⟨World.heap w |>.size, 0, none⟩ cs11 ∧
 ∃ q12 : Bool, Sem.run Tryd.prog (do eqGuard .eql 29 (.tmp 16) (.tmp 17) (.agg (List.toArray cs10)) (.agg (List.toArray cs11)); binOp .eql 29 (.agg (List.toArray cs10)) (.agg (List.toArray cs11))) w8 = .ok (.bool q12) w8 ∧
 (bif q12 then
 (0 ≤ i7 ∧ i7 < ((rows0n : Nat) : Int) ∧ optK rows0 fun a13 =>
 ∃ x14 : Int, World.cell? w8 (Addr.add (Addr.add a13 (Int.toNat i7 * 3)) 2) = some (.int .i64 x14) ∧
 ∃ cs15, fillL (.fields [(0, 1), (1, 1)]) (zc Tryd.prog 45) [(0, (.bool true)), (1, (.int .i64 x14))] = some cs15 ∧
 Array.size (List.toArray cs15) = 2 ∧ (∀ u ∈ Array.toList (List.toArray cs15), one u = true) ∧ Room w8 ⟨World.heap w2 |>.size, 0, none⟩ 2 ∧
 ∀ w16 : World, w16 = setCells w8 ⟨World.heap w2 |>.size, 0, none⟩ (Array.toList (List.toArray cs15)) 0 →
 ∃ cs17 : List Value, List.length cs17 = 2 ∧ Cells w16 ⟨World.heap w2 |>.size, 0, none⟩ cs17 ∧
 R (.returned (.agg (List.toArray cs17))) w16)
 else
 (∃ m18, m18 < m5 ∧ I4 m18 (IntKind.wrap .i64 (i7 + 1)) w8)))
 else
 (∃ cs19, fillL (.fields [(0, 1), (1, 1)]) (zc Tryd.prog 45) [] = some cs19 ∧
 Array.size (List.toArray cs19) = 2 ∧ (∀ u ∈ Array.toList (List.toArray cs19), one u = true) ∧ Room w6 ⟨World.heap w2 |>.size, 0, none⟩ 2 ∧
 ∀ w20 : World, w20 = setCells w6 ⟨World.heap w2 |>.size, 0, none⟩ (Array.toList (List.toArray cs19)) 0 →
 ∃ cs21 : List Value, List.length cs21 = 2 ∧ Cells w20 ⟨World.heap w2 |>.size, 0, none⟩ cs21 ∧
 R (.returned (.agg (List.toArray cs21))) w20)))
theorem e42 (rows0 : Option Addr) (rows0n : Nat) (rows0c : Nat) (k1 : Array Value) (w : World) (R : Ending → World → Prop) : denS Tryd.prog s42 (argsEnv 0 [(.slice rows0 rows0n rows0c), (.agg k1)]) w (endK r42 R) = d42 rows0 rows0n rows0c k1 w R := by kernel_rfl
theorem c42 (rows0 : Option Addr) (rows0n : Nat) (rows0c : Nat) (k1 : Array Value) {w : World} {R : Ending → World → Prop} (h : d42 rows0 rows0n rows0c k1 w R) : Calls Tryd.prog 42 #[(.slice rows0 rows0n rows0c), (.agg k1)] w R :=
  den42 [(.slice rows0 rows0n rows0c), (.agg k1)] w R (by simp) ((e42 rows0 rows0n rows0c k1 w R).symm ▸ h)

end Go.Proofs.YtjkbjppopdfggaaDoor.Fn
namespace Go.Proofs.YtjkbjppopdfggaaDoor.Tre
open Go Den Fn Sha
open Go.RowKit (Below)
open Classical
set_option maxRecDepth 8000
set_option maxHeartbeats 4000000
abbrev rA : Rw := ⟨0, 1, 10⟩
abbrev rB : Rw := ⟨0, 2, 20⟩
abbrev rC : Rw := ⟨0, 2, 21⟩
theorem ex_ok {v v' : Int} (h : Sha.I64 v) (h' : Sha.I64 v') : RowsOk [⟨0, 1, v⟩, ⟨0, 2, v'⟩] := by
  refine ⟨fun x hx => ?_, ?_⟩
  · simp only [List.mem_cons, List.not_mem_nil, or_false] at hx
    rcases hx with rfl | rfl
    · exact ⟨show Sha.KeyOk 0 by decide, i64_0, i64_k1, h⟩
    · exact ⟨show Sha.KeyOk 0 by decide, i64_0, i64_k2, h'⟩
  · show List.Pairwise _ [((0 : Int), (1 : Int)), (0, 2)]
    refine List.pairwise_cons.2 ⟨fun b hb => ?_, List.pairwise_singleton _ _⟩
    rw [List.mem_singleton.1 hb]
    decide
theorem ex_bit {v v' : Int} : PartB [⟨0, 1, v⟩, ⟨0, 2, v'⟩] 78 := by
  refine ⟨_, _, rfl, rfl, ⟨by decide, ?_, ?_⟩, ?_, ?_⟩
  · show bitS (keyB 0 1) ((78 : Nat) : Int) ≠ bitS (keyB 0 2) ((78 : Nat) : Int)
    decide +kernel
  · show ∀ m : Nat, m < 78 → bitS (keyB 0 1) (m : Int) = bitS (keyB 0 2) (m : Int)
    decide +kernel
  · show bitS (keyB 0 1) ((78 : Nat) : Int) = 0
    decide +kernel
  · show bitS (keyB 0 2) ((78 : Nat) : Int) = 1
    decide +kernel
theorem ex_at {v v' : Int} : partAt [⟨0, 1, v⟩, ⟨0, 2, v'⟩] 78 = 1 := by
  have e1 : bitS (kw ⟨0, 1, v⟩) 78 = 0 := by show bitS (keyB 0 1) 78 = 0; decide +kernel
  have e2 : bitS (kw ⟨0, 2, v'⟩) 78 = 1 := by show bitS (keyB 0 2) 78 = 1; decide +kernel
  unfold partAt
  rw [List.findIdx_cons, List.findIdx_cons]
  simp [e1, e2]
theorem ex_tree {v v' : Int} (h : Sha.I64 v) (h' : Sha.I64 v') : treeT [⟨0, 1, v⟩, ⟨0, 2, v'⟩] = .fork 78 (.leaf ⟨0, 1, v⟩) (.leaf ⟨0, 2, v'⟩) := by
  have hok := ex_ok h h'
  rw [treeT_two hok (by simp)]
  have hb : partBit [(⟨0, 1, v⟩ : Rw), ⟨0, 2, v'⟩] = 78 := (partBit_ok hok (by simp)).unique ex_bit
  rw [hb, ex_at]
  show Tr.fork 78 (treeT [⟨0, 1, v⟩]) (treeT [⟨0, 2, v'⟩]) = _
  rw [treeT_one, treeT_one]
theorem ex_root {v v' : Int} (h : Sha.I64 v) (h' : Sha.I64 v') : rootS [⟨0, 1, v⟩, ⟨0, 2, v'⟩] = sha (forkT 78 (sha (leafT 0 1 v)) (sha (leafT 0 2 v'))) := by
  unfold rootS
  rw [if_neg (by simp), ex_tree h h']
  rfl
set_option maxRecDepth 100000 in
theorem ex_sums : sha (forkT 78 (sha (leafT 0 1 10)) (sha (leafT 0 2 20))) ≠ sha (forkT 78 (sha (leafT 0 1 10)) (sha (leafT 0 2 21))) := by decide +kernel
theorem i10 : Sha.I64 10 := by unfold Sha.I64; decide
theorem i20 : Sha.I64 20 := by unfold Sha.I64; decide
theorem i21 : Sha.I64 21 := by unfold Sha.I64; decide
theorem ex_roots : rootS [rA, rB] ≠ rootS [rA, rC] := by
  rw [ex_root i10 i20, ex_root i10 i21]
  exact ex_sums
theorem ex_proof : proofS (keyB 0 3) [rA, rB] = ⟨[⟨78, sha (leafT 0 1 10)⟩], true, 0, 2, 20⟩ := by
  have hb : bitS (keyB 0 3) ((78 : Nat) : Int) = 1 := by decide +kernel
  have e : proveS (keyB 0 3) (treeT [rA, rB]) = ([⟨78, sha (leafT 0 1 10)⟩], rB) := by
    rw [ex_tree i10 i20]
    unfold proveS
    rw [if_neg (by rw [hb]; decide)]
    rfl
  unfold proofS
  rw [if_neg (by simp), e]
theorem ex_diff : diffS 4 [rA, rB] [rA, rC] = [⟨(0, 2), (true, 20), (true, 21)⟩] := rfl
theorem ex_rises {v v' : Int} (h : Sha.I64 v) (h' : Sha.I64 v') : Lib.RisesS (keysOf [⟨0, 1, v⟩, ⟨0, 2, v'⟩]) := by
  have hok := ex_ok h h'
  refine rises_of_up (fun k hk => ?_) hok.up
  obtain ⟨x, hx, rfl⟩ := List.mem_map.1 hk
  exact (hok.ok x hx).key

/-- Rows that a call takes, laid down by the law. -/
theorem lit_rsl {w : World} {b : Nat} {l : List Rw} (h : Blk w b (rows rwC l)) {n : Nat} (hn : l.length = n) : RSl w 3 (some ⟨b, 0, none⟩) n n (rows rwC l) := by
  have := lent_rsl (ys := []) (c := n) (by rw [List.append_nil]; exact h) hn (Nat.le_refl _)
  exact this
theorem cell_no : zc Tryd.prog 45 = cellC (false, 0) := Sha.zcCell
theorem works_c (w : World) (hT : Tabs w) : Calls Tryd.prog 41 #[] w fun e w' => e = .returned (.bool true) ∧ Tch [] w w' := by
  refine c41 ?_
  unfold d41
  refine ⟨Lib.kC (0, 1), by rw [zcKey]; rfl, rwC rA, by rw [zcRow]; rfl, Lib.kC (0, 2), by rw [zcKey]; rfl, rwC rB, by rw [zcRow]; rfl, rows rwC [rA, rB], by rw [zcRow]; rfl, ?_⟩
  rintro w5 rfl
  have hB : Blk _ _ (rows rwC [rA, rB]) := Blk.fresh w (cs := rows rwC [rA, rB]) 31 rfl
  have t5 := (Tch.refl [] w).alloc (.cells (rows rwC [rA, rB]).toArray 31)
  have s5 := size_alloc w (.cells (rows rwC [rA, rB]).toArray 31)
  generalize w.alloc (.cells (rows rwC [rA, rB]).toArray 31) = w5 at *
  have hok1 := ex_ok i10 i20
  have hok2 := ex_ok i10 i21
  refine (new_c w5 [rA, rB] _ 2 2 (lit_rsl hB rfl) (ok_wf hok1) (by omega) (hT.tch t5)).mono ?_
  rintro e w7 ⟨t7, h7⟩
  rw [if_pos (ex_rises i10 i20)] at h7
  obtain ⟨ta, rfl, hta⟩ := h7
  refine ⟨_, _, rfl, _, rfl, _, rfl, ?_⟩
  refine ⟨Lib.kC (0, 1), by rw [zcKey]; rfl, rwC rA, by rw [zcRow]; rfl, Lib.kC (0, 2), by rw [zcKey]; rfl, rwC rC, by rw [zcRow]; rfl, rows rwC [rA, rC], by rw [zcRow]; rfl, ?_⟩
  rintro w17 rfl
  have hB2 : Blk _ _ (rows rwC [rA, rC]) := Blk.fresh w7 (cs := rows rwC [rA, rC]) 31 rfl
  have t17 := (Tch.refl [] w7).alloc (.cells (rows rwC [rA, rC]).toArray 31)
  have s17 := size_alloc w7 (.cells (rows rwC [rA, rC]).toArray 31)
  generalize w7.alloc (.cells (rows rwC [rA, rC]).toArray 31) = w17 at *
  have t := (t5.trans t7 (by simp)).trans t17 (by simp)
  refine (new_c w17 [rA, rC] _ 2 2 (lit_rsl hB2 rfl) (ok_wf hok2) (by omega) (hT.tch t)).mono ?_
  rintro e w19 ⟨t19, h19⟩
  rw [if_pos (ex_rises i10 i21)] at h19
  obtain ⟨tb, rfl, htb⟩ := h19
  refine ⟨_, _, rfl, _, rfl, _, rfl, ?_⟩
  replace t := t.trans t19 (by simp)
  have s7 := t7.size
  have s19 := t19.size
  have hF : ∀ z, (fun z => z < w19.heap.size) z → z < w19.heap.size := fun z hz => hz
  replace hta : TreeAt (fun z => z < w19.heap.size) w19 ta [rA, rB] := ((hta.tch t17 (by simp)).tch t19 (by simp)).mono fun z hz => by have := hz.2; omega
  replace htb : TreeAt (fun z => z < w19.heap.size) w19 tb [rA, rC] := htb.mono fun z hz => hz.2
  clear hB hB2 t5 t7 t17 t19 s5 s7 s17 s19
  generalize hF0 : (fun z => z < w19.heap.size) = F at *
  refine ⟨fun u => Tch [] w19 u, ?_, ?_⟩
  · rw [show Option.isNone (some (⟨ta, 0, none⟩ : Addr)) = false from rfl, cond_false, show Option.isNone (some (⟨tb, 0, none⟩ : Addr)) = false from rfl, cond_false]
    refine (num_c 0 w19).mono ?_
    rintro e w26 ⟨rfl, rfl⟩
    refine ⟨_, rfl, ?_⟩
    rw [bif_npos rfl]
    refine (num_c 0 w26).mono ?_
    rintro e w29 ⟨rfl, rfl⟩
    refine ⟨_, rfl, ?_⟩
    rw [bif_npos rfl]
    refine (root_c w29 ta _ hta).mono ?_
    rintro e w32 ⟨rfl, t32⟩
    refine ⟨_, rfl, ?_⟩
    refine (root_c w32 tb _ (htb.tch t32 (by simp))).mono ?_
    rintro e w35 ⟨rfl, t35⟩
    refine ⟨_, rfl, ?_⟩
    refine eq_flat_d dig_flat dig_eqT (dig_fits (rootS_len _) (rootS_bytes _)) (dig_fits (rootS_len _) (rootS_bytes _)) (p := False) ⟨fun h => ex_roots (map_u8_inj h), False.elim⟩ ?_
    rw [decide_eq_false not_false, cond_false]
    exact t32.trans t35 (by simp)
  intro w38 t38
  replace hta := hta.tch t38 (by simp)
  replace htb := htb.tch t38 (by simp)
  replace t := t.trans t38 (by simp)
  replace hF : ∀ z, F z → z < w38.heap.size := fun z hz => Nat.lt_of_lt_of_le (hF z hz) t38.size
  clear t38
  refine ⟨Lib.kC (0, 3), by rw [zcKey]; rfl, ?_⟩
  refine (prove_c w38 ta _ hta hok1 hF (by simp) (0, 3)).mono ?_
  rintro e w41 ⟨t41, h41⟩
  rw [if_pos (show Lib.KeyOk (0 : Int) by decide)] at h41
  obtain ⟨pa, pc, rfl, hpo⟩ := h41
  rw [show proofS (keyB ((0 : Int), (3 : Int)).1 ((0 : Int), (3 : Int)).2) [rA, rB] = _ from ex_proof] at hpo ⊢
  generalize hq : (⟨[⟨78, sha (leafT 0 1 10)⟩], true, 0, 2, 20⟩ : Pf) = q at *
  have hqf : q.fs = [⟨78, sha (leafT 0 1 10)⟩] := by rw [← hq]
  have hql : q.fs.length = 1 := by rw [hqf]; rfl
  rw [hql] at hpo ⊢
  refine ⟨_, _, rfl, _, rfl, _, rfl, ?_⟩
  replace hta := hta.tch t41 (by simp)
  replace htb := htb.tch t41 (by simp)
  replace t := t.trans t41 (by simp)
  replace hF : ∀ z, F z → z < w41.heap.size := fun z hz => Nat.lt_of_lt_of_le (hF z hz) t41.size
  clear t41
  have hfr := own_rsl hpo fkCs_one
  have hqok : q.ok := by
    rw [← hq]
    refine ⟨fun f hf => ?_, by unfold Sha.I64; decide, by unfold Sha.I64; decide, by unfold Sha.I64; decide⟩
    rw [List.mem_singleton.1 hf]
    exact ⟨by unfold Sha.I64; decide, sha_length _, sha_bytes _⟩
  have hPf : PfAt w41 pa 1 pc q := ⟨hqok, hfr⟩
  refine var_init (n := 5) (by rw [zcPf2]; rfl) rfl (by intro u hu; simp only [List.mem_cons, List.not_mem_nil, or_false] at hu; rcases hu with rfl | rfl | rfl | rfl | rfl <;> rfl) fun w46 w47 kP t47 s47 => ?_
  replace hta := hta.tch t47 (by simp)
  replace htb := htb.tch t47 (by simp)
  replace t := t.trans t47 (by simp)
  replace hF : ∀ z, F z → z < w47.heap.size := fun z hz => Nat.lt_of_lt_of_le (hF z hz) t47.size
  replace hPf := hPf.quiet t47
  clear t47 hfr hpo
  generalize w41.heap.size = pb at *
  refine ⟨fun u => u = w47, ?_, ?_⟩
  · refine (num_c 0 w47).mono ?_
    rintro e w50 ⟨rfl, rfl⟩
    refine ⟨_, rfl, ?_⟩
    rw [bif_npos rfl]
    refine ⟨pa, 1, pc, by rw [add_mk]; exact kP.cell 0, ?_⟩
    rw [bif_npos (show ((1 : Nat) : Int) = 1 from rfl)]
    refine ⟨pa, 1, pc, by rw [add_mk]; exact kP.cell 0, by omega, by omega, ?_⟩
    obtain ⟨yb, yo, rfl, hc⟩ := hPf.2.elem' (fkC_len hqok.fs) (by omega) (i := 0) (x := ⟨78, sha (leafT 0 1 10)⟩) (by rw [hqf]; rfl)
    refine ⟨78, by rw [add_mk, add_mk]; exact cells_get hc (i := 0) rfl, ?_⟩
    rw [bif_npos rfl]
    refine ⟨true, by rw [add_mk]; rw [show true = q.leaf by rw [← hq]]; exact kP.cell 1, ?_⟩
    rw [Bool.not_true, cond_false]
    refine ⟨20, by rw [add_mk, add_mk]; rw [show (20 : Int) = q.v by rw [← hq]]; exact kP.cell 4, ?_⟩
    rw [bif_npos rfl]
  intro w58 hw
  rw [hw]
  clear hw w58
  have hver : verS (rootS [rA, rB]) 0 3 q = (no, 0) := by
    have := own_proof hok1 (k := ((0 : Int), (3 : Int))) (by decide) (by unfold Sha.I64; decide)
    rw [show proofS (keyB ((0 : Int), (3 : Int)).1 ((0 : Int), (3 : Int)).2) [rA, rB] = _ from ex_proof, hq] at this
    exact this
  refine ⟨fun f c u => ∃ cb, f = 0 ∧ c = some ⟨cb, 0, none⟩ ∧ Blk u cb (cellC no) ∧ Tch [] w47 u, ?_, ?_⟩
  · rintro w60 rfl
    have td := (Tch.refl [] w47).drew
    have rk : ∀ u, Tch [] w47 u → Calls Tryd.prog 32 #[.pointer (some ⟨ta, 0, none⟩)] u fun e w' => e = .returned (.agg (u8 (rootS [rA, rB])).toArray) ∧ Tch [] u w' := fun u tu => root_c u ta _ (hta.tch tu (by simp))
    have vk : ∀ u, Tch [] w47 u → Calls Tryd.prog 18 #[.agg (u8 (rootS [rA, rB])).toArray, .agg (Lib.kC (0, 3)).toArray, .agg (pfC pa 1 pc q).toArray] u fun e w' => e = .returned (.tuple #[.agg (cellC no).toArray, .int .i64 0]) ∧ Tch [] u w' := fun u tu =>
      (verify_c u (rootS [rA, rB]) 0 3 (rootS_len _) (rootS_bytes _) (by unfold Sha.I64; decide) (by unfold Sha.I64; decide) q pa 1 pc (hPf.quiet tu) (by omega) (hT.tch (t.trans tu (by simp)))).mono fun e w' h => by
        unfold VerR at h
        rw [hver] at h
        exact h
    have kp : ∀ u, Tch [] w47 u → Blk u pb (pfC pa 1 pc q) := fun u tu => kP.tch tu (by simp)
    have c1 : ∀ u ∈ cellC no, one u = true := by simp [one]
    refine ⟨Lib.kC (0, 3), by rw [zcKey]; rfl, ?_⟩
    refine get_all (kp _ td) rfl ?_
    refine ⟨?_, ?_⟩
    · refine (rk _ td).mono ?_
      rintro e w64 ⟨rfl, t64⟩
      have q64 := td.trans t64 (by simp)
      refine ⟨_, rfl, get_all (kp _ q64) rfl ⟨rfl, rfl⟩, ?_, ?_⟩
      · refine (vk _ q64).mono ?_
        rintro e w68 ⟨rfl, t68⟩
        have q68 := q64.trans t68 (by simp)
        refine ⟨_, _, rfl, _, rfl, _, rfl, ?_⟩
        refine var_init (n := 2) (by rw [cell_no]; rfl) rfl c1 fun w73 w74 kc t74 s74 => ?_
        exact ⟨_, rfl, rfl, kc, q68.trans t74 (by simp)⟩
      · rintro w75 rfl
        have hN := Blk.fresh w64 (cs := zc Tryd.prog 45) 45 rfl
        have q75 := q64.trans ((Tch.refl [] w64).alloc (.cells (zc Tryd.prog 45).toArray 45)) (by simp)
        have g64 := q64.size
        generalize w64.alloc (.cells (zc Tryd.prog 45).toArray 45) = w75 at *
        refine ⟨get_all (kp _ q75) rfl ⟨rfl, rfl⟩, ?_⟩
        refine (vk _ q75).mono ?_
        rintro e w78 ⟨rfl, t78⟩
        refine ⟨_, _, rfl, _, rfl, _, rfl, ?_⟩
        refine put_all (n := 2) (hN.tch t78 (by simp)) (by rw [cell_no]; rfl) rfl c1 fun w83 kc t83 _ => ?_
        exact ⟨_, rfl, rfl, kc, (q75.trans t78 (by simp)).trans t83 fun k hk => .inr (by simp at hk; omega)⟩
    · rintro w84 rfl
      have hN := Blk.fresh w47.drew (cs := zc Tryd.prog 45) 45 rfl
      have q84 := td.trans ((Tch.refl [] w47.drew).alloc (.cells (zc Tryd.prog 45).toArray 45)) (by simp)
      have gd := td.size
      generalize w47.drew.alloc (.cells (zc Tryd.prog 45).toArray 45) = w84 at *
      refine ⟨get_all (kp _ q84) rfl ⟨rfl, rfl⟩, ?_⟩
      refine (rk _ q84).mono ?_
      rintro e w87 ⟨rfl, t87⟩
      have q87 := q84.trans t87 (by simp)
      refine ⟨_, rfl, get_all (kp _ q87) rfl ⟨rfl, rfl⟩, ?_⟩
      refine (vk _ q87).mono ?_
      rintro e w91 ⟨rfl, t91⟩
      refine ⟨_, _, rfl, _, rfl, _, rfl, ?_⟩
      refine put_all (n := 2) ((hN.tch t87 (by simp)).tch t91 (by simp)) (by rw [cell_no]; rfl) rfl c1 fun w96 kc t96 _ => ?_
      exact ⟨_, rfl, rfl, kc, (q87.trans t91 (by simp)).trans t96 fun k hk => .inr (by simp at hk; omega)⟩
  rintro w97 f c ⟨cb, rfl, rfl, kc, t97⟩
  have q97 := t.trans t97 (by simp)
  have hF97 : ∀ z, F z → z < w97.heap.size := fun z hz => Nat.lt_of_lt_of_le (hF z hz) t97.size
  refine (diff_c w97 ta tb [rA, rB] [rA, rC] (hta.tch t97 (by simp)) (htb.tch t97 (by simp)) hok1 hok2 hF97 hF97 (by simp)).mono ?_
  rintro e w101 ⟨da, dc, rfl, hd, t101⟩
  rw [show diffS ([rA, rB].length + [rA, rC].length) [rA, rB] [rA, rC] = _ from ex_diff] at hd ⊢
  refine ⟨_, _, _, rfl, ?_⟩
  refine (num_c 0 w101).mono ?_
  rintro e w104 ⟨rfl, rfl⟩
  refine ⟨_, rfl, ?_⟩
  rw [bif_pos rfl]
  refine ⟨false, by rw [add_mk]; exact (kc.tch t101 (by simp)).cell 0, ?_⟩
  rw [Bool.not_false, cond_true, bif_pos (by rfl)]
  have hdr := own_rsl hd chCs_one
  obtain ⟨yb, yo, rfl, hc⟩ := hdr.elem' (f := chC) chC_len (by omega) (i := 0) (x := ⟨(0, 2), (true, 20), (true, 21)⟩) rfl
  refine ⟨by omega, by simp, Lib.kC (0, 2), rfl, ?_, Lib.kC (0, 2), by rw [zcKey]; rfl, ?_⟩
  · rw [add_mk, add_mk]
    exact cells_part hc 0 2
  · refine eq_flat_d Lib.key_flat Lib.key_eqT (Lib.key_fits (k := ((0 : Int), (2 : Int))) ⟨by unfold Lib.I64; decide, by unfold Lib.I64; decide⟩) (Lib.key_fits (k := ((0 : Int), (2 : Int))) ⟨by unfold Lib.I64; decide, by unfold Lib.I64; decide⟩) (p := True) ⟨fun _ => trivial, fun _ => rfl⟩ ?_
    rw [decide_eq_true trivial]
    exact ⟨rfl, q97.trans t101 (by simp)⟩
end Go.Proofs.YtjkbjppopdfggaaDoor.Tre
namespace Go.Proofs.YtjkbjppopdfggaaDoor.Tre
open Go Den Fn Sha
open Go.RowKit (Below)
open Classical
set_option maxRecDepth 8000
set_option maxHeartbeats 4000000
/-- What stands behind the first part of a law over two trees. -/
structure RL (W : World) (x y : List Rw) (ta tb : Nat) (xa : Option Addr) (xn xc : Nat) (ya : Option Addr) (yn yc : Nat) (F : Nat → Prop) (u : World) : Prop where
  tx : TreeAt F u ta x
  ty : TreeAt F u tb y
  hF : ∀ z, F z → z < u.heap.size
  rx : RSl u 3 xa xn xc (rows rwC x)
  ry : RSl u 3 ya yn yc (rows rwC y)
  tch : Tch [] W u
theorem RL.quiet {W u u' : World} {x y : List Rw} {ta tb xn xc yn yc : Nat} {xa ya : Option Addr} {F : Nat → Prop} (h : RL W x y ta tb xa xn xc ya yn yc F u) (ht : Tch [] u u') : RL W x y ta tb xa xn xc ya yn yc F u' :=
  ⟨h.tx.tch ht (by simp), h.ty.tch ht (by simp), fun z hz => Nat.lt_of_lt_of_le (h.hF z hz) ht.size, h.rx.tch ht (fun _ _ h => by cases h), h.ry.tch ht (fun _ _ h => by cases h), h.tch.trans ht (by simp)⟩
end Go.Proofs.YtjkbjppopdfggaaDoor.Tre
namespace Go.Proofs.YtjkbjppopdfggaaDoor.Tre
open Go Den Fn Sha
open Go.RowKit (Below)
open Classical
set_option maxRecDepth 8000
set_option maxHeartbeats 4000000
theorem at24_c (w : World) (l : List Rw) (k : Int × Int) (a : Option Addr) (n c : Nat) (hr : RSl w 3 a n c (rows rwC l)) (hl : ∀ x ∈ l, x.wf) (hk : Lib.kI k) (hN : n ≤ 1000000000000) :
    Calls Tryd.prog 42 #[.slice a n c, .agg (Lib.kC k).toArray] w fun e w' => e = .returned (.agg (ceC (atS l k)).toArray) ∧ Tch [] w w' := by
  have hn := hr.count rwC_len (by omega)
  refine c42 _ _ _ _ ?_
  unfold d42
  rintro w2 rfl
  have hK : Blk _ _ (Lib.kC k) := Blk.fresh w (cs := Lib.kC k) 29 rfl
  have t2 := (Tch.refl [] w).alloc (.cells (Lib.kC k).toArray 29)
  have s2 := size_alloc w (.cells (Lib.kC k).toArray 29)
  generalize w.alloc (.cells (Lib.kC k).toArray 29) = w2 at *
  rintro w3 rfl
  have hO : Blk _ _ (ceC no) := Blk.fresh w2 (cs := zc Tryd.prog 45) 45 zcCell
  have t3 := t2.alloc (.cells (zc Tryd.prog 45).toArray 45)
  replace hK := hK.tch ((Tch.refl [] w2).alloc (.cells (zc Tryd.prog 45).toArray 45)) (by simp)
  generalize w2.alloc (.cells (zc Tryd.prog 45).toArray 45) = w3 at *
  obtain ⟨kb, hkb⟩ : ∃ kb, w.heap.size = kb := ⟨_, rfl⟩
  obtain ⟨ob, hob⟩ : ∃ ob, w2.heap.size = ob := ⟨_, rfl⟩
  rw [hkb] at hK ⊢
  rw [hob] at hO ⊢
  refine ⟨fun m i u => ∃ q : Nat, i = q ∧ q ≤ n ∧ m = n - q ∧ Tch [] w u ∧ Blk u kb (Lib.kC k) ∧ Blk u ob (ceC no) ∧ ∀ y ∈ l.take q, y.k ≠ k, ⟨n, 0, rfl, by omega, rfl, t3, hK, hO, by simp⟩, ?_⟩
  clear t3 hK hO t2
  rintro m w6 i ⟨q, rfl, hq, rfl, t6, hK, hO, hne⟩
  by_cases hlt : q < n
  · rw [bif_pos (by omega)]
    rintro w8 rfl
    replace t6 := t6.drew
    replace hK := hK.drew
    replace hO := hO.drew
    generalize w6.drew = w8 at *
    refine ⟨by omega, by omega, ?_⟩
    rw [Int.toNat_natCast]
    have hli : l[q]? = some (l[q]'(by omega)) := List.getElem?_eq_getElem (by omega)
    generalize l[q]'(by omega) = x at hli
    have hxw := hl x (List.mem_of_getElem? hli)
    obtain ⟨b, o, rfl, k1, k2⟩ := row_at (hr.tch t6 (fun _ _ h => by cases h)) hli
    refine ⟨Lib.kC x.k, rfl, k1, ?_⟩
    refine get_all hK rfl ?_
    refine eq_flat_d Lib.key_flat Lib.key_eqT (Lib.key_fits (k := x.k) ⟨hxw.t, hxw.r⟩) (Lib.key_fits hk) Lib.kC_inj ?_
    by_cases he : x.k = k
    · rw [bif_pos he]
      refine ⟨by omega, by omega, x.v, k2, ceC (true, x.v), by rw [zcCell]; rfl, ?_⟩
      refine put_all (n := 2) hO rfl rfl (by simp [one]) fun w16 h16 t16 _ => ?_
      refine get_all h16 rfl ⟨?_, t6.trans t16 (by simp; omega)⟩
      rw [atS_some hli hne he]
    · rw [bif_neg he]
      refine ⟨n - (q + 1), by omega, q + 1, by rw [wrap_i64 (by omega) (by omega)]; omega, by omega, rfl, t6, hK, hO, ?_⟩
      intro y hy
      obtain ⟨hi, rfl⟩ := List.getElem?_eq_some_iff.1 hli
      rw [List.take_succ_eq_append_getElem hi] at hy
      rcases List.mem_append.1 hy with hy | hy
      · exact hne y hy
      · rw [List.mem_singleton] at hy
        rw [hy]; exact he
  · rw [bif_neg (by omega)]
    obtain rfl : q = n := by omega
    refine ⟨ceC no, by rw [zcCell]; rfl, ?_⟩
    refine put_all (n := 2) hO rfl rfl (by simp [one]) fun w20 h20 t20 _ => ?_
    refine get_all h20 rfl ⟨?_, t6.trans t20 (by simp; omega)⟩
    rw [atS_none' fun x hx => hne x (by rw [List.take_of_length_le (by omega)]; exact hx)]
theorem rsl_tch0 {s : List Nat} {w w' : World} {sz n c : Nat} {a : Option Addr} {cs : List Value} (h : RSl w sz a n c cs) (ht : Tch s w w') (hs : n = 0 ∨ Off s a) : RSl w' sz a n c cs := by
  rcases hs with h0 | hs
  · refine ⟨h.cap, h.len, h.ones, ?_⟩
    rcases h.at' with h' | ⟨b, o, h1, h2⟩
    · exact .inl h'
    · have := h.len
      rw [h0, Nat.zero_mul] at this
      rw [List.length_eq_zero_iff.1 this]
      exact .inr ⟨b, o, h1, fun i v hv => by simp at hv⟩
  · exact h.tch ht hs
theorem rsl_low0 {w : World} {sz n c : Nat} {a : Option Addr} {cs : List Value} (h : RSl w sz a n c cs) (h0 : 0 < sz) : n = 0 ∨ ∀ x, a = some x → x.block < w.heap.size := by
  rcases Nat.eq_zero_or_pos n with hn | hn
  · exact .inl hn
  · refine .inr fun x hx => ?_
    rcases h.at' with h' | ⟨b, o, h1, h2⟩
    · have := h.cap; omega
    · rw [h1] at hx
      cases hx
      have hl := h.len
      have : 0 < n * sz := Nat.mul_pos hn h0
      obtain ⟨v, hv⟩ : ∃ v, cs[0]? = some v := ⟨cs[0], by simp⟩
      have := h2 0 v hv
      rw [add_mk] at this
      exact World.block_lt_of_cell? _ _ this
theorem rise_ge {fs : List Fk} (h : RiseF fs) : ∀ (i : Nat) (f : Fk), fs[i]? = some f → (i : Int) ≤ f.bit
  | 0, f, hf => by
    have := (h 0 f (List.getElem?_eq_some_iff.1 hf).1 hf).1
    unfold Rk at this
    omega
  | i + 1, f, hf => by
    have hi := (List.getElem?_eq_some_iff.1 hf).1
    have hg : fs[i]? = some (fs[i]'(by omega)) := List.getElem?_eq_getElem (by omega)
    have h1 := rise_ge h i _ hg
    have h2 := (h (i + 1) f hi hf).2 _ (by omega) (by rw [Nat.add_sub_cancel]; exact hg)
    omega
theorem rise_len {fs : List Fk} (h : RiseF fs) : fs.length ≤ 80 := by
  rcases Nat.eq_zero_or_pos fs.length with h0 | h0
  · omega
  · have hg : fs[fs.length - 1]? = some (fs[fs.length - 1]'(by omega)) := List.getElem?_eq_getElem (by omega)
    have h1 := rise_ge h _ _ hg
    have h2 := (h (fs.length - 1) _ (by omega) hg).1
    unfold Rk at h2
    omega
theorem path_eq {kb : List Int} {p : Pf} {n : Nat} {ns : List Nd} (hn : p.fs.length = n) (hl : ns.length = n + 1) (h : ∀ j : Nat, j ≤ n → ns[j]? = some (topN kb p (p.fs.drop (n - j)))) : ns = pathL kb p := by
  unfold pathL
  refine List.ext_getElem? fun j => ?_
  rw [hn]
  by_cases hj : j ≤ n
  · rw [h j hj, List.getElem?_map, List.getElem?_range (by omega)]
    rfl
  · rw [List.getElem?_eq_none (by omega), List.getElem?_eq_none (by rw [List.length_map, List.length_range]; omega)]
theorem pathL_ok {kb : List Int} {p : Pf} (hp : p.ok) : ∀ n ∈ pathL kb p, n.ok := fun n hn => by
  obtain ⟨j, _, rfl⟩ := List.mem_map.1 hn
  exact topN_ok hp fun f hf => hp.fs f (List.mem_of_mem_drop hf)
/-- What stands in memory through the law. -/
structure TQ (W : World) (l : List Rw) (k : Int × Int) (fp : Pf) (fa : Option Addr) (fn fc kb0 fb ta : Nat) (xa : Option Addr) (xn xc : Nat) (F : Nat → Prop) (u : World) : Prop where
  key : Blk u kb0 (Lib.kC k)
  frg : Blk u fb (pfC fa fn fc fp)
  frs : PfAt u fa fn fc fp
  tree : TreeAt F u ta l
  hF : ∀ z, F z → z < u.heap.size
  rws : RSl u 3 xa xn xc (rows rwC l)
  tab : Tabs u
  tch : Tch [] W u
theorem TQ.quiet {W : World} {l : List Rw} {k : Int × Int} {fp : Pf} {fa : Option Addr} {fn fc kb0 fb ta : Nat} {xa : Option Addr} {xn xc : Nat} {F : Nat → Prop} {u u' : World} (h : TQ W l k fp fa fn fc kb0 fb ta xa xn xc F u) (ht : Tch [] u u') : TQ W l k fp fa fn fc kb0 fb ta xa xn xc F u' :=
  ⟨h.key.tch ht (by simp), h.frg.tch ht (by simp), h.frs.quiet ht, h.tree.tch ht (by simp), fun z hz => Nat.lt_of_lt_of_le (h.hF z hz) ht.size, h.rws.tch ht (fun _ _ h => by cases h), h.tab.tch ht, h.tch.trans ht (by simp)⟩
theorem pfC_one {a : Option Addr} {n c : Nat} {p : Pf} : ∀ u ∈ pfC a n c p, one u = true := by simp [one]
theorem verS_ok {root : List Int} {t r : Int} {p : Pf} (h : (verS root t r p).2 = 0) : KeyOk t ∧ holdsP root (keyB t r) p := by
  unfold verS at h
  by_cases hk : KeyOk t
  · rw [if_neg (by simpa using hk)] at h
    by_cases hh : holdsP root (keyB t r) p
    · exact ⟨hk, hh⟩
    · rw [if_pos hh] at h; simp at h
  · rw [if_pos hk] at h; simp at h
theorem true_law (W : World) (lr : List Rw) (pa : Option Addr) (na ca : Nat) (k : Int × Int) (fp : Pf) (fa : Option Addr) (fn fc : Nat) (hra : RSl W 3 pa na ca (rows rwC lr)) (hlw : ∀ x ∈ lr, x.wf) (hki : Lib.kI k) (hfp : PfAt W fa fn fc fp) (hfn : fn ≤ 9223372036854775807) (hT : Tabs W) :
    Calls Tryd.prog 8 #[.slice pa na ca, .agg (Lib.kC k).toArray, .agg (pfC fa fn fc fp).toArray] W fun e w' => e = .returned (.bool true) ∧ Tch [] W w' := by
  refine c8 _ _ _ _ _ ?_
  unfold d8
  rintro w3 rfl w4 rfl
  have hK : Blk _ _ (Lib.kC k) := Blk.fresh W (cs := Lib.kC k) 29 rfl
  have t3 := (Tch.refl [] W).alloc (.cells (Lib.kC k).toArray 29)
  have s3 := size_alloc W (.cells (Lib.kC k).toArray 29)
  generalize W.alloc (.cells (Lib.kC k).toArray 29) = w3 at *
  have hG : Blk _ _ (pfC fa fn fc fp) := Blk.fresh w3 (cs := pfC fa fn fc fp) 43 rfl
  have t4 := (Tch.refl [] w3).alloc (.cells (pfC fa fn fc fp).toArray 43)
  have s4 := size_alloc w3 (.cells (pfC fa fn fc fp).toArray 43)
  generalize w3.alloc (.cells (pfC fa fn fc fp).toArray 43) = w4 at *
  replace hK := hK.tch t4 (by simp)
  have t := t3.trans t4 (by simp)
  obtain ⟨kb0, hkb0⟩ : ∃ b, W.heap.size = b := ⟨_, rfl⟩
  obtain ⟨fb, hfb⟩ : ∃ b, w3.heap.size = b := ⟨_, rfl⟩
  rw [hkb0] at hK s3
  rw [hfb] at hG s4 s3
  rw [hkb0, hfb]
  clear t3 t4
  refine (works_c w4 (hT.tch t)).mono ?_
  rintro e w6 ⟨rfl, t6⟩
  refine ⟨_, rfl, ?_⟩
  rw [Bool.not_true, cond_false]
  replace t := t.trans t6 (by simp)
  replace hK := hK.tch t6 (by simp)
  replace hG := hG.tch t6 (by simp)
  clear t6
  refine (few_c w6 lr pa na ca (hra.tch t (fun _ _ h => by cases h))).mono ?_
  rintro e w9 ⟨a1, c1, rfl, hr1, hw⟩
  rw [hw] at hr1 ⊢
  clear hw
  refine ⟨_, _, _, rfl, ?_⟩
  have hl1 : (lr.take 300).length ≤ 300 := by rw [List.length_take]; omega
  refine (set_c w6 (lr.take 300) a1 _ c1 hr1 (by omega)).mono ?_
  rintro e w12 ⟨xa, xc, rfl, hx, t12⟩
  refine ⟨_, _, _, rfl, ?_⟩
  have hXr := setS_rises (lr.take 300)
  have hXl := setS_len (lr.take 300)
  have hXw : ∀ x ∈ setS (lr.take 300), x.wf := fun x hx => hlw x (List.mem_of_mem_take (setS_mem x hx))
  generalize setS (lr.take 300) = l at *
  have hok := rowsOk_of hXw hXr
  refine (lent_c w12 l xa _ xc hx (by omega)).mono ?_
  rintro e w15 ⟨rfl, k15, t15, s15⟩
  refine ⟨_, _, _, rfl, ?_⟩
  have t0_15 := (t.trans t12 (by simp)).trans t15 (by simp)
  refine (new_c w15 l _ _ _ (lent_rsl k15 rfl (by omega)) hXw (by omega) (hT.tch t0_15)).mono ?_
  rintro e w18 ⟨t18, h18⟩
  rw [if_pos hXr] at h18
  obtain ⟨ta, rfl, hta⟩ := h18
  refine ⟨_, _, rfl, _, rfl, _, rfl, ?_⟩
  have q18 := (t12.trans t15 (by simp)).trans t18 (by simp)
  have hQ : TQ W l k fp fa fn fc kb0 fb ta xa l.length xc (fun z => z < w18.heap.size) w18 :=
    ⟨hK.tch q18 (by simp), hG.tch q18 (by simp), hfp.quiet (t.trans q18 (by simp)), hta.mono fun z hz => hz.2, fun z hz => hz, (hx.tch t15 (fun _ _ h => by cases h)).tch t18 (fun _ _ h => by cases h), hT.tch (t.trans q18 (by simp)), t.trans q18 (by simp)⟩
  generalize (fun z => z < w18.heap.size) = F at hQ
  clear hK hG hx k15 hta t12 t15 t18 q18 t0_15 hr1 t
  refine ⟨fun u => Tch [] w18 u, ?_, ?_⟩
  · rw [show Option.isNone (some (⟨ta, 0, none⟩ : Addr)) = false from rfl, cond_false]
    refine (num_c 0 w18).mono ?_
    rintro e w25 ⟨rfl, rfl⟩
    refine ⟨_, rfl, ?_⟩
    rw [bif_npos rfl]
    exact Tch.refl _ _
  intro w27 t27
  replace hQ := hQ.quiet t27
  clear t27
  refine get_all hQ.key rfl ?_
  refine (prove_c w27 ta l hQ.tree hok hQ.hF (by omega) k).mono ?_
  intro e w30 hP
  have t30 := hP.1
  obtain ⟨P, qa, qn, qc, er, rfl, hqo, hPok, hqn, hPl, hPe⟩ := hP.out hok
  refine ⟨_, _, rfl, _, rfl, _, rfl, ?_⟩
  replace hQ := hQ.quiet t30
  clear hP t30
  have hPf : PfAt w30 qa qn qc P := ⟨hPok, own_rsl hqo fkCs_one⟩
  refine var_init (n := 5) (by rw [zcPf2]; rfl) rfl pfC_one fun w35 w36 kP t36 s36 => ?_
  replace hQ := hQ.quiet t36
  replace hPf := hPf.quiet t36
  clear t36 hqo
  obtain ⟨pb, hpb⟩ : ∃ b, w30.heap.size = b := ⟨_, rfl⟩
  rw [hpb] at kP s36
  rw [hpb]
  have hQ36 := hQ
  -- its own proof, looked at
  refine ⟨fun c f u => ∃ cb, c = some ⟨cb, 0, none⟩ ∧ f = (verS (rootS l) k.1 k.2 P).2 ∧ Blk u cb (cellC (verS (rootS l) k.1 k.2 P).1) ∧ w36.heap.size ≤ cb ∧ Tch [] w36 u, ?_, ?_⟩
  · rintro w38 rfl
    have td := (Tch.refl [] w36).drew
    have rk : ∀ u, Tch [] w36 u → Calls Tryd.prog 32 #[.pointer (some ⟨ta, 0, none⟩)] u fun e w' => e = .returned (.agg (u8 (rootS l)).toArray) ∧ Tch [] u w' := fun u tu => root_c u ta _ (hQ.quiet tu).tree
    have vk : ∀ u, Tch [] w36 u → Calls Tryd.prog 18 #[.agg (u8 (rootS l)).toArray, .agg (Lib.kC k).toArray, .agg (pfC qa qn qc P).toArray] u (VerR (rootS l) k.1 k.2 P u) := fun u tu =>
      verify_c u (rootS l) k.1 k.2 (rootS_len _) (rootS_bytes _) hki.1 hki.2 P qa qn qc (hPf.quiet tu) (by omega) (hQ.quiet tu).tab
    have kp : ∀ u, Tch [] w36 u → Blk u pb (pfC qa qn qc P) := fun u tu => kP.tch tu (by simp)
    have kk : ∀ u, Tch [] w36 u → Blk u kb0 (Lib.kC k) := fun u tu => (hQ.quiet tu).key
    have c1 : ∀ u ∈ cellC (verS (rootS l) k.1 k.2 P).1, one u = true := by simp [one]
    refine get_all (kk _ td) rfl ?_
    refine get_all (kp _ td) rfl ?_
    refine ⟨?_, ?_⟩
    · refine (rk _ td).mono ?_
      rintro e w42 ⟨rfl, t42⟩
      have q42 := td.trans t42 (by simp)
      refine ⟨_, rfl, get_all (kp _ q42) rfl ⟨rfl, rfl⟩, get_all (kk _ q42) rfl ⟨rfl, rfl⟩, ?_, ?_⟩
      · refine (vk _ q42).mono ?_
        rintro e w47 ⟨rfl, t47⟩
        have q47 := q42.trans t47 (by simp)
        have g47 := q47.size
        refine ⟨_, _, rfl, _, rfl, _, rfl, ?_⟩
        refine var_init (n := 2) (by rw [cell_no]; rfl) rfl c1 fun w52 w53 kc t53 s53 => ?_
        exact ⟨_, rfl, rfl, kc, g47, q47.trans t53 (by simp)⟩
      · rintro w54 rfl
        have hN := Blk.fresh w42 (cs := zc Tryd.prog 45) 45 rfl
        have q54 := q42.trans ((Tch.refl [] w42).alloc (.cells (zc Tryd.prog 45).toArray 45)) (by simp)
        have g42 := q42.size
        generalize w42.alloc (.cells (zc Tryd.prog 45).toArray 45) = w54 at *
        refine ⟨get_all (kp _ q54) rfl ⟨rfl, rfl⟩, get_all (kk _ q54) rfl ⟨rfl, rfl⟩, ?_⟩
        refine (vk _ q54).mono ?_
        rintro e w58 ⟨rfl, t58⟩
        refine ⟨_, _, rfl, _, rfl, _, rfl, ?_⟩
        refine put_all (n := 2) (hN.tch t58 (by simp)) (by rw [cell_no]; rfl) rfl c1 fun w63 kc t63 _ => ?_
        exact ⟨_, rfl, rfl, kc, g42, (q54.trans t58 (by simp)).trans t63 fun k hk => .inr (by simp at hk; omega)⟩
    · rintro w64 rfl
      have hN := Blk.fresh w36.drew (cs := zc Tryd.prog 45) 45 rfl
      have q64 := td.trans ((Tch.refl [] w36.drew).alloc (.cells (zc Tryd.prog 45).toArray 45)) (by simp)
      have gd := td.size
      generalize w36.drew.alloc (.cells (zc Tryd.prog 45).toArray 45) = w64 at *
      refine ⟨get_all (kp _ q64) rfl ⟨rfl, rfl⟩, get_all (kk _ q64) rfl ⟨rfl, rfl⟩, ?_⟩
      refine (rk _ q64).mono ?_
      rintro e w68 ⟨rfl, t68⟩
      have q68 := q64.trans t68 (by simp)
      refine ⟨_, rfl, get_all (kp _ q68) rfl ⟨rfl, rfl⟩, get_all (kk _ q68) rfl ⟨rfl, rfl⟩, ?_⟩
      refine (vk _ q68).mono ?_
      rintro e w73 ⟨rfl, t73⟩
      refine ⟨_, _, rfl, _, rfl, _, rfl, ?_⟩
      refine put_all (n := 2) ((hN.tch t68 (by simp)).tch t73 (by simp)) (by rw [cell_no]; rfl) rfl c1 fun w78 kc t78 _ => ?_
      exact ⟨_, rfl, rfl, kc, gd, (q68.trans t73 (by simp)).trans t78 fun k hk => .inr (by simp at hk; omega)⟩
  rintro w79 c f ⟨cb, rfl, rfl, kc, hcb, t79⟩
  replace hQ := hQ.quiet t79
  have s79 := t79.size
  have hpl := kP.lt
  have hx36 := rsl_low0 hQ36.rws (by omega)
  clear kP t79 hPf
  have fin : ∀ w', Tch [] W w' → (fun e w' => e = Ending.returned (.bool true) ∧ Tch [] W w') (.returned (.bool true)) w' := fun w' ht => ⟨rfl, ht⟩
  refine (num_c er w79).mono ?_
  rintro e w83 ⟨rfl, hw⟩
  rw [hw]
  clear hw
  refine ⟨_, rfl, ?_⟩
  by_cases hko : Lib.KeyOk k.1
  rotate_left
  · rw [if_neg hko] at hPe
    obtain ⟨rfl, rfl⟩ := hPe
    have hv : (verS (rootS l) k.1 k.2 ⟨[], false, 0, 0, 0⟩).2 = 20 := by
      have hko' : ¬ Sha.KeyOk k.1 := hko
      unfold verS
      rw [if_pos hko']
    rw [bif_nneg (by omega)]
    refine (num_c 20 w79).mono ?_
    rintro e w86 ⟨rfl, hw⟩
    rw [hw]
    refine ⟨_, rfl, ?_⟩
    rw [bif_pos rfl, hv]
    refine (num_c 20 w79).mono ?_
    rintro e w89 ⟨rfl, hw2⟩
    rw [hw2]
    exact ⟨_, rfl, fin _ hQ.tch⟩
  rw [if_pos hko] at hPe
  obtain ⟨rfl, hPeq⟩ := hPe
  have hown : verS (rootS l) k.1 k.2 P = (atS l k, 0) := by rw [hPeq]; exact own_proof hok hko hki.2
  rw [hown] at kc ⊢
  rw [bif_npos rfl]
  have hat : Sha.I64 (atS l k).2 := atS_I64 hXw k
  refine ⟨fun u => Tch [] w79 u, ?_, ?_⟩
  · rintro w92 rfl
    have td := (Tch.refl [] w79).drew
    refine (num_c 0 _).mono ?_
    rintro e w94 ⟨rfl, hw⟩
    rw [hw]
    clear hw
    refine ⟨_, rfl, ?_⟩
    rw [bif_npos rfl]
    refine get_all (kc.tch td (by simp)) rfl ?_
    refine get_all (hQ.quiet td).key rfl ?_
    refine (at24_c _ l k xa _ xc (hQ.quiet td).rws hXw hki (by omega)).mono ?_
    rintro e w100 ⟨rfl, t100⟩
    have q100 := td.trans t100 (by simp)
    refine ⟨_, rfl, get_all (kc.tch q100 (by simp)) rfl ⟨rfl, rfl⟩, ?_⟩
    refine neq_flat_d cell_flat cell_eqT (cell_fits hat) (cell_fits hat) (p := True) ⟨fun _ => trivial, fun _ => rfl⟩ ?_
    rw [decide_eq_true trivial, Bool.not_true, cond_false]
    exact q100
  intro w105 t105 w106 hw106
  subst hw106
  have q106 := t105.trans (Tch.refl [] w105).drew (by simp)
  replace hQ := hQ.quiet q106
  replace kc := kc.tch q106 (by simp)
  have s106 := q106.size
  generalize w105.drew = w106 at *
  clear t105 q106
  refine get_all hQ.key rfl ?_
  refine get_all hQ.frg rfl ?_
  refine (root_c w106 ta l hQ.tree).mono ?_
  rintro e w110 ⟨rfl, t110⟩
  replace hQ := hQ.quiet t110
  replace kc := kc.tch t110 (by simp)
  have s110 := t110.size
  refine ⟨_, rfl, get_all hQ.frg rfl ⟨rfl, rfl⟩, get_all hQ.key rfl ⟨rfl, rfl⟩, ?_⟩
  refine (verify_c w110 (rootS l) k.1 k.2 (rootS_len _) (rootS_bytes _) hki.1 hki.2 fp fa fn fc hQ.frs (by omega) hQ.tab).mono ?_
  rintro e w115 ⟨rfl, t115⟩
  replace hQ := hQ.quiet t115
  replace kc := kc.tch t115 (by simp)
  have s115 := t115.size
  refine ⟨_, _, rfl, _, rfl, _, rfl, ?_⟩
  have hvI : Sha.I64 (verS (rootS l) k.1 k.2 fp).1.2 := verS_val hfp.1
  have hkl := hQ36.key.lt
  have hfl := hQ36.frg.lt
  have hW36 := hQ36.tch.size
  refine put_all (n := 2) kc rfl rfl (by simp [one]) fun w121 kc t121 s121 => ?_
  have key : Blk w121 kb0 (Lib.kC k) := hQ.key.tch t121 (by simp; omega)
  have frg : Blk w121 fb (pfC fa fn fc fp) := hQ.frg.tch t121 (by simp; omega)
  have hfl0 := rsl_low0 hfp.2 (by omega)
  have frs : PfAt w121 fa fn fc fp := ⟨hfp.1, rsl_tch0 hQ.frs.2 t121 (hfl0.imp id fun hl z hz hm => by have := hl z hz; simp at hm; omega)⟩
  have hxl0 := rsl_low0 hQ.rws (by omega)
  have rws : RSl w121 3 xa l.length xc (rows rwC l) := by
    have hxl : l.length = 0 ∨ ∀ x, xa = some x → x.block < w36.heap.size := hx36
    exact rsl_tch0 hQ.rws t121 (hxl.imp id fun hl z hz hm => by have := hl z hz; simp at hm; omega)
  have t0121 : Tch [] W w121 := hQ.tch.trans t121 fun z hz => .inr (by simp at hz; omega)
  clear hQ t121
  refine ⟨fun u => Tch [] w121 u ∧ (verS (rootS l) k.1 k.2 fp).2 = 0 ∧ (verS (rootS l) k.1 k.2 fp).1 ≠ atS l k, ?_, ?_⟩
  · rintro w123 rfl
    have td := (Tch.refl [] w121).drew
    refine (num_c _ _).mono ?_
    rintro e w125 ⟨rfl, hw⟩
    rw [hw]
    clear hw
    refine ⟨_, rfl, ?_⟩
    by_cases hz : (verS (rootS l) k.1 k.2 fp).2 = 0
    rotate_left
    · rw [bif_nneg hz]
      exact ⟨trivial, fin _ (t0121.trans td (by simp))⟩
    rw [bif_npos hz]
    refine get_all (kc.tch td (by simp)) rfl ?_
    refine get_all (key.tch td (by simp)) rfl ?_
    refine (at24_c _ l k xa _ xc (rws.tch td (fun _ _ h => by cases h)) hXw hki (by omega)).mono ?_
    rintro e w131 ⟨rfl, t131⟩
    have q131 := td.trans t131 (by simp)
    refine ⟨_, rfl, get_all (kc.tch q131 (by simp)) rfl ⟨rfl, rfl⟩, ?_⟩
    have hiff : cellC (verS (rootS l) k.1 k.2 fp).1 = ceC (atS l k) ↔ (verS (rootS l) k.1 k.2 fp).1 = atS l k := ceC_inj
    refine eq_flat_d cell_flat cell_eqT (cell_fits hvI) (cell_fits hat) (p := (verS (rootS l) k.1 k.2 fp).1 = atS l k) hiff ?_
    by_cases he : (verS (rootS l) k.1 k.2 fp).1 = atS l k
    · rw [decide_eq_true he, cond_true]
      exact fin _ (t0121.trans q131 (by simp))
    · rw [decide_eq_false he, cond_false]
      exact ⟨q131, hz, he⟩
  rintro w136 ⟨t136, hz, hne⟩
  obtain ⟨_, hh⟩ := verS_ok hz
  have hrise := hh.1
  have hfcount := frs.len
  have hcol := forged_collide hok hko hki.2 hfp.1 hh hne
  refine ⟨fun m i u => ∃ q : Nat, i = q ∧ q ≤ fn ∧ m = fn - q ∧ Tch [] w121 u, ⟨fn, 0, rfl, by omega, rfl, t136⟩, ?_⟩
  clear t136
  rintro m w139 i ⟨q, rfl, hq, rfl, t139⟩
  have frg139 := frg.tch t139 (by simp)
  have frs139 := frs.quiet t139
  refine ⟨fa, fn, fc, by rw [add_mk]; exact frg139.cell 0, ?_⟩
  by_cases hlt : q < fn
  · rw [bif_pos (by omega)]
    have hfi : fp.fs[q]? = some (fp.fs[q]'(by omega)) := List.getElem?_eq_getElem (by omega)
    have hrk := (hrise q _ (by omega) hfi).1
    generalize fp.fs[q]'(by omega) = f at hfi hrk
    unfold Rk at hrk
    obtain ⟨yb, yo, hy, hc⟩ := frs139.2.elem' (fkC_len frs139.1.fs) (by omega) hfi
    refine ⟨fa, fn, fc, by rw [add_mk]; exact frg139.cell 0, by omega, by omega, ?_⟩
    rw [hy, Int.toNat_natCast]
    refine ⟨f.bit, by rw [add_mk, add_mk]; exact cells_get hc (i := 0) rfl, ?_⟩
    rw [bif_neg (by omega)]
    refine ⟨some ⟨yb, yo, none⟩, fn, fc, by rw [add_mk, ← hy]; exact frg139.cell 0, by omega, by omega, ?_⟩
    refine ⟨f.bit, by rw [add_mk, add_mk]; exact cells_get hc (i := 0) rfl, ?_⟩
    rw [bif_neg (by omega)]
    exact ⟨fn - (q + 1), by omega, q + 1, by rw [wrap_i64 (by omega) (by omega)]; omega, by omega, rfl, t139⟩
  rw [bif_neg (by omega)]
  rintro w149 rfl
  have q149 := t139.trans (Tch.refl [] w139).drew (by simp)
  generalize w139.drew = w149 at *
  refine get_all (key.tch q149 (by simp)) rfl ?_
  refine get_all (frg.tch q149 (by simp)) rfl ?_
  have l1 := nodesL_len hok
  have h80 := rise_len hrise
  refine (nodesO_c l.length w149 l xa l.length xc (Nat.le_refl _) (rws.tch q149 (fun _ _ h => by cases h)) hok (by omega)).mono ?_
  rintro e w153 ⟨na', nc', rfl, ho, t153⟩
  have q153 := q149.trans t153 (by simp)
  refine ⟨_, _, _, rfl, get_all (frg.tch q153 (by simp)) rfl ⟨rfl, rfl⟩, get_all (key.tch q153 (by simp)) rfl ⟨rfl, rfl⟩, ?_⟩
  refine (path_c w153 k.1 k.2 hko fp fa fn fc (frs.quiet q153) hrise.rank (by omega)).mono ?_
  rintro e w158 ⟨x, xc', ns, rfl, hno, hnl, hnt, hrn, t158⟩
  refine ⟨_, _, _, rfl, ?_⟩
  obtain rfl := path_eq hfcount hnl hnt
  have s158 := t153.size
  refine app_at ndT (own_up ho t158 (fun _ _ h => by cases h)) hrn (by have := t158.size; omega) (by omega) (by omega) fun a' c' w161 ho' t161 _ => ?_
  have q161 : Tch [] w121 w161 := (q153.trans t158 (by simp)).trans t161 fun z hz => .inr (by
    rw [mem_rowL] at hz
    obtain ⟨y, hy, rfl⟩ := hz
    have := (own_ge ho y hy).1
    have := q149.size
    omega)
  rw [← rows_append] at ho'
  have hall : ∀ n ∈ nodesL l ++ pathL (keyB k.1 k.2) fp, n.ok := fun n hn => by
    rcases List.mem_append.1 hn with hn | hn
    · exact nodesL_ok hok n hn
    · exact pathL_ok hfp.1 n hn
  have hlen : (nodesL l).length + (fn + 1) = (nodesL l ++ pathL (keyB k.1 k.2) fp).length := by rw [List.length_append, hnl]
  rw [hlen] at ho' ⊢
  refine (texts_c w161 _ a' _ c' (own_rsl ho' ndCs_one) hall (by rw [← hlen]; omega)).mono ?_
  rintro e w164 ⟨tb', tc', rfl, htx, t164⟩
  refine ⟨_, _, _, rfl, ?_⟩
  have htl := textsS_len (nodesL l ++ pathL (keyB k.1 k.2) fp)
  refine (collide_c w164 _ tb' tc' htx (textsS_ok hall) (by rw [← hlen] at htl; omega)).mono ?_
  rintro e w167 ⟨rfl, t167⟩
  refine ⟨_, rfl, ?_⟩
  rw [decide_eq_true hcol]
  exact fin _ (((t0121.trans q161 (by simp)).trans t164 (by simp)).trans t167 (by simp))
end Go.Proofs.YtjkbjppopdfggaaDoor.Tre
