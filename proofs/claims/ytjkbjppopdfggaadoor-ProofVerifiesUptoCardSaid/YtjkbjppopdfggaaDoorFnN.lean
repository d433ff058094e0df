/-
  THE CODE of some functions of the given program, resolved, and proved to ask what the readable texts (d..) say; contracts c.. follow. Printed by a small program of mine.
-/
import Derived.Test.YtjkbjppopdfggaaDoorDenWords8
import Derived.Test.YtjkbjppopdfggaaDoorProg
set_option maxRecDepth 100000
namespace Go.Proofs.YtjkbjppopdfggaaDoor.Fn
open Go Den
/-- prelude/preludelaw24.ProofNodes -/
def s4 : S := (.seq (.ops [⟨(some 1), (.box 33 (.tmp 0)), .ptr, none⟩,
  ⟨(some 2), (.mv (.const (.bool false))), .bool, none⟩] [1])
 (.seq (.ops [⟨(some 8), (.ldN 69 (.tmp 1)), .agg, none⟩,
  ⟨(some 9), (.call 15 [(.tmp 8)] [.agg, (.int .i64)]), .any, none⟩,
  ⟨(some 7), (.mv (.tmp 9)), .any, none⟩,
  ⟨(some 10), (.ext 0 (.tmp 7)), .agg, none⟩,
  ⟨(some 11), (.ext 1 (.tmp 7)), (.int .i64), none⟩,
  ⟨(some 3), (.alloc 24), .ptr, none⟩,
  ⟨none, (.stN 32 (.tmp 3) (.tmp 10)), .any, none⟩,
  ⟨(some 4), (.mv (.tmp 11)), (.int .i64), none⟩] [1, 3, 4])
 (.seq (.ops [⟨(some 13), (.ldN 69 (.tmp 1)), .agg, none⟩,
  ⟨(some 14), (.call 16 [(.tmp 13)] [.agg, (.int .i64)]), .any, none⟩,
  ⟨(some 12), (.mv (.tmp 14)), .any, none⟩,
  ⟨(some 15), (.ext 0 (.tmp 12)), .agg, none⟩,
  ⟨(some 16), (.ext 1 (.tmp 12)), (.int .i64), none⟩,
  ⟨(some 5), (.alloc 24), .ptr, none⟩,
  ⟨none, (.stN 32 (.tmp 5) (.tmp 15)), .any, none⟩,
  ⟨(some 6), (.mv (.tmp 16)), (.int .i64), none⟩] [3, 5, 4, 6])
 (.seq (.ops [⟨(some 17), (.ldN 32 (.tmp 3)), .agg, none⟩,
  ⟨(some 18), (.ldN 32 (.tmp 5)), .agg, none⟩,
  ⟨(some 19), (.eqG .eql 24 (.tmp 17) (.tmp 18)), .bool, none⟩,
  ⟨(some 20), (.mv (.tmp 19)), .bool, none⟩,
  ⟨(some 21), (.mv (.tmp 4)), (.int .i64), (some (20, true))⟩,
  ⟨(some 22), (.call 17 [(.tmp 21)] [(.int .i64)]), (.int .i64), (some (20, true))⟩,
  ⟨(some 23), (.mv (.tmp 6)), (.int .i64), (some (20, true))⟩,
  ⟨(some 24), (.bin .eql (.tmp 22) (.tmp 23)), .bool, (some (20, true))⟩,
  ⟨(some 25), (.pick (.tmp 20) (.tmp 24) (.const (.bool false))), .bool, none⟩,
  ⟨(some 2), (.mv (.tmp 25)), .bool, none⟩] [2])
 .ret))))
def r4 : List Res := [.t 2]
theorem tr4 : trS Tryd.prog [] 26 (Tryd.f4.body.getD .skip) s4 = some s4 := by kernel_rfl
theorem den4 (args : List Value) (w : World) (R : Ending → World → Prop) (hn : args.length ≤ 26) (h : denS Tryd.prog s4 (argsEnv 0 args) w (endK r4 R)) : Calls Tryd.prog 4 args.toArray w R :=
  calls_of_den (pn := []) (fn := Tryd.f4) (c := Tryd.f4.body.getD .skip) Tryd.func4 (by kernel_rfl) (by rw [Tryd.ntmps4]; exact hn) (by rw [Tryd.ntmps4]; exact tr4) (by kernel_rfl) h
def d4 (n0 : Array Value) (w : World) (R : Ending → World → Prop) : Prop :=
 ∀ w1 : World, w1 = World.alloc w (.cells n0 33) →
 ∃ cs2 : List Value, List.length cs2 = 69 ∧ Cells w1 ⟨World.heap w |>.size, 0, none⟩ cs2 ∧
 Calls Tryd.prog 15 #[(.agg (List.toArray cs2))] w1 fun e3 w4 => ∃ x5 : Array Value, ∃ x6 : Int, e3 = .returned (.tuple #[(.agg x5), (.int .i64 x6)]) ∧
 ∃ x7 : Array Value, (#[(.agg x5), (.int .i64 x6)] : Array Value)[0]? = some (.agg x7) ∧
 ∃ x8 : Int, (#[(.agg x5), (.int .i64 x6)] : Array Value)[1]? = some (.int .i64 x8) ∧
 ∀ w9 : World, w9 = World.alloc w4 (.cells (zc Tryd.prog 24).toArray 24) →
 Array.size x7 = 32 ∧ (∀ u ∈ Array.toList x7, one u = true) ∧ Room w9 ⟨World.heap w4 |>.size, 0, none⟩ 32 ∧
 ∀ w10 : World, w10 = setCells w9 ⟨World.heap w4 |>.size, 0, none⟩ (Array.toList x7) 0 →
 ∃ cs11 : List Value, List.length cs11 = 69 ∧ Cells w10 ⟨World.heap w |>.size, 0, none⟩ cs11 ∧
 Calls Tryd.prog 16 #[(.agg (List.toArray cs11))] w10 fun e12 w13 => ∃ x14 : Array Value, ∃ x15 : Int, e12 = .returned (.tuple #[(.agg x14), (.int .i64 x15)]) ∧
 ∃ x16 : Array Value, (#[(.agg x14), (.int .i64 x15)] : Array Value)[0]? = some (.agg x16) ∧
 ∃ x17 : Int, (#[(.agg x14), (.int .i64 x15)] : Array Value)[1]? = some (.int .i64 x17) ∧
 ∀ w18 : World, w18 = World.alloc w13 (.cells (zc Tryd.prog 24).toArray 24) →
 Array.size x16 = 32 ∧ (∀ u ∈ Array.toList x16, one u = true) ∧ Room w18 ⟨World.heap w13 |>.size, 0, none⟩ 32 ∧
 ∀ w19 : World, w19 = setCells w18 ⟨World.heap w13 |>.size, 0, none⟩ (Array.toList x16) 0 →
 ∃ cs20 : List Value, List.length cs20 = 32 ∧ Cells w19 ⟨World.heap w4 |>.size, 0, none⟩ cs20 ∧
 ∃ cs21 : List Value, List.length cs21 = 32 ∧ Cells w19 ⟨World.heap w13 |>.size, 0, none⟩ cs21 ∧
 ∃ q22 : Bool, Sem.run Tryd.prog (do eqGuard .eql 24 (.tmp 17) (.tmp 18) (.agg (List.toArray cs20)) (.agg (List.toArray cs21)); binOp .eql 24 (.agg (List.toArray cs20)) (.agg (List.toArray cs21))) w19 = .ok (.bool q22) w19 ∧
 (bif q22 then
 (Calls Tryd.prog 17 #[(.int .i64 x8)] w19 fun e23 w24 => ∃ x25 : Int, e23 = .returned (.int .i64 x25) ∧
 R (.returned (.bool (decide (x25 = x17)))) w24)
 else
 (R (.returned (.bool false)) w19))
theorem e4 (n0 : Array Value) (w : World) (R : Ending → World → Prop) : denS Tryd.prog s4 (argsEnv 0 [(.agg n0)]) w (endK r4 R) = d4 n0 w R := by kernel_rfl
theorem c4 (n0 : Array Value) {w : World} {R : Ending → World → Prop} (h : d4 n0 w R) : Calls Tryd.prog 4 #[(.agg n0)] w R :=
  den4 [(.agg n0)] w R (by simp) ((e4 n0 w R).symm ▸ h)

/-- prelude/proof.Of -/
def s15 : S := (.seq (.ops [⟨(some 1), (.box 33 (.tmp 0)), .ptr, none⟩,
  ⟨(some 2), (.alloc 24), .ptr, none⟩,
  ⟨(some 3), (.mv (.const (.int .i64 0))), (.int .i64), none⟩] [1, 2])
 (.seq (.block 0
 (.seq (.ops [⟨(some 5), (.ldN 69 (.tmp 1)), .agg, none⟩,
  ⟨(some 6), (.bld 33 (.fields [(0, 1), (1, 1), (2, 32), (34, 32), (66, 3)]) []), .agg, none⟩,
  ⟨(some 7), (.eqG .eql 33 (.tmp 5) (.tmp 6)), .bool, none⟩,
  ⟨(some 4), (.mv (.tmp 7)), .bool, none⟩] [4, 2, 1])
 (.cond (.tmp 4)
 (.seq (.ops [⟨(some 8), (.bld 24 (.elems 1) []), .agg, none⟩,
  ⟨none, (.stN 32 (.tmp 2) (.tmp 8)), .any, none⟩,
  ⟨(some 3), (.mv (.const (.int .i64 0))), (.int .i64), none⟩] [2, 3])
 .ret)
 (.join [(9, .bool)] [1, 2]
 (.ops [⟨(some 10), (.fa 0 (.tmp 1)), .ptr, none⟩,
  ⟨(some 11), (.ld1 (.tmp 10)), (.int .i64), none⟩,
  ⟨(some 12), (.bin .eql (.tmp 11) (.const (.int .i64 1))), .bool, none⟩,
  ⟨(some 13), (.mv (.tmp 12)), .bool, none⟩,
  ⟨(some 14), (.ldN 69 (.tmp 1)), .agg, (some (13, true))⟩,
  ⟨(some 15), (.fa 66 (.tmp 1)), .ptr, (some (13, true))⟩,
  ⟨(some 16), (.ldN 3 (.tmp 15)), .agg, (some (13, true))⟩,
  ⟨(some 17), (.bld 33 (.fields [(0, 1), (1, 1), (2, 32), (34, 32), (66, 3)]) [(0, (.const (.int .i64 1))), (4, (.tmp 16))]), .agg, (some (13, true))⟩,
  ⟨(some 18), (.eqG .eql 33 (.tmp 14) (.tmp 17)), .bool, (some (13, true))⟩,
  ⟨(some 19), (.pick (.tmp 13) (.tmp 18) (.const (.bool false))), .bool, none⟩,
  ⟨(some 20), (.mv (.tmp 19)), .bool, none⟩,
  ⟨(some 21), (.fa 66 (.tmp 1)), .ptr, (some (20, true))⟩,
  ⟨(some 22), (.fa 0 (.tmp 21)), .ptr, (some (20, true))⟩,
  ⟨(some 23), (.ldN 2 (.tmp 22)), .agg, (some (20, true))⟩,
  ⟨(some 24), (.call 50 [(.tmp 23)] [(.int .i64)]), (.int .i64), (some (20, true))⟩,
  ⟨(some 25), (.bin .eql (.tmp 24) (.const (.int .i64 0))), .bool, (some (20, true))⟩,
  ⟨(some 26), (.pick (.tmp 20) (.tmp 25) (.const (.bool false))), .bool, none⟩,
  ⟨(some 9), (.mv (.tmp 26)), .bool, none⟩] [9, 1, 2])
 (.cond (.tmp 9)
 (.seq (.ops [⟨(some 27), (.fa 66 (.tmp 1)), .ptr, none⟩,
  ⟨(some 28), (.ldN 3 (.tmp 27)), .agg, none⟩,
  ⟨(some 29), (.call 51 [(.tmp 28)] [.agg]), .agg, none⟩,
  ⟨none, (.stN 32 (.tmp 2) (.tmp 29)), .any, none⟩,
  ⟨(some 3), (.mv (.const (.int .i64 0))), (.int .i64), none⟩] [2, 3])
 .ret)
 (.join [(30, .bool)] [1, 2]
 (.ops [⟨(some 31), (.fa 0 (.tmp 1)), .ptr, none⟩,
  ⟨(some 32), (.ld1 (.tmp 31)), (.int .i64), none⟩,
  ⟨(some 33), (.bin .eql (.tmp 32) (.const (.int .i64 2))), .bool, none⟩,
  ⟨(some 34), (.mv (.tmp 33)), .bool, none⟩,
  ⟨(some 35), (.fa 66 (.tmp 1)), .ptr, (some (34, true))⟩,
  ⟨(some 36), (.ldN 3 (.tmp 35)), .agg, (some (34, true))⟩,
  ⟨(some 37), (.bld 31 (.fields [(0, 2), (2, 1)]) []), .agg, (some (34, true))⟩,
  ⟨(some 38), (.eqG .eql 31 (.tmp 36) (.tmp 37)), .bool, (some (34, true))⟩,
  ⟨(some 39), (.pick (.tmp 34) (.tmp 38) (.const (.bool false))), .bool, none⟩,
  ⟨(some 40), (.mv (.tmp 39)), .bool, none⟩,
  ⟨(some 41), (.fa 1 (.tmp 1)), .ptr, (some (40, true))⟩,
  ⟨(some 42), (.ld1 (.tmp 41)), (.int .i64), (some (40, true))⟩,
  ⟨(some 43), (.call 52 [(.tmp 42)] [.bool]), .bool, (some (40, true))⟩,
  ⟨(some 44), (.pick (.tmp 40) (.tmp 43) (.const (.bool false))), .bool, none⟩,
  ⟨(some 30), (.mv (.tmp 44)), .bool, none⟩] [30, 1, 2])
 (.cond (.tmp 30)
 (.seq (.ops [⟨(some 45), (.fa 1 (.tmp 1)), .ptr, none⟩,
  ⟨(some 46), (.ld1 (.tmp 45)), (.int .i64), none⟩,
  ⟨(some 47), (.fa 2 (.tmp 1)), .ptr, none⟩,
  ⟨(some 48), (.ldN 32 (.tmp 47)), .agg, none⟩,
  ⟨(some 49), (.fa 34 (.tmp 1)), .ptr, none⟩,
  ⟨(some 50), (.ldN 32 (.tmp 49)), .agg, none⟩,
  ⟨(some 51), (.call 53 [(.tmp 46), (.tmp 48), (.tmp 50)] [.agg]), .agg, none⟩,
  ⟨none, (.stN 32 (.tmp 2) (.tmp 51)), .any, none⟩,
  ⟨(some 3), (.mv (.const (.int .i64 0))), (.int .i64), none⟩] [2, 3])
 .ret)
 .skip)))))))
 (.seq (.ops [⟨(some 52), (.bld 24 (.elems 1) []), .agg, none⟩,
  ⟨none, (.stN 32 (.tmp 2) (.tmp 52)), .any, none⟩,
  ⟨(some 3), (.mv (.const (.int .i64 252))), (.int .i64), none⟩] [2, 3])
 .ret)))
def r15 : List Res := [.cN 2 32, .t 3]
theorem tr15 : trS Tryd.prog [] 53 (Tryd.f15.body.getD .skip) s15 = some s15 := by kernel_rfl
theorem den15 (args : List Value) (w : World) (R : Ending → World → Prop) (hn : args.length ≤ 53) (h : denS Tryd.prog s15 (argsEnv 0 args) w (endK r15 R)) : Calls Tryd.prog 15 args.toArray w R :=
  calls_of_den (pn := []) (fn := Tryd.f15) (c := Tryd.f15.body.getD .skip) Tryd.func15 (by kernel_rfl) (by rw [Tryd.ntmps15]; exact hn) (by rw [Tryd.ntmps15]; exact tr15) (by kernel_rfl) h
def d15 (n0 : Array Value) (w : World) (R : Ending → World → Prop) : Prop :=
 ∀ w1 : World, w1 = World.alloc w (.cells n0 33) →
 ∀ w2 : World, w2 = World.alloc w1 (.cells (zc Tryd.prog 24).toArray 24) →
 ∃ cs3 : List Value, List.length cs3 = 69 ∧ Cells w2 ⟨World.heap w |>.size, 0, none⟩ cs3 ∧
 ∃ cs4, fillL (.fields [(0, 1), (1, 1), (2, 32), (34, 32), (66, 3)]) (zc Tryd.prog 33) [] = some cs4 ∧
 ∃ q5 : Bool, Sem.run Tryd.prog (do eqGuard .eql 33 (.tmp 5) (.tmp 6) (.agg (List.toArray cs3)) (.agg (List.toArray cs4)); binOp .eql 33 (.agg (List.toArray cs3)) (.agg (List.toArray cs4))) w2 = .ok (.bool q5) w2 ∧
 (bif q5 then
 (∃ cs6, fillL (.elems 1) (zc Tryd.prog 24) [] = some cs6 ∧
 Array.size (List.toArray cs6) = 32 ∧ (∀ u ∈ Array.toList (List.toArray cs6), one u = true) ∧ Room w2 ⟨World.heap w1 |>.size, 0, none⟩ 32 ∧
 ∀ w7 : World, w7 = setCells w2 ⟨World.heap w1 |>.size, 0, none⟩ (Array.toList (List.toArray cs6)) 0 →
 ∃ cs8 : List Value, List.length cs8 = 32 ∧ Cells w7 ⟨World.heap w1 |>.size, 0, none⟩ cs8 ∧
 R (.returned (.tuple #[(.agg (List.toArray cs8)), (.int .i64 0)])) w7)
 else
 (∃ J9 : Bool → World → Prop,
 (∃ x10 : Int, World.cell? w2 (Addr.add ⟨World.heap w |>.size, 0, none⟩ 0) = some (.int .i64 x10) ∧
 (bif (decide (x10 = 1)) then
 (∃ cs11 : List Value, List.length cs11 = 69 ∧ Cells w2 ⟨World.heap w |>.size, 0, none⟩ cs11 ∧
 ∃ cs12 : List Value, List.length cs12 = 3 ∧ Cells w2 (Addr.add ⟨World.heap w |>.size, 0, none⟩ 66) cs12 ∧
 ∃ cs13, fillL (.fields [(0, 1), (1, 1), (2, 32), (34, 32), (66, 3)]) (zc Tryd.prog 33) [(0, (.int .i64 1)), (4, (.agg (List.toArray cs12)))] = some cs13 ∧
 ∃ q14 : Bool, Sem.run Tryd.prog (do eqGuard .eql 33 (.tmp 14) (.tmp 17) (.agg (List.toArray cs11)) (.agg (List.toArray cs13)); binOp .eql 33 (.agg (List.toArray cs11)) (.agg (List.toArray cs13))) w2 = .ok (.bool q14) w2 ∧
 (bif q14 then
 (∃ cs15 : List Value, List.length cs15 = 2 ∧ Cells w2 (Addr.add (Addr.add ⟨World.heap w |>.size, 0, none⟩ 66) 0) cs15 ∧
 Calls Tryd.prog 50 #[(.agg (List.toArray cs15))] w2 fun e16 w17 => ∃ x18 : Int, e16 = .returned (.int .i64 x18) ∧
 J9 (decide (x18 = 0)) w17)
 else
 (J9 false w2)))
 else
 (J9 false w2))) ∧
 (∀ (w19 : World) (x20 : Bool), J9 x20 w19 →
 (bif x20 then
 (∃ cs21 : List Value, List.length cs21 = 3 ∧ Cells w19 (Addr.add ⟨World.heap w |>.size, 0, none⟩ 66) cs21 ∧
 Calls Tryd.prog 51 #[(.agg (List.toArray cs21))] w19 fun e22 w23 => ∃ x24 : Array Value, e22 = .returned (.agg x24) ∧
 Array.size x24 = 32 ∧ (∀ u ∈ Array.toList x24, one u = true) ∧ Room w23 ⟨World.heap w1 |>.size, 0, none⟩ 32 ∧
 ∀ w25 : World, w25 = setCells w23 ⟨World.heap w1 |>.size, 0, none⟩ (Array.toList x24) 0 →
 ∃ cs26 : List Value, List.length cs26 = 32 ∧ Cells w25 ⟨World.heap w1 |>.size, 0, none⟩ cs26 ∧
 R (.returned (.tuple #[(.agg (List.toArray cs26)), (.int .i64 0)])) w25)
 else
 (∃ J27 : Bool → World → Prop,
 (∃ x28 : Int, World.cell? w19 (Addr.add ⟨World.heap w |>.size, 0, none⟩ 0) = some (.int .i64 x28) ∧
 (bif (decide (x28 = 2)) then
 (∃ cs29 : List Value, List.length cs29 = 3 ∧ Cells w19 (Addr.add ⟨World.heap w |>.size, 0, none⟩ 66) cs29 ∧
 ∃ cs30, fillL (.fields [(0, 2), (2, 1)]) (zc Tryd.prog 31) [] = some cs30 ∧
 ∃ q31 : Bool, Sem.run Tryd.prog (do eqGuard .eql 31 (.tmp 36) (.tmp 37) (.agg (List.toArray cs29)) (.agg (List.toArray cs30)); binOp .eql 31 (.agg (List.toArray cs29)) (.agg (List.toArray cs30))) w19 = .ok (.bool q31) w19 ∧
 (bif q31 then
 (∃ x32 : Int, World.cell? w19 (Addr.add ⟨World.heap w |>.size, 0, none⟩ 1) = some (.int .i64 x32) ∧
 Calls Tryd.prog 52 #[(.int .i64 x32)] w19 fun e33 w34 => ∃ x35 : Bool, e33 = .returned (.bool x35) ∧
 J27 x35 w34)
 else
 (J27 false w19)))
 else
 (J27 false w19))) ∧
 (∀ (w36 : World) (x37 : Bool), J27 x37 w36 →
 (bif x37 then
 (∃ x38 : Int, World.cell? w36 (Addr.add ⟨World.heap w |>.size, 0, none⟩ 1) = some (.int .i64 x38) ∧
 ∃ cs39 : List Value, List.length cs39 = 32 ∧ Cells w36 (Addr.add ⟨World.heap w |>.size, 0, none⟩ 2) cs39 ∧
 ∃ cs40 : List Value, List.length cs40 = 32 ∧ Cells w36 (Addr.add ⟨World.heap w |>.size, 0, none⟩ 34) cs40 ∧
 Calls Tryd.prog 53 #[(.int .i64 x38), (.agg (List.toArray cs39)), (.agg (List.toArray cs40))] w36 fun e41 w42 => ∃ x43 : Array Value, e41 = .returned (.agg x43) ∧
 Array.size x43 = 32 ∧ (∀ u ∈ Array.toList x43, one u = true) ∧ Room w42 ⟨World.heap w1 |>.size, 0, none⟩ 32 ∧
 ∀ w44 : World, w44 = setCells w42 ⟨World.heap w1 |>.size, 0, none⟩ (Array.toList x43) 0 →
 ∃ cs45 : List Value, List.length cs45 = 32 ∧ Cells w44 ⟨World.heap w1 |>.size, 0, none⟩ cs45 ∧
 R (.returned (.tuple #[(.agg (List.toArray cs45)), (.int .i64 0)])) w44)
 else
 (∃ cs46, fillL (.elems 1) (zc Tryd.prog 24) [] = some cs46 ∧
 Array.size (List.toArray cs46) = 32 ∧ (∀ u ∈ Array.toList (List.toArray cs46), one u = true) ∧ Room w36 ⟨World.heap w1 |>.size, 0, none⟩ 32 ∧
 ∀ w47 : World, w47 = setCells w36 ⟨World.heap w1 |>.size, 0, none⟩ (Array.toList (List.toArray cs46)) 0 →
 ∃ cs48 : List Value, List.length cs48 = 32 ∧ Cells w47 ⟨World.heap w1 |>.size, 0, none⟩ cs48 ∧
 R (.returned (.tuple #[(.agg (List.toArray cs48)), (.int .i64 252)])) w47))))))))
theorem e15 (n0 : Array Value) (w : World) (R : Ending → World → Prop) : denS Tryd.prog s15 (argsEnv 0 [(.agg n0)]) w (endK r15 R) = d15 n0 w R := by kernel_rfl
theorem c15 (n0 : Array Value) {w : World} {R : Ending → World → Prop} (h : d15 n0 w R) : Calls Tryd.prog 15 #[(.agg n0)] w R :=
  den15 [(.agg n0)] w R (by simp) ((e15 n0 w R).symm ▸ h)

/-- prelude/preluderef24.Of -/
def s16 : S := (.seq (.ops [⟨(some 1), (.box 33 (.tmp 0)), .ptr, none⟩,
  ⟨(some 2), (.alloc 24), .ptr, none⟩,
  ⟨(some 3), (.mv (.const (.int .i64 0))), (.int .i64), none⟩] [1, 2])
 (.seq (.ops [⟨(some 7), (.ldN 69 (.tmp 1)), .agg, none⟩,
  ⟨(some 8), (.call 54 [(.tmp 7)] [.sl, .bool]), .any, none⟩,
  ⟨(some 6), (.mv (.tmp 8)), .any, none⟩,
  ⟨(some 9), (.ext 0 (.tmp 6)), .sl, none⟩,
  ⟨(some 10), (.ext 1 (.tmp 6)), .bool, none⟩,
  ⟨(some 4), (.mv (.tmp 9)), .sl, none⟩,
  ⟨(some 5), (.mv (.tmp 10)), .bool, none⟩] [5, 2, 1, 4])
 (.seq (.seq (.ops [⟨(some 11), (.mv (.tmp 5)), .bool, none⟩,
  ⟨(some 12), (.un .not (.tmp 11)), .bool, none⟩] [12, 2, 1, 4])
 (.cond (.tmp 12)
 (.seq (.ops [⟨(some 13), (.bld 24 (.elems 1) []), .agg, none⟩,
  ⟨none, (.stN 32 (.tmp 2) (.tmp 13)), .any, none⟩,
  ⟨(some 3), (.mv (.const (.int .i64 252))), (.int .i64), none⟩] [2, 3])
 .ret)
 .skip))
 (.seq (.seq (.ops [⟨(some 14), (.fa 0 (.tmp 1)), .ptr, none⟩,
  ⟨(some 15), (.ld1 (.tmp 14)), (.int .i64), none⟩,
  ⟨(some 16), (.bin .eql (.tmp 15) (.const (.int .i64 0))), .bool, none⟩] [16, 2, 4])
 (.cond (.tmp 16)
 (.seq (.ops [⟨(some 17), (.bld 24 (.elems 1) []), .agg, none⟩,
  ⟨none, (.stN 32 (.tmp 2) (.tmp 17)), .any, none⟩,
  ⟨(some 3), (.mv (.const (.int .i64 0))), (.int .i64), none⟩] [2, 3])
 .ret)
 .skip))
 (.seq (.ops [⟨(some 18), (.mv (.tmp 4)), .sl, none⟩,
  ⟨(some 19), (.call 13 [(.tmp 18)] [.agg]), .agg, none⟩,
  ⟨none, (.stN 32 (.tmp 2) (.tmp 19)), .any, none⟩,
  ⟨(some 3), (.mv (.const (.int .i64 0))), (.int .i64), none⟩] [2, 3])
 .ret)))))
def r16 : List Res := [.cN 2 32, .t 3]
theorem tr16 : trS Tryd.prog [] 20 (Tryd.f16.body.getD .skip) s16 = some s16 := by kernel_rfl
theorem den16 (args : List Value) (w : World) (R : Ending → World → Prop) (hn : args.length ≤ 20) (h : denS Tryd.prog s16 (argsEnv 0 args) w (endK r16 R)) : Calls Tryd.prog 16 args.toArray w R :=
  calls_of_den (pn := []) (fn := Tryd.f16) (c := Tryd.f16.body.getD .skip) Tryd.func16 (by kernel_rfl) (by rw [Tryd.ntmps16]; exact hn) (by rw [Tryd.ntmps16]; exact tr16) (by kernel_rfl) h
def d16 (n0 : Array Value) (w : World) (R : Ending → World → Prop) : Prop :=
 ∀ w1 : World, w1 = World.alloc w (.cells n0 33) →
 ∀ w2 : World, w2 = World.alloc w1 (.cells (zc Tryd.prog 24).toArray 24) →
 ∃ cs3 : List Value, List.length cs3 = 69 ∧ Cells w2 ⟨World.heap w |>.size, 0, none⟩ cs3 ∧
 Calls Tryd.prog 54 #[(.agg (List.toArray cs3))] w2 fun e4 w5 => ∃ (x6 : Option Addr) (x6n : Nat) (x6c : Nat), ∃ x7 : Bool, e4 = .returned (.tuple #[(.slice x6 x6n x6c), (.bool x7)]) ∧
 ∃ (x8 : Option Addr) (x8n : Nat) (x8c : Nat), (#[(.slice x6 x6n x6c), (.bool x7)] : Array Value)[0]? = some (.slice x8 x8n x8c) ∧
 ∃ x9 : Bool, (#[(.slice x6 x6n x6c), (.bool x7)] : Array Value)[1]? = some (.bool x9) ∧
 (bif (!x9) then
 (∃ cs10, fillL (.elems 1) (zc Tryd.prog 24) [] = some cs10 ∧
 Array.size (List.toArray cs10) = 32 ∧ (∀ u ∈ Array.toList (List.toArray cs10), one u = true) ∧ Room w5 ⟨World.heap w1 |>.size, 0, none⟩ 32 ∧
 ∀ w11 : World, w11 = setCells w5 ⟨World.heap w1 |>.size, 0, none⟩ (Array.toList (List.toArray cs10)) 0 →
 ∃ cs12 : List Value, List.length cs12 = 32 ∧ Cells w11 ⟨World.heap w1 |>.size, 0, none⟩ cs12 ∧
 R (.returned (.tuple #[(.agg (List.toArray cs12)), (.int .i64 252)])) w11)
 else
 (∃ x13 : Int, World.cell? w5 (Addr.add ⟨World.heap w |>.size, 0, none⟩ 0) = some (.int .i64 x13) ∧
 (bif (decide (x13 = 0)) then
 (∃ cs14, fillL (.elems 1) (zc Tryd.prog 24) [] = some cs14 ∧
 Array.size (List.toArray cs14) = 32 ∧ (∀ u ∈ Array.toList (List.toArray cs14), one u = true) ∧ Room w5 ⟨World.heap w1 |>.size, 0, none⟩ 32 ∧
 ∀ w15 : World, w15 = setCells w5 ⟨World.heap w1 |>.size, 0, none⟩ (Array.toList (List.toArray cs14)) 0 →
 ∃ cs16 : List Value, List.length cs16 = 32 ∧ Cells w15 ⟨World.heap w1 |>.size, 0, none⟩ cs16 ∧
 R (.returned (.tuple #[(.agg (List.toArray cs16)), (.int .i64 0)])) w15)
 else
 (Calls Tryd.prog 13 #[(.slice x8 x8n x8c)] w5 fun e17 w18 => ∃ x19 : Array Value, e17 = .returned (.agg x19) ∧
 Array.size x19 = 32 ∧ (∀ u ∈ Array.toList x19, one u = true) ∧ Room w18 ⟨World.heap w1 |>.size, 0, none⟩ 32 ∧
 ∀ w20 : World, w20 = setCells w18 ⟨World.heap w1 |>.size, 0, none⟩ (Array.toList x19) 0 →
 ∃ cs21 : List Value, List.length cs21 = 32 ∧ Cells w20 ⟨World.heap w1 |>.size, 0, none⟩ cs21 ∧
 R (.returned (.tuple #[(.agg (List.toArray cs21)), (.int .i64 0)])) w20))))
theorem e16 (n0 : Array Value) (w : World) (R : Ending → World → Prop) : denS Tryd.prog s16 (argsEnv 0 [(.agg n0)]) w (endK r16 R) = d16 n0 w R := by kernel_rfl
theorem c16 (n0 : Array Value) {w : World} {R : Ending → World → Prop} (h : d16 n0 w R) : Calls Tryd.prog 16 #[(.agg n0)] w R :=
  den16 [(.agg n0)] w R (by simp) ((e16 n0 w R).symm ▸ h)

/-- prelude/preludelaw24.num -/
def s17 : S := (.seq (.ops [⟨(some 2), (.mv (.const (.int .i64 0))), (.int .i64), none⟩] [0])
 (.seq (.ops [⟨(some 3), (.mv (.tmp 0)), (.int .i64), none⟩,
  ⟨(some 2), (.mv (.tmp 3)), (.int .i64), none⟩] [2])
 .ret))
def r17 : List Res := [.t 2]
theorem tr17 : trS Tryd.prog [] 4 (Tryd.f17.body.getD .skip) s17 = some s17 := by kernel_rfl
theorem den17 (args : List Value) (w : World) (R : Ending → World → Prop) (hn : args.length ≤ 4) (h : denS Tryd.prog s17 (argsEnv 0 args) w (endK r17 R)) : Calls Tryd.prog 17 args.toArray w R :=
  calls_of_den (pn := []) (fn := Tryd.f17) (c := Tryd.f17.body.getD .skip) Tryd.func17 (by kernel_rfl) (by rw [Tryd.ntmps17]; exact hn) (by rw [Tryd.ntmps17]; exact tr17) (by kernel_rfl) h
def d17 (e0 : Int) (w : World) (R : Ending → World → Prop) : Prop :=
 R (.returned (.int .i64 e0)) w
theorem e17 (e0 : Int) (w : World) (R : Ending → World → Prop) : denS Tryd.prog s17 (argsEnv 0 [(.int .i64 e0)]) w (endK r17 R) = d17 e0 w R := by kernel_rfl
theorem c17 (e0 : Int) {w : World} {R : Ending → World → Prop} (h : d17 e0 w R) : Calls Tryd.prog 17 #[(.int .i64 e0)] w R :=
  den17 [(.int .i64 e0)] w R (by simp) ((e17 e0 w R).symm ▸ h)

/-- prelude/keys.Check -/
def s50 : S := (.seq (.ops [⟨(some 1), (.box 29 (.tmp 0)), .ptr, none⟩,
  ⟨(some 2), (.mv (.const (.int .i64 0))), (.int .i64), none⟩] [1])
 (.seq (.seq (.ops [⟨(some 3), (.fa 0 (.tmp 1)), .ptr, none⟩,
  ⟨(some 4), (.ld1 (.tmp 3)), (.int .i64), none⟩,
  ⟨(some 5), (.bin .lss (.tmp 4) (.const (.int .i64 0))), .bool, none⟩,
  ⟨(some 6), (.mv (.tmp 5)), .bool, none⟩,
  ⟨(some 7), (.fa 0 (.tmp 1)), .ptr, (some (6, false))⟩,
  ⟨(some 8), (.ld1 (.tmp 7)), (.int .i64), (some (6, false))⟩,
  ⟨(some 9), (.bin .gtr (.tmp 8) (.const (.int .i64 65535))), .bool, (some (6, false))⟩,
  ⟨(some 10), (.pick (.tmp 6) (.const (.bool true)) (.tmp 9)), .bool, none⟩] [10])
 (.cond (.tmp 10)
 (.seq (.ops [⟨(some 2), (.mv (.const (.int .i64 20))), (.int .i64), none⟩] [2])
 .ret)
 .skip))
 (.seq (.ops [⟨(some 2), (.mv (.const (.int .i64 0))), (.int .i64), none⟩] [2])
 .ret)))
def r50 : List Res := [.t 2]
theorem tr50 : trS Tryd.prog [] 11 (Tryd.f50.body.getD .skip) s50 = some s50 := by kernel_rfl
theorem den50 (args : List Value) (w : World) (R : Ending → World → Prop) (hn : args.length ≤ 11) (h : denS Tryd.prog s50 (argsEnv 0 args) w (endK r50 R)) : Calls Tryd.prog 50 args.toArray w R :=
  calls_of_den (pn := []) (fn := Tryd.f50) (c := Tryd.f50.body.getD .skip) Tryd.func50 (by kernel_rfl) (by rw [Tryd.ntmps50]; exact hn) (by rw [Tryd.ntmps50]; exact tr50) (by kernel_rfl) h
def d50 (k0 : Array Value) (w : World) (R : Ending → World → Prop) : Prop :=
 ∀ w1 : World, w1 = World.alloc w (.cells k0 29) →
 ∃ x2 : Int, World.cell? w1 (Addr.add ⟨World.heap w |>.size, 0, none⟩ 0) = some (.int .i64 x2) ∧
 (bif (decide (x2 < 0)) then
 (R (.returned (.int .i64 20)) w1)
 else
 (∃ x3 : Int, World.cell? w1 (Addr.add ⟨World.heap w |>.size, 0, none⟩ 0) = some (.int .i64 x3) ∧
 (bif (decide (65535 < x3)) then
 (R (.returned (.int .i64 20)) w1)
 else
 (R (.returned (.int .i64 0)) w1))))
theorem e50 (k0 : Array Value) (w : World) (R : Ending → World → Prop) : denS Tryd.prog s50 (argsEnv 0 [(.agg k0)]) w (endK r50 R) = d50 k0 w R := by kernel_rfl
theorem c50 (k0 : Array Value) {w : World} {R : Ending → World → Prop} (h : d50 k0 w R) : Calls Tryd.prog 50 #[(.agg k0)] w R :=
  den50 [(.agg k0)] w R (by simp) ((e50 k0 w R).symm ▸ h)

/-- prelude/proof.leafSum -/
def s51 : S := (.seq (.ops [⟨(some 1), (.box 31 (.tmp 0)), .ptr, none⟩,
  ⟨(some 2), (.alloc 24), .ptr, none⟩] [1, 2])
 (.seq (.ops [⟨(some 8), (.fa 0 (.tmp 1)), .ptr, none⟩,
  ⟨(some 9), (.ldN 2 (.tmp 8)), .agg, none⟩,
  ⟨(some 10), (.call 55 [(.tmp 9)] [.sl, (.int .i64)]), .any, none⟩,
  ⟨(some 7), (.mv (.tmp 10)), .any, none⟩,
  ⟨(some 11), (.ext 0 (.tmp 7)), .sl, none⟩,
  ⟨(some 12), (.ext 1 (.tmp 7)), (.int .i64), none⟩,
  ⟨(some 3), (.mv (.tmp 11)), .sl, none⟩,
  ⟨(some 4), (.mv (.tmp 12)), (.int .i64), none⟩] [3, 1, 2])
 (.seq (.ops [⟨(some 13), (.bldS 5 1 1 [(0, (.const (.int .u8 0)))]), .sl, none⟩,
  ⟨(some 14), (.mv (.tmp 3)), .sl, none⟩,
  ⟨(some 15), (.app #[22, 22] 22 (.tmp 13) (.tmp 14)), .sl, none⟩,
  ⟨(some 5), (.mv (.tmp 15)), .sl, none⟩] [5, 1, 2])
 (.seq (.seq (.ops [⟨(some 6), (.mv (.const (.int .i64 56))), (.int .i64), none⟩] [6, 5, 1, 2])
 (.block 0
 (.loop [(5, .sl), (6, (.int .i64))] [1, 2]
 (.seq (.seq (.ops [⟨(some 16), (.mv (.tmp 6)), (.int .i64), none⟩,
  ⟨(some 17), (.bin .geq (.tmp 16) (.const (.int .i64 0))), .bool, none⟩] [17, 5, 1, 6, 2])
 (.cond (.tmp 17)
 .skip
 (.exit 0)))
 (.seq (.block 1
 (.ops [⟨(some 20), (.mv (.tmp 5)), .sl, none⟩,
  ⟨(some 21), (.fa 2 (.tmp 1)), .ptr, none⟩,
  ⟨(some 22), (.ld1 (.tmp 21)), (.int .i64), none⟩,
  ⟨(some 23), (.cv .u64 (.tmp 22)), (.int .u64), none⟩,
  ⟨(some 24), (.mv (.tmp 6)), (.int .i64), none⟩,
  ⟨(some 25), (.bin .shr (.tmp 23) (.tmp 24)), (.int .u64), none⟩,
  ⟨(some 26), (.cv .u8 (.tmp 25)), (.int .u8), none⟩,
  ⟨(some 27), (.bldS 5 1 1 [(0, (.tmp 26))]), .sl, none⟩,
  ⟨(some 28), (.app #[22, 22] 22 (.tmp 20) (.tmp 27)), .sl, none⟩,
  ⟨(some 5), (.mv (.tmp 28)), .sl, none⟩] [6, 5, 1, 2]))
 (.ops [⟨(some 18), (.mv (.tmp 6)), (.int .i64), none⟩,
  ⟨(some 19), (.bin .sub (.tmp 18) (.const (.int .i64 8))), (.int .i64), none⟩,
  ⟨(some 6), (.mv (.tmp 19)), (.int .i64), none⟩] [6, 5, 1, 2]))))))
 (.seq (.ops [⟨(some 29), (.mv (.tmp 5)), .sl, none⟩,
  ⟨(some 30), (.call 12 [(.tmp 29)] [.agg]), .agg, none⟩,
  ⟨none, (.stN 32 (.tmp 2) (.tmp 30)), .any, none⟩] [2])
 .ret)))))
def r51 : List Res := [.cN 2 32]
theorem tr51 : trS Tryd.prog [] 31 (Tryd.f51.body.getD .skip) s51 = some s51 := by kernel_rfl
theorem den51 (args : List Value) (w : World) (R : Ending → World → Prop) (hn : args.length ≤ 31) (h : denS Tryd.prog s51 (argsEnv 0 args) w (endK r51 R)) : Calls Tryd.prog 51 args.toArray w R :=
  calls_of_den (pn := []) (fn := Tryd.f51) (c := Tryd.f51.body.getD .skip) Tryd.func51 (by kernel_rfl) (by rw [Tryd.ntmps51]; exact hn) (by rw [Tryd.ntmps51]; exact tr51) (by kernel_rfl) h
def d51 (r0 : Array Value) (w : World) (R : Ending → World → Prop) : Prop :=
 ∀ w1 : World, w1 = World.alloc w (.cells r0 31) →
 ∀ w2 : World, w2 = World.alloc w1 (.cells (zc Tryd.prog 24).toArray 24) →
 ∃ cs3 : List Value, List.length cs3 = 2 ∧ Cells w2 (Addr.add ⟨World.heap w |>.size, 0, none⟩ 0) cs3 ∧
 Calls Tryd.prog 55 #[(.agg (List.toArray cs3))] w2 fun e4 w5 => ∃ (x6 : Option Addr) (x6n : Nat) (x6c : Nat), ∃ x7 : Int, e4 = .returned (.tuple #[(.slice x6 x6n x6c), (.int .i64 x7)]) ∧
 ∃ (x8 : Option Addr) (x8n : Nat) (x8c : Nat), (#[(.slice x6 x6n x6c), (.int .i64 x7)] : Array Value)[0]? = some (.slice x8 x8n x8c) ∧
 ∃ x9 : Int, (#[(.slice x6 x6n x6c), (.int .i64 x7)] : Array Value)[1]? = some (.int .i64 x9) ∧
 ∃ cs10, fillL (.elems 1) (zrep (zc Tryd.prog 5) (1 * 1)) [(0, (.int .u8 0))] = some cs10 ∧
 ∀ w11 : World, w11 = World.alloc w5 (.cells (List.toArray cs10) 5) →
 RunV Tryd.prog (Builtin.append_ #[22, 22] 22 #[(.slice (some ⟨World.heap w5 |>.size, 0, none⟩) 1 1), (.slice x8 x8n x8c)]) w11 fun v12 w13 => ∃ (x14 : Option Addr) (x14n : Nat) (x14c : Nat), v12 = (.slice x14 x14n x14c) ∧
 ∃ I15 : Nat → Option Addr → Nat → Nat → Int → World → Prop,
 (∃ m, I15 m x14 x14n x14c 56 w13) ∧
 (∀ (m16 : Nat) (w17 : World) (t18 : Option Addr) (t18n : Nat) (t18c : Nat) (k19 : Int), I15 m16 t18 t18n t18c k19 w17 →
 (bif (decide (0 ≤ k19)) then
 (∃ x20 : Int, World.cell? w17 (Addr.add ⟨World.heap w |>.size, 0, none⟩ 2) = some (.int .i64 x20) ∧
 0 ≤ k19 ∧ ∃ cs21, fillL (.elems 1) (zrep (zc Tryd.prog 5) (1 * 1)) [(0, (.int .u8 (IntKind.wrap .u8 (shR .u64 (IntKind.wrap .u64 x20) k19))))] = some cs21 ∧
 ∀ w22 : World, w22 = World.alloc w17 (.cells (List.toArray cs21) 5) →
 RunV Tryd.prog (Builtin.append_ #[22, 22] 22 #[(.slice t18 t18n t18c), (.slice (some ⟨World.heap w17 |>.size, 0, none⟩) 1 1)]) w22 fun v23 w24 => ∃ (x25 : Option Addr) (x25n : Nat) (x25c : Nat), v23 = (.slice x25 x25n x25c) ∧
 ∃ m26, m26 < m16 ∧ I15 m26 x25 x25n x25c (IntKind.wrap .i64 (k19 - 8)) w24)
 else
 (Calls Tryd.prog 12 #[(.slice t18 t18n t18c)] w17 fun e27 w28 => ∃ x29 : Array Value, e27 = .returned (.agg x29) ∧
 Array.size x29 = 32 ∧ (∀ u ∈ Array.toList x29, one u = true) ∧ Room w28 ⟨World.heap w1 |>.size, 0, none⟩ 32 ∧
 ∀ w30 : World, w30 = setCells w28 ⟨World.heap w1 |>.size, 0, none⟩ (Array.toList x29) 0 →
 ∃ cs31 : List Value, List.length cs31 = 32 ∧ Cells w30 ⟨World.heap w1 |>.size, 0, none⟩ cs31 ∧
 R (.returned (.agg (List.toArray cs31))) w30)))
theorem e51 (r0 : Array Value) (w : World) (R : Ending → World → Prop) : denS Tryd.prog s51 (argsEnv 0 [(.agg r0)]) w (endK r51 R) = d51 r0 w R := by kernel_rfl
theorem c51 (r0 : Array Value) {w : World} {R : Ending → World → Prop} (h : d51 r0 w R) : Calls Tryd.prog 51 #[(.agg r0)] w R :=
  den51 [(.agg r0)] w R (by simp) ((e51 r0 w R).symm ▸ h)

/-- prelude/proof.rank -/
def s52 : S := (.seq (.ops [⟨(some 2), (.mv (.const (.bool false))), .bool, none⟩] [0])
 (.seq (.ops [⟨(some 3), (.mv (.tmp 0)), (.int .i64), none⟩,
  ⟨(some 4), (.bin .geq (.tmp 3) (.const (.int .i64 0))), .bool, none⟩,
  ⟨(some 5), (.mv (.tmp 4)), .bool, none⟩,
  ⟨(some 6), (.mv (.tmp 0)), (.int .i64), (some (5, true))⟩,
  ⟨(some 7), (.bin .lss (.tmp 6) (.const (.int .i64 80))), .bool, (some (5, true))⟩,
  ⟨(some 8), (.pick (.tmp 5) (.tmp 7) (.const (.bool false))), .bool, none⟩,
  ⟨(some 2), (.mv (.tmp 8)), .bool, none⟩] [2])
 .ret))
def r52 : List Res := [.t 2]
theorem tr52 : trS Tryd.prog [] 9 (Tryd.f52.body.getD .skip) s52 = some s52 := by kernel_rfl
theorem den52 (args : List Value) (w : World) (R : Ending → World → Prop) (hn : args.length ≤ 9) (h : denS Tryd.prog s52 (argsEnv 0 args) w (endK r52 R)) : Calls Tryd.prog 52 args.toArray w R :=
  calls_of_den (pn := []) (fn := Tryd.f52) (c := Tryd.f52.body.getD .skip) Tryd.func52 (by kernel_rfl) (by rw [Tryd.ntmps52]; exact hn) (by rw [Tryd.ntmps52]; exact tr52) (by kernel_rfl) h
def d52 (n0 : Int) (w : World) (R : Ending → World → Prop) : Prop :=
 (bif (decide (0 ≤ n0)) then
 (R (.returned (.bool (decide (n0 < 80)))) w)
 else
 (R (.returned (.bool false)) w))
theorem e52 (n0 : Int) (w : World) (R : Ending → World → Prop) : denS Tryd.prog s52 (argsEnv 0 [(.int .i64 n0)]) w (endK r52 R) = d52 n0 w R := by kernel_rfl
theorem c52 (n0 : Int) {w : World} {R : Ending → World → Prop} (h : d52 n0 w R) : Calls Tryd.prog 52 #[(.int .i64 n0)] w R :=
  den52 [(.int .i64 n0)] w R (by simp) ((e52 n0 w R).symm ▸ h)

/-- prelude/proof.forkSum -/
def s53 : S := (.seq (.ops [⟨(some 4), (.box 24 (.tmp 1)), .ptr, none⟩,
  ⟨(some 5), (.box 24 (.tmp 2)), .ptr, none⟩,
  ⟨(some 6), (.alloc 24), .ptr, none⟩] [0, 4, 5, 6])
 (.seq (.draw (.take 0 ⟨(some 7), (.mv (.tmp 0)), (.int .i64), none⟩
  (.take 1 ⟨(some 8), (.cv .u8 (.tmp 7)), (.int .u8), none⟩
  (.take 3 ⟨(some 10), (.slA 32 1 (.tmp 4) none none none), .sl, none⟩
  (.take 4 ⟨(some 11), (.slA 32 1 (.tmp 5) none none none), .sl, none⟩
  (.go 2 ⟨(some 9), (.bldS 5 2 1 [(0, (.const (.int .u8 1))), (1, (.tmp 8))]), .sl, none⟩ []
  (.go 5 ⟨(some 12), (.bldS 22 3 1 [(0, (.tmp 9)), (1, (.tmp 10)), (2, (.tmp 11))]), .sl, none⟩ []
  (.go 6 ⟨(some 13), (.call 71 [(.tmp 12)] [.sl]), .sl, none⟩ []
  (.go 7 ⟨(some 14), (.call 12 [(.tmp 13)] [.agg]), .agg, none⟩ []
  (.go 8 ⟨none, (.stN 32 (.tmp 6) (.tmp 14)), .any, none⟩ []
  .done))))))))) [6])
 .ret))
def r53 : List Res := [.cN 6 32]
theorem tr53 : trS Tryd.prog [] 15 (Tryd.f53.body.getD .skip) s53 = some s53 := by kernel_rfl
theorem den53 (args : List Value) (w : World) (R : Ending → World → Prop) (hn : args.length ≤ 15) (h : denS Tryd.prog s53 (argsEnv 0 args) w (endK r53 R)) : Calls Tryd.prog 53 args.toArray w R :=
  calls_of_den (pn := []) (fn := Tryd.f53) (c := Tryd.f53.body.getD .skip) Tryd.func53 (by kernel_rfl) (by rw [Tryd.ntmps53]; exact hn) (by rw [Tryd.ntmps53]; exact tr53) (by kernel_rfl) h
def d53 (n0 : Int) (l1 : Array Value) (r2 : Array Value) (w : World) (R : Ending → World → Prop) : Prop :=
 ∀ w3 : World, w3 = World.alloc w (.cells l1 24) →
 ∀ w4 : World, w4 = World.alloc w3 (.cells r2 24) →
 ∀ w5 : World, w5 = World.alloc w4 (.cells (zc Tryd.prog 24).toArray 24) →
 ∀ w6 : World, w6 = World.drew w5 →
 ∃ cs7, fillL (.elems 1) (zrep (zc Tryd.prog 5) (2 * 1)) [(0, (.int .u8 1)), (1, (.int .u8 (IntKind.wrap .u8 n0)))] = some cs7 ∧
 ∀ w8 : World, w8 = World.alloc w6 (.cells (List.toArray cs7) 5) →
 ∃ cs9, fillL (.elems 1) (zrep (zc Tryd.prog 22) (3 * 1)) [(0, (.slice (some ⟨World.heap w6 |>.size, 0, none⟩) 2 2)), (1, (.slice (some (if 32 = 0 then ⟨World.heap w |>.size, 0, none⟩ else Addr.add ⟨World.heap w |>.size, 0, none⟩ (0 * 1))) (32 - 0) (32 - 0))), (2, (.slice (some (if 32 = 0 then ⟨World.heap w3 |>.size, 0, none⟩ else Addr.add ⟨World.heap w3 |>.size, 0, none⟩ (0 * 1))) (32 - 0) (32 - 0)))] = some cs9 ∧
 ∀ w10 : World, w10 = World.alloc w8 (.cells (List.toArray cs9) 22) →
 Calls Tryd.prog 71 #[(.slice (some ⟨World.heap w8 |>.size, 0, none⟩) 3 3)] w10 fun e11 w12 => ∃ (x13 : Option Addr) (x13n : Nat) (x13c : Nat), e11 = .returned (.slice x13 x13n x13c) ∧
 Calls Tryd.prog 12 #[(.slice x13 x13n x13c)] w12 fun e14 w15 => ∃ x16 : Array Value, e14 = .returned (.agg x16) ∧
 Array.size x16 = 32 ∧ (∀ u ∈ Array.toList x16, one u = true) ∧ Room w15 ⟨World.heap w4 |>.size, 0, none⟩ 32 ∧
 ∀ w17 : World, w17 = setCells w15 ⟨World.heap w4 |>.size, 0, none⟩ (Array.toList x16) 0 →
 ∃ cs18 : List Value, List.length cs18 = 32 ∧ Cells w17 ⟨World.heap w4 |>.size, 0, none⟩ cs18 ∧
 R (.returned (.agg (List.toArray cs18))) w17
theorem e53 (n0 : Int) (l1 : Array Value) (r2 : Array Value) (w : World) (R : Ending → World → Prop) : denS Tryd.prog s53 (argsEnv 0 [(.int .i64 n0), (.agg l1), (.agg r2)]) w (endK r53 R) = d53 n0 l1 r2 w R := by kernel_rfl
theorem c53 (n0 : Int) (l1 : Array Value) (r2 : Array Value) {w : World} {R : Ending → World → Prop} (h : d53 n0 l1 r2 w R) : Calls Tryd.prog 53 #[(.int .i64 n0), (.agg l1), (.agg r2)] w R :=
  den53 [(.int .i64 n0), (.agg l1), (.agg r2)] w R (by simp) ((e53 n0 l1 r2 w R).symm ▸ h)

/-- prelude/preluderef24.Text -/
def s54 : S := (.seq (.ops [⟨(some 1), (.box 33 (.tmp 0)), .ptr, none⟩,
  ⟨(some 2), (.mv (.const (.slice none 0 0))), .sl, none⟩,
  ⟨(some 3), (.mv (.const (.bool false))), .bool, none⟩] [1])
 (.seq (.ops [⟨(some 11), (.fa 66 (.tmp 1)), .ptr, none⟩,
  ⟨(some 12), (.ldN 3 (.tmp 11)), .agg, none⟩,
  ⟨(some 13), (.bld 31 (.fields [(0, 2), (2, 1)]) []), .agg, none⟩,
  ⟨(some 14), (.eqG .eql 31 (.tmp 12) (.tmp 13)), .bool, none⟩,
  ⟨(some 4), (.mv (.tmp 14)), .bool, none⟩] [1, 4])
 (.join [(5, .bool)] [1, 4]
 (.ops [⟨(some 15), (.fa 2 (.tmp 1)), .ptr, none⟩,
  ⟨(some 16), (.ldN 32 (.tmp 15)), .agg, none⟩,
  ⟨(some 17), (.bld 24 (.elems 1) []), .agg, none⟩,
  ⟨(some 18), (.eqG .eql 24 (.tmp 16) (.tmp 17)), .bool, none⟩,
  ⟨(some 19), (.mv (.tmp 18)), .bool, none⟩,
  ⟨(some 20), (.fa 34 (.tmp 1)), .ptr, (some (19, true))⟩,
  ⟨(some 21), (.ldN 32 (.tmp 20)), .agg, (some (19, true))⟩,
  ⟨(some 22), (.bld 24 (.elems 1) []), .agg, (some (19, true))⟩,
  ⟨(some 23), (.eqG .eql 24 (.tmp 21) (.tmp 22)), .bool, (some (19, true))⟩,
  ⟨(some 24), (.pick (.tmp 19) (.tmp 23) (.const (.bool false))), .bool, none⟩,
  ⟨(some 5), (.mv (.tmp 24)), .bool, none⟩] [1, 4, 5])
 (.seq (.seq (.ops [⟨(some 25), (.fa 0 (.tmp 1)), .ptr, none⟩,
  ⟨(some 26), (.ld1 (.tmp 25)), (.int .i64), none⟩] [26, 4, 5, 1])
 (.block 0
 (.seq (.ops [⟨(some 28), (.bin .eql (.tmp 26) (.const (.int .i64 0))), .bool, none⟩,
  ⟨(some 27), (.mv (.tmp 28)), .bool, none⟩] [27, 4, 5, 1, 26])
 (.cond (.tmp 27)
 (.seq (.draw (.take 0 ⟨(some 29), (.mv (.tmp 4)), .bool, none⟩
  (.take 1 ⟨(some 30), (.mv (.tmp 29)), .bool, none⟩
  (.take 2 ⟨(some 31), (.mv (.tmp 5)), .bool, (some (30, true))⟩
  (.take 3 ⟨(some 32), (.pick (.tmp 30) (.tmp 31) (.const (.bool false))), .bool, none⟩
  (.take 4 ⟨(some 33), (.mv (.tmp 32)), .bool, none⟩
  (.take 5 ⟨(some 34), (.fa 1 (.tmp 1)), .ptr, (some (33, true))⟩
  (.take 6 ⟨(some 35), (.ld1 (.tmp 34)), (.int .i64), (some (33, true))⟩
  (.take 7 ⟨(some 36), (.bin .eql (.tmp 35) (.const (.int .i64 0))), .bool, (some (33, true))⟩
  (.take 8 ⟨(some 37), (.pick (.tmp 33) (.tmp 36) (.const (.bool false))), .bool, none⟩
  (.take 9 ⟨(some 2), (.mv (.const (.slice none 0 0))), .sl, none⟩
  (.take 10 ⟨(some 3), (.mv (.tmp 37)), .bool, none⟩
  .done))))))))))) [2, 3])
 .ret)
 (.seq (.ops [⟨(some 39), (.bin .eql (.tmp 26) (.const (.int .i64 1))), .bool, none⟩,
  ⟨(some 38), (.mv (.tmp 39)), .bool, none⟩] [38, 5, 1, 26, 4])
 (.cond (.tmp 38)
 (.join [] [1]
 (.seq (.ops [⟨(some 40), (.mv (.tmp 5)), .bool, none⟩,
  ⟨(some 41), (.un .not (.tmp 40)), .bool, none⟩,
  ⟨(some 42), (.mv (.tmp 41)), .bool, none⟩,
  ⟨(some 43), (.fa 1 (.tmp 1)), .ptr, (some (42, false))⟩,
  ⟨(some 44), (.ld1 (.tmp 43)), (.int .i64), (some (42, false))⟩,
  ⟨(some 45), (.bin .neq (.tmp 44) (.const (.int .i64 0))), .bool, (some (42, false))⟩,
  ⟨(some 46), (.pick (.tmp 42) (.const (.bool true)) (.tmp 45)), .bool, none⟩,
  ⟨(some 47), (.mv (.tmp 46)), .bool, none⟩,
  ⟨(some 48), (.fa 66 (.tmp 1)), .ptr, (some (47, false))⟩,
  ⟨(some 49), (.fa 0 (.tmp 48)), .ptr, (some (47, false))⟩,
  ⟨(some 50), (.ldN 2 (.tmp 49)), .agg, (some (47, false))⟩,
  ⟨(some 51), (.call 57 [(.tmp 50)] [(.int .i64)]), (.int .i64), (some (47, false))⟩,
  ⟨(some 52), (.bin .neq (.tmp 51) (.const (.int .i64 0))), .bool, (some (47, false))⟩,
  ⟨(some 53), (.pick (.tmp 47) (.const (.bool true)) (.tmp 52)), .bool, none⟩] [53, 1])
 (.cond (.tmp 53)
 (.seq (.ops [⟨(some 2), (.mv (.const (.slice none 0 0))), .sl, none⟩,
  ⟨(some 3), (.mv (.const (.bool false))), .bool, none⟩] [2, 3])
 .ret)
 .skip))
 (.seq (.ops [⟨(some 55), (.fa 66 (.tmp 1)), .ptr, none⟩,
  ⟨(some 56), (.fa 0 (.tmp 55)), .ptr, none⟩,
  ⟨(some 57), (.ldN 2 (.tmp 56)), .agg, none⟩,
  ⟨(some 58), (.call 72 [(.tmp 57)] [.sl, (.int .i64)]), .any, none⟩,
  ⟨(some 54), (.mv (.tmp 58)), .any, none⟩,
  ⟨(some 59), (.ext 0 (.tmp 54)), .sl, none⟩,
  ⟨(some 60), (.ext 1 (.tmp 54)), (.int .i64), none⟩,
  ⟨(some 6), (.mv (.tmp 59)), .sl, none⟩,
  ⟨(some 7), (.mv (.tmp 60)), (.int .i64), none⟩] [6, 1])
 (.seq (.ops [⟨(some 61), (.bldS 5 1 1 [(0, (.const (.int .u8 0)))]), .sl, none⟩,
  ⟨(some 62), (.mv (.tmp 6)), .sl, none⟩,
  ⟨(some 63), (.app #[22, 22] 22 (.tmp 61) (.tmp 62)), .sl, none⟩,
  ⟨(some 8), (.mv (.tmp 63)), .sl, none⟩] [8, 1])
 (.seq (.seq (.ops [⟨(some 9), (.mv (.const (.int .i64 7))), (.int .i64), none⟩] [9, 8, 1])
 (.block 1
 (.loop [(8, .sl), (9, (.int .i64))] [1]
 (.seq (.seq (.ops [⟨(some 64), (.mv (.tmp 9)), (.int .i64), none⟩,
  ⟨(some 65), (.bin .geq (.tmp 64) (.const (.int .i64 0))), .bool, none⟩] [65, 8, 1, 9])
 (.cond (.tmp 65)
 .skip
 (.exit 1)))
 (.seq (.block 2
 (.ops [⟨(some 68), (.mv (.tmp 8)), .sl, none⟩,
  ⟨(some 69), (.fa 66 (.tmp 1)), .ptr, none⟩,
  ⟨(some 70), (.fa 2 (.tmp 69)), .ptr, none⟩,
  ⟨(some 71), (.ld1 (.tmp 70)), (.int .i64), none⟩,
  ⟨(some 72), (.cv .u64 (.tmp 71)), (.int .u64), none⟩,
  ⟨(some 73), (.mv (.tmp 9)), (.int .i64), none⟩,
  ⟨(some 74), (.bin .mul (.const (.int .i64 8)) (.tmp 73)), (.int .i64), none⟩,
  ⟨(some 75), (.bin .shr (.tmp 72) (.tmp 74)), (.int .u64), none⟩,
  ⟨(some 76), (.cv .u8 (.tmp 75)), (.int .u8), none⟩,
  ⟨(some 77), (.bldS 5 1 1 [(0, (.tmp 76))]), .sl, none⟩,
  ⟨(some 78), (.app #[22, 22] 22 (.tmp 68) (.tmp 77)), .sl, none⟩,
  ⟨(some 8), (.mv (.tmp 78)), .sl, none⟩] [9, 8, 1]))
 (.ops [⟨(some 66), (.mv (.tmp 9)), (.int .i64), none⟩,
  ⟨(some 67), (.bin .sub (.tmp 66) (.const (.int .i64 1))), (.int .i64), none⟩,
  ⟨(some 9), (.mv (.tmp 67)), (.int .i64), none⟩] [9, 8, 1]))))))
 (.seq (.ops [⟨(some 79), (.mv (.tmp 8)), .sl, none⟩,
  ⟨(some 2), (.mv (.tmp 79)), .sl, none⟩,
  ⟨(some 3), (.mv (.const (.bool true))), .bool, none⟩] [2, 3])
 .ret)))))
 (.seq (.ops [⟨(some 81), (.bin .eql (.tmp 26) (.const (.int .i64 2))), .bool, none⟩,
  ⟨(some 80), (.mv (.tmp 81)), .bool, none⟩] [80, 4, 1])
 (.cond (.tmp 80)
 (.join [] [1]
 (.seq (.ops [⟨(some 82), (.mv (.tmp 4)), .bool, none⟩,
  ⟨(some 83), (.un .not (.tmp 82)), .bool, none⟩,
  ⟨(some 84), (.mv (.tmp 83)), .bool, none⟩,
  ⟨(some 85), (.fa 1 (.tmp 1)), .ptr, (some (84, false))⟩,
  ⟨(some 86), (.ld1 (.tmp 85)), (.int .i64), (some (84, false))⟩,
  ⟨(some 87), (.bin .lss (.tmp 86) (.const (.int .i64 0))), .bool, (some (84, false))⟩,
  ⟨(some 88), (.pick (.tmp 84) (.const (.bool true)) (.tmp 87)), .bool, none⟩,
  ⟨(some 89), (.mv (.tmp 88)), .bool, none⟩,
  ⟨(some 90), (.fa 1 (.tmp 1)), .ptr, (some (89, false))⟩,
  ⟨(some 91), (.ld1 (.tmp 90)), (.int .i64), (some (89, false))⟩,
  ⟨(some 92), (.bin .geq (.tmp 91) (.const (.int .i64 80))), .bool, (some (89, false))⟩,
  ⟨(some 93), (.pick (.tmp 89) (.const (.bool true)) (.tmp 92)), .bool, none⟩] [93, 1])
 (.cond (.tmp 93)
 (.seq (.ops [⟨(some 2), (.mv (.const (.slice none 0 0))), .sl, none⟩,
  ⟨(some 3), (.mv (.const (.bool false))), .bool, none⟩] [2, 3])
 .ret)
 .skip))
 (.seq (.ops [⟨(some 94), (.fa 1 (.tmp 1)), .ptr, none⟩,
  ⟨(some 95), (.ld1 (.tmp 94)), (.int .i64), none⟩,
  ⟨(some 96), (.cv .u8 (.tmp 95)), (.int .u8), none⟩,
  ⟨(some 97), (.bldS 5 2 1 [(0, (.const (.int .u8 1))), (1, (.tmp 96))]), .sl, none⟩,
  ⟨(some 10), (.mv (.tmp 97)), .sl, none⟩] [10, 1])
 (.seq (.ops [⟨(some 98), (.mv (.tmp 10)), .sl, none⟩,
  ⟨(some 99), (.fa 2 (.tmp 1)), .ptr, none⟩,
  ⟨(some 100), (.slA 32 1 (.tmp 99) none none none), .sl, none⟩,
  ⟨(some 101), (.app #[22, 22] 22 (.tmp 98) (.tmp 100)), .sl, none⟩,
  ⟨(some 10), (.mv (.tmp 101)), .sl, none⟩] [10, 1])
 (.seq (.ops [⟨(some 102), (.mv (.tmp 10)), .sl, none⟩,
  ⟨(some 103), (.fa 34 (.tmp 1)), .ptr, none⟩,
  ⟨(some 104), (.slA 32 1 (.tmp 103) none none none), .sl, none⟩,
  ⟨(some 105), (.app #[22, 22] 22 (.tmp 102) (.tmp 104)), .sl, none⟩,
  ⟨(some 2), (.mv (.tmp 105)), .sl, none⟩,
  ⟨(some 3), (.mv (.const (.bool true))), .bool, none⟩] [2, 3])
 .ret))))
 .skip))))))))
 (.seq (.ops [⟨(some 2), (.mv (.const (.slice none 0 0))), .sl, none⟩,
  ⟨(some 3), (.mv (.const (.bool false))), .bool, none⟩] [2, 3])
 .ret)))))
def r54 : List Res := [.t 2, .t 3]
theorem tr54 : trS Tryd.prog [] 106 (Tryd.f54.body.getD .skip) s54 = some s54 := by kernel_rfl
theorem den54 (args : List Value) (w : World) (R : Ending → World → Prop) (hn : args.length ≤ 106) (h : denS Tryd.prog s54 (argsEnv 0 args) w (endK r54 R)) : Calls Tryd.prog 54 args.toArray w R :=
  calls_of_den (pn := []) (fn := Tryd.f54) (c := Tryd.f54.body.getD .skip) Tryd.func54 (by kernel_rfl) (by rw [Tryd.ntmps54]; exact hn) (by rw [Tryd.ntmps54]; exact tr54) (by kernel_rfl) h
def d54 (n0 : Array Value) (w : World) (R : Ending → World → Prop) : Prop :=
 ∀ w1 : World, w1 = World.alloc w (.cells n0 33) →
 ∃ cs2 : List Value, List.length cs2 = 3 ∧ Cells w1 (Addr.add ⟨World.heap w |>.size, 0, none⟩ 66) cs2 ∧
 ∃ cs3, fillL (.fields [(0, 2), (2, 1)]) (zc Tryd.prog 31) [] = some cs3 ∧
 ∃ q4 : Bool, Sem.run Tryd.prog (do eqGuard .eql 31 (.tmp 12) (.tmp 13) (.agg (List.toArray cs2)) (.agg (List.toArray cs3)); binOp .eql 31 (.agg (List.toArray cs2)) (.agg (List.toArray cs3))) w1 = .ok (.bool q4) w1 ∧
 ∃ J5 : Bool → World → Prop,
 (∃ cs6 : List Value, List.length cs6 = 32 ∧ Cells w1 (Addr.add ⟨World.heap w |>.size, 0, none⟩ 2) cs6 ∧
 ∃ cs7, fillL (.elems 1) (zc Tryd.prog 24) [] = some cs7 ∧
 ∃ q8 : Bool, Sem.run Tryd.prog (do eqGuard .eql 24 (.tmp 16) (.tmp 17) (.agg (List.toArray cs6)) (.agg (List.toArray cs7)); binOp .eql 24 (.agg (List.toArray cs6)) (.agg (List.toArray cs7))) w1 = .ok (.bool q8) w1 ∧
 (bif q8 then
 (∃ cs9 : List Value, List.length cs9 = 32 ∧ Cells w1 (Addr.add ⟨World.heap w |>.size, 0, none⟩ 34) cs9 ∧
 ∃ cs10, fillL (.elems 1) (zc Tryd.prog 24) [] = some cs10 ∧
 ∃ q11 : Bool, Sem.run Tryd.prog (do eqGuard .eql 24 (.tmp 21) (.tmp 22) (.agg (List.toArray cs9)) (.agg (List.toArray cs10)); binOp .eql 24 (.agg (List.toArray cs9)) (.agg (List.toArray cs10))) w1 = .ok (.bool q11) w1 ∧
 J5 q11 w1)
 else
 (J5 false w1))) ∧
 (∀ (w12 : World) (sides13 : Bool), J5 sides13 w12 →
 ∃ x14 : Int, World.cell? w12 (Addr.add ⟨World.heap w |>.size, 0, none⟩ 0) = some (.int .i64 x14) ∧
 (bif (decide (x14 = 0)) then
 (∀ w15 : World, w15 = World.drew w12 →
 (bif q4 then
 ((bif sides13 then
 (∃ x16 : Int, World.cell? w15 (Addr.add ⟨World.heap w |>.size, 0, none⟩ 1) = some (.int .i64 x16) ∧
 R (.returned (.tuple #[(.slice none 0 0), (.bool (decide (x16 = 0)))])) w15)
 else
 (R (.returned (.tuple #[(.slice none 0 0), (.bool false)])) w15)))
 else
 (R (.returned (.tuple #[(.slice none 0 0), (.bool false)])) w15)))
 else
 ((bif (decide (x14 = 1)) then
 (∃ J17 : World → Prop,
 ((bif (!sides13) then
 (R (.returned (.tuple #[(.slice none 0 0), (.bool false)])) w12)
 else
 (∃ x18 : Int, World.cell? w12 (Addr.add ⟨World.heap w |>.size, 0, none⟩ 1) = some (.int .i64 x18) ∧
 (bif (!decide (x18 = 0)) then
 (R (.returned (.tuple #[(.slice none 0 0), (.bool false)])) w12)
 else
 (∃ cs19 : List Value, List.length cs19 = 2 ∧ Cells w12 (Addr.add (Addr.add ⟨World.heap w |>.size, 0, none⟩ 66) 0) cs19 ∧
 Calls Tryd.prog 57 #[(.agg (List.toArray cs19))] w12 fun e20 w21 => ∃ x22 : Int, e20 = .returned (.int .i64 x22) ∧
 (bif (!decide (x22 = 0)) then
 (R (.returned (.tuple #[(.slice none 0 0), (.bool false)])) w21)
 else
 (J17  w21))))))) ∧
 (∀ (w23 : World), J17  w23 →
 ∃ cs24 : List Value, List.length cs24 = 2 ∧ Cells w23 (Addr.add (Addr.add ⟨World.heap w |>.size, 0, none⟩ 66) 0) cs24 ∧
 Calls Tryd.prog 72 #[(.agg (List.toArray cs24))] w23 fun e25 w26 => ∃ (x27 : Option Addr) (x27n : Nat) (x27c : Nat), ∃ x28 : Int, e25 = .returned (.tuple #[(.slice x27 x27n x27c), (.int .i64 x28)]) ∧
 ∃ (x29 : Option Addr) (x29n : Nat) (x29c : Nat), (#[(.slice x27 x27n x27c), (.int .i64 x28)] : Array Value)[0]? = some (.slice x29 x29n x29c) ∧
 ∃ x30 : Int, (#[(.slice x27 x27n x27c), (.int .i64 x28)] : Array Value)[1]? = some (.int .i64 x30) ∧
 ∃ cs31, fillL (.elems 1) (zrep (zc Tryd.prog 5) (1 * 1)) [(0, (.int .u8 0))] = some cs31 ∧
 ∀ w32 : World, w32 = World.alloc w26 (.cells (List.toArray cs31) 5) →
 RunV Tryd.prog (Builtin.append_ #[22, 22] 22 #[(.slice (some ⟨World.heap w26 |>.size, 0, none⟩) 1 1), (.slice x29 x29n x29c)]) w32 fun v33 w34 => ∃ (x35 : Option Addr) (x35n : Nat) (x35c : Nat), v33 = (.slice x35 x35n x35c) ∧
 ∃ I36 : Nat → Option Addr → Nat → Nat → Int → World → Prop,
 (∃ m, I36 m x35 x35n x35c 7 w34) ∧
 (∀ (m37 : Nat) (w38 : World) (b39 : Option Addr) (b39n : Nat) (b39c : Nat) (i40 : Int), I36 m37 b39 b39n b39c i40 w38 →
 (bif (decide (0 ≤ i40)) then
 (∃ x41 : Int, World.cell? w38 (Addr.add (Addr.add ⟨World.heap w |>.size, 0, none⟩ 66) 2) = some (.int .i64 x41) ∧
 0 ≤ (IntKind.wrap .i64 (8 * i40)) ∧ ∃ cs42, fillL (.elems 1) (zrep (zc Tryd.prog 5) (1 * 1)) [(0, (.int .u8 (IntKind.wrap .u8 (shR .u64 (IntKind.wrap .u64 x41) (IntKind.wrap .i64 (8 * i40))))))] = some cs42 ∧
 ∀ w43 : World, w43 = World.alloc w38 (.cells (List.toArray cs42) 5) →
 RunV Tryd.prog (Builtin.append_ #[22, 22] 22 #[(.slice b39 b39n b39c), (.slice (some ⟨World.heap w38 |>.size, 0, none⟩) 1 1)]) w43 fun v44 w45 => ∃ (x46 : Option Addr) (x46n : Nat) (x46c : Nat), v44 = (.slice x46 x46n x46c) ∧
 ∃ m47, m47 < m37 ∧ I36 m47 x46 x46n x46c (IntKind.wrap .i64 (i40 - 1)) w45)
 else
 (R (.returned (.tuple #[(.slice b39 b39n b39c), (.bool true)])) w38)))))
 else
 ((bif (decide (x14 = 2)) then
 (∃ J48 : World → Prop,
 ((bif (!q4) then
 (R (.returned (.tuple #[(.slice none 0 0), (.bool false)])) w12)
 else
 (∃ x49 : Int, World.cell? w12 (Addr.add ⟨World.heap w |>.size, 0, none⟩ 1) = some (.int .i64 x49) ∧
 (bif (decide (x49 < 0)) then
 (R (.returned (.tuple #[(.slice none 0 0), (.bool false)])) w12)
 else
 (∃ x50 : Int, World.cell? w12 (Addr.add ⟨World.heap w |>.size, 0, none⟩ 1) = some (.int .i64 x50) ∧
 (bif (decide (80 ≤ x50)) then
 (R (.returned (.tuple #[(.slice none 0 0), (.bool false)])) w12)
 else
 (J48  w12))))))) ∧
 (∀ (w51 : World), J48  w51 →
 ∃ x52 : Int, World.cell? w51 (Addr.add ⟨World.heap w |>.size, 0, none⟩ 1) = some (.int .i64 x52) ∧
 ∃ cs53, fillL (.elems 1) (zrep (zc Tryd.prog 5) (2 * 1)) [(0, (.int .u8 1)), (1, (.int .u8 (IntKind.wrap .u8 x52)))] = some cs53 ∧
 ∀ w54 : World, w54 = World.alloc w51 (.cells (List.toArray cs53) 5) →
 RunV Tryd.prog (Builtin.append_ #[22, 22] 22 #[(.slice (some ⟨World.heap w51 |>.size, 0, none⟩) 2 2), (.slice (some (if 32 = 0 then (Addr.add ⟨World.heap w |>.size, 0, none⟩ 2) else Addr.add (Addr.add ⟨World.heap w |>.size, 0, none⟩ 2) (0 * 1))) (32 - 0) (32 - 0))]) w54 fun v55 w56 => ∃ (x57 : Option Addr) (x57n : Nat) (x57c : Nat), v55 = (.slice x57 x57n x57c) ∧
 RunV Tryd.prog (Builtin.append_ #[22, 22] 22 #[(.slice x57 x57n x57c), (.slice (some (if 32 = 0 then (Addr.add ⟨World.heap w |>.size, 0, none⟩ 34) else Addr.add (Addr.add ⟨World.heap w |>.size, 0, none⟩ 34) (0 * 1))) (32 - 0) (32 - 0))]) w56 fun v58 w59 => ∃ (x60 : Option Addr) (x60n : Nat) (x60c : Nat), v58 = (.slice x60 x60n x60c) ∧
 R (.returned (.tuple #[(.slice x60 x60n x60c), (.bool true)])) w59))
 else
 (R (.returned (.tuple #[(.slice none 0 0), (.bool false)])) w12)))))))
theorem e54 (n0 : Array Value) (w : World) (R : Ending → World → Prop) : denS Tryd.prog s54 (argsEnv 0 [(.agg n0)]) w (endK r54 R) = d54 n0 w R := by kernel_rfl
theorem c54 (n0 : Array Value) {w : World} {R : Ending → World → Prop} (h : d54 n0 w R) : Calls Tryd.prog 54 #[(.agg n0)] w R :=
  den54 [(.agg n0)] w R (by simp) ((e54 n0 w R).symm ▸ h)

/-- prelude/keys.Bytes -/
def s55 : S := (.seq (.ops [⟨(some 1), (.box 29 (.tmp 0)), .ptr, none⟩,
  ⟨(some 2), (.mv (.const (.slice none 0 0))), .sl, none⟩,
  ⟨(some 3), (.mv (.const (.int .i64 0))), (.int .i64), none⟩] [1])
 (.seq (.seq (.ops [⟨(some 6), (.ldN 2 (.tmp 1)), .agg, none⟩,
  ⟨(some 7), (.call 50 [(.tmp 6)] [(.int .i64)]), (.int .i64), none⟩,
  ⟨(some 4), (.mv (.tmp 7)), (.int .i64), none⟩] [4, 1])
 (.seq (.ops [⟨(some 8), (.mv (.tmp 4)), (.int .i64), none⟩,
  ⟨(some 9), (.bin .neq (.tmp 8) (.const (.int .i64 0))), .bool, none⟩] [9, 4, 1])
 (.cond (.tmp 9)
 (.seq (.ops [⟨(some 10), (.mv (.tmp 4)), (.int .i64), none⟩,
  ⟨(some 2), (.mv (.const (.slice none 0 0))), .sl, none⟩,
  ⟨(some 3), (.mv (.tmp 10)), (.int .i64), none⟩] [2, 3])
 .ret)
 .skip)))
 (.seq (.ops [⟨(some 11), (.ldN 2 (.tmp 1)), .agg, none⟩,
  ⟨(some 12), (.call 73 [(.tmp 11)] [.agg]), .agg, none⟩,
  ⟨(some 5), (.alloc 140), .ptr, none⟩,
  ⟨none, (.stN 10 (.tmp 5) (.tmp 12)), .any, none⟩] [5])
 (.seq (.ops [⟨(some 13), (.slA 10 1 (.tmp 5) none none none), .sl, none⟩,
  ⟨(some 14), (.app #[22, 22] 22 (.const (.slice none 0 0)) (.tmp 13)), .sl, none⟩,
  ⟨(some 2), (.mv (.tmp 14)), .sl, none⟩,
  ⟨(some 3), (.mv (.const (.int .i64 0))), (.int .i64), none⟩] [2, 3])
 .ret))))
def r55 : List Res := [.t 2, .t 3]
theorem tr55 : trS Tryd.prog [] 15 (Tryd.f55.body.getD .skip) s55 = some s55 := by kernel_rfl
theorem den55 (args : List Value) (w : World) (R : Ending → World → Prop) (hn : args.length ≤ 15) (h : denS Tryd.prog s55 (argsEnv 0 args) w (endK r55 R)) : Calls Tryd.prog 55 args.toArray w R :=
  calls_of_den (pn := []) (fn := Tryd.f55) (c := Tryd.f55.body.getD .skip) Tryd.func55 (by kernel_rfl) (by rw [Tryd.ntmps55]; exact hn) (by rw [Tryd.ntmps55]; exact tr55) (by kernel_rfl) h
def d55 (k0 : Array Value) (w : World) (R : Ending → World → Prop) : Prop :=
 ∀ w1 : World, w1 = World.alloc w (.cells k0 29) →
 ∃ cs2 : List Value, List.length cs2 = 2 ∧ Cells w1 ⟨World.heap w |>.size, 0, none⟩ cs2 ∧
 Calls Tryd.prog 50 #[(.agg (List.toArray cs2))] w1 fun e3 w4 => ∃ x5 : Int, e3 = .returned (.int .i64 x5) ∧
 (bif (!decide (x5 = 0)) then
 (R (.returned (.tuple #[(.slice none 0 0), (.int .i64 x5)])) w4)
 else
 (∃ cs6 : List Value, List.length cs6 = 2 ∧ Cells w4 ⟨World.heap w |>.size, 0, none⟩ cs6 ∧
 Calls Tryd.prog 73 #[(.agg (List.toArray cs6))] w4 fun e7 w8 => ∃ x9 : Array Value, e7 = .returned (.agg x9) ∧
 ∀ w10 : World, w10 = World.alloc w8 (.cells (zc Tryd.prog 140).toArray 140) →
 Array.size x9 = 10 ∧ (∀ u ∈ Array.toList x9, one u = true) ∧ Room w10 ⟨World.heap w8 |>.size, 0, none⟩ 10 ∧
 ∀ w11 : World, w11 = setCells w10 ⟨World.heap w8 |>.size, 0, none⟩ (Array.toList x9) 0 →
 RunV Tryd.prog (Builtin.append_ #[22, 22] 22 #[(.slice none 0 0), (.slice (some (if 10 = 0 then ⟨World.heap w8 |>.size, 0, none⟩ else Addr.add ⟨World.heap w8 |>.size, 0, none⟩ (0 * 1))) (10 - 0) (10 - 0))]) w11 fun v12 w13 => ∃ (x14 : Option Addr) (x14n : Nat) (x14c : Nat), v12 = (.slice x14 x14n x14c) ∧
 R (.returned (.tuple #[(.slice x14 x14n x14c), (.int .i64 0)])) w13))
theorem e55 (k0 : Array Value) (w : World) (R : Ending → World → Prop) : denS Tryd.prog s55 (argsEnv 0 [(.agg k0)]) w (endK r55 R) = d55 k0 w R := by kernel_rfl
theorem c55 (k0 : Array Value) {w : World} {R : Ending → World → Prop} (h : d55 k0 w R) : Calls Tryd.prog 55 #[(.agg k0)] w R :=
  den55 [(.agg k0)] w R (by simp) ((e55 k0 w R).symm ▸ h)

/-- prelude/preluderef02.Check -/
def s57 : S := (.seq (.ops [⟨(some 1), (.box 29 (.tmp 0)), .ptr, none⟩,
  ⟨(some 2), (.mv (.const (.int .i64 0))), (.int .i64), none⟩] [1])
 (.seq (.seq (.ops [⟨(some 3), (.fa 0 (.tmp 1)), .ptr, none⟩,
  ⟨(some 4), (.ld1 (.tmp 3)), (.int .i64), none⟩,
  ⟨(some 5), (.bin .lss (.tmp 4) (.const (.int .i64 0))), .bool, none⟩,
  ⟨(some 6), (.mv (.tmp 5)), .bool, none⟩,
  ⟨(some 7), (.fa 0 (.tmp 1)), .ptr, (some (6, false))⟩,
  ⟨(some 8), (.ld1 (.tmp 7)), (.int .i64), (some (6, false))⟩,
  ⟨(some 9), (.bin .gtr (.tmp 8) (.const (.int .i64 65535))), .bool, (some (6, false))⟩,
  ⟨(some 10), (.pick (.tmp 6) (.const (.bool true)) (.tmp 9)), .bool, none⟩] [10])
 (.cond (.tmp 10)
 (.seq (.ops [⟨(some 2), (.mv (.const (.int .i64 20))), (.int .i64), none⟩] [2])
 .ret)
 .skip))
 (.seq (.ops [⟨(some 2), (.mv (.const (.int .i64 0))), (.int .i64), none⟩] [2])
 .ret)))
def r57 : List Res := [.t 2]
theorem tr57 : trS Tryd.prog [] 11 (Tryd.f57.body.getD .skip) s57 = some s57 := by kernel_rfl
theorem den57 (args : List Value) (w : World) (R : Ending → World → Prop) (hn : args.length ≤ 11) (h : denS Tryd.prog s57 (argsEnv 0 args) w (endK r57 R)) : Calls Tryd.prog 57 args.toArray w R :=
  calls_of_den (pn := []) (fn := Tryd.f57) (c := Tryd.f57.body.getD .skip) Tryd.func57 (by kernel_rfl) (by rw [Tryd.ntmps57]; exact hn) (by rw [Tryd.ntmps57]; exact tr57) (by kernel_rfl) h
def d57 (k0 : Array Value) (w : World) (R : Ending → World → Prop) : Prop :=
 ∀ w1 : World, w1 = World.alloc w (.cells k0 29) →
 ∃ x2 : Int, World.cell? w1 (Addr.add ⟨World.heap w |>.size, 0, none⟩ 0) = some (.int .i64 x2) ∧
 (bif (decide (x2 < 0)) then
 (R (.returned (.int .i64 20)) w1)
 else
 (∃ x3 : Int, World.cell? w1 (Addr.add ⟨World.heap w |>.size, 0, none⟩ 0) = some (.int .i64 x3) ∧
 (bif (decide (65535 < x3)) then
 (R (.returned (.int .i64 20)) w1)
 else
 (R (.returned (.int .i64 0)) w1))))
theorem e57 (k0 : Array Value) (w : World) (R : Ending → World → Prop) : denS Tryd.prog s57 (argsEnv 0 [(.agg k0)]) w (endK r57 R) = d57 k0 w R := by kernel_rfl
theorem c57 (k0 : Array Value) {w : World} {R : Ending → World → Prop} (h : d57 k0 w R) : Calls Tryd.prog 57 #[(.agg k0)] w R :=
  den57 [(.agg k0)] w R (by simp) ((e57 k0 w R).symm ▸ h)

/-- slices.Concat[[]byte,byte] -/
def s71 : S := (.seq (.ops [⟨(some 2), (.mv (.const (.slice none 0 0))), .sl, none⟩] [0])
 (.seq (.ops [⟨(some 3), (.mv (.const (.int .i64 0))), (.int .i64), none⟩] [0, 3])
 (.seq (.seq (.ops [⟨(some 9), (.mv (.tmp 0)), .sl, none⟩,
  ⟨(some 10), (.len (.tmp 9)), (.int .i64), none⟩,
  ⟨(some 11), (.mv (.const (.int .i64 0))), (.int .i64), none⟩] [11, 10, 9, 3, 0])
 (.block 0
 (.loop [(3, (.int .i64)), (11, (.int .i64))] [0, 9, 10]
 (.seq (.ops [⟨(some 12), (.bin .lss (.tmp 11) (.tmp 10)), .any, none⟩] [12, 9, 11, 3, 10, 0])
 (.seq (.cond (.tmp 12)
 .skip
 (.exit 0))
 (.seq (.block 1
 (.seq (.ops [⟨(some 13), (.ia 1 (.tmp 9) (.tmp 11)), .ptr, none⟩,
  ⟨(some 14), (.ld1 (.tmp 13)), .sl, none⟩,
  ⟨(some 5), (.mv (.tmp 14)), .sl, none⟩] [3, 5, 11, 10, 9, 0])
 (.seq (.ops [⟨(some 15), (.mv (.tmp 3)), (.int .i64), none⟩,
  ⟨(some 16), (.mv (.tmp 5)), .sl, none⟩,
  ⟨(some 17), (.len (.tmp 16)), (.int .i64), none⟩,
  ⟨(some 18), (.bin .add (.tmp 15) (.tmp 17)), (.int .i64), none⟩,
  ⟨(some 3), (.mv (.tmp 18)), (.int .i64), none⟩] [3, 11, 10, 9, 0])
 (.seq (.ops [⟨(some 19), (.mv (.tmp 3)), (.int .i64), none⟩,
  ⟨(some 20), (.bin .lss (.tmp 19) (.const (.int .i64 0))), .bool, none⟩] [20, 11, 10, 9, 3, 0])
 (.cond (.tmp 20)
 (.ops [⟨(some 21), (.mkI 9 (.const (.string ⟨#[108, 101, 110, 32, 111, 117, 116, 32, 111, 102, 32, 114, 97, 110, 103, 101]⟩))), .any, none⟩,
  ⟨none, (.pan (.tmp 21)), .any, none⟩] [11, 10, 9, 3, 0])
 .skip)))))
 (.ops [⟨(some 22), (.bin .add (.tmp 11) (.const (.int .i64 1))), (.int .i64), none⟩,
  ⟨(some 11), (.mv (.tmp 22)), (.int .i64), none⟩] [11, 10, 9, 3, 0])))))))
 (.seq (.ops [⟨(some 23), (.mv (.tmp 3)), (.int .i64), none⟩,
  ⟨(some 24), (.call 86 [(.const (.slice none 0 0)), (.tmp 23)] [.sl]), .sl, none⟩,
  ⟨(some 6), (.mv (.tmp 24)), .sl, none⟩] [0, 6])
 (.seq (.seq (.ops [⟨(some 25), (.mv (.tmp 0)), .sl, none⟩,
  ⟨(some 26), (.len (.tmp 25)), (.int .i64), none⟩,
  ⟨(some 27), (.mv (.const (.int .i64 0))), (.int .i64), none⟩] [27, 26, 25, 6])
 (.block 2
 (.loop [(6, .sl), (27, (.int .i64))] [25, 26]
 (.seq (.ops [⟨(some 28), (.bin .lss (.tmp 27) (.tmp 26)), .any, none⟩] [28, 25, 27, 6, 26])
 (.seq (.cond (.tmp 28)
 .skip
 (.exit 2))
 (.seq (.block 3
 (.seq (.ops [⟨(some 29), (.ia 1 (.tmp 25) (.tmp 27)), .ptr, none⟩,
  ⟨(some 30), (.ld1 (.tmp 29)), .sl, none⟩,
  ⟨(some 8), (.mv (.tmp 30)), .sl, none⟩] [6, 8, 27, 26, 25])
 (.ops [⟨(some 31), (.mv (.tmp 6)), .sl, none⟩,
  ⟨(some 32), (.mv (.tmp 8)), .sl, none⟩,
  ⟨(some 33), (.app #[22, 22] 22 (.tmp 31) (.tmp 32)), .sl, none⟩,
  ⟨(some 6), (.mv (.tmp 33)), .sl, none⟩] [27, 26, 25, 6])))
 (.ops [⟨(some 34), (.bin .add (.tmp 27) (.const (.int .i64 1))), (.int .i64), none⟩,
  ⟨(some 27), (.mv (.tmp 34)), (.int .i64), none⟩] [27, 26, 25, 6])))))))
 (.seq (.ops [⟨(some 35), (.mv (.tmp 6)), .sl, none⟩,
  ⟨(some 2), (.mv (.tmp 35)), .sl, none⟩] [2])
 .ret))))))
def r71 : List Res := [.t 2]
theorem tr71 : trS Tryd.prog [] 36 (Tryd.f71.body.getD .skip) s71 = some s71 := by kernel_rfl
theorem den71 (args : List Value) (w : World) (R : Ending → World → Prop) (hn : args.length ≤ 36) (h : denS Tryd.prog s71 (argsEnv 0 args) w (endK r71 R)) : Calls Tryd.prog 71 args.toArray w R :=
  calls_of_den (pn := []) (fn := Tryd.f71) (c := Tryd.f71.body.getD .skip) Tryd.func71 (by kernel_rfl) (by rw [Tryd.ntmps71]; exact hn) (by rw [Tryd.ntmps71]; exact tr71) (by kernel_rfl) h
def d71 (slices0 : Option Addr) (slices0n : Nat) (slices0c : Nat) (w : World) (R : Ending → World → Prop) : Prop :=
 ∃ I1 : Nat → Int → Int → World → Prop,
 (∃ m, I1 m 0 0 w) ∧
 (∀ (m2 : Nat) (w3 : World) (size4 : Int) (x5 : Int), I1 m2 size4 x5 w3 →
 (bif (decide (x5 < ((slices0n : Nat) : Int))) then
 (0 ≤ x5 ∧ x5 < ((slices0n : Nat) : Int) ∧ optK slices0 fun a6 =>
 ∃ (x7 : Option Addr) (x7n : Nat) (x7c : Nat), World.cell? w3 (Addr.add a6 (Int.toNat x5 * 1)) = some (.slice x7 x7n x7c) ∧
 (bif (decide ((IntKind.wrap .i64 (size4 + ((x7n : Nat) : Int))) < 0)) then
 ((∃ t u, ((.iface 9 (.string (⟨#[108, 101, 110, 32, 111, 117, 116, 32, 111, 102, 32, 114, 97, 110, 103, 101]⟩ : ByteArray))) : Value) = .iface t u) ∧ R (.panicked [⟨(.iface 9 (.string (⟨#[108, 101, 110, 32, 111, 117, 116, 32, 111, 102, 32, 114, 97, 110, 103, 101]⟩ : ByteArray))), false, false⟩]) w3)
 else
 (∃ m8, m8 < m2 ∧ I1 m8 (IntKind.wrap .i64 (size4 + ((x7n : Nat) : Int))) (IntKind.wrap .i64 (x5 + 1)) w3)))
 else
 (Calls Tryd.prog 86 #[(.slice none 0 0), (.int .i64 size4)] w3 fun e9 w10 => ∃ (x11 : Option Addr) (x11n : Nat) (x11c : Nat), e9 = .returned (.slice x11 x11n x11c) ∧
 ∃ I12 : Nat → Option Addr → Nat → Nat → Int → World → Prop,
 (∃ m, I12 m x11 x11n x11c 0 w10) ∧
 (∀ (m13 : Nat) (w14 : World) (newslice15 : Option Addr) (newslice15n : Nat) (newslice15c : Nat) (x16 : Int), I12 m13 newslice15 newslice15n newslice15c x16 w14 →
 (bif (decide (x16 < ((slices0n : Nat) : Int))) then
 (0 ≤ x16 ∧ x16 < ((slices0n : Nat) : Int) ∧ optK slices0 fun a17 =>
 ∃ (x18 : Option Addr) (x18n : Nat) (x18c : Nat), World.cell? w14 (Addr.add a17 (Int.toNat x16 * 1)) = some (.slice x18 x18n x18c) ∧
 RunV Tryd.prog (Builtin.append_ #[22, 22] 22 #[(.slice newslice15 newslice15n newslice15c), (.slice x18 x18n x18c)]) w14 fun v19 w20 => ∃ (x21 : Option Addr) (x21n : Nat) (x21c : Nat), v19 = (.slice x21 x21n x21c) ∧
 ∃ m22, m22 < m13 ∧ I12 m22 x21 x21n x21c (IntKind.wrap .i64 (x16 + 1)) w20)
 else
 (R (.returned (.slice newslice15 newslice15n newslice15c)) w14))))))
theorem e71 (slices0 : Option Addr) (slices0n : Nat) (slices0c : Nat) (w : World) (R : Ending → World → Prop) : denS Tryd.prog s71 (argsEnv 0 [(.slice slices0 slices0n slices0c)]) w (endK r71 R) = d71 slices0 slices0n slices0c w R := by kernel_rfl
theorem c71 (slices0 : Option Addr) (slices0n : Nat) (slices0c : Nat) {w : World} {R : Ending → World → Prop} (h : d71 slices0 slices0n slices0c w R) : Calls Tryd.prog 71 #[(.slice slices0 slices0n slices0c)] w R :=
  den71 [(.slice slices0 slices0n slices0c)] w R (by simp) ((e71 slices0 slices0n slices0c w R).symm ▸ h)

/-- prelude/preluderef02.Bytes -/
def s72 : S := (.seq (.ops [⟨(some 1), (.box 29 (.tmp 0)), .ptr, none⟩,
  ⟨(some 2), (.mv (.const (.slice none 0 0))), .sl, none⟩,
  ⟨(some 3), (.mv (.const (.int .i64 0))), (.int .i64), none⟩] [1])
 (.seq (.ops [⟨(some 8), (.ldN 2 (.tmp 1)), .agg, none⟩,
  ⟨(some 9), (.call 57 [(.tmp 8)] [(.int .i64)]), (.int .i64), none⟩,
  ⟨(some 4), (.mv (.tmp 9)), (.int .i64), none⟩] [4, 1])
 (.seq (.seq (.ops [⟨(some 10), (.mv (.tmp 4)), (.int .i64), none⟩,
  ⟨(some 11), (.bin .neq (.tmp 10) (.const (.int .i64 0))), .bool, none⟩] [11, 4, 1])
 (.cond (.tmp 11)
 (.seq (.ops [⟨(some 12), (.mv (.tmp 4)), (.int .i64), none⟩,
  ⟨(some 2), (.mv (.const (.slice none 0 0))), .sl, none⟩,
  ⟨(some 3), (.mv (.tmp 12)), (.int .i64), none⟩] [2, 3])
 .ret)
 .skip))
 (.seq (.ops [⟨(some 13), (.ldN 2 (.tmp 1)), .agg, none⟩,
  ⟨(some 14), (.call 87 [(.tmp 13)] [.agg]), .agg, none⟩,
  ⟨(some 5), (.alloc 140), .ptr, none⟩,
  ⟨none, (.stN 10 (.tmp 5) (.tmp 14)), .any, none⟩] [5])
 (.seq (.ops [⟨(some 6), (.mv (.const (.slice none 0 0))), .sl, none⟩] [6, 5])
 (.seq (.seq (.ops [⟨(some 7), (.mv (.const (.int .i64 0))), (.int .i64), none⟩] [7, 6, 5])
 (.block 0
 (.loop [(6, .sl), (7, (.int .i64))] [5]
 (.seq (.seq (.ops [⟨(some 15), (.mv (.tmp 7)), (.int .i64), none⟩,
  ⟨(some 16), (.bin .lss (.tmp 15) (.const (.int .i64 10))), .bool, none⟩] [16, 6, 7, 5])
 (.cond (.tmp 16)
 .skip
 (.exit 0)))
 (.seq (.block 1
 (.ops [⟨(some 19), (.mv (.tmp 6)), .sl, none⟩,
  ⟨(some 20), (.mv (.tmp 7)), (.int .i64), none⟩,
  ⟨(some 21), (.iaA 10 1 (.tmp 5) (.tmp 20)), .ptr, none⟩,
  ⟨(some 22), (.ld1 (.tmp 21)), (.int .u8), none⟩,
  ⟨(some 23), (.bldS 5 1 1 [(0, (.tmp 22))]), .sl, none⟩,
  ⟨(some 24), (.app #[22, 22] 22 (.tmp 19) (.tmp 23)), .sl, none⟩,
  ⟨(some 6), (.mv (.tmp 24)), .sl, none⟩] [7, 6, 5]))
 (.ops [⟨(some 17), (.mv (.tmp 7)), (.int .i64), none⟩,
  ⟨(some 18), (.bin .add (.tmp 17) (.const (.int .i64 1))), (.int .i64), none⟩,
  ⟨(some 7), (.mv (.tmp 18)), (.int .i64), none⟩] [7, 6, 5]))))))
 (.seq (.ops [⟨(some 25), (.mv (.tmp 6)), .sl, none⟩,
  ⟨(some 2), (.mv (.tmp 25)), .sl, none⟩,
  ⟨(some 3), (.mv (.const (.int .i64 0))), (.int .i64), none⟩] [2, 3])
 .ret)))))))
def r72 : List Res := [.t 2, .t 3]
theorem tr72 : trS Tryd.prog [] 26 (Tryd.f72.body.getD .skip) s72 = some s72 := by kernel_rfl
theorem den72 (args : List Value) (w : World) (R : Ending → World → Prop) (hn : args.length ≤ 26) (h : denS Tryd.prog s72 (argsEnv 0 args) w (endK r72 R)) : Calls Tryd.prog 72 args.toArray w R :=
  calls_of_den (pn := []) (fn := Tryd.f72) (c := Tryd.f72.body.getD .skip) Tryd.func72 (by kernel_rfl) (by rw [Tryd.ntmps72]; exact hn) (by rw [Tryd.ntmps72]; exact tr72) (by kernel_rfl) h
def d72 (k0 : Array Value) (w : World) (R : Ending → World → Prop) : Prop :=
 ∀ w1 : World, w1 = World.alloc w (.cells k0 29) →
 ∃ cs2 : List Value, List.length cs2 = 2 ∧ Cells w1 ⟨World.heap w |>.size, 0, none⟩ cs2 ∧
 Calls Tryd.prog 57 #[(.agg (List.toArray cs2))] w1 fun e3 w4 => ∃ x5 : Int, e3 = .returned (.int .i64 x5) ∧
 (bif (!decide (x5 = 0)) then
 (R (.returned (.tuple #[(.slice none 0 0), (.int .i64 x5)])) w4)
 else
 (∃ cs6 : List Value, List.length cs6 = 2 ∧ Cells w4 ⟨World.heap w |>.size, 0, none⟩ cs6 ∧
 Calls Tryd.prog 87 #[(.agg (List.toArray cs6))] w4 fun e7 w8 => ∃ x9 : Array Value, e7 = .returned (.agg x9) ∧
 ∀ w10 : World, w10 = World.alloc w8 (.cells (zc Tryd.prog 140).toArray 140) →
 Array.size x9 = 10 ∧ (∀ u ∈ Array.toList x9, one u = true) ∧ Room w10 ⟨World.heap w8 |>.size, 0, none⟩ 10 ∧
 ∀ w11 : World, w11 = setCells w10 ⟨World.heap w8 |>.size, 0, none⟩ (Array.toList x9) 0 →
 ∃ I12 : Nat → Option Addr → Nat → Nat → Int → World → Prop,
 (∃ m, I12 m none 0 0 0 w11) ∧
 (∀ (m13 : Nat) (w14 : World) (l15 : Option Addr) (l15n : Nat) (l15c : Nat) (i16 : Int), I12 m13 l15 l15n l15c i16 w14 →
 (bif (decide (i16 < 10)) then
 (0 ≤ i16 ∧ i16 < ((10 : Nat) : Int) ∧
 ∃ x17 : Int, World.cell? w14 (Addr.add ⟨World.heap w8 |>.size, 0, none⟩ (Int.toNat i16 * 1)) = some (.int .u8 x17) ∧
 ∃ cs18, fillL (.elems 1) (zrep (zc Tryd.prog 5) (1 * 1)) [(0, (.int .u8 x17))] = some cs18 ∧
 ∀ w19 : World, w19 = World.alloc w14 (.cells (List.toArray cs18) 5) →
 RunV Tryd.prog (Builtin.append_ #[22, 22] 22 #[(.slice l15 l15n l15c), (.slice (some ⟨World.heap w14 |>.size, 0, none⟩) 1 1)]) w19 fun v20 w21 => ∃ (x22 : Option Addr) (x22n : Nat) (x22c : Nat), v20 = (.slice x22 x22n x22c) ∧
 ∃ m23, m23 < m13 ∧ I12 m23 x22 x22n x22c (IntKind.wrap .i64 (i16 + 1)) w21)
 else
 (R (.returned (.tuple #[(.slice l15 l15n l15c), (.int .i64 0)])) w14)))))
theorem e72 (k0 : Array Value) (w : World) (R : Ending → World → Prop) : denS Tryd.prog s72 (argsEnv 0 [(.agg k0)]) w (endK r72 R) = d72 k0 w R := by kernel_rfl
theorem c72 (k0 : Array Value) {w : World} {R : Ending → World → Prop} (h : d72 k0 w R) : Calls Tryd.prog 72 #[(.agg k0)] w R :=
  den72 [(.agg k0)] w R (by simp) ((e72 k0 w R).symm ▸ h)

/-- prelude/keys.form -/
def s73 : S := (.seq (.ops [⟨(some 1), (.box 29 (.tmp 0)), .ptr, none⟩,
  ⟨(some 2), (.alloc 140), .ptr, none⟩] [1, 2])
 (.seq (.ops [⟨(some 3), (.alloc 140), .ptr, none⟩] [1, 3, 2])
 (.seq (.draw (.take 0 ⟨(some 6), (.fa 0 (.tmp 1)), .ptr, none⟩
  (.take 1 ⟨(some 7), (.ld1 (.tmp 6)), (.int .i64), none⟩
  (.take 2 ⟨(some 8), (.bin .shr (.tmp 7) (.const (.int .u64 8))), (.int .i64), none⟩
  (.take 3 ⟨(some 9), (.cv .u8 (.tmp 8)), (.int .u8), none⟩
  (.take 4 ⟨(some 10), (.fa 0 (.tmp 1)), .ptr, none⟩
  (.take 5 ⟨(some 11), (.ld1 (.tmp 10)), (.int .i64), none⟩
  (.take 6 ⟨(some 12), (.cv .u8 (.tmp 11)), (.int .u8), none⟩
  (.take 7 ⟨(some 13), (.iaA 10 1 (.tmp 3) (.const (.int .i64 0))), .ptr, none⟩
  (.go 8 ⟨none, (.st1 (.tmp 13) (.tmp 9)), .any, none⟩ [(5, ⟨(some 11), (.ld1 (.tmp 10)), (.int .i64), none⟩)]
  (.take 9 ⟨(some 14), (.iaA 10 1 (.tmp 3) (.const (.int .i64 1))), .ptr, none⟩
  (.go 10 ⟨none, (.st1 (.tmp 14) (.tmp 12)), .any, none⟩ []
  .done))))))))))) [1, 3, 2])
 (.seq (.ops [⟨(some 15), (.fa 1 (.tmp 1)), .ptr, none⟩,
  ⟨(some 16), (.ld1 (.tmp 15)), (.int .i64), none⟩,
  ⟨(some 17), (.cv .u64 (.tmp 16)), (.int .u64), none⟩,
  ⟨(some 18), (.bin .xor (.tmp 17) (.const (.int .u64 9223372036854775808))), (.int .u64), none⟩,
  ⟨(some 4), (.mv (.tmp 18)), (.int .u64), none⟩] [4, 3, 2])
 (.seq (.seq (.ops [⟨(some 19), (.mv (.const (.int .i64 0))), (.int .i64), none⟩] [19, 4, 3, 2])
 (.block 0
 (.loop [(19, (.int .i64))] [2, 3, 4]
 (.seq (.ops [⟨(some 20), (.bin .lss (.tmp 19) (.const (.int .i64 8))), .bool, none⟩] [20, 19, 4, 3, 2])
 (.seq (.cond (.tmp 20)
 .skip
 (.exit 0))
 (.seq (.block 1
 (.seq (.ops [⟨(some 21), (.mv (.tmp 19)), (.int .i64), none⟩,
  ⟨(some 5), (.mv (.tmp 21)), (.int .i64), none⟩] [5, 4, 3, 19, 2])
 (.ops [⟨(some 22), (.mv (.tmp 5)), (.int .i64), none⟩,
  ⟨(some 23), (.bin .add (.const (.int .i64 2)) (.tmp 22)), (.int .i64), none⟩,
  ⟨(some 24), (.mv (.tmp 4)), (.int .u64), none⟩,
  ⟨(some 25), (.mv (.tmp 5)), (.int .i64), none⟩,
  ⟨(some 26), (.bin .mul (.const (.int .i64 8)) (.tmp 25)), (.int .i64), none⟩,
  ⟨(some 27), (.bin .sub (.const (.int .i64 56)) (.tmp 26)), (.int .i64), none⟩,
  ⟨(some 28), (.bin .shr (.tmp 24) (.tmp 27)), (.int .u64), none⟩,
  ⟨(some 29), (.cv .u8 (.tmp 28)), (.int .u8), none⟩,
  ⟨(some 30), (.iaA 10 1 (.tmp 3) (.tmp 23)), .ptr, none⟩,
  ⟨none, (.st1 (.tmp 30) (.tmp 29)), .any, none⟩] [19, 4, 3, 2])))
 (.ops [⟨(some 31), (.bin .add (.tmp 19) (.const (.int .i64 1))), (.int .i64), none⟩,
  ⟨(some 19), (.mv (.tmp 31)), (.int .i64), none⟩] [19, 4, 3, 2])))))))
 (.seq (.ops [⟨(some 32), (.ldN 10 (.tmp 3)), .agg, none⟩,
  ⟨none, (.stN 10 (.tmp 2) (.tmp 32)), .any, none⟩] [2])
 .ret))))))
def r73 : List Res := [.cN 2 10]
theorem tr73 : trS Tryd.prog [] 33 (Tryd.f73.body.getD .skip) s73 = some s73 := by kernel_rfl
theorem den73 (args : List Value) (w : World) (R : Ending → World → Prop) (hn : args.length ≤ 33) (h : denS Tryd.prog s73 (argsEnv 0 args) w (endK r73 R)) : Calls Tryd.prog 73 args.toArray w R :=
  calls_of_den (pn := []) (fn := Tryd.f73) (c := Tryd.f73.body.getD .skip) Tryd.func73 (by kernel_rfl) (by rw [Tryd.ntmps73]; exact hn) (by rw [Tryd.ntmps73]; exact tr73) (by kernel_rfl) h
def d73 (k0 : Array Value) (w : World) (R : Ending → World → Prop) : Prop :=
 ∀ w1 : World, w1 = World.alloc w (.cells k0 29) →
 ∀ w2 : World, w2 = World.alloc w1 (.cells (zc Tryd.prog 140).toArray 140) →
 ∀ w3 : World, w3 = World.alloc w2 (.cells (zc Tryd.prog 140).toArray 140) →
 ∀ w4 : World, w4 = World.drew w3 →
 ∃ x5 : Int, World.cell? w4 (Addr.add ⟨World.heap w |>.size, 0, none⟩ 0) = some (.int .i64 x5) ∧
 0 ≤ (8 : Int) ∧ ∃ x6 : Int, World.cell? w4 (Addr.add ⟨World.heap w |>.size, 0, none⟩ 0) = some (.int .i64 x6) ∧
 0 ≤ (0 : Int) ∧ (0 : Int) < ((10 : Nat) : Int) ∧
 one (.int .u8 (IntKind.wrap .u8 (shR .i64 x5 8))) = true ∧ Option.isSome (World.cell? w4 (Addr.add ⟨World.heap w2 |>.size, 0, none⟩ (Int.toNat 0 * 1))) = true ∧ World.frozen? w4 (Addr.add ⟨World.heap w2 |>.size, 0, none⟩ (Int.toNat 0 * 1)) = false ∧
 ∀ w7 : World, w7 = World.setCell w4 (Addr.add ⟨World.heap w2 |>.size, 0, none⟩ (Int.toNat 0 * 1)) (.int .u8 (IntKind.wrap .u8 (shR .i64 x5 8))) →
 (∃ z8 : Int, World.cell? w7 (Addr.add ⟨World.heap w |>.size, 0, none⟩ 0) = some (.int .i64 z8) ∧
 (((.int .i64 z8) : Value) = (.int .i64 x6) ∧ w7 = w7)) ∧
 0 ≤ (1 : Int) ∧ (1 : Int) < ((10 : Nat) : Int) ∧
 one (.int .u8 (IntKind.wrap .u8 x6)) = true ∧ Option.isSome (World.cell? w7 (Addr.add ⟨World.heap w2 |>.size, 0, none⟩ (Int.toNat 1 * 1))) = true ∧ World.frozen? w7 (Addr.add ⟨World.heap w2 |>.size, 0, none⟩ (Int.toNat 1 * 1)) = false ∧
 ∀ w9 : World, w9 = World.setCell w7 (Addr.add ⟨World.heap w2 |>.size, 0, none⟩ (Int.toNat 1 * 1)) (.int .u8 (IntKind.wrap .u8 x6)) →
 ∃ x10 : Int, World.cell? w9 (Addr.add ⟨World.heap w |>.size, 0, none⟩ 1) = some (.int .i64 x10) ∧
 ∃ I11 : Nat → Int → World → Prop,
 (∃ m, I11 m 0 w9) ∧
 (∀ (m12 : Nat) (w13 : World) (x14 : Int), I11 m12 x14 w13 →
 (bif (decide (x14 < 8)) then
 (0 ≤ (IntKind.wrap .i64 (56 - (IntKind.wrap .i64 (8 * x14)))) ∧ 0 ≤ (IntKind.wrap .i64 (2 + x14)) ∧ (IntKind.wrap .i64 (2 + x14)) < ((10 : Nat) : Int) ∧
 one (.int .u8 (IntKind.wrap .u8 (shR .u64 (bXor .u64 (IntKind.wrap .u64 x10) 9223372036854775808) (IntKind.wrap .i64 (56 - (IntKind.wrap .i64 (8 * x14))))))) = true ∧ Option.isSome (World.cell? w13 (Addr.add ⟨World.heap w2 |>.size, 0, none⟩ (Int.toNat (IntKind.wrap .i64 (2 + x14)) * 1))) = true ∧ World.frozen? w13 (Addr.add ⟨World.heap w2 |>.size, 0, none⟩ (Int.toNat (IntKind.wrap .i64 (2 + x14)) * 1)) = false ∧
 ∀ w15 : World, w15 = World.setCell w13 (Addr.add ⟨World.heap w2 |>.size, 0, none⟩ (Int.toNat (IntKind.wrap .i64 (2 + x14)) * 1)) (.int .u8 (IntKind.wrap .u8 (shR .u64 (bXor .u64 (IntKind.wrap .u64 x10) 9223372036854775808) (IntKind.wrap .i64 (56 - (IntKind.wrap .i64 (8 * x14))))))) →
 ∃ m16, m16 < m12 ∧ I11 m16 (IntKind.wrap .i64 (x14 + 1)) w15)
 else
 (∃ cs17 : List Value, List.length cs17 = 10 ∧ Cells w13 ⟨World.heap w2 |>.size, 0, none⟩ cs17 ∧
 Array.size (List.toArray cs17) = 10 ∧ (∀ u ∈ Array.toList (List.toArray cs17), one u = true) ∧ Room w13 ⟨World.heap w1 |>.size, 0, none⟩ 10 ∧
 ∀ w18 : World, w18 = setCells w13 ⟨World.heap w1 |>.size, 0, none⟩ (Array.toList (List.toArray cs17)) 0 →
 ∃ cs19 : List Value, List.length cs19 = 10 ∧ Cells w18 ⟨World.heap w1 |>.size, 0, none⟩ cs19 ∧
 R (.returned (.agg (List.toArray cs19))) w18)))
theorem e73 (k0 : Array Value) (w : World) (R : Ending → World → Prop) : denS Tryd.prog s73 (argsEnv 0 [(.agg k0)]) w (endK r73 R) = d73 k0 w R := by kernel_rfl
theorem c73 (k0 : Array Value) {w : World} {R : Ending → World → Prop} (h : d73 k0 w R) : Calls Tryd.prog 73 #[(.agg k0)] w R :=
  den73 [(.agg k0)] w R (by simp) ((e73 k0 w R).symm ▸ h)

/-- prelude/preluderef02.all -/
def s82 : S := (.seq (.ops [⟨(some 2), (.mv (.const (.bool false))), .bool, none⟩] [0])
 (.seq (.seq (.ops [⟨(some 3), (.mv (.const (.int .i64 0))), (.int .i64), none⟩] [3, 0])
 (.block 0
 (.loop [(3, (.int .i64))] [0]
 (.seq (.seq (.ops [⟨(some 4), (.mv (.tmp 3)), (.int .i64), none⟩,
  ⟨(some 5), (.mv (.tmp 0)), .sl, none⟩,
  ⟨(some 6), (.len (.tmp 5)), (.int .i64), none⟩,
  ⟨(some 7), (.bin .lss (.tmp 4) (.tmp 6)), .bool, none⟩] [7, 0, 3])
 (.cond (.tmp 7)
 .skip
 (.exit 0)))
 (.seq (.block 1
 (.seq (.ops [⟨(some 10), (.mv (.tmp 0)), .sl, none⟩,
  ⟨(some 11), (.mv (.tmp 3)), (.int .i64), none⟩,
  ⟨(some 12), (.ia 2 (.tmp 10) (.tmp 11)), .ptr, none⟩,
  ⟨(some 13), (.ldN 2 (.tmp 12)), .agg, none⟩,
  ⟨(some 14), (.call 57 [(.tmp 13)] [(.int .i64)]), (.int .i64), none⟩,
  ⟨(some 15), (.bin .neq (.tmp 14) (.const (.int .i64 0))), .bool, none⟩] [15, 3, 0])
 (.cond (.tmp 15)
 (.seq (.ops [⟨(some 2), (.mv (.const (.bool false))), .bool, none⟩] [2])
 .ret)
 .skip)))
 (.ops [⟨(some 8), (.mv (.tmp 3)), (.int .i64), none⟩,
  ⟨(some 9), (.bin .add (.tmp 8) (.const (.int .i64 1))), (.int .i64), none⟩,
  ⟨(some 3), (.mv (.tmp 9)), (.int .i64), none⟩] [3, 0]))))))
 (.seq (.ops [⟨(some 2), (.mv (.const (.bool true))), .bool, none⟩] [2])
 .ret)))
def r82 : List Res := [.t 2]
theorem tr82 : trS Tryd.prog [] 16 (Tryd.f82.body.getD .skip) s82 = some s82 := by kernel_rfl
theorem den82 (args : List Value) (w : World) (R : Ending → World → Prop) (hn : args.length ≤ 16) (h : denS Tryd.prog s82 (argsEnv 0 args) w (endK r82 R)) : Calls Tryd.prog 82 args.toArray w R :=
  calls_of_den (pn := []) (fn := Tryd.f82) (c := Tryd.f82.body.getD .skip) Tryd.func82 (by kernel_rfl) (by rw [Tryd.ntmps82]; exact hn) (by rw [Tryd.ntmps82]; exact tr82) (by kernel_rfl) h
def d82 (l0 : Option Addr) (l0n : Nat) (l0c : Nat) (w : World) (R : Ending → World → Prop) : Prop :=
 ∃ I1 : Nat → Int → World → Prop,
 (∃ m, I1 m 0 w) ∧
 (∀ (m2 : Nat) (w3 : World) (i4 : Int), I1 m2 i4 w3 →
 (bif (decide (i4 < ((l0n : Nat) : Int))) then
 (0 ≤ i4 ∧ i4 < ((l0n : Nat) : Int) ∧ optK l0 fun a5 =>
 ∃ cs6 : List Value, List.length cs6 = 2 ∧ Cells w3 (Addr.add a5 (Int.toNat i4 * 2)) cs6 ∧
 Calls Tryd.prog 57 #[(.agg (List.toArray cs6))] w3 fun e7 w8 => ∃ x9 : Int, e7 = .returned (.int .i64 x9) ∧
 (bif (!decide (x9 = 0)) then
 (R (.returned (.bool false)) w8)
 else
 (∃ m10, m10 < m2 ∧ I1 m10 (IntKind.wrap .i64 (i4 + 1)) w8)))
 else
 (R (.returned (.bool true)) w3)))
theorem e82 (l0 : Option Addr) (l0n : Nat) (l0c : Nat) (w : World) (R : Ending → World → Prop) : denS Tryd.prog s82 (argsEnv 0 [(.slice l0 l0n l0c)]) w (endK r82 R) = d82 l0 l0n l0c w R := by kernel_rfl
theorem c82 (l0 : Option Addr) (l0n : Nat) (l0c : Nat) {w : World} {R : Ending → World → Prop} (h : d82 l0 l0n l0c w R) : Calls Tryd.prog 82 #[(.slice l0 l0n l0c)] w R :=
  den82 [(.slice l0 l0n l0c)] w R (by simp) ((e82 l0 l0n l0c w R).symm ▸ h)

/-- prelude/preluderef02.put -/
def s83 : S := (.seq (.ops [⟨(some 3), (.box 29 (.tmp 1)), .ptr, none⟩,
  ⟨(some 4), (.mv (.const (.slice none 0 0))), .sl, none⟩] [0, 3])
 (.seq (.ops [⟨(some 7), (.mv (.tmp 0)), .sl, none⟩,
  ⟨(some 8), (.len (.tmp 7)), (.int .i64), none⟩,
  ⟨(some 5), (.mv (.tmp 8)), (.int .i64), none⟩] [5, 3, 0])
 (.join [(5, (.int .i64))] [0, 3]
 (.block 0
 (.loop [(5, (.int .i64))] [0, 3]
 (.seq (.seq (.draw (.take 0 ⟨(some 9), (.mv (.tmp 5)), (.int .i64), none⟩
  (.take 1 ⟨(some 10), (.bin .gtr (.tmp 9) (.const (.int .i64 0))), .bool, none⟩
  (.take 2 ⟨(some 11), (.mv (.tmp 10)), .bool, none⟩
  (.take 3 ⟨(some 12), (.ldN 2 (.tmp 3)), .agg, (some (11, true))⟩
  (.take 4 ⟨(some 13), (.mv (.tmp 0)), .sl, (some (11, true))⟩
  (.take 5 ⟨(some 14), (.mv (.tmp 5)), (.int .i64), (some (11, true))⟩
  (.take 6 ⟨(some 15), (.bin .sub (.tmp 14) (.const (.int .i64 1))), (.int .i64), (some (11, true))⟩
  (.take 7 ⟨(some 16), (.ia 2 (.tmp 13) (.tmp 15)), .ptr, (some (11, true))⟩
  (.take 8 ⟨(some 17), (.ldN 2 (.tmp 16)), .agg, (some (11, true))⟩
  (.go 9 ⟨(some 18), (.call 84 [(.tmp 12), (.tmp 17)] [(.int .i64)]), (.int .i64), (some (11, true))⟩ []
  (.take 10 ⟨(some 19), (.bin .leq (.tmp 18) (.const (.int .i64 0))), .bool, (some (11, true))⟩
  (.take 11 ⟨(some 20), (.pick (.tmp 11) (.tmp 19) (.const (.bool false))), .bool, none⟩
  .done)))))))))))) [20, 5, 3, 0])
 (.cond (.tmp 20)
 .skip
 (.exit 0)))
 (.block 1
 (.ops [⟨(some 21), (.mv (.tmp 5)), (.int .i64), none⟩,
  ⟨(some 22), (.bin .sub (.tmp 21) (.const (.int .i64 1))), (.int .i64), none⟩,
  ⟨(some 5), (.mv (.tmp 22)), (.int .i64), none⟩] [5, 3, 0])))))
 (.join [] [0, 3, 5]
 (.seq (.draw (.take 0 ⟨(some 23), (.mv (.tmp 5)), (.int .i64), none⟩
  (.take 1 ⟨(some 24), (.mv (.tmp 0)), .sl, none⟩
  (.take 2 ⟨(some 25), (.len (.tmp 24)), (.int .i64), none⟩
  (.take 3 ⟨(some 26), (.bin .lss (.tmp 23) (.tmp 25)), .bool, none⟩
  (.take 4 ⟨(some 27), (.mv (.tmp 26)), .bool, none⟩
  (.take 5 ⟨(some 28), (.ldN 2 (.tmp 3)), .agg, (some (27, true))⟩
  (.take 6 ⟨(some 29), (.mv (.tmp 0)), .sl, (some (27, true))⟩
  (.take 7 ⟨(some 30), (.mv (.tmp 5)), (.int .i64), (some (27, true))⟩
  (.take 8 ⟨(some 31), (.ia 2 (.tmp 29) (.tmp 30)), .ptr, (some (27, true))⟩
  (.take 9 ⟨(some 32), (.ldN 2 (.tmp 31)), .agg, (some (27, true))⟩
  (.go 10 ⟨(some 33), (.call 84 [(.tmp 28), (.tmp 32)] [(.int .i64)]), (.int .i64), (some (27, true))⟩ []
  (.take 11 ⟨(some 34), (.bin .eql (.tmp 33) (.const (.int .i64 0))), .bool, (some (27, true))⟩
  (.take 12 ⟨(some 35), (.pick (.tmp 27) (.tmp 34) (.const (.bool false))), .bool, none⟩
  .done))))))))))))) [35, 0, 5, 3])
 (.cond (.tmp 35)
 (.seq (.ops [⟨(some 36), (.mv (.tmp 0)), .sl, none⟩,
  ⟨(some 4), (.mv (.tmp 36)), .sl, none⟩] [4])
 .ret)
 .skip))
 (.seq (.ops [⟨(some 6), (.mv (.const (.slice none 0 0))), .sl, none⟩] [6, 0, 5, 3])
 (.seq (.ops [⟨(some 37), (.mv (.tmp 6)), .sl, none⟩,
  ⟨(some 38), (.mv (.tmp 0)), .sl, none⟩,
  ⟨(some 39), (.mv (.tmp 5)), (.int .i64), none⟩,
  ⟨(some 40), (.slS 2 (.tmp 38) none (some (.tmp 39)) none), .sl, none⟩,
  ⟨(some 41), (.app #[67, 67] 67 (.tmp 37) (.tmp 40)), .sl, none⟩,
  ⟨(some 6), (.mv (.tmp 41)), .sl, none⟩] [6, 3, 0, 5])
 (.seq (.ops [⟨(some 42), (.mv (.tmp 6)), .sl, none⟩,
  ⟨(some 43), (.ldN 2 (.tmp 3)), .agg, none⟩,
  ⟨(some 44), (.bldS 29 1 2 [(0, (.tmp 43))]), .sl, none⟩,
  ⟨(some 45), (.app #[67, 67] 67 (.tmp 42) (.tmp 44)), .sl, none⟩,
  ⟨(some 6), (.mv (.tmp 45)), .sl, none⟩] [6, 0, 5])
 (.seq (.ops [⟨(some 46), (.mv (.tmp 6)), .sl, none⟩,
  ⟨(some 47), (.mv (.tmp 0)), .sl, none⟩,
  ⟨(some 48), (.mv (.tmp 5)), (.int .i64), none⟩,
  ⟨(some 49), (.slS 2 (.tmp 47) (some (.tmp 48)) none none), .sl, none⟩,
  ⟨(some 50), (.app #[67, 67] 67 (.tmp 46) (.tmp 49)), .sl, none⟩,
  ⟨(some 4), (.mv (.tmp 50)), .sl, none⟩] [4])
 .ret))))))))
def r83 : List Res := [.t 4]
theorem tr83 : trS Tryd.prog [] 51 (Tryd.f83.body.getD .skip) s83 = some s83 := by kernel_rfl
theorem den83 (args : List Value) (w : World) (R : Ending → World → Prop) (hn : args.length ≤ 51) (h : denS Tryd.prog s83 (argsEnv 0 args) w (endK r83 R)) : Calls Tryd.prog 83 args.toArray w R :=
  calls_of_den (pn := []) (fn := Tryd.f83) (c := Tryd.f83.body.getD .skip) Tryd.func83 (by kernel_rfl) (by rw [Tryd.ntmps83]; exact hn) (by rw [Tryd.ntmps83]; exact tr83) (by kernel_rfl) h
def d83 (l0 : Option Addr) (l0n : Nat) (l0c : Nat) (k1 : Array Value) (w : World) (R : Ending → World → Prop) : Prop :=
 ∀ w2 : World, w2 = World.alloc w (.cells k1 29) →
 ∃ J3 : Int → World → Prop,
 (∃ I4 : Nat → Int → World → Prop,
 (∃ m, I4 m ((l0n : Nat) : Int) w2) ∧
 (∀ (m5 : Nat) (w6 : World) (at7 : Int), I4 m5 at7 w6 →
 ∀ w8 : World, w8 = World.drew w6 →
 (bif (decide (0 < at7)) then
 (∃ cs9 : List Value, List.length cs9 = 2 ∧ Cells w8 ⟨World.heap w |>.size, 0, none⟩ cs9 ∧
 0 ≤ (IntKind.wrap .i64 (at7 - 1)) ∧ (IntKind.wrap .i64 (at7 - 1)) < ((l0n : Nat) : Int) ∧ optK l0 fun a10 =>
 ∃ cs11 : List Value, List.length cs11 = 2 ∧ Cells w8 (Addr.add a10 (Int.toNat (IntKind.wrap .i64 (at7 - 1)) * 2)) cs11 ∧
 Calls Tryd.prog 84 #[(.agg (List.toArray cs9)), (.agg (List.toArray cs11))] w8 fun e12 w13 => ∃ x14 : Int, e12 = .returned (.int .i64 x14) ∧
 (bif (decide (x14 ≤ 0)) then
 (∃ m15, m15 < m5 ∧ I4 m15 (IntKind.wrap .i64 (at7 - 1)) w13)
 else
 (J3 at7 w13)))
 else
 (J3 at7 w8)))) ∧
 (∀ (w16 : World) (at17 : Int), J3 at17 w16 →
 ∃ J18 : World → Prop,
 (∀ w19 : World, w19 = World.drew w16 →
 (bif (decide (at17 < ((l0n : Nat) : Int))) then
 (∃ cs20 : List Value, List.length cs20 = 2 ∧ Cells w19 ⟨World.heap w |>.size, 0, none⟩ cs20 ∧
 0 ≤ at17 ∧ at17 < ((l0n : Nat) : Int) ∧ optK l0 fun a21 =>
 ∃ cs22 : List Value, List.length cs22 = 2 ∧ Cells w19 (Addr.add a21 (Int.toNat at17 * 2)) cs22 ∧
 Calls Tryd.prog 84 #[(.agg (List.toArray cs20)), (.agg (List.toArray cs22))] w19 fun e23 w24 => ∃ x25 : Int, e23 = .returned (.int .i64 x25) ∧
 (bif (decide (x25 = 0)) then
 (R (.returned (.slice l0 l0n l0c)) w24)
 else
 (J18  w24)))
 else
 (J18  w19))) ∧
 (∀ (w26 : World), J18  w26 →
 0 ≤ at17 ∧ at17 ≤ ((l0c : Nat) : Int) ∧ RunV Tryd.prog (Builtin.append_ #[67, 67] 67 #[(.slice none 0 0), (.slice (if l0c = 0 then l0 else Option.map (fun y => Addr.add y (0 * 2)) l0) ((Int.toNat at17) - 0) (l0c - 0))]) w26 fun v27 w28 => ∃ (x29 : Option Addr) (x29n : Nat) (x29c : Nat), v27 = (.slice x29 x29n x29c) ∧
 ∃ cs30 : List Value, List.length cs30 = 2 ∧ Cells w28 ⟨World.heap w |>.size, 0, none⟩ cs30 ∧
 ∃ cs31, fillL (.elems 2) (zrep (zc Tryd.prog 29) (1 * 2)) [(0, (.agg (List.toArray cs30)))] = some cs31 ∧
 ∀ w32 : World, w32 = World.alloc w28 (.cells (List.toArray cs31) 29) →
 RunV Tryd.prog (Builtin.append_ #[67, 67] 67 #[(.slice x29 x29n x29c), (.slice (some ⟨World.heap w28 |>.size, 0, none⟩) 1 1)]) w32 fun v33 w34 => ∃ (x35 : Option Addr) (x35n : Nat) (x35c : Nat), v33 = (.slice x35 x35n x35c) ∧
 0 ≤ at17 ∧ at17 ≤ ((l0n : Nat) : Int) ∧ RunV Tryd.prog (Builtin.append_ #[67, 67] 67 #[(.slice x35 x35n x35c), (.slice (if l0c = (Int.toNat at17) then l0 else Option.map (fun y => Addr.add y ((Int.toNat at17) * 2)) l0) (l0n - (Int.toNat at17)) (l0c - (Int.toNat at17)))]) w34 fun v36 w37 => ∃ (x38 : Option Addr) (x38n : Nat) (x38c : Nat), v36 = (.slice x38 x38n x38c) ∧
 R (.returned (.slice x38 x38n x38c)) w37))
theorem e83 (l0 : Option Addr) (l0n : Nat) (l0c : Nat) (k1 : Array Value) (w : World) (R : Ending → World → Prop) : denS Tryd.prog s83 (argsEnv 0 [(.slice l0 l0n l0c), (.agg k1)]) w (endK r83 R) = d83 l0 l0n l0c k1 w R := by kernel_rfl
theorem c83 (l0 : Option Addr) (l0n : Nat) (l0c : Nat) (k1 : Array Value) {w : World} {R : Ending → World → Prop} (h : d83 l0 l0n l0c k1 w R) : Calls Tryd.prog 83 #[(.slice l0 l0n l0c), (.agg k1)] w R :=
  den83 [(.slice l0 l0n l0c), (.agg k1)] w R (by simp) ((e83 l0 l0n l0c k1 w R).symm ▸ h)

/-- slices.Grow[[]byte,byte] -/
def s86 : S := (.seq (.ops [⟨(some 4), (.mv (.const (.slice none 0 0))), .sl, none⟩] [1, 0])
 (.join [] [0, 1]
 (.seq (.ops [⟨(some 5), (.mv (.tmp 1)), (.int .i64), none⟩,
  ⟨(some 6), (.bin .lss (.tmp 5) (.const (.int .i64 0))), .bool, none⟩] [6, 1, 0])
 (.cond (.tmp 6)
 (.ops [⟨(some 7), (.mkI 9 (.const (.string ⟨#[99, 97, 110, 110, 111, 116, 32, 98, 101, 32, 110, 101, 103, 97, 116, 105, 118, 101]⟩))), .any, none⟩,
  ⟨none, (.pan (.tmp 7)), .any, none⟩] [1, 0])
 .skip))
 (.seq (.seq (.ops [⟨(some 8), (.mv (.tmp 1)), (.int .i64), none⟩,
  ⟨(some 9), (.mv (.tmp 0)), .sl, none⟩,
  ⟨(some 10), (.rv (.capB #[22] 3) [(.tmp 9)]), (.int .i64), none⟩,
  ⟨(some 11), (.mv (.tmp 0)), .sl, none⟩,
  ⟨(some 12), (.len (.tmp 11)), (.int .i64), none⟩,
  ⟨(some 13), (.bin .sub (.tmp 10) (.tmp 12)), (.int .i64), none⟩,
  ⟨(some 14), (.bin .sub (.tmp 8) (.tmp 13)), (.int .i64), none⟩,
  ⟨(some 1), (.mv (.tmp 14)), (.int .i64), none⟩] [1, 0])
 (.seq (.ops [⟨(some 15), (.mv (.tmp 1)), (.int .i64), none⟩,
  ⟨(some 16), (.bin .gtr (.tmp 15) (.const (.int .i64 0))), .bool, none⟩] [16, 0, 1])
 (.cond (.tmp 16)
 (.ops [⟨(some 17), (.mv (.tmp 0)), .sl, none⟩,
  ⟨(some 18), (.mv (.tmp 0)), .sl, none⟩,
  ⟨(some 19), (.rv (.capB #[22] 3) [(.tmp 18)]), (.int .i64), none⟩,
  ⟨(some 20), (.slS 1 (.tmp 17) none (some (.tmp 19)) none), .sl, none⟩,
  ⟨(some 21), (.mv (.tmp 1)), (.int .i64), none⟩,
  ⟨(some 22), (.app #[22, 3] 22 (.tmp 20) (.tmp 21)), .sl, none⟩,
  ⟨(some 23), (.mv (.tmp 0)), .sl, none⟩,
  ⟨(some 24), (.len (.tmp 23)), (.int .i64), none⟩,
  ⟨(some 25), (.slS 1 (.tmp 22) none (some (.tmp 24)) none), .sl, none⟩,
  ⟨(some 0), (.mv (.tmp 25)), .sl, none⟩] [0])
 .skip)))
 (.seq (.ops [⟨(some 26), (.mv (.tmp 0)), .sl, none⟩,
  ⟨(some 4), (.mv (.tmp 26)), .sl, none⟩] [4])
 .ret))))
def r86 : List Res := [.t 4]
theorem tr86 : trS Tryd.prog [] 27 (Tryd.f86.body.getD .skip) s86 = some s86 := by kernel_rfl
theorem den86 (args : List Value) (w : World) (R : Ending → World → Prop) (hn : args.length ≤ 27) (h : denS Tryd.prog s86 (argsEnv 0 args) w (endK r86 R)) : Calls Tryd.prog 86 args.toArray w R :=
  calls_of_den (pn := []) (fn := Tryd.f86) (c := Tryd.f86.body.getD .skip) Tryd.func86 (by kernel_rfl) (by rw [Tryd.ntmps86]; exact hn) (by rw [Tryd.ntmps86]; exact tr86) (by kernel_rfl) h
def d86 (s0 : Option Addr) (s0n : Nat) (s0c : Nat) (n1 : Int) (w : World) (R : Ending → World → Prop) : Prop :=
 ∃ J2 : World → Prop,
 ((bif (decide (n1 < 0)) then
 ((∃ t u, ((.iface 9 (.string (⟨#[99, 97, 110, 110, 111, 116, 32, 98, 101, 32, 110, 101, 103, 97, 116, 105, 118, 101]⟩ : ByteArray))) : Value) = .iface t u) ∧ R (.panicked [⟨(.iface 9 (.string (⟨#[99, 97, 110, 110, 111, 116, 32, 98, 101, 32, 110, 101, 103, 97, 116, 105, 118, 101]⟩ : ByteArray))), false, false⟩]) w)
 else
 (J2  w))) ∧
 (∀ (w3 : World), J2  w3 →
 RunV Tryd.prog (Builtin.cap_ #[22] 3 #[(.slice s0 s0n s0c)]) w3 fun v4 w5 => ∃ x6 : Int, v4 = (.int .i64 x6) ∧
 (bif (decide (0 < (IntKind.wrap .i64 (n1 - (IntKind.wrap .i64 (x6 - ((s0n : Nat) : Int))))))) then
 (RunV Tryd.prog (Builtin.cap_ #[22] 3 #[(.slice s0 s0n s0c)]) w5 fun v7 w8 => ∃ x9 : Int, v7 = (.int .i64 x9) ∧
 0 ≤ x9 ∧ x9 ≤ ((s0c : Nat) : Int) ∧ RunV Tryd.prog (Builtin.append_ #[22, 3] 22 #[(.slice (if s0c = 0 then s0 else Option.map (fun y => Addr.add y (0 * 1)) s0) ((Int.toNat x9) - 0) (s0c - 0)), (.int .i64 (IntKind.wrap .i64 (n1 - (IntKind.wrap .i64 (x6 - ((s0n : Nat) : Int))))))]) w8 fun v10 w11 => ∃ (x12 : Option Addr) (x12n : Nat) (x12c : Nat), v10 = (.slice x12 x12n x12c) ∧
 0 ≤ ((s0n : Nat) : Int) ∧ ((s0n : Nat) : Int) ≤ ((x12c : Nat) : Int) ∧ R (.returned (.slice (if x12c = 0 then x12 else Option.map (fun y => Addr.add y (0 * 1)) x12) ((Int.toNat ((s0n : Nat) : Int)) - 0) (x12c - 0))) w11)
 else
 (R (.returned (.slice s0 s0n s0c)) w5)))
theorem e86 (s0 : Option Addr) (s0n : Nat) (s0c : Nat) (n1 : Int) (w : World) (R : Ending → World → Prop) : denS Tryd.prog s86 (argsEnv 0 [(.slice s0 s0n s0c), (.int .i64 n1)]) w (endK r86 R) = d86 s0 s0n s0c n1 w R := by kernel_rfl
theorem c86 (s0 : Option Addr) (s0n : Nat) (s0c : Nat) (n1 : Int) {w : World} {R : Ending → World → Prop} (h : d86 s0 s0n s0c n1 w R) : Calls Tryd.prog 86 #[(.slice s0 s0n s0c), (.int .i64 n1)] w R :=
  den86 [(.slice s0 s0n s0c), (.int .i64 n1)] w R (by simp) ((e86 s0 s0n s0c n1 w R).symm ▸ h)

/-- prelude/preluderef02.ten -/
def s87 : S := (.seq (.ops [⟨(some 1), (.box 29 (.tmp 0)), .ptr, none⟩,
  ⟨(some 2), (.alloc 140), .ptr, none⟩] [1, 2])
 (.seq (.ops [⟨(some 3), (.alloc 140), .ptr, none⟩] [1, 3, 2])
 (.seq (.ops [⟨(some 6), (.fa 0 (.tmp 1)), .ptr, none⟩,
  ⟨(some 7), (.ld1 (.tmp 6)), (.int .i64), none⟩,
  ⟨(some 8), (.bin .quo (.tmp 7) (.const (.int .i64 256))), (.int .i64), none⟩,
  ⟨(some 9), (.cv .u8 (.tmp 8)), (.int .u8), none⟩,
  ⟨(some 10), (.iaA 10 1 (.tmp 3) (.const (.int .i64 0))), .ptr, none⟩,
  ⟨none, (.st1 (.tmp 10) (.tmp 9)), .any, none⟩] [1, 3, 2])
 (.seq (.ops [⟨(some 11), (.fa 0 (.tmp 1)), .ptr, none⟩,
  ⟨(some 12), (.ld1 (.tmp 11)), (.int .i64), none⟩,
  ⟨(some 13), (.bin .rem (.tmp 12) (.const (.int .i64 256))), (.int .i64), none⟩,
  ⟨(some 14), (.cv .u8 (.tmp 13)), (.int .u8), none⟩,
  ⟨(some 15), (.iaA 10 1 (.tmp 3) (.const (.int .i64 1))), .ptr, none⟩,
  ⟨none, (.st1 (.tmp 15) (.tmp 14)), .any, none⟩] [1, 3, 2])
 (.seq (.ops [⟨(some 16), (.fa 1 (.tmp 1)), .ptr, none⟩,
  ⟨(some 17), (.ld1 (.tmp 16)), (.int .i64), none⟩,
  ⟨(some 18), (.cv .u64 (.tmp 17)), (.int .u64), none⟩,
  ⟨(some 19), (.bin .xor (.tmp 18) (.const (.int .u64 9223372036854775808))), (.int .u64), none⟩,
  ⟨(some 4), (.mv (.tmp 19)), (.int .u64), none⟩] [4, 3, 2])
 (.seq (.seq (.ops [⟨(some 5), (.mv (.const (.int .i64 0))), (.int .i64), none⟩] [5, 4, 3, 2])
 (.block 0
 (.loop [(4, (.int .u64)), (5, (.int .i64))] [2, 3]
 (.seq (.seq (.ops [⟨(some 20), (.mv (.tmp 5)), (.int .i64), none⟩,
  ⟨(some 21), (.bin .lss (.tmp 20) (.const (.int .i64 8))), .bool, none⟩] [21, 5, 4, 3, 2])
 (.cond (.tmp 21)
 .skip
 (.exit 0)))
 (.seq (.block 1
 (.seq (.ops [⟨(some 24), (.mv (.tmp 5)), (.int .i64), none⟩,
  ⟨(some 25), (.bin .sub (.const (.int .i64 9)) (.tmp 24)), (.int .i64), none⟩,
  ⟨(some 26), (.mv (.tmp 4)), (.int .u64), none⟩,
  ⟨(some 27), (.bin .rem (.tmp 26) (.const (.int .u64 256))), (.int .u64), none⟩,
  ⟨(some 28), (.cv .u8 (.tmp 27)), (.int .u8), none⟩,
  ⟨(some 29), (.iaA 10 1 (.tmp 3) (.tmp 25)), .ptr, none⟩,
  ⟨none, (.st1 (.tmp 29) (.tmp 28)), .any, none⟩] [4, 5, 3, 2])
 (.ops [⟨(some 30), (.mv (.tmp 4)), (.int .u64), none⟩,
  ⟨(some 31), (.bin .quo (.tmp 30) (.const (.int .u64 256))), (.int .u64), none⟩,
  ⟨(some 4), (.mv (.tmp 31)), (.int .u64), none⟩] [5, 4, 3, 2])))
 (.ops [⟨(some 22), (.mv (.tmp 5)), (.int .i64), none⟩,
  ⟨(some 23), (.bin .add (.tmp 22) (.const (.int .i64 1))), (.int .i64), none⟩,
  ⟨(some 5), (.mv (.tmp 23)), (.int .i64), none⟩] [5, 4, 3, 2]))))))
 (.seq (.ops [⟨(some 32), (.ldN 10 (.tmp 3)), .agg, none⟩,
  ⟨none, (.stN 10 (.tmp 2) (.tmp 32)), .any, none⟩] [2])
 .ret)))))))
def r87 : List Res := [.cN 2 10]
theorem tr87 : trS Tryd.prog [] 33 (Tryd.f87.body.getD .skip) s87 = some s87 := by kernel_rfl
theorem den87 (args : List Value) (w : World) (R : Ending → World → Prop) (hn : args.length ≤ 33) (h : denS Tryd.prog s87 (argsEnv 0 args) w (endK r87 R)) : Calls Tryd.prog 87 args.toArray w R :=
  calls_of_den (pn := []) (fn := Tryd.f87) (c := Tryd.f87.body.getD .skip) Tryd.func87 (by kernel_rfl) (by rw [Tryd.ntmps87]; exact hn) (by rw [Tryd.ntmps87]; exact tr87) (by kernel_rfl) h
def d87 (k0 : Array Value) (w : World) (R : Ending → World → Prop) : Prop :=
 ∀ w1 : World, w1 = World.alloc w (.cells k0 29) →
 ∀ w2 : World, w2 = World.alloc w1 (.cells (zc Tryd.prog 140).toArray 140) →
 ∀ w3 : World, w3 = World.alloc w2 (.cells (zc Tryd.prog 140).toArray 140) →
 ∃ x4 : Int, World.cell? w3 (Addr.add ⟨World.heap w |>.size, 0, none⟩ 0) = some (.int .i64 x4) ∧
 (256 : Int) ≠ 0 ∧ 0 ≤ (0 : Int) ∧ (0 : Int) < ((10 : Nat) : Int) ∧
 one (.int .u8 (IntKind.wrap .u8 (IntKind.wrap .i64 (Int.tdiv x4 256)))) = true ∧ Option.isSome (World.cell? w3 (Addr.add ⟨World.heap w2 |>.size, 0, none⟩ (Int.toNat 0 * 1))) = true ∧ World.frozen? w3 (Addr.add ⟨World.heap w2 |>.size, 0, none⟩ (Int.toNat 0 * 1)) = false ∧
 ∀ w5 : World, w5 = World.setCell w3 (Addr.add ⟨World.heap w2 |>.size, 0, none⟩ (Int.toNat 0 * 1)) (.int .u8 (IntKind.wrap .u8 (IntKind.wrap .i64 (Int.tdiv x4 256)))) →
 ∃ x6 : Int, World.cell? w5 (Addr.add ⟨World.heap w |>.size, 0, none⟩ 0) = some (.int .i64 x6) ∧
 (256 : Int) ≠ 0 ∧ 0 ≤ (1 : Int) ∧ (1 : Int) < ((10 : Nat) : Int) ∧
 one (.int .u8 (IntKind.wrap .u8 (Int.tmod x6 256))) = true ∧ Option.isSome (World.cell? w5 (Addr.add ⟨World.heap w2 |>.size, 0, none⟩ (Int.toNat 1 * 1))) = true ∧ World.frozen? w5 (Addr.add ⟨World.heap w2 |>.size, 0, none⟩ (Int.toNat 1 * 1)) = false ∧
 ∀ w7 : World, w7 = World.setCell w5 (Addr.add ⟨World.heap w2 |>.size, 0, none⟩ (Int.toNat 1 * 1)) (.int .u8 (IntKind.wrap .u8 (Int.tmod x6 256))) →
 ∃ x8 : Int, World.cell? w7 (Addr.add ⟨World.heap w |>.size, 0, none⟩ 1) = some (.int .i64 x8) ∧
 ∃ I9 : Nat → Int → Int → World → Prop,
 (∃ m, I9 m (bXor .u64 (IntKind.wrap .u64 x8) 9223372036854775808) 0 w7) ∧
 (∀ (m10 : Nat) (w11 : World) (u12 : Int) (i13 : Int), I9 m10 u12 i13 w11 →
 (bif (decide (i13 < 8)) then
 ((256 : Int) ≠ 0 ∧ 0 ≤ (IntKind.wrap .i64 (9 - i13)) ∧ (IntKind.wrap .i64 (9 - i13)) < ((10 : Nat) : Int) ∧
 one (.int .u8 (IntKind.wrap .u8 (Int.tmod u12 256))) = true ∧ Option.isSome (World.cell? w11 (Addr.add ⟨World.heap w2 |>.size, 0, none⟩ (Int.toNat (IntKind.wrap .i64 (9 - i13)) * 1))) = true ∧ World.frozen? w11 (Addr.add ⟨World.heap w2 |>.size, 0, none⟩ (Int.toNat (IntKind.wrap .i64 (9 - i13)) * 1)) = false ∧
 ∀ w14 : World, w14 = World.setCell w11 (Addr.add ⟨World.heap w2 |>.size, 0, none⟩ (Int.toNat (IntKind.wrap .i64 (9 - i13)) * 1)) (.int .u8 (IntKind.wrap .u8 (Int.tmod u12 256))) →
 (256 : Int) ≠ 0 ∧ ∃ m15, m15 < m10 ∧ I9 m15 (IntKind.wrap .u64 (Int.tdiv u12 256)) (IntKind.wrap .i64 (i13 + 1)) w14)
 else
 (∃ cs16 : List Value, List.length cs16 = 10 ∧ Cells w11 ⟨World.heap w2 |>.size, 0, none⟩ cs16 ∧
 Array.size (List.toArray cs16) = 10 ∧ (∀ u ∈ Array.toList (List.toArray cs16), one u = true) ∧ Room w11 ⟨World.heap w1 |>.size, 0, none⟩ 10 ∧
 ∀ w17 : World, w17 = setCells w11 ⟨World.heap w1 |>.size, 0, none⟩ (Array.toList (List.toArray cs16)) 0 →
 ∃ cs18 : List Value, List.length cs18 = 10 ∧ Cells w17 ⟨World.heap w1 |>.size, 0, none⟩ cs18 ∧
 R (.returned (.agg (List.toArray cs18))) w17)))
theorem e87 (k0 : Array Value) (w : World) (R : Ending → World → Prop) : denS Tryd.prog s87 (argsEnv 0 [(.agg k0)]) w (endK r87 R) = d87 k0 w R := by kernel_rfl
theorem c87 (k0 : Array Value) {w : World} {R : Ending → World → Prop} (h : d87 k0 w R) : Calls Tryd.prog 87 #[(.agg k0)] w R :=
  den87 [(.agg k0)] w R (by simp) ((e87 k0 w R).symm ▸ h)

end Go.Proofs.YtjkbjppopdfggaaDoor.Fn
