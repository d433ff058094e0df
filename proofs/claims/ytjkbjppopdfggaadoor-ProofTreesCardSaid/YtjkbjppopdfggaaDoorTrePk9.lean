/-
  THE CODE of some functions of the given program, resolved, and proved to ask what the readable texts (d..) say; contracts c.. follow. Printed by a small program of mine.
  PROOFS: as data; bits of keys; what Verify answers.
  TREES OVER ROWS, as data: bits of keys, where rows part, the tree; it has their rows (no code in sight).
  Own work. No macro, syntax, notation, axiom.
-/
import Derived.Test.YtjkbjppopdfggaaDoorTrePk3
import Derived.Test.YtjkbjppopdfggaaDoorProg
import Derived.Test.YtjkbjppopdfggaaDoorTrePk8
set_option maxRecDepth 100000
namespace Go.Proofs.YtjkbjppopdfggaaDoor.Fn
open Go Den
/-- prelude/proof.Verify -/
def s18 : S := (.seq (.ops [⟨(some 3), (.box 24 (.tmp 0)), .ptr, none⟩,
  ⟨(some 4), (.box 29 (.tmp 1)), .ptr, none⟩,
  ⟨(some 5), (.box 43 (.tmp 2)), .ptr, none⟩,
  ⟨(some 6), (.alloc 45), .ptr, none⟩,
  ⟨(some 7), (.mv (.const (.int .i64 0))), (.int .i64), none⟩] [4, 6, 3, 5])
 (.seq (.ops [⟨(some 11), (.ldN 2 (.tmp 4)), .agg, none⟩,
  ⟨(some 12), (.call 55 [(.tmp 11)] [.sl, (.int .i64)]), .any, none⟩,
  ⟨(some 10), (.mv (.tmp 12)), .any, none⟩,
  ⟨(some 13), (.ext 0 (.tmp 10)), .sl, none⟩,
  ⟨(some 14), (.ext 1 (.tmp 10)), (.int .i64), none⟩,
  ⟨(some 8), (.mv (.tmp 13)), .sl, none⟩,
  ⟨(some 9), (.mv (.tmp 14)), (.int .i64), none⟩] [9, 6, 3, 8, 5, 4])
 (.seq (.seq (.ops [⟨(some 15), (.mv (.tmp 9)), (.int .i64), none⟩,
  ⟨(some 16), (.bin .neq (.tmp 15) (.const (.int .i64 0))), .bool, none⟩] [16, 9, 6, 3, 8, 5, 4])
 (.cond (.tmp 16)
 (.seq (.ops [⟨(some 17), (.bld 45 (.fields [(0, 1), (1, 1)]) []), .agg, none⟩,
  ⟨(some 18), (.mv (.tmp 9)), (.int .i64), none⟩,
  ⟨none, (.stN 2 (.tmp 6) (.tmp 17)), .any, none⟩,
  ⟨(some 7), (.mv (.tmp 18)), (.int .i64), none⟩] [6, 7])
 .ret)
 .skip))
 (.seq (.seq (.ops [⟨(some 19), (.ldN 32 (.tmp 3)), .agg, none⟩,
  ⟨(some 20), (.mv (.tmp 8)), .sl, none⟩,
  ⟨(some 21), (.ldN 5 (.tmp 5)), .agg, none⟩,
  ⟨(some 22), (.call 56 [(.tmp 19), (.tmp 20), (.tmp 21)] [.bool]), .bool, none⟩,
  ⟨(some 23), (.un .not (.tmp 22)), .bool, none⟩] [23, 6, 5, 4])
 (.cond (.tmp 23)
 (.seq (.ops [⟨(some 24), (.bld 45 (.fields [(0, 1), (1, 1)]) []), .agg, none⟩,
  ⟨none, (.stN 2 (.tmp 6) (.tmp 24)), .any, none⟩,
  ⟨(some 7), (.mv (.const (.int .i64 250))), (.int .i64), none⟩] [6, 7])
 .ret)
 .skip))
 (.seq (.seq (.ops [⟨(some 25), (.fa 1 (.tmp 5)), .ptr, none⟩,
  ⟨(some 26), (.ld1 (.tmp 25)), .bool, none⟩,
  ⟨(some 27), (.mv (.tmp 26)), .bool, none⟩,
  ⟨(some 28), (.fa 2 (.tmp 5)), .ptr, (some (27, true))⟩,
  ⟨(some 29), (.fa 0 (.tmp 28)), .ptr, (some (27, true))⟩,
  ⟨(some 30), (.ldN 2 (.tmp 29)), .agg, (some (27, true))⟩,
  ⟨(some 31), (.ldN 2 (.tmp 4)), .agg, (some (27, true))⟩,
  ⟨(some 32), (.eqG .eql 29 (.tmp 30) (.tmp 31)), .bool, (some (27, true))⟩,
  ⟨(some 33), (.pick (.tmp 27) (.tmp 32) (.const (.bool false))), .bool, none⟩] [33, 5, 6])
 (.cond (.tmp 33)
 (.seq (.ops [⟨(some 34), (.fa 2 (.tmp 5)), .ptr, none⟩,
  ⟨(some 35), (.fa 2 (.tmp 34)), .ptr, none⟩,
  ⟨(some 36), (.ld1 (.tmp 35)), (.int .i64), none⟩,
  ⟨(some 37), (.bld 45 (.fields [(0, 1), (1, 1)]) [(0, (.const (.bool true))), (1, (.tmp 36))]), .agg, none⟩,
  ⟨none, (.stN 2 (.tmp 6) (.tmp 37)), .any, none⟩,
  ⟨(some 7), (.mv (.const (.int .i64 0))), (.int .i64), none⟩] [6, 7])
 .ret)
 .skip))
 (.seq (.ops [⟨(some 38), (.bld 45 (.fields [(0, 1), (1, 1)]) []), .agg, none⟩,
  ⟨none, (.stN 2 (.tmp 6) (.tmp 38)), .any, none⟩,
  ⟨(some 7), (.mv (.const (.int .i64 0))), (.int .i64), none⟩] [6, 7])
 .ret))))))
def r18 : List Res := [.cN 6 2, .t 7]
def d18 (root0 : Array Value) (k1 : Array Value) (p2 : Array Value) (w : World) (R : Ending → World → Prop) : Prop :=
 ∀ w3 : World, w3 = World.alloc w (.cells root0 24) →
 ∀ w4 : World, w4 = World.alloc w3 (.cells k1 29) →
 ∀ w5 : World, w5 = World.alloc w4 (.cells p2 43) →
 ∀ w6 : World, w6 = World.alloc w5 (.cells (zc Tryd.prog 45).toArray 45) →
 ∃ cs7 : List Value, List.length cs7 = 2 ∧ Cells w6 ⟨World.heap w3 |>.size, 0, none⟩ cs7 ∧
 Calls Tryd.prog 55 #[(.agg (List.toArray cs7))] w6 fun e8 w9 => ∃ (x10 : Option Addr) (x10n : Nat) (x10c : Nat), ∃ x11 : Int, e8 = .returned (.tuple #[(.slice x10 x10n x10c), (.int .i64 x11)]) ∧
 ∃ (x12 : Option Addr) (x12n : Nat) (x12c : Nat), (#[(.slice x10 x10n x10c), (.int .i64 x11)] : Array Value)[0]? = some (.slice x12 x12n x12c) ∧
 ∃ x13 : Int, (#[(.slice x10 x10n x10c), (.int .i64 x11)] : Array Value)[1]? = some (.int .i64 x13) ∧
 (bif (!decide (x13 = 0)) then
 (∃ cs14, fillL (.fields [(0, 1), (1, 1)]) (zc Tryd.prog 45) [] = some cs14 ∧
 Array.size (List.toArray cs14) = 2 ∧ (∀ u ∈ Array.toList (List.toArray cs14), one u = true) ∧ Room w9 ⟨World.heap w5 |>.size, 0, none⟩ 2 ∧
 ∀ w15 : World, w15 = setCells w9 ⟨World.heap w5 |>.size, 0, none⟩ (Array.toList (List.toArray cs14)) 0 →
 ∃ cs16 : List Value, List.length cs16 = 2 ∧ Cells w15 ⟨World.heap w5 |>.size, 0, none⟩ cs16 ∧
 R (.returned (.tuple #[(.agg (List.toArray cs16)), (.int .i64 x13)])) w15)
 else
 (∃ cs17 : List Value, List.length cs17 = 32 ∧ Cells w9 ⟨World.heap w |>.size, 0, none⟩ cs17 ∧
 ∃ cs18 : List Value, List.length cs18 = 5 ∧ Cells w9 ⟨World.heap w4 |>.size, 0, none⟩ cs18 ∧
 Calls Tryd.prog 56 #[(.agg (List.toArray cs17)), (.slice x12 x12n x12c), (.agg (List.toArray cs18))] w9 fun e19 w20 => ∃ x21 : Bool, e19 = .returned (.bool x21) ∧
 (bif (!x21) then
 (∃ cs22, fillL (.fields [(0, 1), (1, 1)]) (zc Tryd.prog 45) [] = some cs22 ∧
 Array.size (List.toArray cs22) = 2 ∧ (∀ u ∈ Array.toList (List.toArray cs22), one u = true) ∧ Room w20 ⟨World.heap w5 |>.size, 0, none⟩ 2 ∧
 ∀ w23 : World, w23 = setCells w20 ⟨World.heap w5 |>.size, 0, none⟩ (Array.toList (List.toArray cs22)) 0 →
 ∃ cs24 : List Value, List.length cs24 = 2 ∧ Cells w23 ⟨World.heap w5 |>.size, 0, none⟩ cs24 ∧
 R (.returned (.tuple #[(.agg (List.toArray cs24)), (.int .i64 250)])) w23)
 else
 (∃ x25 : Bool, World.cell? w20 (Addr.add ⟨World.heap w4 |>.size, 0, none⟩ 1) = some (.bool x25) ∧
 (bif x25 then
 (∃ cs26 : List Value, List.length cs26 = 2 ∧ Cells w20 (Addr.add (Addr.add ⟨World.heap w4 |>.size, 0, none⟩ 2) 0) cs26 ∧
 ∃ cs27 : List Value, List.length cs27 = 2 ∧ Cells w20 ⟨World.heap w3 |>.size, 0, none⟩ cs27 ∧
 ∃ q28 : Bool, Sem.run Tryd.prog (do eqGuard .eql 29 (.tmp 30) (.tmp 31) (.agg (List.toArray cs26)) (.agg (List.toArray cs27)); binOp .eql 29 (.agg (List.toArray cs26)) (.agg (List.toArray cs27))) w20 = .ok (.bool q28) w20 ∧
 (bif q28 then
 (∃ x29 : Int, World.cell? w20 (Addr.add (Addr.add ⟨World.heap w4 |>.size, 0, none⟩ 2) 2) = some (.int .i64 x29) ∧
 ∃ cs30, fillL (.fields [(0, 1), (1, 1)]) (zc Tryd.prog 45) [(0, (.bool true)), (1, (.int .i64 x29))] = some cs30 ∧
 Array.size (List.toArray cs30) = 2 ∧ (∀ u ∈ Array.toList (List.toArray cs30), one u = true) ∧ Room w20 ⟨World.heap w5 |>.size, 0, none⟩ 2 ∧
 ∀ w31 : World, w31 = setCells w20 ⟨World.heap w5 |>.size, 0, none⟩ (Array.toList (List.toArray cs30)) 0 →
 ∃ cs32 : List Value, List.length cs32 = 2 ∧ Cells w31 ⟨World.heap w5 |>.size, 0, none⟩ cs32 ∧
 R (.returned (.tuple #[(.agg (List.toArray cs32)), (.int .i64 0)])) w31)
 else
 (∃ cs33, fillL (.fields [(0, 1), (1, 1)]) (zc Tryd.prog 45) [] = some cs33 ∧
 Array.size (List.toArray cs33) = 2 ∧ (∀ u ∈ Array.toList (List.toArray cs33), one u = true) ∧ Room w20 ⟨World.heap w5 |>.size, 0, none⟩ 2 ∧
 ∀ w34 : World, w34 = setCells w20 ⟨World.heap w5 |>.size, 0, none⟩ (Array.toList (List.toArray cs33)) 0 →
 ∃ cs35 : List Value, List.length cs35 = 2 ∧ Cells w34 ⟨World.heap w5 |>.size, 0, none⟩ cs35 ∧
 R (.returned (.tuple #[(.agg (List.toArray cs35)), (.int .i64 0)])) w34)))
 else
 (∃ cs36, fillL (.fields [(0, 1), (1, 1)]) (zc Tryd.prog 45) [] = some cs36 ∧
 Array.size (List.toArray cs36) = 2 ∧ (∀ u ∈ Array.toList (List.toArray cs36), one u = true) ∧ Room w20 ⟨World.heap w5 |>.size, 0, none⟩ 2 ∧
 ∀ w37 : World, w37 = setCells w20 ⟨World.heap w5 |>.size, 0, none⟩ (Array.toList (List.toArray cs36)) 0 →
 ∃ cs38 : List Value, List.length cs38 = 2 ∧ Cells w37 ⟨World.heap w5 |>.size, 0, none⟩ cs38 ∧
 R (.returned (.tuple #[(.agg (List.toArray cs38)), (.int .i64 0)])) w37))))))
theorem e18 (root0 : Array Value) (k1 : Array Value) (p2 : Array Value) (w : World) (R : Ending → World → Prop) : denS Tryd.prog s18 (argsEnv 0 [(.agg root0), (.agg k1), (.agg p2)]) w (endK r18 R) = d18 root0 k1 p2 w R := by kernel_rfl
/-- prelude/preluderef24.Verify -/
def s19 : S := (.seq (.ops [⟨(some 3), (.box 24 (.tmp 0)), .ptr, none⟩,
  ⟨(some 4), (.box 29 (.tmp 1)), .ptr, none⟩,
  ⟨(some 5), (.box 43 (.tmp 2)), .ptr, none⟩,
  ⟨(some 6), (.alloc 45), .ptr, none⟩,
  ⟨(some 7), (.mv (.const (.int .i64 0))), (.int .i64), none⟩] [4, 6, 5, 3])
 (.seq (.seq (.ops [⟨(some 12), (.ldN 2 (.tmp 4)), .agg, none⟩,
  ⟨(some 13), (.call 57 [(.tmp 12)] [(.int .i64)]), (.int .i64), none⟩,
  ⟨(some 14), (.bin .neq (.tmp 13) (.const (.int .i64 0))), .bool, none⟩] [14, 6, 4, 5, 3])
 (.cond (.tmp 14)
 (.seq (.ops [⟨(some 15), (.bld 45 (.fields [(0, 1), (1, 1)]) []), .agg, none⟩,
  ⟨none, (.stN 2 (.tmp 6) (.tmp 15)), .any, none⟩,
  ⟨(some 7), (.mv (.const (.int .i64 20))), (.int .i64), none⟩] [6, 7])
 .ret)
 .skip))
 (.seq (.ops [⟨(some 16), (.ldN 2 (.tmp 4)), .agg, none⟩,
  ⟨(some 17), (.ldN 5 (.tmp 5)), .agg, none⟩,
  ⟨(some 18), (.call 58 [(.tmp 16), (.tmp 17)] [.bool]), .bool, none⟩,
  ⟨(some 8), (.mv (.tmp 18)), .bool, none⟩] [8, 6, 4, 5, 3])
 (.seq (.seq (.ops [⟨(some 19), (.mv (.tmp 8)), .bool, none⟩,
  ⟨(some 20), (.un .not (.tmp 19)), .bool, none⟩] [20, 6, 4, 5, 3])
 (.cond (.tmp 20)
 (.seq (.ops [⟨(some 21), (.bld 45 (.fields [(0, 1), (1, 1)]) []), .agg, none⟩,
  ⟨none, (.stN 2 (.tmp 6) (.tmp 21)), .any, none⟩,
  ⟨(some 7), (.mv (.const (.int .i64 250))), (.int .i64), none⟩] [6, 7])
 .ret)
 .skip))
 (.seq (.ops [⟨(some 22), (.ldN 2 (.tmp 4)), .agg, none⟩,
  ⟨(some 23), (.ldN 5 (.tmp 5)), .agg, none⟩,
  ⟨(some 24), (.call 20 [(.tmp 22), (.tmp 23)] [.sl]), .sl, none⟩,
  ⟨(some 9), (.mv (.tmp 24)), .sl, none⟩] [9, 3, 6, 5, 4])
 (.seq (.ops [⟨(some 26), (.mv (.tmp 9)), .sl, none⟩,
  ⟨(some 27), (.mv (.tmp 9)), .sl, none⟩,
  ⟨(some 28), (.len (.tmp 27)), (.int .i64), none⟩,
  ⟨(some 29), (.bin .sub (.tmp 28) (.const (.int .i64 1))), (.int .i64), none⟩,
  ⟨(some 30), (.ia 69 (.tmp 26) (.tmp 29)), .ptr, none⟩,
  ⟨(some 31), (.ldN 69 (.tmp 30)), .agg, none⟩,
  ⟨(some 32), (.call 16 [(.tmp 31)] [.agg, (.int .i64)]), .any, none⟩,
  ⟨(some 25), (.mv (.tmp 32)), .any, none⟩,
  ⟨(some 33), (.ext 0 (.tmp 25)), .agg, none⟩,
  ⟨(some 34), (.ext 1 (.tmp 25)), (.int .i64), none⟩,
  ⟨(some 10), (.alloc 24), .ptr, none⟩,
  ⟨none, (.stN 32 (.tmp 10) (.tmp 33)), .any, none⟩,
  ⟨(some 11), (.mv (.tmp 34)), (.int .i64), none⟩] [10, 3, 6, 5, 4])
 (.seq (.seq (.ops [⟨(some 35), (.ldN 32 (.tmp 10)), .agg, none⟩,
  ⟨(some 36), (.ldN 32 (.tmp 3)), .agg, none⟩,
  ⟨(some 37), (.eqG .neq 24 (.tmp 35) (.tmp 36)), .bool, none⟩] [37, 6, 5, 4])
 (.cond (.tmp 37)
 (.seq (.ops [⟨(some 38), (.bld 45 (.fields [(0, 1), (1, 1)]) []), .agg, none⟩,
  ⟨none, (.stN 2 (.tmp 6) (.tmp 38)), .any, none⟩,
  ⟨(some 7), (.mv (.const (.int .i64 250))), (.int .i64), none⟩] [6, 7])
 .ret)
 .skip))
 (.seq (.seq (.ops [⟨(some 39), (.fa 1 (.tmp 5)), .ptr, none⟩,
  ⟨(some 40), (.ld1 (.tmp 39)), .bool, none⟩,
  ⟨(some 41), (.mv (.tmp 40)), .bool, none⟩,
  ⟨(some 42), (.fa 2 (.tmp 5)), .ptr, (some (41, true))⟩,
  ⟨(some 43), (.fa 0 (.tmp 42)), .ptr, (some (41, true))⟩,
  ⟨(some 44), (.ldN 2 (.tmp 43)), .agg, (some (41, true))⟩,
  ⟨(some 45), (.ldN 2 (.tmp 4)), .agg, (some (41, true))⟩,
  ⟨(some 46), (.eqG .eql 29 (.tmp 44) (.tmp 45)), .bool, (some (41, true))⟩,
  ⟨(some 47), (.pick (.tmp 41) (.tmp 46) (.const (.bool false))), .bool, none⟩] [47, 5, 6])
 (.cond (.tmp 47)
 (.seq (.ops [⟨(some 48), (.fa 2 (.tmp 5)), .ptr, none⟩,
  ⟨(some 49), (.fa 2 (.tmp 48)), .ptr, none⟩,
  ⟨(some 50), (.ld1 (.tmp 49)), (.int .i64), none⟩,
  ⟨(some 51), (.bld 45 (.fields [(0, 1), (1, 1)]) [(0, (.const (.bool true))), (1, (.tmp 50))]), .agg, none⟩,
  ⟨none, (.stN 2 (.tmp 6) (.tmp 51)), .any, none⟩,
  ⟨(some 7), (.mv (.const (.int .i64 0))), (.int .i64), none⟩] [6, 7])
 .ret)
 .skip))
 (.seq (.ops [⟨(some 52), (.bld 45 (.fields [(0, 1), (1, 1)]) []), .agg, none⟩,
  ⟨none, (.stN 2 (.tmp 6) (.tmp 52)), .any, none⟩,
  ⟨(some 7), (.mv (.const (.int .i64 0))), (.int .i64), none⟩] [6, 7])
 .ret)))))))))
def r19 : List Res := [.cN 6 2, .t 7]
def d19 (root0 : Array Value) (k1 : Array Value) (p2 : Array Value) (w : World) (R : Ending → World → Prop) : Prop :=
 ∀ w3 : World, w3 = World.alloc w (.cells root0 24) →
 ∀ w4 : World, w4 = World.alloc w3 (.cells k1 29) →
 ∀ w5 : World, w5 = World.alloc w4 (.cells p2 43) →
 ∀ w6 : World, w6 = World.alloc w5 (.cells (zc Tryd.prog 45).toArray 45) →
 ∃ cs7 : List Value, List.length cs7 = 2 ∧ Cells w6 ⟨World.heap w3 |>.size, 0, none⟩ cs7 ∧
 Calls Tryd.prog 57 #[(.agg (List.toArray cs7))] w6 fun e8 w9 => ∃ x10 : Int, e8 = .returned (.int .i64 x10) ∧
 (bif (!decide (x10 = 0)) then
 (∃ cs11, fillL (.fields [(0, 1), (1, 1)]) (zc Tryd.prog 45) [] = some cs11 ∧
 Array.size (List.toArray cs11) = 2 ∧ (∀ u ∈ Array.toList (List.toArray cs11), one u = true) ∧ Room w9 ⟨World.heap w5 |>.size, 0, none⟩ 2 ∧
 ∀ w12 : World, w12 = setCells w9 ⟨World.heap w5 |>.size, 0, none⟩ (Array.toList (List.toArray cs11)) 0 →
 ∃ cs13 : List Value, List.length cs13 = 2 ∧ Cells w12 ⟨World.heap w5 |>.size, 0, none⟩ cs13 ∧
 R (.returned (.tuple #[(.agg (List.toArray cs13)), (.int .i64 20)])) w12)
 else
 (∃ cs14 : List Value, List.length cs14 = 2 ∧ Cells w9 ⟨World.heap w3 |>.size, 0, none⟩ cs14 ∧
 ∃ cs15 : List Value, List.length cs15 = 5 ∧ Cells w9 ⟨World.heap w4 |>.size, 0, none⟩ cs15 ∧
 Calls Tryd.prog 58 #[(.agg (List.toArray cs14)), (.agg (List.toArray cs15))] w9 fun e16 w17 => ∃ x18 : Bool, e16 = .returned (.bool x18) ∧
 (bif (!x18) then
 (∃ cs19, fillL (.fields [(0, 1), (1, 1)]) (zc Tryd.prog 45) [] = some cs19 ∧
 Array.size (List.toArray cs19) = 2 ∧ (∀ u ∈ Array.toList (List.toArray cs19), one u = true) ∧ Room w17 ⟨World.heap w5 |>.size, 0, none⟩ 2 ∧
 ∀ w20 : World, w20 = setCells w17 ⟨World.heap w5 |>.size, 0, none⟩ (Array.toList (List.toArray cs19)) 0 →
 ∃ cs21 : List Value, List.length cs21 = 2 ∧ Cells w20 ⟨World.heap w5 |>.size, 0, none⟩ cs21 ∧
 R (.returned (.tuple #[(.agg (List.toArray cs21)), (.int .i64 250)])) w20)
 else
 (∃ cs22 : List Value, List.length cs22 = 2 ∧ Cells w17 ⟨World.heap w3 |>.size, 0, none⟩ cs22 ∧
 ∃ cs23 : List Value, List.length cs23 = 5 ∧ Cells w17 ⟨World.heap w4 |>.size, 0, none⟩ cs23 ∧
 Calls Tryd.prog 20 #[(.agg (List.toArray cs22)), (.agg (List.toArray cs23))] w17 fun e24 w25 => ∃ (x26 : Option Addr) (x26n : Nat) (x26c : Nat), e24 = .returned (.slice x26 x26n x26c) ∧
 0 ≤ (IntKind.wrap .i64 (((x26n : Nat) : Int) - 1)) ∧ (IntKind.wrap .i64 (((x26n : Nat) : Int) - 1)) < ((x26n : Nat) : Int) ∧ optK x26 fun a27 =>
 ∃ cs28 : List Value, List.length cs28 = 69 ∧ Cells w25 (Addr.add a27 (Int.toNat (IntKind.wrap .i64 (((x26n : Nat) : Int) - 1)) * 69)) cs28 ∧
 Calls Tryd.prog 16 #[(.agg (List.toArray cs28))] w25 fun e29 w30 => ∃ x31 : Array Value, ∃ x32 : Int, e29 = .returned (.tuple #[(.agg x31), (.int .i64 x32)]) ∧
 ∃ x33 : Array Value, (#[(.agg x31), (.int .i64 x32)] : Array Value)[0]? = some (.agg x33) ∧
 ∃ x34 : Int, (#[(.agg x31), (.int .i64 x32)] : Array Value)[1]? = some (.int .i64 x34) ∧
 ∀ w35 : World, w35 = World.alloc w30 (.cells (zc Tryd.prog 24).toArray 24) →
 Array.size x33 = 32 ∧ (∀ u ∈ Array.toList x33, one u = true) ∧ Room w35 ⟨World.heap w30 |>.size, 0, none⟩ 32 ∧
 ∀ w36 : World, w36 = setCells w35 ⟨World.heap w30 |>.size, 0, none⟩ (Array.toList x33) 0 →
 ∃ cs37 : List Value, List.length cs37 = 32 ∧ Cells w36 ⟨World.heap w30 |>.size, 0, none⟩ cs37 ∧
 ∃ cs38 : List Value, List.length cs38 = 32 ∧ Cells w36 ⟨World.heap w |>.size, 0, none⟩ cs38 ∧
 ∃ q39 : Bool, Sem.run Tryd.prog (do eqGuard .neq 24 (.tmp 35) (.tmp 36) (.agg (List.toArray cs37)) (.agg (List.toArray cs38)); binOp .neq 24 (.agg (List.toArray cs37)) (.agg (List.toArray cs38))) w36 = .ok (.bool q39) w36 ∧
 (bif q39 then
 (∃ cs40, fillL (.fields [(0, 1), (1, 1)]) (zc Tryd.prog 45) [] = some cs40 ∧
 Array.size (List.toArray cs40) = 2 ∧ (∀ u ∈ Array.toList (List.toArray cs40), one u = true) ∧ Room w36 ⟨World.heap w5 |>.size, 0, none⟩ 2 ∧
 ∀ w41 : World, w41 = setCells w36 ⟨World.heap w5 |>.size, 0, none⟩ (Array.toList (List.toArray cs40)) 0 →
 ∃ cs42 : List Value, List.length cs42 = 2 ∧ Cells w41 ⟨World.heap w5 |>.size, 0, none⟩ cs42 ∧
 R (.returned (.tuple #[(.agg (List.toArray cs42)), (.int .i64 250)])) w41)
 else
 (∃ x43 : Bool, World.cell? w36 (Addr.add ⟨World.heap w4 |>.size, 0, none⟩ 1) = some (.bool x43) ∧
 (bif x43 then
 (∃ cs44 : List Value, List.length cs44 = 2 ∧ Cells w36 (Addr.add (Addr.add ⟨World.heap w4 |>.size, 0, none⟩ 2) 0) cs44 ∧
 ∃ cs45 : List Value, List.length cs45 = 2 ∧ Cells w36 ⟨World.heap w3 |>.size, 0, none⟩ cs45 ∧
 ∃ q46 : Bool, Sem.run Tryd.prog (do eqGuard .eql 29 (.tmp 44) (.tmp 45) (.agg (List.toArray cs44)) (.agg (List.toArray cs45)); binOp .eql 29 (.agg (List.toArray cs44)) (.agg (List.toArray cs45))) w36 = .ok (.bool q46) w36 ∧
 (bif q46 then
 (∃ x47 : Int, World.cell? w36 (Addr.add (Addr.add ⟨World.heap w4 |>.size, 0, none⟩ 2) 2) = some (.int .i64 x47) ∧
 ∃ cs48, fillL (.fields [(0, 1), (1, 1)]) (zc Tryd.prog 45) [(0, (.bool true)), (1, (.int .i64 x47))] = some cs48 ∧
 Array.size (List.toArray cs48) = 2 ∧ (∀ u ∈ Array.toList (List.toArray cs48), one u = true) ∧ Room w36 ⟨World.heap w5 |>.size, 0, none⟩ 2 ∧
 ∀ w49 : World, w49 = setCells w36 ⟨World.heap w5 |>.size, 0, none⟩ (Array.toList (List.toArray cs48)) 0 →
 ∃ cs50 : List Value, List.length cs50 = 2 ∧ Cells w49 ⟨World.heap w5 |>.size, 0, none⟩ cs50 ∧
 R (.returned (.tuple #[(.agg (List.toArray cs50)), (.int .i64 0)])) w49)
 else
 (∃ cs51, fillL (.fields [(0, 1), (1, 1)]) (zc Tryd.prog 45) [] = some cs51 ∧
 Array.size (List.toArray cs51) = 2 ∧ (∀ u ∈ Array.toList (List.toArray cs51), one u = true) ∧ Room w36 ⟨World.heap w5 |>.size, 0, none⟩ 2 ∧
 ∀ w52 : World, w52 = setCells w36 ⟨World.heap w5 |>.size, 0, none⟩ (Array.toList (List.toArray cs51)) 0 →
 ∃ cs53 : List Value, List.length cs53 = 2 ∧ Cells w52 ⟨World.heap w5 |>.size, 0, none⟩ cs53 ∧
 R (.returned (.tuple #[(.agg (List.toArray cs53)), (.int .i64 0)])) w52)))
 else
 (∃ cs54, fillL (.fields [(0, 1), (1, 1)]) (zc Tryd.prog 45) [] = some cs54 ∧
 Array.size (List.toArray cs54) = 2 ∧ (∀ u ∈ Array.toList (List.toArray cs54), one u = true) ∧ Room w36 ⟨World.heap w5 |>.size, 0, none⟩ 2 ∧
 ∀ w55 : World, w55 = setCells w36 ⟨World.heap w5 |>.size, 0, none⟩ (Array.toList (List.toArray cs54)) 0 →
 ∃ cs56 : List Value, List.length cs56 = 2 ∧ Cells w55 ⟨World.heap w5 |>.size, 0, none⟩ cs56 ∧
 R (.returned (.tuple #[(.agg (List.toArray cs56)), (.int .i64 0)])) w55))))))))
theorem e19 (root0 : Array Value) (k1 : Array Value) (p2 : Array Value) (w : World) (R : Ending → World → Prop) : denS Tryd.prog s19 (argsEnv 0 [(.agg root0), (.agg k1), (.agg p2)]) w (endK r19 R) = d19 root0 k1 p2 w R := by kernel_rfl
/-- prelude/preluderef24.Path -/
def s20 : S := (.seq (.ops [⟨(some 2), (.box 29 (.tmp 0)), .ptr, none⟩,
  ⟨(some 3), (.box 43 (.tmp 1)), .ptr, none⟩,
  ⟨(some 4), (.mv (.const (.slice none 0 0))), .sl, none⟩] [3, 2])
 (.seq (.ops [⟨(some 12), (.bld 33 (.fields [(0, 1), (1, 1), (2, 32), (34, 32), (66, 3)]) []), .agg, none⟩,
  ⟨(some 5), (.alloc 33), .ptr, none⟩,
  ⟨none, (.stN 69 (.tmp 5) (.tmp 12)), .any, none⟩] [3, 5, 2])
 (.join [] [2, 3, 5]
 (.seq (.ops [⟨(some 13), (.fa 1 (.tmp 3)), .ptr, none⟩,
  ⟨(some 14), (.ld1 (.tmp 13)), .bool, none⟩] [14, 3, 5, 2])
 (.cond (.tmp 14)
 (.ops [⟨(some 15), (.fa 2 (.tmp 3)), .ptr, none⟩,
  ⟨(some 16), (.ldN 3 (.tmp 15)), .agg, none⟩,
  ⟨(some 17), (.bld 33 (.fields [(0, 1), (1, 1), (2, 32), (34, 32), (66, 3)]) [(0, (.const (.int .i64 1))), (4, (.tmp 16))]), .agg, none⟩,
  ⟨none, (.stN 69 (.tmp 5) (.tmp 17)), .any, none⟩] [5, 3, 2])
 .skip))
 (.seq (.ops [⟨(some 18), (.ldN 69 (.tmp 5)), .agg, none⟩,
  ⟨(some 19), (.bldS 33 1 69 [(0, (.tmp 18))]), .sl, none⟩,
  ⟨(some 6), (.mv (.tmp 19)), .sl, none⟩] [5, 3, 2, 6])
 (.seq (.ops [⟨(some 21), (.ldN 69 (.tmp 5)), .agg, none⟩,
  ⟨(some 22), (.call 16 [(.tmp 21)] [.agg, (.int .i64)]), .any, none⟩,
  ⟨(some 20), (.mv (.tmp 22)), .any, none⟩,
  ⟨(some 23), (.ext 0 (.tmp 20)), .agg, none⟩,
  ⟨(some 24), (.ext 1 (.tmp 20)), (.int .i64), none⟩,
  ⟨(some 7), (.alloc 24), .ptr, none⟩,
  ⟨none, (.stN 32 (.tmp 7) (.tmp 23)), .any, none⟩,
  ⟨(some 8), (.mv (.tmp 24)), (.int .i64), none⟩] [3, 7, 2, 6])
 (.seq (.seq (.ops [⟨(some 25), (.fa 0 (.tmp 3)), .ptr, none⟩,
  ⟨(some 26), (.ld1 (.tmp 25)), .sl, none⟩,
  ⟨(some 27), (.len (.tmp 26)), (.int .i64), none⟩,
  ⟨(some 28), (.bin .sub (.tmp 27) (.const (.int .i64 1))), (.int .i64), none⟩,
  ⟨(some 9), (.mv (.tmp 28)), (.int .i64), none⟩] [9, 3, 7, 2, 6])
 (.block 0
 (.loop [(6, .sl), (9, (.int .i64))] [2, 3, 7]
 (.seq (.seq (.ops [⟨(some 29), (.mv (.tmp 9)), (.int .i64), none⟩,
  ⟨(some 30), (.bin .geq (.tmp 29) (.const (.int .i64 0))), .bool, none⟩] [30, 3, 9, 7, 2, 6])
 (.cond (.tmp 30)
 .skip
 (.exit 0)))
 (.seq (.block 1
 (.seq (.ops [⟨(some 33), (.fa 0 (.tmp 3)), .ptr, none⟩,
  ⟨(some 34), (.ld1 (.tmp 33)), .sl, none⟩,
  ⟨(some 35), (.mv (.tmp 9)), (.int .i64), none⟩,
  ⟨(some 36), (.ia 33 (.tmp 34) (.tmp 35)), .ptr, none⟩,
  ⟨(some 37), (.ldN 33 (.tmp 36)), .agg, none⟩,
  ⟨(some 10), (.alloc 51), .ptr, none⟩,
  ⟨none, (.stN 33 (.tmp 10) (.tmp 37)), .any, none⟩] [10, 7, 2, 6, 9, 3])
 (.seq (.ops [⟨(some 38), (.fa 0 (.tmp 10)), .ptr, none⟩,
  ⟨(some 39), (.ld1 (.tmp 38)), (.int .i64), none⟩,
  ⟨(some 40), (.ldN 32 (.tmp 7)), .agg, none⟩,
  ⟨(some 41), (.fa 1 (.tmp 10)), .ptr, none⟩,
  ⟨(some 42), (.ldN 32 (.tmp 41)), .agg, none⟩,
  ⟨(some 43), (.bld 33 (.fields [(0, 1), (1, 1), (2, 32), (34, 32), (66, 3)]) [(0, (.const (.int .i64 2))), (1, (.tmp 39)), (2, (.tmp 40)), (3, (.tmp 42))]), .agg, none⟩,
  ⟨(some 11), (.alloc 33), .ptr, none⟩,
  ⟨none, (.stN 69 (.tmp 11) (.tmp 43)), .any, none⟩] [2, 10, 11, 7, 6, 9, 3])
 (.join [] [2, 3, 6, 7, 9, 11]
 (.seq (.ops [⟨(some 44), (.ldN 2 (.tmp 2)), .agg, none⟩,
  ⟨(some 45), (.fa 0 (.tmp 10)), .ptr, none⟩,
  ⟨(some 46), (.ld1 (.tmp 45)), (.int .i64), none⟩,
  ⟨(some 47), (.call 59 [(.tmp 44), (.tmp 46)] [(.int .i64)]), (.int .i64), none⟩,
  ⟨(some 48), (.bin .eql (.tmp 47) (.const (.int .i64 1))), .bool, none⟩] [48, 10, 11, 7, 6, 9, 3, 2])
 (.cond (.tmp 48)
 (.seq (.ops [⟨(some 49), (.fa 1 (.tmp 10)), .ptr, none⟩,
  ⟨(some 50), (.ldN 32 (.tmp 49)), .agg, none⟩,
  ⟨(some 51), (.fa 2 (.tmp 11)), .ptr, none⟩,
  ⟨none, (.stN 32 (.tmp 51) (.tmp 50)), .any, none⟩] [7, 11, 6, 9, 3, 2])
 (.ops [⟨(some 52), (.ldN 32 (.tmp 7)), .agg, none⟩,
  ⟨(some 53), (.fa 34 (.tmp 11)), .ptr, none⟩,
  ⟨none, (.stN 32 (.tmp 53) (.tmp 52)), .any, none⟩] [6, 11, 7, 9, 3, 2]))
 .skip))
 (.seq (.ops [⟨(some 54), (.mv (.tmp 6)), .sl, none⟩,
  ⟨(some 55), (.ldN 69 (.tmp 11)), .agg, none⟩,
  ⟨(some 56), (.bldS 33 1 69 [(0, (.tmp 55))]), .sl, none⟩,
  ⟨(some 57), (.app #[52, 52] 52 (.tmp 54) (.tmp 56)), .sl, none⟩,
  ⟨(some 6), (.mv (.tmp 57)), .sl, none⟩] [11, 7, 9, 3, 2, 6])
 (.ops [⟨(some 59), (.ldN 69 (.tmp 11)), .agg, none⟩,
  ⟨(some 60), (.call 16 [(.tmp 59)] [.agg, (.int .i64)]), .any, none⟩,
  ⟨(some 58), (.mv (.tmp 60)), .any, none⟩,
  ⟨(some 61), (.ext 0 (.tmp 58)), .agg, none⟩,
  ⟨(some 62), (.ext 1 (.tmp 58)), (.int .i64), none⟩,
  ⟨none, (.stN 32 (.tmp 7) (.tmp 61)), .any, none⟩] [9, 3, 7, 2, 6]))))))
 (.ops [⟨(some 31), (.mv (.tmp 9)), (.int .i64), none⟩,
  ⟨(some 32), (.bin .sub (.tmp 31) (.const (.int .i64 1))), (.int .i64), none⟩,
  ⟨(some 9), (.mv (.tmp 32)), (.int .i64), none⟩] [9, 3, 7, 2, 6]))))))
 (.seq (.ops [⟨(some 63), (.mv (.tmp 6)), .sl, none⟩,
  ⟨(some 4), (.mv (.tmp 63)), .sl, none⟩] [4])
 .ret)))))))
def r20 : List Res := [.t 4]
def d20 (k0 : Array Value) (p1 : Array Value) (w : World) (R : Ending → World → Prop) : Prop :=
 ∀ w2 : World, w2 = World.alloc w (.cells k0 29) →
 ∀ w3 : World, w3 = World.alloc w2 (.cells p1 43) →
 ∃ cs4, fillL (.fields [(0, 1), (1, 1), (2, 32), (34, 32), (66, 3)]) (zc Tryd.prog 33) [] = some cs4 ∧
 ∀ w5 : World, w5 = World.alloc w3 (.cells (zc Tryd.prog 33).toArray 33) →
 Array.size (List.toArray cs4) = 69 ∧ (∀ u ∈ Array.toList (List.toArray cs4), one u = true) ∧ Room w5 ⟨World.heap w3 |>.size, 0, none⟩ 69 ∧
 ∀ w6 : World, w6 = setCells w5 ⟨World.heap w3 |>.size, 0, none⟩ (Array.toList (List.toArray cs4)) 0 →
 ∃ J7 : World → Prop,
 (∃ x8 : Bool, World.cell? w6 (Addr.add ⟨World.heap w2 |>.size, 0, none⟩ 1) = some (.bool x8) ∧
 (bif x8 then
 (∃ cs9 : List Value, List.length cs9 = 3 ∧ Cells w6 (Addr.add ⟨World.heap w2 |>.size, 0, none⟩ 2) cs9 ∧
 ∃ cs10, fillL (.fields [(0, 1), (1, 1), (2, 32), (34, 32), (66, 3)]) (zc Tryd.prog 33) [(0, (.int .i64 1)), (4, (.agg (List.toArray cs9)))] = some cs10 ∧
 Array.size (List.toArray cs10) = 69 ∧ (∀ u ∈ Array.toList (List.toArray cs10), one u = true) ∧ Room w6 ⟨World.heap w3 |>.size, 0, none⟩ 69 ∧
 ∀ w11 : World, w11 = setCells w6 ⟨World.heap w3 |>.size, 0, none⟩ (Array.toList (List.toArray cs10)) 0 →
 J7  w11)
 else
 (J7  w6))) ∧
 (∀ (w12 : World), J7  w12 →
 ∃ cs13 : List Value, List.length cs13 = 69 ∧ Cells w12 ⟨World.heap w3 |>.size, 0, none⟩ cs13 ∧
 ∃ cs14, fillL (.elems 69) (zrep (zc Tryd.prog 33) (1 * 69)) [(0, (.agg (List.toArray cs13)))] = some cs14 ∧
 ∀ w15 : World, w15 = World.alloc w12 (.cells (List.toArray cs14) 33) →
 ∃ cs16 : List Value, List.length cs16 = 69 ∧ Cells w15 ⟨World.heap w3 |>.size, 0, none⟩ cs16 ∧
 Calls Tryd.prog 16 #[(.agg (List.toArray cs16))] w15 fun e17 w18 => ∃ x19 : Array Value, ∃ x20 : Int, e17 = .returned (.tuple #[(.agg x19), (.int .i64 x20)]) ∧
 ∃ x21 : Array Value, (#[(.agg x19), (.int .i64 x20)] : Array Value)[0]? = some (.agg x21) ∧
 ∃ x22 : Int, (#[(.agg x19), (.int .i64 x20)] : Array Value)[1]? = some (.int .i64 x22) ∧
 ∀ w23 : World, w23 = World.alloc w18 (.cells (zc Tryd.prog 24).toArray 24) →
 Array.size x21 = 32 ∧ (∀ u ∈ Array.toList x21, one u = true) ∧ Room w23 ⟨World.heap w18 |>.size, 0, none⟩ 32 ∧
 ∀ w24 : World, w24 = setCells w23 ⟨World.heap w18 |>.size, 0, none⟩ (Array.toList x21) 0 →
 ∃ (x25 : Option Addr) (x25n : Nat) (x25c : Nat), World.cell? w24 (Addr.add ⟨World.heap w2 |>.size, 0, none⟩ 0) = some (.slice x25 x25n x25c) ∧
 ∃ I26 : Nat → Option Addr → Nat → Nat → Int → World → Prop,
 (∃ m, I26 m (some ⟨World.heap w12 |>.size, 0, none⟩) 1 1 (IntKind.wrap .i64 (((x25n : Nat) : Int) - 1)) w24) ∧
 (∀ (m27 : Nat) (w28 : World) (l29 : Option Addr) (l29n : Nat) (l29c : Nat) (i30 : Int), I26 m27 l29 l29n l29c i30 w28 →
 (bif (decide (0 ≤ i30)) then
 (∃ (x31 : Option Addr) (x31n : Nat) (x31c : Nat), World.cell? w28 (Addr.add ⟨World.heap w2 |>.size, 0, none⟩ 0) = some (.slice x31 x31n x31c) ∧
 0 ≤ i30 ∧ i30 < ((x31n : Nat) : Int) ∧ optK x31 fun a32 =>
 ∃ cs33 : List Value, List.length cs33 = 33 ∧ Cells w28 (Addr.add a32 (Int.toNat i30 * 33)) cs33 ∧
 ∀ w34 : World, w34 = World.alloc w28 (.cells (zc Tryd.prog 51).toArray 51) →
 Array.size (List.toArray cs33) = 33 ∧ (∀ u ∈ Array.toList (List.toArray cs33), one u = true) ∧ Room w34 ⟨World.heap w28 |>.size, 0, none⟩ 33 ∧
 ∀ w35 : World, w35 = setCells w34 ⟨World.heap w28 |>.size, 0, none⟩ (Array.toList (List.toArray cs33)) 0 →
 ∃ x36 : Int, World.cell? w35 (Addr.add ⟨World.heap w28 |>.size, 0, none⟩ 0) = some (.int .i64 x36) ∧
 ∃ cs37 : List Value, List.length cs37 = 32 ∧ Cells w35 ⟨World.heap w18 |>.size, 0, none⟩ cs37 ∧
 ∃ cs38 : List Value, List.length cs38 = 32 ∧ Cells w35 (Addr.add ⟨World.heap w28 |>.size, 0, none⟩ 1) cs38 ∧
 ∃ cs39, fillL (.fields [(0, 1), (1, 1), (2, 32), (34, 32), (66, 3)]) (zc Tryd.prog 33) [(0, (.int .i64 2)), (1, (.int .i64 x36)), (2, (.agg (List.toArray cs37))), (3, (.agg (List.toArray cs38)))] = some cs39 ∧
 ∀ w40 : World, w40 = World.alloc w35 (.cells (zc Tryd.prog 33).toArray 33) →
 Array.size (List.toArray cs39) = 69 ∧ (∀ u ∈ Array.toList (List.toArray cs39), one u = true) ∧ Room w40 ⟨World.heap w35 |>.size, 0, none⟩ 69 ∧
 ∀ w41 : World, w41 = setCells w40 ⟨World.heap w35 |>.size, 0, none⟩ (Array.toList (List.toArray cs39)) 0 →
 ∃ J42 : World → Prop,
 (∃ cs43 : List Value, List.length cs43 = 2 ∧ Cells w41 ⟨World.heap w |>.size, 0, none⟩ cs43 ∧
 ∃ x44 : Int, World.cell? w41 (Addr.add ⟨World.heap w28 |>.size, 0, none⟩ 0) = some (.int .i64 x44) ∧
 Calls Tryd.prog 59 #[(.agg (List.toArray cs43)), (.int .i64 x44)] w41 fun e45 w46 => ∃ x47 : Int, e45 = .returned (.int .i64 x47) ∧
 (bif (decide (x47 = 1)) then
 (∃ cs48 : List Value, List.length cs48 = 32 ∧ Cells w46 (Addr.add ⟨World.heap w28 |>.size, 0, none⟩ 1) cs48 ∧
 Array.size (List.toArray cs48) = 32 ∧ (∀ u ∈ Array.toList (List.toArray cs48), one u = true) ∧ Room w46 (Addr.add ⟨World.heap w35 |>.size, 0, none⟩ 2) 32 ∧
 ∀ w49 : World, w49 = setCells w46 (Addr.add ⟨World.heap w35 |>.size, 0, none⟩ 2) (Array.toList (List.toArray cs48)) 0 →
 ∃ cs50 : List Value, List.length cs50 = 32 ∧ Cells w49 ⟨World.heap w18 |>.size, 0, none⟩ cs50 ∧
 Array.size (List.toArray cs50) = 32 ∧ (∀ u ∈ Array.toList (List.toArray cs50), one u = true) ∧ Room w49 (Addr.add ⟨World.heap w35 |>.size, 0, none⟩ 34) 32 ∧
 ∀ w51 : World, w51 = setCells w49 (Addr.add ⟨World.heap w35 |>.size, 0, none⟩ 34) (Array.toList (List.toArray cs50)) 0 →
 J42  w51)
 else
 (J42  w46))) ∧
 (∀ (w52 : World), J42  w52 →
 ∃ cs53 : List Value, List.length cs53 = 69 ∧ Cells w52 ⟨World.heap w35 |>.size, 0, none⟩ cs53 ∧
 ∃ cs54, fillL (.elems 69) (zrep (zc Tryd.prog 33) (1 * 69)) [(0, (.agg (List.toArray cs53)))] = some cs54 ∧
 ∀ w55 : World, w55 = World.alloc w52 (.cells (List.toArray cs54) 33) →
 RunV Tryd.prog (Builtin.append_ #[52, 52] 52 #[(.slice l29 l29n l29c), (.slice (some ⟨World.heap w52 |>.size, 0, none⟩) 1 1)]) w55 fun v56 w57 => ∃ (x58 : Option Addr) (x58n : Nat) (x58c : Nat), v56 = (.slice x58 x58n x58c) ∧
 ∃ cs59 : List Value, List.length cs59 = 69 ∧ Cells w57 ⟨World.heap w35 |>.size, 0, none⟩ cs59 ∧
 Calls Tryd.prog 16 #[(.agg (List.toArray cs59))] w57 fun e60 w61 => ∃ x62 : Array Value, ∃ x63 : Int, e60 = .returned (.tuple #[(.agg x62), (.int .i64 x63)]) ∧
 ∃ x64 : Array Value, (#[(.agg x62), (.int .i64 x63)] : Array Value)[0]? = some (.agg x64) ∧
 ∃ x65 : Int, (#[(.agg x62), (.int .i64 x63)] : Array Value)[1]? = some (.int .i64 x65) ∧
 Array.size x64 = 32 ∧ (∀ u ∈ Array.toList x64, one u = true) ∧ Room w61 ⟨World.heap w18 |>.size, 0, none⟩ 32 ∧
 ∀ w66 : World, w66 = setCells w61 ⟨World.heap w18 |>.size, 0, none⟩ (Array.toList x64) 0 →
 ∃ m67, m67 < m27 ∧ I26 m67 x58 x58n x58c (IntKind.wrap .i64 (i30 - 1)) w66))
 else
 (R (.returned (.slice l29 l29n l29c)) w28))))
theorem e20 (k0 : Array Value) (p1 : Array Value) (w : World) (R : Ending → World → Prop) : denS Tryd.prog s20 (argsEnv 0 [(.agg k0), (.agg p1)]) w (endK r20 R) = d20 k0 p1 w R := by kernel_rfl
/-- prelude/preluderef24.formed -/
def s58 : S := (.seq (.ops [⟨(some 2), (.box 29 (.tmp 0)), .ptr, none⟩,
  ⟨(some 3), (.box 43 (.tmp 1)), .ptr, none⟩,
  ⟨(some 4), (.mv (.const (.bool false))), .bool, none⟩] [3, 2])
 (.seq (.seq (.ops [⟨(some 7), (.fa 1 (.tmp 3)), .ptr, none⟩,
  ⟨(some 8), (.ld1 (.tmp 7)), .bool, none⟩,
  ⟨(some 9), (.un .not (.tmp 8)), .bool, none⟩] [9, 3, 2])
 (.cond (.tmp 9)
 (.seq (.ops [⟨(some 10), (.fa 0 (.tmp 3)), .ptr, none⟩,
  ⟨(some 11), (.ld1 (.tmp 10)), .sl, none⟩,
  ⟨(some 12), (.len (.tmp 11)), (.int .i64), none⟩,
  ⟨(some 13), (.bin .eql (.tmp 12) (.const (.int .i64 0))), .bool, none⟩,
  ⟨(some 14), (.mv (.tmp 13)), .bool, none⟩,
  ⟨(some 15), (.fa 2 (.tmp 3)), .ptr, (some (14, true))⟩,
  ⟨(some 16), (.ldN 3 (.tmp 15)), .agg, (some (14, true))⟩,
  ⟨(some 17), (.bld 31 (.fields [(0, 2), (2, 1)]) []), .agg, (some (14, true))⟩,
  ⟨(some 18), (.eqG .eql 31 (.tmp 16) (.tmp 17)), .bool, (some (14, true))⟩,
  ⟨(some 19), (.pick (.tmp 14) (.tmp 18) (.const (.bool false))), .bool, none⟩,
  ⟨(some 4), (.mv (.tmp 19)), .bool, none⟩] [4])
 .ret)
 .skip))
 (.seq (.seq (.ops [⟨(some 20), (.fa 2 (.tmp 3)), .ptr, none⟩,
  ⟨(some 21), (.fa 0 (.tmp 20)), .ptr, none⟩,
  ⟨(some 22), (.ldN 2 (.tmp 21)), .agg, none⟩,
  ⟨(some 23), (.call 57 [(.tmp 22)] [(.int .i64)]), (.int .i64), none⟩,
  ⟨(some 24), (.bin .neq (.tmp 23) (.const (.int .i64 0))), .bool, none⟩] [24, 3, 2])
 (.cond (.tmp 24)
 (.seq (.ops [⟨(some 4), (.mv (.const (.bool false))), .bool, none⟩] [4])
 .ret)
 .skip))
 (.seq (.seq (.ops [⟨(some 5), (.mv (.const (.int .i64 0))), (.int .i64), none⟩] [5, 3, 2])
 (.block 0
 (.loop [(5, (.int .i64))] [2, 3]
 (.seq (.seq (.ops [⟨(some 25), (.mv (.tmp 5)), (.int .i64), none⟩,
  ⟨(some 26), (.fa 0 (.tmp 3)), .ptr, none⟩,
  ⟨(some 27), (.ld1 (.tmp 26)), .sl, none⟩,
  ⟨(some 28), (.len (.tmp 27)), (.int .i64), none⟩,
  ⟨(some 29), (.bin .lss (.tmp 25) (.tmp 28)), .bool, none⟩] [29, 3, 5, 2])
 (.cond (.tmp 29)
 .skip
 (.exit 0)))
 (.seq (.block 1
 (.seq (.ops [⟨(some 32), (.fa 0 (.tmp 3)), .ptr, none⟩,
  ⟨(some 33), (.ld1 (.tmp 32)), .sl, none⟩,
  ⟨(some 34), (.mv (.tmp 5)), (.int .i64), none⟩,
  ⟨(some 35), (.ia 33 (.tmp 33) (.tmp 34)), .ptr, none⟩,
  ⟨(some 36), (.fa 0 (.tmp 35)), .ptr, none⟩,
  ⟨(some 37), (.ld1 (.tmp 36)), (.int .i64), none⟩,
  ⟨(some 6), (.mv (.tmp 37)), (.int .i64), none⟩] [6, 5, 3, 2])
 (.seq (.draw (.take 0 ⟨(some 38), (.mv (.tmp 6)), (.int .i64), none⟩
  (.take 1 ⟨(some 39), (.bin .lss (.tmp 38) (.const (.int .i64 0))), .bool, none⟩
  (.take 2 ⟨(some 40), (.mv (.tmp 39)), .bool, none⟩
  (.take 3 ⟨(some 41), (.mv (.tmp 6)), (.int .i64), (some (40, false))⟩
  (.take 4 ⟨(some 42), (.bin .geq (.tmp 41) (.const (.int .i64 80))), .bool, (some (40, false))⟩
  (.take 5 ⟨(some 43), (.pick (.tmp 40) (.const (.bool true)) (.tmp 42)), .bool, none⟩
  (.take 6 ⟨(some 44), (.mv (.tmp 43)), .bool, none⟩
  (.take 7 ⟨(some 45), (.mv (.tmp 5)), (.int .i64), (some (44, false))⟩
  (.take 8 ⟨(some 46), (.bin .gtr (.tmp 45) (.const (.int .i64 0))), .bool, (some (44, false))⟩
  (.take 9 ⟨(some 47), (.mv (.tmp 46)), .bool, (some (44, false))⟩
  (.take 10 ⟨(some 48), (.fa 0 (.tmp 3)), .ptr, (some (47, true))⟩
  (.take 11 ⟨(some 49), (.ld1 (.tmp 48)), .sl, (some (47, true))⟩
  (.take 12 ⟨(some 50), (.mv (.tmp 5)), (.int .i64), (some (47, true))⟩
  (.take 13 ⟨(some 51), (.bin .sub (.tmp 50) (.const (.int .i64 1))), (.int .i64), (some (47, true))⟩
  (.take 14 ⟨(some 52), (.ia 33 (.tmp 49) (.tmp 51)), .ptr, (some (47, true))⟩
  (.take 15 ⟨(some 53), (.fa 0 (.tmp 52)), .ptr, (some (47, true))⟩
  (.take 16 ⟨(some 54), (.ld1 (.tmp 53)), (.int .i64), (some (47, true))⟩
  (.take 17 ⟨(some 55), (.mv (.tmp 6)), (.int .i64), (some (47, true))⟩
  (.take 18 ⟨(some 56), (.bin .geq (.tmp 54) (.tmp 55)), .bool, (some (47, true))⟩
  (.take 19 ⟨(some 57), (.pick (.tmp 47) (.tmp 56) (.const (.bool false))), .bool, (some (44, false))⟩
  (.take 20 ⟨(some 58), (.pick (.tmp 44) (.const (.bool true)) (.tmp 57)), .bool, none⟩
  (.take 21 ⟨(some 59), (.mv (.tmp 58)), .bool, none⟩
  (.take 22 ⟨(some 60), (.ldN 2 (.tmp 2)), .agg, (some (59, false))⟩
  (.take 23 ⟨(some 61), (.mv (.tmp 6)), (.int .i64), (some (59, false))⟩
  (.take 25 ⟨(some 63), (.fa 2 (.tmp 3)), .ptr, (some (59, false))⟩
  (.take 26 ⟨(some 64), (.fa 0 (.tmp 63)), .ptr, (some (59, false))⟩
  (.take 27 ⟨(some 65), (.ldN 2 (.tmp 64)), .agg, (some (59, false))⟩
  (.take 28 ⟨(some 66), (.mv (.tmp 6)), (.int .i64), (some (59, false))⟩
  (.go 24 ⟨(some 62), (.call 59 [(.tmp 60), (.tmp 61)] [(.int .i64)]), (.int .i64), (some (59, false))⟩ [(27, ⟨(some 65), (.ldN 2 (.tmp 64)), .agg, (some (59, false))⟩)]
  (.go 29 ⟨(some 67), (.call 59 [(.tmp 65), (.tmp 66)] [(.int .i64)]), (.int .i64), (some (59, false))⟩ []
  (.take 30 ⟨(some 68), (.bin .neq (.tmp 62) (.tmp 67)), .bool, (some (59, false))⟩
  (.take 31 ⟨(some 69), (.pick (.tmp 59) (.const (.bool true)) (.tmp 68)), .bool, none⟩
  .done)))))))))))))))))))))))))))))))) [69, 5, 3, 2])
 (.cond (.tmp 69)
 (.seq (.ops [⟨(some 4), (.mv (.const (.bool false))), .bool, none⟩] [4])
 .ret)
 .skip))))
 (.ops [⟨(some 30), (.mv (.tmp 5)), (.int .i64), none⟩,
  ⟨(some 31), (.bin .add (.tmp 30) (.const (.int .i64 1))), (.int .i64), none⟩,
  ⟨(some 5), (.mv (.tmp 31)), (.int .i64), none⟩] [5, 3, 2]))))))
 (.seq (.ops [⟨(some 4), (.mv (.const (.bool true))), .bool, none⟩] [4])
 .ret)))))
def r58 : List Res := [.t 4]
def d58 (k0 : Array Value) (p1 : Array Value) (w : World) (R : Ending → World → Prop) : Prop :=
 ∀ w2 : World, w2 = World.alloc w (.cells k0 29) →
 ∀ w3 : World, w3 = World.alloc w2 (.cells p1 43) →
 ∃ x4 : Bool, World.cell? w3 (Addr.add ⟨World.heap w2 |>.size, 0, none⟩ 1) = some (.bool x4) ∧
 (bif (!x4) then
 (∃ (x5 : Option Addr) (x5n : Nat) (x5c : Nat), World.cell? w3 (Addr.add ⟨World.heap w2 |>.size, 0, none⟩ 0) = some (.slice x5 x5n x5c) ∧
 (bif (decide (((x5n : Nat) : Int) = 0)) then
 (∃ cs6 : List Value, List.length cs6 = 3 ∧ Cells w3 (Addr.add ⟨World.heap w2 |>.size, 0, none⟩ 2) cs6 ∧
 ∃ cs7, fillL (.fields [(0, 2), (2, 1)]) (zc Tryd.prog 31) [] = some cs7 ∧
 ∃ q8 : Bool, Sem.run Tryd.prog (do eqGuard .eql 31 (.tmp 16) (.tmp 17) (.agg (List.toArray cs6)) (.agg (List.toArray cs7)); binOp .eql 31 (.agg (List.toArray cs6)) (.agg (List.toArray cs7))) w3 = .ok (.bool q8) w3 ∧
 R (.returned (.bool q8)) w3)
 else
 (R (.returned (.bool false)) w3)))
 else
 (∃ cs9 : List Value, List.length cs9 = 2 ∧ Cells w3 (Addr.add (Addr.add ⟨World.heap w2 |>.size, 0, none⟩ 2) 0) cs9 ∧
 Calls Tryd.prog 57 #[(.agg (List.toArray cs9))] w3 fun e10 w11 => ∃ x12 : Int, e10 = .returned (.int .i64 x12) ∧
 (bif (!decide (x12 = 0)) then
 (R (.returned (.bool false)) w11)
 else
 (∃ I13 : Nat → Int → World → Prop,
 (∃ m, I13 m 0 w11) ∧
 (∀ (m14 : Nat) (w15 : World) (i16 : Int), I13 m14 i16 w15 →
 ∃ (x17 : Option Addr) (x17n : Nat) (x17c : Nat), World.cell? w15 (Addr.add ⟨World.heap w2 |>.size, 0, none⟩ 0) = some (.slice x17 x17n x17c) ∧
 (bif (decide (i16 < ((x17n : Nat) : Int))) then
 (∃ (x18 : Option Addr) (x18n : Nat) (x18c : Nat), World.cell? w15 (Addr.add ⟨World.heap w2 |>.size, 0, none⟩ 0) = some (.slice x18 x18n x18c) ∧
 0 ≤ i16 ∧ i16 < ((x18n : Nat) : Int) ∧ optK x18 fun a19 =>
 ∃ x20 : Int, World.cell? w15 (Addr.add (Addr.add a19 (Int.toNat i16 * 33)) 0) = some (.int .i64 x20) ∧
 ∀ w21 : World, w21 = World.drew w15 →
 (bif (decide (x20 < 0)) then
 ((True) ∧
 R (.returned (.bool false)) w21)
 else
 ((bif (decide (80 ≤ x20)) then
 ((True) ∧
 R (.returned (.bool false)) w21)
 else
 ((bif (decide (0 < i16)) then
 (∃ (x22 : Option Addr) (x22n : Nat) (x22c : Nat), World.cell? w21 (Addr.add ⟨World.heap w2 |>.size, 0, none⟩ 0) = some (.slice x22 x22n x22c) ∧
 0 ≤ (IntKind.wrap .i64 (i16 - 1)) ∧ (IntKind.wrap .i64 (i16 - 1)) < ((x22n : Nat) : Int) ∧ optK x22 fun a23 =>
 ∃ x24 : Int, World.cell? w21 (Addr.add (Addr.add a23 (Int.toNat (IntKind.wrap .i64 (i16 - 1)) * 33)) 0) = some (.int .i64 x24) ∧
 (bif (decide (x20 ≤ x24)) then
 ((True) ∧
 R (.returned (.bool false)) w21)
 else
 (∃ cs25 : List Value, List.length cs25 = 2 ∧ Cells w21 ⟨World.heap w |>.size, 0, none⟩ cs25 ∧
 ∃ cs26 : List Value, List.length cs26 = 2 ∧ Cells w21 (Addr.add (Addr.add ⟨World.heap w2 |>.size, 0, none⟩ 2) 0) cs26 ∧
 Calls Tryd.prog 59 #[(.agg (List.toArray cs25)), (.int .i64 x20)] w21 fun e27 w28 => ∃ x29 : Int, e27 = .returned (.int .i64 x29) ∧
 (∃ cs30 : List Value, List.length cs30 = 2 ∧ Cells w28 (Addr.add (Addr.add ⟨World.heap w2 |>.size, 0, none⟩ 2) 0) cs30 ∧
 (((.agg (List.toArray cs30)) : Value) = (.agg (List.toArray cs26)) ∧ w28 = w28)) ∧
 Calls Tryd.prog 59 #[(.agg (List.toArray cs26)), (.int .i64 x20)] w28 fun e31 w32 => ∃ x33 : Int, e31 = .returned (.int .i64 x33) ∧
 (bif (!decide (x29 = x33)) then
 (R (.returned (.bool false)) w32)
 else
 (∃ m34, m34 < m14 ∧ I13 m34 (IntKind.wrap .i64 (i16 + 1)) w32)))))
 else
 (∃ cs35 : List Value, List.length cs35 = 2 ∧ Cells w21 ⟨World.heap w |>.size, 0, none⟩ cs35 ∧
 ∃ cs36 : List Value, List.length cs36 = 2 ∧ Cells w21 (Addr.add (Addr.add ⟨World.heap w2 |>.size, 0, none⟩ 2) 0) cs36 ∧
 Calls Tryd.prog 59 #[(.agg (List.toArray cs35)), (.int .i64 x20)] w21 fun e37 w38 => ∃ x39 : Int, e37 = .returned (.int .i64 x39) ∧
 (∃ cs40 : List Value, List.length cs40 = 2 ∧ Cells w38 (Addr.add (Addr.add ⟨World.heap w2 |>.size, 0, none⟩ 2) 0) cs40 ∧
 (((.agg (List.toArray cs40)) : Value) = (.agg (List.toArray cs36)) ∧ w38 = w38)) ∧
 Calls Tryd.prog 59 #[(.agg (List.toArray cs36)), (.int .i64 x20)] w38 fun e41 w42 => ∃ x43 : Int, e41 = .returned (.int .i64 x43) ∧
 (bif (!decide (x39 = x43)) then
 (R (.returned (.bool false)) w42)
 else
 (∃ m44, m44 < m14 ∧ I13 m44 (IntKind.wrap .i64 (i16 + 1)) w42)))))))))
 else
 (R (.returned (.bool true)) w15)))))))
theorem e58 (k0 : Array Value) (p1 : Array Value) (w : World) (R : Ending → World → Prop) : denS Tryd.prog s58 (argsEnv 0 [(.agg k0), (.agg p1)]) w (endK r58 R) = d58 k0 p1 w R := by kernel_rfl
/-- prelude/preluderef24.Bit -/
def s59 : S := (.seq (.ops [⟨(some 2), (.box 29 (.tmp 0)), .ptr, none⟩,
  ⟨(some 4), (.mv (.const (.int .i64 0))), (.int .i64), none⟩] [2, 1])
 (.seq (.ops [⟨(some 8), (.ldN 2 (.tmp 2)), .agg, none⟩,
  ⟨(some 9), (.call 72 [(.tmp 8)] [.sl, (.int .i64)]), .any, none⟩,
  ⟨(some 7), (.mv (.tmp 9)), .any, none⟩,
  ⟨(some 10), (.ext 0 (.tmp 7)), .sl, none⟩,
  ⟨(some 11), (.ext 1 (.tmp 7)), (.int .i64), none⟩,
  ⟨(some 5), (.mv (.tmp 10)), .sl, none⟩,
  ⟨(some 6), (.mv (.tmp 11)), (.int .i64), none⟩] [5, 1])
 (.seq (.ops [⟨(some 12), (.mv (.tmp 5)), .sl, none⟩,
  ⟨(some 13), (.mv (.tmp 1)), (.int .i64), none⟩,
  ⟨(some 14), (.bin .quo (.tmp 13) (.const (.int .i64 8))), (.int .i64), none⟩,
  ⟨(some 15), (.ia 1 (.tmp 12) (.tmp 14)), .ptr, none⟩,
  ⟨(some 16), (.ld1 (.tmp 15)), (.int .u8), none⟩,
  ⟨(some 17), (.mv (.tmp 1)), (.int .i64), none⟩,
  ⟨(some 18), (.bin .rem (.tmp 17) (.const (.int .i64 8))), (.int .i64), none⟩,
  ⟨(some 19), (.bin .sub (.const (.int .i64 7)) (.tmp 18)), (.int .i64), none⟩,
  ⟨(some 20), (.bin .shr (.tmp 16) (.tmp 19)), (.int .u8), none⟩,
  ⟨(some 21), (.cv .i64 (.tmp 20)), (.int .i64), none⟩,
  ⟨(some 22), (.bin .and (.tmp 21) (.const (.int .i64 1))), (.int .i64), none⟩,
  ⟨(some 4), (.mv (.tmp 22)), (.int .i64), none⟩] [4])
 .ret)))
def r59 : List Res := [.t 4]
theorem tr59 : trS Tryd.prog [] 23 (Tryd.f59.body.getD .skip) s59 = some s59 := by kernel_rfl
theorem den59 (args : List Value) (w : World) (R : Ending → World → Prop) (hn : args.length ≤ 23) (h : denS Tryd.prog s59 (argsEnv 0 args) w (endK r59 R)) : Calls Tryd.prog 59 args.toArray w R :=
  calls_of_den (pn := []) (fn := Tryd.f59) (c := Tryd.f59.body.getD .skip) Tryd.func59 (by kernel_rfl) (by rw [Tryd.ntmps59]; exact hn) (by rw [Tryd.ntmps59]; exact tr59) (by kernel_rfl) h
def d59 (k0 : Array Value) (n1 : Int) (w : World) (R : Ending → World → Prop) : Prop :=
 ∀ w2 : World, w2 = World.alloc w (.cells k0 29) →
 ∃ cs3 : List Value, List.length cs3 = 2 ∧ Cells w2 ⟨World.heap w |>.size, 0, none⟩ cs3 ∧
 Calls Tryd.prog 72 #[(.agg (List.toArray cs3))] w2 fun e4 w5 => ∃ (x6 : Option Addr) (x6n : Nat) (x6c : Nat), ∃ x7 : Int, e4 = .returned (.tuple #[(.slice x6 x6n x6c), (.int .i64 x7)]) ∧
 ∃ (x8 : Option Addr) (x8n : Nat) (x8c : Nat), (#[(.slice x6 x6n x6c), (.int .i64 x7)] : Array Value)[0]? = some (.slice x8 x8n x8c) ∧
 ∃ x9 : Int, (#[(.slice x6 x6n x6c), (.int .i64 x7)] : Array Value)[1]? = some (.int .i64 x9) ∧
 (8 : Int) ≠ 0 ∧ 0 ≤ (IntKind.wrap .i64 (Int.tdiv n1 8)) ∧ (IntKind.wrap .i64 (Int.tdiv n1 8)) < ((x8n : Nat) : Int) ∧ optK x8 fun a10 =>
 ∃ x11 : Int, World.cell? w5 (Addr.add a10 (Int.toNat (IntKind.wrap .i64 (Int.tdiv n1 8)) * 1)) = some (.int .u8 x11) ∧
 (8 : Int) ≠ 0 ∧ 0 ≤ (IntKind.wrap .i64 (7 - (Int.tmod n1 8))) ∧ R (.returned (.int .i64 (bAnd .i64 (IntKind.wrap .i64 (shR .u8 x11 (IntKind.wrap .i64 (7 - (Int.tmod n1 8))))) 1))) w5
theorem e59 (k0 : Array Value) (n1 : Int) (w : World) (R : Ending → World → Prop) : denS Tryd.prog s59 (argsEnv 0 [(.agg k0), (.int .i64 n1)]) w (endK r59 R) = d59 k0 n1 w R := by kernel_rfl
theorem c59 (k0 : Array Value) (n1 : Int) {w : World} {R : Ending → World → Prop} (h : d59 k0 n1 w R) : Calls Tryd.prog 59 #[(.agg k0), (.int .i64 n1)] w R :=
  den59 [(.agg k0), (.int .i64 n1)] w R (by simp) ((e59 k0 n1 w R).symm ▸ h)

/-- prelude/proof.bit -/
def s75 : S := (.seq (.ops [⟨(some 4), (.mv (.const (.int .u8 0))), (.int .u8), none⟩] [0, 1])
 (.seq (.ops [⟨(some 5), (.mv (.tmp 0)), .sl, none⟩,
  ⟨(some 6), (.mv (.tmp 1)), (.int .i64), none⟩,
  ⟨(some 7), (.bin .quo (.tmp 6) (.const (.int .i64 8))), (.int .i64), none⟩,
  ⟨(some 8), (.ia 1 (.tmp 5) (.tmp 7)), .ptr, none⟩,
  ⟨(some 9), (.ld1 (.tmp 8)), (.int .u8), none⟩,
  ⟨(some 10), (.mv (.tmp 1)), (.int .i64), none⟩,
  ⟨(some 11), (.bin .rem (.tmp 10) (.const (.int .i64 8))), (.int .i64), none⟩,
  ⟨(some 12), (.bin .sub (.const (.int .i64 7)) (.tmp 11)), (.int .i64), none⟩,
  ⟨(some 13), (.bin .shr (.tmp 9) (.tmp 12)), (.int .u8), none⟩,
  ⟨(some 14), (.bin .and (.tmp 13) (.const (.int .u8 1))), (.int .u8), none⟩,
  ⟨(some 4), (.mv (.tmp 14)), (.int .u8), none⟩] [4])
 .ret))
def r75 : List Res := [.t 4]
theorem tr75 : trS Tryd.prog [] 15 (Tryd.f75.body.getD .skip) s75 = some s75 := by kernel_rfl
theorem den75 (args : List Value) (w : World) (R : Ending → World → Prop) (hn : args.length ≤ 15) (h : denS Tryd.prog s75 (argsEnv 0 args) w (endK r75 R)) : Calls Tryd.prog 75 args.toArray w R :=
  calls_of_den (pn := []) (fn := Tryd.f75) (c := Tryd.f75.body.getD .skip) Tryd.func75 (by kernel_rfl) (by rw [Tryd.ntmps75]; exact hn) (by rw [Tryd.ntmps75]; exact tr75) (by kernel_rfl) h
def d75 (b0 : Option Addr) (b0n : Nat) (b0c : Nat) (n1 : Int) (w : World) (R : Ending → World → Prop) : Prop :=
 (8 : Int) ≠ 0 ∧ 0 ≤ (IntKind.wrap .i64 (Int.tdiv n1 8)) ∧ (IntKind.wrap .i64 (Int.tdiv n1 8)) < ((b0n : Nat) : Int) ∧ optK b0 fun a2 =>
 ∃ x3 : Int, World.cell? w (Addr.add a2 (Int.toNat (IntKind.wrap .i64 (Int.tdiv n1 8)) * 1)) = some (.int .u8 x3) ∧
 (8 : Int) ≠ 0 ∧ 0 ≤ (IntKind.wrap .i64 (7 - (Int.tmod n1 8))) ∧ R (.returned (.int .u8 (bAnd .u8 (shR .u8 x3 (IntKind.wrap .i64 (7 - (Int.tmod n1 8)))) 1))) w
theorem e75 (b0 : Option Addr) (b0n : Nat) (b0c : Nat) (n1 : Int) (w : World) (R : Ending → World → Prop) : denS Tryd.prog s75 (argsEnv 0 [(.slice b0 b0n b0c), (.int .i64 n1)]) w (endK r75 R) = d75 b0 b0n b0c n1 w R := by kernel_rfl
theorem c75 (b0 : Option Addr) (b0n : Nat) (b0c : Nat) (n1 : Int) {w : World} {R : Ending → World → Prop} (h : d75 b0 b0n b0c n1 w R) : Calls Tryd.prog 75 #[(.slice b0 b0n b0c), (.int .i64 n1)] w R :=
  den75 [(.slice b0 b0n b0c), (.int .i64 n1)] w R (by simp) ((e75 b0 b0n b0c n1 w R).symm ▸ h)

/-- slices.Backward[[]prelude/api.Fork,prelude/api.Fork] -/
def s74 : S := (.seq (.ops [⟨(some 1), (.box 41 (.tmp 0)), .ptr, none⟩,
  ⟨(some 2), (.mv (.const .nilFunc)), .any, none⟩] [1])
 (.seq (.ops [⟨(some 3), (.mkF (.func 88) [] [(.tmp 1)]), .any, none⟩,
  ⟨(some 2), (.mv (.tmp 3)), .any, none⟩] [2])
 .ret))
def r74 : List Res := [.t 2]
def d74 (s0 : Option Addr) (s0n : Nat) (s0c : Nat) (w : World) (R : Ending → World → Prop) : Prop :=
 ∀ w1 : World, w1 = World.alloc w (.cells #[(.slice s0 s0n s0c)] 41) →
 R (.returned (Value.func (.func 88) #[] #[(.pointer (some ⟨World.heap w |>.size, 0, none⟩))])) w1
theorem e74 (s0 : Option Addr) (s0n : Nat) (s0c : Nat) (w : World) (R : Ending → World → Prop) : denS Tryd.prog s74 (argsEnv 0 [(.slice s0 s0n s0c)]) w (endK r74 R) = d74 s0 s0n s0c w R := by kernel_rfl
/-- prelude/preludelaw24.ProofVerifies -/
def s5 : S := (.seq (.ops [⟨(some 3), (.box 24 (.tmp 0)), .ptr, none⟩,
  ⟨(some 4), (.box 29 (.tmp 1)), .ptr, none⟩,
  ⟨(some 5), (.box 43 (.tmp 2)), .ptr, none⟩,
  ⟨(some 6), (.mv (.const (.bool false))), .bool, none⟩] [3, 4, 5])
 (.seq (.ops [⟨(some 16), (.ldN 32 (.tmp 3)), .agg, none⟩,
  ⟨(some 17), (.ldN 2 (.tmp 4)), .agg, none⟩,
  ⟨(some 18), (.ldN 5 (.tmp 5)), .agg, none⟩,
  ⟨(some 19), (.call 18 [(.tmp 16), (.tmp 17), (.tmp 18)] [.agg, (.int .i64)]), .any, none⟩,
  ⟨(some 15), (.mv (.tmp 19)), .any, none⟩,
  ⟨(some 20), (.ext 0 (.tmp 15)), .agg, none⟩,
  ⟨(some 21), (.ext 1 (.tmp 15)), (.int .i64), none⟩,
  ⟨(some 7), (.alloc 45), .ptr, none⟩,
  ⟨none, (.stN 2 (.tmp 7) (.tmp 20)), .any, none⟩,
  ⟨(some 8), (.mv (.tmp 21)), (.int .i64), none⟩] [3, 4, 5, 7, 8])
 (.seq (.ops [⟨(some 23), (.ldN 32 (.tmp 3)), .agg, none⟩,
  ⟨(some 24), (.ldN 2 (.tmp 4)), .agg, none⟩,
  ⟨(some 25), (.ldN 5 (.tmp 5)), .agg, none⟩,
  ⟨(some 26), (.call 19 [(.tmp 23), (.tmp 24), (.tmp 25)] [.agg, (.int .i64)]), .any, none⟩,
  ⟨(some 22), (.mv (.tmp 26)), .any, none⟩,
  ⟨(some 27), (.ext 0 (.tmp 22)), .agg, none⟩,
  ⟨(some 28), (.ext 1 (.tmp 22)), (.int .i64), none⟩,
  ⟨(some 9), (.alloc 45), .ptr, none⟩,
  ⟨none, (.stN 2 (.tmp 9) (.tmp 27)), .any, none⟩,
  ⟨(some 10), (.mv (.tmp 28)), (.int .i64), none⟩] [7, 9, 8, 10, 4, 5])
 (.join [] [4, 5, 7, 9]
 (.seq (.ops [⟨(some 29), (.ldN 2 (.tmp 7)), .agg, none⟩,
  ⟨(some 30), (.ldN 2 (.tmp 9)), .agg, none⟩,
  ⟨(some 31), (.eqG .neq 45 (.tmp 29) (.tmp 30)), .bool, none⟩,
  ⟨(some 32), (.mv (.tmp 31)), .bool, none⟩,
  ⟨(some 33), (.mv (.tmp 8)), (.int .i64), (some (32, false))⟩,
  ⟨(some 34), (.call 17 [(.tmp 33)] [(.int .i64)]), (.int .i64), (some (32, false))⟩,
  ⟨(some 35), (.mv (.tmp 10)), (.int .i64), (some (32, false))⟩,
  ⟨(some 36), (.bin .neq (.tmp 34) (.tmp 35)), .bool, (some (32, false))⟩,
  ⟨(some 37), (.pick (.tmp 32) (.const (.bool true)) (.tmp 36)), .bool, none⟩] [37, 4, 5, 7, 9])
 (.cond (.tmp 37)
 (.seq (.ops [⟨(some 6), (.mv (.const (.bool false))), .bool, none⟩] [6])
 .ret)
 .skip))
 (.join [] [4, 5, 7, 9]
 (.seq (.ops [⟨(some 38), (.fa 0 (.tmp 4)), .ptr, none⟩,
  ⟨(some 39), (.ld1 (.tmp 38)), (.int .i64), none⟩,
  ⟨(some 40), (.bin .lss (.tmp 39) (.const (.int .i64 0))), .bool, none⟩,
  ⟨(some 41), (.mv (.tmp 40)), .bool, none⟩,
  ⟨(some 42), (.fa 0 (.tmp 4)), .ptr, (some (41, false))⟩,
  ⟨(some 43), (.ld1 (.tmp 42)), (.int .i64), (some (41, false))⟩,
  ⟨(some 44), (.bin .gtr (.tmp 43) (.const (.int .i64 65535))), .bool, (some (41, false))⟩,
  ⟨(some 45), (.pick (.tmp 41) (.const (.bool true)) (.tmp 44)), .bool, none⟩] [45, 5, 4, 7, 9])
 (.cond (.tmp 45)
 (.seq (.ops [⟨(some 6), (.mv (.const (.bool true))), .bool, none⟩] [6])
 .ret)
 .skip))
 (.seq (.seq (.ops [⟨(some 11), (.mv (.const (.int .i64 0))), (.int .i64), none⟩] [11, 5, 4, 7, 9])
 (.block 0
 (.loop [(11, (.int .i64))] [4, 5, 7, 9]
 (.seq (.seq (.ops [⟨(some 46), (.mv (.tmp 11)), (.int .i64), none⟩,
  ⟨(some 47), (.fa 0 (.tmp 5)), .ptr, none⟩,
  ⟨(some 48), (.ld1 (.tmp 47)), .sl, none⟩,
  ⟨(some 49), (.len (.tmp 48)), (.int .i64), none⟩,
  ⟨(some 50), (.bin .lss (.tmp 46) (.tmp 49)), .bool, none⟩] [50, 5, 11, 4, 7, 9])
 (.cond (.tmp 50)
 .skip
 (.exit 0)))
 (.seq (.block 1
 (.seq (.ops [⟨(some 53), (.fa 0 (.tmp 5)), .ptr, none⟩,
  ⟨(some 54), (.ld1 (.tmp 53)), .sl, none⟩,
  ⟨(some 55), (.mv (.tmp 11)), (.int .i64), none⟩,
  ⟨(some 56), (.ia 33 (.tmp 54) (.tmp 55)), .ptr, none⟩,
  ⟨(some 57), (.fa 0 (.tmp 56)), .ptr, none⟩,
  ⟨(some 58), (.ld1 (.tmp 57)), (.int .i64), none⟩,
  ⟨(some 59), (.bin .lss (.tmp 58) (.const (.int .i64 0))), .bool, none⟩,
  ⟨(some 60), (.mv (.tmp 59)), .bool, none⟩,
  ⟨(some 61), (.fa 0 (.tmp 5)), .ptr, (some (60, false))⟩,
  ⟨(some 62), (.ld1 (.tmp 61)), .sl, (some (60, false))⟩,
  ⟨(some 63), (.mv (.tmp 11)), (.int .i64), (some (60, false))⟩,
  ⟨(some 64), (.ia 33 (.tmp 62) (.tmp 63)), .ptr, (some (60, false))⟩,
  ⟨(some 65), (.fa 0 (.tmp 64)), .ptr, (some (60, false))⟩,
  ⟨(some 66), (.ld1 (.tmp 65)), (.int .i64), (some (60, false))⟩,
  ⟨(some 67), (.bin .geq (.tmp 66) (.const (.int .i64 80))), .bool, (some (60, false))⟩,
  ⟨(some 68), (.pick (.tmp 60) (.const (.bool true)) (.tmp 67)), .bool, none⟩] [68, 11, 5, 4, 7, 9])
 (.cond (.tmp 68)
 (.seq (.ops [⟨(some 6), (.mv (.const (.bool true))), .bool, none⟩] [6])
 .ret)
 .skip)))
 (.ops [⟨(some 51), (.mv (.tmp 11)), (.int .i64), none⟩,
  ⟨(some 52), (.bin .add (.tmp 51) (.const (.int .i64 1))), (.int .i64), none⟩,
  ⟨(some 11), (.mv (.tmp 52)), (.int .i64), none⟩] [11, 5, 4, 7, 9]))))))
 (.seq (.ops [⟨(some 69), (.ldN 2 (.tmp 4)), .agg, none⟩,
  ⟨(some 70), (.ldN 5 (.tmp 5)), .agg, none⟩,
  ⟨(some 71), (.call 20 [(.tmp 69), (.tmp 70)] [.sl]), .sl, none⟩,
  ⟨(some 12), (.mv (.tmp 71)), .sl, none⟩] [12, 4, 5, 7, 9])
 (.seq (.ops [⟨(some 73), (.mv (.tmp 12)), .sl, none⟩,
  ⟨(some 74), (.mv (.tmp 12)), .sl, none⟩,
  ⟨(some 75), (.len (.tmp 74)), (.int .i64), none⟩,
  ⟨(some 76), (.bin .sub (.tmp 75) (.const (.int .i64 1))), (.int .i64), none⟩,
  ⟨(some 77), (.ia 69 (.tmp 73) (.tmp 76)), .ptr, none⟩,
  ⟨(some 78), (.ldN 69 (.tmp 77)), .agg, none⟩,
  ⟨(some 79), (.call 16 [(.tmp 78)] [.agg, (.int .i64)]), .any, none⟩,
  ⟨(some 72), (.mv (.tmp 79)), .any, none⟩,
  ⟨(some 80), (.ext 0 (.tmp 72)), .agg, none⟩,
  ⟨(some 81), (.ext 1 (.tmp 72)), (.int .i64), none⟩,
  ⟨(some 13), (.alloc 24), .ptr, none⟩,
  ⟨none, (.stN 32 (.tmp 13) (.tmp 80)), .any, none⟩,
  ⟨(some 14), (.mv (.tmp 81)), (.int .i64), none⟩] [13, 4, 5, 7, 9])
 (.seq (.ops [⟨(some 83), (.ldN 32 (.tmp 13)), .agg, none⟩,
  ⟨(some 84), (.ldN 2 (.tmp 4)), .agg, none⟩,
  ⟨(some 85), (.ldN 5 (.tmp 5)), .agg, none⟩,
  ⟨(some 86), (.call 18 [(.tmp 83), (.tmp 84), (.tmp 85)] [.agg, (.int .i64)]), .any, none⟩,
  ⟨(some 82), (.mv (.tmp 86)), .any, none⟩,
  ⟨(some 87), (.ext 0 (.tmp 82)), .agg, none⟩,
  ⟨(some 88), (.ext 1 (.tmp 82)), (.int .i64), none⟩,
  ⟨none, (.stN 2 (.tmp 7) (.tmp 87)), .any, none⟩,
  ⟨(some 8), (.mv (.tmp 88)), (.int .i64), none⟩] [13, 4, 5, 9, 7, 8])
 (.seq (.ops [⟨(some 90), (.ldN 32 (.tmp 13)), .agg, none⟩,
  ⟨(some 91), (.ldN 2 (.tmp 4)), .agg, none⟩,
  ⟨(some 92), (.ldN 5 (.tmp 5)), .agg, none⟩,
  ⟨(some 93), (.call 19 [(.tmp 90), (.tmp 91), (.tmp 92)] [.agg, (.int .i64)]), .any, none⟩,
  ⟨(some 89), (.mv (.tmp 93)), .any, none⟩,
  ⟨(some 94), (.ext 0 (.tmp 89)), .agg, none⟩,
  ⟨(some 95), (.ext 1 (.tmp 89)), (.int .i64), none⟩,
  ⟨none, (.stN 2 (.tmp 9) (.tmp 94)), .any, none⟩,
  ⟨(some 10), (.mv (.tmp 95)), (.int .i64), none⟩] [7, 9, 8, 10])
 (.seq (.ops [⟨(some 96), (.ldN 2 (.tmp 7)), .agg, none⟩,
  ⟨(some 97), (.ldN 2 (.tmp 9)), .agg, none⟩,
  ⟨(some 98), (.eqG .eql 45 (.tmp 96) (.tmp 97)), .bool, none⟩,
  ⟨(some 99), (.mv (.tmp 98)), .bool, none⟩,
  ⟨(some 100), (.mv (.tmp 8)), (.int .i64), (some (99, true))⟩,
  ⟨(some 101), (.call 17 [(.tmp 100)] [(.int .i64)]), (.int .i64), (some (99, true))⟩,
  ⟨(some 102), (.mv (.tmp 10)), (.int .i64), (some (99, true))⟩,
  ⟨(some 103), (.bin .eql (.tmp 101) (.tmp 102)), .bool, (some (99, true))⟩,
  ⟨(some 104), (.pick (.tmp 99) (.tmp 103) (.const (.bool false))), .bool, none⟩,
  ⟨(some 6), (.mv (.tmp 104)), .bool, none⟩] [6])
 .ret)))))))))))
def r5 : List Res := [.t 6]
theorem tr5 : trS Tryd.prog [] 105 (Tryd.f5.body.getD .skip) s5 = some s5 := by kernel_rfl
theorem den5 (args : List Value) (w : World) (R : Ending → World → Prop) (hn : args.length ≤ 105) (h : denS Tryd.prog s5 (argsEnv 0 args) w (endK r5 R)) : Calls Tryd.prog 5 args.toArray w R :=
  calls_of_den (pn := []) (fn := Tryd.f5) (c := Tryd.f5.body.getD .skip) Tryd.func5 (by kernel_rfl) (by rw [Tryd.ntmps5]; exact hn) (by rw [Tryd.ntmps5]; exact tr5) (by kernel_rfl) h
def d5 (root0 : Array Value) (k1 : Array Value) (p2 : Array Value) (w : World) (R : Ending → World → Prop) : Prop :=
 ∀ w3 : World, w3 = World.alloc w (.cells root0 24) →
 ∀ w4 : World, w4 = World.alloc w3 (.cells k1 29) →
 ∀ w5 : World, w5 = World.alloc w4 (.cells p2 43) →
 ∃ cs6 : List Value, List.length cs6 = 32 ∧ Cells w5 ⟨World.heap w |>.size, 0, none⟩ cs6 ∧
 ∃ cs7 : List Value, List.length cs7 = 2 ∧ Cells w5 ⟨World.heap w3 |>.size, 0, none⟩ cs7 ∧
 ∃ cs8 : List Value, List.length cs8 = 5 ∧ Cells w5 ⟨World.heap w4 |>.size, 0, none⟩ cs8 ∧
 Calls Tryd.prog 18 #[(.agg (List.toArray cs6)), (.agg (List.toArray cs7)), (.agg (List.toArray cs8))] w5 fun e9 w10 => ∃ x11 : Array Value, ∃ x12 : Int, e9 = .returned (.tuple #[(.agg x11), (.int .i64 x12)]) ∧
 ∃ x13 : Array Value, (#[(.agg x11), (.int .i64 x12)] : Array Value)[0]? = some (.agg x13) ∧
 ∃ x14 : Int, (#[(.agg x11), (.int .i64 x12)] : Array Value)[1]? = some (.int .i64 x14) ∧
 ∀ w15 : World, w15 = World.alloc w10 (.cells (zc Tryd.prog 45).toArray 45) →
 Array.size x13 = 2 ∧ (∀ u ∈ Array.toList x13, one u = true) ∧ Room w15 ⟨World.heap w10 |>.size, 0, none⟩ 2 ∧
 ∀ w16 : World, w16 = setCells w15 ⟨World.heap w10 |>.size, 0, none⟩ (Array.toList x13) 0 →
 ∃ cs17 : List Value, List.length cs17 = 32 ∧ Cells w16 ⟨World.heap w |>.size, 0, none⟩ cs17 ∧
 ∃ cs18 : List Value, List.length cs18 = 2 ∧ Cells w16 ⟨World.heap w3 |>.size, 0, none⟩ cs18 ∧
 ∃ cs19 : List Value, List.length cs19 = 5 ∧ Cells w16 ⟨World.heap w4 |>.size, 0, none⟩ cs19 ∧
 Calls Tryd.prog 19 #[(.agg (List.toArray cs17)), (.agg (List.toArray cs18)), (.agg (List.toArray cs19))] w16 fun e20 w21 => ∃ x22 : Array Value, ∃ x23 : Int, e20 = .returned (.tuple #[(.agg x22), (.int .i64 x23)]) ∧
 ∃ x24 : Array Value, (#[(.agg x22), (.int .i64 x23)] : Array Value)[0]? = some (.agg x24) ∧
 ∃ x25 : Int, (#[(.agg x22), (.int .i64 x23)] : Array Value)[1]? = some (.int .i64 x25) ∧
 ∀ w26 : World, w26 = World.alloc w21 (.cells (zc Tryd.prog 45).toArray 45) →
 Array.size x24 = 2 ∧ (∀ u ∈ Array.toList x24, one u = true) ∧ Room w26 ⟨World.heap w21 |>.size, 0, none⟩ 2 ∧
 ∀ w27 : World, w27 = setCells w26 ⟨World.heap w21 |>.size, 0, none⟩ (Array.toList x24) 0 →
 ∃ J28 : World → Prop,
 (∃ cs29 : List Value, List.length cs29 = 2 ∧ Cells w27 ⟨World.heap w10 |>.size, 0, none⟩ cs29 ∧
 ∃ cs30 : List Value, List.length cs30 = 2 ∧ Cells w27 ⟨World.heap w21 |>.size, 0, none⟩ cs30 ∧
 ∃ q31 : Bool, Sem.run Tryd.prog (do eqGuard .neq 45 (.tmp 29) (.tmp 30) (.agg (List.toArray cs29)) (.agg (List.toArray cs30)); binOp .neq 45 (.agg (List.toArray cs29)) (.agg (List.toArray cs30))) w27 = .ok (.bool q31) w27 ∧
 (bif q31 then
 (R (.returned (.bool false)) w27)
 else
 (Calls Tryd.prog 17 #[(.int .i64 x14)] w27 fun e32 w33 => ∃ x34 : Int, e32 = .returned (.int .i64 x34) ∧
 (bif (!decide (x34 = x25)) then
 (R (.returned (.bool false)) w33)
 else
 (J28  w33))))) ∧
 (∀ (w35 : World), J28  w35 →
 ∃ J36 : World → Prop,
 (∃ x37 : Int, World.cell? w35 (Addr.add ⟨World.heap w3 |>.size, 0, none⟩ 0) = some (.int .i64 x37) ∧
 (bif (decide (x37 < 0)) then
 (R (.returned (.bool true)) w35)
 else
 (∃ x38 : Int, World.cell? w35 (Addr.add ⟨World.heap w3 |>.size, 0, none⟩ 0) = some (.int .i64 x38) ∧
 (bif (decide (65535 < x38)) then
 (R (.returned (.bool true)) w35)
 else
 (J36  w35))))) ∧
 (∀ (w39 : World), J36  w39 →
 ∃ I40 : Nat → Int → World → Prop,
 (∃ m, I40 m 0 w39) ∧
 (∀ (m41 : Nat) (w42 : World) (i43 : Int), I40 m41 i43 w42 →
 ∃ (x44 : Option Addr) (x44n : Nat) (x44c : Nat), World.cell? w42 (Addr.add ⟨World.heap w4 |>.size, 0, none⟩ 0) = some (.slice x44 x44n x44c) ∧
 (bif (decide (i43 < ((x44n : Nat) : Int))) then
 (∃ (x45 : Option Addr) (x45n : Nat) (x45c : Nat), World.cell? w42 (Addr.add ⟨World.heap w4 |>.size, 0, none⟩ 0) = some (.slice x45 x45n x45c) ∧
 0 ≤ i43 ∧ i43 < ((x45n : Nat) : Int) ∧ optK x45 fun a46 =>
 ∃ x47 : Int, World.cell? w42 (Addr.add (Addr.add a46 (Int.toNat i43 * 33)) 0) = some (.int .i64 x47) ∧
 (bif (decide (x47 < 0)) then
 (R (.returned (.bool true)) w42)
 else
 (∃ (x48 : Option Addr) (x48n : Nat) (x48c : Nat), World.cell? w42 (Addr.add ⟨World.heap w4 |>.size, 0, none⟩ 0) = some (.slice x48 x48n x48c) ∧
 0 ≤ i43 ∧ i43 < ((x48n : Nat) : Int) ∧ optK x48 fun a49 =>
 ∃ x50 : Int, World.cell? w42 (Addr.add (Addr.add a49 (Int.toNat i43 * 33)) 0) = some (.int .i64 x50) ∧
 (bif (decide (80 ≤ x50)) then
 (R (.returned (.bool true)) w42)
 else
 (∃ m51, m51 < m41 ∧ I40 m51 (IntKind.wrap .i64 (i43 + 1)) w42)))))
 else
 (∃ cs52 : List Value, List.length cs52 = 2 ∧ Cells w42 ⟨World.heap w3 |>.size, 0, none⟩ cs52 ∧
 ∃ cs53 : List Value, List.length cs53 = 5 ∧ Cells w42 ⟨World.heap w4 |>.size, 0, none⟩ cs53 ∧
 Calls Tryd.prog 20 #[(.agg (List.toArray cs52)), (.agg (List.toArray cs53))] w42 fun e54 w55 => ∃ (x56 : Option Addr) (x56n : Nat) (x56c : Nat), e54 = .returned (.slice x56 x56n x56c) ∧
 0 ≤ (IntKind.wrap .i64 (((x56n : Nat) : Int) - 1)) ∧ (IntKind.wrap .i64 (((x56n : Nat) : Int) - 1)) < ((x56n : Nat) : Int) ∧ optK x56 fun a57 =>
 ∃ cs58 : List Value, List.length cs58 = 69 ∧ Cells w55 (Addr.add a57 (Int.toNat (IntKind.wrap .i64 (((x56n : Nat) : Int) - 1)) * 69)) cs58 ∧
 Calls Tryd.prog 16 #[(.agg (List.toArray cs58))] w55 fun e59 w60 => ∃ x61 : Array Value, ∃ x62 : Int, e59 = .returned (.tuple #[(.agg x61), (.int .i64 x62)]) ∧
 ∃ x63 : Array Value, (#[(.agg x61), (.int .i64 x62)] : Array Value)[0]? = some (.agg x63) ∧
 ∃ x64 : Int, (#[(.agg x61), (.int .i64 x62)] : Array Value)[1]? = some (.int .i64 x64) ∧
 ∀ w65 : World, w65 = World.alloc w60 (.cells (zc Tryd.prog 24).toArray 24) →
 Array.size x63 = 32 ∧ (∀ u ∈ Array.toList x63, one u = true) ∧ Room w65 ⟨World.heap w60 |>.size, 0, none⟩ 32 ∧
 ∀ w66 : World, w66 = setCells w65 ⟨World.heap w60 |>.size, 0, none⟩ (Array.toList x63) 0 →
 ∃ cs67 : List Value, List.length cs67 = 32 ∧ Cells w66 ⟨World.heap w60 |>.size, 0, none⟩ cs67 ∧
 ∃ cs68 : List Value, List.length cs68 = 2 ∧ Cells w66 ⟨World.heap w3 |>.size, 0, none⟩ cs68 ∧
 ∃ cs69 : List Value, List.length cs69 = 5 ∧ Cells w66 ⟨World.heap w4 |>.size, 0, none⟩ cs69 ∧
 Calls Tryd.prog 18 #[(.agg (List.toArray cs67)), (.agg (List.toArray cs68)), (.agg (List.toArray cs69))] w66 fun e70 w71 => ∃ x72 : Array Value, ∃ x73 : Int, e70 = .returned (.tuple #[(.agg x72), (.int .i64 x73)]) ∧
 ∃ x74 : Array Value, (#[(.agg x72), (.int .i64 x73)] : Array Value)[0]? = some (.agg x74) ∧
 ∃ x75 : Int, (#[(.agg x72), (.int .i64 x73)] : Array Value)[1]? = some (.int .i64 x75) ∧
 Array.size x74 = 2 ∧ (∀ u ∈ Array.toList x74, one u = true) ∧ Room w71 ⟨World.heap w10 |>.size, 0, none⟩ 2 ∧
 ∀ w76 : World, w76 = setCells w71 ⟨World.heap w10 |>.size, 0, none⟩ (Array.toList x74) 0 →
 ∃ cs77 : List Value, List.length cs77 = 32 ∧ Cells w76 ⟨World.heap w60 |>.size, 0, none⟩ cs77 ∧
 ∃ cs78 : List Value, List.length cs78 = 2 ∧ Cells w76 ⟨World.heap w3 |>.size, 0, none⟩ cs78 ∧
 ∃ cs79 : List Value, List.length cs79 = 5 ∧ Cells w76 ⟨World.heap w4 |>.size, 0, none⟩ cs79 ∧
 Calls Tryd.prog 19 #[(.agg (List.toArray cs77)), (.agg (List.toArray cs78)), (.agg (List.toArray cs79))] w76 fun e80 w81 => ∃ x82 : Array Value, ∃ x83 : Int, e80 = .returned (.tuple #[(.agg x82), (.int .i64 x83)]) ∧
 ∃ x84 : Array Value, (#[(.agg x82), (.int .i64 x83)] : Array Value)[0]? = some (.agg x84) ∧
 ∃ x85 : Int, (#[(.agg x82), (.int .i64 x83)] : Array Value)[1]? = some (.int .i64 x85) ∧
 Array.size x84 = 2 ∧ (∀ u ∈ Array.toList x84, one u = true) ∧ Room w81 ⟨World.heap w21 |>.size, 0, none⟩ 2 ∧
 ∀ w86 : World, w86 = setCells w81 ⟨World.heap w21 |>.size, 0, none⟩ (Array.toList x84) 0 →
 ∃ cs87 : List Value, List.length cs87 = 2 ∧ Cells w86 ⟨World.heap w10 |>.size, 0, none⟩ cs87 ∧
 ∃ cs88 : List Value, List.length cs88 = 2 ∧ Cells w86 ⟨World.heap w21 |>.size, 0, none⟩ cs88 ∧
 ∃ q89 : Bool, Sem.run Tryd.prog (do eqGuard .eql 45 (.tmp 96) (.tmp 97) (.agg (List.toArray cs87)) (.agg (List.toArray cs88)); binOp .eql 45 (.agg (List.toArray cs87)) (.agg (List.toArray cs88))) w86 = .ok (.bool q89) w86 ∧
 (bif q89 then
 (Calls Tryd.prog 17 #[(.int .i64 x75)] w86 fun e90 w91 => ∃ x92 : Int, e90 = .returned (.int .i64 x92) ∧
 R (.returned (.bool (decide (x92 = x85)))) w91)
 else
 (R (.returned (.bool false)) w86)))))))
theorem e5 (root0 : Array Value) (k1 : Array Value) (p2 : Array Value) (w : World) (R : Ending → World → Prop) : denS Tryd.prog s5 (argsEnv 0 [(.agg root0), (.agg k1), (.agg p2)]) w (endK r5 R) = d5 root0 k1 p2 w R := by kernel_rfl
theorem c5 (root0 : Array Value) (k1 : Array Value) (p2 : Array Value) {w : World} {R : Ending → World → Prop} (h : d5 root0 k1 p2 w R) : Calls Tryd.prog 5 #[(.agg root0), (.agg k1), (.agg p2)] w R :=
  den5 [(.agg root0), (.agg k1), (.agg p2)] w R (by simp) ((e5 root0 k1 p2 w R).symm ▸ h)

end Go.Proofs.YtjkbjppopdfggaaDoor.Fn
namespace Go.Proofs.YtjkbjppopdfggaaDoor.Sha
open Go Den Fn
open Go.RowKit (Below)
set_option maxRecDepth 8000
set_option maxHeartbeats 1000000
structure Fk where
  bit : Int
  oth : List Int
def Fk.ok (f : Fk) : Prop := I64 f.bit ∧ f.oth.length = 32 ∧ Bytes f.oth
abbrev fkC (f : Fk) : List Value := .int .i64 f.bit :: u8 f.oth
structure Pf where
  fs : List Fk
  leaf : Bool
  t : Int
  r : Int
  v : Int
structure Pf.ok (p : Pf) : Prop where
  fs : ∀ f ∈ p.fs, f.ok
  t : I64 p.t
  r : I64 p.r
  v : I64 p.v
abbrev pfC (a : Option Addr) (n c : Nat) (p : Pf) : List Value := [.slice a n c, .bool p.leaf, .int .i64 p.t, .int .i64 p.r, .int .i64 p.v]
theorem fkC_len {l : List Fk} (h : ∀ f ∈ l, f.ok) : ∀ f ∈ l, (fkC f).length = 33 := fun f hf => by
  have := (h f hf).2.1
  simp [this]
/-- A proof in memory. -/
def PfAt (w : World) (a : Option Addr) (n c : Nat) (p : Pf) : Prop := p.ok ∧ RSl w 33 a n c (rows fkC p.fs)
theorem PfAt.quiet {w w' : World} {a : Option Addr} {n c : Nat} {p : Pf} (h : PfAt w a n c p) (ht : Tch [] w w') : PfAt w' a n c p := ⟨h.1, h.2.tch ht (fun _ _ h => by cases h)⟩
theorem PfAt.len {w : World} {a : Option Addr} {n c : Nat} {p : Pf} (h : PfAt w a n c p) : p.fs.length = n := h.2.count (fkC_len h.1.fs) (by omega)
/-- A bit of a key's bytes. -/
def bitS (b : List Int) (n : Int) : Int := bAnd .u8 (shR .u8 (b.getD (n / 8).toNat 0) (7 - n % 8)) 1
def Rk (n : Int) : Prop := 0 ≤ n ∧ n < 80
instance (n : Int) : Decidable (Rk n) := by unfold Rk; infer_instance
theorem tdm {n : Int} (h : Rk n) : IntKind.wrap .i64 (Int.tdiv n 8) = n / 8 ∧ IntKind.wrap .i64 (7 - Int.tmod n 8) = 7 - n % 8 ∧ 0 ≤ n / 8 ∧ n / 8 < 10 ∧ 0 ≤ n % 8 ∧ n % 8 < 8 := by
  unfold Rk at h
  obtain ⟨m, rfl⟩ := Int.eq_ofNat_of_zero_le h.1
  have e1 : Int.tdiv (m : Int) 8 = (m : Int) / 8 := Int.tdiv_eq_ediv_of_nonneg h.1
  have e2 : Int.tmod (m : Int) 8 = (m : Int) % 8 := Int.tmod_eq_emod_of_nonneg h.1
  rw [e1, e2]
  refine ⟨wrap_i64 (by omega) (by omega), wrap_i64 (by omega) (by omega), by omega, by omega, by omega, by omega⟩
theorem bit_c (w : World) (a : Option Addr) (c : Nat) (kb : List Int) (n : Int) (hr : RSl w 1 a 10 c (u8 kb)) (hn : Rk n) :
    Calls Tryd.prog 75 #[.slice a 10 c, .int .i64 n] w fun e w' => e = .returned (.int .u8 (bitS kb n)) ∧ w' = w := by
  obtain ⟨e1, e2, g1, g2, g3, g4⟩ := tdm hn
  refine c75 _ _ _ _ ?_
  unfold d75
  rw [e1, e2]
  refine ⟨by omega, g1, by omega, ?_⟩
  obtain ⟨b, o, rfl, hc⟩ := hr.int (i := (n / 8).toNat) (by omega)
  refine ⟨kb.getD (n / 8).toNat 0, by rw [add_mk, Nat.mul_one]; exact hc, by omega, by omega, rfl, rfl⟩
theorem and1_8 : ∀ m : Fin 256, bAnd .u8 (m.val : Int) 1 = bAnd .i64 (m.val : Int) 1 := by decide +kernel
theorem shR_u8 {x y : Int} (h0 : 0 ≤ x) (h1 : x < 256) (hy : 0 ≤ y ∧ y < 8) : 0 ≤ shR .u8 x y ∧ shR .u8 x y < 256 := by
  unfold shR
  generalize min y.toNat (IntKind.u8).bits = k
  have hp : (0 : Int) ≤ 2 ^ k := Int.pow_nonneg (by omega)
  rw [Int.fdiv_eq_ediv_of_nonneg _ hp]
  have h2 := Int.ediv_nonneg h0 hp
  have h3 := Int.ediv_le_self (2 ^ k) h0
  omega
theorem bitS_ref {kb : List Int} (hB : Bytes kb) {n : Int} (hn : Rk n) : bAnd .i64 (IntKind.wrap .i64 (shR .u8 (kb.getD (n / 8).toNat 0) (7 - n % 8))) 1 = bitS kb n := by
  obtain ⟨_, _, g1, g2, g3, g4⟩ := tdm hn
  have hx : 0 ≤ kb.getD (n / 8).toNat 0 ∧ kb.getD (n / 8).toNat 0 < 256 := by
    rw [List.getD_eq_getElem?_getD]
    cases h : kb[(n / 8).toNat]? with
    | none => simp
    | some x => exact hB x (List.mem_of_getElem? h)
  obtain ⟨h1, h2⟩ := shR_u8 hx.1 hx.2 (y := 7 - n % 8) (by omega)
  unfold bitS
  rw [wrap_i64 (by omega) (by omega)]
  generalize shR .u8 (kb.getD (n / 8).toNat 0) (7 - n % 8) = z at *
  obtain ⟨m, rfl⟩ := Int.eq_ofNat_of_zero_le h1
  exact (and1_8 ⟨m, by omega⟩).symm
theorem refBit_c (w : World) (t r n : Int) (hk : KeyOk t) (hn : Rk n) :
    Calls Tryd.prog 59 #[.agg (keyC t r).toArray, .int .i64 n] w fun e w' => e = .returned (.int .i64 (bitS (keyB t r) n)) ∧ Tch [] w w' := by
  obtain ⟨e1, e2, g1, g2, g3, g4⟩ := tdm hn
  refine c59 _ _ ?_
  unfold d59
  rintro w2 rfl
  have hK := Blk.fresh w (cs := keyC t r) 29 rfl
  have ht := (Tch.refl [] w).alloc (.cells (keyC t r).toArray 29)
  refine get_all hK rfl ?_
  refine (refBytes_c t r _).mono ?_
  rintro e w5 h
  rw [if_pos hk] at h
  obtain ⟨a, c, rfl, hown, ht5⟩ := h
  refine ⟨_, _, _, _, rfl, _, _, _, rfl, _, rfl, ?_⟩
  rw [e1, e2]
  refine ⟨by omega, g1, by omega, ?_⟩
  obtain ⟨b, o, rfl, hc⟩ := (own_rsl hown ones_ints).int (i := (n / 8).toNat) (by omega)
  refine ⟨(keyB t r).getD (n / 8).toNat 0, by rw [add_mk, Nat.mul_one]; exact hc, by omega, by omega, ?_⟩
  rw [bitS_ref (keyB_bytes _ _) hn]
  exact ⟨rfl, ht.trans ht5 (by simp)⟩
theorem put_one {u : World} {b : Nat} {v0 q : Value} (h : Blk u b [v0]) (h1 : one q = true) {K : World → Prop} (hK : ∀ u', Blk u' b [q] → Tch [b] u u' → K u') :
    one q = true ∧ Option.isSome (World.cell? u ⟨b, 0, none⟩) = true ∧ World.frozen? u ⟨b, 0, none⟩ = false ∧ ∀ w' : World, w' = World.setCell u ⟨b, 0, none⟩ q → K w' := by
  refine ⟨h1, by rw [h.cell]; rfl, h.frozen _, ?_⟩
  rintro w' rfl
  exact hK _ (h.set 0 q) ((Tch.refl [b] u).setCell (p := ⟨b, 0, none⟩) (.inl (by simp)) q)
/-- Ranks, and they rise: the first ones. -/
def RiseU (fs : List Fk) (n : Nat) : Prop := ∀ (i : Nat) (f : Fk), i < n → fs[i]? = some f → Rk f.bit ∧ ∀ g, 0 < i → fs[i - 1]? = some g → g.bit < f.bit
theorem RiseU.succ {fs : List Fk} {n : Nat} (h : RiseU fs n) {f : Fk} (hf : fs[n]? = some f) (h1 : Rk f.bit) (h2 : ∀ g, 0 < n → fs[n - 1]? = some g → g.bit < f.bit) : RiseU fs (n + 1) := fun i x hi hx => by
  by_cases e : i = n
  · subst e
    rw [hf] at hx
    cases hx
    exact ⟨h1, h2⟩
  · exact h i x (by omega) hx
end Go.Proofs.YtjkbjppopdfggaaDoor.Sha
namespace Go.Proofs.YtjkbjppopdfggaaDoor.Tre
open Go Den
/-! ### Bytes in their order -/
def val : List Int → Int
  | [] => 0
  | x :: l => x * 256 ^ l.length + val l
theorem val_range : ∀ {l : List Int}, Lib.Bytes l → 0 ≤ val l ∧ val l < 256 ^ l.length
  | [], _ => by simp [val]
  | x :: l, h => by
    obtain ⟨h1, h2⟩ := val_range (l := l) fun y hy => h y (by simp [hy])
    obtain ⟨h3, h4⟩ := h x (by simp)
    have hp : (0 : Int) < 256 ^ l.length := Int.pow_pos (by omega)
    have e : (256 : Int) ^ (l.length + 1) = 256 * 256 ^ l.length := by rw [Int.pow_succ, Int.mul_comm]
    rw [val, List.length_cons, e]
    have h5 : 0 ≤ x * 256 ^ l.length := Int.mul_nonneg h3 (by omega)
    have h6 : x * 256 ^ l.length ≤ 255 * 256 ^ l.length := Int.mul_le_mul_of_nonneg_right (by omega) (by omega)
    constructor <;> omega
/-- Of two rows of bytes the one of less value is less at the first place where they differ. -/
theorem lex_of_val : ∀ {a b : List Int}, Lib.Bytes a → Lib.Bytes b → a.length = b.length → val a < val b → ∃ i, i < a.length ∧ (∀ j, j < i → a.getD j 0 = b.getD j 0) ∧ a.getD i 0 < b.getD i 0
  | [], [], _, _, _, h => by simp [val] at h
  | [], _ :: _, _, _, h, _ => by simp at h
  | _ :: _, [], _, _, h, _ => by simp at h
  | x :: l, y :: m, ha, hb, hl, h => by
    have hl' : l.length = m.length := by simpa using hl
    obtain ⟨h1, h2⟩ := val_range (l := l) fun z hz => ha z (by simp [hz])
    obtain ⟨h3, h4⟩ := val_range (l := m) fun z hz => hb z (by simp [hz])
    rw [val, val, ← hl'] at h
    rw [← hl'] at h4
    have hp : (0 : Int) < 256 ^ l.length := Int.pow_pos (by omega)
    rcases Int.lt_trichotomy x y with hlt | he | hgt
    · exact ⟨0, by simp, by omega, by simpa using hlt⟩
    · subst he
      obtain ⟨i, g1, g2, g3⟩ := lex_of_val (fun z hz => ha z (by simp [hz])) (fun z hz => hb z (by simp [hz])) hl' (by omega)
      refine ⟨i + 1, by simp; omega, fun j hj => ?_, by simpa using g3⟩
      cases j with
      | zero => rfl
      | succ j => simpa using g2 j (by omega)
    · exfalso
      have : (y + 1) * 256 ^ l.length ≤ x * 256 ^ l.length := Int.mul_le_mul_of_nonneg_right (by omega) (by omega)
      rw [Int.add_mul] at this
      omega
theorem val_foldl : ∀ (l : List Int) (u : Int), l.foldl (fun u x => u * 256 + x) u = u * 256 ^ l.length + val l
  | [], u => by simp [val]
  | x :: l, u => by
    rw [List.foldl_cons, val_foldl l, val, List.length_cons, Int.add_mul, Int.mul_assoc, Int.pow_succ, Int.mul_comm (256 ^ l.length) 256]
    omega
theorem val_beU (l : List Int) : val l = Lib.beU l := by
  rw [Lib.beU, val_foldl]
  omega
theorem rowU_val {r : Int} (h : Lib.I64 r) : Lib.rowU r = r + 9223372036854775808 := by
  unfold Lib.I64 at h
  unfold Lib.rowU
  by_cases h0 : 0 ≤ r
  · rw [wrap_u64 h0 (by omega), Lib.xor63 h0 (by omega), if_pos (by omega)]
  · have e : IntKind.wrap .u64 r = r + 18446744073709551616 := by rw [wrap_u64_eq]; omega
    rw [e, Lib.xor63 (by omega) (by omega), if_neg (by omega)]
    omega
theorem val_key {t r : Int} (ht : Lib.KeyOk t) (hr : Lib.I64 r) : val (Lib.keyB t r) = t * 18446744073709551616 + (r + 9223372036854775808) := by
  have hu := Lib.rowU_range r
  have e8 : val (Lib.be8 (Lib.rowU r)) = Lib.rowU r := by rw [val_beU, Lib.beU_be8 hu.1 hu.2]
  have hlo : IntKind.wrap .u8 t = t % 256 := by rw [wrap_u8_eq]
  unfold Lib.keyB
  rw [Lib.hi_byte ht, hlo]
  show t / 256 * 256 ^ (Lib.be8 (Lib.rowU r)).length.succ + (t % 256 * 256 ^ (Lib.be8 (Lib.rowU r)).length + val (Lib.be8 (Lib.rowU r))) = _
  rw [e8, Lib.be8_length, rowU_val hr]
  have p9 : (256 : Int) ^ Nat.succ 8 = 4722366482869645213696 := by decide
  have p8 : (256 : Int) ^ 8 = 18446744073709551616 := by decide
  rw [p9, p8]
  omega

/-! ### Bits -/
theorem bitv : ∀ m : Fin 256, ∀ s : Fin 8, bAnd .u8 (shR .u8 (m.val : Int) (s.val : Int)) 1 = ((m.val / 2 ^ s.val % 2 : Nat) : Int) := by decide +kernel
/-- A bit of bytes, as a number. -/
theorem bit_nat {kb : List Int} (hB : Lib.Bytes kb) {i k : Nat} (hk : k < 8) : Sha.bitS kb ((8 * i + k : Nat) : Int) = (((kb.getD i 0).toNat / 2 ^ (7 - k) % 2 : Nat) : Int) := by
  have e1 : (((8 * i + k : Nat) : Int) / 8).toNat = i := by omega
  have e2 : (7 : Int) - ((8 * i + k : Nat) : Int) % 8 = ((7 - k : Nat) : Int) := by omega
  unfold Sha.bitS
  rw [e1, e2]
  have hx := Lib.byte_of hB i
  generalize kb.getD i 0 = x at *
  obtain ⟨m, rfl⟩ := Int.eq_ofNat_of_zero_le hx.1
  exact bitv ⟨m, by omega⟩ ⟨7 - k, by omega⟩
/-- Of two unlike bytes: the highest place where they differ. -/
theorem top_diff {x y : Nat} (hx : x < 256) (hy : y < 256) (hne : x ≠ y) : ∃ s, s < 8 ∧ x / 2 ^ s ≠ y / 2 ^ s ∧ ∀ s', s < s' → x / 2 ^ s' = y / 2 ^ s' := by
  have high : ∀ s, 8 ≤ s → x / 2 ^ s = y / 2 ^ s := fun s hs => by
    have : 2 ^ 8 ≤ 2 ^ s := Nat.pow_le_pow_right (by omega) hs
    rw [Nat.div_eq_of_lt (by omega), Nat.div_eq_of_lt (by omega)]
  have go : ∀ j, j ≤ 8 → (∀ s, j ≤ s → x / 2 ^ s = y / 2 ^ s) → ∃ s, s < 8 ∧ x / 2 ^ s ≠ y / 2 ^ s ∧ ∀ s', s < s' → x / 2 ^ s' = y / 2 ^ s' := by
    intro j
    induction j with
    | zero => intro _ h; exact absurd (by simpa using h 0 (Nat.le_refl _)) hne
    | succ j ih =>
      intro hj h
      by_cases e : x / 2 ^ j = y / 2 ^ j
      · refine ih (by omega) fun s hs => ?_
        by_cases es : s = j
        · subst es; exact e
        · exact h s (by omega)
      · exact ⟨j, by omega, e, fun s' hs' => h s' (by omega)⟩
  exact go 8 (Nat.le_refl _) high
/-- Where it is, and which way. -/
theorem top_less {x y : Nat} (hy : y < 256) (hlt : x < y) : ∃ s, s < 8 ∧ x / 2 ^ s % 2 = 0 ∧ y / 2 ^ s % 2 = 1 ∧ y / 2 ^ s = x / 2 ^ s + 1 ∧ ∀ s', s < s' → x / 2 ^ s' = y / 2 ^ s' := by
  obtain ⟨s, h1, h2, h3⟩ := top_diff (x := x) (y := y) (by omega) hy (by omega)
  have hle : x / 2 ^ s ≤ y / 2 ^ s := Nat.div_le_div_right (by omega)
  have hn := h3 (s + 1) (by omega)
  rw [Nat.pow_succ, ← Nat.div_div_eq_div_mul, ← Nat.div_div_eq_div_mul] at hn
  refine ⟨s, h1, ?_, ?_, ?_, h3⟩
  all_goals
    generalize x / 2 ^ s = p at *
    generalize y / 2 ^ s = q at *
    omega

/-- The first bit in which two rows of bytes differ. -/
def Fst (a b : List Int) (n : Nat) : Prop := n < 80 ∧ Sha.bitS a n ≠ Sha.bitS b n ∧ ∀ m, m < n → Sha.bitS a m = Sha.bitS b m
theorem Fst.unique {a b : List Int} {n m : Nat} (h : Fst a b n) (g : Fst a b m) : n = m := by
  rcases Nat.lt_trichotomy n m with hl | he | hg
  · exact absurd (g.2.2 n hl) h.2.1
  · exact he
  · exact absurd (h.2.2 m hg) g.2.1
/-- Bytes that are less at the first place where they differ: the first bit. -/
theorem fst_of {a b : List Int} (hA : Lib.Bytes a) (hB : Lib.Bytes b) {i : Nat} (hi : i < 10) (heq : ∀ j, j < i → a.getD j 0 = b.getD j 0) {s : Nat} (hs : s < 8) (hne : (a.getD i 0).toNat / 2 ^ s % 2 ≠ (b.getD i 0).toNat / 2 ^ s % 2) (hup : ∀ s', s < s' → (a.getD i 0).toNat / 2 ^ s' = (b.getD i 0).toNat / 2 ^ s') : Fst a b (8 * i + (7 - s)) := by
  refine ⟨by omega, fun h => ?_, fun m hm => ?_⟩
  · rw [bit_nat hA (by omega), bit_nat hB (by omega), show 7 - (7 - s) = s by omega] at h
    exact hne (by omega)
  · have e : m = 8 * (m / 8) + m % 8 := by omega
    rw [e, bit_nat hA (by omega), bit_nat hB (by omega)]
    by_cases hmi : m / 8 < i
    · rw [heq _ hmi]
    · have : m / 8 = i := by omega
      rw [this, hup (7 - m % 8) (by omega)]
/-- Keys in their order part at a bit: the less has it not set. -/
theorem key_bits {a b : Int × Int} (ha : Lib.KeyOk a.1 ∧ Lib.I64 a.2) (hb : Lib.KeyOk b.1 ∧ Lib.I64 b.2) (h : Lib.cmpK a b < 0) : ∃ n, Fst (Lib.keyB a.1 a.2) (Lib.keyB b.1 b.2) n ∧ Sha.bitS (Lib.keyB a.1 a.2) n = 0 ∧ Sha.bitS (Lib.keyB b.1 b.2) n = 1 := by
  have hA := Lib.keyB_bytes a.1 a.2
  have hB := Lib.keyB_bytes b.1 b.2
  have hv : val (Lib.keyB a.1 a.2) < val (Lib.keyB b.1 b.2) := by
    rw [val_key ha.1 ha.2, val_key hb.1 hb.2]
    have h1 := ha.2
    have h2 := hb.2
    unfold Lib.I64 at h1 h2
    rcases cmpK_neg.1 h with h | h <;> omega
  obtain ⟨i, h1, h2, h3⟩ := lex_of_val hA hB (by rw [Lib.keyB_length, Lib.keyB_length]) hv
  rw [Lib.keyB_length] at h1
  have hxa := Lib.byte_of hA i
  have hxb := Lib.byte_of hB i
  obtain ⟨s, g1, g2, g3, _, g5⟩ := top_less (x := ((Lib.keyB a.1 a.2).getD i 0).toNat) (y := ((Lib.keyB b.1 b.2).getD i 0).toNat) (by omega) (by omega)
  refine ⟨8 * i + (7 - s), fst_of hA hB h1 h2 g1 (by omega) g5, ?_, ?_⟩
  · rw [bit_nat hA (by omega), show 7 - (7 - s) = s by omega, g2]; rfl
  · rw [bit_nat hB (by omega), show 7 - (7 - s) = s by omega, g3]; rfl
end Go.Proofs.YtjkbjppopdfggaaDoor.Tre
