/-
  THE CODE of some functions of the given program, resolved, and proved to ask what the readable texts (d..) say; contracts c.. follow. Printed by a small program of mine.
-/
import Derived.Test.YtjchneebdlncfaaDenWords8
import Derived.Test.YtjchneebdlncfaaProg
set_option maxRecDepth 100000
namespace Go.Proofs.Ytjchneebdlncfaa.Fn
open Go Den
/-- prelude/merge.New -/
def s10 : S := (.seq (.ops [⟨(some 4), (.mv (.const (.pointer none))), .ptr, none⟩,
  ⟨(some 5), (.mv (.const (.int .i64 0))), (.int .i64), none⟩] [0, 1])
 (.join [] [0, 1]
 (.seq (.ops [⟨(some 6), (.mv (.tmp 0)), (.int .i64), none⟩,
  ⟨(some 7), (.bin .lss (.tmp 6) (.const (.int .i64 1))), .bool, none⟩,
  ⟨(some 8), (.mv (.tmp 7)), .bool, none⟩,
  ⟨(some 9), (.mv (.tmp 0)), (.int .i64), (some (8, false))⟩,
  ⟨(some 10), (.bin .gtr (.tmp 9) (.const (.int .i64 16))), .bool, (some (8, false))⟩,
  ⟨(some 11), (.pick (.tmp 8) (.const (.bool true)) (.tmp 10)), .bool, none⟩] [11, 1, 0])
 (.cond (.tmp 11)
 (.seq (.ops [⟨(some 4), (.mv (.const (.pointer none))), .ptr, none⟩,
  ⟨(some 5), (.mv (.const (.int .i64 260))), (.int .i64), none⟩] [4, 5])
 .ret)
 .skip))
 (.seq (.seq (.ops [⟨(some 12), (.mv (.tmp 1)), (.int .i64), none⟩,
  ⟨(some 13), (.call 35 [(.tmp 12)] [.bool]), .bool, none⟩,
  ⟨(some 14), (.un .not (.tmp 13)), .bool, none⟩] [14, 0, 1])
 (.cond (.tmp 14)
 (.seq (.ops [⟨(some 4), (.mv (.const (.pointer none))), .ptr, none⟩,
  ⟨(some 5), (.mv (.const (.int .i64 262))), (.int .i64), none⟩] [4, 5])
 .ret)
 .skip))
 (.seq (.ops [⟨(some 15), (.mv (.tmp 0)), (.int .i64), none⟩,
  ⟨(some 16), (.mv (.tmp 1)), (.int .i64), none⟩,
  ⟨(some 17), (.mkM 93), .mp, none⟩,
  ⟨(some 18), (.bld 95 (.fields [(0, 1), (1, 1), (2, 1), (3, 1)]) [(0, (.tmp 15)), (1, (.tmp 16)), (3, (.tmp 17))]), .agg, none⟩,
  ⟨(some 19), (.box 95 (.tmp 18)), .ptr, none⟩,
  ⟨(some 4), (.mv (.tmp 19)), .ptr, none⟩,
  ⟨(some 5), (.mv (.const (.int .i64 0))), (.int .i64), none⟩] [4, 5])
 .ret))))
def r10 : List Res := [.t 4, .t 5]
theorem tr10 : trS Try.prog [] 20 (Try.f10.body.getD .skip) s10 = some s10 := by kernel_rfl
theorem den10 (args : List Value) (w : World) (R : Ending → World → Prop) (hn : args.length ≤ 20) (h : denS Try.prog s10 (argsEnv 0 args) w (endK r10 R)) : Calls Try.prog 10 args.toArray w R :=
  calls_of_den (pn := []) (fn := Try.f10) (c := Try.f10.body.getD .skip) Try.func10 (by kernel_rfl) (by rw [Try.ntmps10]; exact hn) (by rw [Try.ntmps10]; exact tr10) (by kernel_rfl) h
def d10 (inputs0 : Int) (first1 : Int) (w : World) (R : Ending → World → Prop) : Prop :=
 ∃ J2 : World → Prop,
 ((bif (decide (inputs0 < 1)) then
 (R (.returned (.tuple #[(.pointer none), (.int .i64 260)])) w)
 else
 ((bif (decide (16 < inputs0)) then
 (R (.returned (.tuple #[(.pointer none), (.int .i64 260)])) w)
 else
 (J2  w))))) ∧
 (∀ (w3 : World), J2  w3 →
 Calls Try.prog 35 #[(.int .i64 first1)] w3 fun e4 w5 => ∃ x6 : Bool, e4 = .returned (.bool x6) ∧
 (bif (!x6) then
 (R (.returned (.tuple #[(.pointer none), (.int .i64 262)])) w5)
 else
 (∀ w7 : World, w7 = World.alloc w5 (.map #[] 0) →
 ∃ cs8, fillL (.fields [(0, 1), (1, 1), (2, 1), (3, 1)]) (zc Try.prog 95) [(0, (.int .i64 inputs0)), (1, (.int .i64 first1)), (3, (.map (some (World.heap w5 |>.size))))] = some cs8 ∧
 ∀ w9 : World, w9 = World.alloc w7 (.cells (List.toArray cs8) 95) →
 R (.returned (.tuple #[(.pointer (some ⟨World.heap w7 |>.size, 0, none⟩)), (.int .i64 0)])) w9)))
theorem e10 (inputs0 : Int) (first1 : Int) (w : World) (R : Ending → World → Prop) : denS Try.prog s10 (argsEnv 0 [(.int .i64 inputs0), (.int .i64 first1)]) w (endK r10 R) = d10 inputs0 first1 w R := by kernel_rfl
theorem c10 (inputs0 : Int) (first1 : Int) {w : World} {R : Ending → World → Prop} (h : d10 inputs0 first1 w R) : Calls Try.prog 10 #[(.int .i64 inputs0), (.int .i64 first1)] w R :=
  den10 [(.int .i64 inputs0), (.int .i64 first1)] w R (by simp) ((e10 inputs0 first1 w R).symm ▸ h)

/-- prelude/merge.epoch -/
def s35 : S := (.seq (.ops [⟨(some 2), (.mv (.const (.bool false))), .bool, none⟩] [0])
 (.seq (.ops [⟨(some 3), (.mv (.tmp 0)), (.int .i64), none⟩,
  ⟨(some 4), (.bin .geq (.tmp 3) (.const (.int .i64 1))), .bool, none⟩,
  ⟨(some 5), (.mv (.tmp 4)), .bool, none⟩,
  ⟨(some 6), (.mv (.tmp 0)), (.int .i64), (some (5, true))⟩,
  ⟨(some 7), (.bin .leq (.tmp 6) (.const (.int .i64 1099511627776))), .bool, (some (5, true))⟩,
  ⟨(some 8), (.pick (.tmp 5) (.tmp 7) (.const (.bool false))), .bool, none⟩,
  ⟨(some 2), (.mv (.tmp 8)), .bool, none⟩] [2])
 .ret))
def r35 : List Res := [.t 2]
theorem tr35 : trS Try.prog [] 9 (Try.f35.body.getD .skip) s35 = some s35 := by kernel_rfl
theorem den35 (args : List Value) (w : World) (R : Ending → World → Prop) (hn : args.length ≤ 9) (h : denS Try.prog s35 (argsEnv 0 args) w (endK r35 R)) : Calls Try.prog 35 args.toArray w R :=
  calls_of_den (pn := []) (fn := Try.f35) (c := Try.f35.body.getD .skip) Try.func35 (by kernel_rfl) (by rw [Try.ntmps35]; exact hn) (by rw [Try.ntmps35]; exact tr35) (by kernel_rfl) h
def d35 (n0 : Int) (w : World) (R : Ending → World → Prop) : Prop :=
 (bif (decide (1 ≤ n0)) then
 (R (.returned (.bool (decide (n0 ≤ 1099511627776)))) w)
 else
 (R (.returned (.bool false)) w))
theorem e35 (n0 : Int) (w : World) (R : Ending → World → Prop) : denS Try.prog s35 (argsEnv 0 [(.int .i64 n0)]) w (endK r35 R) = d35 n0 w R := by kernel_rfl
theorem c35 (n0 : Int) {w : World} {R : Ending → World → Prop} (h : d35 n0 w R) : Calls Try.prog 35 #[(.int .i64 n0)] w R :=
  den35 [(.int .i64 n0)] w R (by simp) ((e35 n0 w R).symm ▸ h)

/-- (*prelude/merge.Merger).Epoch -/
def s12 : S := (.seq (.ops [⟨(some 2), (.mv (.const (.int .i64 0))), (.int .i64), none⟩] [0])
 (.seq (.ops [⟨(some 3), (.mv (.tmp 0)), .ptr, none⟩,
  ⟨(some 4), (.nc (.tmp 3)), .any, none⟩,
  ⟨(some 5), (.fa 1 (.tmp 4)), .ptr, none⟩,
  ⟨(some 6), (.ld1 (.tmp 5)), (.int .i64), none⟩,
  ⟨(some 2), (.mv (.tmp 6)), (.int .i64), none⟩] [2])
 .ret))
def r12 : List Res := [.t 2]
theorem tr12 : trS Try.prog [] 7 (Try.f12.body.getD .skip) s12 = some s12 := by kernel_rfl
theorem den12 (args : List Value) (w : World) (R : Ending → World → Prop) (hn : args.length ≤ 7) (h : denS Try.prog s12 (argsEnv 0 args) w (endK r12 R)) : Calls Try.prog 12 args.toArray w R :=
  calls_of_den (pn := []) (fn := Try.f12) (c := Try.f12.body.getD .skip) Try.func12 (by kernel_rfl) (by rw [Try.ntmps12]; exact hn) (by rw [Try.ntmps12]; exact tr12) (by kernel_rfl) h
def d12 (m0 : Option Addr) (w : World) (R : Ending → World → Prop) : Prop :=
 optK m0 fun a1 =>
 ∃ x2 : Int, World.cell? w (Addr.add a1 1) = some (.int .i64 x2) ∧
 R (.returned (.int .i64 x2)) w
theorem e12 (m0 : Option Addr) (w : World) (R : Ending → World → Prop) : denS Try.prog s12 (argsEnv 0 [(.pointer m0)]) w (endK r12 R) = d12 m0 w R := by kernel_rfl
theorem c12 (m0 : Option Addr) {w : World} {R : Ending → World → Prop} (h : d12 m0 w R) : Calls Try.prog 12 #[(.pointer m0)] w R :=
  den12 [(.pointer m0)] w R (by simp) ((e12 m0 w R).symm ▸ h)

/-- (*prelude/merge.Merger).Take -/
def s15 : S := (.seq (.ops [⟨(some 3), (.box 35 (.tmp 1)), .ptr, none⟩,
  ⟨(some 4), (.mv (.const (.int .i64 0))), (.int .i64), none⟩] [3, 0])
 (.join [] [0, 3]
 (.seq (.draw (.take 0 ⟨(some 10), (.fa 0 (.tmp 3)), .ptr, none⟩
  (.take 1 ⟨(some 11), (.ld1 (.tmp 10)), (.int .i64), none⟩
  (.take 2 ⟨(some 12), (.bin .lss (.tmp 11) (.const (.int .i64 0))), .bool, none⟩
  (.take 3 ⟨(some 13), (.mv (.tmp 12)), .bool, none⟩
  (.take 4 ⟨(some 14), (.fa 0 (.tmp 3)), .ptr, (some (13, false))⟩
  (.take 5 ⟨(some 15), (.ld1 (.tmp 14)), (.int .i64), (some (13, false))⟩
  (.take 6 ⟨(some 16), (.mv (.tmp 0)), .ptr, (some (13, false))⟩
  (.take 7 ⟨(some 17), (.nc (.tmp 16)), .any, (some (13, false))⟩
  (.take 8 ⟨(some 18), (.fa 0 (.tmp 17)), .ptr, (some (13, false))⟩
  (.take 9 ⟨(some 19), (.ld1 (.tmp 18)), (.int .i64), (some (13, false))⟩
  (.take 10 ⟨(some 20), (.bin .geq (.tmp 15) (.tmp 19)), .bool, (some (13, false))⟩
  (.take 11 ⟨(some 21), (.pick (.tmp 13) (.const (.bool true)) (.tmp 20)), .bool, none⟩
  .done)))))))))))) [21, 3, 0])
 (.cond (.tmp 21)
 (.seq (.ops [⟨(some 4), (.mv (.const (.int .i64 261))), (.int .i64), none⟩] [4])
 .ret)
 .skip))
 (.join [] [0, 3]
 (.seq (.draw (.take 0 ⟨(some 22), (.fa 1 (.tmp 3)), .ptr, none⟩
  (.take 1 ⟨(some 23), (.ld1 (.tmp 22)), (.int .i64), none⟩
  (.go 2 ⟨(some 24), (.call 35 [(.tmp 23)] [.bool]), .bool, none⟩ []
  (.take 3 ⟨(some 25), (.un .not (.tmp 24)), .bool, none⟩
  (.take 4 ⟨(some 26), (.mv (.tmp 25)), .bool, none⟩
  (.take 5 ⟨(some 27), (.fa 1 (.tmp 3)), .ptr, (some (26, false))⟩
  (.take 6 ⟨(some 28), (.ld1 (.tmp 27)), (.int .i64), (some (26, false))⟩
  (.take 7 ⟨(some 29), (.mv (.tmp 0)), .ptr, (some (26, false))⟩
  (.take 8 ⟨(some 30), (.nc (.tmp 29)), .any, (some (26, false))⟩
  (.take 9 ⟨(some 31), (.fa 1 (.tmp 30)), .ptr, (some (26, false))⟩
  (.take 10 ⟨(some 32), (.ld1 (.tmp 31)), (.int .i64), (some (26, false))⟩
  (.take 11 ⟨(some 33), (.bin .add (.tmp 32) (.const (.int .i64 64))), (.int .i64), (some (26, false))⟩
  (.take 12 ⟨(some 34), (.bin .geq (.tmp 28) (.tmp 33)), .bool, (some (26, false))⟩
  (.take 13 ⟨(some 35), (.pick (.tmp 26) (.const (.bool true)) (.tmp 34)), .bool, none⟩
  .done)))))))))))))) [35, 3, 0])
 (.cond (.tmp 35)
 (.seq (.ops [⟨(some 4), (.mv (.const (.int .i64 262))), (.int .i64), none⟩] [4])
 .ret)
 .skip))
 (.seq (.seq (.ops [⟨(some 37), (.fa 2 (.tmp 3)), .ptr, none⟩,
  ⟨(some 38), (.ld1 (.tmp 37)), .sl, none⟩,
  ⟨(some 39), (.call 36 [(.tmp 38)] [.sl, (.int .i64)]), .any, none⟩,
  ⟨(some 36), (.mv (.tmp 39)), .any, none⟩,
  ⟨(some 40), (.ext 0 (.tmp 36)), .sl, none⟩,
  ⟨(some 41), (.ext 1 (.tmp 36)), (.int .i64), none⟩,
  ⟨(some 5), (.mv (.tmp 40)), .sl, none⟩,
  ⟨(some 6), (.mv (.tmp 41)), (.int .i64), none⟩] [6, 3, 0])
 (.seq (.ops [⟨(some 42), (.mv (.tmp 6)), (.int .i64), none⟩,
  ⟨(some 43), (.bin .neq (.tmp 42) (.const (.int .i64 0))), .bool, none⟩] [43, 6, 3, 0])
 (.cond (.tmp 43)
 (.seq (.ops [⟨(some 44), (.mv (.tmp 6)), (.int .i64), none⟩,
  ⟨(some 4), (.mv (.tmp 44)), (.int .i64), none⟩] [4])
 .ret)
 .skip)))
 (.seq (.seq (.draw (.take 0 ⟨(some 45), (.fa 1 (.tmp 3)), .ptr, none⟩
  (.take 1 ⟨(some 46), (.ld1 (.tmp 45)), (.int .i64), none⟩
  (.take 2 ⟨(some 47), (.mv (.tmp 0)), .ptr, none⟩
  (.take 3 ⟨(some 48), (.nc (.tmp 47)), .any, none⟩
  (.take 4 ⟨(some 49), (.fa 1 (.tmp 48)), .ptr, none⟩
  (.take 5 ⟨(some 50), (.ld1 (.tmp 49)), (.int .i64), none⟩
  (.take 6 ⟨(some 51), (.bin .lss (.tmp 46) (.tmp 50)), .bool, none⟩
  .done))))))) [51, 3, 0])
 (.cond (.tmp 51)
 (.seq (.ops [⟨(some 4), (.mv (.const (.int .i64 0))), (.int .i64), none⟩] [4])
 .ret)
 .skip))
 (.seq (.ops [⟨(some 52), (.fa 0 (.tmp 3)), .ptr, none⟩,
  ⟨(some 53), (.ld1 (.tmp 52)), (.int .i64), none⟩,
  ⟨(some 54), (.fa 1 (.tmp 3)), .ptr, none⟩,
  ⟨(some 55), (.ld1 (.tmp 54)), (.int .i64), none⟩,
  ⟨(some 56), (.bld 53 (.fields [(0, 1), (1, 1)]) [(0, (.tmp 53)), (1, (.tmp 55))]), .agg, none⟩,
  ⟨(some 7), (.alloc 53), .ptr, none⟩,
  ⟨none, (.stN 2 (.tmp 7) (.tmp 56)), .any, none⟩] [0, 7, 3])
 (.seq (.seq (.draw (.take 0 ⟨(some 58), (.mv (.tmp 0)), .ptr, none⟩
  (.take 1 ⟨(some 59), (.nc (.tmp 58)), .any, none⟩
  (.take 2 ⟨(some 60), (.fa 3 (.tmp 59)), .ptr, none⟩
  (.take 3 ⟨(some 61), (.ld1 (.tmp 60)), .mp, none⟩
  (.take 4 ⟨(some 62), (.ldN 2 (.tmp 7)), .agg, none⟩
  (.take 5 ⟨(some 63), (.look 93 (.tmp 61) (.tmp 62) true), .any, none⟩
  (.take 6 ⟨(some 57), (.mv (.tmp 63)), .any, none⟩
  (.take 7 ⟨(some 64), (.ext 0 (.tmp 57)), .sl, none⟩
  (.take 8 ⟨(some 65), (.ext 1 (.tmp 57)), .bool, none⟩
  (.take 9 ⟨(some 8), (.mv (.tmp 64)), .sl, none⟩
  (.take 10 ⟨(some 9), (.mv (.tmp 65)), .bool, none⟩
  .done))))))))))) [9, 8, 3, 0, 7])
 (.seq (.ops [⟨(some 66), (.mv (.tmp 9)), .bool, none⟩] [66, 8, 3, 0, 7])
 (.cond (.tmp 66)
 (.seq (.seq (.ops [⟨(some 67), (.mv (.tmp 8)), .sl, none⟩,
  ⟨(some 68), (.fa 2 (.tmp 3)), .ptr, none⟩,
  ⟨(some 69), (.ld1 (.tmp 68)), .sl, none⟩,
  ⟨(some 70), (.call 37 [(.tmp 67), (.tmp 69)] [.bool]), .bool, none⟩,
  ⟨(some 71), (.un .not (.tmp 70)), .bool, none⟩] [71])
 (.cond (.tmp 71)
 (.seq (.ops [⟨(some 4), (.mv (.const (.int .i64 263))), (.int .i64), none⟩] [4])
 .ret)
 .skip))
 (.seq (.ops [⟨(some 4), (.mv (.const (.int .i64 0))), (.int .i64), none⟩] [4])
 .ret))
 .skip)))
 (.seq (.draw (.take 0 ⟨(some 72), (.mv (.tmp 0)), .ptr, none⟩
  (.take 1 ⟨(some 73), (.nc (.tmp 72)), .any, none⟩
  (.take 2 ⟨(some 74), (.fa 3 (.tmp 73)), .ptr, none⟩
  (.take 3 ⟨(some 75), (.ld1 (.tmp 74)), .mp, none⟩
  (.take 4 ⟨(some 76), (.ldN 2 (.tmp 7)), .agg, none⟩
  (.take 5 ⟨(some 77), (.fa 2 (.tmp 3)), .ptr, none⟩
  (.take 6 ⟨(some 78), (.ld1 (.tmp 77)), .sl, none⟩
  (.go 7 ⟨(some 79), (.call 38 [(.tmp 78)] [.sl]), .sl, none⟩ [(4, ⟨(some 76), (.ldN 2 (.tmp 7)), .agg, none⟩), (3, ⟨(some 75), (.ld1 (.tmp 74)), .mp, none⟩)]
  (.go 8 ⟨none, (.upd 93 (.tmp 75) (.tmp 76) (.tmp 79)), .any, none⟩ []
  .done))))))))) [0, 3])
 (.seq (.draw (.take 0 ⟨(some 80), (.mv (.tmp 0)), .ptr, none⟩
  (.take 1 ⟨(some 81), (.mv (.tmp 0)), .ptr, none⟩
  (.take 2 ⟨(some 82), (.nc (.tmp 81)), .any, none⟩
  (.take 3 ⟨(some 83), (.fa 2 (.tmp 82)), .ptr, none⟩
  (.take 4 ⟨(some 84), (.ld1 (.tmp 83)), (.int .i64), none⟩
  (.take 5 ⟨(some 85), (.fa 1 (.tmp 3)), .ptr, none⟩
  (.take 6 ⟨(some 86), (.ld1 (.tmp 85)), (.int .i64), none⟩
  (.go 7 ⟨(some 87), (.rv (.maxB #[3, 3] 3) [(.tmp 84), (.tmp 86)]), (.int .i64), none⟩ []
  (.take 8 ⟨(some 88), (.nc (.tmp 80)), .any, none⟩
  (.take 9 ⟨(some 89), (.fa 2 (.tmp 88)), .ptr, none⟩
  (.go 10 ⟨none, (.st1 (.tmp 89) (.tmp 87)), .any, none⟩ []
  .done))))))))))) [])
 (.seq (.ops [⟨(some 4), (.mv (.const (.int .i64 0))), (.int .i64), none⟩] [4])
 .ret))))))))))
def r15 : List Res := [.t 4]
theorem tr15 : trS Try.prog [] 90 (Try.f15.body.getD .skip) s15 = some s15 := by kernel_rfl
theorem den15 (args : List Value) (w : World) (R : Ending → World → Prop) (hn : args.length ≤ 90) (h : denS Try.prog s15 (argsEnv 0 args) w (endK r15 R)) : Calls Try.prog 15 args.toArray w R :=
  calls_of_den (pn := []) (fn := Try.f15) (c := Try.f15.body.getD .skip) Try.func15 (by kernel_rfl) (by rw [Try.ntmps15]; exact hn) (by rw [Try.ntmps15]; exact tr15) (by kernel_rfl) h
def d15 (m0 : Option Addr) (p1 : Array Value) (w : World) (R : Ending → World → Prop) : Prop :=
 ∀ w2 : World, w2 = World.alloc w (.cells p1 35) →
 ∃ J3 : World → Prop,
 (∀ w4 : World, w4 = World.drew w2 →
 ∃ x5 : Int, World.cell? w4 (Addr.add ⟨World.heap w |>.size, 0, none⟩ 0) = some (.int .i64 x5) ∧
 (bif (decide (x5 < 0)) then
 (R (.returned (.int .i64 261)) w4)
 else
 (∃ x6 : Int, World.cell? w4 (Addr.add ⟨World.heap w |>.size, 0, none⟩ 0) = some (.int .i64 x6) ∧
 optK m0 fun a7 =>
 ∃ x8 : Int, World.cell? w4 (Addr.add a7 0) = some (.int .i64 x8) ∧
 (bif (decide (x8 ≤ x6)) then
 (R (.returned (.int .i64 261)) w4)
 else
 (J3  w4))))) ∧
 (∀ (w9 : World), J3  w9 →
 ∃ J10 : World → Prop,
 (∀ w11 : World, w11 = World.drew w9 →
 ∃ x12 : Int, World.cell? w11 (Addr.add ⟨World.heap w |>.size, 0, none⟩ 1) = some (.int .i64 x12) ∧
 Calls Try.prog 35 #[(.int .i64 x12)] w11 fun e13 w14 => ∃ x15 : Bool, e13 = .returned (.bool x15) ∧
 (bif (!x15) then
 (R (.returned (.int .i64 262)) w14)
 else
 (∃ x16 : Int, World.cell? w14 (Addr.add ⟨World.heap w |>.size, 0, none⟩ 1) = some (.int .i64 x16) ∧
 optK m0 fun a17 =>
 ∃ x18 : Int, World.cell? w14 (Addr.add a17 1) = some (.int .i64 x18) ∧
 (bif (decide ((IntKind.wrap .i64 (x18 + 64)) ≤ x16)) then
 (R (.returned (.int .i64 262)) w14)
 else
 (J10  w14))))) ∧
 (∀ (w19 : World), J10  w19 →
 ∃ (x20 : Option Addr) (x20n : Nat) (x20c : Nat), World.cell? w19 (Addr.add ⟨World.heap w |>.size, 0, none⟩ 2) = some (.slice x20 x20n x20c) ∧
 Calls Try.prog 36 #[(.slice x20 x20n x20c)] w19 fun e21 w22 => ∃ (x23 : Option Addr) (x23n : Nat) (x23c : Nat), ∃ x24 : Int, e21 = .returned (.tuple #[(.slice x23 x23n x23c), (.int .i64 x24)]) ∧
 ∃ (x25 : Option Addr) (x25n : Nat) (x25c : Nat), (#[(.slice x23 x23n x23c), (.int .i64 x24)] : Array Value)[0]? = some (.slice x25 x25n x25c) ∧
 ∃ x26 : Int, (#[(.slice x23 x23n x23c), (.int .i64 x24)] : Array Value)[1]? = some (.int .i64 x26) ∧
 (bif (!decide (x26 = 0)) then
 (R (.returned (.int .i64 x26)) w22)
 else
 (∀ w27 : World, w27 = World.drew w22 →
 ∃ x28 : Int, World.cell? w27 (Addr.add ⟨World.heap w |>.size, 0, none⟩ 1) = some (.int .i64 x28) ∧
 optK m0 fun a29 =>
 ∃ x30 : Int, World.cell? w27 (Addr.add a29 1) = some (.int .i64 x30) ∧
 (bif (decide (x28 < x30)) then
 (R (.returned (.int .i64 0)) w27)
 else
 (∃ x31 : Int, World.cell? w27 (Addr.add ⟨World.heap w |>.size, 0, none⟩ 0) = some (.int .i64 x31) ∧
 ∃ x32 : Int, World.cell? w27 (Addr.add ⟨World.heap w |>.size, 0, none⟩ 1) = some (.int .i64 x32) ∧
 ∃ cs33, fillL (.fields [(0, 1), (1, 1)]) (zc Try.prog 53) [(0, (.int .i64 x31)), (1, (.int .i64 x32))] = some cs33 ∧
 ∀ w34 : World, w34 = World.alloc w27 (.cells (zc Try.prog 53).toArray 53) →
 Array.size (List.toArray cs33) = 2 ∧ (∀ u ∈ Array.toList (List.toArray cs33), one u = true) ∧ Room w34 ⟨World.heap w27 |>.size, 0, none⟩ 2 ∧
 ∀ w35 : World, w35 = setCells w34 ⟨World.heap w27 |>.size, 0, none⟩ (Array.toList (List.toArray cs33)) 0 →
 ∀ w36 : World, w36 = World.drew w35 →
 optK m0 fun a37 =>
 ∃ x38 : Option Nat, World.cell? w36 (Addr.add a37 3) = some (.map x38) ∧
 ∃ cs39 : List Value, List.length cs39 = 2 ∧ Cells w36 ⟨World.heap w27 |>.size, 0, none⟩ cs39 ∧
 ∃ v40, Sem.run Try.prog (Instr.lookup 93 (.map x38) (.agg (List.toArray cs39)) true) w36 = .ok v40 w36 ∧ ∃ x41 : Value, v40 = x41 ∧
 tupK x41 fun vs42 =>
 ∃ (x43 : Option Addr) (x43n : Nat) (x43c : Nat), (vs42)[0]? = some (.slice x43 x43n x43c) ∧
 tupK x41 fun vs44 =>
 ∃ x45 : Bool, (vs44)[1]? = some (.bool x45) ∧
 (bif x45 then
 (∃ (x46 : Option Addr) (x46n : Nat) (x46c : Nat), World.cell? w36 (Addr.add ⟨World.heap w |>.size, 0, none⟩ 2) = some (.slice x46 x46n x46c) ∧
 Calls Try.prog 37 #[(.slice x43 x43n x43c), (.slice x46 x46n x46c)] w36 fun e47 w48 => ∃ x49 : Bool, e47 = .returned (.bool x49) ∧
 (bif (!x49) then
 (R (.returned (.int .i64 263)) w48)
 else
 (R (.returned (.int .i64 0)) w48)))
 else
 (∀ w50 : World, w50 = World.drew w36 →
 optK m0 fun a51 =>
 ∃ x52 : Option Nat, World.cell? w50 (Addr.add a51 3) = some (.map x52) ∧
 ∃ cs53 : List Value, List.length cs53 = 2 ∧ Cells w50 ⟨World.heap w27 |>.size, 0, none⟩ cs53 ∧
 ∃ (x54 : Option Addr) (x54n : Nat) (x54c : Nat), World.cell? w50 (Addr.add ⟨World.heap w |>.size, 0, none⟩ 2) = some (.slice x54 x54n x54c) ∧
 Calls Try.prog 38 #[(.slice x54 x54n x54c)] w50 fun e55 w56 => ∃ (x57 : Option Addr) (x57n : Nat) (x57c : Nat), e55 = .returned (.slice x57 x57n x57c) ∧
 (∃ cs58 : List Value, List.length cs58 = 2 ∧ Cells w56 ⟨World.heap w27 |>.size, 0, none⟩ cs58 ∧
 (((.agg (List.toArray cs58)) : Value) = (.agg (List.toArray cs53)) ∧ w56 = w56)) ∧
 (∃ z59 : Option Nat, World.cell? w56 (Addr.add a51 3) = some (.map z59) ∧
 (((.map z59) : Value) = (.map x52) ∧ w56 = w56)) ∧
 RunU Try.prog (Instr.mapUpdate 93 (.map x52) (.agg (List.toArray cs53)) (.slice x57 x57n x57c)) w56 fun w60 =>
 ∀ w61 : World, w61 = World.drew w60 →
 optK m0 fun a62 =>
 ∃ x63 : Int, World.cell? w61 (Addr.add a62 2) = some (.int .i64 x63) ∧
 ∃ x64 : Int, World.cell? w61 (Addr.add ⟨World.heap w |>.size, 0, none⟩ 1) = some (.int .i64 x64) ∧
 RunV Try.prog (Builtin.max_ #[3, 3] 3 #[(.int .i64 x63), (.int .i64 x64)]) w61 fun v65 w66 => ∃ x67 : Int, v65 = (.int .i64 x67) ∧
 optK m0 fun a68 =>
 one (.int .i64 x67) = true ∧ Option.isSome (World.cell? w66 (Addr.add a68 2)) = true ∧ World.frozen? w66 (Addr.add a68 2) = false ∧
 ∀ w69 : World, w69 = World.setCell w66 (Addr.add a68 2) (.int .i64 x67) →
 R (.returned (.int .i64 0)) w69))))))))
theorem e15 (m0 : Option Addr) (p1 : Array Value) (w : World) (R : Ending → World → Prop) : denS Try.prog s15 (argsEnv 0 [(.pointer m0), (.agg p1)]) w (endK r15 R) = d15 m0 p1 w R := by kernel_rfl
theorem c15 (m0 : Option Addr) (p1 : Array Value) {w : World} {R : Ending → World → Prop} (h : d15 m0 p1 w R) : Calls Try.prog 15 #[(.pointer m0), (.agg p1)] w R :=
  den15 [(.pointer m0), (.agg p1)] w R (by simp) ((e15 m0 p1 w R).symm ▸ h)

/-- (*prelude/merge.Merger).Missing -/
def s19 : S := (.seq (.ops [⟨(some 4), (.mv (.const (.slice none 0 0))), .sl, none⟩] [0, 1])
 (.seq (.ops [⟨(some 5), (.mv (.const (.slice none 0 0))), .sl, none⟩] [0, 5, 1])
 (.seq (.seq (.ops [⟨(some 9), (.mv (.tmp 0)), .ptr, none⟩,
  ⟨(some 10), (.nc (.tmp 9)), .any, none⟩,
  ⟨(some 11), (.fa 1 (.tmp 10)), .ptr, none⟩,
  ⟨(some 12), (.ld1 (.tmp 11)), (.int .i64), none⟩,
  ⟨(some 6), (.mv (.tmp 12)), (.int .i64), none⟩] [6, 0, 5, 1])
 (.block 0
 (.loop [(5, .sl), (6, (.int .i64))] [0, 1]
 (.join [] [0, 1, 5, 6]
 (.seq (.ops [⟨(some 13), (.mv (.tmp 6)), (.int .i64), none⟩,
  ⟨(some 14), (.call 35 [(.tmp 13)] [.bool]), .bool, none⟩,
  ⟨(some 15), (.mv (.tmp 14)), .bool, none⟩,
  ⟨(some 16), (.mv (.tmp 6)), (.int .i64), (some (15, true))⟩,
  ⟨(some 17), (.mv (.tmp 0)), .ptr, (some (15, true))⟩,
  ⟨(some 18), (.nc (.tmp 17)), .any, (some (15, true))⟩,
  ⟨(some 19), (.fa 1 (.tmp 18)), .ptr, (some (15, true))⟩,
  ⟨(some 20), (.ld1 (.tmp 19)), (.int .i64), (some (15, true))⟩,
  ⟨(some 21), (.bin .eql (.tmp 16) (.tmp 20)), .bool, (some (15, true))⟩,
  ⟨(some 22), (.mv (.tmp 21)), .bool, (some (15, true))⟩,
  ⟨(some 23), (.mv (.tmp 6)), (.int .i64), (some (22, false))⟩,
  ⟨(some 24), (.mv (.tmp 0)), .ptr, (some (22, false))⟩,
  ⟨(some 25), (.nc (.tmp 24)), .any, (some (22, false))⟩,
  ⟨(some 26), (.fa 2 (.tmp 25)), .ptr, (some (22, false))⟩,
  ⟨(some 27), (.ld1 (.tmp 26)), (.int .i64), (some (22, false))⟩,
  ⟨(some 28), (.bin .leq (.tmp 23) (.tmp 27)), .bool, (some (22, false))⟩,
  ⟨(some 29), (.pick (.tmp 22) (.const (.bool true)) (.tmp 28)), .bool, (some (15, true))⟩,
  ⟨(some 30), (.pick (.tmp 15) (.tmp 29) (.const (.bool false))), .bool, none⟩] [30, 0, 6, 5, 1])
 (.cond (.tmp 30)
 .skip
 (.exit 0)))
 (.seq (.block 1
 (.seq (.ops [⟨(some 33), (.mv (.tmp 0)), .ptr, none⟩,
  ⟨(some 34), (.nc (.tmp 33)), .any, none⟩,
  ⟨(some 35), (.fa 0 (.tmp 34)), .ptr, none⟩,
  ⟨(some 36), (.ld1 (.tmp 35)), (.int .i64), none⟩,
  ⟨(some 37), (.mv (.const (.int .i64 0))), (.int .i64), none⟩] [37, 36, 6, 5, 1, 0])
 (.block 2
 (.loop [(5, .sl), (37, (.int .i64))] [0, 1, 6, 36]
 (.seq (.ops [⟨(some 38), (.bin .lss (.tmp 37) (.tmp 36)), .bool, none⟩] [38, 37, 6, 5, 1, 0, 36])
 (.seq (.cond (.tmp 38)
 .skip
 (.exit 2))
 (.seq (.block 3
 (.seq (.ops [⟨(some 39), (.mv (.tmp 37)), (.int .i64), none⟩,
  ⟨(some 7), (.mv (.tmp 39)), (.int .i64), none⟩] [7, 6, 5, 1, 0, 37, 36])
 (.seq (.ops [⟨(some 40), (.mv (.tmp 7)), (.int .i64), none⟩,
  ⟨(some 41), (.mv (.tmp 6)), (.int .i64), none⟩,
  ⟨(some 42), (.bld 53 (.fields [(0, 1), (1, 1)]) [(0, (.tmp 40)), (1, (.tmp 41))]), .agg, none⟩,
  ⟨(some 8), (.alloc 53), .ptr, none⟩,
  ⟨none, (.stN 2 (.tmp 8) (.tmp 42)), .any, none⟩] [5, 1, 0, 8, 37, 36, 6])
 (.join [(52, .bool)] [0, 1, 5, 6, 8, 36, 37]
 (.ops [⟨(some 43), (.mv (.tmp 5)), .sl, none⟩,
  ⟨(some 44), (.len (.tmp 43)), (.int .i64), none⟩,
  ⟨(some 45), (.mv (.tmp 1)), (.int .i64), none⟩,
  ⟨(some 46), (.bin .lss (.tmp 44) (.tmp 45)), .bool, none⟩,
  ⟨(some 47), (.mv (.tmp 46)), .bool, none⟩,
  ⟨(some 48), (.mv (.tmp 0)), .ptr, (some (47, true))⟩,
  ⟨(some 49), (.ldN 2 (.tmp 8)), .agg, (some (47, true))⟩,
  ⟨(some 50), (.call 20 [(.tmp 48), (.tmp 49)] [.bool]), .bool, (some (47, true))⟩,
  ⟨(some 51), (.un .not (.tmp 50)), .bool, (some (47, true))⟩,
  ⟨(some 52), (.pick (.tmp 47) (.tmp 51) (.const (.bool false))), .bool, none⟩] [52, 5, 8, 37, 36, 6, 1, 0])
 (.cond (.tmp 52)
 (.ops [⟨(some 53), (.mv (.tmp 5)), .sl, none⟩,
  ⟨(some 54), (.ldN 2 (.tmp 8)), .agg, none⟩,
  ⟨(some 55), (.bldS 53 1 2 [(0, (.tmp 54))]), .sl, none⟩,
  ⟨(some 56), (.app #[49, 49] 49 (.tmp 53) (.tmp 55)), .sl, none⟩,
  ⟨(some 5), (.mv (.tmp 56)), .sl, none⟩] [37, 36, 6, 5, 1, 0])
 .skip)))))
 (.ops [⟨(some 57), (.bin .add (.tmp 37) (.const (.int .i64 1))), (.int .i64), none⟩,
  ⟨(some 37), (.mv (.tmp 57)), (.int .i64), none⟩] [37, 36, 6, 5, 1, 0]))))))))
 (.ops [⟨(some 31), (.mv (.tmp 6)), (.int .i64), none⟩,
  ⟨(some 32), (.bin .add (.tmp 31) (.const (.int .i64 1))), (.int .i64), none⟩,
  ⟨(some 6), (.mv (.tmp 32)), (.int .i64), none⟩] [6, 0, 5, 1]))))))
 (.seq (.ops [⟨(some 58), (.mv (.tmp 5)), .sl, none⟩,
  ⟨(some 4), (.mv (.tmp 58)), .sl, none⟩] [4])
 .ret))))
def r19 : List Res := [.t 4]
theorem tr19 : trS Try.prog [] 59 (Try.f19.body.getD .skip) s19 = some s19 := by kernel_rfl
theorem den19 (args : List Value) (w : World) (R : Ending → World → Prop) (hn : args.length ≤ 59) (h : denS Try.prog s19 (argsEnv 0 args) w (endK r19 R)) : Calls Try.prog 19 args.toArray w R :=
  calls_of_den (pn := []) (fn := Try.f19) (c := Try.f19.body.getD .skip) Try.func19 (by kernel_rfl) (by rw [Try.ntmps19]; exact hn) (by rw [Try.ntmps19]; exact tr19) (by kernel_rfl) h
def d19 (m0 : Option Addr) (most1 : Int) (w : World) (R : Ending → World → Prop) : Prop :=
 optK m0 fun a2 =>
 ∃ x3 : Int, World.cell? w (Addr.add a2 1) = some (.int .i64 x3) ∧
 ∃ I4 : Nat → Option Addr → Nat → Nat → Int → World → Prop,
 (∃ m, I4 m none 0 0 x3 w) ∧
 (∀ (m5 : Nat) (w6 : World) (l7 : Option Addr) (l7n : Nat) (l7c : Nat) (n8 : Int), I4 m5 l7 l7n l7c n8 w6 →
 ∃ J9 : World → Prop,
 (Calls Try.prog 35 #[(.int .i64 n8)] w6 fun e10 w11 => ∃ x12 : Bool, e10 = .returned (.bool x12) ∧
 (bif x12 then
 (optK m0 fun a13 =>
 ∃ x14 : Int, World.cell? w11 (Addr.add a13 1) = some (.int .i64 x14) ∧
 (bif (decide (n8 = x14)) then
 (J9  w11)
 else
 (optK m0 fun a15 =>
 ∃ x16 : Int, World.cell? w11 (Addr.add a15 2) = some (.int .i64 x16) ∧
 (bif (decide (n8 ≤ x16)) then
 (J9  w11)
 else
 (R (.returned (.slice l7 l7n l7c)) w11)))))
 else
 (R (.returned (.slice l7 l7n l7c)) w11))) ∧
 (∀ (w17 : World), J9  w17 →
 optK m0 fun a18 =>
 ∃ x19 : Int, World.cell? w17 (Addr.add a18 0) = some (.int .i64 x19) ∧
 ∃ I20 : Nat → Option Addr → Nat → Nat → Int → World → Prop,
 (∃ m, I20 m l7 l7n l7c 0 w17) ∧
 (∀ (m21 : Nat) (w22 : World) (l23 : Option Addr) (l23n : Nat) (l23c : Nat) (x24 : Int), I20 m21 l23 l23n l23c x24 w22 →
 (bif (decide (x24 < x19)) then
 (∃ cs25, fillL (.fields [(0, 1), (1, 1)]) (zc Try.prog 53) [(0, (.int .i64 x24)), (1, (.int .i64 n8))] = some cs25 ∧
 ∀ w26 : World, w26 = World.alloc w22 (.cells (zc Try.prog 53).toArray 53) →
 Array.size (List.toArray cs25) = 2 ∧ (∀ u ∈ Array.toList (List.toArray cs25), one u = true) ∧ Room w26 ⟨World.heap w22 |>.size, 0, none⟩ 2 ∧
 ∀ w27 : World, w27 = setCells w26 ⟨World.heap w22 |>.size, 0, none⟩ (Array.toList (List.toArray cs25)) 0 →
 ∃ J28 : Bool → World → Prop,
 ((bif (decide (((l23n : Nat) : Int) < most1)) then
 (∃ cs29 : List Value, List.length cs29 = 2 ∧ Cells w27 ⟨World.heap w22 |>.size, 0, none⟩ cs29 ∧
 Calls Try.prog 20 #[(.pointer m0), (.agg (List.toArray cs29))] w27 fun e30 w31 => ∃ x32 : Bool, e30 = .returned (.bool x32) ∧
 J28 (!x32) w31)
 else
 (J28 false w27))) ∧
 (∀ (w33 : World) (x34 : Bool), J28 x34 w33 →
 (bif x34 then
 (∃ cs35 : List Value, List.length cs35 = 2 ∧ Cells w33 ⟨World.heap w22 |>.size, 0, none⟩ cs35 ∧
 ∃ cs36, fillL (.elems 2) (zrep (zc Try.prog 53) (1 * 2)) [(0, (.agg (List.toArray cs35)))] = some cs36 ∧
 ∀ w37 : World, w37 = World.alloc w33 (.cells (List.toArray cs36) 53) →
 RunV Try.prog (Builtin.append_ #[49, 49] 49 #[(.slice l23 l23n l23c), (.slice (some ⟨World.heap w33 |>.size, 0, none⟩) 1 1)]) w37 fun v38 w39 => ∃ (x40 : Option Addr) (x40n : Nat) (x40c : Nat), v38 = (.slice x40 x40n x40c) ∧
 ∃ m41, m41 < m21 ∧ I20 m41 x40 x40n x40c (IntKind.wrap .i64 (x24 + 1)) w39)
 else
 (∃ m42, m42 < m21 ∧ I20 m42 l23 l23n l23c (IntKind.wrap .i64 (x24 + 1)) w33))))
 else
 (∃ m43, m43 < m5 ∧ I4 m43 l23 l23n l23c (IntKind.wrap .i64 (n8 + 1)) w22)))))
theorem e19 (m0 : Option Addr) (most1 : Int) (w : World) (R : Ending → World → Prop) : denS Try.prog s19 (argsEnv 0 [(.pointer m0), (.int .i64 most1)]) w (endK r19 R) = d19 m0 most1 w R := by kernel_rfl
theorem c19 (m0 : Option Addr) (most1 : Int) {w : World} {R : Ending → World → Prop} (h : d19 m0 most1 w R) : Calls Try.prog 19 #[(.pointer m0), (.int .i64 most1)] w R :=
  den19 [(.pointer m0), (.int .i64 most1)] w R (by simp) ((e19 m0 most1 w R).symm ▸ h)

/-- (*prelude/merge.Merger).Has -/
def s20 : S := (.seq (.ops [⟨(some 3), (.box 53 (.tmp 1)), .ptr, none⟩,
  ⟨(some 4), (.mv (.const (.bool false))), .bool, none⟩] [3, 0])
 (.join [] [0, 3]
 (.seq (.draw (.take 0 ⟨(some 7), (.fa 0 (.tmp 3)), .ptr, none⟩
  (.take 1 ⟨(some 8), (.ld1 (.tmp 7)), (.int .i64), none⟩
  (.take 2 ⟨(some 9), (.bin .lss (.tmp 8) (.const (.int .i64 0))), .bool, none⟩
  (.take 3 ⟨(some 10), (.mv (.tmp 9)), .bool, none⟩
  (.take 4 ⟨(some 11), (.fa 0 (.tmp 3)), .ptr, (some (10, false))⟩
  (.take 5 ⟨(some 12), (.ld1 (.tmp 11)), (.int .i64), (some (10, false))⟩
  (.take 6 ⟨(some 13), (.mv (.tmp 0)), .ptr, (some (10, false))⟩
  (.take 7 ⟨(some 14), (.nc (.tmp 13)), .any, (some (10, false))⟩
  (.take 8 ⟨(some 15), (.fa 0 (.tmp 14)), .ptr, (some (10, false))⟩
  (.take 9 ⟨(some 16), (.ld1 (.tmp 15)), (.int .i64), (some (10, false))⟩
  (.take 10 ⟨(some 17), (.bin .geq (.tmp 12) (.tmp 16)), .bool, (some (10, false))⟩
  (.take 11 ⟨(some 18), (.pick (.tmp 10) (.const (.bool true)) (.tmp 17)), .bool, none⟩
  (.take 12 ⟨(some 19), (.mv (.tmp 18)), .bool, none⟩
  (.take 13 ⟨(some 20), (.fa 1 (.tmp 3)), .ptr, (some (19, false))⟩
  (.take 14 ⟨(some 21), (.ld1 (.tmp 20)), (.int .i64), (some (19, false))⟩
  (.go 15 ⟨(some 22), (.call 35 [(.tmp 21)] [.bool]), .bool, (some (19, false))⟩ []
  (.take 16 ⟨(some 23), (.un .not (.tmp 22)), .bool, (some (19, false))⟩
  (.take 17 ⟨(some 24), (.pick (.tmp 19) (.const (.bool true)) (.tmp 23)), .bool, none⟩
  .done)))))))))))))))))) [24, 0, 3])
 (.cond (.tmp 24)
 (.seq (.ops [⟨(some 4), (.mv (.const (.bool false))), .bool, none⟩] [4])
 .ret)
 .skip))
 (.seq (.draw (.take 0 ⟨(some 26), (.mv (.tmp 0)), .ptr, none⟩
  (.take 1 ⟨(some 27), (.nc (.tmp 26)), .any, none⟩
  (.take 2 ⟨(some 28), (.fa 3 (.tmp 27)), .ptr, none⟩
  (.take 3 ⟨(some 29), (.ld1 (.tmp 28)), .mp, none⟩
  (.take 4 ⟨(some 30), (.ldN 2 (.tmp 3)), .agg, none⟩
  (.take 5 ⟨(some 31), (.look 93 (.tmp 29) (.tmp 30) true), .any, none⟩
  (.take 6 ⟨(some 25), (.mv (.tmp 31)), .any, none⟩
  (.take 7 ⟨(some 32), (.ext 0 (.tmp 25)), .sl, none⟩
  (.take 8 ⟨(some 33), (.ext 1 (.tmp 25)), .bool, none⟩
  (.take 9 ⟨(some 5), (.mv (.tmp 32)), .sl, none⟩
  (.take 10 ⟨(some 6), (.mv (.tmp 33)), .bool, none⟩
  .done))))))))))) [6, 3, 0])
 (.seq (.draw (.take 0 ⟨(some 34), (.mv (.tmp 6)), .bool, none⟩
  (.take 1 ⟨(some 35), (.mv (.tmp 34)), .bool, none⟩
  (.take 2 ⟨(some 36), (.fa 1 (.tmp 3)), .ptr, (some (35, false))⟩
  (.take 3 ⟨(some 37), (.ld1 (.tmp 36)), (.int .i64), (some (35, false))⟩
  (.take 4 ⟨(some 38), (.mv (.tmp 0)), .ptr, (some (35, false))⟩
  (.take 5 ⟨(some 39), (.nc (.tmp 38)), .any, (some (35, false))⟩
  (.take 6 ⟨(some 40), (.fa 1 (.tmp 39)), .ptr, (some (35, false))⟩
  (.take 7 ⟨(some 41), (.ld1 (.tmp 40)), (.int .i64), (some (35, false))⟩
  (.take 8 ⟨(some 42), (.bin .lss (.tmp 37) (.tmp 41)), .bool, (some (35, false))⟩
  (.take 9 ⟨(some 43), (.pick (.tmp 35) (.const (.bool true)) (.tmp 42)), .bool, none⟩
  (.take 10 ⟨(some 4), (.mv (.tmp 43)), .bool, none⟩
  .done))))))))))) [4])
 .ret))))
def r20 : List Res := [.t 4]
theorem tr20 : trS Try.prog [] 44 (Try.f20.body.getD .skip) s20 = some s20 := by kernel_rfl
theorem den20 (args : List Value) (w : World) (R : Ending → World → Prop) (hn : args.length ≤ 44) (h : denS Try.prog s20 (argsEnv 0 args) w (endK r20 R)) : Calls Try.prog 20 args.toArray w R :=
  calls_of_den (pn := []) (fn := Try.f20) (c := Try.f20.body.getD .skip) Try.func20 (by kernel_rfl) (by rw [Try.ntmps20]; exact hn) (by rw [Try.ntmps20]; exact tr20) (by kernel_rfl) h
def d20 (m0 : Option Addr) (w1 : Array Value) (w : World) (R : Ending → World → Prop) : Prop :=
 ∀ w2 : World, w2 = World.alloc w (.cells w1 53) →
 ∃ J3 : World → Prop,
 (∀ w4 : World, w4 = World.drew w2 →
 ∃ x5 : Int, World.cell? w4 (Addr.add ⟨World.heap w |>.size, 0, none⟩ 0) = some (.int .i64 x5) ∧
 (bif (decide (x5 < 0)) then
 (R (.returned (.bool false)) w4)
 else
 (∃ x6 : Int, World.cell? w4 (Addr.add ⟨World.heap w |>.size, 0, none⟩ 0) = some (.int .i64 x6) ∧
 optK m0 fun a7 =>
 ∃ x8 : Int, World.cell? w4 (Addr.add a7 0) = some (.int .i64 x8) ∧
 (bif (decide (x8 ≤ x6)) then
 (R (.returned (.bool false)) w4)
 else
 (∃ x9 : Int, World.cell? w4 (Addr.add ⟨World.heap w |>.size, 0, none⟩ 1) = some (.int .i64 x9) ∧
 Calls Try.prog 35 #[(.int .i64 x9)] w4 fun e10 w11 => ∃ x12 : Bool, e10 = .returned (.bool x12) ∧
 (bif (!x12) then
 (R (.returned (.bool false)) w11)
 else
 (J3  w11))))))) ∧
 (∀ (w13 : World), J3  w13 →
 ∀ w14 : World, w14 = World.drew w13 →
 optK m0 fun a15 =>
 ∃ x16 : Option Nat, World.cell? w14 (Addr.add a15 3) = some (.map x16) ∧
 ∃ cs17 : List Value, List.length cs17 = 2 ∧ Cells w14 ⟨World.heap w |>.size, 0, none⟩ cs17 ∧
 ∃ v18, Sem.run Try.prog (Instr.lookup 93 (.map x16) (.agg (List.toArray cs17)) true) w14 = .ok v18 w14 ∧ ∃ x19 : Value, v18 = x19 ∧
 tupK x19 fun vs20 =>
 ∃ (x21 : Option Addr) (x21n : Nat) (x21c : Nat), (vs20)[0]? = some (.slice x21 x21n x21c) ∧
 tupK x19 fun vs22 =>
 ∃ x23 : Bool, (vs22)[1]? = some (.bool x23) ∧
 ∀ w24 : World, w24 = World.drew w14 →
 (bif x23 then
 (R (.returned (.bool true)) w24)
 else
 (∃ x25 : Int, World.cell? w24 (Addr.add ⟨World.heap w |>.size, 0, none⟩ 1) = some (.int .i64 x25) ∧
 optK m0 fun a26 =>
 ∃ x27 : Int, World.cell? w24 (Addr.add a26 1) = some (.int .i64 x27) ∧
 R (.returned (.bool (decide (x25 < x27)))) w24)))
theorem e20 (m0 : Option Addr) (w1 : Array Value) (w : World) (R : Ending → World → Prop) : denS Try.prog s20 (argsEnv 0 [(.pointer m0), (.agg w1)]) w (endK r20 R) = d20 m0 w1 w R := by kernel_rfl
theorem c20 (m0 : Option Addr) (w1 : Array Value) {w : World} {R : Ending → World → Prop} (h : d20 m0 w1 w R) : Calls Try.prog 20 #[(.pointer m0), (.agg w1)] w R :=
  den20 [(.pointer m0), (.agg w1)] w R (by simp) ((e20 m0 w1 w R).symm ▸ h)

/-- (*prelude/merge.Merger).Next -/
def s33 : S := (.seq (.ops [⟨(some 2), (.mv (.const (.slice none 0 0))), .sl, none⟩,
  ⟨(some 3), (.mv (.const (.bool false))), .bool, none⟩] [0])
 (.seq (.seq (.ops [⟨(some 9), (.mv (.tmp 0)), .ptr, none⟩,
  ⟨(some 10), (.nc (.tmp 9)), .any, none⟩,
  ⟨(some 11), (.fa 1 (.tmp 10)), .ptr, none⟩,
  ⟨(some 12), (.ld1 (.tmp 11)), (.int .i64), none⟩,
  ⟨(some 13), (.call 35 [(.tmp 12)] [.bool]), .bool, none⟩,
  ⟨(some 14), (.un .not (.tmp 13)), .bool, none⟩] [14, 0])
 (.cond (.tmp 14)
 (.seq (.ops [⟨(some 2), (.mv (.const (.slice none 0 0))), .sl, none⟩,
  ⟨(some 3), (.mv (.const (.bool false))), .bool, none⟩] [2, 3])
 .ret)
 .skip))
 (.seq (.ops [⟨(some 4), (.mv (.const (.slice none 0 0))), .sl, none⟩] [0, 4])
 (.seq (.seq (.ops [⟨(some 15), (.mv (.tmp 0)), .ptr, none⟩,
  ⟨(some 16), (.nc (.tmp 15)), .any, none⟩,
  ⟨(some 17), (.fa 0 (.tmp 16)), .ptr, none⟩,
  ⟨(some 18), (.ld1 (.tmp 17)), (.int .i64), none⟩,
  ⟨(some 19), (.mv (.const (.int .i64 0))), (.int .i64), none⟩] [19, 18, 0, 4])
 (.block 0
 (.loop [(4, .sl), (19, (.int .i64))] [0, 18]
 (.seq (.ops [⟨(some 20), (.bin .lss (.tmp 19) (.tmp 18)), .bool, none⟩] [20, 19, 0, 4, 18])
 (.seq (.cond (.tmp 20)
 .skip
 (.exit 0))
 (.seq (.block 1
 (.seq (.ops [⟨(some 21), (.mv (.tmp 19)), (.int .i64), none⟩,
  ⟨(some 5), (.mv (.tmp 21)), (.int .i64), none⟩] [0, 5, 4, 19, 18])
 (.seq (.draw (.take 0 ⟨(some 23), (.mv (.tmp 0)), .ptr, none⟩
  (.take 1 ⟨(some 24), (.nc (.tmp 23)), .any, none⟩
  (.take 2 ⟨(some 25), (.fa 3 (.tmp 24)), .ptr, none⟩
  (.take 3 ⟨(some 26), (.ld1 (.tmp 25)), .mp, none⟩
  (.take 4 ⟨(some 27), (.mv (.tmp 0)), .ptr, none⟩
  (.take 5 ⟨(some 28), (.nc (.tmp 27)), .any, none⟩
  (.take 6 ⟨(some 29), (.fa 1 (.tmp 28)), .ptr, none⟩
  (.take 7 ⟨(some 30), (.ld1 (.tmp 29)), (.int .i64), none⟩
  (.take 8 ⟨(some 31), (.bin .sub (.tmp 30) (.const (.int .i64 1))), (.int .i64), none⟩
  (.take 9 ⟨(some 32), (.mv (.tmp 5)), (.int .i64), none⟩
  (.take 10 ⟨(some 33), (.bin .add (.tmp 31) (.tmp 32)), (.int .i64), none⟩
  (.take 11 ⟨(some 34), (.mv (.tmp 0)), .ptr, none⟩
  (.take 12 ⟨(some 35), (.nc (.tmp 34)), .any, none⟩
  (.take 13 ⟨(some 36), (.fa 0 (.tmp 35)), .ptr, none⟩
  (.take 14 ⟨(some 37), (.ld1 (.tmp 36)), (.int .i64), none⟩
  (.take 15 ⟨(some 38), (.bin .rem (.tmp 33) (.tmp 37)), (.int .i64), none⟩
  (.take 16 ⟨(some 39), (.mv (.tmp 0)), .ptr, none⟩
  (.take 17 ⟨(some 40), (.nc (.tmp 39)), .any, none⟩
  (.take 18 ⟨(some 41), (.fa 1 (.tmp 40)), .ptr, none⟩
  (.take 19 ⟨(some 42), (.ld1 (.tmp 41)), (.int .i64), none⟩
  (.take 20 ⟨(some 43), (.bld 53 (.fields [(0, 1), (1, 1)]) [(0, (.tmp 38)), (1, (.tmp 42))]), .agg, none⟩
  (.take 21 ⟨(some 44), (.look 93 (.tmp 26) (.tmp 43) true), .any, none⟩
  (.take 22 ⟨(some 22), (.mv (.tmp 44)), .any, none⟩
  (.take 23 ⟨(some 45), (.ext 0 (.tmp 22)), .sl, none⟩
  (.take 24 ⟨(some 46), (.ext 1 (.tmp 22)), .bool, none⟩
  (.take 25 ⟨(some 6), (.mv (.tmp 45)), .sl, none⟩
  (.take 26 ⟨(some 7), (.mv (.tmp 46)), .bool, none⟩
  .done))))))))))))))))))))))))))) [7, 4, 6, 19, 18, 0])
 (.seq (.seq (.ops [⟨(some 47), (.mv (.tmp 7)), .bool, none⟩,
  ⟨(some 48), (.un .not (.tmp 47)), .bool, none⟩] [48, 4, 6, 19, 18, 0])
 (.cond (.tmp 48)
 (.seq (.ops [⟨(some 2), (.mv (.const (.slice none 0 0))), .sl, none⟩,
  ⟨(some 3), (.mv (.const (.bool false))), .bool, none⟩] [2, 3])
 .ret)
 .skip))
 (.ops [⟨(some 49), (.mv (.tmp 4)), .sl, none⟩,
  ⟨(some 50), (.mv (.tmp 6)), .sl, none⟩,
  ⟨(some 51), (.bldS 33 1 1 [(0, (.tmp 50))]), .sl, none⟩,
  ⟨(some 52), (.app #[88, 88] 88 (.tmp 49) (.tmp 51)), .sl, none⟩,
  ⟨(some 4), (.mv (.tmp 52)), .sl, none⟩] [19, 18, 0, 4])))))
 (.ops [⟨(some 53), (.bin .add (.tmp 19) (.const (.int .i64 1))), (.int .i64), none⟩,
  ⟨(some 19), (.mv (.tmp 53)), (.int .i64), none⟩] [19, 18, 0, 4])))))))
 (.seq (.seq (.ops [⟨(some 54), (.mv (.tmp 0)), .ptr, none⟩,
  ⟨(some 55), (.nc (.tmp 54)), .any, none⟩,
  ⟨(some 56), (.fa 0 (.tmp 55)), .ptr, none⟩,
  ⟨(some 57), (.ld1 (.tmp 56)), (.int .i64), none⟩,
  ⟨(some 58), (.mv (.const (.int .i64 0))), (.int .i64), none⟩] [58, 57, 0, 4])
 (.block 2
 (.loop [(58, (.int .i64))] [0, 4, 57]
 (.seq (.ops [⟨(some 59), (.bin .lss (.tmp 58) (.tmp 57)), .bool, none⟩] [59, 58, 0, 57, 4])
 (.seq (.cond (.tmp 59)
 .skip
 (.exit 2))
 (.seq (.block 3
 (.seq (.ops [⟨(some 60), (.mv (.tmp 58)), (.int .i64), none⟩,
  ⟨(some 8), (.mv (.tmp 60)), (.int .i64), none⟩] [0, 8, 58, 57, 4])
 (.draw (.take 0 ⟨(some 61), (.mv (.tmp 0)), .ptr, none⟩
  (.take 1 ⟨(some 62), (.nc (.tmp 61)), .any, none⟩
  (.take 2 ⟨(some 63), (.fa 3 (.tmp 62)), .ptr, none⟩
  (.take 3 ⟨(some 64), (.ld1 (.tmp 63)), .mp, none⟩
  (.take 4 ⟨(some 65), (.mv (.tmp 8)), (.int .i64), none⟩
  (.take 5 ⟨(some 66), (.mv (.tmp 0)), .ptr, none⟩
  (.take 6 ⟨(some 67), (.nc (.tmp 66)), .any, none⟩
  (.take 7 ⟨(some 68), (.fa 1 (.tmp 67)), .ptr, none⟩
  (.take 8 ⟨(some 69), (.ld1 (.tmp 68)), (.int .i64), none⟩
  (.take 9 ⟨(some 70), (.bld 53 (.fields [(0, 1), (1, 1)]) [(0, (.tmp 65)), (1, (.tmp 69))]), .agg, none⟩
  (.go 10 ⟨none, (.rv (.delB #[93, 53] 0) [(.tmp 64), (.tmp 70)]), .any, none⟩ []
  .done))))))))))) [58, 57, 0, 4])))
 (.ops [⟨(some 71), (.bin .add (.tmp 58) (.const (.int .i64 1))), (.int .i64), none⟩,
  ⟨(some 58), (.mv (.tmp 71)), (.int .i64), none⟩] [58, 57, 0, 4])))))))
 (.seq (.ops [⟨(some 72), (.mv (.tmp 0)), .ptr, none⟩,
  ⟨(some 73), (.nc (.tmp 72)), .any, none⟩,
  ⟨(some 74), (.fa 1 (.tmp 73)), .ptr, none⟩,
  ⟨(some 75), (.ld1 (.tmp 74)), (.int .i64), none⟩,
  ⟨(some 76), (.bin .add (.tmp 75) (.const (.int .i64 1))), (.int .i64), none⟩,
  ⟨(some 77), (.nc (.tmp 72)), .any, none⟩,
  ⟨(some 78), (.fa 1 (.tmp 77)), .ptr, none⟩,
  ⟨none, (.st1 (.tmp 78) (.tmp 76)), .any, none⟩] [4])
 (.seq (.ops [⟨(some 79), (.mv (.tmp 4)), .sl, none⟩,
  ⟨(some 2), (.mv (.tmp 79)), .sl, none⟩,
  ⟨(some 3), (.mv (.const (.bool true))), .bool, none⟩] [2, 3])
 .ret)))))))
def r33 : List Res := [.t 2, .t 3]
theorem tr33 : trS Try.prog [] 80 (Try.f33.body.getD .skip) s33 = some s33 := by kernel_rfl
theorem den33 (args : List Value) (w : World) (R : Ending → World → Prop) (hn : args.length ≤ 80) (h : denS Try.prog s33 (argsEnv 0 args) w (endK r33 R)) : Calls Try.prog 33 args.toArray w R :=
  calls_of_den (pn := []) (fn := Try.f33) (c := Try.f33.body.getD .skip) Try.func33 (by kernel_rfl) (by rw [Try.ntmps33]; exact hn) (by rw [Try.ntmps33]; exact tr33) (by kernel_rfl) h
def d33 (m0 : Option Addr) (w : World) (R : Ending → World → Prop) : Prop :=
 optK m0 fun a1 =>
 ∃ x2 : Int, World.cell? w (Addr.add a1 1) = some (.int .i64 x2) ∧
 Calls Try.prog 35 #[(.int .i64 x2)] w fun e3 w4 => ∃ x5 : Bool, e3 = .returned (.bool x5) ∧
 (bif (!x5) then
 (R (.returned (.tuple #[(.slice none 0 0), (.bool false)])) w4)
 else
 (optK m0 fun a6 =>
 ∃ x7 : Int, World.cell? w4 (Addr.add a6 0) = some (.int .i64 x7) ∧
 ∃ I8 : Nat → Option Addr → Nat → Nat → Int → World → Prop,
 (∃ m, I8 m none 0 0 0 w4) ∧
 (∀ (m9 : Nat) (w10 : World) (out11 : Option Addr) (out11n : Nat) (out11c : Nat) (x12 : Int), I8 m9 out11 out11n out11c x12 w10 →
 (bif (decide (x12 < x7)) then
 (∀ w13 : World, w13 = World.drew w10 →
 optK m0 fun a14 =>
 ∃ x15 : Option Nat, World.cell? w13 (Addr.add a14 3) = some (.map x15) ∧
 optK m0 fun a16 =>
 ∃ x17 : Int, World.cell? w13 (Addr.add a16 1) = some (.int .i64 x17) ∧
 optK m0 fun a18 =>
 ∃ x19 : Int, World.cell? w13 (Addr.add a18 0) = some (.int .i64 x19) ∧
 x19 ≠ 0 ∧ optK m0 fun a20 =>
 ∃ x21 : Int, World.cell? w13 (Addr.add a20 1) = some (.int .i64 x21) ∧
 ∃ cs22, fillL (.fields [(0, 1), (1, 1)]) (zc Try.prog 53) [(0, (.int .i64 (Int.tmod (IntKind.wrap .i64 ((IntKind.wrap .i64 (x17 - 1)) + x12)) x19))), (1, (.int .i64 x21))] = some cs22 ∧
 ∃ v23, Sem.run Try.prog (Instr.lookup 93 (.map x15) (.agg (List.toArray cs22)) true) w13 = .ok v23 w13 ∧ ∃ x24 : Value, v23 = x24 ∧
 tupK x24 fun vs25 =>
 ∃ (x26 : Option Addr) (x26n : Nat) (x26c : Nat), (vs25)[0]? = some (.slice x26 x26n x26c) ∧
 tupK x24 fun vs27 =>
 ∃ x28 : Bool, (vs27)[1]? = some (.bool x28) ∧
 (bif (!x28) then
 (R (.returned (.tuple #[(.slice none 0 0), (.bool false)])) w13)
 else
 (∃ cs29, fillL (.elems 1) (zrep (zc Try.prog 33) (1 * 1)) [(0, (.slice x26 x26n x26c))] = some cs29 ∧
 ∀ w30 : World, w30 = World.alloc w13 (.cells (List.toArray cs29) 33) →
 RunV Try.prog (Builtin.append_ #[88, 88] 88 #[(.slice out11 out11n out11c), (.slice (some ⟨World.heap w13 |>.size, 0, none⟩) 1 1)]) w30 fun v31 w32 => ∃ (x33 : Option Addr) (x33n : Nat) (x33c : Nat), v31 = (.slice x33 x33n x33c) ∧
 ∃ m34, m34 < m9 ∧ I8 m34 x33 x33n x33c (IntKind.wrap .i64 (x12 + 1)) w32)))
 else
 (optK m0 fun a35 =>
 ∃ x36 : Int, World.cell? w10 (Addr.add a35 0) = some (.int .i64 x36) ∧
 ∃ I37 : Nat → Int → World → Prop,
 (∃ m, I37 m 0 w10) ∧
 (∀ (m38 : Nat) (w39 : World) (x40 : Int), I37 m38 x40 w39 →
 (bif (decide (x40 < x36)) then
 (∀ w41 : World, w41 = World.drew w39 →
 optK m0 fun a42 =>
 ∃ x43 : Option Nat, World.cell? w41 (Addr.add a42 3) = some (.map x43) ∧
 optK m0 fun a44 =>
 ∃ x45 : Int, World.cell? w41 (Addr.add a44 1) = some (.int .i64 x45) ∧
 ∃ cs46, fillL (.fields [(0, 1), (1, 1)]) (zc Try.prog 53) [(0, (.int .i64 x40)), (1, (.int .i64 x45))] = some cs46 ∧
 RunV Try.prog (Builtin.delete_ #[93, 53] 0 #[(.map x43), (.agg (List.toArray cs46))]) w41 fun v47 w48 => ∃ x49 : Value, v47 = x49 ∧
 ∃ m50, m50 < m38 ∧ I37 m50 (IntKind.wrap .i64 (x40 + 1)) w48)
 else
 (optK m0 fun a51 =>
 ∃ x52 : Int, World.cell? w39 (Addr.add a51 1) = some (.int .i64 x52) ∧
 optK m0 fun a53 =>
 one (.int .i64 (IntKind.wrap .i64 (x52 + 1))) = true ∧ Option.isSome (World.cell? w39 (Addr.add a53 1)) = true ∧ World.frozen? w39 (Addr.add a53 1) = false ∧
 ∀ w54 : World, w54 = World.setCell w39 (Addr.add a53 1) (.int .i64 (IntKind.wrap .i64 (x52 + 1))) →
 R (.returned (.tuple #[(.slice out11 out11n out11c), (.bool true)])) w54))))))))
theorem e33 (m0 : Option Addr) (w : World) (R : Ending → World → Prop) : denS Try.prog s33 (argsEnv 0 [(.pointer m0)]) w (endK r33 R) = d33 m0 w R := by kernel_rfl
theorem c33 (m0 : Option Addr) {w : World} {R : Ending → World → Prop} (h : d33 m0 w R) : Calls Try.prog 33 #[(.pointer m0)] w R :=
  den33 [(.pointer m0)] w R (by simp) ((e33 m0 w R).symm ▸ h)

/-- prelude/merge.same -/
def s37 : S := (.seq (.ops [⟨(some 4), (.mv (.const (.bool false))), .bool, none⟩] [0, 1])
 (.seq (.ops [⟨(some 10), (.mv (.tmp 0)), .sl, none⟩,
  ⟨(some 11), (.call 36 [(.tmp 10)] [.sl, (.int .i64)]), .any, none⟩,
  ⟨(some 9), (.mv (.tmp 11)), .any, none⟩,
  ⟨(some 12), (.ext 0 (.tmp 9)), .sl, none⟩,
  ⟨(some 13), (.ext 1 (.tmp 9)), (.int .i64), none⟩,
  ⟨(some 5), (.mv (.tmp 12)), .sl, none⟩,
  ⟨(some 6), (.mv (.tmp 13)), (.int .i64), none⟩] [1, 5])
 (.seq (.ops [⟨(some 15), (.mv (.tmp 1)), .sl, none⟩,
  ⟨(some 16), (.call 36 [(.tmp 15)] [.sl, (.int .i64)]), .any, none⟩,
  ⟨(some 14), (.mv (.tmp 16)), .any, none⟩,
  ⟨(some 17), (.ext 0 (.tmp 14)), .sl, none⟩,
  ⟨(some 18), (.ext 1 (.tmp 14)), (.int .i64), none⟩,
  ⟨(some 7), (.mv (.tmp 17)), .sl, none⟩,
  ⟨(some 8), (.mv (.tmp 18)), (.int .i64), none⟩] [5, 7])
 (.seq (.ops [⟨(some 19), (.mv (.tmp 5)), .sl, none⟩,
  ⟨(some 20), (.mv (.tmp 7)), .sl, none⟩,
  ⟨(some 21), (.call 64 [(.tmp 19), (.tmp 20)] [.bool]), .bool, none⟩,
  ⟨(some 4), (.mv (.tmp 21)), .bool, none⟩] [4])
 .ret))))
def r37 : List Res := [.t 4]
theorem tr37 : trS Try.prog [] 22 (Try.f37.body.getD .skip) s37 = some s37 := by kernel_rfl
theorem den37 (args : List Value) (w : World) (R : Ending → World → Prop) (hn : args.length ≤ 22) (h : denS Try.prog s37 (argsEnv 0 args) w (endK r37 R)) : Calls Try.prog 37 args.toArray w R :=
  calls_of_den (pn := []) (fn := Try.f37) (c := Try.f37.body.getD .skip) Try.func37 (by kernel_rfl) (by rw [Try.ntmps37]; exact hn) (by rw [Try.ntmps37]; exact tr37) (by kernel_rfl) h
def d37 (a0 : Option Addr) (a0n : Nat) (a0c : Nat) (b1 : Option Addr) (b1n : Nat) (b1c : Nat) (w : World) (R : Ending → World → Prop) : Prop :=
 Calls Try.prog 36 #[(.slice a0 a0n a0c)] w fun e2 w3 => ∃ (x4 : Option Addr) (x4n : Nat) (x4c : Nat), ∃ x5 : Int, e2 = .returned (.tuple #[(.slice x4 x4n x4c), (.int .i64 x5)]) ∧
 ∃ (x6 : Option Addr) (x6n : Nat) (x6c : Nat), (#[(.slice x4 x4n x4c), (.int .i64 x5)] : Array Value)[0]? = some (.slice x6 x6n x6c) ∧
 ∃ x7 : Int, (#[(.slice x4 x4n x4c), (.int .i64 x5)] : Array Value)[1]? = some (.int .i64 x7) ∧
 Calls Try.prog 36 #[(.slice b1 b1n b1c)] w3 fun e8 w9 => ∃ (x10 : Option Addr) (x10n : Nat) (x10c : Nat), ∃ x11 : Int, e8 = .returned (.tuple #[(.slice x10 x10n x10c), (.int .i64 x11)]) ∧
 ∃ (x12 : Option Addr) (x12n : Nat) (x12c : Nat), (#[(.slice x10 x10n x10c), (.int .i64 x11)] : Array Value)[0]? = some (.slice x12 x12n x12c) ∧
 ∃ x13 : Int, (#[(.slice x10 x10n x10c), (.int .i64 x11)] : Array Value)[1]? = some (.int .i64 x13) ∧
 Calls Try.prog 64 #[(.slice x6 x6n x6c), (.slice x12 x12n x12c)] w9 fun e14 w15 => ∃ x16 : Bool, e14 = .returned (.bool x16) ∧
 R (.returned (.bool x16)) w15
theorem e37 (a0 : Option Addr) (a0n : Nat) (a0c : Nat) (b1 : Option Addr) (b1n : Nat) (b1c : Nat) (w : World) (R : Ending → World → Prop) : denS Try.prog s37 (argsEnv 0 [(.slice a0 a0n a0c), (.slice b1 b1n b1c)]) w (endK r37 R) = d37 a0 a0n a0c b1 b1n b1c w R := by kernel_rfl
theorem c37 (a0 : Option Addr) (a0n : Nat) (a0c : Nat) (b1 : Option Addr) (b1n : Nat) (b1c : Nat) {w : World} {R : Ending → World → Prop} (h : d37 a0 a0n a0c b1 b1n b1c w R) : Calls Try.prog 37 #[(.slice a0 a0n a0c), (.slice b1 b1n b1c)] w R :=
  den37 [(.slice a0 a0n a0c), (.slice b1 b1n b1c)] w R (by simp) ((e37 a0 a0n a0c b1 b1n b1c w R).symm ▸ h)

/-- prelude/merge.copied -/
def s38 : S := (.seq (.ops [⟨(some 2), (.mv (.const (.slice none 0 0))), .sl, none⟩] [0])
 (.seq (.ops [⟨(some 3), (.mv (.const (.slice none 0 0))), .sl, none⟩] [0, 3])
 (.seq (.seq (.ops [⟨(some 6), (.mv (.tmp 0)), .sl, none⟩,
  ⟨(some 7), (.len (.tmp 6)), (.int .i64), none⟩,
  ⟨(some 8), (.mv (.const (.int .i64 0))), (.int .i64), none⟩] [8, 7, 6, 3])
 (.block 0
 (.loop [(3, .sl), (8, (.int .i64))] [6, 7]
 (.seq (.ops [⟨(some 9), (.bin .lss (.tmp 8) (.tmp 7)), .any, none⟩] [9, 6, 8, 3, 7])
 (.seq (.cond (.tmp 9)
 .skip
 (.exit 0))
 (.seq (.block 1
 (.seq (.ops [⟨(some 10), (.ia 4 (.tmp 6) (.tmp 8)), .ptr, none⟩,
  ⟨(some 11), (.ldN 4 (.tmp 10)), .agg, none⟩,
  ⟨(some 5), (.alloc 39), .ptr, none⟩,
  ⟨none, (.stN 4 (.tmp 5) (.tmp 11)), .any, none⟩] [3, 5, 8, 7, 6])
 (.draw (.take 0 ⟨(some 12), (.mv (.tmp 3)), .sl, none⟩
  (.take 1 ⟨(some 13), (.fa 0 (.tmp 5)), .ptr, none⟩
  (.take 2 ⟨(some 14), (.ld1 (.tmp 13)), (.int .i64), none⟩
  (.take 3 ⟨(some 15), (.fa 1 (.tmp 5)), .ptr, none⟩
  (.take 4 ⟨(some 16), (.ld1 (.tmp 15)), .sl, none⟩
  (.take 6 ⟨(some 18), (.fa 2 (.tmp 5)), .ptr, none⟩
  (.take 7 ⟨(some 19), (.ld1 (.tmp 18)), .sl, none⟩
  (.take 9 ⟨(some 21), (.fa 3 (.tmp 5)), .ptr, none⟩
  (.take 10 ⟨(some 22), (.ld1 (.tmp 21)), .sl, none⟩
  (.go 5 ⟨(some 17), (.call 65 [(.tmp 16)] [.sl]), .sl, none⟩ [(10, ⟨(some 22), (.ld1 (.tmp 21)), .sl, none⟩), (7, ⟨(some 19), (.ld1 (.tmp 18)), .sl, none⟩), (2, ⟨(some 14), (.ld1 (.tmp 13)), (.int .i64), none⟩)]
  (.go 8 ⟨(some 20), (.call 66 [(.tmp 19)] [.sl]), .sl, none⟩ [(10, ⟨(some 22), (.ld1 (.tmp 21)), .sl, none⟩), (2, ⟨(some 14), (.ld1 (.tmp 13)), (.int .i64), none⟩)]
  (.go 11 ⟨(some 23), (.call 66 [(.tmp 22)] [.sl]), .sl, none⟩ [(2, ⟨(some 14), (.ld1 (.tmp 13)), (.int .i64), none⟩)]
  (.take 12 ⟨(some 24), (.bld 39 (.fields [(0, 1), (1, 1), (2, 1), (3, 1)]) [(0, (.tmp 14)), (1, (.tmp 17)), (2, (.tmp 20)), (3, (.tmp 23))]), .agg, none⟩
  (.go 13 ⟨(some 25), (.bldS 39 1 4 [(0, (.tmp 24))]), .sl, none⟩ []
  (.go 14 ⟨(some 26), (.app #[33, 33] 33 (.tmp 12) (.tmp 25)), .sl, none⟩ []
  (.take 15 ⟨(some 3), (.mv (.tmp 26)), .sl, none⟩
  .done)))))))))))))))) [8, 7, 6, 3])))
 (.ops [⟨(some 27), (.bin .add (.tmp 8) (.const (.int .i64 1))), (.int .i64), none⟩,
  ⟨(some 8), (.mv (.tmp 27)), (.int .i64), none⟩] [8, 7, 6, 3])))))))
 (.seq (.ops [⟨(some 28), (.mv (.tmp 3)), .sl, none⟩,
  ⟨(some 2), (.mv (.tmp 28)), .sl, none⟩] [2])
 .ret))))
def r38 : List Res := [.t 2]
theorem tr38 : trS Try.prog [] 29 (Try.f38.body.getD .skip) s38 = some s38 := by kernel_rfl
theorem den38 (args : List Value) (w : World) (R : Ending → World → Prop) (hn : args.length ≤ 29) (h : denS Try.prog s38 (argsEnv 0 args) w (endK r38 R)) : Calls Try.prog 38 args.toArray w R :=
  calls_of_den (pn := []) (fn := Try.f38) (c := Try.f38.body.getD .skip) Try.func38 (by kernel_rfl) (by rw [Try.ntmps38]; exact hn) (by rw [Try.ntmps38]; exact tr38) (by kernel_rfl) h
def d38 (b0 : Option Addr) (b0n : Nat) (b0c : Nat) (w : World) (R : Ending → World → Prop) : Prop :=
 ∃ I1 : Nat → Option Addr → Nat → Nat → Int → World → Prop,
 (∃ m, I1 m none 0 0 0 w) ∧
 (∀ (m2 : Nat) (w3 : World) (out4 : Option Addr) (out4n : Nat) (out4c : Nat) (x5 : Int), I1 m2 out4 out4n out4c x5 w3 →
 (bif (decide (x5 < ((b0n : Nat) : Int))) then
 (0 ≤ x5 ∧ x5 < ((b0n : Nat) : Int) ∧ optK b0 fun a6 =>
 ∃ cs7 : List Value, List.length cs7 = 4 ∧ Cells w3 (Addr.add a6 (Int.toNat x5 * 4)) cs7 ∧
 ∀ w8 : World, w8 = World.alloc w3 (.cells (zc Try.prog 39).toArray 39) →
 Array.size (List.toArray cs7) = 4 ∧ (∀ u ∈ Array.toList (List.toArray cs7), one u = true) ∧ Room w8 ⟨World.heap w3 |>.size, 0, none⟩ 4 ∧
 ∀ w9 : World, w9 = setCells w8 ⟨World.heap w3 |>.size, 0, none⟩ (Array.toList (List.toArray cs7)) 0 →
 ∀ w10 : World, w10 = World.drew w9 →
 ∃ x11 : Int, World.cell? w10 (Addr.add ⟨World.heap w3 |>.size, 0, none⟩ 0) = some (.int .i64 x11) ∧
 ∃ (x12 : Option Addr) (x12n : Nat) (x12c : Nat), World.cell? w10 (Addr.add ⟨World.heap w3 |>.size, 0, none⟩ 1) = some (.slice x12 x12n x12c) ∧
 ∃ (x13 : Option Addr) (x13n : Nat) (x13c : Nat), World.cell? w10 (Addr.add ⟨World.heap w3 |>.size, 0, none⟩ 2) = some (.slice x13 x13n x13c) ∧
 ∃ (x14 : Option Addr) (x14n : Nat) (x14c : Nat), World.cell? w10 (Addr.add ⟨World.heap w3 |>.size, 0, none⟩ 3) = some (.slice x14 x14n x14c) ∧
 Calls Try.prog 65 #[(.slice x12 x12n x12c)] w10 fun e15 w16 => ∃ (x17 : Option Addr) (x17n : Nat) (x17c : Nat), e15 = .returned (.slice x17 x17n x17c) ∧
 (∃ (z18 : Option Addr) (z18n : Nat) (z18c : Nat), World.cell? w16 (Addr.add ⟨World.heap w3 |>.size, 0, none⟩ 3) = some (.slice z18 z18n z18c) ∧
 (((.slice z18 z18n z18c) : Value) = (.slice x14 x14n x14c) ∧ w16 = w16)) ∧
 (∃ (z19 : Option Addr) (z19n : Nat) (z19c : Nat), World.cell? w16 (Addr.add ⟨World.heap w3 |>.size, 0, none⟩ 2) = some (.slice z19 z19n z19c) ∧
 (((.slice z19 z19n z19c) : Value) = (.slice x13 x13n x13c) ∧ w16 = w16)) ∧
 (∃ z20 : Int, World.cell? w16 (Addr.add ⟨World.heap w3 |>.size, 0, none⟩ 0) = some (.int .i64 z20) ∧
 (((.int .i64 z20) : Value) = (.int .i64 x11) ∧ w16 = w16)) ∧
 Calls Try.prog 66 #[(.slice x13 x13n x13c)] w16 fun e21 w22 => ∃ (x23 : Option Addr) (x23n : Nat) (x23c : Nat), e21 = .returned (.slice x23 x23n x23c) ∧
 (∃ (z24 : Option Addr) (z24n : Nat) (z24c : Nat), World.cell? w22 (Addr.add ⟨World.heap w3 |>.size, 0, none⟩ 3) = some (.slice z24 z24n z24c) ∧
 (((.slice z24 z24n z24c) : Value) = (.slice x14 x14n x14c) ∧ w22 = w22)) ∧
 (∃ z25 : Int, World.cell? w22 (Addr.add ⟨World.heap w3 |>.size, 0, none⟩ 0) = some (.int .i64 z25) ∧
 (((.int .i64 z25) : Value) = (.int .i64 x11) ∧ w22 = w22)) ∧
 Calls Try.prog 66 #[(.slice x14 x14n x14c)] w22 fun e26 w27 => ∃ (x28 : Option Addr) (x28n : Nat) (x28c : Nat), e26 = .returned (.slice x28 x28n x28c) ∧
 (∃ z29 : Int, World.cell? w27 (Addr.add ⟨World.heap w3 |>.size, 0, none⟩ 0) = some (.int .i64 z29) ∧
 (((.int .i64 z29) : Value) = (.int .i64 x11) ∧ w27 = w27)) ∧
 ∃ cs30, fillL (.fields [(0, 1), (1, 1), (2, 1), (3, 1)]) (zc Try.prog 39) [(0, (.int .i64 x11)), (1, (.slice x17 x17n x17c)), (2, (.slice x23 x23n x23c)), (3, (.slice x28 x28n x28c))] = some cs30 ∧
 ∃ cs31, fillL (.elems 4) (zrep (zc Try.prog 39) (1 * 4)) [(0, (.agg (List.toArray cs30)))] = some cs31 ∧
 ∀ w32 : World, w32 = World.alloc w27 (.cells (List.toArray cs31) 39) →
 RunV Try.prog (Builtin.append_ #[33, 33] 33 #[(.slice out4 out4n out4c), (.slice (some ⟨World.heap w27 |>.size, 0, none⟩) 1 1)]) w32 fun v33 w34 => ∃ (x35 : Option Addr) (x35n : Nat) (x35c : Nat), v33 = (.slice x35 x35n x35c) ∧
 ∃ m36, m36 < m2 ∧ I1 m36 x35 x35n x35c (IntKind.wrap .i64 (x5 + 1)) w34)
 else
 (R (.returned (.slice out4 out4n out4c)) w3)))
theorem e38 (b0 : Option Addr) (b0n : Nat) (b0c : Nat) (w : World) (R : Ending → World → Prop) : denS Try.prog s38 (argsEnv 0 [(.slice b0 b0n b0c)]) w (endK r38 R) = d38 b0 b0n b0c w R := by kernel_rfl
theorem c38 (b0 : Option Addr) (b0n : Nat) (b0c : Nat) {w : World} {R : Ending → World → Prop} (h : d38 b0 b0n b0c w R) : Calls Try.prog 38 #[(.slice b0 b0n b0c)] w R :=
  den38 [(.slice b0 b0n b0c)] w R (by simp) ((e38 b0 b0n b0c w R).symm ▸ h)

/-- slices.Equal[[]byte,byte] -/
def s64 : S := (.seq (.ops [⟨(some 4), (.mv (.const (.bool false))), .bool, none⟩] [0, 1])
 (.seq (.seq (.ops [⟨(some 6), (.mv (.tmp 0)), .sl, none⟩,
  ⟨(some 7), (.len (.tmp 6)), (.int .i64), none⟩,
  ⟨(some 8), (.mv (.tmp 1)), .sl, none⟩,
  ⟨(some 9), (.len (.tmp 8)), (.int .i64), none⟩,
  ⟨(some 10), (.bin .neq (.tmp 7) (.tmp 9)), .bool, none⟩] [10, 0, 1])
 (.cond (.tmp 10)
 (.seq (.ops [⟨(some 4), (.mv (.const (.bool false))), .bool, none⟩] [4])
 .ret)
 .skip))
 (.seq (.seq (.ops [⟨(some 11), (.mv (.tmp 0)), .sl, none⟩,
  ⟨(some 12), (.len (.tmp 11)), (.int .i64), none⟩,
  ⟨(some 13), (.mv (.const (.int .i64 0))), (.int .i64), none⟩] [13, 12, 0, 1])
 (.block 0
 (.loop [(13, (.int .i64))] [0, 1, 12]
 (.seq (.ops [⟨(some 14), (.bin .lss (.tmp 13) (.tmp 12)), .any, none⟩] [14, 13, 0, 1, 12])
 (.seq (.cond (.tmp 14)
 .skip
 (.exit 0))
 (.seq (.block 1
 (.seq (.ops [⟨(some 15), (.mv (.tmp 13)), (.int .i64), none⟩,
  ⟨(some 5), (.mv (.tmp 15)), (.int .i64), none⟩] [0, 5, 1, 13, 12])
 (.seq (.draw (.take 0 ⟨(some 16), (.mv (.tmp 0)), .sl, none⟩
  (.take 1 ⟨(some 17), (.mv (.tmp 5)), (.int .i64), none⟩
  (.take 2 ⟨(some 18), (.ia 1 (.tmp 16) (.tmp 17)), .ptr, none⟩
  (.take 3 ⟨(some 19), (.ld1 (.tmp 18)), (.int .u8), none⟩
  (.take 4 ⟨(some 20), (.mv (.tmp 1)), .sl, none⟩
  (.take 5 ⟨(some 21), (.mv (.tmp 5)), (.int .i64), none⟩
  (.take 6 ⟨(some 22), (.ia 1 (.tmp 20) (.tmp 21)), .ptr, none⟩
  (.take 7 ⟨(some 23), (.ld1 (.tmp 22)), (.int .u8), none⟩
  (.take 8 ⟨(some 24), (.bin .neq (.tmp 19) (.tmp 23)), .bool, none⟩
  .done))))))))) [24, 13, 12, 0, 1])
 (.cond (.tmp 24)
 (.seq (.ops [⟨(some 4), (.mv (.const (.bool false))), .bool, none⟩] [4])
 .ret)
 .skip))))
 (.ops [⟨(some 25), (.bin .add (.tmp 13) (.const (.int .i64 1))), (.int .i64), none⟩,
  ⟨(some 13), (.mv (.tmp 25)), (.int .i64), none⟩] [13, 12, 0, 1])))))))
 (.seq (.ops [⟨(some 4), (.mv (.const (.bool true))), .bool, none⟩] [4])
 .ret))))
def r64 : List Res := [.t 4]
theorem tr64 : trS Try.prog [] 26 (Try.f64.body.getD .skip) s64 = some s64 := by kernel_rfl
theorem den64 (args : List Value) (w : World) (R : Ending → World → Prop) (hn : args.length ≤ 26) (h : denS Try.prog s64 (argsEnv 0 args) w (endK r64 R)) : Calls Try.prog 64 args.toArray w R :=
  calls_of_den (pn := []) (fn := Try.f64) (c := Try.f64.body.getD .skip) Try.func64 (by kernel_rfl) (by rw [Try.ntmps64]; exact hn) (by rw [Try.ntmps64]; exact tr64) (by kernel_rfl) h
def d64 (s10 : Option Addr) (s10n : Nat) (s10c : Nat) (s21 : Option Addr) (s21n : Nat) (s21c : Nat) (w : World) (R : Ending → World → Prop) : Prop :=
 (bif (!decide (((s10n : Nat) : Int) = ((s21n : Nat) : Int))) then
 (R (.returned (.bool false)) w)
 else
 (∃ I2 : Nat → Int → World → Prop,
 (∃ m, I2 m 0 w) ∧
 (∀ (m3 : Nat) (w4 : World) (x5 : Int), I2 m3 x5 w4 →
 (bif (decide (x5 < ((s10n : Nat) : Int))) then
 (∀ w6 : World, w6 = World.drew w4 →
 0 ≤ x5 ∧ x5 < ((s10n : Nat) : Int) ∧ optK s10 fun a7 =>
 ∃ x8 : Int, World.cell? w6 (Addr.add a7 (Int.toNat x5 * 1)) = some (.int .u8 x8) ∧
 0 ≤ x5 ∧ x5 < ((s21n : Nat) : Int) ∧ optK s21 fun a9 =>
 ∃ x10 : Int, World.cell? w6 (Addr.add a9 (Int.toNat x5 * 1)) = some (.int .u8 x10) ∧
 (bif (!decide (x8 = x10)) then
 (R (.returned (.bool false)) w6)
 else
 (∃ m11, m11 < m3 ∧ I2 m11 (IntKind.wrap .i64 (x5 + 1)) w6)))
 else
 (R (.returned (.bool true)) w4)))))
theorem e64 (s10 : Option Addr) (s10n : Nat) (s10c : Nat) (s21 : Option Addr) (s21n : Nat) (s21c : Nat) (w : World) (R : Ending → World → Prop) : denS Try.prog s64 (argsEnv 0 [(.slice s10 s10n s10c), (.slice s21 s21n s21c)]) w (endK r64 R) = d64 s10 s10n s10c s21 s21n s21c w R := by kernel_rfl
theorem c64 (s10 : Option Addr) (s10n : Nat) (s10c : Nat) (s21 : Option Addr) (s21n : Nat) (s21c : Nat) {w : World} {R : Ending → World → Prop} (h : d64 s10 s10n s10c s21 s21n s21c w R) : Calls Try.prog 64 #[(.slice s10 s10n s10c), (.slice s21 s21n s21c)] w R :=
  den64 [(.slice s10 s10n s10c), (.slice s21 s21n s21c)] w R (by simp) ((e64 s10 s10n s10c s21 s21n s21c w R).symm ▸ h)

/-- slices.Clone[[]int64,int64] -/
def s65 : S := (.seq (.ops [⟨(some 2), (.mv (.const (.slice none 0 0))), .sl, none⟩] [0])
 (.seq (.seq (.ops [⟨(some 3), (.mv (.tmp 0)), .sl, none⟩,
  ⟨(some 4), (.nilEq false 0 (.tmp 3)), .bool, none⟩] [4, 0])
 (.cond (.tmp 4)
 (.seq (.ops [⟨(some 2), (.mv (.const (.slice none 0 0))), .sl, none⟩] [2])
 .ret)
 .skip))
 (.seq (.ops [⟨(some 5), (.bld0 2 0), .sl, none⟩,
  ⟨(some 6), (.mv (.tmp 0)), .sl, none⟩,
  ⟨(some 7), (.app #[25, 25] 25 (.tmp 5) (.tmp 6)), .sl, none⟩,
  ⟨(some 2), (.mv (.tmp 7)), .sl, none⟩] [2])
 .ret)))
def r65 : List Res := [.t 2]
theorem tr65 : trS Try.prog [] 8 (Try.f65.body.getD .skip) s65 = some s65 := by kernel_rfl
theorem den65 (args : List Value) (w : World) (R : Ending → World → Prop) (hn : args.length ≤ 8) (h : denS Try.prog s65 (argsEnv 0 args) w (endK r65 R)) : Calls Try.prog 65 args.toArray w R :=
  calls_of_den (pn := []) (fn := Try.f65) (c := Try.f65.body.getD .skip) Try.func65 (by kernel_rfl) (by rw [Try.ntmps65]; exact hn) (by rw [Try.ntmps65]; exact tr65) (by kernel_rfl) h
def d65 (s0 : Option Addr) (s0n : Nat) (s0c : Nat) (w : World) (R : Ending → World → Prop) : Prop :=
 (bif (Option.isNone s0) then
 (R (.returned (.slice none 0 0)) w)
 else
 (∀ w1 : World, w1 = World.alloc w (.cells #[] 2) →
 RunV Try.prog (Builtin.append_ #[25, 25] 25 #[(.slice (some ⟨World.heap w |>.size, 0, none⟩) 0 0), (.slice s0 s0n s0c)]) w1 fun v2 w3 => ∃ (x4 : Option Addr) (x4n : Nat) (x4c : Nat), v2 = (.slice x4 x4n x4c) ∧
 R (.returned (.slice x4 x4n x4c)) w3))
theorem e65 (s0 : Option Addr) (s0n : Nat) (s0c : Nat) (w : World) (R : Ending → World → Prop) : denS Try.prog s65 (argsEnv 0 [(.slice s0 s0n s0c)]) w (endK r65 R) = d65 s0 s0n s0c w R := by kernel_rfl
theorem c65 (s0 : Option Addr) (s0n : Nat) (s0c : Nat) {w : World} {R : Ending → World → Prop} (h : d65 s0 s0n s0c w R) : Calls Try.prog 65 #[(.slice s0 s0n s0c)] w R :=
  den65 [(.slice s0 s0n s0c)] w R (by simp) ((e65 s0 s0n s0c w R).symm ▸ h)

/-- slices.Clone[[]prelude/api.Key,prelude/api.Key] -/
def s66 : S := (.seq (.ops [⟨(some 2), (.mv (.const (.slice none 0 0))), .sl, none⟩] [0])
 (.seq (.seq (.ops [⟨(some 3), (.mv (.tmp 0)), .sl, none⟩,
  ⟨(some 4), (.nilEq false 0 (.tmp 3)), .bool, none⟩] [4, 0])
 (.cond (.tmp 4)
 (.seq (.ops [⟨(some 2), (.mv (.const (.slice none 0 0))), .sl, none⟩] [2])
 .ret)
 .skip))
 (.seq (.ops [⟨(some 5), (.bld0 97 0), .sl, none⟩,
  ⟨(some 6), (.mv (.tmp 0)), .sl, none⟩,
  ⟨(some 7), (.app #[37, 37] 37 (.tmp 5) (.tmp 6)), .sl, none⟩,
  ⟨(some 2), (.mv (.tmp 7)), .sl, none⟩] [2])
 .ret)))
def r66 : List Res := [.t 2]
theorem tr66 : trS Try.prog [] 8 (Try.f66.body.getD .skip) s66 = some s66 := by kernel_rfl
theorem den66 (args : List Value) (w : World) (R : Ending → World → Prop) (hn : args.length ≤ 8) (h : denS Try.prog s66 (argsEnv 0 args) w (endK r66 R)) : Calls Try.prog 66 args.toArray w R :=
  calls_of_den (pn := []) (fn := Try.f66) (c := Try.f66.body.getD .skip) Try.func66 (by kernel_rfl) (by rw [Try.ntmps66]; exact hn) (by rw [Try.ntmps66]; exact tr66) (by kernel_rfl) h
def d66 (s0 : Option Addr) (s0n : Nat) (s0c : Nat) (w : World) (R : Ending → World → Prop) : Prop :=
 (bif (Option.isNone s0) then
 (R (.returned (.slice none 0 0)) w)
 else
 (∀ w1 : World, w1 = World.alloc w (.cells #[] 97) →
 RunV Try.prog (Builtin.append_ #[37, 37] 37 #[(.slice (some ⟨World.heap w |>.size, 0, none⟩) 0 0), (.slice s0 s0n s0c)]) w1 fun v2 w3 => ∃ (x4 : Option Addr) (x4n : Nat) (x4c : Nat), v2 = (.slice x4 x4n x4c) ∧
 R (.returned (.slice x4 x4n x4c)) w3))
theorem e66 (s0 : Option Addr) (s0n : Nat) (s0c : Nat) (w : World) (R : Ending → World → Prop) : denS Try.prog s66 (argsEnv 0 [(.slice s0 s0n s0c)]) w (endK r66 R) = d66 s0 s0n s0c w R := by kernel_rfl
theorem c66 (s0 : Option Addr) (s0n : Nat) (s0c : Nat) {w : World} {R : Ending → World → Prop} (h : d66 s0 s0n s0c w R) : Calls Try.prog 66 #[(.slice s0 s0n s0c)] w R :=
  den66 [(.slice s0 s0n s0c)] w R (by simp) ((e66 s0 s0n s0c w R).symm ▸ h)

end Go.Proofs.Ytjchneebdlncfaa.Fn
