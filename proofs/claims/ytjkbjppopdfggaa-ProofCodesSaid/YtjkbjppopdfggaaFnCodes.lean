/-
  THE CODE of some functions of the given program, resolved, and proved to ask what the readable texts (d..) say; contracts c.. follow. Printed by a small program of mine.
-/
import Derived.Test.YtjkbjppopdfggaaDenWords8
import Derived.Test.YtjkbjppopdfggaaProg
set_option maxRecDepth 100000
namespace Go.Proofs.Ytjkbjppopdfggaa.Fn
open Go Den
/-- prelude/preludelaw24.ProofCodes -/
def s3 : S := (.seq (.ops [⟨(some 2), (.box 28 (.tmp 0)), .ptr, none⟩,
  ⟨(some 4), (.mv (.const (.bool false))), .bool, none⟩] [2, 1])
 (.seq (.ops [⟨(some 17), (.ldN 5 (.tmp 2)), .agg, none⟩,
  ⟨(some 18), (.call 4 [(.tmp 17)] [.sl, (.int .i64)]), .any, none⟩,
  ⟨(some 16), (.mv (.tmp 18)), .any, none⟩,
  ⟨(some 19), (.ext 0 (.tmp 16)), .sl, none⟩,
  ⟨(some 20), (.ext 1 (.tmp 16)), (.int .i64), none⟩,
  ⟨(some 5), (.mv (.tmp 19)), .sl, none⟩,
  ⟨(some 6), (.mv (.tmp 20)), (.int .i64), none⟩] [2, 6, 5, 1])
 (.seq (.ops [⟨(some 22), (.ldN 5 (.tmp 2)), .agg, none⟩,
  ⟨(some 23), (.call 5 [(.tmp 22)] [.sl, (.int .i64)]), .any, none⟩,
  ⟨(some 21), (.mv (.tmp 23)), .any, none⟩,
  ⟨(some 24), (.ext 0 (.tmp 21)), .sl, none⟩,
  ⟨(some 25), (.ext 1 (.tmp 21)), (.int .i64), none⟩,
  ⟨(some 7), (.mv (.tmp 24)), .sl, none⟩,
  ⟨(some 8), (.mv (.tmp 25)), (.int .i64), none⟩] [6, 8, 5, 7, 2, 1])
 (.join [] [1, 2, 5, 8]
 (.seq (.ops [⟨(some 26), (.mv (.tmp 6)), (.int .i64), none⟩,
  ⟨(some 27), (.call 6 [(.tmp 26)] [(.int .i64)]), (.int .i64), none⟩,
  ⟨(some 28), (.mv (.tmp 8)), (.int .i64), none⟩,
  ⟨(some 29), (.bin .neq (.tmp 27) (.tmp 28)), .bool, none⟩,
  ⟨(some 30), (.mv (.tmp 29)), .bool, none⟩,
  ⟨(some 31), (.mv (.tmp 5)), .sl, (some (30, false))⟩,
  ⟨(some 32), (.mv (.tmp 7)), .sl, (some (30, false))⟩,
  ⟨(some 33), (.call 7 [(.tmp 31), (.tmp 32)] [.bool]), .bool, (some (30, false))⟩,
  ⟨(some 34), (.un .not (.tmp 33)), .bool, (some (30, false))⟩,
  ⟨(some 35), (.pick (.tmp 30) (.const (.bool true)) (.tmp 34)), .bool, none⟩] [35, 8, 5, 2, 1])
 (.cond (.tmp 35)
 (.seq (.ops [⟨(some 4), (.mv (.const (.bool false))), .bool, none⟩] [4])
 .ret)
 .skip))
 (.join [] [1]
 (.seq (.ops [⟨(some 36), (.mv (.tmp 8)), (.int .i64), none⟩,
  ⟨(some 37), (.bin .eql (.tmp 36) (.const (.int .i64 0))), .bool, none⟩] [37, 5, 2, 1])
 (.cond (.tmp 37)
 (.seq (.ops [⟨(some 39), (.bld0 5 0), .sl, none⟩,
  ⟨(some 40), (.mv (.tmp 5)), .sl, none⟩,
  ⟨(some 41), (.app #[29, 29] 29 (.tmp 39) (.tmp 40)), .sl, none⟩,
  ⟨(some 42), (.call 8 [(.tmp 41)] [.agg, (.int .i64)]), .any, none⟩,
  ⟨(some 38), (.mv (.tmp 42)), .any, none⟩,
  ⟨(some 43), (.ext 0 (.tmp 38)), .agg, none⟩,
  ⟨(some 44), (.ext 1 (.tmp 38)), (.int .i64), none⟩,
  ⟨(some 9), (.alloc 28), .ptr, none⟩,
  ⟨none, (.stN 5 (.tmp 9) (.tmp 43)), .any, none⟩,
  ⟨(some 10), (.mv (.tmp 44)), (.int .i64), none⟩] [10, 9, 2, 1])
 (.seq (.ops [⟨(some 45), (.mv (.tmp 10)), (.int .i64), none⟩,
  ⟨(some 46), (.call 6 [(.tmp 45)] [(.int .i64)]), (.int .i64), none⟩,
  ⟨(some 47), (.bin .neq (.tmp 46) (.const (.int .i64 0))), .bool, none⟩,
  ⟨(some 48), (.mv (.tmp 47)), .bool, none⟩,
  ⟨(some 49), (.ldN 5 (.tmp 9)), .agg, (some (48, false))⟩,
  ⟨(some 50), (.ldN 5 (.tmp 2)), .agg, (some (48, false))⟩,
  ⟨(some 51), (.call 9 [(.tmp 49), (.tmp 50)] [.bool]), .bool, (some (48, false))⟩,
  ⟨(some 52), (.un .not (.tmp 51)), .bool, (some (48, false))⟩,
  ⟨(some 53), (.pick (.tmp 48) (.const (.bool true)) (.tmp 52)), .bool, none⟩] [53, 1])
 (.cond (.tmp 53)
 (.seq (.ops [⟨(some 4), (.mv (.const (.bool false))), .bool, none⟩] [4])
 .ret)
 .skip)))
 .skip))
 (.seq (.ops [⟨(some 55), (.bld0 5 0), .sl, none⟩,
  ⟨(some 56), (.mv (.tmp 1)), .sl, none⟩,
  ⟨(some 57), (.app #[29, 29] 29 (.tmp 55) (.tmp 56)), .sl, none⟩,
  ⟨(some 58), (.call 8 [(.tmp 57)] [.agg, (.int .i64)]), .any, none⟩,
  ⟨(some 54), (.mv (.tmp 58)), .any, none⟩,
  ⟨(some 59), (.ext 0 (.tmp 54)), .agg, none⟩,
  ⟨(some 60), (.ext 1 (.tmp 54)), (.int .i64), none⟩,
  ⟨(some 11), (.alloc 28), .ptr, none⟩,
  ⟨none, (.stN 5 (.tmp 11) (.tmp 59)), .any, none⟩,
  ⟨(some 12), (.mv (.tmp 60)), (.int .i64), none⟩] [1, 12, 11])
 (.seq (.ops [⟨(some 62), (.mv (.tmp 1)), .sl, none⟩,
  ⟨(some 63), (.call 10 [(.tmp 62)] [.agg, (.int .i64)]), .any, none⟩,
  ⟨(some 61), (.mv (.tmp 63)), .any, none⟩,
  ⟨(some 64), (.ext 0 (.tmp 61)), .agg, none⟩,
  ⟨(some 65), (.ext 1 (.tmp 61)), (.int .i64), none⟩,
  ⟨(some 13), (.alloc 28), .ptr, none⟩,
  ⟨none, (.stN 5 (.tmp 13) (.tmp 64)), .any, none⟩,
  ⟨(some 14), (.mv (.tmp 65)), (.int .i64), none⟩] [12, 14, 11, 13, 1])
 (.join [] [1, 11, 14]
 (.seq (.ops [⟨(some 66), (.mv (.tmp 12)), (.int .i64), none⟩,
  ⟨(some 67), (.call 6 [(.tmp 66)] [(.int .i64)]), (.int .i64), none⟩,
  ⟨(some 68), (.mv (.tmp 14)), (.int .i64), none⟩,
  ⟨(some 69), (.bin .neq (.tmp 67) (.tmp 68)), .bool, none⟩,
  ⟨(some 70), (.mv (.tmp 69)), .bool, none⟩,
  ⟨(some 71), (.ldN 5 (.tmp 11)), .agg, (some (70, false))⟩,
  ⟨(some 72), (.ldN 5 (.tmp 13)), .agg, (some (70, false))⟩,
  ⟨(some 73), (.call 9 [(.tmp 71), (.tmp 72)] [.bool]), .bool, (some (70, false))⟩,
  ⟨(some 74), (.un .not (.tmp 73)), .bool, (some (70, false))⟩,
  ⟨(some 75), (.pick (.tmp 70) (.const (.bool true)) (.tmp 74)), .bool, none⟩] [75, 14, 11, 1])
 (.cond (.tmp 75)
 (.seq (.ops [⟨(some 4), (.mv (.const (.bool false))), .bool, none⟩] [4])
 .ret)
 .skip))
 (.seq (.seq (.ops [⟨(some 76), (.mv (.tmp 14)), (.int .i64), none⟩,
  ⟨(some 77), (.bin .neq (.tmp 76) (.const (.int .i64 0))), .bool, none⟩] [77, 11, 1])
 (.cond (.tmp 77)
 (.seq (.ops [⟨(some 4), (.mv (.const (.bool true))), .bool, none⟩] [4])
 .ret)
 .skip))
 (.seq (.ops [⟨(some 79), (.ldN 5 (.tmp 11)), .agg, none⟩,
  ⟨(some 80), (.call 4 [(.tmp 79)] [.sl, (.int .i64)]), .any, none⟩,
  ⟨(some 78), (.mv (.tmp 80)), .any, none⟩,
  ⟨(some 81), (.ext 0 (.tmp 78)), .sl, none⟩,
  ⟨(some 82), (.ext 1 (.tmp 78)), (.int .i64), none⟩,
  ⟨(some 15), (.mv (.tmp 81)), .sl, none⟩,
  ⟨(some 6), (.mv (.tmp 82)), (.int .i64), none⟩] [6, 15, 1])
 (.seq (.ops [⟨(some 83), (.mv (.tmp 6)), (.int .i64), none⟩,
  ⟨(some 84), (.call 6 [(.tmp 83)] [(.int .i64)]), (.int .i64), none⟩,
  ⟨(some 85), (.bin .eql (.tmp 84) (.const (.int .i64 0))), .bool, none⟩,
  ⟨(some 86), (.mv (.tmp 85)), .bool, none⟩,
  ⟨(some 87), (.mv (.tmp 15)), .sl, (some (86, true))⟩,
  ⟨(some 88), (.mv (.tmp 1)), .sl, (some (86, true))⟩,
  ⟨(some 89), (.call 7 [(.tmp 87), (.tmp 88)] [.bool]), .bool, (some (86, true))⟩,
  ⟨(some 90), (.pick (.tmp 86) (.tmp 89) (.const (.bool false))), .bool, none⟩,
  ⟨(some 4), (.mv (.tmp 90)), .bool, none⟩] [4])
 .ret)))))))))))
def r3 : List Res := [.t 4]
theorem tr3 : trS Try.prog [] 91 (Try.f3.body.getD .skip) s3 = some s3 := by kernel_rfl
theorem den3 (args : List Value) (w : World) (R : Ending → World → Prop) (hn : args.length ≤ 91) (h : denS Try.prog s3 (argsEnv 0 args) w (endK r3 R)) : Calls Try.prog 3 args.toArray w R :=
  calls_of_den (pn := []) (fn := Try.f3) (c := Try.f3.body.getD .skip) Try.func3 (by kernel_rfl) (by rw [Try.ntmps3]; exact hn) (by rw [Try.ntmps3]; exact tr3) (by kernel_rfl) h
def d3 (p0 : Array Value) (b1 : Option Addr) (b1n : Nat) (b1c : Nat) (w : World) (R : Ending → World → Prop) : Prop :=
 ∀ w2 : World, w2 = World.alloc w (.cells p0 28) →
 ∃ cs3 : List Value, List.length cs3 = 5 ∧ Cells w2 ⟨World.heap w |>.size, 0, none⟩ cs3 ∧
 Calls Try.prog 4 #[(.agg (List.toArray cs3))] w2 fun e4 w5 => ∃ (x6 : Option Addr) (x6n : Nat) (x6c : Nat), ∃ x7 : Int, e4 = .returned (.tuple #[(.slice x6 x6n x6c), (.int .i64 x7)]) ∧
 ∃ (x8 : Option Addr) (x8n : Nat) (x8c : Nat), (#[(.slice x6 x6n x6c), (.int .i64 x7)] : Array Value)[0]? = some (.slice x8 x8n x8c) ∧
 ∃ x9 : Int, (#[(.slice x6 x6n x6c), (.int .i64 x7)] : Array Value)[1]? = some (.int .i64 x9) ∧
 ∃ cs10 : List Value, List.length cs10 = 5 ∧ Cells w5 ⟨World.heap w |>.size, 0, none⟩ cs10 ∧
 Calls Try.prog 5 #[(.agg (List.toArray cs10))] w5 fun e11 w12 => ∃ (x13 : Option Addr) (x13n : Nat) (x13c : Nat), ∃ x14 : Int, e11 = .returned (.tuple #[(.slice x13 x13n x13c), (.int .i64 x14)]) ∧
 ∃ (x15 : Option Addr) (x15n : Nat) (x15c : Nat), (#[(.slice x13 x13n x13c), (.int .i64 x14)] : Array Value)[0]? = some (.slice x15 x15n x15c) ∧
 ∃ x16 : Int, (#[(.slice x13 x13n x13c), (.int .i64 x14)] : Array Value)[1]? = some (.int .i64 x16) ∧
 ∃ J17 : World → Prop,
 (Calls Try.prog 6 #[(.int .i64 x9)] w12 fun e18 w19 => ∃ x20 : Int, e18 = .returned (.int .i64 x20) ∧
 (bif (!decide (x20 = x16)) then
 (R (.returned (.bool false)) w19)
 else
 (Calls Try.prog 7 #[(.slice x8 x8n x8c), (.slice x15 x15n x15c)] w19 fun e21 w22 => ∃ x23 : Bool, e21 = .returned (.bool x23) ∧
 (bif (!x23) then
 (R (.returned (.bool false)) w22)
 else
 (J17  w22))))) ∧
 (∀ (w24 : World), J17  w24 →
 ∃ J25 : World → Prop,
 ((bif (decide (x16 = 0)) then
 (∀ w26 : World, w26 = World.alloc w24 (.cells #[] 5) →
 RunV Try.prog (Builtin.append_ #[29, 29] 29 #[(.slice (some ⟨World.heap w24 |>.size, 0, none⟩) 0 0), (.slice x8 x8n x8c)]) w26 fun v27 w28 => ∃ (x29 : Option Addr) (x29n : Nat) (x29c : Nat), v27 = (.slice x29 x29n x29c) ∧
 Calls Try.prog 8 #[(.slice x29 x29n x29c)] w28 fun e30 w31 => ∃ x32 : Array Value, ∃ x33 : Int, e30 = .returned (.tuple #[(.agg x32), (.int .i64 x33)]) ∧
 ∃ x34 : Array Value, (#[(.agg x32), (.int .i64 x33)] : Array Value)[0]? = some (.agg x34) ∧
 ∃ x35 : Int, (#[(.agg x32), (.int .i64 x33)] : Array Value)[1]? = some (.int .i64 x35) ∧
 ∀ w36 : World, w36 = World.alloc w31 (.cells (zc Try.prog 28).toArray 28) →
 Array.size x34 = 5 ∧ (∀ u ∈ Array.toList x34, one u = true) ∧ Room w36 ⟨World.heap w31 |>.size, 0, none⟩ 5 ∧
 ∀ w37 : World, w37 = setCells w36 ⟨World.heap w31 |>.size, 0, none⟩ (Array.toList x34) 0 →
 Calls Try.prog 6 #[(.int .i64 x35)] w37 fun e38 w39 => ∃ x40 : Int, e38 = .returned (.int .i64 x40) ∧
 (bif (!decide (x40 = 0)) then
 (R (.returned (.bool false)) w39)
 else
 (∃ cs41 : List Value, List.length cs41 = 5 ∧ Cells w39 ⟨World.heap w31 |>.size, 0, none⟩ cs41 ∧
 ∃ cs42 : List Value, List.length cs42 = 5 ∧ Cells w39 ⟨World.heap w |>.size, 0, none⟩ cs42 ∧
 Calls Try.prog 9 #[(.agg (List.toArray cs41)), (.agg (List.toArray cs42))] w39 fun e43 w44 => ∃ x45 : Bool, e43 = .returned (.bool x45) ∧
 (bif (!x45) then
 (R (.returned (.bool false)) w44)
 else
 (J25  w44)))))
 else
 (J25  w24))) ∧
 (∀ (w46 : World), J25  w46 →
 ∀ w47 : World, w47 = World.alloc w46 (.cells #[] 5) →
 RunV Try.prog (Builtin.append_ #[29, 29] 29 #[(.slice (some ⟨World.heap w46 |>.size, 0, none⟩) 0 0), (.slice b1 b1n b1c)]) w47 fun v48 w49 => ∃ (x50 : Option Addr) (x50n : Nat) (x50c : Nat), v48 = (.slice x50 x50n x50c) ∧
 Calls Try.prog 8 #[(.slice x50 x50n x50c)] w49 fun e51 w52 => ∃ x53 : Array Value, ∃ x54 : Int, e51 = .returned (.tuple #[(.agg x53), (.int .i64 x54)]) ∧
 ∃ x55 : Array Value, (#[(.agg x53), (.int .i64 x54)] : Array Value)[0]? = some (.agg x55) ∧
 ∃ x56 : Int, (#[(.agg x53), (.int .i64 x54)] : Array Value)[1]? = some (.int .i64 x56) ∧
 ∀ w57 : World, w57 = World.alloc w52 (.cells (zc Try.prog 28).toArray 28) →
 Array.size x55 = 5 ∧ (∀ u ∈ Array.toList x55, one u = true) ∧ Room w57 ⟨World.heap w52 |>.size, 0, none⟩ 5 ∧
 ∀ w58 : World, w58 = setCells w57 ⟨World.heap w52 |>.size, 0, none⟩ (Array.toList x55) 0 →
 Calls Try.prog 10 #[(.slice b1 b1n b1c)] w58 fun e59 w60 => ∃ x61 : Array Value, ∃ x62 : Int, e59 = .returned (.tuple #[(.agg x61), (.int .i64 x62)]) ∧
 ∃ x63 : Array Value, (#[(.agg x61), (.int .i64 x62)] : Array Value)[0]? = some (.agg x63) ∧
 ∃ x64 : Int, (#[(.agg x61), (.int .i64 x62)] : Array Value)[1]? = some (.int .i64 x64) ∧
 ∀ w65 : World, w65 = World.alloc w60 (.cells (zc Try.prog 28).toArray 28) →
 Array.size x63 = 5 ∧ (∀ u ∈ Array.toList x63, one u = true) ∧ Room w65 ⟨World.heap w60 |>.size, 0, none⟩ 5 ∧
 ∀ w66 : World, w66 = setCells w65 ⟨World.heap w60 |>.size, 0, none⟩ (Array.toList x63) 0 →
 ∃ J67 : World → Prop,
 (Calls Try.prog 6 #[(.int .i64 x56)] w66 fun e68 w69 => ∃ x70 : Int, e68 = .returned (.int .i64 x70) ∧
 (bif (!decide (x70 = x64)) then
 (R (.returned (.bool false)) w69)
 else
 (∃ cs71 : List Value, List.length cs71 = 5 ∧ Cells w69 ⟨World.heap w52 |>.size, 0, none⟩ cs71 ∧
 ∃ cs72 : List Value, List.length cs72 = 5 ∧ Cells w69 ⟨World.heap w60 |>.size, 0, none⟩ cs72 ∧
 Calls Try.prog 9 #[(.agg (List.toArray cs71)), (.agg (List.toArray cs72))] w69 fun e73 w74 => ∃ x75 : Bool, e73 = .returned (.bool x75) ∧
 (bif (!x75) then
 (R (.returned (.bool false)) w74)
 else
 (J67  w74))))) ∧
 (∀ (w76 : World), J67  w76 →
 (bif (!decide (x64 = 0)) then
 (R (.returned (.bool true)) w76)
 else
 (∃ cs77 : List Value, List.length cs77 = 5 ∧ Cells w76 ⟨World.heap w52 |>.size, 0, none⟩ cs77 ∧
 Calls Try.prog 4 #[(.agg (List.toArray cs77))] w76 fun e78 w79 => ∃ (x80 : Option Addr) (x80n : Nat) (x80c : Nat), ∃ x81 : Int, e78 = .returned (.tuple #[(.slice x80 x80n x80c), (.int .i64 x81)]) ∧
 ∃ (x82 : Option Addr) (x82n : Nat) (x82c : Nat), (#[(.slice x80 x80n x80c), (.int .i64 x81)] : Array Value)[0]? = some (.slice x82 x82n x82c) ∧
 ∃ x83 : Int, (#[(.slice x80 x80n x80c), (.int .i64 x81)] : Array Value)[1]? = some (.int .i64 x83) ∧
 Calls Try.prog 6 #[(.int .i64 x83)] w79 fun e84 w85 => ∃ x86 : Int, e84 = .returned (.int .i64 x86) ∧
 (bif (decide (x86 = 0)) then
 (Calls Try.prog 7 #[(.slice x82 x82n x82c), (.slice b1 b1n b1c)] w85 fun e87 w88 => ∃ x89 : Bool, e87 = .returned (.bool x89) ∧
 R (.returned (.bool x89)) w88)
 else
 (R (.returned (.bool false)) w85)))))))
theorem e3 (p0 : Array Value) (b1 : Option Addr) (b1n : Nat) (b1c : Nat) (w : World) (R : Ending → World → Prop) : denS Try.prog s3 (argsEnv 0 [(.agg p0), (.slice b1 b1n b1c)]) w (endK r3 R) = d3 p0 b1 b1n b1c w R := by kernel_rfl
theorem c3 (p0 : Array Value) (b1 : Option Addr) (b1n : Nat) (b1c : Nat) {w : World} {R : Ending → World → Prop} (h : d3 p0 b1 b1n b1c w R) : Calls Try.prog 3 #[(.agg p0), (.slice b1 b1n b1c)] w R :=
  den3 [(.agg p0), (.slice b1 b1n b1c)] w R (by simp) ((e3 p0 b1 b1n b1c w R).symm ▸ h)

/-- prelude/proof.Encode -/
def s4 : S := (.seq (.ops [⟨(some 1), (.box 28 (.tmp 0)), .ptr, none⟩,
  ⟨(some 2), (.mv (.const (.slice none 0 0))), .sl, none⟩,
  ⟨(some 3), (.mv (.const (.int .i64 0))), (.int .i64), none⟩] [1])
 (.join [] [1]
 (.seq (.ops [⟨(some 9), (.fa 0 (.tmp 1)), .ptr, none⟩,
  ⟨(some 10), (.ld1 (.tmp 9)), .sl, none⟩,
  ⟨(some 11), (.len (.tmp 10)), (.int .i64), none⟩,
  ⟨(some 12), (.bin .gtr (.tmp 11) (.const (.int .i64 80))), .bool, none⟩,
  ⟨(some 13), (.mv (.tmp 12)), .bool, none⟩,
  ⟨(some 14), (.fa 1 (.tmp 1)), .ptr, (some (13, false))⟩,
  ⟨(some 15), (.ld1 (.tmp 14)), .bool, (some (13, false))⟩,
  ⟨(some 16), (.un .not (.tmp 15)), .bool, (some (13, false))⟩,
  ⟨(some 17), (.mv (.tmp 16)), .bool, (some (13, false))⟩,
  ⟨(some 18), (.fa 2 (.tmp 1)), .ptr, (some (17, true))⟩,
  ⟨(some 19), (.ldN 3 (.tmp 18)), .agg, (some (17, true))⟩,
  ⟨(some 20), (.bld 26 (.fields [(0, 2), (2, 1)]) []), .agg, (some (17, true))⟩,
  ⟨(some 21), (.eqG .neq 26 (.tmp 19) (.tmp 20)), .bool, (some (17, true))⟩,
  ⟨(some 22), (.pick (.tmp 17) (.tmp 21) (.const (.bool false))), .bool, (some (13, false))⟩,
  ⟨(some 23), (.pick (.tmp 13) (.const (.bool true)) (.tmp 22)), .bool, none⟩,
  ⟨(some 24), (.mv (.tmp 23)), .bool, none⟩,
  ⟨(some 25), (.fa 1 (.tmp 1)), .ptr, (some (24, false))⟩,
  ⟨(some 26), (.ld1 (.tmp 25)), .bool, (some (24, false))⟩,
  ⟨(some 27), (.mv (.tmp 26)), .bool, (some (24, false))⟩,
  ⟨(some 28), (.fa 2 (.tmp 1)), .ptr, (some (27, true))⟩,
  ⟨(some 29), (.fa 0 (.tmp 28)), .ptr, (some (27, true))⟩,
  ⟨(some 30), (.ldN 2 (.tmp 29)), .agg, (some (27, true))⟩,
  ⟨(some 31), (.call 11 [(.tmp 30)] [(.int .i64)]), (.int .i64), (some (27, true))⟩,
  ⟨(some 32), (.bin .neq (.tmp 31) (.const (.int .i64 0))), .bool, (some (27, true))⟩,
  ⟨(some 33), (.pick (.tmp 27) (.tmp 32) (.const (.bool false))), .bool, (some (24, false))⟩,
  ⟨(some 34), (.pick (.tmp 24) (.const (.bool true)) (.tmp 33)), .bool, none⟩] [34, 1])
 (.cond (.tmp 34)
 (.seq (.ops [⟨(some 2), (.mv (.const (.slice none 0 0))), .sl, none⟩,
  ⟨(some 3), (.mv (.const (.int .i64 250))), (.int .i64), none⟩] [2, 3])
 .ret)
 .skip))
 (.seq (.ops [⟨(some 35), (.call 12 [] [.ptr]), .ptr, none⟩,
  ⟨(some 4), (.mv (.tmp 35)), .ptr, none⟩] [4, 1])
 (.seq (.ops [⟨(some 36), (.mv (.tmp 4)), .ptr, none⟩,
  ⟨(some 37), (.fa 0 (.tmp 1)), .ptr, none⟩,
  ⟨(some 38), (.ld1 (.tmp 37)), .sl, none⟩,
  ⟨(some 39), (.len (.tmp 38)), (.int .i64), none⟩,
  ⟨(some 40), (.cv .u64 (.tmp 39)), (.int .u64), none⟩,
  ⟨(some 41), (.call 13 [(.tmp 36), (.tmp 40)] []), .any, none⟩] [1, 4])
 (.seq (.seq (.ops [⟨(some 42), (.fa 0 (.tmp 1)), .ptr, none⟩,
  ⟨(some 43), (.ld1 (.tmp 42)), .sl, none⟩,
  ⟨(some 44), (.len (.tmp 43)), (.int .i64), none⟩,
  ⟨(some 45), (.mv (.const (.int .i64 0))), (.int .i64), none⟩] [45, 44, 43, 4, 1])
 (.block 0
 (.loop [(45, (.int .i64))] [1, 4, 43, 44]
 (.seq (.ops [⟨(some 46), (.bin .lss (.tmp 45) (.tmp 44)), .any, none⟩] [46, 43, 45, 4, 44, 1])
 (.seq (.cond (.tmp 46)
 .skip
 (.exit 0))
 (.seq (.block 1
 (.seq (.ops [⟨(some 47), (.ia 33 (.tmp 43) (.tmp 45)), .ptr, none⟩,
  ⟨(some 48), (.ldN 33 (.tmp 47)), .agg, none⟩,
  ⟨(some 6), (.alloc 51), .ptr, none⟩,
  ⟨none, (.stN 33 (.tmp 6) (.tmp 48)), .any, none⟩] [6, 4, 45, 44, 43, 1])
 (.seq (.seq (.ops [⟨(some 49), (.fa 0 (.tmp 6)), .ptr, none⟩,
  ⟨(some 50), (.ld1 (.tmp 49)), (.int .i64), none⟩,
  ⟨(some 51), (.call 14 [(.tmp 50)] [.bool]), .bool, none⟩,
  ⟨(some 52), (.un .not (.tmp 51)), .bool, none⟩] [52, 4, 6, 45, 44, 43, 1])
 (.cond (.tmp 52)
 (.seq (.ops [⟨(some 2), (.mv (.const (.slice none 0 0))), .sl, none⟩,
  ⟨(some 3), (.mv (.const (.int .i64 250))), (.int .i64), none⟩] [2, 3])
 .ret)
 .skip))
 (.seq (.ops [⟨(some 53), (.mv (.tmp 4)), .ptr, none⟩,
  ⟨(some 54), (.fa 0 (.tmp 6)), .ptr, none⟩,
  ⟨(some 55), (.ld1 (.tmp 54)), (.int .i64), none⟩,
  ⟨(some 56), (.cv .u8 (.tmp 55)), (.int .u8), none⟩,
  ⟨(some 57), (.call 15 [(.tmp 53), (.tmp 56)] []), .any, none⟩] [4, 6, 45, 44, 43, 1])
 (.ops [⟨(some 58), (.mv (.tmp 4)), .ptr, none⟩,
  ⟨(some 59), (.fa 1 (.tmp 6)), .ptr, none⟩,
  ⟨(some 60), (.slA 32 1 (.tmp 59) none none none), .sl, none⟩,
  ⟨(some 61), (.call 16 [(.tmp 58), (.tmp 60)] []), .any, none⟩] [45, 44, 43, 4, 1])))))
 (.ops [⟨(some 62), (.bin .add (.tmp 45) (.const (.int .i64 1))), (.int .i64), none⟩,
  ⟨(some 45), (.mv (.tmp 62)), (.int .i64), none⟩] [45, 44, 43, 4, 1])))))))
 (.seq (.seq (.ops [⟨(some 63), (.fa 1 (.tmp 1)), .ptr, none⟩,
  ⟨(some 64), (.ld1 (.tmp 63)), .bool, none⟩,
  ⟨(some 65), (.un .not (.tmp 64)), .bool, none⟩] [65, 4, 1])
 (.cond (.tmp 65)
 (.seq (.ops [⟨(some 66), (.mv (.tmp 4)), .ptr, none⟩,
  ⟨(some 67), (.call 15 [(.tmp 66), (.const (.int .u8 0))] []), .any, none⟩] [4])
 (.seq (.ops [⟨(some 68), (.mv (.tmp 4)), .ptr, none⟩,
  ⟨(some 69), (.call 17 [(.tmp 68)] [.sl]), .sl, none⟩,
  ⟨(some 2), (.mv (.tmp 69)), .sl, none⟩,
  ⟨(some 3), (.mv (.const (.int .i64 0))), (.int .i64), none⟩] [2, 3])
 .ret))
 .skip))
 (.seq (.ops [⟨(some 70), (.mv (.tmp 4)), .ptr, none⟩,
  ⟨(some 71), (.call 15 [(.tmp 70), (.const (.int .u8 1))] []), .any, none⟩] [1, 4])
 (.seq (.ops [⟨(some 73), (.fa 2 (.tmp 1)), .ptr, none⟩,
  ⟨(some 74), (.fa 0 (.tmp 73)), .ptr, none⟩,
  ⟨(some 75), (.ldN 2 (.tmp 74)), .agg, none⟩,
  ⟨(some 76), (.call 18 [(.tmp 75)] [.sl, (.int .i64)]), .any, none⟩,
  ⟨(some 72), (.mv (.tmp 76)), .any, none⟩,
  ⟨(some 77), (.ext 0 (.tmp 72)), .sl, none⟩,
  ⟨(some 78), (.ext 1 (.tmp 72)), (.int .i64), none⟩,
  ⟨(some 7), (.mv (.tmp 77)), .sl, none⟩,
  ⟨(some 8), (.mv (.tmp 78)), (.int .i64), none⟩] [4, 7, 1])
 (.seq (.ops [⟨(some 79), (.mv (.tmp 4)), .ptr, none⟩,
  ⟨(some 80), (.mv (.tmp 7)), .sl, none⟩,
  ⟨(some 81), (.call 16 [(.tmp 79), (.tmp 80)] []), .any, none⟩] [4, 1])
 (.seq (.ops [⟨(some 82), (.mv (.tmp 4)), .ptr, none⟩,
  ⟨(some 83), (.fa 2 (.tmp 1)), .ptr, none⟩,
  ⟨(some 84), (.fa 2 (.tmp 83)), .ptr, none⟩,
  ⟨(some 85), (.ld1 (.tmp 84)), (.int .i64), none⟩,
  ⟨(some 86), (.call 19 [(.tmp 82), (.tmp 85)] []), .any, none⟩] [4])
 (.seq (.ops [⟨(some 87), (.mv (.tmp 4)), .ptr, none⟩,
  ⟨(some 88), (.call 17 [(.tmp 87)] [.sl]), .sl, none⟩,
  ⟨(some 2), (.mv (.tmp 88)), .sl, none⟩,
  ⟨(some 3), (.mv (.const (.int .i64 0))), (.int .i64), none⟩] [2, 3])
 .ret)))))))))))
def r4 : List Res := [.t 2, .t 3]
theorem tr4 : trS Try.prog [] 89 (Try.f4.body.getD .skip) s4 = some s4 := by kernel_rfl
theorem den4 (args : List Value) (w : World) (R : Ending → World → Prop) (hn : args.length ≤ 89) (h : denS Try.prog s4 (argsEnv 0 args) w (endK r4 R)) : Calls Try.prog 4 args.toArray w R :=
  calls_of_den (pn := []) (fn := Try.f4) (c := Try.f4.body.getD .skip) Try.func4 (by kernel_rfl) (by rw [Try.ntmps4]; exact hn) (by rw [Try.ntmps4]; exact tr4) (by kernel_rfl) h
def d4 (p0 : Array Value) (w : World) (R : Ending → World → Prop) : Prop :=
 ∀ w1 : World, w1 = World.alloc w (.cells p0 28) →
 ∃ J2 : World → Prop,
 (∃ (x3 : Option Addr) (x3n : Nat) (x3c : Nat), World.cell? w1 (Addr.add ⟨World.heap w |>.size, 0, none⟩ 0) = some (.slice x3 x3n x3c) ∧
 (bif (decide (80 < ((x3n : Nat) : Int))) then
 (R (.returned (.tuple #[(.slice none 0 0), (.int .i64 250)])) w1)
 else
 (∃ x4 : Bool, World.cell? w1 (Addr.add ⟨World.heap w |>.size, 0, none⟩ 1) = some (.bool x4) ∧
 (bif (!x4) then
 (∃ cs5 : List Value, List.length cs5 = 3 ∧ Cells w1 (Addr.add ⟨World.heap w |>.size, 0, none⟩ 2) cs5 ∧
 ∃ cs6, fillL (.fields [(0, 2), (2, 1)]) (zc Try.prog 26) [] = some cs6 ∧
 ∃ q7 : Bool, Sem.run Try.prog (do eqGuard .neq 26 (.tmp 19) (.tmp 20) (.agg (List.toArray cs5)) (.agg (List.toArray cs6)); binOp .neq 26 (.agg (List.toArray cs5)) (.agg (List.toArray cs6))) w1 = .ok (.bool q7) w1 ∧
 (bif q7 then
 (R (.returned (.tuple #[(.slice none 0 0), (.int .i64 250)])) w1)
 else
 (∃ x8 : Bool, World.cell? w1 (Addr.add ⟨World.heap w |>.size, 0, none⟩ 1) = some (.bool x8) ∧
 (bif x8 then
 (∃ cs9 : List Value, List.length cs9 = 2 ∧ Cells w1 (Addr.add (Addr.add ⟨World.heap w |>.size, 0, none⟩ 2) 0) cs9 ∧
 Calls Try.prog 11 #[(.agg (List.toArray cs9))] w1 fun e10 w11 => ∃ x12 : Int, e10 = .returned (.int .i64 x12) ∧
 (bif (!decide (x12 = 0)) then
 (R (.returned (.tuple #[(.slice none 0 0), (.int .i64 250)])) w11)
 else
 (J2  w11)))
 else
 (J2  w1)))))
 else
 (∃ x13 : Bool, World.cell? w1 (Addr.add ⟨World.heap w |>.size, 0, none⟩ 1) = some (.bool x13) ∧
 (bif x13 then
 (∃ cs14 : List Value, List.length cs14 = 2 ∧ Cells w1 (Addr.add (Addr.add ⟨World.heap w |>.size, 0, none⟩ 2) 0) cs14 ∧
 Calls Try.prog 11 #[(.agg (List.toArray cs14))] w1 fun e15 w16 => ∃ x17 : Int, e15 = .returned (.int .i64 x17) ∧
 (bif (!decide (x17 = 0)) then
 (R (.returned (.tuple #[(.slice none 0 0), (.int .i64 250)])) w16)
 else
 (J2  w16)))
 else
 (J2  w1))))))) ∧
 (∀ (w18 : World), J2  w18 →
 Calls Try.prog 12 #[] w18 fun e19 w20 => ∃ x21 : Option Addr, e19 = .returned (.pointer x21) ∧
 ∃ (x22 : Option Addr) (x22n : Nat) (x22c : Nat), World.cell? w20 (Addr.add ⟨World.heap w |>.size, 0, none⟩ 0) = some (.slice x22 x22n x22c) ∧
 Calls Try.prog 13 #[(.pointer x21), (.int .u64 (IntKind.wrap .u64 ((x22n : Nat) : Int)))] w20 fun e23 w24 => e23 = .returned (.tuple #[]) ∧ ∃ (x25 : Option Addr) (x25n : Nat) (x25c : Nat), World.cell? w24 (Addr.add ⟨World.heap w |>.size, 0, none⟩ 0) = some (.slice x25 x25n x25c) ∧
 ∃ I26 : Nat → Int → World → Prop,
 (∃ m, I26 m 0 w24) ∧
 (∀ (m27 : Nat) (w28 : World) (x29 : Int), I26 m27 x29 w28 →
 (bif (decide (x29 < ((x25n : Nat) : Int))) then
 (0 ≤ x29 ∧ x29 < ((x25n : Nat) : Int) ∧ optK x25 fun a30 =>
 ∃ cs31 : List Value, List.length cs31 = 33 ∧ Cells w28 (Addr.add a30 (Int.toNat x29 * 33)) cs31 ∧
 ∀ w32 : World, w32 = World.alloc w28 (.cells (zc Try.prog 51).toArray 51) →
 Array.size (List.toArray cs31) = 33 ∧ (∀ u ∈ Array.toList (List.toArray cs31), one u = true) ∧ Room w32 ⟨World.heap w28 |>.size, 0, none⟩ 33 ∧
 ∀ w33 : World, w33 = setCells w32 ⟨World.heap w28 |>.size, 0, none⟩ (Array.toList (List.toArray cs31)) 0 →
 ∃ x34 : Int, World.cell? w33 (Addr.add ⟨World.heap w28 |>.size, 0, none⟩ 0) = some (.int .i64 x34) ∧
 Calls Try.prog 14 #[(.int .i64 x34)] w33 fun e35 w36 => ∃ x37 : Bool, e35 = .returned (.bool x37) ∧
 (bif (!x37) then
 (R (.returned (.tuple #[(.slice none 0 0), (.int .i64 250)])) w36)
 else
 (∃ x38 : Int, World.cell? w36 (Addr.add ⟨World.heap w28 |>.size, 0, none⟩ 0) = some (.int .i64 x38) ∧
 Calls Try.prog 15 #[(.pointer x21), (.int .u8 (IntKind.wrap .u8 x38))] w36 fun e39 w40 => e39 = .returned (.tuple #[]) ∧ Calls Try.prog 16 #[(.pointer x21), (.slice (some (if 32 = 0 then (Addr.add ⟨World.heap w28 |>.size, 0, none⟩ 1) else Addr.add (Addr.add ⟨World.heap w28 |>.size, 0, none⟩ 1) (0 * 1))) (32 - 0) (32 - 0))] w40 fun e41 w42 => e41 = .returned (.tuple #[]) ∧ ∃ m43, m43 < m27 ∧ I26 m43 (IntKind.wrap .i64 (x29 + 1)) w42)))
 else
 (∃ x44 : Bool, World.cell? w28 (Addr.add ⟨World.heap w |>.size, 0, none⟩ 1) = some (.bool x44) ∧
 (bif (!x44) then
 (Calls Try.prog 15 #[(.pointer x21), (.int .u8 0)] w28 fun e45 w46 => e45 = .returned (.tuple #[]) ∧ Calls Try.prog 17 #[(.pointer x21)] w46 fun e47 w48 => ∃ (x49 : Option Addr) (x49n : Nat) (x49c : Nat), e47 = .returned (.slice x49 x49n x49c) ∧
 R (.returned (.tuple #[(.slice x49 x49n x49c), (.int .i64 0)])) w48)
 else
 (Calls Try.prog 15 #[(.pointer x21), (.int .u8 1)] w28 fun e50 w51 => e50 = .returned (.tuple #[]) ∧ ∃ cs52 : List Value, List.length cs52 = 2 ∧ Cells w51 (Addr.add (Addr.add ⟨World.heap w |>.size, 0, none⟩ 2) 0) cs52 ∧
 Calls Try.prog 18 #[(.agg (List.toArray cs52))] w51 fun e53 w54 => ∃ (x55 : Option Addr) (x55n : Nat) (x55c : Nat), ∃ x56 : Int, e53 = .returned (.tuple #[(.slice x55 x55n x55c), (.int .i64 x56)]) ∧
 ∃ (x57 : Option Addr) (x57n : Nat) (x57c : Nat), (#[(.slice x55 x55n x55c), (.int .i64 x56)] : Array Value)[0]? = some (.slice x57 x57n x57c) ∧
 ∃ x58 : Int, (#[(.slice x55 x55n x55c), (.int .i64 x56)] : Array Value)[1]? = some (.int .i64 x58) ∧
 Calls Try.prog 16 #[(.pointer x21), (.slice x57 x57n x57c)] w54 fun e59 w60 => e59 = .returned (.tuple #[]) ∧ ∃ x61 : Int, World.cell? w60 (Addr.add (Addr.add ⟨World.heap w |>.size, 0, none⟩ 2) 2) = some (.int .i64 x61) ∧
 Calls Try.prog 19 #[(.pointer x21), (.int .i64 x61)] w60 fun e62 w63 => e62 = .returned (.tuple #[]) ∧ Calls Try.prog 17 #[(.pointer x21)] w63 fun e64 w65 => ∃ (x66 : Option Addr) (x66n : Nat) (x66c : Nat), e64 = .returned (.slice x66 x66n x66c) ∧
 R (.returned (.tuple #[(.slice x66 x66n x66c), (.int .i64 0)])) w65))))))
theorem e4 (p0 : Array Value) (w : World) (R : Ending → World → Prop) : denS Try.prog s4 (argsEnv 0 [(.agg p0)]) w (endK r4 R) = d4 p0 w R := by kernel_rfl
theorem c4 (p0 : Array Value) {w : World} {R : Ending → World → Prop} (h : d4 p0 w R) : Calls Try.prog 4 #[(.agg p0)] w R :=
  den4 [(.agg p0)] w R (by simp) ((e4 p0 w R).symm ▸ h)

/-- prelude/preluderef24.Encode -/
def s5 : S := (.seq (.ops [⟨(some 1), (.box 28 (.tmp 0)), .ptr, none⟩,
  ⟨(some 2), (.mv (.const (.slice none 0 0))), .sl, none⟩,
  ⟨(some 3), (.mv (.const (.int .i64 0))), (.int .i64), none⟩] [1])
 (.join [] [1]
 (.seq (.ops [⟨(some 9), (.fa 0 (.tmp 1)), .ptr, none⟩,
  ⟨(some 10), (.ld1 (.tmp 9)), .sl, none⟩,
  ⟨(some 11), (.len (.tmp 10)), (.int .i64), none⟩,
  ⟨(some 12), (.bin .gtr (.tmp 11) (.const (.int .i64 80))), .bool, none⟩,
  ⟨(some 13), (.mv (.tmp 12)), .bool, none⟩,
  ⟨(some 14), (.fa 1 (.tmp 1)), .ptr, (some (13, false))⟩,
  ⟨(some 15), (.ld1 (.tmp 14)), .bool, (some (13, false))⟩,
  ⟨(some 16), (.un .not (.tmp 15)), .bool, (some (13, false))⟩,
  ⟨(some 17), (.mv (.tmp 16)), .bool, (some (13, false))⟩,
  ⟨(some 18), (.fa 2 (.tmp 1)), .ptr, (some (17, true))⟩,
  ⟨(some 19), (.ldN 3 (.tmp 18)), .agg, (some (17, true))⟩,
  ⟨(some 20), (.bld 26 (.fields [(0, 2), (2, 1)]) []), .agg, (some (17, true))⟩,
  ⟨(some 21), (.eqG .neq 26 (.tmp 19) (.tmp 20)), .bool, (some (17, true))⟩,
  ⟨(some 22), (.pick (.tmp 17) (.tmp 21) (.const (.bool false))), .bool, (some (13, false))⟩,
  ⟨(some 23), (.pick (.tmp 13) (.const (.bool true)) (.tmp 22)), .bool, none⟩,
  ⟨(some 24), (.mv (.tmp 23)), .bool, none⟩,
  ⟨(some 25), (.fa 1 (.tmp 1)), .ptr, (some (24, false))⟩,
  ⟨(some 26), (.ld1 (.tmp 25)), .bool, (some (24, false))⟩,
  ⟨(some 27), (.mv (.tmp 26)), .bool, (some (24, false))⟩,
  ⟨(some 28), (.fa 2 (.tmp 1)), .ptr, (some (27, true))⟩,
  ⟨(some 29), (.fa 0 (.tmp 28)), .ptr, (some (27, true))⟩,
  ⟨(some 30), (.ldN 2 (.tmp 29)), .agg, (some (27, true))⟩,
  ⟨(some 31), (.call 20 [(.tmp 30)] [(.int .i64)]), (.int .i64), (some (27, true))⟩,
  ⟨(some 32), (.bin .neq (.tmp 31) (.const (.int .i64 0))), .bool, (some (27, true))⟩,
  ⟨(some 33), (.pick (.tmp 27) (.tmp 32) (.const (.bool false))), .bool, (some (24, false))⟩,
  ⟨(some 34), (.pick (.tmp 24) (.const (.bool true)) (.tmp 33)), .bool, none⟩] [34, 1])
 (.cond (.tmp 34)
 (.seq (.ops [⟨(some 2), (.mv (.const (.slice none 0 0))), .sl, none⟩,
  ⟨(some 3), (.mv (.const (.int .i64 250))), (.int .i64), none⟩] [2, 3])
 .ret)
 .skip))
 (.seq (.ops [⟨(some 35), (.fa 0 (.tmp 1)), .ptr, none⟩,
  ⟨(some 36), (.ld1 (.tmp 35)), .sl, none⟩,
  ⟨(some 37), (.len (.tmp 36)), (.int .i64), none⟩,
  ⟨(some 38), (.cv .u64 (.tmp 37)), (.int .u64), none⟩,
  ⟨(some 39), (.call 21 [(.tmp 38)] [.sl]), .sl, none⟩,
  ⟨(some 4), (.mv (.tmp 39)), .sl, none⟩] [1, 4])
 (.seq (.seq (.ops [⟨(some 5), (.mv (.const (.int .i64 0))), (.int .i64), none⟩] [5, 1, 4])
 (.block 0
 (.loop [(4, .sl), (5, (.int .i64))] [1]
 (.seq (.seq (.ops [⟨(some 40), (.mv (.tmp 5)), (.int .i64), none⟩,
  ⟨(some 41), (.fa 0 (.tmp 1)), .ptr, none⟩,
  ⟨(some 42), (.ld1 (.tmp 41)), .sl, none⟩,
  ⟨(some 43), (.len (.tmp 42)), (.int .i64), none⟩,
  ⟨(some 44), (.bin .lss (.tmp 40) (.tmp 43)), .bool, none⟩] [44, 1, 5, 4])
 (.cond (.tmp 44)
 .skip
 (.exit 0)))
 (.seq (.block 1
 (.seq (.ops [⟨(some 47), (.fa 0 (.tmp 1)), .ptr, none⟩,
  ⟨(some 48), (.ld1 (.tmp 47)), .sl, none⟩,
  ⟨(some 49), (.mv (.tmp 5)), (.int .i64), none⟩,
  ⟨(some 50), (.ia 33 (.tmp 48) (.tmp 49)), .ptr, none⟩,
  ⟨(some 51), (.ldN 33 (.tmp 50)), .agg, none⟩,
  ⟨(some 6), (.alloc 51), .ptr, none⟩,
  ⟨none, (.stN 33 (.tmp 6) (.tmp 51)), .any, none⟩] [6, 4, 5, 1])
 (.join [] [1, 4, 5, 6]
 (.seq (.ops [⟨(some 52), (.fa 0 (.tmp 6)), .ptr, none⟩,
  ⟨(some 53), (.ld1 (.tmp 52)), (.int .i64), none⟩,
  ⟨(some 54), (.bin .lss (.tmp 53) (.const (.int .i64 0))), .bool, none⟩,
  ⟨(some 55), (.mv (.tmp 54)), .bool, none⟩,
  ⟨(some 56), (.fa 0 (.tmp 6)), .ptr, (some (55, false))⟩,
  ⟨(some 57), (.ld1 (.tmp 56)), (.int .i64), (some (55, false))⟩,
  ⟨(some 58), (.bin .geq (.tmp 57) (.const (.int .i64 80))), .bool, (some (55, false))⟩,
  ⟨(some 59), (.pick (.tmp 55) (.const (.bool true)) (.tmp 58)), .bool, none⟩] [59, 4, 6, 5, 1])
 (.cond (.tmp 59)
 (.seq (.ops [⟨(some 2), (.mv (.const (.slice none 0 0))), .sl, none⟩,
  ⟨(some 3), (.mv (.const (.int .i64 250))), (.int .i64), none⟩] [2, 3])
 .ret)
 .skip))
 (.seq (.ops [⟨(some 60), (.mv (.tmp 4)), .sl, none⟩,
  ⟨(some 61), (.fa 0 (.tmp 6)), .ptr, none⟩,
  ⟨(some 62), (.ld1 (.tmp 61)), (.int .i64), none⟩,
  ⟨(some 63), (.cv .u8 (.tmp 62)), (.int .u8), none⟩,
  ⟨(some 64), (.bldS 5 1 1 [(0, (.tmp 63))]), .sl, none⟩,
  ⟨(some 65), (.app #[29, 29] 29 (.tmp 60) (.tmp 64)), .sl, none⟩,
  ⟨(some 4), (.mv (.tmp 65)), .sl, none⟩] [4, 6, 5, 1])
 (.ops [⟨(some 66), (.mv (.tmp 4)), .sl, none⟩,
  ⟨(some 67), (.fa 1 (.tmp 6)), .ptr, none⟩,
  ⟨(some 68), (.slA 32 1 (.tmp 67) none none none), .sl, none⟩,
  ⟨(some 69), (.app #[29, 29] 29 (.tmp 66) (.tmp 68)), .sl, none⟩,
  ⟨(some 4), (.mv (.tmp 69)), .sl, none⟩] [5, 1, 4])))))
 (.ops [⟨(some 45), (.mv (.tmp 5)), (.int .i64), none⟩,
  ⟨(some 46), (.bin .add (.tmp 45) (.const (.int .i64 1))), (.int .i64), none⟩,
  ⟨(some 5), (.mv (.tmp 46)), (.int .i64), none⟩] [5, 1, 4]))))))
 (.seq (.seq (.ops [⟨(some 70), (.fa 1 (.tmp 1)), .ptr, none⟩,
  ⟨(some 71), (.ld1 (.tmp 70)), .bool, none⟩,
  ⟨(some 72), (.un .not (.tmp 71)), .bool, none⟩] [72, 4, 1])
 (.cond (.tmp 72)
 (.seq (.ops [⟨(some 73), (.mv (.tmp 4)), .sl, none⟩,
  ⟨(some 74), (.bldS 5 1 1 [(0, (.const (.int .u8 0)))]), .sl, none⟩,
  ⟨(some 75), (.app #[29, 29] 29 (.tmp 73) (.tmp 74)), .sl, none⟩,
  ⟨(some 2), (.mv (.tmp 75)), .sl, none⟩,
  ⟨(some 3), (.mv (.const (.int .i64 0))), (.int .i64), none⟩] [2, 3])
 .ret)
 .skip))
 (.seq (.ops [⟨(some 76), (.mv (.tmp 4)), .sl, none⟩,
  ⟨(some 77), (.bldS 5 1 1 [(0, (.const (.int .u8 1)))]), .sl, none⟩,
  ⟨(some 78), (.app #[29, 29] 29 (.tmp 76) (.tmp 77)), .sl, none⟩,
  ⟨(some 4), (.mv (.tmp 78)), .sl, none⟩] [1, 4])
 (.seq (.ops [⟨(some 80), (.fa 2 (.tmp 1)), .ptr, none⟩,
  ⟨(some 81), (.fa 0 (.tmp 80)), .ptr, none⟩,
  ⟨(some 82), (.ldN 2 (.tmp 81)), .agg, none⟩,
  ⟨(some 83), (.call 22 [(.tmp 82)] [.sl, (.int .i64)]), .any, none⟩,
  ⟨(some 79), (.mv (.tmp 83)), .any, none⟩,
  ⟨(some 84), (.ext 0 (.tmp 79)), .sl, none⟩,
  ⟨(some 85), (.ext 1 (.tmp 79)), (.int .i64), none⟩,
  ⟨(some 7), (.mv (.tmp 84)), .sl, none⟩,
  ⟨(some 8), (.mv (.tmp 85)), (.int .i64), none⟩] [4, 7, 1])
 (.seq (.ops [⟨(some 86), (.mv (.tmp 4)), .sl, none⟩,
  ⟨(some 87), (.mv (.tmp 7)), .sl, none⟩,
  ⟨(some 88), (.app #[29, 29] 29 (.tmp 86) (.tmp 87)), .sl, none⟩,
  ⟨(some 4), (.mv (.tmp 88)), .sl, none⟩] [4, 1])
 (.seq (.ops [⟨(some 89), (.mv (.tmp 4)), .sl, none⟩,
  ⟨(some 90), (.fa 2 (.tmp 1)), .ptr, none⟩,
  ⟨(some 91), (.fa 2 (.tmp 90)), .ptr, none⟩,
  ⟨(some 92), (.ld1 (.tmp 91)), (.int .i64), none⟩,
  ⟨(some 93), (.call 23 [(.tmp 92)] [.sl]), .sl, none⟩,
  ⟨(some 94), (.app #[29, 29] 29 (.tmp 89) (.tmp 93)), .sl, none⟩,
  ⟨(some 2), (.mv (.tmp 94)), .sl, none⟩,
  ⟨(some 3), (.mv (.const (.int .i64 0))), (.int .i64), none⟩] [2, 3])
 .ret)))))))))
def r5 : List Res := [.t 2, .t 3]
theorem tr5 : trS Try.prog [] 95 (Try.f5.body.getD .skip) s5 = some s5 := by kernel_rfl
theorem den5 (args : List Value) (w : World) (R : Ending → World → Prop) (hn : args.length ≤ 95) (h : denS Try.prog s5 (argsEnv 0 args) w (endK r5 R)) : Calls Try.prog 5 args.toArray w R :=
  calls_of_den (pn := []) (fn := Try.f5) (c := Try.f5.body.getD .skip) Try.func5 (by kernel_rfl) (by rw [Try.ntmps5]; exact hn) (by rw [Try.ntmps5]; exact tr5) (by kernel_rfl) h
def d5 (p0 : Array Value) (w : World) (R : Ending → World → Prop) : Prop :=
 ∀ w1 : World, w1 = World.alloc w (.cells p0 28) →
 ∃ J2 : World → Prop,
 (∃ (x3 : Option Addr) (x3n : Nat) (x3c : Nat), World.cell? w1 (Addr.add ⟨World.heap w |>.size, 0, none⟩ 0) = some (.slice x3 x3n x3c) ∧
 (bif (decide (80 < ((x3n : Nat) : Int))) then
 (R (.returned (.tuple #[(.slice none 0 0), (.int .i64 250)])) w1)
 else
 (∃ x4 : Bool, World.cell? w1 (Addr.add ⟨World.heap w |>.size, 0, none⟩ 1) = some (.bool x4) ∧
 (bif (!x4) then
 (∃ cs5 : List Value, List.length cs5 = 3 ∧ Cells w1 (Addr.add ⟨World.heap w |>.size, 0, none⟩ 2) cs5 ∧
 ∃ cs6, fillL (.fields [(0, 2), (2, 1)]) (zc Try.prog 26) [] = some cs6 ∧
 ∃ q7 : Bool, Sem.run Try.prog (do eqGuard .neq 26 (.tmp 19) (.tmp 20) (.agg (List.toArray cs5)) (.agg (List.toArray cs6)); binOp .neq 26 (.agg (List.toArray cs5)) (.agg (List.toArray cs6))) w1 = .ok (.bool q7) w1 ∧
 (bif q7 then
 (R (.returned (.tuple #[(.slice none 0 0), (.int .i64 250)])) w1)
 else
 (∃ x8 : Bool, World.cell? w1 (Addr.add ⟨World.heap w |>.size, 0, none⟩ 1) = some (.bool x8) ∧
 (bif x8 then
 (∃ cs9 : List Value, List.length cs9 = 2 ∧ Cells w1 (Addr.add (Addr.add ⟨World.heap w |>.size, 0, none⟩ 2) 0) cs9 ∧
 Calls Try.prog 20 #[(.agg (List.toArray cs9))] w1 fun e10 w11 => ∃ x12 : Int, e10 = .returned (.int .i64 x12) ∧
 (bif (!decide (x12 = 0)) then
 (R (.returned (.tuple #[(.slice none 0 0), (.int .i64 250)])) w11)
 else
 (J2  w11)))
 else
 (J2  w1)))))
 else
 (∃ x13 : Bool, World.cell? w1 (Addr.add ⟨World.heap w |>.size, 0, none⟩ 1) = some (.bool x13) ∧
 (bif x13 then
 (∃ cs14 : List Value, List.length cs14 = 2 ∧ Cells w1 (Addr.add (Addr.add ⟨World.heap w |>.size, 0, none⟩ 2) 0) cs14 ∧
 Calls Try.prog 20 #[(.agg (List.toArray cs14))] w1 fun e15 w16 => ∃ x17 : Int, e15 = .returned (.int .i64 x17) ∧
 (bif (!decide (x17 = 0)) then
 (R (.returned (.tuple #[(.slice none 0 0), (.int .i64 250)])) w16)
 else
 (J2  w16)))
 else
 (J2  w1))))))) ∧
 (∀ (w18 : World), J2  w18 →
 ∃ (x19 : Option Addr) (x19n : Nat) (x19c : Nat), World.cell? w18 (Addr.add ⟨World.heap w |>.size, 0, none⟩ 0) = some (.slice x19 x19n x19c) ∧
 Calls Try.prog 21 #[(.int .u64 (IntKind.wrap .u64 ((x19n : Nat) : Int)))] w18 fun e20 w21 => ∃ (x22 : Option Addr) (x22n : Nat) (x22c : Nat), e20 = .returned (.slice x22 x22n x22c) ∧
 ∃ I23 : Nat → Option Addr → Nat → Nat → Int → World → Prop,
 (∃ m, I23 m x22 x22n x22c 0 w21) ∧
 (∀ (m24 : Nat) (w25 : World) (b26 : Option Addr) (b26n : Nat) (b26c : Nat) (i27 : Int), I23 m24 b26 b26n b26c i27 w25 →
 ∃ (x28 : Option Addr) (x28n : Nat) (x28c : Nat), World.cell? w25 (Addr.add ⟨World.heap w |>.size, 0, none⟩ 0) = some (.slice x28 x28n x28c) ∧
 (bif (decide (i27 < ((x28n : Nat) : Int))) then
 (∃ (x29 : Option Addr) (x29n : Nat) (x29c : Nat), World.cell? w25 (Addr.add ⟨World.heap w |>.size, 0, none⟩ 0) = some (.slice x29 x29n x29c) ∧
 0 ≤ i27 ∧ i27 < ((x29n : Nat) : Int) ∧ optK x29 fun a30 =>
 ∃ cs31 : List Value, List.length cs31 = 33 ∧ Cells w25 (Addr.add a30 (Int.toNat i27 * 33)) cs31 ∧
 ∀ w32 : World, w32 = World.alloc w25 (.cells (zc Try.prog 51).toArray 51) →
 Array.size (List.toArray cs31) = 33 ∧ (∀ u ∈ Array.toList (List.toArray cs31), one u = true) ∧ Room w32 ⟨World.heap w25 |>.size, 0, none⟩ 33 ∧
 ∀ w33 : World, w33 = setCells w32 ⟨World.heap w25 |>.size, 0, none⟩ (Array.toList (List.toArray cs31)) 0 →
 ∃ J34 : World → Prop,
 (∃ x35 : Int, World.cell? w33 (Addr.add ⟨World.heap w25 |>.size, 0, none⟩ 0) = some (.int .i64 x35) ∧
 (bif (decide (x35 < 0)) then
 (R (.returned (.tuple #[(.slice none 0 0), (.int .i64 250)])) w33)
 else
 (∃ x36 : Int, World.cell? w33 (Addr.add ⟨World.heap w25 |>.size, 0, none⟩ 0) = some (.int .i64 x36) ∧
 (bif (decide (80 ≤ x36)) then
 (R (.returned (.tuple #[(.slice none 0 0), (.int .i64 250)])) w33)
 else
 (J34  w33))))) ∧
 (∀ (w37 : World), J34  w37 →
 ∃ x38 : Int, World.cell? w37 (Addr.add ⟨World.heap w25 |>.size, 0, none⟩ 0) = some (.int .i64 x38) ∧
 ∃ cs39, fillL (.elems 1) (zrep (zc Try.prog 5) (1 * 1)) [(0, (.int .u8 (IntKind.wrap .u8 x38)))] = some cs39 ∧
 ∀ w40 : World, w40 = World.alloc w37 (.cells (List.toArray cs39) 5) →
 RunV Try.prog (Builtin.append_ #[29, 29] 29 #[(.slice b26 b26n b26c), (.slice (some ⟨World.heap w37 |>.size, 0, none⟩) 1 1)]) w40 fun v41 w42 => ∃ (x43 : Option Addr) (x43n : Nat) (x43c : Nat), v41 = (.slice x43 x43n x43c) ∧
 RunV Try.prog (Builtin.append_ #[29, 29] 29 #[(.slice x43 x43n x43c), (.slice (some (if 32 = 0 then (Addr.add ⟨World.heap w25 |>.size, 0, none⟩ 1) else Addr.add (Addr.add ⟨World.heap w25 |>.size, 0, none⟩ 1) (0 * 1))) (32 - 0) (32 - 0))]) w42 fun v44 w45 => ∃ (x46 : Option Addr) (x46n : Nat) (x46c : Nat), v44 = (.slice x46 x46n x46c) ∧
 ∃ m47, m47 < m24 ∧ I23 m47 x46 x46n x46c (IntKind.wrap .i64 (i27 + 1)) w45))
 else
 (∃ x48 : Bool, World.cell? w25 (Addr.add ⟨World.heap w |>.size, 0, none⟩ 1) = some (.bool x48) ∧
 (bif (!x48) then
 (∃ cs49, fillL (.elems 1) (zrep (zc Try.prog 5) (1 * 1)) [(0, (.int .u8 0))] = some cs49 ∧
 ∀ w50 : World, w50 = World.alloc w25 (.cells (List.toArray cs49) 5) →
 RunV Try.prog (Builtin.append_ #[29, 29] 29 #[(.slice b26 b26n b26c), (.slice (some ⟨World.heap w25 |>.size, 0, none⟩) 1 1)]) w50 fun v51 w52 => ∃ (x53 : Option Addr) (x53n : Nat) (x53c : Nat), v51 = (.slice x53 x53n x53c) ∧
 R (.returned (.tuple #[(.slice x53 x53n x53c), (.int .i64 0)])) w52)
 else
 (∃ cs54, fillL (.elems 1) (zrep (zc Try.prog 5) (1 * 1)) [(0, (.int .u8 1))] = some cs54 ∧
 ∀ w55 : World, w55 = World.alloc w25 (.cells (List.toArray cs54) 5) →
 RunV Try.prog (Builtin.append_ #[29, 29] 29 #[(.slice b26 b26n b26c), (.slice (some ⟨World.heap w25 |>.size, 0, none⟩) 1 1)]) w55 fun v56 w57 => ∃ (x58 : Option Addr) (x58n : Nat) (x58c : Nat), v56 = (.slice x58 x58n x58c) ∧
 ∃ cs59 : List Value, List.length cs59 = 2 ∧ Cells w57 (Addr.add (Addr.add ⟨World.heap w |>.size, 0, none⟩ 2) 0) cs59 ∧
 Calls Try.prog 22 #[(.agg (List.toArray cs59))] w57 fun e60 w61 => ∃ (x62 : Option Addr) (x62n : Nat) (x62c : Nat), ∃ x63 : Int, e60 = .returned (.tuple #[(.slice x62 x62n x62c), (.int .i64 x63)]) ∧
 ∃ (x64 : Option Addr) (x64n : Nat) (x64c : Nat), (#[(.slice x62 x62n x62c), (.int .i64 x63)] : Array Value)[0]? = some (.slice x64 x64n x64c) ∧
 ∃ x65 : Int, (#[(.slice x62 x62n x62c), (.int .i64 x63)] : Array Value)[1]? = some (.int .i64 x65) ∧
 RunV Try.prog (Builtin.append_ #[29, 29] 29 #[(.slice x58 x58n x58c), (.slice x64 x64n x64c)]) w61 fun v66 w67 => ∃ (x68 : Option Addr) (x68n : Nat) (x68c : Nat), v66 = (.slice x68 x68n x68c) ∧
 ∃ x69 : Int, World.cell? w67 (Addr.add (Addr.add ⟨World.heap w |>.size, 0, none⟩ 2) 2) = some (.int .i64 x69) ∧
 Calls Try.prog 23 #[(.int .i64 x69)] w67 fun e70 w71 => ∃ (x72 : Option Addr) (x72n : Nat) (x72c : Nat), e70 = .returned (.slice x72 x72n x72c) ∧
 RunV Try.prog (Builtin.append_ #[29, 29] 29 #[(.slice x68 x68n x68c), (.slice x72 x72n x72c)]) w71 fun v73 w74 => ∃ (x75 : Option Addr) (x75n : Nat) (x75c : Nat), v73 = (.slice x75 x75n x75c) ∧
 R (.returned (.tuple #[(.slice x75 x75n x75c), (.int .i64 0)])) w74))))))
theorem e5 (p0 : Array Value) (w : World) (R : Ending → World → Prop) : denS Try.prog s5 (argsEnv 0 [(.agg p0)]) w (endK r5 R) = d5 p0 w R := by kernel_rfl
theorem c5 (p0 : Array Value) {w : World} {R : Ending → World → Prop} (h : d5 p0 w R) : Calls Try.prog 5 #[(.agg p0)] w R :=
  den5 [(.agg p0)] w R (by simp) ((e5 p0 w R).symm ▸ h)

/-- prelude/preludelaw24.num -/
def s6 : S := (.seq (.ops [⟨(some 2), (.mv (.const (.int .i64 0))), (.int .i64), none⟩] [0])
 (.seq (.ops [⟨(some 3), (.mv (.tmp 0)), (.int .i64), none⟩,
  ⟨(some 2), (.mv (.tmp 3)), (.int .i64), none⟩] [2])
 .ret))
def r6 : List Res := [.t 2]
theorem tr6 : trS Try.prog [] 4 (Try.f6.body.getD .skip) s6 = some s6 := by kernel_rfl
theorem den6 (args : List Value) (w : World) (R : Ending → World → Prop) (hn : args.length ≤ 4) (h : denS Try.prog s6 (argsEnv 0 args) w (endK r6 R)) : Calls Try.prog 6 args.toArray w R :=
  calls_of_den (pn := []) (fn := Try.f6) (c := Try.f6.body.getD .skip) Try.func6 (by kernel_rfl) (by rw [Try.ntmps6]; exact hn) (by rw [Try.ntmps6]; exact tr6) (by kernel_rfl) h
def d6 (e0 : Int) (w : World) (R : Ending → World → Prop) : Prop :=
 R (.returned (.int .i64 e0)) w
theorem e6 (e0 : Int) (w : World) (R : Ending → World → Prop) : denS Try.prog s6 (argsEnv 0 [(.int .i64 e0)]) w (endK r6 R) = d6 e0 w R := by kernel_rfl
theorem c6 (e0 : Int) {w : World} {R : Ending → World → Prop} (h : d6 e0 w R) : Calls Try.prog 6 #[(.int .i64 e0)] w R :=
  den6 [(.int .i64 e0)] w R (by simp) ((e6 e0 w R).symm ▸ h)

/-- prelude/preludelaw24.sameBytes -/
def s7 : S := (.seq (.ops [⟨(some 4), (.mv (.const (.bool false))), .bool, none⟩] [0, 1])
 (.seq (.seq (.ops [⟨(some 6), (.mv (.tmp 0)), .sl, none⟩,
  ⟨(some 7), (.len (.tmp 6)), (.int .i64), none⟩,
  ⟨(some 8), (.mv (.tmp 1)), .sl, none⟩,
  ⟨(some 9), (.len (.tmp 8)), (.int .i64), none⟩,
  ⟨(some 10), (.bin .neq (.tmp 7) (.tmp 9)), .bool, none⟩] [10, 0, 1])
 (.cond (.tmp 10)
 (.seq (.ops [⟨(some 4), (.mv (.const (.bool false))), .bool, none⟩] [4])
 .ret)
 .skip))
 (.seq (.seq (.ops [⟨(some 5), (.mv (.const (.int .i64 0))), (.int .i64), none⟩] [5, 0, 1])
 (.block 0
 (.loop [(5, (.int .i64))] [0, 1]
 (.seq (.seq (.ops [⟨(some 11), (.mv (.tmp 5)), (.int .i64), none⟩,
  ⟨(some 12), (.mv (.tmp 0)), .sl, none⟩,
  ⟨(some 13), (.len (.tmp 12)), (.int .i64), none⟩,
  ⟨(some 14), (.bin .lss (.tmp 11) (.tmp 13)), .bool, none⟩] [14, 0, 5, 1])
 (.cond (.tmp 14)
 .skip
 (.exit 0)))
 (.seq (.block 1
 (.seq (.draw (.take 0 ⟨(some 17), (.mv (.tmp 0)), .sl, none⟩
  (.take 1 ⟨(some 18), (.mv (.tmp 5)), (.int .i64), none⟩
  (.take 2 ⟨(some 19), (.ia 1 (.tmp 17) (.tmp 18)), .ptr, none⟩
  (.take 3 ⟨(some 20), (.ld1 (.tmp 19)), (.int .u8), none⟩
  (.take 4 ⟨(some 21), (.mv (.tmp 1)), .sl, none⟩
  (.take 5 ⟨(some 22), (.mv (.tmp 5)), (.int .i64), none⟩
  (.take 6 ⟨(some 23), (.ia 1 (.tmp 21) (.tmp 22)), .ptr, none⟩
  (.take 7 ⟨(some 24), (.ld1 (.tmp 23)), (.int .u8), none⟩
  (.take 8 ⟨(some 25), (.bin .neq (.tmp 20) (.tmp 24)), .bool, none⟩
  .done))))))))) [25, 5, 0, 1])
 (.cond (.tmp 25)
 (.seq (.ops [⟨(some 4), (.mv (.const (.bool false))), .bool, none⟩] [4])
 .ret)
 .skip)))
 (.ops [⟨(some 15), (.mv (.tmp 5)), (.int .i64), none⟩,
  ⟨(some 16), (.bin .add (.tmp 15) (.const (.int .i64 1))), (.int .i64), none⟩,
  ⟨(some 5), (.mv (.tmp 16)), (.int .i64), none⟩] [5, 0, 1]))))))
 (.seq (.ops [⟨(some 4), (.mv (.const (.bool true))), .bool, none⟩] [4])
 .ret))))
def r7 : List Res := [.t 4]
theorem tr7 : trS Try.prog [] 26 (Try.f7.body.getD .skip) s7 = some s7 := by kernel_rfl
theorem den7 (args : List Value) (w : World) (R : Ending → World → Prop) (hn : args.length ≤ 26) (h : denS Try.prog s7 (argsEnv 0 args) w (endK r7 R)) : Calls Try.prog 7 args.toArray w R :=
  calls_of_den (pn := []) (fn := Try.f7) (c := Try.f7.body.getD .skip) Try.func7 (by kernel_rfl) (by rw [Try.ntmps7]; exact hn) (by rw [Try.ntmps7]; exact tr7) (by kernel_rfl) h
def d7 (a0 : Option Addr) (a0n : Nat) (a0c : Nat) (b1 : Option Addr) (b1n : Nat) (b1c : Nat) (w : World) (R : Ending → World → Prop) : Prop :=
 (bif (!decide (((a0n : Nat) : Int) = ((b1n : Nat) : Int))) then
 (R (.returned (.bool false)) w)
 else
 (∃ I2 : Nat → Int → World → Prop,
 (∃ m, I2 m 0 w) ∧
 (∀ (m3 : Nat) (w4 : World) (i5 : Int), I2 m3 i5 w4 →
 (bif (decide (i5 < ((a0n : Nat) : Int))) then
 (∀ w6 : World, w6 = World.drew w4 →
 0 ≤ i5 ∧ i5 < ((a0n : Nat) : Int) ∧ optK a0 fun a7 =>
 ∃ x8 : Int, World.cell? w6 (Addr.add a7 (Int.toNat i5 * 1)) = some (.int .u8 x8) ∧
 0 ≤ i5 ∧ i5 < ((b1n : Nat) : Int) ∧ optK b1 fun a9 =>
 ∃ x10 : Int, World.cell? w6 (Addr.add a9 (Int.toNat i5 * 1)) = some (.int .u8 x10) ∧
 (bif (!decide (x8 = x10)) then
 (R (.returned (.bool false)) w6)
 else
 (∃ m11, m11 < m3 ∧ I2 m11 (IntKind.wrap .i64 (i5 + 1)) w6)))
 else
 (R (.returned (.bool true)) w4)))))
theorem e7 (a0 : Option Addr) (a0n : Nat) (a0c : Nat) (b1 : Option Addr) (b1n : Nat) (b1c : Nat) (w : World) (R : Ending → World → Prop) : denS Try.prog s7 (argsEnv 0 [(.slice a0 a0n a0c), (.slice b1 b1n b1c)]) w (endK r7 R) = d7 a0 a0n a0c b1 b1n b1c w R := by kernel_rfl
theorem c7 (a0 : Option Addr) (a0n : Nat) (a0c : Nat) (b1 : Option Addr) (b1n : Nat) (b1c : Nat) {w : World} {R : Ending → World → Prop} (h : d7 a0 a0n a0c b1 b1n b1c w R) : Calls Try.prog 7 #[(.slice a0 a0n a0c), (.slice b1 b1n b1c)] w R :=
  den7 [(.slice a0 a0n a0c), (.slice b1 b1n b1c)] w R (by simp) ((e7 a0 a0n a0c b1 b1n b1c w R).symm ▸ h)

/-- prelude/proof.Decode -/
def s8 : S := (.seq (.ops [⟨(some 2), (.alloc 28), .ptr, none⟩,
  ⟨(some 3), (.mv (.const (.int .i64 0))), (.int .i64), none⟩] [0, 2])
 (.seq (.ops [⟨(some 9), (.mv (.tmp 0)), .sl, none⟩,
  ⟨(some 10), (.call 24 [(.tmp 9)] [.ptr]), .ptr, none⟩,
  ⟨(some 4), (.mv (.tmp 10)), .ptr, none⟩] [4, 2])
 (.seq (.ops [⟨(some 5), (.alloc 28), .ptr, none⟩] [4, 5, 2])
 (.seq (.seq (.ops [⟨(some 11), (.mv (.tmp 4)), .ptr, none⟩,
  ⟨(some 12), (.call 25 [(.tmp 11), (.const (.int .u64 80))] [(.int .u64)]), (.int .u64), none⟩,
  ⟨(some 13), (.mv (.const (.int .u64 0))), (.int .u64), none⟩] [13, 12, 4, 5, 2])
 (.block 0
 (.loop [(13, (.int .u64))] [2, 4, 5, 12]
 (.seq (.ops [⟨(some 14), (.bin .lss (.tmp 13) (.tmp 12)), .bool, none⟩] [14, 4, 5, 13, 12, 2])
 (.seq (.cond (.tmp 14)
 .skip
 (.exit 0))
 (.seq (.block 1
 (.seq (.ops [⟨(some 15), (.mv (.tmp 4)), .ptr, none⟩,
  ⟨(some 16), (.call 26 [(.tmp 15)] [(.int .u8)]), (.int .u8), none⟩,
  ⟨(some 17), (.cv .i64 (.tmp 16)), (.int .i64), none⟩,
  ⟨(some 18), (.bld 51 (.fields [(0, 1), (1, 32)]) [(0, (.tmp 17))]), .agg, none⟩,
  ⟨(some 6), (.alloc 51), .ptr, none⟩,
  ⟨none, (.stN 33 (.tmp 6) (.tmp 18)), .any, none⟩] [6, 4, 5, 13, 12, 2])
 (.seq (.draw (.take 0 ⟨(some 19), (.fa 1 (.tmp 6)), .ptr, none⟩
  (.take 1 ⟨(some 20), (.slA 32 1 (.tmp 19) none none none), .sl, none⟩
  (.take 2 ⟨(some 21), (.mv (.tmp 4)), .ptr, none⟩
  (.go 3 ⟨(some 22), (.call 27 [(.tmp 21), (.const (.int .i64 32))] [.sl]), .sl, none⟩ []
  (.go 4 ⟨(some 23), (.cpy #[29, 29] 3 (.tmp 20) (.tmp 22)), (.int .i64), none⟩ []
  .done))))) [6, 4, 5, 13, 12, 2])
 (.join [] [2, 4, 5, 6, 12, 13]
 (.seq (.ops [⟨(some 24), (.fa 0 (.tmp 6)), .ptr, none⟩,
  ⟨(some 25), (.ld1 (.tmp 24)), (.int .i64), none⟩,
  ⟨(some 26), (.call 14 [(.tmp 25)] [.bool]), .bool, none⟩,
  ⟨(some 27), (.un .not (.tmp 26)), .bool, none⟩] [27, 4, 5, 6, 13, 12, 2])
 (.cond (.tmp 27)
 (.ops [⟨(some 28), (.mv (.tmp 4)), .ptr, none⟩,
  ⟨(some 29), (.call 28 [(.tmp 28), (.const (.int .i64 250))] []), .any, none⟩] [5, 6, 13, 12, 4, 2])
 .skip))
 (.ops [⟨(some 30), (.fa 0 (.tmp 5)), .ptr, none⟩,
  ⟨(some 31), (.ld1 (.tmp 30)), .sl, none⟩,
  ⟨(some 32), (.ldN 33 (.tmp 6)), .agg, none⟩,
  ⟨(some 33), (.bldS 51 1 33 [(0, (.tmp 32))]), .sl, none⟩,
  ⟨(some 34), (.app #[22, 22] 22 (.tmp 31) (.tmp 33)), .sl, none⟩,
  ⟨(some 35), (.fa 0 (.tmp 5)), .ptr, none⟩,
  ⟨none, (.st1 (.tmp 35) (.tmp 34)), .any, none⟩] [13, 12, 4, 5, 2])))))
 (.ops [⟨(some 36), (.bin .add (.tmp 13) (.const (.int .u64 1))), (.int .u64), none⟩,
  ⟨(some 13), (.mv (.tmp 36)), (.int .u64), none⟩] [13, 12, 4, 5, 2])))))))
 (.join [] [2, 4, 5]
 (.seq (.ops [⟨(some 37), (.mv (.tmp 4)), .ptr, none⟩,
  ⟨(some 38), (.call 26 [(.tmp 37)] [(.int .u8)]), (.int .u8), none⟩] [38, 4, 2, 5])
 (.block 2
 (.seq (.ops [⟨(some 42), (.bin .eql (.tmp 38) (.const (.int .u8 0))), .bool, none⟩,
  ⟨(some 41), (.mv (.tmp 42)), .bool, none⟩] [41, 4, 2, 5, 38])
 (.cond (.tmp 41)
 .skip
 (.seq (.ops [⟨(some 44), (.bin .eql (.tmp 38) (.const (.int .u8 1))), .bool, none⟩,
  ⟨(some 43), (.mv (.tmp 44)), .bool, none⟩] [43, 5, 4, 2])
 (.cond (.tmp 43)
 (.seq (.ops [⟨(some 45), (.fa 1 (.tmp 5)), .ptr, none⟩,
  ⟨none, (.st1 (.tmp 45) (.const (.bool true))), .any, none⟩] [4, 5, 2])
 (.seq (.ops [⟨(some 47), (.mv (.tmp 4)), .ptr, none⟩,
  ⟨(some 48), (.call 27 [(.tmp 47), (.const (.int .i64 10))] [.sl]), .sl, none⟩,
  ⟨(some 49), (.call 29 [(.tmp 48)] [.agg, (.int .i64)]), .any, none⟩,
  ⟨(some 46), (.mv (.tmp 49)), .any, none⟩,
  ⟨(some 50), (.ext 0 (.tmp 46)), .agg, none⟩,
  ⟨(some 51), (.ext 1 (.tmp 46)), (.int .i64), none⟩,
  ⟨(some 7), (.alloc 24), .ptr, none⟩,
  ⟨none, (.stN 2 (.tmp 7) (.tmp 50)), .any, none⟩,
  ⟨(some 8), (.mv (.tmp 51)), (.int .i64), none⟩] [7, 4, 5, 2])
 (.draw (.take 0 ⟨(some 52), (.ldN 2 (.tmp 7)), .agg, none⟩
  (.take 1 ⟨(some 53), (.mv (.tmp 4)), .ptr, none⟩
  (.go 2 ⟨(some 54), (.call 30 [(.tmp 53)] [(.int .i64)]), (.int .i64), none⟩ [(0, ⟨(some 52), (.ldN 2 (.tmp 7)), .agg, none⟩)]
  (.take 3 ⟨(some 55), (.bld 26 (.fields [(0, 2), (2, 1)]) [(0, (.tmp 52)), (1, (.tmp 54))]), .agg, none⟩
  (.take 4 ⟨(some 56), (.fa 2 (.tmp 5)), .ptr, none⟩
  (.go 5 ⟨none, (.stN 3 (.tmp 56) (.tmp 55)), .any, none⟩ []
  .done)))))) [4, 2, 5])))
 (.ops [⟨(some 39), (.mv (.tmp 4)), .ptr, none⟩,
  ⟨(some 40), (.call 28 [(.tmp 39), (.const (.int .i64 250))] []), .any, none⟩] [4, 2, 5])))))))
 (.seq (.seq (.ops [⟨(some 57), (.mv (.tmp 4)), .ptr, none⟩,
  ⟨(some 58), (.call 31 [(.tmp 57)] [(.int .i64)]), (.int .i64), none⟩,
  ⟨(some 59), (.bin .neq (.tmp 58) (.const (.int .i64 0))), .bool, none⟩] [59, 2, 5])
 (.cond (.tmp 59)
 (.seq (.ops [⟨(some 60), (.bld 28 (.fields [(0, 1), (1, 1), (2, 3)]) []), .agg, none⟩,
  ⟨none, (.stN 5 (.tmp 2) (.tmp 60)), .any, none⟩,
  ⟨(some 3), (.mv (.const (.int .i64 250))), (.int .i64), none⟩] [2, 3])
 .ret)
 .skip))
 (.seq (.ops [⟨(some 61), (.ldN 5 (.tmp 5)), .agg, none⟩,
  ⟨none, (.stN 5 (.tmp 2) (.tmp 61)), .any, none⟩,
  ⟨(some 3), (.mv (.const (.int .i64 0))), (.int .i64), none⟩] [2, 3])
 .ret)))))))
def r8 : List Res := [.cN 2 5, .t 3]
theorem tr8 : trS Try.prog [] 62 (Try.f8.body.getD .skip) s8 = some s8 := by kernel_rfl
theorem den8 (args : List Value) (w : World) (R : Ending → World → Prop) (hn : args.length ≤ 62) (h : denS Try.prog s8 (argsEnv 0 args) w (endK r8 R)) : Calls Try.prog 8 args.toArray w R :=
  calls_of_den (pn := []) (fn := Try.f8) (c := Try.f8.body.getD .skip) Try.func8 (by kernel_rfl) (by rw [Try.ntmps8]; exact hn) (by rw [Try.ntmps8]; exact tr8) (by kernel_rfl) h
def d8 (b0 : Option Addr) (b0n : Nat) (b0c : Nat) (w : World) (R : Ending → World → Prop) : Prop :=
 ∀ w1 : World, w1 = World.alloc w (.cells (zc Try.prog 28).toArray 28) →
 Calls Try.prog 24 #[(.slice b0 b0n b0c)] w1 fun e2 w3 => ∃ x4 : Option Addr, e2 = .returned (.pointer x4) ∧
 ∀ w5 : World, w5 = World.alloc w3 (.cells (zc Try.prog 28).toArray 28) →
 Calls Try.prog 25 #[(.pointer x4), (.int .u64 80)] w5 fun e6 w7 => ∃ x8 : Int, e6 = .returned (.int .u64 x8) ∧
 ∃ I9 : Nat → Int → World → Prop,
 (∃ m, I9 m 0 w7) ∧
 (∀ (m10 : Nat) (w11 : World) (x12 : Int), I9 m10 x12 w11 →
 (bif (decide (x12 < x8)) then
 (Calls Try.prog 26 #[(.pointer x4)] w11 fun e13 w14 => ∃ x15 : Int, e13 = .returned (.int .u8 x15) ∧
 ∃ cs16, fillL (.fields [(0, 1), (1, 32)]) (zc Try.prog 51) [(0, (.int .i64 (IntKind.wrap .i64 x15)))] = some cs16 ∧
 ∀ w17 : World, w17 = World.alloc w14 (.cells (zc Try.prog 51).toArray 51) →
 Array.size (List.toArray cs16) = 33 ∧ (∀ u ∈ Array.toList (List.toArray cs16), one u = true) ∧ Room w17 ⟨World.heap w14 |>.size, 0, none⟩ 33 ∧
 ∀ w18 : World, w18 = setCells w17 ⟨World.heap w14 |>.size, 0, none⟩ (Array.toList (List.toArray cs16)) 0 →
 ∀ w19 : World, w19 = World.drew w18 →
 Calls Try.prog 27 #[(.pointer x4), (.int .i64 32)] w19 fun e20 w21 => ∃ (x22 : Option Addr) (x22n : Nat) (x22c : Nat), e20 = .returned (.slice x22 x22n x22c) ∧
 RunV Try.prog (Builtin.copy_ #[29, 29] 3 #[(.slice (some (if 32 = 0 then (Addr.add ⟨World.heap w14 |>.size, 0, none⟩ 1) else Addr.add (Addr.add ⟨World.heap w14 |>.size, 0, none⟩ 1) (0 * 1))) (32 - 0) (32 - 0)), (.slice x22 x22n x22c)]) w21 fun v23 w24 => ∃ x25 : Int, v23 = (.int .i64 x25) ∧
 ∃ J26 : World → Prop,
 (∃ x27 : Int, World.cell? w24 (Addr.add ⟨World.heap w14 |>.size, 0, none⟩ 0) = some (.int .i64 x27) ∧
 Calls Try.prog 14 #[(.int .i64 x27)] w24 fun e28 w29 => ∃ x30 : Bool, e28 = .returned (.bool x30) ∧
 (bif (!x30) then
 (Calls Try.prog 28 #[(.pointer x4), (.int .i64 250)] w29 fun e31 w32 => e31 = .returned (.tuple #[]) ∧ J26  w32)
 else
 (J26  w29))) ∧
 (∀ (w33 : World), J26  w33 →
 ∃ (x34 : Option Addr) (x34n : Nat) (x34c : Nat), World.cell? w33 (Addr.add ⟨World.heap w3 |>.size, 0, none⟩ 0) = some (.slice x34 x34n x34c) ∧
 ∃ cs35 : List Value, List.length cs35 = 33 ∧ Cells w33 ⟨World.heap w14 |>.size, 0, none⟩ cs35 ∧
 ∃ cs36, fillL (.elems 33) (zrep (zc Try.prog 51) (1 * 33)) [(0, (.agg (List.toArray cs35)))] = some cs36 ∧
 ∀ w37 : World, w37 = World.alloc w33 (.cells (List.toArray cs36) 51) →
 RunV Try.prog (Builtin.append_ #[22, 22] 22 #[(.slice x34 x34n x34c), (.slice (some ⟨World.heap w33 |>.size, 0, none⟩) 1 1)]) w37 fun v38 w39 => ∃ (x40 : Option Addr) (x40n : Nat) (x40c : Nat), v38 = (.slice x40 x40n x40c) ∧
 one (.slice x40 x40n x40c) = true ∧ Option.isSome (World.cell? w39 (Addr.add ⟨World.heap w3 |>.size, 0, none⟩ 0)) = true ∧ World.frozen? w39 (Addr.add ⟨World.heap w3 |>.size, 0, none⟩ 0) = false ∧
 ∀ w41 : World, w41 = World.setCell w39 (Addr.add ⟨World.heap w3 |>.size, 0, none⟩ 0) (.slice x40 x40n x40c) →
 ∃ m42, m42 < m10 ∧ I9 m42 (IntKind.wrap .u64 (x12 + 1)) w41))
 else
 (∃ J43 : World → Prop,
 (Calls Try.prog 26 #[(.pointer x4)] w11 fun e44 w45 => ∃ x46 : Int, e44 = .returned (.int .u8 x46) ∧
 (bif (decide (x46 = 0)) then
 (J43  w45)
 else
 ((bif (decide (x46 = 1)) then
 (one (.bool true) = true ∧ Option.isSome (World.cell? w45 (Addr.add ⟨World.heap w3 |>.size, 0, none⟩ 1)) = true ∧ World.frozen? w45 (Addr.add ⟨World.heap w3 |>.size, 0, none⟩ 1) = false ∧
 ∀ w47 : World, w47 = World.setCell w45 (Addr.add ⟨World.heap w3 |>.size, 0, none⟩ 1) (.bool true) →
 Calls Try.prog 27 #[(.pointer x4), (.int .i64 10)] w47 fun e48 w49 => ∃ (x50 : Option Addr) (x50n : Nat) (x50c : Nat), e48 = .returned (.slice x50 x50n x50c) ∧
 Calls Try.prog 29 #[(.slice x50 x50n x50c)] w49 fun e51 w52 => ∃ x53 : Array Value, ∃ x54 : Int, e51 = .returned (.tuple #[(.agg x53), (.int .i64 x54)]) ∧
 ∃ x55 : Array Value, (#[(.agg x53), (.int .i64 x54)] : Array Value)[0]? = some (.agg x55) ∧
 ∃ x56 : Int, (#[(.agg x53), (.int .i64 x54)] : Array Value)[1]? = some (.int .i64 x56) ∧
 ∀ w57 : World, w57 = World.alloc w52 (.cells (zc Try.prog 24).toArray 24) →
 Array.size x55 = 2 ∧ (∀ u ∈ Array.toList x55, one u = true) ∧ Room w57 ⟨World.heap w52 |>.size, 0, none⟩ 2 ∧
 ∀ w58 : World, w58 = setCells w57 ⟨World.heap w52 |>.size, 0, none⟩ (Array.toList x55) 0 →
 ∀ w59 : World, w59 = World.drew w58 →
 ∃ cs60 : List Value, List.length cs60 = 2 ∧ Cells w59 ⟨World.heap w52 |>.size, 0, none⟩ cs60 ∧
 Calls Try.prog 30 #[(.pointer x4)] w59 fun e61 w62 => ∃ x63 : Int, e61 = .returned (.int .i64 x63) ∧
 (∃ cs64 : List Value, List.length cs64 = 2 ∧ Cells w62 ⟨World.heap w52 |>.size, 0, none⟩ cs64 ∧
 (((.agg (List.toArray cs64)) : Value) = (.agg (List.toArray cs60)) ∧ w62 = w62)) ∧
 ∃ cs65, fillL (.fields [(0, 2), (2, 1)]) (zc Try.prog 26) [(0, (.agg (List.toArray cs60))), (1, (.int .i64 x63))] = some cs65 ∧
 Array.size (List.toArray cs65) = 3 ∧ (∀ u ∈ Array.toList (List.toArray cs65), one u = true) ∧ Room w62 (Addr.add ⟨World.heap w3 |>.size, 0, none⟩ 2) 3 ∧
 ∀ w66 : World, w66 = setCells w62 (Addr.add ⟨World.heap w3 |>.size, 0, none⟩ 2) (Array.toList (List.toArray cs65)) 0 →
 J43  w66)
 else
 (Calls Try.prog 28 #[(.pointer x4), (.int .i64 250)] w45 fun e67 w68 => e67 = .returned (.tuple #[]) ∧ J43  w68))))) ∧
 (∀ (w69 : World), J43  w69 →
 Calls Try.prog 31 #[(.pointer x4)] w69 fun e70 w71 => ∃ x72 : Int, e70 = .returned (.int .i64 x72) ∧
 (bif (!decide (x72 = 0)) then
 (∃ cs73, fillL (.fields [(0, 1), (1, 1), (2, 3)]) (zc Try.prog 28) [] = some cs73 ∧
 Array.size (List.toArray cs73) = 5 ∧ (∀ u ∈ Array.toList (List.toArray cs73), one u = true) ∧ Room w71 ⟨World.heap w |>.size, 0, none⟩ 5 ∧
 ∀ w74 : World, w74 = setCells w71 ⟨World.heap w |>.size, 0, none⟩ (Array.toList (List.toArray cs73)) 0 →
 ∃ cs75 : List Value, List.length cs75 = 5 ∧ Cells w74 ⟨World.heap w |>.size, 0, none⟩ cs75 ∧
 R (.returned (.tuple #[(.agg (List.toArray cs75)), (.int .i64 250)])) w74)
 else
 (∃ cs76 : List Value, List.length cs76 = 5 ∧ Cells w71 ⟨World.heap w3 |>.size, 0, none⟩ cs76 ∧
 Array.size (List.toArray cs76) = 5 ∧ (∀ u ∈ Array.toList (List.toArray cs76), one u = true) ∧ Room w71 ⟨World.heap w |>.size, 0, none⟩ 5 ∧
 ∀ w77 : World, w77 = setCells w71 ⟨World.heap w |>.size, 0, none⟩ (Array.toList (List.toArray cs76)) 0 →
 ∃ cs78 : List Value, List.length cs78 = 5 ∧ Cells w77 ⟨World.heap w |>.size, 0, none⟩ cs78 ∧
 R (.returned (.tuple #[(.agg (List.toArray cs78)), (.int .i64 0)])) w77))))))
theorem e8 (b0 : Option Addr) (b0n : Nat) (b0c : Nat) (w : World) (R : Ending → World → Prop) : denS Try.prog s8 (argsEnv 0 [(.slice b0 b0n b0c)]) w (endK r8 R) = d8 b0 b0n b0c w R := by kernel_rfl
theorem c8 (b0 : Option Addr) (b0n : Nat) (b0c : Nat) {w : World} {R : Ending → World → Prop} (h : d8 b0 b0n b0c w R) : Calls Try.prog 8 #[(.slice b0 b0n b0c)] w R :=
  den8 [(.slice b0 b0n b0c)] w R (by simp) ((e8 b0 b0n b0c w R).symm ▸ h)

/-- prelude/preludelaw24.sameProof -/
def s9 : S := (.seq (.ops [⟨(some 2), (.box 28 (.tmp 0)), .ptr, none⟩,
  ⟨(some 3), (.box 28 (.tmp 1)), .ptr, none⟩,
  ⟨(some 4), (.mv (.const (.bool false))), .bool, none⟩] [2, 3])
 (.join [] [2, 3]
 (.seq (.ops [⟨(some 6), (.fa 1 (.tmp 2)), .ptr, none⟩,
  ⟨(some 7), (.ld1 (.tmp 6)), .bool, none⟩,
  ⟨(some 8), (.fa 1 (.tmp 3)), .ptr, none⟩,
  ⟨(some 9), (.ld1 (.tmp 8)), .bool, none⟩,
  ⟨(some 10), (.eqB true (.tmp 7) (.tmp 9)), .bool, none⟩,
  ⟨(some 11), (.mv (.tmp 10)), .bool, none⟩,
  ⟨(some 12), (.fa 2 (.tmp 2)), .ptr, (some (11, false))⟩,
  ⟨(some 13), (.ldN 3 (.tmp 12)), .agg, (some (11, false))⟩,
  ⟨(some 14), (.fa 2 (.tmp 3)), .ptr, (some (11, false))⟩,
  ⟨(some 15), (.ldN 3 (.tmp 14)), .agg, (some (11, false))⟩,
  ⟨(some 16), (.eqG .neq 26 (.tmp 13) (.tmp 15)), .bool, (some (11, false))⟩,
  ⟨(some 17), (.pick (.tmp 11) (.const (.bool true)) (.tmp 16)), .bool, none⟩,
  ⟨(some 18), (.mv (.tmp 17)), .bool, none⟩,
  ⟨(some 19), (.fa 0 (.tmp 2)), .ptr, (some (18, false))⟩,
  ⟨(some 20), (.ld1 (.tmp 19)), .sl, (some (18, false))⟩,
  ⟨(some 21), (.len (.tmp 20)), (.int .i64), (some (18, false))⟩,
  ⟨(some 22), (.fa 0 (.tmp 3)), .ptr, (some (18, false))⟩,
  ⟨(some 23), (.ld1 (.tmp 22)), .sl, (some (18, false))⟩,
  ⟨(some 24), (.len (.tmp 23)), (.int .i64), (some (18, false))⟩,
  ⟨(some 25), (.bin .neq (.tmp 21) (.tmp 24)), .bool, (some (18, false))⟩,
  ⟨(some 26), (.pick (.tmp 18) (.const (.bool true)) (.tmp 25)), .bool, none⟩] [26, 2, 3])
 (.cond (.tmp 26)
 (.seq (.ops [⟨(some 4), (.mv (.const (.bool false))), .bool, none⟩] [4])
 .ret)
 .skip))
 (.seq (.seq (.ops [⟨(some 5), (.mv (.const (.int .i64 0))), (.int .i64), none⟩] [5, 2, 3])
 (.block 0
 (.loop [(5, (.int .i64))] [2, 3]
 (.seq (.seq (.ops [⟨(some 27), (.mv (.tmp 5)), (.int .i64), none⟩,
  ⟨(some 28), (.fa 0 (.tmp 2)), .ptr, none⟩,
  ⟨(some 29), (.ld1 (.tmp 28)), .sl, none⟩,
  ⟨(some 30), (.len (.tmp 29)), (.int .i64), none⟩,
  ⟨(some 31), (.bin .lss (.tmp 27) (.tmp 30)), .bool, none⟩] [31, 2, 5, 3])
 (.cond (.tmp 31)
 .skip
 (.exit 0)))
 (.seq (.block 1
 (.seq (.draw (.take 0 ⟨(some 34), (.fa 0 (.tmp 2)), .ptr, none⟩
  (.take 1 ⟨(some 35), (.ld1 (.tmp 34)), .sl, none⟩
  (.take 2 ⟨(some 36), (.mv (.tmp 5)), (.int .i64), none⟩
  (.take 3 ⟨(some 37), (.ia 33 (.tmp 35) (.tmp 36)), .ptr, none⟩
  (.take 4 ⟨(some 38), (.ldN 33 (.tmp 37)), .agg, none⟩
  (.take 5 ⟨(some 39), (.fa 0 (.tmp 3)), .ptr, none⟩
  (.take 6 ⟨(some 40), (.ld1 (.tmp 39)), .sl, none⟩
  (.take 7 ⟨(some 41), (.mv (.tmp 5)), (.int .i64), none⟩
  (.take 8 ⟨(some 42), (.ia 33 (.tmp 40) (.tmp 41)), .ptr, none⟩
  (.take 9 ⟨(some 43), (.ldN 33 (.tmp 42)), .agg, none⟩
  (.take 10 ⟨(some 44), (.eqG .neq 51 (.tmp 38) (.tmp 43)), .bool, none⟩
  .done))))))))))) [44, 5, 2, 3])
 (.cond (.tmp 44)
 (.seq (.ops [⟨(some 4), (.mv (.const (.bool false))), .bool, none⟩] [4])
 .ret)
 .skip)))
 (.ops [⟨(some 32), (.mv (.tmp 5)), (.int .i64), none⟩,
  ⟨(some 33), (.bin .add (.tmp 32) (.const (.int .i64 1))), (.int .i64), none⟩,
  ⟨(some 5), (.mv (.tmp 33)), (.int .i64), none⟩] [5, 2, 3]))))))
 (.seq (.ops [⟨(some 4), (.mv (.const (.bool true))), .bool, none⟩] [4])
 .ret))))
def r9 : List Res := [.t 4]
theorem tr9 : trS Try.prog [] 45 (Try.f9.body.getD .skip) s9 = some s9 := by kernel_rfl
theorem den9 (args : List Value) (w : World) (R : Ending → World → Prop) (hn : args.length ≤ 45) (h : denS Try.prog s9 (argsEnv 0 args) w (endK r9 R)) : Calls Try.prog 9 args.toArray w R :=
  calls_of_den (pn := []) (fn := Try.f9) (c := Try.f9.body.getD .skip) Try.func9 (by kernel_rfl) (by rw [Try.ntmps9]; exact hn) (by rw [Try.ntmps9]; exact tr9) (by kernel_rfl) h
def d9 (a0 : Array Value) (b1 : Array Value) (w : World) (R : Ending → World → Prop) : Prop :=
 ∀ w2 : World, w2 = World.alloc w (.cells a0 28) →
 ∀ w3 : World, w3 = World.alloc w2 (.cells b1 28) →
 ∃ J4 : World → Prop,
 (∃ x5 : Bool, World.cell? w3 (Addr.add ⟨World.heap w |>.size, 0, none⟩ 1) = some (.bool x5) ∧
 ∃ x6 : Bool, World.cell? w3 (Addr.add ⟨World.heap w2 |>.size, 0, none⟩ 1) = some (.bool x6) ∧
 (bif (!(x5 == x6)) then
 (R (.returned (.bool false)) w3)
 else
 (∃ cs7 : List Value, List.length cs7 = 3 ∧ Cells w3 (Addr.add ⟨World.heap w |>.size, 0, none⟩ 2) cs7 ∧
 ∃ cs8 : List Value, List.length cs8 = 3 ∧ Cells w3 (Addr.add ⟨World.heap w2 |>.size, 0, none⟩ 2) cs8 ∧
 ∃ q9 : Bool, Sem.run Try.prog (do eqGuard .neq 26 (.tmp 13) (.tmp 15) (.agg (List.toArray cs7)) (.agg (List.toArray cs8)); binOp .neq 26 (.agg (List.toArray cs7)) (.agg (List.toArray cs8))) w3 = .ok (.bool q9) w3 ∧
 (bif q9 then
 (R (.returned (.bool false)) w3)
 else
 (∃ (x10 : Option Addr) (x10n : Nat) (x10c : Nat), World.cell? w3 (Addr.add ⟨World.heap w |>.size, 0, none⟩ 0) = some (.slice x10 x10n x10c) ∧
 ∃ (x11 : Option Addr) (x11n : Nat) (x11c : Nat), World.cell? w3 (Addr.add ⟨World.heap w2 |>.size, 0, none⟩ 0) = some (.slice x11 x11n x11c) ∧
 (bif (!decide (((x10n : Nat) : Int) = ((x11n : Nat) : Int))) then
 (R (.returned (.bool false)) w3)
 else
 (J4  w3))))))) ∧
 (∀ (w12 : World), J4  w12 →
 ∃ I13 : Nat → Int → World → Prop,
 (∃ m, I13 m 0 w12) ∧
 (∀ (m14 : Nat) (w15 : World) (i16 : Int), I13 m14 i16 w15 →
 ∃ (x17 : Option Addr) (x17n : Nat) (x17c : Nat), World.cell? w15 (Addr.add ⟨World.heap w |>.size, 0, none⟩ 0) = some (.slice x17 x17n x17c) ∧
 (bif (decide (i16 < ((x17n : Nat) : Int))) then
 (∀ w18 : World, w18 = World.drew w15 →
 ∃ (x19 : Option Addr) (x19n : Nat) (x19c : Nat), World.cell? w18 (Addr.add ⟨World.heap w |>.size, 0, none⟩ 0) = some (.slice x19 x19n x19c) ∧
 0 ≤ i16 ∧ i16 < ((x19n : Nat) : Int) ∧ optK x19 fun a20 =>
 ∃ cs21 : List Value, List.length cs21 = 33 ∧ Cells w18 (Addr.add a20 (Int.toNat i16 * 33)) cs21 ∧
 ∃ (x22 : Option Addr) (x22n : Nat) (x22c : Nat), World.cell? w18 (Addr.add ⟨World.heap w2 |>.size, 0, none⟩ 0) = some (.slice x22 x22n x22c) ∧
 0 ≤ i16 ∧ i16 < ((x22n : Nat) : Int) ∧ optK x22 fun a23 =>
 ∃ cs24 : List Value, List.length cs24 = 33 ∧ Cells w18 (Addr.add a23 (Int.toNat i16 * 33)) cs24 ∧
 ∃ q25 : Bool, Sem.run Try.prog (do eqGuard .neq 51 (.tmp 38) (.tmp 43) (.agg (List.toArray cs21)) (.agg (List.toArray cs24)); binOp .neq 51 (.agg (List.toArray cs21)) (.agg (List.toArray cs24))) w18 = .ok (.bool q25) w18 ∧
 (bif q25 then
 (R (.returned (.bool false)) w18)
 else
 (∃ m26, m26 < m14 ∧ I13 m26 (IntKind.wrap .i64 (i16 + 1)) w18)))
 else
 (R (.returned (.bool true)) w15))))
theorem e9 (a0 : Array Value) (b1 : Array Value) (w : World) (R : Ending → World → Prop) : denS Try.prog s9 (argsEnv 0 [(.agg a0), (.agg b1)]) w (endK r9 R) = d9 a0 b1 w R := by kernel_rfl
theorem c9 (a0 : Array Value) (b1 : Array Value) {w : World} {R : Ending → World → Prop} (h : d9 a0 b1 w R) : Calls Try.prog 9 #[(.agg a0), (.agg b1)] w R :=
  den9 [(.agg a0), (.agg b1)] w R (by simp) ((e9 a0 b1 w R).symm ▸ h)

/-- prelude/preluderef24.Decode -/
def s10 : S := (.seq (.ops [⟨(some 2), (.alloc 28), .ptr, none⟩,
  ⟨(some 3), (.mv (.const (.int .i64 0))), (.int .i64), none⟩] [0, 2])
 (.seq (.ops [⟨(some 13), (.mv (.tmp 0)), .sl, none⟩,
  ⟨(some 14), (.bld 72 (.fields [(0, 1), (1, 1), (2, 1)]) [(0, (.tmp 13))]), .agg, none⟩,
  ⟨(some 15), (.box 72 (.tmp 14)), .ptr, none⟩,
  ⟨(some 4), (.mv (.tmp 15)), .ptr, none⟩] [4, 2])
 (.seq (.ops [⟨(some 16), (.mv (.tmp 4)), .ptr, none⟩,
  ⟨(some 17), (.call 32 [(.tmp 16), (.const (.int .u64 80))] [(.int .u64)]), (.int .u64), none⟩,
  ⟨(some 5), (.mv (.tmp 17)), (.int .u64), none⟩] [5, 4, 2])
 (.seq (.ops [⟨(some 6), (.alloc 28), .ptr, none⟩] [5, 4, 2, 6])
 (.join [] [2, 4, 6]
 (.seq (.ops [⟨(some 7), (.mv (.const (.int .u64 0))), (.int .u64), none⟩] [7, 5, 4, 2, 6])
 (.block 0
 (.loop [(7, (.int .u64))] [2, 4, 5, 6]
 (.join [] [2, 4, 5, 6, 7]
 (.seq (.ops [⟨(some 18), (.mv (.tmp 7)), (.int .u64), none⟩,
  ⟨(some 19), (.mv (.tmp 5)), (.int .u64), none⟩,
  ⟨(some 20), (.bin .lss (.tmp 18) (.tmp 19)), .bool, none⟩,
  ⟨(some 21), (.mv (.tmp 20)), .bool, none⟩,
  ⟨(some 22), (.mv (.tmp 4)), .ptr, (some (21, true))⟩,
  ⟨(some 23), (.nc (.tmp 22)), .any, (some (21, true))⟩,
  ⟨(some 24), (.fa 2 (.tmp 23)), .ptr, (some (21, true))⟩,
  ⟨(some 25), (.ld1 (.tmp 24)), (.int .i64), (some (21, true))⟩,
  ⟨(some 26), (.bin .eql (.tmp 25) (.const (.int .i64 0))), .bool, (some (21, true))⟩,
  ⟨(some 27), (.pick (.tmp 21) (.tmp 26) (.const (.bool false))), .bool, none⟩] [27, 4, 2, 6, 7, 5])
 (.cond (.tmp 27)
 .skip
 (.exit 0)))
 (.seq (.block 1
 (.seq (.ops [⟨(some 30), (.mv (.tmp 4)), .ptr, none⟩,
  ⟨(some 31), (.call 33 [(.tmp 30)] [(.int .u8)]), (.int .u8), none⟩,
  ⟨(some 32), (.cv .i64 (.tmp 31)), (.int .i64), none⟩,
  ⟨(some 33), (.bld 51 (.fields [(0, 1), (1, 32)]) [(0, (.tmp 32))]), .agg, none⟩,
  ⟨(some 8), (.alloc 51), .ptr, none⟩,
  ⟨none, (.stN 33 (.tmp 8) (.tmp 33)), .any, none⟩] [4, 8, 2, 6, 7, 5])
 (.seq (.ops [⟨(some 34), (.mv (.tmp 4)), .ptr, none⟩,
  ⟨(some 35), (.call 34 [(.tmp 34), (.const (.int .i64 32))] [.sl]), .sl, none⟩,
  ⟨(some 9), (.mv (.tmp 35)), .sl, none⟩] [9, 8, 2, 6, 7, 5, 4])
 (.seq (.seq (.ops [⟨(some 10), (.mv (.const (.int .i64 0))), (.int .i64), none⟩] [10, 9, 8, 2, 6, 7, 5, 4])
 (.block 2
 (.loop [(10, (.int .i64))] [2, 4, 5, 6, 7, 8, 9]
 (.seq (.seq (.ops [⟨(some 36), (.mv (.tmp 10)), (.int .i64), none⟩,
  ⟨(some 37), (.mv (.tmp 9)), .sl, none⟩,
  ⟨(some 38), (.len (.tmp 37)), (.int .i64), none⟩,
  ⟨(some 39), (.bin .lss (.tmp 36) (.tmp 38)), .bool, none⟩] [39, 10, 9, 8, 2, 6, 7, 5, 4])
 (.cond (.tmp 39)
 .skip
 (.exit 2)))
 (.seq (.block 3
 (.ops [⟨(some 42), (.mv (.tmp 10)), (.int .i64), none⟩,
  ⟨(some 43), (.mv (.tmp 9)), .sl, none⟩,
  ⟨(some 44), (.mv (.tmp 10)), (.int .i64), none⟩,
  ⟨(some 45), (.ia 1 (.tmp 43) (.tmp 44)), .ptr, none⟩,
  ⟨(some 46), (.ld1 (.tmp 45)), (.int .u8), none⟩,
  ⟨(some 47), (.fa 1 (.tmp 8)), .ptr, none⟩,
  ⟨(some 48), (.iaA 32 1 (.tmp 47) (.tmp 42)), .ptr, none⟩,
  ⟨none, (.st1 (.tmp 48) (.tmp 46)), .any, none⟩] [10, 9, 8, 2, 6, 7, 5, 4]))
 (.ops [⟨(some 40), (.mv (.tmp 10)), (.int .i64), none⟩,
  ⟨(some 41), (.bin .add (.tmp 40) (.const (.int .i64 1))), (.int .i64), none⟩,
  ⟨(some 10), (.mv (.tmp 41)), (.int .i64), none⟩] [10, 9, 8, 2, 6, 7, 5, 4]))))))
 (.seq (.seq (.ops [⟨(some 49), (.fa 0 (.tmp 8)), .ptr, none⟩,
  ⟨(some 50), (.ld1 (.tmp 49)), (.int .i64), none⟩,
  ⟨(some 51), (.bin .geq (.tmp 50) (.const (.int .i64 80))), .bool, none⟩] [51, 2, 6, 8, 7, 5, 4])
 (.cond (.tmp 51)
 (.seq (.ops [⟨(some 52), (.bld 28 (.fields [(0, 1), (1, 1), (2, 3)]) []), .agg, none⟩,
  ⟨none, (.stN 5 (.tmp 2) (.tmp 52)), .any, none⟩,
  ⟨(some 3), (.mv (.const (.int .i64 250))), (.int .i64), none⟩] [2, 3])
 .ret)
 .skip))
 (.ops [⟨(some 53), (.fa 0 (.tmp 6)), .ptr, none⟩,
  ⟨(some 54), (.ld1 (.tmp 53)), .sl, none⟩,
  ⟨(some 55), (.ldN 33 (.tmp 8)), .agg, none⟩,
  ⟨(some 56), (.bldS 51 1 33 [(0, (.tmp 55))]), .sl, none⟩,
  ⟨(some 57), (.app #[22, 22] 22 (.tmp 54) (.tmp 56)), .sl, none⟩,
  ⟨(some 58), (.fa 0 (.tmp 6)), .ptr, none⟩,
  ⟨none, (.st1 (.tmp 58) (.tmp 57)), .any, none⟩] [7, 5, 4, 2, 6]))))))
 (.ops [⟨(some 28), (.mv (.tmp 7)), (.int .u64), none⟩,
  ⟨(some 29), (.bin .add (.tmp 28) (.const (.int .u64 1))), (.int .u64), none⟩,
  ⟨(some 7), (.mv (.tmp 29)), (.int .u64), none⟩] [7, 5, 4, 2, 6]))))))
 (.seq (.ops [⟨(some 59), (.mv (.tmp 4)), .ptr, none⟩,
  ⟨(some 60), (.call 33 [(.tmp 59)] [(.int .u8)]), (.int .u8), none⟩,
  ⟨(some 11), (.mv (.tmp 60)), (.int .u8), none⟩] [11, 4, 2, 6])
 (.join [] [2, 4, 6, 11]
 (.seq (.ops [⟨(some 61), (.mv (.tmp 11)), (.int .u8), none⟩,
  ⟨(some 62), (.bin .eql (.tmp 61) (.const (.int .u8 1))), .bool, none⟩] [62, 4, 2, 6, 11])
 (.cond (.tmp 62)
 (.seq (.ops [⟨(some 63), (.mv (.tmp 4)), .ptr, none⟩,
  ⟨(some 64), (.call 34 [(.tmp 63), (.const (.int .i64 10))] [.sl]), .sl, none⟩,
  ⟨(some 12), (.mv (.tmp 64)), .sl, none⟩] [4, 2, 6, 12, 11])
 (.seq (.seq (.ops [⟨(some 65), (.mv (.tmp 4)), .ptr, none⟩,
  ⟨(some 66), (.nc (.tmp 65)), .any, none⟩,
  ⟨(some 67), (.fa 2 (.tmp 66)), .ptr, none⟩,
  ⟨(some 68), (.ld1 (.tmp 67)), (.int .i64), none⟩,
  ⟨(some 69), (.bin .neq (.tmp 68) (.const (.int .i64 0))), .bool, none⟩] [69, 2, 6, 12, 4, 11])
 (.cond (.tmp 69)
 (.seq (.ops [⟨(some 70), (.bld 28 (.fields [(0, 1), (1, 1), (2, 3)]) []), .agg, none⟩,
  ⟨none, (.stN 5 (.tmp 2) (.tmp 70)), .any, none⟩,
  ⟨(some 3), (.mv (.const (.int .i64 250))), (.int .i64), none⟩] [2, 3])
 .ret)
 .skip))
 (.seq (.ops [⟨(some 71), (.fa 1 (.tmp 6)), .ptr, none⟩,
  ⟨none, (.st1 (.tmp 71) (.const (.bool true))), .any, none⟩] [12, 6, 4, 11, 2])
 (.seq (.ops [⟨(some 73), (.mv (.tmp 12)), .sl, none⟩,
  ⟨(some 74), (.call 35 [(.tmp 73)] [.agg, (.int .i64)]), .any, none⟩,
  ⟨(some 72), (.mv (.tmp 74)), .any, none⟩,
  ⟨(some 75), (.ext 0 (.tmp 72)), .agg, none⟩,
  ⟨(some 76), (.ext 1 (.tmp 72)), (.int .i64), none⟩,
  ⟨(some 77), (.fa 2 (.tmp 6)), .ptr, none⟩,
  ⟨(some 78), (.fa 0 (.tmp 77)), .ptr, none⟩,
  ⟨none, (.stN 2 (.tmp 78) (.tmp 75)), .any, none⟩] [4, 6, 11, 2])
 (.ops [⟨(some 79), (.mv (.tmp 4)), .ptr, none⟩,
  ⟨(some 80), (.call 36 [(.tmp 79)] [(.int .i64)]), (.int .i64), none⟩,
  ⟨(some 81), (.fa 2 (.tmp 6)), .ptr, none⟩,
  ⟨(some 82), (.fa 2 (.tmp 81)), .ptr, none⟩,
  ⟨none, (.st1 (.tmp 82) (.tmp 80)), .any, none⟩] [11, 4, 2, 6])))))
 .skip))
 (.seq (.seq (.ops [⟨(some 83), (.mv (.tmp 11)), (.int .u8), none⟩,
  ⟨(some 84), (.bin .gtr (.tmp 83) (.const (.int .u8 1))), .bool, none⟩,
  ⟨(some 85), (.mv (.tmp 84)), .bool, none⟩,
  ⟨(some 86), (.mv (.tmp 4)), .ptr, (some (85, false))⟩,
  ⟨(some 87), (.call 37 [(.tmp 86)] [(.int .i64)]), (.int .i64), (some (85, false))⟩,
  ⟨(some 88), (.bin .neq (.tmp 87) (.const (.int .i64 0))), .bool, (some (85, false))⟩,
  ⟨(some 89), (.pick (.tmp 85) (.const (.bool true)) (.tmp 88)), .bool, none⟩] [89, 2, 6])
 (.cond (.tmp 89)
 (.seq (.ops [⟨(some 90), (.bld 28 (.fields [(0, 1), (1, 1), (2, 3)]) []), .agg, none⟩,
  ⟨none, (.stN 5 (.tmp 2) (.tmp 90)), .any, none⟩,
  ⟨(some 3), (.mv (.const (.int .i64 250))), (.int .i64), none⟩] [2, 3])
 .ret)
 .skip))
 (.seq (.ops [⟨(some 91), (.ldN 5 (.tmp 6)), .agg, none⟩,
  ⟨none, (.stN 5 (.tmp 2) (.tmp 91)), .any, none⟩,
  ⟨(some 3), (.mv (.const (.int .i64 0))), (.int .i64), none⟩] [2, 3])
 .ret)))))))))
def r10 : List Res := [.cN 2 5, .t 3]
theorem tr10 : trS Try.prog [] 92 (Try.f10.body.getD .skip) s10 = some s10 := by kernel_rfl
theorem den10 (args : List Value) (w : World) (R : Ending → World → Prop) (hn : args.length ≤ 92) (h : denS Try.prog s10 (argsEnv 0 args) w (endK r10 R)) : Calls Try.prog 10 args.toArray w R :=
  calls_of_den (pn := []) (fn := Try.f10) (c := Try.f10.body.getD .skip) Try.func10 (by kernel_rfl) (by rw [Try.ntmps10]; exact hn) (by rw [Try.ntmps10]; exact tr10) (by kernel_rfl) h
def d10 (b0 : Option Addr) (b0n : Nat) (b0c : Nat) (w : World) (R : Ending → World → Prop) : Prop :=
 ∀ w1 : World, w1 = World.alloc w (.cells (zc Try.prog 28).toArray 28) →
 ∃ cs2, fillL (.fields [(0, 1), (1, 1), (2, 1)]) (zc Try.prog 72) [(0, (.slice b0 b0n b0c))] = some cs2 ∧
 ∀ w3 : World, w3 = World.alloc w1 (.cells (List.toArray cs2) 72) →
 Calls Try.prog 32 #[(.pointer (some ⟨World.heap w1 |>.size, 0, none⟩)), (.int .u64 80)] w3 fun e4 w5 => ∃ x6 : Int, e4 = .returned (.int .u64 x6) ∧
 ∀ w7 : World, w7 = World.alloc w5 (.cells (zc Try.prog 28).toArray 28) →
 ∃ J8 : World → Prop,
 (∃ I9 : Nat → Int → World → Prop,
 (∃ m, I9 m 0 w7) ∧
 (∀ (m10 : Nat) (w11 : World) (i12 : Int), I9 m10 i12 w11 →
 ∃ J13 : World → Prop,
 ((bif (decide (i12 < x6)) then
 (∃ x14 : Int, World.cell? w11 (Addr.add ⟨World.heap w1 |>.size, 0, none⟩ 2) = some (.int .i64 x14) ∧
 (bif (decide (x14 = 0)) then
 (J13  w11)
 else
 (J8  w11)))
 else
 (J8  w11))) ∧
 (∀ (w15 : World), J13  w15 →
 Calls Try.prog 33 #[(.pointer (some ⟨World.heap w1 |>.size, 0, none⟩))] w15 fun e16 w17 => ∃ x18 : Int, e16 = .returned (.int .u8 x18) ∧
 ∃ cs19, fillL (.fields [(0, 1), (1, 32)]) (zc Try.prog 51) [(0, (.int .i64 (IntKind.wrap .i64 x18)))] = some cs19 ∧
 ∀ w20 : World, w20 = World.alloc w17 (.cells (zc Try.prog 51).toArray 51) →
 Array.size (List.toArray cs19) = 33 ∧ (∀ u ∈ Array.toList (List.toArray cs19), one u = true) ∧ Room w20 ⟨World.heap w17 |>.size, 0, none⟩ 33 ∧
 ∀ w21 : World, w21 = setCells w20 ⟨World.heap w17 |>.size, 0, none⟩ (Array.toList (List.toArray cs19)) 0 →
 Calls Try.prog 34 #[(.pointer (some ⟨World.heap w1 |>.size, 0, none⟩)), (.int .i64 32)] w21 fun e22 w23 => ∃ (x24 : Option Addr) (x24n : Nat) (x24c : Nat), e22 = .returned (.slice x24 x24n x24c) ∧
 ∃ I25 : Nat → Int → World → Prop,
 (∃ m, I25 m 0 w23) ∧
 (∀ (m26 : Nat) (w27 : World) (k28 : Int), I25 m26 k28 w27 →
 (bif (decide (k28 < ((x24n : Nat) : Int))) then
 (0 ≤ k28 ∧ k28 < ((x24n : Nat) : Int) ∧ optK x24 fun a29 =>
 ∃ x30 : Int, World.cell? w27 (Addr.add a29 (Int.toNat k28 * 1)) = some (.int .u8 x30) ∧
 0 ≤ k28 ∧ k28 < ((32 : Nat) : Int) ∧
 one (.int .u8 x30) = true ∧ Option.isSome (World.cell? w27 (Addr.add (Addr.add ⟨World.heap w17 |>.size, 0, none⟩ 1) (Int.toNat k28 * 1))) = true ∧ World.frozen? w27 (Addr.add (Addr.add ⟨World.heap w17 |>.size, 0, none⟩ 1) (Int.toNat k28 * 1)) = false ∧
 ∀ w31 : World, w31 = World.setCell w27 (Addr.add (Addr.add ⟨World.heap w17 |>.size, 0, none⟩ 1) (Int.toNat k28 * 1)) (.int .u8 x30) →
 ∃ m32, m32 < m26 ∧ I25 m32 (IntKind.wrap .i64 (k28 + 1)) w31)
 else
 (∃ x33 : Int, World.cell? w27 (Addr.add ⟨World.heap w17 |>.size, 0, none⟩ 0) = some (.int .i64 x33) ∧
 (bif (decide (80 ≤ x33)) then
 (∃ cs34, fillL (.fields [(0, 1), (1, 1), (2, 3)]) (zc Try.prog 28) [] = some cs34 ∧
 Array.size (List.toArray cs34) = 5 ∧ (∀ u ∈ Array.toList (List.toArray cs34), one u = true) ∧ Room w27 ⟨World.heap w |>.size, 0, none⟩ 5 ∧
 ∀ w35 : World, w35 = setCells w27 ⟨World.heap w |>.size, 0, none⟩ (Array.toList (List.toArray cs34)) 0 →
 ∃ cs36 : List Value, List.length cs36 = 5 ∧ Cells w35 ⟨World.heap w |>.size, 0, none⟩ cs36 ∧
 R (.returned (.tuple #[(.agg (List.toArray cs36)), (.int .i64 250)])) w35)
 else
 (∃ (x37 : Option Addr) (x37n : Nat) (x37c : Nat), World.cell? w27 (Addr.add ⟨World.heap w5 |>.size, 0, none⟩ 0) = some (.slice x37 x37n x37c) ∧
 ∃ cs38 : List Value, List.length cs38 = 33 ∧ Cells w27 ⟨World.heap w17 |>.size, 0, none⟩ cs38 ∧
 ∃ cs39, fillL (.elems 33) (zrep (zc Try.prog 51) (1 * 33)) [(0, (.agg (List.toArray cs38)))] = some cs39 ∧
 ∀ w40 : World, w40 = World.alloc w27 (.cells (List.toArray cs39) 51) →
 RunV Try.prog (Builtin.append_ #[22, 22] 22 #[(.slice x37 x37n x37c), (.slice (some ⟨World.heap w27 |>.size, 0, none⟩) 1 1)]) w40 fun v41 w42 => ∃ (x43 : Option Addr) (x43n : Nat) (x43c : Nat), v41 = (.slice x43 x43n x43c) ∧
 one (.slice x43 x43n x43c) = true ∧ Option.isSome (World.cell? w42 (Addr.add ⟨World.heap w5 |>.size, 0, none⟩ 0)) = true ∧ World.frozen? w42 (Addr.add ⟨World.heap w5 |>.size, 0, none⟩ 0) = false ∧
 ∀ w44 : World, w44 = World.setCell w42 (Addr.add ⟨World.heap w5 |>.size, 0, none⟩ 0) (.slice x43 x43n x43c) →
 ∃ m45, m45 < m10 ∧ I9 m45 (IntKind.wrap .u64 (i12 + 1)) w44)))))))) ∧
 (∀ (w46 : World), J8  w46 →
 Calls Try.prog 33 #[(.pointer (some ⟨World.heap w1 |>.size, 0, none⟩))] w46 fun e47 w48 => ∃ x49 : Int, e47 = .returned (.int .u8 x49) ∧
 ∃ J50 : World → Prop,
 ((bif (decide (x49 = 1)) then
 (Calls Try.prog 34 #[(.pointer (some ⟨World.heap w1 |>.size, 0, none⟩)), (.int .i64 10)] w48 fun e51 w52 => ∃ (x53 : Option Addr) (x53n : Nat) (x53c : Nat), e51 = .returned (.slice x53 x53n x53c) ∧
 ∃ x54 : Int, World.cell? w52 (Addr.add ⟨World.heap w1 |>.size, 0, none⟩ 2) = some (.int .i64 x54) ∧
 (bif (!decide (x54 = 0)) then
 (∃ cs55, fillL (.fields [(0, 1), (1, 1), (2, 3)]) (zc Try.prog 28) [] = some cs55 ∧
 Array.size (List.toArray cs55) = 5 ∧ (∀ u ∈ Array.toList (List.toArray cs55), one u = true) ∧ Room w52 ⟨World.heap w |>.size, 0, none⟩ 5 ∧
 ∀ w56 : World, w56 = setCells w52 ⟨World.heap w |>.size, 0, none⟩ (Array.toList (List.toArray cs55)) 0 →
 ∃ cs57 : List Value, List.length cs57 = 5 ∧ Cells w56 ⟨World.heap w |>.size, 0, none⟩ cs57 ∧
 R (.returned (.tuple #[(.agg (List.toArray cs57)), (.int .i64 250)])) w56)
 else
 (one (.bool true) = true ∧ Option.isSome (World.cell? w52 (Addr.add ⟨World.heap w5 |>.size, 0, none⟩ 1)) = true ∧ World.frozen? w52 (Addr.add ⟨World.heap w5 |>.size, 0, none⟩ 1) = false ∧
 ∀ w58 : World, w58 = World.setCell w52 (Addr.add ⟨World.heap w5 |>.size, 0, none⟩ 1) (.bool true) →
 Calls Try.prog 35 #[(.slice x53 x53n x53c)] w58 fun e59 w60 => ∃ x61 : Array Value, ∃ x62 : Int, e59 = .returned (.tuple #[(.agg x61), (.int .i64 x62)]) ∧
 ∃ x63 : Array Value, (#[(.agg x61), (.int .i64 x62)] : Array Value)[0]? = some (.agg x63) ∧
 ∃ x64 : Int, (#[(.agg x61), (.int .i64 x62)] : Array Value)[1]? = some (.int .i64 x64) ∧
 Array.size x63 = 2 ∧ (∀ u ∈ Array.toList x63, one u = true) ∧ Room w60 (Addr.add (Addr.add ⟨World.heap w5 |>.size, 0, none⟩ 2) 0) 2 ∧
 ∀ w65 : World, w65 = setCells w60 (Addr.add (Addr.add ⟨World.heap w5 |>.size, 0, none⟩ 2) 0) (Array.toList x63) 0 →
 Calls Try.prog 36 #[(.pointer (some ⟨World.heap w1 |>.size, 0, none⟩))] w65 fun e66 w67 => ∃ x68 : Int, e66 = .returned (.int .i64 x68) ∧
 one (.int .i64 x68) = true ∧ Option.isSome (World.cell? w67 (Addr.add (Addr.add ⟨World.heap w5 |>.size, 0, none⟩ 2) 2)) = true ∧ World.frozen? w67 (Addr.add (Addr.add ⟨World.heap w5 |>.size, 0, none⟩ 2) 2) = false ∧
 ∀ w69 : World, w69 = World.setCell w67 (Addr.add (Addr.add ⟨World.heap w5 |>.size, 0, none⟩ 2) 2) (.int .i64 x68) →
 J50  w69)))
 else
 (J50  w48))) ∧
 (∀ (w70 : World), J50  w70 →
 (bif (decide (1 < x49)) then
 (∃ cs71, fillL (.fields [(0, 1), (1, 1), (2, 3)]) (zc Try.prog 28) [] = some cs71 ∧
 Array.size (List.toArray cs71) = 5 ∧ (∀ u ∈ Array.toList (List.toArray cs71), one u = true) ∧ Room w70 ⟨World.heap w |>.size, 0, none⟩ 5 ∧
 ∀ w72 : World, w72 = setCells w70 ⟨World.heap w |>.size, 0, none⟩ (Array.toList (List.toArray cs71)) 0 →
 ∃ cs73 : List Value, List.length cs73 = 5 ∧ Cells w72 ⟨World.heap w |>.size, 0, none⟩ cs73 ∧
 R (.returned (.tuple #[(.agg (List.toArray cs73)), (.int .i64 250)])) w72)
 else
 (Calls Try.prog 37 #[(.pointer (some ⟨World.heap w1 |>.size, 0, none⟩))] w70 fun e74 w75 => ∃ x76 : Int, e74 = .returned (.int .i64 x76) ∧
 (bif (!decide (x76 = 0)) then
 (∃ cs77, fillL (.fields [(0, 1), (1, 1), (2, 3)]) (zc Try.prog 28) [] = some cs77 ∧
 Array.size (List.toArray cs77) = 5 ∧ (∀ u ∈ Array.toList (List.toArray cs77), one u = true) ∧ Room w75 ⟨World.heap w |>.size, 0, none⟩ 5 ∧
 ∀ w78 : World, w78 = setCells w75 ⟨World.heap w |>.size, 0, none⟩ (Array.toList (List.toArray cs77)) 0 →
 ∃ cs79 : List Value, List.length cs79 = 5 ∧ Cells w78 ⟨World.heap w |>.size, 0, none⟩ cs79 ∧
 R (.returned (.tuple #[(.agg (List.toArray cs79)), (.int .i64 250)])) w78)
 else
 (∃ cs80 : List Value, List.length cs80 = 5 ∧ Cells w75 ⟨World.heap w5 |>.size, 0, none⟩ cs80 ∧
 Array.size (List.toArray cs80) = 5 ∧ (∀ u ∈ Array.toList (List.toArray cs80), one u = true) ∧ Room w75 ⟨World.heap w |>.size, 0, none⟩ 5 ∧
 ∀ w81 : World, w81 = setCells w75 ⟨World.heap w |>.size, 0, none⟩ (Array.toList (List.toArray cs80)) 0 →
 ∃ cs82 : List Value, List.length cs82 = 5 ∧ Cells w81 ⟨World.heap w |>.size, 0, none⟩ cs82 ∧
 R (.returned (.tuple #[(.agg (List.toArray cs82)), (.int .i64 0)])) w81))))))
theorem e10 (b0 : Option Addr) (b0n : Nat) (b0c : Nat) (w : World) (R : Ending → World → Prop) : denS Try.prog s10 (argsEnv 0 [(.slice b0 b0n b0c)]) w (endK r10 R) = d10 b0 b0n b0c w R := by kernel_rfl
theorem c10 (b0 : Option Addr) (b0n : Nat) (b0c : Nat) {w : World} {R : Ending → World → Prop} (h : d10 b0 b0n b0c w R) : Calls Try.prog 10 #[(.slice b0 b0n b0c)] w R :=
  den10 [(.slice b0 b0n b0c)] w R (by simp) ((e10 b0 b0n b0c w R).symm ▸ h)

/-- prelude/proof.rank -/
def s14 : S := (.seq (.ops [⟨(some 2), (.mv (.const (.bool false))), .bool, none⟩] [0])
 (.seq (.ops [⟨(some 3), (.mv (.tmp 0)), (.int .i64), none⟩,
  ⟨(some 4), (.bin .geq (.tmp 3) (.const (.int .i64 0))), .bool, none⟩,
  ⟨(some 5), (.mv (.tmp 4)), .bool, none⟩,
  ⟨(some 6), (.mv (.tmp 0)), (.int .i64), (some (5, true))⟩,
  ⟨(some 7), (.bin .lss (.tmp 6) (.const (.int .i64 80))), .bool, (some (5, true))⟩,
  ⟨(some 8), (.pick (.tmp 5) (.tmp 7) (.const (.bool false))), .bool, none⟩,
  ⟨(some 2), (.mv (.tmp 8)), .bool, none⟩] [2])
 .ret))
def r14 : List Res := [.t 2]
theorem tr14 : trS Try.prog [] 9 (Try.f14.body.getD .skip) s14 = some s14 := by kernel_rfl
theorem den14 (args : List Value) (w : World) (R : Ending → World → Prop) (hn : args.length ≤ 9) (h : denS Try.prog s14 (argsEnv 0 args) w (endK r14 R)) : Calls Try.prog 14 args.toArray w R :=
  calls_of_den (pn := []) (fn := Try.f14) (c := Try.f14.body.getD .skip) Try.func14 (by kernel_rfl) (by rw [Try.ntmps14]; exact hn) (by rw [Try.ntmps14]; exact tr14) (by kernel_rfl) h
def d14 (n0 : Int) (w : World) (R : Ending → World → Prop) : Prop :=
 (bif (decide (0 ≤ n0)) then
 (R (.returned (.bool (decide (n0 < 80)))) w)
 else
 (R (.returned (.bool false)) w))
theorem e14 (n0 : Int) (w : World) (R : Ending → World → Prop) : denS Try.prog s14 (argsEnv 0 [(.int .i64 n0)]) w (endK r14 R) = d14 n0 w R := by kernel_rfl
theorem c14 (n0 : Int) {w : World} {R : Ending → World → Prop} (h : d14 n0 w R) : Calls Try.prog 14 #[(.int .i64 n0)] w R :=
  den14 [(.int .i64 n0)] w R (by simp) ((e14 n0 w R).symm ▸ h)

end Go.Proofs.Ytjkbjppopdfggaa.Fn
