/-
  THE CODE of some functions of the given program, resolved, and proved to ask what the readable texts (d..) say; contracts c.. follow. Printed by a small program of mine.
-/
import Derived.Test.YtjchneebdlncfaaDenWords8
import Derived.Test.YtjchneebdlncfaaProg
set_option maxRecDepth 100000
namespace Go.Proofs.Ytjchneebdlncfaa.Fn
open Go Den
/-- prelude/merge.NewInput -/
def s21 : S := (.seq (.ops [⟨(some 4), (.mv (.const (.pointer none))), .ptr, none⟩,
  ⟨(some 5), (.mv (.const (.int .i64 0))), (.int .i64), none⟩] [0, 1])
 (.join [] [0, 1]
 (.seq (.ops [⟨(some 6), (.mv (.tmp 0)), (.int .i64), none⟩,
  ⟨(some 7), (.bin .lss (.tmp 6) (.const (.int .i64 0))), .bool, none⟩,
  ⟨(some 8), (.mv (.tmp 7)), .bool, none⟩,
  ⟨(some 9), (.mv (.tmp 0)), (.int .i64), (some (8, false))⟩,
  ⟨(some 10), (.bin .geq (.tmp 9) (.const (.int .i64 16))), .bool, (some (8, false))⟩,
  ⟨(some 11), (.pick (.tmp 8) (.const (.bool true)) (.tmp 10)), .bool, none⟩] [11, 1, 0])
 (.cond (.tmp 11)
 (.seq (.ops [⟨(some 4), (.mv (.const (.pointer none))), .ptr, none⟩,
  ⟨(some 5), (.mv (.const (.int .i64 261))), (.int .i64), none⟩] [4, 5])
 .ret)
 .skip))
 (.seq (.seq (.ops [⟨(some 12), (.mv (.tmp 1)), (.int .i64), none⟩,
  ⟨(some 13), (.call 35 [(.tmp 12)] [.bool]), .bool, none⟩,
  ⟨(some 14), (.un .not (.tmp 13)), .bool, none⟩] [14, 0, 1])
 (.cond (.tmp 14)
 (.seq (.ops [⟨(some 4), (.mv (.const (.pointer none))), .ptr, none⟩,
  ⟨(some 5), (.mv (.const (.int .i64 262))), (.int .i64), none⟩] [4, 5])
 .ret)
 .skip))
 (.seq (.ops [⟨(some 15), (.mv (.tmp 0)), (.int .i64), none⟩,
  ⟨(some 16), (.mv (.tmp 1)), (.int .i64), none⟩,
  ⟨(some 17), (.bld 104 (.fields [(0, 1), (1, 1), (2, 1), (3, 1)]) [(0, (.tmp 15)), (1, (.tmp 16))]), .agg, none⟩,
  ⟨(some 18), (.box 104 (.tmp 17)), .ptr, none⟩,
  ⟨(some 4), (.mv (.tmp 18)), .ptr, none⟩,
  ⟨(some 5), (.mv (.const (.int .i64 0))), (.int .i64), none⟩] [4, 5])
 .ret))))
def r21 : List Res := [.t 4, .t 5]
theorem tr21 : trS Try.prog [] 19 (Try.f21.body.getD .skip) s21 = some s21 := by kernel_rfl
theorem den21 (args : List Value) (w : World) (R : Ending → World → Prop) (hn : args.length ≤ 19) (h : denS Try.prog s21 (argsEnv 0 args) w (endK r21 R)) : Calls Try.prog 21 args.toArray w R :=
  calls_of_den (pn := []) (fn := Try.f21) (c := Try.f21.body.getD .skip) Try.func21 (by kernel_rfl) (by rw [Try.ntmps21]; exact hn) (by rw [Try.ntmps21]; exact tr21) (by kernel_rfl) h
def d21 (number0 : Int) (first1 : Int) (w : World) (R : Ending → World → Prop) : Prop :=
 ∃ J2 : World → Prop,
 ((bif (decide (number0 < 0)) then
 (R (.returned (.tuple #[(.pointer none), (.int .i64 261)])) w)
 else
 ((bif (decide (16 ≤ number0)) then
 (R (.returned (.tuple #[(.pointer none), (.int .i64 261)])) w)
 else
 (J2  w))))) ∧
 (∀ (w3 : World), J2  w3 →
 Calls Try.prog 35 #[(.int .i64 first1)] w3 fun e4 w5 => ∃ x6 : Bool, e4 = .returned (.bool x6) ∧
 (bif (!x6) then
 (R (.returned (.tuple #[(.pointer none), (.int .i64 262)])) w5)
 else
 (∃ cs7, fillL (.fields [(0, 1), (1, 1), (2, 1), (3, 1)]) (zc Try.prog 104) [(0, (.int .i64 number0)), (1, (.int .i64 first1))] = some cs7 ∧
 ∀ w8 : World, w8 = World.alloc w5 (.cells (List.toArray cs7) 104) →
 R (.returned (.tuple #[(.pointer (some ⟨World.heap w5 |>.size, 0, none⟩)), (.int .i64 0)])) w8)))
theorem e21 (number0 : Int) (first1 : Int) (w : World) (R : Ending → World → Prop) : denS Try.prog s21 (argsEnv 0 [(.int .i64 number0), (.int .i64 first1)]) w (endK r21 R) = d21 number0 first1 w R := by kernel_rfl
theorem c21 (number0 : Int) (first1 : Int) {w : World} {R : Ending → World → Prop} (h : d21 number0 first1 w R) : Calls Try.prog 21 #[(.int .i64 number0), (.int .i64 first1)] w R :=
  den21 [(.int .i64 number0), (.int .i64 first1)] w R (by simp) ((e21 number0 first1 w R).symm ▸ h)

/-- (*prelude/merge.Input).Open -/
def s23 : S := (.seq (.ops [⟨(some 2), (.mv (.const (.int .i64 0))), (.int .i64), none⟩] [0])
 (.seq (.ops [⟨(some 3), (.mv (.tmp 0)), .ptr, none⟩,
  ⟨(some 4), (.nc (.tmp 3)), .any, none⟩,
  ⟨(some 5), (.fa 2 (.tmp 4)), .ptr, none⟩,
  ⟨(some 6), (.ld1 (.tmp 5)), .sl, none⟩,
  ⟨(some 7), (.len (.tmp 6)), (.int .i64), none⟩,
  ⟨(some 2), (.mv (.tmp 7)), (.int .i64), none⟩] [2])
 .ret))
def r23 : List Res := [.t 2]
theorem tr23 : trS Try.prog [] 8 (Try.f23.body.getD .skip) s23 = some s23 := by kernel_rfl
theorem den23 (args : List Value) (w : World) (R : Ending → World → Prop) (hn : args.length ≤ 8) (h : denS Try.prog s23 (argsEnv 0 args) w (endK r23 R)) : Calls Try.prog 23 args.toArray w R :=
  calls_of_den (pn := []) (fn := Try.f23) (c := Try.f23.body.getD .skip) Try.func23 (by kernel_rfl) (by rw [Try.ntmps23]; exact hn) (by rw [Try.ntmps23]; exact tr23) (by kernel_rfl) h
def d23 (x0 : Option Addr) (w : World) (R : Ending → World → Prop) : Prop :=
 optK x0 fun a1 =>
 ∃ (x2 : Option Addr) (x2n : Nat) (x2c : Nat), World.cell? w (Addr.add a1 2) = some (.slice x2 x2n x2c) ∧
 R (.returned (.int .i64 ((x2n : Nat) : Int))) w
theorem e23 (x0 : Option Addr) (w : World) (R : Ending → World → Prop) : denS Try.prog s23 (argsEnv 0 [(.pointer x0)]) w (endK r23 R) = d23 x0 w R := by kernel_rfl
theorem c23 (x0 : Option Addr) {w : World} {R : Ending → World → Prop} (h : d23 x0 w R) : Calls Try.prog 23 #[(.pointer x0)] w R :=
  den23 [(.pointer x0)] w R (by simp) ((e23 x0 w R).symm ▸ h)

/-- (*prelude/merge.Input).Add -/
def s24 : S := (.seq (.ops [⟨(some 3), (.box 39 (.tmp 1)), .ptr, none⟩,
  ⟨(some 4), (.mv (.const (.int .i64 0))), (.int .i64), none⟩] [0, 3])
 (.seq (.seq (.ops [⟨(some 7), (.mv (.tmp 0)), .ptr, none⟩,
  ⟨(some 8), (.nc (.tmp 7)), .any, none⟩,
  ⟨(some 9), (.fa 1 (.tmp 8)), .ptr, none⟩,
  ⟨(some 10), (.ld1 (.tmp 9)), (.int .i64), none⟩,
  ⟨(some 11), (.call 35 [(.tmp 10)] [.bool]), .bool, none⟩,
  ⟨(some 12), (.un .not (.tmp 11)), .bool, none⟩] [12, 3, 0])
 (.cond (.tmp 12)
 (.seq (.ops [⟨(some 4), (.mv (.const (.int .i64 262))), (.int .i64), none⟩] [4])
 .ret)
 .skip))
 (.seq (.seq (.ops [⟨(some 14), (.ldN 4 (.tmp 3)), .agg, none⟩,
  ⟨(some 15), (.bldS 39 1 4 [(0, (.tmp 14))]), .sl, none⟩,
  ⟨(some 16), (.call 36 [(.tmp 15)] [.sl, (.int .i64)]), .any, none⟩,
  ⟨(some 13), (.mv (.tmp 16)), .any, none⟩,
  ⟨(some 17), (.ext 0 (.tmp 13)), .sl, none⟩,
  ⟨(some 18), (.ext 1 (.tmp 13)), (.int .i64), none⟩,
  ⟨(some 5), (.mv (.tmp 17)), .sl, none⟩,
  ⟨(some 6), (.mv (.tmp 18)), (.int .i64), none⟩] [6, 0, 3])
 (.seq (.ops [⟨(some 19), (.mv (.tmp 6)), (.int .i64), none⟩,
  ⟨(some 20), (.bin .neq (.tmp 19) (.const (.int .i64 0))), .bool, none⟩] [20, 6, 0, 3])
 (.cond (.tmp 20)
 (.seq (.ops [⟨(some 21), (.mv (.tmp 6)), (.int .i64), none⟩,
  ⟨(some 4), (.mv (.tmp 21)), (.int .i64), none⟩] [4])
 .ret)
 .skip)))
 (.seq (.seq (.ops [⟨(some 22), (.mv (.tmp 0)), .ptr, none⟩,
  ⟨(some 23), (.nc (.tmp 22)), .any, none⟩,
  ⟨(some 24), (.fa 2 (.tmp 23)), .ptr, none⟩,
  ⟨(some 25), (.ld1 (.tmp 24)), .sl, none⟩,
  ⟨(some 26), (.len (.tmp 25)), (.int .i64), none⟩,
  ⟨(some 27), (.bin .geq (.tmp 26) (.const (.int .i64 64))), .bool, none⟩] [27, 0, 3])
 (.cond (.tmp 27)
 (.seq (.ops [⟨(some 4), (.mv (.const (.int .i64 265))), (.int .i64), none⟩] [4])
 .ret)
 .skip))
 (.seq (.draw (.take 0 ⟨(some 28), (.mv (.tmp 0)), .ptr, none⟩
  (.take 1 ⟨(some 29), (.mv (.tmp 0)), .ptr, none⟩
  (.take 2 ⟨(some 30), (.nc (.tmp 29)), .any, none⟩
  (.take 3 ⟨(some 31), (.fa 2 (.tmp 30)), .ptr, none⟩
  (.take 4 ⟨(some 32), (.ld1 (.tmp 31)), .sl, none⟩
  (.take 5 ⟨(some 33), (.ldN 4 (.tmp 3)), .agg, none⟩
  (.go 6 ⟨(some 34), (.bldS 39 1 4 [(0, (.tmp 33))]), .sl, none⟩ [(4, ⟨(some 32), (.ld1 (.tmp 31)), .sl, none⟩)]
  (.go 7 ⟨(some 35), (.call 38 [(.tmp 34)] [.sl]), .sl, none⟩ [(4, ⟨(some 32), (.ld1 (.tmp 31)), .sl, none⟩)]
  (.go 8 ⟨(some 36), (.app #[33, 33] 33 (.tmp 32) (.tmp 35)), .sl, none⟩ []
  (.take 9 ⟨(some 37), (.nc (.tmp 28)), .any, none⟩
  (.take 10 ⟨(some 38), (.fa 2 (.tmp 37)), .ptr, none⟩
  (.go 11 ⟨none, (.st1 (.tmp 38) (.tmp 36)), .any, none⟩ []
  .done)))))))))))) [])
 (.seq (.ops [⟨(some 4), (.mv (.const (.int .i64 0))), (.int .i64), none⟩] [4])
 .ret))))))
def r24 : List Res := [.t 4]
theorem tr24 : trS Try.prog [] 39 (Try.f24.body.getD .skip) s24 = some s24 := by kernel_rfl
theorem den24 (args : List Value) (w : World) (R : Ending → World → Prop) (hn : args.length ≤ 39) (h : denS Try.prog s24 (argsEnv 0 args) w (endK r24 R)) : Calls Try.prog 24 args.toArray w R :=
  calls_of_den (pn := []) (fn := Try.f24) (c := Try.f24.body.getD .skip) Try.func24 (by kernel_rfl) (by rw [Try.ntmps24]; exact hn) (by rw [Try.ntmps24]; exact tr24) (by kernel_rfl) h
def d24 (x0 : Option Addr) (t1 : Array Value) (w : World) (R : Ending → World → Prop) : Prop :=
 ∀ w2 : World, w2 = World.alloc w (.cells t1 39) →
 optK x0 fun a3 =>
 ∃ x4 : Int, World.cell? w2 (Addr.add a3 1) = some (.int .i64 x4) ∧
 Calls Try.prog 35 #[(.int .i64 x4)] w2 fun e5 w6 => ∃ x7 : Bool, e5 = .returned (.bool x7) ∧
 (bif (!x7) then
 (R (.returned (.int .i64 262)) w6)
 else
 (∃ cs8 : List Value, List.length cs8 = 4 ∧ Cells w6 ⟨World.heap w |>.size, 0, none⟩ cs8 ∧
 ∃ cs9, fillL (.elems 4) (zrep (zc Try.prog 39) (1 * 4)) [(0, (.agg (List.toArray cs8)))] = some cs9 ∧
 ∀ w10 : World, w10 = World.alloc w6 (.cells (List.toArray cs9) 39) →
 Calls Try.prog 36 #[(.slice (some ⟨World.heap w6 |>.size, 0, none⟩) 1 1)] w10 fun e11 w12 => ∃ (x13 : Option Addr) (x13n : Nat) (x13c : Nat), ∃ x14 : Int, e11 = .returned (.tuple #[(.slice x13 x13n x13c), (.int .i64 x14)]) ∧
 ∃ (x15 : Option Addr) (x15n : Nat) (x15c : Nat), (#[(.slice x13 x13n x13c), (.int .i64 x14)] : Array Value)[0]? = some (.slice x15 x15n x15c) ∧
 ∃ x16 : Int, (#[(.slice x13 x13n x13c), (.int .i64 x14)] : Array Value)[1]? = some (.int .i64 x16) ∧
 (bif (!decide (x16 = 0)) then
 (R (.returned (.int .i64 x16)) w12)
 else
 (optK x0 fun a17 =>
 ∃ (x18 : Option Addr) (x18n : Nat) (x18c : Nat), World.cell? w12 (Addr.add a17 2) = some (.slice x18 x18n x18c) ∧
 (bif (decide (64 ≤ ((x18n : Nat) : Int))) then
 (R (.returned (.int .i64 265)) w12)
 else
 (∀ w19 : World, w19 = World.drew w12 →
 optK x0 fun a20 =>
 ∃ (x21 : Option Addr) (x21n : Nat) (x21c : Nat), World.cell? w19 (Addr.add a20 2) = some (.slice x21 x21n x21c) ∧
 ∃ cs22 : List Value, List.length cs22 = 4 ∧ Cells w19 ⟨World.heap w |>.size, 0, none⟩ cs22 ∧
 ∃ cs23, fillL (.elems 4) (zrep (zc Try.prog 39) (1 * 4)) [(0, (.agg (List.toArray cs22)))] = some cs23 ∧
 ∀ w24 : World, w24 = World.alloc w19 (.cells (List.toArray cs23) 39) →
 (∃ (z25 : Option Addr) (z25n : Nat) (z25c : Nat), World.cell? w24 (Addr.add a20 2) = some (.slice z25 z25n z25c) ∧
 (((.slice z25 z25n z25c) : Value) = (.slice x21 x21n x21c) ∧ w24 = w24)) ∧
 Calls Try.prog 38 #[(.slice (some ⟨World.heap w19 |>.size, 0, none⟩) 1 1)] w24 fun e26 w27 => ∃ (x28 : Option Addr) (x28n : Nat) (x28c : Nat), e26 = .returned (.slice x28 x28n x28c) ∧
 (∃ (z29 : Option Addr) (z29n : Nat) (z29c : Nat), World.cell? w27 (Addr.add a20 2) = some (.slice z29 z29n z29c) ∧
 (((.slice z29 z29n z29c) : Value) = (.slice x21 x21n x21c) ∧ w27 = w27)) ∧
 RunV Try.prog (Builtin.append_ #[33, 33] 33 #[(.slice x21 x21n x21c), (.slice x28 x28n x28c)]) w27 fun v30 w31 => ∃ (x32 : Option Addr) (x32n : Nat) (x32c : Nat), v30 = (.slice x32 x32n x32c) ∧
 optK x0 fun a33 =>
 one (.slice x32 x32n x32c) = true ∧ Option.isSome (World.cell? w31 (Addr.add a33 2)) = true ∧ World.frozen? w31 (Addr.add a33 2) = false ∧
 ∀ w34 : World, w34 = World.setCell w31 (Addr.add a33 2) (.slice x32 x32n x32c) →
 R (.returned (.int .i64 0)) w34))))))
theorem e24 (x0 : Option Addr) (t1 : Array Value) (w : World) (R : Ending → World → Prop) : denS Try.prog s24 (argsEnv 0 [(.pointer x0), (.agg t1)]) w (endK r24 R) = d24 x0 t1 w R := by kernel_rfl
theorem c24 (x0 : Option Addr) (t1 : Array Value) {w : World} {R : Ending → World → Prop} (h : d24 x0 t1 w R) : Calls Try.prog 24 #[(.pointer x0), (.agg t1)] w R :=
  den24 [(.pointer x0), (.agg t1)] w R (by simp) ((e24 x0 t1 w R).symm ▸ h)

/-- (*prelude/merge.Input).Close -/
def s25 : S := (.seq (.ops [⟨(some 2), (.alloc 35), .ptr, none⟩] [0, 2])
 (.seq (.seq (.ops [⟨(some 4), (.mv (.tmp 0)), .ptr, none⟩,
  ⟨(some 5), (.nc (.tmp 4)), .any, none⟩,
  ⟨(some 6), (.fa 1 (.tmp 5)), .ptr, none⟩,
  ⟨(some 7), (.ld1 (.tmp 6)), (.int .i64), none⟩,
  ⟨(some 8), (.call 35 [(.tmp 7)] [.bool]), .bool, none⟩,
  ⟨(some 9), (.un .not (.tmp 8)), .bool, none⟩] [9, 2, 0])
 (.cond (.tmp 9)
 (.seq (.ops [⟨(some 10), (.bld 35 (.fields [(0, 1), (1, 1), (2, 1)]) []), .agg, none⟩,
  ⟨none, (.stN 3 (.tmp 2) (.tmp 10)), .any, none⟩] [2])
 .ret)
 .skip))
 (.seq (.draw (.take 0 ⟨(some 11), (.mv (.tmp 0)), .ptr, none⟩
  (.take 1 ⟨(some 12), (.nc (.tmp 11)), .any, none⟩
  (.take 2 ⟨(some 13), (.fa 0 (.tmp 12)), .ptr, none⟩
  (.take 3 ⟨(some 14), (.ld1 (.tmp 13)), (.int .i64), none⟩
  (.take 4 ⟨(some 15), (.mv (.tmp 0)), .ptr, none⟩
  (.take 5 ⟨(some 16), (.nc (.tmp 15)), .any, none⟩
  (.take 6 ⟨(some 17), (.fa 1 (.tmp 16)), .ptr, none⟩
  (.take 7 ⟨(some 18), (.ld1 (.tmp 17)), (.int .i64), none⟩
  (.take 8 ⟨(some 19), (.mv (.tmp 0)), .ptr, none⟩
  (.take 9 ⟨(some 20), (.nc (.tmp 19)), .any, none⟩
  (.take 10 ⟨(some 21), (.fa 2 (.tmp 20)), .ptr, none⟩
  (.take 11 ⟨(some 22), (.ld1 (.tmp 21)), .sl, none⟩
  (.take 12 ⟨(some 23), (.bld 35 (.fields [(0, 1), (1, 1), (2, 1)]) [(0, (.tmp 14)), (1, (.tmp 18)), (2, (.tmp 22))]), .agg, none⟩
  (.go 13 ⟨(some 3), (.alloc 35), .ptr, none⟩ [(11, ⟨(some 22), (.ld1 (.tmp 21)), .sl, none⟩), (7, ⟨(some 18), (.ld1 (.tmp 17)), (.int .i64), none⟩), (3, ⟨(some 14), (.ld1 (.tmp 13)), (.int .i64), none⟩)]
  (.go 14 ⟨none, (.stN 3 (.tmp 3) (.tmp 23)), .any, none⟩ []
  .done))))))))))))))) [0, 3, 2])
 (.seq (.ops [⟨(some 24), (.mv (.tmp 0)), .ptr, none⟩,
  ⟨(some 25), (.ldN 3 (.tmp 3)), .agg, none⟩,
  ⟨(some 26), (.call 39 [(.tmp 24), (.tmp 25)] []), .any, none⟩] [3, 2])
 (.seq (.ops [⟨(some 27), (.ldN 3 (.tmp 3)), .agg, none⟩,
  ⟨(some 28), (.call 40 [(.tmp 27)] [.agg]), .agg, none⟩,
  ⟨none, (.stN 3 (.tmp 2) (.tmp 28)), .any, none⟩] [2])
 .ret)))))
def r25 : List Res := [.cN 2 3]
theorem tr25 : trS Try.prog [] 29 (Try.f25.body.getD .skip) s25 = some s25 := by kernel_rfl
theorem den25 (args : List Value) (w : World) (R : Ending → World → Prop) (hn : args.length ≤ 29) (h : denS Try.prog s25 (argsEnv 0 args) w (endK r25 R)) : Calls Try.prog 25 args.toArray w R :=
  calls_of_den (pn := []) (fn := Try.f25) (c := Try.f25.body.getD .skip) Try.func25 (by kernel_rfl) (by rw [Try.ntmps25]; exact hn) (by rw [Try.ntmps25]; exact tr25) (by kernel_rfl) h
def d25 (x0 : Option Addr) (w : World) (R : Ending → World → Prop) : Prop :=
 ∀ w1 : World, w1 = World.alloc w (.cells (zc Try.prog 35).toArray 35) →
 optK x0 fun a2 =>
 ∃ x3 : Int, World.cell? w1 (Addr.add a2 1) = some (.int .i64 x3) ∧
 Calls Try.prog 35 #[(.int .i64 x3)] w1 fun e4 w5 => ∃ x6 : Bool, e4 = .returned (.bool x6) ∧
 (bif (!x6) then
 (∃ cs7, fillL (.fields [(0, 1), (1, 1), (2, 1)]) (zc Try.prog 35) [] = some cs7 ∧
 Array.size (List.toArray cs7) = 3 ∧ (∀ u ∈ Array.toList (List.toArray cs7), one u = true) ∧ Room w5 ⟨World.heap w |>.size, 0, none⟩ 3 ∧
 ∀ w8 : World, w8 = setCells w5 ⟨World.heap w |>.size, 0, none⟩ (Array.toList (List.toArray cs7)) 0 →
 ∃ cs9 : List Value, List.length cs9 = 3 ∧ Cells w8 ⟨World.heap w |>.size, 0, none⟩ cs9 ∧
 R (.returned (.agg (List.toArray cs9))) w8)
 else
 (∀ w10 : World, w10 = World.drew w5 →
 optK x0 fun a11 =>
 ∃ x12 : Int, World.cell? w10 (Addr.add a11 0) = some (.int .i64 x12) ∧
 optK x0 fun a13 =>
 ∃ x14 : Int, World.cell? w10 (Addr.add a13 1) = some (.int .i64 x14) ∧
 optK x0 fun a15 =>
 ∃ (x16 : Option Addr) (x16n : Nat) (x16c : Nat), World.cell? w10 (Addr.add a15 2) = some (.slice x16 x16n x16c) ∧
 ∃ cs17, fillL (.fields [(0, 1), (1, 1), (2, 1)]) (zc Try.prog 35) [(0, (.int .i64 x12)), (1, (.int .i64 x14)), (2, (.slice x16 x16n x16c))] = some cs17 ∧
 ∀ w18 : World, w18 = World.alloc w10 (.cells (zc Try.prog 35).toArray 35) →
 (∃ (z19 : Option Addr) (z19n : Nat) (z19c : Nat), World.cell? w18 (Addr.add a15 2) = some (.slice z19 z19n z19c) ∧
 (((.slice z19 z19n z19c) : Value) = (.slice x16 x16n x16c) ∧ w18 = w18)) ∧
 (∃ z20 : Int, World.cell? w18 (Addr.add a13 1) = some (.int .i64 z20) ∧
 (((.int .i64 z20) : Value) = (.int .i64 x14) ∧ w18 = w18)) ∧
 (∃ z21 : Int, World.cell? w18 (Addr.add a11 0) = some (.int .i64 z21) ∧
 (((.int .i64 z21) : Value) = (.int .i64 x12) ∧ w18 = w18)) ∧
 Array.size (List.toArray cs17) = 3 ∧ (∀ u ∈ Array.toList (List.toArray cs17), one u = true) ∧ Room w18 ⟨World.heap w10 |>.size, 0, none⟩ 3 ∧
 ∀ w22 : World, w22 = setCells w18 ⟨World.heap w10 |>.size, 0, none⟩ (Array.toList (List.toArray cs17)) 0 →
 ∃ cs23 : List Value, List.length cs23 = 3 ∧ Cells w22 ⟨World.heap w10 |>.size, 0, none⟩ cs23 ∧
 Calls Try.prog 39 #[(.pointer x0), (.agg (List.toArray cs23))] w22 fun e24 w25 => e24 = .returned (.tuple #[]) ∧ ∃ cs26 : List Value, List.length cs26 = 3 ∧ Cells w25 ⟨World.heap w10 |>.size, 0, none⟩ cs26 ∧
 Calls Try.prog 40 #[(.agg (List.toArray cs26))] w25 fun e27 w28 => ∃ x29 : Array Value, e27 = .returned (.agg x29) ∧
 Array.size x29 = 3 ∧ (∀ u ∈ Array.toList x29, one u = true) ∧ Room w28 ⟨World.heap w |>.size, 0, none⟩ 3 ∧
 ∀ w30 : World, w30 = setCells w28 ⟨World.heap w |>.size, 0, none⟩ (Array.toList x29) 0 →
 ∃ cs31 : List Value, List.length cs31 = 3 ∧ Cells w30 ⟨World.heap w |>.size, 0, none⟩ cs31 ∧
 R (.returned (.agg (List.toArray cs31))) w30))
theorem e25 (x0 : Option Addr) (w : World) (R : Ending → World → Prop) : denS Try.prog s25 (argsEnv 0 [(.pointer x0)]) w (endK r25 R) = d25 x0 w R := by kernel_rfl
theorem c25 (x0 : Option Addr) {w : World} {R : Ending → World → Prop} (h : d25 x0 w R) : Calls Try.prog 25 #[(.pointer x0)] w R :=
  den25 [(.pointer x0)] w R (by simp) ((e25 x0 w R).symm ▸ h)

/-- (*prelude/merge.Input).Again -/
def s26 : S := (.seq (.ops [⟨(some 4), (.alloc 35), .ptr, none⟩,
  ⟨(some 5), (.mv (.const (.int .i64 0))), (.int .i64), none⟩] [0, 1, 4])
 (.seq (.seq (.ops [⟨(some 8), (.mv (.tmp 0)), .ptr, none⟩,
  ⟨(some 9), (.nc (.tmp 8)), .any, none⟩,
  ⟨(some 10), (.fa 3 (.tmp 9)), .ptr, none⟩,
  ⟨(some 11), (.ld1 (.tmp 10)), .sl, none⟩,
  ⟨(some 12), (.len (.tmp 11)), (.int .i64), none⟩,
  ⟨(some 13), (.mv (.const (.int .i64 0))), (.int .i64), none⟩] [13, 12, 11, 1, 4])
 (.block 0
 (.loop [(13, (.int .i64))] [1, 4, 11, 12]
 (.seq (.ops [⟨(some 14), (.bin .lss (.tmp 13) (.tmp 12)), .any, none⟩] [14, 11, 13, 1, 4, 12])
 (.seq (.cond (.tmp 14)
 .skip
 (.exit 0))
 (.seq (.block 1
 (.seq (.ops [⟨(some 15), (.ia 3 (.tmp 11) (.tmp 13)), .ptr, none⟩,
  ⟨(some 16), (.ldN 3 (.tmp 15)), .agg, none⟩,
  ⟨(some 7), (.alloc 35), .ptr, none⟩,
  ⟨none, (.stN 3 (.tmp 7) (.tmp 16)), .any, none⟩] [7, 1, 4, 13, 12, 11])
 (.seq (.ops [⟨(some 17), (.fa 1 (.tmp 7)), .ptr, none⟩,
  ⟨(some 18), (.ld1 (.tmp 17)), (.int .i64), none⟩,
  ⟨(some 19), (.mv (.tmp 1)), (.int .i64), none⟩,
  ⟨(some 20), (.bin .eql (.tmp 18) (.tmp 19)), .bool, none⟩] [20, 7, 4, 13, 12, 11, 1])
 (.cond (.tmp 20)
 (.seq (.ops [⟨(some 21), (.ldN 3 (.tmp 7)), .agg, none⟩,
  ⟨(some 22), (.call 40 [(.tmp 21)] [.agg]), .agg, none⟩,
  ⟨none, (.stN 3 (.tmp 4) (.tmp 22)), .any, none⟩,
  ⟨(some 5), (.mv (.const (.int .i64 0))), (.int .i64), none⟩] [4, 5])
 .ret)
 .skip))))
 (.ops [⟨(some 23), (.bin .add (.tmp 13) (.const (.int .i64 1))), (.int .i64), none⟩,
  ⟨(some 13), (.mv (.tmp 23)), (.int .i64), none⟩] [13, 12, 11, 1, 4])))))))
 (.seq (.ops [⟨(some 24), (.bld 35 (.fields [(0, 1), (1, 1), (2, 1)]) []), .agg, none⟩,
  ⟨none, (.stN 3 (.tmp 4) (.tmp 24)), .any, none⟩,
  ⟨(some 5), (.mv (.const (.int .i64 266))), (.int .i64), none⟩] [4, 5])
 .ret)))
def r26 : List Res := [.cN 4 3, .t 5]
theorem tr26 : trS Try.prog [] 25 (Try.f26.body.getD .skip) s26 = some s26 := by kernel_rfl
theorem den26 (args : List Value) (w : World) (R : Ending → World → Prop) (hn : args.length ≤ 25) (h : denS Try.prog s26 (argsEnv 0 args) w (endK r26 R)) : Calls Try.prog 26 args.toArray w R :=
  calls_of_den (pn := []) (fn := Try.f26) (c := Try.f26.body.getD .skip) Try.func26 (by kernel_rfl) (by rw [Try.ntmps26]; exact hn) (by rw [Try.ntmps26]; exact tr26) (by kernel_rfl) h
def d26 (x0 : Option Addr) (n1 : Int) (w : World) (R : Ending → World → Prop) : Prop :=
 ∀ w2 : World, w2 = World.alloc w (.cells (zc Try.prog 35).toArray 35) →
 optK x0 fun a3 =>
 ∃ (x4 : Option Addr) (x4n : Nat) (x4c : Nat), World.cell? w2 (Addr.add a3 3) = some (.slice x4 x4n x4c) ∧
 ∃ I5 : Nat → Int → World → Prop,
 (∃ m, I5 m 0 w2) ∧
 (∀ (m6 : Nat) (w7 : World) (x8 : Int), I5 m6 x8 w7 →
 (bif (decide (x8 < ((x4n : Nat) : Int))) then
 (0 ≤ x8 ∧ x8 < ((x4n : Nat) : Int) ∧ optK x4 fun a9 =>
 ∃ cs10 : List Value, List.length cs10 = 3 ∧ Cells w7 (Addr.add a9 (Int.toNat x8 * 3)) cs10 ∧
 ∀ w11 : World, w11 = World.alloc w7 (.cells (zc Try.prog 35).toArray 35) →
 Array.size (List.toArray cs10) = 3 ∧ (∀ u ∈ Array.toList (List.toArray cs10), one u = true) ∧ Room w11 ⟨World.heap w7 |>.size, 0, none⟩ 3 ∧
 ∀ w12 : World, w12 = setCells w11 ⟨World.heap w7 |>.size, 0, none⟩ (Array.toList (List.toArray cs10)) 0 →
 ∃ x13 : Int, World.cell? w12 (Addr.add ⟨World.heap w7 |>.size, 0, none⟩ 1) = some (.int .i64 x13) ∧
 (bif (decide (x13 = n1)) then
 (∃ cs14 : List Value, List.length cs14 = 3 ∧ Cells w12 ⟨World.heap w7 |>.size, 0, none⟩ cs14 ∧
 Calls Try.prog 40 #[(.agg (List.toArray cs14))] w12 fun e15 w16 => ∃ x17 : Array Value, e15 = .returned (.agg x17) ∧
 Array.size x17 = 3 ∧ (∀ u ∈ Array.toList x17, one u = true) ∧ Room w16 ⟨World.heap w |>.size, 0, none⟩ 3 ∧
 ∀ w18 : World, w18 = setCells w16 ⟨World.heap w |>.size, 0, none⟩ (Array.toList x17) 0 →
 ∃ cs19 : List Value, List.length cs19 = 3 ∧ Cells w18 ⟨World.heap w |>.size, 0, none⟩ cs19 ∧
 R (.returned (.tuple #[(.agg (List.toArray cs19)), (.int .i64 0)])) w18)
 else
 (∃ m20, m20 < m6 ∧ I5 m20 (IntKind.wrap .i64 (x8 + 1)) w12)))
 else
 (∃ cs21, fillL (.fields [(0, 1), (1, 1), (2, 1)]) (zc Try.prog 35) [] = some cs21 ∧
 Array.size (List.toArray cs21) = 3 ∧ (∀ u ∈ Array.toList (List.toArray cs21), one u = true) ∧ Room w7 ⟨World.heap w |>.size, 0, none⟩ 3 ∧
 ∀ w22 : World, w22 = setCells w7 ⟨World.heap w |>.size, 0, none⟩ (Array.toList (List.toArray cs21)) 0 →
 ∃ cs23 : List Value, List.length cs23 = 3 ∧ Cells w22 ⟨World.heap w |>.size, 0, none⟩ cs23 ∧
 R (.returned (.tuple #[(.agg (List.toArray cs23)), (.int .i64 266)])) w22)))
theorem e26 (x0 : Option Addr) (n1 : Int) (w : World) (R : Ending → World → Prop) : denS Try.prog s26 (argsEnv 0 [(.pointer x0), (.int .i64 n1)]) w (endK r26 R) = d26 x0 n1 w R := by kernel_rfl
theorem c26 (x0 : Option Addr) (n1 : Int) {w : World} {R : Ending → World → Prop} (h : d26 x0 n1 w R) : Calls Try.prog 26 #[(.pointer x0), (.int .i64 n1)] w R :=
  den26 [(.pointer x0), (.int .i64 n1)] w R (by simp) ((e26 x0 n1 w R).symm ▸ h)

/-- (*prelude/merge.Input).Keep -/
def s27 : S := (.seq (.ops [⟨(some 3), (.box 35 (.tmp 1)), .ptr, none⟩,
  ⟨(some 4), (.mv (.const (.int .i64 0))), (.int .i64), none⟩] [3, 0])
 (.seq (.seq (.draw (.take 0 ⟨(some 7), (.fa 0 (.tmp 3)), .ptr, none⟩
  (.take 1 ⟨(some 8), (.ld1 (.tmp 7)), (.int .i64), none⟩
  (.take 2 ⟨(some 9), (.mv (.tmp 0)), .ptr, none⟩
  (.take 3 ⟨(some 10), (.nc (.tmp 9)), .any, none⟩
  (.take 4 ⟨(some 11), (.fa 0 (.tmp 10)), .ptr, none⟩
  (.take 5 ⟨(some 12), (.ld1 (.tmp 11)), (.int .i64), none⟩
  (.take 6 ⟨(some 13), (.bin .neq (.tmp 8) (.tmp 12)), .bool, none⟩
  .done))))))) [13, 3, 0])
 (.cond (.tmp 13)
 (.seq (.ops [⟨(some 4), (.mv (.const (.int .i64 261))), (.int .i64), none⟩] [4])
 .ret)
 .skip))
 (.join [] [0, 3]
 (.seq (.draw (.take 0 ⟨(some 14), (.fa 1 (.tmp 3)), .ptr, none⟩
  (.take 1 ⟨(some 15), (.ld1 (.tmp 14)), (.int .i64), none⟩
  (.go 2 ⟨(some 16), (.call 35 [(.tmp 15)] [.bool]), .bool, none⟩ []
  (.take 3 ⟨(some 17), (.un .not (.tmp 16)), .bool, none⟩
  (.take 4 ⟨(some 18), (.mv (.tmp 17)), .bool, none⟩
  (.take 5 ⟨(some 19), (.fa 1 (.tmp 3)), .ptr, (some (18, false))⟩
  (.take 6 ⟨(some 20), (.ld1 (.tmp 19)), (.int .i64), (some (18, false))⟩
  (.take 7 ⟨(some 21), (.mv (.tmp 0)), .ptr, (some (18, false))⟩
  (.take 8 ⟨(some 22), (.nc (.tmp 21)), .any, (some (18, false))⟩
  (.take 9 ⟨(some 23), (.fa 1 (.tmp 22)), .ptr, (some (18, false))⟩
  (.take 10 ⟨(some 24), (.ld1 (.tmp 23)), (.int .i64), (some (18, false))⟩
  (.take 11 ⟨(some 25), (.bin .neq (.tmp 20) (.tmp 24)), .bool, (some (18, false))⟩
  (.take 12 ⟨(some 26), (.pick (.tmp 18) (.const (.bool true)) (.tmp 25)), .bool, none⟩
  (.take 13 ⟨(some 27), (.mv (.tmp 26)), .bool, none⟩
  (.take 14 ⟨(some 28), (.mv (.tmp 0)), .ptr, (some (27, false))⟩
  (.take 15 ⟨(some 29), (.nc (.tmp 28)), .any, (some (27, false))⟩
  (.take 16 ⟨(some 30), (.fa 2 (.tmp 29)), .ptr, (some (27, false))⟩
  (.take 17 ⟨(some 31), (.ld1 (.tmp 30)), .sl, (some (27, false))⟩
  (.take 18 ⟨(some 32), (.len (.tmp 31)), (.int .i64), (some (27, false))⟩
  (.take 19 ⟨(some 33), (.bin .gtr (.tmp 32) (.const (.int .i64 0))), .bool, (some (27, false))⟩
  (.take 20 ⟨(some 34), (.pick (.tmp 27) (.const (.bool true)) (.tmp 33)), .bool, none⟩
  .done))))))))))))))))))))) [34, 3, 0])
 (.cond (.tmp 34)
 (.seq (.ops [⟨(some 4), (.mv (.const (.int .i64 262))), (.int .i64), none⟩] [4])
 .ret)
 .skip))
 (.seq (.seq (.ops [⟨(some 36), (.fa 2 (.tmp 3)), .ptr, none⟩,
  ⟨(some 37), (.ld1 (.tmp 36)), .sl, none⟩,
  ⟨(some 38), (.call 36 [(.tmp 37)] [.sl, (.int .i64)]), .any, none⟩,
  ⟨(some 35), (.mv (.tmp 38)), .any, none⟩,
  ⟨(some 39), (.ext 0 (.tmp 35)), .sl, none⟩,
  ⟨(some 40), (.ext 1 (.tmp 35)), (.int .i64), none⟩,
  ⟨(some 5), (.mv (.tmp 39)), .sl, none⟩,
  ⟨(some 6), (.mv (.tmp 40)), (.int .i64), none⟩] [6, 0, 3])
 (.seq (.ops [⟨(some 41), (.mv (.tmp 6)), (.int .i64), none⟩,
  ⟨(some 42), (.bin .neq (.tmp 41) (.const (.int .i64 0))), .bool, none⟩] [42, 6, 0, 3])
 (.cond (.tmp 42)
 (.seq (.ops [⟨(some 43), (.mv (.tmp 6)), (.int .i64), none⟩,
  ⟨(some 4), (.mv (.tmp 43)), (.int .i64), none⟩] [4])
 .ret)
 .skip)))
 (.seq (.ops [⟨(some 44), (.mv (.tmp 0)), .ptr, none⟩,
  ⟨(some 45), (.ldN 3 (.tmp 3)), .agg, none⟩,
  ⟨(some 46), (.call 40 [(.tmp 45)] [.agg]), .agg, none⟩,
  ⟨(some 47), (.call 39 [(.tmp 44), (.tmp 46)] []), .any, none⟩] [])
 (.seq (.ops [⟨(some 4), (.mv (.const (.int .i64 0))), (.int .i64), none⟩] [4])
 .ret))))))
def r27 : List Res := [.t 4]
theorem tr27 : trS Try.prog [] 48 (Try.f27.body.getD .skip) s27 = some s27 := by kernel_rfl
theorem den27 (args : List Value) (w : World) (R : Ending → World → Prop) (hn : args.length ≤ 48) (h : denS Try.prog s27 (argsEnv 0 args) w (endK r27 R)) : Calls Try.prog 27 args.toArray w R :=
  calls_of_den (pn := []) (fn := Try.f27) (c := Try.f27.body.getD .skip) Try.func27 (by kernel_rfl) (by rw [Try.ntmps27]; exact hn) (by rw [Try.ntmps27]; exact tr27) (by kernel_rfl) h
def d27 (x0 : Option Addr) (p1 : Array Value) (w : World) (R : Ending → World → Prop) : Prop :=
 ∀ w2 : World, w2 = World.alloc w (.cells p1 35) →
 ∀ w3 : World, w3 = World.drew w2 →
 ∃ x4 : Int, World.cell? w3 (Addr.add ⟨World.heap w |>.size, 0, none⟩ 0) = some (.int .i64 x4) ∧
 optK x0 fun a5 =>
 ∃ x6 : Int, World.cell? w3 (Addr.add a5 0) = some (.int .i64 x6) ∧
 (bif (!decide (x4 = x6)) then
 (R (.returned (.int .i64 261)) w3)
 else
 (∃ J7 : World → Prop,
 (∀ w8 : World, w8 = World.drew w3 →
 ∃ x9 : Int, World.cell? w8 (Addr.add ⟨World.heap w |>.size, 0, none⟩ 1) = some (.int .i64 x9) ∧
 Calls Try.prog 35 #[(.int .i64 x9)] w8 fun e10 w11 => ∃ x12 : Bool, e10 = .returned (.bool x12) ∧
 (bif (!x12) then
 (R (.returned (.int .i64 262)) w11)
 else
 (∃ x13 : Int, World.cell? w11 (Addr.add ⟨World.heap w |>.size, 0, none⟩ 1) = some (.int .i64 x13) ∧
 optK x0 fun a14 =>
 ∃ x15 : Int, World.cell? w11 (Addr.add a14 1) = some (.int .i64 x15) ∧
 (bif (!decide (x13 = x15)) then
 (R (.returned (.int .i64 262)) w11)
 else
 (optK x0 fun a16 =>
 ∃ (x17 : Option Addr) (x17n : Nat) (x17c : Nat), World.cell? w11 (Addr.add a16 2) = some (.slice x17 x17n x17c) ∧
 (bif (decide (0 < ((x17n : Nat) : Int))) then
 (R (.returned (.int .i64 262)) w11)
 else
 (J7  w11))))))) ∧
 (∀ (w18 : World), J7  w18 →
 ∃ (x19 : Option Addr) (x19n : Nat) (x19c : Nat), World.cell? w18 (Addr.add ⟨World.heap w |>.size, 0, none⟩ 2) = some (.slice x19 x19n x19c) ∧
 Calls Try.prog 36 #[(.slice x19 x19n x19c)] w18 fun e20 w21 => ∃ (x22 : Option Addr) (x22n : Nat) (x22c : Nat), ∃ x23 : Int, e20 = .returned (.tuple #[(.slice x22 x22n x22c), (.int .i64 x23)]) ∧
 ∃ (x24 : Option Addr) (x24n : Nat) (x24c : Nat), (#[(.slice x22 x22n x22c), (.int .i64 x23)] : Array Value)[0]? = some (.slice x24 x24n x24c) ∧
 ∃ x25 : Int, (#[(.slice x22 x22n x22c), (.int .i64 x23)] : Array Value)[1]? = some (.int .i64 x25) ∧
 (bif (!decide (x25 = 0)) then
 (R (.returned (.int .i64 x25)) w21)
 else
 (∃ cs26 : List Value, List.length cs26 = 3 ∧ Cells w21 ⟨World.heap w |>.size, 0, none⟩ cs26 ∧
 Calls Try.prog 40 #[(.agg (List.toArray cs26))] w21 fun e27 w28 => ∃ x29 : Array Value, e27 = .returned (.agg x29) ∧
 Calls Try.prog 39 #[(.pointer x0), (.agg x29)] w28 fun e30 w31 => e30 = .returned (.tuple #[]) ∧ R (.returned (.int .i64 0)) w31)))))
theorem e27 (x0 : Option Addr) (p1 : Array Value) (w : World) (R : Ending → World → Prop) : denS Try.prog s27 (argsEnv 0 [(.pointer x0), (.agg p1)]) w (endK r27 R) = d27 x0 p1 w R := by kernel_rfl
theorem c27 (x0 : Option Addr) (p1 : Array Value) {w : World} {R : Ending → World → Prop} (h : d27 x0 p1 w R) : Calls Try.prog 27 #[(.pointer x0), (.agg p1)] w R :=
  den27 [(.pointer x0), (.agg p1)] w R (by simp) ((e27 x0 p1 w R).symm ▸ h)

/-- (*prelude/merge.Input).keep -/
def s39 : S := (.seq (.ops [⟨(some 3), (.box 35 (.tmp 1)), .ptr, none⟩] [0, 3])
 (.seq (.draw (.take 0 ⟨(some 4), (.mv (.tmp 0)), .ptr, none⟩
  (.take 1 ⟨(some 5), (.mv (.tmp 0)), .ptr, none⟩
  (.take 2 ⟨(some 6), (.nc (.tmp 5)), .any, none⟩
  (.take 3 ⟨(some 7), (.fa 3 (.tmp 6)), .ptr, none⟩
  (.take 4 ⟨(some 8), (.ld1 (.tmp 7)), .sl, none⟩
  (.take 5 ⟨(some 9), (.ldN 3 (.tmp 3)), .agg, none⟩
  (.go 6 ⟨(some 10), (.bldS 35 1 3 [(0, (.tmp 9))]), .sl, none⟩ [(4, ⟨(some 8), (.ld1 (.tmp 7)), .sl, none⟩)]
  (.go 7 ⟨(some 11), (.app #[87, 87] 87 (.tmp 8) (.tmp 10)), .sl, none⟩ []
  (.take 8 ⟨(some 12), (.nc (.tmp 4)), .any, none⟩
  (.take 9 ⟨(some 13), (.fa 3 (.tmp 12)), .ptr, none⟩
  (.go 10 ⟨none, (.st1 (.tmp 13) (.tmp 11)), .any, none⟩ []
  .done))))))))))) [0])
 (.join [] [0]
 (.seq (.ops [⟨(some 14), (.mv (.tmp 0)), .ptr, none⟩,
  ⟨(some 15), (.nc (.tmp 14)), .any, none⟩,
  ⟨(some 16), (.fa 3 (.tmp 15)), .ptr, none⟩,
  ⟨(some 17), (.ld1 (.tmp 16)), .sl, none⟩,
  ⟨(some 18), (.len (.tmp 17)), (.int .i64), none⟩,
  ⟨(some 19), (.bin .gtr (.tmp 18) (.const (.int .i64 64))), .bool, none⟩] [19, 0])
 (.cond (.tmp 19)
 (.ops [⟨(some 20), (.mv (.tmp 0)), .ptr, none⟩,
  ⟨(some 21), (.mv (.tmp 0)), .ptr, none⟩,
  ⟨(some 22), (.nc (.tmp 21)), .any, none⟩,
  ⟨(some 23), (.fa 3 (.tmp 22)), .ptr, none⟩,
  ⟨(some 24), (.ld1 (.tmp 23)), .sl, none⟩,
  ⟨(some 25), (.slS 3 (.tmp 24) (some (.const (.int .i64 1))) none none), .sl, none⟩,
  ⟨(some 26), (.call 67 [(.tmp 25)] [.sl]), .sl, none⟩,
  ⟨(some 27), (.nc (.tmp 20)), .any, none⟩,
  ⟨(some 28), (.fa 3 (.tmp 27)), .ptr, none⟩,
  ⟨none, (.st1 (.tmp 28) (.tmp 26)), .any, none⟩] [0])
 .skip))
 (.seq (.ops [⟨(some 29), (.mv (.tmp 0)), .ptr, none⟩,
  ⟨(some 30), (.nc (.tmp 29)), .any, none⟩,
  ⟨(some 31), (.fa 2 (.tmp 30)), .ptr, none⟩,
  ⟨none, (.st1 (.tmp 31) (.const (.slice none 0 0))), .any, none⟩] [0])
 (.ops [⟨(some 32), (.mv (.tmp 0)), .ptr, none⟩,
  ⟨(some 33), (.nc (.tmp 32)), .any, none⟩,
  ⟨(some 34), (.fa 1 (.tmp 33)), .ptr, none⟩,
  ⟨(some 35), (.ld1 (.tmp 34)), (.int .i64), none⟩,
  ⟨(some 36), (.bin .add (.tmp 35) (.const (.int .i64 1))), (.int .i64), none⟩,
  ⟨(some 37), (.nc (.tmp 32)), .any, none⟩,
  ⟨(some 38), (.fa 1 (.tmp 37)), .ptr, none⟩,
  ⟨none, (.st1 (.tmp 38) (.tmp 36)), .any, none⟩] [])))))
def r39 : List Res := []
theorem tr39 : trS Try.prog [] 39 (Try.f39.body.getD .skip) s39 = some s39 := by kernel_rfl
theorem den39 (args : List Value) (w : World) (R : Ending → World → Prop) (hn : args.length ≤ 39) (h : denS Try.prog s39 (argsEnv 0 args) w (endK r39 R)) : Calls Try.prog 39 args.toArray w R :=
  calls_of_den (pn := []) (fn := Try.f39) (c := Try.f39.body.getD .skip) Try.func39 (by kernel_rfl) (by rw [Try.ntmps39]; exact hn) (by rw [Try.ntmps39]; exact tr39) (by kernel_rfl) h
def d39 (x0 : Option Addr) (p1 : Array Value) (w : World) (R : Ending → World → Prop) : Prop :=
 ∀ w2 : World, w2 = World.alloc w (.cells p1 35) →
 ∀ w3 : World, w3 = World.drew w2 →
 optK x0 fun a4 =>
 ∃ (x5 : Option Addr) (x5n : Nat) (x5c : Nat), World.cell? w3 (Addr.add a4 3) = some (.slice x5 x5n x5c) ∧
 ∃ cs6 : List Value, List.length cs6 = 3 ∧ Cells w3 ⟨World.heap w |>.size, 0, none⟩ cs6 ∧
 ∃ cs7, fillL (.elems 3) (zrep (zc Try.prog 35) (1 * 3)) [(0, (.agg (List.toArray cs6)))] = some cs7 ∧
 ∀ w8 : World, w8 = World.alloc w3 (.cells (List.toArray cs7) 35) →
 (∃ (z9 : Option Addr) (z9n : Nat) (z9c : Nat), World.cell? w8 (Addr.add a4 3) = some (.slice z9 z9n z9c) ∧
 (((.slice z9 z9n z9c) : Value) = (.slice x5 x5n x5c) ∧ w8 = w8)) ∧
 RunV Try.prog (Builtin.append_ #[87, 87] 87 #[(.slice x5 x5n x5c), (.slice (some ⟨World.heap w3 |>.size, 0, none⟩) 1 1)]) w8 fun v10 w11 => ∃ (x12 : Option Addr) (x12n : Nat) (x12c : Nat), v10 = (.slice x12 x12n x12c) ∧
 optK x0 fun a13 =>
 one (.slice x12 x12n x12c) = true ∧ Option.isSome (World.cell? w11 (Addr.add a13 3)) = true ∧ World.frozen? w11 (Addr.add a13 3) = false ∧
 ∀ w14 : World, w14 = World.setCell w11 (Addr.add a13 3) (.slice x12 x12n x12c) →
 ∃ J15 : World → Prop,
 (optK x0 fun a16 =>
 ∃ (x17 : Option Addr) (x17n : Nat) (x17c : Nat), World.cell? w14 (Addr.add a16 3) = some (.slice x17 x17n x17c) ∧
 (bif (decide (64 < ((x17n : Nat) : Int))) then
 (optK x0 fun a18 =>
 ∃ (x19 : Option Addr) (x19n : Nat) (x19c : Nat), World.cell? w14 (Addr.add a18 3) = some (.slice x19 x19n x19c) ∧
 0 ≤ (1 : Int) ∧ (1 : Int) ≤ ((x19n : Nat) : Int) ∧ Calls Try.prog 67 #[(.slice (if x19c = (Int.toNat 1) then x19 else Option.map (fun y => Addr.add y ((Int.toNat 1) * 3)) x19) (x19n - (Int.toNat 1)) (x19c - (Int.toNat 1)))] w14 fun e20 w21 => ∃ (x22 : Option Addr) (x22n : Nat) (x22c : Nat), e20 = .returned (.slice x22 x22n x22c) ∧
 optK x0 fun a23 =>
 one (.slice x22 x22n x22c) = true ∧ Option.isSome (World.cell? w21 (Addr.add a23 3)) = true ∧ World.frozen? w21 (Addr.add a23 3) = false ∧
 ∀ w24 : World, w24 = World.setCell w21 (Addr.add a23 3) (.slice x22 x22n x22c) →
 J15  w24)
 else
 (J15  w14))) ∧
 (∀ (w25 : World), J15  w25 →
 optK x0 fun a26 =>
 one (.slice none 0 0) = true ∧ Option.isSome (World.cell? w25 (Addr.add a26 2)) = true ∧ World.frozen? w25 (Addr.add a26 2) = false ∧
 ∀ w27 : World, w27 = World.setCell w25 (Addr.add a26 2) (.slice none 0 0) →
 optK x0 fun a28 =>
 ∃ x29 : Int, World.cell? w27 (Addr.add a28 1) = some (.int .i64 x29) ∧
 optK x0 fun a30 =>
 one (.int .i64 (IntKind.wrap .i64 (x29 + 1))) = true ∧ Option.isSome (World.cell? w27 (Addr.add a30 1)) = true ∧ World.frozen? w27 (Addr.add a30 1) = false ∧
 ∀ w31 : World, w31 = World.setCell w27 (Addr.add a30 1) (.int .i64 (IntKind.wrap .i64 (x29 + 1))) →
 R (.returned (.tuple #[])) w31)
theorem e39 (x0 : Option Addr) (p1 : Array Value) (w : World) (R : Ending → World → Prop) : denS Try.prog s39 (argsEnv 0 [(.pointer x0), (.agg p1)]) w (endK r39 R) = d39 x0 p1 w R := by kernel_rfl
theorem c39 (x0 : Option Addr) (p1 : Array Value) {w : World} {R : Ending → World → Prop} (h : d39 x0 p1 w R) : Calls Try.prog 39 #[(.pointer x0), (.agg p1)] w R :=
  den39 [(.pointer x0), (.agg p1)] w R (by simp) ((e39 x0 p1 w R).symm ▸ h)

/-- prelude/merge.told -/
def s40 : S := (.seq (.ops [⟨(some 1), (.box 35 (.tmp 0)), .ptr, none⟩,
  ⟨(some 2), (.alloc 35), .ptr, none⟩] [1, 2])
 (.seq (.ops [⟨(some 3), (.fa 2 (.tmp 1)), .ptr, none⟩,
  ⟨(some 4), (.ld1 (.tmp 3)), .sl, none⟩,
  ⟨(some 5), (.call 38 [(.tmp 4)] [.sl]), .sl, none⟩,
  ⟨(some 6), (.fa 2 (.tmp 1)), .ptr, none⟩,
  ⟨none, (.st1 (.tmp 6) (.tmp 5)), .any, none⟩] [1, 2])
 (.seq (.ops [⟨(some 7), (.ldN 3 (.tmp 1)), .agg, none⟩,
  ⟨none, (.stN 3 (.tmp 2) (.tmp 7)), .any, none⟩] [2])
 .ret)))
def r40 : List Res := [.cN 2 3]
theorem tr40 : trS Try.prog [] 8 (Try.f40.body.getD .skip) s40 = some s40 := by kernel_rfl
theorem den40 (args : List Value) (w : World) (R : Ending → World → Prop) (hn : args.length ≤ 8) (h : denS Try.prog s40 (argsEnv 0 args) w (endK r40 R)) : Calls Try.prog 40 args.toArray w R :=
  calls_of_den (pn := []) (fn := Try.f40) (c := Try.f40.body.getD .skip) Try.func40 (by kernel_rfl) (by rw [Try.ntmps40]; exact hn) (by rw [Try.ntmps40]; exact tr40) (by kernel_rfl) h
def d40 (p0 : Array Value) (w : World) (R : Ending → World → Prop) : Prop :=
 ∀ w1 : World, w1 = World.alloc w (.cells p0 35) →
 ∀ w2 : World, w2 = World.alloc w1 (.cells (zc Try.prog 35).toArray 35) →
 ∃ (x3 : Option Addr) (x3n : Nat) (x3c : Nat), World.cell? w2 (Addr.add ⟨World.heap w |>.size, 0, none⟩ 2) = some (.slice x3 x3n x3c) ∧
 Calls Try.prog 38 #[(.slice x3 x3n x3c)] w2 fun e4 w5 => ∃ (x6 : Option Addr) (x6n : Nat) (x6c : Nat), e4 = .returned (.slice x6 x6n x6c) ∧
 one (.slice x6 x6n x6c) = true ∧ Option.isSome (World.cell? w5 (Addr.add ⟨World.heap w |>.size, 0, none⟩ 2)) = true ∧ World.frozen? w5 (Addr.add ⟨World.heap w |>.size, 0, none⟩ 2) = false ∧
 ∀ w7 : World, w7 = World.setCell w5 (Addr.add ⟨World.heap w |>.size, 0, none⟩ 2) (.slice x6 x6n x6c) →
 ∃ cs8 : List Value, List.length cs8 = 3 ∧ Cells w7 ⟨World.heap w |>.size, 0, none⟩ cs8 ∧
 Array.size (List.toArray cs8) = 3 ∧ (∀ u ∈ Array.toList (List.toArray cs8), one u = true) ∧ Room w7 ⟨World.heap w1 |>.size, 0, none⟩ 3 ∧
 ∀ w9 : World, w9 = setCells w7 ⟨World.heap w1 |>.size, 0, none⟩ (Array.toList (List.toArray cs8)) 0 →
 ∃ cs10 : List Value, List.length cs10 = 3 ∧ Cells w9 ⟨World.heap w1 |>.size, 0, none⟩ cs10 ∧
 R (.returned (.agg (List.toArray cs10))) w9
theorem e40 (p0 : Array Value) (w : World) (R : Ending → World → Prop) : denS Try.prog s40 (argsEnv 0 [(.agg p0)]) w (endK r40 R) = d40 p0 w R := by kernel_rfl
theorem c40 (p0 : Array Value) {w : World} {R : Ending → World → Prop} (h : d40 p0 w R) : Calls Try.prog 40 #[(.agg p0)] w R :=
  den40 [(.agg p0)] w R (by simp) ((e40 p0 w R).symm ▸ h)

/-- slices.Clone[[]prelude/api.Piece,prelude/api.Piece] -/
def s67 : S := (.seq (.ops [⟨(some 2), (.mv (.const (.slice none 0 0))), .sl, none⟩] [0])
 (.seq (.seq (.ops [⟨(some 3), (.mv (.tmp 0)), .sl, none⟩,
  ⟨(some 4), (.nilEq false 0 (.tmp 3)), .bool, none⟩] [4, 0])
 (.cond (.tmp 4)
 (.seq (.ops [⟨(some 2), (.mv (.const (.slice none 0 0))), .sl, none⟩] [2])
 .ret)
 .skip))
 (.seq (.ops [⟨(some 5), (.bld0 35 0), .sl, none⟩,
  ⟨(some 6), (.mv (.tmp 0)), .sl, none⟩,
  ⟨(some 7), (.app #[87, 87] 87 (.tmp 5) (.tmp 6)), .sl, none⟩,
  ⟨(some 2), (.mv (.tmp 7)), .sl, none⟩] [2])
 .ret)))
def r67 : List Res := [.t 2]
theorem tr67 : trS Try.prog [] 8 (Try.f67.body.getD .skip) s67 = some s67 := by kernel_rfl
theorem den67 (args : List Value) (w : World) (R : Ending → World → Prop) (hn : args.length ≤ 8) (h : denS Try.prog s67 (argsEnv 0 args) w (endK r67 R)) : Calls Try.prog 67 args.toArray w R :=
  calls_of_den (pn := []) (fn := Try.f67) (c := Try.f67.body.getD .skip) Try.func67 (by kernel_rfl) (by rw [Try.ntmps67]; exact hn) (by rw [Try.ntmps67]; exact tr67) (by kernel_rfl) h
def d67 (s0 : Option Addr) (s0n : Nat) (s0c : Nat) (w : World) (R : Ending → World → Prop) : Prop :=
 (bif (Option.isNone s0) then
 (R (.returned (.slice none 0 0)) w)
 else
 (∀ w1 : World, w1 = World.alloc w (.cells #[] 35) →
 RunV Try.prog (Builtin.append_ #[87, 87] 87 #[(.slice (some ⟨World.heap w |>.size, 0, none⟩) 0 0), (.slice s0 s0n s0c)]) w1 fun v2 w3 => ∃ (x4 : Option Addr) (x4n : Nat) (x4c : Nat), v2 = (.slice x4 x4n x4c) ∧
 R (.returned (.slice x4 x4n x4c)) w3))
theorem e67 (s0 : Option Addr) (s0n : Nat) (s0c : Nat) (w : World) (R : Ending → World → Prop) : denS Try.prog s67 (argsEnv 0 [(.slice s0 s0n s0c)]) w (endK r67 R) = d67 s0 s0n s0c w R := by kernel_rfl
theorem c67 (s0 : Option Addr) (s0n : Nat) (s0c : Nat) {w : World} {R : Ending → World → Prop} (h : d67 s0 s0n s0c w R) : Calls Try.prog 67 #[(.slice s0 s0n s0c)] w R :=
  den67 [(.slice s0 s0n s0c)] w R (by simp) ((e67 s0 s0n s0c w R).symm ▸ h)

end Go.Proofs.Ytjchneebdlncfaa.Fn
