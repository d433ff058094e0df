/-
  THE CODE of some functions of the given program, resolved, and proved to ask what the readable texts (d..) say; contracts c.. follow. Printed by a small program of mine.
  TREES OVER ROWS: where rows part (the program's differ, IndexFunc), as code.
  Own work. No macro, syntax, notation, axiom.
-/
import Derived.Test.YtjkbjppopdfggaaDoorTruPk3
import Derived.Test.YtjkbjppopdfggaaDoorProg
import Derived.Test.YtjkbjppopdfggaaDoorTruPk9
set_option maxRecDepth 100000
namespace Go.Proofs.YtjkbjppopdfggaaDoor.Fn
open Go Den
/-- prelude/preludelaw24.set -/
def s21 : S := (.seq (.ops [⟨(some 2), (.mv (.const (.slice none 0 0))), .sl, none⟩] [0])
 (.seq (.ops [⟨(some 3), (.mv (.const (.slice none 0 0))), .sl, none⟩] [0, 3])
 (.seq (.seq (.ops [⟨(some 4), (.mv (.const (.int .i64 0))), (.int .i64), none⟩] [4, 0, 3])
 (.block 0
 (.loop [(3, .sl), (4, (.int .i64))] [0]
 (.seq (.seq (.ops [⟨(some 6), (.mv (.tmp 4)), (.int .i64), none⟩,
  ⟨(some 7), (.mv (.tmp 0)), .sl, none⟩,
  ⟨(some 8), (.len (.tmp 7)), (.int .i64), none⟩,
  ⟨(some 9), (.bin .lss (.tmp 6) (.tmp 8)), .bool, none⟩] [9, 3, 0, 4])
 (.cond (.tmp 9)
 .skip
 (.exit 0)))
 (.seq (.block 1
 (.join [(5, .sl)] [0, 3, 4]
 (.draw (.take 1 ⟨(some 13), (.mv (.tmp 3)), .sl, none⟩
  (.take 3 ⟨(some 15), (.mv (.tmp 0)), .sl, none⟩
  (.take 4 ⟨(some 16), (.mv (.tmp 4)), (.int .i64), none⟩
  (.take 5 ⟨(some 17), (.ia 3 (.tmp 15) (.tmp 16)), .ptr, none⟩
  (.take 6 ⟨(some 18), (.ldN 3 (.tmp 17)), .agg, none⟩
  (.alt (.go 0 ⟨(some 12), (.bld0 31 0), .sl, none⟩ [(6, ⟨(some 18), (.ldN 3 (.tmp 17)), .agg, none⟩)]
  (.alt (.go 2 ⟨(some 14), (.app #[55, 55] 55 (.tmp 12) (.tmp 13)), .sl, none⟩ [(6, ⟨(some 18), (.ldN 3 (.tmp 17)), .agg, none⟩)]
  (.go 7 ⟨(some 19), (.bldS 31 1 3 [(0, (.tmp 18))]), .sl, none⟩ []
  (.go 8 ⟨(some 20), (.app #[55, 55] 55 (.tmp 14) (.tmp 19)), .sl, none⟩ []
  (.take 9 ⟨(some 5), (.mv (.tmp 20)), .sl, none⟩
  .done))))
 (.go 7 ⟨(some 19), (.bldS 31 1 3 [(0, (.tmp 18))]), .sl, none⟩ []
  (.go 2 ⟨(some 14), (.app #[55, 55] 55 (.tmp 12) (.tmp 13)), .sl, none⟩ []
  (.go 8 ⟨(some 20), (.app #[55, 55] 55 (.tmp 14) (.tmp 19)), .sl, none⟩ []
  (.take 9 ⟨(some 5), (.mv (.tmp 20)), .sl, none⟩
  .done))))))
 (.go 7 ⟨(some 19), (.bldS 31 1 3 [(0, (.tmp 18))]), .sl, none⟩ []
  (.go 0 ⟨(some 12), (.bld0 31 0), .sl, none⟩ []
  (.go 2 ⟨(some 14), (.app #[55, 55] 55 (.tmp 12) (.tmp 13)), .sl, none⟩ []
  (.go 8 ⟨(some 20), (.app #[55, 55] 55 (.tmp 14) (.tmp 19)), .sl, none⟩ []
  (.take 9 ⟨(some 5), (.mv (.tmp 20)), .sl, none⟩
  .done))))))))))) [5, 4, 0, 3])
 (.seq (.ops [⟨(some 21), (.mv (.tmp 5)), .sl, none⟩,
  ⟨(some 22), (.call 29 [(.tmp 21)] [.bool]), .bool, none⟩] [22, 5, 4, 0, 3])
 (.cond (.tmp 22)
 (.ops [⟨(some 23), (.mv (.tmp 5)), .sl, none⟩,
  ⟨(some 3), (.mv (.tmp 23)), .sl, none⟩] [4, 0, 3])
 .skip))))
 (.ops [⟨(some 10), (.mv (.tmp 4)), (.int .i64), none⟩,
  ⟨(some 11), (.bin .add (.tmp 10) (.const (.int .i64 1))), (.int .i64), none⟩,
  ⟨(some 4), (.mv (.tmp 11)), (.int .i64), none⟩] [4, 0, 3]))))))
 (.seq (.ops [⟨(some 24), (.mv (.tmp 3)), .sl, none⟩,
  ⟨(some 2), (.mv (.tmp 24)), .sl, none⟩] [2])
 .ret))))
def r21 : List Res := [.t 2]
theorem tr21 : trS Tryd.prog [] 25 (Tryd.f21.body.getD .skip) s21 = some s21 := by kernel_rfl
theorem den21 (args : List Value) (w : World) (R : Ending → World → Prop) (hn : args.length ≤ 25) (h : denS Tryd.prog s21 (argsEnv 0 args) w (endK r21 R)) : Calls Tryd.prog 21 args.toArray w R :=
  calls_of_den (pn := []) (fn := Tryd.f21) (c := Tryd.f21.body.getD .skip) Tryd.func21 (by kernel_rfl) (by rw [Tryd.ntmps21]; exact hn) (by rw [Tryd.ntmps21]; exact tr21) (by kernel_rfl) h
def d21 (rows0 : Option Addr) (rows0n : Nat) (rows0c : Nat) (w : World) (R : Ending → World → Prop) : Prop :=
 ∃ I1 : Nat → Option Addr → Nat → Nat → Int → World → Prop,
 (∃ m, I1 m none 0 0 0 w) ∧
 (∀ (m2 : Nat) (w3 : World) (l4 : Option Addr) (l4n : Nat) (l4c : Nat) (i5 : Int), I1 m2 l4 l4n l4c i5 w3 →
 (bif (decide (i5 < ((rows0n : Nat) : Int))) then
 (∃ J6 : Option Addr → Nat → Nat → World → Prop,
 (∀ w7 : World, w7 = World.drew w3 →
 0 ≤ i5 ∧ i5 < ((rows0n : Nat) : Int) ∧ optK rows0 fun a8 =>
 ∃ cs9 : List Value, List.length cs9 = 3 ∧ Cells w7 (Addr.add a8 (Int.toNat i5 * 3)) cs9 ∧
 (∀ w10 : World, w10 = World.alloc w7 (.cells #[] 31) →
 (∃ cs11 : List Value, List.length cs11 = 3 ∧ Cells w10 (Addr.add a8 (Int.toNat i5 * 3)) cs11 ∧
 (((.agg (List.toArray cs11)) : Value) = (.agg (List.toArray cs9)) ∧ w10 = w10)) ∧
 (RunV Tryd.prog (Builtin.append_ #[55, 55] 55 #[(.slice (some ⟨World.heap w7 |>.size, 0, none⟩) 0 0), (.slice l4 l4n l4c)]) w10 fun v12 w13 => ∃ (x14 : Option Addr) (x14n : Nat) (x14c : Nat), v12 = (.slice x14 x14n x14c) ∧
 (∃ cs15 : List Value, List.length cs15 = 3 ∧ Cells w13 (Addr.add a8 (Int.toNat i5 * 3)) cs15 ∧
 (((.agg (List.toArray cs15)) : Value) = (.agg (List.toArray cs9)) ∧ w13 = w13)) ∧
 ∃ cs16, fillL (.elems 3) (zrep (zc Tryd.prog 31) (1 * 3)) [(0, (.agg (List.toArray cs9)))] = some cs16 ∧
 ∀ w17 : World, w17 = World.alloc w13 (.cells (List.toArray cs16) 31) →
 RunV Tryd.prog (Builtin.append_ #[55, 55] 55 #[(.slice x14 x14n x14c), (.slice (some ⟨World.heap w13 |>.size, 0, none⟩) 1 1)]) w17 fun v18 w19 => ∃ (x20 : Option Addr) (x20n : Nat) (x20c : Nat), v18 = (.slice x20 x20n x20c) ∧
 J6 x20 x20n x20c w19) ∧
 (∃ cs21, fillL (.elems 3) (zrep (zc Tryd.prog 31) (1 * 3)) [(0, (.agg (List.toArray cs9)))] = some cs21 ∧
 ∀ w22 : World, w22 = World.alloc w10 (.cells (List.toArray cs21) 31) →
 RunV Tryd.prog (Builtin.append_ #[55, 55] 55 #[(.slice (some ⟨World.heap w7 |>.size, 0, none⟩) 0 0), (.slice l4 l4n l4c)]) w22 fun v23 w24 => ∃ (x25 : Option Addr) (x25n : Nat) (x25c : Nat), v23 = (.slice x25 x25n x25c) ∧
 RunV Tryd.prog (Builtin.append_ #[55, 55] 55 #[(.slice x25 x25n x25c), (.slice (some ⟨World.heap w10 |>.size, 0, none⟩) 1 1)]) w24 fun v26 w27 => ∃ (x28 : Option Addr) (x28n : Nat) (x28c : Nat), v26 = (.slice x28 x28n x28c) ∧
 J6 x28 x28n x28c w27)) ∧
 (∃ cs29, fillL (.elems 3) (zrep (zc Tryd.prog 31) (1 * 3)) [(0, (.agg (List.toArray cs9)))] = some cs29 ∧
 ∀ w30 : World, w30 = World.alloc w7 (.cells (List.toArray cs29) 31) →
 ∀ w31 : World, w31 = World.alloc w30 (.cells #[] 31) →
 RunV Tryd.prog (Builtin.append_ #[55, 55] 55 #[(.slice (some ⟨World.heap w30 |>.size, 0, none⟩) 0 0), (.slice l4 l4n l4c)]) w31 fun v32 w33 => ∃ (x34 : Option Addr) (x34n : Nat) (x34c : Nat), v32 = (.slice x34 x34n x34c) ∧
 RunV Tryd.prog (Builtin.append_ #[55, 55] 55 #[(.slice x34 x34n x34c), (.slice (some ⟨World.heap w7 |>.size, 0, none⟩) 1 1)]) w33 fun v35 w36 => ∃ (x37 : Option Addr) (x37n : Nat) (x37c : Nat), v35 = (.slice x37 x37n x37c) ∧
 J6 x37 x37n x37c w36)) ∧
 (∀ (w38 : World) (more39 : Option Addr) (more39n : Nat) (more39c : Nat), J6 more39 more39n more39c w38 →
 Calls Tryd.prog 29 #[(.slice more39 more39n more39c)] w38 fun e40 w41 => ∃ x42 : Bool, e40 = .returned (.bool x42) ∧
 (bif x42 then
 (∃ m43, m43 < m2 ∧ I1 m43 more39 more39n more39c (IntKind.wrap .i64 (i5 + 1)) w41)
 else
 (∃ m44, m44 < m2 ∧ I1 m44 l4 l4n l4c (IntKind.wrap .i64 (i5 + 1)) w41))))
 else
 (R (.returned (.slice l4 l4n l4c)) w3)))
theorem e21 (rows0 : Option Addr) (rows0n : Nat) (rows0c : Nat) (w : World) (R : Ending → World → Prop) : denS Tryd.prog s21 (argsEnv 0 [(.slice rows0 rows0n rows0c)]) w (endK r21 R) = d21 rows0 rows0n rows0c w R := by kernel_rfl
theorem c21 (rows0 : Option Addr) (rows0n : Nat) (rows0c : Nat) {w : World} {R : Ending → World → Prop} (h : d21 rows0 rows0n rows0c w R) : Calls Tryd.prog 21 #[(.slice rows0 rows0n rows0c)] w R :=
  den21 [(.slice rows0 rows0n rows0c)] w R (by simp) ((e21 rows0 rows0n rows0c w R).symm ▸ h)

/-- prelude/preludelaw24.few -/
def s22 : S := (.seq (.ops [⟨(some 2), (.mv (.const (.slice none 0 0))), .sl, none⟩] [0])
 (.seq (.seq (.ops [⟨(some 3), (.mv (.tmp 0)), .sl, none⟩,
  ⟨(some 4), (.len (.tmp 3)), (.int .i64), none⟩,
  ⟨(some 5), (.bin .gtr (.tmp 4) (.const (.int .i64 300))), .bool, none⟩] [5, 0])
 (.cond (.tmp 5)
 (.seq (.ops [⟨(some 6), (.mv (.tmp 0)), .sl, none⟩,
  ⟨(some 7), (.slS 3 (.tmp 6) none (some (.const (.int .i64 300))) none), .sl, none⟩,
  ⟨(some 2), (.mv (.tmp 7)), .sl, none⟩] [2])
 .ret)
 .skip))
 (.seq (.ops [⟨(some 8), (.mv (.tmp 0)), .sl, none⟩,
  ⟨(some 2), (.mv (.tmp 8)), .sl, none⟩] [2])
 .ret)))
def r22 : List Res := [.t 2]
theorem tr22 : trS Tryd.prog [] 9 (Tryd.f22.body.getD .skip) s22 = some s22 := by kernel_rfl
theorem den22 (args : List Value) (w : World) (R : Ending → World → Prop) (hn : args.length ≤ 9) (h : denS Tryd.prog s22 (argsEnv 0 args) w (endK r22 R)) : Calls Tryd.prog 22 args.toArray w R :=
  calls_of_den (pn := []) (fn := Tryd.f22) (c := Tryd.f22.body.getD .skip) Tryd.func22 (by kernel_rfl) (by rw [Tryd.ntmps22]; exact hn) (by rw [Tryd.ntmps22]; exact tr22) (by kernel_rfl) h
def d22 (rows0 : Option Addr) (rows0n : Nat) (rows0c : Nat) (w : World) (R : Ending → World → Prop) : Prop :=
 (bif (decide (300 < ((rows0n : Nat) : Int))) then
 (0 ≤ (300 : Int) ∧ (300 : Int) ≤ ((rows0c : Nat) : Int) ∧ R (.returned (.slice (if rows0c = 0 then rows0 else Option.map (fun y => Addr.add y (0 * 3)) rows0) ((Int.toNat 300) - 0) (rows0c - 0))) w)
 else
 (R (.returned (.slice rows0 rows0n rows0c)) w))
theorem e22 (rows0 : Option Addr) (rows0n : Nat) (rows0c : Nat) (w : World) (R : Ending → World → Prop) : denS Tryd.prog s22 (argsEnv 0 [(.slice rows0 rows0n rows0c)]) w (endK r22 R) = d22 rows0 rows0n rows0c w R := by kernel_rfl
theorem c22 (rows0 : Option Addr) (rows0n : Nat) (rows0c : Nat) {w : World} {R : Ending → World → Prop} (h : d22 rows0 rows0n rows0c w R) : Calls Tryd.prog 22 #[(.slice rows0 rows0n rows0c)] w R :=
  den22 [(.slice rows0 rows0n rows0c)] w R (by simp) ((e22 rows0 rows0n rows0c w R).symm ▸ h)

/-- prelude/preludelaw24.lent -/
def s24 : S := (.seq (.ops [⟨(some 2), (.mv (.const (.slice none 0 0))), .sl, none⟩] [0])
 (.seq (.ops [⟨(some 4), (.mv (.tmp 0)), .sl, none⟩,
  ⟨(some 5), (.len (.tmp 4)), (.int .i64), none⟩,
  ⟨(some 6), (.bin .add (.tmp 5) (.const (.int .i64 2))), (.int .i64), none⟩,
  ⟨(some 7), (.mk 55 (.tmp 6) (.tmp 6)), .sl, none⟩,
  ⟨(some 3), (.mv (.tmp 7)), .sl, none⟩] [3, 0])
 (.seq (.ops [⟨(some 8), (.mv (.tmp 3)), .sl, none⟩,
  ⟨(some 9), (.mv (.tmp 0)), .sl, none⟩,
  ⟨(some 10), (.cpy #[55, 55] 3 (.tmp 8) (.tmp 9)), (.int .i64), none⟩] [3, 0])
 (.seq (.ops [⟨(some 11), (.mv (.tmp 3)), .sl, none⟩,
  ⟨(some 12), (.mv (.tmp 0)), .sl, none⟩,
  ⟨(some 13), (.len (.tmp 12)), (.int .i64), none⟩,
  ⟨(some 14), (.ia 3 (.tmp 11) (.tmp 13)), .ptr, none⟩,
  ⟨(some 15), (.fa 2 (.tmp 14)), .ptr, none⟩,
  ⟨none, (.st1 (.tmp 15) (.const (.int .i64 (-31)))), .any, none⟩] [3, 0])
 (.seq (.ops [⟨(some 16), (.mv (.tmp 3)), .sl, none⟩,
  ⟨(some 17), (.mv (.tmp 0)), .sl, none⟩,
  ⟨(some 18), (.len (.tmp 17)), (.int .i64), none⟩,
  ⟨(some 19), (.bin .add (.tmp 18) (.const (.int .i64 1))), (.int .i64), none⟩,
  ⟨(some 20), (.ia 3 (.tmp 16) (.tmp 19)), .ptr, none⟩,
  ⟨(some 21), (.fa 2 (.tmp 20)), .ptr, none⟩,
  ⟨none, (.st1 (.tmp 21) (.const (.int .i64 (-32)))), .any, none⟩] [3, 0])
 (.seq (.ops [⟨(some 22), (.mv (.tmp 3)), .sl, none⟩,
  ⟨(some 23), (.mv (.tmp 0)), .sl, none⟩,
  ⟨(some 24), (.len (.tmp 23)), (.int .i64), none⟩,
  ⟨(some 25), (.slS 3 (.tmp 22) none (some (.tmp 24)) none), .sl, none⟩,
  ⟨(some 2), (.mv (.tmp 25)), .sl, none⟩] [2])
 .ret))))))
def r24 : List Res := [.t 2]
theorem tr24 : trS Tryd.prog [] 26 (Tryd.f24.body.getD .skip) s24 = some s24 := by kernel_rfl
theorem den24 (args : List Value) (w : World) (R : Ending → World → Prop) (hn : args.length ≤ 26) (h : denS Tryd.prog s24 (argsEnv 0 args) w (endK r24 R)) : Calls Tryd.prog 24 args.toArray w R :=
  calls_of_den (pn := []) (fn := Tryd.f24) (c := Tryd.f24.body.getD .skip) Tryd.func24 (by kernel_rfl) (by rw [Tryd.ntmps24]; exact hn) (by rw [Tryd.ntmps24]; exact tr24) (by kernel_rfl) h
def d24 (rows0 : Option Addr) (rows0n : Nat) (rows0c : Nat) (w : World) (R : Ending → World → Prop) : Prop :=
 RunV Tryd.prog (Instr.makeSlice 55 (.int .i64 (IntKind.wrap .i64 (((rows0n : Nat) : Int) + 2))) (.int .i64 (IntKind.wrap .i64 (((rows0n : Nat) : Int) + 2)))) w fun v1 w2 => ∃ (x3 : Option Addr) (x3n : Nat) (x3c : Nat), v1 = (.slice x3 x3n x3c) ∧
 RunV Tryd.prog (Builtin.copy_ #[55, 55] 3 #[(.slice x3 x3n x3c), (.slice rows0 rows0n rows0c)]) w2 fun v4 w5 => ∃ x6 : Int, v4 = (.int .i64 x6) ∧
 0 ≤ ((rows0n : Nat) : Int) ∧ ((rows0n : Nat) : Int) < ((x3n : Nat) : Int) ∧ optK x3 fun a7 =>
 one (.int .i64 (-31)) = true ∧ Option.isSome (World.cell? w5 (Addr.add (Addr.add a7 (Int.toNat ((rows0n : Nat) : Int) * 3)) 2)) = true ∧ World.frozen? w5 (Addr.add (Addr.add a7 (Int.toNat ((rows0n : Nat) : Int) * 3)) 2) = false ∧
 ∀ w8 : World, w8 = World.setCell w5 (Addr.add (Addr.add a7 (Int.toNat ((rows0n : Nat) : Int) * 3)) 2) (.int .i64 (-31)) →
 0 ≤ (IntKind.wrap .i64 (((rows0n : Nat) : Int) + 1)) ∧ (IntKind.wrap .i64 (((rows0n : Nat) : Int) + 1)) < ((x3n : Nat) : Int) ∧ optK x3 fun a9 =>
 one (.int .i64 (-32)) = true ∧ Option.isSome (World.cell? w8 (Addr.add (Addr.add a9 (Int.toNat (IntKind.wrap .i64 (((rows0n : Nat) : Int) + 1)) * 3)) 2)) = true ∧ World.frozen? w8 (Addr.add (Addr.add a9 (Int.toNat (IntKind.wrap .i64 (((rows0n : Nat) : Int) + 1)) * 3)) 2) = false ∧
 ∀ w10 : World, w10 = World.setCell w8 (Addr.add (Addr.add a9 (Int.toNat (IntKind.wrap .i64 (((rows0n : Nat) : Int) + 1)) * 3)) 2) (.int .i64 (-32)) →
 0 ≤ ((rows0n : Nat) : Int) ∧ ((rows0n : Nat) : Int) ≤ ((x3c : Nat) : Int) ∧ R (.returned (.slice (if x3c = 0 then x3 else Option.map (fun y => Addr.add y (0 * 3)) x3) ((Int.toNat ((rows0n : Nat) : Int)) - 0) (x3c - 0))) w10
theorem e24 (rows0 : Option Addr) (rows0n : Nat) (rows0c : Nat) (w : World) (R : Ending → World → Prop) : denS Tryd.prog s24 (argsEnv 0 [(.slice rows0 rows0n rows0c)]) w (endK r24 R) = d24 rows0 rows0n rows0c w R := by kernel_rfl
theorem c24 (rows0 : Option Addr) (rows0n : Nat) (rows0c : Nat) {w : World} {R : Ending → World → Prop} (h : d24 rows0 rows0n rows0c w R) : Calls Tryd.prog 24 #[(.slice rows0 rows0n rows0c)] w R :=
  den24 [(.slice rows0 rows0n rows0c)] w R (by simp) ((e24 rows0 rows0n rows0c w R).symm ▸ h)

/-- prelude/preluderef24.Set -/
def s29 : S := (.seq (.ops [⟨(some 2), (.mv (.const (.bool false))), .bool, none⟩] [0])
 (.seq (.ops [⟨(some 3), (.mv (.const (.slice none 0 0))), .sl, none⟩] [0, 3])
 (.seq (.seq (.ops [⟨(some 4), (.mv (.const (.int .i64 0))), (.int .i64), none⟩] [4, 0, 3])
 (.block 0
 (.loop [(3, .sl), (4, (.int .i64))] [0]
 (.seq (.seq (.ops [⟨(some 5), (.mv (.tmp 4)), (.int .i64), none⟩,
  ⟨(some 6), (.mv (.tmp 0)), .sl, none⟩,
  ⟨(some 7), (.len (.tmp 6)), (.int .i64), none⟩,
  ⟨(some 8), (.bin .lss (.tmp 5) (.tmp 7)), .bool, none⟩] [8, 3, 0, 4])
 (.cond (.tmp 8)
 .skip
 (.exit 0)))
 (.seq (.block 1
 (.ops [⟨(some 11), (.mv (.tmp 3)), .sl, none⟩,
  ⟨(some 12), (.mv (.tmp 0)), .sl, none⟩,
  ⟨(some 13), (.mv (.tmp 4)), (.int .i64), none⟩,
  ⟨(some 14), (.ia 3 (.tmp 12) (.tmp 13)), .ptr, none⟩,
  ⟨(some 15), (.fa 0 (.tmp 14)), .ptr, none⟩,
  ⟨(some 16), (.ldN 2 (.tmp 15)), .agg, none⟩,
  ⟨(some 17), (.bldS 29 1 2 [(0, (.tmp 16))]), .sl, none⟩,
  ⟨(some 18), (.app #[67, 67] 67 (.tmp 11) (.tmp 17)), .sl, none⟩,
  ⟨(some 3), (.mv (.tmp 18)), .sl, none⟩] [4, 0, 3]))
 (.ops [⟨(some 9), (.mv (.tmp 4)), (.int .i64), none⟩,
  ⟨(some 10), (.bin .add (.tmp 9) (.const (.int .i64 1))), (.int .i64), none⟩,
  ⟨(some 4), (.mv (.tmp 10)), (.int .i64), none⟩] [4, 0, 3]))))))
 (.seq (.ops [⟨(some 19), (.mv (.tmp 3)), .sl, none⟩,
  ⟨(some 20), (.call 65 [(.tmp 19)] [.bool]), .bool, none⟩,
  ⟨(some 2), (.mv (.tmp 20)), .bool, none⟩] [2])
 .ret))))
def r29 : List Res := [.t 2]
theorem tr29 : trS Tryd.prog [] 21 (Tryd.f29.body.getD .skip) s29 = some s29 := by kernel_rfl
theorem den29 (args : List Value) (w : World) (R : Ending → World → Prop) (hn : args.length ≤ 21) (h : denS Tryd.prog s29 (argsEnv 0 args) w (endK r29 R)) : Calls Tryd.prog 29 args.toArray w R :=
  calls_of_den (pn := []) (fn := Tryd.f29) (c := Tryd.f29.body.getD .skip) Tryd.func29 (by kernel_rfl) (by rw [Tryd.ntmps29]; exact hn) (by rw [Tryd.ntmps29]; exact tr29) (by kernel_rfl) h
def d29 (rows0 : Option Addr) (rows0n : Nat) (rows0c : Nat) (w : World) (R : Ending → World → Prop) : Prop :=
 ∃ I1 : Nat → Option Addr → Nat → Nat → Int → World → Prop,
 (∃ m, I1 m none 0 0 0 w) ∧
 (∀ (m2 : Nat) (w3 : World) (l4 : Option Addr) (l4n : Nat) (l4c : Nat) (i5 : Int), I1 m2 l4 l4n l4c i5 w3 →
 (bif (decide (i5 < ((rows0n : Nat) : Int))) then
 (0 ≤ i5 ∧ i5 < ((rows0n : Nat) : Int) ∧ optK rows0 fun a6 =>
 ∃ cs7 : List Value, List.length cs7 = 2 ∧ Cells w3 (Addr.add (Addr.add a6 (Int.toNat i5 * 3)) 0) cs7 ∧
 ∃ cs8, fillL (.elems 2) (zrep (zc Tryd.prog 29) (1 * 2)) [(0, (.agg (List.toArray cs7)))] = some cs8 ∧
 ∀ w9 : World, w9 = World.alloc w3 (.cells (List.toArray cs8) 29) →
 RunV Tryd.prog (Builtin.append_ #[67, 67] 67 #[(.slice l4 l4n l4c), (.slice (some ⟨World.heap w3 |>.size, 0, none⟩) 1 1)]) w9 fun v10 w11 => ∃ (x12 : Option Addr) (x12n : Nat) (x12c : Nat), v10 = (.slice x12 x12n x12c) ∧
 ∃ m13, m13 < m2 ∧ I1 m13 x12 x12n x12c (IntKind.wrap .i64 (i5 + 1)) w11)
 else
 (Calls Tryd.prog 65 #[(.slice l4 l4n l4c)] w3 fun e14 w15 => ∃ x16 : Bool, e14 = .returned (.bool x16) ∧
 R (.returned (.bool x16)) w15)))
theorem e29 (rows0 : Option Addr) (rows0n : Nat) (rows0c : Nat) (w : World) (R : Ending → World → Prop) : denS Tryd.prog s29 (argsEnv 0 [(.slice rows0 rows0n rows0c)]) w (endK r29 R) = d29 rows0 rows0n rows0c w R := by kernel_rfl
theorem c29 (rows0 : Option Addr) (rows0n : Nat) (rows0c : Nat) {w : World} {R : Ending → World → Prop} (h : d29 rows0 rows0n rows0c w R) : Calls Tryd.prog 29 #[(.slice rows0 rows0n rows0c)] w R :=
  den29 [(.slice rows0 rows0n rows0c)] w R (by simp) ((e29 rows0 rows0n rows0c w R).symm ▸ h)

/-- prelude/proof.New -/
def s23 : S := (.seq (.ops [⟨(some 2), (.mv (.const (.pointer none))), .ptr, none⟩,
  ⟨(some 3), (.mv (.const (.int .i64 0))), (.int .i64), none⟩] [0])
 (.seq (.ops [⟨(some 4), (.mv (.const (.slice none 0 0))), .sl, none⟩] [0, 4])
 (.seq (.seq (.ops [⟨(some 13), (.mv (.tmp 0)), .sl, none⟩,
  ⟨(some 14), (.len (.tmp 13)), (.int .i64), none⟩,
  ⟨(some 15), (.mv (.const (.int .i64 0))), (.int .i64), none⟩] [15, 14, 13, 4, 0])
 (.block 0
 (.loop [(4, .sl), (15, (.int .i64))] [0, 13, 14]
 (.seq (.ops [⟨(some 16), (.bin .lss (.tmp 15) (.tmp 14)), .any, none⟩] [16, 13, 15, 4, 14, 0])
 (.seq (.cond (.tmp 16)
 .skip
 (.exit 0))
 (.seq (.block 1
 (.seq (.ops [⟨(some 17), (.ia 3 (.tmp 13) (.tmp 15)), .ptr, none⟩,
  ⟨(some 18), (.ldN 3 (.tmp 17)), .agg, none⟩,
  ⟨(some 6), (.alloc 31), .ptr, none⟩,
  ⟨none, (.stN 3 (.tmp 6) (.tmp 18)), .any, none⟩] [4, 6, 15, 14, 13, 0])
 (.ops [⟨(some 19), (.mv (.tmp 4)), .sl, none⟩,
  ⟨(some 20), (.fa 0 (.tmp 6)), .ptr, none⟩,
  ⟨(some 21), (.ldN 2 (.tmp 20)), .agg, none⟩,
  ⟨(some 22), (.bldS 29 1 2 [(0, (.tmp 21))]), .sl, none⟩,
  ⟨(some 23), (.app #[67, 67] 67 (.tmp 19) (.tmp 22)), .sl, none⟩,
  ⟨(some 4), (.mv (.tmp 23)), .sl, none⟩] [15, 14, 13, 4, 0])))
 (.ops [⟨(some 24), (.bin .add (.tmp 15) (.const (.int .i64 1))), (.int .i64), none⟩,
  ⟨(some 15), (.mv (.tmp 24)), (.int .i64), none⟩] [15, 14, 13, 4, 0])))))))
 (.seq (.seq (.ops [⟨(some 25), (.mv (.tmp 4)), .sl, none⟩,
  ⟨(some 26), (.call 60 [(.tmp 25)] [.bool]), .bool, none⟩,
  ⟨(some 27), (.un .not (.tmp 26)), .bool, none⟩] [27, 0, 4])
 (.cond (.tmp 27)
 (.seq (.ops [⟨(some 2), (.mv (.const (.pointer none))), .ptr, none⟩,
  ⟨(some 3), (.mv (.const (.int .i64 22))), (.int .i64), none⟩] [2, 3])
 .ret)
 .skip))
 (.seq (.ops [⟨(some 28), (.mkM 113), .mp, none⟩,
  ⟨(some 29), (.bld 117 (.fields [(0, 1), (1, 1)]) [(1, (.tmp 28))]), .agg, none⟩,
  ⟨(some 30), (.box 117 (.tmp 29)), .ptr, none⟩,
  ⟨(some 7), (.mv (.tmp 30)), .ptr, none⟩] [0, 4, 7])
 (.seq (.seq (.ops [⟨(some 31), (.mv (.tmp 0)), .sl, none⟩,
  ⟨(some 32), (.len (.tmp 31)), (.int .i64), none⟩,
  ⟨(some 33), (.bin .gtr (.tmp 32) (.const (.int .i64 0))), .bool, none⟩] [33, 4, 7, 0])
 (.cond (.tmp 33)
 (.seq (.ops [⟨(some 8), (.mv (.const (.slice none 0 0))), .sl, none⟩] [4, 8, 7, 0])
 (.seq (.seq (.ops [⟨(some 34), (.mv (.tmp 4)), .sl, none⟩,
  ⟨(some 35), (.len (.tmp 34)), (.int .i64), none⟩,
  ⟨(some 36), (.mv (.const (.int .i64 0))), (.int .i64), none⟩] [36, 35, 34, 8, 7, 0])
 (.block 2
 (.loop [(8, .sl), (36, (.int .i64))] [0, 7, 34, 35]
 (.seq (.ops [⟨(some 37), (.bin .lss (.tmp 36) (.tmp 35)), .any, none⟩] [37, 34, 36, 8, 35, 7, 0])
 (.seq (.cond (.tmp 37)
 .skip
 (.exit 2))
 (.seq (.block 3
 (.seq (.ops [⟨(some 38), (.ia 2 (.tmp 34) (.tmp 36)), .ptr, none⟩,
  ⟨(some 39), (.ldN 2 (.tmp 38)), .agg, none⟩,
  ⟨(some 10), (.alloc 29), .ptr, none⟩,
  ⟨none, (.stN 2 (.tmp 10) (.tmp 39)), .any, none⟩] [10, 8, 36, 35, 34, 7, 0])
 (.seq (.ops [⟨(some 41), (.ldN 2 (.tmp 10)), .agg, none⟩,
  ⟨(some 42), (.call 55 [(.tmp 41)] [.sl, (.int .i64)]), .any, none⟩,
  ⟨(some 40), (.mv (.tmp 42)), .any, none⟩,
  ⟨(some 43), (.ext 0 (.tmp 40)), .sl, none⟩,
  ⟨(some 44), (.ext 1 (.tmp 40)), (.int .i64), none⟩,
  ⟨(some 11), (.mv (.tmp 43)), .sl, none⟩,
  ⟨(some 12), (.mv (.tmp 44)), (.int .i64), none⟩] [8, 11, 36, 35, 34, 7, 0])
 (.ops [⟨(some 45), (.mv (.tmp 8)), .sl, none⟩,
  ⟨(some 46), (.mv (.tmp 11)), .sl, none⟩,
  ⟨(some 47), (.bldS 22 1 1 [(0, (.tmp 46))]), .sl, none⟩,
  ⟨(some 48), (.app #[78, 78] 78 (.tmp 45) (.tmp 47)), .sl, none⟩,
  ⟨(some 8), (.mv (.tmp 48)), .sl, none⟩] [36, 35, 34, 8, 7, 0]))))
 (.ops [⟨(some 49), (.bin .add (.tmp 36) (.const (.int .i64 1))), (.int .i64), none⟩,
  ⟨(some 36), (.mv (.tmp 49)), (.int .i64), none⟩] [36, 35, 34, 8, 7, 0])))))))
 (.ops [⟨(some 50), (.mv (.tmp 7)), .ptr, none⟩,
  ⟨(some 51), (.mv (.tmp 7)), .ptr, none⟩,
  ⟨(some 52), (.mv (.tmp 0)), .sl, none⟩,
  ⟨(some 53), (.mv (.tmp 8)), .sl, none⟩,
  ⟨(some 54), (.call 61 [(.tmp 51), (.tmp 52), (.tmp 53)] [.any]), .any, none⟩,
  ⟨(some 55), (.nc (.tmp 50)), .any, none⟩,
  ⟨(some 56), (.fa 0 (.tmp 55)), .ptr, none⟩,
  ⟨none, (.st1 (.tmp 56) (.tmp 54)), .any, none⟩] [7])))
 .skip))
 (.seq (.ops [⟨(some 57), (.mv (.tmp 7)), .ptr, none⟩,
  ⟨(some 2), (.mv (.tmp 57)), .ptr, none⟩,
  ⟨(some 3), (.mv (.const (.int .i64 0))), (.int .i64), none⟩] [2, 3])
 .ret)))))))
def r23 : List Res := [.t 2, .t 3]
theorem tr23 : trS Tryd.prog [] 58 (Tryd.f23.body.getD .skip) s23 = some s23 := by kernel_rfl
theorem den23 (args : List Value) (w : World) (R : Ending → World → Prop) (hn : args.length ≤ 58) (h : denS Tryd.prog s23 (argsEnv 0 args) w (endK r23 R)) : Calls Tryd.prog 23 args.toArray w R :=
  calls_of_den (pn := []) (fn := Tryd.f23) (c := Tryd.f23.body.getD .skip) Tryd.func23 (by kernel_rfl) (by rw [Tryd.ntmps23]; exact hn) (by rw [Tryd.ntmps23]; exact tr23) (by kernel_rfl) h
def d23 (rows0 : Option Addr) (rows0n : Nat) (rows0c : Nat) (w : World) (R : Ending → World → Prop) : Prop :=
 ∃ I1 : Nat → Option Addr → Nat → Nat → Int → World → Prop,
 (∃ m, I1 m none 0 0 0 w) ∧
 (∀ (m2 : Nat) (w3 : World) (names4 : Option Addr) (names4n : Nat) (names4c : Nat) (x5 : Int), I1 m2 names4 names4n names4c x5 w3 →
 (bif (decide (x5 < ((rows0n : Nat) : Int))) then
 (0 ≤ x5 ∧ x5 < ((rows0n : Nat) : Int) ∧ optK rows0 fun a6 =>
 ∃ cs7 : List Value, List.length cs7 = 3 ∧ Cells w3 (Addr.add a6 (Int.toNat x5 * 3)) cs7 ∧
 ∀ w8 : World, w8 = World.alloc w3 (.cells (zc Tryd.prog 31).toArray 31) →
 Array.size (List.toArray cs7) = 3 ∧ (∀ u ∈ Array.toList (List.toArray cs7), one u = true) ∧ Room w8 ⟨World.heap w3 |>.size, 0, none⟩ 3 ∧
 ∀ w9 : World, w9 = setCells w8 ⟨World.heap w3 |>.size, 0, none⟩ (Array.toList (List.toArray cs7)) 0 →
 ∃ cs10 : List Value, List.length cs10 = 2 ∧ Cells w9 (Addr.add ⟨World.heap w3 |>.size, 0, none⟩ 0) cs10 ∧
 ∃ cs11, fillL (.elems 2) (zrep (zc Tryd.prog 29) (1 * 2)) [(0, (.agg (List.toArray cs10)))] = some cs11 ∧
 ∀ w12 : World, w12 = World.alloc w9 (.cells (List.toArray cs11) 29) →
 RunV Tryd.prog (Builtin.append_ #[67, 67] 67 #[(.slice names4 names4n names4c), (.slice (some ⟨World.heap w9 |>.size, 0, none⟩) 1 1)]) w12 fun v13 w14 => ∃ (x15 : Option Addr) (x15n : Nat) (x15c : Nat), v13 = (.slice x15 x15n x15c) ∧
 ∃ m16, m16 < m2 ∧ I1 m16 x15 x15n x15c (IntKind.wrap .i64 (x5 + 1)) w14)
 else
 (Calls Tryd.prog 60 #[(.slice names4 names4n names4c)] w3 fun e17 w18 => ∃ x19 : Bool, e17 = .returned (.bool x19) ∧
 (bif (!x19) then
 (R (.returned (.tuple #[(.pointer none), (.int .i64 22)])) w18)
 else
 (∀ w20 : World, w20 = World.alloc w18 (.map #[] 0) →
 ∃ cs21, fillL (.fields [(0, 1), (1, 1)]) (zc Tryd.prog 117) [(1, (.map (some (World.heap w18 |>.size))))] = some cs21 ∧
 ∀ w22 : World, w22 = World.alloc w20 (.cells (List.toArray cs21) 117) →
 (bif (decide (0 < ((rows0n : Nat) : Int))) then
 (∃ I23 : Nat → Option Addr → Nat → Nat → Int → World → Prop,
 (∃ m, I23 m none 0 0 0 w22) ∧
 (∀ (m24 : Nat) (w25 : World) (forms26 : Option Addr) (forms26n : Nat) (forms26c : Nat) (x27 : Int), I23 m24 forms26 forms26n forms26c x27 w25 →
 (bif (decide (x27 < ((names4n : Nat) : Int))) then
 (0 ≤ x27 ∧ x27 < ((names4n : Nat) : Int) ∧ optK names4 fun a28 =>
 ∃ cs29 : List Value, List.length cs29 = 2 ∧ Cells w25 (Addr.add a28 (Int.toNat x27 * 2)) cs29 ∧
 ∀ w30 : World, w30 = World.alloc w25 (.cells (zc Tryd.prog 29).toArray 29) →
 Array.size (List.toArray cs29) = 2 ∧ (∀ u ∈ Array.toList (List.toArray cs29), one u = true) ∧ Room w30 ⟨World.heap w25 |>.size, 0, none⟩ 2 ∧
 ∀ w31 : World, w31 = setCells w30 ⟨World.heap w25 |>.size, 0, none⟩ (Array.toList (List.toArray cs29)) 0 →
 ∃ cs32 : List Value, List.length cs32 = 2 ∧ Cells w31 ⟨World.heap w25 |>.size, 0, none⟩ cs32 ∧
 Calls Tryd.prog 55 #[(.agg (List.toArray cs32))] w31 fun e33 w34 => ∃ (x35 : Option Addr) (x35n : Nat) (x35c : Nat), ∃ x36 : Int, e33 = .returned (.tuple #[(.slice x35 x35n x35c), (.int .i64 x36)]) ∧
 ∃ (x37 : Option Addr) (x37n : Nat) (x37c : Nat), (#[(.slice x35 x35n x35c), (.int .i64 x36)] : Array Value)[0]? = some (.slice x37 x37n x37c) ∧
 ∃ x38 : Int, (#[(.slice x35 x35n x35c), (.int .i64 x36)] : Array Value)[1]? = some (.int .i64 x38) ∧
 ∃ cs39, fillL (.elems 1) (zrep (zc Tryd.prog 22) (1 * 1)) [(0, (.slice x37 x37n x37c))] = some cs39 ∧
 ∀ w40 : World, w40 = World.alloc w34 (.cells (List.toArray cs39) 22) →
 RunV Tryd.prog (Builtin.append_ #[78, 78] 78 #[(.slice forms26 forms26n forms26c), (.slice (some ⟨World.heap w34 |>.size, 0, none⟩) 1 1)]) w40 fun v41 w42 => ∃ (x43 : Option Addr) (x43n : Nat) (x43c : Nat), v41 = (.slice x43 x43n x43c) ∧
 ∃ m44, m44 < m24 ∧ I23 m44 x43 x43n x43c (IntKind.wrap .i64 (x27 + 1)) w42)
 else
 (Calls Tryd.prog 61 #[(.pointer (some ⟨World.heap w20 |>.size, 0, none⟩)), (.slice rows0 rows0n rows0c), (.slice forms26 forms26n forms26c)] w25 fun e45 w46 => ∃ x47 : Value, e45 = .returned x47 ∧
 one x47 = true ∧ Option.isSome (World.cell? w46 (Addr.add ⟨World.heap w20 |>.size, 0, none⟩ 0)) = true ∧ World.frozen? w46 (Addr.add ⟨World.heap w20 |>.size, 0, none⟩ 0) = false ∧
 ∀ w48 : World, w48 = World.setCell w46 (Addr.add ⟨World.heap w20 |>.size, 0, none⟩ 0) x47 →
 R (.returned (.tuple #[(.pointer (some ⟨World.heap w20 |>.size, 0, none⟩)), (.int .i64 0)])) w48))))
 else
 (R (.returned (.tuple #[(.pointer (some ⟨World.heap w20 |>.size, 0, none⟩)), (.int .i64 0)])) w22)))))))
theorem e23 (rows0 : Option Addr) (rows0n : Nat) (rows0c : Nat) (w : World) (R : Ending → World → Prop) : denS Tryd.prog s23 (argsEnv 0 [(.slice rows0 rows0n rows0c)]) w (endK r23 R) = d23 rows0 rows0n rows0c w R := by kernel_rfl
theorem c23 (rows0 : Option Addr) (rows0n : Nat) (rows0c : Nat) {w : World} {R : Ending → World → Prop} (h : d23 rows0 rows0n rows0c w R) : Calls Tryd.prog 23 #[(.slice rows0 rows0n rows0c)] w R :=
  den23 [(.slice rows0 rows0n rows0c)] w R (by simp) ((e23 rows0 rows0n rows0c w R).symm ▸ h)

/-- prelude/proof.Diff -/
def s25 : S := (.seq (.ops [⟨(some 4), (.mv (.const (.slice none 0 0))), .sl, none⟩] [0, 1])
 (.seq (.ops [⟨(some 5), (.mv (.const (.slice none 0 0))), .sl, none⟩] [0, 1, 5])
 (.seq (.ops [⟨(some 10), (.mv (.tmp 0)), .ptr, none⟩,
  ⟨(some 11), (.call 31 [(.tmp 10)] [.sl]), .sl, none⟩,
  ⟨(some 12), (.mv (.tmp 1)), .ptr, none⟩,
  ⟨(some 13), (.call 31 [(.tmp 12)] [.sl]), .sl, none⟩,
  ⟨(some 6), (.mv (.tmp 11)), .sl, none⟩,
  ⟨(some 7), (.mv (.tmp 13)), .sl, none⟩] [6, 7, 5])
 (.seq (.block 0
 (.loop [(5, .sl), (6, .sl), (7, .sl)] []
 (.join [] [5, 6, 7]
 (.seq (.ops [⟨(some 14), (.mv (.tmp 6)), .sl, none⟩,
  ⟨(some 15), (.len (.tmp 14)), (.int .i64), none⟩,
  ⟨(some 16), (.bin .gtr (.tmp 15) (.const (.int .i64 0))), .bool, none⟩,
  ⟨(some 17), (.mv (.tmp 16)), .bool, none⟩,
  ⟨(some 18), (.mv (.tmp 7)), .sl, (some (17, false))⟩,
  ⟨(some 19), (.len (.tmp 18)), (.int .i64), (some (17, false))⟩,
  ⟨(some 20), (.bin .gtr (.tmp 19) (.const (.int .i64 0))), .bool, (some (17, false))⟩,
  ⟨(some 21), (.pick (.tmp 17) (.const (.bool true)) (.tmp 20)), .bool, none⟩] [21, 6, 7, 5])
 (.cond (.tmp 21)
 .skip
 (.exit 0)))
 (.block 1
 (.seq (.ops [⟨(some 8), (.mv (.const (.int .i64 (-1)))), (.int .i64), none⟩] [6, 7, 5, 8])
 (.join [(8, (.int .i64))] [5, 6, 7]
 (.block 2
 (.seq (.ops [⟨(some 23), (.mv (.tmp 6)), .sl, none⟩,
  ⟨(some 24), (.len (.tmp 23)), (.int .i64), none⟩,
  ⟨(some 25), (.bin .eql (.tmp 24) (.const (.int .i64 0))), .bool, none⟩,
  ⟨(some 22), (.mv (.tmp 25)), .bool, none⟩] [22, 6, 7, 5, 8])
 (.cond (.tmp 22)
 (.ops [⟨(some 8), (.mv (.const (.int .i64 1))), (.int .i64), none⟩] [8, 6, 7, 5])
 (.seq (.ops [⟨(some 27), (.mv (.tmp 7)), .sl, none⟩,
  ⟨(some 28), (.len (.tmp 27)), (.int .i64), none⟩,
  ⟨(some 29), (.bin .gtr (.tmp 28) (.const (.int .i64 0))), .bool, none⟩,
  ⟨(some 26), (.mv (.tmp 29)), .bool, none⟩] [26, 6, 7, 5, 8])
 (.cond (.tmp 26)
 (.draw (.take 0 ⟨(some 30), (.mv (.tmp 6)), .sl, none⟩
  (.take 1 ⟨(some 31), (.ia 3 (.tmp 30) (.const (.int .i64 0))), .ptr, none⟩
  (.take 2 ⟨(some 32), (.fa 0 (.tmp 31)), .ptr, none⟩
  (.take 3 ⟨(some 33), (.ldN 2 (.tmp 32)), .agg, none⟩
  (.take 4 ⟨(some 34), (.mv (.tmp 7)), .sl, none⟩
  (.take 5 ⟨(some 35), (.ia 3 (.tmp 34) (.const (.int .i64 0))), .ptr, none⟩
  (.take 6 ⟨(some 36), (.fa 0 (.tmp 35)), .ptr, none⟩
  (.take 7 ⟨(some 37), (.ldN 2 (.tmp 36)), .agg, none⟩
  (.go 8 ⟨(some 38), (.call 62 [(.tmp 33), (.tmp 37)] [(.int .i64)]), (.int .i64), none⟩ []
  (.take 9 ⟨(some 8), (.mv (.tmp 38)), (.int .i64), none⟩
  .done)))))))))) [8, 6, 7, 5])
 .skip)))))
 (.seq (.ops [⟨(some 9), (.alloc 65), .ptr, none⟩] [8, 6, 9, 7, 5])
 (.join [(6, .sl)] [5, 7, 8, 9]
 (.seq (.ops [⟨(some 39), (.mv (.tmp 8)), (.int .i64), none⟩,
  ⟨(some 40), (.bin .leq (.tmp 39) (.const (.int .i64 0))), .bool, none⟩] [40, 6, 9, 8, 7, 5])
 (.cond (.tmp 40)
 (.seq (.draw (.take 0 ⟨(some 41), (.mv (.tmp 6)), .sl, none⟩
  (.take 1 ⟨(some 42), (.ia 3 (.tmp 41) (.const (.int .i64 0))), .ptr, none⟩
  (.take 2 ⟨(some 43), (.fa 0 (.tmp 42)), .ptr, none⟩
  (.take 3 ⟨(some 44), (.ldN 2 (.tmp 43)), .agg, none⟩
  (.take 4 ⟨(some 45), (.mv (.tmp 6)), .sl, none⟩
  (.take 5 ⟨(some 46), (.ia 3 (.tmp 45) (.const (.int .i64 0))), .ptr, none⟩
  (.take 6 ⟨(some 47), (.fa 2 (.tmp 46)), .ptr, none⟩
  (.take 7 ⟨(some 48), (.ld1 (.tmp 47)), (.int .i64), none⟩
  (.take 8 ⟨(some 49), (.bld 45 (.fields [(0, 1), (1, 1)]) [(0, (.const (.bool true))), (1, (.tmp 48))]), .agg, none⟩
  (.take 9 ⟨(some 50), (.fa 0 (.tmp 9)), .ptr, none⟩
  (.go 10 ⟨none, (.stN 2 (.tmp 50) (.tmp 44)), .any, none⟩ [(7, ⟨(some 48), (.ld1 (.tmp 47)), (.int .i64), none⟩)]
  (.take 11 ⟨(some 51), (.fa 2 (.tmp 9)), .ptr, none⟩
  (.go 12 ⟨none, (.stN 2 (.tmp 51) (.tmp 49)), .any, none⟩ []
  .done))))))))))))) [6, 8, 7, 9, 5])
 (.ops [⟨(some 52), (.mv (.tmp 6)), .sl, none⟩,
  ⟨(some 53), (.slS 3 (.tmp 52) (some (.const (.int .i64 1))) none none), .sl, none⟩,
  ⟨(some 6), (.mv (.tmp 53)), .sl, none⟩] [8, 7, 9, 5, 6]))
 .skip))
 (.join [(7, .sl)] [5, 6, 9]
 (.seq (.ops [⟨(some 54), (.mv (.tmp 8)), (.int .i64), none⟩,
  ⟨(some 55), (.bin .geq (.tmp 54) (.const (.int .i64 0))), .bool, none⟩] [55, 7, 9, 5, 6])
 (.cond (.tmp 55)
 (.seq (.draw (.take 0 ⟨(some 56), (.mv (.tmp 7)), .sl, none⟩
  (.take 1 ⟨(some 57), (.ia 3 (.tmp 56) (.const (.int .i64 0))), .ptr, none⟩
  (.take 2 ⟨(some 58), (.fa 0 (.tmp 57)), .ptr, none⟩
  (.take 3 ⟨(some 59), (.ldN 2 (.tmp 58)), .agg, none⟩
  (.take 4 ⟨(some 60), (.mv (.tmp 7)), .sl, none⟩
  (.take 5 ⟨(some 61), (.ia 3 (.tmp 60) (.const (.int .i64 0))), .ptr, none⟩
  (.take 6 ⟨(some 62), (.fa 2 (.tmp 61)), .ptr, none⟩
  (.take 7 ⟨(some 63), (.ld1 (.tmp 62)), (.int .i64), none⟩
  (.take 8 ⟨(some 64), (.bld 45 (.fields [(0, 1), (1, 1)]) [(0, (.const (.bool true))), (1, (.tmp 63))]), .agg, none⟩
  (.take 9 ⟨(some 65), (.fa 0 (.tmp 9)), .ptr, none⟩
  (.go 10 ⟨none, (.stN 2 (.tmp 65) (.tmp 59)), .any, none⟩ [(7, ⟨(some 63), (.ld1 (.tmp 62)), (.int .i64), none⟩)]
  (.take 11 ⟨(some 66), (.fa 4 (.tmp 9)), .ptr, none⟩
  (.go 12 ⟨none, (.stN 2 (.tmp 66) (.tmp 64)), .any, none⟩ []
  .done))))))))))))) [7, 9, 5, 6])
 (.ops [⟨(some 67), (.mv (.tmp 7)), .sl, none⟩,
  ⟨(some 68), (.slS 3 (.tmp 67) (some (.const (.int .i64 1))) none none), .sl, none⟩,
  ⟨(some 7), (.mv (.tmp 68)), .sl, none⟩] [9, 5, 6, 7]))
 .skip))
 (.seq (.ops [⟨(some 69), (.fa 2 (.tmp 9)), .ptr, none⟩,
  ⟨(some 70), (.ldN 2 (.tmp 69)), .agg, none⟩,
  ⟨(some 71), (.fa 4 (.tmp 9)), .ptr, none⟩,
  ⟨(some 72), (.ldN 2 (.tmp 71)), .agg, none⟩,
  ⟨(some 73), (.eqG .neq 45 (.tmp 70) (.tmp 72)), .bool, none⟩] [73, 5, 9, 6, 7])
 (.cond (.tmp 73)
 (.ops [⟨(some 74), (.mv (.tmp 5)), .sl, none⟩,
  ⟨(some 75), (.ldN 6 (.tmp 9)), .agg, none⟩,
  ⟨(some 76), (.bldS 65 1 6 [(0, (.tmp 75))]), .sl, none⟩,
  ⟨(some 77), (.app #[60, 60] 60 (.tmp 74) (.tmp 76)), .sl, none⟩,
  ⟨(some 5), (.mv (.tmp 77)), .sl, none⟩] [6, 7, 5])
 .skip)))))))))))
 (.seq (.ops [⟨(some 78), (.mv (.tmp 5)), .sl, none⟩,
  ⟨(some 4), (.mv (.tmp 78)), .sl, none⟩] [4])
 .ret)))))
def r25 : List Res := [.t 4]
theorem tr25 : trS Tryd.prog [] 79 (Tryd.f25.body.getD .skip) s25 = some s25 := by kernel_rfl
theorem den25 (args : List Value) (w : World) (R : Ending → World → Prop) (hn : args.length ≤ 79) (h : denS Tryd.prog s25 (argsEnv 0 args) w (endK r25 R)) : Calls Tryd.prog 25 args.toArray w R :=
  calls_of_den (pn := []) (fn := Tryd.f25) (c := Tryd.f25.body.getD .skip) Tryd.func25 (by kernel_rfl) (by rw [Tryd.ntmps25]; exact hn) (by rw [Tryd.ntmps25]; exact tr25) (by kernel_rfl) h
def d25 (a0 : Option Addr) (b1 : Option Addr) (w : World) (R : Ending → World → Prop) : Prop :=
 Calls Tryd.prog 31 #[(.pointer a0)] w fun e2 w3 => ∃ (x4 : Option Addr) (x4n : Nat) (x4c : Nat), e2 = .returned (.slice x4 x4n x4c) ∧
 Calls Tryd.prog 31 #[(.pointer b1)] w3 fun e5 w6 => ∃ (x7 : Option Addr) (x7n : Nat) (x7c : Nat), e5 = .returned (.slice x7 x7n x7c) ∧
 ∃ I8 : Nat → Option Addr → Nat → Nat → Option Addr → Nat → Nat → Option Addr → Nat → Nat → World → Prop,
 (∃ m, I8 m none 0 0 x4 x4n x4c x7 x7n x7c w6) ∧
 (∀ (m9 : Nat) (w10 : World) (l11 : Option Addr) (l11n : Nat) (l11c : Nat) (x12 : Option Addr) (x12n : Nat) (x12c : Nat) (y13 : Option Addr) (y13n : Nat) (y13c : Nat), I8 m9 l11 l11n l11c x12 x12n x12c y13 y13n y13c w10 →
 ∃ J14 : World → Prop,
 ((bif (decide (0 < ((x12n : Nat) : Int))) then
 (J14  w10)
 else
 ((bif (decide (0 < ((y13n : Nat) : Int))) then
 (J14  w10)
 else
 (R (.returned (.slice l11 l11n l11c)) w10))))) ∧
 (∀ (w15 : World), J14  w15 →
 ∃ J16 : Int → World → Prop,
 ((bif (decide (((x12n : Nat) : Int) = 0)) then
 (J16 1 w15)
 else
 ((bif (decide (0 < ((y13n : Nat) : Int))) then
 (∀ w17 : World, w17 = World.drew w15 →
 0 ≤ (0 : Int) ∧ (0 : Int) < ((x12n : Nat) : Int) ∧ optK x12 fun a18 =>
 ∃ cs19 : List Value, List.length cs19 = 2 ∧ Cells w17 (Addr.add (Addr.add a18 (Int.toNat 0 * 3)) 0) cs19 ∧
 0 ≤ (0 : Int) ∧ (0 : Int) < ((y13n : Nat) : Int) ∧ optK y13 fun a20 =>
 ∃ cs21 : List Value, List.length cs21 = 2 ∧ Cells w17 (Addr.add (Addr.add a20 (Int.toNat 0 * 3)) 0) cs21 ∧
 Calls Tryd.prog 62 #[(.agg (List.toArray cs19)), (.agg (List.toArray cs21))] w17 fun e22 w23 => ∃ x24 : Int, e22 = .returned (.int .i64 x24) ∧
 J16 x24 w23)
 else
 (J16 (-1) w15))))) ∧
 (∀ (w25 : World) (c26 : Int), J16 c26 w25 →
 ∀ w27 : World, w27 = World.alloc w25 (.cells (zc Tryd.prog 65).toArray 65) →
 ∃ J28 : Option Addr → Nat → Nat → World → Prop,
 ((bif (decide (c26 ≤ 0)) then
 (∀ w29 : World, w29 = World.drew w27 →
 0 ≤ (0 : Int) ∧ (0 : Int) < ((x12n : Nat) : Int) ∧ optK x12 fun a30 =>
 ∃ cs31 : List Value, List.length cs31 = 2 ∧ Cells w29 (Addr.add (Addr.add a30 (Int.toNat 0 * 3)) 0) cs31 ∧
 0 ≤ (0 : Int) ∧ (0 : Int) < ((x12n : Nat) : Int) ∧ optK x12 fun a32 =>
 ∃ x33 : Int, World.cell? w29 (Addr.add (Addr.add a32 (Int.toNat 0 * 3)) 2) = some (.int .i64 x33) ∧
 ∃ cs34, fillL (.fields [(0, 1), (1, 1)]) (zc Tryd.prog 45) [(0, (.bool true)), (1, (.int .i64 x33))] = some cs34 ∧
 Array.size (List.toArray cs31) = 2 ∧ (∀ u ∈ Array.toList (List.toArray cs31), one u = true) ∧ Room w29 (Addr.add ⟨World.heap w25 |>.size, 0, none⟩ 0) 2 ∧
 ∀ w35 : World, w35 = setCells w29 (Addr.add ⟨World.heap w25 |>.size, 0, none⟩ 0) (Array.toList (List.toArray cs31)) 0 →
 (∃ z36 : Int, World.cell? w35 (Addr.add (Addr.add a32 (Int.toNat 0 * 3)) 2) = some (.int .i64 z36) ∧
 (((.int .i64 z36) : Value) = (.int .i64 x33) ∧ w35 = w35)) ∧
 Array.size (List.toArray cs34) = 2 ∧ (∀ u ∈ Array.toList (List.toArray cs34), one u = true) ∧ Room w35 (Addr.add ⟨World.heap w25 |>.size, 0, none⟩ 2) 2 ∧
 ∀ w37 : World, w37 = setCells w35 (Addr.add ⟨World.heap w25 |>.size, 0, none⟩ 2) (Array.toList (List.toArray cs34)) 0 →
 0 ≤ (1 : Int) ∧ (1 : Int) ≤ ((x12n : Nat) : Int) ∧ J28 (if x12c = (Int.toNat 1) then x12 else Option.map (fun y => Addr.add y ((Int.toNat 1) * 3)) x12) (x12n - (Int.toNat 1)) (x12c - (Int.toNat 1)) w37)
 else
 (J28 x12 x12n x12c w27))) ∧
 (∀ (w38 : World) (x39 : Option Addr) (x39n : Nat) (x39c : Nat), J28 x39 x39n x39c w38 →
 ∃ J40 : Option Addr → Nat → Nat → World → Prop,
 ((bif (decide (0 ≤ c26)) then
 (∀ w41 : World, w41 = World.drew w38 →
 0 ≤ (0 : Int) ∧ (0 : Int) < ((y13n : Nat) : Int) ∧ optK y13 fun a42 =>
 ∃ cs43 : List Value, List.length cs43 = 2 ∧ Cells w41 (Addr.add (Addr.add a42 (Int.toNat 0 * 3)) 0) cs43 ∧
 0 ≤ (0 : Int) ∧ (0 : Int) < ((y13n : Nat) : Int) ∧ optK y13 fun a44 =>
 ∃ x45 : Int, World.cell? w41 (Addr.add (Addr.add a44 (Int.toNat 0 * 3)) 2) = some (.int .i64 x45) ∧
 ∃ cs46, fillL (.fields [(0, 1), (1, 1)]) (zc Tryd.prog 45) [(0, (.bool true)), (1, (.int .i64 x45))] = some cs46 ∧
 Array.size (List.toArray cs43) = 2 ∧ (∀ u ∈ Array.toList (List.toArray cs43), one u = true) ∧ Room w41 (Addr.add ⟨World.heap w25 |>.size, 0, none⟩ 0) 2 ∧
 ∀ w47 : World, w47 = setCells w41 (Addr.add ⟨World.heap w25 |>.size, 0, none⟩ 0) (Array.toList (List.toArray cs43)) 0 →
 (∃ z48 : Int, World.cell? w47 (Addr.add (Addr.add a44 (Int.toNat 0 * 3)) 2) = some (.int .i64 z48) ∧
 (((.int .i64 z48) : Value) = (.int .i64 x45) ∧ w47 = w47)) ∧
 Array.size (List.toArray cs46) = 2 ∧ (∀ u ∈ Array.toList (List.toArray cs46), one u = true) ∧ Room w47 (Addr.add ⟨World.heap w25 |>.size, 0, none⟩ 4) 2 ∧
 ∀ w49 : World, w49 = setCells w47 (Addr.add ⟨World.heap w25 |>.size, 0, none⟩ 4) (Array.toList (List.toArray cs46)) 0 →
 0 ≤ (1 : Int) ∧ (1 : Int) ≤ ((y13n : Nat) : Int) ∧ J40 (if y13c = (Int.toNat 1) then y13 else Option.map (fun y => Addr.add y ((Int.toNat 1) * 3)) y13) (y13n - (Int.toNat 1)) (y13c - (Int.toNat 1)) w49)
 else
 (J40 y13 y13n y13c w38))) ∧
 (∀ (w50 : World) (y51 : Option Addr) (y51n : Nat) (y51c : Nat), J40 y51 y51n y51c w50 →
 ∃ cs52 : List Value, List.length cs52 = 2 ∧ Cells w50 (Addr.add ⟨World.heap w25 |>.size, 0, none⟩ 2) cs52 ∧
 ∃ cs53 : List Value, List.length cs53 = 2 ∧ Cells w50 (Addr.add ⟨World.heap w25 |>.size, 0, none⟩ 4) cs53 ∧
 ∃ q54 : Bool, Sem.run Tryd.prog (do eqGuard .neq 45 (.tmp 70) (.tmp 72) (.agg (List.toArray cs52)) (.agg (List.toArray cs53)); binOp .neq 45 (.agg (List.toArray cs52)) (.agg (List.toArray cs53))) w50 = .ok (.bool q54) w50 ∧
 (bif q54 then
 (∃ cs55 : List Value, List.length cs55 = 6 ∧ Cells w50 ⟨World.heap w25 |>.size, 0, none⟩ cs55 ∧
 ∃ cs56, fillL (.elems 6) (zrep (zc Tryd.prog 65) (1 * 6)) [(0, (.agg (List.toArray cs55)))] = some cs56 ∧
 ∀ w57 : World, w57 = World.alloc w50 (.cells (List.toArray cs56) 65) →
 RunV Tryd.prog (Builtin.append_ #[60, 60] 60 #[(.slice l11 l11n l11c), (.slice (some ⟨World.heap w50 |>.size, 0, none⟩) 1 1)]) w57 fun v58 w59 => ∃ (x60 : Option Addr) (x60n : Nat) (x60c : Nat), v58 = (.slice x60 x60n x60c) ∧
 ∃ m61, m61 < m9 ∧ I8 m61 x60 x60n x60c x39 x39n x39c y51 y51n y51c w59)
 else
 (∃ m62, m62 < m9 ∧ I8 m62 l11 l11n l11c x39 x39n x39c y51 y51n y51c w50)))))))
theorem e25 (a0 : Option Addr) (b1 : Option Addr) (w : World) (R : Ending → World → Prop) : denS Tryd.prog s25 (argsEnv 0 [(.pointer a0), (.pointer b1)]) w (endK r25 R) = d25 a0 b1 w R := by kernel_rfl
theorem c25 (a0 : Option Addr) (b1 : Option Addr) {w : World} {R : Ending → World → Prop} (h : d25 a0 b1 w R) : Calls Tryd.prog 25 #[(.pointer a0), (.pointer b1)] w R :=
  den25 [(.pointer a0), (.pointer b1)] w R (by simp) ((e25 a0 b1 w R).symm ▸ h)

/-- (*prelude/proof.Tree).grow -/
def s61 : S := (.seq (.ops [⟨(some 6), (.mv (.const .nilIface)), .any, none⟩] [1, 0, 2])
 (.seq (.seq (.ops [⟨(some 11), (.mv (.tmp 1)), .sl, none⟩,
  ⟨(some 12), (.len (.tmp 11)), (.int .i64), none⟩,
  ⟨(some 13), (.bin .eql (.tmp 12) (.const (.int .i64 1))), .bool, none⟩] [13, 1, 0, 2])
 (.cond (.tmp 13)
 (.seq (.draw (.take 0 ⟨(some 14), (.mv (.tmp 1)), .sl, none⟩
  (.take 1 ⟨(some 15), (.ia 3 (.tmp 14) (.const (.int .i64 0))), .ptr, none⟩
  (.take 2 ⟨(some 16), (.ldN 3 (.tmp 15)), .agg, none⟩
  (.take 3 ⟨(some 17), (.mv (.tmp 1)), .sl, none⟩
  (.take 4 ⟨(some 18), (.ia 3 (.tmp 17) (.const (.int .i64 0))), .ptr, none⟩
  (.take 5 ⟨(some 19), (.ldN 3 (.tmp 18)), .agg, none⟩
  (.go 6 ⟨(some 20), (.call 51 [(.tmp 19)] [.agg]), .agg, none⟩ [(2, ⟨(some 16), (.ldN 3 (.tmp 15)), .agg, none⟩)]
  (.take 7 ⟨(some 21), (.bld 148 (.fields [(0, 3), (3, 32)]) [(0, (.tmp 16)), (1, (.tmp 20))]), .agg, none⟩
  (.go 8 ⟨(some 22), (.box 148 (.tmp 21)), .ptr, none⟩ []
  (.take 9 ⟨(some 7), (.mv (.tmp 22)), .ptr, none⟩
  .done)))))))))) [0, 7])
 (.seq (.draw (.take 0 ⟨(some 23), (.mv (.tmp 0)), .ptr, none⟩
  (.take 1 ⟨(some 24), (.nc (.tmp 23)), .any, none⟩
  (.take 2 ⟨(some 25), (.fa 1 (.tmp 24)), .ptr, none⟩
  (.take 3 ⟨(some 26), (.ld1 (.tmp 25)), .mp, none⟩
  (.take 4 ⟨(some 27), (.mv (.tmp 7)), .ptr, none⟩
  (.take 5 ⟨(some 28), (.nc (.tmp 27)), .any, none⟩
  (.take 6 ⟨(some 29), (.fa 3 (.tmp 28)), .ptr, none⟩
  (.take 7 ⟨(some 30), (.ldN 32 (.tmp 29)), .agg, none⟩
  (.take 8 ⟨(some 31), (.mv (.tmp 7)), .ptr, none⟩
  (.take 9 ⟨(some 32), (.mkI 146 (.tmp 31)), .any, none⟩
  (.go 10 ⟨none, (.upd 113 (.tmp 26) (.tmp 30) (.tmp 32)), .any, none⟩ []
  .done))))))))))) [7])
 (.seq (.ops [⟨(some 33), (.mv (.tmp 7)), .ptr, none⟩,
  ⟨(some 34), (.mkI 146 (.tmp 33)), .any, none⟩,
  ⟨(some 6), (.mv (.tmp 34)), .any, none⟩] [6])
 .ret)))
 .skip))
 (.join [(8, .ptr)] [0, 1, 2]
 (.draw (.take 0 ⟨(some 35), (.mv (.tmp 2)), .sl, none⟩
  (.take 1 ⟨(some 36), (.ia 1 (.tmp 35) (.const (.int .i64 0))), .ptr, none⟩
  (.take 2 ⟨(some 37), (.ld1 (.tmp 36)), .sl, none⟩
  (.take 3 ⟨(some 38), (.mv (.tmp 2)), .sl, none⟩
  (.take 4 ⟨(some 39), (.mv (.tmp 2)), .sl, none⟩
  (.take 5 ⟨(some 40), (.len (.tmp 39)), (.int .i64), none⟩
  (.take 6 ⟨(some 41), (.bin .sub (.tmp 40) (.const (.int .i64 1))), (.int .i64), none⟩
  (.take 7 ⟨(some 42), (.ia 1 (.tmp 38) (.tmp 41)), .ptr, none⟩
  (.take 8 ⟨(some 43), (.ld1 (.tmp 42)), .sl, none⟩
  (.alt (.go 9 ⟨(some 44), (.call 76 [(.tmp 37), (.tmp 43)] [(.int .i64)]), (.int .i64), none⟩ []
  (.go 10 ⟨(some 8), (.alloc 3), .ptr, none⟩ []
  (.go 11 ⟨none, (.st1 (.tmp 8) (.tmp 44)), .any, none⟩ []
  .done)))
 (.go 10 ⟨(some 8), (.alloc 3), .ptr, none⟩ [(8, ⟨(some 43), (.ld1 (.tmp 42)), .sl, none⟩), (2, ⟨(some 37), (.ld1 (.tmp 36)), .sl, none⟩)]
  (.go 9 ⟨(some 44), (.call 76 [(.tmp 37), (.tmp 43)] [(.int .i64)]), (.int .i64), none⟩ []
  (.go 11 ⟨none, (.st1 (.tmp 8) (.tmp 44)), .any, none⟩ []
  .done))))))))))))) [2, 8, 0, 1])
 (.seq (.ops [⟨(some 45), (.mv (.tmp 2)), .sl, none⟩,
  ⟨(some 46), (.mkF (.func 78) [] [(.tmp 8)]), .any, none⟩,
  ⟨(some 47), (.call 77 [(.tmp 45), (.tmp 46)] [(.int .i64)]), (.int .i64), none⟩,
  ⟨(some 9), (.mv (.tmp 47)), (.int .i64), none⟩] [8, 0, 1, 9, 2])
 (.seq (.draw (.take 0 ⟨(some 48), (.ld1 (.tmp 8)), (.int .i64), none⟩
  (.take 1 ⟨(some 49), (.mv (.tmp 0)), .ptr, none⟩
  (.take 2 ⟨(some 50), (.mv (.tmp 1)), .sl, none⟩
  (.take 3 ⟨(some 51), (.mv (.tmp 9)), (.int .i64), none⟩
  (.take 4 ⟨(some 52), (.slS 3 (.tmp 50) none (some (.tmp 51)) none), .sl, none⟩
  (.take 5 ⟨(some 53), (.mv (.tmp 2)), .sl, none⟩
  (.take 6 ⟨(some 54), (.mv (.tmp 9)), (.int .i64), none⟩
  (.take 7 ⟨(some 55), (.slS 1 (.tmp 53) none (some (.tmp 54)) none), .sl, none⟩
  (.take 9 ⟨(some 57), (.mv (.tmp 0)), .ptr, none⟩
  (.take 10 ⟨(some 58), (.mv (.tmp 1)), .sl, none⟩
  (.take 11 ⟨(some 59), (.mv (.tmp 9)), (.int .i64), none⟩
  (.take 12 ⟨(some 60), (.slS 3 (.tmp 58) (some (.tmp 59)) none none), .sl, none⟩
  (.take 13 ⟨(some 61), (.mv (.tmp 2)), .sl, none⟩
  (.take 14 ⟨(some 62), (.mv (.tmp 9)), (.int .i64), none⟩
  (.take 15 ⟨(some 63), (.slS 1 (.tmp 61) (some (.tmp 62)) none none), .sl, none⟩
  (.go 8 ⟨(some 56), (.call 61 [(.tmp 49), (.tmp 52), (.tmp 55)] [.any]), .any, none⟩ [(0, ⟨(some 48), (.ld1 (.tmp 8)), (.int .i64), none⟩)]
  (.go 16 ⟨(some 64), (.call 61 [(.tmp 57), (.tmp 60), (.tmp 63)] [.any]), .any, none⟩ [(0, ⟨(some 48), (.ld1 (.tmp 8)), (.int .i64), none⟩)]
  (.take 17 ⟨(some 65), (.bld 153 (.fields [(0, 1), (1, 1), (2, 1), (3, 32)]) [(0, (.tmp 48)), (1, (.tmp 56)), (2, (.tmp 64))]), .agg, none⟩
  (.go 18 ⟨(some 66), (.box 153 (.tmp 65)), .ptr, none⟩ []
  (.take 19 ⟨(some 10), (.mv (.tmp 66)), .ptr, none⟩
  .done)))))))))))))))))))) [10, 8, 0])
 (.seq (.draw (.take 0 ⟨(some 67), (.mv (.tmp 10)), .ptr, none⟩
  (.take 1 ⟨(some 68), (.ld1 (.tmp 8)), (.int .i64), none⟩
  (.take 2 ⟨(some 69), (.mv (.tmp 10)), .ptr, none⟩
  (.take 3 ⟨(some 70), (.nc (.tmp 69)), .any, none⟩
  (.take 4 ⟨(some 71), (.fa 1 (.tmp 70)), .ptr, none⟩
  (.take 5 ⟨(some 72), (.ld1 (.tmp 71)), .any, none⟩
  (.take 7 ⟨(some 74), (.mv (.tmp 10)), .ptr, none⟩
  (.take 8 ⟨(some 75), (.nc (.tmp 74)), .any, none⟩
  (.take 9 ⟨(some 76), (.fa 2 (.tmp 75)), .ptr, none⟩
  (.take 10 ⟨(some 77), (.ld1 (.tmp 76)), .any, none⟩
  (.go 6 ⟨(some 73), (.inv (.tmp 72) "prelude/proof.digest" [] [.agg]), .agg, none⟩ [(10, ⟨(some 77), (.ld1 (.tmp 76)), .any, none⟩), (1, ⟨(some 68), (.ld1 (.tmp 8)), (.int .i64), none⟩)]
  (.go 11 ⟨(some 78), (.inv (.tmp 77) "prelude/proof.digest" [] [.agg]), .agg, none⟩ [(1, ⟨(some 68), (.ld1 (.tmp 8)), (.int .i64), none⟩)]
  (.go 12 ⟨(some 79), (.call 53 [(.tmp 68), (.tmp 73), (.tmp 78)] [.agg]), .agg, none⟩ []
  (.take 13 ⟨(some 80), (.nc (.tmp 67)), .any, none⟩
  (.take 14 ⟨(some 81), (.fa 3 (.tmp 80)), .ptr, none⟩
  (.go 15 ⟨none, (.stN 32 (.tmp 81) (.tmp 79)), .any, none⟩ []
  .done)))))))))))))))) [0, 10])
 (.seq (.draw (.take 0 ⟨(some 82), (.mv (.tmp 0)), .ptr, none⟩
  (.take 1 ⟨(some 83), (.nc (.tmp 82)), .any, none⟩
  (.take 2 ⟨(some 84), (.fa 1 (.tmp 83)), .ptr, none⟩
  (.take 3 ⟨(some 85), (.ld1 (.tmp 84)), .mp, none⟩
  (.take 4 ⟨(some 86), (.mv (.tmp 10)), .ptr, none⟩
  (.take 5 ⟨(some 87), (.nc (.tmp 86)), .any, none⟩
  (.take 6 ⟨(some 88), (.fa 3 (.tmp 87)), .ptr, none⟩
  (.take 7 ⟨(some 89), (.ldN 32 (.tmp 88)), .agg, none⟩
  (.take 8 ⟨(some 90), (.mv (.tmp 10)), .ptr, none⟩
  (.take 9 ⟨(some 91), (.mkI 151 (.tmp 90)), .any, none⟩
  (.go 10 ⟨none, (.upd 113 (.tmp 85) (.tmp 89) (.tmp 91)), .any, none⟩ []
  .done))))))))))) [10])
 (.seq (.ops [⟨(some 92), (.mv (.tmp 10)), .ptr, none⟩,
  ⟨(some 93), (.mkI 151 (.tmp 92)), .any, none⟩,
  ⟨(some 6), (.mv (.tmp 93)), .any, none⟩] [6])
 .ret))))))))
def r61 : List Res := [.t 6]
theorem tr61 : trS Tryd.prog [] 94 (Tryd.f61.body.getD .skip) s61 = some s61 := by kernel_rfl
theorem den61 (args : List Value) (w : World) (R : Ending → World → Prop) (hn : args.length ≤ 94) (h : denS Tryd.prog s61 (argsEnv 0 args) w (endK r61 R)) : Calls Tryd.prog 61 args.toArray w R :=
  calls_of_den (pn := []) (fn := Tryd.f61) (c := Tryd.f61.body.getD .skip) Tryd.func61 (by kernel_rfl) (by rw [Tryd.ntmps61]; exact hn) (by rw [Tryd.ntmps61]; exact tr61) (by kernel_rfl) h
def d61 (t0 : Option Addr) (rows1 : Option Addr) (rows1n : Nat) (rows1c : Nat) (forms2 : Option Addr) (forms2n : Nat) (forms2c : Nat) (w : World) (R : Ending → World → Prop) : Prop :=
 (bif (decide (((rows1n : Nat) : Int) = 1)) then
 (∀ w3 : World, w3 = World.drew w →
 0 ≤ (0 : Int) ∧ (0 : Int) < ((rows1n : Nat) : Int) ∧ optK rows1 fun a4 =>
 ∃ cs5 : List Value, List.length cs5 = 3 ∧ Cells w3 (Addr.add a4 (Int.toNat 0 * 3)) cs5 ∧
 0 ≤ (0 : Int) ∧ (0 : Int) < ((rows1n : Nat) : Int) ∧ optK rows1 fun a6 =>
 ∃ cs7 : List Value, List.length cs7 = 3 ∧ Cells w3 (Addr.add a6 (Int.toNat 0 * 3)) cs7 ∧
 Calls Tryd.prog 51 #[(.agg (List.toArray cs7))] w3 fun e8 w9 => ∃ x10 : Array Value, e8 = .returned (.agg x10) ∧
 (∃ cs11 : List Value, List.length cs11 = 3 ∧ Cells w9 (Addr.add a4 (Int.toNat 0 * 3)) cs11 ∧
 (((.agg (List.toArray cs11)) : Value) = (.agg (List.toArray cs5)) ∧ w9 = w9)) ∧
 ∃ cs12, fillL (.fields [(0, 3), (3, 32)]) (zc Tryd.prog 148) [(0, (.agg (List.toArray cs5))), (1, (.agg x10))] = some cs12 ∧
 ∀ w13 : World, w13 = World.alloc w9 (.cells (List.toArray cs12) 148) →
 ∀ w14 : World, w14 = World.drew w13 →
 optK t0 fun a15 =>
 ∃ x16 : Option Nat, World.cell? w14 (Addr.add a15 1) = some (.map x16) ∧
 ∃ cs17 : List Value, List.length cs17 = 32 ∧ Cells w14 (Addr.add ⟨World.heap w9 |>.size, 0, none⟩ 3) cs17 ∧
 RunU Tryd.prog (Instr.mapUpdate 113 (.map x16) (.agg (List.toArray cs17)) (.iface 146 (.pointer (some ⟨World.heap w9 |>.size, 0, none⟩)))) w14 fun w18 =>
 R (.returned (.iface 146 (.pointer (some ⟨World.heap w9 |>.size, 0, none⟩)))) w18)
 else
 (∃ J19 : Option Addr → World → Prop,
 (∀ w20 : World, w20 = World.drew w →
 0 ≤ (0 : Int) ∧ (0 : Int) < ((forms2n : Nat) : Int) ∧ optK forms2 fun a21 =>
 ∃ (x22 : Option Addr) (x22n : Nat) (x22c : Nat), World.cell? w20 (Addr.add a21 (Int.toNat 0 * 1)) = some (.slice x22 x22n x22c) ∧
 0 ≤ (IntKind.wrap .i64 (((forms2n : Nat) : Int) - 1)) ∧ (IntKind.wrap .i64 (((forms2n : Nat) : Int) - 1)) < ((forms2n : Nat) : Int) ∧ optK forms2 fun a23 =>
 ∃ (x24 : Option Addr) (x24n : Nat) (x24c : Nat), World.cell? w20 (Addr.add a23 (Int.toNat (IntKind.wrap .i64 (((forms2n : Nat) : Int) - 1)) * 1)) = some (.slice x24 x24n x24c) ∧
 (Calls Tryd.prog 76 #[(.slice x22 x22n x22c), (.slice x24 x24n x24c)] w20 fun e25 w26 => ∃ x27 : Int, e25 = .returned (.int .i64 x27) ∧
 ∀ w28 : World, w28 = World.alloc w26 (.cells (zc Tryd.prog 3).toArray 3) →
 one (.int .i64 x27) = true ∧ Option.isSome (World.cell? w28 ⟨World.heap w26 |>.size, 0, none⟩) = true ∧ World.frozen? w28 ⟨World.heap w26 |>.size, 0, none⟩ = false ∧
 ∀ w29 : World, w29 = World.setCell w28 ⟨World.heap w26 |>.size, 0, none⟩ (.int .i64 x27) →
 J19 (some ⟨World.heap w26 |>.size, 0, none⟩) w29) ∧
 (∀ w30 : World, w30 = World.alloc w20 (.cells (zc Tryd.prog 3).toArray 3) →
 (∃ (z31 : Option Addr) (z31n : Nat) (z31c : Nat), World.cell? w30 (Addr.add a23 (Int.toNat (IntKind.wrap .i64 (((forms2n : Nat) : Int) - 1)) * 1)) = some (.slice z31 z31n z31c) ∧
 (((.slice z31 z31n z31c) : Value) = (.slice x24 x24n x24c) ∧ w30 = w30)) ∧
 (∃ (z32 : Option Addr) (z32n : Nat) (z32c : Nat), World.cell? w30 (Addr.add a21 (Int.toNat 0 * 1)) = some (.slice z32 z32n z32c) ∧
 (((.slice z32 z32n z32c) : Value) = (.slice x22 x22n x22c) ∧ w30 = w30)) ∧
 Calls Tryd.prog 76 #[(.slice x22 x22n x22c), (.slice x24 x24n x24c)] w30 fun e33 w34 => ∃ x35 : Int, e33 = .returned (.int .i64 x35) ∧
 one (.int .i64 x35) = true ∧ Option.isSome (World.cell? w34 ⟨World.heap w20 |>.size, 0, none⟩) = true ∧ World.frozen? w34 ⟨World.heap w20 |>.size, 0, none⟩ = false ∧
 ∀ w36 : World, w36 = World.setCell w34 ⟨World.heap w20 |>.size, 0, none⟩ (.int .i64 x35) →
 J19 (some ⟨World.heap w20 |>.size, 0, none⟩) w36)) ∧
 (∀ (w37 : World) (n38 : Option Addr), J19 n38 w37 →
 Calls Tryd.prog 77 #[(.slice forms2 forms2n forms2c), (Value.func (.func 78) #[] #[(.pointer n38)])] w37 fun e39 w40 => ∃ x41 : Int, e39 = .returned (.int .i64 x41) ∧
 ∀ w42 : World, w42 = World.drew w40 →
 optK n38 fun a43 =>
 ∃ x44 : Int, World.cell? w42 a43 = some (.int .i64 x44) ∧
 0 ≤ x41 ∧ x41 ≤ ((rows1c : Nat) : Int) ∧ 0 ≤ x41 ∧ x41 ≤ ((forms2c : Nat) : Int) ∧ 0 ≤ x41 ∧ x41 ≤ ((rows1n : Nat) : Int) ∧ 0 ≤ x41 ∧ x41 ≤ ((forms2n : Nat) : Int) ∧ Calls Tryd.prog 61 #[(.pointer t0), (.slice (if rows1c = 0 then rows1 else Option.map (fun y => Addr.add y (0 * 3)) rows1) ((Int.toNat x41) - 0) (rows1c - 0)), (.slice (if forms2c = 0 then forms2 else Option.map (fun y => Addr.add y (0 * 1)) forms2) ((Int.toNat x41) - 0) (forms2c - 0))] w42 fun e45 w46 => ∃ x47 : Value, e45 = .returned x47 ∧
 (optK n38 fun a48 =>
 ∃ z49 : Int, World.cell? w46 a48 = some (.int .i64 z49) ∧
 (((.int .i64 z49) : Value) = (.int .i64 x44) ∧ w46 = w46)) ∧
 Calls Tryd.prog 61 #[(.pointer t0), (.slice (if rows1c = (Int.toNat x41) then rows1 else Option.map (fun y => Addr.add y ((Int.toNat x41) * 3)) rows1) (rows1n - (Int.toNat x41)) (rows1c - (Int.toNat x41))), (.slice (if forms2c = (Int.toNat x41) then forms2 else Option.map (fun y => Addr.add y ((Int.toNat x41) * 1)) forms2) (forms2n - (Int.toNat x41)) (forms2c - (Int.toNat x41)))] w46 fun e50 w51 => ∃ x52 : Value, e50 = .returned x52 ∧
 (optK n38 fun a53 =>
 ∃ z54 : Int, World.cell? w51 a53 = some (.int .i64 z54) ∧
 (((.int .i64 z54) : Value) = (.int .i64 x44) ∧ w51 = w51)) ∧
 ∃ cs55, fillL (.fields [(0, 1), (1, 1), (2, 1), (3, 32)]) (zc Tryd.prog 153) [(0, (.int .i64 x44)), (1, x47), (2, x52)] = some cs55 ∧
 ∀ w56 : World, w56 = World.alloc w51 (.cells (List.toArray cs55) 153) →
 ∀ w57 : World, w57 = World.drew w56 →
 optK n38 fun a58 =>
 ∃ x59 : Int, World.cell? w57 a58 = some (.int .i64 x59) ∧
 ∃ x60 : Value, World.cell? w57 (Addr.add ⟨World.heap w51 |>.size, 0, none⟩ 1) = some x60 ∧
 ∃ x61 : Value, World.cell? w57 (Addr.add ⟨World.heap w51 |>.size, 0, none⟩ 2) = some x61 ∧
 ∃ t62 v63 g64 r65, x60 = .iface t62 v63 ∧ Sem.run Tryd.prog (method (Tryd.prog.types.size + Made.depth) t62 v63 "prelude/proof.digest") w57 = .ok (g64, r65) w57 ∧ HasBody Tryd.prog g64 ∧
 Calls Tryd.prog g64 (#[r65] ++ #[]) w57 fun e66 w67 => ∃ x68 : Array Value, e66 = .returned (.agg x68) ∧
 (∃ z69 : Value, World.cell? w67 (Addr.add ⟨World.heap w51 |>.size, 0, none⟩ 2) = some z69 ∧
 ((z69 : Value) = x61 ∧ w67 = w67)) ∧
 (optK n38 fun a70 =>
 ∃ z71 : Int, World.cell? w67 a70 = some (.int .i64 z71) ∧
 (((.int .i64 z71) : Value) = (.int .i64 x59) ∧ w67 = w67)) ∧
 ∃ t72 v73 g74 r75, x61 = .iface t72 v73 ∧ Sem.run Tryd.prog (method (Tryd.prog.types.size + Made.depth) t72 v73 "prelude/proof.digest") w67 = .ok (g74, r75) w67 ∧ HasBody Tryd.prog g74 ∧
 Calls Tryd.prog g74 (#[r75] ++ #[]) w67 fun e76 w77 => ∃ x78 : Array Value, e76 = .returned (.agg x78) ∧
 (optK n38 fun a79 =>
 ∃ z80 : Int, World.cell? w77 a79 = some (.int .i64 z80) ∧
 (((.int .i64 z80) : Value) = (.int .i64 x59) ∧ w77 = w77)) ∧
 Calls Tryd.prog 53 #[(.int .i64 x59), (.agg x68), (.agg x78)] w77 fun e81 w82 => ∃ x83 : Array Value, e81 = .returned (.agg x83) ∧
 Array.size x83 = 32 ∧ (∀ u ∈ Array.toList x83, one u = true) ∧ Room w82 (Addr.add ⟨World.heap w51 |>.size, 0, none⟩ 3) 32 ∧
 ∀ w84 : World, w84 = setCells w82 (Addr.add ⟨World.heap w51 |>.size, 0, none⟩ 3) (Array.toList x83) 0 →
 ∀ w85 : World, w85 = World.drew w84 →
 optK t0 fun a86 =>
 ∃ x87 : Option Nat, World.cell? w85 (Addr.add a86 1) = some (.map x87) ∧
 ∃ cs88 : List Value, List.length cs88 = 32 ∧ Cells w85 (Addr.add ⟨World.heap w51 |>.size, 0, none⟩ 3) cs88 ∧
 RunU Tryd.prog (Instr.mapUpdate 113 (.map x87) (.agg (List.toArray cs88)) (.iface 151 (.pointer (some ⟨World.heap w51 |>.size, 0, none⟩)))) w85 fun w89 =>
 R (.returned (.iface 151 (.pointer (some ⟨World.heap w51 |>.size, 0, none⟩)))) w89)))
theorem e61 (t0 : Option Addr) (rows1 : Option Addr) (rows1n : Nat) (rows1c : Nat) (forms2 : Option Addr) (forms2n : Nat) (forms2c : Nat) (w : World) (R : Ending → World → Prop) : denS Tryd.prog s61 (argsEnv 0 [(.pointer t0), (.slice rows1 rows1n rows1c), (.slice forms2 forms2n forms2c)]) w (endK r61 R) = d61 t0 rows1 rows1n rows1c forms2 forms2n forms2c w R := by kernel_rfl
theorem c61 (t0 : Option Addr) (rows1 : Option Addr) (rows1n : Nat) (rows1c : Nat) (forms2 : Option Addr) (forms2n : Nat) (forms2c : Nat) {w : World} {R : Ending → World → Prop} (h : d61 t0 rows1 rows1n rows1c forms2 forms2n forms2c w R) : Calls Tryd.prog 61 #[(.pointer t0), (.slice rows1 rows1n rows1c), (.slice forms2 forms2n forms2c)] w R :=
  den61 [(.pointer t0), (.slice rows1 rows1n rows1c), (.slice forms2 forms2n forms2c)] w R (by simp) ((e61 t0 rows1 rows1n rows1c forms2 forms2n forms2c w R).symm ▸ h)

/-- prelude/proof.differ -/
def s76 : S := (.seq (.ops [⟨(some 4), (.mv (.const (.int .i64 0))), (.int .i64), none⟩] [0, 1])
 (.seq (.seq (.ops [⟨(some 7), (.mv (.tmp 0)), .sl, none⟩,
  ⟨(some 8), (.len (.tmp 7)), (.int .i64), none⟩,
  ⟨(some 9), (.mv (.const (.int .i64 0))), (.int .i64), none⟩] [9, 8, 0, 1])
 (.block 0
 (.loop [(9, (.int .i64))] [0, 1, 8]
 (.seq (.ops [⟨(some 10), (.bin .lss (.tmp 9) (.tmp 8)), .any, none⟩] [10, 9, 0, 1, 8])
 (.seq (.cond (.tmp 10)
 .skip
 (.exit 0))
 (.seq (.block 1
 (.seq (.ops [⟨(some 11), (.mv (.tmp 9)), (.int .i64), none⟩,
  ⟨(some 5), (.mv (.tmp 11)), (.int .i64), none⟩] [0, 5, 1, 9, 8])
 (.seq (.draw (.take 0 ⟨(some 12), (.mv (.tmp 0)), .sl, none⟩
  (.take 1 ⟨(some 13), (.mv (.tmp 5)), (.int .i64), none⟩
  (.take 2 ⟨(some 14), (.ia 1 (.tmp 12) (.tmp 13)), .ptr, none⟩
  (.take 3 ⟨(some 15), (.ld1 (.tmp 14)), (.int .u8), none⟩
  (.take 4 ⟨(some 16), (.mv (.tmp 1)), .sl, none⟩
  (.take 5 ⟨(some 17), (.mv (.tmp 5)), (.int .i64), none⟩
  (.take 6 ⟨(some 18), (.ia 1 (.tmp 16) (.tmp 17)), .ptr, none⟩
  (.take 7 ⟨(some 19), (.ld1 (.tmp 18)), (.int .u8), none⟩
  (.take 8 ⟨(some 20), (.bin .xor (.tmp 15) (.tmp 19)), (.int .u8), none⟩
  (.take 9 ⟨(some 6), (.mv (.tmp 20)), (.int .u8), none⟩
  .done)))))))))) [6, 5, 9, 8, 0, 1])
 (.seq (.ops [⟨(some 21), (.mv (.tmp 6)), (.int .u8), none⟩,
  ⟨(some 22), (.bin .neq (.tmp 21) (.const (.int .u8 0))), .bool, none⟩] [22, 5, 6, 9, 8, 0, 1])
 (.cond (.tmp 22)
 (.seq (.ops [⟨(some 23), (.mv (.tmp 5)), (.int .i64), none⟩,
  ⟨(some 24), (.bin .mul (.const (.int .i64 8)) (.tmp 23)), (.int .i64), none⟩,
  ⟨(some 25), (.mv (.tmp 6)), (.int .u8), none⟩,
  ⟨(some 26), (.call 89 [(.tmp 25)] [(.int .i64)]), (.int .i64), none⟩,
  ⟨(some 27), (.bin .add (.tmp 24) (.tmp 26)), (.int .i64), none⟩,
  ⟨(some 4), (.mv (.tmp 27)), (.int .i64), none⟩] [4])
 .ret)
 .skip)))))
 (.ops [⟨(some 28), (.bin .add (.tmp 9) (.const (.int .i64 1))), (.int .i64), none⟩,
  ⟨(some 9), (.mv (.tmp 28)), (.int .i64), none⟩] [9, 8, 0, 1])))))))
 (.seq (.ops [⟨(some 4), (.mv (.const (.int .i64 0))), (.int .i64), none⟩] [4])
 .ret)))
def r76 : List Res := [.t 4]
theorem tr76 : trS Tryd.prog [] 29 (Tryd.f76.body.getD .skip) s76 = some s76 := by kernel_rfl
theorem den76 (args : List Value) (w : World) (R : Ending → World → Prop) (hn : args.length ≤ 29) (h : denS Tryd.prog s76 (argsEnv 0 args) w (endK r76 R)) : Calls Tryd.prog 76 args.toArray w R :=
  calls_of_den (pn := []) (fn := Tryd.f76) (c := Tryd.f76.body.getD .skip) Tryd.func76 (by kernel_rfl) (by rw [Tryd.ntmps76]; exact hn) (by rw [Tryd.ntmps76]; exact tr76) (by kernel_rfl) h
def d76 (a0 : Option Addr) (a0n : Nat) (a0c : Nat) (b1 : Option Addr) (b1n : Nat) (b1c : Nat) (w : World) (R : Ending → World → Prop) : Prop :=
 ∃ I2 : Nat → Int → World → Prop,
 (∃ m, I2 m 0 w) ∧
 (∀ (m3 : Nat) (w4 : World) (x5 : Int), I2 m3 x5 w4 →
 (bif (decide (x5 < ((a0n : Nat) : Int))) then
 (∀ w6 : World, w6 = World.drew w4 →
 0 ≤ x5 ∧ x5 < ((a0n : Nat) : Int) ∧ optK a0 fun a7 =>
 ∃ x8 : Int, World.cell? w6 (Addr.add a7 (Int.toNat x5 * 1)) = some (.int .u8 x8) ∧
 0 ≤ x5 ∧ x5 < ((b1n : Nat) : Int) ∧ optK b1 fun a9 =>
 ∃ x10 : Int, World.cell? w6 (Addr.add a9 (Int.toNat x5 * 1)) = some (.int .u8 x10) ∧
 (bif (!decide ((bXor .u8 x8 x10) = 0)) then
 (Calls Tryd.prog 89 #[(.int .u8 (bXor .u8 x8 x10))] w6 fun e11 w12 => ∃ x13 : Int, e11 = .returned (.int .i64 x13) ∧
 R (.returned (.int .i64 (IntKind.wrap .i64 ((IntKind.wrap .i64 (8 * x5)) + x13)))) w12)
 else
 (∃ m14, m14 < m3 ∧ I2 m14 (IntKind.wrap .i64 (x5 + 1)) w6)))
 else
 (R (.returned (.int .i64 0)) w4)))
theorem e76 (a0 : Option Addr) (a0n : Nat) (a0c : Nat) (b1 : Option Addr) (b1n : Nat) (b1c : Nat) (w : World) (R : Ending → World → Prop) : denS Tryd.prog s76 (argsEnv 0 [(.slice a0 a0n a0c), (.slice b1 b1n b1c)]) w (endK r76 R) = d76 a0 a0n a0c b1 b1n b1c w R := by kernel_rfl
theorem c76 (a0 : Option Addr) (a0n : Nat) (a0c : Nat) (b1 : Option Addr) (b1n : Nat) (b1c : Nat) {w : World} {R : Ending → World → Prop} (h : d76 a0 a0n a0c b1 b1n b1c w R) : Calls Tryd.prog 76 #[(.slice a0 a0n a0c), (.slice b1 b1n b1c)] w R :=
  den76 [(.slice a0 a0n a0c), (.slice b1 b1n b1c)] w R (by simp) ((e76 a0 a0n a0c b1 b1n b1c w R).symm ▸ h)

/-- (*prelude/proof.Tree).grow$1 -/
def s78 : S := (.seq (.ops [⟨(some 3), (.mv (.const (.bool false))), .bool, none⟩] [0, 1])
 (.seq (.ops [⟨(some 4), (.mv (.tmp 0)), .sl, none⟩,
  ⟨(some 5), (.ld1 (.tmp 1)), (.int .i64), none⟩,
  ⟨(some 6), (.call 75 [(.tmp 4), (.tmp 5)] [(.int .u8)]), (.int .u8), none⟩,
  ⟨(some 7), (.bin .eql (.tmp 6) (.const (.int .u8 1))), .bool, none⟩,
  ⟨(some 3), (.mv (.tmp 7)), .bool, none⟩] [3])
 .ret))
def r78 : List Res := [.t 3]
theorem tr78 : trS Tryd.prog [] 8 (Tryd.f78.body.getD .skip) s78 = some s78 := by kernel_rfl
theorem den78 (args : List Value) (w : World) (R : Ending → World → Prop) (hn : args.length ≤ 8) (h : denS Tryd.prog s78 (argsEnv 0 args) w (endK r78 R)) : Calls Tryd.prog 78 args.toArray w R :=
  calls_of_den (pn := []) (fn := Tryd.f78) (c := Tryd.f78.body.getD .skip) Tryd.func78 (by kernel_rfl) (by rw [Tryd.ntmps78]; exact hn) (by rw [Tryd.ntmps78]; exact tr78) (by kernel_rfl) h
def d78 (b0 : Option Addr) (b0n : Nat) (b0c : Nat) (x1 : Option Addr) (w : World) (R : Ending → World → Prop) : Prop :=
 optK x1 fun a2 =>
 ∃ x3 : Int, World.cell? w a2 = some (.int .i64 x3) ∧
 Calls Tryd.prog 75 #[(.slice b0 b0n b0c), (.int .i64 x3)] w fun e4 w5 => ∃ x6 : Int, e4 = .returned (.int .u8 x6) ∧
 R (.returned (.bool (decide (x6 = 1)))) w5
theorem e78 (b0 : Option Addr) (b0n : Nat) (b0c : Nat) (x1 : Option Addr) (w : World) (R : Ending → World → Prop) : denS Tryd.prog s78 (argsEnv 0 [(.slice b0 b0n b0c), (.pointer x1)]) w (endK r78 R) = d78 b0 b0n b0c x1 w R := by kernel_rfl
theorem c78 (b0 : Option Addr) (b0n : Nat) (b0c : Nat) (x1 : Option Addr) {w : World} {R : Ending → World → Prop} (h : d78 b0 b0n b0c x1 w R) : Calls Tryd.prog 78 #[(.slice b0 b0n b0c), (.pointer x1)] w R :=
  den78 [(.slice b0 b0n b0c), (.pointer x1)] w R (by simp) ((e78 b0 b0n b0c x1 w R).symm ▸ h)

/-- (*prelude/proof.Tree).Rows -/
def s31 : S := (.seq (.ops [⟨(some 2), (.mv (.const (.slice none 0 0))), .sl, none⟩] [0])
 (.seq (.seq (.ops [⟨(some 3), (.mv (.tmp 0)), .ptr, none⟩,
  ⟨(some 4), (.nc (.tmp 3)), .any, none⟩,
  ⟨(some 5), (.fa 0 (.tmp 4)), .ptr, none⟩,
  ⟨(some 6), (.ld1 (.tmp 5)), .any, none⟩,
  ⟨(some 7), (.nilEq false 4 (.tmp 6)), .bool, none⟩] [7, 0])
 (.cond (.tmp 7)
 (.seq (.ops [⟨(some 2), (.mv (.const (.slice none 0 0))), .sl, none⟩] [2])
 .ret)
 .skip))
 (.seq (.ops [⟨(some 8), (.mv (.tmp 0)), .ptr, none⟩,
  ⟨(some 9), (.nc (.tmp 8)), .any, none⟩,
  ⟨(some 10), (.fa 0 (.tmp 9)), .ptr, none⟩,
  ⟨(some 11), (.ld1 (.tmp 10)), .any, none⟩,
  ⟨(some 12), (.inv (.tmp 11) "prelude/proof.rows" [(.const (.slice none 0 0))] [.sl]), .sl, none⟩,
  ⟨(some 2), (.mv (.tmp 12)), .sl, none⟩] [2])
 .ret)))
def r31 : List Res := [.t 2]
theorem tr31 : trS Tryd.prog [] 13 (Tryd.f31.body.getD .skip) s31 = some s31 := by kernel_rfl
theorem den31 (args : List Value) (w : World) (R : Ending → World → Prop) (hn : args.length ≤ 13) (h : denS Tryd.prog s31 (argsEnv 0 args) w (endK r31 R)) : Calls Tryd.prog 31 args.toArray w R :=
  calls_of_den (pn := []) (fn := Tryd.f31) (c := Tryd.f31.body.getD .skip) Tryd.func31 (by kernel_rfl) (by rw [Tryd.ntmps31]; exact hn) (by rw [Tryd.ntmps31]; exact tr31) (by kernel_rfl) h
def d31 (t0 : Option Addr) (w : World) (R : Ending → World → Prop) : Prop :=
 optK t0 fun a1 =>
 ∃ x2 : Value, World.cell? w (Addr.add a1 0) = some x2 ∧
 nilQ 4 x2 fun q3 => (bif q3 then
 (R (.returned (.slice none 0 0)) w)
 else
 (optK t0 fun a4 =>
 ∃ x5 : Value, World.cell? w (Addr.add a4 0) = some x5 ∧
 ∃ t6 v7 g8 r9, x5 = .iface t6 v7 ∧ Sem.run Tryd.prog (method (Tryd.prog.types.size + Made.depth) t6 v7 "prelude/proof.rows") w = .ok (g8, r9) w ∧ HasBody Tryd.prog g8 ∧
 Calls Tryd.prog g8 (#[r9] ++ #[(.slice none 0 0)]) w fun e10 w11 => ∃ (x12 : Option Addr) (x12n : Nat) (x12c : Nat), e10 = .returned (.slice x12 x12n x12c) ∧
 R (.returned (.slice x12 x12n x12c)) w11))
theorem e31 (t0 : Option Addr) (w : World) (R : Ending → World → Prop) : denS Tryd.prog s31 (argsEnv 0 [(.pointer t0)]) w (endK r31 R) = d31 t0 w R := by kernel_rfl
theorem c31 (t0 : Option Addr) {w : World} {R : Ending → World → Prop} (h : d31 t0 w R) : Calls Tryd.prog 31 #[(.pointer t0)] w R :=
  den31 [(.pointer t0)] w R (by simp) ((e31 t0 w R).symm ▸ h)

/-- (*prelude/proof.leaf).digest -/
def s109 : S := (.seq (.ops [⟨(some 2), (.alloc 24), .ptr, none⟩] [0, 2])
 (.seq (.ops [⟨(some 3), (.mv (.tmp 0)), .ptr, none⟩,
  ⟨(some 4), (.nc (.tmp 3)), .any, none⟩,
  ⟨(some 5), (.fa 3 (.tmp 4)), .ptr, none⟩,
  ⟨(some 6), (.ldN 32 (.tmp 5)), .agg, none⟩,
  ⟨none, (.stN 32 (.tmp 2) (.tmp 6)), .any, none⟩] [2])
 .ret))
def r109 : List Res := [.cN 2 32]
theorem tr109 : trS Tryd.prog [] 7 (Tryd.f109.body.getD .skip) s109 = some s109 := by kernel_rfl
theorem den109 (args : List Value) (w : World) (R : Ending → World → Prop) (hn : args.length ≤ 7) (h : denS Tryd.prog s109 (argsEnv 0 args) w (endK r109 R)) : Calls Tryd.prog 109 args.toArray w R :=
  calls_of_den (pn := []) (fn := Tryd.f109) (c := Tryd.f109.body.getD .skip) Tryd.func109 (by kernel_rfl) (by rw [Tryd.ntmps109]; exact hn) (by rw [Tryd.ntmps109]; exact tr109) (by kernel_rfl) h
def d109 (l0 : Option Addr) (w : World) (R : Ending → World → Prop) : Prop :=
 ∀ w1 : World, w1 = World.alloc w (.cells (zc Tryd.prog 24).toArray 24) →
 optK l0 fun a2 =>
 ∃ cs3 : List Value, List.length cs3 = 32 ∧ Cells w1 (Addr.add a2 3) cs3 ∧
 Array.size (List.toArray cs3) = 32 ∧ (∀ u ∈ Array.toList (List.toArray cs3), one u = true) ∧ Room w1 ⟨World.heap w |>.size, 0, none⟩ 32 ∧
 ∀ w4 : World, w4 = setCells w1 ⟨World.heap w |>.size, 0, none⟩ (Array.toList (List.toArray cs3)) 0 →
 ∃ cs5 : List Value, List.length cs5 = 32 ∧ Cells w4 ⟨World.heap w |>.size, 0, none⟩ cs5 ∧
 R (.returned (.agg (List.toArray cs5))) w4
theorem e109 (l0 : Option Addr) (w : World) (R : Ending → World → Prop) : denS Tryd.prog s109 (argsEnv 0 [(.pointer l0)]) w (endK r109 R) = d109 l0 w R := by kernel_rfl
theorem c109 (l0 : Option Addr) {w : World} {R : Ending → World → Prop} (h : d109 l0 w R) : Calls Tryd.prog 109 #[(.pointer l0)] w R :=
  den109 [(.pointer l0)] w R (by simp) ((e109 l0 w R).symm ▸ h)

/-- (*prelude/proof.leaf).rows -/
def s111 : S := (.seq (.ops [⟨(some 4), (.mv (.const (.slice none 0 0))), .sl, none⟩] [1, 0])
 (.seq (.ops [⟨(some 5), (.mv (.tmp 1)), .sl, none⟩,
  ⟨(some 6), (.mv (.tmp 0)), .ptr, none⟩,
  ⟨(some 7), (.nc (.tmp 6)), .any, none⟩,
  ⟨(some 8), (.fa 0 (.tmp 7)), .ptr, none⟩,
  ⟨(some 9), (.ldN 3 (.tmp 8)), .agg, none⟩,
  ⟨(some 10), (.bldS 31 1 3 [(0, (.tmp 9))]), .sl, none⟩,
  ⟨(some 11), (.app #[55, 55] 55 (.tmp 5) (.tmp 10)), .sl, none⟩,
  ⟨(some 4), (.mv (.tmp 11)), .sl, none⟩] [4])
 .ret))
def r111 : List Res := [.t 4]
theorem tr111 : trS Tryd.prog [] 12 (Tryd.f111.body.getD .skip) s111 = some s111 := by kernel_rfl
theorem den111 (args : List Value) (w : World) (R : Ending → World → Prop) (hn : args.length ≤ 12) (h : denS Tryd.prog s111 (argsEnv 0 args) w (endK r111 R)) : Calls Tryd.prog 111 args.toArray w R :=
  calls_of_den (pn := []) (fn := Tryd.f111) (c := Tryd.f111.body.getD .skip) Tryd.func111 (by kernel_rfl) (by rw [Tryd.ntmps111]; exact hn) (by rw [Tryd.ntmps111]; exact tr111) (by kernel_rfl) h
def d111 (l0 : Option Addr) (out1 : Option Addr) (out1n : Nat) (out1c : Nat) (w : World) (R : Ending → World → Prop) : Prop :=
 optK l0 fun a2 =>
 ∃ cs3 : List Value, List.length cs3 = 3 ∧ Cells w (Addr.add a2 0) cs3 ∧
 ∃ cs4, fillL (.elems 3) (zrep (zc Tryd.prog 31) (1 * 3)) [(0, (.agg (List.toArray cs3)))] = some cs4 ∧
 ∀ w5 : World, w5 = World.alloc w (.cells (List.toArray cs4) 31) →
 RunV Tryd.prog (Builtin.append_ #[55, 55] 55 #[(.slice out1 out1n out1c), (.slice (some ⟨World.heap w |>.size, 0, none⟩) 1 1)]) w5 fun v6 w7 => ∃ (x8 : Option Addr) (x8n : Nat) (x8c : Nat), v6 = (.slice x8 x8n x8c) ∧
 R (.returned (.slice x8 x8n x8c)) w7
theorem e111 (l0 : Option Addr) (out1 : Option Addr) (out1n : Nat) (out1c : Nat) (w : World) (R : Ending → World → Prop) : denS Tryd.prog s111 (argsEnv 0 [(.pointer l0), (.slice out1 out1n out1c)]) w (endK r111 R) = d111 l0 out1 out1n out1c w R := by kernel_rfl
theorem c111 (l0 : Option Addr) (out1 : Option Addr) (out1n : Nat) (out1c : Nat) {w : World} {R : Ending → World → Prop} (h : d111 l0 out1 out1n out1c w R) : Calls Tryd.prog 111 #[(.pointer l0), (.slice out1 out1n out1c)] w R :=
  den111 [(.pointer l0), (.slice out1 out1n out1c)] w R (by simp) ((e111 l0 out1 out1n out1c w R).symm ▸ h)

/-- (*prelude/proof.fork).digest -/
def s113 : S := (.seq (.ops [⟨(some 2), (.alloc 24), .ptr, none⟩] [0, 2])
 (.seq (.ops [⟨(some 3), (.mv (.tmp 0)), .ptr, none⟩,
  ⟨(some 4), (.nc (.tmp 3)), .any, none⟩,
  ⟨(some 5), (.fa 3 (.tmp 4)), .ptr, none⟩,
  ⟨(some 6), (.ldN 32 (.tmp 5)), .agg, none⟩,
  ⟨none, (.stN 32 (.tmp 2) (.tmp 6)), .any, none⟩] [2])
 .ret))
def r113 : List Res := [.cN 2 32]
theorem tr113 : trS Tryd.prog [] 7 (Tryd.f113.body.getD .skip) s113 = some s113 := by kernel_rfl
theorem den113 (args : List Value) (w : World) (R : Ending → World → Prop) (hn : args.length ≤ 7) (h : denS Tryd.prog s113 (argsEnv 0 args) w (endK r113 R)) : Calls Tryd.prog 113 args.toArray w R :=
  calls_of_den (pn := []) (fn := Tryd.f113) (c := Tryd.f113.body.getD .skip) Tryd.func113 (by kernel_rfl) (by rw [Tryd.ntmps113]; exact hn) (by rw [Tryd.ntmps113]; exact tr113) (by kernel_rfl) h
def d113 (f0 : Option Addr) (w : World) (R : Ending → World → Prop) : Prop :=
 ∀ w1 : World, w1 = World.alloc w (.cells (zc Tryd.prog 24).toArray 24) →
 optK f0 fun a2 =>
 ∃ cs3 : List Value, List.length cs3 = 32 ∧ Cells w1 (Addr.add a2 3) cs3 ∧
 Array.size (List.toArray cs3) = 32 ∧ (∀ u ∈ Array.toList (List.toArray cs3), one u = true) ∧ Room w1 ⟨World.heap w |>.size, 0, none⟩ 32 ∧
 ∀ w4 : World, w4 = setCells w1 ⟨World.heap w |>.size, 0, none⟩ (Array.toList (List.toArray cs3)) 0 →
 ∃ cs5 : List Value, List.length cs5 = 32 ∧ Cells w4 ⟨World.heap w |>.size, 0, none⟩ cs5 ∧
 R (.returned (.agg (List.toArray cs5))) w4
theorem e113 (f0 : Option Addr) (w : World) (R : Ending → World → Prop) : denS Tryd.prog s113 (argsEnv 0 [(.pointer f0)]) w (endK r113 R) = d113 f0 w R := by kernel_rfl
theorem c113 (f0 : Option Addr) {w : World} {R : Ending → World → Prop} (h : d113 f0 w R) : Calls Tryd.prog 113 #[(.pointer f0)] w R :=
  den113 [(.pointer f0)] w R (by simp) ((e113 f0 w R).symm ▸ h)

/-- (*prelude/proof.fork).rows -/
def s115 : S := (.seq (.ops [⟨(some 4), (.mv (.const (.slice none 0 0))), .sl, none⟩] [0, 1])
 (.seq (.draw (.take 0 ⟨(some 5), (.mv (.tmp 0)), .ptr, none⟩
  (.take 1 ⟨(some 6), (.nc (.tmp 5)), .any, none⟩
  (.take 2 ⟨(some 7), (.fa 2 (.tmp 6)), .ptr, none⟩
  (.take 3 ⟨(some 8), (.ld1 (.tmp 7)), .any, none⟩
  (.take 4 ⟨(some 9), (.mv (.tmp 0)), .ptr, none⟩
  (.take 5 ⟨(some 10), (.nc (.tmp 9)), .any, none⟩
  (.take 6 ⟨(some 11), (.fa 1 (.tmp 10)), .ptr, none⟩
  (.take 7 ⟨(some 12), (.ld1 (.tmp 11)), .any, none⟩
  (.take 8 ⟨(some 13), (.mv (.tmp 1)), .sl, none⟩
  (.take 10 ⟨(some 15), (.nc (.tmp 8)), .any, none⟩
  (.take 11 ⟨(some 16), (.mv (.tmp 8)), .any, none⟩
  (.go 9 ⟨(some 14), (.inv (.tmp 12) "prelude/proof.rows" [(.tmp 13)] [.sl]), .sl, none⟩ [(3, ⟨(some 8), (.ld1 (.tmp 7)), .any, none⟩)]
  (.go 12 ⟨(some 17), (.inv (.tmp 16) "prelude/proof.rows" [(.tmp 14)] [.sl]), .sl, none⟩ []
  (.take 13 ⟨(some 4), (.mv (.tmp 17)), .sl, none⟩
  .done)))))))))))))) [4])
 .ret))
def r115 : List Res := [.t 4]
theorem tr115 : trS Tryd.prog [] 18 (Tryd.f115.body.getD .skip) s115 = some s115 := by kernel_rfl
theorem den115 (args : List Value) (w : World) (R : Ending → World → Prop) (hn : args.length ≤ 18) (h : denS Tryd.prog s115 (argsEnv 0 args) w (endK r115 R)) : Calls Tryd.prog 115 args.toArray w R :=
  calls_of_den (pn := []) (fn := Tryd.f115) (c := Tryd.f115.body.getD .skip) Tryd.func115 (by kernel_rfl) (by rw [Tryd.ntmps115]; exact hn) (by rw [Tryd.ntmps115]; exact tr115) (by kernel_rfl) h
def d115 (f0 : Option Addr) (out1 : Option Addr) (out1n : Nat) (out1c : Nat) (w : World) (R : Ending → World → Prop) : Prop :=
 ∀ w2 : World, w2 = World.drew w →
 optK f0 fun a3 =>
 ∃ x4 : Value, World.cell? w2 (Addr.add a3 2) = some x4 ∧
 optK f0 fun a5 =>
 ∃ x6 : Value, World.cell? w2 (Addr.add a5 1) = some x6 ∧
 ncK x4 fun x7 => ∃ t8 v9 g10 r11, x6 = .iface t8 v9 ∧ Sem.run Tryd.prog (method (Tryd.prog.types.size + Made.depth) t8 v9 "prelude/proof.rows") w2 = .ok (g10, r11) w2 ∧ HasBody Tryd.prog g10 ∧
 Calls Tryd.prog g10 (#[r11] ++ #[(.slice out1 out1n out1c)]) w2 fun e12 w13 => ∃ (x14 : Option Addr) (x14n : Nat) (x14c : Nat), e12 = .returned (.slice x14 x14n x14c) ∧
 (∃ z15 : Value, World.cell? w13 (Addr.add a3 2) = some z15 ∧
 ((z15 : Value) = x4 ∧ w13 = w13)) ∧
 ∃ t16 v17 g18 r19, x4 = .iface t16 v17 ∧ Sem.run Tryd.prog (method (Tryd.prog.types.size + Made.depth) t16 v17 "prelude/proof.rows") w13 = .ok (g18, r19) w13 ∧ HasBody Tryd.prog g18 ∧
 Calls Tryd.prog g18 (#[r19] ++ #[(.slice x14 x14n x14c)]) w13 fun e20 w21 => ∃ (x22 : Option Addr) (x22n : Nat) (x22c : Nat), e20 = .returned (.slice x22 x22n x22c) ∧
 R (.returned (.slice x22 x22n x22c)) w21
theorem e115 (f0 : Option Addr) (out1 : Option Addr) (out1n : Nat) (out1c : Nat) (w : World) (R : Ending → World → Prop) : denS Tryd.prog s115 (argsEnv 0 [(.pointer f0), (.slice out1 out1n out1c)]) w (endK r115 R) = d115 f0 out1 out1n out1c w R := by kernel_rfl
theorem c115 (f0 : Option Addr) (out1 : Option Addr) (out1n : Nat) (out1c : Nat) {w : World} {R : Ending → World → Prop} (h : d115 f0 out1 out1n out1c w R) : Calls Tryd.prog 115 #[(.pointer f0), (.slice out1 out1n out1c)] w R :=
  den115 [(.pointer f0), (.slice out1 out1n out1c)] w R (by simp) ((e115 f0 out1 out1n out1c w R).symm ▸ h)

/-- slices.IndexFunc[[][]byte,[]byte] -/
def s77 : S := (.seq (.ops [⟨(some 4), (.mv (.const (.int .i64 0))), (.int .i64), none⟩] [0, 1])
 (.seq (.seq (.ops [⟨(some 6), (.mv (.tmp 0)), .sl, none⟩,
  ⟨(some 7), (.len (.tmp 6)), (.int .i64), none⟩,
  ⟨(some 8), (.mv (.const (.int .i64 0))), (.int .i64), none⟩] [8, 7, 1, 0])
 (.block 0
 (.loop [(8, (.int .i64))] [0, 1, 7]
 (.seq (.ops [⟨(some 9), (.bin .lss (.tmp 8) (.tmp 7)), .any, none⟩] [9, 8, 1, 0, 7])
 (.seq (.cond (.tmp 9)
 .skip
 (.exit 0))
 (.seq (.block 1
 (.seq (.ops [⟨(some 10), (.mv (.tmp 8)), (.int .i64), none⟩,
  ⟨(some 5), (.mv (.tmp 10)), (.int .i64), none⟩] [1, 0, 5, 8, 7])
 (.seq (.ops [⟨(some 11), (.mv (.tmp 1)), .any, none⟩,
  ⟨(some 12), (.mv (.tmp 0)), .sl, none⟩,
  ⟨(some 13), (.mv (.tmp 5)), (.int .i64), none⟩,
  ⟨(some 14), (.ia 1 (.tmp 12) (.tmp 13)), .ptr, none⟩,
  ⟨(some 15), (.ld1 (.tmp 14)), .sl, none⟩,
  ⟨(some 16), (.callv (.tmp 11) [(.tmp 15)] [.bool]), .bool, none⟩] [16, 5, 8, 7, 1, 0])
 (.cond (.tmp 16)
 (.seq (.ops [⟨(some 17), (.mv (.tmp 5)), (.int .i64), none⟩,
  ⟨(some 4), (.mv (.tmp 17)), (.int .i64), none⟩] [4])
 .ret)
 .skip))))
 (.ops [⟨(some 18), (.bin .add (.tmp 8) (.const (.int .i64 1))), (.int .i64), none⟩,
  ⟨(some 8), (.mv (.tmp 18)), (.int .i64), none⟩] [8, 7, 1, 0])))))))
 (.seq (.ops [⟨(some 4), (.mv (.const (.int .i64 (-1)))), (.int .i64), none⟩] [4])
 .ret)))
def r77 : List Res := [.t 4]
theorem tr77 : trS Tryd.prog [] 19 (Tryd.f77.body.getD .skip) s77 = some s77 := by kernel_rfl
theorem den77 (args : List Value) (w : World) (R : Ending → World → Prop) (hn : args.length ≤ 19) (h : denS Tryd.prog s77 (argsEnv 0 args) w (endK r77 R)) : Calls Tryd.prog 77 args.toArray w R :=
  calls_of_den (pn := []) (fn := Tryd.f77) (c := Tryd.f77.body.getD .skip) Tryd.func77 (by kernel_rfl) (by rw [Tryd.ntmps77]; exact hn) (by rw [Tryd.ntmps77]; exact tr77) (by kernel_rfl) h
def d77 (s0 : Option Addr) (s0n : Nat) (s0c : Nat) (f1 : Value) (w : World) (R : Ending → World → Prop) : Prop :=
 ∃ I2 : Nat → Int → World → Prop,
 (∃ m, I2 m 0 w) ∧
 (∀ (m3 : Nat) (w4 : World) (x5 : Int), I2 m3 x5 w4 →
 (bif (decide (x5 < ((s0n : Nat) : Int))) then
 (0 ≤ x5 ∧ x5 < ((s0n : Nat) : Int) ∧ optK s0 fun a6 =>
 ∃ (x7 : Option Addr) (x7n : Nat) (x7c : Nat), World.cell? w4 (Addr.add a6 (Int.toNat x5 * 1)) = some (.slice x7 x7n x7c) ∧
 fvK Tryd.prog f1 #[(.slice x7 x7n x7c)] w4 fun e8 w9 => ∃ x10 : Bool, e8 = .returned (.bool x10) ∧
 (bif x10 then
 (R (.returned (.int .i64 x5)) w9)
 else
 (∃ m11, m11 < m3 ∧ I2 m11 (IntKind.wrap .i64 (x5 + 1)) w9)))
 else
 (R (.returned (.int .i64 (-1))) w4)))
theorem e77 (s0 : Option Addr) (s0n : Nat) (s0c : Nat) (f1 : Value) (w : World) (R : Ending → World → Prop) : denS Tryd.prog s77 (argsEnv 0 [(.slice s0 s0n s0c), f1]) w (endK r77 R) = d77 s0 s0n s0c f1 w R := by kernel_rfl
theorem c77 (s0 : Option Addr) (s0n : Nat) (s0c : Nat) (f1 : Value) {w : World} {R : Ending → World → Prop} (h : d77 s0 s0n s0c f1 w R) : Calls Tryd.prog 77 #[(.slice s0 s0n s0c), f1] w R :=
  den77 [(.slice s0 s0n s0c), f1] w R (by simp) ((e77 s0 s0n s0c f1 w R).symm ▸ h)

/-- math/bits.LeadingZeros8 -/
def s89 : S := (.seq (.ops [⟨(some 2), (.mv (.const (.int .i64 0))), (.int .i64), none⟩] [0])
 (.seq (.ops [⟨(some 3), (.mv (.tmp 0)), (.int .u8), none⟩,
  ⟨(some 4), (.call 92 [(.tmp 3)] [(.int .i64)]), (.int .i64), none⟩,
  ⟨(some 5), (.bin .sub (.const (.int .i64 8)) (.tmp 4)), (.int .i64), none⟩,
  ⟨(some 2), (.mv (.tmp 5)), (.int .i64), none⟩] [2])
 .ret))
def r89 : List Res := [.t 2]
theorem tr89 : trS Tryd.prog [] 6 (Tryd.f89.body.getD .skip) s89 = some s89 := by kernel_rfl
theorem den89 (args : List Value) (w : World) (R : Ending → World → Prop) (hn : args.length ≤ 6) (h : denS Tryd.prog s89 (argsEnv 0 args) w (endK r89 R)) : Calls Tryd.prog 89 args.toArray w R :=
  calls_of_den (pn := []) (fn := Tryd.f89) (c := Tryd.f89.body.getD .skip) Tryd.func89 (by kernel_rfl) (by rw [Tryd.ntmps89]; exact hn) (by rw [Tryd.ntmps89]; exact tr89) (by kernel_rfl) h
def d89 (x0 : Int) (w : World) (R : Ending → World → Prop) : Prop :=
 Calls Tryd.prog 92 #[(.int .u8 x0)] w fun e1 w2 => ∃ x3 : Int, e1 = .returned (.int .i64 x3) ∧
 R (.returned (.int .i64 (IntKind.wrap .i64 (8 - x3)))) w2
theorem e89 (x0 : Int) (w : World) (R : Ending → World → Prop) : denS Tryd.prog s89 (argsEnv 0 [(.int .u8 x0)]) w (endK r89 R) = d89 x0 w R := by kernel_rfl
theorem c89 (x0 : Int) {w : World} {R : Ending → World → Prop} (h : d89 x0 w R) : Calls Tryd.prog 89 #[(.int .u8 x0)] w R :=
  den89 [(.int .u8 x0)] w R (by simp) ((e89 x0 w R).symm ▸ h)

/-- math/bits.Len8 -/
def s92 : S := (.seq (.ops [⟨(some 2), (.mv (.const (.int .i64 0))), (.int .i64), none⟩] [0])
 (.seq (.ops [⟨(some 3), (.mv (.tmp 0)), (.int .u8), none⟩,
  ⟨(some 4), (.ixS (.const (.string ⟨#[0, 1, 2, 2, 3, 3, 3, 3, 4, 4, 4, 4, 4, 4, 4, 4, 5, 5, 5, 5, 5, 5, 5, 5, 5, 5, 5, 5, 5, 5, 5, 5, 6, 6, 6, 6, 6, 6, 6, 6, 6, 6, 6, 6, 6, 6, 6, 6, 6, 6, 6, 6, 6, 6, 6, 6, 6, 6, 6, 6, 6, 6, 6, 6, 7, 7, 7, 7, 7, 7, 7, 7, 7, 7, 7, 7, 7, 7, 7, 7, 7, 7, 7, 7, 7, 7, 7, 7, 7, 7, 7, 7, 7, 7, 7, 7, 7, 7, 7, 7, 7, 7, 7, 7, 7, 7, 7, 7, 7, 7, 7, 7, 7, 7, 7, 7, 7, 7, 7, 7, 7, 7, 7, 7, 7, 7, 7, 7, 8, 8, 8, 8, 8, 8, 8, 8, 8, 8, 8, 8, 8, 8, 8, 8, 8, 8, 8, 8, 8, 8, 8, 8, 8, 8, 8, 8, 8, 8, 8, 8, 8, 8, 8, 8, 8, 8, 8, 8, 8, 8, 8, 8, 8, 8, 8, 8, 8, 8, 8, 8, 8, 8, 8, 8, 8, 8, 8, 8, 8, 8, 8, 8, 8, 8, 8, 8, 8, 8, 8, 8, 8, 8, 8, 8, 8, 8, 8, 8, 8, 8, 8, 8, 8, 8, 8, 8, 8, 8, 8, 8, 8, 8, 8, 8, 8, 8, 8, 8, 8, 8, 8, 8, 8, 8, 8, 8, 8, 8, 8, 8, 8, 8, 8, 8, 8, 8, 8, 8, 8, 8, 8, 8, 8, 8, 8, 8]⟩)) (.tmp 3)), (.int .u8), none⟩,
  ⟨(some 5), (.cv .i64 (.tmp 4)), (.int .i64), none⟩,
  ⟨(some 2), (.mv (.tmp 5)), (.int .i64), none⟩] [2])
 .ret))
def r92 : List Res := [.t 2]
theorem tr92 : trS Tryd.prog [] 6 (Tryd.f92.body.getD .skip) s92 = some s92 := by kernel_rfl
theorem den92 (args : List Value) (w : World) (R : Ending → World → Prop) (hn : args.length ≤ 6) (h : denS Tryd.prog s92 (argsEnv 0 args) w (endK r92 R)) : Calls Tryd.prog 92 args.toArray w R :=
  calls_of_den (pn := []) (fn := Tryd.f92) (c := Tryd.f92.body.getD .skip) Tryd.func92 (by kernel_rfl) (by rw [Tryd.ntmps92]; exact hn) (by rw [Tryd.ntmps92]; exact tr92) (by kernel_rfl) h
def d92 (x0 : Int) (w : World) (R : Ending → World → Prop) : Prop :=
 0 ≤ x0 ∧ ∃ c1, ((⟨#[0, 1, 2, 2, 3, 3, 3, 3, 4, 4, 4, 4, 4, 4, 4, 4, 5, 5, 5, 5, 5, 5, 5, 5, 5, 5, 5, 5, 5, 5, 5, 5, 6, 6, 6, 6, 6, 6, 6, 6, 6, 6, 6, 6, 6, 6, 6, 6, 6, 6, 6, 6, 6, 6, 6, 6, 6, 6, 6, 6, 6, 6, 6, 6, 7, 7, 7, 7, 7, 7, 7, 7, 7, 7, 7, 7, 7, 7, 7, 7, 7, 7, 7, 7, 7, 7, 7, 7, 7, 7, 7, 7, 7, 7, 7, 7, 7, 7, 7, 7, 7, 7, 7, 7, 7, 7, 7, 7, 7, 7, 7, 7, 7, 7, 7, 7, 7, 7, 7, 7, 7, 7, 7, 7, 7, 7, 7, 7, 8, 8, 8, 8, 8, 8, 8, 8, 8, 8, 8, 8, 8, 8, 8, 8, 8, 8, 8, 8, 8, 8, 8, 8, 8, 8, 8, 8, 8, 8, 8, 8, 8, 8, 8, 8, 8, 8, 8, 8, 8, 8, 8, 8, 8, 8, 8, 8, 8, 8, 8, 8, 8, 8, 8, 8, 8, 8, 8, 8, 8, 8, 8, 8, 8, 8, 8, 8, 8, 8, 8, 8, 8, 8, 8, 8, 8, 8, 8, 8, 8, 8, 8, 8, 8, 8, 8, 8, 8, 8, 8, 8, 8, 8, 8, 8, 8, 8, 8, 8, 8, 8, 8, 8, 8, 8, 8, 8, 8, 8, 8, 8, 8, 8, 8, 8, 8, 8, 8, 8, 8, 8, 8, 8, 8, 8, 8, 8]⟩ : ByteArray))[Int.toNat x0]? = some c1 ∧
 R (.returned (.int .i64 (IntKind.wrap .i64 ((UInt8.toNat c1 : Nat) : Int)))) w
theorem e92 (x0 : Int) (w : World) (R : Ending → World → Prop) : denS Tryd.prog s92 (argsEnv 0 [(.int .u8 x0)]) w (endK r92 R) = d92 x0 w R := by kernel_rfl
theorem c92 (x0 : Int) {w : World} {R : Ending → World → Prop} (h : d92 x0 w R) : Calls Tryd.prog 92 #[(.int .u8 x0)] w R :=
  den92 [(.int .u8 x0)] w R (by simp) ((e92 x0 w R).symm ▸ h)

end Go.Proofs.YtjkbjppopdfggaaDoor.Fn
namespace Go.Proofs.YtjkbjppopdfggaaDoor.Tre
open Go Den Fn Sha
open Go.RowKit (Below)
set_option maxRecDepth 8000
set_option maxHeartbeats 1000000
abbrev kw (x : Rw) : List Int := Sha.keyB x.t x.r
structure Rw.ok (x : Rw) : Prop where
  key : Sha.KeyOk x.t
  t : Sha.I64 x.t
  r : Sha.I64 x.r
  v : Sha.I64 x.v
abbrev rwC (x : Rw) : List Value := rowC x.t x.r x.v
theorem rwC_len {l : List Rw} : ∀ x ∈ l, (rwC x).length = 3 := fun _ _ => rfl
/-- Rows that a tree may stand over. -/
structure RowsOk (l : List Rw) : Prop where
  ok : ∀ x ∈ l, x.ok
  up : Up (keysOf l)
theorem RowsOk.take {l : List Rw} (h : RowsOk l) (k : Nat) : RowsOk (l.take k) := ⟨fun x hx => h.ok x (List.mem_of_mem_take hx), by rw [keysOf, List.map_take]; exact h.up.sublist (List.take_sublist _ _)⟩
theorem RowsOk.drop {l : List Rw} (h : RowsOk l) (k : Nat) : RowsOk (l.drop k) := ⟨fun x hx => h.ok x (List.mem_of_mem_drop hx), by rw [keysOf, List.map_drop]; exact h.up.sublist (List.drop_sublist _ _)⟩
/-- Where rows part: the bit. -/
def PartB (l : List Rw) (n : Nat) : Prop := ∃ x y, l[0]? = some x ∧ l[l.length - 1]? = some y ∧ Fst (kw x) (kw y) n ∧ bitS (kw x) n = 0 ∧ bitS (kw y) n = 1
theorem partB_ex {l : List Rw} (h : RowsOk l) (h2 : 2 ≤ l.length) : ∃ n, PartB l n := by
  have hx : l[0]? = some (l[0]'(by omega)) := List.getElem?_eq_getElem (by omega)
  have hy : l[l.length - 1]? = some (l[l.length - 1]'(by omega)) := List.getElem?_eq_getElem (by omega)
  have hlt : Lib.cmpK (l[0]'(by omega)).k (l[l.length - 1]'(by omega)).k < 0 := by
    have := List.pairwise_iff_getElem.1 h.up 0 (l.length - 1) (by simp; omega) (by simp; omega) (by omega)
    simpa using this
  have h1 := h.ok _ (List.getElem_mem (show 0 < l.length by omega))
  have h2' := h.ok _ (List.getElem_mem (show l.length - 1 < l.length by omega))
  obtain ⟨n, g1, g2, g3⟩ := key_bits (a := (l[0]'(by omega)).k) (b := (l[l.length - 1]'(by omega)).k) ⟨h1.key, h1.r⟩ ⟨h2'.key, h2'.r⟩ hlt
  exact ⟨n, _, _, hx, hy, g1, g2, g3⟩
theorem PartB.unique {l : List Rw} {n m : Nat} (h : PartB l n) (g : PartB l m) : n = m := by
  obtain ⟨x, y, h1, h2, h3, _⟩ := h
  obtain ⟨x', y', g1, g2, g3, _⟩ := g
  rw [h1] at g1; cases g1
  rw [h2] at g2; cases g2
  exact h3.unique g3
/-- The first of the upper ones. -/
def partAt (l : List Rw) (n : Nat) : Nat := l.findIdx fun x => decide (bitS (kw x) n = 1)
theorem PartB.at {l : List Rw} {n : Nat} (h : PartB l n) : 0 < partAt l n ∧ partAt l n < l.length ∧ n < 80 := by
  obtain ⟨x, y, h1, h2, h3, h4, h5⟩ := h
  have hlt : partAt l n < l.length := List.findIdx_lt_length_of_exists ⟨y, List.mem_of_getElem? h2, by simpa using h5⟩
  refine ⟨?_, hlt, h3.1⟩
  rcases Nat.eq_zero_or_pos (partAt l n) with h0 | h0
  · exfalso
    have := List.findIdx_getElem (p := fun x => decide (bitS (kw x) n = 1)) (w := hlt)
    have e : l[List.findIdx (fun x => decide (bitS (kw x) n = 1)) l]'hlt = x := by
      have : l[partAt l n]? = some x := by rw [h0]; exact h1
      rw [List.getElem?_eq_getElem hlt] at this
      exact Option.some.inj this
    rw [e, h4] at this
    simp at this
  · exact h0

/-! ### differ -/
theorem xor8 {x y : Nat} (hx : x < 256) (hy : y < 256) : bXor .u8 (x : Int) (y : Int) = ((x ^^^ y : Nat) : Int) := by
  have hz : x ^^^ y < 2 ^ 8 := Nat.xor_lt_two_pow (by omega) (by omega)
  unfold bXor
  have e : (BitVec.ofInt (IntKind.u8).bits (x : Int) ^^^ BitVec.ofInt (IntKind.u8).bits (y : Int)).toNat = x ^^^ y := by
    rw [BitVec.toNat_xor, BitVec.toNat_ofInt, BitVec.toNat_ofInt]
    have e1 : ((x : Int) % ((2 ^ (IntKind.u8).bits : Nat) : Int)).toNat = x := by
      show ((x : Int) % 256).toNat = x
      omega
    have e2 : ((y : Int) % ((2 ^ (IntKind.u8).bits : Nat) : Int)).toNat = y := by
      show ((y : Int) % 256).toNat = y
      omega
    rw [e1, e2]
  rw [e, wrap_u8_eq]
  omega
theorem xor_one {p q : Nat} (h : p / 2 = q / 2) (hne : p ≠ q) : p ^^^ q = 1 := by
  apply Nat.eq_of_testBit_eq
  intro i
  cases i with
  | zero =>
    rw [Nat.testBit_xor, Nat.testBit_zero, Nat.testBit_zero, Nat.testBit_zero]
    have h1 := Nat.mod_two_eq_zero_or_one p
    have h2 := Nat.mod_two_eq_zero_or_one q
    rcases h1 with h1 | h1 <;> rcases h2 with h2 | h2 <;> simp [h1, h2] <;> omega
  | succ i =>
    rw [Nat.testBit_xor, Nat.testBit_succ, Nat.testBit_succ, Nat.testBit_succ, h]
    simp
theorem xor_top {x y s : Nat} (h1 : x / 2 ^ s ≠ y / 2 ^ s) (h2 : x / 2 ^ (s + 1) = y / 2 ^ (s + 1)) : (x ^^^ y) / 2 ^ s = 1 := by
  rw [← Nat.shiftRight_eq_div_pow, Nat.shiftRight_xor_distrib, Nat.shiftRight_eq_div_pow, Nat.shiftRight_eq_div_pow]
  refine xor_one ?_ h1
  rw [Nat.pow_succ, ← Nat.div_div_eq_div_mul, ← Nat.div_div_eq_div_mul] at h2
  exact h2
theorem lz_c (z s : Nat) (hz : z < 256) (hs : s < 8) (h : z / 2 ^ s = 1) (w : World) : Calls Tryd.prog 89 #[.int .u8 z] w fun e w' => e = .returned (.int .i64 ((7 - s : Nat) : Int)) ∧ w' = w := by
  refine c89 _ ?_
  unfold d89
  refine c92 _ ?_
  unfold d92
  refine ⟨by omega, ?_⟩
  rw [Int.toNat_natCast]
  generalize hT : (⟨_⟩ : ByteArray) = T
  have key : ∀ m : Fin 256, ∀ s : Fin 8, m.val / 2 ^ s.val = 1 → T[m.val]? = some (UInt8.ofNat (s.val + 1)) := by
    subst hT
    decide +kernel
  have hk := key ⟨z, hz⟩ ⟨s, hs⟩ h
  refine ⟨_, hk, _, rfl, ?_, rfl⟩
  have e : (UInt8.ofNat (s + 1)).toNat = s + 1 := by
    rw [UInt8.toNat_ofNat']
    omega
  rw [e, wrap_i64 (n := ((s + 1 : Nat) : Int)) (by omega) (by omega), wrap_i64 (by omega) (by omega)]
  congr 2
  omega
theorem differ_c (w : World) (A B : List Int) (a b : Option Addr) (ac bc : Nat) (hA : RSl w 1 a 10 ac (u8 A)) (hB : RSl w 1 b 10 bc (u8 B)) (hbA : Bytes A) (hbB : Bytes B) (n : Nat) (hF : Fst A B n) :
    Calls Tryd.prog 76 #[.slice a 10 ac, .slice b 10 bc] w fun e w' => e = .returned (.int .i64 (n : Int)) ∧ Tch [] w w' := by
  refine c76 _ _ _ _ _ _ ?_
  unfold d76
  refine ⟨fun m x u => ∃ i : Nat, x = i ∧ i ≤ 10 ∧ m = 10 - i ∧ Tch [] w u ∧ ∀ j, j < i → A.getD j 0 = B.getD j 0, ⟨10, 0, rfl, by omega, rfl, Tch.refl _ _, by omega⟩, ?_⟩
  rintro m w4 x ⟨i, rfl, hi, rfl, ht, heq⟩
  by_cases hi10 : i < 10
  rotate_left
  · exfalso
    have : n / 8 < 10 := by have := hF.1; omega
    refine hF.2.1 ?_
    have e : n = 8 * (n / 8) + n % 8 := by omega
    rw [e, bit_nat hbA (by omega), bit_nat hbB (by omega), heq _ (by omega)]
  rw [bif_pos (by omega)]
  rintro w6 rfl
  replace ht := ht.drew
  generalize w4.drew = w6 at *
  refine ⟨by omega, by omega, ?_⟩
  rw [Int.toNat_natCast]
  obtain ⟨b1, o1, rfl, c1⟩ := (hA.tch ht (fun _ _ h => by cases h)).int (i := i) (by omega)
  refine ⟨A.getD i 0, by rw [add_mk, Nat.mul_one]; exact c1, by omega, by omega, ?_⟩
  obtain ⟨b2, o2, rfl, c2⟩ := (hB.tch ht (fun _ _ h => by cases h)).int (i := i) (by omega)
  refine ⟨B.getD i 0, by rw [add_mk, Nat.mul_one]; exact c2, ?_⟩
  have hx := Lib.byte_of hbA i
  have hy := Lib.byte_of hbB i
  have hxe : A.getD i 0 = (((A.getD i 0).toNat : Nat) : Int) := by omega
  have hye : B.getD i 0 = (((B.getD i 0).toNat : Nat) : Int) := by omega
  have hxor : bXor .u8 (A.getD i 0) (B.getD i 0) = (((A.getD i 0).toNat ^^^ (B.getD i 0).toNat : Nat) : Int) := by
    have h := xor8 (x := (A.getD i 0).toNat) (y := (B.getD i 0).toNat) (by omega) (by omega)
    rwa [← hxe, ← hye] at h
  rw [hxor]
  by_cases hne : (A.getD i 0).toNat = (B.getD i 0).toNat
  · rw [hne, Nat.xor_self, bif_npos (by rfl)]
    refine ⟨10 - (i + 1), by omega, i + 1, by rw [wrap_i64 (by omega) (by omega)]; omega, by omega, rfl, ht, fun j hj => ?_⟩
    by_cases e : j = i
    · subst e; omega
    · exact heq j (by omega)
  · obtain ⟨s, g1, g2, g3⟩ := top_diff (x := (A.getD i 0).toNat) (y := (B.getD i 0).toNat) (by omega) (by omega) hne
    have hz := xor_top g2 (g3 (s + 1) (by omega))
    have hz256 : (A.getD i 0).toNat ^^^ (B.getD i 0).toNat < 2 ^ 8 := Nat.xor_lt_two_pow (by omega) (by omega)
    have hn : n = 8 * i + (7 - s) := hF.unique (fst_of hbA hbB hi10 heq g1 (by
      have h1 := g3 (s + 1) (by omega)
      rw [Nat.pow_succ, ← Nat.div_div_eq_div_mul, ← Nat.div_div_eq_div_mul] at h1
      omega) g3)
    generalize (A.getD i 0).toNat ^^^ (B.getD i 0).toNat = z at *
    have hz0 : z ≠ 0 := by
      rintro rfl
      rw [Nat.zero_div] at hz
      omega
    rw [bif_nneg (by omega)]
    refine (lz_c z s (by omega) g1 hz w6).mono ?_
    rintro e w12 ⟨rfl, rfl⟩
    refine ⟨_, rfl, ?_, ht⟩
    rw [wrap_i64 (n := 8 * (i : Int)) (by omega) (by omega), wrap_i64 (by omega) (by omega), hn]
    congr 2
end Go.Proofs.YtjkbjppopdfggaaDoor.Tre
