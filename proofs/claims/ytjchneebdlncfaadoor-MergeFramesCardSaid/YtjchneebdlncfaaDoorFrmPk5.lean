/-
  THE CODE of some functions of the given program, resolved, and proved to ask what the readable texts (d..) say; contracts c.. follow. Printed by a small program of mine.
  WORDS FOR CONTRACTS: make, type assertions, what a call ends with.
  Own work. No macro, syntax, notation, axiom.
-/
import Derived.Test.YtjchneebdlncfaaDoorFrmPk3
import Derived.Test.YtjchneebdlncfaaDoorProg
import Derived.Test.YtjchneebdlncfaaDoorFrmPk4
import Derived.Laws.MakeOwn
set_option maxRecDepth 100000
namespace Go.Proofs.YtjchneebdlncfaaDoor.Fn
open Go Den
/-- prelude/keys.Check -/
def s90 : S := (.seq (.ops [⟨(some 1), (.box 129 (.tmp 0)), .ptr, none⟩,
  ⟨(some 2), (.mv (.const (.int .i64 0))), (.int .i64), none⟩] [1])
 (.seq (.seq (.ops [⟨(some 3), (.fa 0 (.tmp 1)), .ptr, none⟩,
  ⟨(some 4), (.ld1 (.tmp 3)), (.int .i64), none⟩,
  ⟨(some 5), (.bin .lss (.tmp 4) (.const (.int .i64 0))), .bool, none⟩,
  ⟨(some 6), (.mv (.tmp 5)), .bool, none⟩,
  ⟨(some 7), (.fa 0 (.tmp 1)), .ptr, (some (6, false))⟩,
  ⟨(some 8), (.ld1 (.tmp 7)), (.int .i64), (some (6, false))⟩,
  ⟨(some 9), (.bin .gtr (.tmp 8) (.const (.int .i64 65535))), .bool, (some (6, false))⟩,
  ⟨(some 10), (.pick (.tmp 6) (.const (.bool true)) (.tmp 9)), .bool, none⟩] [10])
 (.cond (.tmp 10)
 (.seq (.ops [⟨(some 2), (.mv (.const (.int .i64 20))), (.int .i64), none⟩] [2])
 .ret)
 .skip))
 (.seq (.ops [⟨(some 2), (.mv (.const (.int .i64 0))), (.int .i64), none⟩] [2])
 .ret)))
def r90 : List Res := [.t 2]
theorem tr90 : trS Tryd.prog [] 11 (Tryd.f90.body.getD .skip) s90 = some s90 := by kernel_rfl
theorem den90 (args : List Value) (w : World) (R : Ending → World → Prop) (hn : args.length ≤ 11) (h : denS Tryd.prog s90 (argsEnv 0 args) w (endK r90 R)) : Calls Tryd.prog 90 args.toArray w R :=
  calls_of_den (pn := []) (fn := Tryd.f90) (c := Tryd.f90.body.getD .skip) Tryd.func90 (by kernel_rfl) (by rw [Tryd.ntmps90]; exact hn) (by rw [Tryd.ntmps90]; exact tr90) (by kernel_rfl) h
def d90 (k0 : Array Value) (w : World) (R : Ending → World → Prop) : Prop :=
 ∀ w1 : World, w1 = World.alloc w (.cells k0 129) →
 ∃ x2 : Int, World.cell? w1 (Addr.add ⟨World.heap w |>.size, 0, none⟩ 0) = some (.int .i64 x2) ∧
 (bif (decide (x2 < 0)) then
 (R (.returned (.int .i64 20)) w1)
 else
 (∃ x3 : Int, World.cell? w1 (Addr.add ⟨World.heap w |>.size, 0, none⟩ 0) = some (.int .i64 x3) ∧
 (bif (decide (65535 < x3)) then
 (R (.returned (.int .i64 20)) w1)
 else
 (R (.returned (.int .i64 0)) w1))))
theorem e90 (k0 : Array Value) (w : World) (R : Ending → World → Prop) : denS Tryd.prog s90 (argsEnv 0 [(.agg k0)]) w (endK r90 R) = d90 k0 w R := by kernel_rfl
theorem c90 (k0 : Array Value) {w : World} {R : Ending → World → Prop} (h : d90 k0 w R) : Calls Tryd.prog 90 #[(.agg k0)] w R :=
  den90 [(.agg k0)] w R (by simp) ((e90 k0 w R).symm ▸ h)

/-- prelude/keys.form -/
def s91 : S := (.seq (.ops [⟨(some 1), (.box 129 (.tmp 0)), .ptr, none⟩,
  ⟨(some 2), (.alloc 162), .ptr, none⟩] [1, 2])
 (.seq (.ops [⟨(some 3), (.alloc 162), .ptr, none⟩] [1, 3, 2])
 (.seq (.draw (.take 0 ⟨(some 6), (.fa 0 (.tmp 1)), .ptr, none⟩
  (.take 1 ⟨(some 7), (.ld1 (.tmp 6)), (.int .i64), none⟩
  (.take 2 ⟨(some 8), (.bin .shr (.tmp 7) (.const (.int .u64 8))), (.int .i64), none⟩
  (.take 3 ⟨(some 9), (.cv .u8 (.tmp 8)), (.int .u8), none⟩
  (.take 4 ⟨(some 10), (.fa 0 (.tmp 1)), .ptr, none⟩
  (.take 5 ⟨(some 11), (.ld1 (.tmp 10)), (.int .i64), none⟩
  (.take 6 ⟨(some 12), (.cv .u8 (.tmp 11)), (.int .u8), none⟩
  (.take 7 ⟨(some 13), (.iaA 10 1 (.tmp 3) (.const (.int .i64 0))), .ptr, none⟩
  (.go 8 ⟨none, (.st1 (.tmp 13) (.tmp 9)), .any, none⟩ [(5, ⟨(some 11), (.ld1 (.tmp 10)), (.int .i64), none⟩)]
  (.take 9 ⟨(some 14), (.iaA 10 1 (.tmp 3) (.const (.int .i64 1))), .ptr, none⟩
  (.go 10 ⟨none, (.st1 (.tmp 14) (.tmp 12)), .any, none⟩ []
  .done))))))))))) [1, 3, 2])
 (.seq (.ops [⟨(some 15), (.fa 1 (.tmp 1)), .ptr, none⟩,
  ⟨(some 16), (.ld1 (.tmp 15)), (.int .i64), none⟩,
  ⟨(some 17), (.cv .u64 (.tmp 16)), (.int .u64), none⟩,
  ⟨(some 18), (.bin .xor (.tmp 17) (.const (.int .u64 9223372036854775808))), (.int .u64), none⟩,
  ⟨(some 4), (.mv (.tmp 18)), (.int .u64), none⟩] [4, 3, 2])
 (.seq (.seq (.ops [⟨(some 19), (.mv (.const (.int .i64 0))), (.int .i64), none⟩] [19, 4, 3, 2])
 (.block 0
 (.loop [(19, (.int .i64))] [2, 3, 4]
 (.seq (.ops [⟨(some 20), (.bin .lss (.tmp 19) (.const (.int .i64 8))), .bool, none⟩] [20, 19, 4, 3, 2])
 (.seq (.cond (.tmp 20)
 .skip
 (.exit 0))
 (.seq (.block 1
 (.seq (.ops [⟨(some 21), (.mv (.tmp 19)), (.int .i64), none⟩,
  ⟨(some 5), (.mv (.tmp 21)), (.int .i64), none⟩] [5, 4, 3, 19, 2])
 (.ops [⟨(some 22), (.mv (.tmp 5)), (.int .i64), none⟩,
  ⟨(some 23), (.bin .add (.const (.int .i64 2)) (.tmp 22)), (.int .i64), none⟩,
  ⟨(some 24), (.mv (.tmp 4)), (.int .u64), none⟩,
  ⟨(some 25), (.mv (.tmp 5)), (.int .i64), none⟩,
  ⟨(some 26), (.bin .mul (.const (.int .i64 8)) (.tmp 25)), (.int .i64), none⟩,
  ⟨(some 27), (.bin .sub (.const (.int .i64 56)) (.tmp 26)), (.int .i64), none⟩,
  ⟨(some 28), (.bin .shr (.tmp 24) (.tmp 27)), (.int .u64), none⟩,
  ⟨(some 29), (.cv .u8 (.tmp 28)), (.int .u8), none⟩,
  ⟨(some 30), (.iaA 10 1 (.tmp 3) (.tmp 23)), .ptr, none⟩,
  ⟨none, (.st1 (.tmp 30) (.tmp 29)), .any, none⟩] [19, 4, 3, 2])))
 (.ops [⟨(some 31), (.bin .add (.tmp 19) (.const (.int .i64 1))), (.int .i64), none⟩,
  ⟨(some 19), (.mv (.tmp 31)), (.int .i64), none⟩] [19, 4, 3, 2])))))))
 (.seq (.ops [⟨(some 32), (.ldN 10 (.tmp 3)), .agg, none⟩,
  ⟨none, (.stN 10 (.tmp 2) (.tmp 32)), .any, none⟩] [2])
 .ret))))))
def r91 : List Res := [.cN 2 10]
theorem tr91 : trS Tryd.prog [] 33 (Tryd.f91.body.getD .skip) s91 = some s91 := by kernel_rfl
theorem den91 (args : List Value) (w : World) (R : Ending → World → Prop) (hn : args.length ≤ 33) (h : denS Tryd.prog s91 (argsEnv 0 args) w (endK r91 R)) : Calls Tryd.prog 91 args.toArray w R :=
  calls_of_den (pn := []) (fn := Tryd.f91) (c := Tryd.f91.body.getD .skip) Tryd.func91 (by kernel_rfl) (by rw [Tryd.ntmps91]; exact hn) (by rw [Tryd.ntmps91]; exact tr91) (by kernel_rfl) h
def d91 (k0 : Array Value) (w : World) (R : Ending → World → Prop) : Prop :=
 ∀ w1 : World, w1 = World.alloc w (.cells k0 129) →
 ∀ w2 : World, w2 = World.alloc w1 (.cells (zc Tryd.prog 162).toArray 162) →
 ∀ w3 : World, w3 = World.alloc w2 (.cells (zc Tryd.prog 162).toArray 162) →
 ∀ w4 : World, w4 = World.drew w3 →
 ∃ x5 : Int, World.cell? w4 (Addr.add ⟨World.heap w |>.size, 0, none⟩ 0) = some (.int .i64 x5) ∧
 0 ≤ (8 : Int) ∧ ∃ x6 : Int, World.cell? w4 (Addr.add ⟨World.heap w |>.size, 0, none⟩ 0) = some (.int .i64 x6) ∧
 0 ≤ (0 : Int) ∧ (0 : Int) < ((10 : Nat) : Int) ∧
 one (.int .u8 (IntKind.wrap .u8 (shR .i64 x5 8))) = true ∧ Option.isSome (World.cell? w4 (Addr.add ⟨World.heap w2 |>.size, 0, none⟩ (Int.toNat 0 * 1))) = true ∧ World.frozen? w4 (Addr.add ⟨World.heap w2 |>.size, 0, none⟩ (Int.toNat 0 * 1)) = false ∧
 ∀ w7 : World, w7 = World.setCell w4 (Addr.add ⟨World.heap w2 |>.size, 0, none⟩ (Int.toNat 0 * 1)) (.int .u8 (IntKind.wrap .u8 (shR .i64 x5 8))) →
 (∃ z8 : Int, World.cell? w7 (Addr.add ⟨World.heap w |>.size, 0, none⟩ 0) = some (.int .i64 z8) ∧
 (((.int .i64 z8) : Value) = (.int .i64 x6) ∧ w7 = w7)) ∧
 0 ≤ (1 : Int) ∧ (1 : Int) < ((10 : Nat) : Int) ∧
 one (.int .u8 (IntKind.wrap .u8 x6)) = true ∧ Option.isSome (World.cell? w7 (Addr.add ⟨World.heap w2 |>.size, 0, none⟩ (Int.toNat 1 * 1))) = true ∧ World.frozen? w7 (Addr.add ⟨World.heap w2 |>.size, 0, none⟩ (Int.toNat 1 * 1)) = false ∧
 ∀ w9 : World, w9 = World.setCell w7 (Addr.add ⟨World.heap w2 |>.size, 0, none⟩ (Int.toNat 1 * 1)) (.int .u8 (IntKind.wrap .u8 x6)) →
 ∃ x10 : Int, World.cell? w9 (Addr.add ⟨World.heap w |>.size, 0, none⟩ 1) = some (.int .i64 x10) ∧
 ∃ I11 : Nat → Int → World → Prop,
 (∃ m, I11 m 0 w9) ∧
 (∀ (m12 : Nat) (w13 : World) (x14 : Int), I11 m12 x14 w13 →
 (bif (decide (x14 < 8)) then
 (0 ≤ (IntKind.wrap .i64 (56 - (IntKind.wrap .i64 (8 * x14)))) ∧ 0 ≤ (IntKind.wrap .i64 (2 + x14)) ∧ (IntKind.wrap .i64 (2 + x14)) < ((10 : Nat) : Int) ∧
 one (.int .u8 (IntKind.wrap .u8 (shR .u64 (bXor .u64 (IntKind.wrap .u64 x10) 9223372036854775808) (IntKind.wrap .i64 (56 - (IntKind.wrap .i64 (8 * x14))))))) = true ∧ Option.isSome (World.cell? w13 (Addr.add ⟨World.heap w2 |>.size, 0, none⟩ (Int.toNat (IntKind.wrap .i64 (2 + x14)) * 1))) = true ∧ World.frozen? w13 (Addr.add ⟨World.heap w2 |>.size, 0, none⟩ (Int.toNat (IntKind.wrap .i64 (2 + x14)) * 1)) = false ∧
 ∀ w15 : World, w15 = World.setCell w13 (Addr.add ⟨World.heap w2 |>.size, 0, none⟩ (Int.toNat (IntKind.wrap .i64 (2 + x14)) * 1)) (.int .u8 (IntKind.wrap .u8 (shR .u64 (bXor .u64 (IntKind.wrap .u64 x10) 9223372036854775808) (IntKind.wrap .i64 (56 - (IntKind.wrap .i64 (8 * x14))))))) →
 ∃ m16, m16 < m12 ∧ I11 m16 (IntKind.wrap .i64 (x14 + 1)) w15)
 else
 (∃ cs17 : List Value, List.length cs17 = 10 ∧ Cells w13 ⟨World.heap w2 |>.size, 0, none⟩ cs17 ∧
 Array.size (List.toArray cs17) = 10 ∧ (∀ u ∈ Array.toList (List.toArray cs17), one u = true) ∧ Room w13 ⟨World.heap w1 |>.size, 0, none⟩ 10 ∧
 ∀ w18 : World, w18 = setCells w13 ⟨World.heap w1 |>.size, 0, none⟩ (Array.toList (List.toArray cs17)) 0 →
 ∃ cs19 : List Value, List.length cs19 = 10 ∧ Cells w18 ⟨World.heap w1 |>.size, 0, none⟩ cs19 ∧
 R (.returned (.agg (List.toArray cs19))) w18)))
theorem e91 (k0 : Array Value) (w : World) (R : Ending → World → Prop) : denS Tryd.prog s91 (argsEnv 0 [(.agg k0)]) w (endK r91 R) = d91 k0 w R := by kernel_rfl
theorem c91 (k0 : Array Value) {w : World} {R : Ending → World → Prop} (h : d91 k0 w R) : Calls Tryd.prog 91 #[(.agg k0)] w R :=
  den91 [(.agg k0)] w R (by simp) ((e91 k0 w R).symm ▸ h)

/-- prelude/keys.Bytes -/
def s68 : S := (.seq (.ops [⟨(some 1), (.box 129 (.tmp 0)), .ptr, none⟩,
  ⟨(some 2), (.mv (.const (.slice none 0 0))), .sl, none⟩,
  ⟨(some 3), (.mv (.const (.int .i64 0))), (.int .i64), none⟩] [1])
 (.seq (.seq (.ops [⟨(some 6), (.ldN 2 (.tmp 1)), .agg, none⟩,
  ⟨(some 7), (.call 90 [(.tmp 6)] [(.int .i64)]), (.int .i64), none⟩,
  ⟨(some 4), (.mv (.tmp 7)), (.int .i64), none⟩] [4, 1])
 (.seq (.ops [⟨(some 8), (.mv (.tmp 4)), (.int .i64), none⟩,
  ⟨(some 9), (.bin .neq (.tmp 8) (.const (.int .i64 0))), .bool, none⟩] [9, 4, 1])
 (.cond (.tmp 9)
 (.seq (.ops [⟨(some 10), (.mv (.tmp 4)), (.int .i64), none⟩,
  ⟨(some 2), (.mv (.const (.slice none 0 0))), .sl, none⟩,
  ⟨(some 3), (.mv (.tmp 10)), (.int .i64), none⟩] [2, 3])
 .ret)
 .skip)))
 (.seq (.ops [⟨(some 11), (.ldN 2 (.tmp 1)), .agg, none⟩,
  ⟨(some 12), (.call 91 [(.tmp 11)] [.agg]), .agg, none⟩,
  ⟨(some 5), (.alloc 162), .ptr, none⟩,
  ⟨none, (.stN 10 (.tmp 5) (.tmp 12)), .any, none⟩] [5])
 (.seq (.ops [⟨(some 13), (.slA 10 1 (.tmp 5) none none none), .sl, none⟩,
  ⟨(some 14), (.app #[22, 22] 22 (.const (.slice none 0 0)) (.tmp 13)), .sl, none⟩,
  ⟨(some 2), (.mv (.tmp 14)), .sl, none⟩,
  ⟨(some 3), (.mv (.const (.int .i64 0))), (.int .i64), none⟩] [2, 3])
 .ret))))
def r68 : List Res := [.t 2, .t 3]
theorem tr68 : trS Tryd.prog [] 15 (Tryd.f68.body.getD .skip) s68 = some s68 := by kernel_rfl
theorem den68 (args : List Value) (w : World) (R : Ending → World → Prop) (hn : args.length ≤ 15) (h : denS Tryd.prog s68 (argsEnv 0 args) w (endK r68 R)) : Calls Tryd.prog 68 args.toArray w R :=
  calls_of_den (pn := []) (fn := Tryd.f68) (c := Tryd.f68.body.getD .skip) Tryd.func68 (by kernel_rfl) (by rw [Tryd.ntmps68]; exact hn) (by rw [Tryd.ntmps68]; exact tr68) (by kernel_rfl) h
def d68 (k0 : Array Value) (w : World) (R : Ending → World → Prop) : Prop :=
 ∀ w1 : World, w1 = World.alloc w (.cells k0 129) →
 ∃ cs2 : List Value, List.length cs2 = 2 ∧ Cells w1 ⟨World.heap w |>.size, 0, none⟩ cs2 ∧
 Calls Tryd.prog 90 #[(.agg (List.toArray cs2))] w1 fun e3 w4 => ∃ x5 : Int, e3 = .returned (.int .i64 x5) ∧
 (bif (!decide (x5 = 0)) then
 (R (.returned (.tuple #[(.slice none 0 0), (.int .i64 x5)])) w4)
 else
 (∃ cs6 : List Value, List.length cs6 = 2 ∧ Cells w4 ⟨World.heap w |>.size, 0, none⟩ cs6 ∧
 Calls Tryd.prog 91 #[(.agg (List.toArray cs6))] w4 fun e7 w8 => ∃ x9 : Array Value, e7 = .returned (.agg x9) ∧
 ∀ w10 : World, w10 = World.alloc w8 (.cells (zc Tryd.prog 162).toArray 162) →
 Array.size x9 = 10 ∧ (∀ u ∈ Array.toList x9, one u = true) ∧ Room w10 ⟨World.heap w8 |>.size, 0, none⟩ 10 ∧
 ∀ w11 : World, w11 = setCells w10 ⟨World.heap w8 |>.size, 0, none⟩ (Array.toList x9) 0 →
 RunV Tryd.prog (Builtin.append_ #[22, 22] 22 #[(.slice none 0 0), (.slice (some (if 10 = 0 then ⟨World.heap w8 |>.size, 0, none⟩ else Addr.add ⟨World.heap w8 |>.size, 0, none⟩ (0 * 1))) (10 - 0) (10 - 0))]) w11 fun v12 w13 => ∃ (x14 : Option Addr) (x14n : Nat) (x14c : Nat), v12 = (.slice x14 x14n x14c) ∧
 R (.returned (.tuple #[(.slice x14 x14n x14c), (.int .i64 0)])) w13))
theorem e68 (k0 : Array Value) (w : World) (R : Ending → World → Prop) : denS Tryd.prog s68 (argsEnv 0 [(.agg k0)]) w (endK r68 R) = d68 k0 w R := by kernel_rfl
theorem c68 (k0 : Array Value) {w : World} {R : Ending → World → Prop} (h : d68 k0 w R) : Calls Tryd.prog 68 #[(.agg k0)] w R :=
  den68 [(.agg k0)] w R (by simp) ((e68 k0 w R).symm ▸ h)

/-- prelude/keys.FromBytes -/
def s110 : S := (.seq (.ops [⟨(some 2), (.alloc 129), .ptr, none⟩,
  ⟨(some 3), (.mv (.const (.int .i64 0))), (.int .i64), none⟩] [0, 2])
 (.seq (.block 0
 (.seq (.ops [⟨(some 8), (.mv (.tmp 0)), .sl, none⟩,
  ⟨(some 9), (.len (.tmp 8)), (.int .i64), none⟩,
  ⟨(some 10), (.bin .lss (.tmp 9) (.const (.int .i64 10))), .bool, none⟩,
  ⟨(some 7), (.mv (.tmp 10)), .bool, none⟩] [7, 2, 0])
 (.cond (.tmp 7)
 (.seq (.ops [⟨(some 11), (.bld 129 (.fields [(0, 1), (1, 1)]) []), .agg, none⟩,
  ⟨none, (.stN 2 (.tmp 2) (.tmp 11)), .any, none⟩,
  ⟨(some 3), (.mv (.const (.int .i64 10))), (.int .i64), none⟩] [2, 3])
 .ret)
 (.seq (.ops [⟨(some 13), (.mv (.tmp 0)), .sl, none⟩,
  ⟨(some 14), (.len (.tmp 13)), (.int .i64), none⟩,
  ⟨(some 15), (.bin .gtr (.tmp 14) (.const (.int .i64 10))), .bool, none⟩,
  ⟨(some 12), (.mv (.tmp 15)), .bool, none⟩] [12, 2, 0])
 (.cond (.tmp 12)
 (.seq (.ops [⟨(some 16), (.bld 129 (.fields [(0, 1), (1, 1)]) []), .agg, none⟩,
  ⟨none, (.stN 2 (.tmp 2) (.tmp 16)), .any, none⟩,
  ⟨(some 3), (.mv (.const (.int .i64 11))), (.int .i64), none⟩] [2, 3])
 .ret)
 .skip)))))
 (.seq (.ops [⟨(some 4), (.mv (.const (.int .u64 0))), (.int .u64), none⟩] [0, 4, 2])
 (.seq (.seq (.ops [⟨(some 17), (.mv (.tmp 0)), .sl, none⟩,
  ⟨(some 18), (.slS 1 (.tmp 17) (some (.const (.int .i64 2))) none none), .sl, none⟩,
  ⟨(some 19), (.len (.tmp 18)), (.int .i64), none⟩,
  ⟨(some 20), (.mv (.const (.int .i64 0))), (.int .i64), none⟩] [20, 19, 18, 4, 0, 2])
 (.block 1
 (.loop [(4, (.int .u64)), (20, (.int .i64))] [0, 2, 18, 19]
 (.seq (.ops [⟨(some 21), (.bin .lss (.tmp 20) (.tmp 19)), .any, none⟩] [21, 18, 20, 4, 19, 0, 2])
 (.seq (.cond (.tmp 21)
 .skip
 (.exit 1))
 (.seq (.block 2
 (.seq (.ops [⟨(some 22), (.ia 1 (.tmp 18) (.tmp 20)), .ptr, none⟩,
  ⟨(some 23), (.ld1 (.tmp 22)), (.int .u8), none⟩,
  ⟨(some 6), (.mv (.tmp 23)), (.int .u8), none⟩] [4, 6, 20, 19, 18, 0, 2])
 (.ops [⟨(some 24), (.mv (.tmp 4)), (.int .u64), none⟩,
  ⟨(some 25), (.bin .shl (.tmp 24) (.const (.int .u64 8))), (.int .u64), none⟩,
  ⟨(some 26), (.mv (.tmp 6)), (.int .u8), none⟩,
  ⟨(some 27), (.cv .u64 (.tmp 26)), (.int .u64), none⟩,
  ⟨(some 28), (.bin .or (.tmp 25) (.tmp 27)), (.int .u64), none⟩,
  ⟨(some 4), (.mv (.tmp 28)), (.int .u64), none⟩] [20, 19, 18, 4, 0, 2])))
 (.ops [⟨(some 29), (.bin .add (.tmp 20) (.const (.int .i64 1))), (.int .i64), none⟩,
  ⟨(some 20), (.mv (.tmp 29)), (.int .i64), none⟩] [20, 19, 18, 4, 0, 2])))))))
 (.seq (.draw (.take 0 ⟨(some 30), (.mv (.tmp 0)), .sl, none⟩
  (.take 1 ⟨(some 31), (.ia 1 (.tmp 30) (.const (.int .i64 0))), .ptr, none⟩
  (.take 2 ⟨(some 32), (.ld1 (.tmp 31)), (.int .u8), none⟩
  (.take 3 ⟨(some 33), (.cv .i64 (.tmp 32)), (.int .i64), none⟩
  (.take 4 ⟨(some 34), (.bin .shl (.tmp 33) (.const (.int .u64 8))), (.int .i64), none⟩
  (.take 5 ⟨(some 35), (.mv (.tmp 0)), .sl, none⟩
  (.take 6 ⟨(some 36), (.ia 1 (.tmp 35) (.const (.int .i64 1))), .ptr, none⟩
  (.take 7 ⟨(some 37), (.ld1 (.tmp 36)), (.int .u8), none⟩
  (.take 8 ⟨(some 38), (.cv .i64 (.tmp 37)), (.int .i64), none⟩
  (.take 9 ⟨(some 39), (.bin .or (.tmp 34) (.tmp 38)), (.int .i64), none⟩
  (.take 10 ⟨(some 40), (.mv (.tmp 4)), (.int .u64), none⟩
  (.take 11 ⟨(some 41), (.bin .xor (.tmp 40) (.const (.int .u64 9223372036854775808))), (.int .u64), none⟩
  (.take 12 ⟨(some 42), (.cv .i64 (.tmp 41)), (.int .i64), none⟩
  (.take 13 ⟨(some 43), (.bld 129 (.fields [(0, 1), (1, 1)]) [(0, (.tmp 39)), (1, (.tmp 42))]), .agg, none⟩
  (.go 14 ⟨none, (.stN 2 (.tmp 2) (.tmp 43)), .any, none⟩ []
  (.take 15 ⟨(some 3), (.mv (.const (.int .i64 0))), (.int .i64), none⟩
  .done)))))))))))))))) [2, 3])
 .ret)))))
def r110 : List Res := [.cN 2 2, .t 3]
theorem tr110 : trS Tryd.prog [] 44 (Tryd.f110.body.getD .skip) s110 = some s110 := by kernel_rfl
theorem den110 (args : List Value) (w : World) (R : Ending → World → Prop) (hn : args.length ≤ 44) (h : denS Tryd.prog s110 (argsEnv 0 args) w (endK r110 R)) : Calls Tryd.prog 110 args.toArray w R :=
  calls_of_den (pn := []) (fn := Tryd.f110) (c := Tryd.f110.body.getD .skip) Tryd.func110 (by kernel_rfl) (by rw [Tryd.ntmps110]; exact hn) (by rw [Tryd.ntmps110]; exact tr110) (by kernel_rfl) h
def d110 (b0 : Option Addr) (b0n : Nat) (b0c : Nat) (w : World) (R : Ending → World → Prop) : Prop :=
 ∀ w1 : World, w1 = World.alloc w (.cells (zc Tryd.prog 129).toArray 129) →
 (bif (decide (((b0n : Nat) : Int) < 10)) then
 (∃ cs2, fillL (.fields [(0, 1), (1, 1)]) (zc Tryd.prog 129) [] = some cs2 ∧
 Array.size (List.toArray cs2) = 2 ∧ (∀ u ∈ Array.toList (List.toArray cs2), one u = true) ∧ Room w1 ⟨World.heap w |>.size, 0, none⟩ 2 ∧
 ∀ w3 : World, w3 = setCells w1 ⟨World.heap w |>.size, 0, none⟩ (Array.toList (List.toArray cs2)) 0 →
 ∃ cs4 : List Value, List.length cs4 = 2 ∧ Cells w3 ⟨World.heap w |>.size, 0, none⟩ cs4 ∧
 R (.returned (.tuple #[(.agg (List.toArray cs4)), (.int .i64 10)])) w3)
 else
 ((bif (decide (10 < ((b0n : Nat) : Int))) then
 (∃ cs5, fillL (.fields [(0, 1), (1, 1)]) (zc Tryd.prog 129) [] = some cs5 ∧
 Array.size (List.toArray cs5) = 2 ∧ (∀ u ∈ Array.toList (List.toArray cs5), one u = true) ∧ Room w1 ⟨World.heap w |>.size, 0, none⟩ 2 ∧
 ∀ w6 : World, w6 = setCells w1 ⟨World.heap w |>.size, 0, none⟩ (Array.toList (List.toArray cs5)) 0 →
 ∃ cs7 : List Value, List.length cs7 = 2 ∧ Cells w6 ⟨World.heap w |>.size, 0, none⟩ cs7 ∧
 R (.returned (.tuple #[(.agg (List.toArray cs7)), (.int .i64 11)])) w6)
 else
 (0 ≤ (2 : Int) ∧ (2 : Int) ≤ ((b0n : Nat) : Int) ∧ ∃ I8 : Nat → Int → Int → World → Prop,
 (∃ m, I8 m 0 0 w1) ∧
 (∀ (m9 : Nat) (w10 : World) (row11 : Int) (x12 : Int), I8 m9 row11 x12 w10 →
 (bif (decide (x12 < (((b0n - (Int.toNat 2)) : Nat) : Int))) then
 (0 ≤ x12 ∧ x12 < (((b0n - (Int.toNat 2)) : Nat) : Int) ∧ optK (if b0c = (Int.toNat 2) then b0 else Option.map (fun y => Addr.add y ((Int.toNat 2) * 1)) b0) fun a13 =>
 ∃ x14 : Int, World.cell? w10 (Addr.add a13 (Int.toNat x12 * 1)) = some (.int .u8 x14) ∧
 0 ≤ (8 : Int) ∧ ∃ m15, m15 < m9 ∧ I8 m15 (bOr .u64 (shL .u64 row11 8) (IntKind.wrap .u64 x14)) (IntKind.wrap .i64 (x12 + 1)) w10)
 else
 (∀ w16 : World, w16 = World.drew w10 →
 0 ≤ (0 : Int) ∧ (0 : Int) < ((b0n : Nat) : Int) ∧ optK b0 fun a17 =>
 ∃ x18 : Int, World.cell? w16 (Addr.add a17 (Int.toNat 0 * 1)) = some (.int .u8 x18) ∧
 0 ≤ (8 : Int) ∧ 0 ≤ (1 : Int) ∧ (1 : Int) < ((b0n : Nat) : Int) ∧ optK b0 fun a19 =>
 ∃ x20 : Int, World.cell? w16 (Addr.add a19 (Int.toNat 1 * 1)) = some (.int .u8 x20) ∧
 ∃ cs21, fillL (.fields [(0, 1), (1, 1)]) (zc Tryd.prog 129) [(0, (.int .i64 (bOr .i64 (shL .i64 (IntKind.wrap .i64 x18) 8) (IntKind.wrap .i64 x20)))), (1, (.int .i64 (IntKind.wrap .i64 (bXor .u64 row11 9223372036854775808))))] = some cs21 ∧
 Array.size (List.toArray cs21) = 2 ∧ (∀ u ∈ Array.toList (List.toArray cs21), one u = true) ∧ Room w16 ⟨World.heap w |>.size, 0, none⟩ 2 ∧
 ∀ w22 : World, w22 = setCells w16 ⟨World.heap w |>.size, 0, none⟩ (Array.toList (List.toArray cs21)) 0 →
 ∃ cs23 : List Value, List.length cs23 = 2 ∧ Cells w22 ⟨World.heap w |>.size, 0, none⟩ cs23 ∧
 R (.returned (.tuple #[(.agg (List.toArray cs23)), (.int .i64 0)])) w22)))))))
theorem e110 (b0 : Option Addr) (b0n : Nat) (b0c : Nat) (w : World) (R : Ending → World → Prop) : denS Tryd.prog s110 (argsEnv 0 [(.slice b0 b0n b0c)]) w (endK r110 R) = d110 b0 b0n b0c w R := by kernel_rfl
theorem c110 (b0 : Option Addr) (b0n : Nat) (b0c : Nat) {w : World} {R : Ending → World → Prop} (h : d110 b0 b0n b0c w R) : Calls Tryd.prog 110 #[(.slice b0 b0n b0c)] w R :=
  den110 [(.slice b0 b0n b0c)] w R (by simp) ((e110 b0 b0n b0c w R).symm ▸ h)

/-- prelude/keys.Rises -/
def s89 : S := (.seq (.ops [⟨(some 2), (.mv (.const (.bool false))), .bool, none⟩] [0])
 (.seq (.seq (.ops [⟨(some 5), (.mv (.tmp 0)), .sl, none⟩,
  ⟨(some 6), (.len (.tmp 5)), (.int .i64), none⟩,
  ⟨(some 7), (.mv (.const (.int .i64 0))), (.int .i64), none⟩] [7, 6, 5, 0])
 (.block 0
 (.loop [(7, (.int .i64))] [0, 5, 6]
 (.seq (.ops [⟨(some 8), (.bin .lss (.tmp 7) (.tmp 6)), .any, none⟩] [8, 7, 5, 0, 6])
 (.seq (.cond (.tmp 8)
 .skip
 (.exit 0))
 (.seq (.block 1
 (.seq (.ops [⟨(some 9), (.mv (.tmp 7)), (.int .i64), none⟩,
  ⟨(some 10), (.ia 2 (.tmp 5) (.tmp 7)), .ptr, none⟩,
  ⟨(some 11), (.ldN 2 (.tmp 10)), .agg, none⟩,
  ⟨(some 4), (.alloc 129), .ptr, none⟩,
  ⟨(some 3), (.mv (.tmp 9)), (.int .i64), none⟩,
  ⟨none, (.stN 2 (.tmp 4) (.tmp 11)), .any, none⟩] [4, 3, 0, 7, 6, 5])
 (.seq (.draw (.take 0 ⟨(some 12), (.ldN 2 (.tmp 4)), .agg, none⟩
  (.go 1 ⟨(some 13), (.call 90 [(.tmp 12)] [(.int .i64)]), (.int .i64), none⟩ []
  (.take 2 ⟨(some 14), (.bin .neq (.tmp 13) (.const (.int .i64 0))), .bool, none⟩
  (.take 3 ⟨(some 15), (.mv (.tmp 14)), .bool, none⟩
  (.take 4 ⟨(some 16), (.mv (.tmp 3)), (.int .i64), (some (15, false))⟩
  (.take 5 ⟨(some 17), (.bin .gtr (.tmp 16) (.const (.int .i64 0))), .bool, (some (15, false))⟩
  (.take 6 ⟨(some 18), (.mv (.tmp 17)), .bool, (some (15, false))⟩
  (.take 7 ⟨(some 19), (.mv (.tmp 0)), .sl, (some (18, true))⟩
  (.take 8 ⟨(some 20), (.mv (.tmp 3)), (.int .i64), (some (18, true))⟩
  (.take 9 ⟨(some 21), (.bin .sub (.tmp 20) (.const (.int .i64 1))), (.int .i64), (some (18, true))⟩
  (.take 10 ⟨(some 22), (.ia 2 (.tmp 19) (.tmp 21)), .ptr, (some (18, true))⟩
  (.take 11 ⟨(some 23), (.ldN 2 (.tmp 22)), .agg, (some (18, true))⟩
  (.take 12 ⟨(some 24), (.ldN 2 (.tmp 4)), .agg, (some (18, true))⟩
  (.go 13 ⟨(some 25), (.call 104 [(.tmp 23), (.tmp 24)] [(.int .i64)]), (.int .i64), (some (18, true))⟩ []
  (.take 14 ⟨(some 26), (.bin .geq (.tmp 25) (.const (.int .i64 0))), .bool, (some (18, true))⟩
  (.take 15 ⟨(some 27), (.pick (.tmp 18) (.tmp 26) (.const (.bool false))), .bool, (some (15, false))⟩
  (.take 16 ⟨(some 28), (.pick (.tmp 15) (.const (.bool true)) (.tmp 27)), .bool, none⟩
  .done))))))))))))))))) [28, 7, 6, 5, 0])
 (.cond (.tmp 28)
 (.seq (.ops [⟨(some 2), (.mv (.const (.bool false))), .bool, none⟩] [2])
 .ret)
 .skip))))
 (.ops [⟨(some 29), (.bin .add (.tmp 7) (.const (.int .i64 1))), (.int .i64), none⟩,
  ⟨(some 7), (.mv (.tmp 29)), (.int .i64), none⟩] [7, 6, 5, 0])))))))
 (.seq (.ops [⟨(some 2), (.mv (.const (.bool true))), .bool, none⟩] [2])
 .ret)))
def r89 : List Res := [.t 2]
theorem tr89 : trS Tryd.prog [] 30 (Tryd.f89.body.getD .skip) s89 = some s89 := by kernel_rfl
theorem den89 (args : List Value) (w : World) (R : Ending → World → Prop) (hn : args.length ≤ 30) (h : denS Tryd.prog s89 (argsEnv 0 args) w (endK r89 R)) : Calls Tryd.prog 89 args.toArray w R :=
  calls_of_den (pn := []) (fn := Tryd.f89) (c := Tryd.f89.body.getD .skip) Tryd.func89 (by kernel_rfl) (by rw [Tryd.ntmps89]; exact hn) (by rw [Tryd.ntmps89]; exact tr89) (by kernel_rfl) h
def d89 (l0 : Option Addr) (l0n : Nat) (l0c : Nat) (w : World) (R : Ending → World → Prop) : Prop :=
 ∃ I1 : Nat → Int → World → Prop,
 (∃ m, I1 m 0 w) ∧
 (∀ (m2 : Nat) (w3 : World) (x4 : Int), I1 m2 x4 w3 →
 (bif (decide (x4 < ((l0n : Nat) : Int))) then
 (0 ≤ x4 ∧ x4 < ((l0n : Nat) : Int) ∧ optK l0 fun a5 =>
 ∃ cs6 : List Value, List.length cs6 = 2 ∧ Cells w3 (Addr.add a5 (Int.toNat x4 * 2)) cs6 ∧
 ∀ w7 : World, w7 = World.alloc w3 (.cells (zc Tryd.prog 129).toArray 129) →
 Array.size (List.toArray cs6) = 2 ∧ (∀ u ∈ Array.toList (List.toArray cs6), one u = true) ∧ Room w7 ⟨World.heap w3 |>.size, 0, none⟩ 2 ∧
 ∀ w8 : World, w8 = setCells w7 ⟨World.heap w3 |>.size, 0, none⟩ (Array.toList (List.toArray cs6)) 0 →
 ∀ w9 : World, w9 = World.drew w8 →
 ∃ cs10 : List Value, List.length cs10 = 2 ∧ Cells w9 ⟨World.heap w3 |>.size, 0, none⟩ cs10 ∧
 Calls Tryd.prog 90 #[(.agg (List.toArray cs10))] w9 fun e11 w12 => ∃ x13 : Int, e11 = .returned (.int .i64 x13) ∧
 (bif (!decide (x13 = 0)) then
 (R (.returned (.bool false)) w12)
 else
 ((bif (decide (0 < x4)) then
 (0 ≤ (IntKind.wrap .i64 (x4 - 1)) ∧ (IntKind.wrap .i64 (x4 - 1)) < ((l0n : Nat) : Int) ∧ optK l0 fun a14 =>
 ∃ cs15 : List Value, List.length cs15 = 2 ∧ Cells w12 (Addr.add a14 (Int.toNat (IntKind.wrap .i64 (x4 - 1)) * 2)) cs15 ∧
 ∃ cs16 : List Value, List.length cs16 = 2 ∧ Cells w12 ⟨World.heap w3 |>.size, 0, none⟩ cs16 ∧
 Calls Tryd.prog 104 #[(.agg (List.toArray cs15)), (.agg (List.toArray cs16))] w12 fun e17 w18 => ∃ x19 : Int, e17 = .returned (.int .i64 x19) ∧
 (bif (decide (0 ≤ x19)) then
 (R (.returned (.bool false)) w18)
 else
 (∃ m20, m20 < m2 ∧ I1 m20 (IntKind.wrap .i64 (x4 + 1)) w18)))
 else
 (∃ m21, m21 < m2 ∧ I1 m21 (IntKind.wrap .i64 (x4 + 1)) w12)))))
 else
 (R (.returned (.bool true)) w3)))
theorem e89 (l0 : Option Addr) (l0n : Nat) (l0c : Nat) (w : World) (R : Ending → World → Prop) : denS Tryd.prog s89 (argsEnv 0 [(.slice l0 l0n l0c)]) w (endK r89 R) = d89 l0 l0n l0c w R := by kernel_rfl
theorem c89 (l0 : Option Addr) (l0n : Nat) (l0c : Nat) {w : World} {R : Ending → World → Prop} (h : d89 l0 l0n l0c w R) : Calls Tryd.prog 89 #[(.slice l0 l0n l0c)] w R :=
  den89 [(.slice l0 l0n l0c)] w R (by simp) ((e89 l0 l0n l0c w R).symm ▸ h)

/-- prelude/keys.Compare -/
def s104 : S := (.seq (.ops [⟨(some 2), (.box 129 (.tmp 0)), .ptr, none⟩,
  ⟨(some 3), (.box 129 (.tmp 1)), .ptr, none⟩,
  ⟨(some 4), (.mv (.const (.int .i64 0))), (.int .i64), none⟩] [2, 3])
 (.seq (.seq (.ops [⟨(some 5), (.ldN 2 (.tmp 2)), .agg, none⟩,
  ⟨(some 6), (.ldN 2 (.tmp 3)), .agg, none⟩,
  ⟨(some 7), (.eqG .eql 129 (.tmp 5) (.tmp 6)), .bool, none⟩] [7, 2, 3])
 (.cond (.tmp 7)
 (.seq (.ops [⟨(some 4), (.mv (.const (.int .i64 0))), (.int .i64), none⟩] [4])
 .ret)
 .skip))
 (.seq (.draw (.take 0 ⟨(some 8), (.fa 0 (.tmp 2)), .ptr, none⟩
  (.take 1 ⟨(some 9), (.ld1 (.tmp 8)), (.int .i64), none⟩
  (.take 2 ⟨(some 10), (.fa 0 (.tmp 3)), .ptr, none⟩
  (.take 3 ⟨(some 11), (.ld1 (.tmp 10)), (.int .i64), none⟩
  (.take 5 ⟨(some 13), (.fa 1 (.tmp 2)), .ptr, none⟩
  (.take 6 ⟨(some 14), (.ld1 (.tmp 13)), (.int .i64), none⟩
  (.take 7 ⟨(some 15), (.fa 1 (.tmp 3)), .ptr, none⟩
  (.take 8 ⟨(some 16), (.ld1 (.tmp 15)), (.int .i64), none⟩
  (.go 4 ⟨(some 12), (.call 115 [(.tmp 9), (.tmp 11)] [(.int .i64)]), (.int .i64), none⟩ [(8, ⟨(some 16), (.ld1 (.tmp 15)), (.int .i64), none⟩), (6, ⟨(some 14), (.ld1 (.tmp 13)), (.int .i64), none⟩)]
  (.go 9 ⟨(some 17), (.call 116 [(.tmp 14), (.tmp 16)] [(.int .i64)]), (.int .i64), none⟩ []
  (.go 10 ⟨(some 18), (.bldS 3 2 1 [(0, (.tmp 12)), (1, (.tmp 17))]), .sl, none⟩ []
  (.go 11 ⟨(some 19), (.call 114 [(.tmp 18)] [(.int .i64)]), (.int .i64), none⟩ []
  (.take 12 ⟨(some 4), (.mv (.tmp 19)), (.int .i64), none⟩
  .done))))))))))))) [4])
 .ret)))
def r104 : List Res := [.t 4]
theorem tr104 : trS Tryd.prog [] 20 (Tryd.f104.body.getD .skip) s104 = some s104 := by kernel_rfl
theorem den104 (args : List Value) (w : World) (R : Ending → World → Prop) (hn : args.length ≤ 20) (h : denS Tryd.prog s104 (argsEnv 0 args) w (endK r104 R)) : Calls Tryd.prog 104 args.toArray w R :=
  calls_of_den (pn := []) (fn := Tryd.f104) (c := Tryd.f104.body.getD .skip) Tryd.func104 (by kernel_rfl) (by rw [Tryd.ntmps104]; exact hn) (by rw [Tryd.ntmps104]; exact tr104) (by kernel_rfl) h
def d104 (a0 : Array Value) (b1 : Array Value) (w : World) (R : Ending → World → Prop) : Prop :=
 ∀ w2 : World, w2 = World.alloc w (.cells a0 129) →
 ∀ w3 : World, w3 = World.alloc w2 (.cells b1 129) →
 ∃ cs4 : List Value, List.length cs4 = 2 ∧ Cells w3 ⟨World.heap w |>.size, 0, none⟩ cs4 ∧
 ∃ cs5 : List Value, List.length cs5 = 2 ∧ Cells w3 ⟨World.heap w2 |>.size, 0, none⟩ cs5 ∧
 ∃ q6 : Bool, Sem.run Tryd.prog (do eqGuard .eql 129 (.tmp 5) (.tmp 6) (.agg (List.toArray cs4)) (.agg (List.toArray cs5)); binOp .eql 129 (.agg (List.toArray cs4)) (.agg (List.toArray cs5))) w3 = .ok (.bool q6) w3 ∧
 (bif q6 then
 (R (.returned (.int .i64 0)) w3)
 else
 (∀ w7 : World, w7 = World.drew w3 →
 ∃ x8 : Int, World.cell? w7 (Addr.add ⟨World.heap w |>.size, 0, none⟩ 0) = some (.int .i64 x8) ∧
 ∃ x9 : Int, World.cell? w7 (Addr.add ⟨World.heap w2 |>.size, 0, none⟩ 0) = some (.int .i64 x9) ∧
 ∃ x10 : Int, World.cell? w7 (Addr.add ⟨World.heap w |>.size, 0, none⟩ 1) = some (.int .i64 x10) ∧
 ∃ x11 : Int, World.cell? w7 (Addr.add ⟨World.heap w2 |>.size, 0, none⟩ 1) = some (.int .i64 x11) ∧
 Calls Tryd.prog 115 #[(.int .i64 x8), (.int .i64 x9)] w7 fun e12 w13 => ∃ x14 : Int, e12 = .returned (.int .i64 x14) ∧
 (∃ z15 : Int, World.cell? w13 (Addr.add ⟨World.heap w2 |>.size, 0, none⟩ 1) = some (.int .i64 z15) ∧
 (((.int .i64 z15) : Value) = (.int .i64 x11) ∧ w13 = w13)) ∧
 (∃ z16 : Int, World.cell? w13 (Addr.add ⟨World.heap w |>.size, 0, none⟩ 1) = some (.int .i64 z16) ∧
 (((.int .i64 z16) : Value) = (.int .i64 x10) ∧ w13 = w13)) ∧
 Calls Tryd.prog 116 #[(.int .i64 x10), (.int .i64 x11)] w13 fun e17 w18 => ∃ x19 : Int, e17 = .returned (.int .i64 x19) ∧
 ∃ cs20, fillL (.elems 1) (zrep (zc Tryd.prog 3) (2 * 1)) [(0, (.int .i64 x14)), (1, (.int .i64 x19))] = some cs20 ∧
 ∀ w21 : World, w21 = World.alloc w18 (.cells (List.toArray cs20) 3) →
 Calls Tryd.prog 114 #[(.slice (some ⟨World.heap w18 |>.size, 0, none⟩) 2 2)] w21 fun e22 w23 => ∃ x24 : Int, e22 = .returned (.int .i64 x24) ∧
 R (.returned (.int .i64 x24)) w23))
theorem e104 (a0 : Array Value) (b1 : Array Value) (w : World) (R : Ending → World → Prop) : denS Tryd.prog s104 (argsEnv 0 [(.agg a0), (.agg b1)]) w (endK r104 R) = d104 a0 b1 w R := by kernel_rfl
theorem c104 (a0 : Array Value) (b1 : Array Value) {w : World} {R : Ending → World → Prop} (h : d104 a0 b1 w R) : Calls Tryd.prog 104 #[(.agg a0), (.agg b1)] w R :=
  den104 [(.agg a0), (.agg b1)] w R (by simp) ((e104 a0 b1 w R).symm ▸ h)

/-- cmp.Or[int] -/
def s114 : S := (.seq (.ops [⟨(some 2), (.mv (.const (.int .i64 0))), (.int .i64), none⟩] [0])
 (.seq (.ops [⟨(some 3), (.mv (.const (.int .i64 0))), (.int .i64), none⟩] [0, 3])
 (.seq (.seq (.ops [⟨(some 6), (.mv (.tmp 0)), .sl, none⟩,
  ⟨(some 7), (.len (.tmp 6)), (.int .i64), none⟩,
  ⟨(some 8), (.mv (.const (.int .i64 0))), (.int .i64), none⟩] [8, 7, 6, 3])
 (.block 0
 (.loop [(8, (.int .i64))] [3, 6, 7]
 (.seq (.ops [⟨(some 9), (.bin .lss (.tmp 8) (.tmp 7)), .any, none⟩] [9, 6, 8, 3, 7])
 (.seq (.cond (.tmp 9)
 .skip
 (.exit 0))
 (.seq (.block 1
 (.seq (.ops [⟨(some 10), (.ia 1 (.tmp 6) (.tmp 8)), .ptr, none⟩,
  ⟨(some 11), (.ld1 (.tmp 10)), (.int .i64), none⟩,
  ⟨(some 5), (.mv (.tmp 11)), (.int .i64), none⟩] [5, 3, 8, 7, 6])
 (.seq (.ops [⟨(some 12), (.mv (.tmp 5)), (.int .i64), none⟩,
  ⟨(some 13), (.mv (.tmp 3)), (.int .i64), none⟩,
  ⟨(some 14), (.bin .neq (.tmp 12) (.tmp 13)), .bool, none⟩] [14, 5, 8, 7, 6, 3])
 (.cond (.tmp 14)
 (.seq (.ops [⟨(some 15), (.mv (.tmp 5)), (.int .i64), none⟩,
  ⟨(some 2), (.mv (.tmp 15)), (.int .i64), none⟩] [2])
 .ret)
 .skip))))
 (.ops [⟨(some 16), (.bin .add (.tmp 8) (.const (.int .i64 1))), (.int .i64), none⟩,
  ⟨(some 8), (.mv (.tmp 16)), (.int .i64), none⟩] [8, 7, 6, 3])))))))
 (.seq (.ops [⟨(some 17), (.mv (.tmp 3)), (.int .i64), none⟩,
  ⟨(some 2), (.mv (.tmp 17)), (.int .i64), none⟩] [2])
 .ret))))
def r114 : List Res := [.t 2]
theorem tr114 : trS Tryd.prog [] 18 (Tryd.f114.body.getD .skip) s114 = some s114 := by kernel_rfl
theorem den114 (args : List Value) (w : World) (R : Ending → World → Prop) (hn : args.length ≤ 18) (h : denS Tryd.prog s114 (argsEnv 0 args) w (endK r114 R)) : Calls Tryd.prog 114 args.toArray w R :=
  calls_of_den (pn := []) (fn := Tryd.f114) (c := Tryd.f114.body.getD .skip) Tryd.func114 (by kernel_rfl) (by rw [Tryd.ntmps114]; exact hn) (by rw [Tryd.ntmps114]; exact tr114) (by kernel_rfl) h
def d114 (vals0 : Option Addr) (vals0n : Nat) (vals0c : Nat) (w : World) (R : Ending → World → Prop) : Prop :=
 ∃ I1 : Nat → Int → World → Prop,
 (∃ m, I1 m 0 w) ∧
 (∀ (m2 : Nat) (w3 : World) (x4 : Int), I1 m2 x4 w3 →
 (bif (decide (x4 < ((vals0n : Nat) : Int))) then
 (0 ≤ x4 ∧ x4 < ((vals0n : Nat) : Int) ∧ optK vals0 fun a5 =>
 ∃ x6 : Int, World.cell? w3 (Addr.add a5 (Int.toNat x4 * 1)) = some (.int .i64 x6) ∧
 (bif (!decide (x6 = 0)) then
 (R (.returned (.int .i64 x6)) w3)
 else
 (∃ m7, m7 < m2 ∧ I1 m7 (IntKind.wrap .i64 (x4 + 1)) w3)))
 else
 (R (.returned (.int .i64 0)) w3)))
theorem e114 (vals0 : Option Addr) (vals0n : Nat) (vals0c : Nat) (w : World) (R : Ending → World → Prop) : denS Tryd.prog s114 (argsEnv 0 [(.slice vals0 vals0n vals0c)]) w (endK r114 R) = d114 vals0 vals0n vals0c w R := by kernel_rfl
theorem c114 (vals0 : Option Addr) (vals0n : Nat) (vals0c : Nat) {w : World} {R : Ending → World → Prop} (h : d114 vals0 vals0n vals0c w R) : Calls Tryd.prog 114 #[(.slice vals0 vals0n vals0c)] w R :=
  den114 [(.slice vals0 vals0n vals0c)] w R (by simp) ((e114 vals0 vals0n vals0c w R).symm ▸ h)

/-- cmp.Compare[int] -/
def s115 : S := (.seq (.ops [⟨(some 4), (.mv (.const (.int .i64 0))), (.int .i64), none⟩] [0, 1])
 (.seq (.ops [⟨(some 7), (.mv (.tmp 0)), (.int .i64), none⟩,
  ⟨(some 8), (.call 117 [(.tmp 7)] [.bool]), .bool, none⟩,
  ⟨(some 5), (.mv (.tmp 8)), .bool, none⟩] [1, 5, 0])
 (.seq (.ops [⟨(some 9), (.mv (.tmp 1)), (.int .i64), none⟩,
  ⟨(some 10), (.call 117 [(.tmp 9)] [.bool]), .bool, none⟩,
  ⟨(some 6), (.mv (.tmp 10)), .bool, none⟩] [5, 6, 0, 1])
 (.seq (.seq (.ops [⟨(some 11), (.mv (.tmp 5)), .bool, none⟩] [11, 6, 0, 1])
 (.cond (.tmp 11)
 (.seq (.seq (.ops [⟨(some 12), (.mv (.tmp 6)), .bool, none⟩] [12])
 (.cond (.tmp 12)
 (.seq (.ops [⟨(some 4), (.mv (.const (.int .i64 0))), (.int .i64), none⟩] [4])
 .ret)
 .skip))
 (.seq (.ops [⟨(some 4), (.mv (.const (.int .i64 (-1)))), (.int .i64), none⟩] [4])
 .ret))
 .skip))
 (.seq (.seq (.ops [⟨(some 13), (.mv (.tmp 6)), .bool, none⟩] [13, 0, 1])
 (.cond (.tmp 13)
 (.seq (.ops [⟨(some 4), (.mv (.const (.int .i64 1))), (.int .i64), none⟩] [4])
 .ret)
 .skip))
 (.seq (.seq (.ops [⟨(some 14), (.mv (.tmp 0)), (.int .i64), none⟩,
  ⟨(some 15), (.mv (.tmp 1)), (.int .i64), none⟩,
  ⟨(some 16), (.bin .lss (.tmp 14) (.tmp 15)), .bool, none⟩] [16, 0, 1])
 (.cond (.tmp 16)
 (.seq (.ops [⟨(some 4), (.mv (.const (.int .i64 (-1)))), (.int .i64), none⟩] [4])
 .ret)
 .skip))
 (.seq (.seq (.ops [⟨(some 17), (.mv (.tmp 0)), (.int .i64), none⟩,
  ⟨(some 18), (.mv (.tmp 1)), (.int .i64), none⟩,
  ⟨(some 19), (.bin .gtr (.tmp 17) (.tmp 18)), .bool, none⟩] [19])
 (.cond (.tmp 19)
 (.seq (.ops [⟨(some 4), (.mv (.const (.int .i64 1))), (.int .i64), none⟩] [4])
 .ret)
 .skip))
 (.seq (.ops [⟨(some 4), (.mv (.const (.int .i64 0))), (.int .i64), none⟩] [4])
 .ret))))))))
def r115 : List Res := [.t 4]
theorem tr115 : trS Tryd.prog [] 20 (Tryd.f115.body.getD .skip) s115 = some s115 := by kernel_rfl
theorem den115 (args : List Value) (w : World) (R : Ending → World → Prop) (hn : args.length ≤ 20) (h : denS Tryd.prog s115 (argsEnv 0 args) w (endK r115 R)) : Calls Tryd.prog 115 args.toArray w R :=
  calls_of_den (pn := []) (fn := Tryd.f115) (c := Tryd.f115.body.getD .skip) Tryd.func115 (by kernel_rfl) (by rw [Tryd.ntmps115]; exact hn) (by rw [Tryd.ntmps115]; exact tr115) (by kernel_rfl) h
def d115 (x0 : Int) (y1 : Int) (w : World) (R : Ending → World → Prop) : Prop :=
 Calls Tryd.prog 117 #[(.int .i64 x0)] w fun e2 w3 => ∃ x4 : Bool, e2 = .returned (.bool x4) ∧
 Calls Tryd.prog 117 #[(.int .i64 y1)] w3 fun e5 w6 => ∃ x7 : Bool, e5 = .returned (.bool x7) ∧
 (bif x4 then
 ((bif x7 then
 (R (.returned (.int .i64 0)) w6)
 else
 (R (.returned (.int .i64 (-1))) w6)))
 else
 ((bif x7 then
 (R (.returned (.int .i64 1)) w6)
 else
 ((bif (decide (x0 < y1)) then
 (R (.returned (.int .i64 (-1))) w6)
 else
 ((bif (decide (y1 < x0)) then
 (R (.returned (.int .i64 1)) w6)
 else
 (R (.returned (.int .i64 0)) w6))))))))
theorem e115 (x0 : Int) (y1 : Int) (w : World) (R : Ending → World → Prop) : denS Tryd.prog s115 (argsEnv 0 [(.int .i64 x0), (.int .i64 y1)]) w (endK r115 R) = d115 x0 y1 w R := by kernel_rfl
theorem c115 (x0 : Int) (y1 : Int) {w : World} {R : Ending → World → Prop} (h : d115 x0 y1 w R) : Calls Tryd.prog 115 #[(.int .i64 x0), (.int .i64 y1)] w R :=
  den115 [(.int .i64 x0), (.int .i64 y1)] w R (by simp) ((e115 x0 y1 w R).symm ▸ h)

/-- cmp.Compare[int64] -/
def s116 : S := (.seq (.ops [⟨(some 4), (.mv (.const (.int .i64 0))), (.int .i64), none⟩] [0, 1])
 (.seq (.ops [⟨(some 7), (.mv (.tmp 0)), (.int .i64), none⟩,
  ⟨(some 8), (.call 118 [(.tmp 7)] [.bool]), .bool, none⟩,
  ⟨(some 5), (.mv (.tmp 8)), .bool, none⟩] [1, 5, 0])
 (.seq (.ops [⟨(some 9), (.mv (.tmp 1)), (.int .i64), none⟩,
  ⟨(some 10), (.call 118 [(.tmp 9)] [.bool]), .bool, none⟩,
  ⟨(some 6), (.mv (.tmp 10)), .bool, none⟩] [5, 6, 0, 1])
 (.seq (.seq (.ops [⟨(some 11), (.mv (.tmp 5)), .bool, none⟩] [11, 6, 0, 1])
 (.cond (.tmp 11)
 (.seq (.seq (.ops [⟨(some 12), (.mv (.tmp 6)), .bool, none⟩] [12])
 (.cond (.tmp 12)
 (.seq (.ops [⟨(some 4), (.mv (.const (.int .i64 0))), (.int .i64), none⟩] [4])
 .ret)
 .skip))
 (.seq (.ops [⟨(some 4), (.mv (.const (.int .i64 (-1)))), (.int .i64), none⟩] [4])
 .ret))
 .skip))
 (.seq (.seq (.ops [⟨(some 13), (.mv (.tmp 6)), .bool, none⟩] [13, 0, 1])
 (.cond (.tmp 13)
 (.seq (.ops [⟨(some 4), (.mv (.const (.int .i64 1))), (.int .i64), none⟩] [4])
 .ret)
 .skip))
 (.seq (.seq (.ops [⟨(some 14), (.mv (.tmp 0)), (.int .i64), none⟩,
  ⟨(some 15), (.mv (.tmp 1)), (.int .i64), none⟩,
  ⟨(some 16), (.bin .lss (.tmp 14) (.tmp 15)), .bool, none⟩] [16, 0, 1])
 (.cond (.tmp 16)
 (.seq (.ops [⟨(some 4), (.mv (.const (.int .i64 (-1)))), (.int .i64), none⟩] [4])
 .ret)
 .skip))
 (.seq (.seq (.ops [⟨(some 17), (.mv (.tmp 0)), (.int .i64), none⟩,
  ⟨(some 18), (.mv (.tmp 1)), (.int .i64), none⟩,
  ⟨(some 19), (.bin .gtr (.tmp 17) (.tmp 18)), .bool, none⟩] [19])
 (.cond (.tmp 19)
 (.seq (.ops [⟨(some 4), (.mv (.const (.int .i64 1))), (.int .i64), none⟩] [4])
 .ret)
 .skip))
 (.seq (.ops [⟨(some 4), (.mv (.const (.int .i64 0))), (.int .i64), none⟩] [4])
 .ret))))))))
def r116 : List Res := [.t 4]
theorem tr116 : trS Tryd.prog [] 20 (Tryd.f116.body.getD .skip) s116 = some s116 := by kernel_rfl
theorem den116 (args : List Value) (w : World) (R : Ending → World → Prop) (hn : args.length ≤ 20) (h : denS Tryd.prog s116 (argsEnv 0 args) w (endK r116 R)) : Calls Tryd.prog 116 args.toArray w R :=
  calls_of_den (pn := []) (fn := Tryd.f116) (c := Tryd.f116.body.getD .skip) Tryd.func116 (by kernel_rfl) (by rw [Tryd.ntmps116]; exact hn) (by rw [Tryd.ntmps116]; exact tr116) (by kernel_rfl) h
def d116 (x0 : Int) (y1 : Int) (w : World) (R : Ending → World → Prop) : Prop :=
 Calls Tryd.prog 118 #[(.int .i64 x0)] w fun e2 w3 => ∃ x4 : Bool, e2 = .returned (.bool x4) ∧
 Calls Tryd.prog 118 #[(.int .i64 y1)] w3 fun e5 w6 => ∃ x7 : Bool, e5 = .returned (.bool x7) ∧
 (bif x4 then
 ((bif x7 then
 (R (.returned (.int .i64 0)) w6)
 else
 (R (.returned (.int .i64 (-1))) w6)))
 else
 ((bif x7 then
 (R (.returned (.int .i64 1)) w6)
 else
 ((bif (decide (x0 < y1)) then
 (R (.returned (.int .i64 (-1))) w6)
 else
 ((bif (decide (y1 < x0)) then
 (R (.returned (.int .i64 1)) w6)
 else
 (R (.returned (.int .i64 0)) w6))))))))
theorem e116 (x0 : Int) (y1 : Int) (w : World) (R : Ending → World → Prop) : denS Tryd.prog s116 (argsEnv 0 [(.int .i64 x0), (.int .i64 y1)]) w (endK r116 R) = d116 x0 y1 w R := by kernel_rfl
theorem c116 (x0 : Int) (y1 : Int) {w : World} {R : Ending → World → Prop} (h : d116 x0 y1 w R) : Calls Tryd.prog 116 #[(.int .i64 x0), (.int .i64 y1)] w R :=
  den116 [(.int .i64 x0), (.int .i64 y1)] w R (by simp) ((e116 x0 y1 w R).symm ▸ h)

/-- cmp.isNaN[int] -/
def s117 : S := (.seq (.ops [⟨(some 2), (.mv (.const (.bool false))), .bool, none⟩] [0])
 (.seq (.ops [⟨(some 3), (.mv (.tmp 0)), (.int .i64), none⟩,
  ⟨(some 4), (.mv (.tmp 0)), (.int .i64), none⟩,
  ⟨(some 5), (.bin .neq (.tmp 3) (.tmp 4)), .bool, none⟩,
  ⟨(some 2), (.mv (.tmp 5)), .bool, none⟩] [2])
 .ret))
def r117 : List Res := [.t 2]
theorem tr117 : trS Tryd.prog [] 6 (Tryd.f117.body.getD .skip) s117 = some s117 := by kernel_rfl
theorem den117 (args : List Value) (w : World) (R : Ending → World → Prop) (hn : args.length ≤ 6) (h : denS Tryd.prog s117 (argsEnv 0 args) w (endK r117 R)) : Calls Tryd.prog 117 args.toArray w R :=
  calls_of_den (pn := []) (fn := Tryd.f117) (c := Tryd.f117.body.getD .skip) Tryd.func117 (by kernel_rfl) (by rw [Tryd.ntmps117]; exact hn) (by rw [Tryd.ntmps117]; exact tr117) (by kernel_rfl) h
def d117 (x0 : Int) (w : World) (R : Ending → World → Prop) : Prop :=
 R (.returned (.bool (!decide (x0 = x0)))) w
theorem e117 (x0 : Int) (w : World) (R : Ending → World → Prop) : denS Tryd.prog s117 (argsEnv 0 [(.int .i64 x0)]) w (endK r117 R) = d117 x0 w R := by kernel_rfl
theorem c117 (x0 : Int) {w : World} {R : Ending → World → Prop} (h : d117 x0 w R) : Calls Tryd.prog 117 #[(.int .i64 x0)] w R :=
  den117 [(.int .i64 x0)] w R (by simp) ((e117 x0 w R).symm ▸ h)

/-- cmp.isNaN[int64] -/
def s118 : S := (.seq (.ops [⟨(some 2), (.mv (.const (.bool false))), .bool, none⟩] [0])
 (.seq (.ops [⟨(some 3), (.mv (.tmp 0)), (.int .i64), none⟩,
  ⟨(some 4), (.mv (.tmp 0)), (.int .i64), none⟩,
  ⟨(some 5), (.bin .neq (.tmp 3) (.tmp 4)), .bool, none⟩,
  ⟨(some 2), (.mv (.tmp 5)), .bool, none⟩] [2])
 .ret))
def r118 : List Res := [.t 2]
theorem tr118 : trS Tryd.prog [] 6 (Tryd.f118.body.getD .skip) s118 = some s118 := by kernel_rfl
theorem den118 (args : List Value) (w : World) (R : Ending → World → Prop) (hn : args.length ≤ 6) (h : denS Tryd.prog s118 (argsEnv 0 args) w (endK r118 R)) : Calls Tryd.prog 118 args.toArray w R :=
  calls_of_den (pn := []) (fn := Tryd.f118) (c := Tryd.f118.body.getD .skip) Tryd.func118 (by kernel_rfl) (by rw [Tryd.ntmps118]; exact hn) (by rw [Tryd.ntmps118]; exact tr118) (by kernel_rfl) h
def d118 (x0 : Int) (w : World) (R : Ending → World → Prop) : Prop :=
 R (.returned (.bool (!decide (x0 = x0)))) w
theorem e118 (x0 : Int) (w : World) (R : Ending → World → Prop) : denS Tryd.prog s118 (argsEnv 0 [(.int .i64 x0)]) w (endK r118 R) = d118 x0 w R := by kernel_rfl
theorem c118 (x0 : Int) {w : World} {R : Ending → World → Prop} (h : d118 x0 w R) : Calls Tryd.prog 118 #[(.int .i64 x0)] w R :=
  den118 [(.int .i64 x0)] w R (by simp) ((e118 x0 w R).symm ▸ h)

/-- prelude/preluderef02.Check -/
def s107 : S := (.seq (.ops [⟨(some 1), (.box 129 (.tmp 0)), .ptr, none⟩,
  ⟨(some 2), (.mv (.const (.int .i64 0))), (.int .i64), none⟩] [1])
 (.seq (.seq (.ops [⟨(some 3), (.fa 0 (.tmp 1)), .ptr, none⟩,
  ⟨(some 4), (.ld1 (.tmp 3)), (.int .i64), none⟩,
  ⟨(some 5), (.bin .lss (.tmp 4) (.const (.int .i64 0))), .bool, none⟩,
  ⟨(some 6), (.mv (.tmp 5)), .bool, none⟩,
  ⟨(some 7), (.fa 0 (.tmp 1)), .ptr, (some (6, false))⟩,
  ⟨(some 8), (.ld1 (.tmp 7)), (.int .i64), (some (6, false))⟩,
  ⟨(some 9), (.bin .gtr (.tmp 8) (.const (.int .i64 65535))), .bool, (some (6, false))⟩,
  ⟨(some 10), (.pick (.tmp 6) (.const (.bool true)) (.tmp 9)), .bool, none⟩] [10])
 (.cond (.tmp 10)
 (.seq (.ops [⟨(some 2), (.mv (.const (.int .i64 20))), (.int .i64), none⟩] [2])
 .ret)
 .skip))
 (.seq (.ops [⟨(some 2), (.mv (.const (.int .i64 0))), (.int .i64), none⟩] [2])
 .ret)))
def r107 : List Res := [.t 2]
theorem tr107 : trS Tryd.prog [] 11 (Tryd.f107.body.getD .skip) s107 = some s107 := by kernel_rfl
theorem den107 (args : List Value) (w : World) (R : Ending → World → Prop) (hn : args.length ≤ 11) (h : denS Tryd.prog s107 (argsEnv 0 args) w (endK r107 R)) : Calls Tryd.prog 107 args.toArray w R :=
  calls_of_den (pn := []) (fn := Tryd.f107) (c := Tryd.f107.body.getD .skip) Tryd.func107 (by kernel_rfl) (by rw [Tryd.ntmps107]; exact hn) (by rw [Tryd.ntmps107]; exact tr107) (by kernel_rfl) h
def d107 (k0 : Array Value) (w : World) (R : Ending → World → Prop) : Prop :=
 ∀ w1 : World, w1 = World.alloc w (.cells k0 129) →
 ∃ x2 : Int, World.cell? w1 (Addr.add ⟨World.heap w |>.size, 0, none⟩ 0) = some (.int .i64 x2) ∧
 (bif (decide (x2 < 0)) then
 (R (.returned (.int .i64 20)) w1)
 else
 (∃ x3 : Int, World.cell? w1 (Addr.add ⟨World.heap w |>.size, 0, none⟩ 0) = some (.int .i64 x3) ∧
 (bif (decide (65535 < x3)) then
 (R (.returned (.int .i64 20)) w1)
 else
 (R (.returned (.int .i64 0)) w1))))
theorem e107 (k0 : Array Value) (w : World) (R : Ending → World → Prop) : denS Tryd.prog s107 (argsEnv 0 [(.agg k0)]) w (endK r107 R) = d107 k0 w R := by kernel_rfl
theorem c107 (k0 : Array Value) {w : World} {R : Ending → World → Prop} (h : d107 k0 w R) : Calls Tryd.prog 107 #[(.agg k0)] w R :=
  den107 [(.agg k0)] w R (by simp) ((e107 k0 w R).symm ▸ h)

/-- prelude/preluderef02.ten -/
def s108 : S := (.seq (.ops [⟨(some 1), (.box 129 (.tmp 0)), .ptr, none⟩,
  ⟨(some 2), (.alloc 162), .ptr, none⟩] [1, 2])
 (.seq (.ops [⟨(some 3), (.alloc 162), .ptr, none⟩] [1, 3, 2])
 (.seq (.ops [⟨(some 6), (.fa 0 (.tmp 1)), .ptr, none⟩,
  ⟨(some 7), (.ld1 (.tmp 6)), (.int .i64), none⟩,
  ⟨(some 8), (.bin .quo (.tmp 7) (.const (.int .i64 256))), (.int .i64), none⟩,
  ⟨(some 9), (.cv .u8 (.tmp 8)), (.int .u8), none⟩,
  ⟨(some 10), (.iaA 10 1 (.tmp 3) (.const (.int .i64 0))), .ptr, none⟩,
  ⟨none, (.st1 (.tmp 10) (.tmp 9)), .any, none⟩] [1, 3, 2])
 (.seq (.ops [⟨(some 11), (.fa 0 (.tmp 1)), .ptr, none⟩,
  ⟨(some 12), (.ld1 (.tmp 11)), (.int .i64), none⟩,
  ⟨(some 13), (.bin .rem (.tmp 12) (.const (.int .i64 256))), (.int .i64), none⟩,
  ⟨(some 14), (.cv .u8 (.tmp 13)), (.int .u8), none⟩,
  ⟨(some 15), (.iaA 10 1 (.tmp 3) (.const (.int .i64 1))), .ptr, none⟩,
  ⟨none, (.st1 (.tmp 15) (.tmp 14)), .any, none⟩] [1, 3, 2])
 (.seq (.ops [⟨(some 16), (.fa 1 (.tmp 1)), .ptr, none⟩,
  ⟨(some 17), (.ld1 (.tmp 16)), (.int .i64), none⟩,
  ⟨(some 18), (.cv .u64 (.tmp 17)), (.int .u64), none⟩,
  ⟨(some 19), (.bin .xor (.tmp 18) (.const (.int .u64 9223372036854775808))), (.int .u64), none⟩,
  ⟨(some 4), (.mv (.tmp 19)), (.int .u64), none⟩] [4, 3, 2])
 (.seq (.seq (.ops [⟨(some 5), (.mv (.const (.int .i64 0))), (.int .i64), none⟩] [5, 4, 3, 2])
 (.block 0
 (.loop [(4, (.int .u64)), (5, (.int .i64))] [2, 3]
 (.seq (.seq (.ops [⟨(some 20), (.mv (.tmp 5)), (.int .i64), none⟩,
  ⟨(some 21), (.bin .lss (.tmp 20) (.const (.int .i64 8))), .bool, none⟩] [21, 5, 4, 3, 2])
 (.cond (.tmp 21)
 .skip
 (.exit 0)))
 (.seq (.block 1
 (.seq (.ops [⟨(some 24), (.mv (.tmp 5)), (.int .i64), none⟩,
  ⟨(some 25), (.bin .sub (.const (.int .i64 9)) (.tmp 24)), (.int .i64), none⟩,
  ⟨(some 26), (.mv (.tmp 4)), (.int .u64), none⟩,
  ⟨(some 27), (.bin .rem (.tmp 26) (.const (.int .u64 256))), (.int .u64), none⟩,
  ⟨(some 28), (.cv .u8 (.tmp 27)), (.int .u8), none⟩,
  ⟨(some 29), (.iaA 10 1 (.tmp 3) (.tmp 25)), .ptr, none⟩,
  ⟨none, (.st1 (.tmp 29) (.tmp 28)), .any, none⟩] [4, 5, 3, 2])
 (.ops [⟨(some 30), (.mv (.tmp 4)), (.int .u64), none⟩,
  ⟨(some 31), (.bin .quo (.tmp 30) (.const (.int .u64 256))), (.int .u64), none⟩,
  ⟨(some 4), (.mv (.tmp 31)), (.int .u64), none⟩] [5, 4, 3, 2])))
 (.ops [⟨(some 22), (.mv (.tmp 5)), (.int .i64), none⟩,
  ⟨(some 23), (.bin .add (.tmp 22) (.const (.int .i64 1))), (.int .i64), none⟩,
  ⟨(some 5), (.mv (.tmp 23)), (.int .i64), none⟩] [5, 4, 3, 2]))))))
 (.seq (.ops [⟨(some 32), (.ldN 10 (.tmp 3)), .agg, none⟩,
  ⟨none, (.stN 10 (.tmp 2) (.tmp 32)), .any, none⟩] [2])
 .ret)))))))
def r108 : List Res := [.cN 2 10]
theorem tr108 : trS Tryd.prog [] 33 (Tryd.f108.body.getD .skip) s108 = some s108 := by kernel_rfl
theorem den108 (args : List Value) (w : World) (R : Ending → World → Prop) (hn : args.length ≤ 33) (h : denS Tryd.prog s108 (argsEnv 0 args) w (endK r108 R)) : Calls Tryd.prog 108 args.toArray w R :=
  calls_of_den (pn := []) (fn := Tryd.f108) (c := Tryd.f108.body.getD .skip) Tryd.func108 (by kernel_rfl) (by rw [Tryd.ntmps108]; exact hn) (by rw [Tryd.ntmps108]; exact tr108) (by kernel_rfl) h
def d108 (k0 : Array Value) (w : World) (R : Ending → World → Prop) : Prop :=
 ∀ w1 : World, w1 = World.alloc w (.cells k0 129) →
 ∀ w2 : World, w2 = World.alloc w1 (.cells (zc Tryd.prog 162).toArray 162) →
 ∀ w3 : World, w3 = World.alloc w2 (.cells (zc Tryd.prog 162).toArray 162) →
 ∃ x4 : Int, World.cell? w3 (Addr.add ⟨World.heap w |>.size, 0, none⟩ 0) = some (.int .i64 x4) ∧
 (256 : Int) ≠ 0 ∧ 0 ≤ (0 : Int) ∧ (0 : Int) < ((10 : Nat) : Int) ∧
 one (.int .u8 (IntKind.wrap .u8 (IntKind.wrap .i64 (Int.tdiv x4 256)))) = true ∧ Option.isSome (World.cell? w3 (Addr.add ⟨World.heap w2 |>.size, 0, none⟩ (Int.toNat 0 * 1))) = true ∧ World.frozen? w3 (Addr.add ⟨World.heap w2 |>.size, 0, none⟩ (Int.toNat 0 * 1)) = false ∧
 ∀ w5 : World, w5 = World.setCell w3 (Addr.add ⟨World.heap w2 |>.size, 0, none⟩ (Int.toNat 0 * 1)) (.int .u8 (IntKind.wrap .u8 (IntKind.wrap .i64 (Int.tdiv x4 256)))) →
 ∃ x6 : Int, World.cell? w5 (Addr.add ⟨World.heap w |>.size, 0, none⟩ 0) = some (.int .i64 x6) ∧
 (256 : Int) ≠ 0 ∧ 0 ≤ (1 : Int) ∧ (1 : Int) < ((10 : Nat) : Int) ∧
 one (.int .u8 (IntKind.wrap .u8 (Int.tmod x6 256))) = true ∧ Option.isSome (World.cell? w5 (Addr.add ⟨World.heap w2 |>.size, 0, none⟩ (Int.toNat 1 * 1))) = true ∧ World.frozen? w5 (Addr.add ⟨World.heap w2 |>.size, 0, none⟩ (Int.toNat 1 * 1)) = false ∧
 ∀ w7 : World, w7 = World.setCell w5 (Addr.add ⟨World.heap w2 |>.size, 0, none⟩ (Int.toNat 1 * 1)) (.int .u8 (IntKind.wrap .u8 (Int.tmod x6 256))) →
 ∃ x8 : Int, World.cell? w7 (Addr.add ⟨World.heap w |>.size, 0, none⟩ 1) = some (.int .i64 x8) ∧
 ∃ I9 : Nat → Int → Int → World → Prop,
 (∃ m, I9 m (bXor .u64 (IntKind.wrap .u64 x8) 9223372036854775808) 0 w7) ∧
 (∀ (m10 : Nat) (w11 : World) (u12 : Int) (i13 : Int), I9 m10 u12 i13 w11 →
 (bif (decide (i13 < 8)) then
 ((256 : Int) ≠ 0 ∧ 0 ≤ (IntKind.wrap .i64 (9 - i13)) ∧ (IntKind.wrap .i64 (9 - i13)) < ((10 : Nat) : Int) ∧
 one (.int .u8 (IntKind.wrap .u8 (Int.tmod u12 256))) = true ∧ Option.isSome (World.cell? w11 (Addr.add ⟨World.heap w2 |>.size, 0, none⟩ (Int.toNat (IntKind.wrap .i64 (9 - i13)) * 1))) = true ∧ World.frozen? w11 (Addr.add ⟨World.heap w2 |>.size, 0, none⟩ (Int.toNat (IntKind.wrap .i64 (9 - i13)) * 1)) = false ∧
 ∀ w14 : World, w14 = World.setCell w11 (Addr.add ⟨World.heap w2 |>.size, 0, none⟩ (Int.toNat (IntKind.wrap .i64 (9 - i13)) * 1)) (.int .u8 (IntKind.wrap .u8 (Int.tmod u12 256))) →
 (256 : Int) ≠ 0 ∧ ∃ m15, m15 < m10 ∧ I9 m15 (IntKind.wrap .u64 (Int.tdiv u12 256)) (IntKind.wrap .i64 (i13 + 1)) w14)
 else
 (∃ cs16 : List Value, List.length cs16 = 10 ∧ Cells w11 ⟨World.heap w2 |>.size, 0, none⟩ cs16 ∧
 Array.size (List.toArray cs16) = 10 ∧ (∀ u ∈ Array.toList (List.toArray cs16), one u = true) ∧ Room w11 ⟨World.heap w1 |>.size, 0, none⟩ 10 ∧
 ∀ w17 : World, w17 = setCells w11 ⟨World.heap w1 |>.size, 0, none⟩ (Array.toList (List.toArray cs16)) 0 →
 ∃ cs18 : List Value, List.length cs18 = 10 ∧ Cells w17 ⟨World.heap w1 |>.size, 0, none⟩ cs18 ∧
 R (.returned (.agg (List.toArray cs18))) w17)))
theorem e108 (k0 : Array Value) (w : World) (R : Ending → World → Prop) : denS Tryd.prog s108 (argsEnv 0 [(.agg k0)]) w (endK r108 R) = d108 k0 w R := by kernel_rfl
theorem c108 (k0 : Array Value) {w : World} {R : Ending → World → Prop} (h : d108 k0 w R) : Calls Tryd.prog 108 #[(.agg k0)] w R :=
  den108 [(.agg k0)] w R (by simp) ((e108 k0 w R).symm ▸ h)

/-- prelude/preluderef02.Bytes -/
def s94 : S := (.seq (.ops [⟨(some 1), (.box 129 (.tmp 0)), .ptr, none⟩,
  ⟨(some 2), (.mv (.const (.slice none 0 0))), .sl, none⟩,
  ⟨(some 3), (.mv (.const (.int .i64 0))), (.int .i64), none⟩] [1])
 (.seq (.ops [⟨(some 8), (.ldN 2 (.tmp 1)), .agg, none⟩,
  ⟨(some 9), (.call 107 [(.tmp 8)] [(.int .i64)]), (.int .i64), none⟩,
  ⟨(some 4), (.mv (.tmp 9)), (.int .i64), none⟩] [4, 1])
 (.seq (.seq (.ops [⟨(some 10), (.mv (.tmp 4)), (.int .i64), none⟩,
  ⟨(some 11), (.bin .neq (.tmp 10) (.const (.int .i64 0))), .bool, none⟩] [11, 4, 1])
 (.cond (.tmp 11)
 (.seq (.ops [⟨(some 12), (.mv (.tmp 4)), (.int .i64), none⟩,
  ⟨(some 2), (.mv (.const (.slice none 0 0))), .sl, none⟩,
  ⟨(some 3), (.mv (.tmp 12)), (.int .i64), none⟩] [2, 3])
 .ret)
 .skip))
 (.seq (.ops [⟨(some 13), (.ldN 2 (.tmp 1)), .agg, none⟩,
  ⟨(some 14), (.call 108 [(.tmp 13)] [.agg]), .agg, none⟩,
  ⟨(some 5), (.alloc 162), .ptr, none⟩,
  ⟨none, (.stN 10 (.tmp 5) (.tmp 14)), .any, none⟩] [5])
 (.seq (.ops [⟨(some 6), (.mv (.const (.slice none 0 0))), .sl, none⟩] [6, 5])
 (.seq (.seq (.ops [⟨(some 7), (.mv (.const (.int .i64 0))), (.int .i64), none⟩] [7, 6, 5])
 (.block 0
 (.loop [(6, .sl), (7, (.int .i64))] [5]
 (.seq (.seq (.ops [⟨(some 15), (.mv (.tmp 7)), (.int .i64), none⟩,
  ⟨(some 16), (.bin .lss (.tmp 15) (.const (.int .i64 10))), .bool, none⟩] [16, 6, 7, 5])
 (.cond (.tmp 16)
 .skip
 (.exit 0)))
 (.seq (.block 1
 (.ops [⟨(some 19), (.mv (.tmp 6)), .sl, none⟩,
  ⟨(some 20), (.mv (.tmp 7)), (.int .i64), none⟩,
  ⟨(some 21), (.iaA 10 1 (.tmp 5) (.tmp 20)), .ptr, none⟩,
  ⟨(some 22), (.ld1 (.tmp 21)), (.int .u8), none⟩,
  ⟨(some 23), (.bldS 5 1 1 [(0, (.tmp 22))]), .sl, none⟩,
  ⟨(some 24), (.app #[22, 22] 22 (.tmp 19) (.tmp 23)), .sl, none⟩,
  ⟨(some 6), (.mv (.tmp 24)), .sl, none⟩] [7, 6, 5]))
 (.ops [⟨(some 17), (.mv (.tmp 7)), (.int .i64), none⟩,
  ⟨(some 18), (.bin .add (.tmp 17) (.const (.int .i64 1))), (.int .i64), none⟩,
  ⟨(some 7), (.mv (.tmp 18)), (.int .i64), none⟩] [7, 6, 5]))))))
 (.seq (.ops [⟨(some 25), (.mv (.tmp 6)), .sl, none⟩,
  ⟨(some 2), (.mv (.tmp 25)), .sl, none⟩,
  ⟨(some 3), (.mv (.const (.int .i64 0))), (.int .i64), none⟩] [2, 3])
 .ret)))))))
def r94 : List Res := [.t 2, .t 3]
theorem tr94 : trS Tryd.prog [] 26 (Tryd.f94.body.getD .skip) s94 = some s94 := by kernel_rfl
theorem den94 (args : List Value) (w : World) (R : Ending → World → Prop) (hn : args.length ≤ 26) (h : denS Tryd.prog s94 (argsEnv 0 args) w (endK r94 R)) : Calls Tryd.prog 94 args.toArray w R :=
  calls_of_den (pn := []) (fn := Tryd.f94) (c := Tryd.f94.body.getD .skip) Tryd.func94 (by kernel_rfl) (by rw [Tryd.ntmps94]; exact hn) (by rw [Tryd.ntmps94]; exact tr94) (by kernel_rfl) h
def d94 (k0 : Array Value) (w : World) (R : Ending → World → Prop) : Prop :=
 ∀ w1 : World, w1 = World.alloc w (.cells k0 129) →
 ∃ cs2 : List Value, List.length cs2 = 2 ∧ Cells w1 ⟨World.heap w |>.size, 0, none⟩ cs2 ∧
 Calls Tryd.prog 107 #[(.agg (List.toArray cs2))] w1 fun e3 w4 => ∃ x5 : Int, e3 = .returned (.int .i64 x5) ∧
 (bif (!decide (x5 = 0)) then
 (R (.returned (.tuple #[(.slice none 0 0), (.int .i64 x5)])) w4)
 else
 (∃ cs6 : List Value, List.length cs6 = 2 ∧ Cells w4 ⟨World.heap w |>.size, 0, none⟩ cs6 ∧
 Calls Tryd.prog 108 #[(.agg (List.toArray cs6))] w4 fun e7 w8 => ∃ x9 : Array Value, e7 = .returned (.agg x9) ∧
 ∀ w10 : World, w10 = World.alloc w8 (.cells (zc Tryd.prog 162).toArray 162) →
 Array.size x9 = 10 ∧ (∀ u ∈ Array.toList x9, one u = true) ∧ Room w10 ⟨World.heap w8 |>.size, 0, none⟩ 10 ∧
 ∀ w11 : World, w11 = setCells w10 ⟨World.heap w8 |>.size, 0, none⟩ (Array.toList x9) 0 →
 ∃ I12 : Nat → Option Addr → Nat → Nat → Int → World → Prop,
 (∃ m, I12 m none 0 0 0 w11) ∧
 (∀ (m13 : Nat) (w14 : World) (l15 : Option Addr) (l15n : Nat) (l15c : Nat) (i16 : Int), I12 m13 l15 l15n l15c i16 w14 →
 (bif (decide (i16 < 10)) then
 (0 ≤ i16 ∧ i16 < ((10 : Nat) : Int) ∧
 ∃ x17 : Int, World.cell? w14 (Addr.add ⟨World.heap w8 |>.size, 0, none⟩ (Int.toNat i16 * 1)) = some (.int .u8 x17) ∧
 ∃ cs18, fillL (.elems 1) (zrep (zc Tryd.prog 5) (1 * 1)) [(0, (.int .u8 x17))] = some cs18 ∧
 ∀ w19 : World, w19 = World.alloc w14 (.cells (List.toArray cs18) 5) →
 RunV Tryd.prog (Builtin.append_ #[22, 22] 22 #[(.slice l15 l15n l15c), (.slice (some ⟨World.heap w14 |>.size, 0, none⟩) 1 1)]) w19 fun v20 w21 => ∃ (x22 : Option Addr) (x22n : Nat) (x22c : Nat), v20 = (.slice x22 x22n x22c) ∧
 ∃ m23, m23 < m13 ∧ I12 m23 x22 x22n x22c (IntKind.wrap .i64 (i16 + 1)) w21)
 else
 (R (.returned (.tuple #[(.slice l15 l15n l15c), (.int .i64 0)])) w14)))))
theorem e94 (k0 : Array Value) (w : World) (R : Ending → World → Prop) : denS Tryd.prog s94 (argsEnv 0 [(.agg k0)]) w (endK r94 R) = d94 k0 w R := by kernel_rfl
theorem c94 (k0 : Array Value) {w : World} {R : Ending → World → Prop} (h : d94 k0 w R) : Calls Tryd.prog 94 #[(.agg k0)] w R :=
  den94 [(.agg k0)] w R (by simp) ((e94 k0 w R).symm ▸ h)

/-- prelude/preluderef02.FromBytes -/
def s113 : S := (.seq (.ops [⟨(some 2), (.alloc 129), .ptr, none⟩,
  ⟨(some 3), (.mv (.const (.int .i64 0))), (.int .i64), none⟩] [0, 2])
 (.seq (.seq (.ops [⟨(some 6), (.mv (.tmp 0)), .sl, none⟩,
  ⟨(some 7), (.len (.tmp 6)), (.int .i64), none⟩,
  ⟨(some 8), (.bin .lss (.tmp 7) (.const (.int .i64 10))), .bool, none⟩] [8, 2, 0])
 (.cond (.tmp 8)
 (.seq (.ops [⟨(some 9), (.bld 129 (.fields [(0, 1), (1, 1)]) []), .agg, none⟩,
  ⟨none, (.stN 2 (.tmp 2) (.tmp 9)), .any, none⟩,
  ⟨(some 3), (.mv (.const (.int .i64 10))), (.int .i64), none⟩] [2, 3])
 .ret)
 .skip))
 (.seq (.seq (.ops [⟨(some 10), (.mv (.tmp 0)), .sl, none⟩,
  ⟨(some 11), (.len (.tmp 10)), (.int .i64), none⟩,
  ⟨(some 12), (.bin .gtr (.tmp 11) (.const (.int .i64 10))), .bool, none⟩] [12, 2, 0])
 (.cond (.tmp 12)
 (.seq (.ops [⟨(some 13), (.bld 129 (.fields [(0, 1), (1, 1)]) []), .agg, none⟩,
  ⟨none, (.stN 2 (.tmp 2) (.tmp 13)), .any, none⟩,
  ⟨(some 3), (.mv (.const (.int .i64 11))), (.int .i64), none⟩] [2, 3])
 .ret)
 .skip))
 (.seq (.ops [⟨(some 4), (.mv (.const (.int .u64 0))), (.int .u64), none⟩] [4, 0, 2])
 (.seq (.seq (.ops [⟨(some 5), (.mv (.const (.int .i64 2))), (.int .i64), none⟩] [5, 4, 0, 2])
 (.block 0
 (.loop [(4, (.int .u64)), (5, (.int .i64))] [0, 2]
 (.seq (.seq (.ops [⟨(some 14), (.mv (.tmp 5)), (.int .i64), none⟩,
  ⟨(some 15), (.bin .lss (.tmp 14) (.const (.int .i64 10))), .bool, none⟩] [15, 4, 0, 5, 2])
 (.cond (.tmp 15)
 .skip
 (.exit 0)))
 (.seq (.block 1
 (.ops [⟨(some 18), (.mv (.tmp 4)), (.int .u64), none⟩,
  ⟨(some 19), (.bin .mul (.tmp 18) (.const (.int .u64 256))), (.int .u64), none⟩,
  ⟨(some 20), (.mv (.tmp 0)), .sl, none⟩,
  ⟨(some 21), (.mv (.tmp 5)), (.int .i64), none⟩,
  ⟨(some 22), (.ia 1 (.tmp 20) (.tmp 21)), .ptr, none⟩,
  ⟨(some 23), (.ld1 (.tmp 22)), (.int .u8), none⟩,
  ⟨(some 24), (.cv .u64 (.tmp 23)), (.int .u64), none⟩,
  ⟨(some 25), (.bin .add (.tmp 19) (.tmp 24)), (.int .u64), none⟩,
  ⟨(some 4), (.mv (.tmp 25)), (.int .u64), none⟩] [5, 4, 0, 2]))
 (.ops [⟨(some 16), (.mv (.tmp 5)), (.int .i64), none⟩,
  ⟨(some 17), (.bin .add (.tmp 16) (.const (.int .i64 1))), (.int .i64), none⟩,
  ⟨(some 5), (.mv (.tmp 17)), (.int .i64), none⟩] [5, 4, 0, 2]))))))
 (.seq (.draw (.take 0 ⟨(some 26), (.mv (.tmp 0)), .sl, none⟩
  (.take 1 ⟨(some 27), (.ia 1 (.tmp 26) (.const (.int .i64 0))), .ptr, none⟩
  (.take 2 ⟨(some 28), (.ld1 (.tmp 27)), (.int .u8), none⟩
  (.take 3 ⟨(some 29), (.cv .i64 (.tmp 28)), (.int .i64), none⟩
  (.take 4 ⟨(some 30), (.bin .mul (.tmp 29) (.const (.int .i64 256))), (.int .i64), none⟩
  (.take 5 ⟨(some 31), (.mv (.tmp 0)), .sl, none⟩
  (.take 6 ⟨(some 32), (.ia 1 (.tmp 31) (.const (.int .i64 1))), .ptr, none⟩
  (.take 7 ⟨(some 33), (.ld1 (.tmp 32)), (.int .u8), none⟩
  (.take 8 ⟨(some 34), (.cv .i64 (.tmp 33)), (.int .i64), none⟩
  (.take 9 ⟨(some 35), (.bin .add (.tmp 30) (.tmp 34)), (.int .i64), none⟩
  (.take 10 ⟨(some 36), (.mv (.tmp 4)), (.int .u64), none⟩
  (.take 11 ⟨(some 37), (.bin .xor (.tmp 36) (.const (.int .u64 9223372036854775808))), (.int .u64), none⟩
  (.take 12 ⟨(some 38), (.cv .i64 (.tmp 37)), (.int .i64), none⟩
  (.take 13 ⟨(some 39), (.bld 129 (.fields [(0, 1), (1, 1)]) [(0, (.tmp 35)), (1, (.tmp 38))]), .agg, none⟩
  (.go 14 ⟨none, (.stN 2 (.tmp 2) (.tmp 39)), .any, none⟩ []
  (.take 15 ⟨(some 3), (.mv (.const (.int .i64 0))), (.int .i64), none⟩
  .done)))))))))))))))) [2, 3])
 .ret))))))
def r113 : List Res := [.cN 2 2, .t 3]
theorem tr113 : trS Tryd.prog [] 40 (Tryd.f113.body.getD .skip) s113 = some s113 := by kernel_rfl
theorem den113 (args : List Value) (w : World) (R : Ending → World → Prop) (hn : args.length ≤ 40) (h : denS Tryd.prog s113 (argsEnv 0 args) w (endK r113 R)) : Calls Tryd.prog 113 args.toArray w R :=
  calls_of_den (pn := []) (fn := Tryd.f113) (c := Tryd.f113.body.getD .skip) Tryd.func113 (by kernel_rfl) (by rw [Tryd.ntmps113]; exact hn) (by rw [Tryd.ntmps113]; exact tr113) (by kernel_rfl) h
def d113 (b0 : Option Addr) (b0n : Nat) (b0c : Nat) (w : World) (R : Ending → World → Prop) : Prop :=
 ∀ w1 : World, w1 = World.alloc w (.cells (zc Tryd.prog 129).toArray 129) →
 (bif (decide (((b0n : Nat) : Int) < 10)) then
 (∃ cs2, fillL (.fields [(0, 1), (1, 1)]) (zc Tryd.prog 129) [] = some cs2 ∧
 Array.size (List.toArray cs2) = 2 ∧ (∀ u ∈ Array.toList (List.toArray cs2), one u = true) ∧ Room w1 ⟨World.heap w |>.size, 0, none⟩ 2 ∧
 ∀ w3 : World, w3 = setCells w1 ⟨World.heap w |>.size, 0, none⟩ (Array.toList (List.toArray cs2)) 0 →
 ∃ cs4 : List Value, List.length cs4 = 2 ∧ Cells w3 ⟨World.heap w |>.size, 0, none⟩ cs4 ∧
 R (.returned (.tuple #[(.agg (List.toArray cs4)), (.int .i64 10)])) w3)
 else
 ((bif (decide (10 < ((b0n : Nat) : Int))) then
 (∃ cs5, fillL (.fields [(0, 1), (1, 1)]) (zc Tryd.prog 129) [] = some cs5 ∧
 Array.size (List.toArray cs5) = 2 ∧ (∀ u ∈ Array.toList (List.toArray cs5), one u = true) ∧ Room w1 ⟨World.heap w |>.size, 0, none⟩ 2 ∧
 ∀ w6 : World, w6 = setCells w1 ⟨World.heap w |>.size, 0, none⟩ (Array.toList (List.toArray cs5)) 0 →
 ∃ cs7 : List Value, List.length cs7 = 2 ∧ Cells w6 ⟨World.heap w |>.size, 0, none⟩ cs7 ∧
 R (.returned (.tuple #[(.agg (List.toArray cs7)), (.int .i64 11)])) w6)
 else
 (∃ I8 : Nat → Int → Int → World → Prop,
 (∃ m, I8 m 0 2 w1) ∧
 (∀ (m9 : Nat) (w10 : World) (u11 : Int) (i12 : Int), I8 m9 u11 i12 w10 →
 (bif (decide (i12 < 10)) then
 (0 ≤ i12 ∧ i12 < ((b0n : Nat) : Int) ∧ optK b0 fun a13 =>
 ∃ x14 : Int, World.cell? w10 (Addr.add a13 (Int.toNat i12 * 1)) = some (.int .u8 x14) ∧
 ∃ m15, m15 < m9 ∧ I8 m15 (IntKind.wrap .u64 ((IntKind.wrap .u64 (u11 * 256)) + (IntKind.wrap .u64 x14))) (IntKind.wrap .i64 (i12 + 1)) w10)
 else
 (∀ w16 : World, w16 = World.drew w10 →
 0 ≤ (0 : Int) ∧ (0 : Int) < ((b0n : Nat) : Int) ∧ optK b0 fun a17 =>
 ∃ x18 : Int, World.cell? w16 (Addr.add a17 (Int.toNat 0 * 1)) = some (.int .u8 x18) ∧
 0 ≤ (1 : Int) ∧ (1 : Int) < ((b0n : Nat) : Int) ∧ optK b0 fun a19 =>
 ∃ x20 : Int, World.cell? w16 (Addr.add a19 (Int.toNat 1 * 1)) = some (.int .u8 x20) ∧
 ∃ cs21, fillL (.fields [(0, 1), (1, 1)]) (zc Tryd.prog 129) [(0, (.int .i64 (IntKind.wrap .i64 ((IntKind.wrap .i64 ((IntKind.wrap .i64 x18) * 256)) + (IntKind.wrap .i64 x20))))), (1, (.int .i64 (IntKind.wrap .i64 (bXor .u64 u11 9223372036854775808))))] = some cs21 ∧
 Array.size (List.toArray cs21) = 2 ∧ (∀ u ∈ Array.toList (List.toArray cs21), one u = true) ∧ Room w16 ⟨World.heap w |>.size, 0, none⟩ 2 ∧
 ∀ w22 : World, w22 = setCells w16 ⟨World.heap w |>.size, 0, none⟩ (Array.toList (List.toArray cs21)) 0 →
 ∃ cs23 : List Value, List.length cs23 = 2 ∧ Cells w22 ⟨World.heap w |>.size, 0, none⟩ cs23 ∧
 R (.returned (.tuple #[(.agg (List.toArray cs23)), (.int .i64 0)])) w22)))))))
theorem e113 (b0 : Option Addr) (b0n : Nat) (b0c : Nat) (w : World) (R : Ending → World → Prop) : denS Tryd.prog s113 (argsEnv 0 [(.slice b0 b0n b0c)]) w (endK r113 R) = d113 b0 b0n b0c w R := by kernel_rfl
theorem c113 (b0 : Option Addr) (b0n : Nat) (b0c : Nat) {w : World} {R : Ending → World → Prop} (h : d113 b0 b0n b0c w R) : Calls Tryd.prog 113 #[(.slice b0 b0n b0c)] w R :=
  den113 [(.slice b0 b0n b0c)] w R (by simp) ((e113 b0 b0n b0c w R).symm ▸ h)

/-- prelude/preluderef02.Compare -/
def s106 : S := (.seq (.ops [⟨(some 2), (.box 129 (.tmp 0)), .ptr, none⟩,
  ⟨(some 3), (.box 129 (.tmp 1)), .ptr, none⟩,
  ⟨(some 4), (.mv (.const (.int .i64 0))), (.int .i64), none⟩] [2, 3])
 (.seq (.block 0
 (.seq (.ops [⟨(some 6), (.fa 0 (.tmp 2)), .ptr, none⟩,
  ⟨(some 7), (.ld1 (.tmp 6)), (.int .i64), none⟩,
  ⟨(some 8), (.fa 0 (.tmp 3)), .ptr, none⟩,
  ⟨(some 9), (.ld1 (.tmp 8)), (.int .i64), none⟩,
  ⟨(some 10), (.bin .lss (.tmp 7) (.tmp 9)), .bool, none⟩,
  ⟨(some 5), (.mv (.tmp 10)), .bool, none⟩] [5, 2, 3])
 (.cond (.tmp 5)
 (.seq (.ops [⟨(some 4), (.mv (.const (.int .i64 (-1)))), (.int .i64), none⟩] [4])
 .ret)
 (.seq (.ops [⟨(some 12), (.fa 0 (.tmp 2)), .ptr, none⟩,
  ⟨(some 13), (.ld1 (.tmp 12)), (.int .i64), none⟩,
  ⟨(some 14), (.fa 0 (.tmp 3)), .ptr, none⟩,
  ⟨(some 15), (.ld1 (.tmp 14)), (.int .i64), none⟩,
  ⟨(some 16), (.bin .gtr (.tmp 13) (.tmp 15)), .bool, none⟩,
  ⟨(some 11), (.mv (.tmp 16)), .bool, none⟩] [11, 2, 3])
 (.cond (.tmp 11)
 (.seq (.ops [⟨(some 4), (.mv (.const (.int .i64 1))), (.int .i64), none⟩] [4])
 .ret)
 (.seq (.ops [⟨(some 18), (.fa 1 (.tmp 2)), .ptr, none⟩,
  ⟨(some 19), (.ld1 (.tmp 18)), (.int .i64), none⟩,
  ⟨(some 20), (.fa 1 (.tmp 3)), .ptr, none⟩,
  ⟨(some 21), (.ld1 (.tmp 20)), (.int .i64), none⟩,
  ⟨(some 22), (.bin .lss (.tmp 19) (.tmp 21)), .bool, none⟩,
  ⟨(some 17), (.mv (.tmp 22)), .bool, none⟩] [17, 2, 3])
 (.cond (.tmp 17)
 (.seq (.ops [⟨(some 4), (.mv (.const (.int .i64 (-1)))), (.int .i64), none⟩] [4])
 .ret)
 (.seq (.ops [⟨(some 24), (.fa 1 (.tmp 2)), .ptr, none⟩,
  ⟨(some 25), (.ld1 (.tmp 24)), (.int .i64), none⟩,
  ⟨(some 26), (.fa 1 (.tmp 3)), .ptr, none⟩,
  ⟨(some 27), (.ld1 (.tmp 26)), (.int .i64), none⟩,
  ⟨(some 28), (.bin .gtr (.tmp 25) (.tmp 27)), .bool, none⟩,
  ⟨(some 23), (.mv (.tmp 28)), .bool, none⟩] [23])
 (.cond (.tmp 23)
 (.seq (.ops [⟨(some 4), (.mv (.const (.int .i64 1))), (.int .i64), none⟩] [4])
 .ret)
 .skip)))))))))
 (.seq (.ops [⟨(some 4), (.mv (.const (.int .i64 0))), (.int .i64), none⟩] [4])
 .ret)))
def r106 : List Res := [.t 4]
theorem tr106 : trS Tryd.prog [] 29 (Tryd.f106.body.getD .skip) s106 = some s106 := by kernel_rfl
theorem den106 (args : List Value) (w : World) (R : Ending → World → Prop) (hn : args.length ≤ 29) (h : denS Tryd.prog s106 (argsEnv 0 args) w (endK r106 R)) : Calls Tryd.prog 106 args.toArray w R :=
  calls_of_den (pn := []) (fn := Tryd.f106) (c := Tryd.f106.body.getD .skip) Tryd.func106 (by kernel_rfl) (by rw [Tryd.ntmps106]; exact hn) (by rw [Tryd.ntmps106]; exact tr106) (by kernel_rfl) h
def d106 (a0 : Array Value) (b1 : Array Value) (w : World) (R : Ending → World → Prop) : Prop :=
 ∀ w2 : World, w2 = World.alloc w (.cells a0 129) →
 ∀ w3 : World, w3 = World.alloc w2 (.cells b1 129) →
 ∃ x4 : Int, World.cell? w3 (Addr.add ⟨World.heap w |>.size, 0, none⟩ 0) = some (.int .i64 x4) ∧
 ∃ x5 : Int, World.cell? w3 (Addr.add ⟨World.heap w2 |>.size, 0, none⟩ 0) = some (.int .i64 x5) ∧
 (bif (decide (x4 < x5)) then
 (R (.returned (.int .i64 (-1))) w3)
 else
 (∃ x6 : Int, World.cell? w3 (Addr.add ⟨World.heap w |>.size, 0, none⟩ 0) = some (.int .i64 x6) ∧
 ∃ x7 : Int, World.cell? w3 (Addr.add ⟨World.heap w2 |>.size, 0, none⟩ 0) = some (.int .i64 x7) ∧
 (bif (decide (x7 < x6)) then
 (R (.returned (.int .i64 1)) w3)
 else
 (∃ x8 : Int, World.cell? w3 (Addr.add ⟨World.heap w |>.size, 0, none⟩ 1) = some (.int .i64 x8) ∧
 ∃ x9 : Int, World.cell? w3 (Addr.add ⟨World.heap w2 |>.size, 0, none⟩ 1) = some (.int .i64 x9) ∧
 (bif (decide (x8 < x9)) then
 (R (.returned (.int .i64 (-1))) w3)
 else
 (∃ x10 : Int, World.cell? w3 (Addr.add ⟨World.heap w |>.size, 0, none⟩ 1) = some (.int .i64 x10) ∧
 ∃ x11 : Int, World.cell? w3 (Addr.add ⟨World.heap w2 |>.size, 0, none⟩ 1) = some (.int .i64 x11) ∧
 (bif (decide (x11 < x10)) then
 (R (.returned (.int .i64 1)) w3)
 else
 (R (.returned (.int .i64 0)) w3))))))))
theorem e106 (a0 : Array Value) (b1 : Array Value) (w : World) (R : Ending → World → Prop) : denS Tryd.prog s106 (argsEnv 0 [(.agg a0), (.agg b1)]) w (endK r106 R) = d106 a0 b1 w R := by kernel_rfl
theorem c106 (a0 : Array Value) (b1 : Array Value) {w : World} {R : Ending → World → Prop} (h : d106 a0 b1 w R) : Calls Tryd.prog 106 #[(.agg a0), (.agg b1)] w R :=
  den106 [(.agg a0), (.agg b1)] w R (by simp) ((e106 a0 b1 w R).symm ▸ h)

/-- prelude/preluderef02.all -/
def s105 : S := (.seq (.ops [⟨(some 2), (.mv (.const (.bool false))), .bool, none⟩] [0])
 (.seq (.seq (.ops [⟨(some 3), (.mv (.const (.int .i64 0))), (.int .i64), none⟩] [3, 0])
 (.block 0
 (.loop [(3, (.int .i64))] [0]
 (.seq (.seq (.ops [⟨(some 4), (.mv (.tmp 3)), (.int .i64), none⟩,
  ⟨(some 5), (.mv (.tmp 0)), .sl, none⟩,
  ⟨(some 6), (.len (.tmp 5)), (.int .i64), none⟩,
  ⟨(some 7), (.bin .lss (.tmp 4) (.tmp 6)), .bool, none⟩] [7, 0, 3])
 (.cond (.tmp 7)
 .skip
 (.exit 0)))
 (.seq (.block 1
 (.seq (.ops [⟨(some 10), (.mv (.tmp 0)), .sl, none⟩,
  ⟨(some 11), (.mv (.tmp 3)), (.int .i64), none⟩,
  ⟨(some 12), (.ia 2 (.tmp 10) (.tmp 11)), .ptr, none⟩,
  ⟨(some 13), (.ldN 2 (.tmp 12)), .agg, none⟩,
  ⟨(some 14), (.call 107 [(.tmp 13)] [(.int .i64)]), (.int .i64), none⟩,
  ⟨(some 15), (.bin .neq (.tmp 14) (.const (.int .i64 0))), .bool, none⟩] [15, 3, 0])
 (.cond (.tmp 15)
 (.seq (.ops [⟨(some 2), (.mv (.const (.bool false))), .bool, none⟩] [2])
 .ret)
 .skip)))
 (.ops [⟨(some 8), (.mv (.tmp 3)), (.int .i64), none⟩,
  ⟨(some 9), (.bin .add (.tmp 8) (.const (.int .i64 1))), (.int .i64), none⟩,
  ⟨(some 3), (.mv (.tmp 9)), (.int .i64), none⟩] [3, 0]))))))
 (.seq (.ops [⟨(some 2), (.mv (.const (.bool true))), .bool, none⟩] [2])
 .ret)))
def r105 : List Res := [.t 2]
theorem tr105 : trS Tryd.prog [] 16 (Tryd.f105.body.getD .skip) s105 = some s105 := by kernel_rfl
theorem den105 (args : List Value) (w : World) (R : Ending → World → Prop) (hn : args.length ≤ 16) (h : denS Tryd.prog s105 (argsEnv 0 args) w (endK r105 R)) : Calls Tryd.prog 105 args.toArray w R :=
  calls_of_den (pn := []) (fn := Tryd.f105) (c := Tryd.f105.body.getD .skip) Tryd.func105 (by kernel_rfl) (by rw [Tryd.ntmps105]; exact hn) (by rw [Tryd.ntmps105]; exact tr105) (by kernel_rfl) h
def d105 (l0 : Option Addr) (l0n : Nat) (l0c : Nat) (w : World) (R : Ending → World → Prop) : Prop :=
 ∃ I1 : Nat → Int → World → Prop,
 (∃ m, I1 m 0 w) ∧
 (∀ (m2 : Nat) (w3 : World) (i4 : Int), I1 m2 i4 w3 →
 (bif (decide (i4 < ((l0n : Nat) : Int))) then
 (0 ≤ i4 ∧ i4 < ((l0n : Nat) : Int) ∧ optK l0 fun a5 =>
 ∃ cs6 : List Value, List.length cs6 = 2 ∧ Cells w3 (Addr.add a5 (Int.toNat i4 * 2)) cs6 ∧
 Calls Tryd.prog 107 #[(.agg (List.toArray cs6))] w3 fun e7 w8 => ∃ x9 : Int, e7 = .returned (.int .i64 x9) ∧
 (bif (!decide (x9 = 0)) then
 (R (.returned (.bool false)) w8)
 else
 (∃ m10, m10 < m2 ∧ I1 m10 (IntKind.wrap .i64 (i4 + 1)) w8)))
 else
 (R (.returned (.bool true)) w3)))
theorem e105 (l0 : Option Addr) (l0n : Nat) (l0c : Nat) (w : World) (R : Ending → World → Prop) : denS Tryd.prog s105 (argsEnv 0 [(.slice l0 l0n l0c)]) w (endK r105 R) = d105 l0 l0n l0c w R := by kernel_rfl
theorem c105 (l0 : Option Addr) (l0n : Nat) (l0c : Nat) {w : World} {R : Ending → World → Prop} (h : d105 l0 l0n l0c w R) : Calls Tryd.prog 105 #[(.slice l0 l0n l0c)] w R :=
  den105 [(.slice l0 l0n l0c)] w R (by simp) ((e105 l0 l0n l0c w R).symm ▸ h)

/-- prelude/preluderef02.Rises -/
def s92 : S := (.seq (.ops [⟨(some 2), (.mv (.const (.bool false))), .bool, none⟩] [0])
 (.seq (.ops [⟨(some 5), (.mv (.tmp 0)), .sl, none⟩,
  ⟨(some 6), (.call 105 [(.tmp 5)] [.bool]), .bool, none⟩,
  ⟨(some 3), (.mv (.tmp 6)), .bool, none⟩] [0, 3])
 (.seq (.seq (.ops [⟨(some 4), (.mv (.const (.int .i64 1))), (.int .i64), none⟩] [4, 0, 3])
 (.block 0
 (.loop [(3, .bool), (4, (.int .i64))] [0]
 (.seq (.seq (.ops [⟨(some 7), (.mv (.tmp 4)), (.int .i64), none⟩,
  ⟨(some 8), (.mv (.tmp 0)), .sl, none⟩,
  ⟨(some 9), (.len (.tmp 8)), (.int .i64), none⟩,
  ⟨(some 10), (.bin .lss (.tmp 7) (.tmp 9)), .bool, none⟩] [10, 3, 0, 4])
 (.cond (.tmp 10)
 .skip
 (.exit 0)))
 (.seq (.block 1
 (.draw (.take 0 ⟨(some 13), (.mv (.tmp 3)), .bool, none⟩
  (.take 1 ⟨(some 14), (.mv (.tmp 13)), .bool, none⟩
  (.take 2 ⟨(some 15), (.mv (.tmp 0)), .sl, (some (14, true))⟩
  (.take 3 ⟨(some 16), (.mv (.tmp 4)), (.int .i64), (some (14, true))⟩
  (.take 4 ⟨(some 17), (.bin .sub (.tmp 16) (.const (.int .i64 1))), (.int .i64), (some (14, true))⟩
  (.take 5 ⟨(some 18), (.ia 2 (.tmp 15) (.tmp 17)), .ptr, (some (14, true))⟩
  (.take 6 ⟨(some 19), (.ldN 2 (.tmp 18)), .agg, (some (14, true))⟩
  (.take 7 ⟨(some 20), (.mv (.tmp 0)), .sl, (some (14, true))⟩
  (.take 8 ⟨(some 21), (.mv (.tmp 4)), (.int .i64), (some (14, true))⟩
  (.take 9 ⟨(some 22), (.ia 2 (.tmp 20) (.tmp 21)), .ptr, (some (14, true))⟩
  (.take 10 ⟨(some 23), (.ldN 2 (.tmp 22)), .agg, (some (14, true))⟩
  (.go 11 ⟨(some 24), (.call 106 [(.tmp 19), (.tmp 23)] [(.int .i64)]), (.int .i64), (some (14, true))⟩ []
  (.take 12 ⟨(some 25), (.bin .lss (.tmp 24) (.const (.int .i64 0))), .bool, (some (14, true))⟩
  (.take 13 ⟨(some 26), (.pick (.tmp 14) (.tmp 25) (.const (.bool false))), .bool, none⟩
  (.take 14 ⟨(some 3), (.mv (.tmp 26)), .bool, none⟩
  .done))))))))))))))) [4, 0, 3]))
 (.ops [⟨(some 11), (.mv (.tmp 4)), (.int .i64), none⟩,
  ⟨(some 12), (.bin .add (.tmp 11) (.const (.int .i64 1))), (.int .i64), none⟩,
  ⟨(some 4), (.mv (.tmp 12)), (.int .i64), none⟩] [4, 0, 3]))))))
 (.seq (.ops [⟨(some 27), (.mv (.tmp 3)), .bool, none⟩,
  ⟨(some 2), (.mv (.tmp 27)), .bool, none⟩] [2])
 .ret))))
def r92 : List Res := [.t 2]
theorem tr92 : trS Tryd.prog [] 28 (Tryd.f92.body.getD .skip) s92 = some s92 := by kernel_rfl
theorem den92 (args : List Value) (w : World) (R : Ending → World → Prop) (hn : args.length ≤ 28) (h : denS Tryd.prog s92 (argsEnv 0 args) w (endK r92 R)) : Calls Tryd.prog 92 args.toArray w R :=
  calls_of_den (pn := []) (fn := Tryd.f92) (c := Tryd.f92.body.getD .skip) Tryd.func92 (by kernel_rfl) (by rw [Tryd.ntmps92]; exact hn) (by rw [Tryd.ntmps92]; exact tr92) (by kernel_rfl) h
def d92 (l0 : Option Addr) (l0n : Nat) (l0c : Nat) (w : World) (R : Ending → World → Prop) : Prop :=
 Calls Tryd.prog 105 #[(.slice l0 l0n l0c)] w fun e1 w2 => ∃ x3 : Bool, e1 = .returned (.bool x3) ∧
 ∃ I4 : Nat → Bool → Int → World → Prop,
 (∃ m, I4 m x3 1 w2) ∧
 (∀ (m5 : Nat) (w6 : World) (ok7 : Bool) (i8 : Int), I4 m5 ok7 i8 w6 →
 (bif (decide (i8 < ((l0n : Nat) : Int))) then
 (∀ w9 : World, w9 = World.drew w6 →
 (bif ok7 then
 (0 ≤ (IntKind.wrap .i64 (i8 - 1)) ∧ (IntKind.wrap .i64 (i8 - 1)) < ((l0n : Nat) : Int) ∧ optK l0 fun a10 =>
 ∃ cs11 : List Value, List.length cs11 = 2 ∧ Cells w9 (Addr.add a10 (Int.toNat (IntKind.wrap .i64 (i8 - 1)) * 2)) cs11 ∧
 0 ≤ i8 ∧ i8 < ((l0n : Nat) : Int) ∧ optK l0 fun a12 =>
 ∃ cs13 : List Value, List.length cs13 = 2 ∧ Cells w9 (Addr.add a12 (Int.toNat i8 * 2)) cs13 ∧
 Calls Tryd.prog 106 #[(.agg (List.toArray cs11)), (.agg (List.toArray cs13))] w9 fun e14 w15 => ∃ x16 : Int, e14 = .returned (.int .i64 x16) ∧
 ∃ m17, m17 < m5 ∧ I4 m17 (decide (x16 < 0)) (IntKind.wrap .i64 (i8 + 1)) w15)
 else
 (∃ m18, m18 < m5 ∧ I4 m18 false (IntKind.wrap .i64 (i8 + 1)) w9)))
 else
 (R (.returned (.bool ok7)) w6)))
theorem e92 (l0 : Option Addr) (l0n : Nat) (l0c : Nat) (w : World) (R : Ending → World → Prop) : denS Tryd.prog s92 (argsEnv 0 [(.slice l0 l0n l0c)]) w (endK r92 R) = d92 l0 l0n l0c w R := by kernel_rfl
theorem c92 (l0 : Option Addr) (l0n : Nat) (l0c : Nat) {w : World} {R : Ending → World → Prop} (h : d92 l0 l0n l0c w R) : Calls Tryd.prog 92 #[(.slice l0 l0n l0c)] w R :=
  den92 [(.slice l0 l0n l0c)] w R (by simp) ((e92 l0 l0n l0c w R).symm ▸ h)

end Go.Proofs.YtjchneebdlncfaaDoor.Fn
namespace Go.Proofs.YtjchneebdlncfaaDoor.Den
open Go
open Go.RowKit (Below)
/-- A block whose elements' type is known. -/
def BlkT (w : World) (b : Nat) (T : TypeId) (cs : List Value) : Prop := w.heap[b]? = some (.cells cs.toArray T (0, 0))
theorem BlkT.blk {w : World} {b : Nat} {T : TypeId} {cs : List Value} (h : BlkT w b T cs) : Blk w b cs := ⟨T, h⟩
theorem BlkT.new (w : World) (c : Array Value) (T : TypeId) : BlkT (w.alloc (.cells c T)) w.heap.size T c.toList := by show (w.heap.push _)[w.heap.size]? = _; simp
theorem BlkT.own {w : World} {b : Nat} {e : TypeId} {cs : List Value} (h : BlkT w b e cs) {base size n : Nat} (hb : base ≤ b) (hn : cs.length = n * size) (hm : n ≤ 9223372036854775807) : w.ownsRow base e size (.slice (some ⟨b, 0, none⟩) n n) n cs :=
  ⟨hn, .inr ⟨b, n, cs.toArray, rfl, hb, h, Nat.le_refl _, by unfold maxLen; exact hm, by simpa using hn, by rw [List.toList_toArray]; exact List.take_of_length_le (Nat.le_of_eq hn)⟩⟩
end Go.Proofs.YtjchneebdlncfaaDoor.Den
