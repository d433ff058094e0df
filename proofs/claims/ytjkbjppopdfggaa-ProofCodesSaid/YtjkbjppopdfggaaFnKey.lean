/-
  THE CODE of some functions of the given program, resolved, and proved to ask what the readable texts (d..) say; contracts c.. follow. Printed by a small program of mine.
-/
import Derived.Test.YtjkbjppopdfggaaDenWords8
import Derived.Test.YtjkbjppopdfggaaProg
set_option maxRecDepth 100000
namespace Go.Proofs.Ytjkbjppopdfggaa.Fn
open Go Den
/-- prelude/keys.Check -/
def s11 : S := (.seq (.ops [⟨(some 1), (.box 24 (.tmp 0)), .ptr, none⟩,
  ⟨(some 2), (.mv (.const (.int .i64 0))), (.int .i64), none⟩] [1])
 (.seq (.seq (.ops [⟨(some 3), (.fa 0 (.tmp 1)), .ptr, none⟩,
  ⟨(some 4), (.ld1 (.tmp 3)), (.int .i64), none⟩,
  ⟨(some 5), (.bin .lss (.tmp 4) (.const (.int .i64 0))), .bool, none⟩,
  ⟨(some 6), (.mv (.tmp 5)), .bool, none⟩,
  ⟨(some 7), (.fa 0 (.tmp 1)), .ptr, (some (6, false))⟩,
  ⟨(some 8), (.ld1 (.tmp 7)), (.int .i64), (some (6, false))⟩,
  ⟨(some 9), (.bin .gtr (.tmp 8) (.const (.int .i64 65535))), .bool, (some (6, false))⟩,
  ⟨(some 10), (.pick (.tmp 6) (.const (.bool true)) (.tmp 9)), .bool, none⟩] [10])
 (.cond (.tmp 10)
 (.seq (.ops [⟨(some 2), (.mv (.const (.int .i64 20))), (.int .i64), none⟩] [2])
 .ret)
 .skip))
 (.seq (.ops [⟨(some 2), (.mv (.const (.int .i64 0))), (.int .i64), none⟩] [2])
 .ret)))
def r11 : List Res := [.t 2]
theorem tr11 : trS Try.prog [] 11 (Try.f11.body.getD .skip) s11 = some s11 := by kernel_rfl
theorem den11 (args : List Value) (w : World) (R : Ending → World → Prop) (hn : args.length ≤ 11) (h : denS Try.prog s11 (argsEnv 0 args) w (endK r11 R)) : Calls Try.prog 11 args.toArray w R :=
  calls_of_den (pn := []) (fn := Try.f11) (c := Try.f11.body.getD .skip) Try.func11 (by kernel_rfl) (by rw [Try.ntmps11]; exact hn) (by rw [Try.ntmps11]; exact tr11) (by kernel_rfl) h
def d11 (k0 : Array Value) (w : World) (R : Ending → World → Prop) : Prop :=
 ∀ w1 : World, w1 = World.alloc w (.cells k0 24) →
 ∃ x2 : Int, World.cell? w1 (Addr.add ⟨World.heap w |>.size, 0, none⟩ 0) = some (.int .i64 x2) ∧
 (bif (decide (x2 < 0)) then
 (R (.returned (.int .i64 20)) w1)
 else
 (∃ x3 : Int, World.cell? w1 (Addr.add ⟨World.heap w |>.size, 0, none⟩ 0) = some (.int .i64 x3) ∧
 (bif (decide (65535 < x3)) then
 (R (.returned (.int .i64 20)) w1)
 else
 (R (.returned (.int .i64 0)) w1))))
theorem e11 (k0 : Array Value) (w : World) (R : Ending → World → Prop) : denS Try.prog s11 (argsEnv 0 [(.agg k0)]) w (endK r11 R) = d11 k0 w R := by kernel_rfl
theorem c11 (k0 : Array Value) {w : World} {R : Ending → World → Prop} (h : d11 k0 w R) : Calls Try.prog 11 #[(.agg k0)] w R :=
  den11 [(.agg k0)] w R (by simp) ((e11 k0 w R).symm ▸ h)

/-- prelude/keys.form -/
def s39 : S := (.seq (.ops [⟨(some 1), (.box 24 (.tmp 0)), .ptr, none⟩,
  ⟨(some 2), (.alloc 78), .ptr, none⟩] [1, 2])
 (.seq (.ops [⟨(some 3), (.alloc 78), .ptr, none⟩] [1, 3, 2])
 (.seq (.draw (.take 0 ⟨(some 6), (.fa 0 (.tmp 1)), .ptr, none⟩
  (.take 1 ⟨(some 7), (.ld1 (.tmp 6)), (.int .i64), none⟩
  (.take 2 ⟨(some 8), (.bin .shr (.tmp 7) (.const (.int .u64 8))), (.int .i64), none⟩
  (.take 3 ⟨(some 9), (.cv .u8 (.tmp 8)), (.int .u8), none⟩
  (.take 4 ⟨(some 10), (.fa 0 (.tmp 1)), .ptr, none⟩
  (.take 5 ⟨(some 11), (.ld1 (.tmp 10)), (.int .i64), none⟩
  (.take 6 ⟨(some 12), (.cv .u8 (.tmp 11)), (.int .u8), none⟩
  (.take 7 ⟨(some 13), (.iaA 10 1 (.tmp 3) (.const (.int .i64 0))), .ptr, none⟩
  (.go 8 ⟨none, (.st1 (.tmp 13) (.tmp 9)), .any, none⟩ [(5, ⟨(some 11), (.ld1 (.tmp 10)), (.int .i64), none⟩)]
  (.take 9 ⟨(some 14), (.iaA 10 1 (.tmp 3) (.const (.int .i64 1))), .ptr, none⟩
  (.go 10 ⟨none, (.st1 (.tmp 14) (.tmp 12)), .any, none⟩ []
  .done))))))))))) [1, 3, 2])
 (.seq (.ops [⟨(some 15), (.fa 1 (.tmp 1)), .ptr, none⟩,
  ⟨(some 16), (.ld1 (.tmp 15)), (.int .i64), none⟩,
  ⟨(some 17), (.cv .u64 (.tmp 16)), (.int .u64), none⟩,
  ⟨(some 18), (.bin .xor (.tmp 17) (.const (.int .u64 9223372036854775808))), (.int .u64), none⟩,
  ⟨(some 4), (.mv (.tmp 18)), (.int .u64), none⟩] [4, 3, 2])
 (.seq (.seq (.ops [⟨(some 19), (.mv (.const (.int .i64 0))), (.int .i64), none⟩] [19, 4, 3, 2])
 (.block 0
 (.loop [(19, (.int .i64))] [2, 3, 4]
 (.seq (.ops [⟨(some 20), (.bin .lss (.tmp 19) (.const (.int .i64 8))), .bool, none⟩] [20, 19, 4, 3, 2])
 (.seq (.cond (.tmp 20)
 .skip
 (.exit 0))
 (.seq (.block 1
 (.seq (.ops [⟨(some 21), (.mv (.tmp 19)), (.int .i64), none⟩,
  ⟨(some 5), (.mv (.tmp 21)), (.int .i64), none⟩] [5, 4, 3, 19, 2])
 (.ops [⟨(some 22), (.mv (.tmp 5)), (.int .i64), none⟩,
  ⟨(some 23), (.bin .add (.const (.int .i64 2)) (.tmp 22)), (.int .i64), none⟩,
  ⟨(some 24), (.mv (.tmp 4)), (.int .u64), none⟩,
  ⟨(some 25), (.mv (.tmp 5)), (.int .i64), none⟩,
  ⟨(some 26), (.bin .mul (.const (.int .i64 8)) (.tmp 25)), (.int .i64), none⟩,
  ⟨(some 27), (.bin .sub (.const (.int .i64 56)) (.tmp 26)), (.int .i64), none⟩,
  ⟨(some 28), (.bin .shr (.tmp 24) (.tmp 27)), (.int .u64), none⟩,
  ⟨(some 29), (.cv .u8 (.tmp 28)), (.int .u8), none⟩,
  ⟨(some 30), (.iaA 10 1 (.tmp 3) (.tmp 23)), .ptr, none⟩,
  ⟨none, (.st1 (.tmp 30) (.tmp 29)), .any, none⟩] [19, 4, 3, 2])))
 (.ops [⟨(some 31), (.bin .add (.tmp 19) (.const (.int .i64 1))), (.int .i64), none⟩,
  ⟨(some 19), (.mv (.tmp 31)), (.int .i64), none⟩] [19, 4, 3, 2])))))))
 (.seq (.ops [⟨(some 32), (.ldN 10 (.tmp 3)), .agg, none⟩,
  ⟨none, (.stN 10 (.tmp 2) (.tmp 32)), .any, none⟩] [2])
 .ret))))))
def r39 : List Res := [.cN 2 10]
theorem tr39 : trS Try.prog [] 33 (Try.f39.body.getD .skip) s39 = some s39 := by kernel_rfl
theorem den39 (args : List Value) (w : World) (R : Ending → World → Prop) (hn : args.length ≤ 33) (h : denS Try.prog s39 (argsEnv 0 args) w (endK r39 R)) : Calls Try.prog 39 args.toArray w R :=
  calls_of_den (pn := []) (fn := Try.f39) (c := Try.f39.body.getD .skip) Try.func39 (by kernel_rfl) (by rw [Try.ntmps39]; exact hn) (by rw [Try.ntmps39]; exact tr39) (by kernel_rfl) h
def d39 (k0 : Array Value) (w : World) (R : Ending → World → Prop) : Prop :=
 ∀ w1 : World, w1 = World.alloc w (.cells k0 24) →
 ∀ w2 : World, w2 = World.alloc w1 (.cells (zc Try.prog 78).toArray 78) →
 ∀ w3 : World, w3 = World.alloc w2 (.cells (zc Try.prog 78).toArray 78) →
 ∀ w4 : World, w4 = World.drew w3 →
 ∃ x5 : Int, World.cell? w4 (Addr.add ⟨World.heap w |>.size, 0, none⟩ 0) = some (.int .i64 x5) ∧
 0 ≤ (8 : Int) ∧ ∃ x6 : Int, World.cell? w4 (Addr.add ⟨World.heap w |>.size, 0, none⟩ 0) = some (.int .i64 x6) ∧
 0 ≤ (0 : Int) ∧ (0 : Int) < ((10 : Nat) : Int) ∧
 one (.int .u8 (IntKind.wrap .u8 (shR .i64 x5 8))) = true ∧ Option.isSome (World.cell? w4 (Addr.add ⟨World.heap w2 |>.size, 0, none⟩ (Int.toNat 0 * 1))) = true ∧ World.frozen? w4 (Addr.add ⟨World.heap w2 |>.size, 0, none⟩ (Int.toNat 0 * 1)) = false ∧
 ∀ w7 : World, w7 = World.setCell w4 (Addr.add ⟨World.heap w2 |>.size, 0, none⟩ (Int.toNat 0 * 1)) (.int .u8 (IntKind.wrap .u8 (shR .i64 x5 8))) →
 (∃ z8 : Int, World.cell? w7 (Addr.add ⟨World.heap w |>.size, 0, none⟩ 0) = some (.int .i64 z8) ∧
 (((.int .i64 z8) : Value) = (.int .i64 x6) ∧ w7 = w7)) ∧
 0 ≤ (1 : Int) ∧ (1 : Int) < ((10 : Nat) : Int) ∧
 one (.int .u8 (IntKind.wrap .u8 x6)) = true ∧ Option.isSome (World.cell? w7 (Addr.add ⟨World.heap w2 |>.size, 0, none⟩ (Int.toNat 1 * 1))) = true ∧ World.frozen? w7 (Addr.add ⟨World.heap w2 |>.size, 0, none⟩ (Int.toNat 1 * 1)) = false ∧
 ∀ w9 : World, w9 = World.setCell w7 (Addr.add ⟨World.heap w2 |>.size, 0, none⟩ (Int.toNat 1 * 1)) (.int .u8 (IntKind.wrap .u8 x6)) →
 ∃ x10 : Int, World.cell? w9 (Addr.add ⟨World.heap w |>.size, 0, none⟩ 1) = some (.int .i64 x10) ∧
 ∃ I11 : Nat → Int → World → Prop,
 (∃ m, I11 m 0 w9) ∧
 (∀ (m12 : Nat) (w13 : World) (x14 : Int), I11 m12 x14 w13 →
 (bif (decide (x14 < 8)) then
 (0 ≤ (IntKind.wrap .i64 (56 - (IntKind.wrap .i64 (8 * x14)))) ∧ 0 ≤ (IntKind.wrap .i64 (2 + x14)) ∧ (IntKind.wrap .i64 (2 + x14)) < ((10 : Nat) : Int) ∧
 one (.int .u8 (IntKind.wrap .u8 (shR .u64 (bXor .u64 (IntKind.wrap .u64 x10) 9223372036854775808) (IntKind.wrap .i64 (56 - (IntKind.wrap .i64 (8 * x14))))))) = true ∧ Option.isSome (World.cell? w13 (Addr.add ⟨World.heap w2 |>.size, 0, none⟩ (Int.toNat (IntKind.wrap .i64 (2 + x14)) * 1))) = true ∧ World.frozen? w13 (Addr.add ⟨World.heap w2 |>.size, 0, none⟩ (Int.toNat (IntKind.wrap .i64 (2 + x14)) * 1)) = false ∧
 ∀ w15 : World, w15 = World.setCell w13 (Addr.add ⟨World.heap w2 |>.size, 0, none⟩ (Int.toNat (IntKind.wrap .i64 (2 + x14)) * 1)) (.int .u8 (IntKind.wrap .u8 (shR .u64 (bXor .u64 (IntKind.wrap .u64 x10) 9223372036854775808) (IntKind.wrap .i64 (56 - (IntKind.wrap .i64 (8 * x14))))))) →
 ∃ m16, m16 < m12 ∧ I11 m16 (IntKind.wrap .i64 (x14 + 1)) w15)
 else
 (∃ cs17 : List Value, List.length cs17 = 10 ∧ Cells w13 ⟨World.heap w2 |>.size, 0, none⟩ cs17 ∧
 Array.size (List.toArray cs17) = 10 ∧ (∀ u ∈ Array.toList (List.toArray cs17), one u = true) ∧ Room w13 ⟨World.heap w1 |>.size, 0, none⟩ 10 ∧
 ∀ w18 : World, w18 = setCells w13 ⟨World.heap w1 |>.size, 0, none⟩ (Array.toList (List.toArray cs17)) 0 →
 ∃ cs19 : List Value, List.length cs19 = 10 ∧ Cells w18 ⟨World.heap w1 |>.size, 0, none⟩ cs19 ∧
 R (.returned (.agg (List.toArray cs19))) w18)))
theorem e39 (k0 : Array Value) (w : World) (R : Ending → World → Prop) : denS Try.prog s39 (argsEnv 0 [(.agg k0)]) w (endK r39 R) = d39 k0 w R := by kernel_rfl
theorem c39 (k0 : Array Value) {w : World} {R : Ending → World → Prop} (h : d39 k0 w R) : Calls Try.prog 39 #[(.agg k0)] w R :=
  den39 [(.agg k0)] w R (by simp) ((e39 k0 w R).symm ▸ h)

/-- prelude/keys.Bytes -/
def s18 : S := (.seq (.ops [⟨(some 1), (.box 24 (.tmp 0)), .ptr, none⟩,
  ⟨(some 2), (.mv (.const (.slice none 0 0))), .sl, none⟩,
  ⟨(some 3), (.mv (.const (.int .i64 0))), (.int .i64), none⟩] [1])
 (.seq (.seq (.ops [⟨(some 6), (.ldN 2 (.tmp 1)), .agg, none⟩,
  ⟨(some 7), (.call 11 [(.tmp 6)] [(.int .i64)]), (.int .i64), none⟩,
  ⟨(some 4), (.mv (.tmp 7)), (.int .i64), none⟩] [4, 1])
 (.seq (.ops [⟨(some 8), (.mv (.tmp 4)), (.int .i64), none⟩,
  ⟨(some 9), (.bin .neq (.tmp 8) (.const (.int .i64 0))), .bool, none⟩] [9, 4, 1])
 (.cond (.tmp 9)
 (.seq (.ops [⟨(some 10), (.mv (.tmp 4)), (.int .i64), none⟩,
  ⟨(some 2), (.mv (.const (.slice none 0 0))), .sl, none⟩,
  ⟨(some 3), (.mv (.tmp 10)), (.int .i64), none⟩] [2, 3])
 .ret)
 .skip)))
 (.seq (.ops [⟨(some 11), (.ldN 2 (.tmp 1)), .agg, none⟩,
  ⟨(some 12), (.call 39 [(.tmp 11)] [.agg]), .agg, none⟩,
  ⟨(some 5), (.alloc 78), .ptr, none⟩,
  ⟨none, (.stN 10 (.tmp 5) (.tmp 12)), .any, none⟩] [5])
 (.seq (.ops [⟨(some 13), (.slA 10 1 (.tmp 5) none none none), .sl, none⟩,
  ⟨(some 14), (.app #[29, 29] 29 (.const (.slice none 0 0)) (.tmp 13)), .sl, none⟩,
  ⟨(some 2), (.mv (.tmp 14)), .sl, none⟩,
  ⟨(some 3), (.mv (.const (.int .i64 0))), (.int .i64), none⟩] [2, 3])
 .ret))))
def r18 : List Res := [.t 2, .t 3]
theorem tr18 : trS Try.prog [] 15 (Try.f18.body.getD .skip) s18 = some s18 := by kernel_rfl
theorem den18 (args : List Value) (w : World) (R : Ending → World → Prop) (hn : args.length ≤ 15) (h : denS Try.prog s18 (argsEnv 0 args) w (endK r18 R)) : Calls Try.prog 18 args.toArray w R :=
  calls_of_den (pn := []) (fn := Try.f18) (c := Try.f18.body.getD .skip) Try.func18 (by kernel_rfl) (by rw [Try.ntmps18]; exact hn) (by rw [Try.ntmps18]; exact tr18) (by kernel_rfl) h
def d18 (k0 : Array Value) (w : World) (R : Ending → World → Prop) : Prop :=
 ∀ w1 : World, w1 = World.alloc w (.cells k0 24) →
 ∃ cs2 : List Value, List.length cs2 = 2 ∧ Cells w1 ⟨World.heap w |>.size, 0, none⟩ cs2 ∧
 Calls Try.prog 11 #[(.agg (List.toArray cs2))] w1 fun e3 w4 => ∃ x5 : Int, e3 = .returned (.int .i64 x5) ∧
 (bif (!decide (x5 = 0)) then
 (R (.returned (.tuple #[(.slice none 0 0), (.int .i64 x5)])) w4)
 else
 (∃ cs6 : List Value, List.length cs6 = 2 ∧ Cells w4 ⟨World.heap w |>.size, 0, none⟩ cs6 ∧
 Calls Try.prog 39 #[(.agg (List.toArray cs6))] w4 fun e7 w8 => ∃ x9 : Array Value, e7 = .returned (.agg x9) ∧
 ∀ w10 : World, w10 = World.alloc w8 (.cells (zc Try.prog 78).toArray 78) →
 Array.size x9 = 10 ∧ (∀ u ∈ Array.toList x9, one u = true) ∧ Room w10 ⟨World.heap w8 |>.size, 0, none⟩ 10 ∧
 ∀ w11 : World, w11 = setCells w10 ⟨World.heap w8 |>.size, 0, none⟩ (Array.toList x9) 0 →
 RunV Try.prog (Builtin.append_ #[29, 29] 29 #[(.slice none 0 0), (.slice (some (if 10 = 0 then ⟨World.heap w8 |>.size, 0, none⟩ else Addr.add ⟨World.heap w8 |>.size, 0, none⟩ (0 * 1))) (10 - 0) (10 - 0))]) w11 fun v12 w13 => ∃ (x14 : Option Addr) (x14n : Nat) (x14c : Nat), v12 = (.slice x14 x14n x14c) ∧
 R (.returned (.tuple #[(.slice x14 x14n x14c), (.int .i64 0)])) w13))
theorem e18 (k0 : Array Value) (w : World) (R : Ending → World → Prop) : denS Try.prog s18 (argsEnv 0 [(.agg k0)]) w (endK r18 R) = d18 k0 w R := by kernel_rfl
theorem c18 (k0 : Array Value) {w : World} {R : Ending → World → Prop} (h : d18 k0 w R) : Calls Try.prog 18 #[(.agg k0)] w R :=
  den18 [(.agg k0)] w R (by simp) ((e18 k0 w R).symm ▸ h)

/-- prelude/keys.FromBytes -/
def s29 : S := (.seq (.ops [⟨(some 2), (.alloc 24), .ptr, none⟩,
  ⟨(some 3), (.mv (.const (.int .i64 0))), (.int .i64), none⟩] [0, 2])
 (.seq (.block 0
 (.seq (.ops [⟨(some 8), (.mv (.tmp 0)), .sl, none⟩,
  ⟨(some 9), (.len (.tmp 8)), (.int .i64), none⟩,
  ⟨(some 10), (.bin .lss (.tmp 9) (.const (.int .i64 10))), .bool, none⟩,
  ⟨(some 7), (.mv (.tmp 10)), .bool, none⟩] [7, 2, 0])
 (.cond (.tmp 7)
 (.seq (.ops [⟨(some 11), (.bld 24 (.fields [(0, 1), (1, 1)]) []), .agg, none⟩,
  ⟨none, (.stN 2 (.tmp 2) (.tmp 11)), .any, none⟩,
  ⟨(some 3), (.mv (.const (.int .i64 10))), (.int .i64), none⟩] [2, 3])
 .ret)
 (.seq (.ops [⟨(some 13), (.mv (.tmp 0)), .sl, none⟩,
  ⟨(some 14), (.len (.tmp 13)), (.int .i64), none⟩,
  ⟨(some 15), (.bin .gtr (.tmp 14) (.const (.int .i64 10))), .bool, none⟩,
  ⟨(some 12), (.mv (.tmp 15)), .bool, none⟩] [12, 2, 0])
 (.cond (.tmp 12)
 (.seq (.ops [⟨(some 16), (.bld 24 (.fields [(0, 1), (1, 1)]) []), .agg, none⟩,
  ⟨none, (.stN 2 (.tmp 2) (.tmp 16)), .any, none⟩,
  ⟨(some 3), (.mv (.const (.int .i64 11))), (.int .i64), none⟩] [2, 3])
 .ret)
 .skip)))))
 (.seq (.ops [⟨(some 4), (.mv (.const (.int .u64 0))), (.int .u64), none⟩] [0, 4, 2])
 (.seq (.seq (.ops [⟨(some 17), (.mv (.tmp 0)), .sl, none⟩,
  ⟨(some 18), (.slS 1 (.tmp 17) (some (.const (.int .i64 2))) none none), .sl, none⟩,
  ⟨(some 19), (.len (.tmp 18)), (.int .i64), none⟩,
  ⟨(some 20), (.mv (.const (.int .i64 0))), (.int .i64), none⟩] [20, 19, 18, 4, 0, 2])
 (.block 1
 (.loop [(4, (.int .u64)), (20, (.int .i64))] [0, 2, 18, 19]
 (.seq (.ops [⟨(some 21), (.bin .lss (.tmp 20) (.tmp 19)), .any, none⟩] [21, 18, 20, 4, 19, 0, 2])
 (.seq (.cond (.tmp 21)
 .skip
 (.exit 1))
 (.seq (.block 2
 (.seq (.ops [⟨(some 22), (.ia 1 (.tmp 18) (.tmp 20)), .ptr, none⟩,
  ⟨(some 23), (.ld1 (.tmp 22)), (.int .u8), none⟩,
  ⟨(some 6), (.mv (.tmp 23)), (.int .u8), none⟩] [4, 6, 20, 19, 18, 0, 2])
 (.ops [⟨(some 24), (.mv (.tmp 4)), (.int .u64), none⟩,
  ⟨(some 25), (.bin .shl (.tmp 24) (.const (.int .u64 8))), (.int .u64), none⟩,
  ⟨(some 26), (.mv (.tmp 6)), (.int .u8), none⟩,
  ⟨(some 27), (.cv .u64 (.tmp 26)), (.int .u64), none⟩,
  ⟨(some 28), (.bin .or (.tmp 25) (.tmp 27)), (.int .u64), none⟩,
  ⟨(some 4), (.mv (.tmp 28)), (.int .u64), none⟩] [20, 19, 18, 4, 0, 2])))
 (.ops [⟨(some 29), (.bin .add (.tmp 20) (.const (.int .i64 1))), (.int .i64), none⟩,
  ⟨(some 20), (.mv (.tmp 29)), (.int .i64), none⟩] [20, 19, 18, 4, 0, 2])))))))
 (.seq (.draw (.take 0 ⟨(some 30), (.mv (.tmp 0)), .sl, none⟩
  (.take 1 ⟨(some 31), (.ia 1 (.tmp 30) (.const (.int .i64 0))), .ptr, none⟩
  (.take 2 ⟨(some 32), (.ld1 (.tmp 31)), (.int .u8), none⟩
  (.take 3 ⟨(some 33), (.cv .i64 (.tmp 32)), (.int .i64), none⟩
  (.take 4 ⟨(some 34), (.bin .shl (.tmp 33) (.const (.int .u64 8))), (.int .i64), none⟩
  (.take 5 ⟨(some 35), (.mv (.tmp 0)), .sl, none⟩
  (.take 6 ⟨(some 36), (.ia 1 (.tmp 35) (.const (.int .i64 1))), .ptr, none⟩
  (.take 7 ⟨(some 37), (.ld1 (.tmp 36)), (.int .u8), none⟩
  (.take 8 ⟨(some 38), (.cv .i64 (.tmp 37)), (.int .i64), none⟩
  (.take 9 ⟨(some 39), (.bin .or (.tmp 34) (.tmp 38)), (.int .i64), none⟩
  (.take 10 ⟨(some 40), (.mv (.tmp 4)), (.int .u64), none⟩
  (.take 11 ⟨(some 41), (.bin .xor (.tmp 40) (.const (.int .u64 9223372036854775808))), (.int .u64), none⟩
  (.take 12 ⟨(some 42), (.cv .i64 (.tmp 41)), (.int .i64), none⟩
  (.take 13 ⟨(some 43), (.bld 24 (.fields [(0, 1), (1, 1)]) [(0, (.tmp 39)), (1, (.tmp 42))]), .agg, none⟩
  (.go 14 ⟨none, (.stN 2 (.tmp 2) (.tmp 43)), .any, none⟩ []
  (.take 15 ⟨(some 3), (.mv (.const (.int .i64 0))), (.int .i64), none⟩
  .done)))))))))))))))) [2, 3])
 .ret)))))
def r29 : List Res := [.cN 2 2, .t 3]
theorem tr29 : trS Try.prog [] 44 (Try.f29.body.getD .skip) s29 = some s29 := by kernel_rfl
theorem den29 (args : List Value) (w : World) (R : Ending → World → Prop) (hn : args.length ≤ 44) (h : denS Try.prog s29 (argsEnv 0 args) w (endK r29 R)) : Calls Try.prog 29 args.toArray w R :=
  calls_of_den (pn := []) (fn := Try.f29) (c := Try.f29.body.getD .skip) Try.func29 (by kernel_rfl) (by rw [Try.ntmps29]; exact hn) (by rw [Try.ntmps29]; exact tr29) (by kernel_rfl) h
def d29 (b0 : Option Addr) (b0n : Nat) (b0c : Nat) (w : World) (R : Ending → World → Prop) : Prop :=
 ∀ w1 : World, w1 = World.alloc w (.cells (zc Try.prog 24).toArray 24) →
 (bif (decide (((b0n : Nat) : Int) < 10)) then
 (∃ cs2, fillL (.fields [(0, 1), (1, 1)]) (zc Try.prog 24) [] = some cs2 ∧
 Array.size (List.toArray cs2) = 2 ∧ (∀ u ∈ Array.toList (List.toArray cs2), one u = true) ∧ Room w1 ⟨World.heap w |>.size, 0, none⟩ 2 ∧
 ∀ w3 : World, w3 = setCells w1 ⟨World.heap w |>.size, 0, none⟩ (Array.toList (List.toArray cs2)) 0 →
 ∃ cs4 : List Value, List.length cs4 = 2 ∧ Cells w3 ⟨World.heap w |>.size, 0, none⟩ cs4 ∧
 R (.returned (.tuple #[(.agg (List.toArray cs4)), (.int .i64 10)])) w3)
 else
 ((bif (decide (10 < ((b0n : Nat) : Int))) then
 (∃ cs5, fillL (.fields [(0, 1), (1, 1)]) (zc Try.prog 24) [] = some cs5 ∧
 Array.size (List.toArray cs5) = 2 ∧ (∀ u ∈ Array.toList (List.toArray cs5), one u = true) ∧ Room w1 ⟨World.heap w |>.size, 0, none⟩ 2 ∧
 ∀ w6 : World, w6 = setCells w1 ⟨World.heap w |>.size, 0, none⟩ (Array.toList (List.toArray cs5)) 0 →
 ∃ cs7 : List Value, List.length cs7 = 2 ∧ Cells w6 ⟨World.heap w |>.size, 0, none⟩ cs7 ∧
 R (.returned (.tuple #[(.agg (List.toArray cs7)), (.int .i64 11)])) w6)
 else
 (0 ≤ (2 : Int) ∧ (2 : Int) ≤ ((b0n : Nat) : Int) ∧ ∃ I8 : Nat → Int → Int → World → Prop,
 (∃ m, I8 m 0 0 w1) ∧
 (∀ (m9 : Nat) (w10 : World) (row11 : Int) (x12 : Int), I8 m9 row11 x12 w10 →
 (bif (decide (x12 < (((b0n - (Int.toNat 2)) : Nat) : Int))) then
 (0 ≤ x12 ∧ x12 < (((b0n - (Int.toNat 2)) : Nat) : Int) ∧ optK (if b0c = (Int.toNat 2) then b0 else Option.map (fun y => Addr.add y ((Int.toNat 2) * 1)) b0) fun a13 =>
 ∃ x14 : Int, World.cell? w10 (Addr.add a13 (Int.toNat x12 * 1)) = some (.int .u8 x14) ∧
 0 ≤ (8 : Int) ∧ ∃ m15, m15 < m9 ∧ I8 m15 (bOr .u64 (shL .u64 row11 8) (IntKind.wrap .u64 x14)) (IntKind.wrap .i64 (x12 + 1)) w10)
 else
 (∀ w16 : World, w16 = World.drew w10 →
 0 ≤ (0 : Int) ∧ (0 : Int) < ((b0n : Nat) : Int) ∧ optK b0 fun a17 =>
 ∃ x18 : Int, World.cell? w16 (Addr.add a17 (Int.toNat 0 * 1)) = some (.int .u8 x18) ∧
 0 ≤ (8 : Int) ∧ 0 ≤ (1 : Int) ∧ (1 : Int) < ((b0n : Nat) : Int) ∧ optK b0 fun a19 =>
 ∃ x20 : Int, World.cell? w16 (Addr.add a19 (Int.toNat 1 * 1)) = some (.int .u8 x20) ∧
 ∃ cs21, fillL (.fields [(0, 1), (1, 1)]) (zc Try.prog 24) [(0, (.int .i64 (bOr .i64 (shL .i64 (IntKind.wrap .i64 x18) 8) (IntKind.wrap .i64 x20)))), (1, (.int .i64 (IntKind.wrap .i64 (bXor .u64 row11 9223372036854775808))))] = some cs21 ∧
 Array.size (List.toArray cs21) = 2 ∧ (∀ u ∈ Array.toList (List.toArray cs21), one u = true) ∧ Room w16 ⟨World.heap w |>.size, 0, none⟩ 2 ∧
 ∀ w22 : World, w22 = setCells w16 ⟨World.heap w |>.size, 0, none⟩ (Array.toList (List.toArray cs21)) 0 →
 ∃ cs23 : List Value, List.length cs23 = 2 ∧ Cells w22 ⟨World.heap w |>.size, 0, none⟩ cs23 ∧
 R (.returned (.tuple #[(.agg (List.toArray cs23)), (.int .i64 0)])) w22)))))))
theorem e29 (b0 : Option Addr) (b0n : Nat) (b0c : Nat) (w : World) (R : Ending → World → Prop) : denS Try.prog s29 (argsEnv 0 [(.slice b0 b0n b0c)]) w (endK r29 R) = d29 b0 b0n b0c w R := by kernel_rfl
theorem c29 (b0 : Option Addr) (b0n : Nat) (b0c : Nat) {w : World} {R : Ending → World → Prop} (h : d29 b0 b0n b0c w R) : Calls Try.prog 29 #[(.slice b0 b0n b0c)] w R :=
  den29 [(.slice b0 b0n b0c)] w R (by simp) ((e29 b0 b0n b0c w R).symm ▸ h)

/-- prelude/preluderef02.Check -/
def s20 : S := (.seq (.ops [⟨(some 1), (.box 24 (.tmp 0)), .ptr, none⟩,
  ⟨(some 2), (.mv (.const (.int .i64 0))), (.int .i64), none⟩] [1])
 (.seq (.seq (.ops [⟨(some 3), (.fa 0 (.tmp 1)), .ptr, none⟩,
  ⟨(some 4), (.ld1 (.tmp 3)), (.int .i64), none⟩,
  ⟨(some 5), (.bin .lss (.tmp 4) (.const (.int .i64 0))), .bool, none⟩,
  ⟨(some 6), (.mv (.tmp 5)), .bool, none⟩,
  ⟨(some 7), (.fa 0 (.tmp 1)), .ptr, (some (6, false))⟩,
  ⟨(some 8), (.ld1 (.tmp 7)), (.int .i64), (some (6, false))⟩,
  ⟨(some 9), (.bin .gtr (.tmp 8) (.const (.int .i64 65535))), .bool, (some (6, false))⟩,
  ⟨(some 10), (.pick (.tmp 6) (.const (.bool true)) (.tmp 9)), .bool, none⟩] [10])
 (.cond (.tmp 10)
 (.seq (.ops [⟨(some 2), (.mv (.const (.int .i64 20))), (.int .i64), none⟩] [2])
 .ret)
 .skip))
 (.seq (.ops [⟨(some 2), (.mv (.const (.int .i64 0))), (.int .i64), none⟩] [2])
 .ret)))
def r20 : List Res := [.t 2]
theorem tr20 : trS Try.prog [] 11 (Try.f20.body.getD .skip) s20 = some s20 := by kernel_rfl
theorem den20 (args : List Value) (w : World) (R : Ending → World → Prop) (hn : args.length ≤ 11) (h : denS Try.prog s20 (argsEnv 0 args) w (endK r20 R)) : Calls Try.prog 20 args.toArray w R :=
  calls_of_den (pn := []) (fn := Try.f20) (c := Try.f20.body.getD .skip) Try.func20 (by kernel_rfl) (by rw [Try.ntmps20]; exact hn) (by rw [Try.ntmps20]; exact tr20) (by kernel_rfl) h
def d20 (k0 : Array Value) (w : World) (R : Ending → World → Prop) : Prop :=
 ∀ w1 : World, w1 = World.alloc w (.cells k0 24) →
 ∃ x2 : Int, World.cell? w1 (Addr.add ⟨World.heap w |>.size, 0, none⟩ 0) = some (.int .i64 x2) ∧
 (bif (decide (x2 < 0)) then
 (R (.returned (.int .i64 20)) w1)
 else
 (∃ x3 : Int, World.cell? w1 (Addr.add ⟨World.heap w |>.size, 0, none⟩ 0) = some (.int .i64 x3) ∧
 (bif (decide (65535 < x3)) then
 (R (.returned (.int .i64 20)) w1)
 else
 (R (.returned (.int .i64 0)) w1))))
theorem e20 (k0 : Array Value) (w : World) (R : Ending → World → Prop) : denS Try.prog s20 (argsEnv 0 [(.agg k0)]) w (endK r20 R) = d20 k0 w R := by kernel_rfl
theorem c20 (k0 : Array Value) {w : World} {R : Ending → World → Prop} (h : d20 k0 w R) : Calls Try.prog 20 #[(.agg k0)] w R :=
  den20 [(.agg k0)] w R (by simp) ((e20 k0 w R).symm ▸ h)

/-- prelude/preluderef02.ten -/
def s40 : S := (.seq (.ops [⟨(some 1), (.box 24 (.tmp 0)), .ptr, none⟩,
  ⟨(some 2), (.alloc 78), .ptr, none⟩] [1, 2])
 (.seq (.ops [⟨(some 3), (.alloc 78), .ptr, none⟩] [1, 3, 2])
 (.seq (.ops [⟨(some 6), (.fa 0 (.tmp 1)), .ptr, none⟩,
  ⟨(some 7), (.ld1 (.tmp 6)), (.int .i64), none⟩,
  ⟨(some 8), (.bin .quo (.tmp 7) (.const (.int .i64 256))), (.int .i64), none⟩,
  ⟨(some 9), (.cv .u8 (.tmp 8)), (.int .u8), none⟩,
  ⟨(some 10), (.iaA 10 1 (.tmp 3) (.const (.int .i64 0))), .ptr, none⟩,
  ⟨none, (.st1 (.tmp 10) (.tmp 9)), .any, none⟩] [1, 3, 2])
 (.seq (.ops [⟨(some 11), (.fa 0 (.tmp 1)), .ptr, none⟩,
  ⟨(some 12), (.ld1 (.tmp 11)), (.int .i64), none⟩,
  ⟨(some 13), (.bin .rem (.tmp 12) (.const (.int .i64 256))), (.int .i64), none⟩,
  ⟨(some 14), (.cv .u8 (.tmp 13)), (.int .u8), none⟩,
  ⟨(some 15), (.iaA 10 1 (.tmp 3) (.const (.int .i64 1))), .ptr, none⟩,
  ⟨none, (.st1 (.tmp 15) (.tmp 14)), .any, none⟩] [1, 3, 2])
 (.seq (.ops [⟨(some 16), (.fa 1 (.tmp 1)), .ptr, none⟩,
  ⟨(some 17), (.ld1 (.tmp 16)), (.int .i64), none⟩,
  ⟨(some 18), (.cv .u64 (.tmp 17)), (.int .u64), none⟩,
  ⟨(some 19), (.bin .xor (.tmp 18) (.const (.int .u64 9223372036854775808))), (.int .u64), none⟩,
  ⟨(some 4), (.mv (.tmp 19)), (.int .u64), none⟩] [4, 3, 2])
 (.seq (.seq (.ops [⟨(some 5), (.mv (.const (.int .i64 0))), (.int .i64), none⟩] [5, 4, 3, 2])
 (.block 0
 (.loop [(4, (.int .u64)), (5, (.int .i64))] [2, 3]
 (.seq (.seq (.ops [⟨(some 20), (.mv (.tmp 5)), (.int .i64), none⟩,
  ⟨(some 21), (.bin .lss (.tmp 20) (.const (.int .i64 8))), .bool, none⟩] [21, 5, 4, 3, 2])
 (.cond (.tmp 21)
 .skip
 (.exit 0)))
 (.seq (.block 1
 (.seq (.ops [⟨(some 24), (.mv (.tmp 5)), (.int .i64), none⟩,
  ⟨(some 25), (.bin .sub (.const (.int .i64 9)) (.tmp 24)), (.int .i64), none⟩,
  ⟨(some 26), (.mv (.tmp 4)), (.int .u64), none⟩,
  ⟨(some 27), (.bin .rem (.tmp 26) (.const (.int .u64 256))), (.int .u64), none⟩,
  ⟨(some 28), (.cv .u8 (.tmp 27)), (.int .u8), none⟩,
  ⟨(some 29), (.iaA 10 1 (.tmp 3) (.tmp 25)), .ptr, none⟩,
  ⟨none, (.st1 (.tmp 29) (.tmp 28)), .any, none⟩] [4, 5, 3, 2])
 (.ops [⟨(some 30), (.mv (.tmp 4)), (.int .u64), none⟩,
  ⟨(some 31), (.bin .quo (.tmp 30) (.const (.int .u64 256))), (.int .u64), none⟩,
  ⟨(some 4), (.mv (.tmp 31)), (.int .u64), none⟩] [5, 4, 3, 2])))
 (.ops [⟨(some 22), (.mv (.tmp 5)), (.int .i64), none⟩,
  ⟨(some 23), (.bin .add (.tmp 22) (.const (.int .i64 1))), (.int .i64), none⟩,
  ⟨(some 5), (.mv (.tmp 23)), (.int .i64), none⟩] [5, 4, 3, 2]))))))
 (.seq (.ops [⟨(some 32), (.ldN 10 (.tmp 3)), .agg, none⟩,
  ⟨none, (.stN 10 (.tmp 2) (.tmp 32)), .any, none⟩] [2])
 .ret)))))))
def r40 : List Res := [.cN 2 10]
theorem tr40 : trS Try.prog [] 33 (Try.f40.body.getD .skip) s40 = some s40 := by kernel_rfl
theorem den40 (args : List Value) (w : World) (R : Ending → World → Prop) (hn : args.length ≤ 33) (h : denS Try.prog s40 (argsEnv 0 args) w (endK r40 R)) : Calls Try.prog 40 args.toArray w R :=
  calls_of_den (pn := []) (fn := Try.f40) (c := Try.f40.body.getD .skip) Try.func40 (by kernel_rfl) (by rw [Try.ntmps40]; exact hn) (by rw [Try.ntmps40]; exact tr40) (by kernel_rfl) h
def d40 (k0 : Array Value) (w : World) (R : Ending → World → Prop) : Prop :=
 ∀ w1 : World, w1 = World.alloc w (.cells k0 24) →
 ∀ w2 : World, w2 = World.alloc w1 (.cells (zc Try.prog 78).toArray 78) →
 ∀ w3 : World, w3 = World.alloc w2 (.cells (zc Try.prog 78).toArray 78) →
 ∃ x4 : Int, World.cell? w3 (Addr.add ⟨World.heap w |>.size, 0, none⟩ 0) = some (.int .i64 x4) ∧
 (256 : Int) ≠ 0 ∧ 0 ≤ (0 : Int) ∧ (0 : Int) < ((10 : Nat) : Int) ∧
 one (.int .u8 (IntKind.wrap .u8 (IntKind.wrap .i64 (Int.tdiv x4 256)))) = true ∧ Option.isSome (World.cell? w3 (Addr.add ⟨World.heap w2 |>.size, 0, none⟩ (Int.toNat 0 * 1))) = true ∧ World.frozen? w3 (Addr.add ⟨World.heap w2 |>.size, 0, none⟩ (Int.toNat 0 * 1)) = false ∧
 ∀ w5 : World, w5 = World.setCell w3 (Addr.add ⟨World.heap w2 |>.size, 0, none⟩ (Int.toNat 0 * 1)) (.int .u8 (IntKind.wrap .u8 (IntKind.wrap .i64 (Int.tdiv x4 256)))) →
 ∃ x6 : Int, World.cell? w5 (Addr.add ⟨World.heap w |>.size, 0, none⟩ 0) = some (.int .i64 x6) ∧
 (256 : Int) ≠ 0 ∧ 0 ≤ (1 : Int) ∧ (1 : Int) < ((10 : Nat) : Int) ∧
 one (.int .u8 (IntKind.wrap .u8 (Int.tmod x6 256))) = true ∧ Option.isSome (World.cell? w5 (Addr.add ⟨World.heap w2 |>.size, 0, none⟩ (Int.toNat 1 * 1))) = true ∧ World.frozen? w5 (Addr.add ⟨World.heap w2 |>.size, 0, none⟩ (Int.toNat 1 * 1)) = false ∧
 ∀ w7 : World, w7 = World.setCell w5 (Addr.add ⟨World.heap w2 |>.size, 0, none⟩ (Int.toNat 1 * 1)) (.int .u8 (IntKind.wrap .u8 (Int.tmod x6 256))) →
 ∃ x8 : Int, World.cell? w7 (Addr.add ⟨World.heap w |>.size, 0, none⟩ 1) = some (.int .i64 x8) ∧
 ∃ I9 : Nat → Int → Int → World → Prop,
 (∃ m, I9 m (bXor .u64 (IntKind.wrap .u64 x8) 9223372036854775808) 0 w7) ∧
 (∀ (m10 : Nat) (w11 : World) (u12 : Int) (i13 : Int), I9 m10 u12 i13 w11 →
 (bif (decide (i13 < 8)) then
 ((256 : Int) ≠ 0 ∧ 0 ≤ (IntKind.wrap .i64 (9 - i13)) ∧ (IntKind.wrap .i64 (9 - i13)) < ((10 : Nat) : Int) ∧
 one (.int .u8 (IntKind.wrap .u8 (Int.tmod u12 256))) = true ∧ Option.isSome (World.cell? w11 (Addr.add ⟨World.heap w2 |>.size, 0, none⟩ (Int.toNat (IntKind.wrap .i64 (9 - i13)) * 1))) = true ∧ World.frozen? w11 (Addr.add ⟨World.heap w2 |>.size, 0, none⟩ (Int.toNat (IntKind.wrap .i64 (9 - i13)) * 1)) = false ∧
 ∀ w14 : World, w14 = World.setCell w11 (Addr.add ⟨World.heap w2 |>.size, 0, none⟩ (Int.toNat (IntKind.wrap .i64 (9 - i13)) * 1)) (.int .u8 (IntKind.wrap .u8 (Int.tmod u12 256))) →
 (256 : Int) ≠ 0 ∧ ∃ m15, m15 < m10 ∧ I9 m15 (IntKind.wrap .u64 (Int.tdiv u12 256)) (IntKind.wrap .i64 (i13 + 1)) w14)
 else
 (∃ cs16 : List Value, List.length cs16 = 10 ∧ Cells w11 ⟨World.heap w2 |>.size, 0, none⟩ cs16 ∧
 Array.size (List.toArray cs16) = 10 ∧ (∀ u ∈ Array.toList (List.toArray cs16), one u = true) ∧ Room w11 ⟨World.heap w1 |>.size, 0, none⟩ 10 ∧
 ∀ w17 : World, w17 = setCells w11 ⟨World.heap w1 |>.size, 0, none⟩ (Array.toList (List.toArray cs16)) 0 →
 ∃ cs18 : List Value, List.length cs18 = 10 ∧ Cells w17 ⟨World.heap w1 |>.size, 0, none⟩ cs18 ∧
 R (.returned (.agg (List.toArray cs18))) w17)))
theorem e40 (k0 : Array Value) (w : World) (R : Ending → World → Prop) : denS Try.prog s40 (argsEnv 0 [(.agg k0)]) w (endK r40 R) = d40 k0 w R := by kernel_rfl
theorem c40 (k0 : Array Value) {w : World} {R : Ending → World → Prop} (h : d40 k0 w R) : Calls Try.prog 40 #[(.agg k0)] w R :=
  den40 [(.agg k0)] w R (by simp) ((e40 k0 w R).symm ▸ h)

/-- prelude/preluderef02.Bytes -/
def s22 : S := (.seq (.ops [⟨(some 1), (.box 24 (.tmp 0)), .ptr, none⟩,
  ⟨(some 2), (.mv (.const (.slice none 0 0))), .sl, none⟩,
  ⟨(some 3), (.mv (.const (.int .i64 0))), (.int .i64), none⟩] [1])
 (.seq (.ops [⟨(some 8), (.ldN 2 (.tmp 1)), .agg, none⟩,
  ⟨(some 9), (.call 20 [(.tmp 8)] [(.int .i64)]), (.int .i64), none⟩,
  ⟨(some 4), (.mv (.tmp 9)), (.int .i64), none⟩] [4, 1])
 (.seq (.seq (.ops [⟨(some 10), (.mv (.tmp 4)), (.int .i64), none⟩,
  ⟨(some 11), (.bin .neq (.tmp 10) (.const (.int .i64 0))), .bool, none⟩] [11, 4, 1])
 (.cond (.tmp 11)
 (.seq (.ops [⟨(some 12), (.mv (.tmp 4)), (.int .i64), none⟩,
  ⟨(some 2), (.mv (.const (.slice none 0 0))), .sl, none⟩,
  ⟨(some 3), (.mv (.tmp 12)), (.int .i64), none⟩] [2, 3])
 .ret)
 .skip))
 (.seq (.ops [⟨(some 13), (.ldN 2 (.tmp 1)), .agg, none⟩,
  ⟨(some 14), (.call 40 [(.tmp 13)] [.agg]), .agg, none⟩,
  ⟨(some 5), (.alloc 78), .ptr, none⟩,
  ⟨none, (.stN 10 (.tmp 5) (.tmp 14)), .any, none⟩] [5])
 (.seq (.ops [⟨(some 6), (.mv (.const (.slice none 0 0))), .sl, none⟩] [6, 5])
 (.seq (.seq (.ops [⟨(some 7), (.mv (.const (.int .i64 0))), (.int .i64), none⟩] [7, 6, 5])
 (.block 0
 (.loop [(6, .sl), (7, (.int .i64))] [5]
 (.seq (.seq (.ops [⟨(some 15), (.mv (.tmp 7)), (.int .i64), none⟩,
  ⟨(some 16), (.bin .lss (.tmp 15) (.const (.int .i64 10))), .bool, none⟩] [16, 6, 7, 5])
 (.cond (.tmp 16)
 .skip
 (.exit 0)))
 (.seq (.block 1
 (.ops [⟨(some 19), (.mv (.tmp 6)), .sl, none⟩,
  ⟨(some 20), (.mv (.tmp 7)), (.int .i64), none⟩,
  ⟨(some 21), (.iaA 10 1 (.tmp 5) (.tmp 20)), .ptr, none⟩,
  ⟨(some 22), (.ld1 (.tmp 21)), (.int .u8), none⟩,
  ⟨(some 23), (.bldS 5 1 1 [(0, (.tmp 22))]), .sl, none⟩,
  ⟨(some 24), (.app #[29, 29] 29 (.tmp 19) (.tmp 23)), .sl, none⟩,
  ⟨(some 6), (.mv (.tmp 24)), .sl, none⟩] [7, 6, 5]))
 (.ops [⟨(some 17), (.mv (.tmp 7)), (.int .i64), none⟩,
  ⟨(some 18), (.bin .add (.tmp 17) (.const (.int .i64 1))), (.int .i64), none⟩,
  ⟨(some 7), (.mv (.tmp 18)), (.int .i64), none⟩] [7, 6, 5]))))))
 (.seq (.ops [⟨(some 25), (.mv (.tmp 6)), .sl, none⟩,
  ⟨(some 2), (.mv (.tmp 25)), .sl, none⟩,
  ⟨(some 3), (.mv (.const (.int .i64 0))), (.int .i64), none⟩] [2, 3])
 .ret)))))))
def r22 : List Res := [.t 2, .t 3]
theorem tr22 : trS Try.prog [] 26 (Try.f22.body.getD .skip) s22 = some s22 := by kernel_rfl
theorem den22 (args : List Value) (w : World) (R : Ending → World → Prop) (hn : args.length ≤ 26) (h : denS Try.prog s22 (argsEnv 0 args) w (endK r22 R)) : Calls Try.prog 22 args.toArray w R :=
  calls_of_den (pn := []) (fn := Try.f22) (c := Try.f22.body.getD .skip) Try.func22 (by kernel_rfl) (by rw [Try.ntmps22]; exact hn) (by rw [Try.ntmps22]; exact tr22) (by kernel_rfl) h
def d22 (k0 : Array Value) (w : World) (R : Ending → World → Prop) : Prop :=
 ∀ w1 : World, w1 = World.alloc w (.cells k0 24) →
 ∃ cs2 : List Value, List.length cs2 = 2 ∧ Cells w1 ⟨World.heap w |>.size, 0, none⟩ cs2 ∧
 Calls Try.prog 20 #[(.agg (List.toArray cs2))] w1 fun e3 w4 => ∃ x5 : Int, e3 = .returned (.int .i64 x5) ∧
 (bif (!decide (x5 = 0)) then
 (R (.returned (.tuple #[(.slice none 0 0), (.int .i64 x5)])) w4)
 else
 (∃ cs6 : List Value, List.length cs6 = 2 ∧ Cells w4 ⟨World.heap w |>.size, 0, none⟩ cs6 ∧
 Calls Try.prog 40 #[(.agg (List.toArray cs6))] w4 fun e7 w8 => ∃ x9 : Array Value, e7 = .returned (.agg x9) ∧
 ∀ w10 : World, w10 = World.alloc w8 (.cells (zc Try.prog 78).toArray 78) →
 Array.size x9 = 10 ∧ (∀ u ∈ Array.toList x9, one u = true) ∧ Room w10 ⟨World.heap w8 |>.size, 0, none⟩ 10 ∧
 ∀ w11 : World, w11 = setCells w10 ⟨World.heap w8 |>.size, 0, none⟩ (Array.toList x9) 0 →
 ∃ I12 : Nat → Option Addr → Nat → Nat → Int → World → Prop,
 (∃ m, I12 m none 0 0 0 w11) ∧
 (∀ (m13 : Nat) (w14 : World) (l15 : Option Addr) (l15n : Nat) (l15c : Nat) (i16 : Int), I12 m13 l15 l15n l15c i16 w14 →
 (bif (decide (i16 < 10)) then
 (0 ≤ i16 ∧ i16 < ((10 : Nat) : Int) ∧
 ∃ x17 : Int, World.cell? w14 (Addr.add ⟨World.heap w8 |>.size, 0, none⟩ (Int.toNat i16 * 1)) = some (.int .u8 x17) ∧
 ∃ cs18, fillL (.elems 1) (zrep (zc Try.prog 5) (1 * 1)) [(0, (.int .u8 x17))] = some cs18 ∧
 ∀ w19 : World, w19 = World.alloc w14 (.cells (List.toArray cs18) 5) →
 RunV Try.prog (Builtin.append_ #[29, 29] 29 #[(.slice l15 l15n l15c), (.slice (some ⟨World.heap w14 |>.size, 0, none⟩) 1 1)]) w19 fun v20 w21 => ∃ (x22 : Option Addr) (x22n : Nat) (x22c : Nat), v20 = (.slice x22 x22n x22c) ∧
 ∃ m23, m23 < m13 ∧ I12 m23 x22 x22n x22c (IntKind.wrap .i64 (i16 + 1)) w21)
 else
 (R (.returned (.tuple #[(.slice l15 l15n l15c), (.int .i64 0)])) w14)))))
theorem e22 (k0 : Array Value) (w : World) (R : Ending → World → Prop) : denS Try.prog s22 (argsEnv 0 [(.agg k0)]) w (endK r22 R) = d22 k0 w R := by kernel_rfl
theorem c22 (k0 : Array Value) {w : World} {R : Ending → World → Prop} (h : d22 k0 w R) : Calls Try.prog 22 #[(.agg k0)] w R :=
  den22 [(.agg k0)] w R (by simp) ((e22 k0 w R).symm ▸ h)

/-- prelude/preluderef02.FromBytes -/
def s35 : S := (.seq (.ops [⟨(some 2), (.alloc 24), .ptr, none⟩,
  ⟨(some 3), (.mv (.const (.int .i64 0))), (.int .i64), none⟩] [0, 2])
 (.seq (.seq (.ops [⟨(some 6), (.mv (.tmp 0)), .sl, none⟩,
  ⟨(some 7), (.len (.tmp 6)), (.int .i64), none⟩,
  ⟨(some 8), (.bin .lss (.tmp 7) (.const (.int .i64 10))), .bool, none⟩] [8, 2, 0])
 (.cond (.tmp 8)
 (.seq (.ops [⟨(some 9), (.bld 24 (.fields [(0, 1), (1, 1)]) []), .agg, none⟩,
  ⟨none, (.stN 2 (.tmp 2) (.tmp 9)), .any, none⟩,
  ⟨(some 3), (.mv (.const (.int .i64 10))), (.int .i64), none⟩] [2, 3])
 .ret)
 .skip))
 (.seq (.seq (.ops [⟨(some 10), (.mv (.tmp 0)), .sl, none⟩,
  ⟨(some 11), (.len (.tmp 10)), (.int .i64), none⟩,
  ⟨(some 12), (.bin .gtr (.tmp 11) (.const (.int .i64 10))), .bool, none⟩] [12, 2, 0])
 (.cond (.tmp 12)
 (.seq (.ops [⟨(some 13), (.bld 24 (.fields [(0, 1), (1, 1)]) []), .agg, none⟩,
  ⟨none, (.stN 2 (.tmp 2) (.tmp 13)), .any, none⟩,
  ⟨(some 3), (.mv (.const (.int .i64 11))), (.int .i64), none⟩] [2, 3])
 .ret)
 .skip))
 (.seq (.ops [⟨(some 4), (.mv (.const (.int .u64 0))), (.int .u64), none⟩] [4, 0, 2])
 (.seq (.seq (.ops [⟨(some 5), (.mv (.const (.int .i64 2))), (.int .i64), none⟩] [5, 4, 0, 2])
 (.block 0
 (.loop [(4, (.int .u64)), (5, (.int .i64))] [0, 2]
 (.seq (.seq (.ops [⟨(some 14), (.mv (.tmp 5)), (.int .i64), none⟩,
  ⟨(some 15), (.bin .lss (.tmp 14) (.const (.int .i64 10))), .bool, none⟩] [15, 4, 0, 5, 2])
 (.cond (.tmp 15)
 .skip
 (.exit 0)))
 (.seq (.block 1
 (.ops [⟨(some 18), (.mv (.tmp 4)), (.int .u64), none⟩,
  ⟨(some 19), (.bin .mul (.tmp 18) (.const (.int .u64 256))), (.int .u64), none⟩,
  ⟨(some 20), (.mv (.tmp 0)), .sl, none⟩,
  ⟨(some 21), (.mv (.tmp 5)), (.int .i64), none⟩,
  ⟨(some 22), (.ia 1 (.tmp 20) (.tmp 21)), .ptr, none⟩,
  ⟨(some 23), (.ld1 (.tmp 22)), (.int .u8), none⟩,
  ⟨(some 24), (.cv .u64 (.tmp 23)), (.int .u64), none⟩,
  ⟨(some 25), (.bin .add (.tmp 19) (.tmp 24)), (.int .u64), none⟩,
  ⟨(some 4), (.mv (.tmp 25)), (.int .u64), none⟩] [5, 4, 0, 2]))
 (.ops [⟨(some 16), (.mv (.tmp 5)), (.int .i64), none⟩,
  ⟨(some 17), (.bin .add (.tmp 16) (.const (.int .i64 1))), (.int .i64), none⟩,
  ⟨(some 5), (.mv (.tmp 17)), (.int .i64), none⟩] [5, 4, 0, 2]))))))
 (.seq (.draw (.take 0 ⟨(some 26), (.mv (.tmp 0)), .sl, none⟩
  (.take 1 ⟨(some 27), (.ia 1 (.tmp 26) (.const (.int .i64 0))), .ptr, none⟩
  (.take 2 ⟨(some 28), (.ld1 (.tmp 27)), (.int .u8), none⟩
  (.take 3 ⟨(some 29), (.cv .i64 (.tmp 28)), (.int .i64), none⟩
  (.take 4 ⟨(some 30), (.bin .mul (.tmp 29) (.const (.int .i64 256))), (.int .i64), none⟩
  (.take 5 ⟨(some 31), (.mv (.tmp 0)), .sl, none⟩
  (.take 6 ⟨(some 32), (.ia 1 (.tmp 31) (.const (.int .i64 1))), .ptr, none⟩
  (.take 7 ⟨(some 33), (.ld1 (.tmp 32)), (.int .u8), none⟩
  (.take 8 ⟨(some 34), (.cv .i64 (.tmp 33)), (.int .i64), none⟩
  (.take 9 ⟨(some 35), (.bin .add (.tmp 30) (.tmp 34)), (.int .i64), none⟩
  (.take 10 ⟨(some 36), (.mv (.tmp 4)), (.int .u64), none⟩
  (.take 11 ⟨(some 37), (.bin .xor (.tmp 36) (.const (.int .u64 9223372036854775808))), (.int .u64), none⟩
  (.take 12 ⟨(some 38), (.cv .i64 (.tmp 37)), (.int .i64), none⟩
  (.take 13 ⟨(some 39), (.bld 24 (.fields [(0, 1), (1, 1)]) [(0, (.tmp 35)), (1, (.tmp 38))]), .agg, none⟩
  (.go 14 ⟨none, (.stN 2 (.tmp 2) (.tmp 39)), .any, none⟩ []
  (.take 15 ⟨(some 3), (.mv (.const (.int .i64 0))), (.int .i64), none⟩
  .done)))))))))))))))) [2, 3])
 .ret))))))
def r35 : List Res := [.cN 2 2, .t 3]
theorem tr35 : trS Try.prog [] 40 (Try.f35.body.getD .skip) s35 = some s35 := by kernel_rfl
theorem den35 (args : List Value) (w : World) (R : Ending → World → Prop) (hn : args.length ≤ 40) (h : denS Try.prog s35 (argsEnv 0 args) w (endK r35 R)) : Calls Try.prog 35 args.toArray w R :=
  calls_of_den (pn := []) (fn := Try.f35) (c := Try.f35.body.getD .skip) Try.func35 (by kernel_rfl) (by rw [Try.ntmps35]; exact hn) (by rw [Try.ntmps35]; exact tr35) (by kernel_rfl) h
def d35 (b0 : Option Addr) (b0n : Nat) (b0c : Nat) (w : World) (R : Ending → World → Prop) : Prop :=
 ∀ w1 : World, w1 = World.alloc w (.cells (zc Try.prog 24).toArray 24) →
 (bif (decide (((b0n : Nat) : Int) < 10)) then
 (∃ cs2, fillL (.fields [(0, 1), (1, 1)]) (zc Try.prog 24) [] = some cs2 ∧
 Array.size (List.toArray cs2) = 2 ∧ (∀ u ∈ Array.toList (List.toArray cs2), one u = true) ∧ Room w1 ⟨World.heap w |>.size, 0, none⟩ 2 ∧
 ∀ w3 : World, w3 = setCells w1 ⟨World.heap w |>.size, 0, none⟩ (Array.toList (List.toArray cs2)) 0 →
 ∃ cs4 : List Value, List.length cs4 = 2 ∧ Cells w3 ⟨World.heap w |>.size, 0, none⟩ cs4 ∧
 R (.returned (.tuple #[(.agg (List.toArray cs4)), (.int .i64 10)])) w3)
 else
 ((bif (decide (10 < ((b0n : Nat) : Int))) then
 (∃ cs5, fillL (.fields [(0, 1), (1, 1)]) (zc Try.prog 24) [] = some cs5 ∧
 Array.size (List.toArray cs5) = 2 ∧ (∀ u ∈ Array.toList (List.toArray cs5), one u = true) ∧ Room w1 ⟨World.heap w |>.size, 0, none⟩ 2 ∧
 ∀ w6 : World, w6 = setCells w1 ⟨World.heap w |>.size, 0, none⟩ (Array.toList (List.toArray cs5)) 0 →
 ∃ cs7 : List Value, List.length cs7 = 2 ∧ Cells w6 ⟨World.heap w |>.size, 0, none⟩ cs7 ∧
 R (.returned (.tuple #[(.agg (List.toArray cs7)), (.int .i64 11)])) w6)
 else
 (∃ I8 : Nat → Int → Int → World → Prop,
 (∃ m, I8 m 0 2 w1) ∧
 (∀ (m9 : Nat) (w10 : World) (u11 : Int) (i12 : Int), I8 m9 u11 i12 w10 →
 (bif (decide (i12 < 10)) then
 (0 ≤ i12 ∧ i12 < ((b0n : Nat) : Int) ∧ optK b0 fun a13 =>
 ∃ x14 : Int, World.cell? w10 (Addr.add a13 (Int.toNat i12 * 1)) = some (.int .u8 x14) ∧
 ∃ m15, m15 < m9 ∧ I8 m15 (IntKind.wrap .u64 ((IntKind.wrap .u64 (u11 * 256)) + (IntKind.wrap .u64 x14))) (IntKind.wrap .i64 (i12 + 1)) w10)
 else
 (∀ w16 : World, w16 = World.drew w10 →
 0 ≤ (0 : Int) ∧ (0 : Int) < ((b0n : Nat) : Int) ∧ optK b0 fun a17 =>
 ∃ x18 : Int, World.cell? w16 (Addr.add a17 (Int.toNat 0 * 1)) = some (.int .u8 x18) ∧
 0 ≤ (1 : Int) ∧ (1 : Int) < ((b0n : Nat) : Int) ∧ optK b0 fun a19 =>
 ∃ x20 : Int, World.cell? w16 (Addr.add a19 (Int.toNat 1 * 1)) = some (.int .u8 x20) ∧
 ∃ cs21, fillL (.fields [(0, 1), (1, 1)]) (zc Try.prog 24) [(0, (.int .i64 (IntKind.wrap .i64 ((IntKind.wrap .i64 ((IntKind.wrap .i64 x18) * 256)) + (IntKind.wrap .i64 x20))))), (1, (.int .i64 (IntKind.wrap .i64 (bXor .u64 u11 9223372036854775808))))] = some cs21 ∧
 Array.size (List.toArray cs21) = 2 ∧ (∀ u ∈ Array.toList (List.toArray cs21), one u = true) ∧ Room w16 ⟨World.heap w |>.size, 0, none⟩ 2 ∧
 ∀ w22 : World, w22 = setCells w16 ⟨World.heap w |>.size, 0, none⟩ (Array.toList (List.toArray cs21)) 0 →
 ∃ cs23 : List Value, List.length cs23 = 2 ∧ Cells w22 ⟨World.heap w |>.size, 0, none⟩ cs23 ∧
 R (.returned (.tuple #[(.agg (List.toArray cs23)), (.int .i64 0)])) w22)))))))
theorem e35 (b0 : Option Addr) (b0n : Nat) (b0c : Nat) (w : World) (R : Ending → World → Prop) : denS Try.prog s35 (argsEnv 0 [(.slice b0 b0n b0c)]) w (endK r35 R) = d35 b0 b0n b0c w R := by kernel_rfl
theorem c35 (b0 : Option Addr) (b0n : Nat) (b0c : Nat) {w : World} {R : Ending → World → Prop} (h : d35 b0 b0n b0c w R) : Calls Try.prog 35 #[(.slice b0 b0n b0c)] w R :=
  den35 [(.slice b0 b0n b0c)] w R (by simp) ((e35 b0 b0n b0c w R).symm ▸ h)

end Go.Proofs.Ytjkbjppopdfggaa.Fn
