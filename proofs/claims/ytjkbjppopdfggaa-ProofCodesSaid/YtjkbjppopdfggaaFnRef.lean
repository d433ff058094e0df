/-
  THE CODE of some functions of the given program, resolved, and proved to ask what the readable texts (d..) say; contracts c.. follow. Printed by a small program of mine.
-/
import Derived.Test.YtjkbjppopdfggaaDenWords8
import Derived.Test.YtjkbjppopdfggaaProg
set_option maxRecDepth 100000
namespace Go.Proofs.Ytjkbjppopdfggaa.Fn
open Go Den
/-- prelude/preluderef01.Uint -/
def s21 : S := (.seq (.ops [⟨(some 2), (.mv (.const (.slice none 0 0))), .sl, none⟩] [0])
 (.seq (.ops [⟨(some 3), (.mv (.const (.slice none 0 0))), .sl, none⟩] [0, 3])
 (.seq (.block 0
 (.loop [(0, (.int .u64)), (3, .sl)] []
 (.seq (.seq (.ops [⟨(some 4), (.mv (.tmp 0)), (.int .u64), none⟩,
  ⟨(some 5), (.bin .geq (.tmp 4) (.const (.int .u64 128))), .bool, none⟩] [5, 3, 0])
 (.cond (.tmp 5)
 .skip
 (.exit 0)))
 (.block 1
 (.seq (.ops [⟨(some 6), (.mv (.tmp 3)), .sl, none⟩,
  ⟨(some 7), (.mv (.tmp 0)), (.int .u64), none⟩,
  ⟨(some 8), (.bin .rem (.tmp 7) (.const (.int .u64 128))), (.int .u64), none⟩,
  ⟨(some 9), (.cv .u8 (.tmp 8)), (.int .u8), none⟩,
  ⟨(some 10), (.bin .add (.tmp 9) (.const (.int .u8 128))), (.int .u8), none⟩,
  ⟨(some 11), (.bldS 5 1 1 [(0, (.tmp 10))]), .sl, none⟩,
  ⟨(some 12), (.app #[29, 29] 29 (.tmp 6) (.tmp 11)), .sl, none⟩,
  ⟨(some 3), (.mv (.tmp 12)), .sl, none⟩] [0, 3])
 (.ops [⟨(some 13), (.mv (.tmp 0)), (.int .u64), none⟩,
  ⟨(some 14), (.bin .quo (.tmp 13) (.const (.int .u64 128))), (.int .u64), none⟩,
  ⟨(some 0), (.mv (.tmp 14)), (.int .u64), none⟩] [0, 3]))))))
 (.seq (.ops [⟨(some 15), (.mv (.tmp 3)), .sl, none⟩,
  ⟨(some 16), (.mv (.tmp 0)), (.int .u64), none⟩,
  ⟨(some 17), (.cv .u8 (.tmp 16)), (.int .u8), none⟩,
  ⟨(some 18), (.bldS 5 1 1 [(0, (.tmp 17))]), .sl, none⟩,
  ⟨(some 19), (.app #[29, 29] 29 (.tmp 15) (.tmp 18)), .sl, none⟩,
  ⟨(some 2), (.mv (.tmp 19)), .sl, none⟩] [2])
 .ret))))
def r21 : List Res := [.t 2]
theorem tr21 : trS Try.prog [] 20 (Try.f21.body.getD .skip) s21 = some s21 := by kernel_rfl
theorem den21 (args : List Value) (w : World) (R : Ending → World → Prop) (hn : args.length ≤ 20) (h : denS Try.prog s21 (argsEnv 0 args) w (endK r21 R)) : Calls Try.prog 21 args.toArray w R :=
  calls_of_den (pn := []) (fn := Try.f21) (c := Try.f21.body.getD .skip) Try.func21 (by kernel_rfl) (by rw [Try.ntmps21]; exact hn) (by rw [Try.ntmps21]; exact tr21) (by kernel_rfl) h
def d21 (n0 : Int) (w : World) (R : Ending → World → Prop) : Prop :=
 ∃ I1 : Nat → Int → Option Addr → Nat → Nat → World → Prop,
 (∃ m, I1 m n0 none 0 0 w) ∧
 (∀ (m2 : Nat) (w3 : World) (n4 : Int) (b5 : Option Addr) (b5n : Nat) (b5c : Nat), I1 m2 n4 b5 b5n b5c w3 →
 (bif (decide (128 ≤ n4)) then
 ((128 : Int) ≠ 0 ∧ ∃ cs6, fillL (.elems 1) (zrep (zc Try.prog 5) (1 * 1)) [(0, (.int .u8 (IntKind.wrap .u8 ((IntKind.wrap .u8 (Int.tmod n4 128)) + 128))))] = some cs6 ∧
 ∀ w7 : World, w7 = World.alloc w3 (.cells (List.toArray cs6) 5) →
 RunV Try.prog (Builtin.append_ #[29, 29] 29 #[(.slice b5 b5n b5c), (.slice (some ⟨World.heap w3 |>.size, 0, none⟩) 1 1)]) w7 fun v8 w9 => ∃ (x10 : Option Addr) (x10n : Nat) (x10c : Nat), v8 = (.slice x10 x10n x10c) ∧
 (128 : Int) ≠ 0 ∧ ∃ m11, m11 < m2 ∧ I1 m11 (IntKind.wrap .u64 (Int.tdiv n4 128)) x10 x10n x10c w9)
 else
 (∃ cs12, fillL (.elems 1) (zrep (zc Try.prog 5) (1 * 1)) [(0, (.int .u8 (IntKind.wrap .u8 n4)))] = some cs12 ∧
 ∀ w13 : World, w13 = World.alloc w3 (.cells (List.toArray cs12) 5) →
 RunV Try.prog (Builtin.append_ #[29, 29] 29 #[(.slice b5 b5n b5c), (.slice (some ⟨World.heap w3 |>.size, 0, none⟩) 1 1)]) w13 fun v14 w15 => ∃ (x16 : Option Addr) (x16n : Nat) (x16c : Nat), v14 = (.slice x16 x16n x16c) ∧
 R (.returned (.slice x16 x16n x16c)) w15)))
theorem e21 (n0 : Int) (w : World) (R : Ending → World → Prop) : denS Try.prog s21 (argsEnv 0 [(.int .u64 n0)]) w (endK r21 R) = d21 n0 w R := by kernel_rfl
theorem c21 (n0 : Int) {w : World} {R : Ending → World → Prop} (h : d21 n0 w R) : Calls Try.prog 21 #[(.int .u64 n0)] w R :=
  den21 [(.int .u64 n0)] w R (by simp) ((e21 n0 w R).symm ▸ h)

/-- prelude/preluderef01.Fold -/
def s41 : S := (.seq (.ops [⟨(some 2), (.mv (.const (.int .u64 0))), (.int .u64), none⟩] [0])
 (.seq (.seq (.ops [⟨(some 3), (.mv (.tmp 0)), (.int .i64), none⟩,
  ⟨(some 4), (.bin .geq (.tmp 3) (.const (.int .i64 0))), .bool, none⟩] [4, 0])
 (.cond (.tmp 4)
 (.seq (.ops [⟨(some 5), (.mv (.tmp 0)), (.int .i64), none⟩,
  ⟨(some 6), (.cv .u64 (.tmp 5)), (.int .u64), none⟩,
  ⟨(some 7), (.bin .mul (.const (.int .u64 2)) (.tmp 6)), (.int .u64), none⟩,
  ⟨(some 2), (.mv (.tmp 7)), (.int .u64), none⟩] [2])
 .ret)
 .skip))
 (.seq (.ops [⟨(some 8), (.mv (.tmp 0)), (.int .i64), none⟩,
  ⟨(some 9), (.bin .sub (.const (.int .i64 (-1))) (.tmp 8)), (.int .i64), none⟩,
  ⟨(some 10), (.cv .u64 (.tmp 9)), (.int .u64), none⟩,
  ⟨(some 11), (.bin .mul (.const (.int .u64 2)) (.tmp 10)), (.int .u64), none⟩,
  ⟨(some 12), (.bin .add (.tmp 11) (.const (.int .u64 1))), (.int .u64), none⟩,
  ⟨(some 2), (.mv (.tmp 12)), (.int .u64), none⟩] [2])
 .ret)))
def r41 : List Res := [.t 2]
theorem tr41 : trS Try.prog [] 13 (Try.f41.body.getD .skip) s41 = some s41 := by kernel_rfl
theorem den41 (args : List Value) (w : World) (R : Ending → World → Prop) (hn : args.length ≤ 13) (h : denS Try.prog s41 (argsEnv 0 args) w (endK r41 R)) : Calls Try.prog 41 args.toArray w R :=
  calls_of_den (pn := []) (fn := Try.f41) (c := Try.f41.body.getD .skip) Try.func41 (by kernel_rfl) (by rw [Try.ntmps41]; exact hn) (by rw [Try.ntmps41]; exact tr41) (by kernel_rfl) h
def d41 (n0 : Int) (w : World) (R : Ending → World → Prop) : Prop :=
 (bif (decide (0 ≤ n0)) then
 (R (.returned (.int .u64 (IntKind.wrap .u64 (2 * (IntKind.wrap .u64 n0))))) w)
 else
 (R (.returned (.int .u64 (IntKind.wrap .u64 ((IntKind.wrap .u64 (2 * (IntKind.wrap .u64 (IntKind.wrap .i64 ((-1) - n0))))) + 1)))) w))
theorem e41 (n0 : Int) (w : World) (R : Ending → World → Prop) : denS Try.prog s41 (argsEnv 0 [(.int .i64 n0)]) w (endK r41 R) = d41 n0 w R := by kernel_rfl
theorem c41 (n0 : Int) {w : World} {R : Ending → World → Prop} (h : d41 n0 w R) : Calls Try.prog 41 #[(.int .i64 n0)] w R :=
  den41 [(.int .i64 n0)] w R (by simp) ((e41 n0 w R).symm ▸ h)

/-- prelude/preluderef01.Unfold -/
def s45 : S := (.seq (.ops [⟨(some 2), (.mv (.const (.int .i64 0))), (.int .i64), none⟩] [0])
 (.seq (.seq (.ops [⟨(some 3), (.mv (.tmp 0)), (.int .u64), none⟩,
  ⟨(some 4), (.bin .rem (.tmp 3) (.const (.int .u64 2))), (.int .u64), none⟩,
  ⟨(some 5), (.bin .eql (.tmp 4) (.const (.int .u64 0))), .bool, none⟩] [5, 0])
 (.cond (.tmp 5)
 (.seq (.ops [⟨(some 6), (.mv (.tmp 0)), (.int .u64), none⟩,
  ⟨(some 7), (.bin .quo (.tmp 6) (.const (.int .u64 2))), (.int .u64), none⟩,
  ⟨(some 8), (.cv .i64 (.tmp 7)), (.int .i64), none⟩,
  ⟨(some 2), (.mv (.tmp 8)), (.int .i64), none⟩] [2])
 .ret)
 .skip))
 (.seq (.ops [⟨(some 9), (.mv (.tmp 0)), (.int .u64), none⟩,
  ⟨(some 10), (.bin .quo (.tmp 9) (.const (.int .u64 2))), (.int .u64), none⟩,
  ⟨(some 11), (.cv .i64 (.tmp 10)), (.int .i64), none⟩,
  ⟨(some 12), (.bin .sub (.const (.int .i64 (-1))) (.tmp 11)), (.int .i64), none⟩,
  ⟨(some 2), (.mv (.tmp 12)), (.int .i64), none⟩] [2])
 .ret)))
def r45 : List Res := [.t 2]
theorem tr45 : trS Try.prog [] 13 (Try.f45.body.getD .skip) s45 = some s45 := by kernel_rfl
theorem den45 (args : List Value) (w : World) (R : Ending → World → Prop) (hn : args.length ≤ 13) (h : denS Try.prog s45 (argsEnv 0 args) w (endK r45 R)) : Calls Try.prog 45 args.toArray w R :=
  calls_of_den (pn := []) (fn := Try.f45) (c := Try.f45.body.getD .skip) Try.func45 (by kernel_rfl) (by rw [Try.ntmps45]; exact hn) (by rw [Try.ntmps45]; exact tr45) (by kernel_rfl) h
def d45 (n0 : Int) (w : World) (R : Ending → World → Prop) : Prop :=
 (2 : Int) ≠ 0 ∧ (bif (decide ((Int.tmod n0 2) = 0)) then
 ((2 : Int) ≠ 0 ∧ R (.returned (.int .i64 (IntKind.wrap .i64 (IntKind.wrap .u64 (Int.tdiv n0 2))))) w)
 else
 ((2 : Int) ≠ 0 ∧ R (.returned (.int .i64 (IntKind.wrap .i64 ((-1) - (IntKind.wrap .i64 (IntKind.wrap .u64 (Int.tdiv n0 2))))))) w))
theorem e45 (n0 : Int) (w : World) (R : Ending → World → Prop) : denS Try.prog s45 (argsEnv 0 [(.int .u64 n0)]) w (endK r45 R) = d45 n0 w R := by kernel_rfl
theorem c45 (n0 : Int) {w : World} {R : Ending → World → Prop} (h : d45 n0 w R) : Calls Try.prog 45 #[(.int .u64 n0)] w R :=
  den45 [(.int .u64 n0)] w R (by simp) ((e45 n0 w R).symm ▸ h)

/-- prelude/preluderef01.Int -/
def s23 : S := (.seq (.ops [⟨(some 2), (.mv (.const (.slice none 0 0))), .sl, none⟩] [0])
 (.seq (.ops [⟨(some 3), (.mv (.tmp 0)), (.int .i64), none⟩,
  ⟨(some 4), (.call 41 [(.tmp 3)] [(.int .u64)]), (.int .u64), none⟩,
  ⟨(some 5), (.call 21 [(.tmp 4)] [.sl]), .sl, none⟩,
  ⟨(some 2), (.mv (.tmp 5)), .sl, none⟩] [2])
 .ret))
def r23 : List Res := [.t 2]
theorem tr23 : trS Try.prog [] 6 (Try.f23.body.getD .skip) s23 = some s23 := by kernel_rfl
theorem den23 (args : List Value) (w : World) (R : Ending → World → Prop) (hn : args.length ≤ 6) (h : denS Try.prog s23 (argsEnv 0 args) w (endK r23 R)) : Calls Try.prog 23 args.toArray w R :=
  calls_of_den (pn := []) (fn := Try.f23) (c := Try.f23.body.getD .skip) Try.func23 (by kernel_rfl) (by rw [Try.ntmps23]; exact hn) (by rw [Try.ntmps23]; exact tr23) (by kernel_rfl) h
def d23 (n0 : Int) (w : World) (R : Ending → World → Prop) : Prop :=
 Calls Try.prog 41 #[(.int .i64 n0)] w fun e1 w2 => ∃ x3 : Int, e1 = .returned (.int .u64 x3) ∧
 Calls Try.prog 21 #[(.int .u64 x3)] w2 fun e4 w5 => ∃ (x6 : Option Addr) (x6n : Nat) (x6c : Nat), e4 = .returned (.slice x6 x6n x6c) ∧
 R (.returned (.slice x6 x6n x6c)) w5
theorem e23 (n0 : Int) (w : World) (R : Ending → World → Prop) : denS Try.prog s23 (argsEnv 0 [(.int .i64 n0)]) w (endK r23 R) = d23 n0 w R := by kernel_rfl
theorem c23 (n0 : Int) {w : World} {R : Ending → World → Prop} (h : d23 n0 w R) : Calls Try.prog 23 #[(.int .i64 n0)] w R :=
  den23 [(.int .i64 n0)] w R (by simp) ((e23 n0 w R).symm ▸ h)

/-- prelude/preluderef01.number -/
def s46 : S := (.seq (.ops [⟨(some 2), (.mv (.const (.int .u64 0))), (.int .u64), none⟩,
  ⟨(some 3), (.mv (.const (.int .i64 0))), (.int .i64), none⟩,
  ⟨(some 4), (.mv (.const (.int .i64 0))), (.int .i64), none⟩] [0])
 (.seq (.ops [⟨(some 5), (.mv (.const (.int .u64 0))), (.int .u64), none⟩] [0, 5])
 (.seq (.seq (.ops [⟨(some 6), (.mv (.const (.int .i64 0))), (.int .i64), none⟩] [6, 0, 5])
 (.block 0
 (.loop [(5, (.int .u64)), (6, (.int .i64))] [0]
 (.seq (.seq (.ops [⟨(some 7), (.mv (.tmp 6)), (.int .i64), none⟩,
  ⟨(some 8), (.bin .lss (.tmp 7) (.const (.int .i64 10))), .bool, none⟩] [8, 6, 0, 5])
 (.cond (.tmp 8)
 .skip
 (.exit 0)))
 (.seq (.block 1
 (.seq (.seq (.ops [⟨(some 11), (.mv (.tmp 6)), (.int .i64), none⟩,
  ⟨(some 12), (.mv (.tmp 0)), .sl, none⟩,
  ⟨(some 13), (.len (.tmp 12)), (.int .i64), none⟩,
  ⟨(some 14), (.bin .eql (.tmp 11) (.tmp 13)), .bool, none⟩] [14, 6, 0, 5])
 (.cond (.tmp 14)
 (.seq (.ops [⟨(some 2), (.mv (.const (.int .u64 0))), (.int .u64), none⟩,
  ⟨(some 3), (.mv (.const (.int .i64 0))), (.int .i64), none⟩,
  ⟨(some 4), (.mv (.const (.int .i64 10))), (.int .i64), none⟩] [2, 3, 4])
 .ret)
 .skip))
 (.join [] [0, 5, 6]
 (.seq (.ops [⟨(some 15), (.mv (.tmp 6)), (.int .i64), none⟩,
  ⟨(some 16), (.bin .eql (.tmp 15) (.const (.int .i64 9))), .bool, none⟩,
  ⟨(some 17), (.mv (.tmp 16)), .bool, none⟩,
  ⟨(some 18), (.mv (.tmp 0)), .sl, (some (17, true))⟩,
  ⟨(some 19), (.mv (.tmp 6)), (.int .i64), (some (17, true))⟩,
  ⟨(some 20), (.ia 1 (.tmp 18) (.tmp 19)), .ptr, (some (17, true))⟩,
  ⟨(some 21), (.ld1 (.tmp 20)), (.int .u8), (some (17, true))⟩,
  ⟨(some 22), (.bin .gtr (.tmp 21) (.const (.int .u8 1))), .bool, (some (17, true))⟩,
  ⟨(some 23), (.pick (.tmp 17) (.tmp 22) (.const (.bool false))), .bool, none⟩,
  ⟨(some 24), (.mv (.tmp 23)), .bool, none⟩,
  ⟨(some 25), (.mv (.tmp 6)), (.int .i64), (some (24, false))⟩,
  ⟨(some 26), (.bin .gtr (.tmp 25) (.const (.int .i64 0))), .bool, (some (24, false))⟩,
  ⟨(some 27), (.mv (.tmp 26)), .bool, (some (24, false))⟩,
  ⟨(some 28), (.mv (.tmp 0)), .sl, (some (27, true))⟩,
  ⟨(some 29), (.mv (.tmp 6)), (.int .i64), (some (27, true))⟩,
  ⟨(some 30), (.ia 1 (.tmp 28) (.tmp 29)), .ptr, (some (27, true))⟩,
  ⟨(some 31), (.ld1 (.tmp 30)), (.int .u8), (some (27, true))⟩,
  ⟨(some 32), (.bin .eql (.tmp 31) (.const (.int .u8 0))), .bool, (some (27, true))⟩,
  ⟨(some 33), (.pick (.tmp 27) (.tmp 32) (.const (.bool false))), .bool, (some (24, false))⟩,
  ⟨(some 34), (.pick (.tmp 24) (.const (.bool true)) (.tmp 33)), .bool, none⟩] [34, 5, 0, 6])
 (.cond (.tmp 34)
 (.seq (.ops [⟨(some 2), (.mv (.const (.int .u64 0))), (.int .u64), none⟩,
  ⟨(some 3), (.mv (.const (.int .i64 0))), (.int .i64), none⟩,
  ⟨(some 4), (.mv (.const (.int .i64 11))), (.int .i64), none⟩] [2, 3, 4])
 .ret)
 .skip))
 (.seq (.ops [⟨(some 35), (.mv (.tmp 5)), (.int .u64), none⟩,
  ⟨(some 36), (.mv (.tmp 0)), .sl, none⟩,
  ⟨(some 37), (.mv (.tmp 6)), (.int .i64), none⟩,
  ⟨(some 38), (.ia 1 (.tmp 36) (.tmp 37)), .ptr, none⟩,
  ⟨(some 39), (.ld1 (.tmp 38)), (.int .u8), none⟩,
  ⟨(some 40), (.bin .rem (.tmp 39) (.const (.int .u8 128))), (.int .u8), none⟩,
  ⟨(some 41), (.cv .u64 (.tmp 40)), (.int .u64), none⟩,
  ⟨(some 42), (.mv (.tmp 6)), (.int .i64), none⟩,
  ⟨(some 43), (.bin .mul (.const (.int .i64 7)) (.tmp 42)), (.int .i64), none⟩,
  ⟨(some 44), (.bin .shl (.tmp 41) (.tmp 43)), (.int .u64), none⟩,
  ⟨(some 45), (.bin .add (.tmp 35) (.tmp 44)), (.int .u64), none⟩,
  ⟨(some 5), (.mv (.tmp 45)), (.int .u64), none⟩] [0, 6, 5])
 (.seq (.ops [⟨(some 46), (.mv (.tmp 0)), .sl, none⟩,
  ⟨(some 47), (.mv (.tmp 6)), (.int .i64), none⟩,
  ⟨(some 48), (.ia 1 (.tmp 46) (.tmp 47)), .ptr, none⟩,
  ⟨(some 49), (.ld1 (.tmp 48)), (.int .u8), none⟩,
  ⟨(some 50), (.bin .lss (.tmp 49) (.const (.int .u8 128))), .bool, none⟩] [50, 5, 6, 0])
 (.cond (.tmp 50)
 (.seq (.ops [⟨(some 51), (.mv (.tmp 5)), (.int .u64), none⟩,
  ⟨(some 52), (.mv (.tmp 6)), (.int .i64), none⟩,
  ⟨(some 53), (.bin .add (.tmp 52) (.const (.int .i64 1))), (.int .i64), none⟩,
  ⟨(some 2), (.mv (.tmp 51)), (.int .u64), none⟩,
  ⟨(some 3), (.mv (.tmp 53)), (.int .i64), none⟩,
  ⟨(some 4), (.mv (.const (.int .i64 0))), (.int .i64), none⟩] [2, 3, 4])
 .ret)
 .skip))))))
 (.ops [⟨(some 9), (.mv (.tmp 6)), (.int .i64), none⟩,
  ⟨(some 10), (.bin .add (.tmp 9) (.const (.int .i64 1))), (.int .i64), none⟩,
  ⟨(some 6), (.mv (.tmp 10)), (.int .i64), none⟩] [6, 0, 5]))))))
 (.seq (.ops [⟨(some 2), (.mv (.const (.int .u64 0))), (.int .u64), none⟩,
  ⟨(some 3), (.mv (.const (.int .i64 0))), (.int .i64), none⟩,
  ⟨(some 4), (.mv (.const (.int .i64 11))), (.int .i64), none⟩] [2, 3, 4])
 .ret))))
def r46 : List Res := [.t 2, .t 3, .t 4]
theorem tr46 : trS Try.prog [] 54 (Try.f46.body.getD .skip) s46 = some s46 := by kernel_rfl
theorem den46 (args : List Value) (w : World) (R : Ending → World → Prop) (hn : args.length ≤ 54) (h : denS Try.prog s46 (argsEnv 0 args) w (endK r46 R)) : Calls Try.prog 46 args.toArray w R :=
  calls_of_den (pn := []) (fn := Try.f46) (c := Try.f46.body.getD .skip) Try.func46 (by kernel_rfl) (by rw [Try.ntmps46]; exact hn) (by rw [Try.ntmps46]; exact tr46) (by kernel_rfl) h
def d46 (b0 : Option Addr) (b0n : Nat) (b0c : Nat) (w : World) (R : Ending → World → Prop) : Prop :=
 ∃ I1 : Nat → Int → Int → World → Prop,
 (∃ m, I1 m 0 0 w) ∧
 (∀ (m2 : Nat) (w3 : World) (n4 : Int) (k5 : Int), I1 m2 n4 k5 w3 →
 (bif (decide (k5 < 10)) then
 ((bif (decide (k5 = ((b0n : Nat) : Int))) then
 (R (.returned (.tuple #[(.int .u64 0), (.int .i64 0), (.int .i64 10)])) w3)
 else
 (∃ J6 : World → Prop,
 ((bif (decide (k5 = 9)) then
 (0 ≤ k5 ∧ k5 < ((b0n : Nat) : Int) ∧ optK b0 fun a7 =>
 ∃ x8 : Int, World.cell? w3 (Addr.add a7 (Int.toNat k5 * 1)) = some (.int .u8 x8) ∧
 (bif (decide (1 < x8)) then
 (R (.returned (.tuple #[(.int .u64 0), (.int .i64 0), (.int .i64 11)])) w3)
 else
 ((bif (decide (0 < k5)) then
 (0 ≤ k5 ∧ k5 < ((b0n : Nat) : Int) ∧ optK b0 fun a9 =>
 ∃ x10 : Int, World.cell? w3 (Addr.add a9 (Int.toNat k5 * 1)) = some (.int .u8 x10) ∧
 (bif (decide (x10 = 0)) then
 (R (.returned (.tuple #[(.int .u64 0), (.int .i64 0), (.int .i64 11)])) w3)
 else
 (J6  w3)))
 else
 (J6  w3)))))
 else
 ((bif (decide (0 < k5)) then
 (0 ≤ k5 ∧ k5 < ((b0n : Nat) : Int) ∧ optK b0 fun a11 =>
 ∃ x12 : Int, World.cell? w3 (Addr.add a11 (Int.toNat k5 * 1)) = some (.int .u8 x12) ∧
 (bif (decide (x12 = 0)) then
 (R (.returned (.tuple #[(.int .u64 0), (.int .i64 0), (.int .i64 11)])) w3)
 else
 (J6  w3)))
 else
 (J6  w3))))) ∧
 (∀ (w13 : World), J6  w13 →
 0 ≤ k5 ∧ k5 < ((b0n : Nat) : Int) ∧ optK b0 fun a14 =>
 ∃ x15 : Int, World.cell? w13 (Addr.add a14 (Int.toNat k5 * 1)) = some (.int .u8 x15) ∧
 (128 : Int) ≠ 0 ∧ 0 ≤ (IntKind.wrap .i64 (7 * k5)) ∧ 0 ≤ k5 ∧ k5 < ((b0n : Nat) : Int) ∧ optK b0 fun a16 =>
 ∃ x17 : Int, World.cell? w13 (Addr.add a16 (Int.toNat k5 * 1)) = some (.int .u8 x17) ∧
 (bif (decide (x17 < 128)) then
 (R (.returned (.tuple #[(.int .u64 (IntKind.wrap .u64 (n4 + (shL .u64 (IntKind.wrap .u64 (Int.tmod x15 128)) (IntKind.wrap .i64 (7 * k5)))))), (.int .i64 (IntKind.wrap .i64 (k5 + 1))), (.int .i64 0)])) w13)
 else
 (∃ m18, m18 < m2 ∧ I1 m18 (IntKind.wrap .u64 (n4 + (shL .u64 (IntKind.wrap .u64 (Int.tmod x15 128)) (IntKind.wrap .i64 (7 * k5))))) (IntKind.wrap .i64 (k5 + 1)) w13))))))
 else
 (R (.returned (.tuple #[(.int .u64 0), (.int .i64 0), (.int .i64 11)])) w3)))
theorem e46 (b0 : Option Addr) (b0n : Nat) (b0c : Nat) (w : World) (R : Ending → World → Prop) : denS Try.prog s46 (argsEnv 0 [(.slice b0 b0n b0c)]) w (endK r46 R) = d46 b0 b0n b0c w R := by kernel_rfl
theorem c46 (b0 : Option Addr) (b0n : Nat) (b0c : Nat) {w : World} {R : Ending → World → Prop} (h : d46 b0 b0n b0c w R) : Calls Try.prog 46 #[(.slice b0 b0n b0c)] w R :=
  den46 [(.slice b0 b0n b0c)] w R (by simp) ((e46 b0 b0n b0c w R).symm ▸ h)

/-- (*prelude/preluderef01.Reader).Uint -/
def s44 : S := (.seq (.ops [⟨(some 2), (.mv (.const (.int .u64 0))), (.int .u64), none⟩] [0])
 (.seq (.seq (.ops [⟨(some 6), (.mv (.tmp 0)), .ptr, none⟩,
  ⟨(some 7), (.nc (.tmp 6)), .any, none⟩,
  ⟨(some 8), (.fa 2 (.tmp 7)), .ptr, none⟩,
  ⟨(some 9), (.ld1 (.tmp 8)), (.int .i64), none⟩,
  ⟨(some 10), (.bin .neq (.tmp 9) (.const (.int .i64 0))), .bool, none⟩] [10, 0])
 (.cond (.tmp 10)
 (.seq (.ops [⟨(some 2), (.mv (.const (.int .u64 0))), (.int .u64), none⟩] [2])
 .ret)
 .skip))
 (.seq (.draw (.take 0 ⟨(some 12), (.mv (.tmp 0)), .ptr, none⟩
  (.take 1 ⟨(some 13), (.nc (.tmp 12)), .any, none⟩
  (.take 2 ⟨(some 14), (.fa 0 (.tmp 13)), .ptr, none⟩
  (.take 3 ⟨(some 15), (.ld1 (.tmp 14)), .sl, none⟩
  (.take 4 ⟨(some 16), (.mv (.tmp 0)), .ptr, none⟩
  (.take 5 ⟨(some 17), (.nc (.tmp 16)), .any, none⟩
  (.take 6 ⟨(some 18), (.fa 1 (.tmp 17)), .ptr, none⟩
  (.take 7 ⟨(some 19), (.ld1 (.tmp 18)), (.int .i64), none⟩
  (.take 8 ⟨(some 20), (.slS 1 (.tmp 15) (some (.tmp 19)) none none), .sl, none⟩
  (.go 9 ⟨(some 21), (.call 46 [(.tmp 20)] [(.int .u64), (.int .i64), (.int .i64)]), .any, none⟩ []
  (.take 10 ⟨(some 11), (.mv (.tmp 21)), .any, none⟩
  (.take 11 ⟨(some 22), (.ext 0 (.tmp 11)), (.int .u64), none⟩
  (.take 12 ⟨(some 23), (.ext 1 (.tmp 11)), (.int .i64), none⟩
  (.take 13 ⟨(some 24), (.ext 2 (.tmp 11)), (.int .i64), none⟩
  (.take 14 ⟨(some 3), (.mv (.tmp 22)), (.int .u64), none⟩
  (.take 15 ⟨(some 4), (.mv (.tmp 23)), (.int .i64), none⟩
  (.take 16 ⟨(some 5), (.mv (.tmp 24)), (.int .i64), none⟩
  .done))))))))))))))))) [0, 5, 4, 3])
 (.seq (.ops [⟨(some 25), (.mv (.tmp 0)), .ptr, none⟩,
  ⟨(some 26), (.mv (.tmp 5)), (.int .i64), none⟩,
  ⟨(some 27), (.nc (.tmp 25)), .any, none⟩,
  ⟨(some 28), (.fa 2 (.tmp 27)), .ptr, none⟩,
  ⟨none, (.st1 (.tmp 28) (.tmp 26)), .any, none⟩] [0, 4, 3])
 (.seq (.ops [⟨(some 29), (.mv (.tmp 0)), .ptr, none⟩,
  ⟨(some 30), (.mv (.tmp 0)), .ptr, none⟩,
  ⟨(some 31), (.nc (.tmp 30)), .any, none⟩,
  ⟨(some 32), (.fa 1 (.tmp 31)), .ptr, none⟩,
  ⟨(some 33), (.ld1 (.tmp 32)), (.int .i64), none⟩,
  ⟨(some 34), (.mv (.tmp 4)), (.int .i64), none⟩,
  ⟨(some 35), (.bin .add (.tmp 33) (.tmp 34)), (.int .i64), none⟩,
  ⟨(some 36), (.nc (.tmp 29)), .any, none⟩,
  ⟨(some 37), (.fa 1 (.tmp 36)), .ptr, none⟩,
  ⟨none, (.st1 (.tmp 37) (.tmp 35)), .any, none⟩] [3])
 (.seq (.ops [⟨(some 38), (.mv (.tmp 3)), (.int .u64), none⟩,
  ⟨(some 2), (.mv (.tmp 38)), (.int .u64), none⟩] [2])
 .ret))))))
def r44 : List Res := [.t 2]
theorem tr44 : trS Try.prog [] 39 (Try.f44.body.getD .skip) s44 = some s44 := by kernel_rfl
theorem den44 (args : List Value) (w : World) (R : Ending → World → Prop) (hn : args.length ≤ 39) (h : denS Try.prog s44 (argsEnv 0 args) w (endK r44 R)) : Calls Try.prog 44 args.toArray w R :=
  calls_of_den (pn := []) (fn := Try.f44) (c := Try.f44.body.getD .skip) Try.func44 (by kernel_rfl) (by rw [Try.ntmps44]; exact hn) (by rw [Try.ntmps44]; exact tr44) (by kernel_rfl) h
def d44 (r0 : Option Addr) (w : World) (R : Ending → World → Prop) : Prop :=
 optK r0 fun a1 =>
 ∃ x2 : Int, World.cell? w (Addr.add a1 2) = some (.int .i64 x2) ∧
 (bif (!decide (x2 = 0)) then
 (R (.returned (.int .u64 0)) w)
 else
 (∀ w3 : World, w3 = World.drew w →
 optK r0 fun a4 =>
 ∃ (x5 : Option Addr) (x5n : Nat) (x5c : Nat), World.cell? w3 (Addr.add a4 0) = some (.slice x5 x5n x5c) ∧
 optK r0 fun a6 =>
 ∃ x7 : Int, World.cell? w3 (Addr.add a6 1) = some (.int .i64 x7) ∧
 0 ≤ x7 ∧ x7 ≤ ((x5n : Nat) : Int) ∧ Calls Try.prog 46 #[(.slice (if x5c = (Int.toNat x7) then x5 else Option.map (fun y => Addr.add y ((Int.toNat x7) * 1)) x5) (x5n - (Int.toNat x7)) (x5c - (Int.toNat x7)))] w3 fun e8 w9 => ∃ x10 : Int, ∃ x11 : Int, ∃ x12 : Int, e8 = .returned (.tuple #[(.int .u64 x10), (.int .i64 x11), (.int .i64 x12)]) ∧
 ∃ x13 : Int, (#[(.int .u64 x10), (.int .i64 x11), (.int .i64 x12)] : Array Value)[0]? = some (.int .u64 x13) ∧
 ∃ x14 : Int, (#[(.int .u64 x10), (.int .i64 x11), (.int .i64 x12)] : Array Value)[1]? = some (.int .i64 x14) ∧
 ∃ x15 : Int, (#[(.int .u64 x10), (.int .i64 x11), (.int .i64 x12)] : Array Value)[2]? = some (.int .i64 x15) ∧
 optK r0 fun a16 =>
 one (.int .i64 x15) = true ∧ Option.isSome (World.cell? w9 (Addr.add a16 2)) = true ∧ World.frozen? w9 (Addr.add a16 2) = false ∧
 ∀ w17 : World, w17 = World.setCell w9 (Addr.add a16 2) (.int .i64 x15) →
 optK r0 fun a18 =>
 ∃ x19 : Int, World.cell? w17 (Addr.add a18 1) = some (.int .i64 x19) ∧
 optK r0 fun a20 =>
 one (.int .i64 (IntKind.wrap .i64 (x19 + x14))) = true ∧ Option.isSome (World.cell? w17 (Addr.add a20 1)) = true ∧ World.frozen? w17 (Addr.add a20 1) = false ∧
 ∀ w21 : World, w21 = World.setCell w17 (Addr.add a20 1) (.int .i64 (IntKind.wrap .i64 (x19 + x14))) →
 R (.returned (.int .u64 x13)) w21))
theorem e44 (r0 : Option Addr) (w : World) (R : Ending → World → Prop) : denS Try.prog s44 (argsEnv 0 [(.pointer r0)]) w (endK r44 R) = d44 r0 w R := by kernel_rfl
theorem c44 (r0 : Option Addr) {w : World} {R : Ending → World → Prop} (h : d44 r0 w R) : Calls Try.prog 44 #[(.pointer r0)] w R :=
  den44 [(.pointer r0)] w R (by simp) ((e44 r0 w R).symm ▸ h)

/-- (*prelude/preluderef01.Reader).Byte -/
def s33 : S := (.seq (.ops [⟨(some 2), (.mv (.const (.int .u8 0))), (.int .u8), none⟩] [0])
 (.seq (.ops [⟨(some 4), (.mv (.tmp 0)), .ptr, none⟩,
  ⟨(some 5), (.call 34 [(.tmp 4), (.const (.int .i64 1))] [.sl]), .sl, none⟩,
  ⟨(some 3), (.mv (.tmp 5)), .sl, none⟩] [3])
 (.seq (.seq (.ops [⟨(some 6), (.mv (.tmp 3)), .sl, none⟩,
  ⟨(some 7), (.len (.tmp 6)), (.int .i64), none⟩,
  ⟨(some 8), (.bin .eql (.tmp 7) (.const (.int .i64 0))), .bool, none⟩] [8, 3])
 (.cond (.tmp 8)
 (.seq (.ops [⟨(some 2), (.mv (.const (.int .u8 0))), (.int .u8), none⟩] [2])
 .ret)
 .skip))
 (.seq (.ops [⟨(some 9), (.mv (.tmp 3)), .sl, none⟩,
  ⟨(some 10), (.ia 1 (.tmp 9) (.const (.int .i64 0))), .ptr, none⟩,
  ⟨(some 11), (.ld1 (.tmp 10)), (.int .u8), none⟩,
  ⟨(some 2), (.mv (.tmp 11)), (.int .u8), none⟩] [2])
 .ret))))
def r33 : List Res := [.t 2]
theorem tr33 : trS Try.prog [] 12 (Try.f33.body.getD .skip) s33 = some s33 := by kernel_rfl
theorem den33 (args : List Value) (w : World) (R : Ending → World → Prop) (hn : args.length ≤ 12) (h : denS Try.prog s33 (argsEnv 0 args) w (endK r33 R)) : Calls Try.prog 33 args.toArray w R :=
  calls_of_den (pn := []) (fn := Try.f33) (c := Try.f33.body.getD .skip) Try.func33 (by kernel_rfl) (by rw [Try.ntmps33]; exact hn) (by rw [Try.ntmps33]; exact tr33) (by kernel_rfl) h
def d33 (r0 : Option Addr) (w : World) (R : Ending → World → Prop) : Prop :=
 Calls Try.prog 34 #[(.pointer r0), (.int .i64 1)] w fun e1 w2 => ∃ (x3 : Option Addr) (x3n : Nat) (x3c : Nat), e1 = .returned (.slice x3 x3n x3c) ∧
 (bif (decide (((x3n : Nat) : Int) = 0)) then
 (R (.returned (.int .u8 0)) w2)
 else
 (0 ≤ (0 : Int) ∧ (0 : Int) < ((x3n : Nat) : Int) ∧ optK x3 fun a4 =>
 ∃ x5 : Int, World.cell? w2 (Addr.add a4 (Int.toNat 0 * 1)) = some (.int .u8 x5) ∧
 R (.returned (.int .u8 x5)) w2))
theorem e33 (r0 : Option Addr) (w : World) (R : Ending → World → Prop) : denS Try.prog s33 (argsEnv 0 [(.pointer r0)]) w (endK r33 R) = d33 r0 w R := by kernel_rfl
theorem c33 (r0 : Option Addr) {w : World} {R : Ending → World → Prop} (h : d33 r0 w R) : Calls Try.prog 33 #[(.pointer r0)] w R :=
  den33 [(.pointer r0)] w R (by simp) ((e33 r0 w R).symm ▸ h)

/-- (*prelude/preluderef01.Reader).Upto -/
def s32 : S := (.seq (.ops [⟨(some 4), (.mv (.const (.int .u64 0))), (.int .u64), none⟩] [0, 1])
 (.seq (.ops [⟨(some 7), (.mv (.tmp 0)), .ptr, none⟩,
  ⟨(some 8), (.nc (.tmp 7)), .any, none⟩,
  ⟨(some 9), (.fa 1 (.tmp 8)), .ptr, none⟩,
  ⟨(some 10), (.ld1 (.tmp 9)), (.int .i64), none⟩,
  ⟨(some 5), (.mv (.tmp 10)), (.int .i64), none⟩] [0, 1, 5])
 (.seq (.ops [⟨(some 11), (.mv (.tmp 0)), .ptr, none⟩,
  ⟨(some 12), (.call 44 [(.tmp 11)] [(.int .u64)]), (.int .u64), none⟩,
  ⟨(some 6), (.mv (.tmp 12)), (.int .u64), none⟩] [0, 6, 1, 5])
 (.seq (.join [(22, .bool)] [0, 5, 6]
 (.ops [⟨(some 13), (.mv (.tmp 0)), .ptr, none⟩,
  ⟨(some 14), (.nc (.tmp 13)), .any, none⟩,
  ⟨(some 15), (.fa 2 (.tmp 14)), .ptr, none⟩,
  ⟨(some 16), (.ld1 (.tmp 15)), (.int .i64), none⟩,
  ⟨(some 17), (.bin .eql (.tmp 16) (.const (.int .i64 0))), .bool, none⟩,
  ⟨(some 18), (.mv (.tmp 17)), .bool, none⟩,
  ⟨(some 19), (.mv (.tmp 6)), (.int .u64), (some (18, true))⟩,
  ⟨(some 20), (.mv (.tmp 1)), (.int .u64), (some (18, true))⟩,
  ⟨(some 21), (.bin .gtr (.tmp 19) (.tmp 20)), .bool, (some (18, true))⟩,
  ⟨(some 22), (.pick (.tmp 18) (.tmp 21) (.const (.bool false))), .bool, none⟩] [22, 0, 5, 6])
 (.cond (.tmp 22)
 (.seq (.ops [⟨(some 23), (.mv (.tmp 0)), .ptr, none⟩,
  ⟨(some 24), (.nc (.tmp 23)), .any, none⟩,
  ⟨(some 25), (.fa 2 (.tmp 24)), .ptr, none⟩,
  ⟨none, (.st1 (.tmp 25) (.const (.int .i64 12))), .any, none⟩] [0, 5])
 (.seq (.ops [⟨(some 26), (.mv (.tmp 0)), .ptr, none⟩,
  ⟨(some 27), (.mv (.tmp 5)), (.int .i64), none⟩,
  ⟨(some 28), (.nc (.tmp 26)), .any, none⟩,
  ⟨(some 29), (.fa 1 (.tmp 28)), .ptr, none⟩,
  ⟨none, (.st1 (.tmp 29) (.tmp 27)), .any, none⟩] [])
 (.seq (.ops [⟨(some 4), (.mv (.const (.int .u64 0))), (.int .u64), none⟩] [4])
 .ret)))
 .skip))
 (.seq (.ops [⟨(some 30), (.mv (.tmp 6)), (.int .u64), none⟩,
  ⟨(some 4), (.mv (.tmp 30)), (.int .u64), none⟩] [4])
 .ret)))))
def r32 : List Res := [.t 4]
theorem tr32 : trS Try.prog [] 31 (Try.f32.body.getD .skip) s32 = some s32 := by kernel_rfl
theorem den32 (args : List Value) (w : World) (R : Ending → World → Prop) (hn : args.length ≤ 31) (h : denS Try.prog s32 (argsEnv 0 args) w (endK r32 R)) : Calls Try.prog 32 args.toArray w R :=
  calls_of_den (pn := []) (fn := Try.f32) (c := Try.f32.body.getD .skip) Try.func32 (by kernel_rfl) (by rw [Try.ntmps32]; exact hn) (by rw [Try.ntmps32]; exact tr32) (by kernel_rfl) h
def d32 (r0 : Option Addr) (most1 : Int) (w : World) (R : Ending → World → Prop) : Prop :=
 optK r0 fun a2 =>
 ∃ x3 : Int, World.cell? w (Addr.add a2 1) = some (.int .i64 x3) ∧
 Calls Try.prog 44 #[(.pointer r0)] w fun e4 w5 => ∃ x6 : Int, e4 = .returned (.int .u64 x6) ∧
 ∃ J7 : Bool → World → Prop,
 (optK r0 fun a8 =>
 ∃ x9 : Int, World.cell? w5 (Addr.add a8 2) = some (.int .i64 x9) ∧
 (bif (decide (x9 = 0)) then
 (J7 (decide (most1 < x6)) w5)
 else
 (J7 false w5))) ∧
 (∀ (w10 : World) (x11 : Bool), J7 x11 w10 →
 (bif x11 then
 (optK r0 fun a12 =>
 one (.int .i64 12) = true ∧ Option.isSome (World.cell? w10 (Addr.add a12 2)) = true ∧ World.frozen? w10 (Addr.add a12 2) = false ∧
 ∀ w13 : World, w13 = World.setCell w10 (Addr.add a12 2) (.int .i64 12) →
 optK r0 fun a14 =>
 one (.int .i64 x3) = true ∧ Option.isSome (World.cell? w13 (Addr.add a14 1)) = true ∧ World.frozen? w13 (Addr.add a14 1) = false ∧
 ∀ w15 : World, w15 = World.setCell w13 (Addr.add a14 1) (.int .i64 x3) →
 R (.returned (.int .u64 0)) w15)
 else
 (R (.returned (.int .u64 x6)) w10)))
theorem e32 (r0 : Option Addr) (most1 : Int) (w : World) (R : Ending → World → Prop) : denS Try.prog s32 (argsEnv 0 [(.pointer r0), (.int .u64 most1)]) w (endK r32 R) = d32 r0 most1 w R := by kernel_rfl
theorem c32 (r0 : Option Addr) (most1 : Int) {w : World} {R : Ending → World → Prop} (h : d32 r0 most1 w R) : Calls Try.prog 32 #[(.pointer r0), (.int .u64 most1)] w R :=
  den32 [(.pointer r0), (.int .u64 most1)] w R (by simp) ((e32 r0 most1 w R).symm ▸ h)

/-- (*prelude/preluderef01.Reader).Int -/
def s36 : S := (.seq (.ops [⟨(some 2), (.mv (.const (.int .i64 0))), (.int .i64), none⟩] [0])
 (.seq (.ops [⟨(some 3), (.mv (.tmp 0)), .ptr, none⟩,
  ⟨(some 4), (.call 44 [(.tmp 3)] [(.int .u64)]), (.int .u64), none⟩,
  ⟨(some 5), (.call 45 [(.tmp 4)] [(.int .i64)]), (.int .i64), none⟩,
  ⟨(some 2), (.mv (.tmp 5)), (.int .i64), none⟩] [2])
 .ret))
def r36 : List Res := [.t 2]
theorem tr36 : trS Try.prog [] 6 (Try.f36.body.getD .skip) s36 = some s36 := by kernel_rfl
theorem den36 (args : List Value) (w : World) (R : Ending → World → Prop) (hn : args.length ≤ 6) (h : denS Try.prog s36 (argsEnv 0 args) w (endK r36 R)) : Calls Try.prog 36 args.toArray w R :=
  calls_of_den (pn := []) (fn := Try.f36) (c := Try.f36.body.getD .skip) Try.func36 (by kernel_rfl) (by rw [Try.ntmps36]; exact hn) (by rw [Try.ntmps36]; exact tr36) (by kernel_rfl) h
def d36 (r0 : Option Addr) (w : World) (R : Ending → World → Prop) : Prop :=
 Calls Try.prog 44 #[(.pointer r0)] w fun e1 w2 => ∃ x3 : Int, e1 = .returned (.int .u64 x3) ∧
 Calls Try.prog 45 #[(.int .u64 x3)] w2 fun e4 w5 => ∃ x6 : Int, e4 = .returned (.int .i64 x6) ∧
 R (.returned (.int .i64 x6)) w5
theorem e36 (r0 : Option Addr) (w : World) (R : Ending → World → Prop) : denS Try.prog s36 (argsEnv 0 [(.pointer r0)]) w (endK r36 R) = d36 r0 w R := by kernel_rfl
theorem c36 (r0 : Option Addr) {w : World} {R : Ending → World → Prop} (h : d36 r0 w R) : Calls Try.prog 36 #[(.pointer r0)] w R :=
  den36 [(.pointer r0)] w R (by simp) ((e36 r0 w R).symm ▸ h)

/-- (*prelude/preluderef01.Reader).Raw -/
def s34 : S := (.seq (.ops [⟨(some 4), (.mv (.const (.slice none 0 0))), .sl, none⟩] [0, 1])
 (.seq (.seq (.ops [⟨(some 7), (.mv (.tmp 0)), .ptr, none⟩,
  ⟨(some 8), (.nc (.tmp 7)), .any, none⟩,
  ⟨(some 9), (.fa 2 (.tmp 8)), .ptr, none⟩,
  ⟨(some 10), (.ld1 (.tmp 9)), (.int .i64), none⟩,
  ⟨(some 11), (.bin .neq (.tmp 10) (.const (.int .i64 0))), .bool, none⟩] [11, 1, 0])
 (.cond (.tmp 11)
 (.seq (.ops [⟨(some 4), (.mv (.const (.slice none 0 0))), .sl, none⟩] [4])
 .ret)
 .skip))
 (.seq (.seq (.ops [⟨(some 12), (.mv (.tmp 1)), (.int .i64), none⟩,
  ⟨(some 13), (.bin .lss (.tmp 12) (.const (.int .i64 0))), .bool, none⟩] [13, 0, 1])
 (.cond (.tmp 13)
 (.seq (.ops [⟨(some 14), (.mv (.tmp 0)), .ptr, none⟩,
  ⟨(some 15), (.nc (.tmp 14)), .any, none⟩,
  ⟨(some 16), (.fa 2 (.tmp 15)), .ptr, none⟩,
  ⟨none, (.st1 (.tmp 16) (.const (.int .i64 11))), .any, none⟩] [])
 (.seq (.ops [⟨(some 4), (.mv (.const (.slice none 0 0))), .sl, none⟩] [4])
 .ret))
 .skip))
 (.seq (.seq (.draw (.take 0 ⟨(some 17), (.mv (.tmp 1)), (.int .i64), none⟩
  (.take 1 ⟨(some 18), (.mv (.tmp 0)), .ptr, none⟩
  (.take 2 ⟨(some 19), (.nc (.tmp 18)), .any, none⟩
  (.take 3 ⟨(some 20), (.fa 0 (.tmp 19)), .ptr, none⟩
  (.take 4 ⟨(some 21), (.ld1 (.tmp 20)), .sl, none⟩
  (.take 5 ⟨(some 22), (.len (.tmp 21)), (.int .i64), none⟩
  (.take 6 ⟨(some 23), (.mv (.tmp 0)), .ptr, none⟩
  (.take 7 ⟨(some 24), (.nc (.tmp 23)), .any, none⟩
  (.take 8 ⟨(some 25), (.fa 1 (.tmp 24)), .ptr, none⟩
  (.take 9 ⟨(some 26), (.ld1 (.tmp 25)), (.int .i64), none⟩
  (.take 10 ⟨(some 27), (.bin .sub (.tmp 22) (.tmp 26)), (.int .i64), none⟩
  (.take 11 ⟨(some 28), (.bin .gtr (.tmp 17) (.tmp 27)), .bool, none⟩
  .done)))))))))))) [28, 0, 1])
 (.cond (.tmp 28)
 (.seq (.ops [⟨(some 29), (.mv (.tmp 0)), .ptr, none⟩,
  ⟨(some 30), (.nc (.tmp 29)), .any, none⟩,
  ⟨(some 31), (.fa 2 (.tmp 30)), .ptr, none⟩,
  ⟨none, (.st1 (.tmp 31) (.const (.int .i64 10))), .any, none⟩] [])
 (.seq (.ops [⟨(some 4), (.mv (.const (.slice none 0 0))), .sl, none⟩] [4])
 .ret))
 .skip))
 (.seq (.ops [⟨(some 5), (.mv (.const (.slice none 0 0))), .sl, none⟩] [1, 5, 0])
 (.seq (.seq (.ops [⟨(some 6), (.mv (.const (.int .i64 0))), (.int .i64), none⟩] [6, 1, 5, 0])
 (.block 0
 (.loop [(5, .sl), (6, (.int .i64))] [0, 1]
 (.seq (.seq (.ops [⟨(some 32), (.mv (.tmp 6)), (.int .i64), none⟩,
  ⟨(some 33), (.mv (.tmp 1)), (.int .i64), none⟩,
  ⟨(some 34), (.bin .lss (.tmp 32) (.tmp 33)), .bool, none⟩] [34, 5, 0, 6, 1])
 (.cond (.tmp 34)
 .skip
 (.exit 0)))
 (.seq (.block 1
 (.draw (.take 0 ⟨(some 37), (.mv (.tmp 5)), .sl, none⟩
  (.take 1 ⟨(some 38), (.mv (.tmp 0)), .ptr, none⟩
  (.take 2 ⟨(some 39), (.nc (.tmp 38)), .any, none⟩
  (.take 3 ⟨(some 40), (.fa 0 (.tmp 39)), .ptr, none⟩
  (.take 4 ⟨(some 41), (.ld1 (.tmp 40)), .sl, none⟩
  (.take 5 ⟨(some 42), (.mv (.tmp 0)), .ptr, none⟩
  (.take 6 ⟨(some 43), (.nc (.tmp 42)), .any, none⟩
  (.take 7 ⟨(some 44), (.fa 1 (.tmp 43)), .ptr, none⟩
  (.take 8 ⟨(some 45), (.ld1 (.tmp 44)), (.int .i64), none⟩
  (.take 9 ⟨(some 46), (.mv (.tmp 6)), (.int .i64), none⟩
  (.take 10 ⟨(some 47), (.bin .add (.tmp 45) (.tmp 46)), (.int .i64), none⟩
  (.take 11 ⟨(some 48), (.ia 1 (.tmp 41) (.tmp 47)), .ptr, none⟩
  (.take 12 ⟨(some 49), (.ld1 (.tmp 48)), (.int .u8), none⟩
  (.go 13 ⟨(some 50), (.bldS 5 1 1 [(0, (.tmp 49))]), .sl, none⟩ []
  (.go 14 ⟨(some 51), (.app #[29, 29] 29 (.tmp 37) (.tmp 50)), .sl, none⟩ []
  (.take 15 ⟨(some 5), (.mv (.tmp 51)), .sl, none⟩
  .done)))))))))))))))) [6, 1, 5, 0]))
 (.ops [⟨(some 35), (.mv (.tmp 6)), (.int .i64), none⟩,
  ⟨(some 36), (.bin .add (.tmp 35) (.const (.int .i64 1))), (.int .i64), none⟩,
  ⟨(some 6), (.mv (.tmp 36)), (.int .i64), none⟩] [6, 1, 5, 0]))))))
 (.seq (.ops [⟨(some 52), (.mv (.tmp 0)), .ptr, none⟩,
  ⟨(some 53), (.mv (.tmp 0)), .ptr, none⟩,
  ⟨(some 54), (.nc (.tmp 53)), .any, none⟩,
  ⟨(some 55), (.fa 1 (.tmp 54)), .ptr, none⟩,
  ⟨(some 56), (.ld1 (.tmp 55)), (.int .i64), none⟩,
  ⟨(some 57), (.mv (.tmp 1)), (.int .i64), none⟩,
  ⟨(some 58), (.bin .add (.tmp 56) (.tmp 57)), (.int .i64), none⟩,
  ⟨(some 59), (.nc (.tmp 52)), .any, none⟩,
  ⟨(some 60), (.fa 1 (.tmp 59)), .ptr, none⟩,
  ⟨none, (.st1 (.tmp 60) (.tmp 58)), .any, none⟩] [5])
 (.seq (.ops [⟨(some 61), (.mv (.tmp 5)), .sl, none⟩,
  ⟨(some 4), (.mv (.tmp 61)), .sl, none⟩] [4])
 .ret))))))))
def r34 : List Res := [.t 4]
theorem tr34 : trS Try.prog [] 62 (Try.f34.body.getD .skip) s34 = some s34 := by kernel_rfl
theorem den34 (args : List Value) (w : World) (R : Ending → World → Prop) (hn : args.length ≤ 62) (h : denS Try.prog s34 (argsEnv 0 args) w (endK r34 R)) : Calls Try.prog 34 args.toArray w R :=
  calls_of_den (pn := []) (fn := Try.f34) (c := Try.f34.body.getD .skip) Try.func34 (by kernel_rfl) (by rw [Try.ntmps34]; exact hn) (by rw [Try.ntmps34]; exact tr34) (by kernel_rfl) h
def d34 (r0 : Option Addr) (n1 : Int) (w : World) (R : Ending → World → Prop) : Prop :=
 optK r0 fun a2 =>
 ∃ x3 : Int, World.cell? w (Addr.add a2 2) = some (.int .i64 x3) ∧
 (bif (!decide (x3 = 0)) then
 (R (.returned (.slice none 0 0)) w)
 else
 ((bif (decide (n1 < 0)) then
 (optK r0 fun a4 =>
 one (.int .i64 11) = true ∧ Option.isSome (World.cell? w (Addr.add a4 2)) = true ∧ World.frozen? w (Addr.add a4 2) = false ∧
 ∀ w5 : World, w5 = World.setCell w (Addr.add a4 2) (.int .i64 11) →
 R (.returned (.slice none 0 0)) w5)
 else
 (∀ w6 : World, w6 = World.drew w →
 optK r0 fun a7 =>
 ∃ (x8 : Option Addr) (x8n : Nat) (x8c : Nat), World.cell? w6 (Addr.add a7 0) = some (.slice x8 x8n x8c) ∧
 optK r0 fun a9 =>
 ∃ x10 : Int, World.cell? w6 (Addr.add a9 1) = some (.int .i64 x10) ∧
 (bif (decide ((IntKind.wrap .i64 (((x8n : Nat) : Int) - x10)) < n1)) then
 (optK r0 fun a11 =>
 one (.int .i64 10) = true ∧ Option.isSome (World.cell? w6 (Addr.add a11 2)) = true ∧ World.frozen? w6 (Addr.add a11 2) = false ∧
 ∀ w12 : World, w12 = World.setCell w6 (Addr.add a11 2) (.int .i64 10) →
 R (.returned (.slice none 0 0)) w12)
 else
 (∃ I13 : Nat → Option Addr → Nat → Nat → Int → World → Prop,
 (∃ m, I13 m none 0 0 0 w6) ∧
 (∀ (m14 : Nat) (w15 : World) (l16 : Option Addr) (l16n : Nat) (l16c : Nat) (i17 : Int), I13 m14 l16 l16n l16c i17 w15 →
 (bif (decide (i17 < n1)) then
 (∀ w18 : World, w18 = World.drew w15 →
 optK r0 fun a19 =>
 ∃ (x20 : Option Addr) (x20n : Nat) (x20c : Nat), World.cell? w18 (Addr.add a19 0) = some (.slice x20 x20n x20c) ∧
 optK r0 fun a21 =>
 ∃ x22 : Int, World.cell? w18 (Addr.add a21 1) = some (.int .i64 x22) ∧
 0 ≤ (IntKind.wrap .i64 (x22 + i17)) ∧ (IntKind.wrap .i64 (x22 + i17)) < ((x20n : Nat) : Int) ∧ optK x20 fun a23 =>
 ∃ x24 : Int, World.cell? w18 (Addr.add a23 (Int.toNat (IntKind.wrap .i64 (x22 + i17)) * 1)) = some (.int .u8 x24) ∧
 ∃ cs25, fillL (.elems 1) (zrep (zc Try.prog 5) (1 * 1)) [(0, (.int .u8 x24))] = some cs25 ∧
 ∀ w26 : World, w26 = World.alloc w18 (.cells (List.toArray cs25) 5) →
 RunV Try.prog (Builtin.append_ #[29, 29] 29 #[(.slice l16 l16n l16c), (.slice (some ⟨World.heap w18 |>.size, 0, none⟩) 1 1)]) w26 fun v27 w28 => ∃ (x29 : Option Addr) (x29n : Nat) (x29c : Nat), v27 = (.slice x29 x29n x29c) ∧
 ∃ m30, m30 < m14 ∧ I13 m30 x29 x29n x29c (IntKind.wrap .i64 (i17 + 1)) w28)
 else
 (optK r0 fun a31 =>
 ∃ x32 : Int, World.cell? w15 (Addr.add a31 1) = some (.int .i64 x32) ∧
 optK r0 fun a33 =>
 one (.int .i64 (IntKind.wrap .i64 (x32 + n1))) = true ∧ Option.isSome (World.cell? w15 (Addr.add a33 1)) = true ∧ World.frozen? w15 (Addr.add a33 1) = false ∧
 ∀ w34 : World, w34 = World.setCell w15 (Addr.add a33 1) (.int .i64 (IntKind.wrap .i64 (x32 + n1))) →
 R (.returned (.slice l16 l16n l16c)) w34)))))))))
theorem e34 (r0 : Option Addr) (n1 : Int) (w : World) (R : Ending → World → Prop) : denS Try.prog s34 (argsEnv 0 [(.pointer r0), (.int .i64 n1)]) w (endK r34 R) = d34 r0 n1 w R := by kernel_rfl
theorem c34 (r0 : Option Addr) (n1 : Int) {w : World} {R : Ending → World → Prop} (h : d34 r0 n1 w R) : Calls Try.prog 34 #[(.pointer r0), (.int .i64 n1)] w R :=
  den34 [(.pointer r0), (.int .i64 n1)] w R (by simp) ((e34 r0 n1 w R).symm ▸ h)

/-- (*prelude/preluderef01.Reader).End -/
def s37 : S := (.seq (.ops [⟨(some 2), (.mv (.const (.int .i64 0))), (.int .i64), none⟩] [0])
 (.seq (.seq (.draw (.take 0 ⟨(some 3), (.mv (.tmp 0)), .ptr, none⟩
  (.take 1 ⟨(some 4), (.nc (.tmp 3)), .any, none⟩
  (.take 2 ⟨(some 5), (.fa 2 (.tmp 4)), .ptr, none⟩
  (.take 3 ⟨(some 6), (.ld1 (.tmp 5)), (.int .i64), none⟩
  (.take 4 ⟨(some 7), (.bin .eql (.tmp 6) (.const (.int .i64 0))), .bool, none⟩
  (.take 5 ⟨(some 8), (.mv (.tmp 7)), .bool, none⟩
  (.take 6 ⟨(some 9), (.mv (.tmp 0)), .ptr, (some (8, true))⟩
  (.take 7 ⟨(some 10), (.nc (.tmp 9)), .any, (some (8, true))⟩
  (.take 8 ⟨(some 11), (.fa 1 (.tmp 10)), .ptr, (some (8, true))⟩
  (.take 9 ⟨(some 12), (.ld1 (.tmp 11)), (.int .i64), (some (8, true))⟩
  (.take 10 ⟨(some 13), (.mv (.tmp 0)), .ptr, (some (8, true))⟩
  (.take 11 ⟨(some 14), (.nc (.tmp 13)), .any, (some (8, true))⟩
  (.take 12 ⟨(some 15), (.fa 0 (.tmp 14)), .ptr, (some (8, true))⟩
  (.take 13 ⟨(some 16), (.ld1 (.tmp 15)), .sl, (some (8, true))⟩
  (.take 14 ⟨(some 17), (.len (.tmp 16)), (.int .i64), (some (8, true))⟩
  (.take 15 ⟨(some 18), (.bin .lss (.tmp 12) (.tmp 17)), .bool, (some (8, true))⟩
  (.take 16 ⟨(some 19), (.pick (.tmp 8) (.tmp 18) (.const (.bool false))), .bool, none⟩
  .done))))))))))))))))) [19, 0])
 (.cond (.tmp 19)
 (.seq (.ops [⟨(some 2), (.mv (.const (.int .i64 11))), (.int .i64), none⟩] [2])
 .ret)
 .skip))
 (.seq (.ops [⟨(some 20), (.mv (.tmp 0)), .ptr, none⟩,
  ⟨(some 21), (.nc (.tmp 20)), .any, none⟩,
  ⟨(some 22), (.fa 2 (.tmp 21)), .ptr, none⟩,
  ⟨(some 23), (.ld1 (.tmp 22)), (.int .i64), none⟩,
  ⟨(some 2), (.mv (.tmp 23)), (.int .i64), none⟩] [2])
 .ret)))
def r37 : List Res := [.t 2]
theorem tr37 : trS Try.prog [] 24 (Try.f37.body.getD .skip) s37 = some s37 := by kernel_rfl
theorem den37 (args : List Value) (w : World) (R : Ending → World → Prop) (hn : args.length ≤ 24) (h : denS Try.prog s37 (argsEnv 0 args) w (endK r37 R)) : Calls Try.prog 37 args.toArray w R :=
  calls_of_den (pn := []) (fn := Try.f37) (c := Try.f37.body.getD .skip) Try.func37 (by kernel_rfl) (by rw [Try.ntmps37]; exact hn) (by rw [Try.ntmps37]; exact tr37) (by kernel_rfl) h
def d37 (r0 : Option Addr) (w : World) (R : Ending → World → Prop) : Prop :=
 ∀ w1 : World, w1 = World.drew w →
 optK r0 fun a2 =>
 ∃ x3 : Int, World.cell? w1 (Addr.add a2 2) = some (.int .i64 x3) ∧
 (bif (decide (x3 = 0)) then
 (optK r0 fun a4 =>
 ∃ x5 : Int, World.cell? w1 (Addr.add a4 1) = some (.int .i64 x5) ∧
 optK r0 fun a6 =>
 ∃ (x7 : Option Addr) (x7n : Nat) (x7c : Nat), World.cell? w1 (Addr.add a6 0) = some (.slice x7 x7n x7c) ∧
 (bif (decide (x5 < ((x7n : Nat) : Int))) then
 (R (.returned (.int .i64 11)) w1)
 else
 (optK r0 fun a8 =>
 ∃ x9 : Int, World.cell? w1 (Addr.add a8 2) = some (.int .i64 x9) ∧
 R (.returned (.int .i64 x9)) w1)))
 else
 (optK r0 fun a10 =>
 ∃ x11 : Int, World.cell? w1 (Addr.add a10 2) = some (.int .i64 x11) ∧
 R (.returned (.int .i64 x11)) w1))
theorem e37 (r0 : Option Addr) (w : World) (R : Ending → World → Prop) : denS Try.prog s37 (argsEnv 0 [(.pointer r0)]) w (endK r37 R) = d37 r0 w R := by kernel_rfl
theorem c37 (r0 : Option Addr) {w : World} {R : Ending → World → Prop} (h : d37 r0 w R) : Calls Try.prog 37 #[(.pointer r0)] w R :=
  den37 [(.pointer r0)] w R (by simp) ((e37 r0 w R).symm ▸ h)

end Go.Proofs.Ytjkbjppopdfggaa.Fn
