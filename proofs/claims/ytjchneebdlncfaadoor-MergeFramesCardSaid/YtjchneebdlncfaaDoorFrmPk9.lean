/-
  THE CODE of some functions of the given program, resolved, and proved to ask what the readable texts (d..) say; contracts c.. follow. Printed by a small program of mine.
  THE REFERENCE's NUMBERS AS BYTES, AND ITS READER: contracts.
  SEALED RECORDS: contracts of Seal and of the document's.
  THE DOCUMENT'S BYTES OF A BATCH: contracts of count, set, Formed, Encode.
  Own work. No macro, syntax, notation, axiom.
-/
import Derived.Test.YtjchneebdlncfaaDoorFrmPk3
import Derived.Test.YtjchneebdlncfaaDoorProg
import Derived.Test.YtjchneebdlncfaaDoorFrmPk8
import Derived.Test.YtjchneebdlncfaaDoorFrmPk4
import Derived.Test.YtjchneebdlncfaaDoorFrmPk7
set_option maxRecDepth 100000
namespace Go.Proofs.YtjchneebdlncfaaDoor.Fn
open Go Den
/-- prelude/preluderef01.Uint -/
def s40 : S := (.seq (.ops [⟨(some 2), (.mv (.const (.slice none 0 0))), .sl, none⟩] [0])
 (.seq (.ops [⟨(some 3), (.mv (.const (.slice none 0 0))), .sl, none⟩] [0, 3])
 (.seq (.block 0
 (.loop [(0, (.int .u64)), (3, .sl)] []
 (.seq (.seq (.ops [⟨(some 4), (.mv (.tmp 0)), (.int .u64), none⟩,
  ⟨(some 5), (.bin .geq (.tmp 4) (.const (.int .u64 128))), .bool, none⟩] [5, 3, 0])
 (.cond (.tmp 5)
 .skip
 (.exit 0)))
 (.block 1
 (.seq (.ops [⟨(some 6), (.mv (.tmp 3)), .sl, none⟩,
  ⟨(some 7), (.mv (.tmp 0)), (.int .u64), none⟩,
  ⟨(some 8), (.bin .rem (.tmp 7) (.const (.int .u64 128))), (.int .u64), none⟩,
  ⟨(some 9), (.cv .u8 (.tmp 8)), (.int .u8), none⟩,
  ⟨(some 10), (.bin .add (.tmp 9) (.const (.int .u8 128))), (.int .u8), none⟩,
  ⟨(some 11), (.bldS 5 1 1 [(0, (.tmp 10))]), .sl, none⟩,
  ⟨(some 12), (.app #[22, 22] 22 (.tmp 6) (.tmp 11)), .sl, none⟩,
  ⟨(some 3), (.mv (.tmp 12)), .sl, none⟩] [0, 3])
 (.ops [⟨(some 13), (.mv (.tmp 0)), (.int .u64), none⟩,
  ⟨(some 14), (.bin .quo (.tmp 13) (.const (.int .u64 128))), (.int .u64), none⟩,
  ⟨(some 0), (.mv (.tmp 14)), (.int .u64), none⟩] [0, 3]))))))
 (.seq (.ops [⟨(some 15), (.mv (.tmp 3)), .sl, none⟩,
  ⟨(some 16), (.mv (.tmp 0)), (.int .u64), none⟩,
  ⟨(some 17), (.cv .u8 (.tmp 16)), (.int .u8), none⟩,
  ⟨(some 18), (.bldS 5 1 1 [(0, (.tmp 17))]), .sl, none⟩,
  ⟨(some 19), (.app #[22, 22] 22 (.tmp 15) (.tmp 18)), .sl, none⟩,
  ⟨(some 2), (.mv (.tmp 19)), .sl, none⟩] [2])
 .ret))))
def r40 : List Res := [.t 2]
theorem tr40 : trS Tryd.prog [] 20 (Tryd.f40.body.getD .skip) s40 = some s40 := by kernel_rfl
theorem den40 (args : List Value) (w : World) (R : Ending → World → Prop) (hn : args.length ≤ 20) (h : denS Tryd.prog s40 (argsEnv 0 args) w (endK r40 R)) : Calls Tryd.prog 40 args.toArray w R :=
  calls_of_den (pn := []) (fn := Tryd.f40) (c := Tryd.f40.body.getD .skip) Tryd.func40 (by kernel_rfl) (by rw [Tryd.ntmps40]; exact hn) (by rw [Tryd.ntmps40]; exact tr40) (by kernel_rfl) h
def d40 (n0 : Int) (w : World) (R : Ending → World → Prop) : Prop :=
 ∃ I1 : Nat → Int → Option Addr → Nat → Nat → World → Prop,
 (∃ m, I1 m n0 none 0 0 w) ∧
 (∀ (m2 : Nat) (w3 : World) (n4 : Int) (b5 : Option Addr) (b5n : Nat) (b5c : Nat), I1 m2 n4 b5 b5n b5c w3 →
 (bif (decide (128 ≤ n4)) then
 ((128 : Int) ≠ 0 ∧ ∃ cs6, fillL (.elems 1) (zrep (zc Tryd.prog 5) (1 * 1)) [(0, (.int .u8 (IntKind.wrap .u8 ((IntKind.wrap .u8 (Int.tmod n4 128)) + 128))))] = some cs6 ∧
 ∀ w7 : World, w7 = World.alloc w3 (.cells (List.toArray cs6) 5) →
 RunV Tryd.prog (Builtin.append_ #[22, 22] 22 #[(.slice b5 b5n b5c), (.slice (some ⟨World.heap w3 |>.size, 0, none⟩) 1 1)]) w7 fun v8 w9 => ∃ (x10 : Option Addr) (x10n : Nat) (x10c : Nat), v8 = (.slice x10 x10n x10c) ∧
 (128 : Int) ≠ 0 ∧ ∃ m11, m11 < m2 ∧ I1 m11 (IntKind.wrap .u64 (Int.tdiv n4 128)) x10 x10n x10c w9)
 else
 (∃ cs12, fillL (.elems 1) (zrep (zc Tryd.prog 5) (1 * 1)) [(0, (.int .u8 (IntKind.wrap .u8 n4)))] = some cs12 ∧
 ∀ w13 : World, w13 = World.alloc w3 (.cells (List.toArray cs12) 5) →
 RunV Tryd.prog (Builtin.append_ #[22, 22] 22 #[(.slice b5 b5n b5c), (.slice (some ⟨World.heap w3 |>.size, 0, none⟩) 1 1)]) w13 fun v14 w15 => ∃ (x16 : Option Addr) (x16n : Nat) (x16c : Nat), v14 = (.slice x16 x16n x16c) ∧
 R (.returned (.slice x16 x16n x16c)) w15)))
theorem e40 (n0 : Int) (w : World) (R : Ending → World → Prop) : denS Tryd.prog s40 (argsEnv 0 [(.int .u64 n0)]) w (endK r40 R) = d40 n0 w R := by kernel_rfl
theorem c40 (n0 : Int) {w : World} {R : Ending → World → Prop} (h : d40 n0 w R) : Calls Tryd.prog 40 #[(.int .u64 n0)] w R :=
  den40 [(.int .u64 n0)] w R (by simp) ((e40 n0 w R).symm ▸ h)

/-- prelude/preluderef01.Fold -/
def s93 : S := (.seq (.ops [⟨(some 2), (.mv (.const (.int .u64 0))), (.int .u64), none⟩] [0])
 (.seq (.seq (.ops [⟨(some 3), (.mv (.tmp 0)), (.int .i64), none⟩,
  ⟨(some 4), (.bin .geq (.tmp 3) (.const (.int .i64 0))), .bool, none⟩] [4, 0])
 (.cond (.tmp 4)
 (.seq (.ops [⟨(some 5), (.mv (.tmp 0)), (.int .i64), none⟩,
  ⟨(some 6), (.cv .u64 (.tmp 5)), (.int .u64), none⟩,
  ⟨(some 7), (.bin .mul (.const (.int .u64 2)) (.tmp 6)), (.int .u64), none⟩,
  ⟨(some 2), (.mv (.tmp 7)), (.int .u64), none⟩] [2])
 .ret)
 .skip))
 (.seq (.ops [⟨(some 8), (.mv (.tmp 0)), (.int .i64), none⟩,
  ⟨(some 9), (.bin .sub (.const (.int .i64 (-1))) (.tmp 8)), (.int .i64), none⟩,
  ⟨(some 10), (.cv .u64 (.tmp 9)), (.int .u64), none⟩,
  ⟨(some 11), (.bin .mul (.const (.int .u64 2)) (.tmp 10)), (.int .u64), none⟩,
  ⟨(some 12), (.bin .add (.tmp 11) (.const (.int .u64 1))), (.int .u64), none⟩,
  ⟨(some 2), (.mv (.tmp 12)), (.int .u64), none⟩] [2])
 .ret)))
def r93 : List Res := [.t 2]
theorem tr93 : trS Tryd.prog [] 13 (Tryd.f93.body.getD .skip) s93 = some s93 := by kernel_rfl
theorem den93 (args : List Value) (w : World) (R : Ending → World → Prop) (hn : args.length ≤ 13) (h : denS Tryd.prog s93 (argsEnv 0 args) w (endK r93 R)) : Calls Tryd.prog 93 args.toArray w R :=
  calls_of_den (pn := []) (fn := Tryd.f93) (c := Tryd.f93.body.getD .skip) Tryd.func93 (by kernel_rfl) (by rw [Tryd.ntmps93]; exact hn) (by rw [Tryd.ntmps93]; exact tr93) (by kernel_rfl) h
def d93 (n0 : Int) (w : World) (R : Ending → World → Prop) : Prop :=
 (bif (decide (0 ≤ n0)) then
 (R (.returned (.int .u64 (IntKind.wrap .u64 (2 * (IntKind.wrap .u64 n0))))) w)
 else
 (R (.returned (.int .u64 (IntKind.wrap .u64 ((IntKind.wrap .u64 (2 * (IntKind.wrap .u64 (IntKind.wrap .i64 ((-1) - n0))))) + 1)))) w))
theorem e93 (n0 : Int) (w : World) (R : Ending → World → Prop) : denS Tryd.prog s93 (argsEnv 0 [(.int .i64 n0)]) w (endK r93 R) = d93 n0 w R := by kernel_rfl
theorem c93 (n0 : Int) {w : World} {R : Ending → World → Prop} (h : d93 n0 w R) : Calls Tryd.prog 93 #[(.int .i64 n0)] w R :=
  den93 [(.int .i64 n0)] w R (by simp) ((e93 n0 w R).symm ▸ h)

/-- prelude/preluderef01.Unfold -/
def s111 : S := (.seq (.ops [⟨(some 2), (.mv (.const (.int .i64 0))), (.int .i64), none⟩] [0])
 (.seq (.seq (.ops [⟨(some 3), (.mv (.tmp 0)), (.int .u64), none⟩,
  ⟨(some 4), (.bin .rem (.tmp 3) (.const (.int .u64 2))), (.int .u64), none⟩,
  ⟨(some 5), (.bin .eql (.tmp 4) (.const (.int .u64 0))), .bool, none⟩] [5, 0])
 (.cond (.tmp 5)
 (.seq (.ops [⟨(some 6), (.mv (.tmp 0)), (.int .u64), none⟩,
  ⟨(some 7), (.bin .quo (.tmp 6) (.const (.int .u64 2))), (.int .u64), none⟩,
  ⟨(some 8), (.cv .i64 (.tmp 7)), (.int .i64), none⟩,
  ⟨(some 2), (.mv (.tmp 8)), (.int .i64), none⟩] [2])
 .ret)
 .skip))
 (.seq (.ops [⟨(some 9), (.mv (.tmp 0)), (.int .u64), none⟩,
  ⟨(some 10), (.bin .quo (.tmp 9) (.const (.int .u64 2))), (.int .u64), none⟩,
  ⟨(some 11), (.cv .i64 (.tmp 10)), (.int .i64), none⟩,
  ⟨(some 12), (.bin .sub (.const (.int .i64 (-1))) (.tmp 11)), (.int .i64), none⟩,
  ⟨(some 2), (.mv (.tmp 12)), (.int .i64), none⟩] [2])
 .ret)))
def r111 : List Res := [.t 2]
theorem tr111 : trS Tryd.prog [] 13 (Tryd.f111.body.getD .skip) s111 = some s111 := by kernel_rfl
theorem den111 (args : List Value) (w : World) (R : Ending → World → Prop) (hn : args.length ≤ 13) (h : denS Tryd.prog s111 (argsEnv 0 args) w (endK r111 R)) : Calls Tryd.prog 111 args.toArray w R :=
  calls_of_den (pn := []) (fn := Tryd.f111) (c := Tryd.f111.body.getD .skip) Tryd.func111 (by kernel_rfl) (by rw [Tryd.ntmps111]; exact hn) (by rw [Tryd.ntmps111]; exact tr111) (by kernel_rfl) h
def d111 (n0 : Int) (w : World) (R : Ending → World → Prop) : Prop :=
 (2 : Int) ≠ 0 ∧ (bif (decide ((Int.tmod n0 2) = 0)) then
 ((2 : Int) ≠ 0 ∧ R (.returned (.int .i64 (IntKind.wrap .i64 (IntKind.wrap .u64 (Int.tdiv n0 2))))) w)
 else
 ((2 : Int) ≠ 0 ∧ R (.returned (.int .i64 (IntKind.wrap .i64 ((-1) - (IntKind.wrap .i64 (IntKind.wrap .u64 (Int.tdiv n0 2))))))) w))
theorem e111 (n0 : Int) (w : World) (R : Ending → World → Prop) : denS Tryd.prog s111 (argsEnv 0 [(.int .u64 n0)]) w (endK r111 R) = d111 n0 w R := by kernel_rfl
theorem c111 (n0 : Int) {w : World} {R : Ending → World → Prop} (h : d111 n0 w R) : Calls Tryd.prog 111 #[(.int .u64 n0)] w R :=
  den111 [(.int .u64 n0)] w R (by simp) ((e111 n0 w R).symm ▸ h)

/-- prelude/preluderef01.Int -/
def s73 : S := (.seq (.ops [⟨(some 2), (.mv (.const (.slice none 0 0))), .sl, none⟩] [0])
 (.seq (.ops [⟨(some 3), (.mv (.tmp 0)), (.int .i64), none⟩,
  ⟨(some 4), (.call 93 [(.tmp 3)] [(.int .u64)]), (.int .u64), none⟩,
  ⟨(some 5), (.call 40 [(.tmp 4)] [.sl]), .sl, none⟩,
  ⟨(some 2), (.mv (.tmp 5)), .sl, none⟩] [2])
 .ret))
def r73 : List Res := [.t 2]
theorem tr73 : trS Tryd.prog [] 6 (Tryd.f73.body.getD .skip) s73 = some s73 := by kernel_rfl
theorem den73 (args : List Value) (w : World) (R : Ending → World → Prop) (hn : args.length ≤ 6) (h : denS Tryd.prog s73 (argsEnv 0 args) w (endK r73 R)) : Calls Tryd.prog 73 args.toArray w R :=
  calls_of_den (pn := []) (fn := Tryd.f73) (c := Tryd.f73.body.getD .skip) Tryd.func73 (by kernel_rfl) (by rw [Tryd.ntmps73]; exact hn) (by rw [Tryd.ntmps73]; exact tr73) (by kernel_rfl) h
def d73 (n0 : Int) (w : World) (R : Ending → World → Prop) : Prop :=
 Calls Tryd.prog 93 #[(.int .i64 n0)] w fun e1 w2 => ∃ x3 : Int, e1 = .returned (.int .u64 x3) ∧
 Calls Tryd.prog 40 #[(.int .u64 x3)] w2 fun e4 w5 => ∃ (x6 : Option Addr) (x6n : Nat) (x6c : Nat), e4 = .returned (.slice x6 x6n x6c) ∧
 R (.returned (.slice x6 x6n x6c)) w5
theorem e73 (n0 : Int) (w : World) (R : Ending → World → Prop) : denS Tryd.prog s73 (argsEnv 0 [(.int .i64 n0)]) w (endK r73 R) = d73 n0 w R := by kernel_rfl
theorem c73 (n0 : Int) {w : World} {R : Ending → World → Prop} (h : d73 n0 w R) : Calls Tryd.prog 73 #[(.int .i64 n0)] w R :=
  den73 [(.int .i64 n0)] w R (by simp) ((e73 n0 w R).symm ▸ h)

/-- prelude/preluderef01.number -/
def s100 : S := (.seq (.ops [⟨(some 2), (.mv (.const (.int .u64 0))), (.int .u64), none⟩,
  ⟨(some 3), (.mv (.const (.int .i64 0))), (.int .i64), none⟩,
  ⟨(some 4), (.mv (.const (.int .i64 0))), (.int .i64), none⟩] [0])
 (.seq (.ops [⟨(some 5), (.mv (.const (.int .u64 0))), (.int .u64), none⟩] [0, 5])
 (.seq (.seq (.ops [⟨(some 6), (.mv (.const (.int .i64 0))), (.int .i64), none⟩] [6, 0, 5])
 (.block 0
 (.loop [(5, (.int .u64)), (6, (.int .i64))] [0]
 (.seq (.seq (.ops [⟨(some 7), (.mv (.tmp 6)), (.int .i64), none⟩,
  ⟨(some 8), (.bin .lss (.tmp 7) (.const (.int .i64 10))), .bool, none⟩] [8, 6, 0, 5])
 (.cond (.tmp 8)
 .skip
 (.exit 0)))
 (.seq (.block 1
 (.seq (.seq (.ops [⟨(some 11), (.mv (.tmp 6)), (.int .i64), none⟩,
  ⟨(some 12), (.mv (.tmp 0)), .sl, none⟩,
  ⟨(some 13), (.len (.tmp 12)), (.int .i64), none⟩,
  ⟨(some 14), (.bin .eql (.tmp 11) (.tmp 13)), .bool, none⟩] [14, 6, 0, 5])
 (.cond (.tmp 14)
 (.seq (.ops [⟨(some 2), (.mv (.const (.int .u64 0))), (.int .u64), none⟩,
  ⟨(some 3), (.mv (.const (.int .i64 0))), (.int .i64), none⟩,
  ⟨(some 4), (.mv (.const (.int .i64 10))), (.int .i64), none⟩] [2, 3, 4])
 .ret)
 .skip))
 (.join [] [0, 5, 6]
 (.seq (.ops [⟨(some 15), (.mv (.tmp 6)), (.int .i64), none⟩,
  ⟨(some 16), (.bin .eql (.tmp 15) (.const (.int .i64 9))), .bool, none⟩,
  ⟨(some 17), (.mv (.tmp 16)), .bool, none⟩,
  ⟨(some 18), (.mv (.tmp 0)), .sl, (some (17, true))⟩,
  ⟨(some 19), (.mv (.tmp 6)), (.int .i64), (some (17, true))⟩,
  ⟨(some 20), (.ia 1 (.tmp 18) (.tmp 19)), .ptr, (some (17, true))⟩,
  ⟨(some 21), (.ld1 (.tmp 20)), (.int .u8), (some (17, true))⟩,
  ⟨(some 22), (.bin .gtr (.tmp 21) (.const (.int .u8 1))), .bool, (some (17, true))⟩,
  ⟨(some 23), (.pick (.tmp 17) (.tmp 22) (.const (.bool false))), .bool, none⟩,
  ⟨(some 24), (.mv (.tmp 23)), .bool, none⟩,
  ⟨(some 25), (.mv (.tmp 6)), (.int .i64), (some (24, false))⟩,
  ⟨(some 26), (.bin .gtr (.tmp 25) (.const (.int .i64 0))), .bool, (some (24, false))⟩,
  ⟨(some 27), (.mv (.tmp 26)), .bool, (some (24, false))⟩,
  ⟨(some 28), (.mv (.tmp 0)), .sl, (some (27, true))⟩,
  ⟨(some 29), (.mv (.tmp 6)), (.int .i64), (some (27, true))⟩,
  ⟨(some 30), (.ia 1 (.tmp 28) (.tmp 29)), .ptr, (some (27, true))⟩,
  ⟨(some 31), (.ld1 (.tmp 30)), (.int .u8), (some (27, true))⟩,
  ⟨(some 32), (.bin .eql (.tmp 31) (.const (.int .u8 0))), .bool, (some (27, true))⟩,
  ⟨(some 33), (.pick (.tmp 27) (.tmp 32) (.const (.bool false))), .bool, (some (24, false))⟩,
  ⟨(some 34), (.pick (.tmp 24) (.const (.bool true)) (.tmp 33)), .bool, none⟩] [34, 5, 0, 6])
 (.cond (.tmp 34)
 (.seq (.ops [⟨(some 2), (.mv (.const (.int .u64 0))), (.int .u64), none⟩,
  ⟨(some 3), (.mv (.const (.int .i64 0))), (.int .i64), none⟩,
  ⟨(some 4), (.mv (.const (.int .i64 11))), (.int .i64), none⟩] [2, 3, 4])
 .ret)
 .skip))
 (.seq (.ops [⟨(some 35), (.mv (.tmp 5)), (.int .u64), none⟩,
  ⟨(some 36), (.mv (.tmp 0)), .sl, none⟩,
  ⟨(some 37), (.mv (.tmp 6)), (.int .i64), none⟩,
  ⟨(some 38), (.ia 1 (.tmp 36) (.tmp 37)), .ptr, none⟩,
  ⟨(some 39), (.ld1 (.tmp 38)), (.int .u8), none⟩,
  ⟨(some 40), (.bin .rem (.tmp 39) (.const (.int .u8 128))), (.int .u8), none⟩,
  ⟨(some 41), (.cv .u64 (.tmp 40)), (.int .u64), none⟩,
  ⟨(some 42), (.mv (.tmp 6)), (.int .i64), none⟩,
  ⟨(some 43), (.bin .mul (.const (.int .i64 7)) (.tmp 42)), (.int .i64), none⟩,
  ⟨(some 44), (.bin .shl (.tmp 41) (.tmp 43)), (.int .u64), none⟩,
  ⟨(some 45), (.bin .add (.tmp 35) (.tmp 44)), (.int .u64), none⟩,
  ⟨(some 5), (.mv (.tmp 45)), (.int .u64), none⟩] [0, 6, 5])
 (.seq (.ops [⟨(some 46), (.mv (.tmp 0)), .sl, none⟩,
  ⟨(some 47), (.mv (.tmp 6)), (.int .i64), none⟩,
  ⟨(some 48), (.ia 1 (.tmp 46) (.tmp 47)), .ptr, none⟩,
  ⟨(some 49), (.ld1 (.tmp 48)), (.int .u8), none⟩,
  ⟨(some 50), (.bin .lss (.tmp 49) (.const (.int .u8 128))), .bool, none⟩] [50, 5, 6, 0])
 (.cond (.tmp 50)
 (.seq (.ops [⟨(some 51), (.mv (.tmp 5)), (.int .u64), none⟩,
  ⟨(some 52), (.mv (.tmp 6)), (.int .i64), none⟩,
  ⟨(some 53), (.bin .add (.tmp 52) (.const (.int .i64 1))), (.int .i64), none⟩,
  ⟨(some 2), (.mv (.tmp 51)), (.int .u64), none⟩,
  ⟨(some 3), (.mv (.tmp 53)), (.int .i64), none⟩,
  ⟨(some 4), (.mv (.const (.int .i64 0))), (.int .i64), none⟩] [2, 3, 4])
 .ret)
 .skip))))))
 (.ops [⟨(some 9), (.mv (.tmp 6)), (.int .i64), none⟩,
  ⟨(some 10), (.bin .add (.tmp 9) (.const (.int .i64 1))), (.int .i64), none⟩,
  ⟨(some 6), (.mv (.tmp 10)), (.int .i64), none⟩] [6, 0, 5]))))))
 (.seq (.ops [⟨(some 2), (.mv (.const (.int .u64 0))), (.int .u64), none⟩,
  ⟨(some 3), (.mv (.const (.int .i64 0))), (.int .i64), none⟩,
  ⟨(some 4), (.mv (.const (.int .i64 11))), (.int .i64), none⟩] [2, 3, 4])
 .ret))))
def r100 : List Res := [.t 2, .t 3, .t 4]
theorem tr100 : trS Tryd.prog [] 54 (Tryd.f100.body.getD .skip) s100 = some s100 := by kernel_rfl
theorem den100 (args : List Value) (w : World) (R : Ending → World → Prop) (hn : args.length ≤ 54) (h : denS Tryd.prog s100 (argsEnv 0 args) w (endK r100 R)) : Calls Tryd.prog 100 args.toArray w R :=
  calls_of_den (pn := []) (fn := Tryd.f100) (c := Tryd.f100.body.getD .skip) Tryd.func100 (by kernel_rfl) (by rw [Tryd.ntmps100]; exact hn) (by rw [Tryd.ntmps100]; exact tr100) (by kernel_rfl) h
def d100 (b0 : Option Addr) (b0n : Nat) (b0c : Nat) (w : World) (R : Ending → World → Prop) : Prop :=
 ∃ I1 : Nat → Int → Int → World → Prop,
 (∃ m, I1 m 0 0 w) ∧
 (∀ (m2 : Nat) (w3 : World) (n4 : Int) (k5 : Int), I1 m2 n4 k5 w3 →
 (bif (decide (k5 < 10)) then
 ((bif (decide (k5 = ((b0n : Nat) : Int))) then
 (R (.returned (.tuple #[(.int .u64 0), (.int .i64 0), (.int .i64 10)])) w3)
 else
 (∃ J6 : World → Prop,
 ((bif (decide (k5 = 9)) then
 (0 ≤ k5 ∧ k5 < ((b0n : Nat) : Int) ∧ optK b0 fun a7 =>
 ∃ x8 : Int, World.cell? w3 (Addr.add a7 (Int.toNat k5 * 1)) = some (.int .u8 x8) ∧
 (bif (decide (1 < x8)) then
 (R (.returned (.tuple #[(.int .u64 0), (.int .i64 0), (.int .i64 11)])) w3)
 else
 ((bif (decide (0 < k5)) then
 (0 ≤ k5 ∧ k5 < ((b0n : Nat) : Int) ∧ optK b0 fun a9 =>
 ∃ x10 : Int, World.cell? w3 (Addr.add a9 (Int.toNat k5 * 1)) = some (.int .u8 x10) ∧
 (bif (decide (x10 = 0)) then
 (R (.returned (.tuple #[(.int .u64 0), (.int .i64 0), (.int .i64 11)])) w3)
 else
 (J6  w3)))
 else
 (J6  w3)))))
 else
 ((bif (decide (0 < k5)) then
 (0 ≤ k5 ∧ k5 < ((b0n : Nat) : Int) ∧ optK b0 fun a11 =>
 ∃ x12 : Int, World.cell? w3 (Addr.add a11 (Int.toNat k5 * 1)) = some (.int .u8 x12) ∧
 (bif (decide (x12 = 0)) then
 (R (.returned (.tuple #[(.int .u64 0), (.int .i64 0), (.int .i64 11)])) w3)
 else
 (J6  w3)))
 else
 (J6  w3))))) ∧
 (∀ (w13 : World), J6  w13 →
 0 ≤ k5 ∧ k5 < ((b0n : Nat) : Int) ∧ optK b0 fun a14 =>
 ∃ x15 : Int, World.cell? w13 (Addr.add a14 (Int.toNat k5 * 1)) = some (.int .u8 x15) ∧
 (128 : Int) ≠ 0 ∧ 0 ≤ (IntKind.wrap .i64 (7 * k5)) ∧ 0 ≤ k5 ∧ k5 < ((b0n : Nat) : Int) ∧ optK b0 fun a16 =>
 ∃ x17 : Int, World.cell? w13 (Addr.add a16 (Int.toNat k5 * 1)) = some (.int .u8 x17) ∧
 (bif (decide (x17 < 128)) then
 (R (.returned (.tuple #[(.int .u64 (IntKind.wrap .u64 (n4 + (shL .u64 (IntKind.wrap .u64 (Int.tmod x15 128)) (IntKind.wrap .i64 (7 * k5)))))), (.int .i64 (IntKind.wrap .i64 (k5 + 1))), (.int .i64 0)])) w13)
 else
 (∃ m18, m18 < m2 ∧ I1 m18 (IntKind.wrap .u64 (n4 + (shL .u64 (IntKind.wrap .u64 (Int.tmod x15 128)) (IntKind.wrap .i64 (7 * k5))))) (IntKind.wrap .i64 (k5 + 1)) w13))))))
 else
 (R (.returned (.tuple #[(.int .u64 0), (.int .i64 0), (.int .i64 11)])) w3)))
theorem e100 (b0 : Option Addr) (b0n : Nat) (b0c : Nat) (w : World) (R : Ending → World → Prop) : denS Tryd.prog s100 (argsEnv 0 [(.slice b0 b0n b0c)]) w (endK r100 R) = d100 b0 b0n b0c w R := by kernel_rfl
theorem c100 (b0 : Option Addr) (b0n : Nat) (b0c : Nat) {w : World} {R : Ending → World → Prop} (h : d100 b0 b0n b0c w R) : Calls Tryd.prog 100 #[(.slice b0 b0n b0c)] w R :=
  den100 [(.slice b0 b0n b0c)] w R (by simp) ((e100 b0 b0n b0c w R).symm ▸ h)

/-- (*prelude/preluderef01.Reader).Uint -/
def s85 : S := (.seq (.ops [⟨(some 2), (.mv (.const (.int .u64 0))), (.int .u64), none⟩] [0])
 (.seq (.seq (.ops [⟨(some 6), (.mv (.tmp 0)), .ptr, none⟩,
  ⟨(some 7), (.nc (.tmp 6)), .any, none⟩,
  ⟨(some 8), (.fa 2 (.tmp 7)), .ptr, none⟩,
  ⟨(some 9), (.ld1 (.tmp 8)), (.int .i64), none⟩,
  ⟨(some 10), (.bin .neq (.tmp 9) (.const (.int .i64 0))), .bool, none⟩] [10, 0])
 (.cond (.tmp 10)
 (.seq (.ops [⟨(some 2), (.mv (.const (.int .u64 0))), (.int .u64), none⟩] [2])
 .ret)
 .skip))
 (.seq (.draw (.take 0 ⟨(some 12), (.mv (.tmp 0)), .ptr, none⟩
  (.take 1 ⟨(some 13), (.nc (.tmp 12)), .any, none⟩
  (.take 2 ⟨(some 14), (.fa 0 (.tmp 13)), .ptr, none⟩
  (.take 3 ⟨(some 15), (.ld1 (.tmp 14)), .sl, none⟩
  (.take 4 ⟨(some 16), (.mv (.tmp 0)), .ptr, none⟩
  (.take 5 ⟨(some 17), (.nc (.tmp 16)), .any, none⟩
  (.take 6 ⟨(some 18), (.fa 1 (.tmp 17)), .ptr, none⟩
  (.take 7 ⟨(some 19), (.ld1 (.tmp 18)), (.int .i64), none⟩
  (.take 8 ⟨(some 20), (.slS 1 (.tmp 15) (some (.tmp 19)) none none), .sl, none⟩
  (.go 9 ⟨(some 21), (.call 100 [(.tmp 20)] [(.int .u64), (.int .i64), (.int .i64)]), .any, none⟩ []
  (.take 10 ⟨(some 11), (.mv (.tmp 21)), .any, none⟩
  (.take 11 ⟨(some 22), (.ext 0 (.tmp 11)), (.int .u64), none⟩
  (.take 12 ⟨(some 23), (.ext 1 (.tmp 11)), (.int .i64), none⟩
  (.take 13 ⟨(some 24), (.ext 2 (.tmp 11)), (.int .i64), none⟩
  (.take 14 ⟨(some 3), (.mv (.tmp 22)), (.int .u64), none⟩
  (.take 15 ⟨(some 4), (.mv (.tmp 23)), (.int .i64), none⟩
  (.take 16 ⟨(some 5), (.mv (.tmp 24)), (.int .i64), none⟩
  .done))))))))))))))))) [0, 5, 4, 3])
 (.seq (.ops [⟨(some 25), (.mv (.tmp 0)), .ptr, none⟩,
  ⟨(some 26), (.mv (.tmp 5)), (.int .i64), none⟩,
  ⟨(some 27), (.nc (.tmp 25)), .any, none⟩,
  ⟨(some 28), (.fa 2 (.tmp 27)), .ptr, none⟩,
  ⟨none, (.st1 (.tmp 28) (.tmp 26)), .any, none⟩] [0, 4, 3])
 (.seq (.ops [⟨(some 29), (.mv (.tmp 0)), .ptr, none⟩,
  ⟨(some 30), (.mv (.tmp 0)), .ptr, none⟩,
  ⟨(some 31), (.nc (.tmp 30)), .any, none⟩,
  ⟨(some 32), (.fa 1 (.tmp 31)), .ptr, none⟩,
  ⟨(some 33), (.ld1 (.tmp 32)), (.int .i64), none⟩,
  ⟨(some 34), (.mv (.tmp 4)), (.int .i64), none⟩,
  ⟨(some 35), (.bin .add (.tmp 33) (.tmp 34)), (.int .i64), none⟩,
  ⟨(some 36), (.nc (.tmp 29)), .any, none⟩,
  ⟨(some 37), (.fa 1 (.tmp 36)), .ptr, none⟩,
  ⟨none, (.st1 (.tmp 37) (.tmp 35)), .any, none⟩] [3])
 (.seq (.ops [⟨(some 38), (.mv (.tmp 3)), (.int .u64), none⟩,
  ⟨(some 2), (.mv (.tmp 38)), (.int .u64), none⟩] [2])
 .ret))))))
def r85 : List Res := [.t 2]
theorem tr85 : trS Tryd.prog [] 39 (Tryd.f85.body.getD .skip) s85 = some s85 := by kernel_rfl
theorem den85 (args : List Value) (w : World) (R : Ending → World → Prop) (hn : args.length ≤ 39) (h : denS Tryd.prog s85 (argsEnv 0 args) w (endK r85 R)) : Calls Tryd.prog 85 args.toArray w R :=
  calls_of_den (pn := []) (fn := Tryd.f85) (c := Tryd.f85.body.getD .skip) Tryd.func85 (by kernel_rfl) (by rw [Tryd.ntmps85]; exact hn) (by rw [Tryd.ntmps85]; exact tr85) (by kernel_rfl) h
def d85 (r0 : Option Addr) (w : World) (R : Ending → World → Prop) : Prop :=
 optK r0 fun a1 =>
 ∃ x2 : Int, World.cell? w (Addr.add a1 2) = some (.int .i64 x2) ∧
 (bif (!decide (x2 = 0)) then
 (R (.returned (.int .u64 0)) w)
 else
 (∀ w3 : World, w3 = World.drew w →
 optK r0 fun a4 =>
 ∃ (x5 : Option Addr) (x5n : Nat) (x5c : Nat), World.cell? w3 (Addr.add a4 0) = some (.slice x5 x5n x5c) ∧
 optK r0 fun a6 =>
 ∃ x7 : Int, World.cell? w3 (Addr.add a6 1) = some (.int .i64 x7) ∧
 0 ≤ x7 ∧ x7 ≤ ((x5n : Nat) : Int) ∧ Calls Tryd.prog 100 #[(.slice (if x5c = (Int.toNat x7) then x5 else Option.map (fun y => Addr.add y ((Int.toNat x7) * 1)) x5) (x5n - (Int.toNat x7)) (x5c - (Int.toNat x7)))] w3 fun e8 w9 => ∃ x10 : Int, ∃ x11 : Int, ∃ x12 : Int, e8 = .returned (.tuple #[(.int .u64 x10), (.int .i64 x11), (.int .i64 x12)]) ∧
 ∃ x13 : Int, (#[(.int .u64 x10), (.int .i64 x11), (.int .i64 x12)] : Array Value)[0]? = some (.int .u64 x13) ∧
 ∃ x14 : Int, (#[(.int .u64 x10), (.int .i64 x11), (.int .i64 x12)] : Array Value)[1]? = some (.int .i64 x14) ∧
 ∃ x15 : Int, (#[(.int .u64 x10), (.int .i64 x11), (.int .i64 x12)] : Array Value)[2]? = some (.int .i64 x15) ∧
 optK r0 fun a16 =>
 one (.int .i64 x15) = true ∧ Option.isSome (World.cell? w9 (Addr.add a16 2)) = true ∧ World.frozen? w9 (Addr.add a16 2) = false ∧
 ∀ w17 : World, w17 = World.setCell w9 (Addr.add a16 2) (.int .i64 x15) →
 optK r0 fun a18 =>
 ∃ x19 : Int, World.cell? w17 (Addr.add a18 1) = some (.int .i64 x19) ∧
 optK r0 fun a20 =>
 one (.int .i64 (IntKind.wrap .i64 (x19 + x14))) = true ∧ Option.isSome (World.cell? w17 (Addr.add a20 1)) = true ∧ World.frozen? w17 (Addr.add a20 1) = false ∧
 ∀ w21 : World, w21 = World.setCell w17 (Addr.add a20 1) (.int .i64 (IntKind.wrap .i64 (x19 + x14))) →
 R (.returned (.int .u64 x13)) w21))
theorem e85 (r0 : Option Addr) (w : World) (R : Ending → World → Prop) : denS Tryd.prog s85 (argsEnv 0 [(.pointer r0)]) w (endK r85 R) = d85 r0 w R := by kernel_rfl
theorem c85 (r0 : Option Addr) {w : World} {R : Ending → World → Prop} (h : d85 r0 w R) : Calls Tryd.prog 85 #[(.pointer r0)] w R :=
  den85 [(.pointer r0)] w R (by simp) ((e85 r0 w R).symm ▸ h)

-- no body
/-- (*prelude/preluderef01.Reader).Upto -/
def s51 : S := (.seq (.ops [⟨(some 4), (.mv (.const (.int .u64 0))), (.int .u64), none⟩] [0, 1])
 (.seq (.ops [⟨(some 7), (.mv (.tmp 0)), .ptr, none⟩,
  ⟨(some 8), (.nc (.tmp 7)), .any, none⟩,
  ⟨(some 9), (.fa 1 (.tmp 8)), .ptr, none⟩,
  ⟨(some 10), (.ld1 (.tmp 9)), (.int .i64), none⟩,
  ⟨(some 5), (.mv (.tmp 10)), (.int .i64), none⟩] [0, 1, 5])
 (.seq (.ops [⟨(some 11), (.mv (.tmp 0)), .ptr, none⟩,
  ⟨(some 12), (.call 85 [(.tmp 11)] [(.int .u64)]), (.int .u64), none⟩,
  ⟨(some 6), (.mv (.tmp 12)), (.int .u64), none⟩] [0, 6, 1, 5])
 (.seq (.join [(22, .bool)] [0, 5, 6]
 (.ops [⟨(some 13), (.mv (.tmp 0)), .ptr, none⟩,
  ⟨(some 14), (.nc (.tmp 13)), .any, none⟩,
  ⟨(some 15), (.fa 2 (.tmp 14)), .ptr, none⟩,
  ⟨(some 16), (.ld1 (.tmp 15)), (.int .i64), none⟩,
  ⟨(some 17), (.bin .eql (.tmp 16) (.const (.int .i64 0))), .bool, none⟩,
  ⟨(some 18), (.mv (.tmp 17)), .bool, none⟩,
  ⟨(some 19), (.mv (.tmp 6)), (.int .u64), (some (18, true))⟩,
  ⟨(some 20), (.mv (.tmp 1)), (.int .u64), (some (18, true))⟩,
  ⟨(some 21), (.bin .gtr (.tmp 19) (.tmp 20)), .bool, (some (18, true))⟩,
  ⟨(some 22), (.pick (.tmp 18) (.tmp 21) (.const (.bool false))), .bool, none⟩] [22, 0, 5, 6])
 (.cond (.tmp 22)
 (.seq (.ops [⟨(some 23), (.mv (.tmp 0)), .ptr, none⟩,
  ⟨(some 24), (.nc (.tmp 23)), .any, none⟩,
  ⟨(some 25), (.fa 2 (.tmp 24)), .ptr, none⟩,
  ⟨none, (.st1 (.tmp 25) (.const (.int .i64 12))), .any, none⟩] [0, 5])
 (.seq (.ops [⟨(some 26), (.mv (.tmp 0)), .ptr, none⟩,
  ⟨(some 27), (.mv (.tmp 5)), (.int .i64), none⟩,
  ⟨(some 28), (.nc (.tmp 26)), .any, none⟩,
  ⟨(some 29), (.fa 1 (.tmp 28)), .ptr, none⟩,
  ⟨none, (.st1 (.tmp 29) (.tmp 27)), .any, none⟩] [])
 (.seq (.ops [⟨(some 4), (.mv (.const (.int .u64 0))), (.int .u64), none⟩] [4])
 .ret)))
 .skip))
 (.seq (.ops [⟨(some 30), (.mv (.tmp 6)), (.int .u64), none⟩,
  ⟨(some 4), (.mv (.tmp 30)), (.int .u64), none⟩] [4])
 .ret)))))
def r51 : List Res := [.t 4]
theorem tr51 : trS Tryd.prog [] 31 (Tryd.f51.body.getD .skip) s51 = some s51 := by kernel_rfl
theorem den51 (args : List Value) (w : World) (R : Ending → World → Prop) (hn : args.length ≤ 31) (h : denS Tryd.prog s51 (argsEnv 0 args) w (endK r51 R)) : Calls Tryd.prog 51 args.toArray w R :=
  calls_of_den (pn := []) (fn := Tryd.f51) (c := Tryd.f51.body.getD .skip) Tryd.func51 (by kernel_rfl) (by rw [Tryd.ntmps51]; exact hn) (by rw [Tryd.ntmps51]; exact tr51) (by kernel_rfl) h
def d51 (r0 : Option Addr) (most1 : Int) (w : World) (R : Ending → World → Prop) : Prop :=
 optK r0 fun a2 =>
 ∃ x3 : Int, World.cell? w (Addr.add a2 1) = some (.int .i64 x3) ∧
 Calls Tryd.prog 85 #[(.pointer r0)] w fun e4 w5 => ∃ x6 : Int, e4 = .returned (.int .u64 x6) ∧
 ∃ J7 : Bool → World → Prop,
 (optK r0 fun a8 =>
 ∃ x9 : Int, World.cell? w5 (Addr.add a8 2) = some (.int .i64 x9) ∧
 (bif (decide (x9 = 0)) then
 (J7 (decide (most1 < x6)) w5)
 else
 (J7 false w5))) ∧
 (∀ (w10 : World) (x11 : Bool), J7 x11 w10 →
 (bif x11 then
 (optK r0 fun a12 =>
 one (.int .i64 12) = true ∧ Option.isSome (World.cell? w10 (Addr.add a12 2)) = true ∧ World.frozen? w10 (Addr.add a12 2) = false ∧
 ∀ w13 : World, w13 = World.setCell w10 (Addr.add a12 2) (.int .i64 12) →
 optK r0 fun a14 =>
 one (.int .i64 x3) = true ∧ Option.isSome (World.cell? w13 (Addr.add a14 1)) = true ∧ World.frozen? w13 (Addr.add a14 1) = false ∧
 ∀ w15 : World, w15 = World.setCell w13 (Addr.add a14 1) (.int .i64 x3) →
 R (.returned (.int .u64 0)) w15)
 else
 (R (.returned (.int .u64 x6)) w10)))
theorem e51 (r0 : Option Addr) (most1 : Int) (w : World) (R : Ending → World → Prop) : denS Tryd.prog s51 (argsEnv 0 [(.pointer r0), (.int .u64 most1)]) w (endK r51 R) = d51 r0 most1 w R := by kernel_rfl
theorem c51 (r0 : Option Addr) (most1 : Int) {w : World} {R : Ending → World → Prop} (h : d51 r0 most1 w R) : Calls Tryd.prog 51 #[(.pointer r0), (.int .u64 most1)] w R :=
  den51 [(.pointer r0), (.int .u64 most1)] w R (by simp) ((e51 r0 most1 w R).symm ▸ h)

/-- (*prelude/preluderef01.Reader).Int -/
def s98 : S := (.seq (.ops [⟨(some 2), (.mv (.const (.int .i64 0))), (.int .i64), none⟩] [0])
 (.seq (.ops [⟨(some 3), (.mv (.tmp 0)), .ptr, none⟩,
  ⟨(some 4), (.call 85 [(.tmp 3)] [(.int .u64)]), (.int .u64), none⟩,
  ⟨(some 5), (.call 111 [(.tmp 4)] [(.int .i64)]), (.int .i64), none⟩,
  ⟨(some 2), (.mv (.tmp 5)), (.int .i64), none⟩] [2])
 .ret))
def r98 : List Res := [.t 2]
theorem tr98 : trS Tryd.prog [] 6 (Tryd.f98.body.getD .skip) s98 = some s98 := by kernel_rfl
theorem den98 (args : List Value) (w : World) (R : Ending → World → Prop) (hn : args.length ≤ 6) (h : denS Tryd.prog s98 (argsEnv 0 args) w (endK r98 R)) : Calls Tryd.prog 98 args.toArray w R :=
  calls_of_den (pn := []) (fn := Tryd.f98) (c := Tryd.f98.body.getD .skip) Tryd.func98 (by kernel_rfl) (by rw [Tryd.ntmps98]; exact hn) (by rw [Tryd.ntmps98]; exact tr98) (by kernel_rfl) h
def d98 (r0 : Option Addr) (w : World) (R : Ending → World → Prop) : Prop :=
 Calls Tryd.prog 85 #[(.pointer r0)] w fun e1 w2 => ∃ x3 : Int, e1 = .returned (.int .u64 x3) ∧
 Calls Tryd.prog 111 #[(.int .u64 x3)] w2 fun e4 w5 => ∃ x6 : Int, e4 = .returned (.int .i64 x6) ∧
 R (.returned (.int .i64 x6)) w5
theorem e98 (r0 : Option Addr) (w : World) (R : Ending → World → Prop) : denS Tryd.prog s98 (argsEnv 0 [(.pointer r0)]) w (endK r98 R) = d98 r0 w R := by kernel_rfl
theorem c98 (r0 : Option Addr) {w : World} {R : Ending → World → Prop} (h : d98 r0 w R) : Calls Tryd.prog 98 #[(.pointer r0)] w R :=
  den98 [(.pointer r0)] w R (by simp) ((e98 r0 w R).symm ▸ h)

/-- (*prelude/preluderef01.Reader).Raw -/
def s112 : S := (.seq (.ops [⟨(some 4), (.mv (.const (.slice none 0 0))), .sl, none⟩] [0, 1])
 (.seq (.seq (.ops [⟨(some 7), (.mv (.tmp 0)), .ptr, none⟩,
  ⟨(some 8), (.nc (.tmp 7)), .any, none⟩,
  ⟨(some 9), (.fa 2 (.tmp 8)), .ptr, none⟩,
  ⟨(some 10), (.ld1 (.tmp 9)), (.int .i64), none⟩,
  ⟨(some 11), (.bin .neq (.tmp 10) (.const (.int .i64 0))), .bool, none⟩] [11, 1, 0])
 (.cond (.tmp 11)
 (.seq (.ops [⟨(some 4), (.mv (.const (.slice none 0 0))), .sl, none⟩] [4])
 .ret)
 .skip))
 (.seq (.seq (.ops [⟨(some 12), (.mv (.tmp 1)), (.int .i64), none⟩,
  ⟨(some 13), (.bin .lss (.tmp 12) (.const (.int .i64 0))), .bool, none⟩] [13, 0, 1])
 (.cond (.tmp 13)
 (.seq (.ops [⟨(some 14), (.mv (.tmp 0)), .ptr, none⟩,
  ⟨(some 15), (.nc (.tmp 14)), .any, none⟩,
  ⟨(some 16), (.fa 2 (.tmp 15)), .ptr, none⟩,
  ⟨none, (.st1 (.tmp 16) (.const (.int .i64 11))), .any, none⟩] [])
 (.seq (.ops [⟨(some 4), (.mv (.const (.slice none 0 0))), .sl, none⟩] [4])
 .ret))
 .skip))
 (.seq (.seq (.draw (.take 0 ⟨(some 17), (.mv (.tmp 1)), (.int .i64), none⟩
  (.take 1 ⟨(some 18), (.mv (.tmp 0)), .ptr, none⟩
  (.take 2 ⟨(some 19), (.nc (.tmp 18)), .any, none⟩
  (.take 3 ⟨(some 20), (.fa 0 (.tmp 19)), .ptr, none⟩
  (.take 4 ⟨(some 21), (.ld1 (.tmp 20)), .sl, none⟩
  (.take 5 ⟨(some 22), (.len (.tmp 21)), (.int .i64), none⟩
  (.take 6 ⟨(some 23), (.mv (.tmp 0)), .ptr, none⟩
  (.take 7 ⟨(some 24), (.nc (.tmp 23)), .any, none⟩
  (.take 8 ⟨(some 25), (.fa 1 (.tmp 24)), .ptr, none⟩
  (.take 9 ⟨(some 26), (.ld1 (.tmp 25)), (.int .i64), none⟩
  (.take 10 ⟨(some 27), (.bin .sub (.tmp 22) (.tmp 26)), (.int .i64), none⟩
  (.take 11 ⟨(some 28), (.bin .gtr (.tmp 17) (.tmp 27)), .bool, none⟩
  .done)))))))))))) [28, 0, 1])
 (.cond (.tmp 28)
 (.seq (.ops [⟨(some 29), (.mv (.tmp 0)), .ptr, none⟩,
  ⟨(some 30), (.nc (.tmp 29)), .any, none⟩,
  ⟨(some 31), (.fa 2 (.tmp 30)), .ptr, none⟩,
  ⟨none, (.st1 (.tmp 31) (.const (.int .i64 10))), .any, none⟩] [])
 (.seq (.ops [⟨(some 4), (.mv (.const (.slice none 0 0))), .sl, none⟩] [4])
 .ret))
 .skip))
 (.seq (.ops [⟨(some 5), (.mv (.const (.slice none 0 0))), .sl, none⟩] [1, 5, 0])
 (.seq (.seq (.ops [⟨(some 6), (.mv (.const (.int .i64 0))), (.int .i64), none⟩] [6, 1, 5, 0])
 (.block 0
 (.loop [(5, .sl), (6, (.int .i64))] [0, 1]
 (.seq (.seq (.ops [⟨(some 32), (.mv (.tmp 6)), (.int .i64), none⟩,
  ⟨(some 33), (.mv (.tmp 1)), (.int .i64), none⟩,
  ⟨(some 34), (.bin .lss (.tmp 32) (.tmp 33)), .bool, none⟩] [34, 5, 0, 6, 1])
 (.cond (.tmp 34)
 .skip
 (.exit 0)))
 (.seq (.block 1
 (.draw (.take 0 ⟨(some 37), (.mv (.tmp 5)), .sl, none⟩
  (.take 1 ⟨(some 38), (.mv (.tmp 0)), .ptr, none⟩
  (.take 2 ⟨(some 39), (.nc (.tmp 38)), .any, none⟩
  (.take 3 ⟨(some 40), (.fa 0 (.tmp 39)), .ptr, none⟩
  (.take 4 ⟨(some 41), (.ld1 (.tmp 40)), .sl, none⟩
  (.take 5 ⟨(some 42), (.mv (.tmp 0)), .ptr, none⟩
  (.take 6 ⟨(some 43), (.nc (.tmp 42)), .any, none⟩
  (.take 7 ⟨(some 44), (.fa 1 (.tmp 43)), .ptr, none⟩
  (.take 8 ⟨(some 45), (.ld1 (.tmp 44)), (.int .i64), none⟩
  (.take 9 ⟨(some 46), (.mv (.tmp 6)), (.int .i64), none⟩
  (.take 10 ⟨(some 47), (.bin .add (.tmp 45) (.tmp 46)), (.int .i64), none⟩
  (.take 11 ⟨(some 48), (.ia 1 (.tmp 41) (.tmp 47)), .ptr, none⟩
  (.take 12 ⟨(some 49), (.ld1 (.tmp 48)), (.int .u8), none⟩
  (.go 13 ⟨(some 50), (.bldS 5 1 1 [(0, (.tmp 49))]), .sl, none⟩ []
  (.go 14 ⟨(some 51), (.app #[22, 22] 22 (.tmp 37) (.tmp 50)), .sl, none⟩ []
  (.take 15 ⟨(some 5), (.mv (.tmp 51)), .sl, none⟩
  .done)))))))))))))))) [6, 1, 5, 0]))
 (.ops [⟨(some 35), (.mv (.tmp 6)), (.int .i64), none⟩,
  ⟨(some 36), (.bin .add (.tmp 35) (.const (.int .i64 1))), (.int .i64), none⟩,
  ⟨(some 6), (.mv (.tmp 36)), (.int .i64), none⟩] [6, 1, 5, 0]))))))
 (.seq (.ops [⟨(some 52), (.mv (.tmp 0)), .ptr, none⟩,
  ⟨(some 53), (.mv (.tmp 0)), .ptr, none⟩,
  ⟨(some 54), (.nc (.tmp 53)), .any, none⟩,
  ⟨(some 55), (.fa 1 (.tmp 54)), .ptr, none⟩,
  ⟨(some 56), (.ld1 (.tmp 55)), (.int .i64), none⟩,
  ⟨(some 57), (.mv (.tmp 1)), (.int .i64), none⟩,
  ⟨(some 58), (.bin .add (.tmp 56) (.tmp 57)), (.int .i64), none⟩,
  ⟨(some 59), (.nc (.tmp 52)), .any, none⟩,
  ⟨(some 60), (.fa 1 (.tmp 59)), .ptr, none⟩,
  ⟨none, (.st1 (.tmp 60) (.tmp 58)), .any, none⟩] [5])
 (.seq (.ops [⟨(some 61), (.mv (.tmp 5)), .sl, none⟩,
  ⟨(some 4), (.mv (.tmp 61)), .sl, none⟩] [4])
 .ret))))))))
def r112 : List Res := [.t 4]
theorem tr112 : trS Tryd.prog [] 62 (Tryd.f112.body.getD .skip) s112 = some s112 := by kernel_rfl
theorem den112 (args : List Value) (w : World) (R : Ending → World → Prop) (hn : args.length ≤ 62) (h : denS Tryd.prog s112 (argsEnv 0 args) w (endK r112 R)) : Calls Tryd.prog 112 args.toArray w R :=
  calls_of_den (pn := []) (fn := Tryd.f112) (c := Tryd.f112.body.getD .skip) Tryd.func112 (by kernel_rfl) (by rw [Tryd.ntmps112]; exact hn) (by rw [Tryd.ntmps112]; exact tr112) (by kernel_rfl) h
def d112 (r0 : Option Addr) (n1 : Int) (w : World) (R : Ending → World → Prop) : Prop :=
 optK r0 fun a2 =>
 ∃ x3 : Int, World.cell? w (Addr.add a2 2) = some (.int .i64 x3) ∧
 (bif (!decide (x3 = 0)) then
 (R (.returned (.slice none 0 0)) w)
 else
 ((bif (decide (n1 < 0)) then
 (optK r0 fun a4 =>
 one (.int .i64 11) = true ∧ Option.isSome (World.cell? w (Addr.add a4 2)) = true ∧ World.frozen? w (Addr.add a4 2) = false ∧
 ∀ w5 : World, w5 = World.setCell w (Addr.add a4 2) (.int .i64 11) →
 R (.returned (.slice none 0 0)) w5)
 else
 (∀ w6 : World, w6 = World.drew w →
 optK r0 fun a7 =>
 ∃ (x8 : Option Addr) (x8n : Nat) (x8c : Nat), World.cell? w6 (Addr.add a7 0) = some (.slice x8 x8n x8c) ∧
 optK r0 fun a9 =>
 ∃ x10 : Int, World.cell? w6 (Addr.add a9 1) = some (.int .i64 x10) ∧
 (bif (decide ((IntKind.wrap .i64 (((x8n : Nat) : Int) - x10)) < n1)) then
 (optK r0 fun a11 =>
 one (.int .i64 10) = true ∧ Option.isSome (World.cell? w6 (Addr.add a11 2)) = true ∧ World.frozen? w6 (Addr.add a11 2) = false ∧
 ∀ w12 : World, w12 = World.setCell w6 (Addr.add a11 2) (.int .i64 10) →
 R (.returned (.slice none 0 0)) w12)
 else
 (∃ I13 : Nat → Option Addr → Nat → Nat → Int → World → Prop,
 (∃ m, I13 m none 0 0 0 w6) ∧
 (∀ (m14 : Nat) (w15 : World) (l16 : Option Addr) (l16n : Nat) (l16c : Nat) (i17 : Int), I13 m14 l16 l16n l16c i17 w15 →
 (bif (decide (i17 < n1)) then
 (∀ w18 : World, w18 = World.drew w15 →
 optK r0 fun a19 =>
 ∃ (x20 : Option Addr) (x20n : Nat) (x20c : Nat), World.cell? w18 (Addr.add a19 0) = some (.slice x20 x20n x20c) ∧
 optK r0 fun a21 =>
 ∃ x22 : Int, World.cell? w18 (Addr.add a21 1) = some (.int .i64 x22) ∧
 0 ≤ (IntKind.wrap .i64 (x22 + i17)) ∧ (IntKind.wrap .i64 (x22 + i17)) < ((x20n : Nat) : Int) ∧ optK x20 fun a23 =>
 ∃ x24 : Int, World.cell? w18 (Addr.add a23 (Int.toNat (IntKind.wrap .i64 (x22 + i17)) * 1)) = some (.int .u8 x24) ∧
 ∃ cs25, fillL (.elems 1) (zrep (zc Tryd.prog 5) (1 * 1)) [(0, (.int .u8 x24))] = some cs25 ∧
 ∀ w26 : World, w26 = World.alloc w18 (.cells (List.toArray cs25) 5) →
 RunV Tryd.prog (Builtin.append_ #[22, 22] 22 #[(.slice l16 l16n l16c), (.slice (some ⟨World.heap w18 |>.size, 0, none⟩) 1 1)]) w26 fun v27 w28 => ∃ (x29 : Option Addr) (x29n : Nat) (x29c : Nat), v27 = (.slice x29 x29n x29c) ∧
 ∃ m30, m30 < m14 ∧ I13 m30 x29 x29n x29c (IntKind.wrap .i64 (i17 + 1)) w28)
 else
 (optK r0 fun a31 =>
 ∃ x32 : Int, World.cell? w15 (Addr.add a31 1) = some (.int .i64 x32) ∧
 optK r0 fun a33 =>
 one (.int .i64 (IntKind.wrap .i64 (x32 + n1))) = true ∧ Option.isSome (World.cell? w15 (Addr.add a33 1)) = true ∧ World.frozen? w15 (Addr.add a33 1) = false ∧
 ∀ w34 : World, w34 = World.setCell w15 (Addr.add a33 1) (.int .i64 (IntKind.wrap .i64 (x32 + n1))) →
 R (.returned (.slice l16 l16n l16c)) w34)))))))))
theorem e112 (r0 : Option Addr) (n1 : Int) (w : World) (R : Ending → World → Prop) : denS Tryd.prog s112 (argsEnv 0 [(.pointer r0), (.int .i64 n1)]) w (endK r112 R) = d112 r0 n1 w R := by kernel_rfl
theorem c112 (r0 : Option Addr) (n1 : Int) {w : World} {R : Ending → World → Prop} (h : d112 r0 n1 w R) : Calls Tryd.prog 112 #[(.pointer r0), (.int .i64 n1)] w R :=
  den112 [(.pointer r0), (.int .i64 n1)] w R (by simp) ((e112 r0 n1 w R).symm ▸ h)

/-- (*prelude/preluderef01.Reader).Fail -/
def s82 : S := (.seq (.ops [⟨(some 4), (.mv (.tmp 0)), .ptr, none⟩,
  ⟨(some 5), (.nc (.tmp 4)), .any, none⟩,
  ⟨(some 6), (.fa 2 (.tmp 5)), .ptr, none⟩,
  ⟨(some 7), (.ld1 (.tmp 6)), (.int .i64), none⟩,
  ⟨(some 8), (.bin .eql (.tmp 7) (.const (.int .i64 0))), .bool, none⟩] [8, 0, 1])
 (.cond (.tmp 8)
 (.ops [⟨(some 9), (.mv (.tmp 0)), .ptr, none⟩,
  ⟨(some 10), (.mv (.tmp 1)), (.int .i64), none⟩,
  ⟨(some 11), (.nc (.tmp 9)), .any, none⟩,
  ⟨(some 12), (.fa 2 (.tmp 11)), .ptr, none⟩,
  ⟨none, (.st1 (.tmp 12) (.tmp 10)), .any, none⟩] [])
 .skip))
def r82 : List Res := []
theorem tr82 : trS Tryd.prog [] 13 (Tryd.f82.body.getD .skip) s82 = some s82 := by kernel_rfl
theorem den82 (args : List Value) (w : World) (R : Ending → World → Prop) (hn : args.length ≤ 13) (h : denS Tryd.prog s82 (argsEnv 0 args) w (endK r82 R)) : Calls Tryd.prog 82 args.toArray w R :=
  calls_of_den (pn := []) (fn := Tryd.f82) (c := Tryd.f82.body.getD .skip) Tryd.func82 (by kernel_rfl) (by rw [Tryd.ntmps82]; exact hn) (by rw [Tryd.ntmps82]; exact tr82) (by kernel_rfl) h
def d82 (r0 : Option Addr) (e1 : Int) (w : World) (R : Ending → World → Prop) : Prop :=
 optK r0 fun a2 =>
 ∃ x3 : Int, World.cell? w (Addr.add a2 2) = some (.int .i64 x3) ∧
 (bif (decide (x3 = 0)) then
 (optK r0 fun a4 =>
 one (.int .i64 e1) = true ∧ Option.isSome (World.cell? w (Addr.add a4 2)) = true ∧ World.frozen? w (Addr.add a4 2) = false ∧
 ∀ w5 : World, w5 = World.setCell w (Addr.add a4 2) (.int .i64 e1) →
 R (.returned (.tuple #[])) w5)
 else
 (R (.returned (.tuple #[])) w))
theorem e82 (r0 : Option Addr) (e1 : Int) (w : World) (R : Ending → World → Prop) : denS Tryd.prog s82 (argsEnv 0 [(.pointer r0), (.int .i64 e1)]) w (endK r82 R) = d82 r0 e1 w R := by kernel_rfl
theorem c82 (r0 : Option Addr) (e1 : Int) {w : World} {R : Ending → World → Prop} (h : d82 r0 e1 w R) : Calls Tryd.prog 82 #[(.pointer r0), (.int .i64 e1)] w R :=
  den82 [(.pointer r0), (.int .i64 e1)] w R (by simp) ((e82 r0 e1 w R).symm ▸ h)

/-- (*prelude/preluderef01.Reader).End -/
def s52 : S := (.seq (.ops [⟨(some 2), (.mv (.const (.int .i64 0))), (.int .i64), none⟩] [0])
 (.seq (.seq (.draw (.take 0 ⟨(some 3), (.mv (.tmp 0)), .ptr, none⟩
  (.take 1 ⟨(some 4), (.nc (.tmp 3)), .any, none⟩
  (.take 2 ⟨(some 5), (.fa 2 (.tmp 4)), .ptr, none⟩
  (.take 3 ⟨(some 6), (.ld1 (.tmp 5)), (.int .i64), none⟩
  (.take 4 ⟨(some 7), (.bin .eql (.tmp 6) (.const (.int .i64 0))), .bool, none⟩
  (.take 5 ⟨(some 8), (.mv (.tmp 7)), .bool, none⟩
  (.take 6 ⟨(some 9), (.mv (.tmp 0)), .ptr, (some (8, true))⟩
  (.take 7 ⟨(some 10), (.nc (.tmp 9)), .any, (some (8, true))⟩
  (.take 8 ⟨(some 11), (.fa 1 (.tmp 10)), .ptr, (some (8, true))⟩
  (.take 9 ⟨(some 12), (.ld1 (.tmp 11)), (.int .i64), (some (8, true))⟩
  (.take 10 ⟨(some 13), (.mv (.tmp 0)), .ptr, (some (8, true))⟩
  (.take 11 ⟨(some 14), (.nc (.tmp 13)), .any, (some (8, true))⟩
  (.take 12 ⟨(some 15), (.fa 0 (.tmp 14)), .ptr, (some (8, true))⟩
  (.take 13 ⟨(some 16), (.ld1 (.tmp 15)), .sl, (some (8, true))⟩
  (.take 14 ⟨(some 17), (.len (.tmp 16)), (.int .i64), (some (8, true))⟩
  (.take 15 ⟨(some 18), (.bin .lss (.tmp 12) (.tmp 17)), .bool, (some (8, true))⟩
  (.take 16 ⟨(some 19), (.pick (.tmp 8) (.tmp 18) (.const (.bool false))), .bool, none⟩
  .done))))))))))))))))) [19, 0])
 (.cond (.tmp 19)
 (.seq (.ops [⟨(some 2), (.mv (.const (.int .i64 11))), (.int .i64), none⟩] [2])
 .ret)
 .skip))
 (.seq (.ops [⟨(some 20), (.mv (.tmp 0)), .ptr, none⟩,
  ⟨(some 21), (.nc (.tmp 20)), .any, none⟩,
  ⟨(some 22), (.fa 2 (.tmp 21)), .ptr, none⟩,
  ⟨(some 23), (.ld1 (.tmp 22)), (.int .i64), none⟩,
  ⟨(some 2), (.mv (.tmp 23)), (.int .i64), none⟩] [2])
 .ret)))
def r52 : List Res := [.t 2]
theorem tr52 : trS Tryd.prog [] 24 (Tryd.f52.body.getD .skip) s52 = some s52 := by kernel_rfl
theorem den52 (args : List Value) (w : World) (R : Ending → World → Prop) (hn : args.length ≤ 24) (h : denS Tryd.prog s52 (argsEnv 0 args) w (endK r52 R)) : Calls Tryd.prog 52 args.toArray w R :=
  calls_of_den (pn := []) (fn := Tryd.f52) (c := Tryd.f52.body.getD .skip) Tryd.func52 (by kernel_rfl) (by rw [Tryd.ntmps52]; exact hn) (by rw [Tryd.ntmps52]; exact tr52) (by kernel_rfl) h
def d52 (r0 : Option Addr) (w : World) (R : Ending → World → Prop) : Prop :=
 ∀ w1 : World, w1 = World.drew w →
 optK r0 fun a2 =>
 ∃ x3 : Int, World.cell? w1 (Addr.add a2 2) = some (.int .i64 x3) ∧
 (bif (decide (x3 = 0)) then
 (optK r0 fun a4 =>
 ∃ x5 : Int, World.cell? w1 (Addr.add a4 1) = some (.int .i64 x5) ∧
 optK r0 fun a6 =>
 ∃ (x7 : Option Addr) (x7n : Nat) (x7c : Nat), World.cell? w1 (Addr.add a6 0) = some (.slice x7 x7n x7c) ∧
 (bif (decide (x5 < ((x7n : Nat) : Int))) then
 (R (.returned (.int .i64 11)) w1)
 else
 (optK r0 fun a8 =>
 ∃ x9 : Int, World.cell? w1 (Addr.add a8 2) = some (.int .i64 x9) ∧
 R (.returned (.int .i64 x9)) w1)))
 else
 (optK r0 fun a10 =>
 ∃ x11 : Int, World.cell? w1 (Addr.add a10 2) = some (.int .i64 x11) ∧
 R (.returned (.int .i64 x11)) w1))
theorem e52 (r0 : Option Addr) (w : World) (R : Ending → World → Prop) : denS Tryd.prog s52 (argsEnv 0 [(.pointer r0)]) w (endK r52 R) = d52 r0 w R := by kernel_rfl
theorem c52 (r0 : Option Addr) {w : World} {R : Ending → World → Prop} (h : d52 r0 w R) : Calls Tryd.prog 52 #[(.pointer r0)] w R :=
  den52 [(.pointer r0)] w R (by simp) ((e52 r0 w R).symm ▸ h)

end Go.Proofs.YtjchneebdlncfaaDoor.Fn
namespace Go.Proofs.YtjchneebdlncfaaDoor.Lib
open Go Den Fn
open Go.RowKit (Below)
set_option maxRecDepth 8000
set_option maxHeartbeats 1000000
theorem tmod128 (n : Nat) : IntKind.wrap .u8 (IntKind.wrap .u8 (Int.tmod (n : Int) 128) + 128) = ((n % 128 + 128 : Nat) : Int) := by
  rw [show Int.tmod (n : Int) 128 = ((n % 128 : Nat) : Int) from tmod_nat n 128, wrap_u8 (n := ((n % 128 : Nat) : Int)) (by omega) (by omega), wrap_u8 (by omega) (by omega)]
  omega
theorem refUint_c (w : World) (n : Nat) (hn : n < 18446744073709551616) :
    Calls Tryd.prog 40 #[.int .u64 n] w fun e w' => ∃ a c, e = .returned (.slice a (uv n).length c) ∧ w'.ownsRow w.heap.size 5 1 (.slice a (uv n).length c) (uv n).length (u8 (uv n)) ∧ Tch [] w w' := by
  refine c40 _ ?_
  unfold d40
  refine ⟨fun m x a k c w' => ∃ (q : Nat) (pre : List Int), x = q ∧ m = q ∧ q < 18446744073709551616 ∧ uv n = pre ++ uv q ∧ k = pre.length ∧ w'.ownsRow w.heap.size 5 1 (.slice a k c) k (u8 pre) ∧ Tch [] w w', ⟨n, n, [], rfl, rfl, hn, rfl, rfl, own_nil _ _ _ _, Tch.refl _ _⟩, ?_⟩
  rintro m w3 x a k c ⟨q, pre, rfl, rfl, hq, hu, rfl, hown, ht⟩
  have hl10 := (uv_len10 hn).2
  have hl1 := (uv_len10 hq).1
  rw [hu, List.length_append] at hl10
  have hsz := ht.size
  have hrow := rowL_ge hown
  by_cases h1 : 128 ≤ m
  · rw [bif_pos (by omega)]
    refine ⟨by omega, ?_⟩
    refine app_elem_at bT hown (by rw [zc8]; rfl) (ys := u8 [((m % 128 + 128 : Nat) : Int)]) (by rw [tmod128]; rfl) rfl ones_ints hsz (by omega) (by omega) fun a' c' w9 k1 k2 k3 => ?_
    rw [← List.map_append] at k1
    refine ⟨by omega, ?_⟩
    rw [show Int.tdiv (m : Int) 128 = ((m / 128 : Nat) : Int) from tdiv_nat m 128, wrap_u64 (by omega) (by omega)]
    refine ⟨m / 128, by omega, m / 128, pre ++ [((m % 128 + 128 : Nat) : Int)], rfl, rfl, by omega, ?_, by simp, k1, ht.trans k2 fun i hi => .inr (hrow i hi).1⟩
    rw [hu, uv_hi h1, List.append_assoc]
    rfl
  · rw [bif_neg (by omega)]
    refine app_elem_at bT hown (by rw [zc8]; rfl) (ys := u8 [(m : Int)]) (by rw [wrap_u8 (by omega) (by omega)]; rfl) rfl ones_ints hsz (by omega) (by omega) fun a' c' w9 k1 k2 k3 => ?_
    rw [← List.map_append] at k1
    have hu' : uv n = pre ++ [(m : Int)] := by rw [hu, uv_lo (by omega)]
    rw [hu']
    refine ⟨a', c', by simp, by simpa using k1, ht.trans k2 fun i hi => .inr (hrow i hi).1⟩
theorem refFold_c (w : World) (n : Int) (hn : I64 n) : Calls Tryd.prog 93 #[.int .i64 n] w fun e w' => e = .returned (.int .u64 (fold n)) ∧ w' = w := by
  refine c93 _ ?_
  unfold d93 fold
  unfold I64 at hn
  by_cases h0 : 0 ≤ n
  · rw [bif_pos h0, if_pos h0, wrap_u64 (n := n) (by omega) (by omega), wrap_u64 (by omega) (by omega)]
    refine ⟨?_, rfl⟩
    rw [show 2 * n = ((2 * n.toNat : Nat) : Int) by omega]
  · rw [bif_neg h0, if_neg h0, wrap_i64 (by omega) (by omega), wrap_u64 (n := -1 - n) (by omega) (by omega), wrap_u64 (n := 2 * (-1 - n)) (by omega) (by omega), wrap_u64 (by omega) (by omega)]
    refine ⟨?_, rfl⟩
    rw [show 2 * (-1 - n) + 1 = ((2 * (-1 - n).toNat + 1 : Nat) : Int) by omega]
theorem refInt_c (w : World) (n : Int) (hn : I64 n) :
    Calls Tryd.prog 73 #[.int .i64 n] w fun e w' => ∃ a c, e = .returned (.slice a (iv n).length c) ∧ w'.ownsRow w.heap.size 5 1 (.slice a (iv n).length c) (iv n).length (u8 (iv n)) ∧ Tch [] w w' := by
  refine c73 _ ?_
  unfold d73
  refine (refFold_c w n hn).mono ?_
  rintro e w2 ⟨rfl, rfl⟩
  refine ⟨_, rfl, ?_⟩
  refine (refUint_c w2 (fold n) (fold_range hn)).mono ?_
  rintro e w5 ⟨a, c, rfl, h1, h2⟩
  exact ⟨_, _, _, rfl, a, c, rfl, h1, h2⟩
theorem num_add {bs : List Int} {k : Nat} (hk : k ≤ 9) (h9 : k = 9 → (bs.getD k 0).toNat % 128 ≤ 1) :
    IntKind.wrap .u64 (((numA bs k : Nat) : Int) + (((bs.getD k 0).toNat % 128 * 2 ^ (7 * k) : Nat) : Int)) = ((numA bs (k + 1) : Nat) : Int) := by
  have hlt := sum_lt hk h9
  have e : numA bs k + (bs.getD k 0).toNat % 128 * 2 ^ (7 * k) = numA bs (k + 1) := rfl
  rw [← Int.natCast_add, e]
  exact wrap_u64 (by omega) (by omega)
theorem refNumber_c (w : World) (bs : List Int) (a : Option Addr) (n c : Nat) (hr : RSl w 1 a n c (u8 bs)) (hB : Bytes bs) (hN : n ≤ 140737488355328) :
    Calls Tryd.prog 100 #[.slice a n c] w fun e w' => e = .returned (.tuple #[.int .u64 (number bs).1, .int .i64 (number bs).2.1, .int .i64 (number bs).2.2]) ∧ w' = w := by
  have hn := u8_len hr
  refine c100 _ _ _ ?_
  unfold d100
  refine ⟨fun m x y w' => ∃ k : Nat, k ≤ 9 ∧ y = k ∧ x = ((numA bs k : Nat) : Int) ∧ m = 10 - k ∧ (∀ i, i < k → numOn bs i) ∧ w' = w, ⟨10, 0, by omega, rfl, rfl, rfl, fun i hi => by omega, rfl⟩, ?_⟩
  rintro m w4 x y ⟨k, hk9, rfl, rfl, rfl, hon, rfl⟩
  have hkn : k ≤ n := by
    by_cases h0 : k = 0
    · omega
    · have := (hon (k - 1) (by omega)).1; omega
  rw [bif_pos (by omega)]
  by_cases hs : n ≤ k
  · rw [bif_pos (by omega), number_short (k := k) (by omega) hon (by omega)]
    exact ⟨rfl, rfl⟩
  rw [bif_neg (by omega)]
  have hc := byte_of hB k
  have hel : ∀ {K : Int → Prop}, K (bs.getD k 0) → 0 ≤ (k : Int) ∧ (k : Int) < ((n : Nat) : Int) ∧ optK a fun x => ∃ y : Int, World.cell? w4 (Addr.add x (Int.toNat (k : Int) * 1)) = some (.int .u8 y) ∧ K y := by
    intro K hK
    refine ⟨by omega, by omega, ?_⟩
    rw [Int.toNat_natCast]
    exact elem8 hr (by omega) hK
  by_cases hf : (k = 9 ∧ 1 < bs.getD k 0) ∨ (0 < k ∧ bs.getD k 0 = 0)
  · refine ⟨fun _ => False, ?_, fun _ h => h.elim⟩
    rw [number_form (k := k) (by omega) hon (by omega) hf]
    rcases hf with ⟨h1, h2⟩ | ⟨h1, h2⟩
    · rw [bif_pos (by omega)]
      refine hel ?_
      rw [bif_pos h2]
      exact ⟨rfl, rfl⟩
    · by_cases h9 : k = 9
      · rw [bif_pos (by omega)]
        refine hel ?_
        rw [bif_neg (by omega), bif_pos (by omega)]
        refine hel ?_
        rw [bif_pos h2]
        exact ⟨rfl, rfl⟩
      · rw [bif_neg (by omega), bif_pos (by omega)]
        refine hel ?_
        rw [bif_pos h2]
        exact ⟨rfl, rfl⟩
  have h9 : k = 9 → (bs.getD k 0).toNat % 128 ≤ 1 := fun h9 => by
    have : ¬ 1 < bs.getD k 0 := fun h => hf (.inl ⟨h9, h⟩)
    omega
  refine ⟨fun w' => w' = w4, ?_, ?_⟩
  · by_cases h9' : k = 9
    · rw [bif_pos (by omega)]
      refine hel ?_
      rw [bif_neg (fun h => hf (.inl ⟨h9', h⟩)), bif_pos (by omega)]
      refine hel ?_
      rw [bif_neg (fun h => hf (.inr ⟨by omega, h⟩))]
    · rw [bif_neg (by omega)]
      by_cases h0 : 0 < k
      · rw [bif_pos (by omega)]
        refine hel ?_
        rw [bif_neg (fun h => hf (.inr ⟨h0, h⟩))]
      · rw [bif_neg (by omega)]
  rintro w14 rfl
  refine hel ?_
  rw [wrap_i64 (n := 7 * (k : Int)) (by omega) (by omega), show Int.tmod (bs.getD k 0) 128 = (((bs.getD k 0).toNat % 128 : Nat) : Int) by
    obtain ⟨q, hq⟩ := Int.eq_ofNat_of_zero_le hc.1
    rw [hq, Int.toNat_natCast]
    exact tmod_nat q 128,
    wrap_u64 (n := (((bs.getD k 0).toNat % 128 : Nat) : Int)) (by omega) (by omega), show 7 * (k : Int) = ((7 * k : Nat) : Int) by omega, shl7 hk9 (by omega) h9, num_add hk9 h9]
  refine ⟨by omega, by omega, hel ?_⟩
  by_cases hlt : bs.getD k 0 < 128
  · rw [bif_pos hlt, number_ok (k := k) (by omega) hon (by omega) hf hlt, wrap_i64 (by omega) (by omega)]
    exact ⟨rfl, rfl⟩
  · rw [bif_neg hlt, wrap_i64 (by omega) (by omega)]
    have hk8 : k ≠ 9 := fun h => by have := h9 h; have : ¬ 1 < bs.getD k 0 := fun h' => hf (.inl ⟨h, h'⟩); omega
    refine ⟨10 - (k + 1), by omega, k + 1, by omega, by omega, rfl, rfl, fun i hi => ?_, rfl⟩
    by_cases hik : i = k
    · subst hik; exact ⟨by omega, hf, hlt⟩
    · exact hon i (by omega)
theorem rUpto_max {bs : List Int} (hB : Bytes bs) (p : Nat) (e : Int) : rUpto bs 18446744073709551615 p e = if e ≠ 0 then (0, p, e) else ((number (bs.drop p)).1, p + (number (bs.drop p)).2.1, (number (bs.drop p)).2.2) := by
  unfold rUpto
  split
  · rfl
  · have hr := (number_range (hB.drop p)).1
    rw [if_neg (show ¬ 18446744073709551615 < (number (bs.drop p)).1 by omega)]
    rcases number_cases (hB.drop p) with h | h | ⟨k, h1, h2, h3, h4, h5, h⟩ <;> rw [h] <;> simp
theorem refUintR_c (w : World) (b n c p : Nat) (a : Option Addr) (bs : List Int) (e : Int) (h : Rd w b a n c bs p e) :
    Calls Tryd.prog 85 #[.pointer (some ⟨b, 0, none⟩)] w fun en w' => en = .returned (.int .u64 (rUpto bs 18446744073709551615 p e).1) ∧ RdR w w' b a n c bs (rUpto bs 18446744073709551615 p e).2 := by
  refine c85 _ ?_
  unfold d85
  rw [rUpto_max h.B]
  have hr := number_range (h.B.drop p)
  have hn := h.len
  have hN := h.N
  have hple := h.le
  rw [List.length_drop] at hr
  refine h.err ?_
  by_cases he : e = 0
  rotate_left
  · rw [bif_nneg he, if_pos he]
    exact ⟨rfl, h.refl⟩
  subst he
  rw [bif_npos rfl, if_neg (show ¬ (0 : Int) ≠ 0 by omega)]
  rintro w3 rfl
  have ht := (Tch.refl [] w).drew
  replace h := h.quiet ht
  generalize w.drew = w3 at *
  refine h.slice (h.at ⟨by omega, by omega, ?_⟩)
  rw [Int.toNat_natCast]
  have hc := h.row.cut (l := p) (hh := n) (by omega) (by omega)
  rw [List.take_of_length_le (by rw [List.length_drop]; omega)] at hc
  refine (refNumber_c w3 (bs.drop p) _ _ _ hc (h.B.drop p) (by omega)).mono ?_
  rintro en w9 ⟨rfl, rfl⟩
  refine ⟨_, _, _, rfl, _, rfl, _, rfl, _, rfl, ?_⟩
  refine h.setErr _ fun w' hw => ?_
  refine hw.1.at (hw.1.setAt (q := p + (number (bs.drop p)).2.1) ?_ (by omega) fun w2 hw2 => ⟨rfl, RdR.pre ht (hw.trans hw2)⟩)
  rw [wrap_i64 (by omega) (by omega)]
  simp
theorem refUpto_c (w : World) (b n c p : Nat) (a : Option Addr) (bs : List Int) (e : Int) (most : Nat) (h : Rd w b a n c bs p e) :
    Calls Tryd.prog 51 #[.pointer (some ⟨b, 0, none⟩), .int .u64 most] w fun en w' => en = .returned (.int .u64 (rUpto bs most p e).1) ∧ RdR w w' b a n c bs (rUpto bs most p e).2 := by
  refine c51 _ _ ?_
  unfold d51
  have hB := h.B
  have hple := h.le
  refine h.at ?_
  refine (refUintR_c w b n c p a bs e h).mono ?_
  rintro en w5 ⟨rfl, hw⟩
  have hm := rUpto_max h.B p e
  have hnc := number_cases (h.B.drop p)
  refine ⟨_, rfl, ?_⟩
  have key : rUpto bs most p e = if (rUpto bs 18446744073709551615 p e).2.2 = 0 ∧ most < (rUpto bs 18446744073709551615 p e).1 then (0, p, 12) else rUpto bs 18446744073709551615 p e := by
    rw [hm]
    unfold rUpto
    by_cases he : e = 0
    · subst he
      rw [if_neg (show ¬ (0 : Int) ≠ 0 by omega), if_neg (show ¬ (0 : Int) ≠ 0 by omega)]
      rcases hnc with h | h | ⟨k, h1, h2, h3, h4, h5, h⟩ <;> rw [h] <;> simp
    · rw [if_pos he, if_pos he, if_neg (fun h => he h.1)]
  rw [key]
  generalize rUpto bs 18446744073709551615 p e = u at *
  obtain ⟨v, q, k⟩ := u
  by_cases h0 : k = 0
  · refine ⟨fun x w' => x = decide (most < v) ∧ w' = w5, ?_, ?_⟩
    · refine hw.1.err ?_
      rw [bif_pos h0]
      refine ⟨?_, rfl⟩
      simp
    · rintro w10 x ⟨rfl, rfl⟩
      by_cases hv : most < v
      · rw [decide_eq_true hv, cond_true, if_pos ⟨h0, hv⟩]
        refine hw.1.setErr _ fun w' hw' => hw'.1.setAt rfl hple fun w2 hw2 => ⟨rfl, (hw.trans hw').trans hw2⟩
      · rw [decide_eq_false hv, cond_false, if_neg (fun h => hv h.2)]
        exact ⟨rfl, hw⟩
  · refine ⟨fun x w' => x = false ∧ w' = w5, ?_, ?_⟩
    · refine hw.1.err ?_
      rw [bif_neg h0]
      exact ⟨rfl, rfl⟩
    · rintro w10 x ⟨rfl, rfl⟩
      rw [cond_false, if_neg (fun h => h0 h.1)]
      exact ⟨rfl, hw⟩
theorem refUnfold_c (w : World) (u : Nat) (hu : u < 18446744073709551616) : Calls Tryd.prog 111 #[.int .u64 u] w fun e w' => e = .returned (.int .i64 (unfold' u)) ∧ w' = w := by
  refine c111 _ ?_
  unfold d111 unfold'
  rw [show Int.tmod (u : Int) 2 = ((u % 2 : Nat) : Int) from tmod_nat u 2, show Int.tdiv (u : Int) 2 = ((u / 2 : Nat) : Int) from tdiv_nat u 2, wrap_u64 (n := ((u / 2 : Nat) : Int)) (by omega) (by omega), wrap_i64 (n := ((u / 2 : Nat) : Int)) (by omega) (by omega), wrap_i64 (n := -1 - ((u / 2 : Nat) : Int)) (by omega) (by omega)]
  refine ⟨by omega, ?_⟩
  by_cases h : u % 2 = 0
  · rw [bif_pos (by omega), if_pos h]
    exact ⟨by omega, rfl, rfl⟩
  · rw [bif_neg (by omega), if_neg h]
    exact ⟨by omega, rfl, rfl⟩
theorem refIntR_c (w : World) (b n c p : Nat) (a : Option Addr) (bs : List Int) (e : Int) (h : Rd w b a n c bs p e) :
    Calls Tryd.prog 98 #[.pointer (some ⟨b, 0, none⟩)] w fun en w' => en = .returned (.int .i64 (rInt bs p e).1) ∧ RdR w w' b a n c bs (rInt bs p e).2 := by
  refine c98 _ ?_
  unfold d98
  refine (refUintR_c w b n c p a bs e h).mono ?_
  rintro en w' ⟨rfl, hw⟩
  have hr : (rUpto bs 18446744073709551615 p e).1 < 18446744073709551616 := by
    have := (rUpto_le (bs := bs) (e := e) (most := 18446744073709551615) h.B (by rw [h.len]; exact h.le)).2.2
    omega
  refine ⟨_, rfl, ?_⟩
  refine (refUnfold_c w' _ hr).mono ?_
  rintro en w2 ⟨rfl, rfl⟩
  exact ⟨_, rfl, rfl, hw⟩
theorem refRaw_c (w : World) (b n c p : Nat) (a : Option Addr) (bs : List Int) (e : Int) (k : Int) (h : Rd w b a n c bs p e) :
    Calls Tryd.prog 112 #[.pointer (some ⟨b, 0, none⟩), .int .i64 k] w fun en w' => ∃ xa xc, en = .returned (.slice xa (rRaw bs k p e).1.length xc) ∧ RdR w w' b a n c bs (rRaw bs k p e).2 ∧
      w'.ownsRow w.heap.size 5 1 (.slice xa (rRaw bs k p e).1.length xc) (rRaw bs k p e).1.length (u8 (rRaw bs k p e).1) := by
  refine c112 _ _ ?_
  unfold d112
  have hn := h.len
  have hN := h.N
  have hple := h.le
  unfold rRaw
  refine h.err ?_
  by_cases he : e = 0
  rotate_left
  · rw [bif_nneg he, if_pos he]
    exact ⟨none, 0, rfl, h.refl, own_nil _ _ _ _⟩
  subst he
  rw [bif_npos rfl, if_neg (show ¬ (0 : Int) ≠ 0 by omega)]
  by_cases h0 : k < 0
  · rw [bif_pos h0, if_pos h0]
    exact h.setErr _ fun w' hw => ⟨none, 0, rfl, hw, own_nil _ _ _ _⟩
  rw [bif_neg h0, if_neg h0]
  rintro w6 rfl
  have ht := (Tch.refl [] w).drew
  have hs0 : w.drew.heap.size = w.heap.size := rfl
  replace h := h.quiet ht
  generalize w.drew = w6 at *
  refine h.slice (h.at ?_)
  rw [wrap_i64 (n := (n : Int) - (p : Int)) (by omega) (by omega)]
  by_cases hs : (n : Int) - p < k
  · rw [bif_pos hs, if_pos (by omega)]
    exact h.setErr _ fun w' hw => ⟨none, 0, rfl, RdR.pre ht hw, own_nil _ _ _ _⟩
  rw [bif_neg hs, if_neg (by omega)]
  obtain ⟨q, rfl⟩ := Int.eq_ofNat_of_zero_le (show 0 ≤ k by omega)
  have hl : ((bs.drop p).take q).length = q := by rw [List.length_take, List.length_drop]; omega
  refine ⟨fun m xa xn xc i w' => ∃ j : Nat, i = j ∧ j ≤ q ∧ m = q - j ∧ xn = j ∧ w'.ownsRow w.heap.size 5 1 (.slice xa xn xc) xn (u8 (((bs.drop p).take q).take j)) ∧ Tch [] w6 w', ⟨q, 0, rfl, by omega, rfl, rfl, own_nil _ _ _ _, Tch.refl _ _⟩, ?_⟩
  rintro m w15 xa xn xc i ⟨j, rfl, hj, rfl, rfl, hown, ht2⟩
  have h15 := h.quiet ht2
  have hsz := ht2.size
  by_cases hlt : xn < q
  · rw [bif_pos (by omega)]
    rintro w18 rfl
    have ht3 := ht2.drew
    have h18 := h15.quiet (Tch.refl [] w15).drew
    have hown2 := own_up hown (Tch.refl [] w15).drew (fun _ _ h => by cases h)
    have hs18 : w15.drew.heap.size = w15.heap.size := rfl
    generalize w15.drew = w18 at *
    refine h18.slice (h18.at ?_)
    rw [wrap_i64 (n := (p : Int) + (xn : Int)) (by omega) (by omega), show Int.toNat ((p : Int) + (xn : Int)) = p + xn by omega]
    refine ⟨by omega, by omega, elem8 h18.row (by omega) ?_⟩
    refine app_elem_at bT hown2 (by rw [zc8]; rfl) (ys := u8 [bs.getD (p + xn) 0]) rfl rfl ones_ints (by omega) (by omega) (by omega) fun a' c' w28 k1 k2 k3 => ?_
    rw [wrap_i64 (by omega) (by omega)]
    refine ⟨q - (xn + 1), by omega, xn + 1, by omega, by omega, rfl, rfl, ?_, ht3.trans k2 fun i hi => .inr ?_⟩
    · rw [← List.map_append] at k1
      rw [take_succ_getD (by omega), getD_take (by omega), getD_drop]
      exact k1
    · have := rowL_ge hown2 i hi; omega
  · rw [bif_neg (by omega)]
    obtain rfl : xn = q := by omega
    refine h15.at (h15.setAt (q := p + xn) ?_ (by omega) fun w' hw => ?_)
    · rw [wrap_i64 (by omega) (by omega)]; omega
    rw [Int.toNat_natCast, hl]
    rw [List.take_of_length_le (l := (bs.drop p).take xn) (by omega)] at hown
    refine ⟨xa, xc, rfl, RdR.pre ht (RdR.pre ht2 hw), own_up hown hw.2 fun k hk => ?_⟩
    have h1 := h.blk.lt
    have h2 := (own_lt hown hk).1
    intro hm
    simp at hm
    omega
theorem refFail_c (w : World) (b n c p : Nat) (a : Option Addr) (bs : List Int) (e k : Int) (h : Rd w b a n c bs p e) :
    Calls Tryd.prog 82 #[.pointer (some ⟨b, 0, none⟩), .int .i64 k] w fun en w' => en = .returned (.tuple #[]) ∧ RdR w w' b a n c bs (p, rFail k e) := by
  refine c82 _ _ ?_
  unfold d82 rFail
  refine h.err ?_
  by_cases he : e = 0
  · rw [bif_pos he, if_pos he]
    exact h.setErr _ fun w' hw => ⟨rfl, hw⟩
  · rw [bif_neg he, if_neg he]
    exact ⟨rfl, h.refl⟩
theorem refEnd_c (w : World) (b n c p : Nat) (a : Option Addr) (bs : List Int) (e : Int) (h : Rd w b a n c bs p e) :
    Calls Tryd.prog 52 #[.pointer (some ⟨b, 0, none⟩)] w fun en w' => en = .returned (.int .i64 (rEnd bs p e)) ∧ Tch [] w w' := by
  refine c52 _ ?_
  unfold d52 rEnd
  have hn := h.len
  rintro w1 rfl
  have ht := (Tch.refl [] w).drew
  replace h := h.quiet ht
  refine h.err ?_
  by_cases he : e = 0
  · rw [bif_pos he]
    refine h.at (h.slice ?_)
    by_cases hp : p < n
    · rw [bif_pos (by omega), if_pos ⟨he, by omega⟩]
      exact ⟨rfl, ht⟩
    · rw [bif_neg (by omega), if_neg (by omega)]
      exact h.err ⟨rfl, ht⟩
  · rw [bif_neg he, if_neg (fun h => he h.1)]
    exact h.err ⟨rfl, ht⟩
end Go.Proofs.YtjchneebdlncfaaDoor.Lib
namespace Go.Proofs.YtjchneebdlncfaaDoor.Lib
open Go Den Fn
open Go.RowKit (Below)
open Classical
set_option maxRecDepth 8000
set_option maxHeartbeats 2000000
def fourS (x : Int) : List Int := [IntKind.wrap .u8 x, IntKind.wrap .u8 (shR .u32 x 8), IntKind.wrap .u8 (shR .u32 x 16), IntKind.wrap .u8 (shR .u32 x 24)]
theorem fourS_bytes (x : Int) : Bytes (fourS x) := fun y hy => by
  simp only [fourS, List.mem_cons, List.not_mem_nil, or_false] at hy
  rcases hy with rfl | rfl | rfl | rfl <;> exact wrap_u8_byte _
def headS (kind : Int) (n : Nat) : List Int := [kind] ++ fourS (n : Int)
def sealS (kind : Int) (l : List Int) : List Int := if 16777216 < l.length then [] else headS kind l.length ++ fourS (crc (headS kind l.length)) ++ l ++ fourS (crc l)
/-- Bytes that a call hands back, its caller's own. -/
def OwnO (w : World) (r : List Int) (en : Ending) (w' : World) : Prop := ∃ a c, en = .returned (.slice a r.length c) ∧ w'.ownsRow w.heap.size 5 1 (.slice a r.length c) r.length (u8 r) ∧ Tch [] w w'
theorem OwnO.none {w w' : World} (ht : Tch [] w w') : OwnO w [] (.returned (.slice none 0 0)) w' := ⟨_, 0, rfl, own_nil _ _ _ _, ht⟩
theorem u8T : slT Tryd.prog 22 5 1 1 = true := by kernel_rfl
theorem zcU8 : zc Tryd.prog 5 = [.int .u8 0] := by kernel_rfl
/-- Rows of one's own, since a world; what is touched on the way lies beyond. -/
theorem since_own {w u u' : World} {B e size : Nat} {a : Option Addr} {n c : Nat} {xs : List Value} (ht : Tch [] w u) (ho : u.ownsRow B e size (.slice a n c) n xs) (hB : w.heap.size ≤ B) (h : Tch (rowL a) u u') : Tch [] w u' := ht.trans h fun k hk => .inr (by
  rw [mem_rowL] at hk
  obtain ⟨z, hz, rfl⟩ := hk
  have := (own_ge ho z hz).1
  omega)
theorem far_row {w u u' : World} {B e size : Nat} {a : Option Addr} {n c : Nat} {xs : List Value} {la : Option Addr} {ln lc : Nat} {l : List Int} (hl : ln = 0 ∨ ∀ x, la = some x → x.block < w.heap.size) (hr : RSl u 1 la ln lc (u8 l)) (ho : u.ownsRow B e size (.slice a n c) n xs) (hB : w.heap.size ≤ B) (h : Tch (rowL a) u u') : RSl u' 1 la ln lc (u8 l) :=
  hr.tch0 h (hl.imp id fun hl z hz hm => by
    rw [mem_rowL] at hm
    obtain ⟨y, hy, hyb⟩ := hm
    have := (own_ge ho y hy).1
    have := hl z hz
    omega)
theorem Tab.since {w u : World} (h : Tab w) (ht : Tch [] w u) : Tab u := h.tch ht (by simp)
theorem four_c (w : World) (B : Nat) (a : Option Addr) (n c : Nat) (xs : List Int) (x : Int) (ho : w.ownsRow B 5 1 (.slice a n c) n (u8 xs)) (hB : B ≤ w.heap.size) (hn : n ≤ 17000000) :
    Calls Tryd.prog 69 #[.slice a n c, .int .u32 x] w fun en w' => ∃ a' c', en = .returned (.slice a' (n + 4) c') ∧ w'.ownsRow B 5 1 (.slice a' (n + 4) c') (n + 4) (u8 (xs ++ fourS x)) ∧ Tch (rowL a) w w' := by
  refine c69 _ _ _ _ ?_
  unfold d69
  refine ⟨by omega, by omega, by omega, u8 (fourS x), by rw [zcU8]; rfl, ?_⟩
  rintro w3 rfl
  have hr : RSl (w.alloc (.cells (u8 (fourS x)).toArray 5)) 1 (some ⟨w.heap.size, 0, none⟩) 4 4 (u8 (fourS x)) := (Blk.fresh w 5 rfl).rsl (by simp [fourS]) ones_ints
  have t3 := (Tch.refl [] w).alloc (.cells (u8 (fourS x)).toArray 5)
  refine app_at u8T (own_up ho t3 (fun _ _ h => by cases h)) hr (by have := t3.size; omega) (by omega) (by omega) fun a' c' w5 ho' t5 _ => ?_
  refine ⟨a', c', rfl, ?_, (t3.weaken (by simp)).trans t5 fun k hk => .inl hk⟩
  rw [show u8 (xs ++ fourS x) = u8 xs ++ u8 (fourS x) by simp]
  exact ho'
theorem seal_c (w : World) (kind : Int) (hk : 0 ≤ kind ∧ kind < 256) (la : Option Addr) (n lc : Nat) (l : List Int) (hr : RSl w 1 la n lc (u8 l)) (hB : Bytes l) (hN : n ≤ 140737488355328) (hT : Tab w) :
    Calls Tryd.prog 33 #[.int .u8 kind, .slice la n lc] w (OwnO w (sealS kind l)) := by
  have hn := u8_len hr
  refine c33 _ _ _ _ ?_
  unfold d33
  unfold sealS
  by_cases hbig : 16777216 < n
  · rw [bif_pos (by omega), if_pos (by omega)]
    exact OwnO.none (Tch.refl _ _)
  rw [bif_neg (by omega), if_neg (by omega)]
  have hlow := hr.low (by omega)
  refine ⟨u8 [kind], by rw [zcU8]; rfl, ?_⟩
  rintro w3 rfl
  have o3 : (w.alloc (.cells (u8 [kind]).toArray 5)).ownsRow w.heap.size 5 1 (.slice (some ⟨w.heap.size, 0, none⟩) 1 1) 1 (u8 [kind]) := (BlkT.new w (u8 [kind]).toArray 5).own (Nat.le_refl _) rfl (by omega)
  have t3 := (Tch.refl [] w).alloc (.cells (u8 [kind]).toArray 5)
  generalize w.alloc (.cells (u8 [kind]).toArray 5) = w3 at *
  have s3 := t3.size
  rw [wrap_u32 (by omega) (by omega)]
  refine (four_c w3 w.heap.size _ 1 1 [kind] (n : Int) o3 s3 (by omega)).mono ?_
  rintro en w5 ⟨a5, c5, rfl, o5, t5⟩
  refine ⟨_, _, _, rfl, ?_⟩
  have q5 := since_own t3 o3 (Nat.le_refl _) t5
  have hr5 := far_row hlow (hr.tch t3 (fun _ _ h => by cases h)) o3 (Nat.le_refl _) t5
  have hhd : headS kind l.length = [kind] ++ fourS (n : Int) := by unfold headS; rw [hn]
  have hhB : Bytes (headS kind l.length) := by
    rw [hhd]
    intro y hy
    rcases List.mem_append.1 hy with hy | hy
    · rw [List.mem_singleton.1 hy]; exact hk
    · exact fourS_bytes _ y hy
  rw [← hhd] at o5
  refine (sum_c w5 (headS kind l.length) a5 _ c5 (own_rsl o5 ones_ints) hhB (by omega) (hT.since q5)).mono ?_
  rintro en w8 ⟨rfl, hw⟩
  rw [hw]
  clear hw
  refine ⟨_, rfl, ?_⟩
  refine (four_c w5 w.heap.size a5 _ c5 (headS kind l.length) (crc (headS kind l.length)) o5 q5.size (by omega)).mono ?_
  rintro en w11 ⟨a11, c11, rfl, o11, t11⟩
  refine ⟨_, _, _, rfl, ?_⟩
  have q11 := since_own q5 o5 (Nat.le_refl _) t11
  have hr11 := far_row hlow hr5 o5 (Nat.le_refl _) t11
  refine app_at u8T o11 hr11 q11.size (by omega) (by omega) fun a14 c14 w14 o14 t14 _ => ?_
  have q14 := since_own q11 o11 (Nat.le_refl _) t14
  have hr14 := far_row hlow hr11 o11 (Nat.le_refl _) t14
  refine (sum_c w14 l la n lc hr14 hB hN (hT.since q14)).mono ?_
  rintro en w17 ⟨rfl, hw⟩
  rw [hw]
  clear hw
  refine ⟨_, rfl, ?_⟩
  rw [show u8 (headS kind l.length ++ fourS (crc (headS kind l.length))) ++ u8 l = u8 (headS kind l.length ++ fourS (crc (headS kind l.length)) ++ l) by simp] at o14
  refine (four_c w14 w.heap.size a14 _ c14 _ (crc l) o14 q14.size (by omega)).mono ?_
  rintro en w20 ⟨a20, c20, rfl, o20, t20⟩
  refine ⟨_, _, _, rfl, ?_⟩
  have q20 := since_own q14 o14 (Nat.le_refl _) t20
  have hlen : 1 + 4 + 4 + n + 4 = (headS kind l.length ++ fourS (crc (headS kind l.length)) ++ l ++ fourS (crc l)).length := by simp [headS, fourS, hn]; omega
  rw [hlen] at o20 ⊢
  exact ⟨a20, c20, rfl, o20, q20⟩
theorem refFour_c (w : World) (x : Int) : Calls Tryd.prog 75 #[.int .u32 x] w (OwnO w (fourS x)) := by
  refine c75 _ ?_
  unfold d75
  refine ⟨by omega, by omega, by omega, u8 (fourS x), by rw [zcU8]; rfl, ?_⟩
  rintro w3 rfl
  have ho : (w.alloc (.cells (u8 (fourS x)).toArray 5)).ownsRow w.heap.size 5 1 (.slice (some ⟨w.heap.size, 0, none⟩) 4 4) 4 (u8 (fourS x)) := (BlkT.new w (u8 (fourS x)).toArray 5).own (Nat.le_refl _) rfl (by omega)
  exact ⟨_, 4, rfl, ho, (Tch.refl [] w).alloc _⟩
theorem refSeal_c (w : World) (kind : Int) (hk : 0 ≤ kind ∧ kind < 256) (la : Option Addr) (n lc : Nat) (l : List Int) (hr : RSl w 1 la n lc (u8 l)) (hB : Bytes l) (hN : n ≤ 140737488355328) :
    Calls Tryd.prog 38 #[.int .u8 kind, .slice la n lc] w (OwnO w (sealS kind l)) := by
  have hn := u8_len hr
  refine c38 _ _ _ _ ?_
  unfold d38
  unfold sealS
  by_cases hbig : 16777216 < n
  · rw [bif_pos (by omega), if_pos (by omega)]
    exact OwnO.none (Tch.refl _ _)
  rw [bif_neg (by omega), if_neg (by omega)]
  have hlow := hr.low (by omega)
  refine ⟨u8 [kind], by rw [zcU8]; rfl, ?_⟩
  rintro w3 rfl
  have o3 : (w.alloc (.cells (u8 [kind]).toArray 5)).ownsRow w.heap.size 5 1 (.slice (some ⟨w.heap.size, 0, none⟩) 1 1) 1 (u8 [kind]) := (BlkT.new w (u8 [kind]).toArray 5).own (Nat.le_refl _) rfl (by omega)
  have t3 := (Tch.refl [] w).alloc (.cells (u8 [kind]).toArray 5)
  generalize w.alloc (.cells (u8 [kind]).toArray 5) = w3 at *
  have s3 := t3.size
  rw [wrap_u32 (by omega) (by omega)]
  refine (refFour_c w3 (n : Int)).mono ?_
  rintro en w5 ⟨f5, fc5, rfl, of5, t5⟩
  refine ⟨_, _, _, rfl, ?_⟩
  have q5 := t3.trans t5 (by simp)
  have hhd : headS kind l.length = [kind] ++ fourS (n : Int) := by unfold headS; rw [hn]
  have hhB : Bytes (headS kind l.length) := by
    rw [hhd]
    intro y hy
    rcases List.mem_append.1 hy with hy | hy
    · rw [List.mem_singleton.1 hy]; exact hk
    · exact fourS_bytes _ y hy
  have o35 := own_up o3 t5 (fun _ _ h => by cases h)
  refine app_at u8T o35 (own_rsl of5 ones_ints) q5.size (by simp [fourS]) (by simp [fourS]) fun a8 c8 w8 o8 t8 _ => ?_
  have q8 := since_own q5 o35 (Nat.le_refl _) t8
  have hr8 := far_row hlow (hr.tch q5 (fun _ _ h => by cases h)) o35 (Nat.le_refl _) t8
  rw [show u8 [kind] ++ u8 (fourS (n : Int)) = u8 (headS kind l.length) by rw [hhd]; simp] at o8
  have l8 : 1 + (fourS (n : Int)).length = 5 := rfl
  rw [l8] at o8 ⊢
  refine (refSum_c w8 (headS kind l.length) a8 _ c8 (own_rsl o8 ones_ints) hhB (by omega)).mono ?_
  rintro en w11 ⟨rfl, hw⟩
  rw [hw]
  clear hw
  refine ⟨_, rfl, ?_⟩
  refine (refFour_c w8 (crc (headS kind l.length))).mono ?_
  rintro en w14 ⟨f14, fc14, rfl, of14, t14⟩
  refine ⟨_, _, _, rfl, ?_⟩
  have q14 := q8.trans t14 (by simp)
  have o14 := own_up o8 t14 (fun _ _ h => by cases h)
  refine app_at u8T o14 (own_rsl of14 ones_ints) q14.size (by simp [fourS]) (by simp [fourS]) fun a17 c17 w17 o17 t17 _ => ?_
  have q17 := since_own q14 o14 (Nat.le_refl _) t17
  have hr17 := far_row hlow (hr8.tch t14 (fun _ _ h => by cases h)) o14 (Nat.le_refl _) t17
  have l17 : 5 + (fourS (crc (headS kind l.length))).length = 9 := rfl
  rw [l17] at o17 ⊢
  refine app_at u8T o17 hr17 q17.size (by omega) (by omega) fun a20 c20 w20 o20 t20 _ => ?_
  have q20 := since_own q17 o17 (Nat.le_refl _) t20
  have hr20 := far_row hlow hr17 o17 (Nat.le_refl _) t20
  refine (refSum_c w20 l la n lc hr20 hB hN).mono ?_
  rintro en w23 ⟨rfl, hw⟩
  rw [hw]
  clear hw
  refine ⟨_, rfl, ?_⟩
  refine (refFour_c w20 (crc l)).mono ?_
  rintro en w26 ⟨f26, fc26, rfl, of26, t26⟩
  refine ⟨_, _, _, rfl, ?_⟩
  have q26 := q20.trans t26 (by simp)
  have o26 := own_up o20 t26 (fun _ _ h => by cases h)
  have l26 : (fourS (crc l)).length = 4 := rfl
  refine app_at u8T o26 (own_rsl of26 ones_ints) q26.size (by omega) (by omega) fun a29 c29 w29 o29 t29 _ => ?_
  have q29 := since_own q26 o26 (Nat.le_refl _) t29
  have hlen : 9 + n + (fourS (crc l)).length = (headS kind l.length ++ fourS (crc (headS kind l.length)) ++ l ++ fourS (crc l)).length := by simp [headS, fourS, hn]; omega
  rw [hlen, show u8 (headS kind l.length) ++ u8 (fourS (crc (headS kind l.length))) ++ u8 l ++ u8 (fourS (crc l)) = u8 (headS kind l.length ++ fourS (crc (headS kind l.length)) ++ l ++ fourS (crc l)) by simp] at o29
  rw [hlen]
  exact ⟨a29, c29, rfl, o29, q29⟩
end Go.Proofs.YtjchneebdlncfaaDoor.Lib
namespace Go.Proofs.YtjchneebdlncfaaDoor.Lib
open Go Den Fn
open Go.RowKit (Below)
open Classical
set_option maxRecDepth 8000
set_option maxHeartbeats 4000000
theorem refCount_c (w : World) (n : Nat) (hn : n < 9223372036854775808) : Calls Tryd.prog 71 #[.int .i64 n] w (OwnO w (uv n)) := by
  refine c71 _ ?_
  unfold d71
  rw [wrap_u64 (by omega) (by omega)]
  refine (refUint_c w n (by omega)).mono ?_
  rintro e w2 ⟨a, c, rfl, ho, ht⟩
  exact ⟨_, _, _, rfl, a, c, rfl, ho, ht⟩
theorem refFormed_c {F : Nat → Prop} (w : World) (v : List Value) (x : Tx) (h : TxV F w v x) : Calls Tryd.prog 72 #[.agg v.toArray] w fun e w' => e = .returned (.int .i64 (formedS x)) ∧ Tch [] w w' := by
  obtain ⟨a1, n1, c1, a2, n2, c2, a3, n3, c3, rfl, h1, h2, h3, hok⟩ := h
  have e1 := args_count h1
  have e2 := keys_count h2
  have e3 := keys_count h3
  refine c72 _ ?_
  unfold d72
  rintro w1 rfl
  have hX : Blk _ _ [.int .i64 x.proc, .slice a1 n1 c1, .slice a2 n2 c2, .slice a3 n3 c3] := Blk.fresh w (cs := [.int .i64 x.proc, .slice a1 n1 c1, .slice a2 n2 c2, .slice a3 n3 c3]) 76 rfl
  have t1 := (Tch.refl [] w).alloc (.cells [Value.int .i64 x.proc, .slice a1 n1 c1, .slice a2 n2 c2, .slice a3 n3 c3].toArray 76)
  generalize w.alloc (.cells [Value.int .i64 x.proc, .slice a1 n1 c1, .slice a2 n2 c2, .slice a3 n3 c3].toArray 76) = w1 at *
  generalize w.heap.size = pb at *
  unfold formedS
  refine ⟨fun t u => t = decide (x.proc < 0 ∨ 64 ≤ x.proc) ∧ u = w1, ?_, ?_⟩
  · refine ⟨x.proc, by rw [add_mk]; exact hX.cell 0, ?_⟩
    by_cases hp : x.proc < 0
    · rw [bif_pos hp]; exact ⟨by rw [decide_eq_true (.inl hp)], rfl⟩
    · rw [bif_neg hp]
      exact ⟨x.proc, by rw [add_mk]; exact hX.cell 0, decide_eq_decide.2 ⟨fun h => .inr h, fun h => h.resolve_left hp⟩, rfl⟩
  rintro w5 t ⟨rfl, hw⟩
  rw [hw]
  clear hw
  by_cases hp : x.proc < 0 ∨ 64 ≤ x.proc
  · rw [bif_pos hp, if_pos hp]; exact ⟨rfl, t1⟩
  rw [bif_neg hp, if_neg hp]
  refine ⟨a1, n1, c1, by rw [add_mk]; exact hX.cell 1, ?_⟩
  by_cases g1 : 16 < n1
  · rw [bif_pos (by omega), if_pos (by omega)]; exact ⟨rfl, t1⟩
  rw [bif_neg (by omega), if_neg (by omega)]
  refine ⟨a2, n2, c2, by rw [add_mk]; exact hX.cell 2, ?_⟩
  by_cases g2 : 16 < n2
  · rw [bif_pos (by omega), if_pos (by omega)]; exact ⟨rfl, t1⟩
  rw [bif_neg (by omega), if_neg (by omega)]
  refine ⟨a3, n3, c3, by rw [add_mk]; exact hX.cell 3, ?_⟩
  by_cases g3 : 16 < n3
  · rw [bif_pos (by omega), if_pos (by omega)]; exact ⟨rfl, t1⟩
  rw [bif_neg (by omega), if_neg (by omega)]
  refine ⟨a2, n2, c2, by rw [add_mk]; exact hX.cell 2, ?_⟩
  refine (refRises_c w1 x.reads a2 n2 c2 (h2.tch t1 (by simp)).1 (by omega)).mono ?_
  rintro e w12 ⟨rfl, t12⟩
  have q12 := t1.trans t12 (by simp)
  refine ⟨_, rfl, a3, n3, c3, by rw [add_mk]; exact (hX.tch t12 (by simp)).cell 3, ?_⟩
  refine (refRises_c w12 x.writes a3 n3 c3 (h3.tch q12 (by simp)).1 (by omega)).mono ?_
  rintro e w16 ⟨rfl, t16⟩
  have q16 := q12.trans t16 (by simp)
  refine ⟨_, rfl, ?_⟩
  by_cases r1 : RisesS x.reads
  · rw [bif_npos r1]
    by_cases r2 : RisesS x.writes
    · rw [bif_npos r2, if_neg (by rintro (h | h); exact h r1; exact h r2)]
      exact ⟨rfl, q16⟩
    · rw [bif_nneg r2, if_pos (.inr r2)]
      exact ⟨rfl, q16⟩
  · rw [bif_nneg r1, if_pos (.inl r1)]
    exact ⟨rfl, q16⟩
theorem refKset_c (w : World) (l : List (Int × Int)) (a : Option Addr) (n c : Nat) (hr : RSl w 2 a n c (rows kC l)) (hk : ∀ k ∈ l, KeyOk k.1) (hn16 : n ≤ 16) :
    Calls Tryd.prog 74 #[.slice a n c] w (OwnO w (encKs l)) := by
  have hn := hr.count kC_len (by omega)
  refine c74 _ _ _ ?_
  unfold d74
  refine (refCount_c w n (by omega)).mono ?_
  rintro e w2 ⟨oa, oc, rfl, ho, t2⟩
  have hu10 := (uv_len10 (n := n) (by omega)).2
  refine ⟨_, _, _, rfl, fun m x xn xc i u => ∃ (q : Nat) (out : List Int), i = q ∧ q ≤ n ∧ m = n - q ∧ out = uv n ++ ((l.take q).map fun k => keyB k.1 k.2).flatten ∧ xn = out.length ∧ out.length ≤ 10 + q * 10 ∧ u.ownsRow w.heap.size 5 1 (.slice x xn xc) xn (u8 out) ∧ Tch [] w u,
    ⟨n, 0, uv n, rfl, by omega, rfl, by simp, rfl, by omega, ho, t2⟩, ?_⟩
  clear ho t2
  rintro m w6 x xn xc i ⟨q, out, rfl, hq, rfl, hout, rfl, hol, ho, ht⟩
  by_cases hlt : q < n
  rotate_left
  · rw [bif_neg (by omega)]
    have : out = encKs l := by rw [hout, List.take_of_length_le (by omega)]; unfold encKs; rw [hn]
    rw [← this]
    exact ⟨x, xc, rfl, ho, ht⟩
  rw [bif_pos (by omega)]
  refine ⟨by omega, by omega, ?_⟩
  rw [Int.toNat_natCast]
  have hi : l[q]? = some (l[q]'(by omega)) := List.getElem?_eq_getElem (by omega)
  have hm := List.getElem_mem (show q < l.length by omega)
  have htk : l.take (q + 1) = l.take q ++ [l[q]'(by omega)] := List.take_succ_eq_append_getElem (by omega)
  generalize l[q]'(by omega) = k at hi hm htk
  refine (hr.tch ht (fun _ _ h => by cases h)).elem kC_len (by omega) hi ?_
  refine (refBytes_c k.1 k.2 w6).mono ?_
  rintro e w12 hby
  rw [if_pos (hk k hm)] at hby
  obtain ⟨ka, kc, rfl, hko, t12⟩ := hby
  refine ⟨_, _, _, _, rfl, _, _, _, rfl, _, rfl, ?_⟩
  have hkl := keyB_length k.1 k.2
  refine app_at u8T (own_up ho t12 (fun _ _ h => by cases h)) (own_rsl hko ones_ints) (by have := ht.size; have := t12.size; omega) (by omega) (by omega) fun a' c' w18 ho' t18 _ => ?_
  have q18 := since_own (ht.trans t12 (by simp)) (own_up ho t12 (fun _ _ h => by cases h)) (Nat.le_refl _) t18
  refine ⟨n - (q + 1), by omega, q + 1, out ++ keyB k.1 k.2, by rw [wrap_i64 (by omega) (by omega)]; omega, by omega, rfl, by rw [hout, htk]; simp, by simp [hkl], by simp [hkl]; omega, ?_, q18⟩
  rw [show u8 (out ++ keyB k.1 k.2) = u8 out ++ u8 (keyB k.1 k.2) by simp]
  exact ho'

/-- Bytes, appended to bytes of one's own. -/
theorem own_app {w u u' : World} {x : Option Addr} {n xc : Nat} {out : List Int} (ht : Tch [] w u) (ho : u.ownsRow w.heap.size 5 1 (.slice x n xc) n (u8 out)) (t : Tch [] u u') {ya : Option Addr} {yn yc : Nat} {ys : List Int} (hy : RSl u' 1 ya yn yc (u8 ys)) (hlen : n + yn ≤ 140737488355328) {K : Option Addr → Nat → Nat → World → Prop}
    (hK : ∀ a' c' u'', u''.ownsRow w.heap.size 5 1 (.slice a' (n + yn) c') (n + yn) (u8 (out ++ ys)) → Tch [] w u'' → K a' (n + yn) c' u'') :
    RunV Tryd.prog (Builtin.append_ #[22, 22] 22 #[.slice x n xc, .slice ya yn yc]) u' fun v w' => ∃ (x : Option Addr) (xn : Nat) (xc : Nat), v = (.slice x xn xc) ∧ K x xn xc w' := by
  have ho' := own_up ho t (fun _ _ h => by cases h)
  refine app_at u8T ho' hy (by have := ht.size; have := t.size; omega) (by omega) (by omega) fun a' c' w18 ho2 t18 _ => ?_
  refine hK a' c' w18 ?_ (since_own (ht.trans t (by simp)) ho' (Nat.le_refl _) t18)
  rw [show u8 (out ++ ys) = u8 out ++ u8 ys by simp]
  exact ho2
/-- A batch's element, field by field. -/
theorem BatchV.parts {F : Nat → Prop} {w : World} {a : Option Addr} {n c : Nat} {l : List Tx} (h : BatchV F w a n c l) {i : Nat} {x : Tx} (hi : l[i]? = some x) :
    ∃ (b o : Nat) (a1 : Option Addr) (n1 c1 : Nat) (a2 : Option Addr) (n2 c2 : Nat) (a3 : Option Addr) (n3 c3 : Nat), a = some ⟨b, o, none⟩ ∧ (∀ u, Tch [] w u → Cells u ⟨b, o + i * 4, none⟩ [.int .i64 x.proc, .slice a1 n1 c1, .slice a2 n2 c2, .slice a3 n3 c3]) ∧
      FR F w 1 a1 n1 c1 (i64s x.args) ∧ FR F w 2 a2 n2 c2 (rows kC x.reads) ∧ FR F w 2 a3 n3 c3 (rows kC x.writes) ∧ TxV F w [.int .i64 x.proc, .slice a1 n1 c1, .slice a2 n2 c2, .slice a3 n3 c3] x := by
  obtain ⟨vs, h1, h2, h3⟩ := h
  have hlt := (List.getElem?_eq_some_iff.1 hi).1
  have hvi : vs[i]? = some (vs[i]'(by omega)) := List.getElem?_eq_getElem (by omega)
  have hv := h3 i _ x hvi hi
  have hv' := hv
  obtain ⟨a1, n1, c1, a2, n2, c2, a3, n3, c3, e, g1, g2, g3, g4⟩ := hv
  have key : ∀ u, Tch [] w u → ∃ b o, a = some ⟨b, o, none⟩ ∧ Cells u ⟨b, o + i * 4, none⟩ (vs[i]'(by omega)) := fun u ht => by
    have hr := (h2.tch ht (by simp)).1
    rw [← rows_id'] at hr
    exact hr.elem' (f := id) (BatchV.lens h1 h3) (by omega) hvi
  obtain ⟨b, o, ha, _⟩ := key w (Tch.refl _ _)
  refine ⟨b, o, a1, n1, c1, a2, n2, c2, a3, n3, c3, ha, fun u ht => ?_, g1, g2, g3, by rw [← e]; exact hv'⟩
  obtain ⟨b', o', ha', hc⟩ := key u ht
  rw [ha] at ha'
  cases ha'
  rw [← e]
  exact hc
theorem firstG_drop : ∀ (q : Nat) (l : List Tx) (i : Nat), (∀ x ∈ l.take q, formedS x = 0) → firstG l i = firstG (l.drop q) (i + q)
  | 0, l, i, _ => rfl
  | q + 1, [], i, _ => rfl
  | q + 1, x :: l, i, h => by
    have hx := h x (by simp)
    rw [show firstG (x :: l) i = firstG l (i + 1) by conv => lhs; unfold firstG; rw [if_neg (by simpa using hx)]]
    rw [firstG_drop q l (i + 1) fun y hy => h y (by simp [hy])]
    show firstG (l.drop q) (i + 1 + q) = firstG (l.drop q) (i + (q + 1))
    rw [show i + 1 + q = i + (q + 1) by omega]
theorem refEncode_c {F : Nat → Prop} (w : World) (a : Option Addr) (n c : Nat) (l : List Tx) (h : BatchV F w a n c l) :
    Calls Tryd.prog 37 #[.slice a n c] w (BytesR w (encB l)) := by
  have hn := h.count
  have hok := h.ok
  refine c37 _ _ _ ?_
  unfold d37
  have bad : ∀ {u : World} {k : Int}, k ≠ 0 → (firstS l).2 = k → Tch [] w u → BytesR w (encB l) (.returned (.tuple #[.slice none 0 0, .int .i64 k])) u := fun {u k} hk he ht => by
    have : encB l = ([], k) := by unfold encB; rw [if_pos (by rw [he]; exact hk), he]
    rw [this]
    exact ⟨none, 0, rfl, own_nil _ _ _ _, ht⟩
  by_cases hbig : 64 < n
  · rw [bif_pos (by omega)]
    exact bad (by simp) (by unfold firstS; rw [if_pos (by omega)]) (Tch.refl _ _)
  rw [bif_neg (by omega)]
  have hfs : firstS l = firstG l 0 := by unfold firstS; rw [if_neg (by omega)]
  refine (refCount_c w n (by omega)).mono ?_
  rintro e w2 ⟨oa, oc, rfl, ho, t2⟩
  have hu10 := (uv_len10 (n := n) (by omega)).2
  refine ⟨_, _, _, rfl, fun m x xn xc i u => ∃ (q : Nat) (out : List Int), i = q ∧ q ≤ n ∧ m = n - q ∧ out = uv n ++ encTxs (l.take q) ∧ xn = out.length ∧ (∀ x ∈ l.take q, formedS x = 0) ∧ u.ownsRow w.heap.size 5 1 (.slice x xn xc) xn (u8 out) ∧ Tch [] w u,
    ⟨n, 0, uv n, rfl, by omega, rfl, by simp [encTxs], rfl, by simp, ho, t2⟩, ?_⟩
  clear ho t2
  rintro m w6 x xn xc i ⟨q, out, rfl, hq, rfl, hout, rfl, hgood, ho, ht⟩
  have hol : out.length ≤ 10 + q * 520 := by
    have := encTxs_len (l := l.take q) (fun x hx => hok x (List.mem_of_mem_take hx)) (fun x hx => (formedS_zero x).1 (hgood x hx))
    rw [List.length_take] at this
    have h2 : min q l.length * 520 ≤ q * 520 := Nat.mul_le_mul_right _ (Nat.min_le_left _ _)
    rw [hout, List.length_append]
    omega
  by_cases hlt : q < n
  rotate_left
  · rw [bif_neg (by omega)]
    have hall : ∀ x ∈ l, formedS x = 0 := fun x hx => hgood x (by rw [List.take_of_length_le (by omega)]; exact hx)
    have hz : encB l = (out, 0) := by
      rw [encB_good ⟨by omega, fun x hx => (formedS_zero x).1 (hall x hx)⟩, hout, List.take_of_length_le (by omega), hn]
    rw [hz]
    exact ⟨x, xc, rfl, ho, ht⟩
  rw [bif_pos (by omega)]
  have hi : l[q]? = some (l[q]'(by omega)) := List.getElem?_eq_getElem (by omega)
  have hm := List.getElem_mem (show q < l.length by omega)
  have htk : l.take (q + 1) = l.take q ++ [l[q]'(by omega)] := List.take_succ_eq_append_getElem (by omega)
  have hdk : l.drop q = l[q]'(by omega) :: l.drop (q + 1) := List.drop_eq_getElem_cons (by omega)
  generalize l[q]'(by omega) = y at hi hm htk hdk
  obtain ⟨b, o, a1, n1, c1, a2, n2, c2, a3, n3, c3, rfl, hcell, g1, g2, g3, hv⟩ := h.parts hi
  have hyok := hok y hm
  refine ⟨by omega, by omega, ?_⟩
  rw [Int.toNat_natCast]
  refine ⟨_, rfl, by rw [add_mk]; exact hcell w6 ht, ?_⟩
  refine (refFormed_c w6 _ y (hv.quiet ht)).mono ?_
  rintro e w12 ⟨rfl, t12⟩
  refine ⟨_, rfl, ?_⟩
  have q12 := ht.trans t12 (by simp)
  by_cases hf : formedS y = 0
  rotate_left
  · rw [bif_nneg hf]
    refine bad hf ?_ q12
    rw [hfs, firstG_drop q l 0 hgood, hdk]
    unfold firstG
    rw [if_pos hf]
  rw [bif_npos hf]
  have hG := (formedS_zero y).1 hf
  obtain ⟨gp, ga, gr, gw, gR, gW⟩ := hG
  have hc1 := args_count g1
  have hc2 := keys_count g2
  have hc3 := keys_count g3
  have field : ∀ (u : World), Tch [] w u → ∀ (j : Nat) (v : Value), [Value.int .i64 y.proc, .slice a1 n1 c1, .slice a2 n2 c2, .slice a3 n3 c3][j]? = some v → World.cell? u (Addr.add (Addr.add ⟨b, o, none⟩ (q * 4)) j) = some v := fun u hu j v hv => by
    rw [add_mk, add_mk]
    exact cells_get (hcell u hu) hv
  refine ⟨by omega, by omega, y.proc, field w12 q12 0 _ rfl, ?_⟩
  have hpr : y.proc = ((y.proc.toNat : Nat) : Int) := by omega
  rw [hpr]
  refine (refCount_c w12 y.proc.toNat (by omega)).mono ?_
  rintro e w17 ⟨pa, pc, rfl, hp, t17⟩
  have up10 := (uv_len10 (n := y.proc.toNat) (by omega)).2
  refine ⟨_, _, _, rfl, ?_⟩
  refine own_app ht ho (t12.trans t17 (by simp)) (own_rsl hp ones_ints) (by omega) fun a20 c20 w20 o20 q20 => ?_
  refine ⟨by omega, by omega, a1, n1, c1, field w20 q20 1 _ rfl, ?_⟩
  refine (refCount_c w20 n1 (by omega)).mono ?_
  rintro e w25 ⟨na, nc, rfl, hna, t25⟩
  have un10 := (uv_len10 (n := n1) (by omega)).2
  refine ⟨_, _, _, rfl, ?_⟩
  have e20 : out.length + (uv y.proc.toNat).length = (out ++ uv y.proc.toNat).length := by simp only [List.length_append]
  rw [e20] at o20 ⊢
  refine own_app q20 o20 t25 (own_rsl hna ones_ints) (by rw [List.length_append]; omega) fun a28 c28 w28 o28 q28 => ?_
  have e28 : (out ++ uv y.proc.toNat).length + (uv n1).length = (out ++ uv y.proc.toNat ++ uv n1).length := by simp only [List.length_append]
  rw [e28] at o28 ⊢
  generalize hO : out ++ uv y.proc.toNat ++ uv n1 = out2 at *
  have hO2 : out2.length ≤ out.length + 20 := by rw [← hO]; simp only [List.length_append]; omega
  refine ⟨fun m x xn xc k u => ∃ (r : Nat) (ot : List Int), k = r ∧ r ≤ n1 ∧ m = n1 - r ∧ ot = out2 ++ ((y.args.take r).map iv).flatten ∧ xn = ot.length ∧ ot.length ≤ out2.length + r * 10 ∧ u.ownsRow w.heap.size 5 1 (.slice x xn xc) xn (u8 ot) ∧ Tch [] w u,
    ⟨n1, 0, out2, rfl, by omega, rfl, by simp, rfl, by omega, o28, q28⟩, ?_⟩
  clear o28 q28 o20 hna hp
  rintro m w32 x2 xn2 xc2 k ⟨r, ot, rfl, hr, rfl, hot, rfl, hotl, hoo, q32⟩
  refine ⟨by omega, by omega, a1, n1, c1, field w32 q32 1 _ rfl, ?_⟩
  by_cases hlr : r < n1
  · rw [bif_pos (by omega)]
    refine ⟨by omega, by omega, a1, n1, c1, field w32 q32 1 _ rfl, by omega, by omega, ?_⟩
    have hai : y.args[r]? = some (y.args[r]'(by omega)) := List.getElem?_eq_getElem (by omega)
    have ham := List.getElem_mem (show r < y.args.length by omega)
    have hatk : y.args.take (r + 1) = y.args.take r ++ [y.args[r]'(by omega)] := List.take_succ_eq_append_getElem (by omega)
    generalize y.args[r]'(by omega) = v at hai ham hatk
    have hg1 := (g1.tch q32 (by simp)).1
    obtain ⟨yb, yo, rfl, hcv⟩ := RSl.elem' (f := fun v : Int => [Value.int .i64 v]) (sz := 1) (l := y.args) (by
      have : ∀ l : List Int, rows (fun v : Int => [Value.int .i64 v]) l = i64s l := fun l => by
        induction l with
        | nil => rfl
        | cons x l ih => rw [rows_cons, ih]; rfl
      rw [this]; exact hg1) (fun _ _ => rfl) (by omega) hai
    rw [Int.toNat_natCast]
    refine ⟨v, by rw [add_mk]; exact cells_get hcv (i := 0) rfl, ?_⟩
    refine (refInt_c w32 v (hyok.args v ham)).mono ?_
    rintro e w42 ⟨ia, ic, rfl, hia, t42⟩
    have uv10 := (uv_len10 (fold_range (hyok.args v ham))).2
    refine ⟨_, _, _, rfl, ?_⟩
    refine own_app q32 hoo t42 (own_rsl hia ones_ints) (by show ot.length + (uv (fold v)).length ≤ _; omega) fun a45 c45 w45 o45 q45 => ?_
    refine ⟨n1 - (r + 1), by omega, r + 1, ot ++ iv v, by rw [wrap_i64 (by omega) (by omega)]; omega, by omega, rfl, by rw [hot, hatk]; simp, by simp only [List.length_append], ?_, o45, q45⟩
    rw [List.length_append]
    show ot.length + (uv (fold v)).length ≤ _
    omega
  rw [bif_neg (by omega)]
  have hot' : ot = out2 ++ (y.args.map iv).flatten := by rw [hot, List.take_of_length_le (by omega)]
  refine ⟨by omega, by omega, a2, n2, c2, field w32 q32 2 _ rfl, ?_⟩
  have ek2 := encKs_len (l := y.reads) (by omega)
  have ek3 := encKs_len (l := y.writes) (by omega)
  refine (refKset_c w32 y.reads a2 n2 c2 (g2.tch q32 (by simp)).1 gR.1 (by omega)).mono ?_
  rintro e w51 ⟨ra, rc, rfl, hra, t51⟩
  refine ⟨_, _, _, rfl, ?_⟩
  refine own_app q32 hoo t51 (own_rsl hra ones_ints) (by omega) fun a54 c54 w54 o54 q54 => ?_
  refine ⟨by omega, by omega, a3, n3, c3, field w54 q54 3 _ rfl, ?_⟩
  refine (refKset_c w54 y.writes a3 n3 c3 (g3.tch q54 (by simp)).1 gW.1 (by omega)).mono ?_
  rintro e w59 ⟨wa, wc, rfl, hwa, t59⟩
  refine ⟨_, _, _, rfl, ?_⟩
  have e54 : ot.length + (encKs y.reads).length = (ot ++ encKs y.reads).length := by simp only [List.length_append]
  rw [e54] at o54 ⊢
  refine own_app q54 o54 t59 (own_rsl hwa ones_ints) (by rw [List.length_append]; omega) fun a62 c62 w62 o62 q62 => ?_
  refine ⟨n - (q + 1), by omega, q + 1, ot ++ encKs y.reads ++ encKs y.writes, by rw [wrap_i64 (by omega) (by omega)]; omega, by omega, rfl, ?_, by simp only [List.length_append], fun z hz => ?_, o62, q62⟩
  · rw [hot', ← hO, htk, encTxs_append, encTxs_one, hout, ← hc1]
    unfold encTx
    simp only [List.append_assoc]
  · rw [htk] at hz
    rcases List.mem_append.1 hz with hz | hz
    · exact hgood z hz
    · rw [List.mem_singleton.1 hz]; exact hf
end Go.Proofs.YtjchneebdlncfaaDoor.Lib
