/-
  THE CODE of some functions of the given program, resolved, and proved to ask what the readable texts (d..) say; contracts c.. follow. Printed by a small program of mine.
-/
import Derived.Test.YtjkbjppopdfggaaDoorDenWords8
import Derived.Test.YtjkbjppopdfggaaDoorProg
set_option maxRecDepth 100000
namespace Go.Proofs.YtjkbjppopdfggaaDoor.Fn
open Go Den
/-- slices.Backward[[]prelude/api.Fork,prelude/api.Fork]$1 -/
def s88 : S := (.seq (.ops [⟨(some 4), (.ld1 (.tmp 1)), .sl, none⟩,
  ⟨(some 5), (.len (.tmp 4)), (.int .i64), none⟩,
  ⟨(some 6), (.bin .sub (.tmp 5) (.const (.int .i64 1))), (.int .i64), none⟩,
  ⟨(some 3), (.mv (.tmp 6)), (.int .i64), none⟩] [3, 0, 1])
 (.block 0
 (.loop [(3, (.int .i64))] [0, 1]
 (.seq (.seq (.ops [⟨(some 7), (.mv (.tmp 3)), (.int .i64), none⟩,
  ⟨(some 8), (.bin .geq (.tmp 7) (.const (.int .i64 0))), .bool, none⟩] [8, 0, 3, 1])
 (.cond (.tmp 8)
 .skip
 (.exit 0)))
 (.seq (.block 1
 (.seq (.ops [⟨(some 11), (.mv (.tmp 0)), .any, none⟩,
  ⟨(some 12), (.mv (.tmp 3)), (.int .i64), none⟩,
  ⟨(some 13), (.ld1 (.tmp 1)), .sl, none⟩,
  ⟨(some 14), (.mv (.tmp 3)), (.int .i64), none⟩,
  ⟨(some 15), (.ia 33 (.tmp 13) (.tmp 14)), .ptr, none⟩,
  ⟨(some 16), (.ldN 33 (.tmp 15)), .agg, none⟩,
  ⟨(some 17), (.callv (.tmp 11) [(.tmp 12), (.tmp 16)] [.bool]), .bool, none⟩,
  ⟨(some 18), (.un .not (.tmp 17)), .bool, none⟩] [18, 3, 0, 1])
 (.cond (.tmp 18)
 .ret
 .skip)))
 (.ops [⟨(some 9), (.mv (.tmp 3)), (.int .i64), none⟩,
  ⟨(some 10), (.bin .sub (.tmp 9) (.const (.int .i64 1))), (.int .i64), none⟩,
  ⟨(some 3), (.mv (.tmp 10)), (.int .i64), none⟩] [3, 0, 1]))))))
def r88 : List Res := []
theorem tr88 : trS Tryd.prog [] 19 (Tryd.f88.body.getD .skip) s88 = some s88 := by kernel_rfl
theorem den88 (args : List Value) (w : World) (R : Ending → World → Prop) (hn : args.length ≤ 19) (h : denS Tryd.prog s88 (argsEnv 0 args) w (endK r88 R)) : Calls Tryd.prog 88 args.toArray w R :=
  calls_of_den (pn := []) (fn := Tryd.f88) (c := Tryd.f88.body.getD .skip) Tryd.func88 (by kernel_rfl) (by rw [Tryd.ntmps88]; exact hn) (by rw [Tryd.ntmps88]; exact tr88) (by kernel_rfl) h
def d88 (yield0 : Value) (x1 : Option Addr) (w : World) (R : Ending → World → Prop) : Prop :=
 optK x1 fun a2 =>
 ∃ (x3 : Option Addr) (x3n : Nat) (x3c : Nat), World.cell? w a2 = some (.slice x3 x3n x3c) ∧
 ∃ I4 : Nat → Int → World → Prop,
 (∃ m, I4 m (IntKind.wrap .i64 (((x3n : Nat) : Int) - 1)) w) ∧
 (∀ (m5 : Nat) (w6 : World) (i7 : Int), I4 m5 i7 w6 →
 (bif (decide (0 ≤ i7)) then
 (optK x1 fun a8 =>
 ∃ (x9 : Option Addr) (x9n : Nat) (x9c : Nat), World.cell? w6 a8 = some (.slice x9 x9n x9c) ∧
 0 ≤ i7 ∧ i7 < ((x9n : Nat) : Int) ∧ optK x9 fun a10 =>
 ∃ cs11 : List Value, List.length cs11 = 33 ∧ Cells w6 (Addr.add a10 (Int.toNat i7 * 33)) cs11 ∧
 fvK Tryd.prog yield0 #[(.int .i64 i7), (.agg (List.toArray cs11))] w6 fun e12 w13 => ∃ x14 : Bool, e12 = .returned (.bool x14) ∧
 (bif (!x14) then
 (R (.returned (.tuple #[])) w13)
 else
 (∃ m15, m15 < m5 ∧ I4 m15 (IntKind.wrap .i64 (i7 - 1)) w13)))
 else
 (R (.returned (.tuple #[])) w6)))
theorem e88 (yield0 : Value) (x1 : Option Addr) (w : World) (R : Ending → World → Prop) : denS Tryd.prog s88 (argsEnv 0 [yield0, (.pointer x1)]) w (endK r88 R) = d88 yield0 x1 w R := by kernel_rfl
theorem c88 (yield0 : Value) (x1 : Option Addr) {w : World} {R : Ending → World → Prop} (h : d88 yield0 x1 w R) : Calls Tryd.prog 88 #[yield0, (.pointer x1)] w R :=
  den88 [yield0, (.pointer x1)] w R (by simp) ((e88 yield0 x1 w R).symm ▸ h)

end Go.Proofs.YtjkbjppopdfggaaDoor.Fn
