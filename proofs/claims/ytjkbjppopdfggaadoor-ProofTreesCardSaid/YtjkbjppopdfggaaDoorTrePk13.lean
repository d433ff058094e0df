/-
  THE CODE of some functions of the given program, resolved, and proved to ask what the readable texts (d..) say; contracts c.. follow. Printed by a small program of mine.
  Own work. No macro, syntax, notation, axiom.
-/
import Derived.Test.YtjkbjppopdfggaaDoorTrePk3
import Derived.Test.YtjkbjppopdfggaaDoorProg
set_option maxRecDepth 100000
namespace Go.Proofs.YtjkbjppopdfggaaDoor.Fn
open Go Den
/-- (*prelude/proof.leaf).node -/
def s110 : S := (.seq (.ops [⟨(some 2), (.alloc 33), .ptr, none⟩] [0, 2])
 (.seq (.ops [⟨(some 3), (.mv (.tmp 0)), .ptr, none⟩,
  ⟨(some 4), (.nc (.tmp 3)), .any, none⟩,
  ⟨(some 5), (.fa 0 (.tmp 4)), .ptr, none⟩,
  ⟨(some 6), (.ldN 3 (.tmp 5)), .agg, none⟩,
  ⟨(some 7), (.bld 33 (.fields [(0, 1), (1, 1), (2, 32), (34, 32), (66, 3)]) [(0, (.const (.int .i64 1))), (4, (.tmp 6))]), .agg, none⟩,
  ⟨none, (.stN 69 (.tmp 2) (.tmp 7)), .any, none⟩] [2])
 .ret))
def r110 : List Res := [.cN 2 69]
theorem tr110 : trS Tryd.prog [] 8 (Tryd.f110.body.getD .skip) s110 = some s110 := by kernel_rfl
theorem den110 (args : List Value) (w : World) (R : Ending → World → Prop) (hn : args.length ≤ 8) (h : denS Tryd.prog s110 (argsEnv 0 args) w (endK r110 R)) : Calls Tryd.prog 110 args.toArray w R :=
  calls_of_den (pn := []) (fn := Tryd.f110) (c := Tryd.f110.body.getD .skip) Tryd.func110 (by kernel_rfl) (by rw [Tryd.ntmps110]; exact hn) (by rw [Tryd.ntmps110]; exact tr110) (by kernel_rfl) h
def d110 (l0 : Option Addr) (w : World) (R : Ending → World → Prop) : Prop :=
 ∀ w1 : World, w1 = World.alloc w (.cells (zc Tryd.prog 33).toArray 33) →
 optK l0 fun a2 =>
 ∃ cs3 : List Value, List.length cs3 = 3 ∧ Cells w1 (Addr.add a2 0) cs3 ∧
 ∃ cs4, fillL (.fields [(0, 1), (1, 1), (2, 32), (34, 32), (66, 3)]) (zc Tryd.prog 33) [(0, (.int .i64 1)), (4, (.agg (List.toArray cs3)))] = some cs4 ∧
 Array.size (List.toArray cs4) = 69 ∧ (∀ u ∈ Array.toList (List.toArray cs4), one u = true) ∧ Room w1 ⟨World.heap w |>.size, 0, none⟩ 69 ∧
 ∀ w5 : World, w5 = setCells w1 ⟨World.heap w |>.size, 0, none⟩ (Array.toList (List.toArray cs4)) 0 →
 ∃ cs6 : List Value, List.length cs6 = 69 ∧ Cells w5 ⟨World.heap w |>.size, 0, none⟩ cs6 ∧
 R (.returned (.agg (List.toArray cs6))) w5
theorem e110 (l0 : Option Addr) (w : World) (R : Ending → World → Prop) : denS Tryd.prog s110 (argsEnv 0 [(.pointer l0)]) w (endK r110 R) = d110 l0 w R := by kernel_rfl
theorem c110 (l0 : Option Addr) {w : World} {R : Ending → World → Prop} (h : d110 l0 w R) : Calls Tryd.prog 110 #[(.pointer l0)] w R :=
  den110 [(.pointer l0)] w R (by simp) ((e110 l0 w R).symm ▸ h)

/-- (*prelude/proof.fork).node -/
def s114 : S := (.seq (.ops [⟨(some 2), (.alloc 33), .ptr, none⟩] [0, 2])
 (.seq (.draw (.take 0 ⟨(some 3), (.mv (.tmp 0)), .ptr, none⟩
  (.take 1 ⟨(some 4), (.nc (.tmp 3)), .any, none⟩
  (.take 2 ⟨(some 5), (.fa 0 (.tmp 4)), .ptr, none⟩
  (.take 3 ⟨(some 6), (.ld1 (.tmp 5)), (.int .i64), none⟩
  (.take 4 ⟨(some 7), (.mv (.tmp 0)), .ptr, none⟩
  (.take 5 ⟨(some 8), (.nc (.tmp 7)), .any, none⟩
  (.take 6 ⟨(some 9), (.fa 1 (.tmp 8)), .ptr, none⟩
  (.take 7 ⟨(some 10), (.ld1 (.tmp 9)), .any, none⟩
  (.take 9 ⟨(some 12), (.mv (.tmp 0)), .ptr, none⟩
  (.take 10 ⟨(some 13), (.nc (.tmp 12)), .any, none⟩
  (.take 11 ⟨(some 14), (.fa 2 (.tmp 13)), .ptr, none⟩
  (.take 12 ⟨(some 15), (.ld1 (.tmp 14)), .any, none⟩
  (.go 8 ⟨(some 11), (.inv (.tmp 10) "prelude/proof.digest" [] [.agg]), .agg, none⟩ [(12, ⟨(some 15), (.ld1 (.tmp 14)), .any, none⟩), (3, ⟨(some 6), (.ld1 (.tmp 5)), (.int .i64), none⟩)]
  (.go 13 ⟨(some 16), (.inv (.tmp 15) "prelude/proof.digest" [] [.agg]), .agg, none⟩ [(3, ⟨(some 6), (.ld1 (.tmp 5)), (.int .i64), none⟩)]
  (.take 14 ⟨(some 17), (.bld 33 (.fields [(0, 1), (1, 1), (2, 32), (34, 32), (66, 3)]) [(0, (.const (.int .i64 2))), (1, (.tmp 6)), (2, (.tmp 11)), (3, (.tmp 16))]), .agg, none⟩
  (.go 15 ⟨none, (.stN 69 (.tmp 2) (.tmp 17)), .any, none⟩ []
  .done)))))))))))))))) [2])
 .ret))
def r114 : List Res := [.cN 2 69]
theorem tr114 : trS Tryd.prog [] 18 (Tryd.f114.body.getD .skip) s114 = some s114 := by kernel_rfl
theorem den114 (args : List Value) (w : World) (R : Ending → World → Prop) (hn : args.length ≤ 18) (h : denS Tryd.prog s114 (argsEnv 0 args) w (endK r114 R)) : Calls Tryd.prog 114 args.toArray w R :=
  calls_of_den (pn := []) (fn := Tryd.f114) (c := Tryd.f114.body.getD .skip) Tryd.func114 (by kernel_rfl) (by rw [Tryd.ntmps114]; exact hn) (by rw [Tryd.ntmps114]; exact tr114) (by kernel_rfl) h
def d114 (f0 : Option Addr) (w : World) (R : Ending → World → Prop) : Prop :=
 ∀ w1 : World, w1 = World.alloc w (.cells (zc Tryd.prog 33).toArray 33) →
 ∀ w2 : World, w2 = World.drew w1 →
 optK f0 fun a3 =>
 ∃ x4 : Int, World.cell? w2 (Addr.add a3 0) = some (.int .i64 x4) ∧
 optK f0 fun a5 =>
 ∃ x6 : Value, World.cell? w2 (Addr.add a5 1) = some x6 ∧
 optK f0 fun a7 =>
 ∃ x8 : Value, World.cell? w2 (Addr.add a7 2) = some x8 ∧
 ∃ t9 v10 g11 r12, x6 = .iface t9 v10 ∧ Sem.run Tryd.prog (method (Tryd.prog.types.size + Made.depth) t9 v10 "prelude/proof.digest") w2 = .ok (g11, r12) w2 ∧ HasBody Tryd.prog g11 ∧
 Calls Tryd.prog g11 (#[r12] ++ #[]) w2 fun e13 w14 => ∃ x15 : Array Value, e13 = .returned (.agg x15) ∧
 (∃ z16 : Value, World.cell? w14 (Addr.add a7 2) = some z16 ∧
 ((z16 : Value) = x8 ∧ w14 = w14)) ∧
 (∃ z17 : Int, World.cell? w14 (Addr.add a3 0) = some (.int .i64 z17) ∧
 (((.int .i64 z17) : Value) = (.int .i64 x4) ∧ w14 = w14)) ∧
 ∃ t18 v19 g20 r21, x8 = .iface t18 v19 ∧ Sem.run Tryd.prog (method (Tryd.prog.types.size + Made.depth) t18 v19 "prelude/proof.digest") w14 = .ok (g20, r21) w14 ∧ HasBody Tryd.prog g20 ∧
 Calls Tryd.prog g20 (#[r21] ++ #[]) w14 fun e22 w23 => ∃ x24 : Array Value, e22 = .returned (.agg x24) ∧
 (∃ z25 : Int, World.cell? w23 (Addr.add a3 0) = some (.int .i64 z25) ∧
 (((.int .i64 z25) : Value) = (.int .i64 x4) ∧ w23 = w23)) ∧
 ∃ cs26, fillL (.fields [(0, 1), (1, 1), (2, 32), (34, 32), (66, 3)]) (zc Tryd.prog 33) [(0, (.int .i64 2)), (1, (.int .i64 x4)), (2, (.agg x15)), (3, (.agg x24))] = some cs26 ∧
 Array.size (List.toArray cs26) = 69 ∧ (∀ u ∈ Array.toList (List.toArray cs26), one u = true) ∧ Room w23 ⟨World.heap w |>.size, 0, none⟩ 69 ∧
 ∀ w27 : World, w27 = setCells w23 ⟨World.heap w |>.size, 0, none⟩ (Array.toList (List.toArray cs26)) 0 →
 ∃ cs28 : List Value, List.length cs28 = 69 ∧ Cells w27 ⟨World.heap w |>.size, 0, none⟩ cs28 ∧
 R (.returned (.agg (List.toArray cs28))) w27
theorem e114 (f0 : Option Addr) (w : World) (R : Ending → World → Prop) : denS Tryd.prog s114 (argsEnv 0 [(.pointer f0)]) w (endK r114 R) = d114 f0 w R := by kernel_rfl
theorem c114 (f0 : Option Addr) {w : World} {R : Ending → World → Prop} (h : d114 f0 w R) : Calls Tryd.prog 114 #[(.pointer f0)] w R :=
  den114 [(.pointer f0)] w R (by simp) ((e114 f0 w R).symm ▸ h)

/-- (*prelude/proof.leaf).toward -/
def s112 : S := (.seq (.ops [⟨(some 4), (.mv (.const .nilIface)), .any, none⟩,
  ⟨(some 5), (.mv (.const .nilIface)), .any, none⟩] [])
 (.seq (.ops [⟨(some 4), (.mv (.const .nilIface)), .any, none⟩,
  ⟨(some 5), (.mv (.const .nilIface)), .any, none⟩] [4, 5])
 .ret))
def r112 : List Res := [.t 4, .t 5]
theorem tr112 : trS Tryd.prog [] 6 (Tryd.f112.body.getD .skip) s112 = some s112 := by kernel_rfl
theorem den112 (args : List Value) (w : World) (R : Ending → World → Prop) (hn : args.length ≤ 6) (h : denS Tryd.prog s112 (argsEnv 0 args) w (endK r112 R)) : Calls Tryd.prog 112 args.toArray w R :=
  calls_of_den (pn := []) (fn := Tryd.f112) (c := Tryd.f112.body.getD .skip) Tryd.func112 (by kernel_rfl) (by rw [Tryd.ntmps112]; exact hn) (by rw [Tryd.ntmps112]; exact tr112) (by kernel_rfl) h
def d112 (l0 : Option Addr) (x1 : Option Addr) (x1n : Nat) (x1c : Nat) (w : World) (R : Ending → World → Prop) : Prop :=
 R (.returned (.tuple #[.nilIface, .nilIface])) w
theorem e112 (l0 : Option Addr) (x1 : Option Addr) (x1n : Nat) (x1c : Nat) (w : World) (R : Ending → World → Prop) : denS Tryd.prog s112 (argsEnv 0 [(.pointer l0), (.slice x1 x1n x1c)]) w (endK r112 R) = d112 l0 x1 x1n x1c w R := by kernel_rfl
theorem c112 (l0 : Option Addr) (x1 : Option Addr) (x1n : Nat) (x1c : Nat) {w : World} {R : Ending → World → Prop} (h : d112 l0 x1 x1n x1c w R) : Calls Tryd.prog 112 #[(.pointer l0), (.slice x1 x1n x1c)] w R :=
  den112 [(.pointer l0), (.slice x1 x1n x1c)] w R (by simp) ((e112 l0 x1 x1n x1c w R).symm ▸ h)

/-- (*prelude/proof.fork).toward -/
def s116 : S := (.seq (.ops [⟨(some 4), (.mv (.const .nilIface)), .any, none⟩,
  ⟨(some 5), (.mv (.const .nilIface)), .any, none⟩] [1, 0])
 (.seq (.seq (.ops [⟨(some 6), (.mv (.tmp 1)), .sl, none⟩,
  ⟨(some 7), (.mv (.tmp 0)), .ptr, none⟩,
  ⟨(some 8), (.nc (.tmp 7)), .any, none⟩,
  ⟨(some 9), (.fa 0 (.tmp 8)), .ptr, none⟩,
  ⟨(some 10), (.ld1 (.tmp 9)), (.int .i64), none⟩,
  ⟨(some 11), (.call 75 [(.tmp 6), (.tmp 10)] [(.int .u8)]), (.int .u8), none⟩,
  ⟨(some 12), (.bin .eql (.tmp 11) (.const (.int .u8 0))), .bool, none⟩] [12, 0])
 (.cond (.tmp 12)
 (.seq (.draw (.take 0 ⟨(some 13), (.mv (.tmp 0)), .ptr, none⟩
  (.take 1 ⟨(some 14), (.nc (.tmp 13)), .any, none⟩
  (.take 2 ⟨(some 15), (.fa 1 (.tmp 14)), .ptr, none⟩
  (.take 3 ⟨(some 16), (.ld1 (.tmp 15)), .any, none⟩
  (.take 4 ⟨(some 17), (.mv (.tmp 0)), .ptr, none⟩
  (.take 5 ⟨(some 18), (.nc (.tmp 17)), .any, none⟩
  (.take 6 ⟨(some 19), (.fa 2 (.tmp 18)), .ptr, none⟩
  (.take 7 ⟨(some 20), (.ld1 (.tmp 19)), .any, none⟩
  (.take 8 ⟨(some 4), (.mv (.tmp 16)), .any, none⟩
  (.take 9 ⟨(some 5), (.mv (.tmp 20)), .any, none⟩
  .done)))))))))) [4, 5])
 .ret)
 .skip))
 (.seq (.draw (.take 0 ⟨(some 21), (.mv (.tmp 0)), .ptr, none⟩
  (.take 1 ⟨(some 22), (.nc (.tmp 21)), .any, none⟩
  (.take 2 ⟨(some 23), (.fa 2 (.tmp 22)), .ptr, none⟩
  (.take 3 ⟨(some 24), (.ld1 (.tmp 23)), .any, none⟩
  (.take 4 ⟨(some 25), (.mv (.tmp 0)), .ptr, none⟩
  (.take 5 ⟨(some 26), (.nc (.tmp 25)), .any, none⟩
  (.take 6 ⟨(some 27), (.fa 1 (.tmp 26)), .ptr, none⟩
  (.take 7 ⟨(some 28), (.ld1 (.tmp 27)), .any, none⟩
  (.take 8 ⟨(some 4), (.mv (.tmp 24)), .any, none⟩
  (.take 9 ⟨(some 5), (.mv (.tmp 28)), .any, none⟩
  .done)))))))))) [4, 5])
 .ret)))
def r116 : List Res := [.t 4, .t 5]
theorem tr116 : trS Tryd.prog [] 29 (Tryd.f116.body.getD .skip) s116 = some s116 := by kernel_rfl
theorem den116 (args : List Value) (w : World) (R : Ending → World → Prop) (hn : args.length ≤ 29) (h : denS Tryd.prog s116 (argsEnv 0 args) w (endK r116 R)) : Calls Tryd.prog 116 args.toArray w R :=
  calls_of_den (pn := []) (fn := Tryd.f116) (c := Tryd.f116.body.getD .skip) Tryd.func116 (by kernel_rfl) (by rw [Tryd.ntmps116]; exact hn) (by rw [Tryd.ntmps116]; exact tr116) (by kernel_rfl) h
def d116 (f0 : Option Addr) (b1 : Option Addr) (b1n : Nat) (b1c : Nat) (w : World) (R : Ending → World → Prop) : Prop :=
 optK f0 fun a2 =>
 ∃ x3 : Int, World.cell? w (Addr.add a2 0) = some (.int .i64 x3) ∧
 Calls Tryd.prog 75 #[(.slice b1 b1n b1c), (.int .i64 x3)] w fun e4 w5 => ∃ x6 : Int, e4 = .returned (.int .u8 x6) ∧
 (bif (decide (x6 = 0)) then
 (∀ w7 : World, w7 = World.drew w5 →
 optK f0 fun a8 =>
 ∃ x9 : Value, World.cell? w7 (Addr.add a8 1) = some x9 ∧
 optK f0 fun a10 =>
 ∃ x11 : Value, World.cell? w7 (Addr.add a10 2) = some x11 ∧
 R (.returned (.tuple #[x9, x11])) w7)
 else
 (∀ w12 : World, w12 = World.drew w5 →
 optK f0 fun a13 =>
 ∃ x14 : Value, World.cell? w12 (Addr.add a13 2) = some x14 ∧
 optK f0 fun a15 =>
 ∃ x16 : Value, World.cell? w12 (Addr.add a15 1) = some x16 ∧
 R (.returned (.tuple #[x14, x16])) w12))
theorem e116 (f0 : Option Addr) (b1 : Option Addr) (b1n : Nat) (b1c : Nat) (w : World) (R : Ending → World → Prop) : denS Tryd.prog s116 (argsEnv 0 [(.pointer f0), (.slice b1 b1n b1c)]) w (endK r116 R) = d116 f0 b1 b1n b1c w R := by kernel_rfl
theorem c116 (f0 : Option Addr) (b1 : Option Addr) (b1n : Nat) (b1c : Nat) {w : World} {R : Ending → World → Prop} (h : d116 f0 b1 b1n b1c w R) : Calls Tryd.prog 116 #[(.pointer f0), (.slice b1 b1n b1c)] w R :=
  den116 [(.pointer f0), (.slice b1 b1n b1c)] w R (by simp) ((e116 f0 b1 b1n b1c w R).symm ▸ h)

/-- (*prelude/proof.Tree).Root -/
def s32 : S := (.seq (.ops [⟨(some 2), (.alloc 24), .ptr, none⟩] [0, 2])
 (.seq (.seq (.ops [⟨(some 3), (.mv (.tmp 0)), .ptr, none⟩,
  ⟨(some 4), (.nc (.tmp 3)), .any, none⟩,
  ⟨(some 5), (.fa 0 (.tmp 4)), .ptr, none⟩,
  ⟨(some 6), (.ld1 (.tmp 5)), .any, none⟩,
  ⟨(some 7), (.nilEq false 4 (.tmp 6)), .bool, none⟩] [7, 2, 0])
 (.cond (.tmp 7)
 (.seq (.ops [⟨(some 8), (.bld 24 (.elems 1) []), .agg, none⟩,
  ⟨none, (.stN 32 (.tmp 2) (.tmp 8)), .any, none⟩] [2])
 .ret)
 .skip))
 (.seq (.ops [⟨(some 9), (.mv (.tmp 0)), .ptr, none⟩,
  ⟨(some 10), (.nc (.tmp 9)), .any, none⟩,
  ⟨(some 11), (.fa 0 (.tmp 10)), .ptr, none⟩,
  ⟨(some 12), (.ld1 (.tmp 11)), .any, none⟩,
  ⟨(some 13), (.inv (.tmp 12) "prelude/proof.digest" [] [.agg]), .agg, none⟩,
  ⟨none, (.stN 32 (.tmp 2) (.tmp 13)), .any, none⟩] [2])
 .ret)))
def r32 : List Res := [.cN 2 32]
theorem tr32 : trS Tryd.prog [] 14 (Tryd.f32.body.getD .skip) s32 = some s32 := by kernel_rfl
theorem den32 (args : List Value) (w : World) (R : Ending → World → Prop) (hn : args.length ≤ 14) (h : denS Tryd.prog s32 (argsEnv 0 args) w (endK r32 R)) : Calls Tryd.prog 32 args.toArray w R :=
  calls_of_den (pn := []) (fn := Tryd.f32) (c := Tryd.f32.body.getD .skip) Tryd.func32 (by kernel_rfl) (by rw [Tryd.ntmps32]; exact hn) (by rw [Tryd.ntmps32]; exact tr32) (by kernel_rfl) h
def d32 (t0 : Option Addr) (w : World) (R : Ending → World → Prop) : Prop :=
 ∀ w1 : World, w1 = World.alloc w (.cells (zc Tryd.prog 24).toArray 24) →
 optK t0 fun a2 =>
 ∃ x3 : Value, World.cell? w1 (Addr.add a2 0) = some x3 ∧
 nilQ 4 x3 fun q4 => (bif q4 then
 (∃ cs5, fillL (.elems 1) (zc Tryd.prog 24) [] = some cs5 ∧
 Array.size (List.toArray cs5) = 32 ∧ (∀ u ∈ Array.toList (List.toArray cs5), one u = true) ∧ Room w1 ⟨World.heap w |>.size, 0, none⟩ 32 ∧
 ∀ w6 : World, w6 = setCells w1 ⟨World.heap w |>.size, 0, none⟩ (Array.toList (List.toArray cs5)) 0 →
 ∃ cs7 : List Value, List.length cs7 = 32 ∧ Cells w6 ⟨World.heap w |>.size, 0, none⟩ cs7 ∧
 R (.returned (.agg (List.toArray cs7))) w6)
 else
 (optK t0 fun a8 =>
 ∃ x9 : Value, World.cell? w1 (Addr.add a8 0) = some x9 ∧
 ∃ t10 v11 g12 r13, x9 = .iface t10 v11 ∧ Sem.run Tryd.prog (method (Tryd.prog.types.size + Made.depth) t10 v11 "prelude/proof.digest") w1 = .ok (g12, r13) w1 ∧ HasBody Tryd.prog g12 ∧
 Calls Tryd.prog g12 (#[r13] ++ #[]) w1 fun e14 w15 => ∃ x16 : Array Value, e14 = .returned (.agg x16) ∧
 Array.size x16 = 32 ∧ (∀ u ∈ Array.toList x16, one u = true) ∧ Room w15 ⟨World.heap w |>.size, 0, none⟩ 32 ∧
 ∀ w17 : World, w17 = setCells w15 ⟨World.heap w |>.size, 0, none⟩ (Array.toList x16) 0 →
 ∃ cs18 : List Value, List.length cs18 = 32 ∧ Cells w17 ⟨World.heap w |>.size, 0, none⟩ cs18 ∧
 R (.returned (.agg (List.toArray cs18))) w17))
theorem e32 (t0 : Option Addr) (w : World) (R : Ending → World → Prop) : denS Tryd.prog s32 (argsEnv 0 [(.pointer t0)]) w (endK r32 R) = d32 t0 w R := by kernel_rfl
theorem c32 (t0 : Option Addr) {w : World} {R : Ending → World → Prop} (h : d32 t0 w R) : Calls Tryd.prog 32 #[(.pointer t0)] w R :=
  den32 [(.pointer t0)] w R (by simp) ((e32 t0 w R).symm ▸ h)

/-- (*prelude/proof.Tree).Node -/
def s36 : S := (.seq (.ops [⟨(some 3), (.box 24 (.tmp 1)), .ptr, none⟩,
  ⟨(some 4), (.alloc 33), .ptr, none⟩,
  ⟨(some 5), (.mv (.const (.bool false))), .bool, none⟩] [0, 3, 4])
 (.seq (.seq (.ops [⟨(some 8), (.mv (.tmp 0)), .ptr, none⟩,
  ⟨(some 9), (.nc (.tmp 8)), .any, none⟩,
  ⟨(some 10), (.fa 0 (.tmp 9)), .ptr, none⟩,
  ⟨(some 11), (.ld1 (.tmp 10)), .any, none⟩,
  ⟨(some 12), (.nilEq false 4 (.tmp 11)), .bool, none⟩] [12, 3, 4, 0])
 (.cond (.tmp 12)
 (.seq (.draw (.take 0 ⟨(some 13), (.bld 33 (.fields [(0, 1), (1, 1), (2, 32), (34, 32), (66, 3)]) []), .agg, none⟩
  (.take 1 ⟨(some 14), (.ldN 32 (.tmp 3)), .agg, none⟩
  (.take 2 ⟨(some 15), (.bld 24 (.elems 1) []), .agg, none⟩
  (.take 3 ⟨(some 16), (.eqG .eql 24 (.tmp 14) (.tmp 15)), .bool, none⟩
  (.go 4 ⟨none, (.stN 69 (.tmp 4) (.tmp 13)), .any, none⟩ [(3, ⟨(some 16), (.eqG .eql 24 (.tmp 14) (.tmp 15)), .bool, none⟩), (1, ⟨(some 14), (.ldN 32 (.tmp 3)), .agg, none⟩)]
  (.take 5 ⟨(some 5), (.mv (.tmp 16)), .bool, none⟩
  .done)))))) [4, 5])
 .ret)
 .skip))
 (.seq (.draw (.take 0 ⟨(some 18), (.mv (.tmp 0)), .ptr, none⟩
  (.take 1 ⟨(some 19), (.nc (.tmp 18)), .any, none⟩
  (.take 2 ⟨(some 20), (.fa 1 (.tmp 19)), .ptr, none⟩
  (.take 3 ⟨(some 21), (.ld1 (.tmp 20)), .mp, none⟩
  (.take 4 ⟨(some 22), (.ldN 32 (.tmp 3)), .agg, none⟩
  (.take 5 ⟨(some 23), (.look 113 (.tmp 21) (.tmp 22) true), .any, none⟩
  (.take 6 ⟨(some 17), (.mv (.tmp 23)), .any, none⟩
  (.take 7 ⟨(some 24), (.ext 0 (.tmp 17)), .any, none⟩
  (.take 8 ⟨(some 25), (.ext 1 (.tmp 17)), .bool, none⟩
  (.take 9 ⟨(some 6), (.mv (.tmp 24)), .any, none⟩
  (.take 10 ⟨(some 7), (.mv (.tmp 25)), .bool, none⟩
  .done))))))))))) [7, 4, 6])
 (.seq (.seq (.ops [⟨(some 26), (.mv (.tmp 7)), .bool, none⟩,
  ⟨(some 27), (.un .not (.tmp 26)), .bool, none⟩] [27, 4, 6])
 (.cond (.tmp 27)
 (.seq (.ops [⟨(some 28), (.bld 33 (.fields [(0, 1), (1, 1), (2, 32), (34, 32), (66, 3)]) []), .agg, none⟩,
  ⟨none, (.stN 69 (.tmp 4) (.tmp 28)), .any, none⟩,
  ⟨(some 5), (.mv (.const (.bool false))), .bool, none⟩] [4, 5])
 .ret)
 .skip))
 (.seq (.ops [⟨(some 29), (.mv (.tmp 6)), .any, none⟩,
  ⟨(some 30), (.inv (.tmp 29) "prelude/proof.node" [] [.agg]), .agg, none⟩,
  ⟨none, (.stN 69 (.tmp 4) (.tmp 30)), .any, none⟩,
  ⟨(some 5), (.mv (.const (.bool true))), .bool, none⟩] [4, 5])
 .ret)))))
def r36 : List Res := [.cN 4 69, .t 5]
theorem tr36 : trS Tryd.prog [] 31 (Tryd.f36.body.getD .skip) s36 = some s36 := by kernel_rfl
theorem den36 (args : List Value) (w : World) (R : Ending → World → Prop) (hn : args.length ≤ 31) (h : denS Tryd.prog s36 (argsEnv 0 args) w (endK r36 R)) : Calls Tryd.prog 36 args.toArray w R :=
  calls_of_den (pn := []) (fn := Tryd.f36) (c := Tryd.f36.body.getD .skip) Tryd.func36 (by kernel_rfl) (by rw [Tryd.ntmps36]; exact hn) (by rw [Tryd.ntmps36]; exact tr36) (by kernel_rfl) h
def d36 (t0 : Option Addr) (d1 : Array Value) (w : World) (R : Ending → World → Prop) : Prop :=
 ∀ w2 : World, w2 = World.alloc w (.cells d1 24) →
 ∀ w3 : World, w3 = World.alloc w2 (.cells (zc Tryd.prog 33).toArray 33) →
 optK t0 fun a4 =>
 ∃ x5 : Value, World.cell? w3 (Addr.add a4 0) = some x5 ∧
 nilQ 4 x5 fun q6 => (bif q6 then
 (∀ w7 : World, w7 = World.drew w3 →
 ∃ cs8, fillL (.fields [(0, 1), (1, 1), (2, 32), (34, 32), (66, 3)]) (zc Tryd.prog 33) [] = some cs8 ∧
 ∃ cs9 : List Value, List.length cs9 = 32 ∧ Cells w7 ⟨World.heap w |>.size, 0, none⟩ cs9 ∧
 ∃ cs10, fillL (.elems 1) (zc Tryd.prog 24) [] = some cs10 ∧
 ∃ q11 : Bool, Sem.run Tryd.prog (do eqGuard .eql 24 (.tmp 14) (.tmp 15) (.agg (List.toArray cs9)) (.agg (List.toArray cs10)); binOp .eql 24 (.agg (List.toArray cs9)) (.agg (List.toArray cs10))) w7 = .ok (.bool q11) w7 ∧
 Array.size (List.toArray cs8) = 69 ∧ (∀ u ∈ Array.toList (List.toArray cs8), one u = true) ∧ Room w7 ⟨World.heap w2 |>.size, 0, none⟩ 69 ∧
 ∀ w12 : World, w12 = setCells w7 ⟨World.heap w2 |>.size, 0, none⟩ (Array.toList (List.toArray cs8)) 0 →
 (∃ q13 : Bool, Sem.run Tryd.prog (do eqGuard .eql 24 (.tmp 14) (.tmp 15) (.agg (List.toArray cs9)) (.agg (List.toArray cs10)); binOp .eql 24 (.agg (List.toArray cs9)) (.agg (List.toArray cs10))) w12 = .ok (.bool q13) w12 ∧
 (((.bool q13) : Value) = (.bool q11) ∧ w12 = w12)) ∧
 (∃ cs14 : List Value, List.length cs14 = 32 ∧ Cells w12 ⟨World.heap w |>.size, 0, none⟩ cs14 ∧
 (((.agg (List.toArray cs14)) : Value) = (.agg (List.toArray cs9)) ∧ w12 = w12)) ∧
 ∃ cs15 : List Value, List.length cs15 = 69 ∧ Cells w12 ⟨World.heap w2 |>.size, 0, none⟩ cs15 ∧
 R (.returned (.tuple #[(.agg (List.toArray cs15)), (.bool q11)])) w12)
 else
 (∀ w16 : World, w16 = World.drew w3 →
 optK t0 fun a17 =>
 ∃ x18 : Option Nat, World.cell? w16 (Addr.add a17 1) = some (.map x18) ∧
 ∃ cs19 : List Value, List.length cs19 = 32 ∧ Cells w16 ⟨World.heap w |>.size, 0, none⟩ cs19 ∧
 ∃ v20, Sem.run Tryd.prog (Instr.lookup 113 (.map x18) (.agg (List.toArray cs19)) true) w16 = .ok v20 w16 ∧ ∃ x21 : Value, v20 = x21 ∧
 tupK x21 fun vs22 =>
 ∃ x23 : Value, (vs22)[0]? = some x23 ∧
 tupK x21 fun vs24 =>
 ∃ x25 : Bool, (vs24)[1]? = some (.bool x25) ∧
 (bif (!x25) then
 (∃ cs26, fillL (.fields [(0, 1), (1, 1), (2, 32), (34, 32), (66, 3)]) (zc Tryd.prog 33) [] = some cs26 ∧
 Array.size (List.toArray cs26) = 69 ∧ (∀ u ∈ Array.toList (List.toArray cs26), one u = true) ∧ Room w16 ⟨World.heap w2 |>.size, 0, none⟩ 69 ∧
 ∀ w27 : World, w27 = setCells w16 ⟨World.heap w2 |>.size, 0, none⟩ (Array.toList (List.toArray cs26)) 0 →
 ∃ cs28 : List Value, List.length cs28 = 69 ∧ Cells w27 ⟨World.heap w2 |>.size, 0, none⟩ cs28 ∧
 R (.returned (.tuple #[(.agg (List.toArray cs28)), (.bool false)])) w27)
 else
 (∃ t29 v30 g31 r32, x23 = .iface t29 v30 ∧ Sem.run Tryd.prog (method (Tryd.prog.types.size + Made.depth) t29 v30 "prelude/proof.node") w16 = .ok (g31, r32) w16 ∧ HasBody Tryd.prog g31 ∧
 Calls Tryd.prog g31 (#[r32] ++ #[]) w16 fun e33 w34 => ∃ x35 : Array Value, e33 = .returned (.agg x35) ∧
 Array.size x35 = 69 ∧ (∀ u ∈ Array.toList x35, one u = true) ∧ Room w34 ⟨World.heap w2 |>.size, 0, none⟩ 69 ∧
 ∀ w36 : World, w36 = setCells w34 ⟨World.heap w2 |>.size, 0, none⟩ (Array.toList x35) 0 →
 ∃ cs37 : List Value, List.length cs37 = 69 ∧ Cells w36 ⟨World.heap w2 |>.size, 0, none⟩ cs37 ∧
 R (.returned (.tuple #[(.agg (List.toArray cs37)), (.bool true)])) w36))))
theorem e36 (t0 : Option Addr) (d1 : Array Value) (w : World) (R : Ending → World → Prop) : denS Tryd.prog s36 (argsEnv 0 [(.pointer t0), (.agg d1)]) w (endK r36 R) = d36 t0 d1 w R := by kernel_rfl
theorem c36 (t0 : Option Addr) (d1 : Array Value) {w : World} {R : Ending → World → Prop} (h : d36 t0 d1 w R) : Calls Tryd.prog 36 #[(.pointer t0), (.agg d1)] w R :=
  den36 [(.pointer t0), (.agg d1)] w R (by simp) ((e36 t0 d1 w R).symm ▸ h)

/-- (*prelude/proof.Tree).Prove -/
def s39 : S := (.seq (.ops [⟨(some 3), (.box 29 (.tmp 1)), .ptr, none⟩,
  ⟨(some 4), (.alloc 43), .ptr, none⟩,
  ⟨(some 5), (.mv (.const (.int .i64 0))), (.int .i64), none⟩] [3, 4, 0])
 (.seq (.ops [⟨(some 14), (.ldN 2 (.tmp 3)), .agg, none⟩,
  ⟨(some 15), (.call 55 [(.tmp 14)] [.sl, (.int .i64)]), .any, none⟩,
  ⟨(some 13), (.mv (.tmp 15)), .any, none⟩,
  ⟨(some 16), (.ext 0 (.tmp 13)), .sl, none⟩,
  ⟨(some 17), (.ext 1 (.tmp 13)), (.int .i64), none⟩,
  ⟨(some 6), (.mv (.tmp 16)), .sl, none⟩,
  ⟨(some 7), (.mv (.tmp 17)), (.int .i64), none⟩] [7, 4, 0, 6])
 (.seq (.seq (.ops [⟨(some 18), (.mv (.tmp 7)), (.int .i64), none⟩,
  ⟨(some 19), (.bin .neq (.tmp 18) (.const (.int .i64 0))), .bool, none⟩] [19, 7, 4, 0, 6])
 (.cond (.tmp 19)
 (.seq (.ops [⟨(some 20), (.bld 43 (.fields [(0, 1), (1, 1), (2, 3)]) []), .agg, none⟩,
  ⟨(some 21), (.mv (.tmp 7)), (.int .i64), none⟩,
  ⟨none, (.stN 5 (.tmp 4) (.tmp 20)), .any, none⟩,
  ⟨(some 5), (.mv (.tmp 21)), (.int .i64), none⟩] [4, 5])
 .ret)
 .skip))
 (.seq (.ops [⟨(some 8), (.alloc 43), .ptr, none⟩] [0, 6, 8, 4])
 (.seq (.seq (.ops [⟨(some 22), (.mv (.tmp 0)), .ptr, none⟩,
  ⟨(some 23), (.nc (.tmp 22)), .any, none⟩,
  ⟨(some 24), (.fa 0 (.tmp 23)), .ptr, none⟩,
  ⟨(some 25), (.ld1 (.tmp 24)), .any, none⟩,
  ⟨(some 9), (.mv (.tmp 25)), .any, none⟩] [9, 6, 8, 4])
 (.block 0
 (.loop [(9, .any)] [4, 6, 8]
 (.seq (.seq (.ops [⟨(some 26), (.mv (.tmp 9)), .any, none⟩,
  ⟨(some 27), (.nilEq true 4 (.tmp 26)), .bool, none⟩] [27, 9, 6, 8, 4])
 (.cond (.tmp 27)
 .skip
 (.exit 0)))
 (.block 1
 (.seq (.ops [⟨(some 28), (.mv (.tmp 9)), .any, none⟩,
  ⟨(some 29), (.inv (.tmp 28) "prelude/proof.node" [] [.agg]), .agg, none⟩,
  ⟨(some 10), (.alloc 33), .ptr, none⟩,
  ⟨none, (.stN 69 (.tmp 10) (.tmp 29)), .any, none⟩] [9, 6, 10, 8, 4])
 (.seq (.ops [⟨(some 31), (.mv (.tmp 9)), .any, none⟩,
  ⟨(some 32), (.mv (.tmp 6)), .sl, none⟩,
  ⟨(some 33), (.inv (.tmp 31) "prelude/proof.toward" [(.tmp 32)] [.any, .any]), .any, none⟩,
  ⟨(some 30), (.mv (.tmp 33)), .any, none⟩,
  ⟨(some 34), (.ext 0 (.tmp 30)), .any, none⟩,
  ⟨(some 35), (.ext 1 (.tmp 30)), .any, none⟩,
  ⟨(some 11), (.mv (.tmp 34)), .any, none⟩,
  ⟨(some 12), (.mv (.tmp 35)), .any, none⟩] [11, 10, 8, 4, 12, 6])
 (.seq (.seq (.ops [⟨(some 36), (.mv (.tmp 11)), .any, none⟩,
  ⟨(some 37), (.nilEq false 4 (.tmp 36)), .bool, none⟩] [37, 10, 8, 4, 12, 11, 6])
 (.cond (.tmp 37)
 (.seq (.draw (.take 0 ⟨(some 38), (.fa 66 (.tmp 10)), .ptr, none⟩
  (.take 1 ⟨(some 39), (.ldN 3 (.tmp 38)), .agg, none⟩
  (.take 2 ⟨(some 40), (.fa 1 (.tmp 8)), .ptr, none⟩
  (.go 3 ⟨none, (.st1 (.tmp 40) (.const (.bool true))), .any, none⟩ [(1, ⟨(some 39), (.ldN 3 (.tmp 38)), .agg, none⟩)]
  (.take 4 ⟨(some 41), (.fa 2 (.tmp 8)), .ptr, none⟩
  (.go 5 ⟨none, (.stN 3 (.tmp 41) (.tmp 39)), .any, none⟩ []
  .done)))))) [8, 4])
 (.exit 0))
 .skip))
 (.seq (.draw (.take 0 ⟨(some 42), (.fa 0 (.tmp 8)), .ptr, none⟩
  (.take 1 ⟨(some 43), (.ld1 (.tmp 42)), .sl, none⟩
  (.take 2 ⟨(some 44), (.fa 1 (.tmp 10)), .ptr, none⟩
  (.take 3 ⟨(some 45), (.ld1 (.tmp 44)), (.int .i64), none⟩
  (.take 4 ⟨(some 46), (.mv (.tmp 12)), .any, none⟩
  (.go 5 ⟨(some 47), (.inv (.tmp 46) "prelude/proof.digest" [] [.agg]), .agg, none⟩ [(3, ⟨(some 45), (.ld1 (.tmp 44)), (.int .i64), none⟩), (1, ⟨(some 43), (.ld1 (.tmp 42)), .sl, none⟩)]
  (.take 6 ⟨(some 48), (.bld 51 (.fields [(0, 1), (1, 32)]) [(0, (.tmp 45)), (1, (.tmp 47))]), .agg, none⟩
  (.go 7 ⟨(some 49), (.bldS 51 1 33 [(0, (.tmp 48))]), .sl, none⟩ [(1, ⟨(some 43), (.ld1 (.tmp 42)), .sl, none⟩)]
  (.go 8 ⟨(some 50), (.app #[41, 41] 41 (.tmp 43) (.tmp 49)), .sl, none⟩ []
  (.take 9 ⟨(some 51), (.fa 0 (.tmp 8)), .ptr, none⟩
  (.go 10 ⟨none, (.st1 (.tmp 51) (.tmp 50)), .any, none⟩ []
  .done))))))))))) [11, 6, 8, 4])
 (.ops [⟨(some 52), (.mv (.tmp 11)), .any, none⟩,
  ⟨(some 9), (.mv (.tmp 52)), .any, none⟩] [9, 6, 8, 4]))))))))))
 (.seq (.ops [⟨(some 53), (.ldN 5 (.tmp 8)), .agg, none⟩,
  ⟨none, (.stN 5 (.tmp 4) (.tmp 53)), .any, none⟩,
  ⟨(some 5), (.mv (.const (.int .i64 0))), (.int .i64), none⟩] [4, 5])
 .ret))))))
def r39 : List Res := [.cN 4 5, .t 5]
theorem tr39 : trS Tryd.prog [] 54 (Tryd.f39.body.getD .skip) s39 = some s39 := by kernel_rfl
theorem den39 (args : List Value) (w : World) (R : Ending → World → Prop) (hn : args.length ≤ 54) (h : denS Tryd.prog s39 (argsEnv 0 args) w (endK r39 R)) : Calls Tryd.prog 39 args.toArray w R :=
  calls_of_den (pn := []) (fn := Tryd.f39) (c := Tryd.f39.body.getD .skip) Tryd.func39 (by kernel_rfl) (by rw [Tryd.ntmps39]; exact hn) (by rw [Tryd.ntmps39]; exact tr39) (by kernel_rfl) h
def d39 (t0 : Option Addr) (k1 : Array Value) (w : World) (R : Ending → World → Prop) : Prop :=
 ∀ w2 : World, w2 = World.alloc w (.cells k1 29) →
 ∀ w3 : World, w3 = World.alloc w2 (.cells (zc Tryd.prog 43).toArray 43) →
 ∃ cs4 : List Value, List.length cs4 = 2 ∧ Cells w3 ⟨World.heap w |>.size, 0, none⟩ cs4 ∧
 Calls Tryd.prog 55 #[(.agg (List.toArray cs4))] w3 fun e5 w6 => ∃ (x7 : Option Addr) (x7n : Nat) (x7c : Nat), ∃ x8 : Int, e5 = .returned (.tuple #[(.slice x7 x7n x7c), (.int .i64 x8)]) ∧
 ∃ (x9 : Option Addr) (x9n : Nat) (x9c : Nat), (#[(.slice x7 x7n x7c), (.int .i64 x8)] : Array Value)[0]? = some (.slice x9 x9n x9c) ∧
 ∃ x10 : Int, (#[(.slice x7 x7n x7c), (.int .i64 x8)] : Array Value)[1]? = some (.int .i64 x10) ∧
 (bif (!decide (x10 = 0)) then
 (∃ cs11, fillL (.fields [(0, 1), (1, 1), (2, 3)]) (zc Tryd.prog 43) [] = some cs11 ∧
 Array.size (List.toArray cs11) = 5 ∧ (∀ u ∈ Array.toList (List.toArray cs11), one u = true) ∧ Room w6 ⟨World.heap w2 |>.size, 0, none⟩ 5 ∧
 ∀ w12 : World, w12 = setCells w6 ⟨World.heap w2 |>.size, 0, none⟩ (Array.toList (List.toArray cs11)) 0 →
 ∃ cs13 : List Value, List.length cs13 = 5 ∧ Cells w12 ⟨World.heap w2 |>.size, 0, none⟩ cs13 ∧
 R (.returned (.tuple #[(.agg (List.toArray cs13)), (.int .i64 x10)])) w12)
 else
 (∀ w14 : World, w14 = World.alloc w6 (.cells (zc Tryd.prog 43).toArray 43) →
 optK t0 fun a15 =>
 ∃ x16 : Value, World.cell? w14 (Addr.add a15 0) = some x16 ∧
 ∃ I17 : Nat → Value → World → Prop,
 (∃ m, I17 m x16 w14) ∧
 (∀ (m18 : Nat) (w19 : World) (at20 : Value), I17 m18 at20 w19 →
 nilQ 4 at20 fun q21 => (bif (!q21) then
 (∃ t22 v23 g24 r25, at20 = .iface t22 v23 ∧ Sem.run Tryd.prog (method (Tryd.prog.types.size + Made.depth) t22 v23 "prelude/proof.node") w19 = .ok (g24, r25) w19 ∧ HasBody Tryd.prog g24 ∧
 Calls Tryd.prog g24 (#[r25] ++ #[]) w19 fun e26 w27 => ∃ x28 : Array Value, e26 = .returned (.agg x28) ∧
 ∀ w29 : World, w29 = World.alloc w27 (.cells (zc Tryd.prog 33).toArray 33) →
 Array.size x28 = 69 ∧ (∀ u ∈ Array.toList x28, one u = true) ∧ Room w29 ⟨World.heap w27 |>.size, 0, none⟩ 69 ∧
 ∀ w30 : World, w30 = setCells w29 ⟨World.heap w27 |>.size, 0, none⟩ (Array.toList x28) 0 →
 ∃ t31 v32 g33 r34, at20 = .iface t31 v32 ∧ Sem.run Tryd.prog (method (Tryd.prog.types.size + Made.depth) t31 v32 "prelude/proof.toward") w30 = .ok (g33, r34) w30 ∧ HasBody Tryd.prog g33 ∧
 Calls Tryd.prog g33 (#[r34] ++ #[(.slice x9 x9n x9c)]) w30 fun e35 w36 => ∃ x37 : Value, ∃ x38 : Value, e35 = .returned (.tuple #[x37, x38]) ∧
 ∃ x39 : Value, (#[x37, x38] : Array Value)[0]? = some x39 ∧
 ∃ x40 : Value, (#[x37, x38] : Array Value)[1]? = some x40 ∧
 nilQ 4 x39 fun q41 => (bif q41 then
 (∀ w42 : World, w42 = World.drew w36 →
 ∃ cs43 : List Value, List.length cs43 = 3 ∧ Cells w42 (Addr.add ⟨World.heap w27 |>.size, 0, none⟩ 66) cs43 ∧
 one (.bool true) = true ∧ Option.isSome (World.cell? w42 (Addr.add ⟨World.heap w6 |>.size, 0, none⟩ 1)) = true ∧ World.frozen? w42 (Addr.add ⟨World.heap w6 |>.size, 0, none⟩ 1) = false ∧
 ∀ w44 : World, w44 = World.setCell w42 (Addr.add ⟨World.heap w6 |>.size, 0, none⟩ 1) (.bool true) →
 (∃ cs45 : List Value, List.length cs45 = 3 ∧ Cells w44 (Addr.add ⟨World.heap w27 |>.size, 0, none⟩ 66) cs45 ∧
 (((.agg (List.toArray cs45)) : Value) = (.agg (List.toArray cs43)) ∧ w44 = w44)) ∧
 Array.size (List.toArray cs43) = 3 ∧ (∀ u ∈ Array.toList (List.toArray cs43), one u = true) ∧ Room w44 (Addr.add ⟨World.heap w6 |>.size, 0, none⟩ 2) 3 ∧
 ∀ w46 : World, w46 = setCells w44 (Addr.add ⟨World.heap w6 |>.size, 0, none⟩ 2) (Array.toList (List.toArray cs43)) 0 →
 ∃ cs47 : List Value, List.length cs47 = 5 ∧ Cells w46 ⟨World.heap w6 |>.size, 0, none⟩ cs47 ∧
 Array.size (List.toArray cs47) = 5 ∧ (∀ u ∈ Array.toList (List.toArray cs47), one u = true) ∧ Room w46 ⟨World.heap w2 |>.size, 0, none⟩ 5 ∧
 ∀ w48 : World, w48 = setCells w46 ⟨World.heap w2 |>.size, 0, none⟩ (Array.toList (List.toArray cs47)) 0 →
 ∃ cs49 : List Value, List.length cs49 = 5 ∧ Cells w48 ⟨World.heap w2 |>.size, 0, none⟩ cs49 ∧
 R (.returned (.tuple #[(.agg (List.toArray cs49)), (.int .i64 0)])) w48)
 else
 (∀ w50 : World, w50 = World.drew w36 →
 ∃ (x51 : Option Addr) (x51n : Nat) (x51c : Nat), World.cell? w50 (Addr.add ⟨World.heap w6 |>.size, 0, none⟩ 0) = some (.slice x51 x51n x51c) ∧
 ∃ x52 : Int, World.cell? w50 (Addr.add ⟨World.heap w27 |>.size, 0, none⟩ 1) = some (.int .i64 x52) ∧
 ∃ t53 v54 g55 r56, x40 = .iface t53 v54 ∧ Sem.run Tryd.prog (method (Tryd.prog.types.size + Made.depth) t53 v54 "prelude/proof.digest") w50 = .ok (g55, r56) w50 ∧ HasBody Tryd.prog g55 ∧
 Calls Tryd.prog g55 (#[r56] ++ #[]) w50 fun e57 w58 => ∃ x59 : Array Value, e57 = .returned (.agg x59) ∧
 (∃ z60 : Int, World.cell? w58 (Addr.add ⟨World.heap w27 |>.size, 0, none⟩ 1) = some (.int .i64 z60) ∧
 (((.int .i64 z60) : Value) = (.int .i64 x52) ∧ w58 = w58)) ∧
 (∃ (z61 : Option Addr) (z61n : Nat) (z61c : Nat), World.cell? w58 (Addr.add ⟨World.heap w6 |>.size, 0, none⟩ 0) = some (.slice z61 z61n z61c) ∧
 (((.slice z61 z61n z61c) : Value) = (.slice x51 x51n x51c) ∧ w58 = w58)) ∧
 ∃ cs62, fillL (.fields [(0, 1), (1, 32)]) (zc Tryd.prog 51) [(0, (.int .i64 x52)), (1, (.agg x59))] = some cs62 ∧
 ∃ cs63, fillL (.elems 33) (zrep (zc Tryd.prog 51) (1 * 33)) [(0, (.agg (List.toArray cs62)))] = some cs63 ∧
 ∀ w64 : World, w64 = World.alloc w58 (.cells (List.toArray cs63) 51) →
 (∃ (z65 : Option Addr) (z65n : Nat) (z65c : Nat), World.cell? w64 (Addr.add ⟨World.heap w6 |>.size, 0, none⟩ 0) = some (.slice z65 z65n z65c) ∧
 (((.slice z65 z65n z65c) : Value) = (.slice x51 x51n x51c) ∧ w64 = w64)) ∧
 RunV Tryd.prog (Builtin.append_ #[41, 41] 41 #[(.slice x51 x51n x51c), (.slice (some ⟨World.heap w58 |>.size, 0, none⟩) 1 1)]) w64 fun v66 w67 => ∃ (x68 : Option Addr) (x68n : Nat) (x68c : Nat), v66 = (.slice x68 x68n x68c) ∧
 one (.slice x68 x68n x68c) = true ∧ Option.isSome (World.cell? w67 (Addr.add ⟨World.heap w6 |>.size, 0, none⟩ 0)) = true ∧ World.frozen? w67 (Addr.add ⟨World.heap w6 |>.size, 0, none⟩ 0) = false ∧
 ∀ w69 : World, w69 = World.setCell w67 (Addr.add ⟨World.heap w6 |>.size, 0, none⟩ 0) (.slice x68 x68n x68c) →
 ∃ m70, m70 < m18 ∧ I17 m70 x39 w69)))
 else
 (∃ cs71 : List Value, List.length cs71 = 5 ∧ Cells w19 ⟨World.heap w6 |>.size, 0, none⟩ cs71 ∧
 Array.size (List.toArray cs71) = 5 ∧ (∀ u ∈ Array.toList (List.toArray cs71), one u = true) ∧ Room w19 ⟨World.heap w2 |>.size, 0, none⟩ 5 ∧
 ∀ w72 : World, w72 = setCells w19 ⟨World.heap w2 |>.size, 0, none⟩ (Array.toList (List.toArray cs71)) 0 →
 ∃ cs73 : List Value, List.length cs73 = 5 ∧ Cells w72 ⟨World.heap w2 |>.size, 0, none⟩ cs73 ∧
 R (.returned (.tuple #[(.agg (List.toArray cs73)), (.int .i64 0)])) w72)))))
theorem e39 (t0 : Option Addr) (k1 : Array Value) (w : World) (R : Ending → World → Prop) : denS Tryd.prog s39 (argsEnv 0 [(.pointer t0), (.agg k1)]) w (endK r39 R) = d39 t0 k1 w R := by kernel_rfl
theorem c39 (t0 : Option Addr) (k1 : Array Value) {w : World} {R : Ending → World → Prop} (h : d39 t0 k1 w R) : Calls Tryd.prog 39 #[(.pointer t0), (.agg k1)] w R :=
  den39 [(.pointer t0), (.agg k1)] w R (by simp) ((e39 t0 k1 w R).symm ▸ h)

/-- prelude/preluderef24.split -/
def s66 : S := (.seq (.ops [⟨(some 2), (.mv (.const (.int .i64 0))), (.int .i64), none⟩,
  ⟨(some 3), (.mv (.const (.int .i64 0))), (.int .i64), none⟩] [0])
 (.seq (.ops [⟨(some 4), (.mv (.const (.int .i64 0))), (.int .i64), none⟩] [0, 4])
 (.seq (.block 0
 (.loop [(4, (.int .i64))] [0]
 (.seq (.seq (.draw (.take 0 ⟨(some 6), (.mv (.tmp 0)), .sl, none⟩
  (.take 1 ⟨(some 7), (.ia 3 (.tmp 6) (.const (.int .i64 0))), .ptr, none⟩
  (.take 2 ⟨(some 8), (.fa 0 (.tmp 7)), .ptr, none⟩
  (.take 3 ⟨(some 9), (.ldN 2 (.tmp 8)), .agg, none⟩
  (.take 4 ⟨(some 10), (.mv (.tmp 4)), (.int .i64), none⟩
  (.take 6 ⟨(some 12), (.mv (.tmp 0)), .sl, none⟩
  (.take 7 ⟨(some 13), (.mv (.tmp 0)), .sl, none⟩
  (.take 8 ⟨(some 14), (.len (.tmp 13)), (.int .i64), none⟩
  (.take 9 ⟨(some 15), (.bin .sub (.tmp 14) (.const (.int .i64 1))), (.int .i64), none⟩
  (.take 10 ⟨(some 16), (.ia 3 (.tmp 12) (.tmp 15)), .ptr, none⟩
  (.take 11 ⟨(some 17), (.fa 0 (.tmp 16)), .ptr, none⟩
  (.take 12 ⟨(some 18), (.ldN 2 (.tmp 17)), .agg, none⟩
  (.take 13 ⟨(some 19), (.mv (.tmp 4)), (.int .i64), none⟩
  (.go 5 ⟨(some 11), (.call 59 [(.tmp 9), (.tmp 10)] [(.int .i64)]), (.int .i64), none⟩ [(12, ⟨(some 18), (.ldN 2 (.tmp 17)), .agg, none⟩)]
  (.go 14 ⟨(some 20), (.call 59 [(.tmp 18), (.tmp 19)] [(.int .i64)]), (.int .i64), none⟩ []
  (.take 15 ⟨(some 21), (.bin .eql (.tmp 11) (.tmp 20)), .bool, none⟩
  .done)))))))))))))))) [21, 4, 0])
 (.cond (.tmp 21)
 .skip
 (.exit 0)))
 (.block 1
 (.ops [⟨(some 22), (.mv (.tmp 4)), (.int .i64), none⟩,
  ⟨(some 23), (.bin .add (.tmp 22) (.const (.int .i64 1))), (.int .i64), none⟩,
  ⟨(some 4), (.mv (.tmp 23)), (.int .i64), none⟩] [0, 4])))))
 (.seq (.ops [⟨(some 5), (.mv (.const (.int .i64 0))), (.int .i64), none⟩] [0, 5, 4])
 (.seq (.block 2
 (.loop [(5, (.int .i64))] [0, 4]
 (.seq (.seq (.ops [⟨(some 24), (.mv (.tmp 0)), .sl, none⟩,
  ⟨(some 25), (.mv (.tmp 5)), (.int .i64), none⟩,
  ⟨(some 26), (.ia 3 (.tmp 24) (.tmp 25)), .ptr, none⟩,
  ⟨(some 27), (.fa 0 (.tmp 26)), .ptr, none⟩,
  ⟨(some 28), (.ldN 2 (.tmp 27)), .agg, none⟩,
  ⟨(some 29), (.mv (.tmp 4)), (.int .i64), none⟩,
  ⟨(some 30), (.call 59 [(.tmp 28), (.tmp 29)] [(.int .i64)]), (.int .i64), none⟩,
  ⟨(some 31), (.bin .eql (.tmp 30) (.const (.int .i64 0))), .bool, none⟩] [31, 5, 0, 4])
 (.cond (.tmp 31)
 .skip
 (.exit 2)))
 (.block 3
 (.ops [⟨(some 32), (.mv (.tmp 5)), (.int .i64), none⟩,
  ⟨(some 33), (.bin .add (.tmp 32) (.const (.int .i64 1))), (.int .i64), none⟩,
  ⟨(some 5), (.mv (.tmp 33)), (.int .i64), none⟩] [0, 5, 4])))))
 (.seq (.ops [⟨(some 34), (.mv (.tmp 4)), (.int .i64), none⟩,
  ⟨(some 35), (.mv (.tmp 5)), (.int .i64), none⟩,
  ⟨(some 2), (.mv (.tmp 34)), (.int .i64), none⟩,
  ⟨(some 3), (.mv (.tmp 35)), (.int .i64), none⟩] [2, 3])
 .ret))))))
def r66 : List Res := [.t 2, .t 3]
theorem tr66 : trS Tryd.prog [] 36 (Tryd.f66.body.getD .skip) s66 = some s66 := by kernel_rfl
theorem den66 (args : List Value) (w : World) (R : Ending → World → Prop) (hn : args.length ≤ 36) (h : denS Tryd.prog s66 (argsEnv 0 args) w (endK r66 R)) : Calls Tryd.prog 66 args.toArray w R :=
  calls_of_den (pn := []) (fn := Tryd.f66) (c := Tryd.f66.body.getD .skip) Tryd.func66 (by kernel_rfl) (by rw [Tryd.ntmps66]; exact hn) (by rw [Tryd.ntmps66]; exact tr66) (by kernel_rfl) h
def d66 (rows0 : Option Addr) (rows0n : Nat) (rows0c : Nat) (w : World) (R : Ending → World → Prop) : Prop :=
 ∃ I1 : Nat → Int → World → Prop,
 (∃ m, I1 m 0 w) ∧
 (∀ (m2 : Nat) (w3 : World) (bit4 : Int), I1 m2 bit4 w3 →
 ∀ w5 : World, w5 = World.drew w3 →
 0 ≤ (0 : Int) ∧ (0 : Int) < ((rows0n : Nat) : Int) ∧ optK rows0 fun a6 =>
 ∃ cs7 : List Value, List.length cs7 = 2 ∧ Cells w5 (Addr.add (Addr.add a6 (Int.toNat 0 * 3)) 0) cs7 ∧
 0 ≤ (IntKind.wrap .i64 (((rows0n : Nat) : Int) - 1)) ∧ (IntKind.wrap .i64 (((rows0n : Nat) : Int) - 1)) < ((rows0n : Nat) : Int) ∧ optK rows0 fun a8 =>
 ∃ cs9 : List Value, List.length cs9 = 2 ∧ Cells w5 (Addr.add (Addr.add a8 (Int.toNat (IntKind.wrap .i64 (((rows0n : Nat) : Int) - 1)) * 3)) 0) cs9 ∧
 Calls Tryd.prog 59 #[(.agg (List.toArray cs7)), (.int .i64 bit4)] w5 fun e10 w11 => ∃ x12 : Int, e10 = .returned (.int .i64 x12) ∧
 (∃ cs13 : List Value, List.length cs13 = 2 ∧ Cells w11 (Addr.add (Addr.add a8 (Int.toNat (IntKind.wrap .i64 (((rows0n : Nat) : Int) - 1)) * 3)) 0) cs13 ∧
 (((.agg (List.toArray cs13)) : Value) = (.agg (List.toArray cs9)) ∧ w11 = w11)) ∧
 Calls Tryd.prog 59 #[(.agg (List.toArray cs9)), (.int .i64 bit4)] w11 fun e14 w15 => ∃ x16 : Int, e14 = .returned (.int .i64 x16) ∧
 (bif (decide (x12 = x16)) then
 (∃ m17, m17 < m2 ∧ I1 m17 (IntKind.wrap .i64 (bit4 + 1)) w15)
 else
 (∃ I18 : Nat → Int → World → Prop,
 (∃ m, I18 m 0 w15) ∧
 (∀ (m19 : Nat) (w20 : World) (n21 : Int), I18 m19 n21 w20 →
 0 ≤ n21 ∧ n21 < ((rows0n : Nat) : Int) ∧ optK rows0 fun a22 =>
 ∃ cs23 : List Value, List.length cs23 = 2 ∧ Cells w20 (Addr.add (Addr.add a22 (Int.toNat n21 * 3)) 0) cs23 ∧
 Calls Tryd.prog 59 #[(.agg (List.toArray cs23)), (.int .i64 bit4)] w20 fun e24 w25 => ∃ x26 : Int, e24 = .returned (.int .i64 x26) ∧
 (bif (decide (x26 = 0)) then
 (∃ m27, m27 < m19 ∧ I18 m27 (IntKind.wrap .i64 (n21 + 1)) w25)
 else
 (R (.returned (.tuple #[(.int .i64 bit4), (.int .i64 n21)])) w25))))))
theorem e66 (rows0 : Option Addr) (rows0n : Nat) (rows0c : Nat) (w : World) (R : Ending → World → Prop) : denS Tryd.prog s66 (argsEnv 0 [(.slice rows0 rows0n rows0c)]) w (endK r66 R) = d66 rows0 rows0n rows0c w R := by kernel_rfl
theorem c66 (rows0 : Option Addr) (rows0n : Nat) (rows0c : Nat) {w : World} {R : Ending → World → Prop} (h : d66 rows0 rows0n rows0c w R) : Calls Tryd.prog 66 #[(.slice rows0 rows0n rows0c)] w R :=
  den66 [(.slice rows0 rows0n rows0c)] w R (by simp) ((e66 rows0 rows0n rows0c w R).symm ▸ h)

/-- prelude/preluderef24.Nodes -/
def s30 : S := (.seq (.ops [⟨(some 2), (.mv (.const (.slice none 0 0))), .sl, none⟩] [0])
 (.seq (.seq (.ops [⟨(some 12), (.mv (.tmp 0)), .sl, none⟩,
  ⟨(some 13), (.len (.tmp 12)), (.int .i64), none⟩,
  ⟨(some 14), (.bin .eql (.tmp 13) (.const (.int .i64 0))), .bool, none⟩] [14, 0])
 (.cond (.tmp 14)
 (.seq (.ops [⟨(some 15), (.bld 33 (.fields [(0, 1), (1, 1), (2, 32), (34, 32), (66, 3)]) []), .agg, none⟩,
  ⟨(some 16), (.bldS 33 1 69 [(0, (.tmp 15))]), .sl, none⟩,
  ⟨(some 2), (.mv (.tmp 16)), .sl, none⟩] [2])
 .ret)
 .skip))
 (.seq (.seq (.ops [⟨(some 17), (.mv (.tmp 0)), .sl, none⟩,
  ⟨(some 18), (.len (.tmp 17)), (.int .i64), none⟩,
  ⟨(some 19), (.bin .eql (.tmp 18) (.const (.int .i64 1))), .bool, none⟩] [19, 0])
 (.cond (.tmp 19)
 (.seq (.ops [⟨(some 20), (.mv (.tmp 0)), .sl, none⟩,
  ⟨(some 21), (.ia 3 (.tmp 20) (.const (.int .i64 0))), .ptr, none⟩,
  ⟨(some 22), (.ldN 3 (.tmp 21)), .agg, none⟩,
  ⟨(some 23), (.bld 33 (.fields [(0, 1), (1, 1), (2, 32), (34, 32), (66, 3)]) [(0, (.const (.int .i64 1))), (4, (.tmp 22))]), .agg, none⟩,
  ⟨(some 24), (.bldS 33 1 69 [(0, (.tmp 23))]), .sl, none⟩,
  ⟨(some 2), (.mv (.tmp 24)), .sl, none⟩] [2])
 .ret)
 .skip))
 (.seq (.ops [⟨(some 26), (.mv (.tmp 0)), .sl, none⟩,
  ⟨(some 27), (.call 66 [(.tmp 26)] [(.int .i64), (.int .i64)]), .any, none⟩,
  ⟨(some 25), (.mv (.tmp 27)), .any, none⟩,
  ⟨(some 28), (.ext 0 (.tmp 25)), (.int .i64), none⟩,
  ⟨(some 29), (.ext 1 (.tmp 25)), (.int .i64), none⟩,
  ⟨(some 3), (.mv (.tmp 28)), (.int .i64), none⟩,
  ⟨(some 4), (.mv (.tmp 29)), (.int .i64), none⟩] [0, 4, 3])
 (.seq (.ops [⟨(some 30), (.mv (.tmp 0)), .sl, none⟩,
  ⟨(some 31), (.mv (.tmp 4)), (.int .i64), none⟩,
  ⟨(some 32), (.slS 3 (.tmp 30) none (some (.tmp 31)) none), .sl, none⟩,
  ⟨(some 33), (.call 30 [(.tmp 32)] [.sl]), .sl, none⟩,
  ⟨(some 5), (.mv (.tmp 33)), .sl, none⟩] [0, 4, 5, 3])
 (.seq (.ops [⟨(some 34), (.mv (.tmp 0)), .sl, none⟩,
  ⟨(some 35), (.mv (.tmp 4)), (.int .i64), none⟩,
  ⟨(some 36), (.slS 3 (.tmp 34) (some (.tmp 35)) none none), .sl, none⟩,
  ⟨(some 37), (.call 30 [(.tmp 36)] [.sl]), .sl, none⟩,
  ⟨(some 6), (.mv (.tmp 37)), .sl, none⟩] [5, 6, 3])
 (.seq (.ops [⟨(some 39), (.mv (.tmp 5)), .sl, none⟩,
  ⟨(some 40), (.ia 69 (.tmp 39) (.const (.int .i64 0))), .ptr, none⟩,
  ⟨(some 41), (.ldN 69 (.tmp 40)), .agg, none⟩,
  ⟨(some 42), (.call 16 [(.tmp 41)] [.agg, (.int .i64)]), .any, none⟩,
  ⟨(some 38), (.mv (.tmp 42)), .any, none⟩,
  ⟨(some 43), (.ext 0 (.tmp 38)), .agg, none⟩,
  ⟨(some 44), (.ext 1 (.tmp 38)), (.int .i64), none⟩,
  ⟨(some 7), (.alloc 24), .ptr, none⟩,
  ⟨none, (.stN 32 (.tmp 7) (.tmp 43)), .any, none⟩,
  ⟨(some 8), (.mv (.tmp 44)), (.int .i64), none⟩] [6, 3, 7, 5])
 (.seq (.ops [⟨(some 46), (.mv (.tmp 6)), .sl, none⟩,
  ⟨(some 47), (.ia 69 (.tmp 46) (.const (.int .i64 0))), .ptr, none⟩,
  ⟨(some 48), (.ldN 69 (.tmp 47)), .agg, none⟩,
  ⟨(some 49), (.call 16 [(.tmp 48)] [.agg, (.int .i64)]), .any, none⟩,
  ⟨(some 45), (.mv (.tmp 49)), .any, none⟩,
  ⟨(some 50), (.ext 0 (.tmp 45)), .agg, none⟩,
  ⟨(some 51), (.ext 1 (.tmp 45)), (.int .i64), none⟩,
  ⟨(some 9), (.alloc 24), .ptr, none⟩,
  ⟨none, (.stN 32 (.tmp 9) (.tmp 50)), .any, none⟩,
  ⟨(some 10), (.mv (.tmp 51)), (.int .i64), none⟩] [3, 7, 9, 5, 6])
 (.seq (.ops [⟨(some 52), (.mv (.tmp 3)), (.int .i64), none⟩,
  ⟨(some 53), (.ldN 32 (.tmp 7)), .agg, none⟩,
  ⟨(some 54), (.ldN 32 (.tmp 9)), .agg, none⟩,
  ⟨(some 55), (.bld 33 (.fields [(0, 1), (1, 1), (2, 32), (34, 32), (66, 3)]) [(0, (.const (.int .i64 2))), (1, (.tmp 52)), (2, (.tmp 53)), (3, (.tmp 54))]), .agg, none⟩,
  ⟨(some 56), (.bldS 33 1 69 [(0, (.tmp 55))]), .sl, none⟩,
  ⟨(some 11), (.mv (.tmp 56)), .sl, none⟩] [11, 5, 6])
 (.seq (.ops [⟨(some 57), (.mv (.tmp 11)), .sl, none⟩,
  ⟨(some 58), (.mv (.tmp 5)), .sl, none⟩,
  ⟨(some 59), (.app #[52, 52] 52 (.tmp 57) (.tmp 58)), .sl, none⟩,
  ⟨(some 11), (.mv (.tmp 59)), .sl, none⟩] [11, 6])
 (.seq (.ops [⟨(some 60), (.mv (.tmp 11)), .sl, none⟩,
  ⟨(some 61), (.mv (.tmp 6)), .sl, none⟩,
  ⟨(some 62), (.app #[52, 52] 52 (.tmp 60) (.tmp 61)), .sl, none⟩,
  ⟨(some 2), (.mv (.tmp 62)), .sl, none⟩] [2])
 .ret)))))))))))
def r30 : List Res := [.t 2]
theorem tr30 : trS Tryd.prog [] 63 (Tryd.f30.body.getD .skip) s30 = some s30 := by kernel_rfl
theorem den30 (args : List Value) (w : World) (R : Ending → World → Prop) (hn : args.length ≤ 63) (h : denS Tryd.prog s30 (argsEnv 0 args) w (endK r30 R)) : Calls Tryd.prog 30 args.toArray w R :=
  calls_of_den (pn := []) (fn := Tryd.f30) (c := Tryd.f30.body.getD .skip) Tryd.func30 (by kernel_rfl) (by rw [Tryd.ntmps30]; exact hn) (by rw [Tryd.ntmps30]; exact tr30) (by kernel_rfl) h
def d30 (rows0 : Option Addr) (rows0n : Nat) (rows0c : Nat) (w : World) (R : Ending → World → Prop) : Prop :=
 (bif (decide (((rows0n : Nat) : Int) = 0)) then
 (∃ cs1, fillL (.fields [(0, 1), (1, 1), (2, 32), (34, 32), (66, 3)]) (zc Tryd.prog 33) [] = some cs1 ∧
 ∃ cs2, fillL (.elems 69) (zrep (zc Tryd.prog 33) (1 * 69)) [(0, (.agg (List.toArray cs1)))] = some cs2 ∧
 ∀ w3 : World, w3 = World.alloc w (.cells (List.toArray cs2) 33) →
 R (.returned (.slice (some ⟨World.heap w |>.size, 0, none⟩) 1 1)) w3)
 else
 ((bif (decide (((rows0n : Nat) : Int) = 1)) then
 (0 ≤ (0 : Int) ∧ (0 : Int) < ((rows0n : Nat) : Int) ∧ optK rows0 fun a4 =>
 ∃ cs5 : List Value, List.length cs5 = 3 ∧ Cells w (Addr.add a4 (Int.toNat 0 * 3)) cs5 ∧
 ∃ cs6, fillL (.fields [(0, 1), (1, 1), (2, 32), (34, 32), (66, 3)]) (zc Tryd.prog 33) [(0, (.int .i64 1)), (4, (.agg (List.toArray cs5)))] = some cs6 ∧
 ∃ cs7, fillL (.elems 69) (zrep (zc Tryd.prog 33) (1 * 69)) [(0, (.agg (List.toArray cs6)))] = some cs7 ∧
 ∀ w8 : World, w8 = World.alloc w (.cells (List.toArray cs7) 33) →
 R (.returned (.slice (some ⟨World.heap w |>.size, 0, none⟩) 1 1)) w8)
 else
 (Calls Tryd.prog 66 #[(.slice rows0 rows0n rows0c)] w fun e9 w10 => ∃ x11 : Int, ∃ x12 : Int, e9 = .returned (.tuple #[(.int .i64 x11), (.int .i64 x12)]) ∧
 ∃ x13 : Int, (#[(.int .i64 x11), (.int .i64 x12)] : Array Value)[0]? = some (.int .i64 x13) ∧
 ∃ x14 : Int, (#[(.int .i64 x11), (.int .i64 x12)] : Array Value)[1]? = some (.int .i64 x14) ∧
 0 ≤ x14 ∧ x14 ≤ ((rows0c : Nat) : Int) ∧ Calls Tryd.prog 30 #[(.slice (if rows0c = 0 then rows0 else Option.map (fun y => Addr.add y (0 * 3)) rows0) ((Int.toNat x14) - 0) (rows0c - 0))] w10 fun e15 w16 => ∃ (x17 : Option Addr) (x17n : Nat) (x17c : Nat), e15 = .returned (.slice x17 x17n x17c) ∧
 0 ≤ x14 ∧ x14 ≤ ((rows0n : Nat) : Int) ∧ Calls Tryd.prog 30 #[(.slice (if rows0c = (Int.toNat x14) then rows0 else Option.map (fun y => Addr.add y ((Int.toNat x14) * 3)) rows0) (rows0n - (Int.toNat x14)) (rows0c - (Int.toNat x14)))] w16 fun e18 w19 => ∃ (x20 : Option Addr) (x20n : Nat) (x20c : Nat), e18 = .returned (.slice x20 x20n x20c) ∧
 0 ≤ (0 : Int) ∧ (0 : Int) < ((x17n : Nat) : Int) ∧ optK x17 fun a21 =>
 ∃ cs22 : List Value, List.length cs22 = 69 ∧ Cells w19 (Addr.add a21 (Int.toNat 0 * 69)) cs22 ∧
 Calls Tryd.prog 16 #[(.agg (List.toArray cs22))] w19 fun e23 w24 => ∃ x25 : Array Value, ∃ x26 : Int, e23 = .returned (.tuple #[(.agg x25), (.int .i64 x26)]) ∧
 ∃ x27 : Array Value, (#[(.agg x25), (.int .i64 x26)] : Array Value)[0]? = some (.agg x27) ∧
 ∃ x28 : Int, (#[(.agg x25), (.int .i64 x26)] : Array Value)[1]? = some (.int .i64 x28) ∧
 ∀ w29 : World, w29 = World.alloc w24 (.cells (zc Tryd.prog 24).toArray 24) →
 Array.size x27 = 32 ∧ (∀ u ∈ Array.toList x27, one u = true) ∧ Room w29 ⟨World.heap w24 |>.size, 0, none⟩ 32 ∧
 ∀ w30 : World, w30 = setCells w29 ⟨World.heap w24 |>.size, 0, none⟩ (Array.toList x27) 0 →
 0 ≤ (0 : Int) ∧ (0 : Int) < ((x20n : Nat) : Int) ∧ optK x20 fun a31 =>
 ∃ cs32 : List Value, List.length cs32 = 69 ∧ Cells w30 (Addr.add a31 (Int.toNat 0 * 69)) cs32 ∧
 Calls Tryd.prog 16 #[(.agg (List.toArray cs32))] w30 fun e33 w34 => ∃ x35 : Array Value, ∃ x36 : Int, e33 = .returned (.tuple #[(.agg x35), (.int .i64 x36)]) ∧
 ∃ x37 : Array Value, (#[(.agg x35), (.int .i64 x36)] : Array Value)[0]? = some (.agg x37) ∧
 ∃ x38 : Int, (#[(.agg x35), (.int .i64 x36)] : Array Value)[1]? = some (.int .i64 x38) ∧
 ∀ w39 : World, w39 = World.alloc w34 (.cells (zc Tryd.prog 24).toArray 24) →
 Array.size x37 = 32 ∧ (∀ u ∈ Array.toList x37, one u = true) ∧ Room w39 ⟨World.heap w34 |>.size, 0, none⟩ 32 ∧
 ∀ w40 : World, w40 = setCells w39 ⟨World.heap w34 |>.size, 0, none⟩ (Array.toList x37) 0 →
 ∃ cs41 : List Value, List.length cs41 = 32 ∧ Cells w40 ⟨World.heap w24 |>.size, 0, none⟩ cs41 ∧
 ∃ cs42 : List Value, List.length cs42 = 32 ∧ Cells w40 ⟨World.heap w34 |>.size, 0, none⟩ cs42 ∧
 ∃ cs43, fillL (.fields [(0, 1), (1, 1), (2, 32), (34, 32), (66, 3)]) (zc Tryd.prog 33) [(0, (.int .i64 2)), (1, (.int .i64 x13)), (2, (.agg (List.toArray cs41))), (3, (.agg (List.toArray cs42)))] = some cs43 ∧
 ∃ cs44, fillL (.elems 69) (zrep (zc Tryd.prog 33) (1 * 69)) [(0, (.agg (List.toArray cs43)))] = some cs44 ∧
 ∀ w45 : World, w45 = World.alloc w40 (.cells (List.toArray cs44) 33) →
 RunV Tryd.prog (Builtin.append_ #[52, 52] 52 #[(.slice (some ⟨World.heap w40 |>.size, 0, none⟩) 1 1), (.slice x17 x17n x17c)]) w45 fun v46 w47 => ∃ (x48 : Option Addr) (x48n : Nat) (x48c : Nat), v46 = (.slice x48 x48n x48c) ∧
 RunV Tryd.prog (Builtin.append_ #[52, 52] 52 #[(.slice x48 x48n x48c), (.slice x20 x20n x20c)]) w47 fun v49 w50 => ∃ (x51 : Option Addr) (x51n : Nat) (x51c : Nat), v49 = (.slice x51 x51n x51c) ∧
 R (.returned (.slice x51 x51n x51c)) w50))))
theorem e30 (rows0 : Option Addr) (rows0n : Nat) (rows0c : Nat) (w : World) (R : Ending → World → Prop) : denS Tryd.prog s30 (argsEnv 0 [(.slice rows0 rows0n rows0c)]) w (endK r30 R) = d30 rows0 rows0n rows0c w R := by kernel_rfl
theorem c30 (rows0 : Option Addr) (rows0n : Nat) (rows0c : Nat) {w : World} {R : Ending → World → Prop} (h : d30 rows0 rows0n rows0c w R) : Calls Tryd.prog 30 #[(.slice rows0 rows0n rows0c)] w R :=
  den30 [(.slice rows0 rows0n rows0c)] w R (by simp) ((e30 rows0 rows0n rows0c w R).symm ▸ h)

/-- prelude/preluderef24.Root -/
def s33 : S := (.seq (.ops [⟨(some 2), (.alloc 24), .ptr, none⟩] [0, 2])
 (.seq (.ops [⟨(some 6), (.mv (.tmp 0)), .sl, none⟩,
  ⟨(some 7), (.call 30 [(.tmp 6)] [.sl]), .sl, none⟩,
  ⟨(some 8), (.ia 69 (.tmp 7) (.const (.int .i64 0))), .ptr, none⟩,
  ⟨(some 9), (.ldN 69 (.tmp 8)), .agg, none⟩,
  ⟨(some 10), (.call 16 [(.tmp 9)] [.agg, (.int .i64)]), .any, none⟩,
  ⟨(some 5), (.mv (.tmp 10)), .any, none⟩,
  ⟨(some 11), (.ext 0 (.tmp 5)), .agg, none⟩,
  ⟨(some 12), (.ext 1 (.tmp 5)), (.int .i64), none⟩,
  ⟨(some 3), (.alloc 24), .ptr, none⟩,
  ⟨none, (.stN 32 (.tmp 3) (.tmp 11)), .any, none⟩,
  ⟨(some 4), (.mv (.tmp 12)), (.int .i64), none⟩] [3, 2])
 (.seq (.ops [⟨(some 13), (.ldN 32 (.tmp 3)), .agg, none⟩,
  ⟨none, (.stN 32 (.tmp 2) (.tmp 13)), .any, none⟩] [2])
 .ret)))
def r33 : List Res := [.cN 2 32]
theorem tr33 : trS Tryd.prog [] 14 (Tryd.f33.body.getD .skip) s33 = some s33 := by kernel_rfl
theorem den33 (args : List Value) (w : World) (R : Ending → World → Prop) (hn : args.length ≤ 14) (h : denS Tryd.prog s33 (argsEnv 0 args) w (endK r33 R)) : Calls Tryd.prog 33 args.toArray w R :=
  calls_of_den (pn := []) (fn := Tryd.f33) (c := Tryd.f33.body.getD .skip) Tryd.func33 (by kernel_rfl) (by rw [Tryd.ntmps33]; exact hn) (by rw [Tryd.ntmps33]; exact tr33) (by kernel_rfl) h
def d33 (rows0 : Option Addr) (rows0n : Nat) (rows0c : Nat) (w : World) (R : Ending → World → Prop) : Prop :=
 ∀ w1 : World, w1 = World.alloc w (.cells (zc Tryd.prog 24).toArray 24) →
 Calls Tryd.prog 30 #[(.slice rows0 rows0n rows0c)] w1 fun e2 w3 => ∃ (x4 : Option Addr) (x4n : Nat) (x4c : Nat), e2 = .returned (.slice x4 x4n x4c) ∧
 0 ≤ (0 : Int) ∧ (0 : Int) < ((x4n : Nat) : Int) ∧ optK x4 fun a5 =>
 ∃ cs6 : List Value, List.length cs6 = 69 ∧ Cells w3 (Addr.add a5 (Int.toNat 0 * 69)) cs6 ∧
 Calls Tryd.prog 16 #[(.agg (List.toArray cs6))] w3 fun e7 w8 => ∃ x9 : Array Value, ∃ x10 : Int, e7 = .returned (.tuple #[(.agg x9), (.int .i64 x10)]) ∧
 ∃ x11 : Array Value, (#[(.agg x9), (.int .i64 x10)] : Array Value)[0]? = some (.agg x11) ∧
 ∃ x12 : Int, (#[(.agg x9), (.int .i64 x10)] : Array Value)[1]? = some (.int .i64 x12) ∧
 ∀ w13 : World, w13 = World.alloc w8 (.cells (zc Tryd.prog 24).toArray 24) →
 Array.size x11 = 32 ∧ (∀ u ∈ Array.toList x11, one u = true) ∧ Room w13 ⟨World.heap w8 |>.size, 0, none⟩ 32 ∧
 ∀ w14 : World, w14 = setCells w13 ⟨World.heap w8 |>.size, 0, none⟩ (Array.toList x11) 0 →
 ∃ cs15 : List Value, List.length cs15 = 32 ∧ Cells w14 ⟨World.heap w8 |>.size, 0, none⟩ cs15 ∧
 Array.size (List.toArray cs15) = 32 ∧ (∀ u ∈ Array.toList (List.toArray cs15), one u = true) ∧ Room w14 ⟨World.heap w |>.size, 0, none⟩ 32 ∧
 ∀ w16 : World, w16 = setCells w14 ⟨World.heap w |>.size, 0, none⟩ (Array.toList (List.toArray cs15)) 0 →
 ∃ cs17 : List Value, List.length cs17 = 32 ∧ Cells w16 ⟨World.heap w |>.size, 0, none⟩ cs17 ∧
 R (.returned (.agg (List.toArray cs17))) w16
theorem e33 (rows0 : Option Addr) (rows0n : Nat) (rows0c : Nat) (w : World) (R : Ending → World → Prop) : denS Tryd.prog s33 (argsEnv 0 [(.slice rows0 rows0n rows0c)]) w (endK r33 R) = d33 rows0 rows0n rows0c w R := by kernel_rfl
theorem c33 (rows0 : Option Addr) (rows0n : Nat) (rows0c : Nat) {w : World} {R : Ending → World → Prop} (h : d33 rows0 rows0n rows0c w R) : Calls Tryd.prog 33 #[(.slice rows0 rows0n rows0c)] w R :=
  den33 [(.slice rows0 rows0n rows0c)] w R (by simp) ((e33 rows0 rows0n rows0c w R).symm ▸ h)

/-- prelude/preluderef24.Prove -/
def s68 : S := (.seq (.ops [⟨(some 3), (.box 29 (.tmp 1)), .ptr, none⟩,
  ⟨(some 4), (.alloc 43), .ptr, none⟩] [0, 3, 4])
 (.seq (.ops [⟨(some 5), (.alloc 43), .ptr, none⟩] [0, 3, 5, 4])
 (.seq (.block 0
 (.loop [(0, .sl)] [3, 4, 5]
 (.seq (.seq (.ops [⟨(some 9), (.mv (.tmp 0)), .sl, none⟩,
  ⟨(some 10), (.len (.tmp 9)), (.int .i64), none⟩,
  ⟨(some 11), (.bin .gtr (.tmp 10) (.const (.int .i64 1))), .bool, none⟩] [11, 0, 3, 5, 4])
 (.cond (.tmp 11)
 .skip
 (.exit 0)))
 (.block 1
 (.seq (.ops [⟨(some 13), (.mv (.tmp 0)), .sl, none⟩,
  ⟨(some 14), (.call 66 [(.tmp 13)] [(.int .i64), (.int .i64)]), .any, none⟩,
  ⟨(some 12), (.mv (.tmp 14)), .any, none⟩,
  ⟨(some 15), (.ext 0 (.tmp 12)), (.int .i64), none⟩,
  ⟨(some 16), (.ext 1 (.tmp 12)), (.int .i64), none⟩,
  ⟨(some 6), (.mv (.tmp 15)), (.int .i64), none⟩,
  ⟨(some 7), (.mv (.tmp 16)), (.int .i64), none⟩] [6, 3, 0, 7, 5, 4])
 (.seq (.ops [⟨(some 17), (.mv (.tmp 6)), (.int .i64), none⟩,
  ⟨(some 18), (.bld 51 (.fields [(0, 1), (1, 32)]) [(0, (.tmp 17))]), .agg, none⟩,
  ⟨(some 8), (.alloc 51), .ptr, none⟩,
  ⟨none, (.stN 33 (.tmp 8) (.tmp 18)), .any, none⟩] [3, 6, 0, 7, 8, 5, 4])
 (.join [(0, .sl)] [3, 4, 5, 8]
 (.seq (.ops [⟨(some 19), (.ldN 2 (.tmp 3)), .agg, none⟩,
  ⟨(some 20), (.mv (.tmp 6)), (.int .i64), none⟩,
  ⟨(some 21), (.call 59 [(.tmp 19), (.tmp 20)] [(.int .i64)]), (.int .i64), none⟩,
  ⟨(some 22), (.bin .eql (.tmp 21) (.const (.int .i64 0))), .bool, none⟩] [22, 0, 7, 8, 5, 3, 4])
 (.cond (.tmp 22)
 (.seq (.ops [⟨(some 23), (.mv (.tmp 0)), .sl, none⟩,
  ⟨(some 24), (.mv (.tmp 7)), (.int .i64), none⟩,
  ⟨(some 25), (.slS 3 (.tmp 23) (some (.tmp 24)) none none), .sl, none⟩,
  ⟨(some 26), (.call 33 [(.tmp 25)] [.agg]), .agg, none⟩,
  ⟨(some 27), (.fa 1 (.tmp 8)), .ptr, none⟩,
  ⟨none, (.stN 32 (.tmp 27) (.tmp 26)), .any, none⟩] [0, 7, 5, 8, 3, 4])
 (.ops [⟨(some 28), (.mv (.tmp 0)), .sl, none⟩,
  ⟨(some 29), (.mv (.tmp 7)), (.int .i64), none⟩,
  ⟨(some 30), (.slS 3 (.tmp 28) none (some (.tmp 29)) none), .sl, none⟩,
  ⟨(some 0), (.mv (.tmp 30)), .sl, none⟩] [5, 8, 0, 3, 4]))
 (.seq (.ops [⟨(some 31), (.mv (.tmp 0)), .sl, none⟩,
  ⟨(some 32), (.mv (.tmp 7)), (.int .i64), none⟩,
  ⟨(some 33), (.slS 3 (.tmp 31) none (some (.tmp 32)) none), .sl, none⟩,
  ⟨(some 34), (.call 33 [(.tmp 33)] [.agg]), .agg, none⟩,
  ⟨(some 35), (.fa 1 (.tmp 8)), .ptr, none⟩,
  ⟨none, (.stN 32 (.tmp 35) (.tmp 34)), .any, none⟩] [0, 7, 5, 8, 3, 4])
 (.ops [⟨(some 36), (.mv (.tmp 0)), .sl, none⟩,
  ⟨(some 37), (.mv (.tmp 7)), (.int .i64), none⟩,
  ⟨(some 38), (.slS 3 (.tmp 36) (some (.tmp 37)) none none), .sl, none⟩,
  ⟨(some 0), (.mv (.tmp 38)), .sl, none⟩] [5, 8, 0, 3, 4]))))
 (.ops [⟨(some 39), (.fa 0 (.tmp 5)), .ptr, none⟩,
  ⟨(some 40), (.ld1 (.tmp 39)), .sl, none⟩,
  ⟨(some 41), (.ldN 33 (.tmp 8)), .agg, none⟩,
  ⟨(some 42), (.bldS 51 1 33 [(0, (.tmp 41))]), .sl, none⟩,
  ⟨(some 43), (.app #[41, 41] 41 (.tmp 40) (.tmp 42)), .sl, none⟩,
  ⟨(some 44), (.fa 0 (.tmp 5)), .ptr, none⟩,
  ⟨none, (.st1 (.tmp 44) (.tmp 43)), .any, none⟩] [0, 3, 5, 4]))))))))
 (.seq (.seq (.ops [⟨(some 45), (.mv (.tmp 0)), .sl, none⟩,
  ⟨(some 46), (.len (.tmp 45)), (.int .i64), none⟩,
  ⟨(some 47), (.bin .eql (.tmp 46) (.const (.int .i64 1))), .bool, none⟩] [47, 5, 0, 4])
 (.cond (.tmp 47)
 (.seq (.ops [⟨(some 48), (.fa 1 (.tmp 5)), .ptr, none⟩,
  ⟨none, (.st1 (.tmp 48) (.const (.bool true))), .any, none⟩] [0, 5, 4])
 (.ops [⟨(some 49), (.mv (.tmp 0)), .sl, none⟩,
  ⟨(some 50), (.ia 3 (.tmp 49) (.const (.int .i64 0))), .ptr, none⟩,
  ⟨(some 51), (.ldN 3 (.tmp 50)), .agg, none⟩,
  ⟨(some 52), (.fa 2 (.tmp 5)), .ptr, none⟩,
  ⟨none, (.stN 3 (.tmp 52) (.tmp 51)), .any, none⟩] [5, 4]))
 .skip))
 (.seq (.ops [⟨(some 53), (.ldN 5 (.tmp 5)), .agg, none⟩,
  ⟨none, (.stN 5 (.tmp 4) (.tmp 53)), .any, none⟩] [4])
 .ret)))))
def r68 : List Res := [.cN 4 5]
theorem tr68 : trS Tryd.prog [] 54 (Tryd.f68.body.getD .skip) s68 = some s68 := by kernel_rfl
theorem den68 (args : List Value) (w : World) (R : Ending → World → Prop) (hn : args.length ≤ 54) (h : denS Tryd.prog s68 (argsEnv 0 args) w (endK r68 R)) : Calls Tryd.prog 68 args.toArray w R :=
  calls_of_den (pn := []) (fn := Tryd.f68) (c := Tryd.f68.body.getD .skip) Tryd.func68 (by kernel_rfl) (by rw [Tryd.ntmps68]; exact hn) (by rw [Tryd.ntmps68]; exact tr68) (by kernel_rfl) h
def d68 (rows0 : Option Addr) (rows0n : Nat) (rows0c : Nat) (k1 : Array Value) (w : World) (R : Ending → World → Prop) : Prop :=
 ∀ w2 : World, w2 = World.alloc w (.cells k1 29) →
 ∀ w3 : World, w3 = World.alloc w2 (.cells (zc Tryd.prog 43).toArray 43) →
 ∀ w4 : World, w4 = World.alloc w3 (.cells (zc Tryd.prog 43).toArray 43) →
 ∃ I5 : Nat → Option Addr → Nat → Nat → World → Prop,
 (∃ m, I5 m rows0 rows0n rows0c w4) ∧
 (∀ (m6 : Nat) (w7 : World) (rows8 : Option Addr) (rows8n : Nat) (rows8c : Nat), I5 m6 rows8 rows8n rows8c w7 →
 (bif (decide (1 < ((rows8n : Nat) : Int))) then
 (Calls Tryd.prog 66 #[(.slice rows8 rows8n rows8c)] w7 fun e9 w10 => ∃ x11 : Int, ∃ x12 : Int, e9 = .returned (.tuple #[(.int .i64 x11), (.int .i64 x12)]) ∧
 ∃ x13 : Int, (#[(.int .i64 x11), (.int .i64 x12)] : Array Value)[0]? = some (.int .i64 x13) ∧
 ∃ x14 : Int, (#[(.int .i64 x11), (.int .i64 x12)] : Array Value)[1]? = some (.int .i64 x14) ∧
 ∃ cs15, fillL (.fields [(0, 1), (1, 32)]) (zc Tryd.prog 51) [(0, (.int .i64 x13))] = some cs15 ∧
 ∀ w16 : World, w16 = World.alloc w10 (.cells (zc Tryd.prog 51).toArray 51) →
 Array.size (List.toArray cs15) = 33 ∧ (∀ u ∈ Array.toList (List.toArray cs15), one u = true) ∧ Room w16 ⟨World.heap w10 |>.size, 0, none⟩ 33 ∧
 ∀ w17 : World, w17 = setCells w16 ⟨World.heap w10 |>.size, 0, none⟩ (Array.toList (List.toArray cs15)) 0 →
 ∃ J18 : Option Addr → Nat → Nat → World → Prop,
 (∃ cs19 : List Value, List.length cs19 = 2 ∧ Cells w17 ⟨World.heap w |>.size, 0, none⟩ cs19 ∧
 Calls Tryd.prog 59 #[(.agg (List.toArray cs19)), (.int .i64 x13)] w17 fun e20 w21 => ∃ x22 : Int, e20 = .returned (.int .i64 x22) ∧
 (bif (decide (x22 = 0)) then
 (0 ≤ x14 ∧ x14 ≤ ((rows8n : Nat) : Int) ∧ Calls Tryd.prog 33 #[(.slice (if rows8c = (Int.toNat x14) then rows8 else Option.map (fun y => Addr.add y ((Int.toNat x14) * 3)) rows8) (rows8n - (Int.toNat x14)) (rows8c - (Int.toNat x14)))] w21 fun e23 w24 => ∃ x25 : Array Value, e23 = .returned (.agg x25) ∧
 Array.size x25 = 32 ∧ (∀ u ∈ Array.toList x25, one u = true) ∧ Room w24 (Addr.add ⟨World.heap w10 |>.size, 0, none⟩ 1) 32 ∧
 ∀ w26 : World, w26 = setCells w24 (Addr.add ⟨World.heap w10 |>.size, 0, none⟩ 1) (Array.toList x25) 0 →
 0 ≤ x14 ∧ x14 ≤ ((rows8c : Nat) : Int) ∧ J18 (if rows8c = 0 then rows8 else Option.map (fun y => Addr.add y (0 * 3)) rows8) ((Int.toNat x14) - 0) (rows8c - 0) w26)
 else
 (0 ≤ x14 ∧ x14 ≤ ((rows8c : Nat) : Int) ∧ Calls Tryd.prog 33 #[(.slice (if rows8c = 0 then rows8 else Option.map (fun y => Addr.add y (0 * 3)) rows8) ((Int.toNat x14) - 0) (rows8c - 0))] w21 fun e27 w28 => ∃ x29 : Array Value, e27 = .returned (.agg x29) ∧
 Array.size x29 = 32 ∧ (∀ u ∈ Array.toList x29, one u = true) ∧ Room w28 (Addr.add ⟨World.heap w10 |>.size, 0, none⟩ 1) 32 ∧
 ∀ w30 : World, w30 = setCells w28 (Addr.add ⟨World.heap w10 |>.size, 0, none⟩ 1) (Array.toList x29) 0 →
 0 ≤ x14 ∧ x14 ≤ ((rows8n : Nat) : Int) ∧ J18 (if rows8c = (Int.toNat x14) then rows8 else Option.map (fun y => Addr.add y ((Int.toNat x14) * 3)) rows8) (rows8n - (Int.toNat x14)) (rows8c - (Int.toNat x14)) w30))) ∧
 (∀ (w31 : World) (rows32 : Option Addr) (rows32n : Nat) (rows32c : Nat), J18 rows32 rows32n rows32c w31 →
 ∃ (x33 : Option Addr) (x33n : Nat) (x33c : Nat), World.cell? w31 (Addr.add ⟨World.heap w3 |>.size, 0, none⟩ 0) = some (.slice x33 x33n x33c) ∧
 ∃ cs34 : List Value, List.length cs34 = 33 ∧ Cells w31 ⟨World.heap w10 |>.size, 0, none⟩ cs34 ∧
 ∃ cs35, fillL (.elems 33) (zrep (zc Tryd.prog 51) (1 * 33)) [(0, (.agg (List.toArray cs34)))] = some cs35 ∧
 ∀ w36 : World, w36 = World.alloc w31 (.cells (List.toArray cs35) 51) →
 RunV Tryd.prog (Builtin.append_ #[41, 41] 41 #[(.slice x33 x33n x33c), (.slice (some ⟨World.heap w31 |>.size, 0, none⟩) 1 1)]) w36 fun v37 w38 => ∃ (x39 : Option Addr) (x39n : Nat) (x39c : Nat), v37 = (.slice x39 x39n x39c) ∧
 one (.slice x39 x39n x39c) = true ∧ Option.isSome (World.cell? w38 (Addr.add ⟨World.heap w3 |>.size, 0, none⟩ 0)) = true ∧ World.frozen? w38 (Addr.add ⟨World.heap w3 |>.size, 0, none⟩ 0) = false ∧
 ∀ w40 : World, w40 = World.setCell w38 (Addr.add ⟨World.heap w3 |>.size, 0, none⟩ 0) (.slice x39 x39n x39c) →
 ∃ m41, m41 < m6 ∧ I5 m41 rows32 rows32n rows32c w40))
 else
 ((bif (decide (((rows8n : Nat) : Int) = 1)) then
 (one (.bool true) = true ∧ Option.isSome (World.cell? w7 (Addr.add ⟨World.heap w3 |>.size, 0, none⟩ 1)) = true ∧ World.frozen? w7 (Addr.add ⟨World.heap w3 |>.size, 0, none⟩ 1) = false ∧
 ∀ w42 : World, w42 = World.setCell w7 (Addr.add ⟨World.heap w3 |>.size, 0, none⟩ 1) (.bool true) →
 0 ≤ (0 : Int) ∧ (0 : Int) < ((rows8n : Nat) : Int) ∧ optK rows8 fun a43 =>
 ∃ cs44 : List Value, List.length cs44 = 3 ∧ Cells w42 (Addr.add a43 (Int.toNat 0 * 3)) cs44 ∧
 Array.size (List.toArray cs44) = 3 ∧ (∀ u ∈ Array.toList (List.toArray cs44), one u = true) ∧ Room w42 (Addr.add ⟨World.heap w3 |>.size, 0, none⟩ 2) 3 ∧
 ∀ w45 : World, w45 = setCells w42 (Addr.add ⟨World.heap w3 |>.size, 0, none⟩ 2) (Array.toList (List.toArray cs44)) 0 →
 ∃ cs46 : List Value, List.length cs46 = 5 ∧ Cells w45 ⟨World.heap w3 |>.size, 0, none⟩ cs46 ∧
 Array.size (List.toArray cs46) = 5 ∧ (∀ u ∈ Array.toList (List.toArray cs46), one u = true) ∧ Room w45 ⟨World.heap w2 |>.size, 0, none⟩ 5 ∧
 ∀ w47 : World, w47 = setCells w45 ⟨World.heap w2 |>.size, 0, none⟩ (Array.toList (List.toArray cs46)) 0 →
 ∃ cs48 : List Value, List.length cs48 = 5 ∧ Cells w47 ⟨World.heap w2 |>.size, 0, none⟩ cs48 ∧
 R (.returned (.agg (List.toArray cs48))) w47)
 else
 (∃ cs49 : List Value, List.length cs49 = 5 ∧ Cells w7 ⟨World.heap w3 |>.size, 0, none⟩ cs49 ∧
 Array.size (List.toArray cs49) = 5 ∧ (∀ u ∈ Array.toList (List.toArray cs49), one u = true) ∧ Room w7 ⟨World.heap w2 |>.size, 0, none⟩ 5 ∧
 ∀ w50 : World, w50 = setCells w7 ⟨World.heap w2 |>.size, 0, none⟩ (Array.toList (List.toArray cs49)) 0 →
 ∃ cs51 : List Value, List.length cs51 = 5 ∧ Cells w50 ⟨World.heap w2 |>.size, 0, none⟩ cs51 ∧
 R (.returned (.agg (List.toArray cs51))) w50)))))
theorem e68 (rows0 : Option Addr) (rows0n : Nat) (rows0c : Nat) (k1 : Array Value) (w : World) (R : Ending → World → Prop) : denS Tryd.prog s68 (argsEnv 0 [(.slice rows0 rows0n rows0c), (.agg k1)]) w (endK r68 R) = d68 rows0 rows0n rows0c k1 w R := by kernel_rfl
theorem c68 (rows0 : Option Addr) (rows0n : Nat) (rows0c : Nat) (k1 : Array Value) {w : World} {R : Ending → World → Prop} (h : d68 rows0 rows0n rows0c k1 w R) : Calls Tryd.prog 68 #[(.slice rows0 rows0n rows0c), (.agg k1)] w R :=
  den68 [(.slice rows0 rows0n rows0c), (.agg k1)] w R (by simp) ((e68 rows0 rows0n rows0c k1 w R).symm ▸ h)

/-- prelude/preludelaw24.texts -/
def s38 : S := (.seq (.ops [⟨(some 2), (.mv (.const (.slice none 0 0))), .sl, none⟩] [0])
 (.seq (.ops [⟨(some 3), (.mv (.const (.slice none 0 0))), .sl, none⟩] [0, 3])
 (.seq (.seq (.ops [⟨(some 4), (.mv (.const (.int .i64 0))), (.int .i64), none⟩] [4, 0, 3])
 (.block 0
 (.loop [(3, .sl), (4, (.int .i64))] [0]
 (.seq (.seq (.ops [⟨(some 7), (.mv (.tmp 4)), (.int .i64), none⟩,
  ⟨(some 8), (.mv (.tmp 0)), .sl, none⟩,
  ⟨(some 9), (.len (.tmp 8)), (.int .i64), none⟩,
  ⟨(some 10), (.bin .lss (.tmp 7) (.tmp 9)), .bool, none⟩] [10, 0, 4, 3])
 (.cond (.tmp 10)
 .skip
 (.exit 0)))
 (.seq (.block 1
 (.seq (.ops [⟨(some 14), (.mv (.tmp 0)), .sl, none⟩,
  ⟨(some 15), (.mv (.tmp 4)), (.int .i64), none⟩,
  ⟨(some 16), (.ia 69 (.tmp 14) (.tmp 15)), .ptr, none⟩,
  ⟨(some 17), (.ldN 69 (.tmp 16)), .agg, none⟩,
  ⟨(some 18), (.call 54 [(.tmp 17)] [.sl, .bool]), .any, none⟩,
  ⟨(some 13), (.mv (.tmp 18)), .any, none⟩,
  ⟨(some 19), (.ext 0 (.tmp 13)), .sl, none⟩,
  ⟨(some 20), (.ext 1 (.tmp 13)), .bool, none⟩,
  ⟨(some 5), (.mv (.tmp 19)), .sl, none⟩,
  ⟨(some 6), (.mv (.tmp 20)), .bool, none⟩] [6, 0, 4, 3, 5])
 (.join [(29, .bool)] [0, 3, 4, 5]
 (.ops [⟨(some 21), (.mv (.tmp 6)), .bool, none⟩,
  ⟨(some 22), (.mv (.tmp 21)), .bool, none⟩,
  ⟨(some 23), (.mv (.tmp 0)), .sl, (some (22, true))⟩,
  ⟨(some 24), (.mv (.tmp 4)), (.int .i64), (some (22, true))⟩,
  ⟨(some 25), (.ia 69 (.tmp 23) (.tmp 24)), .ptr, (some (22, true))⟩,
  ⟨(some 26), (.fa 0 (.tmp 25)), .ptr, (some (22, true))⟩,
  ⟨(some 27), (.ld1 (.tmp 26)), (.int .i64), (some (22, true))⟩,
  ⟨(some 28), (.bin .neq (.tmp 27) (.const (.int .i64 0))), .bool, (some (22, true))⟩,
  ⟨(some 29), (.pick (.tmp 22) (.tmp 28) (.const (.bool false))), .bool, none⟩] [29, 3, 5, 4, 0])
 (.cond (.tmp 29)
 (.ops [⟨(some 30), (.mv (.tmp 3)), .sl, none⟩,
  ⟨(some 31), (.mv (.tmp 5)), .sl, none⟩,
  ⟨(some 32), (.bldS 22 1 1 [(0, (.tmp 31))]), .sl, none⟩,
  ⟨(some 33), (.app #[78, 78] 78 (.tmp 30) (.tmp 32)), .sl, none⟩,
  ⟨(some 3), (.mv (.tmp 33)), .sl, none⟩] [4, 0, 3])
 .skip))))
 (.ops [⟨(some 11), (.mv (.tmp 4)), (.int .i64), none⟩,
  ⟨(some 12), (.bin .add (.tmp 11) (.const (.int .i64 1))), (.int .i64), none⟩,
  ⟨(some 4), (.mv (.tmp 12)), (.int .i64), none⟩] [4, 0, 3]))))))
 (.seq (.ops [⟨(some 34), (.mv (.tmp 3)), .sl, none⟩,
  ⟨(some 2), (.mv (.tmp 34)), .sl, none⟩] [2])
 .ret))))
def r38 : List Res := [.t 2]
theorem tr38 : trS Tryd.prog [] 35 (Tryd.f38.body.getD .skip) s38 = some s38 := by kernel_rfl
theorem den38 (args : List Value) (w : World) (R : Ending → World → Prop) (hn : args.length ≤ 35) (h : denS Tryd.prog s38 (argsEnv 0 args) w (endK r38 R)) : Calls Tryd.prog 38 args.toArray w R :=
  calls_of_den (pn := []) (fn := Tryd.f38) (c := Tryd.f38.body.getD .skip) Tryd.func38 (by kernel_rfl) (by rw [Tryd.ntmps38]; exact hn) (by rw [Tryd.ntmps38]; exact tr38) (by kernel_rfl) h
def d38 (l0 : Option Addr) (l0n : Nat) (l0c : Nat) (w : World) (R : Ending → World → Prop) : Prop :=
 ∃ I1 : Nat → Option Addr → Nat → Nat → Int → World → Prop,
 (∃ m, I1 m none 0 0 0 w) ∧
 (∀ (m2 : Nat) (w3 : World) (out4 : Option Addr) (out4n : Nat) (out4c : Nat) (i5 : Int), I1 m2 out4 out4n out4c i5 w3 →
 (bif (decide (i5 < ((l0n : Nat) : Int))) then
 (0 ≤ i5 ∧ i5 < ((l0n : Nat) : Int) ∧ optK l0 fun a6 =>
 ∃ cs7 : List Value, List.length cs7 = 69 ∧ Cells w3 (Addr.add a6 (Int.toNat i5 * 69)) cs7 ∧
 Calls Tryd.prog 54 #[(.agg (List.toArray cs7))] w3 fun e8 w9 => ∃ (x10 : Option Addr) (x10n : Nat) (x10c : Nat), ∃ x11 : Bool, e8 = .returned (.tuple #[(.slice x10 x10n x10c), (.bool x11)]) ∧
 ∃ (x12 : Option Addr) (x12n : Nat) (x12c : Nat), (#[(.slice x10 x10n x10c), (.bool x11)] : Array Value)[0]? = some (.slice x12 x12n x12c) ∧
 ∃ x13 : Bool, (#[(.slice x10 x10n x10c), (.bool x11)] : Array Value)[1]? = some (.bool x13) ∧
 ∃ J14 : Bool → World → Prop,
 ((bif x13 then
 (0 ≤ i5 ∧ i5 < ((l0n : Nat) : Int) ∧ optK l0 fun a15 =>
 ∃ x16 : Int, World.cell? w9 (Addr.add (Addr.add a15 (Int.toNat i5 * 69)) 0) = some (.int .i64 x16) ∧
 J14 (!decide (x16 = 0)) w9)
 else
 (J14 false w9))) ∧
 (∀ (w17 : World) (x18 : Bool), J14 x18 w17 →
 (bif x18 then
 (∃ cs19, fillL (.elems 1) (zrep (zc Tryd.prog 22) (1 * 1)) [(0, (.slice x12 x12n x12c))] = some cs19 ∧
 ∀ w20 : World, w20 = World.alloc w17 (.cells (List.toArray cs19) 22) →
 RunV Tryd.prog (Builtin.append_ #[78, 78] 78 #[(.slice out4 out4n out4c), (.slice (some ⟨World.heap w17 |>.size, 0, none⟩) 1 1)]) w20 fun v21 w22 => ∃ (x23 : Option Addr) (x23n : Nat) (x23c : Nat), v21 = (.slice x23 x23n x23c) ∧
 ∃ m24, m24 < m2 ∧ I1 m24 x23 x23n x23c (IntKind.wrap .i64 (i5 + 1)) w22)
 else
 (∃ m25, m25 < m2 ∧ I1 m25 out4 out4n out4c (IntKind.wrap .i64 (i5 + 1)) w17))))
 else
 (R (.returned (.slice out4 out4n out4c)) w3)))
theorem e38 (l0 : Option Addr) (l0n : Nat) (l0c : Nat) (w : World) (R : Ending → World → Prop) : denS Tryd.prog s38 (argsEnv 0 [(.slice l0 l0n l0c)]) w (endK r38 R) = d38 l0 l0n l0c w R := by kernel_rfl
theorem c38 (l0 : Option Addr) (l0n : Nat) (l0c : Nat) {w : World} {R : Ending → World → Prop} (h : d38 l0 l0n l0c w R) : Calls Tryd.prog 38 #[(.slice l0 l0n l0c)] w R :=
  den38 [(.slice l0 l0n l0c)] w R (by simp) ((e38 l0 l0n l0c w R).symm ▸ h)

/-- prelude/preludelaw24.collide -/
def s37 : S := (.seq (.ops [⟨(some 2), (.mv (.const (.bool false))), .bool, none⟩] [0])
 (.seq (.ops [⟨(some 3), (.mv (.const (.slice none 0 0))), .sl, none⟩] [0, 3])
 (.seq (.seq (.ops [⟨(some 4), (.mv (.const (.int .i64 0))), (.int .i64), none⟩] [4, 0, 3])
 (.block 0
 (.loop [(3, .sl), (4, (.int .i64))] [0]
 (.seq (.seq (.ops [⟨(some 7), (.mv (.tmp 4)), (.int .i64), none⟩,
  ⟨(some 8), (.mv (.tmp 0)), .sl, none⟩,
  ⟨(some 9), (.len (.tmp 8)), (.int .i64), none⟩,
  ⟨(some 10), (.bin .lss (.tmp 7) (.tmp 9)), .bool, none⟩] [10, 0, 4, 3])
 (.cond (.tmp 10)
 .skip
 (.exit 0)))
 (.seq (.block 1
 (.seq (.ops [⟨(some 13), (.mv (.tmp 0)), .sl, none⟩,
  ⟨(some 14), (.mv (.tmp 4)), (.int .i64), none⟩,
  ⟨(some 15), (.ia 1 (.tmp 13) (.tmp 14)), .ptr, none⟩,
  ⟨(some 16), (.ld1 (.tmp 15)), .sl, none⟩,
  ⟨(some 17), (.call 13 [(.tmp 16)] [.agg]), .agg, none⟩,
  ⟨(some 5), (.alloc 24), .ptr, none⟩,
  ⟨none, (.stN 32 (.tmp 5) (.tmp 17)), .any, none⟩] [5, 4, 3, 0])
 (.seq (.seq (.ops [⟨(some 18), (.ldN 32 (.tmp 5)), .agg, none⟩,
  ⟨(some 19), (.bld 24 (.elems 1) []), .agg, none⟩,
  ⟨(some 20), (.eqG .eql 24 (.tmp 18) (.tmp 19)), .bool, none⟩] [20, 4, 3, 5, 0])
 (.cond (.tmp 20)
 (.seq (.ops [⟨(some 2), (.mv (.const (.bool true))), .bool, none⟩] [2])
 .ret)
 .skip))
 (.seq (.seq (.ops [⟨(some 6), (.mv (.const (.int .i64 0))), (.int .i64), none⟩] [6, 4, 3, 5, 0])
 (.block 2
 (.loop [(6, (.int .i64))] [0, 3, 4, 5]
 (.seq (.seq (.ops [⟨(some 21), (.mv (.tmp 6)), (.int .i64), none⟩,
  ⟨(some 22), (.mv (.tmp 4)), (.int .i64), none⟩,
  ⟨(some 23), (.bin .lss (.tmp 21) (.tmp 22)), .bool, none⟩] [23, 3, 6, 5, 0, 4])
 (.cond (.tmp 23)
 .skip
 (.exit 2)))
 (.seq (.block 3
 (.seq (.draw (.take 0 ⟨(some 26), (.mv (.tmp 3)), .sl, none⟩
  (.take 1 ⟨(some 27), (.mv (.tmp 6)), (.int .i64), none⟩
  (.take 2 ⟨(some 28), (.ia 32 (.tmp 26) (.tmp 27)), .ptr, none⟩
  (.take 3 ⟨(some 29), (.ldN 32 (.tmp 28)), .agg, none⟩
  (.take 4 ⟨(some 30), (.ldN 32 (.tmp 5)), .agg, none⟩
  (.take 5 ⟨(some 31), (.eqG .eql 24 (.tmp 29) (.tmp 30)), .bool, none⟩
  (.take 6 ⟨(some 32), (.mv (.tmp 31)), .bool, none⟩
  (.take 7 ⟨(some 33), (.mv (.tmp 0)), .sl, (some (32, true))⟩
  (.take 8 ⟨(some 34), (.mv (.tmp 4)), (.int .i64), (some (32, true))⟩
  (.take 9 ⟨(some 35), (.ia 1 (.tmp 33) (.tmp 34)), .ptr, (some (32, true))⟩
  (.take 10 ⟨(some 36), (.ld1 (.tmp 35)), .sl, (some (32, true))⟩
  (.take 11 ⟨(some 37), (.mv (.tmp 0)), .sl, (some (32, true))⟩
  (.take 12 ⟨(some 38), (.mv (.tmp 6)), (.int .i64), (some (32, true))⟩
  (.take 13 ⟨(some 39), (.ia 1 (.tmp 37) (.tmp 38)), .ptr, (some (32, true))⟩
  (.take 14 ⟨(some 40), (.ld1 (.tmp 39)), .sl, (some (32, true))⟩
  (.go 15 ⟨(some 41), (.call 14 [(.tmp 36), (.tmp 40)] [.bool]), .bool, (some (32, true))⟩ []
  (.take 16 ⟨(some 42), (.un .not (.tmp 41)), .bool, (some (32, true))⟩
  (.take 17 ⟨(some 43), (.pick (.tmp 32) (.tmp 42) (.const (.bool false))), .bool, none⟩
  .done)))))))))))))))))) [43, 6, 4, 3, 5, 0])
 (.cond (.tmp 43)
 (.seq (.ops [⟨(some 2), (.mv (.const (.bool true))), .bool, none⟩] [2])
 .ret)
 .skip)))
 (.ops [⟨(some 24), (.mv (.tmp 6)), (.int .i64), none⟩,
  ⟨(some 25), (.bin .add (.tmp 24) (.const (.int .i64 1))), (.int .i64), none⟩,
  ⟨(some 6), (.mv (.tmp 25)), (.int .i64), none⟩] [6, 4, 3, 5, 0]))))))
 (.ops [⟨(some 44), (.mv (.tmp 3)), .sl, none⟩,
  ⟨(some 45), (.ldN 32 (.tmp 5)), .agg, none⟩,
  ⟨(some 46), (.bldS 24 1 32 [(0, (.tmp 45))]), .sl, none⟩,
  ⟨(some 47), (.app #[126, 126] 126 (.tmp 44) (.tmp 46)), .sl, none⟩,
  ⟨(some 3), (.mv (.tmp 47)), .sl, none⟩] [4, 0, 3])))))
 (.ops [⟨(some 11), (.mv (.tmp 4)), (.int .i64), none⟩,
  ⟨(some 12), (.bin .add (.tmp 11) (.const (.int .i64 1))), (.int .i64), none⟩,
  ⟨(some 4), (.mv (.tmp 12)), (.int .i64), none⟩] [4, 0, 3]))))))
 (.seq (.ops [⟨(some 2), (.mv (.const (.bool false))), .bool, none⟩] [2])
 .ret))))
def r37 : List Res := [.t 2]
theorem tr37 : trS Tryd.prog [] 48 (Tryd.f37.body.getD .skip) s37 = some s37 := by kernel_rfl
theorem den37 (args : List Value) (w : World) (R : Ending → World → Prop) (hn : args.length ≤ 48) (h : denS Tryd.prog s37 (argsEnv 0 args) w (endK r37 R)) : Calls Tryd.prog 37 args.toArray w R :=
  calls_of_den (pn := []) (fn := Tryd.f37) (c := Tryd.f37.body.getD .skip) Tryd.func37 (by kernel_rfl) (by rw [Tryd.ntmps37]; exact hn) (by rw [Tryd.ntmps37]; exact tr37) (by kernel_rfl) h
def d37 (l0 : Option Addr) (l0n : Nat) (l0c : Nat) (w : World) (R : Ending → World → Prop) : Prop :=
 ∃ I1 : Nat → Option Addr → Nat → Nat → Int → World → Prop,
 (∃ m, I1 m none 0 0 0 w) ∧
 (∀ (m2 : Nat) (w3 : World) (d4 : Option Addr) (d4n : Nat) (d4c : Nat) (i5 : Int), I1 m2 d4 d4n d4c i5 w3 →
 (bif (decide (i5 < ((l0n : Nat) : Int))) then
 (0 ≤ i5 ∧ i5 < ((l0n : Nat) : Int) ∧ optK l0 fun a6 =>
 ∃ (x7 : Option Addr) (x7n : Nat) (x7c : Nat), World.cell? w3 (Addr.add a6 (Int.toNat i5 * 1)) = some (.slice x7 x7n x7c) ∧
 Calls Tryd.prog 13 #[(.slice x7 x7n x7c)] w3 fun e8 w9 => ∃ x10 : Array Value, e8 = .returned (.agg x10) ∧
 ∀ w11 : World, w11 = World.alloc w9 (.cells (zc Tryd.prog 24).toArray 24) →
 Array.size x10 = 32 ∧ (∀ u ∈ Array.toList x10, one u = true) ∧ Room w11 ⟨World.heap w9 |>.size, 0, none⟩ 32 ∧
 ∀ w12 : World, w12 = setCells w11 ⟨World.heap w9 |>.size, 0, none⟩ (Array.toList x10) 0 →
 ∃ cs13 : List Value, List.length cs13 = 32 ∧ Cells w12 ⟨World.heap w9 |>.size, 0, none⟩ cs13 ∧
 ∃ cs14, fillL (.elems 1) (zc Tryd.prog 24) [] = some cs14 ∧
 ∃ q15 : Bool, Sem.run Tryd.prog (do eqGuard .eql 24 (.tmp 18) (.tmp 19) (.agg (List.toArray cs13)) (.agg (List.toArray cs14)); binOp .eql 24 (.agg (List.toArray cs13)) (.agg (List.toArray cs14))) w12 = .ok (.bool q15) w12 ∧
 (bif q15 then
 (R (.returned (.bool true)) w12)
 else
 (∃ I16 : Nat → Int → World → Prop,
 (∃ m, I16 m 0 w12) ∧
 (∀ (m17 : Nat) (w18 : World) (k19 : Int), I16 m17 k19 w18 →
 (bif (decide (k19 < i5)) then
 (∀ w20 : World, w20 = World.drew w18 →
 0 ≤ k19 ∧ k19 < ((d4n : Nat) : Int) ∧ optK d4 fun a21 =>
 ∃ cs22 : List Value, List.length cs22 = 32 ∧ Cells w20 (Addr.add a21 (Int.toNat k19 * 32)) cs22 ∧
 ∃ cs23 : List Value, List.length cs23 = 32 ∧ Cells w20 ⟨World.heap w9 |>.size, 0, none⟩ cs23 ∧
 ∃ q24 : Bool, Sem.run Tryd.prog (do eqGuard .eql 24 (.tmp 29) (.tmp 30) (.agg (List.toArray cs22)) (.agg (List.toArray cs23)); binOp .eql 24 (.agg (List.toArray cs22)) (.agg (List.toArray cs23))) w20 = .ok (.bool q24) w20 ∧
 (bif q24 then
 (0 ≤ i5 ∧ i5 < ((l0n : Nat) : Int) ∧ optK l0 fun a25 =>
 ∃ (x26 : Option Addr) (x26n : Nat) (x26c : Nat), World.cell? w20 (Addr.add a25 (Int.toNat i5 * 1)) = some (.slice x26 x26n x26c) ∧
 0 ≤ k19 ∧ k19 < ((l0n : Nat) : Int) ∧ optK l0 fun a27 =>
 ∃ (x28 : Option Addr) (x28n : Nat) (x28c : Nat), World.cell? w20 (Addr.add a27 (Int.toNat k19 * 1)) = some (.slice x28 x28n x28c) ∧
 Calls Tryd.prog 14 #[(.slice x26 x26n x26c), (.slice x28 x28n x28c)] w20 fun e29 w30 => ∃ x31 : Bool, e29 = .returned (.bool x31) ∧
 (bif (!x31) then
 (R (.returned (.bool true)) w30)
 else
 (∃ m32, m32 < m17 ∧ I16 m32 (IntKind.wrap .i64 (k19 + 1)) w30)))
 else
 (∃ m33, m33 < m17 ∧ I16 m33 (IntKind.wrap .i64 (k19 + 1)) w20)))
 else
 (∃ cs34 : List Value, List.length cs34 = 32 ∧ Cells w18 ⟨World.heap w9 |>.size, 0, none⟩ cs34 ∧
 ∃ cs35, fillL (.elems 32) (zrep (zc Tryd.prog 24) (1 * 32)) [(0, (.agg (List.toArray cs34)))] = some cs35 ∧
 ∀ w36 : World, w36 = World.alloc w18 (.cells (List.toArray cs35) 24) →
 RunV Tryd.prog (Builtin.append_ #[126, 126] 126 #[(.slice d4 d4n d4c), (.slice (some ⟨World.heap w18 |>.size, 0, none⟩) 1 1)]) w36 fun v37 w38 => ∃ (x39 : Option Addr) (x39n : Nat) (x39c : Nat), v37 = (.slice x39 x39n x39c) ∧
 ∃ m40, m40 < m2 ∧ I1 m40 x39 x39n x39c (IntKind.wrap .i64 (i5 + 1)) w38))))))
 else
 (R (.returned (.bool false)) w3)))
theorem e37 (l0 : Option Addr) (l0n : Nat) (l0c : Nat) (w : World) (R : Ending → World → Prop) : denS Tryd.prog s37 (argsEnv 0 [(.slice l0 l0n l0c)]) w (endK r37 R) = d37 l0 l0n l0c w R := by kernel_rfl
theorem c37 (l0 : Option Addr) (l0n : Nat) (l0c : Nat) {w : World} {R : Ending → World → Prop} (h : d37 l0 l0n l0c w R) : Calls Tryd.prog 37 #[(.slice l0 l0n l0c)] w R :=
  den37 [(.slice l0 l0n l0c)] w R (by simp) ((e37 l0 l0n l0c w R).symm ▸ h)

/-- prelude/preludelaw24.sameRows -/
def s34 : S := (.seq (.ops [⟨(some 4), (.mv (.const (.bool false))), .bool, none⟩] [0, 1])
 (.seq (.seq (.ops [⟨(some 6), (.mv (.tmp 0)), .sl, none⟩,
  ⟨(some 7), (.len (.tmp 6)), (.int .i64), none⟩,
  ⟨(some 8), (.mv (.tmp 1)), .sl, none⟩,
  ⟨(some 9), (.len (.tmp 8)), (.int .i64), none⟩,
  ⟨(some 10), (.bin .neq (.tmp 7) (.tmp 9)), .bool, none⟩] [10, 0, 1])
 (.cond (.tmp 10)
 (.seq (.ops [⟨(some 4), (.mv (.const (.bool false))), .bool, none⟩] [4])
 .ret)
 .skip))
 (.seq (.seq (.ops [⟨(some 5), (.mv (.const (.int .i64 0))), (.int .i64), none⟩] [5, 0, 1])
 (.block 0
 (.loop [(5, (.int .i64))] [0, 1]
 (.seq (.seq (.ops [⟨(some 11), (.mv (.tmp 5)), (.int .i64), none⟩,
  ⟨(some 12), (.mv (.tmp 0)), .sl, none⟩,
  ⟨(some 13), (.len (.tmp 12)), (.int .i64), none⟩,
  ⟨(some 14), (.bin .lss (.tmp 11) (.tmp 13)), .bool, none⟩] [14, 0, 5, 1])
 (.cond (.tmp 14)
 .skip
 (.exit 0)))
 (.seq (.block 1
 (.seq (.draw (.take 0 ⟨(some 17), (.mv (.tmp 0)), .sl, none⟩
  (.take 1 ⟨(some 18), (.mv (.tmp 5)), (.int .i64), none⟩
  (.take 2 ⟨(some 19), (.ia 3 (.tmp 17) (.tmp 18)), .ptr, none⟩
  (.take 3 ⟨(some 20), (.ldN 3 (.tmp 19)), .agg, none⟩
  (.take 4 ⟨(some 21), (.mv (.tmp 1)), .sl, none⟩
  (.take 5 ⟨(some 22), (.mv (.tmp 5)), (.int .i64), none⟩
  (.take 6 ⟨(some 23), (.ia 3 (.tmp 21) (.tmp 22)), .ptr, none⟩
  (.take 7 ⟨(some 24), (.ldN 3 (.tmp 23)), .agg, none⟩
  (.take 8 ⟨(some 25), (.eqG .neq 31 (.tmp 20) (.tmp 24)), .bool, none⟩
  .done))))))))) [25, 5, 0, 1])
 (.cond (.tmp 25)
 (.seq (.ops [⟨(some 4), (.mv (.const (.bool false))), .bool, none⟩] [4])
 .ret)
 .skip)))
 (.ops [⟨(some 15), (.mv (.tmp 5)), (.int .i64), none⟩,
  ⟨(some 16), (.bin .add (.tmp 15) (.const (.int .i64 1))), (.int .i64), none⟩,
  ⟨(some 5), (.mv (.tmp 16)), (.int .i64), none⟩] [5, 0, 1]))))))
 (.seq (.ops [⟨(some 4), (.mv (.const (.bool true))), .bool, none⟩] [4])
 .ret))))
def r34 : List Res := [.t 4]
theorem tr34 : trS Tryd.prog [] 26 (Tryd.f34.body.getD .skip) s34 = some s34 := by kernel_rfl
theorem den34 (args : List Value) (w : World) (R : Ending → World → Prop) (hn : args.length ≤ 26) (h : denS Tryd.prog s34 (argsEnv 0 args) w (endK r34 R)) : Calls Tryd.prog 34 args.toArray w R :=
  calls_of_den (pn := []) (fn := Tryd.f34) (c := Tryd.f34.body.getD .skip) Tryd.func34 (by kernel_rfl) (by rw [Tryd.ntmps34]; exact hn) (by rw [Tryd.ntmps34]; exact tr34) (by kernel_rfl) h
def d34 (a0 : Option Addr) (a0n : Nat) (a0c : Nat) (b1 : Option Addr) (b1n : Nat) (b1c : Nat) (w : World) (R : Ending → World → Prop) : Prop :=
 (bif (!decide (((a0n : Nat) : Int) = ((b1n : Nat) : Int))) then
 (R (.returned (.bool false)) w)
 else
 (∃ I2 : Nat → Int → World → Prop,
 (∃ m, I2 m 0 w) ∧
 (∀ (m3 : Nat) (w4 : World) (i5 : Int), I2 m3 i5 w4 →
 (bif (decide (i5 < ((a0n : Nat) : Int))) then
 (∀ w6 : World, w6 = World.drew w4 →
 0 ≤ i5 ∧ i5 < ((a0n : Nat) : Int) ∧ optK a0 fun a7 =>
 ∃ cs8 : List Value, List.length cs8 = 3 ∧ Cells w6 (Addr.add a7 (Int.toNat i5 * 3)) cs8 ∧
 0 ≤ i5 ∧ i5 < ((b1n : Nat) : Int) ∧ optK b1 fun a9 =>
 ∃ cs10 : List Value, List.length cs10 = 3 ∧ Cells w6 (Addr.add a9 (Int.toNat i5 * 3)) cs10 ∧
 ∃ q11 : Bool, Sem.run Tryd.prog (do eqGuard .neq 31 (.tmp 20) (.tmp 24) (.agg (List.toArray cs8)) (.agg (List.toArray cs10)); binOp .neq 31 (.agg (List.toArray cs8)) (.agg (List.toArray cs10))) w6 = .ok (.bool q11) w6 ∧
 (bif q11 then
 (R (.returned (.bool false)) w6)
 else
 (∃ m12, m12 < m3 ∧ I2 m12 (IntKind.wrap .i64 (i5 + 1)) w6)))
 else
 (R (.returned (.bool true)) w4)))))
theorem e34 (a0 : Option Addr) (a0n : Nat) (a0c : Nat) (b1 : Option Addr) (b1n : Nat) (b1c : Nat) (w : World) (R : Ending → World → Prop) : denS Tryd.prog s34 (argsEnv 0 [(.slice a0 a0n a0c), (.slice b1 b1n b1c)]) w (endK r34 R) = d34 a0 a0n a0c b1 b1n b1c w R := by kernel_rfl
theorem c34 (a0 : Option Addr) (a0n : Nat) (a0c : Nat) (b1 : Option Addr) (b1n : Nat) (b1c : Nat) {w : World} {R : Ending → World → Prop} (h : d34 a0 a0n a0c b1 b1n b1c w R) : Calls Tryd.prog 34 #[(.slice a0 a0n a0c), (.slice b1 b1n b1c)] w R :=
  den34 [(.slice a0 a0n a0c), (.slice b1 b1n b1c)] w R (by simp) ((e34 a0 a0n a0c b1 b1n b1c w R).symm ▸ h)

/-- prelude/preludelaw24.sameProof -/
def s67 : S := (.seq (.ops [⟨(some 2), (.box 43 (.tmp 0)), .ptr, none⟩,
  ⟨(some 3), (.box 43 (.tmp 1)), .ptr, none⟩,
  ⟨(some 4), (.mv (.const (.bool false))), .bool, none⟩] [2, 3])
 (.join [] [2, 3]
 (.seq (.ops [⟨(some 6), (.fa 1 (.tmp 2)), .ptr, none⟩,
  ⟨(some 7), (.ld1 (.tmp 6)), .bool, none⟩,
  ⟨(some 8), (.fa 1 (.tmp 3)), .ptr, none⟩,
  ⟨(some 9), (.ld1 (.tmp 8)), .bool, none⟩,
  ⟨(some 10), (.eqB true (.tmp 7) (.tmp 9)), .bool, none⟩,
  ⟨(some 11), (.mv (.tmp 10)), .bool, none⟩,
  ⟨(some 12), (.fa 2 (.tmp 2)), .ptr, (some (11, false))⟩,
  ⟨(some 13), (.ldN 3 (.tmp 12)), .agg, (some (11, false))⟩,
  ⟨(some 14), (.fa 2 (.tmp 3)), .ptr, (some (11, false))⟩,
  ⟨(some 15), (.ldN 3 (.tmp 14)), .agg, (some (11, false))⟩,
  ⟨(some 16), (.eqG .neq 31 (.tmp 13) (.tmp 15)), .bool, (some (11, false))⟩,
  ⟨(some 17), (.pick (.tmp 11) (.const (.bool true)) (.tmp 16)), .bool, none⟩,
  ⟨(some 18), (.mv (.tmp 17)), .bool, none⟩,
  ⟨(some 19), (.fa 0 (.tmp 2)), .ptr, (some (18, false))⟩,
  ⟨(some 20), (.ld1 (.tmp 19)), .sl, (some (18, false))⟩,
  ⟨(some 21), (.len (.tmp 20)), (.int .i64), (some (18, false))⟩,
  ⟨(some 22), (.fa 0 (.tmp 3)), .ptr, (some (18, false))⟩,
  ⟨(some 23), (.ld1 (.tmp 22)), .sl, (some (18, false))⟩,
  ⟨(some 24), (.len (.tmp 23)), (.int .i64), (some (18, false))⟩,
  ⟨(some 25), (.bin .neq (.tmp 21) (.tmp 24)), .bool, (some (18, false))⟩,
  ⟨(some 26), (.pick (.tmp 18) (.const (.bool true)) (.tmp 25)), .bool, none⟩] [26, 2, 3])
 (.cond (.tmp 26)
 (.seq (.ops [⟨(some 4), (.mv (.const (.bool false))), .bool, none⟩] [4])
 .ret)
 .skip))
 (.seq (.seq (.ops [⟨(some 5), (.mv (.const (.int .i64 0))), (.int .i64), none⟩] [5, 2, 3])
 (.block 0
 (.loop [(5, (.int .i64))] [2, 3]
 (.seq (.seq (.ops [⟨(some 27), (.mv (.tmp 5)), (.int .i64), none⟩,
  ⟨(some 28), (.fa 0 (.tmp 2)), .ptr, none⟩,
  ⟨(some 29), (.ld1 (.tmp 28)), .sl, none⟩,
  ⟨(some 30), (.len (.tmp 29)), (.int .i64), none⟩,
  ⟨(some 31), (.bin .lss (.tmp 27) (.tmp 30)), .bool, none⟩] [31, 2, 5, 3])
 (.cond (.tmp 31)
 .skip
 (.exit 0)))
 (.seq (.block 1
 (.seq (.draw (.take 0 ⟨(some 34), (.fa 0 (.tmp 2)), .ptr, none⟩
  (.take 1 ⟨(some 35), (.ld1 (.tmp 34)), .sl, none⟩
  (.take 2 ⟨(some 36), (.mv (.tmp 5)), (.int .i64), none⟩
  (.take 3 ⟨(some 37), (.ia 33 (.tmp 35) (.tmp 36)), .ptr, none⟩
  (.take 4 ⟨(some 38), (.ldN 33 (.tmp 37)), .agg, none⟩
  (.take 5 ⟨(some 39), (.fa 0 (.tmp 3)), .ptr, none⟩
  (.take 6 ⟨(some 40), (.ld1 (.tmp 39)), .sl, none⟩
  (.take 7 ⟨(some 41), (.mv (.tmp 5)), (.int .i64), none⟩
  (.take 8 ⟨(some 42), (.ia 33 (.tmp 40) (.tmp 41)), .ptr, none⟩
  (.take 9 ⟨(some 43), (.ldN 33 (.tmp 42)), .agg, none⟩
  (.take 10 ⟨(some 44), (.eqG .neq 51 (.tmp 38) (.tmp 43)), .bool, none⟩
  .done))))))))))) [44, 5, 2, 3])
 (.cond (.tmp 44)
 (.seq (.ops [⟨(some 4), (.mv (.const (.bool false))), .bool, none⟩] [4])
 .ret)
 .skip)))
 (.ops [⟨(some 32), (.mv (.tmp 5)), (.int .i64), none⟩,
  ⟨(some 33), (.bin .add (.tmp 32) (.const (.int .i64 1))), (.int .i64), none⟩,
  ⟨(some 5), (.mv (.tmp 33)), (.int .i64), none⟩] [5, 2, 3]))))))
 (.seq (.ops [⟨(some 4), (.mv (.const (.bool true))), .bool, none⟩] [4])
 .ret))))
def r67 : List Res := [.t 4]
theorem tr67 : trS Tryd.prog [] 45 (Tryd.f67.body.getD .skip) s67 = some s67 := by kernel_rfl
theorem den67 (args : List Value) (w : World) (R : Ending → World → Prop) (hn : args.length ≤ 45) (h : denS Tryd.prog s67 (argsEnv 0 args) w (endK r67 R)) : Calls Tryd.prog 67 args.toArray w R :=
  calls_of_den (pn := []) (fn := Tryd.f67) (c := Tryd.f67.body.getD .skip) Tryd.func67 (by kernel_rfl) (by rw [Tryd.ntmps67]; exact hn) (by rw [Tryd.ntmps67]; exact tr67) (by kernel_rfl) h
def d67 (a0 : Array Value) (b1 : Array Value) (w : World) (R : Ending → World → Prop) : Prop :=
 ∀ w2 : World, w2 = World.alloc w (.cells a0 43) →
 ∀ w3 : World, w3 = World.alloc w2 (.cells b1 43) →
 ∃ J4 : World → Prop,
 (∃ x5 : Bool, World.cell? w3 (Addr.add ⟨World.heap w |>.size, 0, none⟩ 1) = some (.bool x5) ∧
 ∃ x6 : Bool, World.cell? w3 (Addr.add ⟨World.heap w2 |>.size, 0, none⟩ 1) = some (.bool x6) ∧
 (bif (!(x5 == x6)) then
 (R (.returned (.bool false)) w3)
 else
 (∃ cs7 : List Value, List.length cs7 = 3 ∧ Cells w3 (Addr.add ⟨World.heap w |>.size, 0, none⟩ 2) cs7 ∧
 ∃ cs8 : List Value, List.length cs8 = 3 ∧ Cells w3 (Addr.add ⟨World.heap w2 |>.size, 0, none⟩ 2) cs8 ∧
 ∃ q9 : Bool, Sem.run Tryd.prog (do eqGuard .neq 31 (.tmp 13) (.tmp 15) (.agg (List.toArray cs7)) (.agg (List.toArray cs8)); binOp .neq 31 (.agg (List.toArray cs7)) (.agg (List.toArray cs8))) w3 = .ok (.bool q9) w3 ∧
 (bif q9 then
 (R (.returned (.bool false)) w3)
 else
 (∃ (x10 : Option Addr) (x10n : Nat) (x10c : Nat), World.cell? w3 (Addr.add ⟨World.heap w |>.size, 0, none⟩ 0) = some (.slice x10 x10n x10c) ∧
 ∃ (x11 : Option Addr) (x11n : Nat) (x11c : Nat), World.cell? w3 (Addr.add ⟨World.heap w2 |>.size, 0, none⟩ 0) = some (.slice x11 x11n x11c) ∧
 (bif (!decide (((x10n : Nat) : Int) = ((x11n : Nat) : Int))) then
 (R (.returned (.bool false)) w3)
 else
 (J4  w3))))))) ∧
 (∀ (w12 : World), J4  w12 →
 ∃ I13 : Nat → Int → World → Prop,
 (∃ m, I13 m 0 w12) ∧
 (∀ (m14 : Nat) (w15 : World) (i16 : Int), I13 m14 i16 w15 →
 ∃ (x17 : Option Addr) (x17n : Nat) (x17c : Nat), World.cell? w15 (Addr.add ⟨World.heap w |>.size, 0, none⟩ 0) = some (.slice x17 x17n x17c) ∧
 (bif (decide (i16 < ((x17n : Nat) : Int))) then
 (∀ w18 : World, w18 = World.drew w15 →
 ∃ (x19 : Option Addr) (x19n : Nat) (x19c : Nat), World.cell? w18 (Addr.add ⟨World.heap w |>.size, 0, none⟩ 0) = some (.slice x19 x19n x19c) ∧
 0 ≤ i16 ∧ i16 < ((x19n : Nat) : Int) ∧ optK x19 fun a20 =>
 ∃ cs21 : List Value, List.length cs21 = 33 ∧ Cells w18 (Addr.add a20 (Int.toNat i16 * 33)) cs21 ∧
 ∃ (x22 : Option Addr) (x22n : Nat) (x22c : Nat), World.cell? w18 (Addr.add ⟨World.heap w2 |>.size, 0, none⟩ 0) = some (.slice x22 x22n x22c) ∧
 0 ≤ i16 ∧ i16 < ((x22n : Nat) : Int) ∧ optK x22 fun a23 =>
 ∃ cs24 : List Value, List.length cs24 = 33 ∧ Cells w18 (Addr.add a23 (Int.toNat i16 * 33)) cs24 ∧
 ∃ q25 : Bool, Sem.run Tryd.prog (do eqGuard .neq 51 (.tmp 38) (.tmp 43) (.agg (List.toArray cs21)) (.agg (List.toArray cs24)); binOp .neq 51 (.agg (List.toArray cs21)) (.agg (List.toArray cs24))) w18 = .ok (.bool q25) w18 ∧
 (bif q25 then
 (R (.returned (.bool false)) w18)
 else
 (∃ m26, m26 < m14 ∧ I13 m26 (IntKind.wrap .i64 (i16 + 1)) w18)))
 else
 (R (.returned (.bool true)) w15))))
theorem e67 (a0 : Array Value) (b1 : Array Value) (w : World) (R : Ending → World → Prop) : denS Tryd.prog s67 (argsEnv 0 [(.agg a0), (.agg b1)]) w (endK r67 R) = d67 a0 b1 w R := by kernel_rfl
theorem c67 (a0 : Array Value) (b1 : Array Value) {w : World} {R : Ending → World → Prop} (h : d67 a0 b1 w R) : Calls Tryd.prog 67 #[(.agg a0), (.agg b1)] w R :=
  den67 [(.agg a0), (.agg b1)] w R (by simp) ((e67 a0 b1 w R).symm ▸ h)

/-- prelude/preludelaw24.proves -/
def s40 : S := (.seq (.ops [⟨(some 5), (.box 29 (.tmp 1)), .ptr, none⟩,
  ⟨(some 6), (.box 43 (.tmp 2)), .ptr, none⟩,
  ⟨(some 8), (.mv (.const (.bool false))), .bool, none⟩] [5, 3, 6, 0])
 (.seq (.join [(16, .bool)] [0, 3, 5, 6]
 (.ops [⟨(some 9), (.fa 0 (.tmp 5)), .ptr, none⟩,
  ⟨(some 10), (.ld1 (.tmp 9)), (.int .i64), none⟩,
  ⟨(some 11), (.bin .lss (.tmp 10) (.const (.int .i64 0))), .bool, none⟩,
  ⟨(some 12), (.mv (.tmp 11)), .bool, none⟩,
  ⟨(some 13), (.fa 0 (.tmp 5)), .ptr, (some (12, false))⟩,
  ⟨(some 14), (.ld1 (.tmp 13)), (.int .i64), (some (12, false))⟩,
  ⟨(some 15), (.bin .gtr (.tmp 14) (.const (.int .i64 65535))), .bool, (some (12, false))⟩,
  ⟨(some 16), (.pick (.tmp 12) (.const (.bool true)) (.tmp 15)), .bool, none⟩] [16, 3, 6, 0, 5])
 (.cond (.tmp 16)
 (.seq (.ops [⟨(some 17), (.mv (.tmp 3)), (.int .i64), none⟩,
  ⟨(some 18), (.bin .eql (.tmp 17) (.const (.int .i64 20))), .bool, none⟩,
  ⟨(some 19), (.mv (.tmp 18)), .bool, none⟩,
  ⟨(some 20), (.ldN 5 (.tmp 6)), .agg, (some (19, true))⟩,
  ⟨(some 21), (.bld 43 (.fields [(0, 1), (1, 1), (2, 3)]) []), .agg, (some (19, true))⟩,
  ⟨(some 22), (.call 67 [(.tmp 20), (.tmp 21)] [.bool]), .bool, (some (19, true))⟩,
  ⟨(some 23), (.pick (.tmp 19) (.tmp 22) (.const (.bool false))), .bool, none⟩,
  ⟨(some 8), (.mv (.tmp 23)), .bool, none⟩] [8])
 .ret)
 .skip))
 (.seq (.draw (.take 0 ⟨(some 24), (.mv (.tmp 3)), (.int .i64), none⟩
  (.take 1 ⟨(some 25), (.bin .eql (.tmp 24) (.const (.int .i64 0))), .bool, none⟩
  (.take 2 ⟨(some 26), (.mv (.tmp 25)), .bool, none⟩
  (.take 3 ⟨(some 27), (.ldN 5 (.tmp 6)), .agg, (some (26, true))⟩
  (.take 4 ⟨(some 28), (.mv (.tmp 0)), .sl, (some (26, true))⟩
  (.take 5 ⟨(some 29), (.ldN 2 (.tmp 5)), .agg, (some (26, true))⟩
  (.go 6 ⟨(some 30), (.call 68 [(.tmp 28), (.tmp 29)] [.agg]), .agg, (some (26, true))⟩ [(3, ⟨(some 27), (.ldN 5 (.tmp 6)), .agg, (some (26, true))⟩)]
  (.go 7 ⟨(some 31), (.call 67 [(.tmp 27), (.tmp 30)] [.bool]), .bool, (some (26, true))⟩ []
  (.take 8 ⟨(some 32), (.pick (.tmp 26) (.tmp 31) (.const (.bool false))), .bool, none⟩
  (.take 9 ⟨(some 8), (.mv (.tmp 32)), .bool, none⟩
  .done)))))))))) [8])
 .ret)))
def r40 : List Res := [.t 8]
theorem tr40 : trS Tryd.prog [] 33 (Tryd.f40.body.getD .skip) s40 = some s40 := by kernel_rfl
theorem den40 (args : List Value) (w : World) (R : Ending → World → Prop) (hn : args.length ≤ 33) (h : denS Tryd.prog s40 (argsEnv 0 args) w (endK r40 R)) : Calls Tryd.prog 40 args.toArray w R :=
  calls_of_den (pn := []) (fn := Tryd.f40) (c := Tryd.f40.body.getD .skip) Tryd.func40 (by kernel_rfl) (by rw [Tryd.ntmps40]; exact hn) (by rw [Tryd.ntmps40]; exact tr40) (by kernel_rfl) h
def d40 (rows0 : Option Addr) (rows0n : Nat) (rows0c : Nat) (k1 : Array Value) (p2 : Array Value) (e3 : Int) (w : World) (R : Ending → World → Prop) : Prop :=
 ∀ w4 : World, w4 = World.alloc w (.cells k1 29) →
 ∀ w5 : World, w5 = World.alloc w4 (.cells p2 43) →
 ∃ J6 : Bool → World → Prop,
 (∃ x7 : Int, World.cell? w5 (Addr.add ⟨World.heap w |>.size, 0, none⟩ 0) = some (.int .i64 x7) ∧
 (bif (decide (x7 < 0)) then
 (J6 true w5)
 else
 (∃ x8 : Int, World.cell? w5 (Addr.add ⟨World.heap w |>.size, 0, none⟩ 0) = some (.int .i64 x8) ∧
 J6 (decide (65535 < x8)) w5))) ∧
 (∀ (w9 : World) (x10 : Bool), J6 x10 w9 →
 (bif x10 then
 ((bif (decide (e3 = 20)) then
 (∃ cs11 : List Value, List.length cs11 = 5 ∧ Cells w9 ⟨World.heap w4 |>.size, 0, none⟩ cs11 ∧
 ∃ cs12, fillL (.fields [(0, 1), (1, 1), (2, 3)]) (zc Tryd.prog 43) [] = some cs12 ∧
 Calls Tryd.prog 67 #[(.agg (List.toArray cs11)), (.agg (List.toArray cs12))] w9 fun e13 w14 => ∃ x15 : Bool, e13 = .returned (.bool x15) ∧
 R (.returned (.bool x15)) w14)
 else
 (R (.returned (.bool false)) w9)))
 else
 (∀ w16 : World, w16 = World.drew w9 →
 (bif (decide (e3 = 0)) then
 (∃ cs17 : List Value, List.length cs17 = 5 ∧ Cells w16 ⟨World.heap w4 |>.size, 0, none⟩ cs17 ∧
 ∃ cs18 : List Value, List.length cs18 = 2 ∧ Cells w16 ⟨World.heap w |>.size, 0, none⟩ cs18 ∧
 Calls Tryd.prog 68 #[(.slice rows0 rows0n rows0c), (.agg (List.toArray cs18))] w16 fun e19 w20 => ∃ x21 : Array Value, e19 = .returned (.agg x21) ∧
 (∃ cs22 : List Value, List.length cs22 = 5 ∧ Cells w20 ⟨World.heap w4 |>.size, 0, none⟩ cs22 ∧
 (((.agg (List.toArray cs22)) : Value) = (.agg (List.toArray cs17)) ∧ w20 = w20)) ∧
 Calls Tryd.prog 67 #[(.agg (List.toArray cs17)), (.agg x21)] w20 fun e23 w24 => ∃ x25 : Bool, e23 = .returned (.bool x25) ∧
 R (.returned (.bool x25)) w24)
 else
 ((True) ∧
 R (.returned (.bool false)) w16)))))
theorem e40 (rows0 : Option Addr) (rows0n : Nat) (rows0c : Nat) (k1 : Array Value) (p2 : Array Value) (e3 : Int) (w : World) (R : Ending → World → Prop) : denS Tryd.prog s40 (argsEnv 0 [(.slice rows0 rows0n rows0c), (.agg k1), (.agg p2), (.int .i64 e3)]) w (endK r40 R) = d40 rows0 rows0n rows0c k1 p2 e3 w R := by kernel_rfl
theorem c40 (rows0 : Option Addr) (rows0n : Nat) (rows0c : Nat) (k1 : Array Value) (p2 : Array Value) (e3 : Int) {w : World} {R : Ending → World → Prop} (h : d40 rows0 rows0n rows0c k1 p2 e3 w R) : Calls Tryd.prog 40 #[(.slice rows0 rows0n rows0c), (.agg k1), (.agg p2), (.int .i64 e3)] w R :=
  den40 [(.slice rows0 rows0n rows0c), (.agg k1), (.agg p2), (.int .i64 e3)] w R (by simp) ((e40 rows0 rows0n rows0c k1 p2 e3 w R).symm ▸ h)

/-- prelude/preludelaw24.back -/
def s28 : S := (.seq (.ops [⟨(some 4), (.mv (.const (.bool false))), .bool, none⟩] [0, 1])
 (.seq (.ops [⟨(some 8), (.mv (.tmp 0)), .sl, none⟩,
  ⟨(some 9), (.mv (.tmp 1)), .sl, none⟩,
  ⟨(some 10), (.len (.tmp 9)), (.int .i64), none⟩,
  ⟨(some 11), (.bin .add (.tmp 10) (.const (.int .i64 2))), (.int .i64), none⟩,
  ⟨(some 12), (.slS 3 (.tmp 8) none (some (.tmp 11)) none), .sl, none⟩,
  ⟨(some 5), (.mv (.tmp 12)), .sl, none⟩] [0, 1, 5])
 (.join [(6, .bool)] [5]
 (.ops [⟨(some 13), (.mv (.tmp 0)), .sl, none⟩,
  ⟨(some 14), (.mv (.tmp 1)), .sl, none⟩,
  ⟨(some 15), (.call 34 [(.tmp 13), (.tmp 14)] [.bool]), .bool, none⟩,
  ⟨(some 16), (.mv (.tmp 15)), .bool, none⟩,
  ⟨(some 17), (.mv (.tmp 5)), .sl, (some (16, true))⟩,
  ⟨(some 18), (.mv (.tmp 1)), .sl, (some (16, true))⟩,
  ⟨(some 19), (.len (.tmp 18)), (.int .i64), (some (16, true))⟩,
  ⟨(some 20), (.ia 3 (.tmp 17) (.tmp 19)), .ptr, (some (16, true))⟩,
  ⟨(some 21), (.fa 2 (.tmp 20)), .ptr, (some (16, true))⟩,
  ⟨(some 22), (.ld1 (.tmp 21)), (.int .i64), (some (16, true))⟩,
  ⟨(some 23), (.bin .eql (.tmp 22) (.const (.int .i64 (-31)))), .bool, (some (16, true))⟩,
  ⟨(some 24), (.pick (.tmp 16) (.tmp 23) (.const (.bool false))), .bool, none⟩,
  ⟨(some 25), (.mv (.tmp 24)), .bool, none⟩,
  ⟨(some 26), (.mv (.tmp 5)), .sl, (some (25, true))⟩,
  ⟨(some 27), (.mv (.tmp 1)), .sl, (some (25, true))⟩,
  ⟨(some 28), (.len (.tmp 27)), (.int .i64), (some (25, true))⟩,
  ⟨(some 29), (.bin .add (.tmp 28) (.const (.int .i64 1))), (.int .i64), (some (25, true))⟩,
  ⟨(some 30), (.ia 3 (.tmp 26) (.tmp 29)), .ptr, (some (25, true))⟩,
  ⟨(some 31), (.fa 2 (.tmp 30)), .ptr, (some (25, true))⟩,
  ⟨(some 32), (.ld1 (.tmp 31)), (.int .i64), (some (25, true))⟩,
  ⟨(some 33), (.bin .eql (.tmp 32) (.const (.int .i64 (-32)))), .bool, (some (25, true))⟩,
  ⟨(some 34), (.pick (.tmp 25) (.tmp 33) (.const (.bool false))), .bool, none⟩,
  ⟨(some 6), (.mv (.tmp 34)), .bool, none⟩] [5, 6])
 (.seq (.seq (.ops [⟨(some 7), (.mv (.const (.int .i64 0))), (.int .i64), none⟩] [7, 5, 6])
 (.block 0
 (.loop [(7, (.int .i64))] [5, 6]
 (.seq (.seq (.ops [⟨(some 35), (.mv (.tmp 7)), (.int .i64), none⟩,
  ⟨(some 36), (.mv (.tmp 5)), .sl, none⟩,
  ⟨(some 37), (.len (.tmp 36)), (.int .i64), none⟩,
  ⟨(some 38), (.bin .lss (.tmp 35) (.tmp 37)), .bool, none⟩] [38, 5, 7, 6])
 (.cond (.tmp 38)
 .skip
 (.exit 0)))
 (.seq (.block 1
 (.ops [⟨(some 41), (.mv (.tmp 5)), .sl, none⟩,
  ⟨(some 42), (.mv (.tmp 7)), (.int .i64), none⟩,
  ⟨(some 43), (.bld 29 (.fields [(0, 1), (1, 1)]) [(0, (.const (.int .i64 (-3))))]), .agg, none⟩,
  ⟨(some 44), (.bld 31 (.fields [(0, 2), (2, 1)]) [(0, (.tmp 43)), (1, (.const (.int .i64 (-33))))]), .agg, none⟩,
  ⟨(some 45), (.ia 3 (.tmp 41) (.tmp 42)), .ptr, none⟩,
  ⟨none, (.stN 3 (.tmp 45) (.tmp 44)), .any, none⟩] [7, 5, 6]))
 (.ops [⟨(some 39), (.mv (.tmp 7)), (.int .i64), none⟩,
  ⟨(some 40), (.bin .add (.tmp 39) (.const (.int .i64 1))), (.int .i64), none⟩,
  ⟨(some 7), (.mv (.tmp 40)), (.int .i64), none⟩] [7, 5, 6]))))))
 (.seq (.ops [⟨(some 46), (.mv (.tmp 6)), .bool, none⟩,
  ⟨(some 4), (.mv (.tmp 46)), .bool, none⟩] [4])
 .ret)))))
def r28 : List Res := [.t 4]
theorem tr28 : trS Tryd.prog [] 47 (Tryd.f28.body.getD .skip) s28 = some s28 := by kernel_rfl
theorem den28 (args : List Value) (w : World) (R : Ending → World → Prop) (hn : args.length ≤ 47) (h : denS Tryd.prog s28 (argsEnv 0 args) w (endK r28 R)) : Calls Tryd.prog 28 args.toArray w R :=
  calls_of_den (pn := []) (fn := Tryd.f28) (c := Tryd.f28.body.getD .skip) Tryd.func28 (by kernel_rfl) (by rw [Tryd.ntmps28]; exact hn) (by rw [Tryd.ntmps28]; exact tr28) (by kernel_rfl) h
def d28 (l0 : Option Addr) (l0n : Nat) (l0c : Nat) (rows1 : Option Addr) (rows1n : Nat) (rows1c : Nat) (w : World) (R : Ending → World → Prop) : Prop :=
 0 ≤ (IntKind.wrap .i64 (((rows1n : Nat) : Int) + 2)) ∧ (IntKind.wrap .i64 (((rows1n : Nat) : Int) + 2)) ≤ ((l0c : Nat) : Int) ∧ ∃ J2 : Bool → World → Prop,
 (Calls Tryd.prog 34 #[(.slice l0 l0n l0c), (.slice rows1 rows1n rows1c)] w fun e3 w4 => ∃ x5 : Bool, e3 = .returned (.bool x5) ∧
 (bif x5 then
 (0 ≤ ((rows1n : Nat) : Int) ∧ ((rows1n : Nat) : Int) < ((((Int.toNat (IntKind.wrap .i64 (((rows1n : Nat) : Int) + 2))) - 0) : Nat) : Int) ∧ optK (if l0c = 0 then l0 else Option.map (fun y => Addr.add y (0 * 3)) l0) fun a6 =>
 ∃ x7 : Int, World.cell? w4 (Addr.add (Addr.add a6 (Int.toNat ((rows1n : Nat) : Int) * 3)) 2) = some (.int .i64 x7) ∧
 (bif (decide (x7 = (-31))) then
 (0 ≤ (IntKind.wrap .i64 (((rows1n : Nat) : Int) + 1)) ∧ (IntKind.wrap .i64 (((rows1n : Nat) : Int) + 1)) < ((((Int.toNat (IntKind.wrap .i64 (((rows1n : Nat) : Int) + 2))) - 0) : Nat) : Int) ∧ optK (if l0c = 0 then l0 else Option.map (fun y => Addr.add y (0 * 3)) l0) fun a8 =>
 ∃ x9 : Int, World.cell? w4 (Addr.add (Addr.add a8 (Int.toNat (IntKind.wrap .i64 (((rows1n : Nat) : Int) + 1)) * 3)) 2) = some (.int .i64 x9) ∧
 J2 (decide (x9 = (-32))) w4)
 else
 (J2 false w4)))
 else
 (J2 false w4))) ∧
 (∀ (w10 : World) (ok11 : Bool), J2 ok11 w10 →
 ∃ I12 : Nat → Int → World → Prop,
 (∃ m, I12 m 0 w10) ∧
 (∀ (m13 : Nat) (w14 : World) (i15 : Int), I12 m13 i15 w14 →
 (bif (decide (i15 < ((((Int.toNat (IntKind.wrap .i64 (((rows1n : Nat) : Int) + 2))) - 0) : Nat) : Int))) then
 (∃ cs16, fillL (.fields [(0, 1), (1, 1)]) (zc Tryd.prog 29) [(0, (.int .i64 (-3)))] = some cs16 ∧
 ∃ cs17, fillL (.fields [(0, 2), (2, 1)]) (zc Tryd.prog 31) [(0, (.agg (List.toArray cs16))), (1, (.int .i64 (-33)))] = some cs17 ∧
 0 ≤ i15 ∧ i15 < ((((Int.toNat (IntKind.wrap .i64 (((rows1n : Nat) : Int) + 2))) - 0) : Nat) : Int) ∧ optK (if l0c = 0 then l0 else Option.map (fun y => Addr.add y (0 * 3)) l0) fun a18 =>
 Array.size (List.toArray cs17) = 3 ∧ (∀ u ∈ Array.toList (List.toArray cs17), one u = true) ∧ Room w14 (Addr.add a18 (Int.toNat i15 * 3)) 3 ∧
 ∀ w19 : World, w19 = setCells w14 (Addr.add a18 (Int.toNat i15 * 3)) (Array.toList (List.toArray cs17)) 0 →
 ∃ m20, m20 < m13 ∧ I12 m20 (IntKind.wrap .i64 (i15 + 1)) w19)
 else
 (R (.returned (.bool ok11)) w14))))
theorem e28 (l0 : Option Addr) (l0n : Nat) (l0c : Nat) (rows1 : Option Addr) (rows1n : Nat) (rows1c : Nat) (w : World) (R : Ending → World → Prop) : denS Tryd.prog s28 (argsEnv 0 [(.slice l0 l0n l0c), (.slice rows1 rows1n rows1c)]) w (endK r28 R) = d28 l0 l0n l0c rows1 rows1n rows1c w R := by kernel_rfl
theorem c28 (l0 : Option Addr) (l0n : Nat) (l0c : Nat) (rows1 : Option Addr) (rows1n : Nat) (rows1c : Nat) {w : World} {R : Ending → World → Prop} (h : d28 l0 l0n l0c rows1 rows1n rows1c w R) : Calls Tryd.prog 28 #[(.slice l0 l0n l0c), (.slice rows1 rows1n rows1c)] w R :=
  den28 [(.slice l0 l0n l0c), (.slice rows1 rows1n rows1c)] w R (by simp) ((e28 l0 l0n l0c rows1 rows1n rows1c w R).symm ▸ h)

/-- prelude/preludelaw24.apart -/
def s35 : S := (.seq (.ops [⟨(some 2), (.mv (.const (.bool false))), .bool, none⟩] [0])
 (.seq (.seq (.ops [⟨(some 3), (.mv (.const (.int .i64 0))), (.int .i64), none⟩] [3, 0])
 (.block 0
 (.loop [(3, (.int .i64))] [0]
 (.seq (.seq (.ops [⟨(some 10), (.mv (.tmp 3)), (.int .i64), none⟩,
  ⟨(some 11), (.mv (.tmp 0)), .sl, none⟩,
  ⟨(some 12), (.len (.tmp 11)), (.int .i64), none⟩,
  ⟨(some 13), (.bin .lss (.tmp 10) (.tmp 12)), .bool, none⟩] [13, 0, 3])
 (.cond (.tmp 13)
 .skip
 (.exit 0)))
 (.seq (.block 1
 (.seq (.ops [⟨(some 4), (.mv (.const (.int .i64 0))), (.int .i64), none⟩] [4, 0, 3])
 (.block 2
 (.loop [(4, (.int .i64))] [0, 3]
 (.seq (.seq (.ops [⟨(some 16), (.mv (.tmp 4)), (.int .i64), none⟩,
  ⟨(some 17), (.mv (.tmp 0)), .sl, none⟩,
  ⟨(some 18), (.mv (.tmp 3)), (.int .i64), none⟩,
  ⟨(some 19), (.ia 1 (.tmp 17) (.tmp 18)), .ptr, none⟩,
  ⟨(some 20), (.ld1 (.tmp 19)), .sl, none⟩,
  ⟨(some 21), (.len (.tmp 20)), (.int .i64), none⟩,
  ⟨(some 22), (.bin .lss (.tmp 16) (.tmp 21)), .bool, none⟩] [22, 0, 3, 4])
 (.cond (.tmp 22)
 .skip
 (.exit 2)))
 (.seq (.block 3
 (.ops [⟨(some 25), (.mv (.tmp 0)), .sl, none⟩,
  ⟨(some 26), (.mv (.tmp 3)), (.int .i64), none⟩,
  ⟨(some 27), (.ia 1 (.tmp 25) (.tmp 26)), .ptr, none⟩,
  ⟨(some 28), (.ld1 (.tmp 27)), .sl, none⟩,
  ⟨(some 29), (.mv (.tmp 4)), (.int .i64), none⟩,
  ⟨(some 30), (.mv (.tmp 3)), (.int .i64), none⟩,
  ⟨(some 31), (.bin .sub (.const (.int .i64 (-50))) (.tmp 30)), (.int .i64), none⟩,
  ⟨(some 32), (.ia 3 (.tmp 28) (.tmp 29)), .ptr, none⟩,
  ⟨(some 33), (.fa 2 (.tmp 32)), .ptr, none⟩,
  ⟨none, (.st1 (.tmp 33) (.tmp 31)), .any, none⟩] [4, 0, 3]))
 (.ops [⟨(some 23), (.mv (.tmp 4)), (.int .i64), none⟩,
  ⟨(some 24), (.bin .add (.tmp 23) (.const (.int .i64 1))), (.int .i64), none⟩,
  ⟨(some 4), (.mv (.tmp 24)), (.int .i64), none⟩] [4, 0, 3])))))))
 (.ops [⟨(some 14), (.mv (.tmp 3)), (.int .i64), none⟩,
  ⟨(some 15), (.bin .add (.tmp 14) (.const (.int .i64 1))), (.int .i64), none⟩,
  ⟨(some 3), (.mv (.tmp 15)), (.int .i64), none⟩] [3, 0]))))))
 (.seq (.seq (.ops [⟨(some 5), (.mv (.const (.int .i64 0))), (.int .i64), none⟩] [5, 0])
 (.block 4
 (.loop [(5, (.int .i64))] [0]
 (.seq (.seq (.ops [⟨(some 34), (.mv (.tmp 5)), (.int .i64), none⟩,
  ⟨(some 35), (.mv (.tmp 0)), .sl, none⟩,
  ⟨(some 36), (.len (.tmp 35)), (.int .i64), none⟩,
  ⟨(some 37), (.bin .lss (.tmp 34) (.tmp 36)), .bool, none⟩] [37, 0, 5])
 (.cond (.tmp 37)
 .skip
 (.exit 4)))
 (.seq (.block 5
 (.seq (.ops [⟨(some 40), (.mv (.tmp 0)), .sl, none⟩,
  ⟨(some 41), (.mv (.tmp 5)), (.int .i64), none⟩,
  ⟨(some 42), (.ia 1 (.tmp 40) (.tmp 41)), .ptr, none⟩,
  ⟨(some 43), (.ld1 (.tmp 42)), .sl, none⟩,
  ⟨(some 6), (.mv (.tmp 43)), .sl, none⟩] [6, 5, 0])
 (.seq (.ops [⟨(some 7), (.mv (.const (.int .i64 0))), (.int .i64), none⟩] [7, 6, 5, 0])
 (.block 6
 (.loop [(6, .sl), (7, (.int .i64))] [0, 5]
 (.seq (.seq (.ops [⟨(some 44), (.mv (.tmp 7)), (.int .i64), none⟩,
  ⟨(some 45), (.bin .lss (.tmp 44) (.const (.int .i64 20))), .bool, none⟩] [45, 6, 7, 5, 0])
 (.cond (.tmp 45)
 .skip
 (.exit 6)))
 (.seq (.block 7
 (.ops [⟨(some 48), (.mv (.tmp 6)), .sl, none⟩,
  ⟨(some 49), (.bld 31 (.fields [(0, 2), (2, 1)]) [(1, (.const (.int .i64 1)))]), .agg, none⟩,
  ⟨(some 50), (.bldS 31 1 3 [(0, (.tmp 49))]), .sl, none⟩,
  ⟨(some 51), (.app #[55, 55] 55 (.tmp 48) (.tmp 50)), .sl, none⟩,
  ⟨(some 6), (.mv (.tmp 51)), .sl, none⟩] [7, 6, 5, 0]))
 (.ops [⟨(some 46), (.mv (.tmp 7)), (.int .i64), none⟩,
  ⟨(some 47), (.bin .add (.tmp 46) (.const (.int .i64 1))), (.int .i64), none⟩,
  ⟨(some 7), (.mv (.tmp 47)), (.int .i64), none⟩] [7, 6, 5, 0]))))))))
 (.ops [⟨(some 38), (.mv (.tmp 5)), (.int .i64), none⟩,
  ⟨(some 39), (.bin .add (.tmp 38) (.const (.int .i64 1))), (.int .i64), none⟩,
  ⟨(some 5), (.mv (.tmp 39)), (.int .i64), none⟩] [5, 0]))))))
 (.seq (.seq (.ops [⟨(some 8), (.mv (.const (.int .i64 0))), (.int .i64), none⟩] [8, 0])
 (.block 8
 (.loop [(8, (.int .i64))] [0]
 (.seq (.seq (.ops [⟨(some 52), (.mv (.tmp 8)), (.int .i64), none⟩,
  ⟨(some 53), (.mv (.tmp 0)), .sl, none⟩,
  ⟨(some 54), (.len (.tmp 53)), (.int .i64), none⟩,
  ⟨(some 55), (.bin .lss (.tmp 52) (.tmp 54)), .bool, none⟩] [55, 0, 8])
 (.cond (.tmp 55)
 .skip
 (.exit 8)))
 (.seq (.block 9
 (.seq (.ops [⟨(some 9), (.mv (.const (.int .i64 0))), (.int .i64), none⟩] [9, 0, 8])
 (.block 10
 (.loop [(9, (.int .i64))] [0, 8]
 (.seq (.seq (.ops [⟨(some 58), (.mv (.tmp 9)), (.int .i64), none⟩,
  ⟨(some 59), (.mv (.tmp 0)), .sl, none⟩,
  ⟨(some 60), (.mv (.tmp 8)), (.int .i64), none⟩,
  ⟨(some 61), (.ia 1 (.tmp 59) (.tmp 60)), .ptr, none⟩,
  ⟨(some 62), (.ld1 (.tmp 61)), .sl, none⟩,
  ⟨(some 63), (.len (.tmp 62)), (.int .i64), none⟩,
  ⟨(some 64), (.bin .lss (.tmp 58) (.tmp 63)), .bool, none⟩] [64, 0, 8, 9])
 (.cond (.tmp 64)
 .skip
 (.exit 10)))
 (.seq (.block 11
 (.seq (.ops [⟨(some 67), (.mv (.tmp 0)), .sl, none⟩,
  ⟨(some 68), (.mv (.tmp 8)), (.int .i64), none⟩,
  ⟨(some 69), (.ia 1 (.tmp 67) (.tmp 68)), .ptr, none⟩,
  ⟨(some 70), (.ld1 (.tmp 69)), .sl, none⟩,
  ⟨(some 71), (.mv (.tmp 9)), (.int .i64), none⟩,
  ⟨(some 72), (.ia 3 (.tmp 70) (.tmp 71)), .ptr, none⟩,
  ⟨(some 73), (.fa 2 (.tmp 72)), .ptr, none⟩,
  ⟨(some 74), (.ld1 (.tmp 73)), (.int .i64), none⟩,
  ⟨(some 75), (.mv (.tmp 8)), (.int .i64), none⟩,
  ⟨(some 76), (.bin .sub (.const (.int .i64 (-50))) (.tmp 75)), (.int .i64), none⟩,
  ⟨(some 77), (.bin .neq (.tmp 74) (.tmp 76)), .bool, none⟩] [77, 9, 0, 8])
 (.cond (.tmp 77)
 (.seq (.ops [⟨(some 2), (.mv (.const (.bool false))), .bool, none⟩] [2])
 .ret)
 .skip)))
 (.ops [⟨(some 65), (.mv (.tmp 9)), (.int .i64), none⟩,
  ⟨(some 66), (.bin .add (.tmp 65) (.const (.int .i64 1))), (.int .i64), none⟩,
  ⟨(some 9), (.mv (.tmp 66)), (.int .i64), none⟩] [9, 0, 8])))))))
 (.ops [⟨(some 56), (.mv (.tmp 8)), (.int .i64), none⟩,
  ⟨(some 57), (.bin .add (.tmp 56) (.const (.int .i64 1))), (.int .i64), none⟩,
  ⟨(some 8), (.mv (.tmp 57)), (.int .i64), none⟩] [8, 0]))))))
 (.seq (.ops [⟨(some 2), (.mv (.const (.bool true))), .bool, none⟩] [2])
 .ret)))))
def r35 : List Res := [.t 2]
theorem tr35 : trS Tryd.prog [] 78 (Tryd.f35.body.getD .skip) s35 = some s35 := by kernel_rfl
theorem den35 (args : List Value) (w : World) (R : Ending → World → Prop) (hn : args.length ≤ 78) (h : denS Tryd.prog s35 (argsEnv 0 args) w (endK r35 R)) : Calls Tryd.prog 35 args.toArray w R :=
  calls_of_den (pn := []) (fn := Tryd.f35) (c := Tryd.f35.body.getD .skip) Tryd.func35 (by kernel_rfl) (by rw [Tryd.ntmps35]; exact hn) (by rw [Tryd.ntmps35]; exact tr35) (by kernel_rfl) h
def d35 (l0 : Option Addr) (l0n : Nat) (l0c : Nat) (w : World) (R : Ending → World → Prop) : Prop :=
 ∃ I1 : Nat → Int → World → Prop,
 (∃ m, I1 m 0 w) ∧
 (∀ (m2 : Nat) (w3 : World) (i4 : Int), I1 m2 i4 w3 →
 (bif (decide (i4 < ((l0n : Nat) : Int))) then
 (∃ I5 : Nat → Int → World → Prop,
 (∃ m, I5 m 0 w3) ∧
 (∀ (m6 : Nat) (w7 : World) (k8 : Int), I5 m6 k8 w7 →
 0 ≤ i4 ∧ i4 < ((l0n : Nat) : Int) ∧ optK l0 fun a9 =>
 ∃ (x10 : Option Addr) (x10n : Nat) (x10c : Nat), World.cell? w7 (Addr.add a9 (Int.toNat i4 * 1)) = some (.slice x10 x10n x10c) ∧
 (bif (decide (k8 < ((x10n : Nat) : Int))) then
 (0 ≤ i4 ∧ i4 < ((l0n : Nat) : Int) ∧ optK l0 fun a11 =>
 ∃ (x12 : Option Addr) (x12n : Nat) (x12c : Nat), World.cell? w7 (Addr.add a11 (Int.toNat i4 * 1)) = some (.slice x12 x12n x12c) ∧
 0 ≤ k8 ∧ k8 < ((x12n : Nat) : Int) ∧ optK x12 fun a13 =>
 one (.int .i64 (IntKind.wrap .i64 ((-50) - i4))) = true ∧ Option.isSome (World.cell? w7 (Addr.add (Addr.add a13 (Int.toNat k8 * 3)) 2)) = true ∧ World.frozen? w7 (Addr.add (Addr.add a13 (Int.toNat k8 * 3)) 2) = false ∧
 ∀ w14 : World, w14 = World.setCell w7 (Addr.add (Addr.add a13 (Int.toNat k8 * 3)) 2) (.int .i64 (IntKind.wrap .i64 ((-50) - i4))) →
 ∃ m15, m15 < m6 ∧ I5 m15 (IntKind.wrap .i64 (k8 + 1)) w14)
 else
 (∃ m16, m16 < m2 ∧ I1 m16 (IntKind.wrap .i64 (i4 + 1)) w7))))
 else
 (∃ I17 : Nat → Int → World → Prop,
 (∃ m, I17 m 0 w3) ∧
 (∀ (m18 : Nat) (w19 : World) (i20 : Int), I17 m18 i20 w19 →
 (bif (decide (i20 < ((l0n : Nat) : Int))) then
 (0 ≤ i20 ∧ i20 < ((l0n : Nat) : Int) ∧ optK l0 fun a21 =>
 ∃ (x22 : Option Addr) (x22n : Nat) (x22c : Nat), World.cell? w19 (Addr.add a21 (Int.toNat i20 * 1)) = some (.slice x22 x22n x22c) ∧
 ∃ I23 : Nat → Option Addr → Nat → Nat → Int → World → Prop,
 (∃ m, I23 m x22 x22n x22c 0 w19) ∧
 (∀ (m24 : Nat) (w25 : World) (g26 : Option Addr) (g26n : Nat) (g26c : Nat) (k27 : Int), I23 m24 g26 g26n g26c k27 w25 →
 (bif (decide (k27 < 20)) then
 (∃ cs28, fillL (.fields [(0, 2), (2, 1)]) (zc Tryd.prog 31) [(1, (.int .i64 1))] = some cs28 ∧
 ∃ cs29, fillL (.elems 3) (zrep (zc Tryd.prog 31) (1 * 3)) [(0, (.agg (List.toArray cs28)))] = some cs29 ∧
 ∀ w30 : World, w30 = World.alloc w25 (.cells (List.toArray cs29) 31) →
 RunV Tryd.prog (Builtin.append_ #[55, 55] 55 #[(.slice g26 g26n g26c), (.slice (some ⟨World.heap w25 |>.size, 0, none⟩) 1 1)]) w30 fun v31 w32 => ∃ (x33 : Option Addr) (x33n : Nat) (x33c : Nat), v31 = (.slice x33 x33n x33c) ∧
 ∃ m34, m34 < m24 ∧ I23 m34 x33 x33n x33c (IntKind.wrap .i64 (k27 + 1)) w32)
 else
 (∃ m35, m35 < m18 ∧ I17 m35 (IntKind.wrap .i64 (i20 + 1)) w25))))
 else
 (∃ I36 : Nat → Int → World → Prop,
 (∃ m, I36 m 0 w19) ∧
 (∀ (m37 : Nat) (w38 : World) (i39 : Int), I36 m37 i39 w38 →
 (bif (decide (i39 < ((l0n : Nat) : Int))) then
 (∃ I40 : Nat → Int → World → Prop,
 (∃ m, I40 m 0 w38) ∧
 (∀ (m41 : Nat) (w42 : World) (k43 : Int), I40 m41 k43 w42 →
 0 ≤ i39 ∧ i39 < ((l0n : Nat) : Int) ∧ optK l0 fun a44 =>
 ∃ (x45 : Option Addr) (x45n : Nat) (x45c : Nat), World.cell? w42 (Addr.add a44 (Int.toNat i39 * 1)) = some (.slice x45 x45n x45c) ∧
 (bif (decide (k43 < ((x45n : Nat) : Int))) then
 (0 ≤ i39 ∧ i39 < ((l0n : Nat) : Int) ∧ optK l0 fun a46 =>
 ∃ (x47 : Option Addr) (x47n : Nat) (x47c : Nat), World.cell? w42 (Addr.add a46 (Int.toNat i39 * 1)) = some (.slice x47 x47n x47c) ∧
 0 ≤ k43 ∧ k43 < ((x47n : Nat) : Int) ∧ optK x47 fun a48 =>
 ∃ x49 : Int, World.cell? w42 (Addr.add (Addr.add a48 (Int.toNat k43 * 3)) 2) = some (.int .i64 x49) ∧
 (bif (!decide (x49 = (IntKind.wrap .i64 ((-50) - i39)))) then
 (R (.returned (.bool false)) w42)
 else
 (∃ m50, m50 < m41 ∧ I40 m50 (IntKind.wrap .i64 (k43 + 1)) w42)))
 else
 (∃ m51, m51 < m37 ∧ I36 m51 (IntKind.wrap .i64 (i39 + 1)) w42))))
 else
 (R (.returned (.bool true)) w38)))))))))
theorem e35 (l0 : Option Addr) (l0n : Nat) (l0c : Nat) (w : World) (R : Ending → World → Prop) : denS Tryd.prog s35 (argsEnv 0 [(.slice l0 l0n l0c)]) w (endK r35 R) = d35 l0 l0n l0c w R := by kernel_rfl
theorem c35 (l0 : Option Addr) (l0n : Nat) (l0c : Nat) {w : World} {R : Ending → World → Prop} (h : d35 l0 l0n l0c w R) : Calls Tryd.prog 35 #[(.slice l0 l0n l0c)] w R :=
  den35 [(.slice l0 l0n l0c)] w R (by simp) ((e35 l0 l0n l0c w R).symm ▸ h)

/-- prelude/preludelaw24.ProofTrees -/
def s7 : S := (.seq (.ops [⟨(some 5), (.box 24 (.tmp 2)), .ptr, none⟩,
  ⟨(some 6), (.mv (.const (.bool false))), .bool, none⟩] [0, 5, 1])
 (.seq (.ops [⟨(some 29), (.mv (.tmp 0)), .sl, none⟩,
  ⟨(some 30), (.call 22 [(.tmp 29)] [.sl]), .sl, none⟩,
  ⟨(some 0), (.mv (.tmp 30)), .sl, none⟩] [0, 5, 1])
 (.seq (.ops [⟨(some 31), (.mv (.tmp 0)), .sl, none⟩,
  ⟨(some 32), (.call 24 [(.tmp 31)] [.sl]), .sl, none⟩,
  ⟨(some 7), (.mv (.tmp 32)), .sl, none⟩] [7, 0, 5, 1])
 (.seq (.ops [⟨(some 34), (.mv (.tmp 7)), .sl, none⟩,
  ⟨(some 35), (.call 23 [(.tmp 34)] [.ptr, (.int .i64)]), .any, none⟩,
  ⟨(some 33), (.mv (.tmp 35)), .any, none⟩,
  ⟨(some 36), (.ext 0 (.tmp 33)), .ptr, none⟩,
  ⟨(some 37), (.ext 1 (.tmp 33)), (.int .i64), none⟩,
  ⟨(some 8), (.mv (.tmp 36)), .ptr, none⟩,
  ⟨(some 9), (.mv (.tmp 37)), (.int .i64), none⟩] [7, 0, 9, 8, 5, 1])
 (.seq (.ops [⟨(some 38), (.mv (.tmp 7)), .sl, none⟩,
  ⟨(some 39), (.mv (.tmp 0)), .sl, none⟩,
  ⟨(some 40), (.call 28 [(.tmp 38), (.tmp 39)] [.bool]), .bool, none⟩,
  ⟨(some 10), (.mv (.tmp 40)), .bool, none⟩] [0, 10, 9, 8, 5, 1])
 (.seq (.ops [⟨(some 41), (.mv (.tmp 0)), .sl, none⟩,
  ⟨(some 42), (.call 29 [(.tmp 41)] [.bool]), .bool, none⟩,
  ⟨(some 11), (.mv (.tmp 42)), .bool, none⟩] [10, 9, 11, 8, 0, 5, 1])
 (.join [] [0, 1, 5, 8, 9, 11]
 (.seq (.ops [⟨(some 43), (.mv (.tmp 10)), .bool, none⟩,
  ⟨(some 44), (.un .not (.tmp 43)), .bool, none⟩,
  ⟨(some 45), (.mv (.tmp 44)), .bool, none⟩,
  ⟨(some 46), (.mv (.tmp 9)), (.int .i64), (some (45, false))⟩,
  ⟨(some 47), (.call 17 [(.tmp 46)] [(.int .i64)]), (.int .i64), (some (45, false))⟩,
  ⟨(some 48), (.bin .eql (.tmp 47) (.const (.int .i64 0))), .bool, (some (45, false))⟩,
  ⟨(some 49), (.mv (.tmp 11)), .bool, (some (45, false))⟩,
  ⟨(some 50), (.eqB true (.tmp 48) (.tmp 49)), .bool, (some (45, false))⟩,
  ⟨(some 51), (.pick (.tmp 45) (.const (.bool true)) (.tmp 50)), .bool, none⟩,
  ⟨(some 52), (.mv (.tmp 51)), .bool, none⟩,
  ⟨(some 53), (.mv (.tmp 8)), .ptr, (some (52, false))⟩,
  ⟨(some 54), (.nilEq true 1 (.tmp 53)), .bool, (some (52, false))⟩,
  ⟨(some 55), (.mv (.tmp 11)), .bool, (some (52, false))⟩,
  ⟨(some 56), (.eqB true (.tmp 54) (.tmp 55)), .bool, (some (52, false))⟩,
  ⟨(some 57), (.pick (.tmp 52) (.const (.bool true)) (.tmp 56)), .bool, none⟩] [57, 11, 9, 0, 8, 5, 1])
 (.cond (.tmp 57)
 (.seq (.ops [⟨(some 6), (.mv (.const (.bool false))), .bool, none⟩] [6])
 .ret)
 .skip))
 (.seq (.seq (.ops [⟨(some 58), (.mv (.tmp 11)), .bool, none⟩,
  ⟨(some 59), (.un .not (.tmp 58)), .bool, none⟩] [59, 9, 0, 8, 5, 1])
 (.cond (.tmp 59)
 (.seq (.ops [⟨(some 60), (.mv (.tmp 9)), (.int .i64), none⟩,
  ⟨(some 61), (.call 17 [(.tmp 60)] [(.int .i64)]), (.int .i64), none⟩,
  ⟨(some 62), (.bin .eql (.tmp 61) (.const (.int .i64 22))), .bool, none⟩,
  ⟨(some 6), (.mv (.tmp 62)), .bool, none⟩] [6])
 .ret)
 .skip))
 (.seq (.ops [⟨(some 63), (.mv (.tmp 0)), .sl, none⟩,
  ⟨(some 64), (.call 30 [(.tmp 63)] [.sl]), .sl, none⟩,
  ⟨(some 12), (.mv (.tmp 64)), .sl, none⟩] [8, 0, 12, 5, 1])
 (.seq (.ops [⟨(some 65), (.mv (.tmp 8)), .ptr, none⟩,
  ⟨(some 66), (.call 31 [(.tmp 65)] [.sl]), .sl, none⟩,
  ⟨(some 13), (.mv (.tmp 66)), .sl, none⟩] [8, 0, 13, 12, 5, 1])
 (.seq (.ops [⟨(some 67), (.mv (.tmp 8)), .ptr, none⟩,
  ⟨(some 68), (.call 31 [(.tmp 67)] [.sl]), .sl, none⟩,
  ⟨(some 14), (.mv (.tmp 68)), .sl, none⟩] [8, 0, 13, 14, 12, 5, 1])
 (.join [] [0, 1, 5, 8, 12]
 (.seq (.ops [⟨(some 69), (.mv (.tmp 8)), .ptr, none⟩,
  ⟨(some 70), (.call 32 [(.tmp 69)] [.agg]), .agg, none⟩,
  ⟨(some 71), (.mv (.tmp 0)), .sl, none⟩,
  ⟨(some 72), (.call 33 [(.tmp 71)] [.agg]), .agg, none⟩,
  ⟨(some 73), (.eqG .neq 24 (.tmp 70) (.tmp 72)), .bool, none⟩,
  ⟨(some 74), (.mv (.tmp 73)), .bool, none⟩,
  ⟨(some 75), (.mv (.tmp 13)), .sl, (some (74, false))⟩,
  ⟨(some 76), (.mv (.tmp 0)), .sl, (some (74, false))⟩,
  ⟨(some 77), (.call 34 [(.tmp 75), (.tmp 76)] [.bool]), .bool, (some (74, false))⟩,
  ⟨(some 78), (.un .not (.tmp 77)), .bool, (some (74, false))⟩,
  ⟨(some 79), (.pick (.tmp 74) (.const (.bool true)) (.tmp 78)), .bool, none⟩,
  ⟨(some 80), (.mv (.tmp 79)), .bool, none⟩,
  ⟨(some 81), (.mv (.tmp 14)), .sl, (some (80, false))⟩,
  ⟨(some 82), (.mv (.tmp 0)), .sl, (some (80, false))⟩,
  ⟨(some 83), (.call 34 [(.tmp 81), (.tmp 82)] [.bool]), .bool, (some (80, false))⟩,
  ⟨(some 84), (.un .not (.tmp 83)), .bool, (some (80, false))⟩,
  ⟨(some 85), (.pick (.tmp 80) (.const (.bool true)) (.tmp 84)), .bool, none⟩,
  ⟨(some 86), (.mv (.tmp 85)), .bool, none⟩,
  ⟨(some 87), (.mv (.tmp 13)), .sl, (some (86, false))⟩,
  ⟨(some 88), (.mv (.tmp 14)), .sl, (some (86, false))⟩,
  ⟨(some 89), (.bldS 55 2 1 [(0, (.tmp 87)), (1, (.tmp 88))]), .sl, (some (86, false))⟩,
  ⟨(some 90), (.call 35 [(.tmp 89)] [.bool]), .bool, (some (86, false))⟩,
  ⟨(some 91), (.un .not (.tmp 90)), .bool, (some (86, false))⟩,
  ⟨(some 92), (.pick (.tmp 86) (.const (.bool true)) (.tmp 91)), .bool, none⟩,
  ⟨(some 93), (.mv (.tmp 92)), .bool, none⟩,
  ⟨(some 94), (.mv (.tmp 8)), .ptr, (some (93, false))⟩,
  ⟨(some 95), (.call 31 [(.tmp 94)] [.sl]), .sl, (some (93, false))⟩,
  ⟨(some 96), (.mv (.tmp 0)), .sl, (some (93, false))⟩,
  ⟨(some 97), (.call 34 [(.tmp 95), (.tmp 96)] [.bool]), .bool, (some (93, false))⟩,
  ⟨(some 98), (.un .not (.tmp 97)), .bool, (some (93, false))⟩,
  ⟨(some 99), (.pick (.tmp 93) (.const (.bool true)) (.tmp 98)), .bool, none⟩] [99, 12, 8, 5, 1, 0])
 (.cond (.tmp 99)
 (.seq (.ops [⟨(some 6), (.mv (.const (.bool false))), .bool, none⟩] [6])
 .ret)
 .skip))
 (.seq (.ops [⟨(some 15), (.mv (.const (.bool false))), .bool, none⟩] [12, 8, 15, 5, 1, 0])
 (.seq (.seq (.ops [⟨(some 16), (.mv (.const (.int .i64 0))), (.int .i64), none⟩] [16, 12, 8, 15, 5, 1, 0])
 (.block 0
 (.loop [(15, .bool), (16, (.int .i64))] [0, 1, 5, 8, 12]
 (.seq (.seq (.ops [⟨(some 100), (.mv (.tmp 16)), (.int .i64), none⟩,
  ⟨(some 101), (.mv (.tmp 12)), .sl, none⟩,
  ⟨(some 102), (.len (.tmp 101)), (.int .i64), none⟩,
  ⟨(some 103), (.bin .lss (.tmp 100) (.tmp 102)), .bool, none⟩] [103, 12, 16, 8, 15, 5, 1, 0])
 (.cond (.tmp 103)
 .skip
 (.exit 0)))
 (.seq (.block 1
 (.seq (.ops [⟨(some 107), (.mv (.tmp 12)), .sl, none⟩,
  ⟨(some 108), (.mv (.tmp 16)), (.int .i64), none⟩,
  ⟨(some 109), (.ia 69 (.tmp 107) (.tmp 108)), .ptr, none⟩,
  ⟨(some 110), (.ldN 69 (.tmp 109)), .agg, none⟩,
  ⟨(some 111), (.call 16 [(.tmp 110)] [.agg, (.int .i64)]), .any, none⟩,
  ⟨(some 106), (.mv (.tmp 111)), .any, none⟩,
  ⟨(some 112), (.ext 0 (.tmp 106)), .agg, none⟩,
  ⟨(some 113), (.ext 1 (.tmp 106)), (.int .i64), none⟩,
  ⟨(some 17), (.alloc 24), .ptr, none⟩,
  ⟨none, (.stN 32 (.tmp 17) (.tmp 112)), .any, none⟩,
  ⟨(some 18), (.mv (.tmp 113)), (.int .i64), none⟩] [8, 17, 15, 5, 12, 16, 1, 0])
 (.seq (.ops [⟨(some 115), (.mv (.tmp 8)), .ptr, none⟩,
  ⟨(some 116), (.ldN 32 (.tmp 17)), .agg, none⟩,
  ⟨(some 117), (.call 36 [(.tmp 115), (.tmp 116)] [.agg, .bool]), .any, none⟩,
  ⟨(some 114), (.mv (.tmp 117)), .any, none⟩,
  ⟨(some 118), (.ext 0 (.tmp 114)), .agg, none⟩,
  ⟨(some 119), (.ext 1 (.tmp 114)), .bool, none⟩,
  ⟨(some 19), (.alloc 33), .ptr, none⟩,
  ⟨none, (.stN 69 (.tmp 19) (.tmp 118)), .any, none⟩,
  ⟨(some 20), (.mv (.tmp 119)), .bool, none⟩] [15, 17, 5, 20, 19, 12, 16, 8, 1, 0])
 (.join [(15, .bool)] [0, 1, 5, 8, 12, 16, 19, 20]
 (.ops [⟨(some 120), (.mv (.tmp 15)), .bool, none⟩,
  ⟨(some 121), (.mv (.tmp 120)), .bool, none⟩,
  ⟨(some 122), (.ldN 32 (.tmp 17)), .agg, (some (121, false))⟩,
  ⟨(some 123), (.ldN 32 (.tmp 5)), .agg, (some (121, false))⟩,
  ⟨(some 124), (.eqG .eql 24 (.tmp 122) (.tmp 123)), .bool, (some (121, false))⟩,
  ⟨(some 125), (.pick (.tmp 121) (.const (.bool true)) (.tmp 124)), .bool, none⟩,
  ⟨(some 15), (.mv (.tmp 125)), .bool, none⟩] [20, 19, 12, 16, 8, 15, 5, 1, 0])
 (.join [(135, .bool)] [0, 1, 5, 8, 12, 15, 16]
 (.draw (.take 0 ⟨(some 126), (.mv (.tmp 20)), .bool, none⟩
  (.take 1 ⟨(some 127), (.un .not (.tmp 126)), .bool, none⟩
  (.take 2 ⟨(some 128), (.mv (.tmp 127)), .bool, none⟩
  (.take 3 ⟨(some 129), (.ldN 69 (.tmp 19)), .agg, (some (128, false))⟩
  (.take 4 ⟨(some 130), (.mv (.tmp 12)), .sl, (some (128, false))⟩
  (.take 5 ⟨(some 131), (.mv (.tmp 16)), (.int .i64), (some (128, false))⟩
  (.take 6 ⟨(some 132), (.ia 69 (.tmp 130) (.tmp 131)), .ptr, (some (128, false))⟩
  (.take 7 ⟨(some 133), (.ldN 69 (.tmp 132)), .agg, (some (128, false))⟩
  (.take 8 ⟨(some 134), (.eqG .neq 33 (.tmp 129) (.tmp 133)), .bool, (some (128, false))⟩
  (.take 9 ⟨(some 135), (.pick (.tmp 128) (.const (.bool true)) (.tmp 134)), .bool, none⟩
  .done)))))))))) [135, 12, 16, 8, 15, 5, 1, 0])
 (.cond (.tmp 135)
 (.seq (.ops [⟨(some 136), (.mv (.tmp 12)), .sl, none⟩,
  ⟨(some 137), (.call 38 [(.tmp 136)] [.sl]), .sl, none⟩,
  ⟨(some 138), (.call 37 [(.tmp 137)] [.bool]), .bool, none⟩,
  ⟨(some 6), (.mv (.tmp 138)), .bool, none⟩] [6])
 .ret)
 .skip))))))
 (.ops [⟨(some 104), (.mv (.tmp 16)), (.int .i64), none⟩,
  ⟨(some 105), (.bin .add (.tmp 104) (.const (.int .i64 1))), (.int .i64), none⟩,
  ⟨(some 16), (.mv (.tmp 105)), (.int .i64), none⟩] [16, 12, 8, 15, 5, 1, 0]))))))
 (.seq (.ops [⟨(some 140), (.mv (.tmp 8)), .ptr, none⟩,
  ⟨(some 141), (.ldN 32 (.tmp 5)), .agg, none⟩,
  ⟨(some 142), (.call 36 [(.tmp 140), (.tmp 141)] [.agg, .bool]), .any, none⟩,
  ⟨(some 139), (.mv (.tmp 142)), .any, none⟩,
  ⟨(some 143), (.ext 0 (.tmp 139)), .agg, none⟩,
  ⟨(some 144), (.ext 1 (.tmp 139)), .bool, none⟩,
  ⟨(some 21), (.alloc 33), .ptr, none⟩,
  ⟨none, (.stN 69 (.tmp 21) (.tmp 143)), .any, none⟩,
  ⟨(some 10), (.mv (.tmp 144)), .bool, none⟩] [10, 15, 21, 1, 8, 0])
 (.join [] [0, 1, 8]
 (.seq (.ops [⟨(some 145), (.mv (.tmp 10)), .bool, none⟩,
  ⟨(some 146), (.mv (.tmp 15)), .bool, none⟩,
  ⟨(some 147), (.eqB true (.tmp 145) (.tmp 146)), .bool, none⟩,
  ⟨(some 148), (.mv (.tmp 147)), .bool, none⟩,
  ⟨(some 149), (.mv (.tmp 10)), .bool, (some (148, false))⟩,
  ⟨(some 150), (.un .not (.tmp 149)), .bool, (some (148, false))⟩,
  ⟨(some 151), (.mv (.tmp 150)), .bool, (some (148, false))⟩,
  ⟨(some 152), (.ldN 69 (.tmp 21)), .agg, (some (151, true))⟩,
  ⟨(some 153), (.bld 33 (.fields [(0, 1), (1, 1), (2, 32), (34, 32), (66, 3)]) []), .agg, (some (151, true))⟩,
  ⟨(some 154), (.eqG .neq 33 (.tmp 152) (.tmp 153)), .bool, (some (151, true))⟩,
  ⟨(some 155), (.pick (.tmp 151) (.tmp 154) (.const (.bool false))), .bool, (some (148, false))⟩,
  ⟨(some 156), (.pick (.tmp 148) (.const (.bool true)) (.tmp 155)), .bool, none⟩] [156, 1, 8, 0])
 (.cond (.tmp 156)
 (.seq (.ops [⟨(some 6), (.mv (.const (.bool false))), .bool, none⟩] [6])
 .ret)
 .skip))
 (.seq (.seq (.ops [⟨(some 22), (.mv (.const (.int .i64 0))), (.int .i64), none⟩] [22, 1, 8, 0])
 (.block 2
 (.loop [(22, (.int .i64))] [0, 1, 8]
 (.seq (.seq (.ops [⟨(some 157), (.mv (.tmp 22)), (.int .i64), none⟩,
  ⟨(some 158), (.mv (.tmp 1)), .sl, none⟩,
  ⟨(some 159), (.len (.tmp 158)), (.int .i64), none⟩,
  ⟨(some 160), (.bin .lss (.tmp 157) (.tmp 159)), .bool, none⟩] [160, 8, 1, 22, 0])
 (.cond (.tmp 160)
 .skip
 (.exit 2)))
 (.seq (.block 3
 (.seq (.ops [⟨(some 164), (.mv (.tmp 8)), .ptr, none⟩,
  ⟨(some 165), (.mv (.tmp 1)), .sl, none⟩,
  ⟨(some 166), (.mv (.tmp 22)), (.int .i64), none⟩,
  ⟨(some 167), (.ia 2 (.tmp 165) (.tmp 166)), .ptr, none⟩,
  ⟨(some 168), (.ldN 2 (.tmp 167)), .agg, none⟩,
  ⟨(some 169), (.call 39 [(.tmp 164), (.tmp 168)] [.agg, (.int .i64)]), .any, none⟩,
  ⟨(some 163), (.mv (.tmp 169)), .any, none⟩,
  ⟨(some 170), (.ext 0 (.tmp 163)), .agg, none⟩,
  ⟨(some 171), (.ext 1 (.tmp 163)), (.int .i64), none⟩,
  ⟨(some 23), (.alloc 43), .ptr, none⟩,
  ⟨none, (.stN 5 (.tmp 23) (.tmp 170)), .any, none⟩,
  ⟨(some 24), (.mv (.tmp 171)), (.int .i64), none⟩] [8, 1, 22, 0, 23, 24])
 (.seq (.ops [⟨(some 173), (.mv (.tmp 8)), .ptr, none⟩,
  ⟨(some 174), (.mv (.tmp 1)), .sl, none⟩,
  ⟨(some 175), (.mv (.tmp 22)), (.int .i64), none⟩,
  ⟨(some 176), (.ia 2 (.tmp 174) (.tmp 175)), .ptr, none⟩,
  ⟨(some 177), (.ldN 2 (.tmp 176)), .agg, none⟩,
  ⟨(some 178), (.call 39 [(.tmp 173), (.tmp 177)] [.agg, (.int .i64)]), .any, none⟩,
  ⟨(some 172), (.mv (.tmp 178)), .any, none⟩,
  ⟨(some 179), (.ext 0 (.tmp 172)), .agg, none⟩,
  ⟨(some 180), (.ext 1 (.tmp 172)), (.int .i64), none⟩,
  ⟨(some 25), (.alloc 43), .ptr, none⟩,
  ⟨none, (.stN 5 (.tmp 25) (.tmp 179)), .any, none⟩,
  ⟨(some 26), (.mv (.tmp 180)), (.int .i64), none⟩] [0, 1, 22, 23, 24, 25, 8])
 (.seq (.draw (.take 0 ⟨(some 181), (.mv (.tmp 0)), .sl, none⟩
  (.take 1 ⟨(some 182), (.mv (.tmp 1)), .sl, none⟩
  (.take 2 ⟨(some 183), (.mv (.tmp 22)), (.int .i64), none⟩
  (.take 3 ⟨(some 184), (.ia 2 (.tmp 182) (.tmp 183)), .ptr, none⟩
  (.take 4 ⟨(some 185), (.ldN 2 (.tmp 184)), .agg, none⟩
  (.take 5 ⟨(some 186), (.ldN 5 (.tmp 23)), .agg, none⟩
  (.take 6 ⟨(some 187), (.mv (.tmp 24)), (.int .i64), none⟩
  (.go 7 ⟨(some 188), (.call 17 [(.tmp 187)] [(.int .i64)]), (.int .i64), none⟩ [(5, ⟨(some 186), (.ldN 5 (.tmp 23)), .agg, none⟩), (4, ⟨(some 185), (.ldN 2 (.tmp 184)), .agg, none⟩)]
  (.go 8 ⟨(some 189), (.call 40 [(.tmp 181), (.tmp 185), (.tmp 186), (.tmp 188)] [.bool]), .bool, none⟩ []
  (.take 9 ⟨(some 27), (.mv (.tmp 189)), .bool, none⟩
  .done)))))))))) [27, 23, 0, 1, 22, 25, 24, 8])
 (.seq (.seq (.ops [⟨(some 190), (.mv (.tmp 27)), .bool, none⟩,
  ⟨(some 191), (.un .not (.tmp 190)), .bool, none⟩] [191, 23, 0, 1, 22, 25, 24, 8])
 (.cond (.tmp 191)
 (.seq (.ops [⟨(some 6), (.mv (.const (.bool false))), .bool, none⟩] [6])
 .ret)
 .skip))
 (.seq (.seq (.ops [⟨(some 28), (.mv (.const (.int .i64 0))), (.int .i64), none⟩] [28, 23, 0, 1, 22, 25, 24, 8])
 (.block 4
 (.loop [(28, (.int .i64))] [0, 1, 8, 22, 23, 24, 25]
 (.seq (.seq (.ops [⟨(some 192), (.mv (.tmp 28)), (.int .i64), none⟩,
  ⟨(some 193), (.fa 0 (.tmp 23)), .ptr, none⟩,
  ⟨(some 194), (.ld1 (.tmp 193)), .sl, none⟩,
  ⟨(some 195), (.len (.tmp 194)), (.int .i64), none⟩,
  ⟨(some 196), (.bin .lss (.tmp 192) (.tmp 195)), .bool, none⟩] [196, 23, 28, 0, 1, 22, 25, 24, 8])
 (.cond (.tmp 196)
 .skip
 (.exit 4)))
 (.seq (.block 5
 (.ops [⟨(some 199), (.fa 0 (.tmp 23)), .ptr, none⟩,
  ⟨(some 200), (.ld1 (.tmp 199)), .sl, none⟩,
  ⟨(some 201), (.mv (.tmp 28)), (.int .i64), none⟩,
  ⟨(some 202), (.ia 33 (.tmp 200) (.tmp 201)), .ptr, none⟩,
  ⟨(some 203), (.fa 0 (.tmp 202)), .ptr, none⟩,
  ⟨none, (.st1 (.tmp 203) (.const (.int .i64 (-9)))), .any, none⟩] [28, 23, 0, 1, 22, 25, 24, 8]))
 (.ops [⟨(some 197), (.mv (.tmp 28)), (.int .i64), none⟩,
  ⟨(some 198), (.bin .add (.tmp 197) (.const (.int .i64 1))), (.int .i64), none⟩,
  ⟨(some 28), (.mv (.tmp 198)), (.int .i64), none⟩] [28, 23, 0, 1, 22, 25, 24, 8]))))))
 (.seq (.draw (.take 0 ⟨(some 204), (.mv (.tmp 0)), .sl, none⟩
  (.take 1 ⟨(some 205), (.mv (.tmp 1)), .sl, none⟩
  (.take 2 ⟨(some 206), (.mv (.tmp 22)), (.int .i64), none⟩
  (.take 3 ⟨(some 207), (.ia 2 (.tmp 205) (.tmp 206)), .ptr, none⟩
  (.take 4 ⟨(some 208), (.ldN 2 (.tmp 207)), .agg, none⟩
  (.take 5 ⟨(some 209), (.ldN 5 (.tmp 25)), .agg, none⟩
  (.take 6 ⟨(some 210), (.mv (.tmp 24)), (.int .i64), none⟩
  (.go 7 ⟨(some 211), (.call 17 [(.tmp 210)] [(.int .i64)]), (.int .i64), none⟩ [(5, ⟨(some 209), (.ldN 5 (.tmp 25)), .agg, none⟩), (4, ⟨(some 208), (.ldN 2 (.tmp 207)), .agg, none⟩)]
  (.go 8 ⟨(some 212), (.call 40 [(.tmp 204), (.tmp 208), (.tmp 209), (.tmp 211)] [.bool]), .bool, none⟩ []
  (.take 9 ⟨(some 27), (.mv (.tmp 212)), .bool, none⟩
  .done)))))))))) [27, 22, 1, 8, 0])
 (.seq (.ops [⟨(some 213), (.mv (.tmp 27)), .bool, none⟩,
  ⟨(some 214), (.un .not (.tmp 213)), .bool, none⟩] [214, 22, 1, 8, 0])
 (.cond (.tmp 214)
 (.seq (.ops [⟨(some 6), (.mv (.const (.bool false))), .bool, none⟩] [6])
 .ret)
 .skip)))))))))
 (.ops [⟨(some 161), (.mv (.tmp 22)), (.int .i64), none⟩,
  ⟨(some 162), (.bin .add (.tmp 161) (.const (.int .i64 1))), (.int .i64), none⟩,
  ⟨(some 22), (.mv (.tmp 162)), (.int .i64), none⟩] [22, 1, 8, 0]))))))
 (.seq (.ops [⟨(some 6), (.mv (.const (.bool true))), .bool, none⟩] [6])
 .ret))))))))))))))))))
def r7 : List Res := [.t 6]
theorem tr7 : trS Tryd.prog [] 215 (Tryd.f7.body.getD .skip) s7 = some s7 := by kernel_rfl
theorem den7 (args : List Value) (w : World) (R : Ending → World → Prop) (hn : args.length ≤ 215) (h : denS Tryd.prog s7 (argsEnv 0 args) w (endK r7 R)) : Calls Tryd.prog 7 args.toArray w R :=
  calls_of_den (pn := []) (fn := Tryd.f7) (c := Tryd.f7.body.getD .skip) Tryd.func7 (by kernel_rfl) (by rw [Tryd.ntmps7]; exact hn) (by rw [Tryd.ntmps7]; exact tr7) (by kernel_rfl) h
def d7 (rows0 : Option Addr) (rows0n : Nat) (rows0c : Nat) (names1 : Option Addr) (names1n : Nat) (names1c : Nat) (other2 : Array Value) (w : World) (R : Ending → World → Prop) : Prop :=
 ∀ w3 : World, w3 = World.alloc w (.cells other2 24) →
 Calls Tryd.prog 22 #[(.slice rows0 rows0n rows0c)] w3 fun e4 w5 => ∃ (x6 : Option Addr) (x6n : Nat) (x6c : Nat), e4 = .returned (.slice x6 x6n x6c) ∧
 Calls Tryd.prog 24 #[(.slice x6 x6n x6c)] w5 fun e7 w8 => ∃ (x9 : Option Addr) (x9n : Nat) (x9c : Nat), e7 = .returned (.slice x9 x9n x9c) ∧
 Calls Tryd.prog 23 #[(.slice x9 x9n x9c)] w8 fun e10 w11 => ∃ x12 : Option Addr, ∃ x13 : Int, e10 = .returned (.tuple #[(.pointer x12), (.int .i64 x13)]) ∧
 ∃ x14 : Option Addr, (#[(.pointer x12), (.int .i64 x13)] : Array Value)[0]? = some (.pointer x14) ∧
 ∃ x15 : Int, (#[(.pointer x12), (.int .i64 x13)] : Array Value)[1]? = some (.int .i64 x15) ∧
 Calls Tryd.prog 28 #[(.slice x9 x9n x9c), (.slice x6 x6n x6c)] w11 fun e16 w17 => ∃ x18 : Bool, e16 = .returned (.bool x18) ∧
 Calls Tryd.prog 29 #[(.slice x6 x6n x6c)] w17 fun e19 w20 => ∃ x21 : Bool, e19 = .returned (.bool x21) ∧
 ∃ J22 : World → Prop,
 ((bif (!x18) then
 (R (.returned (.bool false)) w20)
 else
 (Calls Tryd.prog 17 #[(.int .i64 x15)] w20 fun e23 w24 => ∃ x25 : Int, e23 = .returned (.int .i64 x25) ∧
 (bif (!((decide (x25 = 0)) == x21)) then
 (R (.returned (.bool false)) w24)
 else
 ((bif (!((!(Option.isNone x14)) == x21)) then
 (R (.returned (.bool false)) w24)
 else
 (J22  w24))))))) ∧
 (∀ (w26 : World), J22  w26 →
 (bif (!x21) then
 (Calls Tryd.prog 17 #[(.int .i64 x15)] w26 fun e27 w28 => ∃ x29 : Int, e27 = .returned (.int .i64 x29) ∧
 R (.returned (.bool (decide (x29 = 22)))) w28)
 else
 (Calls Tryd.prog 30 #[(.slice x6 x6n x6c)] w26 fun e30 w31 => ∃ (x32 : Option Addr) (x32n : Nat) (x32c : Nat), e30 = .returned (.slice x32 x32n x32c) ∧
 Calls Tryd.prog 31 #[(.pointer x14)] w31 fun e33 w34 => ∃ (x35 : Option Addr) (x35n : Nat) (x35c : Nat), e33 = .returned (.slice x35 x35n x35c) ∧
 Calls Tryd.prog 31 #[(.pointer x14)] w34 fun e36 w37 => ∃ (x38 : Option Addr) (x38n : Nat) (x38c : Nat), e36 = .returned (.slice x38 x38n x38c) ∧
 ∃ J39 : World → Prop,
 (Calls Tryd.prog 32 #[(.pointer x14)] w37 fun e40 w41 => ∃ x42 : Array Value, e40 = .returned (.agg x42) ∧
 Calls Tryd.prog 33 #[(.slice x6 x6n x6c)] w41 fun e43 w44 => ∃ x45 : Array Value, e43 = .returned (.agg x45) ∧
 ∃ q46 : Bool, Sem.run Tryd.prog (do eqGuard .neq 24 (.tmp 70) (.tmp 72) (.agg x42) (.agg x45); binOp .neq 24 (.agg x42) (.agg x45)) w44 = .ok (.bool q46) w44 ∧
 (bif q46 then
 (R (.returned (.bool false)) w44)
 else
 (Calls Tryd.prog 34 #[(.slice x35 x35n x35c), (.slice x6 x6n x6c)] w44 fun e47 w48 => ∃ x49 : Bool, e47 = .returned (.bool x49) ∧
 (bif (!x49) then
 (R (.returned (.bool false)) w48)
 else
 (Calls Tryd.prog 34 #[(.slice x38 x38n x38c), (.slice x6 x6n x6c)] w48 fun e50 w51 => ∃ x52 : Bool, e50 = .returned (.bool x52) ∧
 (bif (!x52) then
 (R (.returned (.bool false)) w51)
 else
 (∃ cs53, fillL (.elems 1) (zrep (zc Tryd.prog 55) (2 * 1)) [(0, (.slice x35 x35n x35c)), (1, (.slice x38 x38n x38c))] = some cs53 ∧
 ∀ w54 : World, w54 = World.alloc w51 (.cells (List.toArray cs53) 55) →
 Calls Tryd.prog 35 #[(.slice (some ⟨World.heap w51 |>.size, 0, none⟩) 2 2)] w54 fun e55 w56 => ∃ x57 : Bool, e55 = .returned (.bool x57) ∧
 (bif (!x57) then
 (R (.returned (.bool false)) w56)
 else
 (Calls Tryd.prog 31 #[(.pointer x14)] w56 fun e58 w59 => ∃ (x60 : Option Addr) (x60n : Nat) (x60c : Nat), e58 = .returned (.slice x60 x60n x60c) ∧
 Calls Tryd.prog 34 #[(.slice x60 x60n x60c), (.slice x6 x6n x6c)] w59 fun e61 w62 => ∃ x63 : Bool, e61 = .returned (.bool x63) ∧
 (bif (!x63) then
 (R (.returned (.bool false)) w62)
 else
 (J39  w62))))))))))) ∧
 (∀ (w64 : World), J39  w64 →
 ∃ I65 : Nat → Bool → Int → World → Prop,
 (∃ m, I65 m false 0 w64) ∧
 (∀ (m66 : Nat) (w67 : World) (there68 : Bool) (i69 : Int), I65 m66 there68 i69 w67 →
 (bif (decide (i69 < ((x32n : Nat) : Int))) then
 (0 ≤ i69 ∧ i69 < ((x32n : Nat) : Int) ∧ optK x32 fun a70 =>
 ∃ cs71 : List Value, List.length cs71 = 69 ∧ Cells w67 (Addr.add a70 (Int.toNat i69 * 69)) cs71 ∧
 Calls Tryd.prog 16 #[(.agg (List.toArray cs71))] w67 fun e72 w73 => ∃ x74 : Array Value, ∃ x75 : Int, e72 = .returned (.tuple #[(.agg x74), (.int .i64 x75)]) ∧
 ∃ x76 : Array Value, (#[(.agg x74), (.int .i64 x75)] : Array Value)[0]? = some (.agg x76) ∧
 ∃ x77 : Int, (#[(.agg x74), (.int .i64 x75)] : Array Value)[1]? = some (.int .i64 x77) ∧
 ∀ w78 : World, w78 = World.alloc w73 (.cells (zc Tryd.prog 24).toArray 24) →
 Array.size x76 = 32 ∧ (∀ u ∈ Array.toList x76, one u = true) ∧ Room w78 ⟨World.heap w73 |>.size, 0, none⟩ 32 ∧
 ∀ w79 : World, w79 = setCells w78 ⟨World.heap w73 |>.size, 0, none⟩ (Array.toList x76) 0 →
 ∃ cs80 : List Value, List.length cs80 = 32 ∧ Cells w79 ⟨World.heap w73 |>.size, 0, none⟩ cs80 ∧
 Calls Tryd.prog 36 #[(.pointer x14), (.agg (List.toArray cs80))] w79 fun e81 w82 => ∃ x83 : Array Value, ∃ x84 : Bool, e81 = .returned (.tuple #[(.agg x83), (.bool x84)]) ∧
 ∃ x85 : Array Value, (#[(.agg x83), (.bool x84)] : Array Value)[0]? = some (.agg x85) ∧
 ∃ x86 : Bool, (#[(.agg x83), (.bool x84)] : Array Value)[1]? = some (.bool x86) ∧
 ∀ w87 : World, w87 = World.alloc w82 (.cells (zc Tryd.prog 33).toArray 33) →
 Array.size x85 = 69 ∧ (∀ u ∈ Array.toList x85, one u = true) ∧ Room w87 ⟨World.heap w82 |>.size, 0, none⟩ 69 ∧
 ∀ w88 : World, w88 = setCells w87 ⟨World.heap w82 |>.size, 0, none⟩ (Array.toList x85) 0 →
 ∃ J89 : Bool → World → Prop,
 ((bif there68 then
 (J89 true w88)
 else
 (∃ cs90 : List Value, List.length cs90 = 32 ∧ Cells w88 ⟨World.heap w73 |>.size, 0, none⟩ cs90 ∧
 ∃ cs91 : List Value, List.length cs91 = 32 ∧ Cells w88 ⟨World.heap w |>.size, 0, none⟩ cs91 ∧
 ∃ q92 : Bool, Sem.run Tryd.prog (do eqGuard .eql 24 (.tmp 122) (.tmp 123) (.agg (List.toArray cs90)) (.agg (List.toArray cs91)); binOp .eql 24 (.agg (List.toArray cs90)) (.agg (List.toArray cs91))) w88 = .ok (.bool q92) w88 ∧
 J89 q92 w88))) ∧
 (∀ (w93 : World) (there94 : Bool), J89 there94 w93 →
 ∃ J95 : Bool → World → Prop,
 (∀ w96 : World, w96 = World.drew w93 →
 (bif (!x86) then
 (J95 true w96)
 else
 (∃ cs97 : List Value, List.length cs97 = 69 ∧ Cells w96 ⟨World.heap w82 |>.size, 0, none⟩ cs97 ∧
 0 ≤ i69 ∧ i69 < ((x32n : Nat) : Int) ∧ optK x32 fun a98 =>
 ∃ cs99 : List Value, List.length cs99 = 69 ∧ Cells w96 (Addr.add a98 (Int.toNat i69 * 69)) cs99 ∧
 ∃ q100 : Bool, Sem.run Tryd.prog (do eqGuard .neq 33 (.tmp 129) (.tmp 133) (.agg (List.toArray cs97)) (.agg (List.toArray cs99)); binOp .neq 33 (.agg (List.toArray cs97)) (.agg (List.toArray cs99))) w96 = .ok (.bool q100) w96 ∧
 J95 q100 w96))) ∧
 (∀ (w101 : World) (x102 : Bool), J95 x102 w101 →
 (bif x102 then
 (Calls Tryd.prog 38 #[(.slice x32 x32n x32c)] w101 fun e103 w104 => ∃ (x105 : Option Addr) (x105n : Nat) (x105c : Nat), e103 = .returned (.slice x105 x105n x105c) ∧
 Calls Tryd.prog 37 #[(.slice x105 x105n x105c)] w104 fun e106 w107 => ∃ x108 : Bool, e106 = .returned (.bool x108) ∧
 R (.returned (.bool x108)) w107)
 else
 (∃ m109, m109 < m66 ∧ I65 m109 there94 (IntKind.wrap .i64 (i69 + 1)) w101)))))
 else
 (∃ cs110 : List Value, List.length cs110 = 32 ∧ Cells w67 ⟨World.heap w |>.size, 0, none⟩ cs110 ∧
 Calls Tryd.prog 36 #[(.pointer x14), (.agg (List.toArray cs110))] w67 fun e111 w112 => ∃ x113 : Array Value, ∃ x114 : Bool, e111 = .returned (.tuple #[(.agg x113), (.bool x114)]) ∧
 ∃ x115 : Array Value, (#[(.agg x113), (.bool x114)] : Array Value)[0]? = some (.agg x115) ∧
 ∃ x116 : Bool, (#[(.agg x113), (.bool x114)] : Array Value)[1]? = some (.bool x116) ∧
 ∀ w117 : World, w117 = World.alloc w112 (.cells (zc Tryd.prog 33).toArray 33) →
 Array.size x115 = 69 ∧ (∀ u ∈ Array.toList x115, one u = true) ∧ Room w117 ⟨World.heap w112 |>.size, 0, none⟩ 69 ∧
 ∀ w118 : World, w118 = setCells w117 ⟨World.heap w112 |>.size, 0, none⟩ (Array.toList x115) 0 →
 ∃ J119 : World → Prop,
 ((bif (!(x116 == there68)) then
 (R (.returned (.bool false)) w118)
 else
 ((bif (!x116) then
 (∃ cs120 : List Value, List.length cs120 = 69 ∧ Cells w118 ⟨World.heap w112 |>.size, 0, none⟩ cs120 ∧
 ∃ cs121, fillL (.fields [(0, 1), (1, 1), (2, 32), (34, 32), (66, 3)]) (zc Tryd.prog 33) [] = some cs121 ∧
 ∃ q122 : Bool, Sem.run Tryd.prog (do eqGuard .neq 33 (.tmp 152) (.tmp 153) (.agg (List.toArray cs120)) (.agg (List.toArray cs121)); binOp .neq 33 (.agg (List.toArray cs120)) (.agg (List.toArray cs121))) w118 = .ok (.bool q122) w118 ∧
 (bif q122 then
 (R (.returned (.bool false)) w118)
 else
 (J119  w118)))
 else
 (J119  w118))))) ∧
 (∀ (w123 : World), J119  w123 →
 ∃ I124 : Nat → Int → World → Prop,
 (∃ m, I124 m 0 w123) ∧
 (∀ (m125 : Nat) (w126 : World) (i127 : Int), I124 m125 i127 w126 →
 (bif (decide (i127 < ((names1n : Nat) : Int))) then
 (0 ≤ i127 ∧ i127 < ((names1n : Nat) : Int) ∧ optK names1 fun a128 =>
 ∃ cs129 : List Value, List.length cs129 = 2 ∧ Cells w126 (Addr.add a128 (Int.toNat i127 * 2)) cs129 ∧
 Calls Tryd.prog 39 #[(.pointer x14), (.agg (List.toArray cs129))] w126 fun e130 w131 => ∃ x132 : Array Value, ∃ x133 : Int, e130 = .returned (.tuple #[(.agg x132), (.int .i64 x133)]) ∧
 ∃ x134 : Array Value, (#[(.agg x132), (.int .i64 x133)] : Array Value)[0]? = some (.agg x134) ∧
 ∃ x135 : Int, (#[(.agg x132), (.int .i64 x133)] : Array Value)[1]? = some (.int .i64 x135) ∧
 ∀ w136 : World, w136 = World.alloc w131 (.cells (zc Tryd.prog 43).toArray 43) →
 Array.size x134 = 5 ∧ (∀ u ∈ Array.toList x134, one u = true) ∧ Room w136 ⟨World.heap w131 |>.size, 0, none⟩ 5 ∧
 ∀ w137 : World, w137 = setCells w136 ⟨World.heap w131 |>.size, 0, none⟩ (Array.toList x134) 0 →
 0 ≤ i127 ∧ i127 < ((names1n : Nat) : Int) ∧ optK names1 fun a138 =>
 ∃ cs139 : List Value, List.length cs139 = 2 ∧ Cells w137 (Addr.add a138 (Int.toNat i127 * 2)) cs139 ∧
 Calls Tryd.prog 39 #[(.pointer x14), (.agg (List.toArray cs139))] w137 fun e140 w141 => ∃ x142 : Array Value, ∃ x143 : Int, e140 = .returned (.tuple #[(.agg x142), (.int .i64 x143)]) ∧
 ∃ x144 : Array Value, (#[(.agg x142), (.int .i64 x143)] : Array Value)[0]? = some (.agg x144) ∧
 ∃ x145 : Int, (#[(.agg x142), (.int .i64 x143)] : Array Value)[1]? = some (.int .i64 x145) ∧
 ∀ w146 : World, w146 = World.alloc w141 (.cells (zc Tryd.prog 43).toArray 43) →
 Array.size x144 = 5 ∧ (∀ u ∈ Array.toList x144, one u = true) ∧ Room w146 ⟨World.heap w141 |>.size, 0, none⟩ 5 ∧
 ∀ w147 : World, w147 = setCells w146 ⟨World.heap w141 |>.size, 0, none⟩ (Array.toList x144) 0 →
 ∀ w148 : World, w148 = World.drew w147 →
 0 ≤ i127 ∧ i127 < ((names1n : Nat) : Int) ∧ optK names1 fun a149 =>
 ∃ cs150 : List Value, List.length cs150 = 2 ∧ Cells w148 (Addr.add a149 (Int.toNat i127 * 2)) cs150 ∧
 ∃ cs151 : List Value, List.length cs151 = 5 ∧ Cells w148 ⟨World.heap w131 |>.size, 0, none⟩ cs151 ∧
 Calls Tryd.prog 17 #[(.int .i64 x135)] w148 fun e152 w153 => ∃ x154 : Int, e152 = .returned (.int .i64 x154) ∧
 (∃ cs155 : List Value, List.length cs155 = 5 ∧ Cells w153 ⟨World.heap w131 |>.size, 0, none⟩ cs155 ∧
 (((.agg (List.toArray cs155)) : Value) = (.agg (List.toArray cs151)) ∧ w153 = w153)) ∧
 (∃ cs156 : List Value, List.length cs156 = 2 ∧ Cells w153 (Addr.add a149 (Int.toNat i127 * 2)) cs156 ∧
 (((.agg (List.toArray cs156)) : Value) = (.agg (List.toArray cs150)) ∧ w153 = w153)) ∧
 Calls Tryd.prog 40 #[(.slice x6 x6n x6c), (.agg (List.toArray cs150)), (.agg (List.toArray cs151)), (.int .i64 x154)] w153 fun e157 w158 => ∃ x159 : Bool, e157 = .returned (.bool x159) ∧
 (bif (!x159) then
 (R (.returned (.bool false)) w158)
 else
 (∃ I160 : Nat → Int → World → Prop,
 (∃ m, I160 m 0 w158) ∧
 (∀ (m161 : Nat) (w162 : World) (k163 : Int), I160 m161 k163 w162 →
 ∃ (x164 : Option Addr) (x164n : Nat) (x164c : Nat), World.cell? w162 (Addr.add ⟨World.heap w131 |>.size, 0, none⟩ 0) = some (.slice x164 x164n x164c) ∧
 (bif (decide (k163 < ((x164n : Nat) : Int))) then
 (∃ (x165 : Option Addr) (x165n : Nat) (x165c : Nat), World.cell? w162 (Addr.add ⟨World.heap w131 |>.size, 0, none⟩ 0) = some (.slice x165 x165n x165c) ∧
 0 ≤ k163 ∧ k163 < ((x165n : Nat) : Int) ∧ optK x165 fun a166 =>
 one (.int .i64 (-9)) = true ∧ Option.isSome (World.cell? w162 (Addr.add (Addr.add a166 (Int.toNat k163 * 33)) 0)) = true ∧ World.frozen? w162 (Addr.add (Addr.add a166 (Int.toNat k163 * 33)) 0) = false ∧
 ∀ w167 : World, w167 = World.setCell w162 (Addr.add (Addr.add a166 (Int.toNat k163 * 33)) 0) (.int .i64 (-9)) →
 ∃ m168, m168 < m161 ∧ I160 m168 (IntKind.wrap .i64 (k163 + 1)) w167)
 else
 (∀ w169 : World, w169 = World.drew w162 →
 0 ≤ i127 ∧ i127 < ((names1n : Nat) : Int) ∧ optK names1 fun a170 =>
 ∃ cs171 : List Value, List.length cs171 = 2 ∧ Cells w169 (Addr.add a170 (Int.toNat i127 * 2)) cs171 ∧
 ∃ cs172 : List Value, List.length cs172 = 5 ∧ Cells w169 ⟨World.heap w141 |>.size, 0, none⟩ cs172 ∧
 Calls Tryd.prog 17 #[(.int .i64 x135)] w169 fun e173 w174 => ∃ x175 : Int, e173 = .returned (.int .i64 x175) ∧
 (∃ cs176 : List Value, List.length cs176 = 5 ∧ Cells w174 ⟨World.heap w141 |>.size, 0, none⟩ cs176 ∧
 (((.agg (List.toArray cs176)) : Value) = (.agg (List.toArray cs172)) ∧ w174 = w174)) ∧
 (∃ cs177 : List Value, List.length cs177 = 2 ∧ Cells w174 (Addr.add a170 (Int.toNat i127 * 2)) cs177 ∧
 (((.agg (List.toArray cs177)) : Value) = (.agg (List.toArray cs171)) ∧ w174 = w174)) ∧
 Calls Tryd.prog 40 #[(.slice x6 x6n x6c), (.agg (List.toArray cs171)), (.agg (List.toArray cs172)), (.int .i64 x175)] w174 fun e178 w179 => ∃ x180 : Bool, e178 = .returned (.bool x180) ∧
 (bif (!x180) then
 (R (.returned (.bool false)) w179)
 else
 (∃ m181, m181 < m125 ∧ I124 m181 (IntKind.wrap .i64 (i127 + 1)) w179))))))))
 else
 (R (.returned (.bool true)) w126)))))))))))
theorem e7 (rows0 : Option Addr) (rows0n : Nat) (rows0c : Nat) (names1 : Option Addr) (names1n : Nat) (names1c : Nat) (other2 : Array Value) (w : World) (R : Ending → World → Prop) : denS Tryd.prog s7 (argsEnv 0 [(.slice rows0 rows0n rows0c), (.slice names1 names1n names1c), (.agg other2)]) w (endK r7 R) = d7 rows0 rows0n rows0c names1 names1n names1c other2 w R := by kernel_rfl
theorem c7 (rows0 : Option Addr) (rows0n : Nat) (rows0c : Nat) (names1 : Option Addr) (names1n : Nat) (names1c : Nat) (other2 : Array Value) {w : World} {R : Ending → World → Prop} (h : d7 rows0 rows0n rows0c names1 names1n names1c other2 w R) : Calls Tryd.prog 7 #[(.slice rows0 rows0n rows0c), (.slice names1 names1n names1c), (.agg other2)] w R :=
  den7 [(.slice rows0 rows0n rows0c), (.slice names1 names1n names1c), (.agg other2)] w R (by simp) ((e7 rows0 rows0n rows0c names1 names1n names1c other2 w R).symm ▸ h)

end Go.Proofs.YtjkbjppopdfggaaDoor.Fn
