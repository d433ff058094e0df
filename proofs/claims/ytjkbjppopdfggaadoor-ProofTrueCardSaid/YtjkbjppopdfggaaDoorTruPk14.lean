/-
  THE CODE of some functions of the given program, resolved, and proved to ask what the readable texts (d..) say; contracts c.. follow. Printed by a small program of mine.
  TREES OVER ROWS: node, toward, Root, Node, Prove: contracts.
  TREES OVER ROWS: Prove: its contract.
  TREES OVER ROWS, THE REFERENCE's: split, Nodes, Root: contracts.
  Own work. No macro, syntax, notation, axiom.
-/
import Derived.Test.YtjkbjppopdfggaaDoorTruPk3
import Derived.Test.YtjkbjppopdfggaaDoorProg
import Derived.Test.YtjkbjppopdfggaaDoorTruPk13
set_option maxRecDepth 100000
namespace Go.Proofs.YtjkbjppopdfggaaDoor.Fn
open Go Den
/-- (*prelude/proof.leaf).node -/
def s110 : S := (.seq (.ops [⟨(some 2), (.alloc 33), .ptr, none⟩] [0, 2])
 (.seq (.ops [⟨(some 3), (.mv (.tmp 0)), .ptr, none⟩,
  ⟨(some 4), (.nc (.tmp 3)), .any, none⟩,
  ⟨(some 5), (.fa 0 (.tmp 4)), .ptr, none⟩,
  ⟨(some 6), (.ldN 3 (.tmp 5)), .agg, none⟩,
  ⟨(some 7), (.bld 33 (.fields [(0, 1), (1, 1), (2, 32), (34, 32), (66, 3)]) [(0, (.const (.int .i64 1))), (4, (.tmp 6))]), .agg, none⟩,
  ⟨none, (.stN 69 (.tmp 2) (.tmp 7)), .any, none⟩] [2])
 .ret))
def r110 : List Res := [.cN 2 69]
theorem tr110 : trS Tryd.prog [] 8 (Tryd.f110.body.getD .skip) s110 = some s110 := by kernel_rfl
theorem den110 (args : List Value) (w : World) (R : Ending → World → Prop) (hn : args.length ≤ 8) (h : denS Tryd.prog s110 (argsEnv 0 args) w (endK r110 R)) : Calls Tryd.prog 110 args.toArray w R :=
  calls_of_den (pn := []) (fn := Tryd.f110) (c := Tryd.f110.body.getD .skip) Tryd.func110 (by kernel_rfl) (by rw [Tryd.ntmps110]; exact hn) (by rw [Tryd.ntmps110]; exact tr110) (by kernel_rfl) h
def d110 (l0 : Option Addr) (w : World) (R : Ending → World → Prop) : Prop :=
 ∀ w1 : World, w1 = World.alloc w (.cells (zc Tryd.prog 33).toArray 33) →
 optK l0 fun a2 =>
 ∃ cs3 : List Value, List.length cs3 = 3 ∧ Cells w1 (Addr.add a2 0) cs3 ∧
 ∃ cs4, fillL (.fields [(0, 1), (1, 1), (2, 32), (34, 32), (66, 3)]) (zc Tryd.prog 33) [(0, (.int .i64 1)), (4, (.agg (List.toArray cs3)))] = some cs4 ∧
 Array.size (List.toArray cs4) = 69 ∧ (∀ u ∈ Array.toList (List.toArray cs4), one u = true) ∧ Room w1 ⟨World.heap w |>.size, 0, none⟩ 69 ∧
 ∀ w5 : World, w5 = setCells w1 ⟨World.heap w |>.size, 0, none⟩ (Array.toList (List.toArray cs4)) 0 →
 ∃ cs6 : List Value, List.length cs6 = 69 ∧ Cells w5 ⟨World.heap w |>.size, 0, none⟩ cs6 ∧
 R (.returned (.agg (List.toArray cs6))) w5
theorem e110 (l0 : Option Addr) (w : World) (R : Ending → World → Prop) : denS Tryd.prog s110 (argsEnv 0 [(.pointer l0)]) w (endK r110 R) = d110 l0 w R := by kernel_rfl
theorem c110 (l0 : Option Addr) {w : World} {R : Ending → World → Prop} (h : d110 l0 w R) : Calls Tryd.prog 110 #[(.pointer l0)] w R :=
  den110 [(.pointer l0)] w R (by simp) ((e110 l0 w R).symm ▸ h)

/-- (*prelude/proof.fork).node -/
def s114 : S := (.seq (.ops [⟨(some 2), (.alloc 33), .ptr, none⟩] [0, 2])
 (.seq (.draw (.take 0 ⟨(some 3), (.mv (.tmp 0)), .ptr, none⟩
  (.take 1 ⟨(some 4), (.nc (.tmp 3)), .any, none⟩
  (.take 2 ⟨(some 5), (.fa 0 (.tmp 4)), .ptr, none⟩
  (.take 3 ⟨(some 6), (.ld1 (.tmp 5)), (.int .i64), none⟩
  (.take 4 ⟨(some 7), (.mv (.tmp 0)), .ptr, none⟩
  (.take 5 ⟨(some 8), (.nc (.tmp 7)), .any, none⟩
  (.take 6 ⟨(some 9), (.fa 1 (.tmp 8)), .ptr, none⟩
  (.take 7 ⟨(some 10), (.ld1 (.tmp 9)), .any, none⟩
  (.take 9 ⟨(some 12), (.mv (.tmp 0)), .ptr, none⟩
  (.take 10 ⟨(some 13), (.nc (.tmp 12)), .any, none⟩
  (.take 11 ⟨(some 14), (.fa 2 (.tmp 13)), .ptr, none⟩
  (.take 12 ⟨(some 15), (.ld1 (.tmp 14)), .any, none⟩
  (.go 8 ⟨(some 11), (.inv (.tmp 10) "prelude/proof.digest" [] [.agg]), .agg, none⟩ [(12, ⟨(some 15), (.ld1 (.tmp 14)), .any, none⟩), (3, ⟨(some 6), (.ld1 (.tmp 5)), (.int .i64), none⟩)]
  (.go 13 ⟨(some 16), (.inv (.tmp 15) "prelude/proof.digest" [] [.agg]), .agg, none⟩ [(3, ⟨(some 6), (.ld1 (.tmp 5)), (.int .i64), none⟩)]
  (.take 14 ⟨(some 17), (.bld 33 (.fields [(0, 1), (1, 1), (2, 32), (34, 32), (66, 3)]) [(0, (.const (.int .i64 2))), (1, (.tmp 6)), (2, (.tmp 11)), (3, (.tmp 16))]), .agg, none⟩
  (.go 15 ⟨none, (.stN 69 (.tmp 2) (.tmp 17)), .any, none⟩ []
  .done)))))))))))))))) [2])
 .ret))
def r114 : List Res := [.cN 2 69]
theorem tr114 : trS Tryd.prog [] 18 (Tryd.f114.body.getD .skip) s114 = some s114 := by kernel_rfl
theorem den114 (args : List Value) (w : World) (R : Ending → World → Prop) (hn : args.length ≤ 18) (h : denS Tryd.prog s114 (argsEnv 0 args) w (endK r114 R)) : Calls Tryd.prog 114 args.toArray w R :=
  calls_of_den (pn := []) (fn := Tryd.f114) (c := Tryd.f114.body.getD .skip) Tryd.func114 (by kernel_rfl) (by rw [Tryd.ntmps114]; exact hn) (by rw [Tryd.ntmps114]; exact tr114) (by kernel_rfl) h
def d114 (f0 : Option Addr) (w : World) (R : Ending → World → Prop) : Prop :=
 ∀ w1 : World, w1 = World.alloc w (.cells (zc Tryd.prog 33).toArray 33) →
 ∀ w2 : World, w2 = World.drew w1 →
 optK f0 fun a3 =>
 ∃ x4 : Int, World.cell? w2 (Addr.add a3 0) = some (.int .i64 x4) ∧
 optK f0 fun a5 =>
 ∃ x6 : Value, World.cell? w2 (Addr.add a5 1) = some x6 ∧
 optK f0 fun a7 =>
 ∃ x8 : Value, World.cell? w2 (Addr.add a7 2) = some x8 ∧
 ∃ t9 v10 g11 r12, x6 = .iface t9 v10 ∧ Sem.run Tryd.prog (method (Tryd.prog.types.size + Made.depth) t9 v10 "prelude/proof.digest") w2 = .ok (g11, r12) w2 ∧ HasBody Tryd.prog g11 ∧
 Calls Tryd.prog g11 (#[r12] ++ #[]) w2 fun e13 w14 => ∃ x15 : Array Value, e13 = .returned (.agg x15) ∧
 (∃ z16 : Value, World.cell? w14 (Addr.add a7 2) = some z16 ∧
 ((z16 : Value) = x8 ∧ w14 = w14)) ∧
 (∃ z17 : Int, World.cell? w14 (Addr.add a3 0) = some (.int .i64 z17) ∧
 (((.int .i64 z17) : Value) = (.int .i64 x4) ∧ w14 = w14)) ∧
 ∃ t18 v19 g20 r21, x8 = .iface t18 v19 ∧ Sem.run Tryd.prog (method (Tryd.prog.types.size + Made.depth) t18 v19 "prelude/proof.digest") w14 = .ok (g20, r21) w14 ∧ HasBody Tryd.prog g20 ∧
 Calls Tryd.prog g20 (#[r21] ++ #[]) w14 fun e22 w23 => ∃ x24 : Array Value, e22 = .returned (.agg x24) ∧
 (∃ z25 : Int, World.cell? w23 (Addr.add a3 0) = some (.int .i64 z25) ∧
 (((.int .i64 z25) : Value) = (.int .i64 x4) ∧ w23 = w23)) ∧
 ∃ cs26, fillL (.fields [(0, 1), (1, 1), (2, 32), (34, 32), (66, 3)]) (zc Tryd.prog 33) [(0, (.int .i64 2)), (1, (.int .i64 x4)), (2, (.agg x15)), (3, (.agg x24))] = some cs26 ∧
 Array.size (List.toArray cs26) = 69 ∧ (∀ u ∈ Array.toList (List.toArray cs26), one u = true) ∧ Room w23 ⟨World.heap w |>.size, 0, none⟩ 69 ∧
 ∀ w27 : World, w27 = setCells w23 ⟨World.heap w |>.size, 0, none⟩ (Array.toList (List.toArray cs26)) 0 →
 ∃ cs28 : List Value, List.length cs28 = 69 ∧ Cells w27 ⟨World.heap w |>.size, 0, none⟩ cs28 ∧
 R (.returned (.agg (List.toArray cs28))) w27
theorem e114 (f0 : Option Addr) (w : World) (R : Ending → World → Prop) : denS Tryd.prog s114 (argsEnv 0 [(.pointer f0)]) w (endK r114 R) = d114 f0 w R := by kernel_rfl
theorem c114 (f0 : Option Addr) {w : World} {R : Ending → World → Prop} (h : d114 f0 w R) : Calls Tryd.prog 114 #[(.pointer f0)] w R :=
  den114 [(.pointer f0)] w R (by simp) ((e114 f0 w R).symm ▸ h)

/-- (*prelude/proof.leaf).toward -/
def s112 : S := (.seq (.ops [⟨(some 4), (.mv (.const .nilIface)), .any, none⟩,
  ⟨(some 5), (.mv (.const .nilIface)), .any, none⟩] [])
 (.seq (.ops [⟨(some 4), (.mv (.const .nilIface)), .any, none⟩,
  ⟨(some 5), (.mv (.const .nilIface)), .any, none⟩] [4, 5])
 .ret))
def r112 : List Res := [.t 4, .t 5]
theorem tr112 : trS Tryd.prog [] 6 (Tryd.f112.body.getD .skip) s112 = some s112 := by kernel_rfl
theorem den112 (args : List Value) (w : World) (R : Ending → World → Prop) (hn : args.length ≤ 6) (h : denS Tryd.prog s112 (argsEnv 0 args) w (endK r112 R)) : Calls Tryd.prog 112 args.toArray w R :=
  calls_of_den (pn := []) (fn := Tryd.f112) (c := Tryd.f112.body.getD .skip) Tryd.func112 (by kernel_rfl) (by rw [Tryd.ntmps112]; exact hn) (by rw [Tryd.ntmps112]; exact tr112) (by kernel_rfl) h
def d112 (l0 : Option Addr) (x1 : Option Addr) (x1n : Nat) (x1c : Nat) (w : World) (R : Ending → World → Prop) : Prop :=
 R (.returned (.tuple #[.nilIface, .nilIface])) w
theorem e112 (l0 : Option Addr) (x1 : Option Addr) (x1n : Nat) (x1c : Nat) (w : World) (R : Ending → World → Prop) : denS Tryd.prog s112 (argsEnv 0 [(.pointer l0), (.slice x1 x1n x1c)]) w (endK r112 R) = d112 l0 x1 x1n x1c w R := by kernel_rfl
theorem c112 (l0 : Option Addr) (x1 : Option Addr) (x1n : Nat) (x1c : Nat) {w : World} {R : Ending → World → Prop} (h : d112 l0 x1 x1n x1c w R) : Calls Tryd.prog 112 #[(.pointer l0), (.slice x1 x1n x1c)] w R :=
  den112 [(.pointer l0), (.slice x1 x1n x1c)] w R (by simp) ((e112 l0 x1 x1n x1c w R).symm ▸ h)

/-- (*prelude/proof.fork).toward -/
def s116 : S := (.seq (.ops [⟨(some 4), (.mv (.const .nilIface)), .any, none⟩,
  ⟨(some 5), (.mv (.const .nilIface)), .any, none⟩] [1, 0])
 (.seq (.seq (.ops [⟨(some 6), (.mv (.tmp 1)), .sl, none⟩,
  ⟨(some 7), (.mv (.tmp 0)), .ptr, none⟩,
  ⟨(some 8), (.nc (.tmp 7)), .any, none⟩,
  ⟨(some 9), (.fa 0 (.tmp 8)), .ptr, none⟩,
  ⟨(some 10), (.ld1 (.tmp 9)), (.int .i64), none⟩,
  ⟨(some 11), (.call 75 [(.tmp 6), (.tmp 10)] [(.int .u8)]), (.int .u8), none⟩,
  ⟨(some 12), (.bin .eql (.tmp 11) (.const (.int .u8 0))), .bool, none⟩] [12, 0])
 (.cond (.tmp 12)
 (.seq (.draw (.take 0 ⟨(some 13), (.mv (.tmp 0)), .ptr, none⟩
  (.take 1 ⟨(some 14), (.nc (.tmp 13)), .any, none⟩
  (.take 2 ⟨(some 15), (.fa 1 (.tmp 14)), .ptr, none⟩
  (.take 3 ⟨(some 16), (.ld1 (.tmp 15)), .any, none⟩
  (.take 4 ⟨(some 17), (.mv (.tmp 0)), .ptr, none⟩
  (.take 5 ⟨(some 18), (.nc (.tmp 17)), .any, none⟩
  (.take 6 ⟨(some 19), (.fa 2 (.tmp 18)), .ptr, none⟩
  (.take 7 ⟨(some 20), (.ld1 (.tmp 19)), .any, none⟩
  (.take 8 ⟨(some 4), (.mv (.tmp 16)), .any, none⟩
  (.take 9 ⟨(some 5), (.mv (.tmp 20)), .any, none⟩
  .done)))))))))) [4, 5])
 .ret)
 .skip))
 (.seq (.draw (.take 0 ⟨(some 21), (.mv (.tmp 0)), .ptr, none⟩
  (.take 1 ⟨(some 22), (.nc (.tmp 21)), .any, none⟩
  (.take 2 ⟨(some 23), (.fa 2 (.tmp 22)), .ptr, none⟩
  (.take 3 ⟨(some 24), (.ld1 (.tmp 23)), .any, none⟩
  (.take 4 ⟨(some 25), (.mv (.tmp 0)), .ptr, none⟩
  (.take 5 ⟨(some 26), (.nc (.tmp 25)), .any, none⟩
  (.take 6 ⟨(some 27), (.fa 1 (.tmp 26)), .ptr, none⟩
  (.take 7 ⟨(some 28), (.ld1 (.tmp 27)), .any, none⟩
  (.take 8 ⟨(some 4), (.mv (.tmp 24)), .any, none⟩
  (.take 9 ⟨(some 5), (.mv (.tmp 28)), .any, none⟩
  .done)))))))))) [4, 5])
 .ret)))
def r116 : List Res := [.t 4, .t 5]
theorem tr116 : trS Tryd.prog [] 29 (Tryd.f116.body.getD .skip) s116 = some s116 := by kernel_rfl
theorem den116 (args : List Value) (w : World) (R : Ending → World → Prop) (hn : args.length ≤ 29) (h : denS Tryd.prog s116 (argsEnv 0 args) w (endK r116 R)) : Calls Tryd.prog 116 args.toArray w R :=
  calls_of_den (pn := []) (fn := Tryd.f116) (c := Tryd.f116.body.getD .skip) Tryd.func116 (by kernel_rfl) (by rw [Tryd.ntmps116]; exact hn) (by rw [Tryd.ntmps116]; exact tr116) (by kernel_rfl) h
def d116 (f0 : Option Addr) (b1 : Option Addr) (b1n : Nat) (b1c : Nat) (w : World) (R : Ending → World → Prop) : Prop :=
 optK f0 fun a2 =>
 ∃ x3 : Int, World.cell? w (Addr.add a2 0) = some (.int .i64 x3) ∧
 Calls Tryd.prog 75 #[(.slice b1 b1n b1c), (.int .i64 x3)] w fun e4 w5 => ∃ x6 : Int, e4 = .returned (.int .u8 x6) ∧
 (bif (decide (x6 = 0)) then
 (∀ w7 : World, w7 = World.drew w5 →
 optK f0 fun a8 =>
 ∃ x9 : Value, World.cell? w7 (Addr.add a8 1) = some x9 ∧
 optK f0 fun a10 =>
 ∃ x11 : Value, World.cell? w7 (Addr.add a10 2) = some x11 ∧
 R (.returned (.tuple #[x9, x11])) w7)
 else
 (∀ w12 : World, w12 = World.drew w5 →
 optK f0 fun a13 =>
 ∃ x14 : Value, World.cell? w12 (Addr.add a13 2) = some x14 ∧
 optK f0 fun a15 =>
 ∃ x16 : Value, World.cell? w12 (Addr.add a15 1) = some x16 ∧
 R (.returned (.tuple #[x14, x16])) w12))
theorem e116 (f0 : Option Addr) (b1 : Option Addr) (b1n : Nat) (b1c : Nat) (w : World) (R : Ending → World → Prop) : denS Tryd.prog s116 (argsEnv 0 [(.pointer f0), (.slice b1 b1n b1c)]) w (endK r116 R) = d116 f0 b1 b1n b1c w R := by kernel_rfl
theorem c116 (f0 : Option Addr) (b1 : Option Addr) (b1n : Nat) (b1c : Nat) {w : World} {R : Ending → World → Prop} (h : d116 f0 b1 b1n b1c w R) : Calls Tryd.prog 116 #[(.pointer f0), (.slice b1 b1n b1c)] w R :=
  den116 [(.pointer f0), (.slice b1 b1n b1c)] w R (by simp) ((e116 f0 b1 b1n b1c w R).symm ▸ h)

/-- (*prelude/proof.Tree).Root -/
def s32 : S := (.seq (.ops [⟨(some 2), (.alloc 24), .ptr, none⟩] [0, 2])
 (.seq (.seq (.ops [⟨(some 3), (.mv (.tmp 0)), .ptr, none⟩,
  ⟨(some 4), (.nc (.tmp 3)), .any, none⟩,
  ⟨(some 5), (.fa 0 (.tmp 4)), .ptr, none⟩,
  ⟨(some 6), (.ld1 (.tmp 5)), .any, none⟩,
  ⟨(some 7), (.nilEq false 4 (.tmp 6)), .bool, none⟩] [7, 2, 0])
 (.cond (.tmp 7)
 (.seq (.ops [⟨(some 8), (.bld 24 (.elems 1) []), .agg, none⟩,
  ⟨none, (.stN 32 (.tmp 2) (.tmp 8)), .any, none⟩] [2])
 .ret)
 .skip))
 (.seq (.ops [⟨(some 9), (.mv (.tmp 0)), .ptr, none⟩,
  ⟨(some 10), (.nc (.tmp 9)), .any, none⟩,
  ⟨(some 11), (.fa 0 (.tmp 10)), .ptr, none⟩,
  ⟨(some 12), (.ld1 (.tmp 11)), .any, none⟩,
  ⟨(some 13), (.inv (.tmp 12) "prelude/proof.digest" [] [.agg]), .agg, none⟩,
  ⟨none, (.stN 32 (.tmp 2) (.tmp 13)), .any, none⟩] [2])
 .ret)))
def r32 : List Res := [.cN 2 32]
theorem tr32 : trS Tryd.prog [] 14 (Tryd.f32.body.getD .skip) s32 = some s32 := by kernel_rfl
theorem den32 (args : List Value) (w : World) (R : Ending → World → Prop) (hn : args.length ≤ 14) (h : denS Tryd.prog s32 (argsEnv 0 args) w (endK r32 R)) : Calls Tryd.prog 32 args.toArray w R :=
  calls_of_den (pn := []) (fn := Tryd.f32) (c := Tryd.f32.body.getD .skip) Tryd.func32 (by kernel_rfl) (by rw [Tryd.ntmps32]; exact hn) (by rw [Tryd.ntmps32]; exact tr32) (by kernel_rfl) h
def d32 (t0 : Option Addr) (w : World) (R : Ending → World → Prop) : Prop :=
 ∀ w1 : World, w1 = World.alloc w (.cells (zc Tryd.prog 24).toArray 24) →
 optK t0 fun a2 =>
 ∃ x3 : Value, World.cell? w1 (Addr.add a2 0) = some x3 ∧
 nilQ 4 x3 fun q4 => (bif q4 then
 (∃ cs5, fillL (.elems 1) (zc Tryd.prog 24) [] = some cs5 ∧
 Array.size (List.toArray cs5) = 32 ∧ (∀ u ∈ Array.toList (List.toArray cs5), one u = true) ∧ Room w1 ⟨World.heap w |>.size, 0, none⟩ 32 ∧
 ∀ w6 : World, w6 = setCells w1 ⟨World.heap w |>.size, 0, none⟩ (Array.toList (List.toArray cs5)) 0 →
 ∃ cs7 : List Value, List.length cs7 = 32 ∧ Cells w6 ⟨World.heap w |>.size, 0, none⟩ cs7 ∧
 R (.returned (.agg (List.toArray cs7))) w6)
 else
 (optK t0 fun a8 =>
 ∃ x9 : Value, World.cell? w1 (Addr.add a8 0) = some x9 ∧
 ∃ t10 v11 g12 r13, x9 = .iface t10 v11 ∧ Sem.run Tryd.prog (method (Tryd.prog.types.size + Made.depth) t10 v11 "prelude/proof.digest") w1 = .ok (g12, r13) w1 ∧ HasBody Tryd.prog g12 ∧
 Calls Tryd.prog g12 (#[r13] ++ #[]) w1 fun e14 w15 => ∃ x16 : Array Value, e14 = .returned (.agg x16) ∧
 Array.size x16 = 32 ∧ (∀ u ∈ Array.toList x16, one u = true) ∧ Room w15 ⟨World.heap w |>.size, 0, none⟩ 32 ∧
 ∀ w17 : World, w17 = setCells w15 ⟨World.heap w |>.size, 0, none⟩ (Array.toList x16) 0 →
 ∃ cs18 : List Value, List.length cs18 = 32 ∧ Cells w17 ⟨World.heap w |>.size, 0, none⟩ cs18 ∧
 R (.returned (.agg (List.toArray cs18))) w17))
theorem e32 (t0 : Option Addr) (w : World) (R : Ending → World → Prop) : denS Tryd.prog s32 (argsEnv 0 [(.pointer t0)]) w (endK r32 R) = d32 t0 w R := by kernel_rfl
theorem c32 (t0 : Option Addr) {w : World} {R : Ending → World → Prop} (h : d32 t0 w R) : Calls Tryd.prog 32 #[(.pointer t0)] w R :=
  den32 [(.pointer t0)] w R (by simp) ((e32 t0 w R).symm ▸ h)

/-- (*prelude/proof.Tree).Prove -/
def s39 : S := (.seq (.ops [⟨(some 3), (.box 29 (.tmp 1)), .ptr, none⟩,
  ⟨(some 4), (.alloc 43), .ptr, none⟩,
  ⟨(some 5), (.mv (.const (.int .i64 0))), (.int .i64), none⟩] [3, 4, 0])
 (.seq (.ops [⟨(some 14), (.ldN 2 (.tmp 3)), .agg, none⟩,
  ⟨(some 15), (.call 55 [(.tmp 14)] [.sl, (.int .i64)]), .any, none⟩,
  ⟨(some 13), (.mv (.tmp 15)), .any, none⟩,
  ⟨(some 16), (.ext 0 (.tmp 13)), .sl, none⟩,
  ⟨(some 17), (.ext 1 (.tmp 13)), (.int .i64), none⟩,
  ⟨(some 6), (.mv (.tmp 16)), .sl, none⟩,
  ⟨(some 7), (.mv (.tmp 17)), (.int .i64), none⟩] [7, 4, 0, 6])
 (.seq (.seq (.ops [⟨(some 18), (.mv (.tmp 7)), (.int .i64), none⟩,
  ⟨(some 19), (.bin .neq (.tmp 18) (.const (.int .i64 0))), .bool, none⟩] [19, 7, 4, 0, 6])
 (.cond (.tmp 19)
 (.seq (.ops [⟨(some 20), (.bld 43 (.fields [(0, 1), (1, 1), (2, 3)]) []), .agg, none⟩,
  ⟨(some 21), (.mv (.tmp 7)), (.int .i64), none⟩,
  ⟨none, (.stN 5 (.tmp 4) (.tmp 20)), .any, none⟩,
  ⟨(some 5), (.mv (.tmp 21)), (.int .i64), none⟩] [4, 5])
 .ret)
 .skip))
 (.seq (.ops [⟨(some 8), (.alloc 43), .ptr, none⟩] [0, 6, 8, 4])
 (.seq (.seq (.ops [⟨(some 22), (.mv (.tmp 0)), .ptr, none⟩,
  ⟨(some 23), (.nc (.tmp 22)), .any, none⟩,
  ⟨(some 24), (.fa 0 (.tmp 23)), .ptr, none⟩,
  ⟨(some 25), (.ld1 (.tmp 24)), .any, none⟩,
  ⟨(some 9), (.mv (.tmp 25)), .any, none⟩] [9, 6, 8, 4])
 (.block 0
 (.loop [(9, .any)] [4, 6, 8]
 (.seq (.seq (.ops [⟨(some 26), (.mv (.tmp 9)), .any, none⟩,
  ⟨(some 27), (.nilEq true 4 (.tmp 26)), .bool, none⟩] [27, 9, 6, 8, 4])
 (.cond (.tmp 27)
 .skip
 (.exit 0)))
 (.block 1
 (.seq (.ops [⟨(some 28), (.mv (.tmp 9)), .any, none⟩,
  ⟨(some 29), (.inv (.tmp 28) "prelude/proof.node" [] [.agg]), .agg, none⟩,
  ⟨(some 10), (.alloc 33), .ptr, none⟩,
  ⟨none, (.stN 69 (.tmp 10) (.tmp 29)), .any, none⟩] [9, 6, 10, 8, 4])
 (.seq (.ops [⟨(some 31), (.mv (.tmp 9)), .any, none⟩,
  ⟨(some 32), (.mv (.tmp 6)), .sl, none⟩,
  ⟨(some 33), (.inv (.tmp 31) "prelude/proof.toward" [(.tmp 32)] [.any, .any]), .any, none⟩,
  ⟨(some 30), (.mv (.tmp 33)), .any, none⟩,
  ⟨(some 34), (.ext 0 (.tmp 30)), .any, none⟩,
  ⟨(some 35), (.ext 1 (.tmp 30)), .any, none⟩,
  ⟨(some 11), (.mv (.tmp 34)), .any, none⟩,
  ⟨(some 12), (.mv (.tmp 35)), .any, none⟩] [11, 10, 8, 4, 12, 6])
 (.seq (.seq (.ops [⟨(some 36), (.mv (.tmp 11)), .any, none⟩,
  ⟨(some 37), (.nilEq false 4 (.tmp 36)), .bool, none⟩] [37, 10, 8, 4, 12, 11, 6])
 (.cond (.tmp 37)
 (.seq (.draw (.take 0 ⟨(some 38), (.fa 66 (.tmp 10)), .ptr, none⟩
  (.take 1 ⟨(some 39), (.ldN 3 (.tmp 38)), .agg, none⟩
  (.take 2 ⟨(some 40), (.fa 1 (.tmp 8)), .ptr, none⟩
  (.go 3 ⟨none, (.st1 (.tmp 40) (.const (.bool true))), .any, none⟩ [(1, ⟨(some 39), (.ldN 3 (.tmp 38)), .agg, none⟩)]
  (.take 4 ⟨(some 41), (.fa 2 (.tmp 8)), .ptr, none⟩
  (.go 5 ⟨none, (.stN 3 (.tmp 41) (.tmp 39)), .any, none⟩ []
  .done)))))) [8, 4])
 (.exit 0))
 .skip))
 (.seq (.draw (.take 0 ⟨(some 42), (.fa 0 (.tmp 8)), .ptr, none⟩
  (.take 1 ⟨(some 43), (.ld1 (.tmp 42)), .sl, none⟩
  (.take 2 ⟨(some 44), (.fa 1 (.tmp 10)), .ptr, none⟩
  (.take 3 ⟨(some 45), (.ld1 (.tmp 44)), (.int .i64), none⟩
  (.take 4 ⟨(some 46), (.mv (.tmp 12)), .any, none⟩
  (.go 5 ⟨(some 47), (.inv (.tmp 46) "prelude/proof.digest" [] [.agg]), .agg, none⟩ [(3, ⟨(some 45), (.ld1 (.tmp 44)), (.int .i64), none⟩), (1, ⟨(some 43), (.ld1 (.tmp 42)), .sl, none⟩)]
  (.take 6 ⟨(some 48), (.bld 51 (.fields [(0, 1), (1, 32)]) [(0, (.tmp 45)), (1, (.tmp 47))]), .agg, none⟩
  (.go 7 ⟨(some 49), (.bldS 51 1 33 [(0, (.tmp 48))]), .sl, none⟩ [(1, ⟨(some 43), (.ld1 (.tmp 42)), .sl, none⟩)]
  (.go 8 ⟨(some 50), (.app #[41, 41] 41 (.tmp 43) (.tmp 49)), .sl, none⟩ []
  (.take 9 ⟨(some 51), (.fa 0 (.tmp 8)), .ptr, none⟩
  (.go 10 ⟨none, (.st1 (.tmp 51) (.tmp 50)), .any, none⟩ []
  .done))))))))))) [11, 6, 8, 4])
 (.ops [⟨(some 52), (.mv (.tmp 11)), .any, none⟩,
  ⟨(some 9), (.mv (.tmp 52)), .any, none⟩] [9, 6, 8, 4]))))))))))
 (.seq (.ops [⟨(some 53), (.ldN 5 (.tmp 8)), .agg, none⟩,
  ⟨none, (.stN 5 (.tmp 4) (.tmp 53)), .any, none⟩,
  ⟨(some 5), (.mv (.const (.int .i64 0))), (.int .i64), none⟩] [4, 5])
 .ret))))))
def r39 : List Res := [.cN 4 5, .t 5]
theorem tr39 : trS Tryd.prog [] 54 (Tryd.f39.body.getD .skip) s39 = some s39 := by kernel_rfl
theorem den39 (args : List Value) (w : World) (R : Ending → World → Prop) (hn : args.length ≤ 54) (h : denS Tryd.prog s39 (argsEnv 0 args) w (endK r39 R)) : Calls Tryd.prog 39 args.toArray w R :=
  calls_of_den (pn := []) (fn := Tryd.f39) (c := Tryd.f39.body.getD .skip) Tryd.func39 (by kernel_rfl) (by rw [Tryd.ntmps39]; exact hn) (by rw [Tryd.ntmps39]; exact tr39) (by kernel_rfl) h
def d39 (t0 : Option Addr) (k1 : Array Value) (w : World) (R : Ending → World → Prop) : Prop :=
 ∀ w2 : World, w2 = World.alloc w (.cells k1 29) →
 ∀ w3 : World, w3 = World.alloc w2 (.cells (zc Tryd.prog 43).toArray 43) →
 ∃ cs4 : List Value, List.length cs4 = 2 ∧ Cells w3 ⟨World.heap w |>.size, 0, none⟩ cs4 ∧
 Calls Tryd.prog 55 #[(.agg (List.toArray cs4))] w3 fun e5 w6 => ∃ (x7 : Option Addr) (x7n : Nat) (x7c : Nat), ∃ x8 : Int, e5 = .returned (.tuple #[(.slice x7 x7n x7c), (.int .i64 x8)]) ∧
 ∃ (x9 : Option Addr) (x9n : Nat) (x9c : Nat), (#[(.slice x7 x7n x7c), (.int .i64 x8)] : Array Value)[0]? = some (.slice x9 x9n x9c) ∧
 ∃ x10 : Int, (#[(.slice x7 x7n x7c), (.int .i64 x8)] : Array Value)[1]? = some (.int .i64 x10) ∧
 (bif (!decide (x10 = 0)) then
 (∃ cs11, fillL (.fields [(0, 1), (1, 1), (2, 3)]) (zc Tryd.prog 43) [] = some cs11 ∧
 Array.size (List.toArray cs11) = 5 ∧ (∀ u ∈ Array.toList (List.toArray cs11), one u = true) ∧ Room w6 ⟨World.heap w2 |>.size, 0, none⟩ 5 ∧
 ∀ w12 : World, w12 = setCells w6 ⟨World.heap w2 |>.size, 0, none⟩ (Array.toList (List.toArray cs11)) 0 →
 ∃ cs13 : List Value, List.length cs13 = 5 ∧ Cells w12 ⟨World.heap w2 |>.size, 0, none⟩ cs13 ∧
 R (.returned (.tuple #[(.agg (List.toArray cs13)), (.int .i64 x10)])) w12)
 else
 (∀ w14 : World, w14 = World.alloc w6 (.cells (zc Tryd.prog 43).toArray 43) →
 optK t0 fun a15 =>
 ∃ x16 : Value, World.cell? w14 (Addr.add a15 0) = some x16 ∧
 ∃ I17 : Nat → Value → World → Prop,
 (∃ m, I17 m x16 w14) ∧
 (∀ (m18 : Nat) (w19 : World) (at20 : Value), I17 m18 at20 w19 →
 nilQ 4 at20 fun q21 => (bif (!q21) then
 (∃ t22 v23 g24 r25, at20 = .iface t22 v23 ∧ Sem.run Tryd.prog (method (Tryd.prog.types.size + Made.depth) t22 v23 "prelude/proof.node") w19 = .ok (g24, r25) w19 ∧ HasBody Tryd.prog g24 ∧
 Calls Tryd.prog g24 (#[r25] ++ #[]) w19 fun e26 w27 => ∃ x28 : Array Value, e26 = .returned (.agg x28) ∧
 ∀ w29 : World, w29 = World.alloc w27 (.cells (zc Tryd.prog 33).toArray 33) →
 Array.size x28 = 69 ∧ (∀ u ∈ Array.toList x28, one u = true) ∧ Room w29 ⟨World.heap w27 |>.size, 0, none⟩ 69 ∧
 ∀ w30 : World, w30 = setCells w29 ⟨World.heap w27 |>.size, 0, none⟩ (Array.toList x28) 0 →
 ∃ t31 v32 g33 r34, at20 = .iface t31 v32 ∧ Sem.run Tryd.prog (method (Tryd.prog.types.size + Made.depth) t31 v32 "prelude/proof.toward") w30 = .ok (g33, r34) w30 ∧ HasBody Tryd.prog g33 ∧
 Calls Tryd.prog g33 (#[r34] ++ #[(.slice x9 x9n x9c)]) w30 fun e35 w36 => ∃ x37 : Value, ∃ x38 : Value, e35 = .returned (.tuple #[x37, x38]) ∧
 ∃ x39 : Value, (#[x37, x38] : Array Value)[0]? = some x39 ∧
 ∃ x40 : Value, (#[x37, x38] : Array Value)[1]? = some x40 ∧
 nilQ 4 x39 fun q41 => (bif q41 then
 (∀ w42 : World, w42 = World.drew w36 →
 ∃ cs43 : List Value, List.length cs43 = 3 ∧ Cells w42 (Addr.add ⟨World.heap w27 |>.size, 0, none⟩ 66) cs43 ∧
 one (.bool true) = true ∧ Option.isSome (World.cell? w42 (Addr.add ⟨World.heap w6 |>.size, 0, none⟩ 1)) = true ∧ World.frozen? w42 (Addr.add ⟨World.heap w6 |>.size, 0, none⟩ 1) = false ∧
 ∀ w44 : World, w44 = World.setCell w42 (Addr.add ⟨World.heap w6 |>.size, 0, none⟩ 1) (.bool true) →
 (∃ cs45 : List Value, List.length cs45 = 3 ∧ Cells w44 (Addr.add ⟨World.heap w27 |>.size, 0, none⟩ 66) cs45 ∧
 (((.agg (List.toArray cs45)) : Value) = (.agg (List.toArray cs43)) ∧ w44 = w44)) ∧
 Array.size (List.toArray cs43) = 3 ∧ (∀ u ∈ Array.toList (List.toArray cs43), one u = true) ∧ Room w44 (Addr.add ⟨World.heap w6 |>.size, 0, none⟩ 2) 3 ∧
 ∀ w46 : World, w46 = setCells w44 (Addr.add ⟨World.heap w6 |>.size, 0, none⟩ 2) (Array.toList (List.toArray cs43)) 0 →
 ∃ cs47 : List Value, List.length cs47 = 5 ∧ Cells w46 ⟨World.heap w6 |>.size, 0, none⟩ cs47 ∧
 Array.size (List.toArray cs47) = 5 ∧ (∀ u ∈ Array.toList (List.toArray cs47), one u = true) ∧ Room w46 ⟨World.heap w2 |>.size, 0, none⟩ 5 ∧
 ∀ w48 : World, w48 = setCells w46 ⟨World.heap w2 |>.size, 0, none⟩ (Array.toList (List.toArray cs47)) 0 →
 ∃ cs49 : List Value, List.length cs49 = 5 ∧ Cells w48 ⟨World.heap w2 |>.size, 0, none⟩ cs49 ∧
 R (.returned (.tuple #[(.agg (List.toArray cs49)), (.int .i64 0)])) w48)
 else
 (∀ w50 : World, w50 = World.drew w36 →
 ∃ (x51 : Option Addr) (x51n : Nat) (x51c : Nat), World.cell? w50 (Addr.add ⟨World.heap w6 |>.size, 0, none⟩ 0) = some (.slice x51 x51n x51c) ∧
 ∃ x52 : Int, World.cell? w50 (Addr.add ⟨World.heap w27 |>.size, 0, none⟩ 1) = some (.int .i64 x52) ∧
 ∃ t53 v54 g55 r56, x40 = .iface t53 v54 ∧ Sem.run Tryd.prog (method (Tryd.prog.types.size + Made.depth) t53 v54 "prelude/proof.digest") w50 = .ok (g55, r56) w50 ∧ HasBody Tryd.prog g55 ∧
 Calls Tryd.prog g55 (#[r56] ++ #[]) w50 fun e57 w58 => ∃ x59 : Array Value, e57 = .returned (.agg x59) ∧
 (∃ z60 : Int, World.cell? w58 (Addr.add ⟨World.heap w27 |>.size, 0, none⟩ 1) = some (.int .i64 z60) ∧
 (((.int .i64 z60) : Value) = (.int .i64 x52) ∧ w58 = w58)) ∧
 (∃ (z61 : Option Addr) (z61n : Nat) (z61c : Nat), World.cell? w58 (Addr.add ⟨World.heap w6 |>.size, 0, none⟩ 0) = some (.slice z61 z61n z61c) ∧
 (((.slice z61 z61n z61c) : Value) = (.slice x51 x51n x51c) ∧ w58 = w58)) ∧
 ∃ cs62, fillL (.fields [(0, 1), (1, 32)]) (zc Tryd.prog 51) [(0, (.int .i64 x52)), (1, (.agg x59))] = some cs62 ∧
 ∃ cs63, fillL (.elems 33) (zrep (zc Tryd.prog 51) (1 * 33)) [(0, (.agg (List.toArray cs62)))] = some cs63 ∧
 ∀ w64 : World, w64 = World.alloc w58 (.cells (List.toArray cs63) 51) →
 (∃ (z65 : Option Addr) (z65n : Nat) (z65c : Nat), World.cell? w64 (Addr.add ⟨World.heap w6 |>.size, 0, none⟩ 0) = some (.slice z65 z65n z65c) ∧
 (((.slice z65 z65n z65c) : Value) = (.slice x51 x51n x51c) ∧ w64 = w64)) ∧
 RunV Tryd.prog (Builtin.append_ #[41, 41] 41 #[(.slice x51 x51n x51c), (.slice (some ⟨World.heap w58 |>.size, 0, none⟩) 1 1)]) w64 fun v66 w67 => ∃ (x68 : Option Addr) (x68n : Nat) (x68c : Nat), v66 = (.slice x68 x68n x68c) ∧
 one (.slice x68 x68n x68c) = true ∧ Option.isSome (World.cell? w67 (Addr.add ⟨World.heap w6 |>.size, 0, none⟩ 0)) = true ∧ World.frozen? w67 (Addr.add ⟨World.heap w6 |>.size, 0, none⟩ 0) = false ∧
 ∀ w69 : World, w69 = World.setCell w67 (Addr.add ⟨World.heap w6 |>.size, 0, none⟩ 0) (.slice x68 x68n x68c) →
 ∃ m70, m70 < m18 ∧ I17 m70 x39 w69)))
 else
 (∃ cs71 : List Value, List.length cs71 = 5 ∧ Cells w19 ⟨World.heap w6 |>.size, 0, none⟩ cs71 ∧
 Array.size (List.toArray cs71) = 5 ∧ (∀ u ∈ Array.toList (List.toArray cs71), one u = true) ∧ Room w19 ⟨World.heap w2 |>.size, 0, none⟩ 5 ∧
 ∀ w72 : World, w72 = setCells w19 ⟨World.heap w2 |>.size, 0, none⟩ (Array.toList (List.toArray cs71)) 0 →
 ∃ cs73 : List Value, List.length cs73 = 5 ∧ Cells w72 ⟨World.heap w2 |>.size, 0, none⟩ cs73 ∧
 R (.returned (.tuple #[(.agg (List.toArray cs73)), (.int .i64 0)])) w72)))))
theorem e39 (t0 : Option Addr) (k1 : Array Value) (w : World) (R : Ending → World → Prop) : denS Tryd.prog s39 (argsEnv 0 [(.pointer t0), (.agg k1)]) w (endK r39 R) = d39 t0 k1 w R := by kernel_rfl
theorem c39 (t0 : Option Addr) (k1 : Array Value) {w : World} {R : Ending → World → Prop} (h : d39 t0 k1 w R) : Calls Tryd.prog 39 #[(.pointer t0), (.agg k1)] w R :=
  den39 [(.pointer t0), (.agg k1)] w R (by simp) ((e39 t0 k1 w R).symm ▸ h)

/-- prelude/preluderef24.split -/
def s66 : S := (.seq (.ops [⟨(some 2), (.mv (.const (.int .i64 0))), (.int .i64), none⟩,
  ⟨(some 3), (.mv (.const (.int .i64 0))), (.int .i64), none⟩] [0])
 (.seq (.ops [⟨(some 4), (.mv (.const (.int .i64 0))), (.int .i64), none⟩] [0, 4])
 (.seq (.block 0
 (.loop [(4, (.int .i64))] [0]
 (.seq (.seq (.draw (.take 0 ⟨(some 6), (.mv (.tmp 0)), .sl, none⟩
  (.take 1 ⟨(some 7), (.ia 3 (.tmp 6) (.const (.int .i64 0))), .ptr, none⟩
  (.take 2 ⟨(some 8), (.fa 0 (.tmp 7)), .ptr, none⟩
  (.take 3 ⟨(some 9), (.ldN 2 (.tmp 8)), .agg, none⟩
  (.take 4 ⟨(some 10), (.mv (.tmp 4)), (.int .i64), none⟩
  (.take 6 ⟨(some 12), (.mv (.tmp 0)), .sl, none⟩
  (.take 7 ⟨(some 13), (.mv (.tmp 0)), .sl, none⟩
  (.take 8 ⟨(some 14), (.len (.tmp 13)), (.int .i64), none⟩
  (.take 9 ⟨(some 15), (.bin .sub (.tmp 14) (.const (.int .i64 1))), (.int .i64), none⟩
  (.take 10 ⟨(some 16), (.ia 3 (.tmp 12) (.tmp 15)), .ptr, none⟩
  (.take 11 ⟨(some 17), (.fa 0 (.tmp 16)), .ptr, none⟩
  (.take 12 ⟨(some 18), (.ldN 2 (.tmp 17)), .agg, none⟩
  (.take 13 ⟨(some 19), (.mv (.tmp 4)), (.int .i64), none⟩
  (.go 5 ⟨(some 11), (.call 59 [(.tmp 9), (.tmp 10)] [(.int .i64)]), (.int .i64), none⟩ [(12, ⟨(some 18), (.ldN 2 (.tmp 17)), .agg, none⟩)]
  (.go 14 ⟨(some 20), (.call 59 [(.tmp 18), (.tmp 19)] [(.int .i64)]), (.int .i64), none⟩ []
  (.take 15 ⟨(some 21), (.bin .eql (.tmp 11) (.tmp 20)), .bool, none⟩
  .done)))))))))))))))) [21, 4, 0])
 (.cond (.tmp 21)
 .skip
 (.exit 0)))
 (.block 1
 (.ops [⟨(some 22), (.mv (.tmp 4)), (.int .i64), none⟩,
  ⟨(some 23), (.bin .add (.tmp 22) (.const (.int .i64 1))), (.int .i64), none⟩,
  ⟨(some 4), (.mv (.tmp 23)), (.int .i64), none⟩] [0, 4])))))
 (.seq (.ops [⟨(some 5), (.mv (.const (.int .i64 0))), (.int .i64), none⟩] [0, 5, 4])
 (.seq (.block 2
 (.loop [(5, (.int .i64))] [0, 4]
 (.seq (.seq (.ops [⟨(some 24), (.mv (.tmp 0)), .sl, none⟩,
  ⟨(some 25), (.mv (.tmp 5)), (.int .i64), none⟩,
  ⟨(some 26), (.ia 3 (.tmp 24) (.tmp 25)), .ptr, none⟩,
  ⟨(some 27), (.fa 0 (.tmp 26)), .ptr, none⟩,
  ⟨(some 28), (.ldN 2 (.tmp 27)), .agg, none⟩,
  ⟨(some 29), (.mv (.tmp 4)), (.int .i64), none⟩,
  ⟨(some 30), (.call 59 [(.tmp 28), (.tmp 29)] [(.int .i64)]), (.int .i64), none⟩,
  ⟨(some 31), (.bin .eql (.tmp 30) (.const (.int .i64 0))), .bool, none⟩] [31, 5, 0, 4])
 (.cond (.tmp 31)
 .skip
 (.exit 2)))
 (.block 3
 (.ops [⟨(some 32), (.mv (.tmp 5)), (.int .i64), none⟩,
  ⟨(some 33), (.bin .add (.tmp 32) (.const (.int .i64 1))), (.int .i64), none⟩,
  ⟨(some 5), (.mv (.tmp 33)), (.int .i64), none⟩] [0, 5, 4])))))
 (.seq (.ops [⟨(some 34), (.mv (.tmp 4)), (.int .i64), none⟩,
  ⟨(some 35), (.mv (.tmp 5)), (.int .i64), none⟩,
  ⟨(some 2), (.mv (.tmp 34)), (.int .i64), none⟩,
  ⟨(some 3), (.mv (.tmp 35)), (.int .i64), none⟩] [2, 3])
 .ret))))))
def r66 : List Res := [.t 2, .t 3]
theorem tr66 : trS Tryd.prog [] 36 (Tryd.f66.body.getD .skip) s66 = some s66 := by kernel_rfl
theorem den66 (args : List Value) (w : World) (R : Ending → World → Prop) (hn : args.length ≤ 36) (h : denS Tryd.prog s66 (argsEnv 0 args) w (endK r66 R)) : Calls Tryd.prog 66 args.toArray w R :=
  calls_of_den (pn := []) (fn := Tryd.f66) (c := Tryd.f66.body.getD .skip) Tryd.func66 (by kernel_rfl) (by rw [Tryd.ntmps66]; exact hn) (by rw [Tryd.ntmps66]; exact tr66) (by kernel_rfl) h
def d66 (rows0 : Option Addr) (rows0n : Nat) (rows0c : Nat) (w : World) (R : Ending → World → Prop) : Prop :=
 ∃ I1 : Nat → Int → World → Prop,
 (∃ m, I1 m 0 w) ∧
 (∀ (m2 : Nat) (w3 : World) (bit4 : Int), I1 m2 bit4 w3 →
 ∀ w5 : World, w5 = World.drew w3 →
 0 ≤ (0 : Int) ∧ (0 : Int) < ((rows0n : Nat) : Int) ∧ optK rows0 fun a6 =>
 ∃ cs7 : List Value, List.length cs7 = 2 ∧ Cells w5 (Addr.add (Addr.add a6 (Int.toNat 0 * 3)) 0) cs7 ∧
 0 ≤ (IntKind.wrap .i64 (((rows0n : Nat) : Int) - 1)) ∧ (IntKind.wrap .i64 (((rows0n : Nat) : Int) - 1)) < ((rows0n : Nat) : Int) ∧ optK rows0 fun a8 =>
 ∃ cs9 : List Value, List.length cs9 = 2 ∧ Cells w5 (Addr.add (Addr.add a8 (Int.toNat (IntKind.wrap .i64 (((rows0n : Nat) : Int) - 1)) * 3)) 0) cs9 ∧
 Calls Tryd.prog 59 #[(.agg (List.toArray cs7)), (.int .i64 bit4)] w5 fun e10 w11 => ∃ x12 : Int, e10 = .returned (.int .i64 x12) ∧
 (∃ cs13 : List Value, List.length cs13 = 2 ∧ Cells w11 (Addr.add (Addr.add a8 (Int.toNat (IntKind.wrap .i64 (((rows0n : Nat) : Int) - 1)) * 3)) 0) cs13 ∧
 (((.agg (List.toArray cs13)) : Value) = (.agg (List.toArray cs9)) ∧ w11 = w11)) ∧
 Calls Tryd.prog 59 #[(.agg (List.toArray cs9)), (.int .i64 bit4)] w11 fun e14 w15 => ∃ x16 : Int, e14 = .returned (.int .i64 x16) ∧
 (bif (decide (x12 = x16)) then
 (∃ m17, m17 < m2 ∧ I1 m17 (IntKind.wrap .i64 (bit4 + 1)) w15)
 else
 (∃ I18 : Nat → Int → World → Prop,
 (∃ m, I18 m 0 w15) ∧
 (∀ (m19 : Nat) (w20 : World) (n21 : Int), I18 m19 n21 w20 →
 0 ≤ n21 ∧ n21 < ((rows0n : Nat) : Int) ∧ optK rows0 fun a22 =>
 ∃ cs23 : List Value, List.length cs23 = 2 ∧ Cells w20 (Addr.add (Addr.add a22 (Int.toNat n21 * 3)) 0) cs23 ∧
 Calls Tryd.prog 59 #[(.agg (List.toArray cs23)), (.int .i64 bit4)] w20 fun e24 w25 => ∃ x26 : Int, e24 = .returned (.int .i64 x26) ∧
 (bif (decide (x26 = 0)) then
 (∃ m27, m27 < m19 ∧ I18 m27 (IntKind.wrap .i64 (n21 + 1)) w25)
 else
 (R (.returned (.tuple #[(.int .i64 bit4), (.int .i64 n21)])) w25))))))
theorem e66 (rows0 : Option Addr) (rows0n : Nat) (rows0c : Nat) (w : World) (R : Ending → World → Prop) : denS Tryd.prog s66 (argsEnv 0 [(.slice rows0 rows0n rows0c)]) w (endK r66 R) = d66 rows0 rows0n rows0c w R := by kernel_rfl
theorem c66 (rows0 : Option Addr) (rows0n : Nat) (rows0c : Nat) {w : World} {R : Ending → World → Prop} (h : d66 rows0 rows0n rows0c w R) : Calls Tryd.prog 66 #[(.slice rows0 rows0n rows0c)] w R :=
  den66 [(.slice rows0 rows0n rows0c)] w R (by simp) ((e66 rows0 rows0n rows0c w R).symm ▸ h)

/-- prelude/preluderef24.Nodes -/
def s30 : S := (.seq (.ops [⟨(some 2), (.mv (.const (.slice none 0 0))), .sl, none⟩] [0])
 (.seq (.seq (.ops [⟨(some 12), (.mv (.tmp 0)), .sl, none⟩,
  ⟨(some 13), (.len (.tmp 12)), (.int .i64), none⟩,
  ⟨(some 14), (.bin .eql (.tmp 13) (.const (.int .i64 0))), .bool, none⟩] [14, 0])
 (.cond (.tmp 14)
 (.seq (.ops [⟨(some 15), (.bld 33 (.fields [(0, 1), (1, 1), (2, 32), (34, 32), (66, 3)]) []), .agg, none⟩,
  ⟨(some 16), (.bldS 33 1 69 [(0, (.tmp 15))]), .sl, none⟩,
  ⟨(some 2), (.mv (.tmp 16)), .sl, none⟩] [2])
 .ret)
 .skip))
 (.seq (.seq (.ops [⟨(some 17), (.mv (.tmp 0)), .sl, none⟩,
  ⟨(some 18), (.len (.tmp 17)), (.int .i64), none⟩,
  ⟨(some 19), (.bin .eql (.tmp 18) (.const (.int .i64 1))), .bool, none⟩] [19, 0])
 (.cond (.tmp 19)
 (.seq (.ops [⟨(some 20), (.mv (.tmp 0)), .sl, none⟩,
  ⟨(some 21), (.ia 3 (.tmp 20) (.const (.int .i64 0))), .ptr, none⟩,
  ⟨(some 22), (.ldN 3 (.tmp 21)), .agg, none⟩,
  ⟨(some 23), (.bld 33 (.fields [(0, 1), (1, 1), (2, 32), (34, 32), (66, 3)]) [(0, (.const (.int .i64 1))), (4, (.tmp 22))]), .agg, none⟩,
  ⟨(some 24), (.bldS 33 1 69 [(0, (.tmp 23))]), .sl, none⟩,
  ⟨(some 2), (.mv (.tmp 24)), .sl, none⟩] [2])
 .ret)
 .skip))
 (.seq (.ops [⟨(some 26), (.mv (.tmp 0)), .sl, none⟩,
  ⟨(some 27), (.call 66 [(.tmp 26)] [(.int .i64), (.int .i64)]), .any, none⟩,
  ⟨(some 25), (.mv (.tmp 27)), .any, none⟩,
  ⟨(some 28), (.ext 0 (.tmp 25)), (.int .i64), none⟩,
  ⟨(some 29), (.ext 1 (.tmp 25)), (.int .i64), none⟩,
  ⟨(some 3), (.mv (.tmp 28)), (.int .i64), none⟩,
  ⟨(some 4), (.mv (.tmp 29)), (.int .i64), none⟩] [0, 4, 3])
 (.seq (.ops [⟨(some 30), (.mv (.tmp 0)), .sl, none⟩,
  ⟨(some 31), (.mv (.tmp 4)), (.int .i64), none⟩,
  ⟨(some 32), (.slS 3 (.tmp 30) none (some (.tmp 31)) none), .sl, none⟩,
  ⟨(some 33), (.call 30 [(.tmp 32)] [.sl]), .sl, none⟩,
  ⟨(some 5), (.mv (.tmp 33)), .sl, none⟩] [0, 4, 5, 3])
 (.seq (.ops [⟨(some 34), (.mv (.tmp 0)), .sl, none⟩,
  ⟨(some 35), (.mv (.tmp 4)), (.int .i64), none⟩,
  ⟨(some 36), (.slS 3 (.tmp 34) (some (.tmp 35)) none none), .sl, none⟩,
  ⟨(some 37), (.call 30 [(.tmp 36)] [.sl]), .sl, none⟩,
  ⟨(some 6), (.mv (.tmp 37)), .sl, none⟩] [5, 6, 3])
 (.seq (.ops [⟨(some 39), (.mv (.tmp 5)), .sl, none⟩,
  ⟨(some 40), (.ia 69 (.tmp 39) (.const (.int .i64 0))), .ptr, none⟩,
  ⟨(some 41), (.ldN 69 (.tmp 40)), .agg, none⟩,
  ⟨(some 42), (.call 16 [(.tmp 41)] [.agg, (.int .i64)]), .any, none⟩,
  ⟨(some 38), (.mv (.tmp 42)), .any, none⟩,
  ⟨(some 43), (.ext 0 (.tmp 38)), .agg, none⟩,
  ⟨(some 44), (.ext 1 (.tmp 38)), (.int .i64), none⟩,
  ⟨(some 7), (.alloc 24), .ptr, none⟩,
  ⟨none, (.stN 32 (.tmp 7) (.tmp 43)), .any, none⟩,
  ⟨(some 8), (.mv (.tmp 44)), (.int .i64), none⟩] [6, 3, 7, 5])
 (.seq (.ops [⟨(some 46), (.mv (.tmp 6)), .sl, none⟩,
  ⟨(some 47), (.ia 69 (.tmp 46) (.const (.int .i64 0))), .ptr, none⟩,
  ⟨(some 48), (.ldN 69 (.tmp 47)), .agg, none⟩,
  ⟨(some 49), (.call 16 [(.tmp 48)] [.agg, (.int .i64)]), .any, none⟩,
  ⟨(some 45), (.mv (.tmp 49)), .any, none⟩,
  ⟨(some 50), (.ext 0 (.tmp 45)), .agg, none⟩,
  ⟨(some 51), (.ext 1 (.tmp 45)), (.int .i64), none⟩,
  ⟨(some 9), (.alloc 24), .ptr, none⟩,
  ⟨none, (.stN 32 (.tmp 9) (.tmp 50)), .any, none⟩,
  ⟨(some 10), (.mv (.tmp 51)), (.int .i64), none⟩] [3, 7, 9, 5, 6])
 (.seq (.ops [⟨(some 52), (.mv (.tmp 3)), (.int .i64), none⟩,
  ⟨(some 53), (.ldN 32 (.tmp 7)), .agg, none⟩,
  ⟨(some 54), (.ldN 32 (.tmp 9)), .agg, none⟩,
  ⟨(some 55), (.bld 33 (.fields [(0, 1), (1, 1), (2, 32), (34, 32), (66, 3)]) [(0, (.const (.int .i64 2))), (1, (.tmp 52)), (2, (.tmp 53)), (3, (.tmp 54))]), .agg, none⟩,
  ⟨(some 56), (.bldS 33 1 69 [(0, (.tmp 55))]), .sl, none⟩,
  ⟨(some 11), (.mv (.tmp 56)), .sl, none⟩] [11, 5, 6])
 (.seq (.ops [⟨(some 57), (.mv (.tmp 11)), .sl, none⟩,
  ⟨(some 58), (.mv (.tmp 5)), .sl, none⟩,
  ⟨(some 59), (.app #[52, 52] 52 (.tmp 57) (.tmp 58)), .sl, none⟩,
  ⟨(some 11), (.mv (.tmp 59)), .sl, none⟩] [11, 6])
 (.seq (.ops [⟨(some 60), (.mv (.tmp 11)), .sl, none⟩,
  ⟨(some 61), (.mv (.tmp 6)), .sl, none⟩,
  ⟨(some 62), (.app #[52, 52] 52 (.tmp 60) (.tmp 61)), .sl, none⟩,
  ⟨(some 2), (.mv (.tmp 62)), .sl, none⟩] [2])
 .ret)))))))))))
def r30 : List Res := [.t 2]
theorem tr30 : trS Tryd.prog [] 63 (Tryd.f30.body.getD .skip) s30 = some s30 := by kernel_rfl
theorem den30 (args : List Value) (w : World) (R : Ending → World → Prop) (hn : args.length ≤ 63) (h : denS Tryd.prog s30 (argsEnv 0 args) w (endK r30 R)) : Calls Tryd.prog 30 args.toArray w R :=
  calls_of_den (pn := []) (fn := Tryd.f30) (c := Tryd.f30.body.getD .skip) Tryd.func30 (by kernel_rfl) (by rw [Tryd.ntmps30]; exact hn) (by rw [Tryd.ntmps30]; exact tr30) (by kernel_rfl) h
def d30 (rows0 : Option Addr) (rows0n : Nat) (rows0c : Nat) (w : World) (R : Ending → World → Prop) : Prop :=
 (bif (decide (((rows0n : Nat) : Int) = 0)) then
 (∃ cs1, fillL (.fields [(0, 1), (1, 1), (2, 32), (34, 32), (66, 3)]) (zc Tryd.prog 33) [] = some cs1 ∧
 ∃ cs2, fillL (.elems 69) (zrep (zc Tryd.prog 33) (1 * 69)) [(0, (.agg (List.toArray cs1)))] = some cs2 ∧
 ∀ w3 : World, w3 = World.alloc w (.cells (List.toArray cs2) 33) →
 R (.returned (.slice (some ⟨World.heap w |>.size, 0, none⟩) 1 1)) w3)
 else
 ((bif (decide (((rows0n : Nat) : Int) = 1)) then
 (0 ≤ (0 : Int) ∧ (0 : Int) < ((rows0n : Nat) : Int) ∧ optK rows0 fun a4 =>
 ∃ cs5 : List Value, List.length cs5 = 3 ∧ Cells w (Addr.add a4 (Int.toNat 0 * 3)) cs5 ∧
 ∃ cs6, fillL (.fields [(0, 1), (1, 1), (2, 32), (34, 32), (66, 3)]) (zc Tryd.prog 33) [(0, (.int .i64 1)), (4, (.agg (List.toArray cs5)))] = some cs6 ∧
 ∃ cs7, fillL (.elems 69) (zrep (zc Tryd.prog 33) (1 * 69)) [(0, (.agg (List.toArray cs6)))] = some cs7 ∧
 ∀ w8 : World, w8 = World.alloc w (.cells (List.toArray cs7) 33) →
 R (.returned (.slice (some ⟨World.heap w |>.size, 0, none⟩) 1 1)) w8)
 else
 (Calls Tryd.prog 66 #[(.slice rows0 rows0n rows0c)] w fun e9 w10 => ∃ x11 : Int, ∃ x12 : Int, e9 = .returned (.tuple #[(.int .i64 x11), (.int .i64 x12)]) ∧
 ∃ x13 : Int, (#[(.int .i64 x11), (.int .i64 x12)] : Array Value)[0]? = some (.int .i64 x13) ∧
 ∃ x14 : Int, (#[(.int .i64 x11), (.int .i64 x12)] : Array Value)[1]? = some (.int .i64 x14) ∧
 0 ≤ x14 ∧ x14 ≤ ((rows0c : Nat) : Int) ∧ Calls Tryd.prog 30 #[(.slice (if rows0c = 0 then rows0 else Option.map (fun y => Addr.add y (0 * 3)) rows0) ((Int.toNat x14) - 0) (rows0c - 0))] w10 fun e15 w16 => ∃ (x17 : Option Addr) (x17n : Nat) (x17c : Nat), e15 = .returned (.slice x17 x17n x17c) ∧
 0 ≤ x14 ∧ x14 ≤ ((rows0n : Nat) : Int) ∧ Calls Tryd.prog 30 #[(.slice (if rows0c = (Int.toNat x14) then rows0 else Option.map (fun y => Addr.add y ((Int.toNat x14) * 3)) rows0) (rows0n - (Int.toNat x14)) (rows0c - (Int.toNat x14)))] w16 fun e18 w19 => ∃ (x20 : Option Addr) (x20n : Nat) (x20c : Nat), e18 = .returned (.slice x20 x20n x20c) ∧
 0 ≤ (0 : Int) ∧ (0 : Int) < ((x17n : Nat) : Int) ∧ optK x17 fun a21 =>
 ∃ cs22 : List Value, List.length cs22 = 69 ∧ Cells w19 (Addr.add a21 (Int.toNat 0 * 69)) cs22 ∧
 Calls Tryd.prog 16 #[(.agg (List.toArray cs22))] w19 fun e23 w24 => ∃ x25 : Array Value, ∃ x26 : Int, e23 = .returned (.tuple #[(.agg x25), (.int .i64 x26)]) ∧
 ∃ x27 : Array Value, (#[(.agg x25), (.int .i64 x26)] : Array Value)[0]? = some (.agg x27) ∧
 ∃ x28 : Int, (#[(.agg x25), (.int .i64 x26)] : Array Value)[1]? = some (.int .i64 x28) ∧
 ∀ w29 : World, w29 = World.alloc w24 (.cells (zc Tryd.prog 24).toArray 24) →
 Array.size x27 = 32 ∧ (∀ u ∈ Array.toList x27, one u = true) ∧ Room w29 ⟨World.heap w24 |>.size, 0, none⟩ 32 ∧
 ∀ w30 : World, w30 = setCells w29 ⟨World.heap w24 |>.size, 0, none⟩ (Array.toList x27) 0 →
 0 ≤ (0 : Int) ∧ (0 : Int) < ((x20n : Nat) : Int) ∧ optK x20 fun a31 =>
 ∃ cs32 : List Value, List.length cs32 = 69 ∧ Cells w30 (Addr.add a31 (Int.toNat 0 * 69)) cs32 ∧
 Calls Tryd.prog 16 #[(.agg (List.toArray cs32))] w30 fun e33 w34 => ∃ x35 : Array Value, ∃ x36 : Int, e33 = .returned (.tuple #[(.agg x35), (.int .i64 x36)]) ∧
 ∃ x37 : Array Value, (#[(.agg x35), (.int .i64 x36)] : Array Value)[0]? = some (.agg x37) ∧
 ∃ x38 : Int, (#[(.agg x35), (.int .i64 x36)] : Array Value)[1]? = some (.int .i64 x38) ∧
 ∀ w39 : World, w39 = World.alloc w34 (.cells (zc Tryd.prog 24).toArray 24) →
 Array.size x37 = 32 ∧ (∀ u ∈ Array.toList x37, one u = true) ∧ Room w39 ⟨World.heap w34 |>.size, 0, none⟩ 32 ∧
 ∀ w40 : World, w40 = setCells w39 ⟨World.heap w34 |>.size, 0, none⟩ (Array.toList x37) 0 →
 ∃ cs41 : List Value, List.length cs41 = 32 ∧ Cells w40 ⟨World.heap w24 |>.size, 0, none⟩ cs41 ∧
 ∃ cs42 : List Value, List.length cs42 = 32 ∧ Cells w40 ⟨World.heap w34 |>.size, 0, none⟩ cs42 ∧
 ∃ cs43, fillL (.fields [(0, 1), (1, 1), (2, 32), (34, 32), (66, 3)]) (zc Tryd.prog 33) [(0, (.int .i64 2)), (1, (.int .i64 x13)), (2, (.agg (List.toArray cs41))), (3, (.agg (List.toArray cs42)))] = some cs43 ∧
 ∃ cs44, fillL (.elems 69) (zrep (zc Tryd.prog 33) (1 * 69)) [(0, (.agg (List.toArray cs43)))] = some cs44 ∧
 ∀ w45 : World, w45 = World.alloc w40 (.cells (List.toArray cs44) 33) →
 RunV Tryd.prog (Builtin.append_ #[52, 52] 52 #[(.slice (some ⟨World.heap w40 |>.size, 0, none⟩) 1 1), (.slice x17 x17n x17c)]) w45 fun v46 w47 => ∃ (x48 : Option Addr) (x48n : Nat) (x48c : Nat), v46 = (.slice x48 x48n x48c) ∧
 RunV Tryd.prog (Builtin.append_ #[52, 52] 52 #[(.slice x48 x48n x48c), (.slice x20 x20n x20c)]) w47 fun v49 w50 => ∃ (x51 : Option Addr) (x51n : Nat) (x51c : Nat), v49 = (.slice x51 x51n x51c) ∧
 R (.returned (.slice x51 x51n x51c)) w50))))
theorem e30 (rows0 : Option Addr) (rows0n : Nat) (rows0c : Nat) (w : World) (R : Ending → World → Prop) : denS Tryd.prog s30 (argsEnv 0 [(.slice rows0 rows0n rows0c)]) w (endK r30 R) = d30 rows0 rows0n rows0c w R := by kernel_rfl
theorem c30 (rows0 : Option Addr) (rows0n : Nat) (rows0c : Nat) {w : World} {R : Ending → World → Prop} (h : d30 rows0 rows0n rows0c w R) : Calls Tryd.prog 30 #[(.slice rows0 rows0n rows0c)] w R :=
  den30 [(.slice rows0 rows0n rows0c)] w R (by simp) ((e30 rows0 rows0n rows0c w R).symm ▸ h)

/-- prelude/preludelaw24.texts -/
def s38 : S := (.seq (.ops [⟨(some 2), (.mv (.const (.slice none 0 0))), .sl, none⟩] [0])
 (.seq (.ops [⟨(some 3), (.mv (.const (.slice none 0 0))), .sl, none⟩] [0, 3])
 (.seq (.seq (.ops [⟨(some 4), (.mv (.const (.int .i64 0))), (.int .i64), none⟩] [4, 0, 3])
 (.block 0
 (.loop [(3, .sl), (4, (.int .i64))] [0]
 (.seq (.seq (.ops [⟨(some 7), (.mv (.tmp 4)), (.int .i64), none⟩,
  ⟨(some 8), (.mv (.tmp 0)), .sl, none⟩,
  ⟨(some 9), (.len (.tmp 8)), (.int .i64), none⟩,
  ⟨(some 10), (.bin .lss (.tmp 7) (.tmp 9)), .bool, none⟩] [10, 0, 4, 3])
 (.cond (.tmp 10)
 .skip
 (.exit 0)))
 (.seq (.block 1
 (.seq (.ops [⟨(some 14), (.mv (.tmp 0)), .sl, none⟩,
  ⟨(some 15), (.mv (.tmp 4)), (.int .i64), none⟩,
  ⟨(some 16), (.ia 69 (.tmp 14) (.tmp 15)), .ptr, none⟩,
  ⟨(some 17), (.ldN 69 (.tmp 16)), .agg, none⟩,
  ⟨(some 18), (.call 54 [(.tmp 17)] [.sl, .bool]), .any, none⟩,
  ⟨(some 13), (.mv (.tmp 18)), .any, none⟩,
  ⟨(some 19), (.ext 0 (.tmp 13)), .sl, none⟩,
  ⟨(some 20), (.ext 1 (.tmp 13)), .bool, none⟩,
  ⟨(some 5), (.mv (.tmp 19)), .sl, none⟩,
  ⟨(some 6), (.mv (.tmp 20)), .bool, none⟩] [6, 0, 4, 3, 5])
 (.join [(29, .bool)] [0, 3, 4, 5]
 (.ops [⟨(some 21), (.mv (.tmp 6)), .bool, none⟩,
  ⟨(some 22), (.mv (.tmp 21)), .bool, none⟩,
  ⟨(some 23), (.mv (.tmp 0)), .sl, (some (22, true))⟩,
  ⟨(some 24), (.mv (.tmp 4)), (.int .i64), (some (22, true))⟩,
  ⟨(some 25), (.ia 69 (.tmp 23) (.tmp 24)), .ptr, (some (22, true))⟩,
  ⟨(some 26), (.fa 0 (.tmp 25)), .ptr, (some (22, true))⟩,
  ⟨(some 27), (.ld1 (.tmp 26)), (.int .i64), (some (22, true))⟩,
  ⟨(some 28), (.bin .neq (.tmp 27) (.const (.int .i64 0))), .bool, (some (22, true))⟩,
  ⟨(some 29), (.pick (.tmp 22) (.tmp 28) (.const (.bool false))), .bool, none⟩] [29, 3, 5, 4, 0])
 (.cond (.tmp 29)
 (.ops [⟨(some 30), (.mv (.tmp 3)), .sl, none⟩,
  ⟨(some 31), (.mv (.tmp 5)), .sl, none⟩,
  ⟨(some 32), (.bldS 22 1 1 [(0, (.tmp 31))]), .sl, none⟩,
  ⟨(some 33), (.app #[78, 78] 78 (.tmp 30) (.tmp 32)), .sl, none⟩,
  ⟨(some 3), (.mv (.tmp 33)), .sl, none⟩] [4, 0, 3])
 .skip))))
 (.ops [⟨(some 11), (.mv (.tmp 4)), (.int .i64), none⟩,
  ⟨(some 12), (.bin .add (.tmp 11) (.const (.int .i64 1))), (.int .i64), none⟩,
  ⟨(some 4), (.mv (.tmp 12)), (.int .i64), none⟩] [4, 0, 3]))))))
 (.seq (.ops [⟨(some 34), (.mv (.tmp 3)), .sl, none⟩,
  ⟨(some 2), (.mv (.tmp 34)), .sl, none⟩] [2])
 .ret))))
def r38 : List Res := [.t 2]
theorem tr38 : trS Tryd.prog [] 35 (Tryd.f38.body.getD .skip) s38 = some s38 := by kernel_rfl
theorem den38 (args : List Value) (w : World) (R : Ending → World → Prop) (hn : args.length ≤ 35) (h : denS Tryd.prog s38 (argsEnv 0 args) w (endK r38 R)) : Calls Tryd.prog 38 args.toArray w R :=
  calls_of_den (pn := []) (fn := Tryd.f38) (c := Tryd.f38.body.getD .skip) Tryd.func38 (by kernel_rfl) (by rw [Tryd.ntmps38]; exact hn) (by rw [Tryd.ntmps38]; exact tr38) (by kernel_rfl) h
def d38 (l0 : Option Addr) (l0n : Nat) (l0c : Nat) (w : World) (R : Ending → World → Prop) : Prop :=
 ∃ I1 : Nat → Option Addr → Nat → Nat → Int → World → Prop,
 (∃ m, I1 m none 0 0 0 w) ∧
 (∀ (m2 : Nat) (w3 : World) (out4 : Option Addr) (out4n : Nat) (out4c : Nat) (i5 : Int), I1 m2 out4 out4n out4c i5 w3 →
 (bif (decide (i5 < ((l0n : Nat) : Int))) then
 (0 ≤ i5 ∧ i5 < ((l0n : Nat) : Int) ∧ optK l0 fun a6 =>
 ∃ cs7 : List Value, List.length cs7 = 69 ∧ Cells w3 (Addr.add a6 (Int.toNat i5 * 69)) cs7 ∧
 Calls Tryd.prog 54 #[(.agg (List.toArray cs7))] w3 fun e8 w9 => ∃ (x10 : Option Addr) (x10n : Nat) (x10c : Nat), ∃ x11 : Bool, e8 = .returned (.tuple #[(.slice x10 x10n x10c), (.bool x11)]) ∧
 ∃ (x12 : Option Addr) (x12n : Nat) (x12c : Nat), (#[(.slice x10 x10n x10c), (.bool x11)] : Array Value)[0]? = some (.slice x12 x12n x12c) ∧
 ∃ x13 : Bool, (#[(.slice x10 x10n x10c), (.bool x11)] : Array Value)[1]? = some (.bool x13) ∧
 ∃ J14 : Bool → World → Prop,
 ((bif x13 then
 (0 ≤ i5 ∧ i5 < ((l0n : Nat) : Int) ∧ optK l0 fun a15 =>
 ∃ x16 : Int, World.cell? w9 (Addr.add (Addr.add a15 (Int.toNat i5 * 69)) 0) = some (.int .i64 x16) ∧
 J14 (!decide (x16 = 0)) w9)
 else
 (J14 false w9))) ∧
 (∀ (w17 : World) (x18 : Bool), J14 x18 w17 →
 (bif x18 then
 (∃ cs19, fillL (.elems 1) (zrep (zc Tryd.prog 22) (1 * 1)) [(0, (.slice x12 x12n x12c))] = some cs19 ∧
 ∀ w20 : World, w20 = World.alloc w17 (.cells (List.toArray cs19) 22) →
 RunV Tryd.prog (Builtin.append_ #[78, 78] 78 #[(.slice out4 out4n out4c), (.slice (some ⟨World.heap w17 |>.size, 0, none⟩) 1 1)]) w20 fun v21 w22 => ∃ (x23 : Option Addr) (x23n : Nat) (x23c : Nat), v21 = (.slice x23 x23n x23c) ∧
 ∃ m24, m24 < m2 ∧ I1 m24 x23 x23n x23c (IntKind.wrap .i64 (i5 + 1)) w22)
 else
 (∃ m25, m25 < m2 ∧ I1 m25 out4 out4n out4c (IntKind.wrap .i64 (i5 + 1)) w17))))
 else
 (R (.returned (.slice out4 out4n out4c)) w3)))
theorem e38 (l0 : Option Addr) (l0n : Nat) (l0c : Nat) (w : World) (R : Ending → World → Prop) : denS Tryd.prog s38 (argsEnv 0 [(.slice l0 l0n l0c)]) w (endK r38 R) = d38 l0 l0n l0c w R := by kernel_rfl
theorem c38 (l0 : Option Addr) (l0n : Nat) (l0c : Nat) {w : World} {R : Ending → World → Prop} (h : d38 l0 l0n l0c w R) : Calls Tryd.prog 38 #[(.slice l0 l0n l0c)] w R :=
  den38 [(.slice l0 l0n l0c)] w R (by simp) ((e38 l0 l0n l0c w R).symm ▸ h)

/-- prelude/preludelaw24.collide -/
def s37 : S := (.seq (.ops [⟨(some 2), (.mv (.const (.bool false))), .bool, none⟩] [0])
 (.seq (.ops [⟨(some 3), (.mv (.const (.slice none 0 0))), .sl, none⟩] [0, 3])
 (.seq (.seq (.ops [⟨(some 4), (.mv (.const (.int .i64 0))), (.int .i64), none⟩] [4, 0, 3])
 (.block 0
 (.loop [(3, .sl), (4, (.int .i64))] [0]
 (.seq (.seq (.ops [⟨(some 7), (.mv (.tmp 4)), (.int .i64), none⟩,
  ⟨(some 8), (.mv (.tmp 0)), .sl, none⟩,
  ⟨(some 9), (.len (.tmp 8)), (.int .i64), none⟩,
  ⟨(some 10), (.bin .lss (.tmp 7) (.tmp 9)), .bool, none⟩] [10, 0, 4, 3])
 (.cond (.tmp 10)
 .skip
 (.exit 0)))
 (.seq (.block 1
 (.seq (.ops [⟨(some 13), (.mv (.tmp 0)), .sl, none⟩,
  ⟨(some 14), (.mv (.tmp 4)), (.int .i64), none⟩,
  ⟨(some 15), (.ia 1 (.tmp 13) (.tmp 14)), .ptr, none⟩,
  ⟨(some 16), (.ld1 (.tmp 15)), .sl, none⟩,
  ⟨(some 17), (.call 13 [(.tmp 16)] [.agg]), .agg, none⟩,
  ⟨(some 5), (.alloc 24), .ptr, none⟩,
  ⟨none, (.stN 32 (.tmp 5) (.tmp 17)), .any, none⟩] [5, 4, 3, 0])
 (.seq (.seq (.ops [⟨(some 18), (.ldN 32 (.tmp 5)), .agg, none⟩,
  ⟨(some 19), (.bld 24 (.elems 1) []), .agg, none⟩,
  ⟨(some 20), (.eqG .eql 24 (.tmp 18) (.tmp 19)), .bool, none⟩] [20, 4, 3, 5, 0])
 (.cond (.tmp 20)
 (.seq (.ops [⟨(some 2), (.mv (.const (.bool true))), .bool, none⟩] [2])
 .ret)
 .skip))
 (.seq (.seq (.ops [⟨(some 6), (.mv (.const (.int .i64 0))), (.int .i64), none⟩] [6, 4, 3, 5, 0])
 (.block 2
 (.loop [(6, (.int .i64))] [0, 3, 4, 5]
 (.seq (.seq (.ops [⟨(some 21), (.mv (.tmp 6)), (.int .i64), none⟩,
  ⟨(some 22), (.mv (.tmp 4)), (.int .i64), none⟩,
  ⟨(some 23), (.bin .lss (.tmp 21) (.tmp 22)), .bool, none⟩] [23, 3, 6, 5, 0, 4])
 (.cond (.tmp 23)
 .skip
 (.exit 2)))
 (.seq (.block 3
 (.seq (.draw (.take 0 ⟨(some 26), (.mv (.tmp 3)), .sl, none⟩
  (.take 1 ⟨(some 27), (.mv (.tmp 6)), (.int .i64), none⟩
  (.take 2 ⟨(some 28), (.ia 32 (.tmp 26) (.tmp 27)), .ptr, none⟩
  (.take 3 ⟨(some 29), (.ldN 32 (.tmp 28)), .agg, none⟩
  (.take 4 ⟨(some 30), (.ldN 32 (.tmp 5)), .agg, none⟩
  (.take 5 ⟨(some 31), (.eqG .eql 24 (.tmp 29) (.tmp 30)), .bool, none⟩
  (.take 6 ⟨(some 32), (.mv (.tmp 31)), .bool, none⟩
  (.take 7 ⟨(some 33), (.mv (.tmp 0)), .sl, (some (32, true))⟩
  (.take 8 ⟨(some 34), (.mv (.tmp 4)), (.int .i64), (some (32, true))⟩
  (.take 9 ⟨(some 35), (.ia 1 (.tmp 33) (.tmp 34)), .ptr, (some (32, true))⟩
  (.take 10 ⟨(some 36), (.ld1 (.tmp 35)), .sl, (some (32, true))⟩
  (.take 11 ⟨(some 37), (.mv (.tmp 0)), .sl, (some (32, true))⟩
  (.take 12 ⟨(some 38), (.mv (.tmp 6)), (.int .i64), (some (32, true))⟩
  (.take 13 ⟨(some 39), (.ia 1 (.tmp 37) (.tmp 38)), .ptr, (some (32, true))⟩
  (.take 14 ⟨(some 40), (.ld1 (.tmp 39)), .sl, (some (32, true))⟩
  (.go 15 ⟨(some 41), (.call 14 [(.tmp 36), (.tmp 40)] [.bool]), .bool, (some (32, true))⟩ []
  (.take 16 ⟨(some 42), (.un .not (.tmp 41)), .bool, (some (32, true))⟩
  (.take 17 ⟨(some 43), (.pick (.tmp 32) (.tmp 42) (.const (.bool false))), .bool, none⟩
  .done)))))))))))))))))) [43, 6, 4, 3, 5, 0])
 (.cond (.tmp 43)
 (.seq (.ops [⟨(some 2), (.mv (.const (.bool true))), .bool, none⟩] [2])
 .ret)
 .skip)))
 (.ops [⟨(some 24), (.mv (.tmp 6)), (.int .i64), none⟩,
  ⟨(some 25), (.bin .add (.tmp 24) (.const (.int .i64 1))), (.int .i64), none⟩,
  ⟨(some 6), (.mv (.tmp 25)), (.int .i64), none⟩] [6, 4, 3, 5, 0]))))))
 (.ops [⟨(some 44), (.mv (.tmp 3)), .sl, none⟩,
  ⟨(some 45), (.ldN 32 (.tmp 5)), .agg, none⟩,
  ⟨(some 46), (.bldS 24 1 32 [(0, (.tmp 45))]), .sl, none⟩,
  ⟨(some 47), (.app #[126, 126] 126 (.tmp 44) (.tmp 46)), .sl, none⟩,
  ⟨(some 3), (.mv (.tmp 47)), .sl, none⟩] [4, 0, 3])))))
 (.ops [⟨(some 11), (.mv (.tmp 4)), (.int .i64), none⟩,
  ⟨(some 12), (.bin .add (.tmp 11) (.const (.int .i64 1))), (.int .i64), none⟩,
  ⟨(some 4), (.mv (.tmp 12)), (.int .i64), none⟩] [4, 0, 3]))))))
 (.seq (.ops [⟨(some 2), (.mv (.const (.bool false))), .bool, none⟩] [2])
 .ret))))
def r37 : List Res := [.t 2]
theorem tr37 : trS Tryd.prog [] 48 (Tryd.f37.body.getD .skip) s37 = some s37 := by kernel_rfl
theorem den37 (args : List Value) (w : World) (R : Ending → World → Prop) (hn : args.length ≤ 48) (h : denS Tryd.prog s37 (argsEnv 0 args) w (endK r37 R)) : Calls Tryd.prog 37 args.toArray w R :=
  calls_of_den (pn := []) (fn := Tryd.f37) (c := Tryd.f37.body.getD .skip) Tryd.func37 (by kernel_rfl) (by rw [Tryd.ntmps37]; exact hn) (by rw [Tryd.ntmps37]; exact tr37) (by kernel_rfl) h
def d37 (l0 : Option Addr) (l0n : Nat) (l0c : Nat) (w : World) (R : Ending → World → Prop) : Prop :=
 ∃ I1 : Nat → Option Addr → Nat → Nat → Int → World → Prop,
 (∃ m, I1 m none 0 0 0 w) ∧
 (∀ (m2 : Nat) (w3 : World) (d4 : Option Addr) (d4n : Nat) (d4c : Nat) (i5 : Int), I1 m2 d4 d4n d4c i5 w3 →
 (bif (decide (i5 < ((l0n : Nat) : Int))) then
 (0 ≤ i5 ∧ i5 < ((l0n : Nat) : Int) ∧ optK l0 fun a6 =>
 ∃ (x7 : Option Addr) (x7n : Nat) (x7c : Nat), World.cell? w3 (Addr.add a6 (Int.toNat i5 * 1)) = some (.slice x7 x7n x7c) ∧
 Calls Tryd.prog 13 #[(.slice x7 x7n x7c)] w3 fun e8 w9 => ∃ x10 : Array Value, e8 = .returned (.agg x10) ∧
 ∀ w11 : World, w11 = World.alloc w9 (.cells (zc Tryd.prog 24).toArray 24) →
 Array.size x10 = 32 ∧ (∀ u ∈ Array.toList x10, one u = true) ∧ Room w11 ⟨World.heap w9 |>.size, 0, none⟩ 32 ∧
 ∀ w12 : World, w12 = setCells w11 ⟨World.heap w9 |>.size, 0, none⟩ (Array.toList x10) 0 →
 ∃ cs13 : List Value, List.length cs13 = 32 ∧ Cells w12 ⟨World.heap w9 |>.size, 0, none⟩ cs13 ∧
 ∃ cs14, fillL (.elems 1) (zc Tryd.prog 24) [] = some cs14 ∧
 ∃ q15 : Bool, Sem.run Tryd.prog (do eqGuard .eql 24 (.tmp 18) (.tmp 19) (.agg (List.toArray cs13)) (.agg (List.toArray cs14)); binOp .eql 24 (.agg (List.toArray cs13)) (.agg (List.toArray cs14))) w12 = .ok (.bool q15) w12 ∧
 (bif q15 then
 (R (.returned (.bool true)) w12)
 else
 (∃ I16 : Nat → Int → World → Prop,
 (∃ m, I16 m 0 w12) ∧
 (∀ (m17 : Nat) (w18 : World) (k19 : Int), I16 m17 k19 w18 →
 (bif (decide (k19 < i5)) then
 (∀ w20 : World, w20 = World.drew w18 →
 0 ≤ k19 ∧ k19 < ((d4n : Nat) : Int) ∧ optK d4 fun a21 =>
 ∃ cs22 : List Value, List.length cs22 = 32 ∧ Cells w20 (Addr.add a21 (Int.toNat k19 * 32)) cs22 ∧
 ∃ cs23 : List Value, List.length cs23 = 32 ∧ Cells w20 ⟨World.heap w9 |>.size, 0, none⟩ cs23 ∧
 ∃ q24 : Bool, Sem.run Tryd.prog (do eqGuard .eql 24 (.tmp 29) (.tmp 30) (.agg (List.toArray cs22)) (.agg (List.toArray cs23)); binOp .eql 24 (.agg (List.toArray cs22)) (.agg (List.toArray cs23))) w20 = .ok (.bool q24) w20 ∧
 (bif q24 then
 (0 ≤ i5 ∧ i5 < ((l0n : Nat) : Int) ∧ optK l0 fun a25 =>
 ∃ (x26 : Option Addr) (x26n : Nat) (x26c : Nat), World.cell? w20 (Addr.add a25 (Int.toNat i5 * 1)) = some (.slice x26 x26n x26c) ∧
 0 ≤ k19 ∧ k19 < ((l0n : Nat) : Int) ∧ optK l0 fun a27 =>
 ∃ (x28 : Option Addr) (x28n : Nat) (x28c : Nat), World.cell? w20 (Addr.add a27 (Int.toNat k19 * 1)) = some (.slice x28 x28n x28c) ∧
 Calls Tryd.prog 14 #[(.slice x26 x26n x26c), (.slice x28 x28n x28c)] w20 fun e29 w30 => ∃ x31 : Bool, e29 = .returned (.bool x31) ∧
 (bif (!x31) then
 (R (.returned (.bool true)) w30)
 else
 (∃ m32, m32 < m17 ∧ I16 m32 (IntKind.wrap .i64 (k19 + 1)) w30)))
 else
 (∃ m33, m33 < m17 ∧ I16 m33 (IntKind.wrap .i64 (k19 + 1)) w20)))
 else
 (∃ cs34 : List Value, List.length cs34 = 32 ∧ Cells w18 ⟨World.heap w9 |>.size, 0, none⟩ cs34 ∧
 ∃ cs35, fillL (.elems 32) (zrep (zc Tryd.prog 24) (1 * 32)) [(0, (.agg (List.toArray cs34)))] = some cs35 ∧
 ∀ w36 : World, w36 = World.alloc w18 (.cells (List.toArray cs35) 24) →
 RunV Tryd.prog (Builtin.append_ #[126, 126] 126 #[(.slice d4 d4n d4c), (.slice (some ⟨World.heap w18 |>.size, 0, none⟩) 1 1)]) w36 fun v37 w38 => ∃ (x39 : Option Addr) (x39n : Nat) (x39c : Nat), v37 = (.slice x39 x39n x39c) ∧
 ∃ m40, m40 < m2 ∧ I1 m40 x39 x39n x39c (IntKind.wrap .i64 (i5 + 1)) w38))))))
 else
 (R (.returned (.bool false)) w3)))
theorem e37 (l0 : Option Addr) (l0n : Nat) (l0c : Nat) (w : World) (R : Ending → World → Prop) : denS Tryd.prog s37 (argsEnv 0 [(.slice l0 l0n l0c)]) w (endK r37 R) = d37 l0 l0n l0c w R := by kernel_rfl
theorem c37 (l0 : Option Addr) (l0n : Nat) (l0c : Nat) {w : World} {R : Ending → World → Prop} (h : d37 l0 l0n l0c w R) : Calls Tryd.prog 37 #[(.slice l0 l0n l0c)] w R :=
  den37 [(.slice l0 l0n l0c)] w R (by simp) ((e37 l0 l0n l0c w R).symm ▸ h)

end Go.Proofs.YtjkbjppopdfggaaDoor.Fn
namespace Go.Proofs.YtjkbjppopdfggaaDoor.Tre
open Go Den Fn Sha
open Go.RowKit (Below)
open Classical
set_option maxRecDepth 8000
set_option maxHeartbeats 4000000
theorem mLeafNode (v : Value) (w : World) : Sem.run Tryd.prog (method (Tryd.prog.types.size + Made.depth) 146 v "prelude/proof.node") w = .ok (110, v) w := by kernel_rfl
theorem mForkNode (v : Value) (w : World) : Sem.run Tryd.prog (method (Tryd.prog.types.size + Made.depth) 151 v "prelude/proof.node") w = .ok (114, v) w := by kernel_rfl
theorem mLeafToward (v : Value) (w : World) : Sem.run Tryd.prog (method (Tryd.prog.types.size + Made.depth) 146 v "prelude/proof.toward") w = .ok (112, v) w := by kernel_rfl
theorem mForkToward (v : Value) (w : World) : Sem.run Tryd.prog (method (Tryd.prog.types.size + Made.depth) 151 v "prelude/proof.toward") w = .ok (116, v) w := by kernel_rfl
theorem leafN_fill {x : Rw} : fillL (.fields [(0, 1), (1, 1), (2, 32), (34, 32), (66, 3)]) Nd.zero.cells [(0, .int .i64 1), (4, .agg (rwC x).toArray)] = some (Tr.leaf x).node.cells := by
  rfl
theorem cell_ones {m : Nd} : ∀ u ∈ m.cells, one u = true := by
  intro u hu
  rw [Nd.cells] at hu
  simp only [List.mem_append, List.mem_cons, List.mem_map, List.not_mem_nil, or_false] at hu
  rcases hu with (((rfl | rfl) | ⟨_, _, rfl⟩) | ⟨_, _, rfl⟩) | rfl | rfl | rfl <;> rfl
theorem cells_len {m : Nd} (hl : m.left.length = 32) (hr : m.right.length = 32) : m.cells.length = 69 := by simp [Nd.cells, hl, hr]
theorem leafNode_c (w : World) (b : Nat) (x : Rw) (d : List Int) (hb : Blk w b (rwC x ++ u8 d)) : Calls Tryd.prog 110 #[.pointer (some ⟨b, 0, none⟩)] w fun e w' => e = .returned (.agg (Tr.leaf x).node.cells.toArray) ∧ Tch [] w w' := by
  refine c110 _ ?_
  unfold d110
  rintro w1 rfl
  have hO := Blk.fresh w (cs := zc Tryd.prog 33) 33 zcNd
  have ht := (Tch.refl [] w).alloc (.cells (zc Tryd.prog 33).toArray 33)
  have s1 := size_alloc w (.cells (zc Tryd.prog 33).toArray 33)
  generalize w.alloc (.cells (zc Tryd.prog 33).toArray 33) = w1 at *
  refine get_part (hb.tch ht (by simp)) 0 3 (rwC x) rfl rfl ?_
  refine ⟨_, by rw [zcNd]; exact leafN_fill, ?_⟩
  refine put_all (n := 69) hO rfl rfl cell_ones fun w4 k t _ => ?_
  exact get_all k rfl ⟨rfl, ht.trans t (by simp)⟩
theorem forkNode_c {F : Nat → Prop} (w : World) (b n : Nat) (l r : Tr) (vl vr : Value) (Ll Lr : List (List Int × Value)) (d : List Int) (hb : Blk w b ([.int .i64 (n : Int), vl, vr] ++ u8 d)) (hl : PartAt F w vl l Ll) (hr : PartAt F w vr r Lr) : Calls Tryd.prog 114 #[.pointer (some ⟨b, 0, none⟩)] w fun e w' => e = .returned (.agg (Tr.fork n l r).node.cells.toArray) ∧ Tch [] w w' := by
  refine c114 _ ?_
  unfold d114
  rintro w1 rfl
  have hO := Blk.fresh w (cs := zc Tryd.prog 33) 33 zcNd
  have ht := (Tch.refl [] w).alloc (.cells (zc Tryd.prog 33).toArray 33)
  generalize w.alloc (.cells (zc Tryd.prog 33).toArray 33) = w1 at *
  rintro w2 rfl
  replace hO := hO.drew
  replace ht := ht.drew
  generalize w1.drew = w2 at *
  have hb2 := hb.tch ht (by simp)
  refine ⟨_, by rw [add_mk]; exact hb2.cell 0, vl, by rw [add_mk]; exact hb2.cell 1, vr, by rw [add_mk]; exact hb2.cell 2, ?_⟩
  refine digest_k (hl.tch ht (by simp)) fun w14 t14 => ?_
  have hb3 := hb2.tch t14 (by simp)
  refine ⟨⟨vr, by rw [add_mk]; exact hb3.cell 2, rfl, rfl⟩, ⟨_, by rw [add_mk]; exact hb3.cell 0, rfl, rfl⟩, ?_⟩
  refine digest_k ((hr.tch ht (by simp)).tch t14 (by simp)) fun w23 t23 => ?_
  have hb4 := hb3.tch t23 (by simp)
  refine ⟨⟨_, by rw [add_mk]; exact hb4.cell 0, rfl, rfl⟩, ?_⟩
  refine ⟨_, by rw [zcNd]; exact node_fill l.sum_len r.sum_len, ?_⟩
  have hlen : (Nd.mk 2 (n : Int) l.sum r.sum 0 0 0).cells.length = 69 := cells_len l.sum_len r.sum_len
  refine put_all (n := 69) ((hO.tch t14 (by simp)).tch t23 (by simp)) rfl hlen cell_ones fun w27 k t _ => ?_
  exact get_all k hlen ⟨rfl, ((ht.trans t14 (by simp)).trans t23 (by simp)).trans t (by simp)⟩
/-- node, through the interface. -/
theorem node_k {F : Nat → Prop} {w : World} {v : Value} {tr : Tr} {L : List (List Int × Value)} (h : PartAt F w v tr L) {K : Array Value → World → Prop} (hK : ∀ w', Tch [] w w' → K tr.node.cells.toArray w') :
    ∃ t u g r, v = .iface t u ∧ Sem.run Tryd.prog (method (Tryd.prog.types.size + Made.depth) t u "prelude/proof.node") w = .ok (g, r) w ∧ HasBody Tryd.prog g ∧ Calls Tryd.prog g (#[r] ++ #[]) w fun e w' => ∃ x : Array Value, e = .returned (.agg x) ∧ K x w' := by
  cases tr with
  | leaf x =>
    obtain ⟨b, rfl, _, hb, _⟩ := h
    refine ⟨_, _, _, _, rfl, mLeafNode _ w, hasBody_spec (by kernel_rfl), ?_⟩
    refine (leafNode_c w b x _ hb).mono ?_
    rintro e w' ⟨rfl, ht⟩
    exact ⟨_, rfl, hK w' ht⟩
  | fork n l r =>
    obtain ⟨b, vl, vr, Ll, Lr, rfl, _, hb, hl, hr, _⟩ := h
    refine ⟨_, _, _, _, rfl, mForkNode _ w, hasBody_spec (by kernel_rfl), ?_⟩
    refine (forkNode_c w b n l r vl vr Ll Lr _ hb hl hr).mono ?_
    rintro e w' ⟨rfl, ht⟩
    exact ⟨_, rfl, hK w' ht⟩
theorem toward_leaf {F : Nat → Prop} {w : World} {v : Value} {y : Rw} {L : List (List Int × Value)} (h : PartAt F w v (.leaf y) L) {a : Option Addr} {n c : Nat} {K : Value → Value → World → Prop} (hK : K .nilIface .nilIface w) :
    ∃ t u g r, v = .iface t u ∧ Sem.run Tryd.prog (method (Tryd.prog.types.size + Made.depth) t u "prelude/proof.toward") w = .ok (g, r) w ∧ HasBody Tryd.prog g ∧ Calls Tryd.prog g (#[r] ++ #[.slice a n c]) w fun e w' => ∃ x : Value, ∃ y : Value, e = .returned (.tuple #[x, y]) ∧ K x y w' := by
  obtain ⟨b, rfl, _, hb, _⟩ := h
  refine ⟨_, _, _, _, rfl, mLeafToward _ w, hasBody_spec (by kernel_rfl), ?_⟩
  show Calls _ _ #[.pointer (some ⟨b, 0, none⟩), .slice a n c] w _
  refine c112 _ _ _ _ ?_
  unfold d112
  exact ⟨_, _, rfl, hK⟩
theorem toward_fork {F : Nat → Prop} {w : World} {v : Value} {n : Nat} {l r : Tr} {L : List (List Int × Value)} (h : PartAt F w v (.fork n l r) L) (hn : n < 80) {a : Option Addr} {c : Nat} {kb : List Int} (hr : RSl w 1 a 10 c (u8 kb)) {K : Value → Value → World → Prop}
    (hK : ∀ vl vr Ll Lr w', Tch [] w w' → PartAt F w' vl l Ll → PartAt F w' vr r Lr → if bitS kb (n : Int) = 0 then K vl vr w' else K vr vl w') :
    ∃ t u g r, v = .iface t u ∧ Sem.run Tryd.prog (method (Tryd.prog.types.size + Made.depth) t u "prelude/proof.toward") w = .ok (g, r) w ∧ HasBody Tryd.prog g ∧ Calls Tryd.prog g (#[r] ++ #[.slice a 10 c]) w fun e w' => ∃ x : Value, ∃ y : Value, e = .returned (.tuple #[x, y]) ∧ K x y w' := by
  obtain ⟨b, vl, vr, Ll, Lr, rfl, _, hb, hl, hr', _⟩ := h
  refine ⟨_, _, _, _, rfl, mForkToward _ w, hasBody_spec (by kernel_rfl), ?_⟩
  show Calls _ _ #[.pointer (some ⟨b, 0, none⟩), .slice a 10 c] w _
  refine c116 _ _ _ _ ?_
  unfold d116
  refine ⟨(n : Int), by rw [add_mk]; exact hb.cell 0, ?_⟩
  refine (bit_c w a c kb (n : Int) hr ⟨by omega, by omega⟩).mono ?_
  rintro e w5 ⟨rfl, hw⟩
  rw [hw]
  refine ⟨_, rfl, ?_⟩
  have td := (Tch.refl [] w).drew
  have hk := hK vl vr Ll Lr w.drew td (hl.tch td (by simp)) (hr'.tch td (by simp))
  have hbd := hb.drew
  by_cases h0 : bitS kb (n : Int) = 0
  · rw [bif_pos h0]
    rintro w7 rfl
    rw [if_pos h0] at hk
    exact ⟨vl, by rw [add_mk]; exact hbd.cell 1, vr, by rw [add_mk]; exact hbd.cell 2, _, _, rfl, hk⟩
  · rw [bif_neg h0]
    rintro w7 rfl
    rw [if_neg h0] at hk
    exact ⟨vr, by rw [add_mk]; exact hbd.cell 2, vl, by rw [add_mk]; exact hbd.cell 1, _, _, rfl, hk⟩
/-! ### Root -/
noncomputable def rootS (l : List Rw) : List Int := if l = [] then z32 else (treeT l).sum
theorem rootS_len (l : List Rw) : (rootS l).length = 32 := by unfold rootS; split; rfl; exact Tr.sum_len _
theorem rootS_bytes (l : List Rw) : Bytes (rootS l) := by unfold rootS; split; exact z32_bytes; exact Tr.sum_bytes _
theorem root_c {F : Nat → Prop} (w : World) (tb : Nat) (l : List Rw) (h : TreeAt F w tb l) :
    Calls Tryd.prog 32 #[.pointer (some ⟨tb, 0, none⟩)] w fun e w' => e = .returned (.agg (u8 (rootS l)).toArray) ∧ Tch [] w w' := by
  refine c32 _ ?_
  unfold d32
  rintro w1 rfl
  have hO := Blk.fresh w (cs := zc Tryd.prog 24) 24 zcDig
  have ht := (Tch.refl [] w).alloc (.cells (zc Tryd.prog 24).toArray 24)
  generalize w.alloc (.cells (zc Tryd.prog 24).toArray 24) = w1 at *
  obtain ⟨pb, v, L, _, _, _, hb, _, h⟩ := TreeAt.tch h ht (by simp)
  refine ⟨v, by rw [add_mk]; exact hb.cell 0, ?_⟩
  have hd := rootS_len l
  rcases h with ⟨rfl, rfl, _⟩ | ⟨hne, hp⟩
  · show (∃ cs5, _)
    refine ⟨u8 z32, by rw [zcDig]; rfl, ?_⟩
    refine put_all (n := 32) hO rfl rfl ones_ints fun w6 k t _ => ?_
    exact get_all k rfl ⟨by unfold rootS; rw [if_pos rfl], ht.trans t (by simp)⟩
  have hnq : ∀ {K : Bool → Prop}, K false → nilQ 4 v K := fun {K} hK => by
    obtain ⟨q, h | h⟩ := hp.shape <;> rw [h] <;> exact hK
  refine hnq ?_
  refine ⟨v, by rw [add_mk]; exact hb.cell 0, ?_⟩
  refine digest_k hp fun w15 t15 => ?_
  have hs : (treeS l.length l).sum = rootS l := by unfold rootS; rw [if_neg hne]; rfl
  rw [hs]
  refine put_all (n := 32) (hO.tch t15 (by simp)) rfl (by rw [List.length_map]; exact hd) ones_ints fun w17 k t _ => ?_
  exact get_all k (by rw [List.length_map]; exact hd) ⟨rfl, (ht.trans t15 (by simp)).trans t (by simp)⟩
/-! ### Node -/
def NodeR (l : List Rw) (d : List Int) (e : Ending) : Prop :=
  if l = [] then e = .returned (.tuple #[.agg Nd.zero.cells.toArray, .bool (decide (d = z32))])
  else (e = .returned (.tuple #[.agg Nd.zero.cells.toArray, .bool false]) ∧ ∀ s ∈ (treeT l).subs, s.sum ≠ d) ∨ ∃ s ∈ (treeT l).subs, s.sum = d ∧ e = .returned (.tuple #[.agg s.node.cells.toArray, .bool true])
end Go.Proofs.YtjkbjppopdfggaaDoor.Tre
namespace Go.Proofs.YtjkbjppopdfggaaDoor.Tre
open Go Den Fn Sha
open Go.RowKit (Below)
open Classical
set_option maxRecDepth 8000
set_option maxHeartbeats 4000000
theorem zcFk2 : zc Tryd.prog 51 = .int .i64 0 :: u8 z32 := by kernel_rfl
theorem fkT : slT Tryd.prog 41 51 33 40 = true := by kernel_rfl
theorem zcPf2 : zc Tryd.prog 43 = pfC none 0 0 ⟨[], false, 0, 0, 0⟩ := by kernel_rfl
theorem fk_fill {n : Int} {d : List Int} (hd : d.length = 32) : fillL (.fields [(0, 1), (1, 32)]) (.int .i64 0 :: u8 z32) [(0, .int .i64 n), (1, .agg (u8 d).toArray)] = some (fkC ⟨n, d⟩) := by
  have e0 : fillL (.fields [(0, 1), (1, 32)]) (.int .i64 0 :: u8 z32) [(0, .int .i64 n), (1, .agg (u8 d).toArray)] = fillL (.fields [(0, 1), (1, 32)]) (.int .i64 n :: u8 z32) [(1, .agg (u8 d).toArray)] := rfl
  have sd : (Value.agg (u8 d).toArray).cells.size = 32 := by show (u8 d).toArray.size = 32; simpa using hd
  have := splice_mid (A := [Value.int .i64 n]) (M := u8 z32) (N := u8 d) (B := []) (by simp [hd, z32])
  rw [List.append_nil, List.append_nil, show ([Value.int .i64 n] : List Value).length = 1 from rfl] at this
  rw [e0]
  simp only [fillL, Place.at, List.getElem?_cons_succ, List.getElem?_cons_zero, sd]
  rw [if_pos ⟨trivial, by simp [z32]⟩]
  show some (splice _ 1 (u8 d)) = _
  rw [show (Value.int IntKind.i64 n :: u8 z32) = [Value.int .i64 n] ++ u8 z32 from rfl, this]
  rfl
theorem fkCs_one {l : List Fk} : ∀ u ∈ rows fkC l, one u = true := fun u hu => by
  unfold rows at hu
  obtain ⟨v, hv, hu⟩ := List.mem_flatten.1 hu
  obtain ⟨x, _, rfl⟩ := List.mem_map.1 hv
  rcases List.mem_cons.1 hu with rfl | hu
  · rfl
  · exact ones_ints u hu
theorem fkC_one {f : Fk} : ∀ u ∈ fkC f, one u = true := fun u hu => fkCs_one (l := [f]) u (by rw [rows_one]; exact hu)
theorem toward_way {F : Nat → Prop} {w : World} {v : Value} {n : Nat} {l r : Tr} {L : List (List Int × Value)} (h : PartAt F w v (.fork n l r) L) (hn : n < 80) {a : Option Addr} {c : Nat} {kb : List Int} (hr : RSl w 1 a 10 c (u8 kb)) {K : Value → Value → World → Prop}
    (hK : ∀ tx to vx vo Lx Lo w', Tch [] w w' → PartAt F w' vx tx Lx → PartAt F w' vo to Lo → (bitS kb (n : Int) = 0 ∧ tx = l ∧ to = r) ∨ (bitS kb (n : Int) ≠ 0 ∧ tx = r ∧ to = l) → K vx vo w') :
    ∃ t u g r, v = .iface t u ∧ Sem.run Tryd.prog (method (Tryd.prog.types.size + Made.depth) t u "prelude/proof.toward") w = .ok (g, r) w ∧ HasBody Tryd.prog g ∧ Calls Tryd.prog g (#[r] ++ #[.slice a 10 c]) w fun e w' => ∃ x : Value, ∃ y : Value, e = .returned (.tuple #[x, y]) ∧ K x y w' :=
  toward_fork h hn hr fun vl vr Ll Lr w' ht hl hr' => by
    by_cases h0 : bitS kb (n : Int) = 0
    · rw [if_pos h0]; exact hK l r vl vr Ll Lr w' ht hl hr' (.inl ⟨h0, rfl, rfl⟩)
    · rw [if_neg h0]; exact hK r l vr vl Lr Ll w' ht hr' hl (.inr ⟨h0, rfl, rfl⟩)
/-- What Prove hands back. -/
def ProveR (w : World) (l : List Rw) (k : Int × Int) (e : Ending) (w' : World) : Prop := Tch [] w w' ∧
  if Lib.KeyOk k.1 then ∃ a c, e = .returned (.tuple #[.agg (pfC a (proofS (Sha.keyB k.1 k.2) l).fs.length c (proofS (Sha.keyB k.1 k.2) l)).toArray, .int .i64 0]) ∧ w'.ownsRow w.heap.size 51 33 (.slice a (proofS (Sha.keyB k.1 k.2) l).fs.length c) (proofS (Sha.keyB k.1 k.2) l).fs.length (rows fkC (proofS (Sha.keyB k.1 k.2) l).fs)
  else e = .returned (.tuple #[.agg (pfC none 0 0 ⟨[], false, 0, 0, 0⟩).toArray, .int .i64 20])
/-- The walk's state. -/
structure PI (F : Nat → Prop) (w : World) (ob pb : Nat) (kb : List Int) (ka : Option Addr) (kc : Nat) (u : World) (fs : List Fk) (xa : Option Addr) (xc : Nat) : Prop where
  out : Blk u ob (pfC none 0 0 ⟨[], false, 0, 0, 0⟩)
  prf : Blk u pb (pfC xa fs.length xc ⟨fs, false, 0, 0, 0⟩)
  own : u.ownsRow (pb + 1) 51 33 (.slice xa fs.length xc) fs.length (rows fkC fs)
  key : RSl u 1 ka 10 kc (u8 kb)
  kof : ∀ z, ka = some z → z.block < pb
  tch : Tch [] w u
  ok : ∀ f ∈ fs, f.ok
  lo : w.heap.size ≤ ob ∧ ob < pb ∧ pb < u.heap.size
theorem PI.quiet {F : Nat → Prop} {w u u' : World} {ob pb kc : Nat} {kb : List Int} {ka xa : Option Addr} {fs : List Fk} {xc : Nat} (h : PI F w ob pb kb ka kc u fs xa xc) (ht : Tch [] u u') : PI F w ob pb kb ka kc u' fs xa xc :=
  ⟨h.out.tch ht (by simp), h.prf.tch ht (by simp), own_up h.own ht (fun _ _ h => by cases h), h.key.tch ht (fun _ _ h => by cases h), h.kof, h.tch.trans ht (by simp), h.ok, h.lo.1, h.lo.2.1, by have := ht.size; have := h.lo.2.2; omega⟩
theorem prove_c {F : Nat → Prop} (w : World) (tb : Nat) (l : List Rw) (h : TreeAt F w tb l) (hR : RowsOk l) (hF : ∀ z, F z → z < w.heap.size) (hN : l.length ≤ 1000000000000) (k : Int × Int) :
    Calls Tryd.prog 39 #[.pointer (some ⟨tb, 0, none⟩), .agg (Lib.kC k).toArray] w (ProveR w l k) := by
  refine c39 _ _ ?_
  unfold d39
  rintro w2 rfl
  have hK : Blk _ _ (Lib.kC k) := Blk.fresh w (cs := Lib.kC k) 29 rfl
  have ht := (Tch.refl [] w).alloc (.cells (Lib.kC k).toArray 29)
  have s2 := size_alloc w (.cells (Lib.kC k).toArray 29)
  generalize w.alloc (.cells (Lib.kC k).toArray 29) = w2 at *
  rintro w3 rfl
  have hO := Blk.fresh w2 (cs := zc Tryd.prog 43) 43 zcPf2
  have q3 := (Tch.refl [] w2).alloc (.cells (zc Tryd.prog 43).toArray 43)
  have s3 := size_alloc w2 (.cells (zc Tryd.prog 43).toArray 43)
  replace hK := hK.tch q3 (by simp)
  replace ht := ht.trans q3 (by simp)
  clear q3
  generalize w2.alloc (.cells (zc Tryd.prog 43).toArray 43) = w3 at *
  obtain ⟨ob, hob⟩ : ∃ ob, w2.heap.size = ob := ⟨_, rfl⟩
  rw [hob] at hO s3 ⊢
  refine get_all hK rfl ?_
  refine (Lib.bytes_c k.1 k.2 w3).mono ?_
  intro e w6 hby
  by_cases hk : Lib.KeyOk k.1
  rotate_left
  · rw [if_neg hk] at hby
    obtain ⟨rfl, t6⟩ := hby
    refine ⟨_, _, _, _, rfl, _, _, _, rfl, _, rfl, ?_⟩
    rw [bif_nneg (by omega)]
    refine ⟨pfC none 0 0 ⟨[], false, 0, 0, 0⟩, by rw [zcPf2]; rfl, ?_⟩
    refine put_all (n := 5) (hO.tch t6 (by simp)) rfl rfl (by simp [one]) fun w12 k12 t12 _ => ?_
    refine get_all k12 rfl ⟨(ht.trans t6 (by simp)).trans t12 (by simp; omega), ?_⟩
    rw [if_neg hk]
  rw [if_pos hk] at hby
  obtain ⟨ka, kc, rfl, hob6, t6⟩ := hby
  refine ⟨_, _, _, _, rfl, _, _, _, rfl, _, rfl, ?_⟩
  rw [bif_npos rfl]
  have s6 := t6.size
  have hkr := own_rsl hob6 ones_ints
  have hkof : ∀ z, ka = some z → z.block < w6.heap.size := fun z hz => (own_ge hob6 z hz).2
  rintro w14 rfl
  have hP := Blk.fresh w6 (cs := zc Tryd.prog 43) 43 zcPf2
  have q14 := (Tch.refl [] w6).alloc (.cells (zc Tryd.prog 43).toArray 43)
  have s14 := size_alloc w6 (.cells (zc Tryd.prog 43).toArray 43)
  generalize w6.alloc (.cells (zc Tryd.prog 43).toArray 43) = w14 at *
  obtain ⟨pb, hpb⟩ : ∃ pb, w6.heap.size = pb := ⟨_, rfl⟩
  rw [hpb] at hP s14 ⊢
  rw [hpb] at hkof s6
  have t14 := (ht.trans t6 (by simp)).trans q14 (by simp)
  replace hO := (hO.tch t6 (by simp)).tch q14 (by simp)
  have hI : PI F w ob pb (Sha.keyB k.1 k.2) ka kc w14 [] none 0 := ⟨hO, hP, own_nil _ _ _ _, hkr.tch q14 (fun _ _ h => by cases h), hkof, t14, by simp, by omega, by omega, by omega⟩
  generalize hkb : Sha.keyB k.1 k.2 = kb at *
  have h14 := TreeAt.tch h t14 (by simp)
  clear hO hP hK ht hkr hkof q14
  obtain ⟨tpb, v, L, hFt, _, _, hb, _, hv⟩ := h14
  refine ⟨v, by rw [add_mk]; exact hb.cell 0, ?_⟩
  refine ⟨fun m at' u => ∃ fs xa xc, PI F w ob pb kb ka kc u fs xa xc ∧ ((l = [] ∧ at' = .nilIface ∧ fs = []) ∨ (l ≠ [] ∧ ∃ tr Lt, PartAt F u at' tr Lt ∧ tr.ok ∧ m = tr.rows.length ∧ fs.length + m ≤ l.length ∧ fs ++ (proveS kb tr).1 = (proveS kb (treeT l)).1 ∧ (proveS kb tr).2 = (proveS kb (treeT l)).2)), ?_, ?_⟩
  · rcases hv with ⟨h1, h2, _⟩ | ⟨h1, h2⟩
    · exact ⟨0, [], none, 0, hI, .inl ⟨h1, h2, rfl⟩⟩
    · have hrw : (treeS l.length l).rows = l := treeS_rows (Nat.le_refl _) (List.length_pos_iff.2 h1) hR
      exact ⟨l.length, [], none, 0, hI, .inr ⟨h1, _, L, h2, treeT_ok (Nat.le_refl _) (List.length_pos_iff.2 h1) hR, by rw [hrw], by simp, rfl, rfl⟩⟩
  clear hI hb hv hFt
  rintro m w19 at' ⟨fs, xa, xc, hI, hc⟩
  rcases hc with ⟨hnil, rfl, rfl⟩ | ⟨hne, tr, Lt, hp, hok, rfl, hlen, hfs, hlast⟩
  · show (∃ cs71, _)
    refine get_all hI.prf rfl ?_
    refine put_all (n := 5) hI.out rfl rfl (by simp [one]) fun w72 k72 t72 _ => ?_
    refine get_all k72 rfl ⟨hI.tch.trans t72 (by have := hI.lo.1; simp; omega), ?_⟩
    rw [if_pos hk]
    have e : proofS kb l = ⟨[], false, 0, 0, 0⟩ := by unfold proofS; rw [if_pos hnil]
    rw [hkb, e]
    have hbs : w.heap.size ≤ pb + 1 := by have := hI.lo; omega
    exact ⟨xa, xc, rfl, own_base (own_up hI.own t72 (fun kk hkk hm => by have := (own_lt hI.own hkk).1; have := hI.lo; simp at hm; omega)) hbs⟩
  have hnq : ∀ {v : Value} {tr : Tr} {u : World} {L : List (List Int × Value)} {K : Bool → Prop}, PartAt F u v tr L → K false → nilQ 4 v K := fun {v tr u L K} hp hK => by
    obtain ⟨q, h | h⟩ := hp.shape <;> rw [h] <;> exact hK
  refine hnq hp ?_
  show (∃ t22, _)
  refine node_k hp fun w27 t27 => ?_
  have hnl : tr.node.cells.length = 69 := by
    cases tr with
    | leaf x => rfl
    | fork n l r => exact cells_len l.sum_len r.sum_len
  replace hI := hI.quiet t27
  replace hp := hp.tch t27 (by simp)
  have s27 := hI.lo.2.2
  refine var_init (n := 69) (by rw [zcNd]; rfl) hnl cell_ones fun w29 w30 hN30 t30 s30 => ?_
  obtain ⟨nb, hnb⟩ : ∃ nb, w27.heap.size = nb := ⟨_, rfl⟩
  rw [hnb] at hN30 s30 s27 ⊢
  replace hI := hI.quiet t30
  replace hp := hp.tch t30 (by simp)
  clear t27 t30
  have hbs : w.heap.size ≤ pb + 1 := by have := hI.lo; omega
  cases tr with
  | leaf y =>
    refine toward_leaf hp ?_
    refine ⟨_, rfl, _, rfl, ?_⟩
    show ∀ w42 : World, _
    rintro w42 rfl
    have td := (Tch.refl [] w30).drew
    replace hI := hI.quiet td
    replace hN30 := hN30.tch td (by simp)
    clear td
    generalize w30.drew = w42 at *
    refine get_part hN30 66 3 (rwC y) rfl rfl ?_
    refine put_cell hI.prf 1 (by simp) rfl fun w44 k44 t44 s44 => ?_
    have hn44 := hN30.tch t44 (by have := hI.lo; simp; omega)
    refine ⟨get_part hn44 66 3 (rwC y) rfl rfl ⟨rfl, rfl⟩, ?_⟩
    refine put_part k44 2 (by simp) rfl rwC_one fun w46 k46 t46 s46 => ?_
    have k46' : Blk w46 pb (pfC xa fs.length xc ⟨fs, true, y.t, y.r, y.v⟩) := k46
    refine get_all k46' rfl ?_
    have ho46 := (hI.out.tch t44 (by have := hI.lo; simp; omega)).tch t46 (by have := hI.lo; simp; omega)
    refine put_all (n := 5) ho46 rfl rfl (by simp [one]) fun w48 k48 t48 _ => ?_
    have hlo := hI.lo
    refine get_all k48 rfl ⟨((hI.tch.trans t44 (by simp; omega)).trans t46 (by simp; omega)).trans t48 (by simp; omega), ?_⟩
    rw [if_pos hk]
    have e1 : fs = (proveS kb (treeT l)).1 := by rw [← hfs]; simp [proveS]
    have e2 : y = (proveS kb (treeT l)).2 := by rw [← hlast]; rfl
    have e : proofS kb l = ⟨fs, true, y.t, y.r, y.v⟩ := by unfold proofS; rw [if_neg hne, ← e1, ← e2]
    rw [hkb, e]
    have off : ∀ {u u' : World} {s : List Nat}, (∀ z ∈ s, z ≤ pb) → ∀ kk, (Value.slice xa fs.length xc).ownBlock = some kk → kk ∉ s := fun {u u' s} hs kk hkk hm => by
      have := (own_lt hI.own hkk).1
      have := hs kk hm
      omega
    exact ⟨xa, xc, rfl, own_base (own_up (own_up (own_up hI.own t44 (off (u := w) (u' := w) (by simp))) t46 (off (u := w) (u' := w) (by simp))) t48 (off (u := w) (u' := w) (by simp; omega))) hbs⟩
  | fork n lt rt =>
    refine toward_way hp hok.1 hI.key fun tx to vx vo Lx Lo w36 t36 hx ho hcase => ?_
    have hrl : (Tr.fork n lt rt).rows.length = lt.rows.length + rt.rows.length := by show (lt.rows ++ rt.rows).length = _; rw [List.length_append]
    have hlp := (proveS_ok (kb := kb) hok.2.1).2.2
    have hrp := (proveS_ok (kb := kb) hok.2.2).2.2
    have hstep : tx.ok ∧ tx.rows.length < (Tr.fork n lt rt).rows.length ∧ fs ++ (⟨(n : Int), to.sum⟩ :: (proveS kb tx).1) = (proveS kb (treeT l)).1 ∧ (proveS kb tx).2 = (proveS kb (treeT l)).2 := by
      rcases hcase with ⟨h0, rfl, rfl⟩ | ⟨h0, rfl, rfl⟩
      · have e : proveS kb (.fork n tx to) = if bitS kb (n : Int) = 0 then (⟨(n : Int), to.sum⟩ :: (proveS kb tx).1, (proveS kb tx).2) else (⟨(n : Int), tx.sum⟩ :: (proveS kb to).1, (proveS kb to).2) := rfl
        rw [e, if_pos h0] at hfs hlast
        exact ⟨hok.2.1, by omega, hfs, hlast⟩
      · have e : proveS kb (.fork n to tx) = if bitS kb (n : Int) = 0 then (⟨(n : Int), tx.sum⟩ :: (proveS kb to).1, (proveS kb to).2) else (⟨(n : Int), to.sum⟩ :: (proveS kb tx).1, (proveS kb tx).2) := rfl
        rw [e, if_neg h0] at hfs hlast
        exact ⟨hok.2.2, by omega, hfs, hlast⟩
    obtain ⟨htx, hlt, hfs', hlast'⟩ := hstep
    replace hI := hI.quiet t36
    replace hN30 := hN30.tch t36 (by simp)
    refine ⟨vx, rfl, vo, rfl, ?_⟩
    refine hnq hx ?_
    show ∀ w50 : World, _
    rintro w50 rfl
    have td := (Tch.refl [] w36).drew
    replace hI := hI.quiet td
    replace hN30 := hN30.tch td (by simp)
    replace hx := hx.tch td (by simp)
    replace ho := ho.tch td (by simp)
    clear td t36
    generalize w36.drew = w50 at *
    refine ⟨xa, fs.length, xc, by rw [add_mk]; exact hI.prf.cell 0, (n : Int), by rw [add_mk]; exact hN30.cell 1, ?_⟩
    refine digest_k ho fun w58 t58 => ?_
    replace hI := hI.quiet t58
    replace hN30 := hN30.tch t58 (by simp)
    replace hx := hx.tch t58 (by simp)
    refine ⟨⟨(n : Int), by rw [add_mk]; exact hN30.cell 1, rfl, rfl⟩, ⟨xa, fs.length, xc, by rw [add_mk]; exact hI.prf.cell 0, rfl, rfl⟩, ?_⟩
    have hol := Tr.sum_len to
    refine ⟨fkC ⟨(n : Int), to.sum⟩, by rw [zcFk2]; exact fk_fill hol, ?_⟩
    have hfl : (fkC ⟨(n : Int), to.sum⟩).length = 33 := by show (u8 to.sum).length + 1 = 33; rw [List.length_map, hol]
    refine ⟨fkC ⟨(n : Int), to.sum⟩, fill1 (by rw [zcFk2]; rfl) rfl hfl, ?_⟩
    rintro w64 rfl
    have q64 := (Tch.refl [] w58).alloc (.cells (fkC ⟨(n : Int), to.sum⟩).toArray 51)
    have hB := (Blk.fresh w58 (cs := fkC ⟨(n : Int), to.sum⟩) 51 rfl).rsl (sz := 33) (n := 1) (by omega) fkC_one
    have s64 := size_alloc w58 (.cells (fkC ⟨(n : Int), to.sum⟩).toArray 51)
    generalize w58.alloc (.cells (fkC ⟨(n : Int), to.sum⟩).toArray 51) = w64 at *
    replace hI := hI.quiet q64
    replace hx := hx.tch q64 (by simp)
    refine ⟨⟨xa, fs.length, xc, by rw [add_mk]; exact hI.prf.cell 0, rfl, rfl⟩, ?_⟩
    have hlo := hI.lo
    have hge := own_ge hI.own
    refine app_at fkT hI.own hB (by omega) (by omega) (by omega) fun a5 c5 w67 o5 t5 m5 => ?_
    have hrow : ∀ i ∈ rowL xa, pb + 1 ≤ i := fun i hi => by
      rw [mem_rowL] at hi
      obtain ⟨z, hz, rfl⟩ := hi
      exact (hge z hz).1
    have hFoff : ∀ i ∈ rowL xa, ¬ F i := fun i hi hf => by have := hF i hf; have := hrow i hi; omega
    have k67 := hI.prf.tch t5 (fun hm => by have := hrow _ hm; omega)
    refine put_cell k67 0 (by simp) rfl fun w69 k69 t69 s69 => ?_
    have k69' : Blk w69 pb (pfC a5 (fs ++ [(⟨(n : Int), to.sum⟩ : Fk)]).length c5 ⟨fs ++ [⟨(n : Int), to.sum⟩], false, 0, 0, 0⟩) := by
      rw [List.length_append]; exact k69
    have s67 := t5.size
    refine ⟨tx.rows.length, hlt, fs ++ [(⟨(n : Int), to.sum⟩ : Fk)], a5, c5, ⟨(hI.out.tch t5 (fun hm => by have := hrow _ hm; omega)).tch t69 (by simp; omega), k69', ?_, ?_, hI.kof, (hI.tch.trans t5 fun i hi => .inr (by have := hrow i hi; omega)).trans t69 (by simp; omega), ?_, hlo.1, hlo.2.1, by omega⟩, .inr ⟨hne, tx, Lx, ?_, htx, rfl, by simp; omega, by rw [List.append_assoc]; exact hfs', hlast'⟩⟩
    · rw [rows_append, rows_one, List.length_append]
      refine own_up o5 t69 fun kk hkk hm => ?_
      have := (own_lt o5 hkk).1
      simp at hm
      omega
    · refine (hI.key.tch t5 fun z hz hm => ?_).tch t69 fun z hz hm => ?_
      · have := hI.kof z hz; have := hrow _ hm; omega
      · have := hI.kof z hz; simp at hm; omega
    · intro f hf
      rcases List.mem_append.1 hf with hf | hf
      · exact hI.ok f hf
      · rw [List.mem_singleton] at hf
        rw [hf]
        exact ⟨i64_n hok.1, hol, Tr.sum_bytes to⟩
    · exact (hx.tch t5 hFoff).tch t69 (by simp only [List.mem_singleton]; rintro _ rfl hf; have := hF _ hf; omega)
end Go.Proofs.YtjkbjppopdfggaaDoor.Tre
namespace Go.Proofs.YtjkbjppopdfggaaDoor.Tre
open Go Den Fn Sha
open Go.RowKit (Below)
open Classical
set_option maxRecDepth 8000
set_option maxHeartbeats 4000000
theorem split_c (w : World) (l : List Rw) (a : Option Addr) (n c : Nat) (hr : RSl w 3 a n c (rows rwC l)) (hR : RowsOk l) (h2 : 2 ≤ l.length) (hN : l.length ≤ 1000000000000) :
    Calls Tryd.prog 66 #[.slice a n c] w fun e w' => e = .returned (.tuple #[.int .i64 ((partBit l : Nat) : Int), .int .i64 ((partAt l (partBit l) : Nat) : Int)]) ∧ Tch [] w w' := by
  have hn := hr.count rwC_len (by omega)
  have hP := partBit_ok hR h2
  generalize partBit l = q at *
  obtain ⟨hp0, hpl, hq80⟩ := hP.at
  obtain ⟨x, y, hx, hy, hF, _, _⟩ := hP
  have hxk := (hR.ok x (List.mem_of_getElem? hx)).key
  have hyk := (hR.ok y (List.mem_of_getElem? hy)).key
  refine c66 _ _ _ ?_
  unfold d66
  refine ⟨fun m i u => ∃ j : Nat, i = j ∧ m = 80 - j ∧ j ≤ q ∧ Tch [] w u, ⟨80, 0, rfl, rfl, by omega, Tch.refl _ _⟩, ?_⟩
  rintro m w3 i ⟨j, rfl, rfl, hj, ht⟩
  rintro w5 rfl
  replace ht := ht.drew
  generalize w3.drew = w5 at *
  rw [wrap_i64 (by omega) (by omega)]
  have hcast : (((n : Nat) : Int) - 1) = ((n - 1 : Nat) : Int) := by omega
  rw [hcast]
  have hr5 := hr.tch ht (fun _ _ h => by cases h)
  rw [hn] at hy
  obtain ⟨b1, o1, ha1, k1, _⟩ := row_at hr5 hx
  obtain ⟨b2, o2, ha2, k2, _⟩ := row_at hr5 hy
  subst ha1
  cases ha2
  refine ⟨by omega, by omega, Lib.kC x.k, rfl, k1, by omega, by omega, Lib.kC y.k, rfl, by rw [Int.toNat_natCast]; exact k2, ?_⟩
  refine (refBit_c w5 x.t x.r (j : Int) hxk ⟨by omega, by omega⟩).mono ?_
  rintro e w11 ⟨rfl, t11⟩
  obtain ⟨b2, o2, ha2, k3, _⟩ := row_at (hr5.tch t11 (fun _ _ h => by cases h)) hy
  cases ha2
  refine ⟨_, rfl, ⟨Lib.kC y.k, rfl, by rw [Int.toNat_natCast]; exact k3, rfl, rfl⟩, ?_⟩
  refine (refBit_c w11 y.t y.r (j : Int) hyk ⟨by omega, by omega⟩).mono ?_
  rintro e w15 ⟨rfl, t15⟩
  refine ⟨_, rfl, ?_⟩
  replace ht := (ht.trans t11 (by simp)).trans t15 (by simp)
  clear k1 k2 k3 hr5 t11 t15
  by_cases hjq : j < q
  · have heq : bitS (Sha.keyB x.t x.r) (j : Int) = bitS (Sha.keyB y.t y.r) (j : Int) := hF.2.2 j hjq
    rw [bif_pos heq]
    exact ⟨80 - (j + 1), by omega, j + 1, by rw [wrap_i64 (by omega) (by omega)]; omega, rfl, by omega, ht⟩
  obtain rfl : j = q := by omega
  have hne : ¬ bitS (Sha.keyB x.t x.r) (j : Int) = bitS (Sha.keyB y.t y.r) (j : Int) := hF.2.1
  rw [bif_neg hne]
  refine ⟨fun m i u => ∃ k : Nat, i = k ∧ m = l.length - k ∧ k ≤ partAt l j ∧ Tch [] w u, ⟨l.length, 0, rfl, by omega, by omega, ht⟩, ?_⟩
  clear ht
  rintro m w20 i ⟨k, rfl, rfl, hk, ht⟩
  have hli : l[k]? = some (l[k]'(by omega)) := List.getElem?_eq_getElem (by omega)
  have hbit : bitS (kw (l[k]'(by omega))) (j : Int) = if k < partAt l j then 0 else 1 := by
    by_cases h : k < partAt l j
    · rw [if_pos h]
      have := List.not_of_lt_findIdx h
      rcases bitS_01 (kb := kw (l[k]'(by omega))) (keyB_bytes _ _) (n := (j : Int)) ⟨by omega, by omega⟩ with h0 | h0
      · exact h0
      · simp [h0] at this
    · rw [if_neg h]
      have e : k = partAt l j := by omega
      have := List.findIdx_getElem (p := fun x => decide (bitS (kw x) j = 1)) (w := hpl)
      have h3 := of_decide_eq_true this
      have e' : List.findIdx (fun x => decide (bitS (kw x) j = 1)) l = k := e.symm
      simp only [e'] at h3
      exact h3
  generalize l[k]'(by omega) = z at hli hbit
  obtain ⟨b3, o3, ha3, k4, _⟩ := row_at (hr.tch ht (fun _ _ h => by cases h)) hli
  cases ha3
  refine ⟨by omega, by omega, Lib.kC z.k, rfl, by rw [Int.toNat_natCast]; exact k4, ?_⟩
  refine (refBit_c w20 z.t z.r (j : Int) (hR.ok z (List.mem_of_getElem? hli)).key ⟨by omega, by omega⟩).mono ?_
  rintro e w25 ⟨rfl, t25⟩
  refine ⟨_, rfl, ?_⟩
  replace ht := ht.trans t25 (by simp)
  have hbit' : bitS (Sha.keyB z.t z.r) (j : Int) = if k < partAt l j then 0 else 1 := hbit
  rw [hbit']
  by_cases h : k < partAt l j
  · rw [if_pos h, bif_pos rfl]
    exact ⟨l.length - (k + 1), by omega, k + 1, by rw [wrap_i64 (by omega) (by omega)]; omega, rfl, by omega, ht⟩
  · rw [if_neg h, bif_neg (by decide)]
    obtain rfl : k = partAt l j := by omega
    exact ⟨rfl, ht⟩
/-! ### Nodes -/
theorem Tr.subs_len : ∀ t : Tr, t.subs.length + 1 = 2 * t.rows.length
  | .leaf x => rfl
  | .fork n l r => by
    have h1 := Tr.subs_len l
    have h2 := Tr.subs_len r
    show (Tr.fork n l r :: (l.subs ++ r.subs)).length + 1 = 2 * (l.rows ++ r.rows).length
    simp only [List.length_cons, List.length_append]
    omega
noncomputable def nodesL (l : List Rw) : List Nd := if l = [] then [Nd.zero] else (treeT l).nodes
theorem ndT : slT Tryd.prog 52 33 69 104 = true := by kernel_rfl
theorem nodesL_ok {l : List Rw} (h : RowsOk l) : ∀ n ∈ nodesL l, n.ok := fun n hn => by
  unfold nodesL at hn
  split at hn
  · rw [List.mem_singleton] at hn; rw [hn]; exact Nd.zero_ok
  · rename_i hne
    obtain ⟨s, hs, rfl⟩ := List.mem_map.1 hn
    exact Tr.node_ok (Tr.subs_ok (treeT_ok (Nat.le_refl _) (List.length_pos_iff.2 hne) h) s hs)
theorem nodes_cells {l : List Nd} (h : ∀ n ∈ l, n.ok) : ∀ n ∈ l, n.cells.length = 69 := fun n hn => cells_len (h n hn).ll (h n hn).rl
theorem ndCs_one {l : List Nd} : ∀ u ∈ rows Nd.cells l, one u = true := fun u hu => by
  unfold rows at hu
  obtain ⟨v, hv, hu⟩ := List.mem_flatten.1 hu
  obtain ⟨x, _, rfl⟩ := List.mem_map.1 hv
  exact cell_ones u hu
theorem nodesL_first {l : List Rw} (h : RowsOk l) : ∃ n r, nodesL l = n :: r ∧ ofS n = (rootS l, 0) := by
  unfold nodesL rootS
  by_cases hl : l = []
  · rw [if_pos hl, if_pos hl]
    exact ⟨_, _, rfl, rfl⟩
  · rw [if_neg hl, if_neg hl]
    obtain ⟨r, hr⟩ := Tr.subs_pos (treeT l)
    exact ⟨(treeT l).node, r.map Tr.node, by show (treeT l).subs.map Tr.node = _; rw [hr]; rfl, Tr.of_node (treeT_ok (Nat.le_refl _) (List.length_pos_iff.2 hl) h)⟩
theorem nodesL_len {l : List Rw} (h : RowsOk l) : (nodesL l).length ≤ 2 * l.length + 1 := by
  unfold nodesL
  split
  · simp
  · rename_i hne
    rw [List.length_map]
    have h1 := Tr.subs_len (treeT l)
    have h2 : (treeT l).rows = l := treeS_rows (Nat.le_refl _) (List.length_pos_iff.2 hne) h
    rw [h2] at h1
    omega
theorem nodesL_two {l : List Rw} (h : RowsOk l) (h2 : 2 ≤ l.length) : nodesL l = ⟨2, ((partBit l : Nat) : Int), rootS (l.take (partAt l (partBit l))), rootS (l.drop (partAt l (partBit l))), 0, 0, 0⟩ :: (nodesL (l.take (partAt l (partBit l))) ++ nodesL (l.drop (partAt l (partBit l)))) := by
  obtain ⟨g1, g2, _⟩ := (partBit_ok h h2).at
  have e0 : l ≠ [] := by rintro rfl; simp at h2
  have e1 : l.take (partAt l (partBit l)) ≠ [] := fun e => by have := congrArg List.length e; rw [List.length_take, List.length_nil] at this; omega
  have e2 : l.drop (partAt l (partBit l)) ≠ [] := fun e => by have := congrArg List.length e; rw [List.length_drop, List.length_nil] at this; omega
  unfold nodesL rootS
  rw [if_neg e0, if_neg e1, if_neg e2, if_neg e1, if_neg e2, treeT_two h h2]
  show List.map Tr.node (Tr.fork _ _ _ :: (_ ++ _)) = _
  rw [List.map_cons, List.map_append]
  rfl
/-- The same, and it is of one's own. -/
def NodesO (w : World) (l : List Nd) (e : Ending) (w' : World) : Prop := ∃ a c, e = .returned (.slice a l.length c) ∧ w'.ownsRow w.heap.size 33 69 (.slice a l.length c) l.length (rows Nd.cells l) ∧ Tch [] w w'
theorem nodesO_c : ∀ (k : Nat) (w : World) (l : List Rw) (a : Option Addr) (n c : Nat), l.length ≤ k → RSl w 3 a n c (rows rwC l) → RowsOk l → l.length ≤ 1000000000 → Calls Tryd.prog 30 #[.slice a n c] w (NodesO w (nodesL l)) := by
  intro k
  induction k with
  | zero => ?_
  | succ k ih => ?_
  all_goals
    intro w l a n c hk hr hR hN
    have hn := hr.count rwC_len (by omega)
    refine c30 _ _ _ ?_
    unfold d30
    by_cases h0 : n = 0
    · rw [bif_pos (by omega)]
      have hl : l = [] := List.length_eq_zero_iff.1 (by omega)
      refine ⟨Nd.zero.cells, by rw [zcNd]; rfl, Nd.zero.cells, fill1 (by rw [zcNd]; rfl) rfl rfl, ?_⟩
      rintro w3 rfl
      have hB : (w.alloc (.cells Nd.zero.cells.toArray 33)).ownsRow w.heap.size 33 69 (.slice (some ⟨w.heap.size, 0, none⟩) 1 1) 1 Nd.zero.cells := (BlkT.new w Nd.zero.cells.toArray 33).own (Nat.le_refl _) rfl (by omega)
      unfold nodesL
      rw [if_pos hl]
      exact ⟨_, 1, rfl, by show World.ownsRow _ _ _ 69 (.slice _ 1 1) 1 (rows Nd.cells [Nd.zero]); rw [rows_one]; exact hB, (Tch.refl [] w).alloc _⟩
    rw [bif_neg (by omega)]
  · omega
  by_cases h1 : n = 1
  · rw [bif_pos (by omega)]
    obtain ⟨x, rfl⟩ := List.length_eq_one_iff.1 (show l.length = 1 by omega)
    obtain ⟨b1, o1, rfl, k1⟩ := hr.elem' rwC_len (by omega) (i := 0) (x := x) rfl
    refine ⟨by omega, by omega, rwC x, rfl, by rw [add_mk]; exact k1, _, by rw [zcNd]; exact leafN_fill, _, fill1 (by rw [zcNd]; rfl) rfl rfl, ?_⟩
    rintro w3 rfl
    have hB : (w.alloc (.cells (Tr.leaf x).node.cells.toArray 33)).ownsRow w.heap.size 33 69 (.slice (some ⟨w.heap.size, 0, none⟩) 1 1) 1 (Tr.leaf x).node.cells := (BlkT.new w (Tr.leaf x).node.cells.toArray 33).own (Nat.le_refl _) rfl (by omega)
    unfold nodesL
    rw [if_neg (by simp), treeT_one]
    exact ⟨_, 1, rfl, by show World.ownsRow _ _ _ 69 (.slice _ 1 1) 1 (rows Nd.cells [(Tr.leaf x).node]); rw [rows_one]; exact hB, (Tch.refl [] w).alloc _⟩
  rw [bif_neg (by omega)]
  refine (split_c w l a n c hr hR (by omega) (by omega)).mono ?_
  rintro e w10 ⟨rfl, t10⟩
  refine ⟨_, _, rfl, _, rfl, _, rfl, ?_⟩
  have hnl := nodesL_two hR (by omega)
  have hP := partBit_ok hR (by omega)
  obtain ⟨hp0, hpl, hq80⟩ := hP.at
  clear hP
  generalize partBit l = q at *
  generalize partAt l q = p at *
  have hcap := hr.cap
  refine ⟨by omega, by omega, ?_⟩
  rw [Int.toNat_natCast]
  have hr10 := hr.tch t10 (fun _ _ h => by cases h)
  have hsa := hr10.sub (l := 0) (hh := p) (by omega) (by omega)
  rw [rows_part, List.drop_zero, Nat.sub_zero] at hsa
  refine (ih w10 (l.take p) _ _ _ (by rw [List.length_take]; omega) hsa (hR.take p) (by rw [List.length_take]; omega)).mono ?_
  rintro e w16 ⟨la, lc, rfl, hla0, t16⟩
  have hla := own_rsl hla0 ndCs_one
  refine ⟨_, _, _, rfl, ?_⟩
  refine ⟨by omega, by omega, ?_⟩
  have hsb := (hr10.tch t16 (fun _ _ h => by cases h)).sub (l := p) (hh := n) (by omega) (by omega)
  rw [rows_part, List.take_of_length_le (l := l.drop p) (by rw [List.length_drop]; omega)] at hsb
  refine (ih w16 (l.drop p) _ _ _ (by rw [List.length_drop]; omega) hsb (hR.drop p) (by rw [List.length_drop]; omega)).mono ?_
  rintro e w19 ⟨ra, rc, rfl, hra0, t19⟩
  have hra := own_rsl hra0 ndCs_one
  refine ⟨_, _, _, rfl, ?_⟩
  replace hla := hla.tch t19 (fun _ _ h => by cases h)
  have t0 := (t10.trans t16 (by simp)).trans t19 (by simp)
  clear hsa hsb hr10 t10 t16 t19 hla0 hra0
  obtain ⟨n1, r1, e1, f1⟩ := nodesL_first (hR.take p)
  obtain ⟨n2, r2, e2, f2⟩ := nodesL_first (hR.drop p)
  have ok1 := nodesL_ok (hR.take p)
  have ok2 := nodesL_ok (hR.drop p)
  have len1 := nodesL_len (hR.take p)
  have len2 := nodesL_len (hR.drop p)
  rw [List.length_take] at len1
  rw [List.length_drop] at len2
  have g1 : (nodesL (l.take p))[0]? = some n1 := by rw [e1]; rfl
  have g2 : (nodesL (l.drop p))[0]? = some n2 := by rw [e2]; rfl
  have p1 : 0 < (nodesL (l.take p)).length := by rw [e1]; simp
  have p2 : 0 < (nodesL (l.drop p)).length := by rw [e2]; simp
  have m1 := ok1 n1 (List.mem_of_getElem? g1)
  have m2 := ok2 n2 (List.mem_of_getElem? g2)
  refine ⟨by omega, by omega, ?_⟩
  refine hla.elem (nodes_cells ok1) (by omega) g1 ?_
  refine (refOf_c n1 m1 w19).mono ?_
  rintro e w24 ⟨rfl, t24⟩
  rw [f1]
  refine ⟨_, _, rfl, _, rfl, _, rfl, ?_⟩
  have hd1 : (u8 (rootS (l.take p))).length = 32 := by rw [List.length_map]; exact rootS_len _
  have hd2 : (u8 (rootS (l.drop p))).length = 32 := by rw [List.length_map]; exact rootS_len _
  refine var_init (n := 32) (by rw [zcDig]; rfl) hd1 ones_ints fun w29 w30 d1 t30 s30 => ?_
  replace t24 := t24.trans t30 (by simp)
  replace t0 := t0.trans t24 (by simp)
  replace hla := hla.tch t24 (fun _ _ h => by cases h)
  replace hra := hra.tch t24 (fun _ _ h => by cases h)
  refine ⟨by omega, by omega, ?_⟩
  refine hra.elem (nodes_cells ok2) (by omega) g2 ?_
  refine (refOf_c n2 m2 w30).mono ?_
  rintro e w34 ⟨rfl, t34⟩
  rw [f2]
  refine ⟨_, _, rfl, _, rfl, _, rfl, ?_⟩
  refine var_init (n := 32) (by rw [zcDig]; rfl) hd2 ones_ints fun w39 w40 d2 t40 s40 => ?_
  replace t34 := t34.trans t40 (by simp)
  replace t0 := t0.trans t34 (by simp)
  replace hla := hla.tch t34 (fun _ _ h => by cases h)
  replace hra := hra.tch t34 (fun _ _ h => by cases h)
  replace d1 := d1.tch t34 (by simp)
  refine get_all d1 hd1 ?_
  refine get_all d2 hd2 ?_
  refine ⟨_, by rw [zcNd]; exact node_fill (rootS_len _) (rootS_len _), _, fill1 (by rw [zcNd]; rfl) rfl (cells_len (rootS_len _) (rootS_len _)), ?_⟩
  rintro w45 rfl
  generalize hnd : (Nd.mk 2 ((q : Nat) : Int) (rootS (l.take p)) (rootS (l.drop p)) 0 0 0) = nd at *
  have hndl : nd.cells.length = 69 := by rw [← hnd]; exact cells_len (rootS_len _) (rootS_len _)
  have hE : (w40.alloc (.cells nd.cells.toArray 33)).ownsRow w40.heap.size 33 69 (.slice (some ⟨w40.heap.size, 0, none⟩) 1 1) 1 nd.cells := (BlkT.new w40 nd.cells.toArray 33).own (Nat.le_refl _) (by simpa using hndl) (by omega)
  have q45 := (Tch.refl [] w40).alloc (.cells nd.cells.toArray 33)
  have s45 := size_alloc w40 (.cells nd.cells.toArray 33)
  generalize w40.alloc (.cells nd.cells.toArray 33) = w45 at *
  refine app_at ndT hE (hla.tch q45 (fun _ _ h => by cases h)) (by omega) (by omega) (by omega) fun x1 c1 w47 o1 t47 _ => ?_
  have q47 : Tch [] w40 w47 := q45.trans t47 fun i hi => .inr (by
    rw [mem_rowL] at hi
    obtain ⟨z, hz, rfl⟩ := hi
    exact (own_ge hE z hz).1)
  have s47 := q47.size
  refine app_at ndT o1 (hra.tch q47 (fun _ _ h => by cases h)) (by omega) (by omega) (by omega) fun x2 c2 w50 o2 t50 _ => ?_
  have q50 : Tch [] w40 w50 := q47.trans t50 fun i hi => .inr (by
    rw [mem_rowL] at hi
    obtain ⟨z, hz, rfl⟩ := hi
    exact (own_ge o1 z hz).1)
  rw [hnl]
  have elen : 1 + (nodesL (l.take p)).length + (nodesL (l.drop p)).length = (nd :: (nodesL (l.take p) ++ nodesL (l.drop p))).length := by simp; omega
  have erow : nd.cells ++ rows Nd.cells (nodesL (l.take p)) ++ rows Nd.cells (nodesL (l.drop p)) = rows Nd.cells (nd :: (nodesL (l.take p) ++ nodesL (l.drop p))) := by rw [rows_cons, rows_append, List.append_assoc]
  rw [elen, erow] at o2
  exact ⟨x2, c2, by rw [elen], own_base o2 t0.size, t0.trans q50 (by simp)⟩
end Go.Proofs.YtjkbjppopdfggaaDoor.Tre
