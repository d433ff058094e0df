/-
  THE CODE of some functions of the given program, resolved, and proved to ask what the readable texts (d..) say; contracts c.. follow. Printed by a small program of mine.
  THE DOCUMENT'S READING OF A BATCH: contracts of keys, one, Decode.
  THE DOCUMENT'S READING OF A BATCH: Decode.
  FRAMES, READ BY THE DOCUMENT: opened, want, DecodePiece, DecodeWants.
  FRAMES' LAWS, the small functions: sameTx, sameBatch, SamePiece, sameBytes, sameWants.
  Own work. No macro, syntax, notation, axiom.
-/
import Derived.Test.YtjchneebdlncfaaDoorFrmPk3
import Derived.Test.YtjchneebdlncfaaDoorProg
import Derived.Test.YtjchneebdlncfaaDoorFrmPk11
import Derived.Test.YtjchneebdlncfaaDoorFrmPk12
import Derived.Test.YtjchneebdlncfaaDoorFrmPk9
set_option maxRecDepth 100000
namespace Go.Proofs.YtjchneebdlncfaaDoor.Fn
open Go Den
/-- prelude/preluderef06.Decode -/
def s48 : S := (.seq (.ops [⟨(some 2), (.mv (.const (.slice none 0 0))), .sl, none⟩,
  ⟨(some 3), (.mv (.const (.int .i64 0))), (.int .i64), none⟩,
  ⟨(some 4), (.mv (.const (.int .i64 0))), (.int .i64), none⟩] [0])
 (.seq (.ops [⟨(some 11), (.mv (.tmp 0)), .sl, none⟩,
  ⟨(some 12), (.bld 104 (.fields [(0, 1), (1, 1), (2, 1)]) [(0, (.tmp 11))]), .agg, none⟩,
  ⟨(some 13), (.box 104 (.tmp 12)), .ptr, none⟩,
  ⟨(some 5), (.mv (.tmp 13)), .ptr, none⟩] [5])
 (.seq (.ops [⟨(some 14), (.mv (.tmp 5)), .ptr, none⟩,
  ⟨(some 15), (.call 51 [(.tmp 14), (.const (.int .u64 64))] [(.int .u64)]), (.int .u64), none⟩,
  ⟨(some 6), (.mv (.tmp 15)), (.int .u64), none⟩] [6, 5])
 (.seq (.ops [⟨(some 7), (.mv (.const (.slice none 0 0))), .sl, none⟩] [6, 5, 7])
 (.join [(7, .sl)] [5]
 (.seq (.ops [⟨(some 8), (.mv (.const (.int .u64 0))), (.int .u64), none⟩] [8, 6, 5, 7])
 (.block 0
 (.loop [(7, .sl), (8, (.int .u64))] [5, 6]
 (.join [] [5, 6, 7, 8]
 (.seq (.ops [⟨(some 16), (.mv (.tmp 8)), (.int .u64), none⟩,
  ⟨(some 17), (.mv (.tmp 6)), (.int .u64), none⟩,
  ⟨(some 18), (.bin .lss (.tmp 16) (.tmp 17)), .bool, none⟩,
  ⟨(some 19), (.mv (.tmp 18)), .bool, none⟩,
  ⟨(some 20), (.mv (.tmp 5)), .ptr, (some (19, true))⟩,
  ⟨(some 21), (.nc (.tmp 20)), .any, (some (19, true))⟩,
  ⟨(some 22), (.fa 2 (.tmp 21)), .ptr, (some (19, true))⟩,
  ⟨(some 23), (.ld1 (.tmp 22)), (.int .i64), (some (19, true))⟩,
  ⟨(some 24), (.bin .eql (.tmp 23) (.const (.int .i64 0))), .bool, (some (19, true))⟩,
  ⟨(some 25), (.pick (.tmp 19) (.tmp 24) (.const (.bool false))), .bool, none⟩] [25, 5, 7, 8, 6])
 (.cond (.tmp 25)
 .skip
 (.exit 0)))
 (.seq (.block 1
 (.seq (.ops [⟨(some 28), (.mv (.tmp 5)), .ptr, none⟩,
  ⟨(some 29), (.call 83 [(.tmp 28)] [.agg]), .agg, none⟩,
  ⟨(some 9), (.alloc 76), .ptr, none⟩,
  ⟨none, (.stN 4 (.tmp 9) (.tmp 29)), .any, none⟩] [7, 9, 8, 6, 5])
 (.ops [⟨(some 30), (.mv (.tmp 7)), .sl, none⟩,
  ⟨(some 31), (.ldN 4 (.tmp 9)), .agg, none⟩,
  ⟨(some 32), (.bldS 76 1 4 [(0, (.tmp 31))]), .sl, none⟩,
  ⟨(some 33), (.app #[35, 35] 35 (.tmp 30) (.tmp 32)), .sl, none⟩,
  ⟨(some 7), (.mv (.tmp 33)), .sl, none⟩] [8, 6, 5, 7])))
 (.ops [⟨(some 26), (.mv (.tmp 8)), (.int .u64), none⟩,
  ⟨(some 27), (.bin .add (.tmp 26) (.const (.int .u64 1))), (.int .u64), none⟩,
  ⟨(some 8), (.mv (.tmp 27)), (.int .u64), none⟩] [8, 6, 5, 7]))))))
 (.seq (.ops [⟨(some 34), (.mv (.tmp 5)), .ptr, none⟩,
  ⟨(some 35), (.call 52 [(.tmp 34)] [(.int .i64)]), (.int .i64), none⟩,
  ⟨(some 10), (.mv (.tmp 35)), (.int .i64), none⟩] [10, 5, 7])
 (.seq (.seq (.ops [⟨(some 36), (.mv (.tmp 10)), (.int .i64), none⟩,
  ⟨(some 37), (.bin .neq (.tmp 36) (.const (.int .i64 0))), .bool, none⟩] [37, 5, 10, 7])
 (.cond (.tmp 37)
 (.seq (.draw (.take 0 ⟨(some 38), (.mv (.tmp 5)), .ptr, none⟩
  (.take 1 ⟨(some 39), (.nc (.tmp 38)), .any, none⟩
  (.take 2 ⟨(some 40), (.fa 1 (.tmp 39)), .ptr, none⟩
  (.take 3 ⟨(some 41), (.ld1 (.tmp 40)), (.int .i64), none⟩
  (.take 4 ⟨(some 42), (.mv (.tmp 10)), (.int .i64), none⟩
  (.take 5 ⟨(some 2), (.mv (.const (.slice none 0 0))), .sl, none⟩
  (.take 6 ⟨(some 3), (.mv (.tmp 41)), (.int .i64), none⟩
  (.take 7 ⟨(some 4), (.mv (.tmp 42)), (.int .i64), none⟩
  .done)))))))) [2, 3, 4])
 .ret)
 .skip))
 (.seq (.ops [⟨(some 43), (.mv (.tmp 7)), .sl, none⟩,
  ⟨(some 2), (.mv (.tmp 43)), .sl, none⟩,
  ⟨(some 3), (.mv (.const (.int .i64 0))), (.int .i64), none⟩,
  ⟨(some 4), (.mv (.const (.int .i64 0))), (.int .i64), none⟩] [2, 3, 4])
 .ret))))))))
def r48 : List Res := [.t 2, .t 3, .t 4]
theorem tr48 : trS Tryd.prog [] 44 (Tryd.f48.body.getD .skip) s48 = some s48 := by kernel_rfl
theorem den48 (args : List Value) (w : World) (R : Ending → World → Prop) (hn : args.length ≤ 44) (h : denS Tryd.prog s48 (argsEnv 0 args) w (endK r48 R)) : Calls Tryd.prog 48 args.toArray w R :=
  calls_of_den (pn := []) (fn := Tryd.f48) (c := Tryd.f48.body.getD .skip) Tryd.func48 (by kernel_rfl) (by rw [Tryd.ntmps48]; exact hn) (by rw [Tryd.ntmps48]; exact tr48) (by kernel_rfl) h
def d48 (data0 : Option Addr) (data0n : Nat) (data0c : Nat) (w : World) (R : Ending → World → Prop) : Prop :=
 ∃ cs1, fillL (.fields [(0, 1), (1, 1), (2, 1)]) (zc Tryd.prog 104) [(0, (.slice data0 data0n data0c))] = some cs1 ∧
 ∀ w2 : World, w2 = World.alloc w (.cells (List.toArray cs1) 104) →
 Calls Tryd.prog 51 #[(.pointer (some ⟨World.heap w |>.size, 0, none⟩)), (.int .u64 64)] w2 fun e3 w4 => ∃ x5 : Int, e3 = .returned (.int .u64 x5) ∧
 ∃ J6 : Option Addr → Nat → Nat → World → Prop,
 (∃ I7 : Nat → Option Addr → Nat → Nat → Int → World → Prop,
 (∃ m, I7 m none 0 0 0 w4) ∧
 (∀ (m8 : Nat) (w9 : World) (b10 : Option Addr) (b10n : Nat) (b10c : Nat) (i11 : Int), I7 m8 b10 b10n b10c i11 w9 →
 ∃ J12 : World → Prop,
 ((bif (decide (i11 < x5)) then
 (∃ x13 : Int, World.cell? w9 (Addr.add ⟨World.heap w |>.size, 0, none⟩ 2) = some (.int .i64 x13) ∧
 (bif (decide (x13 = 0)) then
 (J12  w9)
 else
 (J6 b10 b10n b10c w9)))
 else
 (J6 b10 b10n b10c w9))) ∧
 (∀ (w14 : World), J12  w14 →
 Calls Tryd.prog 83 #[(.pointer (some ⟨World.heap w |>.size, 0, none⟩))] w14 fun e15 w16 => ∃ x17 : Array Value, e15 = .returned (.agg x17) ∧
 ∀ w18 : World, w18 = World.alloc w16 (.cells (zc Tryd.prog 76).toArray 76) →
 Array.size x17 = 4 ∧ (∀ u ∈ Array.toList x17, one u = true) ∧ Room w18 ⟨World.heap w16 |>.size, 0, none⟩ 4 ∧
 ∀ w19 : World, w19 = setCells w18 ⟨World.heap w16 |>.size, 0, none⟩ (Array.toList x17) 0 →
 ∃ cs20 : List Value, List.length cs20 = 4 ∧ Cells w19 ⟨World.heap w16 |>.size, 0, none⟩ cs20 ∧
 ∃ cs21, fillL (.elems 4) (zrep (zc Tryd.prog 76) (1 * 4)) [(0, (.agg (List.toArray cs20)))] = some cs21 ∧
 ∀ w22 : World, w22 = World.alloc w19 (.cells (List.toArray cs21) 76) →
 RunV Tryd.prog (Builtin.append_ #[35, 35] 35 #[(.slice b10 b10n b10c), (.slice (some ⟨World.heap w19 |>.size, 0, none⟩) 1 1)]) w22 fun v23 w24 => ∃ (x25 : Option Addr) (x25n : Nat) (x25c : Nat), v23 = (.slice x25 x25n x25c) ∧
 ∃ m26, m26 < m8 ∧ I7 m26 x25 x25n x25c (IntKind.wrap .u64 (i11 + 1)) w24))) ∧
 (∀ (w27 : World) (b28 : Option Addr) (b28n : Nat) (b28c : Nat), J6 b28 b28n b28c w27 →
 Calls Tryd.prog 52 #[(.pointer (some ⟨World.heap w |>.size, 0, none⟩))] w27 fun e29 w30 => ∃ x31 : Int, e29 = .returned (.int .i64 x31) ∧
 (bif (!decide (x31 = 0)) then
 (∀ w32 : World, w32 = World.drew w30 →
 ∃ x33 : Int, World.cell? w32 (Addr.add ⟨World.heap w |>.size, 0, none⟩ 1) = some (.int .i64 x33) ∧
 R (.returned (.tuple #[(.slice none 0 0), (.int .i64 x33), (.int .i64 x31)])) w32)
 else
 (R (.returned (.tuple #[(.slice b28 b28n b28c), (.int .i64 0), (.int .i64 0)])) w30)))
theorem e48 (data0 : Option Addr) (data0n : Nat) (data0c : Nat) (w : World) (R : Ending → World → Prop) : denS Tryd.prog s48 (argsEnv 0 [(.slice data0 data0n data0c)]) w (endK r48 R) = d48 data0 data0n data0c w R := by kernel_rfl
theorem c48 (data0 : Option Addr) (data0n : Nat) (data0c : Nat) {w : World} {R : Ending → World → Prop} (h : d48 data0 data0n data0c w R) : Calls Tryd.prog 48 #[(.slice data0 data0n data0c)] w R :=
  den48 [(.slice data0 data0n data0c)] w R (by simp) ((e48 data0 data0n data0c w R).symm ▸ h)

/-- prelude/preluderef06.one -/
def s83 : S := (.seq (.ops [⟨(some 2), (.alloc 76), .ptr, none⟩] [0, 2])
 (.seq (.ops [⟨(some 3), (.alloc 76), .ptr, none⟩] [0, 3, 2])
 (.seq (.ops [⟨(some 7), (.mv (.tmp 0)), .ptr, none⟩,
  ⟨(some 8), (.call 51 [(.tmp 7), (.const (.int .u64 63))] [(.int .u64)]), (.int .u64), none⟩,
  ⟨(some 9), (.cv .i64 (.tmp 8)), (.int .i64), none⟩,
  ⟨(some 10), (.fa 0 (.tmp 3)), .ptr, none⟩,
  ⟨none, (.st1 (.tmp 10) (.tmp 9)), .any, none⟩] [0, 3, 2])
 (.seq (.ops [⟨(some 11), (.mv (.tmp 0)), .ptr, none⟩,
  ⟨(some 12), (.call 51 [(.tmp 11), (.const (.int .u64 16))] [(.int .u64)]), (.int .u64), none⟩,
  ⟨(some 4), (.mv (.tmp 12)), (.int .u64), none⟩] [4, 0, 3, 2])
 (.join [] [0, 2, 3]
 (.seq (.ops [⟨(some 5), (.mv (.const (.int .u64 0))), (.int .u64), none⟩] [5, 4, 0, 3, 2])
 (.block 0
 (.loop [(5, (.int .u64))] [0, 2, 3, 4]
 (.join [] [0, 2, 3, 4, 5]
 (.seq (.ops [⟨(some 13), (.mv (.tmp 5)), (.int .u64), none⟩,
  ⟨(some 14), (.mv (.tmp 4)), (.int .u64), none⟩,
  ⟨(some 15), (.bin .lss (.tmp 13) (.tmp 14)), .bool, none⟩,
  ⟨(some 16), (.mv (.tmp 15)), .bool, none⟩,
  ⟨(some 17), (.mv (.tmp 0)), .ptr, (some (16, true))⟩,
  ⟨(some 18), (.nc (.tmp 17)), .any, (some (16, true))⟩,
  ⟨(some 19), (.fa 2 (.tmp 18)), .ptr, (some (16, true))⟩,
  ⟨(some 20), (.ld1 (.tmp 19)), (.int .i64), (some (16, true))⟩,
  ⟨(some 21), (.bin .eql (.tmp 20) (.const (.int .i64 0))), .bool, (some (16, true))⟩,
  ⟨(some 22), (.pick (.tmp 16) (.tmp 21) (.const (.bool false))), .bool, none⟩] [22, 0, 3, 5, 4, 2])
 (.cond (.tmp 22)
 .skip
 (.exit 0)))
 (.seq (.block 1
 (.seq (.ops [⟨(some 25), (.mv (.tmp 0)), .ptr, none⟩,
  ⟨(some 26), (.call 98 [(.tmp 25)] [(.int .i64)]), (.int .i64), none⟩,
  ⟨(some 6), (.mv (.tmp 26)), (.int .i64), none⟩] [3, 6, 5, 4, 0, 2])
 (.ops [⟨(some 27), (.fa 1 (.tmp 3)), .ptr, none⟩,
  ⟨(some 28), (.ld1 (.tmp 27)), .sl, none⟩,
  ⟨(some 29), (.mv (.tmp 6)), (.int .i64), none⟩,
  ⟨(some 30), (.bldS 2 1 1 [(0, (.tmp 29))]), .sl, none⟩,
  ⟨(some 31), (.app #[73, 73] 73 (.tmp 28) (.tmp 30)), .sl, none⟩,
  ⟨(some 32), (.fa 1 (.tmp 3)), .ptr, none⟩,
  ⟨none, (.st1 (.tmp 32) (.tmp 31)), .any, none⟩] [5, 4, 0, 3, 2])))
 (.ops [⟨(some 23), (.mv (.tmp 5)), (.int .u64), none⟩,
  ⟨(some 24), (.bin .add (.tmp 23) (.const (.int .u64 1))), (.int .u64), none⟩,
  ⟨(some 5), (.mv (.tmp 24)), (.int .u64), none⟩] [5, 4, 0, 3, 2]))))))
 (.seq (.ops [⟨(some 33), (.mv (.tmp 0)), .ptr, none⟩,
  ⟨(some 34), (.call 99 [(.tmp 33), (.const (.int .u64 16))] [.sl]), .sl, none⟩,
  ⟨(some 35), (.fa 2 (.tmp 3)), .ptr, none⟩,
  ⟨none, (.st1 (.tmp 35) (.tmp 34)), .any, none⟩] [0, 3, 2])
 (.seq (.ops [⟨(some 36), (.mv (.tmp 0)), .ptr, none⟩,
  ⟨(some 37), (.call 99 [(.tmp 36), (.const (.int .u64 16))] [.sl]), .sl, none⟩,
  ⟨(some 38), (.fa 3 (.tmp 3)), .ptr, none⟩,
  ⟨none, (.st1 (.tmp 38) (.tmp 37)), .any, none⟩] [3, 2])
 (.seq (.ops [⟨(some 39), (.ldN 4 (.tmp 3)), .agg, none⟩,
  ⟨none, (.stN 4 (.tmp 2) (.tmp 39)), .any, none⟩] [2])
 .ret))))))))
def r83 : List Res := [.cN 2 4]
theorem tr83 : trS Tryd.prog [] 40 (Tryd.f83.body.getD .skip) s83 = some s83 := by kernel_rfl
theorem den83 (args : List Value) (w : World) (R : Ending → World → Prop) (hn : args.length ≤ 40) (h : denS Tryd.prog s83 (argsEnv 0 args) w (endK r83 R)) : Calls Tryd.prog 83 args.toArray w R :=
  calls_of_den (pn := []) (fn := Tryd.f83) (c := Tryd.f83.body.getD .skip) Tryd.func83 (by kernel_rfl) (by rw [Tryd.ntmps83]; exact hn) (by rw [Tryd.ntmps83]; exact tr83) (by kernel_rfl) h
def d83 (r0 : Option Addr) (w : World) (R : Ending → World → Prop) : Prop :=
 ∀ w1 : World, w1 = World.alloc w (.cells (zc Tryd.prog 76).toArray 76) →
 ∀ w2 : World, w2 = World.alloc w1 (.cells (zc Tryd.prog 76).toArray 76) →
 Calls Tryd.prog 51 #[(.pointer r0), (.int .u64 63)] w2 fun e3 w4 => ∃ x5 : Int, e3 = .returned (.int .u64 x5) ∧
 one (.int .i64 (IntKind.wrap .i64 x5)) = true ∧ Option.isSome (World.cell? w4 (Addr.add ⟨World.heap w1 |>.size, 0, none⟩ 0)) = true ∧ World.frozen? w4 (Addr.add ⟨World.heap w1 |>.size, 0, none⟩ 0) = false ∧
 ∀ w6 : World, w6 = World.setCell w4 (Addr.add ⟨World.heap w1 |>.size, 0, none⟩ 0) (.int .i64 (IntKind.wrap .i64 x5)) →
 Calls Tryd.prog 51 #[(.pointer r0), (.int .u64 16)] w6 fun e7 w8 => ∃ x9 : Int, e7 = .returned (.int .u64 x9) ∧
 ∃ J10 : World → Prop,
 (∃ I11 : Nat → Int → World → Prop,
 (∃ m, I11 m 0 w8) ∧
 (∀ (m12 : Nat) (w13 : World) (i14 : Int), I11 m12 i14 w13 →
 ∃ J15 : World → Prop,
 ((bif (decide (i14 < x9)) then
 (optK r0 fun a16 =>
 ∃ x17 : Int, World.cell? w13 (Addr.add a16 2) = some (.int .i64 x17) ∧
 (bif (decide (x17 = 0)) then
 (J15  w13)
 else
 (J10  w13)))
 else
 (J10  w13))) ∧
 (∀ (w18 : World), J15  w18 →
 Calls Tryd.prog 98 #[(.pointer r0)] w18 fun e19 w20 => ∃ x21 : Int, e19 = .returned (.int .i64 x21) ∧
 ∃ (x22 : Option Addr) (x22n : Nat) (x22c : Nat), World.cell? w20 (Addr.add ⟨World.heap w1 |>.size, 0, none⟩ 1) = some (.slice x22 x22n x22c) ∧
 ∃ cs23, fillL (.elems 1) (zrep (zc Tryd.prog 2) (1 * 1)) [(0, (.int .i64 x21))] = some cs23 ∧
 ∀ w24 : World, w24 = World.alloc w20 (.cells (List.toArray cs23) 2) →
 RunV Tryd.prog (Builtin.append_ #[73, 73] 73 #[(.slice x22 x22n x22c), (.slice (some ⟨World.heap w20 |>.size, 0, none⟩) 1 1)]) w24 fun v25 w26 => ∃ (x27 : Option Addr) (x27n : Nat) (x27c : Nat), v25 = (.slice x27 x27n x27c) ∧
 one (.slice x27 x27n x27c) = true ∧ Option.isSome (World.cell? w26 (Addr.add ⟨World.heap w1 |>.size, 0, none⟩ 1)) = true ∧ World.frozen? w26 (Addr.add ⟨World.heap w1 |>.size, 0, none⟩ 1) = false ∧
 ∀ w28 : World, w28 = World.setCell w26 (Addr.add ⟨World.heap w1 |>.size, 0, none⟩ 1) (.slice x27 x27n x27c) →
 ∃ m29, m29 < m12 ∧ I11 m29 (IntKind.wrap .u64 (i14 + 1)) w28))) ∧
 (∀ (w30 : World), J10  w30 →
 Calls Tryd.prog 99 #[(.pointer r0), (.int .u64 16)] w30 fun e31 w32 => ∃ (x33 : Option Addr) (x33n : Nat) (x33c : Nat), e31 = .returned (.slice x33 x33n x33c) ∧
 one (.slice x33 x33n x33c) = true ∧ Option.isSome (World.cell? w32 (Addr.add ⟨World.heap w1 |>.size, 0, none⟩ 2)) = true ∧ World.frozen? w32 (Addr.add ⟨World.heap w1 |>.size, 0, none⟩ 2) = false ∧
 ∀ w34 : World, w34 = World.setCell w32 (Addr.add ⟨World.heap w1 |>.size, 0, none⟩ 2) (.slice x33 x33n x33c) →
 Calls Tryd.prog 99 #[(.pointer r0), (.int .u64 16)] w34 fun e35 w36 => ∃ (x37 : Option Addr) (x37n : Nat) (x37c : Nat), e35 = .returned (.slice x37 x37n x37c) ∧
 one (.slice x37 x37n x37c) = true ∧ Option.isSome (World.cell? w36 (Addr.add ⟨World.heap w1 |>.size, 0, none⟩ 3)) = true ∧ World.frozen? w36 (Addr.add ⟨World.heap w1 |>.size, 0, none⟩ 3) = false ∧
 ∀ w38 : World, w38 = World.setCell w36 (Addr.add ⟨World.heap w1 |>.size, 0, none⟩ 3) (.slice x37 x37n x37c) →
 ∃ cs39 : List Value, List.length cs39 = 4 ∧ Cells w38 ⟨World.heap w1 |>.size, 0, none⟩ cs39 ∧
 Array.size (List.toArray cs39) = 4 ∧ (∀ u ∈ Array.toList (List.toArray cs39), one u = true) ∧ Room w38 ⟨World.heap w |>.size, 0, none⟩ 4 ∧
 ∀ w40 : World, w40 = setCells w38 ⟨World.heap w |>.size, 0, none⟩ (Array.toList (List.toArray cs39)) 0 →
 ∃ cs41 : List Value, List.length cs41 = 4 ∧ Cells w40 ⟨World.heap w |>.size, 0, none⟩ cs41 ∧
 R (.returned (.agg (List.toArray cs41))) w40)
theorem e83 (r0 : Option Addr) (w : World) (R : Ending → World → Prop) : denS Tryd.prog s83 (argsEnv 0 [(.pointer r0)]) w (endK r83 R) = d83 r0 w R := by kernel_rfl
theorem c83 (r0 : Option Addr) {w : World} {R : Ending → World → Prop} (h : d83 r0 w R) : Calls Tryd.prog 83 #[(.pointer r0)] w R :=
  den83 [(.pointer r0)] w R (by simp) ((e83 r0 w R).symm ▸ h)

/-- prelude/preluderef06.keys -/
def s99 : S := (.seq (.ops [⟨(some 4), (.mv (.const (.slice none 0 0))), .sl, none⟩] [0, 1])
 (.seq (.ops [⟨(some 12), (.mv (.tmp 0)), .ptr, none⟩,
  ⟨(some 13), (.mv (.tmp 1)), (.int .u64), none⟩,
  ⟨(some 14), (.call 51 [(.tmp 12), (.tmp 13)] [(.int .u64)]), (.int .u64), none⟩,
  ⟨(some 5), (.mv (.tmp 14)), (.int .u64), none⟩] [5, 0])
 (.seq (.ops [⟨(some 6), (.mv (.const (.slice none 0 0))), .sl, none⟩] [5, 0, 6])
 (.seq (.seq (.ops [⟨(some 7), (.mv (.const (.int .u64 0))), (.int .u64), none⟩] [7, 5, 0, 6])
 (.block 0
 (.loop [(6, .sl), (7, (.int .u64))] [0, 5]
 (.join [] [0, 5, 6, 7]
 (.seq (.ops [⟨(some 15), (.mv (.tmp 7)), (.int .u64), none⟩,
  ⟨(some 16), (.mv (.tmp 5)), (.int .u64), none⟩,
  ⟨(some 17), (.bin .lss (.tmp 15) (.tmp 16)), .bool, none⟩,
  ⟨(some 18), (.mv (.tmp 17)), .bool, none⟩,
  ⟨(some 19), (.mv (.tmp 0)), .ptr, (some (18, true))⟩,
  ⟨(some 20), (.nc (.tmp 19)), .any, (some (18, true))⟩,
  ⟨(some 21), (.fa 2 (.tmp 20)), .ptr, (some (18, true))⟩,
  ⟨(some 22), (.ld1 (.tmp 21)), (.int .i64), (some (18, true))⟩,
  ⟨(some 23), (.bin .eql (.tmp 22) (.const (.int .i64 0))), .bool, (some (18, true))⟩,
  ⟨(some 24), (.pick (.tmp 18) (.tmp 23) (.const (.bool false))), .bool, none⟩] [24, 0, 6, 7, 5])
 (.cond (.tmp 24)
 .skip
 (.exit 0)))
 (.seq (.block 1
 (.seq (.ops [⟨(some 27), (.mv (.tmp 0)), .ptr, none⟩,
  ⟨(some 28), (.nc (.tmp 27)), .any, none⟩,
  ⟨(some 29), (.fa 1 (.tmp 28)), .ptr, none⟩,
  ⟨(some 30), (.ld1 (.tmp 29)), (.int .i64), none⟩,
  ⟨(some 8), (.mv (.tmp 30)), (.int .i64), none⟩] [0, 6, 8, 7, 5])
 (.seq (.ops [⟨(some 31), (.mv (.tmp 0)), .ptr, none⟩,
  ⟨(some 32), (.call 112 [(.tmp 31), (.const (.int .i64 10))] [.sl]), .sl, none⟩,
  ⟨(some 9), (.mv (.tmp 32)), .sl, none⟩] [0, 9, 6, 8, 7, 5])
 (.seq (.seq (.ops [⟨(some 33), (.mv (.tmp 0)), .ptr, none⟩,
  ⟨(some 34), (.nc (.tmp 33)), .any, none⟩,
  ⟨(some 35), (.fa 2 (.tmp 34)), .ptr, none⟩,
  ⟨(some 36), (.ld1 (.tmp 35)), (.int .i64), none⟩,
  ⟨(some 37), (.bin .neq (.tmp 36) (.const (.int .i64 0))), .bool, none⟩] [37, 9, 6, 0, 8, 7, 5])
 (.cond (.tmp 37)
 (.seq (.ops [⟨(some 4), (.mv (.const (.slice none 0 0))), .sl, none⟩] [4])
 .ret)
 .skip))
 (.seq (.ops [⟨(some 39), (.mv (.tmp 9)), .sl, none⟩,
  ⟨(some 40), (.call 113 [(.tmp 39)] [.agg, (.int .i64)]), .any, none⟩,
  ⟨(some 38), (.mv (.tmp 40)), .any, none⟩,
  ⟨(some 41), (.ext 0 (.tmp 38)), .agg, none⟩,
  ⟨(some 42), (.ext 1 (.tmp 38)), (.int .i64), none⟩,
  ⟨(some 10), (.alloc 129), .ptr, none⟩,
  ⟨none, (.stN 2 (.tmp 10) (.tmp 41)), .any, none⟩,
  ⟨(some 11), (.mv (.tmp 42)), (.int .i64), none⟩] [6, 10, 0, 8, 7, 5])
 (.seq (.join [(56, .bool)] [0, 5, 6, 7, 8, 10]
 (.draw (.take 0 ⟨(some 43), (.mv (.tmp 6)), .sl, none⟩
  (.take 1 ⟨(some 44), (.len (.tmp 43)), (.int .i64), none⟩
  (.take 2 ⟨(some 45), (.bin .gtr (.tmp 44) (.const (.int .i64 0))), .bool, none⟩
  (.take 3 ⟨(some 46), (.mv (.tmp 45)), .bool, none⟩
  (.take 4 ⟨(some 47), (.mv (.tmp 6)), .sl, (some (46, true))⟩
  (.take 5 ⟨(some 48), (.mv (.tmp 6)), .sl, (some (46, true))⟩
  (.take 6 ⟨(some 49), (.len (.tmp 48)), (.int .i64), (some (46, true))⟩
  (.take 7 ⟨(some 50), (.bin .sub (.tmp 49) (.const (.int .i64 1))), (.int .i64), (some (46, true))⟩
  (.take 8 ⟨(some 51), (.ia 2 (.tmp 47) (.tmp 50)), .ptr, (some (46, true))⟩
  (.take 9 ⟨(some 52), (.ldN 2 (.tmp 51)), .agg, (some (46, true))⟩
  (.take 10 ⟨(some 53), (.ldN 2 (.tmp 10)), .agg, (some (46, true))⟩
  (.go 11 ⟨(some 54), (.call 106 [(.tmp 52), (.tmp 53)] [(.int .i64)]), (.int .i64), (some (46, true))⟩ []
  (.take 12 ⟨(some 55), (.bin .geq (.tmp 54) (.const (.int .i64 0))), .bool, (some (46, true))⟩
  (.take 13 ⟨(some 56), (.pick (.tmp 46) (.tmp 55) (.const (.bool false))), .bool, none⟩
  .done)))))))))))))) [56, 0, 8, 6, 10, 7, 5])
 (.cond (.tmp 56)
 (.seq (.ops [⟨(some 57), (.mv (.tmp 0)), .ptr, none⟩,
  ⟨(some 58), (.mv (.tmp 8)), (.int .i64), none⟩,
  ⟨(some 59), (.nc (.tmp 57)), .any, none⟩,
  ⟨(some 60), (.fa 1 (.tmp 59)), .ptr, none⟩,
  ⟨none, (.st1 (.tmp 60) (.tmp 58)), .any, none⟩] [0])
 (.seq (.ops [⟨(some 61), (.mv (.tmp 0)), .ptr, none⟩,
  ⟨(some 62), (.nc (.tmp 61)), .any, none⟩,
  ⟨(some 63), (.fa 2 (.tmp 62)), .ptr, none⟩,
  ⟨none, (.st1 (.tmp 63) (.const (.int .i64 65))), .any, none⟩] [])
 (.seq (.ops [⟨(some 4), (.mv (.const (.slice none 0 0))), .sl, none⟩] [4])
 .ret)))
 .skip))
 (.ops [⟨(some 64), (.mv (.tmp 6)), .sl, none⟩,
  ⟨(some 65), (.ldN 2 (.tmp 10)), .agg, none⟩,
  ⟨(some 66), (.bldS 129 1 2 [(0, (.tmp 65))]), .sl, none⟩,
  ⟨(some 67), (.app #[74, 74] 74 (.tmp 64) (.tmp 66)), .sl, none⟩,
  ⟨(some 6), (.mv (.tmp 67)), .sl, none⟩] [7, 5, 0, 6])))))))
 (.ops [⟨(some 25), (.mv (.tmp 7)), (.int .u64), none⟩,
  ⟨(some 26), (.bin .add (.tmp 25) (.const (.int .u64 1))), (.int .u64), none⟩,
  ⟨(some 7), (.mv (.tmp 26)), (.int .u64), none⟩] [7, 5, 0, 6]))))))
 (.seq (.ops [⟨(some 68), (.mv (.tmp 6)), .sl, none⟩,
  ⟨(some 4), (.mv (.tmp 68)), .sl, none⟩] [4])
 .ret)))))
def r99 : List Res := [.t 4]
theorem tr99 : trS Tryd.prog [] 69 (Tryd.f99.body.getD .skip) s99 = some s99 := by kernel_rfl
theorem den99 (args : List Value) (w : World) (R : Ending → World → Prop) (hn : args.length ≤ 69) (h : denS Tryd.prog s99 (argsEnv 0 args) w (endK r99 R)) : Calls Tryd.prog 99 args.toArray w R :=
  calls_of_den (pn := []) (fn := Tryd.f99) (c := Tryd.f99.body.getD .skip) Tryd.func99 (by kernel_rfl) (by rw [Tryd.ntmps99]; exact hn) (by rw [Tryd.ntmps99]; exact tr99) (by kernel_rfl) h
def d99 (r0 : Option Addr) (most1 : Int) (w : World) (R : Ending → World → Prop) : Prop :=
 Calls Tryd.prog 51 #[(.pointer r0), (.int .u64 most1)] w fun e2 w3 => ∃ x4 : Int, e2 = .returned (.int .u64 x4) ∧
 ∃ I5 : Nat → Option Addr → Nat → Nat → Int → World → Prop,
 (∃ m, I5 m none 0 0 0 w3) ∧
 (∀ (m6 : Nat) (w7 : World) (l8 : Option Addr) (l8n : Nat) (l8c : Nat) (i9 : Int), I5 m6 l8 l8n l8c i9 w7 →
 ∃ J10 : World → Prop,
 ((bif (decide (i9 < x4)) then
 (optK r0 fun a11 =>
 ∃ x12 : Int, World.cell? w7 (Addr.add a11 2) = some (.int .i64 x12) ∧
 (bif (decide (x12 = 0)) then
 (J10  w7)
 else
 (R (.returned (.slice l8 l8n l8c)) w7)))
 else
 (R (.returned (.slice l8 l8n l8c)) w7))) ∧
 (∀ (w13 : World), J10  w13 →
 optK r0 fun a14 =>
 ∃ x15 : Int, World.cell? w13 (Addr.add a14 1) = some (.int .i64 x15) ∧
 Calls Tryd.prog 112 #[(.pointer r0), (.int .i64 10)] w13 fun e16 w17 => ∃ (x18 : Option Addr) (x18n : Nat) (x18c : Nat), e16 = .returned (.slice x18 x18n x18c) ∧
 optK r0 fun a19 =>
 ∃ x20 : Int, World.cell? w17 (Addr.add a19 2) = some (.int .i64 x20) ∧
 (bif (!decide (x20 = 0)) then
 (R (.returned (.slice none 0 0)) w17)
 else
 (Calls Tryd.prog 113 #[(.slice x18 x18n x18c)] w17 fun e21 w22 => ∃ x23 : Array Value, ∃ x24 : Int, e21 = .returned (.tuple #[(.agg x23), (.int .i64 x24)]) ∧
 ∃ x25 : Array Value, (#[(.agg x23), (.int .i64 x24)] : Array Value)[0]? = some (.agg x25) ∧
 ∃ x26 : Int, (#[(.agg x23), (.int .i64 x24)] : Array Value)[1]? = some (.int .i64 x26) ∧
 ∀ w27 : World, w27 = World.alloc w22 (.cells (zc Tryd.prog 129).toArray 129) →
 Array.size x25 = 2 ∧ (∀ u ∈ Array.toList x25, one u = true) ∧ Room w27 ⟨World.heap w22 |>.size, 0, none⟩ 2 ∧
 ∀ w28 : World, w28 = setCells w27 ⟨World.heap w22 |>.size, 0, none⟩ (Array.toList x25) 0 →
 ∃ J29 : Bool → World → Prop,
 (∀ w30 : World, w30 = World.drew w28 →
 (bif (decide (0 < ((l8n : Nat) : Int))) then
 (0 ≤ (IntKind.wrap .i64 (((l8n : Nat) : Int) - 1)) ∧ (IntKind.wrap .i64 (((l8n : Nat) : Int) - 1)) < ((l8n : Nat) : Int) ∧ optK l8 fun a31 =>
 ∃ cs32 : List Value, List.length cs32 = 2 ∧ Cells w30 (Addr.add a31 (Int.toNat (IntKind.wrap .i64 (((l8n : Nat) : Int) - 1)) * 2)) cs32 ∧
 ∃ cs33 : List Value, List.length cs33 = 2 ∧ Cells w30 ⟨World.heap w22 |>.size, 0, none⟩ cs33 ∧
 Calls Tryd.prog 106 #[(.agg (List.toArray cs32)), (.agg (List.toArray cs33))] w30 fun e34 w35 => ∃ x36 : Int, e34 = .returned (.int .i64 x36) ∧
 J29 (decide (0 ≤ x36)) w35)
 else
 (J29 false w30))) ∧
 (∀ (w37 : World) (x38 : Bool), J29 x38 w37 →
 (bif x38 then
 (optK r0 fun a39 =>
 one (.int .i64 x15) = true ∧ Option.isSome (World.cell? w37 (Addr.add a39 1)) = true ∧ World.frozen? w37 (Addr.add a39 1) = false ∧
 ∀ w40 : World, w40 = World.setCell w37 (Addr.add a39 1) (.int .i64 x15) →
 optK r0 fun a41 =>
 one (.int .i64 65) = true ∧ Option.isSome (World.cell? w40 (Addr.add a41 2)) = true ∧ World.frozen? w40 (Addr.add a41 2) = false ∧
 ∀ w42 : World, w42 = World.setCell w40 (Addr.add a41 2) (.int .i64 65) →
 R (.returned (.slice none 0 0)) w42)
 else
 (∃ cs43 : List Value, List.length cs43 = 2 ∧ Cells w37 ⟨World.heap w22 |>.size, 0, none⟩ cs43 ∧
 ∃ cs44, fillL (.elems 2) (zrep (zc Tryd.prog 129) (1 * 2)) [(0, (.agg (List.toArray cs43)))] = some cs44 ∧
 ∀ w45 : World, w45 = World.alloc w37 (.cells (List.toArray cs44) 129) →
 RunV Tryd.prog (Builtin.append_ #[74, 74] 74 #[(.slice l8 l8n l8c), (.slice (some ⟨World.heap w37 |>.size, 0, none⟩) 1 1)]) w45 fun v46 w47 => ∃ (x48 : Option Addr) (x48n : Nat) (x48c : Nat), v46 = (.slice x48 x48n x48c) ∧
 ∃ m49, m49 < m6 ∧ I5 m49 x48 x48n x48c (IntKind.wrap .u64 (i9 + 1)) w47)))))))
theorem e99 (r0 : Option Addr) (most1 : Int) (w : World) (R : Ending → World → Prop) : denS Tryd.prog s99 (argsEnv 0 [(.pointer r0), (.int .u64 most1)]) w (endK r99 R) = d99 r0 most1 w R := by kernel_rfl
theorem c99 (r0 : Option Addr) (most1 : Int) {w : World} {R : Ending → World → Prop} (h : d99 r0 most1 w R) : Calls Tryd.prog 99 #[(.pointer r0), (.int .u64 most1)] w R :=
  den99 [(.pointer r0), (.int .u64 most1)] w R (by simp) ((e99 r0 most1 w R).symm ▸ h)

end Go.Proofs.YtjchneebdlncfaaDoor.Fn
namespace Go.Proofs.YtjchneebdlncfaaDoor.Lib
open Go Den Fn
open Go.RowKit (Below)
open Classical
set_option maxRecDepth 8000
set_option maxHeartbeats 4000000
theorem zcKeyR : zc Tryd.prog 129 = kC (0, 0) := by kernel_rfl
theorem rUpto_on {bs : List Int} {most p : Nat} {e : Int} (he : e ≠ 0) : rUpto bs most p e = (0, p, e) := by unfold rUpto; rw [if_pos he]
theorem kI_kOfR {bs : List Int} (hB : Bytes bs) (p : Nat) : kI (kOf bs p) := by
  have hk := kOf_ok hB p
  have := hk.1
  unfold KeyOk at this
  exact ⟨by unfold I64; omega, hk.2⟩
/-- Writes into later blocks leave a reader alone. -/
theorem RdR.farR {w0 w u u' : World} {b n c p0 : Nat} {e0 : Int} {a : Option Addr} {bs : List Int} {st : Nat × Int} {s : List Nat} (h0 : Rd w0 b a n c bs p0 e0) (hw : w0.heap.size ≤ w.heap.size) (h : RdR w u b a n c bs st) (ht : Tch s u u') (hs : ∀ k ∈ s, w.heap.size ≤ k) : RdR w u' b a n c bs st := by
  have hbl := h0.blk.lt
  refine ⟨h.1.tch ht (fun hm => by have := hs b hm; omega) ?_, h.2.trans ht fun k hk => .inr (hs k hk)⟩
  rcases h0.row.low (by omega) with hl0 | hl0
  · exact .inl hl0
  · refine .inr fun z hz hm => ?_
    have := hs _ hm
    have := hl0 z hz
    omega
noncomputable def keysE (bs : List Int) (p : Nat) (e : Int) : List (Int × Int) × Nat × Int := if e ≠ 0 then ([], p, e) else keysS bs p
/-- What a list's reading comes to. -/
def RSetO (w : World) (b n c : Nat) (a : Option Addr) (bs : List Int) (K : List (Int × Int) × Nat × Int) (en : Ending) (w' : World) : Prop :=
  RdR w w' b a n c bs K.2 ∧ ∃ la lc, en = .returned (.slice la K.1.length lc) ∧ w'.ownsRow w.heap.size 129 2 (.slice la K.1.length lc) K.1.length (rows kC K.1)
theorem RSetO.bad {w w' : World} {b n c p : Nat} {a : Option Addr} {bs : List Int} {e : Int} {en : Ending} (h : RdR w w' b a n c bs (p, e)) (he : en = .returned (.slice none 0 0)) : RSetO w b n c a bs ([], p, e) en w' := ⟨h, none, 0, he, own_nil _ _ _ _⟩
theorem refKeys_c (w : World) (b n c p : Nat) (a : Option Addr) (bs : List Int) (e : Int) (h : Rd w b a n c bs p e) :
    Calls Tryd.prog 99 #[.pointer (some ⟨b, 0, none⟩), .int .u64 16] w (RSetO w b n c a bs (keysE bs p e)) := by
  refine c99 _ _ ?_
  unfold d99
  have hbl := h.blk.lt
  have hlen := h.len
  refine (refUpto_c w b n c p a bs e 16 h).mono ?_
  rintro en w3 ⟨rfl, hR⟩
  have hle := rUpto_le (most := 16) (e := e) h.B (by rw [h.len]; exact h.le)
  have hkE : keysE bs p e = if (rUpto bs 16 p e).2.2 ≠ 0 then ([], (rUpto bs 16 p e).2.1, (rUpto bs 16 p e).2.2) else kS bs (rUpto bs 16 p e).1 (rUpto bs 16 p e).2.1 [] := by
    unfold keysE
    by_cases he : e ≠ 0
    · rw [if_pos he, rUpto_on he, if_pos he]
    · obtain rfl : e = 0 := by simpa using he
      rw [if_neg he]
      unfold keysS
      by_cases h1 : (rUpto bs 16 p 0).2.2 ≠ 0
      · rw [if_pos h1, if_pos h1, (rUpto_err h1).2]
      · rw [if_neg h1, if_neg h1]
  have hz : (rUpto bs 16 p e).2.2 ≠ 0 → (rUpto bs 16 p e).1 = 0 := by
    intro h1
    by_cases he : e ≠ 0
    · rw [rUpto_on he]
    · obtain rfl : e = 0 := by simpa using he
      exact (rUpto_err h1).1
  rw [hkE]
  generalize hu : rUpto bs 16 p e = u at *
  obtain ⟨cnt, p1, e1⟩ := u
  simp only at hle hz ⊢ hR
  refine ⟨_, rfl, fun m l ln lc x u => ∃ (q p' : Nat) (acc : List (Int × Int)), x = q ∧ q ≤ cnt ∧ m = cnt - q ∧ ln = acc.length ∧ acc.length = q ∧ (∀ k ∈ acc, kI k) ∧ RdR w u b a n c bs (p', e1) ∧ u.ownsRow w.heap.size 129 2 (.slice l ln lc) ln (rows kC acc) ∧ (e1 = 0 → kS bs cnt p1 [] = kS bs (cnt - q) p' acc) ∧ (e1 ≠ 0 → p' = p1),
    ⟨cnt, 0, p1, [], rfl, by omega, rfl, rfl, rfl, by simp, hR, own_nil _ _ _ _, fun _ => rfl, fun _ => rfl⟩, ?_⟩
  clear hR
  rintro m w7 l ln lc x ⟨q, p', acc, rfl, hq, rfl, rfl, hal, hki, hR, hown, hk, hp⟩
  have hs7 := hR.2.size
  by_cases he1 : e1 ≠ 0
  · have hc0 := hz he1
    subst hc0
    obtain rfl : q = 0 := by omega
    have hacc : acc = [] := List.length_eq_zero_iff.1 hal
    subst hacc
    rw [hp he1] at hR
    refine ⟨fun _ => False, ?_, fun _ h => h.elim⟩
    rw [bif_neg (by omega)]
    rw [if_pos he1]
    exact ⟨hR, l, lc, rfl, hown⟩
  obtain rfl : e1 = 0 := by simpa using he1
  rw [if_neg he1]
  replace hk := hk rfl
  rw [hk]
  have hp7 := hR.1.le
  by_cases hlt : q < cnt
  rotate_left
  · refine ⟨fun _ => False, ?_, fun _ h => h.elim⟩
    rw [bif_neg (by omega)]
    have : cnt - q = 0 := by omega
    rw [this]
    exact ⟨hR, l, lc, rfl, hown⟩
  refine ⟨fun u => u = w7, ?_, ?_⟩
  · rw [bif_pos (by omega)]
    refine hR.1.err ?_
    rw [bif_pos rfl]
  rintro w13 rfl
  obtain ⟨r, hr⟩ : ∃ r, cnt - q = r + 1 := ⟨cnt - q - 1, by omega⟩
  rw [hr] at hk ⊢
  refine hR.1.at ?_
  refine (refRaw_c w13 b n c p' a bs 0 10 hR.1).mono ?_
  rintro en w17 ⟨xa, xc, rfl, hR17, hx⟩
  have hown17 := own_up hown hR17.2 (fun z hz hm => by
    simp only [List.mem_singleton] at hm
    have := (own_lt hown hz).1
    omega)
  refine ⟨_, _, _, rfl, hR17.1.err ?_⟩
  have hRw := hR.trans hR17
  by_cases he : (rRaw bs 10 p' 0).2.2 ≠ 0
  · rw [bif_nneg (by simpa using he)]
    have : kS bs (r + 1) p' acc = ([], p', (rRaw bs 10 p' 0).2.2) := by unfold kS; rw [if_pos he]
    rw [this]
    have hpp : (rRaw bs 10 p' 0).2 = (p', (rRaw bs 10 p' 0).2.2) := by
      rcases raw10 bs p' with g | g
      · exact absurd (by rw [g.2]) he
      · exact Prod.ext g.2.2.1 rfl
    rw [hpp] at hRw
    exact RSetO.bad hRw rfl
  rw [bif_npos (by simpa using he)]
  have hraw : p' + 10 ≤ bs.length ∧ rRaw bs 10 p' 0 = ((bs.drop p').take 10, p' + 10, 0) := by
    rcases raw10 bs p' with g | g
    · exact g
    · exact absurd g.2.2.2 he
  rw [hraw.2] at hx hRw
  rw [show (rRaw bs 10 p' 0).1 = (bs.drop p').take 10 by rw [hraw.2]]
  have hx17 := own_rsl hx ones_ints
  refine (refFromBytes_c w17 ((bs.drop p').take 10) xa _ xc hx17 ((h.B.drop p').take 10)).mono ?_
  rintro en w22 ⟨rfl, t22⟩
  refine ⟨_, _, rfl, _, rfl, _, rfl, ?_⟩
  replace hRw := hRw.post t22
  have hown22 := own_up hown17 t22 (fun _ _ h => by cases h)
  show ∀ w27 : World, w27 = World.alloc w22 _ → Array.size (List.toArray (kC (kOf bs p'))) = 2 ∧ _
  refine var_init (n := 2) (by rw [zcKeyR]; rfl) rfl kC_one fun w27 w28 kk t28 s28 => ?_
  have hkI := kI_kOfR h.B p'
  replace hRw := hRw.post t28
  have hown28 := own_up hown22 t28 (fun _ _ h => by cases h)
  generalize w22.heap.size = kb at *
  have hkS : kS bs (r + 1) p' acc = if clash acc (kOf bs p') then ([], p', 65) else kS bs r (p' + 10) (acc ++ [kOf bs p']) := by
    conv => lhs; unfold kS
    rw [if_neg he]
  refine ⟨fun y u => Tch [] w28 u ∧ y = decide (clash acc (kOf bs p')), ?_, ?_⟩
  · rintro w30 rfl
    have td := (Tch.refl [] w28).drew
    by_cases h0 : 0 < acc.length
    rotate_left
    · rw [bif_neg (by omega)]
      refine ⟨td, ?_⟩
      rw [decide_eq_false]
      rintro ⟨l, hl, _⟩
      have : acc = [] := List.length_eq_zero_iff.1 (by omega)
      rw [this] at hl
      cases hl
    rw [bif_pos (by omega), wrap_i64 (by omega) (by omega)]
    refine ⟨by omega, by omega, ?_⟩
    have hlast : acc[acc.length - 1]? = some (acc[acc.length - 1]'(by omega)) := List.getElem?_eq_getElem (by omega)
    have hgl : acc.getLast? = some (acc[acc.length - 1]'(by omega)) := by rw [List.getLast?_eq_getElem?]; exact hlast
    generalize acc[acc.length - 1]'(by omega) = y at hlast hgl
    rw [show ((acc.length : Int) - 1).toNat = acc.length - 1 by omega]
    refine (own_rsl (own_up hown28 td (fun _ _ h => by cases h)) kCs_one).elem kC_len (by omega) hlast ?_
    refine get_all (kk.tch td (by simp)) rfl ?_
    refine (refCompare_c y (kOf bs p') _).mono ?_
    rintro en w35 ⟨rfl, t35⟩
    refine ⟨_, rfl, td.trans t35 (by simp), decide_eq_decide.2 ⟨fun hc => ⟨y, hgl, hc⟩, ?_⟩⟩
    rintro ⟨z, hz, hzc⟩
    rw [hgl] at hz
    cases hz
    exact hzc
  rintro w37 y ⟨t37, rfl⟩
  replace hRw := hRw.post t37
  by_cases hc : clash acc (kOf bs p')
  · rw [bif_pos hc, hkS, if_pos hc]
    refine hRw.1.setAt rfl (by show p' ≤ n; omega) fun w40 hR40 => ?_
    refine hR40.1.setErr 65 fun w42 hR42 => ?_
    exact RSetO.bad ((hRw.trans hR40).trans hR42) rfl
  rw [bif_neg hc]
  rw [hkS, if_neg hc] at hk
  refine get_all (kk.tch t37 (by simp)) rfl ?_
  have hown37 := own_up hown28 t37 (fun _ _ h => by cases h)
  have hs37 := hRw.2.size
  refine app_elem_at kT hown37 (by rw [zcKeyR]; rfl) (ys := kC (kOf bs p')) rfl rfl kC_one (by omega) (by omega) (by omega) fun a5 c5 w45 o5 t5 m5 => ?_
  have hge := own_ge hown37
  have far : ∀ k ∈ rowL l, w.heap.size ≤ k := fun k hk => by
    rw [mem_rowL] at hk
    obtain ⟨z, hz, rfl⟩ := hk
    exact (hge z hz).1
  refine ⟨r, by omega, q + 1, p' + 10, acc ++ [kOf bs p'], by rw [wrap_u64 (by omega) (by omega)]; omega, by omega, by omega, by simp, by simp [hal], fun k hm => ?_, hRw.farR h (Nat.le_refl _) t5 far, ?_, fun _ => ?_, fun hne => absurd rfl hne⟩
  · rcases List.mem_append.1 hm with hm | hm
    · exact hki k hm
    · rw [List.mem_singleton.1 hm]; exact hkI
  · rw [rows_append, show rows kC [kOf bs p'] = kC (kOf bs p') by simp [rows]]
    exact o5
  · rw [hkS, if_neg hc, show cnt - (q + 1) = r by omega]
/-! ### A transaction -/
theorem zcTxR : zc Tryd.prog 76 = [.int .i64 0, .slice none 0 0, .slice none 0 0, .slice none 0 0] := by kernel_rfl
theorem i64TR : slT Tryd.prog 73 2 1 8 = true := by kernel_rfl
theorem zcI64R : zc Tryd.prog 2 = [.int .i64 0] := by kernel_rfl
theorem put_cellR {w : World} {b : Nat} {cs : List Value} (h : Blk w b cs) (o : Nat) (ho : o < cs.length) {v : Value} (h1 : one v = true) {K : World → Prop}
    (hK : ∀ w', Blk w' b (cs.set o v) → Tch [b] w w' → w'.heap.size = w.heap.size → K w') :
    one v = true ∧ Option.isSome (World.cell? w (Addr.add ⟨b, 0, none⟩ o)) = true ∧ World.frozen? w (Addr.add ⟨b, 0, none⟩ o) = false ∧ ∀ w' : World, w' = World.setCell w (Addr.add ⟨b, 0, none⟩ o) v → K w' := by
  rw [add_mk, Nat.zero_add]
  refine ⟨h1, by rw [h.cell, List.getElem?_eq_getElem ho]; rfl, h.frozen _, ?_⟩
  rintro w' rfl
  exact hK _ (h.set o v) ((Tch.refl [b] w).setCell (p := ⟨b, o, none⟩) (.inl (by simp)) v) (World.size_setCell _ _ _)
theorem keysE_err {bs : List Int} {p : Nat} {e : Int} (he : e ≠ 0) : keysE bs p e = ([], p, e) := by unfold keysE; rw [if_pos he]
theorem keysE_ok {bs : List Int} (hB : Bytes bs) {p : Nat} (hp : p ≤ bs.length) (e : Int) : (keysE bs p e).2.1 ≤ bs.length ∧ (∀ k ∈ (keysE bs p e).1, kI k) ∧ (keysE bs p e).1.length ≤ 16 := by
  unfold keysE
  split
  · exact ⟨hp, by simp, by simp⟩
  · exact keysS_ok hB hp
/-- What a transaction's reading comes to: any one, where something is wrong. -/
def ROneO (w : World) (b n c : Nat) (a : Option Addr) (bs : List Int) (T : Tx × Nat × Int) (en : Ending) (w' : World) : Prop :=
  RdR w w' b a n c bs T.2 ∧ ∃ (v : List Value) (x : Tx), en = .returned (.agg v.toArray) ∧ TxV (fun k => w.heap.size ≤ k ∧ k < w'.heap.size) w' v x ∧ (T.2.2 = 0 → x = T.1)
theorem refOne_c (w : World) (b n c p : Nat) (a : Option Addr) (bs : List Int) (h : Rd w b a n c bs p 0) :
    Calls Tryd.prog 83 #[.pointer (some ⟨b, 0, none⟩)] w (ROneO w b n c a bs (txS bs p)) := by
  refine c83 _ ?_
  unfold d83
  rintro w1 rfl w2 rfl
  have hlen := h.len
  have hbl := h.blk.lt
  have hZ : Blk _ _ [.int .i64 0, .slice none 0 0, .slice none 0 0, .slice none 0 0] := Blk.fresh w (cs := zc Tryd.prog 76) 76 zcTxR
  have t1 := (Tch.refl [] w).alloc (.cells (zc Tryd.prog 76).toArray 76)
  have s1 := size_alloc w (.cells (zc Tryd.prog 76).toArray 76)
  generalize w.alloc (.cells (zc Tryd.prog 76).toArray 76) = w1 at *
  have hX : Blk _ _ [.int .i64 0, .slice none 0 0, .slice none 0 0, .slice none 0 0] := Blk.fresh w1 (cs := zc Tryd.prog 76) 76 zcTxR
  have t2 := (Tch.refl [] w1).alloc (.cells (zc Tryd.prog 76).toArray 76)
  have s2 := size_alloc w1 (.cells (zc Tryd.prog 76).toArray 76)
  generalize w1.alloc (.cells (zc Tryd.prog 76).toArray 76) = w2 at *
  replace hZ := hZ.tch t2 (by simp)
  have t := t1.trans t2 (by simp)
  obtain ⟨zb, hzb⟩ : ∃ zb, w.heap.size = zb := ⟨_, rfl⟩
  obtain ⟨xb, hxb⟩ : ∃ xb, w1.heap.size = xb := ⟨_, rfl⟩
  rw [hzb] at hZ s1 hbl
  rw [hxb] at hX s2 s1
  rw [hzb, hxb]
  clear t1 t2
  have hR0 : RdR w w2 b a n c bs (p, 0) := ⟨h.quiet t, t.weaken (by simp)⟩
  refine (refUpto_c w2 b n c p a bs 0 63 hR0.1).mono ?_
  rintro en w4 ⟨rfl, hR⟩
  have hle := rUpto_le (most := 63) (e := 0) h.B (by rw [h.len]; exact h.le)
  have htx : txS bs p = tx1 bs (rUpto bs 63 p 0) := rfl
  have hue : (rUpto bs 63 p 0).2.2 ≠ 0 → (rUpto bs 63 p 0).1 = 0 ∧ (rUpto bs 63 p 0).2.1 = p := rUpto_err
  generalize hu : rUpto bs 63 p 0 = u1 at *
  obtain ⟨pr, p1, e1⟩ := u1
  simp only at hR hle hue
  replace hZ := hZ.tch hR.2 (by simp; omega)
  replace hX := hX.tch hR.2 (by simp; omega)
  replace hR := hR0.trans hR
  refine ⟨_, rfl, ?_⟩
  rw [wrap_i64 (by omega) (by omega)]
  refine put_cellR hX 0 (by simp) rfl fun w6 hX6 t6 s6 => ?_
  replace hX6 : Blk w6 xb [.int .i64 (pr : Int), .slice none 0 0, .slice none 0 0, .slice none 0 0] := hX6
  replace hZ := hZ.tch t6 (by simp; omega)
  replace hR := hR.farR h (Nat.le_refl _) t6 (fun k hk => by simp at hk; omega)
  refine (refUpto_c w6 b n c p1 a bs e1 16 hR.1).mono ?_
  rintro en w8 ⟨rfl, hR8⟩
  have hle2 := rUpto_le (most := 16) (e := e1) h.B hle.1
  replace hZ := hZ.tch hR8.2 (by simp; omega)
  replace hX := hX6.tch hR8.2 (by simp; omega)
  replace hR := hR.trans hR8
  -- the count; the state behind it
  have hst : ∃ (cnt p2 : Nat) (e2 : Int), rUpto bs 16 p1 e1 = (cnt, p2, e2) ∧ (e2 ≠ 0 → cnt = 0 ∧ (txS bs p).2 = (p2, e2)) ∧ (e2 = 0 → txS bs p = tx3 bs pr (aS bs cnt p2 [])) := by
    refine ⟨(rUpto bs 16 p1 e1).1, (rUpto bs 16 p1 e1).2.1, (rUpto bs 16 p1 e1).2.2, rfl, ?_⟩
    by_cases he1 : e1 ≠ 0
    · rw [rUpto_on he1]
      refine ⟨fun _ => ⟨rfl, ?_⟩, fun h0 => absurd h0 he1⟩
      rw [htx]; unfold tx1; rw [if_pos he1]
    · obtain rfl : e1 = 0 := by simpa using he1
      have ht : txS bs p = tx2 bs pr (rUpto bs 16 p1 0) := by rw [htx]; unfold tx1; rw [if_neg (by simp)]
      refine ⟨fun he2 => ⟨(rUpto_err he2).1, ?_⟩, fun he2 => ?_⟩
      · rw [ht]; unfold tx2; rw [if_pos he2]
      · rw [ht]; unfold tx2; rw [if_neg (by simpa using he2)]
  obtain ⟨cnt, p2, e2, hu2, hbad, hgood⟩ := hst
  rw [hu2] at hR hle2 ⊢
  simp only at hR hle2
  clear hR8 hR0 hue htx hu hX6 t6 s6 t
  have hs8 := hX.lt
  refine ⟨_, rfl, ?_⟩
  -- behind the numbers
  let J : World → Prop := fun u => ∃ (p' : Nat) (e' : Int) (acc : List Int) (la : Option Addr) (lc : Nat), RdR w u b a n c bs (p', e') ∧ p' ≤ bs.length ∧ Blk u zb [.int .i64 0, .slice none 0 0, .slice none 0 0, .slice none 0 0] ∧ Blk u xb [.int .i64 (pr : Int), .slice la acc.length lc, .slice none 0 0, .slice none 0 0] ∧ u.ownsRow (xb + 1) 2 1 (.slice la acc.length lc) acc.length (i64s acc) ∧ (∀ v ∈ acc, I64 v) ∧ (e' ≠ 0 → (txS bs p).2 = (p', e')) ∧ (e' = 0 → txS bs p = tx4 bs pr acc (keysS bs p'))
  refine ⟨J, ?_, ?_⟩
  · refine ⟨fun m x u => ∃ (q p' : Nat) (e' : Int) (acc : List Int) (la : Option Addr) (lc : Nat), x = q ∧ q ≤ cnt ∧ m = cnt - q ∧ acc.length = q ∧ RdR w u b a n c bs (p', e') ∧ p' ≤ bs.length ∧ Blk u zb [.int .i64 0, .slice none 0 0, .slice none 0 0, .slice none 0 0] ∧ Blk u xb [.int .i64 (pr : Int), .slice la q lc, .slice none 0 0, .slice none 0 0] ∧ u.ownsRow (xb + 1) 2 1 (.slice la q lc) q (i64s acc) ∧ (∀ v ∈ acc, I64 v) ∧ (e' ≠ 0 → (txS bs p).2 = (p', e')) ∧ (e' = 0 → txS bs p = tx3 bs pr (aS bs (cnt - q) p' acc)),
      ⟨cnt, 0, p2, e2, [], none, 0, rfl, by omega, rfl, rfl, hR, hle2.1, hZ, hX, own_nil _ _ _ _, by simp, fun h => (hbad h).2, hgood⟩, ?_⟩
    clear hR hZ hX hbad hgood
    rintro m w13 x ⟨q, p', e', acc, la, lc, rfl, hq, rfl, hal, hR, hp', hZ, hX, hown, hai, hb, hg⟩
    have hX13 := hX.lt
    by_cases hlt : q < cnt ∧ e' = 0
    rotate_left
    · have hJ : J w13 := by
        refine ⟨p', e', acc, la, lc, hR, hp', hZ, by rw [hal]; exact hX, by rw [hal]; exact hown, hai, hb, fun he => ?_⟩
        have : cnt - q = 0 := by have : ¬ q < cnt := fun hh => hlt ⟨hh, he⟩; omega
        rw [hg he, this]
        unfold aS tx3
        rw [if_neg (by simp)]
      refine ⟨fun _ => False, ?_, fun _ h => h.elim⟩
      by_cases hq2 : q < cnt
      · rw [bif_pos (by omega)]
        refine hR.1.err ?_
        rw [bif_neg (fun hh => hlt ⟨hq2, hh⟩)]
        exact hJ
      · rw [bif_neg (by omega)]
        exact hJ
    obtain ⟨hlt, rfl⟩ := hlt
    refine ⟨fun u => u = w13, ?_, ?_⟩
    · rw [bif_pos (by omega)]
      refine hR.1.err ?_
      rw [bif_pos rfl]
    rintro w18 rfl
    obtain ⟨r, hr⟩ : ∃ r, cnt - q = r + 1 := ⟨cnt - q - 1, by omega⟩
    replace hg := hg rfl
    rw [hr] at hg
    refine (refIntR_c w18 b n c p' a bs 0 hR.1).mono ?_
    rintro en w20 ⟨rfl, hR20⟩
    have haS : aS bs (r + 1) p' acc = if (rInt bs p' 0).2.2 ≠ 0 then ([], p', (rInt bs p' 0).2.2) else aS bs r (rInt bs p' 0).2.1 (acc ++ [(rInt bs p' 0).1]) := rfl
    obtain ⟨hle3, hi3⟩ := rInt_le h.B hp'
    have her : (rInt bs p' 0).2.2 ≠ 0 → (rInt bs p' 0).2.1 = p' := rInt_err
    generalize hI : rInt bs p' 0 = I at *
    obtain ⟨iv0, p3, e3⟩ := I
    simp only at hR20 hle3 hi3 haS her ⊢
    have hZ20 := hZ.tch hR20.2 (by simp; omega)
    have hX20 := hX.tch hR20.2 (by simp; omega)
    have hown20 := own_up hown hR20.2 (fun z hz hm => by
      simp only [List.mem_singleton] at hm
      have := (own_lt hown hz).1
      omega)
    have hRw := hR.trans hR20
    have hs20 := hX20.lt
    have hRws := hRw.2.size
    refine ⟨_, rfl, la, q, lc, by rw [add_mk]; exact hX20.cell 1, ?_⟩
    refine app_elem_at i64TR hown20 (by rw [zcI64R]; rfl) (ys := [.int .i64 iv0]) rfl rfl (by simp [one]) (by omega) (by omega) (by omega) fun a5 c5 w26 o5 t5 m5 => ?_
    have hge := own_ge hown20
    have far5 : ∀ k ∈ rowL la, xb + 1 ≤ k := fun k hk => by
      rw [mem_rowL] at hk
      obtain ⟨z, hz, rfl⟩ := hk
      exact (hge z hz).1
    have hX26 := hX20.tch t5 (fun hm => by have := far5 _ hm; omega)
    refine put_cellR hX26 1 (by simp) rfl fun w28 hX28 t28 s28 => ?_
    refine ⟨r, by omega, q + 1, p3, e3, acc ++ [iv0], a5, c5, by rw [wrap_u64 (by omega) (by omega)]; omega, by omega, by omega, by simp [hal], ?_, hle3, ?_, hX28, ?_, fun v hm => ?_, fun he3 => ?_, fun he3 => ?_⟩
    · exact (hRw.farR h (Nat.le_refl _) t5 fun k hk => by have := far5 k hk; omega).farR h (Nat.le_refl _) t28 fun k hk => by simp at hk; omega
    · exact (hZ20.tch t5 (fun hm => by have := far5 _ hm; omega)).tch t28 (by simp; omega)
    · rw [show i64s (acc ++ [iv0]) = i64s acc ++ [.int .i64 iv0] by simp]
      exact own_up o5 t28 (fun z hz hm => by
        simp only [List.mem_singleton] at hm
        have := (own_lt o5 hz).1
        omega)
    · rcases List.mem_append.1 hm with hm | hm
      · exact hai v hm
      · rw [List.mem_singleton.1 hm]; exact hi3
    · rw [hg, haS, if_pos he3]
      unfold tx3
      rw [if_pos he3, her he3]
    · rw [hg, haS, if_neg (by simpa using he3), show cnt - (q + 1) = r by omega]
  clear hR hZ hX hbad hgood
  rintro w30 ⟨p', e', acc, la, lc, hR, hp', hZ, hX, hown, hai, hb, hg⟩
  have hX30 := hX.lt
  have hRs := hR.2.size
  refine (refKeys_c w30 b n c p' a bs e' hR.1).mono ?_
  rintro en w32 ⟨hR32, ra, rc, rfl, hor⟩
  have hkok := keysE_ok h.B hp' e'
  have hK : (e' = 0 ∧ keysE bs p' e' = keysS bs p') ∨ (e' ≠ 0 ∧ keysE bs p' e' = ([], p', e')) := by
    by_cases he : e' = 0
    · exact .inl ⟨he, by unfold keysE; rw [if_neg (by simpa using he)]⟩
    · exact .inr ⟨he, keysE_err he⟩
  generalize hK1 : keysE bs p' e' = K1 at *
  have hb1 : K1.2.2 ≠ 0 → (txS bs p).2 = (K1.2.1, K1.2.2) := fun hne => by
    rcases hK with ⟨h0, hk⟩ | ⟨h0, hk⟩
    · rw [hg h0, ← hk]; unfold tx4; rw [if_pos hne]
    · rw [hk] at hne ⊢; exact hb h0
  have hg1 : K1.2.2 = 0 → txS bs p = tx5 pr acc K1.1 (keysS bs K1.2.1) := fun he => by
    rcases hK with ⟨h0, hk⟩ | ⟨h0, hk⟩
    · rw [hg h0, ← hk]; unfold tx4; rw [if_neg (by simpa using he)]
    · rw [hk] at he; exact absurd he h0
  refine ⟨_, _, _, rfl, ?_⟩
  have hZ32 := hZ.tch hR32.2 (by simp; omega)
  have hX32 := hX.tch hR32.2 (by simp; omega)
  have hown32 := own_up hown hR32.2 (fun z hz hm => by
    simp only [List.mem_singleton] at hm
    have := (own_lt hown hz).1
    omega)
  have hRw := hR.trans hR32
  have s32 := hR32.2.size
  refine put_cellR hX32 2 (by simp) rfl fun w34 hX34 t34 s34 => ?_
  have offx : ∀ {base e size : Nat} {v : Value} {k : Nat} {xs : List Value} {u u' : World} {j : Nat}, u.ownsRow base e size v k xs → j < base → Tch [j] u u' → u'.ownsRow base e size v k xs := fun ho hb ht => own_up ho ht (fun z hz hm => by
    simp only [List.mem_singleton] at hm
    have := (own_lt ho hz).1
    omega)
  have hown34 := offx hown32 (by omega) t34
  have hor34 := offx hor (by omega) t34
  have hZ34 := hZ32.tch t34 (by simp; omega)
  have hR34 := hRw.farR h (Nat.le_refl _) t34 (fun k hk => by simp at hk; omega)
  refine (refKeys_c w34 b n c K1.2.1 a bs K1.2.2 hR34.1).mono ?_
  rintro en w36 ⟨hR36, wa, wc, rfl, how⟩
  have hkok2 := keysE_ok h.B hkok.1 K1.2.2
  have hK2' : (K1.2.2 = 0 ∧ keysE bs K1.2.1 K1.2.2 = keysS bs K1.2.1) ∨ (K1.2.2 ≠ 0 ∧ keysE bs K1.2.1 K1.2.2 = ([], K1.2.1, K1.2.2)) := by
    by_cases he : K1.2.2 = 0
    · exact .inl ⟨he, by unfold keysE; rw [if_neg (by simpa using he)]⟩
    · exact .inr ⟨he, keysE_err he⟩
  generalize hK2 : keysE bs K1.2.1 K1.2.2 = K2 at *
  have hfin : (txS bs p).2 = K2.2 ∧ (K2.2.2 = 0 → txS bs p = (⟨(pr : Int), acc, K1.1, K2.1⟩, K2.2.1, 0)) := by
    rcases hK2' with ⟨h0, hk⟩ | ⟨h0, hk⟩
    · have hh := hg1 h0
      rw [← hk] at hh
      by_cases he : K2.2.2 = 0
      · have : txS bs p = (⟨(pr : Int), acc, K1.1, K2.1⟩, K2.2.1, 0) := by rw [hh]; unfold tx5; rw [if_neg (by simpa using he)]
        exact ⟨by rw [this]; exact Prod.ext rfl he.symm, fun _ => this⟩
      · exact ⟨by rw [hh]; unfold tx5; rw [if_pos he], fun h => absurd h he⟩
    · rw [hk]
      exact ⟨hb1 h0, fun h => absurd h h0⟩
  refine ⟨_, _, _, rfl, ?_⟩
  have hZ36 := hZ34.tch hR36.2 (by simp; omega)
  have hX36 := hX34.tch hR36.2 (by simp; omega)
  have hown36 := offx hown34 (by omega) hR36.2
  have hor36 := offx hor34 (by omega) hR36.2
  have hRw2 := hR34.trans hR36
  have s36 := hR36.2.size
  refine put_cellR hX36 3 (by simp) rfl fun w38 hX38 t38 s38 => ?_
  have hown38 := offx hown36 (by omega) t38
  have hor38 := offx hor36 (by omega) t38
  have how38 := offx how (by omega) t38
  have hZ38 := hZ36.tch t38 (by simp; omega)
  have hR38 := hRw2.farR h (Nat.le_refl _) t38 (fun k hk => by simp at hk; omega)
  refine get_all hX38 rfl ?_
  refine put_all (n := 4) hZ38 rfl rfl (by simp [one]) fun w40 hZ40 t40 s40 => ?_
  have hown40 := offx hown38 (by omega) t40
  have hor40 := offx hor38 (by omega) t40
  have how40 := offx how38 (by omega) t40
  have hR40 := hR38.farR h (Nat.le_refl _) t40 (fun k hk => by simp at hk; omega)
  refine get_all hZ40 rfl ?_
  have hI : I64 ((pr : Nat) : Int) := by unfold I64; omega
  refine ⟨by rw [hfin.1]; exact hR40, _, ⟨(pr : Int), acc, K1.1, K2.1⟩, rfl, ⟨la, _, lc, ra, _, rc, wa, _, wc, rfl, (FR.own hown40 (by simp [one])).mono fun k hk => ⟨by omega, hk.2⟩, (FR.own hor40 kCs_one).mono fun k hk => ⟨by omega, hk.2⟩, (FR.own how40 kCs_one).mono fun k hk => ⟨by omega, hk.2⟩, ⟨hI, hai, hkok.2.1, hkok2.2.1⟩⟩, fun h0 => ?_⟩
  rw [hfin.2 (by rw [← hfin.1]; exact h0)]
end Go.Proofs.YtjchneebdlncfaaDoor.Lib
namespace Go.Proofs.YtjchneebdlncfaaDoor.Lib
open Go Den Fn
open Go.RowKit (Below)
open Classical
set_option maxRecDepth 8000
set_option maxHeartbeats 4000000
theorem zcRdR : zc Tryd.prog 104 = [.slice none 0 0, .int .i64 0, .int .i64 0] := by kernel_rfl
theorem refDecode_c (w : World) (bs : List Int) (xa : Option Addr) (n xc : Nat) (hr : RSl w 1 xa n xc (u8 bs)) (hBy : Bytes bs) (hN : n ≤ 140737488355328) :
    Calls Tryd.prog 48 #[.slice xa n xc] w (DecO w (decS bs)) := by
  refine c48 _ _ _ ?_
  unfold d48
  refine ⟨[.slice xa n xc, .int .i64 0, .int .i64 0], by rw [zcRdR]; rfl, ?_⟩
  rintro w2 rfl
  have hlen := u8_len hr
  have hlow := hr.low (by omega)
  have kR : Blk _ _ [Value.slice xa n xc, .int .i64 0, .int .i64 0] := Blk.fresh w (cs := [Value.slice xa n xc, .int .i64 0, .int .i64 0]) 104 rfl
  have t := (Tch.refl [] w).alloc (.cells [Value.slice xa n xc, .int .i64 0, .int .i64 0].toArray 104)
  have s2 := size_alloc w (.cells [Value.slice xa n xc, .int .i64 0, .int .i64 0].toArray 104)
  generalize w.alloc (.cells [Value.slice xa n xc, .int .i64 0, .int .i64 0].toArray 104) = w2 at *
  obtain ⟨rb, hrb⟩ : ∃ rb, w.heap.size = rb := ⟨_, rfl⟩
  rw [hrb] at kR s2 hlow
  rw [hrb]
  have hRd : Rd w2 rb xa n xc bs 0 0 := ⟨kR, hr.tch t (fun _ _ h => by cases h), hlow.imp id fun hl z hz hm => by have := hl z hz; simp at hm; omega, Nat.zero_le _, hBy, hN⟩
  have far : ∀ {u : World} {s : List Nat}, Tch [] w u → ∀ {u'}, Tch s u u' → (∀ k ∈ s, rb ≤ k) → Tch [] w u' := fun h _ ht hs => h.trans ht fun k hk => .inr (by have := hs k hk; omega)
  refine (refUpto_c w2 rb n xc 0 xa bs 0 64 hRd).mono ?_
  rintro en w4 ⟨rfl, hR⟩
  have hle := rUpto_le (most := 64) (e := 0) hBy (p := 0) (by omega)
  have hdec : decS bs = dec1 bs (rUpto bs 64 0 0) := rfl
  have hue : (rUpto bs 64 0 0).2.2 ≠ 0 → (rUpto bs 64 0 0).1 = 0 ∧ (rUpto bs 64 0 0).2.1 = 0 := rUpto_err
  generalize hu : rUpto bs 64 0 0 = u1 at *
  obtain ⟨cnt, p1, e1⟩ := u1
  simp only at hle hue hR ⊢
  have t4 : Tch [] w w4 := far t hR.2 (by simp)
  have hs4 := hR.1.blk.lt
  have hbad : e1 ≠ 0 → decS bs = ([], p1, e1) := fun he => by rw [hdec]; unfold dec1; rw [if_pos he]
  have hgood : e1 = 0 → decS bs = dec2 bs (txsS bs cnt p1 []) := fun he => by rw [hdec]; unfold dec1; rw [if_neg (by simpa using he)]
  refine ⟨_, rfl, fun la ln lc u => ∃ (p' : Nat) (e' : Int) (acc : List Tx), Rd u rb xa n xc bs p' e' ∧ Tch [] w u ∧ Grows (rb + 1) u la ln lc acc ∧ (e' ≠ 0 → decS bs = ([], p', e')) ∧ (e' = 0 → decS bs = dec2 bs (acc, p', 0)), ?_, ?_⟩
  · refine ⟨fun m la ln lc x u => ∃ (q p' : Nat) (e' : Int) (acc : List Tx), x = q ∧ q ≤ cnt ∧ m = cnt - q ∧ acc.length = q ∧ ln = q ∧ Rd u rb xa n xc bs p' e' ∧ Tch [] w u ∧ Grows (rb + 1) u la ln lc acc ∧ (e' ≠ 0 → decS bs = ([], p', e')) ∧ (e' = 0 → decS bs = dec2 bs (txsS bs (cnt - q) p' acc)),
      ⟨cnt, 0, p1, e1, [], rfl, by omega, rfl, rfl, rfl, hR.1, t4, Grows.nil _ _, hbad, hgood⟩, ?_⟩
    clear hR t4 hbad hgood
    rintro m w9 la ln lc x ⟨q, p', e', acc, rfl, hq, rfl, hal, rfl, hR, ht, hG, hb, hg⟩
    have hR9 := hR.blk.lt
    by_cases hlt : ln < cnt ∧ e' = 0
    rotate_left
    · have hJ : ∃ (p' : Nat) (e' : Int) (acc : List Tx), Rd w9 rb xa n xc bs p' e' ∧ Tch [] w w9 ∧ Grows (rb + 1) w9 la ln lc acc ∧ (e' ≠ 0 → decS bs = ([], p', e')) ∧ (e' = 0 → decS bs = dec2 bs (acc, p', 0)) := by
        refine ⟨p', e', acc, hR, ht, hG, hb, fun he => ?_⟩
        have : cnt - ln = 0 := by have : ¬ ln < cnt := fun hh => hlt ⟨hh, he⟩; omega
        rw [hg he, this]
        rfl
      refine ⟨fun _ => False, ?_, fun _ h => h.elim⟩
      by_cases hq2 : ln < cnt
      · rw [bif_pos (by omega)]
        refine ⟨e', by rw [add_mk]; exact hR.blk.cell 2, ?_⟩
        rw [bif_neg (fun hh => hlt ⟨hq2, hh⟩)]
        exact hJ
      · rw [bif_neg (by omega)]
        exact hJ
    obtain ⟨hlt, rfl⟩ := hlt
    refine ⟨fun u => u = w9, ?_, ?_⟩
    · rw [bif_pos (by omega)]
      refine ⟨0, by rw [add_mk]; exact hR.blk.cell 2, ?_⟩
      rw [bif_pos rfl]
    rintro w14 rfl
    obtain ⟨r, hr⟩ : ∃ r, cnt - ln = r + 1 := ⟨cnt - ln - 1, by omega⟩
    replace hg := hg rfl
    rw [hr] at hg
    have hkS : txsS bs (r + 1) p' acc = if (txS bs p').2.2 ≠ 0 then ([], (txS bs p').2.1, (txS bs p').2.2) else txsS bs r (txS bs p').2.1 (acc ++ [(txS bs p').1]) := rfl
    refine (refOne_c w14 rb n xc p' xa bs hR).mono ?_
    rintro en w16 ⟨hR16, v, y, rfl, hv, hy⟩
    generalize hTx : txS bs p' = T at *
    refine ⟨_, rfl, ?_⟩
    refine var_init (n := 4) (by rw [zcTxR]; rfl) hv.len hv.ones fun w18 w19 kx t19 s19 => ?_
    refine get_all kx hv.len ?_
    have s16 := hR16.2.size
    have tq : Tch [rb] w14 w19 := hR16.2.trans t19 (by simp)
    have hv19 : TxV (Btw2 w14.heap.size w19.heap.size) w19 v y := (hv.quiet t19).mono fun k hk => ⟨hk.1, by have := hk.2; have := t19.size; omega⟩
    refine hG.push tq (fun z hz => by simp at hz; omega) hv19 (by omega) (by omega) (by rw [zcTxR]; rfl) fun a' c' w24 hG' t24 hge => ?_
    have hf : ∀ k ∈ rowL la, rb < k := fun k hk => by have := hge k hk; omega
    refine ⟨r, by omega, ln + 1, T.2.1, T.2.2, acc ++ [y], by rw [wrap_u64 (by omega) (by omega)]; omega, by omega, by omega, by simp [hal], rfl, ?_, ?_, hG', fun he => ?_, fun he => ?_⟩
    · refine (hR16.1.quiet t19).tch t24 (fun hm => by have := hf _ hm; omega) (hlow.imp id fun hl z hz hm => by have := hl z hz; have := hf _ hm; omega)
    · exact far (far ht tq (by simp)) t24 fun k hk => by have := hf k hk; omega
    · rw [hg, hkS, if_pos he]
      unfold dec2
      rw [if_pos he]
    · rw [hg, hkS, if_neg (by simpa using he), hy he, show cnt - (ln + 1) = r by omega]
  clear hR t4 hbad hgood
  rintro w27 la ln lc ⟨p', e', acc, hR, ht, hG, hb, hg⟩
  refine (refEnd_c w27 rb n xc p' xa bs e' hR).mono ?_
  rintro en w30 ⟨rfl, t30⟩
  refine ⟨_, rfl, ?_⟩
  have hR30 := hR.quiet t30
  have ht30 := ht.trans t30 (by simp)
  have hG30 := hG.quiet t30
  by_cases hend : rEnd bs p' e' = 0
  rotate_left
  · rw [bif_nneg hend]
    rintro w32 rfl
    have hR32 := hR30.quiet (Tch.refl [] w30).drew
    have hd : decS bs = ([], p', rEnd bs p' e') := by
      by_cases he : e' = 0
      · subst he
        rw [hg rfl]
        unfold rEnd at hend ⊢
        by_cases hl : p' < bs.length
        · rw [if_pos ⟨rfl, hl⟩]
          unfold dec2
          rw [if_neg (by simp), if_pos hl]
        · rw [if_neg (fun hh => hl hh.2)] at hend
          exact absurd rfl hend
      · rw [hb he]
        unfold rEnd
        rw [if_neg (fun hh => he hh.1)]
    refine ⟨p', by rw [add_mk]; exact hR32.blk.cell 1, ?_⟩
    rw [hd]
    refine ⟨ht30.trans (Tch.refl [] w30).drew (by simp), none, 0, 0, rfl, ?_⟩
    rw [if_pos hend]
    exact ⟨rfl, rfl, rfl⟩
  · rw [bif_npos hend]
    have he : e' = 0 := by
      unfold rEnd at hend
      by_cases hh : e' = 0 ∧ p' < bs.length
      · exact hh.1
      · rw [if_neg hh] at hend; exact hend
    subst he
    have hl : ¬ p' < bs.length := fun hl => by unfold rEnd at hend; rw [if_pos ⟨rfl, hl⟩] at hend; simp at hend
    have hd : decS bs = (acc, 0, 0) := by
      rw [hg rfl]
      unfold dec2
      rw [if_neg (by simp), if_neg hl]
    rw [hd]
    refine ⟨ht30, la, ln, lc, rfl, ?_⟩
    rw [if_neg (by simp)]
    exact hG30.done.mono fun k hk => ⟨by have := hk.1; omega, hk.2⟩
end Go.Proofs.YtjchneebdlncfaaDoor.Lib
namespace Go.Proofs.YtjchneebdlncfaaDoor.Lib
open Go Den Fn
open Go.RowKit (Below)
open Classical
set_option maxRecDepth 8000
set_option maxHeartbeats 4000000
theorem refOpened_c (w : World) (bs : List Int) (a : Option Addr) (n c : Nat) (kind : Int) (hr : RSl w 1 a n c (u8 bs)) (hB : Bytes bs) (hN : n ≤ 140737488355328) :
    Calls Tryd.prog 46 #[.slice a n c, .int .u8 kind] w fun e w' => Tch [] w w' ∧ ∃ la lc, e = .returned (.tuple #[.slice la (unsl bs 0).2.1.length lc, .bool (loadS bs kind).isSome]) ∧ w'.ownsRow w.heap.size 5 1 (.slice la (unsl bs 0).2.1.length lc) (unsl bs 0).2.1.length (u8 (unsl bs 0).2.1) := by
  have hn := u8_len hr
  refine c46 _ _ _ _ ?_
  unfold d46
  refine (refUnseal_c w bs a n c 0 hr hB (by omega) hN).mono ?_
  rintro e w3 ⟨la, lc, rfl, ho, t3⟩
  refine ⟨_, _, _, _, _, _, rfl, _, rfl, _, _, _, rfl, _, rfl, _, rfl, ?_⟩
  unfold loadS
  by_cases h1 : (unsl bs 0).2.2.2 = 0
  rotate_left
  · rw [bif_neg h1, if_neg (fun hh => h1 hh.1)]; exact ⟨t3, la, lc, rfl, ho⟩
  rw [bif_pos h1]
  by_cases h3 : (unsl bs 0).1 = kind
  rotate_left
  · rw [bif_neg h3, if_neg (fun hh => h3 hh.2.2)]; exact ⟨t3, la, lc, rfl, ho⟩
  rw [bif_pos h3]
  by_cases h2 : (unsl bs 0).2.2.1 = bs.length
  · rw [if_pos ⟨h1, h2, h3⟩]; exact ⟨t3, la, lc, by rw [decide_eq_true (by omega)]; rfl, ho⟩
  · rw [if_neg (fun hh => h2 hh.2.1)]; exact ⟨t3, la, lc, by rw [decide_eq_false (by omega)]; rfl, ho⟩
/-- The error behind a want that is read. -/
def wE (bs : List Int) (p : Nat) (e : Int) : Int := if (nmB bs p e).1 < 1 then rFail 264 (nmB bs p e).2.2 else (nmB bs p e).2.2
theorem wE_ok {bs : List Int} {p : Nat} {e : Int} : wE bs p e = 0 ↔ NmOk bs p e := by
  unfold wE rFail NmOk
  split
  · split <;> omega
  · omega
theorem refWant_c (w : World) (b n c p : Nat) (a : Option Addr) (bs : List Int) (e : Int) (h : Rd w b a n c bs p e) :
    Calls Tryd.prog 47 #[.pointer (some ⟨b, 0, none⟩)] w fun en w' => en = .returned (.agg (kC (nmK bs p e)).toArray) ∧ RdR w w' b a n c bs ((nmB bs p e).2.1, wE bs p e) := by
  refine c47 _ ?_
  unfold d47
  have hle := nm_le (e := e) h.B (by rw [h.len]; exact h.le)
  have hbl := h.blk.lt
  rintro w1 rfl
  have hP : Blk _ _ (kC (0, 0)) := Blk.fresh w (cs := zc Tryd.prog 59) 59 zcWant
  have t1 := (Tch.refl [] w).alloc (.cells (zc Tryd.prog 59).toArray 59)
  have s1 := size_alloc w (.cells (zc Tryd.prog 59).toArray 59)
  generalize w.alloc (.cells (zc Tryd.prog 59).toArray 59) = w1 at *
  obtain ⟨pb, hpb⟩ : ∃ pb, w.heap.size = pb := ⟨_, rfl⟩
  rw [hpb] at hP s1 hbl ⊢
  refine (refUpto_c w1 b n c p a bs e 15 (h.quiet t1)).mono ?_
  rintro en w3 ⟨rfl, hR⟩
  have hP3 := hP.tch hR.2 (by simp; omega)
  have hs3 := hR.2.size
  refine ⟨_, rfl, [.int .i64 (nmK bs p e).1, .int .i64 0], ?_, ?_⟩
  · rw [zcWant, wrap_i64 (by omega) (by have : (rUpto bs 15 p e).1 ≤ 15 := hle.2.1; omega)]
    rfl
  refine var_init (n := 2) (by rw [zcWant]; rfl) rfl (by simp [one]) fun w6 w7 hX t7 s7 => ?_
  obtain ⟨xb, hxb⟩ : ∃ xb, w3.heap.size = xb := ⟨_, rfl⟩
  rw [hxb] at hX s7 hs3 ⊢
  have hP7 := hP3.tch t7 (by simp)
  refine (refUpto_c w7 b n c _ a bs _ 1099511627776 (hR.1.quiet t7)).mono ?_
  rintro en w9 ⟨rfl, hR9⟩
  have hRR : RdR w w9 b a n c bs (nmB bs p e).2 := (RdR.pre t1 (hR.post t7)).trans hR9
  have hX9 := hX.tch hR9.2 (by simp; omega)
  have hP9 := hP7.tch hR9.2 (by simp; omega)
  have hs9 := hR9.2.size
  clear hR hR9
  have hBw : IntKind.wrap .i64 (((nmB bs p e).1 : Nat) : Int) = (nmK bs p e).2 := wrap_i64 (by omega) (by omega)
  refine ⟨_, rfl, ?_⟩
  change one (.int .i64 (IntKind.wrap .i64 (((nmB bs p e).1 : Nat) : Int))) = true ∧ _ ∧ _ ∧ ∀ w11 : World, w11 = World.setCell w9 _ (.int .i64 (IntKind.wrap .i64 (((nmB bs p e).1 : Nat) : Int))) → _
  rw [hBw]
  refine put_cell' hX9 1 (by simp) rfl fun w11 hX11 t11 s11 => ?_
  have far : ∀ {u u' : World} {st : Nat × Int} {s : List Nat}, RdR w u b a n c bs st → Tch s u u' → (∀ k ∈ s, pb ≤ k) → RdR w u' b a n c bs st := fun hh ht hs => RdR.farR h (Nat.le_refl _) hh ht fun k hk => by have := hs k hk; omega
  have hR11 := far hRR t11 (by simp; omega)
  have hP11 := hP9.tch t11 (by simp; omega)
  refine ⟨(nmK bs p e).2, by rw [add_mk]; exact hX11.cell 1, ?_⟩
  unfold wE
  have hk : ((nmK bs p e).2 < 1) ↔ (nmB bs p e).1 < 1 := by show (((nmB bs p e).1 : Nat) : Int) < 1 ↔ _; omega
  by_cases hlt : (nmB bs p e).1 < 1
  · rw [bif_pos (hk.2 hlt), if_pos hlt]
    refine (refFail_c w11 b n c _ a bs _ 264 hR11.1).mono ?_
    rintro en w14 ⟨rfl, hR14⟩
    have hX14 := hX11.tch hR14.2 (by simp; omega)
    have hP14 := hP11.tch hR14.2 (by simp; omega)
    refine ⟨rfl, get_all hX14 rfl ?_⟩
    refine put_all (n := 2) (new := kC (nmK bs p e)) hP14 rfl rfl kC_one fun w16 hP16 t16 s16 => ?_
    exact get_all hP16 rfl ⟨rfl, far (hR11.trans hR14) t16 (by simp)⟩
  · rw [bif_neg (fun hh => hlt (hk.1 hh)), if_neg hlt]
    refine get_all hX11 rfl ?_
    refine put_all (n := 2) (new := kC (nmK bs p e)) hP11 rfl rfl kC_one fun w16 hP16 t16 s16 => ?_
    exact get_all hP16 rfl ⟨rfl, far hR11 t16 (by simp)⟩
theorem refDecPiece_c (w : World) (bs : List Int) (a : Option Addr) (n c : Nat) (hr : RSl w 1 a n c (u8 bs)) (hB : Bytes bs) (hN : n ≤ 140737488355328) :
    Calls Tryd.prog 19 #[.slice a n c] w (PieceO w (pieceD bs)) := by
  have hn := u8_len hr
  refine c19 _ _ _ ?_
  unfold d19
  rintro w1 rfl
  have hP : Blk _ _ [Value.int .i64 0, .int .i64 0, .slice none 0 0] := Blk.fresh w (cs := zc Tryd.prog 37) 37 zcPiece
  have t1 := (Tch.refl [] w).alloc (.cells (zc Tryd.prog 37).toArray 37)
  have s1 := size_alloc w (.cells (zc Tryd.prog 37).toArray 37)
  generalize w.alloc (.cells (zc Tryd.prog 37).toArray 37) = w1 at *
  obtain ⟨pb, hpb⟩ : ∃ pb, w.heap.size = pb := ⟨_, rfl⟩
  rw [hpb] at hP s1 ⊢
  have fin : ∀ {u : World} {cs : List Value} {D : Option (Int × Int × List Tx)} {k : Int}, Tch [] w u → Blk u pb [Value.int .i64 0, .int .i64 0, .slice none 0 0] → cs.length = 3 → (∀ v ∈ cs, one v = true) →
      (∀ u', Tch [pb] u u' → Tch [] w u' → PieceO w D (.returned (.tuple #[.agg cs.toArray, .int .i64 k])) u') →
      Array.size (List.toArray cs) = 3 ∧ (∀ u ∈ Array.toList (List.toArray cs), one u = true) ∧ Room u ⟨pb, 0, none⟩ 3 ∧ ∀ w9 : World, w9 = setCells u ⟨pb, 0, none⟩ (Array.toList (List.toArray cs)) 0 → ∃ cs10 : List Value, List.length cs10 = 3 ∧ Cells w9 ⟨pb, 0, none⟩ cs10 ∧ PieceO w D (.returned (.tuple #[.agg (List.toArray cs10), .int .i64 k])) w9 := fun {u cs D k} ht hb hl ho hK =>
    put_all hb rfl hl ho fun u' h2 h3 h4 => get_all h2 hl (hK u' h3 (ht.trans h3 fun z hz => .inr (by simp at hz; omega)))
  refine (refOpened_c w1 bs a n c 77 (hr.tch t1 (fun _ _ h => by cases h)) hB hN).mono ?_
  rintro e w3 ⟨t3, la, lc, rfl, ho⟩
  have hP3 := hP.tch t3 (by simp)
  have q3 := t1.trans t3 (by simp)
  refine ⟨_, _, _, _, rfl, _, _, _, rfl, _, rfl, ?_⟩
  unfold pieceD
  cases hld : loadS bs 77 with
  | none =>
    rw [show (!(none : Option (List Int)).isSome) = true from rfl, cond_true]
    exact ⟨_, by rw [zcPiece]; rfl, fin q3 hP3 rfl (by simp [one]) fun u' _ t => ⟨t, rfl⟩⟩
  | some ld =>
    rw [show (!(some ld).isSome) = false from rfl, cond_false]
    have hle0 := (unsl_load hB 0).2
    have hLB := loadB hld hB
    rw [← loadS_some hld] at ho hle0 ⊢
    have hrow := own_rsl ho ones_ints
    have hge := own_ge ho
    refine ⟨[.slice la ld.length lc, .int .i64 0, .int .i64 0], by rw [zcRdR]; rfl, ?_⟩
    rintro w12 rfl
    have kR : Blk _ _ [Value.slice la ld.length lc, .int .i64 0, .int .i64 0] := Blk.fresh w3 (cs := [Value.slice la ld.length lc, .int .i64 0, .int .i64 0]) 104 rfl
    have t12 := (Tch.refl [] w3).alloc (.cells [Value.slice la ld.length lc, .int .i64 0, .int .i64 0].toArray 104)
    have s12 := size_alloc w3 (.cells [Value.slice la ld.length lc, .int .i64 0, .int .i64 0].toArray 104)
    generalize w3.alloc (.cells [Value.slice la ld.length lc, .int .i64 0, .int .i64 0].toArray 104) = w12 at *
    obtain ⟨rb, hrb⟩ : ∃ rb, w3.heap.size = rb := ⟨_, rfl⟩
    have hs3 := hP3.lt
    rw [hrb] at kR s12 hs3 ⊢
    have hlow : ∀ z, la = some z → z.block < rb := fun z hz => by have := (hge z hz).2; omega
    have hRd : Rd w12 rb la ld.length lc ld 0 0 := ⟨kR, hrow.tch t12 (fun _ _ h => by cases h), .inr fun z hz hm => by have := hlow z hz; simp at hm; omega, Nat.zero_le _, hLB, by omega⟩
    have q12 := q3.trans t12 (by simp)
    refine (refWant_c w12 rb ld.length lc 0 la ld 0 hRd).mono ?_
    rintro e w14 ⟨rfl, hR14⟩
    refine ⟨_, rfl, ?_⟩
    have hP14 := (hP3.tch t12 (by simp)).tch hR14.2 (by simp; omega)
    have q14 := q12.trans hR14.2 fun z hz => .inr (by simp at hz; omega)
    have hs14 := hR14.2.size
    refine var_init (n := 2) (by rw [zcWant]; rfl) rfl kC_one fun w16 w17 hX t17 s17 => ?_
    have hP17 := hP14.tch t17 (by simp)
    have q17 := q14.trans t17 (by simp)
    have hR17 := hR14.1.quiet t17
    obtain ⟨xb, hxb⟩ : ∃ xb, w14.heap.size = xb := ⟨_, rfl⟩
    rw [hxb] at hX s17 ⊢
    refine ⟨_, by rw [add_mk]; exact hR17.blk.cell 2, ?_⟩
    simp only [Option.bind_some]
    unfold pieceL
    by_cases hok : NmOk ld 0 0
    rotate_left
    · have hz : wE ld 0 0 ≠ 0 := fun hh => hok (wE_ok.1 hh)
      rw [bif_nneg hz, if_neg hok]
      exact ⟨_, by rw [zcPiece]; rfl, fin q17 hP17 rfl (by simp [one]) fun u' _ t => ⟨t, rfl⟩⟩
    rw [bif_npos (wE_ok.2 hok), if_pos hok]
    have hple := (nm_le (e := 0) hLB (p := 0) (by omega)).1
    generalize hpp : (nmB ld 0 0).2.1 = p at *
    refine ⟨(p : Int), by rw [add_mk]; exact hR17.blk.cell 1, by omega, by omega, ?_⟩
    rw [Int.toNat_natCast]
    have hcut := hR17.row.cut (l := p) (hh := ld.length) (by omega) (Nat.le_refl _)
    rw [List.take_of_length_le (by rw [List.length_drop]; omega)] at hcut
    generalize (if lc = p then la else Option.map (fun y => Addr.add y (p * 1)) la) = ya at *
    refine (refDecode_c w17 (ld.drop p) ya _ _ hcut (hLB.drop p) (by omega)).mono ?_
    rintro e w24 ⟨t24, ba, bn, bc, rfl, hbat⟩
    refine ⟨_, _, _, _, _, rfl, _, _, _, rfl, _, rfl, _, rfl, ?_⟩
    have hP24 := hP17.tch t24 (by simp)
    have hX24 := hX.tch t24 (by simp)
    have q24 := q17.trans t24 (by simp)
    generalize decS (ld.drop p) = D at *
    by_cases hD : D.2.2 = 0
    rotate_left
    · rw [bif_nneg hD, if_neg hD]
      exact ⟨_, by rw [zcPiece]; rfl, fin q24 hP24 rfl (by simp [one]) fun u' _ t => ⟨t, rfl⟩⟩
    rw [bif_npos hD, if_pos hD]
    rw [if_neg (by simpa using hD)] at hbat
    refine ⟨(nmK ld 0 0).1, by rw [add_mk]; exact hX24.cell 0, (nmK ld 0 0).2, by rw [add_mk]; exact hX24.cell 1, ?_⟩
    refine ⟨[.int .i64 (nmK ld 0 0).1, .int .i64 (nmK ld 0 0).2, .slice ba bn bc], by rw [zcPiece]; rfl, fin q24 hP24 rfl (by simp [one]) fun u' tp t => ⟨t, ba, bn, bc, rfl, ?_⟩⟩
    refine (hbat.tch tp fun z hz hF => ?_).mono fun z hz => ⟨?_, ?_⟩
    · simp only [List.mem_singleton] at hz
      subst hz
      have := hF.1; have := hP17.lt
      omega
    · have := hz.1; have := q17.size; omega
    · have := hz.2; have := tp.size; omega
theorem refDecWants_c (w : World) (bs : List Int) (a : Option Addr) (n c : Nat) (hr : RSl w 1 a n c (u8 bs)) (hB : Bytes bs) (hN : n ≤ 140737488355328) :
    Calls Tryd.prog 21 #[.slice a n c] w (WantsO w (wantsD bs)) := by
  have hn := u8_len hr
  refine c21 _ _ _ ?_
  unfold d21
  refine (refOpened_c w bs a n c 87 hr hB hN).mono ?_
  rintro e w2 ⟨t2, la, lc, rfl, ho⟩
  refine ⟨_, _, _, _, rfl, _, _, _, rfl, _, rfl, ?_⟩
  unfold wantsD
  cases hld : loadS bs 87 with
  | none =>
    rw [show (!(none : Option (List Int)).isSome) = true from rfl, cond_true]
    exact ⟨t2, rfl⟩
  | some ld =>
    rw [show (!(some ld).isSome) = false from rfl, cond_false]
    have hle0 := (unsl_load hB 0).2
    have hLB := loadB hld hB
    rw [← loadS_some hld] at ho hle0 ⊢
    have hrow := own_rsl ho ones_ints
    have hge := own_ge ho
    refine ⟨[.slice la ld.length lc, .int .i64 0, .int .i64 0], by rw [zcRdR]; rfl, ?_⟩
    rintro w8 rfl
    have kR : Blk _ _ [Value.slice la ld.length lc, .int .i64 0, .int .i64 0] := Blk.fresh w2 (cs := [Value.slice la ld.length lc, .int .i64 0, .int .i64 0]) 104 rfl
    have t8 := (Tch.refl [] w2).alloc (.cells [Value.slice la ld.length lc, .int .i64 0, .int .i64 0].toArray 104)
    have s8 := size_alloc w2 (.cells [Value.slice la ld.length lc, .int .i64 0, .int .i64 0].toArray 104)
    generalize w2.alloc (.cells [Value.slice la ld.length lc, .int .i64 0, .int .i64 0].toArray 104) = w8 at *
    have hs2 := t2.size
    obtain ⟨rb, hrb⟩ : ∃ rb, w2.heap.size = rb := ⟨_, rfl⟩
    rw [hrb] at kR s8 hs2 ⊢
    have hlow : ∀ z, la = some z → z.block < rb := fun z hz => by have := (hge z hz).2; omega
    have hRd : Rd w8 rb la ld.length lc ld 0 0 := ⟨kR, hrow.tch t8 (fun _ _ h => by cases h), .inr fun z hz hm => by have := hlow z hz; simp at hm; omega, Nat.zero_le _, hLB, by omega⟩
    have q8 := t2.trans t8 (by simp)
    simp only [Option.bind_some]
    refine (refUpto_c w8 rb ld.length lc 0 la ld 0 1024 hRd).mono ?_
    rintro e w10 ⟨rfl, hR10⟩
    have hle := rUpto_le (most := 1024) (e := 0) hLB (p := 0) (by omega)
    have hue : (rUpto ld 1024 0 0).2.2 ≠ 0 → (rUpto ld 1024 0 0).1 = 0 ∧ (rUpto ld 1024 0 0).2.1 = 0 := rUpto_err
    unfold wantsL
    generalize rUpto ld 1024 0 0 = u at *
    obtain ⟨cnt, p1, e1⟩ := u
    simp only at hle hue hR10 ⊢
    generalize hDd : (if e1 ≠ 0 then none else wGo ld cnt p1 []) = D
    have hs10 := hR10.2.size
    have far : ∀ {u u' : World} {s : List Nat}, Tch [] w u → Tch s u u' → (∀ k ∈ s, rb ≤ k) → Tch [] w u' := fun h ht hs => h.trans ht fun k hk => .inr (by have := hs k hk; omega)
    have q10 := far q8 hR10.2 (by simp)
    refine ⟨_, rfl, ?_⟩
    rw [wrap_i64 (by omega) (by omega)]
    refine ⟨fun xl ln xc u => ∃ (p' : Nat) (e' : Int) (acc : List (Int × Int)), Rd u rb la ld.length lc ld p' e' ∧ Tch [] w u ∧ rb + 1 ≤ u.heap.size ∧ ln = acc.length ∧ u.ownsRow (rb + 1) 59 2 (.slice xl ln xc) ln (rows kC acc) ∧ (e' = 0 → D = wGo ld 0 p' acc) ∧ (e' ≠ 0 → D = none), ?_, ?_⟩
    · refine ⟨fun m xl ln xc x u => ∃ (q p' : Nat) (e' : Int) (acc : List (Int × Int)), x = q ∧ q ≤ cnt ∧ m = cnt - q ∧ acc.length = q ∧ ln = q ∧ Rd u rb la ld.length lc ld p' e' ∧ Tch [] w u ∧ rb + 1 ≤ u.heap.size ∧ u.ownsRow (rb + 1) 59 2 (.slice xl ln xc) ln (rows kC acc) ∧ (e' = 0 → D = wGo ld (cnt - q) p' acc) ∧ (e' ≠ 0 → D = none),
        ⟨cnt, 0, p1, e1, [], rfl, by omega, rfl, rfl, rfl, hR10.1, q10, by omega, own_nil _ _ _ _, fun he => by rw [← hDd, if_neg (by simpa using he)]; rfl, fun he => by rw [← hDd, if_pos he]⟩, ?_⟩
      clear hR10 q10
      rintro m w15 xl ln xc x ⟨q, p', e', acc, rfl, hq, rfl, hal, rfl, hR, ht, hsz, hown, hg, hb⟩
      by_cases hlt : ln < cnt ∧ e' = 0
      rotate_left
      · have hJ : ∃ (p' : Nat) (e' : Int) (acc : List (Int × Int)), Rd w15 rb la ld.length lc ld p' e' ∧ Tch [] w w15 ∧ rb + 1 ≤ w15.heap.size ∧ ln = acc.length ∧ w15.ownsRow (rb + 1) 59 2 (.slice xl ln xc) ln (rows kC acc) ∧ (e' = 0 → D = wGo ld 0 p' acc) ∧ (e' ≠ 0 → D = none) := by
          refine ⟨p', e', acc, hR, ht, hsz, hal.symm, hown, fun he => ?_, hb⟩
          have : cnt - ln = 0 := by have : ¬ ln < cnt := fun hh => hlt ⟨hh, he⟩; omega
          rw [hg he, this]
        refine ⟨fun _ => False, ?_, fun _ h => h.elim⟩
        by_cases hq2 : ln < cnt
        · rw [bif_pos (by omega)]
          refine ⟨e', by rw [add_mk]; exact hR.blk.cell 2, ?_⟩
          rw [bif_neg (fun hh => hlt ⟨hq2, hh⟩)]
          exact hJ
        · rw [bif_neg (by omega)]
          exact hJ
      obtain ⟨hlt, rfl⟩ := hlt
      refine ⟨fun u => u = w15, ?_, ?_⟩
      · rw [bif_pos (by omega)]
        refine ⟨0, by rw [add_mk]; exact hR.blk.cell 2, ?_⟩
        rw [bif_pos rfl]
      rintro w20 rfl
      obtain ⟨r, hr'⟩ : ∃ r, cnt - ln = r + 1 := ⟨cnt - ln - 1, by omega⟩
      replace hg := hg rfl
      rw [hr'] at hg
      have hstep : wGo ld (r + 1) p' acc = if NmOk ld p' 0 then wGo ld r (nmB ld p' 0).2.1 (acc ++ [nmK ld p' 0]) else none := rfl
      refine (refWant_c w20 rb ld.length lc p' la ld 0 hR).mono ?_
      rintro e w22 ⟨rfl, hR22⟩
      refine ⟨_, rfl, ?_⟩
      have hs22 := hR22.2.size
      refine var_init (n := 2) (by rw [zcWant]; rfl) rfl kC_one fun w24 w25 hX t25 s25 => ?_
      refine get_all hX rfl ?_
      rw [zcWants]
      have hown25 := own_up (own_up hown hR22.2 (fun z hz hm => by
        simp only [List.mem_singleton] at hm
        have := (own_lt hown hz).1
        omega)) t25 (fun _ _ h => by cases h)
      refine app_elem_at (z := kC (0, 0)) (ys := kC (nmK ld p' 0)) wantT hown25 rfl rfl rfl kC_one (by omega) (by omega) (by omega) fun a' c' w27 ho27 t27 _ => ?_
      have hgg : ∀ k ∈ rowL xl, rb + 1 ≤ k := fun k hk => (rowL_ge hown25 k hk).1
      have hs27 := t27.size
      refine ⟨r, by omega, ln + 1, (nmB ld p' 0).2.1, wE ld p' 0, acc ++ [nmK ld p' 0], by rw [wrap_i64 (by omega) (by omega)]; omega, by omega, by omega, by simp [hal], rfl, ?_, ?_, by omega, ?_, fun he => ?_, fun he => ?_⟩
      · exact (hR22.1.quiet t25).tch t27 (fun hm => by have := hgg _ hm; omega) (.inr fun z hz hm => by have := hlow z hz; have := hgg _ hm; omega)
      · exact far (far (far ht hR22.2 (by simp)) t25 (by simp)) t27 fun z hz => by have := hgg z hz; omega
      · rw [rows_append]
        exact ho27
      · rw [hg, hstep, if_pos (wE_ok.1 he), show cnt - (ln + 1) = r by omega]
      · rw [hg, hstep, if_neg fun hh => he (wE_ok.2 hh)]
    clear hR10 q10
    rintro w33 xl ln xc ⟨p', e', acc, hR, ht, hsz, rfl, hown, hg, hb⟩
    refine (refEnd_c w33 rb ld.length lc p' la ld e' hR).mono ?_
    rintro e w36 ⟨rfl, t36⟩
    refine ⟨_, rfl, ?_⟩
    have q36 := ht.trans t36 (by simp)
    have hown36 := own_up hown t36 (fun _ _ h => by cases h)
    by_cases he : e' = 0
    · subst he
      rw [hg rfl]
      unfold rEnd wGo
      by_cases hp : p' < ld.length
      · rw [if_pos ⟨rfl, hp⟩, if_pos hp, bif_nneg (by omega)]
        exact ⟨q36, rfl⟩
      · rw [if_neg (fun h => hp h.2), if_neg hp, bif_npos rfl]
        exact ⟨q36, xl, xc, rfl, own_base hown36 (by omega)⟩
    · rw [hb he]
      unfold rEnd
      rw [if_neg (fun h => he h.1), bif_nneg he]
      exact ⟨q36, rfl⟩
end Go.Proofs.YtjchneebdlncfaaDoor.Lib
namespace Go.Proofs.YtjchneebdlncfaaDoor.Frm
open Go Den Fn Lib
open Go.RowKit (Below)
open Classical
set_option maxRecDepth 8000
set_option maxHeartbeats 4000000
def Sm (x : Tx) : Prop := x.args.length ≤ 100000 ∧ x.reads.length ≤ 100000 ∧ x.writes.length ≤ 100000
theorem sameTx_c {F G : Nat → Prop} (w : World) (u v : List Value) (x y : Tx) (hx : TxV F w u x) (hy : TxV G w v y) (hs : Sm x) :
    Calls Tryd.prog 86 #[.agg u.toArray, .agg v.toArray] w fun e w' => e = .returned (.bool (decide (x = y))) ∧ Tch [] w w' := by
  obtain ⟨a1, n1, c1, a2, n2, c2, a3, n3, c3, rfl, h1, h2, h3, hxo⟩ := hx
  obtain ⟨b1, m1, d1, b2, m2, d2, b3, m3, d3, rfl, g1, g2, g3, hyo⟩ := hy
  have e1 := args_count h1
  have e2 := keys_count h2
  have e3 := keys_count h3
  have f1 := args_count g1
  have f2 := keys_count g2
  have f3 := keys_count g3
  obtain ⟨s1, s2, s3⟩ := hs
  refine c86 _ _ ?_
  unfold d86
  rintro w2 rfl w3 rfl
  have hS := ((St.refl w []).new [.int .i64 x.proc, .slice a1 n1 c1, .slice a2 n2 c2, .slice a3 n3 c3] 76 rfl).new [.int .i64 y.proc, .slice b1 m1 d1, .slice b2 m2 d2, .slice b3 m3 d3] 76 rfl
  generalize (w.alloc (.cells [Value.int .i64 x.proc, .slice a1 n1 c1, .slice a2 n2 c2, .slice a3 n3 c3].toArray 76)).alloc (.cells [Value.int .i64 y.proc, .slice b1 m1 d1, .slice b2 m2 d2, .slice b3 m3 d3].toArray 76) = w3 at *
  generalize (w.alloc (.cells [Value.int .i64 x.proc, .slice a1 n1 c1, .slice a2 n2 c2, .slice a3 n3 c3].toArray 76)).heap.size = qb at *
  generalize w.heap.size = pb at *
  have cx : ∀ {u : World} (q : Nat), St w [] u [fBlk qb [.int .i64 y.proc, .slice b1 m1 d1, .slice b2 m2 d2, .slice b3 m3 d3], fBlk pb [.int .i64 x.proc, .slice a1 n1 c1, .slice a2 n2 c2, .slice a3 n3 c3]] → u.cell? (Addr.add ⟨pb, 0, none⟩ q) = ([.int .i64 x.proc, .slice a1 n1 c1, .slice a2 n2 c2, .slice a3 n3 c3] : List Value)[q]? := fun q hS => by
    rw [add_mk, Nat.zero_add]; exact (hS.blk (b := pb) (by simp)).cell q
  have cy : ∀ {u : World} (q : Nat), St w [] u [fBlk qb [.int .i64 y.proc, .slice b1 m1 d1, .slice b2 m2 d2, .slice b3 m3 d3], fBlk pb [.int .i64 x.proc, .slice a1 n1 c1, .slice a2 n2 c2, .slice a3 n3 c3]] → u.cell? (Addr.add ⟨qb, 0, none⟩ q) = ([.int .i64 y.proc, .slice b1 m1 d1, .slice b2 m2 d2, .slice b3 m3 d3] : List Value)[q]? := fun q hS => by
    rw [add_mk, Nat.zero_add]; exact (hS.blk (b := qb) (by simp)).cell q
  have no : ∀ {w' : World}, x ≠ y → Tch [] w w' → (Ending.returned (.bool false) = .returned (.bool (decide (x = y))) ∧ Tch [] w w') := fun h ht => ⟨by rw [decide_eq_false h], ht⟩
  refine ⟨fun u => x.proc = y.proc ∧ n1 = m1 ∧ n2 = m2 ∧ n3 = m3 ∧ u = w3, ?_, ?_⟩
  · refine ⟨x.proc, cx 0 hS, y.proc, cy 0 hS, ?_⟩
    by_cases hp : x.proc = y.proc
    rotate_left
    · rw [bif_nneg hp]; exact no (fun h => hp (by rw [h])) hS.tch
    rw [bif_npos hp]
    refine ⟨a1, n1, c1, cx 1 hS, b1, m1, d1, cy 1 hS, ?_⟩
    by_cases q1 : n1 = m1
    rotate_left
    · rw [bif_nneg (by omega)]; exact no (fun h => q1 (by rw [← e1, ← f1, h])) hS.tch
    rw [bif_npos (by omega)]
    refine ⟨a2, n2, c2, cx 2 hS, b2, m2, d2, cy 2 hS, ?_⟩
    by_cases q2 : n2 = m2
    rotate_left
    · rw [bif_nneg (by omega)]; exact no (fun h => q2 (by rw [← e2, ← f2, h])) hS.tch
    rw [bif_npos (by omega)]
    refine ⟨a3, n3, c3, cx 3 hS, b3, m3, d3, cy 3 hS, ?_⟩
    by_cases q3 : n3 = m3
    · rw [bif_npos (by omega)]; exact ⟨hp, q1, q2, q3, rfl⟩
    · rw [bif_nneg (by omega)]; exact no (fun h => q3 (by rw [← e3, ← f3, h])) hS.tch
  rintro w13 ⟨hp, rfl, rfl, rfl, rfl⟩
  have snoc : ∀ {α : Type} {l m : List α} {i : Nat}, l.take i = m.take i → l[i]? = m[i]? → l.take (i + 1) = m.take (i + 1) := fun h1 h2 => by
    rw [List.take_add_one, List.take_add_one, h1, h2]
  refine ⟨fun q k u => ∃ i : Nat, k = i ∧ i ≤ n1 ∧ q = n1 - i ∧ x.args.take i = y.args.take i ∧ St w [] u [fBlk qb [.int .i64 y.proc, .slice b1 n1 d1, .slice b2 n2 d2, .slice b3 n3 d3], fBlk pb [.int .i64 x.proc, .slice a1 n1 c1, .slice a2 n2 c2, .slice a3 n3 c3]], ⟨n1, 0, rfl, by omega, rfl, rfl, hS⟩, ?_⟩
  clear hS
  rintro q w16 k ⟨i, rfl, hi, rfl, htk, hS⟩
  refine ⟨a1, n1, c1, cx 1 hS, ?_⟩
  by_cases hlt : i < n1
  · rw [bif_pos (by omega)]
    rintro w19 rfl
    replace hS := hS.drew
    generalize w16.drew = w19 at *
    refine ⟨a1, n1, c1, cx 1 hS, by omega, by omega, ?_⟩
    rw [Int.toNat_natCast]
    obtain ⟨x1, o1, rfl, k1⟩ := (h1.tch hS.tch (by simp)).1.int (i := i) hlt
    obtain ⟨y1, p1, rfl, k2⟩ := (g1.tch hS.tch (by simp)).1.int (i := i) hlt
    show ∃ _, _
    rw [add_mk, Nat.mul_one]
    refine ⟨_, k1, _, n1, d1, cy 1 hS, by omega, by omega, ?_⟩
    show ∃ _, _
    refine ⟨_, by rw [add_mk]; exact k2, ?_⟩
    have w1 : x.args[i]? = some (x.args[i]'(by omega)) := List.getElem?_eq_getElem (by omega)
    have w2 : y.args[i]? = some (y.args[i]'(by omega)) := List.getElem?_eq_getElem (by omega)
    rw [List.getD_eq_getElem?_getD, List.getD_eq_getElem?_getD, w1, w2, Option.getD_some, Option.getD_some]
    by_cases hd : x.args[i]'(by omega) = y.args[i]'(by omega)
    · rw [bif_npos hd]
      exact ⟨n1 - (i + 1), by omega, i + 1, by rw [wrap_i64 (by omega) (by omega)]; omega, by omega, rfl, snoc htk (by rw [w1, w2, hd]), hS⟩
    · rw [bif_nneg hd]
      exact no (fun h => hd (by subst h; rfl)) hS.tch
  rw [bif_neg (by omega)]
  have ha : x.args = y.args := by
    rw [List.take_of_length_le (by omega), List.take_of_length_le (by omega)] at htk
    exact htk
  refine ⟨fun q k u => ∃ i : Nat, k = i ∧ i ≤ n2 ∧ q = n2 - i ∧ x.reads.take i = y.reads.take i ∧ St w [] u [fBlk qb [.int .i64 y.proc, .slice b1 n1 d1, .slice b2 n2 d2, .slice b3 n3 d3], fBlk pb [.int .i64 x.proc, .slice a1 n1 c1, .slice a2 n2 c2, .slice a3 n3 c3]], ⟨n2, 0, rfl, by omega, rfl, rfl, hS⟩, ?_⟩
  clear hS htk
  rintro q w29 k ⟨j, rfl, hj, rfl, htk, hS⟩
  refine ⟨a2, n2, c2, cx 2 hS, ?_⟩
  by_cases hlt : j < n2
  · rw [bif_pos (by omega)]
    rintro w32 rfl
    replace hS := hS.drew
    generalize w29.drew = w32 at *
    refine ⟨a2, n2, c2, cx 2 hS, by omega, by omega, ?_⟩
    rw [Int.toNat_natCast]
    have w1 : x.reads[j]? = some (x.reads[j]'(by omega)) := List.getElem?_eq_getElem (by omega)
    have w2 : y.reads[j]? = some (y.reads[j]'(by omega)) := List.getElem?_eq_getElem (by omega)
    refine (h2.tch hS.tch (by simp)).1.elem kC_len (by omega) w1 ?_
    refine ⟨b2, n2, d2, cy 2 hS, by omega, by omega, ?_⟩
    refine (g2.tch hS.tch (by simp)).1.elem kC_len (by omega) w2 ?_
    refine neq_flat_d key_flat key_eqT (key_fits (hxo.reads _ (List.mem_of_getElem? w1))) (key_fits (hyo.reads _ (List.mem_of_getElem? w2))) kC_inj ?_
    by_cases hd : x.reads[j]'(by omega) = y.reads[j]'(by omega)
    · rw [bif_npos hd]
      exact ⟨n2 - (j + 1), by omega, j + 1, by rw [wrap_i64 (by omega) (by omega)]; omega, by omega, rfl, snoc htk (by rw [w1, w2, hd]), hS⟩
    · rw [bif_nneg hd]
      exact no (fun h => hd (by subst h; rfl)) hS.tch
  rw [bif_neg (by omega)]
  have hr : x.reads = y.reads := by
    rw [List.take_of_length_le (by omega), List.take_of_length_le (by omega)] at htk
    exact htk
  refine ⟨fun q k u => ∃ i : Nat, k = i ∧ i ≤ n3 ∧ q = n3 - i ∧ x.writes.take i = y.writes.take i ∧ St w [] u [fBlk qb [.int .i64 y.proc, .slice b1 n1 d1, .slice b2 n2 d2, .slice b3 n3 d3], fBlk pb [.int .i64 x.proc, .slice a1 n1 c1, .slice a2 n2 c2, .slice a3 n3 c3]], ⟨n3, 0, rfl, by omega, rfl, rfl, hS⟩, ?_⟩
  clear hS htk
  rintro q w43 k ⟨t, rfl, ht, rfl, htk, hS⟩
  refine ⟨a3, n3, c3, cx 3 hS, ?_⟩
  by_cases hlt : t < n3
  · rw [bif_pos (by omega)]
    rintro w46 rfl
    replace hS := hS.drew
    generalize w43.drew = w46 at *
    refine ⟨a3, n3, c3, cx 3 hS, by omega, by omega, ?_⟩
    rw [Int.toNat_natCast]
    have w1 : x.writes[t]? = some (x.writes[t]'(by omega)) := List.getElem?_eq_getElem (by omega)
    have w2 : y.writes[t]? = some (y.writes[t]'(by omega)) := List.getElem?_eq_getElem (by omega)
    refine (h3.tch hS.tch (by simp)).1.elem kC_len (by omega) w1 ?_
    refine ⟨b3, n3, d3, cy 3 hS, by omega, by omega, ?_⟩
    refine (g3.tch hS.tch (by simp)).1.elem kC_len (by omega) w2 ?_
    refine neq_flat_d key_flat key_eqT (key_fits (hxo.writes _ (List.mem_of_getElem? w1))) (key_fits (hyo.writes _ (List.mem_of_getElem? w2))) kC_inj ?_
    by_cases hd : x.writes[t]'(by omega) = y.writes[t]'(by omega)
    · rw [bif_npos hd]
      exact ⟨n3 - (t + 1), by omega, t + 1, by rw [wrap_i64 (by omega) (by omega)]; omega, by omega, rfl, snoc htk (by rw [w1, w2, hd]), hS⟩
    · rw [bif_nneg hd]
      exact no (fun h => hd (by subst h; rfl)) hS.tch
  rw [bif_neg (by omega)]
  have hw : x.writes = y.writes := by
    rw [List.take_of_length_le (by omega), List.take_of_length_le (by omega)] at htk
    exact htk
  refine ⟨?_, hS.tch⟩
  rw [decide_eq_true]
  cases x; cases y
  simp_all
def Smalls (l : List Tx) : Prop := l.length ≤ 100000 ∧ ∀ x ∈ l, Sm x
theorem sameBatch_c {F G : Nat → Prop} (w : World) (a b : Option Addr) (n c m mc : Nat) (l k : List Tx) (h : BatchV F w a n c l) (g : BatchV G w b m mc k) (hs : Smalls l) :
    Calls Tryd.prog 53 #[.slice a n c, .slice b m mc] w fun e w' => e = .returned (.bool (decide (l = k))) ∧ Tch [] w w' := by
  have hn := h.count
  have hm := g.count
  have hs0 := hs.1
  refine c53 _ _ _ _ _ _ ?_
  unfold d53
  by_cases he : n = m
  rotate_left
  · rw [bif_nneg (by omega)]
    exact ⟨by rw [decide_eq_false fun h => he (by rw [← hn, ← hm, h])], Tch.refl _ _⟩
  subst he
  rw [bif_npos rfl]
  refine ⟨fun q x u => ∃ i : Nat, x = i ∧ i ≤ n ∧ q = n - i ∧ l.take i = k.take i ∧ Tch [] w u, ⟨n, 0, rfl, by omega, rfl, rfl, Tch.refl _ _⟩, ?_⟩
  rintro q w4 x ⟨i, rfl, hi, rfl, htk, ht⟩
  by_cases hlt : i < n
  · rw [bif_pos (by omega)]
    rintro w6 rfl
    replace ht := ht.drew
    generalize w4.drew = w6 at *
    refine ⟨by omega, by omega, ?_⟩
    rw [Int.toNat_natCast]
    have w1 : l[i]? = some (l[i]'(by omega)) := List.getElem?_eq_getElem (by omega)
    have w2 : k[i]? = some (k[i]'(by omega)) := List.getElem?_eq_getElem (by omega)
    refine h.elemW ht w1 fun u hu => ?_
    refine ⟨by omega, by omega, ?_⟩
    refine g.elemW ht w2 fun v hv => ?_
    refine (sameTx_c w6 u v _ _ (hu.quiet ht) (hv.quiet ht) (hs.2 _ (List.mem_of_getElem? w1))).mono ?_
    rintro e w12 ⟨rfl, ht2⟩
    refine ⟨_, rfl, ?_⟩
    replace ht := ht.trans ht2 (by simp)
    by_cases hd : l[i]'(by omega) = k[i]'(by omega)
    · rw [bif_npos hd]
      refine ⟨n - (i + 1), by omega, i + 1, by rw [wrap_i64 (by omega) (by omega)]; omega, by omega, rfl, ?_, ht⟩
      rw [List.take_add_one, List.take_add_one, htk, w1, w2, hd]
    · rw [bif_nneg hd]
      exact ⟨by rw [decide_eq_false fun h => hd (by subst h; rfl)], ht⟩
  · rw [bif_neg (by omega)]
    rw [List.take_of_length_le (by omega), List.take_of_length_le (by omega)] at htk
    exact ⟨by rw [decide_eq_true htk], ht⟩

theorem sameBytes_c (w : World) (xs ys : List Int) (a b : Option Addr) (n c m mc : Nat) (hx : RSl w 1 a n c (u8 xs)) (hy : RSl w 1 b m mc (u8 ys)) (hN : n ≤ 140737488351232) :
    Calls Tryd.prog 17 #[.slice a n c, .slice b m mc] w fun e w' => e = .returned (.bool (decide (xs = ys))) ∧ Tch [] w w' := by
  have hn := u8_len hx
  have hm := u8_len hy
  refine c17 _ _ _ _ _ _ ?_
  unfold d17
  by_cases he : n = m
  · subst he
    rw [bif_npos rfl]
    refine ⟨fun q x w' => ∃ k : Nat, k ≤ n ∧ x = k ∧ q = n - k ∧ xs.take k = ys.take k ∧ Tch [] w w', ⟨n, 0, by omega, rfl, rfl, rfl, Tch.refl _ _⟩, ?_⟩
    rintro q w4 x ⟨k, hk, rfl, rfl, htk, ht⟩
    by_cases hlt : k < n
    · rw [bif_pos (by omega)]
      rintro w6 rfl
      obtain ⟨b1, o1, rfl, g1⟩ := (hx.below ht.drew.below).int (i := k) hlt
      obtain ⟨b2, o2, rfl, g2⟩ := (hy.below ht.drew.below).int (i := k) hlt
      simp only [optK, add_mk, Nat.mul_one, Int.toNat_natCast]
      refine ⟨by omega, by omega, _, g1, by omega, by omega, _, g2, ?_⟩
      by_cases hd : xs.getD k 0 = ys.getD k 0
      · rw [bif_npos hd, wrap_i64 (by omega) (by omega)]
        refine ⟨n - (k + 1), by omega, k + 1, by omega, by omega, rfl, ?_, ht.drew⟩
        rw [List.take_succ_eq_append_getElem (by omega), List.take_succ_eq_append_getElem (by omega), htk]
        have h1 : k < xs.length := by omega
        have h2 : k < ys.length := by omega
        simp only [List.getD_eq_getElem?_getD, List.getElem?_eq_getElem h1, List.getElem?_eq_getElem h2, Option.getD_some] at hd
        rw [hd]
      · rw [bif_nneg hd]
        refine ⟨?_, ht.drew⟩
        rw [decide_eq_false fun e => hd (by rw [e])]
    · rw [bif_neg (by omega)]
      have : k = n := by omega
      subst this
      rw [List.take_of_length_le (by omega), List.take_of_length_le (by omega)] at htk
      exact ⟨by rw [decide_eq_true htk], ht⟩
  · rw [bif_nneg (by omega)]
    exact ⟨by rw [decide_eq_false fun e => he (by rw [← hn, ← hm, e])], Tch.refl _ _⟩
theorem samePiece_c {F G : Nat → Prop} (w : World) (i n j m : Int) (a b : Option Addr) (an ac bn bc : Nat) (l k : List Tx) (h : BatchV F w a an ac l) (g : BatchV G w b bn bc k) (hs : Smalls l) :
    Calls Tryd.prog 22 #[.agg #[.int .i64 i, .int .i64 n, .slice a an ac], .agg #[.int .i64 j, .int .i64 m, .slice b bn bc]] w fun e w' => e = .returned (.bool (decide (i = j ∧ n = m ∧ l = k))) ∧ Tch [] w w' := by
  refine c22 _ _ ?_
  unfold d22
  rintro w2 rfl
  have hP : Blk _ _ [Value.int .i64 i, .int .i64 n, .slice a an ac] := Blk.fresh w (cs := [Value.int .i64 i, .int .i64 n, .slice a an ac]) 37 rfl
  have t1 := (Tch.refl [] w).alloc (.cells #[Value.int .i64 i, .int .i64 n, .slice a an ac] 37)
  generalize w.alloc (.cells #[Value.int .i64 i, .int .i64 n, .slice a an ac] 37) = w2 at *
  generalize w.heap.size = pb at *
  rintro w3 rfl
  have hQ : Blk _ _ [Value.int .i64 j, .int .i64 m, .slice b bn bc] := Blk.fresh w2 (cs := [Value.int .i64 j, .int .i64 m, .slice b bn bc]) 37 rfl
  have t2 := (Tch.refl [] w2).alloc (.cells #[Value.int .i64 j, .int .i64 m, .slice b bn bc] 37)
  generalize w2.alloc (.cells #[Value.int .i64 j, .int .i64 m, .slice b bn bc] 37) = w3 at *
  generalize w2.heap.size = qb at *
  replace hP := hP.tch t2 (by simp)
  have t := t1.trans t2 (by simp)
  refine ⟨i, by rw [add_mk]; exact hP.cell 0, j, by rw [add_mk]; exact hQ.cell 0, ?_⟩
  by_cases h1 : i = j
  rotate_left
  · rw [bif_neg h1]; exact ⟨by rw [decide_eq_false fun hh => h1 hh.1], t⟩
  rw [bif_pos h1]
  refine ⟨n, by rw [add_mk]; exact hP.cell 1, m, by rw [add_mk]; exact hQ.cell 1, ?_⟩
  by_cases h2 : n = m
  rotate_left
  · rw [bif_neg h2]; exact ⟨by rw [decide_eq_false fun hh => h2 hh.2.1], t⟩
  rw [bif_pos h2]
  refine ⟨a, an, ac, by rw [add_mk]; exact hP.cell 2, b, bn, bc, by rw [add_mk]; exact hQ.cell 2, ?_⟩
  refine (sameBatch_c w3 a b an ac bn bc l k (h.quiet t) (g.quiet t) hs).mono ?_
  rintro e w11 ⟨rfl, t3⟩
  exact ⟨_, rfl, by rw [show decide (l = k) = decide (i = j ∧ n = m ∧ l = k) from decide_eq_decide.2 ⟨fun h => ⟨h1, h2, h⟩, fun h => h.2.2⟩], t.trans t3 (by simp)⟩
theorem want_flat : flatK Tryd.prog 2 59 = some [.int .i64, .int .i64] := by kernel_rfl
theorem want_eqT : eqT Tryd.prog 2 59 = true := by kernel_rfl
theorem sameWants_c (w : World) (l k : List (Int × Int)) (a b : Option Addr) (n c m mc : Nat) (h : RSl w 2 a n c (rows kC l)) (g : RSl w 2 b m mc (rows kC k)) (hl : ∀ x ∈ l, kI x) (hk : ∀ x ∈ k, kI x) (hN : n ≤ 140737488355328) :
    Calls Tryd.prog 23 #[.slice a n c, .slice b m mc] w fun e w' => e = .returned (.bool (decide (l = k))) ∧ Tch [] w w' := by
  have hn : l.length = n := h.count kC_len (by omega)
  have hm : k.length = m := g.count kC_len (by omega)
  refine c23 _ _ _ _ _ _ ?_
  unfold d23
  by_cases he : n = m
  rotate_left
  · rw [bif_nneg (by omega)]
    exact ⟨by rw [decide_eq_false fun h => he (by rw [← hn, ← hm, h])], Tch.refl _ _⟩
  subst he
  rw [bif_npos rfl]
  refine ⟨fun q x u => ∃ i : Nat, x = i ∧ i ≤ n ∧ q = n - i ∧ l.take i = k.take i ∧ Tch [] w u, ⟨n, 0, rfl, by omega, rfl, rfl, Tch.refl _ _⟩, ?_⟩
  rintro q w4 x ⟨i, rfl, hi, rfl, htk, ht⟩
  by_cases hlt : i < n
  · rw [bif_pos (by omega)]
    rintro w6 rfl
    replace ht := ht.drew
    generalize w4.drew = w6 at *
    refine ⟨by omega, by omega, ?_⟩
    rw [Int.toNat_natCast]
    have w1 : l[i]? = some (l[i]'(by omega)) := List.getElem?_eq_getElem (by omega)
    have w2 : k[i]? = some (k[i]'(by omega)) := List.getElem?_eq_getElem (by omega)
    have m1 := hl _ (List.mem_of_getElem? w1)
    have m2 := hk _ (List.mem_of_getElem? w2)
    refine (h.tch ht (fun _ _ h => by cases h)).elem kC_len (by omega) w1 ?_
    refine ⟨by omega, by omega, ?_⟩
    refine (g.tch ht (fun _ _ h => by cases h)).elem kC_len (by omega) w2 ?_
    refine neq_flat_d want_flat want_eqT (key_fits m1) (key_fits m2) kC_inj ?_
    by_cases hd : l[i]'(by omega) = k[i]'(by omega)
    · rw [bif_npos hd]
      refine ⟨n - (i + 1), by omega, i + 1, by rw [wrap_i64 (by omega) (by omega)]; omega, by omega, rfl, ?_, ht⟩
      rw [List.take_add_one, List.take_add_one, htk, w1, w2, hd]
    · rw [bif_nneg hd]
      exact ⟨by rw [decide_eq_false fun h => hd (by subst h; rfl)], ht⟩
  · rw [bif_neg (by omega)]
    rw [List.take_of_length_le (by omega), List.take_of_length_le (by omega)] at htk
    exact ⟨by rw [decide_eq_true htk], ht⟩
end Go.Proofs.YtjchneebdlncfaaDoor.Frm
