/-
  THE CODE of some functions of the given program, resolved, and proved to ask what the readable texts (d..) say; contracts c.. follow. Printed by a small program of mine.
  KEYS, ROWS AND NODES, as cells and as the texts whose digests they have.
  KEYS: contracts of Check, form, Bytes and of the reference's.
  NODES: contracts of slices.Grow and slices.Concat on bytes, of leafSum and forkSum.
  WHAT THE CARDS OF THESE LAWS SHARE: the digest's tables as the rows list them, a world for the witnesses.
  NUMBERS AND BYTES: lists of numbers as cells, ranges, bytes of numbers.
  WORDS FOR CONTRACTS: append, and where the new slice lies; of one element likewise; facts about owned rows.
  WORDS FOR CONTRACTS: make, type assertions, what a call ends with.
  Own work. No macro, syntax, notation, axiom.
-/
import Derived.Test.YtjkbjppopdfggaaDoorTruPk6
import Derived.Test.YtjkbjppopdfggaaDoorProg
import Derived.Test.YtjkbjppopdfggaaDoorTruPk5
import Derived.Test.YtjkbjppopdfggaaDoorTruPk3
import Derived.Test.YtjkbjppopdfggaaDoorCards
import Derived.Test.YtjkbjppopdfggaaDoorTie
import Derived.Stop.LaidErr
import Derived.Maps.AppendAt
import Derived.Laws.MakeOwn
set_option maxRecDepth 100000
namespace Go.Proofs.YtjkbjppopdfggaaDoor.Fn
open Go Den
/-- prelude/preluderef24.Of -/
def s16 : S := (.seq (.ops [⟨(some 1), (.box 33 (.tmp 0)), .ptr, none⟩,
  ⟨(some 2), (.alloc 24), .ptr, none⟩,
  ⟨(some 3), (.mv (.const (.int .i64 0))), (.int .i64), none⟩] [1, 2])
 (.seq (.ops [⟨(some 7), (.ldN 69 (.tmp 1)), .agg, none⟩,
  ⟨(some 8), (.call 54 [(.tmp 7)] [.sl, .bool]), .any, none⟩,
  ⟨(some 6), (.mv (.tmp 8)), .any, none⟩,
  ⟨(some 9), (.ext 0 (.tmp 6)), .sl, none⟩,
  ⟨(some 10), (.ext 1 (.tmp 6)), .bool, none⟩,
  ⟨(some 4), (.mv (.tmp 9)), .sl, none⟩,
  ⟨(some 5), (.mv (.tmp 10)), .bool, none⟩] [5, 2, 1, 4])
 (.seq (.seq (.ops [⟨(some 11), (.mv (.tmp 5)), .bool, none⟩,
  ⟨(some 12), (.un .not (.tmp 11)), .bool, none⟩] [12, 2, 1, 4])
 (.cond (.tmp 12)
 (.seq (.ops [⟨(some 13), (.bld 24 (.elems 1) []), .agg, none⟩,
  ⟨none, (.stN 32 (.tmp 2) (.tmp 13)), .any, none⟩,
  ⟨(some 3), (.mv (.const (.int .i64 252))), (.int .i64), none⟩] [2, 3])
 .ret)
 .skip))
 (.seq (.seq (.ops [⟨(some 14), (.fa 0 (.tmp 1)), .ptr, none⟩,
  ⟨(some 15), (.ld1 (.tmp 14)), (.int .i64), none⟩,
  ⟨(some 16), (.bin .eql (.tmp 15) (.const (.int .i64 0))), .bool, none⟩] [16, 2, 4])
 (.cond (.tmp 16)
 (.seq (.ops [⟨(some 17), (.bld 24 (.elems 1) []), .agg, none⟩,
  ⟨none, (.stN 32 (.tmp 2) (.tmp 17)), .any, none⟩,
  ⟨(some 3), (.mv (.const (.int .i64 0))), (.int .i64), none⟩] [2, 3])
 .ret)
 .skip))
 (.seq (.ops [⟨(some 18), (.mv (.tmp 4)), .sl, none⟩,
  ⟨(some 19), (.call 13 [(.tmp 18)] [.agg]), .agg, none⟩,
  ⟨none, (.stN 32 (.tmp 2) (.tmp 19)), .any, none⟩,
  ⟨(some 3), (.mv (.const (.int .i64 0))), (.int .i64), none⟩] [2, 3])
 .ret)))))
def r16 : List Res := [.cN 2 32, .t 3]
theorem tr16 : trS Tryd.prog [] 20 (Tryd.f16.body.getD .skip) s16 = some s16 := by kernel_rfl
theorem den16 (args : List Value) (w : World) (R : Ending → World → Prop) (hn : args.length ≤ 20) (h : denS Tryd.prog s16 (argsEnv 0 args) w (endK r16 R)) : Calls Tryd.prog 16 args.toArray w R :=
  calls_of_den (pn := []) (fn := Tryd.f16) (c := Tryd.f16.body.getD .skip) Tryd.func16 (by kernel_rfl) (by rw [Tryd.ntmps16]; exact hn) (by rw [Tryd.ntmps16]; exact tr16) (by kernel_rfl) h
def d16 (n0 : Array Value) (w : World) (R : Ending → World → Prop) : Prop :=
 ∀ w1 : World, w1 = World.alloc w (.cells n0 33) →
 ∀ w2 : World, w2 = World.alloc w1 (.cells (zc Tryd.prog 24).toArray 24) →
 ∃ cs3 : List Value, List.length cs3 = 69 ∧ Cells w2 ⟨World.heap w |>.size, 0, none⟩ cs3 ∧
 Calls Tryd.prog 54 #[(.agg (List.toArray cs3))] w2 fun e4 w5 => ∃ (x6 : Option Addr) (x6n : Nat) (x6c : Nat), ∃ x7 : Bool, e4 = .returned (.tuple #[(.slice x6 x6n x6c), (.bool x7)]) ∧
 ∃ (x8 : Option Addr) (x8n : Nat) (x8c : Nat), (#[(.slice x6 x6n x6c), (.bool x7)] : Array Value)[0]? = some (.slice x8 x8n x8c) ∧
 ∃ x9 : Bool, (#[(.slice x6 x6n x6c), (.bool x7)] : Array Value)[1]? = some (.bool x9) ∧
 (bif (!x9) then
 (∃ cs10, fillL (.elems 1) (zc Tryd.prog 24) [] = some cs10 ∧
 Array.size (List.toArray cs10) = 32 ∧ (∀ u ∈ Array.toList (List.toArray cs10), one u = true) ∧ Room w5 ⟨World.heap w1 |>.size, 0, none⟩ 32 ∧
 ∀ w11 : World, w11 = setCells w5 ⟨World.heap w1 |>.size, 0, none⟩ (Array.toList (List.toArray cs10)) 0 →
 ∃ cs12 : List Value, List.length cs12 = 32 ∧ Cells w11 ⟨World.heap w1 |>.size, 0, none⟩ cs12 ∧
 R (.returned (.tuple #[(.agg (List.toArray cs12)), (.int .i64 252)])) w11)
 else
 (∃ x13 : Int, World.cell? w5 (Addr.add ⟨World.heap w |>.size, 0, none⟩ 0) = some (.int .i64 x13) ∧
 (bif (decide (x13 = 0)) then
 (∃ cs14, fillL (.elems 1) (zc Tryd.prog 24) [] = some cs14 ∧
 Array.size (List.toArray cs14) = 32 ∧ (∀ u ∈ Array.toList (List.toArray cs14), one u = true) ∧ Room w5 ⟨World.heap w1 |>.size, 0, none⟩ 32 ∧
 ∀ w15 : World, w15 = setCells w5 ⟨World.heap w1 |>.size, 0, none⟩ (Array.toList (List.toArray cs14)) 0 →
 ∃ cs16 : List Value, List.length cs16 = 32 ∧ Cells w15 ⟨World.heap w1 |>.size, 0, none⟩ cs16 ∧
 R (.returned (.tuple #[(.agg (List.toArray cs16)), (.int .i64 0)])) w15)
 else
 (Calls Tryd.prog 13 #[(.slice x8 x8n x8c)] w5 fun e17 w18 => ∃ x19 : Array Value, e17 = .returned (.agg x19) ∧
 Array.size x19 = 32 ∧ (∀ u ∈ Array.toList x19, one u = true) ∧ Room w18 ⟨World.heap w1 |>.size, 0, none⟩ 32 ∧
 ∀ w20 : World, w20 = setCells w18 ⟨World.heap w1 |>.size, 0, none⟩ (Array.toList x19) 0 →
 ∃ cs21 : List Value, List.length cs21 = 32 ∧ Cells w20 ⟨World.heap w1 |>.size, 0, none⟩ cs21 ∧
 R (.returned (.tuple #[(.agg (List.toArray cs21)), (.int .i64 0)])) w20))))
theorem e16 (n0 : Array Value) (w : World) (R : Ending → World → Prop) : denS Tryd.prog s16 (argsEnv 0 [(.agg n0)]) w (endK r16 R) = d16 n0 w R := by kernel_rfl
theorem c16 (n0 : Array Value) {w : World} {R : Ending → World → Prop} (h : d16 n0 w R) : Calls Tryd.prog 16 #[(.agg n0)] w R :=
  den16 [(.agg n0)] w R (by simp) ((e16 n0 w R).symm ▸ h)

/-- prelude/preludelaw24.num -/
def s17 : S := (.seq (.ops [⟨(some 2), (.mv (.const (.int .i64 0))), (.int .i64), none⟩] [0])
 (.seq (.ops [⟨(some 3), (.mv (.tmp 0)), (.int .i64), none⟩,
  ⟨(some 2), (.mv (.tmp 3)), (.int .i64), none⟩] [2])
 .ret))
def r17 : List Res := [.t 2]
theorem tr17 : trS Tryd.prog [] 4 (Tryd.f17.body.getD .skip) s17 = some s17 := by kernel_rfl
theorem den17 (args : List Value) (w : World) (R : Ending → World → Prop) (hn : args.length ≤ 4) (h : denS Tryd.prog s17 (argsEnv 0 args) w (endK r17 R)) : Calls Tryd.prog 17 args.toArray w R :=
  calls_of_den (pn := []) (fn := Tryd.f17) (c := Tryd.f17.body.getD .skip) Tryd.func17 (by kernel_rfl) (by rw [Tryd.ntmps17]; exact hn) (by rw [Tryd.ntmps17]; exact tr17) (by kernel_rfl) h
def d17 (e0 : Int) (w : World) (R : Ending → World → Prop) : Prop :=
 R (.returned (.int .i64 e0)) w
theorem e17 (e0 : Int) (w : World) (R : Ending → World → Prop) : denS Tryd.prog s17 (argsEnv 0 [(.int .i64 e0)]) w (endK r17 R) = d17 e0 w R := by kernel_rfl
theorem c17 (e0 : Int) {w : World} {R : Ending → World → Prop} (h : d17 e0 w R) : Calls Tryd.prog 17 #[(.int .i64 e0)] w R :=
  den17 [(.int .i64 e0)] w R (by simp) ((e17 e0 w R).symm ▸ h)

/-- prelude/proof.leafSum -/
def s51 : S := (.seq (.ops [⟨(some 1), (.box 31 (.tmp 0)), .ptr, none⟩,
  ⟨(some 2), (.alloc 24), .ptr, none⟩] [1, 2])
 (.seq (.ops [⟨(some 8), (.fa 0 (.tmp 1)), .ptr, none⟩,
  ⟨(some 9), (.ldN 2 (.tmp 8)), .agg, none⟩,
  ⟨(some 10), (.call 55 [(.tmp 9)] [.sl, (.int .i64)]), .any, none⟩,
  ⟨(some 7), (.mv (.tmp 10)), .any, none⟩,
  ⟨(some 11), (.ext 0 (.tmp 7)), .sl, none⟩,
  ⟨(some 12), (.ext 1 (.tmp 7)), (.int .i64), none⟩,
  ⟨(some 3), (.mv (.tmp 11)), .sl, none⟩,
  ⟨(some 4), (.mv (.tmp 12)), (.int .i64), none⟩] [3, 1, 2])
 (.seq (.ops [⟨(some 13), (.bldS 5 1 1 [(0, (.const (.int .u8 0)))]), .sl, none⟩,
  ⟨(some 14), (.mv (.tmp 3)), .sl, none⟩,
  ⟨(some 15), (.app #[22, 22] 22 (.tmp 13) (.tmp 14)), .sl, none⟩,
  ⟨(some 5), (.mv (.tmp 15)), .sl, none⟩] [5, 1, 2])
 (.seq (.seq (.ops [⟨(some 6), (.mv (.const (.int .i64 56))), (.int .i64), none⟩] [6, 5, 1, 2])
 (.block 0
 (.loop [(5, .sl), (6, (.int .i64))] [1, 2]
 (.seq (.seq (.ops [⟨(some 16), (.mv (.tmp 6)), (.int .i64), none⟩,
  ⟨(some 17), (.bin .geq (.tmp 16) (.const (.int .i64 0))), .bool, none⟩] [17, 5, 1, 6, 2])
 (.cond (.tmp 17)
 .skip
 (.exit 0)))
 (.seq (.block 1
 (.ops [⟨(some 20), (.mv (.tmp 5)), .sl, none⟩,
  ⟨(some 21), (.fa 2 (.tmp 1)), .ptr, none⟩,
  ⟨(some 22), (.ld1 (.tmp 21)), (.int .i64), none⟩,
  ⟨(some 23), (.cv .u64 (.tmp 22)), (.int .u64), none⟩,
  ⟨(some 24), (.mv (.tmp 6)), (.int .i64), none⟩,
  ⟨(some 25), (.bin .shr (.tmp 23) (.tmp 24)), (.int .u64), none⟩,
  ⟨(some 26), (.cv .u8 (.tmp 25)), (.int .u8), none⟩,
  ⟨(some 27), (.bldS 5 1 1 [(0, (.tmp 26))]), .sl, none⟩,
  ⟨(some 28), (.app #[22, 22] 22 (.tmp 20) (.tmp 27)), .sl, none⟩,
  ⟨(some 5), (.mv (.tmp 28)), .sl, none⟩] [6, 5, 1, 2]))
 (.ops [⟨(some 18), (.mv (.tmp 6)), (.int .i64), none⟩,
  ⟨(some 19), (.bin .sub (.tmp 18) (.const (.int .i64 8))), (.int .i64), none⟩,
  ⟨(some 6), (.mv (.tmp 19)), (.int .i64), none⟩] [6, 5, 1, 2]))))))
 (.seq (.ops [⟨(some 29), (.mv (.tmp 5)), .sl, none⟩,
  ⟨(some 30), (.call 12 [(.tmp 29)] [.agg]), .agg, none⟩,
  ⟨none, (.stN 32 (.tmp 2) (.tmp 30)), .any, none⟩] [2])
 .ret)))))
def r51 : List Res := [.cN 2 32]
theorem tr51 : trS Tryd.prog [] 31 (Tryd.f51.body.getD .skip) s51 = some s51 := by kernel_rfl
theorem den51 (args : List Value) (w : World) (R : Ending → World → Prop) (hn : args.length ≤ 31) (h : denS Tryd.prog s51 (argsEnv 0 args) w (endK r51 R)) : Calls Tryd.prog 51 args.toArray w R :=
  calls_of_den (pn := []) (fn := Tryd.f51) (c := Tryd.f51.body.getD .skip) Tryd.func51 (by kernel_rfl) (by rw [Tryd.ntmps51]; exact hn) (by rw [Tryd.ntmps51]; exact tr51) (by kernel_rfl) h
def d51 (r0 : Array Value) (w : World) (R : Ending → World → Prop) : Prop :=
 ∀ w1 : World, w1 = World.alloc w (.cells r0 31) →
 ∀ w2 : World, w2 = World.alloc w1 (.cells (zc Tryd.prog 24).toArray 24) →
 ∃ cs3 : List Value, List.length cs3 = 2 ∧ Cells w2 (Addr.add ⟨World.heap w |>.size, 0, none⟩ 0) cs3 ∧
 Calls Tryd.prog 55 #[(.agg (List.toArray cs3))] w2 fun e4 w5 => ∃ (x6 : Option Addr) (x6n : Nat) (x6c : Nat), ∃ x7 : Int, e4 = .returned (.tuple #[(.slice x6 x6n x6c), (.int .i64 x7)]) ∧
 ∃ (x8 : Option Addr) (x8n : Nat) (x8c : Nat), (#[(.slice x6 x6n x6c), (.int .i64 x7)] : Array Value)[0]? = some (.slice x8 x8n x8c) ∧
 ∃ x9 : Int, (#[(.slice x6 x6n x6c), (.int .i64 x7)] : Array Value)[1]? = some (.int .i64 x9) ∧
 ∃ cs10, fillL (.elems 1) (zrep (zc Tryd.prog 5) (1 * 1)) [(0, (.int .u8 0))] = some cs10 ∧
 ∀ w11 : World, w11 = World.alloc w5 (.cells (List.toArray cs10) 5) →
 RunV Tryd.prog (Builtin.append_ #[22, 22] 22 #[(.slice (some ⟨World.heap w5 |>.size, 0, none⟩) 1 1), (.slice x8 x8n x8c)]) w11 fun v12 w13 => ∃ (x14 : Option Addr) (x14n : Nat) (x14c : Nat), v12 = (.slice x14 x14n x14c) ∧
 ∃ I15 : Nat → Option Addr → Nat → Nat → Int → World → Prop,
 (∃ m, I15 m x14 x14n x14c 56 w13) ∧
 (∀ (m16 : Nat) (w17 : World) (t18 : Option Addr) (t18n : Nat) (t18c : Nat) (k19 : Int), I15 m16 t18 t18n t18c k19 w17 →
 (bif (decide (0 ≤ k19)) then
 (∃ x20 : Int, World.cell? w17 (Addr.add ⟨World.heap w |>.size, 0, none⟩ 2) = some (.int .i64 x20) ∧
 0 ≤ k19 ∧ ∃ cs21, fillL (.elems 1) (zrep (zc Tryd.prog 5) (1 * 1)) [(0, (.int .u8 (IntKind.wrap .u8 (shR .u64 (IntKind.wrap .u64 x20) k19))))] = some cs21 ∧
 ∀ w22 : World, w22 = World.alloc w17 (.cells (List.toArray cs21) 5) →
 RunV Tryd.prog (Builtin.append_ #[22, 22] 22 #[(.slice t18 t18n t18c), (.slice (some ⟨World.heap w17 |>.size, 0, none⟩) 1 1)]) w22 fun v23 w24 => ∃ (x25 : Option Addr) (x25n : Nat) (x25c : Nat), v23 = (.slice x25 x25n x25c) ∧
 ∃ m26, m26 < m16 ∧ I15 m26 x25 x25n x25c (IntKind.wrap .i64 (k19 - 8)) w24)
 else
 (Calls Tryd.prog 12 #[(.slice t18 t18n t18c)] w17 fun e27 w28 => ∃ x29 : Array Value, e27 = .returned (.agg x29) ∧
 Array.size x29 = 32 ∧ (∀ u ∈ Array.toList x29, one u = true) ∧ Room w28 ⟨World.heap w1 |>.size, 0, none⟩ 32 ∧
 ∀ w30 : World, w30 = setCells w28 ⟨World.heap w1 |>.size, 0, none⟩ (Array.toList x29) 0 →
 ∃ cs31 : List Value, List.length cs31 = 32 ∧ Cells w30 ⟨World.heap w1 |>.size, 0, none⟩ cs31 ∧
 R (.returned (.agg (List.toArray cs31))) w30)))
theorem e51 (r0 : Array Value) (w : World) (R : Ending → World → Prop) : denS Tryd.prog s51 (argsEnv 0 [(.agg r0)]) w (endK r51 R) = d51 r0 w R := by kernel_rfl
theorem c51 (r0 : Array Value) {w : World} {R : Ending → World → Prop} (h : d51 r0 w R) : Calls Tryd.prog 51 #[(.agg r0)] w R :=
  den51 [(.agg r0)] w R (by simp) ((e51 r0 w R).symm ▸ h)

/-- prelude/proof.rank -/
def s52 : S := (.seq (.ops [⟨(some 2), (.mv (.const (.bool false))), .bool, none⟩] [0])
 (.seq (.ops [⟨(some 3), (.mv (.tmp 0)), (.int .i64), none⟩,
  ⟨(some 4), (.bin .geq (.tmp 3) (.const (.int .i64 0))), .bool, none⟩,
  ⟨(some 5), (.mv (.tmp 4)), .bool, none⟩,
  ⟨(some 6), (.mv (.tmp 0)), (.int .i64), (some (5, true))⟩,
  ⟨(some 7), (.bin .lss (.tmp 6) (.const (.int .i64 80))), .bool, (some (5, true))⟩,
  ⟨(some 8), (.pick (.tmp 5) (.tmp 7) (.const (.bool false))), .bool, none⟩,
  ⟨(some 2), (.mv (.tmp 8)), .bool, none⟩] [2])
 .ret))
def r52 : List Res := [.t 2]
theorem tr52 : trS Tryd.prog [] 9 (Tryd.f52.body.getD .skip) s52 = some s52 := by kernel_rfl
theorem den52 (args : List Value) (w : World) (R : Ending → World → Prop) (hn : args.length ≤ 9) (h : denS Tryd.prog s52 (argsEnv 0 args) w (endK r52 R)) : Calls Tryd.prog 52 args.toArray w R :=
  calls_of_den (pn := []) (fn := Tryd.f52) (c := Tryd.f52.body.getD .skip) Tryd.func52 (by kernel_rfl) (by rw [Tryd.ntmps52]; exact hn) (by rw [Tryd.ntmps52]; exact tr52) (by kernel_rfl) h
def d52 (n0 : Int) (w : World) (R : Ending → World → Prop) : Prop :=
 (bif (decide (0 ≤ n0)) then
 (R (.returned (.bool (decide (n0 < 80)))) w)
 else
 (R (.returned (.bool false)) w))
theorem e52 (n0 : Int) (w : World) (R : Ending → World → Prop) : denS Tryd.prog s52 (argsEnv 0 [(.int .i64 n0)]) w (endK r52 R) = d52 n0 w R := by kernel_rfl
theorem c52 (n0 : Int) {w : World} {R : Ending → World → Prop} (h : d52 n0 w R) : Calls Tryd.prog 52 #[(.int .i64 n0)] w R :=
  den52 [(.int .i64 n0)] w R (by simp) ((e52 n0 w R).symm ▸ h)

/-- prelude/proof.forkSum -/
def s53 : S := (.seq (.ops [⟨(some 4), (.box 24 (.tmp 1)), .ptr, none⟩,
  ⟨(some 5), (.box 24 (.tmp 2)), .ptr, none⟩,
  ⟨(some 6), (.alloc 24), .ptr, none⟩] [0, 4, 5, 6])
 (.seq (.draw (.take 0 ⟨(some 7), (.mv (.tmp 0)), (.int .i64), none⟩
  (.take 1 ⟨(some 8), (.cv .u8 (.tmp 7)), (.int .u8), none⟩
  (.take 3 ⟨(some 10), (.slA 32 1 (.tmp 4) none none none), .sl, none⟩
  (.take 4 ⟨(some 11), (.slA 32 1 (.tmp 5) none none none), .sl, none⟩
  (.go 2 ⟨(some 9), (.bldS 5 2 1 [(0, (.const (.int .u8 1))), (1, (.tmp 8))]), .sl, none⟩ []
  (.go 5 ⟨(some 12), (.bldS 22 3 1 [(0, (.tmp 9)), (1, (.tmp 10)), (2, (.tmp 11))]), .sl, none⟩ []
  (.go 6 ⟨(some 13), (.call 71 [(.tmp 12)] [.sl]), .sl, none⟩ []
  (.go 7 ⟨(some 14), (.call 12 [(.tmp 13)] [.agg]), .agg, none⟩ []
  (.go 8 ⟨none, (.stN 32 (.tmp 6) (.tmp 14)), .any, none⟩ []
  .done))))))))) [6])
 .ret))
def r53 : List Res := [.cN 6 32]
theorem tr53 : trS Tryd.prog [] 15 (Tryd.f53.body.getD .skip) s53 = some s53 := by kernel_rfl
theorem den53 (args : List Value) (w : World) (R : Ending → World → Prop) (hn : args.length ≤ 15) (h : denS Tryd.prog s53 (argsEnv 0 args) w (endK r53 R)) : Calls Tryd.prog 53 args.toArray w R :=
  calls_of_den (pn := []) (fn := Tryd.f53) (c := Tryd.f53.body.getD .skip) Tryd.func53 (by kernel_rfl) (by rw [Tryd.ntmps53]; exact hn) (by rw [Tryd.ntmps53]; exact tr53) (by kernel_rfl) h
def d53 (n0 : Int) (l1 : Array Value) (r2 : Array Value) (w : World) (R : Ending → World → Prop) : Prop :=
 ∀ w3 : World, w3 = World.alloc w (.cells l1 24) →
 ∀ w4 : World, w4 = World.alloc w3 (.cells r2 24) →
 ∀ w5 : World, w5 = World.alloc w4 (.cells (zc Tryd.prog 24).toArray 24) →
 ∀ w6 : World, w6 = World.drew w5 →
 ∃ cs7, fillL (.elems 1) (zrep (zc Tryd.prog 5) (2 * 1)) [(0, (.int .u8 1)), (1, (.int .u8 (IntKind.wrap .u8 n0)))] = some cs7 ∧
 ∀ w8 : World, w8 = World.alloc w6 (.cells (List.toArray cs7) 5) →
 ∃ cs9, fillL (.elems 1) (zrep (zc Tryd.prog 22) (3 * 1)) [(0, (.slice (some ⟨World.heap w6 |>.size, 0, none⟩) 2 2)), (1, (.slice (some (if 32 = 0 then ⟨World.heap w |>.size, 0, none⟩ else Addr.add ⟨World.heap w |>.size, 0, none⟩ (0 * 1))) (32 - 0) (32 - 0))), (2, (.slice (some (if 32 = 0 then ⟨World.heap w3 |>.size, 0, none⟩ else Addr.add ⟨World.heap w3 |>.size, 0, none⟩ (0 * 1))) (32 - 0) (32 - 0)))] = some cs9 ∧
 ∀ w10 : World, w10 = World.alloc w8 (.cells (List.toArray cs9) 22) →
 Calls Tryd.prog 71 #[(.slice (some ⟨World.heap w8 |>.size, 0, none⟩) 3 3)] w10 fun e11 w12 => ∃ (x13 : Option Addr) (x13n : Nat) (x13c : Nat), e11 = .returned (.slice x13 x13n x13c) ∧
 Calls Tryd.prog 12 #[(.slice x13 x13n x13c)] w12 fun e14 w15 => ∃ x16 : Array Value, e14 = .returned (.agg x16) ∧
 Array.size x16 = 32 ∧ (∀ u ∈ Array.toList x16, one u = true) ∧ Room w15 ⟨World.heap w4 |>.size, 0, none⟩ 32 ∧
 ∀ w17 : World, w17 = setCells w15 ⟨World.heap w4 |>.size, 0, none⟩ (Array.toList x16) 0 →
 ∃ cs18 : List Value, List.length cs18 = 32 ∧ Cells w17 ⟨World.heap w4 |>.size, 0, none⟩ cs18 ∧
 R (.returned (.agg (List.toArray cs18))) w17
theorem e53 (n0 : Int) (l1 : Array Value) (r2 : Array Value) (w : World) (R : Ending → World → Prop) : denS Tryd.prog s53 (argsEnv 0 [(.int .i64 n0), (.agg l1), (.agg r2)]) w (endK r53 R) = d53 n0 l1 r2 w R := by kernel_rfl
theorem c53 (n0 : Int) (l1 : Array Value) (r2 : Array Value) {w : World} {R : Ending → World → Prop} (h : d53 n0 l1 r2 w R) : Calls Tryd.prog 53 #[(.int .i64 n0), (.agg l1), (.agg r2)] w R :=
  den53 [(.int .i64 n0), (.agg l1), (.agg r2)] w R (by simp) ((e53 n0 l1 r2 w R).symm ▸ h)

/-- prelude/preluderef24.Text -/
def s54 : S := (.seq (.ops [⟨(some 1), (.box 33 (.tmp 0)), .ptr, none⟩,
  ⟨(some 2), (.mv (.const (.slice none 0 0))), .sl, none⟩,
  ⟨(some 3), (.mv (.const (.bool false))), .bool, none⟩] [1])
 (.seq (.ops [⟨(some 11), (.fa 66 (.tmp 1)), .ptr, none⟩,
  ⟨(some 12), (.ldN 3 (.tmp 11)), .agg, none⟩,
  ⟨(some 13), (.bld 31 (.fields [(0, 2), (2, 1)]) []), .agg, none⟩,
  ⟨(some 14), (.eqG .eql 31 (.tmp 12) (.tmp 13)), .bool, none⟩,
  ⟨(some 4), (.mv (.tmp 14)), .bool, none⟩] [1, 4])
 (.join [(5, .bool)] [1, 4]
 (.ops [⟨(some 15), (.fa 2 (.tmp 1)), .ptr, none⟩,
  ⟨(some 16), (.ldN 32 (.tmp 15)), .agg, none⟩,
  ⟨(some 17), (.bld 24 (.elems 1) []), .agg, none⟩,
  ⟨(some 18), (.eqG .eql 24 (.tmp 16) (.tmp 17)), .bool, none⟩,
  ⟨(some 19), (.mv (.tmp 18)), .bool, none⟩,
  ⟨(some 20), (.fa 34 (.tmp 1)), .ptr, (some (19, true))⟩,
  ⟨(some 21), (.ldN 32 (.tmp 20)), .agg, (some (19, true))⟩,
  ⟨(some 22), (.bld 24 (.elems 1) []), .agg, (some (19, true))⟩,
  ⟨(some 23), (.eqG .eql 24 (.tmp 21) (.tmp 22)), .bool, (some (19, true))⟩,
  ⟨(some 24), (.pick (.tmp 19) (.tmp 23) (.const (.bool false))), .bool, none⟩,
  ⟨(some 5), (.mv (.tmp 24)), .bool, none⟩] [1, 4, 5])
 (.seq (.seq (.ops [⟨(some 25), (.fa 0 (.tmp 1)), .ptr, none⟩,
  ⟨(some 26), (.ld1 (.tmp 25)), (.int .i64), none⟩] [26, 4, 5, 1])
 (.block 0
 (.seq (.ops [⟨(some 28), (.bin .eql (.tmp 26) (.const (.int .i64 0))), .bool, none⟩,
  ⟨(some 27), (.mv (.tmp 28)), .bool, none⟩] [27, 4, 5, 1, 26])
 (.cond (.tmp 27)
 (.seq (.draw (.take 0 ⟨(some 29), (.mv (.tmp 4)), .bool, none⟩
  (.take 1 ⟨(some 30), (.mv (.tmp 29)), .bool, none⟩
  (.take 2 ⟨(some 31), (.mv (.tmp 5)), .bool, (some (30, true))⟩
  (.take 3 ⟨(some 32), (.pick (.tmp 30) (.tmp 31) (.const (.bool false))), .bool, none⟩
  (.take 4 ⟨(some 33), (.mv (.tmp 32)), .bool, none⟩
  (.take 5 ⟨(some 34), (.fa 1 (.tmp 1)), .ptr, (some (33, true))⟩
  (.take 6 ⟨(some 35), (.ld1 (.tmp 34)), (.int .i64), (some (33, true))⟩
  (.take 7 ⟨(some 36), (.bin .eql (.tmp 35) (.const (.int .i64 0))), .bool, (some (33, true))⟩
  (.take 8 ⟨(some 37), (.pick (.tmp 33) (.tmp 36) (.const (.bool false))), .bool, none⟩
  (.take 9 ⟨(some 2), (.mv (.const (.slice none 0 0))), .sl, none⟩
  (.take 10 ⟨(some 3), (.mv (.tmp 37)), .bool, none⟩
  .done))))))))))) [2, 3])
 .ret)
 (.seq (.ops [⟨(some 39), (.bin .eql (.tmp 26) (.const (.int .i64 1))), .bool, none⟩,
  ⟨(some 38), (.mv (.tmp 39)), .bool, none⟩] [38, 5, 1, 26, 4])
 (.cond (.tmp 38)
 (.join [] [1]
 (.seq (.ops [⟨(some 40), (.mv (.tmp 5)), .bool, none⟩,
  ⟨(some 41), (.un .not (.tmp 40)), .bool, none⟩,
  ⟨(some 42), (.mv (.tmp 41)), .bool, none⟩,
  ⟨(some 43), (.fa 1 (.tmp 1)), .ptr, (some (42, false))⟩,
  ⟨(some 44), (.ld1 (.tmp 43)), (.int .i64), (some (42, false))⟩,
  ⟨(some 45), (.bin .neq (.tmp 44) (.const (.int .i64 0))), .bool, (some (42, false))⟩,
  ⟨(some 46), (.pick (.tmp 42) (.const (.bool true)) (.tmp 45)), .bool, none⟩,
  ⟨(some 47), (.mv (.tmp 46)), .bool, none⟩,
  ⟨(some 48), (.fa 66 (.tmp 1)), .ptr, (some (47, false))⟩,
  ⟨(some 49), (.fa 0 (.tmp 48)), .ptr, (some (47, false))⟩,
  ⟨(some 50), (.ldN 2 (.tmp 49)), .agg, (some (47, false))⟩,
  ⟨(some 51), (.call 57 [(.tmp 50)] [(.int .i64)]), (.int .i64), (some (47, false))⟩,
  ⟨(some 52), (.bin .neq (.tmp 51) (.const (.int .i64 0))), .bool, (some (47, false))⟩,
  ⟨(some 53), (.pick (.tmp 47) (.const (.bool true)) (.tmp 52)), .bool, none⟩] [53, 1])
 (.cond (.tmp 53)
 (.seq (.ops [⟨(some 2), (.mv (.const (.slice none 0 0))), .sl, none⟩,
  ⟨(some 3), (.mv (.const (.bool false))), .bool, none⟩] [2, 3])
 .ret)
 .skip))
 (.seq (.ops [⟨(some 55), (.fa 66 (.tmp 1)), .ptr, none⟩,
  ⟨(some 56), (.fa 0 (.tmp 55)), .ptr, none⟩,
  ⟨(some 57), (.ldN 2 (.tmp 56)), .agg, none⟩,
  ⟨(some 58), (.call 72 [(.tmp 57)] [.sl, (.int .i64)]), .any, none⟩,
  ⟨(some 54), (.mv (.tmp 58)), .any, none⟩,
  ⟨(some 59), (.ext 0 (.tmp 54)), .sl, none⟩,
  ⟨(some 60), (.ext 1 (.tmp 54)), (.int .i64), none⟩,
  ⟨(some 6), (.mv (.tmp 59)), .sl, none⟩,
  ⟨(some 7), (.mv (.tmp 60)), (.int .i64), none⟩] [6, 1])
 (.seq (.ops [⟨(some 61), (.bldS 5 1 1 [(0, (.const (.int .u8 0)))]), .sl, none⟩,
  ⟨(some 62), (.mv (.tmp 6)), .sl, none⟩,
  ⟨(some 63), (.app #[22, 22] 22 (.tmp 61) (.tmp 62)), .sl, none⟩,
  ⟨(some 8), (.mv (.tmp 63)), .sl, none⟩] [8, 1])
 (.seq (.seq (.ops [⟨(some 9), (.mv (.const (.int .i64 7))), (.int .i64), none⟩] [9, 8, 1])
 (.block 1
 (.loop [(8, .sl), (9, (.int .i64))] [1]
 (.seq (.seq (.ops [⟨(some 64), (.mv (.tmp 9)), (.int .i64), none⟩,
  ⟨(some 65), (.bin .geq (.tmp 64) (.const (.int .i64 0))), .bool, none⟩] [65, 8, 1, 9])
 (.cond (.tmp 65)
 .skip
 (.exit 1)))
 (.seq (.block 2
 (.ops [⟨(some 68), (.mv (.tmp 8)), .sl, none⟩,
  ⟨(some 69), (.fa 66 (.tmp 1)), .ptr, none⟩,
  ⟨(some 70), (.fa 2 (.tmp 69)), .ptr, none⟩,
  ⟨(some 71), (.ld1 (.tmp 70)), (.int .i64), none⟩,
  ⟨(some 72), (.cv .u64 (.tmp 71)), (.int .u64), none⟩,
  ⟨(some 73), (.mv (.tmp 9)), (.int .i64), none⟩,
  ⟨(some 74), (.bin .mul (.const (.int .i64 8)) (.tmp 73)), (.int .i64), none⟩,
  ⟨(some 75), (.bin .shr (.tmp 72) (.tmp 74)), (.int .u64), none⟩,
  ⟨(some 76), (.cv .u8 (.tmp 75)), (.int .u8), none⟩,
  ⟨(some 77), (.bldS 5 1 1 [(0, (.tmp 76))]), .sl, none⟩,
  ⟨(some 78), (.app #[22, 22] 22 (.tmp 68) (.tmp 77)), .sl, none⟩,
  ⟨(some 8), (.mv (.tmp 78)), .sl, none⟩] [9, 8, 1]))
 (.ops [⟨(some 66), (.mv (.tmp 9)), (.int .i64), none⟩,
  ⟨(some 67), (.bin .sub (.tmp 66) (.const (.int .i64 1))), (.int .i64), none⟩,
  ⟨(some 9), (.mv (.tmp 67)), (.int .i64), none⟩] [9, 8, 1]))))))
 (.seq (.ops [⟨(some 79), (.mv (.tmp 8)), .sl, none⟩,
  ⟨(some 2), (.mv (.tmp 79)), .sl, none⟩,
  ⟨(some 3), (.mv (.const (.bool true))), .bool, none⟩] [2, 3])
 .ret)))))
 (.seq (.ops [⟨(some 81), (.bin .eql (.tmp 26) (.const (.int .i64 2))), .bool, none⟩,
  ⟨(some 80), (.mv (.tmp 81)), .bool, none⟩] [80, 4, 1])
 (.cond (.tmp 80)
 (.join [] [1]
 (.seq (.ops [⟨(some 82), (.mv (.tmp 4)), .bool, none⟩,
  ⟨(some 83), (.un .not (.tmp 82)), .bool, none⟩,
  ⟨(some 84), (.mv (.tmp 83)), .bool, none⟩,
  ⟨(some 85), (.fa 1 (.tmp 1)), .ptr, (some (84, false))⟩,
  ⟨(some 86), (.ld1 (.tmp 85)), (.int .i64), (some (84, false))⟩,
  ⟨(some 87), (.bin .lss (.tmp 86) (.const (.int .i64 0))), .bool, (some (84, false))⟩,
  ⟨(some 88), (.pick (.tmp 84) (.const (.bool true)) (.tmp 87)), .bool, none⟩,
  ⟨(some 89), (.mv (.tmp 88)), .bool, none⟩,
  ⟨(some 90), (.fa 1 (.tmp 1)), .ptr, (some (89, false))⟩,
  ⟨(some 91), (.ld1 (.tmp 90)), (.int .i64), (some (89, false))⟩,
  ⟨(some 92), (.bin .geq (.tmp 91) (.const (.int .i64 80))), .bool, (some (89, false))⟩,
  ⟨(some 93), (.pick (.tmp 89) (.const (.bool true)) (.tmp 92)), .bool, none⟩] [93, 1])
 (.cond (.tmp 93)
 (.seq (.ops [⟨(some 2), (.mv (.const (.slice none 0 0))), .sl, none⟩,
  ⟨(some 3), (.mv (.const (.bool false))), .bool, none⟩] [2, 3])
 .ret)
 .skip))
 (.seq (.ops [⟨(some 94), (.fa 1 (.tmp 1)), .ptr, none⟩,
  ⟨(some 95), (.ld1 (.tmp 94)), (.int .i64), none⟩,
  ⟨(some 96), (.cv .u8 (.tmp 95)), (.int .u8), none⟩,
  ⟨(some 97), (.bldS 5 2 1 [(0, (.const (.int .u8 1))), (1, (.tmp 96))]), .sl, none⟩,
  ⟨(some 10), (.mv (.tmp 97)), .sl, none⟩] [10, 1])
 (.seq (.ops [⟨(some 98), (.mv (.tmp 10)), .sl, none⟩,
  ⟨(some 99), (.fa 2 (.tmp 1)), .ptr, none⟩,
  ⟨(some 100), (.slA 32 1 (.tmp 99) none none none), .sl, none⟩,
  ⟨(some 101), (.app #[22, 22] 22 (.tmp 98) (.tmp 100)), .sl, none⟩,
  ⟨(some 10), (.mv (.tmp 101)), .sl, none⟩] [10, 1])
 (.seq (.ops [⟨(some 102), (.mv (.tmp 10)), .sl, none⟩,
  ⟨(some 103), (.fa 34 (.tmp 1)), .ptr, none⟩,
  ⟨(some 104), (.slA 32 1 (.tmp 103) none none none), .sl, none⟩,
  ⟨(some 105), (.app #[22, 22] 22 (.tmp 102) (.tmp 104)), .sl, none⟩,
  ⟨(some 2), (.mv (.tmp 105)), .sl, none⟩,
  ⟨(some 3), (.mv (.const (.bool true))), .bool, none⟩] [2, 3])
 .ret))))
 .skip))))))))
 (.seq (.ops [⟨(some 2), (.mv (.const (.slice none 0 0))), .sl, none⟩,
  ⟨(some 3), (.mv (.const (.bool false))), .bool, none⟩] [2, 3])
 .ret)))))
def r54 : List Res := [.t 2, .t 3]
theorem tr54 : trS Tryd.prog [] 106 (Tryd.f54.body.getD .skip) s54 = some s54 := by kernel_rfl
theorem den54 (args : List Value) (w : World) (R : Ending → World → Prop) (hn : args.length ≤ 106) (h : denS Tryd.prog s54 (argsEnv 0 args) w (endK r54 R)) : Calls Tryd.prog 54 args.toArray w R :=
  calls_of_den (pn := []) (fn := Tryd.f54) (c := Tryd.f54.body.getD .skip) Tryd.func54 (by kernel_rfl) (by rw [Tryd.ntmps54]; exact hn) (by rw [Tryd.ntmps54]; exact tr54) (by kernel_rfl) h
def d54 (n0 : Array Value) (w : World) (R : Ending → World → Prop) : Prop :=
 ∀ w1 : World, w1 = World.alloc w (.cells n0 33) →
 ∃ cs2 : List Value, List.length cs2 = 3 ∧ Cells w1 (Addr.add ⟨World.heap w |>.size, 0, none⟩ 66) cs2 ∧
 ∃ cs3, fillL (.fields [(0, 2), (2, 1)]) (zc Tryd.prog 31) [] = some cs3 ∧
 ∃ q4 : Bool, Sem.run Tryd.prog (do eqGuard .eql 31 (.tmp 12) (.tmp 13) (.agg (List.toArray cs2)) (.agg (List.toArray cs3)); binOp .eql 31 (.agg (List.toArray cs2)) (.agg (List.toArray cs3))) w1 = .ok (.bool q4) w1 ∧
 ∃ J5 : Bool → World → Prop,
 (∃ cs6 : List Value, List.length cs6 = 32 ∧ Cells w1 (Addr.add ⟨World.heap w |>.size, 0, none⟩ 2) cs6 ∧
 ∃ cs7, fillL (.elems 1) (zc Tryd.prog 24) [] = some cs7 ∧
 ∃ q8 : Bool, Sem.run Tryd.prog (do eqGuard .eql 24 (.tmp 16) (.tmp 17) (.agg (List.toArray cs6)) (.agg (List.toArray cs7)); binOp .eql 24 (.agg (List.toArray cs6)) (.agg (List.toArray cs7))) w1 = .ok (.bool q8) w1 ∧
 (bif q8 then
 (∃ cs9 : List Value, List.length cs9 = 32 ∧ Cells w1 (Addr.add ⟨World.heap w |>.size, 0, none⟩ 34) cs9 ∧
 ∃ cs10, fillL (.elems 1) (zc Tryd.prog 24) [] = some cs10 ∧
 ∃ q11 : Bool, Sem.run Tryd.prog (do eqGuard .eql 24 (.tmp 21) (.tmp 22) (.agg (List.toArray cs9)) (.agg (List.toArray cs10)); binOp .eql 24 (.agg (List.toArray cs9)) (.agg (List.toArray cs10))) w1 = .ok (.bool q11) w1 ∧
 J5 q11 w1)
 else
 (J5 false w1))) ∧
 (∀ (w12 : World) (sides13 : Bool), J5 sides13 w12 →
 ∃ x14 : Int, World.cell? w12 (Addr.add ⟨World.heap w |>.size, 0, none⟩ 0) = some (.int .i64 x14) ∧
 (bif (decide (x14 = 0)) then
 (∀ w15 : World, w15 = World.drew w12 →
 (bif q4 then
 ((bif sides13 then
 (∃ x16 : Int, World.cell? w15 (Addr.add ⟨World.heap w |>.size, 0, none⟩ 1) = some (.int .i64 x16) ∧
 R (.returned (.tuple #[(.slice none 0 0), (.bool (decide (x16 = 0)))])) w15)
 else
 (R (.returned (.tuple #[(.slice none 0 0), (.bool false)])) w15)))
 else
 (R (.returned (.tuple #[(.slice none 0 0), (.bool false)])) w15)))
 else
 ((bif (decide (x14 = 1)) then
 (∃ J17 : World → Prop,
 ((bif (!sides13) then
 (R (.returned (.tuple #[(.slice none 0 0), (.bool false)])) w12)
 else
 (∃ x18 : Int, World.cell? w12 (Addr.add ⟨World.heap w |>.size, 0, none⟩ 1) = some (.int .i64 x18) ∧
 (bif (!decide (x18 = 0)) then
 (R (.returned (.tuple #[(.slice none 0 0), (.bool false)])) w12)
 else
 (∃ cs19 : List Value, List.length cs19 = 2 ∧ Cells w12 (Addr.add (Addr.add ⟨World.heap w |>.size, 0, none⟩ 66) 0) cs19 ∧
 Calls Tryd.prog 57 #[(.agg (List.toArray cs19))] w12 fun e20 w21 => ∃ x22 : Int, e20 = .returned (.int .i64 x22) ∧
 (bif (!decide (x22 = 0)) then
 (R (.returned (.tuple #[(.slice none 0 0), (.bool false)])) w21)
 else
 (J17  w21))))))) ∧
 (∀ (w23 : World), J17  w23 →
 ∃ cs24 : List Value, List.length cs24 = 2 ∧ Cells w23 (Addr.add (Addr.add ⟨World.heap w |>.size, 0, none⟩ 66) 0) cs24 ∧
 Calls Tryd.prog 72 #[(.agg (List.toArray cs24))] w23 fun e25 w26 => ∃ (x27 : Option Addr) (x27n : Nat) (x27c : Nat), ∃ x28 : Int, e25 = .returned (.tuple #[(.slice x27 x27n x27c), (.int .i64 x28)]) ∧
 ∃ (x29 : Option Addr) (x29n : Nat) (x29c : Nat), (#[(.slice x27 x27n x27c), (.int .i64 x28)] : Array Value)[0]? = some (.slice x29 x29n x29c) ∧
 ∃ x30 : Int, (#[(.slice x27 x27n x27c), (.int .i64 x28)] : Array Value)[1]? = some (.int .i64 x30) ∧
 ∃ cs31, fillL (.elems 1) (zrep (zc Tryd.prog 5) (1 * 1)) [(0, (.int .u8 0))] = some cs31 ∧
 ∀ w32 : World, w32 = World.alloc w26 (.cells (List.toArray cs31) 5) →
 RunV Tryd.prog (Builtin.append_ #[22, 22] 22 #[(.slice (some ⟨World.heap w26 |>.size, 0, none⟩) 1 1), (.slice x29 x29n x29c)]) w32 fun v33 w34 => ∃ (x35 : Option Addr) (x35n : Nat) (x35c : Nat), v33 = (.slice x35 x35n x35c) ∧
 ∃ I36 : Nat → Option Addr → Nat → Nat → Int → World → Prop,
 (∃ m, I36 m x35 x35n x35c 7 w34) ∧
 (∀ (m37 : Nat) (w38 : World) (b39 : Option Addr) (b39n : Nat) (b39c : Nat) (i40 : Int), I36 m37 b39 b39n b39c i40 w38 →
 (bif (decide (0 ≤ i40)) then
 (∃ x41 : Int, World.cell? w38 (Addr.add (Addr.add ⟨World.heap w |>.size, 0, none⟩ 66) 2) = some (.int .i64 x41) ∧
 0 ≤ (IntKind.wrap .i64 (8 * i40)) ∧ ∃ cs42, fillL (.elems 1) (zrep (zc Tryd.prog 5) (1 * 1)) [(0, (.int .u8 (IntKind.wrap .u8 (shR .u64 (IntKind.wrap .u64 x41) (IntKind.wrap .i64 (8 * i40))))))] = some cs42 ∧
 ∀ w43 : World, w43 = World.alloc w38 (.cells (List.toArray cs42) 5) →
 RunV Tryd.prog (Builtin.append_ #[22, 22] 22 #[(.slice b39 b39n b39c), (.slice (some ⟨World.heap w38 |>.size, 0, none⟩) 1 1)]) w43 fun v44 w45 => ∃ (x46 : Option Addr) (x46n : Nat) (x46c : Nat), v44 = (.slice x46 x46n x46c) ∧
 ∃ m47, m47 < m37 ∧ I36 m47 x46 x46n x46c (IntKind.wrap .i64 (i40 - 1)) w45)
 else
 (R (.returned (.tuple #[(.slice b39 b39n b39c), (.bool true)])) w38)))))
 else
 ((bif (decide (x14 = 2)) then
 (∃ J48 : World → Prop,
 ((bif (!q4) then
 (R (.returned (.tuple #[(.slice none 0 0), (.bool false)])) w12)
 else
 (∃ x49 : Int, World.cell? w12 (Addr.add ⟨World.heap w |>.size, 0, none⟩ 1) = some (.int .i64 x49) ∧
 (bif (decide (x49 < 0)) then
 (R (.returned (.tuple #[(.slice none 0 0), (.bool false)])) w12)
 else
 (∃ x50 : Int, World.cell? w12 (Addr.add ⟨World.heap w |>.size, 0, none⟩ 1) = some (.int .i64 x50) ∧
 (bif (decide (80 ≤ x50)) then
 (R (.returned (.tuple #[(.slice none 0 0), (.bool false)])) w12)
 else
 (J48  w12))))))) ∧
 (∀ (w51 : World), J48  w51 →
 ∃ x52 : Int, World.cell? w51 (Addr.add ⟨World.heap w |>.size, 0, none⟩ 1) = some (.int .i64 x52) ∧
 ∃ cs53, fillL (.elems 1) (zrep (zc Tryd.prog 5) (2 * 1)) [(0, (.int .u8 1)), (1, (.int .u8 (IntKind.wrap .u8 x52)))] = some cs53 ∧
 ∀ w54 : World, w54 = World.alloc w51 (.cells (List.toArray cs53) 5) →
 RunV Tryd.prog (Builtin.append_ #[22, 22] 22 #[(.slice (some ⟨World.heap w51 |>.size, 0, none⟩) 2 2), (.slice (some (if 32 = 0 then (Addr.add ⟨World.heap w |>.size, 0, none⟩ 2) else Addr.add (Addr.add ⟨World.heap w |>.size, 0, none⟩ 2) (0 * 1))) (32 - 0) (32 - 0))]) w54 fun v55 w56 => ∃ (x57 : Option Addr) (x57n : Nat) (x57c : Nat), v55 = (.slice x57 x57n x57c) ∧
 RunV Tryd.prog (Builtin.append_ #[22, 22] 22 #[(.slice x57 x57n x57c), (.slice (some (if 32 = 0 then (Addr.add ⟨World.heap w |>.size, 0, none⟩ 34) else Addr.add (Addr.add ⟨World.heap w |>.size, 0, none⟩ 34) (0 * 1))) (32 - 0) (32 - 0))]) w56 fun v58 w59 => ∃ (x60 : Option Addr) (x60n : Nat) (x60c : Nat), v58 = (.slice x60 x60n x60c) ∧
 R (.returned (.tuple #[(.slice x60 x60n x60c), (.bool true)])) w59))
 else
 (R (.returned (.tuple #[(.slice none 0 0), (.bool false)])) w12)))))))
theorem e54 (n0 : Array Value) (w : World) (R : Ending → World → Prop) : denS Tryd.prog s54 (argsEnv 0 [(.agg n0)]) w (endK r54 R) = d54 n0 w R := by kernel_rfl
theorem c54 (n0 : Array Value) {w : World} {R : Ending → World → Prop} (h : d54 n0 w R) : Calls Tryd.prog 54 #[(.agg n0)] w R :=
  den54 [(.agg n0)] w R (by simp) ((e54 n0 w R).symm ▸ h)

/-- slices.Concat[[]byte,byte] -/
def s71 : S := (.seq (.ops [⟨(some 2), (.mv (.const (.slice none 0 0))), .sl, none⟩] [0])
 (.seq (.ops [⟨(some 3), (.mv (.const (.int .i64 0))), (.int .i64), none⟩] [0, 3])
 (.seq (.seq (.ops [⟨(some 9), (.mv (.tmp 0)), .sl, none⟩,
  ⟨(some 10), (.len (.tmp 9)), (.int .i64), none⟩,
  ⟨(some 11), (.mv (.const (.int .i64 0))), (.int .i64), none⟩] [11, 10, 9, 3, 0])
 (.block 0
 (.loop [(3, (.int .i64)), (11, (.int .i64))] [0, 9, 10]
 (.seq (.ops [⟨(some 12), (.bin .lss (.tmp 11) (.tmp 10)), .any, none⟩] [12, 9, 11, 3, 10, 0])
 (.seq (.cond (.tmp 12)
 .skip
 (.exit 0))
 (.seq (.block 1
 (.seq (.ops [⟨(some 13), (.ia 1 (.tmp 9) (.tmp 11)), .ptr, none⟩,
  ⟨(some 14), (.ld1 (.tmp 13)), .sl, none⟩,
  ⟨(some 5), (.mv (.tmp 14)), .sl, none⟩] [3, 5, 11, 10, 9, 0])
 (.seq (.ops [⟨(some 15), (.mv (.tmp 3)), (.int .i64), none⟩,
  ⟨(some 16), (.mv (.tmp 5)), .sl, none⟩,
  ⟨(some 17), (.len (.tmp 16)), (.int .i64), none⟩,
  ⟨(some 18), (.bin .add (.tmp 15) (.tmp 17)), (.int .i64), none⟩,
  ⟨(some 3), (.mv (.tmp 18)), (.int .i64), none⟩] [3, 11, 10, 9, 0])
 (.seq (.ops [⟨(some 19), (.mv (.tmp 3)), (.int .i64), none⟩,
  ⟨(some 20), (.bin .lss (.tmp 19) (.const (.int .i64 0))), .bool, none⟩] [20, 11, 10, 9, 3, 0])
 (.cond (.tmp 20)
 (.ops [⟨(some 21), (.mkI 9 (.const (.string ⟨#[108, 101, 110, 32, 111, 117, 116, 32, 111, 102, 32, 114, 97, 110, 103, 101]⟩))), .any, none⟩,
  ⟨none, (.pan (.tmp 21)), .any, none⟩] [11, 10, 9, 3, 0])
 .skip)))))
 (.ops [⟨(some 22), (.bin .add (.tmp 11) (.const (.int .i64 1))), (.int .i64), none⟩,
  ⟨(some 11), (.mv (.tmp 22)), (.int .i64), none⟩] [11, 10, 9, 3, 0])))))))
 (.seq (.ops [⟨(some 23), (.mv (.tmp 3)), (.int .i64), none⟩,
  ⟨(some 24), (.call 86 [(.const (.slice none 0 0)), (.tmp 23)] [.sl]), .sl, none⟩,
  ⟨(some 6), (.mv (.tmp 24)), .sl, none⟩] [0, 6])
 (.seq (.seq (.ops [⟨(some 25), (.mv (.tmp 0)), .sl, none⟩,
  ⟨(some 26), (.len (.tmp 25)), (.int .i64), none⟩,
  ⟨(some 27), (.mv (.const (.int .i64 0))), (.int .i64), none⟩] [27, 26, 25, 6])
 (.block 2
 (.loop [(6, .sl), (27, (.int .i64))] [25, 26]
 (.seq (.ops [⟨(some 28), (.bin .lss (.tmp 27) (.tmp 26)), .any, none⟩] [28, 25, 27, 6, 26])
 (.seq (.cond (.tmp 28)
 .skip
 (.exit 2))
 (.seq (.block 3
 (.seq (.ops [⟨(some 29), (.ia 1 (.tmp 25) (.tmp 27)), .ptr, none⟩,
  ⟨(some 30), (.ld1 (.tmp 29)), .sl, none⟩,
  ⟨(some 8), (.mv (.tmp 30)), .sl, none⟩] [6, 8, 27, 26, 25])
 (.ops [⟨(some 31), (.mv (.tmp 6)), .sl, none⟩,
  ⟨(some 32), (.mv (.tmp 8)), .sl, none⟩,
  ⟨(some 33), (.app #[22, 22] 22 (.tmp 31) (.tmp 32)), .sl, none⟩,
  ⟨(some 6), (.mv (.tmp 33)), .sl, none⟩] [27, 26, 25, 6])))
 (.ops [⟨(some 34), (.bin .add (.tmp 27) (.const (.int .i64 1))), (.int .i64), none⟩,
  ⟨(some 27), (.mv (.tmp 34)), (.int .i64), none⟩] [27, 26, 25, 6])))))))
 (.seq (.ops [⟨(some 35), (.mv (.tmp 6)), .sl, none⟩,
  ⟨(some 2), (.mv (.tmp 35)), .sl, none⟩] [2])
 .ret))))))
def r71 : List Res := [.t 2]
theorem tr71 : trS Tryd.prog [] 36 (Tryd.f71.body.getD .skip) s71 = some s71 := by kernel_rfl
theorem den71 (args : List Value) (w : World) (R : Ending → World → Prop) (hn : args.length ≤ 36) (h : denS Tryd.prog s71 (argsEnv 0 args) w (endK r71 R)) : Calls Tryd.prog 71 args.toArray w R :=
  calls_of_den (pn := []) (fn := Tryd.f71) (c := Tryd.f71.body.getD .skip) Tryd.func71 (by kernel_rfl) (by rw [Tryd.ntmps71]; exact hn) (by rw [Tryd.ntmps71]; exact tr71) (by kernel_rfl) h
def d71 (slices0 : Option Addr) (slices0n : Nat) (slices0c : Nat) (w : World) (R : Ending → World → Prop) : Prop :=
 ∃ I1 : Nat → Int → Int → World → Prop,
 (∃ m, I1 m 0 0 w) ∧
 (∀ (m2 : Nat) (w3 : World) (size4 : Int) (x5 : Int), I1 m2 size4 x5 w3 →
 (bif (decide (x5 < ((slices0n : Nat) : Int))) then
 (0 ≤ x5 ∧ x5 < ((slices0n : Nat) : Int) ∧ optK slices0 fun a6 =>
 ∃ (x7 : Option Addr) (x7n : Nat) (x7c : Nat), World.cell? w3 (Addr.add a6 (Int.toNat x5 * 1)) = some (.slice x7 x7n x7c) ∧
 (bif (decide ((IntKind.wrap .i64 (size4 + ((x7n : Nat) : Int))) < 0)) then
 ((∃ t u, ((.iface 9 (.string (⟨#[108, 101, 110, 32, 111, 117, 116, 32, 111, 102, 32, 114, 97, 110, 103, 101]⟩ : ByteArray))) : Value) = .iface t u) ∧ R (.panicked [⟨(.iface 9 (.string (⟨#[108, 101, 110, 32, 111, 117, 116, 32, 111, 102, 32, 114, 97, 110, 103, 101]⟩ : ByteArray))), false, false⟩]) w3)
 else
 (∃ m8, m8 < m2 ∧ I1 m8 (IntKind.wrap .i64 (size4 + ((x7n : Nat) : Int))) (IntKind.wrap .i64 (x5 + 1)) w3)))
 else
 (Calls Tryd.prog 86 #[(.slice none 0 0), (.int .i64 size4)] w3 fun e9 w10 => ∃ (x11 : Option Addr) (x11n : Nat) (x11c : Nat), e9 = .returned (.slice x11 x11n x11c) ∧
 ∃ I12 : Nat → Option Addr → Nat → Nat → Int → World → Prop,
 (∃ m, I12 m x11 x11n x11c 0 w10) ∧
 (∀ (m13 : Nat) (w14 : World) (newslice15 : Option Addr) (newslice15n : Nat) (newslice15c : Nat) (x16 : Int), I12 m13 newslice15 newslice15n newslice15c x16 w14 →
 (bif (decide (x16 < ((slices0n : Nat) : Int))) then
 (0 ≤ x16 ∧ x16 < ((slices0n : Nat) : Int) ∧ optK slices0 fun a17 =>
 ∃ (x18 : Option Addr) (x18n : Nat) (x18c : Nat), World.cell? w14 (Addr.add a17 (Int.toNat x16 * 1)) = some (.slice x18 x18n x18c) ∧
 RunV Tryd.prog (Builtin.append_ #[22, 22] 22 #[(.slice newslice15 newslice15n newslice15c), (.slice x18 x18n x18c)]) w14 fun v19 w20 => ∃ (x21 : Option Addr) (x21n : Nat) (x21c : Nat), v19 = (.slice x21 x21n x21c) ∧
 ∃ m22, m22 < m13 ∧ I12 m22 x21 x21n x21c (IntKind.wrap .i64 (x16 + 1)) w20)
 else
 (R (.returned (.slice newslice15 newslice15n newslice15c)) w14))))))
theorem e71 (slices0 : Option Addr) (slices0n : Nat) (slices0c : Nat) (w : World) (R : Ending → World → Prop) : denS Tryd.prog s71 (argsEnv 0 [(.slice slices0 slices0n slices0c)]) w (endK r71 R) = d71 slices0 slices0n slices0c w R := by kernel_rfl
theorem c71 (slices0 : Option Addr) (slices0n : Nat) (slices0c : Nat) {w : World} {R : Ending → World → Prop} (h : d71 slices0 slices0n slices0c w R) : Calls Tryd.prog 71 #[(.slice slices0 slices0n slices0c)] w R :=
  den71 [(.slice slices0 slices0n slices0c)] w R (by simp) ((e71 slices0 slices0n slices0c w R).symm ▸ h)

/-- slices.Grow[[]byte,byte] -/
def s86 : S := (.seq (.ops [⟨(some 4), (.mv (.const (.slice none 0 0))), .sl, none⟩] [1, 0])
 (.join [] [0, 1]
 (.seq (.ops [⟨(some 5), (.mv (.tmp 1)), (.int .i64), none⟩,
  ⟨(some 6), (.bin .lss (.tmp 5) (.const (.int .i64 0))), .bool, none⟩] [6, 1, 0])
 (.cond (.tmp 6)
 (.ops [⟨(some 7), (.mkI 9 (.const (.string ⟨#[99, 97, 110, 110, 111, 116, 32, 98, 101, 32, 110, 101, 103, 97, 116, 105, 118, 101]⟩))), .any, none⟩,
  ⟨none, (.pan (.tmp 7)), .any, none⟩] [1, 0])
 .skip))
 (.seq (.seq (.ops [⟨(some 8), (.mv (.tmp 1)), (.int .i64), none⟩,
  ⟨(some 9), (.mv (.tmp 0)), .sl, none⟩,
  ⟨(some 10), (.rv (.capB #[22] 3) [(.tmp 9)]), (.int .i64), none⟩,
  ⟨(some 11), (.mv (.tmp 0)), .sl, none⟩,
  ⟨(some 12), (.len (.tmp 11)), (.int .i64), none⟩,
  ⟨(some 13), (.bin .sub (.tmp 10) (.tmp 12)), (.int .i64), none⟩,
  ⟨(some 14), (.bin .sub (.tmp 8) (.tmp 13)), (.int .i64), none⟩,
  ⟨(some 1), (.mv (.tmp 14)), (.int .i64), none⟩] [1, 0])
 (.seq (.ops [⟨(some 15), (.mv (.tmp 1)), (.int .i64), none⟩,
  ⟨(some 16), (.bin .gtr (.tmp 15) (.const (.int .i64 0))), .bool, none⟩] [16, 0, 1])
 (.cond (.tmp 16)
 (.ops [⟨(some 17), (.mv (.tmp 0)), .sl, none⟩,
  ⟨(some 18), (.mv (.tmp 0)), .sl, none⟩,
  ⟨(some 19), (.rv (.capB #[22] 3) [(.tmp 18)]), (.int .i64), none⟩,
  ⟨(some 20), (.slS 1 (.tmp 17) none (some (.tmp 19)) none), .sl, none⟩,
  ⟨(some 21), (.mv (.tmp 1)), (.int .i64), none⟩,
  ⟨(some 22), (.app #[22, 3] 22 (.tmp 20) (.tmp 21)), .sl, none⟩,
  ⟨(some 23), (.mv (.tmp 0)), .sl, none⟩,
  ⟨(some 24), (.len (.tmp 23)), (.int .i64), none⟩,
  ⟨(some 25), (.slS 1 (.tmp 22) none (some (.tmp 24)) none), .sl, none⟩,
  ⟨(some 0), (.mv (.tmp 25)), .sl, none⟩] [0])
 .skip)))
 (.seq (.ops [⟨(some 26), (.mv (.tmp 0)), .sl, none⟩,
  ⟨(some 4), (.mv (.tmp 26)), .sl, none⟩] [4])
 .ret))))
def r86 : List Res := [.t 4]
theorem tr86 : trS Tryd.prog [] 27 (Tryd.f86.body.getD .skip) s86 = some s86 := by kernel_rfl
theorem den86 (args : List Value) (w : World) (R : Ending → World → Prop) (hn : args.length ≤ 27) (h : denS Tryd.prog s86 (argsEnv 0 args) w (endK r86 R)) : Calls Tryd.prog 86 args.toArray w R :=
  calls_of_den (pn := []) (fn := Tryd.f86) (c := Tryd.f86.body.getD .skip) Tryd.func86 (by kernel_rfl) (by rw [Tryd.ntmps86]; exact hn) (by rw [Tryd.ntmps86]; exact tr86) (by kernel_rfl) h
def d86 (s0 : Option Addr) (s0n : Nat) (s0c : Nat) (n1 : Int) (w : World) (R : Ending → World → Prop) : Prop :=
 ∃ J2 : World → Prop,
 ((bif (decide (n1 < 0)) then
 ((∃ t u, ((.iface 9 (.string (⟨#[99, 97, 110, 110, 111, 116, 32, 98, 101, 32, 110, 101, 103, 97, 116, 105, 118, 101]⟩ : ByteArray))) : Value) = .iface t u) ∧ R (.panicked [⟨(.iface 9 (.string (⟨#[99, 97, 110, 110, 111, 116, 32, 98, 101, 32, 110, 101, 103, 97, 116, 105, 118, 101]⟩ : ByteArray))), false, false⟩]) w)
 else
 (J2  w))) ∧
 (∀ (w3 : World), J2  w3 →
 RunV Tryd.prog (Builtin.cap_ #[22] 3 #[(.slice s0 s0n s0c)]) w3 fun v4 w5 => ∃ x6 : Int, v4 = (.int .i64 x6) ∧
 (bif (decide (0 < (IntKind.wrap .i64 (n1 - (IntKind.wrap .i64 (x6 - ((s0n : Nat) : Int))))))) then
 (RunV Tryd.prog (Builtin.cap_ #[22] 3 #[(.slice s0 s0n s0c)]) w5 fun v7 w8 => ∃ x9 : Int, v7 = (.int .i64 x9) ∧
 0 ≤ x9 ∧ x9 ≤ ((s0c : Nat) : Int) ∧ RunV Tryd.prog (Builtin.append_ #[22, 3] 22 #[(.slice (if s0c = 0 then s0 else Option.map (fun y => Addr.add y (0 * 1)) s0) ((Int.toNat x9) - 0) (s0c - 0)), (.int .i64 (IntKind.wrap .i64 (n1 - (IntKind.wrap .i64 (x6 - ((s0n : Nat) : Int))))))]) w8 fun v10 w11 => ∃ (x12 : Option Addr) (x12n : Nat) (x12c : Nat), v10 = (.slice x12 x12n x12c) ∧
 0 ≤ ((s0n : Nat) : Int) ∧ ((s0n : Nat) : Int) ≤ ((x12c : Nat) : Int) ∧ R (.returned (.slice (if x12c = 0 then x12 else Option.map (fun y => Addr.add y (0 * 1)) x12) ((Int.toNat ((s0n : Nat) : Int)) - 0) (x12c - 0))) w11)
 else
 (R (.returned (.slice s0 s0n s0c)) w5)))
theorem e86 (s0 : Option Addr) (s0n : Nat) (s0c : Nat) (n1 : Int) (w : World) (R : Ending → World → Prop) : denS Tryd.prog s86 (argsEnv 0 [(.slice s0 s0n s0c), (.int .i64 n1)]) w (endK r86 R) = d86 s0 s0n s0c n1 w R := by kernel_rfl
theorem c86 (s0 : Option Addr) (s0n : Nat) (s0c : Nat) (n1 : Int) {w : World} {R : Ending → World → Prop} (h : d86 s0 s0n s0c n1 w R) : Calls Tryd.prog 86 #[(.slice s0 s0n s0c), (.int .i64 n1)] w R :=
  den86 [(.slice s0 s0n s0c), (.int .i64 n1)] w R (by simp) ((e86 s0 s0n s0c n1 w R).symm ▸ h)

end Go.Proofs.YtjkbjppopdfggaaDoor.Fn
namespace Go.Proofs.YtjkbjppopdfggaaDoor.Sha
open Go Den Fn
open Go.RowKit (Below)
set_option maxRecDepth 8000
def I64 (n : Int) : Prop := -9223372036854775808 ≤ n ∧ n ≤ 9223372036854775807
theorem i64_wf {n : Int} : (Lit.int .i64 n).wf = true ↔ I64 n := by
  simp [Lit.wf, IntKind.min, IntKind.max, IntKind.signed, IntKind.bits, I64]
theorem u8_wf {n : Int} : (Lit.int .u8 n).wf = true ↔ 0 ≤ n ∧ n < 256 := by
  simp [Lit.wf, IntKind.min, IntKind.max, IntKind.signed, IntKind.bits]
  omega
def KeyOk (t : Int) : Prop := 0 ≤ t ∧ t ≤ 65535
instance (t : Int) : Decidable (KeyOk t) := by unfold KeyOk; infer_instance
abbrev keyC (t r : Int) : List Value := [.int .i64 t, .int .i64 r]
abbrev rowC (t r v : Int) : List Value := [.int .i64 t, .int .i64 r, .int .i64 v]
def rowU (r : Int) : Int := bXor .u64 (IntKind.wrap .u64 r) 9223372036854775808
/-- The eight bytes of a number, the high ones first. -/
def be8 (u : Int) : List Int := (List.range 8).map fun i : Nat => IntKind.wrap .u8 (shR .u64 u (56 - 8 * (i : Int)))
def keyB (t r : Int) : List Int := [IntKind.wrap .u8 (shR .i64 t 8), IntKind.wrap .u8 t] ++ be8 (rowU r)
def leafT (t r v : Int) : List Int := [0] ++ keyB t r ++ be8 (IntKind.wrap .u64 v)
def forkT (n : Int) (l r : List Int) : List Int := [1, IntKind.wrap .u8 n] ++ l ++ r
theorem be8_length (u : Int) : (be8 u).length = 8 := by simp [be8]
theorem keyB_length (t r : Int) : (keyB t r).length = 10 := by simp [keyB, be8_length]
theorem leafT_length (t r v : Int) : (leafT t r v).length = 19 := by simp [leafT, keyB_length, be8_length]
theorem be8_bytes (u : Int) : Bytes (be8 u) := by
  intro x hx
  simp only [be8, List.mem_map] at hx
  obtain ⟨i, _, rfl⟩ := hx
  exact wrap_u8_byte _
theorem Bytes.append {a b : List Int} (h : Bytes a) (k : Bytes b) : Bytes (a ++ b) := fun x hx => (List.mem_append.1 hx).elim (h x) (k x)
theorem keyB_bytes (t r : Int) : Bytes (keyB t r) := by
  refine Bytes.append (fun x hx => ?_) (be8_bytes _)
  simp at hx
  rcases hx with rfl | rfl <;> exact wrap_u8_byte _
theorem leafT_bytes (t r v : Int) : Bytes (leafT t r v) := by
  refine Bytes.append (Bytes.append (fun x hx => ?_) (keyB_bytes t r)) (be8_bytes _)
  simp at hx; omega
theorem forkT_bytes {n : Int} {l r : List Int} (hl : Bytes l) (hr : Bytes r) : Bytes (forkT n l r) := by
  refine Bytes.append (Bytes.append (fun x hx => ?_) hl) hr
  simp at hx
  rcases hx with rfl | rfl
  · omega
  · exact wrap_u8_byte _
theorem be8_take {u : Int} {i : Nat} (h : i < 8) : (be8 u).take (i + 1) = (be8 u).take i ++ [IntKind.wrap .u8 (shR .u64 u (56 - 8 * (i : Int)))] := by
  rw [List.take_succ_eq_append_getElem (by rw [be8_length]; exact h)]
  simp [be8]
theorem rowU_range (r : Int) : 0 ≤ rowU r ∧ rowU r < 18446744073709551616 := by
  unfold rowU bXor
  rw [wrap_u64_eq]
  omega

/-- A node. -/
structure Nd where
  kind : Int
  bit : Int
  left : List Int
  right : List Int
  tab : Int
  row : Int
  val : Int
def Nd.cells (n : Nd) : List Value := [.int .i64 n.kind, .int .i64 n.bit] ++ u8 n.left ++ u8 n.right ++ rowC n.tab n.row n.val
structure Nd.ok (n : Nd) : Prop where
  ll : n.left.length = 32
  rl : n.right.length = 32
  lb : Bytes n.left
  rb : Bytes n.right
  ki : I64 n.kind
  bi : I64 n.bit
  ti : I64 n.tab
  ri : I64 n.row
  vi : I64 n.val
def z32 : List Int := List.replicate 32 0
def Nd.zero : Nd := ⟨0, 0, z32, z32, 0, 0, 0⟩
theorem z32_bytes : Bytes z32 := by
  intro x hx
  rw [z32, List.mem_replicate] at hx
  omega
theorem Nd.zero_ok : Nd.zero.ok := ⟨rfl, rfl, z32_bytes, z32_bytes, by unfold I64; decide, by unfold I64; decide, by unfold I64; decide, by unfold I64; decide, by unfold I64; decide⟩
/-- The digest of a node, and the error. -/
def ofS (n : Nd) : List Int × Int :=
  if n.kind = 0 ∧ n.bit = 0 ∧ n.left = z32 ∧ n.right = z32 ∧ n.tab = 0 ∧ n.row = 0 ∧ n.val = 0 then (z32, 0)
  else if n.kind = 1 ∧ n.bit = 0 ∧ n.left = z32 ∧ n.right = z32 ∧ KeyOk n.tab then (sha (leafT n.tab n.row n.val), 0)
  else if n.kind = 2 ∧ (n.tab = 0 ∧ n.row = 0 ∧ n.val = 0) ∧ 0 ≤ n.bit ∧ n.bit < 80 then (sha (forkT n.bit n.left n.right), 0)
  else (z32, 252)
theorem ofS_length (n : Nd) : (ofS n).1.length = 32 := by
  unfold ofS
  split
  · rfl
  · split
    · exact sha_length _
    · split
      · exact sha_length _
      · rfl
theorem ofS_bytes (n : Nd) : Bytes (ofS n).1 := by
  unfold ofS
  split
  · exact z32_bytes
  · split
    · exact sha_bytes _
    · split
      · exact sha_bytes _
      · exact z32_bytes
theorem Nd.cells_length {n : Nd} (h : n.ok) : n.cells.length = 69 := by simp [Nd.cells, h.ll, h.rl]
theorem u8_inj {a b : List Int} (h : u8 a = u8 b) : a = b := by
  have : ∀ a b : List Int, u8 a = u8 b → a = b := by
    intro a
    induction a with
    | nil => intro b h; cases b with
      | nil => rfl
      | cons _ _ => cases h
    | cons x r ih => intro b h; cases b with
      | nil => cases h
      | cons y s =>
        simp only [List.map_cons, List.cons.injEq, Value.int.injEq, true_and] at h
        rw [h.1, ih s h.2]
  exact this a b h
theorem row_flat : flatK Tryd.prog 6 31 = some [.int .i64, .int .i64, .int .i64] := by kernel_rfl
theorem row_eqT : eqT Tryd.prog 6 31 = true := by kernel_rfl
theorem dig_flat : flatK Tryd.prog 6 24 = some (List.replicate 32 (.int .u8)) := by kernel_rfl
theorem dig_eqT : eqT Tryd.prog 6 24 = true := by kernel_rfl
theorem dig_fits {l : List Int} (h : l.length = 32) (hb : Bytes l) : Fits (List.replicate 32 (.int .u8)) (u8 l) := by
  rw [← h]; exact Fits.ints fun x hx => u8_wf.2 (hb x hx)
theorem row_fits {t r v : Int} (ht : I64 t) (hr : I64 r) (hv : I64 v) : Fits [.int .i64, .int .i64, .int .i64] (rowC t r v) :=
  ⟨⟨rfl, i64_wf.2 ht⟩, ⟨rfl, i64_wf.2 hr⟩, ⟨rfl, i64_wf.2 hv⟩, trivial⟩
theorem zcNd : zc Tryd.prog 33 = Nd.zero.cells := by kernel_rfl
theorem zcRow : zc Tryd.prog 31 = rowC 0 0 0 := by kernel_rfl
theorem zc140 : zc Tryd.prog 140 = u8 (List.replicate 10 0) := by kernel_rfl
theorem zcDig : zc Tryd.prog 24 = u8 z32 := by kernel_rfl
theorem bT : slT Tryd.prog 22 5 1 1 = true := by kernel_rfl
end Go.Proofs.YtjkbjppopdfggaaDoor.Sha
namespace Go.Proofs.YtjkbjppopdfggaaDoor.Sha
open Go Den Fn
open Go.RowKit (Below)
set_option maxRecDepth 8000
set_option maxHeartbeats 1000000
theorem check_c (t r : Int) (w : World) : Calls Tryd.prog 50 #[.agg (keyC t r).toArray] w fun e w' => e = .returned (.int .i64 (if KeyOk t then 0 else 20)) ∧ Tch [] w w' := by
  refine c50 _ ?_
  unfold d50
  rintro w1 rfl
  have hX := Blk.fresh w (cs := keyC t r) 29 rfl
  have ht := (Tch.refl [] w).alloc (.cells (keyC t r).toArray 29)
  rw [add_mk]
  refine ⟨t, hX.cell 0, ?_⟩
  by_cases h1 : t < 0
  · rw [bif_pos h1, if_neg (by unfold KeyOk; omega)]
    exact ⟨rfl, ht⟩
  rw [bif_neg h1]
  refine ⟨t, hX.cell 0, ?_⟩
  by_cases h2 : 65535 < t
  · rw [bif_pos h2, if_neg (by unfold KeyOk; omega)]
    exact ⟨rfl, ht⟩
  rw [bif_neg h2, if_pos (by unfold KeyOk; omega)]
  exact ⟨rfl, ht⟩
theorem refCheck_c (t r : Int) (w : World) : Calls Tryd.prog 57 #[.agg (keyC t r).toArray] w fun e w' => e = .returned (.int .i64 (if KeyOk t then 0 else 20)) ∧ Tch [] w w' := by
  refine c57 _ ?_
  unfold d57
  rintro w1 rfl
  have hX := Blk.fresh w (cs := keyC t r) 29 rfl
  have ht := (Tch.refl [] w).alloc (.cells (keyC t r).toArray 29)
  rw [add_mk]
  refine ⟨t, hX.cell 0, ?_⟩
  by_cases h1 : t < 0
  · rw [bif_pos h1, if_neg (by unfold KeyOk; omega)]
    exact ⟨rfl, ht⟩
  rw [bif_neg h1]
  refine ⟨t, hX.cell 0, ?_⟩
  by_cases h2 : 65535 < t
  · rw [bif_pos h2, if_neg (by unfold KeyOk; omega)]
    exact ⟨rfl, ht⟩
  rw [bif_neg h2, if_pos (by unfold KeyOk; omega)]
  exact ⟨rfl, ht⟩

theorem form_c (t r : Int) (w : World) : Calls Tryd.prog 73 #[.agg (keyC t r).toArray] w fun e w' => e = .returned (.agg (u8 (keyB t r)).toArray) ∧ Tch [] w w' := by
  refine c73 _ ?_
  unfold d73
  rintro w1 rfl
  have hK := Blk.fresh w (cs := keyC t r) 29 rfl
  have ht := (Tch.refl [] w).alloc (.cells (keyC t r).toArray 29)
  have s1 := size_alloc w (.cells (keyC t r).toArray 29)
  generalize w.alloc (.cells (keyC t r).toArray 29) = W1 at *
  rintro w2 rfl
  have hO : Blk _ _ (u8 (List.replicate 10 0)) := Blk.fresh W1 140 zc140
  have s2 := size_alloc W1 (.cells (zc Tryd.prog 140).toArray 140)
  replace hK := hK.alloc (.cells (zc Tryd.prog 140).toArray 140)
  replace ht := ht.alloc (.cells (zc Tryd.prog 140).toArray 140)
  generalize W1.alloc (.cells (zc Tryd.prog 140).toArray 140) = W2 at *
  rintro w3 rfl
  have hB : Blk _ _ (u8 (List.replicate 10 0)) := Blk.fresh W2 140 zc140
  replace hK := hK.alloc (.cells (zc Tryd.prog 140).toArray 140)
  replace hO := hO.alloc (.cells (zc Tryd.prog 140).toArray 140)
  replace ht := ht.alloc (.cells (zc Tryd.prog 140).toArray 140)
  rintro w4 rfl
  replace hK := hK.drew
  replace hO := hO.drew
  replace hB := hB.drew
  replace ht := ht.drew
  generalize (W2.alloc (.cells (zc Tryd.prog 140).toArray 140)).drew = W at *
  generalize hob : W1.heap.size = ob at *
  generalize hbb : W2.heap.size = bb at *
  generalize hkb : w.heap.size = kb at *
  simp only [add_mk, Nat.zero_add, Nat.mul_one]
  refine ⟨t, hK.cell 0, by omega, t, hK.cell 0, by omega, by omega, rfl, by rw [show Int.toNat 0 = 0 from rfl, hB.cell]; rfl, hB.frozen _, ?_⟩
  rintro w7 rfl
  have hB1 := hB.setInt 0 (IntKind.wrap .u8 (shR .i64 t 8))
  have hK1 := hK.set_ne (a := ⟨bb, 0, none⟩) (by show kb ≠ bb; omega) (.int .u8 (IntKind.wrap .u8 (shR .i64 t 8)))
  refine ⟨⟨t, hK1.cell 0, rfl, trivial⟩, by omega, by omega, rfl, by rw [show Int.toNat 1 = 1 from rfl]; erw [hB1.cell]; rfl, hB1.frozen _, ?_⟩
  rintro w9 rfl
  have hB2 := hB1.setInt 1 (IntKind.wrap .u8 t)
  have hK2 := hK1.set_ne (a := ⟨bb, 1, none⟩) (by show kb ≠ bb; omega) (.int .u8 (IntKind.wrap .u8 t))
  have hO2 := (hO.set_ne (a := ⟨bb, 0, none⟩) (by show ob ≠ bb; omega) (.int .u8 (IntKind.wrap .u8 (shR .i64 t 8)))).set_ne (a := ⟨bb, 1, none⟩) (by show ob ≠ bb; omega) (.int .u8 (IntKind.wrap .u8 t))
  refine ⟨r, hK2.cell 1, ?_⟩
  refine ⟨fun m x w' => ∃ (i : Nat) (l : List Int), i ≤ 8 ∧ x = i ∧ m = 8 - i ∧ Blk w' bb (u8 l) ∧ l.length = 10 ∧ l.take (2 + i) = (keyB t r).take (2 + i) ∧ Blk w' ob (u8 (List.replicate 10 0)) ∧ Tch [] w w', ⟨8, 0, _, by omega, rfl, rfl, hB2, rfl, rfl, hO2, (ht.setCell (.inr (by show _ ≤ bb; omega)) _).setCell (.inr (by show _ ≤ bb; omega)) _⟩, ?_⟩
  clear hB hB1 hB2 hK hK1 hK2 hO hO2 ht
  rintro m w13 x ⟨i, l, hi, rfl, rfl, hB, hll, htk, hO, ht⟩
  by_cases hlt : i < 8
  · rw [bif_pos (by omega), wrap_i64 (n := 8 * (i : Int)) (by omega) (by omega), wrap_i64 (n := 56 - 8 * (i : Int)) (by omega) (by omega), wrap_i64 (n := 2 + (i : Int)) (by omega) (by omega), show Int.toNat (2 + (i : Int)) = 2 + i by omega]
    refine ⟨by omega, by omega, by omega, rfl, by rw [hB.int (by omega)]; rfl, hB.frozen _, ?_⟩
    rintro w15 rfl
    rw [wrap_i64 (by omega) (by omega)]
    refine ⟨8 - (i + 1), by omega, i + 1, _, by omega, rfl, rfl, hB.setInt _ _, by simpa using hll, ?_, hO.set_ne (by show ob ≠ bb; omega) _, ht.setCell (.inr (by show _ ≤ bb; omega)) _⟩
    rw [← Nat.add_assoc, take_set_len (by omega), htk, List.take_succ_eq_append_getElem (by rw [keyB_length]; omega)]
    congr 2
    show IntKind.wrap .u8 (shR .u64 (rowU r) (56 - 8 * (i : Int))) = _
    have : (keyB t r)[2 + i]'(by rw [keyB_length]; omega) = (be8 (rowU r))[i]'(by rw [be8_length]; omega) := by
      simp only [keyB]
      rw [List.getElem_append_right (by simp)]
      simp
    rw [this]
    simp [be8]
  · have : i = 8 := by omega
    subst this
    rw [bif_neg (by omega)]
    have hl : l = keyB t r := by rw [← List.take_of_length_le (l := l) (i := 2 + 8) (by omega), htk, List.take_of_length_le (by rw [keyB_length]; omega)]
    subst hl
    refine get_all hB (by rw [List.length_map, hll]) ?_
    refine put_all hO (by simp) (by rw [List.length_map, hll]) ones_ints fun w' h1 h2 _ => ?_
    exact get_all h1 (by rw [List.length_map, hll]) ⟨rfl, ht.trans h2 (by simp; omega)⟩

theorem shR_le {u : Int} (i : Nat) (hi : i < 8) : shR .u64 u (56 - 8 * ((7 - i : Nat) : Int)) = u / 256 ^ i := by
  unfold shR
  have e : (56 - 8 * ((7 - i : Nat) : Int)).toNat = 8 * i := by omega
  rw [e, show min (8 * i) (IntKind.bits .u64) = 8 * i from Nat.min_eq_left (by show 8 * i ≤ 64; omega), Int.pow_mul, show (2 : Int) ^ 8 = 256 from rfl, Int.fdiv_eq_ediv_of_nonneg _ (Int.pow_nonneg (by omega))]
theorem be8_getD {u : Int} (j : Nat) (hj : j < 8) : (be8 u).getD (7 - j) 0 = IntKind.wrap .u8 (u / 256 ^ j) := by
  rw [← shR_le j hj]
  have : 7 - j < 8 := by omega
  simp [be8, List.getD_eq_getElem?_getD, this]
theorem keyB_getD {t r : Int} (j : Nat) (hj : j < 8) : (keyB t r).getD (9 - j) 0 = IntKind.wrap .u8 (rowU r / 256 ^ j) := by
  rw [← be8_getD j hj]
  simp only [keyB, List.getD_eq_getElem?_getD]
  rw [List.getElem?_append_right (by simp; omega)]
  simp only [List.length_cons, List.length_nil]
  congr 2
  omega
theorem ext_getD {a b : List Int} {n : Nat} (ha : a.length = n) (hb : b.length = n) (h : ∀ p, p < n → a.getD p 0 = b.getD p 0) : a = b := by
  apply List.ext_getElem (by omega)
  intro i h1 h2
  have := h i (by omega)
  simpa [List.getD_eq_getElem?_getD, h1, h2] using this

theorem ten_c (t r : Int) (w : World) (hk : KeyOk t) : Calls Tryd.prog 87 #[.agg (keyC t r).toArray] w fun e w' => e = .returned (.agg (u8 (keyB t r)).toArray) ∧ Tch [] w w' := by
  refine c87 _ ?_
  unfold d87
  rintro w1 rfl
  have hK := Blk.fresh w (cs := keyC t r) 29 rfl
  have ht := (Tch.refl [] w).alloc (.cells (keyC t r).toArray 29)
  have s1 := size_alloc w (.cells (keyC t r).toArray 29)
  generalize w.alloc (.cells (keyC t r).toArray 29) = W1 at *
  rintro w2 rfl
  have hO : Blk _ _ (u8 (List.replicate 10 0)) := Blk.fresh W1 140 zc140
  have s2 := size_alloc W1 (.cells (zc Tryd.prog 140).toArray 140)
  replace hK := hK.alloc (.cells (zc Tryd.prog 140).toArray 140)
  replace ht := ht.alloc (.cells (zc Tryd.prog 140).toArray 140)
  generalize W1.alloc (.cells (zc Tryd.prog 140).toArray 140) = W2 at *
  rintro w3 rfl
  have hB : Blk _ _ (u8 (List.replicate 10 0)) := Blk.fresh W2 140 zc140
  replace hK := hK.alloc (.cells (zc Tryd.prog 140).toArray 140)
  replace hO := hO.alloc (.cells (zc Tryd.prog 140).toArray 140)
  replace ht := ht.alloc (.cells (zc Tryd.prog 140).toArray 140)
  generalize W2.alloc (.cells (zc Tryd.prog 140).toArray 140) = W at *
  generalize hob : W1.heap.size = ob at *
  generalize hbb : W2.heap.size = bb at *
  generalize hkb : w.heap.size = kb at *
  unfold KeyOk at hk
  simp only [add_mk, Nat.zero_add, Nat.mul_one]
  refine ⟨t, hK.cell 0, by omega, by omega, by omega, rfl, by rw [show Int.toNat 0 = 0 from rfl, hB.cell]; rfl, hB.frozen _, ?_⟩
  rintro w5 rfl
  have hB1 := hB.setInt 0 (IntKind.wrap .u8 (IntKind.wrap .i64 (Int.tdiv t 256)))
  have hK1 := hK.set_ne (a := ⟨bb, 0, none⟩) (by show kb ≠ bb; omega) (.int .u8 (IntKind.wrap .u8 (IntKind.wrap .i64 (Int.tdiv t 256))))
  refine ⟨t, hK1.cell 0, by omega, by omega, by omega, rfl, by rw [show Int.toNat 1 = 1 from rfl]; erw [hB1.cell]; rfl, hB1.frozen _, ?_⟩
  rintro w7 rfl
  have hB2 := hB1.setInt 1 (IntKind.wrap .u8 (Int.tmod t 256))
  have hK2 := hK1.set_ne (a := ⟨bb, 1, none⟩) (by show kb ≠ bb; omega) (.int .u8 (IntKind.wrap .u8 (Int.tmod t 256)))
  have hO2 := (hO.set_ne (a := ⟨bb, 0, none⟩) (by show ob ≠ bb; omega) (.int .u8 (IntKind.wrap .u8 (IntKind.wrap .i64 (Int.tdiv t 256))))).set_ne (a := ⟨bb, 1, none⟩) (by show ob ≠ bb; omega) (.int .u8 (IntKind.wrap .u8 (Int.tmod t 256)))
  refine ⟨r, hK2.cell 1, ?_⟩
  have hU := rowU_range r
  refine ⟨fun m u x w' => ∃ (i : Nat) (l : List Int), i ≤ 8 ∧ x = i ∧ u = rowU r / 256 ^ i ∧ m = 8 - i ∧ Blk w' bb (u8 l) ∧ l.length = 10 ∧ (∀ p, p < 10 → (p < 2 ∨ 9 - i < p) → l.getD p 0 = (keyB t r).getD p 0) ∧ Blk w' ob (u8 (List.replicate 10 0)) ∧ Tch [] w w', ⟨8, 0, _, by omega, rfl, ?_, rfl, hB2, rfl, ?_, hO2, (ht.setCell (.inr (by show _ ≤ bb; omega)) _).setCell (.inr (by show _ ≤ bb; omega)) _⟩, ?_⟩
  · show rowU r = _
    simp
  · intro p hp hq
    have hq : p = 0 ∨ p = 1 := by omega
    rcases hq with rfl | rfl
    · show IntKind.wrap .u8 (IntKind.wrap .i64 (Int.tdiv t 256)) = IntKind.wrap .u8 (shR .i64 t 8)
      rw [Int.tdiv_eq_ediv_of_nonneg hk.1, wrap_i64 (by omega) (by omega)]
      unfold shR
      rw [show min (Int.toNat 8) (IntKind.bits .i64) = 8 from rfl, Int.fdiv_eq_ediv_of_nonneg _ (by decide)]
      rfl
    · show IntKind.wrap .u8 (Int.tmod t 256) = IntKind.wrap .u8 t
      rw [Int.tmod_eq_emod_of_nonneg hk.1, wrap_u8_eq, wrap_u8_eq]
      omega
  clear hB hB1 hB2 hK hK1 hK2 hO hO2 ht
  rintro m w13 u x ⟨i, l, hi, rfl, rfl, rfl, hB, hll, hp, hO, ht⟩
  have h256 : (0 : Int) < 256 ^ i := Int.pow_pos (by omega)
  have hu0 : 0 ≤ rowU r / 256 ^ i := Int.ediv_nonneg hU.1 (by omega)
  have hu1 : rowU r / 256 ^ i < 18446744073709551616 := Int.lt_of_le_of_lt (Int.ediv_le_self _ hU.1) hU.2
  by_cases hlt : i < 8
  · rw [bif_pos (by omega), wrap_i64 (n := 9 - (i : Int)) (by omega) (by omega), show Int.toNat (9 - (i : Int)) = 9 - i by omega]
    refine ⟨by omega, by omega, by omega, rfl, by rw [hB.int (by omega)]; rfl, hB.frozen _, ?_⟩
    rintro w14 rfl
    rw [wrap_i64 (by omega) (by omega), Int.tdiv_eq_ediv_of_nonneg hu0, wrap_u64 (by omega) (by omega), Int.ediv_ediv_of_nonneg (by omega), ← Int.pow_succ]
    refine ⟨by omega, 8 - (i + 1), by omega, i + 1, _, by omega, rfl, rfl, rfl, hB.setInt _ _, by simpa using hll, ?_, hO.set_ne (by show ob ≠ bb; omega) _, ht.setCell (.inr (by show _ ≤ bb; omega)) _⟩
    intro p h1 h2
    by_cases hpe : p = 9 - i
    · subst hpe
      rw [getD_set_self (by omega), keyB_getD i hlt, Int.tmod_eq_emod_of_nonneg hu0, wrap_u8_eq, wrap_u8_eq]
      omega
    · rw [getD_set_ne (fun e => hpe e.symm)]
      exact hp p h1 (by omega)
  · have : i = 8 := by omega
    subst this
    rw [bif_neg (by omega)]
    have hl : l = keyB t r := ext_getD hll (keyB_length _ _) fun p h => hp p h (by omega)
    subst hl
    refine get_all hB (by rw [List.length_map, hll]) ?_
    refine put_all hO (by simp) (by rw [List.length_map, hll]) ones_ints fun w' h1 h2 _ => ?_
    exact get_all h1 (by rw [List.length_map, hll]) ⟨rfl, ht.trans h2 (by simp; omega)⟩

theorem bytes_c (t r : Int) (w : World) : Calls Tryd.prog 55 #[.agg (keyC t r).toArray] w fun e w' =>
    if KeyOk t then ∃ a c, e = .returned (.tuple #[.slice a 10 c, .int .i64 0]) ∧ w'.ownsRow w.heap.size 5 1 (.slice a 10 c) 10 (u8 (keyB t r)) ∧ Tch [] w w'
    else e = .returned (.tuple #[.slice none 0 0, .int .i64 20]) ∧ Tch [] w w' := by
  refine c55 _ ?_
  unfold d55
  rintro w1 rfl
  have hK := Blk.fresh w (cs := keyC t r) 29 rfl
  have ht := (Tch.refl [] w).alloc (.cells (keyC t r).toArray 29)
  refine get_all hK rfl ?_
  refine (check_c t r _).mono ?_
  rintro e w4 ⟨rfl, ht4⟩
  refine ⟨_, rfl, ?_⟩
  replace hK := hK.tch ht4 (by simp)
  replace ht := ht.trans ht4 (by simp)
  by_cases hk : KeyOk t
  · rw [if_pos hk, bif_npos rfl]
    simp only [if_pos hk]
    refine get_all hK rfl ?_
    refine (form_c t r w4).mono ?_
    rintro e w8 ⟨rfl, ht8⟩
    replace ht := ht.trans ht8 (by simp)
    refine ⟨_, rfl, ?_⟩
    refine var_init (by rw [zc140]; simp) (by rw [List.length_map, keyB_length]) ones_ints fun w10 w11 h1 h2 h3 => ?_
    have hs8 := ht.size
    refine app_row bT (own_nil w11 w.heap.size 5 1) (ys := u8 (keyB t r)) (m := 10) (mc := 10) ?_ (by omega) (by omega) (by omega) fun a' c' w' h4 h5 => ?_
    · exact h1.rsl (by rw [List.length_map, keyB_length]) ones_ints
    · exact ⟨a', c', rfl, h4, (ht.trans h2 (by simp)).up h5 (Nat.le_refl _)⟩
  · rw [if_neg hk, bif_nneg (by omega)]
    simp only [if_neg hk]
    exact ⟨trivial, ht⟩
theorem refBytes_c (t r : Int) (w : World) : Calls Tryd.prog 72 #[.agg (keyC t r).toArray] w fun e w' =>
    if KeyOk t then ∃ a c, e = .returned (.tuple #[.slice a 10 c, .int .i64 0]) ∧ w'.ownsRow w.heap.size 5 1 (.slice a 10 c) 10 (u8 (keyB t r)) ∧ Tch [] w w'
    else e = .returned (.tuple #[.slice none 0 0, .int .i64 20]) ∧ Tch [] w w' := by
  refine c72 _ ?_
  unfold d72
  rintro w1 rfl
  have hK := Blk.fresh w (cs := keyC t r) 29 rfl
  have ht := (Tch.refl [] w).alloc (.cells (keyC t r).toArray 29)
  refine get_all hK rfl ?_
  refine (refCheck_c t r _).mono ?_
  rintro e w4 ⟨rfl, ht4⟩
  refine ⟨_, rfl, ?_⟩
  replace hK := hK.tch ht4 (by simp)
  replace ht := ht.trans ht4 (by simp)
  by_cases hk : KeyOk t
  · rw [if_pos hk, bif_npos rfl]
    simp only [if_pos hk]
    refine get_all hK rfl ?_
    refine (ten_c t r w4 hk).mono ?_
    rintro e w8 ⟨rfl, ht8⟩
    replace ht := ht.trans ht8 (by simp)
    refine ⟨_, rfl, ?_⟩
    refine var_init (by rw [zc140]; simp) (by rw [List.length_map, keyB_length]) ones_ints fun w10 w11 h1 h2 h3 => ?_
    have hs8 := ht.size
    replace ht := ht.trans h2 (by simp)
    refine ⟨fun m a' n' c' x w' => ∃ i : Nat, i ≤ 10 ∧ x = i ∧ i = n' ∧ m = 10 - i ∧ w'.ownsRow w11.heap.size 5 1 (.slice a' n' c') n' (u8 ((keyB t r).take i)) ∧ Below w11.heap.size w11 w', ⟨10, 0, by omega, rfl, rfl, rfl, own_nil _ _ _ _, Below.refl _ _⟩, ?_⟩
    rintro m w14 a' n' c' x ⟨i, hi, rfl, rfl, rfl, hown, hb⟩
    by_cases hlt : i < 10
    · rw [bif_pos (by omega), add_mk, Int.toNat_natCast, Nat.mul_one, Nat.zero_add]
      refine ⟨by omega, by omega, _, (h1.below hb h1.lt).int (by rw [keyB_length]; exact hlt), ?_⟩
      refine app_elem bT hown (by rw [zc5]; rfl) (ys := u8 [(keyB t r).getD i 0]) rfl rfl ones_ints hb.size (by omega) (by omega) fun a2 c2 w2 g1 g2 => ?_
      rw [wrap_i64 (by omega) (by omega)]
      refine ⟨10 - (i + 1), by omega, i + 1, by omega, rfl, rfl, rfl, ?_, hb.trans g2⟩
      rw [List.take_succ_eq_append_getElem (by rw [keyB_length]; exact hlt)]
      rw [← List.map_append] at g1
      simpa [List.getD_eq_getElem?_getD, show i < (keyB t r).length by rw [keyB_length]; exact hlt] using g1
    · have : i = 10 := by omega
      subst this
      rw [bif_neg (by omega)]
      rw [List.take_of_length_le (by rw [keyB_length]; omega)] at hown
      exact ⟨a', c', rfl, own_base hown (by omega), ht.up hb (by omega)⟩
  · rw [if_neg hk, bif_nneg (by omega)]
    simp only [if_neg hk]
    exact ⟨trivial, ht⟩
end Go.Proofs.YtjkbjppopdfggaaDoor.Sha
namespace Go.Proofs.YtjkbjppopdfggaaDoor.Sha
open Go Den Fn
open Go.RowKit (Below)
set_option maxRecDepth 8000
set_option maxHeartbeats 1000000
theorem grow_c (w : World) (k : Nat) (hk : k ≤ 1099511627776) : Calls Tryd.prog 86 #[.slice none 0 0, .int .i64 k] w fun e w' =>
    ∃ a c, e = .returned (.slice a 0 c) ∧ w'.ownsRow w.heap.size 5 1 (.slice a 0 c) 0 [] ∧ Tch [] w w' := by
  refine c86 _ _ _ _ ?_
  unfold d86
  refine ⟨fun w' => w' = w, ?_, ?_⟩
  · rw [bif_neg (by omega)]
  rintro w3 rfl
  refine run_capK bT ?_
  refine ⟨_, rfl, ?_⟩
  rw [show IntKind.wrap .i64 (((0 : Nat) : Int) - ((0 : Nat) : Int)) = 0 from rfl, wrap_i64 (n := (k : Int) - 0) (by omega) (by omega)]
  by_cases h0 : 0 < k
  · rw [bif_pos (by omega)]
    refine run_capK bT ?_
    refine ⟨_, rfl, by omega, by omega, ?_⟩
    rw [show (k : Int) - 0 = k by omega]
    refine app_zeros bT (ti := 3) (k := .i64) (by kernel_rfl) h0 (by omega) (by omega) ?_
    intro c w' zs hown ht
    refine ⟨_, _, _, rfl, by omega, by omega, ?_⟩
    have := own_head hown (k := 0) (by omega)
    exact ⟨_, _, rfl, by simpa using this, ht⟩
  · rw [bif_neg (by omega)]
    exact ⟨_, _, rfl, own_nil _ _ _ _, Tch.refl _ _⟩

abbrev Part := Option Addr × Nat × Nat × List Int
abbrev partC (xs : List Part) : List Value := xs.map fun x => .slice x.1 x.2.1 x.2.2.1
def cat (xs : List Part) : List Int := (xs.map (·.2.2.2)).flatten
def Parts (w : World) (xs : List Part) : Prop := ∀ x ∈ xs, RSl w 1 x.1 x.2.1 x.2.2.1 (u8 x.2.2.2)
theorem cat_take (xs : List Part) {i : Nat} (h : i < xs.length) : cat (xs.take (i + 1)) = cat (xs.take i) ++ xs[i].2.2.2 := by
  unfold cat
  rw [List.take_succ_eq_append_getElem h, List.map_append, List.flatten_append]
  simp
theorem cat_le (xs : List Part) (i : Nat) : (cat (xs.take i)).length ≤ (cat xs).length := by
  conv => rhs; rw [← List.take_append_drop i xs]
  unfold cat
  rw [List.map_append, List.flatten_append, List.length_append]
  omega
theorem concat_c (w : World) (xs : List Part) (a : Option Addr) (n c : Nat) (hr : RSl w 1 a n c (partC xs)) (hx : Parts w xs) (hN : (cat xs).length ≤ 1099511627776) (hn0 : n ≤ 1099511627776) :
    Calls Tryd.prog 71 #[.slice a n c] w fun e w' =>
      ∃ a' c', e = .returned (.slice a' (cat xs).length c') ∧ w'.ownsRow w.heap.size 5 1 (.slice a' (cat xs).length c') (cat xs).length (u8 (cat xs)) ∧ Tch [] w w' := by
  have hn : xs.length = n := by have := hr.len; simpa using this
  refine c71 _ _ _ ?_
  unfold d71
  refine ⟨fun m s x w' => ∃ i : Nat, i ≤ n ∧ x = i ∧ s = (cat (xs.take i)).length ∧ m = n - i ∧ w' = w, ⟨n, 0, by omega, rfl, rfl, rfl, rfl⟩, ?_⟩
  rintro m w3 s x ⟨i, hi, rfl, rfl, rfl, rfl⟩
  by_cases hlt : i < n
  · rw [bif_pos (by omega)]
    have hil : i < xs.length := by omega
    obtain ⟨b, o, rfl, g⟩ := hr.get1 (i := i) (v := .slice xs[i].1 xs[i].2.1 xs[i].2.2.1) (by simp [hil])
    have hlen := u8_len (hx xs[i] (List.getElem_mem hil))
    have h1 := cat_take xs hil
    have h2 := cat_le xs (i + 1)
    have h3 : (cat (xs.take (i + 1))).length = (cat (xs.take i)).length + xs[i].2.1 := by rw [h1, List.length_append, hlen]
    refine ⟨by omega, by omega, _, _, _, by rw [add_mk, Int.toNat_natCast, Nat.mul_one]; exact g, ?_⟩
    rw [wrap_i64 (n := ((cat (xs.take i)).length : Int) + (xs[i].2.1 : Int)) (by omega) (by omega), wrap_i64 (by omega) (by omega), bif_neg (by omega)]
    exact ⟨n - (i + 1), by omega, i + 1, by omega, by omega, by omega, rfl, rfl⟩
  · have : i = n := by omega
    subst this
    rw [bif_neg (by omega), List.take_of_length_le (by omega)]
    refine (grow_c w3 _ hN).mono ?_
    rintro e w10 ⟨ga, gc, rfl, hg, ht⟩
    refine ⟨_, _, _, rfl, ?_⟩
    refine ⟨fun m a' n' c' x w' => ∃ j : Nat, j ≤ i ∧ x = j ∧ n' = (cat (xs.take j)).length ∧ m = i - j ∧ w'.ownsRow w3.heap.size 5 1 (.slice a' n' c') n' (u8 (cat (xs.take j))) ∧ Tch [] w3 w', ⟨i, 0, by omega, rfl, rfl, rfl, by simpa [cat] using hg, ht⟩, ?_⟩
    clear hg ht
    rintro m w14 a2 n2 c2 x ⟨j, hj, rfl, rfl, rfl, hown, ht⟩
    by_cases hlt : j < i
    · rw [bif_pos (by omega)]
      have hil : j < xs.length := by omega
      obtain ⟨b, o, rfl, g⟩ := (hr.below ht.below).get1 (i := j) (v := .slice xs[j].1 xs[j].2.1 xs[j].2.2.1) (by simp [hil])
      have hlen := u8_len (hx xs[j] (List.getElem_mem hil))
      have h1 := cat_take xs hil
      have h2 := cat_le xs (j + 1)
      have h3 : (cat (xs.take (j + 1))).length = (cat (xs.take j)).length + xs[j].2.1 := by rw [h1, List.length_append, hlen]
      refine ⟨by omega, by omega, _, _, _, by rw [add_mk, Int.toNat_natCast, Nat.mul_one]; exact g, ?_⟩
      refine app_row bT hown ((hx xs[j] (List.getElem_mem hil)).below ht.below) ht.size (by omega) (by omega) fun a' c' w' g1 g2 => ?_
      rw [wrap_i64 (by omega) (by omega)]
      refine ⟨i - (j + 1), by omega, j + 1, by omega, by omega, by omega, rfl, ?_, ht.up g2 (Nat.le_refl _)⟩
      rw [← List.map_append] at g1
      rw [h1]
      exact g1
    · have : j = i := by omega
      subst this
      rw [bif_neg (by omega)]
      rw [List.take_of_length_le (by omega)] at hown ⊢
      exact ⟨_, _, rfl, hown, ht⟩

/-- What the digest's tables are. -/
def Tabs (w : World) : Prop := Cells w ⟨1, 0, none⟩ (u32 Ks) ∧ Cells w ⟨0, 0, none⟩ (u32 Hs)
theorem cells_tch {w w' : World} {b o : Nat} {cs : List Value} (h : Cells w ⟨b, o, none⟩ cs) (ht : Tch [] w w') : Cells w' ⟨b, o, none⟩ cs := fun i v hv => by
  have := h i v hv
  rw [add_mk] at this ⊢
  rw [World.cell?_of_block (w := w) (ht.block b (World.block_lt_of_cell? _ _ this) (by simp))]
  exact this
theorem Tabs.tch {w w' : World} (h : Tabs w) (ht : Tch [] w w') : Tabs w' := ⟨cells_tch h.1 ht, cells_tch h.2 ht⟩

theorem leafSum_c (t r v : Int) (w : World) (hk : KeyOk t) (hT : Tabs w) : Calls Tryd.prog 51 #[.agg (rowC t r v).toArray] w fun e w' => e = .returned (.agg (u8 (sha (leafT t r v))).toArray) ∧ Tch [] w w' := by
  refine c51 _ ?_
  unfold d51
  rintro w1 rfl
  have hR := Blk.fresh w (cs := rowC t r v) 31 rfl
  have ht := (Tch.refl [] w).alloc (.cells (rowC t r v).toArray 31)
  have s1 := size_alloc w (.cells (rowC t r v).toArray 31)
  generalize w.alloc (.cells (rowC t r v).toArray 31) = W1 at *
  rintro w2 rfl
  have hO : Blk _ _ (u8 z32) := Blk.fresh W1 24 zcDig
  replace hR := hR.alloc (.cells (zc Tryd.prog 24).toArray 24)
  replace ht := ht.alloc (.cells (zc Tryd.prog 24).toArray 24)
  have s2 := size_alloc W1 (.cells (zc Tryd.prog 24).toArray 24)
  generalize W1.alloc (.cells (zc Tryd.prog 24).toArray 24) = W2 at *
  generalize hob : W1.heap.size = ob at *
  refine get_part hR 0 2 (keyC t r) rfl rfl ?_
  refine (bytes_c t r W2).mono ?_
  rintro e w5 h5
  rw [if_pos hk] at h5
  obtain ⟨ka, kc, rfl, hkb, ht5⟩ := h5
  replace hR := hR.tch ht5 (by simp)
  replace hO := hO.tch ht5 (by simp)
  replace ht := ht.trans ht5 (by simp)
  refine ⟨_, _, _, _, rfl, _, _, _, rfl, _, rfl, ?_⟩
  refine ⟨[.int .u8 0], by rw [zc5]; rfl, ?_⟩
  rintro w11 rfl
  have hs5 := ht5.size
  refine app_row bT (own_new w5 (n := 1) (cs := [.int .u8 0]) (base := w5.heap.size) (size := 1) (Nat.le_refl _) rfl (by omega)) (ys := u8 (keyB t r)) ((own_rsl hkb ones_ints).below ((Below.refl _ _).alloc (Nat.le_refl _) _)) (by rw [size_alloc]; omega) (by omega) (by omega) fun a' c' w13 g1 g2 => ?_
  replace hR := (hR.alloc (.cells [Value.int .u8 0].toArray 5)).below g2 (by omega)
  replace hO := (hO.alloc (.cells [Value.int .u8 0].toArray 5)).below g2 (by omega)
  replace ht := (ht.alloc (.cells [Value.int .u8 0].toArray 5)).up g2 (by omega)
  have hs13 := g2.size
  rw [size_alloc] at hs13
  refine ⟨fun m a2 n2 c2 x w' => ∃ i : Nat, i ≤ 8 ∧ x = 56 - 8 * (i : Int) ∧ n2 = 11 + i ∧ m = 8 - i ∧ w'.ownsRow w5.heap.size 5 1 (.slice a2 n2 c2) n2 (u8 ([0] ++ keyB t r ++ (be8 (IntKind.wrap .u64 v)).take i)) ∧ Below w5.heap.size w13 w', ⟨8, 0, by omega, rfl, rfl, rfl, by simpa using g1, Below.refl _ _⟩, ?_⟩
  rintro m w17 a2 n2 c2 x ⟨i, hi, rfl, rfl, rfl, hown, hb⟩
  by_cases hlt : i < 8
  · rw [bif_pos (by omega), add_mk]
    refine ⟨v, (hR.below hb (by omega)).cell 2, by omega, ?_⟩
    have hs17 := hb.size
    refine app_elem bT hown (by rw [zc5]; rfl) (ys := u8 [IntKind.wrap .u8 (shR .u64 (IntKind.wrap .u64 v) (56 - 8 * (i : Int)))]) rfl rfl ones_ints (by omega) (by omega) (by omega) fun a3 c3 w3 k1 k2 => ?_
    rw [wrap_i64 (by omega) (by omega)]
    refine ⟨8 - (i + 1), by omega, i + 1, by omega, by omega, rfl, rfl, ?_, hb.trans k2⟩
    rw [← List.map_append] at k1
    rw [be8_take hlt, ← List.append_assoc]
    exact k1
  · have : i = 8 := by omega
    subst this
    rw [bif_neg (by omega)]
    rw [List.take_of_length_le (by rw [be8_length]; omega)] at hown
    replace ht := ht.up hb (by omega)
    replace hO := hO.below hb (by omega)
    refine (sum_c w17 (leafT t r v) a2 _ c2 (own_rsl hown ones_ints) (leafT_bytes t r v) (hT.tch ht).1 (hT.tch ht).2).mono ?_
    rintro e w28 ⟨rfl, ht28⟩
    refine ⟨_, rfl, ?_⟩
    refine put_all (n := 32) (hO.tch ht28 (by simp)) rfl (by rw [List.length_map, sha_length]) ones_ints fun w' h1 h2 _ => ?_
    exact get_all h1 (by rw [List.length_map, sha_length]) ⟨rfl, (ht.trans ht28 (by simp)).trans h2 (by simp; omega)⟩

theorem forkSum_c (n : Int) (l r : List Int) (w : World) (hl : l.length = 32) (hr : r.length = 32) (hlb : Bytes l) (hrb : Bytes r) (hT : Tabs w) :
    Calls Tryd.prog 53 #[.int .i64 n, .agg (u8 l).toArray, .agg (u8 r).toArray] w fun e w' => e = .returned (.agg (u8 (sha (forkT n l r))).toArray) ∧ Tch [] w w' := by
  refine c53 _ _ _ ?_
  unfold d53
  rintro w3 rfl
  have hL := Blk.fresh w (cs := u8 l) 24 rfl
  have ht := (Tch.refl [] w).alloc (.cells (u8 l).toArray 24)
  have s1 := size_alloc w (.cells (u8 l).toArray 24)
  generalize w.alloc (.cells (u8 l).toArray 24) = W3 at *
  rintro w4 rfl
  have hR := Blk.fresh W3 (cs := u8 r) 24 rfl
  replace hL := hL.alloc (.cells (u8 r).toArray 24)
  replace ht := ht.alloc (.cells (u8 r).toArray 24)
  have s2 := size_alloc W3 (.cells (u8 r).toArray 24)
  generalize W3.alloc (.cells (u8 r).toArray 24) = W4 at *
  rintro w5 rfl
  have hO : Blk _ _ (u8 z32) := Blk.fresh W4 24 zcDig
  replace hL := hL.alloc (.cells (zc Tryd.prog 24).toArray 24)
  replace hR := hR.alloc (.cells (zc Tryd.prog 24).toArray 24)
  replace ht := ht.alloc (.cells (zc Tryd.prog 24).toArray 24)
  have s3 := size_alloc W4 (.cells (zc Tryd.prog 24).toArray 24)
  rintro w6 rfl
  replace hL := hL.drew
  replace hR := hR.drew
  replace hO := hO.drew
  replace ht := ht.drew
  have s4 : (W4.alloc (.cells (zc Tryd.prog 24).toArray 24)).drew.heap.size = W4.heap.size + 1 := s3
  generalize (W4.alloc (.cells (zc Tryd.prog 24).toArray 24)).drew = W6 at *
  refine ⟨u8 [1, IntKind.wrap .u8 n], by rw [zc5]; rfl, ?_⟩
  rintro w8 rfl
  have hA := Blk.fresh W6 (cs := u8 [1, IntKind.wrap .u8 n]) 5 rfl
  replace hL := hL.alloc (.cells (u8 [1, IntKind.wrap .u8 n]).toArray 5)
  replace hR := hR.alloc (.cells (u8 [1, IntKind.wrap .u8 n]).toArray 5)
  replace hO := hO.alloc (.cells (u8 [1, IntKind.wrap .u8 n]).toArray 5)
  replace ht := ht.alloc (.cells (u8 [1, IntKind.wrap .u8 n]).toArray 5)
  have s5 := size_alloc W6 (.cells (u8 [1, IntKind.wrap .u8 n]).toArray 5)
  generalize W6.alloc (.cells (u8 [1, IntKind.wrap .u8 n]).toArray 5) = W8 at *
  have zc22 : zc Tryd.prog 22 = [.slice none 0 0] := by kernel_rfl
  refine ⟨partC [(some ⟨W6.heap.size, 0, none⟩, 2, 2, [1, IntKind.wrap .u8 n]), (some ⟨w.heap.size, 0, none⟩, 32, 32, l), (some ⟨W3.heap.size, 0, none⟩, 32, 32, r)], by rw [zc22]; rfl, ?_⟩
  generalize hps : [((some ⟨W6.heap.size, 0, none⟩, 2, 2, [1, IntKind.wrap .u8 n]) : Part), (some ⟨w.heap.size, 0, none⟩, 32, 32, l), (some ⟨W3.heap.size, 0, none⟩, 32, 32, r)] = ps
  have hcat : cat ps = forkT n l r := by rw [← hps]; simp [cat, forkT]
  have hparts : Parts W8 ps := by
    rw [← hps]
    intro x hx
    simp at hx
    rcases hx with rfl | rfl | rfl
    · exact hA.rsl rfl ones_ints
    · exact hL.rsl (by rw [List.length_map]; exact hl) ones_ints
    · exact hR.rsl (by rw [List.length_map]; exact hr) ones_ints
  have hplen : ps.length = 3 := by rw [← hps]; rfl
  rintro w10 rfl
  have hP := Blk.fresh W8 (cs := partC ps) 22 rfl
  replace hO := hO.alloc (.cells (partC ps).toArray 22)
  replace ht := ht.alloc (.cells (partC ps).toArray 22)
  have hbl : Below W8.heap.size W8 (W8.alloc (.cells (partC ps).toArray 22)) := (Below.refl _ _).alloc (Nat.le_refl _) _
  have hcl : (cat ps).length = 66 := by rw [hcat]; simp [forkT, hl, hr]
  refine (concat_c _ ps _ _ _ (hP.rsl (by rw [List.length_map, hplen]) (fun u hu => by
    obtain ⟨x, _, rfl⟩ := List.mem_map.1 hu
    rfl)) (fun x hx => (hparts x hx).below hbl) (by omega) (by omega)).mono ?_
  rintro e w12 ⟨a', c', rfl, hown, ht12⟩
  refine ⟨_, _, _, rfl, ?_⟩
  replace hO := hO.tch ht12 (by simp)
  replace ht := ht.trans ht12 (by simp)
  rw [hcat] at hown ⊢
  refine (sum_c w12 (forkT n l r) a' _ c' (own_rsl hown ones_ints) (forkT_bytes hlb hrb) (hT.tch ht).1 (hT.tch ht).2).mono ?_
  rintro e w15 ⟨rfl, ht15⟩
  refine ⟨_, rfl, ?_⟩
  refine put_all (n := 32) (hO.tch ht15 (by simp)) rfl (by rw [List.length_map, sha_length]) ones_ints fun w' h1 h2 _ => ?_
  exact get_all h1 (by rw [List.length_map, sha_length]) ⟨rfl, (ht.trans ht15 (by simp)).trans h2 (by simp; omega)⟩
end Go.Proofs.YtjkbjppopdfggaaDoor.Sha
namespace Go.Proofs.YtjkbjppopdfggaaDoor.Sha
open Go Den Fn
open Go.ChangeShapes Go.WideShapes Go.ChangeAt Go.RowKit
theorem own : ownKnob Tryd.prog.godebug = none := by kernel_rfl
theorem laidOk : laidOutB Tryd.prog = true := by kernel_rfl
theorem uBool : Tryd.prog.underlying 4 = some .bool := by kernel_rfl
theorem gStart : Tryd.prog.globalNamed "prelude/proof.start" = some 0 := by kernel_rfl
theorem gStartT : (Tryd.prog.globals[0]?).map (·.type) = some 91 := by kernel_rfl
theorem gRounds : Tryd.prog.globalNamed "prelude/proof.rounds" = some 1 := by kernel_rfl
theorem gRoundsT : (Tryd.prog.globals[1]?).map (·.type) = some 96 := by kernel_rfl
theorem uStart : Tryd.prog.underlying 91 = some (.array 8 90) := by kernel_rfl
theorem uRounds : Tryd.prog.underlying 96 = some (.array 64 90) := by kernel_rfl
theorem uWord : Tryd.prog.underlying 90 = some (.int .u32) := by kernel_rfl
theorem cWord : Tryd.prog.cellsOf 90 = 1 := by kernel_rfl
theorem cStart : Tryd.prog.cellsOf 91 = 8 := by kernel_rfl
theorem cRounds : Tryd.prog.cellsOf 96 = 64 := by kernel_rfl
theorem cells_of_tab {W : World} {name : String} {zs : List Int} {g : Nat} (h : Lib.TabIs Tryd.prog W name .u32 zs) (hg : Tryd.prog.globalNamed name = some g) : Cells W ⟨g, 0, none⟩ (u32 zs) := by
  intro i v hv
  rw [List.getElem?_map, Option.map_eq_some_iff] at hv
  obtain ⟨x, hx, rfl⟩ := hv
  have hi := (List.getElem?_eq_some_iff.1 hx).1
  rw [add_mk, Nat.zero_add, h.cell hg i hi]
  simp [List.getD_eq_getElem?_getD, hx]
abbrev laidRows : List (String × DataW Unit) := [("prelude/proof.start", Rows.laid_prelude_proof_start), ("prelude/proof.rounds", Rows.laid_prelude_proof_rounds)]
/-- What a row's list gives. -/
theorem laidTabs {W : World} (h : laidMetH Tryd.prog laidRows W) : Tabs W :=
  ⟨cells_of_tab (Lib.tabIs_of_head (zs := Ks) (rest := []) gRounds gRoundsT uRounds uWord cWord cRounds (laidMet.tail (x := ("prelude/proof.start", Rows.laid_prelude_proof_start)) h)) gRounds,
    cells_of_tab (Lib.tabIs_of_head (zs := Hs) gStart gStartT uStart uWord cWord cStart h) gStart⟩
def lay (cs : Array Value) : Obj → Obj
  | .cells _ t frozen => .cells cs t frozen
  | o => o
noncomputable def laidWorld (os : Os) : World :=
  { World.holding Tryd.prog os ⟨#[], #[], []⟩ with heap := ((World.holding Tryd.prog os ⟨#[], #[], []⟩).heap.modify 0 (lay (u32 Hs).toArray)).modify 1 (lay (u32 Ks).toArray) }
/-- An argument that is a row of numbers, booleans and strings. -/
theorem open_agg {H : Type} {enc : TypeId × Value → H} {P : Program} {d : Nat} {t : TypeId} {ks : List FK} (hf : flatK P d t = some ks) (hk : eqT P d t = true) {W : World} {base : Nat} {v : Value} {x : DataW H} {ps : List MemPlace}
    (hval : Value.okWide P W .any base t v) (hd : DataW.Trod enc P W 0 (fun _ => true) true t v x ps) : ∃ cs : List Value, v = .agg cs.toArray ∧ Fits ks cs := by
  have hk2 := hk
  unfold eqT at hk2
  simp only [Bool.and_eq_true] at hk2
  have hl : P.cellsOf t = ks.length ∧ ∃ cs, v = .agg cs ∧ cs.size = P.cellsOf t := by
    cases d with
    | zero => simp [flatK] at hf
    | succ d =>
      unfold flatK at hf
      split at hf
      · rename_i hu; rw [hu] at hk2; exact absurd hk2.1.2 (by simp)
      · rename_i hu; rw [hu] at hk2; exact absurd hk2.1.2 (by simp)
      · rename_i hu; rw [hu] at hk2; exact absurd hk2.1.2 (by simp)
      · rename_i n e hu
        split at hf
        · split at hf
          · rename_i l _ hc
            cases hf
            simp only [Value.okWide, hu] at hval
            obtain ⟨cs, h1, h2, _⟩ := hval
            exact ⟨by rw [hc.1]; simp [List.length_flatten], cs, h1, h2⟩
          · cases hf
        · cases hf
      · rename_i fs hu
        split at hf
        · split at hf
          · rename_i l _ hc
            cases hf
            simp only [Value.okWide, hu] at hval
            obtain ⟨cs, h1, h2, _⟩ := hval
            exact ⟨hc, cs, h1, h2⟩
          · cases hf
        · cases hf
      · cases hf
  obtain ⟨hl, cs, rfl, hs⟩ := hl
  obtain ⟨n, hn⟩ := hd
  rcases open_flat hf hk2.1.1.1 hn with h | h
  · exact ⟨cs.toList, by simp, h⟩
  · exfalso
    apply h
    simp only [Value.cells, Array.length_toList]
    omega
end Go.Proofs.YtjkbjppopdfggaaDoor.Sha
namespace Go.Proofs.YtjkbjppopdfggaaDoor.Lib
open Go Den
open Go.RowKit (Below)
set_option maxRecDepth 8000
abbrev u8 (l : List Int) : List Value := l.map (Value.int .u8)
abbrev i64s (l : List Int) : List Value := l.map (Value.int .i64)
def Bytes (l : List Int) : Prop := ∀ x ∈ l, 0 ≤ x ∧ x < 256
def I64 (n : Int) : Prop := -9223372036854775808 ≤ n ∧ n ≤ 9223372036854775807
theorem i64_wf {n : Int} : (Lit.int .i64 n).wf = true ↔ I64 n := by
  simp [Lit.wf, IntKind.min, IntKind.max, IntKind.signed, IntKind.bits, I64]
theorem u8_wf {n : Int} : (Lit.int .u8 n).wf = true ↔ 0 ≤ n ∧ n < 256 := by
  simp [Lit.wf, IntKind.min, IntKind.max, IntKind.signed, IntKind.bits]
  omega
theorem take_set_len {l : List Int} {k : Nat} (h : k < l.length) (v : Int) : (l.set k v).take (k + 1) = l.take k ++ [v] := by
  rw [List.take_succ_eq_append_getElem (by simpa using h)]
  simp [List.take_set_of_le]
theorem getD_take {l : List Int} {k i : Nat} (h : i < k) : (l.take k).getD i 0 = l.getD i 0 := by
  simp [List.getD_eq_getElem?_getD, List.getElem?_take, h]
theorem getD_set_self {l : List Int} {k : Nat} (h : k < l.length) (v : Int) : (l.set k v).getD k 0 = v := by
  simp [List.getD_eq_getElem?_getD, h]
theorem getD_set_ne {l : List Int} {k i : Nat} (h : k ≠ i) (v : Int) : (l.set k v).getD i 0 = l.getD i 0 := by
  simp [List.getD_eq_getElem?_getD, List.getElem?_set_ne h]
theorem getD_append {a b : List Int} {i : Nat} (h : i < a.length) : (a ++ b).getD i 0 = a.getD i 0 := by
  simp [List.getD_eq_getElem?_getD, List.getElem?_append_left h]
theorem byte_of {bs : List Int} (h : Bytes bs) (i : Nat) : 0 ≤ bs.getD i 0 ∧ bs.getD i 0 < 256 := by
  rw [List.getD_eq_getElem?_getD]
  cases hb : bs[i]? with
  | none => simp
  | some x => exact h x (List.mem_of_getElem? hb)
theorem wrap_u8_byte (x : Int) : 0 ≤ IntKind.wrap .u8 x ∧ IntKind.wrap .u8 x < 256 := by rw [wrap_u8_eq]; omega
theorem u8_len {w : World} {a : Option Addr} {n c : Nat} {bs : List Int} (h : RSl w 1 a n c (u8 bs)) : bs.length = n := by have := h.len; simpa using this
theorem Bytes.append {a b : List Int} (h : Bytes a) (k : Bytes b) : Bytes (a ++ b) := fun x hx => (List.mem_append.1 hx).elim (h x) (k x)
theorem Bytes.nil : Bytes [] := fun x hx => by cases hx
theorem Bytes.left {a b : List Int} (h : Bytes (a ++ b)) : Bytes a := fun x hx => h x (List.mem_append_left _ hx)
theorem Bytes.right {a b : List Int} (h : Bytes (a ++ b)) : Bytes b := fun x hx => h x (List.mem_append_right _ hx)
theorem Bytes.drop {bs : List Int} (h : Bytes bs) (n : Nat) : Bytes (bs.drop n) := fun x hx => h x (List.mem_of_mem_drop hx)
theorem Bytes.take {bs : List Int} (h : Bytes bs) (n : Nat) : Bytes (bs.take n) := fun x hx => h x (List.mem_of_mem_take hx)
theorem Bytes.one {x : Int} (h0 : 0 ≤ x) (h1 : x < 256) : Bytes [x] := fun y hy => by simp at hy; omega
theorem u8_inj : ∀ {a b : List Int}, u8 a = u8 b → a = b
  | [], [], _ => rfl
  | [], _ :: _, h => by cases h
  | _ :: _, [], h => by cases h
  | x :: r, y :: s, h => by
    simp only [List.map_cons, List.cons.injEq, Value.int.injEq, true_and] at h
    rw [h.1, u8_inj h.2]
theorem ext_getD {a b : List Int} {n : Nat} (ha : a.length = n) (hb : b.length = n) (h : ∀ p, p < n → a.getD p 0 = b.getD p 0) : a = b := by
  apply List.ext_getElem (by omega)
  intro i h1 h2
  have := h i (by omega)
  simpa [List.getD_eq_getElem?_getD, h1, h2] using this
theorem shR_nat {k : IntKind} {x : Int} (n : Nat) (hn : n ≤ k.bits) : shR k x (n : Int) = x / 2 ^ n := by
  unfold shR
  rw [Int.toNat_natCast, Nat.min_eq_left hn, Int.fdiv_eq_ediv_of_nonneg _ (by exact Int.pow_nonneg (by omega))]
theorem zc8 : zc Tryd.prog 5 = [.int .u8 0] := by kernel_rfl
theorem bT : slT Tryd.prog 22 5 1 1 = true := by kernel_rfl
end Go.Proofs.YtjkbjppopdfggaaDoor.Lib
namespace Go.Proofs.YtjkbjppopdfggaaDoor.Den
open Go
open Go.RowKit (Below)
/-- The block of an owned row, if it has one. -/
def rowL (a : Option Addr) : List Nat := (a.map (·.block)).toList
theorem mem_rowL {a : Option Addr} {k : Nat} : k ∈ rowL a ↔ blkOf a k := by
  cases a with
  | none => simp [rowL, blkOf]
  | some x => simp [rowL, blkOf, eq_comm]
/-- The new slice lies where the old one lay, or in a block made since. -/
def Moved (a a' : Option Addr) (N : Nat) : Prop := ∀ x, a' = some x → x.block ∈ rowL a ∨ N ≤ x.block
theorem Moved.refl (a : Option Addr) (N : Nat) : Moved a a N := fun x hx => .inl (by rw [hx]; simp [rowL])
theorem Moved.trans {a b c : Option Addr} {N M : Nat} (h : Moved a b N) (k : Moved b c M) (hNM : N ≤ M) : Moved a c N := fun x hx => by
  rcases k x hx with hk | hk
  · rw [mem_rowL] at hk
    obtain ⟨y, hy, he⟩ := hk
    rw [← he]
    exact h y hy
  · exact .inr (by omega)
theorem Moved.off {a a' : Option Addr} {N : Nat} (h : Moved a a' N) {s : List Nat} (ha : Off s a) (hs : ∀ k ∈ s, k < N) : Off s a' := fun x hx hm => by
  rcases h x hx with hk | hk
  · rw [mem_rowL] at hk
    obtain ⟨y, hy, he⟩ := hk
    exact ha y hy (he ▸ hm)
  · have := hs _ hm; omega
theorem own_ge {w : World} {base e size : Nat} {a : Option Addr} {m n c : Nat} {xs : List Value} (h : w.ownsRow base e size (.slice a m c) n xs) : ∀ x, a = some x → base ≤ x.block ∧ x.block < w.heap.size := by
  intro x hx
  subst hx
  exact own_lt h rfl
theorem app_at {P : Program} {t e ty : TypeId} {size bytes : Nat} (hT : slT P t e size bytes = true) {w : World} {base : Nat} {a : Option Addr} {n c : Nat} {xs : List Value} (hown : w.ownsRow base e size (.slice a n c) n xs)
    {b : Option Addr} {m mc : Nat} {ys : List Value} (hy : RSl w size b m mc ys) (hb : base ≤ w.heap.size) (hlen : n + m ≤ 9223372036854775807) (hbytes : (n + m) * bytes ≤ 140737488355328) {K : Option Addr → Nat → Nat → World → Prop}
    (hK : ∀ a' c' w', w'.ownsRow base e size (.slice a' (n + m) c') (n + m) (xs ++ ys) → Tch (rowL a) w w' → Moved a a' w.heap.size → K a' (n + m) c' w') :
    RunV P (Builtin.append_ #[t, t] ty #[.slice a n c, .slice b m mc]) w fun v w' => ∃ (x : Option Addr) (xn : Nat) (xc : Nat), v = (.slice x xn xc) ∧ K x xn xc w' := by
  obtain ⟨h1, h2, i, z, h3, h4, h5, h6, h7⟩ := slT_spec hT
  obtain ⟨rfl, hc⟩ | ⟨ad, rfl, hcells⟩ := hy.from
  · have hm : m = 0 := by have := hy.cap; omega
    subst hm; subst hc
    have hys : ys = [] := by have := hy.len; rw [Nat.zero_mul] at this; exact List.length_eq_zero_iff.1 this
    subst hys
    refine ⟨_, _, run_append_owned_none w base t ty e i size h1 h3 _ n xs hown, a, n, c, rfl, ?_⟩
    have := hK a c w (by simpa using hown) (Tch.refl _ _) (Moved.refl _ _)
    simpa using this
  · obtain ⟨v', w', r1, r2, r3, r4, r5⟩ := run_append_own_at (P := P) w base t ty e i z size bytes h1 h3 h4 h5 h6 h7 h2 (.slice a n c) n xs hown ad m mc ys hy.len hcells (ones_cells.1 hy.ones) (by unfold maxLen; omega) hbytes hb
    have hv : ∃ a' c', v' = .slice a' (n + m) c' := by
      rcases r2.2 with ⟨rfl, h0⟩ | ⟨g, cap, cur, rfl, _⟩
      · exact ⟨none, 0, by rw [h0]⟩
      · exact ⟨_, _, rfl⟩
    obtain ⟨a', c', rfl⟩ := hv
    refine ⟨_, _, r1, a', _, c', rfl, hK a' c' w' r2 ?_ ?_⟩
    · refine (Tch.refl _ _).grown r3 fun k hk => .inl ?_
      rw [mem_rowL]
      cases a with
      | none => cases hk
      | some x => exact ⟨x, rfl, by simpa [Value.ownBlock] using hk⟩
    · intro x hx
      subst hx
      rcases r5 with h | h
      · cases a with
        | none => cases h
        | some y =>
          left
          rw [mem_rowL]
          exact ⟨y, rfl, by simpa [Value.ownBlock] using h.symm⟩
      · right
        have : x.block = w.heap.size := by simpa [Value.ownBlock] using h
        omega
/-- append of one element: the row of one element is laid first. -/
theorem app_elem_at {P : Program} {t e ty : TypeId} {size bytes : Nat} (hT : slT P t e size bytes = true) {w : World} {base : Nat} {a : Option Addr} {n c : Nat} {xs : List Value} (hown : w.ownsRow base e size (.slice a n c) n xs)
    {z : List Value} (hz : z.length = 1 * size) {v : Value} {ys : List Value} (hv : v.cells = ys.toArray) (hl : ys.length = size) (h1 : ∀ u ∈ ys, one u = true)
    (hb : base ≤ w.heap.size) (hlen : n < 9223372036854775807) (hbytes : (n + 1) * bytes ≤ 140737488355328) {K : Option Addr → Nat → Nat → World → Prop}
    (hK : ∀ a' c' w', w'.ownsRow base e size (.slice a' (n + 1) c') (n + 1) (xs ++ ys) → Tch (rowL a) w w' → Moved a a' w.heap.size → K a' (n + 1) c' w') :
    ∃ cs, fillL (.elems size) z [(0, v)] = some cs ∧ ∀ w1 : World, w1 = World.alloc w (.cells (List.toArray cs) e) →
      RunV P (Builtin.append_ #[t, t] ty #[.slice a n c, .slice (some ⟨World.heap w |>.size, 0, none⟩) 1 1]) w1 fun v w' => ∃ (x : Option Addr) (xn : Nat) (xc : Nat), v = (.slice x xn xc) ∧ K x xn xc w' := by
  refine ⟨ys, fill1 (by omega) hv hl, ?_⟩
  rintro w1 rfl
  have hr : RSl (w.alloc (.cells ys.toArray e)) size (some ⟨w.heap.size, 0, none⟩) 1 1 ys := (Blk.fresh w e rfl).rsl (by omega) h1
  refine app_at hT (own_alloc hown _) hr (by rw [size_alloc]; omega) (by omega) hbytes fun a' c' w' h2 h3 h4 => hK a' c' w' h2 ?_ ?_
  · exact ((Tch.refl (rowL a) w).alloc _).trans h3 fun i hi => .inl hi
  · intro x hx
    rcases h4 x hx with h | h
    · exact .inl h
    · rw [size_alloc] at h; exact .inr (by omega)
theorem rowL_ge {w : World} {base e size : Nat} {a : Option Addr} {m n c : Nat} {xs : List Value} (h : w.ownsRow base e size (.slice a m c) n xs) : ∀ i ∈ rowL a, base ≤ i ∧ i < w.heap.size := by
  intro i hi
  rw [mem_rowL] at hi
  obtain ⟨x, hx, rfl⟩ := hi
  exact own_ge h x hx
end Go.Proofs.YtjkbjppopdfggaaDoor.Den
namespace Go.Proofs.YtjkbjppopdfggaaDoor.Den
open Go
open Go.RowKit (Below)
/-- A block whose elements' type is known. -/
def BlkT (w : World) (b : Nat) (T : TypeId) (cs : List Value) : Prop := w.heap[b]? = some (.cells cs.toArray T (0, 0))
theorem BlkT.blk {w : World} {b : Nat} {T : TypeId} {cs : List Value} (h : BlkT w b T cs) : Blk w b cs := ⟨T, h⟩
theorem BlkT.new (w : World) (c : Array Value) (T : TypeId) : BlkT (w.alloc (.cells c T)) w.heap.size T c.toList := by show (w.heap.push _)[w.heap.size]? = _; simp
theorem BlkT.own {w : World} {b : Nat} {e : TypeId} {cs : List Value} (h : BlkT w b e cs) {base size n : Nat} (hb : base ≤ b) (hn : cs.length = n * size) (hm : n ≤ 9223372036854775807) : w.ownsRow base e size (.slice (some ⟨b, 0, none⟩) n n) n cs :=
  ⟨hn, .inr ⟨b, n, cs.toArray, rfl, hb, h, Nat.le_refl _, by unfold maxLen; exact hm, by simpa using hn, by rw [List.toList_toArray]; exact List.take_of_length_le (Nat.le_of_eq hn)⟩⟩
theorem mk_at {P : Program} {t e : TypeId} {size bytes : Nat} (hT : slT P t e size bytes = true) {w : World} {n : Nat} (hlen : n ≤ 9223372036854775807) (hbytes : bytes * n ≤ 281474976710656) {K : Option Addr → Nat → Nat → World → Prop}
    (hK : ∀ w' (cs : List Value), cs.length = n * size → (∀ z, zc P e = z → z.length = size → ∀ j, j < n * size → cs[j]? = z[j % size]?) → BlkT w' w.heap.size e cs → Tch [] w w' → w'.heap.size = w.heap.size + 1 → K (some ⟨w.heap.size, 0, none⟩) n n w') :
    RunV P (Instr.makeSlice t (.int .i64 (n : Int)) (.int .i64 (n : Int))) w fun v w' => ∃ (x : Option Addr) (xn : Nat) (xc : Nat), v = (.slice x xn xc) ∧ K x xn xc w' := by
  obtain ⟨h1, h2, i, z, h3, h4, h5, h6, h7⟩ := slT_spec hT
  have hb' : (i.bytes : Int) * (n : Int) ≤ 281474976710656 := by
    rw [h6]
    have h : ((bytes * n : Nat) : Int) ≤ 281474976710656 := by omega
    rwa [Int.natCast_mul] at h
  have hr := run_make (P := P) w t e i z h1 h3 h4 .i64 .i64 n n (by omega) (Int.le_refl _) hb' (by omega)
  simp only [Int.toNat_natCast] at hr
  refine ⟨_, _, hr, _, _, _, rfl, ?_⟩
  refine hK _ (madeCells z.cells (n * i.size)).toList (by rw [Array.length_toList, size_madeCells, h5]) ?_ (BlkT.new _ _ _) ((Tch.refl [] w).alloc _) (size_alloc _ _)
  intro z' hz' hzl j hj
  have e1 : zc P e = z.cells.toList := by
    unfold zc
    rw [h3]
    simp [h4]
  rw [e1] at hz'
  subst hz'
  have hsz : z.cells.size = size := h7
  have hm : j % size < size := Nat.mod_lt _ h2
  rw [h5]
  simp only [madeCells, Array.toList_map, Array.toList_range, List.getElem?_map]
  rw [List.getElem?_range (by omega)]
  simp only [Option.map_some, hsz]
  rw [Array.getElem?_toList, Array.getElem?_eq_getElem (by omega)]
  congr 1
  rw [getElem!_pos z.cells (j % size) (by omega)]
end Go.Proofs.YtjkbjppopdfggaaDoor.Den
