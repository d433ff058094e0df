/-
  THE CODE of some functions of the given program, resolved, and proved to ask what the readable texts (d..) say; contracts c.. follow. Printed by a small program of mine.
-/
import Derived.Test.YtjchneebdlncfaaDoorDenWords8
import Derived.Test.YtjchneebdlncfaaDoorProg
set_option maxRecDepth 100000
namespace Go.Proofs.YtjchneebdlncfaaDoor.Fn
open Go Den
/-- prelude/preludelaw17.JournalScans -/
def s3 : S := (.seq (.ops [⟨(some 2), (.mv (.const (.bool false))), .bool, none⟩] [0])
 (.seq (.ops [⟨(some 10), (.mv (.tmp 0)), .sl, none⟩,
  ⟨(some 11), (.call 6 [(.tmp 10)] [.sl]), .sl, none⟩,
  ⟨(some 12), (.bldS 5 1 1 [(0, (.const (.int .u8 5)))]), .sl, none⟩,
  ⟨(some 13), (.app #[22, 22] 22 (.tmp 11) (.tmp 12)), .sl, none⟩,
  ⟨(some 3), (.mv (.tmp 13)), .sl, none⟩] [3, 0])
 (.seq (.ops [⟨(some 15), (.mv (.tmp 3)), .sl, none⟩,
  ⟨(some 16), (.mv (.tmp 0)), .sl, none⟩,
  ⟨(some 17), (.len (.tmp 16)), (.int .i64), none⟩,
  ⟨(some 18), (.slS 1 (.tmp 15) none (some (.tmp 17)) none), .sl, none⟩,
  ⟨(some 19), (.call 7 [(.tmp 18)] [(.int .i64), (.int .i64), .any]), .any, none⟩,
  ⟨(some 14), (.mv (.tmp 19)), .any, none⟩,
  ⟨(some 20), (.ext 0 (.tmp 14)), (.int .i64), none⟩,
  ⟨(some 21), (.ext 1 (.tmp 14)), (.int .i64), none⟩,
  ⟨(some 22), (.ext 2 (.tmp 14)), .any, none⟩,
  ⟨(some 4), (.mv (.tmp 20)), (.int .i64), none⟩,
  ⟨(some 5), (.mv (.tmp 21)), (.int .i64), none⟩,
  ⟨(some 6), (.mv (.tmp 22)), .any, none⟩] [0, 4, 5, 6, 3])
 (.seq (.ops [⟨(some 24), (.mv (.tmp 0)), .sl, none⟩,
  ⟨(some 25), (.call 8 [(.tmp 24)] [(.int .i64), (.int .i64), .agg]), .any, none⟩,
  ⟨(some 23), (.mv (.tmp 25)), .any, none⟩,
  ⟨(some 26), (.ext 0 (.tmp 23)), (.int .i64), none⟩,
  ⟨(some 27), (.ext 1 (.tmp 23)), (.int .i64), none⟩,
  ⟨(some 28), (.ext 2 (.tmp 23)), .agg, none⟩,
  ⟨(some 9), (.alloc 29), .ptr, none⟩,
  ⟨(some 7), (.mv (.tmp 26)), (.int .i64), none⟩,
  ⟨(some 8), (.mv (.tmp 27)), (.int .i64), none⟩,
  ⟨none, (.stN 3 (.tmp 9) (.tmp 28)), .any, none⟩] [4, 7, 5, 8, 6, 9, 3, 0])
 (.seq (.draw (.take 0 ⟨(some 29), (.mv (.tmp 4)), (.int .i64), none⟩
  (.take 1 ⟨(some 30), (.mv (.tmp 7)), (.int .i64), none⟩
  (.take 2 ⟨(some 31), (.bin .eql (.tmp 29) (.tmp 30)), .bool, none⟩
  (.take 3 ⟨(some 32), (.mv (.tmp 31)), .bool, none⟩
  (.take 4 ⟨(some 33), (.mv (.tmp 5)), (.int .i64), (some (32, true))⟩
  (.take 5 ⟨(some 34), (.mv (.tmp 8)), (.int .i64), (some (32, true))⟩
  (.take 6 ⟨(some 35), (.bin .eql (.tmp 33) (.tmp 34)), .bool, (some (32, true))⟩
  (.take 7 ⟨(some 36), (.pick (.tmp 32) (.tmp 35) (.const (.bool false))), .bool, none⟩
  (.take 8 ⟨(some 37), (.mv (.tmp 36)), .bool, none⟩
  (.take 9 ⟨(some 38), (.mv (.tmp 6)), .any, (some (37, true))⟩
  (.take 11 ⟨(some 40), (.ldN 3 (.tmp 9)), .agg, (some (37, true))⟩
  (.go 10 ⟨(some 39), (.call 9 [(.tmp 38)] [.agg]), .agg, (some (37, true))⟩ [(11, ⟨(some 40), (.ldN 3 (.tmp 9)), .agg, (some (37, true))⟩)]
  (.take 12 ⟨(some 41), (.eqG .eql 29 (.tmp 39) (.tmp 40)), .bool, (some (37, true))⟩
  (.take 13 ⟨(some 42), (.pick (.tmp 37) (.tmp 41) (.const (.bool false))), .bool, none⟩
  (.take 14 ⟨(some 43), (.mv (.tmp 42)), .bool, none⟩
  (.take 15 ⟨(some 44), (.mv (.tmp 3)), .sl, (some (43, true))⟩
  (.take 16 ⟨(some 45), (.mv (.tmp 0)), .sl, (some (43, true))⟩
  (.alt (.go 17 ⟨(some 46), (.call 6 [(.tmp 45)] [.sl]), .sl, (some (43, true))⟩ []
  (.go 18 ⟨(some 47), (.bldS 5 1 1 [(0, (.const (.int .u8 5)))]), .sl, (some (43, true))⟩ []
  (.go 19 ⟨(some 48), (.app #[22, 22] 22 (.tmp 46) (.tmp 47)), .sl, (some (43, true))⟩ []
  (.go 20 ⟨(some 49), (.call 10 [(.tmp 44), (.tmp 48)] [.bool]), .bool, (some (43, true))⟩ []
  (.take 21 ⟨(some 50), (.pick (.tmp 43) (.tmp 49) (.const (.bool false))), .bool, none⟩
  (.take 22 ⟨(some 2), (.mv (.tmp 50)), .bool, none⟩
  .done))))))
 (.go 18 ⟨(some 47), (.bldS 5 1 1 [(0, (.const (.int .u8 5)))]), .sl, (some (43, true))⟩ []
  (.go 17 ⟨(some 46), (.call 6 [(.tmp 45)] [.sl]), .sl, (some (43, true))⟩ []
  (.go 19 ⟨(some 48), (.app #[22, 22] 22 (.tmp 46) (.tmp 47)), .sl, (some (43, true))⟩ []
  (.go 20 ⟨(some 49), (.call 10 [(.tmp 44), (.tmp 48)] [.bool]), .bool, (some (43, true))⟩ []
  (.take 21 ⟨(some 50), (.pick (.tmp 43) (.tmp 49) (.const (.bool false))), .bool, none⟩
  (.take 22 ⟨(some 2), (.mv (.tmp 50)), .bool, none⟩
  .done)))))))))))))))))))))))) [2])
 .ret)))))
def r3 : List Res := [.t 2]
theorem tr3 : trS Tryd.prog 51 (Tryd.f3.body.getD .skip) s3 = some s3 := by kernel_rfl
theorem den3 (args : List Value) (w : World) (R : Ending → World → Prop) (hn : args.length ≤ 51) (h : denS Tryd.prog s3 (argsEnv 0 args) w (endK r3 R)) : Calls Tryd.prog 3 args.toArray w R :=
  calls_of_den (fn := Tryd.f3) (c := Tryd.f3.body.getD .skip) Tryd.func3 (by kernel_rfl) (by rw [Tryd.ntmps3]; exact hn) (by rw [Tryd.ntmps3]; exact tr3) (by kernel_rfl) h
def d3 (data0 : Option Addr) (data0n : Nat) (data0c : Nat) (w : World) (R : Ending → World → Prop) : Prop :=
 Calls Tryd.prog 6 #[(.slice data0 data0n data0c)] w fun e1 w2 => ∃ (x3 : Option Addr) (x3n : Nat) (x3c : Nat), e1 = .returned (.slice x3 x3n x3c) ∧
 ∃ cs4, fillL (.elems 1) (zrep (zc Tryd.prog 5) (1 * 1)) [(0, (.int .u8 5))] = some cs4 ∧
 ∀ w5 : World, w5 = World.alloc w2 (.cells (List.toArray cs4) 5) →
 RunV Tryd.prog (Builtin.append_ #[22, 22] 22 #[(.slice x3 x3n x3c), (.slice (some ⟨World.heap w2 |>.size, 0, none⟩) 1 1)]) w5 fun v6 w7 => ∃ (x8 : Option Addr) (x8n : Nat) (x8c : Nat), v6 = (.slice x8 x8n x8c) ∧
 0 ≤ ((data0n : Nat) : Int) ∧ ((data0n : Nat) : Int) ≤ ((x8c : Nat) : Int) ∧ Calls Tryd.prog 7 #[(.slice (if x8c = 0 then x8 else Option.map (fun y => Addr.add y (0 * 1)) x8) ((Int.toNat ((data0n : Nat) : Int)) - 0) (x8c - 0))] w7 fun e9 w10 => ∃ x11 : Int, ∃ x12 : Int, ∃ x13 : Value, e9 = .returned (.tuple #[(.int .i64 x11), (.int .i64 x12), x13]) ∧
 ∃ x14 : Int, (#[(.int .i64 x11), (.int .i64 x12), x13] : Array Value)[0]? = some (.int .i64 x14) ∧
 ∃ x15 : Int, (#[(.int .i64 x11), (.int .i64 x12), x13] : Array Value)[1]? = some (.int .i64 x15) ∧
 ∃ x16 : Value, (#[(.int .i64 x11), (.int .i64 x12), x13] : Array Value)[2]? = some x16 ∧
 Calls Tryd.prog 8 #[(.slice data0 data0n data0c)] w10 fun e17 w18 => ∃ x19 : Int, ∃ x20 : Int, ∃ x21 : Array Value, e17 = .returned (.tuple #[(.int .i64 x19), (.int .i64 x20), (.agg x21)]) ∧
 ∃ x22 : Int, (#[(.int .i64 x19), (.int .i64 x20), (.agg x21)] : Array Value)[0]? = some (.int .i64 x22) ∧
 ∃ x23 : Int, (#[(.int .i64 x19), (.int .i64 x20), (.agg x21)] : Array Value)[1]? = some (.int .i64 x23) ∧
 ∃ x24 : Array Value, (#[(.int .i64 x19), (.int .i64 x20), (.agg x21)] : Array Value)[2]? = some (.agg x24) ∧
 ∀ w25 : World, w25 = World.alloc w18 (.cells (zc Tryd.prog 29).toArray 29) →
 Array.size x24 = 3 ∧ (∀ u ∈ Array.toList x24, one u = true) ∧ Room w25 ⟨World.heap w18 |>.size, 0, none⟩ 3 ∧
 ∀ w26 : World, w26 = setCells w25 ⟨World.heap w18 |>.size, 0, none⟩ (Array.toList x24) 0 →
 ∀ w27 : World, w27 = World.drew w26 →
 (bif (decide (x14 = x22)) then
 ((bif (decide (x15 = x23)) then
 (∃ cs28 : List Value, List.length cs28 = 3 ∧ Cells w27 ⟨World.heap w18 |>.size, 0, none⟩ cs28 ∧
 Calls Tryd.prog 9 #[x16] w27 fun e29 w30 => ∃ x31 : Array Value, e29 = .returned (.agg x31) ∧
 (∃ cs32 : List Value, List.length cs32 = 3 ∧ Cells w30 ⟨World.heap w18 |>.size, 0, none⟩ cs32 ∧
 (((.agg (List.toArray cs32)) : Value) = (.agg (List.toArray cs28)) ∧ w30 = w30)) ∧
 ∃ q33 : Bool, Sem.run Tryd.prog (do eqGuard .eql 29 (.tmp 39) (.tmp 40) (.agg x31) (.agg (List.toArray cs28)); binOp .eql 29 (.agg x31) (.agg (List.toArray cs28))) w30 = .ok (.bool q33) w30 ∧
 (bif q33 then
 ((Calls Tryd.prog 6 #[(.slice data0 data0n data0c)] w30 fun e34 w35 => ∃ (x36 : Option Addr) (x36n : Nat) (x36c : Nat), e34 = .returned (.slice x36 x36n x36c) ∧
 ∃ cs37, fillL (.elems 1) (zrep (zc Tryd.prog 5) (1 * 1)) [(0, (.int .u8 5))] = some cs37 ∧
 ∀ w38 : World, w38 = World.alloc w35 (.cells (List.toArray cs37) 5) →
 RunV Tryd.prog (Builtin.append_ #[22, 22] 22 #[(.slice x36 x36n x36c), (.slice (some ⟨World.heap w35 |>.size, 0, none⟩) 1 1)]) w38 fun v39 w40 => ∃ (x41 : Option Addr) (x41n : Nat) (x41c : Nat), v39 = (.slice x41 x41n x41c) ∧
 Calls Tryd.prog 10 #[(.slice x8 x8n x8c), (.slice x41 x41n x41c)] w40 fun e42 w43 => ∃ x44 : Bool, e42 = .returned (.bool x44) ∧
 R (.returned (.bool x44)) w43) ∧
 (∃ cs45, fillL (.elems 1) (zrep (zc Tryd.prog 5) (1 * 1)) [(0, (.int .u8 5))] = some cs45 ∧
 ∀ w46 : World, w46 = World.alloc w30 (.cells (List.toArray cs45) 5) →
 Calls Tryd.prog 6 #[(.slice data0 data0n data0c)] w46 fun e47 w48 => ∃ (x49 : Option Addr) (x49n : Nat) (x49c : Nat), e47 = .returned (.slice x49 x49n x49c) ∧
 RunV Tryd.prog (Builtin.append_ #[22, 22] 22 #[(.slice x49 x49n x49c), (.slice (some ⟨World.heap w30 |>.size, 0, none⟩) 1 1)]) w48 fun v50 w51 => ∃ (x52 : Option Addr) (x52n : Nat) (x52c : Nat), v50 = (.slice x52 x52n x52c) ∧
 Calls Tryd.prog 10 #[(.slice x8 x8n x8c), (.slice x52 x52n x52c)] w51 fun e53 w54 => ∃ x55 : Bool, e53 = .returned (.bool x55) ∧
 R (.returned (.bool x55)) w54))
 else
 ((R (.returned (.bool false)) w30) ∧
 (R (.returned (.bool false)) w30))))
 else
 ((True) ∧
 (R (.returned (.bool false)) w27) ∧
 (R (.returned (.bool false)) w27))))
 else
 ((True) ∧
 (R (.returned (.bool false)) w27) ∧
 (R (.returned (.bool false)) w27)))
theorem e3 (data0 : Option Addr) (data0n : Nat) (data0c : Nat) (w : World) (R : Ending → World → Prop) : denS Tryd.prog s3 (argsEnv 0 [(.slice data0 data0n data0c)]) w (endK r3 R) = d3 data0 data0n data0c w R := by kernel_rfl
theorem c3 (data0 : Option Addr) (data0n : Nat) (data0c : Nat) {w : World} {R : Ending → World → Prop} (h : d3 data0 data0n data0c w R) : Calls Tryd.prog 3 #[(.slice data0 data0n data0c)] w R :=
  den3 [(.slice data0 data0n data0c)] w R (by simp) ((e3 data0 data0n data0c w R).symm ▸ h)

/-- prelude/preludelaw17.copied -/
def s6 : S := (.seq (.ops [⟨(some 2), (.mv (.const (.slice none 0 0))), .sl, none⟩] [0])
 (.seq (.ops [⟨(some 4), (.mv (.tmp 0)), .sl, none⟩,
  ⟨(some 5), (.len (.tmp 4)), (.int .i64), none⟩,
  ⟨(some 6), (.mk 22 (.tmp 5) (.tmp 5)), .sl, none⟩,
  ⟨(some 3), (.mv (.tmp 6)), .sl, none⟩] [3, 0])
 (.seq (.ops [⟨(some 7), (.mv (.tmp 3)), .sl, none⟩,
  ⟨(some 8), (.mv (.tmp 0)), .sl, none⟩,
  ⟨(some 9), (.cpy #[22, 22] 3 (.tmp 7) (.tmp 8)), (.int .i64), none⟩] [3])
 (.seq (.ops [⟨(some 10), (.mv (.tmp 3)), .sl, none⟩,
  ⟨(some 2), (.mv (.tmp 10)), .sl, none⟩] [2])
 .ret))))
def r6 : List Res := [.t 2]
theorem tr6 : trS Tryd.prog 11 (Tryd.f6.body.getD .skip) s6 = some s6 := by kernel_rfl
theorem den6 (args : List Value) (w : World) (R : Ending → World → Prop) (hn : args.length ≤ 11) (h : denS Tryd.prog s6 (argsEnv 0 args) w (endK r6 R)) : Calls Tryd.prog 6 args.toArray w R :=
  calls_of_den (fn := Tryd.f6) (c := Tryd.f6.body.getD .skip) Tryd.func6 (by kernel_rfl) (by rw [Tryd.ntmps6]; exact hn) (by rw [Tryd.ntmps6]; exact tr6) (by kernel_rfl) h
def d6 (b0 : Option Addr) (b0n : Nat) (b0c : Nat) (w : World) (R : Ending → World → Prop) : Prop :=
 RunV Tryd.prog (Instr.makeSlice 22 (.int .i64 ((b0n : Nat) : Int)) (.int .i64 ((b0n : Nat) : Int))) w fun v1 w2 => ∃ (x3 : Option Addr) (x3n : Nat) (x3c : Nat), v1 = (.slice x3 x3n x3c) ∧
 RunV Tryd.prog (Builtin.copy_ #[22, 22] 3 #[(.slice x3 x3n x3c), (.slice b0 b0n b0c)]) w2 fun v4 w5 => ∃ x6 : Int, v4 = (.int .i64 x6) ∧
 R (.returned (.slice x3 x3n x3c)) w5
theorem e6 (b0 : Option Addr) (b0n : Nat) (b0c : Nat) (w : World) (R : Ending → World → Prop) : denS Tryd.prog s6 (argsEnv 0 [(.slice b0 b0n b0c)]) w (endK r6 R) = d6 b0 b0n b0c w R := by kernel_rfl
theorem c6 (b0 : Option Addr) (b0n : Nat) (b0c : Nat) {w : World} {R : Ending → World → Prop} (h : d6 b0 b0n b0c w R) : Calls Tryd.prog 6 #[(.slice b0 b0n b0c)] w R :=
  den6 [(.slice b0 b0n b0c)] w R (by simp) ((e6 b0 b0n b0c w R).symm ▸ h)

/-- prelude/preludelaw17.same -/
def s10 : S := (.seq (.ops [⟨(some 4), (.mv (.const (.bool false))), .bool, none⟩] [0, 1])
 (.seq (.seq (.ops [⟨(some 6), (.mv (.tmp 0)), .sl, none⟩,
  ⟨(some 7), (.len (.tmp 6)), (.int .i64), none⟩,
  ⟨(some 8), (.mv (.tmp 1)), .sl, none⟩,
  ⟨(some 9), (.len (.tmp 8)), (.int .i64), none⟩,
  ⟨(some 10), (.bin .neq (.tmp 7) (.tmp 9)), .bool, none⟩] [10, 0, 1])
 (.cond (.tmp 10)
 (.seq (.ops [⟨(some 4), (.mv (.const (.bool false))), .bool, none⟩] [4])
 .ret)
 .skip))
 (.seq (.seq (.ops [⟨(some 5), (.mv (.const (.int .i64 0))), (.int .i64), none⟩] [5, 0, 1])
 (.block 0
 (.loop [(5, (.int .i64))] [0, 1]
 (.seq (.seq (.ops [⟨(some 11), (.mv (.tmp 5)), (.int .i64), none⟩,
  ⟨(some 12), (.mv (.tmp 0)), .sl, none⟩,
  ⟨(some 13), (.len (.tmp 12)), (.int .i64), none⟩,
  ⟨(some 14), (.bin .lss (.tmp 11) (.tmp 13)), .bool, none⟩] [14, 0, 5, 1])
 (.cond (.tmp 14)
 .skip
 (.exit 0)))
 (.seq (.block 1
 (.seq (.draw (.take 0 ⟨(some 17), (.mv (.tmp 0)), .sl, none⟩
  (.take 1 ⟨(some 18), (.mv (.tmp 5)), (.int .i64), none⟩
  (.take 2 ⟨(some 19), (.ia 1 (.tmp 17) (.tmp 18)), .ptr, none⟩
  (.take 3 ⟨(some 20), (.ld1 (.tmp 19)), (.int .u8), none⟩
  (.take 4 ⟨(some 21), (.mv (.tmp 1)), .sl, none⟩
  (.take 5 ⟨(some 22), (.mv (.tmp 5)), (.int .i64), none⟩
  (.take 6 ⟨(some 23), (.ia 1 (.tmp 21) (.tmp 22)), .ptr, none⟩
  (.take 7 ⟨(some 24), (.ld1 (.tmp 23)), (.int .u8), none⟩
  (.take 8 ⟨(some 25), (.bin .neq (.tmp 20) (.tmp 24)), .bool, none⟩
  .done))))))))) [25, 5, 0, 1])
 (.cond (.tmp 25)
 (.seq (.ops [⟨(some 4), (.mv (.const (.bool false))), .bool, none⟩] [4])
 .ret)
 .skip)))
 (.ops [⟨(some 15), (.mv (.tmp 5)), (.int .i64), none⟩,
  ⟨(some 16), (.bin .add (.tmp 15) (.const (.int .i64 1))), (.int .i64), none⟩,
  ⟨(some 5), (.mv (.tmp 16)), (.int .i64), none⟩] [5, 0, 1]))))))
 (.seq (.ops [⟨(some 4), (.mv (.const (.bool true))), .bool, none⟩] [4])
 .ret))))
def r10 : List Res := [.t 4]
theorem tr10 : trS Tryd.prog 26 (Tryd.f10.body.getD .skip) s10 = some s10 := by kernel_rfl
theorem den10 (args : List Value) (w : World) (R : Ending → World → Prop) (hn : args.length ≤ 26) (h : denS Tryd.prog s10 (argsEnv 0 args) w (endK r10 R)) : Calls Tryd.prog 10 args.toArray w R :=
  calls_of_den (fn := Tryd.f10) (c := Tryd.f10.body.getD .skip) Tryd.func10 (by kernel_rfl) (by rw [Tryd.ntmps10]; exact hn) (by rw [Tryd.ntmps10]; exact tr10) (by kernel_rfl) h
def d10 (a0 : Option Addr) (a0n : Nat) (a0c : Nat) (b1 : Option Addr) (b1n : Nat) (b1c : Nat) (w : World) (R : Ending → World → Prop) : Prop :=
 (bif (!decide (((a0n : Nat) : Int) = ((b1n : Nat) : Int))) then
 (R (.returned (.bool false)) w)
 else
 (∃ I2 : Nat → Int → World → Prop,
 (∃ m, I2 m 0 w) ∧
 (∀ (m3 : Nat) (w4 : World) (i5 : Int), I2 m3 i5 w4 →
 (bif (decide (i5 < ((a0n : Nat) : Int))) then
 (∀ w6 : World, w6 = World.drew w4 →
 0 ≤ i5 ∧ i5 < ((a0n : Nat) : Int) ∧ optK a0 fun a7 =>
 ∃ x8 : Int, World.cell? w6 (Addr.add a7 (Int.toNat i5 * 1)) = some (.int .u8 x8) ∧
 0 ≤ i5 ∧ i5 < ((b1n : Nat) : Int) ∧ optK b1 fun a9 =>
 ∃ x10 : Int, World.cell? w6 (Addr.add a9 (Int.toNat i5 * 1)) = some (.int .u8 x10) ∧
 (bif (!decide (x8 = x10)) then
 (R (.returned (.bool false)) w6)
 else
 (∃ m11, m11 < m3 ∧ I2 m11 (IntKind.wrap .i64 (i5 + 1)) w6)))
 else
 (R (.returned (.bool true)) w4)))))
theorem e10 (a0 : Option Addr) (a0n : Nat) (a0c : Nat) (b1 : Option Addr) (b1n : Nat) (b1c : Nat) (w : World) (R : Ending → World → Prop) : denS Tryd.prog s10 (argsEnv 0 [(.slice a0 a0n a0c), (.slice b1 b1n b1c)]) w (endK r10 R) = d10 a0 a0n a0c b1 b1n b1c w R := by kernel_rfl
theorem c10 (a0 : Option Addr) (a0n : Nat) (a0c : Nat) (b1 : Option Addr) (b1n : Nat) (b1c : Nat) {w : World} {R : Ending → World → Prop} (h : d10 a0 a0n a0c b1 b1n b1c w R) : Calls Tryd.prog 10 #[(.slice a0 a0n a0c), (.slice b1 b1n b1c)] w R :=
  den10 [(.slice a0 a0n a0c), (.slice b1 b1n b1c)] w R (by simp) ((e10 a0 a0n a0c b1 b1n b1c w R).symm ▸ h)

/-- prelude/journal.Scan -/
def s7 : S := (.seq (.ops [⟨(some 2), (.mv (.const (.int .i64 0))), (.int .i64), none⟩,
  ⟨(some 3), (.mv (.const (.int .i64 0))), (.int .i64), none⟩,
  ⟨(some 4), (.mv (.const .nilIface)), .any, none⟩] [0])
 (.seq (.ops [⟨(some 5), (.mv (.const (.int .i64 0))), (.int .i64), none⟩,
  ⟨(some 6), (.mv (.const (.int .i64 0))), (.int .i64), none⟩] [6, 0, 5])
 (.seq (.block 0
 (.loop [(5, (.int .i64)), (6, (.int .i64))] [0]
 (.seq (.seq (.ops [⟨(some 11), (.mv (.tmp 6)), (.int .i64), none⟩,
  ⟨(some 12), (.mv (.tmp 0)), .sl, none⟩,
  ⟨(some 13), (.len (.tmp 12)), (.int .i64), none⟩,
  ⟨(some 14), (.bin .lss (.tmp 11) (.tmp 13)), .bool, none⟩] [14, 0, 6, 5])
 (.cond (.tmp 14)
 .skip
 (.exit 0)))
 (.block 1
 (.seq (.ops [⟨(some 16), (.mv (.tmp 0)), .sl, none⟩,
  ⟨(some 17), (.mv (.tmp 6)), (.int .i64), none⟩,
  ⟨(some 18), (.call 25 [(.tmp 16), (.tmp 17)] [(.int .u8), .sl, (.int .i64), (.int .i64)]), .any, none⟩,
  ⟨(some 15), (.mv (.tmp 18)), .any, none⟩,
  ⟨(some 19), (.ext 0 (.tmp 15)), (.int .u8), none⟩,
  ⟨(some 20), (.ext 1 (.tmp 15)), .sl, none⟩,
  ⟨(some 21), (.ext 2 (.tmp 15)), (.int .i64), none⟩,
  ⟨(some 22), (.ext 3 (.tmp 15)), (.int .i64), none⟩,
  ⟨(some 7), (.mv (.tmp 19)), (.int .u8), none⟩,
  ⟨(some 8), (.mv (.tmp 20)), .sl, none⟩,
  ⟨(some 9), (.mv (.tmp 21)), (.int .i64), none⟩,
  ⟨(some 10), (.mv (.tmp 22)), (.int .i64), none⟩] [10, 5, 6, 9, 0])
 (.seq (.seq (.ops [⟨(some 23), (.mv (.tmp 10)), (.int .i64), none⟩,
  ⟨(some 24), (.bin .neq (.tmp 23) (.const (.int .i64 0))), .bool, none⟩] [24, 5, 6, 10, 9, 0])
 (.cond (.tmp 24)
 (.seq (.ops [⟨(some 25), (.mv (.tmp 5)), (.int .i64), none⟩,
  ⟨(some 26), (.mv (.tmp 6)), (.int .i64), none⟩,
  ⟨(some 27), (.mv (.tmp 6)), (.int .i64), none⟩,
  ⟨(some 28), (.mv (.tmp 10)), (.int .i64), none⟩,
  ⟨(some 29), (.mkI 40 (.tmp 28)), .any, none⟩,
  ⟨(some 30), (.bld 66 (.fields [(0, 1), (1, 1)]) [(0, (.tmp 27)), (1, (.tmp 29))]), .agg, none⟩,
  ⟨(some 31), (.box 66 (.tmp 30)), .ptr, none⟩,
  ⟨(some 32), (.mkI 64 (.tmp 31)), .any, none⟩,
  ⟨(some 2), (.mv (.tmp 25)), (.int .i64), none⟩,
  ⟨(some 3), (.mv (.tmp 26)), (.int .i64), none⟩,
  ⟨(some 4), (.mv (.tmp 32)), .any, none⟩] [2, 3, 4])
 .ret)
 .skip))
 (.seq (.ops [⟨(some 33), (.mv (.tmp 5)), (.int .i64), none⟩,
  ⟨(some 34), (.bin .add (.tmp 33) (.const (.int .i64 1))), (.int .i64), none⟩,
  ⟨(some 5), (.mv (.tmp 34)), (.int .i64), none⟩] [9, 0, 5])
 (.ops [⟨(some 35), (.mv (.tmp 9)), (.int .i64), none⟩,
  ⟨(some 6), (.mv (.tmp 35)), (.int .i64), none⟩] [6, 0, 5]))))))))
 (.seq (.ops [⟨(some 36), (.mv (.tmp 5)), (.int .i64), none⟩,
  ⟨(some 37), (.mv (.tmp 6)), (.int .i64), none⟩,
  ⟨(some 2), (.mv (.tmp 36)), (.int .i64), none⟩,
  ⟨(some 3), (.mv (.tmp 37)), (.int .i64), none⟩,
  ⟨(some 4), (.mv (.const .nilIface)), .any, none⟩] [2, 3, 4])
 .ret))))
def r7 : List Res := [.t 2, .t 3, .t 4]
theorem tr7 : trS Tryd.prog 38 (Tryd.f7.body.getD .skip) s7 = some s7 := by kernel_rfl
theorem den7 (args : List Value) (w : World) (R : Ending → World → Prop) (hn : args.length ≤ 38) (h : denS Tryd.prog s7 (argsEnv 0 args) w (endK r7 R)) : Calls Tryd.prog 7 args.toArray w R :=
  calls_of_den (fn := Tryd.f7) (c := Tryd.f7.body.getD .skip) Tryd.func7 (by kernel_rfl) (by rw [Tryd.ntmps7]; exact hn) (by rw [Tryd.ntmps7]; exact tr7) (by kernel_rfl) h
def d7 (data0 : Option Addr) (data0n : Nat) (data0c : Nat) (w : World) (R : Ending → World → Prop) : Prop :=
 ∃ I1 : Nat → Int → Int → World → Prop,
 (∃ m, I1 m 0 0 w) ∧
 (∀ (m2 : Nat) (w3 : World) (n4 : Int) (at5 : Int), I1 m2 n4 at5 w3 →
 (bif (decide (at5 < ((data0n : Nat) : Int))) then
 (Calls Tryd.prog 25 #[(.slice data0 data0n data0c), (.int .i64 at5)] w3 fun e6 w7 => ∃ x8 : Int, ∃ (x9 : Option Addr) (x9n : Nat) (x9c : Nat), ∃ x10 : Int, ∃ x11 : Int, e6 = .returned (.tuple #[(.int .u8 x8), (.slice x9 x9n x9c), (.int .i64 x10), (.int .i64 x11)]) ∧
 ∃ x12 : Int, (#[(.int .u8 x8), (.slice x9 x9n x9c), (.int .i64 x10), (.int .i64 x11)] : Array Value)[0]? = some (.int .u8 x12) ∧
 ∃ (x13 : Option Addr) (x13n : Nat) (x13c : Nat), (#[(.int .u8 x8), (.slice x9 x9n x9c), (.int .i64 x10), (.int .i64 x11)] : Array Value)[1]? = some (.slice x13 x13n x13c) ∧
 ∃ x14 : Int, (#[(.int .u8 x8), (.slice x9 x9n x9c), (.int .i64 x10), (.int .i64 x11)] : Array Value)[2]? = some (.int .i64 x14) ∧
 ∃ x15 : Int, (#[(.int .u8 x8), (.slice x9 x9n x9c), (.int .i64 x10), (.int .i64 x11)] : Array Value)[3]? = some (.int .i64 x15) ∧
 (bif (!decide (x15 = 0)) then
 (∃ cs16, fillL (.fields [(0, 1), (1, 1)]) (zc Tryd.prog 66) [(0, (.int .i64 at5)), (1, (.iface 40 (.int .i64 x15)))] = some cs16 ∧
 ∀ w17 : World, w17 = World.alloc w7 (.cells (List.toArray cs16) 66) →
 R (.returned (.tuple #[(.int .i64 n4), (.int .i64 at5), (.iface 64 (.pointer (some ⟨World.heap w7 |>.size, 0, none⟩)))])) w17)
 else
 (∃ m18, m18 < m2 ∧ I1 m18 (IntKind.wrap .i64 (n4 + 1)) x14 w7)))
 else
 (R (.returned (.tuple #[(.int .i64 n4), (.int .i64 at5), .nilIface])) w3)))
theorem e7 (data0 : Option Addr) (data0n : Nat) (data0c : Nat) (w : World) (R : Ending → World → Prop) : denS Tryd.prog s7 (argsEnv 0 [(.slice data0 data0n data0c)]) w (endK r7 R) = d7 data0 data0n data0c w R := by kernel_rfl
theorem c7 (data0 : Option Addr) (data0n : Nat) (data0c : Nat) {w : World} {R : Ending → World → Prop} (h : d7 data0 data0n data0c w R) : Calls Tryd.prog 7 #[(.slice data0 data0n data0c)] w R :=
  den7 [(.slice data0 data0n data0c)] w R (by simp) ((e7 data0 data0n data0c w R).symm ▸ h)

/-- prelude/preluderef17.Scan -/
def s8 : S := (.seq (.ops [⟨(some 2), (.mv (.const (.int .i64 0))), (.int .i64), none⟩,
  ⟨(some 3), (.mv (.const (.int .i64 0))), (.int .i64), none⟩,
  ⟨(some 4), (.alloc 29), .ptr, none⟩] [0, 4])
 (.seq (.ops [⟨(some 5), (.mv (.const (.int .i64 0))), (.int .i64), none⟩,
  ⟨(some 6), (.mv (.const (.int .i64 0))), (.int .i64), none⟩] [6, 0, 5, 4])
 (.seq (.block 0
 (.loop [(5, (.int .i64)), (6, (.int .i64))] [0, 4]
 (.seq (.seq (.ops [⟨(some 11), (.mv (.tmp 6)), (.int .i64), none⟩,
  ⟨(some 12), (.mv (.tmp 0)), .sl, none⟩,
  ⟨(some 13), (.len (.tmp 12)), (.int .i64), none⟩,
  ⟨(some 14), (.bin .lss (.tmp 11) (.tmp 13)), .bool, none⟩] [14, 0, 6, 5, 4])
 (.cond (.tmp 14)
 .skip
 (.exit 0)))
 (.block 1
 (.seq (.ops [⟨(some 16), (.mv (.tmp 0)), .sl, none⟩,
  ⟨(some 17), (.mv (.tmp 6)), (.int .i64), none⟩,
  ⟨(some 18), (.call 26 [(.tmp 16), (.tmp 17)] [(.int .u8), .sl, (.int .i64), (.int .i64)]), .any, none⟩,
  ⟨(some 15), (.mv (.tmp 18)), .any, none⟩,
  ⟨(some 19), (.ext 0 (.tmp 15)), (.int .u8), none⟩,
  ⟨(some 20), (.ext 1 (.tmp 15)), .sl, none⟩,
  ⟨(some 21), (.ext 2 (.tmp 15)), (.int .i64), none⟩,
  ⟨(some 22), (.ext 3 (.tmp 15)), (.int .i64), none⟩,
  ⟨(some 7), (.mv (.tmp 19)), (.int .u8), none⟩,
  ⟨(some 8), (.mv (.tmp 20)), .sl, none⟩,
  ⟨(some 9), (.mv (.tmp 21)), (.int .i64), none⟩,
  ⟨(some 10), (.mv (.tmp 22)), (.int .i64), none⟩] [10, 5, 6, 4, 9, 0])
 (.seq (.seq (.ops [⟨(some 23), (.mv (.tmp 10)), (.int .i64), none⟩,
  ⟨(some 24), (.bin .neq (.tmp 23) (.const (.int .i64 0))), .bool, none⟩] [24, 5, 6, 10, 4, 9, 0])
 (.cond (.tmp 24)
 (.seq (.ops [⟨(some 25), (.mv (.tmp 5)), (.int .i64), none⟩,
  ⟨(some 26), (.mv (.tmp 6)), (.int .i64), none⟩,
  ⟨(some 27), (.mv (.tmp 6)), (.int .i64), none⟩,
  ⟨(some 28), (.mv (.tmp 10)), (.int .i64), none⟩,
  ⟨(some 29), (.bld 29 (.fields [(0, 1), (1, 1), (2, 1)]) [(0, (.const (.int .i64 2))), (1, (.tmp 27)), (2, (.tmp 28))]), .agg, none⟩,
  ⟨(some 2), (.mv (.tmp 25)), (.int .i64), none⟩,
  ⟨(some 3), (.mv (.tmp 26)), (.int .i64), none⟩,
  ⟨none, (.stN 3 (.tmp 4) (.tmp 29)), .any, none⟩] [2, 3, 4])
 .ret)
 .skip))
 (.seq (.ops [⟨(some 30), (.mv (.tmp 5)), (.int .i64), none⟩,
  ⟨(some 31), (.bin .add (.tmp 30) (.const (.int .i64 1))), (.int .i64), none⟩,
  ⟨(some 5), (.mv (.tmp 31)), (.int .i64), none⟩] [9, 0, 5, 4])
 (.ops [⟨(some 32), (.mv (.tmp 9)), (.int .i64), none⟩,
  ⟨(some 6), (.mv (.tmp 32)), (.int .i64), none⟩] [6, 0, 5, 4]))))))))
 (.seq (.ops [⟨(some 33), (.mv (.tmp 5)), (.int .i64), none⟩,
  ⟨(some 34), (.mv (.tmp 6)), (.int .i64), none⟩,
  ⟨(some 35), (.bld 29 (.fields [(0, 1), (1, 1), (2, 1)]) []), .agg, none⟩,
  ⟨(some 2), (.mv (.tmp 33)), (.int .i64), none⟩,
  ⟨(some 3), (.mv (.tmp 34)), (.int .i64), none⟩,
  ⟨none, (.stN 3 (.tmp 4) (.tmp 35)), .any, none⟩] [2, 3, 4])
 .ret))))
def r8 : List Res := [.t 2, .t 3, .cN 4 3]
theorem tr8 : trS Tryd.prog 36 (Tryd.f8.body.getD .skip) s8 = some s8 := by kernel_rfl
theorem den8 (args : List Value) (w : World) (R : Ending → World → Prop) (hn : args.length ≤ 36) (h : denS Tryd.prog s8 (argsEnv 0 args) w (endK r8 R)) : Calls Tryd.prog 8 args.toArray w R :=
  calls_of_den (fn := Tryd.f8) (c := Tryd.f8.body.getD .skip) Tryd.func8 (by kernel_rfl) (by rw [Tryd.ntmps8]; exact hn) (by rw [Tryd.ntmps8]; exact tr8) (by kernel_rfl) h
def d8 (data0 : Option Addr) (data0n : Nat) (data0c : Nat) (w : World) (R : Ending → World → Prop) : Prop :=
 ∀ w1 : World, w1 = World.alloc w (.cells (zc Tryd.prog 29).toArray 29) →
 ∃ I2 : Nat → Int → Int → World → Prop,
 (∃ m, I2 m 0 0 w1) ∧
 (∀ (m3 : Nat) (w4 : World) (n5 : Int) (at6 : Int), I2 m3 n5 at6 w4 →
 (bif (decide (at6 < ((data0n : Nat) : Int))) then
 (Calls Tryd.prog 26 #[(.slice data0 data0n data0c), (.int .i64 at6)] w4 fun e7 w8 => ∃ x9 : Int, ∃ (x10 : Option Addr) (x10n : Nat) (x10c : Nat), ∃ x11 : Int, ∃ x12 : Int, e7 = .returned (.tuple #[(.int .u8 x9), (.slice x10 x10n x10c), (.int .i64 x11), (.int .i64 x12)]) ∧
 ∃ x13 : Int, (#[(.int .u8 x9), (.slice x10 x10n x10c), (.int .i64 x11), (.int .i64 x12)] : Array Value)[0]? = some (.int .u8 x13) ∧
 ∃ (x14 : Option Addr) (x14n : Nat) (x14c : Nat), (#[(.int .u8 x9), (.slice x10 x10n x10c), (.int .i64 x11), (.int .i64 x12)] : Array Value)[1]? = some (.slice x14 x14n x14c) ∧
 ∃ x15 : Int, (#[(.int .u8 x9), (.slice x10 x10n x10c), (.int .i64 x11), (.int .i64 x12)] : Array Value)[2]? = some (.int .i64 x15) ∧
 ∃ x16 : Int, (#[(.int .u8 x9), (.slice x10 x10n x10c), (.int .i64 x11), (.int .i64 x12)] : Array Value)[3]? = some (.int .i64 x16) ∧
 (bif (!decide (x16 = 0)) then
 (∃ cs17, fillL (.fields [(0, 1), (1, 1), (2, 1)]) (zc Tryd.prog 29) [(0, (.int .i64 2)), (1, (.int .i64 at6)), (2, (.int .i64 x16))] = some cs17 ∧
 Array.size (List.toArray cs17) = 3 ∧ (∀ u ∈ Array.toList (List.toArray cs17), one u = true) ∧ Room w8 ⟨World.heap w |>.size, 0, none⟩ 3 ∧
 ∀ w18 : World, w18 = setCells w8 ⟨World.heap w |>.size, 0, none⟩ (Array.toList (List.toArray cs17)) 0 →
 ∃ cs19 : List Value, List.length cs19 = 3 ∧ Cells w18 ⟨World.heap w |>.size, 0, none⟩ cs19 ∧
 R (.returned (.tuple #[(.int .i64 n5), (.int .i64 at6), (.agg (List.toArray cs19))])) w18)
 else
 (∃ m20, m20 < m3 ∧ I2 m20 (IntKind.wrap .i64 (n5 + 1)) x15 w8)))
 else
 (∃ cs21, fillL (.fields [(0, 1), (1, 1), (2, 1)]) (zc Tryd.prog 29) [] = some cs21 ∧
 Array.size (List.toArray cs21) = 3 ∧ (∀ u ∈ Array.toList (List.toArray cs21), one u = true) ∧ Room w4 ⟨World.heap w |>.size, 0, none⟩ 3 ∧
 ∀ w22 : World, w22 = setCells w4 ⟨World.heap w |>.size, 0, none⟩ (Array.toList (List.toArray cs21)) 0 →
 ∃ cs23 : List Value, List.length cs23 = 3 ∧ Cells w22 ⟨World.heap w |>.size, 0, none⟩ cs23 ∧
 R (.returned (.tuple #[(.int .i64 n5), (.int .i64 at6), (.agg (List.toArray cs23))])) w22)))
theorem e8 (data0 : Option Addr) (data0n : Nat) (data0c : Nat) (w : World) (R : Ending → World → Prop) : denS Tryd.prog s8 (argsEnv 0 [(.slice data0 data0n data0c)]) w (endK r8 R) = d8 data0 data0n data0c w R := by kernel_rfl
theorem c8 (data0 : Option Addr) (data0n : Nat) (data0c : Nat) {w : World} {R : Ending → World → Prop} (h : d8 data0 data0n data0c w R) : Calls Tryd.prog 8 #[(.slice data0 data0n data0c)] w R :=
  den8 [(.slice data0 data0n data0c)] w R (by simp) ((e8 data0 data0n data0c w R).symm ▸ h)

/-- prelude/preludelaw15.Seen -/
def s9 : S := (.seq (.ops [⟨(some 2), (.alloc 29), .ptr, none⟩] [0, 2])
 (.seq (.seq (.ops [⟨(some 7), (.mv (.tmp 0)), .any, none⟩] [7, 2])
 (.block 0
 (.seq (.ops [⟨(some 8), (.nilEq false 4 (.tmp 7)), .bool, none⟩] [8, 7, 2])
 (.cond (.tmp 8)
 (.seq (.ops [⟨(some 3), (.mv (.tmp 7)), .any, none⟩] [2])
 (.seq (.ops [⟨(some 9), (.bld 29 (.fields [(0, 1), (1, 1), (2, 1)]) []), .agg, none⟩,
  ⟨none, (.stN 3 (.tmp 2) (.tmp 9)), .any, none⟩] [2])
 .ret))
 (.seq (.ops [⟨(some 10), (.rv (.asrt 25 40 true) [(.tmp 7)]), .any, none⟩,
  ⟨(some 11), (.ext 1 (.tmp 10)), .bool, none⟩,
  ⟨(some 12), (.ext 0 (.tmp 10)), (.int .i64), none⟩] [11, 12, 2, 7])
 (.cond (.tmp 11)
 (.seq (.ops [⟨(some 4), (.mv (.tmp 12)), (.int .i64), none⟩] [4, 2])
 (.seq (.ops [⟨(some 13), (.mv (.tmp 4)), (.int .i64), none⟩,
  ⟨(some 14), (.bld 29 (.fields [(0, 1), (1, 1), (2, 1)]) [(0, (.const (.int .i64 1))), (2, (.tmp 13))]), .agg, none⟩,
  ⟨none, (.stN 3 (.tmp 2) (.tmp 14)), .any, none⟩] [2])
 .ret))
 (.seq (.ops [⟨(some 15), (.rv (.asrt 25 64 true) [(.tmp 7)]), .any, none⟩,
  ⟨(some 16), (.ext 1 (.tmp 15)), .bool, none⟩,
  ⟨(some 17), (.ext 0 (.tmp 15)), .ptr, none⟩] [16, 17, 2, 7])
 (.cond (.tmp 16)
 (.seq (.ops [⟨(some 5), (.mv (.tmp 17)), .ptr, none⟩] [5, 2])
 (.seq (.ops [⟨(some 18), (.mv (.tmp 5)), .ptr, none⟩,
  ⟨(some 19), (.nilEq true 1 (.tmp 18)), .bool, none⟩] [19, 5, 2])
 (.cond (.tmp 19)
 (.seq (.draw (.take 0 ⟨(some 20), (.mv (.tmp 5)), .ptr, none⟩
  (.take 1 ⟨(some 21), (.nc (.tmp 20)), .any, none⟩
  (.take 2 ⟨(some 22), (.fa 0 (.tmp 21)), .ptr, none⟩
  (.take 3 ⟨(some 23), (.ld1 (.tmp 22)), (.int .i64), none⟩
  (.take 4 ⟨(some 24), (.mv (.tmp 5)), .ptr, none⟩
  (.take 5 ⟨(some 25), (.nc (.tmp 24)), .any, none⟩
  (.take 6 ⟨(some 26), (.fa 1 (.tmp 25)), .ptr, none⟩
  (.take 7 ⟨(some 27), (.ld1 (.tmp 26)), .any, none⟩
  (.go 8 ⟨(some 28), (.call 27 [(.tmp 27)] [(.int .i64)]), (.int .i64), none⟩ [(3, ⟨(some 23), (.ld1 (.tmp 22)), (.int .i64), none⟩)]
  (.take 9 ⟨(some 29), (.bld 29 (.fields [(0, 1), (1, 1), (2, 1)]) [(0, (.const (.int .i64 2))), (1, (.tmp 23)), (2, (.tmp 28))]), .agg, none⟩
  (.go 10 ⟨none, (.stN 3 (.tmp 2) (.tmp 29)), .any, none⟩ []
  .done))))))))))) [2])
 .ret)
 .skip)))
 (.seq (.ops [⟨(some 30), (.rv (.asrt 25 70 true) [(.tmp 7)]), .any, none⟩,
  ⟨(some 31), (.ext 1 (.tmp 30)), .bool, none⟩,
  ⟨(some 32), (.ext 0 (.tmp 30)), .ptr, none⟩] [31, 32, 2])
 (.cond (.tmp 31)
 (.seq (.ops [⟨(some 6), (.mv (.tmp 32)), .ptr, none⟩] [6, 2])
 (.seq (.ops [⟨(some 33), (.mv (.tmp 6)), .ptr, none⟩,
  ⟨(some 34), (.nilEq true 1 (.tmp 33)), .bool, none⟩] [34, 6, 2])
 (.cond (.tmp 34)
 (.seq (.draw (.take 0 ⟨(some 35), (.mv (.tmp 6)), .ptr, none⟩
  (.take 1 ⟨(some 36), (.nc (.tmp 35)), .any, none⟩
  (.take 2 ⟨(some 37), (.fa 0 (.tmp 36)), .ptr, none⟩
  (.take 3 ⟨(some 38), (.ld1 (.tmp 37)), (.int .i64), none⟩
  (.take 4 ⟨(some 39), (.mv (.tmp 6)), .ptr, none⟩
  (.take 5 ⟨(some 40), (.nc (.tmp 39)), .any, none⟩
  (.take 6 ⟨(some 41), (.fa 1 (.tmp 40)), .ptr, none⟩
  (.take 7 ⟨(some 42), (.ld1 (.tmp 41)), .any, none⟩
  (.go 8 ⟨(some 43), (.call 27 [(.tmp 42)] [(.int .i64)]), (.int .i64), none⟩ [(3, ⟨(some 38), (.ld1 (.tmp 37)), (.int .i64), none⟩)]
  (.take 9 ⟨(some 44), (.bld 29 (.fields [(0, 1), (1, 1), (2, 1)]) [(0, (.const (.int .i64 3))), (1, (.tmp 38)), (2, (.tmp 43))]), .agg, none⟩
  (.go 10 ⟨none, (.stN 3 (.tmp 2) (.tmp 44)), .any, none⟩ []
  .done))))))))))) [2])
 .ret)
 .skip)))
 .skip))))))))))
 (.seq (.ops [⟨(some 45), (.bld 29 (.fields [(0, 1), (1, 1), (2, 1)]) [(0, (.const (.int .i64 (-1))))]), .agg, none⟩,
  ⟨none, (.stN 3 (.tmp 2) (.tmp 45)), .any, none⟩] [2])
 .ret)))
def r9 : List Res := [.cN 2 3]
theorem tr9 : trS Tryd.prog 46 (Tryd.f9.body.getD .skip) s9 = some s9 := by kernel_rfl
theorem den9 (args : List Value) (w : World) (R : Ending → World → Prop) (hn : args.length ≤ 46) (h : denS Tryd.prog s9 (argsEnv 0 args) w (endK r9 R)) : Calls Tryd.prog 9 args.toArray w R :=
  calls_of_den (fn := Tryd.f9) (c := Tryd.f9.body.getD .skip) Tryd.func9 (by kernel_rfl) (by rw [Tryd.ntmps9]; exact hn) (by rw [Tryd.ntmps9]; exact tr9) (by kernel_rfl) h
def d9 (err0 : Value) (w : World) (R : Ending → World → Prop) : Prop :=
 ∀ w1 : World, w1 = World.alloc w (.cells (zc Tryd.prog 29).toArray 29) →
 nilQ 4 err0 fun q2 => (bif q2 then
 (∃ cs3, fillL (.fields [(0, 1), (1, 1), (2, 1)]) (zc Tryd.prog 29) [] = some cs3 ∧
 Array.size (List.toArray cs3) = 3 ∧ (∀ u ∈ Array.toList (List.toArray cs3), one u = true) ∧ Room w1 ⟨World.heap w |>.size, 0, none⟩ 3 ∧
 ∀ w4 : World, w4 = setCells w1 ⟨World.heap w |>.size, 0, none⟩ (Array.toList (List.toArray cs3)) 0 →
 ∃ cs5 : List Value, List.length cs5 = 3 ∧ Cells w4 ⟨World.heap w |>.size, 0, none⟩ cs5 ∧
 R (.returned (.agg (List.toArray cs5))) w4)
 else
 (RunV Tryd.prog (Instr.typeAssert err0 25 40 true) w1 fun v6 w7 => ∃ x8 : Value, v6 = x8 ∧
 tupK x8 fun vs9 =>
 ∃ x10 : Bool, (vs9)[1]? = some (.bool x10) ∧
 tupK x8 fun vs11 =>
 ∃ x12 : Int, (vs11)[0]? = some (.int .i64 x12) ∧
 (bif x10 then
 (∃ cs13, fillL (.fields [(0, 1), (1, 1), (2, 1)]) (zc Tryd.prog 29) [(0, (.int .i64 1)), (2, (.int .i64 x12))] = some cs13 ∧
 Array.size (List.toArray cs13) = 3 ∧ (∀ u ∈ Array.toList (List.toArray cs13), one u = true) ∧ Room w7 ⟨World.heap w |>.size, 0, none⟩ 3 ∧
 ∀ w14 : World, w14 = setCells w7 ⟨World.heap w |>.size, 0, none⟩ (Array.toList (List.toArray cs13)) 0 →
 ∃ cs15 : List Value, List.length cs15 = 3 ∧ Cells w14 ⟨World.heap w |>.size, 0, none⟩ cs15 ∧
 R (.returned (.agg (List.toArray cs15))) w14)
 else
 (RunV Tryd.prog (Instr.typeAssert err0 25 64 true) w7 fun v16 w17 => ∃ x18 : Value, v16 = x18 ∧
 tupK x18 fun vs19 =>
 ∃ x20 : Bool, (vs19)[1]? = some (.bool x20) ∧
 tupK x18 fun vs21 =>
 ∃ x22 : Option Addr, (vs21)[0]? = some (.pointer x22) ∧
 (bif x20 then
 ((bif (!(Option.isNone x22)) then
 (∀ w23 : World, w23 = World.drew w17 →
 optK x22 fun a24 =>
 ∃ x25 : Int, World.cell? w23 (Addr.add a24 0) = some (.int .i64 x25) ∧
 optK x22 fun a26 =>
 ∃ x27 : Value, World.cell? w23 (Addr.add a26 1) = some x27 ∧
 Calls Tryd.prog 27 #[x27] w23 fun e28 w29 => ∃ x30 : Int, e28 = .returned (.int .i64 x30) ∧
 (∃ z31 : Int, World.cell? w29 (Addr.add a24 0) = some (.int .i64 z31) ∧
 (((.int .i64 z31) : Value) = (.int .i64 x25) ∧ w29 = w29)) ∧
 ∃ cs32, fillL (.fields [(0, 1), (1, 1), (2, 1)]) (zc Tryd.prog 29) [(0, (.int .i64 2)), (1, (.int .i64 x25)), (2, (.int .i64 x30))] = some cs32 ∧
 Array.size (List.toArray cs32) = 3 ∧ (∀ u ∈ Array.toList (List.toArray cs32), one u = true) ∧ Room w29 ⟨World.heap w |>.size, 0, none⟩ 3 ∧
 ∀ w33 : World, w33 = setCells w29 ⟨World.heap w |>.size, 0, none⟩ (Array.toList (List.toArray cs32)) 0 →
 ∃ cs34 : List Value, List.length cs34 = 3 ∧ Cells w33 ⟨World.heap w |>.size, 0, none⟩ cs34 ∧
 R (.returned (.agg (List.toArray cs34))) w33)
 else
 (∃ cs35, fillL (.fields [(0, 1), (1, 1), (2, 1)]) (zc Tryd.prog 29) [(0, (.int .i64 (-1)))] = some cs35 ∧
 Array.size (List.toArray cs35) = 3 ∧ (∀ u ∈ Array.toList (List.toArray cs35), one u = true) ∧ Room w17 ⟨World.heap w |>.size, 0, none⟩ 3 ∧
 ∀ w36 : World, w36 = setCells w17 ⟨World.heap w |>.size, 0, none⟩ (Array.toList (List.toArray cs35)) 0 →
 ∃ cs37 : List Value, List.length cs37 = 3 ∧ Cells w36 ⟨World.heap w |>.size, 0, none⟩ cs37 ∧
 R (.returned (.agg (List.toArray cs37))) w36)))
 else
 (RunV Tryd.prog (Instr.typeAssert err0 25 70 true) w17 fun v38 w39 => ∃ x40 : Value, v38 = x40 ∧
 tupK x40 fun vs41 =>
 ∃ x42 : Bool, (vs41)[1]? = some (.bool x42) ∧
 tupK x40 fun vs43 =>
 ∃ x44 : Option Addr, (vs43)[0]? = some (.pointer x44) ∧
 (bif x42 then
 ((bif (!(Option.isNone x44)) then
 (∀ w45 : World, w45 = World.drew w39 →
 optK x44 fun a46 =>
 ∃ x47 : Int, World.cell? w45 (Addr.add a46 0) = some (.int .i64 x47) ∧
 optK x44 fun a48 =>
 ∃ x49 : Value, World.cell? w45 (Addr.add a48 1) = some x49 ∧
 Calls Tryd.prog 27 #[x49] w45 fun e50 w51 => ∃ x52 : Int, e50 = .returned (.int .i64 x52) ∧
 (∃ z53 : Int, World.cell? w51 (Addr.add a46 0) = some (.int .i64 z53) ∧
 (((.int .i64 z53) : Value) = (.int .i64 x47) ∧ w51 = w51)) ∧
 ∃ cs54, fillL (.fields [(0, 1), (1, 1), (2, 1)]) (zc Tryd.prog 29) [(0, (.int .i64 3)), (1, (.int .i64 x47)), (2, (.int .i64 x52))] = some cs54 ∧
 Array.size (List.toArray cs54) = 3 ∧ (∀ u ∈ Array.toList (List.toArray cs54), one u = true) ∧ Room w51 ⟨World.heap w |>.size, 0, none⟩ 3 ∧
 ∀ w55 : World, w55 = setCells w51 ⟨World.heap w |>.size, 0, none⟩ (Array.toList (List.toArray cs54)) 0 →
 ∃ cs56 : List Value, List.length cs56 = 3 ∧ Cells w55 ⟨World.heap w |>.size, 0, none⟩ cs56 ∧
 R (.returned (.agg (List.toArray cs56))) w55)
 else
 (∃ cs57, fillL (.fields [(0, 1), (1, 1), (2, 1)]) (zc Tryd.prog 29) [(0, (.int .i64 (-1)))] = some cs57 ∧
 Array.size (List.toArray cs57) = 3 ∧ (∀ u ∈ Array.toList (List.toArray cs57), one u = true) ∧ Room w39 ⟨World.heap w |>.size, 0, none⟩ 3 ∧
 ∀ w58 : World, w58 = setCells w39 ⟨World.heap w |>.size, 0, none⟩ (Array.toList (List.toArray cs57)) 0 →
 ∃ cs59 : List Value, List.length cs59 = 3 ∧ Cells w58 ⟨World.heap w |>.size, 0, none⟩ cs59 ∧
 R (.returned (.agg (List.toArray cs59))) w58)))
 else
 (∃ cs60, fillL (.fields [(0, 1), (1, 1), (2, 1)]) (zc Tryd.prog 29) [(0, (.int .i64 (-1)))] = some cs60 ∧
 Array.size (List.toArray cs60) = 3 ∧ (∀ u ∈ Array.toList (List.toArray cs60), one u = true) ∧ Room w39 ⟨World.heap w |>.size, 0, none⟩ 3 ∧
 ∀ w61 : World, w61 = setCells w39 ⟨World.heap w |>.size, 0, none⟩ (Array.toList (List.toArray cs60)) 0 →
 ∃ cs62 : List Value, List.length cs62 = 3 ∧ Cells w61 ⟨World.heap w |>.size, 0, none⟩ cs62 ∧
 R (.returned (.agg (List.toArray cs62))) w61))))))))
theorem e9 (err0 : Value) (w : World) (R : Ending → World → Prop) : denS Tryd.prog s9 (argsEnv 0 [err0]) w (endK r9 R) = d9 err0 w R := by kernel_rfl
theorem c9 (err0 : Value) {w : World} {R : Ending → World → Prop} (h : d9 err0 w R) : Calls Tryd.prog 9 #[err0] w R :=
  den9 [err0] w R (by simp) ((e9 err0 w R).symm ▸ h)

/-- prelude/preludelaw15.code -/
def s27 : S := (.seq (.ops [⟨(some 2), (.mv (.const (.int .i64 0))), (.int .i64), none⟩] [0])
 (.seq (.seq (.ops [⟨(some 4), (.mv (.tmp 0)), .any, none⟩] [4])
 (.block 0
 (.seq (.ops [⟨(some 5), (.rv (.asrt 25 40 true) [(.tmp 4)]), .any, none⟩,
  ⟨(some 6), (.ext 1 (.tmp 5)), .bool, none⟩,
  ⟨(some 7), (.ext 0 (.tmp 5)), (.int .i64), none⟩] [6, 7])
 (.cond (.tmp 6)
 (.seq (.ops [⟨(some 3), (.mv (.tmp 7)), (.int .i64), none⟩] [3])
 (.seq (.ops [⟨(some 8), (.mv (.tmp 3)), (.int .i64), none⟩,
  ⟨(some 2), (.mv (.tmp 8)), (.int .i64), none⟩] [2])
 .ret))
 .skip))))
 (.seq (.ops [⟨(some 2), (.mv (.const (.int .i64 (-1)))), (.int .i64), none⟩] [2])
 .ret)))
def r27 : List Res := [.t 2]
theorem tr27 : trS Tryd.prog 9 (Tryd.f27.body.getD .skip) s27 = some s27 := by kernel_rfl
theorem den27 (args : List Value) (w : World) (R : Ending → World → Prop) (hn : args.length ≤ 9) (h : denS Tryd.prog s27 (argsEnv 0 args) w (endK r27 R)) : Calls Tryd.prog 27 args.toArray w R :=
  calls_of_den (fn := Tryd.f27) (c := Tryd.f27.body.getD .skip) Tryd.func27 (by kernel_rfl) (by rw [Tryd.ntmps27]; exact hn) (by rw [Tryd.ntmps27]; exact tr27) (by kernel_rfl) h
def d27 (err0 : Value) (w : World) (R : Ending → World → Prop) : Prop :=
 RunV Tryd.prog (Instr.typeAssert err0 25 40 true) w fun v1 w2 => ∃ x3 : Value, v1 = x3 ∧
 tupK x3 fun vs4 =>
 ∃ x5 : Bool, (vs4)[1]? = some (.bool x5) ∧
 tupK x3 fun vs6 =>
 ∃ x7 : Int, (vs6)[0]? = some (.int .i64 x7) ∧
 (bif x5 then
 (R (.returned (.int .i64 x7)) w2)
 else
 (R (.returned (.int .i64 (-1))) w2))
theorem e27 (err0 : Value) (w : World) (R : Ending → World → Prop) : denS Tryd.prog s27 (argsEnv 0 [err0]) w (endK r27 R) = d27 err0 w R := by kernel_rfl
theorem c27 (err0 : Value) {w : World} {R : Ending → World → Prop} (h : d27 err0 w R) : Calls Tryd.prog 27 #[err0] w R :=
  den27 [err0] w R (by simp) ((e27 err0 w R).symm ▸ h)

end Go.Proofs.YtjchneebdlncfaaDoor.Fn
