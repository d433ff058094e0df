/-
  THE CODE of some functions of the given program, resolved, and proved to ask what the readable texts (d..) say; contracts c.. follow. Printed by a small program of mine.
  Own work. No macro, syntax, notation, axiom.
-/
import Derived.Test.YtjkbjppopdfggaaDoorTruPk3
import Derived.Test.YtjkbjppopdfggaaDoorProg
set_option maxRecDepth 100000
namespace Go.Proofs.YtjkbjppopdfggaaDoor.Fn
open Go Den
/-- prelude/proof.Sum -/
def s12 : S := (.seq (.ops [⟨(some 2), (.alloc 24), .ptr, none⟩] [0, 2])
 (.seq (.ops [⟨(some 9), (.ldN 8 (.global 0)), .agg, none⟩,
  ⟨(some 3), (.alloc 91), .ptr, none⟩,
  ⟨none, (.stN 8 (.tmp 3) (.tmp 9)), .any, none⟩] [0, 3, 2])
 (.seq (.ops [⟨(some 10), (.mv (.tmp 0)), .sl, none⟩,
  ⟨(some 4), (.mv (.tmp 10)), .sl, none⟩] [4, 3, 0, 2])
 (.seq (.block 0
 (.loop [(4, .sl)] [0, 2, 3]
 (.seq (.seq (.ops [⟨(some 11), (.mv (.tmp 4)), .sl, none⟩,
  ⟨(some 12), (.len (.tmp 11)), (.int .i64), none⟩,
  ⟨(some 13), (.bin .geq (.tmp 12) (.const (.int .i64 64))), .bool, none⟩] [13, 4, 3, 0, 2])
 (.cond (.tmp 13)
 .skip
 (.exit 0)))
 (.seq (.block 1
 (.ops [⟨(some 16), (.mv (.tmp 4)), .sl, none⟩,
  ⟨(some 17), (.call 44 [(.tmp 3), (.tmp 16)] []), .any, none⟩] [4, 3, 0, 2]))
 (.ops [⟨(some 14), (.mv (.tmp 4)), .sl, none⟩,
  ⟨(some 15), (.slS 1 (.tmp 14) (some (.const (.int .i64 64))) none none), .sl, none⟩,
  ⟨(some 4), (.mv (.tmp 15)), .sl, none⟩] [4, 3, 0, 2])))))
 (.seq (.ops [⟨(some 18), (.mv (.tmp 4)), .sl, none⟩,
  ⟨(some 19), (.app #[22, 22] 22 (.const (.slice none 0 0)) (.tmp 18)), .sl, none⟩,
  ⟨(some 20), (.bldS 5 1 1 [(0, (.const (.int .u8 128)))]), .sl, none⟩,
  ⟨(some 21), (.app #[22, 22] 22 (.tmp 19) (.tmp 20)), .sl, none⟩,
  ⟨(some 5), (.mv (.tmp 21)), .sl, none⟩] [5, 0, 3, 2])
 (.seq (.block 2
 (.loop [(5, .sl)] [0, 2, 3]
 (.seq (.seq (.ops [⟨(some 22), (.mv (.tmp 5)), .sl, none⟩,
  ⟨(some 23), (.len (.tmp 22)), (.int .i64), none⟩,
  ⟨(some 24), (.bin .rem (.tmp 23) (.const (.int .i64 64))), (.int .i64), none⟩,
  ⟨(some 25), (.bin .neq (.tmp 24) (.const (.int .i64 56))), .bool, none⟩] [25, 5, 0, 3, 2])
 (.cond (.tmp 25)
 .skip
 (.exit 2)))
 (.block 3
 (.ops [⟨(some 26), (.mv (.tmp 5)), .sl, none⟩,
  ⟨(some 27), (.bldS 5 1 1 [(0, (.const (.int .u8 0)))]), .sl, none⟩,
  ⟨(some 28), (.app #[22, 22] 22 (.tmp 26) (.tmp 27)), .sl, none⟩,
  ⟨(some 5), (.mv (.tmp 28)), .sl, none⟩] [5, 0, 3, 2])))))
 (.seq (.seq (.ops [⟨(some 6), (.mv (.const (.int .i64 56))), (.int .i64), none⟩] [6, 5, 0, 3, 2])
 (.block 4
 (.loop [(5, .sl), (6, (.int .i64))] [0, 2, 3]
 (.seq (.seq (.ops [⟨(some 29), (.mv (.tmp 6)), (.int .i64), none⟩,
  ⟨(some 30), (.bin .geq (.tmp 29) (.const (.int .i64 0))), .bool, none⟩] [30, 5, 0, 6, 3, 2])
 (.cond (.tmp 30)
 .skip
 (.exit 4)))
 (.seq (.block 5
 (.ops [⟨(some 33), (.mv (.tmp 5)), .sl, none⟩,
  ⟨(some 34), (.mv (.tmp 0)), .sl, none⟩,
  ⟨(some 35), (.len (.tmp 34)), (.int .i64), none⟩,
  ⟨(some 36), (.cv .u64 (.tmp 35)), (.int .u64), none⟩,
  ⟨(some 37), (.bin .mul (.tmp 36) (.const (.int .u64 8))), (.int .u64), none⟩,
  ⟨(some 38), (.mv (.tmp 6)), (.int .i64), none⟩,
  ⟨(some 39), (.bin .shr (.tmp 37) (.tmp 38)), (.int .u64), none⟩,
  ⟨(some 40), (.cv .u8 (.tmp 39)), (.int .u8), none⟩,
  ⟨(some 41), (.bldS 5 1 1 [(0, (.tmp 40))]), .sl, none⟩,
  ⟨(some 42), (.app #[22, 22] 22 (.tmp 33) (.tmp 41)), .sl, none⟩,
  ⟨(some 5), (.mv (.tmp 42)), .sl, none⟩] [6, 5, 0, 3, 2]))
 (.ops [⟨(some 31), (.mv (.tmp 6)), (.int .i64), none⟩,
  ⟨(some 32), (.bin .sub (.tmp 31) (.const (.int .i64 8))), (.int .i64), none⟩,
  ⟨(some 6), (.mv (.tmp 32)), (.int .i64), none⟩] [6, 5, 0, 3, 2]))))))
 (.seq (.block 6
 (.loop [(5, .sl)] [2, 3]
 (.seq (.seq (.ops [⟨(some 43), (.mv (.tmp 5)), .sl, none⟩,
  ⟨(some 44), (.len (.tmp 43)), (.int .i64), none⟩,
  ⟨(some 45), (.bin .gtr (.tmp 44) (.const (.int .i64 0))), .bool, none⟩] [45, 5, 3, 2])
 (.cond (.tmp 45)
 .skip
 (.exit 6)))
 (.seq (.block 7
 (.ops [⟨(some 48), (.mv (.tmp 5)), .sl, none⟩,
  ⟨(some 49), (.call 44 [(.tmp 3), (.tmp 48)] []), .any, none⟩] [5, 3, 2]))
 (.ops [⟨(some 46), (.mv (.tmp 5)), .sl, none⟩,
  ⟨(some 47), (.slS 1 (.tmp 46) (some (.const (.int .i64 64))) none none), .sl, none⟩,
  ⟨(some 5), (.mv (.tmp 47)), .sl, none⟩] [5, 3, 2])))))
 (.seq (.ops [⟨(some 7), (.alloc 24), .ptr, none⟩] [3, 7, 2])
 (.seq (.seq (.ops [⟨(some 50), (.mv (.const (.int .i64 0))), (.int .i64), none⟩] [50, 3, 7, 2])
 (.block 8
 (.loop [(50, (.int .i64))] [2, 3, 7]
 (.seq (.ops [⟨(some 51), (.bin .lss (.tmp 50) (.const (.int .i64 32))), .any, none⟩] [51, 50, 3, 7, 2])
 (.seq (.cond (.tmp 51)
 .skip
 (.exit 8))
 (.seq (.block 9
 (.seq (.ops [⟨(some 52), (.mv (.tmp 50)), (.int .i64), none⟩,
  ⟨(some 8), (.mv (.tmp 52)), (.int .i64), none⟩] [8, 3, 7, 50, 2])
 (.ops [⟨(some 53), (.mv (.tmp 8)), (.int .i64), none⟩,
  ⟨(some 54), (.mv (.tmp 8)), (.int .i64), none⟩,
  ⟨(some 55), (.bin .quo (.tmp 54) (.const (.int .i64 4))), (.int .i64), none⟩,
  ⟨(some 56), (.iaA 8 1 (.tmp 3) (.tmp 55)), .ptr, none⟩,
  ⟨(some 57), (.ld1 (.tmp 56)), (.int .u32), none⟩,
  ⟨(some 58), (.mv (.tmp 8)), (.int .i64), none⟩,
  ⟨(some 59), (.bin .rem (.tmp 58) (.const (.int .i64 4))), (.int .i64), none⟩,
  ⟨(some 60), (.bin .mul (.const (.int .i64 8)) (.tmp 59)), (.int .i64), none⟩,
  ⟨(some 61), (.bin .sub (.const (.int .i64 24)) (.tmp 60)), (.int .i64), none⟩,
  ⟨(some 62), (.bin .shr (.tmp 57) (.tmp 61)), (.int .u32), none⟩,
  ⟨(some 63), (.cv .u8 (.tmp 62)), (.int .u8), none⟩,
  ⟨(some 64), (.iaA 32 1 (.tmp 7) (.tmp 53)), .ptr, none⟩,
  ⟨none, (.st1 (.tmp 64) (.tmp 63)), .any, none⟩] [50, 3, 7, 2])))
 (.ops [⟨(some 65), (.bin .add (.tmp 50) (.const (.int .i64 1))), (.int .i64), none⟩,
  ⟨(some 50), (.mv (.tmp 65)), (.int .i64), none⟩] [50, 3, 7, 2])))))))
 (.seq (.ops [⟨(some 66), (.ldN 32 (.tmp 7)), .agg, none⟩,
  ⟨none, (.stN 32 (.tmp 2) (.tmp 66)), .any, none⟩] [2])
 .ret)))))))))))
def r12 : List Res := [.cN 2 32]
theorem tr12 : trS Tryd.prog [] 67 (Tryd.f12.body.getD .skip) s12 = some s12 := by kernel_rfl
theorem den12 (args : List Value) (w : World) (R : Ending → World → Prop) (hn : args.length ≤ 67) (h : denS Tryd.prog s12 (argsEnv 0 args) w (endK r12 R)) : Calls Tryd.prog 12 args.toArray w R :=
  calls_of_den (pn := []) (fn := Tryd.f12) (c := Tryd.f12.body.getD .skip) Tryd.func12 (by kernel_rfl) (by rw [Tryd.ntmps12]; exact hn) (by rw [Tryd.ntmps12]; exact tr12) (by kernel_rfl) h
def d12 (b0 : Option Addr) (b0n : Nat) (b0c : Nat) (w : World) (R : Ending → World → Prop) : Prop :=
 ∀ w1 : World, w1 = World.alloc w (.cells (zc Tryd.prog 24).toArray 24) →
 ∃ cs2 : List Value, List.length cs2 = 8 ∧ Cells w1 ⟨0, 0, none⟩ cs2 ∧
 ∀ w3 : World, w3 = World.alloc w1 (.cells (zc Tryd.prog 91).toArray 91) →
 Array.size (List.toArray cs2) = 8 ∧ (∀ u ∈ Array.toList (List.toArray cs2), one u = true) ∧ Room w3 ⟨World.heap w1 |>.size, 0, none⟩ 8 ∧
 ∀ w4 : World, w4 = setCells w3 ⟨World.heap w1 |>.size, 0, none⟩ (Array.toList (List.toArray cs2)) 0 →
 ∃ I5 : Nat → Option Addr → Nat → Nat → World → Prop,
 (∃ m, I5 m b0 b0n b0c w4) ∧
 (∀ (m6 : Nat) (w7 : World) (rest8 : Option Addr) (rest8n : Nat) (rest8c : Nat), I5 m6 rest8 rest8n rest8c w7 →
 (bif (decide (64 ≤ ((rest8n : Nat) : Int))) then
 (Calls Tryd.prog 44 #[(.pointer (some ⟨World.heap w1 |>.size, 0, none⟩)), (.slice rest8 rest8n rest8c)] w7 fun e9 w10 => e9 = .returned (.tuple #[]) ∧ 0 ≤ (64 : Int) ∧ (64 : Int) ≤ ((rest8n : Nat) : Int) ∧ ∃ m11, m11 < m6 ∧ I5 m11 (if rest8c = (Int.toNat 64) then rest8 else Option.map (fun y => Addr.add y ((Int.toNat 64) * 1)) rest8) (rest8n - (Int.toNat 64)) (rest8c - (Int.toNat 64)) w10)
 else
 (RunV Tryd.prog (Builtin.append_ #[22, 22] 22 #[(.slice none 0 0), (.slice rest8 rest8n rest8c)]) w7 fun v12 w13 => ∃ (x14 : Option Addr) (x14n : Nat) (x14c : Nat), v12 = (.slice x14 x14n x14c) ∧
 ∃ cs15, fillL (.elems 1) (zrep (zc Tryd.prog 5) (1 * 1)) [(0, (.int .u8 128))] = some cs15 ∧
 ∀ w16 : World, w16 = World.alloc w13 (.cells (List.toArray cs15) 5) →
 RunV Tryd.prog (Builtin.append_ #[22, 22] 22 #[(.slice x14 x14n x14c), (.slice (some ⟨World.heap w13 |>.size, 0, none⟩) 1 1)]) w16 fun v17 w18 => ∃ (x19 : Option Addr) (x19n : Nat) (x19c : Nat), v17 = (.slice x19 x19n x19c) ∧
 ∃ I20 : Nat → Option Addr → Nat → Nat → World → Prop,
 (∃ m, I20 m x19 x19n x19c w18) ∧
 (∀ (m21 : Nat) (w22 : World) (tail23 : Option Addr) (tail23n : Nat) (tail23c : Nat), I20 m21 tail23 tail23n tail23c w22 →
 (64 : Int) ≠ 0 ∧ (bif (!decide ((Int.tmod ((tail23n : Nat) : Int) 64) = 56)) then
 (∃ cs24, fillL (.elems 1) (zrep (zc Tryd.prog 5) (1 * 1)) [(0, (.int .u8 0))] = some cs24 ∧
 ∀ w25 : World, w25 = World.alloc w22 (.cells (List.toArray cs24) 5) →
 RunV Tryd.prog (Builtin.append_ #[22, 22] 22 #[(.slice tail23 tail23n tail23c), (.slice (some ⟨World.heap w22 |>.size, 0, none⟩) 1 1)]) w25 fun v26 w27 => ∃ (x28 : Option Addr) (x28n : Nat) (x28c : Nat), v26 = (.slice x28 x28n x28c) ∧
 ∃ m29, m29 < m21 ∧ I20 m29 x28 x28n x28c w27)
 else
 (∃ I30 : Nat → Option Addr → Nat → Nat → Int → World → Prop,
 (∃ m, I30 m tail23 tail23n tail23c 56 w22) ∧
 (∀ (m31 : Nat) (w32 : World) (tail33 : Option Addr) (tail33n : Nat) (tail33c : Nat) (k34 : Int), I30 m31 tail33 tail33n tail33c k34 w32 →
 (bif (decide (0 ≤ k34)) then
 (0 ≤ k34 ∧ ∃ cs35, fillL (.elems 1) (zrep (zc Tryd.prog 5) (1 * 1)) [(0, (.int .u8 (IntKind.wrap .u8 (shR .u64 (IntKind.wrap .u64 ((IntKind.wrap .u64 ((b0n : Nat) : Int)) * 8)) k34))))] = some cs35 ∧
 ∀ w36 : World, w36 = World.alloc w32 (.cells (List.toArray cs35) 5) →
 RunV Tryd.prog (Builtin.append_ #[22, 22] 22 #[(.slice tail33 tail33n tail33c), (.slice (some ⟨World.heap w32 |>.size, 0, none⟩) 1 1)]) w36 fun v37 w38 => ∃ (x39 : Option Addr) (x39n : Nat) (x39c : Nat), v37 = (.slice x39 x39n x39c) ∧
 ∃ m40, m40 < m31 ∧ I30 m40 x39 x39n x39c (IntKind.wrap .i64 (k34 - 8)) w38)
 else
 (∃ I41 : Nat → Option Addr → Nat → Nat → World → Prop,
 (∃ m, I41 m tail33 tail33n tail33c w32) ∧
 (∀ (m42 : Nat) (w43 : World) (tail44 : Option Addr) (tail44n : Nat) (tail44c : Nat), I41 m42 tail44 tail44n tail44c w43 →
 (bif (decide (0 < ((tail44n : Nat) : Int))) then
 (Calls Tryd.prog 44 #[(.pointer (some ⟨World.heap w1 |>.size, 0, none⟩)), (.slice tail44 tail44n tail44c)] w43 fun e45 w46 => e45 = .returned (.tuple #[]) ∧ 0 ≤ (64 : Int) ∧ (64 : Int) ≤ ((tail44n : Nat) : Int) ∧ ∃ m47, m47 < m42 ∧ I41 m47 (if tail44c = (Int.toNat 64) then tail44 else Option.map (fun y => Addr.add y ((Int.toNat 64) * 1)) tail44) (tail44n - (Int.toNat 64)) (tail44c - (Int.toNat 64)) w46)
 else
 (∀ w48 : World, w48 = World.alloc w43 (.cells (zc Tryd.prog 24).toArray 24) →
 ∃ I49 : Nat → Int → World → Prop,
 (∃ m, I49 m 0 w48) ∧
 (∀ (m50 : Nat) (w51 : World) (x52 : Int), I49 m50 x52 w51 →
 (bif (decide (x52 < 32)) then
 ((4 : Int) ≠ 0 ∧ 0 ≤ (IntKind.wrap .i64 (Int.tdiv x52 4)) ∧ (IntKind.wrap .i64 (Int.tdiv x52 4)) < ((8 : Nat) : Int) ∧
 ∃ x53 : Int, World.cell? w51 (Addr.add ⟨World.heap w1 |>.size, 0, none⟩ (Int.toNat (IntKind.wrap .i64 (Int.tdiv x52 4)) * 1)) = some (.int .u32 x53) ∧
 (4 : Int) ≠ 0 ∧ 0 ≤ (IntKind.wrap .i64 (24 - (IntKind.wrap .i64 (8 * (Int.tmod x52 4))))) ∧ 0 ≤ x52 ∧ x52 < ((32 : Nat) : Int) ∧
 one (.int .u8 (IntKind.wrap .u8 (shR .u32 x53 (IntKind.wrap .i64 (24 - (IntKind.wrap .i64 (8 * (Int.tmod x52 4)))))))) = true ∧ Option.isSome (World.cell? w51 (Addr.add ⟨World.heap w43 |>.size, 0, none⟩ (Int.toNat x52 * 1))) = true ∧ World.frozen? w51 (Addr.add ⟨World.heap w43 |>.size, 0, none⟩ (Int.toNat x52 * 1)) = false ∧
 ∀ w54 : World, w54 = World.setCell w51 (Addr.add ⟨World.heap w43 |>.size, 0, none⟩ (Int.toNat x52 * 1)) (.int .u8 (IntKind.wrap .u8 (shR .u32 x53 (IntKind.wrap .i64 (24 - (IntKind.wrap .i64 (8 * (Int.tmod x52 4)))))))) →
 ∃ m55, m55 < m50 ∧ I49 m55 (IntKind.wrap .i64 (x52 + 1)) w54)
 else
 (∃ cs56 : List Value, List.length cs56 = 32 ∧ Cells w51 ⟨World.heap w43 |>.size, 0, none⟩ cs56 ∧
 Array.size (List.toArray cs56) = 32 ∧ (∀ u ∈ Array.toList (List.toArray cs56), one u = true) ∧ Room w51 ⟨World.heap w |>.size, 0, none⟩ 32 ∧
 ∀ w57 : World, w57 = setCells w51 ⟨World.heap w |>.size, 0, none⟩ (Array.toList (List.toArray cs56)) 0 →
 ∃ cs58 : List Value, List.length cs58 = 32 ∧ Cells w57 ⟨World.heap w |>.size, 0, none⟩ cs58 ∧
 R (.returned (.agg (List.toArray cs58))) w57)))))))))))))))
theorem e12 (b0 : Option Addr) (b0n : Nat) (b0c : Nat) (w : World) (R : Ending → World → Prop) : denS Tryd.prog s12 (argsEnv 0 [(.slice b0 b0n b0c)]) w (endK r12 R) = d12 b0 b0n b0c w R := by kernel_rfl
theorem c12 (b0 : Option Addr) (b0n : Nat) (b0c : Nat) {w : World} {R : Ending → World → Prop} (h : d12 b0 b0n b0c w R) : Calls Tryd.prog 12 #[(.slice b0 b0n b0c)] w R :=
  den12 [(.slice b0 b0n b0c)] w R (by simp) ((e12 b0 b0n b0c w R).symm ▸ h)

/-- prelude/preluderef24.Sum -/
def s13 : S := (.seq (.ops [⟨(some 2), (.alloc 24), .ptr, none⟩] [0, 2])
 (.seq (.ops [⟨(some 15), (.call 45 [] [.agg]), .agg, none⟩,
  ⟨(some 3), (.alloc 91), .ptr, none⟩,
  ⟨none, (.stN 8 (.tmp 3) (.tmp 15)), .any, none⟩] [0, 3, 2])
 (.seq (.ops [⟨(some 16), (.call 46 [] [.agg]), .agg, none⟩,
  ⟨(some 4), (.alloc 96), .ptr, none⟩,
  ⟨none, (.stN 64 (.tmp 4) (.tmp 16)), .any, none⟩] [0, 3, 4, 2])
 (.seq (.ops [⟨(some 17), (.mv (.tmp 0)), .sl, none⟩,
  ⟨(some 18), (.call 47 [(.tmp 17)] [.sl]), .sl, none⟩,
  ⟨(some 5), (.mv (.tmp 18)), .sl, none⟩] [5, 3, 4, 2])
 (.seq (.seq (.ops [⟨(some 6), (.mv (.const (.int .i64 0))), (.int .i64), none⟩] [6, 5, 3, 4, 2])
 (.block 0
 (.loop [(6, (.int .i64))] [2, 3, 4, 5]
 (.seq (.seq (.ops [⟨(some 19), (.mv (.tmp 6)), (.int .i64), none⟩,
  ⟨(some 20), (.mv (.tmp 5)), .sl, none⟩,
  ⟨(some 21), (.len (.tmp 20)), (.int .i64), none⟩,
  ⟨(some 22), (.bin .lss (.tmp 19) (.tmp 21)), .bool, none⟩] [22, 5, 6, 3, 4, 2])
 (.cond (.tmp 22)
 .skip
 (.exit 0)))
 (.seq (.block 1
 (.seq (.ops [⟨(some 25), (.mv (.tmp 5)), .sl, none⟩,
  ⟨(some 26), (.mv (.tmp 6)), (.int .i64), none⟩,
  ⟨(some 27), (.mv (.tmp 6)), (.int .i64), none⟩,
  ⟨(some 28), (.bin .add (.tmp 27) (.const (.int .i64 64))), (.int .i64), none⟩,
  ⟨(some 29), (.slS 1 (.tmp 25) (some (.tmp 26)) (some (.tmp 28)) none), .sl, none⟩,
  ⟨(some 30), (.call 48 [(.tmp 29)] [.agg]), .agg, none⟩,
  ⟨(some 7), (.alloc 96), .ptr, none⟩,
  ⟨none, (.stN 64 (.tmp 7) (.tmp 30)), .any, none⟩] [3, 4, 7, 6, 5, 2])
 (.seq (.ops [⟨(some 31), (.ldN 8 (.tmp 3)), .agg, none⟩,
  ⟨(some 8), (.alloc 91), .ptr, none⟩,
  ⟨none, (.stN 8 (.tmp 8) (.tmp 31)), .any, none⟩] [8, 4, 7, 3, 6, 5, 2])
 (.seq (.seq (.ops [⟨(some 9), (.mv (.const (.int .i64 0))), (.int .i64), none⟩] [9, 8, 4, 7, 3, 6, 5, 2])
 (.block 2
 (.loop [(9, (.int .i64))] [2, 3, 4, 5, 6, 7, 8]
 (.seq (.seq (.ops [⟨(some 32), (.mv (.tmp 9)), (.int .i64), none⟩,
  ⟨(some 33), (.bin .lss (.tmp 32) (.const (.int .i64 64))), .bool, none⟩] [33, 8, 9, 4, 7, 3, 6, 5, 2])
 (.cond (.tmp 33)
 .skip
 (.exit 2)))
 (.seq (.block 3
 (.seq (.draw (.take 0 ⟨(some 36), (.iaA 8 1 (.tmp 8) (.const (.int .i64 7))), .ptr, none⟩
  (.take 1 ⟨(some 37), (.ld1 (.tmp 36)), (.int .u32), none⟩
  (.take 2 ⟨(some 38), (.iaA 8 1 (.tmp 8) (.const (.int .i64 4))), .ptr, none⟩
  (.take 3 ⟨(some 39), (.ld1 (.tmp 38)), (.int .u32), none⟩
  (.take 5 ⟨(some 41), (.iaA 8 1 (.tmp 8) (.const (.int .i64 4))), .ptr, none⟩
  (.take 6 ⟨(some 42), (.ld1 (.tmp 41)), (.int .u32), none⟩
  (.take 9 ⟨(some 45), (.iaA 8 1 (.tmp 8) (.const (.int .i64 4))), .ptr, none⟩
  (.take 10 ⟨(some 46), (.ld1 (.tmp 45)), (.int .u32), none⟩
  (.take 14 ⟨(some 50), (.iaA 8 1 (.tmp 8) (.const (.int .i64 4))), .ptr, none⟩
  (.take 15 ⟨(some 51), (.ld1 (.tmp 50)), (.int .u32), none⟩
  (.take 16 ⟨(some 52), (.iaA 8 1 (.tmp 8) (.const (.int .i64 5))), .ptr, none⟩
  (.take 17 ⟨(some 53), (.ld1 (.tmp 52)), (.int .u32), none⟩
  (.take 18 ⟨(some 54), (.bin .and (.tmp 51) (.tmp 53)), (.int .u32), none⟩
  (.take 19 ⟨(some 55), (.iaA 8 1 (.tmp 8) (.const (.int .i64 4))), .ptr, none⟩
  (.take 20 ⟨(some 56), (.ld1 (.tmp 55)), (.int .u32), none⟩
  (.take 21 ⟨(some 57), (.un .xor (.tmp 56)), (.int .u32), none⟩
  (.take 22 ⟨(some 58), (.iaA 8 1 (.tmp 8) (.const (.int .i64 6))), .ptr, none⟩
  (.take 23 ⟨(some 59), (.ld1 (.tmp 58)), (.int .u32), none⟩
  (.take 24 ⟨(some 60), (.bin .and (.tmp 57) (.tmp 59)), (.int .u32), none⟩
  (.take 25 ⟨(some 61), (.bin .xor (.tmp 54) (.tmp 60)), (.int .u32), none⟩
  (.take 27 ⟨(some 63), (.mv (.tmp 9)), (.int .i64), none⟩
  (.take 28 ⟨(some 64), (.iaA 64 1 (.tmp 4) (.tmp 63)), .ptr, none⟩
  (.take 29 ⟨(some 65), (.ld1 (.tmp 64)), (.int .u32), none⟩
  (.take 31 ⟨(some 67), (.mv (.tmp 9)), (.int .i64), none⟩
  (.take 32 ⟨(some 68), (.iaA 64 1 (.tmp 7) (.tmp 67)), .ptr, none⟩
  (.take 33 ⟨(some 69), (.ld1 (.tmp 68)), (.int .u32), none⟩
  (.go 4 ⟨(some 40), (.call 49 [(.tmp 39), (.const (.int .u32 6))] [(.int .u32)]), (.int .u32), none⟩ [(33, ⟨(some 69), (.ld1 (.tmp 68)), (.int .u32), none⟩), (29, ⟨(some 65), (.ld1 (.tmp 64)), (.int .u32), none⟩), (23, ⟨(some 59), (.ld1 (.tmp 58)), (.int .u32), none⟩), (20, ⟨(some 56), (.ld1 (.tmp 55)), (.int .u32), none⟩), (17, ⟨(some 53), (.ld1 (.tmp 52)), (.int .u32), none⟩), (15, ⟨(some 51), (.ld1 (.tmp 50)), (.int .u32), none⟩), (10, ⟨(some 46), (.ld1 (.tmp 45)), (.int .u32), none⟩), (6, ⟨(some 42), (.ld1 (.tmp 41)), (.int .u32), none⟩), (1, ⟨(some 37), (.ld1 (.tmp 36)), (.int .u32), none⟩)]
  (.go 7 ⟨(some 43), (.call 49 [(.tmp 42), (.const (.int .u32 11))] [(.int .u32)]), (.int .u32), none⟩ [(33, ⟨(some 69), (.ld1 (.tmp 68)), (.int .u32), none⟩), (29, ⟨(some 65), (.ld1 (.tmp 64)), (.int .u32), none⟩), (23, ⟨(some 59), (.ld1 (.tmp 58)), (.int .u32), none⟩), (20, ⟨(some 56), (.ld1 (.tmp 55)), (.int .u32), none⟩), (17, ⟨(some 53), (.ld1 (.tmp 52)), (.int .u32), none⟩), (15, ⟨(some 51), (.ld1 (.tmp 50)), (.int .u32), none⟩), (10, ⟨(some 46), (.ld1 (.tmp 45)), (.int .u32), none⟩), (1, ⟨(some 37), (.ld1 (.tmp 36)), (.int .u32), none⟩)]
  (.take 8 ⟨(some 44), (.bin .xor (.tmp 40) (.tmp 43)), (.int .u32), none⟩
  (.go 11 ⟨(some 47), (.call 49 [(.tmp 46), (.const (.int .u32 25))] [(.int .u32)]), (.int .u32), none⟩ [(33, ⟨(some 69), (.ld1 (.tmp 68)), (.int .u32), none⟩), (29, ⟨(some 65), (.ld1 (.tmp 64)), (.int .u32), none⟩), (23, ⟨(some 59), (.ld1 (.tmp 58)), (.int .u32), none⟩), (20, ⟨(some 56), (.ld1 (.tmp 55)), (.int .u32), none⟩), (17, ⟨(some 53), (.ld1 (.tmp 52)), (.int .u32), none⟩), (15, ⟨(some 51), (.ld1 (.tmp 50)), (.int .u32), none⟩), (1, ⟨(some 37), (.ld1 (.tmp 36)), (.int .u32), none⟩)]
  (.take 12 ⟨(some 48), (.bin .xor (.tmp 44) (.tmp 47)), (.int .u32), none⟩
  (.take 13 ⟨(some 49), (.bin .add (.tmp 37) (.tmp 48)), (.int .u32), none⟩
  (.take 26 ⟨(some 62), (.bin .add (.tmp 49) (.tmp 61)), (.int .u32), none⟩
  (.take 30 ⟨(some 66), (.bin .add (.tmp 62) (.tmp 65)), (.int .u32), none⟩
  (.take 34 ⟨(some 70), (.bin .add (.tmp 66) (.tmp 69)), (.int .u32), none⟩
  (.take 35 ⟨(some 10), (.mv (.tmp 70)), (.int .u32), none⟩
  .done)))))))))))))))))))))))))))))))))))) [8, 10, 9, 4, 7, 3, 6, 5, 2])
 (.seq (.draw (.take 0 ⟨(some 71), (.iaA 8 1 (.tmp 8) (.const (.int .i64 0))), .ptr, none⟩
  (.take 1 ⟨(some 72), (.ld1 (.tmp 71)), (.int .u32), none⟩
  (.take 3 ⟨(some 74), (.iaA 8 1 (.tmp 8) (.const (.int .i64 0))), .ptr, none⟩
  (.take 4 ⟨(some 75), (.ld1 (.tmp 74)), (.int .u32), none⟩
  (.take 7 ⟨(some 78), (.iaA 8 1 (.tmp 8) (.const (.int .i64 0))), .ptr, none⟩
  (.take 8 ⟨(some 79), (.ld1 (.tmp 78)), (.int .u32), none⟩
  (.take 11 ⟨(some 82), (.iaA 8 1 (.tmp 8) (.const (.int .i64 0))), .ptr, none⟩
  (.take 12 ⟨(some 83), (.ld1 (.tmp 82)), (.int .u32), none⟩
  (.take 13 ⟨(some 84), (.iaA 8 1 (.tmp 8) (.const (.int .i64 1))), .ptr, none⟩
  (.take 14 ⟨(some 85), (.ld1 (.tmp 84)), (.int .u32), none⟩
  (.take 15 ⟨(some 86), (.bin .and (.tmp 83) (.tmp 85)), (.int .u32), none⟩
  (.take 16 ⟨(some 87), (.iaA 8 1 (.tmp 8) (.const (.int .i64 0))), .ptr, none⟩
  (.take 17 ⟨(some 88), (.ld1 (.tmp 87)), (.int .u32), none⟩
  (.take 18 ⟨(some 89), (.iaA 8 1 (.tmp 8) (.const (.int .i64 2))), .ptr, none⟩
  (.take 19 ⟨(some 90), (.ld1 (.tmp 89)), (.int .u32), none⟩
  (.take 20 ⟨(some 91), (.bin .and (.tmp 88) (.tmp 90)), (.int .u32), none⟩
  (.take 21 ⟨(some 92), (.bin .xor (.tmp 86) (.tmp 91)), (.int .u32), none⟩
  (.take 22 ⟨(some 93), (.iaA 8 1 (.tmp 8) (.const (.int .i64 1))), .ptr, none⟩
  (.take 23 ⟨(some 94), (.ld1 (.tmp 93)), (.int .u32), none⟩
  (.take 24 ⟨(some 95), (.iaA 8 1 (.tmp 8) (.const (.int .i64 2))), .ptr, none⟩
  (.take 25 ⟨(some 96), (.ld1 (.tmp 95)), (.int .u32), none⟩
  (.take 26 ⟨(some 97), (.bin .and (.tmp 94) (.tmp 96)), (.int .u32), none⟩
  (.take 27 ⟨(some 98), (.bin .xor (.tmp 92) (.tmp 97)), (.int .u32), none⟩
  (.go 2 ⟨(some 73), (.call 49 [(.tmp 72), (.const (.int .u32 2))] [(.int .u32)]), (.int .u32), none⟩ [(25, ⟨(some 96), (.ld1 (.tmp 95)), (.int .u32), none⟩), (23, ⟨(some 94), (.ld1 (.tmp 93)), (.int .u32), none⟩), (19, ⟨(some 90), (.ld1 (.tmp 89)), (.int .u32), none⟩), (17, ⟨(some 88), (.ld1 (.tmp 87)), (.int .u32), none⟩), (14, ⟨(some 85), (.ld1 (.tmp 84)), (.int .u32), none⟩), (12, ⟨(some 83), (.ld1 (.tmp 82)), (.int .u32), none⟩), (8, ⟨(some 79), (.ld1 (.tmp 78)), (.int .u32), none⟩), (4, ⟨(some 75), (.ld1 (.tmp 74)), (.int .u32), none⟩)]
  (.go 5 ⟨(some 76), (.call 49 [(.tmp 75), (.const (.int .u32 13))] [(.int .u32)]), (.int .u32), none⟩ [(25, ⟨(some 96), (.ld1 (.tmp 95)), (.int .u32), none⟩), (23, ⟨(some 94), (.ld1 (.tmp 93)), (.int .u32), none⟩), (19, ⟨(some 90), (.ld1 (.tmp 89)), (.int .u32), none⟩), (17, ⟨(some 88), (.ld1 (.tmp 87)), (.int .u32), none⟩), (14, ⟨(some 85), (.ld1 (.tmp 84)), (.int .u32), none⟩), (12, ⟨(some 83), (.ld1 (.tmp 82)), (.int .u32), none⟩), (8, ⟨(some 79), (.ld1 (.tmp 78)), (.int .u32), none⟩)]
  (.take 6 ⟨(some 77), (.bin .xor (.tmp 73) (.tmp 76)), (.int .u32), none⟩
  (.go 9 ⟨(some 80), (.call 49 [(.tmp 79), (.const (.int .u32 22))] [(.int .u32)]), (.int .u32), none⟩ [(25, ⟨(some 96), (.ld1 (.tmp 95)), (.int .u32), none⟩), (23, ⟨(some 94), (.ld1 (.tmp 93)), (.int .u32), none⟩), (19, ⟨(some 90), (.ld1 (.tmp 89)), (.int .u32), none⟩), (17, ⟨(some 88), (.ld1 (.tmp 87)), (.int .u32), none⟩), (14, ⟨(some 85), (.ld1 (.tmp 84)), (.int .u32), none⟩), (12, ⟨(some 83), (.ld1 (.tmp 82)), (.int .u32), none⟩)]
  (.take 10 ⟨(some 81), (.bin .xor (.tmp 77) (.tmp 80)), (.int .u32), none⟩
  (.take 28 ⟨(some 99), (.bin .add (.tmp 81) (.tmp 98)), (.int .u32), none⟩
  (.take 29 ⟨(some 11), (.mv (.tmp 99)), (.int .u32), none⟩
  .done)))))))))))))))))))))))))))))) [10, 11, 8, 9, 4, 7, 3, 6, 5, 2])
 (.ops [⟨(some 100), (.mv (.tmp 10)), (.int .u32), none⟩,
  ⟨(some 101), (.mv (.tmp 11)), (.int .u32), none⟩,
  ⟨(some 102), (.bin .add (.tmp 100) (.tmp 101)), (.int .u32), none⟩,
  ⟨(some 103), (.iaA 8 1 (.tmp 8) (.const (.int .i64 0))), .ptr, none⟩,
  ⟨(some 104), (.ld1 (.tmp 103)), (.int .u32), none⟩,
  ⟨(some 105), (.iaA 8 1 (.tmp 8) (.const (.int .i64 1))), .ptr, none⟩,
  ⟨(some 106), (.ld1 (.tmp 105)), (.int .u32), none⟩,
  ⟨(some 107), (.iaA 8 1 (.tmp 8) (.const (.int .i64 2))), .ptr, none⟩,
  ⟨(some 108), (.ld1 (.tmp 107)), (.int .u32), none⟩,
  ⟨(some 109), (.iaA 8 1 (.tmp 8) (.const (.int .i64 3))), .ptr, none⟩,
  ⟨(some 110), (.ld1 (.tmp 109)), (.int .u32), none⟩,
  ⟨(some 111), (.mv (.tmp 10)), (.int .u32), none⟩,
  ⟨(some 112), (.bin .add (.tmp 110) (.tmp 111)), (.int .u32), none⟩,
  ⟨(some 113), (.iaA 8 1 (.tmp 8) (.const (.int .i64 4))), .ptr, none⟩,
  ⟨(some 114), (.ld1 (.tmp 113)), (.int .u32), none⟩,
  ⟨(some 115), (.iaA 8 1 (.tmp 8) (.const (.int .i64 5))), .ptr, none⟩,
  ⟨(some 116), (.ld1 (.tmp 115)), (.int .u32), none⟩,
  ⟨(some 117), (.iaA 8 1 (.tmp 8) (.const (.int .i64 6))), .ptr, none⟩,
  ⟨(some 118), (.ld1 (.tmp 117)), (.int .u32), none⟩,
  ⟨(some 119), (.bld 91 (.elems 1) [(0, (.tmp 102)), (1, (.tmp 104)), (2, (.tmp 106)), (3, (.tmp 108)), (4, (.tmp 112)), (5, (.tmp 114)), (6, (.tmp 116)), (7, (.tmp 118))]), .agg, none⟩,
  ⟨none, (.stN 8 (.tmp 8) (.tmp 119)), .any, none⟩] [9, 8, 4, 7, 3, 6, 5, 2]))))
 (.ops [⟨(some 34), (.mv (.tmp 9)), (.int .i64), none⟩,
  ⟨(some 35), (.bin .add (.tmp 34) (.const (.int .i64 1))), (.int .i64), none⟩,
  ⟨(some 9), (.mv (.tmp 35)), (.int .i64), none⟩] [9, 8, 4, 7, 3, 6, 5, 2]))))))
 (.seq (.ops [⟨(some 12), (.mv (.const (.int .i64 0))), (.int .i64), none⟩] [12, 3, 8, 6, 5, 4, 2])
 (.block 4
 (.loop [(12, (.int .i64))] [2, 3, 4, 5, 6, 8]
 (.seq (.seq (.ops [⟨(some 120), (.mv (.tmp 12)), (.int .i64), none⟩,
  ⟨(some 121), (.bin .lss (.tmp 120) (.const (.int .i64 8))), .bool, none⟩] [121, 12, 3, 8, 6, 5, 4, 2])
 (.cond (.tmp 121)
 .skip
 (.exit 4)))
 (.seq (.block 5
 (.draw (.take 0 ⟨(some 124), (.mv (.tmp 12)), (.int .i64), none⟩
  (.take 1 ⟨(some 125), (.mv (.tmp 12)), (.int .i64), none⟩
  (.take 2 ⟨(some 126), (.iaA 8 1 (.tmp 3) (.tmp 125)), .ptr, none⟩
  (.take 3 ⟨(some 127), (.ld1 (.tmp 126)), (.int .u32), none⟩
  (.take 4 ⟨(some 128), (.mv (.tmp 12)), (.int .i64), none⟩
  (.take 5 ⟨(some 129), (.iaA 8 1 (.tmp 8) (.tmp 128)), .ptr, none⟩
  (.take 6 ⟨(some 130), (.ld1 (.tmp 129)), (.int .u32), none⟩
  (.take 7 ⟨(some 131), (.bin .add (.tmp 127) (.tmp 130)), (.int .u32), none⟩
  (.take 8 ⟨(some 132), (.iaA 8 1 (.tmp 3) (.tmp 124)), .ptr, none⟩
  (.go 9 ⟨none, (.st1 (.tmp 132) (.tmp 131)), .any, none⟩ []
  .done)))))))))) [12, 3, 8, 6, 5, 4, 2]))
 (.ops [⟨(some 122), (.mv (.tmp 12)), (.int .i64), none⟩,
  ⟨(some 123), (.bin .add (.tmp 122) (.const (.int .i64 1))), (.int .i64), none⟩,
  ⟨(some 12), (.mv (.tmp 123)), (.int .i64), none⟩] [12, 3, 8, 6, 5, 4, 2]))))))))))
 (.ops [⟨(some 23), (.mv (.tmp 6)), (.int .i64), none⟩,
  ⟨(some 24), (.bin .add (.tmp 23) (.const (.int .i64 64))), (.int .i64), none⟩,
  ⟨(some 6), (.mv (.tmp 24)), (.int .i64), none⟩] [6, 5, 3, 4, 2]))))))
 (.seq (.ops [⟨(some 13), (.alloc 24), .ptr, none⟩] [3, 13, 2])
 (.seq (.seq (.ops [⟨(some 14), (.mv (.const (.int .i64 0))), (.int .i64), none⟩] [14, 3, 13, 2])
 (.block 6
 (.loop [(14, (.int .i64))] [2, 3, 13]
 (.seq (.seq (.ops [⟨(some 133), (.mv (.tmp 14)), (.int .i64), none⟩,
  ⟨(some 134), (.bin .lss (.tmp 133) (.const (.int .i64 32))), .bool, none⟩] [134, 14, 3, 13, 2])
 (.cond (.tmp 134)
 .skip
 (.exit 6)))
 (.seq (.block 7
 (.ops [⟨(some 137), (.mv (.tmp 14)), (.int .i64), none⟩,
  ⟨(some 138), (.mv (.tmp 14)), (.int .i64), none⟩,
  ⟨(some 139), (.bin .quo (.tmp 138) (.const (.int .i64 4))), (.int .i64), none⟩,
  ⟨(some 140), (.iaA 8 1 (.tmp 3) (.tmp 139)), .ptr, none⟩,
  ⟨(some 141), (.ld1 (.tmp 140)), (.int .u32), none⟩,
  ⟨(some 142), (.mv (.tmp 14)), (.int .i64), none⟩,
  ⟨(some 143), (.bin .rem (.tmp 142) (.const (.int .i64 4))), (.int .i64), none⟩,
  ⟨(some 144), (.bin .mul (.const (.int .i64 8)) (.tmp 143)), (.int .i64), none⟩,
  ⟨(some 145), (.bin .sub (.const (.int .i64 24)) (.tmp 144)), (.int .i64), none⟩,
  ⟨(some 146), (.bin .shr (.tmp 141) (.tmp 145)), (.int .u32), none⟩,
  ⟨(some 147), (.cv .u8 (.tmp 146)), (.int .u8), none⟩,
  ⟨(some 148), (.iaA 32 1 (.tmp 13) (.tmp 137)), .ptr, none⟩,
  ⟨none, (.st1 (.tmp 148) (.tmp 147)), .any, none⟩] [14, 3, 13, 2]))
 (.ops [⟨(some 135), (.mv (.tmp 14)), (.int .i64), none⟩,
  ⟨(some 136), (.bin .add (.tmp 135) (.const (.int .i64 1))), (.int .i64), none⟩,
  ⟨(some 14), (.mv (.tmp 136)), (.int .i64), none⟩] [14, 3, 13, 2]))))))
 (.seq (.ops [⟨(some 149), (.ldN 32 (.tmp 13)), .agg, none⟩,
  ⟨none, (.stN 32 (.tmp 2) (.tmp 149)), .any, none⟩] [2])
 .ret))))))))
def r13 : List Res := [.cN 2 32]
theorem tr13 : trS Tryd.prog [] 150 (Tryd.f13.body.getD .skip) s13 = some s13 := by kernel_rfl
theorem den13 (args : List Value) (w : World) (R : Ending → World → Prop) (hn : args.length ≤ 150) (h : denS Tryd.prog s13 (argsEnv 0 args) w (endK r13 R)) : Calls Tryd.prog 13 args.toArray w R :=
  calls_of_den (pn := []) (fn := Tryd.f13) (c := Tryd.f13.body.getD .skip) Tryd.func13 (by kernel_rfl) (by rw [Tryd.ntmps13]; exact hn) (by rw [Tryd.ntmps13]; exact tr13) (by kernel_rfl) h
def d13 (b0 : Option Addr) (b0n : Nat) (b0c : Nat) (w : World) (R : Ending → World → Prop) : Prop :=
 ∀ w1 : World, w1 = World.alloc w (.cells (zc Tryd.prog 24).toArray 24) →
 Calls Tryd.prog 45 #[] w1 fun e2 w3 => ∃ x4 : Array Value, e2 = .returned (.agg x4) ∧
 ∀ w5 : World, w5 = World.alloc w3 (.cells (zc Tryd.prog 91).toArray 91) →
 Array.size x4 = 8 ∧ (∀ u ∈ Array.toList x4, one u = true) ∧ Room w5 ⟨World.heap w3 |>.size, 0, none⟩ 8 ∧
 ∀ w6 : World, w6 = setCells w5 ⟨World.heap w3 |>.size, 0, none⟩ (Array.toList x4) 0 →
 Calls Tryd.prog 46 #[] w6 fun e7 w8 => ∃ x9 : Array Value, e7 = .returned (.agg x9) ∧
 ∀ w10 : World, w10 = World.alloc w8 (.cells (zc Tryd.prog 96).toArray 96) →
 Array.size x9 = 64 ∧ (∀ u ∈ Array.toList x9, one u = true) ∧ Room w10 ⟨World.heap w8 |>.size, 0, none⟩ 64 ∧
 ∀ w11 : World, w11 = setCells w10 ⟨World.heap w8 |>.size, 0, none⟩ (Array.toList x9) 0 →
 Calls Tryd.prog 47 #[(.slice b0 b0n b0c)] w11 fun e12 w13 => ∃ (x14 : Option Addr) (x14n : Nat) (x14c : Nat), e12 = .returned (.slice x14 x14n x14c) ∧
 ∃ I15 : Nat → Int → World → Prop,
 (∃ m, I15 m 0 w13) ∧
 (∀ (m16 : Nat) (w17 : World) (at18 : Int), I15 m16 at18 w17 →
 (bif (decide (at18 < ((x14n : Nat) : Int))) then
 (0 ≤ (IntKind.wrap .i64 (at18 + 64)) ∧ (IntKind.wrap .i64 (at18 + 64)) ≤ ((x14c : Nat) : Int) ∧ 0 ≤ at18 ∧ at18 ≤ (((Int.toNat (IntKind.wrap .i64 (at18 + 64))) : Nat) : Int) ∧ Calls Tryd.prog 48 #[(.slice (if x14c = (Int.toNat at18) then x14 else Option.map (fun y => Addr.add y ((Int.toNat at18) * 1)) x14) ((Int.toNat (IntKind.wrap .i64 (at18 + 64))) - (Int.toNat at18)) (x14c - (Int.toNat at18)))] w17 fun e19 w20 => ∃ x21 : Array Value, e19 = .returned (.agg x21) ∧
 ∀ w22 : World, w22 = World.alloc w20 (.cells (zc Tryd.prog 96).toArray 96) →
 Array.size x21 = 64 ∧ (∀ u ∈ Array.toList x21, one u = true) ∧ Room w22 ⟨World.heap w20 |>.size, 0, none⟩ 64 ∧
 ∀ w23 : World, w23 = setCells w22 ⟨World.heap w20 |>.size, 0, none⟩ (Array.toList x21) 0 →
 ∃ cs24 : List Value, List.length cs24 = 8 ∧ Cells w23 ⟨World.heap w3 |>.size, 0, none⟩ cs24 ∧
 ∀ w25 : World, w25 = World.alloc w23 (.cells (zc Tryd.prog 91).toArray 91) →
 Array.size (List.toArray cs24) = 8 ∧ (∀ u ∈ Array.toList (List.toArray cs24), one u = true) ∧ Room w25 ⟨World.heap w23 |>.size, 0, none⟩ 8 ∧
 ∀ w26 : World, w26 = setCells w25 ⟨World.heap w23 |>.size, 0, none⟩ (Array.toList (List.toArray cs24)) 0 →
 ∃ I27 : Nat → Int → World → Prop,
 (∃ m, I27 m 0 w26) ∧
 (∀ (m28 : Nat) (w29 : World) (t30 : Int), I27 m28 t30 w29 →
 (bif (decide (t30 < 64)) then
 (∀ w31 : World, w31 = World.drew w29 →
 0 ≤ (7 : Int) ∧ (7 : Int) < ((8 : Nat) : Int) ∧
 ∃ x32 : Int, World.cell? w31 (Addr.add ⟨World.heap w23 |>.size, 0, none⟩ (Int.toNat 7 * 1)) = some (.int .u32 x32) ∧
 0 ≤ (4 : Int) ∧ (4 : Int) < ((8 : Nat) : Int) ∧
 ∃ x33 : Int, World.cell? w31 (Addr.add ⟨World.heap w23 |>.size, 0, none⟩ (Int.toNat 4 * 1)) = some (.int .u32 x33) ∧
 0 ≤ (4 : Int) ∧ (4 : Int) < ((8 : Nat) : Int) ∧
 ∃ x34 : Int, World.cell? w31 (Addr.add ⟨World.heap w23 |>.size, 0, none⟩ (Int.toNat 4 * 1)) = some (.int .u32 x34) ∧
 0 ≤ (4 : Int) ∧ (4 : Int) < ((8 : Nat) : Int) ∧
 ∃ x35 : Int, World.cell? w31 (Addr.add ⟨World.heap w23 |>.size, 0, none⟩ (Int.toNat 4 * 1)) = some (.int .u32 x35) ∧
 0 ≤ (4 : Int) ∧ (4 : Int) < ((8 : Nat) : Int) ∧
 ∃ x36 : Int, World.cell? w31 (Addr.add ⟨World.heap w23 |>.size, 0, none⟩ (Int.toNat 4 * 1)) = some (.int .u32 x36) ∧
 0 ≤ (5 : Int) ∧ (5 : Int) < ((8 : Nat) : Int) ∧
 ∃ x37 : Int, World.cell? w31 (Addr.add ⟨World.heap w23 |>.size, 0, none⟩ (Int.toNat 5 * 1)) = some (.int .u32 x37) ∧
 0 ≤ (4 : Int) ∧ (4 : Int) < ((8 : Nat) : Int) ∧
 ∃ x38 : Int, World.cell? w31 (Addr.add ⟨World.heap w23 |>.size, 0, none⟩ (Int.toNat 4 * 1)) = some (.int .u32 x38) ∧
 0 ≤ (6 : Int) ∧ (6 : Int) < ((8 : Nat) : Int) ∧
 ∃ x39 : Int, World.cell? w31 (Addr.add ⟨World.heap w23 |>.size, 0, none⟩ (Int.toNat 6 * 1)) = some (.int .u32 x39) ∧
 0 ≤ t30 ∧ t30 < ((64 : Nat) : Int) ∧
 ∃ x40 : Int, World.cell? w31 (Addr.add ⟨World.heap w8 |>.size, 0, none⟩ (Int.toNat t30 * 1)) = some (.int .u32 x40) ∧
 0 ≤ t30 ∧ t30 < ((64 : Nat) : Int) ∧
 ∃ x41 : Int, World.cell? w31 (Addr.add ⟨World.heap w20 |>.size, 0, none⟩ (Int.toNat t30 * 1)) = some (.int .u32 x41) ∧
 Calls Tryd.prog 49 #[(.int .u32 x33), (.int .u32 6)] w31 fun e42 w43 => ∃ x44 : Int, e42 = .returned (.int .u32 x44) ∧
 (∃ z45 : Int, World.cell? w43 (Addr.add ⟨World.heap w20 |>.size, 0, none⟩ (Int.toNat t30 * 1)) = some (.int .u32 z45) ∧
 (((.int .u32 z45) : Value) = (.int .u32 x41) ∧ w43 = w43)) ∧
 (∃ z46 : Int, World.cell? w43 (Addr.add ⟨World.heap w8 |>.size, 0, none⟩ (Int.toNat t30 * 1)) = some (.int .u32 z46) ∧
 (((.int .u32 z46) : Value) = (.int .u32 x40) ∧ w43 = w43)) ∧
 (∃ z47 : Int, World.cell? w43 (Addr.add ⟨World.heap w23 |>.size, 0, none⟩ (Int.toNat 6 * 1)) = some (.int .u32 z47) ∧
 (((.int .u32 z47) : Value) = (.int .u32 x39) ∧ w43 = w43)) ∧
 (∃ z48 : Int, World.cell? w43 (Addr.add ⟨World.heap w23 |>.size, 0, none⟩ (Int.toNat 4 * 1)) = some (.int .u32 z48) ∧
 (((.int .u32 z48) : Value) = (.int .u32 x38) ∧ w43 = w43)) ∧
 (∃ z49 : Int, World.cell? w43 (Addr.add ⟨World.heap w23 |>.size, 0, none⟩ (Int.toNat 5 * 1)) = some (.int .u32 z49) ∧
 (((.int .u32 z49) : Value) = (.int .u32 x37) ∧ w43 = w43)) ∧
 (∃ z50 : Int, World.cell? w43 (Addr.add ⟨World.heap w23 |>.size, 0, none⟩ (Int.toNat 4 * 1)) = some (.int .u32 z50) ∧
 (((.int .u32 z50) : Value) = (.int .u32 x36) ∧ w43 = w43)) ∧
 (∃ z51 : Int, World.cell? w43 (Addr.add ⟨World.heap w23 |>.size, 0, none⟩ (Int.toNat 4 * 1)) = some (.int .u32 z51) ∧
 (((.int .u32 z51) : Value) = (.int .u32 x35) ∧ w43 = w43)) ∧
 (∃ z52 : Int, World.cell? w43 (Addr.add ⟨World.heap w23 |>.size, 0, none⟩ (Int.toNat 4 * 1)) = some (.int .u32 z52) ∧
 (((.int .u32 z52) : Value) = (.int .u32 x34) ∧ w43 = w43)) ∧
 (∃ z53 : Int, World.cell? w43 (Addr.add ⟨World.heap w23 |>.size, 0, none⟩ (Int.toNat 7 * 1)) = some (.int .u32 z53) ∧
 (((.int .u32 z53) : Value) = (.int .u32 x32) ∧ w43 = w43)) ∧
 Calls Tryd.prog 49 #[(.int .u32 x34), (.int .u32 11)] w43 fun e54 w55 => ∃ x56 : Int, e54 = .returned (.int .u32 x56) ∧
 (∃ z57 : Int, World.cell? w55 (Addr.add ⟨World.heap w20 |>.size, 0, none⟩ (Int.toNat t30 * 1)) = some (.int .u32 z57) ∧
 (((.int .u32 z57) : Value) = (.int .u32 x41) ∧ w55 = w55)) ∧
 (∃ z58 : Int, World.cell? w55 (Addr.add ⟨World.heap w8 |>.size, 0, none⟩ (Int.toNat t30 * 1)) = some (.int .u32 z58) ∧
 (((.int .u32 z58) : Value) = (.int .u32 x40) ∧ w55 = w55)) ∧
 (∃ z59 : Int, World.cell? w55 (Addr.add ⟨World.heap w23 |>.size, 0, none⟩ (Int.toNat 6 * 1)) = some (.int .u32 z59) ∧
 (((.int .u32 z59) : Value) = (.int .u32 x39) ∧ w55 = w55)) ∧
 (∃ z60 : Int, World.cell? w55 (Addr.add ⟨World.heap w23 |>.size, 0, none⟩ (Int.toNat 4 * 1)) = some (.int .u32 z60) ∧
 (((.int .u32 z60) : Value) = (.int .u32 x38) ∧ w55 = w55)) ∧
 (∃ z61 : Int, World.cell? w55 (Addr.add ⟨World.heap w23 |>.size, 0, none⟩ (Int.toNat 5 * 1)) = some (.int .u32 z61) ∧
 (((.int .u32 z61) : Value) = (.int .u32 x37) ∧ w55 = w55)) ∧
 (∃ z62 : Int, World.cell? w55 (Addr.add ⟨World.heap w23 |>.size, 0, none⟩ (Int.toNat 4 * 1)) = some (.int .u32 z62) ∧
 (((.int .u32 z62) : Value) = (.int .u32 x36) ∧ w55 = w55)) ∧
 (∃ z63 : Int, World.cell? w55 (Addr.add ⟨World.heap w23 |>.size, 0, none⟩ (Int.toNat 4 * 1)) = some (.int .u32 z63) ∧
 (((.int .u32 z63) : Value) = (.int .u32 x35) ∧ w55 = w55)) ∧
 (∃ z64 : Int, World.cell? w55 (Addr.add ⟨World.heap w23 |>.size, 0, none⟩ (Int.toNat 7 * 1)) = some (.int .u32 z64) ∧
 (((.int .u32 z64) : Value) = (.int .u32 x32) ∧ w55 = w55)) ∧
 Calls Tryd.prog 49 #[(.int .u32 x35), (.int .u32 25)] w55 fun e65 w66 => ∃ x67 : Int, e65 = .returned (.int .u32 x67) ∧
 (∃ z68 : Int, World.cell? w66 (Addr.add ⟨World.heap w20 |>.size, 0, none⟩ (Int.toNat t30 * 1)) = some (.int .u32 z68) ∧
 (((.int .u32 z68) : Value) = (.int .u32 x41) ∧ w66 = w66)) ∧
 (∃ z69 : Int, World.cell? w66 (Addr.add ⟨World.heap w8 |>.size, 0, none⟩ (Int.toNat t30 * 1)) = some (.int .u32 z69) ∧
 (((.int .u32 z69) : Value) = (.int .u32 x40) ∧ w66 = w66)) ∧
 (∃ z70 : Int, World.cell? w66 (Addr.add ⟨World.heap w23 |>.size, 0, none⟩ (Int.toNat 6 * 1)) = some (.int .u32 z70) ∧
 (((.int .u32 z70) : Value) = (.int .u32 x39) ∧ w66 = w66)) ∧
 (∃ z71 : Int, World.cell? w66 (Addr.add ⟨World.heap w23 |>.size, 0, none⟩ (Int.toNat 4 * 1)) = some (.int .u32 z71) ∧
 (((.int .u32 z71) : Value) = (.int .u32 x38) ∧ w66 = w66)) ∧
 (∃ z72 : Int, World.cell? w66 (Addr.add ⟨World.heap w23 |>.size, 0, none⟩ (Int.toNat 5 * 1)) = some (.int .u32 z72) ∧
 (((.int .u32 z72) : Value) = (.int .u32 x37) ∧ w66 = w66)) ∧
 (∃ z73 : Int, World.cell? w66 (Addr.add ⟨World.heap w23 |>.size, 0, none⟩ (Int.toNat 4 * 1)) = some (.int .u32 z73) ∧
 (((.int .u32 z73) : Value) = (.int .u32 x36) ∧ w66 = w66)) ∧
 (∃ z74 : Int, World.cell? w66 (Addr.add ⟨World.heap w23 |>.size, 0, none⟩ (Int.toNat 7 * 1)) = some (.int .u32 z74) ∧
 (((.int .u32 z74) : Value) = (.int .u32 x32) ∧ w66 = w66)) ∧
 ∀ w75 : World, w75 = World.drew w66 →
 0 ≤ (0 : Int) ∧ (0 : Int) < ((8 : Nat) : Int) ∧
 ∃ x76 : Int, World.cell? w75 (Addr.add ⟨World.heap w23 |>.size, 0, none⟩ (Int.toNat 0 * 1)) = some (.int .u32 x76) ∧
 0 ≤ (0 : Int) ∧ (0 : Int) < ((8 : Nat) : Int) ∧
 ∃ x77 : Int, World.cell? w75 (Addr.add ⟨World.heap w23 |>.size, 0, none⟩ (Int.toNat 0 * 1)) = some (.int .u32 x77) ∧
 0 ≤ (0 : Int) ∧ (0 : Int) < ((8 : Nat) : Int) ∧
 ∃ x78 : Int, World.cell? w75 (Addr.add ⟨World.heap w23 |>.size, 0, none⟩ (Int.toNat 0 * 1)) = some (.int .u32 x78) ∧
 0 ≤ (0 : Int) ∧ (0 : Int) < ((8 : Nat) : Int) ∧
 ∃ x79 : Int, World.cell? w75 (Addr.add ⟨World.heap w23 |>.size, 0, none⟩ (Int.toNat 0 * 1)) = some (.int .u32 x79) ∧
 0 ≤ (1 : Int) ∧ (1 : Int) < ((8 : Nat) : Int) ∧
 ∃ x80 : Int, World.cell? w75 (Addr.add ⟨World.heap w23 |>.size, 0, none⟩ (Int.toNat 1 * 1)) = some (.int .u32 x80) ∧
 0 ≤ (0 : Int) ∧ (0 : Int) < ((8 : Nat) : Int) ∧
 ∃ x81 : Int, World.cell? w75 (Addr.add ⟨World.heap w23 |>.size, 0, none⟩ (Int.toNat 0 * 1)) = some (.int .u32 x81) ∧
 0 ≤ (2 : Int) ∧ (2 : Int) < ((8 : Nat) : Int) ∧
 ∃ x82 : Int, World.cell? w75 (Addr.add ⟨World.heap w23 |>.size, 0, none⟩ (Int.toNat 2 * 1)) = some (.int .u32 x82) ∧
 0 ≤ (1 : Int) ∧ (1 : Int) < ((8 : Nat) : Int) ∧
 ∃ x83 : Int, World.cell? w75 (Addr.add ⟨World.heap w23 |>.size, 0, none⟩ (Int.toNat 1 * 1)) = some (.int .u32 x83) ∧
 0 ≤ (2 : Int) ∧ (2 : Int) < ((8 : Nat) : Int) ∧
 ∃ x84 : Int, World.cell? w75 (Addr.add ⟨World.heap w23 |>.size, 0, none⟩ (Int.toNat 2 * 1)) = some (.int .u32 x84) ∧
 Calls Tryd.prog 49 #[(.int .u32 x76), (.int .u32 2)] w75 fun e85 w86 => ∃ x87 : Int, e85 = .returned (.int .u32 x87) ∧
 (∃ z88 : Int, World.cell? w86 (Addr.add ⟨World.heap w23 |>.size, 0, none⟩ (Int.toNat 2 * 1)) = some (.int .u32 z88) ∧
 (((.int .u32 z88) : Value) = (.int .u32 x84) ∧ w86 = w86)) ∧
 (∃ z89 : Int, World.cell? w86 (Addr.add ⟨World.heap w23 |>.size, 0, none⟩ (Int.toNat 1 * 1)) = some (.int .u32 z89) ∧
 (((.int .u32 z89) : Value) = (.int .u32 x83) ∧ w86 = w86)) ∧
 (∃ z90 : Int, World.cell? w86 (Addr.add ⟨World.heap w23 |>.size, 0, none⟩ (Int.toNat 2 * 1)) = some (.int .u32 z90) ∧
 (((.int .u32 z90) : Value) = (.int .u32 x82) ∧ w86 = w86)) ∧
 (∃ z91 : Int, World.cell? w86 (Addr.add ⟨World.heap w23 |>.size, 0, none⟩ (Int.toNat 0 * 1)) = some (.int .u32 z91) ∧
 (((.int .u32 z91) : Value) = (.int .u32 x81) ∧ w86 = w86)) ∧
 (∃ z92 : Int, World.cell? w86 (Addr.add ⟨World.heap w23 |>.size, 0, none⟩ (Int.toNat 1 * 1)) = some (.int .u32 z92) ∧
 (((.int .u32 z92) : Value) = (.int .u32 x80) ∧ w86 = w86)) ∧
 (∃ z93 : Int, World.cell? w86 (Addr.add ⟨World.heap w23 |>.size, 0, none⟩ (Int.toNat 0 * 1)) = some (.int .u32 z93) ∧
 (((.int .u32 z93) : Value) = (.int .u32 x79) ∧ w86 = w86)) ∧
 (∃ z94 : Int, World.cell? w86 (Addr.add ⟨World.heap w23 |>.size, 0, none⟩ (Int.toNat 0 * 1)) = some (.int .u32 z94) ∧
 (((.int .u32 z94) : Value) = (.int .u32 x78) ∧ w86 = w86)) ∧
 (∃ z95 : Int, World.cell? w86 (Addr.add ⟨World.heap w23 |>.size, 0, none⟩ (Int.toNat 0 * 1)) = some (.int .u32 z95) ∧
 (((.int .u32 z95) : Value) = (.int .u32 x77) ∧ w86 = w86)) ∧
 Calls Tryd.prog 49 #[(.int .u32 x77), (.int .u32 13)] w86 fun e96 w97 => ∃ x98 : Int, e96 = .returned (.int .u32 x98) ∧
 (∃ z99 : Int, World.cell? w97 (Addr.add ⟨World.heap w23 |>.size, 0, none⟩ (Int.toNat 2 * 1)) = some (.int .u32 z99) ∧
 (((.int .u32 z99) : Value) = (.int .u32 x84) ∧ w97 = w97)) ∧
 (∃ z100 : Int, World.cell? w97 (Addr.add ⟨World.heap w23 |>.size, 0, none⟩ (Int.toNat 1 * 1)) = some (.int .u32 z100) ∧
 (((.int .u32 z100) : Value) = (.int .u32 x83) ∧ w97 = w97)) ∧
 (∃ z101 : Int, World.cell? w97 (Addr.add ⟨World.heap w23 |>.size, 0, none⟩ (Int.toNat 2 * 1)) = some (.int .u32 z101) ∧
 (((.int .u32 z101) : Value) = (.int .u32 x82) ∧ w97 = w97)) ∧
 (∃ z102 : Int, World.cell? w97 (Addr.add ⟨World.heap w23 |>.size, 0, none⟩ (Int.toNat 0 * 1)) = some (.int .u32 z102) ∧
 (((.int .u32 z102) : Value) = (.int .u32 x81) ∧ w97 = w97)) ∧
 (∃ z103 : Int, World.cell? w97 (Addr.add ⟨World.heap w23 |>.size, 0, none⟩ (Int.toNat 1 * 1)) = some (.int .u32 z103) ∧
 (((.int .u32 z103) : Value) = (.int .u32 x80) ∧ w97 = w97)) ∧
 (∃ z104 : Int, World.cell? w97 (Addr.add ⟨World.heap w23 |>.size, 0, none⟩ (Int.toNat 0 * 1)) = some (.int .u32 z104) ∧
 (((.int .u32 z104) : Value) = (.int .u32 x79) ∧ w97 = w97)) ∧
 (∃ z105 : Int, World.cell? w97 (Addr.add ⟨World.heap w23 |>.size, 0, none⟩ (Int.toNat 0 * 1)) = some (.int .u32 z105) ∧
 (((.int .u32 z105) : Value) = (.int .u32 x78) ∧ w97 = w97)) ∧
 Calls Tryd.prog 49 #[(.int .u32 x78), (.int .u32 22)] w97 fun e106 w107 => ∃ x108 : Int, e106 = .returned (.int .u32 x108) ∧
 (∃ z109 : Int, World.cell? w107 (Addr.add ⟨World.heap w23 |>.size, 0, none⟩ (Int.toNat 2 * 1)) = some (.int .u32 z109) ∧
 (((.int .u32 z109) : Value) = (.int .u32 x84) ∧ w107 = w107)) ∧
 (∃ z110 : Int, World.cell? w107 (Addr.add ⟨World.heap w23 |>.size, 0, none⟩ (Int.toNat 1 * 1)) = some (.int .u32 z110) ∧
 (((.int .u32 z110) : Value) = (.int .u32 x83) ∧ w107 = w107)) ∧
 (∃ z111 : Int, World.cell? w107 (Addr.add ⟨World.heap w23 |>.size, 0, none⟩ (Int.toNat 2 * 1)) = some (.int .u32 z111) ∧
 (((.int .u32 z111) : Value) = (.int .u32 x82) ∧ w107 = w107)) ∧
 (∃ z112 : Int, World.cell? w107 (Addr.add ⟨World.heap w23 |>.size, 0, none⟩ (Int.toNat 0 * 1)) = some (.int .u32 z112) ∧
 (((.int .u32 z112) : Value) = (.int .u32 x81) ∧ w107 = w107)) ∧
 (∃ z113 : Int, World.cell? w107 (Addr.add ⟨World.heap w23 |>.size, 0, none⟩ (Int.toNat 1 * 1)) = some (.int .u32 z113) ∧
 (((.int .u32 z113) : Value) = (.int .u32 x80) ∧ w107 = w107)) ∧
 (∃ z114 : Int, World.cell? w107 (Addr.add ⟨World.heap w23 |>.size, 0, none⟩ (Int.toNat 0 * 1)) = some (.int .u32 z114) ∧
 (((.int .u32 z114) : Value) = (.int .u32 x79) ∧ w107 = w107)) ∧
 0 ≤ (0 : Int) ∧ (0 : Int) < ((8 : Nat) : Int) ∧
 ∃ x115 : Int, World.cell? w107 (Addr.add ⟨World.heap w23 |>.size, 0, none⟩ (Int.toNat 0 * 1)) = some (.int .u32 x115) ∧
 0 ≤ (1 : Int) ∧ (1 : Int) < ((8 : Nat) : Int) ∧
 ∃ x116 : Int, World.cell? w107 (Addr.add ⟨World.heap w23 |>.size, 0, none⟩ (Int.toNat 1 * 1)) = some (.int .u32 x116) ∧
 0 ≤ (2 : Int) ∧ (2 : Int) < ((8 : Nat) : Int) ∧
 ∃ x117 : Int, World.cell? w107 (Addr.add ⟨World.heap w23 |>.size, 0, none⟩ (Int.toNat 2 * 1)) = some (.int .u32 x117) ∧
 0 ≤ (3 : Int) ∧ (3 : Int) < ((8 : Nat) : Int) ∧
 ∃ x118 : Int, World.cell? w107 (Addr.add ⟨World.heap w23 |>.size, 0, none⟩ (Int.toNat 3 * 1)) = some (.int .u32 x118) ∧
 0 ≤ (4 : Int) ∧ (4 : Int) < ((8 : Nat) : Int) ∧
 ∃ x119 : Int, World.cell? w107 (Addr.add ⟨World.heap w23 |>.size, 0, none⟩ (Int.toNat 4 * 1)) = some (.int .u32 x119) ∧
 0 ≤ (5 : Int) ∧ (5 : Int) < ((8 : Nat) : Int) ∧
 ∃ x120 : Int, World.cell? w107 (Addr.add ⟨World.heap w23 |>.size, 0, none⟩ (Int.toNat 5 * 1)) = some (.int .u32 x120) ∧
 0 ≤ (6 : Int) ∧ (6 : Int) < ((8 : Nat) : Int) ∧
 ∃ x121 : Int, World.cell? w107 (Addr.add ⟨World.heap w23 |>.size, 0, none⟩ (Int.toNat 6 * 1)) = some (.int .u32 x121) ∧
 ∃ cs122, fillL (.elems 1) (zc Tryd.prog 91) [(0, (.int .u32 (IntKind.wrap .u32 ((IntKind.wrap .u32 ((IntKind.wrap .u32 ((IntKind.wrap .u32 ((IntKind.wrap .u32 (x32 + (bXor .u32 (bXor .u32 x44 x56) x67))) + (bXor .u32 (bAnd .u32 x36 x37) (bAnd .u32 (bXor .u32 (IntKind.max .u32) x38) x39)))) + x40)) + x41)) + (IntKind.wrap .u32 ((bXor .u32 (bXor .u32 x87 x98) x108) + (bXor .u32 (bXor .u32 (bAnd .u32 x79 x80) (bAnd .u32 x81 x82)) (bAnd .u32 x83 x84)))))))), (1, (.int .u32 x115)), (2, (.int .u32 x116)), (3, (.int .u32 x117)), (4, (.int .u32 (IntKind.wrap .u32 (x118 + (IntKind.wrap .u32 ((IntKind.wrap .u32 ((IntKind.wrap .u32 ((IntKind.wrap .u32 (x32 + (bXor .u32 (bXor .u32 x44 x56) x67))) + (bXor .u32 (bAnd .u32 x36 x37) (bAnd .u32 (bXor .u32 (IntKind.max .u32) x38) x39)))) + x40)) + x41)))))), (5, (.int .u32 x119)), (6, (.int .u32 x120)), (7, (.int .u32 x121))] = some cs122 ∧
 Array.size (List.toArray cs122) = 8 ∧ (∀ u ∈ Array.toList (List.toArray cs122), one u = true) ∧ Room w107 ⟨World.heap w23 |>.size, 0, none⟩ 8 ∧
 ∀ w123 : World, w123 = setCells w107 ⟨World.heap w23 |>.size, 0, none⟩ (Array.toList (List.toArray cs122)) 0 →
 ∃ m124, m124 < m28 ∧ I27 m124 (IntKind.wrap .i64 (t30 + 1)) w123)
 else
 (∃ I125 : Nat → Int → World → Prop,
 (∃ m, I125 m 0 w29) ∧
 (∀ (m126 : Nat) (w127 : World) (i128 : Int), I125 m126 i128 w127 →
 (bif (decide (i128 < 8)) then
 (∀ w129 : World, w129 = World.drew w127 →
 0 ≤ i128 ∧ i128 < ((8 : Nat) : Int) ∧
 ∃ x130 : Int, World.cell? w129 (Addr.add ⟨World.heap w3 |>.size, 0, none⟩ (Int.toNat i128 * 1)) = some (.int .u32 x130) ∧
 0 ≤ i128 ∧ i128 < ((8 : Nat) : Int) ∧
 ∃ x131 : Int, World.cell? w129 (Addr.add ⟨World.heap w23 |>.size, 0, none⟩ (Int.toNat i128 * 1)) = some (.int .u32 x131) ∧
 0 ≤ i128 ∧ i128 < ((8 : Nat) : Int) ∧
 one (.int .u32 (IntKind.wrap .u32 (x130 + x131))) = true ∧ Option.isSome (World.cell? w129 (Addr.add ⟨World.heap w3 |>.size, 0, none⟩ (Int.toNat i128 * 1))) = true ∧ World.frozen? w129 (Addr.add ⟨World.heap w3 |>.size, 0, none⟩ (Int.toNat i128 * 1)) = false ∧
 ∀ w132 : World, w132 = World.setCell w129 (Addr.add ⟨World.heap w3 |>.size, 0, none⟩ (Int.toNat i128 * 1)) (.int .u32 (IntKind.wrap .u32 (x130 + x131))) →
 ∃ m133, m133 < m126 ∧ I125 m133 (IntKind.wrap .i64 (i128 + 1)) w132)
 else
 (∃ m134, m134 < m16 ∧ I15 m134 (IntKind.wrap .i64 (at18 + 64)) w127)))))))
 else
 (∀ w135 : World, w135 = World.alloc w17 (.cells (zc Tryd.prog 24).toArray 24) →
 ∃ I136 : Nat → Int → World → Prop,
 (∃ m, I136 m 0 w135) ∧
 (∀ (m137 : Nat) (w138 : World) (i139 : Int), I136 m137 i139 w138 →
 (bif (decide (i139 < 32)) then
 ((4 : Int) ≠ 0 ∧ 0 ≤ (IntKind.wrap .i64 (Int.tdiv i139 4)) ∧ (IntKind.wrap .i64 (Int.tdiv i139 4)) < ((8 : Nat) : Int) ∧
 ∃ x140 : Int, World.cell? w138 (Addr.add ⟨World.heap w3 |>.size, 0, none⟩ (Int.toNat (IntKind.wrap .i64 (Int.tdiv i139 4)) * 1)) = some (.int .u32 x140) ∧
 (4 : Int) ≠ 0 ∧ 0 ≤ (IntKind.wrap .i64 (24 - (IntKind.wrap .i64 (8 * (Int.tmod i139 4))))) ∧ 0 ≤ i139 ∧ i139 < ((32 : Nat) : Int) ∧
 one (.int .u8 (IntKind.wrap .u8 (shR .u32 x140 (IntKind.wrap .i64 (24 - (IntKind.wrap .i64 (8 * (Int.tmod i139 4)))))))) = true ∧ Option.isSome (World.cell? w138 (Addr.add ⟨World.heap w17 |>.size, 0, none⟩ (Int.toNat i139 * 1))) = true ∧ World.frozen? w138 (Addr.add ⟨World.heap w17 |>.size, 0, none⟩ (Int.toNat i139 * 1)) = false ∧
 ∀ w141 : World, w141 = World.setCell w138 (Addr.add ⟨World.heap w17 |>.size, 0, none⟩ (Int.toNat i139 * 1)) (.int .u8 (IntKind.wrap .u8 (shR .u32 x140 (IntKind.wrap .i64 (24 - (IntKind.wrap .i64 (8 * (Int.tmod i139 4)))))))) →
 ∃ m142, m142 < m137 ∧ I136 m142 (IntKind.wrap .i64 (i139 + 1)) w141)
 else
 (∃ cs143 : List Value, List.length cs143 = 32 ∧ Cells w138 ⟨World.heap w17 |>.size, 0, none⟩ cs143 ∧
 Array.size (List.toArray cs143) = 32 ∧ (∀ u ∈ Array.toList (List.toArray cs143), one u = true) ∧ Room w138 ⟨World.heap w |>.size, 0, none⟩ 32 ∧
 ∀ w144 : World, w144 = setCells w138 ⟨World.heap w |>.size, 0, none⟩ (Array.toList (List.toArray cs143)) 0 →
 ∃ cs145 : List Value, List.length cs145 = 32 ∧ Cells w144 ⟨World.heap w |>.size, 0, none⟩ cs145 ∧
 R (.returned (.agg (List.toArray cs145))) w144))))))
theorem e13 (b0 : Option Addr) (b0n : Nat) (b0c : Nat) (w : World) (R : Ending → World → Prop) : denS Tryd.prog s13 (argsEnv 0 [(.slice b0 b0n b0c)]) w (endK r13 R) = d13 b0 b0n b0c w R := by kernel_rfl
theorem c13 (b0 : Option Addr) (b0n : Nat) (b0c : Nat) {w : World} {R : Ending → World → Prop} (h : d13 b0 b0n b0c w R) : Calls Tryd.prog 13 #[(.slice b0 b0n b0c)] w R :=
  den13 [(.slice b0 b0n b0c)] w R (by simp) ((e13 b0 b0n b0c w R).symm ▸ h)

/-- prelude/preludelaw24.sameBytes -/
def s14 : S := (.seq (.ops [⟨(some 4), (.mv (.const (.bool false))), .bool, none⟩] [0, 1])
 (.seq (.seq (.ops [⟨(some 6), (.mv (.tmp 0)), .sl, none⟩,
  ⟨(some 7), (.len (.tmp 6)), (.int .i64), none⟩,
  ⟨(some 8), (.mv (.tmp 1)), .sl, none⟩,
  ⟨(some 9), (.len (.tmp 8)), (.int .i64), none⟩,
  ⟨(some 10), (.bin .neq (.tmp 7) (.tmp 9)), .bool, none⟩] [10, 0, 1])
 (.cond (.tmp 10)
 (.seq (.ops [⟨(some 4), (.mv (.const (.bool false))), .bool, none⟩] [4])
 .ret)
 .skip))
 (.seq (.seq (.ops [⟨(some 5), (.mv (.const (.int .i64 0))), (.int .i64), none⟩] [5, 0, 1])
 (.block 0
 (.loop [(5, (.int .i64))] [0, 1]
 (.seq (.seq (.ops [⟨(some 11), (.mv (.tmp 5)), (.int .i64), none⟩,
  ⟨(some 12), (.mv (.tmp 0)), .sl, none⟩,
  ⟨(some 13), (.len (.tmp 12)), (.int .i64), none⟩,
  ⟨(some 14), (.bin .lss (.tmp 11) (.tmp 13)), .bool, none⟩] [14, 0, 5, 1])
 (.cond (.tmp 14)
 .skip
 (.exit 0)))
 (.seq (.block 1
 (.seq (.draw (.take 0 ⟨(some 17), (.mv (.tmp 0)), .sl, none⟩
  (.take 1 ⟨(some 18), (.mv (.tmp 5)), (.int .i64), none⟩
  (.take 2 ⟨(some 19), (.ia 1 (.tmp 17) (.tmp 18)), .ptr, none⟩
  (.take 3 ⟨(some 20), (.ld1 (.tmp 19)), (.int .u8), none⟩
  (.take 4 ⟨(some 21), (.mv (.tmp 1)), .sl, none⟩
  (.take 5 ⟨(some 22), (.mv (.tmp 5)), (.int .i64), none⟩
  (.take 6 ⟨(some 23), (.ia 1 (.tmp 21) (.tmp 22)), .ptr, none⟩
  (.take 7 ⟨(some 24), (.ld1 (.tmp 23)), (.int .u8), none⟩
  (.take 8 ⟨(some 25), (.bin .neq (.tmp 20) (.tmp 24)), .bool, none⟩
  .done))))))))) [25, 5, 0, 1])
 (.cond (.tmp 25)
 (.seq (.ops [⟨(some 4), (.mv (.const (.bool false))), .bool, none⟩] [4])
 .ret)
 .skip)))
 (.ops [⟨(some 15), (.mv (.tmp 5)), (.int .i64), none⟩,
  ⟨(some 16), (.bin .add (.tmp 15) (.const (.int .i64 1))), (.int .i64), none⟩,
  ⟨(some 5), (.mv (.tmp 16)), (.int .i64), none⟩] [5, 0, 1]))))))
 (.seq (.ops [⟨(some 4), (.mv (.const (.bool true))), .bool, none⟩] [4])
 .ret))))
def r14 : List Res := [.t 4]
theorem tr14 : trS Tryd.prog [] 26 (Tryd.f14.body.getD .skip) s14 = some s14 := by kernel_rfl
theorem den14 (args : List Value) (w : World) (R : Ending → World → Prop) (hn : args.length ≤ 26) (h : denS Tryd.prog s14 (argsEnv 0 args) w (endK r14 R)) : Calls Tryd.prog 14 args.toArray w R :=
  calls_of_den (pn := []) (fn := Tryd.f14) (c := Tryd.f14.body.getD .skip) Tryd.func14 (by kernel_rfl) (by rw [Tryd.ntmps14]; exact hn) (by rw [Tryd.ntmps14]; exact tr14) (by kernel_rfl) h
def d14 (a0 : Option Addr) (a0n : Nat) (a0c : Nat) (b1 : Option Addr) (b1n : Nat) (b1c : Nat) (w : World) (R : Ending → World → Prop) : Prop :=
 (bif (!decide (((a0n : Nat) : Int) = ((b1n : Nat) : Int))) then
 (R (.returned (.bool false)) w)
 else
 (∃ I2 : Nat → Int → World → Prop,
 (∃ m, I2 m 0 w) ∧
 (∀ (m3 : Nat) (w4 : World) (i5 : Int), I2 m3 i5 w4 →
 (bif (decide (i5 < ((a0n : Nat) : Int))) then
 (∀ w6 : World, w6 = World.drew w4 →
 0 ≤ i5 ∧ i5 < ((a0n : Nat) : Int) ∧ optK a0 fun a7 =>
 ∃ x8 : Int, World.cell? w6 (Addr.add a7 (Int.toNat i5 * 1)) = some (.int .u8 x8) ∧
 0 ≤ i5 ∧ i5 < ((b1n : Nat) : Int) ∧ optK b1 fun a9 =>
 ∃ x10 : Int, World.cell? w6 (Addr.add a9 (Int.toNat i5 * 1)) = some (.int .u8 x10) ∧
 (bif (!decide (x8 = x10)) then
 (R (.returned (.bool false)) w6)
 else
 (∃ m11, m11 < m3 ∧ I2 m11 (IntKind.wrap .i64 (i5 + 1)) w6)))
 else
 (R (.returned (.bool true)) w4)))))
theorem e14 (a0 : Option Addr) (a0n : Nat) (a0c : Nat) (b1 : Option Addr) (b1n : Nat) (b1c : Nat) (w : World) (R : Ending → World → Prop) : denS Tryd.prog s14 (argsEnv 0 [(.slice a0 a0n a0c), (.slice b1 b1n b1c)]) w (endK r14 R) = d14 a0 a0n a0c b1 b1n b1c w R := by kernel_rfl
theorem c14 (a0 : Option Addr) (a0n : Nat) (a0c : Nat) (b1 : Option Addr) (b1n : Nat) (b1c : Nat) {w : World} {R : Ending → World → Prop} (h : d14 a0 a0n a0c b1 b1n b1c w R) : Calls Tryd.prog 14 #[(.slice a0 a0n a0c), (.slice b1 b1n b1c)] w R :=
  den14 [(.slice a0 a0n a0c), (.slice b1 b1n b1c)] w R (by simp) ((e14 a0 a0n a0c b1 b1n b1c w R).symm ▸ h)

/-- prelude/proof.mix -/
def s44 : S := (.seq (.ops [⟨(some 4), (.alloc 96), .ptr, none⟩] [1, 4, 0])
 (.seq (.seq (.ops [⟨(some 22), (.mv (.const (.int .i64 0))), (.int .i64), none⟩] [22, 1, 4, 0])
 (.block 0
 (.loop [(22, (.int .i64))] [0, 1, 4]
 (.seq (.ops [⟨(some 23), (.bin .lss (.tmp 22) (.const (.int .i64 16))), .bool, none⟩] [23, 22, 1, 4, 0])
 (.seq (.cond (.tmp 23)
 .skip
 (.exit 0))
 (.seq (.block 1
 (.seq (.ops [⟨(some 24), (.mv (.tmp 22)), (.int .i64), none⟩,
  ⟨(some 5), (.mv (.tmp 24)), (.int .i64), none⟩] [1, 5, 4, 22, 0])
 (.seq (.ops [⟨(some 25), (.mv (.tmp 1)), .sl, none⟩,
  ⟨(some 26), (.mv (.tmp 5)), (.int .i64), none⟩,
  ⟨(some 27), (.bin .mul (.const (.int .i64 4)) (.tmp 26)), (.int .i64), none⟩,
  ⟨(some 28), (.mv (.tmp 5)), (.int .i64), none⟩,
  ⟨(some 29), (.bin .mul (.const (.int .i64 4)) (.tmp 28)), (.int .i64), none⟩,
  ⟨(some 30), (.bin .add (.tmp 29) (.const (.int .i64 4))), (.int .i64), none⟩,
  ⟨(some 31), (.slS 1 (.tmp 25) (some (.tmp 27)) (some (.tmp 30)) none), .sl, none⟩,
  ⟨(some 32), (.len (.tmp 31)), (.int .i64), none⟩,
  ⟨(some 33), (.mv (.const (.int .i64 0))), (.int .i64), none⟩] [33, 32, 31, 5, 4, 22, 1, 0])
 (.block 2
 (.loop [(33, (.int .i64))] [0, 1, 4, 5, 22, 31, 32]
 (.seq (.ops [⟨(some 34), (.bin .lss (.tmp 33) (.tmp 32)), .any, none⟩] [34, 31, 33, 5, 4, 32, 22, 1, 0])
 (.seq (.cond (.tmp 34)
 .skip
 (.exit 2))
 (.seq (.block 3
 (.seq (.ops [⟨(some 35), (.ia 1 (.tmp 31) (.tmp 33)), .ptr, none⟩,
  ⟨(some 36), (.ld1 (.tmp 35)), (.int .u8), none⟩,
  ⟨(some 7), (.mv (.tmp 36)), (.int .u8), none⟩] [5, 4, 7, 33, 32, 31, 22, 1, 0])
 (.ops [⟨(some 37), (.mv (.tmp 5)), (.int .i64), none⟩,
  ⟨(some 38), (.mv (.tmp 5)), (.int .i64), none⟩,
  ⟨(some 39), (.iaA 64 1 (.tmp 4) (.tmp 38)), .ptr, none⟩,
  ⟨(some 40), (.ld1 (.tmp 39)), (.int .u32), none⟩,
  ⟨(some 41), (.bin .shl (.tmp 40) (.const (.int .u64 8))), (.int .u32), none⟩,
  ⟨(some 42), (.mv (.tmp 7)), (.int .u8), none⟩,
  ⟨(some 43), (.cv .u32 (.tmp 42)), (.int .u32), none⟩,
  ⟨(some 44), (.bin .or (.tmp 41) (.tmp 43)), (.int .u32), none⟩,
  ⟨(some 45), (.iaA 64 1 (.tmp 4) (.tmp 37)), .ptr, none⟩,
  ⟨none, (.st1 (.tmp 45) (.tmp 44)), .any, none⟩] [33, 32, 31, 5, 4, 22, 1, 0])))
 (.ops [⟨(some 46), (.bin .add (.tmp 33) (.const (.int .i64 1))), (.int .i64), none⟩,
  ⟨(some 33), (.mv (.tmp 46)), (.int .i64), none⟩] [33, 32, 31, 5, 4, 22, 1, 0])))))))))
 (.ops [⟨(some 47), (.bin .add (.tmp 22) (.const (.int .i64 1))), (.int .i64), none⟩,
  ⟨(some 22), (.mv (.tmp 47)), (.int .i64), none⟩] [22, 1, 4, 0])))))))
 (.seq (.seq (.ops [⟨(some 8), (.mv (.const (.int .i64 16))), (.int .i64), none⟩] [8, 4, 0])
 (.block 4
 (.loop [(8, (.int .i64))] [0, 4]
 (.seq (.seq (.ops [⟨(some 48), (.mv (.tmp 8)), (.int .i64), none⟩,
  ⟨(some 49), (.bin .lss (.tmp 48) (.const (.int .i64 64))), .bool, none⟩] [49, 8, 4, 0])
 (.cond (.tmp 49)
 .skip
 (.exit 4)))
 (.seq (.block 5
 (.seq (.draw (.take 0 ⟨(some 52), (.mv (.tmp 8)), (.int .i64), none⟩
  (.take 1 ⟨(some 53), (.bin .sub (.tmp 52) (.const (.int .i64 2))), (.int .i64), none⟩
  (.take 2 ⟨(some 54), (.iaA 64 1 (.tmp 4) (.tmp 53)), .ptr, none⟩
  (.take 3 ⟨(some 55), (.ld1 (.tmp 54)), (.int .u32), none⟩
  (.take 4 ⟨(some 56), (.mv (.tmp 8)), (.int .i64), none⟩
  (.take 5 ⟨(some 57), (.bin .sub (.tmp 56) (.const (.int .i64 15))), (.int .i64), none⟩
  (.take 6 ⟨(some 58), (.iaA 64 1 (.tmp 4) (.tmp 57)), .ptr, none⟩
  (.take 7 ⟨(some 59), (.ld1 (.tmp 58)), (.int .u32), none⟩
  (.take 8 ⟨(some 9), (.mv (.tmp 55)), (.int .u32), none⟩
  (.take 9 ⟨(some 10), (.mv (.tmp 59)), (.int .u32), none⟩
  .done)))))))))) [8, 9, 4, 10, 0])
 (.draw (.take 0 ⟨(some 60), (.mv (.tmp 8)), (.int .i64), none⟩
  (.take 1 ⟨(some 61), (.mv (.tmp 9)), (.int .u32), none⟩
  (.take 3 ⟨(some 63), (.mv (.tmp 9)), (.int .u32), none⟩
  (.take 6 ⟨(some 66), (.mv (.tmp 9)), (.int .u32), none⟩
  (.take 7 ⟨(some 67), (.bin .shr (.tmp 66) (.const (.int .u64 10))), (.int .u32), none⟩
  (.take 9 ⟨(some 69), (.mv (.tmp 8)), (.int .i64), none⟩
  (.take 10 ⟨(some 70), (.bin .sub (.tmp 69) (.const (.int .i64 7))), (.int .i64), none⟩
  (.take 11 ⟨(some 71), (.iaA 64 1 (.tmp 4) (.tmp 70)), .ptr, none⟩
  (.take 12 ⟨(some 72), (.ld1 (.tmp 71)), (.int .u32), none⟩
  (.take 14 ⟨(some 74), (.mv (.tmp 10)), (.int .u32), none⟩
  (.take 16 ⟨(some 76), (.mv (.tmp 10)), (.int .u32), none⟩
  (.take 19 ⟨(some 79), (.mv (.tmp 10)), (.int .u32), none⟩
  (.take 20 ⟨(some 80), (.bin .shr (.tmp 79) (.const (.int .u64 3))), (.int .u32), none⟩
  (.take 23 ⟨(some 83), (.mv (.tmp 8)), (.int .i64), none⟩
  (.take 24 ⟨(some 84), (.bin .sub (.tmp 83) (.const (.int .i64 16))), (.int .i64), none⟩
  (.take 25 ⟨(some 85), (.iaA 64 1 (.tmp 4) (.tmp 84)), .ptr, none⟩
  (.take 26 ⟨(some 86), (.ld1 (.tmp 85)), (.int .u32), none⟩
  (.go 2 ⟨(some 62), (.call 70 [(.tmp 61), (.const (.int .i64 17))] [(.int .u32)]), (.int .u32), none⟩ [(26, ⟨(some 86), (.ld1 (.tmp 85)), (.int .u32), none⟩), (12, ⟨(some 72), (.ld1 (.tmp 71)), (.int .u32), none⟩)]
  (.go 4 ⟨(some 64), (.call 70 [(.tmp 63), (.const (.int .i64 19))] [(.int .u32)]), (.int .u32), none⟩ [(26, ⟨(some 86), (.ld1 (.tmp 85)), (.int .u32), none⟩), (12, ⟨(some 72), (.ld1 (.tmp 71)), (.int .u32), none⟩)]
  (.take 5 ⟨(some 65), (.bin .xor (.tmp 62) (.tmp 64)), (.int .u32), none⟩
  (.take 8 ⟨(some 68), (.bin .xor (.tmp 65) (.tmp 67)), (.int .u32), none⟩
  (.take 13 ⟨(some 73), (.bin .add (.tmp 68) (.tmp 72)), (.int .u32), none⟩
  (.go 15 ⟨(some 75), (.call 70 [(.tmp 74), (.const (.int .i64 7))] [(.int .u32)]), (.int .u32), none⟩ [(26, ⟨(some 86), (.ld1 (.tmp 85)), (.int .u32), none⟩), (12, ⟨(some 72), (.ld1 (.tmp 71)), (.int .u32), none⟩)]
  (.go 17 ⟨(some 77), (.call 70 [(.tmp 76), (.const (.int .i64 18))] [(.int .u32)]), (.int .u32), none⟩ [(26, ⟨(some 86), (.ld1 (.tmp 85)), (.int .u32), none⟩), (12, ⟨(some 72), (.ld1 (.tmp 71)), (.int .u32), none⟩)]
  (.take 18 ⟨(some 78), (.bin .xor (.tmp 75) (.tmp 77)), (.int .u32), none⟩
  (.take 21 ⟨(some 81), (.bin .xor (.tmp 78) (.tmp 80)), (.int .u32), none⟩
  (.take 22 ⟨(some 82), (.bin .add (.tmp 73) (.tmp 81)), (.int .u32), none⟩
  (.take 27 ⟨(some 87), (.bin .add (.tmp 82) (.tmp 86)), (.int .u32), none⟩
  (.take 28 ⟨(some 88), (.iaA 64 1 (.tmp 4) (.tmp 60)), .ptr, none⟩
  (.go 29 ⟨none, (.st1 (.tmp 88) (.tmp 87)), .any, none⟩ []
  .done)))))))))))))))))))))))))))))) [8, 4, 0])))
 (.ops [⟨(some 50), (.mv (.tmp 8)), (.int .i64), none⟩,
  ⟨(some 51), (.bin .add (.tmp 50) (.const (.int .i64 1))), (.int .i64), none⟩,
  ⟨(some 8), (.mv (.tmp 51)), (.int .i64), none⟩] [8, 4, 0]))))))
 (.seq (.ops [⟨(some 89), (.mv (.tmp 0)), .ptr, none⟩,
  ⟨(some 90), (.nc (.tmp 89)), .any, none⟩,
  ⟨(some 91), (.ldN 8 (.tmp 90)), .agg, none⟩,
  ⟨(some 11), (.alloc 91), .ptr, none⟩,
  ⟨none, (.stN 8 (.tmp 11) (.tmp 91)), .any, none⟩] [11, 4, 0])
 (.seq (.seq (.ops [⟨(some 92), (.mv (.const (.int .i64 0))), (.int .i64), none⟩] [92, 11, 4, 0])
 (.block 6
 (.loop [(92, (.int .i64))] [0, 4, 11]
 (.seq (.ops [⟨(some 93), (.bin .lss (.tmp 92) (.const (.int .i64 64))), .bool, none⟩] [93, 92, 11, 4, 0])
 (.seq (.cond (.tmp 93)
 .skip
 (.exit 6))
 (.seq (.block 7
 (.seq (.ops [⟨(some 94), (.mv (.tmp 92)), (.int .i64), none⟩,
  ⟨(some 12), (.mv (.tmp 94)), (.int .i64), none⟩] [11, 12, 4, 92, 0])
 (.seq (.draw (.take 0 ⟨(some 95), (.iaA 8 1 (.tmp 11) (.const (.int .i64 0))), .ptr, none⟩
  (.take 1 ⟨(some 96), (.ld1 (.tmp 95)), (.int .u32), none⟩
  (.take 2 ⟨(some 97), (.iaA 8 1 (.tmp 11) (.const (.int .i64 1))), .ptr, none⟩
  (.take 3 ⟨(some 98), (.ld1 (.tmp 97)), (.int .u32), none⟩
  (.take 4 ⟨(some 99), (.iaA 8 1 (.tmp 11) (.const (.int .i64 2))), .ptr, none⟩
  (.take 5 ⟨(some 100), (.ld1 (.tmp 99)), (.int .u32), none⟩
  (.take 6 ⟨(some 101), (.iaA 8 1 (.tmp 11) (.const (.int .i64 4))), .ptr, none⟩
  (.take 7 ⟨(some 102), (.ld1 (.tmp 101)), (.int .u32), none⟩
  (.take 8 ⟨(some 103), (.iaA 8 1 (.tmp 11) (.const (.int .i64 5))), .ptr, none⟩
  (.take 9 ⟨(some 104), (.ld1 (.tmp 103)), (.int .u32), none⟩
  (.take 10 ⟨(some 105), (.iaA 8 1 (.tmp 11) (.const (.int .i64 6))), .ptr, none⟩
  (.take 11 ⟨(some 106), (.ld1 (.tmp 105)), (.int .u32), none⟩
  (.take 12 ⟨(some 13), (.mv (.tmp 96)), (.int .u32), none⟩
  (.take 13 ⟨(some 14), (.mv (.tmp 98)), (.int .u32), none⟩
  (.take 14 ⟨(some 15), (.mv (.tmp 100)), (.int .u32), none⟩
  (.take 15 ⟨(some 16), (.mv (.tmp 102)), (.int .u32), none⟩
  (.take 16 ⟨(some 17), (.mv (.tmp 104)), (.int .u32), none⟩
  (.take 17 ⟨(some 18), (.mv (.tmp 106)), (.int .u32), none⟩
  .done)))))))))))))))))) [11, 16, 17, 18, 12, 4, 13, 14, 15, 92, 0])
 (.seq (.draw (.take 0 ⟨(some 107), (.iaA 8 1 (.tmp 11) (.const (.int .i64 7))), .ptr, none⟩
  (.take 1 ⟨(some 108), (.ld1 (.tmp 107)), (.int .u32), none⟩
  (.take 2 ⟨(some 109), (.mv (.tmp 16)), (.int .u32), none⟩
  (.take 4 ⟨(some 111), (.mv (.tmp 16)), (.int .u32), none⟩
  (.take 7 ⟨(some 114), (.mv (.tmp 16)), (.int .u32), none⟩
  (.take 11 ⟨(some 118), (.mv (.tmp 16)), (.int .u32), none⟩
  (.take 12 ⟨(some 119), (.mv (.tmp 17)), (.int .u32), none⟩
  (.take 13 ⟨(some 120), (.bin .and (.tmp 118) (.tmp 119)), (.int .u32), none⟩
  (.take 14 ⟨(some 121), (.mv (.tmp 16)), (.int .u32), none⟩
  (.take 15 ⟨(some 122), (.un .xor (.tmp 121)), (.int .u32), none⟩
  (.take 16 ⟨(some 123), (.mv (.tmp 18)), (.int .u32), none⟩
  (.take 17 ⟨(some 124), (.bin .and (.tmp 122) (.tmp 123)), (.int .u32), none⟩
  (.take 18 ⟨(some 125), (.bin .xor (.tmp 120) (.tmp 124)), (.int .u32), none⟩
  (.take 20 ⟨(some 127), (.mv (.tmp 12)), (.int .i64), none⟩
  (.take 21 ⟨(some 128), (.iaA 64 1 (.global 1) (.tmp 127)), .ptr, none⟩
  (.take 22 ⟨(some 129), (.ld1 (.tmp 128)), (.int .u32), none⟩
  (.take 24 ⟨(some 131), (.mv (.tmp 12)), (.int .i64), none⟩
  (.take 25 ⟨(some 132), (.iaA 64 1 (.tmp 4) (.tmp 131)), .ptr, none⟩
  (.take 26 ⟨(some 133), (.ld1 (.tmp 132)), (.int .u32), none⟩
  (.go 3 ⟨(some 110), (.call 70 [(.tmp 109), (.const (.int .i64 6))] [(.int .u32)]), (.int .u32), none⟩ [(26, ⟨(some 133), (.ld1 (.tmp 132)), (.int .u32), none⟩), (22, ⟨(some 129), (.ld1 (.tmp 128)), (.int .u32), none⟩), (1, ⟨(some 108), (.ld1 (.tmp 107)), (.int .u32), none⟩)]
  (.go 5 ⟨(some 112), (.call 70 [(.tmp 111), (.const (.int .i64 11))] [(.int .u32)]), (.int .u32), none⟩ [(26, ⟨(some 133), (.ld1 (.tmp 132)), (.int .u32), none⟩), (22, ⟨(some 129), (.ld1 (.tmp 128)), (.int .u32), none⟩), (1, ⟨(some 108), (.ld1 (.tmp 107)), (.int .u32), none⟩)]
  (.take 6 ⟨(some 113), (.bin .xor (.tmp 110) (.tmp 112)), (.int .u32), none⟩
  (.go 8 ⟨(some 115), (.call 70 [(.tmp 114), (.const (.int .i64 25))] [(.int .u32)]), (.int .u32), none⟩ [(26, ⟨(some 133), (.ld1 (.tmp 132)), (.int .u32), none⟩), (22, ⟨(some 129), (.ld1 (.tmp 128)), (.int .u32), none⟩), (1, ⟨(some 108), (.ld1 (.tmp 107)), (.int .u32), none⟩)]
  (.take 9 ⟨(some 116), (.bin .xor (.tmp 113) (.tmp 115)), (.int .u32), none⟩
  (.take 10 ⟨(some 117), (.bin .add (.tmp 108) (.tmp 116)), (.int .u32), none⟩
  (.take 19 ⟨(some 126), (.bin .add (.tmp 117) (.tmp 125)), (.int .u32), none⟩
  (.take 23 ⟨(some 130), (.bin .add (.tmp 126) (.tmp 129)), (.int .u32), none⟩
  (.take 27 ⟨(some 134), (.bin .add (.tmp 130) (.tmp 133)), (.int .u32), none⟩
  (.take 28 ⟨(some 19), (.mv (.tmp 134)), (.int .u32), none⟩
  .done))))))))))))))))))))))))))))) [13, 14, 15, 11, 19, 92, 4, 0])
 (.seq (.ops [⟨(some 135), (.mv (.tmp 13)), (.int .u32), none⟩,
  ⟨(some 136), (.call 70 [(.tmp 135), (.const (.int .i64 2))] [(.int .u32)]), (.int .u32), none⟩,
  ⟨(some 137), (.mv (.tmp 13)), (.int .u32), none⟩,
  ⟨(some 138), (.call 70 [(.tmp 137), (.const (.int .i64 13))] [(.int .u32)]), (.int .u32), none⟩,
  ⟨(some 139), (.bin .xor (.tmp 136) (.tmp 138)), (.int .u32), none⟩,
  ⟨(some 140), (.mv (.tmp 13)), (.int .u32), none⟩,
  ⟨(some 141), (.call 70 [(.tmp 140), (.const (.int .i64 22))] [(.int .u32)]), (.int .u32), none⟩,
  ⟨(some 142), (.bin .xor (.tmp 139) (.tmp 141)), (.int .u32), none⟩,
  ⟨(some 143), (.mv (.tmp 13)), (.int .u32), none⟩,
  ⟨(some 144), (.mv (.tmp 14)), (.int .u32), none⟩,
  ⟨(some 145), (.bin .and (.tmp 143) (.tmp 144)), (.int .u32), none⟩,
  ⟨(some 146), (.mv (.tmp 13)), (.int .u32), none⟩,
  ⟨(some 147), (.mv (.tmp 15)), (.int .u32), none⟩,
  ⟨(some 148), (.bin .and (.tmp 146) (.tmp 147)), (.int .u32), none⟩,
  ⟨(some 149), (.bin .xor (.tmp 145) (.tmp 148)), (.int .u32), none⟩,
  ⟨(some 150), (.mv (.tmp 14)), (.int .u32), none⟩,
  ⟨(some 151), (.mv (.tmp 15)), (.int .u32), none⟩,
  ⟨(some 152), (.bin .and (.tmp 150) (.tmp 151)), (.int .u32), none⟩,
  ⟨(some 153), (.bin .xor (.tmp 149) (.tmp 152)), (.int .u32), none⟩,
  ⟨(some 154), (.bin .add (.tmp 142) (.tmp 153)), (.int .u32), none⟩,
  ⟨(some 20), (.mv (.tmp 154)), (.int .u32), none⟩] [11, 19, 20, 92, 4, 0])
 (.seq (.draw (.take 0 ⟨(some 155), (.slA 8 1 (.tmp 11) (some (.const (.int .i64 1))) none none), .sl, none⟩
  (.take 1 ⟨(some 156), (.slA 8 1 (.tmp 11) none (some (.const (.int .i64 7))) none), .sl, none⟩
  (.go 2 ⟨(some 157), (.cpy #[138, 138] 3 (.tmp 155) (.tmp 156)), (.int .i64), none⟩ []
  .done))) [11, 19, 20, 92, 4, 0])
 (.seq (.ops [⟨(some 158), (.iaA 8 1 (.tmp 11) (.const (.int .i64 4))), .ptr, none⟩,
  ⟨(some 159), (.ld1 (.tmp 158)), (.int .u32), none⟩,
  ⟨(some 160), (.mv (.tmp 19)), (.int .u32), none⟩,
  ⟨(some 161), (.bin .add (.tmp 159) (.tmp 160)), (.int .u32), none⟩,
  ⟨(some 162), (.iaA 8 1 (.tmp 11) (.const (.int .i64 4))), .ptr, none⟩,
  ⟨none, (.st1 (.tmp 162) (.tmp 161)), .any, none⟩] [19, 20, 11, 92, 4, 0])
 (.ops [⟨(some 163), (.mv (.tmp 19)), (.int .u32), none⟩,
  ⟨(some 164), (.mv (.tmp 20)), (.int .u32), none⟩,
  ⟨(some 165), (.bin .add (.tmp 163) (.tmp 164)), (.int .u32), none⟩,
  ⟨(some 166), (.iaA 8 1 (.tmp 11) (.const (.int .i64 0))), .ptr, none⟩,
  ⟨none, (.st1 (.tmp 166) (.tmp 165)), .any, none⟩] [92, 11, 4, 0]))))))))
 (.ops [⟨(some 167), (.bin .add (.tmp 92) (.const (.int .i64 1))), (.int .i64), none⟩,
  ⟨(some 92), (.mv (.tmp 167)), (.int .i64), none⟩] [92, 11, 4, 0])))))))
 (.seq (.ops [⟨(some 168), (.mv (.const (.int .i64 0))), (.int .i64), none⟩] [168, 0, 11])
 (.block 8
 (.loop [(168, (.int .i64))] [0, 11]
 (.seq (.ops [⟨(some 169), (.bin .lss (.tmp 168) (.const (.int .i64 8))), .any, none⟩] [169, 168, 0, 11])
 (.seq (.cond (.tmp 169)
 .skip
 (.exit 8))
 (.seq (.block 9
 (.seq (.ops [⟨(some 170), (.mv (.tmp 168)), (.int .i64), none⟩,
  ⟨(some 21), (.mv (.tmp 170)), (.int .i64), none⟩] [0, 21, 11, 168])
 (.draw (.take 0 ⟨(some 171), (.mv (.tmp 0)), .ptr, none⟩
  (.take 1 ⟨(some 172), (.mv (.tmp 21)), (.int .i64), none⟩
  (.take 2 ⟨(some 173), (.nc (.tmp 171)), .any, none⟩
  (.take 3 ⟨(some 174), (.iaA 8 1 (.tmp 173) (.tmp 172)), .ptr, none⟩
  (.take 4 ⟨(some 175), (.ld1 (.tmp 174)), (.int .u32), none⟩
  (.take 5 ⟨(some 176), (.mv (.tmp 21)), (.int .i64), none⟩
  (.take 6 ⟨(some 177), (.iaA 8 1 (.tmp 11) (.tmp 176)), .ptr, none⟩
  (.take 7 ⟨(some 178), (.ld1 (.tmp 177)), (.int .u32), none⟩
  (.take 8 ⟨(some 179), (.bin .add (.tmp 175) (.tmp 178)), (.int .u32), none⟩
  (.take 9 ⟨(some 180), (.nc (.tmp 171)), .any, none⟩
  (.take 10 ⟨(some 181), (.iaA 8 1 (.tmp 180) (.tmp 172)), .ptr, none⟩
  (.go 11 ⟨none, (.st1 (.tmp 181) (.tmp 179)), .any, none⟩ []
  .done)))))))))))) [168, 0, 11])))
 (.ops [⟨(some 182), (.bin .add (.tmp 168) (.const (.int .i64 1))), (.int .i64), none⟩,
  ⟨(some 168), (.mv (.tmp 182)), (.int .i64), none⟩] [168, 0, 11]))))))))))))
def r44 : List Res := []
theorem tr44 : trS Tryd.prog [] 183 (Tryd.f44.body.getD .skip) s44 = some s44 := by kernel_rfl
theorem den44 (args : List Value) (w : World) (R : Ending → World → Prop) (hn : args.length ≤ 183) (h : denS Tryd.prog s44 (argsEnv 0 args) w (endK r44 R)) : Calls Tryd.prog 44 args.toArray w R :=
  calls_of_den (pn := []) (fn := Tryd.f44) (c := Tryd.f44.body.getD .skip) Tryd.func44 (by kernel_rfl) (by rw [Tryd.ntmps44]; exact hn) (by rw [Tryd.ntmps44]; exact tr44) (by kernel_rfl) h
def d44 (h0 : Option Addr) (block1 : Option Addr) (block1n : Nat) (block1c : Nat) (w : World) (R : Ending → World → Prop) : Prop :=
 ∀ w2 : World, w2 = World.alloc w (.cells (zc Tryd.prog 96).toArray 96) →
 ∃ I3 : Nat → Int → World → Prop,
 (∃ m, I3 m 0 w2) ∧
 (∀ (m4 : Nat) (w5 : World) (x6 : Int), I3 m4 x6 w5 →
 (bif (decide (x6 < 16)) then
 (0 ≤ (IntKind.wrap .i64 ((IntKind.wrap .i64 (4 * x6)) + 4)) ∧ (IntKind.wrap .i64 ((IntKind.wrap .i64 (4 * x6)) + 4)) ≤ ((block1c : Nat) : Int) ∧ 0 ≤ (IntKind.wrap .i64 (4 * x6)) ∧ (IntKind.wrap .i64 (4 * x6)) ≤ (((Int.toNat (IntKind.wrap .i64 ((IntKind.wrap .i64 (4 * x6)) + 4))) : Nat) : Int) ∧ ∃ I7 : Nat → Int → World → Prop,
 (∃ m, I7 m 0 w5) ∧
 (∀ (m8 : Nat) (w9 : World) (x10 : Int), I7 m8 x10 w9 →
 (bif (decide (x10 < ((((Int.toNat (IntKind.wrap .i64 ((IntKind.wrap .i64 (4 * x6)) + 4))) - (Int.toNat (IntKind.wrap .i64 (4 * x6)))) : Nat) : Int))) then
 (0 ≤ x10 ∧ x10 < ((((Int.toNat (IntKind.wrap .i64 ((IntKind.wrap .i64 (4 * x6)) + 4))) - (Int.toNat (IntKind.wrap .i64 (4 * x6)))) : Nat) : Int) ∧ optK (if block1c = (Int.toNat (IntKind.wrap .i64 (4 * x6))) then block1 else Option.map (fun y => Addr.add y ((Int.toNat (IntKind.wrap .i64 (4 * x6))) * 1)) block1) fun a11 =>
 ∃ x12 : Int, World.cell? w9 (Addr.add a11 (Int.toNat x10 * 1)) = some (.int .u8 x12) ∧
 0 ≤ x6 ∧ x6 < ((64 : Nat) : Int) ∧
 ∃ x13 : Int, World.cell? w9 (Addr.add ⟨World.heap w |>.size, 0, none⟩ (Int.toNat x6 * 1)) = some (.int .u32 x13) ∧
 0 ≤ (8 : Int) ∧ 0 ≤ x6 ∧ x6 < ((64 : Nat) : Int) ∧
 one (.int .u32 (bOr .u32 (shL .u32 x13 8) (IntKind.wrap .u32 x12))) = true ∧ Option.isSome (World.cell? w9 (Addr.add ⟨World.heap w |>.size, 0, none⟩ (Int.toNat x6 * 1))) = true ∧ World.frozen? w9 (Addr.add ⟨World.heap w |>.size, 0, none⟩ (Int.toNat x6 * 1)) = false ∧
 ∀ w14 : World, w14 = World.setCell w9 (Addr.add ⟨World.heap w |>.size, 0, none⟩ (Int.toNat x6 * 1)) (.int .u32 (bOr .u32 (shL .u32 x13 8) (IntKind.wrap .u32 x12))) →
 ∃ m15, m15 < m8 ∧ I7 m15 (IntKind.wrap .i64 (x10 + 1)) w14)
 else
 (∃ m16, m16 < m4 ∧ I3 m16 (IntKind.wrap .i64 (x6 + 1)) w9))))
 else
 (∃ I17 : Nat → Int → World → Prop,
 (∃ m, I17 m 16 w5) ∧
 (∀ (m18 : Nat) (w19 : World) (t20 : Int), I17 m18 t20 w19 →
 (bif (decide (t20 < 64)) then
 (∀ w21 : World, w21 = World.drew w19 →
 0 ≤ (IntKind.wrap .i64 (t20 - 2)) ∧ (IntKind.wrap .i64 (t20 - 2)) < ((64 : Nat) : Int) ∧
 ∃ x22 : Int, World.cell? w21 (Addr.add ⟨World.heap w |>.size, 0, none⟩ (Int.toNat (IntKind.wrap .i64 (t20 - 2)) * 1)) = some (.int .u32 x22) ∧
 0 ≤ (IntKind.wrap .i64 (t20 - 15)) ∧ (IntKind.wrap .i64 (t20 - 15)) < ((64 : Nat) : Int) ∧
 ∃ x23 : Int, World.cell? w21 (Addr.add ⟨World.heap w |>.size, 0, none⟩ (Int.toNat (IntKind.wrap .i64 (t20 - 15)) * 1)) = some (.int .u32 x23) ∧
 ∀ w24 : World, w24 = World.drew w21 →
 0 ≤ (10 : Int) ∧ 0 ≤ (IntKind.wrap .i64 (t20 - 7)) ∧ (IntKind.wrap .i64 (t20 - 7)) < ((64 : Nat) : Int) ∧
 ∃ x25 : Int, World.cell? w24 (Addr.add ⟨World.heap w |>.size, 0, none⟩ (Int.toNat (IntKind.wrap .i64 (t20 - 7)) * 1)) = some (.int .u32 x25) ∧
 0 ≤ (3 : Int) ∧ 0 ≤ (IntKind.wrap .i64 (t20 - 16)) ∧ (IntKind.wrap .i64 (t20 - 16)) < ((64 : Nat) : Int) ∧
 ∃ x26 : Int, World.cell? w24 (Addr.add ⟨World.heap w |>.size, 0, none⟩ (Int.toNat (IntKind.wrap .i64 (t20 - 16)) * 1)) = some (.int .u32 x26) ∧
 Calls Tryd.prog 70 #[(.int .u32 x22), (.int .i64 17)] w24 fun e27 w28 => ∃ x29 : Int, e27 = .returned (.int .u32 x29) ∧
 (∃ z30 : Int, World.cell? w28 (Addr.add ⟨World.heap w |>.size, 0, none⟩ (Int.toNat (IntKind.wrap .i64 (t20 - 16)) * 1)) = some (.int .u32 z30) ∧
 (((.int .u32 z30) : Value) = (.int .u32 x26) ∧ w28 = w28)) ∧
 (∃ z31 : Int, World.cell? w28 (Addr.add ⟨World.heap w |>.size, 0, none⟩ (Int.toNat (IntKind.wrap .i64 (t20 - 7)) * 1)) = some (.int .u32 z31) ∧
 (((.int .u32 z31) : Value) = (.int .u32 x25) ∧ w28 = w28)) ∧
 Calls Tryd.prog 70 #[(.int .u32 x22), (.int .i64 19)] w28 fun e32 w33 => ∃ x34 : Int, e32 = .returned (.int .u32 x34) ∧
 (∃ z35 : Int, World.cell? w33 (Addr.add ⟨World.heap w |>.size, 0, none⟩ (Int.toNat (IntKind.wrap .i64 (t20 - 16)) * 1)) = some (.int .u32 z35) ∧
 (((.int .u32 z35) : Value) = (.int .u32 x26) ∧ w33 = w33)) ∧
 (∃ z36 : Int, World.cell? w33 (Addr.add ⟨World.heap w |>.size, 0, none⟩ (Int.toNat (IntKind.wrap .i64 (t20 - 7)) * 1)) = some (.int .u32 z36) ∧
 (((.int .u32 z36) : Value) = (.int .u32 x25) ∧ w33 = w33)) ∧
 Calls Tryd.prog 70 #[(.int .u32 x23), (.int .i64 7)] w33 fun e37 w38 => ∃ x39 : Int, e37 = .returned (.int .u32 x39) ∧
 (∃ z40 : Int, World.cell? w38 (Addr.add ⟨World.heap w |>.size, 0, none⟩ (Int.toNat (IntKind.wrap .i64 (t20 - 16)) * 1)) = some (.int .u32 z40) ∧
 (((.int .u32 z40) : Value) = (.int .u32 x26) ∧ w38 = w38)) ∧
 (∃ z41 : Int, World.cell? w38 (Addr.add ⟨World.heap w |>.size, 0, none⟩ (Int.toNat (IntKind.wrap .i64 (t20 - 7)) * 1)) = some (.int .u32 z41) ∧
 (((.int .u32 z41) : Value) = (.int .u32 x25) ∧ w38 = w38)) ∧
 Calls Tryd.prog 70 #[(.int .u32 x23), (.int .i64 18)] w38 fun e42 w43 => ∃ x44 : Int, e42 = .returned (.int .u32 x44) ∧
 (∃ z45 : Int, World.cell? w43 (Addr.add ⟨World.heap w |>.size, 0, none⟩ (Int.toNat (IntKind.wrap .i64 (t20 - 16)) * 1)) = some (.int .u32 z45) ∧
 (((.int .u32 z45) : Value) = (.int .u32 x26) ∧ w43 = w43)) ∧
 (∃ z46 : Int, World.cell? w43 (Addr.add ⟨World.heap w |>.size, 0, none⟩ (Int.toNat (IntKind.wrap .i64 (t20 - 7)) * 1)) = some (.int .u32 z46) ∧
 (((.int .u32 z46) : Value) = (.int .u32 x25) ∧ w43 = w43)) ∧
 0 ≤ t20 ∧ t20 < ((64 : Nat) : Int) ∧
 one (.int .u32 (IntKind.wrap .u32 ((IntKind.wrap .u32 ((IntKind.wrap .u32 ((bXor .u32 (bXor .u32 x29 x34) (shR .u32 x22 10)) + x25)) + (bXor .u32 (bXor .u32 x39 x44) (shR .u32 x23 3)))) + x26))) = true ∧ Option.isSome (World.cell? w43 (Addr.add ⟨World.heap w |>.size, 0, none⟩ (Int.toNat t20 * 1))) = true ∧ World.frozen? w43 (Addr.add ⟨World.heap w |>.size, 0, none⟩ (Int.toNat t20 * 1)) = false ∧
 ∀ w47 : World, w47 = World.setCell w43 (Addr.add ⟨World.heap w |>.size, 0, none⟩ (Int.toNat t20 * 1)) (.int .u32 (IntKind.wrap .u32 ((IntKind.wrap .u32 ((IntKind.wrap .u32 ((bXor .u32 (bXor .u32 x29 x34) (shR .u32 x22 10)) + x25)) + (bXor .u32 (bXor .u32 x39 x44) (shR .u32 x23 3)))) + x26))) →
 ∃ m48, m48 < m18 ∧ I17 m48 (IntKind.wrap .i64 (t20 + 1)) w47)
 else
 (optK h0 fun a49 =>
 ∃ cs50 : List Value, List.length cs50 = 8 ∧ Cells w19 a49 cs50 ∧
 ∀ w51 : World, w51 = World.alloc w19 (.cells (zc Tryd.prog 91).toArray 91) →
 Array.size (List.toArray cs50) = 8 ∧ (∀ u ∈ Array.toList (List.toArray cs50), one u = true) ∧ Room w51 ⟨World.heap w19 |>.size, 0, none⟩ 8 ∧
 ∀ w52 : World, w52 = setCells w51 ⟨World.heap w19 |>.size, 0, none⟩ (Array.toList (List.toArray cs50)) 0 →
 ∃ I53 : Nat → Int → World → Prop,
 (∃ m, I53 m 0 w52) ∧
 (∀ (m54 : Nat) (w55 : World) (x56 : Int), I53 m54 x56 w55 →
 (bif (decide (x56 < 64)) then
 (∀ w57 : World, w57 = World.drew w55 →
 0 ≤ (0 : Int) ∧ (0 : Int) < ((8 : Nat) : Int) ∧
 ∃ x58 : Int, World.cell? w57 (Addr.add ⟨World.heap w19 |>.size, 0, none⟩ (Int.toNat 0 * 1)) = some (.int .u32 x58) ∧
 0 ≤ (1 : Int) ∧ (1 : Int) < ((8 : Nat) : Int) ∧
 ∃ x59 : Int, World.cell? w57 (Addr.add ⟨World.heap w19 |>.size, 0, none⟩ (Int.toNat 1 * 1)) = some (.int .u32 x59) ∧
 0 ≤ (2 : Int) ∧ (2 : Int) < ((8 : Nat) : Int) ∧
 ∃ x60 : Int, World.cell? w57 (Addr.add ⟨World.heap w19 |>.size, 0, none⟩ (Int.toNat 2 * 1)) = some (.int .u32 x60) ∧
 0 ≤ (4 : Int) ∧ (4 : Int) < ((8 : Nat) : Int) ∧
 ∃ x61 : Int, World.cell? w57 (Addr.add ⟨World.heap w19 |>.size, 0, none⟩ (Int.toNat 4 * 1)) = some (.int .u32 x61) ∧
 0 ≤ (5 : Int) ∧ (5 : Int) < ((8 : Nat) : Int) ∧
 ∃ x62 : Int, World.cell? w57 (Addr.add ⟨World.heap w19 |>.size, 0, none⟩ (Int.toNat 5 * 1)) = some (.int .u32 x62) ∧
 0 ≤ (6 : Int) ∧ (6 : Int) < ((8 : Nat) : Int) ∧
 ∃ x63 : Int, World.cell? w57 (Addr.add ⟨World.heap w19 |>.size, 0, none⟩ (Int.toNat 6 * 1)) = some (.int .u32 x63) ∧
 ∀ w64 : World, w64 = World.drew w57 →
 0 ≤ (7 : Int) ∧ (7 : Int) < ((8 : Nat) : Int) ∧
 ∃ x65 : Int, World.cell? w64 (Addr.add ⟨World.heap w19 |>.size, 0, none⟩ (Int.toNat 7 * 1)) = some (.int .u32 x65) ∧
 0 ≤ x56 ∧ x56 < ((64 : Nat) : Int) ∧
 ∃ x66 : Int, World.cell? w64 (Addr.add ⟨1, 0, none⟩ (Int.toNat x56 * 1)) = some (.int .u32 x66) ∧
 0 ≤ x56 ∧ x56 < ((64 : Nat) : Int) ∧
 ∃ x67 : Int, World.cell? w64 (Addr.add ⟨World.heap w |>.size, 0, none⟩ (Int.toNat x56 * 1)) = some (.int .u32 x67) ∧
 Calls Tryd.prog 70 #[(.int .u32 x61), (.int .i64 6)] w64 fun e68 w69 => ∃ x70 : Int, e68 = .returned (.int .u32 x70) ∧
 (∃ z71 : Int, World.cell? w69 (Addr.add ⟨World.heap w |>.size, 0, none⟩ (Int.toNat x56 * 1)) = some (.int .u32 z71) ∧
 (((.int .u32 z71) : Value) = (.int .u32 x67) ∧ w69 = w69)) ∧
 (∃ z72 : Int, World.cell? w69 (Addr.add ⟨1, 0, none⟩ (Int.toNat x56 * 1)) = some (.int .u32 z72) ∧
 (((.int .u32 z72) : Value) = (.int .u32 x66) ∧ w69 = w69)) ∧
 (∃ z73 : Int, World.cell? w69 (Addr.add ⟨World.heap w19 |>.size, 0, none⟩ (Int.toNat 7 * 1)) = some (.int .u32 z73) ∧
 (((.int .u32 z73) : Value) = (.int .u32 x65) ∧ w69 = w69)) ∧
 Calls Tryd.prog 70 #[(.int .u32 x61), (.int .i64 11)] w69 fun e74 w75 => ∃ x76 : Int, e74 = .returned (.int .u32 x76) ∧
 (∃ z77 : Int, World.cell? w75 (Addr.add ⟨World.heap w |>.size, 0, none⟩ (Int.toNat x56 * 1)) = some (.int .u32 z77) ∧
 (((.int .u32 z77) : Value) = (.int .u32 x67) ∧ w75 = w75)) ∧
 (∃ z78 : Int, World.cell? w75 (Addr.add ⟨1, 0, none⟩ (Int.toNat x56 * 1)) = some (.int .u32 z78) ∧
 (((.int .u32 z78) : Value) = (.int .u32 x66) ∧ w75 = w75)) ∧
 (∃ z79 : Int, World.cell? w75 (Addr.add ⟨World.heap w19 |>.size, 0, none⟩ (Int.toNat 7 * 1)) = some (.int .u32 z79) ∧
 (((.int .u32 z79) : Value) = (.int .u32 x65) ∧ w75 = w75)) ∧
 Calls Tryd.prog 70 #[(.int .u32 x61), (.int .i64 25)] w75 fun e80 w81 => ∃ x82 : Int, e80 = .returned (.int .u32 x82) ∧
 (∃ z83 : Int, World.cell? w81 (Addr.add ⟨World.heap w |>.size, 0, none⟩ (Int.toNat x56 * 1)) = some (.int .u32 z83) ∧
 (((.int .u32 z83) : Value) = (.int .u32 x67) ∧ w81 = w81)) ∧
 (∃ z84 : Int, World.cell? w81 (Addr.add ⟨1, 0, none⟩ (Int.toNat x56 * 1)) = some (.int .u32 z84) ∧
 (((.int .u32 z84) : Value) = (.int .u32 x66) ∧ w81 = w81)) ∧
 (∃ z85 : Int, World.cell? w81 (Addr.add ⟨World.heap w19 |>.size, 0, none⟩ (Int.toNat 7 * 1)) = some (.int .u32 z85) ∧
 (((.int .u32 z85) : Value) = (.int .u32 x65) ∧ w81 = w81)) ∧
 Calls Tryd.prog 70 #[(.int .u32 x58), (.int .i64 2)] w81 fun e86 w87 => ∃ x88 : Int, e86 = .returned (.int .u32 x88) ∧
 Calls Tryd.prog 70 #[(.int .u32 x58), (.int .i64 13)] w87 fun e89 w90 => ∃ x91 : Int, e89 = .returned (.int .u32 x91) ∧
 Calls Tryd.prog 70 #[(.int .u32 x58), (.int .i64 22)] w90 fun e92 w93 => ∃ x94 : Int, e92 = .returned (.int .u32 x94) ∧
 ∀ w95 : World, w95 = World.drew w93 →
 0 ≤ (1 : Int) ∧ (1 : Int) ≤ ((8 : Nat) : Int) ∧ 0 ≤ (7 : Int) ∧ (7 : Int) ≤ ((8 : Nat) : Int) ∧ RunV Tryd.prog (Builtin.copy_ #[138, 138] 3 #[(.slice (some (if 8 = (Int.toNat 1) then ⟨World.heap w19 |>.size, 0, none⟩ else Addr.add ⟨World.heap w19 |>.size, 0, none⟩ ((Int.toNat 1) * 1))) (8 - (Int.toNat 1)) (8 - (Int.toNat 1))), (.slice (some (if 8 = 0 then ⟨World.heap w19 |>.size, 0, none⟩ else Addr.add ⟨World.heap w19 |>.size, 0, none⟩ (0 * 1))) ((Int.toNat 7) - 0) (8 - 0))]) w95 fun v96 w97 => ∃ x98 : Int, v96 = (.int .i64 x98) ∧
 0 ≤ (4 : Int) ∧ (4 : Int) < ((8 : Nat) : Int) ∧
 ∃ x99 : Int, World.cell? w97 (Addr.add ⟨World.heap w19 |>.size, 0, none⟩ (Int.toNat 4 * 1)) = some (.int .u32 x99) ∧
 0 ≤ (4 : Int) ∧ (4 : Int) < ((8 : Nat) : Int) ∧
 one (.int .u32 (IntKind.wrap .u32 (x99 + (IntKind.wrap .u32 ((IntKind.wrap .u32 ((IntKind.wrap .u32 ((IntKind.wrap .u32 (x65 + (bXor .u32 (bXor .u32 x70 x76) x82))) + (bXor .u32 (bAnd .u32 x61 x62) (bAnd .u32 (bXor .u32 (IntKind.max .u32) x61) x63)))) + x66)) + x67))))) = true ∧ Option.isSome (World.cell? w97 (Addr.add ⟨World.heap w19 |>.size, 0, none⟩ (Int.toNat 4 * 1))) = true ∧ World.frozen? w97 (Addr.add ⟨World.heap w19 |>.size, 0, none⟩ (Int.toNat 4 * 1)) = false ∧
 ∀ w100 : World, w100 = World.setCell w97 (Addr.add ⟨World.heap w19 |>.size, 0, none⟩ (Int.toNat 4 * 1)) (.int .u32 (IntKind.wrap .u32 (x99 + (IntKind.wrap .u32 ((IntKind.wrap .u32 ((IntKind.wrap .u32 ((IntKind.wrap .u32 (x65 + (bXor .u32 (bXor .u32 x70 x76) x82))) + (bXor .u32 (bAnd .u32 x61 x62) (bAnd .u32 (bXor .u32 (IntKind.max .u32) x61) x63)))) + x66)) + x67))))) →
 0 ≤ (0 : Int) ∧ (0 : Int) < ((8 : Nat) : Int) ∧
 one (.int .u32 (IntKind.wrap .u32 ((IntKind.wrap .u32 ((IntKind.wrap .u32 ((IntKind.wrap .u32 ((IntKind.wrap .u32 (x65 + (bXor .u32 (bXor .u32 x70 x76) x82))) + (bXor .u32 (bAnd .u32 x61 x62) (bAnd .u32 (bXor .u32 (IntKind.max .u32) x61) x63)))) + x66)) + x67)) + (IntKind.wrap .u32 ((bXor .u32 (bXor .u32 x88 x91) x94) + (bXor .u32 (bXor .u32 (bAnd .u32 x58 x59) (bAnd .u32 x58 x60)) (bAnd .u32 x59 x60))))))) = true ∧ Option.isSome (World.cell? w100 (Addr.add ⟨World.heap w19 |>.size, 0, none⟩ (Int.toNat 0 * 1))) = true ∧ World.frozen? w100 (Addr.add ⟨World.heap w19 |>.size, 0, none⟩ (Int.toNat 0 * 1)) = false ∧
 ∀ w101 : World, w101 = World.setCell w100 (Addr.add ⟨World.heap w19 |>.size, 0, none⟩ (Int.toNat 0 * 1)) (.int .u32 (IntKind.wrap .u32 ((IntKind.wrap .u32 ((IntKind.wrap .u32 ((IntKind.wrap .u32 ((IntKind.wrap .u32 (x65 + (bXor .u32 (bXor .u32 x70 x76) x82))) + (bXor .u32 (bAnd .u32 x61 x62) (bAnd .u32 (bXor .u32 (IntKind.max .u32) x61) x63)))) + x66)) + x67)) + (IntKind.wrap .u32 ((bXor .u32 (bXor .u32 x88 x91) x94) + (bXor .u32 (bXor .u32 (bAnd .u32 x58 x59) (bAnd .u32 x58 x60)) (bAnd .u32 x59 x60))))))) →
 ∃ m102, m102 < m54 ∧ I53 m102 (IntKind.wrap .i64 (x56 + 1)) w101)
 else
 (∃ I103 : Nat → Int → World → Prop,
 (∃ m, I103 m 0 w55) ∧
 (∀ (m104 : Nat) (w105 : World) (x106 : Int), I103 m104 x106 w105 →
 (bif (decide (x106 < 8)) then
 (∀ w107 : World, w107 = World.drew w105 →
 optK h0 fun a108 =>
 0 ≤ x106 ∧ x106 < ((8 : Nat) : Int) ∧
 ∃ x109 : Int, World.cell? w107 (Addr.add a108 (Int.toNat x106 * 1)) = some (.int .u32 x109) ∧
 0 ≤ x106 ∧ x106 < ((8 : Nat) : Int) ∧
 ∃ x110 : Int, World.cell? w107 (Addr.add ⟨World.heap w19 |>.size, 0, none⟩ (Int.toNat x106 * 1)) = some (.int .u32 x110) ∧
 optK h0 fun a111 =>
 0 ≤ x106 ∧ x106 < ((8 : Nat) : Int) ∧
 one (.int .u32 (IntKind.wrap .u32 (x109 + x110))) = true ∧ Option.isSome (World.cell? w107 (Addr.add a111 (Int.toNat x106 * 1))) = true ∧ World.frozen? w107 (Addr.add a111 (Int.toNat x106 * 1)) = false ∧
 ∀ w112 : World, w112 = World.setCell w107 (Addr.add a111 (Int.toNat x106 * 1)) (.int .u32 (IntKind.wrap .u32 (x109 + x110))) →
 ∃ m113, m113 < m104 ∧ I103 m113 (IntKind.wrap .i64 (x106 + 1)) w112)
 else
 (R (.returned (.tuple #[])) w105))))))))))))
theorem e44 (h0 : Option Addr) (block1 : Option Addr) (block1n : Nat) (block1c : Nat) (w : World) (R : Ending → World → Prop) : denS Tryd.prog s44 (argsEnv 0 [(.pointer h0), (.slice block1 block1n block1c)]) w (endK r44 R) = d44 h0 block1 block1n block1c w R := by kernel_rfl
theorem c44 (h0 : Option Addr) (block1 : Option Addr) (block1n : Nat) (block1c : Nat) {w : World} {R : Ending → World → Prop} (h : d44 h0 block1 block1n block1c w R) : Calls Tryd.prog 44 #[(.pointer h0), (.slice block1 block1n block1c)] w R :=
  den44 [(.pointer h0), (.slice block1 block1n block1c)] w R (by simp) ((e44 h0 block1 block1n block1c w R).symm ▸ h)

/-- prelude/preluderef24.roots -/
def s45 : S := (.seq (.ops [⟨(some 0), (.alloc 91), .ptr, none⟩] [0])
 (.seq (.ops [⟨(some 1), (.bld 91 (.elems 1) [(0, (.const (.int .u32 1779033703))), (1, (.const (.int .u32 3144134277))), (2, (.const (.int .u32 1013904242))), (3, (.const (.int .u32 2773480762))), (4, (.const (.int .u32 1359893119))), (5, (.const (.int .u32 2600822924))), (6, (.const (.int .u32 528734635))), (7, (.const (.int .u32 1541459225)))]), .agg, none⟩,
  ⟨none, (.stN 8 (.tmp 0) (.tmp 1)), .any, none⟩] [0])
 .ret))
def r45 : List Res := [.cN 0 8]
theorem tr45 : trS Tryd.prog [] 2 (Tryd.f45.body.getD .skip) s45 = some s45 := by kernel_rfl
theorem den45 (args : List Value) (w : World) (R : Ending → World → Prop) (hn : args.length ≤ 2) (h : denS Tryd.prog s45 (argsEnv 0 args) w (endK r45 R)) : Calls Tryd.prog 45 args.toArray w R :=
  calls_of_den (pn := []) (fn := Tryd.f45) (c := Tryd.f45.body.getD .skip) Tryd.func45 (by kernel_rfl) (by rw [Tryd.ntmps45]; exact hn) (by rw [Tryd.ntmps45]; exact tr45) (by kernel_rfl) h
def d45 (w : World) (R : Ending → World → Prop) : Prop :=
 ∀ w0 : World, w0 = World.alloc w (.cells (zc Tryd.prog 91).toArray 91) →
 ∃ cs1, fillL (.elems 1) (zc Tryd.prog 91) [(0, (.int .u32 1779033703)), (1, (.int .u32 3144134277)), (2, (.int .u32 1013904242)), (3, (.int .u32 2773480762)), (4, (.int .u32 1359893119)), (5, (.int .u32 2600822924)), (6, (.int .u32 528734635)), (7, (.int .u32 1541459225))] = some cs1 ∧
 Array.size (List.toArray cs1) = 8 ∧ (∀ u ∈ Array.toList (List.toArray cs1), one u = true) ∧ Room w0 ⟨World.heap w |>.size, 0, none⟩ 8 ∧
 ∀ w2 : World, w2 = setCells w0 ⟨World.heap w |>.size, 0, none⟩ (Array.toList (List.toArray cs1)) 0 →
 ∃ cs3 : List Value, List.length cs3 = 8 ∧ Cells w2 ⟨World.heap w |>.size, 0, none⟩ cs3 ∧
 R (.returned (.agg (List.toArray cs3))) w2
theorem e45 (w : World) (R : Ending → World → Prop) : denS Tryd.prog s45 (argsEnv 0 []) w (endK r45 R) = d45  w R := by kernel_rfl
theorem c45 {w : World} {R : Ending → World → Prop} (h : d45  w R) : Calls Tryd.prog 45 #[] w R :=
  den45 [] w R (by simp) ((e45  w R).symm ▸ h)

/-- prelude/preluderef24.cubes -/
def s46 : S := (.seq (.ops [⟨(some 0), (.alloc 96), .ptr, none⟩] [0])
 (.seq (.ops [⟨(some 1), (.bld 96 (.elems 1) [(0, (.const (.int .u32 1116352408))), (1, (.const (.int .u32 1899447441))), (2, (.const (.int .u32 3049323471))), (3, (.const (.int .u32 3921009573))), (4, (.const (.int .u32 961987163))), (5, (.const (.int .u32 1508970993))), (6, (.const (.int .u32 2453635748))), (7, (.const (.int .u32 2870763221))), (8, (.const (.int .u32 3624381080))), (9, (.const (.int .u32 310598401))), (10, (.const (.int .u32 607225278))), (11, (.const (.int .u32 1426881987))), (12, (.const (.int .u32 1925078388))), (13, (.const (.int .u32 2162078206))), (14, (.const (.int .u32 2614888103))), (15, (.const (.int .u32 3248222580))), (16, (.const (.int .u32 3835390401))), (17, (.const (.int .u32 4022224774))), (18, (.const (.int .u32 264347078))), (19, (.const (.int .u32 604807628))), (20, (.const (.int .u32 770255983))), (21, (.const (.int .u32 1249150122))), (22, (.const (.int .u32 1555081692))), (23, (.const (.int .u32 1996064986))), (24, (.const (.int .u32 2554220882))), (25, (.const (.int .u32 2821834349))), (26, (.const (.int .u32 2952996808))), (27, (.const (.int .u32 3210313671))), (28, (.const (.int .u32 3336571891))), (29, (.const (.int .u32 3584528711))), (30, (.const (.int .u32 113926993))), (31, (.const (.int .u32 338241895))), (32, (.const (.int .u32 666307205))), (33, (.const (.int .u32 773529912))), (34, (.const (.int .u32 1294757372))), (35, (.const (.int .u32 1396182291))), (36, (.const (.int .u32 1695183700))), (37, (.const (.int .u32 1986661051))), (38, (.const (.int .u32 2177026350))), (39, (.const (.int .u32 2456956037))), (40, (.const (.int .u32 2730485921))), (41, (.const (.int .u32 2820302411))), (42, (.const (.int .u32 3259730800))), (43, (.const (.int .u32 3345764771))), (44, (.const (.int .u32 3516065817))), (45, (.const (.int .u32 3600352804))), (46, (.const (.int .u32 4094571909))), (47, (.const (.int .u32 275423344))), (48, (.const (.int .u32 430227734))), (49, (.const (.int .u32 506948616))), (50, (.const (.int .u32 659060556))), (51, (.const (.int .u32 883997877))), (52, (.const (.int .u32 958139571))), (53, (.const (.int .u32 1322822218))), (54, (.const (.int .u32 1537002063))), (55, (.const (.int .u32 1747873779))), (56, (.const (.int .u32 1955562222))), (57, (.const (.int .u32 2024104815))), (58, (.const (.int .u32 2227730452))), (59, (.const (.int .u32 2361852424))), (60, (.const (.int .u32 2428436474))), (61, (.const (.int .u32 2756734187))), (62, (.const (.int .u32 3204031479))), (63, (.const (.int .u32 3329325298)))]), .agg, none⟩,
  ⟨none, (.stN 64 (.tmp 0) (.tmp 1)), .any, none⟩] [0])
 .ret))
def r46 : List Res := [.cN 0 64]
theorem tr46 : trS Tryd.prog [] 2 (Tryd.f46.body.getD .skip) s46 = some s46 := by kernel_rfl
theorem den46 (args : List Value) (w : World) (R : Ending → World → Prop) (hn : args.length ≤ 2) (h : denS Tryd.prog s46 (argsEnv 0 args) w (endK r46 R)) : Calls Tryd.prog 46 args.toArray w R :=
  calls_of_den (pn := []) (fn := Tryd.f46) (c := Tryd.f46.body.getD .skip) Tryd.func46 (by kernel_rfl) (by rw [Tryd.ntmps46]; exact hn) (by rw [Tryd.ntmps46]; exact tr46) (by kernel_rfl) h
def d46 (w : World) (R : Ending → World → Prop) : Prop :=
 ∀ w0 : World, w0 = World.alloc w (.cells (zc Tryd.prog 96).toArray 96) →
 ∃ cs1, fillL (.elems 1) (zc Tryd.prog 96) [(0, (.int .u32 1116352408)), (1, (.int .u32 1899447441)), (2, (.int .u32 3049323471)), (3, (.int .u32 3921009573)), (4, (.int .u32 961987163)), (5, (.int .u32 1508970993)), (6, (.int .u32 2453635748)), (7, (.int .u32 2870763221)), (8, (.int .u32 3624381080)), (9, (.int .u32 310598401)), (10, (.int .u32 607225278)), (11, (.int .u32 1426881987)), (12, (.int .u32 1925078388)), (13, (.int .u32 2162078206)), (14, (.int .u32 2614888103)), (15, (.int .u32 3248222580)), (16, (.int .u32 3835390401)), (17, (.int .u32 4022224774)), (18, (.int .u32 264347078)), (19, (.int .u32 604807628)), (20, (.int .u32 770255983)), (21, (.int .u32 1249150122)), (22, (.int .u32 1555081692)), (23, (.int .u32 1996064986)), (24, (.int .u32 2554220882)), (25, (.int .u32 2821834349)), (26, (.int .u32 2952996808)), (27, (.int .u32 3210313671)), (28, (.int .u32 3336571891)), (29, (.int .u32 3584528711)), (30, (.int .u32 113926993)), (31, (.int .u32 338241895)), (32, (.int .u32 666307205)), (33, (.int .u32 773529912)), (34, (.int .u32 1294757372)), (35, (.int .u32 1396182291)), (36, (.int .u32 1695183700)), (37, (.int .u32 1986661051)), (38, (.int .u32 2177026350)), (39, (.int .u32 2456956037)), (40, (.int .u32 2730485921)), (41, (.int .u32 2820302411)), (42, (.int .u32 3259730800)), (43, (.int .u32 3345764771)), (44, (.int .u32 3516065817)), (45, (.int .u32 3600352804)), (46, (.int .u32 4094571909)), (47, (.int .u32 275423344)), (48, (.int .u32 430227734)), (49, (.int .u32 506948616)), (50, (.int .u32 659060556)), (51, (.int .u32 883997877)), (52, (.int .u32 958139571)), (53, (.int .u32 1322822218)), (54, (.int .u32 1537002063)), (55, (.int .u32 1747873779)), (56, (.int .u32 1955562222)), (57, (.int .u32 2024104815)), (58, (.int .u32 2227730452)), (59, (.int .u32 2361852424)), (60, (.int .u32 2428436474)), (61, (.int .u32 2756734187)), (62, (.int .u32 3204031479)), (63, (.int .u32 3329325298))] = some cs1 ∧
 Array.size (List.toArray cs1) = 64 ∧ (∀ u ∈ Array.toList (List.toArray cs1), one u = true) ∧ Room w0 ⟨World.heap w |>.size, 0, none⟩ 64 ∧
 ∀ w2 : World, w2 = setCells w0 ⟨World.heap w |>.size, 0, none⟩ (Array.toList (List.toArray cs1)) 0 →
 ∃ cs3 : List Value, List.length cs3 = 64 ∧ Cells w2 ⟨World.heap w |>.size, 0, none⟩ cs3 ∧
 R (.returned (.agg (List.toArray cs3))) w2
theorem e46 (w : World) (R : Ending → World → Prop) : denS Tryd.prog s46 (argsEnv 0 []) w (endK r46 R) = d46  w R := by kernel_rfl
theorem c46 {w : World} {R : Ending → World → Prop} (h : d46  w R) : Calls Tryd.prog 46 #[] w R :=
  den46 [] w R (by simp) ((e46  w R).symm ▸ h)

/-- prelude/preluderef24.padded -/
def s47 : S := (.seq (.ops [⟨(some 2), (.mv (.const (.slice none 0 0))), .sl, none⟩] [0])
 (.seq (.ops [⟨(some 3), (.mv (.const (.slice none 0 0))), .sl, none⟩] [3, 0])
 (.seq (.ops [⟨(some 6), (.mv (.tmp 3)), .sl, none⟩,
  ⟨(some 7), (.mv (.tmp 0)), .sl, none⟩,
  ⟨(some 8), (.app #[22, 22] 22 (.tmp 6) (.tmp 7)), .sl, none⟩,
  ⟨(some 3), (.mv (.tmp 8)), .sl, none⟩] [3, 0])
 (.seq (.ops [⟨(some 9), (.mv (.tmp 3)), .sl, none⟩,
  ⟨(some 10), (.bldS 5 1 1 [(0, (.const (.int .u8 128)))]), .sl, none⟩,
  ⟨(some 11), (.app #[22, 22] 22 (.tmp 9) (.tmp 10)), .sl, none⟩,
  ⟨(some 3), (.mv (.tmp 11)), .sl, none⟩] [3, 0])
 (.seq (.block 0
 (.loop [(3, .sl)] [0]
 (.seq (.seq (.ops [⟨(some 12), (.mv (.tmp 3)), .sl, none⟩,
  ⟨(some 13), (.len (.tmp 12)), (.int .i64), none⟩,
  ⟨(some 14), (.bin .rem (.tmp 13) (.const (.int .i64 64))), (.int .i64), none⟩,
  ⟨(some 15), (.bin .neq (.tmp 14) (.const (.int .i64 56))), .bool, none⟩] [15, 3, 0])
 (.cond (.tmp 15)
 .skip
 (.exit 0)))
 (.block 1
 (.ops [⟨(some 16), (.mv (.tmp 3)), .sl, none⟩,
  ⟨(some 17), (.bldS 5 1 1 [(0, (.const (.int .u8 0)))]), .sl, none⟩,
  ⟨(some 18), (.app #[22, 22] 22 (.tmp 16) (.tmp 17)), .sl, none⟩,
  ⟨(some 3), (.mv (.tmp 18)), .sl, none⟩] [3, 0])))))
 (.seq (.ops [⟨(some 19), (.mv (.tmp 0)), .sl, none⟩,
  ⟨(some 20), (.len (.tmp 19)), (.int .i64), none⟩,
  ⟨(some 21), (.cv .u64 (.tmp 20)), (.int .u64), none⟩,
  ⟨(some 22), (.bin .mul (.tmp 21) (.const (.int .u64 8))), (.int .u64), none⟩,
  ⟨(some 4), (.mv (.tmp 22)), (.int .u64), none⟩] [3, 4])
 (.seq (.seq (.ops [⟨(some 5), (.mv (.const (.int .i64 7))), (.int .i64), none⟩] [5, 3, 4])
 (.block 2
 (.loop [(3, .sl), (5, (.int .i64))] [4]
 (.seq (.seq (.ops [⟨(some 23), (.mv (.tmp 5)), (.int .i64), none⟩,
  ⟨(some 24), (.bin .geq (.tmp 23) (.const (.int .i64 0))), .bool, none⟩] [24, 3, 4, 5])
 (.cond (.tmp 24)
 .skip
 (.exit 2)))
 (.seq (.block 3
 (.ops [⟨(some 27), (.mv (.tmp 3)), .sl, none⟩,
  ⟨(some 28), (.mv (.tmp 4)), (.int .u64), none⟩,
  ⟨(some 29), (.mv (.tmp 5)), (.int .i64), none⟩,
  ⟨(some 30), (.bin .mul (.const (.int .i64 8)) (.tmp 29)), (.int .i64), none⟩,
  ⟨(some 31), (.bin .shr (.tmp 28) (.tmp 30)), (.int .u64), none⟩,
  ⟨(some 32), (.cv .u8 (.tmp 31)), (.int .u8), none⟩,
  ⟨(some 33), (.bldS 5 1 1 [(0, (.tmp 32))]), .sl, none⟩,
  ⟨(some 34), (.app #[22, 22] 22 (.tmp 27) (.tmp 33)), .sl, none⟩,
  ⟨(some 3), (.mv (.tmp 34)), .sl, none⟩] [5, 3, 4]))
 (.ops [⟨(some 25), (.mv (.tmp 5)), (.int .i64), none⟩,
  ⟨(some 26), (.bin .sub (.tmp 25) (.const (.int .i64 1))), (.int .i64), none⟩,
  ⟨(some 5), (.mv (.tmp 26)), (.int .i64), none⟩] [5, 3, 4]))))))
 (.seq (.ops [⟨(some 35), (.mv (.tmp 3)), .sl, none⟩,
  ⟨(some 2), (.mv (.tmp 35)), .sl, none⟩] [2])
 .ret))))))))
def r47 : List Res := [.t 2]
theorem tr47 : trS Tryd.prog [] 36 (Tryd.f47.body.getD .skip) s47 = some s47 := by kernel_rfl
theorem den47 (args : List Value) (w : World) (R : Ending → World → Prop) (hn : args.length ≤ 36) (h : denS Tryd.prog s47 (argsEnv 0 args) w (endK r47 R)) : Calls Tryd.prog 47 args.toArray w R :=
  calls_of_den (pn := []) (fn := Tryd.f47) (c := Tryd.f47.body.getD .skip) Tryd.func47 (by kernel_rfl) (by rw [Tryd.ntmps47]; exact hn) (by rw [Tryd.ntmps47]; exact tr47) (by kernel_rfl) h
def d47 (b0 : Option Addr) (b0n : Nat) (b0c : Nat) (w : World) (R : Ending → World → Prop) : Prop :=
 RunV Tryd.prog (Builtin.append_ #[22, 22] 22 #[(.slice none 0 0), (.slice b0 b0n b0c)]) w fun v1 w2 => ∃ (x3 : Option Addr) (x3n : Nat) (x3c : Nat), v1 = (.slice x3 x3n x3c) ∧
 ∃ cs4, fillL (.elems 1) (zrep (zc Tryd.prog 5) (1 * 1)) [(0, (.int .u8 128))] = some cs4 ∧
 ∀ w5 : World, w5 = World.alloc w2 (.cells (List.toArray cs4) 5) →
 RunV Tryd.prog (Builtin.append_ #[22, 22] 22 #[(.slice x3 x3n x3c), (.slice (some ⟨World.heap w2 |>.size, 0, none⟩) 1 1)]) w5 fun v6 w7 => ∃ (x8 : Option Addr) (x8n : Nat) (x8c : Nat), v6 = (.slice x8 x8n x8c) ∧
 ∃ I9 : Nat → Option Addr → Nat → Nat → World → Prop,
 (∃ m, I9 m x8 x8n x8c w7) ∧
 (∀ (m10 : Nat) (w11 : World) (l12 : Option Addr) (l12n : Nat) (l12c : Nat), I9 m10 l12 l12n l12c w11 →
 (64 : Int) ≠ 0 ∧ (bif (!decide ((Int.tmod ((l12n : Nat) : Int) 64) = 56)) then
 (∃ cs13, fillL (.elems 1) (zrep (zc Tryd.prog 5) (1 * 1)) [(0, (.int .u8 0))] = some cs13 ∧
 ∀ w14 : World, w14 = World.alloc w11 (.cells (List.toArray cs13) 5) →
 RunV Tryd.prog (Builtin.append_ #[22, 22] 22 #[(.slice l12 l12n l12c), (.slice (some ⟨World.heap w11 |>.size, 0, none⟩) 1 1)]) w14 fun v15 w16 => ∃ (x17 : Option Addr) (x17n : Nat) (x17c : Nat), v15 = (.slice x17 x17n x17c) ∧
 ∃ m18, m18 < m10 ∧ I9 m18 x17 x17n x17c w16)
 else
 (∃ I19 : Nat → Option Addr → Nat → Nat → Int → World → Prop,
 (∃ m, I19 m l12 l12n l12c 7 w11) ∧
 (∀ (m20 : Nat) (w21 : World) (l22 : Option Addr) (l22n : Nat) (l22c : Nat) (i23 : Int), I19 m20 l22 l22n l22c i23 w21 →
 (bif (decide (0 ≤ i23)) then
 (0 ≤ (IntKind.wrap .i64 (8 * i23)) ∧ ∃ cs24, fillL (.elems 1) (zrep (zc Tryd.prog 5) (1 * 1)) [(0, (.int .u8 (IntKind.wrap .u8 (shR .u64 (IntKind.wrap .u64 ((IntKind.wrap .u64 ((b0n : Nat) : Int)) * 8)) (IntKind.wrap .i64 (8 * i23))))))] = some cs24 ∧
 ∀ w25 : World, w25 = World.alloc w21 (.cells (List.toArray cs24) 5) →
 RunV Tryd.prog (Builtin.append_ #[22, 22] 22 #[(.slice l22 l22n l22c), (.slice (some ⟨World.heap w21 |>.size, 0, none⟩) 1 1)]) w25 fun v26 w27 => ∃ (x28 : Option Addr) (x28n : Nat) (x28c : Nat), v26 = (.slice x28 x28n x28c) ∧
 ∃ m29, m29 < m20 ∧ I19 m29 x28 x28n x28c (IntKind.wrap .i64 (i23 - 1)) w27)
 else
 (R (.returned (.slice l22 l22n l22c)) w21))))))
theorem e47 (b0 : Option Addr) (b0n : Nat) (b0c : Nat) (w : World) (R : Ending → World → Prop) : denS Tryd.prog s47 (argsEnv 0 [(.slice b0 b0n b0c)]) w (endK r47 R) = d47 b0 b0n b0c w R := by kernel_rfl
theorem c47 (b0 : Option Addr) (b0n : Nat) (b0c : Nat) {w : World} {R : Ending → World → Prop} (h : d47 b0 b0n b0c w R) : Calls Tryd.prog 47 #[(.slice b0 b0n b0c)] w R :=
  den47 [(.slice b0 b0n b0c)] w R (by simp) ((e47 b0 b0n b0c w R).symm ▸ h)

/-- prelude/preluderef24.spread -/
def s48 : S := (.seq (.ops [⟨(some 2), (.alloc 96), .ptr, none⟩] [0, 2])
 (.seq (.ops [⟨(some 3), (.alloc 96), .ptr, none⟩] [0, 3, 2])
 (.seq (.seq (.ops [⟨(some 4), (.mv (.const (.int .i64 0))), (.int .i64), none⟩] [4, 0, 3, 2])
 (.block 0
 (.loop [(4, (.int .i64))] [0, 2, 3]
 (.seq (.seq (.ops [⟨(some 10), (.mv (.tmp 4)), (.int .i64), none⟩,
  ⟨(some 11), (.bin .lss (.tmp 10) (.const (.int .i64 16))), .bool, none⟩] [11, 4, 0, 3, 2])
 (.cond (.tmp 11)
 .skip
 (.exit 0)))
 (.seq (.block 1
 (.draw (.take 0 ⟨(some 14), (.mv (.tmp 4)), (.int .i64), none⟩
  (.take 1 ⟨(some 15), (.mv (.tmp 0)), .sl, none⟩
  (.take 2 ⟨(some 16), (.mv (.tmp 4)), (.int .i64), none⟩
  (.take 3 ⟨(some 17), (.bin .mul (.const (.int .i64 4)) (.tmp 16)), (.int .i64), none⟩
  (.take 4 ⟨(some 18), (.ia 1 (.tmp 15) (.tmp 17)), .ptr, none⟩
  (.take 5 ⟨(some 19), (.ld1 (.tmp 18)), (.int .u8), none⟩
  (.take 6 ⟨(some 20), (.cv .u32 (.tmp 19)), (.int .u32), none⟩
  (.take 7 ⟨(some 21), (.bin .shl (.tmp 20) (.const (.int .u64 24))), (.int .u32), none⟩
  (.take 8 ⟨(some 22), (.mv (.tmp 0)), .sl, none⟩
  (.take 9 ⟨(some 23), (.mv (.tmp 4)), (.int .i64), none⟩
  (.take 10 ⟨(some 24), (.bin .mul (.const (.int .i64 4)) (.tmp 23)), (.int .i64), none⟩
  (.take 11 ⟨(some 25), (.bin .add (.tmp 24) (.const (.int .i64 1))), (.int .i64), none⟩
  (.take 12 ⟨(some 26), (.ia 1 (.tmp 22) (.tmp 25)), .ptr, none⟩
  (.take 13 ⟨(some 27), (.ld1 (.tmp 26)), (.int .u8), none⟩
  (.take 14 ⟨(some 28), (.cv .u32 (.tmp 27)), (.int .u32), none⟩
  (.take 15 ⟨(some 29), (.bin .shl (.tmp 28) (.const (.int .u64 16))), (.int .u32), none⟩
  (.take 16 ⟨(some 30), (.bin .or (.tmp 21) (.tmp 29)), (.int .u32), none⟩
  (.take 17 ⟨(some 31), (.mv (.tmp 0)), .sl, none⟩
  (.take 18 ⟨(some 32), (.mv (.tmp 4)), (.int .i64), none⟩
  (.take 19 ⟨(some 33), (.bin .mul (.const (.int .i64 4)) (.tmp 32)), (.int .i64), none⟩
  (.take 20 ⟨(some 34), (.bin .add (.tmp 33) (.const (.int .i64 2))), (.int .i64), none⟩
  (.take 21 ⟨(some 35), (.ia 1 (.tmp 31) (.tmp 34)), .ptr, none⟩
  (.take 22 ⟨(some 36), (.ld1 (.tmp 35)), (.int .u8), none⟩
  (.take 23 ⟨(some 37), (.cv .u32 (.tmp 36)), (.int .u32), none⟩
  (.take 24 ⟨(some 38), (.bin .shl (.tmp 37) (.const (.int .u64 8))), (.int .u32), none⟩
  (.take 25 ⟨(some 39), (.bin .or (.tmp 30) (.tmp 38)), (.int .u32), none⟩
  (.take 26 ⟨(some 40), (.mv (.tmp 0)), .sl, none⟩
  (.take 27 ⟨(some 41), (.mv (.tmp 4)), (.int .i64), none⟩
  (.take 28 ⟨(some 42), (.bin .mul (.const (.int .i64 4)) (.tmp 41)), (.int .i64), none⟩
  (.take 29 ⟨(some 43), (.bin .add (.tmp 42) (.const (.int .i64 3))), (.int .i64), none⟩
  (.take 30 ⟨(some 44), (.ia 1 (.tmp 40) (.tmp 43)), .ptr, none⟩
  (.take 31 ⟨(some 45), (.ld1 (.tmp 44)), (.int .u8), none⟩
  (.take 32 ⟨(some 46), (.cv .u32 (.tmp 45)), (.int .u32), none⟩
  (.take 33 ⟨(some 47), (.bin .or (.tmp 39) (.tmp 46)), (.int .u32), none⟩
  (.take 34 ⟨(some 48), (.iaA 64 1 (.tmp 3) (.tmp 14)), .ptr, none⟩
  (.go 35 ⟨none, (.st1 (.tmp 48) (.tmp 47)), .any, none⟩ []
  .done)))))))))))))))))))))))))))))))))))) [4, 0, 3, 2]))
 (.ops [⟨(some 12), (.mv (.tmp 4)), (.int .i64), none⟩,
  ⟨(some 13), (.bin .add (.tmp 12) (.const (.int .i64 1))), (.int .i64), none⟩,
  ⟨(some 4), (.mv (.tmp 13)), (.int .i64), none⟩] [4, 0, 3, 2]))))))
 (.seq (.seq (.ops [⟨(some 5), (.mv (.const (.int .i64 16))), (.int .i64), none⟩] [5, 3, 2])
 (.block 2
 (.loop [(5, (.int .i64))] [2, 3]
 (.seq (.seq (.ops [⟨(some 49), (.mv (.tmp 5)), (.int .i64), none⟩,
  ⟨(some 50), (.bin .lss (.tmp 49) (.const (.int .i64 64))), .bool, none⟩] [50, 5, 3, 2])
 (.cond (.tmp 50)
 .skip
 (.exit 2)))
 (.seq (.block 3
 (.seq (.ops [⟨(some 53), (.mv (.tmp 5)), (.int .i64), none⟩,
  ⟨(some 54), (.bin .sub (.tmp 53) (.const (.int .i64 15))), (.int .i64), none⟩,
  ⟨(some 55), (.iaA 64 1 (.tmp 3) (.tmp 54)), .ptr, none⟩,
  ⟨(some 56), (.ld1 (.tmp 55)), (.int .u32), none⟩,
  ⟨(some 6), (.mv (.tmp 56)), (.int .u32), none⟩] [5, 3, 6, 2])
 (.seq (.ops [⟨(some 57), (.mv (.tmp 5)), (.int .i64), none⟩,
  ⟨(some 58), (.bin .sub (.tmp 57) (.const (.int .i64 2))), (.int .i64), none⟩,
  ⟨(some 59), (.iaA 64 1 (.tmp 3) (.tmp 58)), .ptr, none⟩,
  ⟨(some 60), (.ld1 (.tmp 59)), (.int .u32), none⟩,
  ⟨(some 7), (.mv (.tmp 60)), (.int .u32), none⟩] [6, 7, 5, 3, 2])
 (.seq (.ops [⟨(some 61), (.mv (.tmp 6)), (.int .u32), none⟩,
  ⟨(some 62), (.call 49 [(.tmp 61), (.const (.int .u32 7))] [(.int .u32)]), (.int .u32), none⟩,
  ⟨(some 63), (.mv (.tmp 6)), (.int .u32), none⟩,
  ⟨(some 64), (.call 49 [(.tmp 63), (.const (.int .u32 18))] [(.int .u32)]), (.int .u32), none⟩,
  ⟨(some 65), (.bin .xor (.tmp 62) (.tmp 64)), (.int .u32), none⟩,
  ⟨(some 66), (.mv (.tmp 6)), (.int .u32), none⟩,
  ⟨(some 67), (.bin .shr (.tmp 66) (.const (.int .u64 3))), (.int .u32), none⟩,
  ⟨(some 68), (.bin .xor (.tmp 65) (.tmp 67)), (.int .u32), none⟩,
  ⟨(some 8), (.mv (.tmp 68)), (.int .u32), none⟩] [7, 5, 3, 8, 2])
 (.seq (.ops [⟨(some 69), (.mv (.tmp 7)), (.int .u32), none⟩,
  ⟨(some 70), (.call 49 [(.tmp 69), (.const (.int .u32 17))] [(.int .u32)]), (.int .u32), none⟩,
  ⟨(some 71), (.mv (.tmp 7)), (.int .u32), none⟩,
  ⟨(some 72), (.call 49 [(.tmp 71), (.const (.int .u32 19))] [(.int .u32)]), (.int .u32), none⟩,
  ⟨(some 73), (.bin .xor (.tmp 70) (.tmp 72)), (.int .u32), none⟩,
  ⟨(some 74), (.mv (.tmp 7)), (.int .u32), none⟩,
  ⟨(some 75), (.bin .shr (.tmp 74) (.const (.int .u64 10))), (.int .u32), none⟩,
  ⟨(some 76), (.bin .xor (.tmp 73) (.tmp 75)), (.int .u32), none⟩,
  ⟨(some 9), (.mv (.tmp 76)), (.int .u32), none⟩] [5, 9, 3, 8, 2])
 (.draw (.take 0 ⟨(some 77), (.mv (.tmp 5)), (.int .i64), none⟩
  (.take 1 ⟨(some 78), (.mv (.tmp 9)), (.int .u32), none⟩
  (.take 2 ⟨(some 79), (.mv (.tmp 5)), (.int .i64), none⟩
  (.take 3 ⟨(some 80), (.bin .sub (.tmp 79) (.const (.int .i64 7))), (.int .i64), none⟩
  (.take 4 ⟨(some 81), (.iaA 64 1 (.tmp 3) (.tmp 80)), .ptr, none⟩
  (.take 5 ⟨(some 82), (.ld1 (.tmp 81)), (.int .u32), none⟩
  (.take 6 ⟨(some 83), (.bin .add (.tmp 78) (.tmp 82)), (.int .u32), none⟩
  (.take 7 ⟨(some 84), (.mv (.tmp 8)), (.int .u32), none⟩
  (.take 8 ⟨(some 85), (.bin .add (.tmp 83) (.tmp 84)), (.int .u32), none⟩
  (.take 9 ⟨(some 86), (.mv (.tmp 5)), (.int .i64), none⟩
  (.take 10 ⟨(some 87), (.bin .sub (.tmp 86) (.const (.int .i64 16))), (.int .i64), none⟩
  (.take 11 ⟨(some 88), (.iaA 64 1 (.tmp 3) (.tmp 87)), .ptr, none⟩
  (.take 12 ⟨(some 89), (.ld1 (.tmp 88)), (.int .u32), none⟩
  (.take 13 ⟨(some 90), (.bin .add (.tmp 85) (.tmp 89)), (.int .u32), none⟩
  (.take 14 ⟨(some 91), (.iaA 64 1 (.tmp 3) (.tmp 77)), .ptr, none⟩
  (.go 15 ⟨none, (.st1 (.tmp 91) (.tmp 90)), .any, none⟩ []
  .done)))))))))))))))) [5, 3, 2]))))))
 (.ops [⟨(some 51), (.mv (.tmp 5)), (.int .i64), none⟩,
  ⟨(some 52), (.bin .add (.tmp 51) (.const (.int .i64 1))), (.int .i64), none⟩,
  ⟨(some 5), (.mv (.tmp 52)), (.int .i64), none⟩] [5, 3, 2]))))))
 (.seq (.ops [⟨(some 92), (.ldN 64 (.tmp 3)), .agg, none⟩,
  ⟨none, (.stN 64 (.tmp 2) (.tmp 92)), .any, none⟩] [2])
 .ret)))))
def r48 : List Res := [.cN 2 64]
theorem tr48 : trS Tryd.prog [] 93 (Tryd.f48.body.getD .skip) s48 = some s48 := by kernel_rfl
theorem den48 (args : List Value) (w : World) (R : Ending → World → Prop) (hn : args.length ≤ 93) (h : denS Tryd.prog s48 (argsEnv 0 args) w (endK r48 R)) : Calls Tryd.prog 48 args.toArray w R :=
  calls_of_den (pn := []) (fn := Tryd.f48) (c := Tryd.f48.body.getD .skip) Tryd.func48 (by kernel_rfl) (by rw [Tryd.ntmps48]; exact hn) (by rw [Tryd.ntmps48]; exact tr48) (by kernel_rfl) h
def d48 (b0 : Option Addr) (b0n : Nat) (b0c : Nat) (w : World) (R : Ending → World → Prop) : Prop :=
 ∀ w1 : World, w1 = World.alloc w (.cells (zc Tryd.prog 96).toArray 96) →
 ∀ w2 : World, w2 = World.alloc w1 (.cells (zc Tryd.prog 96).toArray 96) →
 ∃ I3 : Nat → Int → World → Prop,
 (∃ m, I3 m 0 w2) ∧
 (∀ (m4 : Nat) (w5 : World) (t6 : Int), I3 m4 t6 w5 →
 (bif (decide (t6 < 16)) then
 (∀ w7 : World, w7 = World.drew w5 →
 0 ≤ (IntKind.wrap .i64 (4 * t6)) ∧ (IntKind.wrap .i64 (4 * t6)) < ((b0n : Nat) : Int) ∧ optK b0 fun a8 =>
 ∃ x9 : Int, World.cell? w7 (Addr.add a8 (Int.toNat (IntKind.wrap .i64 (4 * t6)) * 1)) = some (.int .u8 x9) ∧
 0 ≤ (24 : Int) ∧ 0 ≤ (IntKind.wrap .i64 ((IntKind.wrap .i64 (4 * t6)) + 1)) ∧ (IntKind.wrap .i64 ((IntKind.wrap .i64 (4 * t6)) + 1)) < ((b0n : Nat) : Int) ∧ optK b0 fun a10 =>
 ∃ x11 : Int, World.cell? w7 (Addr.add a10 (Int.toNat (IntKind.wrap .i64 ((IntKind.wrap .i64 (4 * t6)) + 1)) * 1)) = some (.int .u8 x11) ∧
 0 ≤ (16 : Int) ∧ 0 ≤ (IntKind.wrap .i64 ((IntKind.wrap .i64 (4 * t6)) + 2)) ∧ (IntKind.wrap .i64 ((IntKind.wrap .i64 (4 * t6)) + 2)) < ((b0n : Nat) : Int) ∧ optK b0 fun a12 =>
 ∃ x13 : Int, World.cell? w7 (Addr.add a12 (Int.toNat (IntKind.wrap .i64 ((IntKind.wrap .i64 (4 * t6)) + 2)) * 1)) = some (.int .u8 x13) ∧
 0 ≤ (8 : Int) ∧ 0 ≤ (IntKind.wrap .i64 ((IntKind.wrap .i64 (4 * t6)) + 3)) ∧ (IntKind.wrap .i64 ((IntKind.wrap .i64 (4 * t6)) + 3)) < ((b0n : Nat) : Int) ∧ optK b0 fun a14 =>
 ∃ x15 : Int, World.cell? w7 (Addr.add a14 (Int.toNat (IntKind.wrap .i64 ((IntKind.wrap .i64 (4 * t6)) + 3)) * 1)) = some (.int .u8 x15) ∧
 0 ≤ t6 ∧ t6 < ((64 : Nat) : Int) ∧
 one (.int .u32 (bOr .u32 (bOr .u32 (bOr .u32 (shL .u32 (IntKind.wrap .u32 x9) 24) (shL .u32 (IntKind.wrap .u32 x11) 16)) (shL .u32 (IntKind.wrap .u32 x13) 8)) (IntKind.wrap .u32 x15))) = true ∧ Option.isSome (World.cell? w7 (Addr.add ⟨World.heap w1 |>.size, 0, none⟩ (Int.toNat t6 * 1))) = true ∧ World.frozen? w7 (Addr.add ⟨World.heap w1 |>.size, 0, none⟩ (Int.toNat t6 * 1)) = false ∧
 ∀ w16 : World, w16 = World.setCell w7 (Addr.add ⟨World.heap w1 |>.size, 0, none⟩ (Int.toNat t6 * 1)) (.int .u32 (bOr .u32 (bOr .u32 (bOr .u32 (shL .u32 (IntKind.wrap .u32 x9) 24) (shL .u32 (IntKind.wrap .u32 x11) 16)) (shL .u32 (IntKind.wrap .u32 x13) 8)) (IntKind.wrap .u32 x15))) →
 ∃ m17, m17 < m4 ∧ I3 m17 (IntKind.wrap .i64 (t6 + 1)) w16)
 else
 (∃ I18 : Nat → Int → World → Prop,
 (∃ m, I18 m 16 w5) ∧
 (∀ (m19 : Nat) (w20 : World) (t21 : Int), I18 m19 t21 w20 →
 (bif (decide (t21 < 64)) then
 (0 ≤ (IntKind.wrap .i64 (t21 - 15)) ∧ (IntKind.wrap .i64 (t21 - 15)) < ((64 : Nat) : Int) ∧
 ∃ x22 : Int, World.cell? w20 (Addr.add ⟨World.heap w1 |>.size, 0, none⟩ (Int.toNat (IntKind.wrap .i64 (t21 - 15)) * 1)) = some (.int .u32 x22) ∧
 0 ≤ (IntKind.wrap .i64 (t21 - 2)) ∧ (IntKind.wrap .i64 (t21 - 2)) < ((64 : Nat) : Int) ∧
 ∃ x23 : Int, World.cell? w20 (Addr.add ⟨World.heap w1 |>.size, 0, none⟩ (Int.toNat (IntKind.wrap .i64 (t21 - 2)) * 1)) = some (.int .u32 x23) ∧
 Calls Tryd.prog 49 #[(.int .u32 x22), (.int .u32 7)] w20 fun e24 w25 => ∃ x26 : Int, e24 = .returned (.int .u32 x26) ∧
 Calls Tryd.prog 49 #[(.int .u32 x22), (.int .u32 18)] w25 fun e27 w28 => ∃ x29 : Int, e27 = .returned (.int .u32 x29) ∧
 0 ≤ (3 : Int) ∧ Calls Tryd.prog 49 #[(.int .u32 x23), (.int .u32 17)] w28 fun e30 w31 => ∃ x32 : Int, e30 = .returned (.int .u32 x32) ∧
 Calls Tryd.prog 49 #[(.int .u32 x23), (.int .u32 19)] w31 fun e33 w34 => ∃ x35 : Int, e33 = .returned (.int .u32 x35) ∧
 0 ≤ (10 : Int) ∧ ∀ w36 : World, w36 = World.drew w34 →
 0 ≤ (IntKind.wrap .i64 (t21 - 7)) ∧ (IntKind.wrap .i64 (t21 - 7)) < ((64 : Nat) : Int) ∧
 ∃ x37 : Int, World.cell? w36 (Addr.add ⟨World.heap w1 |>.size, 0, none⟩ (Int.toNat (IntKind.wrap .i64 (t21 - 7)) * 1)) = some (.int .u32 x37) ∧
 0 ≤ (IntKind.wrap .i64 (t21 - 16)) ∧ (IntKind.wrap .i64 (t21 - 16)) < ((64 : Nat) : Int) ∧
 ∃ x38 : Int, World.cell? w36 (Addr.add ⟨World.heap w1 |>.size, 0, none⟩ (Int.toNat (IntKind.wrap .i64 (t21 - 16)) * 1)) = some (.int .u32 x38) ∧
 0 ≤ t21 ∧ t21 < ((64 : Nat) : Int) ∧
 one (.int .u32 (IntKind.wrap .u32 ((IntKind.wrap .u32 ((IntKind.wrap .u32 ((bXor .u32 (bXor .u32 x32 x35) (shR .u32 x23 10)) + x37)) + (bXor .u32 (bXor .u32 x26 x29) (shR .u32 x22 3)))) + x38))) = true ∧ Option.isSome (World.cell? w36 (Addr.add ⟨World.heap w1 |>.size, 0, none⟩ (Int.toNat t21 * 1))) = true ∧ World.frozen? w36 (Addr.add ⟨World.heap w1 |>.size, 0, none⟩ (Int.toNat t21 * 1)) = false ∧
 ∀ w39 : World, w39 = World.setCell w36 (Addr.add ⟨World.heap w1 |>.size, 0, none⟩ (Int.toNat t21 * 1)) (.int .u32 (IntKind.wrap .u32 ((IntKind.wrap .u32 ((IntKind.wrap .u32 ((bXor .u32 (bXor .u32 x32 x35) (shR .u32 x23 10)) + x37)) + (bXor .u32 (bXor .u32 x26 x29) (shR .u32 x22 3)))) + x38))) →
 ∃ m40, m40 < m19 ∧ I18 m40 (IntKind.wrap .i64 (t21 + 1)) w39)
 else
 (∃ cs41 : List Value, List.length cs41 = 64 ∧ Cells w20 ⟨World.heap w1 |>.size, 0, none⟩ cs41 ∧
 Array.size (List.toArray cs41) = 64 ∧ (∀ u ∈ Array.toList (List.toArray cs41), one u = true) ∧ Room w20 ⟨World.heap w |>.size, 0, none⟩ 64 ∧
 ∀ w42 : World, w42 = setCells w20 ⟨World.heap w |>.size, 0, none⟩ (Array.toList (List.toArray cs41)) 0 →
 ∃ cs43 : List Value, List.length cs43 = 64 ∧ Cells w42 ⟨World.heap w |>.size, 0, none⟩ cs43 ∧
 R (.returned (.agg (List.toArray cs43))) w42))))))
theorem e48 (b0 : Option Addr) (b0n : Nat) (b0c : Nat) (w : World) (R : Ending → World → Prop) : denS Tryd.prog s48 (argsEnv 0 [(.slice b0 b0n b0c)]) w (endK r48 R) = d48 b0 b0n b0c w R := by kernel_rfl
theorem c48 (b0 : Option Addr) (b0n : Nat) (b0c : Nat) {w : World} {R : Ending → World → Prop} (h : d48 b0 b0n b0c w R) : Calls Tryd.prog 48 #[(.slice b0 b0n b0c)] w R :=
  den48 [(.slice b0 b0n b0c)] w R (by simp) ((e48 b0 b0n b0c w R).symm ▸ h)

/-- prelude/preluderef24.turn -/
def s49 : S := (.seq (.ops [⟨(some 4), (.mv (.const (.int .u32 0))), (.int .u32), none⟩] [0, 1])
 (.seq (.ops [⟨(some 5), (.mv (.tmp 0)), (.int .u32), none⟩,
  ⟨(some 6), (.mv (.tmp 1)), (.int .u32), none⟩,
  ⟨(some 7), (.bin .shr (.tmp 5) (.tmp 6)), (.int .u32), none⟩,
  ⟨(some 8), (.mv (.tmp 0)), (.int .u32), none⟩,
  ⟨(some 9), (.mv (.tmp 1)), (.int .u32), none⟩,
  ⟨(some 10), (.bin .sub (.const (.int .u32 32)) (.tmp 9)), (.int .u32), none⟩,
  ⟨(some 11), (.bin .shl (.tmp 8) (.tmp 10)), (.int .u32), none⟩,
  ⟨(some 12), (.bin .or (.tmp 7) (.tmp 11)), (.int .u32), none⟩,
  ⟨(some 4), (.mv (.tmp 12)), (.int .u32), none⟩] [4])
 .ret))
def r49 : List Res := [.t 4]
theorem tr49 : trS Tryd.prog [] 13 (Tryd.f49.body.getD .skip) s49 = some s49 := by kernel_rfl
theorem den49 (args : List Value) (w : World) (R : Ending → World → Prop) (hn : args.length ≤ 13) (h : denS Tryd.prog s49 (argsEnv 0 args) w (endK r49 R)) : Calls Tryd.prog 49 args.toArray w R :=
  calls_of_den (pn := []) (fn := Tryd.f49) (c := Tryd.f49.body.getD .skip) Tryd.func49 (by kernel_rfl) (by rw [Tryd.ntmps49]; exact hn) (by rw [Tryd.ntmps49]; exact tr49) (by kernel_rfl) h
def d49 (x0 : Int) (n1 : Int) (w : World) (R : Ending → World → Prop) : Prop :=
 0 ≤ n1 ∧ 0 ≤ (IntKind.wrap .u32 (32 - n1)) ∧ R (.returned (.int .u32 (bOr .u32 (shR .u32 x0 n1) (shL .u32 x0 (IntKind.wrap .u32 (32 - n1)))))) w
theorem e49 (x0 : Int) (n1 : Int) (w : World) (R : Ending → World → Prop) : denS Tryd.prog s49 (argsEnv 0 [(.int .u32 x0), (.int .u32 n1)]) w (endK r49 R) = d49 x0 n1 w R := by kernel_rfl
theorem c49 (x0 : Int) (n1 : Int) {w : World} {R : Ending → World → Prop} (h : d49 x0 n1 w R) : Calls Tryd.prog 49 #[(.int .u32 x0), (.int .u32 n1)] w R :=
  den49 [(.int .u32 x0), (.int .u32 n1)] w R (by simp) ((e49 x0 n1 w R).symm ▸ h)

/-- prelude/proof.turned -/
def s70 : S := (.seq (.ops [⟨(some 4), (.mv (.const (.int .u32 0))), (.int .u32), none⟩] [0, 1])
 (.seq (.ops [⟨(some 5), (.mv (.tmp 0)), (.int .u32), none⟩,
  ⟨(some 6), (.mv (.tmp 1)), (.int .i64), none⟩,
  ⟨(some 7), (.un .neg (.tmp 6)), (.int .i64), none⟩,
  ⟨(some 8), (.call 85 [(.tmp 5), (.tmp 7)] [(.int .u32)]), (.int .u32), none⟩,
  ⟨(some 4), (.mv (.tmp 8)), (.int .u32), none⟩] [4])
 .ret))
def r70 : List Res := [.t 4]
theorem tr70 : trS Tryd.prog [] 9 (Tryd.f70.body.getD .skip) s70 = some s70 := by kernel_rfl
theorem den70 (args : List Value) (w : World) (R : Ending → World → Prop) (hn : args.length ≤ 9) (h : denS Tryd.prog s70 (argsEnv 0 args) w (endK r70 R)) : Calls Tryd.prog 70 args.toArray w R :=
  calls_of_den (pn := []) (fn := Tryd.f70) (c := Tryd.f70.body.getD .skip) Tryd.func70 (by kernel_rfl) (by rw [Tryd.ntmps70]; exact hn) (by rw [Tryd.ntmps70]; exact tr70) (by kernel_rfl) h
def d70 (x0 : Int) (n1 : Int) (w : World) (R : Ending → World → Prop) : Prop :=
 Calls Tryd.prog 85 #[(.int .u32 x0), (.int .i64 (IntKind.wrap .i64 (0 - n1)))] w fun e2 w3 => ∃ x4 : Int, e2 = .returned (.int .u32 x4) ∧
 R (.returned (.int .u32 x4)) w3
theorem e70 (x0 : Int) (n1 : Int) (w : World) (R : Ending → World → Prop) : denS Tryd.prog s70 (argsEnv 0 [(.int .u32 x0), (.int .i64 n1)]) w (endK r70 R) = d70 x0 n1 w R := by kernel_rfl
theorem c70 (x0 : Int) (n1 : Int) {w : World} {R : Ending → World → Prop} (h : d70 x0 n1 w R) : Calls Tryd.prog 70 #[(.int .u32 x0), (.int .i64 n1)] w R :=
  den70 [(.int .u32 x0), (.int .i64 n1)] w R (by simp) ((e70 x0 n1 w R).symm ▸ h)

/-- math/bits.RotateLeft32 -/
def s85 : S := (.seq (.ops [⟨(some 4), (.mv (.const (.int .u32 0))), (.int .u32), none⟩] [1, 0])
 (.seq (.ops [⟨(some 6), (.mv (.tmp 1)), (.int .i64), none⟩,
  ⟨(some 7), (.cv .u64 (.tmp 6)), (.int .u64), none⟩,
  ⟨(some 8), (.bin .and (.tmp 7) (.const (.int .u64 31))), (.int .u64), none⟩,
  ⟨(some 5), (.mv (.tmp 8)), (.int .u64), none⟩] [0, 5])
 (.seq (.ops [⟨(some 9), (.mv (.tmp 0)), (.int .u32), none⟩,
  ⟨(some 10), (.mv (.tmp 5)), (.int .u64), none⟩,
  ⟨(some 11), (.bin .shl (.tmp 9) (.tmp 10)), (.int .u32), none⟩,
  ⟨(some 12), (.mv (.tmp 0)), (.int .u32), none⟩,
  ⟨(some 13), (.mv (.tmp 5)), (.int .u64), none⟩,
  ⟨(some 14), (.bin .sub (.const (.int .u64 32)) (.tmp 13)), (.int .u64), none⟩,
  ⟨(some 15), (.bin .shr (.tmp 12) (.tmp 14)), (.int .u32), none⟩,
  ⟨(some 16), (.bin .or (.tmp 11) (.tmp 15)), (.int .u32), none⟩,
  ⟨(some 4), (.mv (.tmp 16)), (.int .u32), none⟩] [4])
 .ret)))
def r85 : List Res := [.t 4]
theorem tr85 : trS Tryd.prog [] 17 (Tryd.f85.body.getD .skip) s85 = some s85 := by kernel_rfl
theorem den85 (args : List Value) (w : World) (R : Ending → World → Prop) (hn : args.length ≤ 17) (h : denS Tryd.prog s85 (argsEnv 0 args) w (endK r85 R)) : Calls Tryd.prog 85 args.toArray w R :=
  calls_of_den (pn := []) (fn := Tryd.f85) (c := Tryd.f85.body.getD .skip) Tryd.func85 (by kernel_rfl) (by rw [Tryd.ntmps85]; exact hn) (by rw [Tryd.ntmps85]; exact tr85) (by kernel_rfl) h
def d85 (x0 : Int) (k1 : Int) (w : World) (R : Ending → World → Prop) : Prop :=
 0 ≤ (bAnd .u64 (IntKind.wrap .u64 k1) 31) ∧ 0 ≤ (IntKind.wrap .u64 (32 - (bAnd .u64 (IntKind.wrap .u64 k1) 31))) ∧ R (.returned (.int .u32 (bOr .u32 (shL .u32 x0 (bAnd .u64 (IntKind.wrap .u64 k1) 31)) (shR .u32 x0 (IntKind.wrap .u64 (32 - (bAnd .u64 (IntKind.wrap .u64 k1) 31))))))) w
theorem e85 (x0 : Int) (k1 : Int) (w : World) (R : Ending → World → Prop) : denS Tryd.prog s85 (argsEnv 0 [(.int .u32 x0), (.int .i64 k1)]) w (endK r85 R) = d85 x0 k1 w R := by kernel_rfl
theorem c85 (x0 : Int) (k1 : Int) {w : World} {R : Ending → World → Prop} (h : d85 x0 k1 w R) : Calls Tryd.prog 85 #[(.int .u32 x0), (.int .i64 k1)] w R :=
  den85 [(.int .u32 x0), (.int .i64 k1)] w R (by simp) ((e85 x0 k1 w R).symm ▸ h)

end Go.Proofs.YtjkbjppopdfggaaDoor.Fn
