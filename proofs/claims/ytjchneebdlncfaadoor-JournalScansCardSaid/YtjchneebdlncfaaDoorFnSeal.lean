/-
  THE CODE of some functions of the given program, resolved, and proved to ask what the readable texts (d..) say; contracts c.. follow. Printed by a small program of mine.
-/
import Derived.Test.YtjchneebdlncfaaDoorDenWords8
import Derived.Test.YtjchneebdlncfaaDoorProg
set_option maxRecDepth 100000
namespace Go.Proofs.YtjchneebdlncfaaDoor.Fn
open Go Den
/-- prelude/codec.Sum -/
def s59 : S := (.seq (.ops [⟨(some 2), (.mv (.const (.int .u32 0))), (.int .u32), none⟩] [0])
 (.seq (.ops [⟨(some 3), (.mv (.const (.int .u32 4294967295))), (.int .u32), none⟩] [0, 3])
 (.seq (.seq (.ops [⟨(some 6), (.mv (.tmp 0)), .sl, none⟩,
  ⟨(some 7), (.len (.tmp 6)), (.int .i64), none⟩,
  ⟨(some 8), (.mv (.const (.int .i64 0))), (.int .i64), none⟩] [8, 7, 6, 3])
 (.block 0
 (.loop [(3, (.int .u32)), (8, (.int .i64))] [6, 7]
 (.seq (.ops [⟨(some 9), (.bin .lss (.tmp 8) (.tmp 7)), .any, none⟩] [9, 6, 8, 3, 7])
 (.seq (.cond (.tmp 9)
 .skip
 (.exit 0))
 (.seq (.block 1
 (.seq (.ops [⟨(some 10), (.ia 1 (.tmp 6) (.tmp 8)), .ptr, none⟩,
  ⟨(some 11), (.ld1 (.tmp 10)), (.int .u8), none⟩,
  ⟨(some 5), (.mv (.tmp 11)), (.int .u8), none⟩] [3, 5, 8, 7, 6])
 (.seq (.ops [⟨(some 12), (.mv (.tmp 3)), (.int .u32), none⟩,
  ⟨(some 13), (.mv (.tmp 5)), (.int .u8), none⟩,
  ⟨(some 14), (.cv .u32 (.tmp 13)), (.int .u32), none⟩,
  ⟨(some 15), (.bin .xor (.tmp 12) (.tmp 14)), (.int .u32), none⟩,
  ⟨(some 3), (.mv (.tmp 15)), (.int .u32), none⟩] [3, 8, 7, 6])
 (.seq (.ops [⟨(some 16), (.mv (.tmp 3)), (.int .u32), none⟩,
  ⟨(some 17), (.bin .shr (.tmp 16) (.const (.int .u64 4))), (.int .u32), none⟩,
  ⟨(some 18), (.mv (.tmp 3)), (.int .u32), none⟩,
  ⟨(some 19), (.bin .and (.tmp 18) (.const (.int .u32 15))), (.int .u32), none⟩,
  ⟨(some 20), (.iaA 16 1 (.global 0) (.tmp 19)), .ptr, none⟩,
  ⟨(some 21), (.ld1 (.tmp 20)), (.int .u32), none⟩,
  ⟨(some 22), (.bin .xor (.tmp 17) (.tmp 21)), (.int .u32), none⟩,
  ⟨(some 3), (.mv (.tmp 22)), (.int .u32), none⟩] [3, 8, 7, 6])
 (.ops [⟨(some 23), (.mv (.tmp 3)), (.int .u32), none⟩,
  ⟨(some 24), (.bin .shr (.tmp 23) (.const (.int .u64 4))), (.int .u32), none⟩,
  ⟨(some 25), (.mv (.tmp 3)), (.int .u32), none⟩,
  ⟨(some 26), (.bin .and (.tmp 25) (.const (.int .u32 15))), (.int .u32), none⟩,
  ⟨(some 27), (.iaA 16 1 (.global 0) (.tmp 26)), .ptr, none⟩,
  ⟨(some 28), (.ld1 (.tmp 27)), (.int .u32), none⟩,
  ⟨(some 29), (.bin .xor (.tmp 24) (.tmp 28)), (.int .u32), none⟩,
  ⟨(some 3), (.mv (.tmp 29)), (.int .u32), none⟩] [8, 7, 6, 3])))))
 (.ops [⟨(some 30), (.bin .add (.tmp 8) (.const (.int .i64 1))), (.int .i64), none⟩,
  ⟨(some 8), (.mv (.tmp 30)), (.int .i64), none⟩] [8, 7, 6, 3])))))))
 (.seq (.ops [⟨(some 31), (.mv (.tmp 3)), (.int .u32), none⟩,
  ⟨(some 32), (.un .xor (.tmp 31)), (.int .u32), none⟩,
  ⟨(some 2), (.mv (.tmp 32)), (.int .u32), none⟩] [2])
 .ret))))
def r59 : List Res := [.t 2]
theorem tr59 : trS Tryd.prog 33 (Tryd.f59.body.getD .skip) s59 = some s59 := by kernel_rfl
theorem den59 (args : List Value) (w : World) (R : Ending → World → Prop) (hn : args.length ≤ 33) (h : denS Tryd.prog s59 (argsEnv 0 args) w (endK r59 R)) : Calls Tryd.prog 59 args.toArray w R :=
  calls_of_den (fn := Tryd.f59) (c := Tryd.f59.body.getD .skip) Tryd.func59 (by kernel_rfl) (by rw [Tryd.ntmps59]; exact hn) (by rw [Tryd.ntmps59]; exact tr59) (by kernel_rfl) h
def d59 (b0 : Option Addr) (b0n : Nat) (b0c : Nat) (w : World) (R : Ending → World → Prop) : Prop :=
 ∃ I1 : Nat → Int → Int → World → Prop,
 (∃ m, I1 m 4294967295 0 w) ∧
 (∀ (m2 : Nat) (w3 : World) (s4 : Int) (x5 : Int), I1 m2 s4 x5 w3 →
 (bif (decide (x5 < ((b0n : Nat) : Int))) then
 (0 ≤ x5 ∧ x5 < ((b0n : Nat) : Int) ∧ optK b0 fun a6 =>
 ∃ x7 : Int, World.cell? w3 (Addr.add a6 (Int.toNat x5 * 1)) = some (.int .u8 x7) ∧
 0 ≤ (4 : Int) ∧ 0 ≤ (bAnd .u32 (bXor .u32 s4 (IntKind.wrap .u32 x7)) 15) ∧ (bAnd .u32 (bXor .u32 s4 (IntKind.wrap .u32 x7)) 15) < ((16 : Nat) : Int) ∧
 ∃ x8 : Int, World.cell? w3 (Addr.add ⟨0, 0, none⟩ (Int.toNat (bAnd .u32 (bXor .u32 s4 (IntKind.wrap .u32 x7)) 15) * 1)) = some (.int .u32 x8) ∧
 0 ≤ (4 : Int) ∧ 0 ≤ (bAnd .u32 (bXor .u32 (shR .u32 (bXor .u32 s4 (IntKind.wrap .u32 x7)) 4) x8) 15) ∧ (bAnd .u32 (bXor .u32 (shR .u32 (bXor .u32 s4 (IntKind.wrap .u32 x7)) 4) x8) 15) < ((16 : Nat) : Int) ∧
 ∃ x9 : Int, World.cell? w3 (Addr.add ⟨0, 0, none⟩ (Int.toNat (bAnd .u32 (bXor .u32 (shR .u32 (bXor .u32 s4 (IntKind.wrap .u32 x7)) 4) x8) 15) * 1)) = some (.int .u32 x9) ∧
 ∃ m10, m10 < m2 ∧ I1 m10 (bXor .u32 (shR .u32 (bXor .u32 (shR .u32 (bXor .u32 s4 (IntKind.wrap .u32 x7)) 4) x8) 4) x9) (IntKind.wrap .i64 (x5 + 1)) w3)
 else
 (R (.returned (.int .u32 (bXor .u32 (IntKind.max .u32) s4))) w3)))
theorem e59 (b0 : Option Addr) (b0n : Nat) (b0c : Nat) (w : World) (R : Ending → World → Prop) : denS Tryd.prog s59 (argsEnv 0 [(.slice b0 b0n b0c)]) w (endK r59 R) = d59 b0 b0n b0c w R := by kernel_rfl
theorem c59 (b0 : Option Addr) (b0n : Nat) (b0c : Nat) {w : World} {R : Ending → World → Prop} (h : d59 b0 b0n b0c w R) : Calls Tryd.prog 59 #[(.slice b0 b0n b0c)] w R :=
  den59 [(.slice b0 b0n b0c)] w R (by simp) ((e59 b0 b0n b0c w R).symm ▸ h)

/-- prelude/codec.four -/
def s69 : S := (.seq (.ops [⟨(some 4), (.mv (.const (.slice none 0 0))), .sl, none⟩] [0, 1])
 (.seq (.ops [⟨(some 5), (.mv (.tmp 0)), .sl, none⟩,
  ⟨(some 6), (.mv (.tmp 1)), (.int .u32), none⟩,
  ⟨(some 7), (.cv .u8 (.tmp 6)), (.int .u8), none⟩,
  ⟨(some 8), (.mv (.tmp 1)), (.int .u32), none⟩,
  ⟨(some 9), (.bin .shr (.tmp 8) (.const (.int .u64 8))), (.int .u32), none⟩,
  ⟨(some 10), (.cv .u8 (.tmp 9)), (.int .u8), none⟩,
  ⟨(some 11), (.mv (.tmp 1)), (.int .u32), none⟩,
  ⟨(some 12), (.bin .shr (.tmp 11) (.const (.int .u64 16))), (.int .u32), none⟩,
  ⟨(some 13), (.cv .u8 (.tmp 12)), (.int .u8), none⟩,
  ⟨(some 14), (.mv (.tmp 1)), (.int .u32), none⟩,
  ⟨(some 15), (.bin .shr (.tmp 14) (.const (.int .u64 24))), (.int .u32), none⟩,
  ⟨(some 16), (.cv .u8 (.tmp 15)), (.int .u8), none⟩,
  ⟨(some 17), (.bldS 5 4 1 [(0, (.tmp 7)), (1, (.tmp 10)), (2, (.tmp 13)), (3, (.tmp 16))]), .sl, none⟩,
  ⟨(some 18), (.app #[22, 22] 22 (.tmp 5) (.tmp 17)), .sl, none⟩,
  ⟨(some 4), (.mv (.tmp 18)), .sl, none⟩] [4])
 .ret))
def r69 : List Res := [.t 4]
theorem tr69 : trS Tryd.prog 19 (Tryd.f69.body.getD .skip) s69 = some s69 := by kernel_rfl
theorem den69 (args : List Value) (w : World) (R : Ending → World → Prop) (hn : args.length ≤ 19) (h : denS Tryd.prog s69 (argsEnv 0 args) w (endK r69 R)) : Calls Tryd.prog 69 args.toArray w R :=
  calls_of_den (fn := Tryd.f69) (c := Tryd.f69.body.getD .skip) Tryd.func69 (by kernel_rfl) (by rw [Tryd.ntmps69]; exact hn) (by rw [Tryd.ntmps69]; exact tr69) (by kernel_rfl) h
def d69 (b0 : Option Addr) (b0n : Nat) (b0c : Nat) (n1 : Int) (w : World) (R : Ending → World → Prop) : Prop :=
 0 ≤ (8 : Int) ∧ 0 ≤ (16 : Int) ∧ 0 ≤ (24 : Int) ∧ ∃ cs2, fillL (.elems 1) (zrep (zc Tryd.prog 5) (4 * 1)) [(0, (.int .u8 (IntKind.wrap .u8 n1))), (1, (.int .u8 (IntKind.wrap .u8 (shR .u32 n1 8)))), (2, (.int .u8 (IntKind.wrap .u8 (shR .u32 n1 16)))), (3, (.int .u8 (IntKind.wrap .u8 (shR .u32 n1 24))))] = some cs2 ∧
 ∀ w3 : World, w3 = World.alloc w (.cells (List.toArray cs2) 5) →
 RunV Tryd.prog (Builtin.append_ #[22, 22] 22 #[(.slice b0 b0n b0c), (.slice (some ⟨World.heap w |>.size, 0, none⟩) 4 4)]) w3 fun v4 w5 => ∃ (x6 : Option Addr) (x6n : Nat) (x6c : Nat), v4 = (.slice x6 x6n x6c) ∧
 R (.returned (.slice x6 x6n x6c)) w5
theorem e69 (b0 : Option Addr) (b0n : Nat) (b0c : Nat) (n1 : Int) (w : World) (R : Ending → World → Prop) : denS Tryd.prog s69 (argsEnv 0 [(.slice b0 b0n b0c), (.int .u32 n1)]) w (endK r69 R) = d69 b0 b0n b0c n1 w R := by kernel_rfl
theorem c69 (b0 : Option Addr) (b0n : Nat) (b0c : Nat) (n1 : Int) {w : World} {R : Ending → World → Prop} (h : d69 b0 b0n b0c n1 w R) : Calls Tryd.prog 69 #[(.slice b0 b0n b0c), (.int .u32 n1)] w R :=
  den69 [(.slice b0 b0n b0c), (.int .u32 n1)] w R (by simp) ((e69 b0 b0n b0c n1 w R).symm ▸ h)

/-- prelude/codec.back -/
def s60 : S := (.seq (.ops [⟨(some 2), (.mv (.const (.int .u32 0))), (.int .u32), none⟩] [0])
 (.seq (.draw (.take 0 ⟨(some 3), (.mv (.tmp 0)), .sl, none⟩
  (.take 1 ⟨(some 4), (.ia 1 (.tmp 3) (.const (.int .i64 0))), .ptr, none⟩
  (.take 2 ⟨(some 5), (.ld1 (.tmp 4)), (.int .u8), none⟩
  (.take 3 ⟨(some 6), (.cv .u32 (.tmp 5)), (.int .u32), none⟩
  (.take 4 ⟨(some 7), (.mv (.tmp 0)), .sl, none⟩
  (.take 5 ⟨(some 8), (.ia 1 (.tmp 7) (.const (.int .i64 1))), .ptr, none⟩
  (.take 6 ⟨(some 9), (.ld1 (.tmp 8)), (.int .u8), none⟩
  (.take 7 ⟨(some 10), (.cv .u32 (.tmp 9)), (.int .u32), none⟩
  (.take 8 ⟨(some 11), (.bin .shl (.tmp 10) (.const (.int .u64 8))), (.int .u32), none⟩
  (.take 9 ⟨(some 12), (.bin .or (.tmp 6) (.tmp 11)), (.int .u32), none⟩
  (.take 10 ⟨(some 13), (.mv (.tmp 0)), .sl, none⟩
  (.take 11 ⟨(some 14), (.ia 1 (.tmp 13) (.const (.int .i64 2))), .ptr, none⟩
  (.take 12 ⟨(some 15), (.ld1 (.tmp 14)), (.int .u8), none⟩
  (.take 13 ⟨(some 16), (.cv .u32 (.tmp 15)), (.int .u32), none⟩
  (.take 14 ⟨(some 17), (.bin .shl (.tmp 16) (.const (.int .u64 16))), (.int .u32), none⟩
  (.take 15 ⟨(some 18), (.bin .or (.tmp 12) (.tmp 17)), (.int .u32), none⟩
  (.take 16 ⟨(some 19), (.mv (.tmp 0)), .sl, none⟩
  (.take 17 ⟨(some 20), (.ia 1 (.tmp 19) (.const (.int .i64 3))), .ptr, none⟩
  (.take 18 ⟨(some 21), (.ld1 (.tmp 20)), (.int .u8), none⟩
  (.take 19 ⟨(some 22), (.cv .u32 (.tmp 21)), (.int .u32), none⟩
  (.take 20 ⟨(some 23), (.bin .shl (.tmp 22) (.const (.int .u64 24))), (.int .u32), none⟩
  (.take 21 ⟨(some 24), (.bin .or (.tmp 18) (.tmp 23)), (.int .u32), none⟩
  (.take 22 ⟨(some 2), (.mv (.tmp 24)), (.int .u32), none⟩
  .done))))))))))))))))))))))) [2])
 .ret))
def r60 : List Res := [.t 2]
theorem tr60 : trS Tryd.prog 25 (Tryd.f60.body.getD .skip) s60 = some s60 := by kernel_rfl
theorem den60 (args : List Value) (w : World) (R : Ending → World → Prop) (hn : args.length ≤ 25) (h : denS Tryd.prog s60 (argsEnv 0 args) w (endK r60 R)) : Calls Tryd.prog 60 args.toArray w R :=
  calls_of_den (fn := Tryd.f60) (c := Tryd.f60.body.getD .skip) Tryd.func60 (by kernel_rfl) (by rw [Tryd.ntmps60]; exact hn) (by rw [Tryd.ntmps60]; exact tr60) (by kernel_rfl) h
def d60 (b0 : Option Addr) (b0n : Nat) (b0c : Nat) (w : World) (R : Ending → World → Prop) : Prop :=
 ∀ w1 : World, w1 = World.drew w →
 0 ≤ (0 : Int) ∧ (0 : Int) < ((b0n : Nat) : Int) ∧ optK b0 fun a2 =>
 ∃ x3 : Int, World.cell? w1 (Addr.add a2 (Int.toNat 0 * 1)) = some (.int .u8 x3) ∧
 0 ≤ (1 : Int) ∧ (1 : Int) < ((b0n : Nat) : Int) ∧ optK b0 fun a4 =>
 ∃ x5 : Int, World.cell? w1 (Addr.add a4 (Int.toNat 1 * 1)) = some (.int .u8 x5) ∧
 0 ≤ (8 : Int) ∧ 0 ≤ (2 : Int) ∧ (2 : Int) < ((b0n : Nat) : Int) ∧ optK b0 fun a6 =>
 ∃ x7 : Int, World.cell? w1 (Addr.add a6 (Int.toNat 2 * 1)) = some (.int .u8 x7) ∧
 0 ≤ (16 : Int) ∧ 0 ≤ (3 : Int) ∧ (3 : Int) < ((b0n : Nat) : Int) ∧ optK b0 fun a8 =>
 ∃ x9 : Int, World.cell? w1 (Addr.add a8 (Int.toNat 3 * 1)) = some (.int .u8 x9) ∧
 0 ≤ (24 : Int) ∧ R (.returned (.int .u32 (bOr .u32 (bOr .u32 (bOr .u32 (IntKind.wrap .u32 x3) (shL .u32 (IntKind.wrap .u32 x5) 8)) (shL .u32 (IntKind.wrap .u32 x7) 16)) (shL .u32 (IntKind.wrap .u32 x9) 24)))) w1
theorem e60 (b0 : Option Addr) (b0n : Nat) (b0c : Nat) (w : World) (R : Ending → World → Prop) : denS Tryd.prog s60 (argsEnv 0 [(.slice b0 b0n b0c)]) w (endK r60 R) = d60 b0 b0n b0c w R := by kernel_rfl
theorem c60 (b0 : Option Addr) (b0n : Nat) (b0c : Nat) {w : World} {R : Ending → World → Prop} (h : d60 b0 b0n b0c w R) : Calls Tryd.prog 60 #[(.slice b0 b0n b0c)] w R :=
  den60 [(.slice b0 b0n b0c)] w R (by simp) ((e60 b0 b0n b0c w R).symm ▸ h)

/-- prelude/codec.Seal -/
def s33 : S := (.seq (.ops [⟨(some 4), (.mv (.const (.slice none 0 0))), .sl, none⟩] [1, 0])
 (.seq (.seq (.ops [⟨(some 6), (.mv (.tmp 1)), .sl, none⟩,
  ⟨(some 7), (.len (.tmp 6)), (.int .i64), none⟩,
  ⟨(some 8), (.bin .gtr (.tmp 7) (.const (.int .i64 16777216))), .bool, none⟩] [8, 0, 1])
 (.cond (.tmp 8)
 (.seq (.ops [⟨(some 4), (.mv (.const (.slice none 0 0))), .sl, none⟩] [4])
 .ret)
 .skip))
 (.seq (.ops [⟨(some 9), (.mv (.tmp 0)), (.int .u8), none⟩,
  ⟨(some 10), (.bldS 5 1 1 [(0, (.tmp 9))]), .sl, none⟩,
  ⟨(some 11), (.mv (.tmp 1)), .sl, none⟩,
  ⟨(some 12), (.len (.tmp 11)), (.int .i64), none⟩,
  ⟨(some 13), (.cv .u32 (.tmp 12)), (.int .u32), none⟩,
  ⟨(some 14), (.call 69 [(.tmp 10), (.tmp 13)] [.sl]), .sl, none⟩,
  ⟨(some 5), (.mv (.tmp 14)), .sl, none⟩] [5, 1])
 (.seq (.ops [⟨(some 15), (.mv (.tmp 5)), .sl, none⟩,
  ⟨(some 16), (.mv (.tmp 5)), .sl, none⟩,
  ⟨(some 17), (.call 59 [(.tmp 16)] [(.int .u32)]), (.int .u32), none⟩,
  ⟨(some 18), (.call 69 [(.tmp 15), (.tmp 17)] [.sl]), .sl, none⟩,
  ⟨(some 5), (.mv (.tmp 18)), .sl, none⟩] [5, 1])
 (.seq (.ops [⟨(some 19), (.mv (.tmp 5)), .sl, none⟩,
  ⟨(some 20), (.mv (.tmp 1)), .sl, none⟩,
  ⟨(some 21), (.app #[22, 22] 22 (.tmp 19) (.tmp 20)), .sl, none⟩,
  ⟨(some 5), (.mv (.tmp 21)), .sl, none⟩] [5, 1])
 (.seq (.ops [⟨(some 22), (.mv (.tmp 5)), .sl, none⟩,
  ⟨(some 23), (.mv (.tmp 1)), .sl, none⟩,
  ⟨(some 24), (.call 59 [(.tmp 23)] [(.int .u32)]), (.int .u32), none⟩,
  ⟨(some 25), (.call 69 [(.tmp 22), (.tmp 24)] [.sl]), .sl, none⟩,
  ⟨(some 4), (.mv (.tmp 25)), .sl, none⟩] [4])
 .ret))))))
def r33 : List Res := [.t 4]
theorem tr33 : trS Tryd.prog 26 (Tryd.f33.body.getD .skip) s33 = some s33 := by kernel_rfl
theorem den33 (args : List Value) (w : World) (R : Ending → World → Prop) (hn : args.length ≤ 26) (h : denS Tryd.prog s33 (argsEnv 0 args) w (endK r33 R)) : Calls Tryd.prog 33 args.toArray w R :=
  calls_of_den (fn := Tryd.f33) (c := Tryd.f33.body.getD .skip) Tryd.func33 (by kernel_rfl) (by rw [Tryd.ntmps33]; exact hn) (by rw [Tryd.ntmps33]; exact tr33) (by kernel_rfl) h
def d33 (kind0 : Int) (load1 : Option Addr) (load1n : Nat) (load1c : Nat) (w : World) (R : Ending → World → Prop) : Prop :=
 (bif (decide (16777216 < ((load1n : Nat) : Int))) then
 (R (.returned (.slice none 0 0)) w)
 else
 (∃ cs2, fillL (.elems 1) (zrep (zc Tryd.prog 5) (1 * 1)) [(0, (.int .u8 kind0))] = some cs2 ∧
 ∀ w3 : World, w3 = World.alloc w (.cells (List.toArray cs2) 5) →
 Calls Tryd.prog 69 #[(.slice (some ⟨World.heap w |>.size, 0, none⟩) 1 1), (.int .u32 (IntKind.wrap .u32 ((load1n : Nat) : Int)))] w3 fun e4 w5 => ∃ (x6 : Option Addr) (x6n : Nat) (x6c : Nat), e4 = .returned (.slice x6 x6n x6c) ∧
 Calls Tryd.prog 59 #[(.slice x6 x6n x6c)] w5 fun e7 w8 => ∃ x9 : Int, e7 = .returned (.int .u32 x9) ∧
 Calls Tryd.prog 69 #[(.slice x6 x6n x6c), (.int .u32 x9)] w8 fun e10 w11 => ∃ (x12 : Option Addr) (x12n : Nat) (x12c : Nat), e10 = .returned (.slice x12 x12n x12c) ∧
 RunV Tryd.prog (Builtin.append_ #[22, 22] 22 #[(.slice x12 x12n x12c), (.slice load1 load1n load1c)]) w11 fun v13 w14 => ∃ (x15 : Option Addr) (x15n : Nat) (x15c : Nat), v13 = (.slice x15 x15n x15c) ∧
 Calls Tryd.prog 59 #[(.slice load1 load1n load1c)] w14 fun e16 w17 => ∃ x18 : Int, e16 = .returned (.int .u32 x18) ∧
 Calls Tryd.prog 69 #[(.slice x15 x15n x15c), (.int .u32 x18)] w17 fun e19 w20 => ∃ (x21 : Option Addr) (x21n : Nat) (x21c : Nat), e19 = .returned (.slice x21 x21n x21c) ∧
 R (.returned (.slice x21 x21n x21c)) w20))
theorem e33 (kind0 : Int) (load1 : Option Addr) (load1n : Nat) (load1c : Nat) (w : World) (R : Ending → World → Prop) : denS Tryd.prog s33 (argsEnv 0 [(.int .u8 kind0), (.slice load1 load1n load1c)]) w (endK r33 R) = d33 kind0 load1 load1n load1c w R := by kernel_rfl
theorem c33 (kind0 : Int) (load1 : Option Addr) (load1n : Nat) (load1c : Nat) {w : World} {R : Ending → World → Prop} (h : d33 kind0 load1 load1n load1c w R) : Calls Tryd.prog 33 #[(.int .u8 kind0), (.slice load1 load1n load1c)] w R :=
  den33 [(.int .u8 kind0), (.slice load1 load1n load1c)] w R (by simp) ((e33 kind0 load1 load1n load1c w R).symm ▸ h)

/-- prelude/codec.Unseal -/
def s25 : S := (.seq (.ops [⟨(some 4), (.mv (.const (.int .u8 0))), (.int .u8), none⟩,
  ⟨(some 5), (.mv (.const (.slice none 0 0))), .sl, none⟩,
  ⟨(some 6), (.mv (.const (.int .i64 0))), (.int .i64), none⟩,
  ⟨(some 7), (.mv (.const (.int .i64 0))), (.int .i64), none⟩] [1, 0])
 (.join [] [0, 1]
 (.seq (.ops [⟨(some 11), (.mv (.tmp 1)), (.int .i64), none⟩,
  ⟨(some 12), (.bin .lss (.tmp 11) (.const (.int .i64 0))), .bool, none⟩,
  ⟨(some 13), (.mv (.tmp 12)), .bool, none⟩,
  ⟨(some 14), (.mv (.tmp 1)), (.int .i64), (some (13, false))⟩,
  ⟨(some 15), (.mv (.tmp 0)), .sl, (some (13, false))⟩,
  ⟨(some 16), (.len (.tmp 15)), (.int .i64), (some (13, false))⟩,
  ⟨(some 17), (.bin .gtr (.tmp 14) (.tmp 16)), .bool, (some (13, false))⟩,
  ⟨(some 18), (.pick (.tmp 13) (.const (.bool true)) (.tmp 17)), .bool, none⟩] [18, 0, 1])
 (.cond (.tmp 18)
 (.seq (.ops [⟨(some 4), (.mv (.const (.int .u8 0))), (.int .u8), none⟩,
  ⟨(some 5), (.mv (.const (.slice none 0 0))), .sl, none⟩,
  ⟨(some 6), (.mv (.const (.int .i64 0))), (.int .i64), none⟩,
  ⟨(some 7), (.mv (.const (.int .i64 11))), (.int .i64), none⟩] [4, 5, 6, 7])
 .ret)
 .skip))
 (.seq (.ops [⟨(some 19), (.mv (.tmp 0)), .sl, none⟩,
  ⟨(some 20), (.mv (.tmp 1)), (.int .i64), none⟩,
  ⟨(some 21), (.slS 1 (.tmp 19) (some (.tmp 20)) none none), .sl, none⟩,
  ⟨(some 8), (.mv (.tmp 21)), .sl, none⟩] [8, 1])
 (.seq (.seq (.ops [⟨(some 22), (.mv (.tmp 8)), .sl, none⟩,
  ⟨(some 23), (.len (.tmp 22)), (.int .i64), none⟩,
  ⟨(some 24), (.bin .lss (.tmp 23) (.const (.int .i64 9))), .bool, none⟩] [24, 8, 1])
 (.cond (.tmp 24)
 (.seq (.ops [⟨(some 4), (.mv (.const (.int .u8 0))), (.int .u8), none⟩,
  ⟨(some 5), (.mv (.const (.slice none 0 0))), .sl, none⟩,
  ⟨(some 6), (.mv (.const (.int .i64 0))), (.int .i64), none⟩,
  ⟨(some 7), (.mv (.const (.int .i64 10))), (.int .i64), none⟩] [4, 5, 6, 7])
 .ret)
 .skip))
 (.seq (.seq (.draw (.take 0 ⟨(some 25), (.mv (.tmp 8)), .sl, none⟩
  (.take 1 ⟨(some 26), (.slS 1 (.tmp 25) none (some (.const (.int .i64 5))) none), .sl, none⟩
  (.take 3 ⟨(some 28), (.mv (.tmp 8)), .sl, none⟩
  (.take 4 ⟨(some 29), (.slS 1 (.tmp 28) (some (.const (.int .i64 5))) (some (.const (.int .i64 9))) none), .sl, none⟩
  (.go 2 ⟨(some 27), (.call 59 [(.tmp 26)] [(.int .u32)]), (.int .u32), none⟩ []
  (.go 5 ⟨(some 30), (.call 60 [(.tmp 29)] [(.int .u32)]), (.int .u32), none⟩ []
  (.take 6 ⟨(some 31), (.bin .neq (.tmp 27) (.tmp 30)), .bool, none⟩
  .done))))))) [31, 8, 1])
 (.cond (.tmp 31)
 (.seq (.ops [⟨(some 4), (.mv (.const (.int .u8 0))), (.int .u8), none⟩,
  ⟨(some 5), (.mv (.const (.slice none 0 0))), .sl, none⟩,
  ⟨(some 6), (.mv (.const (.int .i64 0))), (.int .i64), none⟩,
  ⟨(some 7), (.mv (.const (.int .i64 13))), (.int .i64), none⟩] [4, 5, 6, 7])
 .ret)
 .skip))
 (.seq (.ops [⟨(some 32), (.mv (.tmp 8)), .sl, none⟩,
  ⟨(some 33), (.slS 1 (.tmp 32) (some (.const (.int .i64 1))) (some (.const (.int .i64 5))) none), .sl, none⟩,
  ⟨(some 34), (.call 60 [(.tmp 33)] [(.int .u32)]), (.int .u32), none⟩,
  ⟨(some 9), (.mv (.tmp 34)), (.int .u32), none⟩] [9, 8, 1])
 (.seq (.seq (.ops [⟨(some 35), (.mv (.tmp 9)), (.int .u32), none⟩,
  ⟨(some 36), (.bin .gtr (.tmp 35) (.const (.int .u32 16777216))), .bool, none⟩] [36, 8, 9, 1])
 (.cond (.tmp 36)
 (.seq (.ops [⟨(some 4), (.mv (.const (.int .u8 0))), (.int .u8), none⟩,
  ⟨(some 5), (.mv (.const (.slice none 0 0))), .sl, none⟩,
  ⟨(some 6), (.mv (.const (.int .i64 0))), (.int .i64), none⟩,
  ⟨(some 7), (.mv (.const (.int .i64 12))), (.int .i64), none⟩] [4, 5, 6, 7])
 .ret)
 .skip))
 (.seq (.seq (.ops [⟨(some 37), (.mv (.tmp 8)), .sl, none⟩,
  ⟨(some 38), (.len (.tmp 37)), (.int .i64), none⟩,
  ⟨(some 39), (.mv (.tmp 9)), (.int .u32), none⟩,
  ⟨(some 40), (.cv .i64 (.tmp 39)), (.int .i64), none⟩,
  ⟨(some 41), (.bin .add (.const (.int .i64 13)) (.tmp 40)), (.int .i64), none⟩,
  ⟨(some 42), (.bin .lss (.tmp 38) (.tmp 41)), .bool, none⟩] [42, 8, 9, 1])
 (.cond (.tmp 42)
 (.seq (.ops [⟨(some 4), (.mv (.const (.int .u8 0))), (.int .u8), none⟩,
  ⟨(some 5), (.mv (.const (.slice none 0 0))), .sl, none⟩,
  ⟨(some 6), (.mv (.const (.int .i64 0))), (.int .i64), none⟩,
  ⟨(some 7), (.mv (.const (.int .i64 10))), (.int .i64), none⟩] [4, 5, 6, 7])
 .ret)
 .skip))
 (.seq (.ops [⟨(some 43), (.mv (.tmp 8)), .sl, none⟩,
  ⟨(some 44), (.mv (.tmp 9)), (.int .u32), none⟩,
  ⟨(some 45), (.cv .i64 (.tmp 44)), (.int .i64), none⟩,
  ⟨(some 46), (.bin .add (.const (.int .i64 9)) (.tmp 45)), (.int .i64), none⟩,
  ⟨(some 47), (.slS 1 (.tmp 43) (some (.const (.int .i64 9))) (some (.tmp 46)) none), .sl, none⟩,
  ⟨(some 10), (.mv (.tmp 47)), .sl, none⟩] [10, 8, 9, 1])
 (.seq (.seq (.draw (.take 0 ⟨(some 48), (.mv (.tmp 10)), .sl, none⟩
  (.take 2 ⟨(some 50), (.mv (.tmp 8)), .sl, none⟩
  (.take 3 ⟨(some 51), (.mv (.tmp 9)), (.int .u32), none⟩
  (.take 4 ⟨(some 52), (.cv .i64 (.tmp 51)), (.int .i64), none⟩
  (.take 5 ⟨(some 53), (.bin .add (.const (.int .i64 9)) (.tmp 52)), (.int .i64), none⟩
  (.take 6 ⟨(some 54), (.slS 1 (.tmp 50) (some (.tmp 53)) none none), .sl, none⟩
  (.go 1 ⟨(some 49), (.call 59 [(.tmp 48)] [(.int .u32)]), (.int .u32), none⟩ []
  (.go 7 ⟨(some 55), (.call 60 [(.tmp 54)] [(.int .u32)]), (.int .u32), none⟩ []
  (.take 8 ⟨(some 56), (.bin .neq (.tmp 49) (.tmp 55)), .bool, none⟩
  .done))))))))) [56, 8, 10, 1, 9])
 (.cond (.tmp 56)
 (.seq (.ops [⟨(some 4), (.mv (.const (.int .u8 0))), (.int .u8), none⟩,
  ⟨(some 5), (.mv (.const (.slice none 0 0))), .sl, none⟩,
  ⟨(some 6), (.mv (.const (.int .i64 0))), (.int .i64), none⟩,
  ⟨(some 7), (.mv (.const (.int .i64 13))), (.int .i64), none⟩] [4, 5, 6, 7])
 .ret)
 .skip))
 (.seq (.draw (.take 0 ⟨(some 57), (.mv (.tmp 8)), .sl, none⟩
  (.take 1 ⟨(some 58), (.ia 1 (.tmp 57) (.const (.int .i64 0))), .ptr, none⟩
  (.take 2 ⟨(some 59), (.ld1 (.tmp 58)), (.int .u8), none⟩
  (.take 3 ⟨(some 60), (.mv (.tmp 10)), .sl, none⟩
  (.take 5 ⟨(some 62), (.mv (.tmp 1)), (.int .i64), none⟩
  (.take 6 ⟨(some 63), (.bin .add (.tmp 62) (.const (.int .i64 13))), (.int .i64), none⟩
  (.take 7 ⟨(some 64), (.mv (.tmp 9)), (.int .u32), none⟩
  (.take 8 ⟨(some 65), (.cv .i64 (.tmp 64)), (.int .i64), none⟩
  (.take 9 ⟨(some 66), (.bin .add (.tmp 63) (.tmp 65)), (.int .i64), none⟩
  (.go 4 ⟨(some 61), (.call 61 [(.tmp 60)] [.sl]), .sl, none⟩ [(2, ⟨(some 59), (.ld1 (.tmp 58)), (.int .u8), none⟩)]
  (.take 10 ⟨(some 4), (.mv (.tmp 59)), (.int .u8), none⟩
  (.take 11 ⟨(some 5), (.mv (.tmp 61)), .sl, none⟩
  (.take 12 ⟨(some 6), (.mv (.tmp 66)), (.int .i64), none⟩
  (.take 13 ⟨(some 7), (.mv (.const (.int .i64 0))), (.int .i64), none⟩
  .done)))))))))))))) [4, 5, 6, 7])
 .ret)))))))))))
def r25 : List Res := [.t 4, .t 5, .t 6, .t 7]
theorem tr25 : trS Tryd.prog 67 (Tryd.f25.body.getD .skip) s25 = some s25 := by kernel_rfl
theorem den25 (args : List Value) (w : World) (R : Ending → World → Prop) (hn : args.length ≤ 67) (h : denS Tryd.prog s25 (argsEnv 0 args) w (endK r25 R)) : Calls Tryd.prog 25 args.toArray w R :=
  calls_of_den (fn := Tryd.f25) (c := Tryd.f25.body.getD .skip) Tryd.func25 (by kernel_rfl) (by rw [Tryd.ntmps25]; exact hn) (by rw [Tryd.ntmps25]; exact tr25) (by kernel_rfl) h
def d25 (b0 : Option Addr) (b0n : Nat) (b0c : Nat) (at1 : Int) (w : World) (R : Ending → World → Prop) : Prop :=
 ∃ J2 : World → Prop,
 ((bif (decide (at1 < 0)) then
 (R (.returned (.tuple #[(.int .u8 0), (.slice none 0 0), (.int .i64 0), (.int .i64 11)])) w)
 else
 ((bif (decide (((b0n : Nat) : Int) < at1)) then
 (R (.returned (.tuple #[(.int .u8 0), (.slice none 0 0), (.int .i64 0), (.int .i64 11)])) w)
 else
 (J2  w))))) ∧
 (∀ (w3 : World), J2  w3 →
 0 ≤ at1 ∧ at1 ≤ ((b0n : Nat) : Int) ∧ (bif (decide ((((b0n - (Int.toNat at1)) : Nat) : Int) < 9)) then
 (R (.returned (.tuple #[(.int .u8 0), (.slice none 0 0), (.int .i64 0), (.int .i64 10)])) w3)
 else
 (∀ w4 : World, w4 = World.drew w3 →
 0 ≤ (5 : Int) ∧ (5 : Int) ≤ (((b0c - (Int.toNat at1)) : Nat) : Int) ∧ 0 ≤ (9 : Int) ∧ (9 : Int) ≤ (((b0c - (Int.toNat at1)) : Nat) : Int) ∧ 0 ≤ (5 : Int) ∧ (5 : Int) ≤ (((Int.toNat 9) : Nat) : Int) ∧ Calls Tryd.prog 59 #[(.slice (if (b0c - (Int.toNat at1)) = 0 then (if b0c = (Int.toNat at1) then b0 else Option.map (fun y => Addr.add y ((Int.toNat at1) * 1)) b0) else Option.map (fun y => Addr.add y (0 * 1)) (if b0c = (Int.toNat at1) then b0 else Option.map (fun y => Addr.add y ((Int.toNat at1) * 1)) b0)) ((Int.toNat 5) - 0) ((b0c - (Int.toNat at1)) - 0))] w4 fun e5 w6 => ∃ x7 : Int, e5 = .returned (.int .u32 x7) ∧
 Calls Tryd.prog 60 #[(.slice (if (b0c - (Int.toNat at1)) = (Int.toNat 5) then (if b0c = (Int.toNat at1) then b0 else Option.map (fun y => Addr.add y ((Int.toNat at1) * 1)) b0) else Option.map (fun y => Addr.add y ((Int.toNat 5) * 1)) (if b0c = (Int.toNat at1) then b0 else Option.map (fun y => Addr.add y ((Int.toNat at1) * 1)) b0)) ((Int.toNat 9) - (Int.toNat 5)) ((b0c - (Int.toNat at1)) - (Int.toNat 5)))] w6 fun e8 w9 => ∃ x10 : Int, e8 = .returned (.int .u32 x10) ∧
 (bif (!decide (x7 = x10)) then
 (R (.returned (.tuple #[(.int .u8 0), (.slice none 0 0), (.int .i64 0), (.int .i64 13)])) w9)
 else
 (0 ≤ (5 : Int) ∧ (5 : Int) ≤ (((b0c - (Int.toNat at1)) : Nat) : Int) ∧ 0 ≤ (1 : Int) ∧ (1 : Int) ≤ (((Int.toNat 5) : Nat) : Int) ∧ Calls Tryd.prog 60 #[(.slice (if (b0c - (Int.toNat at1)) = (Int.toNat 1) then (if b0c = (Int.toNat at1) then b0 else Option.map (fun y => Addr.add y ((Int.toNat at1) * 1)) b0) else Option.map (fun y => Addr.add y ((Int.toNat 1) * 1)) (if b0c = (Int.toNat at1) then b0 else Option.map (fun y => Addr.add y ((Int.toNat at1) * 1)) b0)) ((Int.toNat 5) - (Int.toNat 1)) ((b0c - (Int.toNat at1)) - (Int.toNat 1)))] w9 fun e11 w12 => ∃ x13 : Int, e11 = .returned (.int .u32 x13) ∧
 (bif (decide (16777216 < x13)) then
 (R (.returned (.tuple #[(.int .u8 0), (.slice none 0 0), (.int .i64 0), (.int .i64 12)])) w12)
 else
 ((bif (decide ((((b0n - (Int.toNat at1)) : Nat) : Int) < (IntKind.wrap .i64 (13 + (IntKind.wrap .i64 x13))))) then
 (R (.returned (.tuple #[(.int .u8 0), (.slice none 0 0), (.int .i64 0), (.int .i64 10)])) w12)
 else
 (0 ≤ (IntKind.wrap .i64 (9 + (IntKind.wrap .i64 x13))) ∧ (IntKind.wrap .i64 (9 + (IntKind.wrap .i64 x13))) ≤ (((b0c - (Int.toNat at1)) : Nat) : Int) ∧ 0 ≤ (9 : Int) ∧ (9 : Int) ≤ (((Int.toNat (IntKind.wrap .i64 (9 + (IntKind.wrap .i64 x13)))) : Nat) : Int) ∧ ∀ w14 : World, w14 = World.drew w12 →
 0 ≤ (IntKind.wrap .i64 (9 + (IntKind.wrap .i64 x13))) ∧ (IntKind.wrap .i64 (9 + (IntKind.wrap .i64 x13))) ≤ (((b0n - (Int.toNat at1)) : Nat) : Int) ∧ Calls Tryd.prog 59 #[(.slice (if (b0c - (Int.toNat at1)) = (Int.toNat 9) then (if b0c = (Int.toNat at1) then b0 else Option.map (fun y => Addr.add y ((Int.toNat at1) * 1)) b0) else Option.map (fun y => Addr.add y ((Int.toNat 9) * 1)) (if b0c = (Int.toNat at1) then b0 else Option.map (fun y => Addr.add y ((Int.toNat at1) * 1)) b0)) ((Int.toNat (IntKind.wrap .i64 (9 + (IntKind.wrap .i64 x13)))) - (Int.toNat 9)) ((b0c - (Int.toNat at1)) - (Int.toNat 9)))] w14 fun e15 w16 => ∃ x17 : Int, e15 = .returned (.int .u32 x17) ∧
 Calls Tryd.prog 60 #[(.slice (if (b0c - (Int.toNat at1)) = (Int.toNat (IntKind.wrap .i64 (9 + (IntKind.wrap .i64 x13)))) then (if b0c = (Int.toNat at1) then b0 else Option.map (fun y => Addr.add y ((Int.toNat at1) * 1)) b0) else Option.map (fun y => Addr.add y ((Int.toNat (IntKind.wrap .i64 (9 + (IntKind.wrap .i64 x13)))) * 1)) (if b0c = (Int.toNat at1) then b0 else Option.map (fun y => Addr.add y ((Int.toNat at1) * 1)) b0)) ((b0n - (Int.toNat at1)) - (Int.toNat (IntKind.wrap .i64 (9 + (IntKind.wrap .i64 x13))))) ((b0c - (Int.toNat at1)) - (Int.toNat (IntKind.wrap .i64 (9 + (IntKind.wrap .i64 x13))))))] w16 fun e18 w19 => ∃ x20 : Int, e18 = .returned (.int .u32 x20) ∧
 (bif (!decide (x17 = x20)) then
 (R (.returned (.tuple #[(.int .u8 0), (.slice none 0 0), (.int .i64 0), (.int .i64 13)])) w19)
 else
 (∀ w21 : World, w21 = World.drew w19 →
 0 ≤ (0 : Int) ∧ (0 : Int) < (((b0n - (Int.toNat at1)) : Nat) : Int) ∧ optK (if b0c = (Int.toNat at1) then b0 else Option.map (fun y => Addr.add y ((Int.toNat at1) * 1)) b0) fun a22 =>
 ∃ x23 : Int, World.cell? w21 (Addr.add a22 (Int.toNat 0 * 1)) = some (.int .u8 x23) ∧
 Calls Tryd.prog 61 #[(.slice (if (b0c - (Int.toNat at1)) = (Int.toNat 9) then (if b0c = (Int.toNat at1) then b0 else Option.map (fun y => Addr.add y ((Int.toNat at1) * 1)) b0) else Option.map (fun y => Addr.add y ((Int.toNat 9) * 1)) (if b0c = (Int.toNat at1) then b0 else Option.map (fun y => Addr.add y ((Int.toNat at1) * 1)) b0)) ((Int.toNat (IntKind.wrap .i64 (9 + (IntKind.wrap .i64 x13)))) - (Int.toNat 9)) ((b0c - (Int.toNat at1)) - (Int.toNat 9)))] w21 fun e24 w25 => ∃ (x26 : Option Addr) (x26n : Nat) (x26c : Nat), e24 = .returned (.slice x26 x26n x26c) ∧
 (∃ z27 : Int, World.cell? w25 (Addr.add a22 (Int.toNat 0 * 1)) = some (.int .u8 z27) ∧
 (((.int .u8 z27) : Value) = (.int .u8 x23) ∧ w25 = w25)) ∧
 R (.returned (.tuple #[(.int .u8 x23), (.slice x26 x26n x26c), (.int .i64 (IntKind.wrap .i64 ((IntKind.wrap .i64 (at1 + 13)) + (IntKind.wrap .i64 x13)))), (.int .i64 0)])) w25)))))))))))
theorem e25 (b0 : Option Addr) (b0n : Nat) (b0c : Nat) (at1 : Int) (w : World) (R : Ending → World → Prop) : denS Tryd.prog s25 (argsEnv 0 [(.slice b0 b0n b0c), (.int .i64 at1)]) w (endK r25 R) = d25 b0 b0n b0c at1 w R := by kernel_rfl
theorem c25 (b0 : Option Addr) (b0n : Nat) (b0c : Nat) (at1 : Int) {w : World} {R : Ending → World → Prop} (h : d25 b0 b0n b0c at1 w R) : Calls Tryd.prog 25 #[(.slice b0 b0n b0c), (.int .i64 at1)] w R :=
  den25 [(.slice b0 b0n b0c), (.int .i64 at1)] w R (by simp) ((e25 b0 b0n b0c at1 w R).symm ▸ h)

/-- prelude/preluderef01.Sum -/
def s62 : S := (.seq (.ops [⟨(some 2), (.mv (.const (.int .u32 0))), (.int .u32), none⟩] [0])
 (.seq (.ops [⟨(some 3), (.mv (.const (.int .u32 4294967295))), (.int .u32), none⟩] [0, 3])
 (.seq (.seq (.ops [⟨(some 4), (.mv (.const (.int .i64 0))), (.int .i64), none⟩] [4, 0, 3])
 (.block 0
 (.loop [(3, (.int .u32)), (4, (.int .i64))] [0]
 (.seq (.seq (.ops [⟨(some 8), (.mv (.tmp 4)), (.int .i64), none⟩,
  ⟨(some 9), (.mv (.tmp 0)), .sl, none⟩,
  ⟨(some 10), (.len (.tmp 9)), (.int .i64), none⟩,
  ⟨(some 11), (.bin .lss (.tmp 8) (.tmp 10)), .bool, none⟩] [11, 0, 4, 3])
 (.cond (.tmp 11)
 .skip
 (.exit 0)))
 (.seq (.block 1
 (.seq (.ops [⟨(some 5), (.mv (.const (.int .i64 0))), (.int .i64), none⟩] [5, 0, 4, 3])
 (.block 2
 (.loop [(3, (.int .u32)), (5, (.int .i64))] [0, 4]
 (.seq (.seq (.ops [⟨(some 14), (.mv (.tmp 5)), (.int .i64), none⟩,
  ⟨(some 15), (.bin .lss (.tmp 14) (.const (.int .i64 8))), .bool, none⟩] [15, 0, 4, 5, 3])
 (.cond (.tmp 15)
 .skip
 (.exit 2)))
 (.seq (.block 3
 (.seq (.ops [⟨(some 18), (.mv (.tmp 0)), .sl, none⟩,
  ⟨(some 19), (.mv (.tmp 4)), (.int .i64), none⟩,
  ⟨(some 20), (.ia 1 (.tmp 18) (.tmp 19)), .ptr, none⟩,
  ⟨(some 21), (.ld1 (.tmp 20)), (.int .u8), none⟩,
  ⟨(some 22), (.mv (.tmp 5)), (.int .i64), none⟩,
  ⟨(some 23), (.bin .shr (.tmp 21) (.tmp 22)), (.int .u8), none⟩,
  ⟨(some 24), (.cv .u32 (.tmp 23)), (.int .u32), none⟩,
  ⟨(some 25), (.bin .and (.tmp 24) (.const (.int .u32 1))), (.int .u32), none⟩,
  ⟨(some 6), (.mv (.tmp 25)), (.int .u32), none⟩] [6, 3, 5, 0, 4])
 (.seq (.ops [⟨(some 26), (.mv (.tmp 6)), (.int .u32), none⟩,
  ⟨(some 27), (.mv (.tmp 3)), (.int .u32), none⟩,
  ⟨(some 28), (.bin .and (.tmp 27) (.const (.int .u32 1))), (.int .u32), none⟩,
  ⟨(some 29), (.bin .neq (.tmp 26) (.tmp 28)), .bool, none⟩,
  ⟨(some 7), (.mv (.tmp 29)), .bool, none⟩] [3, 7, 5, 0, 4])
 (.seq (.ops [⟨(some 30), (.mv (.tmp 3)), (.int .u32), none⟩,
  ⟨(some 31), (.bin .shr (.tmp 30) (.const (.int .u64 1))), (.int .u32), none⟩,
  ⟨(some 3), (.mv (.tmp 31)), (.int .u32), none⟩] [7, 3, 5, 0, 4])
 (.seq (.ops [⟨(some 32), (.mv (.tmp 7)), .bool, none⟩] [32, 3, 5, 0, 4])
 (.cond (.tmp 32)
 (.ops [⟨(some 33), (.mv (.tmp 3)), (.int .u32), none⟩,
  ⟨(some 34), (.bin .xor (.tmp 33) (.const (.int .u32 3988292384))), (.int .u32), none⟩,
  ⟨(some 3), (.mv (.tmp 34)), (.int .u32), none⟩] [5, 0, 4, 3])
 .skip))))))
 (.ops [⟨(some 16), (.mv (.tmp 5)), (.int .i64), none⟩,
  ⟨(some 17), (.bin .add (.tmp 16) (.const (.int .i64 1))), (.int .i64), none⟩,
  ⟨(some 5), (.mv (.tmp 17)), (.int .i64), none⟩] [5, 0, 4, 3])))))))
 (.ops [⟨(some 12), (.mv (.tmp 4)), (.int .i64), none⟩,
  ⟨(some 13), (.bin .add (.tmp 12) (.const (.int .i64 1))), (.int .i64), none⟩,
  ⟨(some 4), (.mv (.tmp 13)), (.int .i64), none⟩] [4, 0, 3]))))))
 (.seq (.ops [⟨(some 35), (.mv (.tmp 3)), (.int .u32), none⟩,
  ⟨(some 36), (.un .xor (.tmp 35)), (.int .u32), none⟩,
  ⟨(some 2), (.mv (.tmp 36)), (.int .u32), none⟩] [2])
 .ret))))
def r62 : List Res := [.t 2]
theorem tr62 : trS Tryd.prog 37 (Tryd.f62.body.getD .skip) s62 = some s62 := by kernel_rfl
theorem den62 (args : List Value) (w : World) (R : Ending → World → Prop) (hn : args.length ≤ 37) (h : denS Tryd.prog s62 (argsEnv 0 args) w (endK r62 R)) : Calls Tryd.prog 62 args.toArray w R :=
  calls_of_den (fn := Tryd.f62) (c := Tryd.f62.body.getD .skip) Tryd.func62 (by kernel_rfl) (by rw [Tryd.ntmps62]; exact hn) (by rw [Tryd.ntmps62]; exact tr62) (by kernel_rfl) h
def d62 (b0 : Option Addr) (b0n : Nat) (b0c : Nat) (w : World) (R : Ending → World → Prop) : Prop :=
 ∃ I1 : Nat → Int → Int → World → Prop,
 (∃ m, I1 m 4294967295 0 w) ∧
 (∀ (m2 : Nat) (w3 : World) (rest4 : Int) (i5 : Int), I1 m2 rest4 i5 w3 →
 (bif (decide (i5 < ((b0n : Nat) : Int))) then
 (∃ I6 : Nat → Int → Int → World → Prop,
 (∃ m, I6 m rest4 0 w3) ∧
 (∀ (m7 : Nat) (w8 : World) (rest9 : Int) (k10 : Int), I6 m7 rest9 k10 w8 →
 (bif (decide (k10 < 8)) then
 (0 ≤ i5 ∧ i5 < ((b0n : Nat) : Int) ∧ optK b0 fun a11 =>
 ∃ x12 : Int, World.cell? w8 (Addr.add a11 (Int.toNat i5 * 1)) = some (.int .u8 x12) ∧
 0 ≤ k10 ∧ 0 ≤ (1 : Int) ∧ (bif (!decide ((bAnd .u32 (IntKind.wrap .u32 (shR .u8 x12 k10)) 1) = (bAnd .u32 rest9 1))) then
 (∃ m13, m13 < m7 ∧ I6 m13 (bXor .u32 (shR .u32 rest9 1) 3988292384) (IntKind.wrap .i64 (k10 + 1)) w8)
 else
 (∃ m14, m14 < m7 ∧ I6 m14 (shR .u32 rest9 1) (IntKind.wrap .i64 (k10 + 1)) w8)))
 else
 (∃ m15, m15 < m2 ∧ I1 m15 rest9 (IntKind.wrap .i64 (i5 + 1)) w8))))
 else
 (R (.returned (.int .u32 (bXor .u32 (IntKind.max .u32) rest4))) w3)))
theorem e62 (b0 : Option Addr) (b0n : Nat) (b0c : Nat) (w : World) (R : Ending → World → Prop) : denS Tryd.prog s62 (argsEnv 0 [(.slice b0 b0n b0c)]) w (endK r62 R) = d62 b0 b0n b0c w R := by kernel_rfl
theorem c62 (b0 : Option Addr) (b0n : Nat) (b0c : Nat) {w : World} {R : Ending → World → Prop} (h : d62 b0 b0n b0c w R) : Calls Tryd.prog 62 #[(.slice b0 b0n b0c)] w R :=
  den62 [(.slice b0 b0n b0c)] w R (by simp) ((e62 b0 b0n b0c w R).symm ▸ h)

/-- prelude/preluderef01.four -/
def s75 : S := (.seq (.ops [⟨(some 2), (.mv (.const (.slice none 0 0))), .sl, none⟩] [0])
 (.seq (.ops [⟨(some 3), (.mv (.tmp 0)), (.int .u32), none⟩,
  ⟨(some 4), (.cv .u8 (.tmp 3)), (.int .u8), none⟩,
  ⟨(some 5), (.mv (.tmp 0)), (.int .u32), none⟩,
  ⟨(some 6), (.bin .shr (.tmp 5) (.const (.int .u64 8))), (.int .u32), none⟩,
  ⟨(some 7), (.cv .u8 (.tmp 6)), (.int .u8), none⟩,
  ⟨(some 8), (.mv (.tmp 0)), (.int .u32), none⟩,
  ⟨(some 9), (.bin .shr (.tmp 8) (.const (.int .u64 16))), (.int .u32), none⟩,
  ⟨(some 10), (.cv .u8 (.tmp 9)), (.int .u8), none⟩,
  ⟨(some 11), (.mv (.tmp 0)), (.int .u32), none⟩,
  ⟨(some 12), (.bin .shr (.tmp 11) (.const (.int .u64 24))), (.int .u32), none⟩,
  ⟨(some 13), (.cv .u8 (.tmp 12)), (.int .u8), none⟩,
  ⟨(some 14), (.bldS 5 4 1 [(0, (.tmp 4)), (1, (.tmp 7)), (2, (.tmp 10)), (3, (.tmp 13))]), .sl, none⟩,
  ⟨(some 2), (.mv (.tmp 14)), .sl, none⟩] [2])
 .ret))
def r75 : List Res := [.t 2]
theorem tr75 : trS Tryd.prog 15 (Tryd.f75.body.getD .skip) s75 = some s75 := by kernel_rfl
theorem den75 (args : List Value) (w : World) (R : Ending → World → Prop) (hn : args.length ≤ 15) (h : denS Tryd.prog s75 (argsEnv 0 args) w (endK r75 R)) : Calls Tryd.prog 75 args.toArray w R :=
  calls_of_den (fn := Tryd.f75) (c := Tryd.f75.body.getD .skip) Tryd.func75 (by kernel_rfl) (by rw [Tryd.ntmps75]; exact hn) (by rw [Tryd.ntmps75]; exact tr75) (by kernel_rfl) h
def d75 (n0 : Int) (w : World) (R : Ending → World → Prop) : Prop :=
 0 ≤ (8 : Int) ∧ 0 ≤ (16 : Int) ∧ 0 ≤ (24 : Int) ∧ ∃ cs1, fillL (.elems 1) (zrep (zc Tryd.prog 5) (4 * 1)) [(0, (.int .u8 (IntKind.wrap .u8 n0))), (1, (.int .u8 (IntKind.wrap .u8 (shR .u32 n0 8)))), (2, (.int .u8 (IntKind.wrap .u8 (shR .u32 n0 16)))), (3, (.int .u8 (IntKind.wrap .u8 (shR .u32 n0 24))))] = some cs1 ∧
 ∀ w2 : World, w2 = World.alloc w (.cells (List.toArray cs1) 5) →
 R (.returned (.slice (some ⟨World.heap w |>.size, 0, none⟩) 4 4)) w2
theorem e75 (n0 : Int) (w : World) (R : Ending → World → Prop) : denS Tryd.prog s75 (argsEnv 0 [(.int .u32 n0)]) w (endK r75 R) = d75 n0 w R := by kernel_rfl
theorem c75 (n0 : Int) {w : World} {R : Ending → World → Prop} (h : d75 n0 w R) : Calls Tryd.prog 75 #[(.int .u32 n0)] w R :=
  den75 [(.int .u32 n0)] w R (by simp) ((e75 n0 w R).symm ▸ h)

/-- prelude/preluderef01.word -/
def s63 : S := (.seq (.ops [⟨(some 2), (.mv (.const (.int .u32 0))), (.int .u32), none⟩] [0])
 (.seq (.draw (.take 0 ⟨(some 3), (.mv (.tmp 0)), .sl, none⟩
  (.take 1 ⟨(some 4), (.ia 1 (.tmp 3) (.const (.int .i64 0))), .ptr, none⟩
  (.take 2 ⟨(some 5), (.ld1 (.tmp 4)), (.int .u8), none⟩
  (.take 3 ⟨(some 6), (.cv .u32 (.tmp 5)), (.int .u32), none⟩
  (.take 4 ⟨(some 7), (.mv (.tmp 0)), .sl, none⟩
  (.take 5 ⟨(some 8), (.ia 1 (.tmp 7) (.const (.int .i64 1))), .ptr, none⟩
  (.take 6 ⟨(some 9), (.ld1 (.tmp 8)), (.int .u8), none⟩
  (.take 7 ⟨(some 10), (.cv .u32 (.tmp 9)), (.int .u32), none⟩
  (.take 8 ⟨(some 11), (.bin .shl (.tmp 10) (.const (.int .u64 8))), (.int .u32), none⟩
  (.take 9 ⟨(some 12), (.bin .add (.tmp 6) (.tmp 11)), (.int .u32), none⟩
  (.take 10 ⟨(some 13), (.mv (.tmp 0)), .sl, none⟩
  (.take 11 ⟨(some 14), (.ia 1 (.tmp 13) (.const (.int .i64 2))), .ptr, none⟩
  (.take 12 ⟨(some 15), (.ld1 (.tmp 14)), (.int .u8), none⟩
  (.take 13 ⟨(some 16), (.cv .u32 (.tmp 15)), (.int .u32), none⟩
  (.take 14 ⟨(some 17), (.bin .shl (.tmp 16) (.const (.int .u64 16))), (.int .u32), none⟩
  (.take 15 ⟨(some 18), (.bin .add (.tmp 12) (.tmp 17)), (.int .u32), none⟩
  (.take 16 ⟨(some 19), (.mv (.tmp 0)), .sl, none⟩
  (.take 17 ⟨(some 20), (.ia 1 (.tmp 19) (.const (.int .i64 3))), .ptr, none⟩
  (.take 18 ⟨(some 21), (.ld1 (.tmp 20)), (.int .u8), none⟩
  (.take 19 ⟨(some 22), (.cv .u32 (.tmp 21)), (.int .u32), none⟩
  (.take 20 ⟨(some 23), (.bin .shl (.tmp 22) (.const (.int .u64 24))), (.int .u32), none⟩
  (.take 21 ⟨(some 24), (.bin .add (.tmp 18) (.tmp 23)), (.int .u32), none⟩
  (.take 22 ⟨(some 2), (.mv (.tmp 24)), (.int .u32), none⟩
  .done))))))))))))))))))))))) [2])
 .ret))
def r63 : List Res := [.t 2]
theorem tr63 : trS Tryd.prog 25 (Tryd.f63.body.getD .skip) s63 = some s63 := by kernel_rfl
theorem den63 (args : List Value) (w : World) (R : Ending → World → Prop) (hn : args.length ≤ 25) (h : denS Tryd.prog s63 (argsEnv 0 args) w (endK r63 R)) : Calls Tryd.prog 63 args.toArray w R :=
  calls_of_den (fn := Tryd.f63) (c := Tryd.f63.body.getD .skip) Tryd.func63 (by kernel_rfl) (by rw [Tryd.ntmps63]; exact hn) (by rw [Tryd.ntmps63]; exact tr63) (by kernel_rfl) h
def d63 (b0 : Option Addr) (b0n : Nat) (b0c : Nat) (w : World) (R : Ending → World → Prop) : Prop :=
 ∀ w1 : World, w1 = World.drew w →
 0 ≤ (0 : Int) ∧ (0 : Int) < ((b0n : Nat) : Int) ∧ optK b0 fun a2 =>
 ∃ x3 : Int, World.cell? w1 (Addr.add a2 (Int.toNat 0 * 1)) = some (.int .u8 x3) ∧
 0 ≤ (1 : Int) ∧ (1 : Int) < ((b0n : Nat) : Int) ∧ optK b0 fun a4 =>
 ∃ x5 : Int, World.cell? w1 (Addr.add a4 (Int.toNat 1 * 1)) = some (.int .u8 x5) ∧
 0 ≤ (8 : Int) ∧ 0 ≤ (2 : Int) ∧ (2 : Int) < ((b0n : Nat) : Int) ∧ optK b0 fun a6 =>
 ∃ x7 : Int, World.cell? w1 (Addr.add a6 (Int.toNat 2 * 1)) = some (.int .u8 x7) ∧
 0 ≤ (16 : Int) ∧ 0 ≤ (3 : Int) ∧ (3 : Int) < ((b0n : Nat) : Int) ∧ optK b0 fun a8 =>
 ∃ x9 : Int, World.cell? w1 (Addr.add a8 (Int.toNat 3 * 1)) = some (.int .u8 x9) ∧
 0 ≤ (24 : Int) ∧ R (.returned (.int .u32 (IntKind.wrap .u32 ((IntKind.wrap .u32 ((IntKind.wrap .u32 ((IntKind.wrap .u32 x3) + (shL .u32 (IntKind.wrap .u32 x5) 8))) + (shL .u32 (IntKind.wrap .u32 x7) 16))) + (shL .u32 (IntKind.wrap .u32 x9) 24))))) w1
theorem e63 (b0 : Option Addr) (b0n : Nat) (b0c : Nat) (w : World) (R : Ending → World → Prop) : denS Tryd.prog s63 (argsEnv 0 [(.slice b0 b0n b0c)]) w (endK r63 R) = d63 b0 b0n b0c w R := by kernel_rfl
theorem c63 (b0 : Option Addr) (b0n : Nat) (b0c : Nat) {w : World} {R : Ending → World → Prop} (h : d63 b0 b0n b0c w R) : Calls Tryd.prog 63 #[(.slice b0 b0n b0c)] w R :=
  den63 [(.slice b0 b0n b0c)] w R (by simp) ((e63 b0 b0n b0c w R).symm ▸ h)

/-- prelude/preluderef01.Seal -/
def s38 : S := (.seq (.ops [⟨(some 4), (.mv (.const (.slice none 0 0))), .sl, none⟩] [1, 0])
 (.seq (.seq (.ops [⟨(some 6), (.mv (.tmp 1)), .sl, none⟩,
  ⟨(some 7), (.len (.tmp 6)), (.int .i64), none⟩,
  ⟨(some 8), (.bin .gtr (.tmp 7) (.const (.int .i64 16777216))), .bool, none⟩] [8, 0, 1])
 (.cond (.tmp 8)
 (.seq (.ops [⟨(some 4), (.mv (.const (.slice none 0 0))), .sl, none⟩] [4])
 .ret)
 .skip))
 (.seq (.ops [⟨(some 9), (.mv (.tmp 0)), (.int .u8), none⟩,
  ⟨(some 10), (.bldS 5 1 1 [(0, (.tmp 9))]), .sl, none⟩,
  ⟨(some 11), (.mv (.tmp 1)), .sl, none⟩,
  ⟨(some 12), (.len (.tmp 11)), (.int .i64), none⟩,
  ⟨(some 13), (.cv .u32 (.tmp 12)), (.int .u32), none⟩,
  ⟨(some 14), (.call 75 [(.tmp 13)] [.sl]), .sl, none⟩,
  ⟨(some 15), (.app #[22, 22] 22 (.tmp 10) (.tmp 14)), .sl, none⟩,
  ⟨(some 5), (.mv (.tmp 15)), .sl, none⟩] [5, 1])
 (.seq (.ops [⟨(some 16), (.mv (.tmp 5)), .sl, none⟩,
  ⟨(some 17), (.mv (.tmp 5)), .sl, none⟩,
  ⟨(some 18), (.call 62 [(.tmp 17)] [(.int .u32)]), (.int .u32), none⟩,
  ⟨(some 19), (.call 75 [(.tmp 18)] [.sl]), .sl, none⟩,
  ⟨(some 20), (.app #[22, 22] 22 (.tmp 16) (.tmp 19)), .sl, none⟩,
  ⟨(some 5), (.mv (.tmp 20)), .sl, none⟩] [5, 1])
 (.seq (.ops [⟨(some 21), (.mv (.tmp 5)), .sl, none⟩,
  ⟨(some 22), (.mv (.tmp 1)), .sl, none⟩,
  ⟨(some 23), (.app #[22, 22] 22 (.tmp 21) (.tmp 22)), .sl, none⟩,
  ⟨(some 5), (.mv (.tmp 23)), .sl, none⟩] [5, 1])
 (.seq (.ops [⟨(some 24), (.mv (.tmp 5)), .sl, none⟩,
  ⟨(some 25), (.mv (.tmp 1)), .sl, none⟩,
  ⟨(some 26), (.call 62 [(.tmp 25)] [(.int .u32)]), (.int .u32), none⟩,
  ⟨(some 27), (.call 75 [(.tmp 26)] [.sl]), .sl, none⟩,
  ⟨(some 28), (.app #[22, 22] 22 (.tmp 24) (.tmp 27)), .sl, none⟩,
  ⟨(some 4), (.mv (.tmp 28)), .sl, none⟩] [4])
 .ret))))))
def r38 : List Res := [.t 4]
theorem tr38 : trS Tryd.prog 29 (Tryd.f38.body.getD .skip) s38 = some s38 := by kernel_rfl
theorem den38 (args : List Value) (w : World) (R : Ending → World → Prop) (hn : args.length ≤ 29) (h : denS Tryd.prog s38 (argsEnv 0 args) w (endK r38 R)) : Calls Tryd.prog 38 args.toArray w R :=
  calls_of_den (fn := Tryd.f38) (c := Tryd.f38.body.getD .skip) Tryd.func38 (by kernel_rfl) (by rw [Tryd.ntmps38]; exact hn) (by rw [Tryd.ntmps38]; exact tr38) (by kernel_rfl) h
def d38 (kind0 : Int) (load1 : Option Addr) (load1n : Nat) (load1c : Nat) (w : World) (R : Ending → World → Prop) : Prop :=
 (bif (decide (16777216 < ((load1n : Nat) : Int))) then
 (R (.returned (.slice none 0 0)) w)
 else
 (∃ cs2, fillL (.elems 1) (zrep (zc Tryd.prog 5) (1 * 1)) [(0, (.int .u8 kind0))] = some cs2 ∧
 ∀ w3 : World, w3 = World.alloc w (.cells (List.toArray cs2) 5) →
 Calls Tryd.prog 75 #[(.int .u32 (IntKind.wrap .u32 ((load1n : Nat) : Int)))] w3 fun e4 w5 => ∃ (x6 : Option Addr) (x6n : Nat) (x6c : Nat), e4 = .returned (.slice x6 x6n x6c) ∧
 RunV Tryd.prog (Builtin.append_ #[22, 22] 22 #[(.slice (some ⟨World.heap w |>.size, 0, none⟩) 1 1), (.slice x6 x6n x6c)]) w5 fun v7 w8 => ∃ (x9 : Option Addr) (x9n : Nat) (x9c : Nat), v7 = (.slice x9 x9n x9c) ∧
 Calls Tryd.prog 62 #[(.slice x9 x9n x9c)] w8 fun e10 w11 => ∃ x12 : Int, e10 = .returned (.int .u32 x12) ∧
 Calls Tryd.prog 75 #[(.int .u32 x12)] w11 fun e13 w14 => ∃ (x15 : Option Addr) (x15n : Nat) (x15c : Nat), e13 = .returned (.slice x15 x15n x15c) ∧
 RunV Tryd.prog (Builtin.append_ #[22, 22] 22 #[(.slice x9 x9n x9c), (.slice x15 x15n x15c)]) w14 fun v16 w17 => ∃ (x18 : Option Addr) (x18n : Nat) (x18c : Nat), v16 = (.slice x18 x18n x18c) ∧
 RunV Tryd.prog (Builtin.append_ #[22, 22] 22 #[(.slice x18 x18n x18c), (.slice load1 load1n load1c)]) w17 fun v19 w20 => ∃ (x21 : Option Addr) (x21n : Nat) (x21c : Nat), v19 = (.slice x21 x21n x21c) ∧
 Calls Tryd.prog 62 #[(.slice load1 load1n load1c)] w20 fun e22 w23 => ∃ x24 : Int, e22 = .returned (.int .u32 x24) ∧
 Calls Tryd.prog 75 #[(.int .u32 x24)] w23 fun e25 w26 => ∃ (x27 : Option Addr) (x27n : Nat) (x27c : Nat), e25 = .returned (.slice x27 x27n x27c) ∧
 RunV Tryd.prog (Builtin.append_ #[22, 22] 22 #[(.slice x21 x21n x21c), (.slice x27 x27n x27c)]) w26 fun v28 w29 => ∃ (x30 : Option Addr) (x30n : Nat) (x30c : Nat), v28 = (.slice x30 x30n x30c) ∧
 R (.returned (.slice x30 x30n x30c)) w29))
theorem e38 (kind0 : Int) (load1 : Option Addr) (load1n : Nat) (load1c : Nat) (w : World) (R : Ending → World → Prop) : denS Tryd.prog s38 (argsEnv 0 [(.int .u8 kind0), (.slice load1 load1n load1c)]) w (endK r38 R) = d38 kind0 load1 load1n load1c w R := by kernel_rfl
theorem c38 (kind0 : Int) (load1 : Option Addr) (load1n : Nat) (load1c : Nat) {w : World} {R : Ending → World → Prop} (h : d38 kind0 load1 load1n load1c w R) : Calls Tryd.prog 38 #[(.int .u8 kind0), (.slice load1 load1n load1c)] w R :=
  den38 [(.int .u8 kind0), (.slice load1 load1n load1c)] w R (by simp) ((e38 kind0 load1 load1n load1c w R).symm ▸ h)

/-- prelude/preluderef01.Unseal -/
def s26 : S := (.seq (.ops [⟨(some 4), (.mv (.const (.int .u8 0))), (.int .u8), none⟩,
  ⟨(some 5), (.mv (.const (.slice none 0 0))), .sl, none⟩,
  ⟨(some 6), (.mv (.const (.int .i64 0))), (.int .i64), none⟩,
  ⟨(some 7), (.mv (.const (.int .i64 0))), (.int .i64), none⟩] [1, 0])
 (.join [] [0, 1]
 (.seq (.ops [⟨(some 11), (.mv (.tmp 1)), (.int .i64), none⟩,
  ⟨(some 12), (.bin .lss (.tmp 11) (.const (.int .i64 0))), .bool, none⟩,
  ⟨(some 13), (.mv (.tmp 12)), .bool, none⟩,
  ⟨(some 14), (.mv (.tmp 1)), (.int .i64), (some (13, false))⟩,
  ⟨(some 15), (.mv (.tmp 0)), .sl, (some (13, false))⟩,
  ⟨(some 16), (.len (.tmp 15)), (.int .i64), (some (13, false))⟩,
  ⟨(some 17), (.bin .gtr (.tmp 14) (.tmp 16)), .bool, (some (13, false))⟩,
  ⟨(some 18), (.pick (.tmp 13) (.const (.bool true)) (.tmp 17)), .bool, none⟩] [18, 0, 1])
 (.cond (.tmp 18)
 (.seq (.ops [⟨(some 4), (.mv (.const (.int .u8 0))), (.int .u8), none⟩,
  ⟨(some 5), (.mv (.const (.slice none 0 0))), .sl, none⟩,
  ⟨(some 6), (.mv (.const (.int .i64 0))), (.int .i64), none⟩,
  ⟨(some 7), (.mv (.const (.int .i64 11))), (.int .i64), none⟩] [4, 5, 6, 7])
 .ret)
 .skip))
 (.seq (.ops [⟨(some 19), (.mv (.tmp 0)), .sl, none⟩,
  ⟨(some 20), (.mv (.tmp 1)), (.int .i64), none⟩,
  ⟨(some 21), (.slS 1 (.tmp 19) (some (.tmp 20)) none none), .sl, none⟩,
  ⟨(some 8), (.mv (.tmp 21)), .sl, none⟩] [8, 1])
 (.seq (.seq (.ops [⟨(some 22), (.mv (.tmp 8)), .sl, none⟩,
  ⟨(some 23), (.len (.tmp 22)), (.int .i64), none⟩,
  ⟨(some 24), (.bin .lss (.tmp 23) (.const (.int .i64 9))), .bool, none⟩] [24, 8, 1])
 (.cond (.tmp 24)
 (.seq (.ops [⟨(some 4), (.mv (.const (.int .u8 0))), (.int .u8), none⟩,
  ⟨(some 5), (.mv (.const (.slice none 0 0))), .sl, none⟩,
  ⟨(some 6), (.mv (.const (.int .i64 0))), (.int .i64), none⟩,
  ⟨(some 7), (.mv (.const (.int .i64 10))), (.int .i64), none⟩] [4, 5, 6, 7])
 .ret)
 .skip))
 (.seq (.seq (.draw (.take 0 ⟨(some 25), (.mv (.tmp 8)), .sl, none⟩
  (.take 1 ⟨(some 26), (.slS 1 (.tmp 25) none (some (.const (.int .i64 5))) none), .sl, none⟩
  (.take 3 ⟨(some 28), (.mv (.tmp 8)), .sl, none⟩
  (.take 4 ⟨(some 29), (.slS 1 (.tmp 28) (some (.const (.int .i64 5))) (some (.const (.int .i64 9))) none), .sl, none⟩
  (.go 2 ⟨(some 27), (.call 62 [(.tmp 26)] [(.int .u32)]), (.int .u32), none⟩ []
  (.go 5 ⟨(some 30), (.call 63 [(.tmp 29)] [(.int .u32)]), (.int .u32), none⟩ []
  (.take 6 ⟨(some 31), (.bin .neq (.tmp 27) (.tmp 30)), .bool, none⟩
  .done))))))) [31, 8, 1])
 (.cond (.tmp 31)
 (.seq (.ops [⟨(some 4), (.mv (.const (.int .u8 0))), (.int .u8), none⟩,
  ⟨(some 5), (.mv (.const (.slice none 0 0))), .sl, none⟩,
  ⟨(some 6), (.mv (.const (.int .i64 0))), (.int .i64), none⟩,
  ⟨(some 7), (.mv (.const (.int .i64 13))), (.int .i64), none⟩] [4, 5, 6, 7])
 .ret)
 .skip))
 (.seq (.ops [⟨(some 32), (.mv (.tmp 8)), .sl, none⟩,
  ⟨(some 33), (.slS 1 (.tmp 32) (some (.const (.int .i64 1))) (some (.const (.int .i64 5))) none), .sl, none⟩,
  ⟨(some 34), (.call 63 [(.tmp 33)] [(.int .u32)]), (.int .u32), none⟩,
  ⟨(some 35), (.cv .i64 (.tmp 34)), (.int .i64), none⟩,
  ⟨(some 9), (.mv (.tmp 35)), (.int .i64), none⟩] [9, 8, 1])
 (.seq (.seq (.ops [⟨(some 36), (.mv (.tmp 9)), (.int .i64), none⟩,
  ⟨(some 37), (.bin .gtr (.tmp 36) (.const (.int .i64 16777216))), .bool, none⟩] [37, 8, 9, 1])
 (.cond (.tmp 37)
 (.seq (.ops [⟨(some 4), (.mv (.const (.int .u8 0))), (.int .u8), none⟩,
  ⟨(some 5), (.mv (.const (.slice none 0 0))), .sl, none⟩,
  ⟨(some 6), (.mv (.const (.int .i64 0))), (.int .i64), none⟩,
  ⟨(some 7), (.mv (.const (.int .i64 12))), (.int .i64), none⟩] [4, 5, 6, 7])
 .ret)
 .skip))
 (.seq (.seq (.ops [⟨(some 38), (.mv (.tmp 8)), .sl, none⟩,
  ⟨(some 39), (.len (.tmp 38)), (.int .i64), none⟩,
  ⟨(some 40), (.mv (.tmp 9)), (.int .i64), none⟩,
  ⟨(some 41), (.bin .add (.tmp 40) (.const (.int .i64 13))), (.int .i64), none⟩,
  ⟨(some 42), (.bin .lss (.tmp 39) (.tmp 41)), .bool, none⟩] [42, 8, 9, 1])
 (.cond (.tmp 42)
 (.seq (.ops [⟨(some 4), (.mv (.const (.int .u8 0))), (.int .u8), none⟩,
  ⟨(some 5), (.mv (.const (.slice none 0 0))), .sl, none⟩,
  ⟨(some 6), (.mv (.const (.int .i64 0))), (.int .i64), none⟩,
  ⟨(some 7), (.mv (.const (.int .i64 10))), (.int .i64), none⟩] [4, 5, 6, 7])
 .ret)
 .skip))
 (.seq (.seq (.draw (.take 0 ⟨(some 43), (.mv (.tmp 8)), .sl, none⟩
  (.take 1 ⟨(some 44), (.mv (.tmp 9)), (.int .i64), none⟩
  (.take 2 ⟨(some 45), (.bin .add (.const (.int .i64 9)) (.tmp 44)), (.int .i64), none⟩
  (.take 3 ⟨(some 46), (.slS 1 (.tmp 43) (some (.const (.int .i64 9))) (some (.tmp 45)) none), .sl, none⟩
  (.take 5 ⟨(some 48), (.mv (.tmp 8)), .sl, none⟩
  (.take 6 ⟨(some 49), (.mv (.tmp 9)), (.int .i64), none⟩
  (.take 7 ⟨(some 50), (.bin .add (.const (.int .i64 9)) (.tmp 49)), (.int .i64), none⟩
  (.take 8 ⟨(some 51), (.mv (.tmp 9)), (.int .i64), none⟩
  (.take 9 ⟨(some 52), (.bin .add (.const (.int .i64 13)) (.tmp 51)), (.int .i64), none⟩
  (.take 10 ⟨(some 53), (.slS 1 (.tmp 48) (some (.tmp 50)) (some (.tmp 52)) none), .sl, none⟩
  (.go 4 ⟨(some 47), (.call 62 [(.tmp 46)] [(.int .u32)]), (.int .u32), none⟩ []
  (.go 11 ⟨(some 54), (.call 63 [(.tmp 53)] [(.int .u32)]), (.int .u32), none⟩ []
  (.take 12 ⟨(some 55), (.bin .neq (.tmp 47) (.tmp 54)), .bool, none⟩
  .done))))))))))))) [55, 8, 9, 1])
 (.cond (.tmp 55)
 (.seq (.ops [⟨(some 4), (.mv (.const (.int .u8 0))), (.int .u8), none⟩,
  ⟨(some 5), (.mv (.const (.slice none 0 0))), .sl, none⟩,
  ⟨(some 6), (.mv (.const (.int .i64 0))), (.int .i64), none⟩,
  ⟨(some 7), (.mv (.const (.int .i64 13))), (.int .i64), none⟩] [4, 5, 6, 7])
 .ret)
 .skip))
 (.seq (.ops [⟨(some 10), (.mv (.const (.slice none 0 0))), .sl, none⟩] [10, 8, 9, 1])
 (.seq (.ops [⟨(some 56), (.mv (.tmp 10)), .sl, none⟩,
  ⟨(some 57), (.mv (.tmp 8)), .sl, none⟩,
  ⟨(some 58), (.mv (.tmp 9)), (.int .i64), none⟩,
  ⟨(some 59), (.bin .add (.const (.int .i64 9)) (.tmp 58)), (.int .i64), none⟩,
  ⟨(some 60), (.slS 1 (.tmp 57) (some (.const (.int .i64 9))) (some (.tmp 59)) none), .sl, none⟩,
  ⟨(some 61), (.app #[22, 22] 22 (.tmp 56) (.tmp 60)), .sl, none⟩,
  ⟨(some 10), (.mv (.tmp 61)), .sl, none⟩] [8, 10, 1, 9])
 (.seq (.ops [⟨(some 62), (.mv (.tmp 8)), .sl, none⟩,
  ⟨(some 63), (.ia 1 (.tmp 62) (.const (.int .i64 0))), .ptr, none⟩,
  ⟨(some 64), (.ld1 (.tmp 63)), (.int .u8), none⟩,
  ⟨(some 65), (.mv (.tmp 10)), .sl, none⟩,
  ⟨(some 66), (.mv (.tmp 1)), (.int .i64), none⟩,
  ⟨(some 67), (.mv (.tmp 9)), (.int .i64), none⟩,
  ⟨(some 68), (.bin .add (.tmp 66) (.tmp 67)), (.int .i64), none⟩,
  ⟨(some 69), (.bin .add (.tmp 68) (.const (.int .i64 13))), (.int .i64), none⟩,
  ⟨(some 4), (.mv (.tmp 64)), (.int .u8), none⟩,
  ⟨(some 5), (.mv (.tmp 65)), .sl, none⟩,
  ⟨(some 6), (.mv (.tmp 69)), (.int .i64), none⟩,
  ⟨(some 7), (.mv (.const (.int .i64 0))), (.int .i64), none⟩] [4, 5, 6, 7])
 .ret))))))))))))
def r26 : List Res := [.t 4, .t 5, .t 6, .t 7]
theorem tr26 : trS Tryd.prog 70 (Tryd.f26.body.getD .skip) s26 = some s26 := by kernel_rfl
theorem den26 (args : List Value) (w : World) (R : Ending → World → Prop) (hn : args.length ≤ 70) (h : denS Tryd.prog s26 (argsEnv 0 args) w (endK r26 R)) : Calls Tryd.prog 26 args.toArray w R :=
  calls_of_den (fn := Tryd.f26) (c := Tryd.f26.body.getD .skip) Tryd.func26 (by kernel_rfl) (by rw [Tryd.ntmps26]; exact hn) (by rw [Tryd.ntmps26]; exact tr26) (by kernel_rfl) h
def d26 (b0 : Option Addr) (b0n : Nat) (b0c : Nat) (at1 : Int) (w : World) (R : Ending → World → Prop) : Prop :=
 ∃ J2 : World → Prop,
 ((bif (decide (at1 < 0)) then
 (R (.returned (.tuple #[(.int .u8 0), (.slice none 0 0), (.int .i64 0), (.int .i64 11)])) w)
 else
 ((bif (decide (((b0n : Nat) : Int) < at1)) then
 (R (.returned (.tuple #[(.int .u8 0), (.slice none 0 0), (.int .i64 0), (.int .i64 11)])) w)
 else
 (J2  w))))) ∧
 (∀ (w3 : World), J2  w3 →
 0 ≤ at1 ∧ at1 ≤ ((b0n : Nat) : Int) ∧ (bif (decide ((((b0n - (Int.toNat at1)) : Nat) : Int) < 9)) then
 (R (.returned (.tuple #[(.int .u8 0), (.slice none 0 0), (.int .i64 0), (.int .i64 10)])) w3)
 else
 (∀ w4 : World, w4 = World.drew w3 →
 0 ≤ (5 : Int) ∧ (5 : Int) ≤ (((b0c - (Int.toNat at1)) : Nat) : Int) ∧ 0 ≤ (9 : Int) ∧ (9 : Int) ≤ (((b0c - (Int.toNat at1)) : Nat) : Int) ∧ 0 ≤ (5 : Int) ∧ (5 : Int) ≤ (((Int.toNat 9) : Nat) : Int) ∧ Calls Tryd.prog 62 #[(.slice (if (b0c - (Int.toNat at1)) = 0 then (if b0c = (Int.toNat at1) then b0 else Option.map (fun y => Addr.add y ((Int.toNat at1) * 1)) b0) else Option.map (fun y => Addr.add y (0 * 1)) (if b0c = (Int.toNat at1) then b0 else Option.map (fun y => Addr.add y ((Int.toNat at1) * 1)) b0)) ((Int.toNat 5) - 0) ((b0c - (Int.toNat at1)) - 0))] w4 fun e5 w6 => ∃ x7 : Int, e5 = .returned (.int .u32 x7) ∧
 Calls Tryd.prog 63 #[(.slice (if (b0c - (Int.toNat at1)) = (Int.toNat 5) then (if b0c = (Int.toNat at1) then b0 else Option.map (fun y => Addr.add y ((Int.toNat at1) * 1)) b0) else Option.map (fun y => Addr.add y ((Int.toNat 5) * 1)) (if b0c = (Int.toNat at1) then b0 else Option.map (fun y => Addr.add y ((Int.toNat at1) * 1)) b0)) ((Int.toNat 9) - (Int.toNat 5)) ((b0c - (Int.toNat at1)) - (Int.toNat 5)))] w6 fun e8 w9 => ∃ x10 : Int, e8 = .returned (.int .u32 x10) ∧
 (bif (!decide (x7 = x10)) then
 (R (.returned (.tuple #[(.int .u8 0), (.slice none 0 0), (.int .i64 0), (.int .i64 13)])) w9)
 else
 (0 ≤ (5 : Int) ∧ (5 : Int) ≤ (((b0c - (Int.toNat at1)) : Nat) : Int) ∧ 0 ≤ (1 : Int) ∧ (1 : Int) ≤ (((Int.toNat 5) : Nat) : Int) ∧ Calls Tryd.prog 63 #[(.slice (if (b0c - (Int.toNat at1)) = (Int.toNat 1) then (if b0c = (Int.toNat at1) then b0 else Option.map (fun y => Addr.add y ((Int.toNat at1) * 1)) b0) else Option.map (fun y => Addr.add y ((Int.toNat 1) * 1)) (if b0c = (Int.toNat at1) then b0 else Option.map (fun y => Addr.add y ((Int.toNat at1) * 1)) b0)) ((Int.toNat 5) - (Int.toNat 1)) ((b0c - (Int.toNat at1)) - (Int.toNat 1)))] w9 fun e11 w12 => ∃ x13 : Int, e11 = .returned (.int .u32 x13) ∧
 (bif (decide (16777216 < (IntKind.wrap .i64 x13))) then
 (R (.returned (.tuple #[(.int .u8 0), (.slice none 0 0), (.int .i64 0), (.int .i64 12)])) w12)
 else
 ((bif (decide ((((b0n - (Int.toNat at1)) : Nat) : Int) < (IntKind.wrap .i64 ((IntKind.wrap .i64 x13) + 13)))) then
 (R (.returned (.tuple #[(.int .u8 0), (.slice none 0 0), (.int .i64 0), (.int .i64 10)])) w12)
 else
 (∀ w14 : World, w14 = World.drew w12 →
 0 ≤ (IntKind.wrap .i64 (9 + (IntKind.wrap .i64 x13))) ∧ (IntKind.wrap .i64 (9 + (IntKind.wrap .i64 x13))) ≤ (((b0c - (Int.toNat at1)) : Nat) : Int) ∧ 0 ≤ (9 : Int) ∧ (9 : Int) ≤ (((Int.toNat (IntKind.wrap .i64 (9 + (IntKind.wrap .i64 x13)))) : Nat) : Int) ∧ 0 ≤ (IntKind.wrap .i64 (13 + (IntKind.wrap .i64 x13))) ∧ (IntKind.wrap .i64 (13 + (IntKind.wrap .i64 x13))) ≤ (((b0c - (Int.toNat at1)) : Nat) : Int) ∧ 0 ≤ (IntKind.wrap .i64 (9 + (IntKind.wrap .i64 x13))) ∧ (IntKind.wrap .i64 (9 + (IntKind.wrap .i64 x13))) ≤ (((Int.toNat (IntKind.wrap .i64 (13 + (IntKind.wrap .i64 x13)))) : Nat) : Int) ∧ Calls Tryd.prog 62 #[(.slice (if (b0c - (Int.toNat at1)) = (Int.toNat 9) then (if b0c = (Int.toNat at1) then b0 else Option.map (fun y => Addr.add y ((Int.toNat at1) * 1)) b0) else Option.map (fun y => Addr.add y ((Int.toNat 9) * 1)) (if b0c = (Int.toNat at1) then b0 else Option.map (fun y => Addr.add y ((Int.toNat at1) * 1)) b0)) ((Int.toNat (IntKind.wrap .i64 (9 + (IntKind.wrap .i64 x13)))) - (Int.toNat 9)) ((b0c - (Int.toNat at1)) - (Int.toNat 9)))] w14 fun e15 w16 => ∃ x17 : Int, e15 = .returned (.int .u32 x17) ∧
 Calls Tryd.prog 63 #[(.slice (if (b0c - (Int.toNat at1)) = (Int.toNat (IntKind.wrap .i64 (9 + (IntKind.wrap .i64 x13)))) then (if b0c = (Int.toNat at1) then b0 else Option.map (fun y => Addr.add y ((Int.toNat at1) * 1)) b0) else Option.map (fun y => Addr.add y ((Int.toNat (IntKind.wrap .i64 (9 + (IntKind.wrap .i64 x13)))) * 1)) (if b0c = (Int.toNat at1) then b0 else Option.map (fun y => Addr.add y ((Int.toNat at1) * 1)) b0)) ((Int.toNat (IntKind.wrap .i64 (13 + (IntKind.wrap .i64 x13)))) - (Int.toNat (IntKind.wrap .i64 (9 + (IntKind.wrap .i64 x13))))) ((b0c - (Int.toNat at1)) - (Int.toNat (IntKind.wrap .i64 (9 + (IntKind.wrap .i64 x13))))))] w16 fun e18 w19 => ∃ x20 : Int, e18 = .returned (.int .u32 x20) ∧
 (bif (!decide (x17 = x20)) then
 (R (.returned (.tuple #[(.int .u8 0), (.slice none 0 0), (.int .i64 0), (.int .i64 13)])) w19)
 else
 (0 ≤ (IntKind.wrap .i64 (9 + (IntKind.wrap .i64 x13))) ∧ (IntKind.wrap .i64 (9 + (IntKind.wrap .i64 x13))) ≤ (((b0c - (Int.toNat at1)) : Nat) : Int) ∧ 0 ≤ (9 : Int) ∧ (9 : Int) ≤ (((Int.toNat (IntKind.wrap .i64 (9 + (IntKind.wrap .i64 x13)))) : Nat) : Int) ∧ RunV Tryd.prog (Builtin.append_ #[22, 22] 22 #[(.slice none 0 0), (.slice (if (b0c - (Int.toNat at1)) = (Int.toNat 9) then (if b0c = (Int.toNat at1) then b0 else Option.map (fun y => Addr.add y ((Int.toNat at1) * 1)) b0) else Option.map (fun y => Addr.add y ((Int.toNat 9) * 1)) (if b0c = (Int.toNat at1) then b0 else Option.map (fun y => Addr.add y ((Int.toNat at1) * 1)) b0)) ((Int.toNat (IntKind.wrap .i64 (9 + (IntKind.wrap .i64 x13)))) - (Int.toNat 9)) ((b0c - (Int.toNat at1)) - (Int.toNat 9)))]) w19 fun v21 w22 => ∃ (x23 : Option Addr) (x23n : Nat) (x23c : Nat), v21 = (.slice x23 x23n x23c) ∧
 0 ≤ (0 : Int) ∧ (0 : Int) < (((b0n - (Int.toNat at1)) : Nat) : Int) ∧ optK (if b0c = (Int.toNat at1) then b0 else Option.map (fun y => Addr.add y ((Int.toNat at1) * 1)) b0) fun a24 =>
 ∃ x25 : Int, World.cell? w22 (Addr.add a24 (Int.toNat 0 * 1)) = some (.int .u8 x25) ∧
 R (.returned (.tuple #[(.int .u8 x25), (.slice x23 x23n x23c), (.int .i64 (IntKind.wrap .i64 ((IntKind.wrap .i64 (at1 + (IntKind.wrap .i64 x13))) + 13))), (.int .i64 0)])) w22)))))))))))
theorem e26 (b0 : Option Addr) (b0n : Nat) (b0c : Nat) (at1 : Int) (w : World) (R : Ending → World → Prop) : denS Tryd.prog s26 (argsEnv 0 [(.slice b0 b0n b0c), (.int .i64 at1)]) w (endK r26 R) = d26 b0 b0n b0c at1 w R := by kernel_rfl
theorem c26 (b0 : Option Addr) (b0n : Nat) (b0c : Nat) (at1 : Int) {w : World} {R : Ending → World → Prop} (h : d26 b0 b0n b0c at1 w R) : Calls Tryd.prog 26 #[(.slice b0 b0n b0c), (.int .i64 at1)] w R :=
  den26 [(.slice b0 b0n b0c), (.int .i64 at1)] w R (by simp) ((e26 b0 b0n b0c at1 w R).symm ▸ h)

end Go.Proofs.YtjchneebdlncfaaDoor.Fn
