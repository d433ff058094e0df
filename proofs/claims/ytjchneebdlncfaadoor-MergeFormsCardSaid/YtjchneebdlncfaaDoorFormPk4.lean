/-
  THE CODE of some functions of the given program, resolved, and proved to ask what the readable texts (d..) say; contracts c.. follow. Printed by a small program of mine.
  WORDS FOR CONTRACTS: append, and where the new slice lies; of one element likewise; facts about owned rows.
  CHECK SUMS AND RECORDS: contracts of Sum, back, Unseal, and of the reference's.
  WHAT THE CARDS OF THESE LAWS SHARE: the table as the rows list it, a world for the witnesses, arguments that are bytes or plain structs.
  THE CODE of some functions of the given program, resolved, and proved to ask what the readable texts (d..) say; contracts c.. follow. Printed by a small program of mine.
  WORDS FOR CONTRACTS: make, type assertions, what a call ends with.
  Own work. No macro, syntax, notation, axiom.
-/
import Derived.Test.YtjchneebdlncfaaDoorFormPk3
import Derived.Test.YtjchneebdlncfaaDoorProg
import Derived.Maps.AppendAt
import Derived.Test.YtjchneebdlncfaaDoorCards
import Derived.Test.YtjchneebdlncfaaDoorTie
import Derived.Stop.LaidErr
import Derived.Laws.MakeOwn
set_option maxRecDepth 100000
namespace Go.Proofs.YtjchneebdlncfaaDoor.Fn
open Go Den
/-- prelude/codec.Sum -/
def s59 : S := (.seq (.ops [⟨(some 2), (.mv (.const (.int .u32 0))), (.int .u32), none⟩] [0])
 (.seq (.ops [⟨(some 3), (.mv (.const (.int .u32 4294967295))), (.int .u32), none⟩] [0, 3])
 (.seq (.seq (.ops [⟨(some 6), (.mv (.tmp 0)), .sl, none⟩,
  ⟨(some 7), (.len (.tmp 6)), (.int .i64), none⟩,
  ⟨(some 8), (.mv (.const (.int .i64 0))), (.int .i64), none⟩] [8, 7, 6, 3])
 (.block 0
 (.loop [(3, (.int .u32)), (8, (.int .i64))] [6, 7]
 (.seq (.ops [⟨(some 9), (.bin .lss (.tmp 8) (.tmp 7)), .any, none⟩] [9, 6, 8, 3, 7])
 (.seq (.cond (.tmp 9)
 .skip
 (.exit 0))
 (.seq (.block 1
 (.seq (.ops [⟨(some 10), (.ia 1 (.tmp 6) (.tmp 8)), .ptr, none⟩,
  ⟨(some 11), (.ld1 (.tmp 10)), (.int .u8), none⟩,
  ⟨(some 5), (.mv (.tmp 11)), (.int .u8), none⟩] [3, 5, 8, 7, 6])
 (.seq (.ops [⟨(some 12), (.mv (.tmp 3)), (.int .u32), none⟩,
  ⟨(some 13), (.mv (.tmp 5)), (.int .u8), none⟩,
  ⟨(some 14), (.cv .u32 (.tmp 13)), (.int .u32), none⟩,
  ⟨(some 15), (.bin .xor (.tmp 12) (.tmp 14)), (.int .u32), none⟩,
  ⟨(some 3), (.mv (.tmp 15)), (.int .u32), none⟩] [3, 8, 7, 6])
 (.seq (.ops [⟨(some 16), (.mv (.tmp 3)), (.int .u32), none⟩,
  ⟨(some 17), (.bin .shr (.tmp 16) (.const (.int .u64 4))), (.int .u32), none⟩,
  ⟨(some 18), (.mv (.tmp 3)), (.int .u32), none⟩,
  ⟨(some 19), (.bin .and (.tmp 18) (.const (.int .u32 15))), (.int .u32), none⟩,
  ⟨(some 20), (.iaA 16 1 (.global 0) (.tmp 19)), .ptr, none⟩,
  ⟨(some 21), (.ld1 (.tmp 20)), (.int .u32), none⟩,
  ⟨(some 22), (.bin .xor (.tmp 17) (.tmp 21)), (.int .u32), none⟩,
  ⟨(some 3), (.mv (.tmp 22)), (.int .u32), none⟩] [3, 8, 7, 6])
 (.ops [⟨(some 23), (.mv (.tmp 3)), (.int .u32), none⟩,
  ⟨(some 24), (.bin .shr (.tmp 23) (.const (.int .u64 4))), (.int .u32), none⟩,
  ⟨(some 25), (.mv (.tmp 3)), (.int .u32), none⟩,
  ⟨(some 26), (.bin .and (.tmp 25) (.const (.int .u32 15))), (.int .u32), none⟩,
  ⟨(some 27), (.iaA 16 1 (.global 0) (.tmp 26)), .ptr, none⟩,
  ⟨(some 28), (.ld1 (.tmp 27)), (.int .u32), none⟩,
  ⟨(some 29), (.bin .xor (.tmp 24) (.tmp 28)), (.int .u32), none⟩,
  ⟨(some 3), (.mv (.tmp 29)), (.int .u32), none⟩] [8, 7, 6, 3])))))
 (.ops [⟨(some 30), (.bin .add (.tmp 8) (.const (.int .i64 1))), (.int .i64), none⟩,
  ⟨(some 8), (.mv (.tmp 30)), (.int .i64), none⟩] [8, 7, 6, 3])))))))
 (.seq (.ops [⟨(some 31), (.mv (.tmp 3)), (.int .u32), none⟩,
  ⟨(some 32), (.un .xor (.tmp 31)), (.int .u32), none⟩,
  ⟨(some 2), (.mv (.tmp 32)), (.int .u32), none⟩] [2])
 .ret))))
def r59 : List Res := [.t 2]
theorem tr59 : trS Tryd.prog [] 33 (Tryd.f59.body.getD .skip) s59 = some s59 := by kernel_rfl
theorem den59 (args : List Value) (w : World) (R : Ending → World → Prop) (hn : args.length ≤ 33) (h : denS Tryd.prog s59 (argsEnv 0 args) w (endK r59 R)) : Calls Tryd.prog 59 args.toArray w R :=
  calls_of_den (pn := []) (fn := Tryd.f59) (c := Tryd.f59.body.getD .skip) Tryd.func59 (by kernel_rfl) (by rw [Tryd.ntmps59]; exact hn) (by rw [Tryd.ntmps59]; exact tr59) (by kernel_rfl) h
def d59 (b0 : Option Addr) (b0n : Nat) (b0c : Nat) (w : World) (R : Ending → World → Prop) : Prop :=
 ∃ I1 : Nat → Int → Int → World → Prop,
 (∃ m, I1 m 4294967295 0 w) ∧
 (∀ (m2 : Nat) (w3 : World) (s4 : Int) (x5 : Int), I1 m2 s4 x5 w3 →
 (bif (decide (x5 < ((b0n : Nat) : Int))) then
 (0 ≤ x5 ∧ x5 < ((b0n : Nat) : Int) ∧ optK b0 fun a6 =>
 ∃ x7 : Int, World.cell? w3 (Addr.add a6 (Int.toNat x5 * 1)) = some (.int .u8 x7) ∧
 0 ≤ (4 : Int) ∧ 0 ≤ (bAnd .u32 (bXor .u32 s4 (IntKind.wrap .u32 x7)) 15) ∧ (bAnd .u32 (bXor .u32 s4 (IntKind.wrap .u32 x7)) 15) < ((16 : Nat) : Int) ∧
 ∃ x8 : Int, World.cell? w3 (Addr.add ⟨0, 0, none⟩ (Int.toNat (bAnd .u32 (bXor .u32 s4 (IntKind.wrap .u32 x7)) 15) * 1)) = some (.int .u32 x8) ∧
 0 ≤ (4 : Int) ∧ 0 ≤ (bAnd .u32 (bXor .u32 (shR .u32 (bXor .u32 s4 (IntKind.wrap .u32 x7)) 4) x8) 15) ∧ (bAnd .u32 (bXor .u32 (shR .u32 (bXor .u32 s4 (IntKind.wrap .u32 x7)) 4) x8) 15) < ((16 : Nat) : Int) ∧
 ∃ x9 : Int, World.cell? w3 (Addr.add ⟨0, 0, none⟩ (Int.toNat (bAnd .u32 (bXor .u32 (shR .u32 (bXor .u32 s4 (IntKind.wrap .u32 x7)) 4) x8) 15) * 1)) = some (.int .u32 x9) ∧
 ∃ m10, m10 < m2 ∧ I1 m10 (bXor .u32 (shR .u32 (bXor .u32 (shR .u32 (bXor .u32 s4 (IntKind.wrap .u32 x7)) 4) x8) 4) x9) (IntKind.wrap .i64 (x5 + 1)) w3)
 else
 (R (.returned (.int .u32 (bXor .u32 (IntKind.max .u32) s4))) w3)))
theorem e59 (b0 : Option Addr) (b0n : Nat) (b0c : Nat) (w : World) (R : Ending → World → Prop) : denS Tryd.prog s59 (argsEnv 0 [(.slice b0 b0n b0c)]) w (endK r59 R) = d59 b0 b0n b0c w R := by kernel_rfl
theorem c59 (b0 : Option Addr) (b0n : Nat) (b0c : Nat) {w : World} {R : Ending → World → Prop} (h : d59 b0 b0n b0c w R) : Calls Tryd.prog 59 #[(.slice b0 b0n b0c)] w R :=
  den59 [(.slice b0 b0n b0c)] w R (by simp) ((e59 b0 b0n b0c w R).symm ▸ h)

/-- prelude/codec.four -/
def s69 : S := (.seq (.ops [⟨(some 4), (.mv (.const (.slice none 0 0))), .sl, none⟩] [0, 1])
 (.seq (.ops [⟨(some 5), (.mv (.tmp 0)), .sl, none⟩,
  ⟨(some 6), (.mv (.tmp 1)), (.int .u32), none⟩,
  ⟨(some 7), (.cv .u8 (.tmp 6)), (.int .u8), none⟩,
  ⟨(some 8), (.mv (.tmp 1)), (.int .u32), none⟩,
  ⟨(some 9), (.bin .shr (.tmp 8) (.const (.int .u64 8))), (.int .u32), none⟩,
  ⟨(some 10), (.cv .u8 (.tmp 9)), (.int .u8), none⟩,
  ⟨(some 11), (.mv (.tmp 1)), (.int .u32), none⟩,
  ⟨(some 12), (.bin .shr (.tmp 11) (.const (.int .u64 16))), (.int .u32), none⟩,
  ⟨(some 13), (.cv .u8 (.tmp 12)), (.int .u8), none⟩,
  ⟨(some 14), (.mv (.tmp 1)), (.int .u32), none⟩,
  ⟨(some 15), (.bin .shr (.tmp 14) (.const (.int .u64 24))), (.int .u32), none⟩,
  ⟨(some 16), (.cv .u8 (.tmp 15)), (.int .u8), none⟩,
  ⟨(some 17), (.bldS 5 4 1 [(0, (.tmp 7)), (1, (.tmp 10)), (2, (.tmp 13)), (3, (.tmp 16))]), .sl, none⟩,
  ⟨(some 18), (.app #[22, 22] 22 (.tmp 5) (.tmp 17)), .sl, none⟩,
  ⟨(some 4), (.mv (.tmp 18)), .sl, none⟩] [4])
 .ret))
def r69 : List Res := [.t 4]
theorem tr69 : trS Tryd.prog [] 19 (Tryd.f69.body.getD .skip) s69 = some s69 := by kernel_rfl
theorem den69 (args : List Value) (w : World) (R : Ending → World → Prop) (hn : args.length ≤ 19) (h : denS Tryd.prog s69 (argsEnv 0 args) w (endK r69 R)) : Calls Tryd.prog 69 args.toArray w R :=
  calls_of_den (pn := []) (fn := Tryd.f69) (c := Tryd.f69.body.getD .skip) Tryd.func69 (by kernel_rfl) (by rw [Tryd.ntmps69]; exact hn) (by rw [Tryd.ntmps69]; exact tr69) (by kernel_rfl) h
def d69 (b0 : Option Addr) (b0n : Nat) (b0c : Nat) (n1 : Int) (w : World) (R : Ending → World → Prop) : Prop :=
 0 ≤ (8 : Int) ∧ 0 ≤ (16 : Int) ∧ 0 ≤ (24 : Int) ∧ ∃ cs2, fillL (.elems 1) (zrep (zc Tryd.prog 5) (4 * 1)) [(0, (.int .u8 (IntKind.wrap .u8 n1))), (1, (.int .u8 (IntKind.wrap .u8 (shR .u32 n1 8)))), (2, (.int .u8 (IntKind.wrap .u8 (shR .u32 n1 16)))), (3, (.int .u8 (IntKind.wrap .u8 (shR .u32 n1 24))))] = some cs2 ∧
 ∀ w3 : World, w3 = World.alloc w (.cells (List.toArray cs2) 5) →
 RunV Tryd.prog (Builtin.append_ #[22, 22] 22 #[(.slice b0 b0n b0c), (.slice (some ⟨World.heap w |>.size, 0, none⟩) 4 4)]) w3 fun v4 w5 => ∃ (x6 : Option Addr) (x6n : Nat) (x6c : Nat), v4 = (.slice x6 x6n x6c) ∧
 R (.returned (.slice x6 x6n x6c)) w5
theorem e69 (b0 : Option Addr) (b0n : Nat) (b0c : Nat) (n1 : Int) (w : World) (R : Ending → World → Prop) : denS Tryd.prog s69 (argsEnv 0 [(.slice b0 b0n b0c), (.int .u32 n1)]) w (endK r69 R) = d69 b0 b0n b0c n1 w R := by kernel_rfl
theorem c69 (b0 : Option Addr) (b0n : Nat) (b0c : Nat) (n1 : Int) {w : World} {R : Ending → World → Prop} (h : d69 b0 b0n b0c n1 w R) : Calls Tryd.prog 69 #[(.slice b0 b0n b0c), (.int .u32 n1)] w R :=
  den69 [(.slice b0 b0n b0c), (.int .u32 n1)] w R (by simp) ((e69 b0 b0n b0c n1 w R).symm ▸ h)

/-- prelude/codec.back -/
def s60 : S := (.seq (.ops [⟨(some 2), (.mv (.const (.int .u32 0))), (.int .u32), none⟩] [0])
 (.seq (.draw (.take 0 ⟨(some 3), (.mv (.tmp 0)), .sl, none⟩
  (.take 1 ⟨(some 4), (.ia 1 (.tmp 3) (.const (.int .i64 0))), .ptr, none⟩
  (.take 2 ⟨(some 5), (.ld1 (.tmp 4)), (.int .u8), none⟩
  (.take 3 ⟨(some 6), (.cv .u32 (.tmp 5)), (.int .u32), none⟩
  (.take 4 ⟨(some 7), (.mv (.tmp 0)), .sl, none⟩
  (.take 5 ⟨(some 8), (.ia 1 (.tmp 7) (.const (.int .i64 1))), .ptr, none⟩
  (.take 6 ⟨(some 9), (.ld1 (.tmp 8)), (.int .u8), none⟩
  (.take 7 ⟨(some 10), (.cv .u32 (.tmp 9)), (.int .u32), none⟩
  (.take 8 ⟨(some 11), (.bin .shl (.tmp 10) (.const (.int .u64 8))), (.int .u32), none⟩
  (.take 9 ⟨(some 12), (.bin .or (.tmp 6) (.tmp 11)), (.int .u32), none⟩
  (.take 10 ⟨(some 13), (.mv (.tmp 0)), .sl, none⟩
  (.take 11 ⟨(some 14), (.ia 1 (.tmp 13) (.const (.int .i64 2))), .ptr, none⟩
  (.take 12 ⟨(some 15), (.ld1 (.tmp 14)), (.int .u8), none⟩
  (.take 13 ⟨(some 16), (.cv .u32 (.tmp 15)), (.int .u32), none⟩
  (.take 14 ⟨(some 17), (.bin .shl (.tmp 16) (.const (.int .u64 16))), (.int .u32), none⟩
  (.take 15 ⟨(some 18), (.bin .or (.tmp 12) (.tmp 17)), (.int .u32), none⟩
  (.take 16 ⟨(some 19), (.mv (.tmp 0)), .sl, none⟩
  (.take 17 ⟨(some 20), (.ia 1 (.tmp 19) (.const (.int .i64 3))), .ptr, none⟩
  (.take 18 ⟨(some 21), (.ld1 (.tmp 20)), (.int .u8), none⟩
  (.take 19 ⟨(some 22), (.cv .u32 (.tmp 21)), (.int .u32), none⟩
  (.take 20 ⟨(some 23), (.bin .shl (.tmp 22) (.const (.int .u64 24))), (.int .u32), none⟩
  (.take 21 ⟨(some 24), (.bin .or (.tmp 18) (.tmp 23)), (.int .u32), none⟩
  (.take 22 ⟨(some 2), (.mv (.tmp 24)), (.int .u32), none⟩
  .done))))))))))))))))))))))) [2])
 .ret))
def r60 : List Res := [.t 2]
theorem tr60 : trS Tryd.prog [] 25 (Tryd.f60.body.getD .skip) s60 = some s60 := by kernel_rfl
theorem den60 (args : List Value) (w : World) (R : Ending → World → Prop) (hn : args.length ≤ 25) (h : denS Tryd.prog s60 (argsEnv 0 args) w (endK r60 R)) : Calls Tryd.prog 60 args.toArray w R :=
  calls_of_den (pn := []) (fn := Tryd.f60) (c := Tryd.f60.body.getD .skip) Tryd.func60 (by kernel_rfl) (by rw [Tryd.ntmps60]; exact hn) (by rw [Tryd.ntmps60]; exact tr60) (by kernel_rfl) h
def d60 (b0 : Option Addr) (b0n : Nat) (b0c : Nat) (w : World) (R : Ending → World → Prop) : Prop :=
 ∀ w1 : World, w1 = World.drew w →
 0 ≤ (0 : Int) ∧ (0 : Int) < ((b0n : Nat) : Int) ∧ optK b0 fun a2 =>
 ∃ x3 : Int, World.cell? w1 (Addr.add a2 (Int.toNat 0 * 1)) = some (.int .u8 x3) ∧
 0 ≤ (1 : Int) ∧ (1 : Int) < ((b0n : Nat) : Int) ∧ optK b0 fun a4 =>
 ∃ x5 : Int, World.cell? w1 (Addr.add a4 (Int.toNat 1 * 1)) = some (.int .u8 x5) ∧
 0 ≤ (8 : Int) ∧ 0 ≤ (2 : Int) ∧ (2 : Int) < ((b0n : Nat) : Int) ∧ optK b0 fun a6 =>
 ∃ x7 : Int, World.cell? w1 (Addr.add a6 (Int.toNat 2 * 1)) = some (.int .u8 x7) ∧
 0 ≤ (16 : Int) ∧ 0 ≤ (3 : Int) ∧ (3 : Int) < ((b0n : Nat) : Int) ∧ optK b0 fun a8 =>
 ∃ x9 : Int, World.cell? w1 (Addr.add a8 (Int.toNat 3 * 1)) = some (.int .u8 x9) ∧
 0 ≤ (24 : Int) ∧ R (.returned (.int .u32 (bOr .u32 (bOr .u32 (bOr .u32 (IntKind.wrap .u32 x3) (shL .u32 (IntKind.wrap .u32 x5) 8)) (shL .u32 (IntKind.wrap .u32 x7) 16)) (shL .u32 (IntKind.wrap .u32 x9) 24)))) w1
theorem e60 (b0 : Option Addr) (b0n : Nat) (b0c : Nat) (w : World) (R : Ending → World → Prop) : denS Tryd.prog s60 (argsEnv 0 [(.slice b0 b0n b0c)]) w (endK r60 R) = d60 b0 b0n b0c w R := by kernel_rfl
theorem c60 (b0 : Option Addr) (b0n : Nat) (b0c : Nat) {w : World} {R : Ending → World → Prop} (h : d60 b0 b0n b0c w R) : Calls Tryd.prog 60 #[(.slice b0 b0n b0c)] w R :=
  den60 [(.slice b0 b0n b0c)] w R (by simp) ((e60 b0 b0n b0c w R).symm ▸ h)

/-- prelude/codec.Seal -/
def s33 : S := (.seq (.ops [⟨(some 4), (.mv (.const (.slice none 0 0))), .sl, none⟩] [1, 0])
 (.seq (.seq (.ops [⟨(some 6), (.mv (.tmp 1)), .sl, none⟩,
  ⟨(some 7), (.len (.tmp 6)), (.int .i64), none⟩,
  ⟨(some 8), (.bin .gtr (.tmp 7) (.const (.int .i64 16777216))), .bool, none⟩] [8, 0, 1])
 (.cond (.tmp 8)
 (.seq (.ops [⟨(some 4), (.mv (.const (.slice none 0 0))), .sl, none⟩] [4])
 .ret)
 .skip))
 (.seq (.ops [⟨(some 9), (.mv (.tmp 0)), (.int .u8), none⟩,
  ⟨(some 10), (.bldS 5 1 1 [(0, (.tmp 9))]), .sl, none⟩,
  ⟨(some 11), (.mv (.tmp 1)), .sl, none⟩,
  ⟨(some 12), (.len (.tmp 11)), (.int .i64), none⟩,
  ⟨(some 13), (.cv .u32 (.tmp 12)), (.int .u32), none⟩,
  ⟨(some 14), (.call 69 [(.tmp 10), (.tmp 13)] [.sl]), .sl, none⟩,
  ⟨(some 5), (.mv (.tmp 14)), .sl, none⟩] [5, 1])
 (.seq (.ops [⟨(some 15), (.mv (.tmp 5)), .sl, none⟩,
  ⟨(some 16), (.mv (.tmp 5)), .sl, none⟩,
  ⟨(some 17), (.call 59 [(.tmp 16)] [(.int .u32)]), (.int .u32), none⟩,
  ⟨(some 18), (.call 69 [(.tmp 15), (.tmp 17)] [.sl]), .sl, none⟩,
  ⟨(some 5), (.mv (.tmp 18)), .sl, none⟩] [5, 1])
 (.seq (.ops [⟨(some 19), (.mv (.tmp 5)), .sl, none⟩,
  ⟨(some 20), (.mv (.tmp 1)), .sl, none⟩,
  ⟨(some 21), (.app #[22, 22] 22 (.tmp 19) (.tmp 20)), .sl, none⟩,
  ⟨(some 5), (.mv (.tmp 21)), .sl, none⟩] [5, 1])
 (.seq (.ops [⟨(some 22), (.mv (.tmp 5)), .sl, none⟩,
  ⟨(some 23), (.mv (.tmp 1)), .sl, none⟩,
  ⟨(some 24), (.call 59 [(.tmp 23)] [(.int .u32)]), (.int .u32), none⟩,
  ⟨(some 25), (.call 69 [(.tmp 22), (.tmp 24)] [.sl]), .sl, none⟩,
  ⟨(some 4), (.mv (.tmp 25)), .sl, none⟩] [4])
 .ret))))))
def r33 : List Res := [.t 4]
theorem tr33 : trS Tryd.prog [] 26 (Tryd.f33.body.getD .skip) s33 = some s33 := by kernel_rfl
theorem den33 (args : List Value) (w : World) (R : Ending → World → Prop) (hn : args.length ≤ 26) (h : denS Tryd.prog s33 (argsEnv 0 args) w (endK r33 R)) : Calls Tryd.prog 33 args.toArray w R :=
  calls_of_den (pn := []) (fn := Tryd.f33) (c := Tryd.f33.body.getD .skip) Tryd.func33 (by kernel_rfl) (by rw [Tryd.ntmps33]; exact hn) (by rw [Tryd.ntmps33]; exact tr33) (by kernel_rfl) h
def d33 (kind0 : Int) (load1 : Option Addr) (load1n : Nat) (load1c : Nat) (w : World) (R : Ending → World → Prop) : Prop :=
 (bif (decide (16777216 < ((load1n : Nat) : Int))) then
 (R (.returned (.slice none 0 0)) w)
 else
 (∃ cs2, fillL (.elems 1) (zrep (zc Tryd.prog 5) (1 * 1)) [(0, (.int .u8 kind0))] = some cs2 ∧
 ∀ w3 : World, w3 = World.alloc w (.cells (List.toArray cs2) 5) →
 Calls Tryd.prog 69 #[(.slice (some ⟨World.heap w |>.size, 0, none⟩) 1 1), (.int .u32 (IntKind.wrap .u32 ((load1n : Nat) : Int)))] w3 fun e4 w5 => ∃ (x6 : Option Addr) (x6n : Nat) (x6c : Nat), e4 = .returned (.slice x6 x6n x6c) ∧
 Calls Tryd.prog 59 #[(.slice x6 x6n x6c)] w5 fun e7 w8 => ∃ x9 : Int, e7 = .returned (.int .u32 x9) ∧
 Calls Tryd.prog 69 #[(.slice x6 x6n x6c), (.int .u32 x9)] w8 fun e10 w11 => ∃ (x12 : Option Addr) (x12n : Nat) (x12c : Nat), e10 = .returned (.slice x12 x12n x12c) ∧
 RunV Tryd.prog (Builtin.append_ #[22, 22] 22 #[(.slice x12 x12n x12c), (.slice load1 load1n load1c)]) w11 fun v13 w14 => ∃ (x15 : Option Addr) (x15n : Nat) (x15c : Nat), v13 = (.slice x15 x15n x15c) ∧
 Calls Tryd.prog 59 #[(.slice load1 load1n load1c)] w14 fun e16 w17 => ∃ x18 : Int, e16 = .returned (.int .u32 x18) ∧
 Calls Tryd.prog 69 #[(.slice x15 x15n x15c), (.int .u32 x18)] w17 fun e19 w20 => ∃ (x21 : Option Addr) (x21n : Nat) (x21c : Nat), e19 = .returned (.slice x21 x21n x21c) ∧
 R (.returned (.slice x21 x21n x21c)) w20))
theorem e33 (kind0 : Int) (load1 : Option Addr) (load1n : Nat) (load1c : Nat) (w : World) (R : Ending → World → Prop) : denS Tryd.prog s33 (argsEnv 0 [(.int .u8 kind0), (.slice load1 load1n load1c)]) w (endK r33 R) = d33 kind0 load1 load1n load1c w R := by kernel_rfl
theorem c33 (kind0 : Int) (load1 : Option Addr) (load1n : Nat) (load1c : Nat) {w : World} {R : Ending → World → Prop} (h : d33 kind0 load1 load1n load1c w R) : Calls Tryd.prog 33 #[(.int .u8 kind0), (.slice load1 load1n load1c)] w R :=
  den33 [(.int .u8 kind0), (.slice load1 load1n load1c)] w R (by simp) ((e33 kind0 load1 load1n load1c w R).symm ▸ h)

/-- prelude/codec.Unseal -/
def s25 : S := (.seq (.ops [⟨(some 4), (.mv (.const (.int .u8 0))), (.int .u8), none⟩,
  ⟨(some 5), (.mv (.const (.slice none 0 0))), .sl, none⟩,
  ⟨(some 6), (.mv (.const (.int .i64 0))), (.int .i64), none⟩,
  ⟨(some 7), (.mv (.const (.int .i64 0))), (.int .i64), none⟩] [1, 0])
 (.join [] [0, 1]
 (.seq (.ops [⟨(some 11), (.mv (.tmp 1)), (.int .i64), none⟩,
  ⟨(some 12), (.bin .lss (.tmp 11) (.const (.int .i64 0))), .bool, none⟩,
  ⟨(some 13), (.mv (.tmp 12)), .bool, none⟩,
  ⟨(some 14), (.mv (.tmp 1)), (.int .i64), (some (13, false))⟩,
  ⟨(some 15), (.mv (.tmp 0)), .sl, (some (13, false))⟩,
  ⟨(some 16), (.len (.tmp 15)), (.int .i64), (some (13, false))⟩,
  ⟨(some 17), (.bin .gtr (.tmp 14) (.tmp 16)), .bool, (some (13, false))⟩,
  ⟨(some 18), (.pick (.tmp 13) (.const (.bool true)) (.tmp 17)), .bool, none⟩] [18, 0, 1])
 (.cond (.tmp 18)
 (.seq (.ops [⟨(some 4), (.mv (.const (.int .u8 0))), (.int .u8), none⟩,
  ⟨(some 5), (.mv (.const (.slice none 0 0))), .sl, none⟩,
  ⟨(some 6), (.mv (.const (.int .i64 0))), (.int .i64), none⟩,
  ⟨(some 7), (.mv (.const (.int .i64 11))), (.int .i64), none⟩] [4, 5, 6, 7])
 .ret)
 .skip))
 (.seq (.ops [⟨(some 19), (.mv (.tmp 0)), .sl, none⟩,
  ⟨(some 20), (.mv (.tmp 1)), (.int .i64), none⟩,
  ⟨(some 21), (.slS 1 (.tmp 19) (some (.tmp 20)) none none), .sl, none⟩,
  ⟨(some 8), (.mv (.tmp 21)), .sl, none⟩] [8, 1])
 (.seq (.seq (.ops [⟨(some 22), (.mv (.tmp 8)), .sl, none⟩,
  ⟨(some 23), (.len (.tmp 22)), (.int .i64), none⟩,
  ⟨(some 24), (.bin .lss (.tmp 23) (.const (.int .i64 9))), .bool, none⟩] [24, 8, 1])
 (.cond (.tmp 24)
 (.seq (.ops [⟨(some 4), (.mv (.const (.int .u8 0))), (.int .u8), none⟩,
  ⟨(some 5), (.mv (.const (.slice none 0 0))), .sl, none⟩,
  ⟨(some 6), (.mv (.const (.int .i64 0))), (.int .i64), none⟩,
  ⟨(some 7), (.mv (.const (.int .i64 10))), (.int .i64), none⟩] [4, 5, 6, 7])
 .ret)
 .skip))
 (.seq (.seq (.draw (.take 0 ⟨(some 25), (.mv (.tmp 8)), .sl, none⟩
  (.take 1 ⟨(some 26), (.slS 1 (.tmp 25) none (some (.const (.int .i64 5))) none), .sl, none⟩
  (.take 3 ⟨(some 28), (.mv (.tmp 8)), .sl, none⟩
  (.take 4 ⟨(some 29), (.slS 1 (.tmp 28) (some (.const (.int .i64 5))) (some (.const (.int .i64 9))) none), .sl, none⟩
  (.go 2 ⟨(some 27), (.call 59 [(.tmp 26)] [(.int .u32)]), (.int .u32), none⟩ []
  (.go 5 ⟨(some 30), (.call 60 [(.tmp 29)] [(.int .u32)]), (.int .u32), none⟩ []
  (.take 6 ⟨(some 31), (.bin .neq (.tmp 27) (.tmp 30)), .bool, none⟩
  .done))))))) [31, 8, 1])
 (.cond (.tmp 31)
 (.seq (.ops [⟨(some 4), (.mv (.const (.int .u8 0))), (.int .u8), none⟩,
  ⟨(some 5), (.mv (.const (.slice none 0 0))), .sl, none⟩,
  ⟨(some 6), (.mv (.const (.int .i64 0))), (.int .i64), none⟩,
  ⟨(some 7), (.mv (.const (.int .i64 13))), (.int .i64), none⟩] [4, 5, 6, 7])
 .ret)
 .skip))
 (.seq (.ops [⟨(some 32), (.mv (.tmp 8)), .sl, none⟩,
  ⟨(some 33), (.slS 1 (.tmp 32) (some (.const (.int .i64 1))) (some (.const (.int .i64 5))) none), .sl, none⟩,
  ⟨(some 34), (.call 60 [(.tmp 33)] [(.int .u32)]), (.int .u32), none⟩,
  ⟨(some 9), (.mv (.tmp 34)), (.int .u32), none⟩] [9, 8, 1])
 (.seq (.seq (.ops [⟨(some 35), (.mv (.tmp 9)), (.int .u32), none⟩,
  ⟨(some 36), (.bin .gtr (.tmp 35) (.const (.int .u32 16777216))), .bool, none⟩] [36, 8, 9, 1])
 (.cond (.tmp 36)
 (.seq (.ops [⟨(some 4), (.mv (.const (.int .u8 0))), (.int .u8), none⟩,
  ⟨(some 5), (.mv (.const (.slice none 0 0))), .sl, none⟩,
  ⟨(some 6), (.mv (.const (.int .i64 0))), (.int .i64), none⟩,
  ⟨(some 7), (.mv (.const (.int .i64 12))), (.int .i64), none⟩] [4, 5, 6, 7])
 .ret)
 .skip))
 (.seq (.seq (.ops [⟨(some 37), (.mv (.tmp 8)), .sl, none⟩,
  ⟨(some 38), (.len (.tmp 37)), (.int .i64), none⟩,
  ⟨(some 39), (.mv (.tmp 9)), (.int .u32), none⟩,
  ⟨(some 40), (.cv .i64 (.tmp 39)), (.int .i64), none⟩,
  ⟨(some 41), (.bin .add (.const (.int .i64 13)) (.tmp 40)), (.int .i64), none⟩,
  ⟨(some 42), (.bin .lss (.tmp 38) (.tmp 41)), .bool, none⟩] [42, 8, 9, 1])
 (.cond (.tmp 42)
 (.seq (.ops [⟨(some 4), (.mv (.const (.int .u8 0))), (.int .u8), none⟩,
  ⟨(some 5), (.mv (.const (.slice none 0 0))), .sl, none⟩,
  ⟨(some 6), (.mv (.const (.int .i64 0))), (.int .i64), none⟩,
  ⟨(some 7), (.mv (.const (.int .i64 10))), (.int .i64), none⟩] [4, 5, 6, 7])
 .ret)
 .skip))
 (.seq (.ops [⟨(some 43), (.mv (.tmp 8)), .sl, none⟩,
  ⟨(some 44), (.mv (.tmp 9)), (.int .u32), none⟩,
  ⟨(some 45), (.cv .i64 (.tmp 44)), (.int .i64), none⟩,
  ⟨(some 46), (.bin .add (.const (.int .i64 9)) (.tmp 45)), (.int .i64), none⟩,
  ⟨(some 47), (.slS 1 (.tmp 43) (some (.const (.int .i64 9))) (some (.tmp 46)) none), .sl, none⟩,
  ⟨(some 10), (.mv (.tmp 47)), .sl, none⟩] [10, 8, 9, 1])
 (.seq (.seq (.draw (.take 0 ⟨(some 48), (.mv (.tmp 10)), .sl, none⟩
  (.take 2 ⟨(some 50), (.mv (.tmp 8)), .sl, none⟩
  (.take 3 ⟨(some 51), (.mv (.tmp 9)), (.int .u32), none⟩
  (.take 4 ⟨(some 52), (.cv .i64 (.tmp 51)), (.int .i64), none⟩
  (.take 5 ⟨(some 53), (.bin .add (.const (.int .i64 9)) (.tmp 52)), (.int .i64), none⟩
  (.take 6 ⟨(some 54), (.slS 1 (.tmp 50) (some (.tmp 53)) none none), .sl, none⟩
  (.go 1 ⟨(some 49), (.call 59 [(.tmp 48)] [(.int .u32)]), (.int .u32), none⟩ []
  (.go 7 ⟨(some 55), (.call 60 [(.tmp 54)] [(.int .u32)]), (.int .u32), none⟩ []
  (.take 8 ⟨(some 56), (.bin .neq (.tmp 49) (.tmp 55)), .bool, none⟩
  .done))))))))) [56, 8, 10, 1, 9])
 (.cond (.tmp 56)
 (.seq (.ops [⟨(some 4), (.mv (.const (.int .u8 0))), (.int .u8), none⟩,
  ⟨(some 5), (.mv (.const (.slice none 0 0))), .sl, none⟩,
  ⟨(some 6), (.mv (.const (.int .i64 0))), (.int .i64), none⟩,
  ⟨(some 7), (.mv (.const (.int .i64 13))), (.int .i64), none⟩] [4, 5, 6, 7])
 .ret)
 .skip))
 (.seq (.draw (.take 0 ⟨(some 57), (.mv (.tmp 8)), .sl, none⟩
  (.take 1 ⟨(some 58), (.ia 1 (.tmp 57) (.const (.int .i64 0))), .ptr, none⟩
  (.take 2 ⟨(some 59), (.ld1 (.tmp 58)), (.int .u8), none⟩
  (.take 3 ⟨(some 60), (.mv (.tmp 10)), .sl, none⟩
  (.take 5 ⟨(some 62), (.mv (.tmp 1)), (.int .i64), none⟩
  (.take 6 ⟨(some 63), (.bin .add (.tmp 62) (.const (.int .i64 13))), (.int .i64), none⟩
  (.take 7 ⟨(some 64), (.mv (.tmp 9)), (.int .u32), none⟩
  (.take 8 ⟨(some 65), (.cv .i64 (.tmp 64)), (.int .i64), none⟩
  (.take 9 ⟨(some 66), (.bin .add (.tmp 63) (.tmp 65)), (.int .i64), none⟩
  (.go 4 ⟨(some 61), (.call 61 [(.tmp 60)] [.sl]), .sl, none⟩ [(2, ⟨(some 59), (.ld1 (.tmp 58)), (.int .u8), none⟩)]
  (.take 10 ⟨(some 4), (.mv (.tmp 59)), (.int .u8), none⟩
  (.take 11 ⟨(some 5), (.mv (.tmp 61)), .sl, none⟩
  (.take 12 ⟨(some 6), (.mv (.tmp 66)), (.int .i64), none⟩
  (.take 13 ⟨(some 7), (.mv (.const (.int .i64 0))), (.int .i64), none⟩
  .done)))))))))))))) [4, 5, 6, 7])
 .ret)))))))))))
def r25 : List Res := [.t 4, .t 5, .t 6, .t 7]
theorem tr25 : trS Tryd.prog [] 67 (Tryd.f25.body.getD .skip) s25 = some s25 := by kernel_rfl
theorem den25 (args : List Value) (w : World) (R : Ending → World → Prop) (hn : args.length ≤ 67) (h : denS Tryd.prog s25 (argsEnv 0 args) w (endK r25 R)) : Calls Tryd.prog 25 args.toArray w R :=
  calls_of_den (pn := []) (fn := Tryd.f25) (c := Tryd.f25.body.getD .skip) Tryd.func25 (by kernel_rfl) (by rw [Tryd.ntmps25]; exact hn) (by rw [Tryd.ntmps25]; exact tr25) (by kernel_rfl) h
def d25 (b0 : Option Addr) (b0n : Nat) (b0c : Nat) (at1 : Int) (w : World) (R : Ending → World → Prop) : Prop :=
 ∃ J2 : World → Prop,
 ((bif (decide (at1 < 0)) then
 (R (.returned (.tuple #[(.int .u8 0), (.slice none 0 0), (.int .i64 0), (.int .i64 11)])) w)
 else
 ((bif (decide (((b0n : Nat) : Int) < at1)) then
 (R (.returned (.tuple #[(.int .u8 0), (.slice none 0 0), (.int .i64 0), (.int .i64 11)])) w)
 else
 (J2  w))))) ∧
 (∀ (w3 : World), J2  w3 →
 0 ≤ at1 ∧ at1 ≤ ((b0n : Nat) : Int) ∧ (bif (decide ((((b0n - (Int.toNat at1)) : Nat) : Int) < 9)) then
 (R (.returned (.tuple #[(.int .u8 0), (.slice none 0 0), (.int .i64 0), (.int .i64 10)])) w3)
 else
 (∀ w4 : World, w4 = World.drew w3 →
 0 ≤ (5 : Int) ∧ (5 : Int) ≤ (((b0c - (Int.toNat at1)) : Nat) : Int) ∧ 0 ≤ (9 : Int) ∧ (9 : Int) ≤ (((b0c - (Int.toNat at1)) : Nat) : Int) ∧ 0 ≤ (5 : Int) ∧ (5 : Int) ≤ (((Int.toNat 9) : Nat) : Int) ∧ Calls Tryd.prog 59 #[(.slice (if (b0c - (Int.toNat at1)) = 0 then (if b0c = (Int.toNat at1) then b0 else Option.map (fun y => Addr.add y ((Int.toNat at1) * 1)) b0) else Option.map (fun y => Addr.add y (0 * 1)) (if b0c = (Int.toNat at1) then b0 else Option.map (fun y => Addr.add y ((Int.toNat at1) * 1)) b0)) ((Int.toNat 5) - 0) ((b0c - (Int.toNat at1)) - 0))] w4 fun e5 w6 => ∃ x7 : Int, e5 = .returned (.int .u32 x7) ∧
 Calls Tryd.prog 60 #[(.slice (if (b0c - (Int.toNat at1)) = (Int.toNat 5) then (if b0c = (Int.toNat at1) then b0 else Option.map (fun y => Addr.add y ((Int.toNat at1) * 1)) b0) else Option.map (fun y => Addr.add y ((Int.toNat 5) * 1)) (if b0c = (Int.toNat at1) then b0 else Option.map (fun y => Addr.add y ((Int.toNat at1) * 1)) b0)) ((Int.toNat 9) - (Int.toNat 5)) ((b0c - (Int.toNat at1)) - (Int.toNat 5)))] w6 fun e8 w9 => ∃ x10 : Int, e8 = .returned (.int .u32 x10) ∧
 (bif (!decide (x7 = x10)) then
 (R (.returned (.tuple #[(.int .u8 0), (.slice none 0 0), (.int .i64 0), (.int .i64 13)])) w9)
 else
 (0 ≤ (5 : Int) ∧ (5 : Int) ≤ (((b0c - (Int.toNat at1)) : Nat) : Int) ∧ 0 ≤ (1 : Int) ∧ (1 : Int) ≤ (((Int.toNat 5) : Nat) : Int) ∧ Calls Tryd.prog 60 #[(.slice (if (b0c - (Int.toNat at1)) = (Int.toNat 1) then (if b0c = (Int.toNat at1) then b0 else Option.map (fun y => Addr.add y ((Int.toNat at1) * 1)) b0) else Option.map (fun y => Addr.add y ((Int.toNat 1) * 1)) (if b0c = (Int.toNat at1) then b0 else Option.map (fun y => Addr.add y ((Int.toNat at1) * 1)) b0)) ((Int.toNat 5) - (Int.toNat 1)) ((b0c - (Int.toNat at1)) - (Int.toNat 1)))] w9 fun e11 w12 => ∃ x13 : Int, e11 = .returned (.int .u32 x13) ∧
 (bif (decide (16777216 < x13)) then
 (R (.returned (.tuple #[(.int .u8 0), (.slice none 0 0), (.int .i64 0), (.int .i64 12)])) w12)
 else
 ((bif (decide ((((b0n - (Int.toNat at1)) : Nat) : Int) < (IntKind.wrap .i64 (13 + (IntKind.wrap .i64 x13))))) then
 (R (.returned (.tuple #[(.int .u8 0), (.slice none 0 0), (.int .i64 0), (.int .i64 10)])) w12)
 else
 (0 ≤ (IntKind.wrap .i64 (9 + (IntKind.wrap .i64 x13))) ∧ (IntKind.wrap .i64 (9 + (IntKind.wrap .i64 x13))) ≤ (((b0c - (Int.toNat at1)) : Nat) : Int) ∧ 0 ≤ (9 : Int) ∧ (9 : Int) ≤ (((Int.toNat (IntKind.wrap .i64 (9 + (IntKind.wrap .i64 x13)))) : Nat) : Int) ∧ ∀ w14 : World, w14 = World.drew w12 →
 0 ≤ (IntKind.wrap .i64 (9 + (IntKind.wrap .i64 x13))) ∧ (IntKind.wrap .i64 (9 + (IntKind.wrap .i64 x13))) ≤ (((b0n - (Int.toNat at1)) : Nat) : Int) ∧ Calls Tryd.prog 59 #[(.slice (if (b0c - (Int.toNat at1)) = (Int.toNat 9) then (if b0c = (Int.toNat at1) then b0 else Option.map (fun y => Addr.add y ((Int.toNat at1) * 1)) b0) else Option.map (fun y => Addr.add y ((Int.toNat 9) * 1)) (if b0c = (Int.toNat at1) then b0 else Option.map (fun y => Addr.add y ((Int.toNat at1) * 1)) b0)) ((Int.toNat (IntKind.wrap .i64 (9 + (IntKind.wrap .i64 x13)))) - (Int.toNat 9)) ((b0c - (Int.toNat at1)) - (Int.toNat 9)))] w14 fun e15 w16 => ∃ x17 : Int, e15 = .returned (.int .u32 x17) ∧
 Calls Tryd.prog 60 #[(.slice (if (b0c - (Int.toNat at1)) = (Int.toNat (IntKind.wrap .i64 (9 + (IntKind.wrap .i64 x13)))) then (if b0c = (Int.toNat at1) then b0 else Option.map (fun y => Addr.add y ((Int.toNat at1) * 1)) b0) else Option.map (fun y => Addr.add y ((Int.toNat (IntKind.wrap .i64 (9 + (IntKind.wrap .i64 x13)))) * 1)) (if b0c = (Int.toNat at1) then b0 else Option.map (fun y => Addr.add y ((Int.toNat at1) * 1)) b0)) ((b0n - (Int.toNat at1)) - (Int.toNat (IntKind.wrap .i64 (9 + (IntKind.wrap .i64 x13))))) ((b0c - (Int.toNat at1)) - (Int.toNat (IntKind.wrap .i64 (9 + (IntKind.wrap .i64 x13))))))] w16 fun e18 w19 => ∃ x20 : Int, e18 = .returned (.int .u32 x20) ∧
 (bif (!decide (x17 = x20)) then
 (R (.returned (.tuple #[(.int .u8 0), (.slice none 0 0), (.int .i64 0), (.int .i64 13)])) w19)
 else
 (∀ w21 : World, w21 = World.drew w19 →
 0 ≤ (0 : Int) ∧ (0 : Int) < (((b0n - (Int.toNat at1)) : Nat) : Int) ∧ optK (if b0c = (Int.toNat at1) then b0 else Option.map (fun y => Addr.add y ((Int.toNat at1) * 1)) b0) fun a22 =>
 ∃ x23 : Int, World.cell? w21 (Addr.add a22 (Int.toNat 0 * 1)) = some (.int .u8 x23) ∧
 Calls Tryd.prog 61 #[(.slice (if (b0c - (Int.toNat at1)) = (Int.toNat 9) then (if b0c = (Int.toNat at1) then b0 else Option.map (fun y => Addr.add y ((Int.toNat at1) * 1)) b0) else Option.map (fun y => Addr.add y ((Int.toNat 9) * 1)) (if b0c = (Int.toNat at1) then b0 else Option.map (fun y => Addr.add y ((Int.toNat at1) * 1)) b0)) ((Int.toNat (IntKind.wrap .i64 (9 + (IntKind.wrap .i64 x13)))) - (Int.toNat 9)) ((b0c - (Int.toNat at1)) - (Int.toNat 9)))] w21 fun e24 w25 => ∃ (x26 : Option Addr) (x26n : Nat) (x26c : Nat), e24 = .returned (.slice x26 x26n x26c) ∧
 (∃ z27 : Int, World.cell? w25 (Addr.add a22 (Int.toNat 0 * 1)) = some (.int .u8 z27) ∧
 (((.int .u8 z27) : Value) = (.int .u8 x23) ∧ w25 = w25)) ∧
 R (.returned (.tuple #[(.int .u8 x23), (.slice x26 x26n x26c), (.int .i64 (IntKind.wrap .i64 ((IntKind.wrap .i64 (at1 + 13)) + (IntKind.wrap .i64 x13)))), (.int .i64 0)])) w25)))))))))))
theorem e25 (b0 : Option Addr) (b0n : Nat) (b0c : Nat) (at1 : Int) (w : World) (R : Ending → World → Prop) : denS Tryd.prog s25 (argsEnv 0 [(.slice b0 b0n b0c), (.int .i64 at1)]) w (endK r25 R) = d25 b0 b0n b0c at1 w R := by kernel_rfl
theorem c25 (b0 : Option Addr) (b0n : Nat) (b0c : Nat) (at1 : Int) {w : World} {R : Ending → World → Prop} (h : d25 b0 b0n b0c at1 w R) : Calls Tryd.prog 25 #[(.slice b0 b0n b0c), (.int .i64 at1)] w R :=
  den25 [(.slice b0 b0n b0c), (.int .i64 at1)] w R (by simp) ((e25 b0 b0n b0c at1 w R).symm ▸ h)

end Go.Proofs.YtjchneebdlncfaaDoor.Fn
namespace Go.Proofs.YtjchneebdlncfaaDoor.Den
open Go
open Go.RowKit (Below)
/-- The block of an owned row, if it has one. -/
def rowL (a : Option Addr) : List Nat := (a.map (·.block)).toList
theorem mem_rowL {a : Option Addr} {k : Nat} : k ∈ rowL a ↔ blkOf a k := by
  cases a with
  | none => simp [rowL, blkOf]
  | some x => simp [rowL, blkOf, eq_comm]
/-- The new slice lies where the old one lay, or in a block made since. -/
def Moved (a a' : Option Addr) (N : Nat) : Prop := ∀ x, a' = some x → x.block ∈ rowL a ∨ N ≤ x.block
theorem Moved.refl (a : Option Addr) (N : Nat) : Moved a a N := fun x hx => .inl (by rw [hx]; simp [rowL])
theorem Moved.trans {a b c : Option Addr} {N M : Nat} (h : Moved a b N) (k : Moved b c M) (hNM : N ≤ M) : Moved a c N := fun x hx => by
  rcases k x hx with hk | hk
  · rw [mem_rowL] at hk
    obtain ⟨y, hy, he⟩ := hk
    rw [← he]
    exact h y hy
  · exact .inr (by omega)
theorem Moved.off {a a' : Option Addr} {N : Nat} (h : Moved a a' N) {s : List Nat} (ha : Off s a) (hs : ∀ k ∈ s, k < N) : Off s a' := fun x hx hm => by
  rcases h x hx with hk | hk
  · rw [mem_rowL] at hk
    obtain ⟨y, hy, he⟩ := hk
    exact ha y hy (he ▸ hm)
  · have := hs _ hm; omega
theorem own_ge {w : World} {base e size : Nat} {a : Option Addr} {m n c : Nat} {xs : List Value} (h : w.ownsRow base e size (.slice a m c) n xs) : ∀ x, a = some x → base ≤ x.block ∧ x.block < w.heap.size := by
  intro x hx
  subst hx
  exact own_lt h rfl
theorem app_at {P : Program} {t e ty : TypeId} {size bytes : Nat} (hT : slT P t e size bytes = true) {w : World} {base : Nat} {a : Option Addr} {n c : Nat} {xs : List Value} (hown : w.ownsRow base e size (.slice a n c) n xs)
    {b : Option Addr} {m mc : Nat} {ys : List Value} (hy : RSl w size b m mc ys) (hb : base ≤ w.heap.size) (hlen : n + m ≤ 9223372036854775807) (hbytes : (n + m) * bytes ≤ 140737488355328) {K : Option Addr → Nat → Nat → World → Prop}
    (hK : ∀ a' c' w', w'.ownsRow base e size (.slice a' (n + m) c') (n + m) (xs ++ ys) → Tch (rowL a) w w' → Moved a a' w.heap.size → K a' (n + m) c' w') :
    RunV P (Builtin.append_ #[t, t] ty #[.slice a n c, .slice b m mc]) w fun v w' => ∃ (x : Option Addr) (xn : Nat) (xc : Nat), v = (.slice x xn xc) ∧ K x xn xc w' := by
  obtain ⟨h1, h2, i, z, h3, h4, h5, h6, h7⟩ := slT_spec hT
  obtain ⟨rfl, hc⟩ | ⟨ad, rfl, hcells⟩ := hy.from
  · have hm : m = 0 := by have := hy.cap; omega
    subst hm; subst hc
    have hys : ys = [] := by have := hy.len; rw [Nat.zero_mul] at this; exact List.length_eq_zero_iff.1 this
    subst hys
    refine ⟨_, _, run_append_owned_none w base t ty e i size h1 h3 _ n xs hown, a, n, c, rfl, ?_⟩
    have := hK a c w (by simpa using hown) (Tch.refl _ _) (Moved.refl _ _)
    simpa using this
  · obtain ⟨v', w', r1, r2, r3, r4, r5⟩ := run_append_own_at (P := P) w base t ty e i z size bytes h1 h3 h4 h5 h6 h7 h2 (.slice a n c) n xs hown ad m mc ys hy.len hcells (ones_cells.1 hy.ones) (by unfold maxLen; omega) hbytes hb
    have hv : ∃ a' c', v' = .slice a' (n + m) c' := by
      rcases r2.2 with ⟨rfl, h0⟩ | ⟨g, cap, cur, rfl, _⟩
      · exact ⟨none, 0, by rw [h0]⟩
      · exact ⟨_, _, rfl⟩
    obtain ⟨a', c', rfl⟩ := hv
    refine ⟨_, _, r1, a', _, c', rfl, hK a' c' w' r2 ?_ ?_⟩
    · refine (Tch.refl _ _).grown r3 fun k hk => .inl ?_
      rw [mem_rowL]
      cases a with
      | none => cases hk
      | some x => exact ⟨x, rfl, by simpa [Value.ownBlock] using hk⟩
    · intro x hx
      subst hx
      rcases r5 with h | h
      · cases a with
        | none => cases h
        | some y =>
          left
          rw [mem_rowL]
          exact ⟨y, rfl, by simpa [Value.ownBlock] using h.symm⟩
      · right
        have : x.block = w.heap.size := by simpa [Value.ownBlock] using h
        omega
/-- append of one element: the row of one element is laid first. -/
theorem app_elem_at {P : Program} {t e ty : TypeId} {size bytes : Nat} (hT : slT P t e size bytes = true) {w : World} {base : Nat} {a : Option Addr} {n c : Nat} {xs : List Value} (hown : w.ownsRow base e size (.slice a n c) n xs)
    {z : List Value} (hz : z.length = 1 * size) {v : Value} {ys : List Value} (hv : v.cells = ys.toArray) (hl : ys.length = size) (h1 : ∀ u ∈ ys, one u = true)
    (hb : base ≤ w.heap.size) (hlen : n < 9223372036854775807) (hbytes : (n + 1) * bytes ≤ 140737488355328) {K : Option Addr → Nat → Nat → World → Prop}
    (hK : ∀ a' c' w', w'.ownsRow base e size (.slice a' (n + 1) c') (n + 1) (xs ++ ys) → Tch (rowL a) w w' → Moved a a' w.heap.size → K a' (n + 1) c' w') :
    ∃ cs, fillL (.elems size) z [(0, v)] = some cs ∧ ∀ w1 : World, w1 = World.alloc w (.cells (List.toArray cs) e) →
      RunV P (Builtin.append_ #[t, t] ty #[.slice a n c, .slice (some ⟨World.heap w |>.size, 0, none⟩) 1 1]) w1 fun v w' => ∃ (x : Option Addr) (xn : Nat) (xc : Nat), v = (.slice x xn xc) ∧ K x xn xc w' := by
  refine ⟨ys, fill1 (by omega) hv hl, ?_⟩
  rintro w1 rfl
  have hr : RSl (w.alloc (.cells ys.toArray e)) size (some ⟨w.heap.size, 0, none⟩) 1 1 ys := (Blk.fresh w e rfl).rsl (by omega) h1
  refine app_at hT (own_alloc hown _) hr (by rw [size_alloc]; omega) (by omega) hbytes fun a' c' w' h2 h3 h4 => hK a' c' w' h2 ?_ ?_
  · exact ((Tch.refl (rowL a) w).alloc _).trans h3 fun i hi => .inl hi
  · intro x hx
    rcases h4 x hx with h | h
    · exact .inl h
    · rw [size_alloc] at h; exact .inr (by omega)
theorem tch_base {s : List Nat} {w w' : World} {B : Nat} (h : Tch s w w') (hB : B ≤ w.heap.size) (hs : ∀ i ∈ s, B ≤ i) : Below B w w' := h.below' hB hs
theorem rowL_ge {w : World} {base e size : Nat} {a : Option Addr} {m n c : Nat} {xs : List Value} (h : w.ownsRow base e size (.slice a m c) n xs) : ∀ i ∈ rowL a, base ≤ i ∧ i < w.heap.size := by
  intro i hi
  rw [mem_rowL] at hi
  obtain ⟨x, hx, rfl⟩ := hi
  exact own_ge h x hx
end Go.Proofs.YtjchneebdlncfaaDoor.Den
namespace Go.Proofs.YtjchneebdlncfaaDoor.Lib
open Go Den Fn
open Go.RowKit (Below)
set_option maxRecDepth 8000
set_option maxHeartbeats 1000000
/-- What the table is. -/
def Tab (w : World) : Prop := Cells w ⟨0, 0, none⟩ (halves.map (Value.int .u32))
theorem cells_tch {w w' : World} {b o : Nat} {cs : List Value} {s : List Nat} (h : Cells w ⟨b, o, none⟩ cs) (ht : Tch s w w') (hb : b ∉ s) : Cells w' ⟨b, o, none⟩ cs := fun i v hv => by
  have := h i v hv
  rw [add_mk] at this ⊢
  rw [World.cell?_of_block (w := w) (ht.block b (World.block_lt_of_cell? _ _ this) hb)]
  exact this
theorem Tab.tch {w w' : World} {s : List Nat} (h : Tab w) (ht : Tch s w w') (hs : 0 ∉ s) : Tab w' := cells_tch h ht hs
theorem Tab.get {w : World} (h : Tab w) {i : Nat} (hi : i < 16) : w.cell? ⟨0, i, none⟩ = some (.int .u32 (halves.getD i 0)) := by
  have := h i (.int .u32 (halves.getD i 0)) (by rw [ints_get (by exact hi)])
  rwa [add_mk, Nat.zero_add] at this
theorem tab_elem {w : World} (h : Tab w) {i : Int} (h0 : 0 ≤ i) (h1 : i < 16) {K : Int → Prop} (hK : K (halves.getD i.toNat 0)) :
    ∃ y : Int, World.cell? w (Addr.add ⟨0, 0, none⟩ (Int.toNat i * 1)) = some (.int .u32 y) ∧ K y := by
  refine ⟨_, ?_, hK⟩
  rw [add_mk, Nat.zero_add, Nat.mul_one]
  exact h.get (by omega)
theorem ofInt_u32 {c : Int} (h0 : 0 ≤ c) (h1 : c < 256) : ((BitVec.ofInt 32 c).toNat : Int) = c := by
  rw [toNat_ofInt h0 (by omega)]; omega
theorem u8_elem {w : World} {a : Option Addr} {n c : Nat} {bs : List Int} (h : RSl w 1 a n c (u8 bs)) {i : Nat} (hi : i < n) {K : Int → Prop} (hK : K (bs.getD i 0)) :
    optK a fun x => ∃ y : Int, World.cell? w (Addr.add x (i * 1)) = some (.int .u8 y) ∧ K y := by
  obtain ⟨b, o, rfl, g⟩ := h.int hi
  refine ⟨_, ?_, hK⟩
  rw [add_mk, Nat.mul_one]
  exact g
theorem sum_c (w : World) (bs : List Int) (a : Option Addr) (n c : Nat) (hr : RSl w 1 a n c (u8 bs)) (hB : Bytes bs) (hN : n ≤ 140737488355328) (hT : Tab w) :
    Calls Tryd.prog 59 #[.slice a n c] w fun e w' => e = .returned (.int .u32 (crc bs)) ∧ w' = w := by
  have hn := u8_len hr
  refine c59 _ _ _ ?_
  unfold d59
  refine ⟨fun m s x w' => ∃ i : Nat, i ≤ n ∧ x = i ∧ s = ((crcF (bs.take i)).toNat : Int) ∧ m = n - i ∧ w' = w, ⟨n, 0, by omega, rfl, rfl, rfl, rfl⟩, ?_⟩
  rintro m w3 s x ⟨i, hi, rfl, rfl, rfl, rfl⟩
  by_cases hlt : i < n
  · rw [bif_pos (by omega)]
    refine ⟨by omega, by omega, ?_⟩
    rw [Int.toNat_natCast]
    refine u8_elem hr hlt ?_
    have hb := byte_of hB i
    have e1 : IntKind.wrap .u32 (bs.getD i 0) = ((BitVec.ofInt 32 (bs.getD i 0)).toNat : Int) := by rw [wrap_u32 (by omega) (by omega), ofInt_u32 hb.1 hb.2]
    have e2 : crcF (bs.take (i + 1)) = cb (crcF (bs.take i)) (bs.getD i 0) := by rw [take_succ_getD (by omega), crcF_snoc]
    rw [e1, xor32]
    generalize hs1 : crcF (bs.take i) ^^^ BitVec.ofInt 32 (bs.getD i 0) = s1
    have f1 : 0 ≤ bAnd .u32 (s1.toNat : Int) 15 ∧ bAnd .u32 (s1.toNat : Int) 15 < 16 := by rw [and15]; omega
    refine ⟨by omega, f1.1, by simpa using f1.2, tab_elem hT f1.1 f1.2 ?_⟩
    rw [half_step]
    have f2 : 0 ≤ bAnd .u32 ((cs4 s1).toNat : Int) 15 ∧ bAnd .u32 ((cs4 s1).toNat : Int) 15 < 16 := by rw [and15]; omega
    refine ⟨by omega, f2.1, by simpa using f2.2, tab_elem hT f2.1 f2.2 ?_⟩
    rw [half_step, wrap_i64 (by omega) (by omega)]
    refine ⟨n - (i + 1), by omega, i + 1, by omega, by omega, ?_, rfl, rfl⟩
    rw [e2, cb, hs1]
  · have : i = n := by omega
    subst this
    rw [bif_neg (by omega), List.take_of_length_le (by omega)]
    refine ⟨?_, rfl⟩
    rw [show IntKind.max .u32 = ((4294967295#32 : BitVec 32).toNat : Int) from rfl, xor32, BitVec.xor_comm]
    rfl

/-- Four bytes as a number, the low one first. -/
def word (l : List Int) (o : Nat) : Int := l.getD o 0 + l.getD (o + 1) 0 * 256 + l.getD (o + 2) 0 * 65536 + l.getD (o + 3) 0 * 16777216
theorem word_range {l : List Int} (h : Bytes l) (o : Nat) : 0 ≤ word l o ∧ word l o < 4294967296 := by
  have := byte_of h o; have := byte_of h (o + 1); have := byte_of h (o + 2); have := byte_of h (o + 3)
  unfold word
  omega
theorem word_drop (l : List Int) (k o : Nat) : word (l.drop k) o = word l (k + o) := by
  unfold word
  simp only [getD_drop, Nat.add_assoc]
theorem word_take (l : List Int) {k o : Nat} (h : o + 4 ≤ k) : word (l.take k) o = word l o := by
  unfold word
  rw [getD_take (by omega), getD_take (by omega), getD_take (by omega), getD_take (by omega)]
theorem shL32 {x : Int} (h0 : 0 ≤ x) {n : Nat} (hn : n ≤ 32) (h1 : x * 2 ^ n < 4294967296) : shL .u32 x (n : Int) = x * 2 ^ n := by
  unfold shL
  rw [Int.toNat_natCast, Nat.min_eq_left (show n ≤ IntKind.bits .u32 from hn)]
  exact wrap_u32 (Int.mul_nonneg h0 (Int.pow_nonneg (by omega))) h1
theorem or4 {a b c d : Int} (ha : 0 ≤ a ∧ a < 256) (hb : 0 ≤ b ∧ b < 256) (hc : 0 ≤ c ∧ c < 256) (hd : 0 ≤ d ∧ d < 256) :
    bOr .u32 (bOr .u32 (bOr .u32 (IntKind.wrap .u32 a) (shL .u32 (IntKind.wrap .u32 b) 8)) (shL .u32 (IntKind.wrap .u32 c) 16)) (shL .u32 (IntKind.wrap .u32 d) 24) = a + b * 256 + c * 65536 + d * 16777216 := by
  obtain ⟨a, rfl⟩ := Int.eq_ofNat_of_zero_le ha.1
  obtain ⟨b, rfl⟩ := Int.eq_ofNat_of_zero_le hb.1
  obtain ⟨c, rfl⟩ := Int.eq_ofNat_of_zero_le hc.1
  obtain ⟨d, rfl⟩ := Int.eq_ofNat_of_zero_le hd.1
  rw [wrap_u32 (by omega) (by omega), wrap_u32 (n := (b : Int)) (by omega) (by omega), wrap_u32 (n := (c : Int)) (by omega) (by omega), wrap_u32 (n := (d : Int)) (by omega) (by omega)]
  rw [show (8 : Int) = ((8 : Nat) : Int) from rfl, show (16 : Int) = ((16 : Nat) : Int) from rfl, show (24 : Int) = ((24 : Nat) : Int) from rfl, shL32 (by omega) (by omega) (by omega), shL32 (by omega) (by omega) (by omega), shL32 (by omega) (by omega) (by omega)]
  have e1 := bOr_u32 (a := b) (b := a) 8 (by omega) (by omega)
  have e2 := bOr_u32 (a := c) (b := b * 2 ^ 8 + a) 16 (by omega) (by omega)
  have e3 := bOr_u32 (a := d) (b := c * 2 ^ 16 + (b * 2 ^ 8 + a)) 24 (by omega) (by omega)
  rw [show (b : Int) * 2 ^ 8 = ((b * 2 ^ 8 : Nat) : Int) by simp, show (c : Int) * 2 ^ 16 = ((c * 2 ^ 16 : Nat) : Int) by simp, show (d : Int) * 2 ^ 24 = ((d * 2 ^ 24 : Nat) : Int) by simp]
  rw [bOr_comm _ (a : Int), e1, bOr_comm _ _ ((c * 2 ^ 16 : Nat) : Int), e2, bOr_comm _ _ ((d * 2 ^ 24 : Nat) : Int), e3]
  omega
theorem back_c (w : World) (bs : List Int) (a : Option Addr) (n c : Nat) (hr : RSl w 1 a n c (u8 bs)) (hB : Bytes bs) (hn4 : 4 ≤ n) :
    Calls Tryd.prog 60 #[.slice a n c] w fun e w' => e = .returned (.int .u32 (word bs 0)) ∧ Tch [] w w' := by
  refine c60 _ _ _ ?_
  unfold d60
  rintro w1 rfl
  have hr1 := hr.tch (Tch.refl [] w).drew (fun _ _ h => by cases h)
  refine ⟨by omega, by omega, u8_elem (i := 0) hr1 (by omega) ?_⟩
  refine ⟨by omega, by omega, u8_elem (i := 1) hr1 (by omega) ?_⟩
  refine ⟨by omega, by omega, by omega, u8_elem (i := 2) hr1 (by omega) ?_⟩
  refine ⟨by omega, by omega, by omega, u8_elem (i := 3) hr1 (by omega) ?_⟩
  refine ⟨by omega, ?_, (Tch.refl [] w).drew⟩
  rw [or4 (byte_of hB 0) (byte_of hB 1) (byte_of hB 2) (byte_of hB 3)]
  rfl
end Go.Proofs.YtjchneebdlncfaaDoor.Lib
namespace Go.Proofs.YtjchneebdlncfaaDoor.Lib
open Go Den Fn
open Go.ChangeShapes Go.WideShapes Go.ChangeAt Go.RowKit
theorem own : ownKnob Tryd.prog.godebug = none := by kernel_rfl
theorem laidOk : laidOutB Tryd.prog = true := by kernel_rfl
theorem uBool : Tryd.prog.underlying 4 = some .bool := by kernel_rfl
theorem gTab : Tryd.prog.globalNamed "prelude/codec.halves" = some 0 := by kernel_rfl
theorem gTabT : (Tryd.prog.globals[0]?).map (·.type) = some 159 := by kernel_rfl
theorem uTab : Tryd.prog.underlying 159 = some (.array 16 120) := by kernel_rfl
theorem uWord : Tryd.prog.underlying 120 = some (.int .u32) := by kernel_rfl
theorem cWord : Tryd.prog.cellsOf 120 = 1 := by kernel_rfl
theorem cTab : Tryd.prog.cellsOf 159 = 16 := by kernel_rfl
theorem uBytes : Tryd.prog.underlying 22 = some (.slice 5) := by kernel_rfl
theorem uByte : Tryd.prog.underlying 5 = some (.int .u8) := by kernel_rfl
theorem cByte : Tryd.prog.cellsOf 5 = 1 := by kernel_rfl
theorem cells_of_tab {W : World} {name : String} {zs : List Int} {g : Nat} (h : Go.Lib.TabIs Tryd.prog W name .u32 zs) (hg : Tryd.prog.globalNamed name = some g) : Cells W ⟨g, 0, none⟩ (zs.map (Value.int .u32)) := by
  intro i v hv
  rw [List.getElem?_map, Option.map_eq_some_iff] at hv
  obtain ⟨x, hx, rfl⟩ := hv
  have hi := (List.getElem?_eq_some_iff.1 hx).1
  rw [add_mk, Nat.zero_add, h.cell hg i hi]
  simp [List.getD_eq_getElem?_getD, hx]
abbrev laidRows : List (String × DataW Unit) := [("prelude/codec.halves", Rows.laid_prelude_codec_halves)]
/-- What a row's list gives. -/
theorem laidTab {W : World} (h : laidMetH Tryd.prog laidRows W) : Tab W :=
  cells_of_tab (Go.Lib.tabIs_of_head (zs := halves) (rest := []) gTab gTabT uTab uWord cWord cTab h) gTab
def lay (cs : Array Value) : Obj → Obj
  | .cells _ t frozen => .cells cs t frozen
  | o => o
noncomputable def laidWorld (os : Os) : World :=
  { World.holding Tryd.prog os ⟨#[], #[], []⟩ with heap := (World.holding Tryd.prog os ⟨#[], #[], []⟩).heap.modify 0 (lay (halves.map (Value.int .u32)).toArray) }
end Go.Proofs.YtjchneebdlncfaaDoor.Lib
set_option maxRecDepth 100000
namespace Go.Proofs.YtjchneebdlncfaaDoor.Fn
open Go Den
/-- prelude/keys.Check -/
def s90 : S := (.seq (.ops [⟨(some 1), (.box 129 (.tmp 0)), .ptr, none⟩,
  ⟨(some 2), (.mv (.const (.int .i64 0))), (.int .i64), none⟩] [1])
 (.seq (.seq (.ops [⟨(some 3), (.fa 0 (.tmp 1)), .ptr, none⟩,
  ⟨(some 4), (.ld1 (.tmp 3)), (.int .i64), none⟩,
  ⟨(some 5), (.bin .lss (.tmp 4) (.const (.int .i64 0))), .bool, none⟩,
  ⟨(some 6), (.mv (.tmp 5)), .bool, none⟩,
  ⟨(some 7), (.fa 0 (.tmp 1)), .ptr, (some (6, false))⟩,
  ⟨(some 8), (.ld1 (.tmp 7)), (.int .i64), (some (6, false))⟩,
  ⟨(some 9), (.bin .gtr (.tmp 8) (.const (.int .i64 65535))), .bool, (some (6, false))⟩,
  ⟨(some 10), (.pick (.tmp 6) (.const (.bool true)) (.tmp 9)), .bool, none⟩] [10])
 (.cond (.tmp 10)
 (.seq (.ops [⟨(some 2), (.mv (.const (.int .i64 20))), (.int .i64), none⟩] [2])
 .ret)
 .skip))
 (.seq (.ops [⟨(some 2), (.mv (.const (.int .i64 0))), (.int .i64), none⟩] [2])
 .ret)))
def r90 : List Res := [.t 2]
theorem tr90 : trS Tryd.prog [] 11 (Tryd.f90.body.getD .skip) s90 = some s90 := by kernel_rfl
theorem den90 (args : List Value) (w : World) (R : Ending → World → Prop) (hn : args.length ≤ 11) (h : denS Tryd.prog s90 (argsEnv 0 args) w (endK r90 R)) : Calls Tryd.prog 90 args.toArray w R :=
  calls_of_den (pn := []) (fn := Tryd.f90) (c := Tryd.f90.body.getD .skip) Tryd.func90 (by kernel_rfl) (by rw [Tryd.ntmps90]; exact hn) (by rw [Tryd.ntmps90]; exact tr90) (by kernel_rfl) h
def d90 (k0 : Array Value) (w : World) (R : Ending → World → Prop) : Prop :=
 ∀ w1 : World, w1 = World.alloc w (.cells k0 129) →
 ∃ x2 : Int, World.cell? w1 (Addr.add ⟨World.heap w |>.size, 0, none⟩ 0) = some (.int .i64 x2) ∧
 (bif (decide (x2 < 0)) then
 (R (.returned (.int .i64 20)) w1)
 else
 (∃ x3 : Int, World.cell? w1 (Addr.add ⟨World.heap w |>.size, 0, none⟩ 0) = some (.int .i64 x3) ∧
 (bif (decide (65535 < x3)) then
 (R (.returned (.int .i64 20)) w1)
 else
 (R (.returned (.int .i64 0)) w1))))
theorem e90 (k0 : Array Value) (w : World) (R : Ending → World → Prop) : denS Tryd.prog s90 (argsEnv 0 [(.agg k0)]) w (endK r90 R) = d90 k0 w R := by kernel_rfl
theorem c90 (k0 : Array Value) {w : World} {R : Ending → World → Prop} (h : d90 k0 w R) : Calls Tryd.prog 90 #[(.agg k0)] w R :=
  den90 [(.agg k0)] w R (by simp) ((e90 k0 w R).symm ▸ h)

/-- prelude/keys.form -/
def s91 : S := (.seq (.ops [⟨(some 1), (.box 129 (.tmp 0)), .ptr, none⟩,
  ⟨(some 2), (.alloc 162), .ptr, none⟩] [1, 2])
 (.seq (.ops [⟨(some 3), (.alloc 162), .ptr, none⟩] [1, 3, 2])
 (.seq (.draw (.take 0 ⟨(some 6), (.fa 0 (.tmp 1)), .ptr, none⟩
  (.take 1 ⟨(some 7), (.ld1 (.tmp 6)), (.int .i64), none⟩
  (.take 2 ⟨(some 8), (.bin .shr (.tmp 7) (.const (.int .u64 8))), (.int .i64), none⟩
  (.take 3 ⟨(some 9), (.cv .u8 (.tmp 8)), (.int .u8), none⟩
  (.take 4 ⟨(some 10), (.fa 0 (.tmp 1)), .ptr, none⟩
  (.take 5 ⟨(some 11), (.ld1 (.tmp 10)), (.int .i64), none⟩
  (.take 6 ⟨(some 12), (.cv .u8 (.tmp 11)), (.int .u8), none⟩
  (.take 7 ⟨(some 13), (.iaA 10 1 (.tmp 3) (.const (.int .i64 0))), .ptr, none⟩
  (.go 8 ⟨none, (.st1 (.tmp 13) (.tmp 9)), .any, none⟩ [(5, ⟨(some 11), (.ld1 (.tmp 10)), (.int .i64), none⟩)]
  (.take 9 ⟨(some 14), (.iaA 10 1 (.tmp 3) (.const (.int .i64 1))), .ptr, none⟩
  (.go 10 ⟨none, (.st1 (.tmp 14) (.tmp 12)), .any, none⟩ []
  .done))))))))))) [1, 3, 2])
 (.seq (.ops [⟨(some 15), (.fa 1 (.tmp 1)), .ptr, none⟩,
  ⟨(some 16), (.ld1 (.tmp 15)), (.int .i64), none⟩,
  ⟨(some 17), (.cv .u64 (.tmp 16)), (.int .u64), none⟩,
  ⟨(some 18), (.bin .xor (.tmp 17) (.const (.int .u64 9223372036854775808))), (.int .u64), none⟩,
  ⟨(some 4), (.mv (.tmp 18)), (.int .u64), none⟩] [4, 3, 2])
 (.seq (.seq (.ops [⟨(some 19), (.mv (.const (.int .i64 0))), (.int .i64), none⟩] [19, 4, 3, 2])
 (.block 0
 (.loop [(19, (.int .i64))] [2, 3, 4]
 (.seq (.ops [⟨(some 20), (.bin .lss (.tmp 19) (.const (.int .i64 8))), .bool, none⟩] [20, 19, 4, 3, 2])
 (.seq (.cond (.tmp 20)
 .skip
 (.exit 0))
 (.seq (.block 1
 (.seq (.ops [⟨(some 21), (.mv (.tmp 19)), (.int .i64), none⟩,
  ⟨(some 5), (.mv (.tmp 21)), (.int .i64), none⟩] [5, 4, 3, 19, 2])
 (.ops [⟨(some 22), (.mv (.tmp 5)), (.int .i64), none⟩,
  ⟨(some 23), (.bin .add (.const (.int .i64 2)) (.tmp 22)), (.int .i64), none⟩,
  ⟨(some 24), (.mv (.tmp 4)), (.int .u64), none⟩,
  ⟨(some 25), (.mv (.tmp 5)), (.int .i64), none⟩,
  ⟨(some 26), (.bin .mul (.const (.int .i64 8)) (.tmp 25)), (.int .i64), none⟩,
  ⟨(some 27), (.bin .sub (.const (.int .i64 56)) (.tmp 26)), (.int .i64), none⟩,
  ⟨(some 28), (.bin .shr (.tmp 24) (.tmp 27)), (.int .u64), none⟩,
  ⟨(some 29), (.cv .u8 (.tmp 28)), (.int .u8), none⟩,
  ⟨(some 30), (.iaA 10 1 (.tmp 3) (.tmp 23)), .ptr, none⟩,
  ⟨none, (.st1 (.tmp 30) (.tmp 29)), .any, none⟩] [19, 4, 3, 2])))
 (.ops [⟨(some 31), (.bin .add (.tmp 19) (.const (.int .i64 1))), (.int .i64), none⟩,
  ⟨(some 19), (.mv (.tmp 31)), (.int .i64), none⟩] [19, 4, 3, 2])))))))
 (.seq (.ops [⟨(some 32), (.ldN 10 (.tmp 3)), .agg, none⟩,
  ⟨none, (.stN 10 (.tmp 2) (.tmp 32)), .any, none⟩] [2])
 .ret))))))
def r91 : List Res := [.cN 2 10]
theorem tr91 : trS Tryd.prog [] 33 (Tryd.f91.body.getD .skip) s91 = some s91 := by kernel_rfl
theorem den91 (args : List Value) (w : World) (R : Ending → World → Prop) (hn : args.length ≤ 33) (h : denS Tryd.prog s91 (argsEnv 0 args) w (endK r91 R)) : Calls Tryd.prog 91 args.toArray w R :=
  calls_of_den (pn := []) (fn := Tryd.f91) (c := Tryd.f91.body.getD .skip) Tryd.func91 (by kernel_rfl) (by rw [Tryd.ntmps91]; exact hn) (by rw [Tryd.ntmps91]; exact tr91) (by kernel_rfl) h
def d91 (k0 : Array Value) (w : World) (R : Ending → World → Prop) : Prop :=
 ∀ w1 : World, w1 = World.alloc w (.cells k0 129) →
 ∀ w2 : World, w2 = World.alloc w1 (.cells (zc Tryd.prog 162).toArray 162) →
 ∀ w3 : World, w3 = World.alloc w2 (.cells (zc Tryd.prog 162).toArray 162) →
 ∀ w4 : World, w4 = World.drew w3 →
 ∃ x5 : Int, World.cell? w4 (Addr.add ⟨World.heap w |>.size, 0, none⟩ 0) = some (.int .i64 x5) ∧
 0 ≤ (8 : Int) ∧ ∃ x6 : Int, World.cell? w4 (Addr.add ⟨World.heap w |>.size, 0, none⟩ 0) = some (.int .i64 x6) ∧
 0 ≤ (0 : Int) ∧ (0 : Int) < ((10 : Nat) : Int) ∧
 one (.int .u8 (IntKind.wrap .u8 (shR .i64 x5 8))) = true ∧ Option.isSome (World.cell? w4 (Addr.add ⟨World.heap w2 |>.size, 0, none⟩ (Int.toNat 0 * 1))) = true ∧ World.frozen? w4 (Addr.add ⟨World.heap w2 |>.size, 0, none⟩ (Int.toNat 0 * 1)) = false ∧
 ∀ w7 : World, w7 = World.setCell w4 (Addr.add ⟨World.heap w2 |>.size, 0, none⟩ (Int.toNat 0 * 1)) (.int .u8 (IntKind.wrap .u8 (shR .i64 x5 8))) →
 (∃ z8 : Int, World.cell? w7 (Addr.add ⟨World.heap w |>.size, 0, none⟩ 0) = some (.int .i64 z8) ∧
 (((.int .i64 z8) : Value) = (.int .i64 x6) ∧ w7 = w7)) ∧
 0 ≤ (1 : Int) ∧ (1 : Int) < ((10 : Nat) : Int) ∧
 one (.int .u8 (IntKind.wrap .u8 x6)) = true ∧ Option.isSome (World.cell? w7 (Addr.add ⟨World.heap w2 |>.size, 0, none⟩ (Int.toNat 1 * 1))) = true ∧ World.frozen? w7 (Addr.add ⟨World.heap w2 |>.size, 0, none⟩ (Int.toNat 1 * 1)) = false ∧
 ∀ w9 : World, w9 = World.setCell w7 (Addr.add ⟨World.heap w2 |>.size, 0, none⟩ (Int.toNat 1 * 1)) (.int .u8 (IntKind.wrap .u8 x6)) →
 ∃ x10 : Int, World.cell? w9 (Addr.add ⟨World.heap w |>.size, 0, none⟩ 1) = some (.int .i64 x10) ∧
 ∃ I11 : Nat → Int → World → Prop,
 (∃ m, I11 m 0 w9) ∧
 (∀ (m12 : Nat) (w13 : World) (x14 : Int), I11 m12 x14 w13 →
 (bif (decide (x14 < 8)) then
 (0 ≤ (IntKind.wrap .i64 (56 - (IntKind.wrap .i64 (8 * x14)))) ∧ 0 ≤ (IntKind.wrap .i64 (2 + x14)) ∧ (IntKind.wrap .i64 (2 + x14)) < ((10 : Nat) : Int) ∧
 one (.int .u8 (IntKind.wrap .u8 (shR .u64 (bXor .u64 (IntKind.wrap .u64 x10) 9223372036854775808) (IntKind.wrap .i64 (56 - (IntKind.wrap .i64 (8 * x14))))))) = true ∧ Option.isSome (World.cell? w13 (Addr.add ⟨World.heap w2 |>.size, 0, none⟩ (Int.toNat (IntKind.wrap .i64 (2 + x14)) * 1))) = true ∧ World.frozen? w13 (Addr.add ⟨World.heap w2 |>.size, 0, none⟩ (Int.toNat (IntKind.wrap .i64 (2 + x14)) * 1)) = false ∧
 ∀ w15 : World, w15 = World.setCell w13 (Addr.add ⟨World.heap w2 |>.size, 0, none⟩ (Int.toNat (IntKind.wrap .i64 (2 + x14)) * 1)) (.int .u8 (IntKind.wrap .u8 (shR .u64 (bXor .u64 (IntKind.wrap .u64 x10) 9223372036854775808) (IntKind.wrap .i64 (56 - (IntKind.wrap .i64 (8 * x14))))))) →
 ∃ m16, m16 < m12 ∧ I11 m16 (IntKind.wrap .i64 (x14 + 1)) w15)
 else
 (∃ cs17 : List Value, List.length cs17 = 10 ∧ Cells w13 ⟨World.heap w2 |>.size, 0, none⟩ cs17 ∧
 Array.size (List.toArray cs17) = 10 ∧ (∀ u ∈ Array.toList (List.toArray cs17), one u = true) ∧ Room w13 ⟨World.heap w1 |>.size, 0, none⟩ 10 ∧
 ∀ w18 : World, w18 = setCells w13 ⟨World.heap w1 |>.size, 0, none⟩ (Array.toList (List.toArray cs17)) 0 →
 ∃ cs19 : List Value, List.length cs19 = 10 ∧ Cells w18 ⟨World.heap w1 |>.size, 0, none⟩ cs19 ∧
 R (.returned (.agg (List.toArray cs19))) w18)))
theorem e91 (k0 : Array Value) (w : World) (R : Ending → World → Prop) : denS Tryd.prog s91 (argsEnv 0 [(.agg k0)]) w (endK r91 R) = d91 k0 w R := by kernel_rfl
theorem c91 (k0 : Array Value) {w : World} {R : Ending → World → Prop} (h : d91 k0 w R) : Calls Tryd.prog 91 #[(.agg k0)] w R :=
  den91 [(.agg k0)] w R (by simp) ((e91 k0 w R).symm ▸ h)

/-- prelude/keys.Bytes -/
def s68 : S := (.seq (.ops [⟨(some 1), (.box 129 (.tmp 0)), .ptr, none⟩,
  ⟨(some 2), (.mv (.const (.slice none 0 0))), .sl, none⟩,
  ⟨(some 3), (.mv (.const (.int .i64 0))), (.int .i64), none⟩] [1])
 (.seq (.seq (.ops [⟨(some 6), (.ldN 2 (.tmp 1)), .agg, none⟩,
  ⟨(some 7), (.call 90 [(.tmp 6)] [(.int .i64)]), (.int .i64), none⟩,
  ⟨(some 4), (.mv (.tmp 7)), (.int .i64), none⟩] [4, 1])
 (.seq (.ops [⟨(some 8), (.mv (.tmp 4)), (.int .i64), none⟩,
  ⟨(some 9), (.bin .neq (.tmp 8) (.const (.int .i64 0))), .bool, none⟩] [9, 4, 1])
 (.cond (.tmp 9)
 (.seq (.ops [⟨(some 10), (.mv (.tmp 4)), (.int .i64), none⟩,
  ⟨(some 2), (.mv (.const (.slice none 0 0))), .sl, none⟩,
  ⟨(some 3), (.mv (.tmp 10)), (.int .i64), none⟩] [2, 3])
 .ret)
 .skip)))
 (.seq (.ops [⟨(some 11), (.ldN 2 (.tmp 1)), .agg, none⟩,
  ⟨(some 12), (.call 91 [(.tmp 11)] [.agg]), .agg, none⟩,
  ⟨(some 5), (.alloc 162), .ptr, none⟩,
  ⟨none, (.stN 10 (.tmp 5) (.tmp 12)), .any, none⟩] [5])
 (.seq (.ops [⟨(some 13), (.slA 10 1 (.tmp 5) none none none), .sl, none⟩,
  ⟨(some 14), (.app #[22, 22] 22 (.const (.slice none 0 0)) (.tmp 13)), .sl, none⟩,
  ⟨(some 2), (.mv (.tmp 14)), .sl, none⟩,
  ⟨(some 3), (.mv (.const (.int .i64 0))), (.int .i64), none⟩] [2, 3])
 .ret))))
def r68 : List Res := [.t 2, .t 3]
theorem tr68 : trS Tryd.prog [] 15 (Tryd.f68.body.getD .skip) s68 = some s68 := by kernel_rfl
theorem den68 (args : List Value) (w : World) (R : Ending → World → Prop) (hn : args.length ≤ 15) (h : denS Tryd.prog s68 (argsEnv 0 args) w (endK r68 R)) : Calls Tryd.prog 68 args.toArray w R :=
  calls_of_den (pn := []) (fn := Tryd.f68) (c := Tryd.f68.body.getD .skip) Tryd.func68 (by kernel_rfl) (by rw [Tryd.ntmps68]; exact hn) (by rw [Tryd.ntmps68]; exact tr68) (by kernel_rfl) h
def d68 (k0 : Array Value) (w : World) (R : Ending → World → Prop) : Prop :=
 ∀ w1 : World, w1 = World.alloc w (.cells k0 129) →
 ∃ cs2 : List Value, List.length cs2 = 2 ∧ Cells w1 ⟨World.heap w |>.size, 0, none⟩ cs2 ∧
 Calls Tryd.prog 90 #[(.agg (List.toArray cs2))] w1 fun e3 w4 => ∃ x5 : Int, e3 = .returned (.int .i64 x5) ∧
 (bif (!decide (x5 = 0)) then
 (R (.returned (.tuple #[(.slice none 0 0), (.int .i64 x5)])) w4)
 else
 (∃ cs6 : List Value, List.length cs6 = 2 ∧ Cells w4 ⟨World.heap w |>.size, 0, none⟩ cs6 ∧
 Calls Tryd.prog 91 #[(.agg (List.toArray cs6))] w4 fun e7 w8 => ∃ x9 : Array Value, e7 = .returned (.agg x9) ∧
 ∀ w10 : World, w10 = World.alloc w8 (.cells (zc Tryd.prog 162).toArray 162) →
 Array.size x9 = 10 ∧ (∀ u ∈ Array.toList x9, one u = true) ∧ Room w10 ⟨World.heap w8 |>.size, 0, none⟩ 10 ∧
 ∀ w11 : World, w11 = setCells w10 ⟨World.heap w8 |>.size, 0, none⟩ (Array.toList x9) 0 →
 RunV Tryd.prog (Builtin.append_ #[22, 22] 22 #[(.slice none 0 0), (.slice (some (if 10 = 0 then ⟨World.heap w8 |>.size, 0, none⟩ else Addr.add ⟨World.heap w8 |>.size, 0, none⟩ (0 * 1))) (10 - 0) (10 - 0))]) w11 fun v12 w13 => ∃ (x14 : Option Addr) (x14n : Nat) (x14c : Nat), v12 = (.slice x14 x14n x14c) ∧
 R (.returned (.tuple #[(.slice x14 x14n x14c), (.int .i64 0)])) w13))
theorem e68 (k0 : Array Value) (w : World) (R : Ending → World → Prop) : denS Tryd.prog s68 (argsEnv 0 [(.agg k0)]) w (endK r68 R) = d68 k0 w R := by kernel_rfl
theorem c68 (k0 : Array Value) {w : World} {R : Ending → World → Prop} (h : d68 k0 w R) : Calls Tryd.prog 68 #[(.agg k0)] w R :=
  den68 [(.agg k0)] w R (by simp) ((e68 k0 w R).symm ▸ h)

/-- prelude/keys.FromBytes -/
def s110 : S := (.seq (.ops [⟨(some 2), (.alloc 129), .ptr, none⟩,
  ⟨(some 3), (.mv (.const (.int .i64 0))), (.int .i64), none⟩] [0, 2])
 (.seq (.block 0
 (.seq (.ops [⟨(some 8), (.mv (.tmp 0)), .sl, none⟩,
  ⟨(some 9), (.len (.tmp 8)), (.int .i64), none⟩,
  ⟨(some 10), (.bin .lss (.tmp 9) (.const (.int .i64 10))), .bool, none⟩,
  ⟨(some 7), (.mv (.tmp 10)), .bool, none⟩] [7, 2, 0])
 (.cond (.tmp 7)
 (.seq (.ops [⟨(some 11), (.bld 129 (.fields [(0, 1), (1, 1)]) []), .agg, none⟩,
  ⟨none, (.stN 2 (.tmp 2) (.tmp 11)), .any, none⟩,
  ⟨(some 3), (.mv (.const (.int .i64 10))), (.int .i64), none⟩] [2, 3])
 .ret)
 (.seq (.ops [⟨(some 13), (.mv (.tmp 0)), .sl, none⟩,
  ⟨(some 14), (.len (.tmp 13)), (.int .i64), none⟩,
  ⟨(some 15), (.bin .gtr (.tmp 14) (.const (.int .i64 10))), .bool, none⟩,
  ⟨(some 12), (.mv (.tmp 15)), .bool, none⟩] [12, 2, 0])
 (.cond (.tmp 12)
 (.seq (.ops [⟨(some 16), (.bld 129 (.fields [(0, 1), (1, 1)]) []), .agg, none⟩,
  ⟨none, (.stN 2 (.tmp 2) (.tmp 16)), .any, none⟩,
  ⟨(some 3), (.mv (.const (.int .i64 11))), (.int .i64), none⟩] [2, 3])
 .ret)
 .skip)))))
 (.seq (.ops [⟨(some 4), (.mv (.const (.int .u64 0))), (.int .u64), none⟩] [0, 4, 2])
 (.seq (.seq (.ops [⟨(some 17), (.mv (.tmp 0)), .sl, none⟩,
  ⟨(some 18), (.slS 1 (.tmp 17) (some (.const (.int .i64 2))) none none), .sl, none⟩,
  ⟨(some 19), (.len (.tmp 18)), (.int .i64), none⟩,
  ⟨(some 20), (.mv (.const (.int .i64 0))), (.int .i64), none⟩] [20, 19, 18, 4, 0, 2])
 (.block 1
 (.loop [(4, (.int .u64)), (20, (.int .i64))] [0, 2, 18, 19]
 (.seq (.ops [⟨(some 21), (.bin .lss (.tmp 20) (.tmp 19)), .any, none⟩] [21, 18, 20, 4, 19, 0, 2])
 (.seq (.cond (.tmp 21)
 .skip
 (.exit 1))
 (.seq (.block 2
 (.seq (.ops [⟨(some 22), (.ia 1 (.tmp 18) (.tmp 20)), .ptr, none⟩,
  ⟨(some 23), (.ld1 (.tmp 22)), (.int .u8), none⟩,
  ⟨(some 6), (.mv (.tmp 23)), (.int .u8), none⟩] [4, 6, 20, 19, 18, 0, 2])
 (.ops [⟨(some 24), (.mv (.tmp 4)), (.int .u64), none⟩,
  ⟨(some 25), (.bin .shl (.tmp 24) (.const (.int .u64 8))), (.int .u64), none⟩,
  ⟨(some 26), (.mv (.tmp 6)), (.int .u8), none⟩,
  ⟨(some 27), (.cv .u64 (.tmp 26)), (.int .u64), none⟩,
  ⟨(some 28), (.bin .or (.tmp 25) (.tmp 27)), (.int .u64), none⟩,
  ⟨(some 4), (.mv (.tmp 28)), (.int .u64), none⟩] [20, 19, 18, 4, 0, 2])))
 (.ops [⟨(some 29), (.bin .add (.tmp 20) (.const (.int .i64 1))), (.int .i64), none⟩,
  ⟨(some 20), (.mv (.tmp 29)), (.int .i64), none⟩] [20, 19, 18, 4, 0, 2])))))))
 (.seq (.draw (.take 0 ⟨(some 30), (.mv (.tmp 0)), .sl, none⟩
  (.take 1 ⟨(some 31), (.ia 1 (.tmp 30) (.const (.int .i64 0))), .ptr, none⟩
  (.take 2 ⟨(some 32), (.ld1 (.tmp 31)), (.int .u8), none⟩
  (.take 3 ⟨(some 33), (.cv .i64 (.tmp 32)), (.int .i64), none⟩
  (.take 4 ⟨(some 34), (.bin .shl (.tmp 33) (.const (.int .u64 8))), (.int .i64), none⟩
  (.take 5 ⟨(some 35), (.mv (.tmp 0)), .sl, none⟩
  (.take 6 ⟨(some 36), (.ia 1 (.tmp 35) (.const (.int .i64 1))), .ptr, none⟩
  (.take 7 ⟨(some 37), (.ld1 (.tmp 36)), (.int .u8), none⟩
  (.take 8 ⟨(some 38), (.cv .i64 (.tmp 37)), (.int .i64), none⟩
  (.take 9 ⟨(some 39), (.bin .or (.tmp 34) (.tmp 38)), (.int .i64), none⟩
  (.take 10 ⟨(some 40), (.mv (.tmp 4)), (.int .u64), none⟩
  (.take 11 ⟨(some 41), (.bin .xor (.tmp 40) (.const (.int .u64 9223372036854775808))), (.int .u64), none⟩
  (.take 12 ⟨(some 42), (.cv .i64 (.tmp 41)), (.int .i64), none⟩
  (.take 13 ⟨(some 43), (.bld 129 (.fields [(0, 1), (1, 1)]) [(0, (.tmp 39)), (1, (.tmp 42))]), .agg, none⟩
  (.go 14 ⟨none, (.stN 2 (.tmp 2) (.tmp 43)), .any, none⟩ []
  (.take 15 ⟨(some 3), (.mv (.const (.int .i64 0))), (.int .i64), none⟩
  .done)))))))))))))))) [2, 3])
 .ret)))))
def r110 : List Res := [.cN 2 2, .t 3]
theorem tr110 : trS Tryd.prog [] 44 (Tryd.f110.body.getD .skip) s110 = some s110 := by kernel_rfl
theorem den110 (args : List Value) (w : World) (R : Ending → World → Prop) (hn : args.length ≤ 44) (h : denS Tryd.prog s110 (argsEnv 0 args) w (endK r110 R)) : Calls Tryd.prog 110 args.toArray w R :=
  calls_of_den (pn := []) (fn := Tryd.f110) (c := Tryd.f110.body.getD .skip) Tryd.func110 (by kernel_rfl) (by rw [Tryd.ntmps110]; exact hn) (by rw [Tryd.ntmps110]; exact tr110) (by kernel_rfl) h
def d110 (b0 : Option Addr) (b0n : Nat) (b0c : Nat) (w : World) (R : Ending → World → Prop) : Prop :=
 ∀ w1 : World, w1 = World.alloc w (.cells (zc Tryd.prog 129).toArray 129) →
 (bif (decide (((b0n : Nat) : Int) < 10)) then
 (∃ cs2, fillL (.fields [(0, 1), (1, 1)]) (zc Tryd.prog 129) [] = some cs2 ∧
 Array.size (List.toArray cs2) = 2 ∧ (∀ u ∈ Array.toList (List.toArray cs2), one u = true) ∧ Room w1 ⟨World.heap w |>.size, 0, none⟩ 2 ∧
 ∀ w3 : World, w3 = setCells w1 ⟨World.heap w |>.size, 0, none⟩ (Array.toList (List.toArray cs2)) 0 →
 ∃ cs4 : List Value, List.length cs4 = 2 ∧ Cells w3 ⟨World.heap w |>.size, 0, none⟩ cs4 ∧
 R (.returned (.tuple #[(.agg (List.toArray cs4)), (.int .i64 10)])) w3)
 else
 ((bif (decide (10 < ((b0n : Nat) : Int))) then
 (∃ cs5, fillL (.fields [(0, 1), (1, 1)]) (zc Tryd.prog 129) [] = some cs5 ∧
 Array.size (List.toArray cs5) = 2 ∧ (∀ u ∈ Array.toList (List.toArray cs5), one u = true) ∧ Room w1 ⟨World.heap w |>.size, 0, none⟩ 2 ∧
 ∀ w6 : World, w6 = setCells w1 ⟨World.heap w |>.size, 0, none⟩ (Array.toList (List.toArray cs5)) 0 →
 ∃ cs7 : List Value, List.length cs7 = 2 ∧ Cells w6 ⟨World.heap w |>.size, 0, none⟩ cs7 ∧
 R (.returned (.tuple #[(.agg (List.toArray cs7)), (.int .i64 11)])) w6)
 else
 (0 ≤ (2 : Int) ∧ (2 : Int) ≤ ((b0n : Nat) : Int) ∧ ∃ I8 : Nat → Int → Int → World → Prop,
 (∃ m, I8 m 0 0 w1) ∧
 (∀ (m9 : Nat) (w10 : World) (row11 : Int) (x12 : Int), I8 m9 row11 x12 w10 →
 (bif (decide (x12 < (((b0n - (Int.toNat 2)) : Nat) : Int))) then
 (0 ≤ x12 ∧ x12 < (((b0n - (Int.toNat 2)) : Nat) : Int) ∧ optK (if b0c = (Int.toNat 2) then b0 else Option.map (fun y => Addr.add y ((Int.toNat 2) * 1)) b0) fun a13 =>
 ∃ x14 : Int, World.cell? w10 (Addr.add a13 (Int.toNat x12 * 1)) = some (.int .u8 x14) ∧
 0 ≤ (8 : Int) ∧ ∃ m15, m15 < m9 ∧ I8 m15 (bOr .u64 (shL .u64 row11 8) (IntKind.wrap .u64 x14)) (IntKind.wrap .i64 (x12 + 1)) w10)
 else
 (∀ w16 : World, w16 = World.drew w10 →
 0 ≤ (0 : Int) ∧ (0 : Int) < ((b0n : Nat) : Int) ∧ optK b0 fun a17 =>
 ∃ x18 : Int, World.cell? w16 (Addr.add a17 (Int.toNat 0 * 1)) = some (.int .u8 x18) ∧
 0 ≤ (8 : Int) ∧ 0 ≤ (1 : Int) ∧ (1 : Int) < ((b0n : Nat) : Int) ∧ optK b0 fun a19 =>
 ∃ x20 : Int, World.cell? w16 (Addr.add a19 (Int.toNat 1 * 1)) = some (.int .u8 x20) ∧
 ∃ cs21, fillL (.fields [(0, 1), (1, 1)]) (zc Tryd.prog 129) [(0, (.int .i64 (bOr .i64 (shL .i64 (IntKind.wrap .i64 x18) 8) (IntKind.wrap .i64 x20)))), (1, (.int .i64 (IntKind.wrap .i64 (bXor .u64 row11 9223372036854775808))))] = some cs21 ∧
 Array.size (List.toArray cs21) = 2 ∧ (∀ u ∈ Array.toList (List.toArray cs21), one u = true) ∧ Room w16 ⟨World.heap w |>.size, 0, none⟩ 2 ∧
 ∀ w22 : World, w22 = setCells w16 ⟨World.heap w |>.size, 0, none⟩ (Array.toList (List.toArray cs21)) 0 →
 ∃ cs23 : List Value, List.length cs23 = 2 ∧ Cells w22 ⟨World.heap w |>.size, 0, none⟩ cs23 ∧
 R (.returned (.tuple #[(.agg (List.toArray cs23)), (.int .i64 0)])) w22)))))))
theorem e110 (b0 : Option Addr) (b0n : Nat) (b0c : Nat) (w : World) (R : Ending → World → Prop) : denS Tryd.prog s110 (argsEnv 0 [(.slice b0 b0n b0c)]) w (endK r110 R) = d110 b0 b0n b0c w R := by kernel_rfl
theorem c110 (b0 : Option Addr) (b0n : Nat) (b0c : Nat) {w : World} {R : Ending → World → Prop} (h : d110 b0 b0n b0c w R) : Calls Tryd.prog 110 #[(.slice b0 b0n b0c)] w R :=
  den110 [(.slice b0 b0n b0c)] w R (by simp) ((e110 b0 b0n b0c w R).symm ▸ h)

/-- prelude/keys.Rises -/
def s89 : S := (.seq (.ops [⟨(some 2), (.mv (.const (.bool false))), .bool, none⟩] [0])
 (.seq (.seq (.ops [⟨(some 5), (.mv (.tmp 0)), .sl, none⟩,
  ⟨(some 6), (.len (.tmp 5)), (.int .i64), none⟩,
  ⟨(some 7), (.mv (.const (.int .i64 0))), (.int .i64), none⟩] [7, 6, 5, 0])
 (.block 0
 (.loop [(7, (.int .i64))] [0, 5, 6]
 (.seq (.ops [⟨(some 8), (.bin .lss (.tmp 7) (.tmp 6)), .any, none⟩] [8, 7, 5, 0, 6])
 (.seq (.cond (.tmp 8)
 .skip
 (.exit 0))
 (.seq (.block 1
 (.seq (.ops [⟨(some 9), (.mv (.tmp 7)), (.int .i64), none⟩,
  ⟨(some 10), (.ia 2 (.tmp 5) (.tmp 7)), .ptr, none⟩,
  ⟨(some 11), (.ldN 2 (.tmp 10)), .agg, none⟩,
  ⟨(some 4), (.alloc 129), .ptr, none⟩,
  ⟨(some 3), (.mv (.tmp 9)), (.int .i64), none⟩,
  ⟨none, (.stN 2 (.tmp 4) (.tmp 11)), .any, none⟩] [4, 3, 0, 7, 6, 5])
 (.seq (.draw (.take 0 ⟨(some 12), (.ldN 2 (.tmp 4)), .agg, none⟩
  (.go 1 ⟨(some 13), (.call 90 [(.tmp 12)] [(.int .i64)]), (.int .i64), none⟩ []
  (.take 2 ⟨(some 14), (.bin .neq (.tmp 13) (.const (.int .i64 0))), .bool, none⟩
  (.take 3 ⟨(some 15), (.mv (.tmp 14)), .bool, none⟩
  (.take 4 ⟨(some 16), (.mv (.tmp 3)), (.int .i64), (some (15, false))⟩
  (.take 5 ⟨(some 17), (.bin .gtr (.tmp 16) (.const (.int .i64 0))), .bool, (some (15, false))⟩
  (.take 6 ⟨(some 18), (.mv (.tmp 17)), .bool, (some (15, false))⟩
  (.take 7 ⟨(some 19), (.mv (.tmp 0)), .sl, (some (18, true))⟩
  (.take 8 ⟨(some 20), (.mv (.tmp 3)), (.int .i64), (some (18, true))⟩
  (.take 9 ⟨(some 21), (.bin .sub (.tmp 20) (.const (.int .i64 1))), (.int .i64), (some (18, true))⟩
  (.take 10 ⟨(some 22), (.ia 2 (.tmp 19) (.tmp 21)), .ptr, (some (18, true))⟩
  (.take 11 ⟨(some 23), (.ldN 2 (.tmp 22)), .agg, (some (18, true))⟩
  (.take 12 ⟨(some 24), (.ldN 2 (.tmp 4)), .agg, (some (18, true))⟩
  (.go 13 ⟨(some 25), (.call 104 [(.tmp 23), (.tmp 24)] [(.int .i64)]), (.int .i64), (some (18, true))⟩ []
  (.take 14 ⟨(some 26), (.bin .geq (.tmp 25) (.const (.int .i64 0))), .bool, (some (18, true))⟩
  (.take 15 ⟨(some 27), (.pick (.tmp 18) (.tmp 26) (.const (.bool false))), .bool, (some (15, false))⟩
  (.take 16 ⟨(some 28), (.pick (.tmp 15) (.const (.bool true)) (.tmp 27)), .bool, none⟩
  .done))))))))))))))))) [28, 7, 6, 5, 0])
 (.cond (.tmp 28)
 (.seq (.ops [⟨(some 2), (.mv (.const (.bool false))), .bool, none⟩] [2])
 .ret)
 .skip))))
 (.ops [⟨(some 29), (.bin .add (.tmp 7) (.const (.int .i64 1))), (.int .i64), none⟩,
  ⟨(some 7), (.mv (.tmp 29)), (.int .i64), none⟩] [7, 6, 5, 0])))))))
 (.seq (.ops [⟨(some 2), (.mv (.const (.bool true))), .bool, none⟩] [2])
 .ret)))
def r89 : List Res := [.t 2]
theorem tr89 : trS Tryd.prog [] 30 (Tryd.f89.body.getD .skip) s89 = some s89 := by kernel_rfl
theorem den89 (args : List Value) (w : World) (R : Ending → World → Prop) (hn : args.length ≤ 30) (h : denS Tryd.prog s89 (argsEnv 0 args) w (endK r89 R)) : Calls Tryd.prog 89 args.toArray w R :=
  calls_of_den (pn := []) (fn := Tryd.f89) (c := Tryd.f89.body.getD .skip) Tryd.func89 (by kernel_rfl) (by rw [Tryd.ntmps89]; exact hn) (by rw [Tryd.ntmps89]; exact tr89) (by kernel_rfl) h
def d89 (l0 : Option Addr) (l0n : Nat) (l0c : Nat) (w : World) (R : Ending → World → Prop) : Prop :=
 ∃ I1 : Nat → Int → World → Prop,
 (∃ m, I1 m 0 w) ∧
 (∀ (m2 : Nat) (w3 : World) (x4 : Int), I1 m2 x4 w3 →
 (bif (decide (x4 < ((l0n : Nat) : Int))) then
 (0 ≤ x4 ∧ x4 < ((l0n : Nat) : Int) ∧ optK l0 fun a5 =>
 ∃ cs6 : List Value, List.length cs6 = 2 ∧ Cells w3 (Addr.add a5 (Int.toNat x4 * 2)) cs6 ∧
 ∀ w7 : World, w7 = World.alloc w3 (.cells (zc Tryd.prog 129).toArray 129) →
 Array.size (List.toArray cs6) = 2 ∧ (∀ u ∈ Array.toList (List.toArray cs6), one u = true) ∧ Room w7 ⟨World.heap w3 |>.size, 0, none⟩ 2 ∧
 ∀ w8 : World, w8 = setCells w7 ⟨World.heap w3 |>.size, 0, none⟩ (Array.toList (List.toArray cs6)) 0 →
 ∀ w9 : World, w9 = World.drew w8 →
 ∃ cs10 : List Value, List.length cs10 = 2 ∧ Cells w9 ⟨World.heap w3 |>.size, 0, none⟩ cs10 ∧
 Calls Tryd.prog 90 #[(.agg (List.toArray cs10))] w9 fun e11 w12 => ∃ x13 : Int, e11 = .returned (.int .i64 x13) ∧
 (bif (!decide (x13 = 0)) then
 (R (.returned (.bool false)) w12)
 else
 ((bif (decide (0 < x4)) then
 (0 ≤ (IntKind.wrap .i64 (x4 - 1)) ∧ (IntKind.wrap .i64 (x4 - 1)) < ((l0n : Nat) : Int) ∧ optK l0 fun a14 =>
 ∃ cs15 : List Value, List.length cs15 = 2 ∧ Cells w12 (Addr.add a14 (Int.toNat (IntKind.wrap .i64 (x4 - 1)) * 2)) cs15 ∧
 ∃ cs16 : List Value, List.length cs16 = 2 ∧ Cells w12 ⟨World.heap w3 |>.size, 0, none⟩ cs16 ∧
 Calls Tryd.prog 104 #[(.agg (List.toArray cs15)), (.agg (List.toArray cs16))] w12 fun e17 w18 => ∃ x19 : Int, e17 = .returned (.int .i64 x19) ∧
 (bif (decide (0 ≤ x19)) then
 (R (.returned (.bool false)) w18)
 else
 (∃ m20, m20 < m2 ∧ I1 m20 (IntKind.wrap .i64 (x4 + 1)) w18)))
 else
 (∃ m21, m21 < m2 ∧ I1 m21 (IntKind.wrap .i64 (x4 + 1)) w12)))))
 else
 (R (.returned (.bool true)) w3)))
theorem e89 (l0 : Option Addr) (l0n : Nat) (l0c : Nat) (w : World) (R : Ending → World → Prop) : denS Tryd.prog s89 (argsEnv 0 [(.slice l0 l0n l0c)]) w (endK r89 R) = d89 l0 l0n l0c w R := by kernel_rfl
theorem c89 (l0 : Option Addr) (l0n : Nat) (l0c : Nat) {w : World} {R : Ending → World → Prop} (h : d89 l0 l0n l0c w R) : Calls Tryd.prog 89 #[(.slice l0 l0n l0c)] w R :=
  den89 [(.slice l0 l0n l0c)] w R (by simp) ((e89 l0 l0n l0c w R).symm ▸ h)

/-- prelude/keys.Compare -/
def s104 : S := (.seq (.ops [⟨(some 2), (.box 129 (.tmp 0)), .ptr, none⟩,
  ⟨(some 3), (.box 129 (.tmp 1)), .ptr, none⟩,
  ⟨(some 4), (.mv (.const (.int .i64 0))), (.int .i64), none⟩] [2, 3])
 (.seq (.seq (.ops [⟨(some 5), (.ldN 2 (.tmp 2)), .agg, none⟩,
  ⟨(some 6), (.ldN 2 (.tmp 3)), .agg, none⟩,
  ⟨(some 7), (.eqG .eql 129 (.tmp 5) (.tmp 6)), .bool, none⟩] [7, 2, 3])
 (.cond (.tmp 7)
 (.seq (.ops [⟨(some 4), (.mv (.const (.int .i64 0))), (.int .i64), none⟩] [4])
 .ret)
 .skip))
 (.seq (.draw (.take 0 ⟨(some 8), (.fa 0 (.tmp 2)), .ptr, none⟩
  (.take 1 ⟨(some 9), (.ld1 (.tmp 8)), (.int .i64), none⟩
  (.take 2 ⟨(some 10), (.fa 0 (.tmp 3)), .ptr, none⟩
  (.take 3 ⟨(some 11), (.ld1 (.tmp 10)), (.int .i64), none⟩
  (.take 5 ⟨(some 13), (.fa 1 (.tmp 2)), .ptr, none⟩
  (.take 6 ⟨(some 14), (.ld1 (.tmp 13)), (.int .i64), none⟩
  (.take 7 ⟨(some 15), (.fa 1 (.tmp 3)), .ptr, none⟩
  (.take 8 ⟨(some 16), (.ld1 (.tmp 15)), (.int .i64), none⟩
  (.go 4 ⟨(some 12), (.call 115 [(.tmp 9), (.tmp 11)] [(.int .i64)]), (.int .i64), none⟩ [(8, ⟨(some 16), (.ld1 (.tmp 15)), (.int .i64), none⟩), (6, ⟨(some 14), (.ld1 (.tmp 13)), (.int .i64), none⟩)]
  (.go 9 ⟨(some 17), (.call 116 [(.tmp 14), (.tmp 16)] [(.int .i64)]), (.int .i64), none⟩ []
  (.go 10 ⟨(some 18), (.bldS 3 2 1 [(0, (.tmp 12)), (1, (.tmp 17))]), .sl, none⟩ []
  (.go 11 ⟨(some 19), (.call 114 [(.tmp 18)] [(.int .i64)]), (.int .i64), none⟩ []
  (.take 12 ⟨(some 4), (.mv (.tmp 19)), (.int .i64), none⟩
  .done))))))))))))) [4])
 .ret)))
def r104 : List Res := [.t 4]
theorem tr104 : trS Tryd.prog [] 20 (Tryd.f104.body.getD .skip) s104 = some s104 := by kernel_rfl
theorem den104 (args : List Value) (w : World) (R : Ending → World → Prop) (hn : args.length ≤ 20) (h : denS Tryd.prog s104 (argsEnv 0 args) w (endK r104 R)) : Calls Tryd.prog 104 args.toArray w R :=
  calls_of_den (pn := []) (fn := Tryd.f104) (c := Tryd.f104.body.getD .skip) Tryd.func104 (by kernel_rfl) (by rw [Tryd.ntmps104]; exact hn) (by rw [Tryd.ntmps104]; exact tr104) (by kernel_rfl) h
def d104 (a0 : Array Value) (b1 : Array Value) (w : World) (R : Ending → World → Prop) : Prop :=
 ∀ w2 : World, w2 = World.alloc w (.cells a0 129) →
 ∀ w3 : World, w3 = World.alloc w2 (.cells b1 129) →
 ∃ cs4 : List Value, List.length cs4 = 2 ∧ Cells w3 ⟨World.heap w |>.size, 0, none⟩ cs4 ∧
 ∃ cs5 : List Value, List.length cs5 = 2 ∧ Cells w3 ⟨World.heap w2 |>.size, 0, none⟩ cs5 ∧
 ∃ q6 : Bool, Sem.run Tryd.prog (do eqGuard .eql 129 (.tmp 5) (.tmp 6) (.agg (List.toArray cs4)) (.agg (List.toArray cs5)); binOp .eql 129 (.agg (List.toArray cs4)) (.agg (List.toArray cs5))) w3 = .ok (.bool q6) w3 ∧
 (bif q6 then
 (R (.returned (.int .i64 0)) w3)
 else
 (∀ w7 : World, w7 = World.drew w3 →
 ∃ x8 : Int, World.cell? w7 (Addr.add ⟨World.heap w |>.size, 0, none⟩ 0) = some (.int .i64 x8) ∧
 ∃ x9 : Int, World.cell? w7 (Addr.add ⟨World.heap w2 |>.size, 0, none⟩ 0) = some (.int .i64 x9) ∧
 ∃ x10 : Int, World.cell? w7 (Addr.add ⟨World.heap w |>.size, 0, none⟩ 1) = some (.int .i64 x10) ∧
 ∃ x11 : Int, World.cell? w7 (Addr.add ⟨World.heap w2 |>.size, 0, none⟩ 1) = some (.int .i64 x11) ∧
 Calls Tryd.prog 115 #[(.int .i64 x8), (.int .i64 x9)] w7 fun e12 w13 => ∃ x14 : Int, e12 = .returned (.int .i64 x14) ∧
 (∃ z15 : Int, World.cell? w13 (Addr.add ⟨World.heap w2 |>.size, 0, none⟩ 1) = some (.int .i64 z15) ∧
 (((.int .i64 z15) : Value) = (.int .i64 x11) ∧ w13 = w13)) ∧
 (∃ z16 : Int, World.cell? w13 (Addr.add ⟨World.heap w |>.size, 0, none⟩ 1) = some (.int .i64 z16) ∧
 (((.int .i64 z16) : Value) = (.int .i64 x10) ∧ w13 = w13)) ∧
 Calls Tryd.prog 116 #[(.int .i64 x10), (.int .i64 x11)] w13 fun e17 w18 => ∃ x19 : Int, e17 = .returned (.int .i64 x19) ∧
 ∃ cs20, fillL (.elems 1) (zrep (zc Tryd.prog 3) (2 * 1)) [(0, (.int .i64 x14)), (1, (.int .i64 x19))] = some cs20 ∧
 ∀ w21 : World, w21 = World.alloc w18 (.cells (List.toArray cs20) 3) →
 Calls Tryd.prog 114 #[(.slice (some ⟨World.heap w18 |>.size, 0, none⟩) 2 2)] w21 fun e22 w23 => ∃ x24 : Int, e22 = .returned (.int .i64 x24) ∧
 R (.returned (.int .i64 x24)) w23))
theorem e104 (a0 : Array Value) (b1 : Array Value) (w : World) (R : Ending → World → Prop) : denS Tryd.prog s104 (argsEnv 0 [(.agg a0), (.agg b1)]) w (endK r104 R) = d104 a0 b1 w R := by kernel_rfl
theorem c104 (a0 : Array Value) (b1 : Array Value) {w : World} {R : Ending → World → Prop} (h : d104 a0 b1 w R) : Calls Tryd.prog 104 #[(.agg a0), (.agg b1)] w R :=
  den104 [(.agg a0), (.agg b1)] w R (by simp) ((e104 a0 b1 w R).symm ▸ h)

/-- cmp.Or[int] -/
def s114 : S := (.seq (.ops [⟨(some 2), (.mv (.const (.int .i64 0))), (.int .i64), none⟩] [0])
 (.seq (.ops [⟨(some 3), (.mv (.const (.int .i64 0))), (.int .i64), none⟩] [0, 3])
 (.seq (.seq (.ops [⟨(some 6), (.mv (.tmp 0)), .sl, none⟩,
  ⟨(some 7), (.len (.tmp 6)), (.int .i64), none⟩,
  ⟨(some 8), (.mv (.const (.int .i64 0))), (.int .i64), none⟩] [8, 7, 6, 3])
 (.block 0
 (.loop [(8, (.int .i64))] [3, 6, 7]
 (.seq (.ops [⟨(some 9), (.bin .lss (.tmp 8) (.tmp 7)), .any, none⟩] [9, 6, 8, 3, 7])
 (.seq (.cond (.tmp 9)
 .skip
 (.exit 0))
 (.seq (.block 1
 (.seq (.ops [⟨(some 10), (.ia 1 (.tmp 6) (.tmp 8)), .ptr, none⟩,
  ⟨(some 11), (.ld1 (.tmp 10)), (.int .i64), none⟩,
  ⟨(some 5), (.mv (.tmp 11)), (.int .i64), none⟩] [5, 3, 8, 7, 6])
 (.seq (.ops [⟨(some 12), (.mv (.tmp 5)), (.int .i64), none⟩,
  ⟨(some 13), (.mv (.tmp 3)), (.int .i64), none⟩,
  ⟨(some 14), (.bin .neq (.tmp 12) (.tmp 13)), .bool, none⟩] [14, 5, 8, 7, 6, 3])
 (.cond (.tmp 14)
 (.seq (.ops [⟨(some 15), (.mv (.tmp 5)), (.int .i64), none⟩,
  ⟨(some 2), (.mv (.tmp 15)), (.int .i64), none⟩] [2])
 .ret)
 .skip))))
 (.ops [⟨(some 16), (.bin .add (.tmp 8) (.const (.int .i64 1))), (.int .i64), none⟩,
  ⟨(some 8), (.mv (.tmp 16)), (.int .i64), none⟩] [8, 7, 6, 3])))))))
 (.seq (.ops [⟨(some 17), (.mv (.tmp 3)), (.int .i64), none⟩,
  ⟨(some 2), (.mv (.tmp 17)), (.int .i64), none⟩] [2])
 .ret))))
def r114 : List Res := [.t 2]
theorem tr114 : trS Tryd.prog [] 18 (Tryd.f114.body.getD .skip) s114 = some s114 := by kernel_rfl
theorem den114 (args : List Value) (w : World) (R : Ending → World → Prop) (hn : args.length ≤ 18) (h : denS Tryd.prog s114 (argsEnv 0 args) w (endK r114 R)) : Calls Tryd.prog 114 args.toArray w R :=
  calls_of_den (pn := []) (fn := Tryd.f114) (c := Tryd.f114.body.getD .skip) Tryd.func114 (by kernel_rfl) (by rw [Tryd.ntmps114]; exact hn) (by rw [Tryd.ntmps114]; exact tr114) (by kernel_rfl) h
def d114 (vals0 : Option Addr) (vals0n : Nat) (vals0c : Nat) (w : World) (R : Ending → World → Prop) : Prop :=
 ∃ I1 : Nat → Int → World → Prop,
 (∃ m, I1 m 0 w) ∧
 (∀ (m2 : Nat) (w3 : World) (x4 : Int), I1 m2 x4 w3 →
 (bif (decide (x4 < ((vals0n : Nat) : Int))) then
 (0 ≤ x4 ∧ x4 < ((vals0n : Nat) : Int) ∧ optK vals0 fun a5 =>
 ∃ x6 : Int, World.cell? w3 (Addr.add a5 (Int.toNat x4 * 1)) = some (.int .i64 x6) ∧
 (bif (!decide (x6 = 0)) then
 (R (.returned (.int .i64 x6)) w3)
 else
 (∃ m7, m7 < m2 ∧ I1 m7 (IntKind.wrap .i64 (x4 + 1)) w3)))
 else
 (R (.returned (.int .i64 0)) w3)))
theorem e114 (vals0 : Option Addr) (vals0n : Nat) (vals0c : Nat) (w : World) (R : Ending → World → Prop) : denS Tryd.prog s114 (argsEnv 0 [(.slice vals0 vals0n vals0c)]) w (endK r114 R) = d114 vals0 vals0n vals0c w R := by kernel_rfl
theorem c114 (vals0 : Option Addr) (vals0n : Nat) (vals0c : Nat) {w : World} {R : Ending → World → Prop} (h : d114 vals0 vals0n vals0c w R) : Calls Tryd.prog 114 #[(.slice vals0 vals0n vals0c)] w R :=
  den114 [(.slice vals0 vals0n vals0c)] w R (by simp) ((e114 vals0 vals0n vals0c w R).symm ▸ h)

/-- cmp.Compare[int] -/
def s115 : S := (.seq (.ops [⟨(some 4), (.mv (.const (.int .i64 0))), (.int .i64), none⟩] [0, 1])
 (.seq (.ops [⟨(some 7), (.mv (.tmp 0)), (.int .i64), none⟩,
  ⟨(some 8), (.call 117 [(.tmp 7)] [.bool]), .bool, none⟩,
  ⟨(some 5), (.mv (.tmp 8)), .bool, none⟩] [1, 5, 0])
 (.seq (.ops [⟨(some 9), (.mv (.tmp 1)), (.int .i64), none⟩,
  ⟨(some 10), (.call 117 [(.tmp 9)] [.bool]), .bool, none⟩,
  ⟨(some 6), (.mv (.tmp 10)), .bool, none⟩] [5, 6, 0, 1])
 (.seq (.seq (.ops [⟨(some 11), (.mv (.tmp 5)), .bool, none⟩] [11, 6, 0, 1])
 (.cond (.tmp 11)
 (.seq (.seq (.ops [⟨(some 12), (.mv (.tmp 6)), .bool, none⟩] [12])
 (.cond (.tmp 12)
 (.seq (.ops [⟨(some 4), (.mv (.const (.int .i64 0))), (.int .i64), none⟩] [4])
 .ret)
 .skip))
 (.seq (.ops [⟨(some 4), (.mv (.const (.int .i64 (-1)))), (.int .i64), none⟩] [4])
 .ret))
 .skip))
 (.seq (.seq (.ops [⟨(some 13), (.mv (.tmp 6)), .bool, none⟩] [13, 0, 1])
 (.cond (.tmp 13)
 (.seq (.ops [⟨(some 4), (.mv (.const (.int .i64 1))), (.int .i64), none⟩] [4])
 .ret)
 .skip))
 (.seq (.seq (.ops [⟨(some 14), (.mv (.tmp 0)), (.int .i64), none⟩,
  ⟨(some 15), (.mv (.tmp 1)), (.int .i64), none⟩,
  ⟨(some 16), (.bin .lss (.tmp 14) (.tmp 15)), .bool, none⟩] [16, 0, 1])
 (.cond (.tmp 16)
 (.seq (.ops [⟨(some 4), (.mv (.const (.int .i64 (-1)))), (.int .i64), none⟩] [4])
 .ret)
 .skip))
 (.seq (.seq (.ops [⟨(some 17), (.mv (.tmp 0)), (.int .i64), none⟩,
  ⟨(some 18), (.mv (.tmp 1)), (.int .i64), none⟩,
  ⟨(some 19), (.bin .gtr (.tmp 17) (.tmp 18)), .bool, none⟩] [19])
 (.cond (.tmp 19)
 (.seq (.ops [⟨(some 4), (.mv (.const (.int .i64 1))), (.int .i64), none⟩] [4])
 .ret)
 .skip))
 (.seq (.ops [⟨(some 4), (.mv (.const (.int .i64 0))), (.int .i64), none⟩] [4])
 .ret))))))))
def r115 : List Res := [.t 4]
theorem tr115 : trS Tryd.prog [] 20 (Tryd.f115.body.getD .skip) s115 = some s115 := by kernel_rfl
theorem den115 (args : List Value) (w : World) (R : Ending → World → Prop) (hn : args.length ≤ 20) (h : denS Tryd.prog s115 (argsEnv 0 args) w (endK r115 R)) : Calls Tryd.prog 115 args.toArray w R :=
  calls_of_den (pn := []) (fn := Tryd.f115) (c := Tryd.f115.body.getD .skip) Tryd.func115 (by kernel_rfl) (by rw [Tryd.ntmps115]; exact hn) (by rw [Tryd.ntmps115]; exact tr115) (by kernel_rfl) h
def d115 (x0 : Int) (y1 : Int) (w : World) (R : Ending → World → Prop) : Prop :=
 Calls Tryd.prog 117 #[(.int .i64 x0)] w fun e2 w3 => ∃ x4 : Bool, e2 = .returned (.bool x4) ∧
 Calls Tryd.prog 117 #[(.int .i64 y1)] w3 fun e5 w6 => ∃ x7 : Bool, e5 = .returned (.bool x7) ∧
 (bif x4 then
 ((bif x7 then
 (R (.returned (.int .i64 0)) w6)
 else
 (R (.returned (.int .i64 (-1))) w6)))
 else
 ((bif x7 then
 (R (.returned (.int .i64 1)) w6)
 else
 ((bif (decide (x0 < y1)) then
 (R (.returned (.int .i64 (-1))) w6)
 else
 ((bif (decide (y1 < x0)) then
 (R (.returned (.int .i64 1)) w6)
 else
 (R (.returned (.int .i64 0)) w6))))))))
theorem e115 (x0 : Int) (y1 : Int) (w : World) (R : Ending → World → Prop) : denS Tryd.prog s115 (argsEnv 0 [(.int .i64 x0), (.int .i64 y1)]) w (endK r115 R) = d115 x0 y1 w R := by kernel_rfl
theorem c115 (x0 : Int) (y1 : Int) {w : World} {R : Ending → World → Prop} (h : d115 x0 y1 w R) : Calls Tryd.prog 115 #[(.int .i64 x0), (.int .i64 y1)] w R :=
  den115 [(.int .i64 x0), (.int .i64 y1)] w R (by simp) ((e115 x0 y1 w R).symm ▸ h)

/-- cmp.Compare[int64] -/
def s116 : S := (.seq (.ops [⟨(some 4), (.mv (.const (.int .i64 0))), (.int .i64), none⟩] [0, 1])
 (.seq (.ops [⟨(some 7), (.mv (.tmp 0)), (.int .i64), none⟩,
  ⟨(some 8), (.call 118 [(.tmp 7)] [.bool]), .bool, none⟩,
  ⟨(some 5), (.mv (.tmp 8)), .bool, none⟩] [1, 5, 0])
 (.seq (.ops [⟨(some 9), (.mv (.tmp 1)), (.int .i64), none⟩,
  ⟨(some 10), (.call 118 [(.tmp 9)] [.bool]), .bool, none⟩,
  ⟨(some 6), (.mv (.tmp 10)), .bool, none⟩] [5, 6, 0, 1])
 (.seq (.seq (.ops [⟨(some 11), (.mv (.tmp 5)), .bool, none⟩] [11, 6, 0, 1])
 (.cond (.tmp 11)
 (.seq (.seq (.ops [⟨(some 12), (.mv (.tmp 6)), .bool, none⟩] [12])
 (.cond (.tmp 12)
 (.seq (.ops [⟨(some 4), (.mv (.const (.int .i64 0))), (.int .i64), none⟩] [4])
 .ret)
 .skip))
 (.seq (.ops [⟨(some 4), (.mv (.const (.int .i64 (-1)))), (.int .i64), none⟩] [4])
 .ret))
 .skip))
 (.seq (.seq (.ops [⟨(some 13), (.mv (.tmp 6)), .bool, none⟩] [13, 0, 1])
 (.cond (.tmp 13)
 (.seq (.ops [⟨(some 4), (.mv (.const (.int .i64 1))), (.int .i64), none⟩] [4])
 .ret)
 .skip))
 (.seq (.seq (.ops [⟨(some 14), (.mv (.tmp 0)), (.int .i64), none⟩,
  ⟨(some 15), (.mv (.tmp 1)), (.int .i64), none⟩,
  ⟨(some 16), (.bin .lss (.tmp 14) (.tmp 15)), .bool, none⟩] [16, 0, 1])
 (.cond (.tmp 16)
 (.seq (.ops [⟨(some 4), (.mv (.const (.int .i64 (-1)))), (.int .i64), none⟩] [4])
 .ret)
 .skip))
 (.seq (.seq (.ops [⟨(some 17), (.mv (.tmp 0)), (.int .i64), none⟩,
  ⟨(some 18), (.mv (.tmp 1)), (.int .i64), none⟩,
  ⟨(some 19), (.bin .gtr (.tmp 17) (.tmp 18)), .bool, none⟩] [19])
 (.cond (.tmp 19)
 (.seq (.ops [⟨(some 4), (.mv (.const (.int .i64 1))), (.int .i64), none⟩] [4])
 .ret)
 .skip))
 (.seq (.ops [⟨(some 4), (.mv (.const (.int .i64 0))), (.int .i64), none⟩] [4])
 .ret))))))))
def r116 : List Res := [.t 4]
theorem tr116 : trS Tryd.prog [] 20 (Tryd.f116.body.getD .skip) s116 = some s116 := by kernel_rfl
theorem den116 (args : List Value) (w : World) (R : Ending → World → Prop) (hn : args.length ≤ 20) (h : denS Tryd.prog s116 (argsEnv 0 args) w (endK r116 R)) : Calls Tryd.prog 116 args.toArray w R :=
  calls_of_den (pn := []) (fn := Tryd.f116) (c := Tryd.f116.body.getD .skip) Tryd.func116 (by kernel_rfl) (by rw [Tryd.ntmps116]; exact hn) (by rw [Tryd.ntmps116]; exact tr116) (by kernel_rfl) h
def d116 (x0 : Int) (y1 : Int) (w : World) (R : Ending → World → Prop) : Prop :=
 Calls Tryd.prog 118 #[(.int .i64 x0)] w fun e2 w3 => ∃ x4 : Bool, e2 = .returned (.bool x4) ∧
 Calls Tryd.prog 118 #[(.int .i64 y1)] w3 fun e5 w6 => ∃ x7 : Bool, e5 = .returned (.bool x7) ∧
 (bif x4 then
 ((bif x7 then
 (R (.returned (.int .i64 0)) w6)
 else
 (R (.returned (.int .i64 (-1))) w6)))
 else
 ((bif x7 then
 (R (.returned (.int .i64 1)) w6)
 else
 ((bif (decide (x0 < y1)) then
 (R (.returned (.int .i64 (-1))) w6)
 else
 ((bif (decide (y1 < x0)) then
 (R (.returned (.int .i64 1)) w6)
 else
 (R (.returned (.int .i64 0)) w6))))))))
theorem e116 (x0 : Int) (y1 : Int) (w : World) (R : Ending → World → Prop) : denS Tryd.prog s116 (argsEnv 0 [(.int .i64 x0), (.int .i64 y1)]) w (endK r116 R) = d116 x0 y1 w R := by kernel_rfl
theorem c116 (x0 : Int) (y1 : Int) {w : World} {R : Ending → World → Prop} (h : d116 x0 y1 w R) : Calls Tryd.prog 116 #[(.int .i64 x0), (.int .i64 y1)] w R :=
  den116 [(.int .i64 x0), (.int .i64 y1)] w R (by simp) ((e116 x0 y1 w R).symm ▸ h)

/-- cmp.isNaN[int] -/
def s117 : S := (.seq (.ops [⟨(some 2), (.mv (.const (.bool false))), .bool, none⟩] [0])
 (.seq (.ops [⟨(some 3), (.mv (.tmp 0)), (.int .i64), none⟩,
  ⟨(some 4), (.mv (.tmp 0)), (.int .i64), none⟩,
  ⟨(some 5), (.bin .neq (.tmp 3) (.tmp 4)), .bool, none⟩,
  ⟨(some 2), (.mv (.tmp 5)), .bool, none⟩] [2])
 .ret))
def r117 : List Res := [.t 2]
theorem tr117 : trS Tryd.prog [] 6 (Tryd.f117.body.getD .skip) s117 = some s117 := by kernel_rfl
theorem den117 (args : List Value) (w : World) (R : Ending → World → Prop) (hn : args.length ≤ 6) (h : denS Tryd.prog s117 (argsEnv 0 args) w (endK r117 R)) : Calls Tryd.prog 117 args.toArray w R :=
  calls_of_den (pn := []) (fn := Tryd.f117) (c := Tryd.f117.body.getD .skip) Tryd.func117 (by kernel_rfl) (by rw [Tryd.ntmps117]; exact hn) (by rw [Tryd.ntmps117]; exact tr117) (by kernel_rfl) h
def d117 (x0 : Int) (w : World) (R : Ending → World → Prop) : Prop :=
 R (.returned (.bool (!decide (x0 = x0)))) w
theorem e117 (x0 : Int) (w : World) (R : Ending → World → Prop) : denS Tryd.prog s117 (argsEnv 0 [(.int .i64 x0)]) w (endK r117 R) = d117 x0 w R := by kernel_rfl
theorem c117 (x0 : Int) {w : World} {R : Ending → World → Prop} (h : d117 x0 w R) : Calls Tryd.prog 117 #[(.int .i64 x0)] w R :=
  den117 [(.int .i64 x0)] w R (by simp) ((e117 x0 w R).symm ▸ h)

/-- cmp.isNaN[int64] -/
def s118 : S := (.seq (.ops [⟨(some 2), (.mv (.const (.bool false))), .bool, none⟩] [0])
 (.seq (.ops [⟨(some 3), (.mv (.tmp 0)), (.int .i64), none⟩,
  ⟨(some 4), (.mv (.tmp 0)), (.int .i64), none⟩,
  ⟨(some 5), (.bin .neq (.tmp 3) (.tmp 4)), .bool, none⟩,
  ⟨(some 2), (.mv (.tmp 5)), .bool, none⟩] [2])
 .ret))
def r118 : List Res := [.t 2]
theorem tr118 : trS Tryd.prog [] 6 (Tryd.f118.body.getD .skip) s118 = some s118 := by kernel_rfl
theorem den118 (args : List Value) (w : World) (R : Ending → World → Prop) (hn : args.length ≤ 6) (h : denS Tryd.prog s118 (argsEnv 0 args) w (endK r118 R)) : Calls Tryd.prog 118 args.toArray w R :=
  calls_of_den (pn := []) (fn := Tryd.f118) (c := Tryd.f118.body.getD .skip) Tryd.func118 (by kernel_rfl) (by rw [Tryd.ntmps118]; exact hn) (by rw [Tryd.ntmps118]; exact tr118) (by kernel_rfl) h
def d118 (x0 : Int) (w : World) (R : Ending → World → Prop) : Prop :=
 R (.returned (.bool (!decide (x0 = x0)))) w
theorem e118 (x0 : Int) (w : World) (R : Ending → World → Prop) : denS Tryd.prog s118 (argsEnv 0 [(.int .i64 x0)]) w (endK r118 R) = d118 x0 w R := by kernel_rfl
theorem c118 (x0 : Int) {w : World} {R : Ending → World → Prop} (h : d118 x0 w R) : Calls Tryd.prog 118 #[(.int .i64 x0)] w R :=
  den118 [(.int .i64 x0)] w R (by simp) ((e118 x0 w R).symm ▸ h)

end Go.Proofs.YtjchneebdlncfaaDoor.Fn
namespace Go.Proofs.YtjchneebdlncfaaDoor.Den
open Go
open Go.RowKit (Below)
/-- A block whose elements' type is known. -/
def BlkT (w : World) (b : Nat) (T : TypeId) (cs : List Value) : Prop := w.heap[b]? = some (.cells cs.toArray T (0, 0))
theorem BlkT.blk {w : World} {b : Nat} {T : TypeId} {cs : List Value} (h : BlkT w b T cs) : Blk w b cs := ⟨T, h⟩
theorem BlkT.new (w : World) (c : Array Value) (T : TypeId) : BlkT (w.alloc (.cells c T)) w.heap.size T c.toList := by show (w.heap.push _)[w.heap.size]? = _; simp
theorem BlkT.own {w : World} {b : Nat} {e : TypeId} {cs : List Value} (h : BlkT w b e cs) {base size n : Nat} (hb : base ≤ b) (hn : cs.length = n * size) (hm : n ≤ 9223372036854775807) : w.ownsRow base e size (.slice (some ⟨b, 0, none⟩) n n) n cs :=
  ⟨hn, .inr ⟨b, n, cs.toArray, rfl, hb, h, Nat.le_refl _, by unfold maxLen; exact hm, by simpa using hn, by rw [List.toList_toArray]; exact List.take_of_length_le (Nat.le_of_eq hn)⟩⟩
end Go.Proofs.YtjchneebdlncfaaDoor.Den
