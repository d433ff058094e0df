/-
  THE CHECK SUM, as bits: a step of one bit, a table's step of four bits, a byte.
  THE CODE of some functions of the given program, resolved, and proved to ask what the readable texts (d..) say; contracts c.. follow. Printed by a small program of mine.
  WORDS FOR CONTRACTS: append, and where the new slice lies; of one element likewise; facts about owned rows.
  CHECK SUMS AND RECORDS: contracts of Sum, back, Unseal, and of the reference's.
  WHAT THE CARDS OF THESE LAWS SHARE: the table as the rows list it, a world for the witnesses, arguments that are bytes or plain structs.
  Own work. No macro, syntax, notation, axiom.
-/
import Derived.Test.YtjchneebdlncfaaDoorFrmPk3
import Derived.Test.YtjchneebdlncfaaDoorProg
import Derived.Maps.AppendAt
import Derived.Test.YtjchneebdlncfaaDoorCards
import Derived.Test.YtjchneebdlncfaaDoorTie
import Derived.Stop.LaidErr
namespace Go.Proofs.YtjchneebdlncfaaDoor.Lib
open Go Den
set_option maxRecDepth 8000
/-! ### Numbers of 32 bits -/
theorem ofInt_toNat {n : Nat} (s : BitVec n) : BitVec.ofInt n (s.toNat : Int) = s := by
  apply BitVec.eq_of_toNat_eq
  rw [BitVec.toNat_ofInt, Int.emod_eq_of_lt (by omega) (by have := s.isLt; exact_mod_cast this), Int.toNat_natCast]
theorem xor32 (s t : BitVec 32) : bXor .u32 (s.toNat : Int) (t.toNat : Int) = ((s ^^^ t).toNat : Int) := by
  unfold bXor
  show IntKind.wrap .u32 (((BitVec.ofInt 32 _ ^^^ BitVec.ofInt 32 _).toNat : Nat) : Int) = _
  rw [ofInt_toNat, ofInt_toNat, wrap_u32 (by omega) (by have := (s ^^^ t).isLt; omega)]
theorem and32 (s t : BitVec 32) : bAnd .u32 (s.toNat : Int) (t.toNat : Int) = ((s &&& t).toNat : Int) := by
  unfold bAnd
  show IntKind.wrap .u32 (((BitVec.ofInt 32 _ &&& BitVec.ofInt 32 _).toNat : Nat) : Int) = _
  rw [ofInt_toNat, ofInt_toNat, wrap_u32 (by omega) (by have := (s &&& t).isLt; omega)]
theorem shr32 (s : BitVec 32) (k : Nat) (hk : k ≤ 32) : shR .u32 (s.toNat : Int) (k : Int) = ((s >>> k).toNat : Int) := by
  unfold shR
  show Int.fdiv (s.toNat : Int) (2 ^ (min (Int.toNat (k : Int)) 32)) = _
  rw [Int.toNat_natCast, Nat.min_eq_left hk, BitVec.toNat_ushiftRight, Nat.shiftRight_eq_div_pow]
  rw [Int.fdiv_eq_ediv_of_nonneg _ (by exact Int.pow_nonneg (by omega))]
  norm_cast
theorem and15 (s : BitVec 32) : bAnd .u32 (s.toNat : Int) 15 = ((s.toNat % 16 : Nat) : Int) := by
  have := and32 s 15#32
  rw [show ((15#32 : BitVec 32).toNat : Int) = 15 from rfl] at this
  rw [this, BitVec.toNat_and]
  congr 1
  exact Nat.and_two_pow_sub_one_eq_mod _ 4

/-! ### Steps -/
def P32 : BitVec 32 := 3988292384#32
def cs (s : BitVec 32) : BitVec 32 := (s >>> 1) ^^^ (bif s.getLsbD 0 then P32 else 0#32)
theorem cs_xor (a b : BitVec 32) : cs (a ^^^ b) = cs a ^^^ cs b := by
  unfold cs
  rw [BitVec.getLsbD_xor, BitVec.ushiftRight_xor_distrib]
  generalize a >>> 1 = x
  generalize b >>> 1 = y
  have h : ∀ p q : BitVec 32, p = q → (x ^^^ p) ^^^ (y ^^^ q) = x ^^^ y := by
    rintro p _ rfl
    rw [show (x ^^^ p) ^^^ (y ^^^ p) = (x ^^^ y) ^^^ (p ^^^ p) by ac_rfl, BitVec.xor_self, BitVec.xor_zero]
  cases a.getLsbD 0 <;> cases b.getLsbD 0
  · simp
  · simp [BitVec.xor_assoc]
  · simp only [Bool.true_xor, Bool.not_false, cond_true, cond_false, BitVec.xor_zero]; ac_rfl
  · simp only [Bool.true_xor, Bool.not_true, cond_true, cond_false, BitVec.xor_zero]; exact (h _ _ rfl).symm
def cs4 (s : BitVec 32) : BitVec 32 := cs (cs (cs (cs s)))
theorem cs4_xor (a b : BitVec 32) : cs4 (a ^^^ b) = cs4 a ^^^ cs4 b := by simp only [cs4, cs_xor]
theorem cs_even {a : BitVec 32} (h : a.getLsbD 0 = false) : cs a = a >>> 1 := by unfold cs; rw [h, cond_false, BitVec.xor_zero]
theorem shr_shr (a : BitVec 32) (i j : Nat) : (a >>> i) >>> j = a >>> (i + j) := by
  apply BitVec.eq_of_getLsbD_eq
  intro k hk
  simp [BitVec.getLsbD_ushiftRight, Nat.add_assoc]
theorem cs4_high {a : BitVec 32} (h : ∀ i, i < 4 → a.getLsbD i = false) : cs4 a = a >>> 4 := by
  unfold cs4
  rw [cs_even (h 0 (by omega)), cs_even (a := a >>> 1) (by rw [BitVec.getLsbD_ushiftRight]; exact h 1 (by omega)), shr_shr,
    cs_even (a := a >>> (1 + 1)) (by rw [BitVec.getLsbD_ushiftRight]; exact h 2 (by omega)), shr_shr,
    cs_even (a := a >>> (1 + 1 + 1)) (by rw [BitVec.getLsbD_ushiftRight]; exact h 3 (by omega)), shr_shr]
def halves : List Int := [0, 498536548, 997073096, 651767980, 1994146192, 1802195444, 1303535960, 1342533948, 3988292384, 4027552580, 3604390888, 3412177804, 2607071920, 2262029012, 2685067896, 3183342108]
theorem halves_spec : ∀ i : Fin 16, halves.getD i.val 0 = ((cs4 (BitVec.ofNat 32 i.val)).toNat : Int) := by decide
theorem split4 (s : BitVec 32) : s = (s &&& 4294967280#32) ^^^ BitVec.ofNat 32 (s.toNat % 16) := by
  have h1 : BitVec.ofNat 32 (s.toNat % 16) = s &&& 15#32 := by
    apply BitVec.eq_of_toNat_eq
    rw [BitVec.toNat_ofNat, BitVec.toNat_and]
    have := Nat.and_two_pow_sub_one_eq_mod s.toNat 4
    simp only [show (15#32 : BitVec 32).toNat = 2 ^ 4 - 1 from rfl, this]
    omega
  rw [h1]
  apply BitVec.eq_of_getLsbD_eq
  intro i hi
  rw [BitVec.getLsbD_xor, BitVec.getLsbD_and, BitVec.getLsbD_and]
  have : (4294967280#32).getLsbD i = !(15#32 : BitVec 32).getLsbD i := by
    have : ∀ i : Fin 32, (4294967280#32).getLsbD i.val = !(15#32 : BitVec 32).getLsbD i.val := by decide
    exact this ⟨i, hi⟩
  rw [this]
  cases s.getLsbD i <;> cases (15#32 : BitVec 32).getLsbD i <;> rfl
/-- The table's step. -/
theorem half_step (s : BitVec 32) : bXor .u32 (shR .u32 (s.toNat : Int) 4) (halves.getD (bAnd .u32 (s.toNat : Int) 15).toNat 0) = ((cs4 s).toNat : Int) := by
  have h1 : s.toNat % 16 < 16 := Nat.mod_lt _ (by omega)
  rw [and15, Int.toNat_natCast, halves_spec ⟨s.toNat % 16, h1⟩, show (4 : Int) = ((4 : Nat) : Int) from rfl, shr32 s 4 (by omega), xor32]
  congr 2
  show _ ^^^ cs4 (BitVec.ofNat 32 (s.toNat % 16)) = _
  have hx : cs4 s = cs4 (s &&& 4294967280#32) ^^^ cs4 (BitVec.ofNat 32 (s.toNat % 16)) := by rw [← cs4_xor, ← split4]
  rw [hx, cs4_high (a := s &&& 4294967280#32)]
  · congr 1
    apply BitVec.eq_of_getLsbD_eq
    intro i hi
    rw [BitVec.getLsbD_ushiftRight, BitVec.getLsbD_ushiftRight, BitVec.getLsbD_and]
    have : ∀ i : Fin 28, (4294967280#32).getLsbD (4 + i.val) = true := by decide
    by_cases h : i < 28
    · rw [this ⟨i, h⟩, Bool.and_true]
    · rw [BitVec.getLsbD_of_ge _ _ (by omega), Bool.false_and]
  · intro i hi
    rw [BitVec.getLsbD_and]
    have : ∀ i : Fin 4, (4294967280#32).getLsbD i.val = false := by decide
    rw [this ⟨i, hi⟩, Bool.and_false]
def cb (s : BitVec 32) (c : Int) : BitVec 32 := cs4 (cs4 (s ^^^ BitVec.ofInt 32 c))
def crcF (l : List Int) : BitVec 32 := l.foldl cb 4294967295#32
/-- The check sum of some bytes. -/
def crc (l : List Int) : Int := ((crcF l ^^^ 4294967295#32).toNat : Int)
theorem crcF_snoc (l : List Int) (c : Int) : crcF (l ++ [c]) = cb (crcF l) c := by simp [crcF]
/-! ### Bit by bit -/
def csN : Nat → BitVec 32 → BitVec 32
  | 0, s => s
  | k + 1, s => cs (csN k s)
theorem csN_xor : ∀ (k : Nat) (a b : BitVec 32), csN k (a ^^^ b) = csN k a ^^^ csN k b
  | 0, _, _ => rfl
  | k + 1, a, b => by simp only [csN, csN_xor k, cs_xor]
def bitAt (c k : Nat) : Nat := c / 2 ^ k % 2
theorem low_step : ∀ (c : Fin 256) (k : Fin 8), BitVec.ofNat 32 (c.val % 2 ^ (k.val + 1)) = BitVec.ofNat 32 (c.val % 2 ^ k.val) ^^^ BitVec.ofNat 32 (bitAt c.val k.val * 2 ^ k.val) ∧ csN k.val (BitVec.ofNat 32 (bitAt c.val k.val * 2 ^ k.val)) = BitVec.ofNat 32 (bitAt c.val k.val) := by decide +kernel
/-- The state within a byte, before its k-th bit. -/
def rb (s : BitVec 32) (c k : Nat) : BitVec 32 := csN k (s ^^^ BitVec.ofNat 32 (c % 2 ^ k))
theorem rb_zero (s : BitVec 32) (c : Nat) : rb s c 0 = s := by
  show s ^^^ BitVec.ofNat 32 (c % 1) = s
  rw [Nat.mod_one]
  exact BitVec.xor_zero
theorem rb_eight (s : BitVec 32) {c : Nat} (hc : c < 256) : rb s c 8 = cb s (c : Int) := by
  unfold rb cb
  rw [Nat.mod_eq_of_lt (show c < 2 ^ 8 from hc), BitVec.ofInt_natCast]
  rfl
theorem rb_succ (s : BitVec 32) {c k : Nat} (hc : c < 256) (hk : k < 8) : rb s c (k + 1) = cs (rb s c k ^^^ BitVec.ofNat 32 (bitAt c k)) := by
  obtain ⟨h1, h2⟩ := low_step ⟨c, hc⟩ ⟨k, hk⟩
  simp only at h1 h2
  unfold rb
  show cs (csN k _) = _
  rw [h1, ← BitVec.xor_assoc, csN_xor k (s ^^^ _), h2]
theorem and1 (s : BitVec 32) : bAnd .u32 (s.toNat : Int) 1 = ((s.toNat % 2 : Nat) : Int) := by
  have := and32 s 1#32
  rw [show ((1#32 : BitVec 32).toNat : Int) = 1 from rfl] at this
  rw [this, BitVec.toNat_and]
  congr 1
  exact Nat.and_two_pow_sub_one_eq_mod _ 1
/-- What the reference does with a bit. -/
theorem bit_step (s : BitVec 32) {b : Nat} (hb : b < 2) :
    (bif !decide ((b : Int) = bAnd .u32 (s.toNat : Int) 1) then bXor .u32 (shR .u32 (s.toNat : Int) 1) 3988292384 else shR .u32 (s.toNat : Int) 1) = ((cs (s ^^^ BitVec.ofNat 32 b)).toNat : Int) := by
  have hP : (3988292384 : Int) = (P32.toNat : Int) := rfl
  rw [and1, show (1 : Int) = ((1 : Nat) : Int) from rfl, shr32 s 1 (by omega), hP, xor32, cs_xor]
  have e0 : cs (BitVec.ofNat 32 0) = 0#32 := rfl
  have e1 : cs (BitVec.ofNat 32 1) = P32 := rfl
  have hl : s.getLsbD 0 = decide (s.toNat % 2 = 1) := by
    show s.toNat.testBit 0 = _
    rw [Nat.testBit_zero]
  unfold cs at *
  rw [hl]
  rcases Nat.mod_two_eq_zero_or_one s.toNat with h | h
  · rw [h]
    obtain rfl | rfl : b = 0 ∨ b = 1 := by omega
    · simp
    · rw [e1]; simp
  · rw [h]
    obtain rfl | rfl : b = 0 ∨ b = 1 := by omega
    · rw [e0]; simp
    · rw [e1]; simp [BitVec.xor_assoc]
end Go.Proofs.YtjchneebdlncfaaDoor.Lib
set_option maxRecDepth 100000
namespace Go.Proofs.YtjchneebdlncfaaDoor.Fn
open Go Den
/-- prelude/codec.Sum -/
def s59 : S := (.seq (.ops [⟨(some 2), (.mv (.const (.int .u32 0))), (.int .u32), none⟩] [0])
 (.seq (.ops [⟨(some 3), (.mv (.const (.int .u32 4294967295))), (.int .u32), none⟩] [0, 3])
 (.seq (.seq (.ops [⟨(some 6), (.mv (.tmp 0)), .sl, none⟩,
  ⟨(some 7), (.len (.tmp 6)), (.int .i64), none⟩,
  ⟨(some 8), (.mv (.const (.int .i64 0))), (.int .i64), none⟩] [8, 7, 6, 3])
 (.block 0
 (.loop [(3, (.int .u32)), (8, (.int .i64))] [6, 7]
 (.seq (.ops [⟨(some 9), (.bin .lss (.tmp 8) (.tmp 7)), .any, none⟩] [9, 6, 8, 3, 7])
 (.seq (.cond (.tmp 9)
 .skip
 (.exit 0))
 (.seq (.block 1
 (.seq (.ops [⟨(some 10), (.ia 1 (.tmp 6) (.tmp 8)), .ptr, none⟩,
  ⟨(some 11), (.ld1 (.tmp 10)), (.int .u8), none⟩,
  ⟨(some 5), (.mv (.tmp 11)), (.int .u8), none⟩] [3, 5, 8, 7, 6])
 (.seq (.ops [⟨(some 12), (.mv (.tmp 3)), (.int .u32), none⟩,
  ⟨(some 13), (.mv (.tmp 5)), (.int .u8), none⟩,
  ⟨(some 14), (.cv .u32 (.tmp 13)), (.int .u32), none⟩,
  ⟨(some 15), (.bin .xor (.tmp 12) (.tmp 14)), (.int .u32), none⟩,
  ⟨(some 3), (.mv (.tmp 15)), (.int .u32), none⟩] [3, 8, 7, 6])
 (.seq (.ops [⟨(some 16), (.mv (.tmp 3)), (.int .u32), none⟩,
  ⟨(some 17), (.bin .shr (.tmp 16) (.const (.int .u64 4))), (.int .u32), none⟩,
  ⟨(some 18), (.mv (.tmp 3)), (.int .u32), none⟩,
  ⟨(some 19), (.bin .and (.tmp 18) (.const (.int .u32 15))), (.int .u32), none⟩,
  ⟨(some 20), (.iaA 16 1 (.global 0) (.tmp 19)), .ptr, none⟩,
  ⟨(some 21), (.ld1 (.tmp 20)), (.int .u32), none⟩,
  ⟨(some 22), (.bin .xor (.tmp 17) (.tmp 21)), (.int .u32), none⟩,
  ⟨(some 3), (.mv (.tmp 22)), (.int .u32), none⟩] [3, 8, 7, 6])
 (.ops [⟨(some 23), (.mv (.tmp 3)), (.int .u32), none⟩,
  ⟨(some 24), (.bin .shr (.tmp 23) (.const (.int .u64 4))), (.int .u32), none⟩,
  ⟨(some 25), (.mv (.tmp 3)), (.int .u32), none⟩,
  ⟨(some 26), (.bin .and (.tmp 25) (.const (.int .u32 15))), (.int .u32), none⟩,
  ⟨(some 27), (.iaA 16 1 (.global 0) (.tmp 26)), .ptr, none⟩,
  ⟨(some 28), (.ld1 (.tmp 27)), (.int .u32), none⟩,
  ⟨(some 29), (.bin .xor (.tmp 24) (.tmp 28)), (.int .u32), none⟩,
  ⟨(some 3), (.mv (.tmp 29)), (.int .u32), none⟩] [8, 7, 6, 3])))))
 (.ops [⟨(some 30), (.bin .add (.tmp 8) (.const (.int .i64 1))), (.int .i64), none⟩,
  ⟨(some 8), (.mv (.tmp 30)), (.int .i64), none⟩] [8, 7, 6, 3])))))))
 (.seq (.ops [⟨(some 31), (.mv (.tmp 3)), (.int .u32), none⟩,
  ⟨(some 32), (.un .xor (.tmp 31)), (.int .u32), none⟩,
  ⟨(some 2), (.mv (.tmp 32)), (.int .u32), none⟩] [2])
 .ret))))
def r59 : List Res := [.t 2]
theorem tr59 : trS Tryd.prog [] 33 (Tryd.f59.body.getD .skip) s59 = some s59 := by kernel_rfl
theorem den59 (args : List Value) (w : World) (R : Ending → World → Prop) (hn : args.length ≤ 33) (h : denS Tryd.prog s59 (argsEnv 0 args) w (endK r59 R)) : Calls Tryd.prog 59 args.toArray w R :=
  calls_of_den (pn := []) (fn := Tryd.f59) (c := Tryd.f59.body.getD .skip) Tryd.func59 (by kernel_rfl) (by rw [Tryd.ntmps59]; exact hn) (by rw [Tryd.ntmps59]; exact tr59) (by kernel_rfl) h
def d59 (b0 : Option Addr) (b0n : Nat) (b0c : Nat) (w : World) (R : Ending → World → Prop) : Prop :=
 ∃ I1 : Nat → Int → Int → World → Prop,
 (∃ m, I1 m 4294967295 0 w) ∧
 (∀ (m2 : Nat) (w3 : World) (s4 : Int) (x5 : Int), I1 m2 s4 x5 w3 →
 (bif (decide (x5 < ((b0n : Nat) : Int))) then
 (0 ≤ x5 ∧ x5 < ((b0n : Nat) : Int) ∧ optK b0 fun a6 =>
 ∃ x7 : Int, World.cell? w3 (Addr.add a6 (Int.toNat x5 * 1)) = some (.int .u8 x7) ∧
 0 ≤ (4 : Int) ∧ 0 ≤ (bAnd .u32 (bXor .u32 s4 (IntKind.wrap .u32 x7)) 15) ∧ (bAnd .u32 (bXor .u32 s4 (IntKind.wrap .u32 x7)) 15) < ((16 : Nat) : Int) ∧
 ∃ x8 : Int, World.cell? w3 (Addr.add ⟨0, 0, none⟩ (Int.toNat (bAnd .u32 (bXor .u32 s4 (IntKind.wrap .u32 x7)) 15) * 1)) = some (.int .u32 x8) ∧
 0 ≤ (4 : Int) ∧ 0 ≤ (bAnd .u32 (bXor .u32 (shR .u32 (bXor .u32 s4 (IntKind.wrap .u32 x7)) 4) x8) 15) ∧ (bAnd .u32 (bXor .u32 (shR .u32 (bXor .u32 s4 (IntKind.wrap .u32 x7)) 4) x8) 15) < ((16 : Nat) : Int) ∧
 ∃ x9 : Int, World.cell? w3 (Addr.add ⟨0, 0, none⟩ (Int.toNat (bAnd .u32 (bXor .u32 (shR .u32 (bXor .u32 s4 (IntKind.wrap .u32 x7)) 4) x8) 15) * 1)) = some (.int .u32 x9) ∧
 ∃ m10, m10 < m2 ∧ I1 m10 (bXor .u32 (shR .u32 (bXor .u32 (shR .u32 (bXor .u32 s4 (IntKind.wrap .u32 x7)) 4) x8) 4) x9) (IntKind.wrap .i64 (x5 + 1)) w3)
 else
 (R (.returned (.int .u32 (bXor .u32 (IntKind.max .u32) s4))) w3)))
theorem e59 (b0 : Option Addr) (b0n : Nat) (b0c : Nat) (w : World) (R : Ending → World → Prop) : denS Tryd.prog s59 (argsEnv 0 [(.slice b0 b0n b0c)]) w (endK r59 R) = d59 b0 b0n b0c w R := by kernel_rfl
theorem c59 (b0 : Option Addr) (b0n : Nat) (b0c : Nat) {w : World} {R : Ending → World → Prop} (h : d59 b0 b0n b0c w R) : Calls Tryd.prog 59 #[(.slice b0 b0n b0c)] w R :=
  den59 [(.slice b0 b0n b0c)] w R (by simp) ((e59 b0 b0n b0c w R).symm ▸ h)

/-- prelude/codec.four -/
def s69 : S := (.seq (.ops [⟨(some 4), (.mv (.const (.slice none 0 0))), .sl, none⟩] [0, 1])
 (.seq (.ops [⟨(some 5), (.mv (.tmp 0)), .sl, none⟩,
  ⟨(some 6), (.mv (.tmp 1)), (.int .u32), none⟩,
  ⟨(some 7), (.cv .u8 (.tmp 6)), (.int .u8), none⟩,
  ⟨(some 8), (.mv (.tmp 1)), (.int .u32), none⟩,
  ⟨(some 9), (.bin .shr (.tmp 8) (.const (.int .u64 8))), (.int .u32), none⟩,
  ⟨(some 10), (.cv .u8 (.tmp 9)), (.int .u8), none⟩,
  ⟨(some 11), (.mv (.tmp 1)), (.int .u32), none⟩,
  ⟨(some 12), (.bin .shr (.tmp 11) (.const (.int .u64 16))), (.int .u32), none⟩,
  ⟨(some 13), (.cv .u8 (.tmp 12)), (.int .u8), none⟩,
  ⟨(some 14), (.mv (.tmp 1)), (.int .u32), none⟩,
  ⟨(some 15), (.bin .shr (.tmp 14) (.const (.int .u64 24))), (.int .u32), none⟩,
  ⟨(some 16), (.cv .u8 (.tmp 15)), (.int .u8), none⟩,
  ⟨(some 17), (.bldS 5 4 1 [(0, (.tmp 7)), (1, (.tmp 10)), (2, (.tmp 13)), (3, (.tmp 16))]), .sl, none⟩,
  ⟨(some 18), (.app #[22, 22] 22 (.tmp 5) (.tmp 17)), .sl, none⟩,
  ⟨(some 4), (.mv (.tmp 18)), .sl, none⟩] [4])
 .ret))
def r69 : List Res := [.t 4]
theorem tr69 : trS Tryd.prog [] 19 (Tryd.f69.body.getD .skip) s69 = some s69 := by kernel_rfl
theorem den69 (args : List Value) (w : World) (R : Ending → World → Prop) (hn : args.length ≤ 19) (h : denS Tryd.prog s69 (argsEnv 0 args) w (endK r69 R)) : Calls Tryd.prog 69 args.toArray w R :=
  calls_of_den (pn := []) (fn := Tryd.f69) (c := Tryd.f69.body.getD .skip) Tryd.func69 (by kernel_rfl) (by rw [Tryd.ntmps69]; exact hn) (by rw [Tryd.ntmps69]; exact tr69) (by kernel_rfl) h
def d69 (b0 : Option Addr) (b0n : Nat) (b0c : Nat) (n1 : Int) (w : World) (R : Ending → World → Prop) : Prop :=
 0 ≤ (8 : Int) ∧ 0 ≤ (16 : Int) ∧ 0 ≤ (24 : Int) ∧ ∃ cs2, fillL (.elems 1) (zrep (zc Tryd.prog 5) (4 * 1)) [(0, (.int .u8 (IntKind.wrap .u8 n1))), (1, (.int .u8 (IntKind.wrap .u8 (shR .u32 n1 8)))), (2, (.int .u8 (IntKind.wrap .u8 (shR .u32 n1 16)))), (3, (.int .u8 (IntKind.wrap .u8 (shR .u32 n1 24))))] = some cs2 ∧
 ∀ w3 : World, w3 = World.alloc w (.cells (List.toArray cs2) 5) →
 RunV Tryd.prog (Builtin.append_ #[22, 22] 22 #[(.slice b0 b0n b0c), (.slice (some ⟨World.heap w |>.size, 0, none⟩) 4 4)]) w3 fun v4 w5 => ∃ (x6 : Option Addr) (x6n : Nat) (x6c : Nat), v4 = (.slice x6 x6n x6c) ∧
 R (.returned (.slice x6 x6n x6c)) w5
theorem e69 (b0 : Option Addr) (b0n : Nat) (b0c : Nat) (n1 : Int) (w : World) (R : Ending → World → Prop) : denS Tryd.prog s69 (argsEnv 0 [(.slice b0 b0n b0c), (.int .u32 n1)]) w (endK r69 R) = d69 b0 b0n b0c n1 w R := by kernel_rfl
theorem c69 (b0 : Option Addr) (b0n : Nat) (b0c : Nat) (n1 : Int) {w : World} {R : Ending → World → Prop} (h : d69 b0 b0n b0c n1 w R) : Calls Tryd.prog 69 #[(.slice b0 b0n b0c), (.int .u32 n1)] w R :=
  den69 [(.slice b0 b0n b0c), (.int .u32 n1)] w R (by simp) ((e69 b0 b0n b0c n1 w R).symm ▸ h)

/-- prelude/codec.back -/
def s60 : S := (.seq (.ops [⟨(some 2), (.mv (.const (.int .u32 0))), (.int .u32), none⟩] [0])
 (.seq (.draw (.take 0 ⟨(some 3), (.mv (.tmp 0)), .sl, none⟩
  (.take 1 ⟨(some 4), (.ia 1 (.tmp 3) (.const (.int .i64 0))), .ptr, none⟩
  (.take 2 ⟨(some 5), (.ld1 (.tmp 4)), (.int .u8), none⟩
  (.take 3 ⟨(some 6), (.cv .u32 (.tmp 5)), (.int .u32), none⟩
  (.take 4 ⟨(some 7), (.mv (.tmp 0)), .sl, none⟩
  (.take 5 ⟨(some 8), (.ia 1 (.tmp 7) (.const (.int .i64 1))), .ptr, none⟩
  (.take 6 ⟨(some 9), (.ld1 (.tmp 8)), (.int .u8), none⟩
  (.take 7 ⟨(some 10), (.cv .u32 (.tmp 9)), (.int .u32), none⟩
  (.take 8 ⟨(some 11), (.bin .shl (.tmp 10) (.const (.int .u64 8))), (.int .u32), none⟩
  (.take 9 ⟨(some 12), (.bin .or (.tmp 6) (.tmp 11)), (.int .u32), none⟩
  (.take 10 ⟨(some 13), (.mv (.tmp 0)), .sl, none⟩
  (.take 11 ⟨(some 14), (.ia 1 (.tmp 13) (.const (.int .i64 2))), .ptr, none⟩
  (.take 12 ⟨(some 15), (.ld1 (.tmp 14)), (.int .u8), none⟩
  (.take 13 ⟨(some 16), (.cv .u32 (.tmp 15)), (.int .u32), none⟩
  (.take 14 ⟨(some 17), (.bin .shl (.tmp 16) (.const (.int .u64 16))), (.int .u32), none⟩
  (.take 15 ⟨(some 18), (.bin .or (.tmp 12) (.tmp 17)), (.int .u32), none⟩
  (.take 16 ⟨(some 19), (.mv (.tmp 0)), .sl, none⟩
  (.take 17 ⟨(some 20), (.ia 1 (.tmp 19) (.const (.int .i64 3))), .ptr, none⟩
  (.take 18 ⟨(some 21), (.ld1 (.tmp 20)), (.int .u8), none⟩
  (.take 19 ⟨(some 22), (.cv .u32 (.tmp 21)), (.int .u32), none⟩
  (.take 20 ⟨(some 23), (.bin .shl (.tmp 22) (.const (.int .u64 24))), (.int .u32), none⟩
  (.take 21 ⟨(some 24), (.bin .or (.tmp 18) (.tmp 23)), (.int .u32), none⟩
  (.take 22 ⟨(some 2), (.mv (.tmp 24)), (.int .u32), none⟩
  .done))))))))))))))))))))))) [2])
 .ret))
def r60 : List Res := [.t 2]
theorem tr60 : trS Tryd.prog [] 25 (Tryd.f60.body.getD .skip) s60 = some s60 := by kernel_rfl
theorem den60 (args : List Value) (w : World) (R : Ending → World → Prop) (hn : args.length ≤ 25) (h : denS Tryd.prog s60 (argsEnv 0 args) w (endK r60 R)) : Calls Tryd.prog 60 args.toArray w R :=
  calls_of_den (pn := []) (fn := Tryd.f60) (c := Tryd.f60.body.getD .skip) Tryd.func60 (by kernel_rfl) (by rw [Tryd.ntmps60]; exact hn) (by rw [Tryd.ntmps60]; exact tr60) (by kernel_rfl) h
def d60 (b0 : Option Addr) (b0n : Nat) (b0c : Nat) (w : World) (R : Ending → World → Prop) : Prop :=
 ∀ w1 : World, w1 = World.drew w →
 0 ≤ (0 : Int) ∧ (0 : Int) < ((b0n : Nat) : Int) ∧ optK b0 fun a2 =>
 ∃ x3 : Int, World.cell? w1 (Addr.add a2 (Int.toNat 0 * 1)) = some (.int .u8 x3) ∧
 0 ≤ (1 : Int) ∧ (1 : Int) < ((b0n : Nat) : Int) ∧ optK b0 fun a4 =>
 ∃ x5 : Int, World.cell? w1 (Addr.add a4 (Int.toNat 1 * 1)) = some (.int .u8 x5) ∧
 0 ≤ (8 : Int) ∧ 0 ≤ (2 : Int) ∧ (2 : Int) < ((b0n : Nat) : Int) ∧ optK b0 fun a6 =>
 ∃ x7 : Int, World.cell? w1 (Addr.add a6 (Int.toNat 2 * 1)) = some (.int .u8 x7) ∧
 0 ≤ (16 : Int) ∧ 0 ≤ (3 : Int) ∧ (3 : Int) < ((b0n : Nat) : Int) ∧ optK b0 fun a8 =>
 ∃ x9 : Int, World.cell? w1 (Addr.add a8 (Int.toNat 3 * 1)) = some (.int .u8 x9) ∧
 0 ≤ (24 : Int) ∧ R (.returned (.int .u32 (bOr .u32 (bOr .u32 (bOr .u32 (IntKind.wrap .u32 x3) (shL .u32 (IntKind.wrap .u32 x5) 8)) (shL .u32 (IntKind.wrap .u32 x7) 16)) (shL .u32 (IntKind.wrap .u32 x9) 24)))) w1
theorem e60 (b0 : Option Addr) (b0n : Nat) (b0c : Nat) (w : World) (R : Ending → World → Prop) : denS Tryd.prog s60 (argsEnv 0 [(.slice b0 b0n b0c)]) w (endK r60 R) = d60 b0 b0n b0c w R := by kernel_rfl
theorem c60 (b0 : Option Addr) (b0n : Nat) (b0c : Nat) {w : World} {R : Ending → World → Prop} (h : d60 b0 b0n b0c w R) : Calls Tryd.prog 60 #[(.slice b0 b0n b0c)] w R :=
  den60 [(.slice b0 b0n b0c)] w R (by simp) ((e60 b0 b0n b0c w R).symm ▸ h)

/-- prelude/codec.Seal -/
def s33 : S := (.seq (.ops [⟨(some 4), (.mv (.const (.slice none 0 0))), .sl, none⟩] [1, 0])
 (.seq (.seq (.ops [⟨(some 6), (.mv (.tmp 1)), .sl, none⟩,
  ⟨(some 7), (.len (.tmp 6)), (.int .i64), none⟩,
  ⟨(some 8), (.bin .gtr (.tmp 7) (.const (.int .i64 16777216))), .bool, none⟩] [8, 0, 1])
 (.cond (.tmp 8)
 (.seq (.ops [⟨(some 4), (.mv (.const (.slice none 0 0))), .sl, none⟩] [4])
 .ret)
 .skip))
 (.seq (.ops [⟨(some 9), (.mv (.tmp 0)), (.int .u8), none⟩,
  ⟨(some 10), (.bldS 5 1 1 [(0, (.tmp 9))]), .sl, none⟩,
  ⟨(some 11), (.mv (.tmp 1)), .sl, none⟩,
  ⟨(some 12), (.len (.tmp 11)), (.int .i64), none⟩,
  ⟨(some 13), (.cv .u32 (.tmp 12)), (.int .u32), none⟩,
  ⟨(some 14), (.call 69 [(.tmp 10), (.tmp 13)] [.sl]), .sl, none⟩,
  ⟨(some 5), (.mv (.tmp 14)), .sl, none⟩] [5, 1])
 (.seq (.ops [⟨(some 15), (.mv (.tmp 5)), .sl, none⟩,
  ⟨(some 16), (.mv (.tmp 5)), .sl, none⟩,
  ⟨(some 17), (.call 59 [(.tmp 16)] [(.int .u32)]), (.int .u32), none⟩,
  ⟨(some 18), (.call 69 [(.tmp 15), (.tmp 17)] [.sl]), .sl, none⟩,
  ⟨(some 5), (.mv (.tmp 18)), .sl, none⟩] [5, 1])
 (.seq (.ops [⟨(some 19), (.mv (.tmp 5)), .sl, none⟩,
  ⟨(some 20), (.mv (.tmp 1)), .sl, none⟩,
  ⟨(some 21), (.app #[22, 22] 22 (.tmp 19) (.tmp 20)), .sl, none⟩,
  ⟨(some 5), (.mv (.tmp 21)), .sl, none⟩] [5, 1])
 (.seq (.ops [⟨(some 22), (.mv (.tmp 5)), .sl, none⟩,
  ⟨(some 23), (.mv (.tmp 1)), .sl, none⟩,
  ⟨(some 24), (.call 59 [(.tmp 23)] [(.int .u32)]), (.int .u32), none⟩,
  ⟨(some 25), (.call 69 [(.tmp 22), (.tmp 24)] [.sl]), .sl, none⟩,
  ⟨(some 4), (.mv (.tmp 25)), .sl, none⟩] [4])
 .ret))))))
def r33 : List Res := [.t 4]
theorem tr33 : trS Tryd.prog [] 26 (Tryd.f33.body.getD .skip) s33 = some s33 := by kernel_rfl
theorem den33 (args : List Value) (w : World) (R : Ending → World → Prop) (hn : args.length ≤ 26) (h : denS Tryd.prog s33 (argsEnv 0 args) w (endK r33 R)) : Calls Tryd.prog 33 args.toArray w R :=
  calls_of_den (pn := []) (fn := Tryd.f33) (c := Tryd.f33.body.getD .skip) Tryd.func33 (by kernel_rfl) (by rw [Tryd.ntmps33]; exact hn) (by rw [Tryd.ntmps33]; exact tr33) (by kernel_rfl) h
def d33 (kind0 : Int) (load1 : Option Addr) (load1n : Nat) (load1c : Nat) (w : World) (R : Ending → World → Prop) : Prop :=
 (bif (decide (16777216 < ((load1n : Nat) : Int))) then
 (R (.returned (.slice none 0 0)) w)
 else
 (∃ cs2, fillL (.elems 1) (zrep (zc Tryd.prog 5) (1 * 1)) [(0, (.int .u8 kind0))] = some cs2 ∧
 ∀ w3 : World, w3 = World.alloc w (.cells (List.toArray cs2) 5) →
 Calls Tryd.prog 69 #[(.slice (some ⟨World.heap w |>.size, 0, none⟩) 1 1), (.int .u32 (IntKind.wrap .u32 ((load1n : Nat) : Int)))] w3 fun e4 w5 => ∃ (x6 : Option Addr) (x6n : Nat) (x6c : Nat), e4 = .returned (.slice x6 x6n x6c) ∧
 Calls Tryd.prog 59 #[(.slice x6 x6n x6c)] w5 fun e7 w8 => ∃ x9 : Int, e7 = .returned (.int .u32 x9) ∧
 Calls Tryd.prog 69 #[(.slice x6 x6n x6c), (.int .u32 x9)] w8 fun e10 w11 => ∃ (x12 : Option Addr) (x12n : Nat) (x12c : Nat), e10 = .returned (.slice x12 x12n x12c) ∧
 RunV Tryd.prog (Builtin.append_ #[22, 22] 22 #[(.slice x12 x12n x12c), (.slice load1 load1n load1c)]) w11 fun v13 w14 => ∃ (x15 : Option Addr) (x15n : Nat) (x15c : Nat), v13 = (.slice x15 x15n x15c) ∧
 Calls Tryd.prog 59 #[(.slice load1 load1n load1c)] w14 fun e16 w17 => ∃ x18 : Int, e16 = .returned (.int .u32 x18) ∧
 Calls Tryd.prog 69 #[(.slice x15 x15n x15c), (.int .u32 x18)] w17 fun e19 w20 => ∃ (x21 : Option Addr) (x21n : Nat) (x21c : Nat), e19 = .returned (.slice x21 x21n x21c) ∧
 R (.returned (.slice x21 x21n x21c)) w20))
theorem e33 (kind0 : Int) (load1 : Option Addr) (load1n : Nat) (load1c : Nat) (w : World) (R : Ending → World → Prop) : denS Tryd.prog s33 (argsEnv 0 [(.int .u8 kind0), (.slice load1 load1n load1c)]) w (endK r33 R) = d33 kind0 load1 load1n load1c w R := by kernel_rfl
theorem c33 (kind0 : Int) (load1 : Option Addr) (load1n : Nat) (load1c : Nat) {w : World} {R : Ending → World → Prop} (h : d33 kind0 load1 load1n load1c w R) : Calls Tryd.prog 33 #[(.int .u8 kind0), (.slice load1 load1n load1c)] w R :=
  den33 [(.int .u8 kind0), (.slice load1 load1n load1c)] w R (by simp) ((e33 kind0 load1 load1n load1c w R).symm ▸ h)

/-- prelude/codec.Unseal -/
def s25 : S := (.seq (.ops [⟨(some 4), (.mv (.const (.int .u8 0))), (.int .u8), none⟩,
  ⟨(some 5), (.mv (.const (.slice none 0 0))), .sl, none⟩,
  ⟨(some 6), (.mv (.const (.int .i64 0))), (.int .i64), none⟩,
  ⟨(some 7), (.mv (.const (.int .i64 0))), (.int .i64), none⟩] [1, 0])
 (.join [] [0, 1]
 (.seq (.ops [⟨(some 11), (.mv (.tmp 1)), (.int .i64), none⟩,
  ⟨(some 12), (.bin .lss (.tmp 11) (.const (.int .i64 0))), .bool, none⟩,
  ⟨(some 13), (.mv (.tmp 12)), .bool, none⟩,
  ⟨(some 14), (.mv (.tmp 1)), (.int .i64), (some (13, false))⟩,
  ⟨(some 15), (.mv (.tmp 0)), .sl, (some (13, false))⟩,
  ⟨(some 16), (.len (.tmp 15)), (.int .i64), (some (13, false))⟩,
  ⟨(some 17), (.bin .gtr (.tmp 14) (.tmp 16)), .bool, (some (13, false))⟩,
  ⟨(some 18), (.pick (.tmp 13) (.const (.bool true)) (.tmp 17)), .bool, none⟩] [18, 0, 1])
 (.cond (.tmp 18)
 (.seq (.ops [⟨(some 4), (.mv (.const (.int .u8 0))), (.int .u8), none⟩,
  ⟨(some 5), (.mv (.const (.slice none 0 0))), .sl, none⟩,
  ⟨(some 6), (.mv (.const (.int .i64 0))), (.int .i64), none⟩,
  ⟨(some 7), (.mv (.const (.int .i64 11))), (.int .i64), none⟩] [4, 5, 6, 7])
 .ret)
 .skip))
 (.seq (.ops [⟨(some 19), (.mv (.tmp 0)), .sl, none⟩,
  ⟨(some 20), (.mv (.tmp 1)), (.int .i64), none⟩,
  ⟨(some 21), (.slS 1 (.tmp 19) (some (.tmp 20)) none none), .sl, none⟩,
  ⟨(some 8), (.mv (.tmp 21)), .sl, none⟩] [8, 1])
 (.seq (.seq (.ops [⟨(some 22), (.mv (.tmp 8)), .sl, none⟩,
  ⟨(some 23), (.len (.tmp 22)), (.int .i64), none⟩,
  ⟨(some 24), (.bin .lss (.tmp 23) (.const (.int .i64 9))), .bool, none⟩] [24, 8, 1])
 (.cond (.tmp 24)
 (.seq (.ops [⟨(some 4), (.mv (.const (.int .u8 0))), (.int .u8), none⟩,
  ⟨(some 5), (.mv (.const (.slice none 0 0))), .sl, none⟩,
  ⟨(some 6), (.mv (.const (.int .i64 0))), (.int .i64), none⟩,
  ⟨(some 7), (.mv (.const (.int .i64 10))), (.int .i64), none⟩] [4, 5, 6, 7])
 .ret)
 .skip))
 (.seq (.seq (.draw (.take 0 ⟨(some 25), (.mv (.tmp 8)), .sl, none⟩
  (.take 1 ⟨(some 26), (.slS 1 (.tmp 25) none (some (.const (.int .i64 5))) none), .sl, none⟩
  (.take 3 ⟨(some 28), (.mv (.tmp 8)), .sl, none⟩
  (.take 4 ⟨(some 29), (.slS 1 (.tmp 28) (some (.const (.int .i64 5))) (some (.const (.int .i64 9))) none), .sl, none⟩
  (.go 2 ⟨(some 27), (.call 59 [(.tmp 26)] [(.int .u32)]), (.int .u32), none⟩ []
  (.go 5 ⟨(some 30), (.call 60 [(.tmp 29)] [(.int .u32)]), (.int .u32), none⟩ []
  (.take 6 ⟨(some 31), (.bin .neq (.tmp 27) (.tmp 30)), .bool, none⟩
  .done))))))) [31, 8, 1])
 (.cond (.tmp 31)
 (.seq (.ops [⟨(some 4), (.mv (.const (.int .u8 0))), (.int .u8), none⟩,
  ⟨(some 5), (.mv (.const (.slice none 0 0))), .sl, none⟩,
  ⟨(some 6), (.mv (.const (.int .i64 0))), (.int .i64), none⟩,
  ⟨(some 7), (.mv (.const (.int .i64 13))), (.int .i64), none⟩] [4, 5, 6, 7])
 .ret)
 .skip))
 (.seq (.ops [⟨(some 32), (.mv (.tmp 8)), .sl, none⟩,
  ⟨(some 33), (.slS 1 (.tmp 32) (some (.const (.int .i64 1))) (some (.const (.int .i64 5))) none), .sl, none⟩,
  ⟨(some 34), (.call 60 [(.tmp 33)] [(.int .u32)]), (.int .u32), none⟩,
  ⟨(some 9), (.mv (.tmp 34)), (.int .u32), none⟩] [9, 8, 1])
 (.seq (.seq (.ops [⟨(some 35), (.mv (.tmp 9)), (.int .u32), none⟩,
  ⟨(some 36), (.bin .gtr (.tmp 35) (.const (.int .u32 16777216))), .bool, none⟩] [36, 8, 9, 1])
 (.cond (.tmp 36)
 (.seq (.ops [⟨(some 4), (.mv (.const (.int .u8 0))), (.int .u8), none⟩,
  ⟨(some 5), (.mv (.const (.slice none 0 0))), .sl, none⟩,
  ⟨(some 6), (.mv (.const (.int .i64 0))), (.int .i64), none⟩,
  ⟨(some 7), (.mv (.const (.int .i64 12))), (.int .i64), none⟩] [4, 5, 6, 7])
 .ret)
 .skip))
 (.seq (.seq (.ops [⟨(some 37), (.mv (.tmp 8)), .sl, none⟩,
  ⟨(some 38), (.len (.tmp 37)), (.int .i64), none⟩,
  ⟨(some 39), (.mv (.tmp 9)), (.int .u32), none⟩,
  ⟨(some 40), (.cv .i64 (.tmp 39)), (.int .i64), none⟩,
  ⟨(some 41), (.bin .add (.const (.int .i64 13)) (.tmp 40)), (.int .i64), none⟩,
  ⟨(some 42), (.bin .lss (.tmp 38) (.tmp 41)), .bool, none⟩] [42, 8, 9, 1])
 (.cond (.tmp 42)
 (.seq (.ops [⟨(some 4), (.mv (.const (.int .u8 0))), (.int .u8), none⟩,
  ⟨(some 5), (.mv (.const (.slice none 0 0))), .sl, none⟩,
  ⟨(some 6), (.mv (.const (.int .i64 0))), (.int .i64), none⟩,
  ⟨(some 7), (.mv (.const (.int .i64 10))), (.int .i64), none⟩] [4, 5, 6, 7])
 .ret)
 .skip))
 (.seq (.ops [⟨(some 43), (.mv (.tmp 8)), .sl, none⟩,
  ⟨(some 44), (.mv (.tmp 9)), (.int .u32), none⟩,
  ⟨(some 45), (.cv .i64 (.tmp 44)), (.int .i64), none⟩,
  ⟨(some 46), (.bin .add (.const (.int .i64 9)) (.tmp 45)), (.int .i64), none⟩,
  ⟨(some 47), (.slS 1 (.tmp 43) (some (.const (.int .i64 9))) (some (.tmp 46)) none), .sl, none⟩,
  ⟨(some 10), (.mv (.tmp 47)), .sl, none⟩] [10, 8, 9, 1])
 (.seq (.seq (.draw (.take 0 ⟨(some 48), (.mv (.tmp 10)), .sl, none⟩
  (.take 2 ⟨(some 50), (.mv (.tmp 8)), .sl, none⟩
  (.take 3 ⟨(some 51), (.mv (.tmp 9)), (.int .u32), none⟩
  (.take 4 ⟨(some 52), (.cv .i64 (.tmp 51)), (.int .i64), none⟩
  (.take 5 ⟨(some 53), (.bin .add (.const (.int .i64 9)) (.tmp 52)), (.int .i64), none⟩
  (.take 6 ⟨(some 54), (.slS 1 (.tmp 50) (some (.tmp 53)) none none), .sl, none⟩
  (.go 1 ⟨(some 49), (.call 59 [(.tmp 48)] [(.int .u32)]), (.int .u32), none⟩ []
  (.go 7 ⟨(some 55), (.call 60 [(.tmp 54)] [(.int .u32)]), (.int .u32), none⟩ []
  (.take 8 ⟨(some 56), (.bin .neq (.tmp 49) (.tmp 55)), .bool, none⟩
  .done))))))))) [56, 8, 10, 1, 9])
 (.cond (.tmp 56)
 (.seq (.ops [⟨(some 4), (.mv (.const (.int .u8 0))), (.int .u8), none⟩,
  ⟨(some 5), (.mv (.const (.slice none 0 0))), .sl, none⟩,
  ⟨(some 6), (.mv (.const (.int .i64 0))), (.int .i64), none⟩,
  ⟨(some 7), (.mv (.const (.int .i64 13))), (.int .i64), none⟩] [4, 5, 6, 7])
 .ret)
 .skip))
 (.seq (.draw (.take 0 ⟨(some 57), (.mv (.tmp 8)), .sl, none⟩
  (.take 1 ⟨(some 58), (.ia 1 (.tmp 57) (.const (.int .i64 0))), .ptr, none⟩
  (.take 2 ⟨(some 59), (.ld1 (.tmp 58)), (.int .u8), none⟩
  (.take 3 ⟨(some 60), (.mv (.tmp 10)), .sl, none⟩
  (.take 5 ⟨(some 62), (.mv (.tmp 1)), (.int .i64), none⟩
  (.take 6 ⟨(some 63), (.bin .add (.tmp 62) (.const (.int .i64 13))), (.int .i64), none⟩
  (.take 7 ⟨(some 64), (.mv (.tmp 9)), (.int .u32), none⟩
  (.take 8 ⟨(some 65), (.cv .i64 (.tmp 64)), (.int .i64), none⟩
  (.take 9 ⟨(some 66), (.bin .add (.tmp 63) (.tmp 65)), (.int .i64), none⟩
  (.go 4 ⟨(some 61), (.call 61 [(.tmp 60)] [.sl]), .sl, none⟩ [(2, ⟨(some 59), (.ld1 (.tmp 58)), (.int .u8), none⟩)]
  (.take 10 ⟨(some 4), (.mv (.tmp 59)), (.int .u8), none⟩
  (.take 11 ⟨(some 5), (.mv (.tmp 61)), .sl, none⟩
  (.take 12 ⟨(some 6), (.mv (.tmp 66)), (.int .i64), none⟩
  (.take 13 ⟨(some 7), (.mv (.const (.int .i64 0))), (.int .i64), none⟩
  .done)))))))))))))) [4, 5, 6, 7])
 .ret)))))))))))
def r25 : List Res := [.t 4, .t 5, .t 6, .t 7]
theorem tr25 : trS Tryd.prog [] 67 (Tryd.f25.body.getD .skip) s25 = some s25 := by kernel_rfl
theorem den25 (args : List Value) (w : World) (R : Ending → World → Prop) (hn : args.length ≤ 67) (h : denS Tryd.prog s25 (argsEnv 0 args) w (endK r25 R)) : Calls Tryd.prog 25 args.toArray w R :=
  calls_of_den (pn := []) (fn := Tryd.f25) (c := Tryd.f25.body.getD .skip) Tryd.func25 (by kernel_rfl) (by rw [Tryd.ntmps25]; exact hn) (by rw [Tryd.ntmps25]; exact tr25) (by kernel_rfl) h
def d25 (b0 : Option Addr) (b0n : Nat) (b0c : Nat) (at1 : Int) (w : World) (R : Ending → World → Prop) : Prop :=
 ∃ J2 : World → Prop,
 ((bif (decide (at1 < 0)) then
 (R (.returned (.tuple #[(.int .u8 0), (.slice none 0 0), (.int .i64 0), (.int .i64 11)])) w)
 else
 ((bif (decide (((b0n : Nat) : Int) < at1)) then
 (R (.returned (.tuple #[(.int .u8 0), (.slice none 0 0), (.int .i64 0), (.int .i64 11)])) w)
 else
 (J2  w))))) ∧
 (∀ (w3 : World), J2  w3 →
 0 ≤ at1 ∧ at1 ≤ ((b0n : Nat) : Int) ∧ (bif (decide ((((b0n - (Int.toNat at1)) : Nat) : Int) < 9)) then
 (R (.returned (.tuple #[(.int .u8 0), (.slice none 0 0), (.int .i64 0), (.int .i64 10)])) w3)
 else
 (∀ w4 : World, w4 = World.drew w3 →
 0 ≤ (5 : Int) ∧ (5 : Int) ≤ (((b0c - (Int.toNat at1)) : Nat) : Int) ∧ 0 ≤ (9 : Int) ∧ (9 : Int) ≤ (((b0c - (Int.toNat at1)) : Nat) : Int) ∧ 0 ≤ (5 : Int) ∧ (5 : Int) ≤ (((Int.toNat 9) : Nat) : Int) ∧ Calls Tryd.prog 59 #[(.slice (if (b0c - (Int.toNat at1)) = 0 then (if b0c = (Int.toNat at1) then b0 else Option.map (fun y => Addr.add y ((Int.toNat at1) * 1)) b0) else Option.map (fun y => Addr.add y (0 * 1)) (if b0c = (Int.toNat at1) then b0 else Option.map (fun y => Addr.add y ((Int.toNat at1) * 1)) b0)) ((Int.toNat 5) - 0) ((b0c - (Int.toNat at1)) - 0))] w4 fun e5 w6 => ∃ x7 : Int, e5 = .returned (.int .u32 x7) ∧
 Calls Tryd.prog 60 #[(.slice (if (b0c - (Int.toNat at1)) = (Int.toNat 5) then (if b0c = (Int.toNat at1) then b0 else Option.map (fun y => Addr.add y ((Int.toNat at1) * 1)) b0) else Option.map (fun y => Addr.add y ((Int.toNat 5) * 1)) (if b0c = (Int.toNat at1) then b0 else Option.map (fun y => Addr.add y ((Int.toNat at1) * 1)) b0)) ((Int.toNat 9) - (Int.toNat 5)) ((b0c - (Int.toNat at1)) - (Int.toNat 5)))] w6 fun e8 w9 => ∃ x10 : Int, e8 = .returned (.int .u32 x10) ∧
 (bif (!decide (x7 = x10)) then
 (R (.returned (.tuple #[(.int .u8 0), (.slice none 0 0), (.int .i64 0), (.int .i64 13)])) w9)
 else
 (0 ≤ (5 : Int) ∧ (5 : Int) ≤ (((b0c - (Int.toNat at1)) : Nat) : Int) ∧ 0 ≤ (1 : Int) ∧ (1 : Int) ≤ (((Int.toNat 5) : Nat) : Int) ∧ Calls Tryd.prog 60 #[(.slice (if (b0c - (Int.toNat at1)) = (Int.toNat 1) then (if b0c = (Int.toNat at1) then b0 else Option.map (fun y => Addr.add y ((Int.toNat at1) * 1)) b0) else Option.map (fun y => Addr.add y ((Int.toNat 1) * 1)) (if b0c = (Int.toNat at1) then b0 else Option.map (fun y => Addr.add y ((Int.toNat at1) * 1)) b0)) ((Int.toNat 5) - (Int.toNat 1)) ((b0c - (Int.toNat at1)) - (Int.toNat 1)))] w9 fun e11 w12 => ∃ x13 : Int, e11 = .returned (.int .u32 x13) ∧
 (bif (decide (16777216 < x13)) then
 (R (.returned (.tuple #[(.int .u8 0), (.slice none 0 0), (.int .i64 0), (.int .i64 12)])) w12)
 else
 ((bif (decide ((((b0n - (Int.toNat at1)) : Nat) : Int) < (IntKind.wrap .i64 (13 + (IntKind.wrap .i64 x13))))) then
 (R (.returned (.tuple #[(.int .u8 0), (.slice none 0 0), (.int .i64 0), (.int .i64 10)])) w12)
 else
 (0 ≤ (IntKind.wrap .i64 (9 + (IntKind.wrap .i64 x13))) ∧ (IntKind.wrap .i64 (9 + (IntKind.wrap .i64 x13))) ≤ (((b0c - (Int.toNat at1)) : Nat) : Int) ∧ 0 ≤ (9 : Int) ∧ (9 : Int) ≤ (((Int.toNat (IntKind.wrap .i64 (9 + (IntKind.wrap .i64 x13)))) : Nat) : Int) ∧ ∀ w14 : World, w14 = World.drew w12 →
 0 ≤ (IntKind.wrap .i64 (9 + (IntKind.wrap .i64 x13))) ∧ (IntKind.wrap .i64 (9 + (IntKind.wrap .i64 x13))) ≤ (((b0n - (Int.toNat at1)) : Nat) : Int) ∧ Calls Tryd.prog 59 #[(.slice (if (b0c - (Int.toNat at1)) = (Int.toNat 9) then (if b0c = (Int.toNat at1) then b0 else Option.map (fun y => Addr.add y ((Int.toNat at1) * 1)) b0) else Option.map (fun y => Addr.add y ((Int.toNat 9) * 1)) (if b0c = (Int.toNat at1) then b0 else Option.map (fun y => Addr.add y ((Int.toNat at1) * 1)) b0)) ((Int.toNat (IntKind.wrap .i64 (9 + (IntKind.wrap .i64 x13)))) - (Int.toNat 9)) ((b0c - (Int.toNat at1)) - (Int.toNat 9)))] w14 fun e15 w16 => ∃ x17 : Int, e15 = .returned (.int .u32 x17) ∧
 Calls Tryd.prog 60 #[(.slice (if (b0c - (Int.toNat at1)) = (Int.toNat (IntKind.wrap .i64 (9 + (IntKind.wrap .i64 x13)))) then (if b0c = (Int.toNat at1) then b0 else Option.map (fun y => Addr.add y ((Int.toNat at1) * 1)) b0) else Option.map (fun y => Addr.add y ((Int.toNat (IntKind.wrap .i64 (9 + (IntKind.wrap .i64 x13)))) * 1)) (if b0c = (Int.toNat at1) then b0 else Option.map (fun y => Addr.add y ((Int.toNat at1) * 1)) b0)) ((b0n - (Int.toNat at1)) - (Int.toNat (IntKind.wrap .i64 (9 + (IntKind.wrap .i64 x13))))) ((b0c - (Int.toNat at1)) - (Int.toNat (IntKind.wrap .i64 (9 + (IntKind.wrap .i64 x13))))))] w16 fun e18 w19 => ∃ x20 : Int, e18 = .returned (.int .u32 x20) ∧
 (bif (!decide (x17 = x20)) then
 (R (.returned (.tuple #[(.int .u8 0), (.slice none 0 0), (.int .i64 0), (.int .i64 13)])) w19)
 else
 (∀ w21 : World, w21 = World.drew w19 →
 0 ≤ (0 : Int) ∧ (0 : Int) < (((b0n - (Int.toNat at1)) : Nat) : Int) ∧ optK (if b0c = (Int.toNat at1) then b0 else Option.map (fun y => Addr.add y ((Int.toNat at1) * 1)) b0) fun a22 =>
 ∃ x23 : Int, World.cell? w21 (Addr.add a22 (Int.toNat 0 * 1)) = some (.int .u8 x23) ∧
 Calls Tryd.prog 61 #[(.slice (if (b0c - (Int.toNat at1)) = (Int.toNat 9) then (if b0c = (Int.toNat at1) then b0 else Option.map (fun y => Addr.add y ((Int.toNat at1) * 1)) b0) else Option.map (fun y => Addr.add y ((Int.toNat 9) * 1)) (if b0c = (Int.toNat at1) then b0 else Option.map (fun y => Addr.add y ((Int.toNat at1) * 1)) b0)) ((Int.toNat (IntKind.wrap .i64 (9 + (IntKind.wrap .i64 x13)))) - (Int.toNat 9)) ((b0c - (Int.toNat at1)) - (Int.toNat 9)))] w21 fun e24 w25 => ∃ (x26 : Option Addr) (x26n : Nat) (x26c : Nat), e24 = .returned (.slice x26 x26n x26c) ∧
 (∃ z27 : Int, World.cell? w25 (Addr.add a22 (Int.toNat 0 * 1)) = some (.int .u8 z27) ∧
 (((.int .u8 z27) : Value) = (.int .u8 x23) ∧ w25 = w25)) ∧
 R (.returned (.tuple #[(.int .u8 x23), (.slice x26 x26n x26c), (.int .i64 (IntKind.wrap .i64 ((IntKind.wrap .i64 (at1 + 13)) + (IntKind.wrap .i64 x13)))), (.int .i64 0)])) w25)))))))))))
theorem e25 (b0 : Option Addr) (b0n : Nat) (b0c : Nat) (at1 : Int) (w : World) (R : Ending → World → Prop) : denS Tryd.prog s25 (argsEnv 0 [(.slice b0 b0n b0c), (.int .i64 at1)]) w (endK r25 R) = d25 b0 b0n b0c at1 w R := by kernel_rfl
theorem c25 (b0 : Option Addr) (b0n : Nat) (b0c : Nat) (at1 : Int) {w : World} {R : Ending → World → Prop} (h : d25 b0 b0n b0c at1 w R) : Calls Tryd.prog 25 #[(.slice b0 b0n b0c), (.int .i64 at1)] w R :=
  den25 [(.slice b0 b0n b0c), (.int .i64 at1)] w R (by simp) ((e25 b0 b0n b0c at1 w R).symm ▸ h)

/-- prelude/preluderef01.Sum -/
def s62 : S := (.seq (.ops [⟨(some 2), (.mv (.const (.int .u32 0))), (.int .u32), none⟩] [0])
 (.seq (.ops [⟨(some 3), (.mv (.const (.int .u32 4294967295))), (.int .u32), none⟩] [0, 3])
 (.seq (.seq (.ops [⟨(some 4), (.mv (.const (.int .i64 0))), (.int .i64), none⟩] [4, 0, 3])
 (.block 0
 (.loop [(3, (.int .u32)), (4, (.int .i64))] [0]
 (.seq (.seq (.ops [⟨(some 8), (.mv (.tmp 4)), (.int .i64), none⟩,
  ⟨(some 9), (.mv (.tmp 0)), .sl, none⟩,
  ⟨(some 10), (.len (.tmp 9)), (.int .i64), none⟩,
  ⟨(some 11), (.bin .lss (.tmp 8) (.tmp 10)), .bool, none⟩] [11, 0, 4, 3])
 (.cond (.tmp 11)
 .skip
 (.exit 0)))
 (.seq (.block 1
 (.seq (.ops [⟨(some 5), (.mv (.const (.int .i64 0))), (.int .i64), none⟩] [5, 0, 4, 3])
 (.block 2
 (.loop [(3, (.int .u32)), (5, (.int .i64))] [0, 4]
 (.seq (.seq (.ops [⟨(some 14), (.mv (.tmp 5)), (.int .i64), none⟩,
  ⟨(some 15), (.bin .lss (.tmp 14) (.const (.int .i64 8))), .bool, none⟩] [15, 0, 4, 5, 3])
 (.cond (.tmp 15)
 .skip
 (.exit 2)))
 (.seq (.block 3
 (.seq (.ops [⟨(some 18), (.mv (.tmp 0)), .sl, none⟩,
  ⟨(some 19), (.mv (.tmp 4)), (.int .i64), none⟩,
  ⟨(some 20), (.ia 1 (.tmp 18) (.tmp 19)), .ptr, none⟩,
  ⟨(some 21), (.ld1 (.tmp 20)), (.int .u8), none⟩,
  ⟨(some 22), (.mv (.tmp 5)), (.int .i64), none⟩,
  ⟨(some 23), (.bin .shr (.tmp 21) (.tmp 22)), (.int .u8), none⟩,
  ⟨(some 24), (.cv .u32 (.tmp 23)), (.int .u32), none⟩,
  ⟨(some 25), (.bin .and (.tmp 24) (.const (.int .u32 1))), (.int .u32), none⟩,
  ⟨(some 6), (.mv (.tmp 25)), (.int .u32), none⟩] [6, 3, 5, 0, 4])
 (.seq (.ops [⟨(some 26), (.mv (.tmp 6)), (.int .u32), none⟩,
  ⟨(some 27), (.mv (.tmp 3)), (.int .u32), none⟩,
  ⟨(some 28), (.bin .and (.tmp 27) (.const (.int .u32 1))), (.int .u32), none⟩,
  ⟨(some 29), (.bin .neq (.tmp 26) (.tmp 28)), .bool, none⟩,
  ⟨(some 7), (.mv (.tmp 29)), .bool, none⟩] [3, 7, 5, 0, 4])
 (.seq (.ops [⟨(some 30), (.mv (.tmp 3)), (.int .u32), none⟩,
  ⟨(some 31), (.bin .shr (.tmp 30) (.const (.int .u64 1))), (.int .u32), none⟩,
  ⟨(some 3), (.mv (.tmp 31)), (.int .u32), none⟩] [7, 3, 5, 0, 4])
 (.seq (.ops [⟨(some 32), (.mv (.tmp 7)), .bool, none⟩] [32, 3, 5, 0, 4])
 (.cond (.tmp 32)
 (.ops [⟨(some 33), (.mv (.tmp 3)), (.int .u32), none⟩,
  ⟨(some 34), (.bin .xor (.tmp 33) (.const (.int .u32 3988292384))), (.int .u32), none⟩,
  ⟨(some 3), (.mv (.tmp 34)), (.int .u32), none⟩] [5, 0, 4, 3])
 .skip))))))
 (.ops [⟨(some 16), (.mv (.tmp 5)), (.int .i64), none⟩,
  ⟨(some 17), (.bin .add (.tmp 16) (.const (.int .i64 1))), (.int .i64), none⟩,
  ⟨(some 5), (.mv (.tmp 17)), (.int .i64), none⟩] [5, 0, 4, 3])))))))
 (.ops [⟨(some 12), (.mv (.tmp 4)), (.int .i64), none⟩,
  ⟨(some 13), (.bin .add (.tmp 12) (.const (.int .i64 1))), (.int .i64), none⟩,
  ⟨(some 4), (.mv (.tmp 13)), (.int .i64), none⟩] [4, 0, 3]))))))
 (.seq (.ops [⟨(some 35), (.mv (.tmp 3)), (.int .u32), none⟩,
  ⟨(some 36), (.un .xor (.tmp 35)), (.int .u32), none⟩,
  ⟨(some 2), (.mv (.tmp 36)), (.int .u32), none⟩] [2])
 .ret))))
def r62 : List Res := [.t 2]
theorem tr62 : trS Tryd.prog [] 37 (Tryd.f62.body.getD .skip) s62 = some s62 := by kernel_rfl
theorem den62 (args : List Value) (w : World) (R : Ending → World → Prop) (hn : args.length ≤ 37) (h : denS Tryd.prog s62 (argsEnv 0 args) w (endK r62 R)) : Calls Tryd.prog 62 args.toArray w R :=
  calls_of_den (pn := []) (fn := Tryd.f62) (c := Tryd.f62.body.getD .skip) Tryd.func62 (by kernel_rfl) (by rw [Tryd.ntmps62]; exact hn) (by rw [Tryd.ntmps62]; exact tr62) (by kernel_rfl) h
def d62 (b0 : Option Addr) (b0n : Nat) (b0c : Nat) (w : World) (R : Ending → World → Prop) : Prop :=
 ∃ I1 : Nat → Int → Int → World → Prop,
 (∃ m, I1 m 4294967295 0 w) ∧
 (∀ (m2 : Nat) (w3 : World) (rest4 : Int) (i5 : Int), I1 m2 rest4 i5 w3 →
 (bif (decide (i5 < ((b0n : Nat) : Int))) then
 (∃ I6 : Nat → Int → Int → World → Prop,
 (∃ m, I6 m rest4 0 w3) ∧
 (∀ (m7 : Nat) (w8 : World) (rest9 : Int) (k10 : Int), I6 m7 rest9 k10 w8 →
 (bif (decide (k10 < 8)) then
 (0 ≤ i5 ∧ i5 < ((b0n : Nat) : Int) ∧ optK b0 fun a11 =>
 ∃ x12 : Int, World.cell? w8 (Addr.add a11 (Int.toNat i5 * 1)) = some (.int .u8 x12) ∧
 0 ≤ k10 ∧ 0 ≤ (1 : Int) ∧ (bif (!decide ((bAnd .u32 (IntKind.wrap .u32 (shR .u8 x12 k10)) 1) = (bAnd .u32 rest9 1))) then
 (∃ m13, m13 < m7 ∧ I6 m13 (bXor .u32 (shR .u32 rest9 1) 3988292384) (IntKind.wrap .i64 (k10 + 1)) w8)
 else
 (∃ m14, m14 < m7 ∧ I6 m14 (shR .u32 rest9 1) (IntKind.wrap .i64 (k10 + 1)) w8)))
 else
 (∃ m15, m15 < m2 ∧ I1 m15 rest9 (IntKind.wrap .i64 (i5 + 1)) w8))))
 else
 (R (.returned (.int .u32 (bXor .u32 (IntKind.max .u32) rest4))) w3)))
theorem e62 (b0 : Option Addr) (b0n : Nat) (b0c : Nat) (w : World) (R : Ending → World → Prop) : denS Tryd.prog s62 (argsEnv 0 [(.slice b0 b0n b0c)]) w (endK r62 R) = d62 b0 b0n b0c w R := by kernel_rfl
theorem c62 (b0 : Option Addr) (b0n : Nat) (b0c : Nat) {w : World} {R : Ending → World → Prop} (h : d62 b0 b0n b0c w R) : Calls Tryd.prog 62 #[(.slice b0 b0n b0c)] w R :=
  den62 [(.slice b0 b0n b0c)] w R (by simp) ((e62 b0 b0n b0c w R).symm ▸ h)

/-- prelude/preluderef01.four -/
def s75 : S := (.seq (.ops [⟨(some 2), (.mv (.const (.slice none 0 0))), .sl, none⟩] [0])
 (.seq (.ops [⟨(some 3), (.mv (.tmp 0)), (.int .u32), none⟩,
  ⟨(some 4), (.cv .u8 (.tmp 3)), (.int .u8), none⟩,
  ⟨(some 5), (.mv (.tmp 0)), (.int .u32), none⟩,
  ⟨(some 6), (.bin .shr (.tmp 5) (.const (.int .u64 8))), (.int .u32), none⟩,
  ⟨(some 7), (.cv .u8 (.tmp 6)), (.int .u8), none⟩,
  ⟨(some 8), (.mv (.tmp 0)), (.int .u32), none⟩,
  ⟨(some 9), (.bin .shr (.tmp 8) (.const (.int .u64 16))), (.int .u32), none⟩,
  ⟨(some 10), (.cv .u8 (.tmp 9)), (.int .u8), none⟩,
  ⟨(some 11), (.mv (.tmp 0)), (.int .u32), none⟩,
  ⟨(some 12), (.bin .shr (.tmp 11) (.const (.int .u64 24))), (.int .u32), none⟩,
  ⟨(some 13), (.cv .u8 (.tmp 12)), (.int .u8), none⟩,
  ⟨(some 14), (.bldS 5 4 1 [(0, (.tmp 4)), (1, (.tmp 7)), (2, (.tmp 10)), (3, (.tmp 13))]), .sl, none⟩,
  ⟨(some 2), (.mv (.tmp 14)), .sl, none⟩] [2])
 .ret))
def r75 : List Res := [.t 2]
theorem tr75 : trS Tryd.prog [] 15 (Tryd.f75.body.getD .skip) s75 = some s75 := by kernel_rfl
theorem den75 (args : List Value) (w : World) (R : Ending → World → Prop) (hn : args.length ≤ 15) (h : denS Tryd.prog s75 (argsEnv 0 args) w (endK r75 R)) : Calls Tryd.prog 75 args.toArray w R :=
  calls_of_den (pn := []) (fn := Tryd.f75) (c := Tryd.f75.body.getD .skip) Tryd.func75 (by kernel_rfl) (by rw [Tryd.ntmps75]; exact hn) (by rw [Tryd.ntmps75]; exact tr75) (by kernel_rfl) h
def d75 (n0 : Int) (w : World) (R : Ending → World → Prop) : Prop :=
 0 ≤ (8 : Int) ∧ 0 ≤ (16 : Int) ∧ 0 ≤ (24 : Int) ∧ ∃ cs1, fillL (.elems 1) (zrep (zc Tryd.prog 5) (4 * 1)) [(0, (.int .u8 (IntKind.wrap .u8 n0))), (1, (.int .u8 (IntKind.wrap .u8 (shR .u32 n0 8)))), (2, (.int .u8 (IntKind.wrap .u8 (shR .u32 n0 16)))), (3, (.int .u8 (IntKind.wrap .u8 (shR .u32 n0 24))))] = some cs1 ∧
 ∀ w2 : World, w2 = World.alloc w (.cells (List.toArray cs1) 5) →
 R (.returned (.slice (some ⟨World.heap w |>.size, 0, none⟩) 4 4)) w2
theorem e75 (n0 : Int) (w : World) (R : Ending → World → Prop) : denS Tryd.prog s75 (argsEnv 0 [(.int .u32 n0)]) w (endK r75 R) = d75 n0 w R := by kernel_rfl
theorem c75 (n0 : Int) {w : World} {R : Ending → World → Prop} (h : d75 n0 w R) : Calls Tryd.prog 75 #[(.int .u32 n0)] w R :=
  den75 [(.int .u32 n0)] w R (by simp) ((e75 n0 w R).symm ▸ h)

/-- prelude/preluderef01.word -/
def s63 : S := (.seq (.ops [⟨(some 2), (.mv (.const (.int .u32 0))), (.int .u32), none⟩] [0])
 (.seq (.draw (.take 0 ⟨(some 3), (.mv (.tmp 0)), .sl, none⟩
  (.take 1 ⟨(some 4), (.ia 1 (.tmp 3) (.const (.int .i64 0))), .ptr, none⟩
  (.take 2 ⟨(some 5), (.ld1 (.tmp 4)), (.int .u8), none⟩
  (.take 3 ⟨(some 6), (.cv .u32 (.tmp 5)), (.int .u32), none⟩
  (.take 4 ⟨(some 7), (.mv (.tmp 0)), .sl, none⟩
  (.take 5 ⟨(some 8), (.ia 1 (.tmp 7) (.const (.int .i64 1))), .ptr, none⟩
  (.take 6 ⟨(some 9), (.ld1 (.tmp 8)), (.int .u8), none⟩
  (.take 7 ⟨(some 10), (.cv .u32 (.tmp 9)), (.int .u32), none⟩
  (.take 8 ⟨(some 11), (.bin .shl (.tmp 10) (.const (.int .u64 8))), (.int .u32), none⟩
  (.take 9 ⟨(some 12), (.bin .add (.tmp 6) (.tmp 11)), (.int .u32), none⟩
  (.take 10 ⟨(some 13), (.mv (.tmp 0)), .sl, none⟩
  (.take 11 ⟨(some 14), (.ia 1 (.tmp 13) (.const (.int .i64 2))), .ptr, none⟩
  (.take 12 ⟨(some 15), (.ld1 (.tmp 14)), (.int .u8), none⟩
  (.take 13 ⟨(some 16), (.cv .u32 (.tmp 15)), (.int .u32), none⟩
  (.take 14 ⟨(some 17), (.bin .shl (.tmp 16) (.const (.int .u64 16))), (.int .u32), none⟩
  (.take 15 ⟨(some 18), (.bin .add (.tmp 12) (.tmp 17)), (.int .u32), none⟩
  (.take 16 ⟨(some 19), (.mv (.tmp 0)), .sl, none⟩
  (.take 17 ⟨(some 20), (.ia 1 (.tmp 19) (.const (.int .i64 3))), .ptr, none⟩
  (.take 18 ⟨(some 21), (.ld1 (.tmp 20)), (.int .u8), none⟩
  (.take 19 ⟨(some 22), (.cv .u32 (.tmp 21)), (.int .u32), none⟩
  (.take 20 ⟨(some 23), (.bin .shl (.tmp 22) (.const (.int .u64 24))), (.int .u32), none⟩
  (.take 21 ⟨(some 24), (.bin .add (.tmp 18) (.tmp 23)), (.int .u32), none⟩
  (.take 22 ⟨(some 2), (.mv (.tmp 24)), (.int .u32), none⟩
  .done))))))))))))))))))))))) [2])
 .ret))
def r63 : List Res := [.t 2]
theorem tr63 : trS Tryd.prog [] 25 (Tryd.f63.body.getD .skip) s63 = some s63 := by kernel_rfl
theorem den63 (args : List Value) (w : World) (R : Ending → World → Prop) (hn : args.length ≤ 25) (h : denS Tryd.prog s63 (argsEnv 0 args) w (endK r63 R)) : Calls Tryd.prog 63 args.toArray w R :=
  calls_of_den (pn := []) (fn := Tryd.f63) (c := Tryd.f63.body.getD .skip) Tryd.func63 (by kernel_rfl) (by rw [Tryd.ntmps63]; exact hn) (by rw [Tryd.ntmps63]; exact tr63) (by kernel_rfl) h
def d63 (b0 : Option Addr) (b0n : Nat) (b0c : Nat) (w : World) (R : Ending → World → Prop) : Prop :=
 ∀ w1 : World, w1 = World.drew w →
 0 ≤ (0 : Int) ∧ (0 : Int) < ((b0n : Nat) : Int) ∧ optK b0 fun a2 =>
 ∃ x3 : Int, World.cell? w1 (Addr.add a2 (Int.toNat 0 * 1)) = some (.int .u8 x3) ∧
 0 ≤ (1 : Int) ∧ (1 : Int) < ((b0n : Nat) : Int) ∧ optK b0 fun a4 =>
 ∃ x5 : Int, World.cell? w1 (Addr.add a4 (Int.toNat 1 * 1)) = some (.int .u8 x5) ∧
 0 ≤ (8 : Int) ∧ 0 ≤ (2 : Int) ∧ (2 : Int) < ((b0n : Nat) : Int) ∧ optK b0 fun a6 =>
 ∃ x7 : Int, World.cell? w1 (Addr.add a6 (Int.toNat 2 * 1)) = some (.int .u8 x7) ∧
 0 ≤ (16 : Int) ∧ 0 ≤ (3 : Int) ∧ (3 : Int) < ((b0n : Nat) : Int) ∧ optK b0 fun a8 =>
 ∃ x9 : Int, World.cell? w1 (Addr.add a8 (Int.toNat 3 * 1)) = some (.int .u8 x9) ∧
 0 ≤ (24 : Int) ∧ R (.returned (.int .u32 (IntKind.wrap .u32 ((IntKind.wrap .u32 ((IntKind.wrap .u32 ((IntKind.wrap .u32 x3) + (shL .u32 (IntKind.wrap .u32 x5) 8))) + (shL .u32 (IntKind.wrap .u32 x7) 16))) + (shL .u32 (IntKind.wrap .u32 x9) 24))))) w1
theorem e63 (b0 : Option Addr) (b0n : Nat) (b0c : Nat) (w : World) (R : Ending → World → Prop) : denS Tryd.prog s63 (argsEnv 0 [(.slice b0 b0n b0c)]) w (endK r63 R) = d63 b0 b0n b0c w R := by kernel_rfl
theorem c63 (b0 : Option Addr) (b0n : Nat) (b0c : Nat) {w : World} {R : Ending → World → Prop} (h : d63 b0 b0n b0c w R) : Calls Tryd.prog 63 #[(.slice b0 b0n b0c)] w R :=
  den63 [(.slice b0 b0n b0c)] w R (by simp) ((e63 b0 b0n b0c w R).symm ▸ h)

/-- prelude/preluderef01.Seal -/
def s38 : S := (.seq (.ops [⟨(some 4), (.mv (.const (.slice none 0 0))), .sl, none⟩] [1, 0])
 (.seq (.seq (.ops [⟨(some 6), (.mv (.tmp 1)), .sl, none⟩,
  ⟨(some 7), (.len (.tmp 6)), (.int .i64), none⟩,
  ⟨(some 8), (.bin .gtr (.tmp 7) (.const (.int .i64 16777216))), .bool, none⟩] [8, 0, 1])
 (.cond (.tmp 8)
 (.seq (.ops [⟨(some 4), (.mv (.const (.slice none 0 0))), .sl, none⟩] [4])
 .ret)
 .skip))
 (.seq (.ops [⟨(some 9), (.mv (.tmp 0)), (.int .u8), none⟩,
  ⟨(some 10), (.bldS 5 1 1 [(0, (.tmp 9))]), .sl, none⟩,
  ⟨(some 11), (.mv (.tmp 1)), .sl, none⟩,
  ⟨(some 12), (.len (.tmp 11)), (.int .i64), none⟩,
  ⟨(some 13), (.cv .u32 (.tmp 12)), (.int .u32), none⟩,
  ⟨(some 14), (.call 75 [(.tmp 13)] [.sl]), .sl, none⟩,
  ⟨(some 15), (.app #[22, 22] 22 (.tmp 10) (.tmp 14)), .sl, none⟩,
  ⟨(some 5), (.mv (.tmp 15)), .sl, none⟩] [5, 1])
 (.seq (.ops [⟨(some 16), (.mv (.tmp 5)), .sl, none⟩,
  ⟨(some 17), (.mv (.tmp 5)), .sl, none⟩,
  ⟨(some 18), (.call 62 [(.tmp 17)] [(.int .u32)]), (.int .u32), none⟩,
  ⟨(some 19), (.call 75 [(.tmp 18)] [.sl]), .sl, none⟩,
  ⟨(some 20), (.app #[22, 22] 22 (.tmp 16) (.tmp 19)), .sl, none⟩,
  ⟨(some 5), (.mv (.tmp 20)), .sl, none⟩] [5, 1])
 (.seq (.ops [⟨(some 21), (.mv (.tmp 5)), .sl, none⟩,
  ⟨(some 22), (.mv (.tmp 1)), .sl, none⟩,
  ⟨(some 23), (.app #[22, 22] 22 (.tmp 21) (.tmp 22)), .sl, none⟩,
  ⟨(some 5), (.mv (.tmp 23)), .sl, none⟩] [5, 1])
 (.seq (.ops [⟨(some 24), (.mv (.tmp 5)), .sl, none⟩,
  ⟨(some 25), (.mv (.tmp 1)), .sl, none⟩,
  ⟨(some 26), (.call 62 [(.tmp 25)] [(.int .u32)]), (.int .u32), none⟩,
  ⟨(some 27), (.call 75 [(.tmp 26)] [.sl]), .sl, none⟩,
  ⟨(some 28), (.app #[22, 22] 22 (.tmp 24) (.tmp 27)), .sl, none⟩,
  ⟨(some 4), (.mv (.tmp 28)), .sl, none⟩] [4])
 .ret))))))
def r38 : List Res := [.t 4]
theorem tr38 : trS Tryd.prog [] 29 (Tryd.f38.body.getD .skip) s38 = some s38 := by kernel_rfl
theorem den38 (args : List Value) (w : World) (R : Ending → World → Prop) (hn : args.length ≤ 29) (h : denS Tryd.prog s38 (argsEnv 0 args) w (endK r38 R)) : Calls Tryd.prog 38 args.toArray w R :=
  calls_of_den (pn := []) (fn := Tryd.f38) (c := Tryd.f38.body.getD .skip) Tryd.func38 (by kernel_rfl) (by rw [Tryd.ntmps38]; exact hn) (by rw [Tryd.ntmps38]; exact tr38) (by kernel_rfl) h
def d38 (kind0 : Int) (load1 : Option Addr) (load1n : Nat) (load1c : Nat) (w : World) (R : Ending → World → Prop) : Prop :=
 (bif (decide (16777216 < ((load1n : Nat) : Int))) then
 (R (.returned (.slice none 0 0)) w)
 else
 (∃ cs2, fillL (.elems 1) (zrep (zc Tryd.prog 5) (1 * 1)) [(0, (.int .u8 kind0))] = some cs2 ∧
 ∀ w3 : World, w3 = World.alloc w (.cells (List.toArray cs2) 5) →
 Calls Tryd.prog 75 #[(.int .u32 (IntKind.wrap .u32 ((load1n : Nat) : Int)))] w3 fun e4 w5 => ∃ (x6 : Option Addr) (x6n : Nat) (x6c : Nat), e4 = .returned (.slice x6 x6n x6c) ∧
 RunV Tryd.prog (Builtin.append_ #[22, 22] 22 #[(.slice (some ⟨World.heap w |>.size, 0, none⟩) 1 1), (.slice x6 x6n x6c)]) w5 fun v7 w8 => ∃ (x9 : Option Addr) (x9n : Nat) (x9c : Nat), v7 = (.slice x9 x9n x9c) ∧
 Calls Tryd.prog 62 #[(.slice x9 x9n x9c)] w8 fun e10 w11 => ∃ x12 : Int, e10 = .returned (.int .u32 x12) ∧
 Calls Tryd.prog 75 #[(.int .u32 x12)] w11 fun e13 w14 => ∃ (x15 : Option Addr) (x15n : Nat) (x15c : Nat), e13 = .returned (.slice x15 x15n x15c) ∧
 RunV Tryd.prog (Builtin.append_ #[22, 22] 22 #[(.slice x9 x9n x9c), (.slice x15 x15n x15c)]) w14 fun v16 w17 => ∃ (x18 : Option Addr) (x18n : Nat) (x18c : Nat), v16 = (.slice x18 x18n x18c) ∧
 RunV Tryd.prog (Builtin.append_ #[22, 22] 22 #[(.slice x18 x18n x18c), (.slice load1 load1n load1c)]) w17 fun v19 w20 => ∃ (x21 : Option Addr) (x21n : Nat) (x21c : Nat), v19 = (.slice x21 x21n x21c) ∧
 Calls Tryd.prog 62 #[(.slice load1 load1n load1c)] w20 fun e22 w23 => ∃ x24 : Int, e22 = .returned (.int .u32 x24) ∧
 Calls Tryd.prog 75 #[(.int .u32 x24)] w23 fun e25 w26 => ∃ (x27 : Option Addr) (x27n : Nat) (x27c : Nat), e25 = .returned (.slice x27 x27n x27c) ∧
 RunV Tryd.prog (Builtin.append_ #[22, 22] 22 #[(.slice x21 x21n x21c), (.slice x27 x27n x27c)]) w26 fun v28 w29 => ∃ (x30 : Option Addr) (x30n : Nat) (x30c : Nat), v28 = (.slice x30 x30n x30c) ∧
 R (.returned (.slice x30 x30n x30c)) w29))
theorem e38 (kind0 : Int) (load1 : Option Addr) (load1n : Nat) (load1c : Nat) (w : World) (R : Ending → World → Prop) : denS Tryd.prog s38 (argsEnv 0 [(.int .u8 kind0), (.slice load1 load1n load1c)]) w (endK r38 R) = d38 kind0 load1 load1n load1c w R := by kernel_rfl
theorem c38 (kind0 : Int) (load1 : Option Addr) (load1n : Nat) (load1c : Nat) {w : World} {R : Ending → World → Prop} (h : d38 kind0 load1 load1n load1c w R) : Calls Tryd.prog 38 #[(.int .u8 kind0), (.slice load1 load1n load1c)] w R :=
  den38 [(.int .u8 kind0), (.slice load1 load1n load1c)] w R (by simp) ((e38 kind0 load1 load1n load1c w R).symm ▸ h)

/-- prelude/preluderef01.Unseal -/
def s26 : S := (.seq (.ops [⟨(some 4), (.mv (.const (.int .u8 0))), (.int .u8), none⟩,
  ⟨(some 5), (.mv (.const (.slice none 0 0))), .sl, none⟩,
  ⟨(some 6), (.mv (.const (.int .i64 0))), (.int .i64), none⟩,
  ⟨(some 7), (.mv (.const (.int .i64 0))), (.int .i64), none⟩] [1, 0])
 (.join [] [0, 1]
 (.seq (.ops [⟨(some 11), (.mv (.tmp 1)), (.int .i64), none⟩,
  ⟨(some 12), (.bin .lss (.tmp 11) (.const (.int .i64 0))), .bool, none⟩,
  ⟨(some 13), (.mv (.tmp 12)), .bool, none⟩,
  ⟨(some 14), (.mv (.tmp 1)), (.int .i64), (some (13, false))⟩,
  ⟨(some 15), (.mv (.tmp 0)), .sl, (some (13, false))⟩,
  ⟨(some 16), (.len (.tmp 15)), (.int .i64), (some (13, false))⟩,
  ⟨(some 17), (.bin .gtr (.tmp 14) (.tmp 16)), .bool, (some (13, false))⟩,
  ⟨(some 18), (.pick (.tmp 13) (.const (.bool true)) (.tmp 17)), .bool, none⟩] [18, 0, 1])
 (.cond (.tmp 18)
 (.seq (.ops [⟨(some 4), (.mv (.const (.int .u8 0))), (.int .u8), none⟩,
  ⟨(some 5), (.mv (.const (.slice none 0 0))), .sl, none⟩,
  ⟨(some 6), (.mv (.const (.int .i64 0))), (.int .i64), none⟩,
  ⟨(some 7), (.mv (.const (.int .i64 11))), (.int .i64), none⟩] [4, 5, 6, 7])
 .ret)
 .skip))
 (.seq (.ops [⟨(some 19), (.mv (.tmp 0)), .sl, none⟩,
  ⟨(some 20), (.mv (.tmp 1)), (.int .i64), none⟩,
  ⟨(some 21), (.slS 1 (.tmp 19) (some (.tmp 20)) none none), .sl, none⟩,
  ⟨(some 8), (.mv (.tmp 21)), .sl, none⟩] [8, 1])
 (.seq (.seq (.ops [⟨(some 22), (.mv (.tmp 8)), .sl, none⟩,
  ⟨(some 23), (.len (.tmp 22)), (.int .i64), none⟩,
  ⟨(some 24), (.bin .lss (.tmp 23) (.const (.int .i64 9))), .bool, none⟩] [24, 8, 1])
 (.cond (.tmp 24)
 (.seq (.ops [⟨(some 4), (.mv (.const (.int .u8 0))), (.int .u8), none⟩,
  ⟨(some 5), (.mv (.const (.slice none 0 0))), .sl, none⟩,
  ⟨(some 6), (.mv (.const (.int .i64 0))), (.int .i64), none⟩,
  ⟨(some 7), (.mv (.const (.int .i64 10))), (.int .i64), none⟩] [4, 5, 6, 7])
 .ret)
 .skip))
 (.seq (.seq (.draw (.take 0 ⟨(some 25), (.mv (.tmp 8)), .sl, none⟩
  (.take 1 ⟨(some 26), (.slS 1 (.tmp 25) none (some (.const (.int .i64 5))) none), .sl, none⟩
  (.take 3 ⟨(some 28), (.mv (.tmp 8)), .sl, none⟩
  (.take 4 ⟨(some 29), (.slS 1 (.tmp 28) (some (.const (.int .i64 5))) (some (.const (.int .i64 9))) none), .sl, none⟩
  (.go 2 ⟨(some 27), (.call 62 [(.tmp 26)] [(.int .u32)]), (.int .u32), none⟩ []
  (.go 5 ⟨(some 30), (.call 63 [(.tmp 29)] [(.int .u32)]), (.int .u32), none⟩ []
  (.take 6 ⟨(some 31), (.bin .neq (.tmp 27) (.tmp 30)), .bool, none⟩
  .done))))))) [31, 8, 1])
 (.cond (.tmp 31)
 (.seq (.ops [⟨(some 4), (.mv (.const (.int .u8 0))), (.int .u8), none⟩,
  ⟨(some 5), (.mv (.const (.slice none 0 0))), .sl, none⟩,
  ⟨(some 6), (.mv (.const (.int .i64 0))), (.int .i64), none⟩,
  ⟨(some 7), (.mv (.const (.int .i64 13))), (.int .i64), none⟩] [4, 5, 6, 7])
 .ret)
 .skip))
 (.seq (.ops [⟨(some 32), (.mv (.tmp 8)), .sl, none⟩,
  ⟨(some 33), (.slS 1 (.tmp 32) (some (.const (.int .i64 1))) (some (.const (.int .i64 5))) none), .sl, none⟩,
  ⟨(some 34), (.call 63 [(.tmp 33)] [(.int .u32)]), (.int .u32), none⟩,
  ⟨(some 35), (.cv .i64 (.tmp 34)), (.int .i64), none⟩,
  ⟨(some 9), (.mv (.tmp 35)), (.int .i64), none⟩] [9, 8, 1])
 (.seq (.seq (.ops [⟨(some 36), (.mv (.tmp 9)), (.int .i64), none⟩,
  ⟨(some 37), (.bin .gtr (.tmp 36) (.const (.int .i64 16777216))), .bool, none⟩] [37, 8, 9, 1])
 (.cond (.tmp 37)
 (.seq (.ops [⟨(some 4), (.mv (.const (.int .u8 0))), (.int .u8), none⟩,
  ⟨(some 5), (.mv (.const (.slice none 0 0))), .sl, none⟩,
  ⟨(some 6), (.mv (.const (.int .i64 0))), (.int .i64), none⟩,
  ⟨(some 7), (.mv (.const (.int .i64 12))), (.int .i64), none⟩] [4, 5, 6, 7])
 .ret)
 .skip))
 (.seq (.seq (.ops [⟨(some 38), (.mv (.tmp 8)), .sl, none⟩,
  ⟨(some 39), (.len (.tmp 38)), (.int .i64), none⟩,
  ⟨(some 40), (.mv (.tmp 9)), (.int .i64), none⟩,
  ⟨(some 41), (.bin .add (.tmp 40) (.const (.int .i64 13))), (.int .i64), none⟩,
  ⟨(some 42), (.bin .lss (.tmp 39) (.tmp 41)), .bool, none⟩] [42, 8, 9, 1])
 (.cond (.tmp 42)
 (.seq (.ops [⟨(some 4), (.mv (.const (.int .u8 0))), (.int .u8), none⟩,
  ⟨(some 5), (.mv (.const (.slice none 0 0))), .sl, none⟩,
  ⟨(some 6), (.mv (.const (.int .i64 0))), (.int .i64), none⟩,
  ⟨(some 7), (.mv (.const (.int .i64 10))), (.int .i64), none⟩] [4, 5, 6, 7])
 .ret)
 .skip))
 (.seq (.seq (.draw (.take 0 ⟨(some 43), (.mv (.tmp 8)), .sl, none⟩
  (.take 1 ⟨(some 44), (.mv (.tmp 9)), (.int .i64), none⟩
  (.take 2 ⟨(some 45), (.bin .add (.const (.int .i64 9)) (.tmp 44)), (.int .i64), none⟩
  (.take 3 ⟨(some 46), (.slS 1 (.tmp 43) (some (.const (.int .i64 9))) (some (.tmp 45)) none), .sl, none⟩
  (.take 5 ⟨(some 48), (.mv (.tmp 8)), .sl, none⟩
  (.take 6 ⟨(some 49), (.mv (.tmp 9)), (.int .i64), none⟩
  (.take 7 ⟨(some 50), (.bin .add (.const (.int .i64 9)) (.tmp 49)), (.int .i64), none⟩
  (.take 8 ⟨(some 51), (.mv (.tmp 9)), (.int .i64), none⟩
  (.take 9 ⟨(some 52), (.bin .add (.const (.int .i64 13)) (.tmp 51)), (.int .i64), none⟩
  (.take 10 ⟨(some 53), (.slS 1 (.tmp 48) (some (.tmp 50)) (some (.tmp 52)) none), .sl, none⟩
  (.go 4 ⟨(some 47), (.call 62 [(.tmp 46)] [(.int .u32)]), (.int .u32), none⟩ []
  (.go 11 ⟨(some 54), (.call 63 [(.tmp 53)] [(.int .u32)]), (.int .u32), none⟩ []
  (.take 12 ⟨(some 55), (.bin .neq (.tmp 47) (.tmp 54)), .bool, none⟩
  .done))))))))))))) [55, 8, 9, 1])
 (.cond (.tmp 55)
 (.seq (.ops [⟨(some 4), (.mv (.const (.int .u8 0))), (.int .u8), none⟩,
  ⟨(some 5), (.mv (.const (.slice none 0 0))), .sl, none⟩,
  ⟨(some 6), (.mv (.const (.int .i64 0))), (.int .i64), none⟩,
  ⟨(some 7), (.mv (.const (.int .i64 13))), (.int .i64), none⟩] [4, 5, 6, 7])
 .ret)
 .skip))
 (.seq (.ops [⟨(some 10), (.mv (.const (.slice none 0 0))), .sl, none⟩] [10, 8, 9, 1])
 (.seq (.ops [⟨(some 56), (.mv (.tmp 10)), .sl, none⟩,
  ⟨(some 57), (.mv (.tmp 8)), .sl, none⟩,
  ⟨(some 58), (.mv (.tmp 9)), (.int .i64), none⟩,
  ⟨(some 59), (.bin .add (.const (.int .i64 9)) (.tmp 58)), (.int .i64), none⟩,
  ⟨(some 60), (.slS 1 (.tmp 57) (some (.const (.int .i64 9))) (some (.tmp 59)) none), .sl, none⟩,
  ⟨(some 61), (.app #[22, 22] 22 (.tmp 56) (.tmp 60)), .sl, none⟩,
  ⟨(some 10), (.mv (.tmp 61)), .sl, none⟩] [8, 10, 1, 9])
 (.seq (.ops [⟨(some 62), (.mv (.tmp 8)), .sl, none⟩,
  ⟨(some 63), (.ia 1 (.tmp 62) (.const (.int .i64 0))), .ptr, none⟩,
  ⟨(some 64), (.ld1 (.tmp 63)), (.int .u8), none⟩,
  ⟨(some 65), (.mv (.tmp 10)), .sl, none⟩,
  ⟨(some 66), (.mv (.tmp 1)), (.int .i64), none⟩,
  ⟨(some 67), (.mv (.tmp 9)), (.int .i64), none⟩,
  ⟨(some 68), (.bin .add (.tmp 66) (.tmp 67)), (.int .i64), none⟩,
  ⟨(some 69), (.bin .add (.tmp 68) (.const (.int .i64 13))), (.int .i64), none⟩,
  ⟨(some 4), (.mv (.tmp 64)), (.int .u8), none⟩,
  ⟨(some 5), (.mv (.tmp 65)), .sl, none⟩,
  ⟨(some 6), (.mv (.tmp 69)), (.int .i64), none⟩,
  ⟨(some 7), (.mv (.const (.int .i64 0))), (.int .i64), none⟩] [4, 5, 6, 7])
 .ret))))))))))))
def r26 : List Res := [.t 4, .t 5, .t 6, .t 7]
theorem tr26 : trS Tryd.prog [] 70 (Tryd.f26.body.getD .skip) s26 = some s26 := by kernel_rfl
theorem den26 (args : List Value) (w : World) (R : Ending → World → Prop) (hn : args.length ≤ 70) (h : denS Tryd.prog s26 (argsEnv 0 args) w (endK r26 R)) : Calls Tryd.prog 26 args.toArray w R :=
  calls_of_den (pn := []) (fn := Tryd.f26) (c := Tryd.f26.body.getD .skip) Tryd.func26 (by kernel_rfl) (by rw [Tryd.ntmps26]; exact hn) (by rw [Tryd.ntmps26]; exact tr26) (by kernel_rfl) h
def d26 (b0 : Option Addr) (b0n : Nat) (b0c : Nat) (at1 : Int) (w : World) (R : Ending → World → Prop) : Prop :=
 ∃ J2 : World → Prop,
 ((bif (decide (at1 < 0)) then
 (R (.returned (.tuple #[(.int .u8 0), (.slice none 0 0), (.int .i64 0), (.int .i64 11)])) w)
 else
 ((bif (decide (((b0n : Nat) : Int) < at1)) then
 (R (.returned (.tuple #[(.int .u8 0), (.slice none 0 0), (.int .i64 0), (.int .i64 11)])) w)
 else
 (J2  w))))) ∧
 (∀ (w3 : World), J2  w3 →
 0 ≤ at1 ∧ at1 ≤ ((b0n : Nat) : Int) ∧ (bif (decide ((((b0n - (Int.toNat at1)) : Nat) : Int) < 9)) then
 (R (.returned (.tuple #[(.int .u8 0), (.slice none 0 0), (.int .i64 0), (.int .i64 10)])) w3)
 else
 (∀ w4 : World, w4 = World.drew w3 →
 0 ≤ (5 : Int) ∧ (5 : Int) ≤ (((b0c - (Int.toNat at1)) : Nat) : Int) ∧ 0 ≤ (9 : Int) ∧ (9 : Int) ≤ (((b0c - (Int.toNat at1)) : Nat) : Int) ∧ 0 ≤ (5 : Int) ∧ (5 : Int) ≤ (((Int.toNat 9) : Nat) : Int) ∧ Calls Tryd.prog 62 #[(.slice (if (b0c - (Int.toNat at1)) = 0 then (if b0c = (Int.toNat at1) then b0 else Option.map (fun y => Addr.add y ((Int.toNat at1) * 1)) b0) else Option.map (fun y => Addr.add y (0 * 1)) (if b0c = (Int.toNat at1) then b0 else Option.map (fun y => Addr.add y ((Int.toNat at1) * 1)) b0)) ((Int.toNat 5) - 0) ((b0c - (Int.toNat at1)) - 0))] w4 fun e5 w6 => ∃ x7 : Int, e5 = .returned (.int .u32 x7) ∧
 Calls Tryd.prog 63 #[(.slice (if (b0c - (Int.toNat at1)) = (Int.toNat 5) then (if b0c = (Int.toNat at1) then b0 else Option.map (fun y => Addr.add y ((Int.toNat at1) * 1)) b0) else Option.map (fun y => Addr.add y ((Int.toNat 5) * 1)) (if b0c = (Int.toNat at1) then b0 else Option.map (fun y => Addr.add y ((Int.toNat at1) * 1)) b0)) ((Int.toNat 9) - (Int.toNat 5)) ((b0c - (Int.toNat at1)) - (Int.toNat 5)))] w6 fun e8 w9 => ∃ x10 : Int, e8 = .returned (.int .u32 x10) ∧
 (bif (!decide (x7 = x10)) then
 (R (.returned (.tuple #[(.int .u8 0), (.slice none 0 0), (.int .i64 0), (.int .i64 13)])) w9)
 else
 (0 ≤ (5 : Int) ∧ (5 : Int) ≤ (((b0c - (Int.toNat at1)) : Nat) : Int) ∧ 0 ≤ (1 : Int) ∧ (1 : Int) ≤ (((Int.toNat 5) : Nat) : Int) ∧ Calls Tryd.prog 63 #[(.slice (if (b0c - (Int.toNat at1)) = (Int.toNat 1) then (if b0c = (Int.toNat at1) then b0 else Option.map (fun y => Addr.add y ((Int.toNat at1) * 1)) b0) else Option.map (fun y => Addr.add y ((Int.toNat 1) * 1)) (if b0c = (Int.toNat at1) then b0 else Option.map (fun y => Addr.add y ((Int.toNat at1) * 1)) b0)) ((Int.toNat 5) - (Int.toNat 1)) ((b0c - (Int.toNat at1)) - (Int.toNat 1)))] w9 fun e11 w12 => ∃ x13 : Int, e11 = .returned (.int .u32 x13) ∧
 (bif (decide (16777216 < (IntKind.wrap .i64 x13))) then
 (R (.returned (.tuple #[(.int .u8 0), (.slice none 0 0), (.int .i64 0), (.int .i64 12)])) w12)
 else
 ((bif (decide ((((b0n - (Int.toNat at1)) : Nat) : Int) < (IntKind.wrap .i64 ((IntKind.wrap .i64 x13) + 13)))) then
 (R (.returned (.tuple #[(.int .u8 0), (.slice none 0 0), (.int .i64 0), (.int .i64 10)])) w12)
 else
 (∀ w14 : World, w14 = World.drew w12 →
 0 ≤ (IntKind.wrap .i64 (9 + (IntKind.wrap .i64 x13))) ∧ (IntKind.wrap .i64 (9 + (IntKind.wrap .i64 x13))) ≤ (((b0c - (Int.toNat at1)) : Nat) : Int) ∧ 0 ≤ (9 : Int) ∧ (9 : Int) ≤ (((Int.toNat (IntKind.wrap .i64 (9 + (IntKind.wrap .i64 x13)))) : Nat) : Int) ∧ 0 ≤ (IntKind.wrap .i64 (13 + (IntKind.wrap .i64 x13))) ∧ (IntKind.wrap .i64 (13 + (IntKind.wrap .i64 x13))) ≤ (((b0c - (Int.toNat at1)) : Nat) : Int) ∧ 0 ≤ (IntKind.wrap .i64 (9 + (IntKind.wrap .i64 x13))) ∧ (IntKind.wrap .i64 (9 + (IntKind.wrap .i64 x13))) ≤ (((Int.toNat (IntKind.wrap .i64 (13 + (IntKind.wrap .i64 x13)))) : Nat) : Int) ∧ Calls Tryd.prog 62 #[(.slice (if (b0c - (Int.toNat at1)) = (Int.toNat 9) then (if b0c = (Int.toNat at1) then b0 else Option.map (fun y => Addr.add y ((Int.toNat at1) * 1)) b0) else Option.map (fun y => Addr.add y ((Int.toNat 9) * 1)) (if b0c = (Int.toNat at1) then b0 else Option.map (fun y => Addr.add y ((Int.toNat at1) * 1)) b0)) ((Int.toNat (IntKind.wrap .i64 (9 + (IntKind.wrap .i64 x13)))) - (Int.toNat 9)) ((b0c - (Int.toNat at1)) - (Int.toNat 9)))] w14 fun e15 w16 => ∃ x17 : Int, e15 = .returned (.int .u32 x17) ∧
 Calls Tryd.prog 63 #[(.slice (if (b0c - (Int.toNat at1)) = (Int.toNat (IntKind.wrap .i64 (9 + (IntKind.wrap .i64 x13)))) then (if b0c = (Int.toNat at1) then b0 else Option.map (fun y => Addr.add y ((Int.toNat at1) * 1)) b0) else Option.map (fun y => Addr.add y ((Int.toNat (IntKind.wrap .i64 (9 + (IntKind.wrap .i64 x13)))) * 1)) (if b0c = (Int.toNat at1) then b0 else Option.map (fun y => Addr.add y ((Int.toNat at1) * 1)) b0)) ((Int.toNat (IntKind.wrap .i64 (13 + (IntKind.wrap .i64 x13)))) - (Int.toNat (IntKind.wrap .i64 (9 + (IntKind.wrap .i64 x13))))) ((b0c - (Int.toNat at1)) - (Int.toNat (IntKind.wrap .i64 (9 + (IntKind.wrap .i64 x13))))))] w16 fun e18 w19 => ∃ x20 : Int, e18 = .returned (.int .u32 x20) ∧
 (bif (!decide (x17 = x20)) then
 (R (.returned (.tuple #[(.int .u8 0), (.slice none 0 0), (.int .i64 0), (.int .i64 13)])) w19)
 else
 (0 ≤ (IntKind.wrap .i64 (9 + (IntKind.wrap .i64 x13))) ∧ (IntKind.wrap .i64 (9 + (IntKind.wrap .i64 x13))) ≤ (((b0c - (Int.toNat at1)) : Nat) : Int) ∧ 0 ≤ (9 : Int) ∧ (9 : Int) ≤ (((Int.toNat (IntKind.wrap .i64 (9 + (IntKind.wrap .i64 x13)))) : Nat) : Int) ∧ RunV Tryd.prog (Builtin.append_ #[22, 22] 22 #[(.slice none 0 0), (.slice (if (b0c - (Int.toNat at1)) = (Int.toNat 9) then (if b0c = (Int.toNat at1) then b0 else Option.map (fun y => Addr.add y ((Int.toNat at1) * 1)) b0) else Option.map (fun y => Addr.add y ((Int.toNat 9) * 1)) (if b0c = (Int.toNat at1) then b0 else Option.map (fun y => Addr.add y ((Int.toNat at1) * 1)) b0)) ((Int.toNat (IntKind.wrap .i64 (9 + (IntKind.wrap .i64 x13)))) - (Int.toNat 9)) ((b0c - (Int.toNat at1)) - (Int.toNat 9)))]) w19 fun v21 w22 => ∃ (x23 : Option Addr) (x23n : Nat) (x23c : Nat), v21 = (.slice x23 x23n x23c) ∧
 0 ≤ (0 : Int) ∧ (0 : Int) < (((b0n - (Int.toNat at1)) : Nat) : Int) ∧ optK (if b0c = (Int.toNat at1) then b0 else Option.map (fun y => Addr.add y ((Int.toNat at1) * 1)) b0) fun a24 =>
 ∃ x25 : Int, World.cell? w22 (Addr.add a24 (Int.toNat 0 * 1)) = some (.int .u8 x25) ∧
 R (.returned (.tuple #[(.int .u8 x25), (.slice x23 x23n x23c), (.int .i64 (IntKind.wrap .i64 ((IntKind.wrap .i64 (at1 + (IntKind.wrap .i64 x13))) + 13))), (.int .i64 0)])) w22)))))))))))
theorem e26 (b0 : Option Addr) (b0n : Nat) (b0c : Nat) (at1 : Int) (w : World) (R : Ending → World → Prop) : denS Tryd.prog s26 (argsEnv 0 [(.slice b0 b0n b0c), (.int .i64 at1)]) w (endK r26 R) = d26 b0 b0n b0c at1 w R := by kernel_rfl
theorem c26 (b0 : Option Addr) (b0n : Nat) (b0c : Nat) (at1 : Int) {w : World} {R : Ending → World → Prop} (h : d26 b0 b0n b0c at1 w R) : Calls Tryd.prog 26 #[(.slice b0 b0n b0c), (.int .i64 at1)] w R :=
  den26 [(.slice b0 b0n b0c), (.int .i64 at1)] w R (by simp) ((e26 b0 b0n b0c at1 w R).symm ▸ h)

end Go.Proofs.YtjchneebdlncfaaDoor.Fn
namespace Go.Proofs.YtjchneebdlncfaaDoor.Den
open Go
open Go.RowKit (Below)
/-- The block of an owned row, if it has one. -/
def rowL (a : Option Addr) : List Nat := (a.map (·.block)).toList
theorem mem_rowL {a : Option Addr} {k : Nat} : k ∈ rowL a ↔ blkOf a k := by
  cases a with
  | none => simp [rowL, blkOf]
  | some x => simp [rowL, blkOf, eq_comm]
/-- The new slice lies where the old one lay, or in a block made since. -/
def Moved (a a' : Option Addr) (N : Nat) : Prop := ∀ x, a' = some x → x.block ∈ rowL a ∨ N ≤ x.block
theorem Moved.refl (a : Option Addr) (N : Nat) : Moved a a N := fun x hx => .inl (by rw [hx]; simp [rowL])
theorem Moved.trans {a b c : Option Addr} {N M : Nat} (h : Moved a b N) (k : Moved b c M) (hNM : N ≤ M) : Moved a c N := fun x hx => by
  rcases k x hx with hk | hk
  · rw [mem_rowL] at hk
    obtain ⟨y, hy, he⟩ := hk
    rw [← he]
    exact h y hy
  · exact .inr (by omega)
theorem Moved.off {a a' : Option Addr} {N : Nat} (h : Moved a a' N) {s : List Nat} (ha : Off s a) (hs : ∀ k ∈ s, k < N) : Off s a' := fun x hx hm => by
  rcases h x hx with hk | hk
  · rw [mem_rowL] at hk
    obtain ⟨y, hy, he⟩ := hk
    exact ha y hy (he ▸ hm)
  · have := hs _ hm; omega
theorem own_ge {w : World} {base e size : Nat} {a : Option Addr} {m n c : Nat} {xs : List Value} (h : w.ownsRow base e size (.slice a m c) n xs) : ∀ x, a = some x → base ≤ x.block ∧ x.block < w.heap.size := by
  intro x hx
  subst hx
  exact own_lt h rfl
theorem app_at {P : Program} {t e ty : TypeId} {size bytes : Nat} (hT : slT P t e size bytes = true) {w : World} {base : Nat} {a : Option Addr} {n c : Nat} {xs : List Value} (hown : w.ownsRow base e size (.slice a n c) n xs)
    {b : Option Addr} {m mc : Nat} {ys : List Value} (hy : RSl w size b m mc ys) (hb : base ≤ w.heap.size) (hlen : n + m ≤ 9223372036854775807) (hbytes : (n + m) * bytes ≤ 140737488355328) {K : Option Addr → Nat → Nat → World → Prop}
    (hK : ∀ a' c' w', w'.ownsRow base e size (.slice a' (n + m) c') (n + m) (xs ++ ys) → Tch (rowL a) w w' → Moved a a' w.heap.size → K a' (n + m) c' w') :
    RunV P (Builtin.append_ #[t, t] ty #[.slice a n c, .slice b m mc]) w fun v w' => ∃ (x : Option Addr) (xn : Nat) (xc : Nat), v = (.slice x xn xc) ∧ K x xn xc w' := by
  obtain ⟨h1, h2, i, z, h3, h4, h5, h6, h7⟩ := slT_spec hT
  obtain ⟨rfl, hc⟩ | ⟨ad, rfl, hcells⟩ := hy.from
  · have hm : m = 0 := by have := hy.cap; omega
    subst hm; subst hc
    have hys : ys = [] := by have := hy.len; rw [Nat.zero_mul] at this; exact List.length_eq_zero_iff.1 this
    subst hys
    refine ⟨_, _, run_append_owned_none w base t ty e i size h1 h3 _ n xs hown, a, n, c, rfl, ?_⟩
    have := hK a c w (by simpa using hown) (Tch.refl _ _) (Moved.refl _ _)
    simpa using this
  · obtain ⟨v', w', r1, r2, r3, r4, r5⟩ := run_append_own_at (P := P) w base t ty e i z size bytes h1 h3 h4 h5 h6 h7 h2 (.slice a n c) n xs hown ad m mc ys hy.len hcells (ones_cells.1 hy.ones) (by unfold maxLen; omega) hbytes hb
    have hv : ∃ a' c', v' = .slice a' (n + m) c' := by
      rcases r2.2 with ⟨rfl, h0⟩ | ⟨g, cap, cur, rfl, _⟩
      · exact ⟨none, 0, by rw [h0]⟩
      · exact ⟨_, _, rfl⟩
    obtain ⟨a', c', rfl⟩ := hv
    refine ⟨_, _, r1, a', _, c', rfl, hK a' c' w' r2 ?_ ?_⟩
    · refine (Tch.refl _ _).grown r3 fun k hk => .inl ?_
      rw [mem_rowL]
      cases a with
      | none => cases hk
      | some x => exact ⟨x, rfl, by simpa [Value.ownBlock] using hk⟩
    · intro x hx
      subst hx
      rcases r5 with h | h
      · cases a with
        | none => cases h
        | some y =>
          left
          rw [mem_rowL]
          exact ⟨y, rfl, by simpa [Value.ownBlock] using h.symm⟩
      · right
        have : x.block = w.heap.size := by simpa [Value.ownBlock] using h
        omega
/-- append of one element: the row of one element is laid first. -/
theorem app_elem_at {P : Program} {t e ty : TypeId} {size bytes : Nat} (hT : slT P t e size bytes = true) {w : World} {base : Nat} {a : Option Addr} {n c : Nat} {xs : List Value} (hown : w.ownsRow base e size (.slice a n c) n xs)
    {z : List Value} (hz : z.length = 1 * size) {v : Value} {ys : List Value} (hv : v.cells = ys.toArray) (hl : ys.length = size) (h1 : ∀ u ∈ ys, one u = true)
    (hb : base ≤ w.heap.size) (hlen : n < 9223372036854775807) (hbytes : (n + 1) * bytes ≤ 140737488355328) {K : Option Addr → Nat → Nat → World → Prop}
    (hK : ∀ a' c' w', w'.ownsRow base e size (.slice a' (n + 1) c') (n + 1) (xs ++ ys) → Tch (rowL a) w w' → Moved a a' w.heap.size → K a' (n + 1) c' w') :
    ∃ cs, fillL (.elems size) z [(0, v)] = some cs ∧ ∀ w1 : World, w1 = World.alloc w (.cells (List.toArray cs) e) →
      RunV P (Builtin.append_ #[t, t] ty #[.slice a n c, .slice (some ⟨World.heap w |>.size, 0, none⟩) 1 1]) w1 fun v w' => ∃ (x : Option Addr) (xn : Nat) (xc : Nat), v = (.slice x xn xc) ∧ K x xn xc w' := by
  refine ⟨ys, fill1 (by omega) hv hl, ?_⟩
  rintro w1 rfl
  have hr : RSl (w.alloc (.cells ys.toArray e)) size (some ⟨w.heap.size, 0, none⟩) 1 1 ys := (Blk.fresh w e rfl).rsl (by omega) h1
  refine app_at hT (own_alloc hown _) hr (by rw [size_alloc]; omega) (by omega) hbytes fun a' c' w' h2 h3 h4 => hK a' c' w' h2 ?_ ?_
  · exact ((Tch.refl (rowL a) w).alloc _).trans h3 fun i hi => .inl hi
  · intro x hx
    rcases h4 x hx with h | h
    · exact .inl h
    · rw [size_alloc] at h; exact .inr (by omega)
theorem tch_base {s : List Nat} {w w' : World} {B : Nat} (h : Tch s w w') (hB : B ≤ w.heap.size) (hs : ∀ i ∈ s, B ≤ i) : Below B w w' := h.below' hB hs
theorem rowL_ge {w : World} {base e size : Nat} {a : Option Addr} {m n c : Nat} {xs : List Value} (h : w.ownsRow base e size (.slice a m c) n xs) : ∀ i ∈ rowL a, base ≤ i ∧ i < w.heap.size := by
  intro i hi
  rw [mem_rowL] at hi
  obtain ⟨x, hx, rfl⟩ := hi
  exact own_ge h x hx
end Go.Proofs.YtjchneebdlncfaaDoor.Den
namespace Go.Proofs.YtjchneebdlncfaaDoor.Lib
open Go Den Fn
open Go.RowKit (Below)
set_option maxRecDepth 8000
set_option maxHeartbeats 1000000
/-- What the table is. -/
def Tab (w : World) : Prop := Cells w ⟨0, 0, none⟩ (halves.map (Value.int .u32))
theorem cells_tch {w w' : World} {b o : Nat} {cs : List Value} {s : List Nat} (h : Cells w ⟨b, o, none⟩ cs) (ht : Tch s w w') (hb : b ∉ s) : Cells w' ⟨b, o, none⟩ cs := fun i v hv => by
  have := h i v hv
  rw [add_mk] at this ⊢
  rw [World.cell?_of_block (w := w) (ht.block b (World.block_lt_of_cell? _ _ this) hb)]
  exact this
theorem Tab.tch {w w' : World} {s : List Nat} (h : Tab w) (ht : Tch s w w') (hs : 0 ∉ s) : Tab w' := cells_tch h ht hs
theorem Tab.get {w : World} (h : Tab w) {i : Nat} (hi : i < 16) : w.cell? ⟨0, i, none⟩ = some (.int .u32 (halves.getD i 0)) := by
  have := h i (.int .u32 (halves.getD i 0)) (by rw [ints_get (by exact hi)])
  rwa [add_mk, Nat.zero_add] at this
theorem tab_elem {w : World} (h : Tab w) {i : Int} (h0 : 0 ≤ i) (h1 : i < 16) {K : Int → Prop} (hK : K (halves.getD i.toNat 0)) :
    ∃ y : Int, World.cell? w (Addr.add ⟨0, 0, none⟩ (Int.toNat i * 1)) = some (.int .u32 y) ∧ K y := by
  refine ⟨_, ?_, hK⟩
  rw [add_mk, Nat.zero_add, Nat.mul_one]
  exact h.get (by omega)
theorem ofInt_u32 {c : Int} (h0 : 0 ≤ c) (h1 : c < 256) : ((BitVec.ofInt 32 c).toNat : Int) = c := by
  rw [toNat_ofInt h0 (by omega)]; omega
theorem u8_elem {w : World} {a : Option Addr} {n c : Nat} {bs : List Int} (h : RSl w 1 a n c (u8 bs)) {i : Nat} (hi : i < n) {K : Int → Prop} (hK : K (bs.getD i 0)) :
    optK a fun x => ∃ y : Int, World.cell? w (Addr.add x (i * 1)) = some (.int .u8 y) ∧ K y := by
  obtain ⟨b, o, rfl, g⟩ := h.int hi
  refine ⟨_, ?_, hK⟩
  rw [add_mk, Nat.mul_one]
  exact g
theorem sum_c (w : World) (bs : List Int) (a : Option Addr) (n c : Nat) (hr : RSl w 1 a n c (u8 bs)) (hB : Bytes bs) (hN : n ≤ 140737488355328) (hT : Tab w) :
    Calls Tryd.prog 59 #[.slice a n c] w fun e w' => e = .returned (.int .u32 (crc bs)) ∧ w' = w := by
  have hn := u8_len hr
  refine c59 _ _ _ ?_
  unfold d59
  refine ⟨fun m s x w' => ∃ i : Nat, i ≤ n ∧ x = i ∧ s = ((crcF (bs.take i)).toNat : Int) ∧ m = n - i ∧ w' = w, ⟨n, 0, by omega, rfl, rfl, rfl, rfl⟩, ?_⟩
  rintro m w3 s x ⟨i, hi, rfl, rfl, rfl, rfl⟩
  by_cases hlt : i < n
  · rw [bif_pos (by omega)]
    refine ⟨by omega, by omega, ?_⟩
    rw [Int.toNat_natCast]
    refine u8_elem hr hlt ?_
    have hb := byte_of hB i
    have e1 : IntKind.wrap .u32 (bs.getD i 0) = ((BitVec.ofInt 32 (bs.getD i 0)).toNat : Int) := by rw [wrap_u32 (by omega) (by omega), ofInt_u32 hb.1 hb.2]
    have e2 : crcF (bs.take (i + 1)) = cb (crcF (bs.take i)) (bs.getD i 0) := by rw [take_succ_getD (by omega), crcF_snoc]
    rw [e1, xor32]
    generalize hs1 : crcF (bs.take i) ^^^ BitVec.ofInt 32 (bs.getD i 0) = s1
    have f1 : 0 ≤ bAnd .u32 (s1.toNat : Int) 15 ∧ bAnd .u32 (s1.toNat : Int) 15 < 16 := by rw [and15]; omega
    refine ⟨by omega, f1.1, by simpa using f1.2, tab_elem hT f1.1 f1.2 ?_⟩
    rw [half_step]
    have f2 : 0 ≤ bAnd .u32 ((cs4 s1).toNat : Int) 15 ∧ bAnd .u32 ((cs4 s1).toNat : Int) 15 < 16 := by rw [and15]; omega
    refine ⟨by omega, f2.1, by simpa using f2.2, tab_elem hT f2.1 f2.2 ?_⟩
    rw [half_step, wrap_i64 (by omega) (by omega)]
    refine ⟨n - (i + 1), by omega, i + 1, by omega, by omega, ?_, rfl, rfl⟩
    rw [e2, cb, hs1]
  · have : i = n := by omega
    subst this
    rw [bif_neg (by omega), List.take_of_length_le (by omega)]
    refine ⟨?_, rfl⟩
    rw [show IntKind.max .u32 = ((4294967295#32 : BitVec 32).toNat : Int) from rfl, xor32, BitVec.xor_comm]
    rfl

/-- Four bytes as a number, the low one first. -/
def word (l : List Int) (o : Nat) : Int := l.getD o 0 + l.getD (o + 1) 0 * 256 + l.getD (o + 2) 0 * 65536 + l.getD (o + 3) 0 * 16777216
theorem word_range {l : List Int} (h : Bytes l) (o : Nat) : 0 ≤ word l o ∧ word l o < 4294967296 := by
  have := byte_of h o; have := byte_of h (o + 1); have := byte_of h (o + 2); have := byte_of h (o + 3)
  unfold word
  omega
theorem word_drop (l : List Int) (k o : Nat) : word (l.drop k) o = word l (k + o) := by
  unfold word
  simp only [getD_drop, Nat.add_assoc]
theorem word_take (l : List Int) {k o : Nat} (h : o + 4 ≤ k) : word (l.take k) o = word l o := by
  unfold word
  rw [getD_take (by omega), getD_take (by omega), getD_take (by omega), getD_take (by omega)]
theorem shL32 {x : Int} (h0 : 0 ≤ x) {n : Nat} (hn : n ≤ 32) (h1 : x * 2 ^ n < 4294967296) : shL .u32 x (n : Int) = x * 2 ^ n := by
  unfold shL
  rw [Int.toNat_natCast, Nat.min_eq_left (show n ≤ IntKind.bits .u32 from hn)]
  exact wrap_u32 (Int.mul_nonneg h0 (Int.pow_nonneg (by omega))) h1
theorem or4 {a b c d : Int} (ha : 0 ≤ a ∧ a < 256) (hb : 0 ≤ b ∧ b < 256) (hc : 0 ≤ c ∧ c < 256) (hd : 0 ≤ d ∧ d < 256) :
    bOr .u32 (bOr .u32 (bOr .u32 (IntKind.wrap .u32 a) (shL .u32 (IntKind.wrap .u32 b) 8)) (shL .u32 (IntKind.wrap .u32 c) 16)) (shL .u32 (IntKind.wrap .u32 d) 24) = a + b * 256 + c * 65536 + d * 16777216 := by
  obtain ⟨a, rfl⟩ := Int.eq_ofNat_of_zero_le ha.1
  obtain ⟨b, rfl⟩ := Int.eq_ofNat_of_zero_le hb.1
  obtain ⟨c, rfl⟩ := Int.eq_ofNat_of_zero_le hc.1
  obtain ⟨d, rfl⟩ := Int.eq_ofNat_of_zero_le hd.1
  rw [wrap_u32 (by omega) (by omega), wrap_u32 (n := (b : Int)) (by omega) (by omega), wrap_u32 (n := (c : Int)) (by omega) (by omega), wrap_u32 (n := (d : Int)) (by omega) (by omega)]
  rw [show (8 : Int) = ((8 : Nat) : Int) from rfl, show (16 : Int) = ((16 : Nat) : Int) from rfl, show (24 : Int) = ((24 : Nat) : Int) from rfl, shL32 (by omega) (by omega) (by omega), shL32 (by omega) (by omega) (by omega), shL32 (by omega) (by omega) (by omega)]
  have e1 := bOr_u32 (a := b) (b := a) 8 (by omega) (by omega)
  have e2 := bOr_u32 (a := c) (b := b * 2 ^ 8 + a) 16 (by omega) (by omega)
  have e3 := bOr_u32 (a := d) (b := c * 2 ^ 16 + (b * 2 ^ 8 + a)) 24 (by omega) (by omega)
  rw [show (b : Int) * 2 ^ 8 = ((b * 2 ^ 8 : Nat) : Int) by simp, show (c : Int) * 2 ^ 16 = ((c * 2 ^ 16 : Nat) : Int) by simp, show (d : Int) * 2 ^ 24 = ((d * 2 ^ 24 : Nat) : Int) by simp]
  rw [bOr_comm _ (a : Int), e1, bOr_comm _ _ ((c * 2 ^ 16 : Nat) : Int), e2, bOr_comm _ _ ((d * 2 ^ 24 : Nat) : Int), e3]
  omega
theorem back_c (w : World) (bs : List Int) (a : Option Addr) (n c : Nat) (hr : RSl w 1 a n c (u8 bs)) (hB : Bytes bs) (hn4 : 4 ≤ n) :
    Calls Tryd.prog 60 #[.slice a n c] w fun e w' => e = .returned (.int .u32 (word bs 0)) ∧ Tch [] w w' := by
  refine c60 _ _ _ ?_
  unfold d60
  rintro w1 rfl
  have hr1 := hr.tch (Tch.refl [] w).drew (fun _ _ h => by cases h)
  refine ⟨by omega, by omega, u8_elem (i := 0) hr1 (by omega) ?_⟩
  refine ⟨by omega, by omega, u8_elem (i := 1) hr1 (by omega) ?_⟩
  refine ⟨by omega, by omega, by omega, u8_elem (i := 2) hr1 (by omega) ?_⟩
  refine ⟨by omega, by omega, by omega, u8_elem (i := 3) hr1 (by omega) ?_⟩
  refine ⟨by omega, ?_, (Tch.refl [] w).drew⟩
  rw [or4 (byte_of hB 0) (byte_of hB 1) (byte_of hB 2) (byte_of hB 3)]
  rfl
theorem refWord_c (w : World) (bs : List Int) (a : Option Addr) (n c : Nat) (hr : RSl w 1 a n c (u8 bs)) (hB : Bytes bs) (hn4 : 4 ≤ n) :
    Calls Tryd.prog 63 #[.slice a n c] w fun e w' => e = .returned (.int .u32 (word bs 0)) ∧ Tch [] w w' := by
  refine c63 _ _ _ ?_
  unfold d63
  rintro w1 rfl
  have hr1 := hr.tch (Tch.refl [] w).drew (fun _ _ h => by cases h)
  refine ⟨by omega, by omega, u8_elem (i := 0) hr1 (by omega) ?_⟩
  refine ⟨by omega, by omega, u8_elem (i := 1) hr1 (by omega) ?_⟩
  refine ⟨by omega, by omega, by omega, u8_elem (i := 2) hr1 (by omega) ?_⟩
  refine ⟨by omega, by omega, by omega, u8_elem (i := 3) hr1 (by omega) ?_⟩
  refine ⟨by omega, ?_, (Tch.refl [] w).drew⟩
  have h0 := byte_of hB 0; have h1 := byte_of hB 1; have h2 := byte_of hB 2; have h3 := byte_of hB 3
  have hw : word bs 0 = bs.getD 0 0 + bs.getD 1 0 * 256 + bs.getD 2 0 * 65536 + bs.getD 3 0 * 16777216 := rfl
  rw [hw]
  generalize bs.getD 0 0 = p at *
  generalize bs.getD 1 0 = q at *
  generalize bs.getD 2 0 = r at *
  generalize bs.getD 3 0 = s at *
  rw [wrap_u32 (n := p) (by omega) (by omega), wrap_u32 (n := q) (by omega) (by omega), wrap_u32 (n := r) (by omega) (by omega), wrap_u32 (n := s) (by omega) (by omega)]
  rw [show (8 : Int) = ((8 : Nat) : Int) from rfl, show (16 : Int) = ((16 : Nat) : Int) from rfl, show (24 : Int) = ((24 : Nat) : Int) from rfl, shL32 (by omega) (by omega) (by omega), shL32 (by omega) (by omega) (by omega), shL32 (by omega) (by omega) (by omega)]
  simp only [show (2 : Int) ^ 8 = 256 from rfl, show (2 : Int) ^ 16 = 65536 from rfl, show (2 : Int) ^ 24 = 16777216 from rfl]
  rw [wrap_u32 (n := p + q * 256) (by omega) (by omega), wrap_u32 (n := p + q * 256 + r * 65536) (by omega) (by omega), wrap_u32 (by omega) (by omega)]
theorem shr8 {c : Int} (h0 : 0 ≤ c) (h1 : c < 256) (k : Nat) (hk : k ≤ 8) : shR .u8 c (k : Int) = ((c.toNat / 2 ^ k : Nat) : Int) := by
  obtain ⟨c, rfl⟩ := Int.eq_ofNat_of_zero_le h0
  rw [shR_nat (k := .u8) k hk, Int.toNat_natCast]
  norm_cast
theorem and1n (n : Nat) (h : n < 4294967296) : bAnd .u32 (n : Int) 1 = ((n % 2 : Nat) : Int) := by
  have := and1 (BitVec.ofNat 32 n)
  rwa [BitVec.toNat_ofNat, Nat.mod_eq_of_lt (show n < 2 ^ 32 from h)] at this
theorem refSum_c (w : World) (bs : List Int) (a : Option Addr) (n c : Nat) (hr : RSl w 1 a n c (u8 bs)) (hB : Bytes bs) (hN : n ≤ 140737488355328) :
    Calls Tryd.prog 62 #[.slice a n c] w fun e w' => e = .returned (.int .u32 (crc bs)) ∧ w' = w := by
  have hn := u8_len hr
  refine c62 _ _ _ ?_
  unfold d62
  refine ⟨fun m s x w' => ∃ i : Nat, i ≤ n ∧ x = i ∧ s = ((crcF (bs.take i)).toNat : Int) ∧ m = n - i ∧ w' = w, ⟨n, 0, by omega, rfl, rfl, rfl, rfl⟩, ?_⟩
  rintro m w3 s x ⟨i, hi, rfl, rfl, rfl, rfl⟩
  by_cases hlt : i < n
  · rw [bif_pos (by omega)]
    have hb := byte_of hB i
    have e2 : crcF (bs.take (i + 1)) = cb (crcF (bs.take i)) (bs.getD i 0) := by rw [take_succ_getD (by omega), crcF_snoc]
    generalize crcF (bs.take i) = S at *
    have hcn : ((bs.getD i 0).toNat : Int) = bs.getD i 0 := by omega
    refine ⟨fun m s x w' => ∃ k : Nat, k ≤ 8 ∧ x = k ∧ s = ((rb S (bs.getD i 0).toNat k).toNat : Int) ∧ m = 8 - k ∧ w' = w3, ⟨8, 0, by omega, rfl, by rw [rb_zero], rfl, rfl⟩, ?_⟩
    rintro m w8 s x ⟨k, hk, rfl, rfl, rfl, rfl⟩
    by_cases hk8 : k < 8
    · rw [bif_pos (by omega)]
      refine ⟨by omega, by omega, ?_⟩
      rw [Int.toNat_natCast]
      refine u8_elem hr hlt ⟨by omega, by omega, ?_⟩
      have hc8 : (bs.getD i 0).toNat < 256 := by omega
      have hd : (bs.getD i 0).toNat / 2 ^ k < 4294967296 := Nat.lt_of_le_of_lt (Nat.div_le_self _ _) (by omega)
      have hst := bit_step (rb S (bs.getD i 0).toNat k) (b := bitAt (bs.getD i 0).toNat k) (Nat.mod_lt _ (by omega))
      rw [← rb_succ S hc8 hk8] at hst
      rw [shr8 hb.1 hb.2 k (by omega), wrap_u32 (n := (((bs.getD i 0).toNat / 2 ^ k : Nat) : Int)) (Int.natCast_nonneg _) (by generalize (bs.getD i 0).toNat / 2 ^ k = q at hd ⊢; omega), and1n _ hd, wrap_i64 (by omega) (by omega)]
      show bif !decide (((bitAt (bs.getD i 0).toNat k : Nat) : Int) = _) then _ else _
      by_cases hu : ((bitAt (bs.getD i 0).toNat k : Nat) : Int) = bAnd .u32 ((rb S (bs.getD i 0).toNat k).toNat : Int) 1
      · rw [bif_npos hu]
        rw [decide_eq_true hu, Bool.not_true, cond_false] at hst
        exact ⟨8 - (k + 1), by omega, k + 1, by omega, by omega, hst, rfl, rfl⟩
      · rw [bif_nneg hu]
        rw [decide_eq_false hu, Bool.not_false, cond_true] at hst
        exact ⟨8 - (k + 1), by omega, k + 1, by omega, by omega, hst, rfl, rfl⟩
    · obtain rfl : k = 8 := by omega
      rw [bif_neg (by omega), wrap_i64 (by omega) (by omega)]
      refine ⟨n - (i + 1), by omega, i + 1, by omega, by omega, ?_, rfl, rfl⟩
      rw [e2, rb_eight S (by omega), hcn]
  · have : i = n := by omega
    subst this
    rw [bif_neg (by omega), List.take_of_length_le (by omega)]
    refine ⟨?_, rfl⟩
    rw [show IntKind.max .u32 = ((4294967295#32 : BitVec 32).toNat : Int) from rfl, xor32, BitVec.xor_comm]
    rfl
end Go.Proofs.YtjchneebdlncfaaDoor.Lib
namespace Go.Proofs.YtjchneebdlncfaaDoor.Lib
open Go Den Fn
open Go.ChangeShapes Go.WideShapes Go.ChangeAt Go.RowKit
theorem own : ownKnob Tryd.prog.godebug = none := by kernel_rfl
theorem laidOk : laidOutB Tryd.prog = true := by kernel_rfl
theorem uBool : Tryd.prog.underlying 4 = some .bool := by kernel_rfl
theorem gTab : Tryd.prog.globalNamed "prelude/codec.halves" = some 0 := by kernel_rfl
theorem gTabT : (Tryd.prog.globals[0]?).map (·.type) = some 159 := by kernel_rfl
theorem uTab : Tryd.prog.underlying 159 = some (.array 16 120) := by kernel_rfl
theorem uWord : Tryd.prog.underlying 120 = some (.int .u32) := by kernel_rfl
theorem cWord : Tryd.prog.cellsOf 120 = 1 := by kernel_rfl
theorem cTab : Tryd.prog.cellsOf 159 = 16 := by kernel_rfl
theorem uBytes : Tryd.prog.underlying 22 = some (.slice 5) := by kernel_rfl
theorem uByte : Tryd.prog.underlying 5 = some (.int .u8) := by kernel_rfl
theorem cByte : Tryd.prog.cellsOf 5 = 1 := by kernel_rfl
theorem cells_of_tab {W : World} {name : String} {zs : List Int} {g : Nat} (h : Go.Lib.TabIs Tryd.prog W name .u32 zs) (hg : Tryd.prog.globalNamed name = some g) : Cells W ⟨g, 0, none⟩ (zs.map (Value.int .u32)) := by
  intro i v hv
  rw [List.getElem?_map, Option.map_eq_some_iff] at hv
  obtain ⟨x, hx, rfl⟩ := hv
  have hi := (List.getElem?_eq_some_iff.1 hx).1
  rw [add_mk, Nat.zero_add, h.cell hg i hi]
  simp [List.getD_eq_getElem?_getD, hx]
abbrev laidRows : List (String × DataW Unit) := [("prelude/codec.halves", Rows.laid_prelude_codec_halves)]
/-- What a row's list gives. -/
theorem laidTab {W : World} (h : laidMetH Tryd.prog laidRows W) : Tab W :=
  cells_of_tab (Go.Lib.tabIs_of_head (zs := halves) (rest := []) gTab gTabT uTab uWord cWord cTab h) gTab
def lay (cs : Array Value) : Obj → Obj
  | .cells _ t frozen => .cells cs t frozen
  | o => o
noncomputable def laidWorld (os : Os) : World :=
  { World.holding Tryd.prog os ⟨#[], #[], []⟩ with heap := (World.holding Tryd.prog os ⟨#[], #[], []⟩).heap.modify 0 (lay (halves.map (Value.int .u32)).toArray) }
end Go.Proofs.YtjchneebdlncfaaDoor.Lib
