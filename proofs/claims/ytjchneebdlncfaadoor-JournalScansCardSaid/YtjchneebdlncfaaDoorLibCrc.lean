/-
  THE CHECK SUM, as bits: a step of one bit, a table's step of four bits, a byte.
  Own work. No macro, syntax, notation, axiom.
-/
import Derived.Test.YtjchneebdlncfaaDoorLibBase
namespace Go.Proofs.YtjchneebdlncfaaDoor.Lib
open Go Den
set_option maxRecDepth 8000

/-! ### Numbers of 32 bits -/
theorem ofInt_toNat {n : Nat} (s : BitVec n) : BitVec.ofInt n (s.toNat : Int) = s := by
  apply BitVec.eq_of_toNat_eq
  rw [BitVec.toNat_ofInt, Int.emod_eq_of_lt (by omega) (by have := s.isLt; exact_mod_cast this), Int.toNat_natCast]
theorem xor32 (s t : BitVec 32) : bXor .u32 (s.toNat : Int) (t.toNat : Int) = ((s ^^^ t).toNat : Int) := by
  unfold bXor
  show IntKind.wrap .u32 (((BitVec.ofInt 32 _ ^^^ BitVec.ofInt 32 _).toNat : Nat) : Int) = _
  rw [ofInt_toNat, ofInt_toNat, wrap_u32 (by omega) (by have := (s ^^^ t).isLt; omega)]
theorem and32 (s t : BitVec 32) : bAnd .u32 (s.toNat : Int) (t.toNat : Int) = ((s &&& t).toNat : Int) := by
  unfold bAnd
  show IntKind.wrap .u32 (((BitVec.ofInt 32 _ &&& BitVec.ofInt 32 _).toNat : Nat) : Int) = _
  rw [ofInt_toNat, ofInt_toNat, wrap_u32 (by omega) (by have := (s &&& t).isLt; omega)]
theorem shr32 (s : BitVec 32) (k : Nat) (hk : k ≤ 32) : shR .u32 (s.toNat : Int) (k : Int) = ((s >>> k).toNat : Int) := by
  unfold shR
  show Int.fdiv (s.toNat : Int) (2 ^ (min (Int.toNat (k : Int)) 32)) = _
  rw [Int.toNat_natCast, Nat.min_eq_left hk, BitVec.toNat_ushiftRight, Nat.shiftRight_eq_div_pow]
  rw [Int.fdiv_eq_ediv_of_nonneg _ (by exact Int.pow_nonneg (by omega))]
  norm_cast
theorem and15 (s : BitVec 32) : bAnd .u32 (s.toNat : Int) 15 = ((s.toNat % 16 : Nat) : Int) := by
  have := and32 s 15#32
  rw [show ((15#32 : BitVec 32).toNat : Int) = 15 from rfl] at this
  rw [this, BitVec.toNat_and]
  congr 1
  exact Nat.and_two_pow_sub_one_eq_mod _ 4

/-! ### Steps -/
def P32 : BitVec 32 := 3988292384#32
def cs (s : BitVec 32) : BitVec 32 := (s >>> 1) ^^^ (bif s.getLsbD 0 then P32 else 0#32)
theorem cs_xor (a b : BitVec 32) : cs (a ^^^ b) = cs a ^^^ cs b := by
  unfold cs
  rw [BitVec.getLsbD_xor, BitVec.ushiftRight_xor_distrib]
  generalize a >>> 1 = x
  generalize b >>> 1 = y
  have h : ∀ p q : BitVec 32, p = q → (x ^^^ p) ^^^ (y ^^^ q) = x ^^^ y := by
    rintro p _ rfl
    rw [show (x ^^^ p) ^^^ (y ^^^ p) = (x ^^^ y) ^^^ (p ^^^ p) by ac_rfl, BitVec.xor_self, BitVec.xor_zero]
  cases a.getLsbD 0 <;> cases b.getLsbD 0
  · simp
  · simp [BitVec.xor_assoc]
  · simp only [Bool.true_xor, Bool.not_false, cond_true, cond_false, BitVec.xor_zero]; ac_rfl
  · simp only [Bool.true_xor, Bool.not_true, cond_true, cond_false, BitVec.xor_zero]; exact (h _ _ rfl).symm
def cs4 (s : BitVec 32) : BitVec 32 := cs (cs (cs (cs s)))
theorem cs4_xor (a b : BitVec 32) : cs4 (a ^^^ b) = cs4 a ^^^ cs4 b := by simp only [cs4, cs_xor]
theorem cs_even {a : BitVec 32} (h : a.getLsbD 0 = false) : cs a = a >>> 1 := by unfold cs; rw [h, cond_false, BitVec.xor_zero]
theorem shr_shr (a : BitVec 32) (i j : Nat) : (a >>> i) >>> j = a >>> (i + j) := by
  apply BitVec.eq_of_getLsbD_eq
  intro k hk
  simp [BitVec.getLsbD_ushiftRight, Nat.add_assoc]
theorem cs4_high {a : BitVec 32} (h : ∀ i, i < 4 → a.getLsbD i = false) : cs4 a = a >>> 4 := by
  unfold cs4
  rw [cs_even (h 0 (by omega)), cs_even (a := a >>> 1) (by rw [BitVec.getLsbD_ushiftRight]; exact h 1 (by omega)), shr_shr,
    cs_even (a := a >>> (1 + 1)) (by rw [BitVec.getLsbD_ushiftRight]; exact h 2 (by omega)), shr_shr,
    cs_even (a := a >>> (1 + 1 + 1)) (by rw [BitVec.getLsbD_ushiftRight]; exact h 3 (by omega)), shr_shr]
def halves : List Int := [0, 498536548, 997073096, 651767980, 1994146192, 1802195444, 1303535960, 1342533948, 3988292384, 4027552580, 3604390888, 3412177804, 2607071920, 2262029012, 2685067896, 3183342108]
theorem halves_spec : ∀ i : Fin 16, halves.getD i.val 0 = ((cs4 (BitVec.ofNat 32 i.val)).toNat : Int) := by decide
theorem split4 (s : BitVec 32) : s = (s &&& 4294967280#32) ^^^ BitVec.ofNat 32 (s.toNat % 16) := by
  have h1 : BitVec.ofNat 32 (s.toNat % 16) = s &&& 15#32 := by
    apply BitVec.eq_of_toNat_eq
    rw [BitVec.toNat_ofNat, BitVec.toNat_and]
    have := Nat.and_two_pow_sub_one_eq_mod s.toNat 4
    simp only [show (15#32 : BitVec 32).toNat = 2 ^ 4 - 1 from rfl, this]
    omega
  rw [h1]
  apply BitVec.eq_of_getLsbD_eq
  intro i hi
  rw [BitVec.getLsbD_xor, BitVec.getLsbD_and, BitVec.getLsbD_and]
  have : (4294967280#32).getLsbD i = !(15#32 : BitVec 32).getLsbD i := by
    have : ∀ i : Fin 32, (4294967280#32).getLsbD i.val = !(15#32 : BitVec 32).getLsbD i.val := by decide
    exact this ⟨i, hi⟩
  rw [this]
  cases s.getLsbD i <;> cases (15#32 : BitVec 32).getLsbD i <;> rfl
/-- The table's step. -/
theorem half_step (s : BitVec 32) : bXor .u32 (shR .u32 (s.toNat : Int) 4) (halves.getD (bAnd .u32 (s.toNat : Int) 15).toNat 0) = ((cs4 s).toNat : Int) := by
  have h1 : s.toNat % 16 < 16 := Nat.mod_lt _ (by omega)
  rw [and15, Int.toNat_natCast, halves_spec ⟨s.toNat % 16, h1⟩, show (4 : Int) = ((4 : Nat) : Int) from rfl, shr32 s 4 (by omega), xor32]
  congr 2
  show _ ^^^ cs4 (BitVec.ofNat 32 (s.toNat % 16)) = _
  have hx : cs4 s = cs4 (s &&& 4294967280#32) ^^^ cs4 (BitVec.ofNat 32 (s.toNat % 16)) := by rw [← cs4_xor, ← split4]
  rw [hx, cs4_high (a := s &&& 4294967280#32)]
  · congr 1
    apply BitVec.eq_of_getLsbD_eq
    intro i hi
    rw [BitVec.getLsbD_ushiftRight, BitVec.getLsbD_ushiftRight, BitVec.getLsbD_and]
    have : ∀ i : Fin 28, (4294967280#32).getLsbD (4 + i.val) = true := by decide
    by_cases h : i < 28
    · rw [this ⟨i, h⟩, Bool.and_true]
    · rw [BitVec.getLsbD_of_ge _ _ (by omega), Bool.false_and]
  · intro i hi
    rw [BitVec.getLsbD_and]
    have : ∀ i : Fin 4, (4294967280#32).getLsbD i.val = false := by decide
    rw [this ⟨i, hi⟩, Bool.and_false]
def cb (s : BitVec 32) (c : Int) : BitVec 32 := cs4 (cs4 (s ^^^ BitVec.ofInt 32 c))
def crcF (l : List Int) : BitVec 32 := l.foldl cb 4294967295#32
/-- The check sum of some bytes. -/
def crc (l : List Int) : Int := ((crcF l ^^^ 4294967295#32).toNat : Int)
theorem crcF_snoc (l : List Int) (c : Int) : crcF (l ++ [c]) = cb (crcF l) c := by simp [crcF]
theorem crc_range (l : List Int) : 0 ≤ crc l ∧ crc l < 4294967296 := by
  unfold crc
  have := (crcF l ^^^ 4294967295#32).isLt
  omega
/-! ### Bit by bit -/
def csN : Nat → BitVec 32 → BitVec 32
  | 0, s => s
  | k + 1, s => cs (csN k s)
theorem csN_xor : ∀ (k : Nat) (a b : BitVec 32), csN k (a ^^^ b) = csN k a ^^^ csN k b
  | 0, _, _ => rfl
  | k + 1, a, b => by simp only [csN, csN_xor k, cs_xor]
def bitAt (c k : Nat) : Nat := c / 2 ^ k % 2
theorem low_step : ∀ (c : Fin 256) (k : Fin 8), BitVec.ofNat 32 (c.val % 2 ^ (k.val + 1)) = BitVec.ofNat 32 (c.val % 2 ^ k.val) ^^^ BitVec.ofNat 32 (bitAt c.val k.val * 2 ^ k.val) ∧ csN k.val (BitVec.ofNat 32 (bitAt c.val k.val * 2 ^ k.val)) = BitVec.ofNat 32 (bitAt c.val k.val) := by decide +kernel
/-- The state within a byte, before its k-th bit. -/
def rb (s : BitVec 32) (c k : Nat) : BitVec 32 := csN k (s ^^^ BitVec.ofNat 32 (c % 2 ^ k))
theorem rb_zero (s : BitVec 32) (c : Nat) : rb s c 0 = s := by
  show s ^^^ BitVec.ofNat 32 (c % 1) = s
  rw [Nat.mod_one]
  exact BitVec.xor_zero
theorem rb_eight (s : BitVec 32) {c : Nat} (hc : c < 256) : rb s c 8 = cb s (c : Int) := by
  unfold rb cb
  rw [Nat.mod_eq_of_lt (show c < 2 ^ 8 from hc), BitVec.ofInt_natCast]
  rfl
theorem rb_succ (s : BitVec 32) {c k : Nat} (hc : c < 256) (hk : k < 8) : rb s c (k + 1) = cs (rb s c k ^^^ BitVec.ofNat 32 (bitAt c k)) := by
  obtain ⟨h1, h2⟩ := low_step ⟨c, hc⟩ ⟨k, hk⟩
  simp only at h1 h2
  unfold rb
  show cs (csN k _) = _
  rw [h1, ← BitVec.xor_assoc, csN_xor k (s ^^^ _), h2]
theorem and1 (s : BitVec 32) : bAnd .u32 (s.toNat : Int) 1 = ((s.toNat % 2 : Nat) : Int) := by
  have := and32 s 1#32
  rw [show ((1#32 : BitVec 32).toNat : Int) = 1 from rfl] at this
  rw [this, BitVec.toNat_and]
  congr 1
  exact Nat.and_two_pow_sub_one_eq_mod _ 1
/-- What the reference does with a bit. -/
theorem bit_step (s : BitVec 32) {b : Nat} (hb : b < 2) :
    (bif !decide ((b : Int) = bAnd .u32 (s.toNat : Int) 1) then bXor .u32 (shR .u32 (s.toNat : Int) 1) 3988292384 else shR .u32 (s.toNat : Int) 1) = ((cs (s ^^^ BitVec.ofNat 32 b)).toNat : Int) := by
  have hP : (3988292384 : Int) = (P32.toNat : Int) := rfl
  rw [and1, show (1 : Int) = ((1 : Nat) : Int) from rfl, shr32 s 1 (by omega), hP, xor32, cs_xor]
  have e0 : cs (BitVec.ofNat 32 0) = 0#32 := rfl
  have e1 : cs (BitVec.ofNat 32 1) = P32 := rfl
  have hl : s.getLsbD 0 = decide (s.toNat % 2 = 1) := by
    show s.toNat.testBit 0 = _
    rw [Nat.testBit_zero]
  unfold cs at *
  rw [hl]
  rcases Nat.mod_two_eq_zero_or_one s.toNat with h | h
  · rw [h]
    obtain rfl | rfl : b = 0 ∨ b = 1 := by omega
    · simp
    · rw [e1]; simp
  · rw [h]
    obtain rfl | rfl : b = 0 ∨ b = 1 := by omega
    · rw [e0]; simp
    · rw [e1]; simp [BitVec.xor_assoc]
end Go.Proofs.YtjchneebdlncfaaDoor.Lib
