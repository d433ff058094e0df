/-
  CHECK SUMS AND RECORDS: contracts of Sum, back, Unseal, and of the reference's.
  Own work. No macro, syntax, notation, axiom.
-/
import Derived.Test.YtjchneebdlncfaaDoorLibCrc
import Derived.Test.YtjchneebdlncfaaDoorFnSeal
import Derived.Test.YtjchneebdlncfaaDoorDenWords9
namespace Go.Proofs.YtjchneebdlncfaaDoor.Lib
open Go Den Fn
open Go.RowKit (Below)
set_option maxRecDepth 8000
set_option maxHeartbeats 1000000

/-- What the table is. -/
def Tab (w : World) : Prop := Cells w ⟨0, 0, none⟩ (halves.map (Value.int .u32))
theorem cells_tch {w w' : World} {b o : Nat} {cs : List Value} {s : List Nat} (h : Cells w ⟨b, o, none⟩ cs) (ht : Tch s w w') (hb : b ∉ s) : Cells w' ⟨b, o, none⟩ cs := fun i v hv => by
  have := h i v hv
  rw [add_mk] at this ⊢
  rw [World.cell?_of_block (w := w) (ht.block b (World.block_lt_of_cell? _ _ this) hb)]
  exact this
theorem Tab.tch {w w' : World} {s : List Nat} (h : Tab w) (ht : Tch s w w') (hs : 0 ∉ s) : Tab w' := cells_tch h ht hs
theorem Tab.get {w : World} (h : Tab w) {i : Nat} (hi : i < 16) : w.cell? ⟨0, i, none⟩ = some (.int .u32 (halves.getD i 0)) := by
  have := h i (.int .u32 (halves.getD i 0)) (by rw [ints_get (by exact hi)])
  rwa [add_mk, Nat.zero_add] at this
theorem tab_elem {w : World} (h : Tab w) {i : Int} (h0 : 0 ≤ i) (h1 : i < 16) {K : Int → Prop} (hK : K (halves.getD i.toNat 0)) :
    ∃ y : Int, World.cell? w (Addr.add ⟨0, 0, none⟩ (Int.toNat i * 1)) = some (.int .u32 y) ∧ K y := by
  refine ⟨_, ?_, hK⟩
  rw [add_mk, Nat.zero_add, Nat.mul_one]
  exact h.get (by omega)
theorem ofInt_u32 {c : Int} (h0 : 0 ≤ c) (h1 : c < 256) : ((BitVec.ofInt 32 c).toNat : Int) = c := by
  rw [toNat_ofInt h0 (by omega)]; omega
theorem u8_elem {w : World} {a : Option Addr} {n c : Nat} {bs : List Int} (h : RSl w 1 a n c (u8 bs)) {i : Nat} (hi : i < n) {K : Int → Prop} (hK : K (bs.getD i 0)) :
    optK a fun x => ∃ y : Int, World.cell? w (Addr.add x (i * 1)) = some (.int .u8 y) ∧ K y := by
  obtain ⟨b, o, rfl, g⟩ := h.int hi
  refine ⟨_, ?_, hK⟩
  rw [add_mk, Nat.mul_one]
  exact g
theorem sum_c (w : World) (bs : List Int) (a : Option Addr) (n c : Nat) (hr : RSl w 1 a n c (u8 bs)) (hB : Bytes bs) (hN : n ≤ 140737488355328) (hT : Tab w) :
    Calls Tryd.prog 59 #[.slice a n c] w fun e w' => e = .returned (.int .u32 (crc bs)) ∧ w' = w := by
  have hn := u8_len hr
  refine c59 _ _ _ ?_
  unfold d59
  refine ⟨fun m s x w' => ∃ i : Nat, i ≤ n ∧ x = i ∧ s = ((crcF (bs.take i)).toNat : Int) ∧ m = n - i ∧ w' = w, ⟨n, 0, by omega, rfl, rfl, rfl, rfl⟩, ?_⟩
  rintro m w3 s x ⟨i, hi, rfl, rfl, rfl, rfl⟩
  by_cases hlt : i < n
  · rw [bif_pos (by omega)]
    refine ⟨by omega, by omega, ?_⟩
    rw [Int.toNat_natCast]
    refine u8_elem hr hlt ?_
    have hb := byte_of hB i
    have e1 : IntKind.wrap .u32 (bs.getD i 0) = ((BitVec.ofInt 32 (bs.getD i 0)).toNat : Int) := by rw [wrap_u32 (by omega) (by omega), ofInt_u32 hb.1 hb.2]
    have e2 : crcF (bs.take (i + 1)) = cb (crcF (bs.take i)) (bs.getD i 0) := by rw [take_succ_getD (by omega), crcF_snoc]
    rw [e1, xor32]
    generalize hs1 : crcF (bs.take i) ^^^ BitVec.ofInt 32 (bs.getD i 0) = s1
    have f1 : 0 ≤ bAnd .u32 (s1.toNat : Int) 15 ∧ bAnd .u32 (s1.toNat : Int) 15 < 16 := by rw [and15]; omega
    refine ⟨by omega, f1.1, by simpa using f1.2, tab_elem hT f1.1 f1.2 ?_⟩
    rw [half_step]
    have f2 : 0 ≤ bAnd .u32 ((cs4 s1).toNat : Int) 15 ∧ bAnd .u32 ((cs4 s1).toNat : Int) 15 < 16 := by rw [and15]; omega
    refine ⟨by omega, f2.1, by simpa using f2.2, tab_elem hT f2.1 f2.2 ?_⟩
    rw [half_step, wrap_i64 (by omega) (by omega)]
    refine ⟨n - (i + 1), by omega, i + 1, by omega, by omega, ?_, rfl, rfl⟩
    rw [e2, cb, hs1]
  · have : i = n := by omega
    subst this
    rw [bif_neg (by omega), List.take_of_length_le (by omega)]
    refine ⟨?_, rfl⟩
    rw [show IntKind.max .u32 = ((4294967295#32 : BitVec 32).toNat : Int) from rfl, xor32, BitVec.xor_comm]
    rfl

/-- Four bytes as a number, the low one first. -/
def word (l : List Int) (o : Nat) : Int := l.getD o 0 + l.getD (o + 1) 0 * 256 + l.getD (o + 2) 0 * 65536 + l.getD (o + 3) 0 * 16777216
theorem word_range {l : List Int} (h : Bytes l) (o : Nat) : 0 ≤ word l o ∧ word l o < 4294967296 := by
  have := byte_of h o; have := byte_of h (o + 1); have := byte_of h (o + 2); have := byte_of h (o + 3)
  unfold word
  omega
theorem word_drop (l : List Int) (k o : Nat) : word (l.drop k) o = word l (k + o) := by
  unfold word
  simp only [getD_drop, Nat.add_assoc]
theorem word_take (l : List Int) {k o : Nat} (h : o + 4 ≤ k) : word (l.take k) o = word l o := by
  unfold word
  rw [getD_take (by omega), getD_take (by omega), getD_take (by omega), getD_take (by omega)]
theorem shL32 {x : Int} (h0 : 0 ≤ x) {n : Nat} (hn : n ≤ 32) (h1 : x * 2 ^ n < 4294967296) : shL .u32 x (n : Int) = x * 2 ^ n := by
  unfold shL
  rw [Int.toNat_natCast, Nat.min_eq_left (show n ≤ IntKind.bits .u32 from hn)]
  exact wrap_u32 (Int.mul_nonneg h0 (Int.pow_nonneg (by omega))) h1
theorem or4 {a b c d : Int} (ha : 0 ≤ a ∧ a < 256) (hb : 0 ≤ b ∧ b < 256) (hc : 0 ≤ c ∧ c < 256) (hd : 0 ≤ d ∧ d < 256) :
    bOr .u32 (bOr .u32 (bOr .u32 (IntKind.wrap .u32 a) (shL .u32 (IntKind.wrap .u32 b) 8)) (shL .u32 (IntKind.wrap .u32 c) 16)) (shL .u32 (IntKind.wrap .u32 d) 24) = a + b * 256 + c * 65536 + d * 16777216 := by
  obtain ⟨a, rfl⟩ := Int.eq_ofNat_of_zero_le ha.1
  obtain ⟨b, rfl⟩ := Int.eq_ofNat_of_zero_le hb.1
  obtain ⟨c, rfl⟩ := Int.eq_ofNat_of_zero_le hc.1
  obtain ⟨d, rfl⟩ := Int.eq_ofNat_of_zero_le hd.1
  rw [wrap_u32 (by omega) (by omega), wrap_u32 (n := (b : Int)) (by omega) (by omega), wrap_u32 (n := (c : Int)) (by omega) (by omega), wrap_u32 (n := (d : Int)) (by omega) (by omega)]
  rw [show (8 : Int) = ((8 : Nat) : Int) from rfl, show (16 : Int) = ((16 : Nat) : Int) from rfl, show (24 : Int) = ((24 : Nat) : Int) from rfl, shL32 (by omega) (by omega) (by omega), shL32 (by omega) (by omega) (by omega), shL32 (by omega) (by omega) (by omega)]
  have e1 := bOr_u32 (a := b) (b := a) 8 (by omega) (by omega)
  have e2 := bOr_u32 (a := c) (b := b * 2 ^ 8 + a) 16 (by omega) (by omega)
  have e3 := bOr_u32 (a := d) (b := c * 2 ^ 16 + (b * 2 ^ 8 + a)) 24 (by omega) (by omega)
  rw [show (b : Int) * 2 ^ 8 = ((b * 2 ^ 8 : Nat) : Int) by simp, show (c : Int) * 2 ^ 16 = ((c * 2 ^ 16 : Nat) : Int) by simp, show (d : Int) * 2 ^ 24 = ((d * 2 ^ 24 : Nat) : Int) by simp]
  rw [bOr_comm _ (a : Int), e1, bOr_comm _ _ ((c * 2 ^ 16 : Nat) : Int), e2, bOr_comm _ _ ((d * 2 ^ 24 : Nat) : Int), e3]
  omega
theorem back_c (w : World) (bs : List Int) (a : Option Addr) (n c : Nat) (hr : RSl w 1 a n c (u8 bs)) (hB : Bytes bs) (hn4 : 4 ≤ n) :
    Calls Tryd.prog 60 #[.slice a n c] w fun e w' => e = .returned (.int .u32 (word bs 0)) ∧ Tch [] w w' := by
  refine c60 _ _ _ ?_
  unfold d60
  rintro w1 rfl
  have hr1 := hr.tch (Tch.refl [] w).drew (fun _ _ h => by cases h)
  refine ⟨by omega, by omega, u8_elem (i := 0) hr1 (by omega) ?_⟩
  refine ⟨by omega, by omega, u8_elem (i := 1) hr1 (by omega) ?_⟩
  refine ⟨by omega, by omega, by omega, u8_elem (i := 2) hr1 (by omega) ?_⟩
  refine ⟨by omega, by omega, by omega, u8_elem (i := 3) hr1 (by omega) ?_⟩
  refine ⟨by omega, ?_, (Tch.refl [] w).drew⟩
  rw [or4 (byte_of hB 0) (byte_of hB 1) (byte_of hB 2) (byte_of hB 3)]
  rfl
theorem refWord_c (w : World) (bs : List Int) (a : Option Addr) (n c : Nat) (hr : RSl w 1 a n c (u8 bs)) (hB : Bytes bs) (hn4 : 4 ≤ n) :
    Calls Tryd.prog 63 #[.slice a n c] w fun e w' => e = .returned (.int .u32 (word bs 0)) ∧ Tch [] w w' := by
  refine c63 _ _ _ ?_
  unfold d63
  rintro w1 rfl
  have hr1 := hr.tch (Tch.refl [] w).drew (fun _ _ h => by cases h)
  refine ⟨by omega, by omega, u8_elem (i := 0) hr1 (by omega) ?_⟩
  refine ⟨by omega, by omega, u8_elem (i := 1) hr1 (by omega) ?_⟩
  refine ⟨by omega, by omega, by omega, u8_elem (i := 2) hr1 (by omega) ?_⟩
  refine ⟨by omega, by omega, by omega, u8_elem (i := 3) hr1 (by omega) ?_⟩
  refine ⟨by omega, ?_, (Tch.refl [] w).drew⟩
  have h0 := byte_of hB 0; have h1 := byte_of hB 1; have h2 := byte_of hB 2; have h3 := byte_of hB 3
  have hw : word bs 0 = bs.getD 0 0 + bs.getD 1 0 * 256 + bs.getD 2 0 * 65536 + bs.getD 3 0 * 16777216 := rfl
  rw [hw]
  generalize bs.getD 0 0 = p at *
  generalize bs.getD 1 0 = q at *
  generalize bs.getD 2 0 = r at *
  generalize bs.getD 3 0 = s at *
  rw [wrap_u32 (n := p) (by omega) (by omega), wrap_u32 (n := q) (by omega) (by omega), wrap_u32 (n := r) (by omega) (by omega), wrap_u32 (n := s) (by omega) (by omega)]
  rw [show (8 : Int) = ((8 : Nat) : Int) from rfl, show (16 : Int) = ((16 : Nat) : Int) from rfl, show (24 : Int) = ((24 : Nat) : Int) from rfl, shL32 (by omega) (by omega) (by omega), shL32 (by omega) (by omega) (by omega), shL32 (by omega) (by omega) (by omega)]
  simp only [show (2 : Int) ^ 8 = 256 from rfl, show (2 : Int) ^ 16 = 65536 from rfl, show (2 : Int) ^ 24 = 16777216 from rfl]
  rw [wrap_u32 (n := p + q * 256) (by omega) (by omega), wrap_u32 (n := p + q * 256 + r * 65536) (by omega) (by omega), wrap_u32 (by omega) (by omega)]
theorem shr8 {c : Int} (h0 : 0 ≤ c) (h1 : c < 256) (k : Nat) (hk : k ≤ 8) : shR .u8 c (k : Int) = ((c.toNat / 2 ^ k : Nat) : Int) := by
  obtain ⟨c, rfl⟩ := Int.eq_ofNat_of_zero_le h0
  rw [shR_nat (k := .u8) k hk, Int.toNat_natCast]
  norm_cast
theorem and1n (n : Nat) (h : n < 4294967296) : bAnd .u32 (n : Int) 1 = ((n % 2 : Nat) : Int) := by
  have := and1 (BitVec.ofNat 32 n)
  rwa [BitVec.toNat_ofNat, Nat.mod_eq_of_lt (show n < 2 ^ 32 from h)] at this
theorem refSum_c (w : World) (bs : List Int) (a : Option Addr) (n c : Nat) (hr : RSl w 1 a n c (u8 bs)) (hB : Bytes bs) (hN : n ≤ 140737488355328) :
    Calls Tryd.prog 62 #[.slice a n c] w fun e w' => e = .returned (.int .u32 (crc bs)) ∧ w' = w := by
  have hn := u8_len hr
  refine c62 _ _ _ ?_
  unfold d62
  refine ⟨fun m s x w' => ∃ i : Nat, i ≤ n ∧ x = i ∧ s = ((crcF (bs.take i)).toNat : Int) ∧ m = n - i ∧ w' = w, ⟨n, 0, by omega, rfl, rfl, rfl, rfl⟩, ?_⟩
  rintro m w3 s x ⟨i, hi, rfl, rfl, rfl, rfl⟩
  by_cases hlt : i < n
  · rw [bif_pos (by omega)]
    have hb := byte_of hB i
    have e2 : crcF (bs.take (i + 1)) = cb (crcF (bs.take i)) (bs.getD i 0) := by rw [take_succ_getD (by omega), crcF_snoc]
    generalize crcF (bs.take i) = S at *
    have hcn : ((bs.getD i 0).toNat : Int) = bs.getD i 0 := by omega
    refine ⟨fun m s x w' => ∃ k : Nat, k ≤ 8 ∧ x = k ∧ s = ((rb S (bs.getD i 0).toNat k).toNat : Int) ∧ m = 8 - k ∧ w' = w3, ⟨8, 0, by omega, rfl, by rw [rb_zero], rfl, rfl⟩, ?_⟩
    rintro m w8 s x ⟨k, hk, rfl, rfl, rfl, rfl⟩
    by_cases hk8 : k < 8
    · rw [bif_pos (by omega)]
      refine ⟨by omega, by omega, ?_⟩
      rw [Int.toNat_natCast]
      refine u8_elem hr hlt ⟨by omega, by omega, ?_⟩
      have hc8 : (bs.getD i 0).toNat < 256 := by omega
      have hd : (bs.getD i 0).toNat / 2 ^ k < 4294967296 := Nat.lt_of_le_of_lt (Nat.div_le_self _ _) (by omega)
      have hst := bit_step (rb S (bs.getD i 0).toNat k) (b := bitAt (bs.getD i 0).toNat k) (Nat.mod_lt _ (by omega))
      rw [← rb_succ S hc8 hk8] at hst
      rw [shr8 hb.1 hb.2 k (by omega), wrap_u32 (n := (((bs.getD i 0).toNat / 2 ^ k : Nat) : Int)) (Int.natCast_nonneg _) (by generalize (bs.getD i 0).toNat / 2 ^ k = q at hd ⊢; omega), and1n _ hd, wrap_i64 (by omega) (by omega)]
      show bif !decide (((bitAt (bs.getD i 0).toNat k : Nat) : Int) = _) then _ else _
      by_cases hu : ((bitAt (bs.getD i 0).toNat k : Nat) : Int) = bAnd .u32 ((rb S (bs.getD i 0).toNat k).toNat : Int) 1
      · rw [bif_npos hu]
        rw [decide_eq_true hu, Bool.not_true, cond_false] at hst
        exact ⟨8 - (k + 1), by omega, k + 1, by omega, by omega, hst, rfl, rfl⟩
      · rw [bif_nneg hu]
        rw [decide_eq_false hu, Bool.not_false, cond_true] at hst
        exact ⟨8 - (k + 1), by omega, k + 1, by omega, by omega, hst, rfl, rfl⟩
    · obtain rfl : k = 8 := by omega
      rw [bif_neg (by omega), wrap_i64 (by omega) (by omega)]
      refine ⟨n - (i + 1), by omega, i + 1, by omega, by omega, ?_, rfl, rfl⟩
      rw [e2, rb_eight S (by omega), hcn]
  · have : i = n := by omega
    subst this
    rw [bif_neg (by omega), List.take_of_length_le (by omega)]
    refine ⟨?_, rfl⟩
    rw [show IntKind.max .u32 = ((4294967295#32 : BitVec 32).toNat : Int) from rfl, xor32, BitVec.xor_comm]
    rfl
end Go.Proofs.YtjchneebdlncfaaDoor.Lib
