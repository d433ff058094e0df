/-
  NUMBERS AS BYTES, AND BACK: 'uv', 'number', what a reader's steps do, as plain functions; there and back.
  Own work. No macro, syntax, notation, axiom.
-/
import Derived.Test.YtjchneebdlncfaaLibBase
namespace Go.Proofs.Ytjchneebdlncfaa.Lib
open Go Den

/-- A number without sign, as bytes. -/
def uv (n : Nat) : List Int := if n < 128 then [(n : Int)] else ((n % 128 + 128 : Nat) : Int) :: uv (n / 128)
termination_by n
decreasing_by omega
theorem uv_lo {n : Nat} (h : n < 128) : uv n = [(n : Int)] := by rw [uv, if_pos h]
theorem uv_hi {n : Nat} (h : 128 ≤ n) : uv n = ((n % 128 + 128 : Nat) : Int) :: uv (n / 128) := by rw [uv, if_neg (by omega)]
theorem uv_bytes (n : Nat) : Bytes (uv n) := by
  induction n using Nat.strongRecOn with
  | _ n ih =>
    by_cases h : n < 128
    · rw [uv_lo h]; exact Bytes.one (by omega) (by omega)
    · rw [uv_hi (by omega)]
      intro x hx
      rcases List.mem_cons.1 hx with rfl | hx
      · omega
      · exact ih (n / 128) (by omega) x hx
theorem uv_len {k : Nat} : ∀ {n : Nat}, n < 128 ^ (k + 1) → 1 ≤ (uv n).length ∧ (uv n).length ≤ k + 1 := by
  induction k with
  | zero => intro n h; rw [uv_lo (by simpa using h)]; simp
  | succ k ih =>
    intro n h
    by_cases h1 : n < 128
    · rw [uv_lo h1]; simp
    · rw [uv_hi (by omega)]
      have := ih (n := n / 128) (by rw [Nat.pow_succ] at h; omega)
      simp only [List.length_cons]
      omega
theorem uv_len10 {n : Nat} (h : n < 18446744073709551616) : 1 ≤ (uv n).length ∧ (uv n).length ≤ 10 := uv_len (k := 9) (by omega)

/-- The number at the front of some bytes, how many bytes it has, and what is wrong. -/
def numG (bs : List Int) : Nat → Nat → Nat → Nat × Nat × Int
  | 0, _, _ => (0, 0, 11)
  | f + 1, k, n =>
    if bs.length ≤ k then (0, 0, 10)
    else if (k = 9 ∧ 1 < bs.getD k 0) ∨ (0 < k ∧ bs.getD k 0 = 0) then (0, 0, 11)
    else if bs.getD k 0 < 128 then (n + (bs.getD k 0).toNat % 128 * 2 ^ (7 * k), k + 1, 0)
    else numG bs f (k + 1) (n + (bs.getD k 0).toNat % 128 * 2 ^ (7 * k))
def number (bs : List Int) : Nat × Nat × Int := numG bs 10 0 0
/-- What a reading has come to before its k-th byte. -/
def numA (bs : List Int) : Nat → Nat
  | 0 => 0
  | k + 1 => numA bs k + (bs.getD k 0).toNat % 128 * 2 ^ (7 * k)
theorem numA_lt (bs : List Int) : ∀ k, numA bs k < 2 ^ (7 * k)
  | 0 => by simp [numA]
  | k + 1 => by
    have := numA_lt bs k
    have h1 : (bs.getD k 0).toNat % 128 < 128 := Nat.mod_lt _ (by omega)
    show numA bs k + (bs.getD k 0).toNat % 128 * 2 ^ (7 * k) < 2 ^ (7 * k + 7)
    rw [Nat.pow_add]
    have h2 : (bs.getD k 0).toNat % 128 * 2 ^ (7 * k) ≤ 127 * 2 ^ (7 * k) := Nat.mul_le_mul_right _ (by omega)
    omega
/-- It may be left: the k-th byte is one of a number's. -/
def numOn (bs : List Int) (k : Nat) : Prop := k < bs.length ∧ ¬ ((k = 9 ∧ 1 < bs.getD k 0) ∨ (0 < k ∧ bs.getD k 0 = 0)) ∧ ¬ bs.getD k 0 < 128
theorem numG_on {bs : List Int} : ∀ {f k : Nat}, numOn bs k → numG bs (f + 1) k (numA bs k) = numG bs f (k + 1) (numA bs (k + 1))
  | f, k, ⟨h1, h2, h3⟩ => by
    rw [numG, if_neg (by omega), if_neg h2, if_neg h3]
    rfl
theorem number_at {bs : List Int} : ∀ {k : Nat}, k ≤ 10 → (∀ i, i < k → numOn bs i) → number bs = numG bs (10 - k) k (numA bs k)
  | 0, _, _ => rfl
  | k + 1, hk, h => by
    rw [number_at (k := k) (by omega) fun i hi => h i (by omega), show 10 - k = (10 - (k + 1)) + 1 by omega]
    exact numG_on (h k (by omega))
theorem number_short {bs : List Int} {k : Nat} (hk : k < 10) (h : ∀ i, i < k → numOn bs i) (hl : bs.length ≤ k) : number bs = (0, 0, 10) := by
  rw [number_at (by omega) h, show 10 - k = (9 - k) + 1 by omega, numG, if_pos hl]
theorem number_form {bs : List Int} {k : Nat} (hk : k < 10) (h : ∀ i, i < k → numOn bs i) (hl : k < bs.length) (hf : (k = 9 ∧ 1 < bs.getD k 0) ∨ (0 < k ∧ bs.getD k 0 = 0)) : number bs = (0, 0, 11) := by
  rw [number_at (by omega) h, show 10 - k = (9 - k) + 1 by omega, numG, if_neg (by omega), if_pos hf]
theorem number_ok {bs : List Int} {k : Nat} (hk : k < 10) (h : ∀ i, i < k → numOn bs i) (hl : k < bs.length) (hf : ¬ ((k = 9 ∧ 1 < bs.getD k 0) ∨ (0 < k ∧ bs.getD k 0 = 0))) (hc : bs.getD k 0 < 128) : number bs = (numA bs (k + 1), k + 1, 0) := by
  rw [number_at (by omega) h, show 10 - k = (9 - k) + 1 by omega, numG, if_neg (by omega), if_neg hf, if_pos hc]
  rfl
/-- One of the three. -/
theorem number_cases {bs : List Int} (hB : Bytes bs) : number bs = (0, 0, 10) ∨ number bs = (0, 0, 11) ∨
    ∃ k, k < 10 ∧ (∀ i, i < k → numOn bs i) ∧ k < bs.length ∧ ¬ ((k = 9 ∧ 1 < bs.getD k 0) ∨ (0 < k ∧ bs.getD k 0 = 0)) ∧ bs.getD k 0 < 128 ∧ number bs = (numA bs (k + 1), k + 1, 0) := by
  have key : ∀ f k, f + k = 10 → (∀ i, i < k → numOn bs i) → number bs = (0, 0, 10) ∨ number bs = (0, 0, 11) ∨
    ∃ k, k < 10 ∧ (∀ i, i < k → numOn bs i) ∧ k < bs.length ∧ ¬ ((k = 9 ∧ 1 < bs.getD k 0) ∨ (0 < k ∧ bs.getD k 0 = 0)) ∧ bs.getD k 0 < 128 ∧ number bs = (numA bs (k + 1), k + 1, 0) := by
    intro f
    induction f with
    | zero =>
      intro k hk h
      exfalso
      obtain ⟨h1, h2, h3⟩ := h 9 (by omega)
      exact h2 (.inl ⟨rfl, by omega⟩)
    | succ f ih =>
      intro k hk h
      by_cases h1 : bs.length ≤ k
      · exact .inl (number_short (by omega) h h1)
      by_cases h2 : (k = 9 ∧ 1 < bs.getD k 0) ∨ (0 < k ∧ bs.getD k 0 = 0)
      · exact .inr (.inl (number_form (by omega) h (by omega) h2))
      by_cases h3 : bs.getD k 0 < 128
      · exact .inr (.inr ⟨k, by omega, h, by omega, h2, h3, number_ok (by omega) h (by omega) h2 h3⟩)
      · refine ih (k + 1) (by omega) fun i hi => ?_
        by_cases hik : i = k
        · subst hik; exact ⟨by omega, h2, h3⟩
        · exact h i (by omega)
  exact key 10 0 rfl fun i hi => by omega
theorem number_range {bs : List Int} (hB : Bytes bs) : (number bs).1 < 18446744073709551616 ∧ (number bs).2.1 ≤ bs.length ∧ (number bs).2.1 ≤ 10 := by
  rcases number_cases hB with h | h | ⟨k, h1, h2, h3, h4, h5, h⟩
  · rw [h]; simp
  · rw [h]; simp
  · rw [h]
    refine ⟨?_, by show k + 1 ≤ _; omega, by show k + 1 ≤ 10; omega⟩
    show numA bs (k + 1) < _
    by_cases h9 : k = 9
    · subst h9
      have := numA_lt bs 9
      have hb := byte_of hB 9
      have h1 : bs.getD 9 0 ≤ 1 := by
        have : ¬ 1 < bs.getD 9 0 := fun hc => h4 (.inl ⟨rfl, hc⟩)
        omega
      show numA bs 9 + (bs.getD 9 0).toNat % 128 * 2 ^ (7 * 9) < _
      have h2 : (bs.getD 9 0).toNat % 128 ≤ 1 := by omega
      have h3 : (bs.getD 9 0).toNat % 128 * 2 ^ (7 * 9) ≤ 1 * 2 ^ (7 * 9) := Nat.mul_le_mul_right _ h2
      omega
    · have := numA_lt bs (k + 1)
      have h2 : 2 ^ (7 * (k + 1)) ≤ 2 ^ 63 := Nat.pow_le_pow_right (by omega) (by omega)
      omega
/-! ### There and back -/
theorem numA_cons (c : Int) (bs : List Int) : ∀ k, numA (c :: bs) (k + 1) = c.toNat % 128 + 128 * numA bs k
  | 0 => by simp [numA]
  | k + 1 => by
    rw [numA, numA_cons c bs k, numA, List.getD_cons_succ, Nat.mul_add, Nat.mul_add, Nat.pow_add]
    have : 128 * ((bs.getD k 0).toNat % 128 * 2 ^ (7 * k)) = (bs.getD k 0).toNat % 128 * (2 ^ (7 * k) * 2 ^ (7 * 1)) := by
      rw [show (2 : Nat) ^ (7 * 1) = 128 from rfl, Nat.mul_comm (2 ^ (7 * k)) 128, ← Nat.mul_assoc, ← Nat.mul_assoc, Nat.mul_comm 128]
    omega
/-- How a number's bytes look. -/
theorem uv_look : ∀ (k n : Nat), (uv n).length = k + 1 → (∀ i, i < k → 128 ≤ (uv n).getD i 0) ∧ (uv n).getD k 0 < 128 ∧ (0 < k → 0 < (uv n).getD k 0) ∧ numA (uv n) (k + 1) = n ∧ 128 ^ k ≤ n + (if k = 0 then 1 else 0)
  | 0, n, h => by
    by_cases h1 : n < 128
    · rw [uv_lo h1]
      refine ⟨fun i hi => by omega, by simp; omega, fun h => by omega, ?_, by simp⟩
      simp [numA]
      omega
    · rw [uv_hi (by omega)] at h
      have : (uv (n / 128)).length = 0 := by simpa using h
      have h2 := (uv_len (k := n) (n := n / 128) (by
        have : n / 128 ≤ n := Nat.div_le_self _ _
        have : n < 128 ^ (n + 1) := Nat.lt_of_lt_of_le (Nat.lt_pow_self (by omega)) (Nat.pow_le_pow_right (by omega) (by omega))
        omega)).1
      omega
  | k + 1, n, h => by
    have h1 : ¬ n < 128 := fun h1 => by rw [uv_lo h1] at h; simp at h
    rw [uv_hi (by omega)] at h ⊢
    have hl : (uv (n / 128)).length = k + 1 := by simpa using h
    obtain ⟨g1, g2, g3, g4, g5⟩ := uv_look k (n / 128) hl
    refine ⟨fun i hi => ?_, by rw [List.getD_cons_succ]; exact g2, fun _ => ?_, ?_, ?_⟩
    · cases i with
      | zero => simp; omega
      | succ i => rw [List.getD_cons_succ]; exact g1 i (by omega)
    · rw [List.getD_cons_succ]
      by_cases hk : 0 < k
      · exact g3 hk
      · obtain rfl : k = 0 := by omega
        have hn : n / 128 < 128 := by
          by_cases hn : n / 128 < 128
          · exact hn
          · rw [uv_hi (by omega)] at hl
            have := g2
            rw [uv_hi (by omega)] at this
            simp at this
            omega
        rw [uv_lo hn]
        simp
        omega
    · rw [numA_cons, g4]
      simp
      omega
    · rw [Nat.pow_succ, if_neg (by omega)]
      by_cases hk : k = 0
      · subst hk; simp; omega
      · rw [if_neg hk] at g5; omega
theorem numA_append {a b : List Int} : ∀ {k : Nat}, k ≤ a.length → numA (a ++ b) k = numA a k
  | 0, _ => rfl
  | k + 1, h => by rw [numA, numA, numA_append (by omega), getD_append (by omega)]
theorem number_uv {n : Nat} (hn : n < 18446744073709551616) (rest : List Int) : number (uv n ++ rest) = (n, (uv n).length, 0) := by
  obtain ⟨l1, l2⟩ := uv_len10 hn
  obtain ⟨k, hk⟩ : ∃ k, (uv n).length = k + 1 := ⟨(uv n).length - 1, by omega⟩
  obtain ⟨g1, g2, g3, g4, g5⟩ := uv_look k n hk
  have hg : ∀ i, i ≤ k → (uv n ++ rest).getD i 0 = (uv n).getD i 0 := fun i hi => getD_append (by omega)
  rw [number_ok (k := k) (by omega) (fun i hi => ⟨by rw [List.length_append]; omega, by rw [hg i (by omega)]; have := g1 i hi; omega, by rw [hg i (by omega)]; have := g1 i hi; omega⟩) (by rw [List.length_append]; omega) ?_ (by rw [hg k (Nat.le_refl _)]; exact g2),
    numA_append (by omega), g4, hk]
  rw [hg k (Nat.le_refl _)]
  rintro (⟨h9, hc⟩ | ⟨h0, hc⟩)
  · subst h9
    have h9 := numA_lt (uv n) 9
    have : numA (uv n) (9 + 1) = numA (uv n) 9 + ((uv n).getD 9 0).toNat % 128 * 2 ^ (7 * 9) := rfl
    have h2 : 2 ≤ ((uv n).getD 9 0).toNat % 128 := by omega
    have h3 : 2 * 2 ^ (7 * 9) ≤ ((uv n).getD 9 0).toNat % 128 * 2 ^ (7 * 9) := Nat.mul_le_mul_right _ h2
    omega
  · have := g3 h0; omega
/-- What is read as a number is that number's bytes. -/
theorem uv_numA : ∀ {k : Nat} {bs : List Int}, Bytes bs → k < bs.length → (∀ i, i < k → 128 ≤ bs.getD i 0) → bs.getD k 0 < 128 → (0 < k → bs.getD k 0 ≠ 0) → uv (numA bs (k + 1)) = bs.take (k + 1)
  | 0, bs, hB, hl, h1, h2, h3 => by
    have hb := byte_of hB 0
    have : numA bs (0 + 1) = (bs.getD 0 0).toNat := by simp only [numA, Nat.mul_zero, Nat.pow_zero]; omega
    rw [this, uv_lo (by omega), take_succ_getD hl, Int.toNat_of_nonneg hb.1]
    rfl
  | k + 1, [], hB, hl, h1, h2, h3 => by simp at hl
  | k + 1, c :: bs, hB, hl, h1, h2, h3 => by
    have hb := byte_of hB 0
    have h0 := h1 0 (by omega)
    simp only [List.getD_cons_zero] at hb h0
    have hB' : Bytes bs := fun x hx => hB x (by simp [hx])
    have ih := uv_numA (k := k) hB' (by simpa using hl) (fun i hi => by have := h1 (i + 1) (by omega); simpa using this) (by simpa using h2) (fun hk => by have := h3 (by omega); simpa using this)
    rw [numA_cons]
    have hpos : 0 < numA bs (k + 1) := by
      by_cases hz : 0 < numA bs (k + 1)
      · exact hz
      · exfalso
        have hz : numA bs (k + 1) = 0 := by omega
        rw [hz, uv_lo (by omega)] at ih
        have hlen : (bs.take (k + 1)).length = 1 := by rw [← ih]; rfl
        rw [List.length_take] at hlen
        simp at hl
        obtain rfl : k = 0 := by omega
        have : (bs.take (0 + 1)).getD 0 0 = 0 := by rw [← ih]; rfl
        rw [getD_take (by omega)] at this
        have h4 := h3 (by omega)
        simp only [Nat.zero_add, List.getD_cons_succ] at h4
        exact h4 this
    rw [uv_hi (by omega), List.take_succ_cons, ← ih]
    congr 2
    · omega
    · omega
theorem number_back {bs : List Int} (hB : Bytes bs) (h : (number bs).2.2 = 0) : bs.take (number bs).2.1 = uv (number bs).1 ∧ 0 < (number bs).2.1 := by
  rcases number_cases hB with g | g | ⟨k, h1, h2, h3, h4, h5, g⟩
  · rw [g] at h; simp at h
  · rw [g] at h; simp at h
  · rw [g]
    refine ⟨(uv_numA hB h3 (fun i hi => ?_) h5 (fun hk hz => h4 (.inr ⟨hk, hz⟩))).symm, by simp⟩
    have := (h2 i hi).2.2
    omega

/-! ### With a sign -/
def fold (n : Int) : Nat := if 0 ≤ n then 2 * n.toNat else 2 * (-1 - n).toNat + 1
def unfold' (u : Nat) : Int := if u % 2 = 0 then ((u / 2 : Nat) : Int) else -1 - ((u / 2 : Nat) : Int)
theorem unfold_fold (n : Int) : unfold' (fold n) = n := by
  unfold fold unfold'
  split <;> split <;> omega
theorem fold_unfold (u : Nat) : fold (unfold' u) = u := by
  unfold fold unfold'
  split <;> split <;> omega
theorem fold_range {n : Int} (h : I64 n) : fold n < 18446744073709551616 := by
  unfold I64 at h
  unfold fold
  split <;> omega
theorem unfold_range {u : Nat} (h : u < 18446744073709551616) : I64 (unfold' u) := by
  unfold I64 unfold'
  split <;> omega
def iv (n : Int) : List Int := uv (fold n)

/-! ### A reader's steps: where it stands, its error -/
def rUpto (bs : List Int) (most : Nat) (p : Nat) (e : Int) : Nat × Nat × Int :=
  if e ≠ 0 then (0, p, e)
  else if (number (bs.drop p)).2.2 ≠ 0 then (0, p, (number (bs.drop p)).2.2)
  else if most < (number (bs.drop p)).1 then (0, p, 12)
  else ((number (bs.drop p)).1, p + (number (bs.drop p)).2.1, 0)
def rRaw (bs : List Int) (n : Int) (p : Nat) (e : Int) : List Int × Nat × Int :=
  if e ≠ 0 then ([], p, e)
  else if n < 0 then ([], p, 11)
  else if (bs.length : Int) - p < n then ([], p, 10)
  else ((bs.drop p).take n.toNat, p + n.toNat, 0)
def rByte (bs : List Int) (p : Nat) (e : Int) : Int × Nat × Int := ((rRaw bs 1 p e).1.getD 0 0, (rRaw bs 1 p e).2)
def rInt (bs : List Int) (p : Nat) (e : Int) : Int × Nat × Int := (unfold' (rUpto bs 18446744073709551615 p e).1, (rUpto bs 18446744073709551615 p e).2)
def rBytes (bs : List Int) (most : Int) (p : Nat) (e : Int) : List Int × Nat × Int :=
  if e ≠ 0 then ([], p, e)
  else if (number (bs.drop p)).2.2 ≠ 0 then ([], p, (number (bs.drop p)).2.2)
  else if most < (number (bs.drop p)).1 then ([], p, 12)
  else if (bs.length : Int) - (p + (number (bs.drop p)).2.1) < (number (bs.drop p)).1 then ([], p, 10)
  else ((bs.drop (p + (number (bs.drop p)).2.1)).take (number (bs.drop p)).1, p + (number (bs.drop p)).2.1 + (number (bs.drop p)).1, 0)
def rFail (x e : Int) : Int := if e = 0 then x else e
def rEnd (bs : List Int) (p : Nat) (e : Int) : Int := if e = 0 ∧ p < bs.length then 11 else e
theorem rUpto_le {bs : List Int} (hB : Bytes bs) {most p : Nat} {e : Int} (hp : p ≤ bs.length) : (rUpto bs most p e).2.1 ≤ bs.length ∧ p ≤ (rUpto bs most p e).2.1 ∧ (rUpto bs most p e).1 ≤ most := by
  unfold rUpto
  have := (number_range (hB.drop p)).2.1
  rw [List.length_drop] at this
  split
  · simp; omega
  · split
    · simp; omega
    · split
      · simp; omega
      · simp only; omega
theorem rRaw_le {bs : List Int} {n : Int} {p : Nat} {e : Int} (hp : p ≤ bs.length) : (rRaw bs n p e).2.1 ≤ bs.length ∧ p ≤ (rRaw bs n p e).2.1 := by
  unfold rRaw
  split
  · exact ⟨hp, Nat.le_refl _⟩
  · split
    · exact ⟨hp, Nat.le_refl _⟩
    · split
      · exact ⟨hp, Nat.le_refl _⟩
      · simp only; omega
theorem rRaw_cases (bs : List Int) (k p : Nat) (e : Int) : (e = 0 ∧ p + k ≤ bs.length ∧ rRaw bs k p e = ((bs.drop p).take k, p + k, 0)) ∨ (¬ (e = 0 ∧ p + k ≤ bs.length) ∧ (rRaw bs k p e).1 = [] ∧ (rRaw bs k p e).2.1 = p ∧ (rRaw bs k p e).2.2 ≠ 0 ∧ (e ≠ 0 → (rRaw bs k p e).2.2 = e)) := by
  unfold rRaw
  by_cases he : e = 0
  · subst he
    rw [if_neg (show ¬ (0 : Int) ≠ 0 by omega), if_neg (show ¬ (k : Int) < 0 by omega)]
    by_cases h : p + k ≤ bs.length
    · rw [if_neg (show ¬ (bs.length : Int) - p < k by omega)]
      exact .inl ⟨rfl, h, rfl⟩
    · rw [if_pos (show (bs.length : Int) - p < k by omega)]
      exact .inr ⟨fun hh => h hh.2, rfl, rfl, by simp, fun hh => absurd rfl hh⟩
  · rw [if_pos he]
    exact .inr ⟨fun hh => he hh.1, rfl, rfl, he, fun _ => rfl⟩
theorem rByte_cases (bs : List Int) (p : Nat) (e : Int) : (e = 0 ∧ p < bs.length ∧ rByte bs p e = (bs.getD p 0, p + 1, 0)) ∨ (¬ (e = 0 ∧ p < bs.length) ∧ (rByte bs p e).1 = 0 ∧ (rByte bs p e).2.1 = p ∧ (rByte bs p e).2.2 ≠ 0 ∧ (e ≠ 0 → (rByte bs p e).2.2 = e)) := by
  unfold rByte
  rcases rRaw_cases bs 1 p e with ⟨h1, h2, h3⟩ | ⟨h1, h2, h3, h4, h5⟩
  · refine .inl ⟨h1, by omega, ?_⟩
    rw [show (1 : Int) = ((1 : Nat) : Int) from rfl, h3]
    simp [List.getD_eq_getElem?_getD]
  · rw [show (1 : Int) = ((1 : Nat) : Int) from rfl]
    exact .inr ⟨h1, by rw [h2]; rfl, h3, h4, h5⟩
end Go.Proofs.Ytjchneebdlncfaa.Lib
