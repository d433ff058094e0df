/-
  PROOFS AS BYTES, AND BACK, as plain functions; there and back.
  Own work. No macro, syntax, notation, axiom.
-/
import Derived.Test.YtjkbjppopdfggaaLibCodS
import Derived.Test.YtjkbjppopdfggaaLibKey
import Derived.Test.YtjkbjppopdfggaaDenWords11
namespace Go.Proofs.Ytjkbjppopdfggaa.Codes
open Go Den Lib
open Classical

structure Fk where
  bit : Int
  oth : List Int
def Fk.ok (f : Fk) : Prop := I64 f.bit ∧ f.oth.length = 32 ∧ Bytes f.oth
abbrev fkC (f : Fk) : List Value := .int .i64 f.bit :: u8 f.oth
structure Pf where
  fs : List Fk
  leaf : Bool
  t : Int
  r : Int
  v : Int
structure Pf.ok (p : Pf) : Prop where
  fs : ∀ f ∈ p.fs, f.ok
  t : I64 p.t
  r : I64 p.r
  v : I64 p.v
abbrev pfC (a : Option Addr) (n c : Nat) (p : Pf) : List Value := [.slice a n c, .bool p.leaf, .int .i64 p.t, .int .i64 p.r, .int .i64 p.v]
def Rank (n : Int) : Prop := 0 ≤ n ∧ n < 80
instance (n : Int) : Decidable (Rank n) := by unfold Rank; infer_instance
def Head (p : Pf) : Prop := p.fs.length ≤ 80 ∧ (p.leaf = false → p.t = 0 ∧ p.r = 0 ∧ p.v = 0) ∧ (p.leaf = true → KeyOk p.t)
def Good (p : Pf) : Prop := Head p ∧ ∀ f ∈ p.fs, Rank f.bit
def encF (fs : List Fk) : List Int := (fs.map fun f => f.bit :: f.oth).flatten
def encTail (p : Pf) : List Int := if p.leaf then [1] ++ keyB p.t p.r ++ iv p.v else [0]
/-- A proof's bytes, and the error. -/
noncomputable def encS (p : Pf) : List Int × Int := if Good p then (uv p.fs.length ++ encF p.fs ++ encTail p, 0) else ([], 250)
theorem encF_append (a b : List Fk) : encF (a ++ b) = encF a ++ encF b := by simp [encF]
theorem encF_one (f : Fk) : encF [f] = f.bit :: f.oth := by simp [encF]
theorem encF_cons (f : Fk) (l : List Fk) : encF (f :: l) = (f.bit :: f.oth) ++ encF l := by simp [encF]
theorem encF_len : ∀ {l : List Fk}, (∀ f ∈ l, f.ok) → (encF l).length = l.length * 33
  | [], _ => rfl
  | f :: l, h => by
    rw [encF_cons, List.length_append, encF_len fun g hg => h g (by simp [hg]), List.length_cons, (h f (by simp)).2.1, List.length_cons]
    omega
theorem encF_bytes : ∀ {l : List Fk}, (∀ f ∈ l, f.ok) → (∀ f ∈ l, Rank f.bit) → Bytes (encF l)
  | [], _, _ => Bytes.nil
  | f :: l, h, hr => by
    rw [encF_cons]
    refine Bytes.append (fun x hx => ?_) (encF_bytes (fun g hg => h g (by simp [hg])) fun g hg => hr g (by simp [hg]))
    rcases List.mem_cons.1 hx with rfl | hx
    · have := hr f (by simp); unfold Rank at this; omega
    · exact (h f (by simp)).2.2 x hx
theorem fkC_len {l : List Fk} (h : ∀ f ∈ l, f.ok) : ∀ f ∈ l, (fkC f).length = 33 := fun f hf => by
  have := (h f hf).2.1
  simp [this]
/-- The forks at a place. -/
def decF (bs : List Int) : Nat → Nat → Option (List Fk × Nat)
  | 0, p => some ([], p)
  | k + 1, p =>
    if p + 33 ≤ bs.length ∧ bs.getD p 0 < 80 then (decF bs k (p + 33)).map fun x => (⟨bs.getD p 0, (bs.drop (p + 1)).take 32⟩ :: x.1, x.2) else none
def decT (bs : List Int) (fs : List Fk) (q : Nat) : Option Pf :=
  if q < bs.length ∧ bs.getD q 0 = 0 ∧ q + 1 = bs.length then some ⟨fs, false, 0, 0, 0⟩
  else if q + 11 ≤ bs.length ∧ bs.getD q 0 = 1 ∧ (number (bs.drop (q + 11))).2.2 = 0 ∧ q + 11 + (number (bs.drop (q + 11))).2.1 = bs.length then
    some ⟨fs, true, (fromB ((bs.drop (q + 1)).take 10)).1, (fromB ((bs.drop (q + 1)).take 10)).2.1, unfold' (number (bs.drop (q + 11))).1⟩
  else none
/-- The proof of some bytes. -/
def decS (bs : List Int) : Option Pf :=
  if (rUpto bs 80 0 0).2.2 ≠ 0 then none else (decF bs (rUpto bs 80 0 0).1 (rUpto bs 80 0 0).2.1).bind fun x => decT bs x.1 x.2

theorem decF_ok {bs : List Int} (hB : Bytes bs) : ∀ {k p : Nat} {fs : List Fk} {q : Nat}, decF bs k p = some (fs, q) → fs.length = k ∧ q = p + 33 * k ∧ (∀ f ∈ fs, f.ok ∧ Rank f.bit) ∧ (k = 0 ∨ q ≤ bs.length) ∧ bs.drop p = encF fs ++ bs.drop q
  | 0, p, fs, q, h => by
    simp only [decF, Option.some.injEq, Prod.mk.injEq] at h
    obtain ⟨rfl, rfl⟩ := h
    exact ⟨rfl, rfl, by simp, .inl rfl, by simp [encF]⟩
  | k + 1, p, fs, q, h => by
    unfold decF at h
    split at h
    · rename_i hc
      rw [Option.map_eq_some_iff] at h
      obtain ⟨⟨gs, q'⟩, h1, h2⟩ := h
      simp only [Prod.mk.injEq] at h2
      obtain ⟨rfl, rfl⟩ := h2
      obtain ⟨g1, g2, g3, g4, g5⟩ := decF_ok hB h1
      have hb := byte_of hB p
      have hl : ((bs.drop (p + 1)).take 32).length = 32 := by rw [List.length_take, List.length_drop]; omega
      refine ⟨by simp [g1], by omega, fun f hf => ?_, .inr (by rcases g4 with g | g <;> omega), ?_⟩
      · rcases List.mem_cons.1 hf with rfl | hf
        · exact ⟨⟨by unfold I64; simp only; omega, hl, (hB.drop _).take _⟩, by unfold Rank; simp only; omega⟩
        · exact g3 f hf
      · rw [encF_cons, List.append_assoc, ← g5, drop_cons_getD (by omega), List.cons_append]
        congr 1
        conv => lhs; rw [← List.take_append_drop 32 (bs.drop (p + 1))]
        rw [List.drop_drop, show p + 1 + 32 = p + 33 by omega]
    · cases h
theorem decF_enc : ∀ {fs : List Fk} (pre rest : List Int), (∀ f ∈ fs, f.ok) → (∀ f ∈ fs, Rank f.bit) → decF (pre ++ encF fs ++ rest) fs.length pre.length = some (fs, pre.length + 33 * fs.length)
  | [], pre, rest, _, _ => by simp [decF]
  | f :: l, pre, rest, h, hr => by
    have hf := h f (by simp)
    have hfr := hr f (by simp)
    have e : pre ++ encF (f :: l) ++ rest = (pre ++ (f.bit :: f.oth)) ++ encF l ++ rest := by rw [encF_cons]; simp [List.append_assoc]
    have hlen : (pre ++ (f.bit :: f.oth)).length = pre.length + 33 := by simp [hf.2.1]
    have ih := decF_enc (fs := l) (pre ++ (f.bit :: f.oth)) rest (fun g hg => h g (by simp [hg])) fun g hg => hr g (by simp [hg])
    rw [← e, hlen] at ih
    have hg : (pre ++ encF (f :: l) ++ rest).getD pre.length 0 = f.bit := by
      rw [encF_cons, List.append_assoc]
      simp [List.getD_eq_getElem?_getD]
    have hd : ((pre ++ encF (f :: l) ++ rest).drop (pre.length + 1)).take 32 = f.oth := by
      rw [encF_cons, List.append_assoc, ← List.drop_drop, List.drop_left]
      simp only [List.cons_append, List.drop_succ_cons, List.drop_zero, List.append_assoc]
      rw [← hf.2.1, List.take_left]
    have hl2 : pre.length + 33 ≤ (pre ++ encF (f :: l) ++ rest).length := by
      rw [e]; simp [hf.2.1]
    rw [List.length_cons, decF, if_pos ⟨hl2, by rw [hg]; exact hfr.2⟩, ih, hg, hd]
    simp only [Option.map_some, Option.some.injEq, Prod.mk.injEq]
    exact ⟨trivial, by omega⟩
theorem rUpto_uv {n most : Nat} (hn : n ≤ most) (hm : n < 18446744073709551616) (rest : List Int) : rUpto (uv n ++ rest) most 0 0 = (n, (uv n).length, 0) := by
  unfold rUpto
  rw [List.drop_zero, number_uv hm]
  simp
  omega
theorem encTail_len (p : Pf) (hv : I64 p.v) : 1 ≤ (encTail p).length ∧ (encTail p).length ≤ 21 := by
  unfold encTail
  split
  · have := uv_len10 (fold_range hv)
    simp [keyB_length, iv]; omega
  · simp
theorem dec_enc {p : Pf} (hp : p.ok) (hg : Good p) : decS (encS p).1 = some p := by
  obtain ⟨⟨h1, h2, h3⟩, h4⟩ := hg
  unfold encS
  rw [if_pos ⟨⟨h1, h2, h3⟩, h4⟩]
  unfold decS
  simp only
  rw [List.append_assoc, rUpto_uv (by omega) (by omega), ← List.append_assoc]
  simp only [ne_eq, not_true, if_false]
  rw [decF_enc _ _ hp.fs h4]
  simp only [Option.bind_some]
  have hfl := encF_len hp.fs
  have hq : (uv p.fs.length).length + 33 * p.fs.length = (uv p.fs.length ++ encF p.fs).length := by rw [List.length_append, hfl]; omega
  rw [hq]
  generalize uv p.fs.length ++ encF p.fs = pre
  have hd : ∀ k, (pre ++ encTail p).drop (pre.length + k) = (encTail p).drop k := fun k => by rw [← List.drop_drop, List.drop_left]
  have hgd : (pre ++ encTail p).getD pre.length 0 = (encTail p).getD 0 0 := by
    have := getD_append_r (a := pre) (b := encTail p) (i := 0)
    simpa using this
  unfold decT
  rw [hgd, hd, hd, List.length_append]
  cases hl : p.leaf
  · have e : encTail p = [0] := by unfold encTail; rw [hl]; rfl
    rw [e, if_pos ⟨by simp, rfl, rfl⟩]
    obtain ⟨g1, g2, g3⟩ := h2 hl
    cases p
    simp_all
  · have e : encTail p = [1] ++ keyB p.t p.r ++ iv p.v := by unfold encTail; rw [hl]; rfl
    have hk := keyB_length p.t p.r
    have ed : (encTail p).drop 11 = iv p.v := by
      rw [e, show 11 = ([1] ++ keyB p.t p.r : List Int).length by simp [hk], List.drop_left]
    have e1 : ((encTail p).drop 1).take 10 = keyB p.t p.r := by
      rw [e, List.append_assoc]
      show ((keyB p.t p.r ++ iv p.v).take 10) = _
      rw [← hk, List.take_left]
    have e0 : (encTail p).getD 0 0 = 1 := by rw [e]; rfl
    have hn : number (iv p.v) = (fold p.v, (iv p.v).length, 0) := by
      have := number_uv (fold_range hp.v) []
      rwa [List.append_nil] at this
    have hlen : (encTail p).length = 11 + (iv p.v).length := by rw [e]; simp [hk]; omega
    rw [if_neg (fun h => by rw [e0] at h; omega), ed, e1, hn, e0, hlen, if_pos ⟨by omega, rfl, rfl, by simp only; omega⟩, fromB_keyB (h3 hl) hp.r, unfold_fold]
    cases p
    simp_all
theorem enc_dec {bs : List Int} (hB : Bytes bs) {p : Pf} (h : decS bs = some p) : p.ok ∧ Good p ∧ encS p = (bs, 0) := by
  unfold decS at h
  split at h
  · cases h
  rename_i h0
  rw [Option.bind_eq_some_iff] at h
  obtain ⟨⟨fs, q⟩, hF, hT⟩ := h
  have hrng := number_range hB
  have hu : (rUpto bs 80 0 0).1 ≤ 80 ∧ (number bs).2.2 = 0 ∧ (rUpto bs 80 0 0).1 = (number bs).1 ∧ (rUpto bs 80 0 0).2.1 = (number bs).2.1 := by
    unfold rUpto at h0 ⊢
    rw [List.drop_zero] at h0 ⊢
    rw [if_neg (by simp)] at h0 ⊢
    split at h0
    · rename_i hh; exact absurd hh h0
    · rename_i hh
      split at h0
      · simp at h0
      · rename_i hm
        rw [if_neg hh, if_neg hm]
        exact ⟨by simp only; omega, by simpa using hh, rfl, by simp⟩
  obtain ⟨u1, u2, u3, u4⟩ := hu
  rw [u3, u4] at hF
  rw [u3] at u1
  obtain ⟨nb1, nb2⟩ := number_back hB u2
  obtain ⟨f1, f2, f3, f4, f5⟩ := decF_ok hB hF
  have hq : q ≤ bs.length := by
    rcases f4 with g | g
    · rw [g] at f2; omega
    · exact g
  have hbs : bs = uv fs.length ++ encF fs ++ bs.drop q := by
    rw [f1, ← nb1, List.append_assoc, ← f5, List.take_append_drop]
  simp only at hT
  unfold decT at hT
  split at hT
  · rename_i hc
    cases hT
    obtain ⟨c1, c2, c3⟩ := hc
    have hp : Pf.ok ⟨fs, false, 0, 0, 0⟩ := ⟨fun f hf => (f3 f hf).1, by unfold I64; simp, by unfold I64; simp, by unfold I64; simp⟩
    have hg : Good ⟨fs, false, 0, 0, 0⟩ := ⟨⟨by simp only; omega, fun _ => ⟨rfl, rfl, rfl⟩, fun h => by cases h⟩, fun f hf => (f3 f hf).2⟩
    refine ⟨hp, hg, ?_⟩
    unfold encS
    rw [if_pos hg]
    have e : bs.drop q = [0] := by rw [drop_cons_getD c1, c2, List.drop_of_length_le (by omega)]
    rw [e] at hbs
    rw [← show encTail ⟨fs, false, 0, 0, 0⟩ = [0] from rfl] at hbs
    rw [hbs.symm]
  · split at hT
    · rename_i hc
      cases hT
      obtain ⟨c1, c2, c3, c4⟩ := hc
      have hB10 : Bytes ((bs.drop (q + 1)).take 10) := (hB.drop _).take _
      have hl10 : ((bs.drop (q + 1)).take 10).length = 10 := by rw [List.length_take, List.length_drop]; omega
      have hkr := fromB_range hB10
      have hnr := number_range (hB.drop (q + 11))
      have hur := unfold_range hnr.1
      have hp : Pf.ok ⟨fs, true, (fromB ((bs.drop (q + 1)).take 10)).1, (fromB ((bs.drop (q + 1)).take 10)).2.1, unfold' (number (bs.drop (q + 11))).1⟩ :=
        ⟨fun f hf => (f3 f hf).1, by have := hkr.1; unfold KeyOk at this; unfold I64; simp only; omega, hkr.2, hur⟩
      have hg : Good ⟨fs, true, (fromB ((bs.drop (q + 1)).take 10)).1, (fromB ((bs.drop (q + 1)).take 10)).2.1, unfold' (number (bs.drop (q + 11))).1⟩ :=
        ⟨⟨by simp only; omega, (fun h => by cases h), fun _ => hkr.1⟩, fun f hf => (f3 f hf).2⟩
      refine ⟨hp, hg, ?_⟩
      unfold encS
      rw [if_pos hg]
      obtain ⟨m1, m2⟩ := number_back (hB.drop (q + 11)) c3
      have e : bs.drop q = encTail ⟨fs, true, (fromB ((bs.drop (q + 1)).take 10)).1, (fromB ((bs.drop (q + 1)).take 10)).2.1, unfold' (number (bs.drop (q + 11))).1⟩ := by
        show _ = [1] ++ keyB _ _ ++ uv (fold _)
        rw [fold_unfold, keyB_fromB hl10 hB10, ← m1, drop_cons_getD (by omega), c2, List.take_of_length_le (l := bs.drop (q + 11)) (by rw [List.length_drop]; omega)]
        simp only [List.cons_append, List.nil_append]
        congr 1
        conv => lhs; rw [← List.take_append_drop 10 (bs.drop (q + 1))]
        rw [List.drop_drop]
      rw [e] at hbs
      rw [hbs.symm]
    · cases hT
end Go.Proofs.Ytjkbjppopdfggaa.Codes
