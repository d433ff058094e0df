/-
  RECORDS, READ: what Unseal answers, as a function on bytes; its contract and the reference's.
  Own work. No macro, syntax, notation, axiom.
-/
import Derived.Test.YtjchneebdlncfaaDoorLibSeal
import Derived.Test.YtjchneebdlncfaaDoorLibClone
namespace Go.Proofs.YtjchneebdlncfaaDoor.Lib
open Go Den Fn
open Go.RowKit (Below)
set_option maxRecDepth 8000
set_option maxHeartbeats 1000000

/-- The record at a place: its kind, its load, the place behind it, the error. -/
def unslR (r : List Int) (p : Nat) : Int × List Int × Nat × Int :=
  if r.length < 9 then (0, [], 0, 10)
  else if crc (r.take 5) ≠ word r 5 then (0, [], 0, 13)
  else if 16777216 < word r 1 then (0, [], 0, 12)
  else if r.length < 13 + (word r 1).toNat then (0, [], 0, 10)
  else if crc ((r.drop 9).take (word r 1).toNat) ≠ word r (9 + (word r 1).toNat) then (0, [], 0, 13)
  else (r.getD 0 0, (r.drop 9).take (word r 1).toNat, p + 13 + (word r 1).toNat, 0)
def unsl (bs : List Int) (p : Nat) : Int × List Int × Nat × Int := unslR (bs.drop p) p
theorem unseal_le {bs : List Int} {p : Nat} (h : (unsl bs p).2.2.2 = 0) : p + 13 ≤ (unsl bs p).2.2.1 ∧ (unsl bs p).2.2.1 ≤ bs.length := by
  unfold unsl unslR at h ⊢
  have hl : (bs.drop p).length = bs.length - p := List.length_drop
  split
  · rename_i h1; rw [if_pos h1] at h; simp at h
  rename_i h1; rw [if_neg h1] at h
  split
  · rename_i h2; rw [if_pos h2] at h; simp at h
  rename_i h2; rw [if_neg h2] at h
  split
  · rename_i h3; rw [if_pos h3] at h; simp at h
  rename_i h3; rw [if_neg h3] at h
  split
  · rename_i h4; rw [if_pos h4] at h; simp at h
  rename_i h4; rw [if_neg h4] at h
  split
  · rename_i h5; rw [if_pos h5] at h; simp at h
  simp only
  omega
/-- What is asked of an answer. -/
def UnR (w : World) (u : Int × List Int × Nat × Int) (e : Ending) (w' : World) : Prop :=
  ∃ la lc, e = .returned (.tuple #[.int .u8 u.1, .slice la u.2.1.length lc, .int .i64 u.2.2.1, .int .i64 u.2.2.2]) ∧ w'.ownsRow w.heap.size 5 1 (.slice la u.2.1.length lc) u.2.1.length (u8 u.2.1) ∧ Tch [] w w'
theorem UnR.err {w w' : World} {u : Int × List Int × Nat × Int} {k : Int} (hu : u = (0, [], 0, k)) (ht : Tch [] w w') : UnR w u (.returned (.tuple #[.int .u8 0, .slice none 0 0, .int .i64 0, .int .i64 k])) w' := by
  subst hu
  exact ⟨none, 0, rfl, own_nil _ _ _ _, ht⟩
theorem quiet {w w' : World} {a : Option Addr} {n c : Nat} {cs : List Value} (h : RSl w 1 a n c cs) (ht : Tch [] w w') : RSl w' 1 a n c cs := h.tch ht fun _ _ h => by cases h
theorem unseal_c (w : World) (bs : List Int) (a : Option Addr) (n c p : Nat) (hr : RSl w 1 a n c (u8 bs)) (hB : Bytes bs) (hp : p ≤ n) (hN : n ≤ 140737488355328) (hT : Tab w) :
    Calls Tryd.prog 25 #[.slice a n c, .int .i64 p] w fun e w' => UnR w (unsl bs p) e w' := by
  have hn := u8_len hr
  have hcap := hr.cap
  refine c25 _ _ _ _ ?_
  unfold d25
  refine ⟨fun w' => w' = w, ?_, ?_⟩
  · rw [bif_neg (by omega), bif_neg (by omega)]
  rintro w3 rfl
  simp only [Int.toNat_natCast, show Int.toNat 0 = 0 from rfl, show Int.toNat 1 = 1 from rfl, show Int.toNat 5 = 5 from rfl, show Int.toNat 9 = 9 from rfl]
  refine ⟨by omega, by omega, ?_⟩
  have hR := hr.cut (l := p) (hh := n) hp (Nat.le_refl _)
  rw [List.take_of_length_le (by rw [List.length_drop]; omega)] at hR
  have hRl : (bs.drop p).length = n - p := by rw [List.length_drop]; omega
  have hRB := hB.drop p
  generalize (if c = p then a else Option.map (fun y => Addr.add y (p * 1)) a) = A at *
  unfold unsl
  generalize bs.drop p = r at *
  have hRc := hR.cap
  generalize c - p = C at *
  by_cases h9 : n - p < 9
  · rw [bif_pos (by omega)]
    refine UnR.err ?_ (Tch.refl _ _)
    unfold unslR
    rw [if_pos (by omega)]
  rw [bif_neg (by omega)]
  rintro w4 rfl
  have ht4 := (Tch.refl [] w3).drew
  refine ⟨by omega, by omega, by omega, by omega, by omega, by omega, ?_⟩
  refine (sum_c _ (r.take 5) _ _ _ (quiet (by have := hR.cut (l := 0) (hh := 5) (by omega) (by omega); simpa using this) ht4) (hRB.take 5) (by omega) (hT.tch ht4 (by simp))).mono ?_
  rintro e w5 ⟨rfl, rfl⟩
  refine ⟨_, rfl, ?_⟩
  refine (back_c _ ((r.drop 5).take 4) _ _ _ (quiet (hR.cut (l := 5) (hh := 9) (by omega) (by omega)) ht4) ((hRB.drop 5).take 4) (by omega)).mono ?_
  rintro e w6 ⟨rfl, ht6⟩
  replace ht4 := ht4.trans ht6 (by simp)
  clear ht6
  refine ⟨_, rfl, ?_⟩
  rw [word_take _ (by omega), word_drop]
  by_cases h5 : crc (r.take 5) = word r 5
  rotate_left
  · rw [bif_nneg h5]
    refine UnR.err ?_ ht4
    unfold unslR
    rw [if_neg (by omega), if_pos h5]
  rw [bif_npos h5]
  refine ⟨by omega, by omega, by omega, by omega, ?_⟩
  refine (back_c _ ((r.drop 1).take 4) _ _ _ (quiet (hR.cut (l := 1) (hh := 5) (by omega) (by omega)) ht4) ((hRB.drop 1).take 4) (by omega)).mono ?_
  rintro e w7 ⟨rfl, ht7⟩
  replace ht4 := ht4.trans ht7 (by simp)
  clear ht7
  refine ⟨_, rfl, ?_⟩
  rw [word_take _ (by omega), word_drop]
  show bif decide (16777216 < word r 1) then _ else _
  have hw := word_range hRB 1
  by_cases hbig : 16777216 < word r 1
  · rw [bif_pos hbig]
    refine UnR.err ?_ ht4
    unfold unslR
    rw [if_neg (by omega), if_neg (by simpa using h5), if_pos hbig]
  rw [bif_neg hbig]
  obtain ⟨k, hk⟩ := Int.eq_ofNat_of_zero_le hw.1
  have hu : unslR r p = if r.length < 13 + k then (0, [], 0, 10) else if crc ((r.drop 9).take k) ≠ word r (9 + k) then (0, [], 0, 13) else (r.getD 0 0, (r.drop 9).take k, p + 13 + k, 0) := by
    unfold unslR
    rw [if_neg (by omega), if_neg (by simpa using h5), if_neg hbig, hk, Int.toNat_natCast]
  rw [hk, wrap_i64 (n := (k : Int)) (by omega) (by omega), wrap_i64 (n := 13 + (k : Int)) (by omega) (by omega), wrap_i64 (n := 9 + (k : Int)) (by omega) (by omega), show Int.toNat (9 + (k : Int)) = 9 + k by omega]
  by_cases hsh : n - p < 13 + k
  · rw [bif_pos (by omega)]
    exact UnR.err (by rw [hu, if_pos (by omega)]) ht4
  rw [bif_neg (by omega)]
  rw [if_neg (by omega)] at hu
  refine ⟨by omega, by omega, by omega, by omega, ?_⟩
  rintro w8 rfl
  replace ht4 := ht4.drew
  refine ⟨by omega, by omega, ?_⟩
  have hL := hR.cut (l := 9) (hh := 9 + k) (by omega) (by omega)
  rw [show 9 + k - 9 = k by omega] at hL ⊢
  refine (sum_c _ ((r.drop 9).take k) _ _ _ (quiet hL ht4) ((hRB.drop 9).take k) (by omega) (hT.tch ht4 (by simp))).mono ?_
  rintro e w9 ⟨rfl, rfl⟩
  refine ⟨_, rfl, ?_⟩
  refine (back_c _ ((r.drop (9 + k)).take (n - p - (9 + k))) _ _ _ (quiet (hR.cut (l := 9 + k) (hh := n - p) (by omega) (by omega)) ht4) ((hRB.drop (9 + k)).take _) (by omega)).mono ?_
  rintro e w10 ⟨rfl, ht10⟩
  replace ht4 := ht4.trans ht10 (by simp)
  clear ht10
  refine ⟨_, rfl, ?_⟩
  rw [word_take _ (by omega), word_drop, Nat.add_zero]
  by_cases h6 : crc ((r.drop 9).take k) = word r (9 + k)
  rotate_left
  · rw [bif_nneg h6]
    exact UnR.err (by rw [hu, if_pos h6]) ht4
  rw [bif_npos h6]
  rw [if_neg (by simpa using h6)] at hu
  rintro w11' rfl
  replace ht4 := ht4.drew
  generalize w10.drew = w11 at *
  refine ⟨by omega, by omega, ?_⟩
  have hR0 := quiet hR ht4
  have hll : ((r.drop 9).take k).length = k := by rw [List.length_take, List.length_drop]; omega
  have hgo : ∀ w12, Tch [] w11 w12 → optK A fun x => World.cell? w12 (Addr.add x (0 * 1)) = some (.int .u8 (r.getD 0 0)) := by
    intro w12 ht
    obtain ⟨b, o, rfl, g⟩ := (quiet hR0 ht).int (i := 0) (by omega)
    show World.cell? _ _ = _
    rw [add_mk]
    exact g
  cases A with
  | none => exact (hgo _ (Tch.refl _ _)).elim
  | some x =>
    refine ⟨_, hgo _ (Tch.refl _ _), ?_⟩
    refine (clone_c _ ((r.drop 9).take k) _ _ _ (quiet hL ht4) (by omega)).mono ?_
    rintro e w12 ⟨la, lc, rfl, hown, ht12⟩
    refine ⟨_, _, _, rfl, ⟨_, hgo _ ht12, rfl, trivial⟩, ?_⟩
    rw [hu]
    refine ⟨la, lc, ?_, ?_, ht4.trans ht12 (by simp)⟩
    · rw [hll, wrap_i64 (n := (p : Int) + 13) (by omega) (by omega), wrap_i64 (n := (p : Int) + 13 + k) (by omega) (by omega)]
      simp only
      congr 4
    · rw [hll]
      exact own_base hown ht4.size
theorem refUnseal_c (w : World) (bs : List Int) (a : Option Addr) (n c p : Nat) (hr : RSl w 1 a n c (u8 bs)) (hB : Bytes bs) (hp : p ≤ n) (hN : n ≤ 140737488355328) :
    Calls Tryd.prog 26 #[.slice a n c, .int .i64 p] w fun e w' => UnR w (unsl bs p) e w' := by
  have hn := u8_len hr
  have hcap := hr.cap
  refine c26 _ _ _ _ ?_
  unfold d26
  refine ⟨fun w' => w' = w, ?_, ?_⟩
  · rw [bif_neg (by omega), bif_neg (by omega)]
  rintro w3 rfl
  simp only [Int.toNat_natCast, show Int.toNat 0 = 0 from rfl, show Int.toNat 1 = 1 from rfl, show Int.toNat 5 = 5 from rfl, show Int.toNat 9 = 9 from rfl]
  refine ⟨by omega, by omega, ?_⟩
  have hR := hr.cut (l := p) (hh := n) hp (Nat.le_refl _)
  rw [List.take_of_length_le (by rw [List.length_drop]; omega)] at hR
  have hRl : (bs.drop p).length = n - p := by rw [List.length_drop]; omega
  have hRB := hB.drop p
  generalize (if c = p then a else Option.map (fun y => Addr.add y (p * 1)) a) = A at *
  unfold unsl
  generalize bs.drop p = r at *
  have hRc := hR.cap
  generalize c - p = C at *
  by_cases h9 : n - p < 9
  · rw [bif_pos (by omega)]
    refine UnR.err ?_ (Tch.refl _ _)
    unfold unslR
    rw [if_pos (by omega)]
  rw [bif_neg (by omega)]
  rintro w4 rfl
  have ht4 := (Tch.refl [] w3).drew
  refine ⟨by omega, by omega, by omega, by omega, by omega, by omega, ?_⟩
  refine (refSum_c _ (r.take 5) _ _ _ (quiet (by have := hR.cut (l := 0) (hh := 5) (by omega) (by omega); simpa using this) ht4) (hRB.take 5) (by omega)).mono ?_
  rintro e w5 ⟨rfl, rfl⟩
  refine ⟨_, rfl, ?_⟩
  refine (refWord_c _ ((r.drop 5).take 4) _ _ _ (quiet (hR.cut (l := 5) (hh := 9) (by omega) (by omega)) ht4) ((hRB.drop 5).take 4) (by omega)).mono ?_
  rintro e w6 ⟨rfl, ht6⟩
  replace ht4 := ht4.trans ht6 (by simp)
  clear ht6
  refine ⟨_, rfl, ?_⟩
  rw [word_take _ (by omega), word_drop]
  by_cases h5 : crc (r.take 5) = word r 5
  rotate_left
  · rw [bif_nneg h5]
    refine UnR.err ?_ ht4
    unfold unslR
    rw [if_neg (by omega), if_pos h5]
  rw [bif_npos h5]
  refine ⟨by omega, by omega, by omega, by omega, ?_⟩
  refine (refWord_c _ ((r.drop 1).take 4) _ _ _ (quiet (hR.cut (l := 1) (hh := 5) (by omega) (by omega)) ht4) ((hRB.drop 1).take 4) (by omega)).mono ?_
  rintro e w7 ⟨rfl, ht7⟩
  replace ht4 := ht4.trans ht7 (by simp)
  clear ht7
  refine ⟨_, rfl, ?_⟩
  rw [word_take _ (by omega), word_drop]
  have hw := word_range hRB 1
  rw [wrap_i64 (n := word r (1 + 0)) (by rw [Nat.add_zero]; omega) (by rw [Nat.add_zero]; omega), Nat.add_zero]
  by_cases hbig : 16777216 < word r 1
  · rw [bif_pos hbig]
    refine UnR.err ?_ ht4
    unfold unslR
    rw [if_neg (by omega), if_neg (by simpa using h5), if_pos hbig]
  rw [bif_neg hbig]
  obtain ⟨k, hk⟩ := Int.eq_ofNat_of_zero_le hw.1
  have hu : unslR r p = if r.length < 13 + k then (0, [], 0, 10) else if crc ((r.drop 9).take k) ≠ word r (9 + k) then (0, [], 0, 13) else (r.getD 0 0, (r.drop 9).take k, p + 13 + k, 0) := by
    unfold unslR
    rw [if_neg (by omega), if_neg (by simpa using h5), if_neg hbig, hk, Int.toNat_natCast]
  rw [hk, wrap_i64 (n := (k : Int) + 13) (by omega) (by omega), wrap_i64 (n := 13 + (k : Int)) (by omega) (by omega), wrap_i64 (n := 9 + (k : Int)) (by omega) (by omega), show Int.toNat (9 + (k : Int)) = 9 + k by omega, show Int.toNat (13 + (k : Int)) = 13 + k by omega]
  by_cases hsh : n - p < 13 + k
  · rw [bif_pos (by omega)]
    exact UnR.err (by rw [hu, if_pos (by omega)]) ht4
  rw [bif_neg (by omega)]
  rw [if_neg (by omega)] at hu
  rintro w8 rfl
  replace ht4 := ht4.drew
  refine ⟨by omega, by omega, by omega, by omega, by omega, by omega, by omega, by omega, ?_⟩
  have hL := hR.cut (l := 9) (hh := 9 + k) (by omega) (by omega)
  rw [show 9 + k - 9 = k by omega] at hL ⊢
  rw [show 13 + k - (9 + k) = 4 by omega]
  refine (refSum_c _ ((r.drop 9).take k) _ _ _ (quiet hL ht4) ((hRB.drop 9).take k) (by omega)).mono ?_
  rintro e w9 ⟨rfl, rfl⟩
  refine ⟨_, rfl, ?_⟩
  refine (refWord_c _ ((r.drop (9 + k)).take 4) _ _ _ (quiet (by have := hR.cut (l := 9 + k) (hh := 13 + k) (by omega) (by omega); rwa [show 13 + k - (9 + k) = 4 by omega] at this) ht4) ((hRB.drop (9 + k)).take _) (by omega)).mono ?_
  rintro e w10 ⟨rfl, ht10⟩
  replace ht4 := ht4.trans ht10 (by simp)
  clear ht10
  refine ⟨_, rfl, ?_⟩
  rw [word_take _ (by omega), word_drop, Nat.add_zero]
  by_cases h6 : crc ((r.drop 9).take k) = word r (9 + k)
  rotate_left
  · rw [bif_nneg h6]
    exact UnR.err (by rw [hu, if_pos h6]) ht4
  rw [bif_npos h6]
  rw [if_neg (by simpa using h6)] at hu
  refine ⟨by omega, by omega, by omega, by omega, ?_⟩
  have hll : ((r.drop 9).take k).length = k := by rw [List.length_take, List.length_drop]; omega
  refine app_at bT (own_nil w10 w10.heap.size 5 1) (quiet hL ht4) (Nat.le_refl _) (by omega) (by omega) fun la lc w12 h1 h2 h3 => ?_
  rw [Nat.zero_add, List.nil_append] at h1
  rw [Nat.zero_add]
  have h2' : Tch [] w10 w12 := h2
  have hs10 := ht4.size
  replace ht4 := ht4.trans h2' (by simp)
  refine ⟨by omega, by omega, ?_⟩
  have hgo : optK A fun x => World.cell? w12 (Addr.add x (0 * 1)) = some (.int .u8 (r.getD 0 0)) := by
    obtain ⟨b, o, rfl, g⟩ := (quiet hR ht4).int (i := 0) (by omega)
    show World.cell? _ _ = _
    rw [add_mk]
    exact g
  cases A with
  | none => exact hgo.elim
  | some x =>
    refine ⟨_, hgo, ?_⟩
    rw [hu]
    refine ⟨la, lc, ?_, ?_, ht4⟩
    · rw [hll, wrap_i64 (n := (p : Int) + (k : Int)) (by omega) (by omega), wrap_i64 (n := (p : Int) + (k : Int) + 13) (by omega) (by omega)]
      rw [show (p : Int) + k + 13 = ((p + 13 + k : Nat) : Int) by omega]
    · rw [hll]
      exact own_base h1 hs10
end Go.Proofs.YtjchneebdlncfaaDoor.Lib
