/-
  MERGE's LAWS: the contract of given; a piece of the history is taken.
  Own work. No macro, syntax, notation, axiom.
-/
import Derived.Test.YtjchneebdlncfaaMrgC
namespace Go.Proofs.Ytjchneebdlncfaa.Mrg
open Go Den Fn Lib
open Go.RowKit (Below)
open Classical
set_option maxRecDepth 8000
set_option maxHeartbeats 1000000

theorem cellAt {w : World} {y : Addr} {n c : Nat} {vs : List Value} (h : RSl w 1 (some y) n c vs) {i : Nat} {v : Value} (hv : vs[i]? = some v) : World.cell? w (Addr.add y (i * 1)) = some v := by
  rw [Nat.mul_one]
  rcases h.at' with h' | ⟨b, o, e, hc⟩
  · have := h.cap; have := h.len
    have := (List.getElem?_eq_some_iff.1 hv).1
    omega
  · cases e
    exact hc i v hv
/-- What is asked of given. -/
def GivR (F : Nat → Prop) (w : World) (h : Hist) (T : Nat → Nat → Prop) (mb pb n : Nat) (more : Bool) (e : Ending) (w' : World) : Prop :=
  ∃ n' g', e = .returned (.tuple #[.int .i64 ((n' : Nat) : Int), .bool true]) ∧ MgAt F w' mb pb g' ∧ HInv h T n' g' ∧ Tch [mb, pb] w w' ∧ n ≤ n' ∧ (∀ j, n ≤ j → j < n' → ∀ i, i < hk h → T i j) ∧
    (more = true → n' = heps h ∨ ∃ i, i < hk h ∧ ¬ T i n') ∧ (more = false → n' ≤ n + 1 ∧ (n' = n → n = heps h ∨ ∃ i, i < hk h ∧ ¬ T i n))
theorem given_c {F : Nat → Prop} (w0 w : World) (cs : List Value) (h : Hist) (mb pb : Nat) (g : Mg) (T : Nat → Nat → Prop) (n : Nat) (more : Bool) (hh : HistV w0 cs h) (ht0 : Tch [] w0 w) (hm0 : w0.heap.size ≤ mb) (hp0 : w0.heap.size ≤ pb) (hM : MgAt F w mb pb g) (H : HInv h T n g) :
    Calls Try.prog 17 #[.agg cs.toArray, .pointer (some ⟨mb, 0, none⟩), .int .i64 n, .bool more] w fun e w' => GivR F w h T mb pb n more e w' := by
  have hlen := hh.len
  have hkr := hk_range h
  have hfr := hf_range h
  have her := heps_range h
  obtain ⟨hmb, hpb⟩ := hM.lt
  refine c17 _ _ _ _ ?_
  unfold d17
  rintro w4 rfl
  have hS := (St.refl w [mb, pb]).new cs 24 rfl
  replace hM := hM.quiet ((Tch.refl [] w).alloc (.cells cs.toArray 24))
  generalize w.alloc (.cells cs.toArray 24) = w4 at *
  generalize hab : w.heap.size = ab at *
  have old : ∀ {u : World}, Tch [mb, pb] w u → Tch [] w0 u := fun ht => ht0.trans ht fun i hi => .inr (by simp at hi; omega)
  refine ⟨fun m x u => ∃ (q : Nat) (g' : Mg), x = q ∧ m = heps h - q ∧ n ≤ q ∧ MgAt F u mb pb g' ∧ HInv h T q g' ∧ St w [mb, pb] u [fBlk ab cs] ∧ (∀ j, n ≤ j → j < q → ∀ i, i < hk h → T i j) ∧ (more = false → q = n), ⟨heps h - n, n, g, rfl, rfl, Nat.le_refl _, hM, H, hS, fun j h1 h2 => by omega, fun _ => rfl⟩, ?_⟩
  clear hM hS H
  rintro m w7 x ⟨q, g', rfl, rfl, hnq, hM, H, hS, hall, hmn⟩
  have hqle := H.le
  refine (next_c w7 mb pb g' hM).mono ?_
  rintro e w10 ⟨hM2, ht2, hR⟩
  have step : ∀ {w' : World} , Tch [mb, pb] w7 w' → w' = w10 → St w [mb, pb] w' [fBlk ab cs] := fun ht _ => hS.step ht (fun f hf => by
    obtain rfl := List.mem_singleton.1 hf
    exact fBlk_off (by simp; omega)) fun i hi => .inl hi
  replace hS := step ht2 rfl
  by_cases hwhole : q < heps h ∧ ∀ i, i < hk h → T i q
  rotate_left
  · have hc : q = heps h ∨ ∃ i, i < hk h ∧ ¬ T i q := by
      by_cases hq : q = heps h
      · exact .inl hq
      · refine .inr (Classical.byContradiction fun hno => hwhole ⟨by omega, fun i hi => Classical.byContradiction fun hT => hno ⟨i, hi, hT⟩⟩)
    have hst := H.stay hc
    rw [hst] at hR hM2
    simp only at hR hM2
    subst hR
    refine ⟨none, 0, 0, false, rfl, none, 0, 0, rfl, false, rfl, ?_⟩
    show GivR _ _ _ _ _ _ _ _ _ _
    exact ⟨q, g', rfl, hM2, H, hS.tch, hnq, hall, fun _ => hc, fun hm => ⟨by have := hmn hm; omega, fun _ => by have := hmn hm; rw [← this]; exact hc⟩⟩
  obtain ⟨hq, hTq⟩ := hwhole
  obtain ⟨g2, hnx, H2⟩ := H.next hq hTq
  rw [hnx] at hR hM2
  simp only at hR hM2
  obtain ⟨a, an, ac, rfl, ⟨vs, hr, hsl⟩, _⟩ := hR
  have han : an = hk h := by
    have h1 := hsl.length
    have h2 := hr.len
    simp at h1
    omega
  subst han
  refine ⟨a, hk h, ac, true, rfl, a, hk h, ac, rfl, true, rfl, ?_⟩
  show ∃ _, _
  have bc : ∀ {u : World}, St w [mb, pb] u [fBlk ab cs] → Blk u ab cs := fun hS => hS.blk (List.mem_singleton.2 rfl)
  refine ⟨fun u => Tch [] w10 u ∧ St w [mb, pb] u [fBlk ab cs], ?_, ?_⟩
  · refine get_all (bc hS) hlen ?_
    refine (epochs_c w10 cs h (hh.quiet (old hS.tch))).mono ?_
    rintro e w18 ⟨rfl, t1⟩
    have hS1 := hS.quiet t1
    refine ⟨_, rfl, ?_⟩
    rw [bif_neg (by omega)]
    refine get_all (bc hS1) hlen ?_
    refine (inputs_c w18 cs h (hh.quiet (old hS1.tch))).mono ?_
    rintro e w22 ⟨rfl, t2⟩
    refine ⟨_, rfl, ?_⟩
    rw [bif_npos rfl]
    exact ⟨t1.trans t2 (by simp), hS1.quiet t2⟩
  clear hS
  rintro w24 ⟨t24, hS⟩
  refine ⟨fun m x u => ∃ i : Nat, x = i ∧ i ≤ hk h ∧ m = hk h - i ∧ Tch [] w10 u ∧ St w [mb, pb] u [fBlk ab cs], ⟨hk h, 0, rfl, by omega, rfl, t24, hS⟩, ?_⟩
  clear hS t24
  rintro m w27 x ⟨i, rfl, hi, rfl, tu, hS⟩
  by_cases hlt : i < hk h
  rotate_left
  · rw [bif_neg (by omega)]
    rw [wrap_i64 (n := (q : Int) + 1) (by omega) (by omega)]
    have hall' : ∀ j, n ≤ j → j < q + 1 → ∀ i, i < hk h → T i j := fun j h1 h2 i hi => by
      by_cases hjq : j = q
      · rw [hjq]; exact hTq i hi
      · exact hall j h1 (by omega) i hi
    cases more with
    | false =>
      show GivR _ _ _ _ _ _ _ _ _ _
      have := hmn rfl
      exact ⟨q + 1, g2, rfl, hM2.quiet tu, H2, hS.tch, by omega, hall', (fun h => by cases h), fun _ => ⟨by omega, fun h => by omega⟩⟩
    | true =>
      show ∃ _, _
      exact ⟨heps h - (q + 1), by omega, q + 1, g2, rfl, rfl, by omega, hM2.quiet tu, H2, hS, hall', (fun h => by cases h)⟩
  rw [bif_pos (by omega)]
  rintro w29 rfl
  replace hS := hS.drew
  replace tu := tu.drew
  generalize w27.drew = w29 at *
  refine ⟨by omega, by omega, ?_⟩
  rw [Int.toNat_natCast]
  have hli : ((List.range (hk h)).map fun i => hb h (rot h q i) q)[i]? = some (hb h (rot h q i) q) := by simp [hlt]
  obtain ⟨x1, xn, xc, hv, hB⟩ := hsl.get hli
  cases a with
  | none =>
    have := (rsl_none hr).1
    omega
  | some y =>
    have hc : ∀ {u : World}, Tch [] w10 u → World.cell? u (Addr.add y (i * 1)) = some (.slice x1 xn xc) := fun ht => cellAt (hr.tch ht (fun _ _ h => by cases h)) hv
    refine ⟨x1, xn, xc, hc tu, ?_⟩
    refine get_all (bc hS) hlen (get_all (bc hS) hlen (get_all (bc hS) hlen ?_))
    refine (first_c w29 cs h (hh.quiet (old hS.tch))).mono ?_
    rintro e w36 ⟨rfl, t1⟩
    replace hS := hS.quiet t1
    replace tu := tu.trans t1 (by simp)
    refine ⟨_, rfl, get_all (bc hS) hlen (by constructor <;> first | rfl | trivial), get_all (bc hS) hlen (by constructor <;> first | rfl | trivial), ⟨x1, xn, xc, hc tu, by constructor <;> first | rfl | trivial⟩, ?_⟩
    refine (inputs_c w36 cs h (hh.quiet (old hS.tch))).mono ?_
    rintro e w42 ⟨rfl, t2⟩
    replace hS := hS.quiet t2
    replace tu := tu.trans t2 (by simp)
    refine ⟨_, rfl, get_all (bc hS) hlen (by constructor <;> first | rfl | trivial), ⟨x1, xn, xc, hc tu, by constructor <;> first | rfl | trivial⟩, by omega, ?_⟩
    rw [wrap_i64 (n := (hf h : Int) + (q : Int)) (by omega) (by omega), wrap_i64 (n := (hf h : Int) + (q : Int) - 1) (by omega) (by omega), wrap_i64 (by omega) (by omega), Int.tmod_eq_emod_of_nonneg (by omega),
      show ((hf h : Int) + (q : Int) - 1 + (i : Int)) % (hk h : Int) = ((rot h q i : Nat) : Int) by rw [← rot_int]; congr 1]
    refine (batch_c w42 cs h (hh.quiet (old hS.tch)) (rot h q i) q (rot_lt h q i) hq).mono ?_
    rintro e w47 ⟨ba, bcp, rfl, hB2, t3⟩
    replace hS := hS.quiet t3
    replace tu := tu.trans t3 (by simp)
    refine ⟨_, _, _, rfl, ⟨x1, xn, xc, hc tu, by constructor <;> first | rfl | trivial⟩, ?_⟩
    refine (sameBatch_c w47 x1 ba xn xc _ bcp _ _ (hB.quiet tu) hB2 hb_small).mono ?_
    rintro e w51 ⟨rfl, t4⟩
    refine ⟨_, rfl, ?_⟩
    rw [bif_npos rfl]
    exact ⟨hk h - (i + 1), by omega, i + 1, by rw [wrap_i64 (by omega) (by omega)]; omega, by omega, rfl, tu.trans t4 (by simp), hS.quiet t4⟩
end Go.Proofs.Ytjchneebdlncfaa.Mrg
