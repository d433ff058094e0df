/-
  MERGE's LAWS: what a merger has of a history ('HInv'); contracts of piece, SamePiece, given.
  Own work. No macro, syntax, notation, axiom.
-/
import Derived.Test.YtjchneebdlncfaaMrgB
namespace Go.Proofs.Ytjchneebdlncfaa.Mrg
open Go Den Fn Lib
open Go.RowKit (Below)
open Classical
set_option maxRecDepth 8000
set_option maxHeartbeats 1000000

theorem zcPiece : zc Try.prog 35 = [.int .i64 0, .int .i64 0, .slice none 0 0] := by kernel_rfl
theorem piece_c (w : World) (cs : List Value) (h : Hist) (hh : HistV w cs h) (i e : Nat) (hi : i < hk h) (he : e < heps h) :
    Calls Try.prog 13 #[.agg cs.toArray, .int .i64 i, .int .i64 e] w fun en w' => ∃ a c, en = .returned (.agg [Value.int .i64 i, .int .i64 ((hf h + e : Nat) : Int), .slice a (hb h i e).length c].toArray) ∧
      BatchV (Btw w.heap.size w'.heap.size) w' a (hb h i e).length c (hb h i e) ∧ Tch [] w w' := by
  have hlen := hh.len
  have hfr := hf_range h
  have her := heps_range h
  refine c13 _ _ _ ?_
  unfold d13
  rintro w3 rfl w4 rfl w5 rfl
  have hS := (((St.refl w []).new cs 24 rfl).new (zc Try.prog 35) 35 rfl).drew
  rw [zcPiece] at *
  have hsz := size_alloc w (.cells cs.toArray 24)
  generalize ((w.alloc (.cells cs.toArray 24)).alloc (.cells [Value.int .i64 0, .int .i64 0, .slice none 0 0].toArray 35)).drew = w5 at *
  generalize (w.alloc (.cells cs.toArray 24)).heap.size = qb at *
  generalize hpb : w.heap.size = pb at *
  have bc : ∀ {u : World}, St w [] u [fBlk qb [.int .i64 0, .int .i64 0, .slice none 0 0], fBlk pb cs] → Blk u pb cs := fun hS => hS.blk (by simp)
  refine get_all (bc hS) hlen ?_
  refine get_all (bc hS) hlen ?_
  refine (first_c w5 cs h (hh.quiet hS.tch)).mono ?_
  rintro en w9 ⟨rfl, ht⟩
  replace hS := hS.quiet ht
  refine ⟨_, rfl, get_all (bc hS) hlen (by constructor <;> first | rfl | trivial), ?_⟩
  refine (batch_c w9 cs h (hh.quiet hS.tch) i e hi he).mono ?_
  rintro en w13 ⟨a, c, rfl, hB, ht2⟩
  have s9 := hS.size
  have hq9 := (hS.blk (b := qb) (cs := [.int .i64 0, .int .i64 0, .slice none 0 0]) (by simp)).lt
  replace hS := hS.quiet ht2
  refine ⟨_, _, _, rfl, ?_⟩
  rw [wrap_i64 (n := (hf h : Int) + (e : Int)) (by omega) (by omega), show (hf h : Int) + (e : Int) = ((hf h + e : Nat) : Int) by norm_cast]
  refine ⟨[.int .i64 i, .int .i64 ((hf h + e : Nat) : Int), .slice a (hb h i e).length c], rfl, ?_⟩
  refine put_all (n := 3) (hS.blk (b := qb) (cs := [.int .i64 0, .int .i64 0, .slice none 0 0]) (by simp)) rfl rfl (by simp [one]) fun w16 k1 t1 s16 => ?_
  refine get_all k1 rfl ?_
  refine ⟨a, c, rfl, (hB.tch t1 fun k hk hb => ?_).mono fun k hb => ⟨by have := hb.1; omega, by have := hb.2; omega⟩, hS.tch.trans t1 (by simp; omega)⟩
  have := hb.1
  simp at hk
  omega
theorem samePiece_c {F G : Nat → Prop} (w : World) (i e j d : Int) (a b : Option Addr) (n c m mc : Nat) (l k : List Tx) (h : BatchV F w a n c l) (g : BatchV G w b m mc k) (hs : Smalls l) :
    Calls Try.prog 16 #[.agg [Value.int .i64 i, .int .i64 e, .slice a n c].toArray, .agg [Value.int .i64 j, .int .i64 d, .slice b m mc].toArray] w fun en w' => en = .returned (.bool (decide (i = j ∧ e = d ∧ l = k))) ∧ Tch [] w w' := by
  refine c16 _ _ ?_
  unfold d16
  rintro w2 rfl w3 rfl
  have hS := ((St.refl w []).new [Value.int .i64 i, .int .i64 e, .slice a n c] 35 rfl).new [Value.int .i64 j, .int .i64 d, .slice b m mc] 35 rfl
  generalize (w.alloc (.cells [Value.int .i64 i, .int .i64 e, .slice a n c].toArray 35)).alloc (.cells [Value.int .i64 j, .int .i64 d, .slice b m mc].toArray 35) = w3 at *
  generalize (w.alloc (.cells [Value.int .i64 i, .int .i64 e, .slice a n c].toArray 35)).heap.size = qb at *
  generalize w.heap.size = pb at *
  have hx := hS.blk (b := pb) (cs := [Value.int .i64 i, .int .i64 e, .slice a n c]) (by simp)
  have hy := hS.blk (b := qb) (cs := [Value.int .i64 j, .int .i64 d, .slice b m mc]) (by simp)
  refine ⟨i, by rw [add_mk]; exact hx.cell 0, j, by rw [add_mk]; exact hy.cell 0, ?_⟩
  by_cases h1 : i = j
  rotate_left
  · rw [bif_neg h1]
    exact ⟨by rw [decide_eq_false fun h => h1 h.1], hS.tch⟩
  rw [bif_pos h1]
  refine ⟨e, by rw [add_mk]; exact hx.cell 1, d, by rw [add_mk]; exact hy.cell 1, ?_⟩
  by_cases h2 : e = d
  rotate_left
  · rw [bif_neg h2]
    exact ⟨by rw [decide_eq_false fun h => h2 h.2.1], hS.tch⟩
  rw [bif_pos h2]
  refine ⟨a, n, c, by rw [add_mk]; exact hx.cell 2, b, m, mc, by rw [add_mk]; exact hy.cell 2, ?_⟩
  refine (sameBatch_c w3 a b n c m mc l k (h.quiet hS.tch) (g.quiet hS.tch) hs).mono ?_
  rintro en w11 ⟨rfl, ht⟩
  refine ⟨_, rfl, ?_, (hS.quiet ht).tch⟩
  congr 2
  rw [decide_eq_decide]
  exact ⟨fun h => ⟨h1, h2, h⟩, fun h => h.2.2⟩

/-! ### The plain law -/
/-- A merger that has taken the pieces T of a history, and given out n of its epochs. -/
structure HInv (h : Hist) (T : Nat → Nat → Prop) (n : Nat) (g : Mg) : Prop where
  kk : g.k = hk h
  ee : g.e = ((hf h + n : Nat) : Int)
  tp : g.top < ((hf h + heps h : Nat) : Int)
  le : n ≤ heps h
  nd : (g.ps.map (·.1)).Nodup
  got : ∀ i j, i < hk h → j < heps h → n ≤ j → T i j → pGet g.ps ((i : Int), ((hf h + j : Nat) : Int)) = some (hb h i j)
  non : ∀ a b : Int, (¬ ∃ i j : Nat, i < hk h ∧ j < heps h ∧ n ≤ j ∧ T i j ∧ a = i ∧ b = ((hf h + j : Nat) : Int)) → pGet g.ps (a, b) = none
theorem pGet_append (ps : Pcs) (q : (Int × Int) × List Tx) (k : Int × Int) : pGet (ps ++ [q]) k = (pGet ps k).or (if q.1 = k then some q.2 else none) := by
  induction ps with
  | nil => simp [pGet]
  | cons x r ih =>
    simp only [List.cons_append, pGet]
    split
    · rfl
    · exact ih
theorem pGet_none {ps : Pcs} {k : Int × Int} : pGet ps k = none ↔ k ∉ ps.map (·.1) := by
  induction ps with
  | nil => simp [pGet]
  | cons x r ih =>
    unfold pGet
    by_cases h : x.1 = k
    · rw [if_pos h]
      simp [h]
    · rw [if_neg h, ih]
      simp only [List.map_cons, List.mem_cons, not_or]
      exact ⟨fun hh => ⟨fun e => h e.symm, hh⟩, fun hh => hh.2⟩
theorem pDel_nodup {ps : Pcs} {k : Int × Int} (h : (ps.map (·.1)).Nodup) : ((pDel ps k).map (·.1)).Nodup := by
  induction ps with
  | nil => exact h
  | cons x r ih =>
    rw [List.map_cons, List.nodup_cons] at h
    unfold pDel
    split
    · exact h.2
    · rw [List.map_cons, List.nodup_cons]
      refine ⟨fun hm => h.1 ?_, ih h.2⟩
      obtain ⟨q, hq, hqe⟩ := List.mem_map.1 hm
      rw [← hqe]
      exact List.mem_map_of_mem (pDel_mem hq)
theorem pGet_pDel {ps : Pcs} {k j : Int × Int} (h : (ps.map (·.1)).Nodup) : pGet (pDel ps k) j = if j = k then none else pGet ps j := by
  induction ps with
  | nil => simp [pDel, pGet]
  | cons x r ih =>
    rw [List.map_cons, List.nodup_cons] at h
    unfold pDel
    by_cases hx : x.1 = k
    · rw [if_pos hx]
      by_cases hj : j = k
      · rw [if_pos hj, pGet_none, hj, ← hx]
        exact h.1
      · rw [if_neg hj, pGet, if_neg (by rw [hx]; exact fun e => hj e.symm)]
    · rw [if_neg hx, pGet, pGet, ih h.2]
      by_cases hj : j = k
      · subst hj
        simp [hx]
      · simp [hj]
theorem delS_nodup {ps : Pcs} {e : Int} (h : (ps.map (·.1)).Nodup) : ∀ n, ((delS ps e n).map (·.1)).Nodup
  | 0 => h
  | n + 1 => pDel_nodup (delS_nodup h n)
theorem pGet_delS {ps : Pcs} {e : Int} {j : Int × Int} (h : (ps.map (·.1)).Nodup) : ∀ n : Nat, pGet (delS ps e n) j = if j.2 = e ∧ 0 ≤ j.1 ∧ j.1 < n then none else pGet ps j
  | 0 => by rw [if_neg (by omega)]; rfl
  | n + 1 => by
    show pGet (pDel (delS ps e n) ((n : Int), e)) j = _
    rw [pGet_pDel (delS_nodup h n), pGet_delS h n]
    by_cases hj : j = ((n : Int), e)
    · rw [if_pos hj, if_pos (by rw [hj]; exact ⟨rfl, by show (0 : Int) ≤ n; omega, by show (n : Int) < ((n + 1 : Nat) : Int); omega⟩)]
    · rw [if_neg hj]
      by_cases hc : j.2 = e ∧ 0 ≤ j.1 ∧ j.1 < n
      · rw [if_pos hc, if_pos (by omega)]
      · rw [if_neg hc, if_neg fun hh => ?_]
        refine hc ⟨hh.1, hh.2.1, ?_⟩
        have : j.1 ≠ n := fun e' => hj (Prod.ext e' hh.1)
        have := hh.2.2
        omega
/-- The input whose batch stands at a place. -/
def rot (h : Hist) (n i : Nat) : Nat := (hf h + n - 1 + i) % hk h
theorem rot_lt (h : Hist) (n i : Nat) : rot h n i < hk h := Nat.mod_lt _ (by have := hk_range h; omega)
theorem rot_int {h : Hist} {n i : Nat} : (((hf h + n : Nat) : Int) - 1 + (i : Int)) % (hk h : Int) = ((rot h n i : Nat) : Int) := by
  have := hf_range h
  unfold rot
  rw [show ((hf h + n : Nat) : Int) - 1 + (i : Int) = ((hf h + n - 1 + i : Nat) : Int) by omega]
  norm_cast
/-- Each input stands somewhere. -/
theorem rot_onto (h : Hist) (n j : Nat) (hj : j < hk h) : ∃ i, i < hk h ∧ rot h n i = j := by
  have hk1 := hk_range h
  unfold rot
  generalize hf h + n - 1 = s
  generalize hk h = k at *
  refine ⟨(j + k - s % k) % k, Nat.mod_lt _ (by omega), ?_⟩
  have h1 : s % k < k := Nat.mod_lt _ (by omega)
  rw [Nat.add_mod_mod]
  have h2 : s + (j + k - s % k) = j + k * (s / k + 1) := by
    have := Nat.div_add_mod s k
    rw [Nat.mul_add]
    omega
  rw [h2, Nat.add_mul_mod_self_left, Nat.mod_eq_of_lt hj]
theorem outS_all {g : Mg} {f : Nat → List Tx} : ∀ {m : Nat}, (∀ i, i < m → pGet g.ps ((g.e - 1 + (i : Int)) % g.k, g.e) = some (f i)) → outS g m = some ((List.range m).map f)
  | 0, _ => rfl
  | m + 1, h => by
    show (outS g m).bind _ = _
    rw [outS_all fun i hi => h i (by omega)]
    simp only [Option.bind_some]
    rw [h m (by omega)]
    simp [List.range_succ]
theorem outS_miss {g : Mg} {m i : Nat} (hi : i < m) (h : pGet g.ps ((g.e - 1 + (i : Int)) % g.k, g.e) = none) : outS g m = none := by
  refine outS_none (n := i + 1) (by omega) ?_
  show (outS g i).bind _ = none
  rw [h]
  cases outS g i <;> rfl
theorem HInv.ep {h : Hist} {T : Nat → Nat → Prop} {n : Nat} {g : Mg} (H : HInv h T n g) : Ep g.e := by
  have h1 := hf_range h
  have h2 := (heps_range h).1
  have h3 := H.le
  rw [H.ee]
  unfold Ep
  omega
/-- Next, where the epoch is whole. -/
theorem HInv.next {h : Hist} {T : Nat → Nat → Prop} {n : Nat} {g : Mg} (H : HInv h T n g) (hn : n < heps h) (hT : ∀ i, i < hk h → T i n) :
    ∃ g', nextS g = (g', some ((List.range (hk h)).map fun i => hb h (rot h n i) n)) ∧ HInv h T (n + 1) g' := by
  have hfr := hf_range h
  have hout : outS g g.k.toNat = some ((List.range (hk h)).map fun i => hb h (rot h n i) n) := by
    rw [show g.k.toNat = hk h by rw [H.kk]; simp]
    refine outS_all fun i hi => ?_
    rw [H.ee, H.kk, rot_int]
    exact H.got _ n (rot_lt h n i) hn (Nat.le_refl _) (hT _ (rot_lt h n i))
  refine ⟨⟨g.k, g.e + 1, g.top, delS g.ps g.e g.k.toNat⟩, ?_, ?_⟩
  · unfold nextS
    rw [if_neg (by simpa using H.ep), hout]
  · refine ⟨H.kk, by simp only; rw [H.ee]; omega, H.tp, hn, delS_nodup H.nd _, fun i j hi hj hnj ht => ?_, fun a b hab => ?_⟩
    · rw [pGet_delS H.nd, if_neg]
      · exact H.got i j hi hj (by omega) ht
      · simp only
        rw [H.ee]
        omega
    · rw [pGet_delS H.nd]
      split
      · rfl
      · rename_i hc
        refine H.non a b fun ⟨i, j, hi, hj, hnj, ht, h1, h2⟩ => ?_
        by_cases hjn : j = n
        · refine hc ⟨?_, ?_, ?_⟩
          · simp only; rw [h2, H.ee, hjn]
          · simp only; omega
          · simp only; rw [h1, H.kk]; omega
        · exact hab ⟨i, j, hi, hj, by omega, ht, h1, h2⟩
/-- Next, where a piece is missing. -/
theorem HInv.stay {h : Hist} {T : Nat → Nat → Prop} {n : Nat} {g : Mg} (H : HInv h T n g) (hT : n = heps h ∨ ∃ i, i < hk h ∧ ¬ T i n) : nextS g = (g, none) := by
  have hkr := hk_range h
  have hmiss : ∃ i, i < hk h ∧ pGet g.ps ((g.e - 1 + (i : Int)) % g.k, g.e) = none := by
    rcases hT with h1 | ⟨j, hj, hnT⟩
    · refine ⟨0, by omega, ?_⟩
      refine H.non _ _ fun ⟨i, j, hi, hj, hnj, ht, h2, h3⟩ => ?_
      omega
    · obtain ⟨i, hi, hr⟩ := rot_onto h n j hj
      refine ⟨i, hi, ?_⟩
      rw [H.ee, H.kk, rot_int, hr]
      refine H.non _ _ fun ⟨i', j', hi', hj', hnj, ht, h2, h3⟩ => ?_
      have e1 : i' = j := by omega
      have e2 : j' = n := by omega
      rw [e1, e2] at ht
      exact hnT ht
  obtain ⟨i, hi, hm⟩ := hmiss
  unfold nextS
  rw [if_neg (by simpa using H.ep), outS_miss (m := g.k.toNat) (i := i) (by rw [H.kk]; omega) hm]
/-- Take of a piece of the history. -/
theorem HInv.take {h : Hist} {T : Nat → Nat → Prop} {n : Nat} {g : Mg} (H : HInv h T n g) {i j : Nat} (hi : i < hk h) (hj : j < heps h) (hok : ∀ x ∈ hb h i j, x.ok) :
    ∃ g', takeS g i ((hf h + j : Nat) : Int) (hb h i j) = (g', 0) ∧ HInv h (fun a b => T a b ∨ (a = i ∧ b = j)) n g' := by
  have hfr := hf_range h
  have her := heps_range h
  have hnl := H.le
  have henc := (encB_zero _).2 (hb_good (h := h) (i := i) (e := j))
  have hEp : Ep ((hf h + j : Nat) : Int) := by unfold Ep; omega
  have weak : (¬ (n ≤ j) ∨ T i j) → HInv h (fun a b => T a b ∨ (a = i ∧ b = j)) n g := fun hc => by
    refine ⟨H.kk, H.ee, H.tp, H.le, H.nd, fun a b ha hb' hnb ht => ?_, fun a b hab => H.non a b fun ⟨x, y, h1, h2, h3, h4, h5, h6⟩ => hab ⟨x, y, h1, h2, h3, .inl h4, h5, h6⟩⟩
    rcases ht with ht | ⟨rfl, rfl⟩
    · exact H.got a b ha hb' hnb ht
    · rcases hc with hc | hc
      · exact absurd hnb hc
      · exact H.got a b ha hb' hnb hc
  unfold takeS
  rw [if_neg (by rw [H.kk]; omega), if_neg (fun hh => by rcases hh with hh | hh; exact hh hEp; rw [H.ee] at hh; omega), if_neg (by simpa using henc)]
  by_cases hlt : ((hf h + j : Nat) : Int) < g.e
  · rw [if_pos hlt]
    exact ⟨g, rfl, weak (.inl (by rw [H.ee] at hlt; omega))⟩
  rw [if_neg hlt]
  have hnj : n ≤ j := by rw [H.ee] at hlt; omega
  by_cases hT : T i j
  · rw [H.got i j hi hj hnj hT]
    simp only [if_true]
    exact ⟨g, rfl, weak (.inr hT)⟩
  · have hno : pGet g.ps ((i : Int), ((hf h + j : Nat) : Int)) = none := H.non _ _ fun ⟨x, y, h1, h2, h3, h4, h5, h6⟩ => by
      have e1 : x = i := by omega
      have e2 : y = j := by omega
      rw [e1, e2] at h4
      exact hT h4
    rw [hno]
    refine ⟨_, rfl, ?_⟩
    have htp := H.tp
    refine ⟨H.kk, H.ee, by simp only; split <;> omega, H.le, ?_, fun a b ha hb' hnb ht => ?_, fun a b hab => ?_⟩
    · simp only [List.map_append, List.map_cons, List.map_nil]
      rw [List.nodup_append]
      refine ⟨H.nd, by simp, fun x hx y hy => ?_⟩
      simp at hy
      rw [hy]
      intro e
      rw [e] at hx
      exact pGet_none.1 hno hx
    · simp only
      rw [pGet_append]
      rcases ht with ht | ⟨rfl, rfl⟩
      · rw [H.got a b ha hb' hnb ht]; rfl
      · rw [hno]; simp
    · simp only
      rw [pGet_append, H.non a b fun ⟨x, y, h1, h2, h3, h4, h5, h6⟩ => hab ⟨x, y, h1, h2, h3, .inl h4, h5, h6⟩, if_neg]
      · rfl
      · intro e
        simp only [Prod.mk.injEq] at e
        exact hab ⟨i, j, hi, hj, hnj, .inr ⟨rfl, rfl⟩, e.1.symm, e.2.symm⟩
theorem HInv.new (h : Hist) : HInv h (fun _ _ => False) 0 ⟨hk h, hf h, 0, []⟩ :=
  ⟨rfl, by simp, by have := hf_range h; simp only; omega, Nat.zero_le _, by simp, fun _ _ _ _ _ h => h.elim, fun _ _ _ => rfl⟩
end Go.Proofs.Ytjchneebdlncfaa.Mrg
