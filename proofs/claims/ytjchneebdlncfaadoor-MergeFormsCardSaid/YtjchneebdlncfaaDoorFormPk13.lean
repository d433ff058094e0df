/-
  MERGE's LAWS: what a merger has of a history ('HInv'); contracts of piece, SamePiece, given.
  MERGE's LAWS: the contract of given; a piece of the history is taken.
  MERGE's LAWS: the contract of awake.
  FRAMES' LAW: MergeForms answers true.
  ARGUMENTS THAT ARE NESTED ROWS: what the row's reading says of memory ('open_rep').
  ARGUMENTS WHOSE WEIGHTS ARE BOUNDED: every slice in what is read is at most so long ('open_repB').
  FRAMES' LAWS: how their arguments are read.
  PROVED HERE: the card of MergeForms: frames there and back, and a frame that is changed.
  Own work. No macro, syntax, notation, axiom.
-/
import Derived.Test.YtjchneebdlncfaaDoorFormPk12
import Derived.Test.YtjchneebdlncfaaDoorFormPk11
import Derived.Test.YtjchneebdlncfaaDoorFormPk3
import Derived.Test.YtjchneebdlncfaaDoorFormPk5
import Derived.Test.YtjchneebdlncfaaDoorFormPk4
namespace Go.Proofs.YtjchneebdlncfaaDoor.Mrg
open Go Den Fn Lib
open Go.RowKit (Below)
open Classical
set_option maxRecDepth 8000
set_option maxHeartbeats 1000000
theorem zcPiece : zc Tryd.prog 37 = [.int .i64 0, .int .i64 0, .slice none 0 0] := by kernel_rfl
theorem samePiece_c {F G : Nat → Prop} (w : World) (i e j d : Int) (a b : Option Addr) (n c m mc : Nat) (l k : List Tx) (h : BatchV F w a n c l) (g : BatchV G w b m mc k) (hs : Smalls l) :
    Calls Tryd.prog 22 #[.agg [Value.int .i64 i, .int .i64 e, .slice a n c].toArray, .agg [Value.int .i64 j, .int .i64 d, .slice b m mc].toArray] w fun en w' => en = .returned (.bool (decide (i = j ∧ e = d ∧ l = k))) ∧ Tch [] w w' := by
  refine c22 _ _ ?_
  unfold d22
  rintro w2 rfl w3 rfl
  have hS := ((St.refl w []).new [Value.int .i64 i, .int .i64 e, .slice a n c] 37 rfl).new [Value.int .i64 j, .int .i64 d, .slice b m mc] 37 rfl
  generalize (w.alloc (.cells [Value.int .i64 i, .int .i64 e, .slice a n c].toArray 37)).alloc (.cells [Value.int .i64 j, .int .i64 d, .slice b m mc].toArray 37) = w3 at *
  generalize (w.alloc (.cells [Value.int .i64 i, .int .i64 e, .slice a n c].toArray 37)).heap.size = qb at *
  generalize w.heap.size = pb at *
  have hx := hS.blk (b := pb) (cs := [Value.int .i64 i, .int .i64 e, .slice a n c]) (by simp)
  have hy := hS.blk (b := qb) (cs := [Value.int .i64 j, .int .i64 d, .slice b m mc]) (by simp)
  refine ⟨i, by rw [add_mk]; exact hx.cell 0, j, by rw [add_mk]; exact hy.cell 0, ?_⟩
  by_cases h1 : i = j
  rotate_left
  · rw [bif_neg h1]
    exact ⟨by rw [decide_eq_false fun h => h1 h.1], hS.tch⟩
  rw [bif_pos h1]
  refine ⟨e, by rw [add_mk]; exact hx.cell 1, d, by rw [add_mk]; exact hy.cell 1, ?_⟩
  by_cases h2 : e = d
  rotate_left
  · rw [bif_neg h2]
    exact ⟨by rw [decide_eq_false fun h => h2 h.2.1], hS.tch⟩
  rw [bif_pos h2]
  refine ⟨a, n, c, by rw [add_mk]; exact hx.cell 2, b, m, mc, by rw [add_mk]; exact hy.cell 2, ?_⟩
  refine (sameBatch_c w3 a b n c m mc l k (h.quiet hS.tch) (g.quiet hS.tch) hs).mono ?_
  rintro en w11 ⟨rfl, ht⟩
  refine ⟨_, rfl, ?_, (hS.quiet ht).tch⟩
  congr 2
  rw [decide_eq_decide]
  exact ⟨fun h => ⟨h1, h2, h⟩, fun h => h.2.2⟩

/-! ### The plain law -/
/-- A merger that has taken the pieces T of a history, and given out n of its epochs. -/
structure HInv (h : Hist) (T : Nat → Nat → Prop) (n : Nat) (g : Mg) : Prop where
  kk : g.k = hk h
  ee : g.e = ((hf h + n : Nat) : Int)
  tp : g.top < ((hf h + heps h : Nat) : Int)
  le : n ≤ heps h
  nd : (g.ps.map (·.1)).Nodup
  got : ∀ i j, i < hk h → j < heps h → n ≤ j → T i j → pGet g.ps ((i : Int), ((hf h + j : Nat) : Int)) = some (hb h i j)
  non : ∀ a b : Int, (¬ ∃ i j : Nat, i < hk h ∧ j < heps h ∧ n ≤ j ∧ T i j ∧ a = i ∧ b = ((hf h + j : Nat) : Int)) → pGet g.ps (a, b) = none
theorem pGet_append (ps : Pcs) (q : (Int × Int) × List Tx) (k : Int × Int) : pGet (ps ++ [q]) k = (pGet ps k).or (if q.1 = k then some q.2 else none) := by
  induction ps with
  | nil => simp [pGet]
  | cons x r ih =>
    simp only [List.cons_append, pGet]
    split
    · rfl
    · exact ih
theorem pGet_none {ps : Pcs} {k : Int × Int} : pGet ps k = none ↔ k ∉ ps.map (·.1) := by
  induction ps with
  | nil => simp [pGet]
  | cons x r ih =>
    unfold pGet
    by_cases h : x.1 = k
    · rw [if_pos h]
      simp [h]
    · rw [if_neg h, ih]
      simp only [List.map_cons, List.mem_cons, not_or]
      exact ⟨fun hh => ⟨fun e => h e.symm, hh⟩, fun hh => hh.2⟩
theorem pDel_nodup {ps : Pcs} {k : Int × Int} (h : (ps.map (·.1)).Nodup) : ((pDel ps k).map (·.1)).Nodup := by
  induction ps with
  | nil => exact h
  | cons x r ih =>
    rw [List.map_cons, List.nodup_cons] at h
    unfold pDel
    split
    · exact h.2
    · rw [List.map_cons, List.nodup_cons]
      refine ⟨fun hm => h.1 ?_, ih h.2⟩
      obtain ⟨q, hq, hqe⟩ := List.mem_map.1 hm
      rw [← hqe]
      exact List.mem_map_of_mem (pDel_mem hq)
theorem pGet_pDel {ps : Pcs} {k j : Int × Int} (h : (ps.map (·.1)).Nodup) : pGet (pDel ps k) j = if j = k then none else pGet ps j := by
  induction ps with
  | nil => simp [pDel, pGet]
  | cons x r ih =>
    rw [List.map_cons, List.nodup_cons] at h
    unfold pDel
    by_cases hx : x.1 = k
    · rw [if_pos hx]
      by_cases hj : j = k
      · rw [if_pos hj, pGet_none, hj, ← hx]
        exact h.1
      · rw [if_neg hj, pGet, if_neg (by rw [hx]; exact fun e => hj e.symm)]
    · rw [if_neg hx, pGet, pGet, ih h.2]
      by_cases hj : j = k
      · subst hj
        simp [hx]
      · simp [hj]
theorem delS_nodup {ps : Pcs} {e : Int} (h : (ps.map (·.1)).Nodup) : ∀ n, ((delS ps e n).map (·.1)).Nodup
  | 0 => h
  | n + 1 => pDel_nodup (delS_nodup h n)
theorem pGet_delS {ps : Pcs} {e : Int} {j : Int × Int} (h : (ps.map (·.1)).Nodup) : ∀ n : Nat, pGet (delS ps e n) j = if j.2 = e ∧ 0 ≤ j.1 ∧ j.1 < n then none else pGet ps j
  | 0 => by rw [if_neg (by omega)]; rfl
  | n + 1 => by
    show pGet (pDel (delS ps e n) ((n : Int), e)) j = _
    rw [pGet_pDel (delS_nodup h n), pGet_delS h n]
    by_cases hj : j = ((n : Int), e)
    · rw [if_pos hj, if_pos (by rw [hj]; exact ⟨rfl, by show (0 : Int) ≤ n; omega, by show (n : Int) < ((n + 1 : Nat) : Int); omega⟩)]
    · rw [if_neg hj]
      by_cases hc : j.2 = e ∧ 0 ≤ j.1 ∧ j.1 < n
      · rw [if_pos hc, if_pos (by omega)]
      · rw [if_neg hc, if_neg fun hh => ?_]
        refine hc ⟨hh.1, hh.2.1, ?_⟩
        have : j.1 ≠ n := fun e' => hj (Prod.ext e' hh.1)
        have := hh.2.2
        omega
/-- The input whose batch stands at a place. -/
def rot (h : Hist) (n i : Nat) : Nat := (hf h + n - 1 + i) % hk h
theorem rot_lt (h : Hist) (n i : Nat) : rot h n i < hk h := Nat.mod_lt _ (by have := hk_range h; omega)
theorem rot_int {h : Hist} {n i : Nat} : (((hf h + n : Nat) : Int) - 1 + (i : Int)) % (hk h : Int) = ((rot h n i : Nat) : Int) := by
  have := hf_range h
  unfold rot
  rw [show ((hf h + n : Nat) : Int) - 1 + (i : Int) = ((hf h + n - 1 + i : Nat) : Int) by omega]
  norm_cast
/-- Each input stands somewhere. -/
theorem rot_onto (h : Hist) (n j : Nat) (hj : j < hk h) : ∃ i, i < hk h ∧ rot h n i = j := by
  have hk1 := hk_range h
  unfold rot
  generalize hf h + n - 1 = s
  generalize hk h = k at *
  refine ⟨(j + k - s % k) % k, Nat.mod_lt _ (by omega), ?_⟩
  have h1 : s % k < k := Nat.mod_lt _ (by omega)
  rw [Nat.add_mod_mod]
  have h2 : s + (j + k - s % k) = j + k * (s / k + 1) := by
    have := Nat.div_add_mod s k
    rw [Nat.mul_add]
    omega
  rw [h2, Nat.add_mul_mod_self_left, Nat.mod_eq_of_lt hj]
theorem outS_all {g : Mg} {f : Nat → List Tx} : ∀ {m : Nat}, (∀ i, i < m → pGet g.ps ((g.e - 1 + (i : Int)) % g.k, g.e) = some (f i)) → outS g m = some ((List.range m).map f)
  | 0, _ => rfl
  | m + 1, h => by
    show (outS g m).bind _ = _
    rw [outS_all fun i hi => h i (by omega)]
    simp only [Option.bind_some]
    rw [h m (by omega)]
    simp [List.range_succ]
theorem outS_miss {g : Mg} {m i : Nat} (hi : i < m) (h : pGet g.ps ((g.e - 1 + (i : Int)) % g.k, g.e) = none) : outS g m = none := by
  refine outS_none (n := i + 1) (by omega) ?_
  show (outS g i).bind _ = none
  rw [h]
  cases outS g i <;> rfl
theorem HInv.ep {h : Hist} {T : Nat → Nat → Prop} {n : Nat} {g : Mg} (H : HInv h T n g) : Ep g.e := by
  have h1 := hf_range h
  have h2 := (heps_range h).1
  have h3 := H.le
  rw [H.ee]
  unfold Ep
  omega
/-- Next, where the epoch is whole. -/
theorem HInv.next {h : Hist} {T : Nat → Nat → Prop} {n : Nat} {g : Mg} (H : HInv h T n g) (hn : n < heps h) (hT : ∀ i, i < hk h → T i n) :
    ∃ g', nextS g = (g', some ((List.range (hk h)).map fun i => hb h (rot h n i) n)) ∧ HInv h T (n + 1) g' := by
  have hfr := hf_range h
  have hout : outS g g.k.toNat = some ((List.range (hk h)).map fun i => hb h (rot h n i) n) := by
    rw [show g.k.toNat = hk h by rw [H.kk]; simp]
    refine outS_all fun i hi => ?_
    rw [H.ee, H.kk, rot_int]
    exact H.got _ n (rot_lt h n i) hn (Nat.le_refl _) (hT _ (rot_lt h n i))
  refine ⟨⟨g.k, g.e + 1, g.top, delS g.ps g.e g.k.toNat⟩, ?_, ?_⟩
  · unfold nextS
    rw [if_neg (by simpa using H.ep), hout]
  · refine ⟨H.kk, by simp only; rw [H.ee]; omega, H.tp, hn, delS_nodup H.nd _, fun i j hi hj hnj ht => ?_, fun a b hab => ?_⟩
    · rw [pGet_delS H.nd, if_neg]
      · exact H.got i j hi hj (by omega) ht
      · simp only
        rw [H.ee]
        omega
    · rw [pGet_delS H.nd]
      split
      · rfl
      · rename_i hc
        refine H.non a b fun ⟨i, j, hi, hj, hnj, ht, h1, h2⟩ => ?_
        by_cases hjn : j = n
        · refine hc ⟨?_, ?_, ?_⟩
          · simp only; rw [h2, H.ee, hjn]
          · simp only; omega
          · simp only; rw [h1, H.kk]; omega
        · exact hab ⟨i, j, hi, hj, by omega, ht, h1, h2⟩
/-- Next, where a piece is missing. -/
theorem HInv.stay {h : Hist} {T : Nat → Nat → Prop} {n : Nat} {g : Mg} (H : HInv h T n g) (hT : n = heps h ∨ ∃ i, i < hk h ∧ ¬ T i n) : nextS g = (g, none) := by
  have hkr := hk_range h
  have hmiss : ∃ i, i < hk h ∧ pGet g.ps ((g.e - 1 + (i : Int)) % g.k, g.e) = none := by
    rcases hT with h1 | ⟨j, hj, hnT⟩
    · refine ⟨0, by omega, ?_⟩
      refine H.non _ _ fun ⟨i, j, hi, hj, hnj, ht, h2, h3⟩ => ?_
      omega
    · obtain ⟨i, hi, hr⟩ := rot_onto h n j hj
      refine ⟨i, hi, ?_⟩
      rw [H.ee, H.kk, rot_int, hr]
      refine H.non _ _ fun ⟨i', j', hi', hj', hnj, ht, h2, h3⟩ => ?_
      have e1 : i' = j := by omega
      have e2 : j' = n := by omega
      rw [e1, e2] at ht
      exact hnT ht
  obtain ⟨i, hi, hm⟩ := hmiss
  unfold nextS
  rw [if_neg (by simpa using H.ep), outS_miss (m := g.k.toNat) (i := i) (by rw [H.kk]; omega) hm]
/-- Take of a piece of the history. -/
theorem HInv.take {h : Hist} {T : Nat → Nat → Prop} {n : Nat} {g : Mg} (H : HInv h T n g) {i j : Nat} (hi : i < hk h) (hj : j < heps h) (hok : ∀ x ∈ hb h i j, x.ok) :
    ∃ g', takeS g i ((hf h + j : Nat) : Int) (hb h i j) = (g', 0) ∧ HInv h (fun a b => T a b ∨ (a = i ∧ b = j)) n g' := by
  have hfr := hf_range h
  have her := heps_range h
  have hnl := H.le
  have henc := (encB_zero _).2 (hb_good (h := h) (i := i) (e := j))
  have hEp : Ep ((hf h + j : Nat) : Int) := by unfold Ep; omega
  have weak : (¬ (n ≤ j) ∨ T i j) → HInv h (fun a b => T a b ∨ (a = i ∧ b = j)) n g := fun hc => by
    refine ⟨H.kk, H.ee, H.tp, H.le, H.nd, fun a b ha hb' hnb ht => ?_, fun a b hab => H.non a b fun ⟨x, y, h1, h2, h3, h4, h5, h6⟩ => hab ⟨x, y, h1, h2, h3, .inl h4, h5, h6⟩⟩
    rcases ht with ht | ⟨rfl, rfl⟩
    · exact H.got a b ha hb' hnb ht
    · rcases hc with hc | hc
      · exact absurd hnb hc
      · exact H.got a b ha hb' hnb hc
  unfold takeS
  rw [if_neg (by rw [H.kk]; omega), if_neg (fun hh => by rcases hh with hh | hh; exact hh hEp; rw [H.ee] at hh; omega), if_neg (by simpa using henc)]
  by_cases hlt : ((hf h + j : Nat) : Int) < g.e
  · rw [if_pos hlt]
    exact ⟨g, rfl, weak (.inl (by rw [H.ee] at hlt; omega))⟩
  rw [if_neg hlt]
  have hnj : n ≤ j := by rw [H.ee] at hlt; omega
  by_cases hT : T i j
  · rw [H.got i j hi hj hnj hT]
    simp only [if_true]
    exact ⟨g, rfl, weak (.inr hT)⟩
  · have hno : pGet g.ps ((i : Int), ((hf h + j : Nat) : Int)) = none := H.non _ _ fun ⟨x, y, h1, h2, h3, h4, h5, h6⟩ => by
      have e1 : x = i := by omega
      have e2 : y = j := by omega
      rw [e1, e2] at h4
      exact hT h4
    rw [hno]
    refine ⟨_, rfl, ?_⟩
    have htp := H.tp
    refine ⟨H.kk, H.ee, by simp only; split <;> omega, H.le, ?_, fun a b ha hb' hnb ht => ?_, fun a b hab => ?_⟩
    · simp only [List.map_append, List.map_cons, List.map_nil]
      rw [List.nodup_append]
      refine ⟨H.nd, by simp, fun x hx y hy => ?_⟩
      simp at hy
      rw [hy]
      intro e
      rw [e] at hx
      exact pGet_none.1 hno hx
    · simp only
      rw [pGet_append]
      rcases ht with ht | ⟨rfl, rfl⟩
      · rw [H.got a b ha hb' hnb ht]; rfl
      · rw [hno]; simp
    · simp only
      rw [pGet_append, H.non a b fun ⟨x, y, h1, h2, h3, h4, h5, h6⟩ => hab ⟨x, y, h1, h2, h3, .inl h4, h5, h6⟩, if_neg]
      · rfl
      · intro e
        simp only [Prod.mk.injEq] at e
        exact hab ⟨i, j, hi, hj, hnj, .inr ⟨rfl, rfl⟩, e.1.symm, e.2.symm⟩
theorem HInv.new (h : Hist) : HInv h (fun _ _ => False) 0 ⟨hk h, hf h, 0, []⟩ :=
  ⟨rfl, by simp, by have := hf_range h; simp only; omega, Nat.zero_le _, by simp, fun _ _ _ _ _ h => h.elim, fun _ _ _ => rfl⟩
end Go.Proofs.YtjchneebdlncfaaDoor.Mrg
namespace Go.Proofs.YtjchneebdlncfaaDoor.Mrg
open Go Den Fn Lib
open Go.RowKit (Below)
open Classical
set_option maxRecDepth 8000
set_option maxHeartbeats 1000000
theorem cellAt {w : World} {y : Addr} {n c : Nat} {vs : List Value} (h : RSl w 1 (some y) n c vs) {i : Nat} {v : Value} (hv : vs[i]? = some v) : World.cell? w (Addr.add y (i * 1)) = some v := by
  rw [Nat.mul_one]
  rcases h.at' with h' | ⟨b, o, e, hc⟩
  · have := h.cap; have := h.len
    have := (List.getElem?_eq_some_iff.1 hv).1
    omega
  · cases e
    exact hc i v hv
end Go.Proofs.YtjchneebdlncfaaDoor.Mrg
namespace Go.Proofs.YtjchneebdlncfaaDoor.Mrg
open Go Den Fn Lib
open Go.RowKit (Below)
open Classical
set_option maxRecDepth 8000
set_option maxHeartbeats 1000000
/-- Anywhere but in a merger. -/
def Else (mb pb k : Nat) : Prop := k ≠ mb ∧ k ≠ pb
theorem takeH {G : Nat → Prop} (w : World) (mb pb : Nat) (g : Mg) (h : Hist) (T : Nat → Nat → Prop) (n : Nat) (hM : MgAt (Else mb pb) w mb pb g) (H : HInv h T n g) (i j : Nat) (hi : i < hk h) (hj : j < heps h) (a : Option Addr) (m c : Nat) (hB : BatchV G w a m c (hb h i j)) :
    Calls Tryd.prog 56 #[.pointer (some ⟨mb, 0, none⟩), .agg [Value.int .i64 i, .int .i64 ((hf h + j : Nat) : Int), .slice a m c].toArray] w fun e w' => ∃ g', e = .returned (.int .i64 0) ∧ MgAt (Else mb pb) w' mb pb g' ∧ HInv h (fun a b => T a b ∨ (a = i ∧ b = j)) n g' ∧ Tch [mb, pb] w w' := by
  have hkr := hk_range h
  have hfr := hf_range h
  have her := heps_range h
  obtain ⟨hmb, hpb⟩ := hM.lt
  obtain ⟨g', e1, H'⟩ := H.take hi hj hB.ok
  refine (take_c w mb pb g hM i ((hf h + j : Nat) : Int) a m c _ hB (by unfold I64; omega) (by unfold I64; omega)).mono ?_
  rintro e w' ⟨rfl, hM', ht⟩
  rw [e1] at hM' ⊢
  exact ⟨g', rfl, hM'.mono (fun k hk => hk.elim id fun hb => ⟨by have := hb.1; omega, by have := hb.1; omega⟩) ⟨fun h => h.1 rfl, fun h => h.2 rfl⟩, H', ht⟩
/-- The next epoch, where it is whole. -/
theorem nextH {F : Nat → Prop} (w : World) (mb pb : Nat) (g : Mg) (h : Hist) (T : Nat → Nat → Prop) (n : Nat) (hM : MgAt F w mb pb g) (H : HInv h T n g) (hn : n < heps h) (hT : ∀ i, i < hk h → T i n) :
    Calls Tryd.prog 57 #[.pointer (some ⟨mb, 0, none⟩)] w fun e w' => ∃ g' a c, e = .returned (.tuple #[.slice a (hk h) c, .bool true]) ∧ MgAt F w' mb pb g' ∧ HInv h T (n + 1) g' ∧ Tch [mb, pb] w w' ∧
      BatsV F w' a (hk h) c ((List.range (hk h)).map fun i => hb h (rot h n i) n) ∧ (∀ x, a = some x → w.heap.size ≤ x.block) := by
  refine (next_c w mb pb g hM).mono ?_
  rintro e w' ⟨hM', ht, hR⟩
  obtain ⟨g', hnx, H'⟩ := H.next hn hT
  rw [hnx] at hM' hR
  obtain ⟨a, n', c, rfl, hB, hge⟩ := hR
  have := hB.count
  simp at this
  subst this
  exact ⟨g', a, c, rfl, hM', H', ht, hB, hge⟩
theorem noNextH {F : Nat → Prop} (w : World) (mb pb : Nat) (g : Mg) (h : Hist) (T : Nat → Nat → Prop) (n : Nat) (hM : MgAt F w mb pb g) (H : HInv h T n g) (hT : n = heps h ∨ ∃ i, i < hk h ∧ ¬ T i n) :
    Calls Tryd.prog 57 #[.pointer (some ⟨mb, 0, none⟩)] w fun e w' => e = .returned (.tuple #[.slice none 0 0, .bool false]) ∧ MgAt F w' mb pb g ∧ Tch [mb, pb] w w' := by
  refine (next_c w mb pb g hM).mono ?_
  rintro e w' ⟨hM', ht, hR⟩
  rw [H.stay hT] at hM' hR
  exact ⟨hR, hM', ht⟩
/-- A batch of one. -/
theorem single {B : Nat} {u : World} {v : List Value} {y : Tx} (h : TxV (Btw B u.heap.size) u v y) (hB : B ≤ u.heap.size) {K : World → Prop} (hK : ∀ u', BatchV (Btw B u'.heap.size) u' (some ⟨u.heap.size, 0, none⟩) 1 1 [y] → Tch [] u u' → u'.heap.size = u.heap.size + 1 → K u') :
    ∃ cs, fillL (.elems 4) (zrep (zc Tryd.prog 76) (1 * 4)) [(0, .agg v.toArray)] = some cs ∧ ∀ u' : World, u' = World.alloc u (.cells (List.toArray cs) 76) → K u' := by
  refine ⟨v, fill1 (by rw [zcTx]; rfl) rfl h.len, ?_⟩
  rintro u' rfl
  have hn : BlkT (u.alloc (.cells v.toArray 76)) u.heap.size 76 v := BlkT.new u v.toArray 76
  have ht := (Tch.refl [] u).alloc (.cells v.toArray 76)
  have hs := size_alloc u (.cells v.toArray 76)
  refine hK _ ⟨[v], rfl, ?_, fun i z y' hz hy => ?_⟩ ht hs
  · rw [show [v].flatten = v by simp]
    refine (FR.own (hn.own (base := u.heap.size) (size := 4) (n := 1) (Nat.le_refl _) (by have := h.len; omega) (by omega)) h.ones).mono fun k hk => ⟨by have := hk.1; omega, hk.2⟩
  · cases i with
    | succ i => simp at hz
    | zero =>
      cases hz; cases hy
      exact (h.quiet ht).mono fun k hk => ⟨hk.1, by have := hk.2; omega⟩
def H0 : Hist := ⟨1, 0, [[1], [2], [3], []]⟩
theorem hk0 : hk H0 = 2 := by decide
theorem hf0 : hf H0 = 1 := by decide
theorem he0 : heps H0 = 2 := by decide
theorem awake_c (w : World) : Calls Tryd.prog 24 #[] w fun e w' => e = .returned (.bool true) ∧ Tch [] w w' := by
  refine c24 ?_
  unfold d24
  refine (new_mg_c w 2 1 (by omega) (by unfold Ep; omega)).mono ?_
  rintro e w1 ⟨mb, pb, rfl, hM, ht, hmb, hpb⟩
  obtain ⟨lmb, lpb⟩ := hM.lt
  refine ⟨_, _, rfl, _, rfl, _, rfl, ?_⟩
  refine ⟨fun u => u = w1, ?_, ?_⟩
  · rw [bif_npos rfl]
    rfl
  rintro w7 rfl
  replace hM := hM.mono (G := Else mb pb) (fun _ h => h.elim) ⟨fun h => h.1 rfl, fun h => h.2 rfl⟩
  have H : HInv H0 (fun a b => (a, b) ∈ ([(1, 1), (0, 1), (1, 0), (0, 0)] : List (Nat × Nat)).take 0) 0 ⟨2, 1, 0, []⟩ := by
    have := HInv.new H0
    rw [hk0, hf0] at this
    simpa using this
  have hW := ht.size
  refine ⟨[.int .i64 1, .int .i64 2, .slice none 0 0], by rw [zcPiece]; rfl, ?_⟩
  refine (put_c 3 w7 (by unfold I64; omega)).mono ?_
  rintro e w10 ⟨x3, rfl, h3, t1⟩
  have q1 := t1.size
  refine ⟨_, rfl, ?_⟩
  refine single h3 q1 fun w13 b3 t2 s2 => ?_
  refine ⟨[.int .i64 0, .int .i64 2, .slice (some ⟨w10.heap.size, 0, none⟩) 1 1], by rw [zcPiece]; rfl, ?_⟩
  refine (put_c 2 w13 (by unfold I64; omega)).mono ?_
  rintro e w16 ⟨x2, rfl, h2, t3⟩
  have q3 := t3.size
  refine ⟨_, rfl, ?_⟩
  refine single h2 q3 fun w19 b2 t4 s4 => ?_
  refine ⟨[.int .i64 1, .int .i64 1, .slice (some ⟨w16.heap.size, 0, none⟩) 1 1], by rw [zcPiece]; rfl, ?_⟩
  refine (put_c 1 w19 (by unfold I64; omega)).mono ?_
  rintro e w22 ⟨x1, rfl, h1, t5⟩
  have q5 := t5.size
  refine ⟨_, rfl, ?_⟩
  refine single h1 q5 fun w25 b1 t6 s6 => ?_
  refine ⟨[.int .i64 0, .int .i64 1, .slice (some ⟨w22.heap.size, 0, none⟩) 1 1], by rw [zcPiece]; rfl, ?_⟩
  refine ⟨[.int .i64 1, .int .i64 2, .slice none 0 0] ++ [.int .i64 0, .int .i64 2, .slice (some ⟨w10.heap.size, 0, none⟩) 1 1] ++ [.int .i64 1, .int .i64 1, .slice (some ⟨w16.heap.size, 0, none⟩) 1 1] ++ [.int .i64 0, .int .i64 1, .slice (some ⟨w22.heap.size, 0, none⟩) 1 1], by rw [zcPiece]; rfl, ?_⟩
  rintro w28 rfl
  simp only [List.cons_append, List.nil_append]
  have hbk := Blk.fresh w25 (cs := [Value.int .i64 1, .int .i64 2, .slice none 0 0, .int .i64 0, .int .i64 2, .slice (some ⟨w10.heap.size, 0, none⟩) 1 1, .int .i64 1, .int .i64 1, .slice (some ⟨w16.heap.size, 0, none⟩) 1 1, .int .i64 0, .int .i64 1, .slice (some ⟨w22.heap.size, 0, none⟩) 1 1]) 37 rfl
  have t7 := (Tch.refl [] w25).alloc (.cells [Value.int .i64 1, .int .i64 2, .slice none 0 0, .int .i64 0, .int .i64 2, .slice (some ⟨w10.heap.size, 0, none⟩) 1 1, .int .i64 1, .int .i64 1, .slice (some ⟨w16.heap.size, 0, none⟩) 1 1, .int .i64 0, .int .i64 1, .slice (some ⟨w22.heap.size, 0, none⟩) 1 1].toArray 37)
  generalize w25.alloc (.cells [Value.int .i64 1, .int .i64 2, .slice none 0 0, .int .i64 0, .int .i64 2, .slice (some ⟨w10.heap.size, 0, none⟩) 1 1, .int .i64 1, .int .i64 1, .slice (some ⟨w16.heap.size, 0, none⟩) 1 1, .int .i64 0, .int .i64 1, .slice (some ⟨w22.heap.size, 0, none⟩) 1 1].toArray 37) = w28 at *
  have q2 := t2.size
  have q4 := t4.size
  have q6 := t6.size
  have t19 : Tch [] w19 w25 := t5.trans t6 (by simp)
  have t13 : Tch [] w13 w25 := (t3.trans t4 (by simp)).trans t19 (by simp)
  have t77 : Tch [] w7 w28 := ((t1.trans t2 (by simp)).trans t13 (by simp)).trans t7 (by simp)
  replace hM := hM.quiet t77
  have elseOf : ∀ {A B k : Nat}, w7.heap.size ≤ A → Btw A B k → Else mb pb k := fun hA hb => ⟨by have := hb.1; omega, by have := hb.1; omega⟩
  have B3 : BatchV (Else mb pb) w28 (some ⟨w10.heap.size, 0, none⟩) 1 1 (hb H0 0 1) := ((b3.quiet t13).quiet t7).mono fun k hk => elseOf (Nat.le_refl _) hk
  have B2 : BatchV (Else mb pb) w28 (some ⟨w16.heap.size, 0, none⟩) 1 1 (hb H0 1 0) := ((b2.quiet t19).quiet t7).mono fun k hk => elseOf (by omega) hk
  have B1 : BatchV (Else mb pb) w28 (some ⟨w22.heap.size, 0, none⟩) 1 1 (hb H0 0 0) := (b1.quiet t7).mono fun k hk => elseOf (by omega) hk
  have B0 : BatchV (Else mb pb) w28 none 0 0 (hb H0 1 1) := BatchV.nil _ _
  have tw : Tch [] w w28 := ht.trans t77 (by simp)
  have hb25 : mb ≠ w25.heap.size ∧ pb ≠ w25.heap.size := by omega
  generalize w25.heap.size = bk at *
  have old : ∀ {u : World}, Tch [mb, pb] w28 u → Tch [] w u := fun ht => tw.trans ht fun i hi => .inr (by simp at hi; omega)
  refine ⟨fun m x u => ∃ (i : Nat) (g : Mg), x = i ∧ i ≤ 4 ∧ m = 4 - i ∧ MgAt (Else mb pb) u mb pb g ∧ HInv H0 (fun a b => (a, b) ∈ ([(1, 1), (0, 1), (1, 0), (0, 0)] : List (Nat × Nat)).take i) 0 g ∧ Tch [mb, pb] w28 u, ⟨4, 0, _, rfl, by omega, rfl, hM, H, Tch.refl _ _⟩, ?_⟩
  clear hM H
  rintro m w31 x ⟨i, g, rfl, hi, rfl, hM, H, tu⟩
  have hbu := hbk.tch tu (by simp; omega)
  by_cases hlt : i < 4
  · rw [bif_pos (by omega)]
    refine ⟨by omega, by omega, ?_⟩
    rw [Int.toNat_natCast]
    have keep : ∀ {a : Option Addr} {n c : Nat} {l : List Tx}, BatchV (Else mb pb) w28 a n c l → BatchV (Else mb pb) w31 a n c l := fun h => h.tch tu fun k hk hh => by
      simp at hk
      rcases hk with rfl | rfl
      · exact hh.1 rfl
      · exact hh.2 rfl
    have body : ∀ (p j : Nat) (a : Option Addr) (n c : Nat), p < 2 → j < 2 → ([(1, 1), (0, 1), (1, 0), (0, 0)] : List (Nat × Nat))[i]? = some (p, j) → BatchV (Else mb pb) w28 a n c (hb H0 p j) → (([Value.int .i64 1, .int .i64 2, .slice none 0 0, .int .i64 0, .int .i64 2, .slice (some ⟨w10.heap.size, 0, none⟩) 1 1, .int .i64 1, .int .i64 1, .slice (some ⟨w16.heap.size, 0, none⟩) 1 1, .int .i64 0, .int .i64 1, .slice (some ⟨w22.heap.size, 0, none⟩) 1 1] : List Value).drop (i * 3)).take 3 = [Value.int .i64 p, .int .i64 ((hf H0 + j : Nat) : Int), .slice a n c] →
        ∃ cs33 : List Value, List.length cs33 = 3 ∧ Cells w31 (Addr.add ⟨bk, 0, none⟩ (i * 3)) cs33 ∧ Calls Tryd.prog 56 #[.pointer (some ⟨mb, 0, none⟩), .agg (List.toArray cs33)] w31 fun e34 w35 => ∃ x36 : Int, e34 = .returned (.int .i64 x36) ∧
          (bif (!decide (x36 = 0)) then (Ending.returned (.bool false) = .returned (.bool true) ∧ Tch [] w w35)
          else ∃ m37, m37 < 4 - i ∧ ∃ (i' : Nat) (g : Mg), IntKind.wrap .i64 ((i : Int) + 1) = i' ∧ i' ≤ 4 ∧ m37 = 4 - i' ∧ MgAt (Else mb pb) w35 mb pb g ∧ HInv H0 (fun a b => (a, b) ∈ ([(1, 1), (0, 1), (1, 0), (0, 0)] : List (Nat × Nat)).take i') 0 g ∧ Tch [mb, pb] w28 w35) := fun p j a n c hp hj hij hB hcs => by
      refine get_part hbu (i * 3) 3 _ hcs rfl ?_
      refine (takeH w31 mb pb g H0 _ 0 hM H p j (by rw [hk0]; exact hp) (by rw [he0]; exact hj) a n c (keep hB)).mono ?_
      rintro e w35 ⟨g', rfl, hM', H', t'⟩
      refine ⟨_, rfl, ?_⟩
      rw [bif_npos rfl]
      refine ⟨4 - (i + 1), by omega, i + 1, g', by rw [wrap_i64 (by omega) (by omega)]; omega, by omega, rfl, hM', ?_, tu.trans t' fun i hi => .inl hi⟩
      have e2 : (fun a b => (a, b) ∈ ([(1, 1), (0, 1), (1, 0), (0, 0)] : List (Nat × Nat)).take (i + 1)) = (fun a b => (a, b) ∈ ([(1, 1), (0, 1), (1, 0), (0, 0)] : List (Nat × Nat)).take i ∨ (a = p ∧ b = j)) := by
        funext a b
        rw [List.take_add_one, hij]
        simp
      rw [e2]
      exact H'
    rcases (show i = 0 ∨ i = 1 ∨ i = 2 ∨ i = 3 by omega) with rfl | rfl | rfl | rfl
    · exact body 1 1 none 0 0 (by omega) (by omega) rfl B0 (by rw [hf0]; rfl)
    · exact body 0 1 _ 1 1 (by omega) (by omega) rfl B3 (by rw [hf0]; rfl)
    · exact body 1 0 _ 1 1 (by omega) (by omega) rfl B2 (by rw [hf0]; rfl)
    · exact body 0 0 _ 1 1 (by omega) (by omega) rfl B1 (by rw [hf0]; rfl)
  rw [bif_neg (by omega)]
  obtain rfl : i = 4 := by omega
  have hT : ∀ n, n < 2 → ∀ i, i < hk H0 → (i, n) ∈ ([(1, 1), (0, 1), (1, 0), (0, 0)] : List (Nat × Nat)).take 4 := fun n hn i hi => by
    rw [hk0] at hi
    rcases (show n = 0 ∨ n = 1 by omega) with rfl | rfl <;> rcases (show i = 0 ∨ i = 1 by omega) with rfl | rfl <;> decide
  refine (nextH w31 mb pb g H0 _ 0 hM H (by rw [he0]; omega) (hT 0 (by omega))).mono ?_
  rintro e w39 ⟨g1, a1, c1, rfl, hM, H, u1, ⟨vs1, r1, l1⟩, ge1⟩
  refine ⟨_, _, _, _, rfl, _, _, _, rfl, _, rfl, ?_⟩
  refine (nextH w39 mb pb g1 H0 _ 1 hM H (by rw [he0]; omega) (hT 1 (by omega))).mono ?_
  rintro e w45 ⟨g2, a2, c2, rfl, hM, H, u2, ⟨vs2, r2, l2⟩, ge2⟩
  refine ⟨_, _, _, _, rfl, _, _, _, rfl, _, rfl, ?_⟩
  refine (noNextH w45 mb pb g2 H0 _ 2 hM H (.inl (by rw [he0]))).mono ?_
  rintro e w51 ⟨rfl, hM, u3⟩
  refine ⟨_, _, _, _, rfl, _, _, _, rfl, _, rfl, ?_⟩
  have s31 := tu.size
  have s39 := u1.size
  have s45 := u2.size
  have nF : ∀ k ∈ [mb, pb], ¬ Else mb pb k := fun k hk hh => by
    simp at hk
    rcases hk with rfl | rfl
    · exact hh.1 rfl
    · exact hh.2 rfl
  have f1 : Off [mb, pb] a1 := fun x hx hm => by have := ge1 x hx; have := t77.size; simp at hm; omega
  have f2 : Off [mb, pb] a2 := fun x hx hm => by have := ge2 x hx; have := t77.size; simp at hm; omega
  replace r1 := (r1.tch u2 f1).tch u3 f1
  replace r2 := r2.tch u3 f2
  replace l1 := (l1.tch u2 nF).tch u3 nF
  replace l2 := l2.tch u3 nF
  have tt : Tch [] w w51 := old (((tu.trans u1 fun i hi => .inl hi).trans u2 fun i hi => .inl hi).trans u3 fun i hi => .inl hi)
  rw [hk0] at r1 r2 l1 l2
  refine ⟨fun u => u = w51, ?_, ?_⟩
  · show Calls _ _ _ _ _
    refine (epochOf_c w51 mb pb g2 hM).mono ?_
    rintro e w58 ⟨rfl, rfl⟩
    refine ⟨_, rfl, ?_⟩
    rw [bif_npos (show g2.e = 3 by rw [H.ee, hf0]; rfl), hk0, bif_npos (show ((2 : Nat) : Int) = 2 from rfl), bif_npos (show ((2 : Nat) : Int) = 2 from rfl)]
  rintro w60 rfl
  rintro w61 rfl
  replace tt := tt.drew
  have td := (Tch.refl [] w60).drew
  replace r1 := r1.tch td (fun _ _ h => by cases h)
  replace r2 := r2.tch td (fun _ _ h => by cases h)
  replace l1 := l1.tch td (by simp)
  replace l2 := l2.tch td (by simp)
  generalize w60.drew = w61 at *
  rw [hk0]
  obtain ⟨y1, m1, d1, v1, P1⟩ := l1.get (i := 0) (l := [putTx 1]) rfl
  obtain ⟨y2, m2, d2, v2, P2⟩ := l1.get (i := 1) (l := [putTx 2]) rfl
  obtain ⟨y3, m3, d3, v3, P3⟩ := l2.get (i := 0) (l := []) rfl
  obtain ⟨y4, m4, d4, v4, P4⟩ := l2.get (i := 1) (l := [putTx 3]) rfl
  have small : ∀ v, Smalls [putTx v] := fun v => ⟨by simp, fun x hx => by simp at hx; rw [hx]; unfold Sm putTx; simp⟩
  cases a1 with
  | none => have := (rsl_none r1).1; omega
  | some x1 =>
  cases a2 with
  | none => have := (rsl_none r2).1; omega
  | some x2 =>
  refine ⟨by omega, by decide, y1, m1, d1, cellAt r1 v1, ?_⟩
  refine (put_c 1 w61 (by unfold I64; omega)).mono ?_
  rintro e w65 ⟨p1, rfl, h1', t1'⟩
  have q1' := t1'.size
  refine ⟨_, rfl, ⟨y1, m1, d1, cellAt (r1.tch t1' (fun _ _ h => by cases h)) v1, by constructor <;> first | rfl | trivial⟩, ?_⟩
  refine single h1' q1' fun w69 b1' t2' _ => ?_
  have T1 := t1'.trans t2' (by simp)
  refine ⟨⟨y1, m1, d1, cellAt (r1.tch T1 (fun _ _ h => by cases h)) v1, by constructor <;> first | rfl | trivial⟩, ?_⟩
  refine (sameBatch_c w69 y1 _ m1 d1 1 1 _ _ (P1.quiet T1) b1' (small 1)).mono ?_
  rintro e w72 ⟨rfl, t3'⟩
  refine ⟨_, rfl, ?_⟩
  rw [bif_pos rfl]
  have T2 := T1.trans t3' (by simp)
  refine ⟨by omega, by decide, y2, m2, d2, cellAt (r1.tch T2 (fun _ _ h => by cases h)) v2, ?_⟩
  refine (put_c 2 w72 (by unfold I64; omega)).mono ?_
  rintro e w77 ⟨p2, rfl, h2', t4'⟩
  have q2' := t4'.size
  have T3 := T2.trans t4' (by simp)
  refine ⟨_, rfl, ⟨y2, m2, d2, cellAt (r1.tch T3 (fun _ _ h => by cases h)) v2, by constructor <;> first | rfl | trivial⟩, ?_⟩
  refine single h2' q2' fun w81 b2' t5' _ => ?_
  have T4 := T3.trans t5' (by simp)
  refine ⟨⟨y2, m2, d2, cellAt (r1.tch T4 (fun _ _ h => by cases h)) v2, by constructor <;> first | rfl | trivial⟩, ?_⟩
  refine (sameBatch_c w81 y2 _ m2 d2 1 1 _ _ (P2.quiet T4) b2' (small 2)).mono ?_
  rintro e w84 ⟨rfl, t6'⟩
  refine ⟨_, rfl, ?_⟩
  rw [bif_pos rfl]
  have T5 := T4.trans t6' (by simp)
  refine ⟨by omega, by decide, y3, m3, d3, cellAt (r2.tch T5 (fun _ _ h => by cases h)) v3, ?_⟩
  have hm3 := P3.count
  simp at hm3
  subst hm3
  rw [bif_pos (by decide)]
  refine ⟨by omega, by decide, y4, m4, d4, cellAt (r2.tch T5 (fun _ _ h => by cases h)) v4, ?_⟩
  refine (put_c 3 w84 (by unfold I64; omega)).mono ?_
  rintro e w91 ⟨p3, rfl, h3', t7'⟩
  have q3' := t7'.size
  have T6 := T5.trans t7' (by simp)
  refine ⟨_, rfl, ⟨y4, m4, d4, cellAt (r2.tch T6 (fun _ _ h => by cases h)) v4, by constructor <;> first | rfl | trivial⟩, ?_⟩
  refine single h3' q3' fun w95 b3' t8' _ => ?_
  have T7 := T6.trans t8' (by simp)
  refine ⟨⟨y4, m4, d4, cellAt (r2.tch T7 (fun _ _ h => by cases h)) v4, by constructor <;> first | rfl | trivial⟩, ?_⟩
  refine (sameBatch_c w95 y4 _ m4 d4 1 1 _ _ (P4.quiet T7) b3' (small 3)).mono ?_
  rintro e w98 ⟨rfl, t9'⟩
  refine ⟨_, rfl, ?_, (tt.trans T7 (by simp)).trans t9' (by simp)⟩
  rw [decide_eq_true rfl]
end Go.Proofs.YtjchneebdlncfaaDoor.Mrg
namespace Go.Proofs.YtjchneebdlncfaaDoor.Frm
open Go Den Fn Lib
open Go.RowKit (Below)
open Classical
set_option maxRecDepth 8000
set_option maxHeartbeats 8000000
theorem tdiv2 {L : Nat} (h : L ≤ 140737488355328) : IntKind.wrap .i64 (Int.tdiv ((L : Nat) : Int) 2) = ((L / 2 : Nat) : Int) := by
  rw [Int.tdiv_eq_ediv_of_nonneg (by omega), wrap_i64 (by omega) (by omega)]
  omega
theorem smalls_of {l : List Tx} (h : (encB l).2 = 0) : Smalls l := by
  have hg := (encB_zero l).1 h
  exact ⟨by omega, fun x hx => by
    obtain ⟨_, g3, g4, g5, _⟩ := hg.2 x hx
    exact ⟨by omega, by omega, by omega⟩⟩
/-- A byte of bytes of one's own is written. -/
theorem own_put {w : World} {base e n c : Nat} {a : Option Addr} {bs : List Int} (h : w.ownsRow base e 1 (.slice a n c) n (u8 bs)) {i : Nat} (hi : i < n) {v : Int} {K : World → Prop}
    (hK : ∀ w', RSl w' 1 a n c (u8 (bs.set i v)) → Tch (rowL a) w w' → K w') :
    optK a fun y => one (.int .u8 v) = true ∧ Option.isSome (World.cell? w (Addr.add y (i * 1))) = true ∧ World.frozen? w (Addr.add y (i * 1)) = false ∧ ∀ w' : World, w' = World.setCell w (Addr.add y (i * 1)) (.int .u8 v) → K w' := by
  have hbl : bs.length = n := u8_len (own_rsl h ones_ints)
  obtain ⟨hl, ⟨h1, h2⟩ | ⟨g, cap, cur, h1, hg, hh, h3, h4, h5, h6⟩⟩ := h
  · cases h1
    omega
  · cases h1
    have hB : Blk w g cur.toList := ⟨_, by simpa using hh⟩
    have hcl : n ≤ cur.toList.length := by
      have := congrArg List.length h6
      rw [List.length_take, List.length_map] at this
      omega
    show one _ = true ∧ Option.isSome (World.cell? w (Addr.add ⟨g, 0, none⟩ (i * 1))) = true ∧ World.frozen? w (Addr.add ⟨g, 0, none⟩ (i * 1)) = false ∧ ∀ w' : World, w' = World.setCell w (Addr.add ⟨g, 0, none⟩ (i * 1)) _ → K w'
    refine put_cell' hB (i * 1) (by omega) rfl fun w' h' t' _ => ?_
    refine hK w' ⟨h3, by simp [hbl], ones_ints, .inr ⟨g, 0, rfl, fun j u hu => ?_⟩⟩ t'
    rw [add_mk, Nat.zero_add, h'.cell]
    have hj : j < n := by have := (List.getElem?_eq_some_iff.1 hu).1; simpa [hbl] using this
    have e1 : u8 (bs.set i v) = (cur.toList.set (i * 1) (Value.int .u8 v)).take n := by
      have h6' : cur.toList.take n = u8 bs := by simpa using h6
      rw [List.take_set, h6', Nat.mul_one]
      simp [List.map_set]
    rw [e1, List.getElem?_take_of_lt hj] at hu
    exact hu
theorem forms_c {F : Nat → Prop} (w : World) (i n : Int) (ta : Option Addr) (tn tc : Nat) (l : List Tx) (h : BatchV F w ta tn tc l) (wa : Option Addr) (wn wc : Nat) (ws : List (Int × Int)) (hw : RSl w 2 wa wn wc (rows kC ws)) (hwk : ∀ k ∈ ws, kI k) (hwn : wn ≤ 8796093022208)
    (ba : Option Addr) (bn bc : Nat) (bs : List Int) (hb : RSl w 1 ba bn bc (u8 bs)) (hB : Bytes bs) (hN : bn ≤ 140737488351232) (hT : Tab w) :
    Calls Tryd.prog 5 #[.agg #[.int .i64 i, .int .i64 n, .slice ta tn tc], .slice wa wn wc, .slice ba bn bc] w fun e w' => e = .returned (.bool true) ∧ Tch [] w w' := by
  have hbl := u8_len hb
  have hok := h.ok
  refine c5 _ _ _ _ _ _ _ ?_
  unfold d5
  rintro w3 rfl
  have hP : Blk _ _ [Value.int .i64 i, .int .i64 n, .slice ta tn tc] := Blk.fresh w (cs := [Value.int .i64 i, .int .i64 n, .slice ta tn tc]) 37 rfl
  have q3 := (Tch.refl [] w).alloc (.cells #[Value.int .i64 i, .int .i64 n, .slice ta tn tc] 37)
  have s3 := size_alloc w (.cells #[Value.int .i64 i, .int .i64 n, .slice ta tn tc] 37)
  generalize w.alloc (.cells #[Value.int .i64 i, .int .i64 n, .slice ta tn tc] 37) = w3 at *
  refine (Mrg.awake_c w3).mono ?_
  rintro e w5 ⟨rfl, t5⟩
  have q5 := q3.trans t5 (by simp)
  have hP5 := hP.tch t5 (by simp)
  refine ⟨_, rfl, ?_⟩
  rw [show (!true) = false from rfl, cond_false]
  refine get_all hP5 rfl ?_
  refine (encPiece_c w5 i n ta tn tc l (h.quiet q5) (hT.since q5)).mono ?_
  rintro e w9 ⟨xa, xc, rfl, hx, t9⟩
  have q9 := q5.trans t9 (by simp)
  have hP9 := hP5.tch t9 (by simp)
  have hxl := pieceE_len i n l
  refine ⟨_, _, _, _, rfl, _, _, _, rfl, _, rfl, fun u => Tch [] w u, ?_, ?_⟩
  · by_cases hE : (pieceE i n l).2 = 0
    rotate_left
    · rw [bif_neg hE]; exact q9
    rw [bif_pos hE]
    obtain ⟨n1, n2, n3⟩ := pieceE_some hE
    obtain ⟨pd, pw⟩ := piece_there hok hE
    have hSm := smalls_of n2
    have hXB : Bytes (pieceE i n l).1 := by rw [n3]; exact sealS_bytes (by omega) ((twoB_bytes _ _).append (encB_bytes n2))
    have hlen16 : 16 ≤ (pieceE i n l).1.length := by
      have := (piece_changed hok hE (v := if (pieceE i n l).1.getD ((pieceE i n l).1.length / 2) 0 = 0 then 1 else 0) (by split <;> omega) (by split <;> omega)).2
      exact this
    refine (decPiece_c w9 _ xa _ xc (own_rsl hx ones_ints) hXB (by omega) (hT.since q9)).mono ?_
    rw [pd]
    rintro e w16 ⟨t16, qa, qk, qc, rfl, hq⟩
    have q16 := q9.trans t16 (by simp)
    refine ⟨_, _, rfl, _, rfl, _, rfl, ?_⟩
    refine var_init (n := 3) (new := [.int .i64 i, .int .i64 n, .slice qa qk qc]) (by rw [zcPiece]; rfl) rfl (by simp [one]) fun w21 w22 hQ t22 s22 => ?_
    have q22 := q16.trans t22 (by simp)
    have hx22 := own_up (own_up hx t16 (fun _ _ h => by cases h)) t22 (fun _ _ h => by cases h)
    refine (decWants_c w22 _ xa _ xc (own_rsl hx22 ones_ints) hXB (by omega) (hT.since q22)).mono ?_
    rw [pw]
    rintro e w24 ⟨t24, rfl⟩
    have q24 := q22.trans t24 (by simp)
    have t922 := t16.trans t22 (by simp)
    have t924 := t922.trans t24 (by simp)
    refine ⟨_, _, _, _, rfl, _, _, _, rfl, _, rfl, fun u => Tch [] w24 u, ?_, ?_⟩
    · rw [bif_npos rfl, bif_npos rfl]
      refine get_all (hP9.tch t924 (by simp)) rfl (get_all (hQ.tch t24 (by simp)) rfl ?_)
      refine (samePiece_c w24 i n i n ta qa tn tc qk qc l l (h.quiet q24) ((hq.quiet t22).quiet t24) hSm).mono ?_
      rintro e w33 ⟨rfl, t33⟩
      refine ⟨_, rfl, ?_⟩
      rw [bif_npos ⟨rfl, rfl, rfl⟩, bif_neg (by omega)]
      exact t33
    intro w35 t35
    have hx35 := own_up (own_up hx22 t24 (fun _ _ h => by cases h)) t35 (fun _ _ h => by cases h)
    have q35 := q24.trans t35 (by simp)
    rw [tdiv2 (by omega)]
    rw [Int.toNat_natCast]
    refine ⟨by omega, by omega, by omega, ?_⟩
    refine elem8 (own_rsl hx35 ones_ints) (by omega) ?_
    refine ⟨by omega, by omega, ?_⟩
    refine own_put hx35 (by omega) fun w39 hr39 t39 => ?_
    have hge : ∀ z ∈ rowL xa, w.heap.size ≤ z := fun z hz => Nat.le_trans q5.size (rowL_ge hx z hz).1
    have q39 := q35.trans t39 fun z hz => .inr (hge z hz)
    have hby := byte_of hXB ((pieceE i n l).1.length / 2)
    have hv := wrap_u8_byte ((pieceE i n l).1.getD ((pieceE i n l).1.length / 2) 0 + 1)
    have hne : IntKind.wrap .u8 ((pieceE i n l).1.getD ((pieceE i n l).1.length / 2) 0 + 1) ≠ (pieceE i n l).1.getD ((pieceE i n l).1.length / 2) 0 := by
      rw [wrap_u8_eq]
      omega
    have hch := (piece_changed hok hE hv hne).1
    refine (decPiece_c w39 _ xa _ xc hr39 (hXB.set _ hv) (by omega) (hT.since q39)).mono ?_
    rw [hch]
    rintro e w41 ⟨t41, rfl⟩
    refine ⟨_, _, rfl, _, rfl, _, rfl, ?_⟩
    rw [bif_npos rfl]
    exact q39.trans t41 (by simp)
  clear hx hP9 hP5 hP hxl
  intro w46 q46
  have hw46 := hw.tch q46 (fun _ _ h => by cases h)
  refine (encWants_c w46 wa wn wc ws hw46 (hT.since q46)).mono ?_
  rintro e w48 ⟨ya, yc, rfl, hy, t48⟩
  have q48 := q46.trans t48 (by simp)
  have hyl := wantsE_len ws
  refine ⟨_, _, _, _, rfl, _, _, _, rfl, _, rfl, fun u => Tch [] w u, ?_, ?_⟩
  · by_cases hE : (wantsE ws).2 = 0
    rotate_left
    · rw [bif_neg hE]; exact q48
    rw [bif_pos hE]
    obtain ⟨pw, pd⟩ := wants_there hE
    obtain ⟨_, _, n3⟩ := wantsE_some hE
    have hYB : Bytes (wantsE ws).1 := by rw [n3]; exact sealS_bytes (by omega) ((uv_bytes _).append (wB_bytes _))
    refine (decWants_c w48 _ ya _ yc (own_rsl hy ones_ints) hYB (by omega) (hT.since q48)).mono ?_
    rw [pw]
    rintro e w55 ⟨t55, ma, mc, rfl, hm⟩
    have q55 := q48.trans t55 (by simp)
    refine ⟨_, _, _, _, rfl, _, _, _, rfl, _, rfl, ?_⟩
    have hy55 := own_up hy t55 (fun _ _ h => by cases h)
    refine (decPiece_c w55 _ ya _ yc (own_rsl hy55 ones_ints) hYB (by omega) (hT.since q55)).mono ?_
    rw [pd]
    rintro e w61 ⟨t61, rfl⟩
    have q61 := q55.trans t61 (by simp)
    refine ⟨_, _, rfl, _, rfl, _, rfl, ?_⟩
    refine var_init (n := 3) (new := [.int .i64 0, .int .i64 0, .slice none 0 0]) (by rw [zcPiece]; rfl) rfl (by simp [one]) fun w66 w67 hQ t67 s67 => ?_
    have q67 := q61.trans t67 (by simp)
    rw [bif_npos rfl, bif_npos rfl]
    refine (sameWants_c w67 ws ws wa ma wn wc _ mc (hw.tch q67 (fun _ _ h => by cases h)) (((own_rsl hm kCs_ones).tch t61 (fun _ _ h => by cases h)).tch t67 (fun _ _ h => by cases h)) hwk hwk (by omega)).mono ?_
    rintro e w69 ⟨rfl, t69⟩
    refine ⟨_, rfl, ?_⟩
    rw [bif_npos rfl]
    exact q67.trans t69 (by simp)
  clear hy hyl
  intro w71 q71
  refine (decPiece_c w71 bs ba bn bc (hb.tch q71 (fun _ _ h => by cases h)) hB (by omega) (hT.since q71)).mono ?_
  intro e w73 hO
  obtain ⟨t73, qa, qk, qc, rfl, hq⟩ := PieceO.out hO
  clear hO
  have q73 := q71.trans t73 (by simp)
  refine ⟨_, _, rfl, _, rfl, _, rfl, ?_⟩
  refine var_init (n := 3) (by rw [zcPiece]; rfl) pcC_len pcC_ones fun w78 w79 hQ t79 s79 => ?_
  have q79 := q73.trans t79 (by simp)
  refine ⟨fun u => Tch [] w u, ?_, ?_⟩
  · cases hD : pieceD bs with
    | none => rw [bif_neg (by simp [pcE])]; exact q79
    | some z =>
      obtain ⟨i', n', l'⟩ := z
      rw [hD] at hq hQ
      have hpb := piece_back hB hD
      rw [bif_pos (show pcE (some (i', n', l')) = 0 from rfl)]
      refine get_all hQ rfl ?_
      refine (encPiece_c w79 i' n' qa qk qc l' ((hq (by simp)).quiet t79) (hT.since q79)).mono ?_
      rw [hpb]
      rintro e w83 ⟨za, zc', rfl, hz, t83⟩
      have q83 := q79.trans t83 (by simp)
      refine ⟨_, _, _, _, rfl, _, _, _, rfl, _, rfl, ?_⟩
      rw [bif_npos rfl]
      refine (sameBytes_c w83 bs bs za ba _ zc' bn bc (own_rsl hz ones_ints) (hb.tch q83 (fun _ _ h => by cases h)) (by simp only; omega)).mono ?_
      rintro e w89 ⟨rfl, t89⟩
      refine ⟨_, rfl, ?_⟩
      rw [bif_npos rfl]
      exact q83.trans t89 (by simp)
  clear hq hQ
  intro w91 q91
  refine (decWants_c w91 bs ba bn bc (hb.tch q91 (fun _ _ h => by cases h)) hB (by omega) (hT.since q91)).mono ?_
  intro e w93 hO
  obtain ⟨t93, ma, mc, rfl, hm⟩ := WantsO.out hO
  clear hO
  have q93 := q91.trans t93 (by simp)
  refine ⟨_, _, _, _, rfl, _, _, _, rfl, _, rfl, ?_⟩
  cases hD : wantsD bs with
  | none => rw [bif_neg (by simp [wtE])]; exact ⟨rfl, q93⟩
  | some l' =>
    rw [hD] at hm
    have hpb := wants_back hB hD
    rw [bif_pos (show wtE (some l') = 0 from rfl)]
    refine (encWants_c w93 ma _ mc l' (own_rsl hm kCs_ones) (hT.since q93)).mono ?_
    rw [hpb]
    rintro e w99 ⟨za, zc', rfl, hz, t99⟩
    have q99 := q93.trans t99 (by simp)
    refine ⟨_, _, _, _, rfl, _, _, _, rfl, _, rfl, ?_⟩
    rw [bif_pos rfl]
    refine (sameBytes_c w99 bs bs za ba _ zc' bn bc (own_rsl hz ones_ints) (hb.tch q99 (fun _ _ h => by cases h)) (by simp only; omega)).mono ?_
    rintro e w105 ⟨rfl, t105⟩
    exact ⟨_, rfl, by simp, q99.trans t105 (by simp)⟩
end Go.Proofs.YtjchneebdlncfaaDoor.Frm
namespace Go.Proofs.YtjchneebdlncfaaDoor.Den
open Go Go.ChangeShapes Go.WideShapes Go.ChangeAt Go.RowKit
variable {H : Type} {enc : TypeId × Value → H} {P : Program}
def fieldsC (P : Program) (f : TypeId → Option (List CK)) : List Field → Nat → Option (List CK)
  | [], _ => some []
  | x :: r, o =>
    match f x.type with
    | some l =>
      if x.offset = o ∧ P.cellsOf x.type = l.length then
        match fieldsC P f r (o + l.length) with
        | some l' => some (l ++ l')
        | none => none
      else none
    | none => none
theorem mapM_cons_some {α β : Type} {g : α → Option β} {x : α} {l : List α} {ys : List β} (h : (x :: l).mapM g = some ys) : ∃ y r, g x = some y ∧ l.mapM g = some r ∧ ys = y :: r := by
  rw [List.mapM_cons] at h
  cases hx : g x with
  | none => rw [hx] at h; cases h
  | some y =>
    rw [hx] at h
    cases hr : l.mapM g with
    | none => rw [hr] at h; cases h
    | some r => rw [hr] at h; cases h; exact ⟨y, r, rfl, rfl, rfl⟩
theorem mapM_all {α β : Type} {g : α → Option β} : ∀ {l : List α} {ys : List β}, l.mapM g = some ys → ys.length = l.length ∧ ∀ x ∈ l, ∃ y, g x = some y
  | [], ys, h => by
    simp at h
    subst h
    exact ⟨rfl, by simp⟩
  | x :: l, ys, h => by
    obtain ⟨y, r, h1, h2, rfl⟩ := mapM_cons_some h
    obtain ⟨h3, h4⟩ := mapM_all h2
    exact ⟨by simp [h3], fun z hz => by
      rcases List.mem_cons.1 hz with rfl | hz
      · exact ⟨y, h1⟩
      · exact h4 z hz⟩
theorem cells?_spec {w : World} {base : Nat} {a : Addr} {n : Nat} {cs : List Value} (h : w.cells? base a n = some cs) : cs.length = n ∧ ∀ i v, cs[i]? = some v → w.cell? (a.add i) = some v := by
  unfold World.cells? at h
  split at h
  · obtain ⟨h1, h2⟩ := mapM_all h
    refine ⟨by simpa using h1, fun i v hv => ?_⟩
    have key : ∀ (l : List Nat) (cs : List Value), l.mapM (fun i => w.cell? (a.add i)) = some cs → ∀ (j k : Nat) (u : Value), l[j]? = some k → cs[j]? = some u → w.cell? (a.add k) = some u := by
      intro l
      induction l with
      | nil => intro cs _ j k u hj _; simp at hj
      | cons x l ih =>
        intro cs hcs j k u hj hu
        obtain ⟨y, r, h1, h2, rfl⟩ := mapM_cons_some hcs
        cases j with
        | zero => simp at hj hu; subst hj; subst hu; exact h1
        | succ j => exact ih r h2 j k u (by simpa using hj) (by simpa using hu)
    have hi : i < n := by have := (List.getElem?_eq_some_iff.1 hv).1; simp at h1; omega
    exact key _ _ h i i v (by simp [hi]) hv
  · cases h
theorem cell_spot {w : World} {a : Addr} {v : Value} (h : w.cell? a = some v) : a.spot = none := by
  unfold World.cell? at h
  split at h
  · split at h
    · cases h
    · rename_i hs
      simpa using hs
  · cases h
theorem rows_id (rs : List (List Value)) : rows id rs = rs.flatten := by simp [rows]
end Go.Proofs.YtjchneebdlncfaaDoor.Den
namespace Go.Proofs.YtjchneebdlncfaaDoor.Den
open Go Go.ChangeShapes Go.WideShapes Go.ChangeAt Go.RowKit
variable {H : Type} {enc : TypeId × Value → H} {P : Program}
/-- As RepV, with a bound of one's own. -/
def RepB (M : Nat) (w : World) : Nat → CK → Value → Prop
  | _, .int k, v => fit (.int k) v
  | _, .bool, v => fit .bool v
  | _, .str, v => fit .str v
  | 0, .sl _, _ => False
  | d + 1, .sl e, v => ∃ (a : Option Addr) (n c : Nat) (rs : List (List Value)), v = .slice a n c ∧ rs.length = n ∧ c ≤ M ∧ RSl w e.length a n c rs.flatten ∧ (∀ r ∈ rs, RepL (RepB M w d) e r)
theorem RepB.one {M : Nat} {w : World} : ∀ {d : Nat} {k : CK} {v : Value}, RepB M w d k v → one v = true
  | 0, .int _, v, h => by cases v <;> first | rfl | exact h.elim
  | 0, .bool, v, h => by cases v <;> first | rfl | exact h.elim
  | 0, .str, v, h => by cases v <;> first | rfl | exact h.elim
  | 0, .sl _, _, h => h.elim
  | _ + 1, .int _, v, h => by cases v <;> first | rfl | exact h.elim
  | _ + 1, .bool, v, h => by cases v <;> first | rfl | exact h.elim
  | _ + 1, .str, v, h => by cases v <;> first | rfl | exact h.elim
  | d + 1, .sl e, v, h => by
    obtain ⟨a, n, c, rs, rfl, _⟩ := h
    rfl
theorem RepB.up {M : Nat} {w : World} : ∀ {d : Nat} {k : CK} {v : Value}, RepB M w d k v → RepB M w (d + 1) k v
  | 0, .int _, _, h => h
  | 0, .bool, _, h => h
  | 0, .str, _, h => h
  | 0, .sl _, _, h => h.elim
  | _ + 1, .int _, _, h => h
  | _ + 1, .bool, _, h => h
  | _ + 1, .str, _, h => h
  | d + 1, .sl e, v, h => by
    obtain ⟨a, n, c, rs, rfl, h1, h2, h3, h4⟩ := h
    exact ⟨a, n, c, rs, rfl, h1, h2, h3, fun r hr => (h4 r hr).mono fun _ _ => RepB.up⟩
theorem RepBs.ones {M : Nat} {w : World} {d : Nat} : ∀ {ks : List CK} {vs : List Value}, RepL (RepB M w d) ks vs → ∀ u ∈ vs, Den.one u = true
  | [], [], _, u, hu => by simp at hu
  | k :: ks, v :: vs, h, u, hu => by
    rcases List.mem_cons.1 hu with rfl | hu
    · exact RepB.one h.1
    · exact RepBs.ones h.2 u hu
  | [], _ :: _, h, _, _ => h.elim
  | _ :: _, [], h, _, _ => h.elim
theorem RepB.int {M : Nat} {w : World} {d : Nat} {k : IntKind} {v : Value} (h : RepB M w d (.int k) v) : ∃ n, v = .int k n ∧ (Lit.int k n).wf = true := by
  have h : fit (.int k) v := by cases d <;> exact h
  cases v <;> first | exact h.elim | skip
  obtain ⟨rfl, hw⟩ := h
  exact ⟨_, rfl, hw⟩
theorem RepB.sl {M : Nat} {w : World} {d : Nat} {e : List CK} {v : Value} (h : RepB M w d (.sl e) v) : ∃ (d' : Nat) (a : Option Addr) (n c : Nat) (rs : List (List Value)), d = d' + 1 ∧ v = .slice a n c ∧ rs.length = n ∧ c ≤ M ∧ RSl w e.length a n c rs.flatten ∧ (∀ r ∈ rs, RepL (RepB M w d') e r) := by
  cases d with
  | zero => exact h.elim
  | succ d =>
    obtain ⟨a, n, c, rs, h⟩ := h
    exact ⟨d, a, n, c, rs, rfl, h⟩
/-- The cells' kinds of a type without arrays, whose slices' elements weigh something. -/
def shB (P : Program) (kk : Nat) : Nat → TypeId → Option (List CK)
  | 0, _ => none
  | d + 1, t =>
    match P.underlying t with
    | some .bool => some [.bool]
    | some (.int k) => some [.int k]
    | some .string => some [.str]
    | some (.slice e) =>
      match shB P kk d e with
      | some l => if (P.cellsOf e = l.length ∧ 0 < l.length) ∧ (0 < kk ∧ kk ≤ P.bytesOf e) then some [.sl l] else none
      | none => none
    | some (.struct fs) =>
      match fieldsC P (shB P kk d) fs.toList 0 with
      | some l => if P.cellsOf t = l.length then some l else none
      | none => none
    | _ => none
theorem weightsAll_mem {e : TypeId} {m : Nat} : ∀ {l : List (DataW H)} {d : DataW H}, d ∈ l → m ∈ d.weights P e → m ∈ DataW.weightsAll P e l
  | x :: l, d, hd, hm => by
    unfold DataW.weightsAll
    rcases List.mem_cons.1 hd with rfl | hd
    · exact List.mem_append.2 (.inl hm)
    · exact List.mem_append.2 (.inr (weightsAll_mem hd hm))
theorem weightsEach_mem {m : Nat} : ∀ {ts : List TypeId} {l : List (DataW H)} {i : Nat} {t : TypeId} {d : DataW H}, ts[i]? = some t → l[i]? = some d → m ∈ d.weights P t → m ∈ DataW.weightsEach P ts l
  | t' :: ts, x :: l, 0, t, d, ht, hd, hm => by
    cases ht; cases hd
    unfold DataW.weightsEach
    exact List.mem_append.2 (.inl hm)
  | t' :: ts, x :: l, i + 1, t, d, ht, hd, hm => by
    unfold DataW.weightsEach
    exact List.mem_append.2 (.inr (weightsEach_mem (i := i) (by simpa using ht) (by simpa using hd) hm))
  | [], _, _, _, _, ht, _, _ => by simp at ht
  | _ :: _, [], _, _, _, _, hd, _ => by simp at hd
theorem slice_repB {M : Nat} {W : World} {d : Nat} {l : List CK} {a : Addr} {len cap : Nat} (hl : 0 < l.length) (hlc : len ≤ cap) (hcap : cap ≤ M)
    (hel : ∀ i, i < cap → ∃ cs, W.cells? 0 (a.add (i * l.length)) l.length = some cs ∧ RepL (RepB M W d) l cs) : RepB M W (d + 1) (.sl l) (.slice (some a) len cap) := by
  let g : Nat → List Value := fun i => (W.cells? 0 (a.add (i * l.length)) l.length).getD []
  have hg : ∀ i, i < cap → (g i).length = l.length ∧ (∀ j v, (g i)[j]? = some v → W.cell? ((a.add (i * l.length)).add j) = some v) ∧ RepL (RepB M W d) l (g i) := by
    intro i hi
    obtain ⟨cs, h1, h2⟩ := hel i hi
    have e : g i = cs := by show (W.cells? 0 _ _).getD [] = cs; rw [h1]; rfl
    rw [e]
    exact ⟨(cells?_spec h1).1, (cells?_spec h1).2, h2⟩
  refine ⟨some a, len, cap, (List.range len).map g, rfl, by simp, hcap, ⟨hlc, ?_, ?_, ?_⟩, ?_⟩
  · rw [← rows_id, rows_len (sz := l.length)]
    · simp
    · intro x hx
      obtain ⟨i, hi, rfl⟩ := List.mem_map.1 hx
      exact (hg i (by have := List.mem_range.1 hi; omega)).1
  · intro u hu
    obtain ⟨x, hx, hux⟩ := List.mem_flatten.1 hu
    obtain ⟨i, hi, rfl⟩ := List.mem_map.1 hx
    exact RepBs.ones (hg i (by have := List.mem_range.1 hi; omega)).2.2 u hux
  · by_cases h0 : cap = 0
    · exact .inl h0
    · right
      obtain ⟨h1, h2, h3⟩ := hg 0 (by omega)
      have hc : ∃ v, (g 0)[0]? = some v := ⟨(g 0)[0], by rw [List.getElem?_eq_getElem (by omega)]⟩
      obtain ⟨v, hv⟩ := hc
      have hs := h2 0 v hv
      have e0 : (a.add (0 * l.length)).add 0 = a := by simp [Addr.add]
      rw [e0] at hs
      have hsp := cell_spot hs
      obtain ⟨b, o, s⟩ := a
      simp only at hsp
      subst hsp
      refine ⟨b, o, rfl, ?_⟩
      rw [← rows_id]
      refine cells_rows (sz := l.length) ?_ ?_
      · intro x hx
        obtain ⟨i, hi, rfl⟩ := List.mem_map.1 hx
        exact (hg i (by have := List.mem_range.1 hi; omega)).1
      · intro i x hx j v hv
        rw [List.getElem?_map, Option.map_eq_some_iff] at hx
        obtain ⟨k, hk, rfl⟩ := hx
        have hik : i < len := by have := (List.getElem?_eq_some_iff.1 hk).1; simpa using this
        obtain rfl : k = i := by have := (List.getElem?_eq_some_iff.1 hk).2; simpa using this.symm
        have := (hg k (by omega)).2.1 j v hv
        rwa [add_mk] at this
  · intro r hr
    obtain ⟨i, hi, rfl⟩ := List.mem_map.1 hr
    exact (hg i (by have := List.mem_range.1 hi; omega)).2.2
theorem rep_fieldsB {M kk : Nat} {W : World} {d n : Nat} (IH : ∀ (t : TypeId) (ks : List CK), shB P kk d t = some ks → ∀ cs x, DataW.trod enc P W 0 (fun _ => true) true n t cs = some x → (∀ m ∈ x.1.weights P t, m ≤ kk * M) → RepL (RepB M W d) ks cs) :
    ∀ (fs : List Field) (pre cs : List Value) (ks : List CK), fieldsC P (shB P kk d) fs pre.length = some ks → cs.length = ks.length →
      (∀ f ∈ fs, ∃ y, DataW.trod enc P W 0 (fun _ => true) true n f.type (((pre ++ cs).drop f.offset).take (P.cellsOf f.type)) = some y ∧ ∀ m ∈ y.1.weights P f.type, m ≤ kk * M) → RepL (RepB M W d) ks cs
  | [], pre, cs, ks, h, hl, _ => by
    simp only [fieldsC, Option.some.injEq] at h
    subst h
    rw [List.length_eq_zero_iff.1 hl]
    exact trivial
  | f :: fs, pre, cs, ks, h, hl, hx => by
    unfold fieldsC at h
    split at h
    · rename_i l hfl
      split at h
      · rename_i hc
        obtain ⟨ho, hsz⟩ := hc
        split at h
        · rename_i l' hr
          simp only [Option.some.injEq] at h
          subst h
          rw [List.length_append] at hl
          obtain ⟨y, h1, hm⟩ := hx f (by simp)
          rw [ho, List.drop_left, hsz] at h1
          have hy := IH f.type l hfl _ _ h1 hm
          rw [← List.take_append_drop l.length cs]
          refine RepL.append hy ?_
          have e : pre ++ cs = (pre ++ cs.take l.length) ++ cs.drop l.length := by rw [List.append_assoc, List.take_append_drop]
          have hpl : (pre ++ cs.take l.length).length = pre.length + l.length := by rw [List.length_append, List.length_take]; omega
          refine rep_fieldsB IH fs (pre ++ cs.take l.length) (cs.drop l.length) l' (by rw [hpl]; exact hr) (by rw [List.length_drop]; omega) ?_
          rw [← e]
          exact fun g hg => hx g (by simp [hg])
        · cases h
      · cases h
    · cases h
/-- What is read is so, and no longer than what it weighs. -/
theorem open_repB {M kk : Nat} {W : World} : ∀ (d n : Nat) (t : TypeId) (ks : List CK), shB P kk d t = some ks → ∀ cs x, DataW.trod enc P W 0 (fun _ => true) true n t cs = some x → (∀ m ∈ x.1.weights P t, m ≤ kk * M) → RepL (RepB M W d) ks cs
  | 0, _, _, _, h => by simp [shB] at h
  | d + 1, n, t, ks, h => by
    intro cs x hx hw
    unfold shB at h
    split at h
    · rename_i hu
      cases h
      obtain ⟨b, rfl, _⟩ := DataW.trod_bool hu hx
      exact ⟨trivial, trivial⟩
    · rename_i k hu
      cases h
      obtain ⟨m, rfl, _, hw⟩ := DataW.trod_int hu hx
      exact ⟨⟨rfl, hw⟩, trivial⟩
    · rename_i hu
      cases h
      obtain ⟨s, rfl, _, hw⟩ := DataW.trod_string hu hx
      exact ⟨hw, trivial⟩
    · rename_i e hu
      split at h
      · rename_i l hl
        split at h
        · rename_i hc
          cases h
          obtain ⟨⟨hc1, hc2⟩, hby⟩ := hc
          rcases DataW.trod_slice hu hx with ⟨rfl, _⟩ | ⟨a, len, cap, elems, rest, m, rfl, rfl, hxe, _, hlc, hcap, hel, h1, h2, _⟩
          · exact ⟨⟨none, 0, 0, [], rfl, rfl, Nat.zero_le _, ⟨Nat.le_refl _, by simp, by simp, .inl rfl⟩, by simp⟩, trivial⟩
          · obtain ⟨hr1, hr2⟩ := h2 rfl
            have hwe : ∀ m ∈ (elems.length + rest.length) * P.bytesOf e :: (DataW.weightsAll P e (elems.map (·.1)) ++ DataW.weightsAll P e (rest.map (·.1))), m ≤ kk * M := by
              intro q hq
              refine hw q ?_
              rw [hxe]
              unfold DataW.weights
              rw [hu]
              simpa using hq
            have hcM : cap ≤ M := by
              have := hwe _ (List.mem_cons_self ..)
              rw [show elems.length + rest.length = cap by omega] at this
              have h3 : kk * cap ≤ kk * M := Nat.le_trans (by rw [Nat.mul_comm]; exact Nat.mul_le_mul_left _ hby.2) this
              exact Nat.le_of_mul_le_mul_left h3 hby.1
            refine ⟨slice_repB hc2 hlc hcM fun i hi => ?_, trivial⟩
            have hb : ∃ y, (W.cells? 0 (a.add (i * P.cellsOf e)) (P.cellsOf e)).bind (DataW.trod enc P W 0 (fun _ => true) true m e) = some y ∧ ∀ q ∈ y.1.weights P e, q ≤ kk * M := by
              by_cases hil : i < len
              · refine ⟨elems[i], by rw [h1 i hil, List.getElem?_eq_getElem (by omega)], fun q hq => hwe q ?_⟩
                exact List.mem_cons_of_mem _ (List.mem_append.2 (.inl (weightsAll_mem (List.mem_map.2 ⟨_, List.getElem_mem (by omega), rfl⟩) hq)))
              · have := hr2 (i - len) (by omega)
                rw [show len + (i - len) = i by omega] at this
                refine ⟨rest[i - len], by rw [this, List.getElem?_eq_getElem (by omega)], fun q hq => hwe q ?_⟩
                exact List.mem_cons_of_mem _ (List.mem_append.2 (.inr (weightsAll_mem (List.mem_map.2 ⟨_, List.getElem_mem (by omega), rfl⟩) hq)))
            obtain ⟨y, hy, hyw⟩ := hb
            rw [Option.bind_eq_some_iff] at hy
            obtain ⟨cs, g1, g2⟩ := hy
            rw [hc1] at g1
            exact ⟨cs, g1, open_repB d m e l hl cs y g2 hyw⟩
        · cases h
      · cases h
    · rename_i fs hu
      split at h
      · rename_i l hl
        split at h
        · rename_i hc
          cases h
          obtain ⟨xs, m, rfl, hxe, hlen, hxl, hi⟩ := DataW.trod_struct hu hx
          refine (rep_fieldsB (n := m) (fun t ks h cs x hx => open_repB d m t ks h cs x hx) fs.toList [] cs ks hl (by rw [hlen, hc]) fun f hf => ?_).mono fun _ _ => RepB.up
          obtain ⟨i, hif⟩ := List.getElem?_of_mem hf
          have := hi i f (by simpa using hif)
          have hlt : i < xs.length := by rw [hxl]; have := (List.getElem?_eq_some_iff.1 hif).1; simpa using this
          rw [List.getElem?_eq_getElem hlt] at this
          refine ⟨_, this, fun q hq => hw q ?_⟩
          rw [hxe]
          unfold DataW.weights
          rw [hu]
          refine weightsEach_mem (i := i) (t := f.type) (d := xs[i].1) ?_ ?_ hq
          · rw [List.getElem?_map, hif]; rfl
          · rw [List.getElem?_map, List.getElem?_eq_getElem hlt]; rfl
        · cases h
      · cases h
    · cases h
/-- An argument that is a struct. -/
theorem open_aggB {M kk d : Nat} {t : TypeId} {ks : List CK} (hs : shB P kk d t = some ks) (hk : (match P.underlying t with | some (.struct _) => true | some (.array _ _) => true | _ => false) = true) {W : World} {base : Nat} {v : Value} {x : DataW H} {ps : List MemPlace}
    (hval : Value.okWide P W .any base t v) (hd : DataW.Trod enc P W 0 (fun _ => true) true t v x ps) (hw : ∀ m ∈ x.weights P t, m ≤ kk * M) : ∃ cs : List Value, v = .agg cs.toArray ∧ RepL (RepB M W d) ks cs := by
  have hl : ∃ cs, v = .agg cs ∧ cs.size = P.cellsOf t := by
    split at hk
    · rename_i hu
      simp only [Value.okWide, hu] at hval
      obtain ⟨cs, h1, h2, _⟩ := hval
      exact ⟨cs, h1, h2⟩
    · rename_i hu
      simp only [Value.okWide, hu] at hval
      obtain ⟨cs, h1, h2, _⟩ := hval
      exact ⟨cs, h1, h2⟩
    · cases hk
  obtain ⟨cs, rfl, _⟩ := hl
  obtain ⟨n, hn⟩ := hd
  exact ⟨cs.toList, by simp, open_repB d n t ks hs _ _ (by simpa [Value.cells] using hn) hw⟩
/-- An argument that is a slice. -/
theorem open_slB {M kk : Nat} {t e : TypeId} {k : List CK} (ht : P.underlying t = some (.slice e)) (hs : shB P kk 6 t = some [.sl k]) {W : World} {base : Nat} {v : Value} {x : DataW H} {ps : List MemPlace} (hval : Value.okWide P W .any base t v) (hd : DataW.Trod enc P W 0 (fun _ => true) true t v x ps) (hw : ∀ m ∈ x.weights P t, m ≤ kk * M) : RepB M W 6 (.sl k) v := by
  obtain ⟨a, n, c, rfl⟩ := okWide_slice ht hval
  obtain ⟨m, hm⟩ := hd
  exact (open_repB 6 m t _ hs [.slice a n c] _ (by simpa [Value.cells] using hm) hw).1
end Go.Proofs.YtjchneebdlncfaaDoor.Den
namespace Go.Proofs.YtjchneebdlncfaaDoor.Frm
open Go Den Fn Lib
open Go.ChangeShapes Go.WideShapes Go.ChangeAt Go.RowKit
abbrev txK : List CK := [.int .i64, .sl [.int .i64], .sl [.int .i64, .int .i64], .sl [.int .i64, .int .i64]]
theorem pieceShape : shB Tryd.prog 1 6 37 = some [.int .i64, .int .i64, .sl txK] := by kernel_rfl
theorem pieceAgg : (match Tryd.prog.underlying 37 with | some (.struct _) => true | some (.array _ _) => true | _ => false) = true := by kernel_rfl
theorem wantsShape : shB Tryd.prog 16 6 38 = some [.sl [.int .i64, .int .i64]] := by kernel_rfl
theorem uWants : Tryd.prog.underlying 38 = some (.slice 59) := by kernel_rfl
theorem list_pick {α β : Type} {P : α → β → Prop} : ∀ {rs : List α}, (∀ r ∈ rs, ∃ x, P r x) → ∃ l : List β, l.length = rs.length ∧ ∀ (i : Nat) (r : α) (x : β), rs[i]? = some r → l[i]? = some x → P r x
  | [], _ => ⟨[], rfl, by simp⟩
  | r :: rs, h => by
    obtain ⟨x, hx⟩ := h r (by simp)
    obtain ⟨l, h1, h2⟩ := list_pick fun y hy => h y (List.mem_cons_of_mem _ hy)
    refine ⟨x :: l, by simp [h1], fun i r' x' hr hx' => ?_⟩
    cases i with
    | zero => simp at hr hx'; subst hr; subst hx'; exact hx
    | succ i => exact h2 i r' x' (by simpa using hr) (by simpa using hx')
variable {M : Nat} {W : World} {d : Nat} {v : Value}
theorem i64_of {n : Int} (h : (Lit.int .i64 n).wf = true) : I64 n := i64_wf.1 h
theorem ints_rowsB : ∀ {rs : List (List Value)}, (∀ r ∈ rs, RepL (RepB M W d) [.int .i64] r) → ∃ l : List Int, l.length = rs.length ∧ rs.flatten = i64s l ∧ ∀ x ∈ l, I64 x
  | [], _ => ⟨[], rfl, rfl, by simp⟩
  | r :: rs, h => by
    obtain ⟨l, h0, h1, h2⟩ := ints_rowsB fun x hx => h x (List.mem_cons_of_mem _ hx)
    obtain ⟨v, vs, rfl, g1, g2⟩ := (h r (by simp)).cons
    obtain rfl := g2.nil
    obtain ⟨n, rfl, hn⟩ := g1.int
    refine ⟨n :: l, by simp [h0], by rw [List.flatten_cons, h1]; rfl, fun x hx => ?_⟩
    rcases List.mem_cons.1 hx with rfl | hx
    · exact i64_of hn
    · exact h2 x hx
theorem keys_rowsB : ∀ {rs : List (List Value)}, (∀ r ∈ rs, RepL (RepB M W d) [.int .i64, .int .i64] r) → ∃ l : List (Int × Int), l.length = rs.length ∧ rs.flatten = rows kC l ∧ ∀ x ∈ l, kI x
  | [], _ => ⟨[], rfl, rfl, by simp⟩
  | r :: rs, h => by
    obtain ⟨l, h0, h1, h2⟩ := keys_rowsB fun x hx => h x (List.mem_cons_of_mem _ hx)
    obtain ⟨v, vs, rfl, g1, g2⟩ := (h r (by simp)).cons
    obtain ⟨u, us, rfl, k1, k2⟩ := g2.cons
    obtain rfl := k2.nil
    obtain ⟨n, rfl, hn⟩ := g1.int
    obtain ⟨m, rfl, hm⟩ := k1.int
    refine ⟨(n, m) :: l, by simp [h0], by rw [List.flatten_cons, h1, rows_cons], fun x hx => ?_⟩
    rcases List.mem_cons.1 hx with rfl | hx
    · exact ⟨i64_of hn, i64_of hm⟩
    · exact h2 x hx
theorem ints_openB (h : RepB M W d (.sl [.int .i64]) v) : ∃ (a : Option Addr) (n c : Nat) (l : List Int), v = .slice a n c ∧ RSl W 1 a n c (i64s l) ∧ l.length ≤ M ∧ ∀ x ∈ l, I64 x := by
  obtain ⟨d', a, n, c, rs, rfl, rfl, hn, hc, hr, hrs⟩ := h.sl
  obtain ⟨l, h0, h1, h2⟩ := ints_rowsB hrs
  rw [h1] at hr
  have := hr.cap
  exact ⟨a, n, c, l, rfl, hr, by omega, h2⟩
theorem keys_openB (h : RepB M W d (.sl [.int .i64, .int .i64]) v) : ∃ (a : Option Addr) (n c : Nat) (l : List (Int × Int)), v = .slice a n c ∧ RSl W 2 a n c (rows kC l) ∧ l.length ≤ M ∧ n ≤ M ∧ ∀ x ∈ l, kI x := by
  obtain ⟨d', a, n, c, rs, rfl, rfl, hn, hc, hr, hrs⟩ := h.sl
  obtain ⟨l, h0, h1, h2⟩ := keys_rowsB hrs
  rw [h1] at hr
  have := hr.cap
  exact ⟨a, n, c, l, rfl, hr, by omega, by omega, h2⟩
theorem tx_openB {r : List Value} (h : RepL (RepB M W d) txK r) : ∃ x : Tx, TxV (fun _ => True) W r x ∧ x.args.length ≤ M ∧ x.reads.length ≤ M ∧ x.writes.length ≤ M := by
  obtain ⟨v1, r, rfl, h1, h⟩ := h.cons
  obtain ⟨v2, r, rfl, h2, h⟩ := h.cons
  obtain ⟨v3, r, rfl, h3, h⟩ := h.cons
  obtain ⟨v4, r, rfl, h4, h⟩ := h.cons
  obtain rfl := h.nil
  obtain ⟨p, rfl, hp⟩ := h1.int
  obtain ⟨a1, n1, c1, l1, rfl, g1, b1, k1⟩ := ints_openB h2
  obtain ⟨a2, n2, c2, l2, rfl, g2, b2, _, k2⟩ := keys_openB h3
  obtain ⟨a3, n3, c3, l3, rfl, g3, b3, _, k3⟩ := keys_openB h4
  exact ⟨⟨p, l1, l2, l3⟩, ⟨a1, n1, c1, a2, n2, c2, a3, n3, c3, rfl, ⟨g1, .inr fun _ _ => trivial⟩, ⟨g2, .inr fun _ _ => trivial⟩, ⟨g3, .inr fun _ _ => trivial⟩, ⟨i64_of hp, k1, k2, k3⟩⟩, b1, b2, b3⟩
theorem batch_openB (h : RepB M W d (.sl txK) v) (hM : M ≤ 140737488355328) : ∃ (a : Option Addr) (n c : Nat) (l : List Tx), v = .slice a n c ∧ BatchV (fun _ => True) W a n c l ∧ Mid l := by
  obtain ⟨d', a, n, c, rs, rfl, rfl, hn, hc, hr, hrs⟩ := h.sl
  obtain ⟨l, h1, h2⟩ := list_pick fun r hr => tx_openB (hrs r hr)
  have hcap := hr.cap
  refine ⟨a, n, c, l, rfl, ⟨rs, h1.symm, ⟨hr, .inr fun _ _ => trivial⟩, fun i r x hr hx => (h2 i r x hr hx).1⟩, by omega, fun x hx => ?_⟩
  obtain ⟨i, hi⟩ := List.getElem?_of_mem hx
  have hlt := (List.getElem?_eq_some_iff.1 hi).1
  have := (h2 i (rs[i]'(by omega)) x (List.getElem?_eq_getElem (by omega)) hi).2
  exact ⟨by omega, by omega, by omega⟩
theorem piece_openB {cs : List Value} (h : RepL (RepB M W d) [.int .i64, .int .i64, .sl txK] cs) (hM : M ≤ 140737488355328) : ∃ (i n : Int) (a : Option Addr) (tn c : Nat) (l : List Tx), cs = [.int .i64 i, .int .i64 n, .slice a tn c] ∧ BatchV (fun _ => True) W a tn c l ∧ Mid l ∧ I64 i ∧ I64 n := by
  obtain ⟨v1, r, rfl, h1, h⟩ := h.cons
  obtain ⟨v2, r, rfl, h2, h⟩ := h.cons
  obtain ⟨v3, r, rfl, h3, h⟩ := h.cons
  obtain rfl := h.nil
  obtain ⟨i, rfl, hi⟩ := h1.int
  obtain ⟨n, rfl, hn⟩ := h2.int
  obtain ⟨a, tn, c, l, rfl, hb, hm⟩ := batch_openB h3 hM
  exact ⟨i, n, a, tn, c, l, rfl, hb, hm, i64_of hi, i64_of hn⟩
end Go.Proofs.YtjchneebdlncfaaDoor.Frm
namespace Go.Proofs.YtjchneebdlncfaaDoor.FormCard
open Go Den Fn Lib Frm
open Go.ChangeShapes Go.WideShapes Go.ChangeAt Go.RowKit
theorem bytesShape : shB Tryd.prog 1 6 22 = some [.sl [.int .u8]] := by kernel_rfl
theorem params : Tryd.f5.params = #[37, 38, 22] := by kernel_rfl
set_option maxRecDepth 100000 in
theorem contract (H : Type) (enc : TypeId × Value → H) (W : World) (base : Nat) (args : Array Value) (ds gs : List (DataW H)) (before : List MemPlace)
    (hval : ∀ (j : Nat) t v, Tryd.f5.params[j]? = some t → args[j]? = some v → Value.okWide Tryd.prog W .any base t v)
    (hW : DataW.Whole enc Tryd.prog Tryd.f5.params.toList Rows.mergeFormsSpec.vars false W args.toList ds gs before)
    (hw : (DataW.weightsEach Tryd.prog (Tryd.f5.params.toList ++ []) (ds ++ gs)).all (· ≤ reachBytes) = true)
    (hL : laidMetH Tryd.prog Rows.mergeFormsRow.laid W) :
    Calls Tryd.prog 5 args W fun e W' => ∃ v, e = .returned v ∧ Rows.mergeFormsSpec.post enc Tryd.prog Tryd.f5 false true false false W args v W' := by
  have hW' := hW
  obtain ⟨p, q, hA0, hV, rfl, hfz, hnd⟩ := hW
  have hA : DataW.TrodAll enc Tryd.prog W 0 (fun _ => true) true Tryd.f5.params.toList args.toList ds p := hA0
  rw [params] at hA hval hw
  obtain ⟨v0, vs0, d0, ds0, p0, q0, hargs, rfl, rfl, h0, r0⟩ := trodAll_cons hA
  obtain ⟨v1, vs1, d1, ds1, p1, q1, rfl, rfl, rfl, h1, r1⟩ := trodAll_cons r0
  obtain ⟨v2, vs2, d2, ds2, p2, q2, rfl, rfl, rfl, h2, r2⟩ := trodAll_cons r1
  obtain ⟨rfl, rfl, rfl⟩ := trodAll_nil r2
  obtain rfl : args = #[v0, v1, v2] := by cases args; simp_all
  obtain ⟨rfl, rfl⟩ := trodVars_none hV
  have hwm : ∀ m ∈ DataW.weightsEach Tryd.prog (#[37, 38, 22].toList ++ []) ([d0, d1, d2] ++ []), m ≤ 140737488351232 := fun m hm => by
    have := List.all_eq_true.1 hw m hm
    have h : m ≤ reachBytes := by simpa using this
    exact Nat.le_trans h (by unfold reachBytes; decide)
  obtain ⟨cs, rfl, hF⟩ := open_aggB (M := 140737488351232) (kk := 1) (d := 6) pieceShape pieceAgg (hval 0 37 v0 rfl rfl) h0 fun m hm => by have := hwm m (weightsEach_mem (i := 0) rfl rfl hm); omega
  obtain ⟨i, n, ta, tn, tc, l, rfl, hb, _, _, _⟩ := piece_openB hF (by omega)
  obtain ⟨wa, wn, wc, ws, rfl, hws, _, hwn, hwk⟩ := keys_openB (open_slB (M := 8796093022208) (kk := 16) uWants wantsShape (hval 1 38 v1 rfl rfl) h1 fun m hm => by have := hwm m (weightsEach_mem (i := 1) rfl rfl hm); omega)
  have hBy := open_slB (M := 140737488351232) (kk := 1) uBytes bytesShape (hval 2 22 v2 rfl rfl) h2 fun m hm => by have := hwm m (weightsEach_mem (i := 2) rfl rfl hm); omega
  obtain ⟨a, bn, c, bs, rfl, hr, hB, hlen, hd⟩ := open_bytes uBytes uByte cByte (hval 2 22 v2 rfl rfl) h2
  have hN : bn ≤ 140737488351232 := by
    obtain ⟨_, a', n', c', rs, _, he, _, hc', _⟩ := hBy.sl
    cases he
    have := hr.cap
    omega
  refine (forms_c W i n ta tn tc l hb wa wn wc ws hws hwk hwn a bn c bs hr hB hN (laidTab hL)).mono fun e W' ⟨he, ht⟩ => ?_
  subst he
  exact ⟨_, rfl, post_true laidOk (by rw [params]; intro t ht; simp at ht; rcases ht with rfl | rfl | rfl <;> exact ⟨by kernel_rfl, of_decide_eq_true (by kernel_rfl)⟩) uBool (by kernel_rfl) hW' rfl ⟨rfl, rfl, rfl⟩ ht.below⟩

noncomputable abbrev arg : Value := .agg [Value.int .i64 0, .int .i64 0, .slice none 0 0].toArray
def zeroD {H : Type} : DataW H := .agg [.lit (.int .i64 0), .lit (.int .i64 0), .nil]
theorem laid_met (os : Os) : laidMet Tryd.prog Rows.mergeFormsRow.laid ((laidWorld os).forCall (fun _ _ => 0) ⟨#[], #[arg, .slice none 0 0, .slice none 0 0], []⟩).memory :=
  laidMet_of_run' 8 (by kernel_rfl) (by kernel_rfl)
theorem reads (os : Os) {H : Type} (enc : TypeId × Value → H) : ∃ places, DataW.whole enc Tryd.prog ((laidWorld os).forCall (fun _ _ => 0) ⟨#[], #[arg, .slice none 0 0, .slice none 0 0], []⟩).memory Tryd.f5.params.toList Rows.mergeFormsSpec.vars false #[arg, .slice none 0 0, .slice none 0 0].toList 8 = some ([zeroD, .nil, .nil], [], places) :=
  ⟨[], by kernel_rfl⟩

set_option maxRecDepth 100000 in
theorem lifted (os : Os) (started : os.Started) (H : Type) (enc : TypeId × Value → H) (F : Stop.Interp) :
    ReturnsInHanded {} Tryd.checked os 5 .any ((OpenSpec.ofChange Rows.mergeFormsSpec).preRow enc Tryd.prog Tryd.f5 Rows.mergeFormsRow.domain false Rows.mergeFormsRow.laid) (((OpenSpec.ofChange Rows.mergeFormsSpec).at F).post enc Tryd.prog Tryd.f5 false true false false) := by
  obtain ⟨places, hx⟩ := reads os enc
  refine returnsInHanded_of_row (C := Tryd.checked) (s := OpenSpec.ofChange Rows.mergeFormsSpec) own started (by kernel_rfl) Tryd.func5
    (witness_row_at (enc := enc) (C := Tryd.checked) false (laidWorld os) #[arg, .slice none 0 0, .slice none 0 0] rfl (by kernel_rfl) (by kernel_rfl) (by kernel_rfl)
      (OpenSpec.preRow_of_cond 8 hx (by kernel_rfl) (fun k hk => by cases hk) (by kernel_rfl) (laid_met os))) ?_
  intro W base args ds gs before hval hW _ _ hw hL _ _
  exact contract H enc W base args ds gs before hval hW hw hL

theorem said : Rows.MergeFormsSaid :=
  OpenClaim.holds_of_cond 5 Tryd.f5 rfl rfl rfl rfl rfl rfl rfl ⟨rfl, rfl, rfl, rfl, rfl⟩ rfl rfl rfl rfl rfl (by kernel_rfl) Tryd.func5 (by kernel_rfl)
    (of_decide_eq_true (by kernel_rfl)) (by unfold Func.isWrapper; first | (rw [if_pos (by decide +kernel)]; kernel_rfl) | (rw [if_neg (by decide +kernel)]; exact ⟨rfl, rfl⟩))
    (fun os started H enc _ F => by rw [OpenClaim.pre_eq_preRow]; exact lifted os started H enc F)

theorem plain (f : FuncId) (fn : Func) (hf : Tryd.pinned.checked.prog.funcNamed "prelude/preludelaw25.MergeForms" = some f) (hfn : Tryd.pinned.checked.prog.funcs[f]? = some fn) :
    true = Tryd.pinned.checked.prog.looks [] ∧ ∀ (j : Nat) t, fn.params[j]? = some t → Tryd.pinned.checked.prog.wantsStandIn t = false := by
  obtain rfl : f = 5 := Option.some.inj ((show Tryd.prog.funcNamed "prelude/preludelaw25.MergeForms" = some 5 by kernel_rfl).symm.trans hf) |>.symm
  obtain rfl : fn = Tryd.f5 := (Option.some.inj (Tryd.func5.symm.trans hfn)).symm
  refine ⟨by kernel_rfl, fun j t ht => ?_⟩
  rw [params] at ht
  have hm := Array.mem_of_getElem? ht
  simp at hm
  rcases hm with rfl | rfl | rfl
  · exact (show Tryd.prog.wantsStandIn 37 = false by kernel_rfl)
  · exact (show Tryd.prog.wantsStandIn 38 = false by kernel_rfl)
  · exact (show Tryd.prog.wantsStandIn 22 = false by kernel_rfl)

/-- The card of MergeForms. -/
theorem card : Rows.MergeFormsCardSaid :=
  Claim7.holds_tied_plain_at .later [] _ _ _ _ said (fun _ h => by cases h) (by kernel_rfl) (fun _ h => by cases h) mergeForms_row_tie rfl ⟨rfl, rfl⟩ (by kernel_rfl) rfl plain (by kernel_rfl)
end Go.Proofs.YtjchneebdlncfaaDoor.FormCard
