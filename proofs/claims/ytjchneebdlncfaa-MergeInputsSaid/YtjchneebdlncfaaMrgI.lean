/-
  MergeInputs: what holds while an input is filled.
  Own work. No macro, syntax, notation, axiom.
-/
import Derived.Test.YtjchneebdlncfaaMrgH
import Derived.Test.YtjchneebdlncfaaLibInp
namespace Go.Proofs.Ytjchneebdlncfaa.Mrg
open Go Den Fn Lib
open Go.RowKit (Below)
open Classical
set_option maxRecDepth 8000
set_option maxHeartbeats 2000000

theorem HInv.congr' {h : Hist} {T T' : Nat → Nat → Prop} {n : Nat} {g : Mg} (H : HInv h T n g) (hT : ∀ i j, i < hk h → j < heps h → (T i j ↔ T' i j)) : HInv h T' n g :=
  ⟨H.kk, H.ee, H.tp, H.le, H.nd, fun i j hi hj hn ht => H.got i j hi hj hn ((hT i j hi hj).2 ht), fun a b hab => H.non a b fun ⟨i, j, h1, h2, h3, h4, h5, h6⟩ => hab ⟨i, j, h1, h2, h3, (hT i j h1 h2).1 h4, h5, h6⟩⟩
/-- The kept pieces. -/
def keptS (h : Hist) (i n : Nat) : List (Int × List Tx) := (List.range n).map fun j => (((hf h + j : Nat) : Int), hb h i j)
def inpS (h : Hist) (i : Nat) (txs : List Tx) (n : Nat) : Inp := ⟨i, ((hf h + n : Nat) : Int), txs, keptS h i n⟩
theorem keptS_len (h : Hist) (i n : Nat) : (keptS h i n).length = n := by simp [keptS]
theorem keptS_succ (h : Hist) (i n : Nat) : keptS h i (n + 1) = keptS h i n ++ [(((hf h + n : Nat) : Int), hb h i n)] := by simp [keptS, List.range_succ]
theorem keptS_mem {h : Hist} {i n : Nat} : ∀ q ∈ keptS h i n, Small q.2 := fun q hq => by
  obtain ⟨j, _, rfl⟩ := List.mem_map.1 hq
  exact Small.of_good hb_good
theorem keptS_of {h : Hist} {i n j : Nat} (hj : j < n) : keptOf (keptS h i n) ((hf h + j : Nat) : Int) = some (((hf h + j : Nat) : Int), hb h i j) := by
  have e : keptOf (keptS h i n) ((hf h + j : Nat) : Int) = keptOf ((keptS h i n).drop j) ((hf h + j : Nat) : Int) := keptOf_drop fun t q ht hq => by
    unfold keptS at hq
    rw [List.getElem?_map, List.getElem?_range (by omega)] at hq
    cases hq
    show ((hf h + t : Nat) : Int) ≠ _
    omega
  rw [e, List.drop_eq_getElem_cons (by rw [keptS_len]; exact hj)]
  have e2 : (keptS h i n)[j]'(by rw [keptS_len]; exact hj) = (((hf h + j : Nat) : Int), hb h i j) := by simp [keptS]
  rw [e2]
  unfold keptOf
  rw [List.find?_cons_of_pos (by simp)]
/-- An input is filled; the merger beside it. -/
structure PhS (w : World) (ab : Nat) (cs : List Value) (mb pb : Nat) (h : Hist) (i : Nat) (T : Nat → Nat → Prop) (L : List Nat) (u : World) (xb : Nat) (R : List Nat) (txs : List Tx) (nk : Nat) : Prop where
  st : St w [] u [fBlk ab cs]
  inp : ∃ F : Nat → Prop, (∀ k, F k → xb ≤ k) ∧ InAt F u xb R (inpS h i txs nk)
  mg : ∃ g, MgAt (fun k => k ∉ mb :: pb :: (L ++ R)) u mb pb g ∧ HInv h T 0 g
  lo : ab < xb ∧ mb < xb ∧ pb < xb ∧ w.heap.size ≤ ab ∧ ab < mb ∧ ab < pb
section
variable {w : World} {ab : Nat} {cs : List Value} {mb pb : Nat} {h : Hist} {i : Nat} {T : Nat → Nat → Prop} {L : List Nat} {u u' : World} {xb : Nat} {R : List Nat} {txs : List Tx} {nk : Nat}
theorem PhS.quiet (hP : PhS w ab cs mb pb h i T L u xb R txs nk) (ht : Tch [] u u') : PhS w ab cs mb pb h i T L u' xb R txs nk :=
  ⟨hP.st.quiet ht, hP.inp.imp fun _ h => ⟨h.1, h.2.quiet ht⟩, hP.mg.imp fun _ h => ⟨h.1.quiet ht, h.2⟩, hP.lo⟩
theorem PhS.range (hP : PhS w ab cs mb pb h i T L u xb R txs nk) : ∀ k ∈ R, xb ≤ k ∧ k < u.heap.size := hP.inp.elim fun _ h => h.2.range
theorem PhS.step (hP : PhS w ab cs mb pb h i T L u xb R txs nk) {F : Nat → Prop} (hF : ∀ k, F k → xb ≤ k) {txs' : List Tx} {nk' : Nat} (hL : ∀ k ∈ L, k < u.heap.size) (hR : InR F u u' xb R (inpS h i txs' nk')) :
    ∃ R', PhS w ab cs mb pb h i T L u' xb R' txs' nk' ∧ ∀ k ∈ R', k ∈ R ∨ u.heap.size ≤ k := by
  obtain ⟨R', F', h1, h2, h3, h4⟩ := hR
  have hr := hP.range
  obtain ⟨l1, l2, l3, l4, l5, l6⟩ := hP.lo
  obtain ⟨g, hM, H⟩ := hP.mg
  have hlt := hM.lt
  refine ⟨R', ⟨hP.st.step h2 (fun f hf => ?_) (fun k hk => .inr (by have := hr k hk; omega)), ⟨F', fun k hk => ?_, h1⟩, ⟨g, (hM.under.tch h2 (fun hm => ?_) (fun hm => ?_) fun k hk hh => hh.1 (by simp [hk])).mono (fun k hk hm => ?_) ⟨fun hh => hh (by simp), fun hh => hh (by simp)⟩, H⟩, hP.lo⟩, h3⟩
  · obtain rfl := List.mem_singleton.1 hf
    exact fBlk_off fun hm => by have := hr _ hm; omega
  · rcases h4 k hk with h | h | h
    · exact hF k h
    · exact (hr k h).1
    · have := hP.inp.elim fun _ h => h.2.lt
      omega
  · have := hr _ hm; omega
  · have := hr _ hm; omega
  · have h1 := hk.1
    have h2 := hk.2
    simp only [List.mem_cons, List.mem_append, not_or] at h1 hm
    rcases hm with hm | hm | hm | hm
    · exact h1.1 hm
    · exact h1.2.1 hm
    · exact h1.2.2.1 hm
    · rcases h3 k hm with h | h
      · exact h1.2.2.2 h
      · omega
theorem PhS.fence (hP : PhS w ab cs mb pb h i T L u xb R txs nk) {pk : Nat} (ht : Tch [] u u') (hp : u.heap.size ≤ pk) : PhS w ab cs mb pb h i T (pk :: L) u' xb R txs nk := by
  obtain ⟨g, hM, H⟩ := hP.mg
  refine ⟨hP.st.quiet ht, hP.inp.imp fun _ h => ⟨h.1, h.2.quiet ht⟩, ⟨g, (hM.under.quiet ht).mono (fun k hk hm => ?_) ⟨fun hh => hh (by simp), fun hh => hh (by simp)⟩, H⟩, hP.lo⟩
  have h1 := hk.1
  have h2 := hk.2
  simp only [List.mem_cons, List.mem_append, not_or, List.cons_append] at h1 hm
  rcases hm with hm | hm | hm | hm | hm
  · exact h1.1 hm
  · exact h1.2.1 hm
  · omega
  · exact h1.2.2.1 hm
  · exact h1.2.2.2 hm
theorem PhS.drop (hP : PhS w ab cs mb pb h i T L u xb R txs nk) : PhS w ab cs mb pb h i T [] u xb R txs nk := by
  obtain ⟨g, hM, H⟩ := hP.mg
  refine ⟨hP.st, hP.inp, ⟨g, hM.mono (fun k hk hm => hk ?_) ⟨fun hh => hh (by simp), fun hh => hh (by simp)⟩, H⟩, hP.lo⟩
  simp only [List.mem_cons, List.mem_append, List.nil_append] at hm ⊢
  rcases hm with hm | hm | hm
  · exact .inl hm
  · exact .inr (.inl hm)
  · exact .inr (.inr (.inr hm))
theorem PhS.take (hP : PhS w ab cs mb pb h i T [] u xb R txs nk) {G : Nat → Prop} (n : Nat) (hi : i < hk h) (hn : n < heps h) (a : Option Addr) (m c : Nat) (hB : BatchV G u a m c (hb h i n)) :
    Calls Try.prog 15 #[.pointer (some ⟨mb, 0, none⟩), .agg (pcC i ((hf h + n : Nat) : Int) a m c).toArray] u fun e u' => e = .returned (.int .i64 0) ∧ PhS w ab cs mb pb h i (fun a b => T a b ∨ (a = i ∧ b = n)) [] u' xb R txs nk ∧ Tch [mb, pb] u u' := by
  have hr := hP.range
  obtain ⟨l1, l2, l3, l4, l5, l6⟩ := hP.lo
  obtain ⟨g, hM, H⟩ := hP.mg
  have hlt := hM.lt
  refine (takeF u mb pb g h T 0 hM (fun k hk hm => ?_) H i n hi hn a m c hB).mono ?_
  · simp only [List.mem_cons, List.mem_append, List.nil_append] at hm
    rcases hm with hm | hm | hm
    · omega
    · omega
    · have := hr k hm; omega
  rintro e u' ⟨g', rfl, hM', H', ht⟩
  refine ⟨rfl, ⟨hP.st.step ht (fun f hf => ?_) (fun k hk => .inr (by simp at hk; omega)), ?_, ⟨g', hM', H'⟩, hP.lo⟩, ht⟩
  · obtain rfl := List.mem_singleton.1 hf
    exact fBlk_off (by simp; omega)
  · obtain ⟨F, hF, hI⟩ := hP.inp
    refine ⟨F, hF, hI.tch ht fun k hk => ⟨fun hm => ?_, fun hh => ?_⟩⟩
    · have := hr k hm
      simp at hk
      omega
    · have := hF k hh
      simp at hk
      omega
end
end Go.Proofs.Ytjchneebdlncfaa.Mrg
