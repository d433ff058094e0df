/-
  THE LAWS' HELPERS: back, apart: contracts.
  THE LAW OF TREES: ProofTrees answers yes.
  PROVED HERE: the card of ProofTrees: New of any rows: the error, or the tree.
  Own work. No macro, syntax, notation, axiom.
-/
import Derived.Test.YtjkbjppopdfggaaDoorTrePk14
import Derived.Test.YtjkbjppopdfggaaDoorTrePk12
namespace Go.Proofs.YtjkbjppopdfggaaDoor.Tre
open Go Den Fn Sha
open Go.RowKit (Below)
open Classical
set_option maxRecDepth 8000
set_option maxHeartbeats 4000000
theorem put_part_at {w : World} {b n : Nat} {cs new : List Value} (h : Blk w b cs) (o : Nat) (ho : o + n ≤ cs.length) (hn : new.length = n) (h1 : ∀ u ∈ new, one u = true) {A : Addr} (hA : A = ⟨b, o, none⟩) {K : World → Prop}
    (hK : ∀ w', Blk w' b (splice cs o new) → Tch [b] w w' → w'.heap.size = w.heap.size → K w') :
    Array.size (List.toArray new) = n ∧ (∀ u ∈ Array.toList (List.toArray new), one u = true) ∧ Room w A n ∧
      ∀ w' : World, w' = setCells w A (Array.toList (List.toArray new)) 0 → K w' := by
  have := put_part h o ho hn h1 hK
  rw [add_mk, Nat.zero_add] at this
  rw [hA]
  exact this
theorem splice_len {cs new : List Value} {o : Nat} (h : o + new.length ≤ cs.length) : (splice cs o new).length = cs.length := by
  unfold splice; simp; omega
theorem back_c (w : World) (l : List Rw) (ob : Nat) (a : Option Addr) (n c : Nat) (hB : Blk w ob (rows rwC l ++ tailC)) (hr : RSl w 3 a n c (rows rwC l)) (hl : ∀ x ∈ l, x.wf) (hN : n ≤ 1000000000) :
    Calls Tryd.prog 28 #[.slice (some ⟨ob, 0, none⟩) n (n + 2), .slice a n c] w fun e w' => e = .returned (.bool true) ∧ Tch [ob] w w' := by
  have hn := hr.count rwC_len (by omega)
  have hrl : (rows rwC l).length = n * 3 := hr.len
  refine c28 _ _ _ _ _ _ ?_
  unfold d28
  rw [wrap_i64 (by omega) (by omega), wrap_i64 (by omega) (by omega)]
  have e2 : ((n : Nat) : Int) + 2 = ((n + 2 : Nat) : Int) := by omega
  have e1 : ((n : Nat) : Int) + 1 = ((n + 1 : Nat) : Int) := by omega
  have e0 : (if n + 2 = 0 then (some (⟨ob, 0, none⟩ : Addr)) else Option.map (fun y => Addr.add y (0 * 3)) (some ⟨ob, 0, none⟩)) = some ⟨ob, 0, none⟩ := by rw [if_neg (by omega)]; rfl
  rw [e2, e1, e0, Int.toNat_natCast, Nat.sub_zero]
  refine ⟨by omega, by omega, ?_⟩
  refine ⟨fun b u => b = true ∧ Tch [] w u, ?_, ?_⟩
  · refine (sameRows_c w l l _ n (n + 2) a n c (lent_rsl hB hn (by omega)) hr hl hl (by omega)).mono ?_
    rintro e w4 ⟨rfl, t4⟩
    refine ⟨_, rfl, ?_⟩
    rw [bif_pos rfl]
    have hB4 := hB.tch t4 (by simp)
    have ce : ∀ (j : Nat) (v : Value), tailC[j]? = some v → w4.cell? ⟨ob, n * 3 + j, none⟩ = some v := fun j v hv => by
      rw [hB4.cell, List.getElem?_append_right (by omega), hrl, show n * 3 + j - n * 3 = j by omega]
      exact hv
    refine ⟨by omega, by omega, -31, by rw [Int.toNat_natCast, add_mk, add_mk, Nat.zero_add]; exact ce 2 _ rfl, ?_⟩
    rw [bif_pos rfl]
    refine ⟨by omega, by omega, -32, ?_, rfl, t4⟩
    rw [Int.toNat_natCast, add_mk, add_mk, Nat.zero_add, show (n + 1) * 3 + 2 = n * 3 + 5 by omega]
    exact ce 5 _ rfl
  rintro w10 _ ⟨rfl, t10⟩
  have hB10 := hB.tch t10 (by simp)
  refine ⟨fun m i u => ∃ (q : Nat) (cs : List Value), i = q ∧ q ≤ n + 2 ∧ m = n + 2 - q ∧ Blk u ob cs ∧ cs.length = (n + 2) * 3 ∧ Tch [ob] w10 u, ⟨n + 2, 0, _, rfl, by omega, rfl, hB10, by simp [hrl]; omega, Tch.refl _ _⟩, ?_⟩
  rintro m w14 i ⟨q, cs, rfl, hq, rfl, hk, hcl, t14⟩
  by_cases hlt : q < n + 2
  · rw [bif_pos (by omega)]
    refine ⟨[.int .i64 (-3), .int .i64 0], by rw [zcKey]; rfl, [.int .i64 (-3), .int .i64 0, .int .i64 (-33)], by rw [zcRow]; rfl, by omega, by omega, ?_⟩
    rw [Int.toNat_natCast]
    refine put_part_at hk (n := 3) (q * 3) (by omega) rfl (by simp [one]) (by rw [add_mk, Nat.zero_add]) fun w19 k19 t19 _ => ?_
    refine ⟨n + 2 - (q + 1), by omega, q + 1, _, by rw [wrap_i64 (by omega) (by omega)]; omega, by omega, rfl, k19, by rw [splice_len (by simp; omega)]; exact hcl, t14.trans t19 (by simp)⟩
  · rw [bif_neg (by omega)]
    exact ⟨rfl, (t10.weaken (t := [ob]) (by simp)).trans t14 (by simp)⟩
/-! ### apart -/
/-- A row of one's own: a cell is set. -/
theorem own_set {w : World} {base e size : Nat} {a : Option Addr} {n c : Nat} {xs : List Value} (h : w.ownsRow base e size (.slice a n c) n xs) {o : Nat} (ho : o < xs.length) {v : Value} (h1 : one v = true) :
    ∃ g, a = some ⟨g, 0, none⟩ ∧ Option.isSome (World.cell? w ⟨g, o, none⟩) = true ∧ World.frozen? w ⟨g, o, none⟩ = false ∧ (w.setCell ⟨g, o, none⟩ v).ownsRow base e size (.slice a n c) n (xs.set o v) ∧ Tch [g] w (w.setCell ⟨g, o, none⟩ v) := by
  obtain ⟨hl, ⟨hv, hn⟩ | ⟨g, cap, cur, hv, hg, hh, hnc, hcm, hcs, htk⟩⟩ := h
  · exfalso
    rw [hn, Nat.zero_mul] at hl
    omega
  · cases hv
    have hoc : o < cur.size := by
      rw [hcs]
      have : n * size ≤ c * size := Nat.mul_le_mul_right _ hnc
      omega
    have hB : Blk w g cur.toList := ⟨e, by rw [hh]⟩
    refine ⟨g, rfl, by rw [hB.cell, List.getElem?_eq_getElem (by simpa using hoc)]; rfl, hB.frozen o, ?_, (Tch.refl [g] w).setCell (.inl (by simp)) v⟩
    refine ⟨by rw [List.length_set]; exact hl, .inr ⟨g, c, cur.setIfInBounds o v, rfl, hg, ?_, hnc, hcm, by simpa using hcs, ?_⟩⟩
    · simp [World.setCell, Array.getElem?_modify, hh]
    · rw [Array.toList_setIfInBounds, ← htk, List.take_set]
theorem rows_set {v : Int} : ∀ {l : List Rw} {p : Nat} {x : Rw}, l[p]? = some x → (rows rwC l).set (p * 3 + 2) (.int .i64 v) = rows rwC (l.set p ⟨x.t, x.r, v⟩)
  | [], p, x, h => by simp at h
  | y :: l, 0, x, h => by cases h; rfl
  | y :: l, p + 1, x, h => by
    rw [rows_cons, List.set_cons_succ, rows_cons, List.set_append_right _ _ (by show 3 ≤ _; omega)]
    rw [show (p + 1) * 3 + 2 - (rwC y).length = p * 3 + 2 by show (p + 1) * 3 + 2 - 3 = _; omega, rows_set (by simpa using h)]
def mkR (j : Nat) (l : List Rw) : List Rw := l.map fun x => ⟨x.t, x.r, -50 - (j : Int)⟩
theorem mkR_step {j p : Nat} {l : List Rw} {x : Rw} (h : l[p]? = some x) : ((mkR j l).take p ++ l.drop p).set p ⟨x.t, x.r, -50 - (j : Int)⟩ = (mkR j l).take (p + 1) ++ l.drop (p + 1) := by
  obtain ⟨hp, rfl⟩ := List.getElem?_eq_some_iff.1 h
  have hlen : (mkR j l).length = l.length := by simp [mkR]
  rw [List.set_append_right _ _ (by rw [List.length_take]; omega), List.length_take, Nat.min_eq_left (by omega), Nat.sub_self, List.drop_eq_getElem_cons hp, List.set_cons_zero, List.take_succ_eq_append_getElem (by omega : p < (mkR j l).length), List.append_assoc]
  congr 1
  simp [mkR]
section
variable {w : World} {Bq lb : Nat} {A : Nat → Option Addr} {N C : Nat → Nat} {X : Nat → List Rw}
/-- Two rows of one's own, and the box that holds them. -/
structure AP (w : World) (Bq lb : Nat) (A : Nat → Option Addr) (N C : Nat → Nat) (u : World) (cont : Nat → List Rw) : Prop where
  own : ∀ i, i < 2 → u.ownsRow Bq 31 3 (.slice (A i) (N i) (C i)) (N i) (rows rwC (cont i))
  box : Blk u lb [.slice (A 0) (N 0) (C 0), .slice (A 1) (N 1) (C 1)]
  tch : Tch (rowL (A 0) ++ rowL (A 1)) w u
theorem box_cell {u : World} (h : Blk u lb [.slice (A 0) (N 0) (C 0), .slice (A 1) (N 1) (C 1)]) {q : Nat} (hq : q < 2) : World.cell? u (Addr.add ⟨lb, 0, none⟩ (q * 1)) = some (.slice (A q) (N q) (C q)) := by
  rw [add_mk, h.cell]
  match q, hq with
  | 0, _ => rfl
  | 1, _ => rfl
theorem rowL_in {q : Nat} (hq : q < 2) : ∀ k ∈ rowL (A q), k ∈ rowL (A 0) ++ rowL (A 1) := fun k hk => by
  match q, hq with
  | 0, _ => exact List.mem_append_left _ hk
  | 1, _ => exact List.mem_append_right _ hk
theorem sep_all (hsep : ∀ za zb, A 0 = some za → A 1 = some zb → za.block ≠ zb.block) {i j : Nat} (hi : i < 2) (hj : j < 2) (hij : i ≠ j) : ∀ k ∈ rowL (A i), k ∉ rowL (A j) := fun k hk hm => by
  rw [mem_rowL] at hk hm
  obtain ⟨z, hz, e1⟩ := hk
  obtain ⟨y, hy, e2⟩ := hm
  match i, j, hi, hj, hij with
  | 0, 1, _, _, _ => exact hsep z y hz hy (e1.trans e2.symm)
  | 1, 0, _, _, _ => exact hsep y z hy hz (e2.trans e1.symm)
  | 0, 0, _, _, h => exact h rfl
  | 1, 1, _, _, h => exact h rfl
theorem apart_c (hAP : AP w Bq lb A N C w X) (hsep : ∀ za zb, A 0 = some za → A 1 = some zb → za.block ≠ zb.block) (hlb : ∀ i, i < 2 → lb ∉ rowL (A i)) (hBq : Bq ≤ w.heap.size) (hN : ∀ i, i < 2 → N i ≤ 1000000000) :
    Calls Tryd.prog 35 #[.slice (some ⟨lb, 0, none⟩) 2 2] w fun e w' => e = .returned (.bool true) ∧ Tch (rowL (A 0) ++ rowL (A 1)) w w' := by
  have hXl : ∀ i, i < 2 → (X i).length = N i := fun i hi => by
    have := (hAP.own i hi).1
    rw [rows_len (sz := 3) fun _ _ => rfl] at this
    omega
  refine c35 _ _ _ ?_
  unfold d35
  refine ⟨fun m i u => ∃ q : Nat, i = q ∧ q ≤ 2 ∧ m = 2 - q ∧ AP w Bq lb A N C u (fun j => if j < q then mkR j (X j) else X j), ⟨2, 0, rfl, by omega, rfl, hAP⟩, ?_⟩
  clear hAP
  rintro m w3 i ⟨q, rfl, hq, rfl, h⟩
  by_cases hlt : q < 2
  · rw [bif_pos (by omega)]
    refine ⟨fun m k u => ∃ p : Nat, k = p ∧ p ≤ N q ∧ m = N q - p ∧ AP w Bq lb A N C u (fun j => if j < q then mkR j (X j) else if j = q then (mkR q (X q)).take p ++ (X q).drop p else X j), ⟨N q, 0, rfl, by omega, rfl, ?_⟩, ?_⟩
    · refine ⟨fun j hj => ?_, h.box, h.tch⟩
      have := h.own j hj
      by_cases hjq : j < q
      · simp only [hjq, if_true] at this ⊢; exact this
      · by_cases e : j = q
        · subst e
          simp only [Nat.lt_irrefl, if_false, if_true, List.take_zero, List.drop_zero, List.nil_append] at this ⊢; exact this
        · simp only [hjq, e, if_false] at this ⊢; exact this
    clear h
    rintro m w7 k ⟨p, rfl, hp, rfl, h⟩
    refine ⟨by omega, by omega, A q, N q, C q, by rw [Int.toNat_natCast]; exact box_cell h.box hlt, ?_⟩
    have hxq := hXl q hlt
    by_cases hpl : p < N q
    · rw [bif_pos (by omega)]
      refine ⟨by omega, by omega, A q, N q, C q, by rw [Int.toNat_natCast]; exact box_cell h.box hlt, by omega, by omega, ?_⟩
      rw [Int.toNat_natCast, wrap_i64 (by omega) (by omega)]
      have hoq := h.own q hlt
      simp only [Nat.lt_irrefl, if_false, if_true] at hoq
      have hli : (X q)[p]? = some ((X q)[p]'(by omega)) := List.getElem?_eq_getElem (by omega)
      generalize (X q)[p]'(by omega) = x at hli
      have hli' : ((mkR q (X q)).take p ++ (X q).drop p)[p]? = some x := by
        have hml : (mkR q (X q)).length = (X q).length := by simp [mkR]
        rw [List.getElem?_append_right (by rw [List.length_take]; omega), List.length_take, List.getElem?_drop, show p + (p - min p (mkR q (X q)).length) = p by omega]
        exact hli
      have hll : (rows rwC ((mkR q (X q)).take p ++ (X q).drop p)).length = N q * 3 := hoq.1
      obtain ⟨g, hA, g1, g2, g3, g4⟩ := own_set hoq (o := p * 3 + 2) (by omega) (v := .int .i64 (-50 - (q : Int))) rfl
      rw [rows_set hli', mkR_step hli] at g3
      rw [hA]
      show _ ∧ _
      rw [add_mk, add_mk, Nat.zero_add]
      refine ⟨rfl, g1, g2, ?_⟩
      rintro w14 rfl
      have hgm : g ∈ rowL (A q) := by rw [hA]; simp [rowL]
      refine ⟨N q - (p + 1), by omega, p + 1, by rw [wrap_i64 (by omega) (by have := hN q hlt; omega)]; omega, by omega, rfl, ⟨fun j hj => ?_, h.box.tch g4 (fun hm => by simp at hm; exact hlb q hlt (hm ▸ hgm)), h.tch.trans g4 fun i hi => by simp at hi; subst hi; exact .inl (rowL_in hlt _ hgm)⟩⟩
      by_cases hjq : j < q
      · have := h.own j hj
        simp only [hjq, if_true] at this ⊢
        exact own_up this g4 fun kk hkk hm => by
          simp at hm; subst hm
          exact sep_all hsep hlt hj (by omega) _ hgm (by
            cases hAj : A j with
            | none => rw [hAj] at hkk; cases hkk
            | some z => rw [hAj] at hkk; rw [mem_rowL]; exact ⟨z, rfl, by simpa [Value.ownBlock] using hkk⟩)
      · by_cases e : j = q
        · subst e
          simp only [Nat.lt_irrefl, if_false, if_true]
          exact g3
        · have := h.own j hj
          simp only [hjq, e, if_false] at this ⊢
          exact own_up this g4 fun kk hkk hm => by
            simp at hm; subst hm
            exact sep_all hsep hlt hj (fun e' => e e'.symm) _ hgm (by
              cases hAj : A j with
              | none => rw [hAj] at hkk; cases hkk
              | some z => rw [hAj] at hkk; rw [mem_rowL]; exact ⟨z, rfl, by simpa [Value.ownBlock] using hkk⟩)
    · rw [bif_neg (by omega)]
      obtain rfl : p = N q := by omega
      refine ⟨2 - (q + 1), by omega, q + 1, by rw [wrap_i64 (by omega) (by omega)]; omega, by omega, rfl, ⟨fun j hj => ?_, h.box, h.tch⟩⟩
      have := h.own j hj
      by_cases hjq : j < q
      · simp only [hjq, show j < q + 1 by omega, if_true] at this ⊢; exact this
      · by_cases e : j = q
        · subst e
          simp only [Nat.lt_irrefl, if_false, if_true, show j < j + 1 by omega] at this ⊢
          rw [List.take_of_length_le (by simp [mkR]; omega), List.drop_of_length_le (by omega), List.append_nil] at this
          exact this
        · simp only [hjq, e, show ¬ j < q + 1 by omega, if_false] at this ⊢; exact this
  rw [bif_neg (by omega)]
  obtain rfl : q = 2 := by omega
  have h3 : AP w Bq lb A N C w3 (fun j => mkR j (X j)) := ⟨fun j hj => by have := h.own j hj; simp only [hj, if_true] at this; exact this, h.box, h.tch⟩
  clear h hlt hq
  have hml : ∀ j, j < 2 → (mkR j (X j)).length = N j := fun j hj => by rw [mkR, List.length_map]; exact hXl j hj
  have own3 : ∀ {u : World} {j : Nat}, u.ownsRow Bq 31 3 (.slice (A j) (N j) (C j)) (N j) (rows rwC (mkR j (X j))) → ∀ z, A j = some z → z.off = 0 ∧ z.spot = none := fun {u j} h z hz => by
    rw [hz] at h
    obtain ⟨_, ⟨hv, _⟩ | ⟨g, cap, cur, hv, _⟩⟩ := h
    · cases hv
    · cases hv; exact ⟨rfl, rfl⟩
  -- the second loop: they grow
  refine ⟨fun m i u => ∃ q : Nat, i = q ∧ q ≤ 2 ∧ m = 2 - q ∧ (∀ j, j < 2 → RSl u 3 (A j) (N j) (C j) (rows rwC (mkR j (X j)))) ∧ (∀ j, j < 2 → q ≤ j → u.ownsRow Bq 31 3 (.slice (A j) (N j) (C j)) (N j) (rows rwC (mkR j (X j)))) ∧ Blk u lb [.slice (A 0) (N 0) (C 0), .slice (A 1) (N 1) (C 1)] ∧ Tch (rowL (A 0) ++ rowL (A 1)) w u ∧ (∀ j, j < 2 → ∀ z, A j = some z → z.block < u.heap.size), ⟨2, 0, rfl, by omega, rfl, fun j hj => own_rsl (h3.own j hj) rwCs_one, fun j hj _ => h3.own j hj, h3.box, h3.tch, fun j hj z hz => (own_ge (h3.own j hj) z hz).2⟩, ?_⟩
  have hshape : ∀ j, j < 2 → ∀ z, A j = some z → z.off = 0 ∧ z.spot = none := fun j hj => own3 (h3.own j hj)
  clear h3 own3
  rintro m w19 i ⟨q, rfl, hq, rfl, hrs, hos, hbox, htc, hbl⟩
  by_cases hlt : q < 2
  · rw [bif_pos (by omega)]
    refine ⟨by omega, by omega, A q, N q, C q, by rw [Int.toNat_natCast]; exact box_cell hbox hlt, ?_⟩
    have hNq := hN q hlt
    have hlbl := hbox.lt
    have s19 := htc.size
    refine ⟨fun m g gn gc k u => ∃ (p : Nat) (es : List Value), k = p ∧ p ≤ 20 ∧ m = 20 - p ∧ gn = N q + p ∧ u.ownsRow Bq 31 3 (.slice g gn gc) gn (rows rwC (mkR q (X q)) ++ es) ∧ (∀ z, g = some z → z.block ∈ rowL (A q) ∨ w19.heap.size ≤ z.block) ∧ (∀ j, j < 2 → RSl u 3 (A j) (N j) (C j) (rows rwC (mkR j (X j)))) ∧ (∀ j, j < 2 → q < j → u.ownsRow Bq 31 3 (.slice (A j) (N j) (C j)) (N j) (rows rwC (mkR j (X j)))) ∧ Blk u lb [.slice (A 0) (N 0) (C 0), .slice (A 1) (N 1) (C 1)] ∧ Tch (rowL (A 0) ++ rowL (A 1)) w u ∧ w19.heap.size ≤ u.heap.size, ⟨20, 0, [], rfl, by omega, rfl, rfl, by rw [List.append_nil]; exact hos q hlt (Nat.le_refl _), fun z hz => .inl (by rw [hz]; simp [rowL]), hrs, fun j hj hqj => hos j hj (by omega), hbox, htc, Nat.le_refl _⟩, ?_⟩
    clear hrs hos hbox htc
    rintro m w25 g gn gc k ⟨p, es, rfl, hp, rfl, rfl, hg, hgl, hrs, hos, hbox, htc, hsz⟩
    by_cases hpl : p < 20
    rotate_left
    · rw [bif_neg (by omega)]
      exact ⟨2 - (q + 1), by omega, q + 1, by rw [wrap_i64 (by omega) (by omega)]; omega, by omega, rfl, hrs, fun j hj hqj => hos j hj (by omega), hbox, htc, fun j hj z hz => by have := hbl j hj z hz; omega⟩
    rw [bif_pos (by omega)]
    refine ⟨[.int .i64 0, .int .i64 0, .int .i64 1], by rw [zcRow]; rfl, [.int .i64 0, .int .i64 0, .int .i64 1], fill1 (by rw [zcRow]; rfl) rfl rfl, ?_⟩
    rintro w30 rfl
    have q30 := (Tch.refl [] w25).alloc (.cells [Value.int .i64 0, .int .i64 0, .int .i64 1].toArray 31)
    have hnew := (Blk.fresh w25 (cs := [Value.int .i64 0, .int .i64 0, .int .i64 1]) 31 rfl).rsl (sz := 3) (n := 1) rfl (by simp [one])
    have s30 := size_alloc w25 (.cells [Value.int .i64 0, .int .i64 0, .int .i64 1].toArray 31)
    generalize w25.alloc (.cells [Value.int .i64 0, .int .i64 0, .int .i64 1].toArray 31) = w30 at *
    replace hg := own_up hg q30 (fun _ _ h => by cases h)
    have hge := own_ge hg
    -- what the row is off from
    have hin : ∀ k ∈ rowL g, k ∈ rowL (A q) ∨ w19.heap.size ≤ k := fun k hk => by
      rw [mem_rowL] at hk
      obtain ⟨z, hz, rfl⟩ := hk
      exact hgl z hz
    have hoff : ∀ j, j < 2 → j ≠ q → Off (rowL g) (A j) := fun j hj hjq z hz hm => by
      rcases hin _ hm with h1 | h1
      · exact sep_all hsep hlt hj (fun e => hjq e.symm) _ h1 (by rw [hz]; simp [rowL])
      · have := hbl j hj z hz; omega
    refine app_keep rsT hg hnew (by omega) (by omega) (by omega) fun g' gc' w32 o5 t5 m5 keep => ?_
    have s32 := t5.size
    refine ⟨20 - (p + 1), by omega, p + 1, es ++ [.int .i64 0, .int .i64 0, .int .i64 1], by rw [wrap_i64 (by omega) (by omega)]; omega, by omega, rfl, by omega, by rw [← List.append_assoc]; exact o5, ?_, ?_, ?_, ?_, ?_, by omega⟩
    · intro z hz
      rcases m5 z hz with h1 | h1
      · exact hin _ h1
      · exact .inr (by omega)
    · intro j hj
      have hr30 := (hrs j hj).tch q30 (fun _ _ h => by cases h)
      by_cases hjq : j = q
      · subst hjq
        by_cases hoffj : Off (rowL g) (A j)
        · exact hr30.tch t5 hoffj
        · -- the very block: the cells are kept
          have hz : ∃ z, A j = some z ∧ z.block ∈ rowL g := by
            cases hAj : A j with
            | none => exact absurd (fun z hz => by rw [hAj] at hz; cases hz) hoffj
            | some z =>
              refine ⟨z, rfl, ?_⟩
              by_cases hm : z.block ∈ rowL g
              · exact hm
              · exact absurd (fun y hy => by rw [hAj] at hy; cases hy; exact hm) hoffj
          obtain ⟨z, hAj, hm⟩ := hz
          rw [mem_rowL] at hm
          obtain ⟨y, hy, hyz⟩ := hm
          have hyo : y.off = 0 ∧ y.spot = none := by
            rw [hy] at hg
            obtain ⟨_, ⟨hv, _⟩ | ⟨gg, cap, cur, hv, _⟩⟩ := hg
            · cases hv
            · cases hv; exact ⟨rfl, rfl⟩
          have hzo := hshape j hj z hAj
          have hyeq : y = z := by
            obtain ⟨yb, yo, ys⟩ := y
            obtain ⟨zb, zo, zs⟩ := z
            simp only at hyz hyo hzo
            obtain ⟨rfl, rfl⟩ := hyo
            obtain ⟨rfl, rfl⟩ := hzo
            rw [hyz]
          subst hyeq
          obtain ⟨yb, yo, ys⟩ := y
          obtain ⟨rfl, rfl⟩ := hzo
          refine ⟨hr30.cap, hr30.len, hr30.ones, .inr ⟨yb, 0, hAj, fun i v hv => ?_⟩⟩
          exact keep _ hy i v (by rw [List.getElem?_append_left (List.getElem?_eq_some_iff.1 hv).1]; exact hv)
      · exact hr30.tch t5 (hoff j hj hjq)
    · intro j hj hqj
      have ho := own_up (hos j hj hqj) q30 (fun _ _ h => by cases h)
      exact own_up ho t5 fun kk hkk hm => by
        cases hAj : A j with
        | none => rw [hAj] at hkk; cases hkk
        | some z =>
          rw [hAj] at hkk
          have : z.block = kk := by simpa [Value.ownBlock] using hkk
          exact hoff j hj (by omega) z hAj (this ▸ hm)
    · refine (hbox.tch q30 (by simp)).tch t5 fun hm => ?_
      rcases hin _ hm with h1 | h1
      · exact hlb q hlt h1
      · omega
    · refine (htc.trans q30 (by simp)).trans t5 fun k hk => ?_
      rcases hin _ hk with h1 | h1
      · exact .inl (rowL_in hlt _ h1)
      · exact .inr (by omega)
  -- the third: each holds its own
  rw [bif_neg (by omega)]
  refine ⟨fun m i u => ∃ q : Nat, i = q ∧ q ≤ 2 ∧ m = 2 - q ∧ u = w19, ⟨2, 0, rfl, by omega, rfl, rfl⟩, ?_⟩
  rintro m w38 i ⟨q', rfl, hq', rfl, hw⟩
  rw [hw]
  clear hw
  by_cases hlt' : q' < 2
  · rw [bif_pos (by omega)]
    have hNq := hN q' hlt'
    refine ⟨fun m k u => ∃ p : Nat, k = p ∧ p ≤ N q' ∧ m = N q' - p ∧ u = w19, ⟨N q', 0, rfl, by omega, rfl, rfl⟩, ?_⟩
    rintro m w42 k ⟨p, rfl, hp, rfl, hw⟩
    rw [hw]
    clear hw
    refine ⟨by omega, by omega, A q', N q', C q', by rw [Int.toNat_natCast]; exact box_cell hbox hlt', ?_⟩
    by_cases hpl : p < N q'
    · rw [bif_pos (by omega)]
      refine ⟨by omega, by omega, A q', N q', C q', by rw [Int.toNat_natCast]; exact box_cell hbox hlt', by omega, by omega, ?_⟩
      rw [Int.toNat_natCast, wrap_i64 (n := -50 - (q' : Int)) (by omega) (by omega)]
      have hl' := hml q' hlt'
      have hli : (mkR q' (X q'))[p]? = some ((mkR q' (X q'))[p]'(by omega)) := List.getElem?_eq_getElem (by omega)
      have hv : ((mkR q' (X q'))[p]'(by omega)).v = -50 - (q' : Int) := by simp [mkR]
      generalize (mkR q' (X q'))[p]'(by omega) = x at hli hv
      obtain ⟨b1, o1, hA, _, k2⟩ := row_at (hrs q' hlt') hli
      rw [hA]
      refine ⟨x.v, k2, ?_⟩
      rw [hv, bif_npos rfl]
      exact ⟨N q' - (p + 1), by omega, p + 1, by rw [wrap_i64 (by omega) (by omega)]; omega, by omega, rfl, rfl⟩
    · rw [bif_neg (by omega)]
      exact ⟨2 - (q' + 1), by omega, q' + 1, by rw [wrap_i64 (by omega) (by omega)]; omega, by omega, rfl, rfl⟩
  · rw [bif_neg (by omega)]
    exact ⟨rfl, htc⟩
end
end Go.Proofs.YtjkbjppopdfggaaDoor.Tre
namespace Go.Proofs.YtjkbjppopdfggaaDoor.Tre
open Go Den Fn Sha
open Go.RowKit (Below)
open Classical
set_option maxRecDepth 8000
set_option maxHeartbeats 8000000
theorem textN_node {t : Tr} (h : t.ok) : textN t.node = some t.text := by
  unfold textN
  rw [if_neg (by cases t <;> simp [Tr.node])]
  exact Tr.text_node h
theorem texts_subs : ∀ {l : List Tr}, (∀ s ∈ l, s.ok) → textsS (l.map Tr.node) = l.map Tr.text
  | [], _ => rfl
  | t :: l, h => by
    show List.filterMap textN (t.node :: l.map Tr.node) = _
    rw [List.filterMap_cons_some (textN_node (h t (by simp)))]
    show _ :: textsS (l.map Tr.node) = _
    rw [texts_subs fun s hs => h s (by simp [hs])]
    rfl
/-- Two unlike texts with one digest. -/
theorem collide_two {ts : List (List Int)} {s t : List Int} (hs : s ∈ ts) (ht : t ∈ ts) (he : sha s = sha t) (hne : s ≠ t) : collideS ts := by
  obtain ⟨i, hi⟩ := List.getElem?_of_mem hs
  obtain ⟨j, hj⟩ := List.getElem?_of_mem ht
  rcases Nat.lt_trichotomy i j with h | h | h
  · exact ⟨j, t, hj, .inr ⟨i, s, h, hi, he, hne.symm⟩⟩
  · subst h; rw [hi] at hj; cases hj; exact absurd rfl hne
  · exact ⟨i, s, hi, .inr ⟨j, t, h, hj, he.symm, hne⟩⟩
theorem nodesL_subs {l : List Rw} (hne : l ≠ []) : nodesL l = (treeT l).subs.map Tr.node := by unfold nodesL; rw [if_neg hne]
theorem treeT_ok' {l : List Rw} (hne : l ≠ []) (h : RowsOk l) : (treeT l).ok := treeT_ok (Nat.le_refl _) (List.length_pos_iff.2 hne) h
theorem textsL {l : List Rw} (hne : l ≠ []) (h : RowsOk l) : textsS (nodesL l) = (treeT l).subs.map Tr.text := by
  rw [nodesL_subs hne]
  exact texts_subs (Tr.subs_ok (treeT_ok' hne h))
theorem collide_of {l : List Rw} (hne : l ≠ []) (h : RowsOk l) {s t : Tr} (hs : s ∈ (treeT l).subs) (ht : t ∈ (treeT l).subs) (he : s.sum = t.sum) (hn : s.node ≠ t.node) : collideS (textsS (nodesL l)) := by
  have ho := Tr.subs_ok (treeT_ok' hne h)
  rw [textsL hne h]
  refine collide_two (List.mem_map_of_mem hs) (List.mem_map_of_mem ht) (by rw [← Tr.sum_text, ← Tr.sum_text, he]) fun hx => hn (Tr.text_inj (ho s hs) (ho t ht) hx)
theorem nd_inj {m n : Nd} (hm : m.ok) (hn : n.ok) : m.cells = n.cells ↔ m = n := by
  refine ⟨fun h => ?_, fun h => by rw [h]⟩
  have h' : [Value.int .i64 m.kind, .int .i64 m.bit] ++ u8 m.left ++ u8 m.right ++ rowC m.tab m.row m.val = [Value.int .i64 n.kind, .int .i64 n.bit] ++ u8 n.left ++ u8 n.right ++ rowC n.tab n.row n.val := h
  have h1 := List.append_inj h' (by simp [hm.ll, hm.rl, hn.ll, hn.rl])
  have h2 := List.append_inj h1.1 (by simp [hm.ll, hn.ll])
  have h3 := List.append_inj h2.1 rfl
  have e1 := map_u8_inj h3.2
  have e2 := map_u8_inj h2.2
  have e3 := h3.1
  have e4 := h1.2
  simp only [List.cons.injEq, Value.int.injEq, true_and, and_true] at e3 e4
  obtain ⟨a, b, c, d, e, f, g⟩ := m
  obtain ⟨a', b', c', d', e', f', g'⟩ := n
  simp only at e1 e2 e3 e4
  rw [e1, e2, e3.1, e3.2, e4.1, e4.2.1, e4.2.2]
theorem ofS_node {l : List Rw} (hne : l ≠ []) (h : RowsOk l) {s : Tr} (hs : s ∈ (treeT l).subs) : (ofS s.node).1 = s.sum := by
  rw [Tr.of_node (Tr.subs_ok (treeT_ok' hne h) s hs)]
theorem nodes_collide {l : List Rw} (h : RowsOk l) {m n : Nd} (hm : m ∈ nodesL l) (hn : n ∈ nodesL l) (he : (ofS m).1 = (ofS n).1) (hne : m ≠ n) : collideS (textsS (nodesL l)) := by
  by_cases hl : l = []
  · unfold nodesL at hm hn
    rw [if_pos hl, List.mem_singleton] at hm hn
    rw [hm, hn] at hne
    exact absurd rfl hne
  · have hm' := hm
    have hn' := hn
    rw [nodesL_subs hl] at hm' hn'
    obtain ⟨s, hs, rfl⟩ := List.mem_map.1 hm'
    obtain ⟨t, ht, rfl⟩ := List.mem_map.1 hn'
    rw [ofS_node hl h hs, ofS_node hl h ht] at he
    exact collide_of hl h hs ht he hne
theorem NodeR.out {l : List Rw} (h : RowsOk l) {d : List Int} {e : Ending} (hr : NodeR l d e) : ∃ (nd : Nd) (b : Bool), e = .returned (.tuple #[.agg nd.cells.toArray, .bool b]) ∧ nd.ok ∧ b = decide (∃ n ∈ nodesL l, (ofS n).1 = d) ∧ (b = false → nd = Nd.zero) ∧ (b = true → nd ∈ nodesL l ∧ (ofS nd).1 = d) := by
  unfold NodeR at hr
  by_cases hl : l = []
  · rw [if_pos hl] at hr
    have hnl : nodesL l = [Nd.zero] := by unfold nodesL; rw [if_pos hl]
    rw [hnl]
    have hz : (ofS Nd.zero).1 = z32 := rfl
    refine ⟨Nd.zero, decide (d = z32), hr, Nd.zero_ok, ?_, fun _ => rfl, fun hb => ⟨by simp, by rw [hz]; exact (of_decide_eq_true hb).symm⟩⟩
    by_cases hd : d = z32
    · rw [decide_eq_true hd, decide_eq_true ⟨Nd.zero, by simp, by rw [hz, hd]⟩]
    · rw [decide_eq_false hd, decide_eq_false]
      rintro ⟨n, hn, hnd⟩
      rw [List.mem_singleton] at hn
      rw [hn, hz] at hnd
      exact hd hnd.symm
  · rw [if_neg hl] at hr
    rcases hr with ⟨he, hno⟩ | ⟨s, hs, hsd, he⟩
    · refine ⟨Nd.zero, false, he, Nd.zero_ok, ?_, fun _ => rfl, (fun hb => by cases hb)⟩
      rw [decide_eq_false]
      rintro ⟨n, hn, hnd⟩
      rw [nodesL_subs hl] at hn
      obtain ⟨s, hs, rfl⟩ := List.mem_map.1 hn
      rw [ofS_node hl h hs] at hnd
      exact hno s hs hnd
    · have hm : s.node ∈ nodesL l := by rw [nodesL_subs hl]; exact List.mem_map_of_mem hs
      refine ⟨s.node, true, he, nodesL_ok h _ hm, ?_, (fun hb => by cases hb), fun _ => ⟨hm, by rw [ofS_node hl h hs, hsd]⟩⟩
      rw [decide_eq_true ⟨s.node, hm, by rw [ofS_node hl h hs, hsd]⟩]
theorem ProveR.out {w w' : World} {l : List Rw} {k : Int × Int} {e : Ending} (hR : RowsOk l) (h : ProveR w l k e w') : ∃ (P : Pf) (a : Option Addr) (n c : Nat) (er : Int), e = .returned (.tuple #[.agg (pfC a n c P).toArray, .int .i64 er]) ∧ w'.ownsRow w.heap.size 51 33 (.slice a n c) n (rows fkC P.fs) ∧ P.ok ∧ n ≤ l.length ∧ P.fs.length = n ∧ (if Lib.KeyOk k.1 then er = 0 ∧ P = proofS (Sha.keyB k.1 k.2) l else er = 20 ∧ P = ⟨[], false, 0, 0, 0⟩) := by
  obtain ⟨_, h⟩ := h
  by_cases hk : Lib.KeyOk k.1
  · rw [if_pos hk] at h
    obtain ⟨a, c, he, ho⟩ := h
    obtain ⟨h1, h2⟩ := proofS_ok (kb := Sha.keyB k.1 k.2) hR
    exact ⟨_, a, _, c, 0, he, ho, h1, h2, rfl, by rw [if_pos hk]; exact ⟨rfl, rfl⟩⟩
  · rw [if_neg hk] at h
    exact ⟨⟨[], false, 0, 0, 0⟩, none, 0, 0, 20, h, own_nil _ _ _ _, ⟨by simp, i64_0, i64_0, i64_0⟩, by omega, rfl, by rw [if_neg hk]; exact ⟨rfl, rfl⟩⟩
/-- What stands behind the first part of the law. -/
structure TL (W : World) (l : List Rw) (ks : List (Int × Int)) (other : List Int) (wb ta : Nat) (xa : Option Addr) (xn xc : Nat) (pn : Option Addr) (nn nc : Nat) (F : Nat → Prop) (u : World) : Prop where
  oth : Blk u wb (u8 other)
  tree : TreeAt F u ta l
  hF : ∀ z, F z → z < u.heap.size
  rws : RSl u 3 xa xn xc (rows rwC l)
  nam : RSl u 2 pn nn nc (rows Lib.kC ks)
  tch : Tch [] W u
theorem TL.quiet {W u u' : World} {l : List Rw} {ks : List (Int × Int)} {other : List Int} {wb ta xn xc nn nc : Nat} {xa pn : Option Addr} {F : Nat → Prop} (h : TL W l ks other wb ta xa xn xc pn nn nc F u) (ht : Tch [] u u') : TL W l ks other wb ta xa xn xc pn nn nc F u' :=
  ⟨h.oth.tch ht (by simp), TreeAt.tch h.tree ht (by simp), fun z hz => Nat.lt_of_lt_of_le (h.hF z hz) ht.size, h.rws.tch ht (fun _ _ h => by cases h), h.nam.tch ht (fun _ _ h => by cases h), h.tch.trans ht (by simp)⟩
theorem trees_law (W : World) (lr : List Rw) (pa : Option Addr) (na ca : Nat) (ks : List (Int × Int)) (pn : Option Addr) (nn nc : Nat) (other : List Int) (hra : RSl W 3 pa na ca (rows rwC lr)) (hlw : ∀ x ∈ lr, x.wf) (hrn : RSl W 2 pn nn nc (rows Lib.kC ks)) (hki : ∀ k ∈ ks, Lib.kI k) (hNn : nn ≤ 9223372036854775807) (hol : other.length = 32) (hob : Bytes other) (hT : Tabs W) :
    Calls Tryd.prog 7 #[.slice pa na ca, .slice pn nn nc, .agg (u8 other).toArray] W fun e w' => e = .returned (.bool true) ∧ Tch [] W w' := by
  have hnn := hrn.count Lib.kC_len (by omega)
  refine c7 _ _ _ _ _ _ _ ?_
  unfold d7
  rintro w3 rfl
  have hO : Blk _ _ (u8 other) := Blk.fresh W (cs := u8 other) 24 rfl
  have t := (Tch.refl [] W).alloc (.cells (u8 other).toArray 24)
  generalize W.alloc (.cells (u8 other).toArray 24) = w3 at *
  obtain ⟨wb, hwb⟩ : ∃ wb, W.heap.size = wb := ⟨_, rfl⟩
  rw [hwb] at hO ⊢
  refine (few_c w3 lr pa na ca (hra.tch t (fun _ _ h => by cases h))).mono ?_
  rintro e w5 ⟨xa, xc, rfl, hx, hw⟩
  rw [hw]
  rw [hw] at hx
  clear hw w5
  refine ⟨_, _, _, rfl, ?_⟩
  have hll : (lr.take 300).length ≤ 300 := by rw [List.length_take]; omega
  have hlw' : ∀ x ∈ lr.take 300, x.wf := fun x hx => hlw x (List.mem_of_mem_take hx)
  generalize lr.take 300 = l at *
  generalize hxn : l.length = xn at *
  refine (lent_c w3 l xa xn xc hx (by omega)).mono ?_
  rintro e w8 ⟨rfl, k8, t8, s8⟩
  refine ⟨_, _, _, rfl, ?_⟩
  have t08 := t.trans t8 (by simp)
  refine (new_c w8 l _ xn _ (lent_rsl k8 hxn (by omega)) hlw' (by omega) (hT.tch t08)).mono ?_
  rintro e w11 ⟨t11, h11⟩
  have k11 := k8.tch t11 (by simp)
  have q11 := t8.trans t11 (by simp)
  have hx11 := hx.tch q11 (fun _ _ h => by cases h)
  have s11 := t11.size
  generalize hob1 : w3.heap.size = ob1 at *
  have back_k : Calls Tryd.prog 28 #[.slice (some ⟨ob1, 0, none⟩) xn (xn + 2), .slice xa xn xc] w11 fun e w' => e = .returned (.bool true) ∧ Tch [ob1] w11 w' := back_c w11 l ob1 xa xn xc k11 hx11 hlw' (by omega)
  by_cases hR : Lib.RisesS (keysOf l)
  rotate_left
  · rw [if_neg hR] at h11
    subst h11
    refine ⟨_, _, rfl, _, rfl, _, rfl, ?_⟩
    refine back_k.mono ?_
    rintro e w17 ⟨rfl, t17⟩
    refine ⟨_, rfl, ?_⟩
    have t3_17 : Tch [] w3 w17 := q11.trans t17 (by simp; omega)
    refine (refSet_c w17 l xa xn xc (hx.tch t3_17 (fun _ _ h => by cases h)) (by omega)).mono ?_
    rintro e w20 ⟨rfl, t20⟩
    rw [decide_eq_false hR]
    refine ⟨_, rfl, fun u => u = w20, ?_, ?_⟩
    · rw [Bool.not_true, cond_false]
      refine (num_c 22 w20).mono ?_
      rintro e w24 ⟨rfl, hw⟩
      refine ⟨_, rfl, ?_⟩
      rw [show (!((decide ((22 : Int) = 0)) == false)) = false from rfl, cond_false, show (!((!(Option.isNone (none : Option Addr))) == false)) = false from rfl, cond_false]
      exact hw
    · rintro w26 hw
      rw [hw, Bool.not_false, cond_true]
      refine (num_c 22 w20).mono ?_
      rintro e w28 ⟨rfl, hw⟩
      rw [hw]
      exact ⟨_, rfl, rfl, (t.trans t3_17 (by simp)).trans t20 (by simp)⟩
  rw [if_pos hR] at h11
  obtain ⟨ta, rfl, hta⟩ := h11
  have hok := rowsOk_of hlw' hR
  refine ⟨_, _, rfl, _, rfl, _, rfl, ?_⟩
  refine back_k.mono ?_
  rintro e w17 ⟨rfl, t17⟩
  refine ⟨_, rfl, ?_⟩
  have t3_17 : Tch [] w3 w17 := q11.trans t17 (by simp; omega)
  refine (refSet_c w17 l xa xn xc (hx.tch t3_17 (fun _ _ h => by cases h)) (by omega)).mono ?_
  rintro e w20 ⟨rfl, t20⟩
  rw [decide_eq_true hR]
  refine ⟨_, rfl, fun u => u = w20, ?_, ?_⟩
  · rw [Bool.not_true, cond_false]
    refine (num_c 0 w20).mono ?_
    rintro e w24 ⟨rfl, hw⟩
    refine ⟨_, rfl, ?_⟩
    rw [show (!((decide ((0 : Int) = 0)) == true)) = false from rfl, cond_false, show (!((!(Option.isNone (some (⟨ta, 0, none⟩ : Addr)))) == true)) = false from rfl, cond_false]
    exact hw
  rintro w26 hw
  rw [hw, Bool.not_true, cond_false]
  clear hw w26 back_k
  have t3_20 := t3_17.trans t20 (by simp)
  have s17 := t17.size
  have s20 := t20.size
  have hTL : TL W l ks other wb ta xa xn xc pn nn nc (fun z => z < w20.heap.size) w20 := by
    refine ⟨hO.tch t3_20 (by simp), ?_, fun z hz => hz, hx.tch t3_20 (fun _ _ h => by cases h), hrn.tch (t.trans t3_20 (by simp)) (fun _ _ h => by cases h), t.trans t3_20 (by simp)⟩
    refine (TreeAt.tch (TreeAt.tch hta t17 ?_) t20 (by simp)).mono fun z hz => by have := hz.2; omega
    intro k hk hf
    simp at hk
    subst hk
    have := hf.1
    omega
  clear hta k11 hx11 k8 hO hx t3_20 t3_17 t20 t17 t11 q11 t8 t08
  generalize hF0 : (fun z => z < w20.heap.size) = F at hTL
  have hxn300 : xn ≤ 300 := by omega
  refine (nodes_c l.length w20 l xa xn xc (Nat.le_refl _) hTL.rws hok (by omega)).mono ?_
  rintro e w31 ⟨nda, ndc, rfl, hnd, t31⟩
  refine ⟨_, _, _, rfl, ?_⟩
  replace hTL := hTL.quiet t31
  have hndok := nodesL_ok hok
  have hndl := nodesL_len hok
  -- the rows, twice
  refine (rows_c w31 ta l hTL.tree hok hTL.hF (by omega)).mono ?_
  rintro e w34 ⟨ra, rca, rfl, hoa, t34⟩
  rw [hxn] at hoa ⊢
  refine ⟨_, _, _, rfl, ?_⟩
  have hTL34 := hTL.quiet t34
  refine (rows_c w34 ta l hTL34.tree hok hTL34.hF (by omega)).mono ?_
  rintro e w37 ⟨rb, rcb, rfl, hob2, t37⟩
  rw [hxn] at hob2 ⊢
  refine ⟨_, _, _, rfl, ?_⟩
  have hTL37 := hTL34.quiet t37
  have hoa37 := own_up hoa t37 (fun _ _ h => by cases h)
  have hga := own_ge hoa
  have hgb := own_ge hob2
  have s34 := t34.size
  have s37 := t37.size
  refine ⟨fun u => Tch [] w31 u, ?_, ?_⟩
  · refine (root_c w37 ta l hTL37.tree).mono ?_
    rintro e w41 ⟨rfl, t41⟩
    refine ⟨_, rfl, ?_⟩
    have hTL41 := hTL37.quiet t41
    refine (refRoot_c w41 l xa xn xc hTL41.rws hok (by omega)).mono ?_
    rintro e w44 ⟨rfl, t44⟩
    refine ⟨_, rfl, ?_⟩
    refine neq_flat_d dig_flat dig_eqT (dig_fits (rootS_len l) (rootS_bytes l)) (dig_fits (rootS_len l) (rootS_bytes l)) (p := True) ⟨fun _ => trivial, fun _ => rfl⟩ ?_
    rw [decide_eq_true trivial, Bool.not_true, cond_false]
    have hTL44 := hTL41.quiet t44
    have q44 := t41.trans t44 (by simp)
    have hoa44 := own_up hoa37 q44 (fun _ _ h => by cases h)
    have hob44 := own_up hob2 q44 (fun _ _ h => by cases h)
    refine (sameRows_c w44 l l ra xn rca xa xn xc (own_rsl hoa44 rwCs_one) hTL44.rws hlw' hlw' (by omega)).mono ?_
    rintro e w48 ⟨rfl, t48⟩
    refine ⟨_, rfl, ?_⟩
    rw [bif_npos rfl]
    have hTL48 := hTL44.quiet t48
    have hob48 := own_up hob44 t48 (fun _ _ h => by cases h)
    refine (sameRows_c w48 l l rb xn rcb xa xn xc (own_rsl hob48 rwCs_one) hTL48.rws hlw' hlw' (by omega)).mono ?_
    rintro e w51 ⟨rfl, t51⟩
    refine ⟨_, rfl, ?_⟩
    rw [bif_npos rfl]
    refine ⟨[.slice ra xn rca, .slice rb xn rcb], rfl, ?_⟩
    rintro w54 rfl
    have hbox : Blk _ _ [Value.slice ra xn rca, .slice rb xn rcb] := Blk.fresh w51 (cs := [Value.slice ra xn rca, .slice rb xn rcb]) 55 rfl
    have q54 := (Tch.refl [] w51).alloc (.cells [Value.slice ra xn rca, .slice rb xn rcb].toArray 55)
    have s54 := size_alloc w51 (.cells [Value.slice ra xn rca, .slice rb xn rcb].toArray 55)
    generalize w51.alloc (.cells [Value.slice ra xn rca, .slice rb xn rcb].toArray 55) = w54 at *
    have q4454 := (t48.trans t51 (by simp)).trans q54 (by simp)
    have q3754 := q44.trans q4454 (by simp)
    have hoa54 := own_up hoa37 q3754 (fun _ _ h => by cases h)
    have hob54 := own_base (own_up hob2 q3754 (fun _ _ h => by cases h)) s34
    have s4451 := (q44.trans (t48.trans t51 (by simp)) (by simp)).size
    obtain ⟨lb, hlb⟩ : ∃ lb, w51.heap.size = lb := ⟨_, rfl⟩
    rw [hlb] at hbox ⊢
    have hAP : AP w54 w31.heap.size lb (fun i => if i = 0 then ra else rb) (fun _ => xn) (fun i => if i = 0 then rca else rcb) w54 (fun _ => l) := ⟨fun i hi => by
      match i, hi with
      | 0, _ => exact hoa54
      | 1, _ => exact hob54, hbox, Tch.refl _ _⟩
    have hrowa : ∀ k ∈ rowL ra, w31.heap.size ≤ k ∧ k < w34.heap.size := fun k hk => by
      rw [mem_rowL] at hk
      obtain ⟨z, hz, rfl⟩ := hk
      exact hga z hz
    have hrowb : ∀ k ∈ rowL rb, w34.heap.size ≤ k ∧ k < w37.heap.size := fun k hk => by
      rw [mem_rowL] at hk
      obtain ⟨z, hz, rfl⟩ := hk
      exact hgb z hz
    refine (apart_c hAP (fun za zb h1 h2 => ?_) (fun i hi hm => ?_) (by have := q3754.size; omega) (fun _ _ => by omega)).mono ?_
    · have g1 := (hga za h1).2
      have g2 := (hgb zb h2).1
      omega
    · match i, hi with
      | 0, _ => have := hrowa _ hm; omega
      | 1, _ => have := hrowb _ hm; omega
    rintro e w56 ⟨rfl, t56⟩
    refine ⟨_, rfl, ?_⟩
    rw [Bool.not_true, cond_false]
    have q3156 : Tch [] w31 w56 := ((t34.trans t37 (by simp)).trans q3754 (by simp)).trans t56 fun k hk => .inr (by
      rcases List.mem_append.1 hk with hk | hk
      · exact (hrowa k hk).1
      · have := (hrowb k hk).1; omega)
    have hTL56 := hTL.quiet q3156
    refine (rows_c w56 ta l hTL56.tree hok hTL56.hF (by omega)).mono ?_
    rintro e w59 ⟨rd, rcd, rfl, hod, t59⟩
    rw [hxn] at hod ⊢
    refine ⟨_, _, _, rfl, ?_⟩
    have hTL59 := hTL56.quiet t59
    refine (sameRows_c w59 l l rd xn rcd xa xn xc (own_rsl hod rwCs_one) hTL59.rws hlw' hlw' (by omega)).mono ?_
    rintro e w62 ⟨rfl, t62⟩
    refine ⟨_, rfl, ?_⟩
    rw [bif_npos rfl]
    exact (q3156.trans t59 (by simp)).trans t62 (by simp)
  clear hoa hoa37 hob2 hga hgb hTL34 hTL37 t34 t37
  intro w64 t64
  replace hTL := hTL.quiet t64
  replace hnd := hnd.tch t64 (fun _ _ h => by cases h)
  clear t64 t31
  have hdl : ∀ d : List Int, d.length = 32 → (u8 d).length = 32 := fun d hd => by rw [List.length_map]; exact hd
  refine ⟨fun m b i u => ∃ q : Nat, i = q ∧ q ≤ (nodesL l).length ∧ m = (nodesL l).length - q ∧ b = decide (∃ n ∈ (nodesL l).take q, (ofS n).1 = other) ∧ Tch [] w64 u, ⟨(nodesL l).length, 0, rfl, by omega, rfl, by rw [decide_eq_false (by simp)], Tch.refl _ _⟩, ?_⟩
  rintro m w67 b i ⟨q, rfl, hq, rfl, rfl, t67⟩
  have hTL67 := hTL.quiet t67
  have hnd67 := hnd.tch t67 (fun _ _ h => by cases h)
  by_cases hlt : q < (nodesL l).length
  · rw [bif_pos (by omega)]
    refine ⟨by omega, by omega, ?_⟩
    rw [Int.toNat_natCast]
    have hni : (nodesL l)[q]? = some ((nodesL l)[q]'hlt) := List.getElem?_eq_getElem hlt
    have htk : (nodesL l).take (q + 1) = (nodesL l).take q ++ [(nodesL l)[q]'hlt] := List.take_succ_eq_append_getElem hlt
    generalize (nodesL l)[q]'hlt = n0 at hni htk
    have hn0m := List.mem_of_getElem? hni
    have hn0 := hndok n0 hn0m
    refine hnd67.elem (nodes_cells hndok) (by omega) hni ?_
    refine (refOf_c n0 hn0 w67).mono ?_
    rintro e w73 ⟨rfl, t73⟩
    refine ⟨_, _, rfl, _, rfl, _, rfl, ?_⟩
    have hd0 := ofS_length n0
    refine var_init (n := 32) (by rw [zcDig]; rfl) (hdl _ hd0) ones_ints fun w78 w79 hdg t79 s79 => ?_
    have q79 := t73.trans t79 (by simp)
    have hTL79 := hTL67.quiet q79
    refine get_all hdg (hdl _ hd0) ?_
    refine (treeNode_c w79 ta l hTL79.tree (ofS n0).1 hd0 (ofS_bytes n0)).mono ?_
    rintro e w82 ⟨hNR, t82⟩
    obtain ⟨nd, okb, rfl, hndo, hokb, hz, hin⟩ := hNR.out hok
    have hok1 : okb = true := by rw [hokb]; exact decide_eq_true ⟨n0, hn0m, rfl⟩
    subst hok1
    obtain ⟨hndm, hnde⟩ := hin rfl
    refine ⟨_, _, rfl, _, rfl, _, rfl, ?_⟩
    have hnl := cells_len hndo.ll hndo.rl
    refine var_init (n := 69) (by rw [zcNd]; rfl) hnl cell_ones fun w87 w88 hnv t88 s88 => ?_
    have q88 := (q79.trans t82 (by simp)).trans t88 (by simp)
    have hTL88 := hTL67.quiet q88
    have hdg88 := (hdg.tch t82 (by simp)).tch t88 (by simp)
    refine ⟨fun b' u => b' = (decide (∃ n ∈ (nodesL l).take q, (ofS n).1 = other) || decide ((ofS n0).1 = other)) ∧ u = w88, ?_, ?_⟩
    · by_cases hb : ∃ n ∈ (nodesL l).take q, (ofS n).1 = other
      · rw [decide_eq_true hb, cond_true]
        exact ⟨by rw [Bool.true_or], rfl⟩
      · rw [decide_eq_false hb, cond_false]
        refine get_all hdg88 (hdl _ hd0) ?_
        refine get_all hTL88.oth (hdl _ hol) ?_
        refine eq_flat_d dig_flat dig_eqT (dig_fits hd0 (ofS_bytes n0)) (dig_fits hol hob) (p := (ofS n0).1 = other) ⟨fun h => map_u8_inj h, fun h => by rw [h]⟩ ?_
        exact ⟨by rw [Bool.false_or], rfl⟩
    rintro w93 b' ⟨rfl, hw⟩
    rw [hw]
    clear hw
    refine ⟨fun b' u => b' = (!decide (nd = n0)) ∧ Tch [] w88 u, ?_, ?_⟩
    · rintro w96 rfl
      have td := (Tch.refl [] w88).drew
      generalize w88.drew = w96 at *
      rw [Bool.not_true, cond_false]
      refine get_all (hnv.tch td (by simp)) hnl ⟨by omega, by omega, ?_⟩
      refine ((hnd67.tch q88 (fun _ _ h => by cases h)).tch td (fun _ _ h => by cases h)).elem (nodes_cells hndok) (by omega) hni ?_
      exact neq_flat_d nd_flat nd_eqT (Nd.fits hndo) (Nd.fits hn0) (nd_inj hndo hn0) ⟨rfl, td⟩
    rintro w101 b' ⟨rfl, t101⟩
    have q101 := q88.trans t101 (by simp)
    by_cases hne : nd = n0
    · rw [bif_npos hne]
      refine ⟨(nodesL l).length - (q + 1), by omega, q + 1, by rw [wrap_i64 (by omega) (by omega)]; omega, by omega, rfl, ?_, t67.trans q101 (by simp)⟩
      rw [htk, ← Bool.decide_or]
      refine decide_eq_decide.2 ⟨?_, ?_⟩
      · rintro (⟨n, hn, he⟩ | he)
        · exact ⟨n, List.mem_append_left _ hn, he⟩
        · exact ⟨n0, by simp, he⟩
      · rintro ⟨n, hn, he⟩
        rcases List.mem_append.1 hn with hn | hn
        · exact .inl ⟨n, hn, he⟩
        · rw [List.mem_singleton] at hn; rw [hn] at he; exact .inr he
    · rw [bif_nneg hne]
      have hcol := nodes_collide hok hndm hn0m hnde hne
      refine (texts_c w101 (nodesL l) nda _ ndc (hnd67.tch q101 (fun _ _ h => by cases h)) hndok (by omega)).mono ?_
      rintro e w104 ⟨tax, tcx, rfl, htx, t104⟩
      refine ⟨_, _, _, rfl, ?_⟩
      have htl := textsS_len (nodesL l)
      refine (collide_c w104 (textsS (nodesL l)) tax tcx htx (textsS_ok hndok) (by omega)).mono ?_
      rintro e w107 ⟨rfl, t107⟩
      exact ⟨_, rfl, by rw [decide_eq_true hcol], ((hTL67.tch.trans q101 (by simp)).trans t104 (by simp)).trans t107 (by simp)⟩
  rw [bif_neg (by omega)]
  obtain rfl : q = (nodesL l).length := by omega
  rw [List.take_length]
  refine get_all hTL67.oth (hdl _ hol) ?_
  refine (treeNode_c w67 ta l hTL67.tree other hol hob).mono ?_
  rintro e w112 ⟨hNR, t112⟩
  obtain ⟨nd, okb, rfl, hndo, hokb, hz, hin⟩ := hNR.out hok
  refine ⟨_, _, rfl, _, rfl, _, rfl, ?_⟩
  have hnl := cells_len hndo.ll hndo.rl
  refine var_init (n := 69) (by rw [zcNd]; rfl) hnl cell_ones fun w117 w118 hnv t118 s118 => ?_
  replace t112 := t112.trans t118 (by simp)
  refine ⟨fun u => u = w118, ?_, ?_⟩
  · rw [← hokb, show (!(okb == okb)) = false by cases okb <;> rfl, cond_false]
    cases okb with
    | true => exact rfl
    | false =>
      rw [Bool.not_false, cond_true]
      refine get_all hnv hnl ⟨Nd.zero.cells, by rw [zcNd]; rfl, ?_⟩
      refine neq_flat_d nd_flat nd_eqT (Nd.fits hndo) (Nd.fits Nd.zero_ok) (nd_inj hndo Nd.zero_ok) ?_
      rw [bif_npos (hz rfl)]
  rintro w123 hw
  rw [hw]
  clear hw w123
  replace hTL := hTL67.quiet t112
  clear hTL67 hnd67 hnd hnv hndok hndl hokb hz hin t112 t118 s118 hnl
  refine ⟨fun m i u => ∃ q : Nat, i = q ∧ q ≤ nn ∧ m = nn - q ∧ Tch [] w118 u, ⟨nn, 0, rfl, by omega, rfl, Tch.refl _ _⟩, ?_⟩
  rintro m w126 i ⟨q, rfl, hq', rfl, t126⟩
  by_cases hlt' : q < nn
  rotate_left
  · rw [bif_neg (by omega)]
    exact ⟨rfl, hTL.tch.trans t126 (by simp)⟩
  have hTL126 := hTL.quiet t126
  rw [bif_pos (by omega)]
  have hki' : ks[q]? = some (ks[q]'(by omega)) := List.getElem?_eq_getElem (by omega)
  generalize ks[q]'(by omega) = k at hki'
  obtain ⟨b0, o0, rfl, ck⟩ := hTL126.nam.elem' Lib.kC_len (by omega) hki'
  have ckA : ∀ {u : World}, Tch [] w126 u → Cells u (Addr.add ⟨b0, o0, none⟩ (Int.toNat (q : Int) * 2)) (Lib.kC k) := fun {u} hu => by
    rw [Int.toNat_natCast, add_mk]
    exact cells_tch ck hu
  refine ⟨by omega, by omega, Lib.kC k, rfl, ckA (Tch.refl _ _), ?_⟩
  refine (prove_c w126 ta l hTL126.tree hok hTL126.hF (by omega) k).mono ?_
  rintro e w131 hPR
  have t131 := hPR.1
  obtain ⟨P, a1, n1, c1, er, rfl, ho1, hPo, hn1, hPn, hPe⟩ := ProveR.out hok hPR
  refine ⟨_, _, rfl, _, rfl, _, rfl, ?_⟩
  have s131 := t131.size
  refine var_init (n := 5) (by rw [zcPf2]; rfl) rfl (by simp [one]) fun w136 w137 hp1 t137 s137 => ?_
  have q137 := t131.trans t137 (by simp)
  have hTL137 := hTL126.quiet q137
  obtain ⟨pb1, hpb1⟩ : ∃ pb1, w131.heap.size = pb1 := ⟨_, rfl⟩
  rw [hpb1] at hp1 s137 s131 ⊢
  have hg1 := own_ge ho1
  rw [hpb1] at hg1
  refine ⟨by omega, by omega, Lib.kC k, rfl, ckA q137, ?_⟩
  refine (prove_c w137 ta l hTL137.tree hok hTL137.hF (by omega) k).mono ?_
  rintro e w141 hPR2
  have t141 := hPR2.1
  obtain ⟨P2, a2, n2, c2, er2, rfl, ho2, hPo2, hn2, hPn2, hPe2⟩ := ProveR.out hok hPR2
  refine ⟨_, _, rfl, _, rfl, _, rfl, ?_⟩
  have s141 := t141.size
  refine var_init (n := 5) (by rw [zcPf2]; rfl) rfl (by simp [one]) fun w146 w147 hp2 t147 s147 => ?_
  obtain ⟨pb2, hpb2⟩ : ∃ pb2, w141.heap.size = pb2 := ⟨_, rfl⟩
  rw [hpb2] at hp2 s147 s141 ⊢
  have hg2 := own_ge ho2
  rw [hpb2] at hg2
  rintro w148 rfl
  have td := (Tch.refl [] w147).drew
  have q148 := (t141.trans t147 (by simp)).trans td (by simp)
  replace hp2 := hp2.tch td (by simp)
  have hp1' := hp1.tch q148 (by simp)
  have ho1' := own_up (own_up ho1 t137 (fun _ _ h => by cases h)) q148 (fun _ _ h => by cases h)
  have ho2' := own_up ho2 (t147.trans td (by simp)) (fun _ _ h => by cases h)
  have hTL148 := hTL137.quiet q148
  have s148 := q148.size
  have hs148 : w147.drew.heap.size = pb2 + 1 := s147
  have q126_148 := q137.trans q148 (by simp)
  clear td t147 t137
  generalize w147.drew = w148 at *
  refine ⟨by omega, by omega, Lib.kC k, rfl, ckA q126_148, ?_⟩
  refine get_all hp1' rfl ?_
  refine (num_c er w148).mono ?_
  rintro e w153 ⟨rfl, hw⟩
  rw [hw]
  clear hw
  refine ⟨_, rfl, get_all hp1' rfl ⟨rfl, rfl⟩, ⟨Lib.kC k, rfl, ckA q126_148, rfl, rfl⟩, ?_⟩
  refine (proves_c w148 l xa xn xc hTL148.rws hok (by omega) k P a1 n1 c1 ⟨hPo, own_rsl ho1' fkCs_one⟩ er hPe).mono ?_
  rintro e w158 ⟨rfl, t158⟩
  refine ⟨_, rfl, ?_⟩
  rw [Bool.not_true, cond_false]
  have hp1'' := hp1'.tch t158 (by simp)
  have hp2'' := hp2.tch t158 (by simp)
  have ho1'' := own_up ho1' t158 (fun _ _ h => by cases h)
  have ho2'' := own_up ho2' t158 (fun _ _ h => by cases h)
  have hTL158 := hTL148.quiet t158
  have q126_158 := q126_148.trans t158 (by simp)
  have s158 := t158.size
  have hrow1 : ∀ z ∈ rowL a1, w126.heap.size ≤ z ∧ z < pb1 := fun z hz => by
    rw [mem_rowL] at hz
    obtain ⟨y, hy, rfl⟩ := hz
    exact hg1 y hy
  -- its holder writes it over
  refine ⟨fun m i u => ∃ (j : Nat) (xs : List Value), i = j ∧ j ≤ n1 ∧ m = n1 - j ∧ u.ownsRow w126.heap.size 51 33 (.slice a1 n1 c1) n1 xs ∧ Tch (rowL a1) w158 u, ⟨n1, 0, _, rfl, by omega, rfl, ho1'', Tch.refl _ _⟩, ?_⟩
  rintro m w162 i ⟨j, xs, rfl, hj, rfl, hox, t162⟩
  have hp1c := hp1''.tch t162 (fun hm => by have := hrow1 _ hm; omega)
  refine ⟨a1, n1, c1, by rw [add_mk]; exact hp1c.cell 0, ?_⟩
  by_cases hjl : j < n1
  · rw [bif_pos (by omega)]
    refine ⟨a1, n1, c1, by rw [add_mk]; exact hp1c.cell 0, by omega, by omega, ?_⟩
    rw [Int.toNat_natCast]
    have hxl : xs.length = n1 * 33 := hox.1
    obtain ⟨g, hA, g1, g2, g3, g4⟩ := own_set hox (o := j * 33) (by omega) (v := .int .i64 (-9)) rfl
    rw [hA]
    show _ ∧ _
    rw [add_mk, add_mk, Nat.zero_add, Nat.add_zero]
    refine ⟨rfl, g1, g2, ?_⟩
    rintro w167 rfl
    refine ⟨n1 - (j + 1), by omega, j + 1, _, by rw [wrap_i64 (by omega) (by omega)]; omega, by omega, rfl, by rw [← hA]; exact g3, by rw [← hA]; exact t162.trans g4 (by rw [hA]; simp [rowL])⟩
  rw [bif_neg (by omega)]
  rintro w169 rfl
  have td := (Tch.refl [] w162).drew
  have q126_162 : Tch [] w126 w162 := q126_158.trans t162 fun z hz => .inr (hrow1 z hz).1
  have q126_169 := q126_162.trans td (by simp)
  have hp2c := (hp2''.tch t162 (fun hm => by have := hrow1 _ hm; omega)).tch td (by simp)
  have ho2c := own_up (own_up ho2'' t162 (fun kk hkk hm => by have := (own_lt ho2 hkk).1; have := hrow1 _ hm; omega)) td (fun _ _ h => by cases h)
  clear td
  generalize w162.drew = w169 at *
  have hTL169 := hTL126.quiet q126_169
  refine ⟨by omega, by omega, Lib.kC k, rfl, ckA q126_169, ?_⟩
  refine get_all hp2c rfl ?_
  refine (num_c er w169).mono ?_
  rintro e w174 ⟨rfl, hw⟩
  rw [hw]
  clear hw
  refine ⟨_, rfl, get_all hp2c rfl ⟨rfl, rfl⟩, ⟨Lib.kC k, rfl, ckA q126_169, rfl, rfl⟩, ?_⟩
  have hPe3 : if Lib.KeyOk k.1 then er = 0 ∧ P2 = proofS (Sha.keyB k.1 k.2) l else er = 20 ∧ P2 = ⟨[], false, 0, 0, 0⟩ := by
    by_cases hk : Lib.KeyOk k.1
    · rw [if_pos hk] at hPe hPe2 ⊢
      exact ⟨hPe.1, hPe2.2⟩
    · rw [if_neg hk] at hPe hPe2 ⊢
      exact ⟨hPe.1, hPe2.2⟩
  refine (proves_c w169 l xa xn xc hTL169.rws hok (by omega) k P2 a2 n2 c2 ⟨hPo2, own_rsl ho2c fkCs_one⟩ er hPe3).mono ?_
  rintro e w179 ⟨rfl, t179⟩
  refine ⟨_, rfl, ?_⟩
  rw [Bool.not_true, cond_false]
  exact ⟨nn - (q + 1), by omega, q + 1, by rw [wrap_i64 (by omega) (by omega)]; omega, by omega, rfl, (t126.trans q126_169 (by simp)).trans t179 (by simp)⟩
end Go.Proofs.YtjkbjppopdfggaaDoor.Tre
namespace Go.Proofs.YtjkbjppopdfggaaDoor.TreesCard
open Go Den Fn Sha Tre
open Go.ChangeShapes Go.WideShapes Go.ChangeAt Go.RowKit
theorem params : Tryd.f7.params = #[55, 67, 24] := by kernel_rfl
set_option maxRecDepth 100000 in
theorem contract (H : Type) (enc : TypeId × Value → H) (W : World) (base : Nat) (args : Array Value) (ds gs : List (DataW H)) (before : List MemPlace)
    (hval : ∀ (j : Nat) t v, Tryd.f7.params[j]? = some t → args[j]? = some v → Value.okWide Tryd.prog W .any base t v)
    (hW : DataW.Whole enc Tryd.prog Tryd.f7.params.toList Rows.proofTreesSpec.vars false W args.toList ds gs before)
    (hL : laidMetH Tryd.prog Rows.proofTreesRow.laid W) :
    Calls Tryd.prog 7 args W fun e W' => ∃ v, e = .returned v ∧ Rows.proofTreesSpec.post enc Tryd.prog Tryd.f7 false true false false W args v W' := by
  have hW' := hW
  obtain ⟨p, q, hA0, hV, rfl, hfz, hnd⟩ := hW
  have hA : DataW.TrodAll enc Tryd.prog W 0 (fun _ => true) true Tryd.f7.params.toList args.toList ds p := hA0
  rw [params] at hA hval
  obtain ⟨v0, vs0, d0, ds0, p0, q0, hargs, rfl, rfl, h0, r0⟩ := trodAll_cons hA
  obtain ⟨v1, vs1, d1, ds1, p1, q1, rfl, rfl, rfl, h1, r1⟩ := trodAll_cons r0
  obtain ⟨v2, vs2, d2, ds2, p2, q2, rfl, rfl, rfl, h2, r2⟩ := trodAll_cons r1
  obtain ⟨rfl, rfl, rfl⟩ := trodAll_nil r2
  obtain rfl : args = #[v0, v1, v2] := by cases args; simp_all
  obtain ⟨rfl, rfl⟩ := trodVars_none hV
  obtain ⟨a, na, ca, la, rfl, hra, hla⟩ := rows_open (open_slR uRows rowsShape (hval 0 55 v0 rfl rfl) h0)
  obtain ⟨b, nb, cb, kb, rfl, hrb, hkb, hnb⟩ := keys_open (open_slR uKeys keysShape (hval 1 67 v1 rfl rfl) h1)
  obtain ⟨cs, rfl, hF⟩ := open_agg dig_flat dig_eqT (hval 2 24 v2 rfl rfl) h2
  obtain ⟨other, rfl, hol, hob⟩ := hF.of_ints
  refine (trees_law W la a na ca kb b nb cb other hra hla hrb hkb hnb hol (fun x hx => u8_wf.1 (hob x hx)) (laidTabs hL)).mono fun e W' ⟨he, hb⟩ => ?_
  subst he
  exact ⟨_, rfl, post_true laidOk (by rw [params]; intro t ht; simp at ht; rcases ht with rfl | rfl | rfl <;> exact ⟨by kernel_rfl, of_decide_eq_true (by kernel_rfl)⟩) uBool (by kernel_rfl) hW' rfl ⟨rfl, rfl, rfl⟩ hb.below⟩

noncomputable abbrev arg2 : Value := .agg (u8 z32).toArray
def zero2 {H : Type} : DataW H := .agg (List.replicate 32 (.lit (.int .u8 0)))
theorem laid_met (os : Os) : laidMet Tryd.prog Rows.proofTreesRow.laid ((laidWorld os).forCall (fun _ _ => 0) ⟨#[], #[.slice none 0 0, .slice none 0 0, arg2], []⟩).memory :=
  laidMet_of_run' 8 (by kernel_rfl) (by kernel_rfl)
theorem reads (os : Os) {H : Type} (enc : TypeId × Value → H) : ∃ places, DataW.whole enc Tryd.prog ((laidWorld os).forCall (fun _ _ => 0) ⟨#[], #[.slice none 0 0, .slice none 0 0, arg2], []⟩).memory Tryd.f7.params.toList Rows.proofTreesSpec.vars false #[Value.slice none 0 0, Value.slice none 0 0, arg2].toList 8 = some ([.nil, .nil, zero2], [], places) :=
  ⟨[], by kernel_rfl⟩

set_option maxRecDepth 100000 in
theorem lifted (os : Os) (started : os.Started) (H : Type) (enc : TypeId × Value → H) (F : Stop.Interp) :
    ReturnsInHanded {} Tryd.checked os 7 .any ((OpenSpec.ofChange Rows.proofTreesSpec).preRow enc Tryd.prog Tryd.f7 Rows.proofTreesRow.domain false Rows.proofTreesRow.laid) (((OpenSpec.ofChange Rows.proofTreesSpec).at F).post enc Tryd.prog Tryd.f7 false true false false) := by
  obtain ⟨places, hx⟩ := reads os enc
  refine returnsInHanded_of_row (C := Tryd.checked) (s := OpenSpec.ofChange Rows.proofTreesSpec) own started (by kernel_rfl) Tryd.func7
    (witness_row_at (enc := enc) (C := Tryd.checked) false (laidWorld os) #[.slice none 0 0, .slice none 0 0, arg2] rfl (by kernel_rfl) (by kernel_rfl) (by kernel_rfl)
      (OpenSpec.preRow_of_cond 8 hx (by kernel_rfl) (fun k hk => by cases hk) (by kernel_rfl) (laid_met os))) ?_
  intro W base args ds gs before hval hW _ _ _ hL _ _
  exact contract H enc W base args ds gs before hval hW hL

theorem said : Rows.ProofTreesSaid :=
  OpenClaim.holds_of_cond 7 Tryd.f7 rfl rfl rfl rfl rfl rfl rfl ⟨rfl, rfl, rfl, rfl, rfl⟩ rfl rfl rfl rfl rfl (by kernel_rfl) Tryd.func7 (by kernel_rfl)
    (of_decide_eq_true (by kernel_rfl)) (by unfold Func.isWrapper; first | (rw [if_pos (by decide +kernel)]; kernel_rfl) | (rw [if_neg (by decide +kernel)]; exact ⟨rfl, rfl⟩))
    (fun os started H enc _ F => by rw [OpenClaim.pre_eq_preRow]; exact lifted os started H enc F)

theorem plain (f : FuncId) (fn : Func) (hf : Tryd.pinned.checked.prog.funcNamed "prelude/preludelaw24.ProofTrees" = some f) (hfn : Tryd.pinned.checked.prog.funcs[f]? = some fn) :
    false = Tryd.pinned.checked.prog.looks [] ∧ ∀ (j : Nat) t, fn.params[j]? = some t → Tryd.pinned.checked.prog.wantsStandIn t = false := by
  obtain rfl : f = 7 := Option.some.inj ((show Tryd.prog.funcNamed "prelude/preludelaw24.ProofTrees" = some 7 by kernel_rfl).symm.trans hf) |>.symm
  obtain rfl : fn = Tryd.f7 := (Option.some.inj (Tryd.func7.symm.trans hfn)).symm
  refine ⟨by kernel_rfl, fun j t ht => ?_⟩
  rw [params] at ht
  have : t = 55 ∨ t = 67 ∨ t = 24 := by simpa using Array.mem_of_getElem? ht
  rcases this with rfl | rfl | rfl
  · exact (show Tryd.prog.wantsStandIn 55 = false by kernel_rfl)
  · exact (show Tryd.prog.wantsStandIn 67 = false by kernel_rfl)
  · exact (show Tryd.prog.wantsStandIn 24 = false by kernel_rfl)

/-- The card of ProofTrees. -/
theorem card : Rows.ProofTreesCardSaid :=
  Claim7.holds_tied_plain_at .later [] _ _ _ _ said (fun _ h => by cases h) (by kernel_rfl) (fun _ h => by cases h) proofTrees_row_tie rfl ⟨rfl, rfl⟩ (by kernel_rfl) rfl plain (by kernel_rfl)
end Go.Proofs.YtjkbjppopdfggaaDoor.TreesCard
