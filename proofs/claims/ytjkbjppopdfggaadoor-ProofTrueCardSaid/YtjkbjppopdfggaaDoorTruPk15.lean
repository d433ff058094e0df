/-
  TREES OVER ROWS, THE REFERENCE's: Root, Prove: contracts.
  THE LAWS' HELPERS: texts, collide, sameRows: contracts.
  THE LAWS' HELPERS: sameRows, sameProof, proves, back: contracts.
  THE LAW OF DIFFERENCES: ProofDiffs answers yes.
  THE LAWS' HELPERS: back, apart: contracts.
  THE LAW OF TREES: ProofTrees answers yes.
  TREES OVER ROWS, WHAT THE BITS SAY: the lower rows have the bit not set, the upper ones have it; ranks rise; a proof leads to its row (plain functions).
  TWO UNLIKE TREES, OR A TREE AND A FORGED PROOF, WITH ONE DIGEST: then two unlike texts have one digest (plain functions).
  The reference's Verify; the law ProofVerifies answers true.
  Own work. No macro, syntax, notation, axiom.
-/
import Derived.Test.YtjkbjppopdfggaaDoorTruPk14
import Derived.Test.YtjkbjppopdfggaaDoorTruPk13
import Derived.Test.YtjkbjppopdfggaaDoorTruPk12
namespace Go.Proofs.YtjkbjppopdfggaaDoor.Tre
open Go Den Fn Sha
open Go.RowKit (Below)
open Classical
set_option maxRecDepth 8000
set_option maxHeartbeats 4000000
/-- The state of the reference's walk. -/
structure RI (w : World) (kb0 ob pb : Nat) (k : Int × Int) (l : List Rw) (u : World) (lx : List Rw) (x : Option Addr) (xn xc : Nat) (fs : List Fk) (pa : Option Addr) (pc : Nat) : Prop where
  key : Blk u kb0 (Lib.kC k)
  out : Blk u ob (pfC none 0 0 ⟨[], false, 0, 0, 0⟩)
  prf : Blk u pb (pfC pa fs.length pc ⟨fs, false, 0, 0, 0⟩)
  own : u.ownsRow (pb + 1) 51 33 (.slice pa fs.length pc) fs.length (rows fkC fs)
  rws : RSl u 3 x xn xc (rows rwC lx)
  rof : lx = [] ∨ ∀ z, x = some z → z.block < kb0
  tch : Tch [] w u
  lo : w.heap.size ≤ kb0 ∧ kb0 < ob ∧ ob < pb ∧ pb < u.heap.size
theorem RI.quiet {w u u' : World} {kb0 ob pb : Nat} {k : Int × Int} {l lx : List Rw} {x pa : Option Addr} {xn xc pc : Nat} {fs : List Fk} (h : RI w kb0 ob pb k l u lx x xn xc fs pa pc) (ht : Tch [] u u') : RI w kb0 ob pb k l u' lx x xn xc fs pa pc :=
  ⟨h.key.tch ht (by simp), h.out.tch ht (by simp), h.prf.tch ht (by simp), own_up h.own ht (fun _ _ h => by cases h), h.rws.tch ht (fun _ _ h => by cases h), h.rof, h.tch.trans ht (by simp), h.lo.1, h.lo.2.1, h.lo.2.2.1, by have := ht.size; have := h.lo.2.2.2; omega⟩
end Go.Proofs.YtjkbjppopdfggaaDoor.Tre
namespace Go.Proofs.YtjkbjppopdfggaaDoor.Tre
open Go Den Fn Sha
open Go.RowKit (Below)
open Classical
set_option maxRecDepth 8000
set_option maxHeartbeats 4000000
/-! ### texts -/
def textN (n : Nd) : Option (List Int) := if n.kind = 0 then none else textS n
def textsS (l : List Nd) : List (List Int) := l.filterMap textN
theorem textsS_snoc {l : List Nd} {i : Nat} {x : Nd} (h : l[i]? = some x) : textsS (l.take (i + 1)) = textsS (l.take i) ++ (match textN x with | some t => [t] | none => []) := by
  obtain ⟨hi, rfl⟩ := List.getElem?_eq_some_iff.1 h
  rw [List.take_succ_eq_append_getElem hi]
  unfold textsS
  rw [List.filterMap_append]
  congr 1
  cases hx : textN (l[i]) with
  | none => simp [hx]
  | some t => simp [hx]
theorem textsS_ok {l : List Nd} (h : ∀ n ∈ l, n.ok) : ∀ t ∈ textsS l, t.length ≤ 66 ∧ Bytes t := fun t ht => by
  obtain ⟨n, hn, hnt⟩ := List.mem_filterMap.1 ht
  unfold textN at hnt
  split at hnt
  · cases hnt
  · exact text_len (h n hn) hnt
theorem textsS_len (l : List Nd) : (textsS l).length ≤ l.length := List.length_filterMap_le _ _
/-- Rows of bytes, as they grow. -/
def TIn (u : World) (x : Option Addr) (vs : List Value) (ts : List (List Int)) : Prop := vs.length = ts.length ∧ ∀ (i : Nat) (t : List Int), ts[i]? = some t → ∃ b d, vs[i]? = some (.slice b t.length d) ∧ RSl u 1 b t.length d (u8 t) ∧ Off (rowL x) b ∧ (∀ z, b = some z → z.block < u.heap.size)
theorem TIn.quiet {u u' : World} {x : Option Addr} {vs : List Value} {ts : List (List Int)} (h : TIn u x vs ts) (ht : Tch [] u u') : TIn u' x vs ts := ⟨h.1, fun i y hy => by
  obtain ⟨b, d, h1, h2, h3, h4⟩ := h.2 i y hy
  exact ⟨b, d, h1, h2.tch ht (fun _ _ h => by cases h), h3, fun z hz => Nat.lt_of_lt_of_le (h4 z hz) ht.size⟩⟩
theorem TIn.grow {u u' : World} {x x' : Option Addr} {vs : List Value} {ts : List (List Int)} (h : TIn u x vs ts) (ht : Tch (rowL x) u u') (hm : Moved x x' u.heap.size) : TIn u' x' vs ts := ⟨h.1, fun i y hy => by
  obtain ⟨b, d, h1, h2, h3, h4⟩ := h.2 i y hy
  refine ⟨b, d, h1, h2.tch ht h3, fun z hz hmem => ?_, fun z hz => Nat.lt_of_lt_of_le (h4 z hz) ht.size⟩
  rw [mem_rowL] at hmem
  obtain ⟨q, hq, he⟩ := hmem
  rcases hm q hq with h5 | h5
  · rw [he] at h5; exact h3 z hz h5
  · have := h4 z hz; omega⟩
theorem TIn.snoc {u : World} {x : Option Addr} {vs : List Value} {ts : List (List Int)} {t : List Int} {b : Option Addr} {d : Nat} (h : TIn u x vs ts) (h2 : RSl u 1 b t.length d (u8 t)) (h3 : Off (rowL x) b) (h4 : ∀ z, b = some z → z.block < u.heap.size) : TIn u x (vs ++ [.slice b t.length d]) (ts ++ [t]) := ⟨by simp [h.1], fun i y hy => by
  rw [List.getElem?_append] at hy
  split at hy
  · rename_i hlt
    obtain ⟨b', d', g1, g2⟩ := h.2 i y hy
    exact ⟨b', d', by rw [List.getElem?_append_left (by rw [h.1]; exact hlt)]; exact g1, g2⟩
  · rename_i hge
    have : i = ts.length := by
      by_cases e : i - ts.length = 0
      · omega
      · rw [List.getElem?_eq_none (by show 1 ≤ _; omega)] at hy; cases hy
    subst this
    rw [Nat.sub_self] at hy
    cases hy
    exact ⟨b, d, by rw [List.getElem?_append_right (by rw [h.1]; exact Nat.le_refl _), h.1, Nat.sub_self]; rfl, h2, h3, h4⟩⟩
/-- Rows of bytes in memory. -/
def TextsAt (w : World) (a : Option Addr) (c : Nat) (ts : List (List Int)) : Prop := ∃ vs : List Value, RSl w 1 a ts.length c vs ∧ vs.length = ts.length ∧ ∀ (i : Nat) (t : List Int), ts[i]? = some t → ∃ b d, vs[i]? = some (.slice b t.length d) ∧ RSl w 1 b t.length d (u8 t)
theorem TextsAt.quiet {w w' : World} {a : Option Addr} {c : Nat} {ts : List (List Int)} (h : TextsAt w a c ts) (ht : Tch [] w w') : TextsAt w' a c ts := by
  obtain ⟨vs, h1, h2, h3⟩ := h
  refine ⟨vs, h1.tch ht (fun _ _ h => by cases h), h2, fun i x hx => ?_⟩
  obtain ⟨b, d, g1, g2⟩ := h3 i x hx
  exact ⟨b, d, g1, g2.tch ht (fun _ _ h => by cases h)⟩
theorem TextsAt.get {w : World} {a : Option Addr} {c : Nat} {ts : List (List Int)} (h : TextsAt w a c ts) {i : Nat} {t : List Int} (hx : ts[i]? = some t) : ∃ y b d, a = some y ∧ World.cell? w (Addr.add y (i * 1)) = some (.slice b t.length d) ∧ RSl w 1 b t.length d (u8 t) := by
  obtain ⟨vs, h1, h2, h3⟩ := h
  obtain ⟨b, d, g1, g2⟩ := h3 i t hx
  obtain ⟨b', o', e, hc⟩ := h1.get1 g1
  refine ⟨_, b, d, e, ?_, g2⟩
  rw [add_mk, Nat.mul_one]
  exact hc
theorem texts_c (w : World) (l : List Nd) (a : Option Addr) (n c : Nat) (hr : RSl w 69 a n c (rows Nd.cells l)) (hl : ∀ x ∈ l, x.ok) (hN : n ≤ 10000000000) :
    Calls Tryd.prog 38 #[.slice a n c] w fun e w' => ∃ a' c', e = .returned (.slice a' (textsS l).length c') ∧ TextsAt w' a' c' (textsS l) ∧ Tch [] w w' := by
  have hn := hr.count (nodes_cells hl) (by omega)
  refine c38 _ _ _ ?_
  unfold d38
  refine ⟨fun m x xn xc i u => ∃ (q : Nat) (vs : List Value), i = q ∧ q ≤ n ∧ m = n - q ∧ xn = (textsS (l.take q)).length ∧ u.ownsRow w.heap.size 22 1 (.slice x xn xc) xn vs ∧ TIn u x vs (textsS (l.take q)) ∧ Tch [] w u, ⟨n, 0, [], rfl, by omega, rfl, rfl, own_nil _ _ _ _, ⟨rfl, by simp [textsS]⟩, Tch.refl _ _⟩, ?_⟩
  rintro m w3 x xn xc i ⟨q, vs, rfl, hq, rfl, rfl, hown, hT, ht⟩
  have s3 := ht.size
  by_cases hlt : q < n
  rotate_left
  · rw [bif_neg (by omega)]
    obtain rfl : q = n := by omega
    rw [show l.take q = l from List.take_of_length_le (by omega)] at *
    refine ⟨x, xc, rfl, ⟨vs, own_rsl hown fun v hv => ?_, hT.1, fun i t h => ?_⟩, ht⟩
    · obtain ⟨i, hi⟩ := List.getElem?_of_mem hv
      have hil := (List.getElem?_eq_some_iff.1 hi).1
      have hlen := hT.1
      obtain ⟨b, d, h1, _⟩ := hT.2 i _ (List.getElem?_eq_getElem (by omega))
      rw [hi] at h1
      cases h1
      rfl
    · obtain ⟨b, d, h1, h2, _⟩ := hT.2 i t h
      exact ⟨b, d, h1, h2⟩
  rw [bif_pos (by omega)]
  refine ⟨by omega, by omega, ?_⟩
  rw [Int.toNat_natCast]
  have hli : l[q]? = some (l[q]'(by omega)) := List.getElem?_eq_getElem (by omega)
  generalize l[q]'(by omega) = y at hli
  have hy := hl y (List.mem_of_getElem? hli)
  have hsn := textsS_snoc hli
  have hlen := textsS_len (l.take q)
  rw [List.length_take] at hlen
  obtain ⟨b0, o0, rfl, ck⟩ := (hr.tch ht (fun _ _ h => by cases h)).elem' (nodes_cells hl) (by omega) hli
  refine ⟨y.cells, cells_len hy.ll hy.rl, by rw [add_mk]; exact ck, ?_⟩
  refine (text_c y hy w3).mono ?_
  rintro e w9 ⟨t9, hm⟩
  have hown9 := own_up hown t9 (fun _ _ h => by cases h)
  have hT9 := hT.quiet t9
  have s9 := t9.size
  have q9 := ht.trans t9 (by simp)
  have hxold := own_ge hown
  cases hts : textS y with
  | none =>
    rw [hts] at hm
    subst hm
    have hno : textN y = none := by unfold textN; split; rfl; exact hts
    rw [hno] at hsn
    rw [List.append_nil] at hsn
    refine ⟨_, _, _, _, rfl, _, _, _, rfl, _, rfl, ?_⟩
    refine ⟨fun b u => b = false ∧ u = w9, ⟨rfl, rfl⟩, ?_⟩
    rintro u _ ⟨rfl, hu⟩
    rw [hu]
    show (∃ m25, _)
    exact ⟨n - (q + 1), by omega, q + 1, vs, by rw [wrap_i64 (by omega) (by omega)]; omega, by omega, rfl, by rw [hsn], hown9, by rw [hsn]; exact hT9, q9⟩
  | some t =>
    rw [hts] at hm
    obtain ⟨ta, tc, rfl, hot⟩ := hm
    refine ⟨_, _, _, _, rfl, _, _, _, rfl, _, rfl, ?_⟩
    have hto := own_ge hot
    refine ⟨fun b u => b = (!decide (y.kind = 0)) ∧ u = w9, ?_, ?_⟩
    · show _ ∧ _
      refine ⟨by omega, by omega, y.kind, ?_, rfl, rfl⟩
      have := cells_get (cells_tch ck t9) (i := 0) (v := .int .i64 y.kind) rfl
      rw [add_mk, add_mk]
      exact this
    rintro u _ ⟨rfl, hu⟩
    rw [hu]
    by_cases hk : y.kind = 0
    · rw [decide_eq_true hk]
      have hno : textN y = none := by unfold textN; rw [if_pos hk]
      rw [hno, List.append_nil] at hsn
      show (∃ m25, _)
      exact ⟨n - (q + 1), by omega, q + 1, vs, by rw [wrap_i64 (by omega) (by omega)]; omega, by omega, rfl, by rw [hsn], hown9, by rw [hsn]; exact hT9, q9⟩
    · rw [decide_eq_false hk]
      have hno : textN y = some t := by unfold textN; rw [if_neg hk]; exact hts
      rw [hno] at hsn
      show (∃ cs19, _)
      have hT' := hT9.snoc (own_rsl hot ones_ints) (fun z hz hm => by
        rw [mem_rowL] at hm
        obtain ⟨p, hp, he⟩ := hm
        have g1 := (hxold p hp).2
        have g2 := (hto z hz).1
        omega) (fun z hz => (hto z hz).2)
      refine app_elem_at fsT hown9 (by rw [zcBs]; rfl) (ys := [.slice ta t.length tc]) rfl rfl (by simp [one]) (by omega) (by omega) (by omega) fun a5 c5 w22 o5 t5 m5 => ?_
      refine ⟨n - (q + 1), by omega, q + 1, vs ++ [.slice ta t.length tc], by rw [wrap_i64 (by omega) (by omega)]; omega, by omega, rfl, by rw [hsn]; simp, o5, by rw [hsn]; exact hT'.grow t5 m5, ?_⟩
      exact q9.trans t5 fun i hi => .inr (by
        rw [mem_rowL] at hi
        obtain ⟨z, hz, rfl⟩ := hi
        exact (own_ge hown9 z hz).1)
/-! ### collide -/
def collideS (ts : List (List Int)) : Prop := ∃ (i : Nat) (t : List Int), ts[i]? = some t ∧ (sha t = z32 ∨ ∃ (k : Nat) (s : List Int), k < i ∧ ts[k]? = some s ∧ sha s = sha t ∧ t ≠ s)
theorem zcDg1 : (zrep (zc Tryd.prog 24) (1 * 32)).length = 1 * 32 := by rw [zcDig]; rfl
theorem dgT : slT Tryd.prog 126 24 32 32 = true := by kernel_rfl
theorem dg_len {ts : List (List Int)} : ∀ x ∈ ts, (u8 (sha x)).length = 32 := fun x _ => by rw [List.length_map]; exact sha_length _
theorem dg_snoc {ts : List (List Int)} {i : Nat} {t : List Int} (h : ts[i]? = some t) : rows (fun x => u8 (sha x)) (ts.take i) ++ u8 (sha t) = rows (fun x => u8 (sha x)) (ts.take (i + 1)) := rows_snoc (f := fun x => u8 (sha x)) h
theorem collide_c (w : World) (ts : List (List Int)) (a : Option Addr) (c : Nat) (hT : TextsAt w a c ts) (hts : ∀ t ∈ ts, t.length ≤ 66 ∧ Bytes t) (hN : ts.length ≤ 10000000000) :
    Calls Tryd.prog 37 #[.slice a ts.length c] w fun e w' => e = .returned (.bool (decide (collideS ts))) ∧ Tch [] w w' := by
  refine c37 _ _ _ ?_
  unfold d37
  refine ⟨fun m x xn xc i u => ∃ q : Nat, i = q ∧ q ≤ ts.length ∧ m = ts.length - q ∧ xn = q ∧ u.ownsRow w.heap.size 24 32 (.slice x q xc) q (rows (fun x => u8 (sha x)) (ts.take q)) ∧ Tch [] w u ∧ ∀ (j : Nat) (t : List Int), ts[j]? = some t → j < q → sha t ≠ z32 ∧ ∀ (k : Nat) (s : List Int), k < j → ts[k]? = some s → sha s = sha t → t = s, ⟨ts.length, 0, rfl, by omega, rfl, rfl, own_nil _ _ _ _, Tch.refl _ _, by omega⟩, ?_⟩
  rintro m w3 x xn xc i ⟨q, rfl, hq, rfl, rfl, hown, ht, hno⟩
  have s3 := ht.size
  by_cases hlt : xn < ts.length
  rotate_left
  · rw [bif_neg (by omega)]
    refine ⟨?_, ht⟩
    rw [decide_eq_false]
    rintro ⟨i, t, hi, hc⟩
    have hil := (List.getElem?_eq_some_iff.1 hi).1
    obtain ⟨g1, g2⟩ := hno i t hi (by omega)
    rcases hc with hc | ⟨k, s, hk, hs, he, hne⟩
    · exact g1 hc
    · exact hne (g2 k s hk hs he)
  rw [bif_pos (by omega)]
  refine ⟨by omega, by omega, ?_⟩
  rw [Int.toNat_natCast]
  have hti : ts[xn]? = some (ts[xn]'(by omega)) := List.getElem?_eq_getElem (by omega)
  generalize ts[xn]'(by omega) = t at hti
  obtain ⟨hl66, htb⟩ := hts t (List.mem_of_getElem? hti)
  obtain ⟨y, b, d, rfl, g1, g2⟩ := (hT.quiet ht).get hti
  refine ⟨b, t.length, d, g1, ?_⟩
  refine (refSum_c w3 t b t.length d g2 htb (by omega)).mono ?_
  rintro e w9 ⟨rfl, t9⟩
  refine ⟨_, rfl, ?_⟩
  have hsl : (u8 (sha t)).length = 32 := by rw [List.length_map]; exact sha_length _
  refine var_init (n := 32) (by rw [zcDig]; rfl) hsl ones_ints fun w11 w12 hx t12 s12 => ?_
  replace t9 := t9.trans t12 (by simp)
  have q12 := ht.trans t9 (by simp)
  replace hown := own_up hown t9 (fun _ _ h => by cases h)
  clear t12
  generalize w9.heap.size = xb at *
  refine get_all hx hsl ?_
  refine ⟨u8 z32, by rw [zcDig]; rfl, ?_⟩
  refine eq_flat_d dig_flat dig_eqT (dig_fits (sha_length t) (sha_bytes t)) (dig_fits rfl z32_bytes) (p := sha t = z32) ⟨fun h => map_u8_inj h, fun h => by rw [h]⟩ ?_
  by_cases hz : sha t = z32
  · rw [decide_eq_true hz]
    exact ⟨by rw [decide_eq_true (show collideS ts from ⟨xn, t, hti, .inl hz⟩)], q12⟩
  rw [decide_eq_false hz]
  show (∃ I16 : Nat → Int → World → Prop, _)
  refine ⟨fun m i u => ∃ k : Nat, i = k ∧ k ≤ xn ∧ m = xn - k ∧ Tch [] w12 u ∧ ∀ (j : Nat) (s : List Int), j < k → ts[j]? = some s → sha s = sha t → t = s, ⟨xn, 0, rfl, by omega, rfl, Tch.refl _ _, by omega⟩, ?_⟩
  rintro m w18 i ⟨k, rfl, hk, rfl, t18, hks⟩
  by_cases hkl : k < xn
  · rw [bif_pos (by omega)]
    rintro w20 rfl
    replace t18 := t18.drew
    generalize w18.drew = w20 at *
    refine ⟨by omega, by omega, ?_⟩
    rw [Int.toNat_natCast]
    have hki : ts[k]? = some (ts[k]'(by omega)) := List.getElem?_eq_getElem (by omega)
    generalize ts[k]'(by omega) = s at hki
    have hki' : (ts.take xn)[k]? = some s := by rw [List.getElem?_take, if_pos hkl]; exact hki
    have hdr := own_rsl (own_up hown t18 (fun _ _ h => by cases h)) (fun u hu => by
      unfold rows at hu
      obtain ⟨v, hv, hu⟩ := List.mem_flatten.1 hu
      obtain ⟨x, _, rfl⟩ := List.mem_map.1 hv
      exact ones_ints u hu)
    refine hdr.elem (f := fun x => u8 (sha x)) dg_len (by omega) hki' ?_
    refine get_all (hx.tch t18 (by simp)) hsl ?_
    refine eq_flat_d dig_flat dig_eqT (dig_fits (sha_length s) (sha_bytes s)) (dig_fits (sha_length t) (sha_bytes t)) (p := sha s = sha t) ⟨fun h => map_u8_inj h, fun h => by rw [h]⟩ ?_
    by_cases hst : sha s = sha t
    · rw [decide_eq_true hst]
      show _ ∧ _
      have hT20 := (hT.quiet q12).quiet t18
      obtain ⟨y1, b1, d1, e1, c1, r1⟩ := hT20.get hti
      cases e1
      obtain ⟨y2, b2, d2, e2, c2, r2⟩ := hT20.get hki
      cases e2
      refine ⟨by omega, by omega, b1, t.length, d1, by exact c1, by omega, by omega, b2, s.length, d2, c2, ?_⟩
      refine (same_c w20 t s b1 b2 t.length d1 s.length d2 r1 r2 (by omega)).mono ?_
      rintro e w30 ⟨rfl, t30⟩
      refine ⟨_, rfl, ?_⟩
      by_cases hts2 : t = s
      · rw [bif_npos hts2]
        refine ⟨xn - (k + 1), by omega, k + 1, by rw [wrap_i64 (by omega) (by omega)]; omega, by omega, rfl, t18.trans t30 (by simp), fun j s' hj hs' he => ?_⟩
        by_cases e : j = k
        · subst e
          rw [hki] at hs'; cases hs'
          exact hts2
        · exact hks j s' (by omega) hs' he
      · rw [bif_nneg hts2]
        exact ⟨by rw [decide_eq_true (show collideS ts from ⟨xn, t, hti, .inr ⟨k, s, hkl, hki, hst, hts2⟩⟩)], (q12.trans t18 (by simp)).trans t30 (by simp)⟩
    · rw [decide_eq_false hst]
      show (∃ m33, _)
      refine ⟨xn - (k + 1), by omega, k + 1, by rw [wrap_i64 (by omega) (by omega)]; omega, by omega, rfl, t18, fun j s' hj hs' he => ?_⟩
      by_cases e : j = k
      · subst e
        rw [hki] at hs'; cases hs'
        exact absurd he hst
      · exact hks j s' (by omega) hs' he
  · rw [bif_neg (by omega)]
    obtain rfl : k = xn := by omega
    refine get_all (hx.tch t18 (by simp)) hsl ?_
    have hown18 := own_up hown t18 (fun _ _ h => by cases h)
    have s18 := t18.size
    have s12' := q12.size
    refine app_elem_at dgT hown18 zcDg1 (ys := u8 (sha t)) rfl hsl ones_ints (by omega) (by omega) (by omega) fun a5 c5 w38 o5 t5 m5 => ?_
    refine ⟨ts.length - (k + 1), by omega, k + 1, by rw [wrap_i64 (by omega) (by omega)]; omega, by omega, rfl, rfl, ?_, ?_, ?_⟩
    · rw [dg_snoc hti] at o5
      exact o5
    · exact (q12.trans t18 (by simp)).trans t5 fun i hi => .inr (by
        rw [mem_rowL] at hi
        obtain ⟨z, hz, rfl⟩ := hi
        exact (own_ge hown18 z hz).1)
    · intro j t' hj hlt'
      by_cases e : j = k
      · subst e
        rw [hti] at hj; cases hj
        exact ⟨hz, fun k' s' hk' hs' he => hks k' s' hk' hs' he⟩
      · exact hno j t' hj (by omega)
end Go.Proofs.YtjkbjppopdfggaaDoor.Tre
namespace Go.Proofs.YtjkbjppopdfggaaDoor.Tre
open Go Den Fn Sha
open Go.RowKit (Below)
open Classical
set_option maxRecDepth 8000
set_option maxHeartbeats 4000000
theorem row_flat : flatK Tryd.prog 8 31 = some [.int .i64, .int .i64, .int .i64] := by kernel_rfl
theorem row_eqT : eqT Tryd.prog 8 31 = true := by kernel_rfl
theorem row_fits {x : Rw} (h : x.wf) : Fits [.int .i64, .int .i64, .int .i64] (rwC x) := ⟨⟨rfl, Lib.i64_wf.2 h.t⟩, ⟨rfl, Lib.i64_wf.2 h.r⟩, ⟨rfl, Lib.i64_wf.2 h.v⟩, trivial⟩
/-! ### sameProof -/
/-! ### proves -/
theorem proofS_ok {kb : List Int} {l : List Rw} (h : RowsOk l) : (proofS kb l).ok ∧ (proofS kb l).fs.length ≤ l.length := by
  unfold proofS
  split
  · exact ⟨⟨by simp, i64_0, i64_0, i64_0⟩, by simp⟩
  · rename_i hne
    have hpos := List.length_pos_iff.2 hne
    obtain ⟨g1, g2, g3⟩ := proveS_ok (kb := kb) (treeT_ok (Nat.le_refl _) hpos h)
    rw [show (treeT l).rows = l from treeS_rows (Nat.le_refl _) hpos h] at g3
    exact ⟨⟨fun f hf => (g1 f hf).1, g2.t, g2.r, g2.v⟩, Nat.le_of_lt g3⟩
end Go.Proofs.YtjkbjppopdfggaaDoor.Tre
namespace Go.Proofs.YtjkbjppopdfggaaDoor.Tre
open Go Den Fn Sha
open Go.RowKit (Below)
open Classical
set_option maxRecDepth 8000
set_option maxHeartbeats 4000000
theorem chCs_one {l : List Chg} : ∀ u ∈ rows chC l, one u = true := fun u hu => by
  unfold rows at hu
  obtain ⟨v, hv, hu⟩ := List.mem_flatten.1 hu
  obtain ⟨x, _, rfl⟩ := List.mem_map.1 hv
  exact chC_one u hu
theorem lent_rsl {w : World} {b n : Nat} {l : List Rw} {ys : List Value} (h : Blk w b (rows rwC l ++ ys)) (hn : l.length = n) {c : Nat} (hc : n ≤ c) : RSl w 3 (some ⟨b, 0, none⟩) n c (rows rwC l) :=
  ⟨hc, by rw [rows_len (sz := 3) fun _ _ => rfl, hn], rwCs_one, .inr ⟨b, 0, rfl, fun i v hv => h.cells i v (by rw [List.getElem?_append_left (List.getElem?_eq_some_iff.1 hv).1]; exact hv)⟩⟩
end Go.Proofs.YtjkbjppopdfggaaDoor.Tre
namespace Go.Proofs.YtjkbjppopdfggaaDoor.Tre
open Go Den Fn Sha
open Go.RowKit (Below)
open Classical
set_option maxRecDepth 8000
set_option maxHeartbeats 4000000
/-! ### apart -/
def mkR (j : Nat) (l : List Rw) : List Rw := l.map fun x => ⟨x.t, x.r, -50 - (j : Int)⟩
section
variable {w : World} {Bq lb : Nat} {A : Nat → Option Addr} {N C : Nat → Nat} {X : Nat → List Rw}
/-- Two rows of one's own, and the box that holds them. -/
structure AP (w : World) (Bq lb : Nat) (A : Nat → Option Addr) (N C : Nat → Nat) (u : World) (cont : Nat → List Rw) : Prop where
  own : ∀ i, i < 2 → u.ownsRow Bq 31 3 (.slice (A i) (N i) (C i)) (N i) (rows rwC (cont i))
  box : Blk u lb [.slice (A 0) (N 0) (C 0), .slice (A 1) (N 1) (C 1)]
  tch : Tch (rowL (A 0) ++ rowL (A 1)) w u
end
end Go.Proofs.YtjkbjppopdfggaaDoor.Tre
namespace Go.Proofs.YtjkbjppopdfggaaDoor.Tre
open Go Den Fn Sha
open Go.RowKit (Below)
open Classical
set_option maxRecDepth 8000
set_option maxHeartbeats 8000000
theorem textN_node {t : Tr} (h : t.ok) : textN t.node = some t.text := by
  unfold textN
  rw [if_neg (by cases t <;> simp [Tr.node])]
  exact Tr.text_node h
theorem texts_subs : ∀ {l : List Tr}, (∀ s ∈ l, s.ok) → textsS (l.map Tr.node) = l.map Tr.text
  | [], _ => rfl
  | t :: l, h => by
    show List.filterMap textN (t.node :: l.map Tr.node) = _
    rw [List.filterMap_cons_some (textN_node (h t (by simp)))]
    show _ :: textsS (l.map Tr.node) = _
    rw [texts_subs fun s hs => h s (by simp [hs])]
    rfl
/-- Two unlike texts with one digest. -/
theorem collide_two {ts : List (List Int)} {s t : List Int} (hs : s ∈ ts) (ht : t ∈ ts) (he : sha s = sha t) (hne : s ≠ t) : collideS ts := by
  obtain ⟨i, hi⟩ := List.getElem?_of_mem hs
  obtain ⟨j, hj⟩ := List.getElem?_of_mem ht
  rcases Nat.lt_trichotomy i j with h | h | h
  · exact ⟨j, t, hj, .inr ⟨i, s, h, hi, he, hne.symm⟩⟩
  · subst h; rw [hi] at hj; cases hj; exact absurd rfl hne
  · exact ⟨i, s, hi, .inr ⟨j, t, h, hj, he.symm, hne⟩⟩
theorem collide_zero {ts : List (List Int)} {t : List Int} (ht : t ∈ ts) (he : sha t = z32) : collideS ts := by
  obtain ⟨j, hj⟩ := List.getElem?_of_mem ht
  exact ⟨j, t, hj, .inl he⟩
theorem nodesL_subs {l : List Rw} (hne : l ≠ []) : nodesL l = (treeT l).subs.map Tr.node := by unfold nodesL; rw [if_neg hne]
theorem treeT_ok' {l : List Rw} (hne : l ≠ []) (h : RowsOk l) : (treeT l).ok := treeT_ok (Nat.le_refl _) (List.length_pos_iff.2 hne) h
theorem textsL {l : List Rw} (hne : l ≠ []) (h : RowsOk l) : textsS (nodesL l) = (treeT l).subs.map Tr.text := by
  rw [nodesL_subs hne]
  exact texts_subs (Tr.subs_ok (treeT_ok' hne h))
theorem ofS_node {l : List Rw} (hne : l ≠ []) (h : RowsOk l) {s : Tr} (hs : s ∈ (treeT l).subs) : (ofS s.node).1 = s.sum := by
  rw [Tr.of_node (Tr.subs_ok (treeT_ok' hne h) s hs)]
theorem NodeR.out {l : List Rw} (h : RowsOk l) {d : List Int} {e : Ending} (hr : NodeR l d e) : ∃ (nd : Nd) (b : Bool), e = .returned (.tuple #[.agg nd.cells.toArray, .bool b]) ∧ nd.ok ∧ b = decide (∃ n ∈ nodesL l, (ofS n).1 = d) ∧ (b = false → nd = Nd.zero) ∧ (b = true → nd ∈ nodesL l ∧ (ofS nd).1 = d) := by
  unfold NodeR at hr
  by_cases hl : l = []
  · rw [if_pos hl] at hr
    have hnl : nodesL l = [Nd.zero] := by unfold nodesL; rw [if_pos hl]
    rw [hnl]
    have hz : (ofS Nd.zero).1 = z32 := rfl
    refine ⟨Nd.zero, decide (d = z32), hr, Nd.zero_ok, ?_, fun _ => rfl, fun hb => ⟨by simp, by rw [hz]; exact (of_decide_eq_true hb).symm⟩⟩
    by_cases hd : d = z32
    · rw [decide_eq_true hd, decide_eq_true ⟨Nd.zero, by simp, by rw [hz, hd]⟩]
    · rw [decide_eq_false hd, decide_eq_false]
      rintro ⟨n, hn, hnd⟩
      rw [List.mem_singleton] at hn
      rw [hn, hz] at hnd
      exact hd hnd.symm
  · rw [if_neg hl] at hr
    rcases hr with ⟨he, hno⟩ | ⟨s, hs, hsd, he⟩
    · refine ⟨Nd.zero, false, he, Nd.zero_ok, ?_, fun _ => rfl, (fun hb => by cases hb)⟩
      rw [decide_eq_false]
      rintro ⟨n, hn, hnd⟩
      rw [nodesL_subs hl] at hn
      obtain ⟨s, hs, rfl⟩ := List.mem_map.1 hn
      rw [ofS_node hl h hs] at hnd
      exact hno s hs hnd
    · have hm : s.node ∈ nodesL l := by rw [nodesL_subs hl]; exact List.mem_map_of_mem hs
      refine ⟨s.node, true, he, nodesL_ok h _ hm, ?_, (fun hb => by cases hb), fun _ => ⟨hm, by rw [ofS_node hl h hs, hsd]⟩⟩
      rw [decide_eq_true ⟨s.node, hm, by rw [ofS_node hl h hs, hsd]⟩]
theorem ProveR.out {w w' : World} {l : List Rw} {k : Int × Int} {e : Ending} (hR : RowsOk l) (h : ProveR w l k e w') : ∃ (P : Pf) (a : Option Addr) (n c : Nat) (er : Int), e = .returned (.tuple #[.agg (pfC a n c P).toArray, .int .i64 er]) ∧ w'.ownsRow w.heap.size 51 33 (.slice a n c) n (rows fkC P.fs) ∧ P.ok ∧ n ≤ l.length ∧ P.fs.length = n ∧ (if Lib.KeyOk k.1 then er = 0 ∧ P = proofS (Sha.keyB k.1 k.2) l else er = 20 ∧ P = ⟨[], false, 0, 0, 0⟩) := by
  obtain ⟨_, h⟩ := h
  by_cases hk : Lib.KeyOk k.1
  · rw [if_pos hk] at h
    obtain ⟨a, c, he, ho⟩ := h
    obtain ⟨h1, h2⟩ := proofS_ok (kb := Sha.keyB k.1 k.2) hR
    exact ⟨_, a, _, c, 0, he, ho, h1, h2, rfl, by rw [if_pos hk]; exact ⟨rfl, rfl⟩⟩
  · rw [if_neg hk] at h
    exact ⟨⟨[], false, 0, 0, 0⟩, none, 0, 0, 20, h, own_nil _ _ _ _, ⟨by simp, i64_0, i64_0, i64_0⟩, by omega, rfl, by rw [if_neg hk]; exact ⟨rfl, rfl⟩⟩
/-- What stands behind the first part of the law. -/
structure TL (W : World) (l : List Rw) (ks : List (Int × Int)) (other : List Int) (wb ta : Nat) (xa : Option Addr) (xn xc : Nat) (pn : Option Addr) (nn nc : Nat) (F : Nat → Prop) (u : World) : Prop where
  oth : Blk u wb (u8 other)
  tree : TreeAt F u ta l
  hF : ∀ z, F z → z < u.heap.size
  rws : RSl u 3 xa xn xc (rows rwC l)
  nam : RSl u 2 pn nn nc (rows Lib.kC ks)
  tch : Tch [] W u
theorem TL.quiet {W u u' : World} {l : List Rw} {ks : List (Int × Int)} {other : List Int} {wb ta xn xc nn nc : Nat} {xa pn : Option Addr} {F : Nat → Prop} (h : TL W l ks other wb ta xa xn xc pn nn nc F u) (ht : Tch [] u u') : TL W l ks other wb ta xa xn xc pn nn nc F u' :=
  ⟨h.oth.tch ht (by simp), TreeAt.tch h.tree ht (by simp), fun z hz => Nat.lt_of_lt_of_le (h.hF z hz) ht.size, h.rws.tch ht (fun _ _ h => by cases h), h.nam.tch ht (fun _ _ h => by cases h), h.tch.trans ht (by simp)⟩
end Go.Proofs.YtjkbjppopdfggaaDoor.Tre
namespace Go.Proofs.YtjkbjppopdfggaaDoor.Tre
open Go Den Fn Sha
open Classical
set_option maxRecDepth 8000
set_option maxHeartbeats 2000000
/-- Bits agree below n. -/
def AgB (a b : List Int) (n : Nat) : Prop := ∀ m : Nat, m < n → bitS a m = bitS b m
theorem AgB.symm {a b : List Int} {n : Nat} (h : AgB a b n) : AgB b a n := fun m hm => (h m hm).symm
theorem AgB.trans {a b c : List Int} {n : Nat} (h : AgB a b n) (g : AgB b c n) : AgB a c n := fun m hm => (h m hm).trans (g m hm)
theorem AgB.succ {a b : List Int} {n : Nat} (h : AgB a b n) (e : bitS a n = bitS b n) : AgB a b (n + 1) := fun m hm => by
  by_cases h' : m = n
  · rw [h']; exact e
  · exact h m (by omega)
theorem rk_n {n : Nat} (h : n < 80) : Rk (n : Int) := ⟨by omega, by omega⟩
theorem kw_01 (x : Rw) {n : Nat} (h : n < 80) : bitS (kw x) n = 0 ∨ bitS (kw x) n = 1 := bitS_01 (keyB_bytes _ _) (rk_n h)
theorem key_lt {x y : Rw} (hx : x.ok) (hy : y.ok) (h : Lib.cmpK x.k y.k < 0) : ∃ p, Fst (kw x) (kw y) p ∧ bitS (kw x) p = 0 ∧ bitS (kw y) p = 1 := key_bits (a := x.k) (b := y.k) ⟨hx.key, hx.r⟩ ⟨hy.key, hy.r⟩ h
theorem up_get {l : List Rw} (h : RowsOk l) {i j : Nat} {x y : Rw} (hx : l[i]? = some x) (hy : l[j]? = some y) (hij : i < j) : Lib.cmpK x.k y.k < 0 := by
  have hi := (List.getElem?_eq_some_iff.1 hx).1
  have hj := (List.getElem?_eq_some_iff.1 hy).1
  have := List.pairwise_iff_getElem.1 h.up i j (by simpa [keysOf] using hi) (by simpa [keysOf] using hj) hij
  have e1 := (List.getElem?_eq_some_iff.1 hx).2
  have e2 := (List.getElem?_eq_some_iff.1 hy).2
  simpa [keysOf, e1, e2] using this
theorem mid_bits {a x c : List Int} {p q n : Nat} (h1 : Fst a x p) (x1 : bitS x p = 1) (h2 : Fst x c q) (x0 : bitS x q = 0) (h3 : Fst a c n) : AgB a x n := by
  have hp : n ≤ p := by
    rcases Nat.lt_or_ge p n with hlt | hge
    · exfalso
      have c0 := h3.2.2 p hlt
      rcases Nat.lt_trichotomy p q with h | h | h
      · exact h1.2.1 (c0.trans (h2.2.2 p h).symm)
      · subst h; rw [x1] at x0; exact absurd x0 (by decide)
      · exact h2.2.1 ((h1.2.2 q h).symm.trans (h3.2.2 q (by omega)))
    · exact hge
  exact fun m hm => h1.2.2 m (by omega)
/-- All rows agree below the bit at which they part. -/
theorem part_ag {l : List Rw} (h : RowsOk l) {n : Nat} (hp : PartB l n) : ∀ x ∈ l, ∀ y ∈ l, AgB (kw x) (kw y) n := by
  obtain ⟨a, c, ha, hc, hF, _, _⟩ := hp
  have key : ∀ x ∈ l, AgB (kw a) (kw x) n := fun x hx => by
    obtain ⟨i, hi⟩ := List.getElem?_of_mem hx
    have hil := (List.getElem?_eq_some_iff.1 hi).1
    have hox := h.ok x hx
    have hoa := h.ok a (List.mem_of_getElem? ha)
    have hoc := h.ok c (List.mem_of_getElem? hc)
    by_cases e0 : i = 0
    · subst e0; rw [ha] at hi; cases hi; exact fun _ _ => rfl
    by_cases e1 : i = l.length - 1
    · subst e1; rw [hc] at hi; cases hi; exact fun m hm => hF.2.2 m hm
    obtain ⟨p, g1, _, g3⟩ := key_lt hoa hox (up_get h ha hi (by omega))
    obtain ⟨q, k1, k2, _⟩ := key_lt hox hoc (up_get h hi hc (by omega))
    exact mid_bits g1 g3 k1 k2 hF
  exact fun x hx y hy => (key x hx).symm.trans (key y hy)
theorem part_lo {l : List Rw} (_h : RowsOk l) {n : Nat} (hp : PartB l n) : ∀ x ∈ l.take (partAt l n), bitS (kw x) n = 0 := fun x hx => by
  obtain ⟨i, hi⟩ := List.getElem?_of_mem hx
  rw [List.getElem?_take] at hi
  split at hi
  · rename_i hlt
    obtain ⟨hil, he⟩ := List.getElem?_eq_some_iff.1 hi
    have := List.not_of_lt_findIdx hlt
    rw [he] at this
    rcases kw_01 x hp.at.2.2 with h0 | h1
    · exact h0
    · simp [h1] at this
  · cases hi
theorem part_hi {l : List Rw} (h : RowsOk l) {n : Nat} (hp : PartB l n) : ∀ x ∈ l.drop (partAt l n), bitS (kw x) n = 1 := fun x hx => by
  obtain ⟨i, hi⟩ := List.getElem?_of_mem hx
  rw [List.getElem?_drop] at hi
  obtain ⟨g1, g2, g3⟩ := hp.at
  have hz : l[partAt l n]? = some (l[partAt l n]'g2) := List.getElem?_eq_getElem g2
  have hzb : bitS (kw (l[partAt l n]'g2)) n = 1 := by
    have := List.findIdx_getElem (p := fun x => decide (bitS (kw x) n = 1)) (w := g2)
    exact of_decide_eq_true this
  generalize l[partAt l n]'g2 = z at hz hzb
  cases i with
  | zero => rw [Nat.add_zero, hz] at hi; cases hi; exact hzb
  | succ i =>
    rcases kw_01 x g3 with h0 | h1
    · exfalso
      have hzm := List.mem_of_getElem? hz
      have hxm := List.mem_of_getElem? hi
      obtain ⟨p, k1, k2, k3⟩ := key_lt (h.ok z hzm) (h.ok x hxm) (up_get h hz hi (by omega))
      have hag := part_ag h hp z hzm x hxm
      have : Fst (kw z) (kw x) n := ⟨g3, by rw [hzb, h0]; decide, hag⟩
      rw [this.unique k1, k2] at hzb
      exact absurd hzb (by decide)
    · exact h1

/-! ### Trees whose bits are in order -/
def Tr.fit : Nat → Tr → Prop
  | _, .leaf _ => True
  | lo, .fork n l r => lo ≤ n ∧ n < 80 ∧ (∀ x ∈ l.rows, bitS (kw x) n = 0) ∧ (∀ x ∈ r.rows, bitS (kw x) n = 1) ∧ (∀ x ∈ l.rows ++ r.rows, ∀ y ∈ l.rows ++ r.rows, AgB (kw x) (kw y) n) ∧ l.fit (n + 1) ∧ r.fit (n + 1)
theorem treeT_rows {l : List Rw} (h1 : 1 ≤ l.length) (h : RowsOk l) : (treeT l).rows = l := treeS_rows (Nat.le_refl _) h1 h
theorem treeT_fit : ∀ {k : Nat} {l : List Rw} {lo : Nat}, l.length ≤ k → 1 ≤ l.length → RowsOk l → (∀ x ∈ l, ∀ y ∈ l, AgB (kw x) (kw y) lo) → (treeT l).fit lo
  | 0, l, _, h1, h2, _, _ => by omega
  | k + 1, l, lo, h1, h2, h, ha => by
    by_cases e : l.length = 1
    · obtain ⟨x, rfl⟩ := List.length_eq_one_iff.1 e
      rw [treeT_one]; exact trivial
    · have hp := partBit_ok h (by omega)
      obtain ⟨g1, g2, g3⟩ := hp.at
      rw [treeT_two h (by omega)]
      generalize hn : partBit l = n at *
      have hr1 : (treeT (l.take (partAt l n))).rows = l.take (partAt l n) := treeT_rows (by rw [List.length_take]; omega) (h.take _)
      have hr2 : (treeT (l.drop (partAt l n))).rows = l.drop (partAt l n) := treeT_rows (by rw [List.length_drop]; omega) (h.drop _)
      have hlo := part_lo h hp
      have hhi := part_hi h hp
      have hag := part_ag h hp
      have hln : lo ≤ n := by
        obtain ⟨x, y, hx, hy, hF, _, _⟩ := hp
        rcases Nat.lt_or_ge n lo with hlt | hge
        · exact absurd (ha x (List.mem_of_getElem? hx) y (List.mem_of_getElem? hy) n hlt) hF.2.1
        · exact hge
      refine ⟨hln, g3, by rw [hr1]; exact hlo, by rw [hr2]; exact hhi, ?_, ?_, ?_⟩
      · rw [hr1, hr2, List.take_append_drop]; exact hag
      · refine treeT_fit (k := k) (by rw [List.length_take]; omega) (by rw [List.length_take]; omega) (h.take _) fun x hx y hy => ?_
        exact (hag x (List.mem_of_mem_take hx) y (List.mem_of_mem_take hy)).succ (by rw [hlo x hx, hlo y hy])
      · refine treeT_fit (k := k) (by rw [List.length_drop]; omega) (by rw [List.length_drop]; omega) (h.drop _) fun x hx y hy => ?_
        exact (hag x (List.mem_of_mem_drop hx) y (List.mem_of_mem_drop hy)).succ (by rw [hhi x hx, hhi y hy])
theorem treeT_fit0 {l : List Rw} (h1 : 1 ≤ l.length) (h : RowsOk l) : (treeT l).fit 0 := treeT_fit (Nat.le_refl _) h1 h fun _ _ _ _ m hm => by omega

/-! ### A proof leads to its row -/
section
variable {kb : List Int} (hB : Bytes kb)
theorem prove_mem : ∀ t : Tr, (proveS kb t).2 ∈ t.rows
  | .leaf x => by simp [proveS, Tr.rows]
  | .fork n l r => by
    unfold proveS
    split
    · exact List.mem_append_left _ (prove_mem l)
    · exact List.mem_append_right _ (prove_mem r)
theorem prove_rise : ∀ {t : Tr} {lo : Nat}, t.fit lo → (proveS kb t).1.Pairwise (fun f g => f.bit < g.bit) ∧ ∀ f ∈ (proveS kb t).1, (lo : Int) ≤ f.bit
  | .leaf x, lo, _ => ⟨by simp [proveS], by simp [proveS]⟩
  | .fork n l r, lo, ⟨h1, _, _, _, _, h2, h3⟩ => by
    obtain ⟨a1, a2⟩ := prove_rise h2
    obtain ⟨b1, b2⟩ := prove_rise h3
    unfold proveS
    split
    · refine ⟨List.pairwise_cons.2 ⟨fun f hf => by have := a2 f hf; show (n : Int) < f.bit; omega, a1⟩, fun f hf => ?_⟩
      rcases List.mem_cons.1 hf with rfl | hf
      · show (lo : Int) ≤ (n : Int); omega
      · have := a2 f hf; omega
    · refine ⟨List.pairwise_cons.2 ⟨fun f hf => by have := b2 f hf; show (n : Int) < f.bit; omega, b1⟩, fun f hf => ?_⟩
      rcases List.mem_cons.1 hf with rfl | hf
      · show (lo : Int) ≤ (n : Int); omega
      · have := b2 f hf; omega
include hB in
theorem prove_same : ∀ {t : Tr} {lo : Nat}, t.fit lo → ∀ f ∈ (proveS kb t).1, bitS (kw (proveS kb t).2) f.bit = bitS kb f.bit
  | .leaf x, lo, _, f, hf => by simp [proveS] at hf
  | .fork n l r, lo, ⟨_, h80, hlo, hhi, _, h2, h3⟩, f, hf => by
    unfold proveS at hf ⊢
    split at hf
    · rename_i h0
      rw [if_pos h0]
      rcases List.mem_cons.1 hf with rfl | hf
      · show bitS (kw (proveS kb l).2) (n : Int) = bitS kb (n : Int)
        rw [hlo _ (prove_mem l), h0]
      · exact prove_same h2 f hf
    · rename_i h0
      rw [if_neg h0]
      rcases List.mem_cons.1 hf with rfl | hf
      · show bitS (kw (proveS kb r).2) (n : Int) = bitS kb (n : Int)
        rw [hhi _ (prove_mem r)]
        rcases bitS_01 hB (rk_n h80) with h | h
        · exact absurd h h0
        · exact h.symm
      · exact prove_same h3 f hf
theorem prove_up : ∀ t : Tr, upD kb (proveS kb t).1 (sha (leafT (proveS kb t).2.t (proveS kb t).2.r (proveS kb t).2.v)) = t.sum
  | .leaf x => rfl
  | .fork n l r => by
    unfold proveS
    by_cases h0 : bitS kb (n : Int) = 0
    · rw [if_pos h0]
      show stepD kb ⟨(n : Int), r.sum⟩ (upD kb (proveS kb l).1 _) = _
      rw [prove_up l]
      unfold stepD
      rw [if_pos h0]
      rfl
    · rw [if_neg h0]
      show stepD kb ⟨(n : Int), l.sum⟩ (upD kb (proveS kb r).1 _) = _
      rw [prove_up r]
      unfold stepD
      rw [if_neg h0]
      rfl
theorem prove_find : ∀ {t : Tr} {lo : Nat}, t.fit lo → ∀ x ∈ t.rows, kw x = kb → (proveS kb t).2 = x
  | .leaf y, lo, _, x, hx, _ => by simp [Tr.rows] at hx; rw [hx]; rfl
  | .fork n l r, lo, ⟨_, h80, hlo, hhi, _, h2, h3⟩, x, hx, hk => by
    unfold proveS
    rcases List.mem_append.1 hx with hx | hx
    · have := hlo x hx
      rw [hk] at this
      rw [if_pos this]
      exact prove_find h2 x hx hk
    · have := hhi x hx
      rw [hk] at this
      rw [if_neg (by rw [this]; decide)]
      exact prove_find h3 x hx hk
end
theorem riseF_of {fs : List Fk} (h : fs.Pairwise fun f g => f.bit < g.bit) (hr : ∀ f ∈ fs, Rk f.bit) : RiseF fs := fun i f hi hf => ⟨hr f (List.mem_of_getElem? hf), fun g h0 hg => by
  obtain ⟨h1, e1⟩ := List.getElem?_eq_some_iff.1 hf
  obtain ⟨h2, e2⟩ := List.getElem?_eq_some_iff.1 hg
  have := List.pairwise_iff_getElem.1 h (i - 1) i h2 h1 (by omega)
  rw [e1, e2] at this
  exact this⟩
theorem at_mem : ∀ {l : List Rw}, Up (keysOf l) → ∀ x ∈ l, atS l x.k = (true, x.v)
  | [], _, x, hx => by cases hx
  | y :: l, h, x, hx => by
    have h' : Up (y.k :: keysOf l) := h
    obtain ⟨h1, h2⟩ := List.pairwise_cons.1 h'
    unfold atS
    rcases List.mem_cons.1 hx with rfl | hx
    · rw [if_pos rfl]
    · have hlt := h1 x.k (List.mem_map_of_mem hx)
      rw [if_neg fun e => by rw [e] at hlt; exact lt_irrefl' hlt]
      exact at_mem h2 x hx
/-- What stands at a key, by the tree's walk. -/
theorem at_prove {l : List Rw} (hne : l ≠ []) (h : RowsOk l) {k : Int × Int} (hk : Sha.KeyOk k.1) (hk2 : Sha.I64 k.2) : atS l k = if (proveS (Sha.keyB k.1 k.2) (treeT l)).2.k = k then (true, (proveS (Sha.keyB k.1 k.2) (treeT l)).2.v) else no := by
  have h1 : 1 ≤ l.length := List.length_pos_iff.2 hne
  have hfit := treeT_fit0 h1 h
  have hrows := treeT_rows h1 h
  split
  · rename_i he
    have := prove_mem (kb := Sha.keyB k.1 k.2) (treeT l)
    rw [hrows] at this
    have := at_mem h.up _ this
    rw [he] at this
    exact this
  · rename_i he
    refine atS_none' fun x hx hxk => he ?_
    have : kw x = Sha.keyB k.1 k.2 := by rw [← hxk]; rfl
    rw [prove_find hfit x (by rw [hrows]; exact hx) this, hxk]
/-- A tree's own proof says what stands there. -/
theorem own_proof {l : List Rw} (h : RowsOk l) {k : Int × Int} (hk : Sha.KeyOk k.1) (hk2 : Sha.I64 k.2) : verS (rootS l) k.1 k.2 (proofS (Sha.keyB k.1 k.2) l) = (atS l k, 0) := by
  unfold verS
  rw [if_neg (by simpa using hk)]
  by_cases hne : l = []
  · subst hne
    have hh : holdsP (rootS []) (Sha.keyB k.1 k.2) (proofS (Sha.keyB k.1 k.2) []) := by
      have e1 : proofS (Sha.keyB k.1 k.2) [] = ⟨[], false, 0, 0, 0⟩ := by unfold proofS; rw [if_pos rfl]
      have e2 : rootS [] = z32 := by unfold rootS; rw [if_pos rfl]
      rw [e1, e2]
      exact ⟨fun i f hi => by simp at hi, by rw [if_pos rfl]; exact ⟨rfl, ⟨rfl, rfl, rfl⟩, rfl⟩⟩
    rw [if_neg (by simpa using hh), if_neg (by unfold proofS; simp)]
    rfl
  · have h1 : 1 ≤ l.length := List.length_pos_iff.2 hne
    have hfit := treeT_fit0 h1 h
    have htok := treeT_ok' hne h
    have e1 : proofS (Sha.keyB k.1 k.2) l = ⟨(proveS (Sha.keyB k.1 k.2) (treeT l)).1, true, (proveS (Sha.keyB k.1 k.2) (treeT l)).2.t, (proveS (Sha.keyB k.1 k.2) (treeT l)).2.r, (proveS (Sha.keyB k.1 k.2) (treeT l)).2.v⟩ := by unfold proofS; rw [if_neg hne]
    have e2 : rootS l = (treeT l).sum := by unfold rootS; rw [if_neg hne]
    obtain ⟨p1, p2, _⟩ := proveS_ok (kb := Sha.keyB k.1 k.2) htok
    have hh : holdsP (rootS l) (Sha.keyB k.1 k.2) (proofS (Sha.keyB k.1 k.2) l) := by
      rw [e1, e2]
      refine ⟨riseF_of (prove_rise hfit).1 fun f hf => (p1 f hf).2, ?_⟩
      rw [if_neg (by simp)]
      exact ⟨p2.key, prove_same (keyB_bytes _ _) hfit, prove_up _⟩
    rw [if_neg (by simpa using hh), at_prove hne h hk hk2, e1]
    show (if true = true ∧ (proveS (Sha.keyB k.1 k.2) (treeT l)).2.t = k.1 ∧ (proveS (Sha.keyB k.1 k.2) (treeT l)).2.r = k.2 then _ else _) = _
    by_cases e : (proveS (Sha.keyB k.1 k.2) (treeT l)).2.k = k
    · rw [if_pos e, if_pos ⟨rfl, congrArg Prod.fst e, congrArg Prod.snd e⟩]
    · rw [if_neg e, if_neg fun hc => e (Prod.ext hc.2.1 hc.2.2)]
end Go.Proofs.YtjkbjppopdfggaaDoor.Tre
namespace Go.Proofs.YtjkbjppopdfggaaDoor.Tre
open Go Den Fn Sha
open Classical
set_option maxRecDepth 8000
set_option maxHeartbeats 2000000
theorem forkT_inj {n m : Int} {a b c d : List Int} (hn : Rk n) (hm : Rk m) (ha : a.length = 32) (hc : c.length = 32) (h : forkT n a b = forkT m c d) : n = m ∧ a = c ∧ b = d := by
  unfold Rk at hn hm
  have h' : [1, IntKind.wrap .u8 n] ++ a ++ b = [1, IntKind.wrap .u8 m] ++ c ++ d := h
  have h1 := List.append_inj h' (by simp [ha, hc])
  have h2 := List.append_inj h1.1 rfl
  have h3 : IntKind.wrap .u8 n = IntKind.wrap .u8 m := by simpa using h2.1
  rw [wrap_u8 (by omega) (by omega), wrap_u8 (by omega) (by omega)] at h3
  exact ⟨h3, h2.2, h1.2⟩
theorem leaf_fork {t r v n : Int} {a b : List Int} : leafT t r v ≠ forkT n a b := fun h => by
  have := congrArg (fun l : List Int => l.head?) h
  simp [leafT, forkT] at this
theorem textsS_append (l m : List Nd) : textsS (l ++ m) = textsS l ++ textsS m := List.filterMap_append
theorem texts_mem {l : List Rw} (hne : l ≠ []) (h : RowsOk l) {s : Tr} (hs : s ∈ (treeT l).subs) : s.text ∈ textsS (nodesL l) := by
  rw [textsL hne h]; exact List.mem_map_of_mem hs
/-! ### A forged proof -/
/-- The text of the first node of a path. -/
def pathT (kb : List Int) (p : Pf) : List Fk → List Int
  | [] => leafT p.t p.r p.v
  | f :: l => if bitS kb f.bit = 0 then forkT f.bit (upD kb l (sha (leafT p.t p.r p.v))) f.oth else forkT f.bit f.oth (upD kb l (sha (leafT p.t p.r p.v)))
theorem pathT_cons (kb : List Int) (p : Pf) (f : Fk) (l : List Fk) : pathT kb p (f :: l) = if bitS kb f.bit = 0 then forkT f.bit (upD kb l (sha (leafT p.t p.r p.v))) f.oth else forkT f.bit f.oth (upD kb l (sha (leafT p.t p.r p.v))) := rfl
theorem pathT_sum (kb : List Int) (p : Pf) : ∀ fs : List Fk, sha (pathT kb p fs) = upD kb fs (sha (leafT p.t p.r p.v))
  | [] => rfl
  | f :: l => by
    show sha (pathT kb p (f :: l)) = stepD kb f (upD kb l _)
    rw [pathT_cons]
    unfold stepD
    by_cases h : bitS kb f.bit = 0
    · rw [if_pos h, if_pos h]
    · rw [if_neg h, if_neg h]
theorem leaf_len (p : Pf) : (sha (leafT p.t p.r p.v)).length = 32 ∧ Bytes (sha (leafT p.t p.r p.v)) := ⟨sha_length _, sha_bytes _⟩
theorem forged {kb : List Int} {p : Pf} (hp : (Rw.mk p.t p.r p.v).ok) : ∀ {t : Tr} {fs : List Fk}, t.ok → (∀ f ∈ fs, f.ok ∧ Rk f.bit) → upD kb fs (sha (leafT p.t p.r p.v)) = t.sum →
    (∃ s ∈ t.subs, ∃ gs, gs <:+ fs ∧ s.sum = sha (pathT kb p gs) ∧ s.text ≠ pathT kb p gs) ∨ proveS kb t = (fs, ⟨p.t, p.r, p.v⟩) := by
  intro t
  induction t with
  | leaf x =>
    intro fs ht hf he
    by_cases hx : (Tr.leaf x).text = pathT kb p fs
    · cases fs with
      | nil =>
        have := leafT_inj ht hp hx
        right
        show ([], x) = _
        rw [this]
      | cons f l =>
        exfalso
        rw [pathT_cons] at hx
        split at hx
        · exact leaf_fork hx
        · exact leaf_fork hx
    · exact .inl ⟨_, Tr.subs_self _, fs, List.suffix_refl _, by rw [pathT_sum, he], hx⟩
  | fork n l r ihl ihr =>
    intro fs ht hf he
    by_cases hx : (Tr.fork n l r).text = pathT kb p fs
    · cases fs with
      | nil => exact absurd hx.symm leaf_fork
      | cons f fs =>
        have hfo := hf f (by simp)
        have hfl : ∀ g ∈ fs, g.ok ∧ Rk g.bit := fun g hg => hf g (by simp [hg])
        have hul := (upD_len (kb := kb) (leaf_len p) fs).1
        rw [pathT_cons] at hx
        by_cases h0 : bitS kb f.bit = 0
        · rw [if_pos h0] at hx
          obtain ⟨e1, e2, e3⟩ := forkT_inj (rk_n ht.1) hfo.2 l.sum_len hul hx
          rcases ihl ht.2.1 hfl e2.symm with ⟨s, g1, gs, g2, g3⟩ | g
          · exact .inl ⟨s, by simp [Tr.subs, g1], gs, g2.trans (List.suffix_cons _ _), g3⟩
          · right
            unfold proveS
            rw [e1, if_pos h0, g, e3]
        · rw [if_neg h0] at hx
          obtain ⟨e1, e2, e3⟩ := forkT_inj (rk_n ht.1) hfo.2 l.sum_len hfo.1.2.1 hx
          rcases ihr ht.2.2 hfl e3.symm with ⟨s, g1, gs, g2, g3⟩ | g
          · exact .inl ⟨s, by simp [Tr.subs, g1], gs, g2.trans (List.suffix_cons _ _), g3⟩
          · right
            unfold proveS
            rw [e1, if_neg h0, g, e2]
    · exact .inl ⟨_, Tr.subs_self _, fs, List.suffix_refl _, by rw [pathT_sum, he], hx⟩
/-- The nodes of a path, the last one first. -/
def pathL (kb : List Int) (p : Pf) : List Nd := (List.range (p.fs.length + 1)).map fun j => topN kb p (p.fs.drop (p.fs.length - j))
theorem topN_text {kb : List Int} (hB : Bytes kb) {p : Pf} (hl : p.leaf = true) (hk : Sha.KeyOk p.t) : ∀ {fs : List Fk}, (∀ f ∈ fs, Rk f.bit) → textN (topN kb p fs) = some (pathT kb p fs)
  | [], _ => by
    show textN (node0 p) = _
    unfold node0
    rw [if_pos hl]
    unfold textN
    rw [if_neg (by simp)]
    unfold textS
    rw [if_neg (by simp), if_pos (by rfl), if_pos ⟨⟨rfl, rfl⟩, rfl, hk⟩]
    rfl
  | f :: l, h => by
    have hf := h f (by simp)
    have hs : (ofS (topN kb p l)).1 = upD kb l (sha (leafT p.t p.r p.v)) := by
      rw [topN_up hB fun f hf => h f (by simp [hf])]
      unfold node0 ofS
      rw [if_pos hl, if_neg (by simp), if_pos ⟨rfl, rfl, rfl, rfl, hk⟩]
    show textN (forkN kb f (ofS (topN kb p l)).1) = _
    rw [hs]
    rw [pathT_cons]
    unfold forkN
    rcases bitS_01 hB hf with h0 | h1
    · rw [if_neg (by rw [h0]; decide), if_pos h0]
      unfold textN
      rw [if_neg (by simp)]
      unfold textS
      rw [if_neg (by simp), if_neg (by simp), if_pos (by rfl), if_pos ⟨⟨rfl, rfl, rfl⟩, hf⟩]
    · rw [if_pos h1, if_neg (by rw [h1]; decide)]
      unfold textN
      rw [if_neg (by simp)]
      unfold textS
      rw [if_neg (by simp), if_neg (by simp), if_pos (by rfl), if_pos ⟨⟨rfl, rfl, rfl⟩, hf⟩]
theorem path_mem {kb : List Int} {p : Pf} {gs : List Fk} (h : gs <:+ p.fs) : topN kb p gs ∈ pathL kb p := by
  unfold pathL
  obtain ⟨hd, hs⟩ := h
  have hlen := congrArg List.length hs
  rw [List.length_append] at hlen
  refine List.mem_map.2 ⟨gs.length, List.mem_range.2 (by omega), ?_⟩
  have : p.fs.drop (p.fs.length - gs.length) = gs := by
    rw [← hlen, ← hs, Nat.add_sub_cancel]
    exact List.drop_left
  rw [this]
/-- A forged proof that is taken for a tree's root and says something else. -/
theorem forged_collide {l : List Rw} (h : RowsOk l) {k : Int × Int} (hk : Sha.KeyOk k.1) (hk2 : Sha.I64 k.2) {p : Pf} (hp : p.ok) (hh : holdsP (rootS l) (Sha.keyB k.1 k.2) p) (hne : (verS (rootS l) k.1 k.2 p).1 ≠ atS l k) : collideS (textsS (nodesL l ++ pathL (Sha.keyB k.1 k.2) p)) := by
  have hB : Bytes (Sha.keyB k.1 k.2) := keyB_bytes _ _
  have hv : verS (rootS l) k.1 k.2 p = if p.leaf = true ∧ p.t = k.1 ∧ p.r = k.2 then ((true, p.v), 0) else ((false, 0), 0) := by
    unfold verS
    rw [if_neg (by simpa using hk), if_neg (by simpa using hh)]
  rw [textsS_append]
  obtain ⟨hr, hh⟩ := hh
  by_cases hl : p.leaf = true
  rotate_left
  · have hlf : p.leaf = false := by simpa using hl
    rw [if_pos hlf] at hh
    rw [hv, if_neg (by rw [hlf]; simp)] at hne
    by_cases e : l = []
    · subst e; exact absurd rfl hne
    · have e2 : rootS l = (treeT l).sum := by unfold rootS; rw [if_neg e]
      rw [e2, Tr.sum_text] at hh
      exact collide_zero (List.mem_append_left _ (texts_mem e h (Tr.subs_self _))) hh.2.2
  rw [if_neg (by rw [hl]; simp)] at hh
  obtain ⟨h1, h2, h3⟩ := hh
  have hrk := hr.rank
  have hpt : ∀ gs, gs <:+ p.fs → pathT (Sha.keyB k.1 k.2) p gs ∈ textsS (pathL (Sha.keyB k.1 k.2) p) := fun gs hg => by
    refine List.mem_filterMap.2 ⟨_, path_mem hg, topN_text hB hl h1 fun f hf => hrk f (hg.subset hf)⟩
  by_cases e : l = []
  · have e2 : rootS l = z32 := by unfold rootS; rw [if_pos e]
    rw [e2, ← pathT_sum] at h3
    exact collide_zero (List.mem_append_right _ (hpt p.fs (List.suffix_refl _))) h3
  have e2 : rootS l = (treeT l).sum := by unfold rootS; rw [if_neg e]
  rw [e2] at h3
  rcases forged ⟨h1, hp.t, hp.r, hp.v⟩ (treeT_ok' e h) (fun f hf => ⟨hp.fs f hf, hrk f hf⟩) h3 with ⟨s, g1, gs, g2, g3, g4⟩ | g
  · rw [Tr.sum_text] at g3
    exact collide_two (List.mem_append_left _ (texts_mem e h g1)) (List.mem_append_right _ (hpt gs g2)) g3 g4
  · exfalso
    rw [hv, at_prove e h hk hk2, g] at hne
    apply hne
    show (if p.leaf = true ∧ p.t = k.1 ∧ p.r = k.2 then ((true, p.v), (0 : Int)) else ((false, 0), 0)).1 = if (p.t, p.r) = k then (true, p.v) else no
    by_cases ek : (p.t, p.r) = k
    · rw [if_pos ek, if_pos ⟨hl, by rw [← ek], by rw [← ek]⟩]
    · rw [if_neg ek, if_neg fun hc => ek (Prod.ext hc.2.1 hc.2.2)]
end Go.Proofs.YtjkbjppopdfggaaDoor.Tre
namespace Go.Proofs.YtjkbjppopdfggaaDoor.Sha
open Go Den Fn
open Go.RowKit (Below)
open Classical
set_option maxRecDepth 8000
set_option maxHeartbeats 4000000
theorem cell_flat : flatK Tryd.prog 6 45 = some [.bool, .int .i64] := by kernel_rfl
theorem cell_eqT : eqT Tryd.prog 6 45 = true := by kernel_rfl
theorem verS_val {root : List Int} {t r : Int} {p : Pf} (hp : p.ok) : I64 (verS root t r p).1.2 := by
  unfold verS
  split
  · exact i64_0
  · split
    · exact i64_0
    · split
      · exact hp.v
      · exact i64_0
theorem cell_fits {x : Bool × Int} (h : I64 x.2) : Fits [.bool, .int .i64] (cellC x) := ⟨trivial, ⟨rfl, i64_wf.2 h⟩, trivial⟩
end Go.Proofs.YtjkbjppopdfggaaDoor.Sha
