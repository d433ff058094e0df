/-
  THE LAW ProofCodes: there and back, as the code does it.
  Own work. No macro, syntax, notation, axiom.
-/
import Derived.Test.YtjkbjppopdfggaaCodesD3
namespace Go.Proofs.Ytjkbjppopdfggaa.Codes
open Go Den Fn Lib
open Go.RowKit (Below)
open Classical
set_option maxRecDepth 8000
set_option maxHeartbeats 1000000

theorem fork_flat : flatK Try.prog 6 51 = some (.int .i64 :: List.replicate 32 (.int .u8)) := by kernel_rfl
theorem fork_eqT : eqT Try.prog 6 51 = true := by kernel_rfl
theorem byte_wf' {l : List Int} (h : Bytes l) : ∀ x ∈ l, (Lit.int .u8 x).wf = true := by
  intro x hx
  have := h x hx
  simp [Lit.wf, IntKind.min, IntKind.max, IntKind.signed, IntKind.bits]
  omega
theorem ints_fits {k : IntKind} : ∀ {l : List Int} {n : Nat}, l.length = n → (∀ x ∈ l, (Lit.int k x).wf = true) → Fits (List.replicate n (.int k)) (l.map (Value.int k))
  | [], 0, _, _ => trivial
  | [], _ + 1, h, _ => by simp at h
  | _ :: _, 0, h, _ => by simp at h
  | x :: l, n + 1, h, hw => ⟨⟨rfl, hw x (by simp)⟩, ints_fits (by simpa using h) fun y hy => hw y (by simp [hy])⟩
theorem fork_fits {f : Fk} (h : f.ok) : Fits (.int .i64 :: List.replicate 32 (.int .u8)) (fkC f) := ⟨⟨rfl, i64_wf.2 h.1⟩, ints_fits h.2.1 (byte_wf' h.2.2)⟩
theorem map_int_inj {k : IntKind} {x y : List Int} (h : x.map (Value.int k) = y.map (Value.int k)) : x = y := by
  refine List.map_inj_right (fun a b hab => ?_) |>.1 h
  cases hab
  rfl
theorem fork_inj {f g : Fk} : fkC f = fkC g ↔ f = g := by
  refine ⟨fun h => ?_, fun h => by rw [h]⟩
  obtain ⟨b1, o1⟩ := f
  obtain ⟨b2, o2⟩ := g
  simp only [fkC, List.cons.injEq, Value.int.injEq, true_and] at h
  rw [h.1, map_int_inj h.2]
theorem num_c (n : Int) (w : World) : Calls Try.prog 6 #[.int .i64 n] w fun e w' => e = .returned (.int .i64 n) ∧ w' = w := by
  refine c6 _ ?_
  unfold d6
  exact ⟨rfl, rfl⟩
theorem same_c (w : World) (xs ys : List Int) (a b : Option Addr) (n c m mc : Nat) (hx : RSl w 1 a n c (u8 xs)) (hy : RSl w 1 b m mc (u8 ys)) (hN : n ≤ 140737488351232) :
    Calls Try.prog 7 #[.slice a n c, .slice b m mc] w fun e w' => e = .returned (.bool (decide (xs = ys))) ∧ Tch [] w w' := by
  have hn := u8_len hx
  have hm := u8_len hy
  refine c7 _ _ _ _ _ _ ?_
  unfold d7
  by_cases he : n = m
  · subst he
    rw [bif_npos rfl]
    refine ⟨fun q x w' => ∃ k : Nat, k ≤ n ∧ x = k ∧ q = n - k ∧ xs.take k = ys.take k ∧ Tch [] w w', ⟨n, 0, by omega, rfl, rfl, rfl, Tch.refl _ _⟩, ?_⟩
    rintro q w4 x ⟨k, hk, rfl, rfl, htk, ht⟩
    by_cases hlt : k < n
    · rw [bif_pos (by omega)]
      rintro w6 rfl
      obtain ⟨b1, o1, rfl, g1⟩ := (hx.below ht.drew.below).int (i := k) hlt
      obtain ⟨b2, o2, rfl, g2⟩ := (hy.below ht.drew.below).int (i := k) hlt
      simp only [optK, add_mk, Nat.mul_one, Int.toNat_natCast]
      refine ⟨by omega, by omega, _, g1, by omega, by omega, _, g2, ?_⟩
      by_cases hd : xs.getD k 0 = ys.getD k 0
      · rw [bif_npos hd, wrap_i64 (by omega) (by omega)]
        refine ⟨n - (k + 1), by omega, k + 1, by omega, by omega, rfl, ?_, ht.drew⟩
        rw [List.take_succ_eq_append_getElem (by omega), List.take_succ_eq_append_getElem (by omega), htk]
        have h1 : k < xs.length := by omega
        have h2 : k < ys.length := by omega
        simp only [List.getD_eq_getElem?_getD, List.getElem?_eq_getElem h1, List.getElem?_eq_getElem h2, Option.getD_some] at hd
        rw [hd]
      · rw [bif_nneg hd]
        refine ⟨?_, ht.drew⟩
        rw [decide_eq_false fun e => hd (by rw [e])]
    · rw [bif_neg (by omega)]
      have : k = n := by omega
      subst this
      rw [List.take_of_length_le (by omega), List.take_of_length_le (by omega)] at htk
      exact ⟨by rw [decide_eq_true htk], ht⟩
  · rw [bif_nneg (by omega)]
    exact ⟨by rw [decide_eq_false fun e => he (by rw [← hn, ← hm, e])], Tch.refl _ _⟩
/-- A proof at hand. -/
structure PfAt (w : World) (a : Option Addr) (n c : Nat) (p : Pf) : Prop where
  ok : p.ok
  row : RSl w 33 a n c (rows fkC p.fs)
theorem PfAt.count {w : World} {a : Option Addr} {n c : Nat} {p : Pf} (h : PfAt w a n c p) : p.fs.length = n := h.row.count (fkC_len h.ok.fs) (by omega)
theorem PfAt.quiet {w w' : World} {a : Option Addr} {n c : Nat} {p : Pf} (h : PfAt w a n c p) (ht : Tch [] w w') : PfAt w' a n c p := ⟨h.ok, quiet' h.row ht⟩
theorem samePf_c (w : World) (p q : Pf) (a b : Option Addr) (n c m mc : Nat) (hp : PfAt w a n c p) (hq : PfAt w b m mc q) (hN : n < 9223372036854775807) (hM : m < 9223372036854775807) :
    Calls Try.prog 9 #[.agg (pfC a n c p).toArray, .agg (pfC b m mc q).toArray] w fun e w' => e = .returned (.bool (decide (p = q))) ∧ Tch [] w w' := by
  have hn := hp.count
  have hm := hq.count
  refine c9 _ _ ?_
  unfold d9
  rintro w2 rfl
  rintro w3 rfl
  have hS := ((St.refl w []).new (pfC a n c p) 28 rfl).new (pfC b m mc q) 28 rfl
  generalize (w.alloc (.cells (pfC a n c p).toArray 28)).alloc (.cells (pfC b m mc q).toArray 28) = w3 at *
  generalize (w.alloc (.cells (pfC a n c p).toArray 28)).heap.size = qb at *
  generalize w.heap.size = pb at *
  have no : ∀ {w' : World}, p ≠ q → Tch [] w w' → (Ending.returned (.bool false) = .returned (.bool (decide (p = q))) ∧ Tch [] w w') := fun h ht => ⟨by rw [decide_eq_false h], ht⟩
  refine ⟨fun w' => w' = w3 ∧ n = m ∧ p.leaf = q.leaf ∧ p.t = q.t ∧ p.r = q.r ∧ p.v = q.v, ?_, ?_⟩
  · refine ⟨p.leaf, by rw [add_mk]; exact (hS.blk (b := pb) (cs := pfC a n c p) (by simp)).cell 1, q.leaf, by rw [add_mk]; exact (hS.blk (b := qb) (cs := pfC b m mc q) (by simp)).cell 1, ?_⟩
    by_cases hl : p.leaf = q.leaf
    rotate_left
    · rw [show (!(p.leaf == q.leaf)) = true by simpa using hl, cond_true]
      exact no (fun h => hl (by rw [h])) hS.tch
    rw [show (!(p.leaf == q.leaf)) = false by simpa using hl, cond_false]
    refine get_part (hS.blk (b := pb) (cs := pfC a n c p) (by simp)) 2 3 (i64s [p.t, p.r, p.v]) rfl rfl ?_
    refine get_part (hS.blk (b := qb) (cs := pfC b m mc q) (by simp)) 2 3 (i64s [q.t, q.r, q.v]) rfl rfl ?_
    refine neq_flat_d row_flat row_eqT (row_fits hp.ok.t hp.ok.r hp.ok.v) (row_fits hq.ok.t hq.ok.r hq.ok.v) (p := p.t = q.t ∧ p.r = q.r ∧ p.v = q.v) (by simp) ?_
    by_cases hz : p.t = q.t ∧ p.r = q.r ∧ p.v = q.v
    rotate_left
    · rw [bif_nneg hz]
      exact no (fun h => hz (by rw [h]; exact ⟨rfl, rfl, rfl⟩)) hS.tch
    rw [bif_npos hz]
    refine ⟨a, n, c, by rw [add_mk]; exact (hS.blk (b := pb) (cs := pfC a n c p) (by simp)).cell 0, b, m, mc, by rw [add_mk]; exact (hS.blk (b := qb) (cs := pfC b m mc q) (by simp)).cell 0, ?_⟩
    by_cases hnm : n = m
    · rw [bif_npos (by omega)]
      exact ⟨rfl, hnm, hl, hz⟩
    · rw [bif_nneg (by omega)]
      exact no (fun h => hnm (by rw [← hn, ← hm, h])) hS.tch
  rintro w12 ⟨rfl, rfl, h1, h2, h3, h4⟩
  refine ⟨fun k x u => ∃ i : Nat, x = i ∧ i ≤ n ∧ k = n - i ∧ p.fs.take i = q.fs.take i ∧ St w [] u [fBlk qb (pfC b n mc q), fBlk pb (pfC a n c p)], ⟨n, 0, rfl, by omega, rfl, rfl, hS⟩, ?_⟩
  clear hS
  rintro k w15 x ⟨i, rfl, hi, rfl, htk, hS⟩
  refine ⟨a, n, c, by rw [add_mk]; exact (hS.blk (b := pb) (cs := pfC a n c p) (by simp)).cell 0, ?_⟩
  by_cases hlt : i < n
  · rw [bif_pos (by omega)]
    rintro w18 rfl
    replace hS := hS.drew
    generalize w15.drew = w18 at *
    refine ⟨a, n, c, by rw [add_mk]; exact (hS.blk (b := pb) (cs := pfC a n c p) (by simp)).cell 0, by omega, by omega, ?_⟩
    have hpi : p.fs[i]? = some (p.fs[i]'(by omega)) := List.getElem?_eq_getElem (by omega)
    have hqi : q.fs[i]? = some (q.fs[i]'(by omega)) := List.getElem?_eq_getElem (by omega)
    have hpo := hp.ok.fs _ (List.mem_of_getElem? hpi)
    have hqo := hq.ok.fs _ (List.mem_of_getElem? hqi)
    rw [Int.toNat_natCast]
    refine (hp.quiet hS.tch).row.elem (fkC_len hp.ok.fs) (by omega) hpi ?_
    refine ⟨b, n, mc, by rw [add_mk]; exact (hS.blk (b := qb) (cs := pfC b n mc q) (by simp)).cell 0, by omega, by omega, ?_⟩
    refine (hq.quiet hS.tch).row.elem (fkC_len hq.ok.fs) (by omega) hqi ?_
    refine neq_flat_d fork_flat fork_eqT (fork_fits hpo) (fork_fits hqo) fork_inj ?_
    by_cases hf : p.fs[i]'(by omega) = q.fs[i]'(by omega)
    · rw [bif_npos hf, wrap_i64 (by omega) (by omega)]
      refine ⟨n - (i + 1), by omega, i + 1, by omega, by omega, rfl, ?_, hS⟩
      rw [List.take_succ_eq_append_getElem (by omega), List.take_succ_eq_append_getElem (by omega), htk, hf]
    · rw [bif_nneg hf]
      exact no (fun h => hf (by subst h; rfl)) hS.tch
  · rw [bif_neg (by omega)]
    have : i = n := by omega
    subst this
    rw [List.take_of_length_le (by omega), List.take_of_length_le (by omega)] at htk
    refine ⟨?_, hS.tch⟩
    rw [decide_eq_true]
    cases p; cases q
    simp_all
noncomputable def decP (o : Option Pf) : Pf × Int := match o with
  | some p => (p, 0)
  | none => (Pf.zero, 250)
theorem zero_ok : Pf.zero.ok := ⟨by simp [Pf.zero], by unfold I64 Pf.zero; simp, by unfold I64 Pf.zero; simp, by unfold I64 Pf.zero; simp⟩
theorem DecR.view {w w' : World} {bs : List Int} {e : Ending} (hB : Bytes bs) (h : DecR w (decS bs) e w') :
    ∃ a n c, e = .returned (.tuple #[.agg (pfC a n c (decP (decS bs)).1).toArray, .int .i64 (decP (decS bs)).2]) ∧ PfAt w' a n c (decP (decS bs)).1 ∧ n ≤ 80 ∧ Tch [] w w' := by
  cases ho : decS bs with
  | none =>
    rw [ho] at h
    exact ⟨none, 0, 0, h.1, ⟨zero_ok, own_rsl (own_nil w' 0 0 33) fk_ones⟩, by omega, h.2⟩
  | some p =>
    rw [ho] at h
    obtain ⟨hok, hg, _⟩ := enc_dec hB ho
    obtain ⟨a, c, rfl, hown, ht⟩ := h
    exact ⟨a, _, c, rfl, ⟨hok, own_rsl hown fk_ones⟩, hg.1.1, ht⟩
theorem encS_len {p : Pf} (hp : p.ok) : (encS p).1.length ≤ 5000 := by
  unfold encS
  split
  · rename_i hg
    have h1 := encF_len hp.fs
    have h2 := (encTail_len p hp.v).2
    have h3 := (uv_len10 (n := p.fs.length) (by have := hg.1.1; omega)).2
    have h4 := hg.1.1
    simp only [List.length_append]
    omega
  · simp
theorem encS_err (p : Pf) : (encS p).2 = 0 ↔ Good p := by
  unfold encS
  split <;> simp_all
theorem own_empty {w : World} {base : Nat} (hb : base ≤ w.heap.size) : (w.alloc (.cells #[] 5)).ownsRow base 5 1 (.slice (some ⟨w.heap.size, 0, none⟩) 0 0) 0 (u8 []) :=
  (BlkT.new w #[] 5).own hb rfl (by omega)
/-- A copy made by append. -/
theorem fresh_copy {w : World} {bs : List Int} {a : Option Addr} {n c : Nat} (hr : RSl w 1 a n c (u8 bs)) (hN : n ≤ 140737488351232) {K : Option Addr → Nat → Nat → World → Prop}
    (hK : ∀ a' c' w', RSl w' 1 a' n c' (u8 bs) → Tch [] w w' → K a' n c' w') :
    ∀ w1 : World, w1 = World.alloc w (.cells #[] 5) → RunV Try.prog (Builtin.append_ #[29, 29] 29 #[.slice (some ⟨World.heap w |>.size, 0, none⟩) 0 0, .slice a n c]) w1 fun v w' => ∃ (x : Option Addr) (xn : Nat) (xc : Nat), v = (.slice x xn xc) ∧ K x xn xc w' := by
  rintro w1 rfl
  have ht := (Tch.refl [] w).alloc (.cells #[] 5)
  refine app_at bT (own_empty (w := w) (Nat.le_refl _)) (quiet' hr ht) (by rw [size_alloc]; omega) (by omega) (by omega) fun a' c' w' h1 h2 h3 => ?_
  rw [Nat.zero_add] at h1 ⊢
  rw [← List.map_append, List.nil_append] at h1
  exact hK a' c' w' (own_rsl h1 ones_ints) (ht.trans h2 fun i hi => .inr (by simp [rowL] at hi; omega))
end Go.Proofs.Ytjkbjppopdfggaa.Codes
