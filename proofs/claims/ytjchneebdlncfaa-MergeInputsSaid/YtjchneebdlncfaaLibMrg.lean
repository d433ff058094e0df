/-
  COPIES OF BATCHES, THEIR COMPARISON: contracts of slices.Equal, slices.Clone, copied, same, epoch.
  Own work. No macro, syntax, notation, axiom.
-/
import Derived.Test.YtjchneebdlncfaaLibBat
import Derived.Test.YtjchneebdlncfaaFnMrgA
import Derived.Test.YtjchneebdlncfaaDenWords12
namespace Go.Proofs.Ytjchneebdlncfaa.Lib
open Go Den Fn
open Go.RowKit (Below)
open Classical
set_option maxRecDepth 8000
set_option maxHeartbeats 1000000

theorem iT : slT Try.prog 25 2 1 8 = true := by kernel_rfl
theorem equal_c (w : World) (xs ys : List Int) (a b : Option Addr) (n c m mc : Nat) (hx : RSl w 1 a n c (u8 xs)) (hy : RSl w 1 b m mc (u8 ys)) (hN : n ≤ 140737488351232) :
    Calls Try.prog 64 #[.slice a n c, .slice b m mc] w fun e w' => e = .returned (.bool (decide (xs = ys))) ∧ Tch [] w w' := by
  have hn := u8_len hx
  have hm := u8_len hy
  refine c64 _ _ _ _ _ _ ?_
  unfold d64
  by_cases he : n = m
  · subst he
    rw [bif_npos rfl]
    refine ⟨fun q x w' => ∃ k : Nat, k ≤ n ∧ x = k ∧ q = n - k ∧ xs.take k = ys.take k ∧ Tch [] w w', ⟨n, 0, by omega, rfl, rfl, rfl, Tch.refl _ _⟩, ?_⟩
    rintro q w4 x ⟨k, hk, rfl, rfl, htk, ht⟩
    by_cases hlt : k < n
    · rw [bif_pos (by omega)]
      rintro w6 rfl
      obtain ⟨b1, o1, rfl, g1⟩ := (hx.below ht.drew.below).int (i := k) hlt
      obtain ⟨b2, o2, rfl, g2⟩ := (hy.below ht.drew.below).int (i := k) hlt
      simp only [optK, add_mk, Nat.mul_one, Int.toNat_natCast]
      refine ⟨by omega, by omega, _, g1, by omega, by omega, _, g2, ?_⟩
      by_cases hd : xs.getD k 0 = ys.getD k 0
      · rw [bif_npos hd, wrap_i64 (by omega) (by omega)]
        refine ⟨n - (k + 1), by omega, k + 1, by omega, by omega, rfl, ?_, ht.drew⟩
        rw [List.take_succ_eq_append_getElem (by omega), List.take_succ_eq_append_getElem (by omega), htk]
        have h1 : k < xs.length := by omega
        have h2 : k < ys.length := by omega
        simp only [List.getD_eq_getElem?_getD, List.getElem?_eq_getElem h1, List.getElem?_eq_getElem h2, Option.getD_some] at hd
        rw [hd]
      · rw [bif_nneg hd]
        refine ⟨?_, ht.drew⟩
        rw [decide_eq_false fun e => hd (by rw [e])]
    · rw [bif_neg (by omega)]
      have : k = n := by omega
      subst this
      rw [List.take_of_length_le (by omega), List.take_of_length_le (by omega)] at htk
      exact ⟨by rw [decide_eq_true htk], ht⟩
  · rw [bif_nneg (by omega)]
    exact ⟨by rw [decide_eq_false fun e => he (by rw [← hn, ← hm, e])], Tch.refl _ _⟩
theorem own_empty' (w : World) (T : TypeId) (sz : Nat) : (w.alloc (.cells #[] T)).ownsRow w.heap.size T sz (.slice (some ⟨w.heap.size, 0, none⟩) 0 0) 0 [] :=
  (BlkT.new w #[] T).own (Nat.le_refl _) (by simp) (by omega)
theorem rsl_none {w : World} {sz n c : Nat} {cs : List Value} (h : RSl w sz none n c cs) : n = 0 ∧ cs = [] := by
  have hn : n = 0 := by
    rcases h.at' with h' | ⟨b, o, h', _⟩
    · have := h.cap; omega
    · cases h'
  refine ⟨hn, ?_⟩
  have := h.len
  rw [hn, Nat.zero_mul] at this
  exact List.length_eq_zero_iff.1 this
theorem cloneI_c (w : World) (l : List Value) (a : Option Addr) (n c : Nat) (hr : RSl w 1 a n c l) (hN : n ≤ 1000000) :
    Calls Try.prog 65 #[.slice a n c] w fun e w' => ∃ a' c', e = .returned (.slice a' n c') ∧ w'.ownsRow w.heap.size 2 1 (.slice a' n c') n l ∧ Tch [] w w' := by
  refine c65 _ _ _ ?_
  unfold d65
  cases a with
  | none =>
    obtain ⟨rfl, rfl⟩ := rsl_none hr
    exact ⟨none, 0, rfl, own_nil _ _ _ _, Tch.refl _ _⟩
  | some x =>
    show ∀ _, _
    rintro w1 rfl
    have ht := (Tch.refl [] w).alloc (.cells #[] 2)
    refine app_at iT (own_empty' w _ _) (hr.tch ht (fun _ _ h => by cases h)) (by rw [size_alloc]; omega) (by omega) (by omega) fun a' c' w' h1 h2 h3 => ?_
    rw [Nat.zero_add, List.nil_append] at h1
    rw [Nat.zero_add]
    exact ⟨a', c', rfl, h1, ht.trans h2 fun i hi => .inr (by simp [rowL] at hi; omega)⟩
theorem cloneK_c (w : World) (l : List Value) (a : Option Addr) (n c : Nat) (hr : RSl w 2 a n c l) (hN : n ≤ 1000000) :
    Calls Try.prog 66 #[.slice a n c] w fun e w' => ∃ a' c', e = .returned (.slice a' n c') ∧ w'.ownsRow w.heap.size 97 2 (.slice a' n c') n l ∧ Tch [] w w' := by
  refine c66 _ _ _ ?_
  unfold d66
  cases a with
  | none =>
    obtain ⟨rfl, rfl⟩ := rsl_none hr
    exact ⟨none, 0, rfl, own_nil _ _ _ _, Tch.refl _ _⟩
  | some x =>
    show ∀ _, _
    rintro w1 rfl
    have ht := (Tch.refl [] w).alloc (.cells #[] 97)
    refine app_at kT (own_empty' w _ _) (hr.tch ht (fun _ _ h => by cases h)) (by rw [size_alloc]; omega) (by omega) (by omega) fun a' c' w' h1 h2 h3 => ?_
    rw [Nat.zero_add, List.nil_append] at h1
    rw [Nat.zero_add]
    exact ⟨a', c', rfl, h1, ht.trans h2 fun i hi => .inr (by simp [rowL] at hi; omega)⟩
/-- Small enough to be copied. -/
def Small (l : List Tx) : Prop := l.length ≤ 100000 ∧ ∀ x ∈ l, x.args.length ≤ 100000 ∧ x.reads.length ≤ 100000 ∧ x.writes.length ≤ 100000
theorem Small.of_good {l : List Tx} (h : l.length ≤ 64 ∧ ∀ x ∈ l, Good x) : Small l := ⟨by omega, fun x hx => by
  obtain ⟨_, h1, h2, h3, _⟩ := h.2 x hx
  omega⟩
/-- What lies between two sizes. -/
def Btw (A B k : Nat) : Prop := A ≤ k ∧ k < B
theorem copied_c {F : Nat → Prop} (w : World) (a : Option Addr) (n c : Nat) (l : List Tx) (h : BatchV F w a n c l) (hs : Small l) :
    Calls Try.prog 38 #[.slice a n c] w fun e w' => ∃ a' c', e = .returned (.slice a' n c') ∧ BatchV (Btw w.heap.size w'.heap.size) w' a' n c' l ∧ Tch [] w w' := by
  have hn := h.count
  refine c38 _ _ _ ?_
  unfold d38
  generalize hB : w.heap.size = B
  refine ⟨fun m x k c i u => ∃ (q : Nat) (vs : List (List Value)), i = q ∧ q ≤ n ∧ m = n - q ∧ k = q ∧ vs.length = q ∧ u.ownsRow B 39 4 (.slice x k c) k vs.flatten ∧
    (∀ (i : Nat) (v : List Value) (y : Tx), vs[i]? = some v → l[i]? = some y → TxV (fun k => Btw B u.heap.size k ∧ k ∉ rowL x) u v y) ∧ Tch [] w u, ⟨n, 0, [], rfl, by omega, rfl, rfl, rfl, own_nil _ _ _ _, by simp, Tch.refl _ _⟩, ?_⟩
  rintro m w3 x k xc i ⟨q, vs, rfl, hq, rfl, rfl, hvl, hown, hvs, ht⟩
  have hBs : B ≤ w3.heap.size := by rw [← hB]; exact ht.size
  have hrow3 : ∀ i ∈ rowL x, i < w3.heap.size := fun i hi => (rowL_ge hown i hi).2
  by_cases hlt : k < n
  rotate_left
  · rw [bif_neg (by omega)]
    obtain rfl : k = n := by omega
    have hlens := BatchV.lens (F := fun k => Btw B w3.heap.size k ∧ k ∉ rowL x) (w := w3) (l := l) (vs := vs) (by omega) hvs
    refine ⟨x, xc, rfl, ⟨vs, by omega, ?_, fun i v y h1 h2 => (hvs i v y h1 h2).mono fun _ h => h.1⟩, ht⟩
    refine (FR.own hown ?_).mono fun _ h => h
    intro u hu
    obtain ⟨v, hv, hu⟩ := List.mem_flatten.1 hu
    obtain ⟨i, hi⟩ := List.getElem?_of_mem hv
    have hil := (List.getElem?_eq_some_iff.1 hi).1
    exact (hvs i v (l[i]'(by omega)) hi (List.getElem?_eq_getElem (by omega))).ones u hu
  rw [bif_pos (by omega)]
  refine ⟨by omega, by omega, ?_⟩
  rw [Int.toNat_natCast]
  have hli : l[k]? = some (l[k]'(by omega)) := List.getElem?_eq_getElem (by omega)
  generalize l[k]'(by omega) = y at hli
  obtain ⟨s1, s2, s3⟩ := hs.2 y (List.mem_of_getElem? hli)
  have hs0 := hs.1
  refine h.elemW ht hli fun v hv => ?_
  refine var_init (n := 4) (by rw [zcTx]; rfl) hv.len hv.ones fun w8 w9 h1 h2 h3 => ?_
  rintro w10 rfl
  replace h1 := h1.tch ((Tch.refl [] w9).drew) (by simp)
  replace h2 := h2.drew
  have hs10 : w9.drew.heap.size = w9.heap.size := rfl
  generalize w9.drew = w10 at *
  obtain ⟨a1, n1, c1, a2, n2, c2, a3, n3, c3, rfl, k1, k2, k3, hyo⟩ := hv
  have e1 := args_count k1
  have e2 := keys_count k2
  have e3 := keys_count k3
  generalize w3.heap.size = xb at *
  have t10 := ht.trans h2 (by simp)
  refine ⟨y.proc, by rw [add_mk]; exact h1.cell 0, a1, n1, c1, by rw [add_mk]; exact h1.cell 1, a2, n2, c2, by rw [add_mk]; exact h1.cell 2, a3, n3, c3, by rw [add_mk]; exact h1.cell 3, ?_⟩
  refine (cloneI_c w10 _ a1 n1 c1 (k1.tch t10 (by simp)).1 (by omega)).mono ?_
  rintro e w16 ⟨b1, d1, rfl, o1, t1⟩
  replace h1 := h1.tch t1 (by simp)
  have t16 := t10.trans t1 (by simp)
  have q1 := t1.size
  refine ⟨_, _, _, rfl, ⟨a3, n3, c3, by rw [add_mk]; exact h1.cell 3, rfl, rfl⟩, ⟨a2, n2, c2, by rw [add_mk]; exact h1.cell 2, rfl, rfl⟩, ⟨y.proc, by rw [add_mk]; exact h1.cell 0, rfl, rfl⟩, ?_⟩
  refine (cloneK_c w16 _ a2 n2 c2 (k2.tch t16 (by simp)).1 (by omega)).mono ?_
  rintro e w22 ⟨b2, d2, rfl, o2, t2⟩
  replace h1 := h1.tch t2 (by simp)
  have t22 := t16.trans t2 (by simp)
  have q2 := t2.size
  replace o1 := own_up o1 t2 (fun _ _ h => by cases h)
  refine ⟨_, _, _, rfl, ⟨a3, n3, c3, by rw [add_mk]; exact h1.cell 3, rfl, rfl⟩, ⟨y.proc, by rw [add_mk]; exact h1.cell 0, rfl, rfl⟩, ?_⟩
  refine (cloneK_c w22 _ a3 n3 c3 (k3.tch t22 (by simp)).1 (by omega)).mono ?_
  rintro e w27 ⟨b3, d3, rfl, o3, t3⟩
  replace h1 := h1.tch t3 (by simp)
  have t27 := t22.trans t3 (by simp)
  have q3 := t3.size
  replace o1 := own_up o1 t3 (fun _ _ h => by cases h)
  replace o2 := own_up o2 t3 (fun _ _ h => by cases h)
  refine ⟨_, _, _, rfl, ⟨y.proc, by rw [add_mk]; exact h1.cell 0, rfl, rfl⟩, ?_⟩
  have tq : Tch [] w3 w27 := ((h2.trans t1 (by simp)).trans t2 (by simp)).trans t3 (by simp)
  replace hown := own_up hown tq (fun _ _ h => by cases h)
  have hrow := rowL_ge hown
  refine ⟨[.int .i64 y.proc, .slice b1 n1 d1, .slice b2 n2 d2, .slice b3 n3 d3], by rw [zcTx]; rfl, ?_⟩
  refine app_elem_at txT hown (by rw [zcTx]; rfl) (ys := [.int .i64 y.proc, .slice b1 n1 d1, .slice b2 n2 d2, .slice b3 n3 d3]) rfl rfl (by simp [one]) (by omega) (by omega) (by omega) fun a5 c5 w34 o5 t5 m5 => ?_
  have q5 := t5.size
  refine ⟨n - (k + 1), by omega, k + 1, vs ++ [[.int .i64 y.proc, .slice b1 n1 d1, .slice b2 n2 d2, .slice b3 n3 d3]], by rw [wrap_i64 (by omega) (by omega)]; omega, by omega, rfl, rfl, by simp [hvl], by simpa using o5, ?_, t27.trans t5 fun i hi => .inr (by have := (hrow i hi).1; omega)⟩
  have moved : ∀ {z : Nat}, z ∉ rowL x → z < w27.heap.size → z ∉ rowL a5 := fun hz hlt hm => by
    rw [mem_rowL] at hm
    obtain ⟨ad, rfl, rfl⟩ := hm
    rcases m5 ad rfl with h | h
    · exact hz h
    · omega
  have keep : ∀ {P : Nat → Prop} {sz : Nat} {a : Option Addr} {n c : Nat} {cs : List Value}, FR P w27 sz a n c cs → (∀ z, P z → Btw B w27.heap.size z ∧ z ∉ rowL x) → FR (fun z => Btw B w34.heap.size z ∧ z ∉ rowL a5) w34 sz a n c cs := fun hfr hP =>
    (hfr.tch t5 fun z hz hp => (hP z hp).2 hz).mono fun z hp => ⟨⟨(hP z hp).1.1, by have := (hP z hp).1.2; omega⟩, moved (hP z hp).2 (hP z hp).1.2⟩
  intro i v z hv hz
  rw [List.getElem?_append] at hv
  split at hv
  · rename_i hil
    obtain ⟨x1, m1, g1, x2, m2, g2, x3, m3, g3, rfl, r1, r2, r3, ro⟩ := hvs i v z hv hz
    have hP : ∀ z, (Btw B xb z ∧ z ∉ rowL x) → Btw B w27.heap.size z ∧ z ∉ rowL x := fun z h => ⟨⟨h.1.1, by have := h.1.2; omega⟩, h.2⟩
    exact ⟨x1, m1, g1, x2, m2, g2, x3, m3, g3, rfl, keep (r1.tch tq (by simp)) hP, keep (r2.tch tq (by simp)) hP, keep (r3.tch tq (by simp)) hP, ro⟩
  · rename_i hil
    by_cases h0 : i - vs.length = 0
    rotate_left
    · rw [List.getElem?_eq_none (by show 1 ≤ _; omega)] at hv
      cases hv
    rw [h0] at hv
    cases hv
    rw [show i = k by omega, hli] at hz
    cases hz
    have hnew : ∀ {A B' : Nat}, xb ≤ A → B' ≤ w27.heap.size → ∀ z, (A ≤ z ∧ z < B') → Btw B w27.heap.size z ∧ z ∉ rowL x := fun hA hB' z hz => ⟨⟨by omega, by omega⟩, fun hm => by have := hrow3 z hm; omega⟩
    exact ⟨b1, n1, d1, b2, n2, d2, b3, n3, d3, rfl, keep (FR.own o1 ones_ints) (hnew (by omega) (by omega)), keep (FR.own o2 kCs_one) (hnew (by omega) (by omega)), keep (FR.own o3 kCs_one) (hnew (by omega) (by omega)), hyo⟩
theorem same_c {F G : Nat → Prop} (w : World) (a b : Option Addr) (n c m mc : Nat) (l k : List Tx) (h : BatchV F w a n c l) (g : BatchV G w b m mc k) (h0 : (encB l).2 = 0) (g0 : (encB k).2 = 0) :
    Calls Try.prog 37 #[.slice a n c, .slice b m mc] w fun e w' => e = .returned (.bool (decide (l = k))) ∧ Tch [] w w' := by
  refine c37 _ _ _ _ _ _ ?_
  unfold d37
  refine (encode_c w a n c l h).mono ?_
  rintro e w3 ⟨xa, xc, rfl, ho, ht⟩
  refine ⟨_, _, _, _, rfl, _, _, _, rfl, _, rfl, ?_⟩
  refine (encode_c w3 b m mc k (g.quiet ht)).mono ?_
  rintro e w9 ⟨ya, yc, rfl, ho2, ht2⟩
  refine ⟨_, _, _, _, rfl, _, _, _, rfl, _, rfl, ?_⟩
  have hl := (encB_zero l).1 h0
  have hlen : (encB l).1.length ≤ 140737488351232 := by
    rw [encB_good hl]
    have h1 := (uv_len10 (n := l.length) (by omega)).2
    have h2 := encTxs_len h.ok hl.2
    simp only [List.length_append]
    omega
  refine (equal_c w9 _ _ xa ya _ xc _ yc ((own_rsl ho ones_ints).tch ht2 (fun _ _ h => by cases h)) (own_rsl ho2 ones_ints) hlen).mono ?_
  rintro e w14 ⟨rfl, ht3⟩
  refine ⟨_, rfl, ?_, (ht.trans ht2 (by simp)).trans ht3 (by simp)⟩
  congr 2
  rw [decide_eq_decide]
  exact ⟨fun he => encB_inj h.ok g.ok h0 g0 he, fun he => by rw [he]⟩
def Ep (n : Int) : Prop := 1 ≤ n ∧ n ≤ 1099511627776
instance (n : Int) : Decidable (Ep n) := by unfold Ep; infer_instance
theorem epoch_c (n : Int) (w : World) : Calls Try.prog 35 #[.int .i64 n] w fun e w' => e = .returned (.bool (decide (Ep n))) ∧ w' = w := by
  refine c35 _ ?_
  unfold d35
  by_cases h : 1 ≤ n
  · rw [bif_pos h]
    refine ⟨?_, rfl⟩
    congr 2
    rw [decide_eq_decide]
    unfold Ep
    omega
  · rw [bif_neg h]
    exact ⟨by rw [decide_eq_false fun he => h he.1], rfl⟩
end Go.Proofs.Ytjchneebdlncfaa.Lib
