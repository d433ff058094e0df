/-
  MERGE's LAWS: histories in memory; contracts of inputs, first, epochs, batch, piece.
  Own work. No macro, syntax, notation, axiom.
-/
import Derived.Test.YtjchneebdlncfaaMrgA
namespace Go.Proofs.Ytjchneebdlncfaa.Mrg
open Go Den Fn Lib
open Go.RowKit (Below)
open Classical
set_option maxRecDepth 8000
set_option maxHeartbeats 1000000

/-! ### A batch that grows -/
def Grow (B : Nat) (u : World) (x : Option Addr) (k c : Nat) (l : List Tx) : Prop := ∃ vs : List (List Value), vs.length = l.length ∧ k = l.length ∧ u.ownsRow B 39 4 (.slice x k c) k vs.flatten ∧
  ∀ (i : Nat) (v : List Value) (y : Tx), vs[i]? = some v → l[i]? = some y → TxV (fun z => Btw B u.heap.size z ∧ z ∉ rowL x) u v y
theorem Grow.nil (B : Nat) (u : World) : Grow B u none 0 0 [] := ⟨[], rfl, rfl, own_nil _ _ _ _, by simp⟩
theorem Grow.row {B : Nat} {u : World} {x : Option Addr} {k c : Nat} {l : List Tx} (h : Grow B u x k c l) : ∀ i ∈ rowL x, B ≤ i ∧ i < u.heap.size := h.elim fun _ h => rowL_ge h.2.2.1
theorem Grow.tch {B : Nat} {u u' : World} {x : Option Addr} {k c : Nat} {l : List Tx} {s : List Nat} (h : Grow B u x k c l) (ht : Tch s u u') (hs : ∀ z ∈ s, z < B ∨ u.heap.size ≤ z) : Grow B u' x k c l := by
  obtain ⟨vs, h1, h2, h3, h4⟩ := h
  have hq := ht.size
  refine ⟨vs, h1, h2, own_keep' h3 fun z hz hlt => ht.block z hlt fun hm => ?_, fun i v y hv hy => ((h4 i v y hv hy).tch ht fun z hz hh => ?_).mono fun z hz => ⟨⟨hz.1.1, by have := hz.1.2; omega⟩, hz.2⟩⟩
  · have := rowL_ge h3 z (mem_rowL.2 hz)
    rcases hs z hm with h | h <;> omega
  · have h1 := hh.1.1
    have h2 := hh.1.2
    rcases hs z hz with h | h <;> omega
theorem Grow.quiet {B : Nat} {u u' : World} {x : Option Addr} {k c : Nat} {l : List Tx} (h : Grow B u x k c l) (ht : Tch [] u u') : Grow B u' x k c l := h.tch ht (by simp)
theorem Grow.done {B : Nat} {u : World} {x : Option Addr} {k c : Nat} {l : List Tx} (h : Grow B u x k c l) : BatchV (Btw B u.heap.size) u x k c l := by
  obtain ⟨vs, h1, rfl, h3, h4⟩ := h
  refine ⟨vs, h1, (FR.own h3 ?_).mono fun _ h => h, fun i v y hv hy => (h4 i v y hv hy).mono fun _ h => h.1⟩
  intro u' hu
  obtain ⟨v, hv, hu⟩ := List.mem_flatten.1 hu
  obtain ⟨i, hi⟩ := List.getElem?_of_mem hv
  have hil := (List.getElem?_eq_some_iff.1 hi).1
  exact (h4 i v (l[i]'(by omega)) hi (List.getElem?_eq_getElem (by omega))).ones u' hu
/-- One more, that was made since u0. -/
theorem Grow.push {B : Nat} {u0 u : World} {x : Option Addr} {k c : Nat} {l : List Tx} (h : Grow B u0 x k c l) (tq : Tch [] u0 u) {v : List Value} {y : Tx} (hv : TxV (Btw u0.heap.size u.heap.size) u v y) (hB : B ≤ u0.heap.size) (hl : l.length ≤ 100000) {z : List Value} (hz : z.length = 4) {K : Option Addr → Nat → Nat → World → Prop}
    (hK : ∀ a' c' w', Grow B w' a' (k + 1) c' (l ++ [y]) → Tch (rowL x) u w' → (∀ i ∈ rowL x, B ≤ i) → K a' (k + 1) c' w') :
    ∃ cs, fillL (.elems 4) z [(0, .agg v.toArray)] = some cs ∧ ∀ w1 : World, w1 = World.alloc u (.cells (List.toArray cs) 39) →
      RunV Try.prog (Builtin.append_ #[33, 33] 33 #[.slice x k c, .slice (some ⟨World.heap u |>.size, 0, none⟩) 1 1]) w1 fun v w' => ∃ (x : Option Addr) (xn : Nat) (xc : Nat), v = (.slice x xn xc) ∧ K x xn xc w' := by
  have hrow0 := h.row
  have hs := tq.size
  obtain ⟨vs, h1, h2, h3, h4⟩ := h
  have hown := own_up h3 tq (fun _ _ h => by cases h)
  refine app_elem_at txT hown (by omega) (ys := v) rfl hv.len hv.ones (by omega) (by omega) (by omega) fun a5 c5 w34 o5 t5 m5 => ?_
  have q5 := t5.size
  refine hK a5 c5 w34 ⟨vs ++ [v], by simp [h1], by simp [h2], by simpa using o5, ?_⟩ t5 fun i hi => (hrow0 i hi).1
  have moved : ∀ {z : Nat}, z ∉ rowL x → z < u.heap.size → z ∉ rowL a5 := fun hz hlt hm => by
    rw [mem_rowL] at hm
    obtain ⟨ad, rfl, rfl⟩ := hm
    rcases m5 ad rfl with h | h
    · exact hz h
    · omega
  have keep : ∀ {P : Nat → Prop} {v : List Value} {y : Tx}, TxV P u v y → (∀ z, P z → Btw B u.heap.size z ∧ z ∉ rowL x) → TxV (fun z => Btw B w34.heap.size z ∧ z ∉ rowL a5) w34 v y := fun hfr hP =>
    (hfr.tch t5 fun z hz hp => (hP z hp).2 hz).mono fun z hp => ⟨⟨(hP z hp).1.1, by have := (hP z hp).1.2; omega⟩, moved (hP z hp).2 (hP z hp).1.2⟩
  intro i v' y' hv' hy'
  rw [List.getElem?_append] at hv' hy'
  split at hv'
  · rename_i hil
    rw [if_pos (by omega)] at hy'
    exact keep ((h4 i v' y' hv' hy').tch tq (by simp)) fun z h => ⟨⟨h.1.1, by have := h.1.2; omega⟩, h.2⟩
  · rename_i hil
    rw [if_neg (by omega)] at hy'
    by_cases h0 : i - vs.length = 0
    rotate_left
    · rw [List.getElem?_eq_none (by show 1 ≤ _; omega)] at hv'
      cases hv'
    rw [h0] at hv'
    rw [show i - l.length = 0 by omega] at hy'
    cases hv'; cases hy'
    exact keep hv fun z hz => ⟨⟨by have := hz.1; omega, by have := hz.2; omega⟩, fun hm => by have := (hrow0 z hm).2; have := hz.1; omega⟩

/-! ### Histories -/
structure Hist where
  inputs : Int
  first : Int
  txs : List (List Int)
def RowsV (w : World) : List Value → List (List Int) → Prop
  | [], [] => True
  | v :: vs, l :: ls => (∃ a n c, v = .slice a n c ∧ RSl w 1 a n c (i64s l) ∧ n ≤ 9223372036854775807 ∧ ∀ x ∈ l, I64 x) ∧ RowsV w vs ls
  | _, _ => False
theorem RowsV.quiet {w w' : World} (ht : Tch [] w w') : ∀ {vs : List Value} {ls : List (List Int)}, RowsV w vs ls → RowsV w' vs ls
  | [], [], _ => trivial
  | [], _ :: _, h => h.elim
  | _ :: _, [], h => h.elim
  | _ :: _, _ :: _, h => ⟨by obtain ⟨⟨a, n, c, h1, h2, h3⟩, _⟩ := h; exact ⟨a, n, c, h1, h2.tch ht (fun _ _ h => by cases h), h3⟩, RowsV.quiet ht h.2⟩
theorem RowsV.length {w : World} : ∀ {vs : List Value} {ls : List (List Int)}, RowsV w vs ls → vs.length = ls.length
  | [], [], _ => rfl
  | [], _ :: _, h => h.elim
  | _ :: _, [], h => h.elim
  | _ :: _, _ :: _, h => by simp [RowsV.length h.2]
theorem RowsV.get {w : World} : ∀ {vs : List Value} {ls : List (List Int)}, RowsV w vs ls → ∀ {i : Nat}, i < ls.length → ∃ a n c, vs[i]? = some (.slice a n c) ∧ RSl w 1 a n c (i64s (ls.getD i [])) ∧ n ≤ 9223372036854775807 ∧ ∀ x ∈ ls.getD i [], I64 x
  | [], [], _, i, h => by simp at h
  | [], _ :: _, h, _, _ => h.elim
  | _ :: _, [], h, _, _ => h.elim
  | v :: vs, l :: ls, h, 0, _ => by
    obtain ⟨⟨a, n, c, h1, h2, h3⟩, _⟩ := h
    exact ⟨a, n, c, by rw [h1]; rfl, h2, h3⟩
  | v :: vs, l :: ls, h, i + 1, hi => by
    simp only [List.getElem?_cons_succ, List.getD_cons_succ]
    exact RowsV.get h.2 (by simpa using hi)
/-- A history's cells. -/
def HistV (w : World) (cs : List Value) (h : Hist) : Prop := ∃ a n c vs, cs = [.int .i64 h.inputs, .int .i64 h.first, .slice a n c] ∧ RSl w 1 a n c vs ∧ n ≤ 9223372036854775807 ∧ RowsV w vs h.txs ∧ I64 h.inputs ∧ I64 h.first
theorem HistV.quiet {w w' : World} {cs : List Value} {h : Hist} (hh : HistV w cs h) (ht : Tch [] w w') : HistV w' cs h := by
  obtain ⟨a, n, c, vs, h1, h2, h3, h4, h5⟩ := hh
  exact ⟨a, n, c, vs, h1, h2.tch ht (fun _ _ h => by cases h), h3, h4.quiet ht, h5⟩
theorem HistV.len {w : World} {cs : List Value} {h : Hist} (hh : HistV w cs h) : cs.length = 3 := by
  obtain ⟨a, n, c, vs, rfl, _⟩ := hh; rfl
def hk (h : Hist) : Nat := 1 + (IntKind.wrap .u64 h.inputs).toNat % 16
def hf (h : Hist) : Nat := 1 + (IntKind.wrap .u64 h.first).toNat % 1000
def heps (h : Hist) : Nat := min 60 (h.txs.length / hk h)
def hb (h : Hist) (i e : Nat) : List Tx := ((h.txs.getD (e * hk h + i) []).take 64).map putTx
theorem hk_range (h : Hist) : 1 ≤ hk h ∧ hk h ≤ 16 := by unfold hk; omega
theorem hf_range (h : Hist) : 1 ≤ hf h ∧ hf h ≤ 1000 := by unfold hf; omega
theorem heps_range (h : Hist) : heps h ≤ 60 ∧ heps h * hk h ≤ h.txs.length := by
  have h1 := hk_range h
  unfold heps
  refine ⟨by omega, ?_⟩
  have : min 60 (h.txs.length / hk h) * hk h ≤ h.txs.length / hk h * hk h := Nat.mul_le_mul_right _ (by omega)
  have := Nat.div_mul_le_self h.txs.length (hk h)
  omega
theorem he_lt {h : Hist} {i e : Nat} (hi : i < hk h) (he : e < heps h) : e * hk h + i < h.txs.length := by
  have h1 := (heps_range h).2
  have h2 : (e + 1) * hk h ≤ heps h * hk h := Nat.mul_le_mul_right _ (by omega)
  rw [Nat.add_mul] at h2
  omega
theorem hb_good {h : Hist} {i e : Nat} : (hb h i e).length ≤ 64 ∧ ∀ x ∈ hb h i e, Lib.Good x := by
  unfold hb
  refine ⟨by simp; omega, fun x hx => ?_⟩
  obtain ⟨v, _, rfl⟩ := List.mem_map.1 hx
  exact putTx_good v
theorem hb_small {h : Hist} {i e : Nat} : Smalls (hb h i e) := by
  refine ⟨by have := (hb_good (h := h) (i := i) (e := e)).1; omega, fun x hx => ?_⟩
  obtain ⟨_, h1, h2, h3, _⟩ := (hb_good (h := h) (i := i) (e := e)).2 x hx
  exact ⟨by omega, by omega, by omega⟩
theorem tmod16 {x : Int} (h : I64 x) (m : Nat) (hm : 0 < m) (hm2 : m ≤ 1000) : IntKind.wrap .i64 (1 + IntKind.wrap .i64 (Int.tmod (IntKind.wrap .u64 x) m)) = ((1 + (IntKind.wrap .u64 x).toNat % m : Nat) : Int) := by
  have h0 : 0 ≤ IntKind.wrap .u64 x := by rw [wrap_u64_eq]; omega
  obtain ⟨y, hy⟩ := Int.eq_ofNat_of_zero_le h0
  rw [hy, tmod_nat, Int.toNat_natCast]
  have : y % m < m := Nat.mod_lt _ hm
  rw [wrap_i64 (n := ((y % m : Nat) : Int)) (by omega) (by omega), wrap_i64 (by omega) (by omega)]
  omega
theorem inputs_c (w : World) (cs : List Value) (h : Hist) (hh : HistV w cs h) : Calls Try.prog 8 #[.agg cs.toArray] w fun e w' => e = .returned (.int .i64 (hk h)) ∧ Tch [] w w' := by
  obtain ⟨a, n, c, vs, rfl, h2, h3, h4, h5, h6⟩ := hh
  refine c8 _ ?_
  unfold d8
  rintro w1 rfl
  have hX := Blk.fresh w (cs := [Value.int .i64 h.inputs, .int .i64 h.first, .slice a n c]) 24 rfl
  refine ⟨h.inputs, by rw [add_mk]; exact hX.cell 0, by omega, ?_, (Tch.refl [] w).alloc _⟩
  rw [show (16 : Int) = ((16 : Nat) : Int) from rfl, tmod16 h5 16 (by omega) (by omega)]
  rfl
theorem first_c (w : World) (cs : List Value) (h : Hist) (hh : HistV w cs h) : Calls Try.prog 11 #[.agg cs.toArray] w fun e w' => e = .returned (.int .i64 (hf h)) ∧ Tch [] w w' := by
  obtain ⟨a, n, c, vs, rfl, h2, h3, h4, h5, h6⟩ := hh
  refine c11 _ ?_
  unfold d11
  rintro w1 rfl
  have hX := Blk.fresh w (cs := [Value.int .i64 h.inputs, .int .i64 h.first, .slice a n c]) 24 rfl
  refine ⟨h.first, by rw [add_mk]; exact hX.cell 1, by omega, ?_, (Tch.refl [] w).alloc _⟩
  rw [show (1000 : Int) = ((1000 : Nat) : Int) from rfl, tmod16 h6 1000 (by omega) (by omega)]
  rfl
theorem epochs_c (w : World) (cs : List Value) (h : Hist) (hh : HistV w cs h) : Calls Try.prog 9 #[.agg cs.toArray] w fun e w' => e = .returned (.int .i64 (heps h)) ∧ Tch [] w w' := by
  have hh0 := hh
  obtain ⟨a, n, c, vs, rfl, h2, h3, h4, h5, h6⟩ := hh
  have hn : h.txs.length = n := by have := h2.len; have := h4.length; omega
  refine c9 _ ?_
  unfold d9
  rintro w1 rfl w2 rfl
  have hS := ((St.refl w []).new [Value.int .i64 h.inputs, .int .i64 h.first, .slice a n c] 24 rfl).drew
  generalize (w.alloc (.cells [Value.int .i64 h.inputs, .int .i64 h.first, .slice a n c].toArray 24)).drew = w2 at *
  generalize w.heap.size = pb at *
  refine ⟨a, n, c, by rw [add_mk]; exact (hS.blk (List.mem_singleton.2 rfl)).cell 2, ?_⟩
  refine get_all (hS.blk (List.mem_singleton.2 rfl)) rfl ?_
  refine (inputs_c w2 _ h (hh0.quiet hS.tch)).mono ?_
  rintro e w6 ⟨rfl, ht⟩
  replace hS := hS.quiet ht
  have hkr := hk_range h
  refine ⟨_, rfl, ⟨a, n, c, by rw [add_mk]; exact (hS.blk (List.mem_singleton.2 rfl)).cell 2, rfl, rfl⟩, by omega, ?_⟩
  have hdq := Nat.div_le_self n (hk h)
  rw [tdiv_nat]
  unfold heps
  rw [hn]
  generalize n / hk h = q at *
  rw [wrap_i64 (by omega) (by omega)]
  refine ⟨.int .i64 ((min 60 q : Nat) : Int), w6, ?_, _, rfl, rfl, hS.tch⟩
  rw [run_min_int2]
  congr 2
  split <;> omega
theorem batch_c (w : World) (cs : List Value) (h : Hist) (hh : HistV w cs h) (i e : Nat) (hi : i < hk h) (he : e < heps h) :
    Calls Try.prog 22 #[.agg cs.toArray, .int .i64 i, .int .i64 e] w fun en w' => ∃ a c, en = .returned (.slice a (hb h i e).length c) ∧ BatchV (Btw w.heap.size w'.heap.size) w' a (hb h i e).length c (hb h i e) ∧ Tch [] w w' := by
  have hh0 := hh
  obtain ⟨a, n, c, vs, rfl, h2, h3, h4, h5, h6⟩ := hh
  have hn : h.txs.length = n := by have := h2.len; have := h4.length; omega
  have hlt := he_lt hi he
  have hkr := hk_range h
  have her := heps_range h
  refine c22 _ _ _ ?_
  unfold d22
  rintro w3 rfl w4 rfl
  have hS := ((St.refl w []).new [Value.int .i64 h.inputs, .int .i64 h.first, .slice a n c] 24 rfl).drew
  generalize (w.alloc (.cells [Value.int .i64 h.inputs, .int .i64 h.first, .slice a n c].toArray 24)).drew = w4 at *
  generalize hpb : w.heap.size = pb at *
  refine ⟨a, n, c, by rw [add_mk]; exact (hS.blk (List.mem_singleton.2 rfl)).cell 2, ?_⟩
  refine get_all (hS.blk (List.mem_singleton.2 rfl)) rfl ?_
  refine (inputs_c w4 _ h (hh0.quiet hS.tch)).mono ?_
  rintro en w8 ⟨rfl, ht⟩
  replace hS := hS.quiet ht
  refine ⟨_, rfl, ⟨a, n, c, by rw [add_mk]; exact (hS.blk (List.mem_singleton.2 rfl)).cell 2, rfl, rfl⟩, ?_⟩
  have hmul : e * hk h ≤ 60 * 16 := Nat.mul_le_mul (by omega) hkr.2
  rw [show (e : Int) * (hk h : Int) = ((e * hk h : Nat) : Int) by norm_cast, wrap_i64 (n := ((e * hk h : Nat) : Int)) (by omega) (by omega), wrap_i64 (n := ((e * hk h : Nat) : Int) + (i : Int)) (by omega) (by omega), show ((e * hk h : Nat) : Int) + (i : Int) = ((e * hk h + i : Nat) : Int) by norm_cast]
  obtain ⟨b, m, d, hv, hr, hm, hI⟩ := h4.get hlt
  unfold hb
  generalize e * hk h + i = q at *
  refine ⟨by omega, by omega, ?_⟩
  rw [Int.toNat_natCast]
  have h2' := h2.tch hS.tch (fun _ _ h => by cases h)
  have hcell : optK a fun y => World.cell? w8 (Addr.add y (q * 1)) = some (.slice b m d) := by
    rcases h2'.at' with h' | ⟨b', o, rfl, hc⟩
    · have := h2'.cap; omega
    · show _ = _
      rw [Nat.mul_one]
      exact hc q _ hv
  generalize h.txs.getD q [] = l at *
  have hml : l.length = m := by have := hr.len; simp at this; omega
  cases a with
  | none => exact hcell.elim
  | some ad =>
    refine ⟨b, m, d, hcell, ?_⟩
    refine ⟨fun k x xn xc j u => ∃ p : Nat, j = p ∧ p ≤ min 64 m ∧ k = min 64 m - p ∧ xn = p ∧ Grow pb u x xn xc ((l.take p).map putTx) ∧ Tch [] w u, ⟨min 64 m, 0, rfl, by omega, rfl, rfl, Grow.nil _ _, hS.tch⟩, ?_⟩
    clear hS ht hcell
    rintro k w15 x xn xc j ⟨p, rfl, hp, rfl, rfl, hG, ht⟩
    have fin : ¬ (xn < m ∧ xn < 64) → ∃ a c, Ending.returned (.slice x xn xc) = .returned (.slice a ((l.take 64).map putTx).length c) ∧ BatchV (Btw pb w15.heap.size) w15 a ((l.take 64).map putTx).length c ((l.take 64).map putTx) ∧ Tch [] w w15 := fun hc => by
      have e1 : l.take xn = l.take 64 := by
        rcases Nat.lt_or_ge m 64 with h | h
        · rw [List.take_of_length_le (by omega), List.take_of_length_le (by omega)]
        · rw [show xn = 64 by omega]
      rw [e1] at hG
      have hlen : ((l.take 64).map putTx).length = xn := by rw [List.length_map, List.length_take]; omega
      rw [hlen]
      exact ⟨x, xc, rfl, hG.done, ht⟩
    refine ⟨fun u => u = w15 ∧ xn < m ∧ xn < 64, ?_, ?_⟩
    · by_cases c1 : xn < m
      · rw [bif_pos (by omega)]
        by_cases c2 : xn < 64
        · rw [bif_pos (by omega)]; exact ⟨rfl, c1, c2⟩
        · rw [bif_neg (by omega)]; exact fin (fun h => c2 h.2)
      · rw [bif_neg (by omega)]; exact fin (fun h => c1 h.1)
    rintro w19 ⟨rfl, c1, c2⟩
    refine ⟨by omega, by omega, ?_⟩
    rw [Int.toNat_natCast]
    obtain ⟨b1, o1, rfl, hc⟩ := (hr.tch ht (fun _ _ h => by cases h)).int (i := xn) c1
    · show ∃ _, _
      rw [add_mk, Nat.mul_one]
      have hle : l[xn]? = some (l[xn]'(by omega)) := List.getElem?_eq_getElem (by omega)
      refine ⟨_, hc, ?_⟩
      rw [List.getD_eq_getElem?_getD, hle, Option.getD_some]
      generalize l[xn]'(by omega) = v at hle
      refine (put_c v w19 (hI v (List.mem_of_getElem? hle))).mono ?_
      rintro en w23 ⟨cs, rfl, hT, ht2⟩
      refine ⟨_, rfl, ?_⟩
      have hB : pb ≤ w19.heap.size := by rw [← hpb]; exact ht.size
      refine hG.push ht2 hT hB (by simp; omega) (by rw [zcTx]; rfl) fun a' c' w' g1 t1 r1 => ?_
      refine ⟨min 64 m - (xn + 1), by omega, xn + 1, by rw [wrap_i64 (by omega) (by omega)]; omega, by omega, rfl, rfl, ?_, (ht.trans ht2 (by simp)).trans t1 fun i hi => .inr (by have := r1 i hi; omega)⟩
      rw [List.take_add_one, hle]
      simpa using g1
end Go.Proofs.Ytjchneebdlncfaa.Mrg
