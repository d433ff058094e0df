/-
  AN INPUT: in memory ('InAt'); contracts of told, NewInput, Open.
  AN INPUT: contract of keep.
  AN INPUT: contract of Close.
  AN INPUT: contracts of Again and Keep.
  Own work. No macro, syntax, notation, axiom.
-/
import Derived.Test.YtjchneebdlncfaaLibMrg4
import Derived.Test.YtjchneebdlncfaaFnMrgC
namespace Go.Proofs.Ytjchneebdlncfaa.Lib
open Go Den Fn
open Go.RowKit (Below)
open Classical
set_option maxRecDepth 8000
set_option maxHeartbeats 1000000

theorem zcPc : zc Try.prog 35 = [.int .i64 0, .int .i64 0, .slice none 0 0] := by kernel_rfl
theorem pT : slT Try.prog 87 35 3 40 = true := by kernel_rfl
theorem zcInput : zc Try.prog 104 = [.int .i64 0, .int .i64 0, .slice none 0 0, .slice none 0 0] := by kernel_rfl
/-- A piece's cells. -/
abbrev pcC (i e : Int) (a : Option Addr) (n c : Nat) : List Value := [.int .i64 i, .int .i64 e, .slice a n c]
theorem told_c {F : Nat → Prop} (w : World) (i e : Int) (a : Option Addr) (n c : Nat) (l : List Tx) (hB : BatchV F w a n c l) (hs : Small l) :
    Calls Try.prog 40 #[.agg (pcC i e a n c).toArray] w fun en w' => ∃ a' c', en = .returned (.agg (pcC i e a' n c').toArray) ∧ BatchV (Btw w.heap.size w'.heap.size) w' a' n c' l ∧ Tch [] w w' := by
  refine c40 _ ?_
  unfold d40
  rintro w1 rfl w2 rfl
  have hS := ((St.refl w []).new (pcC i e a n c) 35 rfl).new (zc Try.prog 35) 35 rfl
  rw [zcPc] at *
  have hs1 := size_alloc w (.cells (pcC i e a n c).toArray 35)
  generalize (w.alloc (.cells (pcC i e a n c).toArray 35)).alloc (.cells [Value.int .i64 0, .int .i64 0, .slice none 0 0].toArray 35) = w2 at *
  generalize (w.alloc (.cells (pcC i e a n c).toArray 35)).heap.size = qb at *
  generalize hpb : w.heap.size = pb at *
  refine ⟨a, n, c, by rw [add_mk]; exact (hS.blk (b := pb) (cs := pcC i e a n c) (by simp)).cell 2, ?_⟩
  refine (copied_c w2 a n c l (hB.quiet hS.tch) hs).mono ?_
  rintro en w5 ⟨a', c', rfl, hC, ht⟩
  have s2 := hS.size
  have hq2 := (hS.blk (b := qb) (cs := [.int .i64 0, .int .i64 0, .slice none 0 0]) (by simp)).lt
  replace hS := hS.quiet ht
  have hP := hS.blk (b := pb) (cs := pcC i e a n c) (by simp)
  have hQ := hS.blk (b := qb) (cs := [.int .i64 0, .int .i64 0, .slice none 0 0]) (by simp)
  refine ⟨_, _, _, rfl, rfl, by rw [add_mk, hP.cell]; rfl, by rw [add_mk]; exact hP.frozen _, ?_⟩
  rintro w7 rfl
  rw [add_mk]
  have t3 := (Tch.refl [pb] w5).setCell (p := ⟨pb, 0 + 2, none⟩) (.inl (by simp)) (.slice a' n c')
  have hP' := hP.set 2 (.slice a' n c')
  have hQ' := hQ.tch t3 (by simp; omega)
  refine get_all hP' rfl ?_
  refine put_all (n := 3) (new := pcC i e a' n c') hQ' rfl rfl (by simp [one]) fun w9 k1 t4 s4 => ?_
  refine get_all k1 rfl ?_
  have s3 := t3.size
  refine ⟨a', c', rfl, ((hC.tch t3 fun k hk hb => ?_).tch t4 fun k hk hb => ?_).mono fun k hb => ⟨by have := hb.1; omega, by have := hb.2; omega⟩, (hS.tch.trans t3 (by simp; omega)).trans t4 (by simp; omega)⟩
  · have := hb.1; simp at hk; omega
  · have := hb.1; simp at hk; omega
structure Inp where
  num : Int
  ep : Int
  txs : List Tx
  kept : List (Int × List Tx)
/-- A kept piece's cells. -/
def KpV (F : Nat → Prop) (w : World) (num : Int) (v : List Value) (q : Int × List Tx) : Prop := ∃ a n c, v = pcC num q.1 a n c ∧ BatchV F w a n c q.2
/-- An input at a block; R: the blocks that it may write; F: what else it hangs on lies there. -/
def InAt (F : Nat → Prop) (w : World) (xb : Nat) (R : List Nat) (x : Inp) : Prop :=
  ∃ (ta : Option Addr) (tc : Nat) (ka : Option Addr) (kc : Nat) (vs ks : List (List Value)), R = xb :: (rowL ta ++ rowL ka) ∧ (∀ k ∈ rowL ta, k ∉ rowL ka) ∧
    Blk w xb [.int .i64 x.num, .int .i64 x.ep, .slice ta x.txs.length tc, .slice ka x.kept.length kc] ∧
    vs.length = x.txs.length ∧ w.ownsRow (xb + 1) 39 4 (.slice ta x.txs.length tc) x.txs.length vs.flatten ∧ (∀ (i : Nat) (v : List Value) (y : Tx), vs[i]? = some v → x.txs[i]? = some y → TxV F w v y) ∧
    ks.length = x.kept.length ∧ w.ownsRow (xb + 1) 35 3 (.slice ka x.kept.length kc) x.kept.length ks.flatten ∧ (∀ (i : Nat) (v : List Value) (q : Int × List Tx), ks[i]? = some v → x.kept[i]? = some q → KpV F w x.num v q) ∧ ∀ k ∈ R, ¬ F k
theorem newInput_c (w : World) (num e : Int) (hn : 0 ≤ num ∧ num < 16) (he : Ep e) :
    Calls Try.prog 21 #[.int .i64 num, .int .i64 e] w fun en w' => en = .returned (.tuple #[.pointer (some ⟨w.heap.size, 0, none⟩), .int .i64 0]) ∧ InAt (fun _ => False) w' w.heap.size [w.heap.size] ⟨num, e, [], []⟩ ∧ Tch [] w w' := by
  refine c21 _ _ ?_
  unfold d21
  refine ⟨fun u => u = w, ?_, ?_⟩
  · rw [bif_neg (by omega), bif_neg (by omega)]
  rintro w3 rfl
  refine (epoch_c e w3).mono ?_
  rintro en w5 ⟨rfl, rfl⟩
  refine ⟨_, rfl, ?_⟩
  rw [bif_npos he]
  refine ⟨[.int .i64 num, .int .i64 e, .slice none 0 0, .slice none 0 0], by rw [zcInput]; rfl, ?_⟩
  rintro w8 rfl
  exact ⟨rfl, ⟨none, 0, none, 0, [], [], rfl, by simp [rowL], Blk.fresh _ _ rfl, rfl, own_nil _ _ _ _, by simp, rfl, own_nil _ _ _ _, by simp, fun _ _ h => h⟩, (Tch.refl [] w5).alloc _⟩
theorem open_c {F : Nat → Prop} (w : World) (xb : Nat) (R : List Nat) (x : Inp) (h : InAt F w xb R x) : Calls Try.prog 23 #[.pointer (some ⟨xb, 0, none⟩)] w fun en w' => en = .returned (.int .i64 x.txs.length) ∧ w' = w := by
  refine c23 _ ?_
  unfold d23
  obtain ⟨ta, tc, ka, kc, vs, ks, _, _, hb, _⟩ := h
  exact ⟨ta, _, tc, by rw [add_mk]; exact hb.cell 2, rfl, rfl⟩
theorem KpV.tch {F : Nat → Prop} {w w' : World} {num : Int} {v : List Value} {q : Int × List Tx} {s : List Nat} (h : KpV F w num v q) (ht : Tch s w w') (hs : ∀ k ∈ s, ¬ F k) : KpV F w' num v q := by
  obtain ⟨a, n, c, h1, h2⟩ := h
  exact ⟨a, n, c, h1, h2.tch ht hs⟩
theorem KpV.mono {F G : Nat → Prop} {w : World} {num : Int} {v : List Value} {q : Int × List Tx} (h : KpV F w num v q) (hFG : ∀ k, F k → G k) : KpV G w num v q := by
  obtain ⟨a, n, c, h1, h2⟩ := h
  exact ⟨a, n, c, h1, h2.mono hFG⟩
theorem KpV.under {F : Nat → Prop} {w : World} {num : Int} {v : List Value} {q : Int × List Tx} (h : KpV F w num v q) : KpV (fun k => F k ∧ k < w.heap.size) w num v q := by
  obtain ⟨a, n, c, h1, h2⟩ := h
  exact ⟨a, n, c, h1, h2.under⟩
section
variable {F G : Nat → Prop} {w w' : World} {xb : Nat} {R : List Nat} {x : Inp}
theorem InAt.lt (h : InAt F w xb R x) : xb < w.heap.size := by
  obtain ⟨_, _, _, _, _, _, _, _, hb, _⟩ := h
  exact hb.lt
theorem InAt.range (h : InAt F w xb R x) : ∀ k ∈ R, xb ≤ k ∧ k < w.heap.size := by
  obtain ⟨ta, tc, ka, kc, vs, ks, rfl, _, hb, _, o1, _, _, o2, _⟩ := h
  have hlt := hb.lt
  intro k hk
  rcases List.mem_cons.1 hk with rfl | hk
  · omega
  · rcases List.mem_append.1 hk with hk | hk
    · have := rowL_ge o1 k hk; omega
    · have := rowL_ge o2 k hk; omega
theorem InAt.nF (h : InAt F w xb R x) : ∀ k ∈ R, ¬ F k := by
  obtain ⟨_, _, _, _, _, _, _, _, _, _, _, _, _, _, _, h⟩ := h
  exact h
/-- What is written elsewhere is no matter. -/
theorem InAt.tch {s : List Nat} (h : InAt F w xb R x) (ht : Tch s w w') (hs : ∀ k ∈ s, k ∉ R ∧ ¬ F k) : InAt F w' xb R x := by
  have hq := ht.size
  obtain ⟨ta, tc, ka, kc, vs, ks, rfl, h1, hb, h2, o1, h3, h4, o2, h5, h6⟩ := h
  have keep : ∀ {e size : Nat} {a : Option Addr} {n m c : Nat} {l : List Value}, (∀ k ∈ rowL a, k ∈ xb :: (rowL ta ++ rowL ka)) → w.ownsRow (xb + 1) e size (.slice a m c) n l → w'.ownsRow (xb + 1) e size (.slice a m c) n l := fun hin o => own_keep' o fun z hz hlt => ht.block z hlt fun hm => (hs z hm).1 (hin z (mem_rowL.2 hz))
  have off : ∀ k ∈ s, ¬ F k := fun k hk => (hs k hk).2
  exact ⟨ta, tc, ka, kc, vs, ks, rfl, h1, hb.tch ht (fun hm => (hs xb hm).1 (by simp)), h2, keep (fun k hk => by simp [hk]) o1, fun i v y hv hy => (h3 i v y hv hy).tch ht off, h4, keep (fun k hk => by simp [hk]) o2, fun i v q hv hq => (h5 i v q hv hq).tch ht off, h6⟩
theorem InAt.quiet (h : InAt F w xb R x) (ht : Tch [] w w') : InAt F w' xb R x := h.tch ht (by simp)
theorem InAt.mono (h : InAt F w xb R x) (hFG : ∀ k, F k → G k) (hG : ∀ k ∈ R, ¬ G k) : InAt G w xb R x := by
  obtain ⟨ta, tc, ka, kc, vs, ks, h0, h1, hb, h2, o1, h3, h4, o2, h5, h6⟩ := h
  exact ⟨ta, tc, ka, kc, vs, ks, h0, h1, hb, h2, o1, fun i v y hv hy => (h3 i v y hv hy).mono hFG, h4, o2, fun i v q hv hq => (h5 i v q hv hq).mono hFG, hG⟩
theorem InAt.under (h : InAt F w xb R x) : InAt (fun k => F k ∧ k < w.heap.size) w xb R x := by
  obtain ⟨ta, tc, ka, kc, vs, ks, h0, h1, hb, h2, o1, h3, h4, o2, h5, h6⟩ := h
  exact ⟨ta, tc, ka, kc, vs, ks, h0, h1, hb, h2, o1, fun i v y hv hy => (h3 i v y hv hy).under, h4, o2, fun i v q hv hq => (h5 i v q hv hq).under, fun k hk hh => h6 k hk hh.1⟩
end
/-- What is asked of a call of an input. -/
def InR (F : Nat → Prop) (w w' : World) (xb : Nat) (R : List Nat) (x' : Inp) : Prop := ∃ R' F', InAt F' w' xb R' x' ∧ Tch R w w' ∧ (∀ k ∈ R', k ∈ R ∨ w.heap.size ≤ k) ∧ ∀ k, F' k → F k ∨ k ∈ R ∨ w.heap.size ≤ k
theorem add_c {F F0 : Nat → Prop} (w : World) (xb : Nat) (R : List Nat) (x : Inp) (h : InAt F0 w xb R x) (v : List Value) (y : Tx) (hv : TxV F w v y) (hg : Good y) (he : Ep x.ep) (hl : x.txs.length < 64) :
    Calls Try.prog 24 #[.pointer (some ⟨xb, 0, none⟩), .agg v.toArray] w fun en w' => en = .returned (.int .i64 0) ∧ InR F0 w w' xb R ⟨x.num, x.ep, x.txs ++ [y], x.kept⟩ := by
  replace h := h.under
  have hlt := h.lt
  have one1 : ∀ {u : World}, TxV F u v y → BatchV (fun k => F k ∨ k = u.heap.size) (u.alloc (.cells v.toArray 39)) (some ⟨u.heap.size, 0, none⟩) 1 1 [y] := fun {u} hv => by
    have hn : BlkT (u.alloc (.cells v.toArray 39)) u.heap.size 39 v := BlkT.new u v.toArray 39
    refine ⟨[v], rfl, ?_, fun i z y' hz hy => ?_⟩
    · rw [show [v].flatten = v by simp]
      refine (FR.own (hn.own (base := u.heap.size) (size := 4) (n := 1) (Nat.le_refl _) (by have := hv.len; omega) (by omega)) hv.ones).mono fun k hk => .inr ?_
      have := hk.2
      rw [size_alloc] at this
      omega
    · cases i with
      | succ i => simp at hz
      | zero =>
        cases hz; cases hy
        exact (hv.quiet ((Tch.refl [] u).alloc _)).mono fun k hk => .inl hk
  have hgood : ([y] : List Tx).length ≤ 64 ∧ ∀ z ∈ [y], Good z := ⟨by simp, by simpa using hg⟩
  refine c24 _ _ ?_
  unfold d24
  rintro w2 rfl
  have hS := (St.refl w []).new v 39 rfl
  generalize w.alloc (.cells v.toArray 39) = w2 at *
  generalize hab : w.heap.size = ab at *
  have bc : ∀ {u : World}, St w [] u [fBlk ab v] → Blk u ab v := fun hS => hS.blk (List.mem_singleton.2 rfl)
  have ic : ∀ {u : World}, Tch [] w u → InAt _ u xb R x := fun ht => h.quiet ht
  have ep : ∀ {u : World}, InAt (fun k => F0 k ∧ k < ab) u xb R x → World.cell? u (Addr.add ⟨xb, 0, none⟩ 1) = some (.int .i64 x.ep) := fun hi => by
    obtain ⟨_, _, _, _, _, _, _, _, hb, _⟩ := hi
    rw [add_mk]; exact hb.cell 1
  refine ⟨x.ep, ep (ic hS.tch), ?_⟩
  refine (epoch_c x.ep w2).mono ?_
  rintro e w6 ⟨rfl, rfl⟩
  refine ⟨_, rfl, ?_⟩
  rw [bif_npos he]
  refine get_all (bc hS) hv.len ?_
  refine ⟨v, fill1 (by rw [zcTx]; rfl) rfl hv.len, ?_⟩
  rintro w10 rfl
  have b1 := one1 (hv.quiet hS.tch)
  have hs10 := hS.alloc (.cells v.toArray 39)
  generalize w6.alloc (.cells v.toArray 39) = w10 at *
  refine (encode_c w10 _ 1 1 [y] b1).mono ?_
  rintro e w12 ⟨ea, ec, rfl, _, t2⟩
  have hS12 := hs10.quiet t2
  refine ⟨_, _, _, _, rfl, _, _, _, rfl, _, rfl, ?_⟩
  rw [bif_npos ((encB_zero _).2 hgood)]
  obtain ⟨ta, tc, ka, kc, vs, ks, hR, hdis, hb, hvl, o1, hvs, hkl, o2, hks, hnF⟩ := h
  have cb : ∀ {u : World}, Tch [] w u → World.cell? u (Addr.add ⟨xb, 0, none⟩ 2) = some (.slice ta x.txs.length tc) := fun ht => by
    rw [add_mk]; exact (hb.tch ht (by simp)).cell 2
  refine ⟨ta, _, tc, cb hS12.tch, ?_⟩
  rw [bif_neg (by omega)]
  rintro w19 rfl
  have hS19 := hS12.drew
  generalize w12.drew = w19 at *
  refine ⟨ta, _, tc, cb hS19.tch, ?_⟩
  refine get_all (bc hS19) hv.len ?_
  refine ⟨v, fill1 (by rw [zcTx]; rfl) rfl hv.len, ?_⟩
  rintro w24 rfl
  have b2 := one1 (hv.quiet hS19.tch)
  have hS24 := hS19.alloc (.cells v.toArray 39)
  generalize w19.alloc (.cells v.toArray 39) = w24 at *
  refine ⟨⟨ta, _, tc, cb hS24.tch, by constructor <;> first | rfl | trivial⟩, ?_⟩
  refine (copied_c w24 _ 1 1 [y] b2 (Small.of_good hgood)).mono ?_
  rintro e w27 ⟨da, dc, rfl, hD, t3⟩
  have hS27 := hS24.quiet t3
  have T27 := hS27.tch
  have s24 := hS24.size
  have s27 := t3.size
  refine ⟨_, _, _, rfl, ⟨ta, _, tc, cb T27, by constructor <;> first | rfl | trivial⟩, ?_⟩
  obtain ⟨vs', hl', hF', hT'⟩ := hD
  have o1' := own_up o1 T27 (fun _ _ h => by cases h)
  have hr1 := rowL_ge o1
  have hr2 := rowL_ge o2
  refine app_at txT o1' hF'.1 (by omega) (by omega) (by omega) fun a5 c5 w31 o5 t5 m5 => ?_
  have s31 := t5.size
  have hxa : xb ∉ rowL ta := fun hm => by have := (hr1 xb hm).1; omega
  have hb31 := (hb.tch T27 (by simp)).tch t5 hxa
  refine ⟨rfl, by rw [add_mk, hb31.cell]; rfl, by rw [add_mk]; exact hb31.frozen _, ?_⟩
  rintro w34 rfl
  rw [add_mk]
  have t6 := (Tch.refl [xb] w31).setCell (p := ⟨xb, 0 + 2, none⟩) (.inl (by simp)) (.slice a5 (x.txs.length + 1) c5)
  have hb34 := hb31.set 2 (.slice a5 (x.txs.length + 1) c5)
  have s34 := t6.size
  generalize w31.setCell ⟨xb, 0 + 2, none⟩ (.slice a5 (x.txs.length + 1) c5) = w34 at *
  have mv : ∀ k ∈ rowL a5, k ∈ rowL ta ∨ w27.heap.size ≤ k := fun k hk => by
    rw [mem_rowL] at hk
    obtain ⟨ad, rfl, rfl⟩ := hk
    exact m5 ad rfl
  have hlen : (x.txs ++ [y]).length = x.txs.length + 1 := by simp
  subst hR
  have off5 : ∀ k ∈ rowL ta, ¬ (F0 k ∧ k < ab) := fun k hk => hnF k (by simp [hk])
  have off6 : ∀ k ∈ [xb], ¬ (F0 k ∧ k < ab) := fun k hk => hnF k (by simp at hk; simp [hk])
  have out : ∀ k, (F0 k ∧ k < ab) → (F0 k ∧ k < ab) ∨ Btw w24.heap.size w27.heap.size k := fun k hk => .inl hk
  refine ⟨rfl, xb :: (rowL a5 ++ rowL ka), fun k => (F0 k ∧ k < ab) ∨ Btw w24.heap.size w27.heap.size k, ⟨a5, c5, ka, kc, vs ++ vs', ks, rfl, fun k hk => ?_, ?_, by simp [hvl, hl'], ?_, fun i u z hu hz => ?_, hkl, ?_, fun i u q hu hq => ((((hks i u q hu hq).tch T27 (by simp)).tch t5 off5).tch t6 off6).mono out, fun k hk => ?_⟩, ?_, fun k hk => ?_, fun k hk => ?_⟩
  · rcases mv k hk with h | h
    · exact hdis k h
    · intro hm
      have := (hr2 k hm).2
      omega
  · show Blk w34 xb [_, _, .slice a5 (x.txs ++ [y]).length c5, _]
    rw [hlen]
    exact hb34
  · show World.ownsRow w34 (xb + 1) _ 4 (.slice a5 (x.txs ++ [y]).length c5) (x.txs ++ [y]).length (vs ++ vs').flatten
    rw [hlen, List.flatten_append]
    exact own_keep' o5 fun z hz hlt => t6.block z hlt fun hm => by
      have := (rowL_ge o5 z (mem_rowL.2 hz)).1
      simp at hm
      omega
  · have hz' : (x.txs ++ [y])[i]? = some z := hz
    rw [List.getElem?_append] at hu hz'
    split at hu
    · rename_i hil
      rw [if_pos (by omega)] at hz'
      exact ((((hvs i u z hu hz').tch T27 (by simp)).tch t5 off5).tch t6 off6).mono out
    · rename_i hil
      rw [if_neg (by omega)] at hz'
      rw [hvl] at hu
      refine (((hT' _ u z hu hz').tch t5 fun k hk hh => ?_).tch t6 fun k hk hh => ?_).mono fun k hk => .inr hk
      · have h1 := (hr1 k hk).2
        have h2 := hh.1
        omega
      · have h2 := hh.1
        simp at hk
        omega
  · show World.ownsRow w34 (xb + 1) _ 3 (.slice ka x.kept.length kc) x.kept.length ks.flatten
    exact own_keep' o2 fun z hz hlt => by
      have hzr := hr2 z (mem_rowL.2 hz)
      rw [t6.block z (by omega) (by simp; omega), t5.block z (by omega) (fun hm => hdis z hm (mem_rowL.2 hz)), T27.block z hlt (by simp)]
  · have hkr : (k ∈ xb :: (rowL ta ++ rowL ka)) ∨ w27.heap.size ≤ k := by
      rcases List.mem_cons.1 hk with hk | hk
      · exact .inl (by simp [hk])
      · rcases List.mem_append.1 hk with hk | hk
        · exact (mv k hk).imp (fun h => by simp [h]) id
        · exact .inl (by simp [hk])
    have hold : ∀ k ∈ xb :: (rowL ta ++ rowL ka), k < ab := fun k hk => by
      rcases List.mem_cons.1 hk with hk | hk
      · omega
      · rcases List.mem_append.1 hk with hk | hk
        · have := hr1 k hk; omega
        · have := hr2 k hk; omega
    rintro (hh | hh)
    · rcases hkr with h | h
      · exact hnF k h hh
      · have := hh.2; omega
    · have h1 := hh.1
      have h2 := hh.2
      rcases hkr with h | h
      · have := hold k h; omega
      · omega
  · exact ((T27.weaken (t := xb :: (rowL ta ++ rowL ka)) (by simp)).trans t5 fun z hz => .inl (by simp [hz])).trans t6 fun z hz => .inl (by simp at hz; simp [hz])
  · rcases List.mem_cons.1 hk with hk | hk
    · exact .inl (by simp [hk])
    · rcases List.mem_append.1 hk with hk | hk
      · rcases mv k hk with h | h
        · exact .inl (by simp [h])
        · exact .inr (by omega)
      · exact .inl (by simp [hk])
  · rcases hk with hk | hk
    · exact .inl hk.1
    · exact .inr (.inr (by have := hk.1; omega))
end Go.Proofs.Ytjchneebdlncfaa.Lib
namespace Go.Proofs.Ytjchneebdlncfaa.Lib
open Go Den Fn
open Go.RowKit (Below)
open Classical
set_option maxRecDepth 8000
set_option maxHeartbeats 1000000

/-- An input, opened: its two rows by name. -/
structure InO (F : Nat → Prop) (w : World) (xb : Nat) (ta : Option Addr) (tn tc : Nat) (ka : Option Addr) (kc : Nat) (num ep : Int) (kept : List (Int × List Tx)) : Prop where
  dis : ∀ k ∈ rowL ta, k ∉ rowL ka
  blk : Blk w xb [.int .i64 num, .int .i64 ep, .slice ta tn tc, .slice ka kept.length kc]
  row : ∃ ks : List (List Value), ks.length = kept.length ∧ w.ownsRow (xb + 1) 35 3 (.slice ka kept.length kc) kept.length ks.flatten ∧ ∀ (i : Nat) (v : List Value) (q : Int × List Tx), ks[i]? = some v → kept[i]? = some q → KpV F w num v q
  nF : ∀ k ∈ xb :: rowL ka, ¬ F k
theorem InAt.opened {F : Nat → Prop} {w : World} {xb : Nat} {R : List Nat} {x : Inp} (h : InAt F w xb R x) : ∃ ta tc ka kc, R = xb :: (rowL ta ++ rowL ka) ∧ InO (fun k => F k ∨ k ∈ rowL ta) w xb ta x.txs.length tc ka kc x.num x.ep x.kept ∧
    BatchV (fun k => F k ∨ k ∈ rowL ta) w ta x.txs.length tc x.txs := by
  obtain ⟨ta, tc, ka, kc, vs, ks, rfl, h1, hb, h2, o1, h3, h4, o2, h5, h6⟩ := h
  have hr1 := rowL_ge o1
  refine ⟨ta, tc, ka, kc, rfl, ⟨h1, hb, ⟨ks, h4, o2, fun i v q hv hq => (h5 i v q hv hq).mono fun k hk => .inl hk⟩, fun k hk => ?_⟩, vs, h2, ?_, fun i v y hv hy => (h3 i v y hv hy).mono fun k hk => .inl hk⟩
  · rintro (hh | hh)
    · exact h6 k (by rcases List.mem_cons.1 hk with h | h <;> simp [h]) hh
    · rcases List.mem_cons.1 hk with h | h
      · have := hr1 k hh; omega
      · exact h1 k hh h
  refine ⟨own_rsl o1 fun u hu => ?_, .inr fun ad had => .inr (mem_rowL.2 ⟨ad, had, rfl⟩)⟩
  obtain ⟨v, hv, hu⟩ := List.mem_flatten.1 hu
  obtain ⟨i, hi⟩ := List.getElem?_of_mem hv
  have hil := (List.getElem?_eq_some_iff.1 hi).1
  exact (h3 i v (x.txs[i]'(by omega)) hi (List.getElem?_eq_getElem (by omega))).ones u hu
theorem InO.under {F : Nat → Prop} {w : World} {xb : Nat} {ta : Option Addr} {tn tc : Nat} {ka : Option Addr} {kc : Nat} {num ep : Int} {kept : List (Int × List Tx)} (h : InO F w xb ta tn tc ka kc num ep kept) : InO (fun k => F k ∧ k < w.heap.size) w xb ta tn tc ka kc num ep kept := by
  obtain ⟨h1, h2, ⟨ks, h3, h4, h5⟩, h6⟩ := h
  exact ⟨h1, h2, ⟨ks, h3, h4, fun i v q hv hq => (h5 i v q hv hq).under⟩, fun k hk hh => h6 k hk hh.1⟩
theorem keep_c {F : Nat → Prop} (w : World) (xb : Nat) (ta : Option Addr) (tn tc : Nat) (ka : Option Addr) (kc : Nat) (num ep : Int) (kept : List (Int × List Tx)) (h : InO F w xb ta tn tc ka kc num ep kept) (a : Option Addr) (n c : Nat) (l : List Tx)
    (hB : BatchV F w a n c l) (hk : kept.length < 64) (hep : Ep ep) :
    Calls Try.prog 39 #[.pointer (some ⟨xb, 0, none⟩), .agg (pcC num ep a n c).toArray] w fun en w' => en = .returned (.tuple #[]) ∧ ∃ ka', InAt (fun k => F k ∧ k < w.heap.size) w' xb (xb :: rowL ka') ⟨num, ep + 1, [], kept ++ [(ep, l)]⟩ ∧ Tch (xb :: rowL ka) w w' ∧ ∀ k ∈ rowL ka', k ∈ rowL ka ∨ w.heap.size ≤ k := by
  replace hB := hB.under
  obtain ⟨hdis, hb, ⟨ks, hkl, o2, hks⟩, hnF⟩ := h.under
  have hr2 := rowL_ge o2
  have hlt := hb.lt
  unfold Ep at hep
  refine c39 _ _ ?_
  unfold d39
  rintro w2 rfl w3 rfl
  have hS := ((St.refl w []).new (pcC num ep a n c) 35 rfl).drew
  generalize (w.alloc (.cells (pcC num ep a n c).toArray 35)).drew = w3 at *
  generalize hab : w.heap.size = ab at *
  have hb3 := hb.tch hS.tch (by simp)
  refine ⟨ka, _, kc, by rw [add_mk]; exact hb3.cell 3, ?_⟩
  refine get_all (hS.blk (List.mem_singleton.2 rfl)) rfl ?_
  refine ⟨pcC num ep a n c, fill1 (by rw [zcPc]; rfl) rfl rfl, ?_⟩
  rintro w8 rfl
  have hn := Blk.fresh w3 (cs := pcC num ep a n c) 35 rfl
  have t8 := (Tch.refl [] w3).alloc (.cells (pcC num ep a n c).toArray 35)
  have T8 := hS.tch.trans t8 (by simp)
  have hs3 := hS.size
  have s8 := size_alloc w3 (.cells (pcC num ep a n c).toArray 35)
  generalize w3.alloc (.cells (pcC num ep a n c).toArray 35) = w8 at *
  have hb8 := hb.tch T8 (by simp)
  refine ⟨⟨ka, _, kc, by rw [add_mk]; exact hb8.cell 3, by constructor <;> first | rfl | trivial⟩, ?_⟩
  have hr : RSl w8 3 (some ⟨w3.heap.size, 0, none⟩) 1 1 (pcC num ep a n c) := hn.rsl rfl (by simp [one])
  refine app_at pT (own_up o2 T8 (fun _ _ h => by cases h)) hr (by omega) (by omega) (by omega) fun k5 c5 w11 o5 t5 m5 => ?_
  have hxk : xb ∉ rowL ka := fun hm => by have := (hr2 xb hm).1; omega
  have hb11 := hb8.tch t5 hxk
  have s11 := t5.size
  refine ⟨rfl, by rw [add_mk, hb11.cell]; rfl, by rw [add_mk]; exact hb11.frozen _, ?_⟩
  rintro w14 rfl
  rw [add_mk]
  have t6 := (Tch.refl [xb] w11).setCell (p := ⟨xb, 0 + 3, none⟩) (.inl (by simp)) (.slice k5 (kept.length + 1) c5)
  have hb14 := hb11.set 3 (.slice k5 (kept.length + 1) c5)
  generalize w11.setCell ⟨xb, 0 + 3, none⟩ (.slice k5 (kept.length + 1) c5) = w14 at *
  have s14 := t6.size
  refine ⟨fun u => u = w14, ?_, ?_⟩
  · refine ⟨k5, _, c5, by rw [add_mk]; exact hb14.cell 3, ?_⟩
    rw [bif_neg (by omega)]
  rintro w25 rfl
  refine ⟨rfl, by rw [add_mk, hb14.cell]; rfl, by rw [add_mk]; exact hb14.frozen _, ?_⟩
  rintro w27 rfl
  rw [add_mk]
  have t7 := (Tch.refl [xb] w25).setCell (p := ⟨xb, 0 + 2, none⟩) (.inl (by simp)) (.slice none 0 0)
  have hb27 := hb14.set 2 (.slice none 0 0)
  generalize w25.setCell ⟨xb, 0 + 2, none⟩ (.slice none 0 0) = w27 at *
  have s27 := t7.size
  refine ⟨ep, by rw [add_mk]; exact hb27.cell 1, ?_⟩
  refine ⟨rfl, by rw [add_mk, hb27.cell]; rfl, by rw [add_mk]; exact hb27.frozen _, ?_⟩
  rintro w31 rfl
  rw [add_mk, wrap_i64 (by omega) (by omega)]
  have t9 := (Tch.refl [xb] w27).setCell (p := ⟨xb, 0 + 1, none⟩) (.inl (by simp)) (.int .i64 (ep + 1))
  have hb31 := hb27.set 1 (.int .i64 (ep + 1))
  generalize w27.setCell ⟨xb, 0 + 1, none⟩ (.int .i64 (ep + 1)) = w31 at *
  have s31 := t9.size
  have mv : ∀ k ∈ rowL k5, k ∈ rowL ka ∨ w8.heap.size ≤ k := fun k hk => by
    rw [mem_rowL] at hk
    obtain ⟨ad, rfl, rfl⟩ := hk
    exact m5 ad rfl
  have tx : Tch [xb] w11 w31 := (t6.trans t7 fun i hi => .inl hi).trans t9 fun i hi => .inl hi
  have T8' := T8.size
  have off5 : ∀ k ∈ rowL ka, ¬ (F k ∧ k < ab) := fun k hk => hnF k (by simp [hk])
  have off6 : ∀ k ∈ [xb], ¬ (F k ∧ k < ab) := fun k hk => hnF k (by simp at hk; simp [hk])
  have hlen : (kept ++ [(ep, l)]).length = kept.length + 1 := by simp
  refine ⟨rfl, k5, ⟨none, 0, k5, c5, [], ks ++ [pcC num ep a n c], by simp [rowL], by simp [rowL], ?_, rfl, own_nil _ _ _ _, by simp, by simp [hkl], ?_, fun i u q hu hq => ?_, fun k hk hh => ?_⟩, ?_, fun k hk => ?_⟩
  · show Blk w31 xb [_, _, .slice none 0 0, .slice k5 (kept ++ [(ep, l)]).length c5]
    rw [hlen]
    exact hb31
  · show World.ownsRow w31 (xb + 1) _ 3 (.slice k5 (kept ++ [(ep, l)]).length c5) (kept ++ [(ep, l)]).length (ks ++ [pcC num ep a n c]).flatten
    rw [hlen, List.flatten_append]
    refine own_keep' ?_ fun z hz hlt => tx.block z hlt fun hm => ?_
    · simpa using o5
    · have := (rowL_ge o5 z (mem_rowL.2 hz)).1
      simp at hm
      omega
  · have hq' : (kept ++ [(ep, l)])[i]? = some q := hq
    rw [List.getElem?_append] at hu hq'
    split at hu
    · rename_i hil
      rw [if_pos (by omega)] at hq'
      exact (((hks i u q hu hq').tch T8 (by simp)).tch t5 off5).tch tx off6
    · rename_i hil
      rw [if_neg (by omega)] at hq'
      by_cases h0 : i - ks.length = 0
      rotate_left
      · rw [List.getElem?_eq_none (by show 1 ≤ _; omega)] at hu
        cases hu
      rw [h0] at hu
      rw [show i - kept.length = 0 by omega] at hq'
      cases hu; cases hq'
      exact ⟨a, n, c, rfl, ((hB.tch T8 (by simp)).tch t5 off5).tch tx off6⟩
  · rcases List.mem_cons.1 hk with hk | hk
    · exact hnF k (by simp [hk]) hh
    · rcases mv k hk with h | h
      · exact hnF k (by simp [h]) hh
      · have := hh.2; omega
  · exact ((T8.weaken (t := xb :: rowL ka) (by simp)).trans t5 fun z hz => .inl (by simp [hz])).trans tx fun z hz => .inl (by simp at hz; simp [hz])
  · rcases mv k hk with h | h
    · exact .inl h
    · exact .inr (by omega)
end Go.Proofs.Ytjchneebdlncfaa.Lib
namespace Go.Proofs.Ytjchneebdlncfaa.Lib
open Go Den Fn
open Go.RowKit (Below)
open Classical
set_option maxRecDepth 8000
set_option maxHeartbeats 1000000

theorem InO.quiet {F : Nat → Prop} {w w' : World} {xb : Nat} {ta : Option Addr} {tn tc : Nat} {ka : Option Addr} {kc : Nat} {num ep : Int} {kept : List (Int × List Tx)} (h : InO F w xb ta tn tc ka kc num ep kept) (ht : Tch [] w w') : InO F w' xb ta tn tc ka kc num ep kept := by
  obtain ⟨h1, h2, ⟨ks, h3, h4, h5⟩, h6⟩ := h
  exact ⟨h1, h2.tch ht (by simp), ⟨ks, h3, own_up h4 ht (fun _ _ h => by cases h), fun i v q hv hq => (h5 i v q hv hq).tch ht (by simp)⟩, h6⟩
theorem close_c {F : Nat → Prop} (w : World) (xb : Nat) (R : List Nat) (x : Inp) (h : InAt F w xb R x) (hk : x.kept.length < 64) (hep : Ep x.ep) (hs : Small x.txs) :
    Calls Try.prog 25 #[.pointer (some ⟨xb, 0, none⟩)] w fun en w' => ∃ a c, en = .returned (.agg (pcC x.num x.ep a x.txs.length c).toArray) ∧ BatchV (Btw w.heap.size w'.heap.size) w' a x.txs.length c x.txs ∧ InR F w w' xb R ⟨x.num, x.ep + 1, [], x.kept ++ [(x.ep, x.txs)]⟩ := by
  replace h := h.under
  obtain ⟨ta, tc, ka, kc, rfl, hO, hB⟩ := h.opened
  have hlt := h.lt
  refine c25 _ ?_
  unfold d25
  rintro w1 rfl
  have hS := (St.refl w []).new (zc Try.prog 35) 35 rfl
  rw [zcPc] at *
  generalize w.alloc (.cells [Value.int .i64 0, .int .i64 0, .slice none 0 0].toArray 35) = w1 at *
  generalize hab : w.heap.size = ab at *
  have hr1 : ∀ k ∈ rowL ta, k < ab := fun k hk => by
    have := h.range k (by simp [hk]); omega
  have hr2 : ∀ k ∈ rowL ka, k < ab := fun k hk => by
    have := h.range k (by simp [hk]); omega
  have hO1 := hO.quiet hS.tch
  refine ⟨x.ep, by rw [add_mk]; exact hO1.blk.cell 1, ?_⟩
  refine (epoch_c x.ep w1).mono ?_
  rintro e w5 ⟨rfl, rfl⟩
  refine ⟨_, rfl, ?_⟩
  rw [bif_npos hep]
  rintro w10 rfl
  replace hS := hS.drew
  generalize w5.drew = w10 at *
  have hO2 := hO.quiet hS.tch
  refine ⟨x.num, by rw [add_mk]; exact hO2.blk.cell 0, x.ep, by rw [add_mk]; exact hO2.blk.cell 1, ta, _, tc, by rw [add_mk]; exact hO2.blk.cell 2, pcC x.num x.ep ta x.txs.length tc, by rfl, ?_⟩
  rintro w18 rfl
  have k0 := Blk.fresh w10 (cs := zc Try.prog 35) 35 rfl
  have t1 := (Tch.refl [] w10).alloc (.cells (zc Try.prog 35).toArray 35)
  have s1 := size_alloc w10 (.cells (zc Try.prog 35).toArray 35)
  rw [zcPc] at *
  generalize w10.alloc (.cells [Value.int .i64 0, .int .i64 0, .slice none 0 0].toArray 35) = w18 at *
  generalize hpe : w10.heap.size = pe at *
  have hs10 := hS.size
  have hab10 := (hS.blk (List.mem_singleton.2 rfl)).lt
  replace hS := hS.quiet t1
  have hO3 := hO.quiet hS.tch
  refine ⟨⟨ta, _, tc, by rw [add_mk]; exact hO3.blk.cell 2, by constructor <;> first | rfl | trivial⟩, ⟨x.ep, by rw [add_mk]; exact hO3.blk.cell 1, by constructor <;> first | rfl | trivial⟩, ⟨x.num, by rw [add_mk]; exact hO3.blk.cell 0, by constructor <;> first | rfl | trivial⟩, ?_⟩
  refine put_all (n := 3) k0 rfl rfl (by simp [one]) fun w22 k1 t2 s2 => ?_
  refine get_all k1 rfl ?_
  have T22 : Tch [] w w22 := hS.tch.trans t2 (by simp; omega)
  have hS22 : St w [] w22 [fBlk ab [.int .i64 0, .int .i64 0, .slice none 0 0]] := hS.step t2 (fun f hf => by
    obtain rfl := List.mem_singleton.1 hf
    exact fBlk_off (by simp; omega)) fun i hi => .inr (by simp at hi; omega)
  have s22 := hS22.size
  have hB22 := hB.quiet T22
  refine (keep_c w22 xb ta _ tc ka kc x.num x.ep x.kept (hO.quiet T22) ta _ tc x.txs hB22 hk hep).mono ?_
  rintro e w25 ⟨rfl, ka', hI, t3, hka⟩
  have s25 := t3.size
  have ka0 : ∀ k ∈ xb :: rowL ka, k < ab := fun k hk => by
    rcases List.mem_cons.1 hk with hk | hk
    · omega
    · exact hr2 k hk
  have hB25 := hB22.tch t3 hO.nF
  have k25 := k1.tch t3 (fun hm => by have := ka0 _ hm; omega)
  have a25 := (hS22.blk (List.mem_singleton.2 rfl)).tch t3 (fun hm => by have := ka0 _ hm; omega)
  refine ⟨rfl, get_all k25 rfl ?_⟩
  refine (told_c w25 x.num x.ep ta x.txs.length tc x.txs hB25 hs).mono ?_
  rintro e w28 ⟨a', c', rfl, hD, t4⟩
  have s28 := t4.size
  refine ⟨_, rfl, ?_⟩
  refine put_all (n := 3) (new := pcC x.num x.ep a' x.txs.length c') (a25.tch t4 (by simp)) rfl rfl (by simp [one]) fun w30 k2 t5 s5 => ?_
  refine get_all k2 rfl ?_
  have hka' : ∀ k ∈ rowL ka', k ∈ rowL ka ∨ w22.heap.size ≤ k := hka
  refine ⟨a', c', rfl, (hD.tch t5 fun k hk hh => ?_).mono fun k hk => ⟨by have := hk.1; omega, by have := hk.2; omega⟩, xb :: rowL ka', _, (hI.quiet t4).tch t5 (fun k hk => ?_), ?_, fun k hk => ?_, fun k hk => ?_⟩
  · have := hh.1
    simp at hk
    omega
  · simp only [List.mem_singleton] at hk
    subst hk
    refine ⟨fun hm => ?_, fun hh => ?_⟩
    · rcases List.mem_cons.1 hm with hm | hm
      · omega
      · rcases hka' _ hm with h | h
        · have := hr2 _ h; omega
        · omega
    · rcases hh.1 with h | h
      · have := h.2; omega
      · have := hr1 _ h; omega
  · have q1 : Tch (xb :: rowL ka) w w28 := ((T22.weaken (t := xb :: rowL ka) (by simp)).trans t3 fun z hz => .inl hz).trans t4 (by simp)
    refine (q1.weaken fun z hz => ?_).trans t5 fun z hz => .inr (by simp at hz; omega)
    rcases List.mem_cons.1 hz with h | h <;> simp [h]
  · rcases List.mem_cons.1 hk with h | h
    · exact .inl (by simp [h])
    · rcases hka' k h with h | h
      · exact .inl (by simp [h])
      · exact .inr (by omega)
  · rcases hk.1 with h | h
    · exact .inl h.1
    · exact .inr (.inl (by simp [h]))
end Go.Proofs.Ytjchneebdlncfaa.Lib
namespace Go.Proofs.Ytjchneebdlncfaa.Lib
open Go Den Fn
open Go.RowKit (Below)
open Classical
set_option maxRecDepth 8000
set_option maxHeartbeats 1000000

/-- Which kept piece is meant. -/
noncomputable def keptOf (l : List (Int × List Tx)) (e : Int) : Option (Int × List Tx) := l.find? fun q => decide (q.1 = e)
theorem keptOf_drop {l : List (Int × List Tx)} {e : Int} {k : Nat} (h : ∀ i q, i < k → l[i]? = some q → q.1 ≠ e) : keptOf l e = keptOf (l.drop k) e := by
  induction k generalizing l with
  | zero => rfl
  | succ k ih =>
    cases l with
    | nil => rfl
    | cons y l =>
      have h0 : y.1 ≠ e := h 0 y (by omega) rfl
      have := ih (l := l) fun i q hi hq => h (i + 1) q (by omega) hq
      rw [List.drop_succ_cons, ← this]
      unfold keptOf
      rw [List.find?_cons_of_neg (by simpa using h0)]
theorem pcs_one {i e : Int} {a : Option Addr} {n c : Nat} : ∀ u ∈ pcC i e a n c, one u = true := by simp [one]
theorem again_c {F : Nat → Prop} (w : World) (xb : Nat) (R : List Nat) (x : Inp) (h : InAt F w xb R x) (e : Int) (hl : x.kept.length ≤ 64) (hs : ∀ q ∈ x.kept, Small q.2) :
    Calls Try.prog 26 #[.pointer (some ⟨xb, 0, none⟩), .int .i64 e] w fun en w' => (∀ q, keptOf x.kept e = some q → ∃ a c, en = .returned (.tuple #[.agg (pcC x.num e a q.2.length c).toArray, .int .i64 0]) ∧ BatchV (Btw w.heap.size w'.heap.size) w' a q.2.length c q.2) ∧
      (keptOf x.kept e = none → en = .returned (.tuple #[.agg (pcC 0 0 none 0 0).toArray, .int .i64 266])) ∧ Tch [] w w' := by
  obtain ⟨ta, tc, ka, kc, vs, ks, rfl, h1, hb, h2, o1, h3, h4, o2, h5, h6⟩ := h
  refine c26 _ _ ?_
  unfold d26
  rintro w2 rfl
  have hS := (St.refl w []).new (zc Try.prog 35) 35 rfl
  rw [zcPc] at *
  generalize w.alloc (.cells [Value.int .i64 0, .int .i64 0, .slice none 0 0].toArray 35) = w2 at *
  generalize hab : w.heap.size = ab at *
  have kl : ∀ v ∈ ks, v.length = 3 ∧ ∀ u ∈ v, one u = true := fun v hv => by
    obtain ⟨i, hi⟩ := List.getElem?_of_mem hv
    have hil := (List.getElem?_eq_some_iff.1 hi).1
    obtain ⟨a, n, c, rfl, _⟩ := h5 i v (x.kept[i]'(by omega)) hi (List.getElem?_eq_getElem (by omega))
    exact ⟨rfl, pcs_one⟩
  have hr : RSl w 3 ka x.kept.length kc ks.flatten := own_rsl o2 fun u hu => by
    obtain ⟨v, hv, hu⟩ := List.mem_flatten.1 hu
    exact (kl v hv).2 u hu
  rw [← rows_id'] at hr
  refine ⟨ka, _, kc, by rw [add_mk]; exact (hb.tch hS.tch (by simp)).cell 3, ?_⟩
  refine ⟨fun m z u => ∃ k : Nat, z = k ∧ k ≤ x.kept.length ∧ m = x.kept.length - k ∧ St w [] u [fBlk ab [.int .i64 0, .int .i64 0, .slice none 0 0]] ∧ ∀ i q, i < k → x.kept[i]? = some q → q.1 ≠ e, ⟨_, 0, rfl, by omega, rfl, hS, by omega⟩, ?_⟩
  clear hS
  rintro m w7 z ⟨k, rfl, hk, rfl, hS, hno⟩
  have hdrop := keptOf_drop hno
  by_cases hkl : k < x.kept.length
  rotate_left
  · rw [bif_neg (by omega)]
    have hn : keptOf x.kept e = none := by
      rw [hdrop, List.drop_of_length_le (by omega)]
      rfl
    refine ⟨pcC 0 0 none 0 0, by rfl, ?_⟩
    have ht := hS.tch
    have hsz := hS.size
    refine put_all (n := 3) (hS.blk (List.mem_singleton.2 rfl)) rfl rfl pcs_one fun w22 k1 t1 s1 => ?_
    refine get_all k1 rfl ⟨fun q hq => ?_, fun _ => rfl, ht.trans t1 fun z hz => .inr (by simp at hz; omega)⟩
    rw [hn] at hq; cases hq
  rw [bif_pos (by omega)]
  refine ⟨by omega, by omega, ?_⟩
  rw [Int.toNat_natCast]
  have hvi : ks[k]? = some (ks[k]'(by omega)) := List.getElem?_eq_getElem (by omega)
  have hqi : x.kept[k]? = some (x.kept[k]'hkl) := List.getElem?_eq_getElem hkl
  have hmem : x.kept[k]'hkl ∈ x.kept := List.getElem_mem hkl
  generalize ks[k]'(by omega) = v at hvi
  generalize x.kept[k]'hkl = q at hqi hmem
  obtain ⟨a, n, c, rfl, hB⟩ := h5 k v q hvi hqi
  have hnl := hB.count
  have hBq := hB.quiet hS.tch
  refine (hr.tch hS.tch (fun _ _ h => by cases h)).elem (f := id) (fun v hv => (kl v hv).1) (by omega) hvi ?_
  show ∀ w11 : World, _
  have szw := hS.size
  have hab7 := (hS.blk (List.mem_singleton.2 rfl)).lt
  refine var_init (n := 3) (by rw [zcPc]; rfl) rfl pcs_one fun w11 w12 kb t1 s1 => ?_
  generalize hpe : w7.heap.size = pe at *
  replace hS := hS.quiet t1
  refine ⟨_, by rw [add_mk]; exact kb.cell 1, ?_⟩
  by_cases he : q.1 = e
  rotate_left
  · rw [bif_neg he]
    refine ⟨x.kept.length - (k + 1), by omega, k + 1, by rw [wrap_i64 (by omega) (by omega)]; omega, by omega, rfl, hS, fun i r hi hr => ?_⟩
    by_cases hik : i = k
    · rw [hik, hqi] at hr
      cases hr
      exact he
    · exact hno i r (by omega) hr
  rw [bif_pos he]
  have hsome : keptOf x.kept e = some q := by
    rw [hdrop, List.drop_eq_getElem_cons hkl]
    have : x.kept[k] = q := by
      rw [List.getElem?_eq_getElem hkl] at hqi
      exact Option.some.inj hqi
    rw [this]
    unfold keptOf
    rw [List.find?_cons_of_pos (by simpa using he)]
  refine get_all kb rfl ?_
  refine (told_c w12 x.num q.1 a n c q.2 (hBq.quiet t1) (hs q hmem)).mono ?_
  rintro en w16 ⟨a', c', rfl, hC, t2⟩
  replace hS := hS.quiet t2
  have s16 := t2.size
  refine ⟨_, rfl, ?_⟩
  have ht := hS.tch
  refine put_all (n := 3) (new := pcC x.num q.1 a' n c') (hS.blk (List.mem_singleton.2 rfl)) rfl rfl pcs_one fun w18 k2 t3 s3 => ?_
  refine get_all k2 rfl ⟨fun q' hq' => ?_, fun hn => ?_, ht.trans t3 fun z hz => .inr (by simp at hz; omega)⟩
  · rw [hsome] at hq'
    cases hq'
    rw [hnl, he]
    refine ⟨a', c', rfl, (hC.tch t3 fun k hk hh => ?_).mono fun k hk => ⟨by have := hk.1; omega, by have := hk.2; omega⟩⟩
    have := hh.1
    simp at hk
    omega
  · rw [hsome] at hn; cases hn
/-- What Keep says. -/
noncomputable def keepE (x : Inp) (num ep : Int) (l : List Tx) : Int :=
  if num ≠ x.num then 261 else if ¬ Ep ep ∨ ep ≠ x.ep ∨ x.txs.length ≠ 0 then 262 else (encB l).2
theorem keepIn_c {F G : Nat → Prop} (w : World) (xb : Nat) (R : List Nat) (x : Inp) (h : InAt F w xb R x) (num ep : Int) (a : Option Addr) (n c : Nat) (l : List Tx) (hB : BatchV G w a n c l) (hk : x.kept.length < 64) :
    Calls Try.prog 27 #[.pointer (some ⟨xb, 0, none⟩), .agg (pcC num ep a n c).toArray] w fun en w' => en = .returned (.int .i64 (keepE x num ep l)) ∧ InR F w w' xb R (if keepE x num ep l = 0 then ⟨x.num, x.ep + 1, [], x.kept ++ [(x.ep, l)]⟩ else x) := by
  replace h := h.under
  have hrg := h.range
  have hlt := h.lt
  obtain ⟨ta, tc, ka, kc, rfl, hO, hT⟩ := h.opened
  have hnl := hB.count
  refine c27 _ _ ?_
  unfold d27
  rintro w2 rfl w3 rfl
  have hS := ((St.refl w []).new (pcC num ep a n c) 35 rfl).drew
  generalize (w.alloc (.cells (pcC num ep a n c).toArray 35)).drew = w3 at *
  generalize hab : w.heap.size = ab at *
  have bc : ∀ {u : World}, St w [] u [fBlk ab (pcC num ep a n c)] → Blk u ab (pcC num ep a n c) := fun hS => hS.blk (List.mem_singleton.2 rfl)
  have same : ∀ {u : World} {z : Int}, z ≠ 0 → keepE x num ep l = z → St w [] u [fBlk ab (pcC num ep a n c)] → (Ending.returned (.int .i64 z) = .returned (.int .i64 (keepE x num ep l)) ∧ InR F w u xb (xb :: (rowL ta ++ rowL ka)) (if keepE x num ep l = 0 then ⟨x.num, x.ep + 1, [], x.kept ++ [(x.ep, l)]⟩ else x)) := fun hz he hS => by
    rw [he, if_neg hz]
    exact ⟨rfl, _, _, h.quiet hS.tch, hS.tch.weaken (by simp), fun k hk => .inl hk, fun k hk => .inl hk.1⟩
  refine ⟨num, by rw [add_mk]; exact (bc hS).cell 0, x.num, by rw [add_mk]; exact (hO.quiet hS.tch).blk.cell 0, ?_⟩
  by_cases c1 : num = x.num
  rotate_left
  · rw [bif_nneg c1]
    exact same (by omega) (by unfold keepE; rw [if_pos c1]) hS
  rw [bif_npos c1]
  refine ⟨fun u => St w [] u [fBlk ab (pcC num ep a n c)] ∧ Ep ep ∧ ep = x.ep ∧ x.txs.length = 0, ?_, ?_⟩
  · rintro w8 rfl
    replace hS := hS.drew
    generalize w3.drew = w8 at *
    refine ⟨ep, by rw [add_mk]; exact (bc hS).cell 1, ?_⟩
    refine (epoch_c ep w8).mono ?_
    rintro e w11 ⟨rfl, rfl⟩
    refine ⟨_, rfl, ?_⟩
    by_cases c2 : Ep ep
    rotate_left
    · rw [bif_nneg c2]
      exact same (by omega) (by unfold keepE; rw [if_neg (by simpa using c1), if_pos (.inl c2)]) hS
    rw [bif_npos c2]
    refine ⟨ep, by rw [add_mk]; exact (bc hS).cell 1, x.ep, by rw [add_mk]; exact (hO.quiet hS.tch).blk.cell 1, ?_⟩
    by_cases c3 : ep = x.ep
    rotate_left
    · rw [bif_nneg c3]
      exact same (by omega) (by unfold keepE; rw [if_neg (by simpa using c1), if_pos (.inr (.inl c3))]) hS
    rw [bif_npos c3]
    refine ⟨ta, _, tc, by rw [add_mk]; exact (hO.quiet hS.tch).blk.cell 2, ?_⟩
    by_cases c4 : x.txs.length = 0
    rotate_left
    · rw [bif_pos (by omega)]
      exact same (by omega) (by unfold keepE; rw [if_neg (by simpa using c1), if_pos (.inr (.inr c4))]) hS
    rw [bif_neg (by omega)]
    exact ⟨hS, c2, c3, c4⟩
  clear hS
  rintro w18 ⟨hS, c2, c3, c4⟩
  have hke : keepE x num ep l = (encB l).2 := by unfold keepE; rw [if_neg (by simpa using c1), if_neg (by rintro (h | h | h) <;> contradiction)]
  refine ⟨a, n, c, by rw [add_mk]; exact (bc hS).cell 2, ?_⟩
  refine (encode_c w18 a n c l (hB.quiet hS.tch)).mono ?_
  rintro e w21 ⟨ea, ec, rfl, _, t2⟩
  replace hS := hS.quiet t2
  refine ⟨_, _, _, _, rfl, _, _, _, rfl, _, rfl, ?_⟩
  by_cases c5 : (encB l).2 = 0
  rotate_left
  · rw [bif_nneg c5]
    exact same c5 hke hS
  rw [bif_npos c5, hke, if_pos c5, c5]
  refine get_all (bc hS) rfl ?_
  refine (told_c w21 num ep a n c l (hB.quiet hS.tch) (Small.of_good ((encB_zero _).1 c5))).mono ?_
  rintro e w28 ⟨a', c', rfl, hC, t3⟩
  have s21 := hS.size
  have s28 := t3.size
  replace hS := hS.quiet t3
  refine ⟨_, rfl, ?_⟩
  subst c1 c3
  have hO28 := hO.quiet hS.tch
  have hO' : InO (fun k => ((F k ∧ k < ab) ∨ k ∈ rowL ta) ∨ Btw w21.heap.size w28.heap.size k) w28 xb ta x.txs.length tc ka kc x.num x.ep x.kept := by
    obtain ⟨q1, q2, ⟨ks, q3, q4, q5⟩, q6⟩ := hO28
    refine ⟨q1, q2, ⟨ks, q3, q4, fun i v q hv hq => (q5 i v q hv hq).mono fun k hk => .inl hk⟩, fun k hk => ?_⟩
    rintro (hh | hh)
    · exact q6 k hk hh
    · have := hh.1
      rcases List.mem_cons.1 hk with hk | hk
      · omega
      · have := (hrg k (by simp [hk])).2
        omega
  refine (keep_c w28 xb ta _ tc ka kc x.num x.ep x.kept hO' a' n c' l (hC.mono fun k hk => .inr hk) hk c2).mono ?_
  rintro e w31 ⟨rfl, ka', hI, t4, hka⟩
  refine ⟨rfl, rfl, xb :: rowL ka', _, hI, ?_, fun k hk => ?_, fun k hk => ?_⟩
  · refine (hS.tch.weaken (by simp)).trans t4 fun z hz => .inl ?_
    rcases List.mem_cons.1 hz with h | h <;> simp [h]
  · rcases List.mem_cons.1 hk with h | h
    · exact .inl (by simp [h])
    · rcases hka k h with h | h
      · exact .inl (by simp [h])
      · exact .inr (by omega)
  · rcases hk.1 with (h | h) | h
    · exact .inl h.1
    · exact .inr (.inl (by simp [h]))
    · exact .inr (.inr (by have := h.1; omega))
end Go.Proofs.Ytjchneebdlncfaa.Lib
