/-
  A MERGER: as data, in memory; contracts of New, Epoch, Take.
  Own work. No macro, syntax, notation, axiom.
-/
import Derived.Test.YtjchneebdlncfaaLibMrg
namespace Go.Proofs.Ytjchneebdlncfaa.Lib
open Go Den Fn
open Go.RowKit (Below)
open Classical
set_option maxRecDepth 8000
set_option maxHeartbeats 1000000

abbrev Pcs := List ((Int × Int) × List Tx)
structure Mg where
  k : Int
  e : Int
  top : Int
  ps : Pcs
noncomputable def pGet : Pcs → Int × Int → Option (List Tx)
  | [], _ => none
  | q :: r, k => if q.1 = k then some q.2 else pGet r k
noncomputable def pDel : Pcs → Int × Int → Pcs
  | [], _ => []
  | q :: r, k => if q.1 = k then r else q :: pDel r k
abbrev wFK : List FK := [.int .i64, .int .i64]
theorem mapT : MapT Try.prog 93 53 33 6 wFK := ⟨by kernel_rfl, by kernel_rfl, by kernel_rfl⟩
theorem zeroTxs (w : World) : (zeroValue 33).run Try.prog w = .ok (.slice none 0 0) w := by
  have hz : (Try.prog.info? 33).map (·.zero) = some (some (.slice none 0 0)) := by kernel_rfl
  obtain ⟨j, hj, hz'⟩ := Option.map_eq_some_iff.1 hz
  simp [zeroValue, hj, hz', typeInfo]
theorem zcWant : zc Try.prog 53 = kC (0, 0) := by kernel_rfl
theorem want_fits {k : Int × Int} (h : kI k) : Fits wFK (kC k) := key_fits h
/-- A map's entries as pieces. -/
def EntAt (F : Nat → Prop) (w : World) (x : List Value × Value) (q : (Int × Int) × List Tx) : Prop := x.1 = kC q.1 ∧ kI q.1 ∧ ∃ a n c, x.2 = .slice a n c ∧ BatchV F w a n c q.2
def PsAt (F : Nat → Prop) (w : World) : Ents → Pcs → Prop
  | [], [] => True
  | x :: es, q :: ps => EntAt F w x q ∧ PsAt F w es ps
  | _, _ => False
section
variable {F G : Nat → Prop} {w w' : World} {s : List Nat}
theorem EntAt.tch {x : List Value × Value} {q : (Int × Int) × List Tx} (h : EntAt F w x q) (ht : Tch s w w') (hs : ∀ k ∈ s, ¬ F k) : EntAt F w' x q := by
  obtain ⟨h1, h2, a, n, c, h3, h4⟩ := h
  exact ⟨h1, h2, a, n, c, h3, h4.tch ht hs⟩
theorem EntAt.mono {x : List Value × Value} {q : (Int × Int) × List Tx} (h : EntAt F w x q) (hFG : ∀ k, F k → G k) : EntAt G w x q := by
  obtain ⟨h1, h2, a, n, c, h3, h4⟩ := h
  exact ⟨h1, h2, a, n, c, h3, h4.mono hFG⟩
theorem PsAt.tch (ht : Tch s w w') (hs : ∀ k ∈ s, ¬ F k) : ∀ {es : Ents} {ps : Pcs}, PsAt F w es ps → PsAt F w' es ps
  | [], [], _ => trivial
  | [], _ :: _, h => h.elim
  | _ :: _, [], h => h.elim
  | _ :: _, _ :: _, h => ⟨h.1.tch ht hs, PsAt.tch ht hs h.2⟩
theorem PsAt.mono (hFG : ∀ k, F k → G k) : ∀ {es : Ents} {ps : Pcs}, PsAt F w es ps → PsAt G w es ps
  | [], [], _ => trivial
  | [], _ :: _, h => h.elim
  | _ :: _, [], h => h.elim
  | _ :: _, _ :: _, h => ⟨h.1.mono hFG, PsAt.mono hFG h.2⟩
theorem PsAt.fits : ∀ {es : Ents} {ps : Pcs}, PsAt F w es ps → ∀ e ∈ es, Fits wFK e.1
  | [], _, _, _, h => by cases h
  | _ :: _, [], h, _, _ => h.elim
  | x :: es, q :: ps, h, e, he => by
    rcases List.mem_cons.1 he with rfl | he
    · rw [h.1.1]; exact want_fits h.1.2.1
    · exact PsAt.fits h.2 e he
theorem PsAt.get (k : Int × Int) : ∀ {es : Ents} {ps : Pcs}, PsAt F w es ps → (pGet ps k = none ∧ mGet es (kC k) = none) ∨ ∃ l a n c, pGet ps k = some l ∧ mGet es (kC k) = some (.slice a n c) ∧ BatchV F w a n c l
  | [], [], _ => .inl ⟨rfl, rfl⟩
  | [], _ :: _, h => h.elim
  | _ :: _, [], h => h.elim
  | x :: es, q :: ps, h => by
    obtain ⟨⟨h1, h2, a, n, c, h3, h4⟩, hr⟩ := h
    by_cases hq : q.1 = k
    · refine .inr ⟨q.2, a, n, c, by simp [pGet, hq], ?_, h4⟩
      unfold mGet
      rw [if_pos (by rw [h1, hq]), h3]
    · have hne : x.1 ≠ kC k := fun he => hq (kC_inj.1 (h1.symm.trans he))
      rcases PsAt.get k hr with ⟨g1, g2⟩ | ⟨l, a, n, c, g1, g2, g3⟩
      · refine .inl ⟨by simp [pGet, hq, g1], ?_⟩
        unfold mGet
        rw [if_neg hne, g2]
      · refine .inr ⟨l, a, n, c, by simp [pGet, hq, g1], ?_, g3⟩
        unfold mGet
        rw [if_neg hne, g2]
theorem PsAt.push {x : List Value × Value} {q : (Int × Int) × List Tx} (hx : EntAt F w x q) : ∀ {es : Ents} {ps : Pcs}, PsAt F w es ps → PsAt F w (es ++ [x]) (ps ++ [q])
  | [], [], _ => ⟨hx, trivial⟩
  | [], _ :: _, h => h.elim
  | _ :: _, [], h => h.elim
  | _ :: _, _ :: _, h => ⟨h.1, PsAt.push hx h.2⟩
theorem PsAt.del (k : Int × Int) : ∀ {es : Ents} {ps : Pcs}, PsAt F w es ps → PsAt F w (mDel es (kC k)) (pDel ps k)
  | [], [], _ => trivial
  | [], _ :: _, h => h.elim
  | _ :: _, [], h => h.elim
  | x :: es, q :: ps, h => by
    unfold mDel pDel
    by_cases hq : q.1 = k
    · rw [if_pos (by rw [h.1.1, hq]), if_pos hq]; exact h.2
    · rw [if_neg fun he => hq (kC_inj.1 (h.1.1.symm.trans he)), if_neg hq]
      exact ⟨h.1, PsAt.del k h.2⟩
end
/-- A merger at a block, its map at another; its pieces lie among F. -/
structure MgAt (F : Nat → Prop) (w : World) (mb pb : Nat) (g : Mg) : Prop where
  blk : Blk w mb [.int .i64 g.k, .int .i64 g.e, .int .i64 g.top, .map (some pb)]
  map : ∃ es, MapAt w pb es ∧ PsAt F w es g.ps
  ne : mb ≠ pb
  nF : ¬ F mb ∧ ¬ F pb
  k : 1 ≤ g.k ∧ g.k ≤ 16
  e : 1 ≤ g.e ∧ g.e ≤ 1099511627777
  top : 0 ≤ g.top ∧ g.top ≤ 1099511627776 ∧ g.top < g.e + 64
  good : ∀ q ∈ g.ps, (encB q.2).2 = 0 ∧ kI q.1
section
variable {F G : Nat → Prop} {w w' : World} {s : List Nat} {mb pb : Nat} {g : Mg}
theorem MgAt.tch (h : MgAt F w mb pb g) (ht : Tch s w w') (hm : mb ∉ s) (hp : pb ∉ s) (hs : ∀ k ∈ s, ¬ F k) : MgAt F w' mb pb g := by
  obtain ⟨es, h1, h2⟩ := h.map
  exact ⟨h.blk.tch ht hm, ⟨es, h1.tch ht hp, h2.tch ht hs⟩, h.ne, h.nF, h.k, h.e, h.top, h.good⟩
theorem MgAt.quiet (h : MgAt F w mb pb g) (ht : Tch [] w w') : MgAt F w' mb pb g := h.tch ht (by simp) (by simp) (by simp)
theorem MgAt.mono (h : MgAt F w mb pb g) (hFG : ∀ k, F k → G k) (hG : ¬ G mb ∧ ¬ G pb) : MgAt G w mb pb g := by
  obtain ⟨es, h1, h2⟩ := h.map
  exact ⟨h.blk, ⟨es, h1, h2.mono hFG⟩, h.ne, hG, h.k, h.e, h.top, h.good⟩
theorem MgAt.lt (h : MgAt F w mb pb g) : mb < w.heap.size ∧ pb < w.heap.size := ⟨h.blk.lt, h.map.elim fun _ h => h.1.lt⟩
theorem MgAt.cell (h : MgAt F w mb pb g) (i : Nat) : w.cell? (Addr.add ⟨mb, 0, none⟩ i) = ([.int .i64 g.k, .int .i64 g.e, .int .i64 g.top, .map (some pb)] : List Value)[i]? := by
  rw [add_mk, Nat.zero_add]; exact h.blk.cell i
end
theorem zcMerger : zc Try.prog 95 = [.int .i64 0, .int .i64 0, .int .i64 0, .map none] := by kernel_rfl
theorem new_mg_c (w : World) (k e : Int) (hk : 1 ≤ k ∧ k ≤ 16) (he : Ep e) :
    Calls Try.prog 10 #[.int .i64 k, .int .i64 e] w fun en w' => ∃ mb pb, en = .returned (.tuple #[.pointer (some ⟨mb, 0, none⟩), .int .i64 0]) ∧ MgAt (fun _ => False) w' mb pb ⟨k, e, 0, []⟩ ∧ Tch [] w w' ∧ w.heap.size ≤ mb ∧ w.heap.size ≤ pb := by
  refine c10 _ _ ?_
  unfold d10
  refine ⟨fun u => u = w, ?_, ?_⟩
  · rw [bif_neg (by omega), bif_neg (by omega)]
  rintro w3 rfl
  refine (epoch_c e w3).mono ?_
  rintro en w5 ⟨rfl, rfl⟩
  refine ⟨_, rfl, ?_⟩
  rw [bif_npos he]
  rintro w7 rfl
  refine ⟨[.int .i64 k, .int .i64 e, .int .i64 0, .map (some w5.heap.size)], by rw [zcMerger]; rfl, ?_⟩
  rintro w9 rfl
  have t1 := (Tch.refl [] w5).alloc (.map #[] 0)
  have s1 := size_alloc w5 (.map #[] 0)
  have hm := MapAt.new w5
  generalize w5.alloc (.map #[] 0) = w7 at *
  have t2 := (Tch.refl [] w7).alloc (.cells [Value.int .i64 k, .int .i64 e, .int .i64 0, .map (some w5.heap.size)].toArray 95)
  unfold Ep at he
  exact ⟨_, w5.heap.size, rfl, ⟨Blk.fresh _ _ rfl, ⟨[], hm.tch t2 (by simp), trivial⟩, by omega, ⟨id, id⟩, hk, by simp only; omega, by simp only; omega, by simp⟩, t1.trans t2 (by simp), by omega, by omega⟩
theorem epochOf_c {F : Nat → Prop} (w : World) (mb pb : Nat) (g : Mg) (h : MgAt F w mb pb g) : Calls Try.prog 12 #[.pointer (some ⟨mb, 0, none⟩)] w fun en w' => en = .returned (.int .i64 g.e) ∧ w' = w := by
  refine c12 _ ?_
  unfold d12
  exact ⟨g.e, h.cell 1, rfl, rfl⟩
/-- What Take does. -/
noncomputable def takeS (g : Mg) (i e : Int) (l : List Tx) : Mg × Int :=
  if i < 0 ∨ g.k ≤ i then (g, 261)
  else if ¬ Ep e ∨ g.e + 64 ≤ e then (g, 262)
  else if (encB l).2 ≠ 0 then (g, (encB l).2)
  else if e < g.e then (g, 0)
  else match pGet g.ps (i, e) with
    | some was => (g, if was = l then 0 else 263)
    | none => (⟨g.k, g.e, if e > g.top then e else g.top, g.ps ++ [((i, e), l)]⟩, 0)
theorem pGet_mem {ps : Pcs} {k : Int × Int} {l : List Tx} : pGet ps k = some l → (k, l) ∈ ps := by
  induction ps with
  | nil => intro h; cases h
  | cons q r ih =>
    intro h
    unfold pGet at h
    split at h
    · rename_i hq
      cases h
      rw [← hq]; simp
    · exact List.mem_cons_of_mem _ (ih h)
theorem take_c {F G : Nat → Prop} (w : World) (mb pb : Nat) (g : Mg) (h : MgAt F w mb pb g) (i e : Int) (a : Option Addr) (n c : Nat) (l : List Tx) (hB : BatchV G w a n c l) (hi : I64 i) (he : I64 e) :
    Calls Try.prog 15 #[.pointer (some ⟨mb, 0, none⟩), .agg [Value.int .i64 i, .int .i64 e, .slice a n c].toArray] w fun en w' => en = .returned (.int .i64 (takeS g i e l).2) ∧
      MgAt (fun k => F k ∨ Btw w.heap.size w'.heap.size k) w' mb pb (takeS g i e l).1 ∧ Tch [mb, pb] w w' := by
  obtain ⟨hmb, hpb⟩ := h.lt
  have hk := h.k
  have hge := h.e
  have stay : ∀ {u : World} {x : Int}, Tch [] w u → (Ending.returned (.int .i64 x) = .returned (.int .i64 x) ∧ MgAt (fun k => F k ∨ Btw w.heap.size u.heap.size k) u mb pb g ∧ Tch [mb, pb] w u) := fun ht =>
    ⟨rfl, (h.quiet ht).mono (fun _ h => .inl h) ⟨fun hh => hh.elim h.nF.1 fun hh => by have := hh.1; omega, fun hh => hh.elim h.nF.2 fun hh => by have := hh.1; omega⟩, ht.weaken (by simp)⟩
  refine c15 _ _ ?_
  unfold d15
  rintro w2 rfl
  have hS := (St.refl w []).new [.int .i64 i, .int .i64 e, .slice a n c] 35 rfl
  generalize w.alloc (.cells [Value.int .i64 i, .int .i64 e, .slice a n c].toArray 35) = w2 at *
  generalize hab : w.heap.size = ab at *
  have ac : ∀ {u : World} (q : Nat), St w [] u [fBlk ab [.int .i64 i, .int .i64 e, .slice a n c]] → u.cell? (Addr.add ⟨ab, 0, none⟩ q) = ([.int .i64 i, .int .i64 e, .slice a n c] : List Value)[q]? := fun q hS => by
    rw [add_mk, Nat.zero_add]; exact (hS.blk (List.mem_singleton.2 rfl)).cell q
  unfold takeS
  refine ⟨fun u => ¬ (i < 0 ∨ g.k ≤ i) ∧ St w [] u [fBlk ab [.int .i64 i, .int .i64 e, .slice a n c]], ?_, ?_⟩
  · rintro w4 rfl
    replace hS := hS.drew
    generalize w2.drew = w4 at *
    refine ⟨i, ac 0 hS, ?_⟩
    by_cases h1 : i < 0
    · rw [bif_pos h1, if_pos (.inl h1)]
      exact stay hS.tch
    rw [bif_neg h1]
    refine ⟨i, ac 0 hS, g.k, (h.quiet hS.tch).cell 0, ?_⟩
    by_cases h2 : g.k ≤ i
    · rw [bif_pos h2, if_pos (.inr h2)]
      exact stay hS.tch
    rw [bif_neg h2]
    exact ⟨by omega, hS⟩
  clear hS
  rintro w9 ⟨hin, hS⟩
  rw [if_neg hin]
  refine ⟨fun u => ¬ (¬ Ep e ∨ g.e + 64 ≤ e) ∧ St w [] u [fBlk ab [.int .i64 i, .int .i64 e, .slice a n c]], ?_, ?_⟩
  · rintro w11 rfl
    replace hS := hS.drew
    generalize w9.drew = w11 at *
    refine ⟨e, ac 1 hS, ?_⟩
    refine (epoch_c e w11).mono ?_
    rintro en w14 ⟨rfl, rfl⟩
    refine ⟨_, rfl, ?_⟩
    by_cases h1 : Ep e
    rotate_left
    · rw [bif_nneg h1, if_pos (.inl h1)]
      exact stay hS.tch
    rw [bif_npos h1]
    refine ⟨e, ac 1 hS, g.e, (h.quiet hS.tch).cell 1, ?_⟩
    rw [wrap_i64 (by omega) (by omega)]
    by_cases h2 : g.e + 64 ≤ e
    · rw [bif_pos h2, if_pos (.inr h2)]
      exact stay hS.tch
    rw [bif_neg h2]
    exact ⟨fun hh => by rcases hh with hh | hh; exact hh h1; exact h2 hh, hS⟩
  clear hS
  rintro w19 ⟨hep, hS⟩
  rw [if_neg hep]
  have hEp : Ep e := Classical.byContradiction fun hh => hep (.inl hh)
  refine ⟨a, n, c, ac 2 hS, ?_⟩
  refine (encode_c w19 a n c l (hB.quiet hS.tch)).mono ?_
  rintro en w22 ⟨xa, xc, rfl, ho, ht⟩
  replace hS := hS.quiet ht
  clear ho ht
  refine ⟨_, _, _, _, rfl, _, _, _, rfl, _, rfl, ?_⟩
  by_cases h0 : (encB l).2 = 0
  rotate_left
  · rw [bif_nneg h0, if_pos h0]
    exact stay hS.tch
  rw [bif_npos h0, if_neg (by simpa using h0)]
  rintro w27 rfl
  replace hS := hS.drew
  generalize w22.drew = w27 at *
  refine ⟨e, ac 1 hS, g.e, (h.quiet hS.tch).cell 1, ?_⟩
  by_cases hlt : e < g.e
  · rw [bif_pos hlt, if_pos hlt]
    exact stay hS.tch
  rw [bif_neg hlt, if_neg hlt]
  refine ⟨i, ac 0 hS, e, ac 1 hS, kC (i, e), by rw [zcWant]; rfl, ?_⟩
  refine var_init (n := 2) (by rw [zcWant]; rfl) rfl kC_one fun w34 w35 k1 k2 _ => ?_
  have hs27 := hS.size
  generalize hxb : w27.heap.size = xb at *
  replace hS := hS.quiet k2
  rintro w36 rfl
  replace hS := hS.drew
  replace k1 := k1.tch ((Tch.refl [] w35).drew) (by simp)
  generalize w35.drew = w36 at *
  have hM := h.quiet hS.tch
  refine ⟨some pb, hM.cell 3, ?_⟩
  refine get_all k1 rfl ?_
  obtain ⟨es, hes, hps⟩ := hM.map
  have hkI : kI (i, e) := ⟨hi, he⟩
  refine ⟨_, mapT.lookup zeroTxs hes hps.fits (want_fits hkI), _, rfl, ?_⟩
  rcases hps.get (i, e) with ⟨g1, g2⟩ | ⟨was, wa, wn, wc, g1, g2, g3⟩
  rotate_left
  · rw [g1, g2]
    refine ⟨wa, wn, wc, rfl, true, rfl, ?_⟩
    rw [cond_true]
    refine ⟨a, n, c, ac 2 hS, ?_⟩
    refine (same_c w36 wa a wn wc n c was l g3 (hB.quiet hS.tch) (h.good _ (pGet_mem g1)).1 h0).mono ?_
    rintro en w48 ⟨rfl, ht⟩
    refine ⟨_, rfl, ?_⟩
    by_cases hw : was = l
    · rw [bif_npos hw]
      simp only [if_pos hw]
      exact ⟨trivial, (stay (x := 0) (hS.quiet ht).tch).2⟩
    · rw [bif_nneg hw]
      simp only [if_neg hw]
      exact ⟨trivial, (stay (x := 0) (hS.quiet ht).tch).2⟩
  rw [g1, g2]
  refine ⟨none, 0, 0, rfl, false, rfl, ?_⟩
  rw [cond_false]
  rintro w50 rfl
  replace hS := hS.drew
  replace k1 := k1.tch ((Tch.refl [] w36).drew) (by simp)
  replace hes := hes.tch ((Tch.refl [] w36).drew) (by simp)
  replace hM := hM.quiet ((Tch.refl [] w36).drew)
  replace hps := hps.tch ((Tch.refl [] w36).drew) (by simp)
  generalize w36.drew = w50 at *
  refine ⟨some pb, hM.cell 3, ?_⟩
  refine get_all k1 rfl ?_
  refine ⟨a, n, c, ac 2 hS, ?_⟩
  refine (copied_c w50 a n c l (hB.quiet hS.tch) (Small.of_good ((encB_zero l).1 h0))).mono ?_
  rintro en w56 ⟨da, dc, rfl, hD, ht⟩
  have hs50 := hS.size
  replace hS := hS.quiet ht
  replace k1 := k1.tch ht (by simp)
  replace hes := hes.tch ht (by simp)
  replace hM := hM.quiet ht
  replace hps := hps.tch ht (by simp)
  refine ⟨_, _, _, rfl, get_all k1 rfl (by constructor <;> first | rfl | trivial), ⟨some pb, hM.cell 3, by constructor <;> first | rfl | trivial⟩, ?_⟩
  refine mapT.upd hes hps.fits (want_fits hkI) g2 fun w60 hmap tm => ?_
  have hs60 := tm.size
  have hs56 := ht.size
  rintro w61 rfl
  have tm2 := tm.drew
  replace hmap := hmap.tch ((Tch.refl [] w60).drew) (by simp)
  have hsd : w60.drew.heap.size = w60.heap.size := rfl
  generalize w60.drew = w61 at *
  have hbk : Blk w61 mb [.int .i64 g.k, .int .i64 g.e, .int .i64 g.top, .map (some pb)] := hM.blk.tch tm2 (by simpa using h.ne)
  have hai : Blk w61 ab [.int .i64 i, .int .i64 e, .slice a n c] := (hS.blk (List.mem_singleton.2 rfl)).tch tm2 (by simp; omega)
  refine ⟨g.top, by rw [add_mk]; exact hbk.cell 2, e, by rw [add_mk]; exact hai.cell 1, ?_⟩
  refine ⟨.int .i64 (if e > g.top then e else g.top), w61, run_max_int2 _ _ _ _ _ _ _, _, rfl, ?_⟩
  show _ ∧ _
  rw [add_mk]
  refine ⟨rfl, by rw [hbk.cell]; rfl, hbk.frozen _, ?_⟩
  rintro w69 rfl
  have t3 := (Tch.refl [mb] w61).setCell (p := ⟨mb, 0 + 2, none⟩) (.inl (by simp)) (.int .i64 (if e > g.top then e else g.top))
  have hs69 := t3.size
  have hnF : ¬ (F mb ∨ Btw ab (w61.setCell ⟨mb, 0 + 2, none⟩ (.int .i64 (if e > g.top then e else g.top))).heap.size mb) ∧ ¬ (F pb ∨ Btw ab (w61.setCell ⟨mb, 0 + 2, none⟩ (.int .i64 (if e > g.top then e else g.top))).heap.size pb) :=
    ⟨fun hh => hh.elim h.nF.1 fun hh => by have := hh.1; omega, fun hh => hh.elim h.nF.2 fun hh => by have := hh.1; omega⟩
  have tall : Tch [mb, pb] w (w61.setCell ⟨mb, 0 + 2, none⟩ (.int .i64 (if e > g.top then e else g.top))) :=
    ((hS.tch.weaken (t := [mb, pb]) (by simp)).trans tm2 (by simp)).trans t3 (by simp)
  refine ⟨rfl, ⟨hbk.set 2 _, ⟨es ++ [(kC (i, e), .slice da n dc)], hmap.tch t3 (by simpa using Ne.symm h.ne), ?_⟩, h.ne, hnF, h.k, h.e, ?_, ?_⟩, tall⟩
  · refine PsAt.push ⟨rfl, hkI, da, n, dc, rfl, ?_⟩ ?_
    · refine ((hD.tch tm2 fun k hk hb => ?_).tch t3 fun k hk hb => ?_).mono fun k hk => .inr ⟨by have := hk.1; omega, by have := hk.2; omega⟩
      · have := hb.1; simp at hk; omega
      · have := hb.1; simp at hk; omega
    · refine ((hps.tch tm2 fun k hk => ?_).tch t3 fun k hk => ?_).mono fun k hk => .inl hk
      · simp at hk; rw [hk]; exact h.nF.2
      · simp at hk; rw [hk]; exact h.nF.1
  · have := h.top
    have hne : ¬ g.e + 64 ≤ e := fun hh => hep (.inr hh)
    unfold Ep at hEp
    simp only
    split <;> omega
  · intro q hq
    rcases List.mem_append.1 hq with hq | hq
    · exact h.good q hq
    · simp at hq
      rw [hq]
      exact ⟨h0, hkI⟩
end Go.Proofs.Ytjchneebdlncfaa.Lib
