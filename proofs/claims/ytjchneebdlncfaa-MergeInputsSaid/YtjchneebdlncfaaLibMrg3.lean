/-
  A MERGER's Next AND Has: their contracts.
  Own work. No macro, syntax, notation, axiom.
-/
import Derived.Test.YtjchneebdlncfaaLibMrg2
namespace Go.Proofs.Ytjchneebdlncfaa.Lib
open Go Den Fn
open Go.RowKit (Below)
open Classical
set_option maxRecDepth 8000
set_option maxHeartbeats 1000000

/-- A slice's value that is a batch. -/
def SlV (F : Nat → Prop) (w : World) (v : Value) (l : List Tx) : Prop := ∃ a n c, v = .slice a n c ∧ BatchV F w a n c l
def SlsV (F : Nat → Prop) (w : World) : List Value → List (List Tx) → Prop
  | [], [] => True
  | v :: vs, l :: ls => SlV F w v l ∧ SlsV F w vs ls
  | _, _ => False
section
variable {F G : Nat → Prop} {w w' : World} {s : List Nat}
theorem SlsV.tch (ht : Tch s w w') (hs : ∀ k ∈ s, ¬ F k) : ∀ {vs : List Value} {ls : List (List Tx)}, SlsV F w vs ls → SlsV F w' vs ls
  | [], [], _ => trivial
  | [], _ :: _, h => h.elim
  | _ :: _, [], h => h.elim
  | _ :: _, _ :: _, h => ⟨by obtain ⟨⟨a, n, c, h1, h2⟩, _⟩ := h; exact ⟨a, n, c, h1, h2.tch ht hs⟩, SlsV.tch ht hs h.2⟩
theorem SlsV.length : ∀ {vs : List Value} {ls : List (List Tx)}, SlsV F w vs ls → vs.length = ls.length
  | [], [], _ => rfl
  | [], _ :: _, h => h.elim
  | _ :: _, [], h => h.elim
  | _ :: _, _ :: _, h => by simp [SlsV.length h.2]
theorem SlsV.push {v : Value} {l : List Tx} (hv : SlV F w v l) : ∀ {vs : List Value} {ls : List (List Tx)}, SlsV F w vs ls → SlsV F w (vs ++ [v]) (ls ++ [l])
  | [], [], _ => ⟨hv, trivial⟩
  | [], _ :: _, h => h.elim
  | _ :: _, [], h => h.elim
  | _ :: _, _ :: _, h => ⟨h.1, SlsV.push hv h.2⟩
theorem SlsV.get : ∀ {vs : List Value} {ls : List (List Tx)}, SlsV F w vs ls → ∀ {i : Nat} {l : List Tx}, ls[i]? = some l → ∃ a n c, vs[i]? = some (.slice a n c) ∧ BatchV F w a n c l
  | [], [], _, i, l, h => by simp at h
  | [], _ :: _, h, _, _, _ => h.elim
  | _ :: _, [], h, _, _, _ => h.elim
  | v :: vs, l' :: ls, h, 0, l, hl => by
    simp only [List.getElem?_cons_zero, Option.some.injEq] at hl
    subst hl
    obtain ⟨⟨a, n, c, h1, h2⟩, _⟩ := h
    exact ⟨a, n, c, by rw [h1]; rfl, h2⟩
  | v :: vs, l' :: ls, h, i + 1, l, hl => by
    simp only [List.getElem?_cons_succ] at hl ⊢
    exact SlsV.get h.2 hl
theorem SlsV.ones : ∀ {vs : List Value} {ls : List (List Tx)}, SlsV F w vs ls → ∀ u ∈ vs, one u = true
  | [], _, _, _, h => by cases h
  | _ :: _, [], h, _, _ => h.elim
  | v :: vs, l :: ls, h, u, hu => by
    rcases List.mem_cons.1 hu with rfl | hu
    · obtain ⟨⟨a, n, c, h1, h2⟩, _⟩ := h
      rw [h1]; rfl
    · exact SlsV.ones h.2 u hu
end
/-- Batches in a row. -/
def BatsV (F : Nat → Prop) (w : World) (a : Option Addr) (n c : Nat) (ls : List (List Tx)) : Prop := ∃ vs, RSl w 1 a n c vs ∧ SlsV F w vs ls
theorem BatsV.count {F : Nat → Prop} {w : World} {a : Option Addr} {n c : Nat} {ls : List (List Tx)} (h : BatsV F w a n c ls) : ls.length = n := by
  obtain ⟨vs, h1, h2⟩ := h
  have := h1.len
  have := h2.length
  omega
theorem BatsV.elem {F : Nat → Prop} {w : World} {a : Option Addr} {n c : Nat} {ls : List (List Tx)} (h : BatsV F w a n c ls) {i : Nat} {l : List Tx} (hl : ls[i]? = some l) {K : Option Addr → Nat → Nat → Prop} (hK : ∀ x m d, BatchV F w x m d l → K x m d) :
    optK a fun y => ∃ (x : Option Addr) (xn xc : Nat), World.cell? w (Addr.add y (i * 1)) = some (.slice x xn xc) ∧ K x xn xc := by
  obtain ⟨vs, h1, h2⟩ := h
  obtain ⟨x, m, d, hv, hB⟩ := h2.get hl
  have hlt := (List.getElem?_eq_some_iff.1 hl).1
  rcases h1.at' with h' | ⟨b, o, rfl, hc⟩
  · have := h1.cap; have := h1.len; have := h2.length; omega
  · refine ⟨x, m, d, ?_, hK x m d hB⟩
    have := hc i _ hv
    rw [Nat.mul_one]
    exact this
/-- The batches of an epoch, in its order: those of the first n inputs. -/
noncomputable def outS (g : Mg) : Nat → Option (List (List Tx))
  | 0 => some []
  | n + 1 => (outS g n).bind fun ls => (pGet g.ps ((g.e - 1 + n) % g.k, g.e)).map fun l => ls ++ [l]
noncomputable def delS (ps : Pcs) (e : Int) : Nat → Pcs
  | 0 => ps
  | n + 1 => pDel (delS ps e n) ((n : Int), e)
noncomputable def nextS (g : Mg) : Mg × Option (List (List Tx)) :=
  if ¬ Ep g.e then (g, none) else
  match outS g g.k.toNat with
  | none => (g, none)
  | some ls => (⟨g.k, g.e + 1, g.top, delS g.ps g.e g.k.toNat⟩, some ls)
theorem outS_none {g : Mg} {n : Nat} : ∀ {m : Nat}, n ≤ m → outS g n = none → outS g m = none
  | 0, h, hn => by obtain rfl : n = 0 := by omega
                   exact hn
  | m + 1, h, hn => by
    rcases Nat.eq_or_lt_of_le h with rfl | hlt
    · exact hn
    · unfold outS
      rw [outS_none (m := m) (by omega) hn]
      rfl
theorem pDel_mem {ps : Pcs} {k : Int × Int} {q : (Int × Int) × List Tx} (h : q ∈ pDel ps k) : q ∈ ps := by
  induction ps with
  | nil => exact h
  | cons x r ih =>
    unfold pDel at h
    split at h
    · exact List.mem_cons_of_mem _ h
    · rcases List.mem_cons.1 h with rfl | h
      · simp
      · exact List.mem_cons_of_mem _ (ih h)
theorem delS_mem {ps : Pcs} {e : Int} : ∀ {n : Nat} {q : (Int × Int) × List Tx}, q ∈ delS ps e n → q ∈ ps
  | 0, _, h => h
  | n + 1, _, h => delS_mem (pDel_mem h)
theorem PsAt.under {F : Nat → Prop} {w : World} : ∀ {es : Ents} {ps : Pcs}, PsAt F w es ps → PsAt (fun k => F k ∧ k < w.heap.size) w es ps
  | [], [], _ => trivial
  | [], _ :: _, h => h.elim
  | _ :: _, [], h => h.elim
  | _ :: _, _ :: _, h => ⟨by obtain ⟨⟨h1, h2, a, n, c, h3, h4⟩, _⟩ := h; exact ⟨h1, h2, a, n, c, h3, h4.under⟩, PsAt.under h.2⟩
theorem MgAt.under {F : Nat → Prop} {w : World} {mb pb : Nat} {g : Mg} (h : MgAt F w mb pb g) : MgAt (fun k => F k ∧ k < w.heap.size) w mb pb g := by
  obtain ⟨es, h1, h2⟩ := h.map
  exact ⟨h.blk, ⟨es, h1, h2.under⟩, h.ne, ⟨fun hh => h.nF.1 hh.1, fun hh => h.nF.2 hh.1⟩, h.k, h.e, h.top, h.good⟩
theorem SlsV.mono {F G : Nat → Prop} {w : World} (hFG : ∀ k, F k → G k) : ∀ {vs : List Value} {ls : List (List Tx)}, SlsV F w vs ls → SlsV G w vs ls
  | [], [], _ => trivial
  | [], _ :: _, h => h.elim
  | _ :: _, [], h => h.elim
  | _ :: _, _ :: _, h => ⟨by obtain ⟨⟨a, n, c, h1, h2⟩, _⟩ := h; exact ⟨a, n, c, h1, h2.mono hFG⟩, SlsV.mono hFG h.2⟩
/-- What is asked of Next. -/
def NextR (F : Nat → Prop) (w : World) (mb pb : Nat) (g : Mg) (en : Ending) (w' : World) : Prop :=
  MgAt F w' mb pb (nextS g).1 ∧ Tch [mb, pb] w w' ∧
  match (nextS g).2 with
  | none => en = .returned (.tuple #[.slice none 0 0, .bool false])
  | some ls => ∃ a n c, en = .returned (.tuple #[.slice a n c, .bool true]) ∧ BatsV F w' a n c ls ∧ ∀ x, a = some x → w.heap.size ≤ x.block
theorem sT : slT Try.prog 88 33 1 24 = true := by kernel_rfl
theorem zcTxs : zc Try.prog 33 = [.slice none 0 0] := by kernel_rfl
theorem next_c {F : Nat → Prop} (w : World) (mb pb : Nat) (g : Mg) (h : MgAt F w mb pb g) :
    Calls Try.prog 33 #[.pointer (some ⟨mb, 0, none⟩)] w fun en w' => NextR F w mb pb g en w' := by
  obtain ⟨hmb, hpb⟩ := h.lt
  have hk := h.k
  have hge := h.e
  have h' := h.under
  refine c33 _ ?_
  unfold d33
  refine ⟨g.e, h.cell 1, ?_⟩
  refine (epoch_c g.e w).mono ?_
  rintro en w4 ⟨rfl, rfl⟩
  refine ⟨_, rfl, ?_⟩
  by_cases hep : Ep g.e
  rotate_left
  · rw [bif_nneg hep]
    have e : nextS g = (g, none) := by unfold nextS; rw [if_pos hep]
    exact ⟨by rw [e]; exact h, Tch.refl _ _, by rw [e]⟩
  rw [bif_npos hep]
  obtain ⟨K, hK⟩ := Int.eq_ofNat_of_zero_le (show 0 ≤ g.k by omega)
  have none_ : ∀ {u : World} {i : Nat}, i ≤ K → outS g i = none → Tch [] w4 u → NextR F w4 mb pb g (.returned (.tuple #[.slice none 0 0, .bool false])) u := fun hi ho ht => by
    have e : nextS g = (g, none) := by
      unfold nextS
      rw [if_neg (by simpa using hep), outS_none (m := g.k.toNat) (by omega) ho]
    exact ⟨by rw [e]; exact h.quiet ht, ht.weaken (by simp), by rw [e]⟩
  refine ⟨g.k, h.cell 0, ?_⟩
  refine ⟨fun m x xn xc i u => ∃ (q : Nat) (vs : List Value) (ls : List (List Tx)), i = q ∧ q ≤ K ∧ m = K - q ∧ xn = q ∧ outS g q = some ls ∧ ls.length = q ∧ u.ownsRow w4.heap.size 33 1 (.slice x xn xc) xn vs ∧ SlsV (fun k => F k ∧ k < w4.heap.size) u vs ls ∧ Tch [] w4 u,
    ⟨K, 0, [], [], rfl, by omega, rfl, rfl, rfl, rfl, own_nil _ _ _ _, trivial, Tch.refl _ _⟩, ?_⟩
  rintro m w10 x xn xc i ⟨q, vs, ls, rfl, hq, rfl, rfl, ho, hll, hown, hsl, ht⟩
  have hM := h'.quiet ht
  by_cases hlt : xn < K
  · rw [bif_pos (by omega)]
    rintro w13 rfl
    replace ht := ht.drew
    replace hM := hM.quiet ((Tch.refl [] w10).drew)
    replace hown := own_up hown ((Tch.refl [] w10).drew) (fun _ _ h => by cases h)
    replace hsl := hsl.tch ((Tch.refl [] w10).drew) (by simp)
    generalize w10.drew = w13 at *
    refine ⟨some pb, hM.cell 3, g.e, hM.cell 1, g.k, hM.cell 0, by omega, g.e, hM.cell 1, ?_⟩
    rw [wrap_i64 (n := g.e - 1) (by omega) (by omega), wrap_i64 (by omega) (by omega), Int.tmod_eq_emod_of_nonneg (by omega)]
    have hmod : 0 ≤ (g.e - 1 + xn) % g.k ∧ (g.e - 1 + xn) % g.k < g.k := ⟨Int.emod_nonneg _ (by omega), Int.emod_lt_of_pos _ (by omega)⟩
    have hkI : kI ((g.e - 1 + xn) % g.k, g.e) := by
      generalize (g.e - 1 + xn) % g.k = z at hmod
      unfold kI I64
      simp only
      omega
    refine ⟨kC ((g.e - 1 + xn) % g.k, g.e), by rw [zcWant]; rfl, ?_⟩
    obtain ⟨es, hes, hps⟩ := hM.map
    refine ⟨_, mapT.lookup zeroTxs hes hps.fits (want_fits hkI), _, rfl, ?_⟩
    have hstep : outS g (xn + 1) = (outS g xn).bind fun ls => (pGet g.ps ((g.e - 1 + xn) % g.k, g.e)).map fun l => ls ++ [l] := rfl
    rcases hps.get ((g.e - 1 + xn) % g.k, g.e) with ⟨g1, g2⟩ | ⟨l, la, ln, lc, g1, g2, g3⟩
    · rw [g2]
      refine ⟨none, 0, 0, rfl, false, rfl, ?_⟩
      show NextR _ _ _ _ _ _ _
      refine none_ (i := xn + 1) (by omega) ?_ ht
      rw [hstep, ho, g1]
      rfl
    · rw [g2]
      refine ⟨la, ln, lc, rfl, true, rfl, ?_⟩
      show ∃ _, _
      refine app_elem_at sT hown (by rw [zcTxs]; rfl) (ys := [.slice la ln lc]) rfl rfl (by simp [one]) ht.size (by omega) (by omega) fun a5 c5 w32 o5 t5 m5 => ?_
      have hrow := rowL_ge hown
      have tt := ht.trans t5 fun i hi => .inr (hrow i hi).1
      refine ⟨K - (xn + 1), by omega, xn + 1, vs ++ [.slice la ln lc], ls ++ [l], by rw [wrap_i64 (by omega) (by omega)]; omega, by omega, rfl, rfl, by rw [hstep, ho, g1]; rfl, by simp [hll], o5, ?_, tt⟩
      have hno : ∀ k ∈ rowL x, ¬ (F k ∧ k < w4.heap.size) := fun k hk hh => by have := (hrow k hk).1; omega
      exact SlsV.push ⟨la, ln, lc, rfl, g3.tch t5 hno⟩ (hsl.tch t5 hno)
  · rw [bif_neg (by omega)]
    obtain rfl : xn = K := by omega
    have hos : nextS g = (⟨g.k, g.e + 1, g.top, delS g.ps g.e xn⟩, some ls) := by
      unfold nextS
      rw [if_neg (by simpa using hep), show g.k.toNat = xn by omega, ho]
    refine ⟨g.k, hM.cell 0, ?_⟩
    have hrow := rowL_ge hown
    refine ⟨fun m i u => ∃ (q : Nat) (es : Ents), i = q ∧ q ≤ xn ∧ m = xn - q ∧ Blk u mb [.int .i64 g.k, .int .i64 g.e, .int .i64 g.top, .map (some pb)] ∧ MapAt u pb es ∧ PsAt (fun k => F k ∧ k < w4.heap.size) u es (delS g.ps g.e q) ∧
      u.ownsRow w4.heap.size 33 1 (.slice x xn xc) xn vs ∧ SlsV (fun k => F k ∧ k < w4.heap.size) u vs ls ∧ Tch [pb] w4 u, ?_, ?_⟩
    · obtain ⟨es, hes, hps⟩ := hM.map
      exact ⟨xn, 0, es, rfl, by omega, rfl, hM.blk, hes, hps, hown, hsl, ht.weaken (by simp)⟩
    rintro m w39 i ⟨q, es, rfl, hq, rfl, hbk, hes, hps, hown, hsl, ht⟩
    by_cases hqlt : q < xn
    · rw [bif_pos (by omega)]
      rintro w41 rfl
      have td := (Tch.refl [] w39).drew
      replace hbk := hbk.tch td (by simp)
      replace hes := hes.tch td (by simp)
      replace hps := hps.tch td (by simp)
      replace hown := own_up hown td (fun _ _ h => by cases h)
      replace hsl := hsl.tch td (by simp)
      replace ht := ht.trans td (by simp)
      generalize w39.drew = w41 at *
      refine ⟨some pb, by rw [add_mk]; exact hbk.cell 3, g.e, by rw [add_mk]; exact hbk.cell 1, kC ((q : Int), g.e), by rw [zcWant]; rfl, ?_⟩
      refine mapT.del hes hps.fits (want_fits (k := ((q : Int), g.e)) ⟨by unfold I64; simp only; omega, by unfold I64; simp only; omega⟩) fun w48 hmap tm => ?_
      have hpb' : pb ∉ rowL x := fun hm => by have := (hrow pb hm).1; omega
      have hnF : ∀ k ∈ [pb], ¬ (F k ∧ k < w4.heap.size) := fun k hk hh => by simp at hk; rw [hk] at hh; exact h.nF.2 hh.1
      refine ⟨_, rfl, xn - (q + 1), by omega, q + 1, _, by rw [wrap_i64 (by omega) (by omega)]; omega, by omega, rfl, hbk.tch tm (by simpa using h.ne), hmap, ?_, own_up hown tm (fun k hk hm => ?_), hsl.tch tm hnF, ht.trans tm (by simp)⟩
      · exact (PsAt.del _ hps).tch tm hnF
      · simp at hm
        rw [hm] at hk
        refine hpb' ?_
        cases x with
        | none => cases hk
        | some ad => simp only [Value.ownBlock, Option.some.injEq] at hk; simp [rowL, hk]
    · rw [bif_neg (by omega)]
      obtain rfl : q = xn := by omega
      refine ⟨g.e, by rw [add_mk]; exact hbk.cell 1, ?_⟩
      show _ ∧ _
      rw [add_mk, wrap_i64 (by omega) (by omega)]
      refine ⟨rfl, by rw [hbk.cell]; rfl, hbk.frozen _, ?_⟩
      rintro w54 rfl
      have t3 := (Tch.refl [mb] w39).setCell (p := ⟨mb, 0 + 1, none⟩) (.inl (by simp)) (.int .i64 (g.e + 1))
      have hnF : ∀ k ∈ [mb], ¬ (F k ∧ k < w4.heap.size) := fun k hk hh => by simp at hk; rw [hk] at hh; exact h.nF.1 hh.1
      refine ⟨?_, (ht.weaken (t := [mb, pb]) (by simp)).trans t3 (by simp), ?_⟩
      · rw [hos]
        unfold Ep at hep
        refine ⟨hbk.set 1 _, ⟨es, hes.tch t3 (by simpa using Ne.symm h.ne), (hps.tch t3 hnF).mono fun _ hh => hh.1⟩, h.ne, h.nF, h.k, by simp only; omega, by have := h.top; simp only; omega, fun p hp => h.good p (delS_mem hp)⟩
      · rw [hos]
        refine ⟨x, q, xc, rfl, ⟨vs, ?_, (hsl.tch t3 hnF).mono fun _ hh => hh.1⟩, fun y hy => (own_ge hown y hy).1⟩
        refine own_rsl (own_up hown t3 (fun k hk hm => ?_)) hsl.ones
        simp at hm
        rw [hm] at hk
        have := (own_lt hown hk).1
        omega
/-- Is a piece there, or was it? -/
noncomputable def hasS (g : Mg) (i e : Int) : Bool := decide (¬ (i < 0 ∨ g.k ≤ i ∨ ¬ Ep e) ∧ ((pGet g.ps (i, e)).isSome = true ∨ e < g.e))
theorem has_c {F : Nat → Prop} (w : World) (mb pb : Nat) (g : Mg) (h : MgAt F w mb pb g) (i e : Int) (hi : I64 i) (he : I64 e) :
    Calls Try.prog 20 #[.pointer (some ⟨mb, 0, none⟩), .agg (kC (i, e)).toArray] w fun en w' => en = .returned (.bool (hasS g i e)) ∧ Tch [] w w' := by
  refine c20 _ _ ?_
  unfold d20
  rintro w2 rfl
  have hS := (St.refl w []).new (kC (i, e)) 53 rfl
  generalize w.alloc (.cells (kC (i, e)).toArray 53) = w2 at *
  generalize w.heap.size = ab at *
  have ac : ∀ {u : World} (q : Nat), St w [] u [fBlk ab (kC (i, e))] → u.cell? (Addr.add ⟨ab, 0, none⟩ q) = (kC (i, e))[q]? := fun q hS => by
    rw [add_mk, Nat.zero_add]; exact (hS.blk (List.mem_singleton.2 rfl)).cell q
  have no : ∀ {u : World}, (i < 0 ∨ g.k ≤ i ∨ ¬ Ep e) → Tch [] w u → (Ending.returned (.bool false) = .returned (.bool (hasS g i e)) ∧ Tch [] w u) := fun hh ht => by
    refine ⟨?_, ht⟩
    unfold hasS
    rw [decide_eq_false fun hc => hc.1 hh]
  refine ⟨fun u => ¬ (i < 0 ∨ g.k ≤ i ∨ ¬ Ep e) ∧ St w [] u [fBlk ab (kC (i, e))], ?_, ?_⟩
  · rintro w4 rfl
    replace hS := hS.drew
    generalize w2.drew = w4 at *
    refine ⟨i, ac 0 hS, ?_⟩
    by_cases h1 : i < 0
    · rw [bif_pos h1]; exact no (.inl h1) hS.tch
    rw [bif_neg h1]
    refine ⟨i, ac 0 hS, g.k, (h.quiet hS.tch).cell 0, ?_⟩
    by_cases h2 : g.k ≤ i
    · rw [bif_pos h2]; exact no (.inr (.inl h2)) hS.tch
    rw [bif_neg h2]
    refine ⟨e, ac 1 hS, ?_⟩
    refine (epoch_c e w4).mono ?_
    rintro en w11 ⟨rfl, rfl⟩
    refine ⟨_, rfl, ?_⟩
    by_cases h3 : Ep e
    · rw [bif_npos h3]
      exact ⟨fun hh => by rcases hh with hh | hh | hh; exact h1 hh; exact h2 hh; exact hh h3, hS⟩
    · rw [bif_nneg h3]; exact no (.inr (.inr h3)) hS.tch
  clear hS
  rintro w13 ⟨hno, hS⟩
  rintro w14 rfl
  replace hS := hS.drew
  generalize w13.drew = w14 at *
  have hM := h.quiet hS.tch
  refine ⟨some pb, hM.cell 3, ?_⟩
  refine get_all (hS.blk (List.mem_singleton.2 rfl)) rfl ?_
  obtain ⟨es, hes, hps⟩ := hM.map
  refine ⟨_, mapT.lookup zeroTxs hes hps.fits (want_fits (k := (i, e)) ⟨hi, he⟩), _, rfl, ?_⟩
  rcases hps.get (i, e) with ⟨g1, g2⟩ | ⟨l, la, ln, lc, g1, g2, g3⟩
  · rw [g2]
    refine ⟨none, 0, 0, rfl, false, rfl, ?_⟩
    rintro w24 rfl
    rw [cond_false]
    replace hS := hS.drew
    replace hM := hM.quiet ((Tch.refl [] w14).drew)
    generalize w14.drew = w24 at *
    refine ⟨e, ac 1 hS, g.e, hM.cell 1, ?_, hS.tch⟩
    congr 2
    unfold hasS
    rw [decide_eq_decide, g1]
    simp [hno]
  · rw [g2]
    refine ⟨la, ln, lc, rfl, true, rfl, ?_⟩
    rintro w24 rfl
    rw [cond_true]
    refine ⟨?_, hS.drew.tch⟩
    unfold hasS
    rw [g1, decide_eq_true]
    exact ⟨hno, .inl rfl⟩
end Go.Proofs.Ytjchneebdlncfaa.Lib
