/-
  MergeInputs: its contract.
  Own work. No macro, syntax, notation, axiom.
-/
import Derived.Test.YtjchneebdlncfaaMrgI
namespace Go.Proofs.Ytjchneebdlncfaa.Mrg
open Go Den Fn Lib
open Go.RowKit (Below)
open Classical
set_option maxRecDepth 8000
set_option maxHeartbeats 4000000

theorem inputs_law_c (w : World) (cs : List Value) (h : Hist) (hh : HistV w cs h) (ol : List Bool) (o : Option Addr) (n c : Nat) (ho : RSl w 1 o n c (ol.map Value.bool)) (hn63 : n ≤ 9223372036854775807) :
    Calls Try.prog 5 #[.agg cs.toArray, .slice o n c] w fun e w' => e = .returned (.bool true) ∧ Below w.heap.size w w' := by
  have hlen := hh.len
  have hkr := hk_range h
  have hfr := hf_range h
  have her := heps_range h
  have hon : ol.length = n := by have := ho.len; simp at this; omega
  refine c5 _ _ _ _ ?_
  unfold d5
  rintro w2 rfl
  have hS := (St.refl w []).new cs 24 rfl
  generalize w.alloc (.cells cs.toArray 24) = w2 at *
  generalize hab : w.heap.size = ab at *
  have bc : ∀ {u : World}, St w [] u [fBlk ab cs] → Blk u ab cs := fun hS => hS.blk (List.mem_singleton.2 rfl)
  have fin : ∀ {u : World} {b : Bool}, b = true → St w [] u [fBlk ab cs] → (Ending.returned (.bool b) = .returned (.bool true) ∧ Below ab w u) := fun hb h => ⟨by rw [hb], hab ▸ h.tch.below⟩
  refine (awake_c w2).mono ?_
  rintro e w4 ⟨rfl, t1⟩
  replace hS := hS.quiet t1
  refine ⟨_, rfl, ?_⟩
  rw [show (!true) = false from rfl, cond_false]
  rintro w6 rfl
  replace hS := hS.drew
  generalize w4.drew = w6 at *
  refine get_all (bc hS) hlen (get_all (bc hS) hlen (get_all (bc hS) hlen ?_))
  refine (inputs_c w6 cs h (hh.quiet hS.tch)).mono ?_
  rintro e w11 ⟨rfl, t1⟩
  replace hS := hS.quiet t1
  refine ⟨_, rfl, get_all (bc hS) hlen (by constructor <;> first | rfl | trivial), get_all (bc hS) hlen (by constructor <;> first | rfl | trivial), ?_⟩
  refine (first_c w11 cs h (hh.quiet hS.tch)).mono ?_
  rintro e w16 ⟨rfl, t1⟩
  replace hS := hS.quiet t1
  refine ⟨_, rfl, get_all (bc hS) hlen (by constructor <;> first | rfl | trivial), ?_⟩
  refine (epochs_c w16 cs h (hh.quiet hS.tch)).mono ?_
  rintro e w20 ⟨rfl, t1⟩
  replace hS := hS.quiet t1
  refine ⟨_, rfl, ?_⟩
  refine (new_mg_c w20 (hk h) (hf h) (by omega) (by unfold Ep; omega)).mono ?_
  rintro e w23 ⟨mb, pb, rfl, hM, t1, hm0, hp0⟩
  have hs20 := hS.size
  have hab20 := (bc hS).lt
  replace hS := hS.quiet t1
  clear t1
  replace hM := hM.mono (G := Else mb pb) (fun _ h => h.elim) ⟨fun h => h.1 rfl, fun h => h.2 rfl⟩
  have H := HInv.new h
  refine ⟨_, _, rfl, _, rfl, _, rfl, ?_⟩
  refine ⟨fun u => u = w23, ?_, ?_⟩
  · rw [bif_npos rfl]
    rfl
  rintro w29 rfl
  have lo0 : ab < mb ∧ ab < pb ∧ w.heap.size ≤ mb ∧ w.heap.size ≤ pb := by omega
  refine ⟨fun m gv z u => ∃ (i k : Nat) (g : Mg), gv = k ∧ z = i ∧ i ≤ hk h ∧ m = hk h - i ∧ St w [] u [fBlk ab cs] ∧ MgAt (Else mb pb) u mb pb g ∧ HInv h (fun a _ => a < i) k g ∧ (i < hk h → k = 0) ∧ (i = hk h → k = heps h), ⟨hk h, 0, 0, _, rfl, rfl, by omega, rfl, hS, hM, H.congr fun i j _ => ⟨fun hh => hh.elim, fun hh => by omega⟩, fun _ => rfl, fun hh => by omega⟩, ?_⟩
  clear hS hM H
  rintro m w32 gv z ⟨i, k, g, rfl, rfl, hik, rfl, hS, hM, H, hk0, hk1⟩
  by_cases hi : i < hk h
  rotate_left
  · rw [bif_neg (by omega)]
    exact fin (by rw [hk1 (by omega)]; exact decide_eq_true rfl) hS
  rw [bif_pos (by omega)]
  obtain rfl := hk0 hi
  clear hk0 hk1
  obtain ⟨lm, lp⟩ := hM.lt
  refine (newInput_c w32 i (hf h) (by omega) (by unfold Ep; omega)).mono ?_
  rintro e w36 ⟨rfl, hI, t1⟩
  have lab := (bc hS).lt
  refine ⟨_, _, rfl, _, rfl, _, rfl, ?_⟩
  refine ⟨fun u => u = w36, ?_, ?_⟩
  · rw [bif_npos rfl]
    rfl
  rintro w42 rfl
  let Ph (L : List Nat) (t : Nat) (u : World) (xb : Nat) (R : List Nat) (txs : List Tx) (nk : Nat) : Prop := PhS w ab cs mb pb h i (fun a b => a < i ∨ (a = i ∧ b < t)) L u xb R txs nk
  have hP0 : Ph [] 0 w42 w32.heap.size [w32.heap.size] [] 0 := by
    refine ⟨hS.quiet t1, ⟨_, fun _ h => h.elim, hI⟩, ⟨g, (hM.under.quiet t1).mono (fun k hk hm => ?_) ⟨fun hh => hh (by simp), fun hh => hh (by simp)⟩, H.congr fun a b _ => ⟨.inl, fun hh => hh.elim id fun hh => by omega⟩⟩, by omega⟩
    have h1 := hk.1
    have h2 := hk.2
    simp only [List.mem_cons, List.nil_append, List.mem_singleton, List.not_mem_nil, or_false] at hm
    rcases hm with hm | hm | hm
    · exact h1.1 hm
    · exact h1.2 hm
    · omega
  clear hS hM H hI t1
  refine ⟨fun m x z u => ∃ (t xb : Nat) (R : List Nat), x = some ⟨xb, 0, none⟩ ∧ z = t ∧ t ≤ heps h ∧ m = heps h - t ∧ Ph [] t u xb R [] t, ⟨heps h, 0, _, _, rfl, rfl, by omega, rfl, hP0⟩, ?_⟩
  clear hP0 lm lp lab
  rintro m w45 x z ⟨t, xb, R, rfl, rfl, hte, rfl, hP⟩
  by_cases ht : t < heps h
  rotate_left
  · rw [bif_neg (by omega)]
    have et : t = heps h := by omega
    subst et
    refine get_all (bc hP.st) hlen ?_
    obtain ⟨g', hM, H⟩ := hP.mg
    have H' : HInv h (fun a _ => a < i + 1) 0 g' := H.congr' fun a b _ hb => by constructor <;> intro hh <;> omega
    refine (given_c w w45 cs h mb pb g' _ 0 true hh hP.st.tch (by omega) (by omega) hM H').mono ?_
    rintro e w136 ⟨n', g2, rfl, hM2, H2, t2, hle, hwh, hmore, _⟩
    have hn2 := H2.le
    refine ⟨_, _, rfl, _, rfl, _, rfl, ?_⟩
    rw [show (!true) = false from rfl, cond_false]
    have hlast : i + 1 = hk h → n' = heps h := fun hl => (hmore rfl).elim id fun ⟨a, ha, hno⟩ => by omega
    have hnot : i + 1 < hk h → n' = 0 := fun hl => Classical.byContradiction fun hc => by
      have := hwh 0 (by omega) (by omega) (i + 1) hl
      omega
    have next : (∃ m141, m141 < hk h - i ∧ ∃ (i' k : Nat) (g : Mg), ((n' : Nat) : Int) = k ∧ (IntKind.wrap .i64 ((i : Int) + 1)) = i' ∧ i' ≤ hk h ∧ m141 = hk h - i' ∧ St w [] w136 [fBlk ab cs] ∧ MgAt (Else mb pb) w136 mb pb g ∧ HInv h (fun a _ => a < i') k g ∧ (i' < hk h → k = 0) ∧ (i' = hk h → k = heps h)) :=
      ⟨hk h - (i + 1), by omega, i + 1, n', g2, rfl, by rw [wrap_i64 (by omega) (by omega)]; omega, by omega, rfl, hP.st.step t2 (fun f hf => by
        obtain rfl := List.mem_singleton.1 hf
        exact fBlk_off (by simp; omega)) fun z hz => .inr (by simp at hz; omega), hM2.mono (fun k hk => ⟨fun e => hk (by simp [e]), fun e => hk (by simp [e])⟩) ⟨fun h => h.1 rfl, fun h => h.2 rfl⟩, H2, hnot, hlast⟩
    by_cases hz : n' = 0
    · rw [bif_npos (by omega)]
      exact next
    · rw [bif_nneg (by omega), bif_neg (by rw [wrap_i64 (by omega) (by omega)]; intro hc; exact hz (hnot (by omega)))]
      exact next
  rw [bif_pos (by omega)]
  refine get_all (bc hP.st) hlen ?_
  refine (batch_c w45 cs h (hh.quiet hP.st.tch) i t hi ht).mono ?_
  rintro e w50 ⟨ba, bk, rfl, hB, t1⟩
  refine ⟨_, _, _, rfl, ?_⟩
  have hgood := hb_good (h := h) (i := i) (e := t)
  have hsm := hb_small (h := h) (i := i) (e := t)
  generalize hb0 : hb h i t = l at *
  have s50 := t1.size
  have hR0 := hP.range
  refine ⟨fun m z u => ∃ (j : Nat) (R' : List Nat), z = j ∧ j ≤ l.length ∧ m = l.length - j ∧ Ph [] t u xb R' (l.take j) t ∧ (∀ k ∈ R', k < w45.heap.size ∨ w50.heap.size ≤ k) ∧ BatchV (Btw w45.heap.size w50.heap.size) u ba l.length bk l ∧ w50.heap.size ≤ u.heap.size, ⟨l.length, 0, R, rfl, by omega, rfl, hP.quiet t1, fun k hk => .inl (hR0 k hk).2, hB, Nat.le_refl _⟩, ?_⟩
  clear hP hB hR0 R
  rintro m w54 z ⟨j, R, rfl, hjl, rfl, hP, hR0, hB, hs54⟩
  have lo1 := hP.lo
  obtain ⟨F, hF, hI⟩ := hP.inp
  have hEp : ∀ t, t < heps h → Ep ((hf h + t : Nat) : Int) := fun t _ => by unfold Ep; omega
  by_cases hj : j < l.length
  · rw [bif_pos (by omega)]
    refine (open_c w54 xb R _ hI).mono ?_
    rintro e w57 ⟨rfl, rfl⟩
    refine ⟨_, rfl, ?_⟩
    have elen : (inpS h i (l.take j) t).txs.length = j := by show (l.take j).length = j; rw [List.length_take]; omega
    rw [bif_npos (by rw [elen])]
    refine ⟨by omega, by omega, ?_⟩
    rw [Int.toNat_natCast]
    have hlj : l[j]? = some (l[j]'hj) := List.getElem?_eq_getElem hj
    have hgj := hgood.2 _ (List.getElem_mem hj)
    refine hB.elem hlj fun v hv => ?_
    refine (add_c w57 xb R _ hI v _ hv hgj (hEp t ht) (by rw [elen]; omega)).mono ?_
    rintro e w62 ⟨rfl, hR⟩
    have htk : l.take j ++ [l[j]'hj] = l.take (j + 1) := by rw [List.take_add_one, hlj]; rfl
    have hR' : InR F w57 w62 xb R (inpS h i (l.take (j + 1)) t) := by rw [← htk]; exact hR
    have hsz : w57.heap.size ≤ w62.heap.size := by obtain ⟨_, _, _, q, _⟩ := hR; exact q.size
    have hB' : BatchV (Btw w45.heap.size w50.heap.size) w62 ba l.length bk l := by
      obtain ⟨_, _, _, q, _⟩ := hR
      exact hB.tch q fun k hk hh => by
        have h1 := hh.1
        have h2 := hh.2
        rcases hR0 k hk with h | h <;> omega
    obtain ⟨R', hP', hRR⟩ := PhS.step hP hF (fun _ hk => by cases hk) hR'
    refine ⟨_, rfl, ?_⟩
    rw [bif_npos rfl]
    refine ⟨l.length - (j + 1), by omega, j + 1, R', by rw [wrap_i64 (by omega) (by omega)]; omega, by omega, rfl, hP', fun k hk => ?_, hB', by omega⟩
    rcases hRR k hk with h | h
    · exact hR0 k h
    · exact .inr (by omega)
  rw [bif_neg (by omega)]
  have htl : l.take j = l := List.take_of_length_le (by omega)
  rw [htl] at hP hI
  refine (close_c w54 xb R _ hI (by show (keptS h i t).length < 64; rw [keptS_len]; omega) (hEp t ht) (Small.of_good hgood)).mono ?_
  rintro e w66 ⟨pa, pk', rfl, hD, hR⟩
  have e1 : (⟨(inpS h i l t).num, (inpS h i l t).ep + 1, [], (inpS h i l t).kept ++ [((inpS h i l t).ep, (inpS h i l t).txs)]⟩ : Inp) = inpS h i [] (t + 1) := by
    unfold inpS
    rw [keptS_succ, hb0]
    simp only [Inp.mk.injEq, true_and, and_true]
    omega
  rw [e1] at hR
  have hP1' := PhS.step hP hF (fun _ hk => by cases hk) hR
  replace hP1' : ∃ R1, Ph [] t w66 xb R1 [] (t + 1) := hP1'.imp fun _ h => h.1
  replace hD : BatchV (Btw w54.heap.size w66.heap.size) w66 pa l.length pk' l := hD
  have s66 : w54.heap.size ≤ w66.heap.size := by obtain ⟨_, _, _, q, _⟩ := hR; exact q.size
  have hx54 := hI.lt
  clear hR hP hI hF hB hR0 R F
  have hD0 := hD
  clear hD
  obtain ⟨R, hP⟩ := hP1'
  obtain ⟨G, hG, hD⟩ : ∃ G : Nat → Prop, (∀ k, G k → mb < k ∧ pb < k) ∧ BatchV G w66 pa l.length pk' l := ⟨_, fun k hk => by have := hk.1; omega, hD0⟩
  clear hD0
  refine ⟨_, rfl, ?_⟩
  refine var_init (n := 3) (new := pcC i ((hf h + t : Nat) : Int) pa l.length pk') (by rw [zcPc]; rfl) rfl pcs_one fun w68 w69 kb t2 s2 => ?_
  replace hP := hP.fence t2 (Nat.le_refl _)
  replace hD := hD.quiet t2
  have hpk0 : xb < w66.heap.size := by omega
  generalize hpk : w66.heap.size = pk at *
  -- behind the close
  refine ⟨fun u => Ph [pk] t u xb R [] (t + 1) ∧ Blk u pk (pcC i ((hf h + t : Nat) : Int) pa l.length pk') ∧ BatchV G u pa l.length pk' l, ?_, ?_⟩
  · rintro w71 rfl
    have q1 := (Tch.refl [] w69).drew
    replace hP := hP.quiet q1
    replace hD := hD.quiet q1
    replace kb := kb.tch q1 (by simp)
    generalize w69.drew = w71 at *
    refine get_all kb rfl (get_all (bc hP.st) hlen ?_)
    refine (piece_c w71 cs h (hh.quiet hP.st.tch) i t hi ht).mono ?_
    rintro e w75 ⟨qa, qc, rfl, hQ, t3⟩
    rw [hb0] at hQ ⊢
    replace hP := hP.quiet t3
    replace hD := hD.quiet t3
    replace kb := kb.tch t3 (by simp)
    refine ⟨_, rfl, get_all kb rfl (by constructor <;> first | rfl | trivial), ?_⟩
    refine (samePiece_c w75 i _ i _ pa qa l.length pk' l.length qc l l hD hQ hsm).mono ?_
    rintro e w79 ⟨rfl, t4⟩
    replace hP := hP.quiet t4
    replace hD := hD.quiet t4
    replace kb := kb.tch t4 (by simp)
    refine ⟨_, rfl, ?_⟩
    rw [bif_npos ⟨rfl, rfl, rfl⟩]
    obtain ⟨F, hF, hI⟩ := hP.inp
    refine (open_c w79 xb R _ hI).mono ?_
    rintro e w82 ⟨rfl, rfl⟩
    refine ⟨_, rfl, ?_⟩
    rw [bif_npos (by rfl)]
    exact ⟨hP, kb, hD⟩
  clear hP kb hD t2
  rintro w84 ⟨hP, kb, hD⟩
  refine ⟨fun x u => ∃ (xb : Nat) (R : List Nat) (pa : Option Addr) (pc : Nat) (G : Nat → Prop), x = some ⟨xb, 0, none⟩ ∧ Ph [] t u xb R [] (t + 1) ∧ Blk u pk (pcC i ((hf h + t : Nat) : Int) pa l.length pc) ∧ (∀ k, G k → mb < k ∧ pb < k) ∧ BatchV G u pa l.length pc l, ?_, ?_⟩
  · refine ⟨fun b u => u = w84, ?_, ?_⟩
    · by_cases han : t < n
      · rw [bif_pos (by omega)]
        refine ⟨by omega, by omega, ?_⟩
        rw [Int.toNat_natCast]
        cases o with
        | none =>
          have := (rsl_none ho).1
          omega
        | some y =>
          have hlt : ol[t]? = some (ol[t]'(by omega)) := List.getElem?_eq_getElem (by omega)
          exact ⟨_, cellAt (ho.tch hP.st.tch (fun _ _ h => by cases h)) (by rw [List.getElem?_map, hlt]; rfl), rfl⟩
      · rw [bif_neg (by omega)]
    rintro w89 b rfl
    cases b with
    | false => exact ⟨xb, R, pa, pk', G, rfl, hP.drop, kb, hG, hD⟩
    | true =>
      rw [cond_true]
      obtain ⟨F, hF, hI⟩ := hP.inp
      obtain ⟨g, hM, H⟩ := hP.mg
      have lo := hP.lo
      have hRr := hP.range
      have hpk89 := kb.lt
      refine (newInput_c w89 i (hf h) (by omega) (by unfold Ep; omega)).mono ?_
      rintro e w92 ⟨rfl, hY, t3⟩
      refine ⟨_, _, rfl, _, rfl, _, rfl, ?_⟩
      refine ⟨fun u => u = w92, ?_, ?_⟩
      · rw [bif_npos rfl]
        rfl
      rintro w98 rfl
      have hxy := hI.lt
      generalize hyb : w89.heap.size = yb at *
      have hIu := hI.under.quiet t3
      have hMu := hM.under.quiet t3
      rw [hyb] at hIu hMu
      have hS := hP.st.quiet t3
      replace kb := kb.tch t3 (by simp)
      clear hI hM hP t3 hD
      let Z (u : World) (jj : Nat) (Ry : List Nat) : Prop := St w [] u [fBlk ab cs] ∧ Blk u pk (pcC i ((hf h + t : Nat) : Int) pa l.length pk') ∧ InAt (fun k => F k ∧ k < yb) u xb R (inpS h i [] (t + 1)) ∧ MgAt (fun k => k ∉ mb :: pb :: ([pk] ++ R) ∧ k < yb) u mb pb g ∧ (∃ Fy : Nat → Prop, (∀ k, Fy k → yb ≤ k) ∧ InAt Fy u yb Ry (inpS h i [] jj))
      have Zq : ∀ {u u' : World} {jj : Nat} {Ry : List Nat}, Z u jj Ry → Tch [] u u' → Z u' jj Ry := fun ⟨z1, z2, z3, z4, Fy, z5, z6⟩ ht => ⟨z1.quiet ht, z2.tch ht (by simp), z3.quiet ht, z4.quiet ht, Fy, z5, z6.quiet ht⟩
      refine ⟨fun m z u => ∃ (jj : Nat) (Ry : List Nat), z = jj ∧ jj ≤ t + 1 ∧ m = t + 1 - jj ∧ Z u jj Ry, ⟨t + 1, 0, [yb], rfl, by omega, rfl, hS, kb, hIu, hMu, _, fun _ h => h.elim, hY⟩, ?_⟩
      clear hS kb hIu hMu hY
      rintro m w101 z ⟨jj, Ry, rfl, hjj, rfl, hZ⟩
      have hkl : ∀ m, m ≤ t + 1 → (inpS h i [] m).kept.length ≤ 64 := fun m hm => by show (keptS h i m).length ≤ 64; rw [keptS_len]; omega
      by_cases hjt : jj ≤ t
      · rw [bif_pos (by omega)]
        have ew : IntKind.wrap .i64 (((hf h : Nat) : Int) + (jj : Int)) = ((hf h + jj : Nat) : Int) := by rw [wrap_i64 (by omega) (by omega)]; omega
        rw [ew]
        refine (again_c w101 xb R _ hZ.2.2.1 ((hf h + jj : Nat) : Int) (hkl _ (by omega)) keptS_mem).mono ?_
        rintro e w104 ⟨hgot, _, t4⟩
        obtain ⟨qa, qc, rfl, hQ⟩ := hgot _ (keptS_of (by omega))
        refine ⟨_, _, rfl, _, rfl, _, rfl, ?_⟩
        replace hZ := Zq hZ t4
        refine var_init (n := 3) (new := pcC i ((hf h + jj : Nat) : Int) qa (hb h i jj).length qc) (by rw [zcPc]; rfl) rfl pcs_one fun w109 w110 kq t5 s5 => ?_
        replace hZ := Zq hZ t5
        replace hQ := hQ.quiet t5
        rw [bif_npos rfl]
        refine get_all kq rfl ?_
        obtain ⟨z1, z2, z3, z4, Fy, z5, z6⟩ := hZ
        have hRy := z6.range
        refine (keepIn_c w110 yb Ry _ z6 i ((hf h + jj : Nat) : Int) qa _ qc _ hQ (by show (keptS h i jj).length < 64; rw [keptS_len]; omega)).mono ?_
        have hke : keepE (inpS h i [] jj) i ((hf h + jj : Nat) : Int) (hb h i jj) = 0 := by
          unfold keepE
          rw [if_neg (fun hc => hc rfl), if_neg (fun hc => by
            rcases hc with hc | hc | hc
            · exact hc (hEp jj (by omega))
            · exact hc rfl
            · exact hc rfl)]
          exact (encB_zero _).2 hb_good
        rintro e w113 ⟨rfl, hR⟩
        rw [hke, if_pos rfl] at hR
        have e1 : (⟨(inpS h i [] jj).num, (inpS h i [] jj).ep + 1, [], (inpS h i [] jj).kept ++ [((inpS h i [] jj).ep, hb h i jj)]⟩ : Inp) = inpS h i [] (jj + 1) := by
          unfold inpS
          rw [keptS_succ]
          simp only [Inp.mk.injEq, true_and, and_true]
          omega
        rw [e1] at hR
        obtain ⟨Ry', Fy', h1, h2, h3, h4⟩ := hR
        refine ⟨_, rfl, ?_⟩
        rw [hke, bif_npos rfl]
        refine ⟨t + 1 - (jj + 1), by omega, jj + 1, Ry', by rw [wrap_i64 (by omega) (by omega)]; omega, by omega, rfl, z1.step h2 (fun f hf => ?_) (fun k hk => .inr (by have := hRy k hk; omega)), z2.tch h2 (fun hm => by have := hRy _ hm; omega), z3.tch h2 (fun k hk => ⟨fun hm => ?_, fun hh => by have := hRy k hk; have := hh.2; omega⟩), z4.tch h2 (fun hm => by have := hRy _ hm; omega) (fun hm => by have := hRy _ hm; omega) (fun k hk hh => by have := hRy k hk; have := hh.2; omega), Fy', fun k hk => ?_, h1⟩
        · obtain rfl := List.mem_singleton.1 hf
          exact fBlk_off fun hm => by have := hRy _ hm; omega
        · have := hRy k hk
          have := hRr k hm
          omega
        · rcases h4 k hk with h | h | h
          · exact z5 k h
          · exact (hRy k h).1
          · have := z6.lt; omega
      rw [bif_neg (by omega)]
      have ejj : jj = t + 1 := by omega
      subst ejj
      have ew : IntKind.wrap .i64 (((hf h : Nat) : Int) + (t : Int)) = ((hf h + t : Nat) : Int) := by rw [wrap_i64 (by omega) (by omega)]; omega
      rw [ew]
      obtain ⟨z1, z2, z3, z4, Fy, z5, z6⟩ := hZ
      have hRy := z6.range
      refine (again_c w101 yb Ry _ z6 ((hf h + t : Nat) : Int) (hkl _ (by omega)) keptS_mem).mono ?_
      rintro e w117 ⟨hgot, _, t4⟩
      obtain ⟨qa, qc, rfl, hQ⟩ := hgot _ (keptS_of (by omega))
      rw [hb0] at hQ ⊢
      have hyl := z6.lt
      refine ⟨_, _, rfl, _, rfl, _, rfl, ?_⟩
      refine put_all (n := 3) (new := pcC i ((hf h + t : Nat) : Int) qa l.length qc) (z2.tch t4 (by simp)) rfl rfl pcs_one fun w122 kp t5 s5 => ?_
      rw [bif_npos rfl]
      refine ⟨yb, Ry, qa, qc, _, rfl, ⟨(z1.quiet t4).step t5 (fun f hf => ?_) (fun k hk => .inr (by simp at hk; omega)), ⟨Fy, z5, (z6.quiet t4).tch t5 fun k hk => ⟨fun hm => ?_, fun hh => ?_⟩⟩, ⟨g, ((z4.quiet t4).tch t5 (by simp; omega) (by simp; omega) (fun k hk hh => hh.1 (by simp at hk; simp [hk]))).mono (fun k hk hm => ?_) ⟨fun hh => hh (by simp), fun hh => hh (by simp)⟩, H⟩, by omega⟩, kp, fun k hk => ?_, hQ.tch t5 fun k hk hh => ?_⟩
      · obtain rfl := List.mem_singleton.1 hf
        exact fBlk_off (by simp; omega)
      · have := hRy k hm
        simp at hk
        omega
      · have := z5 k hh
        simp at hk
        omega
      · have h1 := hk.1
        have h2 := hk.2
        simp only [List.mem_cons, List.nil_append, List.mem_append, not_or, List.not_mem_nil, or_false] at h1 hm
        rcases hm with hm | hm | hm
        · exact h1.1 hm
        · exact h1.2.1 hm
        · have := hRy k hm; omega
      · have := hk.1
        omega
      · have := hh.1
        simp at hk
        omega
  clear hP kb hD hG G R
  rintro w123 x ⟨xb, R, pa, pk', G, rfl, hP, kb, hG, hD⟩
  have lo := hP.lo
  have hDt : ∀ {u u' : World}, BatchV G u pa l.length pk' l → Tch [mb, pb] u u' → BatchV G u' pa l.length pk' l := fun h ht => h.tch ht fun k hk hh => by
    have := hG k hh
    simp at hk
    omega
  have hpmb : pk ∉ [mb, pb] := by simp; omega
  rw [← hb0] at hD hDt kb
  refine get_all kb rfl ?_
  refine (hP.take t hi ht pa _ pk' hD).mono ?_
  rintro e w127 ⟨rfl, hP, t6⟩
  replace kb := kb.tch t6 hpmb
  replace hD := hDt hD t6
  refine ⟨_, rfl, ?_⟩
  rw [bif_npos rfl]
  refine get_all kb rfl ?_
  refine (hP.take t hi ht pa _ pk' hD).mono ?_
  rintro e w131 ⟨rfl, hP, t7⟩
  refine ⟨_, rfl, ?_⟩
  rw [bif_npos rfl]
  obtain ⟨g, hM, H⟩ := hP.mg
  exact ⟨heps h - (t + 1), by omega, t + 1, xb, R, rfl, by rw [wrap_i64 (by omega) (by omega)]; omega, by omega, rfl, hP.st, hP.inp, ⟨g, hM, H.congr fun a b _ => by constructor <;> intro hh <;> omega⟩, hP.lo⟩
end Go.Proofs.Ytjchneebdlncfaa.Mrg
