/-
  DECODE: its contract.
  Own work. No macro, syntax, notation, axiom.
-/
import Derived.Test.YtjkbjppopdfggaaCodesD
namespace Go.Proofs.Ytjkbjppopdfggaa.Codes
open Go Den Fn Lib
open Go.RowKit (Below)
open Classical
set_option maxRecDepth 8000
set_option maxHeartbeats 1000000

/-- Behind the tag. -/
theorem tail_leaf {bs : List Int} (hB : Bytes bs) {fs : List Fk} {p : Nat} (hp : p < bs.length) (h1 : bs.getD p 0 = 1) :
    let l := (rRaw bs 10 (p + 1) 0)
    let v := rInt bs l.2.1 l.2.2
    (rEnd bs v.2.1 v.2.2 = 0 ∧ l.2.2 = 0 ∧ decT bs fs p = some ⟨fs, true, (fromB l.1).1, (fromB l.1).2.1, v.1⟩) ∨ (rEnd bs v.2.1 v.2.2 ≠ 0 ∧ decT bs fs p = none) := by
  intro l v
  have hd1 : decT bs fs p = if p + 11 ≤ bs.length ∧ (number (bs.drop (p + 11))).2.2 = 0 ∧ p + 11 + (number (bs.drop (p + 11))).2.1 = bs.length then some ⟨fs, true, (fromB ((bs.drop (p + 1)).take 10)).1, (fromB ((bs.drop (p + 1)).take 10)).2.1, unfold' (number (bs.drop (p + 11))).1⟩ else none := by
    unfold decT
    rw [if_neg (by rw [h1]; omega)]
    simp only [h1, true_and]
  rw [hd1]
  rcases rRaw_cases bs 10 (p + 1) 0 with ⟨g1, g2, g3⟩ | ⟨g1, g2, g3, g4, g5⟩
  · have hl : l = ((bs.drop (p + 1)).take 10, p + 11, 0) := by simpa using g3
    have hv : v = rInt bs (p + 11) 0 := by show rInt bs l.2.1 l.2.2 = _; rw [hl]
    rw [hl, hv]
    have hn := number_range (hB.drop (p + 11))
    unfold rInt rUpto
    rw [if_neg (show ¬ (0 : Int) ≠ 0 by omega)]
    by_cases hc : (number (bs.drop (p + 11))).2.2 = 0
    · rw [if_neg (by simpa using hc), if_neg (show ¬ 18446744073709551615 < (number (bs.drop (p + 11))).1 by omega)]
      by_cases he : p + 11 + (number (bs.drop (p + 11))).2.1 = bs.length
      · rw [if_pos ⟨by omega, hc, he⟩]
        refine .inl ⟨?_, rfl, rfl⟩
        unfold rEnd
        rw [if_neg (by simp only; omega)]
      · rw [if_neg (fun hh => he hh.2.2)]
        refine .inr ⟨?_, rfl⟩
        unfold rEnd
        have := hn.2.1
        rw [List.length_drop] at this
        rw [if_pos ⟨rfl, by simp only; omega⟩]
        simp
    · rw [if_pos hc, if_neg (fun hh => hc hh.2.1)]
      refine .inr ⟨?_, rfl⟩
      unfold rEnd
      rw [if_neg (fun hh => hc hh.1)]
      exact hc
  · rw [if_neg (fun hh => g1 ⟨rfl, by omega⟩)]
    refine .inr ⟨?_, rfl⟩
    have hv : v.2.2 = l.2.2 := by
      show (rUpto bs 18446744073709551615 l.2.1 l.2.2).2.2 = _
      unfold rUpto
      rw [if_pos (show l.2.2 ≠ 0 from g4)]
    unfold rEnd
    rw [hv, if_neg (fun hh => g4 hh.1)]
    exact g4
theorem decode_c (w : World) (bs : List Int) (xa : Option Addr) (n c : Nat) (hr : RSl w 1 xa n c (u8 bs)) (hB : Bytes bs) (hN : n ≤ 140737488351232) :
    Calls Try.prog 8 #[.slice xa n c] w fun e w' => DecR w (decS bs) e w' := by
  refine c8 _ _ _ ?_
  unfold d8
  rintro w1 rfl
  rw [zcPf]
  have ho1 := Blk.fresh w (cs := zP) 28 rfl
  have ht1 := (Tch.refl [] w).alloc (.cells zP.toArray 28)
  have hs1 := size_alloc w (.cells zP.toArray 28)
  generalize w.alloc (.cells zP.toArray 28) = w1 at *
  generalize hob : w.heap.size = ob at *
  refine (read_c w1 bs xa n c (hr.tch ht1 (fun _ _ h => by cases h)) hB (by omega)).mono ?_
  rintro e w3 ⟨b, ra, rc, rfl, hRd, ht3, hb3, hra⟩
  have hblt := hRd.blk.lt
  have hrl : n = 0 ∨ ∀ x, ra = some x → x.block < w3.heap.size := hRd.row.low (by omega)
  refine ⟨_, rfl, ?_⟩
  rintro w5 rfl
  have hp5 := Blk.fresh w3 (cs := zP) 28 rfl
  have ht5 := (Tch.refl [] w3).alloc (.cells zP.toArray 28)
  have hs5 := size_alloc w3 (.cells zP.toArray 28)
  generalize w3.alloc (.cells zP.toArray 28) = w5 at *
  generalize hpb : w3.heap.size = pb at *
  have hs3 := ht3.size
  have hD : DS w ob pb b w5.heap.size ra n rc bs w5 none 0 0 [] Pf.zero 0 0 :=
    ⟨(ht1.trans ht3 (by simp)).trans ht5 (by simp), (ho1.tch ht3 (by simp)).tch ht5 (by simp), hp5, hRd.quiet ht5, own_nil _ _ _ _, by simp, by omega, by omega, hrl⟩
  clear hRd ho1 hp5 ht1 ht3 ht5
  refine (upto_c w5 b n rc 0 ra bs 0 80 hD.rd).mono ?_
  rintro e w7 ⟨rfl, hR⟩
  replace hD := hD.read hR
  clear hR
  have hNle := (rUpto_le (bs := bs) (e := 0) (most := 80) (p := 0) hB (by omega)).2.2
  have hstart : ((rUpto bs 80 0 0).2.2 ≠ 0 ∧ decS bs = none) ∨ ((rUpto bs 80 0 0).2.2 = 0 ∧ decS bs = decG bs [] (rUpto bs 80 0 0).1 (rUpto bs 80 0 0).2.1) := by
    by_cases h : (rUpto bs 80 0 0).2.2 = 0
    · refine .inr ⟨h, ?_⟩
      unfold decS
      rw [if_neg (by simpa using h)]
      unfold decG
      simp
    · exact .inl ⟨h, by unfold decS; rw [if_pos h]⟩
  have hzero : (rUpto bs 80 0 0).2.2 ≠ 0 → True := fun _ => trivial
  generalize rUpto bs 80 0 0 = U at *
  obtain ⟨N, p0, e0⟩ := U
  simp only at hD hNle hstart ⊢
  refine ⟨_, rfl, ?_⟩
  refine ⟨fun m x u => ∃ (i : Nat) (a : Option Addr) (k : Nat) (fs : List Fk) (pos : Nat) (e : Int), x = i ∧ i ≤ N ∧ m = N - i ∧ DS w ob pb b w5.heap.size ra n rc bs u a i k fs Pf.zero pos e ∧ ((e ≠ 0 ∧ decS bs = none) ∨ (e = 0 ∧ decS bs = decG bs fs (N - i) pos)), ⟨N, 0, none, 0, [], p0, e0, rfl, by omega, rfl, hD, hstart⟩, ?_⟩
  clear hD hstart
  rintro m w11 x ⟨i, a, k, fs, pos, e, rfl, hi, rfl, hD, hinv⟩
  by_cases hlt : i < N
  · rw [bif_pos (by omega)]
    refine (byteR_c w11 b n rc pos ra bs e hD.rd).mono ?_
    rintro en w14 ⟨rfl, hR⟩
    have hs11 := hR.2.size
    replace hD := hD.read hR
    clear hR
    have hxr : 0 ≤ (rByte bs pos e).1 ∧ (rByte bs pos e).1 < 256 := by
      rcases rByte_cases bs pos e with ⟨_, _, h⟩ | ⟨_, h, _⟩
      · rw [h]; exact byte_of hB pos
      · rw [h]; omega
    have hfr := fork_read bs pos e
    have hx0 : (∀ f : Fk, f.bit = (rByte bs pos e).1 → f.oth.length = 32 → Bytes f.oth → f.ok) := fun f h1 h2 h3 => ⟨by rw [h1]; unfold I64; omega, h2, h3⟩
    refine ⟨_, rfl, fkC ⟨(rByte bs pos e).1, List.replicate 32 0⟩, by rw [zcFork, wrap_i64 (by omega) (by omega)]; rfl, ?_⟩
    refine var_init (n := 33) (by rw [zcFork]; rfl) (by simp) fkC_ones fun w17 w18 h1 h2 h3 => ?_
    generalize hfb : w14.heap.size = fb at *
    have hl14 := hD.lo
    have hrow14 : fb ∉ rowL a := fun hm => by have := (rowL_ge hD.own _ hm).2; omega
    replace hD := hD.quiet h2
    rintro w19 rfl
    replace h1 := h1.tch ((Tch.refl [] w18).drew) (by simp)
    replace hD := hD.quiet ((Tch.refl [] w18).drew)
    have hs19 : w18.drew.heap.size = w18.heap.size := rfl
    generalize w18.drew = w19 at *
    refine (rawR_c w19 b n rc _ ra bs _ 32 hD.rd).mono ?_
    rintro en w21 ⟨ya, yc, rfl, hR, hown⟩
    have hfbb : fb ≠ b := by omega
    replace h1 := h1.tch hR.2 (by simpa using hfbb)
    replace hD := hD.read hR
    have hs21 := hR.2.size
    clear hR
    refine ⟨_, _, _, rfl, ?_⟩
    rw [if_neg (show ¬ (32 = 0) by omega), add_mk, add_mk]
    obtain ⟨f, hfbit, hfo, hspl, hcase⟩ : ∃ f : Fk, f.bit = (rByte bs pos e).1 ∧ f.ok ∧ splice (fkC ⟨(rByte bs pos e).1, List.replicate 32 0⟩) 1 ((u8 (rRaw bs 32 (rByte bs pos e).2.1 (rByte bs pos e).2.2).1).take (min (rRaw bs 32 (rByte bs pos e).2.1 (rByte bs pos e).2.2).1.length 32)) = fkC f ∧
        ((e = 0 ∧ pos + 33 ≤ bs.length ∧ f = ⟨bs.getD pos 0, (bs.drop (pos + 1)).take 32⟩ ∧ (rRaw bs 32 (rByte bs pos e).2.1 (rByte bs pos e).2.2).2 = (pos + 33, 0)) ∨ (¬ (e = 0 ∧ pos + 33 ≤ bs.length) ∧ (rRaw bs 32 (rByte bs pos e).2.1 (rByte bs pos e).2.2).2.2 ≠ 0)) := by
      rcases hfr with ⟨g1, g2, g3, g4⟩ | ⟨g1, g2, g3⟩
      · rw [g3]
        simp only
        rw [g4]
        have hl : ((bs.drop (pos + 1)).take 32).length = 32 := by rw [List.length_take, List.length_drop]; omega
        refine ⟨⟨bs.getD pos 0, (bs.drop (pos + 1)).take 32⟩, rfl, hx0 _ (by rw [g3]) hl ((hB.drop _).take _), ?_, .inl ⟨g1, g2, rfl, rfl⟩⟩
        simp only
        rw [hl]
        generalize (bs.drop (pos + 1)).take 32 = l at *
        simp [splice, hl]
        exact List.take_of_length_le (by simp [hl])
      · refine ⟨⟨(rByte bs pos e).1, List.replicate 32 0⟩, rfl, hx0 _ rfl (by simp) (fun x hx => by rw [List.mem_replicate] at hx; omega), ?_, .inr ⟨g1, g3⟩⟩
        rw [g2]
        simp [splice]
    refine cpy bT h1 (own_rsl hown ones_ints) (by simp; omega) fun w24 k1 t1 s1 => ?_
    rw [hspl] at k1
    replace hD := hD.other t1 (by omega) hrow14
    refine ⟨_, rfl, ?_⟩
    have hgb : 0 ≤ f.bit ∧ f.bit < 256 := by rw [hfbit]; exact hxr
    generalize (rRaw bs 32 (rByte bs pos e).2.1 (rByte bs pos e).2.2).2 = st at *
    obtain ⟨p2, e2⟩ := st
    simp only at hD hcase
    refine ⟨fun u => ∃ (p3 : Nat) (e3 : Int), DS w ob pb b w5.heap.size ra n rc bs u a i k fs Pf.zero p3 e3 ∧ Blk u fb (fkC f) ∧ ((e3 ≠ 0 ∧ decS bs = none) ∨ (e3 = 0 ∧ decS bs = decG bs (fs ++ [f]) (N - (i + 1)) p3)), ?_, ?_⟩
    · refine ⟨_, by rw [add_mk]; exact k1.cell 0, ?_⟩
      refine (rank_c f.bit w24).mono ?_
      rintro en w29 ⟨rfl, rfl⟩
      refine ⟨_, rfl, ?_⟩
      have hdec : e2 ≠ 0 → decS bs = none := fun h2 => by
        rcases hinv with ⟨_, h⟩ | ⟨h0, h⟩
        · exact h
        · rw [h, show N - i = (N - (i + 1)) + 1 by omega]
          refine decG_bad fun hh => ?_
          rcases hcase with ⟨_, _, _, h4⟩ | ⟨h4, _⟩
          · cases h4; exact h2 rfl
          · exact h4 ⟨h0, hh.1⟩
      by_cases hrk : Rank f.bit
      · rw [bif_npos hrk]
        refine ⟨p2, e2, hD, k1, ?_⟩
        by_cases h2 : e2 = 0
        · rcases hcase with ⟨c1, c2, c3, c4⟩ | ⟨_, h4⟩
          · rcases hinv with ⟨h, _⟩ | ⟨h0, h⟩
            · exact absurd c1 h
            · refine .inr ⟨h2, ?_⟩
              cases c4
              rw [c3] at hrk
              unfold Rank at hrk
              rw [h, show N - i = (N - (i + 1)) + 1 by omega, decG_succ ⟨c2, hrk.2⟩, c3]
          · exact absurd h2 h4
        · exact .inl ⟨h2, hdec h2⟩
      · rw [bif_nneg hrk]
        refine (failR_c w29 b n rc p2 ra bs e2 250 hD.rd).mono ?_
        rintro en w32 ⟨rfl, hR⟩
        refine ⟨rfl, p2, rFail 250 e2, hD.read hR, k1.tch hR.2 (by simpa using hfbb), .inl ⟨?_, ?_⟩⟩
        · unfold rFail; split <;> omega
        · by_cases h2 : e2 = 0
          · rcases hcase with ⟨c1, c2, c3, c4⟩ | ⟨_, h4⟩
            · rcases hinv with ⟨h, _⟩ | ⟨h0, h⟩
              · exact absurd c1 h
              · rw [h, show N - i = (N - (i + 1)) + 1 by omega]
                refine decG_bad fun hh => hrk ?_
                rw [c3] at hgb ⊢
                exact ⟨hgb.1, hh.2⟩
            · exact absurd h2 h4
          · exact hdec h2
    · clear hD k1 hcase hfr hinv
      rintro w33 ⟨p3, e3, hD, k1, hinv⟩
      refine ⟨a, i, k, by rw [add_mk]; exact hD.prf.cell 0, ?_⟩
      refine get_all k1 (by rw [List.length_cons, List.length_map, hfo.2.1]) ?_
      refine app_elem_at fT hD.own (by rw [zcFork]; rfl) (ys := fkC f) rfl (by rw [List.length_cons, List.length_map, hfo.2.1]) fkC_ones hD.lo.2.2.2.2.2.2 (by omega) (by omega) fun a2 c2 w39 k2 t2 m2 => ?_
      have hG := hD.grown hfo k2 t2
      refine ⟨rfl, by rw [add_mk, (hD.prf.tch t2 (fun hm => by have := (rowL_ge hD.own _ hm).1; have := hD.lo.2.2.2.2.1; omega)).cell]; rfl, by rw [add_mk]; exact (hD.prf.tch t2 (fun hm => by have := (rowL_ge hD.own _ hm).1; have := hD.lo.2.2.2.2.1; omega)).frozen _, ?_⟩
      rintro w41 rfl
      rw [add_mk, wrap_u64 (by omega) (by omega)]
      exact ⟨N - (i + 1), by omega, i + 1, a2, c2, fs ++ [f], p3, e3, by omega, by omega, rfl, hG, hinv⟩
  · obtain rfl : i = N := by omega
    rw [bif_neg (by omega)]
    rw [Nat.sub_self, decG_zero] at hinv
    have hple := hD.rd.le
    have hbn := hD.rd.len
    refine ⟨fun u => ∃ (q : Pf) (p3 : Nat) (e3 : Int), DS w ob pb b w5.heap.size ra n rc bs u a i k fs q p3 e3 ∧ ((rEnd bs p3 e3 ≠ 0 ∧ decS bs = none) ∨ (rEnd bs p3 e3 = 0 ∧ decS bs = some { q with fs := fs })), ?_, ?_⟩
    · refine (byteR_c w11 b n rc pos ra bs e hD.rd).mono ?_
      rintro en w45 ⟨rfl, hR⟩
      replace hD := hD.read hR
      clear hR
      refine ⟨_, rfl, ?_⟩
      rcases rByte_cases bs pos e with ⟨g1, g2, g3⟩ | ⟨g1, g2, g3, g4, g5⟩
      · rw [g3] at hD ⊢
        simp only at hD ⊢
        obtain ⟨_, hdec⟩ : e = 0 ∧ decS bs = decT bs fs pos := by
          rcases hinv with ⟨h, _⟩ | h
          · exact absurd g1 h
          · exact h
        by_cases hx0 : bs.getD pos 0 = 0
        · rw [bif_pos hx0]
          refine ⟨_, _, _, hD, ?_⟩
          unfold rEnd
          rw [hdec]
          unfold decT
          by_cases hl : pos + 1 = bs.length
          · rw [if_neg (by omega), if_pos ⟨g2, hx0, hl⟩]
            exact .inr ⟨rfl, rfl⟩
          · rw [if_pos ⟨rfl, by omega⟩, if_neg (fun hh => hl hh.2.2), if_neg (fun hh => by omega)]
            exact .inl ⟨by omega, rfl⟩
        · rw [bif_neg hx0]
          by_cases hx1 : bs.getD pos 0 = 1
          · rw [bif_pos hx1]
            have hT := tail_leaf hB (fs := fs) g2 hx1
            simp only at hT
            refine put_cell hD.prf 1 (by simp) rfl fun w47 k1 t1 => ?_
            replace hD := hD.setq (q' := { Pf.zero with leaf := true }) t1 k1
            clear k1 t1
            refine (rawR_c w47 b n rc _ ra bs _ 10 hD.rd).mono ?_
            rintro en w49 ⟨ya, yc, rfl, hR, hown⟩
            replace hD := hD.read hR
            have hlB : Bytes (rRaw bs 10 (pos + 1) 0).1 := by
              rcases rRaw_cases bs 10 (pos + 1) 0 with ⟨_, _, h⟩ | ⟨_, h, _⟩
              · rw [show (10 : Int) = ((10 : Nat) : Int) from rfl, h]; exact (hB.drop _).take _
              · rw [show (10 : Int) = ((10 : Nat) : Int) from rfl, h]; exact Bytes.nil
            generalize rRaw bs 10 (pos + 1) 0 = L at *
            obtain ⟨l, p2, e2⟩ := L
            simp only at hD hT hlB hown ⊢
            refine ⟨_, _, _, rfl, ?_⟩
            refine (fromBytes_c w49 l ya _ yc (own_rsl hown ones_ints) hlB).mono ?_
            rintro en w52 ⟨rfl, ht⟩
            replace hD := hD.quiet ht
            refine ⟨_, _, rfl, _, rfl, _, rfl, ?_⟩
            refine var_init (n := 2) (by kernel_rfl) rfl (by simp [one]) fun w57 w58 h1 h2 h3 => ?_
            generalize hkb : w52.heap.size = kb at *
            have hl52 := hD.lo
            replace hD := hD.quiet h2
            rintro w59 rfl
            replace h1 := h1.tch ((Tch.refl [] w58).drew) (by simp)
            replace hD := hD.quiet ((Tch.refl [] w58).drew)
            generalize w58.drew = w59 at *
            refine get_all h1 rfl ?_
            refine (intR_c w59 b n rc _ ra bs _ hD.rd).mono ?_
            rintro en w62 ⟨rfl, hR⟩
            replace hD := hD.read hR
            replace h1 := h1.tch hR.2 (by simp; omega)
            refine ⟨_, rfl, get_all h1 rfl (by constructor <;> first | rfl | trivial), ?_⟩
            generalize rInt bs p2 e2 = V at *
            obtain ⟨v, p3, e3⟩ := V
            simp only at hD hT ⊢
            refine ⟨i64s [(fromB l).1, (fromB l).2.1, v], by rw [zcRow]; rfl, ?_⟩
            refine put_part hD.prf 2 (by simp) rfl ones_ints fun w66 k1 t1 _ => ?_
            refine ⟨⟨[], true, (fromB l).1, (fromB l).2.1, v⟩, p3, e3, hD.setq t1 k1, ?_⟩
            rw [hdec]
            rcases hT with ⟨t1, _, t2⟩ | h
            · exact .inr ⟨t1, t2⟩
            · exact .inl h
          · rw [bif_neg hx1]
            refine (failR_c w45 b n rc _ ra bs _ 250 hD.rd).mono ?_
            rintro en w68 ⟨rfl, hR⟩
            refine ⟨rfl, _, _, _, hD.read hR, .inl ⟨?_, ?_⟩⟩
            · simp [rFail, rEnd]
            · rw [hdec]
              unfold decT
              rw [if_neg (fun hh => hx0 hh.2.1), if_neg (fun hh => hx1 hh.2.1)]
      · rw [g2, bif_pos rfl]
        refine ⟨_, _, _, hD, .inl ⟨?_, ?_⟩⟩
        · unfold rEnd
          rw [if_neg (fun hh => g4 hh.1)]
          exact g4
        · rcases hinv with ⟨_, h⟩ | ⟨h0, h⟩
          · exact h
          · rw [h]
            unfold decT
            rw [if_neg (fun hh => g1 ⟨h0, hh.1⟩), if_neg (fun hh => g1 ⟨h0, by omega⟩)]
    · clear hD hinv
      rintro w69 ⟨q, p3, e3, hD, hend⟩
      refine (endR_c w69 b n rc p3 ra bs e3 hD.rd).mono ?_
      rintro en w71 ⟨rfl, ht⟩
      replace hD := hD.quiet ht
      refine ⟨_, rfl, ?_⟩
      rcases hend with ⟨h1, h2⟩ | ⟨h1, h2⟩
      · rw [bif_nneg h1]
        exact ret_zero hD.out rfl fun u' ht => hD.fail h2 ht
      · rw [bif_npos h1]
        refine get_all hD.prf rfl ?_
        refine put_all (n := 5) (new := pfC a i k q) hD.out rfl rfl (by simp [one]) fun w77 k1 t1 _ => ?_
        exact get_all k1 rfl (hD.done h2 t1)
end Go.Proofs.Ytjkbjppopdfggaa.Codes
