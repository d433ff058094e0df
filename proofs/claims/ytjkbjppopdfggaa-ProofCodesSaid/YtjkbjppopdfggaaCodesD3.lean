/-
  DECODE, the reference's: its contract.
  Own work. No macro, syntax, notation, axiom.
-/
import Derived.Test.YtjkbjppopdfggaaCodesD2
namespace Go.Proofs.Ytjkbjppopdfggaa.Codes
open Go Den Fn Lib
open Go.RowKit (Below)
open Classical
set_option maxRecDepth 8000
set_option maxHeartbeats 1000000

theorem zcRefReader : zc Try.prog 72 = [.slice none 0 0, .int .i64 0, .int .i64 0] := by kernel_rfl
/-- A copy under way. -/
def cpl (l : List Int) (j : Nat) : List Int := l.take j ++ List.replicate (32 - j) 0
theorem cpl_set {l : List Int} {j : Nat} (hj : j < l.length) (hl : l.length ≤ 32) : (cpl l j).set j (l.getD j 0) = cpl l (j + 1) := by
  unfold cpl
  have h1 : (l.take j).length = j := by rw [List.length_take]; omega
  rw [List.set_append_right _ _ (by omega), h1, Nat.sub_self, show 32 - j = (32 - (j + 1)) + 1 by omega, List.replicate_succ, List.set_cons_zero, List.take_succ_eq_append_getElem (by omega), List.append_assoc]
  simp [List.getD_eq_getElem?_getD, hj]
theorem cpl_len {l : List Int} {j : Nat} (hj : j ≤ l.length) (hl : l.length ≤ 32) : (cpl l j).length = 32 := by
  unfold cpl
  rw [List.length_append, List.length_take, List.length_replicate]
  omega
theorem refDecode_c (w : World) (bs : List Int) (xa : Option Addr) (n c : Nat) (hr : RSl w 1 xa n c (u8 bs)) (hB : Bytes bs) (hN : n ≤ 140737488351232) :
    Calls Try.prog 10 #[.slice xa n c] w fun e w' => DecR w (decS bs) e w' := by
  refine c10 _ _ _ ?_
  unfold d10
  rintro w1 rfl
  rw [zcPf]
  have hlow := hr.low (by omega)
  have ho1 := Blk.fresh w (cs := zP) 28 rfl
  have ht1 := (Tch.refl [] w).alloc (.cells zP.toArray 28)
  have hs1 := size_alloc w (.cells zP.toArray 28)
  generalize w.alloc (.cells zP.toArray 28) = w1 at *
  generalize hob : w.heap.size = ob at *
  refine ⟨[.slice xa n c, .int .i64 0, .int .i64 0], by rw [zcRefReader]; rfl, ?_⟩
  rintro w3 rfl
  have hb1 := Blk.fresh w1 (cs := [.slice xa n c, .int .i64 0, .int .i64 0]) 72 rfl
  have ht3 := (Tch.refl [] w1).alloc (.cells [Value.slice xa n c, .int .i64 0, .int .i64 0].toArray 72)
  have hs3 := size_alloc w1 (.cells [Value.slice xa n c, .int .i64 0, .int .i64 0].toArray 72)
  generalize w1.alloc (.cells [Value.slice xa n c, .int .i64 0, .int .i64 0].toArray 72) = w3 at *
  generalize hb : w1.heap.size = b at *
  have hbn := u8_len hr
  have hRd : Rd w3 b xa n c bs 0 0 := ⟨hb1, (hr.tch ht1 (fun _ _ h => by cases h)).tch ht3 (fun _ _ h => by cases h), hlow.imp id fun hl x hx hm => by have := hl x hx; simp at hm; omega, by omega, hB, by omega⟩
  clear hb1
  refine (refUpto_c w3 b n c 0 xa bs 0 80 hRd).mono ?_
  rintro e w5 ⟨rfl, hR⟩
  have hs5 := hR.2.size
  have hblt := hR.1.blk.lt
  have ht5 := hR.2
  replace hRd := hR.1
  clear hR
  replace ho1 := (ho1.tch ht3 (by simp)).tch ht5 (by simp; omega)
  have htw : Tch [] w w5 := (ht1.trans ht3 (by simp)).trans ht5 (by simp; omega)
  clear ht1 ht3 ht5
  refine ⟨_, rfl, ?_⟩
  rintro w7 rfl
  have hp7 := Blk.fresh w5 (cs := zP) 28 rfl
  have ht7 := (Tch.refl [] w5).alloc (.cells zP.toArray 28)
  have hs7 := size_alloc w5 (.cells zP.toArray 28)
  generalize w5.alloc (.cells zP.toArray 28) = w7 at *
  generalize hpb : w5.heap.size = pb at *
  have hNle := (rUpto_le (bs := bs) (e := 0) (most := 80) (p := 0) hB (by omega)).2.2
  have hD : DS w ob pb b w7.heap.size xa n c bs w7 none 0 0 [] Pf.zero (rUpto bs 80 0 0).2.1 (rUpto bs 80 0 0).2.2 :=
    ⟨htw.trans ht7 (by simp), ho1.tch ht7 (by simp), hp7, hRd.quiet ht7, own_nil _ _ _ _, by simp, by omega, by omega, hlow.imp id fun hl x hx => by have := hl x hx; omega⟩
  clear hRd ho1 hp7 htw ht7
  have hstart : ((rUpto bs 80 0 0).2.2 ≠ 0 ∧ decS bs = none) ∨ ((rUpto bs 80 0 0).2.2 = 0 ∧ decS bs = decG bs [] (rUpto bs 80 0 0).1 (rUpto bs 80 0 0).2.1) := by
    by_cases h : (rUpto bs 80 0 0).2.2 = 0
    · refine .inr ⟨h, ?_⟩
      unfold decS
      rw [if_neg (by simpa using h)]
      unfold decG
      simp
    · refine .inl ⟨h, by unfold decS; rw [if_pos h]⟩
  generalize rUpto bs 80 0 0 = U at *
  obtain ⟨N, p0, e0⟩ := U
  simp only at hD hNle hstart ⊢
  refine ⟨fun u => ∃ (i : Nat) (a : Option Addr) (k : Nat) (fs : List Fk) (pos : Nat) (e : Int), i ≤ 80 ∧ DS w ob pb b w7.heap.size xa n c bs u a i k fs Pf.zero pos e ∧ ((e ≠ 0 ∧ decS bs = none) ∨ (e = 0 ∧ decS bs = decT bs fs pos)), ?_, ?_⟩
  · refine ⟨fun m x u => ∃ (i : Nat) (a : Option Addr) (k : Nat) (fs : List Fk) (pos : Nat) (e : Int), x = i ∧ i ≤ N ∧ m = N - i ∧ DS w ob pb b w7.heap.size xa n c bs u a i k fs Pf.zero pos e ∧ ((e ≠ 0 ∧ decS bs = none) ∨ (e = 0 ∧ decS bs = decG bs fs (N - i) pos)), ⟨N, 0, none, 0, [], p0, e0, rfl, by omega, rfl, hD, hstart⟩, ?_⟩
    clear hD hstart
    rintro m w11 x ⟨i, a, k, fs, pos, e, rfl, hi, rfl, hD, hinv⟩
    refine ⟨fun u => i < N ∧ e = 0 ∧ decS bs = decG bs fs (N - i) pos ∧ DS w ob pb b w7.heap.size xa n c bs u a i k fs Pf.zero pos e, ?_, ?_⟩
    · by_cases hlt : i < N
      · rw [bif_pos (by omega)]
        refine ⟨e, by rw [add_mk]; exact hD.rd.blk.cell 2, ?_⟩
        by_cases he : e = 0
        · rw [bif_pos he]
          rcases hinv with ⟨h, _⟩ | ⟨_, h⟩
          · exact absurd he h
          · exact ⟨hlt, he, h, hD⟩
        · rw [bif_neg he]
          refine ⟨i, a, k, fs, pos, e, by omega, hD, ?_⟩
          rcases hinv with h | ⟨h, _⟩
          · exact .inl h
          · exact absurd h he
      · rw [bif_neg (by omega)]
        obtain rfl : i = N := by omega
        rw [Nat.sub_self, decG_zero] at hinv
        exact ⟨i, a, k, fs, pos, e, by omega, hD, hinv⟩
    · clear hD hinv
      rintro w15 ⟨hlt, rfl, hinv, hD⟩
      refine (refByte_c w15 b n c pos xa bs 0 hD.rd).mono ?_
      rintro en w17 ⟨rfl, hR⟩
      replace hD := hD.read hR
      clear hR
      have hxr : 0 ≤ (rByte bs pos 0).1 ∧ (rByte bs pos 0).1 < 256 := by
        rcases rByte_cases bs pos 0 with ⟨_, _, h⟩ | ⟨_, h, _⟩
        · rw [h]; exact byte_of hB pos
        · rw [h]; omega
      have hfr := fork_read bs pos 0
      refine ⟨_, rfl, fkC ⟨(rByte bs pos 0).1, List.replicate 32 0⟩, by rw [zcFork, wrap_i64 (by omega) (by omega)]; rfl, ?_⟩
      refine var_init (n := 33) (by rw [zcFork]; rfl) (by simp) fkC_ones fun w20 w21 h1 h2 h3 => ?_
      generalize hfb : w17.heap.size = fb at *
      have hl14 := hD.lo
      have hrow14 : fb ∉ rowL a := fun hm => by have := (rowL_ge hD.own _ hm).2; omega
      replace hD := hD.quiet h2
      refine (refRaw_c w21 b n c _ xa bs _ 32 hD.rd).mono ?_
      rintro en w23 ⟨ya, yc, rfl, hR, hown⟩
      have hfbb : fb ≠ b := by omega
      replace h1 := h1.tch hR.2 (by simpa using hfbb)
      replace hD := hD.read hR
      have hs21 := hR.2.size
      clear hR
      obtain ⟨l32, lB, hcase⟩ : (rRaw bs 32 (rByte bs pos 0).2.1 (rByte bs pos 0).2.2).1.length ≤ 32 ∧ Bytes (rRaw bs 32 (rByte bs pos 0).2.1 (rByte bs pos 0).2.2).1 ∧
          ((pos + 33 ≤ bs.length ∧ (rByte bs pos 0).1 = bs.getD pos 0 ∧ (rRaw bs 32 (rByte bs pos 0).2.1 (rByte bs pos 0).2.2).1 = (bs.drop (pos + 1)).take 32 ∧ (rRaw bs 32 (rByte bs pos 0).2.1 (rByte bs pos 0).2.2).2 = (pos + 33, 0) ∧ (rRaw bs 32 (rByte bs pos 0).2.1 (rByte bs pos 0).2.2).1.length = 32) ∨ (¬ (pos + 33 ≤ bs.length) ∧ (rRaw bs 32 (rByte bs pos 0).2.1 (rByte bs pos 0).2.2).2.2 ≠ 0)) := by
        rcases hfr with ⟨g1, g2, g3, g4⟩ | ⟨g1, g2, g3⟩
        · rw [g3]
          simp only
          rw [g4]
          have hl : ((bs.drop (pos + 1)).take 32).length = 32 := by rw [List.length_take, List.length_drop]; omega
          exact ⟨Nat.le_of_eq hl, (hB.drop _).take _, .inl ⟨g2, by simp, by simp, by simp, hl⟩⟩
        · exact ⟨by rw [g2]; simp, by rw [g2]; exact Bytes.nil, .inr ⟨fun h => g1 ⟨rfl, h⟩, g3⟩⟩
      clear hfr
      generalize rRaw bs 32 (rByte bs pos 0).2.1 (rByte bs pos 0).2.2 = st at *
      obtain ⟨l, p2, e2⟩ := st
      simp only at hD hcase l32 lB hown ⊢
      generalize (rByte bs pos 0).1 = xb at *
      refine ⟨_, _, _, rfl, ?_⟩
      refine ⟨fun m x u => ∃ j : Nat, x = j ∧ j ≤ l.length ∧ m = l.length - j ∧ DS w ob pb b w7.heap.size xa n c bs u a i k fs Pf.zero p2 e2 ∧ Blk u fb (fkC ⟨xb, cpl l j⟩) ∧ RSl u 1 ya l.length yc (u8 l) ∧ Off [fb] ya, ⟨l.length, 0, rfl, by omega, rfl, hD, by simpa [cpl] using h1, own_rsl hown ones_ints, own_off hown (by simp; omega)⟩, ?_⟩
      clear hD h1 hown
      rintro m2 w27 x ⟨j, rfl, hj, rfl, hD, h1, hrow, hoff⟩
      by_cases hjl : j < l.length
      · rw [bif_pos (by omega)]
        refine ⟨by omega, by omega, ?_⟩
        rw [Int.toNat_natCast]
        refine elem8 hrow hjl ⟨by omega, by omega, ?_⟩
        rw [add_mk, Nat.mul_one, show Addr.add ⟨fb, 0 + 1, none⟩ j = Addr.add ⟨fb, 0, none⟩ (1 + j) by rw [add_mk, add_mk]; congr 1; omega]
        refine put_cell h1 (1 + j) (v := .int .u8 (l.getD j 0)) (by simp [cpl_len hj l32]; omega) rfl fun w31 k1 t1 => ?_
        rw [wrap_i64 (by omega) (by omega)]
        refine ⟨l.length - (j + 1), by omega, j + 1, by omega, by omega, rfl, hD.other t1 (by omega) hrow14, ?_, hrow.tch t1 hoff, hoff⟩
        rw [← cpl_set hjl l32]
        rw [Nat.add_comm 1 j, List.set_cons_succ, ← List.map_set] at k1
        exact k1
      · rw [bif_neg (by omega)]
        obtain rfl : j = l.length := by omega
        have hfo : Fk.ok ⟨xb, cpl l l.length⟩ := ⟨by unfold I64; simp only; omega, cpl_len (Nat.le_refl _) l32, by
          unfold cpl
          rw [List.take_length]
          exact lB.append fun x hx => by rw [List.mem_replicate] at hx; omega⟩
        refine ⟨xb, by rw [add_mk]; exact h1.cell 0, ?_⟩
        by_cases h80 : 80 ≤ xb
        · rw [bif_pos h80]
          refine ret_zero hD.out rfl fun u' ht => hD.fail ?_ ht
          rw [hinv, show N - i = (N - (i + 1)) + 1 by omega]
          refine decG_bad fun hh => ?_
          rcases hcase with ⟨c1, c2, c3, c4, c5⟩ | ⟨c1, _⟩
          · omega
          · exact c1 hh.1
        · rw [bif_neg h80]
          have hnew : (e2 ≠ 0 ∧ decS bs = none) ∨ (e2 = 0 ∧ decS bs = decG bs (fs ++ [⟨xb, cpl l l.length⟩]) (N - (i + 1)) p2) := by
            rw [hinv, show N - i = (N - (i + 1)) + 1 by omega]
            rcases hcase with ⟨c1, c2, c3, c4, c5⟩ | ⟨c1, c2⟩
            · cases c4
              refine .inr ⟨rfl, ?_⟩
              rw [decG_succ ⟨c1, by omega⟩, c2, ← c3]
              have : cpl l l.length = l := by unfold cpl; rw [List.take_length, c5]; simp
              rw [this]
            · exact .inl ⟨c2, decG_bad fun hh => c1 hh.1⟩
          refine ⟨a, i, k, by rw [add_mk]; exact hD.prf.cell 0, ?_⟩
          refine get_all h1 (by rw [List.length_cons, List.length_map, hfo.2.1]) ?_
          refine app_elem_at fT hD.own (by rw [zcFork]; rfl) (ys := fkC ⟨xb, cpl l l.length⟩) rfl (by rw [List.length_cons, List.length_map, hfo.2.1]) fkC_ones hD.lo.2.2.2.2.2.2 (by omega) (by omega) fun a2 c2 w39 k2 t2 m2 => ?_
          have hG := hD.grown hfo k2 t2
          refine ⟨rfl, by rw [add_mk, (hD.prf.tch t2 (fun hm => by have := (rowL_ge hD.own _ hm).1; have := hD.lo.2.2.2.2.1; omega)).cell]; rfl, by rw [add_mk]; exact (hD.prf.tch t2 (fun hm => by have := (rowL_ge hD.own _ hm).1; have := hD.lo.2.2.2.2.1; omega)).frozen _, ?_⟩
          rintro w41 rfl
          rw [add_mk, wrap_u64 (by omega) (by omega)]
          exact ⟨N - (i + 1), by omega, i + 1, a2, c2, fs ++ [⟨xb, cpl l l.length⟩], p2, e2, by omega, by omega, rfl, hG, hnew⟩
  · clear hD hstart
    rintro w46 ⟨i, a, k, fs, pos, e, hi80, hD, hinv⟩
    have hple := hD.rd.le
    refine (refByte_c w46 b n c pos xa bs e hD.rd).mono ?_
    rintro en w48 ⟨rfl, hR⟩
    replace hD := hD.read hR
    clear hR
    refine ⟨_, rfl, ?_⟩
    refine ⟨fun u => ∃ (q : Pf) (p3 : Nat) (e3 : Int), DS w ob pb b w7.heap.size xa n c bs u a i k fs q p3 e3 ∧ ((rByte bs pos e).1 ≤ 1 → (rEnd bs p3 e3 ≠ 0 ∧ decS bs = none) ∨ (rEnd bs p3 e3 = 0 ∧ decS bs = some { q with fs := fs })) ∧ (1 < (rByte bs pos e).1 → decS bs = none), ?_, ?_⟩
    · rcases rByte_cases bs pos e with ⟨g1, g2, g3⟩ | ⟨g1, g2, g3, g4, g5⟩
      · rw [g3] at hD ⊢
        simp only at hD ⊢
        have hxb := byte_of hB pos
        obtain ⟨_, hdec⟩ : e = 0 ∧ decS bs = decT bs fs pos := by
          rcases hinv with ⟨h, _⟩ | h
          · exact absurd g1 h
          · exact h
        by_cases hx1 : bs.getD pos 0 = 1
        · rw [bif_pos hx1]
          have hT := tail_leaf hB (fs := fs) g2 hx1
          simp only at hT
          have hl48 := hD.lo
          refine (refRaw_c w48 b n c _ xa bs _ 10 hD.rd).mono ?_
          rintro en w52 ⟨ya, yc, rfl, hR, hown⟩
          replace hD := hD.read hR
          have hlB : Bytes (rRaw bs 10 (pos + 1) 0).1 := by
            rcases rRaw_cases bs 10 (pos + 1) 0 with ⟨_, _, h⟩ | ⟨_, h, _⟩
            · rw [show (10 : Int) = ((10 : Nat) : Int) from rfl, h]; exact (hB.drop _).take _
            · rw [show (10 : Int) = ((10 : Nat) : Int) from rfl, h]; exact Bytes.nil
          have hTn : (rRaw bs 10 (pos + 1) 0).2.2 ≠ 0 → decT bs fs pos = none := fun h => by
            rcases hT with ⟨_, h2, _⟩ | ⟨_, h2⟩
            · exact absurd h2 h
            · exact h2
          generalize rRaw bs 10 (pos + 1) 0 = L at *
          obtain ⟨l, p2, e2⟩ := L
          simp only at hD hT hlB hown hTn ⊢
          refine ⟨_, _, _, rfl, ?_⟩
          refine ⟨e2, by rw [add_mk]; exact hD.rd.blk.cell 2, ?_⟩
          by_cases he2 : e2 = 0
          rotate_left
          · rw [bif_nneg he2]
            exact ret_zero hD.out rfl fun u' ht => hD.fail (by rw [hdec]; exact hTn he2) ht
          rw [bif_npos he2]
          have hya : Off [pb] ya := own_off hown (by simp; omega)
          refine put_cell hD.prf 1 (by simp) rfl fun w58 k1 t1 => ?_
          replace hD := hD.setq (q' := { Pf.zero with leaf := true }) t1 k1
          refine (refFromBytes_c w58 l ya _ yc ((own_rsl hown ones_ints).tch t1 hya) hlB).mono ?_
          clear k1 t1
          rintro en w60 ⟨rfl, ht⟩
          replace hD := hD.quiet ht
          refine ⟨_, _, rfl, _, rfl, _, rfl, ?_⟩
          rw [show Addr.add (Addr.add ⟨pb, 0, none⟩ 2) 0 = Addr.add ⟨pb, 0, none⟩ 2 by rw [add_mk, add_mk], show Addr.add (Addr.add ⟨pb, 0, none⟩ 2) 2 = Addr.add ⟨pb, 0, none⟩ 4 by rw [add_mk, add_mk, add_mk]]
          refine put_part (n := 2) hD.prf 2 (new := keyC (fromB l).1 (fromB l).2.1) (by simp) rfl (by simp [one]) fun w65 k1 t1 _ => ?_
          replace hD := hD.setq (q' := ⟨[], true, (fromB l).1, (fromB l).2.1, 0⟩) t1 k1
          clear k1 t1
          refine (refIntR_c w65 b n c _ xa bs _ hD.rd).mono ?_
          rintro en w67 ⟨rfl, hR⟩
          replace hD := hD.read hR
          refine ⟨_, rfl, ?_⟩
          generalize rInt bs p2 e2 = V at *
          obtain ⟨v, p3, e3⟩ := V
          simp only at hD hT ⊢
          refine put_cell hD.prf 4 (v := .int .i64 v) (by simp) rfl fun w69 k1 t1 => ?_
          refine ⟨⟨[], true, (fromB l).1, (fromB l).2.1, v⟩, p3, e3, hD.setq t1 k1, fun _ => ?_, fun h => by omega⟩
          rw [hdec]
          rcases hT with ⟨t1, _, t2⟩ | h
          · exact .inr ⟨t1, t2⟩
          · exact .inl h
        · rw [bif_neg hx1]
          refine ⟨_, _, _, hD, fun hle => ?_, fun hgt => ?_⟩
          · have hx0 : bs.getD pos 0 = 0 := by omega
            unfold rEnd
            rw [hdec]
            unfold decT
            by_cases hl : pos + 1 = bs.length
            · rw [if_neg (by omega), if_pos ⟨g2, hx0, hl⟩]
              exact .inr ⟨rfl, rfl⟩
            · rw [if_pos ⟨rfl, by have := hD.rd.len; omega⟩, if_neg (fun hh => hl hh.2.2), if_neg (fun hh => by omega)]
              exact .inl ⟨by omega, rfl⟩
          · rw [hdec]
            unfold decT
            rw [if_neg (fun hh => by omega), if_neg (fun hh => hx1 hh.2.1)]
      · rw [g2, bif_neg (by omega)]
        refine ⟨_, _, _, hD, fun _ => .inl ⟨?_, ?_⟩, fun h => by omega⟩
        · unfold rEnd
          rw [if_neg (fun hh => g4 hh.1)]
          exact g4
        · rcases hinv with ⟨_, h⟩ | ⟨h0, h⟩
          · exact h
          · rw [h]
            unfold decT
            rw [if_neg (fun hh => g1 ⟨h0, hh.1⟩), if_neg (fun hh => g1 ⟨h0, by omega⟩)]
    · clear hD hinv
      rintro w70 ⟨q, p3, e3, hD, hend, hbig⟩
      by_cases hx : 1 < (rByte bs pos e).1
      · rw [bif_pos hx]
        exact ret_zero hD.out rfl fun u' ht => hD.fail (hbig hx) ht
      rw [bif_neg hx]
      refine (refEnd_c w70 b n c p3 xa bs e3 hD.rd).mono ?_
      rintro en w75 ⟨rfl, ht⟩
      replace hD := hD.quiet ht
      refine ⟨_, rfl, ?_⟩
      rcases hend (by omega) with ⟨h1, h2⟩ | ⟨h1, h2⟩
      · rw [bif_nneg h1]
        exact ret_zero hD.out rfl fun u' ht => hD.fail h2 ht
      · rw [bif_npos h1]
        refine get_all hD.prf rfl ?_
        refine put_all (n := 5) (new := pfC a i k q) hD.out rfl rfl (by simp [one]) fun w77 k1 t1 _ => ?_
        exact get_all k1 rfl (hD.done h2 t1)
end Go.Proofs.Ytjkbjppopdfggaa.Codes
