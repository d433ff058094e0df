/-
  THE EXAMPLES THAT A LAW ASKS AHEAD: two trees of two rows: their roots, a proof, what differs (reckoned by the kernel), and the contract of works.
  THE LAW OF ROOTS: two trees have one root just if their rows are the same, or two unlike texts have one digest.
  PROVED HERE: the card of ProofRoots: two trees have one root just if their rows are the same, or two unlike texts of their nodes have one digest.
  Own work. No macro, syntax, notation, axiom.
-/
import Derived.Test.YtjkbjppopdfggaaDoorRooPk14
import Derived.Test.YtjkbjppopdfggaaDoorRooPk11
namespace Go.Proofs.YtjkbjppopdfggaaDoor.Tre
open Go Den Fn Sha
open Go.RowKit (Below)
open Classical
set_option maxRecDepth 8000
set_option maxHeartbeats 4000000
abbrev rA : Rw := ⟨0, 1, 10⟩
abbrev rB : Rw := ⟨0, 2, 20⟩
abbrev rC : Rw := ⟨0, 2, 21⟩
theorem ex_ok {v v' : Int} (h : Sha.I64 v) (h' : Sha.I64 v') : RowsOk [⟨0, 1, v⟩, ⟨0, 2, v'⟩] := by
  refine ⟨fun x hx => ?_, ?_⟩
  · simp only [List.mem_cons, List.not_mem_nil, or_false] at hx
    rcases hx with rfl | rfl
    · exact ⟨show Sha.KeyOk 0 by decide, i64_0, i64_k1, h⟩
    · exact ⟨show Sha.KeyOk 0 by decide, i64_0, i64_k2, h'⟩
  · show List.Pairwise _ [((0 : Int), (1 : Int)), (0, 2)]
    refine List.pairwise_cons.2 ⟨fun b hb => ?_, List.pairwise_singleton _ _⟩
    rw [List.mem_singleton.1 hb]
    decide
theorem ex_bit {v v' : Int} : PartB [⟨0, 1, v⟩, ⟨0, 2, v'⟩] 78 := by
  refine ⟨_, _, rfl, rfl, ⟨by decide, ?_, ?_⟩, ?_, ?_⟩
  · show bitS (keyB 0 1) ((78 : Nat) : Int) ≠ bitS (keyB 0 2) ((78 : Nat) : Int)
    decide +kernel
  · show ∀ m : Nat, m < 78 → bitS (keyB 0 1) (m : Int) = bitS (keyB 0 2) (m : Int)
    decide +kernel
  · show bitS (keyB 0 1) ((78 : Nat) : Int) = 0
    decide +kernel
  · show bitS (keyB 0 2) ((78 : Nat) : Int) = 1
    decide +kernel
theorem ex_at {v v' : Int} : partAt [⟨0, 1, v⟩, ⟨0, 2, v'⟩] 78 = 1 := by
  have e1 : bitS (kw ⟨0, 1, v⟩) 78 = 0 := by show bitS (keyB 0 1) 78 = 0; decide +kernel
  have e2 : bitS (kw ⟨0, 2, v'⟩) 78 = 1 := by show bitS (keyB 0 2) 78 = 1; decide +kernel
  unfold partAt
  rw [List.findIdx_cons, List.findIdx_cons]
  simp [e1, e2]
theorem ex_tree {v v' : Int} (h : Sha.I64 v) (h' : Sha.I64 v') : treeT [⟨0, 1, v⟩, ⟨0, 2, v'⟩] = .fork 78 (.leaf ⟨0, 1, v⟩) (.leaf ⟨0, 2, v'⟩) := by
  have hok := ex_ok h h'
  rw [treeT_two hok (by simp)]
  have hb : partBit [(⟨0, 1, v⟩ : Rw), ⟨0, 2, v'⟩] = 78 := (partBit_ok hok (by simp)).unique ex_bit
  rw [hb, ex_at]
  show Tr.fork 78 (treeT [⟨0, 1, v⟩]) (treeT [⟨0, 2, v'⟩]) = _
  rw [treeT_one, treeT_one]
theorem ex_root {v v' : Int} (h : Sha.I64 v) (h' : Sha.I64 v') : rootS [⟨0, 1, v⟩, ⟨0, 2, v'⟩] = sha (forkT 78 (sha (leafT 0 1 v)) (sha (leafT 0 2 v'))) := by
  unfold rootS
  rw [if_neg (by simp), ex_tree h h']
  rfl
set_option maxRecDepth 100000 in
theorem ex_sums : sha (forkT 78 (sha (leafT 0 1 10)) (sha (leafT 0 2 20))) ≠ sha (forkT 78 (sha (leafT 0 1 10)) (sha (leafT 0 2 21))) := by decide +kernel
theorem i10 : Sha.I64 10 := by unfold Sha.I64; decide
theorem i20 : Sha.I64 20 := by unfold Sha.I64; decide
theorem i21 : Sha.I64 21 := by unfold Sha.I64; decide
theorem ex_roots : rootS [rA, rB] ≠ rootS [rA, rC] := by
  rw [ex_root i10 i20, ex_root i10 i21]
  exact ex_sums
theorem ex_proof : proofS (keyB 0 3) [rA, rB] = ⟨[⟨78, sha (leafT 0 1 10)⟩], true, 0, 2, 20⟩ := by
  have hb : bitS (keyB 0 3) ((78 : Nat) : Int) = 1 := by decide +kernel
  have e : proveS (keyB 0 3) (treeT [rA, rB]) = ([⟨78, sha (leafT 0 1 10)⟩], rB) := by
    rw [ex_tree i10 i20]
    unfold proveS
    rw [if_neg (by rw [hb]; decide)]
    rfl
  unfold proofS
  rw [if_neg (by simp), e]
theorem ex_diff : diffS 4 [rA, rB] [rA, rC] = [⟨(0, 2), (true, 20), (true, 21)⟩] := rfl
theorem ex_rises {v v' : Int} (h : Sha.I64 v) (h' : Sha.I64 v') : Lib.RisesS (keysOf [⟨0, 1, v⟩, ⟨0, 2, v'⟩]) := by
  have hok := ex_ok h h'
  refine rises_of_up (fun k hk => ?_) hok.up
  obtain ⟨x, hx, rfl⟩ := List.mem_map.1 hk
  exact (hok.ok x hx).key

/-- Rows that a call takes, laid down by the law. -/
theorem lit_rsl {w : World} {b : Nat} {l : List Rw} (h : Blk w b (rows rwC l)) {n : Nat} (hn : l.length = n) : RSl w 3 (some ⟨b, 0, none⟩) n n (rows rwC l) := by
  have := lent_rsl (ys := []) (c := n) (by rw [List.append_nil]; exact h) hn (Nat.le_refl _)
  exact this
theorem cell_no : zc Tryd.prog 45 = cellC (false, 0) := Sha.zcCell
theorem works_c (w : World) (hT : Tabs w) : Calls Tryd.prog 41 #[] w fun e w' => e = .returned (.bool true) ∧ Tch [] w w' := by
  refine c41 ?_
  unfold d41
  refine ⟨Lib.kC (0, 1), by rw [zcKey]; rfl, rwC rA, by rw [zcRow]; rfl, Lib.kC (0, 2), by rw [zcKey]; rfl, rwC rB, by rw [zcRow]; rfl, rows rwC [rA, rB], by rw [zcRow]; rfl, ?_⟩
  rintro w5 rfl
  have hB : Blk _ _ (rows rwC [rA, rB]) := Blk.fresh w (cs := rows rwC [rA, rB]) 31 rfl
  have t5 := (Tch.refl [] w).alloc (.cells (rows rwC [rA, rB]).toArray 31)
  have s5 := size_alloc w (.cells (rows rwC [rA, rB]).toArray 31)
  generalize w.alloc (.cells (rows rwC [rA, rB]).toArray 31) = w5 at *
  have hok1 := ex_ok i10 i20
  have hok2 := ex_ok i10 i21
  refine (new_c w5 [rA, rB] _ 2 2 (lit_rsl hB rfl) (ok_wf hok1) (by omega) (hT.tch t5)).mono ?_
  rintro e w7 ⟨t7, h7⟩
  rw [if_pos (ex_rises i10 i20)] at h7
  obtain ⟨ta, rfl, hta⟩ := h7
  refine ⟨_, _, rfl, _, rfl, _, rfl, ?_⟩
  refine ⟨Lib.kC (0, 1), by rw [zcKey]; rfl, rwC rA, by rw [zcRow]; rfl, Lib.kC (0, 2), by rw [zcKey]; rfl, rwC rC, by rw [zcRow]; rfl, rows rwC [rA, rC], by rw [zcRow]; rfl, ?_⟩
  rintro w17 rfl
  have hB2 : Blk _ _ (rows rwC [rA, rC]) := Blk.fresh w7 (cs := rows rwC [rA, rC]) 31 rfl
  have t17 := (Tch.refl [] w7).alloc (.cells (rows rwC [rA, rC]).toArray 31)
  have s17 := size_alloc w7 (.cells (rows rwC [rA, rC]).toArray 31)
  generalize w7.alloc (.cells (rows rwC [rA, rC]).toArray 31) = w17 at *
  have t := (t5.trans t7 (by simp)).trans t17 (by simp)
  refine (new_c w17 [rA, rC] _ 2 2 (lit_rsl hB2 rfl) (ok_wf hok2) (by omega) (hT.tch t)).mono ?_
  rintro e w19 ⟨t19, h19⟩
  rw [if_pos (ex_rises i10 i21)] at h19
  obtain ⟨tb, rfl, htb⟩ := h19
  refine ⟨_, _, rfl, _, rfl, _, rfl, ?_⟩
  replace t := t.trans t19 (by simp)
  have s7 := t7.size
  have s19 := t19.size
  have hF : ∀ z, (fun z => z < w19.heap.size) z → z < w19.heap.size := fun z hz => hz
  replace hta : TreeAt (fun z => z < w19.heap.size) w19 ta [rA, rB] := ((hta.tch t17 (by simp)).tch t19 (by simp)).mono fun z hz => by have := hz.2; omega
  replace htb : TreeAt (fun z => z < w19.heap.size) w19 tb [rA, rC] := htb.mono fun z hz => hz.2
  clear hB hB2 t5 t7 t17 t19 s5 s7 s17 s19
  generalize hF0 : (fun z => z < w19.heap.size) = F at *
  refine ⟨fun u => Tch [] w19 u, ?_, ?_⟩
  · rw [show Option.isNone (some (⟨ta, 0, none⟩ : Addr)) = false from rfl, cond_false, show Option.isNone (some (⟨tb, 0, none⟩ : Addr)) = false from rfl, cond_false]
    refine (num_c 0 w19).mono ?_
    rintro e w26 ⟨rfl, rfl⟩
    refine ⟨_, rfl, ?_⟩
    rw [bif_npos rfl]
    refine (num_c 0 w26).mono ?_
    rintro e w29 ⟨rfl, rfl⟩
    refine ⟨_, rfl, ?_⟩
    rw [bif_npos rfl]
    refine (root_c w29 ta _ hta).mono ?_
    rintro e w32 ⟨rfl, t32⟩
    refine ⟨_, rfl, ?_⟩
    refine (root_c w32 tb _ (htb.tch t32 (by simp))).mono ?_
    rintro e w35 ⟨rfl, t35⟩
    refine ⟨_, rfl, ?_⟩
    refine eq_flat_d dig_flat dig_eqT (dig_fits (rootS_len _) (rootS_bytes _)) (dig_fits (rootS_len _) (rootS_bytes _)) (p := False) ⟨fun h => ex_roots (map_u8_inj h), False.elim⟩ ?_
    rw [decide_eq_false not_false, cond_false]
    exact t32.trans t35 (by simp)
  intro w38 t38
  replace hta := hta.tch t38 (by simp)
  replace htb := htb.tch t38 (by simp)
  replace t := t.trans t38 (by simp)
  replace hF : ∀ z, F z → z < w38.heap.size := fun z hz => Nat.lt_of_lt_of_le (hF z hz) t38.size
  clear t38
  refine ⟨Lib.kC (0, 3), by rw [zcKey]; rfl, ?_⟩
  refine (prove_c w38 ta _ hta hok1 hF (by simp) (0, 3)).mono ?_
  rintro e w41 ⟨t41, h41⟩
  rw [if_pos (show Lib.KeyOk (0 : Int) by decide)] at h41
  obtain ⟨pa, pc, rfl, hpo⟩ := h41
  rw [show proofS (keyB ((0 : Int), (3 : Int)).1 ((0 : Int), (3 : Int)).2) [rA, rB] = _ from ex_proof] at hpo ⊢
  generalize hq : (⟨[⟨78, sha (leafT 0 1 10)⟩], true, 0, 2, 20⟩ : Pf) = q at *
  have hqf : q.fs = [⟨78, sha (leafT 0 1 10)⟩] := by rw [← hq]
  have hql : q.fs.length = 1 := by rw [hqf]; rfl
  rw [hql] at hpo ⊢
  refine ⟨_, _, rfl, _, rfl, _, rfl, ?_⟩
  replace hta := hta.tch t41 (by simp)
  replace htb := htb.tch t41 (by simp)
  replace t := t.trans t41 (by simp)
  replace hF : ∀ z, F z → z < w41.heap.size := fun z hz => Nat.lt_of_lt_of_le (hF z hz) t41.size
  clear t41
  have hfr := own_rsl hpo fkCs_one
  have hqok : q.ok := by
    rw [← hq]
    refine ⟨fun f hf => ?_, by unfold Sha.I64; decide, by unfold Sha.I64; decide, by unfold Sha.I64; decide⟩
    rw [List.mem_singleton.1 hf]
    exact ⟨by unfold Sha.I64; decide, sha_length _, sha_bytes _⟩
  have hPf : PfAt w41 pa 1 pc q := ⟨hqok, hfr⟩
  refine var_init (n := 5) (by rw [zcPf2]; rfl) rfl (by intro u hu; simp only [List.mem_cons, List.not_mem_nil, or_false] at hu; rcases hu with rfl | rfl | rfl | rfl | rfl <;> rfl) fun w46 w47 kP t47 s47 => ?_
  replace hta := hta.tch t47 (by simp)
  replace htb := htb.tch t47 (by simp)
  replace t := t.trans t47 (by simp)
  replace hF : ∀ z, F z → z < w47.heap.size := fun z hz => Nat.lt_of_lt_of_le (hF z hz) t47.size
  replace hPf := hPf.quiet t47
  clear t47 hfr hpo
  generalize w41.heap.size = pb at *
  refine ⟨fun u => u = w47, ?_, ?_⟩
  · refine (num_c 0 w47).mono ?_
    rintro e w50 ⟨rfl, rfl⟩
    refine ⟨_, rfl, ?_⟩
    rw [bif_npos rfl]
    refine ⟨pa, 1, pc, by rw [add_mk]; exact kP.cell 0, ?_⟩
    rw [bif_npos (show ((1 : Nat) : Int) = 1 from rfl)]
    refine ⟨pa, 1, pc, by rw [add_mk]; exact kP.cell 0, by omega, by omega, ?_⟩
    obtain ⟨yb, yo, rfl, hc⟩ := hPf.2.elem' (fkC_len hqok.fs) (by omega) (i := 0) (x := ⟨78, sha (leafT 0 1 10)⟩) (by rw [hqf]; rfl)
    refine ⟨78, by rw [add_mk, add_mk]; exact cells_get hc (i := 0) rfl, ?_⟩
    rw [bif_npos rfl]
    refine ⟨true, by rw [add_mk]; rw [show true = q.leaf by rw [← hq]]; exact kP.cell 1, ?_⟩
    rw [Bool.not_true, cond_false]
    refine ⟨20, by rw [add_mk, add_mk]; rw [show (20 : Int) = q.v by rw [← hq]]; exact kP.cell 4, ?_⟩
    rw [bif_npos rfl]
  intro w58 hw
  rw [hw]
  clear hw w58
  have hver : verS (rootS [rA, rB]) 0 3 q = (no, 0) := by
    have := own_proof hok1 (k := ((0 : Int), (3 : Int))) (by decide) (by unfold Sha.I64; decide)
    rw [show proofS (keyB ((0 : Int), (3 : Int)).1 ((0 : Int), (3 : Int)).2) [rA, rB] = _ from ex_proof, hq] at this
    exact this
  refine ⟨fun f c u => ∃ cb, f = 0 ∧ c = some ⟨cb, 0, none⟩ ∧ Blk u cb (cellC no) ∧ Tch [] w47 u, ?_, ?_⟩
  · rintro w60 rfl
    have td := (Tch.refl [] w47).drew
    have rk : ∀ u, Tch [] w47 u → Calls Tryd.prog 32 #[.pointer (some ⟨ta, 0, none⟩)] u fun e w' => e = .returned (.agg (u8 (rootS [rA, rB])).toArray) ∧ Tch [] u w' := fun u tu => root_c u ta _ (hta.tch tu (by simp))
    have vk : ∀ u, Tch [] w47 u → Calls Tryd.prog 18 #[.agg (u8 (rootS [rA, rB])).toArray, .agg (Lib.kC (0, 3)).toArray, .agg (pfC pa 1 pc q).toArray] u fun e w' => e = .returned (.tuple #[.agg (cellC no).toArray, .int .i64 0]) ∧ Tch [] u w' := fun u tu =>
      (verify_c u (rootS [rA, rB]) 0 3 (rootS_len _) (rootS_bytes _) (by unfold Sha.I64; decide) (by unfold Sha.I64; decide) q pa 1 pc (hPf.quiet tu) (by omega) (hT.tch (t.trans tu (by simp)))).mono fun e w' h => by
        unfold VerR at h
        rw [hver] at h
        exact h
    have kp : ∀ u, Tch [] w47 u → Blk u pb (pfC pa 1 pc q) := fun u tu => kP.tch tu (by simp)
    have c1 : ∀ u ∈ cellC no, one u = true := by simp [one]
    refine ⟨Lib.kC (0, 3), by rw [zcKey]; rfl, ?_⟩
    refine get_all (kp _ td) rfl ?_
    refine ⟨?_, ?_⟩
    · refine (rk _ td).mono ?_
      rintro e w64 ⟨rfl, t64⟩
      have q64 := td.trans t64 (by simp)
      refine ⟨_, rfl, get_all (kp _ q64) rfl ⟨rfl, rfl⟩, ?_, ?_⟩
      · refine (vk _ q64).mono ?_
        rintro e w68 ⟨rfl, t68⟩
        have q68 := q64.trans t68 (by simp)
        refine ⟨_, _, rfl, _, rfl, _, rfl, ?_⟩
        refine var_init (n := 2) (by rw [cell_no]; rfl) rfl c1 fun w73 w74 kc t74 s74 => ?_
        exact ⟨_, rfl, rfl, kc, q68.trans t74 (by simp)⟩
      · rintro w75 rfl
        have hN := Blk.fresh w64 (cs := zc Tryd.prog 45) 45 rfl
        have q75 := q64.trans ((Tch.refl [] w64).alloc (.cells (zc Tryd.prog 45).toArray 45)) (by simp)
        have g64 := q64.size
        generalize w64.alloc (.cells (zc Tryd.prog 45).toArray 45) = w75 at *
        refine ⟨get_all (kp _ q75) rfl ⟨rfl, rfl⟩, ?_⟩
        refine (vk _ q75).mono ?_
        rintro e w78 ⟨rfl, t78⟩
        refine ⟨_, _, rfl, _, rfl, _, rfl, ?_⟩
        refine put_all (n := 2) (hN.tch t78 (by simp)) (by rw [cell_no]; rfl) rfl c1 fun w83 kc t83 _ => ?_
        exact ⟨_, rfl, rfl, kc, (q75.trans t78 (by simp)).trans t83 fun k hk => .inr (by simp at hk; omega)⟩
    · rintro w84 rfl
      have hN := Blk.fresh w47.drew (cs := zc Tryd.prog 45) 45 rfl
      have q84 := td.trans ((Tch.refl [] w47.drew).alloc (.cells (zc Tryd.prog 45).toArray 45)) (by simp)
      have gd := td.size
      generalize w47.drew.alloc (.cells (zc Tryd.prog 45).toArray 45) = w84 at *
      refine ⟨get_all (kp _ q84) rfl ⟨rfl, rfl⟩, ?_⟩
      refine (rk _ q84).mono ?_
      rintro e w87 ⟨rfl, t87⟩
      have q87 := q84.trans t87 (by simp)
      refine ⟨_, rfl, get_all (kp _ q87) rfl ⟨rfl, rfl⟩, ?_⟩
      refine (vk _ q87).mono ?_
      rintro e w91 ⟨rfl, t91⟩
      refine ⟨_, _, rfl, _, rfl, _, rfl, ?_⟩
      refine put_all (n := 2) ((hN.tch t87 (by simp)).tch t91 (by simp)) (by rw [cell_no]; rfl) rfl c1 fun w96 kc t96 _ => ?_
      exact ⟨_, rfl, rfl, kc, (q87.trans t91 (by simp)).trans t96 fun k hk => .inr (by simp at hk; omega)⟩
  rintro w97 f c ⟨cb, rfl, rfl, kc, t97⟩
  have q97 := t.trans t97 (by simp)
  have hF97 : ∀ z, F z → z < w97.heap.size := fun z hz => Nat.lt_of_lt_of_le (hF z hz) t97.size
  refine (diff_c w97 ta tb [rA, rB] [rA, rC] (hta.tch t97 (by simp)) (htb.tch t97 (by simp)) hok1 hok2 hF97 hF97 (by simp)).mono ?_
  rintro e w101 ⟨da, dc, rfl, hd, t101⟩
  rw [show diffS ([rA, rB].length + [rA, rC].length) [rA, rB] [rA, rC] = _ from ex_diff] at hd ⊢
  refine ⟨_, _, _, rfl, ?_⟩
  refine (num_c 0 w101).mono ?_
  rintro e w104 ⟨rfl, rfl⟩
  refine ⟨_, rfl, ?_⟩
  rw [bif_pos rfl]
  refine ⟨false, by rw [add_mk]; exact (kc.tch t101 (by simp)).cell 0, ?_⟩
  rw [Bool.not_false, cond_true, bif_pos (by rfl)]
  have hdr := own_rsl hd chCs_one
  obtain ⟨yb, yo, rfl, hc⟩ := hdr.elem' (f := chC) chC_len (by omega) (i := 0) (x := ⟨(0, 2), (true, 20), (true, 21)⟩) rfl
  refine ⟨by omega, by simp, Lib.kC (0, 2), rfl, ?_, Lib.kC (0, 2), by rw [zcKey]; rfl, ?_⟩
  · rw [add_mk, add_mk]
    exact cells_part hc 0 2
  · refine eq_flat_d Lib.key_flat Lib.key_eqT (Lib.key_fits (k := ((0 : Int), (2 : Int))) ⟨by unfold Lib.I64; decide, by unfold Lib.I64; decide⟩) (Lib.key_fits (k := ((0 : Int), (2 : Int))) ⟨by unfold Lib.I64; decide, by unfold Lib.I64; decide⟩) (p := True) ⟨fun _ => trivial, fun _ => rfl⟩ ?_
    rw [decide_eq_true trivial]
    exact ⟨rfl, q97.trans t101 (by simp)⟩
end Go.Proofs.YtjkbjppopdfggaaDoor.Tre
namespace Go.Proofs.YtjkbjppopdfggaaDoor.Tre
open Go Den Fn Sha
open Go.RowKit (Below)
open Classical
set_option maxRecDepth 8000
set_option maxHeartbeats 4000000
theorem nodesL_append_ok {x y : List Rw} (hx : RowsOk x) (hy : RowsOk y) : ∀ n ∈ nodesL x ++ nodesL y, n.ok := fun n hn => by
  rcases List.mem_append.1 hn with hn | hn
  · exact nodesL_ok hx n hn
  · exact nodesL_ok hy n hn
/-- What stands behind the first part of a law over two trees. -/
structure RL (W : World) (x y : List Rw) (ta tb : Nat) (xa : Option Addr) (xn xc : Nat) (ya : Option Addr) (yn yc : Nat) (F : Nat → Prop) (u : World) : Prop where
  tx : TreeAt F u ta x
  ty : TreeAt F u tb y
  hF : ∀ z, F z → z < u.heap.size
  rx : RSl u 3 xa xn xc (rows rwC x)
  ry : RSl u 3 ya yn yc (rows rwC y)
  tch : Tch [] W u
theorem RL.quiet {W u u' : World} {x y : List Rw} {ta tb xn xc yn yc : Nat} {xa ya : Option Addr} {F : Nat → Prop} (h : RL W x y ta tb xa xn xc ya yn yc F u) (ht : Tch [] u u') : RL W x y ta tb xa xn xc ya yn yc F u' :=
  ⟨h.tx.tch ht (by simp), h.ty.tch ht (by simp), fun z hz => Nat.lt_of_lt_of_le (h.hF z hz) ht.size, h.rx.tch ht (fun _ _ h => by cases h), h.ry.tch ht (fun _ _ h => by cases h), h.tch.trans ht (by simp)⟩
/-- Nodes of two lists of rows, put together, their texts, and whether two collide. -/
theorem collide_k {W u : World} {x y : List Rw} {ta tb xn xc yn yc : Nat} {xa ya : Option Addr} {F : Nat → Prop} (h : RL W x y ta tb xa xn xc ya yn yc F u) (hx : RowsOk x) (hy : RowsOk y) (hxl : x.length ≤ 300) (hyl : y.length ≤ 300) (hcol : collideS (textsS (nodesL x ++ nodesL y)))
    {K : Ending → World → Prop} (hK : ∀ w', Tch [] W w' → K (.returned (.bool true)) w') :
    Calls Tryd.prog 30 #[.slice xa xn xc] u fun e58 w59 => ∃ (x60 : Option Addr) (x60n : Nat) (x60c : Nat), e58 = .returned (.slice x60 x60n x60c) ∧
      Calls Tryd.prog 30 #[.slice ya yn yc] w59 fun e61 w62 => ∃ (x63 : Option Addr) (x63n : Nat) (x63c : Nat), e61 = .returned (.slice x63 x63n x63c) ∧
      RunV Tryd.prog (Builtin.append_ #[52, 52] 52 #[.slice x60 x60n x60c, .slice x63 x63n x63c]) w62 fun v64 w65 => ∃ (x66 : Option Addr) (x66n : Nat) (x66c : Nat), v64 = (.slice x66 x66n x66c) ∧
      Calls Tryd.prog 38 #[.slice x66 x66n x66c] w65 fun e67 w68 => ∃ (x69 : Option Addr) (x69n : Nat) (x69c : Nat), e67 = .returned (.slice x69 x69n x69c) ∧
      Calls Tryd.prog 37 #[.slice x69 x69n x69c] w68 fun e70 w71 => ∃ x72 : Bool, e70 = .returned (.bool x72) ∧ K (.returned (.bool x72)) w71 := by
  have l1 := nodesL_len hx
  have l2 := nodesL_len hy
  refine (nodesO_c x.length u x xa xn xc (Nat.le_refl _) h.rx hx (by omega)).mono ?_
  rintro e w59 ⟨na, nc, rfl, ho, t59⟩
  refine ⟨_, _, _, rfl, ?_⟩
  have h59 := h.quiet t59
  refine (nodes_c y.length w59 y ya yn yc (Nat.le_refl _) h59.ry hy (by omega)).mono ?_
  rintro e w62 ⟨ma, mc, rfl, hm, t62⟩
  refine ⟨_, _, _, rfl, ?_⟩
  have h62 := h59.quiet t62
  have t6 := (t59.trans t62 (by simp))
  refine app_at ndT (own_up ho t62 (fun _ _ h => by cases h)) hm t6.size (by omega) (by omega) fun a' c' w65 ho' t65 _ => ?_
  have q65 : Tch [] u w65 := t6.trans t65 fun k hk => .inr (by
    rw [mem_rowL] at hk
    obtain ⟨z, hz, rfl⟩ := hk
    exact (own_ge ho z hz).1)
  have h65 := h.quiet q65
  rw [← rows_append] at ho'
  have hlen : (nodesL x).length + (nodesL y).length = (nodesL x ++ nodesL y).length := by rw [List.length_append]
  rw [hlen] at ho' ⊢
  refine (texts_c w65 (nodesL x ++ nodesL y) a' _ c' (own_rsl ho' ndCs_one) (nodesL_append_ok hx hy) (by rw [← hlen]; omega)).mono ?_
  rintro e w68 ⟨b, c2, rfl, hta, t68⟩
  refine ⟨_, _, _, rfl, ?_⟩
  have htl := textsS_len (nodesL x ++ nodesL y)
  refine (collide_c w68 (textsS (nodesL x ++ nodesL y)) b c2 hta (textsS_ok (nodesL_append_ok hx hy)) (by rw [← hlen] at htl; omega)).mono ?_
  rintro e w71 ⟨rfl, t71⟩
  refine ⟨_, rfl, ?_⟩
  rw [decide_eq_true hcol]
  exact hK _ (((h.tch.trans q65 (by simp)).trans t68 (by simp)).trans t71 (by simp))
/-- Two trees, laid down by a law: rows are taken few, brought to a set, lent, and two trees stand. -/
theorem two_trees {W : World} (a b : List Rw) (pa : Option Addr) (na ca : Nat) (pb : Option Addr) (nb cb : Nat) (hra : RSl W 3 pa na ca (rows rwC a)) (hrb : RSl W 3 pb nb cb (rows rwC b)) (ha : ∀ x ∈ a, x.wf) (hb : ∀ x ∈ b, x.wf) (hT : Tabs W)
    {K : Option Addr → Nat → Nat → Option Addr → Nat → Nat → Addr → Addr → World → Prop}
    (hK : ∀ (x y : List Rw) (ta tb : Nat) (xa : Option Addr) (xc : Nat) (ya : Option Addr) (yc : Nat) (F : Nat → Prop) (u : World), RowsOk x → RowsOk y → x.length ≤ 300 → y.length ≤ 300 → RL W x y ta tb xa x.length xc ya y.length yc F u → K xa x.length xc ya y.length yc ⟨ta, 0, none⟩ ⟨tb, 0, none⟩ u) :
    Calls Tryd.prog 22 #[.slice pa na ca] W fun e5 w6 => ∃ (x7 : Option Addr) (x7n : Nat) (x7c : Nat), e5 = .returned (.slice x7 x7n x7c) ∧
      Calls Tryd.prog 21 #[.slice x7 x7n x7c] w6 fun e8 w9 => ∃ (x10 : Option Addr) (x10n : Nat) (x10c : Nat), e8 = .returned (.slice x10 x10n x10c) ∧
      Calls Tryd.prog 22 #[.slice pb nb cb] w9 fun e11 w12 => ∃ (x13 : Option Addr) (x13n : Nat) (x13c : Nat), e11 = .returned (.slice x13 x13n x13c) ∧
      Calls Tryd.prog 21 #[.slice x13 x13n x13c] w12 fun e14 w15 => ∃ (x16 : Option Addr) (x16n : Nat) (x16c : Nat), e14 = .returned (.slice x16 x16n x16c) ∧
      Calls Tryd.prog 24 #[.slice x10 x10n x10c] w15 fun e17 w18 => ∃ (x19 : Option Addr) (x19n : Nat) (x19c : Nat), e17 = .returned (.slice x19 x19n x19c) ∧
      Calls Tryd.prog 23 #[.slice x19 x19n x19c] w18 fun e20 w21 => ∃ x22 : Option Addr, ∃ x23 : Int, e20 = .returned (.tuple #[.pointer x22, .int .i64 x23]) ∧
      ∃ x24 : Option Addr, (#[.pointer x22, .int .i64 x23] : Array Value)[0]? = some (.pointer x24) ∧
      ∃ x25 : Int, (#[.pointer x22, .int .i64 x23] : Array Value)[1]? = some (.int .i64 x25) ∧
      Calls Tryd.prog 24 #[.slice x16 x16n x16c] w21 fun e26 w27 => ∃ (x28 : Option Addr) (x28n : Nat) (x28c : Nat), e26 = .returned (.slice x28 x28n x28c) ∧
      Calls Tryd.prog 23 #[.slice x28 x28n x28c] w27 fun e29 w30 => ∃ x31 : Option Addr, ∃ x32 : Int, e29 = .returned (.tuple #[.pointer x31, .int .i64 x32]) ∧
      ∃ x33 : Option Addr, (#[.pointer x31, .int .i64 x32] : Array Value)[0]? = some (.pointer x33) ∧
      ∃ x34 : Int, (#[.pointer x31, .int .i64 x32] : Array Value)[1]? = some (.int .i64 x34) ∧
      ∃ (A B : Addr), x24 = some A ∧ x33 = some B ∧ x25 = 0 ∧ x34 = 0 ∧ K x10 x10n x10c x16 x16n x16c A B w30 := by
  refine (few_c W a pa na ca hra).mono ?_
  rintro e w3 ⟨a1, c1, rfl, hr1, hw⟩
  rw [hw] at hr1 ⊢
  clear hw
  refine ⟨_, _, _, rfl, ?_⟩
  have hl1 : (a.take 300).length ≤ 300 := by rw [List.length_take]; omega
  refine (set_c W (a.take 300) a1 _ c1 hr1 (by omega)).mono ?_
  rintro e w6 ⟨a2, c2, rfl, hx, t6⟩
  refine ⟨_, _, _, rfl, ?_⟩
  refine (few_c w6 b pb nb cb (hrb.tch t6 (fun _ _ h => by cases h))).mono ?_
  rintro e w9 ⟨a3, c3, rfl, hr3, hw⟩
  rw [hw] at hr3 ⊢
  clear hw
  refine ⟨_, _, _, rfl, ?_⟩
  have hl3 : (b.take 300).length ≤ 300 := by rw [List.length_take]; omega
  refine (set_c w6 (b.take 300) a3 _ c3 hr3 (by omega)).mono ?_
  rintro e w12 ⟨a4, c4, rfl, hy, t12⟩
  refine ⟨_, _, _, rfl, ?_⟩
  replace hx := hx.tch t12 (fun _ _ h => by cases h)
  have t := t6.trans t12 (by simp)
  have hXr := setS_rises (a.take 300)
  have hYr := setS_rises (b.take 300)
  have hXl := setS_len (a.take 300)
  have hYl := setS_len (b.take 300)
  have hXw : ∀ x ∈ setS (a.take 300), x.wf := fun x hx => ha x (List.mem_of_mem_take (setS_mem x hx))
  have hYw : ∀ x ∈ setS (b.take 300), x.wf := fun x hx => hb x (List.mem_of_mem_take (setS_mem x hx))
  generalize setS (a.take 300) = X at *
  generalize setS (b.take 300) = Y at *
  have hXo := rowsOk_of hXw hXr
  have hYo := rowsOk_of hYw hYr
  refine (lent_c w12 X a2 _ c2 hx (by omega)).mono ?_
  rintro e w15 ⟨rfl, k15, t15, s15⟩
  refine ⟨_, _, _, rfl, ?_⟩
  refine (new_c w15 X _ _ _ (lent_rsl k15 rfl (by omega)) hXw (by omega) (hT.tch (t.trans t15 (by simp)))).mono ?_
  rintro e w18 ⟨t18, h18⟩
  rw [if_pos hXr] at h18
  obtain ⟨ta, rfl, hta⟩ := h18
  refine ⟨_, _, rfl, _, rfl, _, rfl, ?_⟩
  have q18 := t15.trans t18 (by simp)
  replace t := t.trans q18 (by simp)
  replace hy := hy.tch q18 (fun _ _ h => by cases h)
  replace hx := hx.tch q18 (fun _ _ h => by cases h)
  have s18 := t18.size
  refine (lent_c w18 Y a4 _ c4 hy (by omega)).mono ?_
  rintro e w24 ⟨rfl, k24, t24, s24⟩
  refine ⟨_, _, _, rfl, ?_⟩
  refine (new_c w24 Y _ _ _ (lent_rsl k24 rfl (by omega)) hYw (by omega) (hT.tch (t.trans t24 (by simp)))).mono ?_
  rintro e w27 ⟨t27, h27⟩
  rw [if_pos hYr] at h27
  obtain ⟨tb, rfl, htb⟩ := h27
  refine ⟨_, _, rfl, _, rfl, _, rfl, _, _, rfl, rfl, rfl, rfl, ?_⟩
  have q27 := t24.trans t27 (by simp)
  replace t := t.trans q27 (by simp)
  replace hy := hy.tch q27 (fun _ _ h => by cases h)
  replace hx := hx.tch q27 (fun _ _ h => by cases h)
  have s27 := q27.size
  exact hK X Y ta tb a2 c2 a4 c4 (fun z => z < w27.heap.size) w27 hXo hYo (by omega) (by omega) ⟨(hta.tch q27 (by simp)).mono fun z hz => by have := hz.2; omega, htb.mono fun z hz => hz.2, fun z hz => hz, hx, hy, t⟩
theorem roots_law (W : World) (a b : List Rw) (pa : Option Addr) (na ca : Nat) (pb : Option Addr) (nb cb : Nat) (hra : RSl W 3 pa na ca (rows rwC a)) (hrb : RSl W 3 pb nb cb (rows rwC b)) (ha : ∀ x ∈ a, x.wf) (hb : ∀ x ∈ b, x.wf) (hT : Tabs W) :
    Calls Tryd.prog 9 #[.slice pa na ca, .slice pb nb cb] W fun e w' => e = .returned (.bool true) ∧ Tch [] W w' := by
  refine c9 _ _ _ _ _ _ ?_
  unfold d9
  refine (works_c W hT).mono ?_
  rintro e w3 ⟨rfl, t3⟩
  refine ⟨_, rfl, ?_⟩
  rw [Bool.not_true, cond_false]
  refine (two_trees a b pa na ca pb nb cb (hra.tch t3 (fun _ _ h => by cases h)) (hrb.tch t3 (fun _ _ h => by cases h)) ha hb (hT.tch t3)
    (K := fun x10 x10n x10c x16 x16n x16c A B w30 => (∃ (x y : List Rw) (ta tb : Nat) (F : Nat → Prop), A = ⟨ta, 0, none⟩ ∧ B = ⟨tb, 0, none⟩ ∧ RowsOk x ∧ RowsOk y ∧ x.length ≤ 300 ∧ y.length ≤ 300 ∧ x10n = x.length ∧ x16n = y.length ∧ RL w3 x y ta tb x10 x10n x10c x16 x16n x16c F w30))
    (fun x y ta tb xa xc ya yc F u h1 h2 h3 h4 h5 => ⟨x, y, ta, tb, F, rfl, rfl, h1, h2, h3, h4, rfl, rfl, h5⟩)).mono ?_
  rintro e w6 ⟨x7, x7n, x7c, he, h⟩
  refine ⟨x7, x7n, x7c, he, h.mono ?_⟩
  rintro e w9 ⟨x10, x10n, x10c, he, h⟩
  refine ⟨x10, x10n, x10c, he, h.mono ?_⟩
  rintro e w12 ⟨x13, x13n, x13c, he, h⟩
  refine ⟨x13, x13n, x13c, he, h.mono ?_⟩
  rintro e w15 ⟨x16, x16n, x16c, he, h⟩
  refine ⟨x16, x16n, x16c, he, h.mono ?_⟩
  rintro e w18 ⟨x19, x19n, x19c, he, h⟩
  refine ⟨x19, x19n, x19c, he, h.mono ?_⟩
  rintro e w21 ⟨x22, x23, he, x24, h24, x25, h25, h⟩
  refine ⟨x22, x23, he, x24, h24, x25, h25, h.mono ?_⟩
  rintro e w27 ⟨x28, x28n, x28c, he, h⟩
  refine ⟨x28, x28n, x28c, he, h.mono ?_⟩
  rintro e w30 ⟨x31, x32, he9, x33, h33, x34, h34, _, _, rfl, rfl, rfl, rfl, x, y, ta, tb, F, rfl, rfl, hx, hy, hxl, hyl, rfl, rfl, hL⟩
  refine ⟨x31, x32, he9, _, h33, _, h34, ?_⟩
  clear he9 h h24 h25 h33 h34
  refine ⟨fun u => Tch [] w30 u, ?_, ?_⟩
  · rw [show Option.isNone (some (⟨ta, 0, none⟩ : Addr)) = false from rfl, cond_false, show Option.isNone (some (⟨tb, 0, none⟩ : Addr)) = false from rfl, cond_false]
    refine (num_c 0 w30).mono ?_
    rintro e w34 ⟨rfl, rfl⟩
    refine ⟨_, rfl, ?_⟩
    rw [bif_npos rfl]
    refine (num_c 0 w34).mono ?_
    rintro e w37 ⟨rfl, rfl⟩
    refine ⟨_, rfl, ?_⟩
    rw [bif_npos rfl]
    exact Tch.refl _ _
  rintro w42 t42 w43 rfl
  replace hL := hL.quiet (t42.trans (Tch.refl [] w42).drew (by simp))
  clear t42
  generalize w42.drew = w43 at *
  refine (root_c w43 ta _ hL.tx).mono ?_
  rintro e w45 ⟨rfl, t45⟩
  refine ⟨_, rfl, ?_⟩
  replace hL := hL.quiet t45
  refine (root_c w45 tb _ hL.ty).mono ?_
  rintro e w48 ⟨rfl, t48⟩
  refine ⟨_, rfl, ?_⟩
  replace hL := hL.quiet t48
  have hiff : u8 (rootS x) = u8 (rootS y) ↔ rootS x = rootS y := ⟨map_u8_inj, fun h => by rw [h]⟩
  refine eq_flat_d dig_flat dig_eqT (dig_fits (rootS_len _) (rootS_bytes _)) (dig_fits (rootS_len _) (rootS_bytes _)) (p := rootS x = rootS y) hiff ?_
  refine (sameRows_c w48 x y x10 _ x10c x16 _ x16c hL.rx hL.ry (ok_wf hx) (ok_wf hy) (by omega)).mono ?_
  rintro e w52 ⟨rfl, t52⟩
  refine ⟨_, rfl, ?_⟩
  replace hL := hL.quiet t52
  refine ⟨eq_flat_d dig_flat dig_eqT (dig_fits (rootS_len _) (rootS_bytes _)) (dig_fits (rootS_len _) (rootS_bytes _)) (p := rootS x = rootS y) hiff ⟨rfl, rfl⟩, ?_⟩
  have fin : ∀ w', Tch [] w3 w' → (fun e w' => e = Ending.returned (.bool true) ∧ Tch [] W w') (.returned (.bool true)) w' := fun w' ht => ⟨rfl, t3.trans ht (by simp)⟩
  by_cases hxy : x = y
  · subst hxy
    rw [decide_eq_true rfl, decide_eq_true rfl]
    exact fin _ hL.tch
  rw [decide_eq_false hxy]
  by_cases hr : rootS x = rootS y
  rotate_left
  · rw [decide_eq_false hr]
    exact fin _ hL.tch
  rw [decide_eq_true hr, show (true == false) = false from rfl, cond_false]
  refine (sameRows_c w52 x y x10 _ x10c x16 _ x16c hL.rx hL.ry (ok_wf hx) (ok_wf hy) (by omega)).mono ?_
  rintro e w56 ⟨rfl, t56⟩
  refine ⟨_, rfl, ?_⟩
  replace hL := hL.quiet t56
  rw [decide_eq_false hxy, Bool.not_false, cond_true]
  exact collide_k (K := fun e w' => e = .returned (.bool true) ∧ Tch [] W w') hL hx hy hxl hyl (roots_collide hx hy hr hxy) fin
end Go.Proofs.YtjkbjppopdfggaaDoor.Tre
namespace Go.Proofs.YtjkbjppopdfggaaDoor.RootsCard
open Go Den Fn Sha Tre
open Go.ChangeShapes Go.WideShapes Go.ChangeAt Go.RowKit
theorem params : Tryd.f9.params = #[55, 55] := by kernel_rfl
set_option maxRecDepth 100000 in
theorem contract (H : Type) (enc : TypeId × Value → H) (W : World) (base : Nat) (args : Array Value) (ds gs : List (DataW H)) (before : List MemPlace)
    (hval : ∀ (j : Nat) t v, Tryd.f9.params[j]? = some t → args[j]? = some v → Value.okWide Tryd.prog W .any base t v)
    (hW : DataW.Whole enc Tryd.prog Tryd.f9.params.toList Rows.proofRootsSpec.vars false W args.toList ds gs before)
    (hL : laidMetH Tryd.prog Rows.proofRootsRow.laid W) :
    Calls Tryd.prog 9 args W fun e W' => ∃ v, e = .returned v ∧ Rows.proofRootsSpec.post enc Tryd.prog Tryd.f9 false true false false W args v W' := by
  have hW' := hW
  obtain ⟨p, q, hA0, hV, rfl, hfz, hnd⟩ := hW
  have hA : DataW.TrodAll enc Tryd.prog W 0 (fun _ => true) true Tryd.f9.params.toList args.toList ds p := hA0
  rw [params] at hA hval
  obtain ⟨v0, vs0, d0, ds0, p0, q0, hargs, rfl, rfl, h0, r0⟩ := trodAll_cons hA
  obtain ⟨v1, vs1, d1, ds1, p1, q1, rfl, rfl, rfl, h1, r1⟩ := trodAll_cons r0
  obtain ⟨rfl, rfl, rfl⟩ := trodAll_nil r1
  obtain rfl : args = #[v0, v1] := by cases args; simp_all
  obtain ⟨rfl, rfl⟩ := trodVars_none hV
  obtain ⟨a, na, ca, la, rfl, hra, hla⟩ := rows_open (open_slR uRows rowsShape (hval 0 55 v0 rfl rfl) h0)
  obtain ⟨b, nb, cb, lb, rfl, hrb, hlb⟩ := rows_open (open_slR uRows rowsShape (hval 1 55 v1 rfl rfl) h1)
  refine (roots_law W la lb a na ca b nb cb hra hrb hla hlb (laidTabs hL)).mono fun e W' ⟨he, hb⟩ => ?_
  subst he
  exact ⟨_, rfl, post_true laidOk (by rw [params]; intro t ht; simp at ht; subst ht; exact ⟨by kernel_rfl, of_decide_eq_true (by kernel_rfl)⟩) uBool (by kernel_rfl) hW' rfl ⟨rfl, rfl, rfl⟩ hb.below⟩

theorem laid_met (os : Os) : laidMet Tryd.prog Rows.proofRootsRow.laid ((laidWorld os).forCall (fun _ _ => 0) ⟨#[], #[.slice none 0 0, .slice none 0 0], []⟩).memory :=
  laidMet_of_run' 8 (by kernel_rfl) (by kernel_rfl)
theorem reads (os : Os) {H : Type} (enc : TypeId × Value → H) : ∃ places, DataW.whole enc Tryd.prog ((laidWorld os).forCall (fun _ _ => 0) ⟨#[], #[.slice none 0 0, .slice none 0 0], []⟩).memory Tryd.f9.params.toList Rows.proofRootsSpec.vars false #[Value.slice none 0 0, Value.slice none 0 0].toList 8 = some ([.nil, .nil], [], places) :=
  ⟨[], by kernel_rfl⟩

set_option maxRecDepth 100000 in
theorem lifted (os : Os) (started : os.Started) (H : Type) (enc : TypeId × Value → H) (F : Stop.Interp) :
    ReturnsInHanded {} Tryd.checked os 9 .any ((OpenSpec.ofChange Rows.proofRootsSpec).preRow enc Tryd.prog Tryd.f9 Rows.proofRootsRow.domain false Rows.proofRootsRow.laid) (((OpenSpec.ofChange Rows.proofRootsSpec).at F).post enc Tryd.prog Tryd.f9 false true false false) := by
  obtain ⟨places, hx⟩ := reads os enc
  refine returnsInHanded_of_row (C := Tryd.checked) (s := OpenSpec.ofChange Rows.proofRootsSpec) own started (by kernel_rfl) Tryd.func9
    (witness_row_at (enc := enc) (C := Tryd.checked) false (laidWorld os) #[.slice none 0 0, .slice none 0 0] rfl (by kernel_rfl) (by kernel_rfl) (by kernel_rfl)
      (OpenSpec.preRow_of_cond 8 hx (by kernel_rfl) (fun k hk => by cases hk) (by kernel_rfl) (laid_met os))) ?_
  intro W base args ds gs before hval hW _ _ _ hL _ _
  exact contract H enc W base args ds gs before hval hW hL

theorem said : Rows.ProofRootsSaid :=
  OpenClaim.holds_of_cond 9 Tryd.f9 rfl rfl rfl rfl rfl rfl rfl ⟨rfl, rfl, rfl, rfl, rfl⟩ rfl rfl rfl rfl rfl (by kernel_rfl) Tryd.func9 (by kernel_rfl)
    (of_decide_eq_true (by kernel_rfl)) (by unfold Func.isWrapper; first | (rw [if_pos (by decide +kernel)]; kernel_rfl) | (rw [if_neg (by decide +kernel)]; exact ⟨rfl, rfl⟩))
    (fun os started H enc _ F => by rw [OpenClaim.pre_eq_preRow]; exact lifted os started H enc F)

theorem plain (f : FuncId) (fn : Func) (hf : Tryd.pinned.checked.prog.funcNamed "prelude/preludelaw24.ProofRoots" = some f) (hfn : Tryd.pinned.checked.prog.funcs[f]? = some fn) :
    false = Tryd.pinned.checked.prog.looks [] ∧ ∀ (j : Nat) t, fn.params[j]? = some t → Tryd.pinned.checked.prog.wantsStandIn t = false := by
  obtain rfl : f = 9 := Option.some.inj ((show Tryd.prog.funcNamed "prelude/preludelaw24.ProofRoots" = some 9 by kernel_rfl).symm.trans hf) |>.symm
  obtain rfl : fn = Tryd.f9 := (Option.some.inj (Tryd.func9.symm.trans hfn)).symm
  refine ⟨by kernel_rfl, fun j t ht => ?_⟩
  rw [params] at ht
  have : t = 55 := by simpa using Array.mem_of_getElem? ht
  subst this
  exact (show Tryd.prog.wantsStandIn 55 = false by kernel_rfl)

/-- The card of ProofRoots. -/
theorem card : Rows.ProofRootsCardSaid :=
  Claim7.holds_tied_plain_at .later [] _ _ _ _ said (fun _ h => by cases h) (by kernel_rfl) (fun _ h => by cases h) proofRoots_row_tie rfl ⟨rfl, rfl⟩ (by kernel_rfl) rfl plain (by kernel_rfl)
end Go.Proofs.YtjkbjppopdfggaaDoor.RootsCard
