/-
  THE LAW ProofCodes: its contract.
  Own work. No macro, syntax, notation, axiom.
-/
import Derived.Test.YtjkbjppopdfggaaCodesL
namespace Go.Proofs.Ytjkbjppopdfggaa.Codes
open Go Den Fn Lib
open Go.RowKit (Below)
open Classical
set_option maxRecDepth 8000
set_option maxHeartbeats 1000000

theorem law_c (w : World) (p : Pf) (a : Option Addr) (n c : Nat) (hp : PfAt w a n c p) (bs : List Int) (b : Option Addr) (bn bc : Nat) (hb : RSl w 1 b bn bc (u8 bs)) (hB : Bytes bs) (hN : bn ≤ 140737488351232) :
    Calls Try.prog 3 #[.agg (pfC a n c p).toArray, .slice b bn bc] w fun e w' => e = .returned (.bool true) ∧ Below w.heap.size w w' := by
  refine c3 _ _ _ _ ?_
  unfold d3
  rintro w2 rfl
  have hS := (St.refl w []).new (pfC a n c p) 28 rfl
  replace hp := hp.quiet hS.tch
  replace hb := quiet' hb hS.tch
  generalize w.alloc (.cells (pfC a n c p).toArray 28) = w2 at *
  generalize hpb : w.heap.size = pb at *
  have fin : ∀ {u : World}, St w [] u [fBlk pb (pfC a n c p)] → (Ending.returned (.bool true) = .returned (.bool true) ∧ Below pb w u) := fun h => ⟨rfl, hpb ▸ h.tch.below⟩
  have hl5 := encS_len hp.ok
  refine get_all (hS.blk (List.mem_singleton.2 rfl)) rfl ?_
  refine (encode_c w2 p a n c hp.ok hp.row).mono ?_
  rintro e w5 ⟨a1, c1, rfl, ho1, ht⟩
  have h1 := own_rsl ho1 ones_ints
  replace hS := hS.quiet ht
  replace hp := hp.quiet ht
  replace hb := quiet' hb ht
  clear ho1 ht
  refine ⟨_, _, _, _, rfl, _, _, _, rfl, _, rfl, ?_⟩
  refine get_all (hS.blk (List.mem_singleton.2 rfl)) rfl ?_
  refine (refEncode_c w5 p a n c hp.ok hp.row).mono ?_
  rintro e w12 ⟨a2, c2, rfl, ho2, ht⟩
  have h2 := own_rsl ho2 ones_ints
  replace h1 := quiet' h1 ht
  replace hS := hS.quiet ht
  replace hp := hp.quiet ht
  replace hb := quiet' hb ht
  clear ho2 ht
  refine ⟨_, _, _, _, rfl, _, _, _, rfl, _, rfl, ?_⟩
  refine ⟨fun u => Tch [] w12 u, ?_, ?_⟩
  · refine (num_c _ w12).mono ?_
    rintro e w19 ⟨rfl, rfl⟩
    refine ⟨_, rfl, ?_⟩
    rw [bif_npos rfl]
    refine (same_c w19 _ _ a1 a2 _ c1 _ c2 h1 h2 (by omega)).mono ?_
    rintro e w22 ⟨rfl, ht⟩
    refine ⟨_, rfl, ?_⟩
    rw [bif_npos rfl]
    exact ht
  intro w24 ht
  replace h1 := quiet' h1 ht
  replace hS := hS.quiet ht
  replace hp := hp.quiet ht
  replace hb := quiet' hb ht
  clear ht h2
  refine ⟨fun u => Tch [] w24 u, ?_, ?_⟩
  · by_cases hg : (encS p).2 = 0
    rotate_left
    · rw [bif_neg hg]
      exact Tch.refl _ _
    rw [bif_pos hg]
    have hgood := (encS_err p).1 hg
    have hBe : Bytes (encS p).1 := by
      unfold encS
      rw [if_pos hgood]
      refine ((uv_bytes _).append (encF_bytes hp.ok.fs hgood.2)).append ?_
      unfold encTail
      split
      · exact (Bytes.append (Bytes.one (by omega) (by omega)) (keyB_bytes _ _)).append (uv_bytes _)
      · exact Bytes.one (by omega) (by omega)
    refine fresh_copy h1 (by omega) fun a3 c3 w28 h3 ht => ?_
    replace hS := hS.quiet ht
    replace hp := hp.quiet ht
    refine (decode_c w28 (encS p).1 a3 _ c3 h3 hBe (by omega)).mono ?_
    rintro e w31 hd
    obtain ⟨qa, qn, qc, rfl, hq, hq80, ht2⟩ := hd.view hBe
    rw [dec_enc hp.ok hgood, show decP (some p) = (p, 0) from rfl] at hq ⊢
    simp only at hq ⊢
    replace hS := hS.quiet ht2
    replace hp := hp.quiet ht2
    replace ht := ht.trans ht2 (by simp)
    clear ht2 hd
    refine ⟨_, _, rfl, _, rfl, _, rfl, ?_⟩
    refine var_init (n := 5) (by rw [zcPf]; rfl) rfl (by simp [one]) fun w36 w37 k1 k2 _ => ?_
    replace hS := hS.quiet k2
    replace hp := hp.quiet k2
    replace hq := hq.quiet k2
    replace ht := ht.trans k2 (by simp)
    refine (num_c _ w37).mono ?_
    rintro e w39 ⟨rfl, rfl⟩
    refine ⟨_, rfl, ?_⟩
    rw [bif_npos rfl]
    refine get_all k1 rfl ?_
    refine get_all (hS.blk (List.mem_singleton.2 rfl)) rfl ?_
    have hn80 : n ≤ 80 := by rw [← hp.count]; exact hgood.1.1
    refine (samePf_c w39 p p qa a qn qc n c hq hp (by omega) (by omega)).mono ?_
    rintro e w44 ⟨rfl, ht4⟩
    refine ⟨_, rfl, ?_⟩
    rw [bif_npos rfl]
    exact ht.trans ht4 (by simp)
  intro w46 ht
  replace hS := hS.quiet ht
  replace hb := quiet' hb ht
  clear ht h1 hp hl5
  refine fresh_copy hb hN fun a3 c3 w49 h3 ht => ?_
  replace hS := hS.quiet ht
  replace hb := quiet' hb ht
  clear ht
  refine (decode_c w49 bs a3 _ c3 h3 hB hN).mono ?_
  rintro e w52 hd
  obtain ⟨qa, qn, qc, rfl, hq, hq80, ht⟩ := hd.view hB
  replace hS := hS.quiet ht
  replace hb := quiet' hb ht
  clear ht h3 hd
  refine ⟨_, _, rfl, _, rfl, _, rfl, ?_⟩
  refine var_init (n := 5) (by rw [zcPf]; rfl) rfl (by simp [one]) fun w57 w58 k1 ht _ => ?_
  generalize w52.heap.size = xb at *
  replace hS := hS.quiet ht
  replace hb := quiet' hb ht
  replace hq := hq.quiet ht
  clear ht
  refine (refDecode_c w58 bs b _ bc hb hB hN).mono ?_
  rintro e w60 hd
  obtain ⟨ra, rn, rc, rfl, hr, hr80, ht⟩ := hd.view hB
  replace hS := hS.quiet ht
  replace hb := quiet' hb ht
  replace hq := hq.quiet ht
  replace k1 := k1.tch ht (by simp)
  clear ht hd
  refine ⟨_, _, rfl, _, rfl, _, rfl, ?_⟩
  refine var_init (n := 5) (by rw [zcPf]; rfl) rfl (by simp [one]) fun w65 w66 k2 ht _ => ?_
  generalize w60.heap.size = yb at *
  replace hS := hS.quiet ht
  replace hb := quiet' hb ht
  replace hq := hq.quiet ht
  replace hr := hr.quiet ht
  replace k1 := k1.tch ht (by simp)
  clear ht
  refine ⟨fun u => Tch [] w66 u, ?_, ?_⟩
  · refine (num_c _ w66).mono ?_
    rintro e w69 ⟨rfl, rfl⟩
    refine ⟨_, rfl, ?_⟩
    rw [bif_npos rfl]
    refine get_all k1 rfl ?_
    refine get_all k2 rfl ?_
    refine (samePf_c w69 (decP (decS bs)).1 (decP (decS bs)).1 qa ra qn qc rn rc hq hr (by omega) (by omega)).mono ?_
    rintro e w74 ⟨rfl, ht⟩
    refine ⟨_, rfl, ?_⟩
    rw [bif_npos rfl]
    exact ht
  intro w76 ht
  replace hS := hS.quiet ht
  replace hb := quiet' hb ht
  replace hq := hq.quiet ht
  replace k1 := k1.tch ht (by simp)
  clear ht k2 hr
  cases ho : decS bs with
  | none => exact fin hS
  | some q =>
    rw [ho] at hq k1
    obtain ⟨hok, hg, henc⟩ := enc_dec hB ho
    show ∃ _, _
    refine get_all k1 rfl ?_
    refine (encode_c w76 q qa qn qc hok hq.row).mono ?_
    rintro e w79 ⟨a4, c4, rfl, ho4, ht⟩
    have h4 := own_rsl ho4 ones_ints
    rw [henc] at h4 ⊢
    replace hS := hS.quiet ht
    replace hb := quiet' hb ht
    refine ⟨_, _, _, _, rfl, _, _, _, rfl, _, rfl, ?_⟩
    refine (num_c _ w79).mono ?_
    rintro e w85 ⟨rfl, rfl⟩
    refine ⟨_, rfl, ?_⟩
    rw [bif_pos rfl]
    have hbn := u8_len hb
    refine (same_c w85 _ _ a4 b _ c4 _ bc h4 hb (by simp only; omega)).mono ?_
    rintro e w88 ⟨rfl, ht⟩
    refine ⟨_, rfl, ?_⟩
    rw [decide_eq_true rfl]
    exact fin (hS.quiet ht)
end Go.Proofs.Ytjkbjppopdfggaa.Codes
