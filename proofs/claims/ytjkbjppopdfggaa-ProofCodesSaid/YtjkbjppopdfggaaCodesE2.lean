/-
  ENCODE, the reference's: its contract.
  Own work. No macro, syntax, notation, axiom.
-/
import Derived.Test.YtjkbjppopdfggaaCodesE
namespace Go.Proofs.Ytjkbjppopdfggaa.Codes
open Go Den Fn Lib
open Go.RowKit (Below)
open Classical
set_option maxRecDepth 8000
set_option maxHeartbeats 1000000

theorem refEncode_c (w : World) (p : Pf) (a : Option Addr) (n c : Nat) (hp : p.ok) (hr : RSl w 33 a n c (rows fkC p.fs)) :
    Calls Try.prog 5 #[.agg (pfC a n c p).toArray] w fun e w' => EncR w (encS p) e w' := by
  have hn := hr.count (fkC_len hp.fs) (by omega)
  refine c5 _ ?_
  unfold d5
  rintro w1 rfl
  have hS := (St.refl w []).new (pfC a n c p) 28 rfl
  generalize w.alloc (.cells (pfC a n c p).toArray 28) = w1 at *
  generalize hpb : w.heap.size = pb at *
  refine ⟨fun w' => St w [] w' [fBlk pb (pfC a n c p)] ∧ Head p, ?_, ?_⟩
  · refine ⟨a, n, c, by rw [add_mk]; exact (hS.blk (List.mem_singleton.2 rfl)).cell 0, ?_⟩
    by_cases h80 : 80 < n
    · rw [bif_pos (by omega)]
      exact EncR.bad (fun hg => by have := hg.1.1; omega) hS.tch
    rw [bif_neg (by omega)]
    refine ⟨p.leaf, by rw [add_mk]; exact (hS.blk (List.mem_singleton.2 rfl)).cell 1, ?_⟩
    cases hl : p.leaf
    · show ∃ _, _
      refine get_part (hS.blk (List.mem_singleton.2 rfl)) 2 3 (i64s [p.t, p.r, p.v]) rfl rfl ?_
      refine ⟨i64s [0, 0, 0], by rw [zcRow]; rfl, ?_⟩
      refine neq_flat_d row_flat row_eqT (row_fits hp.t hp.r hp.v) (row_fits i64_0 i64_0 i64_0) eq_zero_row ?_
      by_cases hz : p.t = 0 ∧ p.r = 0 ∧ p.v = 0
      · rw [bif_npos hz]
        refine ⟨p.leaf, by rw [add_mk]; exact (hS.blk (List.mem_singleton.2 rfl)).cell 1, ?_⟩
        rw [hl, cond_false]
        exact ⟨hS, by omega, fun _ => hz, fun h => by rw [hl] at h; cases h⟩
      · rw [bif_nneg hz]
        exact EncR.bad (fun hg => hz (hg.1.2.1 hl)) hS.tch
    · show ∃ _, _
      refine ⟨p.leaf, by rw [add_mk]; exact (hS.blk (List.mem_singleton.2 rfl)).cell 1, ?_⟩
      rw [hl, cond_true, add_mk]
      refine get_part (hS.blk (List.mem_singleton.2 rfl)) 2 2 (keyC p.t p.r) rfl rfl ?_
      refine (refCheck_c p.t p.r w1).mono ?_
      rintro e w16 ⟨rfl, ht⟩
      refine ⟨_, rfl, ?_⟩
      by_cases hk : KeyOk p.t
      · rw [if_pos hk, bif_npos rfl]
        exact ⟨hS.quiet ht, by omega, (fun h => by rw [hl] at h; cases h), fun _ => hk⟩
      · rw [if_neg hk, bif_nneg (by omega)]
        exact EncR.bad (fun hg => hk (hg.1.2.2 hl)) (hS.quiet ht).tch
  rintro w18 ⟨hS, hH⟩
  have h80 := hH.1
  have hbp := (hS.blk (List.mem_singleton.2 rfl)).lt
  have hge := hS.size
  refine ⟨a, n, c, by rw [add_mk]; exact (hS.blk (List.mem_singleton.2 rfl)).cell 0, ?_⟩
  rw [wrap_u64 (by omega) (by omega)]
  refine (refUint_c w18 n (by omega)).mono ?_
  rintro e w21 ⟨b0, c0, rfl, hown, ht⟩
  replace hS := hS.quiet ht
  have h21 := ht.size
  generalize w18.heap.size = B at *
  have hmove : ∀ {u u' : World} {a1 : Option Addr} {k c1 : Nat} {xs : List Value}, St w [] u [fBlk pb (pfC a n c p)] → u.ownsRow B 5 1 (.slice a1 k c1) k xs → Tch (rowL a1) u u' → St w [] u' [fBlk pb (pfC a n c p)] := fun h ho ht =>
    h.step ht (fun f hf k hk hfk => by
      obtain rfl := List.mem_singleton.1 hf
      have h1 := rowL_ge ho k hk
      have : k = pb := hfk
      omega) fun i hi => .inr (by have := rowL_ge ho i hi; omega)
  have hu10 := uv_len10 (n := n) (by omega)
  refine ⟨_, _, _, rfl, ?_⟩
  refine ⟨fun m a1 k1 c1 x w' => ∃ i : Nat, x = i ∧ i ≤ n ∧ m = n - i ∧ k1 = (uv n ++ encF (p.fs.take i)).length ∧ w'.ownsRow B 5 1 (.slice a1 k1 c1) k1 (u8 (uv n ++ encF (p.fs.take i))) ∧ (∀ f ∈ p.fs.take i, Rank f.bit) ∧ St w [] w' [fBlk pb (pfC a n c p)] ∧ B ≤ w'.heap.size, ⟨n, 0, rfl, by omega, rfl, by simp [encF], by simpa [encF] using hown, by simp, hS, h21⟩, ?_⟩
  clear hown hS
  rintro m w25 a1 k1 c1 x ⟨i, rfl, hi, rfl, rfl, hown, hrk, hS, hB⟩
  have hfl : (encF (p.fs.take i)).length = i * 33 := by
    rw [encF_len fun f hf => hp.fs f (List.mem_of_mem_take hf), List.length_take]
    congr 1; omega
  have hwl : (uv n ++ encF (p.fs.take i)).length ≤ 10 + 80 * 33 := by rw [List.length_append, hfl]; omega
  refine ⟨a, n, c, by rw [add_mk]; exact (hS.blk (List.mem_singleton.2 rfl)).cell 0, ?_⟩
  by_cases hlt : i < n
  · rw [bif_pos (by omega)]
    refine ⟨a, n, c, by rw [add_mk]; exact (hS.blk (List.mem_singleton.2 rfl)).cell 0, by omega, by omega, ?_⟩
    rw [Int.toNat_natCast]
    obtain ⟨f, hf⟩ : ∃ f, p.fs[i]? = some f := ⟨p.fs[i], by simp [hn, hlt]⟩
    have hfo := hp.fs f (List.mem_of_getElem? hf)
    have hfk := fkC_len hp.fs f (List.mem_of_getElem? hf)
    have htake : p.fs.take (i + 1) = p.fs.take i ++ [f] := by
      rw [List.take_succ_eq_append_getElem (by omega)]
      congr 2
      exact (List.getElem?_eq_some_iff.1 hf).2
    refine (quiet' hr hS.tch).elem (fkC_len hp.fs) (by omega) hf ?_
    refine var_init (n := 33) (by rw [zcFork]; rfl) hfk fkC_ones fun w32 w33 h1 h2 h3 => ?_
    have hrow := rowL_ge hown
    generalize w25.heap.size = fb at *
    replace hS := hS.quiet h2
    replace hown := own_up hown h2 (fun _ _ h => by cases h)
    refine ⟨fun w' => w' = w33 ∧ Rank f.bit, ?_, ?_⟩
    · refine ⟨f.bit, by rw [add_mk]; exact h1.cell 0, ?_⟩
      by_cases h0 : f.bit < 0
      · rw [bif_pos h0]
        exact EncR.bad (fun hg => by have := (hg.2 f (List.mem_of_getElem? hf)).1; omega) hS.tch
      rw [bif_neg h0]
      refine ⟨f.bit, by rw [add_mk]; exact h1.cell 0, ?_⟩
      by_cases h8 : 80 ≤ f.bit
      · rw [bif_pos h8]
        exact EncR.bad (fun hg => by have := (hg.2 f (List.mem_of_getElem? hf)).2; omega) hS.tch
      rw [bif_neg h8]
      exact ⟨rfl, by omega, by omega⟩
    rintro w37 ⟨rfl, hrb⟩
    have hrb' := hrb
    unfold Rank at hrb'
    refine ⟨f.bit, by rw [add_mk]; exact h1.cell 0, ?_⟩
    rw [wrap_u8 (by omega) (by omega)]
    refine app_elem_at bT hown (by rw [zc8]; rfl) (ys := u8 [f.bit]) rfl rfl ones_ints (by omega) (by omega) (by omega) fun a2 c2 w42 k2 t2 m2 => ?_
    rw [← List.map_append] at k2
    replace hS := hmove hS hown t2
    replace h1 := h1.tch t2 fun hm => by have := hrow _ hm; omega
    have hs42 := t2.size
    refine app_at bT k2 (fork_part h1 hfo) (by omega) (by omega) (by omega) fun a3 c3 w45 k3 t3 m3 => ?_
    rw [← List.map_append] at k3
    replace hS := hmove hS k2 t3
    have hs45 := t3.size
    rw [wrap_i64 (by omega) (by omega)]
    refine ⟨n - (i + 1), by omega, i + 1, by omega, by omega, rfl, ?_, ?_, ?_, hS, by omega⟩
    · rw [htake, encF_append, encF_one]
      simp only [List.length_append, List.length_cons, hfo.2.1]
      omega
    · rw [htake, encF_append, encF_one]
      simpa [List.append_assoc] using k3
    · rw [htake]
      intro g hg
      rcases List.mem_append.1 hg with hg | hg
      · exact hrk g hg
      · rw [List.mem_singleton.1 hg]; exact hrb
  · obtain rfl : i = n := by omega
    rw [bif_neg (by omega)]
    rw [List.take_of_length_le (by omega)] at hown hrk hwl ⊢
    have hgood : Good p := ⟨hH, hrk⟩
    have henc : encS p = (uv p.fs.length ++ encF p.fs ++ encTail p, 0) := by unfold encS; rw [if_pos hgood]
    have fin : ∀ {u' : World} {a1 : Option Addr} {k c1 : Nat} {l : List Int}, u'.ownsRow B 5 1 (.slice a1 k c1) k (u8 l) → Tch [] w u' → k = l.length → l = uv p.fs.length ++ encF p.fs ++ encTail p →
        EncR w (encS p) (.returned (.tuple #[.slice a1 k c1, .int .i64 0])) u' := by
      rintro u' a1 k c1 l ho ht rfl rfl
      rw [henc]
      exact ⟨a1, c1, rfl, own_base ho hge, ht⟩
    refine ⟨p.leaf, by rw [add_mk]; exact (hS.blk (List.mem_singleton.2 rfl)).cell 1, ?_⟩
    cases hl : p.leaf
    · show ∃ _, _
      refine app_elem_at bT hown (by rw [zc8]; rfl) (ys := u8 [0]) rfl rfl ones_ints (by omega) (by omega) (by omega) fun a2 c2 w42 k2 t2 m2 => ?_
      rw [← List.map_append] at k2
      exact fin k2 (hmove hS hown t2).tch (by simp; omega) (by unfold encTail; rw [hl, hn]; rfl)
    · show ∃ _, _
      refine app_elem_at bT hown (by rw [zc8]; rfl) (ys := u8 [1]) rfl rfl ones_ints (by omega) (by omega) (by omega) fun a2 c2 w57 k2 t2 m2 => ?_
      rw [← List.map_append] at k2
      replace hS := hmove hS hown t2
      have hs2 := t2.size
      rw [add_mk]
      refine get_part (hS.blk (List.mem_singleton.2 rfl)) 2 2 (keyC p.t p.r) rfl rfl ?_
      refine (refBytes_c p.t p.r w57).mono ?_
      rintro e w61 h5
      rw [if_pos (hH.2.2 hl)] at h5
      obtain ⟨ka, kc, rfl, hkb, ht5⟩ := h5
      replace hS := hS.quiet ht5
      replace k2 := own_up k2 ht5 (fun _ _ h => by cases h)
      have hs5 := ht5.size
      refine ⟨_, _, _, _, rfl, _, _, _, rfl, _, rfl, ?_⟩
      refine app_at bT k2 (own_rsl hkb ones_ints) (by omega) (by omega) (by omega) fun a3 c3 w67 k3 t3 m3 => ?_
      rw [← List.map_append] at k3
      replace hS := hmove hS k2 t3
      have hs3 := t3.size
      refine ⟨p.v, by rw [add_mk]; exact (hS.blk (List.mem_singleton.2 rfl)).cell 4, ?_⟩
      refine (refInt_c w67 p.v hp.v).mono ?_
      rintro e w71 ⟨ia, ic, rfl, hiv, ht6⟩
      replace hS := hS.quiet ht6
      replace k3 := own_up k3 ht6 (fun _ _ h => by cases h)
      have hs6 := ht6.size
      have hi10 : (iv p.v).length ≤ 10 := (uv_len10 (fold_range hp.v)).2
      refine ⟨_, _, _, rfl, ?_⟩
      refine app_at bT k3 (own_rsl hiv ones_ints) (by omega) (by omega) (by omega) fun a4 c4 w74 k4 t4 m4 => ?_
      rw [← List.map_append] at k4
      exact fin k4 (hmove hS k3 t4).tch (by have := keyB_length p.t p.r; simp only [List.length_append, List.length_singleton]; omega) (by unfold encTail; rw [hl, hn]; simp [List.append_assoc])
end Go.Proofs.Ytjkbjppopdfggaa.Codes
