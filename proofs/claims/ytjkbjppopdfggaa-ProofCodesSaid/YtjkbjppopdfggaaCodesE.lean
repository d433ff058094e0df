/-
  ENCODE: its contract and the reference's.
  Own work. No macro, syntax, notation, axiom.
-/
import Derived.Test.YtjkbjppopdfggaaCodesSpec
import Derived.Test.YtjkbjppopdfggaaLibCodW
import Derived.Test.YtjkbjppopdfggaaLibRef
import Derived.Test.YtjkbjppopdfggaaFnCodes
namespace Go.Proofs.Ytjkbjppopdfggaa.Codes
open Go Den Fn Lib
open Go.RowKit (Below)
open Classical
set_option maxRecDepth 8000
set_option maxHeartbeats 1000000

theorem row_flat : flatK Try.prog 6 26 = some [.int .i64, .int .i64, .int .i64] := by kernel_rfl
theorem row_eqT : eqT Try.prog 6 26 = true := by kernel_rfl
theorem zcRow : zc Try.prog 26 = i64s [0, 0, 0] := by kernel_rfl
theorem zcFork : zc Try.prog 51 = fkC ⟨0, List.replicate 32 0⟩ := by kernel_rfl
theorem row_fits {t r v : Int} (ht : I64 t) (hr : I64 r) (hv : I64 v) : Fits [.int .i64, .int .i64, .int .i64] (i64s [t, r, v]) :=
  ⟨⟨rfl, i64_wf.2 ht⟩, ⟨rfl, i64_wf.2 hr⟩, ⟨rfl, i64_wf.2 hv⟩, trivial⟩
theorem i64_0 : I64 0 := by unfold I64; decide
theorem rank_c (n : Int) (w : World) : Calls Try.prog 14 #[.int .i64 n] w fun e w' => e = .returned (.bool (decide (Rank n))) ∧ w' = w := by
  refine c14 _ ?_
  unfold d14
  by_cases h0 : 0 ≤ n
  · rw [bif_pos h0]
    refine ⟨?_, rfl⟩
    have : decide (n < 80) = decide (Rank n) := by
      rw [decide_eq_decide]; unfold Rank; omega
    rw [this]
  · rw [bif_neg h0]
    exact ⟨by rw [decide_eq_false (fun h => h0 h.1)], rfl⟩
/-- What is asked of an encoding. -/
def EncR (w : World) (u : List Int × Int) (e : Ending) (w' : World) : Prop :=
  ∃ a c, e = .returned (.tuple #[.slice a u.1.length c, .int .i64 u.2]) ∧ w'.ownsRow w.heap.size 5 1 (.slice a u.1.length c) u.1.length (u8 u.1) ∧ Tch [] w w'
theorem EncR.bad {w w' : World} {p : Pf} (h : ¬ Good p) (ht : Tch [] w w') : EncR w (encS p) (.returned (.tuple #[.slice none 0 0, .int .i64 250])) w' := by
  unfold encS
  rw [if_neg h]
  exact ⟨none, 0, rfl, own_nil _ _ _ _, ht⟩
theorem wr_off {w : World} {b : Nat} {a : Option Addr} {bs : List Int} (h : Wr w b a bs) {k : Nat} (hk : w.heap.size ≤ k ∨ k < b) : k ∉ b :: rowL a := fun hm => by
  have hb := h.lt
  rcases List.mem_cons.1 hm with rfl | hm
  · omega
  · have := h.row k hm; omega
theorem eq_zero_row {t r v : Int} : i64s [t, r, v] = i64s [0, 0, 0] ↔ t = 0 ∧ r = 0 ∧ v = 0 := by
  simp
theorem fork_part {w : World} {b : Nat} {f : Fk} (h : Blk w b (fkC f)) (hf : f.ok) : RSl w 1 (some ⟨b, 1, none⟩) 32 32 (u8 f.oth) := by
  refine ⟨Nat.le_refl _, by simp [hf.2.1], ones_ints, .inr ⟨b, 1, rfl, fun i v hv => ?_⟩⟩
  rw [add_mk, h.cell, Nat.add_comm 1 i]
  exact hv
theorem fkC_ones {f : Fk} : ∀ u ∈ fkC f, one u = true := fun u hu => by
  rcases List.mem_cons.1 hu with rfl | hu
  · rfl
  · exact ones_ints u hu
theorem quiet' {w w' : World} {sz : Nat} {a : Option Addr} {n c : Nat} {cs : List Value} (h : RSl w sz a n c cs) (ht : Tch [] w w') : RSl w' sz a n c cs := h.tch ht fun _ _ h => by cases h
theorem encode_c (w : World) (p : Pf) (a : Option Addr) (n c : Nat) (hp : p.ok) (hr : RSl w 33 a n c (rows fkC p.fs)) :
    Calls Try.prog 4 #[.agg (pfC a n c p).toArray] w fun e w' => EncR w (encS p) e w' := by
  have hn := hr.count (fkC_len hp.fs) (by omega)
  refine c4 _ ?_
  unfold d4
  rintro w1 rfl
  have hS := (St.refl w []).new (pfC a n c p) 28 rfl
  have hs1 := size_alloc w (.cells (pfC a n c p).toArray 28)
  generalize w.alloc (.cells (pfC a n c p).toArray 28) = w1 at *
  generalize hpb : w.heap.size = pb at *
  refine ⟨fun w' => St w [] w' [fBlk pb (pfC a n c p)] ∧ Head p, ?_, ?_⟩
  · refine ⟨a, n, c, by rw [add_mk]; exact (hS.blk (List.mem_singleton.2 rfl)).cell 0, ?_⟩
    by_cases h80 : 80 < n
    · rw [bif_pos (by omega)]
      exact EncR.bad (fun hg => by have := hg.1.1; omega) hS.tch
    rw [bif_neg (by omega)]
    refine ⟨p.leaf, by rw [add_mk]; exact (hS.blk (List.mem_singleton.2 rfl)).cell 1, ?_⟩
    cases hl : p.leaf
    · show ∃ _, _
      refine get_part (hS.blk (List.mem_singleton.2 rfl)) 2 3 (i64s [p.t, p.r, p.v]) rfl rfl ?_
      refine ⟨i64s [0, 0, 0], by rw [zcRow]; rfl, ?_⟩
      refine neq_flat_d row_flat row_eqT (row_fits hp.t hp.r hp.v) (row_fits i64_0 i64_0 i64_0) eq_zero_row ?_
      by_cases hz : p.t = 0 ∧ p.r = 0 ∧ p.v = 0
      · rw [bif_npos hz]
        refine ⟨p.leaf, by rw [add_mk]; exact (hS.blk (List.mem_singleton.2 rfl)).cell 1, ?_⟩
        rw [hl, cond_false]
        exact ⟨hS, by omega, fun _ => hz, fun h => by rw [hl] at h; cases h⟩
      · rw [bif_nneg hz]
        exact EncR.bad (fun hg => hz (hg.1.2.1 hl)) hS.tch
    · show ∃ _, _
      refine ⟨p.leaf, by rw [add_mk]; exact (hS.blk (List.mem_singleton.2 rfl)).cell 1, ?_⟩
      rw [hl, cond_true, add_mk]
      refine get_part (hS.blk (List.mem_singleton.2 rfl)) 2 2 (keyC p.t p.r) rfl rfl ?_
      refine (check_c p.t p.r w1).mono ?_
      rintro e w16 ⟨rfl, ht⟩
      refine ⟨_, rfl, ?_⟩
      by_cases hk : KeyOk p.t
      · rw [if_pos hk, bif_npos rfl]
        exact ⟨hS.quiet ht, by omega, (fun h => by rw [hl] at h; cases h), fun _ => hk⟩
      · rw [if_neg hk, bif_nneg (by omega)]
        exact EncR.bad (fun hg => hk (hg.1.2.2 hl)) (hS.quiet ht).tch
  rintro w18 ⟨hS, hH⟩
  have h80 := hH.1
  have hbp := (hS.blk (List.mem_singleton.2 rfl)).lt
  refine (new_c w18).mono ?_
  rintro e w20 ⟨rfl, hW, ht⟩
  replace hS := hS.quiet ht
  have hwb := hS.size
  have h18 := ht.size
  have hge : w.heap.size ≤ w18.heap.size := by omega
  generalize w18.heap.size = b at *
  -- what lies below the writer stays
  have hmove : ∀ {u u' : World} {a1 : Option Addr} {l l' : List Int}, St w [] u [fBlk pb (pfC a n c p)] → Wr u b a1 l → WrR u u' b a1 l' → St w [] u' [fBlk pb (pfC a n c p)] := fun h hw hr =>
    h.below (hr.below hw) (fun f hf k hk => by
      obtain rfl := List.mem_singleton.1 hf
      have : k = pb := hk
      omega) hge
  refine ⟨_, rfl, a, n, c, by rw [add_mk]; exact (hS.blk (List.mem_singleton.2 rfl)).cell 0, ?_⟩
  rw [wrap_u64 (by omega) (by omega)]
  refine (uint_c w20 b none [] n hW (by omega) (by simp)).mono ?_
  rintro e w24 ⟨rfl, hR⟩
  replace hS := hmove hS hW hR
  obtain ⟨_, a1, hW1, _⟩ := hR
  rw [List.nil_append] at hW1
  have hu10 := uv_len10 (n := n) (by omega)
  refine ⟨rfl, a, n, c, by rw [add_mk]; exact (hS.blk (List.mem_singleton.2 rfl)).cell 0, ?_⟩
  refine ⟨fun m x w' => ∃ (i : Nat) (a1 : Option Addr), x = i ∧ i ≤ n ∧ m = n - i ∧ Wr w' b a1 (uv n ++ encF (p.fs.take i)) ∧ (∀ f ∈ p.fs.take i, Rank f.bit) ∧ St w [] w' [fBlk pb (pfC a n c p)], ⟨n, 0, a1, rfl, by omega, rfl, by simpa [encF] using hW1, by simp, hS⟩, ?_⟩
  clear hW1 hS hW
  rintro m w28 x ⟨i, a1, rfl, hi, rfl, hW, hrk, hS⟩
  have hfl : (encF (p.fs.take i)).length = i * 33 := by
    rw [encF_len fun f hf => hp.fs f (List.mem_of_mem_take hf), List.length_take]
    congr 1; omega
  have hwl : (uv n ++ encF (p.fs.take i)).length ≤ 10 + 80 * 33 := by rw [List.length_append, hfl]; omega
  by_cases hlt : i < n
  · rw [bif_pos (by omega)]
    refine ⟨by omega, by omega, ?_⟩
    rw [Int.toNat_natCast]
    obtain ⟨f, hf⟩ : ∃ f, p.fs[i]? = some f := ⟨p.fs[i], by simp [hn, hlt]⟩
    have hfo := hp.fs f (List.mem_of_getElem? hf)
    have hfk := fkC_len hp.fs f (List.mem_of_getElem? hf)
    have htake : p.fs.take (i + 1) = p.fs.take i ++ [f] := by
      rw [List.take_succ_eq_append_getElem (by omega)]
      congr 2
      exact (List.getElem?_eq_some_iff.1 hf).2
    refine (quiet' hr hS.tch).elem (fkC_len hp.fs) (by omega) hf ?_
    refine var_init (n := 33) (by rw [zcFork]; rfl) hfk fkC_ones fun w32 w33 h1 h2 h3 => ?_
    have hoff := wr_off hW (k := w28.heap.size) (.inl (Nat.le_refl _))
    generalize w28.heap.size = fb at *
    replace hS := hS.quiet h2
    replace hW := hW.quiet h2
    refine ⟨f.bit, by rw [add_mk]; exact h1.cell 0, ?_⟩
    refine (rank_c f.bit w33).mono ?_
    rintro e w36 ⟨rfl, rfl⟩
    refine ⟨_, rfl, ?_⟩
    by_cases hrb : Rank f.bit
    rotate_left
    · rw [bif_nneg hrb]
      exact EncR.bad (fun hg => hrb (hg.2 f (List.mem_of_getElem? hf))) hS.tch
    rw [bif_npos hrb]
    have hrb' := hrb
    unfold Rank at hrb'
    refine ⟨f.bit, by rw [add_mk]; exact h1.cell 0, ?_⟩
    rw [wrap_u8 (by omega) (by omega)]
    refine (byte_c w36 b a1 _ f.bit hW (by omega)).mono ?_
    rintro e w40 ⟨rfl, hR⟩
    replace hS := hmove hS hW hR
    replace h1 := h1.tch hR.1 hoff
    obtain ⟨ht40, a2, hW2, hm2⟩ := hR
    refine ⟨rfl, ?_⟩
    refine (raw_c w40 b a2 _ f.oth _ 32 32 hW2 (fork_part h1 hfo) (by simp only [List.length_append] at hwl ⊢; simp; omega)).mono ?_
    rintro e w42 ⟨rfl, hR⟩
    replace hS := hmove hS hW2 hR
    obtain ⟨_, a3, hW3, _⟩ := hR
    refine ⟨rfl, ?_⟩
    rw [wrap_i64 (by omega) (by omega)]
    refine ⟨n - (i + 1), by omega, i + 1, a3, by omega, by omega, rfl, ?_, ?_, hS⟩
    · rw [htake, encF_append, encF_one]
      simpa [List.append_assoc] using hW3
    · rw [htake]
      intro g hg
      rcases List.mem_append.1 hg with hg | hg
      · exact hrk g hg
      · rw [List.mem_singleton.1 hg]; exact hrb
  · obtain rfl : i = n := by omega
    rw [bif_neg (by omega)]
    rw [List.take_of_length_le (by omega)] at hW hrk hwl
    have hgood : Good p := ⟨hH, hrk⟩
    have henc : encS p = (uv p.fs.length ++ encF p.fs ++ encTail p, 0) := by unfold encS; rw [if_pos hgood]
    have fin : ∀ {u u' : World} {a1 : Option Addr} {l : List Int} {e : Ending}, St w [] u [fBlk pb (pfC a i c p)] → Wr u b a1 l → (∃ a' c', e = .returned (.slice a' l.length c') ∧ u'.ownsRow u.heap.size 5 1 (.slice a' l.length c') l.length (u8 l) ∧ Tch [] u u') → l = uv p.fs.length ++ encF p.fs ++ encTail p →
        ∃ (x : Option Addr) (xn xc : Nat), e = .returned (.slice x xn xc) ∧ EncR w (encS p) (.returned (.tuple #[.slice x xn xc, .int .i64 0])) u' := by
      rintro u u' a1 l e hS hW ⟨a', c', rfl, hown, ht⟩ rfl
      refine ⟨a', _, c', rfl, ?_⟩
      rw [henc]
      exact ⟨a', c', rfl, own_base hown hS.size, (hS.quiet ht).tch⟩
    refine ⟨p.leaf, by rw [add_mk]; exact (hS.blk (List.mem_singleton.2 rfl)).cell 1, ?_⟩
    cases hl : p.leaf
    · show Calls _ _ _ _ _
      refine (byte_c w28 b a1 _ 0 hW (by omega)).mono ?_
      rintro e w46 ⟨rfl, hR⟩
      replace hS := hmove hS hW hR
      obtain ⟨_, a2, hW2, _⟩ := hR
      refine ⟨rfl, ?_⟩
      refine (out_c w46 b a2 _ hW2 (by simp only [List.length_append, List.length_singleton] at hwl ⊢; omega)).mono ?_
      intro e w48 ho
      exact fin hS hW2 ho (by unfold encTail; rw [hl, hn]; rfl)
    · show Calls _ _ _ _ _
      refine (byte_c w28 b a1 _ 1 hW (by omega)).mono ?_
      rintro e w51 ⟨rfl, hR⟩
      replace hS := hmove hS hW hR
      obtain ⟨_, a2, hW2, _⟩ := hR
      have hl2 : ((uv i ++ encF p.fs) ++ [(1 : Int)]).length ≤ 11 + 80 * 33 := by simp only [List.length_append, List.length_singleton] at hwl ⊢; omega
      refine ⟨rfl, ?_⟩
      rw [add_mk]
      refine get_part (hS.blk (List.mem_singleton.2 rfl)) 2 2 (keyC p.t p.r) rfl rfl ?_
      refine (bytes_c p.t p.r w51).mono ?_
      rintro e w54 h5
      rw [if_pos (hH.2.2 hl)] at h5
      obtain ⟨ka, kc, rfl, hkb, ht5⟩ := h5
      replace hS := hS.quiet ht5
      replace hW2 := hW2.quiet ht5
      refine ⟨_, _, _, _, rfl, _, _, _, rfl, _, rfl, ?_⟩
      refine (raw_c w54 b a2 _ (keyB p.t p.r) _ _ _ hW2 (own_rsl hkb ones_ints) (by omega)).mono ?_
      rintro e w60 ⟨rfl, hR⟩
      replace hS := hmove hS hW2 hR
      obtain ⟨_, a3, hW3, _⟩ := hR
      have hk10 := keyB_length p.t p.r
      refine ⟨rfl, p.v, by rw [add_mk]; exact (hS.blk (List.mem_singleton.2 rfl)).cell 4, ?_⟩
      refine (int_c w60 b a3 _ p.v hW3 hp.v (by rw [List.length_append]; omega)).mono ?_
      rintro e w63 ⟨rfl, hR⟩
      replace hS := hmove hS hW3 hR
      obtain ⟨_, a4, hW4, _⟩ := hR
      refine ⟨rfl, ?_⟩
      have hi10 : (iv p.v).length ≤ 10 := (uv_len10 (fold_range hp.v)).2
      refine (out_c w63 b a4 _ hW4 (by rw [List.length_append, List.length_append]; omega)).mono ?_
      intro e w65 ho
      exact fin hS hW4 ho (by unfold encTail; rw [hl, hn]; simp [List.append_assoc])
end Go.Proofs.Ytjkbjppopdfggaa.Codes
