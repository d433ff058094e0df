/-
  SCAN: its contract and the reference's; the law JournalScans answers true.
  Own work. No macro, syntax, notation, axiom.
-/
import Derived.Test.YtjchneebdlncfaaDoorLibUnseal
import Derived.Test.YtjchneebdlncfaaDoorDenWords10
import Derived.Test.YtjchneebdlncfaaDoorFnScan
namespace Go.Proofs.YtjchneebdlncfaaDoor.Scan
open Go Den Fn Lib
open Go.RowKit (Below)
set_option maxRecDepth 8000
set_option maxHeartbeats 1000000

theorem copied_c (w : World) (bs : List Int) (a : Option Addr) (n c : Nat) (hr : RSl w 1 a n c (u8 bs)) (hN : n ≤ 140737488355328) :
    Calls Tryd.prog 6 #[.slice a n c] w fun e w' => e = .returned (.slice (some ⟨w.heap.size, 0, none⟩) n n) ∧ BlkT w' w.heap.size 5 (u8 bs) ∧ Tch [] w w' := by
  have hn := u8_len hr
  refine c6 _ _ _ ?_
  unfold d6
  refine mk_at bT (by omega) (by omega) fun w' cs hl _ hb ht hs => ?_
  rw [Nat.mul_one] at hl
  refine cpyT bT hb (quiet hr ht) (by omega) fun w2 hb2 ht2 hs2 => ?_
  rw [Nat.min_self, ← List.map_take, List.take_of_length_le (by omega), splice_all (by rw [List.length_map]; omega)] at hb2
  exact ⟨rfl, hb2, ht.trans ht2 (by simp)⟩
theorem same_c (w : World) (xs ys : List Int) (a b : Option Addr) (n c m mc : Nat) (hx : RSl w 1 a n c (u8 xs)) (hy : RSl w 1 b m mc (u8 ys)) (hN : n ≤ 140737488355328) :
    Calls Tryd.prog 10 #[.slice a n c, .slice b m mc] w fun e w' => e = .returned (.bool (decide (xs = ys))) ∧ Tch [] w w' := by
  have hn := u8_len hx
  have hm := u8_len hy
  refine c10 _ _ _ _ _ _ ?_
  unfold d10
  by_cases he : n = m
  · subst he
    rw [bif_npos rfl]
    refine ⟨fun q x w' => ∃ k : Nat, k ≤ n ∧ x = k ∧ q = n - k ∧ xs.take k = ys.take k ∧ Tch [] w w', ⟨n, 0, by omega, rfl, rfl, rfl, Tch.refl _ _⟩, ?_⟩
    rintro q w4 x ⟨k, hk, rfl, rfl, htk, ht⟩
    by_cases hlt : k < n
    · rw [bif_pos (by omega)]
      rintro w6 rfl
      refine ⟨by omega, by omega, ?_⟩
      rw [Int.toNat_natCast]
      refine u8_elem (quiet hx ht.drew) hlt ⟨by omega, by omega, u8_elem (quiet hy ht.drew) hlt ?_⟩
      by_cases hd : xs.getD k 0 = ys.getD k 0
      · rw [bif_npos hd, wrap_i64 (by omega) (by omega)]
        refine ⟨n - (k + 1), by omega, k + 1, by omega, by omega, rfl, ?_, ht.drew⟩
        rw [take_succ_getD (by omega), take_succ_getD (by omega), htk, hd]
      · rw [bif_nneg hd]
        refine ⟨?_, ht.drew⟩
        rw [decide_eq_false fun e => hd (by rw [e])]
    · rw [bif_neg (by omega)]
      have : k = n := by omega
      subst this
      rw [List.take_of_length_le (by omega), List.take_of_length_le (by omega)] at htk
      exact ⟨by rw [decide_eq_true htk], ht⟩
  · rw [bif_nneg (by omega)]
    refine ⟨?_, Tch.refl _ _⟩
    rw [decide_eq_false fun e => he (by rw [← hn, ← hm, e])]

/-- What Scan tells: records, bytes, the error. -/
def scanG (bs : List Int) : Nat → Nat → Nat → Nat × Nat × Int
  | 0, n, p => (n, p, 0)
  | f + 1, n, p =>
    if p < bs.length then
      if (unsl bs p).2.2.2 ≠ 0 then (n, p, (unsl bs p).2.2.2) else scanG bs f (n + 1) (unsl bs p).2.2.1
    else (n, p, 0)
def scan (bs : List Int) : Nat × Nat × Int := scanG bs (bs.length + 1) 0 0
theorem scan_stop {bs : List Int} {f n p : Nat} (hf : bs.length - p < f) (h : scan bs = scanG bs f n p) (hp : ¬ p < bs.length) : scan bs = (n, p, 0) := by
  obtain ⟨f, rfl⟩ : ∃ g, f = g + 1 := ⟨f - 1, by omega⟩
  rw [h, scanG, if_neg hp]
theorem scan_bad {bs : List Int} {f n p : Nat} (hf : bs.length - p < f) (h : scan bs = scanG bs f n p) (hp : p < bs.length) (he : (unsl bs p).2.2.2 ≠ 0) : scan bs = (n, p, (unsl bs p).2.2.2) := by
  obtain ⟨f, rfl⟩ : ∃ g, f = g + 1 := ⟨f - 1, by omega⟩
  rw [h, scanG, if_pos hp, if_pos he]
theorem scan_next {bs : List Int} {f n p : Nat} (hf : bs.length - p < f) (h : scan bs = scanG bs f n p) (hp : p < bs.length) (he : (unsl bs p).2.2.2 = 0) : bs.length - (unsl bs p).2.2.1 < f - 1 ∧ scan bs = scanG bs (f - 1) (n + 1) (unsl bs p).2.2.1 := by
  obtain ⟨f, rfl⟩ : ∃ g, f = g + 1 := ⟨f - 1, by omega⟩
  have := unseal_le he
  rw [h, scanG, if_pos hp, if_neg (by simpa using he)]
  exact ⟨by omega, rfl⟩
/-- The error value. -/
def ErrV (w : World) (p : Nat) (k : Int) (v : Value) : Prop :=
  (k = 0 ∧ v = .nilIface) ∨ (k ≠ 0 ∧ ∃ b, v = .iface 64 (.pointer (some ⟨b, 0, none⟩)) ∧ Blk w b [.int .i64 p, .iface 40 (.int .i64 k)])
theorem zcByteErr : (zc Tryd.prog 66).length = 2 := by kernel_rfl
theorem zcErr : zc Tryd.prog 29 = i64s [0, 0, 0] := by kernel_rfl
theorem scan_c (w : World) (bs : List Int) (a : Option Addr) (n c : Nat) (hr : RSl w 1 a n c (u8 bs)) (hB : Bytes bs) (hN : n ≤ 140737488355328) (hT : Tab w) :
    Calls Tryd.prog 7 #[.slice a n c] w fun e w' => ∃ v, e = .returned (.tuple #[.int .i64 (scan bs).1, .int .i64 (scan bs).2.1, v]) ∧ ErrV w' (scan bs).2.1 (scan bs).2.2 v ∧ Tch [] w w' := by
  have hn := u8_len hr
  refine c7 _ _ _ ?_
  unfold d7
  refine ⟨fun m x y w' => ∃ k p f : Nat, x = k ∧ y = p ∧ k ≤ p ∧ p ≤ n ∧ m = n - p ∧ bs.length - p < f ∧ scan bs = scanG bs f k p ∧ Tch [] w w', ⟨n, 0, 0, bs.length + 1, rfl, rfl, by omega, by omega, rfl, by omega, rfl, Tch.refl _ _⟩, ?_⟩
  rintro m w3 x y ⟨k, p, f, rfl, rfl, hkp, hp, rfl, hf, hsc, ht⟩
  by_cases hlt : p < n
  · rw [bif_pos (by omega)]
    refine (unseal_c w3 bs a n c p (quiet hr ht) hB hp hN (hT.tch ht (by simp))).mono ?_
    rintro e w7 ⟨la, lc, rfl, hown, ht7⟩
    replace ht := ht.trans ht7 (by simp)
    refine ⟨_, _, _, _, _, _, rfl, _, rfl, _, _, _, rfl, _, rfl, _, rfl, ?_⟩
    by_cases h0 : (unsl bs p).2.2.2 = 0
    · rw [bif_npos h0]
      obtain ⟨g1, g2⟩ := scan_next hf hsc (by omega) h0
      have := unseal_le h0
      rw [wrap_i64 (by omega) (by omega)]
      exact ⟨n - (unsl bs p).2.2.1, by omega, k + 1, (unsl bs p).2.2.1, f - 1, by omega, rfl, by omega, by omega, rfl, g1, g2, ht⟩
    · rw [bif_nneg h0]
      have hsb := scan_bad hf hsc (by omega) h0
      refine ⟨[.int .i64 p, .iface 40 (.int .i64 (unsl bs p).2.2.2)], ?_, ?_⟩
      · have := zcByteErr
        generalize zc Tryd.prog 66 = z at this
        match z, this with
        | [z1, z2], _ => rfl
      rintro w17 rfl
      rw [hsb]
      exact ⟨_, rfl, .inr ⟨h0, _, rfl, Blk.fresh _ _ rfl⟩, ht.alloc _⟩
  · rw [bif_neg (by omega)]
    have hss := scan_stop hf hsc (by omega)
    rw [hss]
    exact ⟨_, rfl, .inl ⟨rfl, rfl⟩, ht⟩
/-- An error in plain numbers. -/
def errN (p : Nat) (k : Int) : List Int := if k = 0 then [0, 0, 0] else [2, p, k]
theorem refScan_c (w : World) (bs : List Int) (a : Option Addr) (n c : Nat) (hr : RSl w 1 a n c (u8 bs)) (hB : Bytes bs) (hN : n ≤ 140737488355328) :
    Calls Tryd.prog 8 #[.slice a n c] w fun e w' => e = .returned (.tuple #[.int .i64 (scan bs).1, .int .i64 (scan bs).2.1, .agg (i64s (errN (scan bs).2.1 (scan bs).2.2)).toArray]) ∧ Tch [] w w' := by
  have hn := u8_len hr
  refine c8 _ _ _ ?_
  unfold d8
  rintro w1 rfl
  have hS := (St.refl w []).new _ 29 zcErr
  generalize w.alloc (.cells (zc Tryd.prog 29).toArray 29) = w1 at *
  refine ⟨fun m x y w' => ∃ k p f : Nat, x = k ∧ y = p ∧ k ≤ p ∧ p ≤ n ∧ m = n - p ∧ bs.length - p < f ∧ scan bs = scanG bs f k p ∧ St w [] w' [fBlk w.heap.size (i64s [0, 0, 0])], ⟨n, 0, 0, bs.length + 1, rfl, rfl, by omega, by omega, rfl, by omega, rfl, hS⟩, ?_⟩
  clear hS
  rintro m w3 x y ⟨k, p, f, rfl, rfl, hkp, hp, rfl, hf, hsc, hS⟩
  by_cases hlt : p < n
  · rw [bif_pos (by omega)]
    refine (refUnseal_c w3 bs a n c p (quiet hr hS.tch) hB hp hN).mono ?_
    rintro e w7 ⟨la, lc, rfl, hown, ht7⟩
    replace hS := hS.quiet ht7
    refine ⟨_, _, _, _, _, _, rfl, _, rfl, _, _, _, rfl, _, rfl, _, rfl, ?_⟩
    by_cases h0 : (unsl bs p).2.2.2 = 0
    · rw [bif_npos h0]
      obtain ⟨g1, g2⟩ := scan_next hf hsc (by omega) h0
      have := unseal_le h0
      rw [wrap_i64 (by omega) (by omega)]
      exact ⟨n - (unsl bs p).2.2.1, by omega, k + 1, (unsl bs p).2.2.1, f - 1, by omega, rfl, by omega, by omega, rfl, g1, g2, hS⟩
    · rw [bif_nneg h0]
      have hsb := scan_bad hf hsc (by omega) h0
      refine ⟨i64s [2, p, (unsl bs p).2.2.2], by rw [zcErr]; rfl, ?_⟩
      refine put_all (n := 3) (hS.blk (List.mem_singleton.2 rfl)) rfl rfl ones_ints fun w' h1 h2 _ => ?_
      refine get_all h1 rfl ⟨?_, hS.tch.trans h2 (by simp)⟩
      rw [hsb]
      simp only [errN, if_neg h0]
  · rw [bif_neg (by omega)]
    have hss := scan_stop hf hsc (by omega)
    refine ⟨i64s [0, 0, 0], by rw [zcErr]; rfl, ?_⟩
    refine put_all (n := 3) (hS.blk (List.mem_singleton.2 rfl)) rfl rfl ones_ints fun w' h1 h2 _ => ?_
    refine get_all h1 rfl ⟨?_, hS.tch.trans h2 (by simp)⟩
    rw [hss]
    rfl
theorem uErrno : Tryd.prog.underlying 40 = some (.int .i64) := by kernel_rfl
theorem uByteErr : Tryd.prog.underlying 64 = some (.pointer 66) := by kernel_rfl
theorem zErrno : (Tryd.prog.info? 40).map (·.zero) = some (some (.int .i64 0)) := by kernel_rfl
theorem code_c (w : World) (k : Int) : Calls Tryd.prog 27 #[.iface 40 (.int .i64 k)] w fun e w' => e = .returned (.int .i64 k) ∧ w' = w := by
  refine c27 _ ?_
  unfold d27
  refine asrt_ok uErrno (fun _ h => by cases h) ?_
  refine ⟨_, rfl, ?_⟩
  show ∃ _, _
  refine ⟨true, rfl, ?_⟩
  show ∃ _, _
  exact ⟨k, rfl, rfl, rfl⟩
theorem seen_c (w : World) (p : Nat) (k : Int) (v : Value) (hv : ErrV w p k v) : Calls Tryd.prog 9 #[v] w fun e w' => e = .returned (.agg (i64s (errN p k)).toArray) ∧ Tch [] w w' := by
  refine c9 _ ?_
  unfold d9
  rintro w1 rfl
  have hS := (St.refl w []).new _ 29 zcErr
  rcases hv with ⟨rfl, rfl⟩ | ⟨h0, b, rfl, hb⟩
  · generalize w.alloc (.cells (zc Tryd.prog 29).toArray 29) = w1 at *
    show ∃ _, _
    refine ⟨i64s [0, 0, 0], by rw [zcErr]; rfl, ?_⟩
    refine put_all (n := 3) (hS.blk (List.mem_singleton.2 rfl)) rfl rfl ones_ints fun w' h1 h2 _ => ?_
    exact get_all h1 rfl ⟨rfl, hS.tch.trans h2 (by simp)⟩
  · have hb1 := hb.alloc (.cells (zc Tryd.prog 29).toArray 29)
    generalize w.alloc (.cells (zc Tryd.prog 29).toArray 29) = w1 at *
    show RunV _ _ _ _
    refine asrt_no uErrno (fun _ h => by cases h) zErrno (by decide) ?_
    refine ⟨_, rfl, ?_⟩
    show ∃ _, _
    refine ⟨false, rfl, ?_⟩
    show ∃ _, _
    refine ⟨0, rfl, ?_⟩
    show RunV _ _ _ _
    refine asrt_ok uByteErr (fun _ h => by cases h) ?_
    refine ⟨_, rfl, ?_⟩
    show ∃ _, _
    refine ⟨true, rfl, ?_⟩
    show ∃ _, _
    refine ⟨_, rfl, ?_⟩
    show ∀ _, _
    rintro w23 rfl
    refine ⟨_, by rw [add_mk, Nat.zero_add]; exact hb1.drew.cell 0, _, by rw [add_mk]; exact hb1.drew.cell 1, ?_⟩
    refine (code_c w1.drew k).mono ?_
    rintro e w' ⟨rfl, rfl⟩
    refine ⟨_, rfl, ⟨_, by rw [add_mk, Nat.zero_add]; exact hb1.drew.cell 0, rfl, rfl⟩, ?_⟩
    refine ⟨i64s [2, p, k], by rw [zcErr]; rfl, ?_⟩
    refine put_all (n := 3) (hS.drew.blk (List.mem_singleton.2 rfl)) rfl rfl ones_ints fun w' h1 h2 _ => ?_
    refine get_all h1 rfl ⟨?_, hS.drew.tch.trans h2 (by simp)⟩
    simp only [errN, if_neg h0]
theorem err_flat : flatK Tryd.prog 6 29 = some [.int .i64, .int .i64, .int .i64] := by kernel_rfl
theorem err_eqT : eqT Tryd.prog 6 29 = true := by kernel_rfl
theorem ErrV.quiet {w w' : World} {p : Nat} {k : Int} {v : Value} (h : ErrV w p k v) (ht : Tch [] w w') : ErrV w' p k v := by
  rcases h with h | ⟨h0, b, h1, h2⟩
  · exact .inl h
  · exact .inr ⟨h0, b, h1, h2.tch ht (by simp)⟩
theorem scanG_err (bs : List Int) : ∀ f n p, n ≤ p → p ≤ bs.length → (scanG bs f n p).1 ≤ (scanG bs f n p).2.1 ∧ (scanG bs f n p).2.1 ≤ bs.length ∧ 0 ≤ (scanG bs f n p).2.2 ∧ (scanG bs f n p).2.2 ≤ 13
  | 0, n, p, h1, h2 => ⟨h1, h2, by simp [scanG], by simp [scanG]⟩
  | f + 1, n, p, h1, h2 => by
    unfold scanG
    split
    · split
      · refine ⟨h1, h2, ?_⟩
        show 0 ≤ (unsl bs p).2.2.2 ∧ (unsl bs p).2.2.2 ≤ 13
        unfold unsl unslR
        split
        · simp
        split
        · simp
        split
        · simp
        split
        · simp
        split
        · simp
        simp
      · rename_i h3 h4
        have := unseal_le (show (unsl bs p).2.2.2 = 0 by omega)
        exact scanG_err bs f (n + 1) _ (by omega) this.2
    · exact ⟨h1, h2, by simp, by simp⟩
theorem law_c (w : World) (bs : List Int) (a : Option Addr) (n c : Nat) (hr : RSl w 1 a n c (u8 bs)) (hB : Bytes bs) (hN : n ≤ 140737488351232) (hT : Tab w) :
    Calls Tryd.prog 3 #[.slice a n c] w fun e w' => e = .returned (.bool true) ∧ Below w.heap.size w w' := by
  have hn := u8_len hr
  refine c3 _ _ _ ?_
  unfold d3
  refine (copied_c w bs a n c hr (by omega)).mono ?_
  rintro e w2 ⟨rfl, hb2, ht⟩
  refine ⟨_, _, _, rfl, ?_⟩
  have hs2 := ht.size
  refine app_elem_at bT (hb2.own (base := w.heap.size) (Nat.le_refl _) (by simp; omega) (by omega)) (by rw [zc8]; rfl) (ys := u8 [5]) rfl rfl ones_ints hs2 (by omega) (by omega) fun x8 c8 w7 hown ht7 hmv => ?_
  rw [← List.map_append] at hown
  replace ht := ht.trans ht7 fun i hi => .inr (by simp [rowL] at hi; omega)
  have hR := own_rsl hown ones_ints
  have hcap := hR.cap
  refine ⟨by omega, by omega, ?_⟩
  have hcut := hR.cut (l := 0) (hh := n) (by omega) (by omega)
  rw [Nat.sub_zero, List.drop_zero, List.take_append_of_le_length (by omega), List.take_of_length_le (by omega)] at hcut
  rw [Int.toNat_natCast, Nat.sub_zero]
  refine (scan_c w7 bs _ _ _ hcut hB (by omega) (hT.tch ht (by simp))).mono ?_
  rintro e w10 ⟨v, rfl, hv, ht10⟩
  replace ht := ht.trans ht10 (by simp)
  replace hR := quiet hR ht10
  refine ⟨_, _, _, rfl, _, rfl, _, rfl, _, rfl, ?_⟩
  refine (refScan_c w10 bs a n c (quiet hr ht) hB (by omega)).mono ?_
  rintro e w18 ⟨rfl, ht18⟩
  replace ht := ht.trans ht18 (by simp)
  replace hR := quiet hR ht18
  replace hv := hv.quiet ht18
  refine ⟨_, _, _, rfl, _, rfl, _, rfl, _, rfl, ?_⟩
  obtain ⟨g1, g2, g3, g4⟩ := scanG_err bs (bs.length + 1) 0 0 (Nat.le_refl _) (by omega)
  have hel : (i64s (errN (scan bs).2.1 (scan bs).2.2)).length = 3 := by unfold errN; split <;> rfl
  have hfit : Fits [.int .i64, .int .i64, .int .i64] (i64s (errN (scan bs).2.1 (scan bs).2.2)) := by
    change (scan bs).2.1 ≤ bs.length at g2
    change 0 ≤ (scan bs).2.2 at g3
    change (scan bs).2.2 ≤ 13 at g4
    unfold errN
    split
    · exact ⟨⟨rfl, i64_wf.2 (by unfold I64; omega)⟩, ⟨rfl, i64_wf.2 (by unfold I64; omega)⟩, ⟨rfl, i64_wf.2 (by unfold I64; omega)⟩, trivial⟩
    · exact ⟨⟨rfl, i64_wf.2 (by unfold I64; omega)⟩, ⟨rfl, i64_wf.2 (by unfold I64; omega)⟩, ⟨rfl, i64_wf.2 (by unfold I64; omega)⟩, trivial⟩
  refine var_init (n := 3) (by rw [zcErr]; rfl) hel ones_ints fun w25 w26 h1 h2 h3 => ?_
  replace ht := (ht.trans h2 (by simp)).drew
  replace hR := quiet (quiet hR h2) ((Tch.refl [] w26).drew)
  replace hv := (hv.quiet h2).quiet ((Tch.refl [] w26).drew)
  rintro w27 rfl
  replace h1 := h1.drew
  rw [bif_pos rfl, bif_pos rfl]
  refine get_all h1 hel ?_
  refine (seen_c w26.drew _ _ v hv).mono ?_
  rintro e w30 ⟨rfl, ht30⟩
  replace ht := ht.trans ht30 (by simp)
  replace hR := quiet hR ht30
  replace h1 := h1.tch ht30 (by simp)
  refine ⟨_, rfl, get_all h1 hel ⟨rfl, rfl⟩, ?_⟩
  refine eq_flat err_flat err_eqT hfit hfit (fun _ => ?_) (fun h => absurd rfl h)
  refine ⟨?_, ?_⟩
  · refine (copied_c w30 bs a n c (quiet hr ht) (by omega)).mono ?_
    rintro e w35 ⟨rfl, hb35, ht35⟩
    refine ⟨_, _, _, rfl, ?_⟩
    have hs35 := ht35.size
    refine app_elem_at bT (hb35.own (base := w30.heap.size) (Nat.le_refl _) (by simp; omega) (by omega)) (by rw [zc8]; rfl) (ys := u8 [5]) rfl rfl ones_ints hs35 (by omega) (by omega) fun x41 c41 w40 hown2 ht40 _ => ?_
    rw [← List.map_append] at hown2
    replace ht35 := ht35.trans ht40 fun i hi => .inr (by simp [rowL] at hi; omega)
    refine (same_c w40 (bs ++ [5]) (bs ++ [5]) _ _ _ _ _ _ (quiet hR ht35) (own_rsl hown2 ones_ints) (by omega)).mono ?_
    rintro e w43 ⟨rfl, ht43⟩
    refine ⟨_, rfl, ?_, ((ht.trans ht35 (by simp)).trans ht43 (by simp)).below⟩
    rw [decide_eq_true rfl]
  · refine ⟨[.int .u8 5], by rw [zc8]; rfl, ?_⟩
    rintro w46 rfl
    have hb46 := Blk.fresh w30 (cs := [.int .u8 5]) 5 rfl
    have ht46 := (Tch.refl [] w30).alloc (.cells [Value.int .u8 5].toArray 5)
    have hs46 := size_alloc w30 (.cells [Value.int .u8 5].toArray 5)
    generalize w30.alloc (.cells [Value.int .u8 5].toArray 5) = w46 at *
    refine (copied_c w46 bs a n c (quiet (quiet hr ht) ht46) (by omega)).mono ?_
    rintro e w48 ⟨rfl, hb48, ht48⟩
    refine ⟨_, _, _, rfl, ?_⟩
    have hs48 := ht48.size
    refine app_at bT (hb48.own (base := w46.heap.size) (Nat.le_refl _) (by simp; omega) (by omega)) ((hb46.tch ht48 (by simp)).rsl (n := 1) rfl (ones_ints (l := [5]))) hs48 (by omega) (by omega) fun x52 c52 w51 hown2 ht51 _ => ?_
    rw [show [Value.int .u8 5] = u8 [5] from rfl, ← List.map_append] at hown2
    replace ht46 := (ht46.trans ht48 (by simp)).trans ht51 fun i hi => .inr (by simp [rowL] at hi; omega)
    refine (same_c w51 (bs ++ [5]) (bs ++ [5]) _ _ _ _ _ _ (quiet hR ht46) (own_rsl hown2 ones_ints) (by omega)).mono ?_
    rintro e w54 ⟨rfl, ht54⟩
    refine ⟨_, rfl, ?_, ((ht.trans ht46 (by simp)).trans ht54 (by simp)).below⟩
    rw [decide_eq_true rfl]
end Go.Proofs.YtjchneebdlncfaaDoor.Scan
