/-
  The reference's Verify; the law ProofVerifies answers true.
  Own work. No macro, syntax, notation, axiom.
-/
import Derived.Test.YtjkbjppopdfggaaDoorVerF
namespace Go.Proofs.YtjkbjppopdfggaaDoor.Sha
open Go Den Fn
open Go.RowKit (Below)
open Classical
set_option maxRecDepth 8000
set_option maxHeartbeats 4000000

theorem refVerify_c (w : World) (root : List Int) (t r : Int) (hrl : root.length = 32) (hrb : Bytes root) (ht : I64 t) (hr : I64 r) (p : Pf) (a : Option Addr) (n c : Nat) (hp : PfAt w a n c p) (hn : n ≤ 1000000000000) :
    Calls Tryd.prog 19 #[.agg (u8 root).toArray, .agg (keyC t r).toArray, .agg (pfC a n c p).toArray] w (VerR root t r p w) := by
  refine c19 _ _ _ ?_
  unfold d19
  rintro w3 rfl w4 rfl w5 rfl w6 rfl
  have hS := ((((St.refl w []).new (u8 root) 24 rfl).new (keyC t r) 29 rfl).new (pfC a n c p) 43 rfl).new (cs := zc Tryd.prog 45) (cellC (false, 0)) 45 zcCell
  have s1 := size_alloc w (.cells (u8 root).toArray 24)
  generalize w.alloc (.cells (u8 root).toArray 24) = w3 at *
  have s2 := size_alloc w3 (.cells (keyC t r).toArray 29)
  generalize w3.alloc (.cells (keyC t r).toArray 29) = w4 at *
  have s3 := size_alloc w4 (.cells (pfC a n c p).toArray 43)
  generalize w4.alloc (.cells (pfC a n c p).toArray 43) = w5 at *
  generalize w5.alloc (.cells (zc Tryd.prog 45).toArray 45) = w6 at *
  generalize hw0 : w.heap.size = r0 at *
  generalize w3.heap.size = kb at *
  generalize w4.heap.size = pb at *
  generalize w5.heap.size = ob at *
  let L : List Fact := [fBlk ob (cellC (false, 0)), fBlk pb (pfC a n c p), fBlk kb (keyC t r), fBlk r0 (u8 root)]
  replace hS : St w [] w6 L := hS
  have kob : ∀ {u : World}, St w [] u L → Blk u ob (cellC (false, 0)) := fun h => h.blk (by simp [L])
  have kpb : ∀ {u : World}, St w [] u L → Blk u pb (pfC a n c p) := fun h => h.blk (by simp [L])
  have kkb : ∀ {u : World}, St w [] u L → Blk u kb (keyC t r) := fun h => h.blk (by simp [L])
  have kr0 : ∀ {u : World}, St w [] u L → Blk u r0 (u8 root) := fun h => h.blk (by simp [L])
  have done : ∀ {u : World} {x : Bool × Int} {e : Int}, verS root t r p = (x, e) → St w [] u L → (Array.size (List.toArray (cellC x)) = 2 ∧ (∀ v ∈ Array.toList (List.toArray (cellC x)), one v = true) ∧ Room u ⟨ob, 0, none⟩ 2 ∧
      ∀ w' : World, w' = setCells u ⟨ob, 0, none⟩ (Array.toList (List.toArray (cellC x))) 0 → ∃ cs : List Value, List.length cs = 2 ∧ Cells w' ⟨ob, 0, none⟩ cs ∧ VerR root t r p w (.returned (.tuple #[.agg (List.toArray cs), .int .i64 e])) w') := by
    intro u x e he hS
    refine put_all (n := 2) (kob hS) rfl rfl (by simp [one]) fun w' k t1 _ => ?_
    refine get_all k rfl ⟨by rw [he], hS.tch.trans t1 fun i hi => .inr ?_⟩
    simp at hi
    omega
  refine get_all (kkb hS) rfl ?_
  refine (refCheck_c t r w6).mono ?_
  rintro e w9 ⟨rfl, t1⟩
  replace hS := hS.quiet t1
  refine ⟨_, rfl, ?_⟩
  by_cases hk : KeyOk t
  rotate_left
  · rw [if_neg hk, bif_nneg (by omega)]
    exact ⟨cellC (false, 0), by rw [zcCell]; rfl, done (by unfold verS; rw [if_pos hk]) hS⟩
  rw [if_pos hk, bif_npos rfl]
  refine get_all (kkb hS) rfl (get_all (kpb hS) rfl ?_)
  refine (formed_c w9 t r hk p a n c (hp.quiet hS.tch) (by omega)).mono ?_
  rintro e w17 ⟨rfl, t2⟩
  replace hS := hS.quiet t2
  refine ⟨_, rfl, ?_⟩
  by_cases hf : formedP t r p
  rotate_left
  · rw [bif_nneg hf]
    exact ⟨cellC (false, 0), by rw [zcCell]; rfl, done (by unfold verS; rw [if_neg (by simpa using hk), if_pos fun h => hf (holds_iff.1 h).1]) hS⟩
  rw [bif_npos hf]
  have hrk : ∀ f ∈ p.fs, Rk f.bit := by
    intro f hfm
    unfold formedP at hf
    split at hf
    · rw [hf.1] at hfm; cases hfm
    · exact hf.2.1.rank f hfm
  refine get_all (kkb hS) rfl (get_all (kpb hS) rfl ?_)
  refine (path_c w17 t r hk p a n c (hp.quiet hS.tch) hrk hn).mono ?_
  rintro e w25 ⟨x, xc, ns, rfl, hno, hnl, hnt, hrn, t3⟩
  replace hS := hS.quiet t3
  refine ⟨_, _, _, rfl, ?_⟩
  have ei : IntKind.wrap .i64 (((n + 1 : Nat) : Int) - 1) = (n : Int) := by rw [wrap_i64 (by omega) (by omega)]; omega
  rw [ei]
  refine ⟨by omega, by omega, ?_⟩
  rw [Int.toNat_natCast]
  refine hrn.elem (fun m hm => Nd.cells_length (hno m hm)) (by omega) hnt ?_
  have hTo := hno _ (List.mem_of_getElem? hnt)
  generalize hT : topN (keyB t r) p p.fs = T at *
  refine (refOf_c T hTo w25).mono ?_
  rintro e w30 ⟨rfl, t4⟩
  replace hS := hS.quiet t4
  refine ⟨_, _, rfl, _, rfl, _, rfl, ?_⟩
  refine var_init (n := 32) (by rw [zcDig]; rfl) (by rw [List.length_map, ofS_length]) ones_ints fun w35 w36 kd t5 s5 => ?_
  replace hS := hS.quiet t5
  refine get_all kd (by rw [List.length_map, ofS_length]) (get_all (kr0 hS) (by simpa using hrl) ?_)
  refine neq_flat dig_flat dig_eqT (dig_fits (ofS_length T) (ofS_bytes T)) (dig_fits hrl hrb) (fun he => ?_) (fun he => ?_)
  rotate_left
  · rw [cond_true]
    refine ⟨cellC (false, 0), by rw [zcCell]; rfl, done ?_ hS⟩
    unfold verS
    rw [if_neg (by simpa using hk), if_pos fun h => he (u8_eq.2 (by rw [← hT]; exact (holds_iff.1 h).2))]
  rw [cond_false]
  have hh : holdsP root (keyB t r) p := holds_iff.2 ⟨hf, by rw [hT]; exact u8_eq.1 he⟩
  have hv : verS root t r p = if p.leaf = true ∧ p.t = t ∧ p.r = r then ((true, p.v), 0) else ((false, 0), 0) := by
    unfold verS
    rw [if_neg (by simpa using hk), if_neg (by simpa using hh)]
  refine ⟨p.leaf, by rw [add_mk]; exact (kpb hS).cell 1, ?_⟩
  cases hleaf : p.leaf with
  | false =>
    rw [cond_false]
    exact ⟨cellC (false, 0), by rw [zcCell]; rfl, done (by rw [hv, if_neg (by rw [hleaf]; simp)]) hS⟩
  | true =>
    rw [cond_true]
    refine get_at2 (kpb hS) 2 2 (keyC p.t p.r) rfl rfl (by rw [add_mk, add_mk]) ?_
    refine get_all (kkb hS) rfl ?_
    refine eq_flat key_flat key_eqT (key_fits hp.1.t hp.1.r) (key_fits ht hr) (fun he => ?_) (fun he => ?_)
    · rw [cond_true]
      refine ⟨p.v, by rw [add_mk, add_mk]; exact (kpb hS).cell 4, cellC (true, p.v), by rw [zcCell]; rfl, done ?_ hS⟩
      rw [hv, if_pos ⟨hleaf, by simpa using he⟩]
    · rw [cond_false]
      refine ⟨cellC (false, 0), by rw [zcCell]; rfl, done ?_ hS⟩
      rw [hv, if_neg fun hc => he (by rw [hc.2.1, hc.2.2])]
theorem cell_flat : flatK Tryd.prog 6 45 = some [.bool, .int .i64] := by kernel_rfl
theorem cell_eqT : eqT Tryd.prog 6 45 = true := by kernel_rfl
theorem verS_val {root : List Int} {t r : Int} {p : Pf} (hp : p.ok) : I64 (verS root t r p).1.2 := by
  unfold verS
  split
  · exact i64_0
  · split
    · exact i64_0
    · split
      · exact hp.v
      · exact i64_0
theorem cell_fits {x : Bool × Int} (h : I64 x.2) : Fits [.bool, .int .i64] (cellC x) := ⟨trivial, ⟨rfl, i64_wf.2 h⟩, trivial⟩
theorem verifies_law (w : World) (root : List Int) (t r : Int) (hrl : root.length = 32) (hrb : Bytes root) (ht : I64 t) (hr : I64 r) (p : Pf) (a : Option Addr) (n c : Nat) (hp : PfAt w a n c p) (hn : n ≤ 1000000000000) (hT : Tabs w) :
    Calls Tryd.prog 5 #[.agg (u8 root).toArray, .agg (keyC t r).toArray, .agg (pfC a n c p).toArray] w fun e w' => e = .returned (.bool true) ∧ Below w.heap.size w w' := by
  have hpl := hp.len
  have hlen := fkC_len hp.1.fs
  refine c5 _ _ _ ?_
  unfold d5
  rintro w3 rfl w4 rfl w5 rfl
  have hS := (((St.refl w []).new (u8 root) 24 rfl).new (keyC t r) 29 rfl).new (pfC a n c p) 43 rfl
  have s1 := size_alloc w (.cells (u8 root).toArray 24)
  generalize w.alloc (.cells (u8 root).toArray 24) = w3 at *
  have s2 := size_alloc w3 (.cells (keyC t r).toArray 29)
  generalize w3.alloc (.cells (keyC t r).toArray 29) = w4 at *
  have s3 := size_alloc w4 (.cells (pfC a n c p).toArray 43)
  generalize w4.alloc (.cells (pfC a n c p).toArray 43) = w5 at *
  generalize hw0 : w.heap.size = r0 at *
  generalize w3.heap.size = kb at *
  generalize w4.heap.size = pb at *
  let L : List Fact := [fBlk pb (pfC a n c p), fBlk kb (keyC t r), fBlk r0 (u8 root)]
  replace hS : St w [] w5 L := hS
  have kpb : ∀ {u : World}, St w [] u L → Blk u pb (pfC a n c p) := fun h => h.blk (by simp [L])
  have kkb : ∀ {u : World}, St w [] u L → Blk u kb (keyC t r) := fun h => h.blk (by simp [L])
  have kr0 : ∀ {u : World}, St w [] u L → Blk u r0 (u8 root) := fun h => h.blk (by simp [L])
  have stp : ∀ {u u' : World} {s : List Nat}, St w [] u L → Tch s u u' → (∀ k ∈ s, pb < k) → St w [] u' L := fun h ht hs => h.step ht (fun g hg => by
    simp only [L, List.mem_cons, List.not_mem_nil, or_false] at hg
    rcases hg with rfl | rfl | rfl <;> exact fBlk_off (fun hm => by have := hs _ hm; omega)) fun j hj => .inr (by have := hs j hj; omega)
  have fin : ∀ {u : World} {b : Bool}, b = true → St w [] u L → (Ending.returned (.bool b) = .returned (.bool true) ∧ Below r0 w u) := fun hb h => ⟨by rw [hb], hw0 ▸ h.tch.below⟩
  refine get_all (kr0 hS) (by simpa using hrl) (get_all (kkb hS) rfl (get_all (kpb hS) rfl ?_))
  refine (verify_c w5 root t r hrl hrb ht hr p a n c (hp.quiet hS.tch) (by omega) (hT.tch hS.tch)).mono ?_
  rintro e w10 ⟨rfl, t1⟩
  have hpb5 := (kpb hS).lt
  have hs10 := t1.size
  replace hS := hS.quiet t1
  refine ⟨_, _, rfl, _, rfl, _, rfl, ?_⟩
  refine var_init (n := 2) (by rw [zcCell]; rfl) rfl (by simp [one]) fun w15 w16 ka t2 s4 => ?_
  replace hS := hS.quiet t2
  generalize w10.heap.size = ab at *
  refine get_all (kr0 hS) (by simpa using hrl) (get_all (kkb hS) rfl (get_all (kpb hS) rfl ?_))
  refine (refVerify_c w16 root t r hrl hrb ht hr p a n c (hp.quiet hS.tch) hn).mono ?_
  rintro e w21 ⟨rfl, t3⟩
  replace hS := hS.quiet t3
  replace ka := ka.tch t3 (by simp)
  have hs21 := t3.size
  refine ⟨_, _, rfl, _, rfl, _, rfl, ?_⟩
  refine var_init (n := 2) (by rw [zcCell]; rfl) rfl (by simp [one]) fun w26 w27 kb2 t4 s5 => ?_
  replace hS := hS.quiet t4
  replace ka := ka.tch t4 (by simp)
  generalize w21.heap.size = bb at *
  have hcf := cell_fits (verS_val (root := root) (t := t) (r := r) hp.1)
  generalize hv : verS root t r p = V at *
  refine ⟨fun u => St w [] u L ∧ Blk u ab (cellC V.1) ∧ Blk u bb (cellC V.1), ?_, ?_⟩
  · refine get_all ka rfl (get_all kb2 rfl ?_)
    refine neq_flat cell_flat cell_eqT hcf hcf (fun _ => ?_) (fun h => absurd rfl h)
    rw [cond_false]
    refine (num_c V.2 w27).mono ?_
    rintro e w33 ⟨rfl, rfl⟩
    refine ⟨_, rfl, ?_⟩
    rw [bif_npos rfl]
    exact ⟨hS, ka, kb2⟩
  clear hS ka kb2 t1 t2 t3 t4
  rintro w35 ⟨hS, ka, kb2⟩
  refine ⟨fun u => u = w35 ∧ KeyOk t, ?_, ?_⟩
  · refine ⟨t, by rw [add_mk]; exact (kkb hS).cell 0, ?_⟩
    by_cases h1 : t < 0
    · rw [bif_pos h1]; exact fin rfl hS
    rw [bif_neg h1]
    refine ⟨t, by rw [add_mk]; exact (kkb hS).cell 0, ?_⟩
    by_cases h2 : 65535 < t
    · rw [bif_pos h2]; exact fin rfl hS
    rw [bif_neg h2]
    exact ⟨rfl, by omega, by omega⟩
  rintro w39 ⟨rfl, hk⟩
  refine ⟨fun m x u => ∃ i : Nat, x = i ∧ i ≤ n ∧ m = n - i ∧ u = w39 ∧ ∀ (j : Nat) f, j < i → p.fs[j]? = some f → Rk f.bit, ⟨n, 0, rfl, by omega, rfl, rfl, fun j f hj => by omega⟩, ?_⟩
  rintro m w42 x ⟨i, rfl, hi, rfl, rfl, hU⟩
  refine ⟨a, n, c, by rw [add_mk]; exact (kpb hS).cell 0, ?_⟩
  by_cases hin : i < n
  · rw [bif_pos (by omega)]
    have hfi : p.fs[i]? = some (p.fs[i]'(by omega)) := List.getElem?_eq_getElem (by omega)
    generalize p.fs[i]'(by omega) = f at hfi
    obtain ⟨b', o', rfl, hc⟩ := (hp.quiet hS.tch).2.elem' hlen (by omega) hfi
    refine ⟨_, n, c, by rw [add_mk]; exact (kpb hS).cell 0, by omega, by omega, ?_⟩
    rw [Int.toNat_natCast]
    refine ⟨f.bit, by rw [add_mk]; exact hc 0 _ rfl, ?_⟩
    by_cases h1 : f.bit < 0
    · rw [bif_pos h1]; exact fin rfl hS
    rw [bif_neg h1]
    refine ⟨_, n, c, by rw [add_mk]; exact (kpb hS).cell 0, by omega, by omega, ?_⟩
    refine ⟨f.bit, by rw [add_mk]; exact hc 0 _ rfl, ?_⟩
    by_cases h2 : 80 ≤ f.bit
    · rw [bif_pos h2]; exact fin rfl hS
    rw [bif_neg h2]
    refine ⟨n - (i + 1), by omega, i + 1, by rw [wrap_i64 (by omega) (by omega)]; omega, by omega, rfl, rfl, fun j g hj hg => ?_⟩
    by_cases e : j = i
    · subst e; rw [hfi] at hg; cases hg; exact ⟨by omega, by omega⟩
    · exact hU j g (by omega) hg
  rw [bif_neg (by omega)]
  have hrk : ∀ f ∈ p.fs, Rk f.bit := fun f hf => by
    obtain ⟨j, hj⟩ := List.getElem?_of_mem hf
    exact hU j f (by have := (List.getElem?_eq_some_iff.1 hj).1; omega) hj
  refine get_all (kkb hS) rfl (get_all (kpb hS) rfl ?_)
  refine (path_c w42 t r hk p a n c (hp.quiet hS.tch) hrk hn).mono ?_
  rintro e w55 ⟨x, xc, ns, rfl, hno, hnl, hnt, hrn, t3⟩
  replace hS := hS.quiet t3
  replace ka := ka.tch t3 (by simp)
  replace kb2 := kb2.tch t3 (by simp)
  refine ⟨_, _, _, rfl, ?_⟩
  have ei : IntKind.wrap .i64 (((n + 1 : Nat) : Int) - 1) = (n : Int) := by rw [wrap_i64 (by omega) (by omega)]; omega
  rw [ei]
  refine ⟨by omega, by omega, ?_⟩
  rw [Int.toNat_natCast]
  refine hrn.elem (fun m hm => Nd.cells_length (hno m hm)) (by omega) hnt ?_
  have hTo := hno _ (List.mem_of_getElem? hnt)
  generalize topN (keyB t r) p p.fs = T at *
  refine (refOf_c T hTo w55).mono ?_
  rintro e w60 ⟨rfl, t4⟩
  replace hS := hS.quiet t4
  replace ka := ka.tch t4 (by simp)
  replace kb2 := kb2.tch t4 (by simp)
  have hab := ka.lt
  have hbb := kb2.lt
  refine ⟨_, _, rfl, _, rfl, _, rfl, ?_⟩
  refine var_init (n := 32) (by rw [zcDig]; rfl) (by rw [List.length_map, ofS_length]) ones_ints fun w65 w66 kd t5 s6 => ?_
  replace hS := hS.quiet t5
  replace ka := ka.tch t5 (by simp)
  replace kb2 := kb2.tch t5 (by simp)
  generalize w60.heap.size = db at *
  have ol := ofS_length T
  have oB := ofS_bytes T
  generalize (ofS T).1 = own at *
  refine get_all kd (by simpa using ol) (get_all (kkb hS) rfl (get_all (kpb hS) rfl ?_))
  refine (verify_c w66 own t r ol oB ht hr p a n c (hp.quiet hS.tch) (by omega) (hT.tch hS.tch)).mono ?_
  rintro e w71 ⟨rfl, t6⟩
  replace hS := hS.quiet t6
  replace ka := ka.tch t6 (by simp)
  replace kb2 := kb2.tch t6 (by simp)
  replace kd := kd.tch t6 (by simp)
  refine ⟨_, _, rfl, _, rfl, _, rfl, ?_⟩
  refine put_all (n := 2) ka rfl rfl (by simp [one]) fun w76 ka t7 _ => ?_
  replace hS := stp hS t7 (by simp; omega)
  replace kb2 := kb2.tch t7 (by simp; omega)
  replace kd := kd.tch t7 (by simp; omega)
  refine get_all kd (by simpa using ol) (get_all (kkb hS) rfl (get_all (kpb hS) rfl ?_))
  refine (refVerify_c w76 own t r ol oB ht hr p a n c (hp.quiet hS.tch) hn).mono ?_
  rintro e w81 ⟨rfl, t8⟩
  replace hS := hS.quiet t8
  replace ka := ka.tch t8 (by simp)
  replace kb2 := kb2.tch t8 (by simp)
  refine ⟨_, _, rfl, _, rfl, _, rfl, ?_⟩
  refine put_all (n := 2) kb2 rfl rfl (by simp [one]) fun w86 kb2 t9 _ => ?_
  replace hS := stp hS t9 (by simp; omega)
  replace ka := ka.tch t9 (by simp; omega)
  have hcf := cell_fits (verS_val (root := own) (t := t) (r := r) hp.1)
  refine get_all ka rfl (get_all kb2 rfl ?_)
  refine eq_flat cell_flat cell_eqT hcf hcf (fun _ => ?_) (fun h => absurd rfl h)
  rw [cond_true]
  refine (num_c _ w86).mono ?_
  rintro e w91 ⟨rfl, rfl⟩
  exact ⟨_, rfl, fin (decide_eq_true rfl) hS⟩
end Go.Proofs.YtjkbjppopdfggaaDoor.Sha
