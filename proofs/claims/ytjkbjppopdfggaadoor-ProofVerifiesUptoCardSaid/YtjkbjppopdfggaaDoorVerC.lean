/-
  holds: its contract.
  Own work. No macro, syntax, notation, axiom.
-/
import Derived.Test.YtjkbjppopdfggaaDoorVerB
import Derived.Test.YtjkbjppopdfggaaDoorFnHolds
namespace Go.Proofs.YtjkbjppopdfggaaDoor.Sha
open Go Den Fn
open Go.RowKit (Below)
open Classical
set_option maxRecDepth 8000
set_option maxHeartbeats 4000000

theorem zcFork : (zc Tryd.prog 51).length = 33 := by kernel_rfl
theorem zcSl : zc Tryd.prog 22 = [.slice none 0 0] := by kernel_rfl
theorem zcBo : zc Tryd.prog 4 = [.bool false] := by kernel_rfl
/-- The digest behind some rounds. -/
def downD (kb : List Int) (d : List Int) (xs : List Fo) : List Int := xs.foldl (fun d x => stepD kb x.1.2 d) d
theorem downD_len {kb d : List Int} (h : d.length = 32 ∧ Bytes d) : ∀ xs : List Fo, (downD kb d xs).length = 32 ∧ Bytes (downD kb d xs) := by
  intro xs
  induction xs generalizing d with
  | nil => exact h
  | cons x xs ih => exact ih stepD_len
theorem downD_up {kb d : List Int} {xs : List Fo} {fs : List Fk} (h : xs.map (·.1.2) = fs.reverse) : downD kb d xs = upD kb fs d := by
  have e : downD kb d xs = (xs.map (·.1.2)).foldl (fun d f => stepD kb f d) d := by
    unfold downD
    rw [List.foldl_map]
  rw [e, h, List.foldl_reverse]
  rfl
theorem holds_c (w : World) (root kb : List Int) (hrl : root.length = 32) (hrb : Bytes root) (b : Option Addr) (bc : Nat) (hb : RSl w 1 b 10 bc (u8 kb)) (p : Pf) (a : Option Addr) (n c : Nat) (hp : PfAt w a n c p) (hn : n ≤ 9223372036854775807) (hT : Tabs w) :
    Calls Tryd.prog 56 #[.agg (u8 root).toArray, .slice b 10 bc, .agg (pfC a n c p).toArray] w fun e w' => e = .returned (.bool (decide (holdsP root kb p))) ∧ Tch [] w w' := by
  have hpl := hp.len
  have hlen := fkC_len hp.1.fs
  refine c56 _ _ _ _ _ ?_
  unfold d56
  rintro w3 rfl w4 rfl w5 rfl w6 rfl
  have hS := ((((St.refl w []).new (u8 root) 24 rfl).new [.slice b 10 bc] 22 rfl).new (pfC a n c p) 43 rfl).new (cs := zc Tryd.prog 4) [.bool false] 4 zcBo
  have s1 := size_alloc w (.cells (u8 root).toArray 24)
  generalize w.alloc (.cells (u8 root).toArray 24) = w3 at *
  have s2 := size_alloc w3 (.cells #[.slice b 10 bc] 22)
  have e2 : w3.alloc (.cells [Value.slice b 10 bc].toArray 22) = w3.alloc (.cells #[.slice b 10 bc] 22) := rfl
  rw [e2] at hS
  generalize w3.alloc (.cells #[.slice b 10 bc] 22) = w4 at *
  have s3 := size_alloc w4 (.cells (pfC a n c p).toArray 43)
  generalize w4.alloc (.cells (pfC a n c p).toArray 43) = w5 at *
  have s4 := size_alloc w5 (.cells (zc Tryd.prog 4).toArray 4)
  generalize w5.alloc (.cells (zc Tryd.prog 4).toArray 4) = w6 at *
  generalize hw0 : w.heap.size = r0 at *
  generalize w3.heap.size = bb at *
  generalize w4.heap.size = pb at *
  generalize w5.heap.size = res at *
  let L : List Fact := [fBlk res [.bool false], fBlk pb (pfC a n c p), fBlk bb [.slice b 10 bc], fBlk r0 (u8 root)]
  replace hS : St w [] w6 L := hS
  have kres : ∀ {u : World}, St w [] u L → Blk u res [.bool false] := fun h => h.blk (by simp [L])
  have kpb : ∀ {u : World}, St w [] u L → Blk u pb (pfC a n c p) := fun h => h.blk (by simp [L])
  have kbb : ∀ {u : World}, St w [] u L → Blk u bb [.slice b 10 bc] := fun h => h.blk (by simp [L])
  have kr0 : ∀ {u : World}, St w [] u L → Blk u r0 (u8 root) := fun h => h.blk (by simp [L])
  -- an answer
  have done : ∀ {u : World} {q : Bool}, q = decide (holdsP root kb p) → St w [] u L → (one (.bool q) = true ∧ Option.isSome (World.cell? u ⟨res, 0, none⟩) = true ∧ World.frozen? u ⟨res, 0, none⟩ = false ∧
      ∀ w' : World, w' = World.setCell u ⟨res, 0, none⟩ (.bool q) → ∃ z : Bool, World.cell? w' ⟨res, 0, none⟩ = some (.bool z) ∧ (Ending.returned (.bool z) = .returned (.bool (decide (holdsP root kb p))) ∧ Tch [] w w')) := by
    intro u q hq hS
    refine put_one (kres hS) rfl fun u' k t => ⟨q, k.cell 0, by rw [hq], hS.tch.trans t fun i hi => .inr ?_⟩
    simp at hi
    omega
  refine ⟨a, n, c, by rw [add_mk]; exact (kpb hS).cell 0, ?_⟩
  refine ⟨fun m x u => ∃ i : Nat, x = i ∧ i ≤ n ∧ m = n - i ∧ St w [] u L ∧ RiseU p.fs i, ⟨n, 0, rfl, by omega, rfl, hS, fun i f hi => by omega⟩, ?_⟩
  clear hS
  rintro m w10 x ⟨i, rfl, hi, rfl, hS, hU⟩
  by_cases hin : i < n
  · rw [bif_pos (by omega)]
    have hfi : p.fs[i]? = some (p.fs[i]'(by omega)) := List.getElem?_eq_getElem (by omega)
    have hfm : p.fs[i]'(by omega) ∈ p.fs := List.getElem_mem _
    generalize p.fs[i]'(by omega) = f at hfi hfm
    have hfo := hp.1.fs f hfm
    refine ⟨by omega, by omega, ?_⟩
    rw [Int.toNat_natCast]
    have hr := (hp.quiet hS.tch).2
    refine hr.elem hlen (by omega) hfi ?_
    refine var_init (n := 33) zcFork (hlen f hfm) fkC_ones fun w14 w15 kf t1 s5 => ?_
    generalize w10.heap.size = fb at *
    rintro w16 rfl
    have q2 := (Tch.refl [] w15).drew
    replace hS := (hS.quiet t1).quiet q2
    replace kf := kf.tch q2 (by simp)
    generalize w15.drew = w16 at *
    refine ⟨f.bit, by rw [add_mk]; exact kf.cell 0, ?_⟩
    refine (rank_c f.bit w16).mono ?_
    rintro e w19 ⟨rfl, rfl⟩
    refine ⟨_, rfl, ?_⟩
    have hno : ∀ {P : Prop}, (RiseF p.fs → P) → ¬ P → ¬ holdsP root kb p := fun hP hn hh => hn (hP hh.1)
    by_cases hrk : Rk f.bit
    rotate_left
    · rw [bif_nneg (show ¬ (0 ≤ f.bit ∧ f.bit < 80) from hrk)]
      exact done (decide_eq_false (hno (fun h => (h i f (by omega) hfi).1) hrk)).symm hS
    rw [bif_npos (show 0 ≤ f.bit ∧ f.bit < 80 from hrk)]
    by_cases h0 : 0 < i
    · rw [bif_pos (by omega)]
      have hgi : p.fs[i - 1]? = some (p.fs[i - 1]'(by omega)) := List.getElem?_eq_getElem (by omega)
      generalize p.fs[i - 1]'(by omega) = g at hgi
      have ei : IntKind.wrap .i64 ((i : Int) - 1) = ((i - 1 : Nat) : Int) := by rw [wrap_i64 (by omega) (by omega)]; omega
      rw [ei]
      refine ⟨a, n, c, by rw [add_mk]; exact (kpb hS).cell 0, by omega, by omega, ?_⟩
      rw [Int.toNat_natCast]
      obtain ⟨b', o', rfl, hc⟩ := (hp.quiet hS.tch).2.elem' hlen (by omega) hgi
      refine ⟨g.bit, by rw [add_mk]; exact hc 0 _ rfl, f.bit, by rw [add_mk]; exact kf.cell 0, ?_⟩
      by_cases hle : f.bit ≤ g.bit
      · rw [bif_pos hle]
        exact done (decide_eq_false (hno (fun h => (h i f (by omega) hfi).2 g h0 hgi) (by omega))).symm hS
      · rw [bif_neg hle]
        exact ⟨n - (i + 1), by omega, i + 1, by rw [wrap_i64 (by omega) (by omega)]; omega, by omega, rfl, hS, hU.succ hfi hrk fun g' _ hg' => by rw [hgi] at hg'; cases hg'; omega⟩
    · rw [bif_neg (by omega)]
      exact ⟨n - (i + 1), by omega, i + 1, by rw [wrap_i64 (by omega) (by omega)]; omega, by omega, rfl, hS, hU.succ hfi hrk fun g' h _ => absurd h h0⟩
  rw [bif_neg (by omega)]
  have hRise : RiseF p.fs := by
    have : i = p.fs.length := by omega
    rw [this] at hU
    exact hU
  clear hU
  refine ⟨p.leaf, by rw [add_mk]; exact (kpb hS).cell 1, ?_⟩
  cases hleaf : p.leaf with
  | false =>
    rw [show (!false) = true from rfl, cond_true]
    have hiff : holdsP root kb p ↔ p.fs = [] ∧ (p.t = 0 ∧ p.r = 0 ∧ p.v = 0) ∧ root = z32 := by
      unfold holdsP
      rw [if_pos hleaf]
      exact ⟨fun h => h.2, fun h => ⟨hRise, h⟩⟩
    refine ⟨a, n, c, by rw [add_mk]; exact (kpb hS).cell 0, ?_⟩
    by_cases hn0 : n = 0
    rotate_left
    · rw [bif_neg (by omega)]
      exact done (decide_eq_false fun h => hn0 (by rw [← hpl, (hiff.1 h).1]; rfl)).symm hS
    rw [bif_pos (by omega)]
    refine get_part (kpb hS) 2 3 (rowC p.t p.r p.v) rfl rfl ?_
    refine ⟨rowC 0 0 0, by rw [zcRow]; rfl, ?_⟩
    refine eq_flat row_flat row_eqT (row_fits hp.1.t hp.1.r hp.1.v) (row_fits i64_0 i64_0 i64_0) (fun h => ?_) (fun h => ?_)
    · rw [cond_true]
      refine get_all (kr0 hS) (by simpa using hrl) ?_
      refine ⟨u8 z32, by rw [zcDig]; rfl, ?_⟩
      refine eq_flat dig_flat dig_eqT (dig_fits hrl hrb) (dig_fits rfl z32_bytes) (fun h2 => ?_) (fun h2 => ?_)
      · exact done (decide_eq_true (hiff.2 ⟨List.length_eq_zero_iff.1 (by omega), rowC_eq.1 h, u8_eq.1 h2⟩)).symm hS
      · exact done (decide_eq_false fun hh => h2 (u8_eq.2 (hiff.1 hh).2.2)).symm hS
    · rw [cond_false]
      exact done (decide_eq_false fun hh => h (rowC_eq.2 (hiff.1 hh).2.1)).symm hS
  | true =>
    rw [show (!true) = false from rfl, cond_false]
    have hiff : holdsP root kb p ↔ KeyOk p.t ∧ (∀ f ∈ p.fs, bitS (keyB p.t p.r) f.bit = bitS kb f.bit) ∧ upD kb p.fs (sha (leafT p.t p.r p.v)) = root := by
      unfold holdsP
      rw [if_neg (by rw [hleaf]; simp)]
      exact ⟨fun h => h.2, fun h => ⟨hRise, h⟩⟩
    refine get_at2 (kpb hS) 2 2 (keyC p.t p.r) rfl rfl (by rw [add_mk, add_mk]) ?_
    refine (bytes_c p.t p.r w10).mono ?_
    rintro e w47 hby
    by_cases hk : KeyOk p.t
    rotate_left
    · rw [if_neg hk] at hby
      obtain ⟨rfl, t1⟩ := hby
      refine ⟨_, _, _, _, rfl, _, _, _, rfl, _, rfl, ?_⟩
      rintro w52 rfl
      replace hS := hS.quiet t1
      have ko : Blk _ _ [Value.slice none 0 0] := Blk.fresh w47 22 zcSl
      have hsz := hS.size
      have hres := (kres hS).lt
      have hpbl := (kpb hS).lt
      have hbbl := (kbb hS).lt
      have hr0l := (kr0 hS).lt
      replace hS := hS.alloc (.cells (zc Tryd.prog 22).toArray 22)
      generalize w47.alloc (.cells (zc Tryd.prog 22).toArray 22) = w52 at *
      refine put_one ko rfl fun w53 _ t2 => ?_
      rw [bif_nneg (by omega)]
      refine done (decide_eq_false fun hh => hk (hiff.1 hh).1).symm (hS.step t2 (fun g hg => ?_) fun j hj => .inr (by simp at hj; omega))
      simp only [L, List.mem_cons, List.not_mem_nil, or_false] at hg
      rcases hg with rfl | rfl | rfl | rfl <;> exact fBlk_off (by simp; omega)
    rw [if_pos hk] at hby
    obtain ⟨oa, oc, rfl, hown, t1⟩ := hby
    refine ⟨_, _, _, _, rfl, _, _, _, rfl, _, rfl, ?_⟩
    rintro w52 rfl
    have hsz0 := hS.size
    replace hS := hS.quiet t1
    have ho : RSl w47 1 oa 10 oc (u8 (keyB p.t p.r)) := own_rsl hown ones_ints
    have ko : Blk _ _ [Value.slice none 0 0] := Blk.fresh w47 22 zcSl
    have hsz := hS.size
    have hres := (kres hS).lt
    have hpbl := (kpb hS).lt
    have hbbl := (kbb hS).lt
    have hr0l := (kr0 hS).lt
    replace hS := hS.alloc (.cells (zc Tryd.prog 22).toArray 22)
    have t2 := (Tch.refl [] w47).alloc (.cells (zc Tryd.prog 22).toArray 22)
    replace ho := ho.tch t2 (fun _ _ h => by cases h)
    have s6 := size_alloc w47 (.cells (zc Tryd.prog 22).toArray 22)
    have hge := own_ge hown
    generalize w47.alloc (.cells (zc Tryd.prog 22).toArray 22) = w52 at *
    generalize w47.heap.size = ob at *
    refine put_one ko rfl fun w53 ko t3 => ?_
    replace hS := hS.step t3 (fun g hg => by
      simp only [L, List.mem_cons, List.not_mem_nil, or_false] at hg
      rcases hg with rfl | rfl | rfl | rfl <;> exact fBlk_off (by simp; omega)) fun j hj => .inr (by simp at hj; omega)
    replace ho := ho.tch t3 (fun y hy hm => by have := (hge y hy).2; simp at hm; omega)
    have s7 := t3.size
    rw [bif_npos rfl]
    refine get_part (kpb hS) 2 3 (rowC p.t p.r p.v) rfl rfl ?_
    refine (leafSum_c p.t p.r p.v w53 hk (hT.tch hS.tch)).mono ?_
    rintro e w58 ⟨rfl, t4⟩
    replace hS := hS.quiet t4
    replace ho := ho.tch t4 (fun _ _ h => by cases h)
    replace ko := ko.tch t4 (by simp)
    have s8 := t4.size
    refine ⟨_, rfl, ?_⟩
    refine var_init (n := 32) (by rw [zcDig]; rfl) (by rw [List.length_map, sha_length]) ones_ints fun w60 w61 kd t5 s9 => ?_
    replace hS := hS.quiet t5
    replace ho := ho.tch t5 (fun _ _ h => by cases h)
    replace ko := ko.tch t5 (by simp)
    generalize hd0 : sha (leafT p.t p.r p.v) = d0 at *
    have hd0l : d0.length = 32 ∧ Bytes d0 := by rw [← hd0]; exact ⟨sha_length _, sha_bytes _⟩
    generalize w58.heap.size = db at *
    refine ⟨a, n, c, by rw [add_mk]; exact (kpb hS).cell 0, ?_⟩
    refine c74 _ _ _ ?_
    unfold d74
    rintro w64 rfl
    have t6 := (Tch.refl [] w61).alloc (.cells #[.slice a n c] 41)
    have kB : Blk _ w61.heap.size [Value.slice a n c] := Blk.fresh w61 (cs := [.slice a n c]) 41 rfl
    have s10 := size_alloc w61 (.cells #[.slice a n c] 41)
    have e6 : w61.alloc (.cells [Value.slice a n c].toArray 41) = w61.alloc (.cells #[.slice a n c] 41) := rfl
    rw [e6] at kB
    generalize w61.alloc (.cells #[.slice a n c] 41) = V at *
    generalize w61.heap.size = Bs at *
    replace hS := hS.quiet t6
    replace ho := ho.tch t6 (fun _ _ h => by cases h)
    replace ko := ko.tch t6 (by simp)
    replace kd := kd.tch t6 (by simp)
    clear t1 t2 t3 t4 t5 t6 hown
    refine ⟨_, rfl, rfl, hasBody_spec (by kernel_rfl), ?_⟩
    have hVw := hS.tch
    have hpV := hp.quiet hVw
    let same (x : Fo) : Prop := bitS (keyB p.t p.r) x.1.2.bit = bitS kb x.1.2.bit
    refine ⟨Fo, encF, _, _, _, _, fun pre W => Tch [db] V W ∧ Blk W db (u8 (downD kb d0 pre)) ∧ ∀ x ∈ pre, same x, fun pre W => Tch [db, res] V W ∧ Blk W res [.bool false] ∧ ∃ x ∈ pre, ¬ same x,
      fun x y W => ∃ fb, y = some ⟨fb, 0, none⟩ ∧ V.heap.size ≤ fb ∧ Blk W fb (fkC x.1.2), fun x => ⟨_, _, rfl⟩, ?_, back_stops V Bs a n c p.fs (fun f hf => ⟨hp.1.fs f hf, hRise.rank f hf⟩) hpV.2 hn (kB.cell 0), ?_, ?_, ?_, fun pre W h => h.1.size, ⟨Tch.refl _ _, kd, by simp⟩, ?_, ?_, ?_, ?_⟩
    · -- what the iterator reads lies there
      intro k hk
      rcases List.mem_cons.1 hk with rfl | hk
      · exact kB.lt
      · by_cases hn0 : n = 0
        · rw [if_pos hn0] at hk; cases hk
        · rw [if_neg hn0] at hk
          rw [mem_rowL] at hk
          obtain ⟨y, rfl, rfl⟩ := hk
          obtain ⟨b', o', e, hc⟩ := hpV.2.elem' hlen (by omega) (i := 0) (x := p.fs[0]'(by omega)) (List.getElem?_eq_getElem (by omega))
          cases e
          have := hc 0 (.int .i64 (p.fs[0]'(by omega)).bit) rfl
          rw [add_mk] at this
          exact World.block_lt_of_cell? _ _ this
    · rintro pre W W' s ⟨h1, h2, h3⟩ ht hs
      refine ⟨h1.trans ht fun k hk => .inr (hs k hk).1, h2.tch ht fun hm => ?_, h3⟩
      have := (hs db hm).1
      omega
    · rintro pre W W' s ⟨h1, h2, h3⟩ ht hs
      refine ⟨h1.trans ht fun k hk => .inr (hs k hk).1, h2.tch ht fun hm => ?_, h3⟩
      have := (hs res hm).1
      omega
    · rintro x y W W' s ⟨fb, rfl, h1, h2⟩ ht hs
      refine ⟨fb, rfl, h1, h2.tch ht fun hm => ?_⟩
      obtain ⟨_, o, ho1, ho2⟩ := hs fb hm
      obtain ⟨T, hT'⟩ := h2
      rw [hT'] at ho1
      cases ho1
      cases ho2
    · -- the assignment
      rintro x pre W ⟨h1, h2, h3⟩ z cs he
      have he1 : cs = (fkC x.1.2).toArray := by
        simp only [encF, List.cons.injEq, Value.agg.injEq, and_true] at he
        exact he.2.symm
      subst he1
      refine var_init (n := 33) zcFork (by simp [x.2.1.2.1]) fkC_ones fun w71 w72 kf t7 s11 => ?_
      exact ⟨⟨t7, h1.trans t7 (by simp), h2.tch t7 (by simp), h3⟩, _, rfl, h1.size, kf⟩
    · -- a round
      rintro x pre W ⟨h1, h2, h3⟩ _ y ⟨fb, rfl, hfb, kf⟩ w73 rfl
      have q0 := (Tch.refl [] W).drew
      have hxo := x.2.1
      have hxr := x.2.2
      have hV := h1.trans q0 (by simp)
      replace h2 := h2.tch q0 (by simp)
      replace kf := kf.tch q0 (by simp)
      generalize W.drew = w73 at *
      have hsW : St w [] w73 L := hS.step hV (fun g hg => by
        simp only [L, List.mem_cons, List.not_mem_nil, or_false] at hg
        rcases hg with rfl | rfl | rfl | rfl <;> exact fBlk_off (by simp; omega)) fun j hj => .inr (by simp at hj; omega)
      have koW := ko.tch hV (by simp; omega)
      have hoW := ho.tch hV (fun y hy hm => by have := (hge y hy).2; simp at hm; omega)
      have hbW := hb.tch hsW.tch (fun _ _ h => by cases h)
      have hTW := hT.tch hsW.tch
      obtain ⟨⟨pi, f⟩, hfo, hfr⟩ := x
      have hfo : f.ok := hfo
      have hfr : Rk f.bit := hfr
      replace kf : Blk w73 fb (fkC f) := kf
      refine ⟨oa, 10, oc, koW.cell 0, ?_⟩
      refine ⟨f.bit, by rw [add_mk]; exact kf.cell 0, b, 10, bc, (kbb hsW).cell 0, ?_⟩
      refine ⟨f.bit, by rw [add_mk]; exact kf.cell 0, ?_⟩
      refine (bit_c w73 oa oc _ f.bit hoW hfr).mono ?_
      rintro e w81 ⟨rfl, rfl⟩
      refine ⟨_, rfl, ⟨f.bit, by rw [add_mk]; exact kf.cell 0, by constructor <;> first | rfl | trivial⟩, ⟨b, 10, bc, (kbb hsW).cell 0, by constructor <;> first | rfl | trivial⟩, ?_⟩
      refine (bit_c w81 b bc _ f.bit hbW hfr).mono ?_
      rintro e w86 ⟨rfl, rfl⟩
      refine ⟨_, rfl, ?_⟩
      by_cases hsm : bitS (keyB p.t p.r) f.bit = bitS kb f.bit
      rotate_left
      · rw [bif_nneg hsm]
        refine put_one (kres hsW) rfl fun w88 k8 t8 => ?_
        refine ⟨⟨[res], q0.weaken (by simp) |>.trans t8 fun i hi => .inl hi, by simp; omega⟩, (hV.weaken (by simp)).trans t8 fun i hi => .inl (by simp at hi; simp [hi]), k8, _, List.mem_append_right _ (List.mem_singleton.2 rfl), hsm⟩
      rw [bif_npos hsm]
      refine ⟨b, 10, bc, (kbb hsW).cell 0, ?_⟩
      refine ⟨f.bit, by rw [add_mk]; exact kf.cell 0, ?_⟩
      refine (bit_c w86 b bc _ f.bit hbW hfr).mono ?_
      rintro e w93 ⟨rfl, rfl⟩
      refine ⟨_, rfl, ?_⟩
      obtain ⟨hdl, hdb⟩ := downD_len (kb := kb) hd0l pre
      have fin : ∀ {u : World} {d' : List Int}, d' = stepD kb f (downD kb d0 pre) → Tch [] w93 u → Blk u db (u8 (downD kb d0 pre)) → Array.size (List.toArray (u8 d')) = 32 ∧ (∀ v ∈ Array.toList (List.toArray (u8 d')), one v = true) ∧ Room u ⟨db, 0, none⟩ 32 ∧
          ∀ w' : World, w' = setCells u ⟨db, 0, none⟩ (Array.toList (List.toArray (u8 d'))) 0 → ((∃ s, Tch s W w' ∧ ∀ k ∈ s, k < V.heap.size ∧ k ∉ (Bs :: if n = 0 then [] else rowL a)) ∧ Tch [db] V w' ∧ Blk w' db (u8 (downD kb d0 (pre ++ [⟨(pi, f), hfo, hfr⟩]))) ∧ ∀ x ∈ pre ++ [⟨(pi, f), hfo, hfr⟩], same x) := by
        intro u d' he ht hk
        refine put_all (n := 32) hk (by simpa using hdl) (by rw [he]; simpa using stepD_len.1) ones_ints fun w' k9 t9 s9' => ?_
        refine ⟨⟨[db], ((q0.trans ht (by simp)).weaken (by simp)).trans t9 fun i hi => .inl hi, fun k hk => ?_⟩, (hV.trans ht (by simp)).trans t9 fun i hi => .inl hi, ?_, fun z hz => ?_⟩
        · simp only [List.mem_singleton] at hk
          subst hk
          refine ⟨kd.lt, fun hm => ?_⟩
          rcases List.mem_cons.1 hm with hm | hm
          · omega
          · by_cases hn0 : n = 0
            · rw [if_pos hn0] at hm; cases hm
            · rw [if_neg hn0] at hm
              rw [mem_rowL] at hm
              obtain ⟨y, rfl, hy⟩ := hm
              obtain ⟨b', o', e, hc⟩ := hp.2.elem' hlen (by omega) (i := 0) (x := p.fs[0]'(by omega)) (List.getElem?_eq_getElem (by omega))
              cases e
              have := hc 0 (.int .i64 (p.fs[0]'(by omega)).bit) rfl
              rw [add_mk] at this
              have := World.block_lt_of_cell? _ _ this
              simp only at hy this
              omega
        · unfold downD
          rw [List.foldl_append]
          show Blk w' db (u8 (stepD kb f (downD kb d0 pre)))
          rw [← he]
          exact k9
        · rcases List.mem_append.1 hz with hz | hz
          · exact h3 z hz
          · rw [List.mem_singleton.1 hz]; exact hsm
      by_cases h0 : bitS kb f.bit = 0
      · rw [bif_pos h0]
        refine ⟨f.bit, by rw [add_mk]; exact kf.cell 0, ?_⟩
        refine get_all h2 (by simpa using hdl) ?_
        refine get_part kf 1 32 (u8 f.oth) (by show (u8 f.oth).take 32 = _; exact List.take_of_length_le (by rw [List.length_map, hfo.2.1]; exact Nat.le_refl _)) (by simpa using hfo.2.1) ?_
        refine (forkSum_c f.bit _ f.oth w93 hdl hfo.2.1 hdb hfo.2.2 hTW).mono ?_
        rintro e w101 ⟨rfl, ht⟩
        refine ⟨_, rfl, ?_⟩
        exact fin (by unfold stepD; rw [if_pos h0]) ht (h2.tch ht (by simp))
      · rw [bif_neg h0]
        refine ⟨f.bit, by rw [add_mk]; exact kf.cell 0, ?_⟩
        refine get_part kf 1 32 (u8 f.oth) (by show (u8 f.oth).take 32 = _; exact List.take_of_length_le (by rw [List.length_map, hfo.2.1]; exact Nat.le_refl _)) (by simpa using hfo.2.1) ?_
        refine get_all h2 (by simpa using hdl) ?_
        refine (forkSum_c f.bit f.oth _ w93 hfo.2.1 hdl hfo.2.2 hdb hTW).mono ?_
        rintro e w101 ⟨rfl, ht⟩
        refine ⟨_, rfl, ?_⟩
        exact fin (by unfold stepD; rw [if_neg h0]) ht (h2.tch ht (by simp))
    · -- behind the loop
      rintro D xs W hD hxs ⟨h1, h2, h3⟩ hh
      have hxs : xs.map (·.1.2) = p.fs.reverse := hxs
      have hDW : D < W.heap.size := (Array.getElem?_eq_some_iff.1 hh).1
      have hsW : St w [] W L := hS.step h1 (fun g hg => by
        simp only [L, List.mem_cons, List.not_mem_nil, or_false] at hg
        rcases hg with rfl | rfl | rfl | rfl <;> exact fBlk_off (by simp; omega)) fun j hj => .inr (by simp at hj; omega)
      obtain ⟨hdl, hdb⟩ := downD_len (kb := kb) hd0l xs
      have hall : ∀ f ∈ p.fs, bitS (keyB p.t p.r) f.bit = bitS kb f.bit := fun f hf => by
        have : f ∈ xs.map (·.1.2) := by rw [hxs]; exact List.mem_reverse.2 hf
        obtain ⟨x, hx, rfl⟩ := List.mem_map.1 this
        exact h3 x hx
      refine get_all h2 (by simpa using hdl) (get_all (kr0 hsW) (by simpa using hrl) ?_)
      have fin : ∀ {q : Bool}, q = decide (holdsP root kb p) → (one (.bool q) = true ∧ Option.isSome (World.cell? W ⟨res, 0, none⟩) = true ∧ World.frozen? W ⟨res, 0, none⟩ = false ∧
          ∀ w' : World, w' = World.setCell W ⟨res, 0, none⟩ (.bool q) → leaveK [D] w' fun w2 => ∃ z : Bool, World.cell? w2 ⟨res, 0, none⟩ = some (.bool z) ∧ (Ending.returned (.bool z) = .returned (.bool (decide (holdsP root kb p))) ∧ Tch [] w w2)) := by
        intro q hq
        refine put_one (kres hsW) rfl fun u' k t => ⟨by rw [t.block D hDW (by simp; omega)]; exact hh, fun w2 t2 => ⟨q, (k.tch t2 (by simp; omega)).cell 0, by rw [hq], (hsW.tch.trans t fun i hi => .inr ?_).trans t2 fun i hi => .inr ?_⟩⟩
        · simp at hi; omega
        · simp at hi; omega
      refine eq_flat dig_flat dig_eqT (dig_fits hdl hdb) (dig_fits hrl hrb) (fun he => ?_) (fun he => ?_)
      · exact fin (decide_eq_true (hiff.2 ⟨hk, hall, by rw [← downD_up hxs]; exact u8_eq.1 he⟩)).symm
      · exact fin (decide_eq_false fun hc => he (u8_eq.2 (by rw [downD_up hxs]; exact (hiff.1 hc).2.2))).symm
    · -- a return out of a round
      rintro D pre W hD hSp ⟨h1, h2, x, hx, hns⟩ hh
      have hDW : D < W.heap.size := (Array.getElem?_eq_some_iff.1 hh).1
      have hdbl := kd.lt
      refine ⟨hh, fun w2 t2 => ⟨false, (h2.tch t2 (by simp; omega)).cell 0, ?_, (hVw.trans h1 fun i hi => .inr ?_).trans t2 fun i hi => .inr ?_⟩⟩
      · rw [decide_eq_false fun hc => hns ((hiff.1 hc).2.1 x.1.2 (hSp x hx))]
      · simp at hi; omega
      · simp at hi; omega
end Go.Proofs.YtjkbjppopdfggaaDoor.Sha
