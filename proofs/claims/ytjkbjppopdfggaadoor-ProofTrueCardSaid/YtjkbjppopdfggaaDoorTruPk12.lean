/-
  holds: its contract.
  Verify: its contract.
  The reference's Verify: formed, Path, Verify: contracts.
  The reference's Path and Verify: contracts.
  TREES OVER ROWS: grow: its contract.
  TREES OVER ROWS: grow: its contract.
  TREES OVER ROWS: New: its contract.
  ARGUMENTS THAT ARE NESTED ROWS: what the row's reading says of memory ('open_rep').
  Own work. No macro, syntax, notation, axiom.
-/
import Derived.Test.YtjkbjppopdfggaaDoorTruPk11
import Derived.Test.YtjkbjppopdfggaaDoorTruPk7
import Derived.Test.YtjkbjppopdfggaaDoorTruPk3
import Derived.Test.YtjkbjppopdfggaaDoorTruPk8
namespace Go.Proofs.YtjkbjppopdfggaaDoor.Sha
open Go Den Fn
open Go.RowKit (Below)
open Classical
set_option maxRecDepth 8000
set_option maxHeartbeats 4000000
theorem zcFork : (zc Tryd.prog 51).length = 33 := by kernel_rfl
theorem zcSl : zc Tryd.prog 22 = [.slice none 0 0] := by kernel_rfl
theorem zcBo : zc Tryd.prog 4 = [.bool false] := by kernel_rfl
/-- The digest behind some rounds. -/
def downD (kb : List Int) (d : List Int) (xs : List Fo) : List Int := xs.foldl (fun d x => stepD kb x.1.2 d) d
theorem downD_len {kb d : List Int} (h : d.length = 32 ∧ Bytes d) : ∀ xs : List Fo, (downD kb d xs).length = 32 ∧ Bytes (downD kb d xs) := by
  intro xs
  induction xs generalizing d with
  | nil => exact h
  | cons x xs ih => exact ih stepD_len
theorem downD_up {kb d : List Int} {xs : List Fo} {fs : List Fk} (h : xs.map (·.1.2) = fs.reverse) : downD kb d xs = upD kb fs d := by
  have e : downD kb d xs = (xs.map (·.1.2)).foldl (fun d f => stepD kb f d) d := by
    unfold downD
    rw [List.foldl_map]
  rw [e, h, List.foldl_reverse]
  rfl
theorem holds_c (w : World) (root kb : List Int) (hrl : root.length = 32) (hrb : Bytes root) (b : Option Addr) (bc : Nat) (hb : RSl w 1 b 10 bc (u8 kb)) (p : Pf) (a : Option Addr) (n c : Nat) (hp : PfAt w a n c p) (hn : n ≤ 9223372036854775807) (hT : Tabs w) :
    Calls Tryd.prog 56 #[.agg (u8 root).toArray, .slice b 10 bc, .agg (pfC a n c p).toArray] w fun e w' => e = .returned (.bool (decide (holdsP root kb p))) ∧ Tch [] w w' := by
  have hpl := hp.len
  have hlen := fkC_len hp.1.fs
  refine c56 _ _ _ _ _ ?_
  unfold d56
  rintro w3 rfl w4 rfl w5 rfl w6 rfl
  have hS := ((((St.refl w []).new (u8 root) 24 rfl).new [.slice b 10 bc] 22 rfl).new (pfC a n c p) 43 rfl).new (cs := zc Tryd.prog 4) [.bool false] 4 zcBo
  have s1 := size_alloc w (.cells (u8 root).toArray 24)
  generalize w.alloc (.cells (u8 root).toArray 24) = w3 at *
  have s2 := size_alloc w3 (.cells #[.slice b 10 bc] 22)
  have e2 : w3.alloc (.cells [Value.slice b 10 bc].toArray 22) = w3.alloc (.cells #[.slice b 10 bc] 22) := rfl
  rw [e2] at hS
  generalize w3.alloc (.cells #[.slice b 10 bc] 22) = w4 at *
  have s3 := size_alloc w4 (.cells (pfC a n c p).toArray 43)
  generalize w4.alloc (.cells (pfC a n c p).toArray 43) = w5 at *
  have s4 := size_alloc w5 (.cells (zc Tryd.prog 4).toArray 4)
  generalize w5.alloc (.cells (zc Tryd.prog 4).toArray 4) = w6 at *
  generalize hw0 : w.heap.size = r0 at *
  generalize w3.heap.size = bb at *
  generalize w4.heap.size = pb at *
  generalize w5.heap.size = res at *
  let L : List Fact := [fBlk res [.bool false], fBlk pb (pfC a n c p), fBlk bb [.slice b 10 bc], fBlk r0 (u8 root)]
  replace hS : St w [] w6 L := hS
  have kres : ∀ {u : World}, St w [] u L → Blk u res [.bool false] := fun h => h.blk (by simp [L])
  have kpb : ∀ {u : World}, St w [] u L → Blk u pb (pfC a n c p) := fun h => h.blk (by simp [L])
  have kbb : ∀ {u : World}, St w [] u L → Blk u bb [.slice b 10 bc] := fun h => h.blk (by simp [L])
  have kr0 : ∀ {u : World}, St w [] u L → Blk u r0 (u8 root) := fun h => h.blk (by simp [L])
  -- an answer
  have done : ∀ {u : World} {q : Bool}, q = decide (holdsP root kb p) → St w [] u L → (one (.bool q) = true ∧ Option.isSome (World.cell? u ⟨res, 0, none⟩) = true ∧ World.frozen? u ⟨res, 0, none⟩ = false ∧
      ∀ w' : World, w' = World.setCell u ⟨res, 0, none⟩ (.bool q) → ∃ z : Bool, World.cell? w' ⟨res, 0, none⟩ = some (.bool z) ∧ (Ending.returned (.bool z) = .returned (.bool (decide (holdsP root kb p))) ∧ Tch [] w w')) := by
    intro u q hq hS
    refine put_one (kres hS) rfl fun u' k t => ⟨q, k.cell 0, by rw [hq], hS.tch.trans t fun i hi => .inr ?_⟩
    simp at hi
    omega
  refine ⟨a, n, c, by rw [add_mk]; exact (kpb hS).cell 0, ?_⟩
  refine ⟨fun m x u => ∃ i : Nat, x = i ∧ i ≤ n ∧ m = n - i ∧ St w [] u L ∧ RiseU p.fs i, ⟨n, 0, rfl, by omega, rfl, hS, fun i f hi => by omega⟩, ?_⟩
  clear hS
  rintro m w10 x ⟨i, rfl, hi, rfl, hS, hU⟩
  by_cases hin : i < n
  · rw [bif_pos (by omega)]
    have hfi : p.fs[i]? = some (p.fs[i]'(by omega)) := List.getElem?_eq_getElem (by omega)
    have hfm : p.fs[i]'(by omega) ∈ p.fs := List.getElem_mem _
    generalize p.fs[i]'(by omega) = f at hfi hfm
    have hfo := hp.1.fs f hfm
    refine ⟨by omega, by omega, ?_⟩
    rw [Int.toNat_natCast]
    have hr := (hp.quiet hS.tch).2
    refine hr.elem hlen (by omega) hfi ?_
    refine var_init (n := 33) zcFork (hlen f hfm) fkC_ones fun w14 w15 kf t1 s5 => ?_
    generalize w10.heap.size = fb at *
    rintro w16 rfl
    have q2 := (Tch.refl [] w15).drew
    replace hS := (hS.quiet t1).quiet q2
    replace kf := kf.tch q2 (by simp)
    generalize w15.drew = w16 at *
    refine ⟨f.bit, by rw [add_mk]; exact kf.cell 0, ?_⟩
    refine (rank_c f.bit w16).mono ?_
    rintro e w19 ⟨rfl, rfl⟩
    refine ⟨_, rfl, ?_⟩
    have hno : ∀ {P : Prop}, (RiseF p.fs → P) → ¬ P → ¬ holdsP root kb p := fun hP hn hh => hn (hP hh.1)
    by_cases hrk : Rk f.bit
    rotate_left
    · rw [bif_nneg (show ¬ (0 ≤ f.bit ∧ f.bit < 80) from hrk)]
      exact done (decide_eq_false (hno (fun h => (h i f (by omega) hfi).1) hrk)).symm hS
    rw [bif_npos (show 0 ≤ f.bit ∧ f.bit < 80 from hrk)]
    by_cases h0 : 0 < i
    · rw [bif_pos (by omega)]
      have hgi : p.fs[i - 1]? = some (p.fs[i - 1]'(by omega)) := List.getElem?_eq_getElem (by omega)
      generalize p.fs[i - 1]'(by omega) = g at hgi
      have ei : IntKind.wrap .i64 ((i : Int) - 1) = ((i - 1 : Nat) : Int) := by rw [wrap_i64 (by omega) (by omega)]; omega
      rw [ei]
      refine ⟨a, n, c, by rw [add_mk]; exact (kpb hS).cell 0, by omega, by omega, ?_⟩
      rw [Int.toNat_natCast]
      obtain ⟨b', o', rfl, hc⟩ := (hp.quiet hS.tch).2.elem' hlen (by omega) hgi
      refine ⟨g.bit, by rw [add_mk]; exact hc 0 _ rfl, f.bit, by rw [add_mk]; exact kf.cell 0, ?_⟩
      by_cases hle : f.bit ≤ g.bit
      · rw [bif_pos hle]
        exact done (decide_eq_false (hno (fun h => (h i f (by omega) hfi).2 g h0 hgi) (by omega))).symm hS
      · rw [bif_neg hle]
        exact ⟨n - (i + 1), by omega, i + 1, by rw [wrap_i64 (by omega) (by omega)]; omega, by omega, rfl, hS, hU.succ hfi hrk fun g' _ hg' => by rw [hgi] at hg'; cases hg'; omega⟩
    · rw [bif_neg (by omega)]
      exact ⟨n - (i + 1), by omega, i + 1, by rw [wrap_i64 (by omega) (by omega)]; omega, by omega, rfl, hS, hU.succ hfi hrk fun g' h _ => absurd h h0⟩
  rw [bif_neg (by omega)]
  have hRise : RiseF p.fs := by
    have : i = p.fs.length := by omega
    rw [this] at hU
    exact hU
  clear hU
  refine ⟨p.leaf, by rw [add_mk]; exact (kpb hS).cell 1, ?_⟩
  cases hleaf : p.leaf with
  | false =>
    rw [show (!false) = true from rfl, cond_true]
    have hiff : holdsP root kb p ↔ p.fs = [] ∧ (p.t = 0 ∧ p.r = 0 ∧ p.v = 0) ∧ root = z32 := by
      unfold holdsP
      rw [if_pos hleaf]
      exact ⟨fun h => h.2, fun h => ⟨hRise, h⟩⟩
    refine ⟨a, n, c, by rw [add_mk]; exact (kpb hS).cell 0, ?_⟩
    by_cases hn0 : n = 0
    rotate_left
    · rw [bif_neg (by omega)]
      exact done (decide_eq_false fun h => hn0 (by rw [← hpl, (hiff.1 h).1]; rfl)).symm hS
    rw [bif_pos (by omega)]
    refine get_part (kpb hS) 2 3 (rowC p.t p.r p.v) rfl rfl ?_
    refine ⟨rowC 0 0 0, by rw [zcRow]; rfl, ?_⟩
    refine eq_flat row_flat row_eqT (row_fits hp.1.t hp.1.r hp.1.v) (row_fits i64_0 i64_0 i64_0) (fun h => ?_) (fun h => ?_)
    · rw [cond_true]
      refine get_all (kr0 hS) (by simpa using hrl) ?_
      refine ⟨u8 z32, by rw [zcDig]; rfl, ?_⟩
      refine eq_flat dig_flat dig_eqT (dig_fits hrl hrb) (dig_fits rfl z32_bytes) (fun h2 => ?_) (fun h2 => ?_)
      · exact done (decide_eq_true (hiff.2 ⟨List.length_eq_zero_iff.1 (by omega), rowC_eq.1 h, u8_eq.1 h2⟩)).symm hS
      · exact done (decide_eq_false fun hh => h2 (u8_eq.2 (hiff.1 hh).2.2)).symm hS
    · rw [cond_false]
      exact done (decide_eq_false fun hh => h (rowC_eq.2 (hiff.1 hh).2.1)).symm hS
  | true =>
    rw [show (!true) = false from rfl, cond_false]
    have hiff : holdsP root kb p ↔ KeyOk p.t ∧ (∀ f ∈ p.fs, bitS (keyB p.t p.r) f.bit = bitS kb f.bit) ∧ upD kb p.fs (sha (leafT p.t p.r p.v)) = root := by
      unfold holdsP
      rw [if_neg (by rw [hleaf]; simp)]
      exact ⟨fun h => h.2, fun h => ⟨hRise, h⟩⟩
    refine get_at2 (kpb hS) 2 2 (keyC p.t p.r) rfl rfl (by rw [add_mk, add_mk]) ?_
    refine (bytes_c p.t p.r w10).mono ?_
    rintro e w47 hby
    by_cases hk : KeyOk p.t
    rotate_left
    · rw [if_neg hk] at hby
      obtain ⟨rfl, t1⟩ := hby
      refine ⟨_, _, _, _, rfl, _, _, _, rfl, _, rfl, ?_⟩
      rintro w52 rfl
      replace hS := hS.quiet t1
      have ko : Blk _ _ [Value.slice none 0 0] := Blk.fresh w47 22 zcSl
      have hsz := hS.size
      have hres := (kres hS).lt
      have hpbl := (kpb hS).lt
      have hbbl := (kbb hS).lt
      have hr0l := (kr0 hS).lt
      replace hS := hS.alloc (.cells (zc Tryd.prog 22).toArray 22)
      generalize w47.alloc (.cells (zc Tryd.prog 22).toArray 22) = w52 at *
      refine put_one ko rfl fun w53 _ t2 => ?_
      rw [bif_nneg (by omega)]
      refine done (decide_eq_false fun hh => hk (hiff.1 hh).1).symm (hS.step t2 (fun g hg => ?_) fun j hj => .inr (by simp at hj; omega))
      simp only [L, List.mem_cons, List.not_mem_nil, or_false] at hg
      rcases hg with rfl | rfl | rfl | rfl <;> exact fBlk_off (by simp; omega)
    rw [if_pos hk] at hby
    obtain ⟨oa, oc, rfl, hown, t1⟩ := hby
    refine ⟨_, _, _, _, rfl, _, _, _, rfl, _, rfl, ?_⟩
    rintro w52 rfl
    have hsz0 := hS.size
    replace hS := hS.quiet t1
    have ho : RSl w47 1 oa 10 oc (u8 (keyB p.t p.r)) := own_rsl hown ones_ints
    have ko : Blk _ _ [Value.slice none 0 0] := Blk.fresh w47 22 zcSl
    have hsz := hS.size
    have hres := (kres hS).lt
    have hpbl := (kpb hS).lt
    have hbbl := (kbb hS).lt
    have hr0l := (kr0 hS).lt
    replace hS := hS.alloc (.cells (zc Tryd.prog 22).toArray 22)
    have t2 := (Tch.refl [] w47).alloc (.cells (zc Tryd.prog 22).toArray 22)
    replace ho := ho.tch t2 (fun _ _ h => by cases h)
    have s6 := size_alloc w47 (.cells (zc Tryd.prog 22).toArray 22)
    have hge := own_ge hown
    generalize w47.alloc (.cells (zc Tryd.prog 22).toArray 22) = w52 at *
    generalize w47.heap.size = ob at *
    refine put_one ko rfl fun w53 ko t3 => ?_
    replace hS := hS.step t3 (fun g hg => by
      simp only [L, List.mem_cons, List.not_mem_nil, or_false] at hg
      rcases hg with rfl | rfl | rfl | rfl <;> exact fBlk_off (by simp; omega)) fun j hj => .inr (by simp at hj; omega)
    replace ho := ho.tch t3 (fun y hy hm => by have := (hge y hy).2; simp at hm; omega)
    have s7 := t3.size
    rw [bif_npos rfl]
    refine get_part (kpb hS) 2 3 (rowC p.t p.r p.v) rfl rfl ?_
    refine (leafSum_c p.t p.r p.v w53 hk (hT.tch hS.tch)).mono ?_
    rintro e w58 ⟨rfl, t4⟩
    replace hS := hS.quiet t4
    replace ho := ho.tch t4 (fun _ _ h => by cases h)
    replace ko := ko.tch t4 (by simp)
    have s8 := t4.size
    refine ⟨_, rfl, ?_⟩
    refine var_init (n := 32) (by rw [zcDig]; rfl) (by rw [List.length_map, sha_length]) ones_ints fun w60 w61 kd t5 s9 => ?_
    replace hS := hS.quiet t5
    replace ho := ho.tch t5 (fun _ _ h => by cases h)
    replace ko := ko.tch t5 (by simp)
    generalize hd0 : sha (leafT p.t p.r p.v) = d0 at *
    have hd0l : d0.length = 32 ∧ Bytes d0 := by rw [← hd0]; exact ⟨sha_length _, sha_bytes _⟩
    generalize w58.heap.size = db at *
    refine ⟨a, n, c, by rw [add_mk]; exact (kpb hS).cell 0, ?_⟩
    refine c74 _ _ _ ?_
    unfold d74
    rintro w64 rfl
    have t6 := (Tch.refl [] w61).alloc (.cells #[.slice a n c] 41)
    have kB : Blk _ w61.heap.size [Value.slice a n c] := Blk.fresh w61 (cs := [.slice a n c]) 41 rfl
    have s10 := size_alloc w61 (.cells #[.slice a n c] 41)
    have e6 : w61.alloc (.cells [Value.slice a n c].toArray 41) = w61.alloc (.cells #[.slice a n c] 41) := rfl
    rw [e6] at kB
    generalize w61.alloc (.cells #[.slice a n c] 41) = V at *
    generalize w61.heap.size = Bs at *
    replace hS := hS.quiet t6
    replace ho := ho.tch t6 (fun _ _ h => by cases h)
    replace ko := ko.tch t6 (by simp)
    replace kd := kd.tch t6 (by simp)
    clear t1 t2 t3 t4 t5 t6 hown
    refine ⟨_, rfl, rfl, hasBody_spec (by kernel_rfl), ?_⟩
    have hVw := hS.tch
    have hpV := hp.quiet hVw
    let same (x : Fo) : Prop := bitS (keyB p.t p.r) x.1.2.bit = bitS kb x.1.2.bit
    refine ⟨Fo, encF, _, _, _, _, fun pre W => Tch [db] V W ∧ Blk W db (u8 (downD kb d0 pre)) ∧ ∀ x ∈ pre, same x, fun pre W => Tch [db, res] V W ∧ Blk W res [.bool false] ∧ ∃ x ∈ pre, ¬ same x,
      fun x y W => ∃ fb, y = some ⟨fb, 0, none⟩ ∧ V.heap.size ≤ fb ∧ Blk W fb (fkC x.1.2), fun x => ⟨_, _, rfl⟩, ?_, back_stops V Bs a n c p.fs (fun f hf => ⟨hp.1.fs f hf, hRise.rank f hf⟩) hpV.2 hn (kB.cell 0), ?_, ?_, ?_, fun pre W h => h.1.size, ⟨Tch.refl _ _, kd, by simp⟩, ?_, ?_, ?_, ?_⟩
    · -- what the iterator reads lies there
      intro k hk
      rcases List.mem_cons.1 hk with rfl | hk
      · exact kB.lt
      · by_cases hn0 : n = 0
        · rw [if_pos hn0] at hk; cases hk
        · rw [if_neg hn0] at hk
          rw [mem_rowL] at hk
          obtain ⟨y, rfl, rfl⟩ := hk
          obtain ⟨b', o', e, hc⟩ := hpV.2.elem' hlen (by omega) (i := 0) (x := p.fs[0]'(by omega)) (List.getElem?_eq_getElem (by omega))
          cases e
          have := hc 0 (.int .i64 (p.fs[0]'(by omega)).bit) rfl
          rw [add_mk] at this
          exact World.block_lt_of_cell? _ _ this
    · rintro pre W W' s ⟨h1, h2, h3⟩ ht hs
      refine ⟨h1.trans ht fun k hk => .inr (hs k hk).1, h2.tch ht fun hm => ?_, h3⟩
      have := (hs db hm).1
      omega
    · rintro pre W W' s ⟨h1, h2, h3⟩ ht hs
      refine ⟨h1.trans ht fun k hk => .inr (hs k hk).1, h2.tch ht fun hm => ?_, h3⟩
      have := (hs res hm).1
      omega
    · rintro x y W W' s ⟨fb, rfl, h1, h2⟩ ht hs
      refine ⟨fb, rfl, h1, h2.tch ht fun hm => ?_⟩
      obtain ⟨_, o, ho1, ho2⟩ := hs fb hm
      obtain ⟨T, hT'⟩ := h2
      rw [hT'] at ho1
      cases ho1
      cases ho2
    · -- the assignment
      rintro x pre W ⟨h1, h2, h3⟩ z cs he
      have he1 : cs = (fkC x.1.2).toArray := by
        simp only [encF, List.cons.injEq, Value.agg.injEq, and_true] at he
        exact he.2.symm
      subst he1
      refine var_init (n := 33) zcFork (by simp [x.2.1.2.1]) fkC_ones fun w71 w72 kf t7 s11 => ?_
      exact ⟨⟨t7, h1.trans t7 (by simp), h2.tch t7 (by simp), h3⟩, _, rfl, h1.size, kf⟩
    · -- a round
      rintro x pre W ⟨h1, h2, h3⟩ _ y ⟨fb, rfl, hfb, kf⟩ w73 rfl
      have q0 := (Tch.refl [] W).drew
      have hxo := x.2.1
      have hxr := x.2.2
      have hV := h1.trans q0 (by simp)
      replace h2 := h2.tch q0 (by simp)
      replace kf := kf.tch q0 (by simp)
      generalize W.drew = w73 at *
      have hsW : St w [] w73 L := hS.step hV (fun g hg => by
        simp only [L, List.mem_cons, List.not_mem_nil, or_false] at hg
        rcases hg with rfl | rfl | rfl | rfl <;> exact fBlk_off (by simp; omega)) fun j hj => .inr (by simp at hj; omega)
      have koW := ko.tch hV (by simp; omega)
      have hoW := ho.tch hV (fun y hy hm => by have := (hge y hy).2; simp at hm; omega)
      have hbW := hb.tch hsW.tch (fun _ _ h => by cases h)
      have hTW := hT.tch hsW.tch
      obtain ⟨⟨pi, f⟩, hfo, hfr⟩ := x
      have hfo : f.ok := hfo
      have hfr : Rk f.bit := hfr
      replace kf : Blk w73 fb (fkC f) := kf
      refine ⟨oa, 10, oc, koW.cell 0, ?_⟩
      refine ⟨f.bit, by rw [add_mk]; exact kf.cell 0, b, 10, bc, (kbb hsW).cell 0, ?_⟩
      refine ⟨f.bit, by rw [add_mk]; exact kf.cell 0, ?_⟩
      refine (bit_c w73 oa oc _ f.bit hoW hfr).mono ?_
      rintro e w81 ⟨rfl, rfl⟩
      refine ⟨_, rfl, ⟨f.bit, by rw [add_mk]; exact kf.cell 0, by constructor <;> first | rfl | trivial⟩, ⟨b, 10, bc, (kbb hsW).cell 0, by constructor <;> first | rfl | trivial⟩, ?_⟩
      refine (bit_c w81 b bc _ f.bit hbW hfr).mono ?_
      rintro e w86 ⟨rfl, rfl⟩
      refine ⟨_, rfl, ?_⟩
      by_cases hsm : bitS (keyB p.t p.r) f.bit = bitS kb f.bit
      rotate_left
      · rw [bif_nneg hsm]
        refine put_one (kres hsW) rfl fun w88 k8 t8 => ?_
        refine ⟨⟨[res], q0.weaken (by simp) |>.trans t8 fun i hi => .inl hi, by simp; omega⟩, (hV.weaken (by simp)).trans t8 fun i hi => .inl (by simp at hi; simp [hi]), k8, _, List.mem_append_right _ (List.mem_singleton.2 rfl), hsm⟩
      rw [bif_npos hsm]
      refine ⟨b, 10, bc, (kbb hsW).cell 0, ?_⟩
      refine ⟨f.bit, by rw [add_mk]; exact kf.cell 0, ?_⟩
      refine (bit_c w86 b bc _ f.bit hbW hfr).mono ?_
      rintro e w93 ⟨rfl, rfl⟩
      refine ⟨_, rfl, ?_⟩
      obtain ⟨hdl, hdb⟩ := downD_len (kb := kb) hd0l pre
      have fin : ∀ {u : World} {d' : List Int}, d' = stepD kb f (downD kb d0 pre) → Tch [] w93 u → Blk u db (u8 (downD kb d0 pre)) → Array.size (List.toArray (u8 d')) = 32 ∧ (∀ v ∈ Array.toList (List.toArray (u8 d')), one v = true) ∧ Room u ⟨db, 0, none⟩ 32 ∧
          ∀ w' : World, w' = setCells u ⟨db, 0, none⟩ (Array.toList (List.toArray (u8 d'))) 0 → ((∃ s, Tch s W w' ∧ ∀ k ∈ s, k < V.heap.size ∧ k ∉ (Bs :: if n = 0 then [] else rowL a)) ∧ Tch [db] V w' ∧ Blk w' db (u8 (downD kb d0 (pre ++ [⟨(pi, f), hfo, hfr⟩]))) ∧ ∀ x ∈ pre ++ [⟨(pi, f), hfo, hfr⟩], same x) := by
        intro u d' he ht hk
        refine put_all (n := 32) hk (by simpa using hdl) (by rw [he]; simpa using stepD_len.1) ones_ints fun w' k9 t9 s9' => ?_
        refine ⟨⟨[db], ((q0.trans ht (by simp)).weaken (by simp)).trans t9 fun i hi => .inl hi, fun k hk => ?_⟩, (hV.trans ht (by simp)).trans t9 fun i hi => .inl hi, ?_, fun z hz => ?_⟩
        · simp only [List.mem_singleton] at hk
          subst hk
          refine ⟨kd.lt, fun hm => ?_⟩
          rcases List.mem_cons.1 hm with hm | hm
          · omega
          · by_cases hn0 : n = 0
            · rw [if_pos hn0] at hm; cases hm
            · rw [if_neg hn0] at hm
              rw [mem_rowL] at hm
              obtain ⟨y, rfl, hy⟩ := hm
              obtain ⟨b', o', e, hc⟩ := hp.2.elem' hlen (by omega) (i := 0) (x := p.fs[0]'(by omega)) (List.getElem?_eq_getElem (by omega))
              cases e
              have := hc 0 (.int .i64 (p.fs[0]'(by omega)).bit) rfl
              rw [add_mk] at this
              have := World.block_lt_of_cell? _ _ this
              simp only at hy this
              omega
        · unfold downD
          rw [List.foldl_append]
          show Blk w' db (u8 (stepD kb f (downD kb d0 pre)))
          rw [← he]
          exact k9
        · rcases List.mem_append.1 hz with hz | hz
          · exact h3 z hz
          · rw [List.mem_singleton.1 hz]; exact hsm
      by_cases h0 : bitS kb f.bit = 0
      · rw [bif_pos h0]
        refine ⟨f.bit, by rw [add_mk]; exact kf.cell 0, ?_⟩
        refine get_all h2 (by simpa using hdl) ?_
        refine get_part kf 1 32 (u8 f.oth) (by show (u8 f.oth).take 32 = _; exact List.take_of_length_le (by rw [List.length_map, hfo.2.1]; exact Nat.le_refl _)) (by simpa using hfo.2.1) ?_
        refine (forkSum_c f.bit _ f.oth w93 hdl hfo.2.1 hdb hfo.2.2 hTW).mono ?_
        rintro e w101 ⟨rfl, ht⟩
        refine ⟨_, rfl, ?_⟩
        exact fin (by unfold stepD; rw [if_pos h0]) ht (h2.tch ht (by simp))
      · rw [bif_neg h0]
        refine ⟨f.bit, by rw [add_mk]; exact kf.cell 0, ?_⟩
        refine get_part kf 1 32 (u8 f.oth) (by show (u8 f.oth).take 32 = _; exact List.take_of_length_le (by rw [List.length_map, hfo.2.1]; exact Nat.le_refl _)) (by simpa using hfo.2.1) ?_
        refine get_all h2 (by simpa using hdl) ?_
        refine (forkSum_c f.bit f.oth _ w93 hfo.2.1 hdl hfo.2.2 hdb hTW).mono ?_
        rintro e w101 ⟨rfl, ht⟩
        refine ⟨_, rfl, ?_⟩
        exact fin (by unfold stepD; rw [if_neg h0]) ht (h2.tch ht (by simp))
    · -- behind the loop
      rintro D xs W hD hxs ⟨h1, h2, h3⟩ hh
      have hxs : xs.map (·.1.2) = p.fs.reverse := hxs
      have hDW : D < W.heap.size := (Array.getElem?_eq_some_iff.1 hh).1
      have hsW : St w [] W L := hS.step h1 (fun g hg => by
        simp only [L, List.mem_cons, List.not_mem_nil, or_false] at hg
        rcases hg with rfl | rfl | rfl | rfl <;> exact fBlk_off (by simp; omega)) fun j hj => .inr (by simp at hj; omega)
      obtain ⟨hdl, hdb⟩ := downD_len (kb := kb) hd0l xs
      have hall : ∀ f ∈ p.fs, bitS (keyB p.t p.r) f.bit = bitS kb f.bit := fun f hf => by
        have : f ∈ xs.map (·.1.2) := by rw [hxs]; exact List.mem_reverse.2 hf
        obtain ⟨x, hx, rfl⟩ := List.mem_map.1 this
        exact h3 x hx
      refine get_all h2 (by simpa using hdl) (get_all (kr0 hsW) (by simpa using hrl) ?_)
      have fin : ∀ {q : Bool}, q = decide (holdsP root kb p) → (one (.bool q) = true ∧ Option.isSome (World.cell? W ⟨res, 0, none⟩) = true ∧ World.frozen? W ⟨res, 0, none⟩ = false ∧
          ∀ w' : World, w' = World.setCell W ⟨res, 0, none⟩ (.bool q) → leaveK [D] w' fun w2 => ∃ z : Bool, World.cell? w2 ⟨res, 0, none⟩ = some (.bool z) ∧ (Ending.returned (.bool z) = .returned (.bool (decide (holdsP root kb p))) ∧ Tch [] w w2)) := by
        intro q hq
        refine put_one (kres hsW) rfl fun u' k t => ⟨by rw [t.block D hDW (by simp; omega)]; exact hh, fun w2 t2 => ⟨q, (k.tch t2 (by simp; omega)).cell 0, by rw [hq], (hsW.tch.trans t fun i hi => .inr ?_).trans t2 fun i hi => .inr ?_⟩⟩
        · simp at hi; omega
        · simp at hi; omega
      refine eq_flat dig_flat dig_eqT (dig_fits hdl hdb) (dig_fits hrl hrb) (fun he => ?_) (fun he => ?_)
      · exact fin (decide_eq_true (hiff.2 ⟨hk, hall, by rw [← downD_up hxs]; exact u8_eq.1 he⟩)).symm
      · exact fin (decide_eq_false fun hc => he (u8_eq.2 (by rw [downD_up hxs]; exact (hiff.1 hc).2.2))).symm
    · -- a return out of a round
      rintro D pre W hD hSp ⟨h1, h2, x, hx, hns⟩ hh
      have hDW : D < W.heap.size := (Array.getElem?_eq_some_iff.1 hh).1
      have hdbl := kd.lt
      refine ⟨hh, fun w2 t2 => ⟨false, (h2.tch t2 (by simp; omega)).cell 0, ?_, (hVw.trans h1 fun i hi => .inr ?_).trans t2 fun i hi => .inr ?_⟩⟩
      · rw [decide_eq_false fun hc => hns ((hiff.1 hc).2.1 x.1.2 (hSp x hx))]
      · simp at hi; omega
      · simp at hi; omega
end Go.Proofs.YtjkbjppopdfggaaDoor.Sha
namespace Go.Proofs.YtjkbjppopdfggaaDoor.Sha
open Go Den Fn
open Go.RowKit (Below)
open Classical
set_option maxRecDepth 8000
set_option maxHeartbeats 4000000
abbrev cellC (x : Bool × Int) : List Value := [.bool x.1, .int .i64 x.2]
theorem zcCell : zc Tryd.prog 45 = cellC (false, 0) := by kernel_rfl
theorem key_flat : flatK Tryd.prog 6 29 = some [.int .i64, .int .i64] := by kernel_rfl
theorem key_eqT : eqT Tryd.prog 6 29 = true := by kernel_rfl
theorem key_fits {t r : Int} (ht : I64 t) (hr : I64 r) : Fits [.int .i64, .int .i64] (keyC t r) := ⟨⟨rfl, i64_wf.2 ht⟩, ⟨rfl, i64_wf.2 hr⟩, trivial⟩
/-- What a call of Verify hands back. -/
noncomputable def VerR (root : List Int) (t r : Int) (p : Pf) (w : World) (e : Ending) (w' : World) : Prop := e = .returned (.tuple #[.agg (cellC (verS root t r p).1).toArray, .int .i64 (verS root t r p).2]) ∧ Tch [] w w'
theorem verify_c (w : World) (root : List Int) (t r : Int) (hrl : root.length = 32) (hrb : Bytes root) (ht : I64 t) (hr : I64 r) (p : Pf) (a : Option Addr) (n c : Nat) (hp : PfAt w a n c p) (hn : n ≤ 9223372036854775807) (hT : Tabs w) :
    Calls Tryd.prog 18 #[.agg (u8 root).toArray, .agg (keyC t r).toArray, .agg (pfC a n c p).toArray] w (VerR root t r p w) := by
  refine c18 _ _ _ ?_
  unfold d18
  rintro w3 rfl w4 rfl w5 rfl w6 rfl
  have hS := ((((St.refl w []).new (u8 root) 24 rfl).new (keyC t r) 29 rfl).new (pfC a n c p) 43 rfl).new (cs := zc Tryd.prog 45) (cellC (false, 0)) 45 zcCell
  have s1 := size_alloc w (.cells (u8 root).toArray 24)
  generalize w.alloc (.cells (u8 root).toArray 24) = w3 at *
  have s2 := size_alloc w3 (.cells (keyC t r).toArray 29)
  generalize w3.alloc (.cells (keyC t r).toArray 29) = w4 at *
  have s3 := size_alloc w4 (.cells (pfC a n c p).toArray 43)
  generalize w4.alloc (.cells (pfC a n c p).toArray 43) = w5 at *
  generalize w5.alloc (.cells (zc Tryd.prog 45).toArray 45) = w6 at *
  generalize hw0 : w.heap.size = r0 at *
  generalize w3.heap.size = kb at *
  generalize w4.heap.size = pb at *
  generalize w5.heap.size = ob at *
  let L : List Fact := [fBlk ob (cellC (false, 0)), fBlk pb (pfC a n c p), fBlk kb (keyC t r), fBlk r0 (u8 root)]
  replace hS : St w [] w6 L := hS
  have kob : ∀ {u : World}, St w [] u L → Blk u ob (cellC (false, 0)) := fun h => h.blk (by simp [L])
  have kpb : ∀ {u : World}, St w [] u L → Blk u pb (pfC a n c p) := fun h => h.blk (by simp [L])
  have kkb : ∀ {u : World}, St w [] u L → Blk u kb (keyC t r) := fun h => h.blk (by simp [L])
  have kr0 : ∀ {u : World}, St w [] u L → Blk u r0 (u8 root) := fun h => h.blk (by simp [L])
  have done : ∀ {u : World} {x : Bool × Int} {e : Int}, verS root t r p = (x, e) → St w [] u L → (Array.size (List.toArray (cellC x)) = 2 ∧ (∀ v ∈ Array.toList (List.toArray (cellC x)), one v = true) ∧ Room u ⟨ob, 0, none⟩ 2 ∧
      ∀ w' : World, w' = setCells u ⟨ob, 0, none⟩ (Array.toList (List.toArray (cellC x))) 0 → ∃ cs : List Value, List.length cs = 2 ∧ Cells w' ⟨ob, 0, none⟩ cs ∧ VerR root t r p w (.returned (.tuple #[.agg (List.toArray cs), .int .i64 e])) w') := by
    intro u x e he hS
    refine put_all (n := 2) (kob hS) rfl rfl (by simp [one]) fun w' k t1 _ => ?_
    refine get_all k rfl ⟨by rw [he], hS.tch.trans t1 fun i hi => .inr ?_⟩
    simp at hi
    omega
  refine get_all (kkb hS) rfl ?_
  refine (bytes_c t r w6).mono ?_
  rintro e w9 hby
  by_cases hk : KeyOk t
  rotate_left
  · rw [if_neg hk] at hby
    obtain ⟨rfl, t1⟩ := hby
    refine ⟨_, _, _, _, rfl, _, _, _, rfl, _, rfl, ?_⟩
    rw [bif_nneg (by omega)]
    exact ⟨cellC (false, 0), by rw [zcCell]; rfl, done (by unfold verS; rw [if_pos hk]) (hS.quiet t1)⟩
  rw [if_pos hk] at hby
  obtain ⟨ka, kc, rfl, hown, t1⟩ := hby
  replace hS := hS.quiet t1
  refine ⟨_, _, _, _, rfl, _, _, _, rfl, _, rfl, ?_⟩
  rw [bif_npos rfl]
  refine get_all (kr0 hS) (by simpa using hrl) (get_all (kpb hS) rfl ?_)
  refine (holds_c w9 root (keyB t r) hrl hrb ka kc (own_rsl hown ones_ints) p a n c (hp.quiet hS.tch) hn (hT.tch hS.tch)).mono ?_
  rintro e w20 ⟨rfl, t2⟩
  replace hS := hS.quiet t2
  refine ⟨_, rfl, ?_⟩
  by_cases hh : holdsP root (keyB t r) p
  rotate_left
  · rw [bif_nneg hh]
    exact ⟨cellC (false, 0), by rw [zcCell]; rfl, done (by unfold verS; rw [if_neg (by simpa using hk), if_pos hh]) hS⟩
  rw [bif_npos hh]
  have hv : verS root t r p = if p.leaf = true ∧ p.t = t ∧ p.r = r then ((true, p.v), 0) else ((false, 0), 0) := by
    unfold verS
    rw [if_neg (by simpa using hk), if_neg (by simpa using hh)]
  refine ⟨p.leaf, by rw [add_mk]; exact (kpb hS).cell 1, ?_⟩
  cases hleaf : p.leaf with
  | false =>
    rw [cond_false]
    exact ⟨cellC (false, 0), by rw [zcCell]; rfl, done (by rw [hv, if_neg (by rw [hleaf]; simp)]) hS⟩
  | true =>
    rw [cond_true]
    refine get_at2 (kpb hS) 2 2 (keyC p.t p.r) rfl rfl (by rw [add_mk, add_mk]) ?_
    refine get_all (kkb hS) rfl ?_
    refine eq_flat key_flat key_eqT (key_fits hp.1.t hp.1.r) (key_fits ht hr) (fun he => ?_) (fun he => ?_)
    · rw [cond_true]
      refine ⟨p.v, by rw [add_mk, add_mk]; exact (kpb hS).cell 4, cellC (true, p.v), by rw [zcCell]; rfl, done ?_ hS⟩
      rw [hv, if_pos ⟨hleaf, by simpa using he⟩]
    · rw [cond_false]
      refine ⟨cellC (false, 0), by rw [zcCell]; rfl, done ?_ hS⟩
      rw [hv, if_neg fun hc => he (by rw [hc.2.1, hc.2.2])]
end Go.Proofs.YtjkbjppopdfggaaDoor.Sha
namespace Go.Proofs.YtjkbjppopdfggaaDoor.Sha
open Go Den Fn
open Go.RowKit (Below)
open Classical
set_option maxRecDepth 8000
set_option maxHeartbeats 4000000
/-- The same, for the first ones. -/
def SameU (a b : List Int) (fs : List Fk) (n : Nat) : Prop := ∀ (i : Nat) (f : Fk), i < n → fs[i]? = some f → bitS a f.bit = bitS b f.bit
theorem SameU.succ {a b : List Int} {fs : List Fk} {n : Nat} (h : SameU a b fs n) {f : Fk} (hf : fs[n]? = some f) (h1 : bitS a f.bit = bitS b f.bit) : SameU a b fs (n + 1) := fun i x hi hx => by
  by_cases e : i = n
  · subst e
    rw [hf] at hx
    cases hx
    exact h1
  · exact h i x (by omega) hx
end Go.Proofs.YtjkbjppopdfggaaDoor.Sha
namespace Go.Proofs.YtjkbjppopdfggaaDoor.Sha
open Go Den Fn
open Go.RowKit (Below)
open Classical
set_option maxRecDepth 8000
set_option maxHeartbeats 4000000
theorem noT : slT Tryd.prog 52 33 69 104 = true := by kernel_rfl
/-- The last node of a path: leaf or nothing. -/
def node0 (p : Pf) : Nd := if p.leaf = true then ⟨1, 0, z32, z32, p.t, p.r, p.v⟩ else Nd.zero
def forkN (kb : List Int) (f : Fk) (d : List Int) : Nd := if bitS kb f.bit = 1 then ⟨2, f.bit, f.oth, d, 0, 0, 0⟩ else ⟨2, f.bit, d, f.oth, 0, 0, 0⟩
/-- The first node of a path of some forks. -/
def topN (kb : List Int) (p : Pf) : List Fk → Nd
  | [] => node0 p
  | f :: l => forkN kb f (ofS (topN kb p l)).1
theorem node0_ok {p : Pf} (hp : p.ok) : (node0 p).ok := by
  unfold node0
  split
  · exact ⟨rfl, rfl, z32_bytes, z32_bytes, i64_1, i64_0, hp.t, hp.r, hp.v⟩
  · exact Nd.zero_ok
theorem i64_2 : I64 2 := by unfold I64; decide
theorem forkN_ok {kb : List Int} {f : Fk} {d : List Int} (hf : f.ok) (hd : d.length = 32) (hb : Bytes d) : (forkN kb f d).ok := by
  unfold forkN
  split
  · exact ⟨hf.2.1, hd, hf.2.2, hb, i64_2, hf.1, i64_0, i64_0, i64_0⟩
  · exact ⟨hd, hf.2.1, hb, hf.2.2, i64_2, hf.1, i64_0, i64_0, i64_0⟩
theorem topN_ok {kb : List Int} {p : Pf} (hp : p.ok) : ∀ {l : List Fk}, (∀ f ∈ l, f.ok) → (topN kb p l).ok
  | [], _ => node0_ok hp
  | f :: l, h => forkN_ok (h f (by simp)) (ofS_length _) (ofS_bytes _)
theorem bit01 : ∀ m : Fin 256, bAnd .u8 (m.val : Int) 1 = 0 ∨ bAnd .u8 (m.val : Int) 1 = 1 := by decide +kernel
theorem bitS_01 {kb : List Int} (hB : Bytes kb) {n : Int} (hn : Rk n) : bitS kb n = 0 ∨ bitS kb n = 1 := by
  obtain ⟨_, _, g1, g2, g3, g4⟩ := tdm hn
  have hx : 0 ≤ kb.getD (n / 8).toNat 0 ∧ kb.getD (n / 8).toNat 0 < 256 := by
    rw [List.getD_eq_getElem?_getD]
    cases h : kb[(n / 8).toNat]? with
    | none => simp
    | some x => exact hB x (List.mem_of_getElem? h)
  obtain ⟨h1, h2⟩ := shR_u8 hx.1 hx.2 (y := 7 - n % 8) (by omega)
  unfold bitS
  generalize shR .u8 (kb.getD (n / 8).toNat 0) (7 - n % 8) = z at *
  obtain ⟨m, rfl⟩ := Int.eq_ofNat_of_zero_le h1
  exact bit01 ⟨m, by omega⟩
theorem forkN_sum {kb : List Int} (hB : Bytes kb) {f : Fk} (hr : Rk f.bit) (d : List Int) : (ofS (forkN kb f d)).1 = stepD kb f d := by
  unfold Rk at hr
  unfold forkN stepD
  rcases bitS_01 hB (n := f.bit) hr with h | h
  · rw [if_neg (by rw [h]; decide), if_pos h]
    unfold ofS
    rw [if_neg (by simp), if_neg (by simp), if_pos ⟨rfl, ⟨rfl, rfl, rfl⟩, hr.1, hr.2⟩]
  · rw [if_pos h, if_neg (by rw [h]; decide)]
    unfold ofS
    rw [if_neg (by simp), if_neg (by simp), if_pos ⟨rfl, ⟨rfl, rfl, rfl⟩, hr.1, hr.2⟩]
theorem topN_up {kb : List Int} (hB : Bytes kb) {p : Pf} : ∀ {l : List Fk}, (∀ f ∈ l, Rk f.bit) → (ofS (topN kb p l)).1 = upD kb l (ofS (node0 p)).1
  | [], _ => rfl
  | f :: l, h => by
    show (ofS (forkN kb f (ofS (topN kb p l)).1)).1 = stepD kb f (upD kb l _)
    rw [forkN_sum hB (h f (by simp)), topN_up hB fun g hg => h g (by simp [hg])]
theorem put_part {w : World} {b n : Nat} {cs new : List Value} (h : Blk w b cs) (o : Nat) (ho : o + n ≤ cs.length) (hn : new.length = n) (h1 : ∀ u ∈ new, one u = true) {K : World → Prop}
    (hK : ∀ w', Blk w' b (splice cs o new) → Tch [b] w w' → w'.heap.size = w.heap.size → K w') :
    Array.size (List.toArray new) = n ∧ (∀ u ∈ Array.toList (List.toArray new), one u = true) ∧ Room w (Addr.add ⟨b, 0, none⟩ o) n ∧
      ∀ w' : World, w' = setCells w (Addr.add ⟨b, 0, none⟩ o) (Array.toList (List.toArray new)) 0 → K w' := by
  rw [add_mk, Nat.zero_add]
  refine ⟨by simpa using hn, by simpa using h1, h.room o n ho, ?_⟩
  rintro w' rfl
  exact hK _ (h.sets_at o (by show o + new.length ≤ _; omega)) (Tch.setCells (.inl (by simp)) (Tch.refl _ _)) size_setCells
theorem splice_mid {A M N B : List Value} (h : M.length = N.length) : splice (A ++ (M ++ B)) A.length N = A ++ (N ++ B) := by
  unfold splice
  rw [List.take_left, ← h, ← List.drop_drop, List.drop_left, List.drop_left]
theorem node_fill {b : Int} {d o : List Int} (hd : d.length = 32) (ho : o.length = 32) : fillL (.fields [(0, 1), (1, 1), (2, 32), (34, 32), (66, 3)]) Nd.zero.cells [(0, .int .i64 2), (1, .int .i64 b), (2, .agg (u8 d).toArray), (3, .agg (u8 o).toArray)] = some (Nd.mk 2 b d o 0 0 0).cells := by
  have e0 : fillL (.fields [(0, 1), (1, 1), (2, 32), (34, 32), (66, 3)]) Nd.zero.cells [(0, .int .i64 2), (1, .int .i64 b), (2, .agg (u8 d).toArray), (3, .agg (u8 o).toArray)] =
      fillL (.fields [(0, 1), (1, 1), (2, 32), (34, 32), (66, 3)]) ([.int .i64 2, .int .i64 b] ++ (u8 z32 ++ (u8 z32 ++ rowC 0 0 0))) [(2, .agg (u8 d).toArray), (3, .agg (u8 o).toArray)] := rfl
  have sd : (Value.agg (u8 d).toArray).cells.size = 32 := by show (u8 d).toArray.size = 32; simpa using hd
  have so : (Value.agg (u8 o).toArray).cells.size = 32 := by show (u8 o).toArray.size = 32; simpa using ho
  have e1 : fillL (.fields [(0, 1), (1, 1), (2, 32), (34, 32), (66, 3)]) ([.int .i64 2, .int .i64 b] ++ (u8 z32 ++ (u8 z32 ++ rowC 0 0 0))) [(2, .agg (u8 d).toArray), (3, .agg (u8 o).toArray)] =
      fillL (.fields [(0, 1), (1, 1), (2, 32), (34, 32), (66, 3)]) (([.int .i64 2, .int .i64 b] ++ u8 d) ++ (u8 z32 ++ rowC 0 0 0)) [(3, .agg (u8 o).toArray)] := by
    have := splice_mid (A := [.int .i64 2, .int .i64 b]) (M := u8 z32) (N := u8 d) (B := u8 z32 ++ rowC 0 0 0) (by simp [hd, z32])
    rw [List.append_assoc, ← this]
    simp only [fillL, Place.at, List.getElem?_cons_succ, List.getElem?_cons_zero, sd]
    rw [if_pos ⟨trivial, by simp [z32]⟩]
    rfl
  rw [e0, e1]
  have := splice_mid (A := [Value.int .i64 2, .int .i64 b] ++ u8 d) (M := u8 z32) (N := u8 o) (B := rowC 0 0 0) (by simp [ho, z32])
  have hl : ([Value.int .i64 2, .int .i64 b] ++ u8 d).length = 34 := by simp [hd]
  rw [hl] at this
  simp only [fillL, Place.at, List.getElem?_cons_succ, List.getElem?_cons_zero, so]
  rw [if_pos ⟨trivial, by simp [z32, hd]⟩]
  show some (splice _ 34 (u8 o)) = _
  rw [this]
  simp [Nd.cells]
/-- What Path hands back: nodes, the first one last. -/
def PathR (kb : List Int) (p : Pf) (n : Nat) (w : World) (e : Ending) (w' : World) : Prop := ∃ (x : Option Addr) (xc : Nat) (ns : List Nd), e = .returned (.slice x (n + 1) xc) ∧ (∀ m ∈ ns, m.ok) ∧ ns.length = n + 1 ∧ (∀ j : Nat, j ≤ n → ns[j]? = some (topN kb p (p.fs.drop (n - j)))) ∧ RSl w' 69 x (n + 1) xc (rows Nd.cells ns) ∧ Tch [] w w'
theorem path_c (w : World) (t r : Int) (hk : KeyOk t) (p : Pf) (a : Option Addr) (n c : Nat) (hp : PfAt w a n c p) (hrk : ∀ f ∈ p.fs, Rk f.bit) (hn : n ≤ 1000000000000) :
    Calls Tryd.prog 20 #[.agg (keyC t r).toArray, .agg (pfC a n c p).toArray] w (PathR (keyB t r) p n w) := by
  have hpl := hp.len
  have hlen := fkC_len hp.1.fs
  refine c20 _ _ ?_
  unfold d20
  rintro w2 rfl w3 rfl
  have hS := ((St.refl w []).new (keyC t r) 29 rfl).new (pfC a n c p) 43 rfl
  have s1 := size_alloc w (.cells (keyC t r).toArray 29)
  generalize w.alloc (.cells (keyC t r).toArray 29) = w2 at *
  have s2 := size_alloc w2 (.cells (pfC a n c p).toArray 43)
  generalize w2.alloc (.cells (pfC a n c p).toArray 43) = w3 at *
  generalize hw0 : w.heap.size = kb at *
  generalize w2.heap.size = pb at *
  let L : List Fact := [fBlk pb (pfC a n c p), fBlk kb (keyC t r)]
  replace hS : St w [] w3 L := hS
  have kpb : ∀ {u : World}, St w [] u L → Blk u pb (pfC a n c p) := fun h => h.blk (by simp [L])
  have kkb : ∀ {u : World}, St w [] u L → Blk u kb (keyC t r) := fun h => h.blk (by simp [L])
  refine ⟨Nd.zero.cells, by rw [zcNd]; rfl, ?_⟩
  have cell_ones : ∀ {m : Nd}, ∀ u ∈ m.cells, one u = true := by
    intro m u hu
    simp only [Nd.cells, List.mem_append, List.mem_cons, List.not_mem_nil, or_false, List.mem_map] at hu
    rcases hu with (((rfl | rfl) | ⟨_, _, rfl⟩) | ⟨_, _, rfl⟩) | rfl | rfl | rfl <;> rfl
  refine var_init (n := 69) (by rw [zcNd]; rfl) rfl cell_ones fun w5 w6 kn t1 s3 => ?_
  have hs3 := hS.size
  have hpbl := (kpb hS).lt
  have hkbl := (kkb hS).lt
  replace hS := hS.quiet t1
  generalize w3.heap.size = nb at *
  have stp : ∀ {u u' : World} {s : List Nat}, St w [] u L → Tch s u u' → (∀ k ∈ s, pb < k) → St w [] u' L := fun h ht hs => h.step ht (fun g hg => by
    simp only [L, List.mem_cons, List.not_mem_nil, or_false] at hg
    rcases hg with rfl | rfl <;> exact fBlk_off (fun hm => by have := hs _ hm; omega)) fun j hj => .inr (by have := hs j hj; omega)
  refine ⟨fun u => St w [] u L ∧ Blk u nb (node0 p).cells, ?_, ?_⟩
  · refine ⟨p.leaf, by rw [add_mk]; exact (kpb hS).cell 1, ?_⟩
    cases hleaf : p.leaf with
    | true =>
      rw [cond_true]
      refine get_part (kpb hS) 2 3 (rowC p.t p.r p.v) rfl rfl ?_
      refine ⟨(Nd.mk 1 0 z32 z32 p.t p.r p.v).cells, by rw [zcNd]; rfl, ?_⟩
      refine put_all (n := 69) kn rfl rfl cell_ones fun w11 k2 t2 _ => ⟨stp hS t2 (by simp; omega), ?_⟩
      unfold node0
      rw [if_pos hleaf]
      exact k2
    | false =>
      rw [cond_false]
      refine ⟨hS, ?_⟩
      unfold node0
      rw [if_neg (by rw [hleaf]; simp)]
      exact kn
  clear kn hS t1 s3
  rintro w12 ⟨hS, kn⟩
  have hno := node0_ok hp.1
  have hnl := Nd.cells_length hno
  refine get_all kn hnl ?_
  refine ⟨(node0 p).cells, fill1 (by rw [zcNd]; rfl) rfl hnl, ?_⟩
  rintro w15 rfl
  have hnbl := kn.lt
  have hown : (w12.alloc (.cells (node0 p).cells.toArray 33)).ownsRow w12.heap.size 33 69 (.slice (some ⟨w12.heap.size, 0, none⟩) 1 1) 1 (node0 p).cells :=
    (BlkT.new w12 (node0 p).cells.toArray 33).own (base := w12.heap.size) (size := 69) (n := 1) (Nat.le_refl _) (by rw [hnl]) (by omega)
  have t2 := (Tch.refl [] w12).alloc (.cells (node0 p).cells.toArray 33)
  have s4 := size_alloc w12 (.cells (node0 p).cells.toArray 33)
  generalize w12.alloc (.cells (node0 p).cells.toArray 33) = w15 at *
  replace hS := hS.quiet t2
  replace kn := kn.tch t2 (by simp)
  refine get_all kn hnl ?_
  refine (refOf_c (node0 p) hno w15).mono ?_
  rintro e w18 ⟨rfl, t3⟩
  replace hS := hS.quiet t3
  replace hown := own_up hown t3 (fun _ _ h => by cases h)
  have s5 := t3.size
  generalize hLb : w12.heap.size = lb at *
  refine ⟨_, _, rfl, _, rfl, _, rfl, ?_⟩
  refine var_init (n := 32) (by rw [zcDig]; rfl) (by rw [List.length_map, ofS_length]) ones_ints fun w23 w24 kd t4 s6 => ?_
  replace hS := hS.quiet t4
  replace hown := own_up hown t4 (fun _ _ h => by cases h)
  generalize w18.heap.size = db at *
  refine ⟨a, n, c, by rw [add_mk]; exact (kpb hS).cell 0, ?_⟩
  have hbaseL : ∀ {u : World} {y : Option Addr} {m q : Nat} {ns : List Nd}, u.ownsRow lb 33 69 (.slice y m q) m (rows Nd.cells ns) → db ∉ rowL y → True := fun _ _ => trivial
  clear hbaseL
  refine ⟨fun m y yn yc i u => ∃ (j : Nat) (ns : List Nd), i = (n : Int) - 1 - j ∧ j ≤ n ∧ m = n - j ∧ yn = j + 1 ∧ ns.length = j + 1 ∧ (∀ m ∈ ns, m.ok) ∧ (∀ i : Nat, i ≤ j → ns[i]? = some (topN (keyB t r) p (p.fs.drop (n - i)))) ∧ St w [] u L ∧ u.ownsRow lb 33 69 (.slice y yn yc) yn (rows Nd.cells ns) ∧ db ∉ rowL y ∧
      Blk u db (u8 (ofS (topN (keyB t r) p (p.fs.drop (n - j)))).1), ⟨n, 0, [node0 p], by rw [wrap_i64 (by omega) (by omega)]; omega, by omega, rfl, rfl, rfl, fun m hm => by rw [List.mem_singleton.1 hm]; exact hno, ?_, hS, ?_, ?_, ?_⟩, ?_⟩
  · intro i hi
    obtain rfl : i = 0 := by omega
    rw [List.drop_of_length_le (by omega)]; rfl
  · rw [show rows Nd.cells [node0 p] = (node0 p).cells by simp [rows]]; exact hown
  · simp [rowL]; omega
  · rw [List.drop_of_length_le (by omega)]; exact kd
  clear hS hown kd kn t2 t3 t4
  rintro m w28 y yn yc i ⟨j, ns, rfl, hj, rfl, rfl, hnsl, hnso, hnt, hS, hown, hdy, kd⟩
  have hrowsl : (rows Nd.cells ns).length = (j + 1) * 69 := by rw [rows_len (f := Nd.cells) (fun m hm => Nd.cells_length (hnso m hm)), hnsl]
  by_cases hjn : j < n
  rotate_left
  · rw [bif_neg (by omega)]
    have ej : j = n := by omega
    subst ej
    refine ⟨y, yc, ns, rfl, hnso, hnsl, ?_, own_rsl hown fun u hu => ?_, hS.tch⟩
    · exact hnt
    · obtain ⟨l, hl, hu⟩ := List.mem_flatten.1 hu
      obtain ⟨m, hm, rfl⟩ := List.mem_map.1 hl
      exact cell_ones u hu
  rw [bif_pos (by omega)]
  have hfi : p.fs[n - 1 - j]? = some (p.fs[n - 1 - j]'(by omega)) := List.getElem?_eq_getElem (by omega)
  have hfm : p.fs[n - 1 - j]'(by omega) ∈ p.fs := List.getElem_mem _
  have hdrop : p.fs.drop (n - (j + 1)) = p.fs[n - 1 - j]'(by omega) :: p.fs.drop (n - j) := by
    rw [show n - (j + 1) = n - 1 - j by omega, List.drop_eq_getElem_cons (by omega), show n - 1 - j + 1 = n - j by omega]
  generalize p.fs[n - 1 - j]'(by omega) = f at hfi hfm hdrop
  have hfo := hp.1.fs f hfm
  refine ⟨a, n, c, by rw [add_mk]; exact (kpb hS).cell 0, by omega, by omega, ?_⟩
  rw [show ((n : Int) - 1 - j).toNat = n - 1 - j by omega]
  refine ((hp.quiet hS.tch).2).elem hlen (by omega) hfi ?_
  refine var_init (n := 33) zcFork (hlen f hfm) fkC_ones fun w34 w35 kf t5 s7 => ?_
  have hdb28 := kd.lt
  have hgey := rowL_ge hown
  have hyfb : ∀ k ∈ rowL y, lb ≤ k ∧ k < w28.heap.size := hgey
  have hs28 := hS.size
  have hpb28 := (kpb hS).lt
  have hdpb : pb < db := by omega
  replace hS := hS.quiet t5
  replace hown := own_up hown t5 (fun _ _ h => by cases h)
  replace kd := kd.tch t5 (by simp)
  generalize hT : topN (keyB t r) p (p.fs.drop (n - j)) = T at *
  generalize w28.heap.size = fb at *
  have hdl : (ofS T).1.length = 32 := ofS_length _
  have hdB : Bytes (ofS T).1 := ofS_bytes _
  refine ⟨f.bit, by rw [add_mk]; exact kf.cell 0, ?_⟩
  refine get_all kd (by simpa using hdl) ?_
  refine get_part kf 1 32 (u8 f.oth) (by show (u8 f.oth).take 32 = _; exact List.take_of_length_le (by rw [List.length_map, hfo.2.1]; exact Nat.le_refl _)) (by simpa using hfo.2.1) ?_
  refine ⟨(Nd.mk 2 f.bit (ofS T).1 f.oth 0 0 0).cells, by rw [zcNd]; exact node_fill hdl hfo.2.1, ?_⟩
  have hmo : (Nd.mk 2 f.bit (ofS T).1 f.oth 0 0 0).ok := ⟨hdl, hfo.2.1, hdB, hfo.2.2, i64_2, hfo.1, i64_0, i64_0, i64_0⟩
  refine var_init (n := 69) (by rw [zcNd]; rfl) (Nd.cells_length hmo) cell_ones fun w40 w41 kx t6 s8 => ?_
  have hs35 := t5.size
  replace hS := hS.quiet t6
  replace hown := own_up hown t6 (fun _ _ h => by cases h)
  replace kd := kd.tch t6 (by simp)
  replace kf := kf.tch t6 (by simp)
  generalize w35.heap.size = xb at *
  have hF := forkN_ok (kb := keyB t r) hfo hdl hdB
  refine ⟨fun u => St w [] u L ∧ u.ownsRow lb 33 69 (.slice y (j + 1) yc) (j + 1) (rows Nd.cells ns) ∧ Blk u db (u8 (ofS T).1) ∧ Blk u xb (forkN (keyB t r) f (ofS T).1).cells, ?_, ?_⟩
  · refine get_all (kkb hS) rfl ?_
    refine ⟨f.bit, by rw [add_mk]; exact kf.cell 0, ?_⟩
    refine (refBit_c w41 t r f.bit hk (hrk f hfm)).mono ?_
    rintro e w46 ⟨rfl, t7⟩
    replace hS := hS.quiet t7
    replace hown := own_up hown t7 (fun _ _ h => by cases h)
    replace kd := kd.tch t7 (by simp)
    replace kf := kf.tch t7 (by simp)
    replace kx := kx.tch t7 (by simp)
    refine ⟨_, rfl, ?_⟩
    by_cases h1 : bitS (keyB t r) f.bit = 1
    · rw [bif_pos h1]
      have hkeep : ∀ {u u' : World}, u.ownsRow lb 33 69 (.slice y (j + 1) yc) (j + 1) (rows Nd.cells ns) → Tch [xb] u u' → u'.ownsRow lb 33 69 (.slice y (j + 1) yc) (j + 1) (rows Nd.cells ns) := fun h ht => own_keep' h fun z hz hlt => ht.block z hlt fun hm => by
        have := (hgey z (mem_rowL.2 hz)).2
        simp at hm
        omega
      refine get_part kf 1 32 (u8 f.oth) (by show (u8 f.oth).take 32 = _; exact List.take_of_length_le (by rw [List.length_map, hfo.2.1]; exact Nat.le_refl _)) (by simpa using hfo.2.1) ?_
      have hA : splice (Nd.mk 2 f.bit (ofS T).1 f.oth 0 0 0).cells 2 (u8 f.oth) = (Nd.mk 2 f.bit f.oth f.oth 0 0 0).cells := by
        have := splice_mid (A := [Value.int .i64 2, .int .i64 f.bit]) (M := u8 (ofS T).1) (N := u8 f.oth) (B := u8 f.oth ++ rowC 0 0 0) (by simp [hdl, hfo.2.1])
        simpa [Nd.cells] using this
      have hB : splice (Nd.mk 2 f.bit f.oth f.oth 0 0 0).cells 34 (u8 (ofS T).1) = (Nd.mk 2 f.bit f.oth (ofS T).1 0 0 0).cells := by
        have := splice_mid (A := [Value.int .i64 2, .int .i64 f.bit] ++ u8 f.oth) (M := u8 f.oth) (N := u8 (ofS T).1) (B := rowC 0 0 0) (by simp [hdl, hfo.2.1])
        rw [show ([Value.int .i64 2, .int .i64 f.bit] ++ u8 f.oth).length = 34 by simp [hfo.2.1]] at this
        simpa [Nd.cells] using this
      refine put_part (n := 32) kx 2 (by rw [Nd.cells_length hmo]; omega) (by simpa using hfo.2.1) ones_ints fun w49 kx t8 s9 => ?_
      rw [hA] at kx
      replace hS := stp hS t8 (by simp; omega)
      replace hown := hkeep hown t8
      replace kd := kd.tch t8 (by simp; omega)
      refine get_all kd (by simpa using hdl) ?_
      refine put_part (n := 32) kx 34 (by simp [Nd.cells, hfo.2.1]) (by simpa using hdl) ones_ints fun w51 kx t9 s10 => ?_
      rw [hB] at kx
      refine ⟨stp hS t9 (by simp; omega), hkeep hown t9, kd.tch t9 (by simp; omega), ?_⟩
      unfold forkN
      rw [if_pos h1]
      exact kx
    · rw [bif_neg h1]
      refine ⟨hS, hown, kd, ?_⟩
      unfold forkN
      rw [if_neg h1]
      exact kx
  clear hS hown kd kx kf t5 t6
  rintro w52 ⟨hS, hown, kd, kx⟩
  have hFl := Nd.cells_length hF
  refine get_all kx hFl ?_
  have hgey := rowL_ge hown
  have hxb := kx.lt
  refine app_elem_at noT hown (by rw [zcNd]; rfl) (ys := (forkN (keyB t r) f (ofS T).1).cells) rfl hFl cell_ones (by have := hS.size; omega) (by omega) (by omega) fun y' c' w57 hown' t10 hmv => ?_
  have hs57 := t10.size
  have hdbl := kd.lt
  have hpl2 : pb < lb := by omega
  replace hS := stp hS t10 (fun k hk => by have := hyfb k hk; omega)
  replace kd := kd.tch t10 hdy
  replace kx := kx.tch t10 (fun hm => by have := hyfb xb hm; omega)
  refine get_all kx hFl ?_
  refine (refOf_c _ hF w57).mono ?_
  rintro e w61 ⟨rfl, t11⟩
  replace hS := hS.quiet t11
  replace kd := kd.tch t11 (by simp)
  replace hown' := own_up hown' t11 (fun _ _ h => by cases h)
  refine ⟨_, _, rfl, _, rfl, _, rfl, ?_⟩
  have hdy' : db ∉ rowL y' := fun hm => by
    rw [mem_rowL] at hm
    obtain ⟨ad, rfl, hb⟩ := hm
    rcases hmv ad rfl with h | h
    · rw [hb] at h; exact hdy h
    · omega
  refine put_all (n := 32) kd (by simpa using hdl) (by rw [List.length_map, ofS_length]) ones_ints fun w66 kd t12 _ => ?_
  refine ⟨n - (j + 1), by omega, j + 1, ns ++ [forkN (keyB t r) f (ofS T).1], by rw [wrap_i64 (by omega) (by omega)]; omega, by omega, rfl, rfl, by simp [hnsl], fun m hm => ?_, ?_, stp hS t12 (by simp; omega), ?_, hdy', ?_⟩
  · rcases List.mem_append.1 hm with hm | hm
    · exact hnso m hm
    · rw [List.mem_singleton.1 hm]; exact hF
  · intro i hi
    by_cases hij : i ≤ j
    · rw [List.getElem?_append_left (by omega)]
      exact hnt i hij
    obtain rfl : i = j + 1 := by omega
    rw [hdrop, List.getElem?_append_right (by omega), hnsl, Nat.sub_self]
    show some _ = some (forkN (keyB t r) f (ofS (topN (keyB t r) p (p.fs.drop (n - j)))).1)
    rw [hT]
  · rw [rows_append, show rows Nd.cells [forkN (keyB t r) f (ofS T).1] = (forkN (keyB t r) f (ofS T).1).cells by simp [rows]]
    exact own_keep' hown' fun z hz hlt => t12.block z hlt fun hm => by
      simp only [List.mem_singleton] at hm
      subst hm
      exact hdy' (mem_rowL.2 hz)
  · rw [hdrop]
    show Blk w66 db (u8 (ofS (forkN (keyB t r) f (ofS (topN (keyB t r) p (p.fs.drop (n - j)))).1)).1)
    rw [hT]
    exact kd
end Go.Proofs.YtjkbjppopdfggaaDoor.Sha
namespace Go.Proofs.YtjkbjppopdfggaaDoor.Tre
open Go Den Fn Sha
open Go.RowKit (Below)
open Classical
set_option maxRecDepth 8000
set_option maxHeartbeats 4000000
theorem nodesT : MapT Tryd.prog 113 24 115 6 (List.replicate 32 (.int .u8)) := ⟨by kernel_rfl, dig_flat, dig_eqT⟩
theorem zcLeaf : zc Tryd.prog 148 = rowC 0 0 0 ++ u8 z32 := by kernel_rfl
theorem zcFk : zc Tryd.prog 153 = [.int .i64 0, .nilIface, .nilIface] ++ u8 z32 := by kernel_rfl
/-- Entries that are put in, in order. -/
noncomputable def insE (es : Ents) (L : List (List Int × Value)) : Ents := L.foldl (fun es q => mPut es (u8 q.1) q.2) es
theorem insE_append (es : Ents) (L M : List (List Int × Value)) : insE es (L ++ M) = insE (insE es L) M := by simp [insE]
def KeysD (es : Ents) : Prop := ∀ e ∈ es, Fits (List.replicate 32 (.int .u8)) e.1
theorem insE_keys : ∀ {L : List (List Int × Value)} {es : Ents}, KeysD es → (∀ q ∈ L, q.1.length = 32 ∧ Bytes q.1) → KeysD (insE es L)
  | [], _, h, _ => h
  | q :: L, es, h, hL => by
    show KeysD (insE (mPut es (u8 q.1) q.2) L)
    refine insE_keys (fun e he => ?_) fun r hr => hL r (by simp [hr])
    rcases mPut_keys he with h1 | h1
    · rw [h1]; exact dig_fits (hL q (by simp)).1 (hL q (by simp)).2
    · exact h e h1
theorem PartAt.sums {F : Nat → Prop} {w : World} : ∀ {tr : Tr} {v : Value} {L : List (List Int × Value)}, PartAt F w v tr L → ∀ q ∈ L, q.1.length = 32 ∧ Bytes q.1
  | .leaf x, v, L, ⟨b, _, _, _, h⟩ => fun q hq => by
    rw [h, List.mem_singleton] at hq
    rw [hq]; exact ⟨Tr.sum_len _, Tr.sum_bytes _⟩
  | .fork n l r, v, L, ⟨b, vl, vr, Ll, Lr, _, _, _, h1, h2, h⟩ => fun q hq => by
    rw [h] at hq
    rcases List.mem_append.1 hq with hq | hq
    · rcases List.mem_append.1 hq with hq | hq
      · exact PartAt.sums h1 q hq
      · exact PartAt.sums h2 q hq
    · rw [List.mem_singleton] at hq
      rw [hq]; exact ⟨Tr.sum_len _, Tr.sum_bytes _⟩
/-! ### What lies in cells is not in a map's block -/
theorem cell_past {w w' : World} {pb : Nat} {es : Ents} (hm : MapAt w pb es) (ht : Tch [pb] w w') {p : Addr} {v : Value} (h : w.cell? p = some v) : w'.cell? p = some v := by
  have hb : p.block ≠ pb := by
    rintro e
    obtain ⟨arr, c, hh, _⟩ := hm
    unfold World.cell? at h
    rw [e, hh] at h
    cases h
  rw [World.cell?_of_block (ht.block p.block (World.block_lt_of_cell? _ _ h) (by simpa using hb))]
  exact h
theorem rsl_past {w w' : World} {pb : Nat} {es : Ents} (hm : MapAt w pb es) (ht : Tch [pb] w w') {sz n c : Nat} {a : Option Addr} {cs : List Value} (h : RSl w sz a n c cs) : RSl w' sz a n c cs := by
  refine ⟨h.cap, h.len, h.ones, ?_⟩
  rcases h.at' with h' | ⟨b, o, h1, h2⟩
  · exact .inl h'
  · exact .inr ⟨b, o, h1, fun i v hv => cell_past hm ht (h2 i v hv)⟩
theorem FormsAt.past {w w' : World} {pb : Nat} {es : Ents} (hm : MapAt w pb es) (ht : Tch [pb] w w') {a : Option Addr} {c : Nat} {l : List Rw} (h : FormsAt w a c l) : FormsAt w' a c l := by
  obtain ⟨vs, h1, h2⟩ := h
  refine ⟨vs, rsl_past hm ht h1, fun i x hx => ?_⟩
  obtain ⟨b, d, g1, g2⟩ := h2 i x hx
  exact ⟨b, d, g1, rsl_past hm ht g2⟩
theorem Tabs.past {w w' : World} {pb : Nat} {es : Ents} (hm : MapAt w pb es) (ht : Tch [pb] w w') (h : Tabs w) : Tabs w' := ⟨fun i v hv => cell_past hm ht (h.1 i v hv), fun i v hv => cell_past hm ht (h.2 i v hv)⟩
theorem Blk.not_map {w : World} {b pb : Nat} {cs : List Value} {es : Ents} (h : Blk w b cs) (hm : MapAt w pb es) : b ≠ pb := by
  rintro rfl
  obtain ⟨T, h⟩ := h
  obtain ⟨arr, c, hh, _⟩ := hm
  rw [h] at hh
  cases hh
theorem FormsAt.part {w : World} {a : Option Addr} {c : Nat} {l : List Rw} (h : FormsAt w a c l) {i j : Nat} (hij : i ≤ j) (hj : j ≤ l.length) {a' : Option Addr} {c' : Nat} (ha : a' = if c = i then a else a.map fun y => y.add (i * 1)) (hc : c' = c - i) :
    FormsAt w a' c' ((l.drop i).take (j - i)) := by
  obtain ⟨vs, h1, h2⟩ := h
  have hlen : vs.length = l.length := by have := h1.len; simpa using this
  have hs := h1.sub hij hj
  rw [Nat.mul_one, Nat.mul_one] at hs
  subst ha hc
  have hl' : ((l.drop i).take (j - i)).length = j - i := by rw [List.length_take, List.length_drop]; omega
  refine ⟨_, by rw [hl', Nat.mul_one]; exact hs, fun q x hx => ?_⟩
  have hq : q < j - i := by have := (List.getElem?_eq_some_iff.1 hx).1; omega
  rw [List.getElem?_take, if_pos hq, List.getElem?_drop] at hx
  obtain ⟨b, d, g1, g2⟩ := h2 _ x hx
  exact ⟨b, d, by rw [List.getElem?_take, if_pos hq, List.getElem?_drop]; exact g1, g2⟩
theorem rows_part {l : List Rw} {i j : Nat} : ((rows rwC l).drop (i * 3)).take ((j - i) * 3) = rows rwC ((l.drop i).take (j - i)) := by
  have hd : ∀ (i : Nat) (l : List Rw), (rows rwC l).drop (i * 3) = rows rwC (l.drop i) := by
    intro i
    induction i with
    | zero => intro l; simp
    | succ i ih =>
      intro l
      cases l with
      | nil => simp [rows]
      | cons x l =>
        rw [rows_cons, show (i + 1) * 3 = (rwC x).length + i * 3 by show _ = 3 + i * 3; omega, ← List.drop_drop, List.drop_left, ih, List.drop_succ_cons]
  have htk : ∀ (i : Nat) (l : List Rw), (rows rwC l).take (i * 3) = rows rwC (l.take i) := by
    intro i
    induction i with
    | zero => intro l; simp [rows]
    | succ i ih =>
      intro l
      cases l with
      | nil => simp [rows]
      | cons x l =>
        rw [rows_cons, show (i + 1) * 3 = (rwC x).length + i * 3 by show _ = 3 + i * 3; omega, List.take_length_add_append, ih, List.take_succ_cons, rows_cons]
  rw [hd, htk]
theorem leaf_fill {x : Rw} {d : List Int} (hd : d.length = 32) : fillL (.fields [(0, 3), (3, 32)]) (rowC 0 0 0 ++ u8 z32) [(0, .agg (rwC x).toArray), (1, .agg (u8 d).toArray)] = some (rwC x ++ u8 d) := by
  have e0 : fillL (.fields [(0, 3), (3, 32)]) (rowC 0 0 0 ++ u8 z32) [(0, .agg (rwC x).toArray), (1, .agg (u8 d).toArray)] = fillL (.fields [(0, 3), (3, 32)]) (rwC x ++ u8 z32) [(1, .agg (u8 d).toArray)] := rfl
  have sd : (Value.agg (u8 d).toArray).cells.size = 32 := by show (u8 d).toArray.size = 32; simpa using hd
  have := splice_mid (A := rwC x) (M := u8 z32) (N := u8 d) (B := []) (by simp [hd, z32])
  rw [List.append_nil, List.append_nil, show (rwC x).length = 3 from rfl] at this
  rw [e0]
  simp only [fillL, Place.at, List.getElem?_cons_succ, List.getElem?_cons_zero, sd]
  rw [if_pos ⟨trivial, by simp [z32]⟩]
  show some (splice _ 3 (u8 d)) = _
  rw [this]
theorem fork_fill {n : Int} {vl vr : Value} (hl : vl.cells = #[vl]) (hr : vr.cells = #[vr]) : fillL (.fields [(0, 1), (1, 1), (2, 1), (3, 32)]) ([.int .i64 0, .nilIface, .nilIface] ++ u8 z32) [(0, .int .i64 n), (1, vl), (2, vr)] = some ([.int .i64 n, vl, vr] ++ u8 z32) := by
  simp only [fillL, Place.at, List.getElem?_cons_succ, List.getElem?_cons_zero, hl, hr]
  rfl
end Go.Proofs.YtjkbjppopdfggaaDoor.Tre
namespace Go.Proofs.YtjkbjppopdfggaaDoor.Tre
open Go Den Fn Sha
open Go.RowKit (Below)
open Classical
set_option maxRecDepth 8000
set_option maxHeartbeats 4000000
def Btw (A B k : Nat) : Prop := A ≤ k ∧ k < B
/-- What grow stands on. -/
structure GIn (w : World) (tb pb : Nat) (vt : Value) (es : Ents) (ra : Option Addr) (rc : Nat) (fa : Option Addr) (fc : Nat) (l : List Rw) : Prop where
  rws : RSl w 3 ra l.length rc (rows rwC l)
  forms : FormsAt w fa fc l
  tb : Blk w tb [vt, .map (some pb)]
  map : MapAt w pb es
  keys : KeysD es
  tabs : Tabs w
theorem GIn.quiet {w w' : World} {tb pb : Nat} {vt : Value} {es : Ents} {ra fa : Option Addr} {rc fc : Nat} {l : List Rw} (h : GIn w tb pb vt es ra rc fa fc l) (ht : Tch [] w w') : GIn w' tb pb vt es ra rc fa fc l :=
  ⟨h.rws.tch ht (fun _ _ h => by cases h), h.forms.quiet ht, h.tb.tch ht (by simp), h.map.tch ht (by simp), h.keys, h.tabs.tch ht⟩
theorem GIn.past {w w' : World} {tb pb : Nat} {vt : Value} {es es' : Ents} {ra fa : Option Addr} {rc fc : Nat} {l : List Rw} (h : GIn w tb pb vt es ra rc fa fc l) (ht : Tch [pb] w w') (hm : MapAt w' pb es') (hk : KeysD es') : GIn w' tb pb vt es' ra rc fa fc l :=
  ⟨rsl_past h.map ht h.rws, h.forms.past h.map ht, h.tb.tch ht (by simpa using Blk.not_map h.tb h.map), hm, hk, Tabs.past h.map ht h.tabs⟩
/-- What grow hands back. -/
def GrowR (w : World) (pb : Nat) (es : Ents) (t : Tr) (e : Ending) (w' : World) : Prop := ∃ v L, e = .returned v ∧ PartAt (Btw w.heap.size w'.heap.size) w' v t L ∧ MapAt w' pb (insE es L) ∧ Tch [pb] w w'
theorem grow_one (w : World) (x : Rw) (hx : x.ok) (tb pb : Nat) (vt : Value) (es : Ents) (ra fa : Option Addr) (rc fc : Nat) (h : GIn w tb pb vt es ra rc fa fc [x]) :
    Calls Tryd.prog 61 #[.pointer (some ⟨tb, 0, none⟩), .slice ra 1 rc, .slice fa 1 fc] w (GrowR w pb es (.leaf x)) := by
  refine c61 _ _ _ _ _ _ _ ?_
  unfold d61
  rw [bif_pos (by rfl)]
  rintro w3 rfl
  have ht := (Tch.refl [] w).drew
  have h3 := h.quiet ht
  generalize w.drew = w3 at *
  refine ⟨by omega, by omega, ?_⟩
  obtain ⟨rb, ro, rfl, hc⟩ := h3.rws.elem' rwC_len (by omega) (i := 0) (x := x) rfl
  refine ⟨rwC x, rfl, by rw [add_mk]; exact hc, by omega, by omega, rwC x, rfl, by rw [add_mk]; exact hc, ?_⟩
  refine (leafSum_c _ _ _ w3 hx.key h3.tabs).mono ?_
  rintro e w9 ⟨rfl, t9⟩
  have h9 := h3.quiet t9
  obtain ⟨rb', ro', e', hc9⟩ := h9.rws.elem' rwC_len (by omega) (i := 0) (x := x) rfl
  cases e'
  refine ⟨_, rfl, ⟨rwC x, rfl, by rw [add_mk]; exact hc9, rfl, rfl⟩, ?_⟩
  have hd : (sha (leafT x.t x.r x.v)).length = 32 := sha_length _
  refine ⟨rwC x ++ u8 (sha (leafT x.t x.r x.v)), by rw [zcLeaf]; exact leaf_fill hd, ?_⟩
  rintro w13 rfl
  have hB := Blk.fresh w9 (cs := rwC x ++ u8 (sha (leafT x.t x.r x.v))) 148 rfl
  have t13 := (ht.trans t9 (by simp)).alloc (.cells (rwC x ++ u8 (sha (leafT x.t x.r x.v))).toArray 148)
  have h13 := h.quiet t13
  have s13 := size_alloc w9 (.cells (rwC x ++ u8 (sha (leafT x.t x.r x.v))).toArray 148)
  have s9 := (ht.trans t9 (by simp)).size
  generalize w9.alloc (.cells (rwC x ++ u8 (sha (leafT x.t x.r x.v))).toArray 148) = w13 at *
  generalize w9.heap.size = nb at *
  rintro w14 rfl
  replace hB := hB.drew
  replace t13 := t13.drew
  replace h13 := h.quiet t13
  have s14 : w13.drew.heap.size = nb + 1 := s13
  generalize w13.drew = w14 at *
  refine ⟨some pb, by rw [add_mk]; exact h13.tb.cell 1, ?_⟩
  refine get_part hB 3 32 (u8 (sha (leafT x.t x.r x.v))) (by show (u8 _).take 32 = _; exact List.take_of_length_le (by rw [List.length_map, hd]; exact Nat.le_refl _)) (by rw [List.length_map]; exact hd) ?_
  refine nodesT.put h13.map h13.keys (dig_fits hd (sha_bytes _)) fun w18 m18 t18 => ?_
  refine ⟨_, [(sha (leafT x.t x.r x.v), .iface 146 (.pointer (some ⟨nb, 0, none⟩)))], rfl, ⟨nb, rfl, ⟨s9, by have := t18.size; omega⟩, hB.tch t18 (by simpa using Blk.not_map hB h13.map), rfl⟩, m18, ?_⟩
  exact (t13.weaken (t := [pb]) (by simp)).trans t18 (by simp)
theorem treeS_one {k : Nat} {x : Rw} : treeS (k + 1) [x] = .leaf x := by
  rw [treeS, if_pos (by rfl)]; rfl
theorem treeS_two {k : Nat} {l : List Rw} (h : 2 ≤ l.length) : treeS (k + 1) l = .fork (partBit l) (treeS k (l.take (partAt l (partBit l)))) (treeS k (l.drop (partAt l (partBit l)))) := by
  rw [treeS, if_neg (by omega)]
theorem cell_quiet {w w' : World} (ht : Tch [] w w') {p : Addr} {v : Value} (h : w.cell? p = some v) : w'.cell? p = some v := by
  rw [World.cell?_of_block (ht.block p.block (World.block_lt_of_cell? _ _ h) (by simp))]
  exact h
/-- Where the box of the bit stands. -/
def BoxAt (w : World) (n : Nat) (a : Option Addr) (u : World) : Prop := ∃ nb, a = some ⟨nb, 0, none⟩ ∧ Blk u nb [.int .i64 (n : Int)] ∧ Tch [] w u ∧ w.heap.size ≤ nb
theorem FormsAt.some {w : World} {a : Option Addr} {c : Nat} {l : List Rw} (h : FormsAt w a c l) (h1 : 1 ≤ l.length) : ∃ y, a = Option.some y := by
  cases a with
  | none => have := h.none; omega
  | some y => exact ⟨y, rfl⟩
theorem grow_c : ∀ (k : Nat) (l : List Rw) (w : World) (tb pb : Nat) (vt : Value) (es : Ents) (ra fa : Option Addr) (rc fc : Nat), 1 ≤ l.length → l.length ≤ k → l.length ≤ 1000000000000 → RowsOk l → GIn w tb pb vt es ra rc fa fc l →
    Calls Tryd.prog 61 #[.pointer (some ⟨tb, 0, none⟩), .slice ra l.length rc, .slice fa l.length fc] w (GrowR w pb es (treeS k l))
  | 0, l, w, tb, pb, vt, es, ra, fa, rc, fc, h1, h2, _, _, _ => by omega
  | k + 1, l, w, tb, pb, vt, es, ra, fa, rc, fc, h1, h2, hl, hR, h => by
    by_cases hone : l.length = 1
    · obtain ⟨x, rfl⟩ := List.length_eq_one_iff.1 hone
      rw [treeS_one]
      exact grow_one w x (hR.ok x (by simp)) tb pb vt es ra fa rc fc h
    rw [treeS_two (by omega)]
    have hP := partBit_ok hR (by omega)
    generalize partBit l = n at *
    obtain ⟨hp0, hpl, hn80⟩ := hP.at
    obtain ⟨x, y, hx, hy, hF, _, _⟩ := hP
    have hkx : Bytes (kw x) := keyB_bytes _ _
    have hky : Bytes (kw y) := keyB_bytes _ _
    refine c61 _ _ _ _ _ _ _ ?_
    unfold d61
    rw [bif_neg (by omega)]
    obtain ⟨f0, rfl⟩ := h.forms.some h1
    refine ⟨BoxAt w n, ?_, ?_⟩
    · rintro w20 rfl
      have ht := (Tch.refl [] w).drew
      have h3 := h.quiet ht
      have s3 : w.drew.heap.size = w.heap.size := rfl
      generalize w.drew = w3 at *
      obtain ⟨b1, c1, g1, g2⟩ := h3.forms.get hx
      obtain ⟨b2, c2, g3, g4⟩ := h3.forms.get hy
      rw [wrap_i64 (by omega) (by omega)]
      have hcast : (((l.length : Nat) : Int) - 1) = ((l.length - 1 : Nat) : Int) := by omega
      rw [hcast]
      refine ⟨by omega, by omega, b1, 10, c1, g1, by omega, by omega, b2, 10, c2, by rw [Int.toNat_natCast]; exact g3, ?_, ?_⟩
      · refine (differ_c w3 (kw x) (kw y) b1 b2 c1 c2 g2 g4 hkx hky n hF).mono ?_
        rintro e w26 ⟨rfl, t26⟩
        refine ⟨_, rfl, ?_⟩
        rintro w28 rfl
        have hB : Blk _ _ [Value.int .i64 0] := Blk.fresh w26 (cs := zc Tryd.prog 3) 3 rfl
        have t28 := (ht.trans t26 (by simp)).alloc (.cells (zc Tryd.prog 3).toArray 3)
        have s26 := t26.size
        generalize w26.alloc (.cells (zc Tryd.prog 3).toArray 3) = w28 at *
        generalize w26.heap.size = nb at *
        refine put_one hB rfl fun w29 hB t29 => ⟨nb, rfl, hB, ?_, by omega⟩
        exact t28.trans t29 (by simp; omega)
      · rintro w30 rfl
        have hB : Blk _ _ [Value.int .i64 0] := Blk.fresh w3 (cs := zc Tryd.prog 3) 3 rfl
        have t30 := ht.alloc (.cells (zc Tryd.prog 3).toArray 3)
        have q := (Tch.refl [] w3).alloc (.cells (zc Tryd.prog 3).toArray 3)
        have s30 := size_alloc w3 (.cells (zc Tryd.prog 3).toArray 3)
        replace g1 := cell_quiet q g1
        replace g3 := cell_quiet q g3
        replace g2 := g2.tch q (fun _ _ h => by cases h)
        replace g4 := g4.tch q (fun _ _ h => by cases h)
        generalize w3.alloc (.cells (zc Tryd.prog 3).toArray 3) = w30 at *
        generalize w3.heap.size = nb at *
        refine ⟨⟨b2, 10, c2, by rw [Int.toNat_natCast]; exact g3, rfl, rfl⟩, ⟨b1, 10, c1, g1, rfl, rfl⟩, ?_⟩
        refine (differ_c w30 (kw x) (kw y) b1 b2 c1 c2 g2 g4 hkx hky n hF).mono ?_
        rintro e w34 ⟨rfl, t34⟩
        refine ⟨_, rfl, ?_⟩
        refine put_one (hB.tch t34 (by simp)) rfl fun w36 hB t36 => ⟨nb, rfl, hB, ?_, by omega⟩
        exact (t30.trans t34 (by simp)).trans t36 (by simp; omega)
    · rintro u _ ⟨nb, rfl, hB, tu, hnb⟩
      have hu := h.quiet tu
      refine (indexFunc_c u l _ fc hu.forms n nb hB hn80 hpl hl).mono ?_
      rintro e w40 ⟨rfl, rfl⟩
      refine ⟨_, rfl, ?_⟩
      rintro w42 rfl
      replace hB := hB.drew
      replace tu := tu.drew
      replace hu := h.quiet tu
      have su := tu.size
      have hbl := hB.lt
      generalize w40.drew = w42 at *
      clear w40
      have hcap := hu.rws.cap
      have hcapf : l.length ≤ fc := by obtain ⟨vs, h1, _⟩ := hu.forms; exact h1.cap
      have hnp : nb ≠ pb := Blk.not_map hB hu.map
      refine ⟨_, hB.cell 0, by omega, by omega, by omega, by omega, by omega, by omega, by omega, by omega, ?_⟩
      generalize partAt l n = p at *
      rw [Int.toNat_natCast]
      have hA : GIn w42 tb pb vt es (if rc = 0 then ra else ra.map fun y => y.add (0 * 3)) (rc - 0) (if fc = 0 then some f0 else (some f0).map fun y => y.add (0 * 1)) (fc - 0) (l.take p) := by
        have hs := hu.rws.sub (l := 0) (hh := p) (by omega) (by omega)
        rw [rows_part] at hs
        have hf := hu.forms.part (i := 0) (j := p) (by omega) (by omega) rfl rfl
        rw [List.drop_zero, Nat.sub_zero] at hs hf
        exact ⟨by rw [List.length_take, Nat.min_eq_left (by omega)]; exact hs, hf, hu.tb, hu.map, hu.keys, hu.tabs⟩
      have hA := grow_c k (l.take p) w42 tb pb vt es _ _ _ _ (by rw [List.length_take]; omega) (by rw [List.length_take]; omega) (by rw [List.length_take]; omega) (hR.take p) hA
      rw [List.length_take, Nat.min_eq_left (by omega)] at hA
      refine hA.mono ?_
      rintro e w46 ⟨vl, Ll, rfl, pl, ml, tl⟩
      have kl := insE_keys hu.keys pl.sums
      have h46 := hu.past tl ml kl
      have sl := tl.size
      replace hB := hB.tch tl (by simpa using hnp)
      refine ⟨vl, rfl, ⟨_, hB.cell 0, rfl, rfl⟩, ?_⟩
      have hC : GIn w46 tb pb vt (insE es Ll) (if rc = p then ra else ra.map fun y => y.add (p * 3)) (rc - p) (if fc = p then some f0 else (some f0).map fun y => y.add (p * 1)) (fc - p) (l.drop p) := by
        have hs := h46.rws.sub (l := p) (hh := l.length) (by omega) (by omega)
        rw [rows_part] at hs
        have hf := h46.forms.part (i := p) (j := l.length) (by omega) (by omega) rfl rfl
        have he : (l.drop p).take (l.length - p) = l.drop p := List.take_of_length_le (by rw [List.length_drop]; exact Nat.le_refl _)
        rw [he] at hs hf
        exact ⟨by rw [List.length_drop]; exact hs, hf, h46.tb, h46.map, h46.keys, h46.tabs⟩
      have hC := grow_c k (l.drop p) w46 tb pb vt (insE es Ll) _ _ _ _ (by rw [List.length_drop]; omega) (by rw [List.length_drop]; omega) (by rw [List.length_drop]; omega) (hR.drop p) hC
      rw [List.length_drop] at hC
      refine hC.mono ?_
      rintro e w51 ⟨vr, Lr, rfl, pr, mr, tr⟩
      have kr := insE_keys kl pr.sums
      have h51 := h46.past tr mr kr
      have sr := tr.size
      replace hB := hB.tch tr (by simpa using hnp)
      replace pl := pl.tch tr (by
        simp only [List.mem_singleton]
        rintro _ rfl ⟨h1, h2⟩
        have := h.map.lt
        omega)
      refine ⟨vr, rfl, ⟨_, hB.cell 0, rfl, rfl⟩, ?_⟩
      generalize treeS k (l.take p) = Tl at *
      generalize treeS k (l.drop p) = T2 at *
      have hvl : vl.cells = #[vl] := by obtain ⟨b, h | h⟩ := pl.shape <;> rw [h] <;> rfl
      have hvr : vr.cells = #[vr] := by obtain ⟨b, h | h⟩ := pr.shape <;> rw [h] <;> rfl
      refine ⟨[.int .i64 (n : Int), vl, vr] ++ u8 z32, by rw [zcFk]; exact fork_fill hvl hvr, ?_⟩
      rintro w56 rfl
      generalize hcs : ([.int .i64 (n : Int), vl, vr] ++ u8 z32 : List Value) = cs
      have hK : Blk _ _ cs := Blk.fresh w51 (cs := cs) 153 rfl
      have t56 := (Tch.refl [] w51).alloc (.cells cs.toArray 153)
      have s56 := size_alloc w51 (.cells cs.toArray 153)
      generalize w51.alloc (.cells cs.toArray 153) = w56 at *
      generalize hfb : w51.heap.size = fb at hK s56 ⊢
      subst hcs
      rintro w57 rfl
      replace hK := hK.drew
      replace t56 := t56.drew
      replace s56 : w56.drew.heap.size = fb + 1 := s56
      generalize w56.drew = w57 at *
      replace hB := hB.tch t56 (by simp)
      have h57 := h51.quiet t56
      have pl7 := pl.tch t56 (by simp)
      have pr7 := pr.tch t56 (by simp)
      refine ⟨_, hB.cell 0, vl, by rw [add_mk]; exact hK.cell 1, vr, by rw [add_mk]; exact hK.cell 2, ?_⟩
      refine digest_k pl7 fun w67 t67 => ?_
      have k67 := hK.tch t67 (by simp)
      have b67 := hB.tch t67 (by simp)
      refine ⟨⟨vr, by rw [add_mk]; exact k67.cell 2, rfl, rfl⟩, ⟨_, b67.cell 0, rfl, rfl⟩, ?_⟩
      refine digest_k (pr7.tch t67 (by simp)) fun w77 t77 => ?_
      have b77 := b67.tch t77 (by simp)
      have h77 := (h57.quiet t67).quiet t77
      refine ⟨⟨_, b77.cell 0, rfl, rfl⟩, ?_⟩
      refine (forkSum_c n _ _ w77 (Tr.sum_len Tl) (Tr.sum_len T2) (Tr.sum_bytes Tl) (Tr.sum_bytes T2) h77.tabs).mono ?_
      rintro e w82 ⟨rfl, t82⟩
      have q := (t67.trans t77 (by simp)).trans t82 (by simp)
      have hd : (sha (forkT (n : Int) Tl.sum T2.sum)).length = 32 := sha_length _
      refine ⟨_, rfl, ?_⟩
      refine put_part (hK.tch q (by simp)) 3 (by simp [z32]) (by rw [List.length_map]; exact hd) ones_ints fun w84 k84 t84 s84 => ?_
      replace k84 : Blk w84 fb ([.int .i64 (n : Int), vl, vr] ++ u8 (sha (forkT (n : Int) Tl.sum T2.sum))) := by
        have := splice_mid (A := [.int .i64 (n : Int), vl, vr]) (M := u8 z32) (N := u8 (sha (forkT (n : Int) Tl.sum T2.sum))) (B := []) (by simp [hd, z32])
        rw [List.append_nil, List.append_nil] at this
        rw [show ([Value.int .i64 (n : Int), vl, vr] : List Value).length = 3 from rfl] at this
        rw [this] at k84
        exact k84
      have h82 := h57.quiet q
      have q51 := t56.trans q (by simp)
      have q84 : Tch [] w51 w84 := q51.trans t84 (by simp; omega)
      have h84 := h51.quiet q84
      rintro w85 rfl
      replace q84 := q84.drew
      replace h84 := h51.quiet q84
      replace k84 := k84.drew
      have s85 : w84.drew.heap.size = w84.heap.size := rfl
      generalize w84.drew = w85 at *
      refine ⟨some pb, by rw [add_mk]; exact h84.tb.cell 1, ?_⟩
      refine get_part k84 3 32 (u8 (sha (forkT (n : Int) Tl.sum T2.sum))) (by show (u8 _).take 32 = _; exact List.take_of_length_le (by rw [List.length_map, hd]; exact Nat.le_refl _)) (by rw [List.length_map]; exact hd) ?_
      refine nodesT.put h84.map h84.keys (dig_fits hd (sha_bytes _)) fun w89 m89 t89 => ?_
      have z1 := q84.size
      have z2 := t89.size
      have z3 := q.size
      refine ⟨_, Ll ++ Lr ++ [(sha (forkT (n : Int) Tl.sum T2.sum), .iface 151 (.pointer (some ⟨fb, 0, none⟩)))], rfl, ?_, ?_, ?_⟩
      · refine ⟨fb, vl, vr, Ll, Lr, rfl, ⟨by omega, by omega⟩, k84.tch t89 (by simpa using Blk.not_map k84 h84.map), ?_, ?_, rfl⟩
        · refine ((pl.tch q84 (by simp)).tch t89 ?_).mono fun z hz => ⟨by have := hz.1; omega, by have := hz.2; omega⟩
          simp only [List.mem_singleton]
          rintro _ rfl ⟨h1, h2⟩
          have := h.map.lt
          omega
        · refine ((pr.tch q84 (by simp)).tch t89 ?_).mono fun z hz => ⟨by have := hz.1; omega, by have := hz.2; omega⟩
          simp only [List.mem_singleton]
          rintro _ rfl ⟨h1, h2⟩
          have := h.map.lt
          omega
      · rw [insE_append, insE_append]
        exact m89
      · refine ((((tu.weaken (t := [pb]) (by simp)).trans tl (by simp)).trans tr (by simp)).trans q84 (by simp)).trans t89 (by simp)
end Go.Proofs.YtjkbjppopdfggaaDoor.Tre
namespace Go.Proofs.YtjkbjppopdfggaaDoor.Tre
open Go Den Fn Sha
open Go.RowKit (Below)
open Classical
set_option maxRecDepth 8000
set_option maxHeartbeats 4000000
structure Rw.wf (x : Rw) : Prop where
  t : Sha.I64 x.t
  r : Sha.I64 x.r
  v : Sha.I64 x.v
theorem up_of_rises : ∀ {l : List (Int × Int)}, Lib.RisesS l → Up l
  | [], _ => List.Pairwise.nil
  | x :: l, h => by
    have h' : Lib.RisesS l := ⟨fun k hk => h.1 k (by simp [hk]), fun i a b ha hb => h.2 (i + 1) a b (by simpa using ha) (by simpa using hb)⟩
    refine List.pairwise_cons.2 ⟨?_, up_of_rises h'⟩
    have go : ∀ (j : Nat) (b : Int × Int), l[j]? = some b → Lib.cmpK x b < 0 := by
      intro j
      induction j with
      | zero => intro b hb; exact h.2 0 x b rfl (by rw [List.getElem?_cons_succ]; exact hb)
      | succ j ih =>
        intro b hb
        have hj : l[j]? = some (l[j]'(by have := (List.getElem?_eq_some_iff.1 hb).1; omega)) := List.getElem?_eq_getElem _
        exact lt_trans' (ih _ hj) (h.2 (j + 1) _ b (by rw [List.getElem?_cons_succ]; exact hj) (by rw [List.getElem?_cons_succ]; exact hb))
    intro b hb
    obtain ⟨j, hj⟩ := List.getElem?_of_mem hb
    exact go j b hj
theorem rises_of_up {l : List (Int × Int)} (hk : ∀ k ∈ l, Lib.KeyOk k.1) (h : Up l) : Lib.RisesS l := ⟨hk, fun i a b ha hb => by
  obtain ⟨h1, rfl⟩ := List.getElem?_eq_some_iff.1 ha
  obtain ⟨h2, rfl⟩ := List.getElem?_eq_some_iff.1 hb
  exact List.pairwise_iff_getElem.1 h i (i + 1) h1 h2 (by omega)⟩
theorem rowsOk_of {l : List Rw} (hl : ∀ x ∈ l, x.wf) (h : Lib.RisesS (keysOf l)) : RowsOk l := ⟨fun x hx => ⟨h.1 x.k (List.mem_map_of_mem hx), (hl x hx).t, (hl x hx).r, (hl x hx).v⟩, up_of_rises h⟩
theorem keys_kI {l : List Rw} (hl : ∀ x ∈ l, x.wf) : ∀ k ∈ keysOf l, Lib.kI k := fun k hk => by
  obtain ⟨x, hx, rfl⟩ := List.mem_map.1 hk
  exact ⟨(hl x hx).t, (hl x hx).r⟩
theorem put_cell {w : World} {b : Nat} {cs : List Value} (h : Blk w b cs) (o : Nat) (ho : o < cs.length) {v : Value} (h1 : one v = true) {K : World → Prop}
    (hK : ∀ w', Blk w' b (cs.set o v) → Tch [b] w w' → w'.heap.size = w.heap.size → K w') :
    one v = true ∧ Option.isSome (World.cell? w (Addr.add ⟨b, 0, none⟩ o)) = true ∧ World.frozen? w (Addr.add ⟨b, 0, none⟩ o) = false ∧ ∀ w' : World, w' = World.setCell w (Addr.add ⟨b, 0, none⟩ o) v → K w' := by
  rw [add_mk, Nat.zero_add]
  refine ⟨h1, by rw [h.cell, List.getElem?_eq_getElem ho]; rfl, h.frozen o, ?_⟩
  rintro w' rfl
  exact hK _ (h.set o v) ((Tch.refl [b] w).setCell (p := ⟨b, o, none⟩) (.inl (by simp)) v) (by simp [World.setCell])
theorem rows_snoc {α : Type} {f : α → List Value} {l : List α} {i : Nat} {x : α} (hx : l[i]? = some x) : rows f (l.take i) ++ f x = rows f (l.take (i + 1)) := by
  obtain ⟨hi, rfl⟩ := List.getElem?_eq_some_iff.1 hx
  rw [List.take_succ_eq_append_getElem hi, rows_append, rows_one]
theorem rwC_one {x : Rw} : ∀ u ∈ rwC x, one u = true := by simp [one]
theorem keys_get {l : List Rw} {i : Nat} {x : Rw} (hx : l[i]? = some x) : (keysOf l)[i]? = some x.k := by
  unfold keysOf
  rw [List.getElem?_map, hx]; rfl
theorem zcTree : zc Tryd.prog 117 = [.nilIface, .map none] := by kernel_rfl
theorem zcBs : zc Tryd.prog 22 = [.slice none 0 0] := by kernel_rfl
theorem zcKey : zc Tryd.prog 29 = [.int .i64 0, .int .i64 0] := by kernel_rfl
theorem zcRow : zc Tryd.prog 31 = [.int .i64 0, .int .i64 0, .int .i64 0] := by kernel_rfl
theorem fsT : slT Tryd.prog 78 22 1 24 = true := by kernel_rfl
theorem rsT : slT Tryd.prog 55 31 3 24 = true := by kernel_rfl
/-- A tree in memory. -/
def TreeAt (F : Nat → Prop) (w : World) (tb : Nat) (l : List Rw) : Prop := ∃ pb v L, F tb ∧ F pb ∧ tb ≠ pb ∧ Blk w tb [v, .map (some pb)] ∧ MapAt w pb (insE [] L) ∧ (l = [] ∧ v = .nilIface ∧ L = [] ∨ l ≠ [] ∧ PartAt F w v (treeS l.length l) L)
/-- What New hands back. -/
def NewR (w : World) (l : List Rw) (e : Ending) (w' : World) : Prop := Tch [] w w' ∧ if Lib.RisesS (keysOf l) then ∃ tb, e = .returned (.tuple #[.pointer (some ⟨tb, 0, none⟩), .int .i64 0]) ∧ TreeAt (Btw w.heap.size w'.heap.size) w' tb l else e = .returned (.tuple #[.pointer none, .int .i64 22])
/-- Bytes of keys, as they grow. -/
def FormsIn (u : World) (x : Option Addr) (vs : List Value) (l : List Rw) : Prop := ∀ (i : Nat) (y : Rw) (v : Value), l[i]? = some y → vs[i]? = some v → ∃ b d, v = .slice b 10 d ∧ RSl u 1 b 10 d (u8 (kw y)) ∧ Off (rowL x) b ∧ (∀ z, b = some z → z.block < u.heap.size)
theorem FormsIn.quiet {u u' : World} {x : Option Addr} {vs : List Value} {l : List Rw} (h : FormsIn u x vs l) (ht : Tch [] u u') : FormsIn u' x vs l := fun i y v hy hv => by
  obtain ⟨b, d, h1, h2, h3, h4⟩ := h i y v hy hv
  exact ⟨b, d, h1, h2.tch ht (fun _ _ h => by cases h), h3, fun z hz => Nat.lt_of_lt_of_le (h4 z hz) ht.size⟩
theorem FormsIn.grow {u u' : World} {x x' : Option Addr} {vs : List Value} {l : List Rw} (h : FormsIn u x vs l) (ht : Tch (rowL x) u u') (hm : Moved x x' u.heap.size) : FormsIn u' x' vs l := fun i y v hy hv => by
  obtain ⟨b, d, h1, h2, h3, h4⟩ := h i y v hy hv
  refine ⟨b, d, h1, h2.tch ht h3, fun z hz hmem => ?_, fun z hz => Nat.lt_of_lt_of_le (h4 z hz) ht.size⟩
  rw [mem_rowL] at hmem
  obtain ⟨q, hq, he⟩ := hmem
  rcases hm q hq with h5 | h5
  · rw [he] at h5; exact h3 z hz h5
  · have := h4 z hz; omega
theorem FormsIn.snoc {u : World} {x : Option Addr} {vs : List Value} {l : List Rw} {y : Rw} {b : Option Addr} {d : Nat} (h : FormsIn u x vs l) (hl : l[vs.length]? = some y) (h2 : RSl u 1 b 10 d (u8 (kw y))) (h3 : Off (rowL x) b) (h4 : ∀ z, b = some z → z.block < u.heap.size) : FormsIn u x (vs ++ [.slice b 10 d]) l := fun i y' v hy hv => by
  rw [List.getElem?_append] at hv
  split at hv
  · exact h i y' v hy hv
  · rename_i hge
    have : i = vs.length := by
      by_cases e : i - vs.length = 0
      · omega
      · rw [List.getElem?_eq_none (by show 1 ≤ _; omega)] at hv; cases hv
    subst this
    rw [Nat.sub_self] at hv
    cases hv
    rw [hl] at hy
    cases hy
    exact ⟨b, d, rfl, h2, h3, h4⟩
theorem new_c (w : World) (l : List Rw) (a : Option Addr) (n c : Nat) (hr : RSl w 3 a n c (rows rwC l)) (hl : ∀ x ∈ l, x.wf) (hN : n ≤ 1000000000000) (hT : Tabs w) :
    Calls Tryd.prog 23 #[.slice a n c] w (NewR w l) := by
  have hn := hr.count rwC_len (by omega)
  refine c23 _ _ _ ?_
  unfold d23
  generalize hB : w.heap.size = B
  refine ⟨fun m x xn xc i u => ∃ k : Nat, i = k ∧ k ≤ n ∧ m = n - k ∧ xn = k ∧ u.ownsRow B 29 2 (.slice x k xc) k (rows Lib.kC ((keysOf l).take k)) ∧ Tch [] w u, ⟨n, 0, rfl, by omega, rfl, rfl, own_nil _ _ _ _, Tch.refl _ _⟩, ?_⟩
  rintro m w3 x xn xc i ⟨k, rfl, hk, rfl, rfl, hown, ht⟩
  have hs3 := ht.size
  by_cases hlt : xn < n
  · rw [bif_pos (by omega)]
    refine ⟨by omega, by omega, ?_⟩
    rw [Int.toNat_natCast]
    have hli : l[xn]? = some (l[xn]'(by omega)) := List.getElem?_eq_getElem (by omega)
    generalize l[xn]'(by omega) = y at hli
    refine (hr.tch ht (fun _ _ h => by cases h)).elem rwC_len (by omega) hli ?_
    refine var_init (n := 3) (by rw [zcRow]; rfl) rfl rwC_one fun w8 w9 h1 h2 h3 => ?_
    refine get_part h1 0 2 (Lib.kC y.k) rfl rfl ?_
    replace hown := own_up hown h2 (fun _ _ h => by cases h)
    refine app_elem_at Lib.kT hown (by rw [zcKey]; rfl) (ys := Lib.kC y.k) rfl rfl Lib.kC_one (by have := h2.size; omega) (by omega) (by omega) fun a5 c5 w14 o5 t5 m5 => ?_
    refine ⟨n - (xn + 1), by omega, xn + 1, by rw [wrap_i64 (by omega) (by omega)]; omega, by omega, rfl, rfl, ?_, ?_⟩
    · rw [rows_snoc (keys_get hli)] at o5
      exact o5
    · exact (ht.trans h2 (by simp)).trans t5 fun i hi => .inr (by
        rw [mem_rowL] at hi
        obtain ⟨z, hz, rfl⟩ := hi
        have := (own_ge hown z hz).1
        omega)
  rw [bif_neg (by omega)]
  obtain rfl : xn = n := by omega
  have hkl : (keysOf l).take xn = keysOf l := List.take_of_length_le (by rw [keysOf, List.length_map]; omega)
  rw [hkl] at hown
  have hnm := own_rsl hown Lib.kCs_one
  refine (Lib.rises_c w3 (keysOf l) x xn xc hnm (keys_kI hl) (by omega)).mono ?_
  rintro e w18 ⟨rfl, t18⟩
  refine ⟨_, rfl, ?_⟩
  replace ht := ht.trans t18 (by simp)
  replace hnm := hnm.tch t18 (fun _ _ h => by cases h)
  by_cases hR : Lib.RisesS (keysOf l)
  rotate_left
  · rw [bif_nneg hR]
    refine ⟨ht, ?_⟩
    rw [if_neg hR]
  rw [bif_npos hR]
  rintro w20 rfl
  have sB : B ≤ w18.heap.size := by have := ht.size; omega
  have hM := MapAt.new w18
  have t20 := ht.alloc (.map #[] 0)
  have q20 := (Tch.refl [] w18).alloc (.map #[] 0)
  have s20 := size_alloc w18 (.map #[] 0)
  generalize w18.alloc (.map #[] 0) = w20 at *
  generalize hpb : w18.heap.size = pb at *
  refine ⟨[.nilIface, .map (some pb)], by rw [zcTree]; rfl, ?_⟩
  rintro w22 rfl
  have hK : Blk _ _ [.nilIface, .map (some pb)] := Blk.fresh w20 (cs := [.nilIface, .map (some pb)]) 117 rfl
  have t22 := t20.alloc (.cells [Value.nilIface, .map (some pb)].toArray 117)
  have q22 := (Tch.refl [] w20).alloc (.cells [Value.nilIface, .map (some pb)].toArray 117)
  have s22 := size_alloc w20 (.cells [Value.nilIface, .map (some pb)].toArray 117)
  generalize w20.alloc (.cells [Value.nilIface, .map (some pb)].toArray 117) = w22 at *
  replace hM := hM.tch q22 (by simp)
  replace hnm := hnm.tch (q20.trans q22 (by simp)) (fun _ _ h => by cases h)
  generalize htb : w20.heap.size = tb at *
  by_cases h0 : 0 < xn
  rotate_left
  · rw [bif_neg (by omega)]
    have hnil : l = [] := List.length_eq_zero_iff.1 (by omega)
    refine ⟨t22, ?_⟩
    rw [if_pos hR]
    exact ⟨tb, rfl, pb, _, [], ⟨by omega, by omega⟩, ⟨by omega, by omega⟩, by omega, hK, hM, .inl ⟨hnil, rfl, rfl⟩⟩
  rw [bif_pos (by omega)]
  refine ⟨fun m x' xn' xc' i u => ∃ (k : Nat) (vs : List Value), i = k ∧ k ≤ xn ∧ m = xn - k ∧ xn' = k ∧ vs.length = k ∧ u.ownsRow (tb + 1) 22 1 (.slice x' k xc') k vs ∧ FormsIn u x' vs l ∧ Tch [] w22 u, ⟨xn, 0, [], rfl, by omega, rfl, rfl, rfl, own_nil _ _ _ _, fun i y v _ hv => by simp at hv, Tch.refl _ _⟩, ?_⟩
  rintro m w25 fa fn fc i ⟨k, vs, rfl, hk', rfl, rfl, hvl, hfo, hfi, t25⟩
  have s25 := t25.size
  by_cases hlt' : fn < xn
  · rw [bif_pos (by omega)]
    refine ⟨by omega, by omega, ?_⟩
    rw [Int.toNat_natCast]
    have hli : l[fn]? = some (l[fn]'(by omega)) := List.getElem?_eq_getElem (by omega)
    generalize l[fn]'(by omega) = y at hli
    refine (hnm.tch t25 (fun _ _ h => by cases h)).elem Lib.kC_len (by omega) (keys_get hli) ?_
    refine var_init (n := 2) (by rw [zcKey]; rfl) rfl Lib.kC_one fun w30 w31 h1 h2 h3 => ?_
    refine get_all h1 rfl ?_
    replace hfo := own_up hfo h2 (fun _ _ h => by cases h)
    replace hfi := hfi.quiet h2
    refine (Lib.bytes_c y.t y.r w31).mono ?_
    intro e w34 hby
    have hko : Lib.KeyOk y.t := hR.1 y.k (List.mem_map_of_mem (List.mem_of_getElem? hli))
    rw [if_pos hko] at hby
    obtain ⟨oa, oc, rfl, hob, t34⟩ := hby
    refine ⟨_, _, _, _, rfl, _, _, _, rfl, _, rfl, ?_⟩
    have hx31 := own_ge hfo
    replace hfo := own_up hfo t34 (fun _ _ h => by cases h)
    replace hfi := (hfi.quiet t34).snoc (y := y) (b := oa) (d := oc) (by rw [hvl]; exact hli) (own_rsl hob ones_ints) (fun z hz hm => by
      rw [mem_rowL] at hm
      obtain ⟨q, hq, he⟩ := hm
      have g1 := (hx31 q hq).2
      have g2 := (own_ge hob z hz).1
      omega) (fun z hz => (own_ge hob z hz).2)
    have s31 := h2.size
    have s34 := t34.size
    refine app_elem_at fsT hfo (by rw [zcBs]; rfl) (ys := [.slice oa 10 oc]) rfl rfl (by simp [one]) (by omega) (by omega) (by omega) fun a5 c5 w42 o5 t5 m5 => ?_
    refine ⟨xn - (fn + 1), by omega, fn + 1, vs ++ [.slice oa 10 oc], by rw [wrap_i64 (by omega) (by omega)]; omega, by omega, rfl, rfl, by simp [hvl], o5, hfi.grow t5 m5, ?_⟩
    exact ((t25.trans h2 (by simp)).trans t34 (by simp)).trans t5 fun i hi => .inr (by
        rw [mem_rowL] at hi
        obtain ⟨z, hz, rfl⟩ := hi
        have := (own_ge hfo z hz).1
        omega)
  rw [bif_neg (by omega)]
  obtain rfl : fn = xn := by omega
  have hG : GIn w25 tb pb .nilIface [] a c fa fc l := by
    refine ⟨hn ▸ hr.tch (t22.trans t25 (by simp)) (fun _ _ h => by cases h), ⟨vs, ?_, ?_⟩, hK.tch t25 (by simp), hM.tch t25 (by simp), by simp [KeysD], hT.tch (t22.trans t25 (by simp))⟩
    · rw [hn]
      refine own_rsl hfo fun v hv => ?_
      obtain ⟨i, hi⟩ := List.getElem?_of_mem hv
      have hil := (List.getElem?_eq_some_iff.1 hi).1
      obtain ⟨b, d, rfl, _⟩ := hfi i _ v (List.getElem?_eq_getElem (by omega)) hi
      rfl
    · intro i y hy
      have hil := (List.getElem?_eq_some_iff.1 hy).1
      obtain ⟨b, d, h1, h2, _⟩ := hfi i y (vs[i]'(by omega)) hy (List.getElem?_eq_getElem (by omega))
      exact ⟨b, d, by rw [← h1]; exact List.getElem?_eq_getElem (by omega), h2⟩
  have hg := grow_c l.length l w25 tb pb .nilIface [] a fa c fc (by omega) (Nat.le_refl _) (by omega) (rowsOk_of hl hR) hG
  rw [hn] at hg
  refine hg.mono ?_
  rintro e w46 ⟨v, L, rfl, hp, hm, t46⟩
  have hK25 := hG.tb
  have hv1 : one v = true := by obtain ⟨b, h | h⟩ := hp.shape <;> rw [h] <;> rfl
  have hne : tb ≠ pb := Blk.not_map hK25 hG.map
  have s46 := t46.size
  refine ⟨v, rfl, ?_⟩
  refine put_cell (hK25.tch t46 (by simpa using hne)) 0 (by simp) hv1 fun w48 k48 t48 s48 => ?_
  refine ⟨?_, ?_⟩
  · refine ((t22.trans t25 (by simp)).trans t46 (fun i hi => .inr ?_)).trans t48 (fun i hi => .inr ?_)
    · simp at hi; omega
    · simp at hi; omega
  rw [if_pos hR]
  refine ⟨tb, rfl, pb, v, L, ⟨by omega, by omega⟩, ⟨by omega, by omega⟩, hne, k48, hm.tch t48 (by simpa using hne.symm), .inr ⟨by rintro rfl; simp at hn; omega, ?_⟩⟩
  rw [hn]
  refine (hp.tch t48 ?_).mono fun z hz => ⟨by have := hz.1; omega, by have := hz.2; omega⟩
  simp only [List.mem_singleton]
  rintro _ rfl ⟨g1, g2⟩
  omega
end Go.Proofs.YtjkbjppopdfggaaDoor.Tre
namespace Go.Proofs.YtjkbjppopdfggaaDoor.Den
open Go Go.ChangeShapes Go.WideShapes Go.ChangeAt Go.RowKit
variable {H : Type} {enc : TypeId × Value → H} {P : Program}
def fieldsC (P : Program) (f : TypeId → Option (List CK)) : List Field → Nat → Option (List CK)
  | [], _ => some []
  | x :: r, o =>
    match f x.type with
    | some l =>
      if x.offset = o ∧ P.cellsOf x.type = l.length then
        match fieldsC P f r (o + l.length) with
        | some l' => some (l ++ l')
        | none => none
      else none
    | none => none
/-- The cells' kinds of a type, by the kernel. -/
def shT (P : Program) : Nat → TypeId → Option (List CK)
  | 0, _ => none
  | d + 1, t =>
    match P.underlying t with
    | some .bool => some [.bool]
    | some (.int k) => some [.int k]
    | some .string => some [.str]
    | some (.slice e) =>
      match shT P d e with
      | some l => if P.cellsOf e = l.length ∧ 0 < l.length then some [.sl l] else none
      | none => none
    | some (.array n e) =>
      match shT P d e with
      | some l => if P.cellsOf t = n * l.length ∧ P.cellsOf e = l.length then some (List.replicate n l).flatten else none
      | none => none
    | some (.struct fs) =>
      match fieldsC P (shT P d) fs.toList 0 with
      | some l => if P.cellsOf t = l.length then some l else none
      | none => none
    | _ => none
theorem mapM_cons_some {α β : Type} {g : α → Option β} {x : α} {l : List α} {ys : List β} (h : (x :: l).mapM g = some ys) : ∃ y r, g x = some y ∧ l.mapM g = some r ∧ ys = y :: r := by
  rw [List.mapM_cons] at h
  cases hx : g x with
  | none => rw [hx] at h; cases h
  | some y =>
    rw [hx] at h
    cases hr : l.mapM g with
    | none => rw [hr] at h; cases h
    | some r => rw [hr] at h; cases h; exact ⟨y, r, rfl, rfl, rfl⟩
theorem mapM_all {α β : Type} {g : α → Option β} : ∀ {l : List α} {ys : List β}, l.mapM g = some ys → ys.length = l.length ∧ ∀ x ∈ l, ∃ y, g x = some y
  | [], ys, h => by
    simp at h
    subst h
    exact ⟨rfl, by simp⟩
  | x :: l, ys, h => by
    obtain ⟨y, r, h1, h2, rfl⟩ := mapM_cons_some h
    obtain ⟨h3, h4⟩ := mapM_all h2
    exact ⟨by simp [h3], fun z hz => by
      rcases List.mem_cons.1 hz with rfl | hz
      · exact ⟨y, h1⟩
      · exact h4 z hz⟩
theorem cells?_spec {w : World} {base : Nat} {a : Addr} {n : Nat} {cs : List Value} (h : w.cells? base a n = some cs) : cs.length = n ∧ ∀ i v, cs[i]? = some v → w.cell? (a.add i) = some v := by
  unfold World.cells? at h
  split at h
  · obtain ⟨h1, h2⟩ := mapM_all h
    refine ⟨by simpa using h1, fun i v hv => ?_⟩
    have key : ∀ (l : List Nat) (cs : List Value), l.mapM (fun i => w.cell? (a.add i)) = some cs → ∀ (j k : Nat) (u : Value), l[j]? = some k → cs[j]? = some u → w.cell? (a.add k) = some u := by
      intro l
      induction l with
      | nil => intro cs _ j k u hj _; simp at hj
      | cons x l ih =>
        intro cs hcs j k u hj hu
        obtain ⟨y, r, h1, h2, rfl⟩ := mapM_cons_some hcs
        cases j with
        | zero => simp at hj hu; subst hj; subst hu; exact h1
        | succ j => exact ih r h2 j k u (by simpa using hj) (by simpa using hu)
    have hi : i < n := by have := (List.getElem?_eq_some_iff.1 hv).1; simp at h1; omega
    exact key _ _ h i i v (by simp [hi]) hv
  · cases h
theorem cell_spot {w : World} {a : Addr} {v : Value} (h : w.cell? a = some v) : a.spot = none := by
  unfold World.cell? at h
  split at h
  · split at h
    · cases h
    · rename_i hs
      simpa using hs
  · cases h
theorem rows_id (rs : List (List Value)) : rows id rs = rs.flatten := by simp [rows]
/-- A slice, from the readings of its elements. -/
theorem slice_rep {W : World} {d : Nat} {l : List CK} {a : Addr} {len cap : Nat} (hl : 0 < l.length) (hlc : len ≤ cap) (hcap : cap ≤ maxLen)
    (hel : ∀ i, i < cap → ∃ cs, W.cells? 0 (a.add (i * l.length)) l.length = some cs ∧ RepR W d l cs) : RepV W (d + 1) (.sl l) (.slice (some a) len cap) := by
  let g : Nat → List Value := fun i => (W.cells? 0 (a.add (i * l.length)) l.length).getD []
  have hg : ∀ i, i < cap → (g i).length = l.length ∧ (∀ j v, (g i)[j]? = some v → W.cell? ((a.add (i * l.length)).add j) = some v) ∧ RepR W d l (g i) := by
    intro i hi
    obtain ⟨cs, h1, h2⟩ := hel i hi
    have e : g i = cs := by show (W.cells? 0 _ _).getD [] = cs; rw [h1]; rfl
    rw [e]
    exact ⟨(cells?_spec h1).1, (cells?_spec h1).2, h2⟩
  refine ⟨some a, len, cap, (List.range len).map g, rfl, by simp, hcap, ⟨hlc, ?_, ?_, ?_⟩, ?_⟩
  · rw [← rows_id, rows_len (sz := l.length)]
    · simp
    · intro x hx
      obtain ⟨i, hi, rfl⟩ := List.mem_map.1 hx
      exact (hg i (by have := List.mem_range.1 hi; omega)).1
  · intro u hu
    obtain ⟨x, hx, hux⟩ := List.mem_flatten.1 hu
    obtain ⟨i, hi, rfl⟩ := List.mem_map.1 hx
    exact RepL.ones (hg i (by have := List.mem_range.1 hi; omega)).2.2 u hux
  · by_cases h0 : cap = 0
    · exact .inl h0
    · right
      obtain ⟨h1, h2, h3⟩ := hg 0 (by omega)
      have hc : ∃ v, (g 0)[0]? = some v := ⟨(g 0)[0], by rw [List.getElem?_eq_getElem (by omega)]⟩
      obtain ⟨v, hv⟩ := hc
      have hs := h2 0 v hv
      have e0 : (a.add (0 * l.length)).add 0 = a := by simp [Addr.add]
      rw [e0] at hs
      have hsp := cell_spot hs
      obtain ⟨b, o, s⟩ := a
      simp only at hsp
      subst hsp
      refine ⟨b, o, rfl, ?_⟩
      rw [← rows_id]
      refine cells_rows (sz := l.length) ?_ ?_
      · intro x hx
        obtain ⟨i, hi, rfl⟩ := List.mem_map.1 hx
        exact (hg i (by have := List.mem_range.1 hi; omega)).1
      · intro i x hx j v hv
        rw [List.getElem?_map, Option.map_eq_some_iff] at hx
        obtain ⟨k, hk, rfl⟩ := hx
        have hik : i < len := by have := (List.getElem?_eq_some_iff.1 hk).1; simpa using this
        obtain rfl : k = i := by have := (List.getElem?_eq_some_iff.1 hk).2; simpa using this.symm
        have := (hg k (by omega)).2.1 j v hv
        rwa [add_mk] at this
  · intro r hr
    obtain ⟨i, hi, rfl⟩ := List.mem_map.1 hr
    exact (hg i (by have := List.mem_range.1 hi; omega)).2.2
theorem rep_items {W : World} {d : Nat} {l : List CK} : ∀ (n : Nat) (cs : List Value), cs.length = n * l.length → (∀ i, i < n → RepR W d l ((cs.drop (i * l.length)).take l.length)) → RepR W d (List.replicate n l).flatten cs
  | 0, cs, h, _ => by
    rw [Nat.zero_mul] at h
    rw [List.length_eq_zero_iff.1 h]
    exact trivial
  | n + 1, cs, h, hi => by
    rw [List.replicate_succ, List.flatten_cons, ← List.take_append_drop l.length cs]
    refine RepL.append (by have := hi 0 (by omega); simpa using this) (rep_items n _ (by rw [List.length_drop, h, Nat.succ_mul]; omega) fun i hin => ?_)
    have := hi (i + 1) (by omega)
    rwa [List.drop_drop, show l.length + i * l.length = (i + 1) * l.length by rw [Nat.succ_mul]; omega]
theorem rep_fields {W : World} {d n : Nat} (IH : ∀ (t : TypeId) (ks : List CK), shT P d t = some ks → ∀ cs x, DataW.trod enc P W 0 (fun _ => true) true n t cs = some x → RepR W d ks cs) :
    ∀ (fs : List Field) (pre cs : List Value) (ks : List CK), fieldsC P (shT P d) fs pre.length = some ks → cs.length = ks.length →
      (∀ f ∈ fs, ∃ y, DataW.trod enc P W 0 (fun _ => true) true n f.type (((pre ++ cs).drop f.offset).take (P.cellsOf f.type)) = some y) → RepR W d ks cs
  | [], pre, cs, ks, h, hl, _ => by
    simp only [fieldsC, Option.some.injEq] at h
    subst h
    rw [List.length_eq_zero_iff.1 hl]
    exact trivial
  | f :: fs, pre, cs, ks, h, hl, hx => by
    unfold fieldsC at h
    split at h
    · rename_i l hfl
      split at h
      · rename_i hc
        obtain ⟨ho, hsz⟩ := hc
        split at h
        · rename_i l' hr
          simp only [Option.some.injEq] at h
          subst h
          rw [List.length_append] at hl
          obtain ⟨y, h1⟩ := hx f (by simp)
          rw [ho, List.drop_left, hsz] at h1
          have hy := IH f.type l hfl _ _ h1
          rw [← List.take_append_drop l.length cs]
          refine RepL.append hy ?_
          have e : pre ++ cs = (pre ++ cs.take l.length) ++ cs.drop l.length := by rw [List.append_assoc, List.take_append_drop]
          have hpl : (pre ++ cs.take l.length).length = pre.length + l.length := by rw [List.length_append, List.length_take]; omega
          refine rep_fields IH fs (pre ++ cs.take l.length) (cs.drop l.length) l' (by rw [hpl]; exact hr) (by rw [List.length_drop]; omega) ?_
          rw [← e]
          exact fun g hg => hx g (by simp [hg])
        · cases h
      · cases h
    · cases h
/-- What is read is so. -/
theorem open_rep {W : World} : ∀ (d n : Nat) (t : TypeId) (ks : List CK), shT P d t = some ks → ∀ cs x, DataW.trod enc P W 0 (fun _ => true) true n t cs = some x → RepR W d ks cs
  | 0, _, _, _, h => by simp [shT] at h
  | d + 1, n, t, ks, h => by
    intro cs x hx
    unfold shT at h
    split at h
    · rename_i hu
      cases h
      obtain ⟨b, rfl, _⟩ := DataW.trod_bool hu hx
      exact ⟨trivial, trivial⟩
    · rename_i k hu
      cases h
      obtain ⟨m, rfl, _, hw⟩ := DataW.trod_int hu hx
      exact ⟨⟨rfl, hw⟩, trivial⟩
    · rename_i hu
      cases h
      obtain ⟨s, rfl, _, hw⟩ := DataW.trod_string hu hx
      exact ⟨hw, trivial⟩
    · rename_i e hu
      split at h
      · rename_i l hl
        split at h
        · rename_i hc
          cases h
          obtain ⟨hc1, hc2⟩ := hc
          rcases DataW.trod_slice hu hx with ⟨rfl, _⟩ | ⟨a, len, cap, elems, rest, m, rfl, rfl, _, _, hlc, hcap, hel, h1, h2, _⟩
          · exact ⟨⟨none, 0, 0, [], rfl, rfl, Nat.zero_le _, ⟨Nat.le_refl _, by simp, by simp, .inl rfl⟩, by simp⟩, trivial⟩
          · refine ⟨slice_rep hc2 hlc hcap fun i hi => ?_, trivial⟩
            obtain ⟨hr1, hr2⟩ := h2 rfl
            have hb : ∃ y, (W.cells? 0 (a.add (i * P.cellsOf e)) (P.cellsOf e)).bind (DataW.trod enc P W 0 (fun _ => true) true m e) = some y := by
              by_cases hil : i < len
              · rw [h1 i hil]; exact ⟨elems[i], by rw [List.getElem?_eq_getElem (by omega)]⟩
              · have := hr2 (i - len) (by omega)
                rw [show len + (i - len) = i by omega] at this
                rw [this]; exact ⟨rest[i - len], by rw [List.getElem?_eq_getElem (by omega)]⟩
            obtain ⟨y, hy⟩ := hb
            rw [Option.bind_eq_some_iff] at hy
            obtain ⟨cs, g1, g2⟩ := hy
            rw [hc1] at g1
            exact ⟨cs, g1, open_rep d m e l hl cs y g2⟩
        · cases h
      · cases h
    · rename_i k e hu
      split at h
      · rename_i l hl
        split at h
        · rename_i hc
          cases h
          obtain ⟨hc1, hc2⟩ := hc
          obtain ⟨xs, m, rfl, _, hlen, hxl, hi⟩ := DataW.trod_array hu hx
          refine (rep_items k cs (by rw [hlen, hc1]) fun i hik => ?_).mono fun _ _ => RepV.up
          have := hi i hik
          rw [hc2, List.getElem?_eq_getElem (by omega)] at this
          exact open_rep d m e l hl _ _ this
        · cases h
      · cases h
    · rename_i fs hu
      split at h
      · rename_i l hl
        split at h
        · rename_i hc
          cases h
          obtain ⟨xs, m, rfl, _, hlen, hxl, hi⟩ := DataW.trod_struct hu hx
          refine (rep_fields (n := m) (fun t ks h cs x hx => open_rep d m t ks h cs x hx) fs.toList [] cs ks hl (by rw [hlen, hc]) fun f hf => ?_).mono fun _ _ => RepV.up
          obtain ⟨i, hif⟩ := List.getElem?_of_mem hf
          have := hi i f (by simpa using hif)
          have hlt : i < xs.length := by rw [hxl]; have := (List.getElem?_eq_some_iff.1 hif).1; simpa using this
          rw [List.getElem?_eq_getElem hlt] at this
          exact ⟨_, this⟩
        · cases h
      · cases h
    · cases h
/-- An argument that is a struct or an array. -/
theorem open_aggR {d : Nat} {t : TypeId} {ks : List CK} (hs : shT P d t = some ks) (hk : (match P.underlying t with | some (.struct _) => true | some (.array _ _) => true | _ => false) = true) {W : World} {base : Nat} {v : Value} {x : DataW H} {ps : List MemPlace}
    (hval : Value.okWide P W .any base t v) (hd : DataW.Trod enc P W 0 (fun _ => true) true t v x ps) : ∃ cs : List Value, v = .agg cs.toArray ∧ RepR W d ks cs := by
  have hl : ∃ cs, v = .agg cs ∧ cs.size = P.cellsOf t := by
    split at hk
    · rename_i hu
      simp only [Value.okWide, hu] at hval
      obtain ⟨cs, h1, h2, _⟩ := hval
      exact ⟨cs, h1, h2⟩
    · rename_i hu
      simp only [Value.okWide, hu] at hval
      obtain ⟨cs, h1, h2, _⟩ := hval
      exact ⟨cs, h1, h2⟩
    · cases hk
  obtain ⟨cs, rfl, _⟩ := hl
  obtain ⟨n, hn⟩ := hd
  refine ⟨cs.toList, by simp, open_rep d n t ks hs _ _ (by simpa [Value.cells] using hn)⟩
end Go.Proofs.YtjkbjppopdfggaaDoor.Den
