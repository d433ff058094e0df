/-
  The reference's Path and Verify: contracts.
  Own work. No macro, syntax, notation, axiom.
-/
import Derived.Test.YtjkbjppopdfggaaDoorVerE
import Derived.Test.YtjkbjppopdfggaaDoorDenWords9
namespace Go.Proofs.YtjkbjppopdfggaaDoor.Sha
open Go Den Fn
open Go.RowKit (Below)
open Classical
set_option maxRecDepth 8000
set_option maxHeartbeats 4000000

theorem noT : slT Tryd.prog 52 33 69 104 = true := by kernel_rfl
/-- The last node of a path: leaf or nothing. -/
def node0 (p : Pf) : Nd := if p.leaf = true then ⟨1, 0, z32, z32, p.t, p.r, p.v⟩ else Nd.zero
def forkN (kb : List Int) (f : Fk) (d : List Int) : Nd := if bitS kb f.bit = 1 then ⟨2, f.bit, f.oth, d, 0, 0, 0⟩ else ⟨2, f.bit, d, f.oth, 0, 0, 0⟩
/-- The first node of a path of some forks. -/
def topN (kb : List Int) (p : Pf) : List Fk → Nd
  | [] => node0 p
  | f :: l => forkN kb f (ofS (topN kb p l)).1
theorem node0_ok {p : Pf} (hp : p.ok) : (node0 p).ok := by
  unfold node0
  split
  · exact ⟨rfl, rfl, z32_bytes, z32_bytes, i64_1, i64_0, hp.t, hp.r, hp.v⟩
  · exact Nd.zero_ok
theorem i64_2 : I64 2 := by unfold I64; decide
theorem forkN_ok {kb : List Int} {f : Fk} {d : List Int} (hf : f.ok) (hd : d.length = 32) (hb : Bytes d) : (forkN kb f d).ok := by
  unfold forkN
  split
  · exact ⟨hf.2.1, hd, hf.2.2, hb, i64_2, hf.1, i64_0, i64_0, i64_0⟩
  · exact ⟨hd, hf.2.1, hb, hf.2.2, i64_2, hf.1, i64_0, i64_0, i64_0⟩
theorem topN_ok {kb : List Int} {p : Pf} (hp : p.ok) : ∀ {l : List Fk}, (∀ f ∈ l, f.ok) → (topN kb p l).ok
  | [], _ => node0_ok hp
  | f :: l, h => forkN_ok (h f (by simp)) (ofS_length _) (ofS_bytes _)
theorem bit01 : ∀ m : Fin 256, bAnd .u8 (m.val : Int) 1 = 0 ∨ bAnd .u8 (m.val : Int) 1 = 1 := by decide +kernel
theorem bitS_01 {kb : List Int} (hB : Bytes kb) {n : Int} (hn : Rk n) : bitS kb n = 0 ∨ bitS kb n = 1 := by
  obtain ⟨_, _, g1, g2, g3, g4⟩ := tdm hn
  have hx : 0 ≤ kb.getD (n / 8).toNat 0 ∧ kb.getD (n / 8).toNat 0 < 256 := by
    rw [List.getD_eq_getElem?_getD]
    cases h : kb[(n / 8).toNat]? with
    | none => simp
    | some x => exact hB x (List.mem_of_getElem? h)
  obtain ⟨h1, h2⟩ := shR_u8 hx.1 hx.2 (y := 7 - n % 8) (by omega)
  unfold bitS
  generalize shR .u8 (kb.getD (n / 8).toNat 0) (7 - n % 8) = z at *
  obtain ⟨m, rfl⟩ := Int.eq_ofNat_of_zero_le h1
  exact bit01 ⟨m, by omega⟩
theorem forkN_sum {kb : List Int} (hB : Bytes kb) {f : Fk} (hr : Rk f.bit) (d : List Int) : (ofS (forkN kb f d)).1 = stepD kb f d := by
  unfold Rk at hr
  unfold forkN stepD
  rcases bitS_01 hB (n := f.bit) hr with h | h
  · rw [if_neg (by rw [h]; decide), if_pos h]
    unfold ofS
    rw [if_neg (by simp), if_neg (by simp), if_pos ⟨rfl, ⟨rfl, rfl, rfl⟩, hr.1, hr.2⟩]
  · rw [if_pos h, if_neg (by rw [h]; decide)]
    unfold ofS
    rw [if_neg (by simp), if_neg (by simp), if_pos ⟨rfl, ⟨rfl, rfl, rfl⟩, hr.1, hr.2⟩]
theorem topN_up {kb : List Int} (hB : Bytes kb) {p : Pf} : ∀ {l : List Fk}, (∀ f ∈ l, Rk f.bit) → (ofS (topN kb p l)).1 = upD kb l (ofS (node0 p)).1
  | [], _ => rfl
  | f :: l, h => by
    show (ofS (forkN kb f (ofS (topN kb p l)).1)).1 = stepD kb f (upD kb l _)
    rw [forkN_sum hB (h f (by simp)), topN_up hB fun g hg => h g (by simp [hg])]
/-- Form and root are all. -/
theorem holds_iff {root : List Int} {t r : Int} {p : Pf} : holdsP root (keyB t r) p ↔ formedP t r p ∧ (ofS (topN (keyB t r) p p.fs)).1 = root := by
  unfold holdsP formedP
  cases hleaf : p.leaf with
  | false =>
    rw [if_pos rfl, if_pos rfl]
    constructor
    · rintro ⟨_, h1, h2, h3⟩
      refine ⟨⟨h1, h2⟩, ?_⟩
      rw [h1, h3]
      show (ofS (node0 p)).1 = z32
      unfold node0
      rw [if_neg (by rw [hleaf]; simp)]
      rfl
    · rintro ⟨⟨h1, h2⟩, h3⟩
      refine ⟨by rw [h1]; intro i f hi; simp at hi, h1, h2, ?_⟩
      rw [h1] at h3
      rw [← h3]
      show (ofS (node0 p)).1 = z32
      unfold node0
      rw [if_neg (by rw [hleaf]; simp)]
      rfl
  | true =>
    rw [if_neg (by simp), if_neg (by simp)]
    have h0 : KeyOk p.t → (ofS (node0 p)).1 = sha (leafT p.t p.r p.v) := fun hk => by
      unfold node0 ofS
      rw [if_pos hleaf, if_neg (by simp), if_pos ⟨rfl, rfl, rfl, rfl, hk⟩]
    constructor
    · rintro ⟨h1, h2, h3, h4⟩
      exact ⟨⟨h2, h1, fun f hf => (h3 f hf).symm⟩, by rw [topN_up (keyB_bytes _ _) h1.rank, h0 h2]; exact h4⟩
    · rintro ⟨⟨h1, h2, h3⟩, h4⟩
      exact ⟨h2, h1, fun f hf => (h3 f hf).symm, by rw [← h0 h1, ← topN_up (keyB_bytes _ _) h2.rank]; exact h4⟩
theorem put_part {w : World} {b n : Nat} {cs new : List Value} (h : Blk w b cs) (o : Nat) (ho : o + n ≤ cs.length) (hn : new.length = n) (h1 : ∀ u ∈ new, one u = true) {K : World → Prop}
    (hK : ∀ w', Blk w' b (splice cs o new) → Tch [b] w w' → w'.heap.size = w.heap.size → K w') :
    Array.size (List.toArray new) = n ∧ (∀ u ∈ Array.toList (List.toArray new), one u = true) ∧ Room w (Addr.add ⟨b, 0, none⟩ o) n ∧
      ∀ w' : World, w' = setCells w (Addr.add ⟨b, 0, none⟩ o) (Array.toList (List.toArray new)) 0 → K w' := by
  rw [add_mk, Nat.zero_add]
  refine ⟨by simpa using hn, by simpa using h1, h.room o n ho, ?_⟩
  rintro w' rfl
  exact hK _ (h.sets_at o (by show o + new.length ≤ _; omega)) (Tch.setCells (.inl (by simp)) (Tch.refl _ _)) size_setCells
theorem splice_mid {A M N B : List Value} (h : M.length = N.length) : splice (A ++ (M ++ B)) A.length N = A ++ (N ++ B) := by
  unfold splice
  rw [List.take_left, ← h, ← List.drop_drop, List.drop_left, List.drop_left]
theorem node_fill {b : Int} {d o : List Int} (hd : d.length = 32) (ho : o.length = 32) : fillL (.fields [(0, 1), (1, 1), (2, 32), (34, 32), (66, 3)]) Nd.zero.cells [(0, .int .i64 2), (1, .int .i64 b), (2, .agg (u8 d).toArray), (3, .agg (u8 o).toArray)] = some (Nd.mk 2 b d o 0 0 0).cells := by
  have e0 : fillL (.fields [(0, 1), (1, 1), (2, 32), (34, 32), (66, 3)]) Nd.zero.cells [(0, .int .i64 2), (1, .int .i64 b), (2, .agg (u8 d).toArray), (3, .agg (u8 o).toArray)] =
      fillL (.fields [(0, 1), (1, 1), (2, 32), (34, 32), (66, 3)]) ([.int .i64 2, .int .i64 b] ++ (u8 z32 ++ (u8 z32 ++ rowC 0 0 0))) [(2, .agg (u8 d).toArray), (3, .agg (u8 o).toArray)] := rfl
  have sd : (Value.agg (u8 d).toArray).cells.size = 32 := by show (u8 d).toArray.size = 32; simpa using hd
  have so : (Value.agg (u8 o).toArray).cells.size = 32 := by show (u8 o).toArray.size = 32; simpa using ho
  have e1 : fillL (.fields [(0, 1), (1, 1), (2, 32), (34, 32), (66, 3)]) ([.int .i64 2, .int .i64 b] ++ (u8 z32 ++ (u8 z32 ++ rowC 0 0 0))) [(2, .agg (u8 d).toArray), (3, .agg (u8 o).toArray)] =
      fillL (.fields [(0, 1), (1, 1), (2, 32), (34, 32), (66, 3)]) (([.int .i64 2, .int .i64 b] ++ u8 d) ++ (u8 z32 ++ rowC 0 0 0)) [(3, .agg (u8 o).toArray)] := by
    have := splice_mid (A := [.int .i64 2, .int .i64 b]) (M := u8 z32) (N := u8 d) (B := u8 z32 ++ rowC 0 0 0) (by simp [hd, z32])
    rw [List.append_assoc, ← this]
    simp only [fillL, Place.at, List.getElem?_cons_succ, List.getElem?_cons_zero, sd]
    rw [if_pos ⟨trivial, by simp [z32]⟩]
    rfl
  rw [e0, e1]
  have := splice_mid (A := [Value.int .i64 2, .int .i64 b] ++ u8 d) (M := u8 z32) (N := u8 o) (B := rowC 0 0 0) (by simp [ho, z32])
  have hl : ([Value.int .i64 2, .int .i64 b] ++ u8 d).length = 34 := by simp [hd]
  rw [hl] at this
  simp only [fillL, Place.at, List.getElem?_cons_succ, List.getElem?_cons_zero, so]
  rw [if_pos ⟨trivial, by simp [z32, hd]⟩]
  show some (splice _ 34 (u8 o)) = _
  rw [this]
  simp [Nd.cells]
/-- What Path hands back: nodes, the first one last. -/
def PathR (kb : List Int) (p : Pf) (n : Nat) (w : World) (e : Ending) (w' : World) : Prop := ∃ (x : Option Addr) (xc : Nat) (ns : List Nd), e = .returned (.slice x (n + 1) xc) ∧ (∀ m ∈ ns, m.ok) ∧ ns.length = n + 1 ∧ ns[n]? = some (topN kb p p.fs) ∧ RSl w' 69 x (n + 1) xc (rows Nd.cells ns) ∧ Tch [] w w'
theorem path_c (w : World) (t r : Int) (hk : KeyOk t) (p : Pf) (a : Option Addr) (n c : Nat) (hp : PfAt w a n c p) (hrk : ∀ f ∈ p.fs, Rk f.bit) (hn : n ≤ 1000000000000) :
    Calls Tryd.prog 20 #[.agg (keyC t r).toArray, .agg (pfC a n c p).toArray] w (PathR (keyB t r) p n w) := by
  have hpl := hp.len
  have hlen := fkC_len hp.1.fs
  refine c20 _ _ ?_
  unfold d20
  rintro w2 rfl w3 rfl
  have hS := ((St.refl w []).new (keyC t r) 29 rfl).new (pfC a n c p) 43 rfl
  have s1 := size_alloc w (.cells (keyC t r).toArray 29)
  generalize w.alloc (.cells (keyC t r).toArray 29) = w2 at *
  have s2 := size_alloc w2 (.cells (pfC a n c p).toArray 43)
  generalize w2.alloc (.cells (pfC a n c p).toArray 43) = w3 at *
  generalize hw0 : w.heap.size = kb at *
  generalize w2.heap.size = pb at *
  let L : List Fact := [fBlk pb (pfC a n c p), fBlk kb (keyC t r)]
  replace hS : St w [] w3 L := hS
  have kpb : ∀ {u : World}, St w [] u L → Blk u pb (pfC a n c p) := fun h => h.blk (by simp [L])
  have kkb : ∀ {u : World}, St w [] u L → Blk u kb (keyC t r) := fun h => h.blk (by simp [L])
  refine ⟨Nd.zero.cells, by rw [zcNd]; rfl, ?_⟩
  have cell_ones : ∀ {m : Nd}, ∀ u ∈ m.cells, one u = true := by
    intro m u hu
    simp only [Nd.cells, List.mem_append, List.mem_cons, List.not_mem_nil, or_false, List.mem_map] at hu
    rcases hu with (((rfl | rfl) | ⟨_, _, rfl⟩) | ⟨_, _, rfl⟩) | rfl | rfl | rfl <;> rfl
  refine var_init (n := 69) (by rw [zcNd]; rfl) rfl cell_ones fun w5 w6 kn t1 s3 => ?_
  have hs3 := hS.size
  have hpbl := (kpb hS).lt
  have hkbl := (kkb hS).lt
  replace hS := hS.quiet t1
  generalize w3.heap.size = nb at *
  have stp : ∀ {u u' : World} {s : List Nat}, St w [] u L → Tch s u u' → (∀ k ∈ s, pb < k) → St w [] u' L := fun h ht hs => h.step ht (fun g hg => by
    simp only [L, List.mem_cons, List.not_mem_nil, or_false] at hg
    rcases hg with rfl | rfl <;> exact fBlk_off (fun hm => by have := hs _ hm; omega)) fun j hj => .inr (by have := hs j hj; omega)
  refine ⟨fun u => St w [] u L ∧ Blk u nb (node0 p).cells, ?_, ?_⟩
  · refine ⟨p.leaf, by rw [add_mk]; exact (kpb hS).cell 1, ?_⟩
    cases hleaf : p.leaf with
    | true =>
      rw [cond_true]
      refine get_part (kpb hS) 2 3 (rowC p.t p.r p.v) rfl rfl ?_
      refine ⟨(Nd.mk 1 0 z32 z32 p.t p.r p.v).cells, by rw [zcNd]; rfl, ?_⟩
      refine put_all (n := 69) kn rfl rfl cell_ones fun w11 k2 t2 _ => ⟨stp hS t2 (by simp; omega), ?_⟩
      unfold node0
      rw [if_pos hleaf]
      exact k2
    | false =>
      rw [cond_false]
      refine ⟨hS, ?_⟩
      unfold node0
      rw [if_neg (by rw [hleaf]; simp)]
      exact kn
  clear kn hS t1 s3
  rintro w12 ⟨hS, kn⟩
  have hno := node0_ok hp.1
  have hnl := Nd.cells_length hno
  refine get_all kn hnl ?_
  refine ⟨(node0 p).cells, fill1 (by rw [zcNd]; rfl) rfl hnl, ?_⟩
  rintro w15 rfl
  have hnbl := kn.lt
  have hown : (w12.alloc (.cells (node0 p).cells.toArray 33)).ownsRow w12.heap.size 33 69 (.slice (some ⟨w12.heap.size, 0, none⟩) 1 1) 1 (node0 p).cells :=
    (BlkT.new w12 (node0 p).cells.toArray 33).own (base := w12.heap.size) (size := 69) (n := 1) (Nat.le_refl _) (by rw [hnl]) (by omega)
  have t2 := (Tch.refl [] w12).alloc (.cells (node0 p).cells.toArray 33)
  have s4 := size_alloc w12 (.cells (node0 p).cells.toArray 33)
  generalize w12.alloc (.cells (node0 p).cells.toArray 33) = w15 at *
  replace hS := hS.quiet t2
  replace kn := kn.tch t2 (by simp)
  refine get_all kn hnl ?_
  refine (refOf_c (node0 p) hno w15).mono ?_
  rintro e w18 ⟨rfl, t3⟩
  replace hS := hS.quiet t3
  replace hown := own_up hown t3 (fun _ _ h => by cases h)
  have s5 := t3.size
  generalize hLb : w12.heap.size = lb at *
  refine ⟨_, _, rfl, _, rfl, _, rfl, ?_⟩
  refine var_init (n := 32) (by rw [zcDig]; rfl) (by rw [List.length_map, ofS_length]) ones_ints fun w23 w24 kd t4 s6 => ?_
  replace hS := hS.quiet t4
  replace hown := own_up hown t4 (fun _ _ h => by cases h)
  generalize w18.heap.size = db at *
  refine ⟨a, n, c, by rw [add_mk]; exact (kpb hS).cell 0, ?_⟩
  have hbaseL : ∀ {u : World} {y : Option Addr} {m q : Nat} {ns : List Nd}, u.ownsRow lb 33 69 (.slice y m q) m (rows Nd.cells ns) → db ∉ rowL y → True := fun _ _ => trivial
  clear hbaseL
  refine ⟨fun m y yn yc i u => ∃ (j : Nat) (ns : List Nd), i = (n : Int) - 1 - j ∧ j ≤ n ∧ m = n - j ∧ yn = j + 1 ∧ ns.length = j + 1 ∧ (∀ m ∈ ns, m.ok) ∧ ns[j]? = some (topN (keyB t r) p (p.fs.drop (n - j))) ∧ St w [] u L ∧ u.ownsRow lb 33 69 (.slice y yn yc) yn (rows Nd.cells ns) ∧ db ∉ rowL y ∧
      Blk u db (u8 (ofS (topN (keyB t r) p (p.fs.drop (n - j)))).1), ⟨n, 0, [node0 p], by rw [wrap_i64 (by omega) (by omega)]; omega, by omega, rfl, rfl, rfl, fun m hm => by rw [List.mem_singleton.1 hm]; exact hno, ?_, hS, ?_, ?_, ?_⟩, ?_⟩
  · rw [List.drop_of_length_le (by omega)]; rfl
  · rw [show rows Nd.cells [node0 p] = (node0 p).cells by simp [rows]]; exact hown
  · simp [rowL]; omega
  · rw [List.drop_of_length_le (by omega)]; exact kd
  clear hS hown kd kn t2 t3 t4
  rintro m w28 y yn yc i ⟨j, ns, rfl, hj, rfl, rfl, hnsl, hnso, hnt, hS, hown, hdy, kd⟩
  have hrowsl : (rows Nd.cells ns).length = (j + 1) * 69 := by rw [rows_len (f := Nd.cells) (fun m hm => Nd.cells_length (hnso m hm)), hnsl]
  by_cases hjn : j < n
  rotate_left
  · rw [bif_neg (by omega)]
    have ej : j = n := by omega
    subst ej
    refine ⟨y, yc, ns, rfl, hnso, hnsl, ?_, own_rsl hown fun u hu => ?_, hS.tch⟩
    · rw [hnt, Nat.sub_self]; rfl
    · obtain ⟨l, hl, hu⟩ := List.mem_flatten.1 hu
      obtain ⟨m, hm, rfl⟩ := List.mem_map.1 hl
      exact cell_ones u hu
  rw [bif_pos (by omega)]
  have hfi : p.fs[n - 1 - j]? = some (p.fs[n - 1 - j]'(by omega)) := List.getElem?_eq_getElem (by omega)
  have hfm : p.fs[n - 1 - j]'(by omega) ∈ p.fs := List.getElem_mem _
  have hdrop : p.fs.drop (n - (j + 1)) = p.fs[n - 1 - j]'(by omega) :: p.fs.drop (n - j) := by
    rw [show n - (j + 1) = n - 1 - j by omega, List.drop_eq_getElem_cons (by omega), show n - 1 - j + 1 = n - j by omega]
  generalize p.fs[n - 1 - j]'(by omega) = f at hfi hfm hdrop
  have hfo := hp.1.fs f hfm
  refine ⟨a, n, c, by rw [add_mk]; exact (kpb hS).cell 0, by omega, by omega, ?_⟩
  rw [show ((n : Int) - 1 - j).toNat = n - 1 - j by omega]
  refine ((hp.quiet hS.tch).2).elem hlen (by omega) hfi ?_
  refine var_init (n := 33) zcFork (hlen f hfm) fkC_ones fun w34 w35 kf t5 s7 => ?_
  have hdb28 := kd.lt
  have hgey := rowL_ge hown
  have hyfb : ∀ k ∈ rowL y, lb ≤ k ∧ k < w28.heap.size := hgey
  have hs28 := hS.size
  have hpb28 := (kpb hS).lt
  have hdpb : pb < db := by omega
  replace hS := hS.quiet t5
  replace hown := own_up hown t5 (fun _ _ h => by cases h)
  replace kd := kd.tch t5 (by simp)
  generalize hT : topN (keyB t r) p (p.fs.drop (n - j)) = T at *
  generalize w28.heap.size = fb at *
  have hdl : (ofS T).1.length = 32 := ofS_length _
  have hdB : Bytes (ofS T).1 := ofS_bytes _
  refine ⟨f.bit, by rw [add_mk]; exact kf.cell 0, ?_⟩
  refine get_all kd (by simpa using hdl) ?_
  refine get_part kf 1 32 (u8 f.oth) (by show (u8 f.oth).take 32 = _; exact List.take_of_length_le (by rw [List.length_map, hfo.2.1]; exact Nat.le_refl _)) (by simpa using hfo.2.1) ?_
  refine ⟨(Nd.mk 2 f.bit (ofS T).1 f.oth 0 0 0).cells, by rw [zcNd]; exact node_fill hdl hfo.2.1, ?_⟩
  have hmo : (Nd.mk 2 f.bit (ofS T).1 f.oth 0 0 0).ok := ⟨hdl, hfo.2.1, hdB, hfo.2.2, i64_2, hfo.1, i64_0, i64_0, i64_0⟩
  refine var_init (n := 69) (by rw [zcNd]; rfl) (Nd.cells_length hmo) cell_ones fun w40 w41 kx t6 s8 => ?_
  have hs35 := t5.size
  replace hS := hS.quiet t6
  replace hown := own_up hown t6 (fun _ _ h => by cases h)
  replace kd := kd.tch t6 (by simp)
  replace kf := kf.tch t6 (by simp)
  generalize w35.heap.size = xb at *
  have hF := forkN_ok (kb := keyB t r) hfo hdl hdB
  refine ⟨fun u => St w [] u L ∧ u.ownsRow lb 33 69 (.slice y (j + 1) yc) (j + 1) (rows Nd.cells ns) ∧ Blk u db (u8 (ofS T).1) ∧ Blk u xb (forkN (keyB t r) f (ofS T).1).cells, ?_, ?_⟩
  · refine get_all (kkb hS) rfl ?_
    refine ⟨f.bit, by rw [add_mk]; exact kf.cell 0, ?_⟩
    refine (refBit_c w41 t r f.bit hk (hrk f hfm)).mono ?_
    rintro e w46 ⟨rfl, t7⟩
    replace hS := hS.quiet t7
    replace hown := own_up hown t7 (fun _ _ h => by cases h)
    replace kd := kd.tch t7 (by simp)
    replace kf := kf.tch t7 (by simp)
    replace kx := kx.tch t7 (by simp)
    refine ⟨_, rfl, ?_⟩
    by_cases h1 : bitS (keyB t r) f.bit = 1
    · rw [bif_pos h1]
      have hkeep : ∀ {u u' : World}, u.ownsRow lb 33 69 (.slice y (j + 1) yc) (j + 1) (rows Nd.cells ns) → Tch [xb] u u' → u'.ownsRow lb 33 69 (.slice y (j + 1) yc) (j + 1) (rows Nd.cells ns) := fun h ht => own_keep' h fun z hz hlt => ht.block z hlt fun hm => by
        have := (hgey z (mem_rowL.2 hz)).2
        simp at hm
        omega
      refine get_part kf 1 32 (u8 f.oth) (by show (u8 f.oth).take 32 = _; exact List.take_of_length_le (by rw [List.length_map, hfo.2.1]; exact Nat.le_refl _)) (by simpa using hfo.2.1) ?_
      have hA : splice (Nd.mk 2 f.bit (ofS T).1 f.oth 0 0 0).cells 2 (u8 f.oth) = (Nd.mk 2 f.bit f.oth f.oth 0 0 0).cells := by
        have := splice_mid (A := [Value.int .i64 2, .int .i64 f.bit]) (M := u8 (ofS T).1) (N := u8 f.oth) (B := u8 f.oth ++ rowC 0 0 0) (by simp [hdl, hfo.2.1])
        simpa [Nd.cells] using this
      have hB : splice (Nd.mk 2 f.bit f.oth f.oth 0 0 0).cells 34 (u8 (ofS T).1) = (Nd.mk 2 f.bit f.oth (ofS T).1 0 0 0).cells := by
        have := splice_mid (A := [Value.int .i64 2, .int .i64 f.bit] ++ u8 f.oth) (M := u8 f.oth) (N := u8 (ofS T).1) (B := rowC 0 0 0) (by simp [hdl, hfo.2.1])
        rw [show ([Value.int .i64 2, .int .i64 f.bit] ++ u8 f.oth).length = 34 by simp [hfo.2.1]] at this
        simpa [Nd.cells] using this
      refine put_part (n := 32) kx 2 (by rw [Nd.cells_length hmo]; omega) (by simpa using hfo.2.1) ones_ints fun w49 kx t8 s9 => ?_
      rw [hA] at kx
      replace hS := stp hS t8 (by simp; omega)
      replace hown := hkeep hown t8
      replace kd := kd.tch t8 (by simp; omega)
      refine get_all kd (by simpa using hdl) ?_
      refine put_part (n := 32) kx 34 (by simp [Nd.cells, hfo.2.1]) (by simpa using hdl) ones_ints fun w51 kx t9 s10 => ?_
      rw [hB] at kx
      refine ⟨stp hS t9 (by simp; omega), hkeep hown t9, kd.tch t9 (by simp; omega), ?_⟩
      unfold forkN
      rw [if_pos h1]
      exact kx
    · rw [bif_neg h1]
      refine ⟨hS, hown, kd, ?_⟩
      unfold forkN
      rw [if_neg h1]
      exact kx
  clear hS hown kd kx kf t5 t6
  rintro w52 ⟨hS, hown, kd, kx⟩
  have hFl := Nd.cells_length hF
  refine get_all kx hFl ?_
  have hgey := rowL_ge hown
  have hxb := kx.lt
  refine app_elem_at noT hown (by rw [zcNd]; rfl) (ys := (forkN (keyB t r) f (ofS T).1).cells) rfl hFl cell_ones (by have := hS.size; omega) (by omega) (by omega) fun y' c' w57 hown' t10 hmv => ?_
  have hs57 := t10.size
  have hdbl := kd.lt
  have hpl2 : pb < lb := by omega
  replace hS := stp hS t10 (fun k hk => by have := hyfb k hk; omega)
  replace kd := kd.tch t10 hdy
  replace kx := kx.tch t10 (fun hm => by have := hyfb xb hm; omega)
  refine get_all kx hFl ?_
  refine (refOf_c _ hF w57).mono ?_
  rintro e w61 ⟨rfl, t11⟩
  replace hS := hS.quiet t11
  replace kd := kd.tch t11 (by simp)
  replace hown' := own_up hown' t11 (fun _ _ h => by cases h)
  refine ⟨_, _, rfl, _, rfl, _, rfl, ?_⟩
  have hdy' : db ∉ rowL y' := fun hm => by
    rw [mem_rowL] at hm
    obtain ⟨ad, rfl, hb⟩ := hm
    rcases hmv ad rfl with h | h
    · rw [hb] at h; exact hdy h
    · omega
  refine put_all (n := 32) kd (by simpa using hdl) (by rw [List.length_map, ofS_length]) ones_ints fun w66 kd t12 _ => ?_
  refine ⟨n - (j + 1), by omega, j + 1, ns ++ [forkN (keyB t r) f (ofS T).1], by rw [wrap_i64 (by omega) (by omega)]; omega, by omega, rfl, rfl, by simp [hnsl], fun m hm => ?_, ?_, stp hS t12 (by simp; omega), ?_, hdy', ?_⟩
  · rcases List.mem_append.1 hm with hm | hm
    · exact hnso m hm
    · rw [List.mem_singleton.1 hm]; exact hF
  · rw [hdrop, List.getElem?_append_right (by omega), hnsl, Nat.sub_self]
    show some _ = some (forkN (keyB t r) f (ofS (topN (keyB t r) p (p.fs.drop (n - j)))).1)
    rw [hT]
  · rw [rows_append, show rows Nd.cells [forkN (keyB t r) f (ofS T).1] = (forkN (keyB t r) f (ofS T).1).cells by simp [rows]]
    exact own_keep' hown' fun z hz hlt => t12.block z hlt fun hm => by
      simp only [List.mem_singleton] at hm
      subst hm
      exact hdy' (mem_rowL.2 hz)
  · rw [hdrop]
    show Blk w66 db (u8 (ofS (forkN (keyB t r) f (ofS (topN (keyB t r) p (p.fs.drop (n - j)))).1)).1)
    rw [hT]
    exact kd
end Go.Proofs.YtjkbjppopdfggaaDoor.Sha
