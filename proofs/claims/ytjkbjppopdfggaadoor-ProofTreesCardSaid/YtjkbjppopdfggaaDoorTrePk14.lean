/-
  TREES OVER ROWS: node, toward, Root, Node, Prove: contracts.
  TREES OVER ROWS: Prove: its contract.
  TREES OVER ROWS, THE REFERENCE's: split, Nodes, Root: contracts.
  TREES OVER ROWS, THE REFERENCE's: Root, Prove: contracts.
  THE LAWS' HELPERS: texts, collide, sameRows: contracts.
  THE LAWS' HELPERS: sameRows, sameProof, proves, back: contracts.
  THE LAW OF DIFFERENCES: ProofDiffs answers yes.
  Own work. No macro, syntax, notation, axiom.
-/
import Derived.Test.YtjkbjppopdfggaaDoorTrePk12
import Derived.Test.YtjkbjppopdfggaaDoorTrePk13
namespace Go.Proofs.YtjkbjppopdfggaaDoor.Tre
open Go Den Fn Sha
open Go.RowKit (Below)
open Classical
set_option maxRecDepth 8000
set_option maxHeartbeats 4000000
theorem mLeafNode (v : Value) (w : World) : Sem.run Tryd.prog (method (Tryd.prog.types.size + Made.depth) 146 v "prelude/proof.node") w = .ok (110, v) w := by kernel_rfl
theorem mForkNode (v : Value) (w : World) : Sem.run Tryd.prog (method (Tryd.prog.types.size + Made.depth) 151 v "prelude/proof.node") w = .ok (114, v) w := by kernel_rfl
theorem mLeafToward (v : Value) (w : World) : Sem.run Tryd.prog (method (Tryd.prog.types.size + Made.depth) 146 v "prelude/proof.toward") w = .ok (112, v) w := by kernel_rfl
theorem mForkToward (v : Value) (w : World) : Sem.run Tryd.prog (method (Tryd.prog.types.size + Made.depth) 151 v "prelude/proof.toward") w = .ok (116, v) w := by kernel_rfl
theorem leafN_fill {x : Rw} : fillL (.fields [(0, 1), (1, 1), (2, 32), (34, 32), (66, 3)]) Nd.zero.cells [(0, .int .i64 1), (4, .agg (rwC x).toArray)] = some (Tr.leaf x).node.cells := by
  rfl
theorem cell_ones {m : Nd} : ∀ u ∈ m.cells, one u = true := by
  intro u hu
  rw [Nd.cells] at hu
  simp only [List.mem_append, List.mem_cons, List.mem_map, List.not_mem_nil, or_false] at hu
  rcases hu with (((rfl | rfl) | ⟨_, _, rfl⟩) | ⟨_, _, rfl⟩) | rfl | rfl | rfl <;> rfl
theorem cells_len {m : Nd} (hl : m.left.length = 32) (hr : m.right.length = 32) : m.cells.length = 69 := by simp [Nd.cells, hl, hr]
theorem leafNode_c (w : World) (b : Nat) (x : Rw) (d : List Int) (hb : Blk w b (rwC x ++ u8 d)) : Calls Tryd.prog 110 #[.pointer (some ⟨b, 0, none⟩)] w fun e w' => e = .returned (.agg (Tr.leaf x).node.cells.toArray) ∧ Tch [] w w' := by
  refine c110 _ ?_
  unfold d110
  rintro w1 rfl
  have hO := Blk.fresh w (cs := zc Tryd.prog 33) 33 zcNd
  have ht := (Tch.refl [] w).alloc (.cells (zc Tryd.prog 33).toArray 33)
  have s1 := size_alloc w (.cells (zc Tryd.prog 33).toArray 33)
  generalize w.alloc (.cells (zc Tryd.prog 33).toArray 33) = w1 at *
  refine get_part (hb.tch ht (by simp)) 0 3 (rwC x) rfl rfl ?_
  refine ⟨_, by rw [zcNd]; exact leafN_fill, ?_⟩
  refine put_all (n := 69) hO rfl rfl cell_ones fun w4 k t _ => ?_
  exact get_all k rfl ⟨rfl, ht.trans t (by simp)⟩
theorem forkNode_c {F : Nat → Prop} (w : World) (b n : Nat) (l r : Tr) (vl vr : Value) (Ll Lr : List (List Int × Value)) (d : List Int) (hb : Blk w b ([.int .i64 (n : Int), vl, vr] ++ u8 d)) (hl : PartAt F w vl l Ll) (hr : PartAt F w vr r Lr) : Calls Tryd.prog 114 #[.pointer (some ⟨b, 0, none⟩)] w fun e w' => e = .returned (.agg (Tr.fork n l r).node.cells.toArray) ∧ Tch [] w w' := by
  refine c114 _ ?_
  unfold d114
  rintro w1 rfl
  have hO := Blk.fresh w (cs := zc Tryd.prog 33) 33 zcNd
  have ht := (Tch.refl [] w).alloc (.cells (zc Tryd.prog 33).toArray 33)
  generalize w.alloc (.cells (zc Tryd.prog 33).toArray 33) = w1 at *
  rintro w2 rfl
  replace hO := hO.drew
  replace ht := ht.drew
  generalize w1.drew = w2 at *
  have hb2 := hb.tch ht (by simp)
  refine ⟨_, by rw [add_mk]; exact hb2.cell 0, vl, by rw [add_mk]; exact hb2.cell 1, vr, by rw [add_mk]; exact hb2.cell 2, ?_⟩
  refine digest_k (hl.tch ht (by simp)) fun w14 t14 => ?_
  have hb3 := hb2.tch t14 (by simp)
  refine ⟨⟨vr, by rw [add_mk]; exact hb3.cell 2, rfl, rfl⟩, ⟨_, by rw [add_mk]; exact hb3.cell 0, rfl, rfl⟩, ?_⟩
  refine digest_k ((hr.tch ht (by simp)).tch t14 (by simp)) fun w23 t23 => ?_
  have hb4 := hb3.tch t23 (by simp)
  refine ⟨⟨_, by rw [add_mk]; exact hb4.cell 0, rfl, rfl⟩, ?_⟩
  refine ⟨_, by rw [zcNd]; exact node_fill l.sum_len r.sum_len, ?_⟩
  have hlen : (Nd.mk 2 (n : Int) l.sum r.sum 0 0 0).cells.length = 69 := cells_len l.sum_len r.sum_len
  refine put_all (n := 69) ((hO.tch t14 (by simp)).tch t23 (by simp)) rfl hlen cell_ones fun w27 k t _ => ?_
  exact get_all k hlen ⟨rfl, ((ht.trans t14 (by simp)).trans t23 (by simp)).trans t (by simp)⟩
/-- node, through the interface. -/
theorem node_k {F : Nat → Prop} {w : World} {v : Value} {tr : Tr} {L : List (List Int × Value)} (h : PartAt F w v tr L) {K : Array Value → World → Prop} (hK : ∀ w', Tch [] w w' → K tr.node.cells.toArray w') :
    ∃ t u g r, v = .iface t u ∧ Sem.run Tryd.prog (method (Tryd.prog.types.size + Made.depth) t u "prelude/proof.node") w = .ok (g, r) w ∧ HasBody Tryd.prog g ∧ Calls Tryd.prog g (#[r] ++ #[]) w fun e w' => ∃ x : Array Value, e = .returned (.agg x) ∧ K x w' := by
  cases tr with
  | leaf x =>
    obtain ⟨b, rfl, _, hb, _⟩ := h
    refine ⟨_, _, _, _, rfl, mLeafNode _ w, hasBody_spec (by kernel_rfl), ?_⟩
    refine (leafNode_c w b x _ hb).mono ?_
    rintro e w' ⟨rfl, ht⟩
    exact ⟨_, rfl, hK w' ht⟩
  | fork n l r =>
    obtain ⟨b, vl, vr, Ll, Lr, rfl, _, hb, hl, hr, _⟩ := h
    refine ⟨_, _, _, _, rfl, mForkNode _ w, hasBody_spec (by kernel_rfl), ?_⟩
    refine (forkNode_c w b n l r vl vr Ll Lr _ hb hl hr).mono ?_
    rintro e w' ⟨rfl, ht⟩
    exact ⟨_, rfl, hK w' ht⟩
theorem toward_leaf {F : Nat → Prop} {w : World} {v : Value} {y : Rw} {L : List (List Int × Value)} (h : PartAt F w v (.leaf y) L) {a : Option Addr} {n c : Nat} {K : Value → Value → World → Prop} (hK : K .nilIface .nilIface w) :
    ∃ t u g r, v = .iface t u ∧ Sem.run Tryd.prog (method (Tryd.prog.types.size + Made.depth) t u "prelude/proof.toward") w = .ok (g, r) w ∧ HasBody Tryd.prog g ∧ Calls Tryd.prog g (#[r] ++ #[.slice a n c]) w fun e w' => ∃ x : Value, ∃ y : Value, e = .returned (.tuple #[x, y]) ∧ K x y w' := by
  obtain ⟨b, rfl, _, hb, _⟩ := h
  refine ⟨_, _, _, _, rfl, mLeafToward _ w, hasBody_spec (by kernel_rfl), ?_⟩
  show Calls _ _ #[.pointer (some ⟨b, 0, none⟩), .slice a n c] w _
  refine c112 _ _ _ _ ?_
  unfold d112
  exact ⟨_, _, rfl, hK⟩
theorem toward_fork {F : Nat → Prop} {w : World} {v : Value} {n : Nat} {l r : Tr} {L : List (List Int × Value)} (h : PartAt F w v (.fork n l r) L) (hn : n < 80) {a : Option Addr} {c : Nat} {kb : List Int} (hr : RSl w 1 a 10 c (u8 kb)) {K : Value → Value → World → Prop}
    (hK : ∀ vl vr Ll Lr w', Tch [] w w' → PartAt F w' vl l Ll → PartAt F w' vr r Lr → if bitS kb (n : Int) = 0 then K vl vr w' else K vr vl w') :
    ∃ t u g r, v = .iface t u ∧ Sem.run Tryd.prog (method (Tryd.prog.types.size + Made.depth) t u "prelude/proof.toward") w = .ok (g, r) w ∧ HasBody Tryd.prog g ∧ Calls Tryd.prog g (#[r] ++ #[.slice a 10 c]) w fun e w' => ∃ x : Value, ∃ y : Value, e = .returned (.tuple #[x, y]) ∧ K x y w' := by
  obtain ⟨b, vl, vr, Ll, Lr, rfl, _, hb, hl, hr', _⟩ := h
  refine ⟨_, _, _, _, rfl, mForkToward _ w, hasBody_spec (by kernel_rfl), ?_⟩
  show Calls _ _ #[.pointer (some ⟨b, 0, none⟩), .slice a 10 c] w _
  refine c116 _ _ _ _ ?_
  unfold d116
  refine ⟨(n : Int), by rw [add_mk]; exact hb.cell 0, ?_⟩
  refine (bit_c w a c kb (n : Int) hr ⟨by omega, by omega⟩).mono ?_
  rintro e w5 ⟨rfl, hw⟩
  rw [hw]
  refine ⟨_, rfl, ?_⟩
  have td := (Tch.refl [] w).drew
  have hk := hK vl vr Ll Lr w.drew td (hl.tch td (by simp)) (hr'.tch td (by simp))
  have hbd := hb.drew
  by_cases h0 : bitS kb (n : Int) = 0
  · rw [bif_pos h0]
    rintro w7 rfl
    rw [if_pos h0] at hk
    exact ⟨vl, by rw [add_mk]; exact hbd.cell 1, vr, by rw [add_mk]; exact hbd.cell 2, _, _, rfl, hk⟩
  · rw [bif_neg h0]
    rintro w7 rfl
    rw [if_neg h0] at hk
    exact ⟨vr, by rw [add_mk]; exact hbd.cell 2, vl, by rw [add_mk]; exact hbd.cell 1, _, _, rfl, hk⟩
/-! ### Root -/
noncomputable def rootS (l : List Rw) : List Int := if l = [] then z32 else (treeT l).sum
theorem rootS_len (l : List Rw) : (rootS l).length = 32 := by unfold rootS; split; rfl; exact Tr.sum_len _
theorem rootS_bytes (l : List Rw) : Bytes (rootS l) := by unfold rootS; split; exact z32_bytes; exact Tr.sum_bytes _
theorem root_c {F : Nat → Prop} (w : World) (tb : Nat) (l : List Rw) (h : TreeAt F w tb l) :
    Calls Tryd.prog 32 #[.pointer (some ⟨tb, 0, none⟩)] w fun e w' => e = .returned (.agg (u8 (rootS l)).toArray) ∧ Tch [] w w' := by
  refine c32 _ ?_
  unfold d32
  rintro w1 rfl
  have hO := Blk.fresh w (cs := zc Tryd.prog 24) 24 zcDig
  have ht := (Tch.refl [] w).alloc (.cells (zc Tryd.prog 24).toArray 24)
  generalize w.alloc (.cells (zc Tryd.prog 24).toArray 24) = w1 at *
  obtain ⟨pb, v, L, _, _, _, hb, _, h⟩ := TreeAt.tch h ht (by simp)
  refine ⟨v, by rw [add_mk]; exact hb.cell 0, ?_⟩
  have hd := rootS_len l
  rcases h with ⟨rfl, rfl, _⟩ | ⟨hne, hp⟩
  · show (∃ cs5, _)
    refine ⟨u8 z32, by rw [zcDig]; rfl, ?_⟩
    refine put_all (n := 32) hO rfl rfl ones_ints fun w6 k t _ => ?_
    exact get_all k rfl ⟨by unfold rootS; rw [if_pos rfl], ht.trans t (by simp)⟩
  have hnq : ∀ {K : Bool → Prop}, K false → nilQ 4 v K := fun {K} hK => by
    obtain ⟨q, h | h⟩ := hp.shape <;> rw [h] <;> exact hK
  refine hnq ?_
  refine ⟨v, by rw [add_mk]; exact hb.cell 0, ?_⟩
  refine digest_k hp fun w15 t15 => ?_
  have hs : (treeS l.length l).sum = rootS l := by unfold rootS; rw [if_neg hne]; rfl
  rw [hs]
  refine put_all (n := 32) (hO.tch t15 (by simp)) rfl (by rw [List.length_map]; exact hd) ones_ints fun w17 k t _ => ?_
  exact get_all k (by rw [List.length_map]; exact hd) ⟨rfl, (ht.trans t15 (by simp)).trans t (by simp)⟩
/-! ### Node -/
def NodeR (l : List Rw) (d : List Int) (e : Ending) : Prop :=
  if l = [] then e = .returned (.tuple #[.agg Nd.zero.cells.toArray, .bool (decide (d = z32))])
  else (e = .returned (.tuple #[.agg Nd.zero.cells.toArray, .bool false]) ∧ ∀ s ∈ (treeT l).subs, s.sum ≠ d) ∨ ∃ s ∈ (treeT l).subs, s.sum = d ∧ e = .returned (.tuple #[.agg s.node.cells.toArray, .bool true])
theorem zvPart : ∀ w : World, (zeroValue 115).run Tryd.prog w = .ok .nilIface w := fun w => by kernel_rfl
theorem treeNode_c {F : Nat → Prop} (w : World) (tb : Nat) (l : List Rw) (h : TreeAt F w tb l) (d : List Int) (hd : d.length = 32) (hdb : Bytes d) :
    Calls Tryd.prog 36 #[.pointer (some ⟨tb, 0, none⟩), .agg (u8 d).toArray] w fun e w' => NodeR l d e ∧ Tch [] w w' := by
  refine c36 _ _ ?_
  unfold d36
  rintro w2 rfl
  have hD : Blk _ _ (u8 d) := Blk.fresh w (cs := u8 d) 24 rfl
  have ht := (Tch.refl [] w).alloc (.cells (u8 d).toArray 24)
  have s2 := size_alloc w (.cells (u8 d).toArray 24)
  generalize w.alloc (.cells (u8 d).toArray 24) = w2 at *
  rintro w3 rfl
  have hO := Blk.fresh w2 (cs := zc Tryd.prog 33) 33 zcNd
  have q3 := (Tch.refl [] w2).alloc (.cells (zc Tryd.prog 33).toArray 33)
  replace hD := hD.tch q3 (by simp)
  replace ht := ht.trans q3 (by simp)
  generalize w2.alloc (.cells (zc Tryd.prog 33).toArray 33) = w3 at *
  have hlt := hD.lt
  clear q3
  obtain ⟨ob, hob⟩ : ∃ ob, w2.heap.size = ob := ⟨_, rfl⟩
  rw [hob] at hO ⊢
  obtain ⟨pb, v, L, _, _, _, hb, hm, h⟩ := TreeAt.tch h ht (by simp)
  refine ⟨v, by rw [add_mk]; exact hb.cell 0, ?_⟩
  have hdl : (u8 d).length = 32 := by rw [List.length_map]; exact hd
  rcases h with ⟨rfl, rfl, _⟩ | ⟨hne, hp⟩
  · show ∀ w7 : World, _
    rintro w7 rfl
    replace hD := hD.drew
    replace hO := hO.drew
    replace ht := ht.drew
    generalize w3.drew = w7 at *
    refine ⟨Nd.zero.cells, by rw [zcNd]; rfl, ?_⟩
    refine get_all hD hdl ?_
    refine ⟨u8 z32, by rw [zcDig]; rfl, ?_⟩
    refine eq_flat_d dig_flat dig_eqT (dig_fits hd hdb) (dig_fits rfl z32_bytes) (p := d = z32) ⟨fun h => map_u8_inj h, fun h => by rw [h]⟩ ?_
    refine put_all (n := 69) hO rfl rfl cell_ones fun w12 k t _ => ?_
    have hD12 := hD.tch t (by simp; omega)
    refine ⟨eq_flat_d dig_flat dig_eqT (dig_fits hd hdb) (dig_fits rfl z32_bytes) (p := d = z32) ⟨fun h => map_u8_inj h, fun h => by rw [h]⟩ ⟨rfl, rfl⟩, get_all hD12 hdl ⟨rfl, rfl⟩, ?_⟩
    refine get_all k rfl ⟨?_, ht.trans t (by simp; omega)⟩
    unfold NodeR
    rw [if_pos rfl]
  have hnq : ∀ {K : Bool → Prop}, K false → nilQ 4 v K := fun {K} hK => by
    obtain ⟨q, h | h⟩ := hp.shape <;> rw [h] <;> exact hK
  refine hnq ?_
  show ∀ w16 : World, _
  rintro w16 rfl
  have td := (Tch.refl [] w3).drew
  replace hD := hD.drew
  replace hO := hO.drew
  replace ht := ht.drew
  replace hb := hb.drew
  replace hm := hm.tch td (by simp)
  replace hp := hp.tch td (by simp)
  clear td
  generalize w3.drew = w16 at *
  refine ⟨some pb, by rw [add_mk]; exact hb.cell 1, ?_⟩
  refine get_all hD hdl ?_
  refine ⟨_, nodesT.lookup zvPart hm (insE_keys (by simp [KeysD]) hp.sums) (dig_fits hd hdb), _, rfl, ?_⟩
  rcases hp.look d with ⟨hg, hno⟩ | ⟨v', hg, s, hs, hsd, Ls, hps⟩
  · rw [hg]
    refine ⟨_, rfl, false, rfl, ?_⟩
    show (∃ cs26, _)
    refine ⟨Nd.zero.cells, by rw [zcNd]; rfl, ?_⟩
    refine put_all (n := 69) hO rfl rfl cell_ones fun w27 k t _ => ?_
    refine get_all k rfl ⟨?_, ht.trans t (by simp; omega)⟩
    unfold NodeR
    rw [if_neg hne]
    exact .inl ⟨rfl, hno⟩
  · rw [hg]
    refine ⟨_, rfl, true, rfl, ?_⟩
    refine node_k hps fun w34 t34 => ?_
    have hsl : s.node.cells.length = 69 := by
      cases s with
      | leaf x => rfl
      | fork n l r => exact cells_len l.sum_len r.sum_len
    refine put_all (n := 69) (hO.tch t34 (by simp)) rfl hsl cell_ones fun w36 k t _ => ?_
    refine get_all k hsl ⟨?_, (ht.trans t34 (by simp)).trans t (by simp; omega)⟩
    unfold NodeR
    rw [if_neg hne]
    exact .inr ⟨s, hs, hsd, rfl⟩
end Go.Proofs.YtjkbjppopdfggaaDoor.Tre
namespace Go.Proofs.YtjkbjppopdfggaaDoor.Tre
open Go Den Fn Sha
open Go.RowKit (Below)
open Classical
set_option maxRecDepth 8000
set_option maxHeartbeats 4000000
theorem zcFk2 : zc Tryd.prog 51 = .int .i64 0 :: u8 z32 := by kernel_rfl
theorem fkT : slT Tryd.prog 41 51 33 40 = true := by kernel_rfl
theorem zcPf2 : zc Tryd.prog 43 = pfC none 0 0 ⟨[], false, 0, 0, 0⟩ := by kernel_rfl
theorem fk_fill {n : Int} {d : List Int} (hd : d.length = 32) : fillL (.fields [(0, 1), (1, 32)]) (.int .i64 0 :: u8 z32) [(0, .int .i64 n), (1, .agg (u8 d).toArray)] = some (fkC ⟨n, d⟩) := by
  have e0 : fillL (.fields [(0, 1), (1, 32)]) (.int .i64 0 :: u8 z32) [(0, .int .i64 n), (1, .agg (u8 d).toArray)] = fillL (.fields [(0, 1), (1, 32)]) (.int .i64 n :: u8 z32) [(1, .agg (u8 d).toArray)] := rfl
  have sd : (Value.agg (u8 d).toArray).cells.size = 32 := by show (u8 d).toArray.size = 32; simpa using hd
  have := splice_mid (A := [Value.int .i64 n]) (M := u8 z32) (N := u8 d) (B := []) (by simp [hd, z32])
  rw [List.append_nil, List.append_nil, show ([Value.int .i64 n] : List Value).length = 1 from rfl] at this
  rw [e0]
  simp only [fillL, Place.at, List.getElem?_cons_succ, List.getElem?_cons_zero, sd]
  rw [if_pos ⟨trivial, by simp [z32]⟩]
  show some (splice _ 1 (u8 d)) = _
  rw [show (Value.int IntKind.i64 n :: u8 z32) = [Value.int .i64 n] ++ u8 z32 from rfl, this]
  rfl
theorem fkCs_one {l : List Fk} : ∀ u ∈ rows fkC l, one u = true := fun u hu => by
  unfold rows at hu
  obtain ⟨v, hv, hu⟩ := List.mem_flatten.1 hu
  obtain ⟨x, _, rfl⟩ := List.mem_map.1 hv
  rcases List.mem_cons.1 hu with rfl | hu
  · rfl
  · exact ones_ints u hu
theorem fkC_one {f : Fk} : ∀ u ∈ fkC f, one u = true := fun u hu => fkCs_one (l := [f]) u (by rw [rows_one]; exact hu)
theorem toward_way {F : Nat → Prop} {w : World} {v : Value} {n : Nat} {l r : Tr} {L : List (List Int × Value)} (h : PartAt F w v (.fork n l r) L) (hn : n < 80) {a : Option Addr} {c : Nat} {kb : List Int} (hr : RSl w 1 a 10 c (u8 kb)) {K : Value → Value → World → Prop}
    (hK : ∀ tx to vx vo Lx Lo w', Tch [] w w' → PartAt F w' vx tx Lx → PartAt F w' vo to Lo → (bitS kb (n : Int) = 0 ∧ tx = l ∧ to = r) ∨ (bitS kb (n : Int) ≠ 0 ∧ tx = r ∧ to = l) → K vx vo w') :
    ∃ t u g r, v = .iface t u ∧ Sem.run Tryd.prog (method (Tryd.prog.types.size + Made.depth) t u "prelude/proof.toward") w = .ok (g, r) w ∧ HasBody Tryd.prog g ∧ Calls Tryd.prog g (#[r] ++ #[.slice a 10 c]) w fun e w' => ∃ x : Value, ∃ y : Value, e = .returned (.tuple #[x, y]) ∧ K x y w' :=
  toward_fork h hn hr fun vl vr Ll Lr w' ht hl hr' => by
    by_cases h0 : bitS kb (n : Int) = 0
    · rw [if_pos h0]; exact hK l r vl vr Ll Lr w' ht hl hr' (.inl ⟨h0, rfl, rfl⟩)
    · rw [if_neg h0]; exact hK r l vr vl Lr Ll w' ht hr' hl (.inr ⟨h0, rfl, rfl⟩)
/-- What Prove hands back. -/
def ProveR (w : World) (l : List Rw) (k : Int × Int) (e : Ending) (w' : World) : Prop := Tch [] w w' ∧
  if Lib.KeyOk k.1 then ∃ a c, e = .returned (.tuple #[.agg (pfC a (proofS (Sha.keyB k.1 k.2) l).fs.length c (proofS (Sha.keyB k.1 k.2) l)).toArray, .int .i64 0]) ∧ w'.ownsRow w.heap.size 51 33 (.slice a (proofS (Sha.keyB k.1 k.2) l).fs.length c) (proofS (Sha.keyB k.1 k.2) l).fs.length (rows fkC (proofS (Sha.keyB k.1 k.2) l).fs)
  else e = .returned (.tuple #[.agg (pfC none 0 0 ⟨[], false, 0, 0, 0⟩).toArray, .int .i64 20])
/-- The walk's state. -/
structure PI (F : Nat → Prop) (w : World) (ob pb : Nat) (kb : List Int) (ka : Option Addr) (kc : Nat) (u : World) (fs : List Fk) (xa : Option Addr) (xc : Nat) : Prop where
  out : Blk u ob (pfC none 0 0 ⟨[], false, 0, 0, 0⟩)
  prf : Blk u pb (pfC xa fs.length xc ⟨fs, false, 0, 0, 0⟩)
  own : u.ownsRow (pb + 1) 51 33 (.slice xa fs.length xc) fs.length (rows fkC fs)
  key : RSl u 1 ka 10 kc (u8 kb)
  kof : ∀ z, ka = some z → z.block < pb
  tch : Tch [] w u
  ok : ∀ f ∈ fs, f.ok
  lo : w.heap.size ≤ ob ∧ ob < pb ∧ pb < u.heap.size
theorem PI.quiet {F : Nat → Prop} {w u u' : World} {ob pb kc : Nat} {kb : List Int} {ka xa : Option Addr} {fs : List Fk} {xc : Nat} (h : PI F w ob pb kb ka kc u fs xa xc) (ht : Tch [] u u') : PI F w ob pb kb ka kc u' fs xa xc :=
  ⟨h.out.tch ht (by simp), h.prf.tch ht (by simp), own_up h.own ht (fun _ _ h => by cases h), h.key.tch ht (fun _ _ h => by cases h), h.kof, h.tch.trans ht (by simp), h.ok, h.lo.1, h.lo.2.1, by have := ht.size; have := h.lo.2.2; omega⟩
theorem prove_c {F : Nat → Prop} (w : World) (tb : Nat) (l : List Rw) (h : TreeAt F w tb l) (hR : RowsOk l) (hF : ∀ z, F z → z < w.heap.size) (hN : l.length ≤ 1000000000000) (k : Int × Int) :
    Calls Tryd.prog 39 #[.pointer (some ⟨tb, 0, none⟩), .agg (Lib.kC k).toArray] w (ProveR w l k) := by
  refine c39 _ _ ?_
  unfold d39
  rintro w2 rfl
  have hK : Blk _ _ (Lib.kC k) := Blk.fresh w (cs := Lib.kC k) 29 rfl
  have ht := (Tch.refl [] w).alloc (.cells (Lib.kC k).toArray 29)
  have s2 := size_alloc w (.cells (Lib.kC k).toArray 29)
  generalize w.alloc (.cells (Lib.kC k).toArray 29) = w2 at *
  rintro w3 rfl
  have hO := Blk.fresh w2 (cs := zc Tryd.prog 43) 43 zcPf2
  have q3 := (Tch.refl [] w2).alloc (.cells (zc Tryd.prog 43).toArray 43)
  have s3 := size_alloc w2 (.cells (zc Tryd.prog 43).toArray 43)
  replace hK := hK.tch q3 (by simp)
  replace ht := ht.trans q3 (by simp)
  clear q3
  generalize w2.alloc (.cells (zc Tryd.prog 43).toArray 43) = w3 at *
  obtain ⟨ob, hob⟩ : ∃ ob, w2.heap.size = ob := ⟨_, rfl⟩
  rw [hob] at hO s3 ⊢
  refine get_all hK rfl ?_
  refine (Lib.bytes_c k.1 k.2 w3).mono ?_
  intro e w6 hby
  by_cases hk : Lib.KeyOk k.1
  rotate_left
  · rw [if_neg hk] at hby
    obtain ⟨rfl, t6⟩ := hby
    refine ⟨_, _, _, _, rfl, _, _, _, rfl, _, rfl, ?_⟩
    rw [bif_nneg (by omega)]
    refine ⟨pfC none 0 0 ⟨[], false, 0, 0, 0⟩, by rw [zcPf2]; rfl, ?_⟩
    refine put_all (n := 5) (hO.tch t6 (by simp)) rfl rfl (by simp [one]) fun w12 k12 t12 _ => ?_
    refine get_all k12 rfl ⟨(ht.trans t6 (by simp)).trans t12 (by simp; omega), ?_⟩
    rw [if_neg hk]
  rw [if_pos hk] at hby
  obtain ⟨ka, kc, rfl, hob6, t6⟩ := hby
  refine ⟨_, _, _, _, rfl, _, _, _, rfl, _, rfl, ?_⟩
  rw [bif_npos rfl]
  have s6 := t6.size
  have hkr := own_rsl hob6 ones_ints
  have hkof : ∀ z, ka = some z → z.block < w6.heap.size := fun z hz => (own_ge hob6 z hz).2
  rintro w14 rfl
  have hP := Blk.fresh w6 (cs := zc Tryd.prog 43) 43 zcPf2
  have q14 := (Tch.refl [] w6).alloc (.cells (zc Tryd.prog 43).toArray 43)
  have s14 := size_alloc w6 (.cells (zc Tryd.prog 43).toArray 43)
  generalize w6.alloc (.cells (zc Tryd.prog 43).toArray 43) = w14 at *
  obtain ⟨pb, hpb⟩ : ∃ pb, w6.heap.size = pb := ⟨_, rfl⟩
  rw [hpb] at hP s14 ⊢
  rw [hpb] at hkof s6
  have t14 := (ht.trans t6 (by simp)).trans q14 (by simp)
  replace hO := (hO.tch t6 (by simp)).tch q14 (by simp)
  have hI : PI F w ob pb (Sha.keyB k.1 k.2) ka kc w14 [] none 0 := ⟨hO, hP, own_nil _ _ _ _, hkr.tch q14 (fun _ _ h => by cases h), hkof, t14, by simp, by omega, by omega, by omega⟩
  generalize hkb : Sha.keyB k.1 k.2 = kb at *
  have h14 := TreeAt.tch h t14 (by simp)
  clear hO hP hK ht hkr hkof q14
  obtain ⟨tpb, v, L, hFt, _, _, hb, _, hv⟩ := h14
  refine ⟨v, by rw [add_mk]; exact hb.cell 0, ?_⟩
  refine ⟨fun m at' u => ∃ fs xa xc, PI F w ob pb kb ka kc u fs xa xc ∧ ((l = [] ∧ at' = .nilIface ∧ fs = []) ∨ (l ≠ [] ∧ ∃ tr Lt, PartAt F u at' tr Lt ∧ tr.ok ∧ m = tr.rows.length ∧ fs.length + m ≤ l.length ∧ fs ++ (proveS kb tr).1 = (proveS kb (treeT l)).1 ∧ (proveS kb tr).2 = (proveS kb (treeT l)).2)), ?_, ?_⟩
  · rcases hv with ⟨h1, h2, _⟩ | ⟨h1, h2⟩
    · exact ⟨0, [], none, 0, hI, .inl ⟨h1, h2, rfl⟩⟩
    · have hrw : (treeS l.length l).rows = l := treeS_rows (Nat.le_refl _) (List.length_pos_iff.2 h1) hR
      exact ⟨l.length, [], none, 0, hI, .inr ⟨h1, _, L, h2, treeT_ok (Nat.le_refl _) (List.length_pos_iff.2 h1) hR, by rw [hrw], by simp, rfl, rfl⟩⟩
  clear hI hb hv hFt
  rintro m w19 at' ⟨fs, xa, xc, hI, hc⟩
  rcases hc with ⟨hnil, rfl, rfl⟩ | ⟨hne, tr, Lt, hp, hok, rfl, hlen, hfs, hlast⟩
  · show (∃ cs71, _)
    refine get_all hI.prf rfl ?_
    refine put_all (n := 5) hI.out rfl rfl (by simp [one]) fun w72 k72 t72 _ => ?_
    refine get_all k72 rfl ⟨hI.tch.trans t72 (by have := hI.lo.1; simp; omega), ?_⟩
    rw [if_pos hk]
    have e : proofS kb l = ⟨[], false, 0, 0, 0⟩ := by unfold proofS; rw [if_pos hnil]
    rw [hkb, e]
    have hbs : w.heap.size ≤ pb + 1 := by have := hI.lo; omega
    exact ⟨xa, xc, rfl, own_base (own_up hI.own t72 (fun kk hkk hm => by have := (own_lt hI.own hkk).1; have := hI.lo; simp at hm; omega)) hbs⟩
  have hnq : ∀ {v : Value} {tr : Tr} {u : World} {L : List (List Int × Value)} {K : Bool → Prop}, PartAt F u v tr L → K false → nilQ 4 v K := fun {v tr u L K} hp hK => by
    obtain ⟨q, h | h⟩ := hp.shape <;> rw [h] <;> exact hK
  refine hnq hp ?_
  show (∃ t22, _)
  refine node_k hp fun w27 t27 => ?_
  have hnl : tr.node.cells.length = 69 := by
    cases tr with
    | leaf x => rfl
    | fork n l r => exact cells_len l.sum_len r.sum_len
  replace hI := hI.quiet t27
  replace hp := hp.tch t27 (by simp)
  have s27 := hI.lo.2.2
  refine var_init (n := 69) (by rw [zcNd]; rfl) hnl cell_ones fun w29 w30 hN30 t30 s30 => ?_
  obtain ⟨nb, hnb⟩ : ∃ nb, w27.heap.size = nb := ⟨_, rfl⟩
  rw [hnb] at hN30 s30 s27 ⊢
  replace hI := hI.quiet t30
  replace hp := hp.tch t30 (by simp)
  clear t27 t30
  have hbs : w.heap.size ≤ pb + 1 := by have := hI.lo; omega
  cases tr with
  | leaf y =>
    refine toward_leaf hp ?_
    refine ⟨_, rfl, _, rfl, ?_⟩
    show ∀ w42 : World, _
    rintro w42 rfl
    have td := (Tch.refl [] w30).drew
    replace hI := hI.quiet td
    replace hN30 := hN30.tch td (by simp)
    clear td
    generalize w30.drew = w42 at *
    refine get_part hN30 66 3 (rwC y) rfl rfl ?_
    refine put_cell hI.prf 1 (by simp) rfl fun w44 k44 t44 s44 => ?_
    have hn44 := hN30.tch t44 (by have := hI.lo; simp; omega)
    refine ⟨get_part hn44 66 3 (rwC y) rfl rfl ⟨rfl, rfl⟩, ?_⟩
    refine put_part k44 2 (by simp) rfl rwC_one fun w46 k46 t46 s46 => ?_
    have k46' : Blk w46 pb (pfC xa fs.length xc ⟨fs, true, y.t, y.r, y.v⟩) := k46
    refine get_all k46' rfl ?_
    have ho46 := (hI.out.tch t44 (by have := hI.lo; simp; omega)).tch t46 (by have := hI.lo; simp; omega)
    refine put_all (n := 5) ho46 rfl rfl (by simp [one]) fun w48 k48 t48 _ => ?_
    have hlo := hI.lo
    refine get_all k48 rfl ⟨((hI.tch.trans t44 (by simp; omega)).trans t46 (by simp; omega)).trans t48 (by simp; omega), ?_⟩
    rw [if_pos hk]
    have e1 : fs = (proveS kb (treeT l)).1 := by rw [← hfs]; simp [proveS]
    have e2 : y = (proveS kb (treeT l)).2 := by rw [← hlast]; rfl
    have e : proofS kb l = ⟨fs, true, y.t, y.r, y.v⟩ := by unfold proofS; rw [if_neg hne, ← e1, ← e2]
    rw [hkb, e]
    have off : ∀ {u u' : World} {s : List Nat}, (∀ z ∈ s, z ≤ pb) → ∀ kk, (Value.slice xa fs.length xc).ownBlock = some kk → kk ∉ s := fun {u u' s} hs kk hkk hm => by
      have := (own_lt hI.own hkk).1
      have := hs kk hm
      omega
    exact ⟨xa, xc, rfl, own_base (own_up (own_up (own_up hI.own t44 (off (u := w) (u' := w) (by simp))) t46 (off (u := w) (u' := w) (by simp))) t48 (off (u := w) (u' := w) (by simp; omega))) hbs⟩
  | fork n lt rt =>
    refine toward_way hp hok.1 hI.key fun tx to vx vo Lx Lo w36 t36 hx ho hcase => ?_
    have hrl : (Tr.fork n lt rt).rows.length = lt.rows.length + rt.rows.length := by show (lt.rows ++ rt.rows).length = _; rw [List.length_append]
    have hlp := (proveS_ok (kb := kb) hok.2.1).2.2
    have hrp := (proveS_ok (kb := kb) hok.2.2).2.2
    have hstep : tx.ok ∧ tx.rows.length < (Tr.fork n lt rt).rows.length ∧ fs ++ (⟨(n : Int), to.sum⟩ :: (proveS kb tx).1) = (proveS kb (treeT l)).1 ∧ (proveS kb tx).2 = (proveS kb (treeT l)).2 := by
      rcases hcase with ⟨h0, rfl, rfl⟩ | ⟨h0, rfl, rfl⟩
      · have e : proveS kb (.fork n tx to) = if bitS kb (n : Int) = 0 then (⟨(n : Int), to.sum⟩ :: (proveS kb tx).1, (proveS kb tx).2) else (⟨(n : Int), tx.sum⟩ :: (proveS kb to).1, (proveS kb to).2) := rfl
        rw [e, if_pos h0] at hfs hlast
        exact ⟨hok.2.1, by omega, hfs, hlast⟩
      · have e : proveS kb (.fork n to tx) = if bitS kb (n : Int) = 0 then (⟨(n : Int), tx.sum⟩ :: (proveS kb to).1, (proveS kb to).2) else (⟨(n : Int), to.sum⟩ :: (proveS kb tx).1, (proveS kb tx).2) := rfl
        rw [e, if_neg h0] at hfs hlast
        exact ⟨hok.2.2, by omega, hfs, hlast⟩
    obtain ⟨htx, hlt, hfs', hlast'⟩ := hstep
    replace hI := hI.quiet t36
    replace hN30 := hN30.tch t36 (by simp)
    refine ⟨vx, rfl, vo, rfl, ?_⟩
    refine hnq hx ?_
    show ∀ w50 : World, _
    rintro w50 rfl
    have td := (Tch.refl [] w36).drew
    replace hI := hI.quiet td
    replace hN30 := hN30.tch td (by simp)
    replace hx := hx.tch td (by simp)
    replace ho := ho.tch td (by simp)
    clear td t36
    generalize w36.drew = w50 at *
    refine ⟨xa, fs.length, xc, by rw [add_mk]; exact hI.prf.cell 0, (n : Int), by rw [add_mk]; exact hN30.cell 1, ?_⟩
    refine digest_k ho fun w58 t58 => ?_
    replace hI := hI.quiet t58
    replace hN30 := hN30.tch t58 (by simp)
    replace hx := hx.tch t58 (by simp)
    refine ⟨⟨(n : Int), by rw [add_mk]; exact hN30.cell 1, rfl, rfl⟩, ⟨xa, fs.length, xc, by rw [add_mk]; exact hI.prf.cell 0, rfl, rfl⟩, ?_⟩
    have hol := Tr.sum_len to
    refine ⟨fkC ⟨(n : Int), to.sum⟩, by rw [zcFk2]; exact fk_fill hol, ?_⟩
    have hfl : (fkC ⟨(n : Int), to.sum⟩).length = 33 := by show (u8 to.sum).length + 1 = 33; rw [List.length_map, hol]
    refine ⟨fkC ⟨(n : Int), to.sum⟩, fill1 (by rw [zcFk2]; rfl) rfl hfl, ?_⟩
    rintro w64 rfl
    have q64 := (Tch.refl [] w58).alloc (.cells (fkC ⟨(n : Int), to.sum⟩).toArray 51)
    have hB := (Blk.fresh w58 (cs := fkC ⟨(n : Int), to.sum⟩) 51 rfl).rsl (sz := 33) (n := 1) (by omega) fkC_one
    have s64 := size_alloc w58 (.cells (fkC ⟨(n : Int), to.sum⟩).toArray 51)
    generalize w58.alloc (.cells (fkC ⟨(n : Int), to.sum⟩).toArray 51) = w64 at *
    replace hI := hI.quiet q64
    replace hx := hx.tch q64 (by simp)
    refine ⟨⟨xa, fs.length, xc, by rw [add_mk]; exact hI.prf.cell 0, rfl, rfl⟩, ?_⟩
    have hlo := hI.lo
    have hge := own_ge hI.own
    refine app_at fkT hI.own hB (by omega) (by omega) (by omega) fun a5 c5 w67 o5 t5 m5 => ?_
    have hrow : ∀ i ∈ rowL xa, pb + 1 ≤ i := fun i hi => by
      rw [mem_rowL] at hi
      obtain ⟨z, hz, rfl⟩ := hi
      exact (hge z hz).1
    have hFoff : ∀ i ∈ rowL xa, ¬ F i := fun i hi hf => by have := hF i hf; have := hrow i hi; omega
    have k67 := hI.prf.tch t5 (fun hm => by have := hrow _ hm; omega)
    refine put_cell k67 0 (by simp) rfl fun w69 k69 t69 s69 => ?_
    have k69' : Blk w69 pb (pfC a5 (fs ++ [(⟨(n : Int), to.sum⟩ : Fk)]).length c5 ⟨fs ++ [⟨(n : Int), to.sum⟩], false, 0, 0, 0⟩) := by
      rw [List.length_append]; exact k69
    have s67 := t5.size
    refine ⟨tx.rows.length, hlt, fs ++ [(⟨(n : Int), to.sum⟩ : Fk)], a5, c5, ⟨(hI.out.tch t5 (fun hm => by have := hrow _ hm; omega)).tch t69 (by simp; omega), k69', ?_, ?_, hI.kof, (hI.tch.trans t5 fun i hi => .inr (by have := hrow i hi; omega)).trans t69 (by simp; omega), ?_, hlo.1, hlo.2.1, by omega⟩, .inr ⟨hne, tx, Lx, ?_, htx, rfl, by simp; omega, by rw [List.append_assoc]; exact hfs', hlast'⟩⟩
    · rw [rows_append, rows_one, List.length_append]
      refine own_up o5 t69 fun kk hkk hm => ?_
      have := (own_lt o5 hkk).1
      simp at hm
      omega
    · refine (hI.key.tch t5 fun z hz hm => ?_).tch t69 fun z hz hm => ?_
      · have := hI.kof z hz; have := hrow _ hm; omega
      · have := hI.kof z hz; simp at hm; omega
    · intro f hf
      rcases List.mem_append.1 hf with hf | hf
      · exact hI.ok f hf
      · rw [List.mem_singleton] at hf
        rw [hf]
        exact ⟨i64_n hok.1, hol, Tr.sum_bytes to⟩
    · exact (hx.tch t5 hFoff).tch t69 (by simp only [List.mem_singleton]; rintro _ rfl hf; have := hF _ hf; omega)
end Go.Proofs.YtjkbjppopdfggaaDoor.Tre
namespace Go.Proofs.YtjkbjppopdfggaaDoor.Tre
open Go Den Fn Sha
open Go.RowKit (Below)
open Classical
set_option maxRecDepth 8000
set_option maxHeartbeats 4000000
theorem split_c (w : World) (l : List Rw) (a : Option Addr) (n c : Nat) (hr : RSl w 3 a n c (rows rwC l)) (hR : RowsOk l) (h2 : 2 ≤ l.length) (hN : l.length ≤ 1000000000000) :
    Calls Tryd.prog 66 #[.slice a n c] w fun e w' => e = .returned (.tuple #[.int .i64 ((partBit l : Nat) : Int), .int .i64 ((partAt l (partBit l) : Nat) : Int)]) ∧ Tch [] w w' := by
  have hn := hr.count rwC_len (by omega)
  have hP := partBit_ok hR h2
  generalize partBit l = q at *
  obtain ⟨hp0, hpl, hq80⟩ := hP.at
  obtain ⟨x, y, hx, hy, hF, _, _⟩ := hP
  have hxk := (hR.ok x (List.mem_of_getElem? hx)).key
  have hyk := (hR.ok y (List.mem_of_getElem? hy)).key
  refine c66 _ _ _ ?_
  unfold d66
  refine ⟨fun m i u => ∃ j : Nat, i = j ∧ m = 80 - j ∧ j ≤ q ∧ Tch [] w u, ⟨80, 0, rfl, rfl, by omega, Tch.refl _ _⟩, ?_⟩
  rintro m w3 i ⟨j, rfl, rfl, hj, ht⟩
  rintro w5 rfl
  replace ht := ht.drew
  generalize w3.drew = w5 at *
  rw [wrap_i64 (by omega) (by omega)]
  have hcast : (((n : Nat) : Int) - 1) = ((n - 1 : Nat) : Int) := by omega
  rw [hcast]
  have hr5 := hr.tch ht (fun _ _ h => by cases h)
  rw [hn] at hy
  obtain ⟨b1, o1, ha1, k1, _⟩ := row_at hr5 hx
  obtain ⟨b2, o2, ha2, k2, _⟩ := row_at hr5 hy
  subst ha1
  cases ha2
  refine ⟨by omega, by omega, Lib.kC x.k, rfl, k1, by omega, by omega, Lib.kC y.k, rfl, by rw [Int.toNat_natCast]; exact k2, ?_⟩
  refine (refBit_c w5 x.t x.r (j : Int) hxk ⟨by omega, by omega⟩).mono ?_
  rintro e w11 ⟨rfl, t11⟩
  obtain ⟨b2, o2, ha2, k3, _⟩ := row_at (hr5.tch t11 (fun _ _ h => by cases h)) hy
  cases ha2
  refine ⟨_, rfl, ⟨Lib.kC y.k, rfl, by rw [Int.toNat_natCast]; exact k3, rfl, rfl⟩, ?_⟩
  refine (refBit_c w11 y.t y.r (j : Int) hyk ⟨by omega, by omega⟩).mono ?_
  rintro e w15 ⟨rfl, t15⟩
  refine ⟨_, rfl, ?_⟩
  replace ht := (ht.trans t11 (by simp)).trans t15 (by simp)
  clear k1 k2 k3 hr5 t11 t15
  by_cases hjq : j < q
  · have heq : bitS (Sha.keyB x.t x.r) (j : Int) = bitS (Sha.keyB y.t y.r) (j : Int) := hF.2.2 j hjq
    rw [bif_pos heq]
    exact ⟨80 - (j + 1), by omega, j + 1, by rw [wrap_i64 (by omega) (by omega)]; omega, rfl, by omega, ht⟩
  obtain rfl : j = q := by omega
  have hne : ¬ bitS (Sha.keyB x.t x.r) (j : Int) = bitS (Sha.keyB y.t y.r) (j : Int) := hF.2.1
  rw [bif_neg hne]
  refine ⟨fun m i u => ∃ k : Nat, i = k ∧ m = l.length - k ∧ k ≤ partAt l j ∧ Tch [] w u, ⟨l.length, 0, rfl, by omega, by omega, ht⟩, ?_⟩
  clear ht
  rintro m w20 i ⟨k, rfl, rfl, hk, ht⟩
  have hli : l[k]? = some (l[k]'(by omega)) := List.getElem?_eq_getElem (by omega)
  have hbit : bitS (kw (l[k]'(by omega))) (j : Int) = if k < partAt l j then 0 else 1 := by
    by_cases h : k < partAt l j
    · rw [if_pos h]
      have := List.not_of_lt_findIdx h
      rcases bitS_01 (kb := kw (l[k]'(by omega))) (keyB_bytes _ _) (n := (j : Int)) ⟨by omega, by omega⟩ with h0 | h0
      · exact h0
      · simp [h0] at this
    · rw [if_neg h]
      have e : k = partAt l j := by omega
      have := List.findIdx_getElem (p := fun x => decide (bitS (kw x) j = 1)) (w := hpl)
      have h3 := of_decide_eq_true this
      have e' : List.findIdx (fun x => decide (bitS (kw x) j = 1)) l = k := e.symm
      simp only [e'] at h3
      exact h3
  generalize l[k]'(by omega) = z at hli hbit
  obtain ⟨b3, o3, ha3, k4, _⟩ := row_at (hr.tch ht (fun _ _ h => by cases h)) hli
  cases ha3
  refine ⟨by omega, by omega, Lib.kC z.k, rfl, by rw [Int.toNat_natCast]; exact k4, ?_⟩
  refine (refBit_c w20 z.t z.r (j : Int) (hR.ok z (List.mem_of_getElem? hli)).key ⟨by omega, by omega⟩).mono ?_
  rintro e w25 ⟨rfl, t25⟩
  refine ⟨_, rfl, ?_⟩
  replace ht := ht.trans t25 (by simp)
  have hbit' : bitS (Sha.keyB z.t z.r) (j : Int) = if k < partAt l j then 0 else 1 := hbit
  rw [hbit']
  by_cases h : k < partAt l j
  · rw [if_pos h, bif_pos rfl]
    exact ⟨l.length - (k + 1), by omega, k + 1, by rw [wrap_i64 (by omega) (by omega)]; omega, rfl, by omega, ht⟩
  · rw [if_neg h, bif_neg (by decide)]
    obtain rfl : k = partAt l j := by omega
    exact ⟨rfl, ht⟩
/-! ### Nodes -/
theorem Tr.subs_len : ∀ t : Tr, t.subs.length + 1 = 2 * t.rows.length
  | .leaf x => rfl
  | .fork n l r => by
    have h1 := Tr.subs_len l
    have h2 := Tr.subs_len r
    show (Tr.fork n l r :: (l.subs ++ r.subs)).length + 1 = 2 * (l.rows ++ r.rows).length
    simp only [List.length_cons, List.length_append]
    omega
noncomputable def nodesL (l : List Rw) : List Nd := if l = [] then [Nd.zero] else (treeT l).nodes
theorem ndT : slT Tryd.prog 52 33 69 104 = true := by kernel_rfl
theorem nodesL_ok {l : List Rw} (h : RowsOk l) : ∀ n ∈ nodesL l, n.ok := fun n hn => by
  unfold nodesL at hn
  split at hn
  · rw [List.mem_singleton] at hn; rw [hn]; exact Nd.zero_ok
  · rename_i hne
    obtain ⟨s, hs, rfl⟩ := List.mem_map.1 hn
    exact Tr.node_ok (Tr.subs_ok (treeT_ok (Nat.le_refl _) (List.length_pos_iff.2 hne) h) s hs)
theorem nodes_cells {l : List Nd} (h : ∀ n ∈ l, n.ok) : ∀ n ∈ l, n.cells.length = 69 := fun n hn => cells_len (h n hn).ll (h n hn).rl
theorem ndCs_one {l : List Nd} : ∀ u ∈ rows Nd.cells l, one u = true := fun u hu => by
  unfold rows at hu
  obtain ⟨v, hv, hu⟩ := List.mem_flatten.1 hu
  obtain ⟨x, _, rfl⟩ := List.mem_map.1 hv
  exact cell_ones u hu
theorem nodesL_first {l : List Rw} (h : RowsOk l) : ∃ n r, nodesL l = n :: r ∧ ofS n = (rootS l, 0) := by
  unfold nodesL rootS
  by_cases hl : l = []
  · rw [if_pos hl, if_pos hl]
    exact ⟨_, _, rfl, rfl⟩
  · rw [if_neg hl, if_neg hl]
    obtain ⟨r, hr⟩ := Tr.subs_pos (treeT l)
    exact ⟨(treeT l).node, r.map Tr.node, by show (treeT l).subs.map Tr.node = _; rw [hr]; rfl, Tr.of_node (treeT_ok (Nat.le_refl _) (List.length_pos_iff.2 hl) h)⟩
theorem nodesL_len {l : List Rw} (h : RowsOk l) : (nodesL l).length ≤ 2 * l.length + 1 := by
  unfold nodesL
  split
  · simp
  · rename_i hne
    rw [List.length_map]
    have h1 := Tr.subs_len (treeT l)
    have h2 : (treeT l).rows = l := treeS_rows (Nat.le_refl _) (List.length_pos_iff.2 hne) h
    rw [h2] at h1
    omega
theorem nodesL_two {l : List Rw} (h : RowsOk l) (h2 : 2 ≤ l.length) : nodesL l = ⟨2, ((partBit l : Nat) : Int), rootS (l.take (partAt l (partBit l))), rootS (l.drop (partAt l (partBit l))), 0, 0, 0⟩ :: (nodesL (l.take (partAt l (partBit l))) ++ nodesL (l.drop (partAt l (partBit l)))) := by
  obtain ⟨g1, g2, _⟩ := (partBit_ok h h2).at
  have e0 : l ≠ [] := by rintro rfl; simp at h2
  have e1 : l.take (partAt l (partBit l)) ≠ [] := fun e => by have := congrArg List.length e; rw [List.length_take, List.length_nil] at this; omega
  have e2 : l.drop (partAt l (partBit l)) ≠ [] := fun e => by have := congrArg List.length e; rw [List.length_drop, List.length_nil] at this; omega
  unfold nodesL rootS
  rw [if_neg e0, if_neg e1, if_neg e2, if_neg e1, if_neg e2, treeT_two h h2]
  show List.map Tr.node (Tr.fork _ _ _ :: (_ ++ _)) = _
  rw [List.map_cons, List.map_append]
  rfl
/-- What Nodes hands back. -/
def NodesR (w : World) (l : List Nd) (e : Ending) (w' : World) : Prop := ∃ a c, e = .returned (.slice a l.length c) ∧ RSl w' 69 a l.length c (rows Nd.cells l) ∧ Tch [] w w'
theorem nodes_c : ∀ (k : Nat) (w : World) (l : List Rw) (a : Option Addr) (n c : Nat), l.length ≤ k → RSl w 3 a n c (rows rwC l) → RowsOk l → l.length ≤ 1000000000 → Calls Tryd.prog 30 #[.slice a n c] w (NodesR w (nodesL l)) := by
  intro k
  induction k with
  | zero => ?_
  | succ k ih => ?_
  all_goals
    intro w l a n c hk hr hR hN
    have hn := hr.count rwC_len (by omega)
    refine c30 _ _ _ ?_
    unfold d30
    by_cases h0 : n = 0
    · rw [bif_pos (by omega)]
      have hl : l = [] := List.length_eq_zero_iff.1 (by omega)
      refine ⟨Nd.zero.cells, by rw [zcNd]; rfl, Nd.zero.cells, fill1 (by rw [zcNd]; rfl) rfl rfl, ?_⟩
      rintro w3 rfl
      have hB := (Blk.fresh w (cs := Nd.zero.cells) 33 rfl).rsl (sz := 69) (n := 1) rfl cell_ones
      unfold nodesL
      rw [if_pos hl]
      exact ⟨_, 1, rfl, by rw [rows_one]; exact hB, (Tch.refl [] w).alloc _⟩
    rw [bif_neg (by omega)]
  · omega
  by_cases h1 : n = 1
  · rw [bif_pos (by omega)]
    obtain ⟨x, rfl⟩ := List.length_eq_one_iff.1 (show l.length = 1 by omega)
    obtain ⟨b1, o1, rfl, k1⟩ := hr.elem' rwC_len (by omega) (i := 0) (x := x) rfl
    refine ⟨by omega, by omega, rwC x, rfl, by rw [add_mk]; exact k1, _, by rw [zcNd]; exact leafN_fill, _, fill1 (by rw [zcNd]; rfl) rfl rfl, ?_⟩
    rintro w3 rfl
    have hB := (Blk.fresh w (cs := (Tr.leaf x).node.cells) 33 rfl).rsl (sz := 69) (n := 1) rfl cell_ones
    unfold nodesL
    rw [if_neg (by simp), treeT_one]
    exact ⟨_, 1, rfl, by show RSl _ 69 _ 1 1 (rows Nd.cells [(Tr.leaf x).node]); rw [rows_one]; exact hB, (Tch.refl [] w).alloc _⟩
  rw [bif_neg (by omega)]
  refine (split_c w l a n c hr hR (by omega) (by omega)).mono ?_
  rintro e w10 ⟨rfl, t10⟩
  refine ⟨_, _, rfl, _, rfl, _, rfl, ?_⟩
  have hnl := nodesL_two hR (by omega)
  have hP := partBit_ok hR (by omega)
  obtain ⟨hp0, hpl, hq80⟩ := hP.at
  clear hP
  generalize partBit l = q at *
  generalize partAt l q = p at *
  have hcap := hr.cap
  refine ⟨by omega, by omega, ?_⟩
  rw [Int.toNat_natCast]
  have hr10 := hr.tch t10 (fun _ _ h => by cases h)
  have hsa := hr10.sub (l := 0) (hh := p) (by omega) (by omega)
  rw [rows_part, List.drop_zero, Nat.sub_zero] at hsa
  refine (ih w10 (l.take p) _ _ _ (by rw [List.length_take]; omega) hsa (hR.take p) (by rw [List.length_take]; omega)).mono ?_
  rintro e w16 ⟨la, lc, rfl, hla, t16⟩
  refine ⟨_, _, _, rfl, ?_⟩
  refine ⟨by omega, by omega, ?_⟩
  have hsb := (hr10.tch t16 (fun _ _ h => by cases h)).sub (l := p) (hh := n) (by omega) (by omega)
  rw [rows_part, List.take_of_length_le (l := l.drop p) (by rw [List.length_drop]; omega)] at hsb
  refine (ih w16 (l.drop p) _ _ _ (by rw [List.length_drop]; omega) hsb (hR.drop p) (by rw [List.length_drop]; omega)).mono ?_
  rintro e w19 ⟨ra, rc, rfl, hra, t19⟩
  refine ⟨_, _, _, rfl, ?_⟩
  replace hla := hla.tch t19 (fun _ _ h => by cases h)
  have t0 := (t10.trans t16 (by simp)).trans t19 (by simp)
  clear hsa hsb hr10 t10 t16 t19
  obtain ⟨n1, r1, e1, f1⟩ := nodesL_first (hR.take p)
  obtain ⟨n2, r2, e2, f2⟩ := nodesL_first (hR.drop p)
  have ok1 := nodesL_ok (hR.take p)
  have ok2 := nodesL_ok (hR.drop p)
  have len1 := nodesL_len (hR.take p)
  have len2 := nodesL_len (hR.drop p)
  rw [List.length_take] at len1
  rw [List.length_drop] at len2
  have g1 : (nodesL (l.take p))[0]? = some n1 := by rw [e1]; rfl
  have g2 : (nodesL (l.drop p))[0]? = some n2 := by rw [e2]; rfl
  have p1 : 0 < (nodesL (l.take p)).length := by rw [e1]; simp
  have p2 : 0 < (nodesL (l.drop p)).length := by rw [e2]; simp
  have m1 := ok1 n1 (List.mem_of_getElem? g1)
  have m2 := ok2 n2 (List.mem_of_getElem? g2)
  refine ⟨by omega, by omega, ?_⟩
  refine hla.elem (nodes_cells ok1) (by omega) g1 ?_
  refine (refOf_c n1 m1 w19).mono ?_
  rintro e w24 ⟨rfl, t24⟩
  rw [f1]
  refine ⟨_, _, rfl, _, rfl, _, rfl, ?_⟩
  have hd1 : (u8 (rootS (l.take p))).length = 32 := by rw [List.length_map]; exact rootS_len _
  have hd2 : (u8 (rootS (l.drop p))).length = 32 := by rw [List.length_map]; exact rootS_len _
  refine var_init (n := 32) (by rw [zcDig]; rfl) hd1 ones_ints fun w29 w30 d1 t30 s30 => ?_
  replace t24 := t24.trans t30 (by simp)
  replace t0 := t0.trans t24 (by simp)
  replace hla := hla.tch t24 (fun _ _ h => by cases h)
  replace hra := hra.tch t24 (fun _ _ h => by cases h)
  refine ⟨by omega, by omega, ?_⟩
  refine hra.elem (nodes_cells ok2) (by omega) g2 ?_
  refine (refOf_c n2 m2 w30).mono ?_
  rintro e w34 ⟨rfl, t34⟩
  rw [f2]
  refine ⟨_, _, rfl, _, rfl, _, rfl, ?_⟩
  refine var_init (n := 32) (by rw [zcDig]; rfl) hd2 ones_ints fun w39 w40 d2 t40 s40 => ?_
  replace t34 := t34.trans t40 (by simp)
  replace t0 := t0.trans t34 (by simp)
  replace hla := hla.tch t34 (fun _ _ h => by cases h)
  replace hra := hra.tch t34 (fun _ _ h => by cases h)
  replace d1 := d1.tch t34 (by simp)
  refine get_all d1 hd1 ?_
  refine get_all d2 hd2 ?_
  refine ⟨_, by rw [zcNd]; exact node_fill (rootS_len _) (rootS_len _), _, fill1 (by rw [zcNd]; rfl) rfl (cells_len (rootS_len _) (rootS_len _)), ?_⟩
  rintro w45 rfl
  generalize hnd : (Nd.mk 2 ((q : Nat) : Int) (rootS (l.take p)) (rootS (l.drop p)) 0 0 0) = nd at *
  have hndl : nd.cells.length = 69 := by rw [← hnd]; exact cells_len (rootS_len _) (rootS_len _)
  have hE : (w40.alloc (.cells nd.cells.toArray 33)).ownsRow w40.heap.size 33 69 (.slice (some ⟨w40.heap.size, 0, none⟩) 1 1) 1 nd.cells := (BlkT.new w40 nd.cells.toArray 33).own (Nat.le_refl _) (by simpa using hndl) (by omega)
  have q45 := (Tch.refl [] w40).alloc (.cells nd.cells.toArray 33)
  have s45 := size_alloc w40 (.cells nd.cells.toArray 33)
  generalize w40.alloc (.cells nd.cells.toArray 33) = w45 at *
  refine app_at ndT hE (hla.tch q45 (fun _ _ h => by cases h)) (by omega) (by omega) (by omega) fun x1 c1 w47 o1 t47 _ => ?_
  have q47 : Tch [] w40 w47 := q45.trans t47 fun i hi => .inr (by
    rw [mem_rowL] at hi
    obtain ⟨z, hz, rfl⟩ := hi
    exact (own_ge hE z hz).1)
  have s47 := q47.size
  refine app_at ndT o1 (hra.tch q47 (fun _ _ h => by cases h)) (by omega) (by omega) (by omega) fun x2 c2 w50 o2 t50 _ => ?_
  have q50 : Tch [] w40 w50 := q47.trans t50 fun i hi => .inr (by
    rw [mem_rowL] at hi
    obtain ⟨z, hz, rfl⟩ := hi
    exact (own_ge o1 z hz).1)
  rw [hnl]
  have elen : 1 + (nodesL (l.take p)).length + (nodesL (l.drop p)).length = (nd :: (nodesL (l.take p) ++ nodesL (l.drop p))).length := by simp; omega
  have erow : nd.cells ++ rows Nd.cells (nodesL (l.take p)) ++ rows Nd.cells (nodesL (l.drop p)) = rows Nd.cells (nd :: (nodesL (l.take p) ++ nodesL (l.drop p))) := by rw [rows_cons, rows_append, List.append_assoc]
  rw [elen, erow] at o2
  exact ⟨x2, c2, by rw [elen], own_rsl o2 ndCs_one, t0.trans q50 (by simp)⟩
end Go.Proofs.YtjkbjppopdfggaaDoor.Tre
namespace Go.Proofs.YtjkbjppopdfggaaDoor.Tre
open Go Den Fn Sha
open Go.RowKit (Below)
open Classical
set_option maxRecDepth 8000
set_option maxHeartbeats 4000000
theorem add_blk {y : Addr} {k : Nat} : (y.add k).block = y.block := by unfold Addr.add; split <;> rfl
/-- Rows that there are lie in a block that there is. -/
theorem rsl_low {w : World} {l : List Rw} {a : Option Addr} {n c B : Nat} (hr : RSl w 3 a n c (rows rwC l)) (hB : w.heap.size ≤ B) : l = [] ∨ ∀ z, a = some z → z.block < B := by
  cases l with
  | nil => exact .inl rfl
  | cons x l =>
    refine .inr fun z hz => ?_
    obtain ⟨b, o, h1, h2⟩ := hr.elem' rwC_len (by omega) (i := 0) (x := x) rfl
    rw [hz] at h1
    cases h1
    have := World.block_lt_of_cell? _ _ (h2 0 _ rfl)
    rw [add_mk] at this
    exact Nat.lt_of_lt_of_le this hB
theorem refRoot_c (w : World) (l : List Rw) (a : Option Addr) (n c : Nat) (hr : RSl w 3 a n c (rows rwC l)) (hR : RowsOk l) (hN : l.length ≤ 1000000000) :
    Calls Tryd.prog 33 #[.slice a n c] w fun e w' => e = .returned (.agg (u8 (rootS l)).toArray) ∧ Tch [] w w' := by
  refine c33 _ _ _ ?_
  unfold d33
  rintro w1 rfl
  have hO := Blk.fresh w (cs := zc Tryd.prog 24) 24 zcDig
  have ht := (Tch.refl [] w).alloc (.cells (zc Tryd.prog 24).toArray 24)
  have s1 := size_alloc w (.cells (zc Tryd.prog 24).toArray 24)
  generalize w.alloc (.cells (zc Tryd.prog 24).toArray 24) = w1 at *
  refine (nodes_c l.length w1 l a n c (Nat.le_refl _) (hr.tch ht (fun _ _ h => by cases h)) hR hN).mono ?_
  rintro e w3 ⟨la, lc, rfl, hla, t3⟩
  refine ⟨_, _, _, rfl, ?_⟩
  obtain ⟨n1, r1, e1, f1⟩ := nodesL_first hR
  have ok1 := nodesL_ok hR
  have g1 : (nodesL l)[0]? = some n1 := by rw [e1]; rfl
  have p1 : 0 < (nodesL l).length := by rw [e1]; simp
  refine ⟨by omega, by omega, ?_⟩
  refine hla.elem (nodes_cells ok1) (by omega) g1 ?_
  refine (refOf_c n1 (ok1 n1 (List.mem_of_getElem? g1)) w3).mono ?_
  rintro e w8 ⟨rfl, t8⟩
  rw [f1]
  refine ⟨_, _, rfl, _, rfl, _, rfl, ?_⟩
  have hd1 : (u8 (rootS l)).length = 32 := by rw [List.length_map]; exact rootS_len _
  refine var_init (n := 32) (by rw [zcDig]; rfl) hd1 ones_ints fun w13 w14 d1 t14 s14 => ?_
  refine get_all d1 hd1 ?_
  have hO' := ((hO.tch t3 (by simp)).tch t8 (by simp)).tch t14 (by simp)
  refine put_all (n := 32) hO' rfl hd1 ones_ints fun w16 k16 t16 _ => ?_
  exact get_all k16 hd1 ⟨rfl, (((ht.trans t3 (by simp)).trans t8 (by simp)).trans t14 (by simp)).trans t16 (by simp)⟩
/-- The state of the reference's walk. -/
structure RI (w : World) (kb0 ob pb : Nat) (k : Int × Int) (l : List Rw) (u : World) (lx : List Rw) (x : Option Addr) (xn xc : Nat) (fs : List Fk) (pa : Option Addr) (pc : Nat) : Prop where
  key : Blk u kb0 (Lib.kC k)
  out : Blk u ob (pfC none 0 0 ⟨[], false, 0, 0, 0⟩)
  prf : Blk u pb (pfC pa fs.length pc ⟨fs, false, 0, 0, 0⟩)
  own : u.ownsRow (pb + 1) 51 33 (.slice pa fs.length pc) fs.length (rows fkC fs)
  rws : RSl u 3 x xn xc (rows rwC lx)
  rof : lx = [] ∨ ∀ z, x = some z → z.block < kb0
  tch : Tch [] w u
  lo : w.heap.size ≤ kb0 ∧ kb0 < ob ∧ ob < pb ∧ pb < u.heap.size
theorem RI.quiet {w u u' : World} {kb0 ob pb : Nat} {k : Int × Int} {l lx : List Rw} {x pa : Option Addr} {xn xc pc : Nat} {fs : List Fk} (h : RI w kb0 ob pb k l u lx x xn xc fs pa pc) (ht : Tch [] u u') : RI w kb0 ob pb k l u' lx x xn xc fs pa pc :=
  ⟨h.key.tch ht (by simp), h.out.tch ht (by simp), h.prf.tch ht (by simp), own_up h.own ht (fun _ _ h => by cases h), h.rws.tch ht (fun _ _ h => by cases h), h.rof, h.tch.trans ht (by simp), h.lo.1, h.lo.2.1, h.lo.2.2.1, by have := ht.size; have := h.lo.2.2.2; omega⟩
/-- What the reference's Prove hands back. -/
def RProveR (w : World) (p : Pf) (e : Ending) (w' : World) : Prop := ∃ a c, e = .returned (.agg (pfC a p.fs.length c p).toArray) ∧ w'.ownsRow w.heap.size 51 33 (.slice a p.fs.length c) p.fs.length (rows fkC p.fs) ∧ Tch [] w w'
theorem refProve_c (w : World) (l : List Rw) (a : Option Addr) (n c : Nat) (hr : RSl w 3 a n c (rows rwC l)) (hR : RowsOk l) (hN : l.length ≤ 1000000000) (k : Int × Int) (hk : Lib.KeyOk k.1) :
    Calls Tryd.prog 68 #[.slice a n c, .agg (Lib.kC k).toArray] w (RProveR w (proofS (Sha.keyB k.1 k.2) l)) := by
  refine c68 _ _ _ _ ?_
  unfold d68
  have hn0 := hr.count rwC_len (by omega)
  rintro w2 rfl
  have hK : Blk _ _ (Lib.kC k) := Blk.fresh w (cs := Lib.kC k) 29 rfl
  have ht := (Tch.refl [] w).alloc (.cells (Lib.kC k).toArray 29)
  have s2 := size_alloc w (.cells (Lib.kC k).toArray 29)
  generalize w.alloc (.cells (Lib.kC k).toArray 29) = w2 at *
  rintro w3 rfl
  have hO := Blk.fresh w2 (cs := zc Tryd.prog 43) 43 zcPf2
  have q3 := (Tch.refl [] w2).alloc (.cells (zc Tryd.prog 43).toArray 43)
  have s3 := size_alloc w2 (.cells (zc Tryd.prog 43).toArray 43)
  replace hK := hK.tch q3 (by simp)
  replace ht := ht.trans q3 (by simp)
  clear q3
  generalize w2.alloc (.cells (zc Tryd.prog 43).toArray 43) = w3 at *
  rintro w4 rfl
  have hP := Blk.fresh w3 (cs := zc Tryd.prog 43) 43 zcPf2
  have q4 := (Tch.refl [] w3).alloc (.cells (zc Tryd.prog 43).toArray 43)
  have s4 := size_alloc w3 (.cells (zc Tryd.prog 43).toArray 43)
  replace hK := hK.tch q4 (by simp)
  replace hO := hO.tch q4 (by simp)
  replace ht := ht.trans q4 (by simp)
  clear q4
  generalize w3.alloc (.cells (zc Tryd.prog 43).toArray 43) = w4 at *
  obtain ⟨kb0, hkb0⟩ : ∃ kb0, w.heap.size = kb0 := ⟨_, rfl⟩
  obtain ⟨ob, hob⟩ : ∃ ob, w2.heap.size = ob := ⟨_, rfl⟩
  obtain ⟨pb, hpb⟩ : ∃ pb, w3.heap.size = pb := ⟨_, rfl⟩
  rw [hkb0] at hK ⊢
  rw [hob] at hO s2 ⊢
  rw [hpb] at hP s3 ⊢
  rw [hob] at s3
  rw [hpb] at s4
  have hI : RI w kb0 ob pb k l w4 l a n c [] none 0 := ⟨hK, hO, hP, own_nil _ _ _ _, hr.tch ht (fun _ _ h => by cases h), rsl_low hr (by omega), ht, by omega, by omega, by omega, by omega⟩
  generalize hkb : Sha.keyB k.1 k.2 = kb at *
  refine ⟨fun m x xn xc u => ∃ lx fs pa pc, RI w kb0 ob pb k l u lx x xn xc fs pa pc ∧ m = lx.length ∧ fs.length + m ≤ l.length ∧ ((l = [] ∧ lx = [] ∧ fs = []) ∨ (l ≠ [] ∧ lx ≠ [] ∧ RowsOk lx ∧ fs ++ (proveS kb (treeT lx)).1 = (proveS kb (treeT l)).1 ∧ (proveS kb (treeT lx)).2 = (proveS kb (treeT l)).2)), ⟨l.length, l, [], none, 0, hI, rfl, by simp, ?_⟩, ?_⟩
  · by_cases h : l = []
    · exact .inl ⟨h, h, rfl⟩
    · exact .inr ⟨h, h, hR, rfl, rfl⟩
  clear hI hK hO hP ht
  rintro m w7 x xn xc ⟨lx, fs, pa, pc, hI, rfl, hlen, hc⟩
  have hxn := hI.rws.count rwC_len (by omega)
  have hlo := hI.lo
  by_cases h2 : 1 < xn
  rotate_left
  · rw [bif_neg (by omega)]
    by_cases h1 : xn = 1
    · rw [bif_pos (by omega)]
      rcases hc with ⟨_, h, _⟩ | ⟨hne, _, hok, hfs, hlast⟩
      · rw [h] at hxn; simp at hxn; omega
      obtain ⟨y, rfl⟩ := List.length_eq_one_iff.1 (show lx.length = 1 by omega)
      rw [treeT_one] at hfs hlast
      refine put_cell hI.prf 1 (by simp) rfl fun w42 k42 t42 s42 => ?_
      refine ⟨by omega, by omega, ?_⟩
      have hr42 := hI.rws.tch t42 (fun z hz hm => by have := hI.rof.resolve_left (by simp) z hz; simp at hm; omega)
      refine hr42.elem rwC_len (by omega) (i := 0) (x := y) rfl ?_
      refine put_part k42 2 (by simp) rfl rwC_one fun w45 k45 t45 s45 => ?_
      have k45' : Blk w45 pb (pfC pa fs.length pc ⟨fs, true, y.t, y.r, y.v⟩) := k45
      refine get_all k45' rfl ?_
      have ho45 := (hI.out.tch t42 (by simp; omega)).tch t45 (by simp; omega)
      refine put_all (n := 5) ho45 rfl rfl (by simp [one]) fun w47 k47 t47 _ => ?_
      refine get_all k47 rfl ?_
      have e1 : fs = (proveS kb (treeT l)).1 := by rw [← hfs]; simp [proveS]
      have e2 : y = (proveS kb (treeT l)).2 := by rw [← hlast]; rfl
      have e : proofS kb l = ⟨fs, true, y.t, y.r, y.v⟩ := by unfold proofS; rw [if_neg hne, ← e1, ← e2]
      rw [e]
      have off : ∀ {s : List Nat}, (∀ z ∈ s, z ≤ pb) → ∀ kk, (Value.slice pa fs.length pc).ownBlock = some kk → kk ∉ s := fun {s} hs kk hkk hm => by
        have := (own_lt hI.own hkk).1
        have := hs kk hm
        omega
      exact ⟨pa, pc, rfl, own_base (own_up (own_up (own_up hI.own t42 (off (by simp))) t45 (off (by simp))) t47 (off (by simp; omega))) (by omega), ((hI.tch.trans t42 (by simp; omega)).trans t45 (by simp; omega)).trans t47 (by simp; omega)⟩
    · rw [bif_neg (by omega)]
      rcases hc with ⟨hnil, _, rfl⟩ | ⟨_, hne, _⟩
      · refine get_all hI.prf rfl ?_
        refine put_all (n := 5) hI.out rfl rfl (by simp [one]) fun w50 k50 t50 _ => ?_
        refine get_all k50 rfl ?_
        have e : proofS kb l = ⟨[], false, 0, 0, 0⟩ := by unfold proofS; rw [if_pos hnil]
        rw [e]
        exact ⟨pa, pc, rfl, own_base (own_up hI.own t50 (fun kk hkk hm => by have := (own_lt hI.own hkk).1; simp at hm; omega)) (by omega), hI.tch.trans t50 (by simp; omega)⟩
      · have := List.length_pos_iff.2 hne
        omega
  rw [bif_pos (by omega)]
  rcases hc with ⟨_, h, _⟩ | ⟨hne, hnx, hok, hfs, hlast⟩
  · rw [h] at hxn; simp at hxn; omega
  have hcap := hI.rws.cap
  refine (split_c w7 lx x xn xc hI.rws hok (by omega) (by omega)).mono ?_
  rintro e w10 ⟨rfl, t10⟩
  refine ⟨_, _, rfl, _, rfl, _, rfl, ?_⟩
  obtain ⟨hp0, hpl, hq80⟩ := (partBit_ok hok (by omega)).at
  rw [treeT_two hok (by omega)] at hfs hlast
  generalize partBit lx = q at *
  generalize partAt lx q = p at *
  refine ⟨fkC ⟨(q : Int), z32⟩, by rw [zcFk2]; rfl, ?_⟩
  replace hI := hI.quiet t10
  have hpfb := hI.lo.2.2.2
  have hpal := fun z hz => (own_ge hI.own z hz).2
  refine var_init (n := 33) (by rw [zcFk2]; rfl) rfl fkC_one fun w16 w17 hf17 t17 s17 => ?_
  replace hI := hI.quiet t17
  obtain ⟨fb, hfb⟩ : ∃ fb, w10.heap.size = fb := ⟨_, rfl⟩
  rw [hfb] at hf17 s17 hpfb ⊢
  rw [hfb] at hpal
  have hlo' := hI.lo
  clear t10 t17
  -- the two ways meet
  refine ⟨fun x' xn' xc' u => ∃ lx' oth pa' pc', RI w kb0 ob pb k l u lx' x' xn' xc' fs pa' pc' ∧ lx'.length < lx.length ∧ lx' ≠ [] ∧ RowsOk lx' ∧ oth.length = 32 ∧ Bytes oth ∧ Blk u fb (fkC ⟨(q : Int), oth⟩) ∧ fb < u.heap.size ∧ pb < fb ∧ fs ++ (⟨(q : Int), oth⟩ :: (proveS kb (treeT lx')).1) = (proveS kb (treeT l)).1 ∧ (proveS kb (treeT lx')).2 = (proveS kb (treeT l)).2, ?_, ?_⟩
  · refine get_all hI.key rfl ?_
    refine (refBit_c w17 k.1 k.2 (q : Int) hk ⟨by omega, by omega⟩).mono ?_
    rintro e w21 ⟨rfl, t21⟩
    refine ⟨_, rfl, ?_⟩
    rw [hkb]
    replace hI := hI.quiet t21
    replace hf17 := hf17.tch t21 (by simp)
    have hfl := hf17.lt
    have hsa := hI.rws.sub (l := 0) (hh := p) (by omega) (by omega)
    rw [rows_part, List.drop_zero, Nat.sub_zero] at hsa
    have hsb := hI.rws.sub (l := p) (hh := xn) (by omega) (by omega)
    rw [rows_part, List.take_of_length_le (l := lx.drop p) (by rw [List.length_drop]; omega)] at hsb
    have ea : (lx.take p).length = p := by rw [List.length_take]; omega
    have eb : (lx.drop p).length = xn - p := by rw [List.length_drop]; omega
    have hrof := hI.rof.resolve_left hnx
    have hofa : ∀ z, (if xc = 0 then x else x.map fun y => y.add (0 * 3)) = some z → z.block < kb0 := fun z hz => by
      split at hz
      · exact hrof z hz
      · rw [Option.map_eq_some_iff] at hz
        obtain ⟨y, hy, rfl⟩ := hz
        rw [add_blk]
        exact hrof y hy
    have hofb : ∀ z, (if xc = p then x else x.map fun y => y.add (p * 3)) = some z → z.block < kb0 := fun z hz => by
      split at hz
      · exact hrof z hz
      · rw [Option.map_eq_some_iff] at hz
        obtain ⟨y, hy, rfl⟩ := hz
        rw [add_blk]
        exact hrof y hy
    have hoff : ∀ {s : List Nat}, (∀ z ∈ s, z = fb) → ∀ kk, (Value.slice pa fs.length pc).ownBlock = some kk → kk ∉ s := fun {s} hs kk hkk hm => by
      have h1 := hs kk hm
      cases pa with
      | none => cases hkk
      | some z =>
        have h2 := hpal z rfl
        have h3 : z.block = kk := by simpa [Value.ownBlock] using hkk
        omega
    have na : lx.take p ≠ [] := fun e => by rw [e] at ea; simp at ea; omega
    have nb : lx.drop p ≠ [] := fun e => by rw [e] at eb; simp at eb; omega
    have ra : (treeT (lx.take p)).sum = rootS (lx.take p) := by unfold rootS; rw [if_neg na]
    have rb : (treeT (lx.drop p)).sum = rootS (lx.drop p) := by unfold rootS; rw [if_neg nb]
    have e : proveS kb (.fork q (treeT (lx.take p)) (treeT (lx.drop p))) = if bitS kb (q : Int) = 0 then (⟨(q : Int), (treeT (lx.drop p)).sum⟩ :: (proveS kb (treeT (lx.take p))).1, (proveS kb (treeT (lx.take p))).2) else (⟨(q : Int), (treeT (lx.take p)).sum⟩ :: (proveS kb (treeT (lx.drop p))).1, (proveS kb (treeT (lx.drop p))).2) := rfl
    rw [e] at hfs hlast
    by_cases h0 : bitS kb (q : Int) = 0
    · rw [bif_pos h0]
      rw [if_pos h0] at hfs hlast
      refine ⟨by omega, by omega, ?_⟩
      rw [Int.toNat_natCast]
      refine (refRoot_c w21 (lx.drop p) _ _ _ hsb (hok.drop p) (by omega)).mono ?_
      rintro e w24 ⟨rfl, t24⟩
      refine ⟨_, rfl, ?_⟩
      replace hI := hI.quiet t24
      refine put_part (hf17.tch t24 (by simp)) 1 (by simp [z32]) (by rw [List.length_map]; exact rootS_len _) ones_ints fun w26 k26 t26 s26 => ?_
      have k26' : Blk w26 fb (fkC ⟨(q : Int), rootS (lx.drop p)⟩) := by
        have := splice_mid (A := [Value.int .i64 (q : Int)]) (M := u8 z32) (N := u8 (rootS (lx.drop p))) (B := []) (by rw [List.length_map, List.length_map, rootS_len]; rfl)
        rw [List.append_nil, List.append_nil, show ([Value.int .i64 (q : Int)] : List Value).length = 1 from rfl] at this
        have e3 : splice (fkC ⟨(q : Int), z32⟩) 1 (u8 (rootS (lx.drop p))) = fkC ⟨(q : Int), rootS (lx.drop p)⟩ := this
        rwa [e3] at k26
      have hlo2 := hI.lo
      have st := t24.size
      refine ⟨by omega, by omega, lx.take p, rootS (lx.drop p), pa, pc, ⟨hI.key.tch t26 (by simp; omega), hI.out.tch t26 (by simp; omega), hI.prf.tch t26 (by simp; omega), ?_, (hsa.tch t24 (fun _ _ h => by cases h)).tch t26 (fun z hz hm => by have := hofa z hz; simp at hm; omega), .inr hofa, hI.tch.trans t26 (by simp; omega), hlo2.1, hlo2.2.1, hlo2.2.2.1, by omega⟩, by omega, na, hok.take p, rootS_len _, rootS_bytes _, k26', by omega, by omega, ?_, hlast⟩
      · exact own_up hI.own t26 (hoff (by simp))
      · rw [← rb]; exact hfs
    · rw [bif_neg h0]
      rw [if_neg h0] at hfs hlast
      refine ⟨by omega, by omega, ?_⟩
      rw [Int.toNat_natCast]
      refine (refRoot_c w21 (lx.take p) _ _ _ hsa (hok.take p) (by omega)).mono ?_
      rintro e w24 ⟨rfl, t24⟩
      refine ⟨_, rfl, ?_⟩
      replace hI := hI.quiet t24
      refine put_part (hf17.tch t24 (by simp)) 1 (by simp [z32]) (by rw [List.length_map]; exact rootS_len _) ones_ints fun w26 k26 t26 s26 => ?_
      have k26' : Blk w26 fb (fkC ⟨(q : Int), rootS (lx.take p)⟩) := by
        have := splice_mid (A := [Value.int .i64 (q : Int)]) (M := u8 z32) (N := u8 (rootS (lx.take p))) (B := []) (by rw [List.length_map, List.length_map, rootS_len]; rfl)
        rw [List.append_nil, List.append_nil, show ([Value.int .i64 (q : Int)] : List Value).length = 1 from rfl] at this
        have e3 : splice (fkC ⟨(q : Int), z32⟩) 1 (u8 (rootS (lx.take p))) = fkC ⟨(q : Int), rootS (lx.take p)⟩ := this
        rwa [e3] at k26
      have hlo2 := hI.lo
      have st := t24.size
      refine ⟨by omega, by omega, lx.drop p, rootS (lx.take p), pa, pc, ⟨hI.key.tch t26 (by simp; omega), hI.out.tch t26 (by simp; omega), hI.prf.tch t26 (by simp; omega), own_up hI.own t26 (hoff (by simp)), (hsb.tch t24 (fun _ _ h => by cases h)).tch t26 (fun z hz hm => by have := hofb z hz; simp at hm; omega), .inr hofb, hI.tch.trans t26 (by simp; omega), hlo2.1, hlo2.2.1, hlo2.2.2.1, by omega⟩, by omega, nb, hok.drop p, rootS_len _, rootS_bytes _, k26', by omega, by omega, ?_, hlast⟩
      rw [← ra]; exact hfs
  · rintro w31 x' xn' xc' ⟨lx', oth, pa', pc', hJ, hlt, hne', hok', hol, hob', hf31, hfl, hpf, hfs', hlast'⟩
    refine ⟨pa', fs.length, pc', by rw [add_mk]; exact hJ.prf.cell 0, ?_⟩
    have hfl33 : (fkC ⟨(q : Int), oth⟩).length = 33 := by show (u8 oth).length + 1 = 33; rw [List.length_map, hol]
    refine get_all hf31 hfl33 ?_
    have hlo3 := hJ.lo
    have hge := own_ge hJ.own
    refine app_elem_at fkT hJ.own (by rw [zcFk2]; rfl) (ys := fkC ⟨(q : Int), oth⟩) rfl hfl33 fkC_one (by omega) (by omega) (by omega) fun a5 c5 w38 o5 t5 m5 => ?_
    have hrow : ∀ i ∈ rowL pa', pb + 1 ≤ i := fun i hi => by
      rw [mem_rowL] at hi
      obtain ⟨z, hz, rfl⟩ := hi
      exact (hge z hz).1
    have k38 := hJ.prf.tch t5 (fun hm => by have := hrow _ hm; omega)
    refine put_cell k38 0 (by simp) rfl fun w40 k40 t40 s40 => ?_
    have k40' : Blk w40 pb (pfC a5 (fs ++ [(⟨(q : Int), oth⟩ : Fk)]).length c5 ⟨fs ++ [⟨(q : Int), oth⟩], false, 0, 0, 0⟩) := by
      rw [List.length_append]; exact k40
    have s38 := t5.size
    refine ⟨lx'.length, hlt, lx', fs ++ [(⟨(q : Int), oth⟩ : Fk)], a5, c5, ⟨(hJ.key.tch t5 (fun hm => by have := hrow _ hm; omega)).tch t40 (by simp; omega), (hJ.out.tch t5 (fun hm => by have := hrow _ hm; omega)).tch t40 (by simp; omega), k40', ?_, ?_, hJ.rof, (hJ.tch.trans t5 fun i hi => .inr (by have := hrow i hi; omega)).trans t40 (by simp; omega), hlo3.1, hlo3.2.1, hlo3.2.2.1, by omega⟩, rfl, by simp; omega, .inr ⟨hne, hne', hok', by rw [List.append_assoc]; exact hfs', hlast'⟩⟩
    · rw [rows_append, rows_one, List.length_append]
      refine own_up o5 t40 fun kk hkk hm => ?_
      have := (own_lt o5 hkk).1
      simp at hm
      omega
    · refine (hJ.rws.tch t5 fun z hz hm => ?_).tch t40 fun z hz hm => ?_
      · have := hJ.rof.resolve_left hne' z hz; have := hrow _ hm; omega
      · have := hJ.rof.resolve_left hne' z hz; simp at hm; omega
end Go.Proofs.YtjkbjppopdfggaaDoor.Tre
namespace Go.Proofs.YtjkbjppopdfggaaDoor.Tre
open Go Den Fn Sha
open Go.RowKit (Below)
open Classical
set_option maxRecDepth 8000
set_option maxHeartbeats 4000000
/-! ### texts -/
def textN (n : Nd) : Option (List Int) := if n.kind = 0 then none else textS n
def textsS (l : List Nd) : List (List Int) := l.filterMap textN
theorem textsS_snoc {l : List Nd} {i : Nat} {x : Nd} (h : l[i]? = some x) : textsS (l.take (i + 1)) = textsS (l.take i) ++ (match textN x with | some t => [t] | none => []) := by
  obtain ⟨hi, rfl⟩ := List.getElem?_eq_some_iff.1 h
  rw [List.take_succ_eq_append_getElem hi]
  unfold textsS
  rw [List.filterMap_append]
  congr 1
  cases hx : textN (l[i]) with
  | none => simp [hx]
  | some t => simp [hx]
theorem textsS_ok {l : List Nd} (h : ∀ n ∈ l, n.ok) : ∀ t ∈ textsS l, t.length ≤ 66 ∧ Bytes t := fun t ht => by
  obtain ⟨n, hn, hnt⟩ := List.mem_filterMap.1 ht
  unfold textN at hnt
  split at hnt
  · cases hnt
  · exact text_len (h n hn) hnt
theorem textsS_len (l : List Nd) : (textsS l).length ≤ l.length := List.length_filterMap_le _ _
/-- Rows of bytes, as they grow. -/
def TIn (u : World) (x : Option Addr) (vs : List Value) (ts : List (List Int)) : Prop := vs.length = ts.length ∧ ∀ (i : Nat) (t : List Int), ts[i]? = some t → ∃ b d, vs[i]? = some (.slice b t.length d) ∧ RSl u 1 b t.length d (u8 t) ∧ Off (rowL x) b ∧ (∀ z, b = some z → z.block < u.heap.size)
theorem TIn.quiet {u u' : World} {x : Option Addr} {vs : List Value} {ts : List (List Int)} (h : TIn u x vs ts) (ht : Tch [] u u') : TIn u' x vs ts := ⟨h.1, fun i y hy => by
  obtain ⟨b, d, h1, h2, h3, h4⟩ := h.2 i y hy
  exact ⟨b, d, h1, h2.tch ht (fun _ _ h => by cases h), h3, fun z hz => Nat.lt_of_lt_of_le (h4 z hz) ht.size⟩⟩
theorem TIn.grow {u u' : World} {x x' : Option Addr} {vs : List Value} {ts : List (List Int)} (h : TIn u x vs ts) (ht : Tch (rowL x) u u') (hm : Moved x x' u.heap.size) : TIn u' x' vs ts := ⟨h.1, fun i y hy => by
  obtain ⟨b, d, h1, h2, h3, h4⟩ := h.2 i y hy
  refine ⟨b, d, h1, h2.tch ht h3, fun z hz hmem => ?_, fun z hz => Nat.lt_of_lt_of_le (h4 z hz) ht.size⟩
  rw [mem_rowL] at hmem
  obtain ⟨q, hq, he⟩ := hmem
  rcases hm q hq with h5 | h5
  · rw [he] at h5; exact h3 z hz h5
  · have := h4 z hz; omega⟩
theorem TIn.snoc {u : World} {x : Option Addr} {vs : List Value} {ts : List (List Int)} {t : List Int} {b : Option Addr} {d : Nat} (h : TIn u x vs ts) (h2 : RSl u 1 b t.length d (u8 t)) (h3 : Off (rowL x) b) (h4 : ∀ z, b = some z → z.block < u.heap.size) : TIn u x (vs ++ [.slice b t.length d]) (ts ++ [t]) := ⟨by simp [h.1], fun i y hy => by
  rw [List.getElem?_append] at hy
  split at hy
  · rename_i hlt
    obtain ⟨b', d', g1, g2⟩ := h.2 i y hy
    exact ⟨b', d', by rw [List.getElem?_append_left (by rw [h.1]; exact hlt)]; exact g1, g2⟩
  · rename_i hge
    have : i = ts.length := by
      by_cases e : i - ts.length = 0
      · omega
      · rw [List.getElem?_eq_none (by show 1 ≤ _; omega)] at hy; cases hy
    subst this
    rw [Nat.sub_self] at hy
    cases hy
    exact ⟨b, d, by rw [List.getElem?_append_right (by rw [h.1]; exact Nat.le_refl _), h.1, Nat.sub_self]; rfl, h2, h3, h4⟩⟩
/-- Rows of bytes in memory. -/
def TextsAt (w : World) (a : Option Addr) (c : Nat) (ts : List (List Int)) : Prop := ∃ vs : List Value, RSl w 1 a ts.length c vs ∧ vs.length = ts.length ∧ ∀ (i : Nat) (t : List Int), ts[i]? = some t → ∃ b d, vs[i]? = some (.slice b t.length d) ∧ RSl w 1 b t.length d (u8 t)
theorem TextsAt.quiet {w w' : World} {a : Option Addr} {c : Nat} {ts : List (List Int)} (h : TextsAt w a c ts) (ht : Tch [] w w') : TextsAt w' a c ts := by
  obtain ⟨vs, h1, h2, h3⟩ := h
  refine ⟨vs, h1.tch ht (fun _ _ h => by cases h), h2, fun i x hx => ?_⟩
  obtain ⟨b, d, g1, g2⟩ := h3 i x hx
  exact ⟨b, d, g1, g2.tch ht (fun _ _ h => by cases h)⟩
theorem TextsAt.get {w : World} {a : Option Addr} {c : Nat} {ts : List (List Int)} (h : TextsAt w a c ts) {i : Nat} {t : List Int} (hx : ts[i]? = some t) : ∃ y b d, a = some y ∧ World.cell? w (Addr.add y (i * 1)) = some (.slice b t.length d) ∧ RSl w 1 b t.length d (u8 t) := by
  obtain ⟨vs, h1, h2, h3⟩ := h
  obtain ⟨b, d, g1, g2⟩ := h3 i t hx
  obtain ⟨b', o', e, hc⟩ := h1.get1 g1
  refine ⟨_, b, d, e, ?_, g2⟩
  rw [add_mk, Nat.mul_one]
  exact hc
theorem texts_c (w : World) (l : List Nd) (a : Option Addr) (n c : Nat) (hr : RSl w 69 a n c (rows Nd.cells l)) (hl : ∀ x ∈ l, x.ok) (hN : n ≤ 10000000000) :
    Calls Tryd.prog 38 #[.slice a n c] w fun e w' => ∃ a' c', e = .returned (.slice a' (textsS l).length c') ∧ TextsAt w' a' c' (textsS l) ∧ Tch [] w w' := by
  have hn := hr.count (nodes_cells hl) (by omega)
  refine c38 _ _ _ ?_
  unfold d38
  refine ⟨fun m x xn xc i u => ∃ (q : Nat) (vs : List Value), i = q ∧ q ≤ n ∧ m = n - q ∧ xn = (textsS (l.take q)).length ∧ u.ownsRow w.heap.size 22 1 (.slice x xn xc) xn vs ∧ TIn u x vs (textsS (l.take q)) ∧ Tch [] w u, ⟨n, 0, [], rfl, by omega, rfl, rfl, own_nil _ _ _ _, ⟨rfl, by simp [textsS]⟩, Tch.refl _ _⟩, ?_⟩
  rintro m w3 x xn xc i ⟨q, vs, rfl, hq, rfl, rfl, hown, hT, ht⟩
  have s3 := ht.size
  by_cases hlt : q < n
  rotate_left
  · rw [bif_neg (by omega)]
    obtain rfl : q = n := by omega
    rw [show l.take q = l from List.take_of_length_le (by omega)] at *
    refine ⟨x, xc, rfl, ⟨vs, own_rsl hown fun v hv => ?_, hT.1, fun i t h => ?_⟩, ht⟩
    · obtain ⟨i, hi⟩ := List.getElem?_of_mem hv
      have hil := (List.getElem?_eq_some_iff.1 hi).1
      have hlen := hT.1
      obtain ⟨b, d, h1, _⟩ := hT.2 i _ (List.getElem?_eq_getElem (by omega))
      rw [hi] at h1
      cases h1
      rfl
    · obtain ⟨b, d, h1, h2, _⟩ := hT.2 i t h
      exact ⟨b, d, h1, h2⟩
  rw [bif_pos (by omega)]
  refine ⟨by omega, by omega, ?_⟩
  rw [Int.toNat_natCast]
  have hli : l[q]? = some (l[q]'(by omega)) := List.getElem?_eq_getElem (by omega)
  generalize l[q]'(by omega) = y at hli
  have hy := hl y (List.mem_of_getElem? hli)
  have hsn := textsS_snoc hli
  have hlen := textsS_len (l.take q)
  rw [List.length_take] at hlen
  obtain ⟨b0, o0, rfl, ck⟩ := (hr.tch ht (fun _ _ h => by cases h)).elem' (nodes_cells hl) (by omega) hli
  refine ⟨y.cells, cells_len hy.ll hy.rl, by rw [add_mk]; exact ck, ?_⟩
  refine (text_c y hy w3).mono ?_
  rintro e w9 ⟨t9, hm⟩
  have hown9 := own_up hown t9 (fun _ _ h => by cases h)
  have hT9 := hT.quiet t9
  have s9 := t9.size
  have q9 := ht.trans t9 (by simp)
  have hxold := own_ge hown
  cases hts : textS y with
  | none =>
    rw [hts] at hm
    subst hm
    have hno : textN y = none := by unfold textN; split; rfl; exact hts
    rw [hno] at hsn
    rw [List.append_nil] at hsn
    refine ⟨_, _, _, _, rfl, _, _, _, rfl, _, rfl, ?_⟩
    refine ⟨fun b u => b = false ∧ u = w9, ⟨rfl, rfl⟩, ?_⟩
    rintro u _ ⟨rfl, hu⟩
    rw [hu]
    show (∃ m25, _)
    exact ⟨n - (q + 1), by omega, q + 1, vs, by rw [wrap_i64 (by omega) (by omega)]; omega, by omega, rfl, by rw [hsn], hown9, by rw [hsn]; exact hT9, q9⟩
  | some t =>
    rw [hts] at hm
    obtain ⟨ta, tc, rfl, hot⟩ := hm
    refine ⟨_, _, _, _, rfl, _, _, _, rfl, _, rfl, ?_⟩
    have hto := own_ge hot
    refine ⟨fun b u => b = (!decide (y.kind = 0)) ∧ u = w9, ?_, ?_⟩
    · show _ ∧ _
      refine ⟨by omega, by omega, y.kind, ?_, rfl, rfl⟩
      have := cells_get (cells_tch ck t9) (i := 0) (v := .int .i64 y.kind) rfl
      rw [add_mk, add_mk]
      exact this
    rintro u _ ⟨rfl, hu⟩
    rw [hu]
    by_cases hk : y.kind = 0
    · rw [decide_eq_true hk]
      have hno : textN y = none := by unfold textN; rw [if_pos hk]
      rw [hno, List.append_nil] at hsn
      show (∃ m25, _)
      exact ⟨n - (q + 1), by omega, q + 1, vs, by rw [wrap_i64 (by omega) (by omega)]; omega, by omega, rfl, by rw [hsn], hown9, by rw [hsn]; exact hT9, q9⟩
    · rw [decide_eq_false hk]
      have hno : textN y = some t := by unfold textN; rw [if_neg hk]; exact hts
      rw [hno] at hsn
      show (∃ cs19, _)
      have hT' := hT9.snoc (own_rsl hot ones_ints) (fun z hz hm => by
        rw [mem_rowL] at hm
        obtain ⟨p, hp, he⟩ := hm
        have g1 := (hxold p hp).2
        have g2 := (hto z hz).1
        omega) (fun z hz => (hto z hz).2)
      refine app_elem_at fsT hown9 (by rw [zcBs]; rfl) (ys := [.slice ta t.length tc]) rfl rfl (by simp [one]) (by omega) (by omega) (by omega) fun a5 c5 w22 o5 t5 m5 => ?_
      refine ⟨n - (q + 1), by omega, q + 1, vs ++ [.slice ta t.length tc], by rw [wrap_i64 (by omega) (by omega)]; omega, by omega, rfl, by rw [hsn]; simp, o5, by rw [hsn]; exact hT'.grow t5 m5, ?_⟩
      exact q9.trans t5 fun i hi => .inr (by
        rw [mem_rowL] at hi
        obtain ⟨z, hz, rfl⟩ := hi
        exact (own_ge hown9 z hz).1)
/-! ### collide -/
def collideS (ts : List (List Int)) : Prop := ∃ (i : Nat) (t : List Int), ts[i]? = some t ∧ (sha t = z32 ∨ ∃ (k : Nat) (s : List Int), k < i ∧ ts[k]? = some s ∧ sha s = sha t ∧ t ≠ s)
theorem zcDg1 : (zrep (zc Tryd.prog 24) (1 * 32)).length = 1 * 32 := by rw [zcDig]; rfl
theorem dgT : slT Tryd.prog 126 24 32 32 = true := by kernel_rfl
theorem dg_len {ts : List (List Int)} : ∀ x ∈ ts, (u8 (sha x)).length = 32 := fun x _ => by rw [List.length_map]; exact sha_length _
theorem dg_snoc {ts : List (List Int)} {i : Nat} {t : List Int} (h : ts[i]? = some t) : rows (fun x => u8 (sha x)) (ts.take i) ++ u8 (sha t) = rows (fun x => u8 (sha x)) (ts.take (i + 1)) := rows_snoc (f := fun x => u8 (sha x)) h
theorem collide_c (w : World) (ts : List (List Int)) (a : Option Addr) (c : Nat) (hT : TextsAt w a c ts) (hts : ∀ t ∈ ts, t.length ≤ 66 ∧ Bytes t) (hN : ts.length ≤ 10000000000) :
    Calls Tryd.prog 37 #[.slice a ts.length c] w fun e w' => e = .returned (.bool (decide (collideS ts))) ∧ Tch [] w w' := by
  refine c37 _ _ _ ?_
  unfold d37
  refine ⟨fun m x xn xc i u => ∃ q : Nat, i = q ∧ q ≤ ts.length ∧ m = ts.length - q ∧ xn = q ∧ u.ownsRow w.heap.size 24 32 (.slice x q xc) q (rows (fun x => u8 (sha x)) (ts.take q)) ∧ Tch [] w u ∧ ∀ (j : Nat) (t : List Int), ts[j]? = some t → j < q → sha t ≠ z32 ∧ ∀ (k : Nat) (s : List Int), k < j → ts[k]? = some s → sha s = sha t → t = s, ⟨ts.length, 0, rfl, by omega, rfl, rfl, own_nil _ _ _ _, Tch.refl _ _, by omega⟩, ?_⟩
  rintro m w3 x xn xc i ⟨q, rfl, hq, rfl, rfl, hown, ht, hno⟩
  have s3 := ht.size
  by_cases hlt : xn < ts.length
  rotate_left
  · rw [bif_neg (by omega)]
    refine ⟨?_, ht⟩
    rw [decide_eq_false]
    rintro ⟨i, t, hi, hc⟩
    have hil := (List.getElem?_eq_some_iff.1 hi).1
    obtain ⟨g1, g2⟩ := hno i t hi (by omega)
    rcases hc with hc | ⟨k, s, hk, hs, he, hne⟩
    · exact g1 hc
    · exact hne (g2 k s hk hs he)
  rw [bif_pos (by omega)]
  refine ⟨by omega, by omega, ?_⟩
  rw [Int.toNat_natCast]
  have hti : ts[xn]? = some (ts[xn]'(by omega)) := List.getElem?_eq_getElem (by omega)
  generalize ts[xn]'(by omega) = t at hti
  obtain ⟨hl66, htb⟩ := hts t (List.mem_of_getElem? hti)
  obtain ⟨y, b, d, rfl, g1, g2⟩ := (hT.quiet ht).get hti
  refine ⟨b, t.length, d, g1, ?_⟩
  refine (refSum_c w3 t b t.length d g2 htb (by omega)).mono ?_
  rintro e w9 ⟨rfl, t9⟩
  refine ⟨_, rfl, ?_⟩
  have hsl : (u8 (sha t)).length = 32 := by rw [List.length_map]; exact sha_length _
  refine var_init (n := 32) (by rw [zcDig]; rfl) hsl ones_ints fun w11 w12 hx t12 s12 => ?_
  replace t9 := t9.trans t12 (by simp)
  have q12 := ht.trans t9 (by simp)
  replace hown := own_up hown t9 (fun _ _ h => by cases h)
  clear t12
  generalize w9.heap.size = xb at *
  refine get_all hx hsl ?_
  refine ⟨u8 z32, by rw [zcDig]; rfl, ?_⟩
  refine eq_flat_d dig_flat dig_eqT (dig_fits (sha_length t) (sha_bytes t)) (dig_fits rfl z32_bytes) (p := sha t = z32) ⟨fun h => map_u8_inj h, fun h => by rw [h]⟩ ?_
  by_cases hz : sha t = z32
  · rw [decide_eq_true hz]
    exact ⟨by rw [decide_eq_true (show collideS ts from ⟨xn, t, hti, .inl hz⟩)], q12⟩
  rw [decide_eq_false hz]
  show (∃ I16 : Nat → Int → World → Prop, _)
  refine ⟨fun m i u => ∃ k : Nat, i = k ∧ k ≤ xn ∧ m = xn - k ∧ Tch [] w12 u ∧ ∀ (j : Nat) (s : List Int), j < k → ts[j]? = some s → sha s = sha t → t = s, ⟨xn, 0, rfl, by omega, rfl, Tch.refl _ _, by omega⟩, ?_⟩
  rintro m w18 i ⟨k, rfl, hk, rfl, t18, hks⟩
  by_cases hkl : k < xn
  · rw [bif_pos (by omega)]
    rintro w20 rfl
    replace t18 := t18.drew
    generalize w18.drew = w20 at *
    refine ⟨by omega, by omega, ?_⟩
    rw [Int.toNat_natCast]
    have hki : ts[k]? = some (ts[k]'(by omega)) := List.getElem?_eq_getElem (by omega)
    generalize ts[k]'(by omega) = s at hki
    have hki' : (ts.take xn)[k]? = some s := by rw [List.getElem?_take, if_pos hkl]; exact hki
    have hdr := own_rsl (own_up hown t18 (fun _ _ h => by cases h)) (fun u hu => by
      unfold rows at hu
      obtain ⟨v, hv, hu⟩ := List.mem_flatten.1 hu
      obtain ⟨x, _, rfl⟩ := List.mem_map.1 hv
      exact ones_ints u hu)
    refine hdr.elem (f := fun x => u8 (sha x)) dg_len (by omega) hki' ?_
    refine get_all (hx.tch t18 (by simp)) hsl ?_
    refine eq_flat_d dig_flat dig_eqT (dig_fits (sha_length s) (sha_bytes s)) (dig_fits (sha_length t) (sha_bytes t)) (p := sha s = sha t) ⟨fun h => map_u8_inj h, fun h => by rw [h]⟩ ?_
    by_cases hst : sha s = sha t
    · rw [decide_eq_true hst]
      show _ ∧ _
      have hT20 := (hT.quiet q12).quiet t18
      obtain ⟨y1, b1, d1, e1, c1, r1⟩ := hT20.get hti
      cases e1
      obtain ⟨y2, b2, d2, e2, c2, r2⟩ := hT20.get hki
      cases e2
      refine ⟨by omega, by omega, b1, t.length, d1, by exact c1, by omega, by omega, b2, s.length, d2, c2, ?_⟩
      refine (same_c w20 t s b1 b2 t.length d1 s.length d2 r1 r2 (by omega)).mono ?_
      rintro e w30 ⟨rfl, t30⟩
      refine ⟨_, rfl, ?_⟩
      by_cases hts2 : t = s
      · rw [bif_npos hts2]
        refine ⟨xn - (k + 1), by omega, k + 1, by rw [wrap_i64 (by omega) (by omega)]; omega, by omega, rfl, t18.trans t30 (by simp), fun j s' hj hs' he => ?_⟩
        by_cases e : j = k
        · subst e
          rw [hki] at hs'; cases hs'
          exact hts2
        · exact hks j s' (by omega) hs' he
      · rw [bif_nneg hts2]
        exact ⟨by rw [decide_eq_true (show collideS ts from ⟨xn, t, hti, .inr ⟨k, s, hkl, hki, hst, hts2⟩⟩)], (q12.trans t18 (by simp)).trans t30 (by simp)⟩
    · rw [decide_eq_false hst]
      show (∃ m33, _)
      refine ⟨xn - (k + 1), by omega, k + 1, by rw [wrap_i64 (by omega) (by omega)]; omega, by omega, rfl, t18, fun j s' hj hs' he => ?_⟩
      by_cases e : j = k
      · subst e
        rw [hki] at hs'; cases hs'
        exact absurd he hst
      · exact hks j s' (by omega) hs' he
  · rw [bif_neg (by omega)]
    obtain rfl : k = xn := by omega
    refine get_all (hx.tch t18 (by simp)) hsl ?_
    have hown18 := own_up hown t18 (fun _ _ h => by cases h)
    have s18 := t18.size
    have s12' := q12.size
    refine app_elem_at dgT hown18 zcDg1 (ys := u8 (sha t)) rfl hsl ones_ints (by omega) (by omega) (by omega) fun a5 c5 w38 o5 t5 m5 => ?_
    refine ⟨ts.length - (k + 1), by omega, k + 1, by rw [wrap_i64 (by omega) (by omega)]; omega, by omega, rfl, rfl, ?_, ?_, ?_⟩
    · rw [dg_snoc hti] at o5
      exact o5
    · exact (q12.trans t18 (by simp)).trans t5 fun i hi => .inr (by
        rw [mem_rowL] at hi
        obtain ⟨z, hz, rfl⟩ := hi
        exact (own_ge hown18 z hz).1)
    · intro j t' hj hlt'
      by_cases e : j = k
      · subst e
        rw [hti] at hj; cases hj
        exact ⟨hz, fun k' s' hk' hs' he => hks k' s' hk' hs' he⟩
      · exact hno j t' hj (by omega)
end Go.Proofs.YtjkbjppopdfggaaDoor.Tre
namespace Go.Proofs.YtjkbjppopdfggaaDoor.Tre
open Go Den Fn Sha
open Go.RowKit (Below)
open Classical
set_option maxRecDepth 8000
set_option maxHeartbeats 4000000
theorem row_flat : flatK Tryd.prog 8 31 = some [.int .i64, .int .i64, .int .i64] := by kernel_rfl
theorem row_eqT : eqT Tryd.prog 8 31 = true := by kernel_rfl
theorem row_fits {x : Rw} (h : x.wf) : Fits [.int .i64, .int .i64, .int .i64] (rwC x) := ⟨⟨rfl, Lib.i64_wf.2 h.t⟩, ⟨rfl, Lib.i64_wf.2 h.r⟩, ⟨rfl, Lib.i64_wf.2 h.v⟩, trivial⟩
theorem rwC_inj {a b : Rw} : rwC a = rwC b ↔ a = b := by
  obtain ⟨a1, a2, a3⟩ := a
  obtain ⟨b1, b2, b3⟩ := b
  simp [rowC]
theorem sameRows_c (w : World) (l m : List Rw) (a : Option Addr) (n c : Nat) (b : Option Addr) (k d : Nat) (ha : RSl w 3 a n c (rows rwC l)) (hb : RSl w 3 b k d (rows rwC m)) (hl : ∀ x ∈ l, x.wf) (hm : ∀ x ∈ m, x.wf) (hN : n ≤ 1000000000000) :
    Calls Tryd.prog 34 #[.slice a n c, .slice b k d] w fun e w' => e = .returned (.bool (decide (l = m))) ∧ Tch [] w w' := by
  have hn := ha.count rwC_len (by omega)
  have hk := hb.count rwC_len (by omega)
  refine c34 _ _ _ _ _ _ ?_
  unfold d34
  by_cases he : n = k
  rotate_left
  · rw [bif_nneg (by omega)]
    exact ⟨by rw [decide_eq_false (by rintro rfl; omega)], Tch.refl _ _⟩
  rw [bif_npos (by omega)]
  refine ⟨fun r i u => ∃ q : Nat, i = q ∧ q ≤ n ∧ r = n - q ∧ l.take q = m.take q ∧ Tch [] w u, ⟨n, 0, rfl, by omega, rfl, rfl, Tch.refl _ _⟩, ?_⟩
  rintro r w4 i ⟨q, rfl, hq, rfl, heq, ht⟩
  by_cases hlt : q < n
  rotate_left
  · rw [bif_neg (by omega)]
    rw [List.take_of_length_le (by omega), List.take_of_length_le (by omega)] at heq
    exact ⟨by rw [decide_eq_true heq], ht⟩
  rw [bif_pos (by omega)]
  rintro w6 rfl
  replace ht := ht.drew
  generalize w4.drew = w6 at *
  refine ⟨by omega, by omega, ?_⟩
  rw [Int.toNat_natCast]
  have h1 : l[q]? = some (l[q]'(by omega)) := List.getElem?_eq_getElem (by omega)
  have h2 : m[q]? = some (m[q]'(by omega)) := List.getElem?_eq_getElem (by omega)
  have e1 : l.take (q + 1) = l.take q ++ [l[q]'(by omega)] := List.take_succ_eq_append_getElem (by omega)
  have e2 : m.take (q + 1) = m.take q ++ [m[q]'(by omega)] := List.take_succ_eq_append_getElem (by omega)
  generalize l[q]'(by omega) = x at h1 e1
  generalize m[q]'(by omega) = y at h2 e2
  refine (ha.tch ht (fun _ _ h => by cases h)).elem rwC_len (by omega) h1 ?_
  refine ⟨by omega, by omega, ?_⟩
  refine (hb.tch ht (fun _ _ h => by cases h)).elem rwC_len (by omega) h2 ?_
  refine neq_flat_d row_flat row_eqT (row_fits (hl x (List.mem_of_getElem? h1))) (row_fits (hm y (List.mem_of_getElem? h2))) rwC_inj ?_
  by_cases hxy : x = y
  · rw [bif_npos hxy]
    exact ⟨n - (q + 1), by omega, q + 1, by rw [wrap_i64 (by omega) (by omega)]; omega, by omega, rfl, by rw [e1, e2, heq, hxy], ht⟩
  · rw [bif_nneg hxy]
    refine ⟨?_, ht⟩
    rw [decide_eq_false (by rintro rfl; rw [h1] at h2; cases h2; exact hxy rfl)]
/-! ### sameProof -/
theorem fork_flat : flatK Tryd.prog 8 51 = some (.int .i64 :: List.replicate 32 (.int .u8)) := by kernel_rfl
theorem fork_eqT : eqT Tryd.prog 8 51 = true := by kernel_rfl
theorem fork_fits {f : Fk} (h : f.ok) : Fits (.int .i64 :: List.replicate 32 (.int .u8)) (fkC f) := ⟨⟨rfl, Lib.i64_wf.2 h.1⟩, dig_fits h.2.1 h.2.2⟩
theorem fkC_inj {f g : Fk} : fkC f = fkC g ↔ f = g := by
  refine ⟨fun h => ?_, fun h => by rw [h]⟩
  obtain ⟨b1, o1⟩ := f
  obtain ⟨b2, o2⟩ := g
  simp only [fkC, List.cons.injEq, Value.int.injEq, true_and] at h
  rw [h.1, map_u8_inj h.2]
theorem sameProof_c (w : World) (p q : Pf) (a : Option Addr) (n c : Nat) (b : Option Addr) (k d : Nat) (hp : PfAt w a n c p) (hq : PfAt w b k d q) (hN : n ≤ 1000000000000) :
    Calls Tryd.prog 67 #[.agg (pfC a n c p).toArray, .agg (pfC b k d q).toArray] w fun e w' => e = .returned (.bool (decide (p = q))) ∧ Tch [] w w' := by
  have hn := hp.len
  have hk := hq.len
  refine c67 _ _ ?_
  unfold d67
  rintro w2 rfl
  have hA : Blk _ _ (pfC a n c p) := Blk.fresh w (cs := pfC a n c p) 43 rfl
  have ht := (Tch.refl [] w).alloc (.cells (pfC a n c p).toArray 43)
  generalize w.alloc (.cells (pfC a n c p).toArray 43) = w2 at *
  rintro w3 rfl
  have hB : Blk _ _ (pfC b k d q) := Blk.fresh w2 (cs := pfC b k d q) 43 rfl
  have q3 := (Tch.refl [] w2).alloc (.cells (pfC b k d q).toArray 43)
  replace hA := hA.tch q3 (by simp)
  replace ht := ht.trans q3 (by simp)
  clear q3
  generalize w2.alloc (.cells (pfC b k d q).toArray 43) = w3 at *
  generalize w.heap.size = ab at *
  generalize w2.heap.size = bb at *
  have hrw : ∀ {p q : Pf}, p.leaf = q.leaf → p.fs = q.fs → (p.t = q.t ∧ p.r = q.r ∧ p.v = q.v) → p = q := fun {p q} h1 h2 h3 => by
    obtain ⟨a1, a2, a3, a4, a5⟩ := p
    obtain ⟨b1, b2, b3, b4, b5⟩ := q
    simp only at h1 h2 h3
    obtain ⟨g1, g2, g3⟩ := h3
    rw [h1, h2, g1, g2, g3]
  refine ⟨fun u => u = w3 ∧ p.leaf = q.leaf ∧ (p.t = q.t ∧ p.r = q.r ∧ p.v = q.v) ∧ n = k, ?_, ?_⟩
  · refine ⟨p.leaf, by rw [add_mk]; exact hA.cell 1, q.leaf, by rw [add_mk]; exact hB.cell 1, ?_⟩
    by_cases h1 : p.leaf = q.leaf
    rotate_left
    · have e : (!(p.leaf == q.leaf)) = true := by simp [h1]
      rw [e]
      exact ⟨by rw [decide_eq_false (by rintro rfl; exact h1 rfl)], ht⟩
    have e : (!(p.leaf == q.leaf)) = false := by simp [h1]
    rw [e]
    show (∃ cs7 : List Value, _)
    refine get_part hA 2 3 (rwC ⟨p.t, p.r, p.v⟩) rfl rfl ?_
    refine get_part hB 2 3 (rwC ⟨q.t, q.r, q.v⟩) rfl rfl ?_
    refine neq_flat_d row_flat row_eqT (row_fits (x := ⟨p.t, p.r, p.v⟩) ⟨hp.1.t, hp.1.r, hp.1.v⟩) (row_fits (x := ⟨q.t, q.r, q.v⟩) ⟨hq.1.t, hq.1.r, hq.1.v⟩) rwC_inj ?_
    by_cases h2 : (⟨p.t, p.r, p.v⟩ : Rw) = ⟨q.t, q.r, q.v⟩
    rotate_left
    · rw [bif_nneg h2]
      exact ⟨by rw [decide_eq_false (by rintro rfl; exact h2 rfl)], ht⟩
    rw [bif_npos h2]
    refine ⟨a, n, c, by rw [add_mk]; exact hA.cell 0, b, k, d, by rw [add_mk]; exact hB.cell 0, ?_⟩
    by_cases h3 : n = k
    rotate_left
    · rw [bif_nneg (by omega)]
      exact ⟨by rw [decide_eq_false (by rintro rfl; omega)], ht⟩
    rw [bif_npos (by omega)]
    simp only [Rw.mk.injEq] at h2
    exact ⟨rfl, h1, h2, h3⟩
  rintro w12 ⟨hw, h1, h2, h3⟩
  rw [hw]
  clear hw
  refine ⟨fun r i u => ∃ j : Nat, i = j ∧ j ≤ n ∧ r = n - j ∧ p.fs.take j = q.fs.take j ∧ Tch [] w3 u, ⟨n, 0, rfl, by omega, rfl, rfl, Tch.refl _ _⟩, ?_⟩
  rintro r w15 i ⟨j, rfl, hj, rfl, heq, t15⟩
  have hA15 := hA.tch t15 (by simp)
  refine ⟨a, n, c, by rw [add_mk]; exact hA15.cell 0, ?_⟩
  by_cases hlt : j < n
  rotate_left
  · rw [bif_neg (by omega)]
    rw [List.take_of_length_le (by omega), List.take_of_length_le (by omega)] at heq
    exact ⟨by rw [decide_eq_true (hrw h1 heq h2)], ht.trans t15 (by simp)⟩
  rw [bif_pos (by omega)]
  rintro w18 rfl
  replace t15 := t15.drew
  replace hA15 := hA15.drew
  generalize w15.drew = w18 at *
  have hB15 := hB.tch t15 (by simp)
  have t0 := ht.trans t15 (by simp)
  refine ⟨a, n, c, by rw [add_mk]; exact hA15.cell 0, by omega, by omega, ?_⟩
  rw [Int.toNat_natCast]
  have g1 : p.fs[j]? = some (p.fs[j]'(by omega)) := List.getElem?_eq_getElem (by omega)
  have g2 : q.fs[j]? = some (q.fs[j]'(by omega)) := List.getElem?_eq_getElem (by omega)
  have e1 : p.fs.take (j + 1) = p.fs.take j ++ [p.fs[j]'(by omega)] := List.take_succ_eq_append_getElem (by omega)
  have e2 : q.fs.take (j + 1) = q.fs.take j ++ [q.fs[j]'(by omega)] := List.take_succ_eq_append_getElem (by omega)
  generalize p.fs[j]'(by omega) = x at g1 e1
  generalize q.fs[j]'(by omega) = y at g2 e2
  have hx := hp.1.fs x (List.mem_of_getElem? g1)
  have hy := hq.1.fs y (List.mem_of_getElem? g2)
  refine (hp.quiet t0).2.elem (fkC_len hp.1.fs) (by omega) g1 ?_
  refine ⟨b, k, d, by rw [add_mk]; exact hB15.cell 0, by omega, by omega, ?_⟩
  refine (hq.quiet t0).2.elem (fkC_len hq.1.fs) (by omega) g2 ?_
  refine neq_flat_d fork_flat fork_eqT (fork_fits hx) (fork_fits hy) fkC_inj ?_
  by_cases hxy : x = y
  · rw [bif_npos hxy]
    exact ⟨n - (j + 1), by omega, j + 1, by rw [wrap_i64 (by omega) (by omega)]; omega, by omega, rfl, by rw [e1, e2, heq, hxy], t15⟩
  · rw [bif_nneg hxy]
    refine ⟨?_, t0⟩
    rw [decide_eq_false (by rintro rfl; rw [g1] at g2; cases g2; exact hxy rfl)]
/-! ### proves -/
theorem zp_ok {w : World} : PfAt w none 0 0 ⟨[], false, 0, 0, 0⟩ := ⟨⟨by simp, i64_0, i64_0, i64_0⟩, RSl.nil _ _⟩
theorem proofS_ok {kb : List Int} {l : List Rw} (h : RowsOk l) : (proofS kb l).ok ∧ (proofS kb l).fs.length ≤ l.length := by
  unfold proofS
  split
  · exact ⟨⟨by simp, i64_0, i64_0, i64_0⟩, by simp⟩
  · rename_i hne
    have hpos := List.length_pos_iff.2 hne
    obtain ⟨g1, g2, g3⟩ := proveS_ok (kb := kb) (treeT_ok (Nat.le_refl _) hpos h)
    rw [show (treeT l).rows = l from treeS_rows (Nat.le_refl _) hpos h] at g3
    exact ⟨⟨fun f hf => (g1 f hf).1, g2.t, g2.r, g2.v⟩, Nat.le_of_lt g3⟩
theorem proves_c (w : World) (l : List Rw) (a : Option Addr) (n c : Nat) (hr : RSl w 3 a n c (rows rwC l)) (hR : RowsOk l) (hN : l.length ≤ 1000000000) (k : Int × Int) (p : Pf) (pa : Option Addr) (pn pc : Nat) (hp : PfAt w pa pn pc p) (e : Int)
    (hok : if Lib.KeyOk k.1 then e = 0 ∧ p = proofS (Sha.keyB k.1 k.2) l else e = 20 ∧ p = ⟨[], false, 0, 0, 0⟩) :
    Calls Tryd.prog 40 #[.slice a n c, .agg (Lib.kC k).toArray, .agg (pfC pa pn pc p).toArray, .int .i64 e] w fun e w' => e = .returned (.bool true) ∧ Tch [] w w' := by
  have hlen := hp.len
  have hn := hr.count rwC_len (by omega)
  refine c40 _ _ _ _ _ _ ?_
  unfold d40
  rintro w4 rfl
  have hK : Blk _ _ (Lib.kC k) := Blk.fresh w (cs := Lib.kC k) 29 rfl
  have ht := (Tch.refl [] w).alloc (.cells (Lib.kC k).toArray 29)
  generalize w.alloc (.cells (Lib.kC k).toArray 29) = w4 at *
  rintro w5 rfl
  have hP : Blk _ _ (pfC pa pn pc p) := Blk.fresh w4 (cs := pfC pa pn pc p) 43 rfl
  have q5 := (Tch.refl [] w4).alloc (.cells (pfC pa pn pc p).toArray 43)
  replace hK := hK.tch q5 (by simp)
  replace ht := ht.trans q5 (by simp)
  clear q5
  generalize w4.alloc (.cells (pfC pa pn pc p).toArray 43) = w5 at *
  have hKok : Lib.KeyOk k.1 ↔ (0 ≤ k.1 ∧ k.1 ≤ 65535) := Iff.rfl
  refine ⟨fun b u => b = (!decide (Lib.KeyOk k.1)) ∧ u = w5, ?_, ?_⟩
  · refine ⟨k.1, by rw [add_mk]; exact hK.cell 0, ?_⟩
    by_cases h0 : k.1 < 0
    · rw [bif_pos h0]
      exact ⟨by rw [decide_eq_false (by rw [hKok]; omega)]; rfl, rfl⟩
    · rw [bif_neg h0]
      refine ⟨k.1, by rw [add_mk]; exact hK.cell 0, ?_, rfl⟩
      by_cases h1 : 65535 < k.1
      · rw [decide_eq_true h1, decide_eq_false (by rw [hKok]; omega)]; rfl
      · rw [decide_eq_false h1, decide_eq_true (by rw [hKok]; omega)]; rfl
  rintro w9 x ⟨rfl, hw⟩
  rw [hw]
  clear hw
  by_cases hk : Lib.KeyOk k.1
  · rw [if_pos hk] at hok
    obtain ⟨rfl, hpe⟩ := hok
    rw [bif_npos hk]
    rintro w16 rfl
    replace hK := hK.drew
    replace hP := hP.drew
    replace ht := ht.drew
    generalize w5.drew = w16 at *
    rw [bif_pos rfl]
    refine get_all hP rfl ?_
    refine get_all hK rfl ?_
    refine (refProve_c w16 l a n c (hr.tch ht (fun _ _ h => by cases h)) hR hN k hk).mono ?_
    rintro e w20 ⟨qa, qc, rfl, hq, t20⟩
    refine ⟨_, rfl, get_all (hP.tch t20 (by simp)) rfl ⟨rfl, rfl⟩, ?_⟩
    obtain ⟨ho1, ho2⟩ := proofS_ok (kb := Sha.keyB k.1 k.2) hR
    have hpl : p.fs.length ≤ l.length := by rw [hpe]; exact ho2
    refine (sameProof_c w20 p (proofS (Sha.keyB k.1 k.2) l) pa pn pc qa _ qc (hp.quiet (ht.trans t20 (by simp))) ⟨ho1, own_rsl hq fkCs_one⟩ (by omega)).mono ?_
    rintro e w24 ⟨rfl, t24⟩
    exact ⟨_, rfl, by rw [decide_eq_true hpe], (ht.trans t20 (by simp)).trans t24 (by simp)⟩
  · rw [if_neg hk] at hok
    obtain ⟨rfl, hpe⟩ := hok
    rw [bif_nneg hk, bif_pos rfl]
    refine get_all hP rfl ?_
    refine ⟨pfC none 0 0 ⟨[], false, 0, 0, 0⟩, by rw [zcPf2]; rfl, ?_⟩
    have hpl : p.fs.length = 0 := by rw [hpe]; rfl
    refine (sameProof_c w5 p ⟨[], false, 0, 0, 0⟩ pa pn pc none 0 0 (hp.quiet ht) zp_ok (by omega)).mono ?_
    rintro e w14 ⟨rfl, t14⟩
    exact ⟨_, rfl, by rw [decide_eq_true hpe], ht.trans t14 (by simp)⟩
end Go.Proofs.YtjkbjppopdfggaaDoor.Tre
namespace Go.Proofs.YtjkbjppopdfggaaDoor.Tre
open Go Den Fn Sha
open Go.RowKit (Below)
open Classical
set_option maxRecDepth 8000
set_option maxHeartbeats 4000000
theorem lent_rsl {w : World} {b n : Nat} {l : List Rw} {ys : List Value} (h : Blk w b (rows rwC l ++ ys)) (hn : l.length = n) {c : Nat} (hc : n ≤ c) : RSl w 3 (some ⟨b, 0, none⟩) n c (rows rwC l) :=
  ⟨hc, by rw [rows_len (sz := 3) fun _ _ => rfl, hn], rwCs_one, .inr ⟨b, 0, rfl, fun i v hv => h.cells i v (by rw [List.getElem?_append_left (List.getElem?_eq_some_iff.1 hv).1]; exact hv)⟩⟩
end Go.Proofs.YtjkbjppopdfggaaDoor.Tre
