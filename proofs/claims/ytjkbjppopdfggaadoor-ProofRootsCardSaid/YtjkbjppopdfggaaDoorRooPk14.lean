/-
  TREES OVER ROWS, THE REFERENCE's: split, Nodes, Root: contracts.
  TREES OVER ROWS, THE REFERENCE's: Root, Prove: contracts.
  THE LAWS' HELPERS: texts, collide, sameRows: contracts.
  THE LAWS' HELPERS: sameRows, sameProof, proves, back: contracts.
  THE LAW OF DIFFERENCES: ProofDiffs answers yes.
  THE LAWS' HELPERS: back, apart: contracts.
  THE LAW OF TREES: ProofTrees answers yes.
  TREES OVER ROWS, WHAT THE BITS SAY: the lower rows have the bit not set, the upper ones have it; ranks rise; a proof leads to its row (plain functions).
  TWO UNLIKE TREES, OR A TREE AND A FORGED PROOF, WITH ONE DIGEST: then two unlike texts have one digest (plain functions).
  THE CODE of some functions of the given program, resolved, and proved to ask what the readable texts (d..) say; contracts c.. follow. Printed by a small program of mine.
  Own work. No macro, syntax, notation, axiom.
-/
import Derived.Test.YtjkbjppopdfggaaDoorRooPk13
import Derived.Test.YtjkbjppopdfggaaDoorRooPk12
import Derived.Test.YtjkbjppopdfggaaDoorRooPk3
import Derived.Test.YtjkbjppopdfggaaDoorProg
namespace Go.Proofs.YtjkbjppopdfggaaDoor.Tre
open Go Den Fn Sha
open Go.RowKit (Below)
open Classical
set_option maxRecDepth 8000
set_option maxHeartbeats 4000000
theorem split_c (w : World) (l : List Rw) (a : Option Addr) (n c : Nat) (hr : RSl w 3 a n c (rows rwC l)) (hR : RowsOk l) (h2 : 2 ≤ l.length) (hN : l.length ≤ 1000000000000) :
    Calls Tryd.prog 66 #[.slice a n c] w fun e w' => e = .returned (.tuple #[.int .i64 ((partBit l : Nat) : Int), .int .i64 ((partAt l (partBit l) : Nat) : Int)]) ∧ Tch [] w w' := by
  have hn := hr.count rwC_len (by omega)
  have hP := partBit_ok hR h2
  generalize partBit l = q at *
  obtain ⟨hp0, hpl, hq80⟩ := hP.at
  obtain ⟨x, y, hx, hy, hF, _, _⟩ := hP
  have hxk := (hR.ok x (List.mem_of_getElem? hx)).key
  have hyk := (hR.ok y (List.mem_of_getElem? hy)).key
  refine c66 _ _ _ ?_
  unfold d66
  refine ⟨fun m i u => ∃ j : Nat, i = j ∧ m = 80 - j ∧ j ≤ q ∧ Tch [] w u, ⟨80, 0, rfl, rfl, by omega, Tch.refl _ _⟩, ?_⟩
  rintro m w3 i ⟨j, rfl, rfl, hj, ht⟩
  rintro w5 rfl
  replace ht := ht.drew
  generalize w3.drew = w5 at *
  rw [wrap_i64 (by omega) (by omega)]
  have hcast : (((n : Nat) : Int) - 1) = ((n - 1 : Nat) : Int) := by omega
  rw [hcast]
  have hr5 := hr.tch ht (fun _ _ h => by cases h)
  rw [hn] at hy
  obtain ⟨b1, o1, ha1, k1, _⟩ := row_at hr5 hx
  obtain ⟨b2, o2, ha2, k2, _⟩ := row_at hr5 hy
  subst ha1
  cases ha2
  refine ⟨by omega, by omega, Lib.kC x.k, rfl, k1, by omega, by omega, Lib.kC y.k, rfl, by rw [Int.toNat_natCast]; exact k2, ?_⟩
  refine (refBit_c w5 x.t x.r (j : Int) hxk ⟨by omega, by omega⟩).mono ?_
  rintro e w11 ⟨rfl, t11⟩
  obtain ⟨b2, o2, ha2, k3, _⟩ := row_at (hr5.tch t11 (fun _ _ h => by cases h)) hy
  cases ha2
  refine ⟨_, rfl, ⟨Lib.kC y.k, rfl, by rw [Int.toNat_natCast]; exact k3, rfl, rfl⟩, ?_⟩
  refine (refBit_c w11 y.t y.r (j : Int) hyk ⟨by omega, by omega⟩).mono ?_
  rintro e w15 ⟨rfl, t15⟩
  refine ⟨_, rfl, ?_⟩
  replace ht := (ht.trans t11 (by simp)).trans t15 (by simp)
  clear k1 k2 k3 hr5 t11 t15
  by_cases hjq : j < q
  · have heq : bitS (Sha.keyB x.t x.r) (j : Int) = bitS (Sha.keyB y.t y.r) (j : Int) := hF.2.2 j hjq
    rw [bif_pos heq]
    exact ⟨80 - (j + 1), by omega, j + 1, by rw [wrap_i64 (by omega) (by omega)]; omega, rfl, by omega, ht⟩
  obtain rfl : j = q := by omega
  have hne : ¬ bitS (Sha.keyB x.t x.r) (j : Int) = bitS (Sha.keyB y.t y.r) (j : Int) := hF.2.1
  rw [bif_neg hne]
  refine ⟨fun m i u => ∃ k : Nat, i = k ∧ m = l.length - k ∧ k ≤ partAt l j ∧ Tch [] w u, ⟨l.length, 0, rfl, by omega, by omega, ht⟩, ?_⟩
  clear ht
  rintro m w20 i ⟨k, rfl, rfl, hk, ht⟩
  have hli : l[k]? = some (l[k]'(by omega)) := List.getElem?_eq_getElem (by omega)
  have hbit : bitS (kw (l[k]'(by omega))) (j : Int) = if k < partAt l j then 0 else 1 := by
    by_cases h : k < partAt l j
    · rw [if_pos h]
      have := List.not_of_lt_findIdx h
      rcases bitS_01 (kb := kw (l[k]'(by omega))) (keyB_bytes _ _) (n := (j : Int)) ⟨by omega, by omega⟩ with h0 | h0
      · exact h0
      · simp [h0] at this
    · rw [if_neg h]
      have e : k = partAt l j := by omega
      have := List.findIdx_getElem (p := fun x => decide (bitS (kw x) j = 1)) (w := hpl)
      have h3 := of_decide_eq_true this
      have e' : List.findIdx (fun x => decide (bitS (kw x) j = 1)) l = k := e.symm
      simp only [e'] at h3
      exact h3
  generalize l[k]'(by omega) = z at hli hbit
  obtain ⟨b3, o3, ha3, k4, _⟩ := row_at (hr.tch ht (fun _ _ h => by cases h)) hli
  cases ha3
  refine ⟨by omega, by omega, Lib.kC z.k, rfl, by rw [Int.toNat_natCast]; exact k4, ?_⟩
  refine (refBit_c w20 z.t z.r (j : Int) (hR.ok z (List.mem_of_getElem? hli)).key ⟨by omega, by omega⟩).mono ?_
  rintro e w25 ⟨rfl, t25⟩
  refine ⟨_, rfl, ?_⟩
  replace ht := ht.trans t25 (by simp)
  have hbit' : bitS (Sha.keyB z.t z.r) (j : Int) = if k < partAt l j then 0 else 1 := hbit
  rw [hbit']
  by_cases h : k < partAt l j
  · rw [if_pos h, bif_pos rfl]
    exact ⟨l.length - (k + 1), by omega, k + 1, by rw [wrap_i64 (by omega) (by omega)]; omega, rfl, by omega, ht⟩
  · rw [if_neg h, bif_neg (by decide)]
    obtain rfl : k = partAt l j := by omega
    exact ⟨rfl, ht⟩
/-! ### Nodes -/
theorem Tr.subs_len : ∀ t : Tr, t.subs.length + 1 = 2 * t.rows.length
  | .leaf x => rfl
  | .fork n l r => by
    have h1 := Tr.subs_len l
    have h2 := Tr.subs_len r
    show (Tr.fork n l r :: (l.subs ++ r.subs)).length + 1 = 2 * (l.rows ++ r.rows).length
    simp only [List.length_cons, List.length_append]
    omega
noncomputable def nodesL (l : List Rw) : List Nd := if l = [] then [Nd.zero] else (treeT l).nodes
theorem ndT : slT Tryd.prog 52 33 69 104 = true := by kernel_rfl
theorem nodesL_ok {l : List Rw} (h : RowsOk l) : ∀ n ∈ nodesL l, n.ok := fun n hn => by
  unfold nodesL at hn
  split at hn
  · rw [List.mem_singleton] at hn; rw [hn]; exact Nd.zero_ok
  · rename_i hne
    obtain ⟨s, hs, rfl⟩ := List.mem_map.1 hn
    exact Tr.node_ok (Tr.subs_ok (treeT_ok (Nat.le_refl _) (List.length_pos_iff.2 hne) h) s hs)
theorem nodes_cells {l : List Nd} (h : ∀ n ∈ l, n.ok) : ∀ n ∈ l, n.cells.length = 69 := fun n hn => cells_len (h n hn).ll (h n hn).rl
theorem ndCs_one {l : List Nd} : ∀ u ∈ rows Nd.cells l, one u = true := fun u hu => by
  unfold rows at hu
  obtain ⟨v, hv, hu⟩ := List.mem_flatten.1 hu
  obtain ⟨x, _, rfl⟩ := List.mem_map.1 hv
  exact cell_ones u hu
theorem nodesL_first {l : List Rw} (h : RowsOk l) : ∃ n r, nodesL l = n :: r ∧ ofS n = (rootS l, 0) := by
  unfold nodesL rootS
  by_cases hl : l = []
  · rw [if_pos hl, if_pos hl]
    exact ⟨_, _, rfl, rfl⟩
  · rw [if_neg hl, if_neg hl]
    obtain ⟨r, hr⟩ := Tr.subs_pos (treeT l)
    exact ⟨(treeT l).node, r.map Tr.node, by show (treeT l).subs.map Tr.node = _; rw [hr]; rfl, Tr.of_node (treeT_ok (Nat.le_refl _) (List.length_pos_iff.2 hl) h)⟩
theorem nodesL_len {l : List Rw} (h : RowsOk l) : (nodesL l).length ≤ 2 * l.length + 1 := by
  unfold nodesL
  split
  · simp
  · rename_i hne
    rw [List.length_map]
    have h1 := Tr.subs_len (treeT l)
    have h2 : (treeT l).rows = l := treeS_rows (Nat.le_refl _) (List.length_pos_iff.2 hne) h
    rw [h2] at h1
    omega
theorem nodesL_two {l : List Rw} (h : RowsOk l) (h2 : 2 ≤ l.length) : nodesL l = ⟨2, ((partBit l : Nat) : Int), rootS (l.take (partAt l (partBit l))), rootS (l.drop (partAt l (partBit l))), 0, 0, 0⟩ :: (nodesL (l.take (partAt l (partBit l))) ++ nodesL (l.drop (partAt l (partBit l)))) := by
  obtain ⟨g1, g2, _⟩ := (partBit_ok h h2).at
  have e0 : l ≠ [] := by rintro rfl; simp at h2
  have e1 : l.take (partAt l (partBit l)) ≠ [] := fun e => by have := congrArg List.length e; rw [List.length_take, List.length_nil] at this; omega
  have e2 : l.drop (partAt l (partBit l)) ≠ [] := fun e => by have := congrArg List.length e; rw [List.length_drop, List.length_nil] at this; omega
  unfold nodesL rootS
  rw [if_neg e0, if_neg e1, if_neg e2, if_neg e1, if_neg e2, treeT_two h h2]
  show List.map Tr.node (Tr.fork _ _ _ :: (_ ++ _)) = _
  rw [List.map_cons, List.map_append]
  rfl
/-- What Nodes hands back. -/
def NodesR (w : World) (l : List Nd) (e : Ending) (w' : World) : Prop := ∃ a c, e = .returned (.slice a l.length c) ∧ RSl w' 69 a l.length c (rows Nd.cells l) ∧ Tch [] w w'
/-- The same, and it is of one's own. -/
def NodesO (w : World) (l : List Nd) (e : Ending) (w' : World) : Prop := ∃ a c, e = .returned (.slice a l.length c) ∧ w'.ownsRow w.heap.size 33 69 (.slice a l.length c) l.length (rows Nd.cells l) ∧ Tch [] w w'
theorem nodesO_c : ∀ (k : Nat) (w : World) (l : List Rw) (a : Option Addr) (n c : Nat), l.length ≤ k → RSl w 3 a n c (rows rwC l) → RowsOk l → l.length ≤ 1000000000 → Calls Tryd.prog 30 #[.slice a n c] w (NodesO w (nodesL l)) := by
  intro k
  induction k with
  | zero => ?_
  | succ k ih => ?_
  all_goals
    intro w l a n c hk hr hR hN
    have hn := hr.count rwC_len (by omega)
    refine c30 _ _ _ ?_
    unfold d30
    by_cases h0 : n = 0
    · rw [bif_pos (by omega)]
      have hl : l = [] := List.length_eq_zero_iff.1 (by omega)
      refine ⟨Nd.zero.cells, by rw [zcNd]; rfl, Nd.zero.cells, fill1 (by rw [zcNd]; rfl) rfl rfl, ?_⟩
      rintro w3 rfl
      have hB : (w.alloc (.cells Nd.zero.cells.toArray 33)).ownsRow w.heap.size 33 69 (.slice (some ⟨w.heap.size, 0, none⟩) 1 1) 1 Nd.zero.cells := (BlkT.new w Nd.zero.cells.toArray 33).own (Nat.le_refl _) rfl (by omega)
      unfold nodesL
      rw [if_pos hl]
      exact ⟨_, 1, rfl, by show World.ownsRow _ _ _ 69 (.slice _ 1 1) 1 (rows Nd.cells [Nd.zero]); rw [rows_one]; exact hB, (Tch.refl [] w).alloc _⟩
    rw [bif_neg (by omega)]
  · omega
  by_cases h1 : n = 1
  · rw [bif_pos (by omega)]
    obtain ⟨x, rfl⟩ := List.length_eq_one_iff.1 (show l.length = 1 by omega)
    obtain ⟨b1, o1, rfl, k1⟩ := hr.elem' rwC_len (by omega) (i := 0) (x := x) rfl
    refine ⟨by omega, by omega, rwC x, rfl, by rw [add_mk]; exact k1, _, by rw [zcNd]; exact leafN_fill, _, fill1 (by rw [zcNd]; rfl) rfl rfl, ?_⟩
    rintro w3 rfl
    have hB : (w.alloc (.cells (Tr.leaf x).node.cells.toArray 33)).ownsRow w.heap.size 33 69 (.slice (some ⟨w.heap.size, 0, none⟩) 1 1) 1 (Tr.leaf x).node.cells := (BlkT.new w (Tr.leaf x).node.cells.toArray 33).own (Nat.le_refl _) rfl (by omega)
    unfold nodesL
    rw [if_neg (by simp), treeT_one]
    exact ⟨_, 1, rfl, by show World.ownsRow _ _ _ 69 (.slice _ 1 1) 1 (rows Nd.cells [(Tr.leaf x).node]); rw [rows_one]; exact hB, (Tch.refl [] w).alloc _⟩
  rw [bif_neg (by omega)]
  refine (split_c w l a n c hr hR (by omega) (by omega)).mono ?_
  rintro e w10 ⟨rfl, t10⟩
  refine ⟨_, _, rfl, _, rfl, _, rfl, ?_⟩
  have hnl := nodesL_two hR (by omega)
  have hP := partBit_ok hR (by omega)
  obtain ⟨hp0, hpl, hq80⟩ := hP.at
  clear hP
  generalize partBit l = q at *
  generalize partAt l q = p at *
  have hcap := hr.cap
  refine ⟨by omega, by omega, ?_⟩
  rw [Int.toNat_natCast]
  have hr10 := hr.tch t10 (fun _ _ h => by cases h)
  have hsa := hr10.sub (l := 0) (hh := p) (by omega) (by omega)
  rw [rows_part, List.drop_zero, Nat.sub_zero] at hsa
  refine (ih w10 (l.take p) _ _ _ (by rw [List.length_take]; omega) hsa (hR.take p) (by rw [List.length_take]; omega)).mono ?_
  rintro e w16 ⟨la, lc, rfl, hla0, t16⟩
  have hla := own_rsl hla0 ndCs_one
  refine ⟨_, _, _, rfl, ?_⟩
  refine ⟨by omega, by omega, ?_⟩
  have hsb := (hr10.tch t16 (fun _ _ h => by cases h)).sub (l := p) (hh := n) (by omega) (by omega)
  rw [rows_part, List.take_of_length_le (l := l.drop p) (by rw [List.length_drop]; omega)] at hsb
  refine (ih w16 (l.drop p) _ _ _ (by rw [List.length_drop]; omega) hsb (hR.drop p) (by rw [List.length_drop]; omega)).mono ?_
  rintro e w19 ⟨ra, rc, rfl, hra0, t19⟩
  have hra := own_rsl hra0 ndCs_one
  refine ⟨_, _, _, rfl, ?_⟩
  replace hla := hla.tch t19 (fun _ _ h => by cases h)
  have t0 := (t10.trans t16 (by simp)).trans t19 (by simp)
  clear hsa hsb hr10 t10 t16 t19 hla0 hra0
  obtain ⟨n1, r1, e1, f1⟩ := nodesL_first (hR.take p)
  obtain ⟨n2, r2, e2, f2⟩ := nodesL_first (hR.drop p)
  have ok1 := nodesL_ok (hR.take p)
  have ok2 := nodesL_ok (hR.drop p)
  have len1 := nodesL_len (hR.take p)
  have len2 := nodesL_len (hR.drop p)
  rw [List.length_take] at len1
  rw [List.length_drop] at len2
  have g1 : (nodesL (l.take p))[0]? = some n1 := by rw [e1]; rfl
  have g2 : (nodesL (l.drop p))[0]? = some n2 := by rw [e2]; rfl
  have p1 : 0 < (nodesL (l.take p)).length := by rw [e1]; simp
  have p2 : 0 < (nodesL (l.drop p)).length := by rw [e2]; simp
  have m1 := ok1 n1 (List.mem_of_getElem? g1)
  have m2 := ok2 n2 (List.mem_of_getElem? g2)
  refine ⟨by omega, by omega, ?_⟩
  refine hla.elem (nodes_cells ok1) (by omega) g1 ?_
  refine (refOf_c n1 m1 w19).mono ?_
  rintro e w24 ⟨rfl, t24⟩
  rw [f1]
  refine ⟨_, _, rfl, _, rfl, _, rfl, ?_⟩
  have hd1 : (u8 (rootS (l.take p))).length = 32 := by rw [List.length_map]; exact rootS_len _
  have hd2 : (u8 (rootS (l.drop p))).length = 32 := by rw [List.length_map]; exact rootS_len _
  refine var_init (n := 32) (by rw [zcDig]; rfl) hd1 ones_ints fun w29 w30 d1 t30 s30 => ?_
  replace t24 := t24.trans t30 (by simp)
  replace t0 := t0.trans t24 (by simp)
  replace hla := hla.tch t24 (fun _ _ h => by cases h)
  replace hra := hra.tch t24 (fun _ _ h => by cases h)
  refine ⟨by omega, by omega, ?_⟩
  refine hra.elem (nodes_cells ok2) (by omega) g2 ?_
  refine (refOf_c n2 m2 w30).mono ?_
  rintro e w34 ⟨rfl, t34⟩
  rw [f2]
  refine ⟨_, _, rfl, _, rfl, _, rfl, ?_⟩
  refine var_init (n := 32) (by rw [zcDig]; rfl) hd2 ones_ints fun w39 w40 d2 t40 s40 => ?_
  replace t34 := t34.trans t40 (by simp)
  replace t0 := t0.trans t34 (by simp)
  replace hla := hla.tch t34 (fun _ _ h => by cases h)
  replace hra := hra.tch t34 (fun _ _ h => by cases h)
  replace d1 := d1.tch t34 (by simp)
  refine get_all d1 hd1 ?_
  refine get_all d2 hd2 ?_
  refine ⟨_, by rw [zcNd]; exact node_fill (rootS_len _) (rootS_len _), _, fill1 (by rw [zcNd]; rfl) rfl (cells_len (rootS_len _) (rootS_len _)), ?_⟩
  rintro w45 rfl
  generalize hnd : (Nd.mk 2 ((q : Nat) : Int) (rootS (l.take p)) (rootS (l.drop p)) 0 0 0) = nd at *
  have hndl : nd.cells.length = 69 := by rw [← hnd]; exact cells_len (rootS_len _) (rootS_len _)
  have hE : (w40.alloc (.cells nd.cells.toArray 33)).ownsRow w40.heap.size 33 69 (.slice (some ⟨w40.heap.size, 0, none⟩) 1 1) 1 nd.cells := (BlkT.new w40 nd.cells.toArray 33).own (Nat.le_refl _) (by simpa using hndl) (by omega)
  have q45 := (Tch.refl [] w40).alloc (.cells nd.cells.toArray 33)
  have s45 := size_alloc w40 (.cells nd.cells.toArray 33)
  generalize w40.alloc (.cells nd.cells.toArray 33) = w45 at *
  refine app_at ndT hE (hla.tch q45 (fun _ _ h => by cases h)) (by omega) (by omega) (by omega) fun x1 c1 w47 o1 t47 _ => ?_
  have q47 : Tch [] w40 w47 := q45.trans t47 fun i hi => .inr (by
    rw [mem_rowL] at hi
    obtain ⟨z, hz, rfl⟩ := hi
    exact (own_ge hE z hz).1)
  have s47 := q47.size
  refine app_at ndT o1 (hra.tch q47 (fun _ _ h => by cases h)) (by omega) (by omega) (by omega) fun x2 c2 w50 o2 t50 _ => ?_
  have q50 : Tch [] w40 w50 := q47.trans t50 fun i hi => .inr (by
    rw [mem_rowL] at hi
    obtain ⟨z, hz, rfl⟩ := hi
    exact (own_ge o1 z hz).1)
  rw [hnl]
  have elen : 1 + (nodesL (l.take p)).length + (nodesL (l.drop p)).length = (nd :: (nodesL (l.take p) ++ nodesL (l.drop p))).length := by simp; omega
  have erow : nd.cells ++ rows Nd.cells (nodesL (l.take p)) ++ rows Nd.cells (nodesL (l.drop p)) = rows Nd.cells (nd :: (nodesL (l.take p) ++ nodesL (l.drop p))) := by rw [rows_cons, rows_append, List.append_assoc]
  rw [elen, erow] at o2
  exact ⟨x2, c2, by rw [elen], own_base o2 t0.size, t0.trans q50 (by simp)⟩
theorem nodes_c (k : Nat) (w : World) (l : List Rw) (a : Option Addr) (n c : Nat) (hk : l.length ≤ k) (hr : RSl w 3 a n c (rows rwC l)) (hR : RowsOk l) (hN : l.length ≤ 1000000000) : Calls Tryd.prog 30 #[.slice a n c] w (NodesR w (nodesL l)) :=
  (nodesO_c k w l a n c hk hr hR hN).mono fun _ _ ⟨a, c, he, ho, ht⟩ => ⟨a, c, he, own_rsl ho ndCs_one, ht⟩
end Go.Proofs.YtjkbjppopdfggaaDoor.Tre
namespace Go.Proofs.YtjkbjppopdfggaaDoor.Tre
open Go Den Fn Sha
open Go.RowKit (Below)
open Classical
set_option maxRecDepth 8000
set_option maxHeartbeats 4000000
/-- The state of the reference's walk. -/
structure RI (w : World) (kb0 ob pb : Nat) (k : Int × Int) (l : List Rw) (u : World) (lx : List Rw) (x : Option Addr) (xn xc : Nat) (fs : List Fk) (pa : Option Addr) (pc : Nat) : Prop where
  key : Blk u kb0 (Lib.kC k)
  out : Blk u ob (pfC none 0 0 ⟨[], false, 0, 0, 0⟩)
  prf : Blk u pb (pfC pa fs.length pc ⟨fs, false, 0, 0, 0⟩)
  own : u.ownsRow (pb + 1) 51 33 (.slice pa fs.length pc) fs.length (rows fkC fs)
  rws : RSl u 3 x xn xc (rows rwC lx)
  rof : lx = [] ∨ ∀ z, x = some z → z.block < kb0
  tch : Tch [] w u
  lo : w.heap.size ≤ kb0 ∧ kb0 < ob ∧ ob < pb ∧ pb < u.heap.size
theorem RI.quiet {w u u' : World} {kb0 ob pb : Nat} {k : Int × Int} {l lx : List Rw} {x pa : Option Addr} {xn xc pc : Nat} {fs : List Fk} (h : RI w kb0 ob pb k l u lx x xn xc fs pa pc) (ht : Tch [] u u') : RI w kb0 ob pb k l u' lx x xn xc fs pa pc :=
  ⟨h.key.tch ht (by simp), h.out.tch ht (by simp), h.prf.tch ht (by simp), own_up h.own ht (fun _ _ h => by cases h), h.rws.tch ht (fun _ _ h => by cases h), h.rof, h.tch.trans ht (by simp), h.lo.1, h.lo.2.1, h.lo.2.2.1, by have := ht.size; have := h.lo.2.2.2; omega⟩
end Go.Proofs.YtjkbjppopdfggaaDoor.Tre
namespace Go.Proofs.YtjkbjppopdfggaaDoor.Tre
open Go Den Fn Sha
open Go.RowKit (Below)
open Classical
set_option maxRecDepth 8000
set_option maxHeartbeats 4000000
/-! ### texts -/
def textN (n : Nd) : Option (List Int) := if n.kind = 0 then none else textS n
def textsS (l : List Nd) : List (List Int) := l.filterMap textN
theorem textsS_snoc {l : List Nd} {i : Nat} {x : Nd} (h : l[i]? = some x) : textsS (l.take (i + 1)) = textsS (l.take i) ++ (match textN x with | some t => [t] | none => []) := by
  obtain ⟨hi, rfl⟩ := List.getElem?_eq_some_iff.1 h
  rw [List.take_succ_eq_append_getElem hi]
  unfold textsS
  rw [List.filterMap_append]
  congr 1
  cases hx : textN (l[i]) with
  | none => simp [hx]
  | some t => simp [hx]
theorem textsS_ok {l : List Nd} (h : ∀ n ∈ l, n.ok) : ∀ t ∈ textsS l, t.length ≤ 66 ∧ Bytes t := fun t ht => by
  obtain ⟨n, hn, hnt⟩ := List.mem_filterMap.1 ht
  unfold textN at hnt
  split at hnt
  · cases hnt
  · exact text_len (h n hn) hnt
theorem textsS_len (l : List Nd) : (textsS l).length ≤ l.length := List.length_filterMap_le _ _
/-- Rows of bytes, as they grow. -/
def TIn (u : World) (x : Option Addr) (vs : List Value) (ts : List (List Int)) : Prop := vs.length = ts.length ∧ ∀ (i : Nat) (t : List Int), ts[i]? = some t → ∃ b d, vs[i]? = some (.slice b t.length d) ∧ RSl u 1 b t.length d (u8 t) ∧ Off (rowL x) b ∧ (∀ z, b = some z → z.block < u.heap.size)
theorem TIn.quiet {u u' : World} {x : Option Addr} {vs : List Value} {ts : List (List Int)} (h : TIn u x vs ts) (ht : Tch [] u u') : TIn u' x vs ts := ⟨h.1, fun i y hy => by
  obtain ⟨b, d, h1, h2, h3, h4⟩ := h.2 i y hy
  exact ⟨b, d, h1, h2.tch ht (fun _ _ h => by cases h), h3, fun z hz => Nat.lt_of_lt_of_le (h4 z hz) ht.size⟩⟩
theorem TIn.grow {u u' : World} {x x' : Option Addr} {vs : List Value} {ts : List (List Int)} (h : TIn u x vs ts) (ht : Tch (rowL x) u u') (hm : Moved x x' u.heap.size) : TIn u' x' vs ts := ⟨h.1, fun i y hy => by
  obtain ⟨b, d, h1, h2, h3, h4⟩ := h.2 i y hy
  refine ⟨b, d, h1, h2.tch ht h3, fun z hz hmem => ?_, fun z hz => Nat.lt_of_lt_of_le (h4 z hz) ht.size⟩
  rw [mem_rowL] at hmem
  obtain ⟨q, hq, he⟩ := hmem
  rcases hm q hq with h5 | h5
  · rw [he] at h5; exact h3 z hz h5
  · have := h4 z hz; omega⟩
theorem TIn.snoc {u : World} {x : Option Addr} {vs : List Value} {ts : List (List Int)} {t : List Int} {b : Option Addr} {d : Nat} (h : TIn u x vs ts) (h2 : RSl u 1 b t.length d (u8 t)) (h3 : Off (rowL x) b) (h4 : ∀ z, b = some z → z.block < u.heap.size) : TIn u x (vs ++ [.slice b t.length d]) (ts ++ [t]) := ⟨by simp [h.1], fun i y hy => by
  rw [List.getElem?_append] at hy
  split at hy
  · rename_i hlt
    obtain ⟨b', d', g1, g2⟩ := h.2 i y hy
    exact ⟨b', d', by rw [List.getElem?_append_left (by rw [h.1]; exact hlt)]; exact g1, g2⟩
  · rename_i hge
    have : i = ts.length := by
      by_cases e : i - ts.length = 0
      · omega
      · rw [List.getElem?_eq_none (by show 1 ≤ _; omega)] at hy; cases hy
    subst this
    rw [Nat.sub_self] at hy
    cases hy
    exact ⟨b, d, by rw [List.getElem?_append_right (by rw [h.1]; exact Nat.le_refl _), h.1, Nat.sub_self]; rfl, h2, h3, h4⟩⟩
/-- Rows of bytes in memory. -/
def TextsAt (w : World) (a : Option Addr) (c : Nat) (ts : List (List Int)) : Prop := ∃ vs : List Value, RSl w 1 a ts.length c vs ∧ vs.length = ts.length ∧ ∀ (i : Nat) (t : List Int), ts[i]? = some t → ∃ b d, vs[i]? = some (.slice b t.length d) ∧ RSl w 1 b t.length d (u8 t)
theorem TextsAt.quiet {w w' : World} {a : Option Addr} {c : Nat} {ts : List (List Int)} (h : TextsAt w a c ts) (ht : Tch [] w w') : TextsAt w' a c ts := by
  obtain ⟨vs, h1, h2, h3⟩ := h
  refine ⟨vs, h1.tch ht (fun _ _ h => by cases h), h2, fun i x hx => ?_⟩
  obtain ⟨b, d, g1, g2⟩ := h3 i x hx
  exact ⟨b, d, g1, g2.tch ht (fun _ _ h => by cases h)⟩
theorem TextsAt.get {w : World} {a : Option Addr} {c : Nat} {ts : List (List Int)} (h : TextsAt w a c ts) {i : Nat} {t : List Int} (hx : ts[i]? = some t) : ∃ y b d, a = some y ∧ World.cell? w (Addr.add y (i * 1)) = some (.slice b t.length d) ∧ RSl w 1 b t.length d (u8 t) := by
  obtain ⟨vs, h1, h2, h3⟩ := h
  obtain ⟨b, d, g1, g2⟩ := h3 i t hx
  obtain ⟨b', o', e, hc⟩ := h1.get1 g1
  refine ⟨_, b, d, e, ?_, g2⟩
  rw [add_mk, Nat.mul_one]
  exact hc
theorem texts_c (w : World) (l : List Nd) (a : Option Addr) (n c : Nat) (hr : RSl w 69 a n c (rows Nd.cells l)) (hl : ∀ x ∈ l, x.ok) (hN : n ≤ 10000000000) :
    Calls Tryd.prog 38 #[.slice a n c] w fun e w' => ∃ a' c', e = .returned (.slice a' (textsS l).length c') ∧ TextsAt w' a' c' (textsS l) ∧ Tch [] w w' := by
  have hn := hr.count (nodes_cells hl) (by omega)
  refine c38 _ _ _ ?_
  unfold d38
  refine ⟨fun m x xn xc i u => ∃ (q : Nat) (vs : List Value), i = q ∧ q ≤ n ∧ m = n - q ∧ xn = (textsS (l.take q)).length ∧ u.ownsRow w.heap.size 22 1 (.slice x xn xc) xn vs ∧ TIn u x vs (textsS (l.take q)) ∧ Tch [] w u, ⟨n, 0, [], rfl, by omega, rfl, rfl, own_nil _ _ _ _, ⟨rfl, by simp [textsS]⟩, Tch.refl _ _⟩, ?_⟩
  rintro m w3 x xn xc i ⟨q, vs, rfl, hq, rfl, rfl, hown, hT, ht⟩
  have s3 := ht.size
  by_cases hlt : q < n
  rotate_left
  · rw [bif_neg (by omega)]
    obtain rfl : q = n := by omega
    rw [show l.take q = l from List.take_of_length_le (by omega)] at *
    refine ⟨x, xc, rfl, ⟨vs, own_rsl hown fun v hv => ?_, hT.1, fun i t h => ?_⟩, ht⟩
    · obtain ⟨i, hi⟩ := List.getElem?_of_mem hv
      have hil := (List.getElem?_eq_some_iff.1 hi).1
      have hlen := hT.1
      obtain ⟨b, d, h1, _⟩ := hT.2 i _ (List.getElem?_eq_getElem (by omega))
      rw [hi] at h1
      cases h1
      rfl
    · obtain ⟨b, d, h1, h2, _⟩ := hT.2 i t h
      exact ⟨b, d, h1, h2⟩
  rw [bif_pos (by omega)]
  refine ⟨by omega, by omega, ?_⟩
  rw [Int.toNat_natCast]
  have hli : l[q]? = some (l[q]'(by omega)) := List.getElem?_eq_getElem (by omega)
  generalize l[q]'(by omega) = y at hli
  have hy := hl y (List.mem_of_getElem? hli)
  have hsn := textsS_snoc hli
  have hlen := textsS_len (l.take q)
  rw [List.length_take] at hlen
  obtain ⟨b0, o0, rfl, ck⟩ := (hr.tch ht (fun _ _ h => by cases h)).elem' (nodes_cells hl) (by omega) hli
  refine ⟨y.cells, cells_len hy.ll hy.rl, by rw [add_mk]; exact ck, ?_⟩
  refine (text_c y hy w3).mono ?_
  rintro e w9 ⟨t9, hm⟩
  have hown9 := own_up hown t9 (fun _ _ h => by cases h)
  have hT9 := hT.quiet t9
  have s9 := t9.size
  have q9 := ht.trans t9 (by simp)
  have hxold := own_ge hown
  cases hts : textS y with
  | none =>
    rw [hts] at hm
    subst hm
    have hno : textN y = none := by unfold textN; split; rfl; exact hts
    rw [hno] at hsn
    rw [List.append_nil] at hsn
    refine ⟨_, _, _, _, rfl, _, _, _, rfl, _, rfl, ?_⟩
    refine ⟨fun b u => b = false ∧ u = w9, ⟨rfl, rfl⟩, ?_⟩
    rintro u _ ⟨rfl, hu⟩
    rw [hu]
    show (∃ m25, _)
    exact ⟨n - (q + 1), by omega, q + 1, vs, by rw [wrap_i64 (by omega) (by omega)]; omega, by omega, rfl, by rw [hsn], hown9, by rw [hsn]; exact hT9, q9⟩
  | some t =>
    rw [hts] at hm
    obtain ⟨ta, tc, rfl, hot⟩ := hm
    refine ⟨_, _, _, _, rfl, _, _, _, rfl, _, rfl, ?_⟩
    have hto := own_ge hot
    refine ⟨fun b u => b = (!decide (y.kind = 0)) ∧ u = w9, ?_, ?_⟩
    · show _ ∧ _
      refine ⟨by omega, by omega, y.kind, ?_, rfl, rfl⟩
      have := cells_get (cells_tch ck t9) (i := 0) (v := .int .i64 y.kind) rfl
      rw [add_mk, add_mk]
      exact this
    rintro u _ ⟨rfl, hu⟩
    rw [hu]
    by_cases hk : y.kind = 0
    · rw [decide_eq_true hk]
      have hno : textN y = none := by unfold textN; rw [if_pos hk]
      rw [hno, List.append_nil] at hsn
      show (∃ m25, _)
      exact ⟨n - (q + 1), by omega, q + 1, vs, by rw [wrap_i64 (by omega) (by omega)]; omega, by omega, rfl, by rw [hsn], hown9, by rw [hsn]; exact hT9, q9⟩
    · rw [decide_eq_false hk]
      have hno : textN y = some t := by unfold textN; rw [if_neg hk]; exact hts
      rw [hno] at hsn
      show (∃ cs19, _)
      have hT' := hT9.snoc (own_rsl hot ones_ints) (fun z hz hm => by
        rw [mem_rowL] at hm
        obtain ⟨p, hp, he⟩ := hm
        have g1 := (hxold p hp).2
        have g2 := (hto z hz).1
        omega) (fun z hz => (hto z hz).2)
      refine app_elem_at fsT hown9 (by rw [zcBs]; rfl) (ys := [.slice ta t.length tc]) rfl rfl (by simp [one]) (by omega) (by omega) (by omega) fun a5 c5 w22 o5 t5 m5 => ?_
      refine ⟨n - (q + 1), by omega, q + 1, vs ++ [.slice ta t.length tc], by rw [wrap_i64 (by omega) (by omega)]; omega, by omega, rfl, by rw [hsn]; simp, o5, by rw [hsn]; exact hT'.grow t5 m5, ?_⟩
      exact q9.trans t5 fun i hi => .inr (by
        rw [mem_rowL] at hi
        obtain ⟨z, hz, rfl⟩ := hi
        exact (own_ge hown9 z hz).1)
/-! ### collide -/
def collideS (ts : List (List Int)) : Prop := ∃ (i : Nat) (t : List Int), ts[i]? = some t ∧ (sha t = z32 ∨ ∃ (k : Nat) (s : List Int), k < i ∧ ts[k]? = some s ∧ sha s = sha t ∧ t ≠ s)
theorem zcDg1 : (zrep (zc Tryd.prog 24) (1 * 32)).length = 1 * 32 := by rw [zcDig]; rfl
theorem dgT : slT Tryd.prog 126 24 32 32 = true := by kernel_rfl
theorem dg_len {ts : List (List Int)} : ∀ x ∈ ts, (u8 (sha x)).length = 32 := fun x _ => by rw [List.length_map]; exact sha_length _
theorem dg_snoc {ts : List (List Int)} {i : Nat} {t : List Int} (h : ts[i]? = some t) : rows (fun x => u8 (sha x)) (ts.take i) ++ u8 (sha t) = rows (fun x => u8 (sha x)) (ts.take (i + 1)) := rows_snoc (f := fun x => u8 (sha x)) h
theorem collide_c (w : World) (ts : List (List Int)) (a : Option Addr) (c : Nat) (hT : TextsAt w a c ts) (hts : ∀ t ∈ ts, t.length ≤ 66 ∧ Bytes t) (hN : ts.length ≤ 10000000000) :
    Calls Tryd.prog 37 #[.slice a ts.length c] w fun e w' => e = .returned (.bool (decide (collideS ts))) ∧ Tch [] w w' := by
  refine c37 _ _ _ ?_
  unfold d37
  refine ⟨fun m x xn xc i u => ∃ q : Nat, i = q ∧ q ≤ ts.length ∧ m = ts.length - q ∧ xn = q ∧ u.ownsRow w.heap.size 24 32 (.slice x q xc) q (rows (fun x => u8 (sha x)) (ts.take q)) ∧ Tch [] w u ∧ ∀ (j : Nat) (t : List Int), ts[j]? = some t → j < q → sha t ≠ z32 ∧ ∀ (k : Nat) (s : List Int), k < j → ts[k]? = some s → sha s = sha t → t = s, ⟨ts.length, 0, rfl, by omega, rfl, rfl, own_nil _ _ _ _, Tch.refl _ _, by omega⟩, ?_⟩
  rintro m w3 x xn xc i ⟨q, rfl, hq, rfl, rfl, hown, ht, hno⟩
  have s3 := ht.size
  by_cases hlt : xn < ts.length
  rotate_left
  · rw [bif_neg (by omega)]
    refine ⟨?_, ht⟩
    rw [decide_eq_false]
    rintro ⟨i, t, hi, hc⟩
    have hil := (List.getElem?_eq_some_iff.1 hi).1
    obtain ⟨g1, g2⟩ := hno i t hi (by omega)
    rcases hc with hc | ⟨k, s, hk, hs, he, hne⟩
    · exact g1 hc
    · exact hne (g2 k s hk hs he)
  rw [bif_pos (by omega)]
  refine ⟨by omega, by omega, ?_⟩
  rw [Int.toNat_natCast]
  have hti : ts[xn]? = some (ts[xn]'(by omega)) := List.getElem?_eq_getElem (by omega)
  generalize ts[xn]'(by omega) = t at hti
  obtain ⟨hl66, htb⟩ := hts t (List.mem_of_getElem? hti)
  obtain ⟨y, b, d, rfl, g1, g2⟩ := (hT.quiet ht).get hti
  refine ⟨b, t.length, d, g1, ?_⟩
  refine (refSum_c w3 t b t.length d g2 htb (by omega)).mono ?_
  rintro e w9 ⟨rfl, t9⟩
  refine ⟨_, rfl, ?_⟩
  have hsl : (u8 (sha t)).length = 32 := by rw [List.length_map]; exact sha_length _
  refine var_init (n := 32) (by rw [zcDig]; rfl) hsl ones_ints fun w11 w12 hx t12 s12 => ?_
  replace t9 := t9.trans t12 (by simp)
  have q12 := ht.trans t9 (by simp)
  replace hown := own_up hown t9 (fun _ _ h => by cases h)
  clear t12
  generalize w9.heap.size = xb at *
  refine get_all hx hsl ?_
  refine ⟨u8 z32, by rw [zcDig]; rfl, ?_⟩
  refine eq_flat_d dig_flat dig_eqT (dig_fits (sha_length t) (sha_bytes t)) (dig_fits rfl z32_bytes) (p := sha t = z32) ⟨fun h => map_u8_inj h, fun h => by rw [h]⟩ ?_
  by_cases hz : sha t = z32
  · rw [decide_eq_true hz]
    exact ⟨by rw [decide_eq_true (show collideS ts from ⟨xn, t, hti, .inl hz⟩)], q12⟩
  rw [decide_eq_false hz]
  show (∃ I16 : Nat → Int → World → Prop, _)
  refine ⟨fun m i u => ∃ k : Nat, i = k ∧ k ≤ xn ∧ m = xn - k ∧ Tch [] w12 u ∧ ∀ (j : Nat) (s : List Int), j < k → ts[j]? = some s → sha s = sha t → t = s, ⟨xn, 0, rfl, by omega, rfl, Tch.refl _ _, by omega⟩, ?_⟩
  rintro m w18 i ⟨k, rfl, hk, rfl, t18, hks⟩
  by_cases hkl : k < xn
  · rw [bif_pos (by omega)]
    rintro w20 rfl
    replace t18 := t18.drew
    generalize w18.drew = w20 at *
    refine ⟨by omega, by omega, ?_⟩
    rw [Int.toNat_natCast]
    have hki : ts[k]? = some (ts[k]'(by omega)) := List.getElem?_eq_getElem (by omega)
    generalize ts[k]'(by omega) = s at hki
    have hki' : (ts.take xn)[k]? = some s := by rw [List.getElem?_take, if_pos hkl]; exact hki
    have hdr := own_rsl (own_up hown t18 (fun _ _ h => by cases h)) (fun u hu => by
      unfold rows at hu
      obtain ⟨v, hv, hu⟩ := List.mem_flatten.1 hu
      obtain ⟨x, _, rfl⟩ := List.mem_map.1 hv
      exact ones_ints u hu)
    refine hdr.elem (f := fun x => u8 (sha x)) dg_len (by omega) hki' ?_
    refine get_all (hx.tch t18 (by simp)) hsl ?_
    refine eq_flat_d dig_flat dig_eqT (dig_fits (sha_length s) (sha_bytes s)) (dig_fits (sha_length t) (sha_bytes t)) (p := sha s = sha t) ⟨fun h => map_u8_inj h, fun h => by rw [h]⟩ ?_
    by_cases hst : sha s = sha t
    · rw [decide_eq_true hst]
      show _ ∧ _
      have hT20 := (hT.quiet q12).quiet t18
      obtain ⟨y1, b1, d1, e1, c1, r1⟩ := hT20.get hti
      cases e1
      obtain ⟨y2, b2, d2, e2, c2, r2⟩ := hT20.get hki
      cases e2
      refine ⟨by omega, by omega, b1, t.length, d1, by exact c1, by omega, by omega, b2, s.length, d2, c2, ?_⟩
      refine (same_c w20 t s b1 b2 t.length d1 s.length d2 r1 r2 (by omega)).mono ?_
      rintro e w30 ⟨rfl, t30⟩
      refine ⟨_, rfl, ?_⟩
      by_cases hts2 : t = s
      · rw [bif_npos hts2]
        refine ⟨xn - (k + 1), by omega, k + 1, by rw [wrap_i64 (by omega) (by omega)]; omega, by omega, rfl, t18.trans t30 (by simp), fun j s' hj hs' he => ?_⟩
        by_cases e : j = k
        · subst e
          rw [hki] at hs'; cases hs'
          exact hts2
        · exact hks j s' (by omega) hs' he
      · rw [bif_nneg hts2]
        exact ⟨by rw [decide_eq_true (show collideS ts from ⟨xn, t, hti, .inr ⟨k, s, hkl, hki, hst, hts2⟩⟩)], (q12.trans t18 (by simp)).trans t30 (by simp)⟩
    · rw [decide_eq_false hst]
      show (∃ m33, _)
      refine ⟨xn - (k + 1), by omega, k + 1, by rw [wrap_i64 (by omega) (by omega)]; omega, by omega, rfl, t18, fun j s' hj hs' he => ?_⟩
      by_cases e : j = k
      · subst e
        rw [hki] at hs'; cases hs'
        exact absurd he hst
      · exact hks j s' (by omega) hs' he
  · rw [bif_neg (by omega)]
    obtain rfl : k = xn := by omega
    refine get_all (hx.tch t18 (by simp)) hsl ?_
    have hown18 := own_up hown t18 (fun _ _ h => by cases h)
    have s18 := t18.size
    have s12' := q12.size
    refine app_elem_at dgT hown18 zcDg1 (ys := u8 (sha t)) rfl hsl ones_ints (by omega) (by omega) (by omega) fun a5 c5 w38 o5 t5 m5 => ?_
    refine ⟨ts.length - (k + 1), by omega, k + 1, by rw [wrap_i64 (by omega) (by omega)]; omega, by omega, rfl, rfl, ?_, ?_, ?_⟩
    · rw [dg_snoc hti] at o5
      exact o5
    · exact (q12.trans t18 (by simp)).trans t5 fun i hi => .inr (by
        rw [mem_rowL] at hi
        obtain ⟨z, hz, rfl⟩ := hi
        exact (own_ge hown18 z hz).1)
    · intro j t' hj hlt'
      by_cases e : j = k
      · subst e
        rw [hti] at hj; cases hj
        exact ⟨hz, fun k' s' hk' hs' he => hks k' s' hk' hs' he⟩
      · exact hno j t' hj (by omega)
end Go.Proofs.YtjkbjppopdfggaaDoor.Tre
namespace Go.Proofs.YtjkbjppopdfggaaDoor.Tre
open Go Den Fn Sha
open Go.RowKit (Below)
open Classical
set_option maxRecDepth 8000
set_option maxHeartbeats 4000000
theorem row_flat : flatK Tryd.prog 8 31 = some [.int .i64, .int .i64, .int .i64] := by kernel_rfl
theorem row_eqT : eqT Tryd.prog 8 31 = true := by kernel_rfl
theorem row_fits {x : Rw} (h : x.wf) : Fits [.int .i64, .int .i64, .int .i64] (rwC x) := ⟨⟨rfl, Lib.i64_wf.2 h.t⟩, ⟨rfl, Lib.i64_wf.2 h.r⟩, ⟨rfl, Lib.i64_wf.2 h.v⟩, trivial⟩
theorem rwC_inj {a b : Rw} : rwC a = rwC b ↔ a = b := by
  obtain ⟨a1, a2, a3⟩ := a
  obtain ⟨b1, b2, b3⟩ := b
  simp [rowC]
theorem sameRows_c (w : World) (l m : List Rw) (a : Option Addr) (n c : Nat) (b : Option Addr) (k d : Nat) (ha : RSl w 3 a n c (rows rwC l)) (hb : RSl w 3 b k d (rows rwC m)) (hl : ∀ x ∈ l, x.wf) (hm : ∀ x ∈ m, x.wf) (hN : n ≤ 1000000000000) :
    Calls Tryd.prog 34 #[.slice a n c, .slice b k d] w fun e w' => e = .returned (.bool (decide (l = m))) ∧ Tch [] w w' := by
  have hn := ha.count rwC_len (by omega)
  have hk := hb.count rwC_len (by omega)
  refine c34 _ _ _ _ _ _ ?_
  unfold d34
  by_cases he : n = k
  rotate_left
  · rw [bif_nneg (by omega)]
    exact ⟨by rw [decide_eq_false (by rintro rfl; omega)], Tch.refl _ _⟩
  rw [bif_npos (by omega)]
  refine ⟨fun r i u => ∃ q : Nat, i = q ∧ q ≤ n ∧ r = n - q ∧ l.take q = m.take q ∧ Tch [] w u, ⟨n, 0, rfl, by omega, rfl, rfl, Tch.refl _ _⟩, ?_⟩
  rintro r w4 i ⟨q, rfl, hq, rfl, heq, ht⟩
  by_cases hlt : q < n
  rotate_left
  · rw [bif_neg (by omega)]
    rw [List.take_of_length_le (by omega), List.take_of_length_le (by omega)] at heq
    exact ⟨by rw [decide_eq_true heq], ht⟩
  rw [bif_pos (by omega)]
  rintro w6 rfl
  replace ht := ht.drew
  generalize w4.drew = w6 at *
  refine ⟨by omega, by omega, ?_⟩
  rw [Int.toNat_natCast]
  have h1 : l[q]? = some (l[q]'(by omega)) := List.getElem?_eq_getElem (by omega)
  have h2 : m[q]? = some (m[q]'(by omega)) := List.getElem?_eq_getElem (by omega)
  have e1 : l.take (q + 1) = l.take q ++ [l[q]'(by omega)] := List.take_succ_eq_append_getElem (by omega)
  have e2 : m.take (q + 1) = m.take q ++ [m[q]'(by omega)] := List.take_succ_eq_append_getElem (by omega)
  generalize l[q]'(by omega) = x at h1 e1
  generalize m[q]'(by omega) = y at h2 e2
  refine (ha.tch ht (fun _ _ h => by cases h)).elem rwC_len (by omega) h1 ?_
  refine ⟨by omega, by omega, ?_⟩
  refine (hb.tch ht (fun _ _ h => by cases h)).elem rwC_len (by omega) h2 ?_
  refine neq_flat_d row_flat row_eqT (row_fits (hl x (List.mem_of_getElem? h1))) (row_fits (hm y (List.mem_of_getElem? h2))) rwC_inj ?_
  by_cases hxy : x = y
  · rw [bif_npos hxy]
    exact ⟨n - (q + 1), by omega, q + 1, by rw [wrap_i64 (by omega) (by omega)]; omega, by omega, rfl, by rw [e1, e2, heq, hxy], ht⟩
  · rw [bif_nneg hxy]
    refine ⟨?_, ht⟩
    rw [decide_eq_false (by rintro rfl; rw [h1] at h2; cases h2; exact hxy rfl)]
/-! ### sameProof -/
/-! ### proves -/
theorem proofS_ok {kb : List Int} {l : List Rw} (h : RowsOk l) : (proofS kb l).ok ∧ (proofS kb l).fs.length ≤ l.length := by
  unfold proofS
  split
  · exact ⟨⟨by simp, i64_0, i64_0, i64_0⟩, by simp⟩
  · rename_i hne
    have hpos := List.length_pos_iff.2 hne
    obtain ⟨g1, g2, g3⟩ := proveS_ok (kb := kb) (treeT_ok (Nat.le_refl _) hpos h)
    rw [show (treeT l).rows = l from treeS_rows (Nat.le_refl _) hpos h] at g3
    exact ⟨⟨fun f hf => (g1 f hf).1, g2.t, g2.r, g2.v⟩, Nat.le_of_lt g3⟩
end Go.Proofs.YtjkbjppopdfggaaDoor.Tre
namespace Go.Proofs.YtjkbjppopdfggaaDoor.Tre
open Go Den Fn Sha
open Go.RowKit (Below)
open Classical
set_option maxRecDepth 8000
set_option maxHeartbeats 4000000
theorem chCs_one {l : List Chg} : ∀ u ∈ rows chC l, one u = true := fun u hu => by
  unfold rows at hu
  obtain ⟨v, hv, hu⟩ := List.mem_flatten.1 hu
  obtain ⟨x, _, rfl⟩ := List.mem_map.1 hv
  exact chC_one u hu
theorem lent_rsl {w : World} {b n : Nat} {l : List Rw} {ys : List Value} (h : Blk w b (rows rwC l ++ ys)) (hn : l.length = n) {c : Nat} (hc : n ≤ c) : RSl w 3 (some ⟨b, 0, none⟩) n c (rows rwC l) :=
  ⟨hc, by rw [rows_len (sz := 3) fun _ _ => rfl, hn], rwCs_one, .inr ⟨b, 0, rfl, fun i v hv => h.cells i v (by rw [List.getElem?_append_left (List.getElem?_eq_some_iff.1 hv).1]; exact hv)⟩⟩
end Go.Proofs.YtjkbjppopdfggaaDoor.Tre
namespace Go.Proofs.YtjkbjppopdfggaaDoor.Tre
open Go Den Fn Sha
open Go.RowKit (Below)
open Classical
set_option maxRecDepth 8000
set_option maxHeartbeats 4000000
/-! ### apart -/
def mkR (j : Nat) (l : List Rw) : List Rw := l.map fun x => ⟨x.t, x.r, -50 - (j : Int)⟩
section
variable {w : World} {Bq lb : Nat} {A : Nat → Option Addr} {N C : Nat → Nat} {X : Nat → List Rw}
/-- Two rows of one's own, and the box that holds them. -/
structure AP (w : World) (Bq lb : Nat) (A : Nat → Option Addr) (N C : Nat → Nat) (u : World) (cont : Nat → List Rw) : Prop where
  own : ∀ i, i < 2 → u.ownsRow Bq 31 3 (.slice (A i) (N i) (C i)) (N i) (rows rwC (cont i))
  box : Blk u lb [.slice (A 0) (N 0) (C 0), .slice (A 1) (N 1) (C 1)]
  tch : Tch (rowL (A 0) ++ rowL (A 1)) w u
end
end Go.Proofs.YtjkbjppopdfggaaDoor.Tre
namespace Go.Proofs.YtjkbjppopdfggaaDoor.Tre
open Go Den Fn Sha
open Go.RowKit (Below)
open Classical
set_option maxRecDepth 8000
set_option maxHeartbeats 8000000
theorem textN_node {t : Tr} (h : t.ok) : textN t.node = some t.text := by
  unfold textN
  rw [if_neg (by cases t <;> simp [Tr.node])]
  exact Tr.text_node h
theorem texts_subs : ∀ {l : List Tr}, (∀ s ∈ l, s.ok) → textsS (l.map Tr.node) = l.map Tr.text
  | [], _ => rfl
  | t :: l, h => by
    show List.filterMap textN (t.node :: l.map Tr.node) = _
    rw [List.filterMap_cons_some (textN_node (h t (by simp)))]
    show _ :: textsS (l.map Tr.node) = _
    rw [texts_subs fun s hs => h s (by simp [hs])]
    rfl
/-- Two unlike texts with one digest. -/
theorem collide_two {ts : List (List Int)} {s t : List Int} (hs : s ∈ ts) (ht : t ∈ ts) (he : sha s = sha t) (hne : s ≠ t) : collideS ts := by
  obtain ⟨i, hi⟩ := List.getElem?_of_mem hs
  obtain ⟨j, hj⟩ := List.getElem?_of_mem ht
  rcases Nat.lt_trichotomy i j with h | h | h
  · exact ⟨j, t, hj, .inr ⟨i, s, h, hi, he, hne.symm⟩⟩
  · subst h; rw [hi] at hj; cases hj; exact absurd rfl hne
  · exact ⟨i, s, hi, .inr ⟨j, t, h, hj, he.symm, hne⟩⟩
theorem collide_zero {ts : List (List Int)} {t : List Int} (ht : t ∈ ts) (he : sha t = z32) : collideS ts := by
  obtain ⟨j, hj⟩ := List.getElem?_of_mem ht
  exact ⟨j, t, hj, .inl he⟩
theorem nodesL_subs {l : List Rw} (hne : l ≠ []) : nodesL l = (treeT l).subs.map Tr.node := by unfold nodesL; rw [if_neg hne]
theorem treeT_ok' {l : List Rw} (hne : l ≠ []) (h : RowsOk l) : (treeT l).ok := treeT_ok (Nat.le_refl _) (List.length_pos_iff.2 hne) h
theorem textsL {l : List Rw} (hne : l ≠ []) (h : RowsOk l) : textsS (nodesL l) = (treeT l).subs.map Tr.text := by
  rw [nodesL_subs hne]
  exact texts_subs (Tr.subs_ok (treeT_ok' hne h))
theorem ofS_node {l : List Rw} (hne : l ≠ []) (h : RowsOk l) {s : Tr} (hs : s ∈ (treeT l).subs) : (ofS s.node).1 = s.sum := by
  rw [Tr.of_node (Tr.subs_ok (treeT_ok' hne h) s hs)]
theorem NodeR.out {l : List Rw} (h : RowsOk l) {d : List Int} {e : Ending} (hr : NodeR l d e) : ∃ (nd : Nd) (b : Bool), e = .returned (.tuple #[.agg nd.cells.toArray, .bool b]) ∧ nd.ok ∧ b = decide (∃ n ∈ nodesL l, (ofS n).1 = d) ∧ (b = false → nd = Nd.zero) ∧ (b = true → nd ∈ nodesL l ∧ (ofS nd).1 = d) := by
  unfold NodeR at hr
  by_cases hl : l = []
  · rw [if_pos hl] at hr
    have hnl : nodesL l = [Nd.zero] := by unfold nodesL; rw [if_pos hl]
    rw [hnl]
    have hz : (ofS Nd.zero).1 = z32 := rfl
    refine ⟨Nd.zero, decide (d = z32), hr, Nd.zero_ok, ?_, fun _ => rfl, fun hb => ⟨by simp, by rw [hz]; exact (of_decide_eq_true hb).symm⟩⟩
    by_cases hd : d = z32
    · rw [decide_eq_true hd, decide_eq_true ⟨Nd.zero, by simp, by rw [hz, hd]⟩]
    · rw [decide_eq_false hd, decide_eq_false]
      rintro ⟨n, hn, hnd⟩
      rw [List.mem_singleton] at hn
      rw [hn, hz] at hnd
      exact hd hnd.symm
  · rw [if_neg hl] at hr
    rcases hr with ⟨he, hno⟩ | ⟨s, hs, hsd, he⟩
    · refine ⟨Nd.zero, false, he, Nd.zero_ok, ?_, fun _ => rfl, (fun hb => by cases hb)⟩
      rw [decide_eq_false]
      rintro ⟨n, hn, hnd⟩
      rw [nodesL_subs hl] at hn
      obtain ⟨s, hs, rfl⟩ := List.mem_map.1 hn
      rw [ofS_node hl h hs] at hnd
      exact hno s hs hnd
    · have hm : s.node ∈ nodesL l := by rw [nodesL_subs hl]; exact List.mem_map_of_mem hs
      refine ⟨s.node, true, he, nodesL_ok h _ hm, ?_, (fun hb => by cases hb), fun _ => ⟨hm, by rw [ofS_node hl h hs, hsd]⟩⟩
      rw [decide_eq_true ⟨s.node, hm, by rw [ofS_node hl h hs, hsd]⟩]
theorem ProveR.out {w w' : World} {l : List Rw} {k : Int × Int} {e : Ending} (hR : RowsOk l) (h : ProveR w l k e w') : ∃ (P : Pf) (a : Option Addr) (n c : Nat) (er : Int), e = .returned (.tuple #[.agg (pfC a n c P).toArray, .int .i64 er]) ∧ w'.ownsRow w.heap.size 51 33 (.slice a n c) n (rows fkC P.fs) ∧ P.ok ∧ n ≤ l.length ∧ P.fs.length = n ∧ (if Lib.KeyOk k.1 then er = 0 ∧ P = proofS (Sha.keyB k.1 k.2) l else er = 20 ∧ P = ⟨[], false, 0, 0, 0⟩) := by
  obtain ⟨_, h⟩ := h
  by_cases hk : Lib.KeyOk k.1
  · rw [if_pos hk] at h
    obtain ⟨a, c, he, ho⟩ := h
    obtain ⟨h1, h2⟩ := proofS_ok (kb := Sha.keyB k.1 k.2) hR
    exact ⟨_, a, _, c, 0, he, ho, h1, h2, rfl, by rw [if_pos hk]; exact ⟨rfl, rfl⟩⟩
  · rw [if_neg hk] at h
    exact ⟨⟨[], false, 0, 0, 0⟩, none, 0, 0, 20, h, own_nil _ _ _ _, ⟨by simp, i64_0, i64_0, i64_0⟩, by omega, rfl, by rw [if_neg hk]; exact ⟨rfl, rfl⟩⟩
/-- What stands behind the first part of the law. -/
structure TL (W : World) (l : List Rw) (ks : List (Int × Int)) (other : List Int) (wb ta : Nat) (xa : Option Addr) (xn xc : Nat) (pn : Option Addr) (nn nc : Nat) (F : Nat → Prop) (u : World) : Prop where
  oth : Blk u wb (u8 other)
  tree : TreeAt F u ta l
  hF : ∀ z, F z → z < u.heap.size
  rws : RSl u 3 xa xn xc (rows rwC l)
  nam : RSl u 2 pn nn nc (rows Lib.kC ks)
  tch : Tch [] W u
theorem TL.quiet {W u u' : World} {l : List Rw} {ks : List (Int × Int)} {other : List Int} {wb ta xn xc nn nc : Nat} {xa pn : Option Addr} {F : Nat → Prop} (h : TL W l ks other wb ta xa xn xc pn nn nc F u) (ht : Tch [] u u') : TL W l ks other wb ta xa xn xc pn nn nc F u' :=
  ⟨h.oth.tch ht (by simp), TreeAt.tch h.tree ht (by simp), fun z hz => Nat.lt_of_lt_of_le (h.hF z hz) ht.size, h.rws.tch ht (fun _ _ h => by cases h), h.nam.tch ht (fun _ _ h => by cases h), h.tch.trans ht (by simp)⟩
end Go.Proofs.YtjkbjppopdfggaaDoor.Tre
namespace Go.Proofs.YtjkbjppopdfggaaDoor.Tre
open Go Den Fn Sha
open Classical
set_option maxRecDepth 8000
set_option maxHeartbeats 2000000
/-- Bits agree below n. -/
def AgB (a b : List Int) (n : Nat) : Prop := ∀ m : Nat, m < n → bitS a m = bitS b m
theorem AgB.symm {a b : List Int} {n : Nat} (h : AgB a b n) : AgB b a n := fun m hm => (h m hm).symm
theorem AgB.trans {a b c : List Int} {n : Nat} (h : AgB a b n) (g : AgB b c n) : AgB a c n := fun m hm => (h m hm).trans (g m hm)
theorem AgB.succ {a b : List Int} {n : Nat} (h : AgB a b n) (e : bitS a n = bitS b n) : AgB a b (n + 1) := fun m hm => by
  by_cases h' : m = n
  · rw [h']; exact e
  · exact h m (by omega)
theorem rk_n {n : Nat} (h : n < 80) : Rk (n : Int) := ⟨by omega, by omega⟩
theorem kw_01 (x : Rw) {n : Nat} (h : n < 80) : bitS (kw x) n = 0 ∨ bitS (kw x) n = 1 := bitS_01 (keyB_bytes _ _) (rk_n h)
theorem key_lt {x y : Rw} (hx : x.ok) (hy : y.ok) (h : Lib.cmpK x.k y.k < 0) : ∃ p, Fst (kw x) (kw y) p ∧ bitS (kw x) p = 0 ∧ bitS (kw y) p = 1 := key_bits (a := x.k) (b := y.k) ⟨hx.key, hx.r⟩ ⟨hy.key, hy.r⟩ h
theorem up_get {l : List Rw} (h : RowsOk l) {i j : Nat} {x y : Rw} (hx : l[i]? = some x) (hy : l[j]? = some y) (hij : i < j) : Lib.cmpK x.k y.k < 0 := by
  have hi := (List.getElem?_eq_some_iff.1 hx).1
  have hj := (List.getElem?_eq_some_iff.1 hy).1
  have := List.pairwise_iff_getElem.1 h.up i j (by simpa [keysOf] using hi) (by simpa [keysOf] using hj) hij
  have e1 := (List.getElem?_eq_some_iff.1 hx).2
  have e2 := (List.getElem?_eq_some_iff.1 hy).2
  simpa [keysOf, e1, e2] using this
theorem mid_bits {a x c : List Int} {p q n : Nat} (h1 : Fst a x p) (x1 : bitS x p = 1) (h2 : Fst x c q) (x0 : bitS x q = 0) (h3 : Fst a c n) : AgB a x n := by
  have hp : n ≤ p := by
    rcases Nat.lt_or_ge p n with hlt | hge
    · exfalso
      have c0 := h3.2.2 p hlt
      rcases Nat.lt_trichotomy p q with h | h | h
      · exact h1.2.1 (c0.trans (h2.2.2 p h).symm)
      · subst h; rw [x1] at x0; exact absurd x0 (by decide)
      · exact h2.2.1 ((h1.2.2 q h).symm.trans (h3.2.2 q (by omega)))
    · exact hge
  exact fun m hm => h1.2.2 m (by omega)
/-- All rows agree below the bit at which they part. -/
theorem part_ag {l : List Rw} (h : RowsOk l) {n : Nat} (hp : PartB l n) : ∀ x ∈ l, ∀ y ∈ l, AgB (kw x) (kw y) n := by
  obtain ⟨a, c, ha, hc, hF, _, _⟩ := hp
  have key : ∀ x ∈ l, AgB (kw a) (kw x) n := fun x hx => by
    obtain ⟨i, hi⟩ := List.getElem?_of_mem hx
    have hil := (List.getElem?_eq_some_iff.1 hi).1
    have hox := h.ok x hx
    have hoa := h.ok a (List.mem_of_getElem? ha)
    have hoc := h.ok c (List.mem_of_getElem? hc)
    by_cases e0 : i = 0
    · subst e0; rw [ha] at hi; cases hi; exact fun _ _ => rfl
    by_cases e1 : i = l.length - 1
    · subst e1; rw [hc] at hi; cases hi; exact fun m hm => hF.2.2 m hm
    obtain ⟨p, g1, _, g3⟩ := key_lt hoa hox (up_get h ha hi (by omega))
    obtain ⟨q, k1, k2, _⟩ := key_lt hox hoc (up_get h hi hc (by omega))
    exact mid_bits g1 g3 k1 k2 hF
  exact fun x hx y hy => (key x hx).symm.trans (key y hy)
theorem part_lo {l : List Rw} (_h : RowsOk l) {n : Nat} (hp : PartB l n) : ∀ x ∈ l.take (partAt l n), bitS (kw x) n = 0 := fun x hx => by
  obtain ⟨i, hi⟩ := List.getElem?_of_mem hx
  rw [List.getElem?_take] at hi
  split at hi
  · rename_i hlt
    obtain ⟨hil, he⟩ := List.getElem?_eq_some_iff.1 hi
    have := List.not_of_lt_findIdx hlt
    rw [he] at this
    rcases kw_01 x hp.at.2.2 with h0 | h1
    · exact h0
    · simp [h1] at this
  · cases hi
theorem part_hi {l : List Rw} (h : RowsOk l) {n : Nat} (hp : PartB l n) : ∀ x ∈ l.drop (partAt l n), bitS (kw x) n = 1 := fun x hx => by
  obtain ⟨i, hi⟩ := List.getElem?_of_mem hx
  rw [List.getElem?_drop] at hi
  obtain ⟨g1, g2, g3⟩ := hp.at
  have hz : l[partAt l n]? = some (l[partAt l n]'g2) := List.getElem?_eq_getElem g2
  have hzb : bitS (kw (l[partAt l n]'g2)) n = 1 := by
    have := List.findIdx_getElem (p := fun x => decide (bitS (kw x) n = 1)) (w := g2)
    exact of_decide_eq_true this
  generalize l[partAt l n]'g2 = z at hz hzb
  cases i with
  | zero => rw [Nat.add_zero, hz] at hi; cases hi; exact hzb
  | succ i =>
    rcases kw_01 x g3 with h0 | h1
    · exfalso
      have hzm := List.mem_of_getElem? hz
      have hxm := List.mem_of_getElem? hi
      obtain ⟨p, k1, k2, k3⟩ := key_lt (h.ok z hzm) (h.ok x hxm) (up_get h hz hi (by omega))
      have hag := part_ag h hp z hzm x hxm
      have : Fst (kw z) (kw x) n := ⟨g3, by rw [hzb, h0]; decide, hag⟩
      rw [this.unique k1, k2] at hzb
      exact absurd hzb (by decide)
    · exact h1

/-! ### Trees whose bits are in order -/
def Tr.fit : Nat → Tr → Prop
  | _, .leaf _ => True
  | lo, .fork n l r => lo ≤ n ∧ n < 80 ∧ (∀ x ∈ l.rows, bitS (kw x) n = 0) ∧ (∀ x ∈ r.rows, bitS (kw x) n = 1) ∧ (∀ x ∈ l.rows ++ r.rows, ∀ y ∈ l.rows ++ r.rows, AgB (kw x) (kw y) n) ∧ l.fit (n + 1) ∧ r.fit (n + 1)
theorem treeT_rows {l : List Rw} (h1 : 1 ≤ l.length) (h : RowsOk l) : (treeT l).rows = l := treeS_rows (Nat.le_refl _) h1 h
theorem treeT_fit : ∀ {k : Nat} {l : List Rw} {lo : Nat}, l.length ≤ k → 1 ≤ l.length → RowsOk l → (∀ x ∈ l, ∀ y ∈ l, AgB (kw x) (kw y) lo) → (treeT l).fit lo
  | 0, l, _, h1, h2, _, _ => by omega
  | k + 1, l, lo, h1, h2, h, ha => by
    by_cases e : l.length = 1
    · obtain ⟨x, rfl⟩ := List.length_eq_one_iff.1 e
      rw [treeT_one]; exact trivial
    · have hp := partBit_ok h (by omega)
      obtain ⟨g1, g2, g3⟩ := hp.at
      rw [treeT_two h (by omega)]
      generalize hn : partBit l = n at *
      have hr1 : (treeT (l.take (partAt l n))).rows = l.take (partAt l n) := treeT_rows (by rw [List.length_take]; omega) (h.take _)
      have hr2 : (treeT (l.drop (partAt l n))).rows = l.drop (partAt l n) := treeT_rows (by rw [List.length_drop]; omega) (h.drop _)
      have hlo := part_lo h hp
      have hhi := part_hi h hp
      have hag := part_ag h hp
      have hln : lo ≤ n := by
        obtain ⟨x, y, hx, hy, hF, _, _⟩ := hp
        rcases Nat.lt_or_ge n lo with hlt | hge
        · exact absurd (ha x (List.mem_of_getElem? hx) y (List.mem_of_getElem? hy) n hlt) hF.2.1
        · exact hge
      refine ⟨hln, g3, by rw [hr1]; exact hlo, by rw [hr2]; exact hhi, ?_, ?_, ?_⟩
      · rw [hr1, hr2, List.take_append_drop]; exact hag
      · refine treeT_fit (k := k) (by rw [List.length_take]; omega) (by rw [List.length_take]; omega) (h.take _) fun x hx y hy => ?_
        exact (hag x (List.mem_of_mem_take hx) y (List.mem_of_mem_take hy)).succ (by rw [hlo x hx, hlo y hy])
      · refine treeT_fit (k := k) (by rw [List.length_drop]; omega) (by rw [List.length_drop]; omega) (h.drop _) fun x hx y hy => ?_
        exact (hag x (List.mem_of_mem_drop hx) y (List.mem_of_mem_drop hy)).succ (by rw [hhi x hx, hhi y hy])
theorem treeT_fit0 {l : List Rw} (h1 : 1 ≤ l.length) (h : RowsOk l) : (treeT l).fit 0 := treeT_fit (Nat.le_refl _) h1 h fun _ _ _ _ m hm => by omega

/-! ### A proof leads to its row -/
section
variable {kb : List Int} (hB : Bytes kb)
theorem prove_mem : ∀ t : Tr, (proveS kb t).2 ∈ t.rows
  | .leaf x => by simp [proveS, Tr.rows]
  | .fork n l r => by
    unfold proveS
    split
    · exact List.mem_append_left _ (prove_mem l)
    · exact List.mem_append_right _ (prove_mem r)
theorem prove_rise : ∀ {t : Tr} {lo : Nat}, t.fit lo → (proveS kb t).1.Pairwise (fun f g => f.bit < g.bit) ∧ ∀ f ∈ (proveS kb t).1, (lo : Int) ≤ f.bit
  | .leaf x, lo, _ => ⟨by simp [proveS], by simp [proveS]⟩
  | .fork n l r, lo, ⟨h1, _, _, _, _, h2, h3⟩ => by
    obtain ⟨a1, a2⟩ := prove_rise h2
    obtain ⟨b1, b2⟩ := prove_rise h3
    unfold proveS
    split
    · refine ⟨List.pairwise_cons.2 ⟨fun f hf => by have := a2 f hf; show (n : Int) < f.bit; omega, a1⟩, fun f hf => ?_⟩
      rcases List.mem_cons.1 hf with rfl | hf
      · show (lo : Int) ≤ (n : Int); omega
      · have := a2 f hf; omega
    · refine ⟨List.pairwise_cons.2 ⟨fun f hf => by have := b2 f hf; show (n : Int) < f.bit; omega, b1⟩, fun f hf => ?_⟩
      rcases List.mem_cons.1 hf with rfl | hf
      · show (lo : Int) ≤ (n : Int); omega
      · have := b2 f hf; omega
include hB in
theorem prove_same : ∀ {t : Tr} {lo : Nat}, t.fit lo → ∀ f ∈ (proveS kb t).1, bitS (kw (proveS kb t).2) f.bit = bitS kb f.bit
  | .leaf x, lo, _, f, hf => by simp [proveS] at hf
  | .fork n l r, lo, ⟨_, h80, hlo, hhi, _, h2, h3⟩, f, hf => by
    unfold proveS at hf ⊢
    split at hf
    · rename_i h0
      rw [if_pos h0]
      rcases List.mem_cons.1 hf with rfl | hf
      · show bitS (kw (proveS kb l).2) (n : Int) = bitS kb (n : Int)
        rw [hlo _ (prove_mem l), h0]
      · exact prove_same h2 f hf
    · rename_i h0
      rw [if_neg h0]
      rcases List.mem_cons.1 hf with rfl | hf
      · show bitS (kw (proveS kb r).2) (n : Int) = bitS kb (n : Int)
        rw [hhi _ (prove_mem r)]
        rcases bitS_01 hB (rk_n h80) with h | h
        · exact absurd h h0
        · exact h.symm
      · exact prove_same h3 f hf
theorem prove_up : ∀ t : Tr, upD kb (proveS kb t).1 (sha (leafT (proveS kb t).2.t (proveS kb t).2.r (proveS kb t).2.v)) = t.sum
  | .leaf x => rfl
  | .fork n l r => by
    unfold proveS
    by_cases h0 : bitS kb (n : Int) = 0
    · rw [if_pos h0]
      show stepD kb ⟨(n : Int), r.sum⟩ (upD kb (proveS kb l).1 _) = _
      rw [prove_up l]
      unfold stepD
      rw [if_pos h0]
      rfl
    · rw [if_neg h0]
      show stepD kb ⟨(n : Int), l.sum⟩ (upD kb (proveS kb r).1 _) = _
      rw [prove_up r]
      unfold stepD
      rw [if_neg h0]
      rfl
theorem prove_find : ∀ {t : Tr} {lo : Nat}, t.fit lo → ∀ x ∈ t.rows, kw x = kb → (proveS kb t).2 = x
  | .leaf y, lo, _, x, hx, _ => by simp [Tr.rows] at hx; rw [hx]; rfl
  | .fork n l r, lo, ⟨_, h80, hlo, hhi, _, h2, h3⟩, x, hx, hk => by
    unfold proveS
    rcases List.mem_append.1 hx with hx | hx
    · have := hlo x hx
      rw [hk] at this
      rw [if_pos this]
      exact prove_find h2 x hx hk
    · have := hhi x hx
      rw [hk] at this
      rw [if_neg (by rw [this]; decide)]
      exact prove_find h3 x hx hk
end
theorem riseF_of {fs : List Fk} (h : fs.Pairwise fun f g => f.bit < g.bit) (hr : ∀ f ∈ fs, Rk f.bit) : RiseF fs := fun i f hi hf => ⟨hr f (List.mem_of_getElem? hf), fun g h0 hg => by
  obtain ⟨h1, e1⟩ := List.getElem?_eq_some_iff.1 hf
  obtain ⟨h2, e2⟩ := List.getElem?_eq_some_iff.1 hg
  have := List.pairwise_iff_getElem.1 h (i - 1) i h2 h1 (by omega)
  rw [e1, e2] at this
  exact this⟩
theorem at_mem : ∀ {l : List Rw}, Up (keysOf l) → ∀ x ∈ l, atS l x.k = (true, x.v)
  | [], _, x, hx => by cases hx
  | y :: l, h, x, hx => by
    have h' : Up (y.k :: keysOf l) := h
    obtain ⟨h1, h2⟩ := List.pairwise_cons.1 h'
    unfold atS
    rcases List.mem_cons.1 hx with rfl | hx
    · rw [if_pos rfl]
    · have hlt := h1 x.k (List.mem_map_of_mem hx)
      rw [if_neg fun e => by rw [e] at hlt; exact lt_irrefl' hlt]
      exact at_mem h2 x hx
/-- What stands at a key, by the tree's walk. -/
theorem at_prove {l : List Rw} (hne : l ≠ []) (h : RowsOk l) {k : Int × Int} (hk : Sha.KeyOk k.1) (hk2 : Sha.I64 k.2) : atS l k = if (proveS (Sha.keyB k.1 k.2) (treeT l)).2.k = k then (true, (proveS (Sha.keyB k.1 k.2) (treeT l)).2.v) else no := by
  have h1 : 1 ≤ l.length := List.length_pos_iff.2 hne
  have hfit := treeT_fit0 h1 h
  have hrows := treeT_rows h1 h
  split
  · rename_i he
    have := prove_mem (kb := Sha.keyB k.1 k.2) (treeT l)
    rw [hrows] at this
    have := at_mem h.up _ this
    rw [he] at this
    exact this
  · rename_i he
    refine atS_none' fun x hx hxk => he ?_
    have : kw x = Sha.keyB k.1 k.2 := by rw [← hxk]; rfl
    rw [prove_find hfit x (by rw [hrows]; exact hx) this, hxk]
/-- A tree's own proof says what stands there. -/
theorem own_proof {l : List Rw} (h : RowsOk l) {k : Int × Int} (hk : Sha.KeyOk k.1) (hk2 : Sha.I64 k.2) : verS (rootS l) k.1 k.2 (proofS (Sha.keyB k.1 k.2) l) = (atS l k, 0) := by
  unfold verS
  rw [if_neg (by simpa using hk)]
  by_cases hne : l = []
  · subst hne
    have hh : holdsP (rootS []) (Sha.keyB k.1 k.2) (proofS (Sha.keyB k.1 k.2) []) := by
      have e1 : proofS (Sha.keyB k.1 k.2) [] = ⟨[], false, 0, 0, 0⟩ := by unfold proofS; rw [if_pos rfl]
      have e2 : rootS [] = z32 := by unfold rootS; rw [if_pos rfl]
      rw [e1, e2]
      exact ⟨fun i f hi => by simp at hi, by rw [if_pos rfl]; exact ⟨rfl, ⟨rfl, rfl, rfl⟩, rfl⟩⟩
    rw [if_neg (by simpa using hh), if_neg (by unfold proofS; simp)]
    rfl
  · have h1 : 1 ≤ l.length := List.length_pos_iff.2 hne
    have hfit := treeT_fit0 h1 h
    have htok := treeT_ok' hne h
    have e1 : proofS (Sha.keyB k.1 k.2) l = ⟨(proveS (Sha.keyB k.1 k.2) (treeT l)).1, true, (proveS (Sha.keyB k.1 k.2) (treeT l)).2.t, (proveS (Sha.keyB k.1 k.2) (treeT l)).2.r, (proveS (Sha.keyB k.1 k.2) (treeT l)).2.v⟩ := by unfold proofS; rw [if_neg hne]
    have e2 : rootS l = (treeT l).sum := by unfold rootS; rw [if_neg hne]
    obtain ⟨p1, p2, _⟩ := proveS_ok (kb := Sha.keyB k.1 k.2) htok
    have hh : holdsP (rootS l) (Sha.keyB k.1 k.2) (proofS (Sha.keyB k.1 k.2) l) := by
      rw [e1, e2]
      refine ⟨riseF_of (prove_rise hfit).1 fun f hf => (p1 f hf).2, ?_⟩
      rw [if_neg (by simp)]
      exact ⟨p2.key, prove_same (keyB_bytes _ _) hfit, prove_up _⟩
    rw [if_neg (by simpa using hh), at_prove hne h hk hk2, e1]
    show (if true = true ∧ (proveS (Sha.keyB k.1 k.2) (treeT l)).2.t = k.1 ∧ (proveS (Sha.keyB k.1 k.2) (treeT l)).2.r = k.2 then _ else _) = _
    by_cases e : (proveS (Sha.keyB k.1 k.2) (treeT l)).2.k = k
    · rw [if_pos e, if_pos ⟨rfl, congrArg Prod.fst e, congrArg Prod.snd e⟩]
    · rw [if_neg e, if_neg fun hc => e (Prod.ext hc.2.1 hc.2.2)]
end Go.Proofs.YtjkbjppopdfggaaDoor.Tre
namespace Go.Proofs.YtjkbjppopdfggaaDoor.Tre
open Go Den Fn Sha
open Classical
set_option maxRecDepth 8000
set_option maxHeartbeats 2000000
theorem forkT_inj {n m : Int} {a b c d : List Int} (hn : Rk n) (hm : Rk m) (ha : a.length = 32) (hc : c.length = 32) (h : forkT n a b = forkT m c d) : n = m ∧ a = c ∧ b = d := by
  unfold Rk at hn hm
  have h' : [1, IntKind.wrap .u8 n] ++ a ++ b = [1, IntKind.wrap .u8 m] ++ c ++ d := h
  have h1 := List.append_inj h' (by simp [ha, hc])
  have h2 := List.append_inj h1.1 rfl
  have h3 : IntKind.wrap .u8 n = IntKind.wrap .u8 m := by simpa using h2.1
  rw [wrap_u8 (by omega) (by omega), wrap_u8 (by omega) (by omega)] at h3
  exact ⟨h3, h2.2, h1.2⟩
theorem leaf_fork {t r v n : Int} {a b : List Int} : leafT t r v ≠ forkT n a b := fun h => by
  have := congrArg (fun l : List Int => l.head?) h
  simp [leafT, forkT] at this
/-- Two parts with one digest: they are one, or two unlike texts have one digest. -/
theorem sum_eq : ∀ {s t : Tr}, s.ok → t.ok → s.sum = t.sum → s = t ∨ ∃ s' ∈ s.subs, ∃ t' ∈ t.subs, s'.sum = t'.sum ∧ s'.text ≠ t'.text := by
  intro s
  induction s with
  | leaf x =>
    intro t hs ht he
    by_cases hx : (Tr.leaf x).text = t.text
    · cases t with
      | leaf y => exact .inl (by rw [leafT_inj hs ht hx])
      | fork n l r => exact absurd hx leaf_fork
    · exact .inr ⟨_, Tr.subs_self _, _, Tr.subs_self _, he, hx⟩
  | fork n l r ihl ihr =>
    intro t hs ht he
    by_cases hx : (Tr.fork n l r).text = t.text
    · cases t with
      | leaf y => exact absurd hx.symm leaf_fork
      | fork m a b =>
        obtain ⟨e1, e2, e3⟩ := forkT_inj (rk_n hs.1) (rk_n ht.1) l.sum_len a.sum_len hx
        have : n = m := by omega
        subst this
        rcases ihl hs.2.1 ht.2.1 e2 with rfl | ⟨s', h1, t', h2, h3⟩
        · rcases ihr hs.2.2 ht.2.2 e3 with rfl | ⟨s', h1, t', h2, h3⟩
          · exact .inl rfl
          · exact .inr ⟨s', by simp [Tr.subs, h1], t', by simp [Tr.subs, h2], h3⟩
        · exact .inr ⟨s', by simp [Tr.subs, h1], t', by simp [Tr.subs, h2], h3⟩
    · exact .inr ⟨_, Tr.subs_self _, _, Tr.subs_self _, he, hx⟩
theorem textsS_append (l m : List Nd) : textsS (l ++ m) = textsS l ++ textsS m := List.filterMap_append
theorem texts_mem {l : List Rw} (hne : l ≠ []) (h : RowsOk l) {s : Tr} (hs : s ∈ (treeT l).subs) : s.text ∈ textsS (nodesL l) := by
  rw [textsL hne h]; exact List.mem_map_of_mem hs
/-- Unlike rows with one root. -/
theorem roots_collide {x y : List Rw} (hx : RowsOk x) (hy : RowsOk y) (he : rootS x = rootS y) (hne : x ≠ y) : collideS (textsS (nodesL x ++ nodesL y)) := by
  rw [textsS_append]
  by_cases h1 : x = []
  · have h2 : y ≠ [] := fun h => hne (by rw [h1, h])
    have e1 : rootS x = z32 := by unfold rootS; rw [if_pos h1]
    have e2 : rootS y = (treeT y).sum := by unfold rootS; rw [if_neg h2]
    rw [e1, e2, Tr.sum_text] at he
    exact collide_zero (List.mem_append_right _ (texts_mem h2 hy (Tr.subs_self _))) he.symm
  · have e1 : rootS x = (treeT x).sum := by unfold rootS; rw [if_neg h1]
    by_cases h2 : y = []
    · have e2 : rootS y = z32 := by unfold rootS; rw [if_pos h2]
      rw [e1, e2, Tr.sum_text] at he
      exact collide_zero (List.mem_append_left _ (texts_mem h1 hx (Tr.subs_self _))) he
    · have e2 : rootS y = (treeT y).sum := by unfold rootS; rw [if_neg h2]
      rw [e1, e2] at he
      rcases sum_eq (treeT_ok' h1 hx) (treeT_ok' h2 hy) he with h | ⟨s, g1, t, g2, g3, g4⟩
      · exfalso
        have := congrArg Tr.rows h
        rw [treeT_rows (List.length_pos_iff.2 h1) hx, treeT_rows (List.length_pos_iff.2 h2) hy] at this
        exact hne this
      · rw [Tr.sum_text, Tr.sum_text] at g3
        exact collide_two (List.mem_append_left _ (texts_mem h1 hx g1)) (List.mem_append_right _ (texts_mem h2 hy g2)) g3 g4

/-! ### A forged proof -/
end Go.Proofs.YtjkbjppopdfggaaDoor.Tre
set_option maxRecDepth 100000
namespace Go.Proofs.YtjkbjppopdfggaaDoor.Fn
open Go Den
/-- prelude/preludelaw24.works -/
def s41 : S := (.seq (.ops [⟨(some 0), (.mv (.const (.bool false))), .bool, none⟩] [])
 (.seq (.ops [⟨(some 9), (.bld 29 (.fields [(0, 1), (1, 1)]) [(1, (.const (.int .i64 1)))]), .agg, none⟩,
  ⟨(some 10), (.bld 31 (.fields [(0, 2), (2, 1)]) [(0, (.tmp 9)), (1, (.const (.int .i64 10)))]), .agg, none⟩,
  ⟨(some 11), (.bld 29 (.fields [(0, 1), (1, 1)]) [(1, (.const (.int .i64 2)))]), .agg, none⟩,
  ⟨(some 12), (.bld 31 (.fields [(0, 2), (2, 1)]) [(0, (.tmp 11)), (1, (.const (.int .i64 20)))]), .agg, none⟩,
  ⟨(some 13), (.bldS 31 2 3 [(0, (.tmp 10)), (1, (.tmp 12))]), .sl, none⟩,
  ⟨(some 14), (.call 23 [(.tmp 13)] [.ptr, (.int .i64)]), .any, none⟩,
  ⟨(some 8), (.mv (.tmp 14)), .any, none⟩,
  ⟨(some 15), (.ext 0 (.tmp 8)), .ptr, none⟩,
  ⟨(some 16), (.ext 1 (.tmp 8)), (.int .i64), none⟩,
  ⟨(some 1), (.mv (.tmp 15)), .ptr, none⟩,
  ⟨(some 2), (.mv (.tmp 16)), (.int .i64), none⟩] [1, 2])
 (.seq (.ops [⟨(some 18), (.bld 29 (.fields [(0, 1), (1, 1)]) [(1, (.const (.int .i64 1)))]), .agg, none⟩,
  ⟨(some 19), (.bld 31 (.fields [(0, 2), (2, 1)]) [(0, (.tmp 18)), (1, (.const (.int .i64 10)))]), .agg, none⟩,
  ⟨(some 20), (.bld 29 (.fields [(0, 1), (1, 1)]) [(1, (.const (.int .i64 2)))]), .agg, none⟩,
  ⟨(some 21), (.bld 31 (.fields [(0, 2), (2, 1)]) [(0, (.tmp 20)), (1, (.const (.int .i64 21)))]), .agg, none⟩,
  ⟨(some 22), (.bldS 31 2 3 [(0, (.tmp 19)), (1, (.tmp 21))]), .sl, none⟩,
  ⟨(some 23), (.call 23 [(.tmp 22)] [.ptr, (.int .i64)]), .any, none⟩,
  ⟨(some 17), (.mv (.tmp 23)), .any, none⟩,
  ⟨(some 24), (.ext 0 (.tmp 17)), .ptr, none⟩,
  ⟨(some 25), (.ext 1 (.tmp 17)), (.int .i64), none⟩,
  ⟨(some 3), (.mv (.tmp 24)), .ptr, none⟩,
  ⟨(some 4), (.mv (.tmp 25)), (.int .i64), none⟩] [1, 3, 2, 4])
 (.join [] [1, 3]
 (.seq (.ops [⟨(some 26), (.mv (.tmp 1)), .ptr, none⟩,
  ⟨(some 27), (.nilEq false 1 (.tmp 26)), .bool, none⟩,
  ⟨(some 28), (.mv (.tmp 27)), .bool, none⟩,
  ⟨(some 29), (.mv (.tmp 3)), .ptr, (some (28, false))⟩,
  ⟨(some 30), (.nilEq false 1 (.tmp 29)), .bool, (some (28, false))⟩,
  ⟨(some 31), (.pick (.tmp 28) (.const (.bool true)) (.tmp 30)), .bool, none⟩,
  ⟨(some 32), (.mv (.tmp 31)), .bool, none⟩,
  ⟨(some 33), (.mv (.tmp 2)), (.int .i64), (some (32, false))⟩,
  ⟨(some 34), (.call 17 [(.tmp 33)] [(.int .i64)]), (.int .i64), (some (32, false))⟩,
  ⟨(some 35), (.bin .neq (.tmp 34) (.const (.int .i64 0))), .bool, (some (32, false))⟩,
  ⟨(some 36), (.pick (.tmp 32) (.const (.bool true)) (.tmp 35)), .bool, none⟩,
  ⟨(some 37), (.mv (.tmp 36)), .bool, none⟩,
  ⟨(some 38), (.mv (.tmp 4)), (.int .i64), (some (37, false))⟩,
  ⟨(some 39), (.call 17 [(.tmp 38)] [(.int .i64)]), (.int .i64), (some (37, false))⟩,
  ⟨(some 40), (.bin .neq (.tmp 39) (.const (.int .i64 0))), .bool, (some (37, false))⟩,
  ⟨(some 41), (.pick (.tmp 37) (.const (.bool true)) (.tmp 40)), .bool, none⟩,
  ⟨(some 42), (.mv (.tmp 41)), .bool, none⟩,
  ⟨(some 43), (.mv (.tmp 1)), .ptr, (some (42, false))⟩,
  ⟨(some 44), (.call 32 [(.tmp 43)] [.agg]), .agg, (some (42, false))⟩,
  ⟨(some 45), (.mv (.tmp 3)), .ptr, (some (42, false))⟩,
  ⟨(some 46), (.call 32 [(.tmp 45)] [.agg]), .agg, (some (42, false))⟩,
  ⟨(some 47), (.eqG .eql 24 (.tmp 44) (.tmp 46)), .bool, (some (42, false))⟩,
  ⟨(some 48), (.pick (.tmp 42) (.const (.bool true)) (.tmp 47)), .bool, none⟩] [48, 1, 3])
 (.cond (.tmp 48)
 (.seq (.ops [⟨(some 0), (.mv (.const (.bool false))), .bool, none⟩] [0])
 .ret)
 .skip))
 (.seq (.ops [⟨(some 50), (.mv (.tmp 1)), .ptr, none⟩,
  ⟨(some 51), (.bld 29 (.fields [(0, 1), (1, 1)]) [(1, (.const (.int .i64 3)))]), .agg, none⟩,
  ⟨(some 52), (.call 39 [(.tmp 50), (.tmp 51)] [.agg, (.int .i64)]), .any, none⟩,
  ⟨(some 49), (.mv (.tmp 52)), .any, none⟩,
  ⟨(some 53), (.ext 0 (.tmp 49)), .agg, none⟩,
  ⟨(some 54), (.ext 1 (.tmp 49)), (.int .i64), none⟩,
  ⟨(some 5), (.alloc 43), .ptr, none⟩,
  ⟨none, (.stN 5 (.tmp 5) (.tmp 53)), .any, none⟩,
  ⟨(some 2), (.mv (.tmp 54)), (.int .i64), none⟩] [2, 5, 1, 3])
 (.join [] [1, 3, 5]
 (.seq (.ops [⟨(some 55), (.mv (.tmp 2)), (.int .i64), none⟩,
  ⟨(some 56), (.call 17 [(.tmp 55)] [(.int .i64)]), (.int .i64), none⟩,
  ⟨(some 57), (.bin .neq (.tmp 56) (.const (.int .i64 0))), .bool, none⟩,
  ⟨(some 58), (.mv (.tmp 57)), .bool, none⟩,
  ⟨(some 59), (.fa 0 (.tmp 5)), .ptr, (some (58, false))⟩,
  ⟨(some 60), (.ld1 (.tmp 59)), .sl, (some (58, false))⟩,
  ⟨(some 61), (.len (.tmp 60)), (.int .i64), (some (58, false))⟩,
  ⟨(some 62), (.bin .neq (.tmp 61) (.const (.int .i64 1))), .bool, (some (58, false))⟩,
  ⟨(some 63), (.pick (.tmp 58) (.const (.bool true)) (.tmp 62)), .bool, none⟩,
  ⟨(some 64), (.mv (.tmp 63)), .bool, none⟩,
  ⟨(some 65), (.fa 0 (.tmp 5)), .ptr, (some (64, false))⟩,
  ⟨(some 66), (.ld1 (.tmp 65)), .sl, (some (64, false))⟩,
  ⟨(some 67), (.ia 33 (.tmp 66) (.const (.int .i64 0))), .ptr, (some (64, false))⟩,
  ⟨(some 68), (.fa 0 (.tmp 67)), .ptr, (some (64, false))⟩,
  ⟨(some 69), (.ld1 (.tmp 68)), (.int .i64), (some (64, false))⟩,
  ⟨(some 70), (.bin .neq (.tmp 69) (.const (.int .i64 78))), .bool, (some (64, false))⟩,
  ⟨(some 71), (.pick (.tmp 64) (.const (.bool true)) (.tmp 70)), .bool, none⟩,
  ⟨(some 72), (.mv (.tmp 71)), .bool, none⟩,
  ⟨(some 73), (.fa 1 (.tmp 5)), .ptr, (some (72, false))⟩,
  ⟨(some 74), (.ld1 (.tmp 73)), .bool, (some (72, false))⟩,
  ⟨(some 75), (.un .not (.tmp 74)), .bool, (some (72, false))⟩,
  ⟨(some 76), (.pick (.tmp 72) (.const (.bool true)) (.tmp 75)), .bool, none⟩,
  ⟨(some 77), (.mv (.tmp 76)), .bool, none⟩,
  ⟨(some 78), (.fa 2 (.tmp 5)), .ptr, (some (77, false))⟩,
  ⟨(some 79), (.fa 2 (.tmp 78)), .ptr, (some (77, false))⟩,
  ⟨(some 80), (.ld1 (.tmp 79)), (.int .i64), (some (77, false))⟩,
  ⟨(some 81), (.bin .neq (.tmp 80) (.const (.int .i64 20))), .bool, (some (77, false))⟩,
  ⟨(some 82), (.pick (.tmp 77) (.const (.bool true)) (.tmp 81)), .bool, none⟩] [82, 1, 5, 3])
 (.cond (.tmp 82)
 (.seq (.ops [⟨(some 0), (.mv (.const (.bool false))), .bool, none⟩] [0])
 .ret)
 .skip))
 (.join [(4, (.int .i64)), (6, .ptr)] [1, 3]
 (.draw (.take 0 ⟨(some 84), (.mv (.tmp 1)), .ptr, none⟩
  (.take 2 ⟨(some 86), (.bld 29 (.fields [(0, 1), (1, 1)]) [(1, (.const (.int .i64 3)))]), .agg, none⟩
  (.take 3 ⟨(some 87), (.ldN 5 (.tmp 5)), .agg, none⟩
  (.alt (.go 1 ⟨(some 85), (.call 32 [(.tmp 84)] [.agg]), .agg, none⟩ [(3, ⟨(some 87), (.ldN 5 (.tmp 5)), .agg, none⟩)]
  (.alt (.go 4 ⟨(some 88), (.call 18 [(.tmp 85), (.tmp 86), (.tmp 87)] [.agg, (.int .i64)]), .any, none⟩ []
  (.take 5 ⟨(some 83), (.mv (.tmp 88)), .any, none⟩
  (.take 6 ⟨(some 89), (.ext 0 (.tmp 83)), .agg, none⟩
  (.take 7 ⟨(some 90), (.ext 1 (.tmp 83)), (.int .i64), none⟩
  (.go 8 ⟨(some 6), (.alloc 45), .ptr, none⟩ []
  (.go 9 ⟨none, (.stN 2 (.tmp 6) (.tmp 89)), .any, none⟩ []
  (.take 10 ⟨(some 4), (.mv (.tmp 90)), (.int .i64), none⟩
  .done)))))))
 (.go 8 ⟨(some 6), (.alloc 45), .ptr, none⟩ [(3, ⟨(some 87), (.ldN 5 (.tmp 5)), .agg, none⟩)]
  (.go 4 ⟨(some 88), (.call 18 [(.tmp 85), (.tmp 86), (.tmp 87)] [.agg, (.int .i64)]), .any, none⟩ []
  (.take 5 ⟨(some 83), (.mv (.tmp 88)), .any, none⟩
  (.take 6 ⟨(some 89), (.ext 0 (.tmp 83)), .agg, none⟩
  (.take 7 ⟨(some 90), (.ext 1 (.tmp 83)), (.int .i64), none⟩
  (.go 9 ⟨none, (.stN 2 (.tmp 6) (.tmp 89)), .any, none⟩ []
  (.take 10 ⟨(some 4), (.mv (.tmp 90)), (.int .i64), none⟩
  .done)))))))))
 (.go 8 ⟨(some 6), (.alloc 45), .ptr, none⟩ [(3, ⟨(some 87), (.ldN 5 (.tmp 5)), .agg, none⟩)]
  (.go 1 ⟨(some 85), (.call 32 [(.tmp 84)] [.agg]), .agg, none⟩ [(3, ⟨(some 87), (.ldN 5 (.tmp 5)), .agg, none⟩)]
  (.go 4 ⟨(some 88), (.call 18 [(.tmp 85), (.tmp 86), (.tmp 87)] [.agg, (.int .i64)]), .any, none⟩ []
  (.take 5 ⟨(some 83), (.mv (.tmp 88)), .any, none⟩
  (.take 6 ⟨(some 89), (.ext 0 (.tmp 83)), .agg, none⟩
  (.take 7 ⟨(some 90), (.ext 1 (.tmp 83)), (.int .i64), none⟩
  (.go 9 ⟨none, (.stN 2 (.tmp 6) (.tmp 89)), .any, none⟩ []
  (.take 10 ⟨(some 4), (.mv (.tmp 90)), (.int .i64), none⟩
  .done)))))))))))) [1, 3, 4, 6])
 (.seq (.ops [⟨(some 91), (.mv (.tmp 1)), .ptr, none⟩,
  ⟨(some 92), (.mv (.tmp 3)), .ptr, none⟩,
  ⟨(some 93), (.call 25 [(.tmp 91), (.tmp 92)] [.sl]), .sl, none⟩,
  ⟨(some 7), (.mv (.tmp 93)), .sl, none⟩] [4, 6, 7])
 (.seq (.ops [⟨(some 94), (.mv (.tmp 4)), (.int .i64), none⟩,
  ⟨(some 95), (.call 17 [(.tmp 94)] [(.int .i64)]), (.int .i64), none⟩,
  ⟨(some 96), (.bin .eql (.tmp 95) (.const (.int .i64 0))), .bool, none⟩,
  ⟨(some 97), (.mv (.tmp 96)), .bool, none⟩,
  ⟨(some 98), (.fa 0 (.tmp 6)), .ptr, (some (97, true))⟩,
  ⟨(some 99), (.ld1 (.tmp 98)), .bool, (some (97, true))⟩,
  ⟨(some 100), (.un .not (.tmp 99)), .bool, (some (97, true))⟩,
  ⟨(some 101), (.pick (.tmp 97) (.tmp 100) (.const (.bool false))), .bool, none⟩,
  ⟨(some 102), (.mv (.tmp 101)), .bool, none⟩,
  ⟨(some 103), (.mv (.tmp 7)), .sl, (some (102, true))⟩,
  ⟨(some 104), (.len (.tmp 103)), (.int .i64), (some (102, true))⟩,
  ⟨(some 105), (.bin .eql (.tmp 104) (.const (.int .i64 1))), .bool, (some (102, true))⟩,
  ⟨(some 106), (.pick (.tmp 102) (.tmp 105) (.const (.bool false))), .bool, none⟩,
  ⟨(some 107), (.mv (.tmp 106)), .bool, none⟩,
  ⟨(some 108), (.mv (.tmp 7)), .sl, (some (107, true))⟩,
  ⟨(some 109), (.ia 6 (.tmp 108) (.const (.int .i64 0))), .ptr, (some (107, true))⟩,
  ⟨(some 110), (.fa 0 (.tmp 109)), .ptr, (some (107, true))⟩,
  ⟨(some 111), (.ldN 2 (.tmp 110)), .agg, (some (107, true))⟩,
  ⟨(some 112), (.bld 29 (.fields [(0, 1), (1, 1)]) [(1, (.const (.int .i64 2)))]), .agg, (some (107, true))⟩,
  ⟨(some 113), (.eqG .eql 29 (.tmp 111) (.tmp 112)), .bool, (some (107, true))⟩,
  ⟨(some 114), (.pick (.tmp 107) (.tmp 113) (.const (.bool false))), .bool, none⟩,
  ⟨(some 0), (.mv (.tmp 114)), .bool, none⟩] [0])
 .ret)))))))))
def r41 : List Res := [.t 0]
theorem tr41 : trS Tryd.prog [] 115 (Tryd.f41.body.getD .skip) s41 = some s41 := by kernel_rfl
theorem den41 (args : List Value) (w : World) (R : Ending → World → Prop) (hn : args.length ≤ 115) (h : denS Tryd.prog s41 (argsEnv 0 args) w (endK r41 R)) : Calls Tryd.prog 41 args.toArray w R :=
  calls_of_den (pn := []) (fn := Tryd.f41) (c := Tryd.f41.body.getD .skip) Tryd.func41 (by kernel_rfl) (by rw [Tryd.ntmps41]; exact hn) (by rw [Tryd.ntmps41]; exact tr41) (by kernel_rfl) h
def d41 (w : World) (R : Ending → World → Prop) : Prop :=
 ∃ cs0, fillL (.fields [(0, 1), (1, 1)]) (zc Tryd.prog 29) [(1, (.int .i64 1))] = some cs0 ∧
 ∃ cs1, fillL (.fields [(0, 2), (2, 1)]) (zc Tryd.prog 31) [(0, (.agg (List.toArray cs0))), (1, (.int .i64 10))] = some cs1 ∧
 ∃ cs2, fillL (.fields [(0, 1), (1, 1)]) (zc Tryd.prog 29) [(1, (.int .i64 2))] = some cs2 ∧
 ∃ cs3, fillL (.fields [(0, 2), (2, 1)]) (zc Tryd.prog 31) [(0, (.agg (List.toArray cs2))), (1, (.int .i64 20))] = some cs3 ∧
 ∃ cs4, fillL (.elems 3) (zrep (zc Tryd.prog 31) (2 * 3)) [(0, (.agg (List.toArray cs1))), (1, (.agg (List.toArray cs3)))] = some cs4 ∧
 ∀ w5 : World, w5 = World.alloc w (.cells (List.toArray cs4) 31) →
 Calls Tryd.prog 23 #[(.slice (some ⟨World.heap w |>.size, 0, none⟩) 2 2)] w5 fun e6 w7 => ∃ x8 : Option Addr, ∃ x9 : Int, e6 = .returned (.tuple #[(.pointer x8), (.int .i64 x9)]) ∧
 ∃ x10 : Option Addr, (#[(.pointer x8), (.int .i64 x9)] : Array Value)[0]? = some (.pointer x10) ∧
 ∃ x11 : Int, (#[(.pointer x8), (.int .i64 x9)] : Array Value)[1]? = some (.int .i64 x11) ∧
 ∃ cs12, fillL (.fields [(0, 1), (1, 1)]) (zc Tryd.prog 29) [(1, (.int .i64 1))] = some cs12 ∧
 ∃ cs13, fillL (.fields [(0, 2), (2, 1)]) (zc Tryd.prog 31) [(0, (.agg (List.toArray cs12))), (1, (.int .i64 10))] = some cs13 ∧
 ∃ cs14, fillL (.fields [(0, 1), (1, 1)]) (zc Tryd.prog 29) [(1, (.int .i64 2))] = some cs14 ∧
 ∃ cs15, fillL (.fields [(0, 2), (2, 1)]) (zc Tryd.prog 31) [(0, (.agg (List.toArray cs14))), (1, (.int .i64 21))] = some cs15 ∧
 ∃ cs16, fillL (.elems 3) (zrep (zc Tryd.prog 31) (2 * 3)) [(0, (.agg (List.toArray cs13))), (1, (.agg (List.toArray cs15)))] = some cs16 ∧
 ∀ w17 : World, w17 = World.alloc w7 (.cells (List.toArray cs16) 31) →
 Calls Tryd.prog 23 #[(.slice (some ⟨World.heap w7 |>.size, 0, none⟩) 2 2)] w17 fun e18 w19 => ∃ x20 : Option Addr, ∃ x21 : Int, e18 = .returned (.tuple #[(.pointer x20), (.int .i64 x21)]) ∧
 ∃ x22 : Option Addr, (#[(.pointer x20), (.int .i64 x21)] : Array Value)[0]? = some (.pointer x22) ∧
 ∃ x23 : Int, (#[(.pointer x20), (.int .i64 x21)] : Array Value)[1]? = some (.int .i64 x23) ∧
 ∃ J24 : World → Prop,
 ((bif (Option.isNone x10) then
 (R (.returned (.bool false)) w19)
 else
 ((bif (Option.isNone x22) then
 (R (.returned (.bool false)) w19)
 else
 (Calls Tryd.prog 17 #[(.int .i64 x11)] w19 fun e25 w26 => ∃ x27 : Int, e25 = .returned (.int .i64 x27) ∧
 (bif (!decide (x27 = 0)) then
 (R (.returned (.bool false)) w26)
 else
 (Calls Tryd.prog 17 #[(.int .i64 x23)] w26 fun e28 w29 => ∃ x30 : Int, e28 = .returned (.int .i64 x30) ∧
 (bif (!decide (x30 = 0)) then
 (R (.returned (.bool false)) w29)
 else
 (Calls Tryd.prog 32 #[(.pointer x10)] w29 fun e31 w32 => ∃ x33 : Array Value, e31 = .returned (.agg x33) ∧
 Calls Tryd.prog 32 #[(.pointer x22)] w32 fun e34 w35 => ∃ x36 : Array Value, e34 = .returned (.agg x36) ∧
 ∃ q37 : Bool, Sem.run Tryd.prog (do eqGuard .eql 24 (.tmp 44) (.tmp 46) (.agg x33) (.agg x36); binOp .eql 24 (.agg x33) (.agg x36)) w35 = .ok (.bool q37) w35 ∧
 (bif q37 then
 (R (.returned (.bool false)) w35)
 else
 (J24  w35))))))))))) ∧
 (∀ (w38 : World), J24  w38 →
 ∃ cs39, fillL (.fields [(0, 1), (1, 1)]) (zc Tryd.prog 29) [(1, (.int .i64 3))] = some cs39 ∧
 Calls Tryd.prog 39 #[(.pointer x10), (.agg (List.toArray cs39))] w38 fun e40 w41 => ∃ x42 : Array Value, ∃ x43 : Int, e40 = .returned (.tuple #[(.agg x42), (.int .i64 x43)]) ∧
 ∃ x44 : Array Value, (#[(.agg x42), (.int .i64 x43)] : Array Value)[0]? = some (.agg x44) ∧
 ∃ x45 : Int, (#[(.agg x42), (.int .i64 x43)] : Array Value)[1]? = some (.int .i64 x45) ∧
 ∀ w46 : World, w46 = World.alloc w41 (.cells (zc Tryd.prog 43).toArray 43) →
 Array.size x44 = 5 ∧ (∀ u ∈ Array.toList x44, one u = true) ∧ Room w46 ⟨World.heap w41 |>.size, 0, none⟩ 5 ∧
 ∀ w47 : World, w47 = setCells w46 ⟨World.heap w41 |>.size, 0, none⟩ (Array.toList x44) 0 →
 ∃ J48 : World → Prop,
 (Calls Tryd.prog 17 #[(.int .i64 x45)] w47 fun e49 w50 => ∃ x51 : Int, e49 = .returned (.int .i64 x51) ∧
 (bif (!decide (x51 = 0)) then
 (R (.returned (.bool false)) w50)
 else
 (∃ (x52 : Option Addr) (x52n : Nat) (x52c : Nat), World.cell? w50 (Addr.add ⟨World.heap w41 |>.size, 0, none⟩ 0) = some (.slice x52 x52n x52c) ∧
 (bif (!decide (((x52n : Nat) : Int) = 1)) then
 (R (.returned (.bool false)) w50)
 else
 (∃ (x53 : Option Addr) (x53n : Nat) (x53c : Nat), World.cell? w50 (Addr.add ⟨World.heap w41 |>.size, 0, none⟩ 0) = some (.slice x53 x53n x53c) ∧
 0 ≤ (0 : Int) ∧ (0 : Int) < ((x53n : Nat) : Int) ∧ optK x53 fun a54 =>
 ∃ x55 : Int, World.cell? w50 (Addr.add (Addr.add a54 (Int.toNat 0 * 33)) 0) = some (.int .i64 x55) ∧
 (bif (!decide (x55 = 78)) then
 (R (.returned (.bool false)) w50)
 else
 (∃ x56 : Bool, World.cell? w50 (Addr.add ⟨World.heap w41 |>.size, 0, none⟩ 1) = some (.bool x56) ∧
 (bif (!x56) then
 (R (.returned (.bool false)) w50)
 else
 (∃ x57 : Int, World.cell? w50 (Addr.add (Addr.add ⟨World.heap w41 |>.size, 0, none⟩ 2) 2) = some (.int .i64 x57) ∧
 (bif (!decide (x57 = 20)) then
 (R (.returned (.bool false)) w50)
 else
 (J48  w50))))))))))) ∧
 (∀ (w58 : World), J48  w58 →
 ∃ J59 : Int → Option Addr → World → Prop,
 (∀ w60 : World, w60 = World.drew w58 →
 ∃ cs61, fillL (.fields [(0, 1), (1, 1)]) (zc Tryd.prog 29) [(1, (.int .i64 3))] = some cs61 ∧
 ∃ cs62 : List Value, List.length cs62 = 5 ∧ Cells w60 ⟨World.heap w41 |>.size, 0, none⟩ cs62 ∧
 (Calls Tryd.prog 32 #[(.pointer x10)] w60 fun e63 w64 => ∃ x65 : Array Value, e63 = .returned (.agg x65) ∧
 (∃ cs66 : List Value, List.length cs66 = 5 ∧ Cells w64 ⟨World.heap w41 |>.size, 0, none⟩ cs66 ∧
 (((.agg (List.toArray cs66)) : Value) = (.agg (List.toArray cs62)) ∧ w64 = w64)) ∧
 (Calls Tryd.prog 18 #[(.agg x65), (.agg (List.toArray cs61)), (.agg (List.toArray cs62))] w64 fun e67 w68 => ∃ x69 : Array Value, ∃ x70 : Int, e67 = .returned (.tuple #[(.agg x69), (.int .i64 x70)]) ∧
 ∃ x71 : Array Value, (#[(.agg x69), (.int .i64 x70)] : Array Value)[0]? = some (.agg x71) ∧
 ∃ x72 : Int, (#[(.agg x69), (.int .i64 x70)] : Array Value)[1]? = some (.int .i64 x72) ∧
 ∀ w73 : World, w73 = World.alloc w68 (.cells (zc Tryd.prog 45).toArray 45) →
 Array.size x71 = 2 ∧ (∀ u ∈ Array.toList x71, one u = true) ∧ Room w73 ⟨World.heap w68 |>.size, 0, none⟩ 2 ∧
 ∀ w74 : World, w74 = setCells w73 ⟨World.heap w68 |>.size, 0, none⟩ (Array.toList x71) 0 →
 J59 x72 (some ⟨World.heap w68 |>.size, 0, none⟩) w74) ∧
 (∀ w75 : World, w75 = World.alloc w64 (.cells (zc Tryd.prog 45).toArray 45) →
 (∃ cs76 : List Value, List.length cs76 = 5 ∧ Cells w75 ⟨World.heap w41 |>.size, 0, none⟩ cs76 ∧
 (((.agg (List.toArray cs76)) : Value) = (.agg (List.toArray cs62)) ∧ w75 = w75)) ∧
 Calls Tryd.prog 18 #[(.agg x65), (.agg (List.toArray cs61)), (.agg (List.toArray cs62))] w75 fun e77 w78 => ∃ x79 : Array Value, ∃ x80 : Int, e77 = .returned (.tuple #[(.agg x79), (.int .i64 x80)]) ∧
 ∃ x81 : Array Value, (#[(.agg x79), (.int .i64 x80)] : Array Value)[0]? = some (.agg x81) ∧
 ∃ x82 : Int, (#[(.agg x79), (.int .i64 x80)] : Array Value)[1]? = some (.int .i64 x82) ∧
 Array.size x81 = 2 ∧ (∀ u ∈ Array.toList x81, one u = true) ∧ Room w78 ⟨World.heap w64 |>.size, 0, none⟩ 2 ∧
 ∀ w83 : World, w83 = setCells w78 ⟨World.heap w64 |>.size, 0, none⟩ (Array.toList x81) 0 →
 J59 x82 (some ⟨World.heap w64 |>.size, 0, none⟩) w83)) ∧
 (∀ w84 : World, w84 = World.alloc w60 (.cells (zc Tryd.prog 45).toArray 45) →
 (∃ cs85 : List Value, List.length cs85 = 5 ∧ Cells w84 ⟨World.heap w41 |>.size, 0, none⟩ cs85 ∧
 (((.agg (List.toArray cs85)) : Value) = (.agg (List.toArray cs62)) ∧ w84 = w84)) ∧
 Calls Tryd.prog 32 #[(.pointer x10)] w84 fun e86 w87 => ∃ x88 : Array Value, e86 = .returned (.agg x88) ∧
 (∃ cs89 : List Value, List.length cs89 = 5 ∧ Cells w87 ⟨World.heap w41 |>.size, 0, none⟩ cs89 ∧
 (((.agg (List.toArray cs89)) : Value) = (.agg (List.toArray cs62)) ∧ w87 = w87)) ∧
 Calls Tryd.prog 18 #[(.agg x88), (.agg (List.toArray cs61)), (.agg (List.toArray cs62))] w87 fun e90 w91 => ∃ x92 : Array Value, ∃ x93 : Int, e90 = .returned (.tuple #[(.agg x92), (.int .i64 x93)]) ∧
 ∃ x94 : Array Value, (#[(.agg x92), (.int .i64 x93)] : Array Value)[0]? = some (.agg x94) ∧
 ∃ x95 : Int, (#[(.agg x92), (.int .i64 x93)] : Array Value)[1]? = some (.int .i64 x95) ∧
 Array.size x94 = 2 ∧ (∀ u ∈ Array.toList x94, one u = true) ∧ Room w91 ⟨World.heap w60 |>.size, 0, none⟩ 2 ∧
 ∀ w96 : World, w96 = setCells w91 ⟨World.heap w60 |>.size, 0, none⟩ (Array.toList x94) 0 →
 J59 x95 (some ⟨World.heap w60 |>.size, 0, none⟩) w96)) ∧
 (∀ (w97 : World) (f98 : Int) (c99 : Option Addr), J59 f98 c99 w97 →
 Calls Tryd.prog 25 #[(.pointer x10), (.pointer x22)] w97 fun e100 w101 => ∃ (x102 : Option Addr) (x102n : Nat) (x102c : Nat), e100 = .returned (.slice x102 x102n x102c) ∧
 Calls Tryd.prog 17 #[(.int .i64 f98)] w101 fun e103 w104 => ∃ x105 : Int, e103 = .returned (.int .i64 x105) ∧
 (bif (decide (x105 = 0)) then
 (optK c99 fun a106 =>
 ∃ x107 : Bool, World.cell? w104 (Addr.add a106 0) = some (.bool x107) ∧
 (bif (!x107) then
 ((bif (decide (((x102n : Nat) : Int) = 1)) then
 (0 ≤ (0 : Int) ∧ (0 : Int) < ((x102n : Nat) : Int) ∧ optK x102 fun a108 =>
 ∃ cs109 : List Value, List.length cs109 = 2 ∧ Cells w104 (Addr.add (Addr.add a108 (Int.toNat 0 * 6)) 0) cs109 ∧
 ∃ cs110, fillL (.fields [(0, 1), (1, 1)]) (zc Tryd.prog 29) [(1, (.int .i64 2))] = some cs110 ∧
 ∃ q111 : Bool, Sem.run Tryd.prog (do eqGuard .eql 29 (.tmp 111) (.tmp 112) (.agg (List.toArray cs109)) (.agg (List.toArray cs110)); binOp .eql 29 (.agg (List.toArray cs109)) (.agg (List.toArray cs110))) w104 = .ok (.bool q111) w104 ∧
 R (.returned (.bool q111)) w104)
 else
 (R (.returned (.bool false)) w104)))
 else
 (R (.returned (.bool false)) w104)))
 else
 (R (.returned (.bool false)) w104)))))
theorem e41 (w : World) (R : Ending → World → Prop) : denS Tryd.prog s41 (argsEnv 0 []) w (endK r41 R) = d41  w R := by kernel_rfl
theorem c41 {w : World} {R : Ending → World → Prop} (h : d41  w R) : Calls Tryd.prog 41 #[] w R :=
  den41 [] w R (by simp) ((e41  w R).symm ▸ h)

/-- prelude/preludelaw24.ProofRoots -/
def s9 : S := (.seq (.ops [⟨(some 4), (.mv (.const (.bool false))), .bool, none⟩] [0, 1])
 (.seq (.seq (.ops [⟨(some 11), (.call 41 [] [.bool]), .bool, none⟩,
  ⟨(some 12), (.un .not (.tmp 11)), .bool, none⟩] [12, 0, 1])
 (.cond (.tmp 12)
 (.seq (.ops [⟨(some 4), (.mv (.const (.bool false))), .bool, none⟩] [4])
 .ret)
 .skip))
 (.seq (.ops [⟨(some 13), (.mv (.tmp 0)), .sl, none⟩,
  ⟨(some 14), (.call 22 [(.tmp 13)] [.sl]), .sl, none⟩,
  ⟨(some 15), (.call 21 [(.tmp 14)] [.sl]), .sl, none⟩,
  ⟨(some 5), (.mv (.tmp 15)), .sl, none⟩] [1, 5])
 (.seq (.ops [⟨(some 16), (.mv (.tmp 1)), .sl, none⟩,
  ⟨(some 17), (.call 22 [(.tmp 16)] [.sl]), .sl, none⟩,
  ⟨(some 18), (.call 21 [(.tmp 17)] [.sl]), .sl, none⟩,
  ⟨(some 6), (.mv (.tmp 18)), .sl, none⟩] [5, 6])
 (.seq (.ops [⟨(some 20), (.mv (.tmp 5)), .sl, none⟩,
  ⟨(some 21), (.call 24 [(.tmp 20)] [.sl]), .sl, none⟩,
  ⟨(some 22), (.call 23 [(.tmp 21)] [.ptr, (.int .i64)]), .any, none⟩,
  ⟨(some 19), (.mv (.tmp 22)), .any, none⟩,
  ⟨(some 23), (.ext 0 (.tmp 19)), .ptr, none⟩,
  ⟨(some 24), (.ext 1 (.tmp 19)), (.int .i64), none⟩,
  ⟨(some 7), (.mv (.tmp 23)), .ptr, none⟩,
  ⟨(some 8), (.mv (.tmp 24)), (.int .i64), none⟩] [6, 7, 8, 5])
 (.seq (.ops [⟨(some 26), (.mv (.tmp 6)), .sl, none⟩,
  ⟨(some 27), (.call 24 [(.tmp 26)] [.sl]), .sl, none⟩,
  ⟨(some 28), (.call 23 [(.tmp 27)] [.ptr, (.int .i64)]), .any, none⟩,
  ⟨(some 25), (.mv (.tmp 28)), .any, none⟩,
  ⟨(some 29), (.ext 0 (.tmp 25)), .ptr, none⟩,
  ⟨(some 30), (.ext 1 (.tmp 25)), (.int .i64), none⟩,
  ⟨(some 9), (.mv (.tmp 29)), .ptr, none⟩,
  ⟨(some 10), (.mv (.tmp 30)), (.int .i64), none⟩] [7, 9, 8, 10, 5, 6])
 (.join [] [5, 6, 7, 9]
 (.seq (.ops [⟨(some 31), (.mv (.tmp 7)), .ptr, none⟩,
  ⟨(some 32), (.nilEq false 1 (.tmp 31)), .bool, none⟩,
  ⟨(some 33), (.mv (.tmp 32)), .bool, none⟩,
  ⟨(some 34), (.mv (.tmp 9)), .ptr, (some (33, false))⟩,
  ⟨(some 35), (.nilEq false 1 (.tmp 34)), .bool, (some (33, false))⟩,
  ⟨(some 36), (.pick (.tmp 33) (.const (.bool true)) (.tmp 35)), .bool, none⟩,
  ⟨(some 37), (.mv (.tmp 36)), .bool, none⟩,
  ⟨(some 38), (.mv (.tmp 8)), (.int .i64), (some (37, false))⟩,
  ⟨(some 39), (.call 17 [(.tmp 38)] [(.int .i64)]), (.int .i64), (some (37, false))⟩,
  ⟨(some 40), (.bin .neq (.tmp 39) (.const (.int .i64 0))), .bool, (some (37, false))⟩,
  ⟨(some 41), (.pick (.tmp 37) (.const (.bool true)) (.tmp 40)), .bool, none⟩,
  ⟨(some 42), (.mv (.tmp 41)), .bool, none⟩,
  ⟨(some 43), (.mv (.tmp 10)), (.int .i64), (some (42, false))⟩,
  ⟨(some 44), (.call 17 [(.tmp 43)] [(.int .i64)]), (.int .i64), (some (42, false))⟩,
  ⟨(some 45), (.bin .neq (.tmp 44) (.const (.int .i64 0))), .bool, (some (42, false))⟩,
  ⟨(some 46), (.pick (.tmp 42) (.const (.bool true)) (.tmp 45)), .bool, none⟩] [46, 7, 9, 5, 6])
 (.cond (.tmp 46)
 (.seq (.ops [⟨(some 4), (.mv (.const (.bool false))), .bool, none⟩] [4])
 .ret)
 .skip))
 (.seq (.seq (.draw (.take 0 ⟨(some 47), (.mv (.tmp 7)), .ptr, none⟩
  (.take 2 ⟨(some 49), (.mv (.tmp 9)), .ptr, none⟩
  (.take 5 ⟨(some 52), (.mv (.tmp 5)), .sl, none⟩
  (.take 6 ⟨(some 53), (.mv (.tmp 6)), .sl, none⟩
  (.go 1 ⟨(some 48), (.call 32 [(.tmp 47)] [.agg]), .agg, none⟩ []
  (.go 3 ⟨(some 50), (.call 32 [(.tmp 49)] [.agg]), .agg, none⟩ []
  (.take 4 ⟨(some 51), (.eqG .eql 24 (.tmp 48) (.tmp 50)), .bool, none⟩
  (.go 7 ⟨(some 54), (.call 34 [(.tmp 52), (.tmp 53)] [.bool]), .bool, none⟩ [(4, ⟨(some 51), (.eqG .eql 24 (.tmp 48) (.tmp 50)), .bool, none⟩)]
  (.take 8 ⟨(some 55), (.eqB false (.tmp 51) (.tmp 54)), .bool, none⟩
  .done))))))))) [55, 5, 6])
 (.cond (.tmp 55)
 (.seq (.ops [⟨(some 4), (.mv (.const (.bool true))), .bool, none⟩] [4])
 .ret)
 .skip))
 (.seq (.ops [⟨(some 56), (.mv (.tmp 5)), .sl, none⟩,
  ⟨(some 57), (.mv (.tmp 6)), .sl, none⟩,
  ⟨(some 58), (.call 34 [(.tmp 56), (.tmp 57)] [.bool]), .bool, none⟩,
  ⟨(some 59), (.un .not (.tmp 58)), .bool, none⟩,
  ⟨(some 60), (.mv (.tmp 59)), .bool, none⟩,
  ⟨(some 61), (.mv (.tmp 5)), .sl, (some (60, true))⟩,
  ⟨(some 62), (.call 30 [(.tmp 61)] [.sl]), .sl, (some (60, true))⟩,
  ⟨(some 63), (.mv (.tmp 6)), .sl, (some (60, true))⟩,
  ⟨(some 64), (.call 30 [(.tmp 63)] [.sl]), .sl, (some (60, true))⟩,
  ⟨(some 65), (.app #[52, 52] 52 (.tmp 62) (.tmp 64)), .sl, (some (60, true))⟩,
  ⟨(some 66), (.call 38 [(.tmp 65)] [.sl]), .sl, (some (60, true))⟩,
  ⟨(some 67), (.call 37 [(.tmp 66)] [.bool]), .bool, (some (60, true))⟩,
  ⟨(some 68), (.pick (.tmp 60) (.tmp 67) (.const (.bool false))), .bool, none⟩,
  ⟨(some 4), (.mv (.tmp 68)), .bool, none⟩] [4])
 .ret)))))))))
def r9 : List Res := [.t 4]
theorem tr9 : trS Tryd.prog [] 69 (Tryd.f9.body.getD .skip) s9 = some s9 := by kernel_rfl
theorem den9 (args : List Value) (w : World) (R : Ending → World → Prop) (hn : args.length ≤ 69) (h : denS Tryd.prog s9 (argsEnv 0 args) w (endK r9 R)) : Calls Tryd.prog 9 args.toArray w R :=
  calls_of_den (pn := []) (fn := Tryd.f9) (c := Tryd.f9.body.getD .skip) Tryd.func9 (by kernel_rfl) (by rw [Tryd.ntmps9]; exact hn) (by rw [Tryd.ntmps9]; exact tr9) (by kernel_rfl) h
def d9 (a0 : Option Addr) (a0n : Nat) (a0c : Nat) (b1 : Option Addr) (b1n : Nat) (b1c : Nat) (w : World) (R : Ending → World → Prop) : Prop :=
 Calls Tryd.prog 41 #[] w fun e2 w3 => ∃ x4 : Bool, e2 = .returned (.bool x4) ∧
 (bif (!x4) then
 (R (.returned (.bool false)) w3)
 else
 (Calls Tryd.prog 22 #[(.slice a0 a0n a0c)] w3 fun e5 w6 => ∃ (x7 : Option Addr) (x7n : Nat) (x7c : Nat), e5 = .returned (.slice x7 x7n x7c) ∧
 Calls Tryd.prog 21 #[(.slice x7 x7n x7c)] w6 fun e8 w9 => ∃ (x10 : Option Addr) (x10n : Nat) (x10c : Nat), e8 = .returned (.slice x10 x10n x10c) ∧
 Calls Tryd.prog 22 #[(.slice b1 b1n b1c)] w9 fun e11 w12 => ∃ (x13 : Option Addr) (x13n : Nat) (x13c : Nat), e11 = .returned (.slice x13 x13n x13c) ∧
 Calls Tryd.prog 21 #[(.slice x13 x13n x13c)] w12 fun e14 w15 => ∃ (x16 : Option Addr) (x16n : Nat) (x16c : Nat), e14 = .returned (.slice x16 x16n x16c) ∧
 Calls Tryd.prog 24 #[(.slice x10 x10n x10c)] w15 fun e17 w18 => ∃ (x19 : Option Addr) (x19n : Nat) (x19c : Nat), e17 = .returned (.slice x19 x19n x19c) ∧
 Calls Tryd.prog 23 #[(.slice x19 x19n x19c)] w18 fun e20 w21 => ∃ x22 : Option Addr, ∃ x23 : Int, e20 = .returned (.tuple #[(.pointer x22), (.int .i64 x23)]) ∧
 ∃ x24 : Option Addr, (#[(.pointer x22), (.int .i64 x23)] : Array Value)[0]? = some (.pointer x24) ∧
 ∃ x25 : Int, (#[(.pointer x22), (.int .i64 x23)] : Array Value)[1]? = some (.int .i64 x25) ∧
 Calls Tryd.prog 24 #[(.slice x16 x16n x16c)] w21 fun e26 w27 => ∃ (x28 : Option Addr) (x28n : Nat) (x28c : Nat), e26 = .returned (.slice x28 x28n x28c) ∧
 Calls Tryd.prog 23 #[(.slice x28 x28n x28c)] w27 fun e29 w30 => ∃ x31 : Option Addr, ∃ x32 : Int, e29 = .returned (.tuple #[(.pointer x31), (.int .i64 x32)]) ∧
 ∃ x33 : Option Addr, (#[(.pointer x31), (.int .i64 x32)] : Array Value)[0]? = some (.pointer x33) ∧
 ∃ x34 : Int, (#[(.pointer x31), (.int .i64 x32)] : Array Value)[1]? = some (.int .i64 x34) ∧
 ∃ J35 : World → Prop,
 ((bif (Option.isNone x24) then
 (R (.returned (.bool false)) w30)
 else
 ((bif (Option.isNone x33) then
 (R (.returned (.bool false)) w30)
 else
 (Calls Tryd.prog 17 #[(.int .i64 x25)] w30 fun e36 w37 => ∃ x38 : Int, e36 = .returned (.int .i64 x38) ∧
 (bif (!decide (x38 = 0)) then
 (R (.returned (.bool false)) w37)
 else
 (Calls Tryd.prog 17 #[(.int .i64 x34)] w37 fun e39 w40 => ∃ x41 : Int, e39 = .returned (.int .i64 x41) ∧
 (bif (!decide (x41 = 0)) then
 (R (.returned (.bool false)) w40)
 else
 (J35  w40))))))))) ∧
 (∀ (w42 : World), J35  w42 →
 ∀ w43 : World, w43 = World.drew w42 →
 Calls Tryd.prog 32 #[(.pointer x24)] w43 fun e44 w45 => ∃ x46 : Array Value, e44 = .returned (.agg x46) ∧
 Calls Tryd.prog 32 #[(.pointer x33)] w45 fun e47 w48 => ∃ x49 : Array Value, e47 = .returned (.agg x49) ∧
 ∃ q50 : Bool, Sem.run Tryd.prog (do eqGuard .eql 24 (.tmp 48) (.tmp 50) (.agg x46) (.agg x49); binOp .eql 24 (.agg x46) (.agg x49)) w48 = .ok (.bool q50) w48 ∧
 Calls Tryd.prog 34 #[(.slice x10 x10n x10c), (.slice x16 x16n x16c)] w48 fun e51 w52 => ∃ x53 : Bool, e51 = .returned (.bool x53) ∧
 (∃ q54 : Bool, Sem.run Tryd.prog (do eqGuard .eql 24 (.tmp 48) (.tmp 50) (.agg x46) (.agg x49); binOp .eql 24 (.agg x46) (.agg x49)) w52 = .ok (.bool q54) w52 ∧
 (((.bool q54) : Value) = (.bool q50) ∧ w52 = w52)) ∧
 (bif (q50 == x53) then
 (R (.returned (.bool true)) w52)
 else
 (Calls Tryd.prog 34 #[(.slice x10 x10n x10c), (.slice x16 x16n x16c)] w52 fun e55 w56 => ∃ x57 : Bool, e55 = .returned (.bool x57) ∧
 (bif (!x57) then
 (Calls Tryd.prog 30 #[(.slice x10 x10n x10c)] w56 fun e58 w59 => ∃ (x60 : Option Addr) (x60n : Nat) (x60c : Nat), e58 = .returned (.slice x60 x60n x60c) ∧
 Calls Tryd.prog 30 #[(.slice x16 x16n x16c)] w59 fun e61 w62 => ∃ (x63 : Option Addr) (x63n : Nat) (x63c : Nat), e61 = .returned (.slice x63 x63n x63c) ∧
 RunV Tryd.prog (Builtin.append_ #[52, 52] 52 #[(.slice x60 x60n x60c), (.slice x63 x63n x63c)]) w62 fun v64 w65 => ∃ (x66 : Option Addr) (x66n : Nat) (x66c : Nat), v64 = (.slice x66 x66n x66c) ∧
 Calls Tryd.prog 38 #[(.slice x66 x66n x66c)] w65 fun e67 w68 => ∃ (x69 : Option Addr) (x69n : Nat) (x69c : Nat), e67 = .returned (.slice x69 x69n x69c) ∧
 Calls Tryd.prog 37 #[(.slice x69 x69n x69c)] w68 fun e70 w71 => ∃ x72 : Bool, e70 = .returned (.bool x72) ∧
 R (.returned (.bool x72)) w71)
 else
 (R (.returned (.bool false)) w56)))))))
theorem e9 (a0 : Option Addr) (a0n : Nat) (a0c : Nat) (b1 : Option Addr) (b1n : Nat) (b1c : Nat) (w : World) (R : Ending → World → Prop) : denS Tryd.prog s9 (argsEnv 0 [(.slice a0 a0n a0c), (.slice b1 b1n b1c)]) w (endK r9 R) = d9 a0 a0n a0c b1 b1n b1c w R := by kernel_rfl
theorem c9 (a0 : Option Addr) (a0n : Nat) (a0c : Nat) (b1 : Option Addr) (b1n : Nat) (b1c : Nat) {w : World} {R : Ending → World → Prop} (h : d9 a0 a0n a0c b1 b1n b1c w R) : Calls Tryd.prog 9 #[(.slice a0 a0n a0c), (.slice b1 b1n b1c)] w R :=
  den9 [(.slice a0 a0n a0c), (.slice b1 b1n b1c)] w R (by simp) ((e9 a0 a0n a0c b1 b1n b1c w R).symm ▸ h)

end Go.Proofs.YtjkbjppopdfggaaDoor.Fn
