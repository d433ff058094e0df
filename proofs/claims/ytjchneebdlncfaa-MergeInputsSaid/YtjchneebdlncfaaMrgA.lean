/-
  MERGE's LAWS, the small functions: put, sameTx, sameBatch, SamePiece.
  Own work. No macro, syntax, notation, axiom.
-/
import Derived.Test.YtjchneebdlncfaaLibMrg3
import Derived.Test.YtjchneebdlncfaaFnMrgB
namespace Go.Proofs.Ytjchneebdlncfaa.Mrg
open Go Den Fn Lib
open Go.RowKit (Below)
open Classical
set_option maxRecDepth 8000
set_option maxHeartbeats 1000000

def putTx (v : Int) : Tx := ⟨1, [v], [], [(0, v)]⟩
theorem putTx_ok {v : Int} (h : I64 v) : (putTx v).ok := ⟨by unfold putTx I64; simp, by simpa [putTx] using h, by simp [putTx], by
  unfold putTx kI
  simp only [List.mem_singleton, forall_eq]
  exact ⟨by unfold I64; simp, h⟩⟩
theorem rises_one (k : Int × Int) (h : KeyOk k.1) : RisesS [k] := ⟨by simpa using h, fun i a b _ hb => by simp at hb⟩
theorem rises_nil : RisesS [] := ⟨by simp, fun i a b ha => by simp at ha⟩
theorem putTx_good (v : Int) : Lib.Good (putTx v) := ⟨by unfold putTx; simp, by unfold putTx; simp, by unfold putTx; simp, by unfold putTx; simp, rises_nil, rises_one _ (by unfold KeyOk; simp)⟩
theorem zcI64 : zc Try.prog 2 = [.int .i64 0] := by kernel_rfl
theorem put_c (v : Int) (w : World) (hv : I64 v) : Calls Try.prog 14 #[.int .i64 v] w fun e w' => ∃ cs, e = .returned (.agg cs.toArray) ∧ TxV (Btw w.heap.size w'.heap.size) w' cs (putTx v) ∧ Tch [] w w' := by
  refine c14 _ ?_
  unfold d14
  rintro w1 rfl
  rw [zcTx]
  have h1 := BlkT.new w [Value.int .i64 0, .slice none 0 0, .slice none 0 0, .slice none 0 0].toArray 39
  have t1 := (Tch.refl [] w).alloc (.cells [Value.int .i64 0, .slice none 0 0, .slice none 0 0, .slice none 0 0].toArray 39)
  have s1 := size_alloc w (.cells [Value.int .i64 0, .slice none 0 0, .slice none 0 0, .slice none 0 0].toArray 39)
  generalize w.alloc (.cells [Value.int .i64 0, .slice none 0 0, .slice none 0 0, .slice none 0 0].toArray 39) = w1 at *
  refine ⟨[.int .i64 v], by rw [zcI64]; rfl, ?_⟩
  rintro w3 rfl
  have h2 := BlkT.new w1 [Value.int .i64 v].toArray 2
  have t2 := (Tch.refl [] w1).alloc (.cells [Value.int .i64 v].toArray 2)
  have s2 := size_alloc w1 (.cells [Value.int .i64 v].toArray 2)
  generalize w1.alloc (.cells [Value.int .i64 v].toArray 2) = w3 at *
  refine ⟨kC (0, v), by rw [zcKey]; rfl, kC (0, v), by rw [zcKey]; rfl, ?_⟩
  rintro w6 rfl
  have h3 := BlkT.new w3 (kC (0, v)).toArray 97
  have t3 := (Tch.refl [] w3).alloc (.cells (kC (0, v)).toArray 97)
  have s3 := size_alloc w3 (.cells (kC (0, v)).toArray 97)
  generalize w3.alloc (.cells (kC (0, v)).toArray 97) = w6 at *
  refine ⟨[.int .i64 1, .slice (some ⟨w1.heap.size, 0, none⟩) 1 1, .slice none 0 0, .slice (some ⟨w3.heap.size, 0, none⟩) 1 1], by rfl, ?_⟩
  have hb := (h1.blk.tch t2 (by simp)).tch t3 (by simp)
  refine put_all (n := 4) hb rfl rfl (by simp [one]) fun w8 g1 t4 s4 => ?_
  refine get_all g1 rfl ?_
  have r2 : RSl w3 1 (some ⟨w1.heap.size, 0, none⟩) 1 1 (i64s [v]) := own_rsl (h2.own (base := 0) (Nat.zero_le _) rfl (by omega)) (by simp [one])
  have r3 : RSl w6 2 (some ⟨w3.heap.size, 0, none⟩) 1 1 (rows kC [(0, v)]) := own_rsl (h3.own (base := 0) (Nat.zero_le _) rfl (by omega)) kCs_one
  refine ⟨_, rfl, ⟨_, _, _, _, _, _, _, _, _, rfl, ⟨(r2.tch t3 (fun _ _ h => by cases h)).tch t4 ?_, .inr ?_⟩, ⟨⟨Nat.le_refl _, rfl, by simp [rows, putTx], .inl rfl⟩, .inl rfl⟩, ⟨r3.tch t4 ?_, .inr ?_⟩, putTx_ok hv⟩, ((t1.trans t2 (by simp)).trans t3 (by simp)).trans t4 (by simp)⟩
  · intro x hx hm; cases hx; simp at hm; omega
  · intro x hx; cases hx; exact ⟨by show _ ≤ w1.heap.size; omega, by show w1.heap.size < _; omega⟩
  · intro x hx hm; cases hx; simp at hm; omega
  · intro x hx; cases hx; exact ⟨by show _ ≤ w3.heap.size; omega, by show w3.heap.size < _; omega⟩
def Sm (x : Tx) : Prop := x.args.length ≤ 100000 ∧ x.reads.length ≤ 100000 ∧ x.writes.length ≤ 100000
theorem sameTx_c {F G : Nat → Prop} (w : World) (u v : List Value) (x y : Tx) (hx : TxV F w u x) (hy : TxV G w v y) (hs : Sm x) :
    Calls Try.prog 55 #[.agg u.toArray, .agg v.toArray] w fun e w' => e = .returned (.bool (decide (x = y))) ∧ Tch [] w w' := by
  obtain ⟨a1, n1, c1, a2, n2, c2, a3, n3, c3, rfl, h1, h2, h3, hxo⟩ := hx
  obtain ⟨b1, m1, d1, b2, m2, d2, b3, m3, d3, rfl, g1, g2, g3, hyo⟩ := hy
  have e1 := args_count h1
  have e2 := keys_count h2
  have e3 := keys_count h3
  have f1 := args_count g1
  have f2 := keys_count g2
  have f3 := keys_count g3
  obtain ⟨s1, s2, s3⟩ := hs
  refine c55 _ _ ?_
  unfold d55
  rintro w2 rfl w3 rfl
  have hS := ((St.refl w []).new [.int .i64 x.proc, .slice a1 n1 c1, .slice a2 n2 c2, .slice a3 n3 c3] 39 rfl).new [.int .i64 y.proc, .slice b1 m1 d1, .slice b2 m2 d2, .slice b3 m3 d3] 39 rfl
  generalize (w.alloc (.cells [Value.int .i64 x.proc, .slice a1 n1 c1, .slice a2 n2 c2, .slice a3 n3 c3].toArray 39)).alloc (.cells [Value.int .i64 y.proc, .slice b1 m1 d1, .slice b2 m2 d2, .slice b3 m3 d3].toArray 39) = w3 at *
  generalize (w.alloc (.cells [Value.int .i64 x.proc, .slice a1 n1 c1, .slice a2 n2 c2, .slice a3 n3 c3].toArray 39)).heap.size = qb at *
  generalize w.heap.size = pb at *
  have cx : ∀ {u : World} (q : Nat), St w [] u [fBlk qb [.int .i64 y.proc, .slice b1 m1 d1, .slice b2 m2 d2, .slice b3 m3 d3], fBlk pb [.int .i64 x.proc, .slice a1 n1 c1, .slice a2 n2 c2, .slice a3 n3 c3]] → u.cell? (Addr.add ⟨pb, 0, none⟩ q) = ([.int .i64 x.proc, .slice a1 n1 c1, .slice a2 n2 c2, .slice a3 n3 c3] : List Value)[q]? := fun q hS => by
    rw [add_mk, Nat.zero_add]; exact (hS.blk (b := pb) (by simp)).cell q
  have cy : ∀ {u : World} (q : Nat), St w [] u [fBlk qb [.int .i64 y.proc, .slice b1 m1 d1, .slice b2 m2 d2, .slice b3 m3 d3], fBlk pb [.int .i64 x.proc, .slice a1 n1 c1, .slice a2 n2 c2, .slice a3 n3 c3]] → u.cell? (Addr.add ⟨qb, 0, none⟩ q) = ([.int .i64 y.proc, .slice b1 m1 d1, .slice b2 m2 d2, .slice b3 m3 d3] : List Value)[q]? := fun q hS => by
    rw [add_mk, Nat.zero_add]; exact (hS.blk (b := qb) (by simp)).cell q
  have no : ∀ {w' : World}, x ≠ y → Tch [] w w' → (Ending.returned (.bool false) = .returned (.bool (decide (x = y))) ∧ Tch [] w w') := fun h ht => ⟨by rw [decide_eq_false h], ht⟩
  refine ⟨fun u => x.proc = y.proc ∧ n1 = m1 ∧ n2 = m2 ∧ n3 = m3 ∧ u = w3, ?_, ?_⟩
  · refine ⟨x.proc, cx 0 hS, y.proc, cy 0 hS, ?_⟩
    by_cases hp : x.proc = y.proc
    rotate_left
    · rw [bif_nneg hp]; exact no (fun h => hp (by rw [h])) hS.tch
    rw [bif_npos hp]
    refine ⟨a1, n1, c1, cx 1 hS, b1, m1, d1, cy 1 hS, ?_⟩
    by_cases q1 : n1 = m1
    rotate_left
    · rw [bif_nneg (by omega)]; exact no (fun h => q1 (by rw [← e1, ← f1, h])) hS.tch
    rw [bif_npos (by omega)]
    refine ⟨a2, n2, c2, cx 2 hS, b2, m2, d2, cy 2 hS, ?_⟩
    by_cases q2 : n2 = m2
    rotate_left
    · rw [bif_nneg (by omega)]; exact no (fun h => q2 (by rw [← e2, ← f2, h])) hS.tch
    rw [bif_npos (by omega)]
    refine ⟨a3, n3, c3, cx 3 hS, b3, m3, d3, cy 3 hS, ?_⟩
    by_cases q3 : n3 = m3
    · rw [bif_npos (by omega)]; exact ⟨hp, q1, q2, q3, rfl⟩
    · rw [bif_nneg (by omega)]; exact no (fun h => q3 (by rw [← e3, ← f3, h])) hS.tch
  rintro w13 ⟨hp, rfl, rfl, rfl, rfl⟩
  have snoc : ∀ {α : Type} {l m : List α} {i : Nat}, l.take i = m.take i → l[i]? = m[i]? → l.take (i + 1) = m.take (i + 1) := fun h1 h2 => by
    rw [List.take_add_one, List.take_add_one, h1, h2]
  refine ⟨fun q k u => ∃ i : Nat, k = i ∧ i ≤ n1 ∧ q = n1 - i ∧ x.args.take i = y.args.take i ∧ St w [] u [fBlk qb [.int .i64 y.proc, .slice b1 n1 d1, .slice b2 n2 d2, .slice b3 n3 d3], fBlk pb [.int .i64 x.proc, .slice a1 n1 c1, .slice a2 n2 c2, .slice a3 n3 c3]], ⟨n1, 0, rfl, by omega, rfl, rfl, hS⟩, ?_⟩
  clear hS
  rintro q w16 k ⟨i, rfl, hi, rfl, htk, hS⟩
  refine ⟨a1, n1, c1, cx 1 hS, ?_⟩
  by_cases hlt : i < n1
  · rw [bif_pos (by omega)]
    rintro w19 rfl
    replace hS := hS.drew
    generalize w16.drew = w19 at *
    refine ⟨a1, n1, c1, cx 1 hS, by omega, by omega, ?_⟩
    rw [Int.toNat_natCast]
    obtain ⟨x1, o1, rfl, k1⟩ := (h1.tch hS.tch (by simp)).1.int (i := i) hlt
    obtain ⟨y1, p1, rfl, k2⟩ := (g1.tch hS.tch (by simp)).1.int (i := i) hlt
    show ∃ _, _
    rw [add_mk, Nat.mul_one]
    refine ⟨_, k1, _, n1, d1, cy 1 hS, by omega, by omega, ?_⟩
    show ∃ _, _
    refine ⟨_, by rw [add_mk]; exact k2, ?_⟩
    have w1 : x.args[i]? = some (x.args[i]'(by omega)) := List.getElem?_eq_getElem (by omega)
    have w2 : y.args[i]? = some (y.args[i]'(by omega)) := List.getElem?_eq_getElem (by omega)
    rw [List.getD_eq_getElem?_getD, List.getD_eq_getElem?_getD, w1, w2, Option.getD_some, Option.getD_some]
    by_cases hd : x.args[i]'(by omega) = y.args[i]'(by omega)
    · rw [bif_npos hd]
      exact ⟨n1 - (i + 1), by omega, i + 1, by rw [wrap_i64 (by omega) (by omega)]; omega, by omega, rfl, snoc htk (by rw [w1, w2, hd]), hS⟩
    · rw [bif_nneg hd]
      exact no (fun h => hd (by subst h; rfl)) hS.tch
  rw [bif_neg (by omega)]
  have ha : x.args = y.args := by
    rw [List.take_of_length_le (by omega), List.take_of_length_le (by omega)] at htk
    exact htk
  refine ⟨fun q k u => ∃ i : Nat, k = i ∧ i ≤ n2 ∧ q = n2 - i ∧ x.reads.take i = y.reads.take i ∧ St w [] u [fBlk qb [.int .i64 y.proc, .slice b1 n1 d1, .slice b2 n2 d2, .slice b3 n3 d3], fBlk pb [.int .i64 x.proc, .slice a1 n1 c1, .slice a2 n2 c2, .slice a3 n3 c3]], ⟨n2, 0, rfl, by omega, rfl, rfl, hS⟩, ?_⟩
  clear hS htk
  rintro q w29 k ⟨j, rfl, hj, rfl, htk, hS⟩
  refine ⟨a2, n2, c2, cx 2 hS, ?_⟩
  by_cases hlt : j < n2
  · rw [bif_pos (by omega)]
    rintro w32 rfl
    replace hS := hS.drew
    generalize w29.drew = w32 at *
    refine ⟨a2, n2, c2, cx 2 hS, by omega, by omega, ?_⟩
    rw [Int.toNat_natCast]
    have w1 : x.reads[j]? = some (x.reads[j]'(by omega)) := List.getElem?_eq_getElem (by omega)
    have w2 : y.reads[j]? = some (y.reads[j]'(by omega)) := List.getElem?_eq_getElem (by omega)
    refine (h2.tch hS.tch (by simp)).1.elem kC_len (by omega) w1 ?_
    refine ⟨b2, n2, d2, cy 2 hS, by omega, by omega, ?_⟩
    refine (g2.tch hS.tch (by simp)).1.elem kC_len (by omega) w2 ?_
    refine neq_flat_d key_flat key_eqT (key_fits (hxo.reads _ (List.mem_of_getElem? w1))) (key_fits (hyo.reads _ (List.mem_of_getElem? w2))) kC_inj ?_
    by_cases hd : x.reads[j]'(by omega) = y.reads[j]'(by omega)
    · rw [bif_npos hd]
      exact ⟨n2 - (j + 1), by omega, j + 1, by rw [wrap_i64 (by omega) (by omega)]; omega, by omega, rfl, snoc htk (by rw [w1, w2, hd]), hS⟩
    · rw [bif_nneg hd]
      exact no (fun h => hd (by subst h; rfl)) hS.tch
  rw [bif_neg (by omega)]
  have hr : x.reads = y.reads := by
    rw [List.take_of_length_le (by omega), List.take_of_length_le (by omega)] at htk
    exact htk
  refine ⟨fun q k u => ∃ i : Nat, k = i ∧ i ≤ n3 ∧ q = n3 - i ∧ x.writes.take i = y.writes.take i ∧ St w [] u [fBlk qb [.int .i64 y.proc, .slice b1 n1 d1, .slice b2 n2 d2, .slice b3 n3 d3], fBlk pb [.int .i64 x.proc, .slice a1 n1 c1, .slice a2 n2 c2, .slice a3 n3 c3]], ⟨n3, 0, rfl, by omega, rfl, rfl, hS⟩, ?_⟩
  clear hS htk
  rintro q w43 k ⟨t, rfl, ht, rfl, htk, hS⟩
  refine ⟨a3, n3, c3, cx 3 hS, ?_⟩
  by_cases hlt : t < n3
  · rw [bif_pos (by omega)]
    rintro w46 rfl
    replace hS := hS.drew
    generalize w43.drew = w46 at *
    refine ⟨a3, n3, c3, cx 3 hS, by omega, by omega, ?_⟩
    rw [Int.toNat_natCast]
    have w1 : x.writes[t]? = some (x.writes[t]'(by omega)) := List.getElem?_eq_getElem (by omega)
    have w2 : y.writes[t]? = some (y.writes[t]'(by omega)) := List.getElem?_eq_getElem (by omega)
    refine (h3.tch hS.tch (by simp)).1.elem kC_len (by omega) w1 ?_
    refine ⟨b3, n3, d3, cy 3 hS, by omega, by omega, ?_⟩
    refine (g3.tch hS.tch (by simp)).1.elem kC_len (by omega) w2 ?_
    refine neq_flat_d key_flat key_eqT (key_fits (hxo.writes _ (List.mem_of_getElem? w1))) (key_fits (hyo.writes _ (List.mem_of_getElem? w2))) kC_inj ?_
    by_cases hd : x.writes[t]'(by omega) = y.writes[t]'(by omega)
    · rw [bif_npos hd]
      exact ⟨n3 - (t + 1), by omega, t + 1, by rw [wrap_i64 (by omega) (by omega)]; omega, by omega, rfl, snoc htk (by rw [w1, w2, hd]), hS⟩
    · rw [bif_nneg hd]
      exact no (fun h => hd (by subst h; rfl)) hS.tch
  rw [bif_neg (by omega)]
  have hw : x.writes = y.writes := by
    rw [List.take_of_length_le (by omega), List.take_of_length_le (by omega)] at htk
    exact htk
  refine ⟨?_, hS.tch⟩
  rw [decide_eq_true]
  cases x; cases y
  simp_all
def Smalls (l : List Tx) : Prop := l.length ≤ 100000 ∧ ∀ x ∈ l, Sm x
theorem sameBatch_c {F G : Nat → Prop} (w : World) (a b : Option Addr) (n c m mc : Nat) (l k : List Tx) (h : BatchV F w a n c l) (g : BatchV G w b m mc k) (hs : Smalls l) :
    Calls Try.prog 34 #[.slice a n c, .slice b m mc] w fun e w' => e = .returned (.bool (decide (l = k))) ∧ Tch [] w w' := by
  have hn := h.count
  have hm := g.count
  have hs0 := hs.1
  refine c34 _ _ _ _ _ _ ?_
  unfold d34
  by_cases he : n = m
  rotate_left
  · rw [bif_nneg (by omega)]
    exact ⟨by rw [decide_eq_false fun h => he (by rw [← hn, ← hm, h])], Tch.refl _ _⟩
  subst he
  rw [bif_npos rfl]
  refine ⟨fun q x u => ∃ i : Nat, x = i ∧ i ≤ n ∧ q = n - i ∧ l.take i = k.take i ∧ Tch [] w u, ⟨n, 0, rfl, by omega, rfl, rfl, Tch.refl _ _⟩, ?_⟩
  rintro q w4 x ⟨i, rfl, hi, rfl, htk, ht⟩
  by_cases hlt : i < n
  · rw [bif_pos (by omega)]
    rintro w6 rfl
    replace ht := ht.drew
    generalize w4.drew = w6 at *
    refine ⟨by omega, by omega, ?_⟩
    rw [Int.toNat_natCast]
    have w1 : l[i]? = some (l[i]'(by omega)) := List.getElem?_eq_getElem (by omega)
    have w2 : k[i]? = some (k[i]'(by omega)) := List.getElem?_eq_getElem (by omega)
    refine h.elemW ht w1 fun u hu => ?_
    refine ⟨by omega, by omega, ?_⟩
    refine g.elemW ht w2 fun v hv => ?_
    refine (sameTx_c w6 u v _ _ (hu.quiet ht) (hv.quiet ht) (hs.2 _ (List.mem_of_getElem? w1))).mono ?_
    rintro e w12 ⟨rfl, ht2⟩
    refine ⟨_, rfl, ?_⟩
    replace ht := ht.trans ht2 (by simp)
    by_cases hd : l[i]'(by omega) = k[i]'(by omega)
    · rw [bif_npos hd]
      refine ⟨n - (i + 1), by omega, i + 1, by rw [wrap_i64 (by omega) (by omega)]; omega, by omega, rfl, ?_, ht⟩
      rw [List.take_add_one, List.take_add_one, htk, w1, w2, hd]
    · rw [bif_nneg hd]
      exact ⟨by rw [decide_eq_false fun h => hd (by subst h; rfl)], ht⟩
  · rw [bif_neg (by omega)]
    rw [List.take_of_length_le (by omega), List.take_of_length_le (by omega)] at htk
    exact ⟨by rw [decide_eq_true htk], ht⟩
end Go.Proofs.Ytjchneebdlncfaa.Mrg
