/-
  ARGUMENTS OF THE TREES' LAWS: rows, keys, numbers, opened.
  TREES OVER ROWS: their nodes, texts, proofs (plain functions).
  TREES OVER ROWS: Rows: its contract.
  TREES OVER ROWS: Diff: its contract.
  THE REFERENCE'S DIFFERENCES: put, Sort, at, Diff: contracts.
  WORDS FOR CONTRACTS: copy of elements of any size.
  THE LAWS' HELPERS: few, set, lent, sameChanges: contracts.
  Own work. No macro, syntax, notation, axiom.
-/
import Derived.Test.YtjkbjppopdfggaaDoorTruPk7
import Derived.Test.YtjkbjppopdfggaaDoorTruPk12
import Derived.Laws.CopyRow
import Derived.Laws.AppendOwn
namespace Go.Proofs.YtjkbjppopdfggaaDoor.Tre
open Go Den Fn Sha
open Go.ChangeShapes Go.WideShapes Go.ChangeAt Go.RowKit
section
variable {H : Type} {enc : TypeId × Value → H} {P : Program}
/-- A slice. -/
theorem open_slR {t e : TypeId} {k : List CK} (ht : P.underlying t = some (.slice e)) (hs : shT P 6 t = some [.sl k]) {W : World} {base : Nat} {v : Value} {x : DataW H} {ps : List MemPlace} (hval : Value.okWide P W .any base t v) (hd : DataW.Trod enc P W 0 (fun _ => true) true t v x ps) : RepV W 6 (.sl k) v := by
  obtain ⟨a, n, c, rfl⟩ := okWide_slice ht hval
  obtain ⟨m, hm⟩ := hd
  exact (open_rep 6 m t _ hs [.slice a n c] _ (by simpa [Value.cells] using hm)).1
end
theorem uRows : Tryd.prog.underlying 55 = some (.slice 31) := by kernel_rfl
theorem rowsShape : shT Tryd.prog 6 55 = some [.sl [.int .i64, .int .i64, .int .i64]] := by kernel_rfl
theorem rows_rows {W : World} {d : Nat} : ∀ {rs : List (List Value)}, (∀ r ∈ rs, RepR W d [.int .i64, .int .i64, .int .i64] r) → ∃ l : List Rw, rs.flatten = rows rwC l ∧ ∀ x ∈ l, x.wf
  | [], _ => ⟨[], rfl, by simp⟩
  | r :: rs, h => by
    obtain ⟨l, h1, h2⟩ := rows_rows fun x hx => h x (List.mem_cons_of_mem _ hx)
    obtain ⟨v1, vs, rfl, g1, g⟩ := (h r (by simp)).cons
    obtain ⟨v2, vs, rfl, g2, g⟩ := g.cons
    obtain ⟨v3, vs, rfl, g3, g⟩ := g.cons
    obtain rfl := g.nil
    obtain ⟨t, rfl, ht⟩ := g1.int
    obtain ⟨r, rfl, hr⟩ := g2.int
    obtain ⟨v, rfl, hv⟩ := g3.int
    refine ⟨⟨t, r, v⟩ :: l, by rw [List.flatten_cons, h1, rows_cons], fun x hx => ?_⟩
    rcases List.mem_cons.1 hx with rfl | hx
    · exact ⟨i64_wf.1 ht, i64_wf.1 hr, i64_wf.1 hv⟩
    · exact h2 x hx
/-- Rows that come in. -/
theorem rows_open {W : World} {d : Nat} {v : Value} (h : RepV W d (.sl [.int .i64, .int .i64, .int .i64]) v) : ∃ (a : Option Addr) (n c : Nat) (l : List Rw), v = .slice a n c ∧ RSl W 3 a n c (rows rwC l) ∧ ∀ x ∈ l, x.wf := by
  obtain ⟨d', a, n, c, rs, rfl, rfl, hn, hc, hr, hrs⟩ := h.sl
  obtain ⟨l, h1, h2⟩ := rows_rows hrs
  rw [h1] at hr
  exact ⟨a, n, c, l, rfl, by simpa using hr, h2⟩
end Go.Proofs.YtjkbjppopdfggaaDoor.Tre
namespace Go.Proofs.YtjkbjppopdfggaaDoor.Tre
open Go Den Fn Sha
open Go.RowKit (Below)
open Classical
set_option maxRecDepth 8000
set_option maxHeartbeats 2000000
def Tr.node : Tr → Nd
  | .leaf x => ⟨1, 0, z32, z32, x.t, x.r, x.v⟩
  | .fork n l r => ⟨2, (n : Int), l.sum, r.sum, 0, 0, 0⟩
/-- All parts, the top first, the left ones ahead of the right ones. -/
def Tr.subs : Tr → List Tr
  | .leaf x => [.leaf x]
  | .fork n l r => .fork n l r :: (l.subs ++ r.subs)
abbrev Tr.nodes (t : Tr) : List Nd := t.subs.map Tr.node
def Tr.text : Tr → List Int
  | .leaf x => leafT x.t x.r x.v
  | .fork n l r => forkT (n : Int) l.sum r.sum
theorem Tr.sum_text (t : Tr) : t.sum = sha t.text := by cases t <;> rfl
def Tr.ok : Tr → Prop
  | .leaf x => x.ok
  | .fork n l r => n < 80 ∧ l.ok ∧ r.ok
theorem Tr.subs_self (t : Tr) : t ∈ t.subs := by cases t <;> simp [Tr.subs]
theorem Tr.subs_pos (t : Tr) : ∃ l, t.subs = t :: l := by cases t <;> exact ⟨_, rfl⟩
theorem Tr.subs_ok : ∀ {t : Tr}, t.ok → ∀ s ∈ t.subs, s.ok
  | .leaf x, h, s, hs => by simp [Tr.subs] at hs; rw [hs]; exact h
  | .fork n l r, h, s, hs => by
    rcases List.mem_cons.1 hs with rfl | hs
    · exact h
    · rcases List.mem_append.1 hs with hs | hs
      · exact Tr.subs_ok h.2.1 s hs
      · exact Tr.subs_ok h.2.2 s hs
theorem i64_n {n : Nat} (h : n < 80) : Sha.I64 (n : Int) := by unfold Sha.I64; omega
theorem i64_k1 : Sha.I64 1 := by unfold Sha.I64; decide
theorem i64_k2 : Sha.I64 2 := by unfold Sha.I64; decide
theorem Tr.node_ok {t : Tr} (h : t.ok) : t.node.ok := by
  cases t with
  | leaf x => exact ⟨rfl, rfl, z32_bytes, z32_bytes, i64_k1, i64_0, h.t, h.r, h.v⟩
  | fork n l r => exact ⟨l.sum_len, r.sum_len, l.sum_bytes, r.sum_bytes, i64_k2, i64_n h.1, i64_0, i64_0, i64_0⟩
theorem Tr.of_node {t : Tr} (h : t.ok) : ofS t.node = (t.sum, 0) := by
  cases t with
  | leaf x =>
    unfold ofS
    rw [if_neg (by simp [Tr.node]), if_pos ⟨rfl, rfl, rfl, rfl, h.key⟩]
    rfl
  | fork n l r =>
    unfold ofS
    rw [if_neg (by simp [Tr.node]), if_neg (by simp [Tr.node]), if_pos ⟨rfl, ⟨rfl, rfl, rfl⟩, by show (0 : Int) ≤ (n : Int); omega, by show (n : Int) < 80; have := h.1; omega⟩]
    rfl
theorem Tr.text_node {t : Tr} (h : t.ok) : textS t.node = some t.text := by
  cases t with
  | leaf x =>
    unfold textS
    rw [if_neg (by simp [Tr.node]), if_pos (by rfl), if_pos ⟨⟨rfl, rfl⟩, rfl, h.key⟩]
    rfl
  | fork n l r =>
    unfold textS
    rw [if_neg (by simp [Tr.node]), if_neg (by simp [Tr.node]), if_pos (by rfl), if_pos ⟨⟨rfl, rfl, rfl⟩, by show (0 : Int) ≤ (n : Int); omega, by show (n : Int) < 80; have := h.1; omega⟩]
    rfl
/-- A text is one node's. -/
theorem leafT_inj {x y : Rw} (hx : x.ok) (hy : y.ok) (h : leafT x.t x.r x.v = leafT y.t y.r y.v) : x = y := by
  unfold leafT at h
  have h1 := List.append_inj h (by simp [Sha.keyB_length])
  have h2 := List.append_inj h1.1 rfl
  have hk := congrArg val h2.2
  have hv := congrArg Lib.beU h1.2
  have e1 : val (Sha.keyB x.t x.r) = _ := val_key hx.key hx.r
  have e2 : val (Sha.keyB y.t y.r) = _ := val_key hy.key hy.r
  have u1 : 0 ≤ IntKind.wrap .u64 x.v ∧ IntKind.wrap .u64 x.v < 18446744073709551616 := by rw [wrap_u64_eq]; omega
  have u2 : 0 ≤ IntKind.wrap .u64 y.v ∧ IntKind.wrap .u64 y.v < 18446744073709551616 := by rw [wrap_u64_eq]; omega
  have v1 : Lib.beU (Sha.be8 (IntKind.wrap .u64 x.v)) = _ := Lib.beU_be8 u1.1 u1.2
  have v2 : Lib.beU (Sha.be8 (IntKind.wrap .u64 y.v)) = _ := Lib.beU_be8 u2.1 u2.2
  rw [v1, v2, wrap_u64_eq, wrap_u64_eq] at hv
  rw [e1, e2] at hk
  have a1 := hx.r
  have a2 := hy.r
  have a3 := hx.v
  have a4 := hy.v
  unfold Sha.I64 at a1 a2 a3 a4
  have : x.t = y.t ∧ x.r = y.r ∧ x.v = y.v := by omega
  obtain ⟨xt, xr, xv⟩ := x
  obtain ⟨yt, yr, yv⟩ := y
  obtain ⟨rfl, rfl, rfl⟩ := this
  rfl
/-! ### The tree over rows, and its fuel -/
theorem treeS_fuel : ∀ {k m : Nat} {l : List Rw}, l.length ≤ k → l.length ≤ m → 1 ≤ l.length → RowsOk l → treeS k l = treeS m l
  | 0, m, l, h1, _, h3, _ => by omega
  | k + 1, 0, l, _, h2, h3, _ => by omega
  | k + 1, m + 1, l, h1, h2, h3, h => by
    unfold treeS
    by_cases e : l.length = 1
    · rw [if_pos e, if_pos e]
    · rw [if_neg e, if_neg e]
      obtain ⟨g1, g2, _⟩ := (partBit_ok h (by omega)).at
      rw [treeS_fuel (k := k) (m := m) (by rw [List.length_take]; omega) (by rw [List.length_take]; omega) (by rw [List.length_take]; omega) (h.take _), treeS_fuel (k := k) (m := m) (by rw [List.length_drop]; omega) (by rw [List.length_drop]; omega) (by rw [List.length_drop]; omega) (h.drop _)]
noncomputable def treeT (l : List Rw) : Tr := treeS l.length l
theorem treeT_one (x : Rw) : treeT [x] = .leaf x := by
  show treeS (0 + 1) [x] = _
  rw [treeS, if_pos (by rfl)]; rfl
theorem treeT_two {l : List Rw} (h : RowsOk l) (h2 : 2 ≤ l.length) : treeT l = .fork (partBit l) (treeT (l.take (partAt l (partBit l)))) (treeT (l.drop (partAt l (partBit l)))) := by
  obtain ⟨g1, g2, _⟩ := (partBit_ok h h2).at
  unfold treeT
  obtain ⟨k, hk⟩ : ∃ k, l.length = k + 1 := ⟨l.length - 1, by omega⟩
  rw [hk, treeS, if_neg (by omega)]
  rw [treeS_fuel (k := k) (m := (l.take (partAt l (partBit l))).length) (by rw [List.length_take]; omega) (Nat.le_refl _) (by rw [List.length_take]; omega) (h.take _), treeS_fuel (k := k) (m := (l.drop (partAt l (partBit l))).length) (by rw [List.length_drop]; omega) (Nat.le_refl _) (by rw [List.length_drop]; omega) (h.drop _)]
theorem treeT_ok : ∀ {k : Nat} {l : List Rw}, l.length ≤ k → 1 ≤ l.length → RowsOk l → (treeT l).ok
  | 0, l, h1, h2, _ => by omega
  | k + 1, l, h1, h2, h => by
    by_cases e : l.length = 1
    · obtain ⟨x, rfl⟩ := List.length_eq_one_iff.1 e
      rw [treeT_one]
      exact h.ok x (by simp)
    · obtain ⟨g1, g2, g3⟩ := (partBit_ok h (by omega)).at
      rw [treeT_two h (by omega)]
      exact ⟨g3, treeT_ok (k := k) (by rw [List.length_take]; omega) (by rw [List.length_take]; omega) (h.take _), treeT_ok (k := k) (by rw [List.length_drop]; omega) (by rw [List.length_drop]; omega) (h.drop _)⟩
/-! ### What the nodes' map holds -/
theorem map_u8_inj {x y : List Int} (h : u8 x = u8 y) : x = y := (List.map_inj_right (fun a b h => by cases h; rfl)).1 h
theorem mGet_put {k k' : List Value} {v : Value} : ∀ {es : Ents}, mGet (mPut es k v) k' = if k = k' then some v else mGet es k'
  | [] => rfl
  | e :: r => by
    unfold mPut
    by_cases h : e.1 = k
    · rw [if_pos h]
      unfold mGet
      by_cases h2 : k = k'
      · rw [if_pos h2, if_pos h2]
      · rw [if_neg h2, if_neg h2, if_neg (by rw [h]; exact h2)]
    · rw [if_neg h]
      show (if e.1 = k' then some e.2 else mGet (mPut r k v) k') = _
      rw [mGet_put]
      show _ = if k = k' then some v else if e.1 = k' then some e.2 else mGet r k'
      by_cases h2 : k = k'
      · rw [if_pos h2, if_neg (by rw [← h2]; exact h)]
        rw [if_pos h2]
      · rw [if_neg h2, if_neg h2]
theorem insE_get {k : List Value} : ∀ {L : List (List Int × Value)} {es : Ents}, (∀ v, mGet (insE es L) k = some v → (∃ q ∈ L, u8 q.1 = k ∧ q.2 = v) ∨ mGet es k = some v) ∧ (mGet (insE es L) k = none → (∀ q ∈ L, u8 q.1 ≠ k) ∧ mGet es k = none)
  | [], es => ⟨fun v h => .inr h, fun h => ⟨by simp, h⟩⟩
  | q :: L, es => by
    obtain ⟨h1, h2⟩ := insE_get (k := k) (L := L) (es := mPut es (u8 q.1) q.2)
    constructor
    · intro v h
      rcases h1 v h with ⟨p, hp, h3⟩ | h3
      · exact .inl ⟨p, by simp [hp], h3⟩
      · rw [mGet_put] at h3
        split at h3
        · rename_i he
          cases h3
          exact .inl ⟨q, by simp, he, rfl⟩
        · exact .inr h3
    · intro h
      obtain ⟨h3, h4⟩ := h2 h
      rw [mGet_put] at h4
      split at h4
      · cases h4
      · rename_i he
        refine ⟨fun p hp => ?_, h4⟩
        rcases List.mem_cons.1 hp with rfl | hp
        · exact he
        · exact h3 p hp
theorem PartAt.entry {F : Nat → Prop} {w : World} : ∀ {tr : Tr} {v : Value} {L : List (List Int × Value)}, PartAt F w v tr L → ∀ q ∈ L, ∃ s ∈ tr.subs, s.sum = q.1 ∧ ∃ Ls, PartAt F w q.2 s Ls
  | .leaf x, v, L, h => fun q hq => by
    obtain ⟨b, h1, h2, h3, h4⟩ := id h
    rw [h4, List.mem_singleton] at hq
    rw [hq]
    exact ⟨_, Tr.subs_self _, rfl, L, h⟩
  | .fork n l r, v, L, h => fun q hq => by
    obtain ⟨b, vl, vr, Ll, Lr, h1, h2, h3, hl, hr, h4⟩ := id h
    rw [h4] at hq
    rcases List.mem_append.1 hq with hq | hq
    · rcases List.mem_append.1 hq with hq | hq
      · obtain ⟨s, g1, g2⟩ := PartAt.entry hl q hq
        exact ⟨s, by simp [Tr.subs, g1], g2⟩
      · obtain ⟨s, g1, g2⟩ := PartAt.entry hr q hq
        exact ⟨s, by simp [Tr.subs, g1], g2⟩
    · rw [List.mem_singleton] at hq
      rw [hq]
      exact ⟨_, Tr.subs_self _, rfl, L, h⟩
theorem PartAt.all {F : Nat → Prop} {w : World} : ∀ {tr : Tr} {v : Value} {L : List (List Int × Value)}, PartAt F w v tr L → ∀ s ∈ tr.subs, ∃ q ∈ L, q.1 = s.sum
  | .leaf x, v, L, ⟨b, h1, h2, h3, h4⟩ => fun s hs => by
    simp [Tr.subs] at hs
    rw [hs, h4]
    exact ⟨_, List.mem_singleton_self _, rfl⟩
  | .fork n l r, v, L, ⟨b, vl, vr, Ll, Lr, h1, h2, h3, hl, hr, h4⟩ => fun s hs => by
    rw [h4]
    rcases List.mem_cons.1 hs with rfl | hs
    · exact ⟨_, List.mem_append_right _ (List.mem_singleton_self _), rfl⟩
    · rcases List.mem_append.1 hs with hs | hs
      · obtain ⟨q, g1, g2⟩ := PartAt.all hl s hs
        exact ⟨q, by simp [g1], g2⟩
      · obtain ⟨q, g1, g2⟩ := PartAt.all hr s hs
        exact ⟨q, by simp [g1], g2⟩
/-- What a digest leads to. -/
theorem PartAt.look {F : Nat → Prop} {w : World} {tr : Tr} {v : Value} {L : List (List Int × Value)} (h : PartAt F w v tr L) (d : List Int) :
    (mGet (insE [] L) (u8 d) = none ∧ ∀ s ∈ tr.subs, s.sum ≠ d) ∨ ∃ v', mGet (insE [] L) (u8 d) = some v' ∧ ∃ s ∈ tr.subs, s.sum = d ∧ ∃ Ls, PartAt F w v' s Ls := by
  obtain ⟨h1, h2⟩ := insE_get (k := u8 d) (L := L) (es := [])
  cases hg : mGet (insE [] L) (u8 d) with
  | none =>
    refine .inl ⟨rfl, fun s hs he => ?_⟩
    obtain ⟨q, hq, hqs⟩ := h.all s hs
    exact (h2 hg).1 q hq (by rw [hqs, he])
  | some v' =>
    rcases h1 v' hg with ⟨q, hq, hk, rfl⟩ | h3
    · obtain ⟨s, g1, g2, g3⟩ := h.entry q hq
      exact .inr ⟨_, rfl, s, g1, by rw [g2]; exact map_u8_inj hk, g3⟩
    · cases h3
/-! ### Proofs -/
noncomputable def proveS (kb : List Int) : Tr → List Fk × Rw
  | .leaf x => ([], x)
  | .fork n l r => if bitS kb (n : Int) = 0 then (⟨(n : Int), r.sum⟩ :: (proveS kb l).1, (proveS kb l).2) else (⟨(n : Int), l.sum⟩ :: (proveS kb r).1, (proveS kb r).2)
noncomputable def proofS (kb : List Int) (l : List Rw) : Pf := if l = [] then ⟨[], false, 0, 0, 0⟩ else ⟨(proveS kb (treeT l)).1, true, (proveS kb (treeT l)).2.t, (proveS kb (treeT l)).2.r, (proveS kb (treeT l)).2.v⟩
theorem proveS_ok {kb : List Int} : ∀ {t : Tr}, t.ok → (∀ f ∈ (proveS kb t).1, f.ok ∧ Rk f.bit) ∧ (proveS kb t).2.ok ∧ (proveS kb t).1.length < t.rows.length
  | .leaf x, h => ⟨by simp [proveS], h, by simp [proveS, Tr.rows]⟩
  | .fork n l r, h => by
    obtain ⟨a1, a2, a3⟩ := proveS_ok (kb := kb) h.2.1
    obtain ⟨b1, b2, b3⟩ := proveS_ok (kb := kb) h.2.2
    have hn := h.1
    unfold proveS
    have hlen : (Tr.fork n l r).rows.length = l.rows.length + r.rows.length := by show (l.rows ++ r.rows).length = _; rw [List.length_append]
    split
    · refine ⟨fun f hf => ?_, a2, by simp only [List.length_cons]; omega⟩
      rcases List.mem_cons.1 hf with rfl | hf
      · exact ⟨⟨i64_n hn, r.sum_len, r.sum_bytes⟩, ⟨by show (0 : Int) ≤ (n : Int); omega, by show (n : Int) < 80; omega⟩⟩
      · exact a1 f hf
    · refine ⟨fun f hf => ?_, b2, by simp only [List.length_cons]; omega⟩
      rcases List.mem_cons.1 hf with rfl | hf
      · exact ⟨⟨i64_n hn, l.sum_len, l.sum_bytes⟩, ⟨by show (0 : Int) ≤ (n : Int); omega, by show (n : Int) < 80; omega⟩⟩
      · exact b1 f hf
end Go.Proofs.YtjkbjppopdfggaaDoor.Tre
namespace Go.Proofs.YtjkbjppopdfggaaDoor.Tre
open Go Den Fn Sha
open Go.RowKit (Below)
open Classical
set_option maxRecDepth 8000
set_option maxHeartbeats 4000000
/-- rows, through the interface. -/
theorem rows_k {F : Nat → Prop} : ∀ (tr : Tr) {w : World} {v : Value} {L : List (List Int × Value)} (_ : PartAt F w v tr L) {B : Nat} {x : Option Addr} {k c : Nat} {xs : List Value} (_ : w.ownsRow B 31 3 (.slice x k c) k xs) (_ : B ≤ w.heap.size) (_ : ∀ z, F z → z < B) (_ : k + tr.rows.length ≤ 2000000000000)
    {K : Option Addr → Nat → Nat → World → Prop} (_ : ∀ x' c' w', w'.ownsRow B 31 3 (.slice x' (k + tr.rows.length) c') (k + tr.rows.length) (xs ++ rows rwC tr.rows) → Tch (rowL x) w w' → Moved x x' w.heap.size → K x' (k + tr.rows.length) c' w'),
    ∃ t u g r, v = .iface t u ∧ Sem.run Tryd.prog (method (Tryd.prog.types.size + Made.depth) t u "prelude/proof.rows") w = .ok (g, r) w ∧ HasBody Tryd.prog g ∧ Calls Tryd.prog g (#[r] ++ #[.slice x k c]) w fun e w' => ∃ (y : Option Addr) (yn : Nat) (yc : Nat), e = .returned (.slice y yn yc) ∧ K y yn yc w'
  | .leaf y, w, v, L, h, B, x, k, c, xs, ho, hB, hF, hk, K, hK => by
    obtain ⟨b, rfl, _, hb, _⟩ := h
    refine ⟨_, _, _, _, rfl, mLeafRows _ w, hasBody_spec (by kernel_rfl), ?_⟩
    show Calls _ _ #[.pointer (some ⟨b, 0, none⟩), .slice x k c] w _
    refine c111 _ _ _ _ ?_
    unfold d111
    refine get_part hb 0 3 (rwC y) rfl rfl ?_
    have hk' : k + 1 ≤ 2000000000000 := hk
    refine app_elem_at rsT ho (by rw [zcRow]; rfl) (ys := rwC y) rfl rfl rwC_one hB (by omega) (by omega) fun a5 c5 w7 o5 t5 m5 => ?_
    exact ⟨_, _, _, rfl, hK a5 c5 w7 (by rw [show (Tr.leaf y).rows = [y] from rfl, rows_one]; exact o5) t5 m5⟩
  | .fork n l r, w, v, L, h, B, x, k, c, xs, ho, hB, hF, hk, K, hK => by
    obtain ⟨b, vl, vr, Ll, Lr, rfl, hbF, hb, hl, hr, _⟩ := h
    refine ⟨_, _, _, _, rfl, mForkRows _ w, hasBody_spec (by kernel_rfl), ?_⟩
    show Calls _ _ #[.pointer (some ⟨b, 0, none⟩), .slice x k c] w _
    refine c115 _ _ _ _ ?_
    unfold d115
    rintro w2 rfl
    have ht := (Tch.refl [] w).drew
    have s2 : w.drew.heap.size = w.heap.size := rfl
    generalize w.drew = w2 at *
    replace hb := hb.tch ht (by simp)
    replace hl := hl.tch ht (by simp)
    replace hr := hr.tch ht (by simp)
    replace ho := own_up ho ht (fun _ _ h => by cases h)
    have hlen : (Tr.fork n l r).rows.length = l.rows.length + r.rows.length := by show (l.rows ++ r.rows).length = _; rw [List.length_append]
    refine ⟨vr, by rw [add_mk]; exact hb.cell 2, vl, by rw [add_mk]; exact hb.cell 1, ?_⟩
    have hnc : isNilV vr = some false ∧ (∀ n f c, vr ≠ .func (.method n) f c) := by obtain ⟨q, h | h⟩ := hr.shape <;> rw [h] <;> exact ⟨rfl, by intros; simp⟩
    have hvr : ∀ {K : Value → Prop}, K vr → ncK vr K := fun {K} hK => by
      obtain ⟨q, h | h⟩ := hr.shape <;> rw [h] at hnc hK ⊢ <;> exact ⟨hnc.1, hnc.2, hK⟩
    refine hvr ?_
    refine rows_k l hl ho (by omega) hF (by omega) fun x' c' w13 o13 t13 m13 => ?_
    have hoff : ∀ z ∈ rowL x, ¬ F z := fun z hz hf => by
      rw [mem_rowL] at hz
      obtain ⟨q, hq, rfl⟩ := hz
      have := (own_ge ho q hq).1
      have := hF _ hf
      omega
    replace hb := hb.tch t13 (fun hm => hoff _ hm hbF)
    replace hr := hr.tch t13 hoff
    have s13 := t13.size
    refine ⟨⟨vr, by rw [add_mk]; exact hb.cell 2, rfl, rfl⟩, ?_⟩
    refine rows_k r hr o13 (by omega) hF (by omega) fun y c2 w21 o21 t21 m21 => ?_
    refine ⟨y, _, c2, rfl, ?_⟩
    have e1 : k + l.rows.length + r.rows.length = k + (Tr.fork n l r).rows.length := by omega
    have e2 : xs ++ rows rwC l.rows ++ rows rwC r.rows = xs ++ rows rwC (Tr.fork n l r).rows := by
      show _ = xs ++ rows rwC (l.rows ++ r.rows)
      rw [rows_append, List.append_assoc]
    rw [e1, e2] at o21
    rw [e1]
    refine hK y c2 w21 o21 ((ht.weaken (t := rowL x) (by simp)).trans (t13.trans t21 fun i hi => ?_) (fun i hi => .inl hi)) ?_
    · rw [mem_rowL] at hi
      obtain ⟨q, hq, rfl⟩ := hi
      exact m13 q hq
    · rw [← s2]
      exact m13.trans m21 s13
theorem rows_c {F : Nat → Prop} (w : World) (tb : Nat) (l : List Rw) (h : TreeAt F w tb l) (hR : RowsOk l) (hF : ∀ z, F z → z < w.heap.size) (hN : l.length ≤ 1000000000000) :
    Calls Tryd.prog 31 #[.pointer (some ⟨tb, 0, none⟩)] w fun e w' => ∃ a c, e = .returned (.slice a l.length c) ∧ w'.ownsRow w.heap.size 31 3 (.slice a l.length c) l.length (rows rwC l) ∧ Tch [] w w' := by
  obtain ⟨pb, v, L, _, _, _, hb, _, h⟩ := h
  refine c31 _ ?_
  unfold d31
  refine ⟨v, by rw [add_mk]; exact hb.cell 0, ?_⟩
  rcases h with ⟨rfl, rfl, _⟩ | ⟨hne, hp⟩
  · exact ⟨none, 0, rfl, own_nil _ _ _ _, Tch.refl _ _⟩
  have hnq : ∀ {K : Bool → Prop}, K false → nilQ 4 v K := fun {K} hK => by
    obtain ⟨q, h | h⟩ := hp.shape <;> rw [h] <;> exact hK
  refine hnq ?_
  refine ⟨v, by rw [add_mk]; exact hb.cell 0, ?_⟩
  have hrw : (treeS l.length l).rows = l := treeS_rows (Nat.le_refl _) (List.length_pos_iff.2 hne) hR
  refine rows_k _ hp (own_nil w w.heap.size _ _) (Nat.le_refl _) hF (by rw [hrw]; omega) fun x' c' w' ho ht hm => ?_
  rw [hrw, List.nil_append, Nat.zero_add] at *
  exact ⟨x', c', rfl, ho, ht⟩
end Go.Proofs.YtjkbjppopdfggaaDoor.Tre
namespace Go.Proofs.YtjkbjppopdfggaaDoor.Tre
open Go Den Fn Sha
open Go.RowKit (Below)
open Classical
set_option maxRecDepth 8000
set_option maxHeartbeats 4000000
abbrev chC (c : Chg) : List Value := [.int .i64 c.k.1, .int .i64 c.k.2, .bool c.was.1, .int .i64 c.was.2, .bool c.is.1, .int .i64 c.is.2]
abbrev ceC (c : Bool × Int) : List Value := [.bool c.1, .int .i64 c.2]
theorem chC_len {l : List Chg} : ∀ x ∈ l, (chC x).length = 6 := fun _ _ => rfl
theorem chC_one {x : Chg} : ∀ u ∈ chC x, one u = true := by simp [one]
theorem chT : slT Tryd.prog 60 65 6 48 = true := by kernel_rfl
theorem zcChg : zc Tryd.prog 65 = chC ⟨(0, 0), no, no⟩ := by kernel_rfl
theorem zcCell : zc Tryd.prog 45 = ceC no := by kernel_rfl
theorem ce_flat : flatK Tryd.prog 6 45 = some [.bool, .int .i64] := by kernel_rfl
theorem ce_eqT : eqT Tryd.prog 6 45 = true := by kernel_rfl
theorem ce_fits {c : Bool × Int} (h : Sha.I64 c.2) : Fits [.bool, .int .i64] (ceC c) := ⟨trivial, ⟨rfl, Lib.i64_wf.2 h⟩, trivial⟩
theorem ceC_inj {a b : Bool × Int} : ceC a = ceC b ↔ a = b := by
  obtain ⟨a1, a2⟩ := a
  obtain ⟨b1, b2⟩ := b
  simp
/-- A row's fields are read. -/
theorem row_at {u : World} {a : Option Addr} {n c : Nat} {l : List Rw} (hr : RSl u 3 a n c (rows rwC l)) {i : Nat} {x : Rw} (hx : l[i]? = some x) : ∃ b o, a = some ⟨b, o, none⟩ ∧ Cells u (Addr.add (Addr.add ⟨b, o, none⟩ (i * 3)) 0) (Lib.kC x.k) ∧ u.cell? (Addr.add (Addr.add ⟨b, o, none⟩ (i * 3)) 2) = some (.int .i64 x.v) := by
  obtain ⟨b, o, h1, h2⟩ := hr.elem' rwC_len (by omega) hx
  refine ⟨b, o, h1, ?_, ?_⟩
  · have := cells_part h2 0 2
    rw [add_mk, add_mk]
    exact this
  · rw [add_mk, add_mk]
    exact cells_get h2 rfl
def cOf : List Rw → List Rw → Int
  | [], _ => 1
  | _ :: _, [] => -1
  | x :: _, y :: _ => Lib.cmpK x.k y.k
def StX (c : Int) (xs xs' : List Rw) (k0 : Int × Int) (was : Bool × Int) : Prop := (c ≤ 0 ∧ ∃ x0, xs = x0 :: xs' ∧ k0 = x0.k ∧ was = (true, x0.v)) ∨ (0 < c ∧ xs' = xs ∧ k0 = (0, 0) ∧ was = no)
def StY (c : Int) (ys ys' : List Rw) (k0 k1 : Int × Int) (is : Bool × Int) : Prop := (0 ≤ c ∧ ∃ y0, ys = y0 :: ys' ∧ k1 = y0.k ∧ is = (true, y0.v)) ∨ (c < 0 ∧ ys' = ys ∧ k1 = k0 ∧ is = no)
theorem diff_step {n : Nat} {xs ys xs' ys' : List Rw} {k0 k1 : Int × Int} {was is : Bool × Int} (hne : 0 < xs.length ∨ 0 < ys.length) (hn : xs.length + ys.length ≤ n) (h1 : StX (cOf xs ys) xs xs' k0 was) (h2 : StY (cOf xs ys) ys ys' k0 k1 is) :
    ∃ m, n = m + 1 ∧ xs'.length + ys'.length ≤ m ∧ diffS n xs ys = emit ⟨k1, was, is⟩ (diffS m xs' ys') := by
  obtain ⟨m, rfl⟩ : ∃ m, n = m + 1 := ⟨n - 1, by omega⟩
  refine ⟨m, rfl, ?_⟩
  cases xs with
  | nil =>
    cases ys with
    | nil => simp at hne
    | cons y ys =>
      have e : cOf [] (y :: ys) = 1 := rfl
      rw [e] at h1 h2
      rcases h1 with ⟨h, _⟩ | ⟨_, rfl, rfl, rfl⟩
      · omega
      rcases h2 with ⟨_, y0, h, rfl, rfl⟩ | ⟨h, _⟩
      · cases h
        exact ⟨by simp at hn ⊢; omega, rfl⟩
      · omega
  | cons x xs =>
    cases ys with
    | nil =>
      have e : cOf (x :: xs) [] = -1 := rfl
      rw [e] at h1 h2
      rcases h1 with ⟨_, x0, h, rfl, rfl⟩ | ⟨h, _⟩
      · cases h
        rcases h2 with ⟨h, _⟩ | ⟨_, rfl, rfl, rfl⟩
        · omega
        · exact ⟨by simp at hn ⊢; omega, rfl⟩
      · omega
    | cons y ys =>
      have e : cOf (x :: xs) (y :: ys) = Lib.cmpK x.k y.k := rfl
      rw [e] at h1 h2
      show _ ∧ (if Lib.cmpK x.k y.k < 0 then emit ⟨x.k, (true, x.v), no⟩ (diffS m xs (y :: ys)) else if 0 < Lib.cmpK x.k y.k then emit ⟨y.k, no, (true, y.v)⟩ (diffS m (x :: xs) ys) else emit ⟨y.k, (true, x.v), (true, y.v)⟩ (diffS m xs ys)) = _
      rcases h1 with ⟨g1, x0, h, rfl, rfl⟩ | ⟨g1, rfl, rfl, rfl⟩
      · cases h
        rcases h2 with ⟨g2, y0, h, rfl, rfl⟩ | ⟨g2, rfl, rfl, rfl⟩
        · cases h
          rw [if_neg (by omega), if_neg (by omega)]
          exact ⟨by simp at hn ⊢; omega, rfl⟩
        · rw [if_pos (by omega)]
          exact ⟨by simp at hn ⊢; omega, rfl⟩
      · rcases h2 with ⟨g2, y0, h, rfl, rfl⟩ | ⟨g2, rfl, rfl, rfl⟩
        · cases h
          rw [if_neg (by omega), if_pos (by omega)]
          exact ⟨by simp at hn ⊢; omega, rfl⟩
        · omega
/-- The loop's state. -/
structure DI (w : World) (B N : Nat) (want : List Chg) (u : World) (l : Option Addr) (ln lc : Nat) (x : Option Addr) (xn xc : Nat) (y : Option Addr) (yn yc : Nat) (m : Nat) (xs ys : List Rw) (out : List Chg) : Prop where
  xr : RSl u 3 x xn xc (rows rwC xs)
  xb : ∀ z, x = some z → z.block < B
  yr : RSl u 3 y yn yc (rows rwC ys)
  yb : ∀ z, y = some z → z.block < B
  own : u.ownsRow B 65 6 (.slice l ln lc) ln (rows chC out)
  ln : ln = out.length
  tch : Tch [] w u
  lo : B ≤ u.heap.size
  base : w.heap.size ≤ B
  fuel : xs.length + ys.length ≤ m
  cnt : out.length + m ≤ N
  eq : out ++ diffS m xs ys = want
  xw : ∀ x ∈ xs, x.wf
  yw : ∀ x ∈ ys, x.wf
theorem DI.quiet {w u u' : World} {B N ln lc xn xc yn yc m : Nat} {want : List Chg} {l x y : Option Addr} {xs ys : List Rw} {out : List Chg} (h : DI w B N want u l ln lc x xn xc y yn yc m xs ys out) (ht : Tch [] u u') : DI w B N want u' l ln lc x xn xc y yn yc m xs ys out :=
  ⟨h.xr.tch ht (fun _ _ h => by cases h), h.xb, h.yr.tch ht (fun _ _ h => by cases h), h.yb, own_up h.own ht (fun _ _ h => by cases h), h.ln, h.tch.trans ht (by simp), by have := ht.size; have := h.lo; omega, h.base, h.fuel, h.cnt, h.eq, h.xw, h.yw⟩
theorem TreeAt.tch {F : Nat → Prop} {w w' : World} {s : List Nat} {tb : Nat} {l : List Rw} (h : TreeAt F w tb l) (ht : Tch s w w') (hs : ∀ k ∈ s, ¬ F k) : TreeAt F w' tb l := by
  obtain ⟨pb, v, L, h1, h2, h3, h4, h5, h6⟩ := h
  refine ⟨pb, v, L, h1, h2, h3, h4.tch ht fun hm => hs _ hm h1, h5.tch ht fun hm => hs _ hm h2, ?_⟩
  rcases h6 with h6 | ⟨h6, h7⟩
  · exact .inl h6
  · exact .inr ⟨h6, h7.tch ht hs⟩
theorem TreeAt.mono {F G : Nat → Prop} {w : World} {tb : Nat} {l : List Rw} (h : TreeAt F w tb l) (hFG : ∀ k, F k → G k) : TreeAt G w tb l := by
  obtain ⟨pb, v, L, h1, h2, h3, h4, h5, h6⟩ := h
  refine ⟨pb, v, L, hFG _ h1, hFG _ h2, h3, h4, h5, ?_⟩
  rcases h6 with h6 | ⟨h6, h7⟩
  · exact .inl h6
  · exact .inr ⟨h6, h7.mono hFG⟩
theorem ok_wf {l : List Rw} (h : RowsOk l) : ∀ x ∈ l, x.wf := fun x hx => ⟨(h.ok x hx).t, (h.ok x hx).r, (h.ok x hx).v⟩
/-- The first row is cut off. -/
theorem cut_one {u : World} {x : Option Addr} {xn xc B : Nat} {x0 : Rw} {xs' : List Rw} (hr : RSl u 3 x xn xc (rows rwC (x0 :: xs'))) (hb : ∀ z, x = some z → z.block < B) : RSl u 3 (if xc = 1 then x else x.map fun y => y.add (1 * 3)) (xn - 1) (xc - 1) (rows rwC xs') ∧ ∀ z, (if xc = 1 then x else x.map fun y => y.add (1 * 3)) = some z → z.block < B := by
  have hn := hr.count rwC_len (by omega)
  simp only [List.length_cons] at hn
  have hs := hr.sub (l := 1) (hh := xn) (by omega) (Nat.le_refl _)
  rw [rows_part, List.drop_succ_cons, List.drop_zero, List.take_of_length_le (by omega)] at hs
  refine ⟨hs, fun z hz => ?_⟩
  split at hz
  · exact hb z hz
  · rw [Option.map_eq_some_iff] at hz
    obtain ⟨q, hq, rfl⟩ := hz
    exact hb q hq
/-- What Diff hands back. -/
def ChgR (w : World) (l : List Chg) (e : Ending) (w' : World) : Prop := ∃ a c, e = .returned (.slice a l.length c) ∧ w'.ownsRow w.heap.size 65 6 (.slice a l.length c) l.length (rows chC l) ∧ Tch [] w w'
theorem diff_c {F G : Nat → Prop} (w : World) (ta tb : Nat) (a b : List Rw) (ha : TreeAt F w ta a) (hb : TreeAt G w tb b) (hRa : RowsOk a) (hRb : RowsOk b) (hF : ∀ z, F z → z < w.heap.size) (hG : ∀ z, G z → z < w.heap.size) (hN : a.length + b.length ≤ 1000000000000) :
    Calls Tryd.prog 25 #[.pointer (some ⟨ta, 0, none⟩), .pointer (some ⟨tb, 0, none⟩)] w (ChgR w (diffS (a.length + b.length) a b)) := by
  refine c25 _ _ ?_
  unfold d25
  refine (rows_c w ta a ha hRa hF (by omega)).mono ?_
  rintro e w3 ⟨xa, xc, rfl, ho, t3⟩
  refine ⟨_, _, _, rfl, ?_⟩
  have s3 := t3.size
  have hxa : ∀ z, xa = some z → z.block < w3.heap.size := fun z hz => (own_ge ho z hz).2
  replace hb := hb.tch t3 (by simp)
  refine (rows_c w3 tb b hb hRb (fun z hz => by have := hG z hz; omega) (by omega)).mono ?_
  rintro e w6 ⟨xb, yc, rfl, ho2, t6⟩
  refine ⟨_, _, _, rfl, ?_⟩
  have s6 := t6.size
  have hxb : ∀ z, xb = some z → z.block < w6.heap.size := fun z hz => (own_ge ho2 z hz).2
  replace hxa : ∀ z, xa = some z → z.block < w6.heap.size := fun z hz => by have := hxa z hz; omega
  have hra := (own_rsl ho fun u hu => by
    unfold rows at hu
    obtain ⟨v, hv, hu⟩ := List.mem_flatten.1 hu
    obtain ⟨x, _, rfl⟩ := List.mem_map.1 hv
    exact rwC_one u hu).tch t6 (fun _ _ h => by cases h)
  have hrb := own_rsl ho2 fun u hu => by
    unfold rows at hu
    obtain ⟨v, hv, hu⟩ := List.mem_flatten.1 hu
    obtain ⟨x, _, rfl⟩ := List.mem_map.1 hv
    exact rwC_one u hu
  clear ho ho2
  have t0 := t3.trans t6 (by simp)
  clear t3 t6
  generalize hB : w6.heap.size = B at *
  generalize hW : diffS (a.length + b.length) a b = want
  refine ⟨fun m l ln lc x xn xc y yn yc u => ∃ xs ys out, DI w B (a.length + b.length) want u l ln lc x xn xc y yn yc m xs ys out, ⟨_, a, b, [], hra, hxa, hrb, hxb, own_nil _ _ _ _, rfl, t0, by omega, by omega, Nat.le_refl _, by simp, hW, ok_wf hRa, ok_wf hRb⟩, ?_⟩
  clear hra hrb hxa hxb hB t0
  rintro m w10 l ln lc x xn xc y yn yc ⟨xs, ys, out, h⟩
  have hxn := h.xr.count rwC_len (by omega)
  have hyn := h.yr.count rwC_len (by omega)
  have hcnt := h.cnt
  have hbase := h.base
  refine ⟨fun u => u = w10 ∧ (0 < xs.length ∨ 0 < ys.length), ?_, ?_⟩
  · by_cases h1 : 0 < xn
    · rw [bif_pos (by omega)]
      exact ⟨rfl, .inl (by omega)⟩
    · rw [bif_neg (by omega)]
      by_cases h2 : 0 < yn
      · rw [bif_pos (by omega)]
        exact ⟨rfl, .inr (by omega)⟩
      · rw [bif_neg (by omega)]
        have e1 : xs = [] := List.length_eq_zero_iff.1 (by omega)
        have e2 : ys = [] := List.length_eq_zero_iff.1 (by omega)
        have he := h.eq
        rw [e1, e2] at he
        have e3 : diffS m [] [] = [] := by cases m <;> rfl
        rw [e3, List.append_nil] at he
        subst he
        have hln := h.ln
        have hown := h.own
        rw [hln] at hown ⊢
        exact ⟨l, lc, rfl, own_base hown h.base, h.tch⟩
  rintro w15 ⟨hw, hne⟩
  rw [hw]
  clear hw w15
  refine ⟨fun c u => c = cOf xs ys ∧ Tch [] w10 u, ?_, ?_⟩
  · by_cases h1 : xn = 0
    · rw [bif_pos (by omega)]
      have e1 : xs = [] := List.length_eq_zero_iff.1 (by omega)
      exact ⟨by rw [e1]; rfl, Tch.refl _ _⟩
    · rw [bif_neg (by omega)]
      obtain ⟨x0, xs', rfl⟩ : ∃ x0 xs', xs = x0 :: xs' := by cases xs with
        | nil => simp at hxn; omega
        | cons x0 xs' => exact ⟨x0, xs', rfl⟩
      by_cases h2 : 0 < yn
      · rw [bif_pos (by omega)]
        obtain ⟨y0, ys', rfl⟩ : ∃ y0 ys', ys = y0 :: ys' := by cases ys with
          | nil => simp at hyn; omega
          | cons y0 ys' => exact ⟨y0, ys', rfl⟩
        rintro w17 rfl
        have q := (Tch.refl [] w10).drew
        have h17 := h.quiet q
        generalize w10.drew = w17 at *
        obtain ⟨b1, o1, rfl, k1, _⟩ := row_at h17.xr (i := 0) (x := x0) rfl
        obtain ⟨b2, o2, rfl, k2, _⟩ := row_at h17.yr (i := 0) (x := y0) rfl
        refine ⟨by omega, by omega, Lib.kC x0.k, rfl, k1, by omega, by omega, Lib.kC y0.k, rfl, k2, ?_⟩
        have wx := h.xw x0 (by simp)
        have wy := h.yw y0 (by simp)
        refine (Lib.compare_c x0.k y0.k w17 ⟨wx.t, wx.r⟩ ⟨wy.t, wy.r⟩).mono ?_
        rintro e w23 ⟨rfl, t23⟩
        exact ⟨_, rfl, rfl, q.trans t23 (by simp)⟩
      · rw [bif_neg (by omega)]
        have e2 : ys = [] := List.length_eq_zero_iff.1 (by omega)
        exact ⟨by rw [e2]; rfl, Tch.refl _ _⟩
  rintro w25 c ⟨hc, t25⟩
  replace h := h.quiet t25
  clear t25
  rintro w27 rfl
  have hK : Blk _ _ (chC ⟨(0, 0), no, no⟩) := Blk.fresh w25 (cs := zc Tryd.prog 65) 65 zcChg
  have t27 := (Tch.refl [] w25).alloc (.cells (zc Tryd.prog 65).toArray 65)
  generalize w25.alloc (.cells (zc Tryd.prog 65).toArray 65) = w27 at *
  have hlo := h.lo
  obtain ⟨cb, hcb⟩ : ∃ cb, w25.heap.size = cb := ⟨_, rfl⟩
  rw [hcb] at hK ⊢
  refine ⟨fun x' xn' xc' u => ∃ xs' k0 was, Tch [] w25 u ∧ Blk u cb (chC ⟨k0, was, no⟩) ∧ RSl w25 3 x' xn' xc' (rows rwC xs') ∧ (∀ z, x' = some z → z.block < B) ∧ StX c xs xs' k0 was, ?_, ?_⟩
  · by_cases hc0 : c ≤ 0
    rotate_left
    · rw [bif_neg hc0]
      exact ⟨xs, (0, 0), no, t27, hK, h.xr, h.xb, .inr ⟨by omega, rfl, rfl, rfl⟩⟩
    rw [bif_pos hc0]
    obtain ⟨x0, xs', rfl⟩ : ∃ x0 xs', xs = x0 :: xs' := by cases xs with
      | nil => rw [hc] at hc0; exact absurd hc0 (by show ¬ (1 : Int) ≤ 0; omega)
      | cons x0 xs' => exact ⟨x0, xs', rfl⟩
    rintro w29 rfl
    replace t27 := t27.drew
    replace hK := hK.drew
    generalize w27.drew = w29 at *
    simp only [List.length_cons] at hxn
    obtain ⟨b1, o1, rfl, k1, k2⟩ := row_at (h.xr.tch t27 (fun _ _ h => by cases h)) (i := 0) (x := x0) rfl
    refine ⟨by omega, by omega, Lib.kC x0.k, rfl, k1, by omega, by omega, x0.v, k2, ceC (true, x0.v), by rw [zcCell]; rfl, ?_⟩
    refine put_part hK 0 (by simp) rfl Lib.kC_one fun w35 k35 t35 _ => ?_
    replace k35 : Blk w35 cb (chC ⟨x0.k, no, no⟩) := k35
    replace t27 := t27.trans t35 (by simp; omega)
    obtain ⟨b2, o2, e', k3, k4⟩ := row_at (h.xr.tch t27 (fun _ _ h => by cases h)) (i := 0) (x := x0) rfl
    cases e'
    refine ⟨⟨x0.v, k4, rfl, rfl⟩, ?_⟩
    refine put_part k35 2 (by simp) rfl (by simp [one]) fun w37 k37 t37 _ => ?_
    replace k37 : Blk w37 cb (chC ⟨x0.k, (true, x0.v), no⟩) := k37
    have hcut := cut_one h.xr h.xb
    exact ⟨by omega, by omega, xs', x0.k, (true, x0.v), t27.trans t37 (by simp; omega), k37, hcut.1, hcut.2, .inl ⟨hc0, x0, rfl, rfl, rfl⟩⟩
  clear t27 hK
  rintro w38 x' xn' xc' ⟨xs', k0, was, t38, k38, hxr, hxb, hSx⟩
  refine ⟨fun y' yn' yc' u => ∃ ys' k1 is, Tch [] w25 u ∧ Blk u cb (chC ⟨k1, was, is⟩) ∧ RSl w25 3 y' yn' yc' (rows rwC ys') ∧ (∀ z, y' = some z → z.block < B) ∧ StY c ys ys' k0 k1 is, ?_, ?_⟩
  · by_cases hc0 : 0 ≤ c
    rotate_left
    · rw [bif_neg hc0]
      exact ⟨ys, k0, no, t38, k38, h.yr, h.yb, .inr ⟨by omega, rfl, rfl, rfl⟩⟩
    rw [bif_pos hc0]
    obtain ⟨y0, ys', rfl⟩ : ∃ y0 ys', ys = y0 :: ys' := by cases ys with
      | nil =>
        cases xs with
        | nil => simp at hne
        | cons x0 xs' => rw [hc] at hc0; exact absurd hc0 (by show ¬ (0 : Int) ≤ -1; omega)
      | cons y0 ys' => exact ⟨y0, ys', rfl⟩
    rintro w41 rfl
    replace t38 := t38.drew
    replace k38 := k38.drew
    generalize w38.drew = w41 at *
    simp only [List.length_cons] at hyn
    obtain ⟨b1, o1, rfl, k1, k2⟩ := row_at (h.yr.tch t38 (fun _ _ h => by cases h)) (i := 0) (x := y0) rfl
    refine ⟨by omega, by omega, Lib.kC y0.k, rfl, k1, by omega, by omega, y0.v, k2, ceC (true, y0.v), by rw [zcCell]; rfl, ?_⟩
    refine put_part k38 0 (by simp) rfl Lib.kC_one fun w47 k47 t47 _ => ?_
    replace k47 : Blk w47 cb (chC ⟨y0.k, was, no⟩) := k47
    replace t38 := t38.trans t47 (by simp; omega)
    obtain ⟨b2, o2, e', k3, k4⟩ := row_at (h.yr.tch t38 (fun _ _ h => by cases h)) (i := 0) (x := y0) rfl
    cases e'
    refine ⟨⟨y0.v, k4, rfl, rfl⟩, ?_⟩
    refine put_part k47 4 (by simp) rfl (by simp [one]) fun w49 k49 t49 _ => ?_
    replace k49 : Blk w49 cb (chC ⟨y0.k, was, (true, y0.v)⟩) := k49
    have hcut := cut_one h.yr h.yb
    exact ⟨by omega, by omega, ys', y0.k, (true, y0.v), t38.trans t49 (by simp; omega), k49, hcut.1, hcut.2, .inl ⟨hc0, y0, rfl, rfl, rfl⟩⟩
  clear t38 k38
  rintro w50 y' yn' yc' ⟨ys', k1, is, t50, k50, hyr, hyb, hSy⟩
  obtain ⟨m', rfl, hfuel, hstep⟩ := diff_step hne h.fuel (hc ▸ hSx) (hc ▸ hSy)
  have hIwas : Sha.I64 was.2 := by
    rcases hSx with ⟨_, x0, rfl, _, rfl⟩ | ⟨_, _, _, rfl⟩
    · exact (h.xw x0 (by simp)).v
    · exact Sha.i64_0
  have hIis : Sha.I64 is.2 := by
    rcases hSy with ⟨_, y0, rfl, _, rfl⟩ | ⟨_, _, _, rfl⟩
    · exact (h.yw y0 (by simp)).v
    · exact Sha.i64_0
  have hxw : ∀ x ∈ xs', x.wf := by
    rcases hSx with ⟨_, x0, rfl, _, _⟩ | ⟨_, rfl, _, _⟩
    · exact fun x hx => h.xw x (by simp [hx])
    · exact h.xw
  have hyw : ∀ x ∈ ys', x.wf := by
    rcases hSy with ⟨_, x0, rfl, _, _⟩ | ⟨_, rfl, _, _⟩
    · exact fun x hx => h.yw x (by simp [hx])
    · exact h.yw
  have h50 := h.quiet t50
  have heq := h.eq
  rw [hstep] at heq
  refine get_part k50 2 2 (ceC was) rfl rfl ?_
  refine get_part k50 4 2 (ceC is) rfl rfl ?_
  refine neq_flat_d ce_flat ce_eqT (ce_fits hIwas) (ce_fits hIis) ceC_inj ?_
  by_cases hw : was = is
  · rw [bif_npos hw]
    refine ⟨m', by omega, xs', ys', out, ⟨hxr.tch t50 (fun _ _ h => by cases h), hxb, hyr.tch t50 (fun _ _ h => by cases h), hyb, h50.own, h50.ln, h50.tch, h50.lo, h50.base, hfuel, by omega, ?_, hxw, hyw⟩⟩
    rw [← heq]
    unfold emit
    rw [if_pos hw]
  · rw [bif_nneg hw]
    refine get_all k50 rfl ?_
    have hln := h.ln
    refine app_elem_at chT h50.own (by rw [zcChg]; rfl) (ys := chC ⟨k1, was, is⟩) rfl rfl chC_one h50.lo (by omega) (by omega) fun a5 c5 w59 o5 t5 m5 => ?_
    have hoff : ∀ {z : Option Addr}, (∀ q, z = some q → q.block < B) → Off (rowL l) z := fun hz q hq hm => by
      rw [mem_rowL] at hm
      obtain ⟨p, hp, he⟩ := hm
      have := (own_ge h50.own p hp).1
      have := hz q hq
      omega
    have s5 := t5.size
    have s50 := h50.lo
    refine ⟨m', by omega, xs', ys', out ++ [⟨k1, was, is⟩], ⟨(hxr.tch t50 (fun _ _ h => by cases h)).tch t5 (hoff hxb), hxb, (hyr.tch t50 (fun _ _ h => by cases h)).tch t5 (hoff hyb), hyb, ?_, by simp; omega, ?_, by omega, h50.base, hfuel, by simp; omega, ?_, hxw, hyw⟩⟩
    · rw [rows_append, rows_one]
      exact o5
    · refine h50.tch.trans t5 fun i hi => .inr ?_
      rw [mem_rowL] at hi
      obtain ⟨p, hp, rfl⟩ := hi
      have := (own_ge h50.own p hp).1
      omega
    · rw [← heq]
      unfold emit
      rw [if_neg hw, List.append_assoc]
      rfl
end Go.Proofs.YtjkbjppopdfggaaDoor.Tre
namespace Go.Proofs.YtjkbjppopdfggaaDoor.Tre
open Go Den Fn Sha
open Go.RowKit (Below)
open Classical
set_option maxRecDepth 8000
set_option maxHeartbeats 4000000
theorem atS_none' {l : List Rw} {k : Int × Int} (h : ∀ x ∈ l, x.k ≠ k) : atS l k = no := by
  induction l with
  | nil => rfl
  | cons x l ih =>
    unfold atS
    rw [if_neg (h x (by simp)), ih fun y hy => h y (by simp [hy])]
theorem atS_some {l : List Rw} {k : Int × Int} : ∀ {i : Nat} {x : Rw}, l[i]? = some x → (∀ y ∈ l.take i, y.k ≠ k) → x.k = k → atS l k = (true, x.v) := by
  induction l with
  | nil => intro i x h; simp at h
  | cons y l ih =>
    intro i x h hb hk
    cases i with
    | zero => cases h; unfold atS; rw [if_pos hk]
    | succ i =>
      unfold atS
      rw [if_neg (hb y (by simp)), ih (by simpa using h) (fun z hz => hb z (by simp [hz])) hk]
theorem atS_I64 {l : List Rw} (h : ∀ x ∈ l, x.wf) (k : Int × Int) : Sha.I64 (atS l k).2 := by
  induction l with
  | nil => exact Sha.i64_0
  | cons x l ih =>
    unfold atS
    split
    · exact (h x (by simp)).v
    · exact ih fun y hy => h y (by simp [hy])
theorem keys_snoc {l : List Rw} {i : Nat} {x : Rw} (h : l[i]? = some x) : rows Lib.kC (keysOf (l.take i)) ++ Lib.kC x.k = rows Lib.kC (keysOf (l.take (i + 1))) := by
  obtain ⟨hi, rfl⟩ := List.getElem?_eq_some_iff.1 h
  rw [List.take_succ_eq_append_getElem hi]
  unfold keysOf
  rw [List.map_append, rows_append]
  show _ = _ ++ rows Lib.kC [_]
  rw [rows_one]
end Go.Proofs.YtjkbjppopdfggaaDoor.Tre
namespace Go.Proofs.YtjkbjppopdfggaaDoor.Den
open Go
open Go.RowKit (Below)
theorem run_copy_sz {P : Program} (w : World) (dT sT ty elem : TypeId) (g o dLen dCap : Nat) (a : Addr) (sLen sCap : Nat) (cur : Array Value) (t : TypeId) (cs : List Value) {i : TypeInfo}
    (hu : P.underlying dT = some (.slice elem)) (hq : P.info? elem = some i)
    (hg : w.heap[g]? = some (.cells cur t (0, 0))) (hn : cs.length = Nat.min sLen dLen * i.size)
    (hsrc : ∀ j v, cs[j]? = some v → w.cell? (a.add j) = some v) (hfit : o + cs.length ≤ cur.size) (h1 : ∀ v ∈ cs, v.oneCell' = true) :
    (Builtin.copy_ #[dT, sT] ty #[.slice (some ⟨g, o, none⟩) dLen dCap, .slice (some a) sLen sCap]).run P w =
      .ok (goInt (Nat.min sLen dLen)) (w.setRow g (cur.toList.take o ++ cs ++ cur.toList.drop (o + cs.length)).toArray) := by
  have hl := run_loadCells_list (P := P) w a cs hsrc
  have hst := run_storeCells_at P g o t cs 0 cur w hg (by simpa using hfit) h1
  simp [Builtin.copy_, run_underlying hu, Builtin.lenOf, Builtin.firstCells, sizeOf, typeInfo, hq, ← hn, hl, hst]
/-- A copy of elements into a block. -/
theorem cpyN {P : Program} {dT sT ty e : TypeId} {size bytes : Nat} (hT : slT P dT e size bytes = true) {w : World} {g o dn dc : Nat} {T : TypeId} {cur : List Value} (hg : BlkT w g T cur) {b : Option Addr} {sn sc : Nat} {ys : List Value}
    (hy : RSl w size b sn sc ys) (hfit : o + min sn dn * size ≤ cur.length) {K : Int → World → Prop}
    (hK : ∀ w', BlkT w' g T (splice cur o (ys.take (min sn dn * size))) → Tch [g] w w' → w'.heap.size = w.heap.size → K ((min sn dn : Nat) : Int) w') :
    RunV P (Builtin.copy_ #[dT, sT] ty #[.slice (some ⟨g, o, none⟩) dn dc, .slice b sn sc]) w fun v w' => ∃ x : Int, v = (.int .i64 x) ∧ K x w' := by
  obtain ⟨h1, h2, i, z, h3, h4, h5, h6, h7⟩ := slT_spec hT
  have hlen : (ys.take (min sn dn * size)).length = min sn dn * size := by
    rw [List.length_take, hy.len]
    exact Nat.min_eq_left (Nat.mul_le_mul_right _ (Nat.min_le_left _ _))
  have hsr : ∀ cs : Array Value, Tch [g] w (w.setRow g cs) ∧ (w.setRow g cs).heap.size = w.heap.size := fun cs =>
    ⟨⟨rfl, rfl, rfl, by simp [World.setRow], fun k _ hn => by
      have : g ≠ k := fun e => hn (by simp [e])
      simp [World.setRow, Array.getElem?_modify, this]⟩, by simp [World.setRow]⟩
  obtain ⟨rfl, hc⟩ | ⟨ad, rfl, hcells⟩ := hy.from
  · have hn : sn = 0 := by have := hy.cap; omega
    subst hn; subst hc
    refine ⟨_, _, run_copy_nil P w dT sT ty e ⟨g, o, none⟩ dn dc h1 (by rw [h3]; rfl), _, rfl, ?_⟩
    rw [Nat.zero_min] at hK
    exact hK w (by simpa [splice] using hg) (Tch.refl _ _) rfl
  · refine ⟨_, _, run_copy_sz w dT sT ty e g o dn dc ad sn sc cur.toArray T (ys.take (min sn dn * size)) h1 h3 hg (by rw [hlen, h5]) (fun j v hv => hcells j v (by rw [List.getElem?_take] at hv; split at hv; exact hv; cases hv)) (by rw [hlen]; simpa using hfit) (fun v hv => by rw [← one_eq]; exact hy.ones v (List.mem_of_mem_take hv)), _, rfl, ?_⟩
    refine hK _ ?_ (hsr _).1 (hsr _).2
    unfold BlkT
    rw [setRow_heap w g cur.toArray _ T (0, 0) hg]
    simp [splice, hlen]
end Go.Proofs.YtjkbjppopdfggaaDoor.Den
namespace Go.Proofs.YtjkbjppopdfggaaDoor.Tre
open Go Den Fn Sha
open Go.RowKit (Below)
open Classical
set_option maxRecDepth 8000
set_option maxHeartbeats 4000000
theorem rwCs_one {l : List Rw} : ∀ u ∈ rows rwC l, one u = true := fun u hu => by
  unfold rows at hu
  obtain ⟨v, hv, hu⟩ := List.mem_flatten.1 hu
  obtain ⟨x, _, rfl⟩ := List.mem_map.1 hv
  exact rwC_one u hu
theorem num_c (n : Int) (w : World) : Calls Tryd.prog 17 #[.int .i64 n] w fun e w' => e = .returned (.int .i64 n) ∧ w' = w := by
  refine c17 _ ?_
  unfold d17
  exact ⟨rfl, rfl⟩
/-! ### few -/
theorem few_c (w : World) (l : List Rw) (a : Option Addr) (n c : Nat) (hr : RSl w 3 a n c (rows rwC l)) :
    Calls Tryd.prog 22 #[.slice a n c] w fun e w' => ∃ a' c', e = .returned (.slice a' (l.take 300).length c') ∧ RSl w' 3 a' (l.take 300).length c' (rows rwC (l.take 300)) ∧ w' = w := by
  have hn := hr.count rwC_len (by omega)
  have hc := hr.cap
  refine c22 _ _ _ ?_
  unfold d22
  by_cases h : 300 < n
  · rw [bif_pos (by omega)]
    refine ⟨by omega, by omega, ?_⟩
    have hs := hr.sub (l := 0) (hh := 300) (by omega) (by omega)
    rw [rows_part, List.drop_zero] at hs
    rw [show (l.take 300).length = 300 by rw [List.length_take]; omega]
    exact ⟨_, _, rfl, hs, rfl⟩
  · rw [bif_neg (by omega)]
    rw [show l.take 300 = l from List.take_of_length_le (by omega), hn]
    exact ⟨a, c, rfl, hr, rfl⟩
/-! ### set -/
theorem refSet_c (w : World) (l : List Rw) (a : Option Addr) (n c : Nat) (hr : RSl w 3 a n c (rows rwC l)) (hN : n ≤ 1000000000000) :
    Calls Tryd.prog 29 #[.slice a n c] w fun e w' => e = .returned (.bool (decide (Lib.RisesS (keysOf l)))) ∧ Tch [] w w' := by
  have hn := hr.count rwC_len (by omega)
  refine c29 _ _ _ ?_
  unfold d29
  refine ⟨fun m x xn xc i u => ∃ k : Nat, i = k ∧ k ≤ n ∧ m = n - k ∧ xn = k ∧ u.ownsRow w.heap.size 29 2 (.slice x k xc) k (rows Lib.kC (keysOf (l.take k))) ∧ Tch [] w u, ⟨n, 0, rfl, by omega, rfl, rfl, own_nil _ _ _ _, Tch.refl _ _⟩, ?_⟩
  rintro m w3 x xn xc i ⟨k, rfl, hk, rfl, rfl, hown, ht⟩
  have s3 := ht.size
  by_cases hlt : xn < n
  · rw [bif_pos (by omega)]
    refine ⟨by omega, by omega, ?_⟩
    rw [Int.toNat_natCast]
    have hli : l[xn]? = some (l[xn]'(by omega)) := List.getElem?_eq_getElem (by omega)
    generalize l[xn]'(by omega) = y at hli
    obtain ⟨b1, o1, rfl, k1, _⟩ := row_at (hr.tch ht (fun _ _ h => by cases h)) hli
    refine ⟨Lib.kC y.k, rfl, k1, ?_⟩
    refine app_elem_at Lib.kT hown (by rw [zcKey]; rfl) (ys := Lib.kC y.k) rfl rfl Lib.kC_one (by omega) (by omega) (by omega) fun a5 c5 w14 o5 t5 m5 => ?_
    refine ⟨n - (xn + 1), by omega, xn + 1, by rw [wrap_i64 (by omega) (by omega)]; omega, by omega, rfl, rfl, by rw [keys_snoc hli] at o5; exact o5, ?_⟩
    exact ht.trans t5 fun i hi => .inr (by
      rw [mem_rowL] at hi
      obtain ⟨z, hz, rfl⟩ := hi
      exact (own_ge hown z hz).1)
  · rw [bif_neg (by omega)]
    obtain rfl : xn = n := by omega
    rw [show l.take xn = l from List.take_of_length_le (by omega)] at hown
    refine (Lib.refRises_c w3 (keysOf l) x xn xc (own_rsl hown Lib.kCs_one) (by omega)).mono ?_
    rintro e w15 ⟨rfl, t15⟩
    exact ⟨_, rfl, rfl, ht.trans t15 (by simp)⟩
/-- Each row that rises above those before it. -/
noncomputable def setStep (l : List Rw) (x : Rw) : List Rw := if Lib.RisesS (keysOf (l ++ [x])) then l ++ [x] else l
noncomputable def setS (l : List Rw) : List Rw := l.foldl setStep []
theorem setS_snoc {l : List Rw} {i : Nat} {x : Rw} (h : l[i]? = some x) : setS (l.take (i + 1)) = setStep (setS (l.take i)) x := by
  obtain ⟨hi, rfl⟩ := List.getElem?_eq_some_iff.1 h
  rw [List.take_succ_eq_append_getElem hi]
  unfold setS
  rw [List.foldl_append]
  rfl
theorem setS_go {l : List Rw} : ∀ {acc : List Rw}, Lib.RisesS (keysOf acc) → Lib.RisesS (keysOf (l.foldl setStep acc)) ∧ (l.foldl setStep acc).length ≤ acc.length + l.length ∧ ∀ x ∈ l.foldl setStep acc, x ∈ acc ∨ x ∈ l := by
  induction l with
  | nil => intro acc h; exact ⟨h, by simp, fun x hx => .inl hx⟩
  | cons y l ih =>
    intro acc h
    have hs : Lib.RisesS (keysOf (setStep acc y)) := by unfold setStep; split <;> assumption
    obtain ⟨h1, h2, h3⟩ := ih hs
    have hl : (setStep acc y).length ≤ acc.length + 1 := by unfold setStep; split <;> simp
    refine ⟨h1, by show (l.foldl setStep (setStep acc y)).length ≤ _; simp only [List.length_cons]; omega, fun x hx => ?_⟩
    rcases h3 x hx with hx | hx
    · unfold setStep at hx
      split at hx
      · rcases List.mem_append.1 hx with hx | hx
        · exact .inl hx
        · exact .inr (by simp at hx; simp [hx])
      · exact .inl hx
    · exact .inr (by simp [hx])
theorem rises_nil : Lib.RisesS (keysOf []) := ⟨by simp [keysOf], by simp [keysOf]⟩
theorem setS_rises (l : List Rw) : Lib.RisesS (keysOf (setS l)) := (setS_go rises_nil).1
theorem setS_len (l : List Rw) : (setS l).length ≤ l.length := by have := (setS_go (l := l) rises_nil).2.1; rw [List.length_nil, Nat.zero_add] at this; exact this
theorem setS_mem {l : List Rw} : ∀ x ∈ setS l, x ∈ l := fun x hx => by rcases (setS_go (l := l) rises_nil).2.2 x hx with h | h; simp at h; exact h
theorem own_empty' (w : World) (T : TypeId) (sz : Nat) : (w.alloc (.cells #[] T)).ownsRow w.heap.size T sz (.slice (some ⟨w.heap.size, 0, none⟩) 0 0) 0 [] :=
  (BlkT.new w #[] T).own (Nat.le_refl _) (by simp) (by omega)
/-- Rows in memory that grow. -/
def RowsR (w : World) (l : List Rw) (e : Ending) (w' : World) : Prop := ∃ a c, e = .returned (.slice a l.length c) ∧ RSl w' 3 a l.length c (rows rwC l) ∧ Tch [] w w'
theorem row_one {S : List Rw} {y : Rw} : ∀ u ∈ rows rwC S ++ rwC y, one u = true := by
  rw [← rows_one (f := rwC) y, ← rows_append]; exact rwCs_one
theorem set_c (w : World) (l : List Rw) (a : Option Addr) (n c : Nat) (hr : RSl w 3 a n c (rows rwC l)) (hN : n ≤ 1000000000) :
    Calls Tryd.prog 21 #[.slice a n c] w (RowsR w (setS l)) := by
  have hn := hr.count rwC_len (by omega)
  refine c21 _ _ _ ?_
  unfold d21
  refine ⟨fun m x xn xc i u => ∃ k : Nat, i = k ∧ k ≤ n ∧ m = n - k ∧ xn = (setS (l.take k)).length ∧ RSl u 3 x xn xc (rows rwC (setS (l.take k))) ∧ Tch [] w u, ⟨n, 0, rfl, by omega, rfl, rfl, RSl.nil _ _, Tch.refl _ _⟩, ?_⟩
  rintro m w3 x xn xc i ⟨k, rfl, hk, rfl, rfl, hx, ht⟩
  have s3 := ht.size
  by_cases hlt : k < n
  rotate_left
  · rw [bif_neg (by omega)]
    obtain rfl : k = n := by omega
    rw [show l.take k = l from List.take_of_length_le (by omega)] at hx ⊢
    exact ⟨x, xc, rfl, hx, ht⟩
  rw [bif_pos (by omega)]
  have hli : l[k]? = some (l[k]'(by omega)) := List.getElem?_eq_getElem (by omega)
  generalize l[k]'(by omega) = y at hli
  have hsn := setS_snoc hli
  have hsl := setS_len (l.take k)
  rw [List.length_take] at hsl
  generalize setS (l.take k) = S at *
  refine ⟨fun x' xn' xc' u => Tch [] w3 u ∧ xn' = (S ++ [y]).length ∧ RSl u 3 x' xn' xc' (rows rwC (S ++ [y])), ?_, ?_⟩
  · rintro w7 rfl
    have t7 := (Tch.refl [] w3).drew
    have s7 : w3.drew.heap.size = w3.heap.size := rfl
    generalize w3.drew = w7 at *
    have hr7 := hr.tch (ht.trans t7 (by simp)) (fun _ _ h => by cases h)
    have hx7 := hx.tch t7 (fun _ _ h => by cases h)
    obtain ⟨b0, o0, rfl, ck⟩ := hr7.elem' rwC_len (by omega) hli
    refine ⟨by omega, by omega, rwC y, rfl, by rw [add_mk]; exact ck, ?_, ?_⟩
    · rintro w10 rfl
      have q10 := (Tch.refl [] w7).alloc (.cells #[] 31)
      have hE := own_empty' w7 31 3
      have s10 := size_alloc w7 (.cells #[] 31)
      generalize w7.alloc (.cells #[] 31) = w10 at *
      have ck10 := cells_tch ck q10
      refine ⟨⟨rwC y, rfl, by rw [add_mk]; exact ck10, rfl, rfl⟩, ?_, ?_⟩
      · refine app_at rsT hE (hx7.tch q10 (fun _ _ h => by cases h)) (by omega) (by omega) (by omega) fun x1 c1 w13 o1 t1 m1 => ?_
        have q13 : Tch [] w7 w13 := q10.trans t1 fun i hi => .inr (by
          rw [mem_rowL] at hi
          obtain ⟨z, hz, rfl⟩ := hi
          exact (own_ge hE z hz).1)
        have ck13 := cells_tch ck q13
        have s13 := q13.size
        refine ⟨⟨rwC y, rfl, by rw [add_mk]; exact ck13, rfl, rfl⟩, ?_⟩
        refine app_elem_at rsT o1 (by rw [zcRow]; rfl) (ys := rwC y) rfl rfl rwC_one (by omega) (by omega) (by omega) fun a5 c5 w19 o5 t5 m5 => ?_
        have q19 : Tch [] w7 w19 := q13.trans t5 fun i hi => .inr (by
          rw [mem_rowL] at hi
          obtain ⟨z, hz, rfl⟩ := hi
          exact (own_ge o1 z hz).1)
        refine ⟨t7.trans q19 (by simp), by simp, ?_⟩
        rw [rows_append, rows_one]
        exact own_rsl o5 row_one
      · refine ⟨rwC y, by rw [zcRow]; rfl, ?_⟩
        rintro w22 rfl
        have q22 := (Tch.refl [] w10).alloc (.cells (rwC y).toArray 31)
        have hB := (Blk.fresh w10 (cs := rwC y) 31 rfl).rsl (sz := 3) (n := 1) rfl rwC_one
        have s22 := size_alloc w10 (.cells (rwC y).toArray 31)
        generalize w10.alloc (.cells (rwC y).toArray 31) = w22 at *
        refine app_at rsT (own_up hE q22 (fun _ _ h => by cases h)) (hx7.tch (q10.trans q22 (by simp)) (fun _ _ h => by cases h)) (by omega) (by omega) (by omega) fun x1 c1 w24 o1 t1 m1 => ?_
        have hoff : ∀ i ∈ rowL (some (⟨w7.heap.size, 0, none⟩ : Addr)), i = w7.heap.size := fun i hi => by
          rw [mem_rowL] at hi
          obtain ⟨z, hz, rfl⟩ := hi
          cases hz; rfl
        have s24 := t1.size
        refine app_at rsT o1 (hB.tch t1 (fun z hz hm => by have := hoff _ hm; cases hz; simp at this; omega)) (by omega) (by omega) (by omega) fun x2 c2 w27 o2 t2 m2 => ?_
        have q27 : Tch [] w7 w27 := ((q10.trans q22 (by simp)).trans t1 fun i hi => .inr (by have := hoff _ hi; omega)).trans t2 fun i hi => .inr (by
          rw [mem_rowL] at hi
          obtain ⟨z, hz, rfl⟩ := hi
          exact (own_ge o1 z hz).1)
        refine ⟨t7.trans q27 (by simp), by simp, ?_⟩
        rw [rows_append, rows_one]
        exact own_rsl o2 row_one
    · refine ⟨rwC y, by rw [zcRow]; rfl, ?_⟩
      rintro w30 rfl
      have q30 := (Tch.refl [] w7).alloc (.cells (rwC y).toArray 31)
      have hB := (Blk.fresh w7 (cs := rwC y) 31 rfl).rsl (sz := 3) (n := 1) rfl rwC_one
      have s30 := size_alloc w7 (.cells (rwC y).toArray 31)
      generalize w7.alloc (.cells (rwC y).toArray 31) = w30 at *
      rintro w31 rfl
      have q31 := (Tch.refl [] w30).alloc (.cells #[] 31)
      have hE := own_empty' w30 31 3
      have s31 := size_alloc w30 (.cells #[] 31)
      generalize w30.alloc (.cells #[] 31) = w31 at *
      refine app_at rsT hE (hx7.tch (q30.trans q31 (by simp)) (fun _ _ h => by cases h)) (by omega) (by omega) (by omega) fun x1 c1 w33 o1 t1 m1 => ?_
      have hoff : ∀ i ∈ rowL (some (⟨w30.heap.size, 0, none⟩ : Addr)), i = w30.heap.size := fun i hi => by
        rw [mem_rowL] at hi
        obtain ⟨z, hz, rfl⟩ := hi
        cases hz; rfl
      have s33 := t1.size
      refine app_at rsT o1 ((hB.tch q31 (fun _ _ h => by cases h)).tch t1 (fun z hz hm => by have := hoff _ hm; cases hz; simp at this; omega)) (by omega) (by omega) (by omega) fun x2 c2 w36 o2 t2 m2 => ?_
      have q36 : Tch [] w7 w36 := ((q30.trans q31 (by simp)).trans t1 fun i hi => .inr (by have := hoff _ hi; omega)).trans t2 fun i hi => .inr (by
        rw [mem_rowL] at hi
        obtain ⟨z, hz, rfl⟩ := hi
        have := (own_ge o1 z hz).1
        omega)
      refine ⟨t7.trans q36 (by simp), by simp, ?_⟩
      rw [rows_append, rows_one]
      exact own_rsl o2 row_one
  · rintro w38 x' _ xc' ⟨t38, rfl, hm⟩
    refine (refSet_c w38 (S ++ [y]) x' _ xc' hm (by simp; omega)).mono ?_
    rintro e w41 ⟨rfl, t41⟩
    refine ⟨_, rfl, ?_⟩
    have q := (ht.trans t38 (by simp)).trans t41 (by simp)
    unfold setStep at hsn
    by_cases hR : Lib.RisesS (keysOf (S ++ [y]))
    · rw [decide_eq_true hR, cond_true]
      rw [if_pos hR] at hsn
      exact ⟨n - (k + 1), by omega, k + 1, by rw [wrap_i64 (by omega) (by omega)]; omega, by omega, rfl, by rw [hsn], by rw [hsn]; exact hm.tch t41 (fun _ _ h => by cases h), q⟩
    · rw [decide_eq_false hR, cond_false]
      rw [if_neg hR] at hsn
      exact ⟨n - (k + 1), by omega, k + 1, by rw [wrap_i64 (by omega) (by omega)]; omega, by omega, rfl, by rw [hsn], by rw [hsn]; exact (hx.tch t38 (fun _ _ h => by cases h)).tch t41 (fun _ _ h => by cases h), q⟩
/-! ### lent -/
abbrev tailC : List Value := [.int .i64 0, .int .i64 0, .int .i64 (-31), .int .i64 0, .int .i64 0, .int .i64 (-32)]
theorem put_at {w : World} {b o : Nat} {cs : List Value} (h : Blk w b cs) (ho : o < cs.length) {A : Addr} (hA : A = ⟨b, o, none⟩) {v : Value} (h1 : one v = true) {K : World → Prop}
    (hK : ∀ w', Blk w' b (cs.set o v) → Tch [b] w w' → w'.heap.size = w.heap.size → K w') :
    one v = true ∧ Option.isSome (World.cell? w A) = true ∧ World.frozen? w A = false ∧ ∀ w' : World, w' = World.setCell w A v → K w' := by
  have := put_cell h o ho h1 hK
  rw [add_mk, Nat.zero_add] at this
  rw [hA]
  exact this
theorem lent_c (w : World) (l : List Rw) (a : Option Addr) (n c : Nat) (hr : RSl w 3 a n c (rows rwC l)) (hN : n ≤ 1000000000) :
    Calls Tryd.prog 24 #[.slice a n c] w fun e w' => e = .returned (.slice (some ⟨w.heap.size, 0, none⟩) n (n + 2)) ∧ Blk w' w.heap.size (rows rwC l ++ tailC) ∧ Tch [] w w' ∧ w.heap.size < w'.heap.size := by
  have hn := hr.count rwC_len (by omega)
  have hrl : (rows rwC l).length = n * 3 := hr.len
  refine c24 _ _ _ ?_
  unfold d24
  rw [wrap_i64 (by omega) (by omega), wrap_i64 (by omega) (by omega)]
  have e2 : ((n : Nat) : Int) + 2 = ((n + 2 : Nat) : Int) := by omega
  have e1 : ((n : Nat) : Int) + 1 = ((n + 1 : Nat) : Int) := by omega
  rw [e2, e1]
  refine mk_at rsT (by omega) (by omega) fun w2 cs hcl hcz hB t2 s2 => ?_
  have hcz' := hcz _ zcRow rfl
  have htail : cs.drop (n * 3) = [.int .i64 0, .int .i64 0, .int .i64 0, .int .i64 0, .int .i64 0, .int .i64 0] := by
    refine List.ext_getElem? fun j => ?_
    rw [List.getElem?_drop]
    by_cases hj : j < 6
    · rw [hcz' _ (by omega)]
      have : (n * 3 + j) % 3 = j % 3 := by omega
      rw [this]
      match j, hj with
      | 0, _ | 1, _ | 2, _ | 3, _ | 4, _ | 5, _ => rfl
    · rw [List.getElem?_eq_none (by omega), List.getElem?_eq_none (by show 6 ≤ j; omega)]
  obtain ⟨ob, hob⟩ : ∃ ob, w.heap.size = ob := ⟨_, rfl⟩
  rw [hob] at hB s2 ⊢
  refine cpyN rsT hB (hr.tch t2 (fun _ _ h => by cases h)) (by rw [Nat.min_eq_left (by omega)]; omega) fun w5 hB5 t5 s5 => ?_
  have hK := hB5.blk
  have hsp : splice cs 0 ((rows rwC l).take (min n (n + 2) * 3)) = rows rwC l ++ [.int .i64 0, .int .i64 0, .int .i64 0, .int .i64 0, .int .i64 0, .int .i64 0] := by
    rw [Nat.min_eq_left (by omega), List.take_of_length_le (by omega)]
    unfold splice
    rw [hrl, Nat.zero_add, htail]
    rfl
  rw [hsp] at hK
  replace t5 := t2.trans t5 (by simp; omega)
  have ea : ∀ k : Nat, ((⟨ob, 0, none⟩ : Addr).add (k * 3)).add 2 = ⟨ob, k * 3 + 2, none⟩ := fun k => by rw [add_mk, add_mk, Nat.zero_add]
  refine ⟨by omega, by omega, ?_⟩
  rw [Int.toNat_natCast]
  refine put_at hK (o := n * 3 + 2) (by simp; omega) (ea n) rfl fun w8 hK t8 s8 => ?_
  rw [List.set_append_right _ _ (by omega), hrl, show n * 3 + 2 - n * 3 = 2 by omega] at hK
  refine ⟨by omega, by omega, ?_⟩
  rw [Int.toNat_natCast]
  refine put_at hK (o := (n + 1) * 3 + 2) (by simp; omega) (ea (n + 1)) rfl fun w10 hK t10 s10 => ?_
  rw [List.set_append_right _ _ (by omega), hrl, show (n + 1) * 3 + 2 - n * 3 = 5 by omega] at hK
  refine ⟨by omega, by omega, ?_, hK, (t5.trans t8 (by simp; omega)).trans t10 (by simp; omega), by omega⟩
  rw [if_neg (by omega)]
  rfl
/-! ### sameChanges -/
structure Chg.wf (c : Chg) : Prop where
  k : Lib.kI c.k
  was : Sha.I64 c.was.2
  is : Sha.I64 c.is.2
end Go.Proofs.YtjkbjppopdfggaaDoor.Tre
