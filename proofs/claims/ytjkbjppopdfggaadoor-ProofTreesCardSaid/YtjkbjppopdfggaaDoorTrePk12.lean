/-
  ARGUMENTS OF THE TREES' LAWS: rows, keys, numbers, opened.
  TREES OVER ROWS: their nodes, texts, proofs (plain functions).
  TREES OVER ROWS: Rows: its contract.
  TREES OVER ROWS: Diff: its contract.
  THE REFERENCE'S DIFFERENCES: put, Sort, at, Diff: contracts.
  WORDS FOR CONTRACTS: copy of elements of any size.
  THE LAWS' HELPERS: few, set, lent, sameChanges: contracts.
  Own work. No macro, syntax, notation, axiom.
-/
import Derived.Test.YtjkbjppopdfggaaDoorTrePk7
import Derived.Test.YtjkbjppopdfggaaDoorTrePk11
import Derived.Test.YtjkbjppopdfggaaDoorTrePk8
import Derived.Laws.CopyRow
import Derived.Laws.AppendOwn
namespace Go.Proofs.YtjkbjppopdfggaaDoor.Tre
open Go Den Fn Sha
open Go.ChangeShapes Go.WideShapes Go.ChangeAt Go.RowKit
section
variable {H : Type} {enc : TypeId × Value → H} {P : Program}
/-- A slice. -/
theorem open_slR {t e : TypeId} {k : List CK} (ht : P.underlying t = some (.slice e)) (hs : shT P 6 t = some [.sl k]) {W : World} {base : Nat} {v : Value} {x : DataW H} {ps : List MemPlace} (hval : Value.okWide P W .any base t v) (hd : DataW.Trod enc P W 0 (fun _ => true) true t v x ps) : RepV W 6 (.sl k) v := by
  obtain ⟨a, n, c, rfl⟩ := okWide_slice ht hval
  obtain ⟨m, hm⟩ := hd
  exact (open_rep 6 m t _ hs [.slice a n c] _ (by simpa [Value.cells] using hm)).1
end
theorem uRows : Tryd.prog.underlying 55 = some (.slice 31) := by kernel_rfl
theorem rowsShape : shT Tryd.prog 6 55 = some [.sl [.int .i64, .int .i64, .int .i64]] := by kernel_rfl
theorem rows_rows {W : World} {d : Nat} : ∀ {rs : List (List Value)}, (∀ r ∈ rs, RepR W d [.int .i64, .int .i64, .int .i64] r) → ∃ l : List Rw, rs.flatten = rows rwC l ∧ ∀ x ∈ l, x.wf
  | [], _ => ⟨[], rfl, by simp⟩
  | r :: rs, h => by
    obtain ⟨l, h1, h2⟩ := rows_rows fun x hx => h x (List.mem_cons_of_mem _ hx)
    obtain ⟨v1, vs, rfl, g1, g⟩ := (h r (by simp)).cons
    obtain ⟨v2, vs, rfl, g2, g⟩ := g.cons
    obtain ⟨v3, vs, rfl, g3, g⟩ := g.cons
    obtain rfl := g.nil
    obtain ⟨t, rfl, ht⟩ := g1.int
    obtain ⟨r, rfl, hr⟩ := g2.int
    obtain ⟨v, rfl, hv⟩ := g3.int
    refine ⟨⟨t, r, v⟩ :: l, by rw [List.flatten_cons, h1, rows_cons], fun x hx => ?_⟩
    rcases List.mem_cons.1 hx with rfl | hx
    · exact ⟨i64_wf.1 ht, i64_wf.1 hr, i64_wf.1 hv⟩
    · exact h2 x hx
/-- Rows that come in. -/
theorem rows_open {W : World} {d : Nat} {v : Value} (h : RepV W d (.sl [.int .i64, .int .i64, .int .i64]) v) : ∃ (a : Option Addr) (n c : Nat) (l : List Rw), v = .slice a n c ∧ RSl W 3 a n c (rows rwC l) ∧ ∀ x ∈ l, x.wf := by
  obtain ⟨d', a, n, c, rs, rfl, rfl, hn, hc, hr, hrs⟩ := h.sl
  obtain ⟨l, h1, h2⟩ := rows_rows hrs
  rw [h1] at hr
  exact ⟨a, n, c, l, rfl, by simpa using hr, h2⟩
theorem uKeys : Tryd.prog.underlying 67 = some (.slice 29) := by kernel_rfl
theorem keysShape : shT Tryd.prog 6 67 = some [.sl [.int .i64, .int .i64]] := by kernel_rfl
theorem keys_rows {W : World} {d : Nat} : ∀ {rs : List (List Value)}, (∀ r ∈ rs, RepR W d [.int .i64, .int .i64] r) → ∃ l : List (Int × Int), rs.flatten = rows Lib.kC l ∧ ∀ x ∈ l, Lib.kI x
  | [], _ => ⟨[], rfl, by simp⟩
  | r :: rs, h => by
    obtain ⟨l, h1, h2⟩ := keys_rows fun x hx => h x (List.mem_cons_of_mem _ hx)
    obtain ⟨v1, vs, rfl, g1, g⟩ := (h r (by simp)).cons
    obtain ⟨v2, vs, rfl, g2, g⟩ := g.cons
    obtain rfl := g.nil
    obtain ⟨t, rfl, ht⟩ := g1.int
    obtain ⟨r, rfl, hr⟩ := g2.int
    refine ⟨(t, r) :: l, by rw [List.flatten_cons, h1, rows_cons], fun x hx => ?_⟩
    rcases List.mem_cons.1 hx with rfl | hx
    · exact ⟨i64_wf.1 ht, i64_wf.1 hr⟩
    · exact h2 x hx
/-- Keys that come in. -/
theorem keys_open {W : World} {d : Nat} {v : Value} (h : RepV W d (.sl [.int .i64, .int .i64]) v) : ∃ (a : Option Addr) (n c : Nat) (l : List (Int × Int)), v = .slice a n c ∧ RSl W 2 a n c (rows Lib.kC l) ∧ (∀ x ∈ l, Lib.kI x) ∧ n ≤ 9223372036854775807 := by
  obtain ⟨d', a, n, c, rs, rfl, rfl, hn, hc, hr, hrs⟩ := h.sl
  obtain ⟨l, h1, h2⟩ := keys_rows hrs
  rw [h1] at hr
  have hml : maxLen = 9223372036854775807 := by unfold maxLen; rfl
  have := hr.cap
  exact ⟨a, n, c, l, rfl, by simpa using hr, h2, by omega⟩
end Go.Proofs.YtjkbjppopdfggaaDoor.Tre
namespace Go.Proofs.YtjkbjppopdfggaaDoor.Tre
open Go Den Fn Sha
open Go.RowKit (Below)
open Classical
set_option maxRecDepth 8000
set_option maxHeartbeats 2000000
def Tr.node : Tr → Nd
  | .leaf x => ⟨1, 0, z32, z32, x.t, x.r, x.v⟩
  | .fork n l r => ⟨2, (n : Int), l.sum, r.sum, 0, 0, 0⟩
/-- All parts, the top first, the left ones ahead of the right ones. -/
def Tr.subs : Tr → List Tr
  | .leaf x => [.leaf x]
  | .fork n l r => .fork n l r :: (l.subs ++ r.subs)
abbrev Tr.nodes (t : Tr) : List Nd := t.subs.map Tr.node
def Tr.text : Tr → List Int
  | .leaf x => leafT x.t x.r x.v
  | .fork n l r => forkT (n : Int) l.sum r.sum
theorem Tr.sum_text (t : Tr) : t.sum = sha t.text := by cases t <;> rfl
def Tr.ok : Tr → Prop
  | .leaf x => x.ok
  | .fork n l r => n < 80 ∧ l.ok ∧ r.ok
theorem Tr.subs_self (t : Tr) : t ∈ t.subs := by cases t <;> simp [Tr.subs]
theorem Tr.subs_pos (t : Tr) : ∃ l, t.subs = t :: l := by cases t <;> exact ⟨_, rfl⟩
theorem Tr.subs_ok : ∀ {t : Tr}, t.ok → ∀ s ∈ t.subs, s.ok
  | .leaf x, h, s, hs => by simp [Tr.subs] at hs; rw [hs]; exact h
  | .fork n l r, h, s, hs => by
    rcases List.mem_cons.1 hs with rfl | hs
    · exact h
    · rcases List.mem_append.1 hs with hs | hs
      · exact Tr.subs_ok h.2.1 s hs
      · exact Tr.subs_ok h.2.2 s hs
theorem i64_n {n : Nat} (h : n < 80) : Sha.I64 (n : Int) := by unfold Sha.I64; omega
theorem i64_k1 : Sha.I64 1 := by unfold Sha.I64; decide
theorem i64_k2 : Sha.I64 2 := by unfold Sha.I64; decide
theorem Tr.node_ok {t : Tr} (h : t.ok) : t.node.ok := by
  cases t with
  | leaf x => exact ⟨rfl, rfl, z32_bytes, z32_bytes, i64_k1, i64_0, h.t, h.r, h.v⟩
  | fork n l r => exact ⟨l.sum_len, r.sum_len, l.sum_bytes, r.sum_bytes, i64_k2, i64_n h.1, i64_0, i64_0, i64_0⟩
theorem Tr.of_node {t : Tr} (h : t.ok) : ofS t.node = (t.sum, 0) := by
  cases t with
  | leaf x =>
    unfold ofS
    rw [if_neg (by simp [Tr.node]), if_pos ⟨rfl, rfl, rfl, rfl, h.key⟩]
    rfl
  | fork n l r =>
    unfold ofS
    rw [if_neg (by simp [Tr.node]), if_neg (by simp [Tr.node]), if_pos ⟨rfl, ⟨rfl, rfl, rfl⟩, by show (0 : Int) ≤ (n : Int); omega, by show (n : Int) < 80; have := h.1; omega⟩]
    rfl
theorem Tr.text_node {t : Tr} (h : t.ok) : textS t.node = some t.text := by
  cases t with
  | leaf x =>
    unfold textS
    rw [if_neg (by simp [Tr.node]), if_pos (by rfl), if_pos ⟨⟨rfl, rfl⟩, rfl, h.key⟩]
    rfl
  | fork n l r =>
    unfold textS
    rw [if_neg (by simp [Tr.node]), if_neg (by simp [Tr.node]), if_pos (by rfl), if_pos ⟨⟨rfl, rfl, rfl⟩, by show (0 : Int) ≤ (n : Int); omega, by show (n : Int) < 80; have := h.1; omega⟩]
    rfl
/-- A text is one node's. -/
theorem leafT_inj {x y : Rw} (hx : x.ok) (hy : y.ok) (h : leafT x.t x.r x.v = leafT y.t y.r y.v) : x = y := by
  unfold leafT at h
  have h1 := List.append_inj h (by simp [Sha.keyB_length])
  have h2 := List.append_inj h1.1 rfl
  have hk := congrArg val h2.2
  have hv := congrArg Lib.beU h1.2
  have e1 : val (Sha.keyB x.t x.r) = _ := val_key hx.key hx.r
  have e2 : val (Sha.keyB y.t y.r) = _ := val_key hy.key hy.r
  have u1 : 0 ≤ IntKind.wrap .u64 x.v ∧ IntKind.wrap .u64 x.v < 18446744073709551616 := by rw [wrap_u64_eq]; omega
  have u2 : 0 ≤ IntKind.wrap .u64 y.v ∧ IntKind.wrap .u64 y.v < 18446744073709551616 := by rw [wrap_u64_eq]; omega
  have v1 : Lib.beU (Sha.be8 (IntKind.wrap .u64 x.v)) = _ := Lib.beU_be8 u1.1 u1.2
  have v2 : Lib.beU (Sha.be8 (IntKind.wrap .u64 y.v)) = _ := Lib.beU_be8 u2.1 u2.2
  rw [v1, v2, wrap_u64_eq, wrap_u64_eq] at hv
  rw [e1, e2] at hk
  have a1 := hx.r
  have a2 := hy.r
  have a3 := hx.v
  have a4 := hy.v
  unfold Sha.I64 at a1 a2 a3 a4
  have : x.t = y.t ∧ x.r = y.r ∧ x.v = y.v := by omega
  obtain ⟨xt, xr, xv⟩ := x
  obtain ⟨yt, yr, yv⟩ := y
  obtain ⟨rfl, rfl, rfl⟩ := this
  rfl
theorem Tr.text_inj {s t : Tr} (hs : s.ok) (ht : t.ok) (h : s.text = t.text) : s.node = t.node := by
  cases s with
  | leaf x =>
    cases t with
    | leaf y => rw [leafT_inj hs ht h]
    | fork n l r =>
      have := congrArg (fun l : List Int => l.head?) h
      simp [Tr.text, leafT, forkT] at this
  | fork n l r =>
    cases t with
    | leaf y =>
      have := congrArg (fun l : List Int => l.head?) h
      simp [Tr.text, leafT, forkT] at this
    | fork m a b =>
      have h' : [1, IntKind.wrap .u8 (n : Int)] ++ l.sum ++ r.sum = [1, IntKind.wrap .u8 (m : Int)] ++ a.sum ++ b.sum := h
      have h1 := List.append_inj h' (by simp [Tr.sum_len])
      have h2 := List.append_inj h1.1 rfl
      have h3 : IntKind.wrap .u8 (n : Int) = IntKind.wrap .u8 (m : Int) := by simpa using h2.1
      have hn := hs.1
      have hm := ht.1
      rw [wrap_u8 (by omega) (by omega), wrap_u8 (by omega) (by omega)] at h3
      have : n = m := by omega
      subst this
      show (⟨2, (n : Int), l.sum, r.sum, 0, 0, 0⟩ : Nd) = ⟨2, (n : Int), a.sum, b.sum, 0, 0, 0⟩
      rw [h2.2, h1.2]
/-! ### The tree over rows, and its fuel -/
theorem treeS_fuel : ∀ {k m : Nat} {l : List Rw}, l.length ≤ k → l.length ≤ m → 1 ≤ l.length → RowsOk l → treeS k l = treeS m l
  | 0, m, l, h1, _, h3, _ => by omega
  | k + 1, 0, l, _, h2, h3, _ => by omega
  | k + 1, m + 1, l, h1, h2, h3, h => by
    unfold treeS
    by_cases e : l.length = 1
    · rw [if_pos e, if_pos e]
    · rw [if_neg e, if_neg e]
      obtain ⟨g1, g2, _⟩ := (partBit_ok h (by omega)).at
      rw [treeS_fuel (k := k) (m := m) (by rw [List.length_take]; omega) (by rw [List.length_take]; omega) (by rw [List.length_take]; omega) (h.take _), treeS_fuel (k := k) (m := m) (by rw [List.length_drop]; omega) (by rw [List.length_drop]; omega) (by rw [List.length_drop]; omega) (h.drop _)]
noncomputable def treeT (l : List Rw) : Tr := treeS l.length l
theorem treeT_one (x : Rw) : treeT [x] = .leaf x := by
  show treeS (0 + 1) [x] = _
  rw [treeS, if_pos (by rfl)]; rfl
theorem treeT_two {l : List Rw} (h : RowsOk l) (h2 : 2 ≤ l.length) : treeT l = .fork (partBit l) (treeT (l.take (partAt l (partBit l)))) (treeT (l.drop (partAt l (partBit l)))) := by
  obtain ⟨g1, g2, _⟩ := (partBit_ok h h2).at
  unfold treeT
  obtain ⟨k, hk⟩ : ∃ k, l.length = k + 1 := ⟨l.length - 1, by omega⟩
  rw [hk, treeS, if_neg (by omega)]
  rw [treeS_fuel (k := k) (m := (l.take (partAt l (partBit l))).length) (by rw [List.length_take]; omega) (Nat.le_refl _) (by rw [List.length_take]; omega) (h.take _), treeS_fuel (k := k) (m := (l.drop (partAt l (partBit l))).length) (by rw [List.length_drop]; omega) (Nat.le_refl _) (by rw [List.length_drop]; omega) (h.drop _)]
theorem treeT_ok : ∀ {k : Nat} {l : List Rw}, l.length ≤ k → 1 ≤ l.length → RowsOk l → (treeT l).ok
  | 0, l, h1, h2, _ => by omega
  | k + 1, l, h1, h2, h => by
    by_cases e : l.length = 1
    · obtain ⟨x, rfl⟩ := List.length_eq_one_iff.1 e
      rw [treeT_one]
      exact h.ok x (by simp)
    · obtain ⟨g1, g2, g3⟩ := (partBit_ok h (by omega)).at
      rw [treeT_two h (by omega)]
      exact ⟨g3, treeT_ok (k := k) (by rw [List.length_take]; omega) (by rw [List.length_take]; omega) (h.take _), treeT_ok (k := k) (by rw [List.length_drop]; omega) (by rw [List.length_drop]; omega) (h.drop _)⟩
/-! ### What the nodes' map holds -/
theorem map_u8_inj {x y : List Int} (h : u8 x = u8 y) : x = y := (List.map_inj_right (fun a b h => by cases h; rfl)).1 h
theorem mGet_put {k k' : List Value} {v : Value} : ∀ {es : Ents}, mGet (mPut es k v) k' = if k = k' then some v else mGet es k'
  | [] => rfl
  | e :: r => by
    unfold mPut
    by_cases h : e.1 = k
    · rw [if_pos h]
      unfold mGet
      by_cases h2 : k = k'
      · rw [if_pos h2, if_pos h2]
      · rw [if_neg h2, if_neg h2, if_neg (by rw [h]; exact h2)]
    · rw [if_neg h]
      show (if e.1 = k' then some e.2 else mGet (mPut r k v) k') = _
      rw [mGet_put]
      show _ = if k = k' then some v else if e.1 = k' then some e.2 else mGet r k'
      by_cases h2 : k = k'
      · rw [if_pos h2, if_neg (by rw [← h2]; exact h)]
        rw [if_pos h2]
      · rw [if_neg h2, if_neg h2]
theorem insE_get {k : List Value} : ∀ {L : List (List Int × Value)} {es : Ents}, (∀ v, mGet (insE es L) k = some v → (∃ q ∈ L, u8 q.1 = k ∧ q.2 = v) ∨ mGet es k = some v) ∧ (mGet (insE es L) k = none → (∀ q ∈ L, u8 q.1 ≠ k) ∧ mGet es k = none)
  | [], es => ⟨fun v h => .inr h, fun h => ⟨by simp, h⟩⟩
  | q :: L, es => by
    obtain ⟨h1, h2⟩ := insE_get (k := k) (L := L) (es := mPut es (u8 q.1) q.2)
    constructor
    · intro v h
      rcases h1 v h with ⟨p, hp, h3⟩ | h3
      · exact .inl ⟨p, by simp [hp], h3⟩
      · rw [mGet_put] at h3
        split at h3
        · rename_i he
          cases h3
          exact .inl ⟨q, by simp, he, rfl⟩
        · exact .inr h3
    · intro h
      obtain ⟨h3, h4⟩ := h2 h
      rw [mGet_put] at h4
      split at h4
      · cases h4
      · rename_i he
        refine ⟨fun p hp => ?_, h4⟩
        rcases List.mem_cons.1 hp with rfl | hp
        · exact he
        · exact h3 p hp
theorem PartAt.entry {F : Nat → Prop} {w : World} : ∀ {tr : Tr} {v : Value} {L : List (List Int × Value)}, PartAt F w v tr L → ∀ q ∈ L, ∃ s ∈ tr.subs, s.sum = q.1 ∧ ∃ Ls, PartAt F w q.2 s Ls
  | .leaf x, v, L, h => fun q hq => by
    obtain ⟨b, h1, h2, h3, h4⟩ := id h
    rw [h4, List.mem_singleton] at hq
    rw [hq]
    exact ⟨_, Tr.subs_self _, rfl, L, h⟩
  | .fork n l r, v, L, h => fun q hq => by
    obtain ⟨b, vl, vr, Ll, Lr, h1, h2, h3, hl, hr, h4⟩ := id h
    rw [h4] at hq
    rcases List.mem_append.1 hq with hq | hq
    · rcases List.mem_append.1 hq with hq | hq
      · obtain ⟨s, g1, g2⟩ := PartAt.entry hl q hq
        exact ⟨s, by simp [Tr.subs, g1], g2⟩
      · obtain ⟨s, g1, g2⟩ := PartAt.entry hr q hq
        exact ⟨s, by simp [Tr.subs, g1], g2⟩
    · rw [List.mem_singleton] at hq
      rw [hq]
      exact ⟨_, Tr.subs_self _, rfl, L, h⟩
theorem PartAt.all {F : Nat → Prop} {w : World} : ∀ {tr : Tr} {v : Value} {L : List (List Int × Value)}, PartAt F w v tr L → ∀ s ∈ tr.subs, ∃ q ∈ L, q.1 = s.sum
  | .leaf x, v, L, ⟨b, h1, h2, h3, h4⟩ => fun s hs => by
    simp [Tr.subs] at hs
    rw [hs, h4]
    exact ⟨_, List.mem_singleton_self _, rfl⟩
  | .fork n l r, v, L, ⟨b, vl, vr, Ll, Lr, h1, h2, h3, hl, hr, h4⟩ => fun s hs => by
    rw [h4]
    rcases List.mem_cons.1 hs with rfl | hs
    · exact ⟨_, List.mem_append_right _ (List.mem_singleton_self _), rfl⟩
    · rcases List.mem_append.1 hs with hs | hs
      · obtain ⟨q, g1, g2⟩ := PartAt.all hl s hs
        exact ⟨q, by simp [g1], g2⟩
      · obtain ⟨q, g1, g2⟩ := PartAt.all hr s hs
        exact ⟨q, by simp [g1], g2⟩
/-- What a digest leads to. -/
theorem PartAt.look {F : Nat → Prop} {w : World} {tr : Tr} {v : Value} {L : List (List Int × Value)} (h : PartAt F w v tr L) (d : List Int) :
    (mGet (insE [] L) (u8 d) = none ∧ ∀ s ∈ tr.subs, s.sum ≠ d) ∨ ∃ v', mGet (insE [] L) (u8 d) = some v' ∧ ∃ s ∈ tr.subs, s.sum = d ∧ ∃ Ls, PartAt F w v' s Ls := by
  obtain ⟨h1, h2⟩ := insE_get (k := u8 d) (L := L) (es := [])
  cases hg : mGet (insE [] L) (u8 d) with
  | none =>
    refine .inl ⟨rfl, fun s hs he => ?_⟩
    obtain ⟨q, hq, hqs⟩ := h.all s hs
    exact (h2 hg).1 q hq (by rw [hqs, he])
  | some v' =>
    rcases h1 v' hg with ⟨q, hq, hk, rfl⟩ | h3
    · obtain ⟨s, g1, g2, g3⟩ := h.entry q hq
      exact .inr ⟨_, rfl, s, g1, by rw [g2]; exact map_u8_inj hk, g3⟩
    · cases h3
/-! ### Proofs -/
noncomputable def proveS (kb : List Int) : Tr → List Fk × Rw
  | .leaf x => ([], x)
  | .fork n l r => if bitS kb (n : Int) = 0 then (⟨(n : Int), r.sum⟩ :: (proveS kb l).1, (proveS kb l).2) else (⟨(n : Int), l.sum⟩ :: (proveS kb r).1, (proveS kb r).2)
noncomputable def proofS (kb : List Int) (l : List Rw) : Pf := if l = [] then ⟨[], false, 0, 0, 0⟩ else ⟨(proveS kb (treeT l)).1, true, (proveS kb (treeT l)).2.t, (proveS kb (treeT l)).2.r, (proveS kb (treeT l)).2.v⟩
theorem proveS_ok {kb : List Int} : ∀ {t : Tr}, t.ok → (∀ f ∈ (proveS kb t).1, f.ok ∧ Rk f.bit) ∧ (proveS kb t).2.ok ∧ (proveS kb t).1.length < t.rows.length
  | .leaf x, h => ⟨by simp [proveS], h, by simp [proveS, Tr.rows]⟩
  | .fork n l r, h => by
    obtain ⟨a1, a2, a3⟩ := proveS_ok (kb := kb) h.2.1
    obtain ⟨b1, b2, b3⟩ := proveS_ok (kb := kb) h.2.2
    have hn := h.1
    unfold proveS
    have hlen : (Tr.fork n l r).rows.length = l.rows.length + r.rows.length := by show (l.rows ++ r.rows).length = _; rw [List.length_append]
    split
    · refine ⟨fun f hf => ?_, a2, by simp only [List.length_cons]; omega⟩
      rcases List.mem_cons.1 hf with rfl | hf
      · exact ⟨⟨i64_n hn, r.sum_len, r.sum_bytes⟩, ⟨by show (0 : Int) ≤ (n : Int); omega, by show (n : Int) < 80; omega⟩⟩
      · exact a1 f hf
    · refine ⟨fun f hf => ?_, b2, by simp only [List.length_cons]; omega⟩
      rcases List.mem_cons.1 hf with rfl | hf
      · exact ⟨⟨i64_n hn, l.sum_len, l.sum_bytes⟩, ⟨by show (0 : Int) ≤ (n : Int); omega, by show (n : Int) < 80; omega⟩⟩
      · exact b1 f hf
end Go.Proofs.YtjkbjppopdfggaaDoor.Tre
namespace Go.Proofs.YtjkbjppopdfggaaDoor.Tre
open Go Den Fn Sha
open Go.RowKit (Below)
open Classical
set_option maxRecDepth 8000
set_option maxHeartbeats 4000000
/-- rows, through the interface. -/
theorem rows_k {F : Nat → Prop} : ∀ (tr : Tr) {w : World} {v : Value} {L : List (List Int × Value)} (_ : PartAt F w v tr L) {B : Nat} {x : Option Addr} {k c : Nat} {xs : List Value} (_ : w.ownsRow B 31 3 (.slice x k c) k xs) (_ : B ≤ w.heap.size) (_ : ∀ z, F z → z < B) (_ : k + tr.rows.length ≤ 2000000000000)
    {K : Option Addr → Nat → Nat → World → Prop} (_ : ∀ x' c' w', w'.ownsRow B 31 3 (.slice x' (k + tr.rows.length) c') (k + tr.rows.length) (xs ++ rows rwC tr.rows) → Tch (rowL x) w w' → Moved x x' w.heap.size → K x' (k + tr.rows.length) c' w'),
    ∃ t u g r, v = .iface t u ∧ Sem.run Tryd.prog (method (Tryd.prog.types.size + Made.depth) t u "prelude/proof.rows") w = .ok (g, r) w ∧ HasBody Tryd.prog g ∧ Calls Tryd.prog g (#[r] ++ #[.slice x k c]) w fun e w' => ∃ (y : Option Addr) (yn : Nat) (yc : Nat), e = .returned (.slice y yn yc) ∧ K y yn yc w'
  | .leaf y, w, v, L, h, B, x, k, c, xs, ho, hB, hF, hk, K, hK => by
    obtain ⟨b, rfl, _, hb, _⟩ := h
    refine ⟨_, _, _, _, rfl, mLeafRows _ w, hasBody_spec (by kernel_rfl), ?_⟩
    show Calls _ _ #[.pointer (some ⟨b, 0, none⟩), .slice x k c] w _
    refine c111 _ _ _ _ ?_
    unfold d111
    refine get_part hb 0 3 (rwC y) rfl rfl ?_
    have hk' : k + 1 ≤ 2000000000000 := hk
    refine app_elem_at rsT ho (by rw [zcRow]; rfl) (ys := rwC y) rfl rfl rwC_one hB (by omega) (by omega) fun a5 c5 w7 o5 t5 m5 => ?_
    exact ⟨_, _, _, rfl, hK a5 c5 w7 (by rw [show (Tr.leaf y).rows = [y] from rfl, rows_one]; exact o5) t5 m5⟩
  | .fork n l r, w, v, L, h, B, x, k, c, xs, ho, hB, hF, hk, K, hK => by
    obtain ⟨b, vl, vr, Ll, Lr, rfl, hbF, hb, hl, hr, _⟩ := h
    refine ⟨_, _, _, _, rfl, mForkRows _ w, hasBody_spec (by kernel_rfl), ?_⟩
    show Calls _ _ #[.pointer (some ⟨b, 0, none⟩), .slice x k c] w _
    refine c115 _ _ _ _ ?_
    unfold d115
    rintro w2 rfl
    have ht := (Tch.refl [] w).drew
    have s2 : w.drew.heap.size = w.heap.size := rfl
    generalize w.drew = w2 at *
    replace hb := hb.tch ht (by simp)
    replace hl := hl.tch ht (by simp)
    replace hr := hr.tch ht (by simp)
    replace ho := own_up ho ht (fun _ _ h => by cases h)
    have hlen : (Tr.fork n l r).rows.length = l.rows.length + r.rows.length := by show (l.rows ++ r.rows).length = _; rw [List.length_append]
    refine ⟨vr, by rw [add_mk]; exact hb.cell 2, vl, by rw [add_mk]; exact hb.cell 1, ?_⟩
    have hnc : isNilV vr = some false ∧ (∀ n f c, vr ≠ .func (.method n) f c) := by obtain ⟨q, h | h⟩ := hr.shape <;> rw [h] <;> exact ⟨rfl, by intros; simp⟩
    have hvr : ∀ {K : Value → Prop}, K vr → ncK vr K := fun {K} hK => by
      obtain ⟨q, h | h⟩ := hr.shape <;> rw [h] at hnc hK ⊢ <;> exact ⟨hnc.1, hnc.2, hK⟩
    refine hvr ?_
    refine rows_k l hl ho (by omega) hF (by omega) fun x' c' w13 o13 t13 m13 => ?_
    have hoff : ∀ z ∈ rowL x, ¬ F z := fun z hz hf => by
      rw [mem_rowL] at hz
      obtain ⟨q, hq, rfl⟩ := hz
      have := (own_ge ho q hq).1
      have := hF _ hf
      omega
    replace hb := hb.tch t13 (fun hm => hoff _ hm hbF)
    replace hr := hr.tch t13 hoff
    have s13 := t13.size
    refine ⟨⟨vr, by rw [add_mk]; exact hb.cell 2, rfl, rfl⟩, ?_⟩
    refine rows_k r hr o13 (by omega) hF (by omega) fun y c2 w21 o21 t21 m21 => ?_
    refine ⟨y, _, c2, rfl, ?_⟩
    have e1 : k + l.rows.length + r.rows.length = k + (Tr.fork n l r).rows.length := by omega
    have e2 : xs ++ rows rwC l.rows ++ rows rwC r.rows = xs ++ rows rwC (Tr.fork n l r).rows := by
      show _ = xs ++ rows rwC (l.rows ++ r.rows)
      rw [rows_append, List.append_assoc]
    rw [e1, e2] at o21
    rw [e1]
    refine hK y c2 w21 o21 ((ht.weaken (t := rowL x) (by simp)).trans (t13.trans t21 fun i hi => ?_) (fun i hi => .inl hi)) ?_
    · rw [mem_rowL] at hi
      obtain ⟨q, hq, rfl⟩ := hi
      exact m13 q hq
    · rw [← s2]
      exact m13.trans m21 s13
theorem rows_c {F : Nat → Prop} (w : World) (tb : Nat) (l : List Rw) (h : TreeAt F w tb l) (hR : RowsOk l) (hF : ∀ z, F z → z < w.heap.size) (hN : l.length ≤ 1000000000000) :
    Calls Tryd.prog 31 #[.pointer (some ⟨tb, 0, none⟩)] w fun e w' => ∃ a c, e = .returned (.slice a l.length c) ∧ w'.ownsRow w.heap.size 31 3 (.slice a l.length c) l.length (rows rwC l) ∧ Tch [] w w' := by
  obtain ⟨pb, v, L, _, _, _, hb, _, h⟩ := h
  refine c31 _ ?_
  unfold d31
  refine ⟨v, by rw [add_mk]; exact hb.cell 0, ?_⟩
  rcases h with ⟨rfl, rfl, _⟩ | ⟨hne, hp⟩
  · exact ⟨none, 0, rfl, own_nil _ _ _ _, Tch.refl _ _⟩
  have hnq : ∀ {K : Bool → Prop}, K false → nilQ 4 v K := fun {K} hK => by
    obtain ⟨q, h | h⟩ := hp.shape <;> rw [h] <;> exact hK
  refine hnq ?_
  refine ⟨v, by rw [add_mk]; exact hb.cell 0, ?_⟩
  have hrw : (treeS l.length l).rows = l := treeS_rows (Nat.le_refl _) (List.length_pos_iff.2 hne) hR
  refine rows_k _ hp (own_nil w w.heap.size _ _) (Nat.le_refl _) hF (by rw [hrw]; omega) fun x' c' w' ho ht hm => ?_
  rw [hrw, List.nil_append, Nat.zero_add] at *
  exact ⟨x', c', rfl, ho, ht⟩
end Go.Proofs.YtjkbjppopdfggaaDoor.Tre
namespace Go.Proofs.YtjkbjppopdfggaaDoor.Tre
open Go Den Fn Sha
open Go.RowKit (Below)
open Classical
set_option maxRecDepth 8000
set_option maxHeartbeats 4000000
abbrev chC (c : Chg) : List Value := [.int .i64 c.k.1, .int .i64 c.k.2, .bool c.was.1, .int .i64 c.was.2, .bool c.is.1, .int .i64 c.is.2]
/-- A row's fields are read. -/
theorem row_at {u : World} {a : Option Addr} {n c : Nat} {l : List Rw} (hr : RSl u 3 a n c (rows rwC l)) {i : Nat} {x : Rw} (hx : l[i]? = some x) : ∃ b o, a = some ⟨b, o, none⟩ ∧ Cells u (Addr.add (Addr.add ⟨b, o, none⟩ (i * 3)) 0) (Lib.kC x.k) ∧ u.cell? (Addr.add (Addr.add ⟨b, o, none⟩ (i * 3)) 2) = some (.int .i64 x.v) := by
  obtain ⟨b, o, h1, h2⟩ := hr.elem' rwC_len (by omega) hx
  refine ⟨b, o, h1, ?_, ?_⟩
  · have := cells_part h2 0 2
    rw [add_mk, add_mk]
    exact this
  · rw [add_mk, add_mk]
    exact cells_get h2 rfl
/-- The loop's state. -/
structure DI (w : World) (B N : Nat) (want : List Chg) (u : World) (l : Option Addr) (ln lc : Nat) (x : Option Addr) (xn xc : Nat) (y : Option Addr) (yn yc : Nat) (m : Nat) (xs ys : List Rw) (out : List Chg) : Prop where
  xr : RSl u 3 x xn xc (rows rwC xs)
  xb : ∀ z, x = some z → z.block < B
  yr : RSl u 3 y yn yc (rows rwC ys)
  yb : ∀ z, y = some z → z.block < B
  own : u.ownsRow B 65 6 (.slice l ln lc) ln (rows chC out)
  ln : ln = out.length
  tch : Tch [] w u
  lo : B ≤ u.heap.size
  base : w.heap.size ≤ B
  fuel : xs.length + ys.length ≤ m
  cnt : out.length + m ≤ N
  eq : out ++ diffS m xs ys = want
  xw : ∀ x ∈ xs, x.wf
  yw : ∀ x ∈ ys, x.wf
theorem DI.quiet {w u u' : World} {B N ln lc xn xc yn yc m : Nat} {want : List Chg} {l x y : Option Addr} {xs ys : List Rw} {out : List Chg} (h : DI w B N want u l ln lc x xn xc y yn yc m xs ys out) (ht : Tch [] u u') : DI w B N want u' l ln lc x xn xc y yn yc m xs ys out :=
  ⟨h.xr.tch ht (fun _ _ h => by cases h), h.xb, h.yr.tch ht (fun _ _ h => by cases h), h.yb, own_up h.own ht (fun _ _ h => by cases h), h.ln, h.tch.trans ht (by simp), by have := ht.size; have := h.lo; omega, h.base, h.fuel, h.cnt, h.eq, h.xw, h.yw⟩
theorem TreeAt.tch {F : Nat → Prop} {w w' : World} {s : List Nat} {tb : Nat} {l : List Rw} (h : TreeAt F w tb l) (ht : Tch s w w') (hs : ∀ k ∈ s, ¬ F k) : TreeAt F w' tb l := by
  obtain ⟨pb, v, L, h1, h2, h3, h4, h5, h6⟩ := h
  refine ⟨pb, v, L, h1, h2, h3, h4.tch ht fun hm => hs _ hm h1, h5.tch ht fun hm => hs _ hm h2, ?_⟩
  rcases h6 with h6 | ⟨h6, h7⟩
  · exact .inl h6
  · exact .inr ⟨h6, h7.tch ht hs⟩
theorem TreeAt.mono {F G : Nat → Prop} {w : World} {tb : Nat} {l : List Rw} (h : TreeAt F w tb l) (hFG : ∀ k, F k → G k) : TreeAt G w tb l := by
  obtain ⟨pb, v, L, h1, h2, h3, h4, h5, h6⟩ := h
  refine ⟨pb, v, L, hFG _ h1, hFG _ h2, h3, h4, h5, ?_⟩
  rcases h6 with h6 | ⟨h6, h7⟩
  · exact .inl h6
  · exact .inr ⟨h6, h7.mono hFG⟩
end Go.Proofs.YtjkbjppopdfggaaDoor.Tre
namespace Go.Proofs.YtjkbjppopdfggaaDoor.Tre
open Go Den Fn Sha
open Go.RowKit (Below)
open Classical
set_option maxRecDepth 8000
set_option maxHeartbeats 4000000
theorem keys_snoc {l : List Rw} {i : Nat} {x : Rw} (h : l[i]? = some x) : rows Lib.kC (keysOf (l.take i)) ++ Lib.kC x.k = rows Lib.kC (keysOf (l.take (i + 1))) := by
  obtain ⟨hi, rfl⟩ := List.getElem?_eq_some_iff.1 h
  rw [List.take_succ_eq_append_getElem hi]
  unfold keysOf
  rw [List.map_append, rows_append]
  show _ = _ ++ rows Lib.kC [_]
  rw [rows_one]
end Go.Proofs.YtjkbjppopdfggaaDoor.Tre
namespace Go.Proofs.YtjkbjppopdfggaaDoor.Den
open Go
open Go.RowKit (Below)
theorem run_copy_sz {P : Program} (w : World) (dT sT ty elem : TypeId) (g o dLen dCap : Nat) (a : Addr) (sLen sCap : Nat) (cur : Array Value) (t : TypeId) (cs : List Value) {i : TypeInfo}
    (hu : P.underlying dT = some (.slice elem)) (hq : P.info? elem = some i)
    (hg : w.heap[g]? = some (.cells cur t (0, 0))) (hn : cs.length = Nat.min sLen dLen * i.size)
    (hsrc : ∀ j v, cs[j]? = some v → w.cell? (a.add j) = some v) (hfit : o + cs.length ≤ cur.size) (h1 : ∀ v ∈ cs, v.oneCell' = true) :
    (Builtin.copy_ #[dT, sT] ty #[.slice (some ⟨g, o, none⟩) dLen dCap, .slice (some a) sLen sCap]).run P w =
      .ok (goInt (Nat.min sLen dLen)) (w.setRow g (cur.toList.take o ++ cs ++ cur.toList.drop (o + cs.length)).toArray) := by
  have hl := run_loadCells_list (P := P) w a cs hsrc
  have hst := run_storeCells_at P g o t cs 0 cur w hg (by simpa using hfit) h1
  simp [Builtin.copy_, run_underlying hu, Builtin.lenOf, Builtin.firstCells, sizeOf, typeInfo, hq, ← hn, hl, hst]
/-- A copy of elements into a block. -/
theorem cpyN {P : Program} {dT sT ty e : TypeId} {size bytes : Nat} (hT : slT P dT e size bytes = true) {w : World} {g o dn dc : Nat} {T : TypeId} {cur : List Value} (hg : BlkT w g T cur) {b : Option Addr} {sn sc : Nat} {ys : List Value}
    (hy : RSl w size b sn sc ys) (hfit : o + min sn dn * size ≤ cur.length) {K : Int → World → Prop}
    (hK : ∀ w', BlkT w' g T (splice cur o (ys.take (min sn dn * size))) → Tch [g] w w' → w'.heap.size = w.heap.size → K ((min sn dn : Nat) : Int) w') :
    RunV P (Builtin.copy_ #[dT, sT] ty #[.slice (some ⟨g, o, none⟩) dn dc, .slice b sn sc]) w fun v w' => ∃ x : Int, v = (.int .i64 x) ∧ K x w' := by
  obtain ⟨h1, h2, i, z, h3, h4, h5, h6, h7⟩ := slT_spec hT
  have hlen : (ys.take (min sn dn * size)).length = min sn dn * size := by
    rw [List.length_take, hy.len]
    exact Nat.min_eq_left (Nat.mul_le_mul_right _ (Nat.min_le_left _ _))
  have hsr : ∀ cs : Array Value, Tch [g] w (w.setRow g cs) ∧ (w.setRow g cs).heap.size = w.heap.size := fun cs =>
    ⟨⟨rfl, rfl, rfl, by simp [World.setRow], fun k _ hn => by
      have : g ≠ k := fun e => hn (by simp [e])
      simp [World.setRow, Array.getElem?_modify, this]⟩, by simp [World.setRow]⟩
  obtain ⟨rfl, hc⟩ | ⟨ad, rfl, hcells⟩ := hy.from
  · have hn : sn = 0 := by have := hy.cap; omega
    subst hn; subst hc
    refine ⟨_, _, run_copy_nil P w dT sT ty e ⟨g, o, none⟩ dn dc h1 (by rw [h3]; rfl), _, rfl, ?_⟩
    rw [Nat.zero_min] at hK
    exact hK w (by simpa [splice] using hg) (Tch.refl _ _) rfl
  · refine ⟨_, _, run_copy_sz w dT sT ty e g o dn dc ad sn sc cur.toArray T (ys.take (min sn dn * size)) h1 h3 hg (by rw [hlen, h5]) (fun j v hv => hcells j v (by rw [List.getElem?_take] at hv; split at hv; exact hv; cases hv)) (by rw [hlen]; simpa using hfit) (fun v hv => by rw [← one_eq]; exact hy.ones v (List.mem_of_mem_take hv)), _, rfl, ?_⟩
    refine hK _ ?_ (hsr _).1 (hsr _).2
    unfold BlkT
    rw [setRow_heap w g cur.toArray _ T (0, 0) hg]
    simp [splice, hlen]
/-- append, and the old slice still reads as it did. -/
theorem app_keep {P : Program} {t e ty : TypeId} {size bytes : Nat} (hT : slT P t e size bytes = true) {w : World} {base : Nat} {a : Option Addr} {n c : Nat} {xs : List Value} (hown : w.ownsRow base e size (.slice a n c) n xs)
    {b : Option Addr} {m mc : Nat} {ys : List Value} (hy : RSl w size b m mc ys) (hb : base ≤ w.heap.size) (hlen : n + m ≤ 9223372036854775807) (hbytes : (n + m) * bytes ≤ 140737488355328) {K : Option Addr → Nat → Nat → World → Prop}
    (hK : ∀ a' c' w', w'.ownsRow base e size (.slice a' (n + m) c') (n + m) (xs ++ ys) → Tch (rowL a) w w' → Moved a a' w.heap.size → (∀ g, a = some g → ∀ i v, xs[i]? = some v → w'.cell? (g.add i) = some v) → K a' (n + m) c' w') :
    RunV P (Builtin.append_ #[t, t] ty #[.slice a n c, .slice b m mc]) w fun v w' => ∃ (x : Option Addr) (xn : Nat) (xc : Nat), v = (.slice x xn xc) ∧ K x xn xc w' := by
  obtain ⟨v, w', hrun, a', k, c', rfl, hk, ho, ht, hm⟩ := app_at (K := fun x k xc w' => k = n + m ∧ w'.ownsRow base e size (.slice x (n + m) xc) (n + m) (xs ++ ys) ∧ Tch (rowL a) w w' ∧ Moved a x w.heap.size) hT hown hy hb hlen hbytes fun a' c' w' h1 h2 h3 => ⟨rfl, h1, h2, h3⟩
  subst hk
  refine ⟨_, _, hrun, a', _, c', rfl, hK a' c' w' ho ht hm ?_⟩
  intro g hg i v hv
  have hlen' : xs.length = n * size := hown.1
  have hil := (List.getElem?_eq_some_iff.1 hv).1
  -- the same block, or a new one
  have hcells : ∀ g', a' = some g' → ∀ i v, xs[i]? = some v → w'.cell? (g'.add i) = some v := fun g' hg' i v hv => by
    subst hg'
    have h0 : ∃ q, g' = ⟨q, 0, none⟩ := by
      obtain ⟨_, ⟨hv', _⟩ | ⟨q, cap, cur, hv', _⟩⟩ := ho
      · cases hv'
      · cases hv'; exact ⟨q, rfl⟩
    obtain ⟨q, rfl⟩ := h0
    exact ho.cells (g := q) rfl i v (by rw [List.getElem?_append_left (List.getElem?_eq_some_iff.1 hv).1]; exact hv)
  by_cases hsame : a' = a
  · exact hcells g (by rw [hsame, hg]) i v hv
  obtain ⟨h1, h2, inf, z, h3, h4, h5, h6, h7⟩ := slT_spec hT
  subst hg
  obtain ⟨_, ⟨hv', _⟩ | ⟨q, cap, cur, hv', hbq, hq, hnc, hcm, hcs, htk⟩⟩ := hown
  · cases hv'
  cases hv'
  obtain ⟨rfl, hc⟩ | ⟨ad, rfl, hsrc⟩ := hy.from
  · exfalso
    have hm0 : m = 0 := by have := hy.cap; omega
    subst hm0; subst hc
    have hown' : w.ownsRow base e size (.slice (some ⟨q, 0, none⟩) n c) n xs := ⟨hlen', .inr ⟨q, c, cur, rfl, hbq, hq, hnc, hcm, hcs, htk⟩⟩
    have hr := run_append_owned_none w base t ty e inf size h1 h3 _ n xs hown'
    rw [hr] at hrun
    cases hrun
    exact hsame rfl
  · by_cases hroom : n + m ≤ c
    · exfalso
      have hr := run_append_room (P := P) w t ty e inf h1 h3 q n c cur hq ad m mc ys (by rw [h5]; exact hy.len) hsrc (ones_cells.1 hy.ones) hroom (by rw [h5, hy.len, hcs, ← Nat.add_mul]; exact Nat.mul_le_mul_right _ hroom)
      rw [hr] at hrun
      cases hrun
      exact hsame rfl
    · have hown' : w.ownsRow base e size (.slice (some ⟨q, 0, none⟩) n c) n xs := ⟨hlen', .inr ⟨q, c, cur, rfl, hbq, hq, hnc, hcm, hcs, htk⟩⟩
      have holds : ∀ j u, xs[j]? = some u → w.cell? ((⟨q, 0, none⟩ : Addr).add j) = some u := hown'.cells (g := q) rfl
      have hr := run_append_grow (P := P) w t ty e inf z h1 h3 h4 ⟨q, 0, none⟩ n c xs (by rw [h5]; exact hlen') holds ad m mc ys (by rw [h5]; exact hy.len) hsrc (by omega) (by omega) (growslice_fits (by omega) (by rw [h6]; exact hbytes))
      rw [hr] at hrun
      cases hrun
      have hlt : q < w.heap.size := (Array.getElem?_eq_some_iff.1 hq).1
      have hcell := holds i v hv
      rw [World.cell?_of_block (w := w)]
      · exact hcell
      · rw [add_mk]
        exact Below.heap_alloc w.drew _ q hlt
end Go.Proofs.YtjkbjppopdfggaaDoor.Den
namespace Go.Proofs.YtjkbjppopdfggaaDoor.Tre
open Go Den Fn Sha
open Go.RowKit (Below)
open Classical
set_option maxRecDepth 8000
set_option maxHeartbeats 4000000
theorem rwCs_one {l : List Rw} : ∀ u ∈ rows rwC l, one u = true := fun u hu => by
  unfold rows at hu
  obtain ⟨v, hv, hu⟩ := List.mem_flatten.1 hu
  obtain ⟨x, _, rfl⟩ := List.mem_map.1 hv
  exact rwC_one u hu
theorem num_c (n : Int) (w : World) : Calls Tryd.prog 17 #[.int .i64 n] w fun e w' => e = .returned (.int .i64 n) ∧ w' = w := by
  refine c17 _ ?_
  unfold d17
  exact ⟨rfl, rfl⟩
/-! ### few -/
theorem few_c (w : World) (l : List Rw) (a : Option Addr) (n c : Nat) (hr : RSl w 3 a n c (rows rwC l)) :
    Calls Tryd.prog 22 #[.slice a n c] w fun e w' => ∃ a' c', e = .returned (.slice a' (l.take 300).length c') ∧ RSl w' 3 a' (l.take 300).length c' (rows rwC (l.take 300)) ∧ w' = w := by
  have hn := hr.count rwC_len (by omega)
  have hc := hr.cap
  refine c22 _ _ _ ?_
  unfold d22
  by_cases h : 300 < n
  · rw [bif_pos (by omega)]
    refine ⟨by omega, by omega, ?_⟩
    have hs := hr.sub (l := 0) (hh := 300) (by omega) (by omega)
    rw [rows_part, List.drop_zero] at hs
    rw [show (l.take 300).length = 300 by rw [List.length_take]; omega]
    exact ⟨_, _, rfl, hs, rfl⟩
  · rw [bif_neg (by omega)]
    rw [show l.take 300 = l from List.take_of_length_le (by omega), hn]
    exact ⟨a, c, rfl, hr, rfl⟩
/-! ### set -/
theorem refSet_c (w : World) (l : List Rw) (a : Option Addr) (n c : Nat) (hr : RSl w 3 a n c (rows rwC l)) (hN : n ≤ 1000000000000) :
    Calls Tryd.prog 29 #[.slice a n c] w fun e w' => e = .returned (.bool (decide (Lib.RisesS (keysOf l)))) ∧ Tch [] w w' := by
  have hn := hr.count rwC_len (by omega)
  refine c29 _ _ _ ?_
  unfold d29
  refine ⟨fun m x xn xc i u => ∃ k : Nat, i = k ∧ k ≤ n ∧ m = n - k ∧ xn = k ∧ u.ownsRow w.heap.size 29 2 (.slice x k xc) k (rows Lib.kC (keysOf (l.take k))) ∧ Tch [] w u, ⟨n, 0, rfl, by omega, rfl, rfl, own_nil _ _ _ _, Tch.refl _ _⟩, ?_⟩
  rintro m w3 x xn xc i ⟨k, rfl, hk, rfl, rfl, hown, ht⟩
  have s3 := ht.size
  by_cases hlt : xn < n
  · rw [bif_pos (by omega)]
    refine ⟨by omega, by omega, ?_⟩
    rw [Int.toNat_natCast]
    have hli : l[xn]? = some (l[xn]'(by omega)) := List.getElem?_eq_getElem (by omega)
    generalize l[xn]'(by omega) = y at hli
    obtain ⟨b1, o1, rfl, k1, _⟩ := row_at (hr.tch ht (fun _ _ h => by cases h)) hli
    refine ⟨Lib.kC y.k, rfl, k1, ?_⟩
    refine app_elem_at Lib.kT hown (by rw [zcKey]; rfl) (ys := Lib.kC y.k) rfl rfl Lib.kC_one (by omega) (by omega) (by omega) fun a5 c5 w14 o5 t5 m5 => ?_
    refine ⟨n - (xn + 1), by omega, xn + 1, by rw [wrap_i64 (by omega) (by omega)]; omega, by omega, rfl, rfl, by rw [keys_snoc hli] at o5; exact o5, ?_⟩
    exact ht.trans t5 fun i hi => .inr (by
      rw [mem_rowL] at hi
      obtain ⟨z, hz, rfl⟩ := hi
      exact (own_ge hown z hz).1)
  · rw [bif_neg (by omega)]
    obtain rfl : xn = n := by omega
    rw [show l.take xn = l from List.take_of_length_le (by omega)] at hown
    refine (Lib.refRises_c w3 (keysOf l) x xn xc (own_rsl hown Lib.kCs_one) (by omega)).mono ?_
    rintro e w15 ⟨rfl, t15⟩
    exact ⟨_, rfl, rfl, ht.trans t15 (by simp)⟩
/-! ### lent -/
abbrev tailC : List Value := [.int .i64 0, .int .i64 0, .int .i64 (-31), .int .i64 0, .int .i64 0, .int .i64 (-32)]
theorem put_at {w : World} {b o : Nat} {cs : List Value} (h : Blk w b cs) (ho : o < cs.length) {A : Addr} (hA : A = ⟨b, o, none⟩) {v : Value} (h1 : one v = true) {K : World → Prop}
    (hK : ∀ w', Blk w' b (cs.set o v) → Tch [b] w w' → w'.heap.size = w.heap.size → K w') :
    one v = true ∧ Option.isSome (World.cell? w A) = true ∧ World.frozen? w A = false ∧ ∀ w' : World, w' = World.setCell w A v → K w' := by
  have := put_cell h o ho h1 hK
  rw [add_mk, Nat.zero_add] at this
  rw [hA]
  exact this
theorem lent_c (w : World) (l : List Rw) (a : Option Addr) (n c : Nat) (hr : RSl w 3 a n c (rows rwC l)) (hN : n ≤ 1000000000) :
    Calls Tryd.prog 24 #[.slice a n c] w fun e w' => e = .returned (.slice (some ⟨w.heap.size, 0, none⟩) n (n + 2)) ∧ Blk w' w.heap.size (rows rwC l ++ tailC) ∧ Tch [] w w' ∧ w.heap.size < w'.heap.size := by
  have hn := hr.count rwC_len (by omega)
  have hrl : (rows rwC l).length = n * 3 := hr.len
  refine c24 _ _ _ ?_
  unfold d24
  rw [wrap_i64 (by omega) (by omega), wrap_i64 (by omega) (by omega)]
  have e2 : ((n : Nat) : Int) + 2 = ((n + 2 : Nat) : Int) := by omega
  have e1 : ((n : Nat) : Int) + 1 = ((n + 1 : Nat) : Int) := by omega
  rw [e2, e1]
  refine mk_at rsT (by omega) (by omega) fun w2 cs hcl hcz hB t2 s2 => ?_
  have hcz' := hcz _ zcRow rfl
  have htail : cs.drop (n * 3) = [.int .i64 0, .int .i64 0, .int .i64 0, .int .i64 0, .int .i64 0, .int .i64 0] := by
    refine List.ext_getElem? fun j => ?_
    rw [List.getElem?_drop]
    by_cases hj : j < 6
    · rw [hcz' _ (by omega)]
      have : (n * 3 + j) % 3 = j % 3 := by omega
      rw [this]
      match j, hj with
      | 0, _ | 1, _ | 2, _ | 3, _ | 4, _ | 5, _ => rfl
    · rw [List.getElem?_eq_none (by omega), List.getElem?_eq_none (by show 6 ≤ j; omega)]
  obtain ⟨ob, hob⟩ : ∃ ob, w.heap.size = ob := ⟨_, rfl⟩
  rw [hob] at hB s2 ⊢
  refine cpyN rsT hB (hr.tch t2 (fun _ _ h => by cases h)) (by rw [Nat.min_eq_left (by omega)]; omega) fun w5 hB5 t5 s5 => ?_
  have hK := hB5.blk
  have hsp : splice cs 0 ((rows rwC l).take (min n (n + 2) * 3)) = rows rwC l ++ [.int .i64 0, .int .i64 0, .int .i64 0, .int .i64 0, .int .i64 0, .int .i64 0] := by
    rw [Nat.min_eq_left (by omega), List.take_of_length_le (by omega)]
    unfold splice
    rw [hrl, Nat.zero_add, htail]
    rfl
  rw [hsp] at hK
  replace t5 := t2.trans t5 (by simp; omega)
  have ea : ∀ k : Nat, ((⟨ob, 0, none⟩ : Addr).add (k * 3)).add 2 = ⟨ob, k * 3 + 2, none⟩ := fun k => by rw [add_mk, add_mk, Nat.zero_add]
  refine ⟨by omega, by omega, ?_⟩
  rw [Int.toNat_natCast]
  refine put_at hK (o := n * 3 + 2) (by simp; omega) (ea n) rfl fun w8 hK t8 s8 => ?_
  rw [List.set_append_right _ _ (by omega), hrl, show n * 3 + 2 - n * 3 = 2 by omega] at hK
  refine ⟨by omega, by omega, ?_⟩
  rw [Int.toNat_natCast]
  refine put_at hK (o := (n + 1) * 3 + 2) (by simp; omega) (ea (n + 1)) rfl fun w10 hK t10 s10 => ?_
  rw [List.set_append_right _ _ (by omega), hrl, show (n + 1) * 3 + 2 - n * 3 = 5 by omega] at hK
  refine ⟨by omega, by omega, ?_, hK, (t5.trans t8 (by simp; omega)).trans t10 (by simp; omega), by omega⟩
  rw [if_neg (by omega)]
  rfl
/-! ### sameChanges -/
structure Chg.wf (c : Chg) : Prop where
  k : Lib.kI c.k
  was : Sha.I64 c.was.2
  is : Sha.I64 c.is.2
end Go.Proofs.YtjkbjppopdfggaaDoor.Tre
