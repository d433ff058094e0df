/-
  ARGUMENTS OF THE TREES' LAWS: rows, keys, numbers, opened.
  TREES OVER ROWS: Rows: its contract.
  TREES OVER ROWS: Diff: its contract.
  THE REFERENCE'S DIFFERENCES: put, Sort, at, Diff: contracts.
  WORDS FOR CONTRACTS: copy of elements of any size.
  THE LAWS' HELPERS: few, set, lent, sameChanges: contracts.
  THE LAW OF DIFFERENCES: ProofDiffs answers yes.
  PROVED HERE: the card of ProofDiffs: the keys at which two trees differ.
  Own work. No macro, syntax, notation, axiom.
-/
import Derived.Test.YtjkbjppopdfggaaDoorDiffPk7
import Derived.Test.YtjkbjppopdfggaaDoorDiffPk12
import Derived.Test.YtjkbjppopdfggaaDoorDiffPk8
import Derived.Laws.CopyRow
import Derived.Laws.AppendOwn
namespace Go.Proofs.YtjkbjppopdfggaaDoor.Tre
open Go Den Fn Sha
open Go.ChangeShapes Go.WideShapes Go.ChangeAt Go.RowKit

section
variable {H : Type} {enc : TypeId × Value → H} {P : Program}
/-- A number. -/
theorem open_int {t : TypeId} (ht : P.underlying t = some (.int .i64)) (hs : shT P 6 t = some [.int .i64]) {W : World} {base : Nat} {v : Value} {x : DataW H} {ps : List MemPlace} (hval : Value.okWide P W .any base t v) (hd : DataW.Trod enc P W 0 (fun _ => true) true t v x ps) : ∃ n, v = .int .i64 n ∧ Sha.I64 n := by
  obtain ⟨n, rfl⟩ := okWide_int ht hval
  obtain ⟨m, hm⟩ := hd
  have := open_rep 6 m t _ hs [.int .i64 n] _ (by simpa [Value.cells] using hm)
  obtain ⟨k, hk, hw⟩ := RepV.int this.1
  cases hk
  exact ⟨n, rfl, i64_wf.1 hw⟩
/-- A slice. -/
theorem open_slR {t e : TypeId} {k : List CK} (ht : P.underlying t = some (.slice e)) (hs : shT P 6 t = some [.sl k]) {W : World} {base : Nat} {v : Value} {x : DataW H} {ps : List MemPlace} (hval : Value.okWide P W .any base t v) (hd : DataW.Trod enc P W 0 (fun _ => true) true t v x ps) : RepV W 6 (.sl k) v := by
  obtain ⟨a, n, c, rfl⟩ := okWide_slice ht hval
  obtain ⟨m, hm⟩ := hd
  exact (open_rep 6 m t _ hs [.slice a n c] _ (by simpa [Value.cells] using hm)).1
end
theorem uRows : Tryd.prog.underlying 55 = some (.slice 31) := by kernel_rfl
theorem rowsShape : shT Tryd.prog 6 55 = some [.sl [.int .i64, .int .i64, .int .i64]] := by kernel_rfl
theorem rows_rows {W : World} {d : Nat} : ∀ {rs : List (List Value)}, (∀ r ∈ rs, RepR W d [.int .i64, .int .i64, .int .i64] r) → ∃ l : List Rw, rs.flatten = rows rwC l ∧ ∀ x ∈ l, x.wf
  | [], _ => ⟨[], rfl, by simp⟩
  | r :: rs, h => by
    obtain ⟨l, h1, h2⟩ := rows_rows fun x hx => h x (List.mem_cons_of_mem _ hx)
    obtain ⟨v1, vs, rfl, g1, g⟩ := (h r (by simp)).cons
    obtain ⟨v2, vs, rfl, g2, g⟩ := g.cons
    obtain ⟨v3, vs, rfl, g3, g⟩ := g.cons
    obtain rfl := g.nil
    obtain ⟨t, rfl, ht⟩ := g1.int
    obtain ⟨r, rfl, hr⟩ := g2.int
    obtain ⟨v, rfl, hv⟩ := g3.int
    refine ⟨⟨t, r, v⟩ :: l, by rw [List.flatten_cons, h1, rows_cons], fun x hx => ?_⟩
    rcases List.mem_cons.1 hx with rfl | hx
    · exact ⟨i64_wf.1 ht, i64_wf.1 hr, i64_wf.1 hv⟩
    · exact h2 x hx
/-- Rows that come in. -/
theorem rows_open {W : World} {d : Nat} {v : Value} (h : RepV W d (.sl [.int .i64, .int .i64, .int .i64]) v) : ∃ (a : Option Addr) (n c : Nat) (l : List Rw), v = .slice a n c ∧ RSl W 3 a n c (rows rwC l) ∧ ∀ x ∈ l, x.wf := by
  obtain ⟨d', a, n, c, rs, rfl, rfl, hn, hc, hr, hrs⟩ := h.sl
  obtain ⟨l, h1, h2⟩ := rows_rows hrs
  rw [h1] at hr
  exact ⟨a, n, c, l, rfl, by simpa using hr, h2⟩
theorem uKeys : Tryd.prog.underlying 67 = some (.slice 29) := by kernel_rfl
theorem keysShape : shT Tryd.prog 6 67 = some [.sl [.int .i64, .int .i64]] := by kernel_rfl
theorem keys_rows {W : World} {d : Nat} : ∀ {rs : List (List Value)}, (∀ r ∈ rs, RepR W d [.int .i64, .int .i64] r) → ∃ l : List (Int × Int), rs.flatten = rows Lib.kC l ∧ ∀ x ∈ l, Lib.kI x
  | [], _ => ⟨[], rfl, by simp⟩
  | r :: rs, h => by
    obtain ⟨l, h1, h2⟩ := keys_rows fun x hx => h x (List.mem_cons_of_mem _ hx)
    obtain ⟨v1, vs, rfl, g1, g⟩ := (h r (by simp)).cons
    obtain ⟨v2, vs, rfl, g2, g⟩ := g.cons
    obtain rfl := g.nil
    obtain ⟨t, rfl, ht⟩ := g1.int
    obtain ⟨r, rfl, hr⟩ := g2.int
    refine ⟨(t, r) :: l, by rw [List.flatten_cons, h1, rows_cons], fun x hx => ?_⟩
    rcases List.mem_cons.1 hx with rfl | hx
    · exact ⟨i64_wf.1 ht, i64_wf.1 hr⟩
    · exact h2 x hx
/-- Keys that come in. -/
theorem keys_open {W : World} {d : Nat} {v : Value} (h : RepV W d (.sl [.int .i64, .int .i64]) v) : ∃ (a : Option Addr) (n c : Nat) (l : List (Int × Int)), v = .slice a n c ∧ RSl W 2 a n c (rows Lib.kC l) ∧ ∀ x ∈ l, Lib.kI x := by
  obtain ⟨d', a, n, c, rs, rfl, rfl, hn, hc, hr, hrs⟩ := h.sl
  obtain ⟨l, h1, h2⟩ := keys_rows hrs
  rw [h1] at hr
  exact ⟨a, n, c, l, rfl, by simpa using hr, h2⟩
end Go.Proofs.YtjkbjppopdfggaaDoor.Tre
namespace Go.Proofs.YtjkbjppopdfggaaDoor.Tre
open Go Den Fn Sha
open Go.RowKit (Below)
open Classical
set_option maxRecDepth 8000
set_option maxHeartbeats 4000000

/-- rows, through the interface. -/
theorem rows_k {F : Nat → Prop} : ∀ (tr : Tr) {w : World} {v : Value} {L : List (List Int × Value)} (_ : PartAt F w v tr L) {B : Nat} {x : Option Addr} {k c : Nat} {xs : List Value} (_ : w.ownsRow B 31 3 (.slice x k c) k xs) (_ : B ≤ w.heap.size) (_ : ∀ z, F z → z < B) (_ : k + tr.rows.length ≤ 2000000000000)
    {K : Option Addr → Nat → Nat → World → Prop} (_ : ∀ x' c' w', w'.ownsRow B 31 3 (.slice x' (k + tr.rows.length) c') (k + tr.rows.length) (xs ++ rows rwC tr.rows) → Tch (rowL x) w w' → Moved x x' w.heap.size → K x' (k + tr.rows.length) c' w'),
    ∃ t u g r, v = .iface t u ∧ Sem.run Tryd.prog (method (Tryd.prog.types.size + Made.depth) t u "prelude/proof.rows") w = .ok (g, r) w ∧ HasBody Tryd.prog g ∧ Calls Tryd.prog g (#[r] ++ #[.slice x k c]) w fun e w' => ∃ (y : Option Addr) (yn : Nat) (yc : Nat), e = .returned (.slice y yn yc) ∧ K y yn yc w'
  | .leaf y, w, v, L, h, B, x, k, c, xs, ho, hB, hF, hk, K, hK => by
    obtain ⟨b, rfl, _, hb, _⟩ := h
    refine ⟨_, _, _, _, rfl, mLeafRows _ w, hasBody_spec (by kernel_rfl), ?_⟩
    show Calls _ _ #[.pointer (some ⟨b, 0, none⟩), .slice x k c] w _
    refine c111 _ _ _ _ ?_
    unfold d111
    refine get_part hb 0 3 (rwC y) rfl rfl ?_
    have hk' : k + 1 ≤ 2000000000000 := hk
    refine app_elem_at rsT ho (by rw [zcRow]; rfl) (ys := rwC y) rfl rfl rwC_one hB (by omega) (by omega) fun a5 c5 w7 o5 t5 m5 => ?_
    exact ⟨_, _, _, rfl, hK a5 c5 w7 (by rw [show (Tr.leaf y).rows = [y] from rfl, rows_one]; exact o5) t5 m5⟩
  | .fork n l r, w, v, L, h, B, x, k, c, xs, ho, hB, hF, hk, K, hK => by
    obtain ⟨b, vl, vr, Ll, Lr, rfl, hbF, hb, hl, hr, _⟩ := h
    refine ⟨_, _, _, _, rfl, mForkRows _ w, hasBody_spec (by kernel_rfl), ?_⟩
    show Calls _ _ #[.pointer (some ⟨b, 0, none⟩), .slice x k c] w _
    refine c115 _ _ _ _ ?_
    unfold d115
    rintro w2 rfl
    have ht := (Tch.refl [] w).drew
    have s2 : w.drew.heap.size = w.heap.size := rfl
    generalize w.drew = w2 at *
    replace hb := hb.tch ht (by simp)
    replace hl := hl.tch ht (by simp)
    replace hr := hr.tch ht (by simp)
    replace ho := own_up ho ht (fun _ _ h => by cases h)
    have hlen : (Tr.fork n l r).rows.length = l.rows.length + r.rows.length := by show (l.rows ++ r.rows).length = _; rw [List.length_append]
    refine ⟨vr, by rw [add_mk]; exact hb.cell 2, vl, by rw [add_mk]; exact hb.cell 1, ?_⟩
    have hnc : isNilV vr = some false ∧ (∀ n f c, vr ≠ .func (.method n) f c) := by obtain ⟨q, h | h⟩ := hr.shape <;> rw [h] <;> exact ⟨rfl, by intros; simp⟩
    have hvr : ∀ {K : Value → Prop}, K vr → ncK vr K := fun {K} hK => by
      obtain ⟨q, h | h⟩ := hr.shape <;> rw [h] at hnc hK ⊢ <;> exact ⟨hnc.1, hnc.2, hK⟩
    refine hvr ?_
    refine rows_k l hl ho (by omega) hF (by omega) fun x' c' w13 o13 t13 m13 => ?_
    have hoff : ∀ z ∈ rowL x, ¬ F z := fun z hz hf => by
      rw [mem_rowL] at hz
      obtain ⟨q, hq, rfl⟩ := hz
      have := (own_ge ho q hq).1
      have := hF _ hf
      omega
    replace hb := hb.tch t13 (fun hm => hoff _ hm hbF)
    replace hr := hr.tch t13 hoff
    have s13 := t13.size
    refine ⟨⟨vr, by rw [add_mk]; exact hb.cell 2, rfl, rfl⟩, ?_⟩
    refine rows_k r hr o13 (by omega) hF (by omega) fun y c2 w21 o21 t21 m21 => ?_
    refine ⟨y, _, c2, rfl, ?_⟩
    have e1 : k + l.rows.length + r.rows.length = k + (Tr.fork n l r).rows.length := by omega
    have e2 : xs ++ rows rwC l.rows ++ rows rwC r.rows = xs ++ rows rwC (Tr.fork n l r).rows := by
      show _ = xs ++ rows rwC (l.rows ++ r.rows)
      rw [rows_append, List.append_assoc]
    rw [e1, e2] at o21
    rw [e1]
    refine hK y c2 w21 o21 ((ht.weaken (t := rowL x) (by simp)).trans (t13.trans t21 fun i hi => ?_) (fun i hi => .inl hi)) ?_
    · rw [mem_rowL] at hi
      obtain ⟨q, hq, rfl⟩ := hi
      exact m13 q hq
    · rw [← s2]
      exact m13.trans m21 s13
theorem rows_c {F : Nat → Prop} (w : World) (tb : Nat) (l : List Rw) (h : TreeAt F w tb l) (hR : RowsOk l) (hF : ∀ z, F z → z < w.heap.size) (hN : l.length ≤ 1000000000000) :
    Calls Tryd.prog 31 #[.pointer (some ⟨tb, 0, none⟩)] w fun e w' => ∃ a c, e = .returned (.slice a l.length c) ∧ w'.ownsRow w.heap.size 31 3 (.slice a l.length c) l.length (rows rwC l) ∧ Tch [] w w' := by
  obtain ⟨pb, v, L, _, _, _, hb, _, h⟩ := h
  refine c31 _ ?_
  unfold d31
  refine ⟨v, by rw [add_mk]; exact hb.cell 0, ?_⟩
  rcases h with ⟨rfl, rfl, _⟩ | ⟨hne, hp⟩
  · exact ⟨none, 0, rfl, own_nil _ _ _ _, Tch.refl _ _⟩
  have hnq : ∀ {K : Bool → Prop}, K false → nilQ 4 v K := fun {K} hK => by
    obtain ⟨q, h | h⟩ := hp.shape <;> rw [h] <;> exact hK
  refine hnq ?_
  refine ⟨v, by rw [add_mk]; exact hb.cell 0, ?_⟩
  have hrw : (treeS l.length l).rows = l := treeS_rows (Nat.le_refl _) (List.length_pos_iff.2 hne) hR
  refine rows_k _ hp (own_nil w w.heap.size _ _) (Nat.le_refl _) hF (by rw [hrw]; omega) fun x' c' w' ho ht hm => ?_
  rw [hrw, List.nil_append, Nat.zero_add] at *
  exact ⟨x', c', rfl, ho, ht⟩
end Go.Proofs.YtjkbjppopdfggaaDoor.Tre
namespace Go.Proofs.YtjkbjppopdfggaaDoor.Tre
open Go Den Fn Sha
open Go.RowKit (Below)
open Classical
set_option maxRecDepth 8000
set_option maxHeartbeats 4000000

abbrev chC (c : Chg) : List Value := [.int .i64 c.k.1, .int .i64 c.k.2, .bool c.was.1, .int .i64 c.was.2, .bool c.is.1, .int .i64 c.is.2]
abbrev ceC (c : Bool × Int) : List Value := [.bool c.1, .int .i64 c.2]
theorem chC_len {l : List Chg} : ∀ x ∈ l, (chC x).length = 6 := fun _ _ => rfl
theorem chC_one {x : Chg} : ∀ u ∈ chC x, one u = true := by simp [one]
theorem chT : slT Tryd.prog 60 65 6 48 = true := by kernel_rfl
theorem zcChg : zc Tryd.prog 65 = chC ⟨(0, 0), no, no⟩ := by kernel_rfl
theorem zcCell : zc Tryd.prog 45 = ceC no := by kernel_rfl
theorem ce_flat : flatK Tryd.prog 6 45 = some [.bool, .int .i64] := by kernel_rfl
theorem ce_eqT : eqT Tryd.prog 6 45 = true := by kernel_rfl
theorem ce_fits {c : Bool × Int} (h : Sha.I64 c.2) : Fits [.bool, .int .i64] (ceC c) := ⟨trivial, ⟨rfl, Lib.i64_wf.2 h⟩, trivial⟩
theorem ceC_inj {a b : Bool × Int} : ceC a = ceC b ↔ a = b := by
  obtain ⟨a1, a2⟩ := a
  obtain ⟨b1, b2⟩ := b
  simp
/-- A row's fields are read. -/
theorem row_at {u : World} {a : Option Addr} {n c : Nat} {l : List Rw} (hr : RSl u 3 a n c (rows rwC l)) {i : Nat} {x : Rw} (hx : l[i]? = some x) : ∃ b o, a = some ⟨b, o, none⟩ ∧ Cells u (Addr.add (Addr.add ⟨b, o, none⟩ (i * 3)) 0) (Lib.kC x.k) ∧ u.cell? (Addr.add (Addr.add ⟨b, o, none⟩ (i * 3)) 2) = some (.int .i64 x.v) := by
  obtain ⟨b, o, h1, h2⟩ := hr.elem' rwC_len (by omega) hx
  refine ⟨b, o, h1, ?_, ?_⟩
  · have := cells_part h2 0 2
    rw [add_mk, add_mk]
    exact this
  · rw [add_mk, add_mk]
    exact cells_get h2 rfl
def cOf : List Rw → List Rw → Int
  | [], _ => 1
  | _ :: _, [] => -1
  | x :: _, y :: _ => Lib.cmpK x.k y.k
def StX (c : Int) (xs xs' : List Rw) (k0 : Int × Int) (was : Bool × Int) : Prop := (c ≤ 0 ∧ ∃ x0, xs = x0 :: xs' ∧ k0 = x0.k ∧ was = (true, x0.v)) ∨ (0 < c ∧ xs' = xs ∧ k0 = (0, 0) ∧ was = no)
def StY (c : Int) (ys ys' : List Rw) (k0 k1 : Int × Int) (is : Bool × Int) : Prop := (0 ≤ c ∧ ∃ y0, ys = y0 :: ys' ∧ k1 = y0.k ∧ is = (true, y0.v)) ∨ (c < 0 ∧ ys' = ys ∧ k1 = k0 ∧ is = no)
theorem diff_step {n : Nat} {xs ys xs' ys' : List Rw} {k0 k1 : Int × Int} {was is : Bool × Int} (hne : 0 < xs.length ∨ 0 < ys.length) (hn : xs.length + ys.length ≤ n) (h1 : StX (cOf xs ys) xs xs' k0 was) (h2 : StY (cOf xs ys) ys ys' k0 k1 is) :
    ∃ m, n = m + 1 ∧ xs'.length + ys'.length ≤ m ∧ diffS n xs ys = emit ⟨k1, was, is⟩ (diffS m xs' ys') := by
  obtain ⟨m, rfl⟩ : ∃ m, n = m + 1 := ⟨n - 1, by omega⟩
  refine ⟨m, rfl, ?_⟩
  cases xs with
  | nil =>
    cases ys with
    | nil => simp at hne
    | cons y ys =>
      have e : cOf [] (y :: ys) = 1 := rfl
      rw [e] at h1 h2
      rcases h1 with ⟨h, _⟩ | ⟨_, rfl, rfl, rfl⟩
      · omega
      rcases h2 with ⟨_, y0, h, rfl, rfl⟩ | ⟨h, _⟩
      · cases h
        exact ⟨by simp at hn ⊢; omega, rfl⟩
      · omega
  | cons x xs =>
    cases ys with
    | nil =>
      have e : cOf (x :: xs) [] = -1 := rfl
      rw [e] at h1 h2
      rcases h1 with ⟨_, x0, h, rfl, rfl⟩ | ⟨h, _⟩
      · cases h
        rcases h2 with ⟨h, _⟩ | ⟨_, rfl, rfl, rfl⟩
        · omega
        · exact ⟨by simp at hn ⊢; omega, rfl⟩
      · omega
    | cons y ys =>
      have e : cOf (x :: xs) (y :: ys) = Lib.cmpK x.k y.k := rfl
      rw [e] at h1 h2
      show _ ∧ (if Lib.cmpK x.k y.k < 0 then emit ⟨x.k, (true, x.v), no⟩ (diffS m xs (y :: ys)) else if 0 < Lib.cmpK x.k y.k then emit ⟨y.k, no, (true, y.v)⟩ (diffS m (x :: xs) ys) else emit ⟨y.k, (true, x.v), (true, y.v)⟩ (diffS m xs ys)) = _
      rcases h1 with ⟨g1, x0, h, rfl, rfl⟩ | ⟨g1, rfl, rfl, rfl⟩
      · cases h
        rcases h2 with ⟨g2, y0, h, rfl, rfl⟩ | ⟨g2, rfl, rfl, rfl⟩
        · cases h
          rw [if_neg (by omega), if_neg (by omega)]
          exact ⟨by simp at hn ⊢; omega, rfl⟩
        · rw [if_pos (by omega)]
          exact ⟨by simp at hn ⊢; omega, rfl⟩
      · rcases h2 with ⟨g2, y0, h, rfl, rfl⟩ | ⟨g2, rfl, rfl, rfl⟩
        · cases h
          rw [if_neg (by omega), if_pos (by omega)]
          exact ⟨by simp at hn ⊢; omega, rfl⟩
        · omega
/-- The loop's state. -/
structure DI (w : World) (B N : Nat) (want : List Chg) (u : World) (l : Option Addr) (ln lc : Nat) (x : Option Addr) (xn xc : Nat) (y : Option Addr) (yn yc : Nat) (m : Nat) (xs ys : List Rw) (out : List Chg) : Prop where
  xr : RSl u 3 x xn xc (rows rwC xs)
  xb : ∀ z, x = some z → z.block < B
  yr : RSl u 3 y yn yc (rows rwC ys)
  yb : ∀ z, y = some z → z.block < B
  own : u.ownsRow B 65 6 (.slice l ln lc) ln (rows chC out)
  ln : ln = out.length
  tch : Tch [] w u
  lo : B ≤ u.heap.size
  base : w.heap.size ≤ B
  fuel : xs.length + ys.length ≤ m
  cnt : out.length + m ≤ N
  eq : out ++ diffS m xs ys = want
  xw : ∀ x ∈ xs, x.wf
  yw : ∀ x ∈ ys, x.wf
theorem DI.quiet {w u u' : World} {B N ln lc xn xc yn yc m : Nat} {want : List Chg} {l x y : Option Addr} {xs ys : List Rw} {out : List Chg} (h : DI w B N want u l ln lc x xn xc y yn yc m xs ys out) (ht : Tch [] u u') : DI w B N want u' l ln lc x xn xc y yn yc m xs ys out :=
  ⟨h.xr.tch ht (fun _ _ h => by cases h), h.xb, h.yr.tch ht (fun _ _ h => by cases h), h.yb, own_up h.own ht (fun _ _ h => by cases h), h.ln, h.tch.trans ht (by simp), by have := ht.size; have := h.lo; omega, h.base, h.fuel, h.cnt, h.eq, h.xw, h.yw⟩
theorem TreeAt.tch {F : Nat → Prop} {w w' : World} {s : List Nat} {tb : Nat} {l : List Rw} (h : TreeAt F w tb l) (ht : Tch s w w') (hs : ∀ k ∈ s, ¬ F k) : TreeAt F w' tb l := by
  obtain ⟨pb, v, L, h1, h2, h3, h4, h5, h6⟩ := h
  refine ⟨pb, v, L, h1, h2, h3, h4.tch ht fun hm => hs _ hm h1, h5.tch ht fun hm => hs _ hm h2, ?_⟩
  rcases h6 with h6 | ⟨h6, h7⟩
  · exact .inl h6
  · exact .inr ⟨h6, h7.tch ht hs⟩
theorem TreeAt.mono {F G : Nat → Prop} {w : World} {tb : Nat} {l : List Rw} (h : TreeAt F w tb l) (hFG : ∀ k, F k → G k) : TreeAt G w tb l := by
  obtain ⟨pb, v, L, h1, h2, h3, h4, h5, h6⟩ := h
  refine ⟨pb, v, L, hFG _ h1, hFG _ h2, h3, h4, h5, ?_⟩
  rcases h6 with h6 | ⟨h6, h7⟩
  · exact .inl h6
  · exact .inr ⟨h6, h7.mono hFG⟩
theorem ok_wf {l : List Rw} (h : RowsOk l) : ∀ x ∈ l, x.wf := fun x hx => ⟨(h.ok x hx).t, (h.ok x hx).r, (h.ok x hx).v⟩
/-- The first row is cut off. -/
theorem cut_one {u : World} {x : Option Addr} {xn xc B : Nat} {x0 : Rw} {xs' : List Rw} (hr : RSl u 3 x xn xc (rows rwC (x0 :: xs'))) (hb : ∀ z, x = some z → z.block < B) : RSl u 3 (if xc = 1 then x else x.map fun y => y.add (1 * 3)) (xn - 1) (xc - 1) (rows rwC xs') ∧ ∀ z, (if xc = 1 then x else x.map fun y => y.add (1 * 3)) = some z → z.block < B := by
  have hn := hr.count rwC_len (by omega)
  simp only [List.length_cons] at hn
  have hs := hr.sub (l := 1) (hh := xn) (by omega) (Nat.le_refl _)
  rw [rows_part, List.drop_succ_cons, List.drop_zero, List.take_of_length_le (by omega)] at hs
  refine ⟨hs, fun z hz => ?_⟩
  split at hz
  · exact hb z hz
  · rw [Option.map_eq_some_iff] at hz
    obtain ⟨q, hq, rfl⟩ := hz
    exact hb q hq
theorem cut_cell {b : Nat} {k : Int × Int} {was is : Bool × Int} {u : World} (h : Blk u b (chC ⟨k, was, is⟩)) : Blk u b (Lib.kC k ++ (ceC was ++ ceC is)) := h
/-- What Diff hands back. -/
def ChgR (w : World) (l : List Chg) (e : Ending) (w' : World) : Prop := ∃ a c, e = .returned (.slice a l.length c) ∧ w'.ownsRow w.heap.size 65 6 (.slice a l.length c) l.length (rows chC l) ∧ Tch [] w w'
theorem diff_c {F G : Nat → Prop} (w : World) (ta tb : Nat) (a b : List Rw) (ha : TreeAt F w ta a) (hb : TreeAt G w tb b) (hRa : RowsOk a) (hRb : RowsOk b) (hF : ∀ z, F z → z < w.heap.size) (hG : ∀ z, G z → z < w.heap.size) (hN : a.length + b.length ≤ 1000000000000) :
    Calls Tryd.prog 25 #[.pointer (some ⟨ta, 0, none⟩), .pointer (some ⟨tb, 0, none⟩)] w (ChgR w (diffS (a.length + b.length) a b)) := by
  refine c25 _ _ ?_
  unfold d25
  refine (rows_c w ta a ha hRa hF (by omega)).mono ?_
  rintro e w3 ⟨xa, xc, rfl, ho, t3⟩
  refine ⟨_, _, _, rfl, ?_⟩
  have s3 := t3.size
  have hxa : ∀ z, xa = some z → z.block < w3.heap.size := fun z hz => (own_ge ho z hz).2
  replace hb := hb.tch t3 (by simp)
  refine (rows_c w3 tb b hb hRb (fun z hz => by have := hG z hz; omega) (by omega)).mono ?_
  rintro e w6 ⟨xb, yc, rfl, ho2, t6⟩
  refine ⟨_, _, _, rfl, ?_⟩
  have s6 := t6.size
  have hxb : ∀ z, xb = some z → z.block < w6.heap.size := fun z hz => (own_ge ho2 z hz).2
  replace hxa : ∀ z, xa = some z → z.block < w6.heap.size := fun z hz => by have := hxa z hz; omega
  have hra := (own_rsl ho fun u hu => by
    unfold rows at hu
    obtain ⟨v, hv, hu⟩ := List.mem_flatten.1 hu
    obtain ⟨x, _, rfl⟩ := List.mem_map.1 hv
    exact rwC_one u hu).tch t6 (fun _ _ h => by cases h)
  have hrb := own_rsl ho2 fun u hu => by
    unfold rows at hu
    obtain ⟨v, hv, hu⟩ := List.mem_flatten.1 hu
    obtain ⟨x, _, rfl⟩ := List.mem_map.1 hv
    exact rwC_one u hu
  clear ho ho2
  have t0 := t3.trans t6 (by simp)
  clear t3 t6
  generalize hB : w6.heap.size = B at *
  generalize hW : diffS (a.length + b.length) a b = want
  refine ⟨fun m l ln lc x xn xc y yn yc u => ∃ xs ys out, DI w B (a.length + b.length) want u l ln lc x xn xc y yn yc m xs ys out, ⟨_, a, b, [], hra, hxa, hrb, hxb, own_nil _ _ _ _, rfl, t0, by omega, by omega, Nat.le_refl _, by simp, hW, ok_wf hRa, ok_wf hRb⟩, ?_⟩
  clear hra hrb hxa hxb hB t0
  rintro m w10 l ln lc x xn xc y yn yc ⟨xs, ys, out, h⟩
  have hxn := h.xr.count rwC_len (by omega)
  have hyn := h.yr.count rwC_len (by omega)
  have hcnt := h.cnt
  have hbase := h.base
  refine ⟨fun u => u = w10 ∧ (0 < xs.length ∨ 0 < ys.length), ?_, ?_⟩
  · by_cases h1 : 0 < xn
    · rw [bif_pos (by omega)]
      exact ⟨rfl, .inl (by omega)⟩
    · rw [bif_neg (by omega)]
      by_cases h2 : 0 < yn
      · rw [bif_pos (by omega)]
        exact ⟨rfl, .inr (by omega)⟩
      · rw [bif_neg (by omega)]
        have e1 : xs = [] := List.length_eq_zero_iff.1 (by omega)
        have e2 : ys = [] := List.length_eq_zero_iff.1 (by omega)
        have he := h.eq
        rw [e1, e2] at he
        have e3 : diffS m [] [] = [] := by cases m <;> rfl
        rw [e3, List.append_nil] at he
        subst he
        have hln := h.ln
        have hown := h.own
        rw [hln] at hown ⊢
        exact ⟨l, lc, rfl, own_base hown h.base, h.tch⟩
  rintro w15 ⟨hw, hne⟩
  rw [hw]
  clear hw w15
  refine ⟨fun c u => c = cOf xs ys ∧ Tch [] w10 u, ?_, ?_⟩
  · by_cases h1 : xn = 0
    · rw [bif_pos (by omega)]
      have e1 : xs = [] := List.length_eq_zero_iff.1 (by omega)
      exact ⟨by rw [e1]; rfl, Tch.refl _ _⟩
    · rw [bif_neg (by omega)]
      obtain ⟨x0, xs', rfl⟩ : ∃ x0 xs', xs = x0 :: xs' := by cases xs with
        | nil => simp at hxn; omega
        | cons x0 xs' => exact ⟨x0, xs', rfl⟩
      by_cases h2 : 0 < yn
      · rw [bif_pos (by omega)]
        obtain ⟨y0, ys', rfl⟩ : ∃ y0 ys', ys = y0 :: ys' := by cases ys with
          | nil => simp at hyn; omega
          | cons y0 ys' => exact ⟨y0, ys', rfl⟩
        rintro w17 rfl
        have q := (Tch.refl [] w10).drew
        have h17 := h.quiet q
        generalize w10.drew = w17 at *
        obtain ⟨b1, o1, rfl, k1, _⟩ := row_at h17.xr (i := 0) (x := x0) rfl
        obtain ⟨b2, o2, rfl, k2, _⟩ := row_at h17.yr (i := 0) (x := y0) rfl
        refine ⟨by omega, by omega, Lib.kC x0.k, rfl, k1, by omega, by omega, Lib.kC y0.k, rfl, k2, ?_⟩
        have wx := h.xw x0 (by simp)
        have wy := h.yw y0 (by simp)
        refine (Lib.compare_c x0.k y0.k w17 ⟨wx.t, wx.r⟩ ⟨wy.t, wy.r⟩).mono ?_
        rintro e w23 ⟨rfl, t23⟩
        exact ⟨_, rfl, rfl, q.trans t23 (by simp)⟩
      · rw [bif_neg (by omega)]
        have e2 : ys = [] := List.length_eq_zero_iff.1 (by omega)
        exact ⟨by rw [e2]; rfl, Tch.refl _ _⟩
  rintro w25 c ⟨hc, t25⟩
  replace h := h.quiet t25
  clear t25
  rintro w27 rfl
  have hK : Blk _ _ (chC ⟨(0, 0), no, no⟩) := Blk.fresh w25 (cs := zc Tryd.prog 65) 65 zcChg
  have t27 := (Tch.refl [] w25).alloc (.cells (zc Tryd.prog 65).toArray 65)
  generalize w25.alloc (.cells (zc Tryd.prog 65).toArray 65) = w27 at *
  have hlo := h.lo
  obtain ⟨cb, hcb⟩ : ∃ cb, w25.heap.size = cb := ⟨_, rfl⟩
  rw [hcb] at hK ⊢
  refine ⟨fun x' xn' xc' u => ∃ xs' k0 was, Tch [] w25 u ∧ Blk u cb (chC ⟨k0, was, no⟩) ∧ RSl w25 3 x' xn' xc' (rows rwC xs') ∧ (∀ z, x' = some z → z.block < B) ∧ StX c xs xs' k0 was, ?_, ?_⟩
  · by_cases hc0 : c ≤ 0
    rotate_left
    · rw [bif_neg hc0]
      exact ⟨xs, (0, 0), no, t27, hK, h.xr, h.xb, .inr ⟨by omega, rfl, rfl, rfl⟩⟩
    rw [bif_pos hc0]
    obtain ⟨x0, xs', rfl⟩ : ∃ x0 xs', xs = x0 :: xs' := by cases xs with
      | nil => rw [hc] at hc0; exact absurd hc0 (by show ¬ (1 : Int) ≤ 0; omega)
      | cons x0 xs' => exact ⟨x0, xs', rfl⟩
    rintro w29 rfl
    replace t27 := t27.drew
    replace hK := hK.drew
    generalize w27.drew = w29 at *
    simp only [List.length_cons] at hxn
    obtain ⟨b1, o1, rfl, k1, k2⟩ := row_at (h.xr.tch t27 (fun _ _ h => by cases h)) (i := 0) (x := x0) rfl
    refine ⟨by omega, by omega, Lib.kC x0.k, rfl, k1, by omega, by omega, x0.v, k2, ceC (true, x0.v), by rw [zcCell]; rfl, ?_⟩
    refine put_part hK 0 (by simp) rfl Lib.kC_one fun w35 k35 t35 _ => ?_
    replace k35 : Blk w35 cb (chC ⟨x0.k, no, no⟩) := k35
    replace t27 := t27.trans t35 (by simp; omega)
    obtain ⟨b2, o2, e', k3, k4⟩ := row_at (h.xr.tch t27 (fun _ _ h => by cases h)) (i := 0) (x := x0) rfl
    cases e'
    refine ⟨⟨x0.v, k4, rfl, rfl⟩, ?_⟩
    refine put_part k35 2 (by simp) rfl (by simp [one]) fun w37 k37 t37 _ => ?_
    replace k37 : Blk w37 cb (chC ⟨x0.k, (true, x0.v), no⟩) := k37
    have hcut := cut_one h.xr h.xb
    exact ⟨by omega, by omega, xs', x0.k, (true, x0.v), t27.trans t37 (by simp; omega), k37, hcut.1, hcut.2, .inl ⟨hc0, x0, rfl, rfl, rfl⟩⟩
  clear t27 hK
  rintro w38 x' xn' xc' ⟨xs', k0, was, t38, k38, hxr, hxb, hSx⟩
  refine ⟨fun y' yn' yc' u => ∃ ys' k1 is, Tch [] w25 u ∧ Blk u cb (chC ⟨k1, was, is⟩) ∧ RSl w25 3 y' yn' yc' (rows rwC ys') ∧ (∀ z, y' = some z → z.block < B) ∧ StY c ys ys' k0 k1 is, ?_, ?_⟩
  · by_cases hc0 : 0 ≤ c
    rotate_left
    · rw [bif_neg hc0]
      exact ⟨ys, k0, no, t38, k38, h.yr, h.yb, .inr ⟨by omega, rfl, rfl, rfl⟩⟩
    rw [bif_pos hc0]
    obtain ⟨y0, ys', rfl⟩ : ∃ y0 ys', ys = y0 :: ys' := by cases ys with
      | nil =>
        cases xs with
        | nil => simp at hne
        | cons x0 xs' => rw [hc] at hc0; exact absurd hc0 (by show ¬ (0 : Int) ≤ -1; omega)
      | cons y0 ys' => exact ⟨y0, ys', rfl⟩
    rintro w41 rfl
    replace t38 := t38.drew
    replace k38 := k38.drew
    generalize w38.drew = w41 at *
    simp only [List.length_cons] at hyn
    obtain ⟨b1, o1, rfl, k1, k2⟩ := row_at (h.yr.tch t38 (fun _ _ h => by cases h)) (i := 0) (x := y0) rfl
    refine ⟨by omega, by omega, Lib.kC y0.k, rfl, k1, by omega, by omega, y0.v, k2, ceC (true, y0.v), by rw [zcCell]; rfl, ?_⟩
    refine put_part k38 0 (by simp) rfl Lib.kC_one fun w47 k47 t47 _ => ?_
    replace k47 : Blk w47 cb (chC ⟨y0.k, was, no⟩) := k47
    replace t38 := t38.trans t47 (by simp; omega)
    obtain ⟨b2, o2, e', k3, k4⟩ := row_at (h.yr.tch t38 (fun _ _ h => by cases h)) (i := 0) (x := y0) rfl
    cases e'
    refine ⟨⟨y0.v, k4, rfl, rfl⟩, ?_⟩
    refine put_part k47 4 (by simp) rfl (by simp [one]) fun w49 k49 t49 _ => ?_
    replace k49 : Blk w49 cb (chC ⟨y0.k, was, (true, y0.v)⟩) := k49
    have hcut := cut_one h.yr h.yb
    exact ⟨by omega, by omega, ys', y0.k, (true, y0.v), t38.trans t49 (by simp; omega), k49, hcut.1, hcut.2, .inl ⟨hc0, y0, rfl, rfl, rfl⟩⟩
  clear t38 k38
  rintro w50 y' yn' yc' ⟨ys', k1, is, t50, k50, hyr, hyb, hSy⟩
  obtain ⟨m', rfl, hfuel, hstep⟩ := diff_step hne h.fuel (hc ▸ hSx) (hc ▸ hSy)
  have hIwas : Sha.I64 was.2 := by
    rcases hSx with ⟨_, x0, rfl, _, rfl⟩ | ⟨_, _, _, rfl⟩
    · exact (h.xw x0 (by simp)).v
    · exact Sha.i64_0
  have hIis : Sha.I64 is.2 := by
    rcases hSy with ⟨_, y0, rfl, _, rfl⟩ | ⟨_, _, _, rfl⟩
    · exact (h.yw y0 (by simp)).v
    · exact Sha.i64_0
  have hxw : ∀ x ∈ xs', x.wf := by
    rcases hSx with ⟨_, x0, rfl, _, _⟩ | ⟨_, rfl, _, _⟩
    · exact fun x hx => h.xw x (by simp [hx])
    · exact h.xw
  have hyw : ∀ x ∈ ys', x.wf := by
    rcases hSy with ⟨_, x0, rfl, _, _⟩ | ⟨_, rfl, _, _⟩
    · exact fun x hx => h.yw x (by simp [hx])
    · exact h.yw
  have h50 := h.quiet t50
  have heq := h.eq
  rw [hstep] at heq
  refine get_part k50 2 2 (ceC was) rfl rfl ?_
  refine get_part k50 4 2 (ceC is) rfl rfl ?_
  refine neq_flat_d ce_flat ce_eqT (ce_fits hIwas) (ce_fits hIis) ceC_inj ?_
  by_cases hw : was = is
  · rw [bif_npos hw]
    refine ⟨m', by omega, xs', ys', out, ⟨hxr.tch t50 (fun _ _ h => by cases h), hxb, hyr.tch t50 (fun _ _ h => by cases h), hyb, h50.own, h50.ln, h50.tch, h50.lo, h50.base, hfuel, by omega, ?_, hxw, hyw⟩⟩
    rw [← heq]
    unfold emit
    rw [if_pos hw]
  · rw [bif_nneg hw]
    refine get_all k50 rfl ?_
    have hln := h.ln
    refine app_elem_at chT h50.own (by rw [zcChg]; rfl) (ys := chC ⟨k1, was, is⟩) rfl rfl chC_one h50.lo (by omega) (by omega) fun a5 c5 w59 o5 t5 m5 => ?_
    have hoff : ∀ {z : Option Addr}, (∀ q, z = some q → q.block < B) → Off (rowL l) z := fun hz q hq hm => by
      rw [mem_rowL] at hm
      obtain ⟨p, hp, he⟩ := hm
      have := (own_ge h50.own p hp).1
      have := hz q hq
      omega
    have s5 := t5.size
    have s50 := h50.lo
    refine ⟨m', by omega, xs', ys', out ++ [⟨k1, was, is⟩], ⟨(hxr.tch t50 (fun _ _ h => by cases h)).tch t5 (hoff hxb), hxb, (hyr.tch t50 (fun _ _ h => by cases h)).tch t5 (hoff hyb), hyb, ?_, by simp; omega, ?_, by omega, h50.base, hfuel, by simp; omega, ?_, hxw, hyw⟩⟩
    · rw [rows_append, rows_one]
      exact o5
    · refine h50.tch.trans t5 fun i hi => .inr ?_
      rw [mem_rowL] at hi
      obtain ⟨p, hp, rfl⟩ := hi
      have := (own_ge h50.own p hp).1
      omega
    · rw [← heq]
      unfold emit
      rw [if_neg hw, List.append_assoc]
      rfl
end Go.Proofs.YtjkbjppopdfggaaDoor.Tre
namespace Go.Proofs.YtjkbjppopdfggaaDoor.Tre
open Go Den Fn Sha
open Go.RowKit (Below)
open Classical
set_option maxRecDepth 8000
set_option maxHeartbeats 4000000

theorem lt_le {a b : Int × Int} (h : ¬ Lib.cmpK a b < 0) (h2 : a ≠ b) : Lib.cmpK b a < 0 := by
  rw [cmpK_neg] at *
  obtain ⟨a1, a2⟩ := a
  obtain ⟨b1, b2⟩ := b
  simp only [ne_eq, Prod.mk.injEq] at *
  omega
theorem le_cases {a b : Int × Int} : Lib.cmpK a b ≤ 0 ↔ Lib.cmpK a b < 0 ∨ a = b := by
  constructor
  · intro h
    by_cases e : Lib.cmpK a b = 0
    · exact .inr (cmpK_eq.1 e)
    · exact .inl (by omega)
  · rintro (h | rfl)
    · omega
    · rw [cmpK_eq.2 rfl]; exact Int.le_refl _
/-- Where a key goes in. -/
theorem putS_at {k : Int × Int} : ∀ {l : List (Int × Int)} {q : Nat}, q ≤ l.length → (∀ (j : Nat) (x : Int × Int), l[j]? = some x → j < q → Lib.cmpK x k < 0) → (∀ (x : Int × Int), l[q]? = some x → Lib.cmpK k x ≤ 0) →
    putS l k = if l[q]? = some k then l else l.take q ++ k :: l.drop q
  | [], q, hq, _, _ => by
    have : q = 0 := by simpa using hq
    subst this
    simp [putS]
  | x :: l, 0, _, _, h2 => by
    have h := h2 x rfl
    unfold putS
    rcases le_cases.1 h with h | rfl
    · rw [if_pos h, if_neg (by simp; rintro rfl; exact absurd h lt_irrefl')]
      rfl
    · rw [if_neg lt_irrefl', if_pos rfl]
      simp
  | x :: l, q + 1, hq, h1, h2 => by
    have hx := h1 0 x rfl (by omega)
    unfold putS
    rw [if_neg (fun h => lt_irrefl' (lt_trans' hx h)), if_neg (by rintro rfl; exact lt_irrefl' hx)]
    rw [putS_at (l := l) (q := q) (by simpa using hq) (fun j y hj hlt => h1 (j + 1) y (by simpa using hj) (by omega)) (fun y hy => h2 y (by simpa using hy))]
    simp only [List.getElem?_cons_succ, List.take_succ_cons, List.drop_succ_cons]
    split <;> rfl
theorem keys_part {l : List (Int × Int)} {i j : Nat} : ((rows Lib.kC l).drop (i * 2)).take ((j - i) * 2) = rows Lib.kC ((l.drop i).take (j - i)) := by
  rw [rows_drop Lib.kC_len]
  exact rows_take (f := Lib.kC) (sz := 2) Lib.kC_len _
/-- What put and Sort hand back. -/
def KeysR (w : World) (l : List (Int × Int)) (e : Ending) (w' : World) : Prop := ∃ a c, e = .returned (.slice a l.length c) ∧ RSl w' 2 a l.length c (rows Lib.kC l) ∧ Tch [] w w'
theorem put_c (w : World) (l : List (Int × Int)) (k : Int × Int) (a : Option Addr) (n c : Nat) (hr : RSl w 2 a n c (rows Lib.kC l)) (hup : Up l) (hN : n ≤ 1000000000000) :
    Calls Tryd.prog 83 #[.slice a n c, .agg (Lib.kC k).toArray] w (KeysR w (putS l k)) := by
  have hn := hr.count Lib.kC_len (by omega)
  refine c83 _ _ _ _ ?_
  unfold d83
  rintro w2 rfl
  have hK : Blk _ _ (Lib.kC k) := Blk.fresh w (cs := Lib.kC k) 29 rfl
  have t2 := (Tch.refl [] w).alloc (.cells (Lib.kC k).toArray 29)
  generalize w.alloc (.cells (Lib.kC k).toArray 29) = w2 at *
  obtain ⟨kb, hkb⟩ : ∃ kb, w.heap.size = kb := ⟨_, rfl⟩
  rw [hkb] at hK ⊢
  refine ⟨fun i u => ∃ q : Nat, i = q ∧ q ≤ n ∧ Tch [] w u ∧ Blk u kb (Lib.kC k) ∧ (∀ (j : Nat) (x : Int × Int), l[j]? = some x → q ≤ j → Lib.cmpK k x ≤ 0) ∧ (q = 0 ∨ ∃ x, l[q - 1]? = some x ∧ Lib.cmpK x k < 0), ?_, ?_⟩
  · refine ⟨fun m i u => ∃ q : Nat, i = q ∧ q ≤ n ∧ m = q ∧ Tch [] w u ∧ Blk u kb (Lib.kC k) ∧ ∀ (j : Nat) (x : Int × Int), l[j]? = some x → q ≤ j → Lib.cmpK k x ≤ 0, ⟨n, n, rfl, Nat.le_refl _, rfl, t2, hK, fun j x hj hle => by have := (List.getElem?_eq_some_iff.1 hj).1; omega⟩, ?_⟩
    clear hK t2
    rintro m w6 i ⟨q, rfl, hq, rfl, t6, hK, hge⟩
    rintro w8 rfl
    replace t6 := t6.drew
    replace hK := hK.drew
    generalize w6.drew = w8 at *
    by_cases h0 : 0 < m
    rotate_left
    · rw [bif_neg (by omega)]
      exact ⟨m, rfl, hq, t6, hK, hge, .inl (by omega)⟩
    rw [bif_pos (by omega), wrap_i64 (by omega) (by omega)]
    have hcast : ((m : Nat) : Int) - 1 = ((m - 1 : Nat) : Int) := by omega
    rw [hcast]
    refine get_all hK rfl ⟨by omega, by omega, ?_⟩
    rw [Int.toNat_natCast]
    have hli : l[m - 1]? = some (l[m - 1]'(by omega)) := List.getElem?_eq_getElem (by omega)
    generalize l[m - 1]'(by omega) = x at hli
    refine (hr.tch t6 (fun _ _ h => by cases h)).elem Lib.kC_len (by omega) hli ?_
    refine (Lib.refCompare_c k x w8).mono ?_
    rintro e w13 ⟨rfl, t13⟩
    refine ⟨_, rfl, ?_⟩
    replace t6 := t6.trans t13 (by simp)
    replace hK := hK.tch t13 (by simp)
    by_cases hle : Lib.cmpK k x ≤ 0
    · rw [bif_pos hle]
      refine ⟨m - 1, by omega, m - 1, rfl, by omega, rfl, t6, hK, fun j y hj hlt => ?_⟩
      by_cases e : j = m - 1
      · subst e
        rw [hli] at hj; cases hj
        exact hle
      · exact hge j y hj (by omega)
    · rw [bif_neg hle]
      exact ⟨m, rfl, hq, t6, hK, hge, .inr ⟨x, hli, lt_le (fun h => hle (by omega)) (fun h => hle (le_cases.2 (.inr h)))⟩⟩
  clear hK t2
  rintro w16 _ ⟨q, rfl, hq, t16, hK, hge, hlo⟩
  have hlt : ∀ (j : Nat) (x : Int × Int), l[j]? = some x → j < q → Lib.cmpK x k < 0 := fun j x hj hjq => by
    rcases hlo with h | ⟨y, hy, hyk⟩
    · omega
    · by_cases e : j = q - 1
      · subst e; rw [hy] at hj; cases hj; exact hyk
      · obtain ⟨g1, rfl⟩ := List.getElem?_eq_some_iff.1 hj
        obtain ⟨g2, rfl⟩ := List.getElem?_eq_some_iff.1 hy
        exact lt_trans' (List.pairwise_iff_getElem.1 hup j (q - 1) g1 g2 (by omega)) hyk
  have hput := putS_at (k := k) (l := l) (q := q) (by omega) hlt (fun x hx => hge q x hx (Nat.le_refl _))
  refine ⟨fun u => Tch [] w u ∧ Blk u kb (Lib.kC k) ∧ l[q]? ≠ some k, ?_, ?_⟩
  · rintro w19 rfl
    replace t16 := t16.drew
    replace hK := hK.drew
    generalize w16.drew = w19 at *
    by_cases h0 : q < n
    rotate_left
    · rw [bif_neg (by omega)]
      exact ⟨t16, hK, by rw [List.getElem?_eq_none (by omega)]; simp⟩
    rw [bif_pos (by omega)]
    refine get_all hK rfl ⟨by omega, by omega, ?_⟩
    rw [Int.toNat_natCast]
    have hli : l[q]? = some (l[q]'(by omega)) := List.getElem?_eq_getElem (by omega)
    generalize l[q]'(by omega) = x at hli
    refine (hr.tch t16 (fun _ _ h => by cases h)).elem Lib.kC_len (by omega) hli ?_
    refine (Lib.refCompare_c k x w19).mono ?_
    rintro e w24 ⟨rfl, t24⟩
    refine ⟨_, rfl, ?_⟩
    replace t16 := t16.trans t24 (by simp)
    by_cases hz : Lib.cmpK k x = 0
    · rw [bif_pos hz]
      have hkx := cmpK_eq.1 hz
      subst hkx
      rw [if_pos hli] at hput
      rw [hput]
      exact ⟨a, c, by rw [hn], by rw [hn]; exact hr.tch t16 (fun _ _ h => by cases h), t16⟩
    · rw [bif_neg hz]
      exact ⟨t16, hK.tch t24 (by simp), fun h => by rw [hli] at h; cases h; exact hz (cmpK_eq.2 rfl)⟩
  clear t16 hK
  rintro w26 ⟨t26, hK, hne⟩
  rw [if_neg hne] at hput
  rw [hput]
  have hcap := hr.cap
  refine ⟨by omega, by omega, ?_⟩
  rw [Int.toNat_natCast]
  have s26 := t26.size
  have hr26 := hr.tch t26 (fun _ _ h => by cases h)
  have ha := hr26.sub (l := 0) (hh := q) (by omega) (by omega)
  rw [keys_part, List.drop_zero] at ha
  refine app_at Lib.kT (own_nil w26 w26.heap.size _ _) ha (Nat.le_refl _) (by omega) (by omega) fun x1 c1 w28 o1 t28 _ => ?_
  rw [List.nil_append] at o1
  have s28 := t28.size
  replace t28 : Tch [] w26 w28 := t28
  have hK28 := hK.tch t28 (by simp)
  refine get_all hK28 rfl ?_
  refine app_elem_at Lib.kT o1 (by rw [zcKey]; rfl) (ys := Lib.kC k) rfl rfl Lib.kC_one s28 (by omega) (by omega) fun x2 c2 w34 o2 t34 _ => ?_
  have s34 := t34.size
  have q34 : Tch [] w26 w34 := t28.trans t34 fun i hi => .inr (by
    rw [mem_rowL] at hi
    obtain ⟨p, hp, rfl⟩ := hi
    exact (own_ge o1 p hp).1)
  refine ⟨by omega, by omega, ?_⟩
  have hb := (hr26.tch q34 (fun _ _ h => by cases h)).sub (l := q) (hh := n) (by omega) (by omega)
  rw [keys_part] at hb
  have hdl : (l.drop q).take (n - q) = l.drop q := List.take_of_length_le (by rw [List.length_drop]; omega)
  rw [hdl] at hb
  refine app_at Lib.kT o2 hb (by omega) (by omega) (by omega) fun x3 c3 w37 o3 t37 _ => ?_
  have q37 : Tch [] w26 w37 := q34.trans t37 fun i hi => .inr (by
    rw [mem_rowL] at hi
    obtain ⟨p, hp, rfl⟩ := hi
    exact (own_ge o2 p hp).1)
  have elen : 0 + (q - 0) + 1 + (n - q) = (l.take q ++ k :: l.drop q).length := by simp; omega
  have erow : rows Lib.kC (List.take (q - 0) l) ++ Lib.kC k ++ rows Lib.kC (l.drop q) = rows Lib.kC (l.take q ++ k :: l.drop q) := by
    rw [rows_append, rows_cons, Nat.sub_zero, List.append_assoc]
  rw [elen, erow] at o3
  exact ⟨x3, c3, by rw [elen], own_rsl o3 Lib.kCs_one, t26.trans q37 (by simp)⟩
theorem putS_len (l : List (Int × Int)) (k : Int × Int) : (putS l k).length ≤ l.length + 1 := by
  induction l with
  | nil => simp [putS]
  | cons x l ih =>
    unfold putS
    split
    · simp
    · split
      · simp
      · simp only [List.length_cons]; omega
theorem sort_take {l : List (Int × Int)} {i : Nat} {k : Int × Int} (h : l[i]? = some k) : sortS (l.take (i + 1)) = putS (sortS (l.take i)) k := by
  obtain ⟨hi, rfl⟩ := List.getElem?_eq_some_iff.1 h
  rw [List.take_succ_eq_append_getElem hi]
  unfold sortS
  rw [List.foldl_append]
  rfl
theorem sort_len (l : List (Int × Int)) (i : Nat) : (sortS (l.take i)).length ≤ i := by
  induction i with
  | zero => simp [sortS]
  | succ i ih =>
    by_cases h : i < l.length
    · rw [sort_take (List.getElem?_eq_getElem h)]
      have := putS_len (sortS (l.take i)) (l[i]'h)
      omega
    · have : l.take (i + 1) = l.take i := by rw [List.take_of_length_le (by omega), List.take_of_length_le (by omega)]
      rw [this]; omega
theorem sort_c (w : World) (l : List (Int × Int)) (a : Option Addr) (n c : Nat) (hr : RSl w 2 a n c (rows Lib.kC l)) (hk : ∀ k ∈ l, Lib.KeyOk k.1) (hN : n ≤ 1000000000000) :
    Calls Tryd.prog 63 #[.slice a n c] w fun e w' => ∃ a' c', e = .returned (.tuple #[.slice a' (sortS l).length c', .int .i64 0]) ∧ RSl w' 2 a' (sortS l).length c' (rows Lib.kC (sortS l)) ∧ Tch [] w w' := by
  have hn := hr.count Lib.kC_len (by omega)
  refine c63 _ _ _ ?_
  unfold d63
  refine (Lib.refAll_c w l a n c hr (by omega)).mono ?_
  rintro e w2 ⟨rfl, t2⟩
  refine ⟨_, rfl, ?_⟩
  rw [bif_npos hk]
  refine ⟨fun m x xn xc i u => ∃ k : Nat, i = k ∧ k ≤ n ∧ m = n - k ∧ xn = (sortS (l.take k)).length ∧ RSl u 2 x xn xc (rows Lib.kC (sortS (l.take k))) ∧ Tch [] w u, ⟨n, 0, rfl, by omega, rfl, by simp [sortS], RSl.nil _ _, t2⟩, ?_⟩
  clear t2
  rintro m w6 x xn xc i ⟨k, rfl, hk', rfl, rfl, hx, ht⟩
  by_cases hlt : k < n
  · rw [bif_pos (by omega)]
    refine ⟨by omega, by omega, ?_⟩
    rw [Int.toNat_natCast]
    have hli : l[k]? = some (l[k]'(by omega)) := List.getElem?_eq_getElem (by omega)
    generalize l[k]'(by omega) = y at hli
    refine (hr.tch ht (fun _ _ h => by cases h)).elem Lib.kC_len (by omega) hli ?_
    have hsl := sort_len l k
    refine (put_c w6 (sortS (l.take k)) y x _ xc hx (sortS_up _) (by omega)).mono ?_
    rintro e w12 ⟨a', c', rfl, hx', t12⟩
    rw [← sort_take hli] at hx' ⊢
    exact ⟨_, _, _, rfl, n - (k + 1), by omega, k + 1, by rw [wrap_i64 (by omega) (by omega)]; omega, by omega, rfl, rfl, hx', ht.trans t12 (by simp)⟩
  · rw [bif_neg (by omega)]
    obtain rfl : k = n := by omega
    have hkl : l.take k = l := List.take_of_length_le (by omega)
    rw [hkl] at hx ⊢
    exact ⟨x, xc, rfl, hx, ht⟩
theorem atS_none' {l : List Rw} {k : Int × Int} (h : ∀ x ∈ l, x.k ≠ k) : atS l k = no := by
  induction l with
  | nil => rfl
  | cons x l ih =>
    unfold atS
    rw [if_neg (h x (by simp)), ih fun y hy => h y (by simp [hy])]
theorem atS_some {l : List Rw} {k : Int × Int} : ∀ {i : Nat} {x : Rw}, l[i]? = some x → (∀ y ∈ l.take i, y.k ≠ k) → x.k = k → atS l k = (true, x.v) := by
  induction l with
  | nil => intro i x h; simp at h
  | cons y l ih =>
    intro i x h hb hk
    cases i with
    | zero => cases h; unfold atS; rw [if_pos hk]
    | succ i =>
      unfold atS
      rw [if_neg (hb y (by simp)), ih (by simpa using h) (fun z hz => hb z (by simp [hz])) hk]
theorem at_c (w : World) (l : List Rw) (k : Int × Int) (a : Option Addr) (n c : Nat) (hr : RSl w 3 a n c (rows rwC l)) (hl : ∀ x ∈ l, x.wf) (hk : Lib.kI k) (hN : n ≤ 1000000000000) :
    Calls Tryd.prog 64 #[.slice a n c, .agg (Lib.kC k).toArray] w fun e w' => e = .returned (.agg (ceC (atS l k)).toArray) ∧ Tch [] w w' := by
  have hn := hr.count rwC_len (by omega)
  refine c64 _ _ _ _ ?_
  unfold d64
  rintro w2 rfl
  have hK : Blk _ _ (Lib.kC k) := Blk.fresh w (cs := Lib.kC k) 29 rfl
  have t2 := (Tch.refl [] w).alloc (.cells (Lib.kC k).toArray 29)
  have s2 := size_alloc w (.cells (Lib.kC k).toArray 29)
  generalize w.alloc (.cells (Lib.kC k).toArray 29) = w2 at *
  rintro w3 rfl
  have hO : Blk _ _ (ceC no) := Blk.fresh w2 (cs := zc Tryd.prog 45) 45 zcCell
  have t3 := t2.alloc (.cells (zc Tryd.prog 45).toArray 45)
  replace hK := hK.tch ((Tch.refl [] w2).alloc (.cells (zc Tryd.prog 45).toArray 45)) (by simp)
  generalize w2.alloc (.cells (zc Tryd.prog 45).toArray 45) = w3 at *
  obtain ⟨kb, hkb⟩ : ∃ kb, w.heap.size = kb := ⟨_, rfl⟩
  obtain ⟨ob, hob⟩ : ∃ ob, w2.heap.size = ob := ⟨_, rfl⟩
  rw [hkb] at hK ⊢
  rw [hob] at hO ⊢
  refine ⟨fun m i u => ∃ q : Nat, i = q ∧ q ≤ n ∧ m = n - q ∧ Tch [] w u ∧ Blk u kb (Lib.kC k) ∧ Blk u ob (ceC no) ∧ ∀ y ∈ l.take q, y.k ≠ k, ⟨n, 0, rfl, by omega, rfl, t3, hK, hO, by simp⟩, ?_⟩
  clear t3 hK hO t2
  rintro m w6 i ⟨q, rfl, hq, rfl, t6, hK, hO, hne⟩
  by_cases hlt : q < n
  · rw [bif_pos (by omega)]
    rintro w8 rfl
    replace t6 := t6.drew
    replace hK := hK.drew
    replace hO := hO.drew
    generalize w6.drew = w8 at *
    refine ⟨by omega, by omega, ?_⟩
    rw [Int.toNat_natCast]
    have hli : l[q]? = some (l[q]'(by omega)) := List.getElem?_eq_getElem (by omega)
    generalize l[q]'(by omega) = x at hli
    have hxw := hl x (List.mem_of_getElem? hli)
    obtain ⟨b, o, rfl, k1, k2⟩ := row_at (hr.tch t6 (fun _ _ h => by cases h)) hli
    refine ⟨Lib.kC x.k, rfl, k1, ?_⟩
    refine get_all hK rfl ?_
    refine eq_flat_d Lib.key_flat Lib.key_eqT (Lib.key_fits (k := x.k) ⟨hxw.t, hxw.r⟩) (Lib.key_fits hk) Lib.kC_inj ?_
    by_cases he : x.k = k
    · rw [bif_pos he]
      refine ⟨by omega, by omega, x.v, k2, ceC (true, x.v), by rw [zcCell]; rfl, ?_⟩
      refine put_all (n := 2) hO rfl rfl (by simp [one]) fun w16 h16 t16 _ => ?_
      refine get_all h16 rfl ⟨?_, t6.trans t16 (by simp; omega)⟩
      rw [atS_some hli hne he]
    · rw [bif_neg he]
      refine ⟨n - (q + 1), by omega, q + 1, by rw [wrap_i64 (by omega) (by omega)]; omega, by omega, rfl, t6, hK, hO, ?_⟩
      intro y hy
      obtain ⟨hi, rfl⟩ := List.getElem?_eq_some_iff.1 hli
      rw [List.take_succ_eq_append_getElem hi] at hy
      rcases List.mem_append.1 hy with hy | hy
      · exact hne y hy
      · rw [List.mem_singleton] at hy
        rw [hy]; exact he
  · rw [bif_neg (by omega)]
    obtain rfl : q = n := by omega
    refine ⟨ceC no, by rw [zcCell]; rfl, ?_⟩
    refine put_all (n := 2) hO rfl rfl (by simp [one]) fun w20 h20 t20 _ => ?_
    refine get_all h20 rfl ⟨?_, t6.trans t20 (by simp; omega)⟩
    rw [atS_none' fun x hx => hne x (by rw [List.take_of_length_le (by omega)]; exact hx)]
theorem refS_snoc {a b : List Rw} {k : Int × Int} : ∀ {l : List (Int × Int)}, refS a b (l ++ [k]) = refS a b l ++ emit ⟨k, atS a k, atS b k⟩ []
  | [] => rfl
  | x :: l => by
    show emit _ (refS a b (l ++ [k])) = emit _ (refS a b l) ++ _
    rw [refS_snoc]
    unfold emit
    split <;> rfl
theorem refS_len {a b : List Rw} : ∀ {l : List (Int × Int)}, (refS a b l).length ≤ l.length
  | [] => Nat.le_refl _
  | x :: l => by
    have := refS_len (a := a) (b := b) (l := l)
    show (emit _ (refS a b l)).length ≤ _
    unfold emit
    split <;> simp <;> omega
theorem atS_I64 {l : List Rw} (h : ∀ x ∈ l, x.wf) (k : Int × Int) : Sha.I64 (atS l k).2 := by
  induction l with
  | nil => exact Sha.i64_0
  | cons x l ih =>
    unfold atS
    split
    · exact (h x (by simp)).v
    · exact ih fun y hy => h y (by simp [hy])
theorem keys_snoc {l : List Rw} {i : Nat} {x : Rw} (h : l[i]? = some x) : rows Lib.kC (keysOf (l.take i)) ++ Lib.kC x.k = rows Lib.kC (keysOf (l.take (i + 1))) := by
  obtain ⟨hi, rfl⟩ := List.getElem?_eq_some_iff.1 h
  rw [List.take_succ_eq_append_getElem hi]
  unfold keysOf
  rw [List.map_append, rows_append]
  show _ = _ ++ rows Lib.kC [_]
  rw [rows_one]
theorem refDiff_c (w : World) (a b : List Rw) (pa : Option Addr) (na ca : Nat) (pb : Option Addr) (nb cb : Nat) (hra : RSl w 3 pa na ca (rows rwC a)) (hrb : RSl w 3 pb nb cb (rows rwC b)) (ha : ∀ x ∈ a, x.wf) (hb : ∀ x ∈ b, x.wf) (hka : ∀ x ∈ a, Lib.KeyOk x.t) (hkb : ∀ x ∈ b, Lib.KeyOk x.t) (hN : na + nb ≤ 1000000000000) :
    Calls Tryd.prog 26 #[.slice pa na ca, .slice pb nb cb] w (ChgR w (refS a b (sortS (keysOf a ++ keysOf b)))) := by
  have hna := hra.count rwC_len (by omega)
  have hnb := hrb.count rwC_len (by omega)
  refine c26 _ _ _ _ _ _ ?_
  unfold d26
  obtain ⟨B, hB⟩ : ∃ B, w.heap.size = B := ⟨_, rfl⟩
  refine ⟨fun m x xn xc i u => ∃ k : Nat, i = k ∧ k ≤ na ∧ m = na - k ∧ xn = k ∧ u.ownsRow B 29 2 (.slice x k xc) k (rows Lib.kC (keysOf (a.take k))) ∧ Tch [] w u, ⟨na, 0, rfl, by omega, rfl, rfl, own_nil _ _ _ _, Tch.refl _ _⟩, ?_⟩
  rintro m w4 x xn xc i ⟨k, rfl, hk, rfl, rfl, hown, ht⟩
  have s4 := ht.size
  by_cases hlt : xn < na
  · rw [bif_pos (by omega)]
    refine ⟨by omega, by omega, ?_⟩
    rw [Int.toNat_natCast]
    have hli : a[xn]? = some (a[xn]'(by omega)) := List.getElem?_eq_getElem (by omega)
    generalize a[xn]'(by omega) = y at hli
    obtain ⟨b1, o1, rfl, k1, _⟩ := row_at (hra.tch ht (fun _ _ h => by cases h)) hli
    refine ⟨Lib.kC y.k, rfl, k1, ?_⟩
    refine app_elem_at Lib.kT hown (by rw [zcKey]; rfl) (ys := Lib.kC y.k) rfl rfl Lib.kC_one (by omega) (by omega) (by omega) fun a5 c5 w14 o5 t5 m5 => ?_
    refine ⟨na - (xn + 1), by omega, xn + 1, by rw [wrap_i64 (by omega) (by omega)]; omega, by omega, rfl, rfl, by rw [keys_snoc hli] at o5; exact o5, ?_⟩
    exact ht.trans t5 fun i hi => .inr (by
      rw [mem_rowL] at hi
      obtain ⟨z, hz, rfl⟩ := hi
      have := (own_ge hown z hz).1
      omega)
  rw [bif_neg (by omega)]
  obtain rfl : xn = na := by omega
  rw [show a.take xn = a from List.take_of_length_le (by omega)] at hown
  clear hlt hk
  refine ⟨fun m x xn' xc i u => ∃ k : Nat, i = k ∧ k ≤ nb ∧ m = nb - k ∧ xn' = xn + k ∧ u.ownsRow B 29 2 (.slice x (xn + k) xc) (xn + k) (rows Lib.kC (keysOf a ++ keysOf (b.take k))) ∧ Tch [] w u, ⟨nb, 0, rfl, by omega, rfl, rfl, by rw [List.take_zero]; simpa [keysOf] using hown, ht⟩, ?_⟩
  clear hown ht s4
  rintro m w17 x' xn' xc' i ⟨k, rfl, hk, rfl, rfl, hown, ht⟩
  have s17 := ht.size
  by_cases hlt : k < nb
  · rw [bif_pos (by omega)]
    refine ⟨by omega, by omega, ?_⟩
    rw [Int.toNat_natCast]
    have hli : b[k]? = some (b[k]'(by omega)) := List.getElem?_eq_getElem (by omega)
    generalize b[k]'(by omega) = y at hli
    obtain ⟨b1, o1, rfl, k1, _⟩ := row_at (hrb.tch ht (fun _ _ h => by cases h)) hli
    refine ⟨Lib.kC y.k, rfl, k1, ?_⟩
    refine app_elem_at Lib.kT hown (by rw [zcKey]; rfl) (ys := Lib.kC y.k) rfl rfl Lib.kC_one (by omega) (by omega) (by omega) fun a5 c5 w14 o5 t5 m5 => ?_
    refine ⟨nb - (k + 1), by omega, k + 1, by rw [wrap_i64 (by omega) (by omega)]; omega, by omega, rfl, by omega, ?_, ?_⟩
    · rw [rows_append, List.append_assoc, keys_snoc hli, ← rows_append] at o5
      exact o5
    exact ht.trans t5 fun i hi => .inr (by
      rw [mem_rowL] at hi
      obtain ⟨z, hz, rfl⟩ := hi
      have := (own_ge hown z hz).1
      omega)
  rw [bif_neg (by omega)]
  obtain rfl : k = nb := by omega
  rw [show b.take k = b from List.take_of_length_le (by omega)] at hown
  clear hlt hk
  have hKok : ∀ q ∈ keysOf a ++ keysOf b, Lib.KeyOk q.1 := fun q hq => by
    rcases List.mem_append.1 hq with hq | hq
    · obtain ⟨x, hx, rfl⟩ := List.mem_map.1 hq; exact hka x hx
    · obtain ⟨x, hx, rfl⟩ := List.mem_map.1 hq; exact hkb x hx
  have hKI : ∀ q ∈ keysOf a ++ keysOf b, Lib.kI q := fun q hq => by
    rcases List.mem_append.1 hq with hq | hq
    · exact keys_kI ha q hq
    · exact keys_kI hb q hq
  refine (sort_c w17 _ x' _ xc' (own_rsl hown Lib.kCs_one) hKok (by omega)).mono ?_
  rintro e w29 ⟨ka, kc, rfl, hks, t29⟩
  refine ⟨_, _, _, _, rfl, _, _, _, rfl, _, rfl, ?_⟩
  have hslen : (sortS (keysOf a ++ keysOf b)).length ≤ xn + k := by
    have := sort_len (keysOf a ++ keysOf b) (xn + k)
    rwa [List.take_of_length_le (by simp [keysOf]; omega)] at this
  have hmem : ∀ q ∈ sortS (keysOf a ++ keysOf b), Lib.kI q := fun q hq => hKI q (sortS_mem.1 hq)
  replace ht := ht.trans t29 (by simp)
  clear hown t29 s17
  generalize sortS (keysOf a ++ keysOf b) = S at *
  have s29 := ht.size
  refine ⟨fun m l ln lc i u => ∃ q : Nat, i = q ∧ q ≤ S.length ∧ m = S.length - q ∧ ln = (refS a b (S.take q)).length ∧ u.ownsRow w29.heap.size 65 6 (.slice l ln lc) ln (rows chC (refS a b (S.take q))) ∧ Tch [] w29 u, ⟨S.length, 0, rfl, by omega, rfl, rfl, own_nil _ _ _ _, Tch.refl _ _⟩, ?_⟩
  rintro m w36 l ln lc i ⟨q, rfl, hq, rfl, rfl, hown, t36⟩
  have s36 := t36.size
  by_cases hlt : q < S.length
  rotate_left
  · rw [bif_neg (by omega)]
    obtain rfl : q = S.length := by omega
    rw [List.take_length] at *
    exact ⟨l, lc, rfl, own_base hown s29, ht.trans t36 (by simp)⟩
  rw [bif_pos (by omega)]
  refine ⟨by omega, by omega, ?_⟩
  rw [Int.toNat_natCast]
  have hli : S[q]? = some (S[q]'(by omega)) := List.getElem?_eq_getElem (by omega)
  have htk : S.take (q + 1) = S.take q ++ [S[q]'(by omega)] := List.take_succ_eq_append_getElem (by omega)
  generalize S[q]'(by omega) = y at hli htk
  have hyI := hmem y (List.mem_of_getElem? hli)
  obtain ⟨ba, oa, rfl, ck⟩ := (hks.tch t36 (fun _ _ h => by cases h)).elem' Lib.kC_len (by omega) hli
  refine ⟨Lib.kC y, rfl, by rw [add_mk]; exact ck, ?_⟩
  have t0 := ht.trans t36 (by simp)
  refine (at_c w36 a y pa xn ca (hra.tch t0 (fun _ _ h => by cases h)) ha hyI (by omega)).mono ?_
  rintro e w42 ⟨rfl, t42⟩
  refine ⟨_, rfl, ?_⟩
  replace t36 := t36.trans t42 (by simp)
  replace hown := own_up hown t42 (fun _ _ h => by cases h)
  refine var_init (n := 2) (by rw [zcCell]; rfl) rfl (by simp [one]) fun w44 w45 h1 t45 s45 => ?_
  refine ⟨by omega, by omega, ?_⟩
  replace t36 := t36.trans t45 (by simp)
  replace hown := own_up hown t45 (fun _ _ h => by cases h)
  obtain ⟨ba', oa', e', ck⟩ := (hks.tch t36 (fun _ _ h => by cases h)).elem' Lib.kC_len (by omega) hli
  cases e'
  refine ⟨Lib.kC y, rfl, by rw [add_mk]; exact ck, ?_⟩
  replace t0 := ht.trans t36 (by simp)
  refine (at_c w45 b y pb k cb (hrb.tch t0 (fun _ _ h => by cases h)) hb hyI (by omega)).mono ?_
  rintro e w49 ⟨rfl, t49⟩
  refine ⟨_, rfl, ?_⟩
  replace t36 := t36.trans t49 (by simp)
  replace hown := own_up hown t49 (fun _ _ h => by cases h)
  replace h1 := h1.tch t49 (by simp)
  refine var_init (n := 2) (by rw [zcCell]; rfl) rfl (by simp [one]) fun w51 w52 h2 t52 s52 => ?_
  replace t36 := t36.trans t52 (by simp)
  replace hown := own_up hown t52 (fun _ _ h => by cases h)
  replace h1 := h1.tch t52 (by simp)
  refine get_all h1 rfl ?_
  refine get_all h2 rfl ?_
  refine neq_flat_d ce_flat ce_eqT (ce_fits (atS_I64 ha y)) (ce_fits (atS_I64 hb y)) ceC_inj ?_
  have hsn := refS_snoc (a := a) (b := b) (k := y) (l := S.take q)
  rw [← htk] at hsn
  have hrl := refS_len (a := a) (b := b) (l := S.take q)
  rw [List.length_take] at hrl
  by_cases hw : atS a y = atS b y
  · rw [bif_npos hw]
    have : refS a b (S.take (q + 1)) = refS a b (S.take q) := by
      rw [hsn]; unfold emit; rw [if_pos hw, List.append_nil]
    exact ⟨S.length - (q + 1), by omega, q + 1, by rw [wrap_i64 (by omega) (by omega)]; omega, by omega, rfl, by rw [this], by rw [this]; exact hown, t36⟩
  · rw [bif_nneg hw]
    have : refS a b (S.take (q + 1)) = refS a b (S.take q) ++ [⟨y, atS a y, atS b y⟩] := by
      rw [hsn]; unfold emit; rw [if_neg hw]
    rintro w56 rfl
    have td := (Tch.refl [] w52).drew
    replace t36 := t36.drew
    replace h1 := h1.drew
    replace h2 := h2.drew
    replace hown := own_up hown td (fun _ _ h => by cases h)
    generalize w52.drew = w56 at *
    refine ⟨by omega, by omega, ?_⟩
    obtain ⟨ba', oa', e', ck⟩ := (hks.tch t36 (fun _ _ h => by cases h)).elem' Lib.kC_len (by omega) hli
    cases e'
    refine ⟨Lib.kC y, rfl, by rw [add_mk]; exact ck, ?_⟩
    refine get_all h1 rfl ?_
    refine get_all h2 rfl ?_
    refine ⟨chC ⟨y, atS a y, atS b y⟩, by rw [zcChg]; rfl, ?_⟩
    refine app_elem_at chT hown (by rw [zcChg]; rfl) (ys := chC ⟨y, atS a y, atS b y⟩) rfl rfl chC_one (by have := t36.size; omega) (by omega) (by omega) fun a5 c5 w65 o5 t5 m5 => ?_
    refine ⟨S.length - (q + 1), by omega, q + 1, by rw [wrap_i64 (by omega) (by omega)]; omega, by omega, rfl, by rw [this]; simp, ?_, ?_⟩
    · rw [this, rows_append, rows_one]
      exact o5
    · exact t36.trans t5 fun i hi => .inr (by
        rw [mem_rowL] at hi
        obtain ⟨z, hz, rfl⟩ := hi
        exact (own_ge hown z hz).1)
end Go.Proofs.YtjkbjppopdfggaaDoor.Tre
namespace Go.Proofs.YtjkbjppopdfggaaDoor.Den
open Go
open Go.RowKit (Below)

theorem run_copy_sz {P : Program} (w : World) (dT sT ty elem : TypeId) (g o dLen dCap : Nat) (a : Addr) (sLen sCap : Nat) (cur : Array Value) (t : TypeId) (cs : List Value) {i : TypeInfo}
    (hu : P.underlying dT = some (.slice elem)) (hq : P.info? elem = some i)
    (hg : w.heap[g]? = some (.cells cur t (0, 0))) (hn : cs.length = Nat.min sLen dLen * i.size)
    (hsrc : ∀ j v, cs[j]? = some v → w.cell? (a.add j) = some v) (hfit : o + cs.length ≤ cur.size) (h1 : ∀ v ∈ cs, v.oneCell' = true) :
    (Builtin.copy_ #[dT, sT] ty #[.slice (some ⟨g, o, none⟩) dLen dCap, .slice (some a) sLen sCap]).run P w =
      .ok (goInt (Nat.min sLen dLen)) (w.setRow g (cur.toList.take o ++ cs ++ cur.toList.drop (o + cs.length)).toArray) := by
  have hl := run_loadCells_list (P := P) w a cs hsrc
  have hst := run_storeCells_at P g o t cs 0 cur w hg (by simpa using hfit) h1
  simp [Builtin.copy_, run_underlying hu, Builtin.lenOf, Builtin.firstCells, sizeOf, typeInfo, hq, ← hn, hl, hst]
/-- A copy of elements into a block. -/
theorem cpyN {P : Program} {dT sT ty e : TypeId} {size bytes : Nat} (hT : slT P dT e size bytes = true) {w : World} {g o dn dc : Nat} {T : TypeId} {cur : List Value} (hg : BlkT w g T cur) {b : Option Addr} {sn sc : Nat} {ys : List Value}
    (hy : RSl w size b sn sc ys) (hfit : o + min sn dn * size ≤ cur.length) {K : Int → World → Prop}
    (hK : ∀ w', BlkT w' g T (splice cur o (ys.take (min sn dn * size))) → Tch [g] w w' → w'.heap.size = w.heap.size → K ((min sn dn : Nat) : Int) w') :
    RunV P (Builtin.copy_ #[dT, sT] ty #[.slice (some ⟨g, o, none⟩) dn dc, .slice b sn sc]) w fun v w' => ∃ x : Int, v = (.int .i64 x) ∧ K x w' := by
  obtain ⟨h1, h2, i, z, h3, h4, h5, h6, h7⟩ := slT_spec hT
  have hlen : (ys.take (min sn dn * size)).length = min sn dn * size := by
    rw [List.length_take, hy.len]
    exact Nat.min_eq_left (Nat.mul_le_mul_right _ (Nat.min_le_left _ _))
  have hsr : ∀ cs : Array Value, Tch [g] w (w.setRow g cs) ∧ (w.setRow g cs).heap.size = w.heap.size := fun cs =>
    ⟨⟨rfl, rfl, rfl, by simp [World.setRow], fun k _ hn => by
      have : g ≠ k := fun e => hn (by simp [e])
      simp [World.setRow, Array.getElem?_modify, this]⟩, by simp [World.setRow]⟩
  obtain ⟨rfl, hc⟩ | ⟨ad, rfl, hcells⟩ := hy.from
  · have hn : sn = 0 := by have := hy.cap; omega
    subst hn; subst hc
    refine ⟨_, _, run_copy_nil P w dT sT ty e ⟨g, o, none⟩ dn dc h1 (by rw [h3]; rfl), _, rfl, ?_⟩
    rw [Nat.zero_min] at hK
    exact hK w (by simpa [splice] using hg) (Tch.refl _ _) rfl
  · refine ⟨_, _, run_copy_sz w dT sT ty e g o dn dc ad sn sc cur.toArray T (ys.take (min sn dn * size)) h1 h3 hg (by rw [hlen, h5]) (fun j v hv => hcells j v (by rw [List.getElem?_take] at hv; split at hv; exact hv; cases hv)) (by rw [hlen]; simpa using hfit) (fun v hv => by rw [← one_eq]; exact hy.ones v (List.mem_of_mem_take hv)), _, rfl, ?_⟩
    refine hK _ ?_ (hsr _).1 (hsr _).2
    unfold BlkT
    rw [setRow_heap w g cur.toArray _ T (0, 0) hg]
    simp [splice, hlen]
/-- append, and the old slice still reads as it did. -/
theorem app_keep {P : Program} {t e ty : TypeId} {size bytes : Nat} (hT : slT P t e size bytes = true) {w : World} {base : Nat} {a : Option Addr} {n c : Nat} {xs : List Value} (hown : w.ownsRow base e size (.slice a n c) n xs)
    {b : Option Addr} {m mc : Nat} {ys : List Value} (hy : RSl w size b m mc ys) (hb : base ≤ w.heap.size) (hlen : n + m ≤ 9223372036854775807) (hbytes : (n + m) * bytes ≤ 140737488355328) {K : Option Addr → Nat → Nat → World → Prop}
    (hK : ∀ a' c' w', w'.ownsRow base e size (.slice a' (n + m) c') (n + m) (xs ++ ys) → Tch (rowL a) w w' → Moved a a' w.heap.size → (∀ g, a = some g → ∀ i v, xs[i]? = some v → w'.cell? (g.add i) = some v) → K a' (n + m) c' w') :
    RunV P (Builtin.append_ #[t, t] ty #[.slice a n c, .slice b m mc]) w fun v w' => ∃ (x : Option Addr) (xn : Nat) (xc : Nat), v = (.slice x xn xc) ∧ K x xn xc w' := by
  obtain ⟨v, w', hrun, a', k, c', rfl, hk, ho, ht, hm⟩ := app_at (K := fun x k xc w' => k = n + m ∧ w'.ownsRow base e size (.slice x (n + m) xc) (n + m) (xs ++ ys) ∧ Tch (rowL a) w w' ∧ Moved a x w.heap.size) hT hown hy hb hlen hbytes fun a' c' w' h1 h2 h3 => ⟨rfl, h1, h2, h3⟩
  subst hk
  refine ⟨_, _, hrun, a', _, c', rfl, hK a' c' w' ho ht hm ?_⟩
  intro g hg i v hv
  have hlen' : xs.length = n * size := hown.1
  have hil := (List.getElem?_eq_some_iff.1 hv).1
  -- the same block, or a new one
  have hcells : ∀ g', a' = some g' → ∀ i v, xs[i]? = some v → w'.cell? (g'.add i) = some v := fun g' hg' i v hv => by
    subst hg'
    have h0 : ∃ q, g' = ⟨q, 0, none⟩ := by
      obtain ⟨_, ⟨hv', _⟩ | ⟨q, cap, cur, hv', _⟩⟩ := ho
      · cases hv'
      · cases hv'; exact ⟨q, rfl⟩
    obtain ⟨q, rfl⟩ := h0
    exact ho.cells (g := q) rfl i v (by rw [List.getElem?_append_left (List.getElem?_eq_some_iff.1 hv).1]; exact hv)
  by_cases hsame : a' = a
  · exact hcells g (by rw [hsame, hg]) i v hv
  obtain ⟨h1, h2, inf, z, h3, h4, h5, h6, h7⟩ := slT_spec hT
  subst hg
  obtain ⟨_, ⟨hv', _⟩ | ⟨q, cap, cur, hv', hbq, hq, hnc, hcm, hcs, htk⟩⟩ := hown
  · cases hv'
  cases hv'
  obtain ⟨rfl, hc⟩ | ⟨ad, rfl, hsrc⟩ := hy.from
  · exfalso
    have hm0 : m = 0 := by have := hy.cap; omega
    subst hm0; subst hc
    have hown' : w.ownsRow base e size (.slice (some ⟨q, 0, none⟩) n c) n xs := ⟨hlen', .inr ⟨q, c, cur, rfl, hbq, hq, hnc, hcm, hcs, htk⟩⟩
    have hr := run_append_owned_none w base t ty e inf size h1 h3 _ n xs hown'
    rw [hr] at hrun
    cases hrun
    exact hsame rfl
  · by_cases hroom : n + m ≤ c
    · exfalso
      have hr := run_append_room (P := P) w t ty e inf h1 h3 q n c cur hq ad m mc ys (by rw [h5]; exact hy.len) hsrc (ones_cells.1 hy.ones) hroom (by rw [h5, hy.len, hcs, ← Nat.add_mul]; exact Nat.mul_le_mul_right _ hroom)
      rw [hr] at hrun
      cases hrun
      exact hsame rfl
    · have hown' : w.ownsRow base e size (.slice (some ⟨q, 0, none⟩) n c) n xs := ⟨hlen', .inr ⟨q, c, cur, rfl, hbq, hq, hnc, hcm, hcs, htk⟩⟩
      have holds : ∀ j u, xs[j]? = some u → w.cell? ((⟨q, 0, none⟩ : Addr).add j) = some u := hown'.cells (g := q) rfl
      have hr := run_append_grow (P := P) w t ty e inf z h1 h3 h4 ⟨q, 0, none⟩ n c xs (by rw [h5]; exact hlen') holds ad m mc ys (by rw [h5]; exact hy.len) hsrc (by omega) (by omega) (growslice_fits (by omega) (by rw [h6]; exact hbytes))
      rw [hr] at hrun
      cases hrun
      have hlt : q < w.heap.size := (Array.getElem?_eq_some_iff.1 hq).1
      have hcell := holds i v hv
      rw [World.cell?_of_block (w := w)]
      · exact hcell
      · rw [add_mk]
        exact Below.heap_alloc w.drew _ q hlt
end Go.Proofs.YtjkbjppopdfggaaDoor.Den
namespace Go.Proofs.YtjkbjppopdfggaaDoor.Tre
open Go Den Fn Sha
open Go.RowKit (Below)
open Classical
set_option maxRecDepth 8000
set_option maxHeartbeats 4000000

theorem rwCs_one {l : List Rw} : ∀ u ∈ rows rwC l, one u = true := fun u hu => by
  unfold rows at hu
  obtain ⟨v, hv, hu⟩ := List.mem_flatten.1 hu
  obtain ⟨x, _, rfl⟩ := List.mem_map.1 hv
  exact rwC_one u hu
theorem num_c (n : Int) (w : World) : Calls Tryd.prog 17 #[.int .i64 n] w fun e w' => e = .returned (.int .i64 n) ∧ w' = w := by
  refine c17 _ ?_
  unfold d17
  exact ⟨rfl, rfl⟩
/-! ### few -/
theorem few_c (w : World) (l : List Rw) (a : Option Addr) (n c : Nat) (hr : RSl w 3 a n c (rows rwC l)) :
    Calls Tryd.prog 22 #[.slice a n c] w fun e w' => ∃ a' c', e = .returned (.slice a' (l.take 300).length c') ∧ RSl w' 3 a' (l.take 300).length c' (rows rwC (l.take 300)) ∧ w' = w := by
  have hn := hr.count rwC_len (by omega)
  have hc := hr.cap
  refine c22 _ _ _ ?_
  unfold d22
  by_cases h : 300 < n
  · rw [bif_pos (by omega)]
    refine ⟨by omega, by omega, ?_⟩
    have hs := hr.sub (l := 0) (hh := 300) (by omega) (by omega)
    rw [rows_part, List.drop_zero] at hs
    rw [show (l.take 300).length = 300 by rw [List.length_take]; omega]
    exact ⟨_, _, rfl, hs, rfl⟩
  · rw [bif_neg (by omega)]
    rw [show l.take 300 = l from List.take_of_length_le (by omega), hn]
    exact ⟨a, c, rfl, hr, rfl⟩
/-! ### set -/
theorem refSet_c (w : World) (l : List Rw) (a : Option Addr) (n c : Nat) (hr : RSl w 3 a n c (rows rwC l)) (hN : n ≤ 1000000000000) :
    Calls Tryd.prog 29 #[.slice a n c] w fun e w' => e = .returned (.bool (decide (Lib.RisesS (keysOf l)))) ∧ Tch [] w w' := by
  have hn := hr.count rwC_len (by omega)
  refine c29 _ _ _ ?_
  unfold d29
  refine ⟨fun m x xn xc i u => ∃ k : Nat, i = k ∧ k ≤ n ∧ m = n - k ∧ xn = k ∧ u.ownsRow w.heap.size 29 2 (.slice x k xc) k (rows Lib.kC (keysOf (l.take k))) ∧ Tch [] w u, ⟨n, 0, rfl, by omega, rfl, rfl, own_nil _ _ _ _, Tch.refl _ _⟩, ?_⟩
  rintro m w3 x xn xc i ⟨k, rfl, hk, rfl, rfl, hown, ht⟩
  have s3 := ht.size
  by_cases hlt : xn < n
  · rw [bif_pos (by omega)]
    refine ⟨by omega, by omega, ?_⟩
    rw [Int.toNat_natCast]
    have hli : l[xn]? = some (l[xn]'(by omega)) := List.getElem?_eq_getElem (by omega)
    generalize l[xn]'(by omega) = y at hli
    obtain ⟨b1, o1, rfl, k1, _⟩ := row_at (hr.tch ht (fun _ _ h => by cases h)) hli
    refine ⟨Lib.kC y.k, rfl, k1, ?_⟩
    refine app_elem_at Lib.kT hown (by rw [zcKey]; rfl) (ys := Lib.kC y.k) rfl rfl Lib.kC_one (by omega) (by omega) (by omega) fun a5 c5 w14 o5 t5 m5 => ?_
    refine ⟨n - (xn + 1), by omega, xn + 1, by rw [wrap_i64 (by omega) (by omega)]; omega, by omega, rfl, rfl, by rw [keys_snoc hli] at o5; exact o5, ?_⟩
    exact ht.trans t5 fun i hi => .inr (by
      rw [mem_rowL] at hi
      obtain ⟨z, hz, rfl⟩ := hi
      exact (own_ge hown z hz).1)
  · rw [bif_neg (by omega)]
    obtain rfl : xn = n := by omega
    rw [show l.take xn = l from List.take_of_length_le (by omega)] at hown
    refine (Lib.refRises_c w3 (keysOf l) x xn xc (own_rsl hown Lib.kCs_one) (by omega)).mono ?_
    rintro e w15 ⟨rfl, t15⟩
    exact ⟨_, rfl, rfl, ht.trans t15 (by simp)⟩
/-- Each row that rises above those before it. -/
noncomputable def setStep (l : List Rw) (x : Rw) : List Rw := if Lib.RisesS (keysOf (l ++ [x])) then l ++ [x] else l
noncomputable def setS (l : List Rw) : List Rw := l.foldl setStep []
theorem setS_snoc {l : List Rw} {i : Nat} {x : Rw} (h : l[i]? = some x) : setS (l.take (i + 1)) = setStep (setS (l.take i)) x := by
  obtain ⟨hi, rfl⟩ := List.getElem?_eq_some_iff.1 h
  rw [List.take_succ_eq_append_getElem hi]
  unfold setS
  rw [List.foldl_append]
  rfl
theorem setS_go {l : List Rw} : ∀ {acc : List Rw}, Lib.RisesS (keysOf acc) → Lib.RisesS (keysOf (l.foldl setStep acc)) ∧ (l.foldl setStep acc).length ≤ acc.length + l.length ∧ ∀ x ∈ l.foldl setStep acc, x ∈ acc ∨ x ∈ l := by
  induction l with
  | nil => intro acc h; exact ⟨h, by simp, fun x hx => .inl hx⟩
  | cons y l ih =>
    intro acc h
    have hs : Lib.RisesS (keysOf (setStep acc y)) := by unfold setStep; split <;> assumption
    obtain ⟨h1, h2, h3⟩ := ih hs
    have hl : (setStep acc y).length ≤ acc.length + 1 := by unfold setStep; split <;> simp
    refine ⟨h1, by show (l.foldl setStep (setStep acc y)).length ≤ _; simp only [List.length_cons]; omega, fun x hx => ?_⟩
    rcases h3 x hx with hx | hx
    · unfold setStep at hx
      split at hx
      · rcases List.mem_append.1 hx with hx | hx
        · exact .inl hx
        · exact .inr (by simp at hx; simp [hx])
      · exact .inl hx
    · exact .inr (by simp [hx])
theorem rises_nil : Lib.RisesS (keysOf []) := ⟨by simp [keysOf], by simp [keysOf]⟩
theorem setS_rises (l : List Rw) : Lib.RisesS (keysOf (setS l)) := (setS_go rises_nil).1
theorem setS_len (l : List Rw) : (setS l).length ≤ l.length := by have := (setS_go (l := l) rises_nil).2.1; rw [List.length_nil, Nat.zero_add] at this; exact this
theorem setS_mem {l : List Rw} : ∀ x ∈ setS l, x ∈ l := fun x hx => by rcases (setS_go (l := l) rises_nil).2.2 x hx with h | h; simp at h; exact h
theorem own_empty' (w : World) (T : TypeId) (sz : Nat) : (w.alloc (.cells #[] T)).ownsRow w.heap.size T sz (.slice (some ⟨w.heap.size, 0, none⟩) 0 0) 0 [] :=
  (BlkT.new w #[] T).own (Nat.le_refl _) (by simp) (by omega)
/-- Rows in memory that grow. -/
def RowsR (w : World) (l : List Rw) (e : Ending) (w' : World) : Prop := ∃ a c, e = .returned (.slice a l.length c) ∧ RSl w' 3 a l.length c (rows rwC l) ∧ Tch [] w w'
theorem row_one {S : List Rw} {y : Rw} : ∀ u ∈ rows rwC S ++ rwC y, one u = true := by
  rw [← rows_one (f := rwC) y, ← rows_append]; exact rwCs_one
theorem set_c (w : World) (l : List Rw) (a : Option Addr) (n c : Nat) (hr : RSl w 3 a n c (rows rwC l)) (hN : n ≤ 1000000000) :
    Calls Tryd.prog 21 #[.slice a n c] w (RowsR w (setS l)) := by
  have hn := hr.count rwC_len (by omega)
  refine c21 _ _ _ ?_
  unfold d21
  refine ⟨fun m x xn xc i u => ∃ k : Nat, i = k ∧ k ≤ n ∧ m = n - k ∧ xn = (setS (l.take k)).length ∧ RSl u 3 x xn xc (rows rwC (setS (l.take k))) ∧ Tch [] w u, ⟨n, 0, rfl, by omega, rfl, rfl, RSl.nil _ _, Tch.refl _ _⟩, ?_⟩
  rintro m w3 x xn xc i ⟨k, rfl, hk, rfl, rfl, hx, ht⟩
  have s3 := ht.size
  by_cases hlt : k < n
  rotate_left
  · rw [bif_neg (by omega)]
    obtain rfl : k = n := by omega
    rw [show l.take k = l from List.take_of_length_le (by omega)] at hx ⊢
    exact ⟨x, xc, rfl, hx, ht⟩
  rw [bif_pos (by omega)]
  have hli : l[k]? = some (l[k]'(by omega)) := List.getElem?_eq_getElem (by omega)
  generalize l[k]'(by omega) = y at hli
  have hsn := setS_snoc hli
  have hsl := setS_len (l.take k)
  rw [List.length_take] at hsl
  generalize setS (l.take k) = S at *
  refine ⟨fun x' xn' xc' u => Tch [] w3 u ∧ xn' = (S ++ [y]).length ∧ RSl u 3 x' xn' xc' (rows rwC (S ++ [y])), ?_, ?_⟩
  · rintro w7 rfl
    have t7 := (Tch.refl [] w3).drew
    have s7 : w3.drew.heap.size = w3.heap.size := rfl
    generalize w3.drew = w7 at *
    have hr7 := hr.tch (ht.trans t7 (by simp)) (fun _ _ h => by cases h)
    have hx7 := hx.tch t7 (fun _ _ h => by cases h)
    obtain ⟨b0, o0, rfl, ck⟩ := hr7.elem' rwC_len (by omega) hli
    refine ⟨by omega, by omega, rwC y, rfl, by rw [add_mk]; exact ck, ?_, ?_⟩
    · rintro w10 rfl
      have q10 := (Tch.refl [] w7).alloc (.cells #[] 31)
      have hE := own_empty' w7 31 3
      have s10 := size_alloc w7 (.cells #[] 31)
      generalize w7.alloc (.cells #[] 31) = w10 at *
      have ck10 := cells_tch ck q10
      refine ⟨⟨rwC y, rfl, by rw [add_mk]; exact ck10, rfl, rfl⟩, ?_, ?_⟩
      · refine app_at rsT hE (hx7.tch q10 (fun _ _ h => by cases h)) (by omega) (by omega) (by omega) fun x1 c1 w13 o1 t1 m1 => ?_
        have q13 : Tch [] w7 w13 := q10.trans t1 fun i hi => .inr (by
          rw [mem_rowL] at hi
          obtain ⟨z, hz, rfl⟩ := hi
          exact (own_ge hE z hz).1)
        have ck13 := cells_tch ck q13
        have s13 := q13.size
        refine ⟨⟨rwC y, rfl, by rw [add_mk]; exact ck13, rfl, rfl⟩, ?_⟩
        refine app_elem_at rsT o1 (by rw [zcRow]; rfl) (ys := rwC y) rfl rfl rwC_one (by omega) (by omega) (by omega) fun a5 c5 w19 o5 t5 m5 => ?_
        have q19 : Tch [] w7 w19 := q13.trans t5 fun i hi => .inr (by
          rw [mem_rowL] at hi
          obtain ⟨z, hz, rfl⟩ := hi
          exact (own_ge o1 z hz).1)
        refine ⟨t7.trans q19 (by simp), by simp, ?_⟩
        rw [rows_append, rows_one]
        exact own_rsl o5 row_one
      · refine ⟨rwC y, by rw [zcRow]; rfl, ?_⟩
        rintro w22 rfl
        have q22 := (Tch.refl [] w10).alloc (.cells (rwC y).toArray 31)
        have hB := (Blk.fresh w10 (cs := rwC y) 31 rfl).rsl (sz := 3) (n := 1) rfl rwC_one
        have s22 := size_alloc w10 (.cells (rwC y).toArray 31)
        generalize w10.alloc (.cells (rwC y).toArray 31) = w22 at *
        refine app_at rsT (own_up hE q22 (fun _ _ h => by cases h)) (hx7.tch (q10.trans q22 (by simp)) (fun _ _ h => by cases h)) (by omega) (by omega) (by omega) fun x1 c1 w24 o1 t1 m1 => ?_
        have hoff : ∀ i ∈ rowL (some (⟨w7.heap.size, 0, none⟩ : Addr)), i = w7.heap.size := fun i hi => by
          rw [mem_rowL] at hi
          obtain ⟨z, hz, rfl⟩ := hi
          cases hz; rfl
        have s24 := t1.size
        refine app_at rsT o1 (hB.tch t1 (fun z hz hm => by have := hoff _ hm; cases hz; simp at this; omega)) (by omega) (by omega) (by omega) fun x2 c2 w27 o2 t2 m2 => ?_
        have q27 : Tch [] w7 w27 := ((q10.trans q22 (by simp)).trans t1 fun i hi => .inr (by have := hoff _ hi; omega)).trans t2 fun i hi => .inr (by
          rw [mem_rowL] at hi
          obtain ⟨z, hz, rfl⟩ := hi
          exact (own_ge o1 z hz).1)
        refine ⟨t7.trans q27 (by simp), by simp, ?_⟩
        rw [rows_append, rows_one]
        exact own_rsl o2 row_one
    · refine ⟨rwC y, by rw [zcRow]; rfl, ?_⟩
      rintro w30 rfl
      have q30 := (Tch.refl [] w7).alloc (.cells (rwC y).toArray 31)
      have hB := (Blk.fresh w7 (cs := rwC y) 31 rfl).rsl (sz := 3) (n := 1) rfl rwC_one
      have s30 := size_alloc w7 (.cells (rwC y).toArray 31)
      generalize w7.alloc (.cells (rwC y).toArray 31) = w30 at *
      rintro w31 rfl
      have q31 := (Tch.refl [] w30).alloc (.cells #[] 31)
      have hE := own_empty' w30 31 3
      have s31 := size_alloc w30 (.cells #[] 31)
      generalize w30.alloc (.cells #[] 31) = w31 at *
      refine app_at rsT hE (hx7.tch (q30.trans q31 (by simp)) (fun _ _ h => by cases h)) (by omega) (by omega) (by omega) fun x1 c1 w33 o1 t1 m1 => ?_
      have hoff : ∀ i ∈ rowL (some (⟨w30.heap.size, 0, none⟩ : Addr)), i = w30.heap.size := fun i hi => by
        rw [mem_rowL] at hi
        obtain ⟨z, hz, rfl⟩ := hi
        cases hz; rfl
      have s33 := t1.size
      refine app_at rsT o1 ((hB.tch q31 (fun _ _ h => by cases h)).tch t1 (fun z hz hm => by have := hoff _ hm; cases hz; simp at this; omega)) (by omega) (by omega) (by omega) fun x2 c2 w36 o2 t2 m2 => ?_
      have q36 : Tch [] w7 w36 := ((q30.trans q31 (by simp)).trans t1 fun i hi => .inr (by have := hoff _ hi; omega)).trans t2 fun i hi => .inr (by
        rw [mem_rowL] at hi
        obtain ⟨z, hz, rfl⟩ := hi
        have := (own_ge o1 z hz).1
        omega)
      refine ⟨t7.trans q36 (by simp), by simp, ?_⟩
      rw [rows_append, rows_one]
      exact own_rsl o2 row_one
  · rintro w38 x' _ xc' ⟨t38, rfl, hm⟩
    refine (refSet_c w38 (S ++ [y]) x' _ xc' hm (by simp; omega)).mono ?_
    rintro e w41 ⟨rfl, t41⟩
    refine ⟨_, rfl, ?_⟩
    have q := (ht.trans t38 (by simp)).trans t41 (by simp)
    unfold setStep at hsn
    by_cases hR : Lib.RisesS (keysOf (S ++ [y]))
    · rw [decide_eq_true hR, cond_true]
      rw [if_pos hR] at hsn
      exact ⟨n - (k + 1), by omega, k + 1, by rw [wrap_i64 (by omega) (by omega)]; omega, by omega, rfl, by rw [hsn], by rw [hsn]; exact hm.tch t41 (fun _ _ h => by cases h), q⟩
    · rw [decide_eq_false hR, cond_false]
      rw [if_neg hR] at hsn
      exact ⟨n - (k + 1), by omega, k + 1, by rw [wrap_i64 (by omega) (by omega)]; omega, by omega, rfl, by rw [hsn], by rw [hsn]; exact (hx.tch t38 (fun _ _ h => by cases h)).tch t41 (fun _ _ h => by cases h), q⟩
/-! ### lent -/
abbrev tailC : List Value := [.int .i64 0, .int .i64 0, .int .i64 (-31), .int .i64 0, .int .i64 0, .int .i64 (-32)]
theorem put_at {w : World} {b o : Nat} {cs : List Value} (h : Blk w b cs) (ho : o < cs.length) {A : Addr} (hA : A = ⟨b, o, none⟩) {v : Value} (h1 : one v = true) {K : World → Prop}
    (hK : ∀ w', Blk w' b (cs.set o v) → Tch [b] w w' → w'.heap.size = w.heap.size → K w') :
    one v = true ∧ Option.isSome (World.cell? w A) = true ∧ World.frozen? w A = false ∧ ∀ w' : World, w' = World.setCell w A v → K w' := by
  have := put_cell h o ho h1 hK
  rw [add_mk, Nat.zero_add] at this
  rw [hA]
  exact this
theorem lent_c (w : World) (l : List Rw) (a : Option Addr) (n c : Nat) (hr : RSl w 3 a n c (rows rwC l)) (hN : n ≤ 1000000000) :
    Calls Tryd.prog 24 #[.slice a n c] w fun e w' => e = .returned (.slice (some ⟨w.heap.size, 0, none⟩) n (n + 2)) ∧ Blk w' w.heap.size (rows rwC l ++ tailC) ∧ Tch [] w w' ∧ w.heap.size < w'.heap.size := by
  have hn := hr.count rwC_len (by omega)
  have hrl : (rows rwC l).length = n * 3 := hr.len
  refine c24 _ _ _ ?_
  unfold d24
  rw [wrap_i64 (by omega) (by omega), wrap_i64 (by omega) (by omega)]
  have e2 : ((n : Nat) : Int) + 2 = ((n + 2 : Nat) : Int) := by omega
  have e1 : ((n : Nat) : Int) + 1 = ((n + 1 : Nat) : Int) := by omega
  rw [e2, e1]
  refine mk_at rsT (by omega) (by omega) fun w2 cs hcl hcz hB t2 s2 => ?_
  have hcz' := hcz _ zcRow rfl
  have htail : cs.drop (n * 3) = [.int .i64 0, .int .i64 0, .int .i64 0, .int .i64 0, .int .i64 0, .int .i64 0] := by
    refine List.ext_getElem? fun j => ?_
    rw [List.getElem?_drop]
    by_cases hj : j < 6
    · rw [hcz' _ (by omega)]
      have : (n * 3 + j) % 3 = j % 3 := by omega
      rw [this]
      match j, hj with
      | 0, _ | 1, _ | 2, _ | 3, _ | 4, _ | 5, _ => rfl
    · rw [List.getElem?_eq_none (by omega), List.getElem?_eq_none (by show 6 ≤ j; omega)]
  obtain ⟨ob, hob⟩ : ∃ ob, w.heap.size = ob := ⟨_, rfl⟩
  rw [hob] at hB s2 ⊢
  refine cpyN rsT hB (hr.tch t2 (fun _ _ h => by cases h)) (by rw [Nat.min_eq_left (by omega)]; omega) fun w5 hB5 t5 s5 => ?_
  have hK := hB5.blk
  have hsp : splice cs 0 ((rows rwC l).take (min n (n + 2) * 3)) = rows rwC l ++ [.int .i64 0, .int .i64 0, .int .i64 0, .int .i64 0, .int .i64 0, .int .i64 0] := by
    rw [Nat.min_eq_left (by omega), List.take_of_length_le (by omega)]
    unfold splice
    rw [hrl, Nat.zero_add, htail]
    rfl
  rw [hsp] at hK
  replace t5 := t2.trans t5 (by simp; omega)
  have ea : ∀ k : Nat, ((⟨ob, 0, none⟩ : Addr).add (k * 3)).add 2 = ⟨ob, k * 3 + 2, none⟩ := fun k => by rw [add_mk, add_mk, Nat.zero_add]
  refine ⟨by omega, by omega, ?_⟩
  rw [Int.toNat_natCast]
  refine put_at hK (o := n * 3 + 2) (by simp; omega) (ea n) rfl fun w8 hK t8 s8 => ?_
  rw [List.set_append_right _ _ (by omega), hrl, show n * 3 + 2 - n * 3 = 2 by omega] at hK
  refine ⟨by omega, by omega, ?_⟩
  rw [Int.toNat_natCast]
  refine put_at hK (o := (n + 1) * 3 + 2) (by simp; omega) (ea (n + 1)) rfl fun w10 hK t10 s10 => ?_
  rw [List.set_append_right _ _ (by omega), hrl, show (n + 1) * 3 + 2 - n * 3 = 5 by omega] at hK
  refine ⟨by omega, by omega, ?_, hK, (t5.trans t8 (by simp; omega)).trans t10 (by simp; omega), by omega⟩
  rw [if_neg (by omega)]
  rfl
/-! ### sameChanges -/
theorem chg_flat : flatK Tryd.prog 8 65 = some [.int .i64, .int .i64, .bool, .int .i64, .bool, .int .i64] := by kernel_rfl
theorem chg_eqT : eqT Tryd.prog 8 65 = true := by kernel_rfl
structure Chg.wf (c : Chg) : Prop where
  k : Lib.kI c.k
  was : Sha.I64 c.was.2
  is : Sha.I64 c.is.2
theorem chg_fits {c : Chg} (h : c.wf) : Fits [.int .i64, .int .i64, .bool, .int .i64, .bool, .int .i64] (chC c) :=
  ⟨⟨rfl, Lib.i64_wf.2 h.k.1⟩, ⟨rfl, Lib.i64_wf.2 h.k.2⟩, trivial, ⟨rfl, Lib.i64_wf.2 h.was⟩, trivial, ⟨rfl, Lib.i64_wf.2 h.is⟩, trivial⟩
theorem chC_inj {a b : Chg} : chC a = chC b ↔ a = b := by
  obtain ⟨⟨a1, a2⟩, ⟨a3, a4⟩, ⟨a5, a6⟩⟩ := a
  obtain ⟨⟨b1, b2⟩, ⟨b3, b4⟩, ⟨b5, b6⟩⟩ := b
  simp [chC, and_assoc]
theorem chg_same_c (w : World) (l m : List Chg) (a : Option Addr) (n c : Nat) (b : Option Addr) (k d : Nat) (ha : RSl w 6 a n c (rows chC l)) (hb : RSl w 6 b k d (rows chC m)) (hl : ∀ x ∈ l, x.wf) (hm : ∀ x ∈ m, x.wf) (hN : n ≤ 1000000000000) :
    Calls Tryd.prog 27 #[.slice a n c, .slice b k d] w fun e w' => e = .returned (.bool (decide (l = m))) ∧ Tch [] w w' := by
  have hn := ha.count chC_len (by omega)
  have hk := hb.count chC_len (by omega)
  refine c27 _ _ _ _ _ _ ?_
  unfold d27
  by_cases he : n = k
  rotate_left
  · rw [bif_nneg (by omega)]
    exact ⟨by rw [decide_eq_false (by rintro rfl; omega)], Tch.refl _ _⟩
  rw [bif_npos (by omega)]
  refine ⟨fun r i u => ∃ q : Nat, i = q ∧ q ≤ n ∧ r = n - q ∧ l.take q = m.take q ∧ Tch [] w u, ⟨n, 0, rfl, by omega, rfl, rfl, Tch.refl _ _⟩, ?_⟩
  rintro r w4 i ⟨q, rfl, hq, rfl, heq, ht⟩
  by_cases hlt : q < n
  rotate_left
  · rw [bif_neg (by omega)]
    rw [List.take_of_length_le (by omega), List.take_of_length_le (by omega)] at heq
    exact ⟨by rw [decide_eq_true heq], ht⟩
  rw [bif_pos (by omega)]
  rintro w6 rfl
  replace ht := ht.drew
  generalize w4.drew = w6 at *
  refine ⟨by omega, by omega, ?_⟩
  rw [Int.toNat_natCast]
  have h1 : l[q]? = some (l[q]'(by omega)) := List.getElem?_eq_getElem (by omega)
  have h2 : m[q]? = some (m[q]'(by omega)) := List.getElem?_eq_getElem (by omega)
  have e1 : l.take (q + 1) = l.take q ++ [l[q]'(by omega)] := List.take_succ_eq_append_getElem (by omega)
  have e2 : m.take (q + 1) = m.take q ++ [m[q]'(by omega)] := List.take_succ_eq_append_getElem (by omega)
  generalize l[q]'(by omega) = x at h1 e1
  generalize m[q]'(by omega) = y at h2 e2
  refine (ha.tch ht (fun _ _ h => by cases h)).elem chC_len (by omega) h1 ?_
  refine ⟨by omega, by omega, ?_⟩
  refine (hb.tch ht (fun _ _ h => by cases h)).elem chC_len (by omega) h2 ?_
  refine neq_flat_d chg_flat chg_eqT (chg_fits (hl x (List.mem_of_getElem? h1))) (chg_fits (hm y (List.mem_of_getElem? h2))) chC_inj ?_
  by_cases hxy : x = y
  · rw [bif_npos hxy]
    exact ⟨n - (q + 1), by omega, q + 1, by rw [wrap_i64 (by omega) (by omega)]; omega, by omega, rfl, by rw [e1, e2, heq, hxy], ht⟩
  · rw [bif_nneg hxy]
    refine ⟨?_, ht⟩
    rw [decide_eq_false (by rintro rfl; rw [h1] at h2; cases h2; exact hxy rfl)]
end Go.Proofs.YtjkbjppopdfggaaDoor.Tre
namespace Go.Proofs.YtjkbjppopdfggaaDoor.Tre
open Go Den Fn Sha
open Go.RowKit (Below)
open Classical
set_option maxRecDepth 8000
set_option maxHeartbeats 4000000

theorem refS_wf {a b : List Rw} (ha : ∀ x ∈ a, x.wf) (hb : ∀ x ∈ b, x.wf) : ∀ {l : List (Int × Int)}, (∀ k ∈ l, Lib.kI k) → ∀ c ∈ refS a b l, c.wf
  | [], _, c, hc => by simp [refS] at hc
  | k :: l, h, c, hc => by
    have hc' : c ∈ emit ⟨k, atS a k, atS b k⟩ (refS a b l) := hc
    unfold emit at hc'
    have ih := refS_wf ha hb (l := l) fun k hk => h k (by simp [hk])
    split at hc'
    · exact ih c hc'
    · rcases List.mem_cons.1 hc' with rfl | hc'
      · exact ⟨h k (by simp), atS_I64 ha k, atS_I64 hb k⟩
      · exact ih c hc'
theorem chCs_one {l : List Chg} : ∀ u ∈ rows chC l, one u = true := fun u hu => by
  unfold rows at hu
  obtain ⟨v, hv, hu⟩ := List.mem_flatten.1 hu
  obtain ⟨x, _, rfl⟩ := List.mem_map.1 hv
  exact chC_one u hu
theorem lent_rsl {w : World} {b n : Nat} {l : List Rw} {ys : List Value} (h : Blk w b (rows rwC l ++ ys)) (hn : l.length = n) {c : Nat} (hc : n ≤ c) : RSl w 3 (some ⟨b, 0, none⟩) n c (rows rwC l) :=
  ⟨hc, by rw [rows_len (sz := 3) fun _ _ => rfl, hn], rwCs_one, .inr ⟨b, 0, rfl, fun i v hv => h.cells i v (by rw [List.getElem?_append_left (List.getElem?_eq_some_iff.1 hv).1]; exact hv)⟩⟩
/-- A slice of one's own lies in a block. -/
theorem own_blk {w : World} {base e size : Nat} {a : Option Addr} {n c : Nat} {xs : List Value} (h : w.ownsRow base e size (.slice a n c) n xs) : (a = none ∧ n = 0) ∨ ∃ g cs, a = some ⟨g, 0, none⟩ ∧ base ≤ g ∧ Blk w g cs ∧ n * size ≤ cs.length := by
  obtain ⟨hl, ⟨hv, hn⟩ | ⟨g, cap, cur, hv, hg, hh, r⟩⟩ := h
  · cases hv; exact .inl ⟨rfl, hn⟩
  · cases hv
    refine .inr ⟨g, cur.toList, rfl, hg, ⟨e, by rw [hh]⟩, ?_⟩
    obtain ⟨h1, _, h3, _⟩ := r
    have : cur.toList.length = cur.size := by simp
    rw [this, h3]
    exact Nat.mul_le_mul_right _ h1
theorem law_c (W : World) (a b : List Rw) (pa : Option Addr) (na ca : Nat) (pb : Option Addr) (nb cb : Nat) (hra : RSl W 3 pa na ca (rows rwC a)) (hrb : RSl W 3 pb nb cb (rows rwC b)) (ha : ∀ x ∈ a, x.wf) (hb : ∀ x ∈ b, x.wf) (hT : Tabs W) :
    Calls Tryd.prog 6 #[.slice pa na ca, .slice pb nb cb] W fun e w' => e = .returned (.bool true) ∧ Tch [] W w' := by
  refine c6 _ _ _ _ _ _ ?_
  unfold d6
  refine (few_c W a pa na ca hra).mono ?_
  rintro e w3 ⟨a1, c1, rfl, hr1, hw⟩
  rw [hw] at hr1 ⊢
  clear hw
  refine ⟨_, _, _, rfl, ?_⟩
  have hl1 : (a.take 300).length ≤ 300 := by rw [List.length_take]; omega
  refine (set_c W (a.take 300) a1 _ c1 hr1 (by omega)).mono ?_
  rintro e w6 ⟨a2, c2, rfl, hx, t6⟩
  refine ⟨_, _, _, rfl, ?_⟩
  refine (few_c w6 b pb nb cb (hrb.tch t6 (fun _ _ h => by cases h))).mono ?_
  rintro e w9 ⟨a3, c3, rfl, hr3, hw⟩
  rw [hw] at hr3 ⊢
  clear hw
  refine ⟨_, _, _, rfl, ?_⟩
  have hl3 : (b.take 300).length ≤ 300 := by rw [List.length_take]; omega
  refine (set_c w6 (b.take 300) a3 _ c3 hr3 (by omega)).mono ?_
  rintro e w12 ⟨a4, c4, rfl, hy, t12⟩
  refine ⟨_, _, _, rfl, ?_⟩
  replace hx := hx.tch t12 (fun _ _ h => by cases h)
  have t := t6.trans t12 (by simp)
  have hXr := setS_rises (a.take 300)
  have hYr := setS_rises (b.take 300)
  have hXl := setS_len (a.take 300)
  have hYl := setS_len (b.take 300)
  have hXw : ∀ x ∈ setS (a.take 300), x.wf := fun x hx => ha x (List.mem_of_mem_take (setS_mem x hx))
  have hYw : ∀ x ∈ setS (b.take 300), x.wf := fun x hx => hb x (List.mem_of_mem_take (setS_mem x hx))
  generalize setS (a.take 300) = X at *
  generalize setS (b.take 300) = Y at *
  have hXo := rowsOk_of hXw hXr
  have hYo := rowsOk_of hYw hYr
  -- the first tree
  refine (lent_c w12 X a2 _ c2 hx (by omega)).mono ?_
  rintro e w15 ⟨rfl, k15, t15, s15⟩
  refine ⟨_, _, _, rfl, ?_⟩
  refine (new_c w15 X _ _ _ (lent_rsl k15 rfl (by omega)) hXw (by omega) (hT.tch (t.trans t15 (by simp)))).mono ?_
  rintro e w18 ⟨t18, h18⟩
  rw [if_pos hXr] at h18
  obtain ⟨ta, rfl, hta⟩ := h18
  refine ⟨_, _, rfl, _, rfl, _, rfl, ?_⟩
  have q18 := t15.trans t18 (by simp)
  replace t := t.trans q18 (by simp)
  replace hy := hy.tch q18 (fun _ _ h => by cases h)
  replace hx := hx.tch q18 (fun _ _ h => by cases h)
  have s18 := t18.size
  -- the other
  refine (lent_c w18 Y a4 _ c4 hy (by omega)).mono ?_
  rintro e w24 ⟨rfl, k24, t24, s24⟩
  refine ⟨_, _, _, rfl, ?_⟩
  refine (new_c w24 Y _ _ _ (lent_rsl k24 rfl (by omega)) hYw (by omega) (hT.tch (t.trans t24 (by simp)))).mono ?_
  rintro e w27 ⟨t27, h27⟩
  rw [if_pos hYr] at h27
  obtain ⟨tb, rfl, htb⟩ := h27
  refine ⟨_, _, rfl, _, rfl, _, rfl, ?_⟩
  have q27 := t24.trans t27 (by simp)
  replace t := t.trans q27 (by simp)
  replace hy := hy.tch q27 (fun _ _ h => by cases h)
  replace hx := hx.tch q27 (fun _ _ h => by cases h)
  have s27 := q27.size
  replace hta : TreeAt (fun z => z < w27.heap.size) w27 ta X := (hta.tch q27 (by simp)).mono fun z hz => by have := hz.2; omega
  replace htb : TreeAt (fun z => z < w27.heap.size) w27 tb Y := htb.mono fun z hz => hz.2
  clear k15 k24 t6 t12 t15 t18 q18 t24 t27 q27 hr1 hr3
  refine ⟨fun u => Tch [] w27 u, ?_, ?_⟩
  · rw [show Option.isNone (some (⟨ta, 0, none⟩ : Addr)) = false from rfl, cond_false, show Option.isNone (some (⟨tb, 0, none⟩ : Addr)) = false from rfl, cond_false]
    refine (num_c 0 w27).mono ?_
    rintro e w34 ⟨rfl, rfl⟩
    refine ⟨_, rfl, ?_⟩
    rw [bif_npos rfl]
    refine (num_c 0 w34).mono ?_
    rintro e w37 ⟨rfl, rfl⟩
    refine ⟨_, rfl, ?_⟩
    rw [bif_npos rfl]
    exact Tch.refl _ _
  intro w39 t39
  replace t := t.trans t39 (by simp)
  replace hy := hy.tch t39 (fun _ _ h => by cases h)
  replace hx := hx.tch t39 (fun _ _ h => by cases h)
  have s39 := t39.size
  replace hta : TreeAt (fun z => z < w39.heap.size) w39 ta X := (hta.tch t39 (by simp)).mono fun z hz => Nat.lt_of_lt_of_le hz s39
  replace htb : TreeAt (fun z => z < w39.heap.size) w39 tb Y := (htb.tch t39 (by simp)).mono fun z hz => Nat.lt_of_lt_of_le hz s39
  clear t39
  have hD := diff_is (n := X.length + Y.length) (a := X) (b := Y) (Nat.le_refl _) hXo.up hYo.up
  have hSlen : (sortS (keysOf X ++ keysOf Y)).length ≤ X.length + Y.length := by
    have := sort_len (keysOf X ++ keysOf Y) (X.length + Y.length)
    rwa [List.take_of_length_le (by simp [keysOf])] at this
  have hmem : ∀ q ∈ sortS (keysOf X ++ keysOf Y), Lib.kI q := fun q hq => by
    rcases List.mem_append.1 (sortS_mem.1 hq) with hq | hq
    · exact keys_kI hXw q hq
    · exact keys_kI hYw q hq
  have hDl := refS_len (a := X) (b := Y) (l := sortS (keysOf X ++ keysOf Y))
  have hDw := refS_wf hXw hYw hmem
  refine (diff_c w39 ta tb X Y hta htb hXo hYo (fun z hz => hz) (fun z hz => hz) (by omega)).mono ?_
  rintro e w41 ⟨l1, d1, rfl, o1, t41⟩
  refine ⟨_, _, _, rfl, ?_⟩
  have s41 := t41.size
  refine (diff_c w41 ta tb X Y (hta.tch t41 (by simp)) (htb.tch t41 (by simp)) hXo hYo (fun z hz => by have : z < w39.heap.size := hz; omega) (fun z hz => by have : z < w39.heap.size := hz; omega) (by omega)).mono ?_
  rintro e w44 ⟨l2, d2, rfl, o2, t44⟩
  refine ⟨_, _, _, rfl, ?_⟩
  have s44 := t44.size
  have q44 := t41.trans t44 (by simp)
  refine (refDiff_c w44 X Y a2 _ c2 a4 _ c4 (hx.tch q44 (fun _ _ h => by cases h)) (hy.tch q44 (fun _ _ h => by cases h)) hXw hYw (fun x hx => (hXo.ok x hx).key) (fun x hx => (hYo.ok x hx).key) (by omega)).mono ?_
  rintro e w47 ⟨l3, d3, rfl, o3, t47⟩
  refine ⟨_, _, _, rfl, ?_⟩
  rw [hD] at o1 o2 ⊢
  generalize refS X Y (sortS (keysOf X ++ keysOf Y)) = D at *
  have hb1 := own_ge o1
  have hb2 := own_ge o2
  have hb3 := own_ge o3
  have k1 := own_up (own_up o1 t44 (fun _ _ h => by cases h)) t47 (fun _ _ h => by cases h)
  have k2 := (own_rsl (own_up o2 t47 (fun _ _ h => by cases h)) chCs_one)
  have k3 := own_rsl o3 chCs_one
  have q47 := q44.trans t47 (by simp)
  refine ⟨fun u => Tch [] w47 u, ?_, ?_⟩
  · refine (chg_same_c w47 D D l1 _ d1 l3 _ d3 (own_rsl k1 chCs_one) k3 hDw hDw (by omega)).mono ?_
    rintro e w51 ⟨rfl, t51⟩
    refine ⟨_, rfl, ?_⟩
    rw [bif_npos rfl]
    refine (chg_same_c w51 D D l2 _ d2 l3 _ d3 (k2.tch t51 (fun _ _ h => by cases h)) (k3.tch t51 (fun _ _ h => by cases h)) hDw hDw (by omega)).mono ?_
    rintro e w54 ⟨rfl, t54⟩
    refine ⟨_, rfl, ?_⟩
    rw [bif_npos rfl]
    exact t51.trans t54 (by simp)
  intro w56 t56
  replace k1 := own_up k1 t56 (fun _ _ h => by cases h)
  replace k2 := k2.tch t56 (fun _ _ h => by cases h)
  replace k3 := k3.tch t56 (fun _ _ h => by cases h)
  replace q47 := q47.trans t56 (by simp)
  have fin : ∀ w59, Tch (rowL l1) w56 w59 → Calls Tryd.prog 27 #[.slice l2 D.length d2, .slice l3 D.length d3] w59 fun e65 w66 => ∃ x67 : Bool, e65 = .returned (.bool x67) ∧ ((.returned (.bool x67) : Ending) = .returned (.bool true) ∧ Tch [] W w66) := fun w59 t59 => by
    have hoff : ∀ {z : Option Addr}, (∀ q, z = some q → w41.heap.size ≤ q.block) → Off (rowL l1) z := fun hz q hq hm => by
      rw [mem_rowL] at hm
      obtain ⟨p, hp, he⟩ := hm
      have := (hb1 p hp).2
      have := hz q hq
      omega
    refine (chg_same_c w59 D D l2 _ d2 l3 _ d3 (k2.tch t59 (hoff fun q hq => (hb2 q hq).1)) (k3.tch t59 (hoff fun q hq => by have := (hb3 q hq).1; omega)) hDw hDw (by omega)).mono ?_
    rintro e w66 ⟨rfl, t66⟩
    refine ⟨_, rfl, by rw [decide_eq_true rfl], ((t.trans q47 (by simp)).trans t59 fun i hi => .inr ?_).trans t66 (by simp)⟩
    rw [mem_rowL] at hi
    obtain ⟨p, hp, rfl⟩ := hi
    have := (hb1 p hp).1
    have := t.size
    omega
  have hblk := own_blk k1
  refine ⟨fun m i u => ∃ q : Nat, i = q ∧ q ≤ D.length ∧ m = D.length - q ∧ Tch (rowL l1) w56 u ∧ (D.length = 0 ∨ ∃ g cs, l1 = some ⟨g, 0, none⟩ ∧ Blk u g cs ∧ D.length * 6 ≤ cs.length), ⟨D.length, 0, rfl, by omega, rfl, Tch.refl _ _, ?_⟩, ?_⟩
  · rcases hblk with ⟨_, h⟩ | ⟨g, cs, h1, _, h2, h3⟩
    · exact .inl h
    · exact .inr ⟨g, cs, h1, h2, h3⟩
  rintro m w59 i ⟨q, rfl, hq, rfl, t59, hk⟩
  by_cases hlt : q < D.length
  rotate_left
  · rw [bif_neg (by omega)]
    exact fin w59 t59
  rw [bif_pos (by omega)]
  rcases hk with hk | ⟨g, cs, rfl, hg, hcs⟩
  · omega
  refine ⟨chC ⟨(0, 0), no, no⟩, by rw [zcChg]; rfl, by omega, by omega, ?_⟩
  rw [Int.toNat_natCast]
  have hp := put_part hg (n := 6) (new := chC ⟨(0, 0), no, no⟩) (q * 6) (by omega) rfl chC_one (K := fun w63 => ∃ m64, m64 < D.length - q ∧ (fun (m : Nat) (i : Int) (u : World) => ∃ q : Nat, i = q ∧ q ≤ D.length ∧ m = D.length - q ∧ Tch (rowL (some ⟨g, 0, none⟩)) w56 u ∧ (D.length = 0 ∨ ∃ g' cs, some (⟨g, 0, none⟩ : Addr) = some ⟨g', 0, none⟩ ∧ Blk u g' cs ∧ D.length * 6 ≤ cs.length)) m64 (IntKind.wrap .i64 ((q : Int) + 1)) w63) fun w63 k63 t63 _ =>
    ⟨D.length - (q + 1), by omega, q + 1, by rw [wrap_i64 (by omega) (by omega)]; omega, by omega, rfl, t59.trans t63 (by simp [rowL]), .inr ⟨g, _, rfl, k63, by
      have : (splice cs (q * 6) (chC ⟨(0, 0), no, no⟩)).length = cs.length := by unfold splice; simp; omega
      omega⟩⟩
  exact hp
end Go.Proofs.YtjkbjppopdfggaaDoor.Tre
namespace Go.Proofs.YtjkbjppopdfggaaDoor.DiffCard
open Go Den Fn Sha Tre
open Go.ChangeShapes Go.WideShapes Go.ChangeAt Go.RowKit

theorem params : Tryd.f6.params = #[55, 55] := by kernel_rfl
set_option maxRecDepth 100000 in
theorem contract (H : Type) (enc : TypeId × Value → H) (W : World) (base : Nat) (args : Array Value) (ds gs : List (DataW H)) (before : List MemPlace)
    (hval : ∀ (j : Nat) t v, Tryd.f6.params[j]? = some t → args[j]? = some v → Value.okWide Tryd.prog W .any base t v)
    (hW : DataW.Whole enc Tryd.prog Tryd.f6.params.toList Rows.proofDiffsSpec.vars false W args.toList ds gs before)
    (hL : laidMetH Tryd.prog Rows.proofDiffsRow.laid W) :
    Calls Tryd.prog 6 args W fun e W' => ∃ v, e = .returned v ∧ Rows.proofDiffsSpec.post enc Tryd.prog Tryd.f6 false true false false W args v W' := by
  have hW' := hW
  obtain ⟨p, q, hA0, hV, rfl, hfz, hnd⟩ := hW
  have hA : DataW.TrodAll enc Tryd.prog W 0 (fun _ => true) true Tryd.f6.params.toList args.toList ds p := hA0
  rw [params] at hA hval
  obtain ⟨v0, vs0, d0, ds0, p0, q0, hargs, rfl, rfl, h0, r0⟩ := trodAll_cons hA
  obtain ⟨v1, vs1, d1, ds1, p1, q1, rfl, rfl, rfl, h1, r1⟩ := trodAll_cons r0
  obtain ⟨rfl, rfl, rfl⟩ := trodAll_nil r1
  obtain rfl : args = #[v0, v1] := by cases args; simp_all
  obtain ⟨rfl, rfl⟩ := trodVars_none hV
  obtain ⟨a, na, ca, la, rfl, hra, hla⟩ := rows_open (open_slR uRows rowsShape (hval 0 55 v0 rfl rfl) h0)
  obtain ⟨b, nb, cb, lb, rfl, hrb, hlb⟩ := rows_open (open_slR uRows rowsShape (hval 1 55 v1 rfl rfl) h1)
  refine (law_c W la lb a na ca b nb cb hra hrb hla hlb (laidTabs hL)).mono fun e W' ⟨he, hb⟩ => ?_
  subst he
  exact ⟨_, rfl, post_true laidOk (by rw [params]; intro t ht; simp at ht; subst ht; exact ⟨by kernel_rfl, of_decide_eq_true (by kernel_rfl)⟩) uBool (by kernel_rfl) hW' rfl ⟨rfl, rfl, rfl⟩ hb.below⟩

theorem laid_met (os : Os) : laidMet Tryd.prog Rows.proofDiffsRow.laid ((laidWorld os).forCall (fun _ _ => 0) ⟨#[], #[.slice none 0 0, .slice none 0 0], []⟩).memory :=
  laidMet_of_run' 8 (by kernel_rfl) (by kernel_rfl)
theorem reads (os : Os) {H : Type} (enc : TypeId × Value → H) : ∃ places, DataW.whole enc Tryd.prog ((laidWorld os).forCall (fun _ _ => 0) ⟨#[], #[.slice none 0 0, .slice none 0 0], []⟩).memory Tryd.f6.params.toList Rows.proofDiffsSpec.vars false #[Value.slice none 0 0, Value.slice none 0 0].toList 8 = some ([.nil, .nil], [], places) :=
  ⟨[], by kernel_rfl⟩

set_option maxRecDepth 100000 in
theorem lifted (os : Os) (started : os.Started) (H : Type) (enc : TypeId × Value → H) (F : Stop.Interp) :
    ReturnsInHanded {} Tryd.checked os 6 .any ((OpenSpec.ofChange Rows.proofDiffsSpec).preRow enc Tryd.prog Tryd.f6 Rows.proofDiffsRow.domain false Rows.proofDiffsRow.laid) (((OpenSpec.ofChange Rows.proofDiffsSpec).at F).post enc Tryd.prog Tryd.f6 false true false false) := by
  obtain ⟨places, hx⟩ := reads os enc
  refine returnsInHanded_of_row (C := Tryd.checked) (s := OpenSpec.ofChange Rows.proofDiffsSpec) own started (by kernel_rfl) Tryd.func6
    (witness_row_at (enc := enc) (C := Tryd.checked) false (laidWorld os) #[.slice none 0 0, .slice none 0 0] rfl (by kernel_rfl) (by kernel_rfl) (by kernel_rfl)
      (OpenSpec.preRow_of_cond 8 hx (by kernel_rfl) (fun k hk => by cases hk) (by kernel_rfl) (laid_met os))) ?_
  intro W base args ds gs before hval hW _ _ _ hL _ _
  exact contract H enc W base args ds gs before hval hW hL

theorem said : Rows.ProofDiffsSaid :=
  OpenClaim.holds_of_cond 6 Tryd.f6 rfl rfl rfl rfl rfl rfl rfl ⟨rfl, rfl, rfl, rfl, rfl⟩ rfl rfl rfl rfl rfl (by kernel_rfl) Tryd.func6 (by kernel_rfl)
    (of_decide_eq_true (by kernel_rfl)) (by unfold Func.isWrapper; first | (rw [if_pos (by decide +kernel)]; kernel_rfl) | (rw [if_neg (by decide +kernel)]; exact ⟨rfl, rfl⟩))
    (fun os started H enc _ F => by rw [OpenClaim.pre_eq_preRow]; exact lifted os started H enc F)

theorem plain (f : FuncId) (fn : Func) (hf : Tryd.pinned.checked.prog.funcNamed "prelude/preludelaw24.ProofDiffs" = some f) (hfn : Tryd.pinned.checked.prog.funcs[f]? = some fn) :
    false = Tryd.pinned.checked.prog.looks [] ∧ ∀ (j : Nat) t, fn.params[j]? = some t → Tryd.pinned.checked.prog.wantsStandIn t = false := by
  obtain rfl : f = 6 := Option.some.inj ((show Tryd.prog.funcNamed "prelude/preludelaw24.ProofDiffs" = some 6 by kernel_rfl).symm.trans hf) |>.symm
  obtain rfl : fn = Tryd.f6 := (Option.some.inj (Tryd.func6.symm.trans hfn)).symm
  refine ⟨by kernel_rfl, fun j t ht => ?_⟩
  rw [params] at ht
  have : t = 55 := by simpa using Array.mem_of_getElem? ht
  subst this
  exact (show Tryd.prog.wantsStandIn 55 = false by kernel_rfl)

/-- The card of ProofDiffs. -/
theorem card : Rows.ProofDiffsCardSaid :=
  Claim7.holds_tied_plain_at .later [] _ _ _ _ said (fun _ h => by cases h) (by kernel_rfl) (fun _ h => by cases h) proofDiffs_row_tie rfl ⟨rfl, rfl⟩ (by kernel_rfl) rfl plain (by kernel_rfl)
end Go.Proofs.YtjkbjppopdfggaaDoor.DiffCard
