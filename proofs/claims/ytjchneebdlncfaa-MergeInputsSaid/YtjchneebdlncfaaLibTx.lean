/-
  TRANSACTIONS AND BATCHES: as data, as memory, as bytes (plain functions, no code in sight).
  Own work. No macro, syntax, notation, axiom.
-/
import Derived.Test.YtjchneebdlncfaaLibRise
import Derived.Test.YtjchneebdlncfaaLibCodS
namespace Go.Proofs.Ytjchneebdlncfaa.Lib
open Go Den
open Go.RowKit (Below)
open Classical
set_option maxRecDepth 8000

structure Tx where
  proc : Int
  args : List Int
  reads : List (Int × Int)
  writes : List (Int × Int)
structure Tx.ok (x : Tx) : Prop where
  proc : I64 x.proc
  args : ∀ v ∈ x.args, I64 v
  reads : ∀ k ∈ x.reads, kI k
  writes : ∀ k ∈ x.writes, kI k
/-- A row of memory whose block is among F. -/
def FR (F : Nat → Prop) (w : World) (sz : Nat) (a : Option Addr) (n c : Nat) (cs : List Value) : Prop := RSl w sz a n c cs ∧ (n = 0 ∨ ∀ x, a = some x → F x.block)
theorem FR.mono {F G : Nat → Prop} {w : World} {sz n c : Nat} {a : Option Addr} {cs : List Value} (h : FR F w sz a n c cs) (hFG : ∀ k, F k → G k) : FR G w sz a n c cs := ⟨h.1, h.2.imp id fun h x hx => hFG _ (h x hx)⟩
theorem FR.tch {F : Nat → Prop} {w w' : World} {sz n c : Nat} {a : Option Addr} {cs : List Value} {s : List Nat} (h : FR F w sz a n c cs) (ht : Tch s w w') (hs : ∀ k ∈ s, ¬ F k) : FR F w' sz a n c cs := by
  refine ⟨?_, h.2⟩
  rcases h.2 with h0 | h2
  · obtain ⟨h1, h2, h3, h4⟩ := h.1
    refine ⟨h1, h2, h3, ?_⟩
    rcases h4 with h4 | ⟨b, o, hb, hc⟩
    · exact .inl h4
    · rw [h0, Nat.zero_mul] at h2
      rw [List.length_eq_zero_iff.1 h2]
      exact .inr ⟨b, o, hb, fun i v hv => by simp at hv⟩
  · exact h.1.tch ht fun x hx hm => hs _ hm (h2 x hx)
/-- It lies below the heap's end. -/
theorem FR.under {F : Nat → Prop} {w : World} {sz n c : Nat} {a : Option Addr} {cs : List Value} (h : FR F w sz a n c cs) (h0 : 0 < sz) : FR (fun k => F k ∧ k < w.heap.size) w sz a n c cs := by
  refine ⟨h.1, ?_⟩
  rcases h.2 with h1 | h1
  · exact .inl h1
  · rcases Nat.eq_zero_or_pos n with hn | hn
    · exact .inl hn
    · refine .inr fun x hx => ⟨h1 x hx, ?_⟩
      rcases h.1.at' with h' | ⟨b, o, hb, hc⟩
      · have := h.1.cap; omega
      · rw [hb] at hx
        cases hx
        have hl := h.1.len
        have : 0 < n * sz := Nat.mul_pos hn h0
        have hv : cs[0]? = some (cs[0]'(by omega)) := List.getElem?_eq_getElem (by omega)
        have := hc 0 _ hv
        rw [add_mk] at this
        exact World.block_lt_of_cell? _ _ this
theorem FR.own {w : World} {base e size : Nat} {a : Option Addr} {n c : Nat} {xs : List Value} (h : w.ownsRow base e size (.slice a n c) n xs) (h1 : ∀ u ∈ xs, one u = true) : FR (fun k => base ≤ k ∧ k < w.heap.size) w size a n c xs :=
  ⟨own_rsl h h1, .inr fun x hx => own_ge h x hx⟩
theorem rows_id' (rs : List (List Value)) : rows id rs = rs.flatten := by simp [rows]
/-- A transaction's cells. -/
def TxV (F : Nat → Prop) (w : World) (v : List Value) (x : Tx) : Prop :=
  ∃ (a1 : Option Addr) (n1 c1 : Nat) (a2 : Option Addr) (n2 c2 : Nat) (a3 : Option Addr) (n3 c3 : Nat), v = [.int .i64 x.proc, .slice a1 n1 c1, .slice a2 n2 c2, .slice a3 n3 c3] ∧
    FR F w 1 a1 n1 c1 (i64s x.args) ∧ FR F w 2 a2 n2 c2 (rows kC x.reads) ∧ FR F w 2 a3 n3 c3 (rows kC x.writes) ∧ x.ok
/-- A batch in memory. -/
def BatchV (F : Nat → Prop) (w : World) (a : Option Addr) (n c : Nat) (l : List Tx) : Prop :=
  ∃ vs : List (List Value), vs.length = l.length ∧ FR F w 4 a n c vs.flatten ∧ ∀ (i : Nat) (v : List Value) (x : Tx), vs[i]? = some v → l[i]? = some x → TxV F w v x
section
variable {F G : Nat → Prop} {w w' : World} {v : List Value} {x : Tx} {a : Option Addr} {n c : Nat} {l : List Tx} {s : List Nat}
theorem TxV.tch (h : TxV F w v x) (ht : Tch s w w') (hs : ∀ k ∈ s, ¬ F k) : TxV F w' v x := by
  obtain ⟨a1, n1, c1, a2, n2, c2, a3, n3, c3, e, h1, h2, h3, h4⟩ := h
  exact ⟨a1, n1, c1, a2, n2, c2, a3, n3, c3, e, h1.tch ht hs, h2.tch ht hs, h3.tch ht hs, h4⟩
theorem TxV.mono (h : TxV F w v x) (hFG : ∀ k, F k → G k) : TxV G w v x := by
  obtain ⟨a1, n1, c1, a2, n2, c2, a3, n3, c3, e, h1, h2, h3, h4⟩ := h
  exact ⟨a1, n1, c1, a2, n2, c2, a3, n3, c3, e, h1.mono hFG, h2.mono hFG, h3.mono hFG, h4⟩
theorem TxV.under (h : TxV F w v x) : TxV (fun k => F k ∧ k < w.heap.size) w v x := by
  obtain ⟨a1, n1, c1, a2, n2, c2, a3, n3, c3, e, h1, h2, h3, h4⟩ := h
  exact ⟨a1, n1, c1, a2, n2, c2, a3, n3, c3, e, h1.under (by omega), h2.under (by omega), h3.under (by omega), h4⟩
theorem TxV.len (h : TxV F w v x) : v.length = 4 := by
  obtain ⟨a1, n1, c1, a2, n2, c2, a3, n3, c3, rfl, _⟩ := h
  rfl
theorem TxV.ones (h : TxV F w v x) : ∀ u ∈ v, one u = true := by
  obtain ⟨a1, n1, c1, a2, n2, c2, a3, n3, c3, rfl, _⟩ := h
  simp [one]
theorem BatchV.tch (h : BatchV F w a n c l) (ht : Tch s w w') (hs : ∀ k ∈ s, ¬ F k) : BatchV F w' a n c l := by
  obtain ⟨vs, h1, h2, h3⟩ := h
  exact ⟨vs, h1, h2.tch ht hs, fun i v x hv hx => (h3 i v x hv hx).tch ht hs⟩
theorem BatchV.quiet (h : BatchV F w a n c l) (ht : Tch [] w w') : BatchV F w' a n c l := h.tch ht (by simp)
theorem TxV.quiet (h : TxV F w v x) (ht : Tch [] w w') : TxV F w' v x := h.tch ht (by simp)
theorem BatchV.mono (h : BatchV F w a n c l) (hFG : ∀ k, F k → G k) : BatchV G w a n c l := by
  obtain ⟨vs, h1, h2, h3⟩ := h
  exact ⟨vs, h1, h2.mono hFG, fun i v x hv hx => (h3 i v x hv hx).mono hFG⟩
theorem BatchV.under (h : BatchV F w a n c l) : BatchV (fun k => F k ∧ k < w.heap.size) w a n c l := by
  obtain ⟨vs, h1, h2, h3⟩ := h
  exact ⟨vs, h1, h2.under (by omega), fun i v x hv hx => (h3 i v x hv hx).under⟩
theorem BatchV.lens {vs : List (List Value)} (h1 : vs.length = l.length) (h3 : ∀ (i : Nat) (v : List Value) (x : Tx), vs[i]? = some v → l[i]? = some x → TxV F w v x) : ∀ v ∈ vs, v.length = 4 := fun v hv => by
  obtain ⟨i, hi⟩ := List.getElem?_of_mem hv
  have hlt := (List.getElem?_eq_some_iff.1 hi).1
  exact (h3 i v l[i] hi (List.getElem?_eq_getElem (by omega))).len
theorem BatchV.count (h : BatchV F w a n c l) : l.length = n := by
  obtain ⟨vs, h1, h2, h3⟩ := h
  have hl := BatchV.lens h1 h3
  have := h2.1.len
  rw [← rows_id', rows_len (f := id) hl, h1] at this
  omega
theorem BatchV.nil (F : Nat → Prop) (w : World) : BatchV F w none 0 0 [] := ⟨[], rfl, ⟨⟨Nat.le_refl _, rfl, by simp, .inl rfl⟩, .inl rfl⟩, by simp⟩
theorem BatchV.elem (h : BatchV F w a n c l) {i : Nat} (hi : l[i]? = some x) {K : List Value → Prop} (hK : ∀ v, TxV F w v x → K v) :
    optK a fun y => ∃ cs : List Value, List.length cs = 4 ∧ Cells w (Addr.add y (i * 4)) cs ∧ K cs := by
  obtain ⟨vs, h1, h2, h3⟩ := h
  have hlt := (List.getElem?_eq_some_iff.1 hi).1
  have hvi : vs[i]? = some (vs[i]'(by omega)) := List.getElem?_eq_getElem (by omega)
  have hr := h2.1
  rw [← rows_id'] at hr
  exact hr.elem (f := id) (BatchV.lens h1 h3) (by omega) hvi (hK _ (h3 i _ x hvi hi))
theorem BatchV.elemW (h : BatchV F w a n c l) {u : World} (ht : Tch [] w u) {i : Nat} (hi : l[i]? = some x) {K : List Value → Prop} (hK : ∀ v, TxV F w v x → K v) :
    optK a fun y => ∃ cs : List Value, List.length cs = 4 ∧ Cells u (Addr.add y (i * 4)) cs ∧ K cs := by
  obtain ⟨vs, h1, h2, h3⟩ := h
  have hlt := (List.getElem?_eq_some_iff.1 hi).1
  have hvi : vs[i]? = some (vs[i]'(by omega)) := List.getElem?_eq_getElem (by omega)
  have hr := (h2.tch ht (by simp)).1
  rw [← rows_id'] at hr
  exact hr.elem (f := id) (BatchV.lens h1 h3) (by omega) hvi (hK _ (h3 i _ x hvi hi))
theorem BatchV.ok (h : BatchV F w a n c l) : ∀ x ∈ l, x.ok := fun x hx => by
  obtain ⟨vs, h1, h2, h3⟩ := h
  obtain ⟨i, hi⟩ := List.getElem?_of_mem hx
  have hlt := (List.getElem?_eq_some_iff.1 hi).1
  obtain ⟨_, _, _, _, _, _, _, _, _, _, _, _, _, h⟩ := h3 i (vs[i]'(by omega)) x (List.getElem?_eq_getElem (by omega)) hi
  exact h
end
/-- What is wrong with a transaction. -/
noncomputable def formedS (x : Tx) : Int :=
  if x.proc < 0 ∨ 64 ≤ x.proc then 61 else if 16 < x.args.length then 62 else if 16 < x.reads.length then 63 else if 16 < x.writes.length then 64 else if ¬ RisesS x.reads ∨ ¬ RisesS x.writes then 65 else 0
noncomputable def firstG : List Tx → Nat → Int × Int
  | [], _ => (0, 0)
  | x :: l, i => if formedS x ≠ 0 then ((i : Int), formedS x) else firstG l (i + 1)
noncomputable def firstS (l : List Tx) : Int × Int := if 64 < l.length then (0, 60) else firstG l 0
def encKs (l : List (Int × Int)) : List Int := uv l.length ++ (l.map fun k => keyB k.1 k.2).flatten
def encTx (x : Tx) : List Int := uv x.proc.toNat ++ (uv x.args.length ++ ((x.args.map iv).flatten ++ (encKs x.reads ++ encKs x.writes)))
def encTxs (l : List Tx) : List Int := (l.map encTx).flatten
/-- A batch's bytes, and the error. -/
noncomputable def encB (l : List Tx) : List Int × Int := if (firstS l).2 ≠ 0 then ([], (firstS l).2) else (uv l.length ++ encTxs l, 0)
def Good (x : Tx) : Prop := (0 ≤ x.proc ∧ x.proc < 64) ∧ x.args.length ≤ 16 ∧ x.reads.length ≤ 16 ∧ x.writes.length ≤ 16 ∧ RisesS x.reads ∧ RisesS x.writes
theorem formedS_zero (x : Tx) : formedS x = 0 ↔ Good x := by
  unfold formedS Good
  constructor
  · intro h
    split at h
    · omega
    split at h
    · omega
    split at h
    · omega
    split at h
    · omega
    split at h
    · omega
    rename_i h1 h2 h3 h4 h5
    exact ⟨⟨by omega, by omega⟩, by omega, by omega, by omega, Classical.byContradiction fun h => h5 (.inl h), Classical.byContradiction fun h => h5 (.inr h)⟩
  · rintro ⟨h1, h2, h3, h4, h5, h6⟩
    rw [if_neg (by omega), if_neg (by omega), if_neg (by omega), if_neg (by omega), if_neg (fun h => by rcases h with h | h; exact h h5; exact h h6)]
theorem firstG_zero : ∀ (l : List Tx) (i : Nat), (firstG l i).2 = 0 ↔ ∀ x ∈ l, Good x
  | [], i => by simp [firstG]
  | x :: l, i => by
    unfold firstG
    by_cases h : formedS x = 0
    · rw [if_neg (by simpa using h), firstG_zero l (i + 1)]
      have := (formedS_zero x).1 h
      simp [this]
    · rw [if_pos h]
      simp only [List.mem_cons, forall_eq_or_imp]
      exact ⟨fun h' => absurd h' h, fun h' => (formedS_zero x).2 h'.1⟩
theorem firstS_zero (l : List Tx) : (firstS l).2 = 0 ↔ l.length ≤ 64 ∧ ∀ x ∈ l, Good x := by
  unfold firstS
  split
  · simp; omega
  · rw [firstG_zero]
    exact ⟨fun h => ⟨by omega, h⟩, fun h => h.2⟩
theorem encB_zero (l : List Tx) : (encB l).2 = 0 ↔ l.length ≤ 64 ∧ ∀ x ∈ l, Good x := by
  rw [← firstS_zero]
  unfold encB
  split <;> simp_all
theorem encB_good {l : List Tx} (h : l.length ≤ 64 ∧ ∀ x ∈ l, Good x) : encB l = (uv l.length ++ encTxs l, 0) := by
  unfold encB
  rw [if_neg (by simpa using (firstS_zero l).2 h)]
theorem flat_len {α : Type} {f : α → List Int} {k : Nat} : ∀ {l : List α}, (∀ x ∈ l, (f x).length ≤ k) → (l.map f).flatten.length ≤ l.length * k
  | [], _ => by simp
  | x :: l, h => by
    have h1 := h x (by simp)
    have h2 := flat_len (l := l) fun y hy => h y (by simp [hy])
    simp only [List.map_cons, List.flatten_cons, List.length_append, List.length_cons]
    rw [Nat.add_mul]
    omega
theorem encKs_len {l : List (Int × Int)} (h : l.length ≤ 16) : (encKs l).length ≤ 170 := by
  unfold encKs
  have h1 := (uv_len10 (n := l.length) (by omega)).2
  have h2 := flat_len (l := l) (f := fun k => keyB k.1 k.2) (k := 10) fun x _ => Nat.le_of_eq (keyB_length _ _)
  rw [List.length_append]
  omega
theorem encTx_len {x : Tx} (hx : x.ok) (h : Good x) : (encTx x).length ≤ 520 := by
  obtain ⟨h1, h2, h3, h4, _⟩ := h
  have e1 := (uv_len10 (n := x.proc.toNat) (by omega)).2
  have e2 := (uv_len10 (n := x.args.length) (by omega)).2
  have e3 := flat_len (l := x.args) (f := iv) (k := 10) fun v hv => (uv_len10 (fold_range (hx.args v hv))).2
  have e4 := encKs_len h3
  have e5 := encKs_len h4
  unfold encTx
  simp only [List.length_append]
  omega
theorem encTxs_len {l : List Tx} (hx : ∀ x ∈ l, x.ok) (h : ∀ x ∈ l, Good x) : (encTxs l).length ≤ l.length * 520 := flat_len fun x hm => encTx_len (hx x hm) (h x hm)
theorem encTxs_append (a b : List Tx) : encTxs (a ++ b) = encTxs a ++ encTxs b := by simp [encTxs]
theorem encTxs_one (x : Tx) : encTxs [x] = encTx x := by simp [encTxs]
theorem encTxs_cons (x : Tx) (l : List Tx) : encTxs (x :: l) = encTx x ++ encTxs l := by simp [encTxs]

/-! ### One reading -/
theorem uv_split {n m : Nat} (hn : n < 18446744073709551616) (hm : m < 18446744073709551616) {r s : List Int} (h : uv n ++ r = uv m ++ s) : n = m ∧ r = s := by
  have h1 := number_uv hn r
  have h2 := number_uv hm s
  rw [h, h2] at h1
  simp only [Prod.mk.injEq] at h1
  have e : m = n := h1.1
  subst e
  exact ⟨rfl, List.append_cancel_left h⟩
theorem iv_split {n m : Int} (hn : I64 n) (hm : I64 m) {r s : List Int} (h : iv n ++ r = iv m ++ s) : n = m ∧ r = s := by
  obtain ⟨h1, h2⟩ := uv_split (fold_range hn) (fold_range hm) h
  exact ⟨by rw [← unfold_fold n, h1, unfold_fold], h2⟩
theorem key_split {k j : Int × Int} (hk : KeyOk k.1) (hj : KeyOk j.1) (hk2 : I64 k.2) (hj2 : I64 j.2) {r s : List Int} (h : keyB k.1 k.2 ++ r = keyB j.1 j.2 ++ s) : k = j ∧ r = s := by
  have h1 : keyB k.1 k.2 = keyB j.1 j.2 := by
    have := congrArg (List.take 10) h
    rwa [List.take_append_of_le_length (by rw [keyB_length]; omega), List.take_append_of_le_length (by rw [keyB_length]; omega), List.take_of_length_le (by rw [keyB_length]; omega), List.take_of_length_le (by rw [keyB_length]; omega)] at this
  have h2 := fromB_keyB hk hk2
  rw [h1, fromB_keyB hj hj2] at h2
  simp only [Prod.mk.injEq] at h2
  exact ⟨Prod.ext h2.1.symm h2.2.1.symm, by rw [h1] at h; exact List.append_cancel_left h⟩
theorem list_split {α : Type} {f : α → List Int} {p : α → Prop} (hf : ∀ {x y : α}, p x → p y → ∀ {r s : List Int}, f x ++ r = f y ++ s → x = y ∧ r = s) :
    ∀ {l m : List α}, l.length = m.length → (∀ x ∈ l, p x) → (∀ x ∈ m, p x) → ∀ {r s : List Int}, (l.map f).flatten ++ r = (m.map f).flatten ++ s → l = m ∧ r = s
  | [], [], _, _, _, r, s, h => ⟨rfl, by simpa using h⟩
  | [], _ :: _, h, _, _, _, _, _ => by simp at h
  | _ :: _, [], h, _, _, _, _, _ => by simp at h
  | x :: l, y :: m, hl, hx, hy, r, s, h => by
    simp only [List.map_cons, List.flatten_cons, List.append_assoc] at h
    obtain ⟨rfl, h1⟩ := hf (hx x (by simp)) (hy y (by simp)) h
    obtain ⟨rfl, h2⟩ := list_split hf (by simpa using hl) (fun z hz => hx z (by simp [hz])) (fun z hz => hy z (by simp [hz])) h1
    exact ⟨rfl, h2⟩
theorem encKs_split {l m : List (Int × Int)} (hl : l.length ≤ 16) (hm : m.length ≤ 16) (h1 : RisesS l) (h2 : RisesS m) (h3 : ∀ k ∈ l, kI k) (h4 : ∀ k ∈ m, kI k) {r s : List Int} (h : encKs l ++ r = encKs m ++ s) : l = m ∧ r = s := by
  unfold encKs at h
  rw [List.append_assoc, List.append_assoc] at h
  obtain ⟨e, h⟩ := uv_split (by omega) (by omega) h
  exact list_split (p := fun k : Int × Int => KeyOk k.1 ∧ I64 k.2) (f := fun k => keyB k.1 k.2) (fun hx hy _ _ h => key_split hx.1 hy.1 hx.2 hy.2 h) e (fun k hk => ⟨h1.1 k hk, (h3 k hk).2⟩) (fun k hk => ⟨h2.1 k hk, (h4 k hk).2⟩) h
theorem encTx_split {x y : Tx} (hx : x.ok ∧ Good x) (hy : y.ok ∧ Good y) {r s : List Int} (h : encTx x ++ r = encTx y ++ s) : x = y ∧ r = s := by
  obtain ⟨hxo, g1, g2, g3, g4, g5, g6⟩ := hx
  obtain ⟨hyo, k1, k2, k3, k4, k5, k6⟩ := hy
  unfold encTx at h
  simp only [List.append_assoc] at h
  obtain ⟨e1, h⟩ := uv_split (by omega) (by omega) h
  obtain ⟨e2, h⟩ := uv_split (by omega) (by omega) h
  obtain ⟨e3, h⟩ := list_split (f := iv) (fun hx hy _ _ h => iv_split hx hy h) e2 hxo.args hyo.args h
  obtain ⟨e4, h⟩ := encKs_split g3 k3 g5 k5 hxo.reads hyo.reads h
  obtain ⟨e5, h⟩ := encKs_split g4 k4 g6 k6 hxo.writes hyo.writes h
  refine ⟨?_, h⟩
  have e0 : x.proc = y.proc := by omega
  obtain ⟨xp, xa, xr, xw⟩ := x
  obtain ⟨yp, ya, yr, yw⟩ := y
  simp only at e0 e3 e4 e5
  rw [e0, e3, e4, e5]
/-- Well-formed batches have the same bytes only if they are the same. -/
theorem encB_inj {l m : List Tx} (hl : ∀ x ∈ l, x.ok) (hm : ∀ x ∈ m, x.ok) (h1 : (encB l).2 = 0) (h2 : (encB m).2 = 0) (h : (encB l).1 = (encB m).1) : l = m := by
  have g1 := (encB_zero l).1 h1
  have g2 := (encB_zero m).1 h2
  rw [encB_good g1, encB_good g2] at h
  obtain ⟨e, h⟩ := uv_split (by omega) (by omega) h
  have := list_split (f := encTx) (p := fun x => x.ok ∧ Good x) (r := []) (s := []) (fun hx hy _ _ h => encTx_split hx hy h) e (fun x hx => ⟨hl x hx, g1.2 x hx⟩) (fun x hx => ⟨hm x hx, g2.2 x hx⟩) (by simpa [encTxs] using h)
  exact this.1
end Go.Proofs.Ytjchneebdlncfaa.Lib
