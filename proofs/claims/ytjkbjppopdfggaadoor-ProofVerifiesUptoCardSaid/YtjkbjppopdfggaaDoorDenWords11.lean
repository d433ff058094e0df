/-
  WORDS FOR CONTRACTS: rows of structs; memory that reads as nested rows of numbers, booleans and strings ('RepR').
  Own work. No macro, syntax, notation, axiom.
-/
import Derived.Test.YtjkbjppopdfggaaDoorDenWords10
namespace Go.Proofs.YtjkbjppopdfggaaDoor.Den
open Go
open Go.RowKit (Below)

/-! ### Rows of structs -/
def rows {α : Type} (f : α → List Value) (l : List α) : List Value := (l.map f).flatten
variable {α : Type} {f : α → List Value} {sz : Nat}
theorem rows_nil : rows f [] = [] := rfl
theorem rows_cons (x : α) (l : List α) : rows f (x :: l) = f x ++ rows f l := by simp [rows]
theorem rows_append (a b : List α) : rows f (a ++ b) = rows f a ++ rows f b := by simp [rows]
theorem rows_one (x : α) : rows f [x] = f x := by simp [rows]
theorem rows_len : ∀ {l : List α}, (∀ x ∈ l, (f x).length = sz) → (rows f l).length = l.length * sz
  | [], _ => by simp [rows]
  | x :: l, h => by
    rw [rows_cons, List.length_append, h x (by simp), rows_len fun y hy => h y (by simp [hy]), List.length_cons, Nat.succ_mul]
    omega
theorem rows_drop : ∀ {l : List α} (_ : ∀ x ∈ l, (f x).length = sz) (k : Nat), (rows f l).drop (k * sz) = rows f (l.drop k)
  | [], _, k => by simp [rows]
  | x :: l, h, 0 => by simp
  | x :: l, h, k + 1 => by
    rw [List.drop_succ_cons, ← rows_drop (fun y hy => h y (by simp [hy])) k, rows_cons, Nat.succ_mul, Nat.add_comm, ← List.drop_drop]
    congr 1
    have := h x (by simp)
    rw [← this, List.drop_left]
theorem rows_take : ∀ {l : List α} (_ : ∀ x ∈ l, (f x).length = sz) (k : Nat), (rows f l).take (k * sz) = rows f (l.take k)
  | [], _, k => by simp [rows]
  | x :: l, h, 0 => by simp [rows]
  | x :: l, h, k + 1 => by
    rw [List.take_succ_cons, rows_cons, rows_cons, ← rows_take (fun y hy => h y (by simp [hy])) k, Nat.succ_mul, Nat.add_comm]
    have := h x (by simp)
    rw [← this, List.take_length_add_append]
theorem rows_get {l : List α} (h : ∀ x ∈ l, (f x).length = sz) {i : Nat} {x : α} (hx : l[i]? = some x) : ((rows f l).drop (i * sz)).take sz = f x := by
  rw [rows_drop h]
  obtain ⟨hi, hxi⟩ := List.getElem?_eq_some_iff.1 hx
  rw [List.drop_eq_getElem_cons hi, hxi, rows_cons, ← h x (List.mem_of_getElem? hx), List.take_left]
theorem RSl.count {w : World} {a : Option Addr} {n c : Nat} {l : List α} (hr : RSl w sz a n c (rows f l)) (hf : ∀ x ∈ l, (f x).length = sz) (h0 : 0 < sz) : l.length = n := by
  have := hr.len
  rw [rows_len hf] at this
  exact Nat.eq_of_mul_eq_mul_right h0 this
theorem RSl.elem' {w : World} {a : Option Addr} {n c : Nat} {l : List α} (hr : RSl w sz a n c (rows f l)) (hf : ∀ x ∈ l, (f x).length = sz) (h0 : 0 < sz) {i : Nat} {x : α} (hi : l[i]? = some x) :
    ∃ b o, a = some ⟨b, o, none⟩ ∧ Cells w ⟨b, o + i * sz, none⟩ (f x) := by
  have hin : i < n := by rw [← hr.count hf h0]; exact (List.getElem?_eq_some_iff.1 hi).1
  obtain ⟨b, o, h1, h2⟩ := hr.get hin h0
  rw [rows_get hf hi] at h2
  exact ⟨b, o, h1, h2⟩
/-- An element is read whole. -/
theorem RSl.elem {w : World} {a : Option Addr} {n c : Nat} {l : List α} (hr : RSl w sz a n c (rows f l)) (hf : ∀ x ∈ l, (f x).length = sz) (h0 : 0 < sz) {i : Nat} {x : α} (hi : l[i]? = some x) {K : List Value → Prop} (hK : K (f x)) :
    optK a fun y => ∃ cs : List Value, List.length cs = sz ∧ Cells w (Addr.add y (i * sz)) cs ∧ K cs := by
  obtain ⟨b, o, rfl, h⟩ := hr.elem' hf h0 hi
  refine ⟨f x, hf x (List.mem_of_getElem? hi), ?_, hK⟩
  rw [add_mk]
  exact h
theorem cells_get {w : World} {b o : Nat} {cs : List Value} (h : Cells w ⟨b, o, none⟩ cs) {i : Nat} {v : Value} (hv : cs[i]? = some v) : w.cell? ⟨b, o + i, none⟩ = some v := by
  have := h i v hv
  rwa [add_mk] at this
theorem cells_part {w : World} {b o : Nat} {cs : List Value} (h : Cells w ⟨b, o, none⟩ cs) (k n : Nat) : Cells w ⟨b, o + k, none⟩ ((cs.drop k).take n) := fun i v hv => by
  rw [List.getElem?_take] at hv
  split at hv
  · rw [List.getElem?_drop] at hv
    have := h _ _ hv
    rw [add_mk] at this ⊢
    rw [Nat.add_assoc]; exact this
  · cases hv

/-! ### Nested rows -/
inductive CK where
  | int (k : IntKind)
  | bool
  | str
  | sl (e : List CK)
def RepL (F : CK → Value → Prop) : List CK → List Value → Prop
  | [], [] => True
  | k :: ks, v :: vs => F k v ∧ RepL F ks vs
  | _, _ => False
/-- A cell that reads so, to a depth. -/
def RepV (w : World) : Nat → CK → Value → Prop
  | _, .int k, v => fit (.int k) v
  | _, .bool, v => fit .bool v
  | _, .str, v => fit .str v
  | 0, .sl _, _ => False
  | d + 1, .sl e, v => ∃ (a : Option Addr) (n c : Nat) (rs : List (List Value)), v = .slice a n c ∧ rs.length = n ∧ c ≤ maxLen ∧ RSl w e.length a n c rs.flatten ∧ (∀ r ∈ rs, RepL (RepV w d) e r)
abbrev RepR (w : World) (d : Nat) (ks : List CK) (vs : List Value) : Prop := RepL (RepV w d) ks vs
theorem RepL.length {F : CK → Value → Prop} : ∀ {ks : List CK} {vs : List Value}, RepL F ks vs → vs.length = ks.length
  | [], [], _ => rfl
  | _ :: _, _ :: _, h => by simp [RepL.length h.2]
  | [], _ :: _, h => h.elim
  | _ :: _, [], h => h.elim
theorem RepL.mono {F G : CK → Value → Prop} (hFG : ∀ k v, F k v → G k v) : ∀ {ks : List CK} {vs : List Value}, RepL F ks vs → RepL G ks vs
  | [], [], _ => trivial
  | _ :: _, _ :: _, h => ⟨hFG _ _ h.1, RepL.mono hFG h.2⟩
  | [], _ :: _, h => h.elim
  | _ :: _, [], h => h.elim
theorem RepL.append {F : CK → Value → Prop} : ∀ {ks js : List CK} {vs us : List Value}, RepL F ks vs → RepL F js us → RepL F (ks ++ js) (vs ++ us)
  | [], _, [], _, _, h => h
  | _ :: _, _, _ :: _, _, h, k => ⟨h.1, RepL.append h.2 k⟩
  | [], _, _ :: _, _, h, _ => h.elim
  | _ :: _, _, [], _, h, _ => h.elim
theorem RepV.below {w w' : World} (hb : Below w.heap.size w w') : ∀ (d : Nat) (k : CK) (v : Value), RepV w d k v → RepV w' d k v
  | 0, .int _, _, h => h
  | 0, .bool, _, h => h
  | 0, .str, _, h => h
  | 0, .sl _, _, h => h.elim
  | _ + 1, .int _, _, h => h
  | _ + 1, .bool, _, h => h
  | _ + 1, .str, _, h => h
  | d + 1, .sl e, v, h => by
    obtain ⟨a, n, c, rs, rfl, h1, h2, h3, h4⟩ := h
    exact ⟨a, n, c, rs, rfl, h1, h2, h3.below hb, fun r hr => (h4 r hr).mono (RepV.below hb d)⟩
theorem RepV.one {w : World} : ∀ {d : Nat} {k : CK} {v : Value}, RepV w d k v → one v = true
  | 0, .int _, v, h => by cases v <;> first | rfl | exact h.elim
  | 0, .bool, v, h => by cases v <;> first | rfl | exact h.elim
  | 0, .str, v, h => by cases v <;> first | rfl | exact h.elim
  | 0, .sl _, _, h => h.elim
  | _ + 1, .int _, v, h => by cases v <;> first | rfl | exact h.elim
  | _ + 1, .bool, v, h => by cases v <;> first | rfl | exact h.elim
  | _ + 1, .str, v, h => by cases v <;> first | rfl | exact h.elim
  | d + 1, .sl e, v, h => by
    obtain ⟨a, n, c, rs, rfl, _⟩ := h
    rfl
theorem RepL.ones {w : World} {d : Nat} : ∀ {ks : List CK} {vs : List Value}, RepR w d ks vs → ∀ u ∈ vs, one u = true
  | [], [], _, u, hu => by simp at hu
  | k :: ks, v :: vs, h, u, hu => by
    rcases List.mem_cons.1 hu with rfl | hu
    · exact RepV.one h.1
    · exact RepL.ones h.2 u hu
  | [], _ :: _, h, _, _ => h.elim
  | _ :: _, [], h, _, _ => h.elim
theorem RepV.int {w : World} {d : Nat} {k : IntKind} {v : Value} (h : RepV w d (.int k) v) : ∃ n, v = .int k n ∧ (Lit.int k n).wf = true := by
  have h : fit (.int k) v := by cases d <;> exact h
  cases v <;> first | exact h.elim | skip
  obtain ⟨rfl, hw⟩ := h
  exact ⟨_, rfl, hw⟩
theorem RepV.bool {w : World} {d : Nat} {v : Value} (h : RepV w d .bool v) : ∃ b, v = .bool b := by
  have h : fit .bool v := by cases d <;> exact h
  cases v <;> first | exact h.elim | skip
  exact ⟨_, rfl⟩
theorem RepV.sl {w : World} {d : Nat} {e : List CK} {v : Value} (h : RepV w d (.sl e) v) : ∃ (d' : Nat) (a : Option Addr) (n c : Nat) (rs : List (List Value)), d = d' + 1 ∧ v = .slice a n c ∧ rs.length = n ∧ c ≤ maxLen ∧ RSl w e.length a n c rs.flatten ∧ (∀ r ∈ rs, RepR w d' e r) := by
  cases d with
  | zero => exact h.elim
  | succ d =>
    obtain ⟨a, n, c, rs, h⟩ := h
    exact ⟨d, a, n, c, rs, rfl, h⟩
theorem RepL.cons {F : CK → Value → Prop} {k : CK} {ks : List CK} {vs : List Value} (h : RepL F (k :: ks) vs) : ∃ v r, vs = v :: r ∧ F k v ∧ RepL F ks r := by
  cases vs with
  | nil => exact h.elim
  | cons v r => exact ⟨v, r, rfl, h⟩
theorem RepL.nil {F : CK → Value → Prop} {vs : List Value} (h : RepL F [] vs) : vs = [] := by
  cases vs with
  | nil => rfl
  | cons v r => exact h.elim
theorem RepL.ints {w : World} {d : Nat} {k : IntKind} : ∀ {n : Nat} {ks : List CK} {vs : List Value}, RepR w d (List.replicate n (.int k) ++ ks) vs → ∃ (l : List Int) (us : List Value), vs = l.map (Value.int k) ++ us ∧ l.length = n ∧ (∀ x ∈ l, (Lit.int k x).wf = true) ∧ RepR w d ks us
  | 0, ks, vs, h => ⟨[], vs, rfl, rfl, by simp, h⟩
  | n + 1, ks, vs, h => by
    rw [List.replicate_succ, List.cons_append] at h
    obtain ⟨v, r, rfl, h1, h2⟩ := h.cons
    obtain ⟨x, rfl, hx⟩ := h1.int
    obtain ⟨l, us, rfl, rfl, h3, h4⟩ := RepL.ints h2
    exact ⟨x :: l, us, rfl, rfl, fun y hy => by
      rcases List.mem_cons.1 hy with rfl | hy
      · exact hx
      · exact h3 y hy, h4⟩
theorem RepV.up {w : World} : ∀ {d : Nat} {k : CK} {v : Value}, RepV w d k v → RepV w (d + 1) k v
  | 0, .int _, _, h => h
  | 0, .bool, _, h => h
  | 0, .str, _, h => h
  | 0, .sl _, _, h => h.elim
  | _ + 1, .int _, _, h => h
  | _ + 1, .bool, _, h => h
  | _ + 1, .str, _, h => h
  | d + 1, .sl e, v, h => by
    obtain ⟨a, n, c, rs, rfl, h1, h2, h3, h4⟩ := h
    exact ⟨a, n, c, rs, rfl, h1, h2, h3, fun r hr => (h4 r hr).mono fun _ _ => RepV.up⟩
theorem cells_append {w : World} {b o : Nat} {xs ys : List Value} (h : Cells w ⟨b, o, none⟩ xs) (k : Cells w ⟨b, o + xs.length, none⟩ ys) : Cells w ⟨b, o, none⟩ (xs ++ ys) := fun i v hv => by
  rw [add_mk]
  by_cases hi : i < xs.length
  · rw [List.getElem?_append_left hi] at hv
    exact cells_get h hv
  · rw [List.getElem?_append_right (by omega)] at hv
    have := cells_get k hv
    rwa [show o + xs.length + (i - xs.length) = o + i by omega] at this
theorem cells_rows {w : World} {b : Nat} : ∀ {l : List α} {o : Nat}, (∀ x ∈ l, (f x).length = sz) → (∀ i x, l[i]? = some x → Cells w ⟨b, o + i * sz, none⟩ (f x)) → Cells w ⟨b, o, none⟩ (rows f l)
  | [], o, _, _ => fun i v hv => by simp [rows] at hv
  | x :: l, o, hf, h => by
    rw [rows_cons]
    refine cells_append (by have := h 0 x rfl; simpa using this) ?_
    rw [hf x (by simp)]
    refine cells_rows (fun y hy => hf y (by simp [hy])) fun i y hy => ?_
    have := h (i + 1) y (by simpa using hy)
    rwa [Nat.succ_mul, show o + (i * sz + sz) = o + sz + i * sz by omega] at this
end Go.Proofs.YtjkbjppopdfggaaDoor.Den
