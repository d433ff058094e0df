/-
  WORDS FOR CONTRACTS: append, and where the new slice lies; of one element likewise; facts about owned rows.
  Own work. No macro, syntax, notation, axiom.
-/
import Derived.Test.YtjkbjppopdfggaaDoorDenWords8
import Derived.Maps.AppendAt
namespace Go.Proofs.YtjkbjppopdfggaaDoor.Den
open Go
open Go.RowKit (Below)

/-- The block of an owned row, if it has one. -/
def rowL (a : Option Addr) : List Nat := (a.map (·.block)).toList
theorem mem_rowL {a : Option Addr} {k : Nat} : k ∈ rowL a ↔ blkOf a k := by
  cases a with
  | none => simp [rowL, blkOf]
  | some x => simp [rowL, blkOf, eq_comm]
/-- The new slice lies where the old one lay, or in a block made since. -/
def Moved (a a' : Option Addr) (N : Nat) : Prop := ∀ x, a' = some x → x.block ∈ rowL a ∨ N ≤ x.block
theorem Moved.refl (a : Option Addr) (N : Nat) : Moved a a N := fun x hx => .inl (by rw [hx]; simp [rowL])
theorem Moved.trans {a b c : Option Addr} {N M : Nat} (h : Moved a b N) (k : Moved b c M) (hNM : N ≤ M) : Moved a c N := fun x hx => by
  rcases k x hx with hk | hk
  · rw [mem_rowL] at hk
    obtain ⟨y, hy, he⟩ := hk
    rw [← he]
    exact h y hy
  · exact .inr (by omega)
theorem Moved.off {a a' : Option Addr} {N : Nat} (h : Moved a a' N) {s : List Nat} (ha : Off s a) (hs : ∀ k ∈ s, k < N) : Off s a' := fun x hx hm => by
  rcases h x hx with hk | hk
  · rw [mem_rowL] at hk
    obtain ⟨y, hy, he⟩ := hk
    exact ha y hy (he ▸ hm)
  · have := hs _ hm; omega
theorem Moved.ge {a a' : Option Addr} {N B : Nat} (h : Moved a a' N) (ha : ∀ x, a = some x → B ≤ x.block) (hB : B ≤ N) : ∀ x, a' = some x → B ≤ x.block := fun x hx => by
  rcases h x hx with hk | hk
  · rw [mem_rowL] at hk
    obtain ⟨y, hy, he⟩ := hk
    have := ha y hy
    omega
  · omega
theorem own_ge {w : World} {base e size : Nat} {a : Option Addr} {m n c : Nat} {xs : List Value} (h : w.ownsRow base e size (.slice a m c) n xs) : ∀ x, a = some x → base ≤ x.block ∧ x.block < w.heap.size := by
  intro x hx
  subst hx
  exact own_lt h rfl
theorem app_at {P : Program} {t e ty : TypeId} {size bytes : Nat} (hT : slT P t e size bytes = true) {w : World} {base : Nat} {a : Option Addr} {n c : Nat} {xs : List Value} (hown : w.ownsRow base e size (.slice a n c) n xs)
    {b : Option Addr} {m mc : Nat} {ys : List Value} (hy : RSl w size b m mc ys) (hb : base ≤ w.heap.size) (hlen : n + m ≤ 9223372036854775807) (hbytes : (n + m) * bytes ≤ 140737488355328) {K : Option Addr → Nat → Nat → World → Prop}
    (hK : ∀ a' c' w', w'.ownsRow base e size (.slice a' (n + m) c') (n + m) (xs ++ ys) → Tch (rowL a) w w' → Moved a a' w.heap.size → K a' (n + m) c' w') :
    RunV P (Builtin.append_ #[t, t] ty #[.slice a n c, .slice b m mc]) w fun v w' => ∃ (x : Option Addr) (xn : Nat) (xc : Nat), v = (.slice x xn xc) ∧ K x xn xc w' := by
  obtain ⟨h1, h2, i, z, h3, h4, h5, h6, h7⟩ := slT_spec hT
  obtain ⟨rfl, hc⟩ | ⟨ad, rfl, hcells⟩ := hy.from
  · have hm : m = 0 := by have := hy.cap; omega
    subst hm; subst hc
    have hys : ys = [] := by have := hy.len; rw [Nat.zero_mul] at this; exact List.length_eq_zero_iff.1 this
    subst hys
    refine ⟨_, _, run_append_owned_none w base t ty e i size h1 h3 _ n xs hown, a, n, c, rfl, ?_⟩
    have := hK a c w (by simpa using hown) (Tch.refl _ _) (Moved.refl _ _)
    simpa using this
  · obtain ⟨v', w', r1, r2, r3, r4, r5⟩ := run_append_own_at (P := P) w base t ty e i z size bytes h1 h3 h4 h5 h6 h7 h2 (.slice a n c) n xs hown ad m mc ys hy.len hcells (ones_cells.1 hy.ones) (by unfold maxLen; omega) hbytes hb
    have hv : ∃ a' c', v' = .slice a' (n + m) c' := by
      rcases r2.2 with ⟨rfl, h0⟩ | ⟨g, cap, cur, rfl, _⟩
      · exact ⟨none, 0, by rw [h0]⟩
      · exact ⟨_, _, rfl⟩
    obtain ⟨a', c', rfl⟩ := hv
    refine ⟨_, _, r1, a', _, c', rfl, hK a' c' w' r2 ?_ ?_⟩
    · refine (Tch.refl _ _).grown r3 fun k hk => .inl ?_
      rw [mem_rowL]
      cases a with
      | none => cases hk
      | some x => exact ⟨x, rfl, by simpa [Value.ownBlock] using hk⟩
    · intro x hx
      subst hx
      rcases r5 with h | h
      · cases a with
        | none => cases h
        | some y =>
          left
          rw [mem_rowL]
          exact ⟨y, rfl, by simpa [Value.ownBlock] using h.symm⟩
      · right
        have : x.block = w.heap.size := by simpa [Value.ownBlock] using h
        omega
/-- append of one element: the row of one element is laid first. -/
theorem app_elem_at {P : Program} {t e ty : TypeId} {size bytes : Nat} (hT : slT P t e size bytes = true) {w : World} {base : Nat} {a : Option Addr} {n c : Nat} {xs : List Value} (hown : w.ownsRow base e size (.slice a n c) n xs)
    {z : List Value} (hz : z.length = 1 * size) {v : Value} {ys : List Value} (hv : v.cells = ys.toArray) (hl : ys.length = size) (h1 : ∀ u ∈ ys, one u = true)
    (hb : base ≤ w.heap.size) (hlen : n < 9223372036854775807) (hbytes : (n + 1) * bytes ≤ 140737488355328) {K : Option Addr → Nat → Nat → World → Prop}
    (hK : ∀ a' c' w', w'.ownsRow base e size (.slice a' (n + 1) c') (n + 1) (xs ++ ys) → Tch (rowL a) w w' → Moved a a' w.heap.size → K a' (n + 1) c' w') :
    ∃ cs, fillL (.elems size) z [(0, v)] = some cs ∧ ∀ w1 : World, w1 = World.alloc w (.cells (List.toArray cs) e) →
      RunV P (Builtin.append_ #[t, t] ty #[.slice a n c, .slice (some ⟨World.heap w |>.size, 0, none⟩) 1 1]) w1 fun v w' => ∃ (x : Option Addr) (xn : Nat) (xc : Nat), v = (.slice x xn xc) ∧ K x xn xc w' := by
  refine ⟨ys, fill1 (by omega) hv hl, ?_⟩
  rintro w1 rfl
  have hr : RSl (w.alloc (.cells ys.toArray e)) size (some ⟨w.heap.size, 0, none⟩) 1 1 ys := (Blk.fresh w e rfl).rsl (by omega) h1
  refine app_at hT (own_alloc hown _) hr (by rw [size_alloc]; omega) (by omega) hbytes fun a' c' w' h2 h3 h4 => hK a' c' w' h2 ?_ ?_
  · exact ((Tch.refl (rowL a) w).alloc _).trans h3 fun i hi => .inl hi
  · intro x hx
    rcases h4 x hx with h | h
    · exact .inl h
    · rw [size_alloc] at h; exact .inr (by omega)
theorem tch_base {s : List Nat} {w w' : World} {B : Nat} (h : Tch s w w') (hB : B ≤ w.heap.size) (hs : ∀ i ∈ s, B ≤ i) : Below B w w' := h.below' hB hs
theorem rowL_ge {w : World} {base e size : Nat} {a : Option Addr} {m n c : Nat} {xs : List Value} (h : w.ownsRow base e size (.slice a m c) n xs) : ∀ i ∈ rowL a, base ≤ i ∧ i < w.heap.size := by
  intro i hi
  rw [mem_rowL] at hi
  obtain ⟨x, hx, rfl⟩ := hi
  exact own_ge h x hx
theorem fOwn_off' {base e size n c : Nat} {a : Option Addr} {xs : List Value} {s : List Nat} (h : ∀ k ∈ s, k ∉ rowL a) : (fOwn base e size a n c xs).off s := fun k hk hf => h k hk (mem_rowL.2 hf)
end Go.Proofs.YtjkbjppopdfggaaDoor.Den
