/-
  WORDS FOR CONTRACTS: slices that are read ('RSl'), slices that are owned (the kit's 'ownsRow'), append, copy, loops.
  Own work. No macro, syntax, notation, axiom.
-/
import Derived.Test.YtjkbjppopdfggaaDoorDenWords
namespace Go.Proofs.YtjkbjppopdfggaaDoor.Den
open Go
open Go.RowKit (Below)

/-- A slice value that reads as these cells. -/
structure RSl (w : World) (sz : Nat) (a : Option Addr) (n c : Nat) (cs : List Value) : Prop where
  cap : n ≤ c
  len : cs.length = n * sz
  ones : ∀ u ∈ cs, one u = true
  at' : c = 0 ∨ ∃ b o, a = some ⟨b, o, none⟩ ∧ Cells w ⟨b, o, none⟩ cs
/-- Where its cells are read from, whatever address it has. -/
theorem RSl.from {w : World} {sz n c : Nat} {a : Option Addr} {cs : List Value} (h : RSl w sz a n c cs) : (a = none ∧ c = 0) ∨ ∃ ad, a = some ad ∧ ∀ i v, cs[i]? = some v → w.cell? (ad.add i) = some v := by
  rcases h.at' with hc | ⟨b, o, h1, h2⟩
  · cases a with
    | none => exact .inl ⟨rfl, hc⟩
    | some ad =>
      refine .inr ⟨ad, rfl, fun i v hv => ?_⟩
      have hn : n = 0 := by have := h.cap; omega
      have hl := h.len
      rw [hn, Nat.zero_mul] at hl
      rw [List.length_eq_zero_iff.1 hl] at hv
      simp at hv
  · exact .inr ⟨_, h1, h2⟩
theorem RSl.row {w : World} {sz n c : Nat} {a : Option Addr} {cs : List Value} (h : RSl w sz a n c cs) : Row w a cs := by
  rcases h.at' with hc | h'
  · have hn : n = 0 := by have := h.cap; omega
    have hl := h.len
    rw [hn, Nat.zero_mul] at hl
    exact .inl (List.length_eq_zero_iff.1 hl)
  · exact .inr h'
theorem RSl.below {w w' : World} {sz n c : Nat} {a : Option Addr} {cs : List Value} (h : RSl w sz a n c cs) (hb : Below w.heap.size w w') : RSl w' sz a n c cs := by
  refine ⟨h.cap, h.len, h.ones, ?_⟩
  rcases h.at' with h' | ⟨b, o, h1, h2⟩
  · exact .inl h'
  · refine .inr ⟨b, o, h1, fun i v hv => ?_⟩
    have := h2 i v hv
    rw [add_mk] at this ⊢
    rw [hb.cell (p := ⟨b, o + i, none⟩) (World.block_lt_of_cell? _ _ this)]
    exact this
theorem RSl.nil (w : World) (sz : Nat) : RSl w sz none 0 0 [] := ⟨Nat.le_refl _, by simp, by simp, .inl rfl⟩
/-- An element's cells. -/
theorem RSl.get {w : World} {sz n c : Nat} {a : Option Addr} {cs : List Value} (h : RSl w sz a n c cs) {i : Nat} (hi : i < n) (hsz : 0 < sz) :
    ∃ b o, a = some ⟨b, o, none⟩ ∧ Cells w ⟨b, o + i * sz, none⟩ ((cs.drop (i * sz)).take sz) := by
  rcases h.at' with hc | ⟨b, o, h1, h2⟩
  · have := h.cap; omega
  · refine ⟨b, o, h1, fun j v hv => ?_⟩
    rw [List.getElem?_take] at hv
    split at hv
    · rw [List.getElem?_drop] at hv
      have := h2 _ _ hv
      rw [add_mk] at this ⊢
      rw [Nat.add_assoc]; exact this
    · cases hv
theorem RSl.get1 {w : World} {n c : Nat} {a : Option Addr} {cs : List Value} (h : RSl w 1 a n c cs) {i : Nat} {v : Value} (hv : cs[i]? = some v) :
    ∃ b o, a = some ⟨b, o, none⟩ ∧ w.cell? ⟨b, o + i, none⟩ = some v := by
  have hi : i < cs.length := (List.getElem?_eq_some_iff.1 hv).1
  rcases h.at' with hc | ⟨b, o, h1, h2⟩
  · have := h.cap; have := h.len; omega
  · refine ⟨b, o, h1, ?_⟩
    have := h2 i v hv
    rwa [add_mk] at this
theorem RSl.sub {w : World} {sz n c : Nat} {a : Option Addr} {cs : List Value} (h : RSl w sz a n c cs) {l hh : Nat} (h1 : l ≤ hh) (h2 : hh ≤ n) :
    RSl w sz (if c = l then a else a.map fun y => y.add (l * sz)) (hh - l) (c - l) ((cs.drop (l * sz)).take ((hh - l) * sz)) := by
  have hcap := h.cap
  have hle : l * sz ≤ n * sz := Nat.mul_le_mul_right _ (Nat.le_trans h1 h2)
  have hle2 : hh * sz ≤ n * sz := Nat.mul_le_mul_right _ h2
  refine ⟨by omega, ?_, fun u hu => h.ones u (List.mem_of_mem_drop (List.mem_of_mem_take hu)), ?_⟩
  · rw [List.length_take, List.length_drop, h.len, Nat.min_eq_left]
    rw [Nat.sub_mul]; omega
  · split
    · rename_i hcl
      have : hh - l = 0 := by omega
      rw [this, Nat.zero_mul, List.take_zero]
      rcases h.at' with hc | ⟨b, o, ha, _⟩
      · exact .inl (by omega)
      · exact .inr ⟨b, o, ha, fun i v hv => by simp at hv⟩
    · rcases h.at' with hc | ⟨b, o, ha, hb⟩
      · exfalso; omega
      · refine .inr ⟨b, o + l * sz, by simp [ha, add_mk], fun i v hv => ?_⟩
        rw [List.getElem?_take] at hv
        split at hv
        · rw [List.getElem?_drop] at hv
          have := hb _ _ hv
          rw [add_mk] at this ⊢
          rw [Nat.add_assoc]; exact this
        · cases hv
theorem Blk.rsl {w : World} {b sz n : Nat} {cs : List Value} (h : Blk w b cs) (hn : cs.length = n * sz) (h1 : ∀ u ∈ cs, one u = true) : RSl w sz (some ⟨b, 0, none⟩) n n cs :=
  ⟨Nat.le_refl _, hn, h1, .inr ⟨b, 0, rfl, h.cells⟩⟩

/-! ### append -/
def slT (P : Program) (t e : TypeId) (size bytes : Nat) : Bool :=
  match P.underlying t, P.info? e with
  | some (.slice e'), some i => e' == e && i.size == size && i.bytes == bytes && (match i.zero with | some z => z.cells.size == size | none => false) && decide (0 < size)
  | _, _ => false
theorem slT_spec {P : Program} {t e : TypeId} {size bytes : Nat} (h : slT P t e size bytes = true) :
    P.underlying t = some (.slice e) ∧ 0 < size ∧ ∃ i z, P.info? e = some i ∧ i.zero = some z ∧ i.size = size ∧ i.bytes = bytes ∧ z.cells.size = size := by
  unfold slT at h
  split at h
  · rename_i e' i h1 h2
    simp only [Bool.and_eq_true, beq_iff_eq, decide_eq_true_eq] at h
    obtain ⟨⟨⟨⟨rfl, h3⟩, h4⟩, h5⟩, h6⟩ := h
    split at h5
    · rename_i z hz
      exact ⟨h1, h6, i, z, h2, hz, h3, h4, by simpa using h5⟩
    · cases h5
  · cases h
theorem ones_cells {cs : List Value} : (∀ u ∈ cs, one u = true) ↔ ∀ u ∈ cs, u.oneCell' = true := by
  constructor <;> intro h u hu <;> have := h u hu <;> rwa [one_eq] at *
/-- append onto a slice that the call owns. -/
theorem app_own {P : Program} {t e ty : TypeId} {size bytes : Nat} (hT : slT P t e size bytes = true) {w : World} {base : Nat} {a : Option Addr} {n c : Nat} {xs : List Value} (hown : w.ownsRow base e size (.slice a n c) n xs)
    {b : Option Addr} {m mc : Nat} {ys : List Value} (hy : RSl w size b m mc ys) (hb : base ≤ w.heap.size) (hlen : n + m ≤ 9223372036854775807) (hbytes : (n + m) * bytes ≤ 140737488355328) {K : Value → World → Prop}
    (hK : ∀ a' c' w', w'.ownsRow base e size (.slice a' (n + m) c') (n + m) (xs ++ ys) → w.grownBy w' (Value.slice a n c).ownBlock → K (.slice a' (n + m) c') w') :
    RunV P (Builtin.append_ #[t, t] ty #[.slice a n c, .slice b m mc]) w K := by
  obtain ⟨h1, h2, i, z, h3, h4, h5, h6, h7⟩ := slT_spec hT
  obtain ⟨rfl, hm⟩ | ⟨ad, rfl, hcells⟩ : (b = none ∧ mc = 0) ∨ ∃ ad, b = some ad ∧ ∀ i v, ys[i]? = some v → w.cell? (ad.add i) = some v := hy.from
  · subst hm
    have hm : m = 0 := by have := hy.cap; omega
    subst hm
    have hys : ys = [] := by have := hy.len; rw [Nat.zero_mul] at this; exact List.length_eq_zero_iff.1 this
    subst hys
    refine ⟨_, _, run_append_owned_none w base t ty e i size h1 h3 _ n xs hown, ?_⟩
    have := hK a c w (by simpa using hown) ⟨rfl, rfl, rfl, Nat.le_refl _, fun _ _ _ => rfl⟩
    simpa using this
  · obtain ⟨v', w', r1, r2, r3, r4⟩ := run_append_own w base t ty e i z size bytes h1 h3 h4 h5 h6 h7 h2 (.slice a n c) n xs hown ad m mc ys hy.len hcells (ones_cells.1 hy.ones) (by unfold maxLen; omega) hbytes hb
    refine ⟨v', w', r1, ?_⟩
    have hv : ∃ a' c', v' = .slice a' (n + m) c' := by
      rcases r2.2 with ⟨rfl, h0⟩ | ⟨g, cap, cur, rfl, _⟩
      · exact ⟨none, 0, by rw [h0]⟩
      · exact ⟨_, _, rfl⟩
    obtain ⟨a', c', rfl⟩ := hv
    exact hK a' c' w' r2 r3
theorem own_nil (w : World) (base e size : Nat) : w.ownsRow base e size (.slice none 0 0) 0 [] := ⟨by simp, .inl ⟨rfl, rfl⟩⟩
theorem own_new (w : World) {base e size n : Nat} {cs : List Value} (hb : base ≤ w.heap.size) (hn : cs.length = n * size) (hm : n ≤ 9223372036854775807) :
    (w.alloc (.cells cs.toArray e)).ownsRow base e size (.slice (some ⟨w.heap.size, 0, none⟩) n n) n cs := by
  have := World.ownsRow_lit (e := e) (size := size) (base := base) w cs.toArray n hb (by unfold maxLen; exact hm) (by simpa using hn)
  simpa using this
/-- What is owned is read. -/
theorem own_rsl {w : World} {base e size : Nat} {a : Option Addr} {n c : Nat} {xs : List Value} (h : w.ownsRow base e size (.slice a n c) n xs) (h1 : ∀ u ∈ xs, one u = true) : RSl w size a n c xs := by
  obtain ⟨hl, ⟨hv, hn⟩ | ⟨g, cap, cur, hv, hg, hh, hnc, hm, hs, ht⟩⟩ := h
  · cases hv
    exact ⟨Nat.le_refl _, hl, h1, .inl rfl⟩
  · cases hv
    refine ⟨hnc, hl, h1, .inr ⟨g, 0, rfl, fun i v hv => ?_⟩⟩
    rw [add_mk, Nat.zero_add]
    simp only [World.cell?, hh]
    rw [← ht, List.getElem?_take] at hv
    split at hv
    · simpa using hv
    · cases hv
/-- It stays owned where its block stays. -/
theorem own_keep {w w' : World} {base e size : Nat} {v : Value} {n : Nat} {xs : List Value} (h : w.ownsRow base e size v n xs) (hk : ∀ k, v.ownBlock = some k → w'.heap[k]? = w.heap[k]?) : w'.ownsRow base e size v n xs := by
  obtain ⟨hl, h0 | ⟨g, cap, cur, rfl, hg, hh, r⟩⟩ := h
  · exact ⟨hl, .inl h0⟩
  · exact ⟨hl, .inr ⟨g, cap, cur, rfl, hg, by rw [hk g rfl]; exact hh, r⟩⟩
theorem own_lt {w : World} {base e size : Nat} {v : Value} {n : Nat} {xs : List Value} (h : w.ownsRow base e size v n xs) {k : Nat} (hk : v.ownBlock = some k) : base ≤ k ∧ k < w.heap.size := by
  obtain ⟨hl, ⟨rfl, _⟩ | ⟨g, cap, cur, rfl, hg, hh, r⟩⟩ := h
  · cases hk
  · simp only [Value.ownBlock, Option.some.injEq] at hk
    subst hk
    exact ⟨hg, (Array.getElem?_eq_some_iff.1 hh).1⟩
theorem own_alloc {w : World} {base e size : Nat} {v : Value} {n : Nat} {xs : List Value} (h : w.ownsRow base e size v n xs) (o : Obj) : (w.alloc o).ownsRow base e size v n xs :=
  own_keep h fun _ hk => Below.heap_alloc _ _ _ (own_lt h hk).2
theorem own_below {w w' : World} {base e size : Nat} {v : Value} {n : Nat} {xs : List Value} (h : w.ownsRow base e size v n xs) (hb : Below w.heap.size w w') : w'.ownsRow base e size v n xs :=
  own_keep h fun _ hk => hb.block _ (own_lt h hk).2
/-- Behind an append onto a slice of its own nothing below 'base' has turned. -/
theorem grown_below {B base e size : Nat} {w0 w w' : World} {v : Value} {n : Nat} {xs : List Value} (h0 : Below B w0 w) (hown : w.ownsRow base e size v n xs) (hg : w.grownBy w' v.ownBlock) (hB : B ≤ w.heap.size) (hBb : B ≤ base) : Below B w0 w' :=
  h0.grown hg hB fun k hk => by have := (own_lt hown hk).1; omega
end Go.Proofs.YtjkbjppopdfggaaDoor.Den
