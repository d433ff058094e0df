/-
  WORDS FOR CONTRACTS: an owned slice is cut; cap.
  Own work. No macro, syntax, notation, axiom.
-/
import Derived.Test.YtjkbjppopdfggaaDoorDenWords6
namespace Go.Proofs.YtjkbjppopdfggaaDoor.Den
open Go
open Go.RowKit (Below)

theorem own_cut {w : World} {base e size : Nat} {a : Option Addr} {n c : Nat} {xs : List Value} (h : w.ownsRow base e size (.slice a n c) n xs) {k : Nat} (hk : k ≤ n) :
    w.ownsRow base e size (.slice a k c) k (xs.take (k * size)) := by
  obtain ⟨hl, ⟨hv, hn⟩ | ⟨g, cap, cur, hv, hg, hh, hnc, hm, hs, ht⟩⟩ := h
  · cases hv
    have : k = 0 := by omega
    subst this
    exact ⟨by simp, .inl ⟨rfl, rfl⟩⟩
  · cases hv
    have hle : k * size ≤ n * size := Nat.mul_le_mul_right _ hk
    refine ⟨by rw [List.length_take, hl]; omega, .inr ⟨g, c, cur, rfl, hg, hh, by omega, hm, hs, ?_⟩⟩
    rw [← ht, List.take_take, Nat.min_eq_left hle]
/-- The slice of an owned slice from its first element on. -/
theorem own_head {w : World} {base e size : Nat} {a : Option Addr} {n c : Nat} {xs : List Value} (h : w.ownsRow base e size (.slice a n c) n xs) {k : Nat} (hk : k ≤ n) :
    w.ownsRow base e size (.slice (if c = 0 then a else Option.map (fun y => Addr.add y (0 * size)) a) (k - 0) (c - 0)) k (xs.take (k * size)) := by
  have hx := own_cut h hk
  have : (if c = 0 then a else Option.map (fun y => Addr.add y (0 * size)) a) = a := by
    split
    · rfl
    · rw [Nat.zero_mul]
      cases a <;> rfl
  rw [this]
  exact hx
theorem run_capK {P : Program} {t e ty : TypeId} {size bytes : Nat} (hT : slT P t e size bytes = true) {w : World} {a : Option Addr} {n c : Nat} {K : Value → World → Prop} (hK : K (.int .i64 c) w) :
    RunV P (Builtin.cap_ #[t] ty #[.slice a n c]) w K := by
  obtain ⟨h1, _⟩ := slT_spec hT
  refine ⟨_, w, ?_, hK⟩
  simp [Builtin.cap_, run_underlying h1, goInt]
theorem eq_flat_d {P : Program} {d : Nat} {t : TypeId} {ks : List FK} (hf : flatK P d t = some ks) (hk : eqT P d t = true) {a b : Operand} {xs ys : List Value} (hx : Fits ks xs) (hy : Fits ks ys) {w : World} {K : Bool → Prop}
    {p : Prop} [Decidable p] (hp : xs = ys ↔ p) (hK : K (decide p)) :
    ∃ q : Bool, Sem.run P (do eqGuard .eql t a b (.agg (List.toArray xs)) (.agg (List.toArray ys)); binOp .eql t (.agg (List.toArray xs)) (.agg (List.toArray ys))) w = .ok (.bool q) w ∧ K q :=
  eq_flat hf hk hx hy (fun h => by rwa [decide_eq_true (hp.1 h)] at hK) (fun h => by rwa [decide_eq_false fun h2 => h (hp.2 h2)] at hK)
theorem neq_flat_d {P : Program} {d : Nat} {t : TypeId} {ks : List FK} (hf : flatK P d t = some ks) (hk : eqT P d t = true) {a b : Operand} {xs ys : List Value} (hx : Fits ks xs) (hy : Fits ks ys) {w : World} {K : Bool → Prop}
    {p : Prop} [Decidable p] (hp : xs = ys ↔ p) (hK : K (!decide p)) :
    ∃ q : Bool, Sem.run P (do eqGuard .neq t a b (.agg (List.toArray xs)) (.agg (List.toArray ys)); binOp .neq t (.agg (List.toArray xs)) (.agg (List.toArray ys))) w = .ok (.bool q) w ∧ K q :=
  neq_flat hf hk hx hy (fun h => by rwa [decide_eq_true (hp.1 h)] at hK) (fun h => by rwa [decide_eq_false fun h2 => h (hp.2 h2)] at hK)
end Go.Proofs.YtjkbjppopdfggaaDoor.Den
