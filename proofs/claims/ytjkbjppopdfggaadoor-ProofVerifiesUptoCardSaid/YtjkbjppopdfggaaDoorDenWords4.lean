/-
  WORDS FOR CONTRACTS: equality of arrays of numbers.
  Own work. No macro, syntax, notation, axiom.
-/
import Derived.Test.YtjkbjppopdfggaaDoorDenWords3
import Derived.DeepKeys
namespace Go.Proofs.YtjkbjppopdfggaaDoor.Den
open Go
open Go.RowKit (Below)

/-- An array type of so many numbers, as a Bool by which the kernel looks it up. -/
def arrT (P : Program) (t e : TypeId) (n : Nat) (k : IntKind) : Bool :=
  match P.underlying t, P.underlying e with
  | some (.array m e'), some (.int k') => m == n && e' == e && k' == k && P.cellsOf t == n && P.cellsOf e == 1 && !P.eqGuardType P.depth t
  | _, _ => false
theorem arrT_spec {P : Program} {t e : TypeId} {n : Nat} {k : IntKind} (h : arrT P t e n k = true) :
    P.underlying t = some (.array n e) ∧ P.underlying e = some (.int k) ∧ P.cellsOf t = n ∧ P.cellsOf e = 1 ∧ P.eqGuardType P.depth t = false := by
  unfold arrT at h
  split at h
  · rename_i m e' k' h1 h2
    simp only [Bool.and_eq_true, beq_iff_eq, Bool.not_eq_true'] at h
    obtain ⟨⟨⟨⟨⟨rfl, rfl⟩, rfl⟩, h3⟩, h4⟩, h5⟩ := h
    exact ⟨h1, h2, h3, h4, h5⟩
  · cases h
theorem mapM_some {α β : Type} {f : α → Option β} {g : α → β} : ∀ (l : List α), (∀ x ∈ l, f x = some (g x)) → l.mapM f = some (l.map g)
  | [], _ => by simp
  | a :: r, h => by
    rw [List.mapM_cons, h a (by simp), mapM_some r fun x hx => h x (by simp [hx])]
    rfl
theorem flatten_one {α : Type} (l : List Int) (g : Int → α) : ∀ n, n = l.length → ((List.range n).map fun i => [g (l.getD i 0)]).flatten = l.map g := by
  intro n hn
  have : (List.range n).map (fun i => [g (l.getD i 0)]) = l.map fun x => [g x] := by
    apply List.ext_getElem
    · simp [hn]
    · intro i h1 h2
      simp at h1 h2
      simp [h2]
  rw [this]
  clear this hn
  induction l with
  | nil => rfl
  | cons a r ih => simp [ih]
theorem lits_ints {P : Program} {t e : TypeId} {n : Nat} {k : IntKind} (h : arrT P t e n k = true) (d : Nat) (l : List Int) (hl : l.length = n) (hw : ∀ x ∈ l, (Lit.int k x).wf = true) :
    P.keyLits (d + 2) t (l.map (Value.int k)) = some (l.map (Lit.int k)) := by
  obtain ⟨h1, h2, h3, h4, h5⟩ := arrT_spec h
  unfold Program.keyLits
  rw [h1]
  simp only [List.length_map, hl, h3, if_true]
  rw [mapM_some (g := fun i => [Lit.int k (l.getD i 0)])]
  · rw [Option.map_some, flatten_one l (Lit.int k) n hl.symm]
  · intro i hi
    rw [List.mem_range] at hi
    have hil : i < l.length := by omega
    have e1 : List.take (P.cellsOf e) (List.drop (i * P.cellsOf e) (l.map (Value.int k))) = [.int k (l.getD i 0)] := by
      rw [h4, Nat.mul_one, List.drop_eq_getElem_cons (by simpa using hil)]
      simp [hil]
    rw [e1]
    unfold Program.keyLits
    rw [h2]
    have hwf : (Lit.int k (l.getD i 0)).wf = true := hw _ (by simp [hil])
    show (if k = k ∧ (Lit.int k (l.getD i 0)).wf = true then some [Lit.int k (l.getD i 0)] else none) = _
    rw [if_pos ⟨rfl, hwf⟩]
theorem map_lit {k : IntKind} : ∀ (x y : List Int), x.map (Lit.int k) = y.map (Lit.int k) → x = y
  | [], [], _ => rfl
  | [], _ :: _, h => by cases h
  | _ :: _, [], h => by cases h
  | a :: r, b :: s, h => by
    simp only [List.map_cons, List.cons.injEq] at h
    obtain ⟨h1, h2⟩ := h
    cases h1
    rw [map_lit r s h2]
/-- Two arrays of numbers are compared. -/
theorem eq_ints {P : Program} {t e : TypeId} {n : Nat} {k : IntKind} (h : arrT P t e n k = true) (a b : Operand) (x y : List Int) (hx : x.length = n) (hy : y.length = n)
    (hwx : ∀ z ∈ x, (Lit.int k z).wf = true) (hwy : ∀ z ∈ y, (Lit.int k z).wf = true) (w : World) :
    (do eqGuard .eql t a b (.agg (x.map (Value.int k)).toArray) (.agg (y.map (Value.int k)).toArray); binOp .eql t (.agg (x.map (Value.int k)).toArray) (.agg (y.map (Value.int k)).toArray) : Sem Value).run P w = .ok (.bool (decide (x = y))) w := by
  obtain ⟨h1, h2, h3, h4, h5⟩ := arrT_spec h
  have hk : P.keyTypeAt 2 t = true := by
    unfold Program.keyTypeAt; rw [h1]
    show P.keyTypeAt 1 e = true
    unfold Program.keyTypeAt; rw [h2]
  have hf : ∀ z : List Int, z.length = n → (Value.agg (z.map (Value.int k)).toArray).formed P t = true := by
    intro z hz
    simp [Value.formed, h1, h3, hz]
  obtain ⟨r, hr, hiff⟩ := run_equalIn_deep (P := P) 9998 2 t hk w 2 2 (.agg (x.map (Value.int k)).toArray) (.agg (y.map (Value.int k)).toArray) (x.map (Lit.int k)) (y.map (Lit.int k)) (hf x hx) (hf y hy)
    (lits_ints h 0 x hx hwx) (lits_ints h 0 y hy hwy)
  rw [Sem.run_bind, run_eqGuard_agg w .eql t a b _ _ h5]
  simp only [Result.andThen_ok]
  rw [run_eql_struct w t, hr, Result.andThen_ok]
  have hinj : (x.map (Lit.int k) = y.map (Lit.int k)) ↔ x = y :=
    ⟨map_lit x y, fun e => by rw [e]⟩
  congr 2
  rw [Bool.eq_iff_iff, hiff, hinj, decide_eq_true_iff]
end Go.Proofs.YtjkbjppopdfggaaDoor.Den
