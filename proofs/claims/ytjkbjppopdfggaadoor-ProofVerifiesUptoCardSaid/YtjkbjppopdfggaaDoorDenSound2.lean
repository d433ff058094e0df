/-
  'denI' IS RIGHT: what it asks is what the model's own operation needs.
  Own work. No macro, syntax, notation, axiom.
-/
import Derived.Test.YtjkbjppopdfggaaDoorDenSound1
namespace Go.Proofs.YtjkbjppopdfggaaDoor.Den
open Go

section
variable {P : Program} {Z : Pan} {pn : List Nat} {w : World} {K : Value → World → Prop}
theorem same_if {k k' : IntKind} {p : Prop} (h : bif same k k' then p else False) : k = k' ∧ p := by
  cases hk : same k k'
  · rw [hk] at h; exact h.elim
  · rw [hk] at h; exact ⟨of_decide_eq_true hk, h⟩
theorem if_same {k : IntKind} {p : Prop} (h : p) : bif same k k then p else False := by
  have : same k k = true := decide_eq_true rfl
  rw [this]; exact h
theorem nilQ_spec {k : Nat} {v : Value} {K : Bool → Prop} (h : nilQ k v K) : ∃ b, isNilK k v = some b ∧ K b := by
  unfold nilQ at h
  split at h
  · exact ⟨_, by assumption, h⟩
  · exact h.elim
theorem optK_spec {a : Option Addr} {K : Addr → Prop} (h : optK a K) : ∃ b, a = some b ∧ K b := by
  cases a with
  | none => exact h.elim
  | some b => exact ⟨b, rfl, h⟩
theorem tupK_spec {v : Value} {K : Array Value → Prop} (h : tupK v K) : ∃ vs, v = .tuple vs ∧ K vs := by
  unfold tupK at h
  split at h
  · exact ⟨_, rfl, h⟩
  · exact h.elim
theorem ptrK_spec {v : Value} {K : Addr → Prop} (h : ptrK v K) : ∃ a, v = .pointer (some a) ∧ K a := by
  unfold ptrK at h
  split at h
  · obtain ⟨a, rfl, h⟩ := optK_spec h; exact ⟨a, rfl, h⟩
  · exact h.elim
theorem ptrK_some (a : Addr) (K : Addr → Prop) : ptrK (.pointer (some a)) K = K a := rfl
theorem fvK_spec {P : Program} {v : Value} {args : Array Value} {w : World} {K : Ending → World → Prop} (h : fvK P v args w K) : (∃ g a c, v = .func (.func g) a c ∧ HasBody P g ∧ Calls P g (a ++ args ++ c) w K) ∨ ∃ l a c, v = .func (.yield l) a c ∧ YieldAt Fence.wide 0 P l (a ++ args) w K := by
  unfold fvK at h
  split at h
  · exact .inl ⟨_, _, _, rfl, h⟩
  · exact .inr ⟨_, _, _, rfl, h⟩
  · exact h.elim
theorem fnK_spec {v : Value} {K : FuncId → Array Value → Array Value → Prop} (h : fnK v K) : ∃ g a c, v = .func (.func g) a c ∧ K g a c := by
  unfold fnK at h
  split at h
  · exact ⟨_, _, _, rfl, h⟩
  · exact h.elim
theorem ncK_spec {v : Value} {K : Value → Prop} (h : ncK v K) : (∃ a, v = .pointer (some a) ∧ K v) ∨ ((∀ p, v ≠ .pointer p) ∧ isNilV v = some false ∧ (∀ n f c, v ≠ .func (.method n) f c) ∧ K v) := by
  unfold ncK at h
  split at h
  · obtain ⟨a, rfl, h⟩ := optK_spec h; exact .inl ⟨a, rfl, h⟩
  · rename_i hn; exact .inr ⟨fun p e => hn p e, h⟩
theorem ncK_mono {v : Value} {K K' : Value → Prop} (h : ncK v K) (hK : K v → K' v) : ncK v K' := by
  cases v
  case pointer p => obtain ⟨a, rfl, h⟩ := optK_spec (show optK p fun a => K (.pointer (some a)) from h); exact hK h
  all_goals exact ⟨h.1, h.2.1, hK h.2.2⟩
theorem nilQ_mk {k : Nat} {v : Value} {K : Bool → Prop} {b : Bool} (h : isNilK k v = some b) (hK : K b) : nilQ k v K := by
  unfold nilQ; rw [h]; exact hK
theorem denBin_sound {op : BinOp} {xt : TypeId} {a b : Value} {x y : Operand} {F : Value → Prop} (h : denBin op a b F) :
    ∃ v, F v ∧ Sem.run P (do eqGuard op xt x y a b; binOp op xt a b) w = .ok v w := by
  unfold denBin at h
  split at h
  · rename_i k i k' j
    cases op <;> simp only at h
    case shl => exact ⟨_, h.2, by simp [eqGuard, binOp, Op.shift, Int.not_lt.2 h.1, shL, Result.andThen]⟩
    case shr => exact ⟨_, h.2, by simp [eqGuard, binOp, Op.shift, Int.not_lt.2 h.1, shR, Result.andThen]⟩
    case quo => obtain ⟨rfl, h1, h2⟩ := same_if h; exact ⟨_, h2, by simp [eqGuard, binOp, Op.intDiv, h1, Result.andThen]⟩
    case rem => obtain ⟨rfl, h1, h2⟩ := same_if h; exact ⟨_, h2, by simp [eqGuard, binOp, Op.intDiv, h1, Result.andThen]⟩
    all_goals
      obtain ⟨rfl, h2⟩ := same_if h
      exact ⟨_, h2, by simp [eqGuard, binOp, Op.intArith, Op.intBits, Op.intCmp, bAnd, bOr, bXor, bAndNot] <;> rfl⟩
  · rename_i s t
    cases op <;> simp only at h
    case add =>
      refine ⟨_, h.2, ?_⟩
      simp [eqGuard, binOp, Op.stringOp, Result.andThen]
      exact h.1
    case eql => exact ⟨_, h, by simp [eqGuard, binOp, Op.stringOp, Result.andThen]⟩
    case neq => exact ⟨_, h, by simp [eqGuard, binOp, Op.stringOp, Result.andThen]⟩
  · exact h.elim
theorem denUn_sound {op : UnOp} {a : Value} {F : Value → Prop} (h : denUn op a F) : ∃ v, F v ∧ (Op.unary op a).run P w = .ok v w := by
  unfold denUn at h
  split at h
  · exact ⟨_, h, by simp [Op.unary, Op.intArith]⟩
  · exact ⟨_, h, by simp [Op.unary, Op.intBits, bXor]⟩
  · exact ⟨_, h, by simp [Op.unary]⟩
  · exact h.elim
theorem run_underlying_some {T : TypeId} {d : TypeDesc} (h : P.underlying T = some d) : (underlying T).run P w = .ok d w := run_underlying h w
theorem run_sizeOf_some {T : TypeId} (h : (P.info? T).isSome = true) : (sizeOf T).run P w = .ok (P.cellsOf T) w := by
  obtain ⟨i, hi⟩ := Option.isSome_iff_exists.1 h
  exact run_sizeOf w hi
theorem run_isAgg_any {T : TypeId} {d : TypeDesc} (h : P.underlying T = some d) : (isAgg T).run P w = .ok (aggT P T) w := by
  unfold isAgg aggT
  rw [h]
  rw [Sem.run_bind, run_underlying_some h]
  cases d <;> rfl
theorem one_eq {v : Value} : one v = v.oneCell' := by cases v <;> rfl
theorem run_zero {T : TypeId} (h : hasZero P T = true) : ∃ z, (zeroValue T).run P w = .ok z w ∧ z.cells.toList = zc P T := by
  unfold hasZero at h
  cases hi : P.info? T with
  | none => rw [hi] at h; cases h
  | some i =>
    cases hz : i.zero with
    | none => rw [hi] at h; simp [hz] at h
    | some z => exact ⟨z, by simp [zeroValue, typeInfo, hi, hz, Result.andThen], by simp [zc, hi, hz]⟩

theorem run_loadCells_cells {a : Addr} {cs : List Value} (h : Cells w a cs) : (loadCells a cs.length).run P w = .ok cs.toArray w := by
  exact run_loadCells_list w a cs h
theorem run_store_one {a : Addr} {v : Value} (h1 : one v = true) (h2 : (w.cell? a).isSome = true) (h3 : w.frozen? a = false) : (store a v).run P w = .ok () (w.setCell a v) := by
  obtain ⟨u, hu⟩ := Option.isSome_iff_exists.1 h2
  cases v <;> simp [one] at h1 <;> simp [store, Sem.run, hu, h3]
theorem cell_setCell_isSome {a b : Addr} {v : Value} (h : (w.cell? b).isSome = true) : ((w.setCell a v).cell? b).isSome = true := by
  obtain ⟨u, hu⟩ := Option.isSome_iff_exists.1 h
  unfold World.cell? World.setCell at *
  simp only [Array.getElem?_modify] at *
  by_cases hb : a.block = b.block
  · rw [hb, if_pos rfl]
    cases hh : w.heap[b.block]? with
    | none => rw [hh] at hu; cases hu
    | some o =>
      rw [hh] at hu
      cases o <;> simp only [Option.map_some] at * <;> first | (cases hu; done) | skip
      rename_i c t f
      by_cases hs : b.spot.isSome = true
      · rw [if_pos hs] at hu; cases hu
      · rw [if_neg hs] at hu ⊢
        by_cases ha : a.spot.isSome = true
        · rw [if_pos ha, hu]; rfl
        · rw [if_neg ha]
          have : b.off < c.size := by rcases Nat.lt_or_ge b.off c.size with h' | h'; exact h'; rw [Array.getElem?_eq_none h'] at hu; cases hu
          simp [this]
  · rw [if_neg hb]; exact h
theorem run_storeCells_cells {a : Addr} : ∀ {vs : List Value} {i : Nat} {w : World}, (∀ u ∈ vs, one u = true) → (∀ j, j < vs.length → (w.cell? (a.add (i + j))).isSome = true ∧ w.frozen? (a.add (i + j)) = false) →
    (storeCells a vs i).run P w = .ok () (setCells w a vs i)
  | [], _, _, _, _ => rfl
  | v :: r, i, w, h1, h2 => by
    have h0 := h2 0 (by simp)
    simp only [Nat.add_zero] at h0
    unfold storeCells setCells
    rw [Sem.run_bind, run_store_one (h1 v (by simp)) h0.1 h0.2]
    refine run_storeCells_cells (fun u hu => h1 u (by simp [hu])) fun j hj => ?_
    have h3 := h2 (j + 1) (by simp; omega)
    rw [show i + (j + 1) = i + 1 + j by omega] at h3
    exact ⟨cell_setCell_isSome h3.1, by rw [World.frozen?_setCell]; exact h3.2⟩
end
end Go.Proofs.YtjkbjppopdfggaaDoor.Den
