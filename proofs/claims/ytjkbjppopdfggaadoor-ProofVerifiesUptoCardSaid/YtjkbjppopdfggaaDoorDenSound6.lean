/-
  REGIONS THAT DRAW THEIR ORDER: the walk 'D' is right.
  Own work. No macro, syntax, notation, axiom.
-/
import Derived.Test.YtjkbjppopdfggaaDoorDenSound5
namespace Go.Proofs.YtjkbjppopdfggaaDoor.Den
open Go

theorem rdK_char {e : Env} {x : Operand} {K : Value → Prop} (h : rdK e x K) : ∃ v, K v ∧ ∀ K' : Value → Prop, K' v → rdK e x K' := by
  obtain ⟨v, h1, h2⟩ := rdK_spec h
  exact ⟨v, h2, fun K' hK => by unfold rdK; rw [h1]; exact hK⟩
theorem rdo_char {e : Env} {x : Option Operand} {K : Option Value → Prop} (h : rdo e x K) : ∃ v, K v ∧ ∀ K' : Option Value → Prop, K' v → rdo e x K' := by
  cases x with
  | none => exact ⟨none, h, fun _ hK => hK⟩
  | some y => obtain ⟨v, h1, h2⟩ := rdK_char h; exact ⟨some v, h1, fun K' hK => h2 (fun v => K' (some v)) hK⟩
theorem rdps_char {e : Env} : ∀ {l : List (Nat × Operand)} {K : List (Nat × Value) → Prop}, rdps e l K → ∃ vs, K vs ∧ ∀ K' : List (Nat × Value) → Prop, K' vs → rdps e l K'
  | [], _, h => ⟨[], h, fun _ hK => hK⟩
  | (i, x) :: r, K, h => by
    obtain ⟨v, h1, c1⟩ := rdK_char (K := fun v => rdps e r fun vs => K ((i, v) :: vs)) h
    obtain ⟨vs, h2, c2⟩ := rdps_char h1
    exact ⟨(i, v) :: vs, h2, fun K' hK => c1 (fun v => rdps e r fun vs => K' ((i, v) :: vs)) (c2 (fun vs => K' ((i, v) :: vs)) hK)⟩
theorem rdsK_char {e : Env} : ∀ {l : List Operand} {K : List Value → Prop}, rdsK e l K → ∃ vs, K vs ∧ ∀ K' : List Value → Prop, K' vs → rdsK e l K'
  | [], _, h => ⟨[], h, fun _ hK => hK⟩
  | x :: r, K, h => by
    obtain ⟨v, h1, c1⟩ := rdK_char (K := fun v => rdsK e r fun vs => K (v :: vs)) h
    obtain ⟨vs, h2, c2⟩ := rdsK_char h1
    exact ⟨v :: vs, h2, fun K' hK => c1 (fun v => rdsK e r fun vs => K' (v :: vs)) (c2 (fun vs => K' (v :: vs)) hK)⟩
theorem exTy_char {t : Ty} {F : Value → Prop} (h : exTy t F) : ∃ v, F v ∧ ∀ F' : Value → Prop, F' v → exTy t F' := by
  cases t <;> simp only [exTy] at h ⊢
  case sl => obtain ⟨a, n, c, h⟩ := h; exact ⟨_, h, fun F' hF => ⟨a, n, c, hF⟩⟩
  all_goals obtain ⟨a, h⟩ := h; exact ⟨_, h, fun F' hF => ⟨a, hF⟩⟩
theorem bnd_char {v : Option Value} {d top : Nat} {F : Nat → Prop} (h : bnd v d top F) : ∃ x, F x ∧ ∀ F' : Nat → Prop, F' x → bnd v d top F' := by
  unfold bnd at h
  split at h
  · exact ⟨_, h, fun _ hF => hF⟩
  · exact ⟨_, h.2.2, fun _ hF => ⟨h.1, h.2.1, hF⟩⟩
  · exact h.elim
theorem bif_char {b : Bool} {p : Prop} (h : bif b then p else False) : p ∧ ∀ q : Prop, q → bif b then q else False := by
  cases b
  · exact h.elim
  · exact ⟨h, fun _ hq => hq⟩
theorem denBin_char {op : BinOp} {a b : Value} {F : Value → Prop} (h : denBin op a b F) : ∃ v, F v ∧ ∀ F' : Value → Prop, F' v → denBin op a b F' := by
  unfold denBin at h
  split at h
  · cases op <;> simp only at h
    case shl => exact ⟨_, h.2, fun F' hF => ⟨h.1, hF⟩⟩
    case shr => exact ⟨_, h.2, fun F' hF => ⟨h.1, hF⟩⟩
    case quo => exact ⟨_, (bif_char h).1.2, fun F' hF => (bif_char h).2 _ ⟨(bif_char h).1.1, hF⟩⟩
    case rem => exact ⟨_, (bif_char h).1.2, fun F' hF => (bif_char h).2 _ ⟨(bif_char h).1.1, hF⟩⟩
    all_goals exact ⟨_, (bif_char h).1, fun F' hF => (bif_char h).2 _ hF⟩
  · cases op <;> simp only at h
    case add => exact ⟨_, h.2, fun F' hF => ⟨h.1, hF⟩⟩
    case eql => exact ⟨_, h, fun F' hF => hF⟩
    case neq => exact ⟨_, h, fun F' hF => hF⟩
  · exact h.elim
theorem denUn_char {op : UnOp} {a : Value} {F : Value → Prop} (h : denUn op a F) : ∃ v, F v ∧ ∀ F' : Value → Prop, F' v → denUn op a F' := by
  unfold denUn at h
  split at h
  · exact ⟨_, h, fun F' hF => hF⟩
  · exact ⟨_, h, fun F' hF => hF⟩
  · exact ⟨_, h, fun F' hF => hF⟩
  · exact h.elim

section
variable {P : Program} {Z : Pan} {pn : List Nat}
/-- Its value hangs on nothing but its operands. -/
def Free (P : Program) (i : I) (ty : Ty) (e : Env) (v : Value) : Prop := ∀ (Z : Pan) w (K : Value → World → Prop), K v w → denI P Z i ty e w K
theorem denI_pure {i : I} {ty : Ty} {e : Env} {w : World} {K : Value → World → Prop} (hp : pureI i = true) (h : denI P Z i ty e w K) : ∃ v, K v w ∧ Free P i ty e v := by
  cases i <;> simp only [pureI, Bool.false_eq_true] at hp
  case mv x =>
    obtain ⟨v, h1, c1⟩ := rdK_char h
    exact ⟨v, h1, fun _ w K hK => c1 _ hK⟩
  case nc x =>
    obtain ⟨v, h1, c1⟩ := rdK_char h
    have h2 : K v w := by rcases ncK_spec h1 with ⟨a, rfl, h6⟩ | ⟨_, _, _, h5⟩ <;> assumption
    exact ⟨v, h2, fun _ w K hK => c1 _ (ncK_mono h1 fun _ => hK)⟩
  case pick c a b =>
    obtain ⟨v, h1, c1⟩ := rdK_char h
    cases v <;> first | exact (show False from h1).elim | skip
    rename_i t
    cases t
    · obtain ⟨u, h2, c2⟩ := rdK_char (show rdK e b fun v => K v w from h1)
      exact ⟨u, h2, fun _ w K hK => c1 _ (c2 (fun v => K v w) hK)⟩
    · obtain ⟨u, h2, c2⟩ := rdK_char (show rdK e a fun v => K v w from h1)
      exact ⟨u, h2, fun _ w K hK => c1 _ (c2 (fun v => K v w) hK)⟩
  case bin op x y =>
    obtain ⟨a, h1, c1⟩ := rdK_char h
    obtain ⟨b, h2, c2⟩ := rdK_char h1
    obtain ⟨v, h3, c3⟩ := denBin_char h2
    exact ⟨v, h3, fun _ w K hK => c1 _ (c2 _ (c3 _ hK))⟩
  case eqB neg x y =>
    obtain ⟨a, h1, c1⟩ := rdK_char h
    obtain ⟨b, h2, c2⟩ := rdK_char h1
    cases a <;> first | exact (show False from h2).elim | skip
    cases b <;> first | exact (show False from h2).elim | skip
    exact ⟨_, h2, fun _ w K hK => c1 _ (c2 _ hK)⟩
  case nilEq neg k x =>
    obtain ⟨a, hq, c1⟩ := rdK_char h
    obtain ⟨b, h1, h2⟩ := nilQ_spec hq
    exact ⟨_, h2, fun _ w K hK => c1 _ (nilQ_mk h1 hK)⟩
  case un op x =>
    obtain ⟨a, h1, c1⟩ := rdK_char h
    obtain ⟨v, h3, c3⟩ := denUn_char h1
    exact ⟨v, h3, fun _ w K hK => c1 _ (c3 _ hK)⟩
  case cv k x =>
    obtain ⟨a, h1, c1⟩ := rdK_char h
    cases a <;> first | exact (show False from h1).elim | skip
    exact ⟨_, h1, fun _ w K hK => c1 _ hK⟩
  case bld T p parts =>
    obtain ⟨vs, ⟨cs, h1, h2⟩, c1⟩ := rdps_char h
    exact ⟨_, h2, fun _ w K hK => c1 _ ⟨cs, h1, hK⟩⟩
  case fa off x =>
    obtain ⟨a, h1, c1⟩ := rdK_char h
    obtain ⟨a, rfl, hptr⟩ := ptrK_spec h1
    replace h1 := hptr
    exact ⟨_, h1, fun _ w K hK => c1 _ hK⟩
  case fld off x =>
    obtain ⟨a, h1, c1⟩ := rdK_char h
    cases a <;> first | exact (show False from h1).elim | skip
    obtain ⟨v, ⟨h2, h3⟩, c2⟩ := exTy_char h1
    exact ⟨v, h3, fun _ w K hK => c1 _ (c2 (fun u => _ ∧ K u w) ⟨h2, hK⟩)⟩
  case fldN off n x =>
    obtain ⟨a, h1, c1⟩ := rdK_char h
    cases a <;> first | exact (show False from h1).elim | skip
    exact ⟨_, h1, fun _ w K hK => c1 _ hK⟩
  case ia size x i =>
    obtain ⟨a, h1, c1⟩ := rdK_char h
    obtain ⟨b, h2, c2⟩ := rdK_char h1
    cases a <;> first | exact (show False from h2).elim | skip
    rename_i a n c
    cases b <;> first | exact (show False from h2).elim | skip
    obtain ⟨h3, h4, h5⟩ := h2
    obtain ⟨b, rfl, h5⟩ := optK_spec h5
    exact ⟨_, h5, fun _ w K hK => c1 _ (c2 _ ⟨h3, h4, hK⟩)⟩
  case iaA n size x i =>
    obtain ⟨a, h1, c1⟩ := rdK_char h
    obtain ⟨b, h2, c2⟩ := rdK_char h1
    obtain ⟨a, rfl, hptr⟩ := ptrK_spec h2
    replace h2 := hptr
    cases b <;> first | exact (show False from h2).elim | skip
    exact ⟨_, h2.2.2, fun _ w K hK => c1 _ (c2 _ ⟨h2.1, h2.2.1, hK⟩)⟩
  case ixA n size x i =>
    obtain ⟨a, h1, c1⟩ := rdK_char h
    obtain ⟨b, h2, c2⟩ := rdK_char h1
    cases a <;> first | exact (show False from h2).elim | skip
    cases b <;> first | exact (show False from h2).elim | skip
    obtain ⟨v, ⟨h3, h4⟩, c3⟩ := exTy_char h2.2.2
    exact ⟨v, h4, fun _ w K hK => c1 _ (c2 _ ⟨h2.1, h2.2.1, c3 (fun u => _ ∧ K u w) ⟨h3, hK⟩⟩)⟩
  case ixN n size x i =>
    obtain ⟨a, h1, c1⟩ := rdK_char h
    obtain ⟨b, h2, c2⟩ := rdK_char h1
    cases a <;> first | exact (show False from h2).elim | skip
    cases b <;> first | exact (show False from h2).elim | skip
    exact ⟨_, h2.2.2, fun _ w K hK => c1 _ (c2 _ ⟨h2.1, h2.2.1, hK⟩)⟩
  case ixS x i =>
    obtain ⟨a, h1, c1⟩ := rdK_char h
    obtain ⟨b, h2, c2⟩ := rdK_char h1
    cases a <;> first | exact (show False from h2).elim | skip
    cases b <;> first | exact (show False from h2).elim | skip
    obtain ⟨h3, d, h4, h5⟩ := h2
    exact ⟨_, h5, fun _ w K hK => c1 _ (c2 _ ⟨h3, d, h4, hK⟩)⟩
  case slS size x lo hi mx =>
    obtain ⟨a, h1, c1⟩ := rdK_char h
    obtain ⟨l, h2, c2⟩ := rdo_char h1
    obtain ⟨hh, h3, c3⟩ := rdo_char h2
    obtain ⟨m, h4, c4⟩ := rdo_char h3
    cases a <;> first | exact (show False from h4).elim | skip
    obtain ⟨m', h5, c5⟩ := bnd_char h4
    obtain ⟨h', h6, c6⟩ := bnd_char h5
    obtain ⟨l', h7, c7⟩ := bnd_char h6
    exact ⟨_, h7, fun _ w K hK => c1 _ (c2 _ (c3 _ (c4 _ (c5 _ (c6 _ (c7 _ hK))))))⟩
  case slA n size x lo hi mx =>
    obtain ⟨a, h1, c1⟩ := rdK_char h
    obtain ⟨l, h2, c2⟩ := rdo_char h1
    obtain ⟨hh, h3, c3⟩ := rdo_char h2
    obtain ⟨m, h4, c4⟩ := rdo_char h3
    obtain ⟨a, rfl, hptr⟩ := ptrK_spec h4
    replace h4 := hptr
    obtain ⟨m', h5, c5⟩ := bnd_char h4
    obtain ⟨h', h6, c6⟩ := bnd_char h5
    obtain ⟨l', h7, c7⟩ := bnd_char h6
    refine ⟨_, h7, fun _ w K hK => c1 _ (c2 _ (c3 _ (c4 _ ?_)))⟩
    rw [ptrK_some]
    exact c5 _ (c6 _ (c7 _ hK))
  case slT x lo hi =>
    obtain ⟨a, h1, c1⟩ := rdK_char h
    obtain ⟨l, h2, c2⟩ := rdo_char h1
    obtain ⟨hh, h3, c3⟩ := rdo_char h2
    cases a <;> first | exact (show False from h3).elim | skip
    obtain ⟨h', h6, c6⟩ := bnd_char h3
    obtain ⟨l', h7, c7⟩ := bnd_char h6
    exact ⟨_, h7, fun _ w K hK => c1 _ (c2 _ (c3 _ (c6 _ (c7 _ hK))))⟩
  case len x =>
    obtain ⟨a, h1, c1⟩ := rdK_char h
    cases a <;> first | exact (show False from h1).elim | skip
    exact ⟨_, h1, fun _ w K hK => c1 _ hK⟩
  case lenT x =>
    obtain ⟨a, h1, c1⟩ := rdK_char h
    cases a <;> first | exact (show False from h1).elim | skip
    exact ⟨_, h1, fun _ w K hK => c1 _ hK⟩
  case mkI T x =>
    obtain ⟨a, h1, c1⟩ := rdK_char h
    exact ⟨_, h1, fun _ w K hK => c1 _ hK⟩
  case mkF f a c =>
    obtain ⟨va, h1, c1⟩ := rdsK_char h
    obtain ⟨vc, h2, c2⟩ := rdsK_char h1
    exact ⟨_, h2, fun _ w K hK => c1 _ (c2 _ hK)⟩
  case ext ix x =>
    obtain ⟨a, h1, c1⟩ := rdK_char h
    obtain ⟨vs, rfl, h4⟩ := tupK_spec h1
    obtain ⟨v, ⟨h2, h3⟩, c2⟩ := exTy_char h4
    exact ⟨v, h3, fun _ w K hK => c1 _ (c2 (fun u => _ ∧ K u w) ⟨h2, hK⟩)⟩
theorem denI_read {i : I} {ty : Ty} {e : Env} {w : World} {K : Value → World → Prop} (hp : readI i = true) (h : denI P Z i ty e w K) : ∃ v, K v w ∧ ∀ (Z : Pan) (K' : Value → World → Prop), K' v w → denI P Z i ty e w K' := by
  cases i <;> simp only [readI, Bool.false_eq_true] at hp
  case ld1 x =>
    obtain ⟨a, h1, c1⟩ := rdK_char h
    obtain ⟨a, rfl, hptr⟩ := ptrK_spec h1
    replace h1 := hptr
    obtain ⟨v, ⟨h2, h3⟩, c2⟩ := exTy_char h1
    exact ⟨v, h3, fun _ K hK => c1 _ (c2 (fun u => _ ∧ K u w) ⟨h2, hK⟩)⟩
  case ldN n x =>
    obtain ⟨a, h1, c1⟩ := rdK_char h
    obtain ⟨a, rfl, hptr⟩ := ptrK_spec h1
    replace h1 := hptr
    obtain ⟨cs, h2, h3, h4⟩ := h1
    exact ⟨_, h4, fun _ K hK => c1 _ ⟨cs, h2, h3, hK⟩⟩
  case look T x k ok =>
    obtain ⟨a, h1, c1⟩ := rdK_char h
    obtain ⟨b, ⟨v, h2, h3⟩, c2⟩ := rdK_char h1
    obtain ⟨u, ⟨h4, h5⟩, c3⟩ := exTy_char h3
    subst h4
    exact ⟨v, h5, fun _ K hK => c1 _ (c2 _ ⟨v, h2, c3 (fun u => v = u ∧ K u w) ⟨rfl, hK⟩⟩)⟩
  case eqG op t x y =>
    obtain ⟨a, h1, c1⟩ := rdK_char h
    obtain ⟨b, ⟨r, h2, h3⟩, c2⟩ := rdK_char h1
    exact ⟨_, h3, fun _ K hK => c1 _ (c2 _ ⟨r, h2, hK⟩)⟩
theorem denI_take {i : I} {ty : Ty} {e : Env} {w : World} {K : Value → World → Prop} (hp : (pureI i || readI i) = true) (h : denI P Z i ty e w K) :
    ∃ v, K v w ∧ (denI P noPan i ty e w fun u w' => u = v ∧ w' = w) ∧ (readI i = false → Free P i ty e v) := by
  cases h1 : pureI i
  · cases h2 : readI i
    · simp [h1, h2] at hp
    · obtain ⟨v, k, c⟩ := denI_read h2 h
      exact ⟨v, k, c _ _ ⟨rfl, rfl⟩, fun h => by cases h⟩
  · obtain ⟨v, k, c⟩ := denI_pure h1 h
    exact ⟨v, k, c _ _ _ ⟨rfl, rfl⟩, fun _ => c⟩
end
end Go.Proofs.YtjkbjppopdfggaaDoor.Den
