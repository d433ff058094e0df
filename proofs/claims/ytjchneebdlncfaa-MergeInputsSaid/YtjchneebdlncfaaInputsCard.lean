/-
  PROVED HERE: MergeInputs: what inputs close comes out once, in its order; inputs begin anew from their pieces.
  Own work over the kit. No macro, syntax, notation, axiom.
-/
import Derived.Test.YtjchneebdlncfaaMrgJ
import Derived.Test.YtjchneebdlncfaaMrgOpen
namespace Go.Proofs.Ytjchneebdlncfaa.InputsCard
open Go Den Fn Lib Mrg
open Go.ChangeShapes Go.WideShapes Go.ChangeAt Go.RowKit

theorem uBools : Try.prog.underlying 47 = some (.slice 4) := by kernel_rfl
theorem boolsShape : shT Try.prog 6 47 = some [.sl [.bool]] := by kernel_rfl
theorem bools_rows {W : World} {d : Nat} : ∀ {rs : List (List Value)}, (∀ r ∈ rs, RepR W d [.bool] r) → ∃ l : List Bool, rs.flatten = l.map Value.bool
  | [], _ => ⟨[], rfl⟩
  | r :: rs, h => by
    obtain ⟨l, h1⟩ := bools_rows fun x hx => h x (List.mem_cons_of_mem _ hx)
    obtain ⟨v, vs, rfl, g1, g2⟩ := (h r (by simp)).cons
    obtain rfl := g2.nil
    obtain ⟨b, rfl⟩ := g1.bool
    exact ⟨b :: l, by rw [List.flatten_cons, h1]; rfl⟩
/-- A row of marks. -/
theorem bools_open {W : World} {d : Nat} {v : Value} (h : RepV W d (.sl [.bool]) v) : ∃ (a : Option Addr) (n c : Nat) (l : List Bool), v = .slice a n c ∧ RSl W 1 a n c (l.map Value.bool) ∧ n ≤ 9223372036854775807 := by
  obtain ⟨d', a, n, c, rs, rfl, rfl, hn, hc, hr, hrs⟩ := h.sl
  obtain ⟨l, h1⟩ := bools_rows hrs
  rw [h1] at hr
  have := maxLen_le
  have := hr.cap
  exact ⟨a, n, c, l, rfl, hr, by omega⟩
theorem params : Try.f5.params = #[24, 47] := by kernel_rfl
set_option maxRecDepth 100000 in
theorem contract (H : Type) (enc : TypeId × Value → H) (W : World) (base : Nat) (args : Array Value) (ds gs : List (DataW H)) (before : List MemPlace)
    (hval : ∀ (j : Nat) t v, Try.f5.params[j]? = some t → args[j]? = some v → Value.okWide Try.prog W .any base t v)
    (hW : DataW.Whole enc Try.prog Try.f5.params.toList Rows.mergeInputsSpec.vars false W args.toList ds gs before) :
    Calls Try.prog 5 args W fun e W' => ∃ v, e = .returned v ∧ Rows.mergeInputsSpec.post enc Try.prog Try.f5 false true false false W args v W' := by
  have hW' := hW
  obtain ⟨p, q, hA0, hV, rfl, hfz, hnd⟩ := hW
  have hA : DataW.TrodAll enc Try.prog W 0 (fun _ => true) true Try.f5.params.toList args.toList ds p := hA0
  rw [params] at hA hval
  obtain ⟨v0, vs0, d0, ds0, p0, q0, hargs, rfl, rfl, h0, r0⟩ := trodAll_cons hA
  obtain ⟨v1, vs1, d1, ds1, p1, q1, rfl, rfl, rfl, h1, r1⟩ := trodAll_cons r0
  obtain ⟨rfl, rfl, rfl⟩ := trodAll_nil r1
  obtain rfl : args = #[v0, v1] := by cases args; simp_all
  obtain ⟨rfl, rfl⟩ := trodVars_none hV
  obtain ⟨cs, rfl, hF⟩ := open_aggR histShape histAgg (hval 0 24 v0 rfl rfl) h0
  obtain ⟨h, hh⟩ := hist_open hF
  obtain ⟨a, m, c, l, rfl, hr, hm⟩ := bools_open (open_slR uBools boolsShape (hval 1 47 v1 rfl rfl) h1)
  refine (inputs_law_c W cs h hh l a m c hr hm).mono fun e W' ⟨he, hb⟩ => ?_
  subst he
  exact ⟨_, rfl, post_true laidOk (by rw [params]; intro t ht; simp at ht; rcases ht with rfl | rfl <;> exact ⟨by kernel_rfl, of_decide_eq_true (by kernel_rfl)⟩) uBool (by kernel_rfl) hW' rfl ⟨rfl, rfl, rfl⟩ hb⟩

noncomputable abbrev arg : Value := .agg [Value.int .i64 0, .int .i64 0, .slice none 0 0].toArray
noncomputable abbrev aWorld (os : Os) : World := World.holding Try.prog os ⟨#[], #[], []⟩
theorem laid_met (os : Os) : laidMet Try.prog Rows.mergeInputsRow.laid ((aWorld os).forCall (fun _ _ => 0) ⟨#[], #[arg, .slice none 0 0], []⟩).memory :=
  laidMet_of_run' 8 (by kernel_rfl) (by kernel_rfl)
def zeroD {H : Type} : DataW H := .agg [.lit (.int .i64 0), .lit (.int .i64 0), .nil]
theorem reads (os : Os) {H : Type} (enc : TypeId × Value → H) : ∃ places, DataW.whole enc Try.prog ((aWorld os).forCall (fun _ _ => 0) ⟨#[], #[arg, .slice none 0 0], []⟩).memory Try.f5.params.toList Rows.mergeInputsSpec.vars false #[arg, .slice none 0 0].toList 8 = some ([zeroD, .nil], [], places) :=
  ⟨[], by kernel_rfl⟩

set_option maxRecDepth 100000 in
theorem lifted (os : Os) (started : os.Started) (H : Type) (enc : TypeId × Value → H) (F : Stop.Interp) :
    ReturnsInHanded {} Try.checked os 5 .any ((OpenSpec.ofChange Rows.mergeInputsSpec).preRow enc Try.prog Try.f5 Rows.mergeInputsRow.domain false Rows.mergeInputsRow.laid) (((OpenSpec.ofChange Rows.mergeInputsSpec).at F).post enc Try.prog Try.f5 false true false false) := by
  obtain ⟨places, hx⟩ := reads os enc
  refine returnsInHanded_of_row (C := Try.checked) (s := OpenSpec.ofChange Rows.mergeInputsSpec) own started (by kernel_rfl) Try.func5
    (witness_row_at (enc := enc) (C := Try.checked) false (aWorld os) #[arg, .slice none 0 0] rfl (by kernel_rfl) (by kernel_rfl) (by kernel_rfl)
      (OpenSpec.preRow_of_cond 8 hx (by kernel_rfl) (fun k hk => by cases hk) (by kernel_rfl) (laid_met os))) ?_
  intro W base args ds gs before hval hW _ _ _ _ _ _
  exact contract H enc W base args ds gs before hval hW

/-- MergeInputs. -/
theorem said : Rows.MergeInputsSaid :=
  OpenClaim.holds_of_cond 5 Try.f5 rfl rfl rfl rfl rfl rfl rfl ⟨rfl, rfl, rfl, rfl, rfl⟩ rfl rfl rfl rfl rfl (by kernel_rfl) Try.func5 (by kernel_rfl)
    (of_decide_eq_true (by kernel_rfl)) (by unfold Func.isWrapper; first | (rw [if_pos (by decide +kernel)]; kernel_rfl) | (rw [if_neg (by decide +kernel)]; exact ⟨rfl, rfl⟩))
    (fun os started H enc _ F => by rw [OpenClaim.pre_eq_preRow]; exact lifted os started H enc F)
end Go.Proofs.Ytjchneebdlncfaa.InputsCard
