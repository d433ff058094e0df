/-
  PROVED HERE: MergeOneLog: one log, whatever the order of pieces; what Missing tells makes it whole.
  Own work over the kit. No macro, syntax, notation, axiom.
-/
import Derived.Test.YtjchneebdlncfaaMrgH
import Derived.Test.YtjchneebdlncfaaMrgOpen
namespace Go.Proofs.Ytjchneebdlncfaa.OneLogCard
open Go Den Fn Lib Mrg
open Go.ChangeShapes Go.WideShapes Go.ChangeAt Go.RowKit

theorem uInts : Try.prog.underlying 46 = some (.slice 3) := by kernel_rfl
theorem intsShape : shT Try.prog 6 46 = some [.sl [.int .i64]] := by kernel_rfl
theorem params : Try.f4.params = #[24, 46] := by kernel_rfl
set_option maxRecDepth 100000 in
theorem contract (H : Type) (enc : TypeId × Value → H) (W : World) (base : Nat) (args : Array Value) (ds gs : List (DataW H)) (before : List MemPlace)
    (hval : ∀ (j : Nat) t v, Try.f4.params[j]? = some t → args[j]? = some v → Value.okWide Try.prog W .any base t v)
    (hW : DataW.Whole enc Try.prog Try.f4.params.toList Rows.mergeOneLogSpec.vars false W args.toList ds gs before) :
    Calls Try.prog 4 args W fun e W' => ∃ v, e = .returned v ∧ Rows.mergeOneLogSpec.post enc Try.prog Try.f4 false true false false W args v W' := by
  have hW' := hW
  obtain ⟨p, q, hA0, hV, rfl, hfz, hnd⟩ := hW
  have hA : DataW.TrodAll enc Try.prog W 0 (fun _ => true) true Try.f4.params.toList args.toList ds p := hA0
  rw [params] at hA hval
  obtain ⟨v0, vs0, d0, ds0, p0, q0, hargs, rfl, rfl, h0, r0⟩ := trodAll_cons hA
  obtain ⟨v1, vs1, d1, ds1, p1, q1, rfl, rfl, rfl, h1, r1⟩ := trodAll_cons r0
  obtain ⟨rfl, rfl, rfl⟩ := trodAll_nil r1
  obtain rfl : args = #[v0, v1] := by cases args; simp_all
  obtain ⟨rfl, rfl⟩ := trodVars_none hV
  obtain ⟨cs, rfl, hF⟩ := open_aggR histShape histAgg (hval 0 24 v0 rfl rfl) h0
  obtain ⟨h, hh⟩ := hist_open hF
  obtain ⟨a, m, c, l, rfl, hr, hm, hl⟩ := ints_open (open_slR uInts intsShape (hval 1 46 v1 rfl rfl) h1)
  refine (oneLog_c W cs h hh l a m c hr hl hm).mono fun e W' ⟨he, hb⟩ => ?_
  subst he
  exact ⟨_, rfl, post_true laidOk (by rw [params]; intro t ht; simp at ht; rcases ht with rfl | rfl <;> exact ⟨by kernel_rfl, of_decide_eq_true (by kernel_rfl)⟩) uBool (by kernel_rfl) hW' rfl ⟨rfl, rfl, rfl⟩ hb⟩

noncomputable abbrev arg : Value := .agg [Value.int .i64 0, .int .i64 0, .slice none 0 0].toArray
noncomputable abbrev aWorld (os : Os) : World := World.holding Try.prog os ⟨#[], #[], []⟩
theorem laid_met (os : Os) : laidMet Try.prog Rows.mergeOneLogRow.laid ((aWorld os).forCall (fun _ _ => 0) ⟨#[], #[arg, .slice none 0 0], []⟩).memory :=
  laidMet_of_run' 8 (by kernel_rfl) (by kernel_rfl)
def zeroD {H : Type} : DataW H := .agg [.lit (.int .i64 0), .lit (.int .i64 0), .nil]
theorem reads (os : Os) {H : Type} (enc : TypeId × Value → H) : ∃ places, DataW.whole enc Try.prog ((aWorld os).forCall (fun _ _ => 0) ⟨#[], #[arg, .slice none 0 0], []⟩).memory Try.f4.params.toList Rows.mergeOneLogSpec.vars false #[arg, .slice none 0 0].toList 8 = some ([zeroD, .nil], [], places) :=
  ⟨[], by kernel_rfl⟩

set_option maxRecDepth 100000 in
theorem lifted (os : Os) (started : os.Started) (H : Type) (enc : TypeId × Value → H) (F : Stop.Interp) :
    ReturnsInHanded {} Try.checked os 4 .any ((OpenSpec.ofChange Rows.mergeOneLogSpec).preRow enc Try.prog Try.f4 Rows.mergeOneLogRow.domain false Rows.mergeOneLogRow.laid) (((OpenSpec.ofChange Rows.mergeOneLogSpec).at F).post enc Try.prog Try.f4 false true false false) := by
  obtain ⟨places, hx⟩ := reads os enc
  refine returnsInHanded_of_row (C := Try.checked) (s := OpenSpec.ofChange Rows.mergeOneLogSpec) own started (by kernel_rfl) Try.func4
    (witness_row_at (enc := enc) (C := Try.checked) false (aWorld os) #[arg, .slice none 0 0] rfl (by kernel_rfl) (by kernel_rfl) (by kernel_rfl)
      (OpenSpec.preRow_of_cond 8 hx (by kernel_rfl) (fun k hk => by cases hk) (by kernel_rfl) (laid_met os))) ?_
  intro W base args ds gs before hval hW _ _ _ _ _ _
  exact contract H enc W base args ds gs before hval hW

/-- MergeOneLog. -/
theorem said : Rows.MergeOneLogSaid :=
  OpenClaim.holds_of_cond 4 Try.f4 rfl rfl rfl rfl rfl rfl rfl ⟨rfl, rfl, rfl, rfl, rfl⟩ rfl rfl rfl rfl rfl (by kernel_rfl) Try.func4 (by kernel_rfl)
    (of_decide_eq_true (by kernel_rfl)) (by unfold Func.isWrapper; first | (rw [if_pos (by decide +kernel)]; kernel_rfl) | (rw [if_neg (by decide +kernel)]; exact ⟨rfl, rfl⟩))
    (fun os started H enc _ F => by rw [OpenClaim.pre_eq_preRow]; exact lifted os started H enc F)
end Go.Proofs.Ytjchneebdlncfaa.OneLogCard
