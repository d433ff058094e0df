/-
  PROVED HERE: ProofCodes: proofs as bytes and back, any proof and any bytes.
  Own work over the kit. No macro, syntax, notation, axiom.
-/
import Derived.Test.YtjkbjppopdfggaaCodesL2
import Derived.Test.YtjkbjppopdfggaaDenRow2
import Derived.Stop.LaidErr
namespace Go.Proofs.Ytjkbjppopdfggaa.CodesCard
open Go Den Fn Lib Codes
open Go.ChangeShapes Go.WideShapes Go.ChangeAt Go.RowKit

theorem own : ownKnob Try.prog.godebug = none := by kernel_rfl
theorem laidOk : laidOutB Try.prog = true := by kernel_rfl
theorem uBool : Try.prog.underlying 4 = some .bool := by kernel_rfl
theorem uBytes : Try.prog.underlying 29 = some (.slice 5) := by kernel_rfl
theorem uByte : Try.prog.underlying 5 = some (.int .u8) := by kernel_rfl
theorem cByte : Try.prog.cellsOf 5 = 1 := by kernel_rfl
theorem bytesOf8 : Try.prog.bytesOf 5 = 1 := by kernel_rfl
theorem pfShape : shT Try.prog 6 28 = some ([.sl (.int .i64 :: (List.replicate 32 (.int .u8) ++ [])), .bool, .int .i64, .int .i64, .int .i64]) := by kernel_rfl
theorem pfAgg : (match Try.prog.underlying 28 with | some (.struct _) => true | some (.array _ _) => true | _ => false) = true := by kernel_rfl
theorem i64_of {x : Int} (h : (Lit.int .i64 x).wf = true) : I64 x := i64_wf.1 h
theorem byte_of' {x : Int} (h : (Lit.int .u8 x).wf = true) : 0 ≤ x ∧ x < 256 := by
  simp [Lit.wf, IntKind.min, IntKind.max, IntKind.signed, IntKind.bits] at h
  omega
theorem pf_open {W : World} {d : Nat} {cs : List Value} (h : RepR W d [.sl (.int .i64 :: (List.replicate 32 (.int .u8) ++ [])), .bool, .int .i64, .int .i64, .int .i64] cs) :
    ∃ (p : Pf) (a : Option Addr) (n c : Nat), cs = pfC a n c p ∧ PfAt W a n c p := by
  obtain ⟨v1, cs, rfl, h1, h⟩ := h.cons
  obtain ⟨v2, cs, rfl, h2, h⟩ := h.cons
  obtain ⟨v3, cs, rfl, h3, h⟩ := h.cons
  obtain ⟨v4, cs, rfl, h4, h⟩ := h.cons
  obtain ⟨v5, cs, rfl, h5, h⟩ := h.cons
  obtain rfl := h.nil
  obtain ⟨d', a, n, c, rs, rfl, rfl, hn, _, hr, hrs⟩ := h1.sl
  obtain ⟨lf, rfl⟩ := h2.bool
  obtain ⟨t, rfl, ht⟩ := h3.int
  obtain ⟨r, rfl, hr'⟩ := h4.int
  obtain ⟨v, rfl, hv⟩ := h5.int
  have hall : ∀ rs : List (List Value), (∀ r ∈ rs, RepR W d' (.int .i64 :: (List.replicate 32 (.int .u8) ++ [])) r) → ∃ fs : List Fk, (∀ f ∈ fs, f.ok) ∧ rs.flatten = rows fkC fs := by
    intro rs
    induction rs with
    | nil => intro _; exact ⟨[], by simp, rfl⟩
    | cons r rs ih =>
      intro h
      obtain ⟨fs, h1, h2⟩ := ih fun x hx => h x (by simp [hx])
      obtain ⟨u, us, rfl, g1, g2⟩ := (h r (by simp)).cons
      obtain ⟨bit, rfl, hb⟩ := g1.int
      obtain ⟨l, us', rfl, hl, hw, g3⟩ := RepL.ints g2
      obtain rfl := g3.nil
      refine ⟨⟨bit, l⟩ :: fs, fun f hf => ?_, ?_⟩
      · rcases List.mem_cons.1 hf with rfl | hf
        · exact ⟨i64_of hb, hl, fun x hx => byte_of' (hw x hx)⟩
        · exact h1 f hf
      · rw [List.flatten_cons, rows_cons, h2]
        simp
  obtain ⟨fs, hf, hfl⟩ := hall rs hrs
  refine ⟨⟨fs, lf, t, r, v⟩, a, n, c, rfl, ⟨⟨hf, i64_of ht, i64_of hr', i64_of hv⟩, ?_⟩⟩
  rw [hfl] at hr
  simpa using hr

theorem params : Try.f3.params = #[28, 29] := by kernel_rfl
set_option maxRecDepth 100000 in
theorem contract (H : Type) (enc : TypeId × Value → H) (W : World) (base : Nat) (args : Array Value) (ds gs : List (DataW H)) (before : List MemPlace)
    (hval : ∀ (j : Nat) t v, Try.f3.params[j]? = some t → args[j]? = some v → Value.okWide Try.prog W .any base t v)
    (hW : DataW.Whole enc Try.prog Try.f3.params.toList Rows.proofCodesSpec.vars false W args.toList ds gs before)
    (hw : (DataW.weightsEach Try.prog (Try.f3.params.toList ++ []) (ds ++ gs)).all (· ≤ reachBytes) = true) :
    Calls Try.prog 3 args W fun e W' => ∃ v, e = .returned v ∧ Rows.proofCodesSpec.post enc Try.prog Try.f3 false true false false W args v W' := by
  have hW' := hW
  obtain ⟨p, q, hA0, hV, rfl, hfz, hnd⟩ := hW
  have hA : DataW.TrodAll enc Try.prog W 0 (fun _ => true) true Try.f3.params.toList args.toList ds p := hA0
  rw [params] at hA hval hw
  obtain ⟨v0, vs0, d0, ds0, p0, q0, hargs, rfl, rfl, h0, r0⟩ := trodAll_cons hA
  obtain ⟨v1, vs1, d1, ds1, p1, q1, rfl, rfl, rfl, h1, r1⟩ := trodAll_cons r0
  obtain ⟨rfl, rfl, rfl⟩ := trodAll_nil r1
  obtain rfl : args = #[v0, v1] := by cases args; simp_all
  obtain ⟨rfl, rfl⟩ := trodVars_none hV
  obtain ⟨cs, rfl, hF⟩ := open_aggR pfShape pfAgg (hval 0 28 v0 rfl rfl) h0
  obtain ⟨pf, pa, pn, pc, rfl, hp⟩ := pf_open hF
  obtain ⟨a, n, c, bs, rfl, hr, hB, hlen, hd⟩ := open_bytes uBytes uByte cByte (hval 1 29 v1 rfl rfl) h1
  have hN : n ≤ 140737488351232 := by
    have hn := u8_len hr
    rcases hd with ⟨_, rfl, _⟩ | ⟨sp, rfl⟩
    · simp at hn; omega
    · simp only [List.append_nil, DataW.weightsEach, DataW.weights, uBytes, bytesOf8, List.all_append, List.all_cons, Bool.and_eq_true, decide_eq_true_eq, reachBytes] at hw
      have h1 := hw.2.1
      simp [lits] at h1
      omega
  refine (law_c W pf pa pn pc hp bs a n c hr hB hN).mono fun e W' ⟨he, hb⟩ => ?_
  subst he
  exact ⟨_, rfl, post_true laidOk (by rw [params]; intro t ht; simp at ht; rcases ht with rfl | rfl <;> exact ⟨by kernel_rfl, of_decide_eq_true (by kernel_rfl)⟩) uBool (by kernel_rfl) hW' rfl ⟨rfl, rfl, rfl⟩ hb⟩

noncomputable abbrev arg : Value := .agg zP.toArray
noncomputable abbrev aWorld (os : Os) : World := World.holding Try.prog os ⟨#[], #[], []⟩
theorem laid_met (os : Os) : laidMet Try.prog Rows.proofCodesRow.laid ((aWorld os).forCall (fun _ _ => 0) ⟨#[], #[arg, .slice none 0 0], []⟩).memory :=
  laidMet_of_run' 8 (by kernel_rfl) (by kernel_rfl)
def zeroD {H : Type} : DataW H := .agg [.nil, .lit (.bool false), .agg [.agg [.lit (.int .i64 0), .lit (.int .i64 0)], .lit (.int .i64 0)]]
theorem reads (os : Os) {H : Type} (enc : TypeId × Value → H) : ∃ places, DataW.whole enc Try.prog ((aWorld os).forCall (fun _ _ => 0) ⟨#[], #[arg, .slice none 0 0], []⟩).memory Try.f3.params.toList Rows.proofCodesSpec.vars false #[arg, .slice none 0 0].toList 8 = some ([zeroD, .nil], [], places) :=
  ⟨[], by kernel_rfl⟩

set_option maxRecDepth 100000 in
theorem lifted (os : Os) (started : os.Started) (H : Type) (enc : TypeId × Value → H) (F : Stop.Interp) :
    ReturnsInHanded {} Try.checked os 3 .any ((OpenSpec.ofChange Rows.proofCodesSpec).preRow enc Try.prog Try.f3 Rows.proofCodesRow.domain false Rows.proofCodesRow.laid) (((OpenSpec.ofChange Rows.proofCodesSpec).at F).post enc Try.prog Try.f3 false true false false) := by
  obtain ⟨places, hx⟩ := reads os enc
  refine returnsInHanded_of_row (C := Try.checked) (s := OpenSpec.ofChange Rows.proofCodesSpec) own started (by kernel_rfl) Try.func3
    (witness_row_at (enc := enc) (C := Try.checked) false (aWorld os) #[arg, .slice none 0 0] rfl (by kernel_rfl) (by kernel_rfl) (by kernel_rfl)
      (OpenSpec.preRow_of_cond 8 hx (by kernel_rfl) (fun k hk => by cases hk) (by kernel_rfl) (laid_met os))) ?_
  intro W base args ds gs before hval hW _ _ hw hL _ _
  exact contract H enc W base args ds gs before hval hW hw

/-- ProofCodes. -/
theorem said : Rows.ProofCodesSaid :=
  OpenClaim.holds_of_cond 3 Try.f3 rfl rfl rfl rfl rfl rfl rfl ⟨rfl, rfl, rfl, rfl, rfl⟩ rfl rfl rfl rfl rfl (by kernel_rfl) Try.func3 (by kernel_rfl)
    (of_decide_eq_true (by kernel_rfl)) (by unfold Func.isWrapper; first | (rw [if_pos (by decide +kernel)]; kernel_rfl) | (rw [if_neg (by decide +kernel)]; exact ⟨rfl, rfl⟩))
    (fun os started H enc _ F => by rw [OpenClaim.pre_eq_preRow]; exact lifted os started H enc F)
end Go.Proofs.Ytjkbjppopdfggaa.CodesCard
