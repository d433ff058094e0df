/-
  PROVED HERE: the card of ProofTrue: a tree's own proof says what stands at a key; a forged proof that is taken and says something else shows two unlike texts with one digest.
  Own work. No macro, syntax, notation, axiom.
-/
import Derived.Test.YtjkbjppopdfggaaDoorTruPk13
import Derived.Test.YtjkbjppopdfggaaDoorTruPk16
namespace Go.Proofs.YtjkbjppopdfggaaDoor.TrueCard
open Go Den Fn Sha Tre
open Go.ChangeShapes Go.WideShapes Go.ChangeAt Go.RowKit
theorem pfShape : shT Tryd.prog 6 43 = some ([.sl (.int .i64 :: (List.replicate 32 (.int .u8) ++ [])), .bool, .int .i64, .int .i64, .int .i64]) := by kernel_rfl
theorem pfAgg : (match Tryd.prog.underlying 43 with | some (.struct _) => true | some (.array _ _) => true | _ => false) = true := by kernel_rfl
theorem byte_of' {x : Int} (h : (Lit.int .u8 x).wf = true) : 0 ≤ x ∧ x < 256 := u8_wf.1 h
theorem pf_open {W : World} {d : Nat} {cs : List Value} (h : RepR W d [.sl (.int .i64 :: (List.replicate 32 (.int .u8) ++ [])), .bool, .int .i64, .int .i64, .int .i64] cs) :
    ∃ (p : Pf) (a : Option Addr) (n c : Nat), cs = pfC a n c p ∧ PfAt W a n c p ∧ n ≤ 9223372036854775807 := by
  obtain ⟨v1, cs, rfl, h1, h⟩ := h.cons
  obtain ⟨v2, cs, rfl, h2, h⟩ := h.cons
  obtain ⟨v3, cs, rfl, h3, h⟩ := h.cons
  obtain ⟨v4, cs, rfl, h4, h⟩ := h.cons
  obtain ⟨v5, cs, rfl, h5, h⟩ := h.cons
  obtain rfl := h.nil
  obtain ⟨d', a, n, c, rs, rfl, rfl, hn, hc, hr, hrs⟩ := h1.sl
  obtain ⟨lf, rfl⟩ := h2.bool
  obtain ⟨t, rfl, ht⟩ := h3.int
  obtain ⟨r, rfl, hr'⟩ := h4.int
  obtain ⟨v, rfl, hv⟩ := h5.int
  have hall : ∀ rs : List (List Value), (∀ r ∈ rs, RepR W d' (.int .i64 :: (List.replicate 32 (.int .u8) ++ [])) r) → ∃ fs : List Fk, (∀ f ∈ fs, f.ok) ∧ rs.flatten = rows fkC fs := by
    intro rs
    induction rs with
    | nil => intro _; exact ⟨[], by simp, rfl⟩
    | cons r rs ih =>
      intro h
      obtain ⟨fs, h1, h2⟩ := ih fun x hx => h x (by simp [hx])
      obtain ⟨u, us, rfl, g1, g2⟩ := (h r (by simp)).cons
      obtain ⟨bit, rfl, hb⟩ := g1.int
      obtain ⟨l, us', rfl, hl, hw, g3⟩ := RepL.ints g2
      obtain rfl := g3.nil
      refine ⟨⟨bit, l⟩ :: fs, fun f hf => ?_, ?_⟩
      · rcases List.mem_cons.1 hf with rfl | hf
        · exact ⟨i64_wf.1 hb, hl, fun x hx => byte_of' (hw x hx)⟩
        · exact h1 f hf
      · rw [List.flatten_cons, rows_cons, h2]
        simp
  obtain ⟨fs, hf, hfl⟩ := hall rs hrs
  have hml : maxLen = 9223372036854775807 := by unfold maxLen; rfl
  have := hr.cap
  refine ⟨⟨fs, lf, t, r, v⟩, a, n, c, rfl, ⟨⟨hf, i64_wf.1 ht, i64_wf.1 hr', i64_wf.1 hv⟩, ?_⟩, by omega⟩
  rw [hfl] at hr
  simpa using hr
theorem params : Tryd.f8.params = #[55, 29, 43] := by kernel_rfl
set_option maxRecDepth 100000 in
theorem contract (H : Type) (enc : TypeId × Value → H) (W : World) (base : Nat) (args : Array Value) (ds gs : List (DataW H)) (before : List MemPlace)
    (hval : ∀ (j : Nat) t v, Tryd.f8.params[j]? = some t → args[j]? = some v → Value.okWide Tryd.prog W .any base t v)
    (hW : DataW.Whole enc Tryd.prog Tryd.f8.params.toList Rows.proofTrueSpec.vars false W args.toList ds gs before)
    (hL : laidMetH Tryd.prog Rows.proofTrueRow.laid W) :
    Calls Tryd.prog 8 args W fun e W' => ∃ v, e = .returned v ∧ Rows.proofTrueSpec.post enc Tryd.prog Tryd.f8 false true false false W args v W' := by
  have hW' := hW
  obtain ⟨p, q, hA0, hV, rfl, hfz, hnd⟩ := hW
  have hA : DataW.TrodAll enc Tryd.prog W 0 (fun _ => true) true Tryd.f8.params.toList args.toList ds p := hA0
  rw [params] at hA hval
  obtain ⟨v0, vs0, d0, ds0, p0, q0, hargs, rfl, rfl, h0, r0⟩ := trodAll_cons hA
  obtain ⟨v1, vs1, d1, ds1, p1, q1, rfl, rfl, rfl, h1, r1⟩ := trodAll_cons r0
  obtain ⟨v2, vs2, d2, ds2, p2, q2, rfl, rfl, rfl, h2, r2⟩ := trodAll_cons r1
  obtain ⟨rfl, rfl, rfl⟩ := trodAll_nil r2
  obtain rfl : args = #[v0, v1, v2] := by cases args; simp_all
  obtain ⟨rfl, rfl⟩ := trodVars_none hV
  obtain ⟨a, na, ca, la, rfl, hra, hla⟩ := rows_open (open_slR uRows rowsShape (hval 0 55 v0 rfl rfl) h0)
  obtain ⟨cs, rfl, hF⟩ := open_agg key_flat key_eqT (hval 1 29 v1 rfl rfl) h1
  obtain ⟨t, cs, rfl, ht, hF⟩ := hF.int1
  obtain ⟨r, cs, rfl, hr, hF⟩ := hF.int1
  obtain rfl := hF.nil
  obtain ⟨cs, rfl, hF⟩ := open_aggR pfShape pfAgg (hval 2 43 v2 rfl rfl) h2
  obtain ⟨pf, fa, fn, fc, rfl, hp, hfn⟩ := pf_open hF
  refine (true_law W la a na ca (t, r) pf fa fn fc hra hla ⟨i64_wf.1 ht, i64_wf.1 hr⟩ hp hfn (laidTabs hL)).mono fun e W' ⟨he, hb⟩ => ?_
  subst he
  exact ⟨_, rfl, post_true laidOk (by rw [params]; intro t ht; simp at ht; rcases ht with rfl | rfl | rfl <;> exact ⟨by kernel_rfl, of_decide_eq_true (by kernel_rfl)⟩) uBool (by kernel_rfl) hW' rfl ⟨rfl, rfl, rfl⟩ hb.below⟩

noncomputable abbrev arg1 : Value := .agg (keyC 0 0).toArray
noncomputable abbrev arg2 : Value := .agg #[.slice none 0 0, .bool false, .int .i64 0, .int .i64 0, .int .i64 0]
def zero1 {H : Type} : DataW H := .agg [.lit (.int .i64 0), .lit (.int .i64 0)]
def zero2 {H : Type} : DataW H := .agg [.nil, .lit (.bool false), .agg [.agg [.lit (.int .i64 0), .lit (.int .i64 0)], .lit (.int .i64 0)]]
theorem laid_met (os : Os) : laidMet Tryd.prog Rows.proofTrueRow.laid ((laidWorld os).forCall (fun _ _ => 0) ⟨#[], #[.slice none 0 0, arg1, arg2], []⟩).memory :=
  laidMet_of_run' 8 (by kernel_rfl) (by kernel_rfl)
theorem reads (os : Os) {H : Type} (enc : TypeId × Value → H) : ∃ places, DataW.whole enc Tryd.prog ((laidWorld os).forCall (fun _ _ => 0) ⟨#[], #[.slice none 0 0, arg1, arg2], []⟩).memory Tryd.f8.params.toList Rows.proofTrueSpec.vars false #[Value.slice none 0 0, arg1, arg2].toList 8 = some ([.nil, zero1, zero2], [], places) :=
  ⟨[], by kernel_rfl⟩

set_option maxRecDepth 100000 in
theorem lifted (os : Os) (started : os.Started) (H : Type) (enc : TypeId × Value → H) (F : Stop.Interp) :
    ReturnsInHanded {} Tryd.checked os 8 .any ((OpenSpec.ofChange Rows.proofTrueSpec).preRow enc Tryd.prog Tryd.f8 Rows.proofTrueRow.domain false Rows.proofTrueRow.laid) (((OpenSpec.ofChange Rows.proofTrueSpec).at F).post enc Tryd.prog Tryd.f8 false true false false) := by
  obtain ⟨places, hx⟩ := reads os enc
  refine returnsInHanded_of_row (C := Tryd.checked) (s := OpenSpec.ofChange Rows.proofTrueSpec) own started (by kernel_rfl) Tryd.func8
    (witness_row_at (enc := enc) (C := Tryd.checked) false (laidWorld os) #[.slice none 0 0, arg1, arg2] rfl (by kernel_rfl) (by kernel_rfl) (by kernel_rfl)
      (OpenSpec.preRow_of_cond 8 hx (by kernel_rfl) (fun k hk => by cases hk) (by kernel_rfl) (laid_met os))) ?_
  intro W base args ds gs before hval hW _ _ _ hL _ _
  exact contract H enc W base args ds gs before hval hW hL

theorem said : Rows.ProofTrueSaid :=
  OpenClaim.holds_of_cond 8 Tryd.f8 rfl rfl rfl rfl rfl rfl rfl ⟨rfl, rfl, rfl, rfl, rfl⟩ rfl rfl rfl rfl rfl (by kernel_rfl) Tryd.func8 (by kernel_rfl)
    (of_decide_eq_true (by kernel_rfl)) (by unfold Func.isWrapper; first | (rw [if_pos (by decide +kernel)]; kernel_rfl) | (rw [if_neg (by decide +kernel)]; exact ⟨rfl, rfl⟩))
    (fun os started H enc _ F => by rw [OpenClaim.pre_eq_preRow]; exact lifted os started H enc F)

theorem plain (f : FuncId) (fn : Func) (hf : Tryd.pinned.checked.prog.funcNamed "prelude/preludelaw24.ProofTrue" = some f) (hfn : Tryd.pinned.checked.prog.funcs[f]? = some fn) :
    false = Tryd.pinned.checked.prog.looks [] ∧ ∀ (j : Nat) t, fn.params[j]? = some t → Tryd.pinned.checked.prog.wantsStandIn t = false := by
  obtain rfl : f = 8 := Option.some.inj ((show Tryd.prog.funcNamed "prelude/preludelaw24.ProofTrue" = some 8 by kernel_rfl).symm.trans hf) |>.symm
  obtain rfl : fn = Tryd.f8 := (Option.some.inj (Tryd.func8.symm.trans hfn)).symm
  refine ⟨by kernel_rfl, fun j t ht => ?_⟩
  rw [params] at ht
  have : t = 55 ∨ t = 29 ∨ t = 43 := by simpa using Array.mem_of_getElem? ht
  rcases this with rfl | rfl | rfl
  · exact (show Tryd.prog.wantsStandIn 55 = false by kernel_rfl)
  · exact (show Tryd.prog.wantsStandIn 29 = false by kernel_rfl)
  · exact (show Tryd.prog.wantsStandIn 43 = false by kernel_rfl)

/-- The card of ProofTrue. -/
theorem card : Rows.ProofTrueCardSaid :=
  Claim7.holds_tied_plain_at .later [] _ _ _ _ said (fun _ h => by cases h) (by kernel_rfl) (fun _ h => by cases h) proofTrue_row_tie rfl ⟨rfl, rfl⟩ (by kernel_rfl) rfl plain (by kernel_rfl)
end Go.Proofs.YtjkbjppopdfggaaDoor.TrueCard
