/-
  PROVED HERE: the second form's card of ProofSums: the digest of any bytes.
  Own work over the kit. No macro, syntax, notation, axiom.
-/
import Derived.Test.YtjkbjppopdfggaaDoorCards
import Derived.Test.YtjkbjppopdfggaaDoorTie
import Derived.Test.YtjkbjppopdfggaaDoorDenRow
import Derived.Test.YtjkbjppopdfggaaDoorShaW7
import Derived.Stop.LaidErr
namespace Go.Proofs.YtjkbjppopdfggaaDoor.Sha
open Go Den Fn
open Go.ChangeShapes Go.WideShapes Go.ChangeAt Go.RowKit

theorem own : ownKnob Tryd.prog.godebug = none := by kernel_rfl
theorem gStart : Tryd.prog.globalNamed "prelude/proof.start" = some 0 := by kernel_rfl
theorem gStartT : (Tryd.prog.globals[0]?).map (·.type) = some 91 := by kernel_rfl
theorem gRounds : Tryd.prog.globalNamed "prelude/proof.rounds" = some 1 := by kernel_rfl
theorem gRoundsT : (Tryd.prog.globals[1]?).map (·.type) = some 96 := by kernel_rfl
theorem uStart : Tryd.prog.underlying 91 = some (.array 8 90) := by kernel_rfl
theorem uRounds : Tryd.prog.underlying 96 = some (.array 64 90) := by kernel_rfl
theorem uWord : Tryd.prog.underlying 90 = some (.int .u32) := by kernel_rfl
theorem cWord : Tryd.prog.cellsOf 90 = 1 := by kernel_rfl
theorem cStart : Tryd.prog.cellsOf 91 = 8 := by kernel_rfl
theorem cRounds : Tryd.prog.cellsOf 96 = 64 := by kernel_rfl
theorem uBytes : Tryd.prog.underlying 22 = some (.slice 5) := by kernel_rfl
theorem uByte : Tryd.prog.underlying 5 = some (.int .u8) := by kernel_rfl
theorem cByte : Tryd.prog.cellsOf 5 = 1 := by kernel_rfl
theorem cells_of_tab {W : World} {name : String} {zs : List Int} {g : Nat} (h : Lib.TabIs Tryd.prog W name .u32 zs) (hg : Tryd.prog.globalNamed name = some g) : Cells W ⟨g, 0, none⟩ (u32 zs) := by
  intro i v hv
  rw [List.getElem?_map, Option.map_eq_some_iff] at hv
  obtain ⟨x, hx, rfl⟩ := hv
  have hi := (List.getElem?_eq_some_iff.1 hx).1
  rw [add_mk, Nat.zero_add, h.cell hg i hi]
  simp [List.getD_eq_getElem?_getD, hx]
/-- What the row's list gives. -/
theorem starts {W : World} (h : laidMetH Tryd.prog Rows.proofSumsUptoRow.laid W) : Cells W ⟨0, 0, none⟩ (u32 Hs) :=
  cells_of_tab (Lib.tabIs_of_head (zs := Hs) gStart gStartT uStart uWord cWord cStart h) gStart
theorem tabs {W : World} (h : laidMetH Tryd.prog Rows.proofSumsUptoRow.laid W) : Cells W ⟨1, 0, none⟩ (u32 Ks) :=
  cells_of_tab (Lib.tabIs_of_head (zs := Ks) (rest := []) gRounds gRoundsT uRounds uWord cWord cRounds (laidMet.tail (x := ("prelude/proof.start", Rows.laid_prelude_proof_start)) h)) gRounds

set_option maxRecDepth 100000 in
theorem contract (H : Type) (enc : TypeId × Value → H) (W : World) (base : Nat) (args : Array Value) (ds gs : List (DataW H)) (before : List MemPlace)
    (hval : ∀ (j : Nat) t v, Tryd.f3.params[j]? = some t → args[j]? = some v → Value.okWide Tryd.prog W .any base t v)
    (hW : DataW.Whole enc Tryd.prog Tryd.f3.params.toList Rows.proofSumsSpec.vars false W args.toList ds gs before)
    (hcond : Rows.uptoSmall H (ds ++ gs) = true) (hL : laidMetH Tryd.prog Rows.proofSumsUptoRow.laid W) :
    Calls Tryd.prog 3 args W fun e W' => ∃ v, e = .returned v ∧ Rows.proofSumsSpec.post enc Tryd.prog Tryd.f3 false true false false W args v W' := by
  have hW' := hW
  obtain ⟨p, q, hA0, hV, rfl, hfz, hnd⟩ := hW
  have hA : DataW.TrodAll enc Tryd.prog W 0 (fun _ => true) true Tryd.f3.params.toList args.toList ds p := hA0
  have hp : Tryd.f3.params = #[22] := by kernel_rfl
  rw [hp] at hA hval
  obtain ⟨v0, vs0, d0, ds0, p0, q0, hargs, rfl, rfl, h0, r0⟩ := trodAll_cons hA
  obtain ⟨rfl, rfl, rfl⟩ := trodAll_nil r0
  obtain rfl : args = #[v0] := by cases args; simp_all
  obtain ⟨rfl, rfl⟩ := trodVars_none hV
  obtain ⟨a, n, c, bs, rfl, hr, hB, hlen, _⟩ := open_bytes uBytes uByte cByte (hval 0 22 v0 rfl rfl) h0
  have hN : n ≤ 1099511627776 := by
    have := u8_len hr
    simp [Rows.uptoSmall, Rows.uptoBulkAll] at hcond
    omega
  refine (law_c W bs a n c hr hB hN (tabs hL) (starts hL)).mono fun e W' ⟨he, hb⟩ => ?_
  subst he
  exact ⟨_, rfl, post_true (by kernel_rfl) (by rw [hp]; intro t ht; simp at ht; subst ht; exact ⟨by kernel_rfl, of_decide_eq_true (by kernel_rfl)⟩) (tb := 4) (by kernel_rfl) (by kernel_rfl) hW' rfl ⟨rfl, rfl, rfl⟩ hb⟩

def lay (cs : Array Value) : Obj → Obj
  | .cells _ t frozen => .cells cs t frozen
  | o => o
noncomputable def laidWorld (os : Os) : World :=
  { World.holding Tryd.prog os ⟨#[], #[], []⟩ with heap := ((World.holding Tryd.prog os ⟨#[], #[], []⟩).heap.modify 0 (lay (u32 Hs).toArray)).modify 1 (lay (u32 Ks).toArray) }
theorem laid_met (os : Os) : laidMet Tryd.prog Rows.proofSumsUptoRow.laid ((laidWorld os).forCall (fun _ _ => 0) ⟨#[], #[.slice none 0 0], []⟩).memory :=
  laidMet_of_run' 8 (by kernel_rfl) (by kernel_rfl)
theorem reads (os : Os) {H : Type} (enc : TypeId × Value → H) : ∃ places, DataW.whole enc Tryd.prog ((laidWorld os).forCall (fun _ _ => 0) ⟨#[], #[.slice none 0 0], []⟩).memory Tryd.f3.params.toList Rows.proofSumsSpec.vars false #[Value.slice none 0 0].toList 8 = some ([.nil], [], places) :=
  ⟨[], by kernel_rfl⟩

set_option maxRecDepth 100000 in
theorem liftedUpto (os : Os) (started : os.Started) (H : Type) (enc : TypeId × Value → H) (F : Stop.Interp) :
    ReturnsInHanded {} Tryd.checked os 3 .any ((Rows.OpenSpec.upto Rows.proofSumsSpec).preRow enc Tryd.prog Tryd.f3 Rows.proofSumsUptoRow.domain false Rows.proofSumsUptoRow.laid) (((Rows.OpenSpec.upto Rows.proofSumsSpec).at F).post enc Tryd.prog Tryd.f3 false true false false) := by
  obtain ⟨places, hx⟩ := reads os enc
  refine returnsInHanded_of_row (C := Tryd.checked) (s := Rows.OpenSpec.upto Rows.proofSumsSpec) own started (by kernel_rfl) Tryd.func3
    (witness_row_at (enc := enc) (C := Tryd.checked) false (laidWorld os) #[.slice none 0 0] rfl (by kernel_rfl) (by kernel_rfl) (by kernel_rfl)
      (OpenSpec.preRow_of_cond 8 hx (by kernel_rfl) (fun k hk => by cases hk; kernel_rfl) (by kernel_rfl) (laid_met os))) ?_
  intro W base args ds gs before hval hW _ hcond _ hL _ _
  exact contract H enc W base args ds gs before hval hW (hcond _ rfl) hL

theorem saidUpto : Rows.ProofSumsUptoSaid :=
  OpenClaim.holds_of_cond 3 Tryd.f3 rfl rfl rfl rfl rfl rfl rfl ⟨rfl, rfl, rfl, rfl, rfl⟩ rfl rfl rfl rfl rfl (by kernel_rfl) Tryd.func3 (by kernel_rfl)
    (of_decide_eq_true (by kernel_rfl)) (by unfold Func.isWrapper; first | (rw [if_pos (by decide +kernel)]; kernel_rfl) | (rw [if_neg (by decide +kernel)]; exact ⟨rfl, rfl⟩))
    (fun os started H enc _ F => by rw [OpenClaim.pre_eq_preRow]; exact liftedUpto os started H enc F)

theorem plain (f : FuncId) (fn : Func) (hf : Tryd.pinned.checked.prog.funcNamed "prelude/preludelaw24.ProofSums" = some f) (hfn : Tryd.pinned.checked.prog.funcs[f]? = some fn) :
    false = Tryd.pinned.checked.prog.looks [] ∧ ∀ (j : Nat) t, fn.params[j]? = some t → Tryd.pinned.checked.prog.wantsStandIn t = false := by
  obtain rfl : f = 3 := Option.some.inj ((show Tryd.prog.funcNamed "prelude/preludelaw24.ProofSums" = some 3 by kernel_rfl).symm.trans hf) |>.symm
  obtain rfl : fn = Tryd.f3 := (Option.some.inj (Tryd.func3.symm.trans hfn)).symm
  refine ⟨by kernel_rfl, fun j t ht => ?_⟩
  have hp : Tryd.f3.params = #[22] := by kernel_rfl
  rw [hp] at ht
  obtain rfl : t = 22 := by simpa using Array.mem_of_getElem? ht
  exact (show Tryd.prog.wantsStandIn 22 = false by kernel_rfl)

/-- The second form's card of ProofSums. -/
theorem cardUpto : Rows.ProofSumsUptoCardSaid :=
  Claim7.holds_tied_plain_at .later [] _ _ _ _ saidUpto (fun _ h => by cases h) (by kernel_rfl) (fun _ h => by cases h) proofSumsUpto_row_tie rfl ⟨rfl, rfl⟩ (by kernel_rfl) rfl plain (by kernel_rfl)
end Go.Proofs.YtjkbjppopdfggaaDoor.Sha
