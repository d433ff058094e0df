/-
  PROVED HERE: the second form's card of ProofVerifies: Verify of any root, key and proof (of bulk at most 1048576).
  Own work over the kit. No macro, syntax, notation, axiom.
-/
import Derived.Test.YtjkbjppopdfggaaDoorCardKit
import Derived.Test.YtjkbjppopdfggaaDoorVerG
import Derived.Test.YtjkbjppopdfggaaDoorDenRow2
namespace Go.Proofs.YtjkbjppopdfggaaDoor.VerCard
open Go Den Fn Sha
open Go.ChangeShapes Go.WideShapes Go.ChangeAt Go.RowKit

theorem pfShape : shT Tryd.prog 6 43 = some ([.sl (.int .i64 :: (List.replicate 32 (.int .u8) ++ [])), .bool, .int .i64, .int .i64, .int .i64]) := by kernel_rfl
theorem pfAgg : (match Tryd.prog.underlying 43 with | some (.struct _) => true | some (.array _ _) => true | _ => false) = true := by kernel_rfl
theorem byte_of' {x : Int} (h : (Lit.int .u8 x).wf = true) : 0 ≤ x ∧ x < 256 := u8_wf.1 h
theorem pf_open {W : World} {d : Nat} {cs : List Value} (h : RepR W d [.sl (.int .i64 :: (List.replicate 32 (.int .u8) ++ [])), .bool, .int .i64, .int .i64, .int .i64] cs) :
    ∃ (p : Pf) (a : Option Addr) (n c : Nat), cs = pfC a n c p ∧ PfAt W a n c p := by
  obtain ⟨v1, cs, rfl, h1, h⟩ := h.cons
  obtain ⟨v2, cs, rfl, h2, h⟩ := h.cons
  obtain ⟨v3, cs, rfl, h3, h⟩ := h.cons
  obtain ⟨v4, cs, rfl, h4, h⟩ := h.cons
  obtain ⟨v5, cs, rfl, h5, h⟩ := h.cons
  obtain rfl := h.nil
  obtain ⟨d', a, n, c, rs, rfl, rfl, hn, _, hr, hrs⟩ := h1.sl
  obtain ⟨lf, rfl⟩ := h2.bool
  obtain ⟨t, rfl, ht⟩ := h3.int
  obtain ⟨r, rfl, hr'⟩ := h4.int
  obtain ⟨v, rfl, hv⟩ := h5.int
  have hall : ∀ rs : List (List Value), (∀ r ∈ rs, RepR W d' (.int .i64 :: (List.replicate 32 (.int .u8) ++ [])) r) → ∃ fs : List Fk, (∀ f ∈ fs, f.ok) ∧ rs.flatten = rows fkC fs := by
    intro rs
    induction rs with
    | nil => intro _; exact ⟨[], by simp, rfl⟩
    | cons r rs ih =>
      intro h
      obtain ⟨fs, h1, h2⟩ := ih fun x hx => h x (by simp [hx])
      obtain ⟨u, us, rfl, g1, g2⟩ := (h r (by simp)).cons
      obtain ⟨bit, rfl, hb⟩ := g1.int
      obtain ⟨l, us', rfl, hl, hw, g3⟩ := RepL.ints g2
      obtain rfl := g3.nil
      refine ⟨⟨bit, l⟩ :: fs, fun f hf => ?_, ?_⟩
      · rcases List.mem_cons.1 hf with rfl | hf
        · exact ⟨i64_wf.1 hb, hl, fun x hx => byte_of' (hw x hx)⟩
        · exact h1 f hf
      · rw [List.flatten_cons, rows_cons, h2]
        simp
  obtain ⟨fs, hf, hfl⟩ := hall rs hrs
  refine ⟨⟨fs, lf, t, r, v⟩, a, n, c, rfl, ⟨⟨hf, i64_wf.1 ht, i64_wf.1 hr', i64_wf.1 hv⟩, ?_⟩⟩
  rw [hfl] at hr
  simpa using hr
/-! ### Bulk -/
theorem bulk_pos {H : Type} : ∀ d : DataW H, 1 ≤ Rows.uptoBulk d
  | .lit l => by cases l <;> simp [Rows.uptoBulk]
  | .nil => by simp [Rows.uptoBulk]
  | .ptr _ => by simp [Rows.uptoBulk]
  | .slice _ _ => by simp [Rows.uptoBulk]
  | .agg _ => by simp [Rows.uptoBulk]
  | .iface _ _ => by simp [Rows.uptoBulk]
  | .map _ => by simp [Rows.uptoBulk]
  | .held _ => by simp [Rows.uptoBulk]
theorem bulk_len {H : Type} : ∀ l : List (DataW H), l.length ≤ Rows.uptoBulkAll l
  | [] => Nat.zero_le _
  | d :: r => by
    have h1 := bulk_pos d
    have h2 := bulk_len r
    simp only [Rows.uptoBulkAll, List.length_cons]
    omega
theorem bulk_mem {H : Type} {d : DataW H} : ∀ {l : List (DataW H)}, d ∈ l → Rows.uptoBulk d ≤ Rows.uptoBulkAll l
  | x :: r, h => by
    simp only [Rows.uptoBulkAll]
    rcases List.mem_cons.1 h with rfl | h
    · omega
    · have := bulk_mem h
      omega
noncomputable def pfFields : Array Field := (match Tryd.prog.underlying 43 with | some (.struct fs) => fs | _ => #[])
theorem uProof : Tryd.prog.underlying 43 = some (.struct pfFields) := by kernel_rfl
theorem pfF0 : (pfFields[0]?).map (fun f => (f.offset, f.type)) = some (0, 41) := by kernel_rfl
theorem uForks : Tryd.prog.underlying 41 = some (.slice 51) := by kernel_rfl
theorem cForks : Tryd.prog.cellsOf 41 = 1 := by kernel_rfl
theorem forks_bulk {H : Type} {enc : TypeId × Value → H} {W : World} {a : Option Addr} {n c : Nat} {p : Pf} {x : DataW H} {ps : List MemPlace} (h : DataW.Trod enc Tryd.prog W 0 (fun _ => true) true 43 (.agg (pfC a n c p).toArray) x ps) : n ≤ Rows.uptoBulk x := by
  obtain ⟨fuel, h⟩ := h
  obtain ⟨xs, m, rfl, hx, _, hlen, hi⟩ := DataW.trod_struct uProof h
  simp only [Prod.mk.injEq] at hx
  obtain ⟨rfl, _⟩ := hx
  have hf0 := pfF0
  rw [Option.map_eq_some_iff] at hf0
  obtain ⟨f, hf, he⟩ := hf0
  simp only [Prod.mk.injEq] at he
  have h0 := hi 0 f hf
  rw [he.1, he.2, cForks] at h0
  have hlt : 0 < xs.length := by rw [hlen]; exact (Array.getElem?_eq_some_iff.1 hf).1
  rw [List.getElem?_eq_getElem hlt] at h0
  have hmem : (xs[0]).1 ∈ xs.map (·.1) := List.mem_map.2 ⟨_, List.getElem_mem hlt, rfl⟩
  have hb := bulk_mem hmem
  simp only [Rows.uptoBulk]
  rcases DataW.trod_slice uForks h0 with ⟨h1, h2⟩ | ⟨y, len, cap, elems, rest, _, _, h1, h2, _, _, _, h3, _⟩
  · have : n = 0 := by
      have h1 : [Value.slice a n c] = [.slice none 0 0] := h1
      simp only [List.cons.injEq, Value.slice.injEq, and_true] at h1
      exact h1.2.1
    omega
  · have h1 : [Value.slice a n c] = [.slice (some y) len cap] := h1
    simp only [List.cons.injEq, Value.slice.injEq, and_true] at h1
    have h4 : (xs[0]).1 = .slice (elems.map (·.1)) (rest.map (·.1)) := by rw [h2]
    rw [h4] at hb
    simp only [Rows.uptoBulk] at hb
    have := bulk_len (elems.map (·.1))
    rw [List.length_map] at this
    omega

theorem params : Tryd.f5.params = #[24, 29, 43] := by kernel_rfl
set_option maxRecDepth 100000 in
theorem contract (H : Type) (enc : TypeId × Value → H) (W : World) (base : Nat) (args : Array Value) (ds gs : List (DataW H)) (before : List MemPlace)
    (hval : ∀ (j : Nat) t v, Tryd.f5.params[j]? = some t → args[j]? = some v → Value.okWide Tryd.prog W .any base t v)
    (hW : DataW.Whole enc Tryd.prog Tryd.f5.params.toList Rows.proofVerifiesSpec.vars false W args.toList ds gs before)
    (hcond : Rows.uptoSmall H (ds ++ gs) = true) (hL : laidMetH Tryd.prog Rows.proofVerifiesUptoRow.laid W) :
    Calls Tryd.prog 5 args W fun e W' => ∃ v, e = .returned v ∧ Rows.proofVerifiesSpec.post enc Tryd.prog Tryd.f5 false true false false W args v W' := by
  have hW' := hW
  obtain ⟨p, q, hA0, hV, rfl, hfz, hnd⟩ := hW
  have hA : DataW.TrodAll enc Tryd.prog W 0 (fun _ => true) true Tryd.f5.params.toList args.toList ds p := hA0
  rw [params] at hA hval
  obtain ⟨v0, vs0, d0, ds0, p0, q0, hargs, rfl, rfl, h0, r0⟩ := trodAll_cons hA
  obtain ⟨v1, vs1, d1, ds1, p1, q1, rfl, rfl, rfl, h1, r1⟩ := trodAll_cons r0
  obtain ⟨v2, vs2, d2, ds2, p2, q2, rfl, rfl, rfl, h2, r2⟩ := trodAll_cons r1
  obtain ⟨rfl, rfl, rfl⟩ := trodAll_nil r2
  obtain rfl : args = #[v0, v1, v2] := by cases args; simp_all
  obtain ⟨rfl, rfl⟩ := trodVars_none hV
  obtain ⟨cs, rfl, hF⟩ := open_agg dig_flat dig_eqT (hval 0 24 v0 rfl rfl) h0
  obtain ⟨root, rfl, hrl, hrb⟩ := hF.of_ints
  obtain ⟨cs, rfl, hF⟩ := open_agg key_flat key_eqT (hval 1 29 v1 rfl rfl) h1
  obtain ⟨t, cs, rfl, ht, hF⟩ := hF.int1
  obtain ⟨r, cs, rfl, hr, hF⟩ := hF.int1
  obtain rfl := hF.nil
  obtain ⟨cs, rfl, hF⟩ := open_aggR pfShape pfAgg (hval 2 43 v2 rfl rfl) h2
  obtain ⟨pf, a, n, c, rfl, hp⟩ := pf_open hF
  have hN : n ≤ 1000000000000 := by
    have := forks_bulk h2
    simp [Rows.uptoSmall, Rows.uptoBulkAll] at hcond
    omega
  refine (verifies_law W root t r hrl (fun x hx => u8_wf.1 (hrb x hx)) (i64_wf.1 ht) (i64_wf.1 hr) pf a n c hp hN (laidTabs hL)).mono fun e W' ⟨he, hb⟩ => ?_
  subst he
  exact ⟨_, rfl, post_true laidOk (by rw [params]; intro t ht; simp at ht; rcases ht with rfl | rfl | rfl <;> exact ⟨by kernel_rfl, of_decide_eq_true (by kernel_rfl)⟩) uBool (by kernel_rfl) hW' rfl ⟨rfl, rfl, rfl⟩ hb⟩

noncomputable abbrev arg0 : Value := .agg (u8 z32).toArray
noncomputable abbrev arg1 : Value := .agg (keyC 0 0).toArray
noncomputable abbrev arg2 : Value := .agg #[.slice none 0 0, .bool false, .int .i64 0, .int .i64 0, .int .i64 0]
theorem laid_met (os : Os) : laidMet Tryd.prog Rows.proofVerifiesUptoRow.laid ((laidWorld os).forCall (fun _ _ => 0) ⟨#[], #[arg0, arg1, arg2], []⟩).memory :=
  laidMet_of_run' 8 (by kernel_rfl) (by kernel_rfl)
def zero0 {H : Type} : DataW H := .agg (List.replicate 32 (.lit (.int .u8 0)))
def zero1 {H : Type} : DataW H := .agg [.lit (.int .i64 0), .lit (.int .i64 0)]
def zero2 {H : Type} : DataW H := .agg [.nil, .lit (.bool false), .agg [.agg [.lit (.int .i64 0), .lit (.int .i64 0)], .lit (.int .i64 0)]]
theorem reads (os : Os) {H : Type} (enc : TypeId × Value → H) : ∃ places, DataW.whole enc Tryd.prog ((laidWorld os).forCall (fun _ _ => 0) ⟨#[], #[arg0, arg1, arg2], []⟩).memory Tryd.f5.params.toList Rows.proofVerifiesSpec.vars false #[arg0, arg1, arg2].toList 8 = some ([zero0, zero1, zero2], [], places) :=
  ⟨[], by kernel_rfl⟩

set_option maxRecDepth 100000 in
theorem liftedUpto (os : Os) (started : os.Started) (H : Type) (enc : TypeId × Value → H) (F : Stop.Interp) :
    ReturnsInHanded {} Tryd.checked os 5 .any ((Rows.OpenSpec.upto Rows.proofVerifiesSpec).preRow enc Tryd.prog Tryd.f5 Rows.proofVerifiesUptoRow.domain false Rows.proofVerifiesUptoRow.laid) (((Rows.OpenSpec.upto Rows.proofVerifiesSpec).at F).post enc Tryd.prog Tryd.f5 false true false false) := by
  obtain ⟨places, hx⟩ := reads os enc
  refine returnsInHanded_of_row (C := Tryd.checked) (s := Rows.OpenSpec.upto Rows.proofVerifiesSpec) own started (by kernel_rfl) Tryd.func5
    (witness_row_at (enc := enc) (C := Tryd.checked) false (laidWorld os) #[arg0, arg1, arg2] rfl (by kernel_rfl) (by kernel_rfl) (by kernel_rfl)
      (OpenSpec.preRow_of_cond 8 hx (by kernel_rfl) (fun k hk => by cases hk; kernel_rfl) (by kernel_rfl) (laid_met os))) ?_
  intro W base args ds gs before hval hW _ hcond _ hL _ _
  exact contract H enc W base args ds gs before hval hW (hcond _ rfl) hL

theorem saidUpto : Rows.ProofVerifiesUptoSaid :=
  OpenClaim.holds_of_cond 5 Tryd.f5 rfl rfl rfl rfl rfl rfl rfl ⟨rfl, rfl, rfl, rfl, rfl⟩ rfl rfl rfl rfl rfl (by kernel_rfl) Tryd.func5 (by kernel_rfl)
    (of_decide_eq_true (by kernel_rfl)) (by unfold Func.isWrapper; first | (rw [if_pos (by decide +kernel)]; kernel_rfl) | (rw [if_neg (by decide +kernel)]; exact ⟨rfl, rfl⟩))
    (fun os started H enc _ F => by rw [OpenClaim.pre_eq_preRow]; exact liftedUpto os started H enc F)

theorem plain (f : FuncId) (fn : Func) (hf : Tryd.pinned.checked.prog.funcNamed "prelude/preludelaw24.ProofVerifies" = some f) (hfn : Tryd.pinned.checked.prog.funcs[f]? = some fn) :
    false = Tryd.pinned.checked.prog.looks [] ∧ ∀ (j : Nat) t, fn.params[j]? = some t → Tryd.pinned.checked.prog.wantsStandIn t = false := by
  obtain rfl : f = 5 := Option.some.inj ((show Tryd.prog.funcNamed "prelude/preludelaw24.ProofVerifies" = some 5 by kernel_rfl).symm.trans hf) |>.symm
  obtain rfl : fn = Tryd.f5 := (Option.some.inj (Tryd.func5.symm.trans hfn)).symm
  refine ⟨by kernel_rfl, fun j t ht => ?_⟩
  rw [params] at ht
  have : t = 24 ∨ t = 29 ∨ t = 43 := by simpa using Array.mem_of_getElem? ht
  rcases this with rfl | rfl | rfl
  · exact (show Tryd.prog.wantsStandIn 24 = false by kernel_rfl)
  · exact (show Tryd.prog.wantsStandIn 29 = false by kernel_rfl)
  · exact (show Tryd.prog.wantsStandIn 43 = false by kernel_rfl)

/-- The second form's card of ProofVerifies. -/
theorem cardUpto : Rows.ProofVerifiesUptoCardSaid :=
  Claim7.holds_tied_plain_at .later [] _ _ _ _ saidUpto (fun _ h => by cases h) (by kernel_rfl) (fun _ h => by cases h) proofVerifiesUpto_row_tie rfl ⟨rfl, rfl⟩ (by kernel_rfl) rfl plain (by kernel_rfl)
end Go.Proofs.YtjkbjppopdfggaaDoor.VerCard
