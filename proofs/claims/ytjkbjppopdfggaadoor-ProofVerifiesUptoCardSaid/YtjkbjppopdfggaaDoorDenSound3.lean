/-
  'denI' IS RIGHT, operation by operation.
  Own work. No macro, syntax, notation, axiom.
-/
import Derived.Test.YtjkbjppopdfggaaDoorDenSound2
import Derived.Great.BuildSlice
namespace Go.Proofs.YtjkbjppopdfggaaDoor.Den
open Go

section
variable {P : Program} {Z : Pan} {pn : List Nat} {w : World} {K : Value → World → Prop}
theorem fill_eq (p : Place) : ∀ (vs : List (Nat × Value)) (l cs : List Value), fillL p l vs = some cs → Instr.fill p.at l.toArray vs = some cs.toArray
  | [], l, cs, h => by simp only [fillL, Option.some.injEq] at h; subst h; rfl
  | (i, v) :: r, l, cs, h => by
    unfold fillL at h
    unfold Instr.fill
    cases hp : p.at i with
    | none => rw [hp] at h; cases h
    | some q =>
      obtain ⟨off, size⟩ := q
      rw [hp] at h
      simp only at h ⊢
      split at h
      · rename_i hc
        have hcond : ¬ ((v.cells.size ≠ size || decide (off + v.cells.size > l.toArray.size)) = true) := by
          simp; exact ⟨hc.1, by omega⟩
        rw [if_neg hcond]
        have hfold : (v.cells.zipIdx.foldl (fun cs (x : Value × Nat) => cs.setIfInBounds (off + x.2) x.1) l.toArray) = (splice l off v.cells.toList).toArray := by
          have hlen : off + v.cells.toList.length ≤ l.length := by simp; omega
          rw [← Array.foldl_toList, Array.toList_zipIdx]
          generalize v.cells.toList = c at hlen
          have key : ∀ (c : List Value) (k : Nat) (l : List Value), off + k + c.length ≤ l.length →
              ((c.zipIdx k).foldl (fun cs (x : Value × Nat) => cs.setIfInBounds (off + x.2) x.1) l.toArray) = (splice l (off + k) c).toArray := by
            intro c
            induction c with
            | nil => intro k l _; simp [splice]
            | cons u c ih =>
              intro k l hl
              simp only [List.zipIdx_cons, List.foldl_cons, List.setIfInBounds_toArray]
              rw [ih (k + 1) _ (by simp at hl ⊢; omega)]
              congr 1
              simp only [splice, List.length_cons]
              simp at hl
              apply List.ext_getElem?
              intro j
              simp only [List.getElem?_append, List.getElem?_take, List.getElem?_drop, List.getElem?_set, List.length_take, List.length_set, List.getElem?_cons]
              rcases Nat.lt_trichotomy j (off + k) with h | h | h
              · have h1 : j < min (off + (k + 1)) l.length := by omega
                have h2 : j < min (off + k) l.length := by omega
                rw [if_pos h1, if_pos h2, if_pos (by omega), if_neg (by omega), if_pos h]
              · subst h
                have h1 : off + k < min (off + (k + 1)) l.length := by omega
                have h2 : ¬ off + k < min (off + k) l.length := by omega
                rw [if_pos h1, if_neg h2]
                simp [show off + k < l.length by omega, show off + k < off + (k + 1) by omega, show min (off + k) l.length = off + k by omega]
              · have h1 : ¬ j < min (off + (k + 1)) l.length := by omega
                have h2 : ¬ j < min (off + k) l.length := by omega
                rw [if_neg h1, if_neg h2, show min (off + (k + 1)) l.length = off + (k + 1) by omega, show min (off + k) l.length = off + k by omega]
                by_cases h3 : j - (off + (k + 1)) < c.length
                · rw [if_pos h3, if_pos (by simp; omega), if_neg (by omega)]
                  congr 1
                · rw [if_neg h3, if_neg (by omega), if_neg (by simp; omega)]
                  congr 1; simp; omega
          exact key c 0 l (by omega)
        rw [hfold]
        exact fill_eq p r _ _ h
      · cases h
theorem rd_getD {e : Env} {ρ : Operand → Value} (hρ : ∀ x v, rd e x = some v → ρ x = v) {x : Operand} (h : (rd e x).isSome = true) : ρ x = (rd e x).getD undef := by
  obtain ⟨v, hv⟩ := Option.isSome_iff_exists.1 h
  rw [hv]; exact hρ x v hv
theorem run_bnd {v : Option Value} {d top : Nat} {F : Nat → Prop} (h : bnd v d top F) :
    ∃ x, F x ∧ ((v = none ∧ x = d) ∨ ∃ u, v = some u ∧ ∀ code, (Instr.sliceBound u top code).run P w = .ok x w) := by
  unfold bnd at h
  split at h
  · exact ⟨_, h, .inl ⟨rfl, rfl⟩⟩
  · obtain ⟨h1, h2, h3⟩ := h
    exact ⟨_, h3, .inr ⟨_, rfl, fun code => by simp [Instr.sliceBound, asIntOf, h1, h2]⟩⟩
  · exact h.elim
theorem run_sliceBounds {isSlice : Bool} {n c : Nat} {l h m : Option Value} {F : Nat → Nat → Nat → Prop} (hm : m.isSome = true → h.isSome = true)
    (hb : bnd m c c fun m => bnd h n m fun h => bnd l 0 h fun l => F m h l) :
    ∃ m' h' l', F m' h' l' ∧ (Instr.sliceBounds isSlice n c l h m).run P w = .ok (l', h', m') w := by
  obtain ⟨m', hb1, c1⟩ := run_bnd (P := P) (w := w) hb
  obtain ⟨h', hb2, c2⟩ := run_bnd (P := P) (w := w) hb1
  obtain ⟨l', hb3, c3⟩ := run_bnd (P := P) (w := w) hb2
  refine ⟨m', h', l', hb3, ?_⟩
  clear hb hb1 hb2 hb3
  unfold Instr.sliceBounds
  rcases c1 with ⟨rfl, rfl⟩ | ⟨u1, rfl, r1⟩ <;> rcases c2 with ⟨rfl, rfl⟩ | ⟨u2, rfl, r2⟩ <;> rcases c3 with ⟨rfl, rfl⟩ | ⟨u3, rfl, r3⟩
  all_goals first | (exfalso; simp at hm; done) | skip
  all_goals simp [*, Result.andThen]

theorem equal_succ (t : TypeId) (x y : Value) : Op.equal t x y = Op.equalIn (9999 + 1) t x y := rfl
theorem run_equal_bool {t : TypeId} (h : P.underlying t = some .bool) (a b : Bool) : (Op.equal t (.bool a) (.bool b)).run P w = .ok (a == b) w := by
  rw [equal_succ, Op.equalIn, Sem.run_bind, run_underlying_some h]
  rfl
theorem run_equal_nil {t : TypeId} {d : TypeDesc} {y : Operand} {k : Nat} {v : Value} {b : Bool} (h : P.underlying t = some d) (hk : nilKind d y = some k) (hv : isNilK k v = some b) :
    ∃ u, y = .const u ∧ (Op.equal t v u).run P w = .ok b w ∧ (∀ op, binOp op t v u = binOp op t v u) ∧
      (∀ x, Sem.run P (eqGuard .eql t x y v u) w = .ok () w) ∧ (∀ x, Sem.run P (eqGuard .neq t x y v u) w = .ok () w) ∧
      binOp .eql t v u = (do pure (.bool (← Op.equal t v u))) ∧ binOp .neq t v u = (do pure (.bool (!(← Op.equal t v u)))) := by
  unfold nilKind at hk
  split at hk <;> simp only [Option.some.injEq, reduceCtorEq] at hk
  all_goals
    subst hk
    cases v <;> simp only [isNilK, Option.some.injEq, reduceCtorEq] at hv
    all_goals
      subst hv
      refine ⟨_, rfl, ?_, fun _ => rfl, fun _ => ?_, fun _ => ?_, ?_, ?_⟩
      · rw [equal_succ, Op.equalIn, Sem.run_bind, run_underlying_some h]
        first | rfl | (rename_i a _ _; cases a <;> rfl) | (rename_i a; cases a <;> rfl)
      · simp [eqGuard]
      · simp [eqGuard]
      · rfl
      · rfl
theorem trEq_sound {op : BinOp} {xt : TypeId} {x y : Operand} {j : I} {ty : Ty} {e : Env} {ρ : Operand → Value} {dst : Option Nat} {yt T : TypeId} {pos : String} {after : Array Edge} {guard : Option (Nat × Bool)}
    (hq : trEq P op xt x y = some j) (hρ : ∀ x v, rd e x = some v → ρ x = v) (hd : denI P Z j ty e w K) :
    RunsTo P Z (execOp ρ ⟨dst, .binOp op xt x y yt, T, pos, after, guard⟩) w K := by
  unfold trEq at hq
  split at hq
  · rename_i hop
    have hop : op = .eql ∨ op = .neq := by cases op <;> simp at hop ⊢
    split at hq
    · rename_i hu
      simp only [Option.some.injEq] at hq
      subst hq
      obtain ⟨u, h1, h2⟩ := rdK_spec hd
      obtain ⟨v, h3, h4⟩ := rdK_spec h2
      cases u <;> cases v <;> first | exact (show False from h4).elim | skip
      rename_i s t
      simp only [execOp, hρ x _ h1, hρ y _ h3]
      rcases hop with rfl | rfl
      · refine .same (v := .bool (s == t)) ?_ h4
        show Sem.run P (eqGuard .eql xt x y (.bool s) (.bool t) >>= fun _ => Op.equal xt (.bool s) (.bool t) >>= fun r => pure (Value.bool r)) w = _
        simp [eqGuard, run_equal_bool hu, Result.andThen]
      · refine .same (v := .bool (!(s == t))) ?_ h4
        show Sem.run P (eqGuard .neq xt x y (.bool s) (.bool t) >>= fun _ => Op.equal xt (.bool s) (.bool t) >>= fun r => pure (Value.bool (!r))) w = _
        simp [eqGuard, run_equal_bool hu, Result.andThen]
    · rename_i d hnb hu
      split at hq
      · rename_i k hk
        simp only [Option.some.injEq] at hq
        subst hq
        obtain ⟨u, h1, hq'⟩ := rdK_spec hd
        obtain ⟨b, h2, h3⟩ := nilQ_spec hq'
        obtain ⟨v, rfl, r1, -, g1, g2, b1, b2⟩ := run_equal_nil (w := w) hu hk h2
        simp only [execOp, hρ x _ h1, hρ (.const v) v rfl]
        rcases hop with rfl | rfl
        · refine .same (v := .bool b) ?_ h3
          simp [g1, b1, r1, Result.andThen]
        · refine .same (v := .bool (!b)) ?_ h3
          simp [g2, b2, r1, Result.andThen]
      · simp only [Option.some.injEq] at hq
        subst hq
        obtain ⟨u, h1, h2⟩ := rdK_spec hd
        obtain ⟨v, h3, r, h4, h5⟩ := rdK_spec h2
        simp only [execOp, hρ x u h1, hρ y v h3]
        exact .same h4 h5
    · cases hq
  · cases hq

theorem denI_sound {o : Oper} {i : I} {ty : Ty} {e : Env} {ρ : Operand → Value} (ht : trOp P pn o = some (i, ty)) (hρ : ∀ x v, rd e x = some v → ρ x = v) (hd : denI P Z i ty e w K) :
    RunsTo P Z (execOp ρ o) w K := by
  obtain ⟨dst, op, T, pos, after, guard⟩ := o
  have hrun : ∀ {i' : I} {ty' : Ty}, some (I.run op T, tyOf P T) = some (i', ty') → denI P Z i' ty' e w K → RunsTo P Z (execOp ρ ⟨dst, op, T, pos, after, guard⟩) w K := by
    intro i' ty' he hd
    simp only [Option.some.injEq, Prod.mk.injEq] at he
    obtain ⟨rfl, rfl⟩ := he
    obtain ⟨h1, h2, h3⟩ := hd
    have h4 : execOp ρ ⟨dst, op, T, pos, after, guard⟩ = execOp (fun x => (rd e x).getD undef) ⟨none, op, T, "", #[], none⟩ := by
      rw [show execOp ρ ⟨dst, op, T, pos, after, guard⟩ = execOp ρ ⟨none, op, T, "", #[], none⟩ by cases op <;> rfl]
      exact execOp_congr _ h2 fun x hx => rd_getD hρ (by
        rw [Array.all_eq_true'] at h1
        exact h1 x hx)
    rw [h4]
    unfold RunsTo at h3 ⊢
    split at h3
    · exact intro_spec h3
    · exact intro_spec h3
    · exact Calls.mono h3 fun _ _ h => orPan_mono h (fun _ h => h) fun ⟨v, a, b⟩ => ⟨v, a, intro_spec b⟩
    · exact RoundIn.mono h3 fun _ _ h => orPan_mono h (fun _ h => h) fun ⟨v, a, b⟩ => ⟨v, a, intro_spec b⟩
    · exact h3
    · exact h3.elim
  -- 'one some': the pair is read off
  have hsome : ∀ {i' : I} {ty' : Ty}, some (i', ty') = some (i, ty) → denI P Z i' ty' e w K := by
    intro i' ty' he
    simp only [Option.some.injEq, Prod.mk.injEq] at he
    obtain ⟨rfl, rfl⟩ := he
    exact hd
  cases op <;> simp only [trOp] at ht
  case move x =>
    obtain ⟨v, h1, h2⟩ := rdK_spec (hsome ht)
    simp [execOp, RunsTo, hρ x v h1, h2]
  case assign x =>
    obtain ⟨v, h1, h2⟩ := rdK_spec (hsome ht)
    simp [execOp, RunsTo, hρ x v h1, h2]
  case nilCheck x =>
    obtain ⟨v, h1, h2⟩ := rdK_spec (hsome ht)
    simp only [execOp, hρ x v h1]
    rcases ncK_spec h2 with ⟨a, rfl, h6⟩ | ⟨hp, h3, h4, h5⟩
    · simpa [RunsTo] using h6
    · cases v
      case pointer p => exact absurd rfl (hp p)
      case nilIface => cases h3
      case nilFunc => cases h3
      case func fn f c => cases fn <;> first | (exact absurd rfl (h4 _ _ _)) | (simpa [RunsTo] using h5)
      all_goals first | (cases h3; done) | (simpa [RunsTo] using h5)
  case pick c a b =>
    obtain ⟨v, h1, h2⟩ := rdK_spec (hsome ht)
    cases v <;> first | exact (show False from h2).elim | skip
    rename_i t
    cases t
    · obtain ⟨u, h3, h4⟩ := rdK_spec (show rdK e b fun v => K v w from h2)
      simp [execOp, RunsTo, hρ c _ h1, hρ b u h3, asBool, h4, Result.andThen]
    · obtain ⟨u, h3, h4⟩ := rdK_spec (show rdK e a fun v => K v w from h2)
      simp [execOp, RunsTo, hρ c _ h1, hρ a u h3, asBool, h4, Result.andThen]
  case binOp op xt x y yt =>
    have hbin : ∀ {ty'}, denI P Z (.bin op x y) ty' e w K → RunsTo P Z (execOp ρ ⟨dst, .binOp op xt x y yt, T, pos, after, guard⟩) w K := by
      intro ty' hd
      obtain ⟨u, h1, h2⟩ := rdK_spec (K := fun a => rdK e y fun b => denBin op a b fun v => K v w) hd
      obtain ⟨v, h3, h4⟩ := rdK_spec h2
      obtain ⟨r, h5, h6⟩ := denBin_sound (P := P) (w := w) (xt := xt) (x := x) (y := y) h4
      simp only [execOp, hρ x u h1, hρ y v h3]
      exact .same h6 h5
    split at ht
    · exact hbin (hsome ht)
    · exact hbin (hsome ht)
    · cases hq : trEq P op xt x y with
      | none => rw [hq] at ht; cases ht
      | some j =>
        rw [hq] at ht
        exact trEq_sound hq hρ (hsome ht)
  case unOp op ot x =>
    obtain ⟨u, h1, h2⟩ := rdK_spec (hsome ht)
    obtain ⟨v, h3, h4⟩ := denUn_sound (P := P) (w := w) h2
    simp only [execOp, hρ x u h1]
    exact .same h4 h3
  case convert src dst x =>
    split at ht
    · rename_i k1 k2 hs hd2
      obtain ⟨u, h1, h2⟩ := rdK_spec (hsome ht)
      cases u <;> first | exact (show False from h2).elim | skip
      simp only [execOp, hρ x _ h1]
      exact .same (by simp [convert, run_underlying_some hs, run_underlying_some hd2, Conv.intToInt, Result.andThen]) h2
    · obtain ⟨vs, h1, r, w', h4, h5⟩ := rdsK_spec (hsome ht)
      have h1 := h1 ρ hρ
      simp only [List.map_cons, List.map_nil] at h1
      subst h1
      simp only [execOp]
      exact .val ⟨r, w', h4, intro_spec h5⟩
  case alloc T' =>
    split at ht
    · rename_i hz
      obtain ⟨z, h1, h2⟩ := run_zero (w := w) hz
      have hd := hsome ht
      simp only [execOp]
      refine .val ⟨_, _, ?_, hd _ rfl⟩
      simp [Instr.alloc, h1, newVar, newRow, newObj, Sem.run, ← h2, Result.andThen]
    · exact hrun ht hd
  case box T' x =>
    obtain ⟨u, h1, h2⟩ := rdK_spec (hsome ht)
    simp only [execOp, hρ x u h1]
    refine .val ⟨_, _, ?_, h2 _ rfl⟩
    simp [Instr.box, newVar, newRow, newObj, Sem.run, Result.andThen]
  case load T' x =>
    split at ht
    · rename_i hagg
      split at ht
      · rename_i hi
        obtain ⟨u, h1, h2⟩ := rdK_spec (hsome ht)
        obtain ⟨a, rfl, hptr⟩ := ptrK_spec h2
        replace h2 := hptr
        obtain ⟨cs, h3, h4, h5⟩ := h2
        simp only [execOp, hρ x _ h1]
        have hu : ∃ d, P.underlying T' = some d := by
          unfold aggT at hagg
          split at hagg <;> first | exact ⟨_, by assumption⟩ | cases hagg
        obtain ⟨d, hu⟩ := hu
        refine .same ?_ h5
        have hl := run_loadCells_cells (P := P) h4
        simp [Instr.loadAt, Instr.sureAddr, loadVar, run_isAgg_any hu, hagg, run_sizeOf_some hi, ← h3, hl, Result.andThen]
      · exact hrun ht hd
    · rename_i hagg
      split at ht
      · rename_i hu
        obtain ⟨d, hu⟩ := Option.isSome_iff_exists.1 hu
        obtain ⟨u, h1, h2⟩ := rdK_spec (hsome ht)
        obtain ⟨a, rfl, hptr⟩ := ptrK_spec h2
        replace h2 := hptr
        obtain ⟨v, h3, h4⟩ := exTy_spec h2
        simp only [execOp, hρ x _ h1]
        refine .same ?_ h4
        simp [Instr.loadAt, Instr.sureAddr, loadVar, run_isAgg_any hu, hagg, load, Sem.run, h3, Result.andThen]
      · exact hrun ht hd
  case store T' x v =>
    split at ht
    · rename_i hi
      have hsz := run_sizeOf_some (w := w) hi
      split at ht
      · rename_i hagg
        obtain ⟨p, h1, h2⟩ := rdK_spec (hsome ht)
        obtain ⟨u, h3, h4⟩ := rdK_spec h2
        obtain ⟨a, rfl, hptr⟩ := ptrK_spec h4
        replace h4 := hptr
        cases u <;> first | exact (show False from h4).elim | skip
        rename_i cs
        obtain ⟨h5, h6, h7, h8⟩ := h4
        simp only [execOp, hρ x _ h1, hρ v _ h3]
        refine .unit ⟨_, ?_, h8 _ rfl⟩
        have hr := run_storeCells_cells (P := P) (a := a) (w := w) (vs := cs.toList) (i := 0) h6 (fun j hj => by rw [Nat.zero_add]; exact h7 j (by simp at hj; omega))
        simp [Instr.storeAt, Instr.sureAddr, storeVar, hsz, Value.cells, h5, hr, Result.andThen]
      · split at ht
        · rename_i hc
          obtain ⟨p, h1, h2⟩ := rdK_spec (hsome ht)
          obtain ⟨u, h3, h4⟩ := rdK_spec h2
          obtain ⟨a, rfl, hptr⟩ := ptrK_spec h4
          replace h4 := hptr
          obtain ⟨h5, h6, h7, h8⟩ := h4
          simp only [execOp, hρ x _ h1, hρ v _ h3]
          refine .unit ⟨_, ?_, h8 _ rfl⟩
          have hcells : u.cells = #[u] := by cases u <;> first | rfl | cases h5
          have hst := run_store_one (P := P) h5 h6 h7
          have ha : a.add 0 = a := rfl
          simp [Instr.storeAt, Instr.sureAddr, storeVar, hsz, hcells, hc, storeCells, ha, hst, Result.andThen]
        · exact hrun ht hd
    · exact hrun ht hd
  case fieldAddr T' x f =>
    split at ht
    · rename_i fs hu
      split at ht
      · rename_i fd hf
        split at ht
        · rename_i hc
          obtain ⟨u, h1, h2⟩ := rdK_spec (hsome ht)
          obtain ⟨a, rfl, hptr⟩ := ptrK_spec h2
          replace h2 := hptr
          simp only [execOp, hρ x _ h1]
          refine .same ?_ h2
          have hc' : P.cellsOf fd.type ≠ 0 := of_decide_eq_true hc
          have hi : (P.info? fd.type).isSome = true := by
            cases hq : P.info? fd.type with
            | none => exact absurd (by simp [Program.cellsOf, hq]) hc'
            | some _ => rfl
          simp [Instr.fieldAt, Instr.sureAddr, run_underlying_some hu, hf, fieldPlace, run_sizeOf_some hi, hc', Result.andThen]
        · exact hrun ht hd
      · exact hrun ht hd
    · exact hrun ht hd
  case field T' x f =>
    split at ht
    · rename_i fs hu
      split at ht
      · rename_i fd hf
        split at ht
        · rename_i hc
          simp only [Bool.and_eq_true] at hc
          obtain ⟨d, hd'⟩ := Option.isSome_iff_exists.1 hc.2
          split at ht
          · rename_i hagg
            obtain ⟨u, h1, h2⟩ := rdK_spec (hsome ht)
            cases u <;> first | exact (show False from h2).elim | skip
            simp only [execOp, hρ x _ h1]
            refine .same ?_ h2
            simp [Instr.field, run_underlying_some hu, hf, part, asAgg, run_isAgg_any hd', hagg, run_sizeOf_some hc.1, Result.andThen]
          · rename_i hagg
            obtain ⟨u, h1, h2⟩ := rdK_spec (hsome ht)
            cases u <;> first | exact (show False from h2).elim | skip
            obtain ⟨v, h3, h4⟩ := exTy_spec h2
            simp only [execOp, hρ x _ h1]
            refine .same ?_ h4
            simp [Instr.field, run_underlying_some hu, hf, part, asAgg, run_isAgg_any hd', hagg, h3, Result.andThen]
        · exact hrun ht hd
      · exact hrun ht hd
    · exact hrun ht hd
  case indexAddr T' x ix =>
    split at ht
    · rename_i el hu
      split at ht
      · rename_i hi
        obtain ⟨u, h1, h2⟩ := rdK_spec (hsome ht)
        obtain ⟨j, h3, h4⟩ := rdK_spec h2
        cases u <;> first | exact (show False from h4).elim | skip
        rename_i a n c
        cases j <;> first | exact (show False from h4).elim | skip
        rename_i k q
        simp only [execOp, hρ x _ h1, hρ ix _ h3]
        obtain ⟨h5, h6, h7⟩ := h4
        obtain ⟨b, rfl, h7⟩ := optK_spec h7
        · refine .same ?_ h7
          simp [Instr.indexAt, asIntOf, run_underlying_some hu, h5, h6, run_sizeOf_some hi, Result.andThen]
      · exact hrun ht hd
    · rename_i n el hu
      split at ht
      · rename_i hi
        obtain ⟨u, h1, h2⟩ := rdK_spec (hsome ht)
        obtain ⟨j, h3, h4⟩ := rdK_spec h2
        obtain ⟨a, rfl, hptr⟩ := ptrK_spec h4
        replace h4 := hptr
        cases j <;> first | exact (show False from h4).elim | skip
        obtain ⟨h5, h6, h7⟩ := h4
        simp only [execOp, hρ x _ h1, hρ ix _ h3]
        refine .same ?_ h7
        simp [Instr.indexAt, asIntOf, run_underlying_some hu, Instr.sureAddr, h5, h6, run_sizeOf_some hi, Result.andThen]
      · exact hrun ht hd
    · exact hrun ht hd
  case index T' x ix =>
    split at ht
    · rename_i n el hu
      split at ht
      · rename_i hc
        simp only [Bool.and_eq_true] at hc
        obtain ⟨d, hd'⟩ := Option.isSome_iff_exists.1 hc.2
        split at ht
        · rename_i hagg
          obtain ⟨u, h1, h2⟩ := rdK_spec (hsome ht)
          obtain ⟨j, h3, h4⟩ := rdK_spec h2
          cases u <;> first | exact (show False from h4).elim | skip
          cases j <;> first | exact (show False from h4).elim | skip
          obtain ⟨h5, h6, h7⟩ := h4
          simp only [execOp, hρ x _ h1, hρ ix _ h3]
          refine .same ?_ h7
          simp [Instr.index, asIntOf, run_underlying_some hu, h5, h6, part, run_isAgg_any hd', hagg, run_sizeOf_some hc.1, Result.andThen]
        · rename_i hagg
          obtain ⟨u, h1, h2⟩ := rdK_spec (hsome ht)
          obtain ⟨j, h3, h4⟩ := rdK_spec h2
          cases u <;> first | exact (show False from h4).elim | skip
          cases j <;> first | exact (show False from h4).elim | skip
          obtain ⟨h5, h6, h7⟩ := h4
          obtain ⟨v, h8, h9⟩ := exTy_spec h7
          simp only [execOp, hρ x _ h1, hρ ix _ h3]
          refine .same ?_ h9
          simp [Instr.index, asIntOf, run_underlying_some hu, h5, h6, part, run_isAgg_any hd', hagg, h8, run_sizeOf_some hc.1, Result.andThen]
      · exact hrun ht hd
    · rename_i hu
      obtain ⟨u, h1, h2⟩ := rdK_spec (hsome ht)
      obtain ⟨j, h3, h4⟩ := rdK_spec h2
      cases u <;> first | exact (show False from h4).elim | skip
      cases j <;> first | exact (show False from h4).elim | skip
      obtain ⟨h5, b, h6, h7⟩ := h4
      simp only [execOp, hρ x _ h1, hρ ix _ h3]
      refine .same ?_ h7
      simp [Instr.index, asIntOf, run_underlying_some hu, h5, h6, Result.andThen]
    · exact hrun ht hd
  case slice T' x lo hi mx =>
    split at ht
    · exact hrun ht hd
    · rename_i hmh
      have hm' : ∀ {m h : Option Value}, (mx = none ∧ m = none) ∨ (∃ y v, mx = some y ∧ rd e y = some v ∧ m = some v) → (hi = none ∧ h = none) ∨ (∃ y v, hi = some y ∧ rd e y = some v ∧ h = some v) → m.isSome = true → h.isSome = true := by
        intro m h c1 c2 hm
        rcases c1 with ⟨_, rfl⟩ | ⟨y, v, rfl, _, rfl⟩
        · cases hm
        · rcases c2 with ⟨rfl, rfl⟩ | ⟨y, v, rfl, _, rfl⟩
          · simp at hmh
          · rfl
      have rdo' : ∀ {x : Option Operand} {F : Option Value → Prop}, rdo e x F → ∃ v, ((x = none ∧ v = none) ∨ ∃ y u, x = some y ∧ rd e y = some u ∧ v = some u) ∧ x.map ρ = v ∧ F v := by
        intro x F h
        rcases rdo_spec h with ⟨rfl, h1⟩ | ⟨y, v, rfl, h1, h2⟩
        · exact ⟨none, .inl ⟨rfl, rfl⟩, rfl, h1⟩
        · exact ⟨some v, .inr ⟨y, v, rfl, h1, rfl⟩, by simp [hρ y v h1], h2⟩
      split at ht
      · rename_i el hu
        split at ht
        · rename_i hie
          obtain ⟨u, h1, h2⟩ := rdK_spec (hsome ht)
          obtain ⟨l, cl, el1, h3⟩ := rdo' h2
          obtain ⟨h, ch, el2, h4⟩ := rdo' h3
          obtain ⟨m, cm, el3, h5⟩ := rdo' h4
          cases u <;> first | exact (show False from h5).elim | skip
          rename_i a n c
          obtain ⟨m', h', l', h6, h7⟩ := run_sliceBounds (P := P) (w := w) (isSlice := true) (hm' cm ch) h5
          simp only [execOp, hρ x _ h1, el1, el2, el3]
          refine .same ?_ h6
          simp [Instr.sliceAt, run_underlying_some hu, Instr.slice, h7, run_sizeOf_some hie, Result.andThen]
        · exact hrun ht hd
      · rename_i n el hu
        split at ht
        · rename_i hie
          obtain ⟨u, h1, h2⟩ := rdK_spec (hsome ht)
          obtain ⟨l, cl, el1, h3⟩ := rdo' h2
          obtain ⟨h, ch, el2, h4⟩ := rdo' h3
          obtain ⟨m, cm, el3, h5⟩ := rdo' h4
          obtain ⟨a, rfl, hptr⟩ := ptrK_spec h5
          replace h5 := hptr
          obtain ⟨m', h', l', h6, h7⟩ := run_sliceBounds (P := P) (w := w) (isSlice := false) (hm' cm ch) h5
          simp only [execOp, hρ x _ h1, el1, el2, el3]
          refine .same ?_ h6
          simp [Instr.sliceAt, run_underlying_some hu, Instr.sureAddr, h7, run_sizeOf_some hie, Result.andThen]
        · exact hrun ht hd
      · rename_i hu
        split at ht
        · rename_i hmn
          have hmx : mx = none := by cases mx <;> first | rfl | cases hmn
          subst hmx
          obtain ⟨u, h1, h2⟩ := rdK_spec (hsome ht)
          obtain ⟨l, cl, el1, h3⟩ := rdo' h2
          obtain ⟨h, ch, el2, h4⟩ := rdo' h3
          cases u <;> first | exact (show False from h4).elim | skip
          rename_i str
          obtain ⟨m', h', l', h6, h7⟩ := run_sliceBounds (P := P) (w := w) (isSlice := false) (m := none) (fun hq => by cases hq) (show bnd none str.size str.size fun m => bnd h str.size m fun h => bnd l 0 h fun l => K (.string (str.extract l h)) w from h4)
          simp only [execOp, hρ x _ h1, el1, el2, Option.map_none]
          refine .same ?_ h6
          simp [Instr.sliceAt, run_underlying_some hu, Instr.slice, h7, Result.andThen]
        · exact hrun ht hd
      · exact hrun ht hd
  case makeInterface T' x =>
    split at ht
    · exact hrun ht hd
    · rename_i d hni hu
      obtain ⟨u, h1, h2⟩ := rdK_spec (hsome ht)
      simp only [execOp, hρ x _ h1]
      refine .same ?_ h2
      unfold Instr.makeInterface
      rw [Sem.run_bind, run_underlying_some hu]
      cases d <;> first | exact absurd rfl (hni _) | rfl
    · exact hrun ht hd
  case makeMap T' r =>
    cases r with
    | none =>
      have hd := hsome ht
      simp only [execOp]
      refine .val ⟨_, _, ?_, hd _ rfl⟩
      simp [Instr.makeMap, newObj, Sem.run, Result.andThen]
    | some r =>
      obtain ⟨vs, h1, q, w', h4, h5⟩ := rdsK_spec (hsome ht)
      have h1 := h1 ρ hρ
      simp only [List.map_cons, List.map_nil] at h1
      subst h1
      simp only [execOp]
      exact .val ⟨q, w', h4, intro_spec h5⟩
  case makeFunc f a c =>
    obtain ⟨va, h1, h2⟩ := rdsK_spec (hsome ht)
    obtain ⟨vc, h3, h4⟩ := rdsK_spec h2
    have ha : a.map ρ = va.toArray := by apply Array.ext'; rw [Array.toList_map, h1 ρ hρ]
    have hc : c.map ρ = vc.toArray := by apply Array.ext'; rw [Array.toList_map, h3 ρ hρ]
    simp only [execOp, ha, hc]
    exact .same rfl h4
  case mapEntry T' m k =>
    obtain ⟨vs, h1, q, w', h4, h5⟩ := rdsK_spec (hsome ht)
    have h1 := h1 ρ hρ
    simp only [List.map_cons, List.map_nil] at h1
    subst h1
    simp only [execOp]
    exact .val ⟨q, w', h4, intro_spec h5⟩
  case entryStore T' m s v =>
    obtain ⟨u, h1, h2⟩ := rdK_spec (hsome ht)
    obtain ⟨u2, h3, h4⟩ := rdK_spec h2
    obtain ⟨u3, h5, h6⟩ := rdK_spec h4
    simp only [execOp, hρ m _ h1, hρ s _ h3, hρ v _ h5]
    exact .unit h6
  case range T' x =>
    obtain ⟨vs, h1, q, w', h4, h5⟩ := rdsK_spec (hsome ht)
    have h1 := h1 ρ hρ
    simp only [List.map_cons, List.map_nil] at h1
    subst h1
    simp only [execOp]
    exact .val ⟨q, w', h4, intro_spec h5⟩
  case next x b =>
    obtain ⟨vs, h1, q, w', h4, h5⟩ := rdsK_spec (hsome ht)
    have h1 := h1 ρ hρ
    simp only [List.map_cons, List.map_nil] at h1
    subst h1
    simp only [execOp]
    exact .val ⟨q, w', h4, intro_spec h5⟩
  case entry x =>
    obtain ⟨vs, h1, q, w', h4, h5⟩ := rdsK_spec (hsome ht)
    have h1 := h1 ρ hρ
    simp only [List.map_cons, List.map_nil] at h1
    subst h1
    simp only [execOp]
    exact .val ⟨q, w', h4, intro_spec h5⟩
  case typeAssert x xt at_ ok =>
    obtain ⟨vs, h1, q, w', h4, h5⟩ := rdsK_spec (hsome ht)
    have h1 := h1 ρ hρ
    simp only [List.map_cons, List.map_nil] at h1
    subst h1
    simp only [execOp]
    exact .val ⟨q, w', h4, intro_spec h5⟩
  case panic x =>
    obtain ⟨u, h1, ⟨t, u', rfl⟩, h2⟩ := rdK_spec (hsome ht)
    simp only [execOp, hρ x _ h1]
    exact .pan h2
  case makeSlice T' l c =>
    obtain ⟨u, h1, h2⟩ := rdK_spec (hsome ht)
    obtain ⟨v, h3, r, w', h4, h5⟩ := rdK_spec h2
    simp only [execOp, hρ l _ h1, hρ c _ h3]
    exact .val ⟨r, w', h4, intro_spec h5⟩
  case lookup T' x ix ok =>
    obtain ⟨u, h1, h2⟩ := rdK_spec (hsome ht)
    obtain ⟨v, h3, r, h4, h5⟩ := rdK_spec h2
    simp only [execOp, hρ x _ h1, hρ ix _ h3]
    exact .same h4 (intro_spec h5)
  case mapUpdate T' m k v =>
    obtain ⟨u, h1, h2⟩ := rdK_spec (hsome ht)
    obtain ⟨u2, h3, h4⟩ := rdK_spec h2
    obtain ⟨u3, h5, h6⟩ := rdK_spec h4
    simp only [execOp, hρ m _ h1, hρ k _ h3, hρ v _ h5]
    exact .unit h6
  case insert T' m k v =>
    obtain ⟨u, h1, h2⟩ := rdK_spec (hsome ht)
    obtain ⟨u2, h3, h4⟩ := rdK_spec h2
    obtain ⟨u3, h5, h6⟩ := rdK_spec h4
    simp only [execOp, hρ m _ h1, hρ k _ h3, hρ v _ h5]
    exact .unit h6
  case extract x ix =>
    obtain ⟨u, h1, h2⟩ := rdK_spec (hsome ht)
    obtain ⟨vs, rfl, h4⟩ := tupK_spec h2
    obtain ⟨r, h5, h6⟩ := exTy_spec h4
    simp only [execOp, hρ x _ h1]
    refine .same ?_ h6
    simp [Instr.extract, h5]
  case call c =>
    obtain ⟨callee, args, ats⟩ := c
    have hcallv : ∀ (f : Operand), some (I.callv f args.toList (tysOf P T), tyOf P T) = some (i, ty) → RunsTo P Z (execOp ρ ⟨dst, .call { callee := .value f, args, argTypes := ats }, T, pos, after, guard⟩) w K := by
      intro f ht
      obtain ⟨u, h1, h2⟩ := rdK_spec (hsome ht)
      obtain ⟨vs, h3, h4⟩ := rdsK_spec h2
      have h5 := fvK_spec h4
      have ha : args.map ρ = vs.toArray := by apply Array.ext'; rw [Array.toList_map, h3 ρ hρ]
      rcases h5 with ⟨g, first, cap, rfl, hb, hc⟩ | ⟨l, first, cap, rfl, fn, tmps, assign, body, hy, hR⟩
      rotate_left
      · have : execOp ρ ⟨dst, .call { callee := .value f, args, argTypes := ats }, T, pos, after, guard⟩ = Instr.yield l (first ++ vs.toArray) := by
          simp only [execOp, resolve, hρ f _ h1, ha, Deferred.ofValue]
          rfl
        rw [this]
        unfold RunsTo
        rw [hy]
        refine RoundIn.mono hR fun en w' h => ?_
        cases en with
        | returned v => exact retK_spec h
        | panicked ch => obtain ⟨v, he, _⟩ := retK_spec h; cases he
        | outgrown => obtain ⟨v, he, _⟩ := retK_spec h; cases he
      have : execOp ρ ⟨dst, .call { callee := .value f, args, argTypes := ats }, T, pos, after, guard⟩ = callFunc g (first ++ vs.toArray ++ cap) := by
        simp only [execOp, resolve, hρ f _ h1, ha, Deferred.ofValue]
        rfl
      rw [this]
      exact .call hb hc
    cases callee with
    | value f =>
      cases f with
      | func f =>
        simp only at ht
        split at ht
        · rename_i hb
          have hgo : ∀ vs : List Value, (∀ ρ : Operand → Value, (∀ x v, rd e x = some v → ρ x = v) → args.toList.map ρ = vs) → execOp ρ ⟨dst, .call { callee := .value (.func f), args, argTypes := ats }, T, pos, after, guard⟩ = callFunc f vs.toArray := by
            intro vs h1
            have ha : args.map ρ = vs.toArray := by apply Array.ext'; rw [Array.toList_map, h1 ρ hρ]
            have hf : ρ (.func f) = .func (.func f) #[] #[] := hρ _ _ rfl
            simp only [execOp, resolve, hf, ha, Deferred.ofValue]
            show callFunc f (#[] ++ vs.toArray ++ #[]) = _
            simp
          have hs := hsome ht
          cases hp : pn.contains f
          · rw [hp] at hs
            obtain ⟨vs, h1, h2⟩ := rdsK_spec (show rdsK e args.toList _ from hs)
            rw [hgo vs h1]
            exact .call (hasBody_spec hb) h2
          · rw [hp] at hs
            obtain ⟨vs, h1, h2⟩ := rdsK_spec (show rdsK e args.toList _ from hs)
            rw [hgo vs h1]
            exact .callP (hasBody_spec hb) h2
        · exact hrun ht hd
      | tmp t => exact hcallv _ ht
      | const v => exact hcallv _ ht
      | global g => exact hcallv _ ht
    | invoke x name =>
      obtain ⟨u, h1, h2⟩ := rdK_spec (hsome ht)
      obtain ⟨vs, h3, t, v, g, r, rfl, h4, hb, hc⟩ := rdsK_spec h2
      have ha : args.map ρ = vs.toArray := by apply Array.ext'; rw [Array.toList_map, h3 ρ hρ]
      have : execOp ρ ⟨dst, .call { callee := .invoke x name, args, argTypes := ats }, T, pos, after, guard⟩ = callMethod (.iface t v) name vs.toArray := by
        simp only [execOp, resolve, hρ x _ h1, ha]
        show invoke (.fn (.method name) #[]) (#[Value.iface t v] ++ vs.toArray) = _
        simp [invoke]
      rw [this]
      have h5 : Sem.run P (callMethod (.iface t v) name vs.toArray) w = .ok (.enter g (#[r] ++ vs.toArray)) w := by
        simp [callMethod, h4, run_callFunc hb, Result.andThen]
      unfold RunsTo
      rw [h5]
      exact Calls.mono hc.runs fun e w' ⟨v, he, hK⟩ => by subst he; exact ⟨v, rfl, hK⟩
    | builtin b =>
      cases b <;> simp only at ht
      case append =>
        split at ht
        · rename_i hsz
          obtain ⟨u, h1, h2⟩ := rdK_spec (hsome ht)
          obtain ⟨v, h3, r, w', h4, h5⟩ := rdK_spec h2
          have ha : args.map ρ = #[u, v] := by
            obtain ⟨l⟩ := args
            match l, hsz with
            | [x, y], _ =>
              have h1 : rd e x = some u := h1
              have h3 : rd e y = some v := h3
              simp [hρ x u h1, hρ y v h3]
          have : execOp ρ ⟨dst, .call { callee := .builtin .append, args, argTypes := ats }, T, pos, after, guard⟩ = (do pure (.value (← Builtin.append_ ats T #[u, v]))) := by
            rw [← ha]; rfl
          rw [this]
          exact .val ⟨r, w', h4, intro_spec h5⟩
        · exact hrun ht hd
      case copy =>
        split at ht
        · rename_i hsz
          obtain ⟨u, h1, h2⟩ := rdK_spec (hsome ht)
          obtain ⟨v, h3, r, w', h4, h5⟩ := rdK_spec h2
          have ha : args.map ρ = #[u, v] := by
            obtain ⟨l⟩ := args
            match l, hsz with
            | [x, y], _ =>
              have h1 : rd e x = some u := h1
              have h3 : rd e y = some v := h3
              simp [hρ x u h1, hρ y v h3]
          have : execOp ρ ⟨dst, .call { callee := .builtin .copy, args, argTypes := ats }, T, pos, after, guard⟩ = (do pure (.value (← Builtin.copy_ ats T #[u, v]))) := by
            rw [← ha]; rfl
          rw [this]
          exact .val ⟨r, w', h4, intro_spec h5⟩
        · exact hrun ht hd
      case len =>
        split at ht
        · rename_i hsz
          simp only [Bool.and_eq_true, decide_eq_true_eq] at hsz
          obtain ⟨l⟩ := args
          obtain ⟨la⟩ := ats
          match l, la, hsz with
          | [x], [t0], _ =>
            have hx : ∀ _ : Value, execOp ρ ⟨dst, .call { callee := .builtin .len, args := #[x], argTypes := #[t0] }, T, pos, after, guard⟩ = (do pure (.value (← Builtin.len_ #[t0] T #[ρ x]))) := fun _ => by
              rw [← show (#[x].map ρ) = #[ρ x] by simp]
              rfl
            split at ht
            · rename_i el hu
              obtain ⟨u, h1, h2⟩ := rdK_spec (hsome ht)
              have h1 : rd e x = some u := h1
              have hu : P.underlying t0 = some (.slice el) := hu
              cases u <;> first | exact (show False from h2).elim | skip
              rw [hx .nilIface, hρ x _ h1]
              exact .same (by simp [Builtin.len_, run_underlying_some hu, goInt, Result.andThen]) h2
            · rename_i hu
              obtain ⟨u, h1, h2⟩ := rdK_spec (hsome ht)
              have h1 : rd e x = some u := h1
              have hu : P.underlying t0 = some .string := hu
              cases u <;> first | exact (show False from h2).elim | skip
              rw [hx .nilIface, hρ x _ h1]
              exact .same (by simp [Builtin.len_, run_underlying_some hu, goInt, Result.andThen]) h2
            · obtain ⟨vs, h1, r, w', h4, h5⟩ := rdsK_spec (hsome ht)
              have h1 := h1 ρ hρ
              simp only [List.map_cons, List.map_nil] at h1
              subst h1
              rw [hx .nilIface]
              exact .val ⟨r, w', h4, intro_spec h5⟩
        · exact hrun ht hd
      case cap =>
        obtain ⟨vs, h1, r, w', h4, h5⟩ := rdsK_spec (hsome ht)
        have ha : args.map ρ = vs.toArray := by apply Array.ext'; rw [Array.toList_map, h1 ρ hρ]
        have : execOp ρ ⟨dst, .call { callee := .builtin .cap, args, argTypes := ats }, T, pos, after, guard⟩ = (do pure (.value (← Builtin.cap_ ats T vs.toArray))) := by
          rw [← ha]; rfl
        rw [this]
        exact .val ⟨r, w', h4, intro_spec h5⟩
      case max =>
        obtain ⟨vs, h1, r, w', h4, h5⟩ := rdsK_spec (hsome ht)
        have ha : args.map ρ = vs.toArray := by apply Array.ext'; rw [Array.toList_map, h1 ρ hρ]
        have : execOp ρ ⟨dst, .call { callee := .builtin .max, args, argTypes := ats }, T, pos, after, guard⟩ = (do pure (.value (← Builtin.max_ ats T vs.toArray))) := by
          rw [← ha]; rfl
        rw [this]
        exact .val ⟨r, w', h4, intro_spec h5⟩
      case min =>
        obtain ⟨vs, h1, r, w', h4, h5⟩ := rdsK_spec (hsome ht)
        have ha : args.map ρ = vs.toArray := by apply Array.ext'; rw [Array.toList_map, h1 ρ hρ]
        have : execOp ρ ⟨dst, .call { callee := .builtin .min, args, argTypes := ats }, T, pos, after, guard⟩ = (do pure (.value (← Builtin.min_ ats T vs.toArray))) := by
          rw [← ha]; rfl
        rw [this]
        exact .val ⟨r, w', h4, intro_spec h5⟩
      case delete =>
        obtain ⟨vs, h1, r, w', h4, h5⟩ := rdsK_spec (hsome ht)
        have ha : args.map ρ = vs.toArray := by apply Array.ext'; rw [Array.toList_map, h1 ρ hρ]
        have : execOp ρ ⟨dst, .call { callee := .builtin .delete, args, argTypes := ats }, T, pos, after, guard⟩ = (do pure (.value (← Builtin.delete_ ats T vs.toArray))) := by
          rw [← ha]; rfl
        rw [this]
        exact .val ⟨r, w', h4, intro_spec h5⟩
      case clear =>
        obtain ⟨vs, h1, r, w', h4, h5⟩ := rdsK_spec (hsome ht)
        have ha : args.map ρ = vs.toArray := by apply Array.ext'; rw [Array.toList_map, h1 ρ hρ]
        have : execOp ρ ⟨dst, .call { callee := .builtin .clear, args, argTypes := ats }, T, pos, after, guard⟩ = (do pure (.value (← Builtin.clear_ ats T vs.toArray))) := by
          rw [← ha]; rfl
        rw [this]
        exact .val ⟨r, w', h4, intro_spec h5⟩
      all_goals exact hrun ht hd
  case build T' parts =>
    have hps : ∀ vs : List (Nat × Value), parts.toList.map (fun p => (p.1, ρ p.2)) = vs → (parts.map fun (i, x) => (i, ρ x)).toList = vs := fun vs h => by rw [← h]; simp
    split at ht
    · rename_i hz
      unfold hasZero at hz
      cases hi : P.info? T' with
      | none => rw [hi] at hz; cases hz
      | some it =>
        rw [hi] at hz
        simp only [Option.bind_some] at hz
        obtain ⟨z, hz⟩ := Option.isSome_iff_exists.1 hz
        have hzc : zc P T' = z.cells.toList := by simp [zc, hi, hz]
        split at ht
        · rename_i fs hu
          split at ht
          · rename_i hf
            obtain ⟨vs, h1, cs, h2, h3⟩ := rdps_spec (hsome ht)
            simp only [execOp]
            refine .same (run_build w T' _ cs.toArray ?_) h3
            unfold Program.built
            have hpl : fs.toList.mapM (fun f => (P.info? f.type).map fun i => (f.offset, i.size)) = some (fs.toList.map fun f => (f.offset, P.cellsOf f.type)) := by
              rw [Array.all_eq_true'] at hf
              have hf' : ∀ f ∈ fs.toList, (P.info? f.type).isSome = true := fun f h => hf f (by simpa using h)
              revert hf'
              generalize fs.toList = l
              induction l with
              | nil => intro _; rfl
              | cons f l ih =>
                intro hf'
                obtain ⟨inf, hinf⟩ := Option.isSome_iff_exists.1 (hf' f (by simp))
                simp [List.mapM_cons, ih (fun g hg => hf' g (by simp [hg])), hinf, Program.cellsOf]
            simp only [hi, hu, hz, hpl]
            have := fill_eq (.fields (fs.toList.map fun f => (f.offset, P.cellsOf f.type))) _ _ _ h2
            rw [hzc] at this
            rw [hps vs (h1 ρ hρ)]
            rw [← this]
            congr 1
            funext j
            simp [Place.at]
          · exact hrun ht hd
        · rename_i n el hu
          split at ht
          · rename_i hie
            obtain ⟨ie, hie⟩ := Option.isSome_iff_exists.1 hie
            obtain ⟨vs, h1, cs, h2, h3⟩ := rdps_spec (hsome ht)
            simp only [execOp]
            refine .same (run_build w T' _ cs.toArray ?_) h3
            unfold Program.built
            simp only [hi, hu, hz, hie]
            have := fill_eq (.elems (P.cellsOf el)) _ _ _ h2
            rw [hzc] at this
            rw [hps vs (h1 ρ hρ)]
            rw [← this]
            have hce : P.cellsOf el = ie.size := by simp [Program.cellsOf, hie]
            rw [hce]
            congr 1
          · exact hrun ht hd
        · exact hrun ht hd
    · exact hrun ht hd
  case buildSlice T' len parts =>
    have hps : ∀ vs : List (Nat × Value), parts.toList.map (fun p => (p.1, ρ p.2)) = vs → (parts.map fun (i, x) => (i, ρ x)).toList = vs := fun vs h => by rw [← h]; simp
    split at ht
    · rename_i el hu
      split at ht
      · rename_i hc
        simp only [Bool.and_eq_true, decide_eq_true_eq] at hc
        obtain ⟨⟨hz, h0⟩, h16⟩ := hc
        unfold hasZero at hz
        cases hi : P.info? el with
        | none => rw [hi] at hz; cases hz
        | some it =>
          rw [hi] at hz
          simp only [Option.bind_some] at hz
          obtain ⟨z, hz⟩ := Option.isSome_iff_exists.1 hz
          have hzc : zc P el = z.cells.toList := by simp [zc, hi, hz]
          have hce : P.cellsOf el = it.size := by simp [Program.cellsOf, hi]
          obtain ⟨vs, h1, cs, h2, h3⟩ := rdps_spec (hsome ht)
          simp only [execOp]
          refine .val ⟨_, _, run_buildSlice w T' el len _ cs.toArray it z hu hi hz (by rw [← hce]; omega) (by rw [← hce]; omega) ?_, h3 _ rfl⟩
          have := fill_eq (.elems (P.cellsOf el)) _ _ _ h2
          rw [hps vs (h1 ρ hρ), ← this, ← hce]
          congr 1
          unfold zrep
          rw [hzc]
          apply Array.ext'
          simp
      · split at ht
        · rename_i hc
          simp only [Bool.and_eq_true, decide_eq_true_eq] at hc
          obtain ⟨⟨hi, h0⟩, hp⟩ := hc
          have hd := hsome ht
          have hp' : parts = #[] := by simpa using hp
          subst hp'
          simp only [execOp]
          refine .val ⟨_, _, ?_, hd _ rfl⟩
          have h0' : len = 0 ∨ P.cellsOf el = 0 := by rcases Nat.eq_zero_or_pos len with h | h; exact .inl h; exact .inr (by rcases Nat.eq_zero_or_pos (P.cellsOf el) with h' | h'; exact h'; exact absurd h0 (Nat.ne_of_gt (Nat.mul_pos h h')))
          simp [Instr.buildSlice, run_underlying_some hu, run_sizeOf_some hi, h0, h0', Instr.fill, newRow, Result.andThen]
          have : ∀ f : Nat → Value, (Array.range 0).map f = #[] := fun f => by apply Array.ext'; simp
          rw [this]
        · exact hrun ht hd
    · exact hrun ht hd
  all_goals exact hrun ht hd
end
end Go.Proofs.YtjkbjppopdfggaaDoor.Den
