/-
  FROM A CONTRACT TO A STATEMENT: a law that answers true and leaves its input as it was; a row of bytes as an argument.
  Own work. No macro, syntax, notation, axiom.
-/
import Derived.Test.YtjkbjppopdfggaaDoorRows
import Derived.Test.YtjkbjppopdfggaaDoorDenWords4
import Derived.WalkKit
import Derived.ProofKit
import Derived.OpenShut
import Derived.Carry
import Derived.Deep.DeepHandedRow
import Derived.Lib.LaidTab
namespace Go.Proofs.YtjkbjppopdfggaaDoor.Den
open Go Go.ChangeShapes Go.WideShapes Go.ChangeAt Go.RowKit

variable {H : Type} {enc : TypeId × Value → H} {P : Program}

theorem trodAll_stays (hl : laidOutB P = true) {W W' : World} (hb : Below W.heap.size W W') : ∀ {ts : List TypeId} {vs : List Value} {ds : List (DataW H)} {ps : List MemPlace},
    (∀ t ∈ ts, P.readableRec t = true ∧ t < P.types.size) → DataW.TrodAll enc P W 0 (fun _ => true) true ts vs ds ps → (∀ x ∈ ps, x.block < W.heap.size) →
    DataW.TrodAll enc P W' 0 (fun b => decide (b < W.heap.size)) true ts vs ds ps
  | [], [], [], _, _, h, _ => h
  | t :: ts, v :: vs, d :: ds, ps, ht, h, hlt => by
    obtain ⟨p, q, h1, h2, rfl⟩ := h
    exact ⟨p, q, Below.trod hl (ht t (by simp)).1 (ht t (by simp)).2 h1 hb fun x hx => hlt x (by simp [hx]),
      trodAll_stays hl hb (fun t h => ht t (by simp [h])) h2 fun x hx => hlt x (by simp [hx]), rfl⟩
  | [], _ :: _, _, _, _, h, _ => h.elim
  | [], [], _ :: _, _, _, h, _ => h.elim
  | _ :: _, [], _, _, _, h, _ => h.elim
  | _ :: _, _ :: _, [], _, _, h, _ => h.elim

/-- A law of no variables that answers true, and below the old heap nothing has turned. -/
theorem post_true {f : Func} {s : ChangeSpec} {apart fresh : Bool} {W W' : World} {args : Array Value} {ds gs : List (DataW H)} {before : List MemPlace} {tb : TypeId}
    (hl : laidOutB P = true) (hr : ∀ t ∈ f.params.toList, P.readableRec t = true ∧ t < P.types.size) (htb : P.underlying tb = some .bool) (hrt : f.resultTypes = #[tb])
    (hW : DataW.Whole enc P f.params.toList s.vars apart W args.toList ds gs before) (hvars : s.vars = [])
    (hs : (s.fn H (ds ++ gs)).results = [.lit (.bool true)] ∧ (s.fn H (ds ++ gs)).args = ds ∧ (s.fn H (ds ++ gs)).vars = []) (hb : Below W.heap.size W W') :
    s.post enc P f apart fresh false false W args (.bool true) W' := by
  have hW' := hW
  obtain ⟨p, q, hA, hV, rfl, hfz, hnd⟩ := hW
  rw [hvars] at hV
  obtain ⟨rfl, rfl⟩ := trodVars_none hV
  have hlt : ∀ x ∈ p, x.block < W.heap.size := fun x hx => by simpa using hW'.lt x (by simp [hx])
  refine ⟨ds, [], p ++ [], [], p, [], hW', ?_, ?_, ?_, hb.frame _, fun h => by cases h⟩
  · rw [hs.1, hrt]
    exact trodAll_cons_mk (shut_bool htb _) trodAll_mk0
  · rw [hs.2.1]
    exact trodAll_stays hl hb hr hA hlt
  · rw [hs.2.2, hvars]
    exact rfl

/-! ### Bulk -/
theorem bulk_lits (k : IntKind) : ∀ zs : List Int, Rows.uptoBulkAll (H := H) (lits k zs) = zs.length
  | [] => by simp [lits, Rows.uptoBulkAll]
  | z :: r => by
    have := bulk_lits k r
    simp only [lits, List.map_cons, Rows.uptoBulkAll, Rows.uptoBulk, List.length_cons] at this ⊢
    omega
theorem bulk_append : ∀ xs ys : List (DataW H), Rows.uptoBulkAll (xs ++ ys) = Rows.uptoBulkAll xs + Rows.uptoBulkAll ys
  | [], ys => by simp [Rows.uptoBulkAll]
  | x :: r, ys => by
    rw [List.cons_append, Rows.uptoBulkAll, Rows.uptoBulkAll, bulk_append r ys]
    omega

/-! ### A row of bytes -/
theorem cells_spot {W : World} {a : Addr} {cs : List Value} (hs : a.spot = none) (h : ∀ i v, cs[i]? = some v → W.cell? (a.add i) = some v) : ∃ b o, a = ⟨b, o, none⟩ ∧ Cells W ⟨b, o, none⟩ cs := by
  obtain ⟨b, o, s⟩ := a
  simp only at hs
  subst hs
  exact ⟨b, o, rfl, h⟩
theorem open_bytes {t e : TypeId} {W : World} {v : Value} {d : DataW H} {ps : List MemPlace} {base : Nat} (ht : P.underlying t = some (.slice e)) (he : P.underlying e = some (.int .u8)) (hc : P.cellsOf e = 1)
    (hval : Value.okWide P W .any base t v) (hd : DataW.Trod enc P W 0 (fun _ => true) true t v d ps) :
    ∃ (a : Option Addr) (n c : Nat) (bs : List Int), v = .slice a n c ∧ RSl W 1 a n c (bs.map (Value.int .u8)) ∧ (∀ x ∈ bs, 0 ≤ x ∧ x < 256) ∧ bs.length ≤ Rows.uptoBulk d ∧
      ((a = none ∧ bs = [] ∧ d = .nil) ∨ ∃ sp, d = .slice (lits .u8 bs) sp) := by
  obtain ⟨a0, len, cap, rfl⟩ := okWide_slice ht hval
  obtain ⟨fuel, hf⟩ := hd
  rcases open_ints ht he hc hf with ⟨hcs, hx⟩ | ⟨a, len', cap', zs, hcs, _, hl, hm, hz, hx, hcell, hwz⟩
  · simp [Value.cells] at hcs
    obtain ⟨rfl, rfl, rfl⟩ := hcs
    simp only [Prod.mk.injEq] at hx
    obtain ⟨rfl, rfl⟩ := hx
    exact ⟨none, 0, 0, [], rfl, RSl.nil W 1, by simp, by simp, .inl ⟨rfl, rfl, rfl⟩⟩
  · simp [Value.cells] at hcs
    obtain ⟨rfl, rfl, rfl⟩ := hcs
    simp only [Prod.mk.injEq] at hx
    obtain ⟨rfl, rfl⟩ := hx
    simp only [if_true] at hz
    have hs : a.spot = none := by
      have : Cell.ok P W .any base t (.slice (some a) len cap) := by
        simp only [Value.okWide, ht] at hval
        simpa only [Cell.okWide, ht] using hval
      simp only [Cell.ok, ht] at this
      exact this.2.2.2.1
    have htl : (zs.take len).length = len := by simp; omega
    obtain ⟨b, o, rfl, hcl⟩ := cells_spot (W := W) (cs := (zs.take len).map (Value.int .u8)) hs (fun i v hv => by
      rw [List.getElem?_map, Option.map_eq_some_iff] at hv
      obtain ⟨x, hx, rfl⟩ := hv
      rw [List.getElem?_take] at hx
      split at hx
      · have hil := (List.getElem?_eq_some_iff.1 hx).1
        rw [hcell i hil]
        simp [List.getD_eq_getElem?_getD, hx]
      · cases hx)
    refine ⟨some ⟨b, o, none⟩, len, cap, zs.take len, rfl, ⟨hl, by simp; omega, ones_ints, .inr ⟨b, o, rfl, hcl⟩⟩, ?_, ?_, .inr ⟨_, rfl⟩⟩
    · intro x hx
      have := hwz x (List.mem_of_mem_take hx)
      simp [Lit.wf, IntKind.min, IntKind.max, IntKind.signed, IntKind.bits] at this
      omega
    · rw [Rows.uptoBulk, bulk_lits, htl]
      omega
end Go.Proofs.YtjkbjppopdfggaaDoor.Den
