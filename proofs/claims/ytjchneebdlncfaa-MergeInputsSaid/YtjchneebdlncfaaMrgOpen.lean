/-
  MERGE's LAWS: how their arguments are read.
  Own work over the kit. No macro, syntax, notation, axiom.
-/
import Derived.Test.YtjchneebdlncfaaMrgB
import Derived.Test.YtjchneebdlncfaaDenRow2
import Derived.Stop.LaidErr
namespace Go.Proofs.Ytjchneebdlncfaa.Mrg
open Go Den Fn Lib
open Go.ChangeShapes Go.WideShapes Go.ChangeAt Go.RowKit

theorem own : ownKnob Try.prog.godebug = none := by kernel_rfl
theorem laidOk : laidOutB Try.prog = true := by kernel_rfl
theorem uBool : Try.prog.underlying 4 = some .bool := by kernel_rfl
theorem uInt : Try.prog.underlying 3 = some (.int .i64) := by kernel_rfl
theorem uI64s : Try.prog.underlying 25 = some (.slice 2) := by kernel_rfl
theorem histShape : shT Try.prog 6 24 = some [.int .i64, .int .i64, .sl [.sl [.int .i64]]] := by kernel_rfl
theorem histAgg : (match Try.prog.underlying 24 with | some (.struct _) => true | some (.array _ _) => true | _ => false) = true := by kernel_rfl
theorem i64sShape : shT Try.prog 6 25 = some [.sl [.int .i64]] := by kernel_rfl
theorem intShape : shT Try.prog 6 3 = some [.int .i64] := by kernel_rfl
theorem maxLen_le : maxLen ≤ 9223372036854775807 := by unfold maxLen; omega
theorem ints_rows {W : World} {d : Nat} : ∀ {rs : List (List Value)}, (∀ r ∈ rs, RepR W d [.int .i64] r) → ∃ l : List Int, rs.flatten = i64s l ∧ ∀ x ∈ l, I64 x
  | [], _ => ⟨[], rfl, by simp⟩
  | r :: rs, h => by
    obtain ⟨l, h1, h2⟩ := ints_rows fun x hx => h x (List.mem_cons_of_mem _ hx)
    obtain ⟨v, vs, rfl, g1, g2⟩ := (h r (by simp)).cons
    obtain rfl := g2.nil
    obtain ⟨n, rfl, hn⟩ := g1.int
    refine ⟨n :: l, by rw [List.flatten_cons, h1]; rfl, fun x hx => ?_⟩
    rcases List.mem_cons.1 hx with rfl | hx
    · exact i64_wf.1 hn
    · exact h2 x hx
/-- A row of numbers. -/
theorem ints_open {W : World} {d : Nat} {v : Value} (h : RepV W d (.sl [.int .i64]) v) : ∃ (a : Option Addr) (n c : Nat) (l : List Int), v = .slice a n c ∧ RSl W 1 a n c (i64s l) ∧ n ≤ 9223372036854775807 ∧ ∀ x ∈ l, I64 x := by
  obtain ⟨d', a, n, c, rs, rfl, rfl, hn, hc, hr, hrs⟩ := h.sl
  obtain ⟨l, h1, h2⟩ := ints_rows hrs
  rw [h1] at hr
  have := maxLen_le
  have := hr.cap
  exact ⟨a, n, c, l, rfl, hr, by omega, h2⟩
theorem rows_open {W : World} {d : Nat} : ∀ {rs : List (List Value)}, (∀ r ∈ rs, RepR W d [.sl [.int .i64]] r) → ∃ ls : List (List Int), RowsV W rs.flatten ls
  | [], _ => ⟨[], trivial⟩
  | r :: rs, h => by
    obtain ⟨ls, h1⟩ := rows_open fun x hx => h x (List.mem_cons_of_mem _ hx)
    obtain ⟨v, vs, rfl, g1, g2⟩ := (h r (by simp)).cons
    obtain rfl := g2.nil
    obtain ⟨a, n, c, l, rfl, k1, k2, k3⟩ := ints_open g1
    exact ⟨l :: ls, ⟨a, n, c, rfl, k1, k2, k3⟩, h1⟩
/-- A history. -/
theorem hist_open {W : World} {d : Nat} {cs : List Value} (h : RepR W d [.int .i64, .int .i64, .sl [.sl [.int .i64]]] cs) : ∃ hh : Hist, HistV W cs hh := by
  obtain ⟨v1, cs, rfl, h1, h⟩ := h.cons
  obtain ⟨v2, cs, rfl, h2, h⟩ := h.cons
  obtain ⟨v3, cs, rfl, h3, h⟩ := h.cons
  obtain rfl := h.nil
  obtain ⟨i, rfl, hi⟩ := h1.int
  obtain ⟨f, rfl, hf⟩ := h2.int
  obtain ⟨d', a, n, c, rs, rfl, rfl, hn, hc, hr, hrs⟩ := h3.sl
  obtain ⟨ls, hls⟩ := rows_open hrs
  have := maxLen_le
  have := hr.cap
  exact ⟨⟨i, f, ls⟩, a, n, c, _, rfl, hr, by omega, hls, i64_wf.1 hi, i64_wf.1 hf⟩
section
variable {H : Type} {enc : TypeId × Value → H} {P : Program}
/-- A number. -/
theorem open_int {t : TypeId} (ht : P.underlying t = some (.int .i64)) (hs : shT P 6 t = some [.int .i64]) {W : World} {base : Nat} {v : Value} {x : DataW H} {ps : List MemPlace} (hval : Value.okWide P W .any base t v) (hd : DataW.Trod enc P W 0 (fun _ => true) true t v x ps) : ∃ n, v = .int .i64 n ∧ I64 n := by
  obtain ⟨n, rfl⟩ := okWide_int ht hval
  obtain ⟨m, hm⟩ := hd
  have := open_rep 6 m t _ hs [.int .i64 n] _ (by simpa [Value.cells] using hm)
  obtain ⟨k, hk, hw⟩ := RepV.int this.1
  cases hk
  exact ⟨n, rfl, i64_wf.1 hw⟩
/-- A slice. -/
theorem open_slR {t e : TypeId} {k : List CK} (ht : P.underlying t = some (.slice e)) (hs : shT P 6 t = some [.sl k]) {W : World} {base : Nat} {v : Value} {x : DataW H} {ps : List MemPlace} (hval : Value.okWide P W .any base t v) (hd : DataW.Trod enc P W 0 (fun _ => true) true t v x ps) : RepV W 6 (.sl k) v := by
  obtain ⟨a, n, c, rfl⟩ := okWide_slice ht hval
  obtain ⟨m, hm⟩ := hd
  exact (open_rep 6 m t _ hs [.slice a n c] _ (by simpa [Value.cells] using hm)).1
end
end Go.Proofs.Ytjchneebdlncfaa.Mrg
