/-
  WHAT THE CARDS OF THESE LAWS SHARE: the digest's tables as the rows list them, a world for the witnesses.
  Own work over the kit. No macro, syntax, notation, axiom.
-/
import Derived.Test.YtjkbjppopdfggaaDoorCards
import Derived.Test.YtjkbjppopdfggaaDoorTie
import Derived.Test.YtjkbjppopdfggaaDoorDenRow
import Derived.Test.YtjkbjppopdfggaaDoorNodeW2
import Derived.Stop.LaidErr
namespace Go.Proofs.YtjkbjppopdfggaaDoor.Sha
open Go Den Fn
open Go.ChangeShapes Go.WideShapes Go.ChangeAt Go.RowKit

theorem own : ownKnob Tryd.prog.godebug = none := by kernel_rfl
theorem laidOk : laidOutB Tryd.prog = true := by kernel_rfl
theorem uBool : Tryd.prog.underlying 4 = some .bool := by kernel_rfl
theorem gStart : Tryd.prog.globalNamed "prelude/proof.start" = some 0 := by kernel_rfl
theorem gStartT : (Tryd.prog.globals[0]?).map (·.type) = some 91 := by kernel_rfl
theorem gRounds : Tryd.prog.globalNamed "prelude/proof.rounds" = some 1 := by kernel_rfl
theorem gRoundsT : (Tryd.prog.globals[1]?).map (·.type) = some 96 := by kernel_rfl
theorem uStart : Tryd.prog.underlying 91 = some (.array 8 90) := by kernel_rfl
theorem uRounds : Tryd.prog.underlying 96 = some (.array 64 90) := by kernel_rfl
theorem uWord : Tryd.prog.underlying 90 = some (.int .u32) := by kernel_rfl
theorem cWord : Tryd.prog.cellsOf 90 = 1 := by kernel_rfl
theorem cStart : Tryd.prog.cellsOf 91 = 8 := by kernel_rfl
theorem cRounds : Tryd.prog.cellsOf 96 = 64 := by kernel_rfl
theorem uBytes : Tryd.prog.underlying 22 = some (.slice 5) := by kernel_rfl
theorem uByte : Tryd.prog.underlying 5 = some (.int .u8) := by kernel_rfl
theorem cByte : Tryd.prog.cellsOf 5 = 1 := by kernel_rfl
theorem cells_of_tab {W : World} {name : String} {zs : List Int} {g : Nat} (h : Lib.TabIs Tryd.prog W name .u32 zs) (hg : Tryd.prog.globalNamed name = some g) : Cells W ⟨g, 0, none⟩ (u32 zs) := by
  intro i v hv
  rw [List.getElem?_map, Option.map_eq_some_iff] at hv
  obtain ⟨x, hx, rfl⟩ := hv
  have hi := (List.getElem?_eq_some_iff.1 hx).1
  rw [add_mk, Nat.zero_add, h.cell hg i hi]
  simp [List.getD_eq_getElem?_getD, hx]
abbrev laidRows : List (String × DataW Unit) := [("prelude/proof.start", Rows.laid_prelude_proof_start), ("prelude/proof.rounds", Rows.laid_prelude_proof_rounds)]
/-- What a row's list gives. -/
theorem laidTabs {W : World} (h : laidMetH Tryd.prog laidRows W) : Tabs W :=
  ⟨cells_of_tab (Lib.tabIs_of_head (zs := Ks) (rest := []) gRounds gRoundsT uRounds uWord cWord cRounds (laidMet.tail (x := ("prelude/proof.start", Rows.laid_prelude_proof_start)) h)) gRounds,
    cells_of_tab (Lib.tabIs_of_head (zs := Hs) gStart gStartT uStart uWord cWord cStart h) gStart⟩
def lay (cs : Array Value) : Obj → Obj
  | .cells _ t frozen => .cells cs t frozen
  | o => o
noncomputable def laidWorld (os : Os) : World :=
  { World.holding Tryd.prog os ⟨#[], #[], []⟩ with heap := ((World.holding Tryd.prog os ⟨#[], #[], []⟩).heap.modify 0 (lay (u32 Hs).toArray)).modify 1 (lay (u32 Ks).toArray) }
/-- An argument that is a row of numbers, booleans and strings. -/
theorem open_agg {H : Type} {enc : TypeId × Value → H} {P : Program} {d : Nat} {t : TypeId} {ks : List FK} (hf : flatK P d t = some ks) (hk : eqT P d t = true) {W : World} {base : Nat} {v : Value} {x : DataW H} {ps : List MemPlace}
    (hval : Value.okWide P W .any base t v) (hd : DataW.Trod enc P W 0 (fun _ => true) true t v x ps) : ∃ cs : List Value, v = .agg cs.toArray ∧ Fits ks cs := by
  have hk2 := hk
  unfold eqT at hk2
  simp only [Bool.and_eq_true] at hk2
  have hl : P.cellsOf t = ks.length ∧ ∃ cs, v = .agg cs ∧ cs.size = P.cellsOf t := by
    cases d with
    | zero => simp [flatK] at hf
    | succ d =>
      unfold flatK at hf
      split at hf
      · rename_i hu; rw [hu] at hk2; exact absurd hk2.1.2 (by simp)
      · rename_i hu; rw [hu] at hk2; exact absurd hk2.1.2 (by simp)
      · rename_i hu; rw [hu] at hk2; exact absurd hk2.1.2 (by simp)
      · rename_i n e hu
        split at hf
        · split at hf
          · rename_i l _ hc
            cases hf
            simp only [Value.okWide, hu] at hval
            obtain ⟨cs, h1, h2, _⟩ := hval
            exact ⟨by rw [hc.1]; simp [List.length_flatten], cs, h1, h2⟩
          · cases hf
        · cases hf
      · rename_i fs hu
        split at hf
        · split at hf
          · rename_i l _ hc
            cases hf
            simp only [Value.okWide, hu] at hval
            obtain ⟨cs, h1, h2, _⟩ := hval
            exact ⟨hc, cs, h1, h2⟩
          · cases hf
        · cases hf
      · cases hf
  obtain ⟨hl, cs, rfl, hs⟩ := hl
  obtain ⟨n, hn⟩ := hd
  rcases open_flat hf hk2.1.1.1 hn with h | h
  · exact ⟨cs.toList, by simp, h⟩
  · exfalso
    apply h
    simp only [Value.cells, Array.length_toList]
    omega
end Go.Proofs.YtjkbjppopdfggaaDoor.Sha
