/-
  WHAT THE CARDS OF THESE LAWS SHARE: the table as the rows list it, a world for the witnesses, arguments that are bytes or plain structs.
  Own work over the kit. No macro, syntax, notation, axiom.
-/
import Derived.Test.YtjchneebdlncfaaDoorCards
import Derived.Test.YtjchneebdlncfaaDoorTie
import Derived.Test.YtjchneebdlncfaaDoorDenRow
import Derived.Test.YtjchneebdlncfaaDoorLibSeal
import Derived.Stop.LaidErr
namespace Go.Proofs.YtjchneebdlncfaaDoor.Lib
open Go Den Fn
open Go.ChangeShapes Go.WideShapes Go.ChangeAt Go.RowKit

theorem own : ownKnob Tryd.prog.godebug = none := by kernel_rfl
theorem laidOk : laidOutB Tryd.prog = true := by kernel_rfl
theorem uBool : Tryd.prog.underlying 4 = some .bool := by kernel_rfl
theorem gTab : Tryd.prog.globalNamed "prelude/codec.halves" = some 0 := by kernel_rfl
theorem gTabT : (Tryd.prog.globals[0]?).map (·.type) = some 159 := by kernel_rfl
theorem uTab : Tryd.prog.underlying 159 = some (.array 16 120) := by kernel_rfl
theorem uWord : Tryd.prog.underlying 120 = some (.int .u32) := by kernel_rfl
theorem cWord : Tryd.prog.cellsOf 120 = 1 := by kernel_rfl
theorem cTab : Tryd.prog.cellsOf 159 = 16 := by kernel_rfl
theorem uBytes : Tryd.prog.underlying 22 = some (.slice 5) := by kernel_rfl
theorem uByte : Tryd.prog.underlying 5 = some (.int .u8) := by kernel_rfl
theorem cByte : Tryd.prog.cellsOf 5 = 1 := by kernel_rfl
theorem bytesOf8 : Tryd.prog.bytesOf 5 = 1 := by kernel_rfl
theorem cells_of_tab {W : World} {name : String} {zs : List Int} {g : Nat} (h : Go.Lib.TabIs Tryd.prog W name .u32 zs) (hg : Tryd.prog.globalNamed name = some g) : Cells W ⟨g, 0, none⟩ (zs.map (Value.int .u32)) := by
  intro i v hv
  rw [List.getElem?_map, Option.map_eq_some_iff] at hv
  obtain ⟨x, hx, rfl⟩ := hv
  have hi := (List.getElem?_eq_some_iff.1 hx).1
  rw [add_mk, Nat.zero_add, h.cell hg i hi]
  simp [List.getD_eq_getElem?_getD, hx]
abbrev laidRows : List (String × DataW Unit) := [("prelude/codec.halves", Rows.laid_prelude_codec_halves)]
/-- What a row's list gives. -/
theorem laidTab {W : World} (h : laidMetH Tryd.prog laidRows W) : Tab W :=
  cells_of_tab (Go.Lib.tabIs_of_head (zs := halves) (rest := []) gTab gTabT uTab uWord cWord cTab h) gTab
def lay (cs : Array Value) : Obj → Obj
  | .cells _ t frozen => .cells cs t frozen
  | o => o
noncomputable def laidWorld (os : Os) : World :=
  { World.holding Tryd.prog os ⟨#[], #[], []⟩ with heap := (World.holding Tryd.prog os ⟨#[], #[], []⟩).heap.modify 0 (lay (halves.map (Value.int .u32)).toArray) }
end Go.Proofs.YtjchneebdlncfaaDoor.Lib
