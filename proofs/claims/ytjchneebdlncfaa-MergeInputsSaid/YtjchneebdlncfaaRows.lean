/-
  No cell of these rows narrows 'for every input' (looked for: loops, veiled, ifaces, maps, wideKeys, modest, calm, conditions, laid).
  DERIVED. THE GIVEN ROWS OF THIS SEAT. 4 by the template 'for every input the law returns true; each argument reads behind the call as it read before'; 0 by the template 'total and deterministic' (their statements: YtjchneebdlncfaaTotals.lean).
  GIVEN WITH THE SEED: the statements are not yours to turn. If you find one false, say at which input.
  Laid BY PROGRAM, IN A SANDBOX (cutbox-rows.mjs): the forced cells as the released guide's own fill.sh prints them over the translation 011a4e811e6099bf… (all of the seat's roots in one cut). By AI agents, Wed Nov 11 2026. No macro, syntax, notation, axiom, sorry.
-/
import Derived.Test.YtjchneebdlncfaaChecked
import GoSem.Claim
import GoSem.ClaimJoined
import GoSem.ClaimMapViews
import Derived.JoinedTies
import Derived.KernelRfl
namespace Go.Proofs.Ytjchneebdlncfaa
/- THE CELL 'sum', in the pinned program and in every row, IS THE sha256 OF THE DUMP (.gsa) THAT YtjchneebdlncfaaProg.lean LOADS. Nothing in Lean hashes anything: it is a label: what it is worth is what the hold of that sum in a sandbox is worth. -/
noncomputable def Try.pinned : Pinned := { name := "ytjchneebdlncfaa", sum := "011a4e811e6099bf0c0f8dd9fb6d9de10abb095cfc7083ab4e33f21b335837a6", checked := Try.checked }
namespace Rows
def none {H : Type} : Left H := { results := [], args := [] }

/-- 'preludelaw25.MergeForged': WHATEVER THE INPUT: true; the input reads as it did. -/
def mergeForgedSpec : ChangeSpec := { name := "mergeForged", fn := fun _ => fun
  | [d1, d2, d3] => { results := [.lit (.bool true)], args := [d1, d2, d3] }
  | _ => none }
def mergeForgedRow : OpenClaim := { program := "ytjchneebdlncfaa", sum := "011a4e811e6099bf0c0f8dd9fb6d9de10abb095cfc7083ab4e33f21b335837a6", func := "prelude/preludelaw25.MergeForged", spec := "mergeForged", unfollowed := true, recurses := true, plainKeys := false, apart := false }
def MergeForgedSaid : Prop := mergeForgedRow.holds Try.pinned (OpenSpec.ofChange mergeForgedSpec)

/-- ITS FALSE NEIGHBOUR: 'it returns false'. Refute it at one input. -/
def mergeForgedWrong : ChangeSpec := { name := "mergeForged", fn := fun _ => fun
  | [d1, d2, d3] => { results := [.lit (.bool false)], args := [d1, d2, d3] }
  | _ => none }
def MergeForgedWrongFalsely : Prop := mergeForgedRow.holds Try.pinned (OpenSpec.ofChange mergeForgedWrong)

/-- 'preludelaw25.MergeOneLog': WHATEVER THE INPUT: true; the input reads as it did. -/
def mergeOneLogSpec : ChangeSpec := { name := "mergeOneLog", fn := fun _ => fun
  | [d1, d2] => { results := [.lit (.bool true)], args := [d1, d2] }
  | _ => none }
def mergeOneLogRow : OpenClaim := { program := "ytjchneebdlncfaa", sum := "011a4e811e6099bf0c0f8dd9fb6d9de10abb095cfc7083ab4e33f21b335837a6", func := "prelude/preludelaw25.MergeOneLog", spec := "mergeOneLog", unfollowed := true, recurses := true, plainKeys := false, apart := false }
def MergeOneLogSaid : Prop := mergeOneLogRow.holds Try.pinned (OpenSpec.ofChange mergeOneLogSpec)

/-- ITS FALSE NEIGHBOUR: 'it returns false'. Refute it at one input. -/
def mergeOneLogWrong : ChangeSpec := { name := "mergeOneLog", fn := fun _ => fun
  | [d1, d2] => { results := [.lit (.bool false)], args := [d1, d2] }
  | _ => none }
def MergeOneLogWrongFalsely : Prop := mergeOneLogRow.holds Try.pinned (OpenSpec.ofChange mergeOneLogWrong)

/-- 'preludelaw25.MergeInputs': WHATEVER THE INPUT: true; the input reads as it did. -/
def mergeInputsSpec : ChangeSpec := { name := "mergeInputs", fn := fun _ => fun
  | [d1, d2] => { results := [.lit (.bool true)], args := [d1, d2] }
  | _ => none }
def mergeInputsRow : OpenClaim := { program := "ytjchneebdlncfaa", sum := "011a4e811e6099bf0c0f8dd9fb6d9de10abb095cfc7083ab4e33f21b335837a6", func := "prelude/preludelaw25.MergeInputs", spec := "mergeInputs", unfollowed := true, recurses := true, plainKeys := false, apart := false }
def MergeInputsSaid : Prop := mergeInputsRow.holds Try.pinned (OpenSpec.ofChange mergeInputsSpec)

/-- ITS FALSE NEIGHBOUR: 'it returns false'. Refute it at one input. -/
def mergeInputsWrong : ChangeSpec := { name := "mergeInputs", fn := fun _ => fun
  | [d1, d2] => { results := [.lit (.bool false)], args := [d1, d2] }
  | _ => none }
def MergeInputsWrongFalsely : Prop := mergeInputsRow.holds Try.pinned (OpenSpec.ofChange mergeInputsWrong)

/-- 'preludelaw25.MergePlays': WHATEVER THE INPUT: true; the input reads as it did. -/
def mergePlaysSpec : ChangeSpec := { name := "mergePlays", fn := fun _ => fun
  | [d1, d2] => { results := [.lit (.bool true)], args := [d1, d2] }
  | _ => none }
def mergePlaysRow : OpenClaim := { program := "ytjchneebdlncfaa", sum := "011a4e811e6099bf0c0f8dd9fb6d9de10abb095cfc7083ab4e33f21b335837a6", func := "prelude/preludelaw25.MergePlays", spec := "mergePlays", unfollowed := true, recurses := true, plainKeys := false, apart := false }
def MergePlaysSaid : Prop := mergePlaysRow.holds Try.pinned (OpenSpec.ofChange mergePlaysSpec)

/-- ITS FALSE NEIGHBOUR: 'it returns false'. Refute it at one input. -/
def mergePlaysWrong : ChangeSpec := { name := "mergePlays", fn := fun _ => fun
  | [d1, d2] => { results := [.lit (.bool false)], args := [d1, d2] }
  | _ => none }
def MergePlaysWrongFalsely : Prop := mergePlaysRow.holds Try.pinned (OpenSpec.ofChange mergePlaysWrong)

/- THE SECOND FORM. 'bulk': how many values and letters a reading holds, each counted each time it is reached (what is shared counts as often as it is met; a slice's spare places count too). A statement '..UptoSaid' is the law's where the arguments, and the package variables that the reading takes, are together of bulk at most 1048576: NARROWER than '..Said'. Prove '..Said' where nothing that the law and all that it calls make is longer than what came in: it says more and counts as full. Else prove '..UptoSaid'. A law counts once. -/
mutual
def uptoBulk {H : Type} : DataW H → Nat
  | .lit (.string bytes) => bytes.length + 1
  | .lit _ => 1
  | .nil => 1
  | .ptr d => uptoBulk d + 1
  | .slice elems spare => uptoBulkAll elems + uptoBulkAll spare + 1
  | .agg parts => uptoBulkAll parts + 1
  | .iface _ d => uptoBulk d + 1
  | .map entries => uptoBulkEntries entries + 1
  | .held _ => 1
def uptoBulkAll {H : Type} : List (DataW H) → Nat
  | [] => 0
  | d :: r => uptoBulk d + uptoBulkAll r
def uptoBulkEntries {H : Type} : List (Lit × DataW H) → Nat
  | [] => 0
  | x :: r => uptoBulkEntry x + uptoBulkEntries r
def uptoBulkEntry {H : Type} : Lit × DataW H → Nat
  | (.string bytes, d) => bytes.length + uptoBulk d + 1
  | (_, d) => uptoBulk d + 1
 end
def uptoSmall : (H : Type) → List (DataW H) → Bool := fun _ ds => decide (uptoBulkAll ds ≤ 1048576)
def OpenSpec.upto (s : _root_.Go.ChangeSpec) : _root_.Go.OpenSpec := { _root_.Go.OpenSpec.ofChange s with cond := some uptoSmall }

/-- 'preludelaw25.MergeForged', WHERE WHAT IT READS IS OF BULK AT MOST 1048576: true; the input reads as it did. -/
def mergeForgedUptoRow : OpenClaim := { program := "ytjchneebdlncfaa", sum := "011a4e811e6099bf0c0f8dd9fb6d9de10abb095cfc7083ab4e33f21b335837a6", func := "prelude/preludelaw25.MergeForged", spec := "mergeForged", unfollowed := true, recurses := true, plainKeys := false, apart := false, narrowed := true }
def MergeForgedUptoSaid : Prop := mergeForgedUptoRow.holds Try.pinned (OpenSpec.upto mergeForgedSpec)

/-- 'preludelaw25.MergeOneLog', WHERE WHAT IT READS IS OF BULK AT MOST 1048576: true; the input reads as it did. -/
def mergeOneLogUptoRow : OpenClaim := { program := "ytjchneebdlncfaa", sum := "011a4e811e6099bf0c0f8dd9fb6d9de10abb095cfc7083ab4e33f21b335837a6", func := "prelude/preludelaw25.MergeOneLog", spec := "mergeOneLog", unfollowed := true, recurses := true, plainKeys := false, apart := false, narrowed := true }
def MergeOneLogUptoSaid : Prop := mergeOneLogUptoRow.holds Try.pinned (OpenSpec.upto mergeOneLogSpec)

/-- 'preludelaw25.MergeInputs', WHERE WHAT IT READS IS OF BULK AT MOST 1048576: true; the input reads as it did. -/
def mergeInputsUptoRow : OpenClaim := { program := "ytjchneebdlncfaa", sum := "011a4e811e6099bf0c0f8dd9fb6d9de10abb095cfc7083ab4e33f21b335837a6", func := "prelude/preludelaw25.MergeInputs", spec := "mergeInputs", unfollowed := true, recurses := true, plainKeys := false, apart := false, narrowed := true }
def MergeInputsUptoSaid : Prop := mergeInputsUptoRow.holds Try.pinned (OpenSpec.upto mergeInputsSpec)

/-- 'preludelaw25.MergePlays', WHERE WHAT IT READS IS OF BULK AT MOST 1048576: true; the input reads as it did. -/
def mergePlaysUptoRow : OpenClaim := { program := "ytjchneebdlncfaa", sum := "011a4e811e6099bf0c0f8dd9fb6d9de10abb095cfc7083ab4e33f21b335837a6", func := "prelude/preludelaw25.MergePlays", spec := "mergePlays", unfollowed := true, recurses := true, plainKeys := false, apart := false, narrowed := true }
def MergePlaysUptoSaid : Prop := mergePlaysUptoRow.holds Try.pinned (OpenSpec.upto mergePlaysSpec)

end Rows
end Go.Proofs.Ytjchneebdlncfaa
