/-
  NARROWER THAN 'FOR EVERY INPUT', by the rows' own cells (each row's printed sentence says how): ProofSums: laid · ProofNodes: laid · ProofVerifies: laid · ProofDiffs: laid · ProofTrees: laid · ProofTrue: laid · ProofRoots: laid · ProofFinds: laid · ProofChanges: laid.
  DERIVED. THE GIVEN ROWS OF THIS SEAT. 9 by the template 'for every input the law returns true; each argument reads behind the call as it read before'; 0 by the template 'total and deterministic' (their statements: YtjkbjppopdfggaaDoorTotals.lean).
  GIVEN WITH THE SEED: the statements are not yours to turn. If you find one false, say at which input.
  Laid BY PROGRAM, IN A SANDBOX (cutbox-rows.mjs): the forced cells as the released guide's own fill.sh prints them over the translation 17de2addca26da38… (all of the seat's roots in one cut). By AI agents, Wed Nov 11 2026. No macro, syntax, notation, axiom, sorry.
-/
import Derived.Test.YtjkbjppopdfggaaDoorChecked
import GoSem.Claim
import GoSem.ClaimJoined
import GoSem.ClaimMapViews
import Derived.JoinedTies
import Derived.KernelRfl
namespace Go.Proofs.YtjkbjppopdfggaaDoor
/- THE CELL 'sum', in the pinned program and in every row, IS THE sha256 OF THE DUMP (.gsa) THAT YtjkbjppopdfggaaDoorProg.lean LOADS. Nothing in Lean hashes anything: it is a label: what it is worth is what the hold of that sum in a sandbox is worth. -/
noncomputable def Tryd.pinned : Pinned := { name := "ytjkbjppopdfggaadoor", sum := "17de2addca26da3843df22bae4cd046a6c18cd72d58ebccee0d4e3b73c3684ca", checked := Tryd.checked }
namespace Rows
def none {H : Type} : Left H := { results := [], args := [] }

/- WHAT THE LISTED PACKAGE-LEVEL VARIABLES READ AS WHEN THE CALL BEGINS. Each datum BY PROGRAM (the guide's laid-datum.mjs) off the statement by which the dump's own 'gosem.cut.vars' lays the variable. In a bare row this is a premise. The card (YtjkbjppopdfggaaDoorCards.lean) ties it to the program's text. -/
def laid_prelude_proof_start {H : Type} : DataW H := .agg [.lit (.int .u32 1779033703), .lit (.int .u32 3144134277), .lit (.int .u32 1013904242), .lit (.int .u32 2773480762), .lit (.int .u32 1359893119), .lit (.int .u32 2600822924), .lit (.int .u32 528734635), .lit (.int .u32 1541459225)]
def laid_prelude_proof_rounds {H : Type} : DataW H := .agg [.lit (.int .u32 1116352408), .lit (.int .u32 1899447441), .lit (.int .u32 3049323471), .lit (.int .u32 3921009573), .lit (.int .u32 961987163), .lit (.int .u32 1508970993), .lit (.int .u32 2453635748), .lit (.int .u32 2870763221), .lit (.int .u32 3624381080), .lit (.int .u32 310598401), .lit (.int .u32 607225278), .lit (.int .u32 1426881987), .lit (.int .u32 1925078388), .lit (.int .u32 2162078206), .lit (.int .u32 2614888103), .lit (.int .u32 3248222580), .lit (.int .u32 3835390401), .lit (.int .u32 4022224774), .lit (.int .u32 264347078), .lit (.int .u32 604807628), .lit (.int .u32 770255983), .lit (.int .u32 1249150122), .lit (.int .u32 1555081692), .lit (.int .u32 1996064986), .lit (.int .u32 2554220882), .lit (.int .u32 2821834349), .lit (.int .u32 2952996808), .lit (.int .u32 3210313671), .lit (.int .u32 3336571891), .lit (.int .u32 3584528711), .lit (.int .u32 113926993), .lit (.int .u32 338241895), .lit (.int .u32 666307205), .lit (.int .u32 773529912), .lit (.int .u32 1294757372), .lit (.int .u32 1396182291), .lit (.int .u32 1695183700), .lit (.int .u32 1986661051), .lit (.int .u32 2177026350), .lit (.int .u32 2456956037), .lit (.int .u32 2730485921), .lit (.int .u32 2820302411), .lit (.int .u32 3259730800), .lit (.int .u32 3345764771), .lit (.int .u32 3516065817), .lit (.int .u32 3600352804), .lit (.int .u32 4094571909), .lit (.int .u32 275423344), .lit (.int .u32 430227734), .lit (.int .u32 506948616), .lit (.int .u32 659060556), .lit (.int .u32 883997877), .lit (.int .u32 958139571), .lit (.int .u32 1322822218), .lit (.int .u32 1537002063), .lit (.int .u32 1747873779), .lit (.int .u32 1955562222), .lit (.int .u32 2024104815), .lit (.int .u32 2227730452), .lit (.int .u32 2361852424), .lit (.int .u32 2428436474), .lit (.int .u32 2756734187), .lit (.int .u32 3204031479), .lit (.int .u32 3329325298)]

/-- 'preludelaw24.ProofSums': WHATEVER THE INPUT: true; the input reads as it did. -/
def proofSumsSpec : ChangeSpec := { name := "proofSums", fn := fun _ => fun
  | [d] => { results := [.lit (.bool true)], args := [d] }
  | _ => none }
def proofSumsRow : OpenClaim := { program := "ytjkbjppopdfggaadoor", sum := "17de2addca26da3843df22bae4cd046a6c18cd72d58ebccee0d4e3b73c3684ca", func := "prelude/preludelaw24.ProofSums", spec := "proofSums", named := ["prelude/proof.start", "prelude/proof.rounds"], plainKeys := false, apart := false, laid := [("prelude/proof.start", laid_prelude_proof_start), ("prelude/proof.rounds", laid_prelude_proof_rounds)] }
def ProofSumsSaid : Prop := proofSumsRow.holds Tryd.pinned (OpenSpec.ofChange proofSumsSpec)

/-- ITS FALSE NEIGHBOUR: 'it returns false'. Refute it at one input. -/
def proofSumsWrong : ChangeSpec := { name := "proofSums", fn := fun _ => fun
  | [d] => { results := [.lit (.bool false)], args := [d] }
  | _ => none }
def ProofSumsWrongFalsely : Prop := proofSumsRow.holds Tryd.pinned (OpenSpec.ofChange proofSumsWrong)

/-- 'preludelaw24.ProofNodes': WHATEVER THE INPUT: true; the input reads as it did. -/
def proofNodesSpec : ChangeSpec := { name := "proofNodes", fn := fun _ => fun
  | [d] => { results := [.lit (.bool true)], args := [d] }
  | _ => none }
def proofNodesRow : OpenClaim := { program := "ytjkbjppopdfggaadoor", sum := "17de2addca26da3843df22bae4cd046a6c18cd72d58ebccee0d4e3b73c3684ca", func := "prelude/preludelaw24.ProofNodes", spec := "proofNodes", named := ["prelude/proof.start", "prelude/proof.rounds"], plainKeys := false, apart := false, laid := [("prelude/proof.start", laid_prelude_proof_start), ("prelude/proof.rounds", laid_prelude_proof_rounds)] }
def ProofNodesSaid : Prop := proofNodesRow.holds Tryd.pinned (OpenSpec.ofChange proofNodesSpec)

/-- ITS FALSE NEIGHBOUR: 'it returns false'. Refute it at one input. -/
def proofNodesWrong : ChangeSpec := { name := "proofNodes", fn := fun _ => fun
  | [d] => { results := [.lit (.bool false)], args := [d] }
  | _ => none }
def ProofNodesWrongFalsely : Prop := proofNodesRow.holds Tryd.pinned (OpenSpec.ofChange proofNodesWrong)

/-- 'preludelaw24.ProofVerifies': WHATEVER THE INPUT: true; the input reads as it did. -/
def proofVerifiesSpec : ChangeSpec := { name := "proofVerifies", fn := fun _ => fun
  | [d1, d2, d3] => { results := [.lit (.bool true)], args := [d1, d2, d3] }
  | _ => none }
def proofVerifiesRow : OpenClaim := { program := "ytjkbjppopdfggaadoor", sum := "17de2addca26da3843df22bae4cd046a6c18cd72d58ebccee0d4e3b73c3684ca", func := "prelude/preludelaw24.ProofVerifies", spec := "proofVerifies", unfollowed := true, recurses := true, named := ["prelude/proof.start", "prelude/proof.rounds"], plainKeys := false, apart := false, laid := [("prelude/proof.start", laid_prelude_proof_start), ("prelude/proof.rounds", laid_prelude_proof_rounds)] }
def ProofVerifiesSaid : Prop := proofVerifiesRow.holds Tryd.pinned (OpenSpec.ofChange proofVerifiesSpec)

/-- ITS FALSE NEIGHBOUR: 'it returns false'. Refute it at one input. -/
def proofVerifiesWrong : ChangeSpec := { name := "proofVerifies", fn := fun _ => fun
  | [d1, d2, d3] => { results := [.lit (.bool false)], args := [d1, d2, d3] }
  | _ => none }
def ProofVerifiesWrongFalsely : Prop := proofVerifiesRow.holds Tryd.pinned (OpenSpec.ofChange proofVerifiesWrong)

/-- 'preludelaw24.ProofDiffs': WHATEVER THE INPUT: true; the input reads as it did. -/
def proofDiffsSpec : ChangeSpec := { name := "proofDiffs", fn := fun _ => fun
  | [d1, d2] => { results := [.lit (.bool true)], args := [d1, d2] }
  | _ => none }
def proofDiffsRow : OpenClaim := { program := "ytjkbjppopdfggaadoor", sum := "17de2addca26da3843df22bae4cd046a6c18cd72d58ebccee0d4e3b73c3684ca", func := "prelude/preludelaw24.ProofDiffs", spec := "proofDiffs", unfollowed := true, recurses := true, named := ["prelude/proof.start", "prelude/proof.rounds"], plainKeys := false, apart := false, laid := [("prelude/proof.start", laid_prelude_proof_start), ("prelude/proof.rounds", laid_prelude_proof_rounds)] }
def ProofDiffsSaid : Prop := proofDiffsRow.holds Tryd.pinned (OpenSpec.ofChange proofDiffsSpec)

/-- ITS FALSE NEIGHBOUR: 'it returns false'. Refute it at one input. -/
def proofDiffsWrong : ChangeSpec := { name := "proofDiffs", fn := fun _ => fun
  | [d1, d2] => { results := [.lit (.bool false)], args := [d1, d2] }
  | _ => none }
def ProofDiffsWrongFalsely : Prop := proofDiffsRow.holds Tryd.pinned (OpenSpec.ofChange proofDiffsWrong)

/-- 'preludelaw24.ProofTrees': WHATEVER THE INPUT: true; the input reads as it did. -/
def proofTreesSpec : ChangeSpec := { name := "proofTrees", fn := fun _ => fun
  | [d1, d2, d3] => { results := [.lit (.bool true)], args := [d1, d2, d3] }
  | _ => none }
def proofTreesRow : OpenClaim := { program := "ytjkbjppopdfggaadoor", sum := "17de2addca26da3843df22bae4cd046a6c18cd72d58ebccee0d4e3b73c3684ca", func := "prelude/preludelaw24.ProofTrees", spec := "proofTrees", unfollowed := true, recurses := true, named := ["prelude/proof.start", "prelude/proof.rounds"], plainKeys := false, apart := false, laid := [("prelude/proof.start", laid_prelude_proof_start), ("prelude/proof.rounds", laid_prelude_proof_rounds)] }
def ProofTreesSaid : Prop := proofTreesRow.holds Tryd.pinned (OpenSpec.ofChange proofTreesSpec)

/-- ITS FALSE NEIGHBOUR: 'it returns false'. Refute it at one input. -/
def proofTreesWrong : ChangeSpec := { name := "proofTrees", fn := fun _ => fun
  | [d1, d2, d3] => { results := [.lit (.bool false)], args := [d1, d2, d3] }
  | _ => none }
def ProofTreesWrongFalsely : Prop := proofTreesRow.holds Tryd.pinned (OpenSpec.ofChange proofTreesWrong)

/-- 'preludelaw24.ProofTrue': WHATEVER THE INPUT: true; the input reads as it did. -/
def proofTrueSpec : ChangeSpec := { name := "proofTrue", fn := fun _ => fun
  | [d1, d2, d3] => { results := [.lit (.bool true)], args := [d1, d2, d3] }
  | _ => none }
def proofTrueRow : OpenClaim := { program := "ytjkbjppopdfggaadoor", sum := "17de2addca26da3843df22bae4cd046a6c18cd72d58ebccee0d4e3b73c3684ca", func := "prelude/preludelaw24.ProofTrue", spec := "proofTrue", unfollowed := true, recurses := true, named := ["prelude/proof.start", "prelude/proof.rounds"], plainKeys := false, apart := false, laid := [("prelude/proof.start", laid_prelude_proof_start), ("prelude/proof.rounds", laid_prelude_proof_rounds)] }
def ProofTrueSaid : Prop := proofTrueRow.holds Tryd.pinned (OpenSpec.ofChange proofTrueSpec)

/-- ITS FALSE NEIGHBOUR: 'it returns false'. Refute it at one input. -/
def proofTrueWrong : ChangeSpec := { name := "proofTrue", fn := fun _ => fun
  | [d1, d2, d3] => { results := [.lit (.bool false)], args := [d1, d2, d3] }
  | _ => none }
def ProofTrueWrongFalsely : Prop := proofTrueRow.holds Tryd.pinned (OpenSpec.ofChange proofTrueWrong)

/-- 'preludelaw24.ProofRoots': WHATEVER THE INPUT: true; the input reads as it did. -/
def proofRootsSpec : ChangeSpec := { name := "proofRoots", fn := fun _ => fun
  | [d1, d2] => { results := [.lit (.bool true)], args := [d1, d2] }
  | _ => none }
def proofRootsRow : OpenClaim := { program := "ytjkbjppopdfggaadoor", sum := "17de2addca26da3843df22bae4cd046a6c18cd72d58ebccee0d4e3b73c3684ca", func := "prelude/preludelaw24.ProofRoots", spec := "proofRoots", unfollowed := true, recurses := true, named := ["prelude/proof.start", "prelude/proof.rounds"], plainKeys := false, apart := false, laid := [("prelude/proof.start", laid_prelude_proof_start), ("prelude/proof.rounds", laid_prelude_proof_rounds)] }
def ProofRootsSaid : Prop := proofRootsRow.holds Tryd.pinned (OpenSpec.ofChange proofRootsSpec)

/-- ITS FALSE NEIGHBOUR: 'it returns false'. Refute it at one input. -/
def proofRootsWrong : ChangeSpec := { name := "proofRoots", fn := fun _ => fun
  | [d1, d2] => { results := [.lit (.bool false)], args := [d1, d2] }
  | _ => none }
def ProofRootsWrongFalsely : Prop := proofRootsRow.holds Tryd.pinned (OpenSpec.ofChange proofRootsWrong)

/-- 'preludelaw24.ProofFinds': WHATEVER THE INPUT: true; the input reads as it did. -/
def proofFindsSpec : ChangeSpec := { name := "proofFinds", fn := fun _ => fun
  | [d1, d2] => { results := [.lit (.bool true)], args := [d1, d2] }
  | _ => none }
def proofFindsRow : OpenClaim := { program := "ytjkbjppopdfggaadoor", sum := "17de2addca26da3843df22bae4cd046a6c18cd72d58ebccee0d4e3b73c3684ca", func := "prelude/preludelaw24.ProofFinds", spec := "proofFinds", unfollowed := true, recurses := true, named := ["prelude/proof.start", "prelude/proof.rounds"], plainKeys := false, apart := false, laid := [("prelude/proof.start", laid_prelude_proof_start), ("prelude/proof.rounds", laid_prelude_proof_rounds)] }
def ProofFindsSaid : Prop := proofFindsRow.holds Tryd.pinned (OpenSpec.ofChange proofFindsSpec)

/-- ITS FALSE NEIGHBOUR: 'it returns false'. Refute it at one input. -/
def proofFindsWrong : ChangeSpec := { name := "proofFinds", fn := fun _ => fun
  | [d1, d2] => { results := [.lit (.bool false)], args := [d1, d2] }
  | _ => none }
def ProofFindsWrongFalsely : Prop := proofFindsRow.holds Tryd.pinned (OpenSpec.ofChange proofFindsWrong)

/-- 'preludelaw24.ProofChanges': WHATEVER THE INPUT: true; the input reads as it did. -/
def proofChangesSpec : ChangeSpec := { name := "proofChanges", fn := fun _ => fun
  | [d1, d2, d3] => { results := [.lit (.bool true)], args := [d1, d2, d3] }
  | _ => none }
def proofChangesRow : OpenClaim := { program := "ytjkbjppopdfggaadoor", sum := "17de2addca26da3843df22bae4cd046a6c18cd72d58ebccee0d4e3b73c3684ca", func := "prelude/preludelaw24.ProofChanges", spec := "proofChanges", unfollowed := true, recurses := true, named := ["prelude/proof.start", "prelude/proof.rounds"], plainKeys := false, apart := false, laid := [("prelude/proof.start", laid_prelude_proof_start), ("prelude/proof.rounds", laid_prelude_proof_rounds)] }
def ProofChangesSaid : Prop := proofChangesRow.holds Tryd.pinned (OpenSpec.ofChange proofChangesSpec)

/-- ITS FALSE NEIGHBOUR: 'it returns false'. Refute it at one input. -/
def proofChangesWrong : ChangeSpec := { name := "proofChanges", fn := fun _ => fun
  | [d1, d2, d3] => { results := [.lit (.bool false)], args := [d1, d2, d3] }
  | _ => none }
def ProofChangesWrongFalsely : Prop := proofChangesRow.holds Tryd.pinned (OpenSpec.ofChange proofChangesWrong)

/- THE SECOND FORM. 'bulk': how many values and letters a reading holds, each counted each time it is reached (what is shared counts as often as it is met; a slice's spare places count too). A statement '..UptoSaid' is the law's where the arguments, and the package variables that the reading takes, are together of bulk at most 1048576: NARROWER than '..Said'. Prove '..Said' where nothing that the law and all that it calls make is longer than what came in: it says more and counts as full. Else prove '..UptoSaid'. A law counts once. -/
mutual
def uptoBulk {H : Type} : DataW H → Nat
  | .lit (.string bytes) => bytes.length + 1
  | .lit _ => 1
  | .nil => 1
  | .ptr d => uptoBulk d + 1
  | .slice elems spare => uptoBulkAll elems + uptoBulkAll spare + 1
  | .agg parts => uptoBulkAll parts + 1
  | .iface _ d => uptoBulk d + 1
  | .map entries => uptoBulkEntries entries + 1
  | .held _ => 1
def uptoBulkAll {H : Type} : List (DataW H) → Nat
  | [] => 0
  | d :: r => uptoBulk d + uptoBulkAll r
def uptoBulkEntries {H : Type} : List (Lit × DataW H) → Nat
  | [] => 0
  | x :: r => uptoBulkEntry x + uptoBulkEntries r
def uptoBulkEntry {H : Type} : Lit × DataW H → Nat
  | (.string bytes, d) => bytes.length + uptoBulk d + 1
  | (_, d) => uptoBulk d + 1
 end
def uptoSmall : (H : Type) → List (DataW H) → Bool := fun _ ds => decide (uptoBulkAll ds ≤ 1048576)
def OpenSpec.upto (s : _root_.Go.ChangeSpec) : _root_.Go.OpenSpec := { _root_.Go.OpenSpec.ofChange s with cond := some uptoSmall }

/-- 'preludelaw24.ProofSums', WHERE WHAT IT READS IS OF BULK AT MOST 1048576: true; the input reads as it did. -/
def proofSumsUptoRow : OpenClaim := { program := "ytjkbjppopdfggaadoor", sum := "17de2addca26da3843df22bae4cd046a6c18cd72d58ebccee0d4e3b73c3684ca", func := "prelude/preludelaw24.ProofSums", spec := "proofSums", named := ["prelude/proof.start", "prelude/proof.rounds"], plainKeys := false, apart := false, laid := [("prelude/proof.start", laid_prelude_proof_start), ("prelude/proof.rounds", laid_prelude_proof_rounds)], narrowed := true }
def ProofSumsUptoSaid : Prop := proofSumsUptoRow.holds Tryd.pinned (OpenSpec.upto proofSumsSpec)

/-- 'preludelaw24.ProofNodes', WHERE WHAT IT READS IS OF BULK AT MOST 1048576: true; the input reads as it did. -/
def proofNodesUptoRow : OpenClaim := { program := "ytjkbjppopdfggaadoor", sum := "17de2addca26da3843df22bae4cd046a6c18cd72d58ebccee0d4e3b73c3684ca", func := "prelude/preludelaw24.ProofNodes", spec := "proofNodes", named := ["prelude/proof.start", "prelude/proof.rounds"], plainKeys := false, apart := false, laid := [("prelude/proof.start", laid_prelude_proof_start), ("prelude/proof.rounds", laid_prelude_proof_rounds)], narrowed := true }
def ProofNodesUptoSaid : Prop := proofNodesUptoRow.holds Tryd.pinned (OpenSpec.upto proofNodesSpec)

/-- 'preludelaw24.ProofVerifies', WHERE WHAT IT READS IS OF BULK AT MOST 1048576: true; the input reads as it did. -/
def proofVerifiesUptoRow : OpenClaim := { program := "ytjkbjppopdfggaadoor", sum := "17de2addca26da3843df22bae4cd046a6c18cd72d58ebccee0d4e3b73c3684ca", func := "prelude/preludelaw24.ProofVerifies", spec := "proofVerifies", unfollowed := true, recurses := true, named := ["prelude/proof.start", "prelude/proof.rounds"], plainKeys := false, apart := false, laid := [("prelude/proof.start", laid_prelude_proof_start), ("prelude/proof.rounds", laid_prelude_proof_rounds)], narrowed := true }
def ProofVerifiesUptoSaid : Prop := proofVerifiesUptoRow.holds Tryd.pinned (OpenSpec.upto proofVerifiesSpec)

/-- 'preludelaw24.ProofDiffs', WHERE WHAT IT READS IS OF BULK AT MOST 1048576: true; the input reads as it did. -/
def proofDiffsUptoRow : OpenClaim := { program := "ytjkbjppopdfggaadoor", sum := "17de2addca26da3843df22bae4cd046a6c18cd72d58ebccee0d4e3b73c3684ca", func := "prelude/preludelaw24.ProofDiffs", spec := "proofDiffs", unfollowed := true, recurses := true, named := ["prelude/proof.start", "prelude/proof.rounds"], plainKeys := false, apart := false, laid := [("prelude/proof.start", laid_prelude_proof_start), ("prelude/proof.rounds", laid_prelude_proof_rounds)], narrowed := true }
def ProofDiffsUptoSaid : Prop := proofDiffsUptoRow.holds Tryd.pinned (OpenSpec.upto proofDiffsSpec)

/-- 'preludelaw24.ProofTrees', WHERE WHAT IT READS IS OF BULK AT MOST 1048576: true; the input reads as it did. -/
def proofTreesUptoRow : OpenClaim := { program := "ytjkbjppopdfggaadoor", sum := "17de2addca26da3843df22bae4cd046a6c18cd72d58ebccee0d4e3b73c3684ca", func := "prelude/preludelaw24.ProofTrees", spec := "proofTrees", unfollowed := true, recurses := true, named := ["prelude/proof.start", "prelude/proof.rounds"], plainKeys := false, apart := false, laid := [("prelude/proof.start", laid_prelude_proof_start), ("prelude/proof.rounds", laid_prelude_proof_rounds)], narrowed := true }
def ProofTreesUptoSaid : Prop := proofTreesUptoRow.holds Tryd.pinned (OpenSpec.upto proofTreesSpec)

/-- 'preludelaw24.ProofTrue', WHERE WHAT IT READS IS OF BULK AT MOST 1048576: true; the input reads as it did. -/
def proofTrueUptoRow : OpenClaim := { program := "ytjkbjppopdfggaadoor", sum := "17de2addca26da3843df22bae4cd046a6c18cd72d58ebccee0d4e3b73c3684ca", func := "prelude/preludelaw24.ProofTrue", spec := "proofTrue", unfollowed := true, recurses := true, named := ["prelude/proof.start", "prelude/proof.rounds"], plainKeys := false, apart := false, laid := [("prelude/proof.start", laid_prelude_proof_start), ("prelude/proof.rounds", laid_prelude_proof_rounds)], narrowed := true }
def ProofTrueUptoSaid : Prop := proofTrueUptoRow.holds Tryd.pinned (OpenSpec.upto proofTrueSpec)

/-- 'preludelaw24.ProofRoots', WHERE WHAT IT READS IS OF BULK AT MOST 1048576: true; the input reads as it did. -/
def proofRootsUptoRow : OpenClaim := { program := "ytjkbjppopdfggaadoor", sum := "17de2addca26da3843df22bae4cd046a6c18cd72d58ebccee0d4e3b73c3684ca", func := "prelude/preludelaw24.ProofRoots", spec := "proofRoots", unfollowed := true, recurses := true, named := ["prelude/proof.start", "prelude/proof.rounds"], plainKeys := false, apart := false, laid := [("prelude/proof.start", laid_prelude_proof_start), ("prelude/proof.rounds", laid_prelude_proof_rounds)], narrowed := true }
def ProofRootsUptoSaid : Prop := proofRootsUptoRow.holds Tryd.pinned (OpenSpec.upto proofRootsSpec)

/-- 'preludelaw24.ProofFinds', WHERE WHAT IT READS IS OF BULK AT MOST 1048576: true; the input reads as it did. -/
def proofFindsUptoRow : OpenClaim := { program := "ytjkbjppopdfggaadoor", sum := "17de2addca26da3843df22bae4cd046a6c18cd72d58ebccee0d4e3b73c3684ca", func := "prelude/preludelaw24.ProofFinds", spec := "proofFinds", unfollowed := true, recurses := true, named := ["prelude/proof.start", "prelude/proof.rounds"], plainKeys := false, apart := false, laid := [("prelude/proof.start", laid_prelude_proof_start), ("prelude/proof.rounds", laid_prelude_proof_rounds)], narrowed := true }
def ProofFindsUptoSaid : Prop := proofFindsUptoRow.holds Tryd.pinned (OpenSpec.upto proofFindsSpec)

/-- 'preludelaw24.ProofChanges', WHERE WHAT IT READS IS OF BULK AT MOST 1048576: true; the input reads as it did. -/
def proofChangesUptoRow : OpenClaim := { program := "ytjkbjppopdfggaadoor", sum := "17de2addca26da3843df22bae4cd046a6c18cd72d58ebccee0d4e3b73c3684ca", func := "prelude/preludelaw24.ProofChanges", spec := "proofChanges", unfollowed := true, recurses := true, named := ["prelude/proof.start", "prelude/proof.rounds"], plainKeys := false, apart := false, laid := [("prelude/proof.start", laid_prelude_proof_start), ("prelude/proof.rounds", laid_prelude_proof_rounds)], narrowed := true }
def ProofChangesUptoSaid : Prop := proofChangesUptoRow.holds Tryd.pinned (OpenSpec.upto proofChangesSpec)

end Rows
end Go.Proofs.YtjkbjppopdfggaaDoor
