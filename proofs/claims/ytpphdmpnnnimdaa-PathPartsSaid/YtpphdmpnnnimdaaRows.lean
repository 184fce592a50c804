/-
  No cell of these rows narrows 'for every input' (looked for: loops, veiled, ifaces, maps, wideKeys, modest, calm, conditions, laid).
  DERIVED. THE GIVEN ROWS OF THIS SEAT. 8 by the template 'for every input the law returns true; each argument reads behind the call as it read before'; 0 by the template 'total and deterministic' (their statements: YtpphdmpnnnimdaaTotals.lean).
  GIVEN WITH THE SEED: the statements are not yours to turn. If you find one false, say at which input.
  Laid BY PROGRAM, IN A SANDBOX (cutbox-rows.mjs): the forced cells as the released guide's own fill.sh prints them over the translation 78bf9096cb80ef31… (all of the seat's roots in one cut). By AI agents, Wed Nov 11 2026. No macro, syntax, notation, axiom, sorry.
-/
import Derived.Test.YtpphdmpnnnimdaaChecked
import GoSem.Claim
import GoSem.ClaimJoined
import GoSem.ClaimMapViews
import Derived.JoinedTies
import Derived.KernelRfl
namespace Go.Proofs.Ytpphdmpnnnimdaa
/- THE CELL 'sum', in the pinned program and in every row, IS THE sha256 OF THE DUMP (.gsa) THAT YtpphdmpnnnimdaaProg.lean LOADS. Nothing in Lean hashes anything: it is a label: what it is worth is what the hold of that sum in a sandbox is worth. -/
noncomputable def Try.pinned : Pinned := { name := "ytpphdmpnnnimdaa", sum := "78bf9096cb80ef3114a5021f22c78c542159d88147cbbb263b00c624442f1a36", checked := Try.checked }
namespace Rows
def none {H : Type} : Left H := { results := [], args := [] }

/-- 'brickyardlaw09.PathNorms': WHATEVER THE INPUT: true; the input reads as it did. -/
def pathNormsSpec : ChangeSpec := { name := "pathNorms", fn := fun _ => fun
  | [d] => { results := [.lit (.bool true)], args := [d] }
  | _ => none }
def pathNormsRow : OpenClaim := { program := "ytpphdmpnnnimdaa", sum := "78bf9096cb80ef3114a5021f22c78c542159d88147cbbb263b00c624442f1a36", func := "brickyard/brickyardlaw09.PathNorms", spec := "pathNorms", inPlace := ["internal/bytealg.IndexByteString", "internal/bytealg.IndexString", "internal/abi.NoEscape", "internal/bytealg.MakeNoZero"], unfollowed := true, recurses := true, named := ["internal/bytealg.MaxLen"], apart := false }
def PathNormsSaid : Prop := pathNormsRow.holds Try.pinned (OpenSpec.ofChange pathNormsSpec)

/-- ITS FALSE NEIGHBOUR: 'it returns false'. Refute it at one input. -/
def pathNormsWrong : ChangeSpec := { name := "pathNorms", fn := fun _ => fun
  | [d] => { results := [.lit (.bool false)], args := [d] }
  | _ => none }
def PathNormsWrongFalsely : Prop := pathNormsRow.holds Try.pinned (OpenSpec.ofChange pathNormsWrong)

/-- 'brickyardlaw09.PathDetours': WHATEVER THE INPUT: true; the input reads as it did. -/
def pathDetoursSpec : ChangeSpec := { name := "pathDetours", fn := fun _ => fun
  | [d1, d2] => { results := [.lit (.bool true)], args := [d1, d2] }
  | _ => none }
def pathDetoursRow : OpenClaim := { program := "ytpphdmpnnnimdaa", sum := "78bf9096cb80ef3114a5021f22c78c542159d88147cbbb263b00c624442f1a36", func := "brickyard/brickyardlaw09.PathDetours", spec := "pathDetours", inPlace := ["internal/bytealg.IndexByteString", "internal/bytealg.IndexString", "internal/abi.NoEscape", "internal/bytealg.MakeNoZero"], unfollowed := true, recurses := true, named := ["internal/bytealg.MaxLen"], apart := false }
def PathDetoursSaid : Prop := pathDetoursRow.holds Try.pinned (OpenSpec.ofChange pathDetoursSpec)

/-- ITS FALSE NEIGHBOUR: 'it returns false'. Refute it at one input. -/
def pathDetoursWrong : ChangeSpec := { name := "pathDetours", fn := fun _ => fun
  | [d1, d2] => { results := [.lit (.bool false)], args := [d1, d2] }
  | _ => none }
def PathDetoursWrongFalsely : Prop := pathDetoursRow.holds Try.pinned (OpenSpec.ofChange pathDetoursWrong)

/-- 'brickyardlaw09.PathNames': WHATEVER THE INPUT: true; the input reads as it did. -/
def pathNamesSpec : ChangeSpec := { name := "pathNames", fn := fun _ => fun
  | [] => { results := [.lit (.bool true)], args := [] }
  | _ => none }
def pathNamesRow : OpenClaim := { program := "ytpphdmpnnnimdaa", sum := "78bf9096cb80ef3114a5021f22c78c542159d88147cbbb263b00c624442f1a36", func := "brickyard/brickyardlaw09.PathNames", spec := "pathNames", inPlace := ["internal/bytealg.IndexByteString", "internal/bytealg.IndexString", "internal/abi.NoEscape", "internal/bytealg.MakeNoZero"], unfollowed := true, recurses := true, named := ["internal/bytealg.MaxLen"], apart := false }
def PathNamesSaid : Prop := pathNamesRow.holds Try.pinned (OpenSpec.ofChange pathNamesSpec)

/-- ITS FALSE NEIGHBOUR: 'it returns false'. Refute it at one input. -/
def pathNamesWrong : ChangeSpec := { name := "pathNames", fn := fun _ => fun
  | [] => { results := [.lit (.bool false)], args := [] }
  | _ => none }
def PathNamesWrongFalsely : Prop := pathNamesRow.holds Try.pinned (OpenSpec.ofChange pathNamesWrong)

/-- 'brickyardlaw09.PathParts': WHATEVER THE INPUT: true; the input reads as it did. -/
def pathPartsSpec : ChangeSpec := { name := "pathParts", fn := fun _ => fun
  | [d1, d2] => { results := [.lit (.bool true)], args := [d1, d2] }
  | _ => none }
def pathPartsRow : OpenClaim := { program := "ytpphdmpnnnimdaa", sum := "78bf9096cb80ef3114a5021f22c78c542159d88147cbbb263b00c624442f1a36", func := "brickyard/brickyardlaw09.PathParts", spec := "pathParts", inPlace := ["internal/bytealg.IndexByteString", "internal/bytealg.IndexString", "internal/abi.NoEscape", "internal/bytealg.MakeNoZero"], unfollowed := true, recurses := true, named := ["internal/bytealg.MaxLen"], apart := false }
def PathPartsSaid : Prop := pathPartsRow.holds Try.pinned (OpenSpec.ofChange pathPartsSpec)

/-- ITS FALSE NEIGHBOUR: 'it returns false'. Refute it at one input. -/
def pathPartsWrong : ChangeSpec := { name := "pathParts", fn := fun _ => fun
  | [d1, d2] => { results := [.lit (.bool false)], args := [d1, d2] }
  | _ => none }
def PathPartsWrongFalsely : Prop := pathPartsRow.holds Try.pinned (OpenSpec.ofChange pathPartsWrong)

/-- 'brickyardlaw09.PathJoins': WHATEVER THE INPUT: true; the input reads as it did. -/
def pathJoinsSpec : ChangeSpec := { name := "pathJoins", fn := fun _ => fun
  | [d1, d2] => { results := [.lit (.bool true)], args := [d1, d2] }
  | _ => none }
def pathJoinsRow : OpenClaim := { program := "ytpphdmpnnnimdaa", sum := "78bf9096cb80ef3114a5021f22c78c542159d88147cbbb263b00c624442f1a36", func := "brickyard/brickyardlaw09.PathJoins", spec := "pathJoins", inPlace := ["internal/bytealg.IndexByteString", "internal/bytealg.IndexString", "internal/abi.NoEscape", "internal/bytealg.MakeNoZero"], unfollowed := true, recurses := true, named := ["internal/bytealg.MaxLen"], apart := false }
def PathJoinsSaid : Prop := pathJoinsRow.holds Try.pinned (OpenSpec.ofChange pathJoinsSpec)

/-- ITS FALSE NEIGHBOUR: 'it returns false'. Refute it at one input. -/
def pathJoinsWrong : ChangeSpec := { name := "pathJoins", fn := fun _ => fun
  | [d1, d2] => { results := [.lit (.bool false)], args := [d1, d2] }
  | _ => none }
def PathJoinsWrongFalsely : Prop := pathJoinsRow.holds Try.pinned (OpenSpec.ofChange pathJoinsWrong)

/-- 'brickyardlaw09.PathMatches': WHATEVER THE INPUT: true; the input reads as it did. -/
def pathMatchesSpec : ChangeSpec := { name := "pathMatches", fn := fun _ => fun
  | [d1, d2] => { results := [.lit (.bool true)], args := [d1, d2] }
  | _ => none }
def pathMatchesRow : OpenClaim := { program := "ytpphdmpnnnimdaa", sum := "78bf9096cb80ef3114a5021f22c78c542159d88147cbbb263b00c624442f1a36", func := "brickyard/brickyardlaw09.PathMatches", spec := "pathMatches", inPlace := ["internal/bytealg.IndexByteString", "internal/bytealg.IndexString", "internal/abi.NoEscape", "internal/bytealg.MakeNoZero"], unfollowed := true, recurses := true, named := ["internal/bytealg.MaxLen"], apart := false }
def PathMatchesSaid : Prop := pathMatchesRow.holds Try.pinned (OpenSpec.ofChange pathMatchesSpec)

/-- ITS FALSE NEIGHBOUR: 'it returns false'. Refute it at one input. -/
def pathMatchesWrong : ChangeSpec := { name := "pathMatches", fn := fun _ => fun
  | [d1, d2] => { results := [.lit (.bool false)], args := [d1, d2] }
  | _ => none }
def PathMatchesWrongFalsely : Prop := pathMatchesRow.holds Try.pinned (OpenSpec.ofChange pathMatchesWrong)

/-- 'brickyardlaw09.PathGlobs': WHATEVER THE INPUT: true; the input reads as it did. -/
def pathGlobsSpec : ChangeSpec := { name := "pathGlobs", fn := fun _ => fun
  | [d1, d2] => { results := [.lit (.bool true)], args := [d1, d2] }
  | _ => none }
def pathGlobsRow : OpenClaim := { program := "ytpphdmpnnnimdaa", sum := "78bf9096cb80ef3114a5021f22c78c542159d88147cbbb263b00c624442f1a36", func := "brickyard/brickyardlaw09.PathGlobs", spec := "pathGlobs", inPlace := ["internal/bytealg.IndexByteString", "internal/bytealg.IndexString", "internal/abi.NoEscape", "internal/bytealg.MakeNoZero"], unfollowed := true, recurses := true, named := ["internal/bytealg.MaxLen"], apart := false }
def PathGlobsSaid : Prop := pathGlobsRow.holds Try.pinned (OpenSpec.ofChange pathGlobsSpec)

/-- ITS FALSE NEIGHBOUR: 'it returns false'. Refute it at one input. -/
def pathGlobsWrong : ChangeSpec := { name := "pathGlobs", fn := fun _ => fun
  | [d1, d2] => { results := [.lit (.bool false)], args := [d1, d2] }
  | _ => none }
def PathGlobsWrongFalsely : Prop := pathGlobsRow.holds Try.pinned (OpenSpec.ofChange pathGlobsWrong)

/-- 'brickyardlaw09.PathSides': WHATEVER THE INPUT: true; the input reads as it did. -/
def pathSidesSpec : ChangeSpec := { name := "pathSides", fn := fun _ => fun
  | [d] => { results := [.lit (.bool true)], args := [d] }
  | _ => none }
def pathSidesRow : OpenClaim := { program := "ytpphdmpnnnimdaa", sum := "78bf9096cb80ef3114a5021f22c78c542159d88147cbbb263b00c624442f1a36", func := "brickyard/brickyardlaw09.PathSides", spec := "pathSides", inPlace := ["internal/bytealg.IndexByteString", "internal/bytealg.IndexString", "internal/abi.NoEscape", "internal/bytealg.MakeNoZero"], unfollowed := true, recurses := true, named := ["internal/bytealg.MaxLen"], apart := false }
def PathSidesSaid : Prop := pathSidesRow.holds Try.pinned (OpenSpec.ofChange pathSidesSpec)

/-- ITS FALSE NEIGHBOUR: 'it returns false'. Refute it at one input. -/
def pathSidesWrong : ChangeSpec := { name := "pathSides", fn := fun _ => fun
  | [d] => { results := [.lit (.bool false)], args := [d] }
  | _ => none }
def PathSidesWrongFalsely : Prop := pathSidesRow.holds Try.pinned (OpenSpec.ofChange pathSidesWrong)

/- THE SECOND FORM. 'bulk': how many values and letters a reading holds, each counted each time it is reached (what is shared counts as often as it is met; a slice's spare places count too). A statement '..UptoSaid' is the law's where the arguments, and the package variables that the reading takes, are together of bulk at most 1048576: NARROWER than '..Said'. Prove '..Said' where nothing that the law and all that it calls make is longer than what came in: it says more and counts as full. Else prove '..UptoSaid'. A law counts once. -/
mutual
def uptoBulk {H : Type} : DataW H → Nat
  | .lit (.string bytes) => bytes.length + 1
  | .lit _ => 1
  | .nil => 1
  | .ptr d => uptoBulk d + 1
  | .slice elems spare => uptoBulkAll elems + uptoBulkAll spare + 1
  | .agg parts => uptoBulkAll parts + 1
  | .iface _ d => uptoBulk d + 1
  | .map entries => uptoBulkEntries entries + 1
  | .held _ => 1
def uptoBulkAll {H : Type} : List (DataW H) → Nat
  | [] => 0
  | d :: r => uptoBulk d + uptoBulkAll r
def uptoBulkEntries {H : Type} : List (Lit × DataW H) → Nat
  | [] => 0
  | x :: r => uptoBulkEntry x + uptoBulkEntries r
def uptoBulkEntry {H : Type} : Lit × DataW H → Nat
  | (.string bytes, d) => bytes.length + uptoBulk d + 1
  | (_, d) => uptoBulk d + 1
 end
def uptoSmall : (H : Type) → List (DataW H) → Bool := fun _ ds => decide (uptoBulkAll ds ≤ 1048576)
def OpenSpec.upto (s : _root_.Go.ChangeSpec) : _root_.Go.OpenSpec := { _root_.Go.OpenSpec.ofChange s with cond := some uptoSmall }

/-- 'brickyardlaw09.PathNorms', WHERE WHAT IT READS IS OF BULK AT MOST 1048576: true; the input reads as it did. -/
def pathNormsUptoRow : OpenClaim := { program := "ytpphdmpnnnimdaa", sum := "78bf9096cb80ef3114a5021f22c78c542159d88147cbbb263b00c624442f1a36", func := "brickyard/brickyardlaw09.PathNorms", spec := "pathNorms", inPlace := ["internal/bytealg.IndexByteString", "internal/bytealg.IndexString", "internal/abi.NoEscape", "internal/bytealg.MakeNoZero"], unfollowed := true, recurses := true, named := ["internal/bytealg.MaxLen"], apart := false, narrowed := true }
def PathNormsUptoSaid : Prop := pathNormsUptoRow.holds Try.pinned (OpenSpec.upto pathNormsSpec)

/-- 'brickyardlaw09.PathDetours', WHERE WHAT IT READS IS OF BULK AT MOST 1048576: true; the input reads as it did. -/
def pathDetoursUptoRow : OpenClaim := { program := "ytpphdmpnnnimdaa", sum := "78bf9096cb80ef3114a5021f22c78c542159d88147cbbb263b00c624442f1a36", func := "brickyard/brickyardlaw09.PathDetours", spec := "pathDetours", inPlace := ["internal/bytealg.IndexByteString", "internal/bytealg.IndexString", "internal/abi.NoEscape", "internal/bytealg.MakeNoZero"], unfollowed := true, recurses := true, named := ["internal/bytealg.MaxLen"], apart := false, narrowed := true }
def PathDetoursUptoSaid : Prop := pathDetoursUptoRow.holds Try.pinned (OpenSpec.upto pathDetoursSpec)

/-- 'brickyardlaw09.PathNames', WHERE WHAT IT READS IS OF BULK AT MOST 1048576: true; the input reads as it did. -/
def pathNamesUptoRow : OpenClaim := { program := "ytpphdmpnnnimdaa", sum := "78bf9096cb80ef3114a5021f22c78c542159d88147cbbb263b00c624442f1a36", func := "brickyard/brickyardlaw09.PathNames", spec := "pathNames", inPlace := ["internal/bytealg.IndexByteString", "internal/bytealg.IndexString", "internal/abi.NoEscape", "internal/bytealg.MakeNoZero"], unfollowed := true, recurses := true, named := ["internal/bytealg.MaxLen"], apart := false, narrowed := true }
def PathNamesUptoSaid : Prop := pathNamesUptoRow.holds Try.pinned (OpenSpec.upto pathNamesSpec)

/-- 'brickyardlaw09.PathParts', WHERE WHAT IT READS IS OF BULK AT MOST 1048576: true; the input reads as it did. -/
def pathPartsUptoRow : OpenClaim := { program := "ytpphdmpnnnimdaa", sum := "78bf9096cb80ef3114a5021f22c78c542159d88147cbbb263b00c624442f1a36", func := "brickyard/brickyardlaw09.PathParts", spec := "pathParts", inPlace := ["internal/bytealg.IndexByteString", "internal/bytealg.IndexString", "internal/abi.NoEscape", "internal/bytealg.MakeNoZero"], unfollowed := true, recurses := true, named := ["internal/bytealg.MaxLen"], apart := false, narrowed := true }
def PathPartsUptoSaid : Prop := pathPartsUptoRow.holds Try.pinned (OpenSpec.upto pathPartsSpec)

/-- 'brickyardlaw09.PathJoins', WHERE WHAT IT READS IS OF BULK AT MOST 1048576: true; the input reads as it did. -/
def pathJoinsUptoRow : OpenClaim := { program := "ytpphdmpnnnimdaa", sum := "78bf9096cb80ef3114a5021f22c78c542159d88147cbbb263b00c624442f1a36", func := "brickyard/brickyardlaw09.PathJoins", spec := "pathJoins", inPlace := ["internal/bytealg.IndexByteString", "internal/bytealg.IndexString", "internal/abi.NoEscape", "internal/bytealg.MakeNoZero"], unfollowed := true, recurses := true, named := ["internal/bytealg.MaxLen"], apart := false, narrowed := true }
def PathJoinsUptoSaid : Prop := pathJoinsUptoRow.holds Try.pinned (OpenSpec.upto pathJoinsSpec)

/-- 'brickyardlaw09.PathMatches', WHERE WHAT IT READS IS OF BULK AT MOST 1048576: true; the input reads as it did. -/
def pathMatchesUptoRow : OpenClaim := { program := "ytpphdmpnnnimdaa", sum := "78bf9096cb80ef3114a5021f22c78c542159d88147cbbb263b00c624442f1a36", func := "brickyard/brickyardlaw09.PathMatches", spec := "pathMatches", inPlace := ["internal/bytealg.IndexByteString", "internal/bytealg.IndexString", "internal/abi.NoEscape", "internal/bytealg.MakeNoZero"], unfollowed := true, recurses := true, named := ["internal/bytealg.MaxLen"], apart := false, narrowed := true }
def PathMatchesUptoSaid : Prop := pathMatchesUptoRow.holds Try.pinned (OpenSpec.upto pathMatchesSpec)

/-- 'brickyardlaw09.PathGlobs', WHERE WHAT IT READS IS OF BULK AT MOST 1048576: true; the input reads as it did. -/
def pathGlobsUptoRow : OpenClaim := { program := "ytpphdmpnnnimdaa", sum := "78bf9096cb80ef3114a5021f22c78c542159d88147cbbb263b00c624442f1a36", func := "brickyard/brickyardlaw09.PathGlobs", spec := "pathGlobs", inPlace := ["internal/bytealg.IndexByteString", "internal/bytealg.IndexString", "internal/abi.NoEscape", "internal/bytealg.MakeNoZero"], unfollowed := true, recurses := true, named := ["internal/bytealg.MaxLen"], apart := false, narrowed := true }
def PathGlobsUptoSaid : Prop := pathGlobsUptoRow.holds Try.pinned (OpenSpec.upto pathGlobsSpec)

/-- 'brickyardlaw09.PathSides', WHERE WHAT IT READS IS OF BULK AT MOST 1048576: true; the input reads as it did. -/
def pathSidesUptoRow : OpenClaim := { program := "ytpphdmpnnnimdaa", sum := "78bf9096cb80ef3114a5021f22c78c542159d88147cbbb263b00c624442f1a36", func := "brickyard/brickyardlaw09.PathSides", spec := "pathSides", inPlace := ["internal/bytealg.IndexByteString", "internal/bytealg.IndexString", "internal/abi.NoEscape", "internal/bytealg.MakeNoZero"], unfollowed := true, recurses := true, named := ["internal/bytealg.MaxLen"], apart := false, narrowed := true }
def PathSidesUptoSaid : Prop := pathSidesUptoRow.holds Try.pinned (OpenSpec.upto pathSidesSpec)

end Rows
end Go.Proofs.Ytpphdmpnnnimdaa
