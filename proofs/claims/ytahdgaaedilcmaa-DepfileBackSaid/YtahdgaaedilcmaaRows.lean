/-
  No cell of these rows narrows 'for every input' (looked for: loops, veiled, ifaces, maps, wideKeys, modest, calm, conditions, laid).
  DERIVED. THE GIVEN ROWS OF THIS SEAT. 8 by the template 'for every input the law returns true; each argument reads behind the call as it read before'; 0 by the template 'total and deterministic' (their statements: YtahdgaaedilcmaaTotals.lean).
  GIVEN WITH THE SEED: the statements are not yours to turn. If you find one false, say at which input.
  Laid BY PROGRAM, IN A SANDBOX (cutbox-rows.mjs): the forced cells as the released guide's own fill.sh prints them over the translation aba0d01b1699dfd6… (all of the seat's roots in one cut). By AI agents, Wed Nov 11 2026. No macro, syntax, notation, axiom, sorry.
-/
import Derived.Test.YtahdgaaedilcmaaChecked
import GoSem.Claim
import GoSem.ClaimJoined
import GoSem.ClaimMapViews
import Derived.JoinedTies
import Derived.KernelRfl
namespace Go.Proofs.Ytahdgaaedilcmaa
/- THE CELL 'sum', in the pinned program and in every row, IS THE sha256 OF THE DUMP (.gsa) THAT YtahdgaaedilcmaaProg.lean LOADS. Nothing in Lean hashes anything: it is a label: what it is worth is what the hold of that sum in a sandbox is worth. -/
noncomputable def Try.pinned : Pinned := { name := "ytahdgaaedilcmaa", sum := "aba0d01b1699dfd6fbbebd2601c14fc8e0658ae7fd8f01a240129a48b493dff4", checked := Try.checked }
namespace Rows
def none {H : Type} : Left H := { results := [], args := [] }

/-- 'brickyardlaw16.DepfileParses': WHATEVER THE INPUT: true; the input reads as it did. -/
def depfileParsesSpec : ChangeSpec := { name := "depfileParses", fn := fun _ => fun
  | [d] => { results := [.lit (.bool true)], args := [d] }
  | _ => none }
def depfileParsesRow : OpenClaim := { program := "ytahdgaaedilcmaa", sum := "aba0d01b1699dfd6fbbebd2601c14fc8e0658ae7fd8f01a240129a48b493dff4", func := "brickyard/brickyardlaw16.DepfileParses", spec := "depfileParses", inPlace := ["internal/bytealg.IndexByteString", "internal/bytealg.IndexString"], unfollowed := true, recurses := true, named := ["internal/bytealg.MaxLen"], apart := false }
def DepfileParsesSaid : Prop := depfileParsesRow.holds Try.pinned (OpenSpec.ofChange depfileParsesSpec)

/-- ITS FALSE NEIGHBOUR: 'it returns false'. Refute it at one input. -/
def depfileParsesWrong : ChangeSpec := { name := "depfileParses", fn := fun _ => fun
  | [d] => { results := [.lit (.bool false)], args := [d] }
  | _ => none }
def DepfileParsesWrongFalsely : Prop := depfileParsesRow.holds Try.pinned (OpenSpec.ofChange depfileParsesWrong)

/-- 'brickyardlaw16.DepfileTwo': WHATEVER THE INPUT: true; the input reads as it did. -/
def depfileTwoSpec : ChangeSpec := { name := "depfileTwo", fn := fun _ => fun
  | [d1, d2] => { results := [.lit (.bool true)], args := [d1, d2] }
  | _ => none }
def depfileTwoRow : OpenClaim := { program := "ytahdgaaedilcmaa", sum := "aba0d01b1699dfd6fbbebd2601c14fc8e0658ae7fd8f01a240129a48b493dff4", func := "brickyard/brickyardlaw16.DepfileTwo", spec := "depfileTwo", inPlace := ["internal/bytealg.IndexByteString", "internal/bytealg.IndexString"], unfollowed := true, recurses := true, named := ["internal/bytealg.MaxLen"], apart := false }
def DepfileTwoSaid : Prop := depfileTwoRow.holds Try.pinned (OpenSpec.ofChange depfileTwoSpec)

/-- ITS FALSE NEIGHBOUR: 'it returns false'. Refute it at one input. -/
def depfileTwoWrong : ChangeSpec := { name := "depfileTwo", fn := fun _ => fun
  | [d1, d2] => { results := [.lit (.bool false)], args := [d1, d2] }
  | _ => none }
def DepfileTwoWrongFalsely : Prop := depfileTwoRow.holds Try.pinned (OpenSpec.ofChange depfileTwoWrong)

/-- 'brickyardlaw16.DepfileNames': WHATEVER THE INPUT: true; the input reads as it did. -/
def depfileNamesSpec : ChangeSpec := { name := "depfileNames", fn := fun _ => fun
  | [] => { results := [.lit (.bool true)], args := [] }
  | _ => none }
def depfileNamesRow : OpenClaim := { program := "ytahdgaaedilcmaa", sum := "aba0d01b1699dfd6fbbebd2601c14fc8e0658ae7fd8f01a240129a48b493dff4", func := "brickyard/brickyardlaw16.DepfileNames", spec := "depfileNames", inPlace := ["internal/bytealg.IndexByteString", "internal/bytealg.IndexString"], unfollowed := true, recurses := true, named := ["internal/bytealg.MaxLen"], apart := false }
def DepfileNamesSaid : Prop := depfileNamesRow.holds Try.pinned (OpenSpec.ofChange depfileNamesSpec)

/-- ITS FALSE NEIGHBOUR: 'it returns false'. Refute it at one input. -/
def depfileNamesWrong : ChangeSpec := { name := "depfileNames", fn := fun _ => fun
  | [] => { results := [.lit (.bool false)], args := [] }
  | _ => none }
def DepfileNamesWrongFalsely : Prop := depfileNamesRow.holds Try.pinned (OpenSpec.ofChange depfileNamesWrong)

/-- 'brickyardlaw16.DepfileMerges': WHATEVER THE INPUT: true; the input reads as it did. -/
def depfileMergesSpec : ChangeSpec := { name := "depfileMerges", fn := fun _ => fun
  | [d] => { results := [.lit (.bool true)], args := [d] }
  | _ => none }
def depfileMergesRow : OpenClaim := { program := "ytahdgaaedilcmaa", sum := "aba0d01b1699dfd6fbbebd2601c14fc8e0658ae7fd8f01a240129a48b493dff4", func := "brickyard/brickyardlaw16.DepfileMerges", spec := "depfileMerges", inPlace := ["internal/bytealg.IndexByteString", "internal/bytealg.IndexString"], unfollowed := true, recurses := true, named := ["internal/bytealg.MaxLen"], apart := false }
def DepfileMergesSaid : Prop := depfileMergesRow.holds Try.pinned (OpenSpec.ofChange depfileMergesSpec)

/-- ITS FALSE NEIGHBOUR: 'it returns false'. Refute it at one input. -/
def depfileMergesWrong : ChangeSpec := { name := "depfileMerges", fn := fun _ => fun
  | [d] => { results := [.lit (.bool false)], args := [d] }
  | _ => none }
def DepfileMergesWrongFalsely : Prop := depfileMergesRow.holds Try.pinned (OpenSpec.ofChange depfileMergesWrong)

/-- 'brickyardlaw16.DepfileDeps': WHATEVER THE INPUT: true; the input reads as it did. -/
def depfileDepsSpec : ChangeSpec := { name := "depfileDeps", fn := fun _ => fun
  | [d1, d2] => { results := [.lit (.bool true)], args := [d1, d2] }
  | _ => none }
def depfileDepsRow : OpenClaim := { program := "ytahdgaaedilcmaa", sum := "aba0d01b1699dfd6fbbebd2601c14fc8e0658ae7fd8f01a240129a48b493dff4", func := "brickyard/brickyardlaw16.DepfileDeps", spec := "depfileDeps", inPlace := ["internal/bytealg.IndexByteString", "internal/bytealg.IndexString", "internal/abi.NoEscape", "internal/bytealg.MakeNoZero"], unfollowed := true, recurses := true, named := ["internal/bytealg.MaxLen"], apart := false }
def DepfileDepsSaid : Prop := depfileDepsRow.holds Try.pinned (OpenSpec.ofChange depfileDepsSpec)

/-- ITS FALSE NEIGHBOUR: 'it returns false'. Refute it at one input. -/
def depfileDepsWrong : ChangeSpec := { name := "depfileDeps", fn := fun _ => fun
  | [d1, d2] => { results := [.lit (.bool false)], args := [d1, d2] }
  | _ => none }
def DepfileDepsWrongFalsely : Prop := depfileDepsRow.holds Try.pinned (OpenSpec.ofChange depfileDepsWrong)

/-- 'brickyardlaw16.DepfileUnion': WHATEVER THE INPUT: true; the input reads as it did. -/
def depfileUnionSpec : ChangeSpec := { name := "depfileUnion", fn := fun _ => fun
  | [d1, d2, d3] => { results := [.lit (.bool true)], args := [d1, d2, d3] }
  | _ => none }
def depfileUnionRow : OpenClaim := { program := "ytahdgaaedilcmaa", sum := "aba0d01b1699dfd6fbbebd2601c14fc8e0658ae7fd8f01a240129a48b493dff4", func := "brickyard/brickyardlaw16.DepfileUnion", spec := "depfileUnion", inPlace := ["internal/bytealg.IndexByteString", "internal/bytealg.IndexString", "internal/abi.NoEscape", "internal/bytealg.MakeNoZero"], unfollowed := true, recurses := true, named := ["internal/bytealg.MaxLen"], apart := false }
def DepfileUnionSaid : Prop := depfileUnionRow.holds Try.pinned (OpenSpec.ofChange depfileUnionSpec)

/-- ITS FALSE NEIGHBOUR: 'it returns false'. Refute it at one input. -/
def depfileUnionWrong : ChangeSpec := { name := "depfileUnion", fn := fun _ => fun
  | [d1, d2, d3] => { results := [.lit (.bool false)], args := [d1, d2, d3] }
  | _ => none }
def DepfileUnionWrongFalsely : Prop := depfileUnionRow.holds Try.pinned (OpenSpec.ofChange depfileUnionWrong)

/-- 'brickyardlaw16.DepfilePrints': WHATEVER THE INPUT: true; the input reads as it did. -/
def depfilePrintsSpec : ChangeSpec := { name := "depfilePrints", fn := fun _ => fun
  | [d1, d2] => { results := [.lit (.bool true)], args := [d1, d2] }
  | _ => none }
def depfilePrintsRow : OpenClaim := { program := "ytahdgaaedilcmaa", sum := "aba0d01b1699dfd6fbbebd2601c14fc8e0658ae7fd8f01a240129a48b493dff4", func := "brickyard/brickyardlaw16.DepfilePrints", spec := "depfilePrints", inPlace := ["internal/bytealg.IndexByteString", "internal/bytealg.IndexString", "sync/atomic.LoadUint32", "(*internal/sync.Mutex).Lock", "internal/race.Disable", "sync/atomic.CompareAndSwapInt32", "internal/race.Enable", "internal/race.Acquire", "(*internal/sync.Mutex).lockSlow", "internal/sync.runtime_canSpin", "internal/sync.runtime_doSpin", "internal/sync.throw", "internal/sync.runtime_nanotime", "internal/sync.runtime_SemacquireMutex", "sync/atomic.AddInt32", "(*internal/sync.Mutex).Unlock", "internal/race.ReleaseMerge", "(*internal/sync.Mutex).unlockSlow", "internal/sync.fatal", "internal/sync.runtime_Semrelease", "sync/atomic.StoreUint32", "internal/abi.NoEscape"], unfollowed := true, recurses := true, named := ["internal/bytealg.MaxLen"], apart := false }
def DepfilePrintsSaid : Prop := depfilePrintsRow.holds Try.pinned (OpenSpec.ofChange depfilePrintsSpec)

/-- ITS FALSE NEIGHBOUR: 'it returns false'. Refute it at one input. -/
def depfilePrintsWrong : ChangeSpec := { name := "depfilePrints", fn := fun _ => fun
  | [d1, d2] => { results := [.lit (.bool false)], args := [d1, d2] }
  | _ => none }
def DepfilePrintsWrongFalsely : Prop := depfilePrintsRow.holds Try.pinned (OpenSpec.ofChange depfilePrintsWrong)

/-- 'brickyardlaw16.DepfileBack': WHATEVER THE INPUT: true; the input reads as it did. -/
def depfileBackSpec : ChangeSpec := { name := "depfileBack", fn := fun _ => fun
  | [d1, d2, d3] => { results := [.lit (.bool true)], args := [d1, d2, d3] }
  | _ => none }
def depfileBackRow : OpenClaim := { program := "ytahdgaaedilcmaa", sum := "aba0d01b1699dfd6fbbebd2601c14fc8e0658ae7fd8f01a240129a48b493dff4", func := "brickyard/brickyardlaw16.DepfileBack", spec := "depfileBack", inPlace := ["internal/bytealg.IndexByteString", "internal/bytealg.IndexString", "sync/atomic.LoadUint32", "(*internal/sync.Mutex).Lock", "internal/race.Disable", "sync/atomic.CompareAndSwapInt32", "internal/race.Enable", "internal/race.Acquire", "(*internal/sync.Mutex).lockSlow", "internal/sync.runtime_canSpin", "internal/sync.runtime_doSpin", "internal/sync.throw", "internal/sync.runtime_nanotime", "internal/sync.runtime_SemacquireMutex", "sync/atomic.AddInt32", "(*internal/sync.Mutex).Unlock", "internal/race.ReleaseMerge", "(*internal/sync.Mutex).unlockSlow", "internal/sync.fatal", "internal/sync.runtime_Semrelease", "sync/atomic.StoreUint32", "internal/abi.NoEscape"], unfollowed := true, recurses := true, named := ["internal/bytealg.MaxLen"], apart := false }
def DepfileBackSaid : Prop := depfileBackRow.holds Try.pinned (OpenSpec.ofChange depfileBackSpec)

/-- ITS FALSE NEIGHBOUR: 'it returns false'. Refute it at one input. -/
def depfileBackWrong : ChangeSpec := { name := "depfileBack", fn := fun _ => fun
  | [d1, d2, d3] => { results := [.lit (.bool false)], args := [d1, d2, d3] }
  | _ => none }
def DepfileBackWrongFalsely : Prop := depfileBackRow.holds Try.pinned (OpenSpec.ofChange depfileBackWrong)

/- THE SECOND FORM. 'bulk': how many values and letters a reading holds, each counted each time it is reached (what is shared counts as often as it is met; a slice's spare places count too). A statement '..UptoSaid' is the law's where the arguments, and the package variables that the reading takes, are together of bulk at most 1048576: NARROWER than '..Said'. Prove '..Said' where nothing that the law and all that it calls make is longer than what came in: it says more and counts as full. Else prove '..UptoSaid'. A law counts once. -/
mutual
def uptoBulk {H : Type} : DataW H → Nat
  | .lit (.string bytes) => bytes.length + 1
  | .lit _ => 1
  | .nil => 1
  | .ptr d => uptoBulk d + 1
  | .slice elems spare => uptoBulkAll elems + uptoBulkAll spare + 1
  | .agg parts => uptoBulkAll parts + 1
  | .iface _ d => uptoBulk d + 1
  | .map entries => uptoBulkEntries entries + 1
  | .held _ => 1
def uptoBulkAll {H : Type} : List (DataW H) → Nat
  | [] => 0
  | d :: r => uptoBulk d + uptoBulkAll r
def uptoBulkEntries {H : Type} : List (Lit × DataW H) → Nat
  | [] => 0
  | x :: r => uptoBulkEntry x + uptoBulkEntries r
def uptoBulkEntry {H : Type} : Lit × DataW H → Nat
  | (.string bytes, d) => bytes.length + uptoBulk d + 1
  | (_, d) => uptoBulk d + 1
 end
def uptoSmall : (H : Type) → List (DataW H) → Bool := fun _ ds => decide (uptoBulkAll ds ≤ 1048576)
def OpenSpec.upto (s : _root_.Go.ChangeSpec) : _root_.Go.OpenSpec := { _root_.Go.OpenSpec.ofChange s with cond := some uptoSmall }

/-- 'brickyardlaw16.DepfileParses', WHERE WHAT IT READS IS OF BULK AT MOST 1048576: true; the input reads as it did. -/
def depfileParsesUptoRow : OpenClaim := { program := "ytahdgaaedilcmaa", sum := "aba0d01b1699dfd6fbbebd2601c14fc8e0658ae7fd8f01a240129a48b493dff4", func := "brickyard/brickyardlaw16.DepfileParses", spec := "depfileParses", inPlace := ["internal/bytealg.IndexByteString", "internal/bytealg.IndexString"], unfollowed := true, recurses := true, named := ["internal/bytealg.MaxLen"], apart := false, narrowed := true }
def DepfileParsesUptoSaid : Prop := depfileParsesUptoRow.holds Try.pinned (OpenSpec.upto depfileParsesSpec)

/-- 'brickyardlaw16.DepfileTwo', WHERE WHAT IT READS IS OF BULK AT MOST 1048576: true; the input reads as it did. -/
def depfileTwoUptoRow : OpenClaim := { program := "ytahdgaaedilcmaa", sum := "aba0d01b1699dfd6fbbebd2601c14fc8e0658ae7fd8f01a240129a48b493dff4", func := "brickyard/brickyardlaw16.DepfileTwo", spec := "depfileTwo", inPlace := ["internal/bytealg.IndexByteString", "internal/bytealg.IndexString"], unfollowed := true, recurses := true, named := ["internal/bytealg.MaxLen"], apart := false, narrowed := true }
def DepfileTwoUptoSaid : Prop := depfileTwoUptoRow.holds Try.pinned (OpenSpec.upto depfileTwoSpec)

/-- 'brickyardlaw16.DepfileNames', WHERE WHAT IT READS IS OF BULK AT MOST 1048576: true; the input reads as it did. -/
def depfileNamesUptoRow : OpenClaim := { program := "ytahdgaaedilcmaa", sum := "aba0d01b1699dfd6fbbebd2601c14fc8e0658ae7fd8f01a240129a48b493dff4", func := "brickyard/brickyardlaw16.DepfileNames", spec := "depfileNames", inPlace := ["internal/bytealg.IndexByteString", "internal/bytealg.IndexString"], unfollowed := true, recurses := true, named := ["internal/bytealg.MaxLen"], apart := false, narrowed := true }
def DepfileNamesUptoSaid : Prop := depfileNamesUptoRow.holds Try.pinned (OpenSpec.upto depfileNamesSpec)

/-- 'brickyardlaw16.DepfileMerges', WHERE WHAT IT READS IS OF BULK AT MOST 1048576: true; the input reads as it did. -/
def depfileMergesUptoRow : OpenClaim := { program := "ytahdgaaedilcmaa", sum := "aba0d01b1699dfd6fbbebd2601c14fc8e0658ae7fd8f01a240129a48b493dff4", func := "brickyard/brickyardlaw16.DepfileMerges", spec := "depfileMerges", inPlace := ["internal/bytealg.IndexByteString", "internal/bytealg.IndexString"], unfollowed := true, recurses := true, named := ["internal/bytealg.MaxLen"], apart := false, narrowed := true }
def DepfileMergesUptoSaid : Prop := depfileMergesUptoRow.holds Try.pinned (OpenSpec.upto depfileMergesSpec)

/-- 'brickyardlaw16.DepfileDeps', WHERE WHAT IT READS IS OF BULK AT MOST 1048576: true; the input reads as it did. -/
def depfileDepsUptoRow : OpenClaim := { program := "ytahdgaaedilcmaa", sum := "aba0d01b1699dfd6fbbebd2601c14fc8e0658ae7fd8f01a240129a48b493dff4", func := "brickyard/brickyardlaw16.DepfileDeps", spec := "depfileDeps", inPlace := ["internal/bytealg.IndexByteString", "internal/bytealg.IndexString", "internal/abi.NoEscape", "internal/bytealg.MakeNoZero"], unfollowed := true, recurses := true, named := ["internal/bytealg.MaxLen"], apart := false, narrowed := true }
def DepfileDepsUptoSaid : Prop := depfileDepsUptoRow.holds Try.pinned (OpenSpec.upto depfileDepsSpec)

/-- 'brickyardlaw16.DepfileUnion', WHERE WHAT IT READS IS OF BULK AT MOST 1048576: true; the input reads as it did. -/
def depfileUnionUptoRow : OpenClaim := { program := "ytahdgaaedilcmaa", sum := "aba0d01b1699dfd6fbbebd2601c14fc8e0658ae7fd8f01a240129a48b493dff4", func := "brickyard/brickyardlaw16.DepfileUnion", spec := "depfileUnion", inPlace := ["internal/bytealg.IndexByteString", "internal/bytealg.IndexString", "internal/abi.NoEscape", "internal/bytealg.MakeNoZero"], unfollowed := true, recurses := true, named := ["internal/bytealg.MaxLen"], apart := false, narrowed := true }
def DepfileUnionUptoSaid : Prop := depfileUnionUptoRow.holds Try.pinned (OpenSpec.upto depfileUnionSpec)

/-- 'brickyardlaw16.DepfilePrints', WHERE WHAT IT READS IS OF BULK AT MOST 1048576: true; the input reads as it did. -/
def depfilePrintsUptoRow : OpenClaim := { program := "ytahdgaaedilcmaa", sum := "aba0d01b1699dfd6fbbebd2601c14fc8e0658ae7fd8f01a240129a48b493dff4", func := "brickyard/brickyardlaw16.DepfilePrints", spec := "depfilePrints", inPlace := ["internal/bytealg.IndexByteString", "internal/bytealg.IndexString", "sync/atomic.LoadUint32", "(*internal/sync.Mutex).Lock", "internal/race.Disable", "sync/atomic.CompareAndSwapInt32", "internal/race.Enable", "internal/race.Acquire", "(*internal/sync.Mutex).lockSlow", "internal/sync.runtime_canSpin", "internal/sync.runtime_doSpin", "internal/sync.throw", "internal/sync.runtime_nanotime", "internal/sync.runtime_SemacquireMutex", "sync/atomic.AddInt32", "(*internal/sync.Mutex).Unlock", "internal/race.ReleaseMerge", "(*internal/sync.Mutex).unlockSlow", "internal/sync.fatal", "internal/sync.runtime_Semrelease", "sync/atomic.StoreUint32", "internal/abi.NoEscape"], unfollowed := true, recurses := true, named := ["internal/bytealg.MaxLen"], apart := false, narrowed := true }
def DepfilePrintsUptoSaid : Prop := depfilePrintsUptoRow.holds Try.pinned (OpenSpec.upto depfilePrintsSpec)

/-- 'brickyardlaw16.DepfileBack', WHERE WHAT IT READS IS OF BULK AT MOST 1048576: true; the input reads as it did. -/
def depfileBackUptoRow : OpenClaim := { program := "ytahdgaaedilcmaa", sum := "aba0d01b1699dfd6fbbebd2601c14fc8e0658ae7fd8f01a240129a48b493dff4", func := "brickyard/brickyardlaw16.DepfileBack", spec := "depfileBack", inPlace := ["internal/bytealg.IndexByteString", "internal/bytealg.IndexString", "sync/atomic.LoadUint32", "(*internal/sync.Mutex).Lock", "internal/race.Disable", "sync/atomic.CompareAndSwapInt32", "internal/race.Enable", "internal/race.Acquire", "(*internal/sync.Mutex).lockSlow", "internal/sync.runtime_canSpin", "internal/sync.runtime_doSpin", "internal/sync.throw", "internal/sync.runtime_nanotime", "internal/sync.runtime_SemacquireMutex", "sync/atomic.AddInt32", "(*internal/sync.Mutex).Unlock", "internal/race.ReleaseMerge", "(*internal/sync.Mutex).unlockSlow", "internal/sync.fatal", "internal/sync.runtime_Semrelease", "sync/atomic.StoreUint32", "internal/abi.NoEscape"], unfollowed := true, recurses := true, named := ["internal/bytealg.MaxLen"], apart := false, narrowed := true }
def DepfileBackUptoSaid : Prop := depfileBackUptoRow.holds Try.pinned (OpenSpec.upto depfileBackSpec)

end Rows
end Go.Proofs.Ytahdgaaedilcmaa
