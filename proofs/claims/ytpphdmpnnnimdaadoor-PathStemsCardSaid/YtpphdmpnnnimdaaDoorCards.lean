/-
  DERIVED. GIVEN WITH THE SEED: THE CARDS: each row of YtpphdmpnnnimdaaDoorRows.lean that lists a variable, with what it lists TIED to the program's text (the seventh form; the later family's looks); each row that meets fmt, with fmt's text TOLD by the authors' own Lean function (tested against real Go, not proved from fmt's source: count such statements apart). THE CARD IS WHAT COUNTS. Prove the row's statement (the work); the ties are given (YtpphdmpnnnimdaaDoorTie.lean); close each card by the builder's one call (the guide's Derived/Test/ToyasCard.lean, 'card_holds'). Laid BY PROGRAM, IN A SANDBOX (cutbox-door.mjs). By AI agents, Wed Nov 11 2026. No macro, syntax, notation, axiom, sorry.
-/
import Derived.Test.YtpphdmpnnnimdaaDoorRows
import GoSem.ClaimSeven
namespace Go.Proofs.YtpphdmpnnnimdaaDoor
namespace Rows

/-- THE TIED CARD OF 'brickyardlaw09.PathFills'. -/
def pathFillsCard : Claim7 := { stood := { row := pathFillsRow, standIns := [], harness := (true, "24ebcecc2fa88c1824bd39ad8404320f2f0b5227dacfb44fabce86c78428a3e8"), looks := false }, kinds := [], alts := [], laidByText := true, laidKinds := [.data, .pinned], laidTests := true, laidLooks := .later }
def PathFillsCardSaid : Prop := Claim7.holds Tryd.pinned (.plain (OpenSpec.ofChange pathFillsSpec)) pathFillsCard

/-- THE TIED CARD OF 'brickyardlaw09.PathStems'. -/
def pathStemsCard : Claim7 := { stood := { row := pathStemsRow, standIns := [], harness := (true, "24ebcecc2fa88c1824bd39ad8404320f2f0b5227dacfb44fabce86c78428a3e8"), looks := false }, kinds := [], alts := [], laidByText := true, laidKinds := [.data, .pinned], laidTests := true, laidLooks := .later }
def PathStemsCardSaid : Prop := Claim7.holds Tryd.pinned (.plain (OpenSpec.ofChange pathStemsSpec)) pathStemsCard

/-- THE SECOND FORM's CARD OF 'brickyardlaw09.PathFills'. -/
def pathFillsUptoCard : Claim7 := { stood := { row := pathFillsUptoRow, standIns := [], harness := (true, "24ebcecc2fa88c1824bd39ad8404320f2f0b5227dacfb44fabce86c78428a3e8"), looks := false }, kinds := [], alts := [], laidByText := true, laidKinds := [.data, .pinned], laidTests := true, laidLooks := .later }
def PathFillsUptoCardSaid : Prop := Claim7.holds Tryd.pinned (.plain (OpenSpec.upto pathFillsSpec)) pathFillsUptoCard

/-- THE SECOND FORM's CARD OF 'brickyardlaw09.PathStems'. -/
def pathStemsUptoCard : Claim7 := { stood := { row := pathStemsUptoRow, standIns := [], harness := (true, "24ebcecc2fa88c1824bd39ad8404320f2f0b5227dacfb44fabce86c78428a3e8"), looks := false }, kinds := [], alts := [], laidByText := true, laidKinds := [.data, .pinned], laidTests := true, laidLooks := .later }
def PathStemsUptoCardSaid : Prop := Claim7.holds Tryd.pinned (.plain (OpenSpec.upto pathStemsSpec)) pathStemsUptoCard
end Rows
end Go.Proofs.YtpphdmpnnnimdaaDoor
