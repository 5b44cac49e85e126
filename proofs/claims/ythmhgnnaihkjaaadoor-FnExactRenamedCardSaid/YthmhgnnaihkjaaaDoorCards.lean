/-
  DERIVED. GIVEN WITH THE SEED: THE CARDS: each row of YthmhgnnaihkjaaaDoorRows.lean that lists a variable, with what it lists TIED to the program's text (the seventh form; the later family's looks); each row that meets fmt, with fmt's text TOLD by the authors' own Lean function (tested against real Go, not proved from fmt's source: count such statements apart). THE CARD IS WHAT COUNTS. Prove the row's statement (the work); the ties are given (YthmhgnnaihkjaaaDoorTie.lean); close each card by the builder's one call (the guide's Derived/Test/ToyasCard.lean, 'card_holds'). Laid BY PROGRAM, IN A SANDBOX (cutbox-door.mjs). By AI agents, Wed Nov 11 2026. No macro, syntax, notation, axiom, sorry.
-/
import Derived.Test.YthmhgnnaihkjaaaDoorRows
import GoSem.ClaimSeven
namespace Go.Proofs.YthmhgnnaihkjaaaDoor
namespace Rows

/-- THE TIED CARD OF 'laws.FnExactFunText'. -/
def fnExactFunTextCard : Claim7 := { stood := { row := fnExactFunTextRow, standIns := [], harness := (true, "e30fd4eb899d5cf8bc80612450d591878a85cf36d22c01bee05a368ba38487a3"), looks := true }, kinds := [], alts := [], laidByText := true, laidKinds := [.data, .data, .data], laidTests := true, laidLooks := .later }
def FnExactFunTextCardSaid : Prop := Claim7.holds Tryd.pinned (.plain (OpenSpec.ofChange fnExactFunTextSpec)) fnExactFunTextCard

/-- THE TIED CARD OF 'laws.FnExactShape'. -/
def fnExactShapeCard : Claim7 := { stood := { row := fnExactShapeRow, standIns := [], harness := (true, "e30fd4eb899d5cf8bc80612450d591878a85cf36d22c01bee05a368ba38487a3"), looks := true }, kinds := [], alts := [], laidByText := true, laidKinds := [.data, .data, .data], laidTests := true, laidLooks := .later }
def FnExactShapeCardSaid : Prop := Claim7.holds Tryd.pinned (.plain (OpenSpec.ofChange fnExactShapeSpec)) fnExactShapeCard

/-- THE TIED CARD OF 'laws.FnExactUnused'. -/
def fnExactUnusedCard : Claim7 := { stood := { row := fnExactUnusedRow, standIns := [], harness := (true, "e30fd4eb899d5cf8bc80612450d591878a85cf36d22c01bee05a368ba38487a3"), looks := true }, kinds := [], alts := [], laidByText := true, laidKinds := [.data, .data, .data, .sentinel, .sentinel], laidTests := true, laidLooks := .later }
def FnExactUnusedCardSaid : Prop := Claim7.holds Tryd.pinned (.plain (OpenSpec.ofChange fnExactUnusedSpec)) fnExactUnusedCard

/-- THE TIED CARD OF 'laws.FnExactRenamed'. -/
def fnExactRenamedCard : Claim7 := { stood := { row := fnExactRenamedRow, standIns := [], harness := (true, "e30fd4eb899d5cf8bc80612450d591878a85cf36d22c01bee05a368ba38487a3"), looks := true }, kinds := [], alts := [], laidByText := true, laidKinds := [.data, .data, .data, .sentinel, .sentinel], laidTests := true, laidLooks := .later }
def FnExactRenamedCardSaid : Prop := Claim7.holds Tryd.pinned (.plain (OpenSpec.ofChange fnExactRenamedSpec)) fnExactRenamedCard

/-- THE SECOND FORM's CARD OF 'laws.FnExactFunText'. -/
def fnExactFunTextUptoCard : Claim7 := { stood := { row := fnExactFunTextUptoRow, standIns := [], harness := (true, "e30fd4eb899d5cf8bc80612450d591878a85cf36d22c01bee05a368ba38487a3"), looks := true }, kinds := [], alts := [], laidByText := true, laidKinds := [.data, .data, .data], laidTests := true, laidLooks := .later }
def FnExactFunTextUptoCardSaid : Prop := Claim7.holds Tryd.pinned (.plain (OpenSpec.upto fnExactFunTextSpec)) fnExactFunTextUptoCard

/-- THE SECOND FORM's CARD OF 'laws.FnExactShape'. -/
def fnExactShapeUptoCard : Claim7 := { stood := { row := fnExactShapeUptoRow, standIns := [], harness := (true, "e30fd4eb899d5cf8bc80612450d591878a85cf36d22c01bee05a368ba38487a3"), looks := true }, kinds := [], alts := [], laidByText := true, laidKinds := [.data, .data, .data], laidTests := true, laidLooks := .later }
def FnExactShapeUptoCardSaid : Prop := Claim7.holds Tryd.pinned (.plain (OpenSpec.upto fnExactShapeSpec)) fnExactShapeUptoCard

/-- THE SECOND FORM's CARD OF 'laws.FnExactUnused'. -/
def fnExactUnusedUptoCard : Claim7 := { stood := { row := fnExactUnusedUptoRow, standIns := [], harness := (true, "e30fd4eb899d5cf8bc80612450d591878a85cf36d22c01bee05a368ba38487a3"), looks := true }, kinds := [], alts := [], laidByText := true, laidKinds := [.data, .data, .data, .sentinel, .sentinel], laidTests := true, laidLooks := .later }
def FnExactUnusedUptoCardSaid : Prop := Claim7.holds Tryd.pinned (.plain (OpenSpec.upto fnExactUnusedSpec)) fnExactUnusedUptoCard

/-- THE SECOND FORM's CARD OF 'laws.FnExactRenamed'. -/
def fnExactRenamedUptoCard : Claim7 := { stood := { row := fnExactRenamedUptoRow, standIns := [], harness := (true, "e30fd4eb899d5cf8bc80612450d591878a85cf36d22c01bee05a368ba38487a3"), looks := true }, kinds := [], alts := [], laidByText := true, laidKinds := [.data, .data, .data, .sentinel, .sentinel], laidTests := true, laidLooks := .later }
def FnExactRenamedUptoCardSaid : Prop := Claim7.holds Tryd.pinned (.plain (OpenSpec.upto fnExactRenamedSpec)) fnExactRenamedUptoCard
end Rows
end Go.Proofs.YthmhgnnaihkjaaaDoor
