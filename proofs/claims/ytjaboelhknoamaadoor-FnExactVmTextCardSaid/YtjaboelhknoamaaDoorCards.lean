/-
  DERIVED. GIVEN WITH THE SEED: THE CARDS: each row of YtjaboelhknoamaaDoorRows.lean that lists a variable, with what it lists TIED to the program's text (the seventh form; the later family's looks); each row that meets fmt, with fmt's text TOLD by the authors' own Lean function (tested against real Go, not proved from fmt's source: count such statements apart). THE CARD IS WHAT COUNTS. Prove the row's statement (the work); the ties are given (YtjaboelhknoamaaDoorTie.lean); close each card by the builder's one call (the guide's Derived/Test/ToyasCard.lean, 'card_holds'). Laid BY PROGRAM, IN A SANDBOX (cutbox-door.mjs). By AI agents, Wed Nov 11 2026. No macro, syntax, notation, axiom, sorry.
-/
import Derived.Test.YtjaboelhknoamaaDoorRows
import GoSem.ClaimSeven
namespace Go.Proofs.YtjaboelhknoamaaDoor
namespace Rows

/-- THE TIED CARD OF 'laws.FnExactFunText'. -/
def fnExactFunTextCard : Claim7 := { stood := { row := fnExactFunTextRow, standIns := [], harness := (true, "8cadefb1b5bf0a0d588f9bca5135d744dc1a55f9521f2ce9c3e9cdf060e307b8"), looks := false }, kinds := [], alts := [], laidByText := true, laidKinds := [.data, .data, .data], laidTests := true, laidLooks := .later }
def FnExactFunTextCardSaid : Prop := Claim7.holds Tryd.pinned (.plain (OpenSpec.ofChange fnExactFunTextSpec)) fnExactFunTextCard

/-- THE TIED CARD OF 'laws.FnExactBindText'. -/
def fnExactBindTextCard : Claim7 := { stood := { row := fnExactBindTextRow, standIns := [], harness := (true, "8cadefb1b5bf0a0d588f9bca5135d744dc1a55f9521f2ce9c3e9cdf060e307b8"), looks := false }, kinds := [], alts := [], laidByText := true, laidKinds := [.data, .data, .data], laidTests := true, laidLooks := .later }
def FnExactBindTextCardSaid : Prop := Claim7.holds Tryd.pinned (.plain (OpenSpec.ofChange fnExactBindTextSpec)) fnExactBindTextCard

/-- THE TIED CARD OF 'laws.FnExactStxText'. -/
def fnExactStxTextCard : Claim7 := { stood := { row := fnExactStxTextRow, standIns := [], harness := (true, "8cadefb1b5bf0a0d588f9bca5135d744dc1a55f9521f2ce9c3e9cdf060e307b8"), looks := false }, kinds := [], alts := [], laidByText := true, laidKinds := [.data, .data, .data], laidTests := true, laidLooks := .later }
def FnExactStxTextCardSaid : Prop := Claim7.holds Tryd.pinned (.plain (OpenSpec.ofChange fnExactStxTextSpec)) fnExactStxTextCard

/-- THE TIED CARD OF 'laws.FnExactVmText'. -/
def fnExactVmTextCard : Claim7 := { stood := { row := fnExactVmTextRow, standIns := [], harness := (true, "8cadefb1b5bf0a0d588f9bca5135d744dc1a55f9521f2ce9c3e9cdf060e307b8"), looks := false }, kinds := [], alts := [], laidByText := true, laidKinds := [.data, .data, .data], laidTests := true, laidLooks := .later }
def FnExactVmTextCardSaid : Prop := Claim7.holds Tryd.pinned (.plain (OpenSpec.ofChange fnExactVmTextSpec)) fnExactVmTextCard

/-- THE SECOND FORM's CARD OF 'laws.FnExactFunText'. -/
def fnExactFunTextUptoCard : Claim7 := { stood := { row := fnExactFunTextUptoRow, standIns := [], harness := (true, "8cadefb1b5bf0a0d588f9bca5135d744dc1a55f9521f2ce9c3e9cdf060e307b8"), looks := false }, kinds := [], alts := [], laidByText := true, laidKinds := [.data, .data, .data], laidTests := true, laidLooks := .later }
def FnExactFunTextUptoCardSaid : Prop := Claim7.holds Tryd.pinned (.plain (OpenSpec.upto fnExactFunTextSpec)) fnExactFunTextUptoCard

/-- THE SECOND FORM's CARD OF 'laws.FnExactBindText'. -/
def fnExactBindTextUptoCard : Claim7 := { stood := { row := fnExactBindTextUptoRow, standIns := [], harness := (true, "8cadefb1b5bf0a0d588f9bca5135d744dc1a55f9521f2ce9c3e9cdf060e307b8"), looks := false }, kinds := [], alts := [], laidByText := true, laidKinds := [.data, .data, .data], laidTests := true, laidLooks := .later }
def FnExactBindTextUptoCardSaid : Prop := Claim7.holds Tryd.pinned (.plain (OpenSpec.upto fnExactBindTextSpec)) fnExactBindTextUptoCard

/-- THE SECOND FORM's CARD OF 'laws.FnExactStxText'. -/
def fnExactStxTextUptoCard : Claim7 := { stood := { row := fnExactStxTextUptoRow, standIns := [], harness := (true, "8cadefb1b5bf0a0d588f9bca5135d744dc1a55f9521f2ce9c3e9cdf060e307b8"), looks := false }, kinds := [], alts := [], laidByText := true, laidKinds := [.data, .data, .data], laidTests := true, laidLooks := .later }
def FnExactStxTextUptoCardSaid : Prop := Claim7.holds Tryd.pinned (.plain (OpenSpec.upto fnExactStxTextSpec)) fnExactStxTextUptoCard

/-- THE SECOND FORM's CARD OF 'laws.FnExactVmText'. -/
def fnExactVmTextUptoCard : Claim7 := { stood := { row := fnExactVmTextUptoRow, standIns := [], harness := (true, "8cadefb1b5bf0a0d588f9bca5135d744dc1a55f9521f2ce9c3e9cdf060e307b8"), looks := false }, kinds := [], alts := [], laidByText := true, laidKinds := [.data, .data, .data], laidTests := true, laidLooks := .later }
def FnExactVmTextUptoCardSaid : Prop := Claim7.holds Tryd.pinned (.plain (OpenSpec.upto fnExactVmTextSpec)) fnExactVmTextUptoCard
end Rows
end Go.Proofs.YtjaboelhknoamaaDoor
