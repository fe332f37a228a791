/-
  DERIVED. GIVEN WITH THE SEED: THE CARDS: each row of YtgpicngmadkdoaaDoorRows.lean that lists a variable, with what it lists TIED to the program's text (the seventh form; the later family's looks); each row that meets fmt, with fmt's text TOLD by the authors' own Lean function (tested against real Go, not proved from fmt's source: count such statements apart). THE CARD IS WHAT COUNTS. Prove the row's statement (the work); the ties are given (YtgpicngmadkdoaaDoorTie.lean); close each card by the builder's one call (the guide's Derived/Test/ToyasCard.lean, 'card_holds'). Laid BY PROGRAM, IN A SANDBOX (cutbox-door.mjs). By AI agents, Wed Nov 11 2026. No macro, syntax, notation, axiom, sorry.
-/
import Derived.Test.YtgpicngmadkdoaaDoorRows
import GoSem.ClaimSeven
namespace Go.Proofs.YtgpicngmadkdoaaDoor
namespace Rows

/-- THE TIED CARD OF 'laws.FnExactParseAct'. -/
def fnExactParseActCard : Claim7 := { stood := { row := fnExactParseActRow, standIns := [], harness := (true, "8b2b299e27034492a203235edd41b82df093d0b43ca73ec9b999c59660cc3f92"), looks := false }, kinds := [], alts := [], laidByText := true, laidKinds := [.data, .pinned], laidTests := true, laidLooks := .later }
def FnExactParseActCardSaid : Prop := Claim7.holds Tryd.pinned (.plain (OpenSpec.ofChange fnExactParseActSpec)) fnExactParseActCard

/-- THE SECOND FORM's CARD OF 'laws.FnExactParseAct'. -/
def fnExactParseActUptoCard : Claim7 := { stood := { row := fnExactParseActUptoRow, standIns := [], harness := (true, "8b2b299e27034492a203235edd41b82df093d0b43ca73ec9b999c59660cc3f92"), looks := false }, kinds := [], alts := [], laidByText := true, laidKinds := [.data, .pinned], laidTests := true, laidLooks := .later }
def FnExactParseActUptoCardSaid : Prop := Claim7.holds Tryd.pinned (.plain (OpenSpec.upto fnExactParseActSpec)) fnExactParseActUptoCard
end Rows
end Go.Proofs.YtgpicngmadkdoaaDoor
