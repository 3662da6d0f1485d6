/-
  DERIVED. GIVEN WITH THE SEED: THE CARDS: each row of YtogmealngeejmaaDoorRows.lean that lists a variable, with what it lists TIED to the program's text (the seventh form; the later family's looks); each row that meets fmt, with fmt's text TOLD by the authors' own Lean function (tested against real Go, not proved from fmt's source: count such statements apart). THE CARD IS WHAT COUNTS. Prove the row's statement (the work); the ties are given (YtogmealngeejmaaDoorTie.lean); close each card by the builder's one call (the guide's Derived/Test/ToyasCard.lean, 'card_holds'). Laid BY PROGRAM, IN A SANDBOX (cutbox-door.mjs). By AI agents, Wed Nov 11 2026. No macro, syntax, notation, axiom, sorry.
-/
import Derived.Test.YtogmealngeejmaaDoorRows
import GoSem.ClaimSeven
namespace Go.Proofs.YtogmealngeejmaaDoor
namespace Rows

/-- THE TIED CARD OF 'proteuslaw01.LexKept'. -/
def lexKeptCard : Claim7 := { stood := { row := lexKeptRow, standIns := [], harness := (true, "01aee14600a528e7776af13ead81984f7e68271cdb6fce3f36402a47b8f35597"), looks := true }, kinds := [], alts := [], laidByText := true, laidKinds := [.data, .pinned], laidTests := true, laidLooks := .later }
def LexKeptCardSaid : Prop := Claim7.holds Tryd.pinned (.plain (OpenSpec.ofChange lexKeptSpec)) lexKeptCard

/-- THE TIED CARD OF 'proteuslaw01.LexWritten'. -/
def lexWrittenCard : Claim7 := { stood := { row := lexWrittenRow, standIns := [], harness := (true, "01aee14600a528e7776af13ead81984f7e68271cdb6fce3f36402a47b8f35597"), looks := true }, kinds := [], alts := [], laidByText := true, laidKinds := [.data, .pinned], laidTests := true, laidLooks := .later }
def LexWrittenCardSaid : Prop := Claim7.holds Tryd.pinned (.plain (OpenSpec.ofChange lexWrittenSpec)) lexWrittenCard

/-- THE TIED CARD OF 'proteuslaw01.LexPlaces'. -/
def lexPlacesCard : Claim7 := { stood := { row := lexPlacesRow, standIns := [], harness := (true, "01aee14600a528e7776af13ead81984f7e68271cdb6fce3f36402a47b8f35597"), looks := true }, kinds := [], alts := [], laidByText := true, laidKinds := [.data, .pinned], laidTests := true, laidLooks := .later }
def LexPlacesCardSaid : Prop := Claim7.holds Tryd.pinned (.plain (OpenSpec.ofChange lexPlacesSpec)) lexPlacesCard

/-- THE SECOND FORM's CARD OF 'proteuslaw01.LexKept'. -/
def lexKeptUptoCard : Claim7 := { stood := { row := lexKeptUptoRow, standIns := [], harness := (true, "01aee14600a528e7776af13ead81984f7e68271cdb6fce3f36402a47b8f35597"), looks := true }, kinds := [], alts := [], laidByText := true, laidKinds := [.data, .pinned], laidTests := true, laidLooks := .later }
def LexKeptUptoCardSaid : Prop := Claim7.holds Tryd.pinned (.plain (OpenSpec.upto lexKeptSpec)) lexKeptUptoCard

/-- THE SECOND FORM's CARD OF 'proteuslaw01.LexWritten'. -/
def lexWrittenUptoCard : Claim7 := { stood := { row := lexWrittenUptoRow, standIns := [], harness := (true, "01aee14600a528e7776af13ead81984f7e68271cdb6fce3f36402a47b8f35597"), looks := true }, kinds := [], alts := [], laidByText := true, laidKinds := [.data, .pinned], laidTests := true, laidLooks := .later }
def LexWrittenUptoCardSaid : Prop := Claim7.holds Tryd.pinned (.plain (OpenSpec.upto lexWrittenSpec)) lexWrittenUptoCard

/-- THE SECOND FORM's CARD OF 'proteuslaw01.LexPlaces'. -/
def lexPlacesUptoCard : Claim7 := { stood := { row := lexPlacesUptoRow, standIns := [], harness := (true, "01aee14600a528e7776af13ead81984f7e68271cdb6fce3f36402a47b8f35597"), looks := true }, kinds := [], alts := [], laidByText := true, laidKinds := [.data, .pinned], laidTests := true, laidLooks := .later }
def LexPlacesUptoCardSaid : Prop := Claim7.holds Tryd.pinned (.plain (OpenSpec.upto lexPlacesSpec)) lexPlacesUptoCard
end Rows
end Go.Proofs.YtogmealngeejmaaDoor
