/-
  DERIVED. GIVEN WITH THE SEED: THE CARDS: each row of YtffcapkjfmkkaaaDoorRows.lean that lists a variable, with what it lists TIED to the program's text (the seventh form; the later family's looks); each row that meets fmt, with fmt's text TOLD by the authors' own Lean function (tested against real Go, not proved from fmt's source: count such statements apart). THE CARD IS WHAT COUNTS. Prove the row's statement (the work); the ties are given (YtffcapkjfmkkaaaDoorTie.lean); close each card by the builder's one call (the guide's Derived/Test/ToyasCard.lean, 'card_holds'). Laid BY PROGRAM, IN A SANDBOX (cutbox-door.mjs). By AI agents, Wed Nov 11 2026. No macro, syntax, notation, axiom, sorry.
-/
import Derived.Test.YtffcapkjfmkkaaaDoorRows
import GoSem.ClaimSeven
namespace Go.Proofs.YtffcapkjfmkkaaaDoor
namespace Rows

/-- THE TIED CARD OF 'rosterlaw13.XmlParses'. -/
def xmlParsesCard : Claim7 := { stood := { row := xmlParsesRow, standIns := [], harness := (true, "fb6d399d5b065b1493f83dbcc91a16552ab51b0a811c3fd4d529fdbad6f587e3"), looks := true }, kinds := [], alts := [], laidByText := true, laidKinds := [.data, .pinned], laidTests := true, laidLooks := .later }
def XmlParsesCardSaid : Prop := Claim7.holds Tryd.pinned (.plain (OpenSpec.ofChange xmlParsesSpec)) xmlParsesCard

/-- THE SECOND FORM's CARD OF 'rosterlaw13.XmlParses'. -/
def xmlParsesUptoCard : Claim7 := { stood := { row := xmlParsesUptoRow, standIns := [], harness := (true, "fb6d399d5b065b1493f83dbcc91a16552ab51b0a811c3fd4d529fdbad6f587e3"), looks := true }, kinds := [], alts := [], laidByText := true, laidKinds := [.data, .pinned], laidTests := true, laidLooks := .later }
def XmlParsesUptoCardSaid : Prop := Claim7.holds Tryd.pinned (.plain (OpenSpec.upto xmlParsesSpec)) xmlParsesUptoCard
end Rows
end Go.Proofs.YtffcapkjfmkkaaaDoor
