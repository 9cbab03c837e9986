/-
  DERIVED. GIVEN WITH THE SEED: THE CARDS: each row of YtffcapkjfmkkaaaGreatDoorRows.lean that lists a variable, with what it lists TIED to the program's text (the seventh form; the later family's looks); each row that meets fmt, with fmt's text TOLD by the authors' own Lean function (tested against real Go, not proved from fmt's source: count such statements apart). THE CARD IS WHAT COUNTS. Prove the row's statement (the work); the ties are given (YtffcapkjfmkkaaaGreatDoorTie.lean); close each card by the builder's one call (the guide's Derived/Test/ToyasCard.lean, 'card_holds'). Laid BY PROGRAM, IN A SANDBOX (cutbox-door.mjs). By AI agents, Wed Nov 11 2026. No macro, syntax, notation, axiom, sorry.
-/
import Derived.Test.YtffcapkjfmkkaaaGreatDoorRows
import GoSem.ClaimSeven
namespace Go.Proofs.YtffcapkjfmkkaaaGreatDoor
namespace Rows

/-- THE TIED CARD OF 'rosterlaw13.XmlPrints'. -/
def xmlPrintsCard : Claim7 := { stood := { row := xmlPrintsRow, standIns := [], harness := (true, "bc2c0b8a485dc4ca3e46a8c74c99698881aa27aad2bca3db626eb07f2b057feb"), looks := true }, kinds := [], alts := [], laidByText := true, laidKinds := [.data, .pinned], laidTests := true, laidLooks := .later }
def XmlPrintsCardSaid : Prop := Claim7.holds Tryz.pinned (.plain (OpenSpec.ofChange xmlPrintsSpec)) xmlPrintsCard

/-- THE TIED CARD OF 'rosterlaw13.XmlBack'. -/
def xmlBackCard : Claim7 := { stood := { row := xmlBackRow, standIns := [], harness := (true, "bc2c0b8a485dc4ca3e46a8c74c99698881aa27aad2bca3db626eb07f2b057feb"), looks := true }, kinds := [], alts := [], laidByText := true, laidKinds := [.data, .pinned], laidTests := true, laidLooks := .later }
def XmlBackCardSaid : Prop := Claim7.holds Tryz.pinned (.plain (OpenSpec.ofChange xmlBackSpec)) xmlBackCard

/-- THE TIED CARD OF 'rosterlaw13.XmlOnce'. -/
def xmlOnceCard : Claim7 := { stood := { row := xmlOnceRow, standIns := [], harness := (true, "bc2c0b8a485dc4ca3e46a8c74c99698881aa27aad2bca3db626eb07f2b057feb"), looks := true }, kinds := [], alts := [], laidByText := true, laidKinds := [.data, .pinned], laidTests := true, laidLooks := .later }
def XmlOnceCardSaid : Prop := Claim7.holds Tryz.pinned (.plain (OpenSpec.ofChange xmlOnceSpec)) xmlOnceCard

/-- THE TIED CARD OF 'rosterlaw13.XmlBlanks'. -/
def xmlBlanksCard : Claim7 := { stood := { row := xmlBlanksRow, standIns := [], harness := (true, "bc2c0b8a485dc4ca3e46a8c74c99698881aa27aad2bca3db626eb07f2b057feb"), looks := true }, kinds := [], alts := [], laidByText := true, laidKinds := [.data, .pinned], laidTests := true, laidLooks := .later }
def XmlBlanksCardSaid : Prop := Claim7.holds Tryz.pinned (.plain (OpenSpec.ofChange xmlBlanksSpec)) xmlBlanksCard

/-- THE TIED CARD OF 'rosterlaw13.XmlTexts'. -/
def xmlTextsCard : Claim7 := { stood := { row := xmlTextsRow, standIns := [], harness := (true, "bc2c0b8a485dc4ca3e46a8c74c99698881aa27aad2bca3db626eb07f2b057feb"), looks := true }, kinds := [], alts := [], laidByText := true, laidKinds := [.data, .pinned], laidTests := true, laidLooks := .later }
def XmlTextsCardSaid : Prop := Claim7.holds Tryz.pinned (.plain (OpenSpec.ofChange xmlTextsSpec)) xmlTextsCard

/-- THE SECOND FORM's CARD OF 'rosterlaw13.XmlPrints'. -/
def xmlPrintsUptoCard : Claim7 := { stood := { row := xmlPrintsUptoRow, standIns := [], harness := (true, "bc2c0b8a485dc4ca3e46a8c74c99698881aa27aad2bca3db626eb07f2b057feb"), looks := true }, kinds := [], alts := [], laidByText := true, laidKinds := [.data, .pinned], laidTests := true, laidLooks := .later }
def XmlPrintsUptoCardSaid : Prop := Claim7.holds Tryz.pinned (.plain (OpenSpec.upto xmlPrintsSpec)) xmlPrintsUptoCard

/-- THE SECOND FORM's CARD OF 'rosterlaw13.XmlBack'. -/
def xmlBackUptoCard : Claim7 := { stood := { row := xmlBackUptoRow, standIns := [], harness := (true, "bc2c0b8a485dc4ca3e46a8c74c99698881aa27aad2bca3db626eb07f2b057feb"), looks := true }, kinds := [], alts := [], laidByText := true, laidKinds := [.data, .pinned], laidTests := true, laidLooks := .later }
def XmlBackUptoCardSaid : Prop := Claim7.holds Tryz.pinned (.plain (OpenSpec.upto xmlBackSpec)) xmlBackUptoCard

/-- THE SECOND FORM's CARD OF 'rosterlaw13.XmlOnce'. -/
def xmlOnceUptoCard : Claim7 := { stood := { row := xmlOnceUptoRow, standIns := [], harness := (true, "bc2c0b8a485dc4ca3e46a8c74c99698881aa27aad2bca3db626eb07f2b057feb"), looks := true }, kinds := [], alts := [], laidByText := true, laidKinds := [.data, .pinned], laidTests := true, laidLooks := .later }
def XmlOnceUptoCardSaid : Prop := Claim7.holds Tryz.pinned (.plain (OpenSpec.upto xmlOnceSpec)) xmlOnceUptoCard

/-- THE SECOND FORM's CARD OF 'rosterlaw13.XmlBlanks'. -/
def xmlBlanksUptoCard : Claim7 := { stood := { row := xmlBlanksUptoRow, standIns := [], harness := (true, "bc2c0b8a485dc4ca3e46a8c74c99698881aa27aad2bca3db626eb07f2b057feb"), looks := true }, kinds := [], alts := [], laidByText := true, laidKinds := [.data, .pinned], laidTests := true, laidLooks := .later }
def XmlBlanksUptoCardSaid : Prop := Claim7.holds Tryz.pinned (.plain (OpenSpec.upto xmlBlanksSpec)) xmlBlanksUptoCard

/-- THE SECOND FORM's CARD OF 'rosterlaw13.XmlTexts'. -/
def xmlTextsUptoCard : Claim7 := { stood := { row := xmlTextsUptoRow, standIns := [], harness := (true, "bc2c0b8a485dc4ca3e46a8c74c99698881aa27aad2bca3db626eb07f2b057feb"), looks := true }, kinds := [], alts := [], laidByText := true, laidKinds := [.data, .pinned], laidTests := true, laidLooks := .later }
def XmlTextsUptoCardSaid : Prop := Claim7.holds Tryz.pinned (.plain (OpenSpec.upto xmlTextsSpec)) xmlTextsUptoCard
end Rows
end Go.Proofs.YtffcapkjfmkkaaaGreatDoor
