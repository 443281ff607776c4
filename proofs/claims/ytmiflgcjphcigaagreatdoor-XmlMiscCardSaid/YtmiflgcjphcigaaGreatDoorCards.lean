/-
  DERIVED. GIVEN WITH THE SEED: THE CARDS: each row of YtmiflgcjphcigaaGreatDoorRows.lean that lists a variable, with what it lists TIED to the program's text (the seventh form; the later family's looks); each row that meets fmt, with fmt's text TOLD by the authors' own Lean function (tested against real Go, not proved from fmt's source: count such statements apart). THE CARD IS WHAT COUNTS. Prove the row's statement (the work); the ties are given (YtmiflgcjphcigaaGreatDoorTie.lean); close each card by the builder's one call (the guide's Derived/Test/ToyasCard.lean, 'card_holds'). Laid BY PROGRAM, IN A SANDBOX (cutbox-door.mjs). By AI agents, Wed Nov 11 2026. No macro, syntax, notation, axiom, sorry.
-/
import Derived.Test.YtmiflgcjphcigaaGreatDoorRows
import GoSem.ClaimSeven
namespace Go.Proofs.YtmiflgcjphcigaaGreatDoor
namespace Rows

/-- THE TIED CARD OF 'rubricatorlaw10.XmlDeep'. -/
def xmlDeepCard : Claim7 := { stood := { row := xmlDeepRow, standIns := [], harness := (true, "7a7ccf44dd04430f3c8f43a3a68bec536d74776c7d2316ce2a6f46631d443c94"), looks := true }, kinds := [], alts := [], laidByText := true, laidKinds := [.data, .data, .data, .data, .sentinel, .sentinel, .data, .data, .pinned, .pinned], laidTests := true, laidLooks := .later }
def XmlDeepCardSaid : Prop := Claim7.holds Tryz.pinned (.plain (OpenSpec.ofChange xmlDeepSpec)) xmlDeepCard

/-- THE TIED CARD OF 'rubricatorlaw10.XmlSpaces'. -/
def xmlSpacesCard : Claim7 := { stood := { row := xmlSpacesRow, standIns := [], harness := (true, "7a7ccf44dd04430f3c8f43a3a68bec536d74776c7d2316ce2a6f46631d443c94"), looks := true }, kinds := [], alts := [], laidByText := true, laidKinds := [.data, .data, .data, .data, .sentinel, .sentinel, .data, .data, .pinned, .pinned], laidTests := true, laidLooks := .later }
def XmlSpacesCardSaid : Prop := Claim7.holds Tryz.pinned (.plain (OpenSpec.ofChange xmlSpacesSpec)) xmlSpacesCard

/-- THE TIED CARD OF 'rubricatorlaw10.XmlTwice'. -/
def xmlTwiceCard : Claim7 := { stood := { row := xmlTwiceRow, standIns := [], harness := (true, "7a7ccf44dd04430f3c8f43a3a68bec536d74776c7d2316ce2a6f46631d443c94"), looks := true }, kinds := [], alts := [], laidByText := true, laidKinds := [.data, .data, .data, .data, .sentinel, .sentinel, .data, .data, .pinned, .pinned], laidTests := true, laidLooks := .later }
def XmlTwiceCardSaid : Prop := Claim7.holds Tryz.pinned (.plain (OpenSpec.ofChange xmlTwiceSpec)) xmlTwiceCard

/-- THE TIED CARD OF 'rubricatorlaw10.XmlEnds'. -/
def xmlEndsCard : Claim7 := { stood := { row := xmlEndsRow, standIns := [], harness := (true, "7a7ccf44dd04430f3c8f43a3a68bec536d74776c7d2316ce2a6f46631d443c94"), looks := true }, kinds := [], alts := [], laidByText := true, laidKinds := [.data, .data, .data, .data, .sentinel, .sentinel, .data, .data, .pinned, .pinned], laidTests := true, laidLooks := .later }
def XmlEndsCardSaid : Prop := Claim7.holds Tryz.pinned (.plain (OpenSpec.ofChange xmlEndsSpec)) xmlEndsCard

/-- THE TIED CARD OF 'rubricatorlaw10.XmlMisc'. -/
def xmlMiscCard : Claim7 := { stood := { row := xmlMiscRow, standIns := [], harness := (true, "7a7ccf44dd04430f3c8f43a3a68bec536d74776c7d2316ce2a6f46631d443c94"), looks := true }, kinds := [], alts := [], laidByText := true, laidKinds := [.data, .data, .data, .data, .sentinel, .sentinel, .data, .data, .pinned, .pinned], laidTests := true, laidLooks := .later }
def XmlMiscCardSaid : Prop := Claim7.holds Tryz.pinned (.plain (OpenSpec.ofChange xmlMiscSpec)) xmlMiscCard

/-- THE TIED CARD OF 'rubricatorlaw10.XmlNames'. -/
def xmlNamesCard : Claim7 := { stood := { row := xmlNamesRow, standIns := [], harness := (true, "7a7ccf44dd04430f3c8f43a3a68bec536d74776c7d2316ce2a6f46631d443c94"), looks := true }, kinds := [], alts := [], laidByText := true, laidKinds := [.data, .data, .data, .data, .sentinel, .sentinel, .data, .data, .pinned, .pinned], laidTests := true, laidLooks := .later }
def XmlNamesCardSaid : Prop := Claim7.holds Tryz.pinned (.plain (OpenSpec.ofChange xmlNamesSpec)) xmlNamesCard

/-- THE TIED CARD OF 'rubricatorlaw10.XmlFinds'. -/
def xmlFindsCard : Claim7 := { stood := { row := xmlFindsRow, standIns := [], harness := (true, "7a7ccf44dd04430f3c8f43a3a68bec536d74776c7d2316ce2a6f46631d443c94"), looks := true }, kinds := [], alts := [], laidByText := true, laidKinds := [.data, .data, .data, .data, .sentinel, .sentinel, .data, .data, .pinned, .pinned], laidTests := true, laidLooks := .later }
def XmlFindsCardSaid : Prop := Claim7.holds Tryz.pinned (.plain (OpenSpec.ofChange xmlFindsSpec)) xmlFindsCard

/-- THE SECOND FORM's CARD OF 'rubricatorlaw10.XmlDeep'. -/
def xmlDeepUptoCard : Claim7 := { stood := { row := xmlDeepUptoRow, standIns := [], harness := (true, "7a7ccf44dd04430f3c8f43a3a68bec536d74776c7d2316ce2a6f46631d443c94"), looks := true }, kinds := [], alts := [], laidByText := true, laidKinds := [.data, .data, .data, .data, .sentinel, .sentinel, .data, .data, .pinned, .pinned], laidTests := true, laidLooks := .later }
def XmlDeepUptoCardSaid : Prop := Claim7.holds Tryz.pinned (.plain (OpenSpec.upto xmlDeepSpec)) xmlDeepUptoCard

/-- THE SECOND FORM's CARD OF 'rubricatorlaw10.XmlSpaces'. -/
def xmlSpacesUptoCard : Claim7 := { stood := { row := xmlSpacesUptoRow, standIns := [], harness := (true, "7a7ccf44dd04430f3c8f43a3a68bec536d74776c7d2316ce2a6f46631d443c94"), looks := true }, kinds := [], alts := [], laidByText := true, laidKinds := [.data, .data, .data, .data, .sentinel, .sentinel, .data, .data, .pinned, .pinned], laidTests := true, laidLooks := .later }
def XmlSpacesUptoCardSaid : Prop := Claim7.holds Tryz.pinned (.plain (OpenSpec.upto xmlSpacesSpec)) xmlSpacesUptoCard

/-- THE SECOND FORM's CARD OF 'rubricatorlaw10.XmlTwice'. -/
def xmlTwiceUptoCard : Claim7 := { stood := { row := xmlTwiceUptoRow, standIns := [], harness := (true, "7a7ccf44dd04430f3c8f43a3a68bec536d74776c7d2316ce2a6f46631d443c94"), looks := true }, kinds := [], alts := [], laidByText := true, laidKinds := [.data, .data, .data, .data, .sentinel, .sentinel, .data, .data, .pinned, .pinned], laidTests := true, laidLooks := .later }
def XmlTwiceUptoCardSaid : Prop := Claim7.holds Tryz.pinned (.plain (OpenSpec.upto xmlTwiceSpec)) xmlTwiceUptoCard

/-- THE SECOND FORM's CARD OF 'rubricatorlaw10.XmlEnds'. -/
def xmlEndsUptoCard : Claim7 := { stood := { row := xmlEndsUptoRow, standIns := [], harness := (true, "7a7ccf44dd04430f3c8f43a3a68bec536d74776c7d2316ce2a6f46631d443c94"), looks := true }, kinds := [], alts := [], laidByText := true, laidKinds := [.data, .data, .data, .data, .sentinel, .sentinel, .data, .data, .pinned, .pinned], laidTests := true, laidLooks := .later }
def XmlEndsUptoCardSaid : Prop := Claim7.holds Tryz.pinned (.plain (OpenSpec.upto xmlEndsSpec)) xmlEndsUptoCard

/-- THE SECOND FORM's CARD OF 'rubricatorlaw10.XmlMisc'. -/
def xmlMiscUptoCard : Claim7 := { stood := { row := xmlMiscUptoRow, standIns := [], harness := (true, "7a7ccf44dd04430f3c8f43a3a68bec536d74776c7d2316ce2a6f46631d443c94"), looks := true }, kinds := [], alts := [], laidByText := true, laidKinds := [.data, .data, .data, .data, .sentinel, .sentinel, .data, .data, .pinned, .pinned], laidTests := true, laidLooks := .later }
def XmlMiscUptoCardSaid : Prop := Claim7.holds Tryz.pinned (.plain (OpenSpec.upto xmlMiscSpec)) xmlMiscUptoCard

/-- THE SECOND FORM's CARD OF 'rubricatorlaw10.XmlNames'. -/
def xmlNamesUptoCard : Claim7 := { stood := { row := xmlNamesUptoRow, standIns := [], harness := (true, "7a7ccf44dd04430f3c8f43a3a68bec536d74776c7d2316ce2a6f46631d443c94"), looks := true }, kinds := [], alts := [], laidByText := true, laidKinds := [.data, .data, .data, .data, .sentinel, .sentinel, .data, .data, .pinned, .pinned], laidTests := true, laidLooks := .later }
def XmlNamesUptoCardSaid : Prop := Claim7.holds Tryz.pinned (.plain (OpenSpec.upto xmlNamesSpec)) xmlNamesUptoCard

/-- THE SECOND FORM's CARD OF 'rubricatorlaw10.XmlFinds'. -/
def xmlFindsUptoCard : Claim7 := { stood := { row := xmlFindsUptoRow, standIns := [], harness := (true, "7a7ccf44dd04430f3c8f43a3a68bec536d74776c7d2316ce2a6f46631d443c94"), looks := true }, kinds := [], alts := [], laidByText := true, laidKinds := [.data, .data, .data, .data, .sentinel, .sentinel, .data, .data, .pinned, .pinned], laidTests := true, laidLooks := .later }
def XmlFindsUptoCardSaid : Prop := Claim7.holds Tryz.pinned (.plain (OpenSpec.upto xmlFindsSpec)) xmlFindsUptoCard
end Rows
end Go.Proofs.YtmiflgcjphcigaaGreatDoor
