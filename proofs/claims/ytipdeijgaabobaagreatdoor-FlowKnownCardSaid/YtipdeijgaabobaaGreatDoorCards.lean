/-
  DERIVED. GIVEN WITH THE SEED: THE CARDS: each row of YtipdeijgaabobaaGreatDoorRows.lean that lists a variable, with what it lists TIED to the program's text (the seventh form; the later family's looks); each row that meets fmt, with fmt's text TOLD by the authors' own Lean function (tested against real Go, not proved from fmt's source: count such statements apart). THE CARD IS WHAT COUNTS. Prove the row's statement (the work); the ties are given (YtipdeijgaabobaaGreatDoorTie.lean); close each card by the builder's one call (the guide's Derived/Test/ToyasCard.lean, 'card_holds'). Laid BY PROGRAM, IN A SANDBOX (cutbox-door.mjs). By AI agents, Wed Nov 11 2026. No macro, syntax, notation, axiom, sorry.
-/
import Derived.Test.YtipdeijgaabobaaGreatDoorRows
import GoSem.ClaimSeven
namespace Go.Proofs.YtipdeijgaabobaaGreatDoor
namespace Rows

/-- THE TIED CARD OF 'stockadelaw13.FlowKnown'. -/
def flowKnownCard : Claim7 := { stood := { row := flowKnownRow, standIns := [], harness := (true, "3f1228261fddc7678266b184a769745f8ab827f41e2adbde53b4f3cbf53128dc"), looks := false }, kinds := [], alts := [], laidByText := true, laidKinds := [.data], laidTests := true, laidLooks := .later }
def FlowKnownCardSaid : Prop := Claim7.holds Tryz.pinned (.plain (OpenSpec.ofChange flowKnownSpec)) flowKnownCard

/-- THE TIED CARD OF 'stockadelaw15.CertThins'. -/
def certThinsCard : Claim7 := { stood := { row := certThinsRow, standIns := [], harness := (true, "3f1228261fddc7678266b184a769745f8ab827f41e2adbde53b4f3cbf53128dc"), looks := false }, kinds := [], alts := [], laidByText := true, laidKinds := [.data], laidTests := true, laidLooks := .later }
def CertThinsCardSaid : Prop := Claim7.holds Tryz.pinned (.plain (OpenSpec.ofChange certThinsSpec)) certThinsCard

/-- THE TIED CARD OF 'stockadelaw15.CertThin'. -/
def certThinCard : Claim7 := { stood := { row := certThinRow, standIns := [], harness := (true, "3f1228261fddc7678266b184a769745f8ab827f41e2adbde53b4f3cbf53128dc"), looks := false }, kinds := [], alts := [], laidByText := true, laidKinds := [.data], laidTests := true, laidLooks := .later }
def CertThinCardSaid : Prop := Claim7.holds Tryz.pinned (.plain (OpenSpec.ofChange certThinSpec)) certThinCard

/-- THE TIED CARD OF 'stockadelaw15.CertPacks'. -/
def certPacksCard : Claim7 := { stood := { row := certPacksRow, standIns := [], harness := (true, "3f1228261fddc7678266b184a769745f8ab827f41e2adbde53b4f3cbf53128dc"), looks := false }, kinds := [], alts := [], laidByText := true, laidKinds := [.data], laidTests := true, laidLooks := .later }
def CertPacksCardSaid : Prop := Claim7.holds Tryz.pinned (.plain (OpenSpec.ofChange certPacksSpec)) certPacksCard

/-- THE TIED CARD OF 'stockadelaw15.CertBack'. -/
def certBackCard : Claim7 := { stood := { row := certBackRow, standIns := [], harness := (true, "3f1228261fddc7678266b184a769745f8ab827f41e2adbde53b4f3cbf53128dc"), looks := false }, kinds := [], alts := [], laidByText := true, laidKinds := [.data], laidTests := true, laidLooks := .later }
def CertBackCardSaid : Prop := Claim7.holds Tryz.pinned (.plain (OpenSpec.ofChange certBackSpec)) certBackCard

/-- THE TIED CARD OF 'stockadelaw15.CertKnown'. -/
def certKnownCard : Claim7 := { stood := { row := certKnownRow, standIns := [], harness := (true, "3f1228261fddc7678266b184a769745f8ab827f41e2adbde53b4f3cbf53128dc"), looks := false }, kinds := [], alts := [], laidByText := true, laidKinds := [.data], laidTests := true, laidLooks := .later }
def CertKnownCardSaid : Prop := Claim7.holds Tryz.pinned (.plain (OpenSpec.ofChange certKnownSpec)) certKnownCard

/-- THE SECOND FORM's CARD OF 'stockadelaw13.FlowKnown'. -/
def flowKnownUptoCard : Claim7 := { stood := { row := flowKnownUptoRow, standIns := [], harness := (true, "3f1228261fddc7678266b184a769745f8ab827f41e2adbde53b4f3cbf53128dc"), looks := false }, kinds := [], alts := [], laidByText := true, laidKinds := [.data], laidTests := true, laidLooks := .later }
def FlowKnownUptoCardSaid : Prop := Claim7.holds Tryz.pinned (.plain (OpenSpec.upto flowKnownSpec)) flowKnownUptoCard

/-- THE SECOND FORM's CARD OF 'stockadelaw15.CertThins'. -/
def certThinsUptoCard : Claim7 := { stood := { row := certThinsUptoRow, standIns := [], harness := (true, "3f1228261fddc7678266b184a769745f8ab827f41e2adbde53b4f3cbf53128dc"), looks := false }, kinds := [], alts := [], laidByText := true, laidKinds := [.data], laidTests := true, laidLooks := .later }
def CertThinsUptoCardSaid : Prop := Claim7.holds Tryz.pinned (.plain (OpenSpec.upto certThinsSpec)) certThinsUptoCard

/-- THE SECOND FORM's CARD OF 'stockadelaw15.CertThin'. -/
def certThinUptoCard : Claim7 := { stood := { row := certThinUptoRow, standIns := [], harness := (true, "3f1228261fddc7678266b184a769745f8ab827f41e2adbde53b4f3cbf53128dc"), looks := false }, kinds := [], alts := [], laidByText := true, laidKinds := [.data], laidTests := true, laidLooks := .later }
def CertThinUptoCardSaid : Prop := Claim7.holds Tryz.pinned (.plain (OpenSpec.upto certThinSpec)) certThinUptoCard

/-- THE SECOND FORM's CARD OF 'stockadelaw15.CertPacks'. -/
def certPacksUptoCard : Claim7 := { stood := { row := certPacksUptoRow, standIns := [], harness := (true, "3f1228261fddc7678266b184a769745f8ab827f41e2adbde53b4f3cbf53128dc"), looks := false }, kinds := [], alts := [], laidByText := true, laidKinds := [.data], laidTests := true, laidLooks := .later }
def CertPacksUptoCardSaid : Prop := Claim7.holds Tryz.pinned (.plain (OpenSpec.upto certPacksSpec)) certPacksUptoCard

/-- THE SECOND FORM's CARD OF 'stockadelaw15.CertBack'. -/
def certBackUptoCard : Claim7 := { stood := { row := certBackUptoRow, standIns := [], harness := (true, "3f1228261fddc7678266b184a769745f8ab827f41e2adbde53b4f3cbf53128dc"), looks := false }, kinds := [], alts := [], laidByText := true, laidKinds := [.data], laidTests := true, laidLooks := .later }
def CertBackUptoCardSaid : Prop := Claim7.holds Tryz.pinned (.plain (OpenSpec.upto certBackSpec)) certBackUptoCard

/-- THE SECOND FORM's CARD OF 'stockadelaw15.CertKnown'. -/
def certKnownUptoCard : Claim7 := { stood := { row := certKnownUptoRow, standIns := [], harness := (true, "3f1228261fddc7678266b184a769745f8ab827f41e2adbde53b4f3cbf53128dc"), looks := false }, kinds := [], alts := [], laidByText := true, laidKinds := [.data], laidTests := true, laidLooks := .later }
def CertKnownUptoCardSaid : Prop := Claim7.holds Tryz.pinned (.plain (OpenSpec.upto certKnownSpec)) certKnownUptoCard
end Rows
end Go.Proofs.YtipdeijgaabobaaGreatDoor
