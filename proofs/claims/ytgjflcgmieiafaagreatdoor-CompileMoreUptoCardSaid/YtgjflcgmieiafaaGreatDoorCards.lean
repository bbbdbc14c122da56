/-
  DERIVED. GIVEN WITH THE SEED: THE CARDS: each row of YtgjflcgmieiafaaGreatDoorRows.lean that lists a variable, with what it lists TIED to the program's text (the seventh form; the later family's looks); each row that meets fmt, with fmt's text TOLD by the authors' own Lean function (tested against real Go, not proved from fmt's source: count such statements apart). THE CARD IS WHAT COUNTS. Prove the row's statement (the work); the ties are given (YtgjflcgmieiafaaGreatDoorTie.lean); close each card by the builder's one call (the guide's Derived/Test/ToyasCard.lean, 'card_holds'). Laid BY PROGRAM, IN A SANDBOX (cutbox-door.mjs). By AI agents, Wed Nov 11 2026. No macro, syntax, notation, axiom, sorry.
-/
import Derived.Test.YtgjflcgmieiafaaGreatDoorRows
import GoSem.ClaimSeven
namespace Go.Proofs.YtgjflcgmieiafaaGreatDoor
namespace Rows

/-- THE TIED CARD OF 'stockadelaw19.CompileMore'. -/
def compileMoreCard : Claim7 := { stood := { row := compileMoreRow, standIns := [], harness := (true, "b970aaf00d14e7e67c4555adde61eb7d675f15837ec2509480a5bb282d512b22"), looks := false }, kinds := [], alts := [], laidByText := true, laidKinds := [.data], laidTests := true, laidLooks := .later }
def CompileMoreCardSaid : Prop := Claim7.holds Tryz.pinned (.plain (OpenSpec.ofChange compileMoreSpec)) compileMoreCard

/-- THE TIED CARD OF 'stockadelaw19.CompileMeans'. -/
def compileMeansCard : Claim7 := { stood := { row := compileMeansRow, standIns := [], harness := (true, "b970aaf00d14e7e67c4555adde61eb7d675f15837ec2509480a5bb282d512b22"), looks := false }, kinds := [], alts := [], laidByText := true, laidKinds := [.data], laidTests := true, laidLooks := .later }
def CompileMeansCardSaid : Prop := Claim7.holds Tryz.pinned (.plain (OpenSpec.ofChange compileMeansSpec)) compileMeansCard

/-- THE SECOND FORM's CARD OF 'stockadelaw19.CompileMore'. -/
def compileMoreUptoCard : Claim7 := { stood := { row := compileMoreUptoRow, standIns := [], harness := (true, "b970aaf00d14e7e67c4555adde61eb7d675f15837ec2509480a5bb282d512b22"), looks := false }, kinds := [], alts := [], laidByText := true, laidKinds := [.data], laidTests := true, laidLooks := .later }
def CompileMoreUptoCardSaid : Prop := Claim7.holds Tryz.pinned (.plain (OpenSpec.upto compileMoreSpec)) compileMoreUptoCard

/-- THE SECOND FORM's CARD OF 'stockadelaw19.CompileMeans'. -/
def compileMeansUptoCard : Claim7 := { stood := { row := compileMeansUptoRow, standIns := [], harness := (true, "b970aaf00d14e7e67c4555adde61eb7d675f15837ec2509480a5bb282d512b22"), looks := false }, kinds := [], alts := [], laidByText := true, laidKinds := [.data], laidTests := true, laidLooks := .later }
def CompileMeansUptoCardSaid : Prop := Claim7.holds Tryz.pinned (.plain (OpenSpec.upto compileMeansSpec)) compileMeansUptoCard
end Rows
end Go.Proofs.YtgjflcgmieiafaaGreatDoor
