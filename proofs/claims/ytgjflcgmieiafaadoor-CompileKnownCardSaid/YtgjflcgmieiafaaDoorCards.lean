/-
  DERIVED. GIVEN WITH THE SEED: THE CARDS: each row of YtgjflcgmieiafaaDoorRows.lean that lists a variable, with what it lists TIED to the program's text (the seventh form; the later family's looks); each row that meets fmt, with fmt's text TOLD by the authors' own Lean function (tested against real Go, not proved from fmt's source: count such statements apart). THE CARD IS WHAT COUNTS. Prove the row's statement (the work); the ties are given (YtgjflcgmieiafaaDoorTie.lean); close each card by the builder's one call (the guide's Derived/Test/ToyasCard.lean, 'card_holds'). Laid BY PROGRAM, IN A SANDBOX (cutbox-door.mjs). By AI agents, Wed Nov 11 2026. No macro, syntax, notation, axiom, sorry.
-/
import Derived.Test.YtgjflcgmieiafaaDoorRows
import GoSem.ClaimSeven
namespace Go.Proofs.YtgjflcgmieiafaaDoor
namespace Rows

/-- THE TIED CARD OF 'stockadelaw19.CompileKnown'. -/
def compileKnownCard : Claim7 := { stood := { row := compileKnownRow, standIns := [], harness := (true, "2019d7ef3539e6e2fad306dfc507b8289333a855e7c1f5cfdb4a585a6a097339"), looks := false }, kinds := [], alts := [], laidByText := true, laidKinds := [.data], laidTests := true, laidLooks := .later }
def CompileKnownCardSaid : Prop := Claim7.holds Tryd.pinned (.plain (OpenSpec.ofChange compileKnownSpec)) compileKnownCard

/-- THE SECOND FORM's CARD OF 'stockadelaw19.CompileKnown'. -/
def compileKnownUptoCard : Claim7 := { stood := { row := compileKnownUptoRow, standIns := [], harness := (true, "2019d7ef3539e6e2fad306dfc507b8289333a855e7c1f5cfdb4a585a6a097339"), looks := false }, kinds := [], alts := [], laidByText := true, laidKinds := [.data], laidTests := true, laidLooks := .later }
def CompileKnownUptoCardSaid : Prop := Claim7.holds Tryd.pinned (.plain (OpenSpec.upto compileKnownSpec)) compileKnownUptoCard
end Rows
end Go.Proofs.YtgjflcgmieiafaaDoor
