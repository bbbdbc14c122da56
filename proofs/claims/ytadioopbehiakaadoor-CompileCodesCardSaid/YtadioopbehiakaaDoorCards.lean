/-
  DERIVED. GIVEN WITH THE SEED: THE CARDS: each row of YtadioopbehiakaaDoorRows.lean that lists a variable, with what it lists TIED to the program's text (the seventh form; the later family's looks); each row that meets fmt, with fmt's text TOLD by the authors' own Lean function (tested against real Go, not proved from fmt's source: count such statements apart). THE CARD IS WHAT COUNTS. Prove the row's statement (the work); the ties are given (YtadioopbehiakaaDoorTie.lean); close each card by the builder's one call (the guide's Derived/Test/ToyasCard.lean, 'card_holds'). Laid BY PROGRAM, IN A SANDBOX (cutbox-door.mjs). By AI agents, Wed Nov 11 2026. No macro, syntax, notation, axiom, sorry.
-/
import Derived.Test.YtadioopbehiakaaDoorRows
import GoSem.ClaimSeven
namespace Go.Proofs.YtadioopbehiakaaDoor
namespace Rows

/-- THE TIED CARD OF 'stockadelaw19.CompileCodes'. -/
def compileCodesCard : Claim7 := { stood := { row := compileCodesRow, standIns := [], harness := (true, "046a31bbb427aefb2117227917c4146953841dad10d8feec1d7320b2dda3de67"), looks := false }, kinds := [], alts := [], laidByText := true, laidKinds := [.data], laidTests := true, laidLooks := .later }
def CompileCodesCardSaid : Prop := Claim7.holds Tryd.pinned (.plain (OpenSpec.ofChange compileCodesSpec)) compileCodesCard

/-- THE TIED CARD OF 'stockadelaw19.CompileSizes'. -/
def compileSizesCard : Claim7 := { stood := { row := compileSizesRow, standIns := [], harness := (true, "046a31bbb427aefb2117227917c4146953841dad10d8feec1d7320b2dda3de67"), looks := false }, kinds := [], alts := [], laidByText := true, laidKinds := [.data], laidTests := true, laidLooks := .later }
def CompileSizesCardSaid : Prop := Claim7.holds Tryd.pinned (.plain (OpenSpec.ofChange compileSizesSpec)) compileSizesCard

/-- THE SECOND FORM's CARD OF 'stockadelaw19.CompileCodes'. -/
def compileCodesUptoCard : Claim7 := { stood := { row := compileCodesUptoRow, standIns := [], harness := (true, "046a31bbb427aefb2117227917c4146953841dad10d8feec1d7320b2dda3de67"), looks := false }, kinds := [], alts := [], laidByText := true, laidKinds := [.data], laidTests := true, laidLooks := .later }
def CompileCodesUptoCardSaid : Prop := Claim7.holds Tryd.pinned (.plain (OpenSpec.upto compileCodesSpec)) compileCodesUptoCard

/-- THE SECOND FORM's CARD OF 'stockadelaw19.CompileSizes'. -/
def compileSizesUptoCard : Claim7 := { stood := { row := compileSizesUptoRow, standIns := [], harness := (true, "046a31bbb427aefb2117227917c4146953841dad10d8feec1d7320b2dda3de67"), looks := false }, kinds := [], alts := [], laidByText := true, laidKinds := [.data], laidTests := true, laidLooks := .later }
def CompileSizesUptoCardSaid : Prop := Claim7.holds Tryd.pinned (.plain (OpenSpec.upto compileSizesSpec)) compileSizesUptoCard
end Rows
end Go.Proofs.YtadioopbehiakaaDoor
