/-
  NARROWER THAN 'FOR EVERY INPUT', by the rows' own cells (each row's printed sentence says how): CompileCodes: laid · CompileSizes: laid.
  DERIVED. THE GIVEN ROWS OF THIS SEAT. 2 by the template 'for every input the law returns true; each argument reads behind the call as it read before'; 0 by the template 'total and deterministic' (their statements: YtadioopbehiakaaDoorTotals.lean).
  GIVEN WITH THE SEED: the statements are not yours to turn. If you find one false, say at which input.
  Laid BY PROGRAM, IN A SANDBOX (cutbox-rows.mjs): the forced cells as the released guide's own fill.sh prints them over the translation f0015e70421b39ce… (all of the seat's roots in one cut). By AI agents, Wed Nov 11 2026. No macro, syntax, notation, axiom, sorry.
-/
import Derived.Test.YtadioopbehiakaaDoorChecked
import GoSem.Claim
import GoSem.ClaimJoined
import GoSem.ClaimMapViews
import Derived.JoinedTies
import Derived.KernelRfl
namespace Go.Proofs.YtadioopbehiakaaDoor
/- THE CELL 'sum', in the pinned program and in every row, IS THE sha256 OF THE DUMP (.gsa) THAT YtadioopbehiakaaDoorProg.lean LOADS. Nothing in Lean hashes anything: it is a label: what it is worth is what the hold of that sum in a sandbox is worth. -/
noncomputable def Tryd.pinned : Pinned := { name := "ytadioopbehiakaadoor", sum := "f0015e70421b39ce65946a12d94d8c6ddaed6bf89565585657d7d017881caeb5", checked := Tryd.checked }
namespace Rows
def none {H : Type} : Left H := { results := [], args := [] }

/- WHAT THE LISTED PACKAGE-LEVEL VARIABLES READ AS WHEN THE CALL BEGINS. Each datum BY PROGRAM (the guide's laid-datum.mjs) off the statement by which the dump's own 'gosem.cut.vars' lays the variable. In a bare row this is a premise. The card (YtadioopbehiakaaDoorCards.lean) ties it to the program's text. -/
def laid_stockade_insn_sizes {H : Type} : DataW H := .agg [.lit (.int .i64 4), .lit (.int .i64 2), .lit (.int .i64 1), .lit (.int .i64 8)]

/-- 'stockadelaw19.CompileCodes': WHATEVER THE INPUT: true; the input reads as it did. -/
def compileCodesSpec : ChangeSpec := { name := "compileCodes", fn := fun _ => fun
  | [d] => { results := [.lit (.bool true)], args := [d] }
  | _ => none }
def compileCodesRow : OpenClaim := { program := "ytadioopbehiakaadoor", sum := "f0015e70421b39ce65946a12d94d8c6ddaed6bf89565585657d7d017881caeb5", func := "stockade/stockadelaw19.CompileCodes", spec := "compileCodes", named := ["stockade/insn.sizes"], apart := false, laid := [("stockade/insn.sizes", laid_stockade_insn_sizes)] }
def CompileCodesSaid : Prop := compileCodesRow.holds Tryd.pinned (OpenSpec.ofChange compileCodesSpec)

/-- ITS FALSE NEIGHBOUR: 'it returns false'. Refute it at one input. -/
def compileCodesWrong : ChangeSpec := { name := "compileCodes", fn := fun _ => fun
  | [d] => { results := [.lit (.bool false)], args := [d] }
  | _ => none }
def CompileCodesWrongFalsely : Prop := compileCodesRow.holds Tryd.pinned (OpenSpec.ofChange compileCodesWrong)

/-- 'stockadelaw19.CompileSizes': WHATEVER THE INPUT: true; the input reads as it did. -/
def compileSizesSpec : ChangeSpec := { name := "compileSizes", fn := fun _ => fun
  | [d1, d2] => { results := [.lit (.bool true)], args := [d1, d2] }
  | _ => none }
def compileSizesRow : OpenClaim := { program := "ytadioopbehiakaadoor", sum := "f0015e70421b39ce65946a12d94d8c6ddaed6bf89565585657d7d017881caeb5", func := "stockade/stockadelaw19.CompileSizes", spec := "compileSizes", named := ["stockade/insn.sizes"], apart := false, laid := [("stockade/insn.sizes", laid_stockade_insn_sizes)] }
def CompileSizesSaid : Prop := compileSizesRow.holds Tryd.pinned (OpenSpec.ofChange compileSizesSpec)

/-- ITS FALSE NEIGHBOUR: 'it returns false'. Refute it at one input. -/
def compileSizesWrong : ChangeSpec := { name := "compileSizes", fn := fun _ => fun
  | [d1, d2] => { results := [.lit (.bool false)], args := [d1, d2] }
  | _ => none }
def CompileSizesWrongFalsely : Prop := compileSizesRow.holds Tryd.pinned (OpenSpec.ofChange compileSizesWrong)

/- THE SECOND FORM. 'bulk': how many values and letters a reading holds, each counted each time it is reached (what is shared counts as often as it is met; a slice's spare places count too). A statement '..UptoSaid' is the law's where the arguments, and the package variables that the reading takes, are together of bulk at most 1048576: NARROWER than '..Said'. Prove '..Said' where nothing that the law and all that it calls make is longer than what came in: it says more and counts as full. Else prove '..UptoSaid'. A law counts once. -/
mutual
def uptoBulk {H : Type} : DataW H → Nat
  | .lit (.string bytes) => bytes.length + 1
  | .lit _ => 1
  | .nil => 1
  | .ptr d => uptoBulk d + 1
  | .slice elems spare => uptoBulkAll elems + uptoBulkAll spare + 1
  | .agg parts => uptoBulkAll parts + 1
  | .iface _ d => uptoBulk d + 1
  | .map entries => uptoBulkEntries entries + 1
  | .held _ => 1
def uptoBulkAll {H : Type} : List (DataW H) → Nat
  | [] => 0
  | d :: r => uptoBulk d + uptoBulkAll r
def uptoBulkEntries {H : Type} : List (Lit × DataW H) → Nat
  | [] => 0
  | x :: r => uptoBulkEntry x + uptoBulkEntries r
def uptoBulkEntry {H : Type} : Lit × DataW H → Nat
  | (.string bytes, d) => bytes.length + uptoBulk d + 1
  | (_, d) => uptoBulk d + 1
 end
def uptoSmall : (H : Type) → List (DataW H) → Bool := fun _ ds => decide (uptoBulkAll ds ≤ 1048576)
def OpenSpec.upto (s : _root_.Go.ChangeSpec) : _root_.Go.OpenSpec := { _root_.Go.OpenSpec.ofChange s with cond := some uptoSmall }

/-- 'stockadelaw19.CompileCodes', WHERE WHAT IT READS IS OF BULK AT MOST 1048576: true; the input reads as it did. -/
def compileCodesUptoRow : OpenClaim := { program := "ytadioopbehiakaadoor", sum := "f0015e70421b39ce65946a12d94d8c6ddaed6bf89565585657d7d017881caeb5", func := "stockade/stockadelaw19.CompileCodes", spec := "compileCodes", named := ["stockade/insn.sizes"], apart := false, laid := [("stockade/insn.sizes", laid_stockade_insn_sizes)], narrowed := true }
def CompileCodesUptoSaid : Prop := compileCodesUptoRow.holds Tryd.pinned (OpenSpec.upto compileCodesSpec)

/-- 'stockadelaw19.CompileSizes', WHERE WHAT IT READS IS OF BULK AT MOST 1048576: true; the input reads as it did. -/
def compileSizesUptoRow : OpenClaim := { program := "ytadioopbehiakaadoor", sum := "f0015e70421b39ce65946a12d94d8c6ddaed6bf89565585657d7d017881caeb5", func := "stockade/stockadelaw19.CompileSizes", spec := "compileSizes", named := ["stockade/insn.sizes"], apart := false, laid := [("stockade/insn.sizes", laid_stockade_insn_sizes)], narrowed := true }
def CompileSizesUptoSaid : Prop := compileSizesUptoRow.holds Tryd.pinned (OpenSpec.upto compileSizesSpec)

end Rows
end Go.Proofs.YtadioopbehiakaaDoor
