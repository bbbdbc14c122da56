/-
  NARROWER THAN 'FOR EVERY INPUT', by the rows' own cells (each row's printed sentence says how): FlowKnown: laid · CertThins: laid · CertThin: laid · CertPacks: laid · CertBack: laid · CertKnown: laid.
  DERIVED. THE GIVEN ROWS OF THIS SEAT. 6 by the template 'for every input the law returns true; each argument reads behind the call as it read before'; 0 by the template 'total and deterministic' (their statements: YtipdeijgaabobaaGreatDoorTotals.lean).
  GIVEN WITH THE SEED: the statements are not yours to turn. If you find one false, say at which input.
  Laid BY PROGRAM, IN A SANDBOX (cutbox-rows.mjs): the forced cells as the released guide's own fill.sh prints them over the translation cc95202337c591f5… (all of the seat's roots in one cut). By AI agents, Wed Nov 11 2026. No macro, syntax, notation, axiom, sorry.
-/
import Derived.Test.YtipdeijgaabobaaGreatDoorChecked
import GoSem.Claim
import GoSem.ClaimJoined
import GoSem.ClaimMapViews
import Derived.JoinedTies
import Derived.KernelRfl
namespace Go.Proofs.YtipdeijgaabobaaGreatDoor
/- THE CELL 'sum', in the pinned program and in every row, IS THE sha256 OF THE DUMP (.gsa) THAT YtipdeijgaabobaaGreatDoorProg.lean LOADS. Nothing in Lean hashes anything: it is a label: what it is worth is what the hold of that sum in a sandbox is worth. -/
noncomputable def Tryz.pinned : Pinned := { name := "ytipdeijgaabobaagreatdoor", sum := "cc95202337c591f51be2341e51d9a03e0e0784dcf5df0ad026d8781db4903774", checked := Tryz.checked }
namespace Rows
def none {H : Type} : Left H := { results := [], args := [] }

/- WHAT THE LISTED PACKAGE-LEVEL VARIABLES READ AS WHEN THE CALL BEGINS. Each datum BY PROGRAM (the guide's laid-datum.mjs) off the statement by which the dump's own 'gosem.cut.vars' lays the variable. In a bare row this is a premise. The card (YtipdeijgaabobaaGreatDoorCards.lean) ties it to the program's text. -/
def laid_stockade_insn_sizes {H : Type} : DataW H := .agg [.lit (.int .i64 4), .lit (.int .i64 2), .lit (.int .i64 1), .lit (.int .i64 8)]

/-- 'stockadelaw13.FlowKnown': WHATEVER THE INPUT: true; the input reads as it did. -/
def flowKnownSpec : ChangeSpec := { name := "flowKnown", fn := fun _ => fun
  | [] => { results := [.lit (.bool true)], args := [] }
  | _ => none }
def flowKnownRow : OpenClaim := { program := "ytipdeijgaabobaagreatdoor", sum := "cc95202337c591f51be2341e51d9a03e0e0784dcf5df0ad026d8781db4903774", func := "stockade/stockadelaw13.FlowKnown", spec := "flowKnown", inPlace := ["math/bits.Add64", "math/bits.Sub64"], unfollowed := true, recurses := true, named := ["stockade/insn.sizes"], apart := false, laid := [("stockade/insn.sizes", laid_stockade_insn_sizes)] }
def FlowKnownSaid : Prop := flowKnownRow.holds Tryz.pinned (OpenSpec.ofChange flowKnownSpec)

/-- ITS FALSE NEIGHBOUR: 'it returns false'. Refute it at one input. -/
def flowKnownWrong : ChangeSpec := { name := "flowKnown", fn := fun _ => fun
  | [] => { results := [.lit (.bool false)], args := [] }
  | _ => none }
def FlowKnownWrongFalsely : Prop := flowKnownRow.holds Tryz.pinned (OpenSpec.ofChange flowKnownWrong)

/-- 'stockadelaw15.CertThins': WHATEVER THE INPUT: true; the input reads as it did. -/
def certThinsSpec : ChangeSpec := { name := "certThins", fn := fun _ => fun
  | [d] => { results := [.lit (.bool true)], args := [d] }
  | _ => none }
def certThinsRow : OpenClaim := { program := "ytipdeijgaabobaagreatdoor", sum := "cc95202337c591f51be2341e51d9a03e0e0784dcf5df0ad026d8781db4903774", func := "stockade/stockadelaw15.CertThins", spec := "certThins", inPlace := ["math/bits.Add64", "math/bits.Sub64"], unfollowed := true, recurses := true, named := ["stockade/insn.sizes"], apart := false, laid := [("stockade/insn.sizes", laid_stockade_insn_sizes)] }
def CertThinsSaid : Prop := certThinsRow.holds Tryz.pinned (OpenSpec.ofChange certThinsSpec)

/-- ITS FALSE NEIGHBOUR: 'it returns false'. Refute it at one input. -/
def certThinsWrong : ChangeSpec := { name := "certThins", fn := fun _ => fun
  | [d] => { results := [.lit (.bool false)], args := [d] }
  | _ => none }
def CertThinsWrongFalsely : Prop := certThinsRow.holds Tryz.pinned (OpenSpec.ofChange certThinsWrong)

/-- 'stockadelaw15.CertThin': WHATEVER THE INPUT: true; the input reads as it did. -/
def certThinSpec : ChangeSpec := { name := "certThin", fn := fun _ => fun
  | [d] => { results := [.lit (.bool true)], args := [d] }
  | _ => none }
def certThinRow : OpenClaim := { program := "ytipdeijgaabobaagreatdoor", sum := "cc95202337c591f51be2341e51d9a03e0e0784dcf5df0ad026d8781db4903774", func := "stockade/stockadelaw15.CertThin", spec := "certThin", inPlace := ["math/bits.Add64", "math/bits.Sub64"], unfollowed := true, recurses := true, named := ["stockade/insn.sizes"], apart := false, laid := [("stockade/insn.sizes", laid_stockade_insn_sizes)] }
def CertThinSaid : Prop := certThinRow.holds Tryz.pinned (OpenSpec.ofChange certThinSpec)

/-- ITS FALSE NEIGHBOUR: 'it returns false'. Refute it at one input. -/
def certThinWrong : ChangeSpec := { name := "certThin", fn := fun _ => fun
  | [d] => { results := [.lit (.bool false)], args := [d] }
  | _ => none }
def CertThinWrongFalsely : Prop := certThinRow.holds Tryz.pinned (OpenSpec.ofChange certThinWrong)

/-- 'stockadelaw15.CertPacks': WHATEVER THE INPUT: true; the input reads as it did. -/
def certPacksSpec : ChangeSpec := { name := "certPacks", fn := fun _ => fun
  | [d1, d2] => { results := [.lit (.bool true)], args := [d1, d2] }
  | _ => none }
def certPacksRow : OpenClaim := { program := "ytipdeijgaabobaagreatdoor", sum := "cc95202337c591f51be2341e51d9a03e0e0784dcf5df0ad026d8781db4903774", func := "stockade/stockadelaw15.CertPacks", spec := "certPacks", inPlace := ["math/bits.Add64", "math/bits.Sub64"], unfollowed := true, recurses := true, named := ["stockade/insn.sizes"], apart := false, laid := [("stockade/insn.sizes", laid_stockade_insn_sizes)] }
def CertPacksSaid : Prop := certPacksRow.holds Tryz.pinned (OpenSpec.ofChange certPacksSpec)

/-- ITS FALSE NEIGHBOUR: 'it returns false'. Refute it at one input. -/
def certPacksWrong : ChangeSpec := { name := "certPacks", fn := fun _ => fun
  | [d1, d2] => { results := [.lit (.bool false)], args := [d1, d2] }
  | _ => none }
def CertPacksWrongFalsely : Prop := certPacksRow.holds Tryz.pinned (OpenSpec.ofChange certPacksWrong)

/-- 'stockadelaw15.CertBack': WHATEVER THE INPUT: true; the input reads as it did. -/
def certBackSpec : ChangeSpec := { name := "certBack", fn := fun _ => fun
  | [d1, d2, d3] => { results := [.lit (.bool true)], args := [d1, d2, d3] }
  | _ => none }
def certBackRow : OpenClaim := { program := "ytipdeijgaabobaagreatdoor", sum := "cc95202337c591f51be2341e51d9a03e0e0784dcf5df0ad026d8781db4903774", func := "stockade/stockadelaw15.CertBack", spec := "certBack", inPlace := ["math/bits.Add64", "math/bits.Sub64"], unfollowed := true, recurses := true, named := ["stockade/insn.sizes"], apart := false, laid := [("stockade/insn.sizes", laid_stockade_insn_sizes)] }
def CertBackSaid : Prop := certBackRow.holds Tryz.pinned (OpenSpec.ofChange certBackSpec)

/-- ITS FALSE NEIGHBOUR: 'it returns false'. Refute it at one input. -/
def certBackWrong : ChangeSpec := { name := "certBack", fn := fun _ => fun
  | [d1, d2, d3] => { results := [.lit (.bool false)], args := [d1, d2, d3] }
  | _ => none }
def CertBackWrongFalsely : Prop := certBackRow.holds Tryz.pinned (OpenSpec.ofChange certBackWrong)

/-- 'stockadelaw15.CertKnown': WHATEVER THE INPUT: true; the input reads as it did. -/
def certKnownSpec : ChangeSpec := { name := "certKnown", fn := fun _ => fun
  | [] => { results := [.lit (.bool true)], args := [] }
  | _ => none }
def certKnownRow : OpenClaim := { program := "ytipdeijgaabobaagreatdoor", sum := "cc95202337c591f51be2341e51d9a03e0e0784dcf5df0ad026d8781db4903774", func := "stockade/stockadelaw15.CertKnown", spec := "certKnown", inPlace := ["math/bits.Add64", "math/bits.Sub64"], unfollowed := true, recurses := true, named := ["stockade/insn.sizes"], apart := false, laid := [("stockade/insn.sizes", laid_stockade_insn_sizes)] }
def CertKnownSaid : Prop := certKnownRow.holds Tryz.pinned (OpenSpec.ofChange certKnownSpec)

/-- ITS FALSE NEIGHBOUR: 'it returns false'. Refute it at one input. -/
def certKnownWrong : ChangeSpec := { name := "certKnown", fn := fun _ => fun
  | [] => { results := [.lit (.bool false)], args := [] }
  | _ => none }
def CertKnownWrongFalsely : Prop := certKnownRow.holds Tryz.pinned (OpenSpec.ofChange certKnownWrong)

/- THE SECOND FORM. 'bulk': how many values and letters a reading holds, each counted each time it is reached (what is shared counts as often as it is met; a slice's spare places count too). A statement '..UptoSaid' is the law's where the arguments, and the package variables that the reading takes, are together of bulk at most 1048576: NARROWER than '..Said'. Prove '..Said' where nothing that the law and all that it calls make is longer than what came in: it says more and counts as full. Else prove '..UptoSaid'. A law counts once. -/
mutual
def uptoBulk {H : Type} : DataW H → Nat
  | .lit (.string bytes) => bytes.length + 1
  | .lit _ => 1
  | .nil => 1
  | .ptr d => uptoBulk d + 1
  | .slice elems spare => uptoBulkAll elems + uptoBulkAll spare + 1
  | .agg parts => uptoBulkAll parts + 1
  | .iface _ d => uptoBulk d + 1
  | .map entries => uptoBulkEntries entries + 1
  | .held _ => 1
def uptoBulkAll {H : Type} : List (DataW H) → Nat
  | [] => 0
  | d :: r => uptoBulk d + uptoBulkAll r
def uptoBulkEntries {H : Type} : List (Lit × DataW H) → Nat
  | [] => 0
  | x :: r => uptoBulkEntry x + uptoBulkEntries r
def uptoBulkEntry {H : Type} : Lit × DataW H → Nat
  | (.string bytes, d) => bytes.length + uptoBulk d + 1
  | (_, d) => uptoBulk d + 1
 end
def uptoSmall : (H : Type) → List (DataW H) → Bool := fun _ ds => decide (uptoBulkAll ds ≤ 1048576)
def OpenSpec.upto (s : _root_.Go.ChangeSpec) : _root_.Go.OpenSpec := { _root_.Go.OpenSpec.ofChange s with cond := some uptoSmall }

/-- 'stockadelaw13.FlowKnown', WHERE WHAT IT READS IS OF BULK AT MOST 1048576: true; the input reads as it did. -/
def flowKnownUptoRow : OpenClaim := { program := "ytipdeijgaabobaagreatdoor", sum := "cc95202337c591f51be2341e51d9a03e0e0784dcf5df0ad026d8781db4903774", func := "stockade/stockadelaw13.FlowKnown", spec := "flowKnown", inPlace := ["math/bits.Add64", "math/bits.Sub64"], unfollowed := true, recurses := true, named := ["stockade/insn.sizes"], apart := false, laid := [("stockade/insn.sizes", laid_stockade_insn_sizes)], narrowed := true }
def FlowKnownUptoSaid : Prop := flowKnownUptoRow.holds Tryz.pinned (OpenSpec.upto flowKnownSpec)

/-- 'stockadelaw15.CertThins', WHERE WHAT IT READS IS OF BULK AT MOST 1048576: true; the input reads as it did. -/
def certThinsUptoRow : OpenClaim := { program := "ytipdeijgaabobaagreatdoor", sum := "cc95202337c591f51be2341e51d9a03e0e0784dcf5df0ad026d8781db4903774", func := "stockade/stockadelaw15.CertThins", spec := "certThins", inPlace := ["math/bits.Add64", "math/bits.Sub64"], unfollowed := true, recurses := true, named := ["stockade/insn.sizes"], apart := false, laid := [("stockade/insn.sizes", laid_stockade_insn_sizes)], narrowed := true }
def CertThinsUptoSaid : Prop := certThinsUptoRow.holds Tryz.pinned (OpenSpec.upto certThinsSpec)

/-- 'stockadelaw15.CertThin', WHERE WHAT IT READS IS OF BULK AT MOST 1048576: true; the input reads as it did. -/
def certThinUptoRow : OpenClaim := { program := "ytipdeijgaabobaagreatdoor", sum := "cc95202337c591f51be2341e51d9a03e0e0784dcf5df0ad026d8781db4903774", func := "stockade/stockadelaw15.CertThin", spec := "certThin", inPlace := ["math/bits.Add64", "math/bits.Sub64"], unfollowed := true, recurses := true, named := ["stockade/insn.sizes"], apart := false, laid := [("stockade/insn.sizes", laid_stockade_insn_sizes)], narrowed := true }
def CertThinUptoSaid : Prop := certThinUptoRow.holds Tryz.pinned (OpenSpec.upto certThinSpec)

/-- 'stockadelaw15.CertPacks', WHERE WHAT IT READS IS OF BULK AT MOST 1048576: true; the input reads as it did. -/
def certPacksUptoRow : OpenClaim := { program := "ytipdeijgaabobaagreatdoor", sum := "cc95202337c591f51be2341e51d9a03e0e0784dcf5df0ad026d8781db4903774", func := "stockade/stockadelaw15.CertPacks", spec := "certPacks", inPlace := ["math/bits.Add64", "math/bits.Sub64"], unfollowed := true, recurses := true, named := ["stockade/insn.sizes"], apart := false, laid := [("stockade/insn.sizes", laid_stockade_insn_sizes)], narrowed := true }
def CertPacksUptoSaid : Prop := certPacksUptoRow.holds Tryz.pinned (OpenSpec.upto certPacksSpec)

/-- 'stockadelaw15.CertBack', WHERE WHAT IT READS IS OF BULK AT MOST 1048576: true; the input reads as it did. -/
def certBackUptoRow : OpenClaim := { program := "ytipdeijgaabobaagreatdoor", sum := "cc95202337c591f51be2341e51d9a03e0e0784dcf5df0ad026d8781db4903774", func := "stockade/stockadelaw15.CertBack", spec := "certBack", inPlace := ["math/bits.Add64", "math/bits.Sub64"], unfollowed := true, recurses := true, named := ["stockade/insn.sizes"], apart := false, laid := [("stockade/insn.sizes", laid_stockade_insn_sizes)], narrowed := true }
def CertBackUptoSaid : Prop := certBackUptoRow.holds Tryz.pinned (OpenSpec.upto certBackSpec)

/-- 'stockadelaw15.CertKnown', WHERE WHAT IT READS IS OF BULK AT MOST 1048576: true; the input reads as it did. -/
def certKnownUptoRow : OpenClaim := { program := "ytipdeijgaabobaagreatdoor", sum := "cc95202337c591f51be2341e51d9a03e0e0784dcf5df0ad026d8781db4903774", func := "stockade/stockadelaw15.CertKnown", spec := "certKnown", inPlace := ["math/bits.Add64", "math/bits.Sub64"], unfollowed := true, recurses := true, named := ["stockade/insn.sizes"], apart := false, laid := [("stockade/insn.sizes", laid_stockade_insn_sizes)], narrowed := true }
def CertKnownUptoSaid : Prop := certKnownUptoRow.holds Tryz.pinned (OpenSpec.upto certKnownSpec)

end Rows
end Go.Proofs.YtipdeijgaabobaaGreatDoor
