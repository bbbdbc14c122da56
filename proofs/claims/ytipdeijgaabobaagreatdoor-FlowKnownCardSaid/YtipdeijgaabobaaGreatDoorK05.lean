/- The law FlowKnown, a closed one: the interpreter, shape.Check's contracts, the run. -/
import Derived.Test.YtipdeijgaabobaaGreatDoorK04
import Derived.Test.YtipdeijgaabobaaGreatDoorK03
import Derived.Shelf.Abstract
import Derived.Carry
import Derived.ChangeArms
import Derived.OpenShut
import Derived.ChangeShapes
set_option linter.all false
set_option linter.unusedVariables false
set_option linter.unusedSimpArgs false
/-
  VShape2: what Of, Places and alone answer on every form (printed by mkcheck.py).
-/
namespace Go.Proofs.YtipdeijgaabobaaGreatDoor
open Go Go.DI Go.DI.Kit Go.Proofs Go.Cmp
noncomputable section
noncomputable abbrev cf0 : DFun := callO Tryz.prog kp 1 noOrc 20
theorem hO_on {x y : List Value} (f : FuncId) (v : Value) (args : List Value) (m : Mem) (hc : (hO x y).call f = some v) (hs : (hO x y).says f args m v) : noOrc f args m = some (v, (hO x y).eff f m) := by cases hc
theorem hO_off {x y : List Value} (f : FuncId) (hc : (hO x y).call f = none) (a : List Value) (m : Mem) : noOrc f a m = none := rfl
theorem of_run {f : FuncId} {x : List Value} {v : Value} {qs : List Prop} (h : ansX (ofR f x) = some ((v, .cells false gl), qs) ∧ evenX (ofR f x)) (hq : ∀ q ∈ qs, q) : ∃ m, cf0 f [.agg ⟨x⟩] (mS gl []) = some (v, m) ∧ m.get 0 = .cells false gl := by
  obtain ⟨v', m, a1, a2⟩ := H.callO_H (H := hO [] []) (o := noOrc) (P := Tryz.prog) (K := kp) (G := 1) (k := 20) (f := f) (args := [.agg ⟨x⟩]) (m := mS gl []) (g := fun v m => (v, m.get 0)) hO_on hO_off h.1 h.2 hq
  have e1 : v' = v := congrArg (fun x => x.1) a2
  have e2 : m.get 0 = .cells false gl := congrArg (fun x => x.2) a2
  exact ⟨m, by rw [← e1]; exact a1, e2⟩
def AlRun (own : Bool) (L : List Value) (k : Nat) (p : Int) (w : List Value) : Prop := ∃ m, cf0 67 [imgV (sliceN 1 k), .int .i64 p] (mS gl [.cells own L]) = some (.tuple ⟨[.agg ⟨w⟩, .int .i64 0]⟩, m) ∧ m.get 0 = .cells false gl ∧ m.get 1 = .cells own L
theorem al_run {own : Bool} {L x y w : List Value} {k : Nat} {p : Int} {qs : List Prop} (h : ansX (alR own L x y k p) = some ((.tuple ⟨[.agg ⟨w⟩, .int .i64 0]⟩, .cells false gl, .cells own L), qs) ∧ evenX (alR own L x y k p)) (hq : ∀ q ∈ qs, q) : AlRun own L k p w := by
  obtain ⟨v', m, a1, a2⟩ := H.callO_H (H := hO x y) (o := noOrc) (P := Tryz.prog) (K := kp) (G := 1) (k := 20) (f := 67) (args := [imgV (sliceN 1 k), .int .i64 p]) (m := mS gl [.cells own L]) (g := fun v m => (v, m.get 0, m.get 1)) hO_on hO_off h.1 h.2 hq
  have e1 : v' = _ := congrArg (fun x => x.1) a2
  have e2 : m.get 0 = _ := congrArg (fun x => x.2.1) a2
  have e3 : m.get 1 = _ := congrArg (fun x => x.2.2) a2
  exact ⟨m, a1.trans (by rw [e1]), e2, e3⟩
def OfRun (x : Ins) (w : List Value) : Prop := ∃ m, cf0 31 [.agg ⟨insC x⟩] (mS gl []) = some (.tuple ⟨[.agg ⟨w⟩, .int .i64 0]⟩, m) ∧ m.get 0 = .cells false gl
def PlRun (x : Ins) (n : Int) : Prop := ∃ m, cf0 32 [.agg ⟨insC x⟩] (mS gl []) = some (.int .i64 n, m) ∧ m.get 0 = .cells false gl
structure Form (x : Ins) (w : List Value) : Prop where
  of : ∃ m, cf0 31 [.agg ⟨insC x⟩] (mS gl []) = some (.tuple ⟨[.agg ⟨w⟩, .int .i64 0]⟩, m) ∧ m.get 0 = .cells false gl
  pl : ∃ m, cf0 32 [.agg ⟨insC x⟩] (mS gl []) = some (.int .i64 1, m) ∧ m.get 0 = .cells false gl
  al : ∀ (own : Bool) (l : List Ins) (p : Nat), l[p]? = some x → AlRun own (codeC l) l.length (p : Int) w
theorem cons_p {p : Prop} {l : List Prop} (h : p) (hl : ∀ q ∈ l, q) : ∀ q ∈ p :: l, q := fun q hq => by
  rcases List.mem_cons.1 hq with rfl | hq
  · exact h
  · exact hl q hq
theorem nil_p : ∀ q ∈ ([] : List Prop), q := fun q hq => by cases hq
theorem rg10 {d : Int} (h : 0 ≤ d) (h' : d ≤ 9) : reg10 d := ⟨h, h'⟩
theorem gtr5_of {d : Int} (h : reg10 d) : gtr5 d := by
  have := h.2
  unfold gtr5
  simp [binD, binInt, shiftB]; omega
theorem eql5_of {d : Int} (h : reg10 d) : eql5 d := by
  have := h.2
  unfold eql5
  simp [binD, binInt, shiftB]; omega
theorem ixP_of {l : List Ins} {p : Nat} {x : Ins} (h : l[p]? = some x) : ixP (p : Int) l.length := by
  have := (List.getElem?_eq_some_iff.1 h).1
  exact ⟨by omega, by omega⟩
theorem ldP_of {l : List Ins} {p : Nat} {x : Ins} (h : l[p]? = some x) : ldP (codeC l) (p : Int) (insC x) := (props2 h).2
theorem up_nat {p : Nat} (h : p ≤ 1000000) : IntKind.wrap .i64 (Int.add (p : Int) 1) = ((p + 1 : Nat) : Int) := wrap_succ (by omega)
theorem fm_movI {d n : Int} (hd : reg10 d) : Form (iNum 11 d n) [.int .i64 1, .int .i64 11, .int .i64 0, .bool true, .bool false] := by
  have e : insC (iNum 11 d n) = [.int .u8 183, .int .u8 d, .int .u8 0, .int .i16 0, .int .i32 n] := by kernel_rfl
  exact ⟨by rw [e]; exact of_run (of_movI d n) (cons_p (gtr5_of hd) (cons_p (eql5_of hd) nil_p)), by rw [e]; exact of_run (pl_movI d n) (cons_p (gtr5_of hd) (cons_p (eql5_of hd) nil_p)), fun own l p h => al_run (al_movI d n own (codeC l) l.length (p : Int)) (cons_p (ixP_of h) (cons_p (by rw [← e]; exact ldP_of h) (cons_p (gtr5_of hd) (cons_p (eql5_of hd) nil_p))))⟩
theorem fm_andI {d n : Int} (hd : reg10 d) : Form (iNum 5 d n) [.int .i64 1, .int .i64 5, .int .i64 0, .bool true, .bool false] := by
  have e : insC (iNum 5 d n) = [.int .u8 87, .int .u8 d, .int .u8 0, .int .i16 0, .int .i32 n] := by kernel_rfl
  exact ⟨by rw [e]; exact of_run (of_andI d n) (cons_p (gtr5_of hd) (cons_p (eql5_of hd) nil_p)), by rw [e]; exact of_run (pl_andI d n) (cons_p (gtr5_of hd) (cons_p (eql5_of hd) nil_p)), fun own l p h => al_run (al_andI d n own (codeC l) l.length (p : Int)) (cons_p (ixP_of h) (cons_p (by rw [← e]; exact ldP_of h) (cons_p (gtr5_of hd) (cons_p (eql5_of hd) nil_p))))⟩
theorem fm_movR {d s : Int} (hd : reg10 d) (hs : reg10 s) : Form (iRegs 11 d s) [.int .i64 1, .int .i64 11, .int .i64 0, .bool true, .bool true] := by
  have e : insC (iRegs 11 d s) = [.int .u8 191, .int .u8 d, .int .u8 s, .int .i16 0, .int .i32 0] := by kernel_rfl
  exact ⟨by rw [e]; exact of_run (of_movR d s) (cons_p (gtr5_of hd) (cons_p (eql5_of hd) (cons_p (gtr5_of hs) nil_p))), by rw [e]; exact of_run (pl_movR d s) (cons_p (gtr5_of hd) (cons_p (eql5_of hd) (cons_p (gtr5_of hs) nil_p))), fun own l p h => al_run (al_movR d s own (codeC l) l.length (p : Int)) (cons_p (ixP_of h) (cons_p (by rw [← e]; exact ldP_of h) (cons_p (gtr5_of hd) (cons_p (eql5_of hd) (cons_p (gtr5_of hs) nil_p)))))⟩
theorem fm_andR {d s : Int} (hd : reg10 d) (hs : reg10 s) : Form (iRegs 5 d s) [.int .i64 1, .int .i64 5, .int .i64 0, .bool true, .bool true] := by
  have e : insC (iRegs 5 d s) = [.int .u8 95, .int .u8 d, .int .u8 s, .int .i16 0, .int .i32 0] := by kernel_rfl
  exact ⟨by rw [e]; exact of_run (of_andR d s) (cons_p (gtr5_of hd) (cons_p (eql5_of hd) (cons_p (gtr5_of hs) nil_p))), by rw [e]; exact of_run (pl_andR d s) (cons_p (gtr5_of hd) (cons_p (eql5_of hd) (cons_p (gtr5_of hs) nil_p))), fun own l p h => al_run (al_andR d s own (codeC l) l.length (p : Int)) (cons_p (ixP_of h) (cons_p (by rw [← e]; exact ldP_of h) (cons_p (gtr5_of hd) (cons_p (eql5_of hd) (cons_p (gtr5_of hs) nil_p)))))⟩
theorem fm_low {n : Int} : Form (iLow n) [.int .i64 1, .int .i64 11, .int .i64 0, .bool false, .bool false] := by
  have e : insC (iLow n) = [.int .u8 180, .int .u8 0, .int .u8 0, .int .i16 0, .int .i32 n] := by kernel_rfl
  exact ⟨by rw [e]; exact of_run (of_low n) (cons_p (gtr5_of (rg10 (by decide) (by decide))) (cons_p (eql5_of (rg10 (by decide) (by decide))) nil_p)), by rw [e]; exact of_run (pl_low n) (cons_p (gtr5_of (rg10 (by decide) (by decide))) (cons_p (eql5_of (rg10 (by decide) (by decide))) nil_p)), fun own l p h => al_run (al_low n own (codeC l) l.length (p : Int)) (cons_p (ixP_of h) (cons_p (by rw [← e]; exact ldP_of h) (cons_p (gtr5_of (rg10 (by decide) (by decide))) (cons_p (eql5_of (rg10 (by decide) (by decide))) nil_p))))⟩
theorem fm_exit  : Form (iExit) [.int .i64 9, .int .i64 0, .int .i64 0, .bool false, .bool false] := by
  have e : insC (iExit) = [.int .u8 149, .int .u8 0, .int .u8 0, .int .i16 0, .int .i32 0] := by kernel_rfl
  exact ⟨by rw [e]; exact of_run (of_exit ) nil_p, by rw [e]; exact of_run (pl_exit ) nil_p, fun own l p h => al_run (al_exit  own (codeC l) l.length (p : Int)) (cons_p (ixP_of h) (cons_p (by rw [← e]; exact ldP_of h) nil_p))⟩
theorem fm_load1 {d s o : Int} (hd : reg10 d) (hs : reg10 s) : Form (iLoad 1 d s o) [.int .i64 3, .int .i64 0, .int .i64 1, .bool false, .bool false] := by
  have e : insC (iLoad 1 d s o) = [.int .u8 113, .int .u8 d, .int .u8 s, .int .i16 (w16 o), .int .i32 0] := by kernel_rfl
  exact ⟨by rw [e]; exact of_run (of_load1 d s (w16 o)) (cons_p (gtr5_of hd) (cons_p (eql5_of hd) (cons_p (gtr5_of hs) nil_p))), by rw [e]; exact of_run (pl_load1 d s (w16 o)) (cons_p (gtr5_of hd) (cons_p (eql5_of hd) (cons_p (gtr5_of hs) nil_p))), fun own l p h => al_run (al_load1 d s (w16 o) own (codeC l) l.length (p : Int)) (cons_p (ixP_of h) (cons_p (by rw [← e]; exact ldP_of h) (cons_p (gtr5_of hd) (cons_p (eql5_of hd) (cons_p (gtr5_of hs) nil_p)))))⟩
theorem fm_load2 {d s o : Int} (hd : reg10 d) (hs : reg10 s) : Form (iLoad 2 d s o) [.int .i64 3, .int .i64 0, .int .i64 2, .bool false, .bool false] := by
  have e : insC (iLoad 2 d s o) = [.int .u8 105, .int .u8 d, .int .u8 s, .int .i16 (w16 o), .int .i32 0] := by kernel_rfl
  exact ⟨by rw [e]; exact of_run (of_load2 d s (w16 o)) (cons_p (gtr5_of hd) (cons_p (eql5_of hd) (cons_p (gtr5_of hs) nil_p))), by rw [e]; exact of_run (pl_load2 d s (w16 o)) (cons_p (gtr5_of hd) (cons_p (eql5_of hd) (cons_p (gtr5_of hs) nil_p))), fun own l p h => al_run (al_load2 d s (w16 o) own (codeC l) l.length (p : Int)) (cons_p (ixP_of h) (cons_p (by rw [← e]; exact ldP_of h) (cons_p (gtr5_of hd) (cons_p (eql5_of hd) (cons_p (gtr5_of hs) nil_p)))))⟩
theorem fm_load4 {d s o : Int} (hd : reg10 d) (hs : reg10 s) : Form (iLoad 4 d s o) [.int .i64 3, .int .i64 0, .int .i64 4, .bool false, .bool false] := by
  have e : insC (iLoad 4 d s o) = [.int .u8 97, .int .u8 d, .int .u8 s, .int .i16 (w16 o), .int .i32 0] := by kernel_rfl
  exact ⟨by rw [e]; exact of_run (of_load4 d s (w16 o)) (cons_p (gtr5_of hd) (cons_p (eql5_of hd) (cons_p (gtr5_of hs) nil_p))), by rw [e]; exact of_run (pl_load4 d s (w16 o)) (cons_p (gtr5_of hd) (cons_p (eql5_of hd) (cons_p (gtr5_of hs) nil_p))), fun own l p h => al_run (al_load4 d s (w16 o) own (codeC l) l.length (p : Int)) (cons_p (ixP_of h) (cons_p (by rw [← e]; exact ldP_of h) (cons_p (gtr5_of hd) (cons_p (eql5_of hd) (cons_p (gtr5_of hs) nil_p)))))⟩
theorem fm_load8 {d s o : Int} (hd : reg10 d) (hs : reg10 s) : Form (iLoad 8 d s o) [.int .i64 3, .int .i64 0, .int .i64 8, .bool false, .bool false] := by
  have e : insC (iLoad 8 d s o) = [.int .u8 121, .int .u8 d, .int .u8 s, .int .i16 (w16 o), .int .i32 0] := by kernel_rfl
  exact ⟨by rw [e]; exact of_run (of_load8 d s (w16 o)) (cons_p (gtr5_of hd) (cons_p (eql5_of hd) (cons_p (gtr5_of hs) nil_p))), by rw [e]; exact of_run (pl_load8 d s (w16 o)) (cons_p (gtr5_of hd) (cons_p (eql5_of hd) (cons_p (gtr5_of hs) nil_p))), fun own l p h => al_run (al_load8 d s (w16 o) own (codeC l) l.length (p : Int)) (cons_p (ixP_of h) (cons_p (by rw [← e]; exact ldP_of h) (cons_p (gtr5_of hd) (cons_p (eql5_of hd) (cons_p (gtr5_of hs) nil_p)))))⟩
theorem fm_swap2  : Form (iSwap 2) [.int .i64 2, .int .i64 0, .int .i64 2, .bool false, .bool false] := by
  have e : insC (iSwap 2) = [.int .u8 215, .int .u8 2, .int .u8 0, .int .i16 0, .int .i32 16] := by kernel_rfl
  exact ⟨by rw [e]; exact of_run (of_swap2 ) (cons_p (gtr5_of (rg10 (by decide) (by decide))) (cons_p (eql5_of (rg10 (by decide) (by decide))) nil_p)), by rw [e]; exact of_run (pl_swap2 ) (cons_p (gtr5_of (rg10 (by decide) (by decide))) (cons_p (eql5_of (rg10 (by decide) (by decide))) nil_p)), fun own l p h => al_run (al_swap2  own (codeC l) l.length (p : Int)) (cons_p (ixP_of h) (cons_p (by rw [← e]; exact ldP_of h) (cons_p (gtr5_of (rg10 (by decide) (by decide))) (cons_p (eql5_of (rg10 (by decide) (by decide))) nil_p))))⟩
theorem fm_swap4  : Form (iSwap 4) [.int .i64 2, .int .i64 0, .int .i64 4, .bool false, .bool false] := by
  have e : insC (iSwap 4) = [.int .u8 215, .int .u8 2, .int .u8 0, .int .i16 0, .int .i32 32] := by kernel_rfl
  exact ⟨by rw [e]; exact of_run (of_swap4 ) (cons_p (gtr5_of (rg10 (by decide) (by decide))) (cons_p (eql5_of (rg10 (by decide) (by decide))) nil_p)), by rw [e]; exact of_run (pl_swap4 ) (cons_p (gtr5_of (rg10 (by decide) (by decide))) (cons_p (eql5_of (rg10 (by decide) (by decide))) nil_p)), fun own l p h => al_run (al_swap4  own (codeC l) l.length (p : Int)) (cons_p (ixP_of h) (cons_p (by rw [← e]; exact ldP_of h) (cons_p (gtr5_of (rg10 (by decide) (by decide))) (cons_p (eql5_of (rg10 (by decide) (by decide))) nil_p))))⟩
theorem fm_swap8  : Form (iSwap 8) [.int .i64 2, .int .i64 0, .int .i64 8, .bool false, .bool false] := by
  have e : insC (iSwap 8) = [.int .u8 215, .int .u8 2, .int .u8 0, .int .i16 0, .int .i32 64] := by kernel_rfl
  exact ⟨by rw [e]; exact of_run (of_swap8 ) (cons_p (gtr5_of (rg10 (by decide) (by decide))) (cons_p (eql5_of (rg10 (by decide) (by decide))) nil_p)), by rw [e]; exact of_run (pl_swap8 ) (cons_p (gtr5_of (rg10 (by decide) (by decide))) (cons_p (eql5_of (rg10 (by decide) (by decide))) nil_p)), fun own l p h => al_run (al_swap8  own (codeC l) l.length (p : Int)) (cons_p (ixP_of h) (cons_p (by rw [← e]; exact ldP_of h) (cons_p (gtr5_of (rg10 (by decide) (by decide))) (cons_p (eql5_of (rg10 (by decide) (by decide))) nil_p))))⟩
theorem fm_jif3 {d o n : Int} (hd : reg10 d) : Form (offS (iIf 3 d n) o) [.int .i64 6, .int .i64 3, .int .i64 0, .bool true, .bool false] := by
  have e : insC (offS (iIf 3 d n) o) = [.int .u8 53, .int .u8 d, .int .u8 0, .int .i16 o, .int .i32 n] := by kernel_rfl
  exact ⟨by rw [e]; exact of_run (of_jif3 d o n) (cons_p (gtr5_of hd) nil_p), by rw [e]; exact of_run (pl_jif3 d o n) (cons_p (gtr5_of hd) nil_p), fun own l p h => al_run (al_jif3 d o n own (codeC l) l.length (p : Int)) (cons_p (ixP_of h) (cons_p (by rw [← e]; exact ldP_of h) (cons_p (gtr5_of hd) nil_p)))⟩
theorem fm_jif5 {d o n : Int} (hd : reg10 d) : Form (offS (iIf 5 d n) o) [.int .i64 6, .int .i64 5, .int .i64 0, .bool true, .bool false] := by
  have e : insC (offS (iIf 5 d n) o) = [.int .u8 85, .int .u8 d, .int .u8 0, .int .i16 o, .int .i32 n] := by kernel_rfl
  exact ⟨by rw [e]; exact of_run (of_jif5 d o n) (cons_p (gtr5_of hd) nil_p), by rw [e]; exact of_run (pl_jif5 d o n) (cons_p (gtr5_of hd) nil_p), fun own l p h => al_run (al_jif5 d o n own (codeC l) l.length (p : Int)) (cons_p (ixP_of h) (cons_p (by rw [← e]; exact ldP_of h) (cons_p (gtr5_of hd) nil_p)))⟩
theorem fm_jif10 {d o n : Int} (hd : reg10 d) : Form (offS (iIf 10 d n) o) [.int .i64 6, .int .i64 10, .int .i64 0, .bool true, .bool false] := by
  have e : insC (offS (iIf 10 d n) o) = [.int .u8 165, .int .u8 d, .int .u8 0, .int .i16 o, .int .i32 n] := by kernel_rfl
  exact ⟨by rw [e]; exact of_run (of_jif10 d o n) (cons_p (gtr5_of hd) nil_p), by rw [e]; exact of_run (pl_jif10 d o n) (cons_p (gtr5_of hd) nil_p), fun own l p h => al_run (al_jif10 d o n own (codeC l) l.length (p : Int)) (cons_p (ixP_of h) (cons_p (by rw [← e]; exact ldP_of h) (cons_p (gtr5_of hd) nil_p)))⟩
theorem fm_jif2 {d o n : Int} (hd : reg10 d) : Form (offS (iIf 2 d n) o) [.int .i64 6, .int .i64 2, .int .i64 0, .bool true, .bool false] := by
  have e : insC (offS (iIf 2 d n) o) = [.int .u8 37, .int .u8 d, .int .u8 0, .int .i16 o, .int .i32 n] := by kernel_rfl
  exact ⟨by rw [e]; exact of_run (of_jif2 d o n) (cons_p (gtr5_of hd) nil_p), by rw [e]; exact of_run (pl_jif2 d o n) (cons_p (gtr5_of hd) nil_p), fun own l p h => al_run (al_jif2 d o n own (codeC l) l.length (p : Int)) (cons_p (ixP_of h) (cons_p (by rw [← e]; exact ldP_of h) (cons_p (gtr5_of hd) nil_p)))⟩
theorem fm_jif1 {d o n : Int} (hd : reg10 d) : Form (offS (iIf 1 d n) o) [.int .i64 6, .int .i64 1, .int .i64 0, .bool true, .bool false] := by
  have e : insC (offS (iIf 1 d n) o) = [.int .u8 21, .int .u8 d, .int .u8 0, .int .i16 o, .int .i32 n] := by kernel_rfl
  exact ⟨by rw [e]; exact of_run (of_jif1 d o n) (cons_p (gtr5_of hd) nil_p), by rw [e]; exact of_run (pl_jif1 d o n) (cons_p (gtr5_of hd) nil_p), fun own l p h => al_run (al_jif1 d o n own (codeC l) l.length (p : Int)) (cons_p (ixP_of h) (cons_p (by rw [← e]; exact ldP_of h) (cons_p (gtr5_of hd) nil_p)))⟩
theorem fm_jifR10 {o : Int} : Form (offS (iIfR 10) o) [.int .i64 6, .int .i64 10, .int .i64 0, .bool true, .bool true] := by
  have e : insC (offS (iIfR 10) o) = [.int .u8 173, .int .u8 2, .int .u8 3, .int .i16 o, .int .i32 0] := by kernel_rfl
  exact ⟨by rw [e]; exact of_run (of_jifR10 o) (cons_p (gtr5_of (rg10 (by decide) (by decide))) (cons_p (gtr5_of (rg10 (by decide) (by decide))) nil_p)), by rw [e]; exact of_run (pl_jifR10 o) (cons_p (gtr5_of (rg10 (by decide) (by decide))) (cons_p (gtr5_of (rg10 (by decide) (by decide))) nil_p)), fun own l p h => al_run (al_jifR10 o own (codeC l) l.length (p : Int)) (cons_p (ixP_of h) (cons_p (by rw [← e]; exact ldP_of h) (cons_p (gtr5_of (rg10 (by decide) (by decide))) (cons_p (gtr5_of (rg10 (by decide) (by decide))) nil_p))))⟩
theorem fm_jifR2 {o : Int} : Form (offS (iIfR 2) o) [.int .i64 6, .int .i64 2, .int .i64 0, .bool true, .bool true] := by
  have e : insC (offS (iIfR 2) o) = [.int .u8 45, .int .u8 2, .int .u8 3, .int .i16 o, .int .i32 0] := by kernel_rfl
  exact ⟨by rw [e]; exact of_run (of_jifR2 o) (cons_p (gtr5_of (rg10 (by decide) (by decide))) (cons_p (gtr5_of (rg10 (by decide) (by decide))) nil_p)), by rw [e]; exact of_run (pl_jifR2 o) (cons_p (gtr5_of (rg10 (by decide) (by decide))) (cons_p (gtr5_of (rg10 (by decide) (by decide))) nil_p)), fun own l p h => al_run (al_jifR2 o own (codeC l) l.length (p : Int)) (cons_p (ixP_of h) (cons_p (by rw [← e]; exact ldP_of h) (cons_p (gtr5_of (rg10 (by decide) (by decide))) (cons_p (gtr5_of (rg10 (by decide) (by decide))) nil_p))))⟩
theorem fm_goto {o : Int} : Form (offS iGoto o) [.int .i64 7, .int .i64 0, .int .i64 0, .bool false, .bool false] := by
  have e : insC (offS iGoto o) = [.int .u8 5, .int .u8 0, .int .u8 0, .int .i16 o, .int .i32 0] := by kernel_rfl
  exact ⟨by rw [e]; exact of_run (of_goto o) nil_p, by rw [e]; exact of_run (pl_goto o) nil_p, fun own l p h => al_run (al_goto o own (codeC l) l.length (p : Int)) (cons_p (ixP_of h) (cons_p (by rw [← e]; exact ldP_of h) nil_p))⟩
theorem fm_const {n : Int} : OfRun (iConst n) [.int .i64 10, .int .i64 0, .int .i64 0, .bool false, .bool false] ∧ PlRun (iConst n) 2 ∧ ∀ (own : Bool) (l : List Ins) (p : Nat), l[p]? = some (iConst n) → l[p + 1]? = some (iHigh n) → p + 2 < l.length → l.length ≤ 1000000 → AlRun own (codeC l) l.length (p : Int) [.int .i64 10, .int .i64 0, .int .i64 0, .bool false, .bool false] := by
  have e : insC (iConst n) = [.int .u8 24, .int .u8 3, .int .u8 0, .int .i16 0, .int .i32 (w32 (n % 4294967296))] := by kernel_rfl
  have e' : insC (iHigh n) = [.int .u8 0, .int .u8 0, .int .u8 0, .int .i16 0, .int .i32 (w32 (n / 4294967296))] := by kernel_rfl
  refine ⟨by unfold OfRun; rw [e]; exact of_run (of_const (w32 (n % 4294967296))) (cons_p (gtr5_of (rg10 (by decide) (by decide))) (cons_p (eql5_of (rg10 (by decide) (by decide))) nil_p)), by unfold PlRun; rw [e]; exact of_run (pl_const (w32 (n % 4294967296))) (cons_p (gtr5_of (rg10 (by decide) (by decide))) (cons_p (eql5_of (rg10 (by decide) (by decide))) nil_p)), fun own l p h h' hp hl => ?_⟩
  have hw : IntKind.wrap .i64 (Int.add (p : Int) 1) = ((p + 1 : Nat) : Int) := up_nat (by omega)
  exact al_run (al_const (w32 (n % 4294967296)) (w32 (n / 4294967296)) own (codeC l) l.length (p : Int)) (cons_p (ixP_of h) (cons_p (by rw [← e]; exact ldP_of h) (cons_p (gtr5_of (rg10 (by decide) (by decide))) (cons_p (eql5_of (rg10 (by decide) (by decide))) (cons_p (by unfold eqNP; rw [hw]; simp [binD, binInt, shiftB]; omega) (cons_p (by rw [hw]; exact ixP_of h') (cons_p (by rw [hw, ← e']; exact ldP_of h') nil_p)))))))
end
end Go.Proofs.YtipdeijgaabobaaGreatDoor
/-
  VIter: the iterator over the places at which instructions begin.
-/
namespace Go.Proofs.YtipdeijgaabobaaGreatDoor
open Go Go.DI Go.DI.Kit Go.Proofs Go.Cmp Go.RowKit
noncomputable section
/-! ### what the checks call -/
def op47 : List Value → Option (List Value × List Nat) := fun a => match a with
  | [.agg x] => some ([.agg x], [])
  | _ => none
def op68 : List Value → Option (List Value × List Nat) := fun a => match a with
  | [.agg ⟨[.slice none 0 0, .slice (some ⟨c, 0, none⟩) n n']⟩, .int .i64 p] => some ([.agg ⟨[.slice none 0 0, .slice (some ⟨1, 0, none⟩) n n']⟩, .int .i64 p], [c])
  | _ => none
noncomputable def oSh : Orc := oAlt (oPure gl 31 cf0 op47) (oAlt (oPure gl 32 cf0 op47) (oPure gl 67 cf0 op68))
theorem cf0_ok (B0 : Nat) : CfOK Tryz.prog B0 1 cf0 := callO_ok hmix hK hng (noOrc_ok B0) noOrc_grw 20
theorem cf0_grw : CfGrw cf0 := callO_grw noOrc_grw 20
theorem oSh_grw : CfGrw oSh := oAlt_grw (oPure_grw free_gl cf0_ok cf0_grw) (oAlt_grw (oPure_grw free_gl cf0_ok cf0_grw) (oPure_grw free_gl cf0_ok cf0_grw))
theorem oSh_ok (B0 : Nat) : CfOK Tryz.prog B0 1 oSh := oAlt_ok (oPure_ok free_gl cf0_ok cf0_grw B0) (oAlt_ok (oPure_ok free_gl cf0_ok cf0_grw B0) (oPure_ok free_gl cf0_ok cf0_grw B0))
theorem oSh_off {f : FuncId} (h1 : f ≠ 31) (h2 : f ≠ 32) (h3 : f ≠ 67) (a : List Value) (M : Mem) : oSh f a M = none := by
  unfold oSh
  rw [oAlt_r (oPure_off h1 a M), oAlt_r (oPure_off h2 a M), oPure_off h3]
theorem fits0 {M : Mem} (ht : M.top) (h0 : M.get 0 = .cells false gl) (h1 : 1 ≤ M.size) : Fits gl [] (([] : List Nat).map M.get) M :=
  ⟨ht, h0, h1, rfl, fun b hb => by simp at hb, by simp, by simp, fun i b s hi => by simp at hi, fun s hs => by simp at hs⟩
theorem insC_plain (x : Ins) : (insC x).all plain0 = true := rfl
theorem oSh_of {M : Mem} {x : Ins} {w : List Value} (ht : M.top) (h0 : M.get 0 = .cells false gl) (h1 : 1 ≤ M.size) (h : OfRun x w) (hw : w.all plain0 = true) : oSh 31 [.agg ⟨insC x⟩] M = some (.tuple ⟨[.agg ⟨w⟩, .int .i64 0]⟩, M) := by
  obtain ⟨m, a1, a2⟩ := h
  refine oAlt_l (oPure_at (op := op47) rfl (fits0 ht h0 h1) (.cons ((free_agg0 (insC_plain x)).sim _ _) .nil) a1 ?_ a2 (fun i s hi => by simp at hi))
  simp [plain2, plain1, hw]
theorem oSh_pl {M : Mem} {x : Ins} {n : Int} (ht : M.top) (h0 : M.get 0 = .cells false gl) (h1 : 1 ≤ M.size) (h : PlRun x n) : oSh 32 [.agg ⟨insC x⟩] M = some (.int .i64 n, M) := by
  obtain ⟨m, a1, a2⟩ := h
  unfold oSh
  rw [oAlt_r (oPure_off (by decide) _ M)]
  exact oAlt_l (oPure_at (op := op47) rfl (fits0 ht h0 h1) (.cons ((free_agg0 (insC_plain x)).sim _ _) .nil) a1 rfl a2 (fun i s hi => by simp at hi))
theorem oSh_al {M : Mem} {c : Nat} {own : Bool} {l : List Ins} {p : Int} {w : List Value} (ht : M.top) (h0 : M.get 0 = .cells false gl) (h1 : 1 ≤ M.size) (hc : c < M.size) (hc0 : c ≠ 0) (gc : M.get c = .cells own (codeC l)) (h : AlRun own (codeC l) l.length p w) (hw : w.all plain0 = true) :
    oSh 67 [imgV (sliceN c l.length), .int .i64 p] M = some (.tuple ⟨[.agg ⟨w⟩, .int .i64 0]⟩, M) := by
  obtain ⟨m, a1, a2, a3⟩ := h
  unfold oSh
  rw [oAlt_r (oPure_off (by decide) _ M), oAlt_r (oPure_off (by decide) _ M)]
  have hF := fits1 (o1 := own) ht h0 h1 hc hc0 gc
  refine oPure_at (op := op68) (sa := [imgV (sliceN 1 l.length), .int .i64 p]) (bs := [c]) rfl hF ?_ (m := m) (by
    show cf0 67 _ (mS gl [M.get c]) = _
    rw [gc]; exact a1) (by simp [plain2, plain1, hw]) a2 (fun i s hi => ?_)
  · have hb : (fun i => Nat.blt i (1 + [c].length)) 1 = true := rfl
    exact .cons (sim_agg (.cons ((free_slc0 _ _).sim _ _) (.cons (sim_slc (ρ := rhoE [c] M) hb) .nil))) (.cons ((free_int _ _).sim _ _) .nil)
  · rcases i with _ | i
    · have hi : some (M.get c) = some s := hi
      cases hi
      rw [gc]; exact a3
    · cases hi
/-! ### the iterator -/
noncomputable abbrev cfS : DFun := callO Tryz.prog kp 1 oSh 20
theorem cfS_ok (B0 : Nat) : CfOK Tryz.prog B0 1 cfS := callO_ok hmix hK hng (oSh_ok B0) oSh_grw 20
theorem cfS_grw : CfGrw cfS := callO_grw oSh_grw 20
noncomputable def c93 : Code := bodyOf Tryz.f102
theorem at93 : Tryz.prog.funcs[102]? = some Tryz.f102 := by kernel_rfl
theorem bd93 : Tryz.f102.body = some c93 := by kernel_rfl
noncomputable def q93 (i : Nat) : Array Oper := regA c93 i
noncomputable def t93 : Code := .seq (.seq (.region 1 (q93 1) false) (.cond (.tmp 7) .skip (.exit 0))) (.block 1 (.seq (.seq (.region 2 (q93 2) false) (.cond (.tmp 11) .ret .skip)) (.region 3 (q93 3) false)))
theorem c93_eq : c93 = .seq (.region 0 (q93 0) false) (.block 0 (.loop t93)) := by kernel_rfl
noncomputable def m93 (L : List Value) (n : Nat) : Mem := mS gl [.cells false L, .cells false [sliceN 1 n]]
noncomputable def hI (x : List Value) (lt : Bool) (pl : Int) : H.Hint where
  ix t := Nat.beq t 25
  ld _ t _ := cond (Nat.beq t 24) (some (.agg ⟨x⟩)) none
  cmp op t := cond (Nat.beq t 3) (BinOp.rec (motive := fun _ => Option Bool) none none none none none none none none none none none none none (some lt) none none none op) none
  ap _ := none
  call f := cond (Nat.beq f 32) (some (.int .i64 pl)) (cond (Nat.beq f 31) (some undef) (cond (Nat.beq f 67) (some undef) none))
  spec _ _ _ _ := False
  blk := 0
  specM f := cond (Nat.beq f 32) (some fun args m v => oSh 32 args m = some (v, m)) (some never)
theorem hI_on {x : List Value} {lt : Bool} {pl : Int} (f : FuncId) (v : Value) (args : List Value) (m : Mem) (hc : (hI x lt pl).call f = some v) (hs : (hI x lt pl).says f args m v) : oSh f args m = some (v, (hI x lt pl).eff f m) := by
  by_cases e : f = 32
  · subst e; exact hs
  · exfalso
    have e1 : Nat.beq f 32 = false := by cases hb : Nat.beq f 32 with
      | false => rfl
      | true => exact absurd (Nat.eq_of_beq_eq_true hb) e
    unfold H.Hint.says at hs
    have : (hI x lt pl).specM f = some never := by show cond (Nat.beq f 32) _ _ = _; rw [e1]; rfl
    rw [this] at hs
    exact hs
theorem hI_off {x : List Value} {lt : Bool} {pl : Int} (f : FuncId) (hc : (hI x lt pl).call f = none) (a : List Value) (m : Mem) : oSh f a m = none :=
  oSh_off (by rintro rfl; cases hc) (by rintro rfl; cases hc) (by rintro rfl; cases hc) a m
noncomputable def yV (l : Nat) : Value := .func (.yield l) #[] #[]
noncomputable def knI (l : Nat) (p : Int) : List (Nat × Value) := [(0, yV l), (1, ptrV 2 0), (3, .int .i64 p)]
abbrev SeenI := Ex × Value × Value × Value × Value × Mem
noncomputable def itR (x : List Value) (lt : Bool) (pl : Int) (c : Code) (d : Nat) (t : Tmps) (M : Mem) : Option (H.TT SeenI) :=
  H.codeT (hI x lt pl) c Tryz.prog kp 1 (H.callT (hI x lt pl) Tryz.prog kp 1 20) (fun body _ k t m q => Y.loopF body k t m q) 20 20 t M fun e t m => some ((e, t.at 0, t.at 1, t.at 3, t.at d, m), [], [])
theorem t_it0 (y : Nat → Value) (L : List Value) (n l : Nat) : ansX (itR [] false 0 (.region 0 (q93 0) false) 3 (fullN 20 (up y [(0, yV l), (1, ptrV 2 0)])) (m93 L n)) = some ((.normal, yV l, ptrV 2 0, .int .i64 0, .int .i64 0, m93 L n), []) ∧
    evenX (itR [] false 0 (.region 0 (q93 0) false) 3 (fullN 20 (up y [(0, yV l), (1, ptrV 2 0)])) (m93 L n)) := ⟨by kernel_rfl, by unfold evenX; kernel_rfl⟩
theorem t_it1 (y : Nat → Value) (L : List Value) (n l : Nat) (p : Int) (lt : Bool) : ansX (itR [] lt 0 (.region 1 (q93 1) false) 7 (fullN 20 (up y (knI l p))) (m93 L n)) = some ((.normal, yV l, ptrV 2 0, .int .i64 p, .bool lt, m93 L n), [binD Tryz.prog kp .lss 3 (.int .i64 p) (.int .i64 (Int.ofNat n)) = some (.bool lt)]) ∧
    evenX (itR [] lt 0 (.region 1 (q93 1) false) 7 (fullN 20 (up y (knI l p))) (m93 L n)) := ⟨by kernel_rfl, by unfold evenX; kernel_rfl⟩
theorem t_it3a (y : Nat → Value) (L x : List Value) (n l : Nat) (p : Int) : ansX (itR x false 1 (.region 3 (q93 3) false) 3 (fullN 20 (up y (knI l p))) (m93 L n)) = some ((.normal, yV l, ptrV 2 0, .int .i64 (IntKind.wrap .i64 (Int.add p 1)), .int .i64 (IntKind.wrap .i64 (Int.add p 1)), m93 L n), [ixP p n, ldP L p x, oSh 32 [.agg ⟨x⟩] (m93 L n) = some (.int .i64 1, m93 L n)]) ∧
    evenX (itR x false 1 (.region 3 (q93 3) false) 3 (fullN 20 (up y (knI l p))) (m93 L n)) := ⟨by kernel_rfl, by unfold evenX; kernel_rfl⟩
theorem t_it3b (y : Nat → Value) (L x : List Value) (n l : Nat) (p : Int) : ansX (itR x false 2 (.region 3 (q93 3) false) 3 (fullN 20 (up y (knI l p))) (m93 L n)) = some ((.normal, yV l, ptrV 2 0, .int .i64 (IntKind.wrap .i64 (Int.add p 2)), .int .i64 (IntKind.wrap .i64 (Int.add p 2)), m93 L n), [ixP p n, ldP L p x, oSh 32 [.agg ⟨x⟩] (m93 L n) = some (.int .i64 2, m93 L n)]) ∧
    evenX (itR x false 2 (.region 3 (q93 3) false) 3 (fullN 20 (up y (knI l p))) (m93 L n)) := ⟨by kernel_rfl, by unfold evenX; kernel_rfl⟩
end
end Go.Proofs.YtipdeijgaabobaaGreatDoor
/-
  VIter2: the iterator's contract: it gives the places at which instructions begin.
-/
namespace Go.Proofs.YtipdeijgaabobaaGreatDoor
open Go Go.DI Go.DI.Kit Go.Proofs Go.Cmp Go.RowKit
noncomputable section
abbrev Pl (l : List Ins) := {p : Nat // p ∈ startsL l}
def encP (l : List Ins) (x : Pl l) : Array Value := #[.int .i64 (x.1 : Int)]
def KpI (B0 : Nat) (ι : Ren) (l : List Ins) (A B : World) : Prop := Rel B0 1 ι (m93 (codeC l) l.length) A → Rel B0 1 ι (m93 (codeC l) l.length) B
theorem plI_run {l : List Ins} (hS : ShapeOk l) {p : Nat} {x : Ins} (hp : p ∈ startsL l) (hx : l[p]? = some x) : (plI x = 1 ∧ PlRun x 1) ∨ (plI x = 2 ∧ PlRun x 2) := by
  rcases hS.found p hp with ⟨y, hy, h1⟩ | ⟨y, o, q, hq, hy, h1, _, _, _⟩ | ⟨n, h1, h2⟩
  · rw [hx] at h1
    cases h1
    left
    cases hy with
    | movI hd => exact ⟨rfl, (fm_movI hd).pl⟩
    | andI hd => exact ⟨rfl, (fm_andI hd).pl⟩
    | movR hd hs => exact ⟨rfl, (fm_movR hd hs).pl⟩
    | andR hd hs => exact ⟨rfl, (fm_andR hd hs).pl⟩
    | low => exact ⟨rfl, fm_low.pl⟩
    | exit => exact ⟨rfl, fm_exit.pl⟩
    | load hz hd hs =>
      rcases hz with rfl | rfl | rfl | rfl
      · exact ⟨rfl, (fm_load1 hd hs).pl⟩
      · exact ⟨rfl, (fm_load2 hd hs).pl⟩
      · exact ⟨rfl, (fm_load4 hd hs).pl⟩
      · exact ⟨rfl, (fm_load8 hd hs).pl⟩
    | swap hz hz1 =>
      rcases hz with rfl | rfl | rfl | rfl
      · omega
      · exact ⟨rfl, fm_swap2.pl⟩
      · exact ⟨rfl, fm_swap4.pl⟩
      · exact ⟨rfl, fm_swap8.pl⟩
  · rw [hx] at h1
    cases h1
    left
    cases hy with
    | jif ho hd =>
      rcases ho with rfl | rfl | rfl | rfl | rfl
      · exact ⟨rfl, (fm_jif3 hd).pl⟩
      · exact ⟨rfl, (fm_jif5 hd).pl⟩
      · exact ⟨rfl, (fm_jif10 hd).pl⟩
      · exact ⟨rfl, (fm_jif2 hd).pl⟩
      · exact ⟨rfl, (fm_jif1 hd).pl⟩
    | jifR ho =>
      rcases ho with rfl | rfl
      · exact ⟨rfl, fm_jifR10.pl⟩
      · exact ⟨rfl, fm_jifR2.pl⟩
    | goto => exact ⟨rfl, fm_goto.pl⟩
  · rw [hx] at h1
    cases h1
    exact .inr ⟨rfl, fm_const.2.1⟩
theorem m93_own (L : List Value) (n : Nat) : ∀ b, ((m93 L n).get b).own = false := by
  intro b
  have e : (m93 L n).get b = if b < 1 then (mG gl).get b else (match [Blk.cells false L, Blk.cells false [sliceN 1 n]][b - 1]? with | some x => x | none => (mG gl).get b) := foldl_push_get _ (mG gl) b
  have hG : ∀ b, ((mG gl).get b).own = false := fun b => by
    by_cases h : b = 0
    · subst h; rw [mG_get]; rfl
    · rw [mG_top gl b (by rw [mG_size]; omega)]; rfl
  rw [e]
  by_cases h : b < 1
  · rw [if_pos h]; exact hG b
  · rw [if_neg h]
    rcases hb : b - 1 with _ | _ | j
    · rfl
    · rfl
    · exact hG b
/-- One piece of the iterator. -/
theorem it_piece {B0 : Nat} {ι : Ren} {L : List Value} {n : Nat} {x : List Value} {lt : Bool} {pl : Int} {c : Code} {d lp : Nat} {kn : List (Nat × Value)} {y : Nat → Value} {p : Int} {u : Value} {qs : List Prop} {W : World} {a : Act} {dd : Nat}
    (h : ansX (itR x lt pl c d (fullN 20 (up y kn)) (m93 L n)) = some ((.normal, yV lp, ptrV 2 0, .int .i64 p, u, m93 L n), qs) ∧ evenX (itR x lt pl c d (fullN 20 (up y kn)) (m93 L n))) (hq : ∀ q ∈ qs, q)
    (hr : Rel B0 1 ι (m93 L n) W) (ht : TRel ι 20 (fullN 20 (up y kn)) a) {Q : Exit → Act → World → Prop}
    (hQ : ∀ a' W' t', TRel ι 20 t' a' → t'.at 0 = yV lp → t'.at 1 = ptrV 2 0 → t'.at 3 = .int .i64 p → t'.at d = u → a'.defers = a.defers → Rel B0 1 ι (m93 L n) W' → W.grownBy W' none → Q .normal a' W') : c.wpIn Fence.wide dd Tryz.prog Q a W := by
  obtain ⟨e, t', m', a1, a2⟩ := H.codeO_H (H := hI x lt pl) (o := oSh) (P := Tryz.prog) (K := kp) (G := 1) (j := 20) (n := 20) (k := 20) (c := c) (t := fullN 20 (up y kn)) (m := m93 L n) (g := fun e t m => (e, t.at 0, t.at 1, t.at 3, t.at d, m)) hI_on hI_off h.1 h.2 hq
  have e1 : e = _ := congrArg (fun x => x.1) a2
  have e2 : t'.at 0 = _ := congrArg (fun x => x.2.1) a2
  have e3 : t'.at 1 = _ := congrArg (fun x => x.2.2.1) a2
  have e4 : t'.at 3 = _ := congrArg (fun x => x.2.2.2.1) a2
  have e5 : t'.at d = _ := congrArg (fun x => x.2.2.2.2.1) a2
  have e6 : m' = _ := congrArg (fun x => x.2.2.2.2.2) a2
  simp only at e1 e2 e3 e4 e5 e6
  rw [e1, e6] at a1
  refine wpIn_wide.2 (code_ok hK (cfS_ok B0) (drawOK hmix hK (cfS_ok B0) cfS_grw) c _ _ _ _ _ a1 ι W a Q hr ht (fun b h1 h2 => absurd h2 (Nat.not_lt.2 h1)) fun a' W' ha => ?_)
  obtain ⟨ι', g1, g2, g3, g4⟩ := ha
  obtain rfl := stp_same g3
  exact hQ a' W' t' g1 e2 e3 e4 e5 g4 g2 (grown_of (P := Tryz.prog) g3 (m93_own L n))
def muI (n : Nat) (a : Act) : Nat := match a.tmps.getD 3 undef with | .int _ z => n - z.toNat | _ => 0
theorem muI_eq {n : Nat} {a : Act} {k : IntKind} {p : Nat} (h : a.tmps.getD 3 undef = .int k (p : Int)) : muI n a = n - p := by unfold muI; rw [h]; simp

def oI0 : Oper := { dst := some 8, op := .move (.tmp 0), type := 105, pos := "shape.go:25", after := #[], guard := none }
def oI1 : Oper := { dst := some 9, op := .move (.tmp 3), type := 3, pos := "shape.go:25", after := #[], guard := none }
def oI2 : Oper := { dst := some 10, op := .call { callee := .value (.tmp 8), args := #[.tmp 9], argTypes := #[3] }, type := 4, pos := "shape.go:25", after := #[{ on := 0, ground := .data }, { on := 1, ground := .data }], guard := none }
def oI3 : Oper := { dst := some 11, op := .unOp .not 4 (.tmp 10), type := 4, pos := "shape.go:25", after := #[{ on := 2, ground := .data }], guard := none }
theorem qI_eq : q93 2 = #[oI0, oI1, oI2, oI3] := by kernel_rfl
theorem starts_step {l : List Ins} {k p : Nat} (hk : l.length ≤ p + k) (hp : p < l.length) : ∃ k' x, k = k' + 1 ∧ l[p]? = some x ∧ startsGo l k p = p :: startsGo l k' (p + plI x) := by
  obtain ⟨k', rfl⟩ : ∃ k', k = k' + 1 := ⟨k - 1, by omega⟩
  obtain ⟨x, hx⟩ : ∃ x, l[p]? = some x := ⟨_, List.getElem?_eq_getElem hp⟩
  exact ⟨k', x, rfl, hx, by simp only [startsGo, hx]⟩
theorem starts_end {l : List Ins} {k p : Nat} (hp : l.length ≤ p) : startsGo l k p = [] := by
  cases k with
  | zero => rfl
  | succ k => simp only [startsGo, List.getElem?_eq_none hp]
/-- Between two turns. -/
def InvI {B0 : Nat} {ι : Ren} {l : List Ins} (lp : Nat) (J : List (Pl l) → World → Prop) (a : Act) (W : World) : Prop :=
  ∃ (pre : List (Pl l)) (p k : Nat) (y : Nat → Value), pre.map Subtype.val ++ startsGo l k p = startsL l ∧ l.length ≤ p + k ∧ p ≤ l.length + 2 ∧ J pre W ∧ Rel B0 1 ι (m93 (codeC l) l.length) W ∧ TRel ι 20 (fullN 20 (up y (knI lp (p : Int)))) a ∧ a.defers = []
theorem iter_stops {B0 : Nat} {ι : Ren} {l : List Ins} {w : World} {nn : Nat} (hr : Rel B0 1 ι (m93 (codeC l) l.length) w) {Lb : Go.DI.Loc} (hb : ι 2 = some Lb) (hS : ShapeOk l) :
    SeqStopsK Fence.wide nn Tryz.prog 102 #[.pointer (some ⟨Lb.block, Lb.base + 0, none⟩)] (encP l) (KpI B0 ι l) (fun xs => xs.map Subtype.val = startsL l) (fun _ => True) (startsL l).length w := by
  intro lp J Jx W hW hJ hJx hY h0
  have hrW := rel_below hr hW
  have hm := hS.most
  refine callsIn_of_wp at93 bd93 trivial ?_ rfl
  have hst : TRel ι 20 (fullN 20 (argX [yV lp, ptrV 2 0])) { tmps := (#[.func (.yield lp) #[] #[]] ++ #[.pointer (some ⟨Lb.block, Lb.base + 0, none⟩)]) ++ Array.replicate (Tryz.f102.ntmps - (#[.func (.yield lp) #[] #[]] ++ #[.pointer (some ⟨Lb.block, Lb.base + 0, none⟩)] : Array Value).size) undef, defers := [] } :=
    start_rel (ι := ι) (args := [yV lp, ptrV 2 0]) (args' := [.func (.yield lp) #[] #[], .pointer (some ⟨Lb.block, Lb.base + 0, none⟩)]) (nt := 20) (.cons (vrel_yield ι lp) (.cons (.ptr 2 0 Lb hb) .nil))
  have e0 : fullN 20 (argX [yV lp, ptrV 2 0]) = fullN 20 (up (argX [yV lp, ptrV 2 0]) [(0, yV lp), (1, ptrV 2 0)]) := by rw [up_self _ _ (by intro q hq; simp only [List.mem_cons, List.not_mem_nil, or_false] at hq; rcases hq with rfl | rfl <;> rfl)]
  rw [e0] at hst
  rw [c93_eq]
  refine wpIn_seq (it_piece (t_it0 _ (codeC l) l.length lp) nil_p hrW hst fun a1 W1 t1 ht1 k0 k1 k3 _ hd1 hr1 hg1 => ?_)
  simp only [Exit.then]
  refine wpIn_block (wpIn_loop (InvI (B0 := B0) (ι := ι) (l := l) lp J) (fun a _ => muI l.length a) ?_ ?_)
  · obtain ⟨y, hy⟩ := ht1.full (knI lp ((0 : Nat) : Int)) (by
      intro q hq
      simp only [knI, List.mem_cons, List.not_mem_nil, or_false] at hq
      rcases hq with rfl | rfl | rfl
      · exact k0
      · exact k1
      · exact k3)
    exact ⟨[], 0, l.length, y, rfl, by omega, by omega, hJ [] W W1 none h0 hg1 (fun r e => by cases e), hr1, hy, hd1⟩
  · rintro a W ⟨pre, p, k, y, hpre, hk, hp2, hJp, hrp, htp, hdp⟩
    have h3 : a.tmps.getD 3 undef = .int .i64 (p : Int) := htp.int (by rw [fullN_at]; rfl)
    refine wpIn_seq (wpIn_seq ?_)
    by_cases hlt : p < l.length
    · obtain ⟨k', x, rfl, hx, hgo⟩ := starts_step hk hlt
      refine it_piece (t_it1 y (codeC l) l.length lp (p : Int) true) (cons_p (by simp [binD, binInt, shiftB]; omega) nil_p) hrp htp fun a1 W1 t1 ht1 k0 k1 k3 k7 hd1 hr1 hg1 => ?_
      simp only [Exit.then]
      have h7 : a1.tmps.getD 7 undef = .bool true := ht1.bool k7
      refine wpIn_cond_true (show a1.eval (.tmp 7) = .bool true from h7) (wpIn_skip ?_)
      simp only [Exit.then]
      have hJ1 : J pre W1 := hJ pre W W1 none hJp hg1 (fun r e => by cases e)
      have hmem : p ∈ startsL l := by rw [← hpre, hgo]; simp
      have hN : pre.length < (startsL l).length := by
        rw [← hpre, hgo]; simp
      obtain ⟨fn, tmps, assign, body, hy, hR⟩ := hY pre ⟨p, hmem⟩ W1 hJ1 hN
      refine wpIn_block (wpIn_seq (wpIn_seq (wpIn_region ?_)))
      have w0 : a1.eval (.tmp 0) = yV lp := ht1.yield k0
      have w3 : a1.eval (.tmp 3) = .int .i64 (p : Int) := ht1.int k3
      rw [qI_eq]
      show wpOpsIn Fence.wide nn Tryz.prog #[oI0, oI1, oI2, oI3] _ [0, 1, 2, 3] a1 W1
      refine ops_valW (o := oI0) rfl rfl (run_move (x := .tmp 0) rfl) ?_
      have ht2 : TRel ι 20 (t1.set 8 (yV lp)) (a1.put oI0.dst (a1.eval (.tmp 0))) := by
        rw [w0]; exact ht1.putD (n := 20) (dst := some 8) rfl (vrel_yield ι lp)
      have w3' : (a1.put oI0.dst (a1.eval (.tmp 0))).eval (.tmp 3) = .int .i64 (p : Int) := ht2.int (by rw [Tmps.at_set]; exact k3)
      refine ops_valW (o := oI1) rfl rfl (run_move (x := .tmp 3) rfl) ?_
      have ht3 : TRel ι 20 ((t1.set 8 (yV lp)).set 9 (.int .i64 (p : Int))) ((a1.put oI0.dst (a1.eval (.tmp 0))).put oI1.dst ((a1.put oI0.dst (a1.eval (.tmp 0))).eval (.tmp 3))) := by
        rw [w3']; exact ht2.putD (n := 20) (dst := some 9) rfl (.int _ _)
      obtain ⟨a3, ha3⟩ : ∃ a3, (a1.put oI0.dst (a1.eval (.tmp 0))).put oI1.dst ((a1.put oI0.dst (a1.eval (.tmp 0))).eval (.tmp 3)) = a3 := ⟨_, rfl⟩
      have hd3 : a3.defers = [] := by rw [← ha3]; exact (put_defers _ _ _).trans ((put_defers _ _ _).trans (hd1.trans hdp))
      rw [ha3] at ht3 ⊢
      have w8 : a3.eval (.tmp 8) = yV lp := ht3.yield (by rw [Tmps.at_set_ne _ (by decide), Tmps.at_set_same]; rfl)
      have w9 : a3.eval (.tmp 9) = .int .i64 (p : Int) := ht3.int (by rw [Tmps.at_set_same])
      have hargs : (#[Operand.tmp 9].map a3.eval) = encP l ⟨p, hmem⟩ := by
        rw [show (#[Operand.tmp 9]).map a3.eval = #[a3.eval (.tmp 9)] from by simp, w9]; rfl
      refine ops_roundW (o := oI2) rfl rfl ((run_yieldOp (f := .tmp 8) (args := #[.tmp 9]) (tys := #[3]) (l := lp) rfl w8).trans (by rw [hargs]; exact hy)) (hR.mono ?_)
      have ht4 : ∀ b, TRel ι 20 ((((t1.set 8 (yV lp)).set 9 (.int .i64 (p : Int))).set 10 (.bool b)).set 11 (.bool (!b))) ((a3.put oI2.dst (.bool b)).put oI3.dst (.bool (!b))) := fun b =>
        (ht3.putD (n := 20) (dst := some 10) rfl (.bool b)).putD (n := 20) (dst := some 11) rfl (.bool (!b))
      have z4 : ∀ (b : Bool) (d : Nat), d ≠ 8 → d ≠ 9 → d ≠ 10 → d ≠ 11 → Tmps.at ((((t1.set 8 (yV lp)).set 9 (.int .i64 (p : Int))).set 10 (.bool b)).set 11 (.bool (!b))) d = t1.at d := fun b d n8 n9 n10 n11 => by
        rw [Tmps.at_set_ne _ n11, Tmps.at_set_ne _ n10, Tmps.at_set_ne _ n9, Tmps.at_set_ne _ n8]
      have w10 : ∀ b, (a3.put oI2.dst (.bool b)).eval (.tmp 10) = .bool b := fun b =>
        TRel.bool (ht3.putD (n := 20) (dst := some 10) rfl (.bool b)) (by show (Tmps.set _ 10 _).at 10 = _; rw [Tmps.at_set_same])
      have w11 : ∀ b, ((a3.put oI2.dst (.bool b)).put oI3.dst (.bool (!b))).eval (.tmp 11) = .bool (!b) := fun b => (ht4 b).bool (by rw [Tmps.at_set_same])
      have hd4 : ∀ b, ((a3.put oI2.dst (.bool b)).put oI3.dst (.bool (!b))).defers = [] := fun b => (put_defers _ _ _).trans ((put_defers _ _ _).trans hd3)
      rintro e W2 (⟨rfl, hJ2, hK2⟩ | ⟨rfl, hx2⟩)
      · refine ⟨_, rfl, ops_valW (o := oI3) rfl rfl (run_not (x := .tmp 10) (ty := 4) (b := true) rfl (w10 true)) ?_⟩
        simp only [wpOpsIn, Exit.then, Exit.inBlock]
        refine wpIn_cond_false (w11 true) (wpIn_skip ?_)
        simp only [Exit.then, Exit.inBlock]
        have hr2 : Rel B0 1 ι (m93 (codeC l) l.length) W2 := hK2 hr1
        obtain ⟨y2, hy2⟩ := (ht4 true).full (knI lp (p : Int)) (by
          intro q hq
          simp only [knI, List.mem_cons, List.not_mem_nil, or_false] at hq
          rcases hq with rfl | rfl | rfl
          · exact (z4 true 0 (by decide) (by decide) (by decide) (by decide)).trans k0
          · exact (z4 true 1 (by decide) (by decide) (by decide) (by decide)).trans k1
          · exact (z4 true 3 (by decide) (by decide) (by decide) (by decide)).trans k3)
        have next : ∀ (j : Nat), 1 ≤ j → j ≤ 2 → plI x = j → ∀ (a5 : Act) (W5 : World) (t5 : Tmps), TRel ι 20 t5 a5 → t5.at 0 = yV lp → t5.at 1 = ptrV 2 0 → t5.at 3 = .int .i64 ((p + j : Nat) : Int) → a5.defers = [] → Rel B0 1 ι (m93 (codeC l) l.length) W5 → W2.grownBy W5 none →
            InvI (B0 := B0) (ι := ι) (l := l) lp J a5 W5 ∧ muI l.length a5 < muI l.length a := by
          intro j hj1 hj2 hpl a5 W5 t5 ht5 z0 z1 z3 hd5 hr5 hg5
          obtain ⟨y5, hy5⟩ := ht5.full (knI lp ((p + j : Nat) : Int)) (by
            intro q hq
            simp only [knI, List.mem_cons, List.not_mem_nil, or_false] at hq
            rcases hq with rfl | rfl | rfl
            · exact z0
            · exact z1
            · exact z3)
          refine ⟨⟨pre ++ [⟨p, hmem⟩], p + j, k', y5, ?_, by omega, by omega, hJ _ W2 W5 none hJ2 hg5 (fun r e => by cases e), hr5, hy5, hd5⟩, ?_⟩
          · refine Eq.trans ?_ hpre
            rw [hgo, List.map_append, List.append_assoc, ← hpl]; rfl
          · rw [muI_eq (ht5.int z3), muI_eq h3]; omega
        have hM : (m93 (codeC l) l.length).top := top_mS _
        have hM0 : (m93 (codeC l) l.length).get 0 = .cells false gl := by kernel_rfl
        rcases plI_run hS hmem hx with ⟨hpl, hrun⟩ | ⟨hpl, hrun⟩
        · refine it_piece (t_it3a y2 (codeC l) (insC x) l.length lp (p : Int)) (cons_p (ixP_of hx) (cons_p (ldP_of hx) (cons_p (oSh_pl hM hM0 (by show 1 ≤ 3; decide) hrun) nil_p))) hr2 hy2 fun a5 W5 t5 ht5 z0 z1 z3 _ hd5 hr5 hg5 => ?_
          exact next 1 (by decide) (by decide) hpl a5 W5 t5 ht5 z0 z1 (by rw [z3, up_nat (by omega)]) (hd5.trans (hd4 true)) hr5 hg5
        · refine it_piece (t_it3b y2 (codeC l) (insC x) l.length lp (p : Int)) (cons_p (ixP_of hx) (cons_p (ldP_of hx) (cons_p (oSh_pl hM hM0 (by show 1 ≤ 3; decide) hrun) nil_p))) hr2 hy2 fun a5 W5 t5 ht5 z0 z1 z3 _ hd5 hr5 hg5 => ?_
          refine next 2 (by decide) (by decide) hpl a5 W5 t5 ht5 z0 z1 ?_ (hd5.trans (hd4 true)) hr5 hg5
          rw [z3, show Int.add (p : Int) 2 = ((p + 2 : Nat) : Int) from rfl, wrap_i64 ⟨by omega, by omega⟩]
      · refine ⟨_, rfl, ops_valW (o := oI3) rfl rfl (run_not (x := .tmp 10) (ty := 4) (b := false) rfl (w10 false)) ?_⟩
        simp only [wpOpsIn, Exit.then, Exit.inBlock]
        refine wpIn_cond_true (w11 false) (wpIn_ret ?_)
        simp only [Exit.then, Exit.inBlock]
        exact ⟨hd4 false, _, results_none rfl _ _ _, ⟨_, rfl⟩, .inr ⟨_, trivial, hx2⟩⟩
    · refine it_piece (t_it1 y (codeC l) l.length lp (p : Int) false) (cons_p (by simp [binD, binInt, shiftB]; omega) nil_p) hrp htp fun a1 W1 t1 ht1 k0 k1 k3 k7 hd1 hr1 hg1 => ?_
      simp only [Exit.then]
      have h7 : a1.tmps.getD 7 undef = .bool false := ht1.bool k7
      refine wpIn_cond_false (show a1.eval (.tmp 7) = .bool false from h7) (wpIn_exit ?_)
      simp only [Exit.then, Exit.inBlock]
      have hJ1 : J pre W1 := hJ pre W W1 none hJp hg1 (fun r e => by cases e)
      rw [starts_end (by omega), List.append_nil] at hpre
      exact ⟨hd1.trans hdp, _, results_none rfl _ _ _, ⟨_, rfl⟩, .inl ⟨pre, hpre, hJ1⟩⟩
end
end Go.Proofs.YtipdeijgaabobaaGreatDoor
/-
  VStarts: shape.Starts: its pieces.
-/
namespace Go.Proofs.YtipdeijgaabobaaGreatDoor
open Go Go.DI Go.DI.Kit Go.Proofs Go.Cmp Go.RowKit
noncomputable section
/-! ### what the iterator sees -/
def rho93 (bx i : Nat) : Nat := if i = 2 then bx else i
def i93 (ι : Ren) (bx : Nat) : Ren := ι.sub (rho93 bx) fun i => Nat.blt i 3
theorem i93_at (ι : Ren) (bx b : Nat) (h : b < 3) : i93 ι bx b = ι (rho93 bx b) := by
  show (if Nat.blt b 3 = true then _ else none) = _
  rw [if_pos (by simp [Nat.blt_eq]; omega)]
theorem weakB {B0 : Nat} {ι : Ren} {own : Bool} {c : List Value} {L : Go.DI.Loc} {W : World} (h : BlkRel B0 ι (.cells own c) L W) : BlkRel B0 ι (.cells false c) L W := by
  obtain ⟨rc, e, fr, h1, h2, h3, h4, h5⟩ := h
  exact ⟨rc, e, fr, h1, h2, h3, h4, fun h => by cases h⟩
theorem rel93 {B0 : Nat} {w0 W : World} {ι : Ren} {m : Mem} {bx : Nat} {o1 o2 : Bool} {l : List Ins} (hs : Go.DI.St B0 w0 ι m W) (hz : 1 < m.size) (hbx : bx < m.size) (hb2 : 2 ≤ bx) (g0 : m.get 0 = .cells false gl) (g1 : m.get 1 = .cells o1 (codeC l)) (gx : m.get bx = .cells o2 [sliceN 1 l.length]) :
    Rel B0 1 (i93 ι bx) (m93 (codeC l) l.length) W := by
  have key : ∀ b, b < 3 → rho93 bx b < m.size ∧ (m.get (rho93 bx b)).live := fun b hb => by
    have : b = 0 ∨ b = 1 ∨ b = 2 := by omega
    rcases this with rfl | rfl | rfl
    · refine ⟨by show 0 < _; omega, ?_⟩
      show (m.get 0).live
      rw [g0]; trivial
    · refine ⟨hz, ?_⟩
      show (m.get 1).live
      rw [g1]; trivial
    · refine ⟨hbx, ?_⟩
      show (m.get bx).live
      rw [gx]; trivial
  refine ⟨fun b L hb hL => ?_, fun b₁ b₂ L₁ L₂ b1 b2 e1 e2 l1 l2 g0' e => ?_, hs.rel.floor, fun g hg => ?_, top_mS _⟩
  · have hb : b < 3 := hb
    rw [i93_at ι bx b hb] at hL
    have hr := hs.rel.blk _ L (key b hb).1 hL
    have : b = 0 ∨ b = 1 ∨ b = 2 := by omega
    rcases this with rfl | rfl | rfl
    · have hr : BlkRel B0 ι (m.get 0) L W := hr
      rw [g0] at hr
      rw [show (m93 (codeC l) l.length).get 0 = .cells false gl by kernel_rfl]
      exact (bsim_free (ρ := rho93 bx) (k := fun i => Nat.blt i 3) free_gl).rel B0 ι L W hr
    · have hr : BlkRel B0 ι (m.get 1) L W := hr
      rw [g1] at hr
      have h2 := bsim_ren (ρ := rho93 bx) (nb := 3) (b := .cells false (codeC l)) (fun v hv => plain_ok (List.all_eq_true.1 (codeC_plain l) v hv)) (fun v hv => plain_seen (List.all_eq_true.1 (codeC_plain l) v hv))
      rw [show (m93 (codeC l) l.length).get 1 = .cells false (codeC l) by kernel_rfl]
      refine h2.rel B0 ι L W ?_
      show BlkRel B0 ι (.cells false ((codeC l).map _)) L W
      rw [ren_plains (codeC_plain l)]
      exact weakB hr
    · have hr : BlkRel B0 ι (m.get bx) L W := hr
      rw [gx] at hr
      have h2 := bsim_ren (ρ := rho93 bx) (nb := 3) (b := .cells false [sliceN 1 l.length]) (fun v hv => by obtain rfl := List.mem_singleton.1 hv; rfl) (fun v hv => by obtain rfl := List.mem_singleton.1 hv; rfl)
      rw [show (m93 (codeC l) l.length).get 2 = .cells false [sliceN 1 l.length] by kernel_rfl]
      refine h2.rel B0 ι L W ?_
      exact weakB hr
  · have b1 : b₁ < 3 := b1
    have b2 : b₂ < 3 := b2
    rw [i93_at ι bx _ b1] at e1
    rw [i93_at ι bx _ b2] at e2
    have := hs.rel.inj _ _ _ _ (key b₁ b1).1 (key b₂ b2).1 e1 e2 (key b₁ b1).2 (key b₂ b2).2 g0' e
    unfold rho93 at this
    split at this <;> split at this <;> omega
  · obtain rfl : g = 0 := by omega
    obtain ⟨L, p1, p2⟩ := hs.rel.glob 0 (by decide)
    exact ⟨L, by rw [i93_at ι bx 0 (by decide)]; exact p1, p2⟩
theorem kpI_t {B0 : Nat} {ι : Ren} {l : List Ins} {A B C : World} (h : KpI B0 ι l A B) (k : KpI B0 ι l B C) : KpI B0 ι l A C := fun g => k (h g)
theorem m93_cells (l : List Ins) : ∀ b, ((m93 (codeC l) l.length).get b).live → ∃ o c, (m93 (codeC l) l.length).get b = .cells o c := by
  intro b hb
  have e : (m93 (codeC l) l.length).get b = if b < 1 then (mG gl).get b else (match [Blk.cells false (codeC l), Blk.cells false [sliceN 1 l.length]][b - 1]? with | some x => x | none => (mG gl).get b) := foldl_push_get _ (mG gl) b
  rw [e] at hb ⊢
  by_cases h : b < 1
  · obtain rfl : b = 0 := by omega
    rw [if_pos h, mG_get]; exact ⟨_, _, rfl⟩
  · rw [if_neg h] at hb ⊢
    rcases hj : b - 1 with _ | _ | j
    · exact ⟨_, _, rfl⟩
    · exact ⟨_, _, rfl⟩
    · rw [hj] at hb
      have hb : ((mG gl).get b).live := hb
      rw [mG_top gl b (by rw [mG_size]; omega)] at hb
      exact hb.elim
theorem kpI_b {B0 : Nat} {ι : Ren} {l : List Ins} (W : World) (k : Nat) (o o' : Obj) (hk : W.heap[k]? = some o) (hno : o.isCells = false) : KpI B0 ι l W (W.putObj k o') := fun hr => by
  have hg := grownBy_putObj' W k o'
  refine ⟨fun b L hb hL => ?_, hr.inj, Nat.le_trans hr.floor hg.size, hr.glob, hr.top⟩
  have hb0 := hr.blk b L hb hL
  refine hb0.monoL (fun _ _ h => h) fun hl => ?_
  obtain ⟨o1, c, hgb⟩ := m93_cells l b hl
  refine hg.block _ (hb0.lt hl) fun e => ?_
  have e : L.block = k := Option.some.inj e
  rw [hgb] at hb0
  obtain ⟨rc, e1, fr, h1, _⟩ := hb0
  rw [e, hk] at h1
  cases h1
  cases hno
theorem clos_at {ι : Ren} {n : Nat} {t : Tmps} {a : Act} (ht : TRel ι n t a) {d bx : Nat} (hd : t.at d = .func (.func 102) #[] #[ptrV bx 0]) : ∃ Lb, ι bx = some Lb ∧ a.tmps.getD d undef = .func (.func 102) #[] #[.pointer (some ⟨Lb.block, Lb.base + 0, none⟩)] := by
  have := ht.2 d
  rw [hd] at this
  generalize a.tmps.getD d undef = u at this ⊢
  cases this with
  | func fn x x' y y' hx hy h1 h2 =>
    have e1 : x' = #[] := Array.eq_empty_of_size_eq_zero hx.symm
    obtain ⟨v, hv⟩ : ∃ v, y' = #[v] := by
      have : y'.size = 1 := hy.symm
      refine ⟨y'[0], Array.ext (by simp [this]) fun i hi hj => ?_⟩
      obtain rfl : i = 0 := by omega
      rfl
    subst e1 hv
    have := h2 0 (ptrV bx 0) v rfl rfl
    cases this with
    | ptr _ _ L hL => exact ⟨L, hL, rfl⟩
/-! ### Starts -/
noncomputable def c69 : Code := bodyOf Tryz.f29
theorem at69 : Tryz.prog.funcs[29]? = some Tryz.f29 := by kernel_rfl
theorem bd69 : Tryz.f29.body = some c69 := by kernel_rfl
noncomputable def q69 (i : Nat) : Array Oper := regA c69 i
theorem c69_eq : c69 = .seq (.region 0 (q69 0) false) (.seq (.region 1 (q69 1) false) (.seq (.seq (.region 2 (q69 2) false) (.block 0 (.rangeFunc (.tmp 9) #[10] (.region 3 (q69 3) false) (.block 1 (.region 4 (q69 4) false))))) (.seq (.region 5 (q69 5) false) .ret))) := by kernel_rfl
noncomputable def hS (z y : List Value) : H.Hint where
  ix t := Nat.beq t 81
  ld _ _ _ := none
  cmp _ _ := none
  ap _ := none
  call f := cond (Nat.beq f 32 || (Nat.beq f 31 || Nat.beq f 67)) (some undef) none
  spec _ _ _ _ := False
  blk := 0
  mks t := cond (Nat.beq t 81) (some (.cells true z)) none
  st t b := cond (Nat.beq t 4 && Nat.beq b 2) (some (.cells true y)) none
theorem hS_on {z y : List Value} (f : FuncId) (v : Value) (args : List Value) (m : Mem) (hc : (hS z y).call f = some v) (hs : (hS z y).says f args m v) : oSh f args m = some (v, (hS z y).eff f m) := hs.elim
theorem hS_off {z y : List Value} (f : FuncId) (hc : (hS z y).call f = none) (a : List Value) (m : Mem) : oSh f a m = none :=
  oSh_off (by rintro rfl; cases hc) (by rintro rfl; cases hc) (by rintro rfl; cases hc) a m
noncomputable def slBo (n : Nat) : Value := .slice (some ⟨2, 0, none⟩) n n
noncomputable def mT0 (o1 : Bool) (L : List Value) : Mem := mS gl [.cells o1 L]
noncomputable def mT1 (o1 : Bool) (L z : List Value) (n : Nat) : Mem := mS gl [.cells o1 L, .cells true z, .cells true [slBo n]]
noncomputable def mT2 (o1 : Bool) (L z : List Value) (n : Nat) : Mem := mS gl [.cells o1 L, .cells true z, .cells true [slBo n], .cells true [sliceN 1 n]]
noncomputable def cl93 (bx : Nat) : Value := .func (.func 102) #[] #[ptrV bx 0]
noncomputable def qMk (z : List Value) (n : Nat) : Prop := H.mkOk Tryz.prog 1 81 (.int .i64 (Int.ofNat n)) (.int .i64 (Int.ofNat n)) (.cells true z) n n
noncomputable def qSt (z y : List Value) (p : Int) : Prop := H.stOk Tryz.prog (.cells true z) 4 (Nat.add 0 (Nat.mul p.toNat 1)) (.bool true) (.cells true y)
theorem t_st0 (x : Nat → Value) (o1 : Bool) (L : List Value) (n : Nat) : ansX (pcR (hS [] []) Tryz.prog kp (.region 0 (q69 0) false) 15 [0] (fullN 15 (up x [(0, sliceN 1 n)])) (mT0 o1 L)) = some ((.normal, [sliceN 1 n], mT0 o1 L), []) ∧ evenX (pcR (hS [] []) Tryz.prog kp (.region 0 (q69 0) false) 15 [0] (fullN 15 (up x [(0, sliceN 1 n)])) (mT0 o1 L)) := ⟨by kernel_rfl, by unfold evenX; kernel_rfl⟩
theorem t_st1 (x : Nat → Value) (o1 : Bool) (L z : List Value) (n : Nat) : ansX (pcR (hS z []) Tryz.prog kp (.region 1 (q69 1) false) 15 [0, 3] (fullN 15 (up x [(0, sliceN 1 n)])) (mT0 o1 L)) = some ((.normal, [sliceN 1 n, ptrV 3 0], mT1 o1 L z n), [qMk z n]) ∧ evenX (pcR (hS z []) Tryz.prog kp (.region 1 (q69 1) false) 15 [0, 3] (fullN 15 (up x [(0, sliceN 1 n)])) (mT0 o1 L)) := ⟨by kernel_rfl, by unfold evenX; kernel_rfl⟩
theorem t_st2 (x : Nat → Value) (o1 : Bool) (L z : List Value) (n : Nat) : ansX (pcR (hS [] []) Tryz.prog kp (.region 2 (q69 2) false) 15 [3, 9] (fullN 15 (up x [(0, sliceN 1 n), (3, ptrV 3 0)])) (mT1 o1 L z n)) = some ((.normal, [ptrV 3 0, cl93 4], mT2 o1 L z n), []) ∧ evenX (pcR (hS [] []) Tryz.prog kp (.region 2 (q69 2) false) 15 [3, 9] (fullN 15 (up x [(0, sliceN 1 n), (3, ptrV 3 0)])) (mT1 o1 L z n)) := ⟨by kernel_rfl, by unfold evenX; kernel_rfl⟩
theorem t_st4 (x : Nat → Value) (o1 : Bool) (L z y : List Value) (n : Nat) (p : Int) : ansX (pcR (hS [] y) Tryz.prog kp (.block 1 (.region 4 (q69 4) false)) 15 [] (fullN 15 (up x [(3, ptrV 3 0), (4, .int .i64 p)])) (mT2 o1 L z n)) = some ((.normal, [], mT2 o1 L y n), [ixP p n, qSt z y p]) ∧ evenX (pcR (hS [] y) Tryz.prog kp (.block 1 (.region 4 (q69 4) false)) 15 [] (fullN 15 (up x [(3, ptrV 3 0), (4, .int .i64 p)])) (mT2 o1 L z n)) := ⟨by kernel_rfl, by unfold evenX; kernel_rfl⟩
theorem t_st5 (x : Nat → Value) (o1 : Bool) (L z : List Value) (n : Nat) : ansX (pcR (hS [] []) Tryz.prog kp (.region 5 (q69 5) false) 15 [2] (fullN 15 (up x [(3, ptrV 3 0)])) (mT2 o1 L z n)) = some ((.normal, [slBo n], mT2 o1 L z n), []) ∧ evenX (pcR (hS [] []) Tryz.prog kp (.region 5 (q69 5) false) 15 [2] (fullN 15 (up x [(3, ptrV 3 0)])) (mT2 o1 L z n)) := ⟨by kernel_rfl, by unfold evenX; kernel_rfl⟩
end
end Go.Proofs.YtipdeijgaabobaaGreatDoor
/-
  VStarts2: shape.Starts: a slice that tells where instructions begin.
-/
namespace Go.Proofs.YtipdeijgaabobaaGreatDoor
open Go Go.DI Go.DI.Kit Go.Proofs Go.Cmp Go.RowKit
noncomputable section
def boolsAt (s : List Nat) (n : Nat) : List Value := (List.range n).map fun i => Value.bool (decide (i ∈ s))
theorem boolsAt_len (s : List Nat) (n : Nat) : (boolsAt s n).length = n := by simp [boolsAt]
theorem boolsAt_get (s : List Nat) (n i : Nat) : (boolsAt s n)[i]? = if i < n then some (.bool (decide (i ∈ s))) else none := by
  unfold boolsAt
  rw [List.getElem?_map]
  by_cases h : i < n
  · rw [List.getElem?_range h, if_pos h]; rfl
  · rw [List.getElem?_eq_none (by simp; omega), if_neg h]; rfl
theorem repl_one (v : Value) : ∀ n, repl [v] n = List.replicate n v
  | 0 => rfl
  | n + 1 => by
    show v :: repl [v] n = _
    rw [repl_one v n]; rfl
theorem und143 : Tryz.prog.underlying 81 = some (.slice 4) := by kernel_rfl
theorem byt4 : bytesOf Tryz.prog 4 = some 1 := by kernel_rfl
theorem zer4 (n : Nat) : zerosD Tryz.prog 4 n = some (repl [.bool false] n) := by kernel_rfl
theorem qMk_of {n : Nat} (h : n ≤ 512) : qMk (boolsAt [] n) n := fun t lx cx h1 h2 => by
  have hb : boolsAt [] n = repl [.bool false] n := by
    rw [repl_one]
    apply List.ext_getElem?
    intro i
    rw [boolsAt_get, List.getElem?_replicate]
    simp
  unfold allocD
  simp only [und143, h1, h2, byt4, Int.ofNat_eq_natCast]
  rw [if_pos ⟨by omega, by omega, by omega, by omega⟩, Int.toNat_natCast, zer4, hb]
theorem qSt_of {s : List Nat} {n p : Nat} (h : p < n) : qSt (boolsAt s n) (boolsAt (s ++ [p]) n) (p : Int) := fun m b hm => by
  have hsz : szOf Tryz.prog 4 = some 1 := by kernel_rfl
  have hoff : Nat.add 0 (Nat.mul (p : Int).toNat 1) = p := by
    show 0 + (p : Int).toNat * 1 = p
    simp
  rw [hoff]
  have hc : (Value.bool true).cells.toList = [.bool true] := rfl
  unfold storeD
  simp only [hsz, hc]
  rw [if_pos (by rfl)]
  unfold storeC
  rw [hm]
  simp only
  rw [if_pos (by rw [boolsAt_len]; simp; omega), if_pos (show [Value.bool true].all one = true from rfl)]
  have : splice (boolsAt s n) p [.bool true] = boolsAt (s ++ [p]) n := by
    apply List.ext_getElem?
    intro i
    rw [splice_get _ _ _ _ (by rw [boolsAt_len]; simp; omega), boolsAt_get, boolsAt_get]
    by_cases hi : i = p
    · subst hi
      rw [if_pos (by simp), if_pos h]
      simp
    · rw [if_neg (by simp; omega)]
      simp [hi]
  rw [this]
theorem mS_get (ss : List Blk) (j : Nat) : (mS gl ss).get j = if j < 1 then (mG gl).get j else (match ss[j - 1]? with | some x => x | none => (mG gl).get j) := foldl_push_get ss (mG gl) j
/-- Small memories hold cells alone. -/
theorem mS_cells {ss : List Blk} (h : ∀ s ∈ ss, ∃ o c, s = .cells o c) (b : Nat) (hb : ((mS gl ss).get b).live) : ∃ o c, (mS gl ss).get b = .cells o c := by
  rw [mS_get] at hb ⊢
  by_cases h0 : b < 1
  · obtain rfl : b = 0 := by omega
    rw [if_pos h0, mG_get]; exact ⟨_, _, rfl⟩
  · rw [if_neg h0] at hb ⊢
    cases hj : ss[b - 1]? with
    | some x => exact h x (List.mem_of_getElem? hj)
    | none =>
      rw [hj] at hb
      have hb : ((mG gl).get b).live := hb
      rw [mG_top gl b (by rw [mG_size]; omega)] at hb
      exact hb.elim
theorem mS_only {ss : List Blk} (h : ∀ s ∈ ss, ∃ o c, s = .cells o c) : onlyCells (mS gl ss) := fun b hb => mS_cells h b (own_live hb)
theorem mS_size (ss : List Blk) : (mS gl ss).size = 1 + ss.length := by unfold mS; rw [foldl_push_size, mG_size]
/-- The names cut down to a memory's size. -/
theorem rel_cut {B0 : Nat} {ι : Ren} {ss : List Blk} {W : World} (hr : Rel B0 1 ι (mS gl ss) W) (hok : ∀ s ∈ ss, okB s ∧ seenB (1 + ss.length) s) : Rel B0 1 (ι.sub id fun i => Nat.blt i (1 + ss.length)) (mS gl ss) W := by
  have hin : ∀ b L, (ι.sub id fun i => Nat.blt i (1 + ss.length)) b = some L → b < 1 + ss.length ∧ ι b = some L := fun b L h => by
    obtain ⟨g1, g2⟩ := sub_id _ _ _ _ h
    exact ⟨by simpa [Nat.blt_eq] using g1, g2⟩
  refine ⟨fun b L hb hL => ?_, fun b₁ b₂ L₁ L₂ b1 b2 e1 e2 l1 l2 g0 e => hr.inj _ _ _ _ b1 b2 (hin _ _ e1).2 (hin _ _ e2).2 l1 l2 g0 e, hr.floor, fun g hg => ?_, hr.top⟩
  · obtain ⟨g1, g2⟩ := hin b L hL
    have hb0 := hr.blk b L hb g2
    by_cases h0 : b = 0
    · subst h0
      have e0 : (mS gl ss).get 0 = .cells false gl := by rw [mS_get, if_pos (by decide), mG_get]
      rw [e0] at hb0 ⊢
      exact (bsim_free (ρ := id) (k := fun i => Nat.blt i (1 + ss.length)) free_gl).rel B0 ι L W hb0
    · have hj : b - 1 < ss.length := by omega
      have eb : (mS gl ss).get b = ss[b - 1] := by rw [mS_get, if_neg (by omega), List.getElem?_eq_getElem hj]
      rw [eb] at hb0 ⊢
      obtain ⟨k1, k2⟩ := hok _ (List.getElem_mem hj)
      have := bsim_ren (ρ := id) k1 k2
      rw [renB_id k1] at this
      exact this.rel B0 ι L W hb0
  · obtain ⟨L, p1, p2⟩ := hr.glob g hg
    obtain rfl : g = 0 := by omega
    refine ⟨L, ?_, p2⟩
    show (if Nat.blt 0 (1 + ss.length) = true then ι 0 else none) = some L
    rw [if_pos (by simp [Nat.blt_eq]; omega)]
    exact p1
theorem rel_weak {B0 : Nat} {ι : Ren} {own : Bool} {L : List Value} {W : World} (hr : Rel B0 1 ι (mS gl [.cells own L]) W) : Rel B0 1 ι (mS gl [.cells false L]) W := by
  have hlive : ∀ b, ((mS gl [.cells false L]).get b).live → ((mS gl [.cells own L]).get b).live := fun b hb => by
    rw [mS_get] at hb ⊢
    split
    · rename_i h; rw [if_pos h] at hb; exact hb
    · rename_i h
      rw [if_neg h] at hb
      rcases hj : b - 1 with _ | j
      · rw [hj] at hb; trivial
      · rw [hj] at hb; exact hb
  refine ⟨fun b L' hb hL => ?_, fun b₁ b₂ L₁ L₂ b1 b2 e1 e2 l1 l2 g0 e => hr.inj _ _ _ _ b1 b2 e1 e2 (hlive _ l1) (hlive _ l2) g0 e, hr.floor, hr.glob, top_mS _⟩
  have h := hr.blk b L' hb hL
  have hb : b < 2 := hb
  have : b = 0 ∨ b = 1 := by omega
  rcases this with rfl | rfl
  · have e0 : ∀ o, (mS gl [.cells o L]).get 0 = .cells false gl := fun o => by rw [mS_get, if_pos (by decide), mG_get]
    rw [e0] at h ⊢; exact h
  · have e1 : ∀ o, (mS gl [.cells o L]).get 1 = .cells o L := fun o => by rw [mS_get]; rfl
    rw [e1] at h ⊢; exact weakB h

theorem starts_lt {l : List Ins} {p : Nat} (h : p ∈ startsL l) : p < l.length := by
  have key : ∀ (k q : Nat), p ∈ startsGo l k q → p < l.length := by
    intro k
    induction k with
    | zero => intro q h; simp [startsGo] at h
    | succ k ih =>
      intro q h
      simp only [startsGo] at h
      cases hx : l[q]? with
      | none => rw [hx] at h; simp at h
      | some x =>
        rw [hx] at h
        simp only [List.mem_cons] at h
        rcases h with rfl | h
        · exact (List.getElem?_eq_some_iff.1 hx).1
        · exact ih _ h
  exact key _ _ h
def aS : Oper := { dst := some 4, op := .assign (.tmp 10), type := 3, pos := "shape.go:36", after := #[], guard := none }
theorem three {o1 o2 o3 : Bool} {a b c : List Value} : ∀ s ∈ [Blk.cells o1 a, .cells o2 b, .cells o3 c], ∃ o c, s = .cells o c := by
  intro s hs
  simp only [List.mem_cons, List.not_mem_nil, or_false] at hs
  rcases hs with rfl | rfl | rfl <;> exact ⟨_, _, rfl⟩
theorem four {o1 o2 o3 o4 : Bool} {a b c d : List Value} : ∀ s ∈ [Blk.cells o1 a, .cells o2 b, .cells o3 c, .cells o4 d], ∃ o c, s = .cells o c := by
  intro s hs
  simp only [List.mem_cons, List.not_mem_nil, or_false] at hs
  rcases hs with rfl | rfl | rfl | rfl <;> exact ⟨_, _, rfl⟩
theorem one1 {o1 : Bool} {a : List Value} : ∀ s ∈ [Blk.cells o1 a], ∃ o c, s = .cells o c := by
  intro s hs
  obtain rfl := List.mem_singleton.1 hs
  exact ⟨_, _, rfl⟩
theorem bools_ok (s : List Nat) (n nb : Nat) : okB (.cells true (boolsAt s n)) ∧ seenB nb (.cells true (boolsAt s n)) := by
  constructor <;>
  · intro v hv
    obtain ⟨i, _, rfl⟩ := List.mem_map.1 hv
    rfl
/-- shape.Starts. -/
theorem starts_ok {B0 : Nat} {own : Bool} {l : List Ins} (hS : ShapeOk l) : CallOK Tryz.prog B0 1 29 [sliceN 1 l.length] (mS gl [.cells own (codeC l)]) (slBo l.length) (mS gl [.cells own (codeC l), .cells true (boolsAt (startsL l) l.length)]) := by
  intro ι w args' hr hf hargs
  have hm := hS.most
  have hcp : ∀ o : Bool, okB (.cells o (codeC l)) ∧ ∀ nb, seenB nb (.cells o (codeC l)) := fun o => ⟨fun v hv => plain_ok (List.all_eq_true.1 (codeC_plain l) v hv), fun nb v hv => plain_seen (List.all_eq_true.1 (codeC_plain l) v hv)⟩
  -- the small memory, nobody's own
  obtain ⟨ι0, hι0⟩ : ∃ ι0, (ι.sub id fun i => Nat.blt i (1 + [Blk.cells false (codeC l)].length)) = ι0 := ⟨_, rfl⟩
  have hat : ∀ b, b < 2 → ι0 b = ι b := fun b hb => by
    rw [← hι0]
    show (if Nat.blt b 2 = true then ι b else none) = ι b
    rw [if_pos (by simp [Nat.blt_eq]; omega)]
  have hno : ∀ b, 2 ≤ b → ι0 b = none := fun b hb => by
    rw [← hι0]
    show (if Nat.blt b 2 = true then ι b else none) = none
    rw [if_neg (by simp [Nat.blt_eq]; omega)]
  have hr0 : Rel B0 1 ι0 (mT0 false (codeC l)) w := by
    rw [← hι0]
    exact rel_cut (rel_weak hr) (fun s hs => by obtain rfl := List.mem_singleton.1 hs; exact ⟨(hcp false).1, (hcp false).2 _⟩)
  have hs0 : Go.DI.St B0 w ι0 (mT0 false (codeC l)) w := ⟨hr0, fun b hb => hno b hb, Below.refl _ _, fun b L hL ho => by
    exfalso
    unfold mT0 at ho
    rw [mS_get] at ho
    split at ho
    · rename_i h0
      obtain rfl : b = 0 := by omega
      rw [mG_get] at ho; cases ho
    · rcases hj : b - 1 with _ | j
      · rw [hj] at ho; cases ho
      · rw [hj] at ho
        have ho : ((mG gl).get b).own = true := ho
        rw [mG_top gl b (by rw [mG_size]; omega)] at ho; cases ho⟩
  have hargs0 : VRels ι0 [sliceN 1 l.length] args' := by
    cases hargs with
    | cons h t =>
      cases t
      refine .cons ?_ .nil
      have := sim_ren (ρ := id) (nb := 2) (v := sliceN 1 l.length) rfl rfl
      rw [renV_id (by rfl)] at this
      rw [← hι0]
      exact this ι _ h
  have hst := start_rel (nt := 15) hargs0
  have e0 : fullN 15 (argX [sliceN 1 l.length]) = fullN 15 (up (argX [sliceN 1 l.length]) [(0, sliceN 1 l.length)]) := by rw [up_self _ _ (by intro q hq; obtain rfl := List.mem_singleton.1 hq; rfl)]
  have hst : TRel ι0 15 (fullN 15 (up (argX [sliceN 1 l.length]) [(0, sliceN 1 l.length)])) { tmps := args'.toArray ++ Array.replicate (Tryz.f29.ntmps - args'.toArray.size) undef, defers := [] } := by
    rw [← e0]; exact hst
  refine (callsIn_wide (n := 1)).1 (callsIn_of_wp_marks at69 bd69 trivial ?_ rfl)
  rw [c69_eq]
  refine wpIn_seq (st_piece hmix hK hng (oSh_ok B0) oSh_grw hS_on hS_off (t_st0 _ false (codeC l) l.length).1 (t_st0 _ false (codeC l) l.length).2 nil_p hs0 (mS_only one1) hst fun ι1 a1 W1 t1 hs1 ht1 hv1 hd1 hk1 hkp1 => ?_)
  simp only [Ex.to, Exit.then]
  obtain ⟨x1, hx1⟩ := ht1.full _ (at_of hv1)
  refine wpIn_seq (st_piece hmix hK hng (oSh_ok B0) oSh_grw hS_on hS_off (t_st1 x1 false (codeC l) (boolsAt [] l.length) l.length).1 (t_st1 x1 false (codeC l) (boolsAt [] l.length) l.length).2 (cons_p (qMk_of hm) nil_p) hs1 (mS_only one1) hx1 fun ι2 a2 W2 t2 hs2 ht2 hv2 hd2 hk2 hkp2 => ?_)
  simp only [Ex.to, Exit.then]
  obtain ⟨x2, hx2⟩ := ht2.full _ (at_of hv2)
  refine wpIn_seq (wpIn_seq (st_piece hmix hK hng (oSh_ok B0) oSh_grw hS_on hS_off (t_st2 x2 false (codeC l) (boolsAt [] l.length) l.length).1 (t_st2 x2 false (codeC l) (boolsAt [] l.length) l.length).2 nil_p hs2 (mS_only three) hx2 fun ι3 a3 W3 t3 hs3 ht3 hv3 hd3 hk3 hkp3 => ?_))
  simp only [Ex.to, Exit.then]
  have hat3 := at_of hv3
  have h93 : t3.at 9 = cl93 4 := hat3 (9, cl93 4) (by simp)
  have h33 : t3.at 3 = ptrV 3 0 := hat3 (3, ptrV 3 0) (by simp)
  obtain ⟨Lb, hLb, hfun⟩ := clos_at ht3 h93
  have hz3 : (mT2 false (codeC l) (boolsAt [] l.length) l.length).size = 5 := by kernel_rfl
  have hG : ∀ s, (mT2 false (codeC l) (boolsAt s l.length) l.length).get 0 = .cells false gl ∧ (mT2 false (codeC l) (boolsAt s l.length) l.length).get 1 = .cells false (codeC l) ∧ (mT2 false (codeC l) (boolsAt s l.length) l.length).get 4 = .cells true [sliceN 1 l.length] ∧ (mT2 false (codeC l) (boolsAt s l.length) l.length).size = 5 := fun s => ⟨by kernel_rfl, by kernel_rfl, by kernel_rfl, by kernel_rfl⟩
  have hrel93 : ∀ (s : List Nat) (W : World), Go.DI.St B0 w ι3 (mT2 false (codeC l) (boolsAt s l.length) l.length) W → Rel B0 1 (i93 ι3 4) (m93 (codeC l) l.length) W := fun s W h => by
    obtain ⟨g0, g1, g4, gz⟩ := hG s
    exact rel93 h (by rw [gz]; decide) (by rw [gz]; decide) (by decide) g0 g1 g4
  have hi2 : i93 ι3 4 2 = some Lb := by rw [i93_at ι3 4 2 (by decide)]; exact hLb
  refine wpIn_block (range_di (m0 := mT2 false (codeC l) (boolsAt [] l.length) l.length) (ι := ι3) hs3 (Ds := []) (fun D hD => by simp at hD) (by decide) hfun (enters_of at93 (by kernel_rfl) bd93) (iter_stops (hrel93 [] W3 hs3) hi2 hS) (fun h k => kpI_t h k) (fun W k o o' _ hk hno' _ => kpI_b W k o o' hk hno') (fun x => rfl)
    (fun pre => mT2 false (codeC l) (boolsAt (pre.map Subtype.val) l.length) l.length) rfl (fun pre b hb => mS_cells four b hb)
    (fun x => ({ tmps := a3.tmps.setIfInBounds 10 (.int .i64 (x.1 : Int)), defers := [] } : Act).put (some 4) (.int .i64 (x.1 : Int))) ?_ ?_ (fun pre W W' h _ => hrel93 _ W' h) ?_)
  · intro k x W K' hK'
    rw [show q69 3 = #[aS] by kernel_rfl]
    refine assign_one (op := aS) (x := .tmp 10) rfl rfl ?_
    have ez : ((#[10] : Array Tmp).zip (encP l x)).foldl (fun t (p, v) => t.setIfInBounds p v) a3.tmps = a3.tmps.setIfInBounds 10 (.int .i64 (x.1 : Int)) := by simp [encP]
    rw [ez]
    have : ({ tmps := a3.tmps.setIfInBounds 10 (.int .i64 (x.1 : Int)), defers := [] } : Act).eval (.tmp 10) = .int .i64 (x.1 : Int) := by
      have h15 : 10 < a3.tmps.size := by rw [ht3.1]; decide
      show (a3.tmps.setIfInBounds 10 (.int .i64 (x.1 : Int))).getD 10 undef = _
      rw [getD_setIfInBounds, if_pos ⟨rfl, h15⟩]
    rw [this]
    exact hK'
  · intro k pre x W Q' hx' hst' hQ'
    have hp : x.1 < l.length := starts_lt x.2
    have ht4 : TRel ι3 15 ((t3.set 10 (.int .i64 (x.1 : Int))).set 4 (.int .i64 (x.1 : Int))) ((({ tmps := a3.tmps.setIfInBounds 10 (.int .i64 (x.1 : Int)), defers := [] } : Act)).put (some 4) (.int .i64 (x.1 : Int))) :=
      TRel.putD (n := 15) (dst := some 4) (TRel.setI (N := 15) ht3 (by decide) (.int _ _)) rfl (.int _ _)
    obtain ⟨x4, hx4⟩ := ht4.full [(3, ptrV 3 0), (4, .int .i64 (x.1 : Int))] (by
      intro q hq
      simp only [List.mem_cons, List.not_mem_nil, or_false] at hq
      rcases hq with rfl | rfl
      · show (Tmps.set _ 4 _).at 3 = _
        rw [Tmps.at_set_ne _ (by decide)]
        exact (Tmps.at_set_ne _ (by decide) _).trans h33
      · exact Tmps.at_set_same _ _ _)
    refine st_pieceIn hmix hK hng (oSh_ok B0) oSh_grw hS_on hS_off (by kernel_rfl) (t_st4 x4 false (codeC l) (boolsAt (pre.map Subtype.val) l.length) (boolsAt (pre.map Subtype.val ++ [x.1]) l.length) l.length (x.1 : Int)).1 (t_st4 x4 false (codeC l) (boolsAt (pre.map Subtype.val) l.length) (boolsAt (pre.map Subtype.val ++ [x.1]) l.length) l.length (x.1 : Int)).2
      (cons_p ⟨by omega, by omega⟩ (cons_p (qSt_of hp) nil_p)) hst' (mS_only four) hx4 hx' fun ι5 a5 W5 t5 hs5 ht5 hv5 hd5 hk5 hkp5 => ?_
    have hι5 : ι5 = ι3 := by
      funext b
      rcases Nat.lt_or_ge b 5 with h | h
      · exact hk5 b h
      · rw [hs5.fresh b h, hst'.fresh b h]
    subst hι5
    refine hQ' a5 W5 hkp5 ?_
    rw [List.map_append]
    exact hs5
  · intro D xs W hD hxs hst' hmk
    have hxs : xs.map Subtype.val = startsL l := hxs
    rw [hxs] at hst'
    simp only [Exit.inBlock, Exit.then]
    have ht5 : TRel ι3 15 t3 { a3 with defers := { target := .collected D, args := #[] } :: a3.defers } := ht3
    obtain ⟨x5, hx5⟩ := ht5.full [(3, ptrV 3 0)] (by intro q hq; obtain rfl := List.mem_singleton.1 hq; exact h33)
    refine wpIn_seq (st_piece hmix hK hng (oSh_ok B0) oSh_grw hS_on hS_off (t_st5 x5 false (codeC l) (boolsAt (startsL l) l.length) l.length).1 (t_st5 x5 false (codeC l) (boolsAt (startsL l) l.length) l.length).2 nil_p hst' (mS_only four) hx5 fun ι6 a6 W6 t6 hs6 ht6 hv6 hd6 hk6 hkp6 => ?_)
    simp only [Ex.to, Exit.then]
    refine wpIn_ret ?_
    have hd3' : a3.defers = [] := by rw [hd3, hd2, hd1]
    have hmk6 := hmk.keeps hkp6 D (List.mem_cons_self ..)
    show LeavesInM Fence.wide 1 Tryz.prog Tryz.f29 a6.tmps _ a6.defers .returning W6
    rw [hd6, hd3']
    refine ⟨by simp, .inl ⟨D, W6.putObj D (.deferred none), rfl, run_takeDeferred hmk6, _, results_tmp rfl _ _ _, ?_⟩⟩
    have hs7 : Go.DI.St B0 w ι6 (mT2 false (codeC l) (boolsAt (startsL l) l.length) l.length) (W6.putObj D (.deferred none)) := hs6.grown (fun b hb => mS_cells four b hb) (B := w.heap.size) (Nat.le_refl _) (grownBy_putObj' W6 D _) (fun r e => by
      cases e
      exact ⟨Nat.le_trans hs3.below.size hD, _, hmk6, rfl⟩)
    have hv2 : t6.at 2 = slBo l.length := at_of hv6 (2, slBo l.length) (by simp)
    have hret := ht6.2 2
    rw [hv2] at hret
    have hown2 : ∀ L, ι6 2 = some L → w.heap.size ≤ L.block := fun L hL => hs7.own 2 L hL (by
      show ((mS gl _).get 2).own = true
      rw [mS_get]; rfl)
    obtain ⟨u, hu⟩ : ∃ u, a6.tmps.getD 2 undef = u := ⟨_, rfl⟩
    rw [hu] at hret
    obtain ⟨W7, hW7⟩ : ∃ W7, W6.putObj D (.deferred none) = W7 := ⟨_, rfl⟩
    rw [hW7] at hs7
    have hb7 : Below w.heap.size w W7 := hs7.below
    have h2none : ι 2 = none := hf 2 (by show 2 ≤ 2; omega) (by show 2 < 3; omega)
    have hle : ι.le fun b => if b = 2 then ι6 2 else ι b := fun b L hL => by
      show (if b = 2 then ι6 2 else ι b) = some L
      rw [if_neg (by rintro rfl; rw [h2none] at hL; cases hL)]
      exact hL
    have hsame : ∀ b, b < 2 → (mS gl [.cells own (codeC l), .cells true (boolsAt (startsL l) l.length)]).get b = (mS gl [.cells own (codeC l)]).get b := fun b hb => by
      have : b = 0 ∨ b = 1 := by omega
      rcases this with rfl | rfl
      · rw [mS_get, mS_get]; rfl
      · rw [mS_get, mS_get]; rfl
    have hg2 : (mS gl [.cells own (codeC l), .cells true (boolsAt (startsL l) l.length)]).get 2 = .cells true (boolsAt (startsL l) l.length) := by kernel_rfl
    show ∃ v' ι', Ending.returned (a6.tmps.getD 2 undef) = .returned v' ∧ _
    rw [hW7, hu]
    refine ⟨u, fun b => if b = 2 then ι6 2 else ι b, rfl, ?_, ⟨fun b L hb hL => ?_, fun b₁ b₂ L₁ L₂ b1 b2 e1 e2 l1 l2 g0 e => ?_, hs7.rel.floor, fun g hg => ?_, top_mS _⟩, ⟨hle, fun b hb => ?_, hb7.os, hb7.output, hb7.tape, hb7.size, fun B hB _ => hb7.block B hB, fun b L h1 h2 hL => ?_, by show 2 ≤ 3; omega, fun b hb ho => ?_⟩⟩
    · cases hret with
      | slc _ _ _ _ L hL => exact .slc _ _ _ _ L (by show (if (2 : Nat) = 2 then ι6 2 else ι 2) = some L; rw [if_pos rfl]; exact hL)
    · have hb : b < 3 := hb
      have hL : (if b = 2 then ι6 2 else ι b) = some L := hL
      by_cases h2 : b = 2
      · subst h2
        rw [if_pos rfl] at hL
        rw [hg2]
        have := hs7.rel.blk 2 L (by show 2 < 5; omega) hL
        rw [show (mT2 false (codeC l) (boolsAt (startsL l) l.length) l.length).get 2 = .cells true (boolsAt (startsL l) l.length) by kernel_rfl] at this
        obtain ⟨rc, e, fr, q1, q2, q3, q4, q5⟩ := this
        refine ⟨rc, e, fr, q1, q2, q3, fun i v hv => ?_, q5⟩
        obtain ⟨v', z1, z2⟩ := q4 i v hv
        refine ⟨v', z1, ?_⟩
        obtain ⟨k, _, rfl⟩ := List.mem_map.1 (List.mem_of_getElem? hv)
        exact free_bool _ _ _ _ z2
      · rw [if_neg h2] at hL
        rw [hsame b (by omega)]
        have h := hr.blk b L (by show b < 2; omega) hL
        exact h.monoL hle fun hl => hb7.block _ (h.lt hl)
    · have b1 : b₁ < 3 := b1
      have b2 : b₂ < 3 := b2
      have e1 : (if b₁ = 2 then ι6 2 else ι b₁) = some L₁ := e1
      have e2 : (if b₂ = 2 then ι6 2 else ι b₂) = some L₂ := e2
      have low : ∀ b L, b < 2 → ι b = some L → ((mS gl [.cells own (codeC l), .cells true (boolsAt (startsL l) l.length)]).get b).live → L.block < w.heap.size := fun b L hb hL hl => by
        rw [hsame b hb] at hl
        exact (hr.blk b L (by show b < 2; omega) hL).lt hl
      by_cases h1 : b₁ = 2 <;> by_cases h2 : b₂ = 2
      · rw [h1, h2]
      · rw [if_pos h1] at e1
        rw [if_neg h2] at e2
        have := hown2 L₁ e1
        have := low b₂ L₂ (by omega) e2 l2
        omega
      · rw [if_neg h1] at e1
        rw [if_pos h2] at e2
        have := hown2 L₂ e2
        have := low b₁ L₁ (by omega) e1 l1
        omega
      · rw [if_neg h1] at e1
        rw [if_neg h2] at e2
        rw [hsame b₁ (by omega)] at l1
        rw [hsame b₂ (by omega)] at l2
        exact hr.inj _ _ _ _ (by show b₁ < 2; omega) (by show b₂ < 2; omega) e1 e2 l1 l2 g0 e
    · obtain rfl : g = 0 := by omega
      exact hr.glob 0 (by decide)
    · show (if b = 2 then ι6 2 else ι b) = ι b
      have hb : b < 2 ∨ 3 ≤ b := hb
      rw [if_neg (by omega)]
    · have h1 : 2 ≤ b := h1
      have h2 : b < 3 := h2
      obtain rfl : b = 2 := by omega
      have hL : (if (2 : Nat) = 2 then ι6 2 else ι 2) = some L := hL
      rw [if_pos rfl] at hL
      exact .inl (hown2 L hL)
    · rw [hsame b hb] at ho; exact ho
end
end Go.Proofs.YtipdeijgaabobaaGreatDoor
/-
  VCheck1: shape.Check: its pieces.
-/
namespace Go.Proofs.YtipdeijgaabobaaGreatDoor
open Go Go.DI Go.DI.Kit Go.Proofs Go.Cmp Go.RowKit
noncomputable section
noncomputable def c45 : Code := bodyOf Tryz.f28
theorem at45 : Tryz.prog.funcs[28]? = some Tryz.f28 := by kernel_rfl
theorem bd45 : Tryz.f28.body = some c45 := by kernel_rfl
noncomputable def q45 (i : Nat) : Array Oper := regA c45 i
noncomputable def b45_0 : Code := .block 0 (.seq (.region 1 (q45 1) false) (.cond (.tmp 16) (.seq (.region 2 (q45 2) false) .ret) (.seq (.region 3 (q45 3) false) (.cond (.tmp 21) (.seq (.region 4 (q45 4) false) .ret) .skip))))
noncomputable def b45_1 : Code := .block 1 (.loop (.seq (.region 6 (q45 6) false) (.seq (.cond (.tmp 36) .skip (.exit 1)) (.seq (.block 2 (.seq (.region 7 (q45 7) false) (.seq (.region 8 (q45 8) false) (.cond (.tmp 42) (.seq (.region 9 (q45 9) false) .ret) .skip)))) (.region 10 (q45 10) false)))))
noncomputable def b45_4 : Code := .block 4 (.seq (.region 14 (q45 14) false) (.seq (.seq (.region 15 (q45 15) false) (.cond (.tmp 56) (.seq (.region 16 (q45 16) false) .ret) .skip)) (.region 17 (q45 17) true)))
noncomputable def b45_6 : Code := .block 6 (.seq (.region 21 (q45 21) false) (.seq (.seq (.region 22 (q45 22) false) (.cond (.tmp 85) (.exit 6) .skip)) (.seq (.region 23 (q45 23) false) (.seq (.region 24 (q45 24) false) (.cond (.tmp 107) (.seq (.region 25 (q45 25) false) .ret) .skip)))))
noncomputable def b45_e : Code := .seq (.region 26 (q45 26) false) (.cond (.tmp 114) (.seq (.region 27 (q45 27) false) .ret) .skip)
theorem c45_eq : c45 = .seq (.region 0 (q45 0) false) (.seq b45_0 (.seq (.seq (.region 5 (q45 5) false) b45_1) (.seq (.region 11 (q45 11) false) (.seq (.seq (.region 12 (q45 12) false) (.block 3 (.rangeFunc (.tmp 47) #[48] (.region 13 (q45 13) false) b45_4)))
    (.seq (.region 18 (q45 18) false) (.seq (.seq (.region 19 (q45 19) false) (.block 5 (.rangeFunc (.tmp 67) #[68] (.region 20 (q45 20) false) b45_6))) (.seq b45_e (.seq (.region 28 (q45 28) false) .ret)))))))) := by kernel_rfl
noncomputable def Wv (c op z : Int) (wide reg : Bool) : List Value := [.int .i64 c, .int .i64 op, .int .i64 z, .bool wide, .bool reg]
noncomputable def outW (w : List Value) : Value := .tuple ⟨[.agg ⟨w⟩, .int .i64 0]⟩
noncomputable def hC (w x : List Value) (y : List Value) (b6 b7 : Bool) (own8 : Bool) (ors : Orc) : H.Hint where
  ix t := Nat.beq t 25 || Nat.beq t 81
  ld k t _ := cond (Nat.beq t 24) (some (.agg ⟨x⟩)) (cond (Nat.beq t 4 && Nat.beq k 8) (some (.bool true)) none)
  cmp op t := cond (Nat.beq t 3) (BinOp.rec (motive := fun _ => Option Bool) none none none none none none none none none none none none none (cond own8 (some false) none) none (some false) (some false) op) none
  ap _ := none
  call f := cond (Nat.beq f 67) (some (outW w)) (cond (Nat.beq f 31) (some (outW w)) (cond (Nat.beq f 32) (some undef) (cond (Nat.beq f 29) (some (.slice (some ⟨8, 0, none⟩) y.length y.length)) none)))
  spec _ _ _ _ := False
  blk := 0
  specM f := some fun args m v => ors f args m = some (v, cond (Nat.beq f 29) (m.push (.cells true y)) m)
  eff f m := cond (Nat.beq f 29) (m.push (.cells true y)) m
  cmpY op t v := cond (Nat.beq t 3) (BinOp.rec (motive := fun _ => Option Bool) none none none none none none none none none none none (match v with | .int _ n => cond (Nat.beq n.toNat 0) (some false) none | _ => none) (match v with | .int _ n => cond (Nat.beq n.toNat 6) (some b6) (cond (Nat.beq n.toNat 7) (some b7) none) | _ => none) none none none none op) none
noncomputable def mC0 (L : List Value) : Mem := mS gl [.cells false L]
noncomputable def imgB (n : Nat) : Blk := .cells true (imgC (sliceN 1 n))
noncomputable def cI (z : Int) : Blk := .cells true [.int .i64 z]
noncomputable def mC1 (L : List Value) (n : Nat) : Mem := mS gl [.cells false L, imgB n, cI 0, cI 0]
noncomputable def mC2 (L : List Value) (n : Nat) (a c : Int) : Mem := mS gl [.cells false L, imgB n, cI 0, cI 0, cI a, cI c]
noncomputable def mC3 (L : List Value) (n : Nat) (a c : Int) : Mem := mS gl [.cells false L, imgB n, cI 0, cI 0, cI a, cI c, .cells true [sliceN 1 n]]
noncomputable def mC3w (L : List Value) (n : Nat) (a c : Int) (w : List Value) : Mem := mS gl [.cells false L, imgB n, cI 0, cI 0, cI a, cI c, .cells true [sliceN 1 n], .cells true w]
noncomputable def slS (n : Nat) : Value := .slice (some ⟨8, 0, none⟩) n n
noncomputable def mC4 (L : List Value) (n : Nat) (a c : Int) (y : List Value) : Mem := mS gl [.cells false L, imgB n, cI 0, cI 0, cI a, cI c, .cells true [sliceN 1 n], .cells true y, .cells true [slS y.length]]
noncomputable def mC5 (L : List Value) (n : Nat) (a c : Int) (y : List Value) : Mem := mS gl [.cells false L, imgB n, cI 0, cI 0, cI a, cI c, .cells true [sliceN 1 n], .cells true y, .cells true [slS y.length], .cells true [sliceN 1 n]]
noncomputable def mC5w (L : List Value) (n : Nat) (a c : Int) (y w : List Value) : Mem := mS gl [.cells false L, imgB n, cI 0, cI 0, cI a, cI c, .cells true [sliceN 1 n], .cells true y, .cells true [slS y.length], .cells true [sliceN 1 n], .cells true w]
noncomputable def hC0 (ors : Orc) : H.Hint := hC [] [] [] false false false ors
noncomputable def eq0 (n : Nat) : Prop := binD Tryz.prog kp .eql 3 (.int .i64 (Int.ofNat n)) (.int .i64 0) = some (.bool false)
noncomputable def gt3 (n m : Int) : Prop := binD Tryz.prog kp .gtr 3 (.int .i64 n) (.int .i64 m) = some (.bool false)
theorem t_c0 (x : Nat → Value) (ors : Orc) (L : List Value) (n : Nat) : ansX (pcR (hC0 ors) Tryz.prog kp (.region 0 (q45 0) false) 116 [1, 2, 3] (fullN 116 (up x [(0, imgV (sliceN 1 n))])) (mC0 L)) = some ((.normal, [ptrV 2 0, ptrV 3 0, ptrV 4 0], mC1 L n), []) ∧ evenX (pcR (hC0 ors) Tryz.prog kp (.region 0 (q45 0) false) 116 [1, 2, 3] (fullN 116 (up x [(0, imgV (sliceN 1 n))])) (mC0 L)) := ⟨by kernel_rfl, by unfold evenX; kernel_rfl⟩
theorem t_cb0 (x : Nat → Value) (ors : Orc) (L : List Value) (n : Nat) : ansX (pcR (hC0 ors) Tryz.prog kp b45_0 116 [1, 2, 3] (fullN 116 (up x [(1, ptrV 2 0), (2, ptrV 3 0), (3, ptrV 4 0)])) (mC1 L n)) = some ((.normal, [ptrV 2 0, ptrV 3 0, ptrV 4 0], mC1 L n), [eq0 n, gt3 (Int.ofNat n) 512, gt3 0 4]) ∧ evenX (pcR (hC0 ors) Tryz.prog kp b45_0 116 [1, 2, 3] (fullN 116 (up x [(1, ptrV 2 0), (2, ptrV 3 0), (3, ptrV 4 0)])) (mC1 L n)) := ⟨by kernel_rfl, by unfold evenX; kernel_rfl⟩
theorem t_cb1 (x : Nat → Value) (ors : Orc) (L : List Value) (n : Nat) : ansX (pcR (hC0 ors) Tryz.prog kp (.seq (.region 5 (q45 5) false) b45_1) 116 [1, 2, 3] (fullN 116 (up x [(1, ptrV 2 0), (2, ptrV 3 0), (3, ptrV 4 0)])) (mC1 L n)) = some ((.normal, [ptrV 2 0, ptrV 3 0, ptrV 4 0], mC1 L n), []) ∧ evenX (pcR (hC0 ors) Tryz.prog kp (.seq (.region 5 (q45 5) false) b45_1) 116 [1, 2, 3] (fullN 116 (up x [(1, ptrV 2 0), (2, ptrV 3 0), (3, ptrV 4 0)])) (mC1 L n)) := ⟨by kernel_rfl, by unfold evenX; kernel_rfl⟩
theorem t_c11 (x : Nat → Value) (ors : Orc) (L : List Value) (n : Nat) : ansX (pcR (hC0 ors) Tryz.prog kp (.region 11 (q45 11) false) 116 [1, 2, 3, 6, 7] (fullN 116 (up x [(1, ptrV 2 0), (2, ptrV 3 0), (3, ptrV 4 0)])) (mC1 L n)) = some ((.normal, [ptrV 2 0, ptrV 3 0, ptrV 4 0, ptrV 5 0, ptrV 6 0], mC2 L n 0 0), []) ∧ evenX (pcR (hC0 ors) Tryz.prog kp (.region 11 (q45 11) false) 116 [1, 2, 3, 6, 7] (fullN 116 (up x [(1, ptrV 2 0), (2, ptrV 3 0), (3, ptrV 4 0)])) (mC1 L n)) := ⟨by kernel_rfl, by unfold evenX; kernel_rfl⟩
noncomputable def knC : List (Nat × Value) := [(1, ptrV 2 0), (2, ptrV 3 0), (3, ptrV 4 0), (6, ptrV 5 0), (7, ptrV 6 0)]
noncomputable def vsC : List Value := [ptrV 2 0, ptrV 3 0, ptrV 4 0, ptrV 5 0, ptrV 6 0]
theorem t_c12 (x : Nat → Value) (ors : Orc) (L : List Value) (n : Nat) (a c : Int) : ansX (pcR (hC0 ors) Tryz.prog kp (.region 12 (q45 12) false) 116 [1, 2, 3, 6, 7, 47] (fullN 116 (up x knC)) (mC2 L n a c)) = some ((.normal, vsC ++ [cl93 7], mC3 L n a c), []) ∧ evenX (pcR (hC0 ors) Tryz.prog kp (.region 12 (q45 12) false) 116 [1, 2, 3, 6, 7, 47] (fullN 116 (up x knC)) (mC2 L n a c)) := ⟨by kernel_rfl, by unfold evenX; kernel_rfl⟩
/-- One round of the first loop. -/
theorem t_c4 (x : Nat → Value) (ors : Orc) (L : List Value) (n : Nat) (a c p cl op z : Int) (wide reg : Bool) : ansX (pcR (hC (Wv cl op z wide reg) [] [] false false false ors) Tryz.prog kp b45_4 116 [] (fullN 116 (up x (knC ++ [(8, .int .i64 p)]))) (mC3 L n a c)) = some ((.normal, [], mC3w L n p cl (Wv cl op z wide reg)), [ors 67 [imgV (sliceN 1 n), .int .i64 p] (mC3 L n a c) = some (outW (Wv cl op z wide reg), mC3 L n a c)]) ∧
    evenX (pcR (hC (Wv cl op z wide reg) [] [] false false false ors) Tryz.prog kp b45_4 116 [] (fullN 116 (up x (knC ++ [(8, .int .i64 p)]))) (mC3 L n a c)) := ⟨by kernel_rfl, by unfold evenX; kernel_rfl⟩
theorem t_c18 (x : Nat → Value) (ors : Orc) (L y : List Value) (n : Nat) (a c : Int) : ansX (pcR (hC [] [] y false false false ors) Tryz.prog kp (.region 18 (q45 18) false) 116 [1, 2, 3, 6, 7, 11] (fullN 116 (up x knC)) (mC3 L n a c)) = some ((.normal, vsC ++ [ptrV 9 0], mC4 L n a c y), [ors 29 [sliceN 1 n] (mC3 L n a c) = some (slS y.length, (mC3 L n a c).push (.cells true y))]) ∧
    evenX (pcR (hC [] [] y false false false ors) Tryz.prog kp (.region 18 (q45 18) false) 116 [1, 2, 3, 6, 7, 11] (fullN 116 (up x knC)) (mC3 L n a c)) := ⟨by kernel_rfl, by unfold evenX; kernel_rfl⟩
theorem t_c19 (x : Nat → Value) (ors : Orc) (L y : List Value) (n : Nat) (a c : Int) : ansX (pcR (hC0 ors) Tryz.prog kp (.region 19 (q45 19) false) 116 [1, 2, 3, 6, 7, 11, 67] (fullN 116 (up x (knC ++ [(11, ptrV 9 0)]))) (mC4 L n a c y)) = some ((.normal, vsC ++ [ptrV 9 0, cl93 10], mC5 L n a c y), []) ∧
    evenX (pcR (hC0 ors) Tryz.prog kp (.region 19 (q45 19) false) 116 [1, 2, 3, 6, 7, 11, 67] (fullN 116 (up x (knC ++ [(11, ptrV 9 0)]))) (mC4 L n a c y)) := ⟨by kernel_rfl, by unfold evenX; kernel_rfl⟩
noncomputable def ne3 (c k : Int) (b : Bool) : Prop := binD Tryz.prog kp .neq 3 (.int .i64 c) (.int .i64 k) = some (.bool b)
/-- Rounds of the second loop: no jump; a jump. -/
theorem t_c6a (x : Nat → Value) (ors : Orc) (L X y : List Value) (n : Nat) (a c p cl op z : Int) (wide reg : Bool) : ansX (pcR (hC (Wv cl op z wide reg) X y true true true ors) Tryz.prog kp b45_6 116 [] (fullN 116 (up x (knC ++ [(11, ptrV 9 0), (12, .int .i64 p)]))) (mC5 L n a c y)) = some ((.normal, [], mC5w L n a c y (Wv cl op z wide reg)), [ixP p n, ldP L p X, ors 31 [.agg ⟨X⟩] (mC5 L n a c y) = some (outW (Wv cl op z wide reg), mC5 L n a c y), ne3 cl 6 true, ne3 cl 7 true]) ∧
    evenX (pcR (hC (Wv cl op z wide reg) X y true true true ors) Tryz.prog kp b45_6 116 [] (fullN 116 (up x (knC ++ [(11, ptrV 9 0), (12, .int .i64 p)]))) (mC5 L n a c y)) := ⟨by kernel_rfl, by unfold evenX; kernel_rfl⟩
theorem t_c28 (x : Nat → Value) (ors : Orc) (L y : List Value) (n : Nat) (a c : Int) : ansX (pcR (hC0 ors) Tryz.prog kp (.region 28 (q45 28) false) 116 [2, 3] (fullN 116 (up x knC)) (mC5 L n a c y)) = some ((.normal, [ptrV 3 0, ptrV 4 0], mC5 L n a c y), []) ∧ evenX (pcR (hC0 ors) Tryz.prog kp (.region 28 (q45 28) false) 116 [2, 3] (fullN 116 (up x knC)) (mC5 L n a c y)) := ⟨by kernel_rfl, by unfold evenX; kernel_rfl⟩
theorem t_ce (x : Nat → Value) (ors : Orc) (L y : List Value) (n : Nat) (a : Int) : ansX (pcR (hC [] [] [] true true false ors) Tryz.prog kp b45_e 116 [1, 2, 3, 6, 7] (fullN 116 (up x knC)) (mC5 L n a 9 y)) = some ((.normal, vsC, mC5 L n a 9 y), [ne3 9 7 true]) ∧ evenX (pcR (hC [] [] [] true true false ors) Tryz.prog kp b45_e 116 [1, 2, 3, 6, 7] (fullN 116 (up x knC)) (mC5 L n a 9 y)) := ⟨by kernel_rfl, by unfold evenX; kernel_rfl⟩
end
end Go.Proofs.YtipdeijgaabobaaGreatDoor
/-
  VCheck2: shape.Check: a round at a jump; what the rounds want.
-/
namespace Go.Proofs.YtipdeijgaabobaaGreatDoor
open Go Go.DI Go.DI.Kit Go.Proofs Go.Cmp Go.RowKit
noncomputable section
noncomputable def tgt (p o : Int) : Int := IntKind.wrap .i64 (Int.add (IntKind.wrap .i64 (Int.add p 1)) (IntKind.wrap .i64 o))
noncomputable def ls3 (t : Int) : Prop := binD Tryz.prog kp .lss 3 (.int .i64 t) (.int .i64 0) = some (.bool false)
noncomputable def ge3 (t : Int) (n : Nat) : Prop := binD Tryz.prog kp .geq 3 (.int .i64 t) (.int .i64 (Int.ofNat n)) = some (.bool false)
noncomputable def qB (y : List Value) (t : Int) : Prop := H.ldOk (.cells true y) (Nat.add 0 (Nat.mul t.toNat 1)) false 1 (.bool true)
noncomputable def insW (i1 i2 i3 o i5 : Int) : List Value := [.int .u8 i1, .int .u8 i2, .int .u8 i3, .int .i16 o, .int .i32 i5]
noncomputable def mC5x (L : List Value) (n : Nat) (a c : Int) (y w x : List Value) : Mem := mS gl [.cells false L, imgB n, cI 0, cI 0, cI a, cI c, .cells true [sliceN 1 n], .cells true y, .cells true [slS y.length], .cells true [sliceN 1 n], .cells true w, .cells true x]
theorem t_c6b (x : Nat → Value) (ors : Orc) (L y : List Value) (n : Nat) (a c p cl op z i1 i2 i3 o i5 : Int) (wide reg : Bool) : ansX (pcR (hC (Wv cl op z wide reg) (insW i1 i2 i3 o i5) y false true true ors) Tryz.prog kp b45_6 116 [] (fullN 116 (up x (knC ++ [(11, ptrV 9 0), (12, .int .i64 p)]))) (mC5 L n a c y)) = some ((.normal, [], mC5x L n a c y (Wv cl op z wide reg) (insW i1 i2 i3 o i5)), [ixP p n, ldP L p (insW i1 i2 i3 o i5), ors 31 [.agg ⟨insW i1 i2 i3 o i5⟩] (mC5 L n a c y) = some (outW (Wv cl op z wide reg), mC5 L n a c y), ne3 cl 6 false, ixP p n, ldP L p (insW i1 i2 i3 o i5), ls3 (tgt p o), ge3 (tgt p o) y.length, ixP (tgt p o) y.length, qB y (tgt p o)]) ∧
    evenX (pcR (hC (Wv cl op z wide reg) (insW i1 i2 i3 o i5) y false true true ors) Tryz.prog kp b45_6 116 [] (fullN 116 (up x (knC ++ [(11, ptrV 9 0), (12, .int .i64 p)]))) (mC5 L n a c y)) := ⟨by kernel_rfl, by unfold evenX; kernel_rfl⟩
theorem t_c6c (x : Nat → Value) (ors : Orc) (L y : List Value) (n : Nat) (a c p cl op z i1 i2 i3 o i5 : Int) (wide reg : Bool) : ansX (pcR (hC (Wv cl op z wide reg) (insW i1 i2 i3 o i5) y true false true ors) Tryz.prog kp b45_6 116 [] (fullN 116 (up x (knC ++ [(11, ptrV 9 0), (12, .int .i64 p)]))) (mC5 L n a c y)) = some ((.normal, [], mC5x L n a c y (Wv cl op z wide reg) (insW i1 i2 i3 o i5)), [ixP p n, ldP L p (insW i1 i2 i3 o i5), ors 31 [.agg ⟨insW i1 i2 i3 o i5⟩] (mC5 L n a c y) = some (outW (Wv cl op z wide reg), mC5 L n a c y), ne3 cl 6 true, ne3 cl 7 false, ixP p n, ldP L p (insW i1 i2 i3 o i5), ls3 (tgt p o), ge3 (tgt p o) y.length, ixP (tgt p o) y.length, qB y (tgt p o)]) ∧
    evenX (pcR (hC (Wv cl op z wide reg) (insW i1 i2 i3 o i5) y true false true ors) Tryz.prog kp b45_6 116 [] (fullN 116 (up x (knC ++ [(11, ptrV 9 0), (12, .int .i64 p)]))) (mC5 L n a c y)) := ⟨by kernel_rfl, by unfold evenX; kernel_rfl⟩
/-! ### the oracle for the checks of one code -/
open Classical in
noncomputable def oSt (l : List Ins) : Orc := fun f a M => if f = 29 ∧ a = [sliceN 1 l.length] ∧ (∃ own, M.get 1 = .cells own (codeC l)) ∧ Fits gl [1] [M.get 1] M then some (.slice (some ⟨M.size, 0, none⟩) l.length l.length, M.push (.cells true (boolsAt (startsL l) l.length))) else none
theorem oSt_off {l : List Ins} {f : FuncId} (h : f ≠ 29) (a : List Value) (M : Mem) : oSt l f a M = none := if_neg fun g => h g.1
theorem starts_big {B0 : Nat} {own : Bool} {l : List Ins} (hS : ShapeOk l) {M : Mem} (g1 : M.get 1 = .cells own (codeC l)) (hF : Fits gl [1] [M.get 1] M) :
    CallOK Tryz.prog B0 1 29 [sliceN 1 l.length] M (.slice (some ⟨M.size, 0, none⟩) l.length l.length) (M.push (.cells true (boolsAt (startsL l) l.length))) := by
  have hcp : ∀ o : Bool, okB (.cells o (codeC l)) ∧ ∀ nb, seenB nb (.cells o (codeC l)) := fun o => ⟨fun v hv => plain_ok (List.all_eq_true.1 (codeC_plain l) v hv), fun nb v hv => plain_seen (List.all_eq_true.1 (codeC_plain l) v hv)⟩
  have h1 : 1 < M.size := hF.lt 1 (by simp)
  have r0 : rhoE [1] M 0 = 0 := rfl
  have r1 : rhoE [1] M 1 = 1 := rfl
  have r2 : rhoE [1] M 2 = M.size := rfl
  have hA : ∀ i : Nat, Nat.blt i 2 = true → i = 0 ∨ i = 1 := fun i hi => by have : i < 2 := by simpa [Nat.blt_eq] using hi
                                                                            omega
  obtain ⟨ms, hms⟩ : ∃ ms, mS gl [.cells own (codeC l)] = ms := ⟨_, rfl⟩
  obtain ⟨ms', hms'⟩ : ∃ ms', mS gl [.cells own (codeC l), .cells true (boolsAt (startsL l) l.length)] = ms' := ⟨_, rfl⟩
  have s1 : ms.size = 2 := by rw [← hms, mS_size]; rfl
  have s2 : ms'.size = 3 := by rw [← hms', mS_size]; rfl
  have k0 : ms.get 0 = .cells false gl := by rw [← hms, mS_get, if_pos (by decide), mG_get]
  have k1 : ms.get 1 = .cells own (codeC l) := by rw [← hms, mS_get]; rfl
  have k0' : ms'.get 0 = .cells false gl := by rw [← hms', mS_get, if_pos (by decide), mG_get]
  have k1' : ms'.get 1 = .cells own (codeC l) := by rw [← hms', mS_get]; rfl
  have k2' : ms'.get 2 = .cells true (boolsAt (startsL l) l.length) := by rw [← hms', mS_get]; rfl
  have hsame : ∀ b, b < 2 → ms'.get b = ms.get b := fun b hb => by
    have : b = 0 ∨ b = 1 := by omega
    rcases this with rfl | rfl
    · rw [k0, k0']
    · rw [k1, k1']
  have hrun := starts_ok (B0 := B0) (own := own) hS
  rw [hms, hms'] at hrun
  refine embedG (ρ := rhoE [1] M) (A := fun i => Nat.blt i 2) 1 (fun g hg => ⟨hg, by obtain rfl : g = 0 := by omega
                                                                                     rfl, by obtain rfl : g = 0 := by omega
                                                                                             rfl⟩) hrun ⟨fun i hi => ?_, ⟨by omega, fun _ => by rw [← hms']; exact top_mS _, fun b hb hl => ?_, fun b hb ho => ?_⟩, by rw [← hms]; exact top_mS _, top_push hF.top, fun i hi => ?_, fun i j hi hj _ _ e => ?_, fun i q1 q2 => ?_, by show M.size + 1 = _; omega, fun i hi => ?_, fun i q1 q2 => ?_, fun b hb hne => ?_⟩ (.cons ?_ .nil) ?_
  · rcases hA i hi with rfl | rfl <;> omega
  · rw [hsame b (by omega)] at hl; exact hl
  · rw [hsame b (by omega)] at ho; exact ho
  · rcases hA i hi with rfl | rfl
    · rw [r0]; omega
    · rw [r1]; exact h1
  · rcases hA i hi with rfl | rfl <;> rcases hA j hj with rfl | rfl
    · rfl
    · rw [r0, r1] at e; omega
    · rw [r0, r1] at e; omega
    · rfl
  · obtain rfl : i = 2 := by omega
    rw [r2]; omega
  · rcases hA i hi with rfl | rfl
    · rw [k0, r0, hF.gl0]; exact bsim_free free_gl
    · rw [k1, r1]
      have h2 := bsim_ren (ρ := rhoE [1] M) (nb := 2) (hcp own).1 ((hcp own).2 2)
      have e : renB (rhoE [1] M) (.cells own (codeC l)) = M.get 1 := by
        rw [g1]
        show Blk.cells own _ = _
        rw [ren_plains (codeC_plain l)]
      rw [e] at h2
      exact h2
  · right
    have : i = 0 ∨ i = 1 ∨ i = 2 := by omega
    rcases this with rfl | rfl | rfl
    · rw [k0', r0, Mem.get_push_ne _ (by omega), hF.gl0]; exact bemb_free free_gl
    · rw [k1', r1, Mem.get_push_ne _ (by omega), g1]
      have h2 := bemb_ren (ρ := rhoE [1] M) (hcp own).1
      have e : renB (rhoE [1] M) (.cells own (codeC l)) = .cells own (codeC l) := by
        show Blk.cells own _ = _
        rw [ren_plains (codeC_plain l)]
      rw [e] at h2
      exact h2
    · rw [k2', r2, Mem.get_push_same]
      exact bemb_free fun v hv => by
        obtain ⟨i, _, rfl⟩ := List.mem_map.1 hv
        exact free_bool _
  · rw [Mem.get_push_ne _ (by omega)]
  · exact sim_slc (ρ := rhoE [1] M) (i := 1) rfl
  · show VEmb _ (.slice (some ⟨2, 0, none⟩) _ _) _
    have := emb_slc (ρ := rhoE [1] M) (i := 2) (o := 0) (n := l.length) (c := l.length)
    rw [r2] at this
    exact this
theorem oSt_grw {l : List Ins} : CfGrw (oSt l) := fun f a M v M' h => by
  unfold oSt at h
  split at h
  case isFalse => cases h
  rename_i hc
  simp only [Option.some.injEq, Prod.mk.injEq] at h
  obtain ⟨rfl, rfl⟩ := h
  have ht := hc.2.2.2.top
  refine ⟨by show M.size ≤ M.size + 1; omega, fun _ => top_push ht, fun b hb hl => ?_, fun b hb ho => ?_⟩
  · rw [Mem.get_push_ne _ (by omega)] at hl; exact hl
  · rw [Mem.get_push_ne _ (by omega)] at ho; exact ho
theorem oSt_ok {l : List Ins} (hS : ShapeOk l) (B0 : Nat) : CfOK Tryz.prog B0 1 (oSt l) := by
  refine ⟨fun f a M v M' h => (oSt_grw f a M v M' h).size, fun f a M v M' h => ?_, fun f a M v M' h => ?_⟩
  all_goals
    unfold oSt at h
    split at h
    case isFalse => cases h
    rename_i hc
    obtain ⟨rfl, rfl, ⟨own, g1⟩, hF⟩ := hc
    simp only [Option.some.injEq, Prod.mk.injEq] at h
    obtain ⟨rfl, rfl⟩ := h
  · exact starts_big hS g1 hF
  · exact hasB (by kernel_rfl)
noncomputable def oC (l : List Ins) : Orc := oAlt oSh (oSt l)
theorem oC_grw {l : List Ins} : CfGrw (oC l) := oAlt_grw oSh_grw oSt_grw
theorem oC_ok {l : List Ins} (hS : ShapeOk l) (B0 : Nat) : CfOK Tryz.prog B0 1 (oC l) := oAlt_ok (oSh_ok B0) (oSt_ok hS B0)
theorem oC_off {l : List Ins} {f : FuncId} (h1 : f ≠ 31) (h2 : f ≠ 32) (h3 : f ≠ 67) (h4 : f ≠ 29) (a : List Value) (M : Mem) : oC l f a M = none := by
  unfold oC
  rw [oAlt_r (oSh_off h1 h2 h3 a M), oSt_off h4]
theorem hC_on {l : List Ins} {w x y : List Value} {b6 b7 o8 : Bool} (f : FuncId) (v : Value) (args : List Value) (m : Mem) (hc : (hC w x y b6 b7 o8 (oC l)).call f = some v) (hs : (hC w x y b6 b7 o8 (oC l)).says f args m v) : oC l f args m = some (v, (hC w x y b6 b7 o8 (oC l)).eff f m) := hs
theorem hC_off {l : List Ins} {w x y : List Value} {b6 b7 o8 : Bool} (f : FuncId) (hc : (hC w x y b6 b7 o8 (oC l)).call f = none) (a : List Value) (m : Mem) : oC l f a m = none :=
  oC_off (by rintro rfl; cases hc) (by rintro rfl; cases hc) (by rintro rfl; cases hc) (by rintro rfl; cases hc) a m
end
end Go.Proofs.YtipdeijgaabobaaGreatDoor
/-
  VCheck3: shape.Check: what each place gives.
-/
namespace Go.Proofs.YtipdeijgaabobaaGreatDoor
open Go Go.DI Go.DI.Kit Go.Proofs Go.Cmp Go.RowKit
noncomputable section
def clsI (op : Int) : Int := if op = 149 then 9 else if op = 5 then 7 else if op = 24 then 10 else if op = 53 ∨ op = 21 ∨ op = 85 ∨ op = 165 ∨ op = 37 ∨ op = 173 ∨ op = 45 then 6 else if op = 113 ∨ op = 105 ∨ op = 97 ∨ op = 121 then 3 else if op = 215 then 2 else 1
def clsAt (l : List Ins) (p : Nat) : Int := match l[p]? with | some x => clsI x.op | none => 0
theorem clsAt_of {l : List Ins} {p : Nat} {x : Ins} (h : l[p]? = some x) : clsAt l p = clsI x.op := by unfold clsAt; rw [h]
theorem formI {x : Ins} (h : OkI x) : ∃ op z w r, Form x (Wv (clsI x.op) op z w r) ∧ clsI x.op ≠ 6 ∧ clsI x.op ≠ 7 := by
  cases h with
  | @movI d n hd => exact ⟨11, 0, true, false, by rw [show clsI (iNum 11 d n).op = 1 by rfl]; exact fm_movI hd, by rw [show clsI (iNum 11 d n).op = 1 by rfl]; decide, by rw [show clsI (iNum 11 d n).op = 1 by rfl]; decide⟩
  | @andI d n hd => exact ⟨5, 0, true, false, by rw [show clsI (iNum 5 d n).op = 1 by rfl]; exact fm_andI hd, by rw [show clsI (iNum 5 d n).op = 1 by rfl]; decide, by rw [show clsI (iNum 5 d n).op = 1 by rfl]; decide⟩
  | @movR d s hd hs => exact ⟨11, 0, true, true, by rw [show clsI (iRegs 11 d s).op = 1 by rfl]; exact fm_movR hd hs, by rw [show clsI (iRegs 11 d s).op = 1 by rfl]; decide, by rw [show clsI (iRegs 11 d s).op = 1 by rfl]; decide⟩
  | @andR d s hd hs => exact ⟨5, 0, true, true, by rw [show clsI (iRegs 5 d s).op = 1 by rfl]; exact fm_andR hd hs, by rw [show clsI (iRegs 5 d s).op = 1 by rfl]; decide, by rw [show clsI (iRegs 5 d s).op = 1 by rfl]; decide⟩
  | @low n => exact ⟨11, 0, false, false, by rw [show clsI (iLow n).op = 1 by rfl]; exact fm_low, by rw [show clsI (iLow n).op = 1 by rfl]; decide, by rw [show clsI (iLow n).op = 1 by rfl]; decide⟩
  | exit => exact ⟨0, 0, false, false, by rw [show clsI iExit.op = 9 by rfl]; exact fm_exit, by rw [show clsI iExit.op = 9 by rfl]; decide, by rw [show clsI iExit.op = 9 by rfl]; decide⟩
  | @load z d s o hz hd hs =>
    rcases hz with rfl | rfl | rfl | rfl
    · exact ⟨0, 1, false, false, by rw [show clsI (iLoad 1 d s o).op = 3 by rfl]; exact fm_load1 hd hs, by rw [show clsI (iLoad 1 d s o).op = 3 by rfl]; decide, by rw [show clsI (iLoad 1 d s o).op = 3 by rfl]; decide⟩
    · exact ⟨0, 2, false, false, by rw [show clsI (iLoad 2 d s o).op = 3 by rfl]; exact fm_load2 hd hs, by rw [show clsI (iLoad 2 d s o).op = 3 by rfl]; decide, by rw [show clsI (iLoad 2 d s o).op = 3 by rfl]; decide⟩
    · exact ⟨0, 4, false, false, by rw [show clsI (iLoad 4 d s o).op = 3 by rfl]; exact fm_load4 hd hs, by rw [show clsI (iLoad 4 d s o).op = 3 by rfl]; decide, by rw [show clsI (iLoad 4 d s o).op = 3 by rfl]; decide⟩
    · exact ⟨0, 8, false, false, by rw [show clsI (iLoad 8 d s o).op = 3 by rfl]; exact fm_load8 hd hs, by rw [show clsI (iLoad 8 d s o).op = 3 by rfl]; decide, by rw [show clsI (iLoad 8 d s o).op = 3 by rfl]; decide⟩
  | @swap z hz hz1 =>
    rcases hz with rfl | rfl | rfl | rfl
    · omega
    · exact ⟨0, 2, false, false, by rw [show clsI (iSwap 2).op = 2 by rfl]; exact fm_swap2, by rw [show clsI (iSwap 2).op = 2 by rfl]; decide, by rw [show clsI (iSwap 2).op = 2 by rfl]; decide⟩
    · exact ⟨0, 4, false, false, by rw [show clsI (iSwap 4).op = 2 by rfl]; exact fm_swap4, by rw [show clsI (iSwap 4).op = 2 by rfl]; decide, by rw [show clsI (iSwap 4).op = 2 by rfl]; decide⟩
    · exact ⟨0, 8, false, false, by rw [show clsI (iSwap 8).op = 2 by rfl]; exact fm_swap8, by rw [show clsI (iSwap 8).op = 2 by rfl]; decide, by rw [show clsI (iSwap 8).op = 2 by rfl]; decide⟩
theorem formJ {x : Ins} {o : Int} (h : OkJ x) : ∃ op z w r, Form (offS x o) (Wv (clsI (offS x o).op) op z w r) ∧ (clsI (offS x o).op = 6 ∨ clsI (offS x o).op = 7) := by
  cases h with
  | @jif op d n ho hd =>
    rcases ho with rfl | rfl | rfl | rfl | rfl
    · exact ⟨3, 0, true, false, by rw [show clsI (offS (iIf 3 d n) o).op = 6 by rfl]; exact fm_jif3 hd, .inl rfl⟩
    · exact ⟨5, 0, true, false, by rw [show clsI (offS (iIf 5 d n) o).op = 6 by rfl]; exact fm_jif5 hd, .inl rfl⟩
    · exact ⟨10, 0, true, false, by rw [show clsI (offS (iIf 10 d n) o).op = 6 by rfl]; exact fm_jif10 hd, .inl rfl⟩
    · exact ⟨2, 0, true, false, by rw [show clsI (offS (iIf 2 d n) o).op = 6 by rfl]; exact fm_jif2 hd, .inl rfl⟩
    · exact ⟨1, 0, true, false, by rw [show clsI (offS (iIf 1 d n) o).op = 6 by rfl]; exact fm_jif1 hd, .inl rfl⟩
  | @jifR op ho =>
    rcases ho with rfl | rfl
    · exact ⟨10, 0, true, true, by rw [show clsI (offS (iIfR 10) o).op = 6 by rfl]; exact fm_jifR10, .inl rfl⟩
    · exact ⟨2, 0, true, true, by rw [show clsI (offS (iIfR 2) o).op = 6 by rfl]; exact fm_jifR2, .inl rfl⟩
  | goto => exact ⟨0, 0, false, false, by rw [show clsI (offS iGoto o).op = 7 by rfl]; exact fm_goto, .inr rfl⟩
theorem starts_next {l : List Ins} {p z : Nat} : ∀ (k q : Nat) (init : List Nat), startsGo l k q = init ++ [z] → p ∈ startsGo l k q → p = z ∨ ∃ x, l[p]? = some x ∧ p + plI x ∈ startsGo l k q
  | 0, q, init, h, hp => by simp [startsGo] at hp
  | k + 1, q, init, h, hp => by
    simp only [startsGo] at h hp ⊢
    cases hx : l[q]? with
    | none => rw [hx] at hp; simp at hp
    | some x =>
      rw [hx] at h hp
      simp only at h hp ⊢
      cases hr : startsGo l k (q + plI x) with
      | nil =>
        rw [hr] at h hp
        have : p = q := by simpa using hp
        left
        cases init with
        | nil => simp at h; omega
        | cons a b => simp at h
      | cons y rest =>
        have hy : y = q + plI x := by
          cases k with
          | zero => simp [startsGo] at hr
          | succ k =>
            simp only [startsGo] at hr
            cases hx2 : l[q + plI x]? with
            | none => rw [hx2] at hr; simp at hr
            | some x2 => rw [hx2] at hr; simp at hr; exact hr.1.symm
        rcases List.mem_cons.1 hp with e | hp'
        · subst e
          exact .inr ⟨x, hx, by rw [hy]; simp⟩
        · cases init with
          | nil => rw [hr] at h; simp at h
          | cons a b =>
            have h2 : startsGo l k (q + plI x) = b ++ [z] := by
              simp only [List.cons_append, List.cons.injEq] at h
              exact h.2
            rcases starts_next k (q + plI x) b h2 hp' with g | ⟨x', g1, g2⟩
            · exact .inl g
            · exact .inr ⟨x', g1, by rw [← hr]; exact List.mem_cons_of_mem _ g2⟩
theorem last_room {l : List Ins} (hS : ShapeOk l) {p : Nat} {n : Int} (h : l[p]? = some (iConst n)) (hp : p ∈ startsL l) : p + 2 < l.length := by
  obtain ⟨init, z, h1, h2⟩ := hS.last
  rcases starts_next l.length 0 init h1 hp with rfl | ⟨x, hx, hm⟩
  · rw [h2] at h
    simp [iExit, iConst] at h
  · rw [h] at hx
    cases hx
    exact starts_lt hm
/-- The first loop's rounds. -/
theorem round1 {l : List Ins} (hS : ShapeOk l) {p : Nat} (hp : p ∈ startsL l) : ∃ op z w r, AlRun false (codeC l) l.length (p : Int) (Wv (clsAt l p) op z w r) := by
  rcases hS.found p hp with ⟨y, hy, h1⟩ | ⟨y, o, q, hq, hy, h1, _, _, _⟩ | ⟨n, h1, h2⟩
  · obtain ⟨op, z, w, r, hf, _, _⟩ := formI hy
    exact ⟨op, z, w, r, by rw [clsAt_of h1]; exact hf.al false l p h1⟩
  · obtain ⟨op, z, w, r, hf, _⟩ := formJ (o := o) hy
    exact ⟨op, z, w, r, by rw [clsAt_of h1]; exact hf.al false l p h1⟩
  · refine ⟨0, 0, false, false, ?_⟩
    rw [clsAt_of h1, show clsI (iConst n).op = 10 by rfl]
    have := hS.most
    exact fm_const.2.2 false l p h1 h2 (last_room hS h1 hp) (by omega)
end
end Go.Proofs.YtipdeijgaabobaaGreatDoor
/-
  VCheck4: shape.Check finds nothing wrong in the code of a table.
-/
namespace Go.Proofs.YtipdeijgaabobaaGreatDoor
open Go Go.DI Go.DI.Kit Go.Proofs Go.Cmp Go.RowKit
noncomputable section
theorem gl_ok : okB (.cells false gl) ∧ ∀ nb, seenB nb (.cells false gl) := by
  constructor
  · intro v hv
    simp only [gl, List.mem_cons, List.not_mem_nil, or_false] at hv
    rcases hv with rfl | rfl | rfl | rfl <;> rfl
  · intro nb v hv
    simp only [gl, List.mem_cons, List.not_mem_nil, or_false] at hv
    rcases hv with rfl | rfl | rfl | rfl <;> rfl
theorem cut_pre {B0 : Nat} {w0 W : World} {ι ι' : Ren} {ss ex : List Blk} (hs : Go.DI.St B0 w0 ι' (mS gl (ss ++ ex)) W) (hok : ∀ s ∈ ss, okB s ∧ seenB (1 + ss.length) s) (he : ∀ b, b < 1 + ss.length → ι' b = ι b) (hf : ∀ b, 1 + ss.length ≤ b → ι b = none) : Go.DI.St B0 w0 ι (mS gl ss) W := by
  have h := hs.cut (z := 1 + ss.length) (by rw [mS_size, List.length_append]; omega) (by omega) (mz := mS gl ss) (mS_size ss) (top_mS ss) (fun b hb => ?_) (fun b hb => ?_)
  · rw [sub_back hf he] at h; exact h
  · rw [mS_get, mS_get]
    by_cases h0 : b < 1
    · rw [if_pos h0, if_pos h0]
    · rw [if_neg h0, if_neg h0, List.getElem?_append_left (by omega)]
  · rw [mS_get]
    by_cases h0 : b < 1
    · obtain rfl : b = 0 := by omega
      rw [if_pos h0, mG_get]
      exact ⟨gl_ok.1, gl_ok.2 _⟩
    · rw [if_neg h0]
      have hb' : b - 1 < ss.length := by omega
      rw [List.getElem?_append_left hb', List.getElem?_eq_getElem hb']
      exact hok _ (List.getElem_mem hb')
theorem plain_blk {c : List Value} (o : Bool) (h : c.all plainV = true) (nb : Nat) : okB (.cells o c) ∧ seenB nb (.cells o c) := ⟨fun v hv => plain_ok (List.all_eq_true.1 h v hv), fun v hv => plain_seen (List.all_eq_true.1 h v hv)⟩
theorem slc_blk {v : Value} {nb : Nat} (h1 : okV v = true) (h2 : Go.DI.Kit.seenV nb v = true) : okB (.cells true [v]) ∧ seenB nb (.cells true [v]) := ⟨fun u hu => by obtain rfl := List.mem_singleton.1 hu; exact h1, fun u hu => by obtain rfl := List.mem_singleton.1 hu; exact h2⟩
theorem img_blk (n nb : Nat) (h : 2 ≤ nb) : okB (imgB n) ∧ seenB nb (imgB n) := by
  constructor
  · intro u hu
    have hu : u ∈ [Value.slice none 0 0, sliceN 1 n] := hu
    simp only [List.mem_cons, List.not_mem_nil, or_false] at hu
    rcases hu with rfl | rfl <;> rfl
  · intro u hu
    have hu : u ∈ [Value.slice none 0 0, sliceN 1 n] := hu
    simp only [List.mem_cons, List.not_mem_nil, or_false] at hu
    rcases hu with rfl | rfl
    · rfl
    · show Nat.blt 1 nb = true
      simp [Nat.blt_eq]; omega
/-- The boxes before the first loop, and before the second. -/
def ss3 (l : List Ins) (a c : Int) : List Blk := [.cells false (codeC l), imgB l.length, cI 0, cI 0, cI a, cI c, .cells true [sliceN 1 l.length]]
def ss5 (l : List Ins) (a c : Int) : List Blk := [.cells false (codeC l), imgB l.length, cI 0, cI 0, cI a, cI c, .cells true [sliceN 1 l.length], .cells true (boolsAt (startsL l) l.length), .cells true [slS (boolsAt (startsL l) l.length).length], .cells true [sliceN 1 l.length]]
theorem ss3_ok (l : List Ins) (a c : Int) : ∀ s ∈ ss3 l a c, okB s ∧ seenB (1 + (ss3 l a c).length) s := by
  intro s hs
  simp only [ss3, List.mem_cons, List.not_mem_nil, or_false] at hs
  rcases hs with rfl | rfl | rfl | rfl | rfl | rfl | rfl
  · exact plain_blk _ (codeC_plain l) _
  · exact img_blk _ _ (by show 2 ≤ 8; decide)
  · exact plain_blk _ rfl _
  · exact plain_blk _ rfl _
  · exact plain_blk _ rfl _
  · exact plain_blk _ rfl _
  · exact slc_blk rfl rfl
theorem ss5_ok (l : List Ins) (a c : Int) : ∀ s ∈ ss5 l a c, okB s ∧ seenB (1 + (ss5 l a c).length) s := by
  intro s hs
  simp only [ss5, List.mem_cons, List.not_mem_nil, or_false] at hs
  rcases hs with rfl | rfl | rfl | rfl | rfl | rfl | rfl | rfl | rfl | rfl
  · exact plain_blk _ (codeC_plain l) _
  · exact img_blk _ _ (by show 2 ≤ 11; decide)
  · exact plain_blk _ rfl _
  · exact plain_blk _ rfl _
  · exact plain_blk _ rfl _
  · exact plain_blk _ rfl _
  · exact slc_blk rfl rfl
  · exact bools_ok _ _ _
  · exact slc_blk rfl rfl
  · exact slc_blk rfl rfl
theorem ss3_cells (l : List Ins) (a c : Int) : ∀ s ∈ ss3 l a c, ∃ o c, s = .cells o c := by
  intro s hs
  simp only [ss3, List.mem_cons, List.not_mem_nil, or_false] at hs
  rcases hs with rfl | rfl | rfl | rfl | rfl | rfl | rfl <;> exact ⟨_, _, rfl⟩
theorem ss5_cells (l : List Ins) (a c : Int) : ∀ s ∈ ss5 l a c, ∃ o c, s = .cells o c := by
  intro s hs
  simp only [ss5, List.mem_cons, List.not_mem_nil, or_false] at hs
  rcases hs with rfl | rfl | rfl | rfl | rfl | rfl | rfl | rfl | rfl | rfl <;> exact ⟨_, _, rfl⟩
def lastA {l : List Ins} (pre : List (Pl l)) : Int := match pre.getLast? with | some x => (x.1 : Int) | none => 0
def lastC {l : List Ins} (pre : List (Pl l)) : Int := match pre.getLast? with | some x => clsAt l x.1 | none => 0
theorem lastA_snoc {l : List Ins} (pre : List (Pl l)) (x : Pl l) : lastA (pre ++ [x]) = (x.1 : Int) := by unfold lastA; rw [List.getLast?_append]; rfl
theorem lastC_snoc {l : List Ins} (pre : List (Pl l)) (x : Pl l) : lastC (pre ++ [x]) = clsAt l x.1 := by unfold lastC; rw [List.getLast?_append]; rfl
theorem eq0_of {n : Nat} (h : 0 < n) : eq0 n := by unfold eq0; simp [binD, binInt, shiftB]; omega
theorem gt3_of {a b : Int} (h : a ≤ b) : gt3 a b := by unfold gt3; simp [binD, binInt, shiftB]; omega
theorem ne3_t {a b : Int} (h : a ≠ b) : ne3 a b true := by unfold ne3; simp [binD, binInt, shiftB]; omega
theorem ne3_f {a b : Int} (h : a = b) : ne3 a b false := by unfold ne3; simp [binD, binInt, shiftB]; omega
theorem Wv_plain (c op z : Int) (w r : Bool) : (Wv c op z w r).all plain0 = true := rfl
theorem oC_al {l : List Ins} {own : Bool} {M : Mem} {p : Int} {w : List Value} (ht : M.top) (h0 : M.get 0 = .cells false gl) (h1 : 1 < M.size) (gc : M.get 1 = .cells own (codeC l)) (h : AlRun own (codeC l) l.length p w) (hw : w.all plain0 = true) : oC l 67 [imgV (sliceN 1 l.length), .int .i64 p] M = some (outW w, M) :=
  oAlt_l (oSh_al ht h0 (by omega) h1 (by decide) gc h hw)
theorem oC_of {l : List Ins} {M : Mem} {x : Ins} {w : List Value} (ht : M.top) (h0 : M.get 0 = .cells false gl) (h1 : 1 ≤ M.size) (h : OfRun x w) (hw : w.all plain0 = true) : oC l 31 [.agg ⟨insC x⟩] M = some (outW w, M) :=
  oAlt_l (oSh_of ht h0 h1 h hw)
theorem oC_st {l : List Ins} {own : Bool} {M : Mem} (ht : M.top) (h0 : M.get 0 = .cells false gl) (h1 : 1 < M.size) (gc : M.get 1 = .cells own (codeC l)) : oC l 29 [sliceN 1 l.length] M = some (.slice (some ⟨M.size, 0, none⟩) l.length l.length, M.push (.cells true (boolsAt (startsL l) l.length))) := by
  unfold oC
  rw [oAlt_r (oSh_off (by decide) (by decide) (by decide) _ _)]
  exact if_pos ⟨rfl, rfl, ⟨own, gc⟩, fits1 ht h0 (by omega) h1 (by decide) gc⟩
end
end Go.Proofs.YtipdeijgaabobaaGreatDoor
/-
  VCheck5: shape.Check, whole.
-/
namespace Go.Proofs.YtipdeijgaabobaaGreatDoor
open Go Go.DI Go.DI.Kit Go.Proofs Go.Cmp Go.RowKit
noncomputable section
def aC1 : Oper := { dst := some 8, op := .assign (.tmp 48), type := 3, pos := "shape.go:94", after := #[], guard := none }
def aC2 : Oper := { dst := some 12, op := .assign (.tmp 68), type := 3, pos := "shape.go:102", after := #[], guard := none }
theorem aC1_eq : q45 13 = #[aC1] := by kernel_rfl
theorem aC2_eq : q45 20 = #[aC2] := by kernel_rfl
theorem mC3_at (l : List Ins) (a c : Int) : (mC3 (codeC l) l.length a c).get 0 = .cells false gl ∧ (mC3 (codeC l) l.length a c).get 1 = .cells false (codeC l) ∧ (mC3 (codeC l) l.length a c).get 7 = .cells true [sliceN 1 l.length] ∧ (mC3 (codeC l) l.length a c).size = 8 := ⟨by kernel_rfl, by kernel_rfl, by kernel_rfl, by kernel_rfl⟩
theorem mC5_at (l : List Ins) (a c : Int) (y : List Value) : (mC5 (codeC l) l.length a c y).get 0 = .cells false gl ∧ (mC5 (codeC l) l.length a c y).get 1 = .cells false (codeC l) ∧ (mC5 (codeC l) l.length a c y).get 10 = .cells true [sliceN 1 l.length] ∧ (mC5 (codeC l) l.length a c y).size = 11 := ⟨by kernel_rfl, by kernel_rfl, by kernel_rfl, by kernel_rfl⟩
section
variable {B0 : Nat} {w0 W : World} {ι : Ren} {l : List Ins} {x1 : Nat → Value} {a1 : Act}
/-- A round of the first loop. -/
theorem rnd1 (hS : ShapeOk l) (x : Pl l) {k d : Nat} {a c : Int} (hs : Go.DI.St B0 w0 ι (mC3 (codeC l) l.length a c) W) (ht : TRel ι 116 (fullN 116 (up x1 (knC ++ [(8, .int .i64 (x.1 : Int))]))) a1) {Q : Exit → Act → World → Prop} (hx : ¬ LetsOut Q)
    (hQ : ∀ a' W', Keeps W W' → Go.DI.St B0 w0 ι (mC3 (codeC l) l.length (x.1 : Int) (clsAt l x.1)) W' → Q .normal a' W') : b45_4.wpIn (FR k) d Tryz.prog Q a1 W := by
  obtain ⟨g0, g1, _, gz⟩ := mC3_at l a c
  obtain ⟨op, z, w, r, hal⟩ := round1 hS x.2
  have hrun := t_c4 x1 (oC l) (codeC l) l.length a c (x.1 : Int) (clsAt l x.1) op z w r
  refine st_pieceIn hmix hK hng (oC_ok hS B0) oC_grw hC_on hC_off (by kernel_rfl) hrun.1 hrun.2 (cons_p (oC_al (top_mS _) g0 (by rw [gz]; decide) g1 hal (Wv_plain ..)) nil_p) hs (mS_only (ss3_cells l a c)) ht hx fun ι5 a5 W5 t5 hs5 ht5 hv5 hd5 hk5 hkp5 => ?_
  exact hQ a5 W5 hkp5 (cut_pre (ss := ss3 l (x.1 : Int) (clsAt l x.1)) (ex := [.cells true (Wv (clsAt l x.1) op z w r)]) hs5 (ss3_ok l _ _) (fun b hb => hk5 b (by rw [gz]; exact hb)) (fun b hb => hs.fresh b (by rw [gz]; exact hb)))
/-- A round of the second loop. -/
theorem rnd2 (hS : ShapeOk l) (x : Pl l) {k d : Nat} {a c : Int} (hs : Go.DI.St B0 w0 ι (mC5 (codeC l) l.length a c (boolsAt (startsL l) l.length)) W) (ht : TRel ι 116 (fullN 116 (up x1 (knC ++ [(11, ptrV 9 0), (12, .int .i64 (x.1 : Int))]))) a1) {Q : Exit → Act → World → Prop} (hx : ¬ LetsOut Q)
    (hQ : ∀ a' W', Keeps W W' → Go.DI.St B0 w0 ι (mC5 (codeC l) l.length a c (boolsAt (startsL l) l.length)) W' → Q .normal a' W') : b45_6.wpIn (FR k) d Tryz.prog Q a1 W := by
  obtain ⟨g0, g1, _, gz⟩ := mC5_at l a c (boolsAt (startsL l) l.length)
  have hm := hS.most
  have hfin : ∀ (ex : List Blk) (ι5 : Ren) (a5 : Act) (W5 : World), Go.DI.St B0 w0 ι5 (mS gl (ss5 l a c ++ ex)) W5 → (∀ b, b < (mC5 (codeC l) l.length a c (boolsAt (startsL l) l.length)).size → ι5 b = ι b) → Keeps W W5 → Q .normal a5 W5 := fun ex ι5 a5 W5 hs5 hk5 hkp5 =>
    hQ a5 W5 hkp5 (cut_pre (ss := ss5 l a c) (ex := ex) hs5 (ss5_ok l _ _) (fun b hb => hk5 b (by rw [gz]; exact hb)) (fun b hb => hs.fresh b (by rw [gz]; exact hb)))
  have nojump : ∀ (y : Ins) (cl op z : Int) (w r : Bool), l[x.1]? = some y → OfRun y (Wv cl op z w r) → cl ≠ 6 → cl ≠ 7 → b45_6.wpIn (FR k) d Tryz.prog Q a1 W := fun y cl op z w r h1 hof n6 n7 => by
    have hrun := t_c6a x1 (oC l) (codeC l) (insC y) (boolsAt (startsL l) l.length) l.length a c (x.1 : Int) cl op z w r
    exact st_pieceIn hmix hK hng (oC_ok hS B0) oC_grw hC_on hC_off (by kernel_rfl) hrun.1 hrun.2 (cons_p (ixP_of h1) (cons_p (ldP_of h1) (cons_p (oC_of (top_mS _) g0 (by rw [gz]; decide) hof (Wv_plain ..)) (cons_p (ne3_t n6) (cons_p (ne3_t n7) nil_p))))) hs (mS_only (ss5_cells l a c)) ht hx fun ι5 a5 W5 t5 hs5 ht5 hv5 hd5 hk5 hkp5 => hfin [.cells true (Wv cl op z w r)] ι5 a5 W5 hs5 hk5 hkp5
  rcases hS.found x.1 x.2 with ⟨y, hy, h1⟩ | ⟨y, o, q, hq, hy, h1, ho1, ho2, hqe⟩ | ⟨n, h1, h2⟩
  · obtain ⟨op, z, w, r, hf, n6, n7⟩ := formI hy
    exact nojump y _ op z w r h1 hf.of n6 n7
  · obtain ⟨op, z, w, r, hf, h67⟩ := formJ (o := o) hy
    have hql : q < l.length := starts_lt hq
    have hpl : x.1 < l.length := starts_lt x.2
    have ht0 : tgt (x.1 : Int) o = (q : Int) := by
      unfold tgt
      have e1 : IntKind.wrap .i64 (Int.add (x.1 : Int) 1) = ((x.1 + 1 : Nat) : Int) := up_nat (by omega)
      have e2 : IntKind.wrap .i64 o = o := wrap_i64 ⟨by omega, by omega⟩
      rw [e1, e2]
      have e3 : Int.add ((x.1 + 1 : Nat) : Int) o = (q : Int) := by
        show ((x.1 + 1 : Nat) : Int) + o = q
        omega
      rw [e3]
      exact wrap_i64 ⟨by omega, by omega⟩
    have hy' : insC (offS y o) = insW (offS y o).op (offS y o).dst (offS y o).src o (offS y o).imm := rfl
    have hixp := ixP_of h1
    have hldp := ldP_of h1
    have hofr : OfRun (offS y o) (Wv (clsI (offS y o).op) op z w r) := hf.of
    have hcall := oC_of (l := l) (M := mC5 (codeC l) l.length a c (boolsAt (startsL l) l.length)) (top_mS _) g0 (by rw [gz]; decide) hofr (Wv_plain ..)
    rw [hy'] at hldp hcall
    have hlen : (boolsAt (startsL l) l.length).length = l.length := boolsAt_len _ _
    have tail : ∀ q' ∈ [ixP (x.1 : Int) l.length, ldP (codeC l) (x.1 : Int) (insW (offS y o).op (offS y o).dst (offS y o).src o (offS y o).imm), ls3 (tgt (x.1 : Int) o), ge3 (tgt (x.1 : Int) o) (boolsAt (startsL l) l.length).length, ixP (tgt (x.1 : Int) o) (boolsAt (startsL l) l.length).length, qB (boolsAt (startsL l) l.length) (tgt (x.1 : Int) o)], q' := by
      refine cons_p hixp (cons_p hldp (cons_p ?_ (cons_p ?_ (cons_p ?_ (cons_p ?_ nil_p)))))
      · rw [ht0]; unfold ls3; simp [binD, binInt, shiftB] <;> omega
      · rw [ht0, hlen]; unfold ge3; simp [binD, binInt, shiftB] <;> omega
      · rw [ht0, hlen]; exact ⟨by omega, by omega⟩
      · rw [ht0]
        show H.blkNth (.cells true (boolsAt (startsL l) l.length)) (Nat.add 0 (Nat.mul (q : Int).toNat 1)) = some (.bool true)
        have e : Nat.add 0 (Nat.mul (q : Int).toNat 1) = q := by
          show 0 + (q : Int).toNat * 1 = q
          simp
        rw [e]
        show (boolsAt (startsL l) l.length)[q]? = _
        rw [boolsAt_get, if_pos hql]
        simp [hq]
    rcases h67 with h6 | h7
    · have hrun := t_c6b x1 (oC l) (codeC l) (boolsAt (startsL l) l.length) l.length a c (x.1 : Int) (clsI (offS y o).op) op z (offS y o).op (offS y o).dst (offS y o).src o (offS y o).imm w r
      exact st_pieceIn hmix hK hng (oC_ok hS B0) oC_grw hC_on hC_off (by kernel_rfl) hrun.1 hrun.2 (cons_p hixp (cons_p hldp (cons_p hcall (cons_p (ne3_f h6) tail)))) hs (mS_only (ss5_cells l a c)) ht hx fun ι5 a5 W5 t5 hs5 ht5 hv5 hd5 hk5 hkp5 => hfin [.cells true (Wv (clsI (offS y o).op) op z w r), .cells true (insW (offS y o).op (offS y o).dst (offS y o).src o (offS y o).imm)] ι5 a5 W5 hs5 hk5 hkp5
    · have hrun := t_c6c x1 (oC l) (codeC l) (boolsAt (startsL l) l.length) l.length a c (x.1 : Int) (clsI (offS y o).op) op z (offS y o).op (offS y o).dst (offS y o).src o (offS y o).imm w r
      exact st_pieceIn hmix hK hng (oC_ok hS B0) oC_grw hC_on hC_off (by kernel_rfl) hrun.1 hrun.2 (cons_p hixp (cons_p hldp (cons_p hcall (cons_p (ne3_t (by rw [h7]; decide)) (cons_p (ne3_f h7) tail))))) hs (mS_only (ss5_cells l a c)) ht hx fun ι5 a5 W5 t5 hs5 ht5 hv5 hd5 hk5 hkp5 => hfin [.cells true (Wv (clsI (offS y o).op) op z w r), .cells true (insW (offS y o).op (offS y o).dst (offS y o).src o (offS y o).imm)] ι5 a5 W5 hs5 hk5 hkp5
  · exact nojump _ 10 0 0 false false h1 fm_const.1 (by decide) (by decide)
end
end
end Go.Proofs.YtipdeijgaabobaaGreatDoor
/-
  VCheck6: shape.Check: from start to end; and on any memory.
-/
namespace Go.Proofs.YtipdeijgaabobaaGreatDoor
open Go Go.DI Go.DI.Kit Go.Proofs Go.Cmp Go.RowKit
noncomputable section
theorem all_cells {ss : List Blk} (h : ss.all (fun b => match b with | .cells _ _ => true | _ => false) = true) : ∀ s ∈ ss, ∃ o c, s = Blk.cells o c := by
  intro s hs
  have := List.all_eq_true.1 h s hs
  cases s <;> simp at this
  exact ⟨_, _, rfl⟩
theorem check_ok {B0 : Nat} {own : Bool} {l : List Ins} (hS : ShapeOk l) : CallOK Tryz.prog B0 1 28 [imgV (sliceN 1 l.length)] (mS gl [.cells own (codeC l)]) (.tuple ⟨[.int .i64 0, .int .i64 0]⟩) (mS gl [.cells own (codeC l)]) := by
  intro ι w args' hr hf hargs
  have hm := hS.most
  have hpos : 0 < l.length := List.length_pos_iff.2 hS.pos
  obtain ⟨ι0, hι0⟩ : ∃ ι0, (ι.sub id fun i => Nat.blt i (1 + [Blk.cells false (codeC l)].length)) = ι0 := ⟨_, rfl⟩
  have hno : ∀ b, 2 ≤ b → ι0 b = none := fun b hb => by
    rw [← hι0]
    show (if Nat.blt b 2 = true then ι b else none) = none
    rw [if_neg (by simp [Nat.blt_eq]; omega)]
  have hr0 : Rel B0 1 ι0 (mC0 (codeC l)) w := by
    rw [← hι0]
    exact rel_cut (rel_weak hr) (fun s hs => by obtain rfl := List.mem_singleton.1 hs; exact plain_blk _ (codeC_plain l) _)
  have hs0 : Go.DI.St B0 w ι0 (mC0 (codeC l)) w := ⟨hr0, fun b hb => hno b hb, Below.refl _ _, fun b L hL ho => by
    exfalso
    unfold mC0 at ho
    rw [mS_get] at ho
    split at ho
    · rename_i h0
      obtain rfl : b = 0 := by omega
      rw [mG_get] at ho; cases ho
    · rcases hj : b - 1 with _ | j
      · rw [hj] at ho; cases ho
      · rw [hj] at ho
        have ho : ((mG gl).get b).own = true := ho
        rw [mG_top gl b (by rw [mG_size]; omega)] at ho; cases ho⟩
  have hargs0 : VRels ι0 [imgV (sliceN 1 l.length)] args' := by
    cases hargs with
    | cons h t =>
      cases t
      refine .cons ?_ .nil
      have h1 : VSim id (fun i => Nat.blt i 2) (imgV (sliceN 1 l.length)) (imgV (sliceN 1 l.length)) := sim_agg (.cons ((free_slc0 _ _).sim _ _) (.cons (sim_slc (ρ := id) (i := 1) rfl) .nil))
      rw [← hι0]
      exact h1 ι _ h
  have hst := start_rel (nt := 116) hargs0
  have e0 : fullN 116 (argX [imgV (sliceN 1 l.length)]) = fullN 116 (up (argX [imgV (sliceN 1 l.length)]) [(0, imgV (sliceN 1 l.length))]) := by rw [up_self _ _ (by intro q hq; obtain rfl := List.mem_singleton.1 hq; rfl)]
  have hst : TRel ι0 116 (fullN 116 (up (argX [imgV (sliceN 1 l.length)]) [(0, imgV (sliceN 1 l.length))])) { tmps := args'.toArray ++ Array.replicate (Tryz.f28.ntmps - args'.toArray.size) undef, defers := [] } := by
    rw [← e0]; exact hst
  refine (callsIn_wide (n := 1)).1 (callsIn_of_wp_marks at45 bd45 trivial ?_ rfl)
  rw [c45_eq]
  refine wpIn_seq (st_piece hmix hK hng (oC_ok hS B0) oC_grw hC_on hC_off (t_c0 _ (oC l) (codeC l) l.length).1 (t_c0 _ (oC l) (codeC l) l.length).2 nil_p hs0 (mS_only (all_cells rfl)) hst fun ι1 a1 W1 t1 hs1 ht1 hv1 hd1 _ hkp1 => ?_)
  simp only [Ex.to, Exit.then]
  obtain ⟨x1, hx1⟩ := ht1.full _ (at_of hv1)
  refine wpIn_seq (st_piece hmix hK hng (oC_ok hS B0) oC_grw hC_on hC_off (t_cb0 x1 (oC l) (codeC l) l.length).1 (t_cb0 x1 (oC l) (codeC l) l.length).2 (cons_p (eq0_of hpos) (cons_p (gt3_of (by show (l.length : Int) ≤ 512; omega)) (cons_p (gt3_of (by decide)) nil_p))) hs1 (mS_only (all_cells rfl)) hx1 fun ι2 a2 W2 t2 hs2 ht2 hv2 hd2 _ hkp2 => ?_)
  simp only [Ex.to, Exit.then]
  obtain ⟨x2, hx2⟩ := ht2.full _ (at_of hv2)
  refine wpIn_seq (st_piece hmix hK hng (oC_ok hS B0) oC_grw hC_on hC_off (t_cb1 x2 (oC l) (codeC l) l.length).1 (t_cb1 x2 (oC l) (codeC l) l.length).2 nil_p hs2 (mS_only (all_cells rfl)) hx2 fun ι3 a3 W3 t3 hs3 ht3 hv3 hd3 _ hkp3 => ?_)
  simp only [Ex.to, Exit.then]
  obtain ⟨x3, hx3⟩ := ht3.full _ (at_of hv3)
  refine wpIn_seq (st_piece hmix hK hng (oC_ok hS B0) oC_grw hC_on hC_off (t_c11 x3 (oC l) (codeC l) l.length).1 (t_c11 x3 (oC l) (codeC l) l.length).2 nil_p hs3 (mS_only (all_cells rfl)) hx3 fun ι4 a4 W4 t4 hs4 ht4 hv4 hd4 _ hkp4 => ?_)
  simp only [Ex.to, Exit.then]
  obtain ⟨x4, hx4⟩ := ht4.full knC (at_of hv4)
  refine wpIn_seq (wpIn_seq (st_piece hmix hK hng (oC_ok hS B0) oC_grw hC_on hC_off (t_c12 x4 (oC l) (codeC l) l.length 0 0).1 (t_c12 x4 (oC l) (codeC l) l.length 0 0).2 nil_p hs4 (mS_only (all_cells rfl)) hx4 fun ι5 a5 W5 t5 hs5 ht5 hv5 hd5 _ hkp5 => ?_))
  simp only [Ex.to, Exit.then]
  have hat5 := at_of hv5
  have h47 : t5.at 47 = cl93 7 := hat5 (47, cl93 7) (by simp [vsC])
  have hkn5 : ∀ p ∈ knC, t5.at p.1 = p.2 := fun p hp => hat5 p (by
    simp only [knC, List.mem_cons, List.not_mem_nil, or_false] at hp
    rcases hp with rfl | rfl | rfl | rfl | rfl <;> simp [vsC])
  obtain ⟨Lb, hLb, hfun⟩ := clos_at ht5 h47
  have hrel93 : ∀ (a c : Int) (W : World), Go.DI.St B0 w ι5 (mC3 (codeC l) l.length a c) W → Rel B0 1 (i93 ι5 7) (m93 (codeC l) l.length) W := fun a c W h => by
    obtain ⟨g0, g1, g7, gz⟩ := mC3_at l a c
    exact rel93 h (by rw [gz]; decide) (by rw [gz]; decide) (by decide) g0 g1 g7
  have hi2 : i93 ι5 7 2 = some Lb := by rw [i93_at ι5 7 2 (by decide)]; exact hLb
  have hsz5 : ∀ p, p < 116 → p < a5.tmps.size := fun p hp => by rw [ht5.1]; exact hp
  refine wpIn_block (range_di (m0 := mC3 (codeC l) l.length 0 0) (ι := ι5) hs5 (Ds := []) (fun D hD => by simp at hD) (by decide) hfun (enters_of at93 (by kernel_rfl) bd93) (iter_stops (hrel93 0 0 W5 hs5) hi2 hS) (fun h k => kpI_t h k) (fun W k o o' _ hk hno' _ => kpI_b W k o o' hk hno') (fun x => rfl)
    (fun pre => mC3 (codeC l) l.length (lastA pre) (lastC pre)) rfl (fun pre b hb => mS_cells (ss3_cells l _ _) b hb)
    (fun x => ({ tmps := a5.tmps.setIfInBounds 48 (.int .i64 (x.1 : Int)), defers := [] } : Act).put (some 8) (.int .i64 (x.1 : Int))) ?_ ?_ (fun pre W W' h _ => hrel93 _ _ W' h) ?_)
  · intro k x W K' hK'
    rw [aC1_eq]
    refine assign_one (op := aC1) (x := .tmp 48) rfl rfl ?_
    have ez : ((#[48] : Array Tmp).zip (encP l x)).foldl (fun t (p, v) => t.setIfInBounds p v) a5.tmps = a5.tmps.setIfInBounds 48 (.int .i64 (x.1 : Int)) := by simp [encP]
    rw [ez]
    have : ({ tmps := a5.tmps.setIfInBounds 48 (.int .i64 (x.1 : Int)), defers := [] } : Act).eval (.tmp 48) = .int .i64 (x.1 : Int) := by
      show (a5.tmps.setIfInBounds 48 (.int .i64 (x.1 : Int))).getD 48 undef = _
      rw [getD_setIfInBounds, if_pos ⟨rfl, hsz5 48 (by decide)⟩]
    rw [this]
    exact hK'
  · intro k pre x W Q' hx' hst' hQ'
    have ht6 : TRel ι5 116 ((t5.set 48 (.int .i64 (x.1 : Int))).set 8 (.int .i64 (x.1 : Int))) ((({ tmps := a5.tmps.setIfInBounds 48 (.int .i64 (x.1 : Int)), defers := [] } : Act)).put (some 8) (.int .i64 (x.1 : Int))) :=
      TRel.putD (n := 116) (dst := some 8) (TRel.setI (N := 116) ht5 (by decide) (.int _ _)) rfl (.int _ _)
    obtain ⟨x6, hx6⟩ := ht6.full (knC ++ [(8, .int .i64 (x.1 : Int))]) (by
      intro q hq
      rcases List.mem_append.1 hq with hq | hq
      · have hne : q.1 ≠ 8 ∧ q.1 ≠ 48 := by
          simp only [knC, List.mem_cons, List.not_mem_nil, or_false] at hq
          rcases hq with rfl | rfl | rfl | rfl | rfl <;> exact ⟨by simp, by simp⟩
        rw [Tmps.at_set_ne _ hne.1, Tmps.at_set_ne _ hne.2]
        exact hkn5 q hq
      · obtain rfl := List.mem_singleton.1 hq
        exact Tmps.at_set_same _ _ _)
    refine rnd1 hS x hst' hx6 hx' fun a' W' hk hst2 => hQ' a' W' hk ?_
    rw [lastA_snoc, lastC_snoc]
    exact hst2
  · intro D1 xs W hD1 hxs hst' hmk
    have hxs : xs.map Subtype.val = startsL l := hxs
    obtain ⟨init, pz, hl1, hl2⟩ := hS.last
    have hlast : ∃ a, lastC xs = 9 ∧ lastA xs = a := by
      refine ⟨_, ?_, rfl⟩
      have hxs2 := hxs.trans hl1
      have hne : xs ≠ [] := by rintro rfl; simp at hxs2
      obtain ⟨ys, z, rfl⟩ : ∃ ys z, xs = ys ++ [z] := ⟨xs.dropLast, xs.getLast hne, (List.dropLast_concat_getLast hne).symm⟩
      rw [lastC_snoc]
      rw [List.map_append] at hxs2
      have hz : z.1 = pz := by
        have := congrArg List.getLast? hxs2
        rw [List.getLast?_append, List.getLast?_append] at this
        simpa using this
      rw [hz, clsAt_of hl2]; rfl
    obtain ⟨aa, hc9, haa⟩ := hlast
    rw [hc9, haa] at hst'
    simp only [Exit.inBlock, Exit.then]
    have ht7 : TRel ι5 116 t5 { a5 with defers := { target := .collected D1, args := #[] } :: a5.defers } := ht5
    obtain ⟨x7, hx7⟩ := ht7.full knC hkn5
    obtain ⟨g30, g31, g37, g3z⟩ := mC3_at l aa 9
    have hylen : (boolsAt (startsL l) l.length).length = l.length := boolsAt_len _ _
    have hst69 : oC l 29 [sliceN 1 l.length] (mC3 (codeC l) l.length aa 9) = some (slS (boolsAt (startsL l) l.length).length, (mC3 (codeC l) l.length aa 9).push (.cells true (boolsAt (startsL l) l.length))) := by
      rw [oC_st (own := false) (M := mC3 (codeC l) l.length aa 9) (top_mS _) g30 (by rw [g3z]; decide) g31, g3z, hylen]; rfl
    refine wpIn_seq (st_piece hmix hK hng (oC_ok hS B0) oC_grw hC_on hC_off (t_c18 x7 (oC l) (codeC l) (boolsAt (startsL l) l.length) l.length aa 9).1 (t_c18 x7 (oC l) (codeC l) (boolsAt (startsL l) l.length) l.length aa 9).2 (cons_p hst69 nil_p) hst' (mS_only (ss3_cells l aa 9)) hx7 fun ι8 a8 W8 t8 hs8 ht8 hv8 hd8 _ hkp8 => ?_)
    simp only [Ex.to, Exit.then]
    obtain ⟨x8, hx8⟩ := ht8.full (knC ++ [(11, ptrV 9 0)]) (at_of hv8)
    refine wpIn_seq (wpIn_seq (st_piece hmix hK hng (oC_ok hS B0) oC_grw hC_on hC_off (t_c19 x8 (oC l) (codeC l) (boolsAt (startsL l) l.length) l.length aa 9).1 (t_c19 x8 (oC l) (codeC l) (boolsAt (startsL l) l.length) l.length aa 9).2 nil_p hs8 (mS_only (all_cells rfl)) hx8 fun ι9 a9 W9 t9 hs9 ht9 hv9 hd9 _ hkp9 => ?_))
    simp only [Ex.to, Exit.then]
    have hat9 := at_of hv9
    have h67 : t9.at 67 = cl93 10 := hat9 (67, cl93 10) (by simp [vsC])
    have hkn9 : ∀ p ∈ knC ++ [(11, ptrV 9 0)], t9.at p.1 = p.2 := fun p hp => hat9 p (by
      simp only [knC, List.cons_append, List.nil_append, List.mem_cons, List.not_mem_nil, or_false] at hp
      rcases hp with rfl | rfl | rfl | rfl | rfl | rfl <;> simp [vsC])
    obtain ⟨Lb9, hLb9, hfun9⟩ := clos_at ht9 h67
    have hrel9 : ∀ (W : World), Go.DI.St B0 w ι9 (mC5 (codeC l) l.length aa 9 (boolsAt (startsL l) l.length)) W → Rel B0 1 (i93 ι9 10) (m93 (codeC l) l.length) W := fun W h => by
      obtain ⟨g0, g1, g7, gz⟩ := mC5_at l aa 9 (boolsAt (startsL l) l.length)
      exact rel93 h (by rw [gz]; decide) (by rw [gz]; decide) (by decide) g0 g1 g7
    have hi9 : i93 ι9 10 2 = some Lb9 := by rw [i93_at ι9 10 2 (by decide)]; exact hLb9
    have hsz9 : ∀ p, p < 116 → p < a9.tmps.size := fun p hp => by rw [ht9.1]; exact hp
    have hmk9 : Marks [D1] W9 := (hmk.keeps hkp8).keeps hkp9
    refine wpIn_block (range_di (m0 := mC5 (codeC l) l.length aa 9 (boolsAt (startsL l) l.length)) (ι := ι9) hs9 (Ds := [D1]) hmk9 (by decide) hfun9 (enters_of at93 (by kernel_rfl) bd93) (iter_stops (hrel9 W9 hs9) hi9 hS) (fun h k => kpI_t h k) (fun W k o o' _ hk hno' _ => kpI_b W k o o' hk hno') (fun x => rfl)
      (fun _ => mC5 (codeC l) l.length aa 9 (boolsAt (startsL l) l.length)) rfl (fun pre b hb => mS_cells (ss5_cells l _ _) b hb)
      (fun x => ({ tmps := a9.tmps.setIfInBounds 68 (.int .i64 (x.1 : Int)), defers := [] } : Act).put (some 12) (.int .i64 (x.1 : Int))) ?_ ?_ (fun pre W W' h _ => hrel9 W' h) ?_)
    · intro k x W K' hK'
      rw [aC2_eq]
      refine assign_one (op := aC2) (x := .tmp 68) rfl rfl ?_
      have ez : ((#[68] : Array Tmp).zip (encP l x)).foldl (fun t (p, v) => t.setIfInBounds p v) a9.tmps = a9.tmps.setIfInBounds 68 (.int .i64 (x.1 : Int)) := by simp [encP]
      rw [ez]
      have : ({ tmps := a9.tmps.setIfInBounds 68 (.int .i64 (x.1 : Int)), defers := [] } : Act).eval (.tmp 68) = .int .i64 (x.1 : Int) := by
        show (a9.tmps.setIfInBounds 68 (.int .i64 (x.1 : Int))).getD 68 undef = _
        rw [getD_setIfInBounds, if_pos ⟨rfl, hsz9 68 (by decide)⟩]
      rw [this]
      exact hK'
    · intro k pre x W Q' hx' hst2 hQ'
      have ht6 : TRel ι9 116 ((t9.set 68 (.int .i64 (x.1 : Int))).set 12 (.int .i64 (x.1 : Int))) ((({ tmps := a9.tmps.setIfInBounds 68 (.int .i64 (x.1 : Int)), defers := [] } : Act)).put (some 12) (.int .i64 (x.1 : Int))) :=
        TRel.putD (n := 116) (dst := some 12) (TRel.setI (N := 116) ht9 (by decide) (.int _ _)) rfl (.int _ _)
      obtain ⟨x6, hx6⟩ := ht6.full (knC ++ [(11, ptrV 9 0), (12, .int .i64 (x.1 : Int))]) (by
        intro q hq
        have hq : q ∈ (knC ++ [(11, ptrV 9 0)]) ++ [(12, .int .i64 (x.1 : Int))] := by simpa using hq
        rcases List.mem_append.1 hq with hq | hq
        · have hne : q.1 ≠ 12 ∧ q.1 ≠ 68 := by
            simp only [knC, List.cons_append, List.nil_append, List.mem_cons, List.not_mem_nil, or_false] at hq
            rcases hq with rfl | rfl | rfl | rfl | rfl | rfl <;> exact ⟨by simp, by simp⟩
          rw [Tmps.at_set_ne _ hne.1, Tmps.at_set_ne _ hne.2]
          exact hkn9 q hq
        · obtain rfl := List.mem_singleton.1 hq
          exact Tmps.at_set_same _ _ _)
      exact rnd2 hS x hst2 hx6 hx' hQ'
    · intro D2 xs2 W' hD2 _ hst2 hmk2
      simp only [Exit.inBlock, Exit.then]
      have ht10 : TRel ι9 116 t9 { a9 with defers := { target := .collected D2, args := #[] } :: a9.defers } := ht9
      obtain ⟨x10, hx10⟩ := ht10.full knC (fun p hp => hkn9 p (List.mem_append_left _ hp))
      refine wpIn_seq (st_piece hmix hK hng (oC_ok hS B0) oC_grw hC_on hC_off (t_ce x10 (oC l) (codeC l) (boolsAt (startsL l) l.length) l.length aa).1 (t_ce x10 (oC l) (codeC l) (boolsAt (startsL l) l.length) l.length aa).2 (cons_p (ne3_t (by decide)) nil_p) hst2 (mS_only (ss5_cells l _ _)) hx10 fun ι11 a11 W11 t11 hs11 ht11 hv11 hd11 _ hkp11 => ?_)
      simp only [Ex.to, Exit.then]
      obtain ⟨x11, hx11⟩ := ht11.full knC (at_of hv11)
      refine wpIn_seq (st_piece hmix hK hng (oC_ok hS B0) oC_grw hC_on hC_off (t_c28 x11 (oC l) (codeC l) (boolsAt (startsL l) l.length) l.length aa 9).1 (t_c28 x11 (oC l) (codeC l) (boolsAt (startsL l) l.length) l.length aa 9).2 nil_p hs11 (mS_only (ss5_cells l _ _)) hx11 fun ι12 a12 W12 t12 hs12 ht12 hv12 hd12 _ hkp12 => ?_)
      simp only [Ex.to, Exit.then]
      refine wpIn_ret ?_
      have hmk12 : Marks [D2, D1] W12 := (hmk2.keeps hkp11).keeps hkp12
      have hde : a12.defers = [{ target := .collected D2, args := #[] }, { target := .collected D1, args := #[] }] := by
        rw [hd12, hd11]
        show _ :: a9.defers = _
        rw [hd9, hd8]
        show _ :: _ :: a5.defers = _
        rw [hd5, hd4, hd3, hd2, hd1]
      have hm2 := hmk12 D2 (by simp)
      have hm1 := hmk12 D1 (by simp)
      have hD1lt : D1 < W9.heap.size := (Array.getElem?_eq_some_iff.1 (hmk9 D1 (by simp))).1
      have hne : D1 ≠ D2 := by omega
      obtain ⟨W13, hW13⟩ : ∃ W13, W12.putObj D2 (.deferred none) = W13 := ⟨_, rfl⟩
      have hm1' : W13.heap[D1]? = some (.deferred (some [])) := by rw [← hW13]; exact (World.putObj_heap_other hne).trans hm1
      obtain ⟨W14, hW14⟩ : ∃ W14, W13.putObj D1 (.deferred none) = W14 := ⟨_, rfl⟩
      have hs13 : Go.DI.St B0 w ι12 (mC5 (codeC l) l.length aa 9 (boolsAt (startsL l) l.length)) W13 := by
        rw [← hW13]
        exact hs12.grown (fun b hb => mS_cells (ss5_cells l _ _) b hb) (B := w.heap.size) (Nat.le_refl _) (grownBy_putObj' W12 D2 _) (fun r e => by
          cases e
          exact ⟨Nat.le_trans hs9.below.size hD2, _, hm2, rfl⟩)
      have hs14 : Go.DI.St B0 w ι12 (mC5 (codeC l) l.length aa 9 (boolsAt (startsL l) l.length)) W14 := by
        rw [← hW14]
        exact hs13.grown (fun b hb => mS_cells (ss5_cells l _ _) b hb) (B := w.heap.size) (Nat.le_refl _) (grownBy_putObj' W13 D1 _) (fun r e => by
          cases e
          exact ⟨Nat.le_trans hs5.below.size hD1, _, hm1', rfl⟩)
      obtain ⟨x12, hx12⟩ := ht12.full [(2, ptrV 3 0), (3, ptrV 4 0)] (at_of hv12)
      have hres : resD Tryz.prog (fullN 116 (up x12 [(2, ptrV 3 0), (3, ptrV 4 0)])) (mC5 (codeC l) l.length aa 9 (boolsAt (startsL l) l.length)) Tryz.f28.results.toList = some [.int .i64 0, .int .i64 0] := by kernel_rfl
      obtain ⟨v', q1, q2⟩ := results_ok (P := Tryz.prog) hs14.rel hx12 hres
      show LeavesInM Fence.wide 1 Tryz.prog Tryz.f28 a12.tmps _ a12.defers .returning W12
      rw [hde]
      refine ⟨by simp, .inl ⟨D2, W13, rfl, by rw [← hW13]; exact run_takeDeferred hm2, by simp, .inl ⟨D1, W14, rfl, by rw [← hW14]; exact run_takeDeferred hm1', v', q1, ?_⟩⟩⟩
      have hb14 : Below w.heap.size w W14 := hs14.below
      refine ⟨v', ι, rfl, ?_, rel_below hr hb14, ⟨fun _ _ h => h, fun _ _ => rfl, hb14.os, hb14.output, hb14.tape, hb14.size, fun B hB _ => hb14.block B hB, fun b L h1 h2 => by omega, Nat.le_refl _, fun b _ h => h⟩⟩
      have hfree : Free (.tuple ⟨[.int .i64 0, .int .i64 0]⟩) := free_tuple (by
        intro x hx
        have hx : x ∈ [Value.int .i64 0, Value.int .i64 0] := hx
        simp only [List.mem_cons, List.not_mem_nil, or_false] at hx
        rcases hx with rfl | rfl <;> exact free_int _ _)
      exact hfree _ _ _ q2

end
end Go.Proofs.YtipdeijgaabobaaGreatDoor
/-
  FWake: what the chapter's statements ask first: some rows of the chapter, worked out.
-/
namespace Go.Proofs.YtipdeijgaabobaaGreatDoor
open Go Go.DI Go.DI.Kit Go.Proofs Go.Cmp Go.RowKit
noncomputable section
theorem starts_at {B0 : Nat} {own : Bool} {l : List Ins} (hS : ShapeOk l) {M : Mem} {b : Nat} (g1 : M.get b = .cells own (codeC l)) (hF : Fits gl [b] [M.get b] M) :
    CallOK Tryz.prog B0 1 29 [sliceN b l.length] M (.slice (some ⟨M.size, 0, none⟩) l.length l.length) (M.push (.cells true (boolsAt (startsL l) l.length))) := by
  have hcp : ∀ o : Bool, okB (.cells o (codeC l)) ∧ ∀ nb, seenB nb (.cells o (codeC l)) := fun o => ⟨fun v hv => plain_ok (List.all_eq_true.1 (codeC_plain l) v hv), fun nb v hv => plain_seen (List.all_eq_true.1 (codeC_plain l) v hv)⟩
  have h1 : b < M.size := hF.lt b (by simp)
  have hb0 : b ≠ 0 := fun e => hF.nz (by rw [e]; simp)
  have r0 : rhoE [b] M 0 = 0 := rfl
  have r1 : rhoE [b] M 1 = b := rfl
  have r2 : rhoE [b] M 2 = M.size := rfl
  have hA : ∀ i : Nat, Nat.blt i 2 = true → i = 0 ∨ i = 1 := fun i hi => by have : i < 2 := by simpa [Nat.blt_eq] using hi
                                                                            omega
  obtain ⟨ms, hms⟩ : ∃ ms, mS gl [.cells own (codeC l)] = ms := ⟨_, rfl⟩
  obtain ⟨ms', hms'⟩ : ∃ ms', mS gl [.cells own (codeC l), .cells true (boolsAt (startsL l) l.length)] = ms' := ⟨_, rfl⟩
  have s1 : ms.size = 2 := by rw [← hms, mS_size]; rfl
  have s2 : ms'.size = 3 := by rw [← hms', mS_size]; rfl
  have k0 : ms.get 0 = .cells false gl := by rw [← hms, mS_get, if_pos (by decide), mG_get]
  have k1 : ms.get 1 = .cells own (codeC l) := by rw [← hms, mS_get]; rfl
  have k0' : ms'.get 0 = .cells false gl := by rw [← hms', mS_get, if_pos (by decide), mG_get]
  have k1' : ms'.get 1 = .cells own (codeC l) := by rw [← hms', mS_get]; rfl
  have k2' : ms'.get 2 = .cells true (boolsAt (startsL l) l.length) := by rw [← hms', mS_get]; rfl
  have hsame : ∀ b, b < 2 → ms'.get b = ms.get b := fun b hb => by
    have : b = 0 ∨ b = 1 := by omega
    rcases this with rfl | rfl
    · rw [k0, k0']
    · rw [k1, k1']
  have hrun := starts_ok (B0 := B0) (own := own) hS
  rw [hms, hms'] at hrun
  refine embedG (ρ := rhoE [b] M) (A := fun i => Nat.blt i 2) 1 (fun g hg => ⟨hg, by obtain rfl : g = 0 := by omega
                                                                                     rfl, by obtain rfl : g = 0 := by omega
                                                                                             rfl⟩) hrun ⟨fun i hi => ?_, ⟨by omega, fun _ => by rw [← hms']; exact top_mS _, fun c hb hl => ?_, fun c hb ho => ?_⟩, by rw [← hms]; exact top_mS _, top_push hF.top, fun i hi => ?_, fun i j hi hj _ _ e => ?_, fun i q1 q2 => ?_, by show M.size + 1 = _; omega, fun i hi => ?_, fun i q1 q2 => ?_, fun c hb hne => ?_⟩ (.cons ?_ .nil) ?_
  · rcases hA i hi with rfl | rfl <;> omega
  · rw [hsame c (by omega)] at hl; exact hl
  · rw [hsame c (by omega)] at ho; exact ho
  · rcases hA i hi with rfl | rfl
    · rw [r0]; omega
    · rw [r1]; exact h1
  · rcases hA i hi with rfl | rfl <;> rcases hA j hj with rfl | rfl
    · rfl
    · rw [r0, r1] at e; omega
    · rw [r0, r1] at e; omega
    · rfl
  · obtain rfl : i = 2 := by omega
    rw [r2]; omega
  · rcases hA i hi with rfl | rfl
    · rw [k0, r0, hF.gl0]; exact bsim_free free_gl
    · rw [k1, r1]
      have h2 := bsim_ren (ρ := rhoE [b] M) (nb := 2) (hcp own).1 ((hcp own).2 2)
      have e : renB (rhoE [b] M) (.cells own (codeC l)) = M.get b := by
        rw [g1]
        show Blk.cells own _ = _
        rw [ren_plains (codeC_plain l)]
      rw [e] at h2
      exact h2
  · right
    have : i = 0 ∨ i = 1 ∨ i = 2 := by omega
    rcases this with rfl | rfl | rfl
    · rw [k0', r0, Mem.get_push_ne _ (by omega), hF.gl0]; exact bemb_free free_gl
    · rw [k1', r1, Mem.get_push_ne _ (by omega), g1]
      have h2 := bemb_ren (ρ := rhoE [b] M) (hcp own).1
      have e : renB (rhoE [b] M) (.cells own (codeC l)) = .cells own (codeC l) := by
        show Blk.cells own _ = _
        rw [ren_plains (codeC_plain l)]
      rw [e] at h2
      exact h2
    · rw [k2', r2, Mem.get_push_same]
      exact bemb_free fun v hv => by
        obtain ⟨i, _, rfl⟩ := List.mem_map.1 hv
        exact free_bool _
  · rw [Mem.get_push_ne _ (by omega)]
  · exact sim_slc (ρ := rhoE [b] M) (i := 1) rfl
  · show VEmb _ (.slice (some ⟨2, 0, none⟩) _ _) _
    have := emb_slc (ρ := rhoE [b] M) (i := 2) (o := 0) (n := l.length) (c := l.length)
    rw [r2] at this
    exact this

/-! ### two instructions -/
def lW : List Ins := [⟨183, 0, 0, 0, 7⟩, ⟨149, 0, 0, 0, 0⟩]
theorem lW_ok : ShapeOk lW where
  pos := by decide
  most := by decide
  found p hp := by
    have e : startsL lW = [0, 1] := by decide
    rw [e] at hp
    simp only [List.mem_cons, List.not_mem_nil, or_false] at hp
    rcases hp with rfl | rfl
    · exact .inl ⟨_, .movI (d := 0) (n := 7) ⟨by decide, by decide⟩, rfl⟩
    · exact .inl ⟨_, .exit, rfl⟩
  last := ⟨[0], 1, by decide, rfl⟩
def vEqI : Value → Value → Bool
  | .int k n, .int k' n' => decide (k = k') && decide (n = n')
  | _, _ => false
def vsEqI : List Value → List Value → Bool
  | [], [] => true
  | x :: l, y :: m => vEqI x y && vsEqI l m
  | _, _ => false
theorem vEqI_eq {x y : Value} (h : vEqI x y = true) : x = y := by
  unfold vEqI at h
  split at h
  · simp only [Bool.and_eq_true, decide_eq_true_eq] at h
    rw [h.1, h.2]
  · cases h
theorem vsEqI_eq : ∀ {l m : List Value}, vsEqI l m = true → l = m
  | [], [], _ => rfl
  | x :: l, y :: m, h => by
    simp only [vsEqI, Bool.and_eq_true] at h
    rw [vEqI_eq h.1, vsEqI_eq h.2]
  | [], _ :: _, h => by cases h
  | _ :: _, [], h => by cases h
def blkIs (B : Blk) (L : List Value) : Bool := match B with
  | .cells _ c => vsEqI c L
  | _ => false
def blkGl (B : Blk) : Bool := match B with
  | .cells false c => vsEqI c gl
  | _ => false
theorem blkIs_eq {B : Blk} {L : List Value} (h : blkIs B L = true) : ∃ o, B = .cells o L := by
  unfold blkIs at h
  split at h
  · exact ⟨_, by rw [vsEqI_eq h]⟩
  · cases h
theorem blkGl_eq {B : Blk} (h : blkGl B = true) : B = .cells false gl := by
  unfold blkGl at h
  split at h
  · rw [vsEqI_eq h]
  · cases h
def isCode (M : Mem) (b : Nat) : Bool := Nat.blt 0 b && (Nat.blt b M.size && (blkIs (M.get b) (codeC lW) && blkGl (M.get 0)))
def okT : Value := .tuple ⟨[.int .i64 0, .int .i64 0]⟩
def r28 (a : List Value) (M : Mem) : Option (Value × Mem) := match a with
  | [.agg ⟨[.slice none 0 0, .slice (some ⟨b, 0, none⟩) 2 2]⟩] => cond (isCode M b) (some (okT, M)) none
  | _ => none
def r29 (a : List Value) (M : Mem) : Option (Value × Mem) := match a with
  | [.slice (some ⟨b, 0, none⟩) 2 2] => cond (isCode M b) (some (.slice (some ⟨M.size, 0, none⟩) 2 2, M.push (.cells true [.bool true, .bool true]))) none
  | _ => none
/-- The check of the two instructions, on the small memory, as an oracle. -/
noncomputable def oC2 (own : Bool) : Orc := fun f a M => open Classical in if f = 28 ∧ a = [imgV (sliceN 1 2)] ∧ M = mS gl [.cells own (codeC lW)] then some (okT, M) else none
open Go.Crt in
def tW : Tab := tabL [(48, askIn), (20, askMay)]
theorem tW_ok : TabOK Tryz.prog tW := tabL_cons (fun a v h => tn13_ok 48 a v (tAlt_l h)) (tabL_cons (fun a v h => tn13_ok 20 a v ((show tn13 20 a = tn12 20 a from rfl).trans (tAlt_l h))) (tabL_nil _))
def oW : Orc := fun f args m => cond (Nat.beq f 28) (r28 args m) (cond (Nat.beq f 29) (r29 args m) (oTab tW f args m))
end
end Go.Proofs.YtipdeijgaabobaaGreatDoor
/-
  WCheck1: shape.Check of an image with a map: its pieces.
-/
namespace Go.Proofs.YtipdeijgaabobaaGreatDoor.W
open Go Go.DI Go.DI.Kit Go.Proofs Go.Cmp Go.RowKit
noncomputable section
def mapC : List Value := [.int .i64 1, .int .i64 4, .int .i64 8, .int .i64 2]
def mapB : Blk := .cells false mapC
def boxB : Blk := .cells true mapC
def mpV : Value := .slice (some ⟨2, 0, none⟩) 1 1
def imgM (v : Value) : Value := .agg ⟨[mpV, v]⟩
noncomputable def imgCM (v : Value) : List Value := [mpV, v]
noncomputable def hC (w x : List Value) (y : List Value) (b6 b7 : Bool) (own8 : Bool) (ors : Orc) : H.Hint where
  ix t := Nat.beq t 25 || Nat.beq t 81
  ld k t _ := cond (Nat.beq t 24) (some (.agg ⟨x⟩)) (cond (Nat.beq t 4 && Nat.beq k 11) (some (.bool true)) none)
  cmp op t := cond (Nat.beq t 3) (BinOp.rec (motive := fun _ => Option Bool) none none none none none none none none none none none none none (cond own8 (some false) none) none (some false) (some false) op) none
  ap _ := none
  call f := cond (Nat.beq f 67) (some (outW w)) (cond (Nat.beq f 31) (some (outW w)) (cond (Nat.beq f 32) (some undef) (cond (Nat.beq f 29) (some (.slice (some ⟨11, 0, none⟩) y.length y.length)) none)))
  spec _ _ _ _ := False
  blk := 0
  specM f := some fun args m v => ors f args m = some (v, cond (Nat.beq f 29) (m.push (.cells true y)) m)
  eff f m := cond (Nat.beq f 29) (m.push (.cells true y)) m
  cmpY op t v := cond (Nat.beq t 3) (BinOp.rec (motive := fun _ => Option Bool) none none none none none none none none none none none (match v with | .int _ n => cond (Nat.beq n.toNat 0) (some false) none | _ => none) (match v with | .int _ n => cond (Nat.beq n.toNat 6) (some b6) (cond (Nat.beq n.toNat 7) (some b7) none) | _ => none) none none none none op) none
noncomputable def hM (ors : Orc) : H.Hint := { hC [] [] [] false false false ors with cmp := fun _ _ => none, cmpY := fun _ _ _ => none }
noncomputable def mC0 (L : List Value) : Mem := mS gl [.cells false L, mapB]
noncomputable def imgB (n : Nat) : Blk := .cells true (imgCM (sliceN 1 n))
noncomputable def mC1 (L : List Value) (n : Nat) : Mem := mS gl [.cells false L, mapB, imgB n, cI 0, cI 0]
noncomputable def mC1b (L : List Value) (n : Nat) : Mem := mS gl [.cells false L, mapB, imgB n, cI 0, cI 0, boxB, boxB]
noncomputable def mC2 (L : List Value) (n : Nat) (a c : Int) : Mem := mS gl [.cells false L, mapB, imgB n, cI 0, cI 0, boxB, boxB, cI a, cI c]
noncomputable def mC3 (L : List Value) (n : Nat) (a c : Int) : Mem := mS gl [.cells false L, mapB, imgB n, cI 0, cI 0, boxB, boxB, cI a, cI c, .cells true [sliceN 1 n]]
noncomputable def mC3w (L : List Value) (n : Nat) (a c : Int) (w : List Value) : Mem := mS gl [.cells false L, mapB, imgB n, cI 0, cI 0, boxB, boxB, cI a, cI c, .cells true [sliceN 1 n], .cells true w]
noncomputable def slS (n : Nat) : Value := .slice (some ⟨11, 0, none⟩) n n
noncomputable def mC4 (L : List Value) (n : Nat) (a c : Int) (y : List Value) : Mem := mS gl [.cells false L, mapB, imgB n, cI 0, cI 0, boxB, boxB, cI a, cI c, .cells true [sliceN 1 n], .cells true y, .cells true [slS y.length]]
noncomputable def mC5 (L : List Value) (n : Nat) (a c : Int) (y : List Value) : Mem := mS gl [.cells false L, mapB, imgB n, cI 0, cI 0, boxB, boxB, cI a, cI c, .cells true [sliceN 1 n], .cells true y, .cells true [slS y.length], .cells true [sliceN 1 n]]
noncomputable def mC5w (L : List Value) (n : Nat) (a c : Int) (y w : List Value) : Mem := mS gl [.cells false L, mapB, imgB n, cI 0, cI 0, boxB, boxB, cI a, cI c, .cells true [sliceN 1 n], .cells true y, .cells true [slS y.length], .cells true [sliceN 1 n], .cells true w]
noncomputable def hC0 (ors : Orc) : H.Hint := hC [] [] [] false false false ors
theorem t_c0 (x : Nat → Value) (ors : Orc) (L : List Value) (n : Nat) : ansX (pcR (hC0 ors) Tryz.prog kp (.region 0 (q45 0) false) 116 [1, 2, 3] (fullN 116 (up x [(0, imgM (sliceN 1 n))])) (mC0 L)) = some ((.normal, [ptrV 3 0, ptrV 4 0, ptrV 5 0], mC1 L n), []) ∧ evenX (pcR (hC0 ors) Tryz.prog kp (.region 0 (q45 0) false) 116 [1, 2, 3] (fullN 116 (up x [(0, imgM (sliceN 1 n))])) (mC0 L)) := ⟨by kernel_rfl, by unfold evenX; kernel_rfl⟩
theorem t_cb0 (x : Nat → Value) (ors : Orc) (L : List Value) (n : Nat) : ansX (pcR (hC0 ors) Tryz.prog kp b45_0 116 [1, 2, 3] (fullN 116 (up x [(1, ptrV 3 0), (2, ptrV 4 0), (3, ptrV 5 0)])) (mC1 L n)) = some ((.normal, [ptrV 3 0, ptrV 4 0, ptrV 5 0], mC1 L n), [eq0 n, gt3 (Int.ofNat n) 512, gt3 1 4]) ∧ evenX (pcR (hC0 ors) Tryz.prog kp b45_0 116 [1, 2, 3] (fullN 116 (up x [(1, ptrV 3 0), (2, ptrV 4 0), (3, ptrV 5 0)])) (mC1 L n)) := ⟨by kernel_rfl, by unfold evenX; kernel_rfl⟩
theorem t_cb1 (x : Nat → Value) (ors : Orc) (L : List Value) (n : Nat) : ansX (pcR (hM ors) Tryz.prog kp (.seq (.region 5 (q45 5) false) b45_1) 116 [1, 2, 3] (fullN 116 (up x [(1, ptrV 3 0), (2, ptrV 4 0), (3, ptrV 5 0)])) (mC1 L n)) = some ((.normal, [ptrV 3 0, ptrV 4 0, ptrV 5 0], mC1b L n), []) ∧ evenX (pcR (hM ors) Tryz.prog kp (.seq (.region 5 (q45 5) false) b45_1) 116 [1, 2, 3] (fullN 116 (up x [(1, ptrV 3 0), (2, ptrV 4 0), (3, ptrV 5 0)])) (mC1 L n)) := ⟨by kernel_rfl, by unfold evenX; kernel_rfl⟩
theorem t_c11 (x : Nat → Value) (ors : Orc) (L : List Value) (n : Nat) : ansX (pcR (hC0 ors) Tryz.prog kp (.region 11 (q45 11) false) 116 [1, 2, 3, 6, 7] (fullN 116 (up x [(1, ptrV 3 0), (2, ptrV 4 0), (3, ptrV 5 0)])) (mC1b L n)) = some ((.normal, [ptrV 3 0, ptrV 4 0, ptrV 5 0, ptrV 8 0, ptrV 9 0], mC2 L n 0 0), []) ∧ evenX (pcR (hC0 ors) Tryz.prog kp (.region 11 (q45 11) false) 116 [1, 2, 3, 6, 7] (fullN 116 (up x [(1, ptrV 3 0), (2, ptrV 4 0), (3, ptrV 5 0)])) (mC1b L n)) := ⟨by kernel_rfl, by unfold evenX; kernel_rfl⟩
noncomputable def knC : List (Nat × Value) := [(1, ptrV 3 0), (2, ptrV 4 0), (3, ptrV 5 0), (6, ptrV 8 0), (7, ptrV 9 0)]
noncomputable def vsC : List Value := [ptrV 3 0, ptrV 4 0, ptrV 5 0, ptrV 8 0, ptrV 9 0]
theorem t_c12 (x : Nat → Value) (ors : Orc) (L : List Value) (n : Nat) (a c : Int) : ansX (pcR (hC0 ors) Tryz.prog kp (.region 12 (q45 12) false) 116 [1, 2, 3, 6, 7, 47] (fullN 116 (up x knC)) (mC2 L n a c)) = some ((.normal, vsC ++ [cl93 10], mC3 L n a c), []) ∧ evenX (pcR (hC0 ors) Tryz.prog kp (.region 12 (q45 12) false) 116 [1, 2, 3, 6, 7, 47] (fullN 116 (up x knC)) (mC2 L n a c)) := ⟨by kernel_rfl, by unfold evenX; kernel_rfl⟩
/-- One round of the first loop. -/
theorem t_c4 (x : Nat → Value) (ors : Orc) (L : List Value) (n : Nat) (a c p cl op z : Int) (wide reg : Bool) : ansX (pcR (hC (Wv cl op z wide reg) [] [] false false false ors) Tryz.prog kp b45_4 116 [] (fullN 116 (up x (knC ++ [(8, .int .i64 p)]))) (mC3 L n a c)) = some ((.normal, [], mC3w L n p cl (Wv cl op z wide reg)), [ors 67 [imgM (sliceN 1 n), .int .i64 p] (mC3 L n a c) = some (outW (Wv cl op z wide reg), mC3 L n a c)]) ∧
    evenX (pcR (hC (Wv cl op z wide reg) [] [] false false false ors) Tryz.prog kp b45_4 116 [] (fullN 116 (up x (knC ++ [(8, .int .i64 p)]))) (mC3 L n a c)) := ⟨by kernel_rfl, by unfold evenX; kernel_rfl⟩
theorem t_c18 (x : Nat → Value) (ors : Orc) (L y : List Value) (n : Nat) (a c : Int) : ansX (pcR (hC [] [] y false false false ors) Tryz.prog kp (.region 18 (q45 18) false) 116 [1, 2, 3, 6, 7, 11] (fullN 116 (up x knC)) (mC3 L n a c)) = some ((.normal, vsC ++ [ptrV 12 0], mC4 L n a c y), [ors 29 [sliceN 1 n] (mC3 L n a c) = some (slS y.length, (mC3 L n a c).push (.cells true y))]) ∧
    evenX (pcR (hC [] [] y false false false ors) Tryz.prog kp (.region 18 (q45 18) false) 116 [1, 2, 3, 6, 7, 11] (fullN 116 (up x knC)) (mC3 L n a c)) := ⟨by kernel_rfl, by unfold evenX; kernel_rfl⟩
theorem t_c19 (x : Nat → Value) (ors : Orc) (L y : List Value) (n : Nat) (a c : Int) : ansX (pcR (hC0 ors) Tryz.prog kp (.region 19 (q45 19) false) 116 [1, 2, 3, 6, 7, 11, 67] (fullN 116 (up x (knC ++ [(11, ptrV 12 0)]))) (mC4 L n a c y)) = some ((.normal, vsC ++ [ptrV 12 0, cl93 13], mC5 L n a c y), []) ∧
    evenX (pcR (hC0 ors) Tryz.prog kp (.region 19 (q45 19) false) 116 [1, 2, 3, 6, 7, 11, 67] (fullN 116 (up x (knC ++ [(11, ptrV 12 0)]))) (mC4 L n a c y)) := ⟨by kernel_rfl, by unfold evenX; kernel_rfl⟩
/-- Rounds of the second loop: no jump; a jump. -/
theorem t_c6a (x : Nat → Value) (ors : Orc) (L X y : List Value) (n : Nat) (a c p cl op z : Int) (wide reg : Bool) : ansX (pcR (hC (Wv cl op z wide reg) X y true true true ors) Tryz.prog kp b45_6 116 [] (fullN 116 (up x (knC ++ [(11, ptrV 12 0), (12, .int .i64 p)]))) (mC5 L n a c y)) = some ((.normal, [], mC5w L n a c y (Wv cl op z wide reg)), [ixP p n, ldP L p X, ors 31 [.agg ⟨X⟩] (mC5 L n a c y) = some (outW (Wv cl op z wide reg), mC5 L n a c y), ne3 cl 6 true, ne3 cl 7 true]) ∧
    evenX (pcR (hC (Wv cl op z wide reg) X y true true true ors) Tryz.prog kp b45_6 116 [] (fullN 116 (up x (knC ++ [(11, ptrV 12 0), (12, .int .i64 p)]))) (mC5 L n a c y)) := ⟨by kernel_rfl, by unfold evenX; kernel_rfl⟩
theorem t_c28 (x : Nat → Value) (ors : Orc) (L y : List Value) (n : Nat) (a c : Int) : ansX (pcR (hC0 ors) Tryz.prog kp (.region 28 (q45 28) false) 116 [2, 3] (fullN 116 (up x knC)) (mC5 L n a c y)) = some ((.normal, [ptrV 4 0, ptrV 5 0], mC5 L n a c y), []) ∧ evenX (pcR (hC0 ors) Tryz.prog kp (.region 28 (q45 28) false) 116 [2, 3] (fullN 116 (up x knC)) (mC5 L n a c y)) := ⟨by kernel_rfl, by unfold evenX; kernel_rfl⟩
theorem t_ce (x : Nat → Value) (ors : Orc) (L y : List Value) (n : Nat) (a : Int) : ansX (pcR (hC [] [] [] true true false ors) Tryz.prog kp b45_e 116 [1, 2, 3, 6, 7] (fullN 116 (up x knC)) (mC5 L n a 9 y)) = some ((.normal, vsC, mC5 L n a 9 y), [ne3 9 7 true]) ∧ evenX (pcR (hC [] [] [] true true false ors) Tryz.prog kp b45_e 116 [1, 2, 3, 6, 7] (fullN 116 (up x knC)) (mC5 L n a 9 y)) := ⟨by kernel_rfl, by unfold evenX; kernel_rfl⟩
end
end Go.Proofs.YtipdeijgaabobaaGreatDoor.W
/-
  WCheck2: a round at a jump; what the rounds want.
-/
namespace Go.Proofs.YtipdeijgaabobaaGreatDoor.W
open Go Go.DI Go.DI.Kit Go.Proofs Go.Cmp Go.RowKit
noncomputable section
/-! ### the oracle for the checks of one code -/
def op68 : List Value → Option (List Value × List Nat) := fun a => match a with
  | [.agg ⟨[.slice (some ⟨d, 0, none⟩) 1 1, .slice (some ⟨c, 0, none⟩) n n']⟩, .int .i64 p] => some ([.agg ⟨[.slice (some ⟨2, 0, none⟩) 1 1, .slice (some ⟨1, 0, none⟩) n n']⟩, .int .i64 p], [c, d])
  | _ => none
noncomputable def oSh : Orc := oAlt (oPure gl 31 cf0 op47) (oAlt (oPure gl 32 cf0 op47) (oPure gl 67 cf0 op68))
theorem oSh_grw : CfGrw oSh := oAlt_grw (oPure_grw free_gl cf0_ok cf0_grw) (oAlt_grw (oPure_grw free_gl cf0_ok cf0_grw) (oPure_grw free_gl cf0_ok cf0_grw))
theorem oSh_ok (B0 : Nat) : CfOK Tryz.prog B0 1 oSh := oAlt_ok (oPure_ok free_gl cf0_ok cf0_grw B0) (oAlt_ok (oPure_ok free_gl cf0_ok cf0_grw B0) (oPure_ok free_gl cf0_ok cf0_grw B0))
theorem oSh_off {f : FuncId} (h1 : f ≠ 31) (h2 : f ≠ 32) (h3 : f ≠ 67) (a : List Value) (M : Mem) : oSh f a M = none := by
  unfold oSh
  rw [oAlt_r (oPure_off h1 a M), oAlt_r (oPure_off h2 a M), oPure_off h3]
theorem oSh_of {M : Mem} {x : Ins} {w : List Value} (ht : M.top) (h0 : M.get 0 = .cells false gl) (h1 : 1 ≤ M.size) (h : OfRun x w) (hw : w.all plain0 = true) : oSh 31 [.agg ⟨insC x⟩] M = some (.tuple ⟨[.agg ⟨w⟩, .int .i64 0]⟩, M) := by
  obtain ⟨m, a1, a2⟩ := h
  refine oAlt_l (oPure_at (op := op47) rfl (fits0 ht h0 h1) (.cons ((free_agg0 (insC_plain x)).sim _ _) .nil) a1 ?_ a2 (fun i s hi => by simp at hi))
  simp [plain2, plain1, hw]
def AlRun (own : Bool) (L : List Value) (k : Nat) (p : Int) (w : List Value) : Prop := ∃ m, cf0 67 [imgM (sliceN 1 k), .int .i64 p] (mS gl [.cells own L, mapB]) = some (.tuple ⟨[.agg ⟨w⟩, .int .i64 0]⟩, m) ∧ m.get 0 = .cells false gl ∧ m.get 1 = .cells own L ∧ m.get 2 = mapB
theorem mapC_plain : mapC.all plainV = true := rfl
theorem fits2 {M : Mem} {c d : Nat} {o1 o2 : Bool} {l : List Ins} (hM : M.top) (h0 : M.get 0 = .cells false gl) (h1 : 1 ≤ M.size) (hc : c < M.size) (hc0 : c ≠ 0) (hd : d < M.size) (hd0 : d ≠ 0) (hcd : c ≠ d) (gc : M.get c = .cells o1 (codeC l)) (gd : M.get d = .cells o2 mapC) : Fits gl [c, d] [M.get c, M.get d] M := by
  refine ⟨hM, h0, h1, rfl, fun b hb => ?_, ?_, ?_, fun i b s hi hs => ?_, fun s hs => ?_⟩
  · simp only [List.mem_cons, List.not_mem_nil, or_false] at hb
    rcases hb with rfl | rfl
    · exact hc
    · exact hd
  · simp only [List.mem_cons, List.not_mem_nil, or_false]
    rintro (h | h)
    · exact hc0 h.symm
    · exact hd0 h.symm
  · simpa using hcd
  · rcases i with _ | _ | i
    · cases hi; cases hs
      rw [gc]
      show _ = Blk.cells o1 _
      rw [ren_plains (codeC_plain l)]
    · cases hi; cases hs
      rw [gd]
      show _ = Blk.cells o2 _
      rw [ren_plains mapC_plain]
    · cases hi
  · simp only [List.mem_cons, List.not_mem_nil, or_false] at hs
    rcases hs with rfl | rfl
    · rw [gc]
      exact ⟨fun v hv => plain_ok (List.all_eq_true.1 (codeC_plain l) v hv), fun v hv => plain_seen (List.all_eq_true.1 (codeC_plain l) v hv)⟩
    · rw [gd]
      exact ⟨fun v hv => plain_ok (List.all_eq_true.1 mapC_plain v hv), fun v hv => plain_seen (List.all_eq_true.1 mapC_plain v hv)⟩
theorem oSh_al {M : Mem} {c d : Nat} {own : Bool} {l : List Ins} {p : Int} {w : List Value} (ht : M.top) (h0 : M.get 0 = .cells false gl) (h1 : 1 ≤ M.size) (hc : c < M.size) (hc0 : c ≠ 0) (hd : d < M.size) (hd0 : d ≠ 0) (hcd : c ≠ d) (gc : M.get c = .cells own (codeC l)) (gd : M.get d = mapB) (h : AlRun own (codeC l) l.length p w) (hw : w.all plain0 = true) :
    oSh 67 [.agg ⟨[.slice (some ⟨d, 0, none⟩) 1 1, sliceN c l.length]⟩, .int .i64 p] M = some (.tuple ⟨[.agg ⟨w⟩, .int .i64 0]⟩, M) := by
  obtain ⟨m, a1, a2, a3, a4⟩ := h
  unfold oSh
  rw [oAlt_r (oPure_off (by decide) _ M), oAlt_r (oPure_off (by decide) _ M)]
  have hF := fits2 (o1 := own) (o2 := false) ht h0 h1 hc hc0 hd hd0 hcd gc gd
  refine oPure_at (op := op68) (sa := [imgM (sliceN 1 l.length), .int .i64 p]) (bs := [c, d]) rfl hF ?_ (m := m) (by
    show cf0 67 _ (mS gl [M.get c, M.get d]) = _
    rw [gc, gd]; exact a1) (by simp [plain2, plain1, hw]) a2 (fun i s hi => ?_)
  · have hb : (fun i => Nat.blt i (1 + [c, d].length)) 1 = true := rfl
    have hb2 : (fun i => Nat.blt i (1 + [c, d].length)) 2 = true := rfl
    exact .cons (sim_agg (.cons (sim_slc (ρ := rhoE [c, d] M) hb2) (.cons (sim_slc (ρ := rhoE [c, d] M) hb) .nil))) (.cons ((free_int _ _).sim _ _) .nil)
  · rcases i with _ | _ | i
    · have hi : some (M.get c) = some s := hi
      cases hi
      rw [gc]; exact a3
    · have hi : some (M.get d) = some s := hi
      cases hi
      rw [gd]; exact a4
    · cases hi
/-- Alone, at each place. -/
def Alone (l : List Ins) : Prop := ∀ p ∈ startsL l, ∃ op z w r, AlRun false (codeC l) l.length (p : Int) (Wv (clsAt l p) op z w r)
noncomputable def mC5x (L : List Value) (n : Nat) (a c : Int) (y w x : List Value) : Mem := mS gl [.cells false L, mapB, imgB n, cI 0, cI 0, boxB, boxB, cI a, cI c, .cells true [sliceN 1 n], .cells true y, .cells true [slS y.length], .cells true [sliceN 1 n], .cells true w, .cells true x]
theorem t_c6b (x : Nat → Value) (ors : Orc) (L y : List Value) (n : Nat) (a c p cl op z i1 i2 i3 o i5 : Int) (wide reg : Bool) : ansX (pcR (hC (Wv cl op z wide reg) (insW i1 i2 i3 o i5) y false true true ors) Tryz.prog kp b45_6 116 [] (fullN 116 (up x (knC ++ [(11, ptrV 12 0), (12, .int .i64 p)]))) (mC5 L n a c y)) = some ((.normal, [], mC5x L n a c y (Wv cl op z wide reg) (insW i1 i2 i3 o i5)), [ixP p n, ldP L p (insW i1 i2 i3 o i5), ors 31 [.agg ⟨insW i1 i2 i3 o i5⟩] (mC5 L n a c y) = some (outW (Wv cl op z wide reg), mC5 L n a c y), ne3 cl 6 false, ixP p n, ldP L p (insW i1 i2 i3 o i5), ls3 (tgt p o), ge3 (tgt p o) y.length, ixP (tgt p o) y.length, qB y (tgt p o)]) ∧
    evenX (pcR (hC (Wv cl op z wide reg) (insW i1 i2 i3 o i5) y false true true ors) Tryz.prog kp b45_6 116 [] (fullN 116 (up x (knC ++ [(11, ptrV 12 0), (12, .int .i64 p)]))) (mC5 L n a c y)) := ⟨by kernel_rfl, by unfold evenX; kernel_rfl⟩
theorem t_c6c (x : Nat → Value) (ors : Orc) (L y : List Value) (n : Nat) (a c p cl op z i1 i2 i3 o i5 : Int) (wide reg : Bool) : ansX (pcR (hC (Wv cl op z wide reg) (insW i1 i2 i3 o i5) y true false true ors) Tryz.prog kp b45_6 116 [] (fullN 116 (up x (knC ++ [(11, ptrV 12 0), (12, .int .i64 p)]))) (mC5 L n a c y)) = some ((.normal, [], mC5x L n a c y (Wv cl op z wide reg) (insW i1 i2 i3 o i5)), [ixP p n, ldP L p (insW i1 i2 i3 o i5), ors 31 [.agg ⟨insW i1 i2 i3 o i5⟩] (mC5 L n a c y) = some (outW (Wv cl op z wide reg), mC5 L n a c y), ne3 cl 6 true, ne3 cl 7 false, ixP p n, ldP L p (insW i1 i2 i3 o i5), ls3 (tgt p o), ge3 (tgt p o) y.length, ixP (tgt p o) y.length, qB y (tgt p o)]) ∧
    evenX (pcR (hC (Wv cl op z wide reg) (insW i1 i2 i3 o i5) y true false true ors) Tryz.prog kp b45_6 116 [] (fullN 116 (up x (knC ++ [(11, ptrV 12 0), (12, .int .i64 p)]))) (mC5 L n a c y)) := ⟨by kernel_rfl, by unfold evenX; kernel_rfl⟩
noncomputable def oC (l : List Ins) : Orc := oAlt oSh (oSt l)
theorem oC_grw {l : List Ins} : CfGrw (oC l) := oAlt_grw oSh_grw oSt_grw
theorem oC_ok {l : List Ins} (hS : ShapeOk l) (B0 : Nat) : CfOK Tryz.prog B0 1 (oC l) := oAlt_ok (oSh_ok B0) (oSt_ok hS B0)
theorem oC_off {l : List Ins} {f : FuncId} (h1 : f ≠ 31) (h2 : f ≠ 32) (h3 : f ≠ 67) (h4 : f ≠ 29) (a : List Value) (M : Mem) : oC l f a M = none := by
  unfold oC
  rw [oAlt_r (oSh_off h1 h2 h3 a M), oSt_off h4]
theorem hC_on {l : List Ins} {w x y : List Value} {b6 b7 o8 : Bool} (f : FuncId) (v : Value) (args : List Value) (m : Mem) (hc : (hC w x y b6 b7 o8 (oC l)).call f = some v) (hs : (hC w x y b6 b7 o8 (oC l)).says f args m v) : oC l f args m = some (v, (hC w x y b6 b7 o8 (oC l)).eff f m) := hs
theorem hC_off {l : List Ins} {w x y : List Value} {b6 b7 o8 : Bool} (f : FuncId) (hc : (hC w x y b6 b7 o8 (oC l)).call f = none) (a : List Value) (m : Mem) : oC l f a m = none :=
  oC_off (by rintro rfl; cases hc) (by rintro rfl; cases hc) (by rintro rfl; cases hc) (by rintro rfl; cases hc) a m
theorem hM_on {l : List Ins} (f : FuncId) (v : Value) (args : List Value) (m : Mem) (hc : (hM (oC l)).call f = some v) (hs : (hM (oC l)).says f args m v) : oC l f args m = some (v, (hM (oC l)).eff f m) := hs
theorem hM_off {l : List Ins} (f : FuncId) (hc : (hM (oC l)).call f = none) (a : List Value) (m : Mem) : oC l f a m = none :=
  oC_off (by rintro rfl; cases hc) (by rintro rfl; cases hc) (by rintro rfl; cases hc) (by rintro rfl; cases hc) a m
end
end Go.Proofs.YtipdeijgaabobaaGreatDoor.W
/-
  WCheck4: the boxes, the oracle.
-/
namespace Go.Proofs.YtipdeijgaabobaaGreatDoor.W
open Go Go.DI Go.DI.Kit Go.Proofs Go.Cmp Go.RowKit
noncomputable section
theorem img_blk (n nb : Nat) (h : 3 ≤ nb) : okB (imgB n) ∧ seenB nb (imgB n) := by
  constructor
  · intro u hu
    have hu : u ∈ [mpV, sliceN 1 n] := hu
    simp only [List.mem_cons, List.not_mem_nil, or_false] at hu
    rcases hu with rfl | rfl <;> rfl
  · intro u hu
    have hu : u ∈ [mpV, sliceN 1 n] := hu
    simp only [List.mem_cons, List.not_mem_nil, or_false] at hu
    rcases hu with rfl | rfl
    · show Nat.blt 2 nb = true
      simp [Nat.blt_eq]; omega
    · show Nat.blt 1 nb = true
      simp [Nat.blt_eq]; omega
/-- The boxes before the first loop, and before the second. -/
def ss3 (l : List Ins) (a c : Int) : List Blk := [.cells false (codeC l), mapB, imgB l.length, cI 0, cI 0, boxB, boxB, cI a, cI c, .cells true [sliceN 1 l.length]]
def ss5 (l : List Ins) (a c : Int) : List Blk := [.cells false (codeC l), mapB, imgB l.length, cI 0, cI 0, boxB, boxB, cI a, cI c, .cells true [sliceN 1 l.length], .cells true (boolsAt (startsL l) l.length), .cells true [slS (boolsAt (startsL l) l.length).length], .cells true [sliceN 1 l.length]]
theorem ss3_ok (l : List Ins) (a c : Int) : ∀ s ∈ ss3 l a c, okB s ∧ seenB (1 + (ss3 l a c).length) s := by
  intro s hs
  simp only [ss3, List.mem_cons, List.not_mem_nil, or_false] at hs
  rcases hs with rfl | rfl | rfl | rfl | rfl | rfl | rfl | rfl | rfl | rfl
  · exact plain_blk _ (codeC_plain l) _
  · exact plain_blk _ mapC_plain _
  · exact img_blk _ _ (by show 3 ≤ 11; decide)
  · exact plain_blk _ rfl _
  · exact plain_blk _ rfl _
  · exact plain_blk _ mapC_plain _
  · exact plain_blk _ mapC_plain _
  · exact plain_blk _ rfl _
  · exact plain_blk _ rfl _
  · exact slc_blk rfl rfl
theorem ss5_ok (l : List Ins) (a c : Int) : ∀ s ∈ ss5 l a c, okB s ∧ seenB (1 + (ss5 l a c).length) s := by
  intro s hs
  simp only [ss5, List.mem_cons, List.not_mem_nil, or_false] at hs
  rcases hs with rfl | rfl | rfl | rfl | rfl | rfl | rfl | rfl | rfl | rfl | rfl | rfl | rfl
  · exact plain_blk _ (codeC_plain l) _
  · exact plain_blk _ mapC_plain _
  · exact img_blk _ _ (by show 3 ≤ 14; decide)
  · exact plain_blk _ rfl _
  · exact plain_blk _ rfl _
  · exact plain_blk _ mapC_plain _
  · exact plain_blk _ mapC_plain _
  · exact plain_blk _ rfl _
  · exact plain_blk _ rfl _
  · exact slc_blk rfl rfl
  · exact bools_ok _ _ _
  · exact slc_blk rfl rfl
  · exact slc_blk rfl rfl
theorem ss3_cells (l : List Ins) (a c : Int) : ∀ s ∈ ss3 l a c, ∃ o c, s = .cells o c := by
  intro s hs
  simp only [ss3, List.mem_cons, List.not_mem_nil, or_false] at hs
  rcases hs with rfl | rfl | rfl | rfl | rfl | rfl | rfl | rfl | rfl | rfl <;> exact ⟨_, _, rfl⟩
theorem ss5_cells (l : List Ins) (a c : Int) : ∀ s ∈ ss5 l a c, ∃ o c, s = .cells o c := by
  intro s hs
  simp only [ss5, List.mem_cons, List.not_mem_nil, or_false] at hs
  rcases hs with rfl | rfl | rfl | rfl | rfl | rfl | rfl | rfl | rfl | rfl | rfl | rfl | rfl <;> exact ⟨_, _, rfl⟩
theorem oC_al {l : List Ins} {own : Bool} {M : Mem} {p : Int} {w : List Value} (ht : M.top) (h0 : M.get 0 = .cells false gl) (h1 : 2 < M.size) (gc : M.get 1 = .cells own (codeC l)) (gd : M.get 2 = mapB) (h : AlRun own (codeC l) l.length p w) (hw : w.all plain0 = true) : oC l 67 [imgM (sliceN 1 l.length), .int .i64 p] M = some (outW w, M) :=
  oAlt_l (oSh_al (d := 2) ht h0 (by omega) (by omega) (by decide) h1 (by decide) (by decide) gc gd h hw)
theorem oC_of {l : List Ins} {M : Mem} {x : Ins} {w : List Value} (ht : M.top) (h0 : M.get 0 = .cells false gl) (h1 : 1 ≤ M.size) (h : OfRun x w) (hw : w.all plain0 = true) : oC l 31 [.agg ⟨insC x⟩] M = some (outW w, M) :=
  oAlt_l (oSh_of ht h0 h1 h hw)
theorem oC_st {l : List Ins} {own : Bool} {M : Mem} (ht : M.top) (h0 : M.get 0 = .cells false gl) (h1 : 1 < M.size) (gc : M.get 1 = .cells own (codeC l)) : oC l 29 [sliceN 1 l.length] M = some (.slice (some ⟨M.size, 0, none⟩) l.length l.length, M.push (.cells true (boolsAt (startsL l) l.length))) := by
  unfold oC
  rw [oAlt_r (oSh_off (by decide) (by decide) (by decide) _ _)]
  exact if_pos ⟨rfl, rfl, ⟨own, gc⟩, fits1 ht h0 (by omega) h1 (by decide) gc⟩
end
end Go.Proofs.YtipdeijgaabobaaGreatDoor.W
/-
  WCheck5: shape.Check, its rounds.
-/
namespace Go.Proofs.YtipdeijgaabobaaGreatDoor.W
open Go Go.DI Go.DI.Kit Go.Proofs Go.Cmp Go.RowKit
noncomputable section
theorem mC3_at (l : List Ins) (a c : Int) : (mC3 (codeC l) l.length a c).get 0 = .cells false gl ∧ (mC3 (codeC l) l.length a c).get 1 = .cells false (codeC l) ∧ (mC3 (codeC l) l.length a c).get 2 = mapB ∧ (mC3 (codeC l) l.length a c).get 10 = .cells true [sliceN 1 l.length] ∧ (mC3 (codeC l) l.length a c).size = 11 := ⟨by kernel_rfl, by kernel_rfl, by kernel_rfl, by kernel_rfl, by kernel_rfl⟩
theorem mC5_at (l : List Ins) (a c : Int) (y : List Value) : (mC5 (codeC l) l.length a c y).get 0 = .cells false gl ∧ (mC5 (codeC l) l.length a c y).get 1 = .cells false (codeC l) ∧ (mC5 (codeC l) l.length a c y).get 2 = mapB ∧ (mC5 (codeC l) l.length a c y).get 13 = .cells true [sliceN 1 l.length] ∧ (mC5 (codeC l) l.length a c y).size = 14 := ⟨by kernel_rfl, by kernel_rfl, by kernel_rfl, by kernel_rfl, by kernel_rfl⟩
section
variable {B0 : Nat} {w0 W : World} {ι : Ren} {l : List Ins} {x1 : Nat → Value} {a1 : Act}
/-- A round of the first loop. -/
theorem rnd1 (hS : ShapeOk l) (hA : Alone l) (x : Pl l) {k d : Nat} {a c : Int} (hs : Go.DI.St B0 w0 ι (mC3 (codeC l) l.length a c) W) (ht : TRel ι 116 (fullN 116 (up x1 (knC ++ [(8, .int .i64 (x.1 : Int))]))) a1) {Q : Exit → Act → World → Prop} (hx : ¬ LetsOut Q)
    (hQ : ∀ a' W', Keeps W W' → Go.DI.St B0 w0 ι (mC3 (codeC l) l.length (x.1 : Int) (clsAt l x.1)) W' → Q .normal a' W') : b45_4.wpIn (FR k) d Tryz.prog Q a1 W := by
  obtain ⟨g0, g1, g2, _, gz⟩ := mC3_at l a c
  obtain ⟨op, z, w, r, hal⟩ := hA x.1 x.2
  have hrun := t_c4 x1 (oC l) (codeC l) l.length a c (x.1 : Int) (clsAt l x.1) op z w r
  refine st_pieceIn hmix hK hng (oC_ok hS B0) oC_grw hC_on hC_off (by kernel_rfl) hrun.1 hrun.2 (cons_p (oC_al (top_mS _) g0 (by rw [gz]; decide) g1 g2 hal (Wv_plain ..)) nil_p) hs (mS_only (ss3_cells l a c)) ht hx fun ι5 a5 W5 t5 hs5 ht5 hv5 hd5 hk5 hkp5 => ?_
  exact hQ a5 W5 hkp5 (cut_pre (ss := ss3 l (x.1 : Int) (clsAt l x.1)) (ex := [.cells true (Wv (clsAt l x.1) op z w r)]) hs5 (ss3_ok l _ _) (fun b hb => hk5 b (by rw [gz]; exact hb)) (fun b hb => hs.fresh b (by rw [gz]; exact hb)))
/-- A round of the second loop. -/
theorem rnd2 (hS : ShapeOk l) (x : Pl l) {k d : Nat} {a c : Int} (hs : Go.DI.St B0 w0 ι (mC5 (codeC l) l.length a c (boolsAt (startsL l) l.length)) W) (ht : TRel ι 116 (fullN 116 (up x1 (knC ++ [(11, ptrV 12 0), (12, .int .i64 (x.1 : Int))]))) a1) {Q : Exit → Act → World → Prop} (hx : ¬ LetsOut Q)
    (hQ : ∀ a' W', Keeps W W' → Go.DI.St B0 w0 ι (mC5 (codeC l) l.length a c (boolsAt (startsL l) l.length)) W' → Q .normal a' W') : b45_6.wpIn (FR k) d Tryz.prog Q a1 W := by
  obtain ⟨g0, g1, g2, _, gz⟩ := mC5_at l a c (boolsAt (startsL l) l.length)
  have hm := hS.most
  have hfin : ∀ (ex : List Blk) (ι5 : Ren) (a5 : Act) (W5 : World), Go.DI.St B0 w0 ι5 (mS gl (ss5 l a c ++ ex)) W5 → (∀ b, b < (mC5 (codeC l) l.length a c (boolsAt (startsL l) l.length)).size → ι5 b = ι b) → Keeps W W5 → Q .normal a5 W5 := fun ex ι5 a5 W5 hs5 hk5 hkp5 =>
    hQ a5 W5 hkp5 (cut_pre (ss := ss5 l a c) (ex := ex) hs5 (ss5_ok l _ _) (fun b hb => hk5 b (by rw [gz]; exact hb)) (fun b hb => hs.fresh b (by rw [gz]; exact hb)))
  have nojump : ∀ (y : Ins) (cl op z : Int) (w r : Bool), l[x.1]? = some y → OfRun y (Wv cl op z w r) → cl ≠ 6 → cl ≠ 7 → b45_6.wpIn (FR k) d Tryz.prog Q a1 W := fun y cl op z w r h1 hof n6 n7 => by
    have hrun := t_c6a x1 (oC l) (codeC l) (insC y) (boolsAt (startsL l) l.length) l.length a c (x.1 : Int) cl op z w r
    exact st_pieceIn hmix hK hng (oC_ok hS B0) oC_grw hC_on hC_off (by kernel_rfl) hrun.1 hrun.2 (cons_p (ixP_of h1) (cons_p (ldP_of h1) (cons_p (oC_of (top_mS _) g0 (by rw [gz]; decide) hof (Wv_plain ..)) (cons_p (ne3_t n6) (cons_p (ne3_t n7) nil_p))))) hs (mS_only (ss5_cells l a c)) ht hx fun ι5 a5 W5 t5 hs5 ht5 hv5 hd5 hk5 hkp5 => hfin [.cells true (Wv cl op z w r)] ι5 a5 W5 hs5 hk5 hkp5
  rcases hS.found x.1 x.2 with ⟨y, hy, h1⟩ | ⟨y, o, q, hq, hy, h1, ho1, ho2, hqe⟩ | ⟨n, h1, h2⟩
  · obtain ⟨op, z, w, r, hf, n6, n7⟩ := formI hy
    exact nojump y _ op z w r h1 hf.of n6 n7
  · obtain ⟨op, z, w, r, hf, h67⟩ := formJ (o := o) hy
    have hql : q < l.length := starts_lt hq
    have hpl : x.1 < l.length := starts_lt x.2
    have ht0 : tgt (x.1 : Int) o = (q : Int) := by
      unfold tgt
      have e1 : IntKind.wrap .i64 (Int.add (x.1 : Int) 1) = ((x.1 + 1 : Nat) : Int) := up_nat (by omega)
      have e2 : IntKind.wrap .i64 o = o := wrap_i64 ⟨by omega, by omega⟩
      rw [e1, e2]
      have e3 : Int.add ((x.1 + 1 : Nat) : Int) o = (q : Int) := by
        show ((x.1 + 1 : Nat) : Int) + o = q
        omega
      rw [e3]
      exact wrap_i64 ⟨by omega, by omega⟩
    have hy' : insC (offS y o) = insW (offS y o).op (offS y o).dst (offS y o).src o (offS y o).imm := rfl
    have hixp := ixP_of h1
    have hldp := ldP_of h1
    have hofr : OfRun (offS y o) (Wv (clsI (offS y o).op) op z w r) := hf.of
    have hcall := oC_of (l := l) (M := mC5 (codeC l) l.length a c (boolsAt (startsL l) l.length)) (top_mS _) g0 (by rw [gz]; decide) hofr (Wv_plain ..)
    rw [hy'] at hldp hcall
    have hlen : (boolsAt (startsL l) l.length).length = l.length := boolsAt_len _ _
    have tail : ∀ q' ∈ [ixP (x.1 : Int) l.length, ldP (codeC l) (x.1 : Int) (insW (offS y o).op (offS y o).dst (offS y o).src o (offS y o).imm), ls3 (tgt (x.1 : Int) o), ge3 (tgt (x.1 : Int) o) (boolsAt (startsL l) l.length).length, ixP (tgt (x.1 : Int) o) (boolsAt (startsL l) l.length).length, qB (boolsAt (startsL l) l.length) (tgt (x.1 : Int) o)], q' := by
      refine cons_p hixp (cons_p hldp (cons_p ?_ (cons_p ?_ (cons_p ?_ (cons_p ?_ nil_p)))))
      · rw [ht0]; unfold ls3; simp [binD, binInt, shiftB] <;> omega
      · rw [ht0, hlen]; unfold ge3; simp [binD, binInt, shiftB] <;> omega
      · rw [ht0, hlen]; exact ⟨by omega, by omega⟩
      · rw [ht0]
        show H.blkNth (.cells true (boolsAt (startsL l) l.length)) (Nat.add 0 (Nat.mul (q : Int).toNat 1)) = some (.bool true)
        have e : Nat.add 0 (Nat.mul (q : Int).toNat 1) = q := by
          show 0 + (q : Int).toNat * 1 = q
          simp
        rw [e]
        show (boolsAt (startsL l) l.length)[q]? = _
        rw [boolsAt_get, if_pos hql]
        simp [hq]
    rcases h67 with h6 | h7
    · have hrun := t_c6b x1 (oC l) (codeC l) (boolsAt (startsL l) l.length) l.length a c (x.1 : Int) (clsI (offS y o).op) op z (offS y o).op (offS y o).dst (offS y o).src o (offS y o).imm w r
      exact st_pieceIn hmix hK hng (oC_ok hS B0) oC_grw hC_on hC_off (by kernel_rfl) hrun.1 hrun.2 (cons_p hixp (cons_p hldp (cons_p hcall (cons_p (ne3_f h6) tail)))) hs (mS_only (ss5_cells l a c)) ht hx fun ι5 a5 W5 t5 hs5 ht5 hv5 hd5 hk5 hkp5 => hfin [.cells true (Wv (clsI (offS y o).op) op z w r), .cells true (insW (offS y o).op (offS y o).dst (offS y o).src o (offS y o).imm)] ι5 a5 W5 hs5 hk5 hkp5
    · have hrun := t_c6c x1 (oC l) (codeC l) (boolsAt (startsL l) l.length) l.length a c (x.1 : Int) (clsI (offS y o).op) op z (offS y o).op (offS y o).dst (offS y o).src o (offS y o).imm w r
      exact st_pieceIn hmix hK hng (oC_ok hS B0) oC_grw hC_on hC_off (by kernel_rfl) hrun.1 hrun.2 (cons_p hixp (cons_p hldp (cons_p hcall (cons_p (ne3_t (by rw [h7]; decide)) (cons_p (ne3_f h7) tail))))) hs (mS_only (ss5_cells l a c)) ht hx fun ι5 a5 W5 t5 hs5 ht5 hv5 hd5 hk5 hkp5 => hfin [.cells true (Wv (clsI (offS y o).op) op z w r), .cells true (insW (offS y o).op (offS y o).dst (offS y o).src o (offS y o).imm)] ι5 a5 W5 hs5 hk5 hkp5
  · exact nojump _ 10 0 0 false false h1 fm_const.1 (by decide) (by decide)
end
end
end Go.Proofs.YtipdeijgaabobaaGreatDoor.W
/-
  WCheck6: shape.Check of an image with a map: from start to end.
-/
namespace Go.Proofs.YtipdeijgaabobaaGreatDoor.W
open Go Go.DI Go.DI.Kit Go.Proofs Go.Cmp Go.RowKit
noncomputable section
theorem rel_weak2 {B0 : Nat} {ι : Ren} {own o2 : Bool} {L : List Value} {W : World} (hr : Rel B0 1 ι (mS gl [.cells own L, .cells o2 mapC]) W) : Rel B0 1 ι (mS gl [.cells false L, mapB]) W := by
  have hlive : ∀ b, ((mS gl [.cells false L, mapB]).get b).live → ((mS gl [.cells own L, .cells o2 mapC]).get b).live := fun b hb => by
    rw [mS_get] at hb ⊢
    split
    · rename_i h; rw [if_pos h] at hb; exact hb
    · rename_i h
      rw [if_neg h] at hb
      rcases hj : b - 1 with _ | _ | j
      · rw [hj] at hb; trivial
      · rw [hj] at hb; trivial
      · rw [hj] at hb; exact hb
  refine ⟨fun b L' hb hL => ?_, fun b₁ b₂ L₁ L₂ b1 b2 e1 e2 l1 l2 g0 e => hr.inj _ _ _ _ b1 b2 e1 e2 (hlive _ l1) (hlive _ l2) g0 e, hr.floor, hr.glob, top_mS _⟩
  have h := hr.blk b L' hb hL
  have hb : b < 3 := hb
  have : b = 0 ∨ b = 1 ∨ b = 2 := by omega
  rcases this with rfl | rfl | rfl
  · have e0 : ∀ o x, (mS gl [.cells o L, .cells x mapC]).get 0 = .cells false gl := fun o x => by rw [mS_get, if_pos (by decide), mG_get]
    rw [e0] at h
    show BlkRel _ _ ((mS gl [.cells false L, .cells false mapC]).get 0) _ _
    rw [e0]; exact h
  · have e1 : ∀ o x, (mS gl [.cells o L, .cells x mapC]).get 1 = .cells o L := fun o x => by rw [mS_get]; rfl
    rw [e1] at h
    show BlkRel _ _ ((mS gl [.cells false L, .cells false mapC]).get 1) _ _
    rw [e1]; exact weakB h
  · have e2 : ∀ o x, (mS gl [.cells o L, .cells x mapC]).get 2 = .cells x mapC := fun o x => by rw [mS_get]; rfl
    rw [e2] at h
    show BlkRel _ _ ((mS gl [.cells false L, .cells false mapC]).get 2) _ _
    rw [e2]; exact weakB h
theorem check_ok {B0 : Nat} {own o2 : Bool} {l : List Ins} (hS : ShapeOk l) (hA : Alone l) : CallOK Tryz.prog B0 1 28 [imgM (sliceN 1 l.length)] (mS gl [.cells own (codeC l), .cells o2 mapC]) (.tuple ⟨[.int .i64 0, .int .i64 0]⟩) (mS gl [.cells own (codeC l), .cells o2 mapC]) := by
  intro ι w args' hr hf hargs
  have hm := hS.most
  have hpos : 0 < l.length := List.length_pos_iff.2 hS.pos
  obtain ⟨ι0, hι0⟩ : ∃ ι0, (ι.sub id fun i => Nat.blt i (1 + [Blk.cells false (codeC l), mapB].length)) = ι0 := ⟨_, rfl⟩
  have hno : ∀ b, 3 ≤ b → ι0 b = none := fun b hb => by
    rw [← hι0]
    show (if Nat.blt b 3 = true then ι b else none) = none
    rw [if_neg (by simp [Nat.blt_eq]; omega)]
  have hr0 : Rel B0 1 ι0 (mC0 (codeC l)) w := by
    rw [← hι0]
    exact rel_cut (rel_weak2 hr) (fun s hs => by
      simp only [List.mem_cons, List.not_mem_nil, or_false] at hs
      rcases hs with rfl | rfl
      · exact plain_blk _ (codeC_plain l) _
      · exact plain_blk _ mapC_plain _)
  have hs0 : Go.DI.St B0 w ι0 (mC0 (codeC l)) w := ⟨hr0, fun b hb => hno b hb, Below.refl _ _, fun b L hL ho => by
    exfalso
    unfold mC0 at ho
    rw [mS_get] at ho
    split at ho
    · rename_i h0
      obtain rfl : b = 0 := by omega
      rw [mG_get] at ho; cases ho
    · rcases hj : b - 1 with _ | _ | j
      · rw [hj] at ho; cases ho
      · rw [hj] at ho; cases ho
      · rw [hj] at ho
        have ho : ((mG gl).get b).own = true := ho
        rw [mG_top gl b (by rw [mG_size]; omega)] at ho; cases ho⟩
  have hargs0 : VRels ι0 [imgM (sliceN 1 l.length)] args' := by
    cases hargs with
    | cons h t =>
      cases t
      refine .cons ?_ .nil
      have h1 : VSim id (fun i => Nat.blt i 3) (imgM (sliceN 1 l.length)) (imgM (sliceN 1 l.length)) := sim_agg (.cons (sim_slc (ρ := id) (i := 2) rfl) (.cons (sim_slc (ρ := id) (i := 1) rfl) .nil))
      rw [← hι0]
      exact h1 ι _ h
  have hst := start_rel (nt := 116) hargs0
  have e0 : fullN 116 (argX [imgM (sliceN 1 l.length)]) = fullN 116 (up (argX [imgM (sliceN 1 l.length)]) [(0, imgM (sliceN 1 l.length))]) := by rw [up_self _ _ (by intro q hq; obtain rfl := List.mem_singleton.1 hq; rfl)]
  have hst : TRel ι0 116 (fullN 116 (up (argX [imgM (sliceN 1 l.length)]) [(0, imgM (sliceN 1 l.length))])) { tmps := args'.toArray ++ Array.replicate (Tryz.f28.ntmps - args'.toArray.size) undef, defers := [] } := by
    rw [← e0]; exact hst
  refine (callsIn_wide (n := 1)).1 (callsIn_of_wp_marks at45 bd45 trivial ?_ rfl)
  rw [c45_eq]
  refine wpIn_seq (st_piece hmix hK hng (oC_ok hS B0) oC_grw hC_on hC_off (t_c0 _ (oC l) (codeC l) l.length).1 (t_c0 _ (oC l) (codeC l) l.length).2 nil_p hs0 (mS_only (all_cells rfl)) hst fun ι1 a1 W1 t1 hs1 ht1 hv1 hd1 _ hkp1 => ?_)
  simp only [Ex.to, Exit.then]
  obtain ⟨x1, hx1⟩ := ht1.full _ (at_of hv1)
  refine wpIn_seq (st_piece hmix hK hng (oC_ok hS B0) oC_grw hC_on hC_off (t_cb0 x1 (oC l) (codeC l) l.length).1 (t_cb0 x1 (oC l) (codeC l) l.length).2 (cons_p (eq0_of hpos) (cons_p (gt3_of (by show (l.length : Int) ≤ 512; omega)) (cons_p (gt3_of (by decide)) nil_p))) hs1 (mS_only (all_cells rfl)) hx1 fun ι2 a2 W2 t2 hs2 ht2 hv2 hd2 _ hkp2 => ?_)
  simp only [Ex.to, Exit.then]
  obtain ⟨x2, hx2⟩ := ht2.full _ (at_of hv2)
  refine wpIn_seq (st_piece hmix hK hng (oC_ok hS B0) oC_grw hM_on hM_off (t_cb1 x2 (oC l) (codeC l) l.length).1 (t_cb1 x2 (oC l) (codeC l) l.length).2 nil_p hs2 (mS_only (all_cells rfl)) hx2 fun ι3 a3 W3 t3 hs3 ht3 hv3 hd3 _ hkp3 => ?_)
  simp only [Ex.to, Exit.then]
  obtain ⟨x3, hx3⟩ := ht3.full _ (at_of hv3)
  refine wpIn_seq (st_piece hmix hK hng (oC_ok hS B0) oC_grw hC_on hC_off (t_c11 x3 (oC l) (codeC l) l.length).1 (t_c11 x3 (oC l) (codeC l) l.length).2 nil_p hs3 (mS_only (all_cells rfl)) hx3 fun ι4 a4 W4 t4 hs4 ht4 hv4 hd4 _ hkp4 => ?_)
  simp only [Ex.to, Exit.then]
  obtain ⟨x4, hx4⟩ := ht4.full knC (at_of hv4)
  refine wpIn_seq (wpIn_seq (st_piece hmix hK hng (oC_ok hS B0) oC_grw hC_on hC_off (t_c12 x4 (oC l) (codeC l) l.length 0 0).1 (t_c12 x4 (oC l) (codeC l) l.length 0 0).2 nil_p hs4 (mS_only (all_cells rfl)) hx4 fun ι5 a5 W5 t5 hs5 ht5 hv5 hd5 _ hkp5 => ?_))
  simp only [Ex.to, Exit.then]
  have hat5 := at_of hv5
  have h47 : t5.at 47 = cl93 10 := hat5 (47, cl93 10) (by simp [vsC])
  have hkn5 : ∀ p ∈ knC, t5.at p.1 = p.2 := fun p hp => hat5 p (by
    simp only [knC, List.mem_cons, List.not_mem_nil, or_false] at hp
    rcases hp with rfl | rfl | rfl | rfl | rfl <;> simp [vsC])
  obtain ⟨Lb, hLb, hfun⟩ := clos_at ht5 h47
  have hrel93 : ∀ (a c : Int) (W : World), Go.DI.St B0 w ι5 (mC3 (codeC l) l.length a c) W → Rel B0 1 (i93 ι5 10) (m93 (codeC l) l.length) W := fun a c W h => by
    obtain ⟨g0, g1, _, g7, gz⟩ := mC3_at l a c
    exact rel93 h (by rw [gz]; decide) (by rw [gz]; decide) (by decide) g0 g1 g7
  have hi2 : i93 ι5 10 2 = some Lb := by rw [i93_at ι5 10 2 (by decide)]; exact hLb
  have hsz5 : ∀ p, p < 116 → p < a5.tmps.size := fun p hp => by rw [ht5.1]; exact hp
  refine wpIn_block (range_di (m0 := mC3 (codeC l) l.length 0 0) (ι := ι5) hs5 (Ds := []) (fun D hD => by simp at hD) (by decide) hfun (enters_of at93 (by kernel_rfl) bd93) (iter_stops (hrel93 0 0 W5 hs5) hi2 hS) (fun h k => kpI_t h k) (fun W k o o' _ hk hno' _ => kpI_b W k o o' hk hno') (fun x => rfl)
    (fun pre => mC3 (codeC l) l.length (lastA pre) (lastC pre)) rfl (fun pre b hb => mS_cells (ss3_cells l _ _) b hb)
    (fun x => ({ tmps := a5.tmps.setIfInBounds 48 (.int .i64 (x.1 : Int)), defers := [] } : Act).put (some 8) (.int .i64 (x.1 : Int))) ?_ ?_ (fun pre W W' h _ => hrel93 _ _ W' h) ?_)
  · intro k x W K' hK'
    rw [aC1_eq]
    refine assign_one (op := aC1) (x := .tmp 48) rfl rfl ?_
    have ez : ((#[48] : Array Tmp).zip (encP l x)).foldl (fun t (p, v) => t.setIfInBounds p v) a5.tmps = a5.tmps.setIfInBounds 48 (.int .i64 (x.1 : Int)) := by simp [encP]
    rw [ez]
    have : ({ tmps := a5.tmps.setIfInBounds 48 (.int .i64 (x.1 : Int)), defers := [] } : Act).eval (.tmp 48) = .int .i64 (x.1 : Int) := by
      show (a5.tmps.setIfInBounds 48 (.int .i64 (x.1 : Int))).getD 48 undef = _
      rw [getD_setIfInBounds, if_pos ⟨rfl, hsz5 48 (by decide)⟩]
    rw [this]
    exact hK'
  · intro k pre x W Q' hx' hst' hQ'
    have ht6 : TRel ι5 116 ((t5.set 48 (.int .i64 (x.1 : Int))).set 8 (.int .i64 (x.1 : Int))) ((({ tmps := a5.tmps.setIfInBounds 48 (.int .i64 (x.1 : Int)), defers := [] } : Act)).put (some 8) (.int .i64 (x.1 : Int))) :=
      TRel.putD (n := 116) (dst := some 8) (TRel.setI (N := 116) ht5 (by decide) (.int _ _)) rfl (.int _ _)
    obtain ⟨x6, hx6⟩ := ht6.full (knC ++ [(8, .int .i64 (x.1 : Int))]) (by
      intro q hq
      rcases List.mem_append.1 hq with hq | hq
      · have hne : q.1 ≠ 8 ∧ q.1 ≠ 48 := by
          simp only [knC, List.mem_cons, List.not_mem_nil, or_false] at hq
          rcases hq with rfl | rfl | rfl | rfl | rfl <;> exact ⟨by simp, by simp⟩
        rw [Tmps.at_set_ne _ hne.1, Tmps.at_set_ne _ hne.2]
        exact hkn5 q hq
      · obtain rfl := List.mem_singleton.1 hq
        exact Tmps.at_set_same _ _ _)
    refine rnd1 hS hA x hst' hx6 hx' fun a' W' hk hst2 => hQ' a' W' hk ?_
    rw [lastA_snoc, lastC_snoc]
    exact hst2
  · intro D1 xs W hD1 hxs hst' hmk
    have hxs : xs.map Subtype.val = startsL l := hxs
    obtain ⟨init, pz, hl1, hl2⟩ := hS.last
    have hlast : ∃ a, lastC xs = 9 ∧ lastA xs = a := by
      refine ⟨_, ?_, rfl⟩
      have hxs2 := hxs.trans hl1
      have hne : xs ≠ [] := by rintro rfl; simp at hxs2
      obtain ⟨ys, z, rfl⟩ : ∃ ys z, xs = ys ++ [z] := ⟨xs.dropLast, xs.getLast hne, (List.dropLast_concat_getLast hne).symm⟩
      rw [lastC_snoc]
      rw [List.map_append] at hxs2
      have hz : z.1 = pz := by
        have := congrArg List.getLast? hxs2
        rw [List.getLast?_append, List.getLast?_append] at this
        simpa using this
      rw [hz, clsAt_of hl2]; rfl
    obtain ⟨aa, hc9, haa⟩ := hlast
    rw [hc9, haa] at hst'
    simp only [Exit.inBlock, Exit.then]
    have ht7 : TRel ι5 116 t5 { a5 with defers := { target := .collected D1, args := #[] } :: a5.defers } := ht5
    obtain ⟨x7, hx7⟩ := ht7.full knC hkn5
    obtain ⟨g30, g31, _, g37, g3z⟩ := mC3_at l aa 9
    have hylen : (boolsAt (startsL l) l.length).length = l.length := boolsAt_len _ _
    have hst69 : oC l 29 [sliceN 1 l.length] (mC3 (codeC l) l.length aa 9) = some (slS (boolsAt (startsL l) l.length).length, (mC3 (codeC l) l.length aa 9).push (.cells true (boolsAt (startsL l) l.length))) := by
      rw [oC_st (own := false) (M := mC3 (codeC l) l.length aa 9) (top_mS _) g30 (by rw [g3z]; decide) g31, g3z, hylen]; rfl
    refine wpIn_seq (st_piece hmix hK hng (oC_ok hS B0) oC_grw hC_on hC_off (t_c18 x7 (oC l) (codeC l) (boolsAt (startsL l) l.length) l.length aa 9).1 (t_c18 x7 (oC l) (codeC l) (boolsAt (startsL l) l.length) l.length aa 9).2 (cons_p hst69 nil_p) hst' (mS_only (ss3_cells l aa 9)) hx7 fun ι8 a8 W8 t8 hs8 ht8 hv8 hd8 _ hkp8 => ?_)
    simp only [Ex.to, Exit.then]
    obtain ⟨x8, hx8⟩ := ht8.full (knC ++ [(11, ptrV 12 0)]) (at_of hv8)
    refine wpIn_seq (wpIn_seq (st_piece hmix hK hng (oC_ok hS B0) oC_grw hC_on hC_off (t_c19 x8 (oC l) (codeC l) (boolsAt (startsL l) l.length) l.length aa 9).1 (t_c19 x8 (oC l) (codeC l) (boolsAt (startsL l) l.length) l.length aa 9).2 nil_p hs8 (mS_only (all_cells rfl)) hx8 fun ι9 a9 W9 t9 hs9 ht9 hv9 hd9 _ hkp9 => ?_))
    simp only [Ex.to, Exit.then]
    have hat9 := at_of hv9
    have h67 : t9.at 67 = cl93 13 := hat9 (67, cl93 13) (by simp [vsC])
    have hkn9 : ∀ p ∈ knC ++ [(11, ptrV 12 0)], t9.at p.1 = p.2 := fun p hp => hat9 p (by
      simp only [knC, List.cons_append, List.nil_append, List.mem_cons, List.not_mem_nil, or_false] at hp
      rcases hp with rfl | rfl | rfl | rfl | rfl | rfl <;> simp [vsC])
    obtain ⟨Lb9, hLb9, hfun9⟩ := clos_at ht9 h67
    have hrel9 : ∀ (W : World), Go.DI.St B0 w ι9 (mC5 (codeC l) l.length aa 9 (boolsAt (startsL l) l.length)) W → Rel B0 1 (i93 ι9 13) (m93 (codeC l) l.length) W := fun W h => by
      obtain ⟨g0, g1, _, g7, gz⟩ := mC5_at l aa 9 (boolsAt (startsL l) l.length)
      exact rel93 h (by rw [gz]; decide) (by rw [gz]; decide) (by decide) g0 g1 g7
    have hi9 : i93 ι9 13 2 = some Lb9 := by rw [i93_at ι9 13 2 (by decide)]; exact hLb9
    have hsz9 : ∀ p, p < 116 → p < a9.tmps.size := fun p hp => by rw [ht9.1]; exact hp
    have hmk9 : Marks [D1] W9 := (hmk.keeps hkp8).keeps hkp9
    refine wpIn_block (range_di (m0 := mC5 (codeC l) l.length aa 9 (boolsAt (startsL l) l.length)) (ι := ι9) hs9 (Ds := [D1]) hmk9 (by decide) hfun9 (enters_of at93 (by kernel_rfl) bd93) (iter_stops (hrel9 W9 hs9) hi9 hS) (fun h k => kpI_t h k) (fun W k o o' _ hk hno' _ => kpI_b W k o o' hk hno') (fun x => rfl)
      (fun _ => mC5 (codeC l) l.length aa 9 (boolsAt (startsL l) l.length)) rfl (fun pre b hb => mS_cells (ss5_cells l _ _) b hb)
      (fun x => ({ tmps := a9.tmps.setIfInBounds 68 (.int .i64 (x.1 : Int)), defers := [] } : Act).put (some 12) (.int .i64 (x.1 : Int))) ?_ ?_ (fun pre W W' h _ => hrel9 W' h) ?_)
    · intro k x W K' hK'
      rw [aC2_eq]
      refine assign_one (op := aC2) (x := .tmp 68) rfl rfl ?_
      have ez : ((#[68] : Array Tmp).zip (encP l x)).foldl (fun t (p, v) => t.setIfInBounds p v) a9.tmps = a9.tmps.setIfInBounds 68 (.int .i64 (x.1 : Int)) := by simp [encP]
      rw [ez]
      have : ({ tmps := a9.tmps.setIfInBounds 68 (.int .i64 (x.1 : Int)), defers := [] } : Act).eval (.tmp 68) = .int .i64 (x.1 : Int) := by
        show (a9.tmps.setIfInBounds 68 (.int .i64 (x.1 : Int))).getD 68 undef = _
        rw [getD_setIfInBounds, if_pos ⟨rfl, hsz9 68 (by decide)⟩]
      rw [this]
      exact hK'
    · intro k pre x W Q' hx' hst2 hQ'
      have ht6 : TRel ι9 116 ((t9.set 68 (.int .i64 (x.1 : Int))).set 12 (.int .i64 (x.1 : Int))) ((({ tmps := a9.tmps.setIfInBounds 68 (.int .i64 (x.1 : Int)), defers := [] } : Act)).put (some 12) (.int .i64 (x.1 : Int))) :=
        TRel.putD (n := 116) (dst := some 12) (TRel.setI (N := 116) ht9 (by decide) (.int _ _)) rfl (.int _ _)
      obtain ⟨x6, hx6⟩ := ht6.full (knC ++ [(11, ptrV 12 0), (12, .int .i64 (x.1 : Int))]) (by
        intro q hq
        have hq : q ∈ (knC ++ [(11, ptrV 12 0)]) ++ [(12, .int .i64 (x.1 : Int))] := by simpa using hq
        rcases List.mem_append.1 hq with hq | hq
        · have hne : q.1 ≠ 12 ∧ q.1 ≠ 68 := by
            simp only [knC, List.cons_append, List.nil_append, List.mem_cons, List.not_mem_nil, or_false] at hq
            rcases hq with rfl | rfl | rfl | rfl | rfl | rfl <;> exact ⟨by simp, by simp⟩
          rw [Tmps.at_set_ne _ hne.1, Tmps.at_set_ne _ hne.2]
          exact hkn9 q hq
        · obtain rfl := List.mem_singleton.1 hq
          exact Tmps.at_set_same _ _ _)
      exact rnd2 hS x hst2 hx6 hx' hQ'
    · intro D2 xs2 W' hD2 _ hst2 hmk2
      simp only [Exit.inBlock, Exit.then]
      have ht10 : TRel ι9 116 t9 { a9 with defers := { target := .collected D2, args := #[] } :: a9.defers } := ht9
      obtain ⟨x10, hx10⟩ := ht10.full knC (fun p hp => hkn9 p (List.mem_append_left _ hp))
      refine wpIn_seq (st_piece hmix hK hng (oC_ok hS B0) oC_grw hC_on hC_off (t_ce x10 (oC l) (codeC l) (boolsAt (startsL l) l.length) l.length aa).1 (t_ce x10 (oC l) (codeC l) (boolsAt (startsL l) l.length) l.length aa).2 (cons_p (ne3_t (by decide)) nil_p) hst2 (mS_only (ss5_cells l _ _)) hx10 fun ι11 a11 W11 t11 hs11 ht11 hv11 hd11 _ hkp11 => ?_)
      simp only [Ex.to, Exit.then]
      obtain ⟨x11, hx11⟩ := ht11.full knC (at_of hv11)
      refine wpIn_seq (st_piece hmix hK hng (oC_ok hS B0) oC_grw hC_on hC_off (t_c28 x11 (oC l) (codeC l) (boolsAt (startsL l) l.length) l.length aa 9).1 (t_c28 x11 (oC l) (codeC l) (boolsAt (startsL l) l.length) l.length aa 9).2 nil_p hs11 (mS_only (ss5_cells l _ _)) hx11 fun ι12 a12 W12 t12 hs12 ht12 hv12 hd12 _ hkp12 => ?_)
      simp only [Ex.to, Exit.then]
      refine wpIn_ret ?_
      have hmk12 : Marks [D2, D1] W12 := (hmk2.keeps hkp11).keeps hkp12
      have hde : a12.defers = [{ target := .collected D2, args := #[] }, { target := .collected D1, args := #[] }] := by
        rw [hd12, hd11]
        show _ :: a9.defers = _
        rw [hd9, hd8]
        show _ :: _ :: a5.defers = _
        rw [hd5, hd4, hd3, hd2, hd1]
      have hm2 := hmk12 D2 (by simp)
      have hm1 := hmk12 D1 (by simp)
      have hD1lt : D1 < W9.heap.size := (Array.getElem?_eq_some_iff.1 (hmk9 D1 (by simp))).1
      have hne : D1 ≠ D2 := by omega
      obtain ⟨W13, hW13⟩ : ∃ W13, W12.putObj D2 (.deferred none) = W13 := ⟨_, rfl⟩
      have hm1' : W13.heap[D1]? = some (.deferred (some [])) := by rw [← hW13]; exact (World.putObj_heap_other hne).trans hm1
      obtain ⟨W14, hW14⟩ : ∃ W14, W13.putObj D1 (.deferred none) = W14 := ⟨_, rfl⟩
      have hs13 : Go.DI.St B0 w ι12 (mC5 (codeC l) l.length aa 9 (boolsAt (startsL l) l.length)) W13 := by
        rw [← hW13]
        exact hs12.grown (fun b hb => mS_cells (ss5_cells l _ _) b hb) (B := w.heap.size) (Nat.le_refl _) (grownBy_putObj' W12 D2 _) (fun r e => by
          cases e
          exact ⟨Nat.le_trans hs9.below.size hD2, _, hm2, rfl⟩)
      have hs14 : Go.DI.St B0 w ι12 (mC5 (codeC l) l.length aa 9 (boolsAt (startsL l) l.length)) W14 := by
        rw [← hW14]
        exact hs13.grown (fun b hb => mS_cells (ss5_cells l _ _) b hb) (B := w.heap.size) (Nat.le_refl _) (grownBy_putObj' W13 D1 _) (fun r e => by
          cases e
          exact ⟨Nat.le_trans hs5.below.size hD1, _, hm1', rfl⟩)
      obtain ⟨x12, hx12⟩ := ht12.full [(2, ptrV 4 0), (3, ptrV 5 0)] (at_of hv12)
      have hres : resD Tryz.prog (fullN 116 (up x12 [(2, ptrV 4 0), (3, ptrV 5 0)])) (mC5 (codeC l) l.length aa 9 (boolsAt (startsL l) l.length)) Tryz.f28.results.toList = some [.int .i64 0, .int .i64 0] := by kernel_rfl
      obtain ⟨v', q1, q2⟩ := results_ok (P := Tryz.prog) hs14.rel hx12 hres
      show LeavesInM Fence.wide 1 Tryz.prog Tryz.f28 a12.tmps _ a12.defers .returning W12
      rw [hde]
      refine ⟨by simp, .inl ⟨D2, W13, rfl, by rw [← hW13]; exact run_takeDeferred hm2, by simp, .inl ⟨D1, W14, rfl, by rw [← hW14]; exact run_takeDeferred hm1', v', q1, ?_⟩⟩⟩
      have hb14 : Below w.heap.size w W14 := hs14.below
      refine ⟨v', ι, rfl, ?_, rel_below hr hb14, ⟨fun _ _ h => h, fun _ _ => rfl, hb14.os, hb14.output, hb14.tape, hb14.size, fun B hB _ => hb14.block B hB, fun b L h1 h2 => by omega, Nat.le_refl _, fun b _ h => h⟩⟩
      have hfree : Free (.tuple ⟨[.int .i64 0, .int .i64 0]⟩) := free_tuple (by
        intro x hx
        have hx : x ∈ [Value.int .i64 0, Value.int .i64 0] := hx
        simp only [List.mem_cons, List.not_mem_nil, or_false] at hx
        rcases hx with rfl | rfl <;> exact free_int _ _)
      exact hfree _ _ _ q2
end
end Go.Proofs.YtipdeijgaabobaaGreatDoor.W
/-
  FFlow: FlowKnown: the images of its rows, and what a check of them answers on any memory.
-/
namespace Go.Proofs.YtipdeijgaabobaaGreatDoor
open Go Go.DI Go.DI.Kit Go.Proofs Go.Cmp Go.RowKit
noncomputable section
def lA : List Ins := [⟨97, 2, 1, 0, 0⟩, ⟨53, 2, 0, 0, 14⟩, ⟨149, 0, 0, 0, 0⟩]
def lB : List Ins := [⟨21, 0, 0, 0, 0⟩, ⟨149, 0, 0, 0, 0⟩]
def lC : List Ins := [⟨121, 3, 2, 0, 0⟩, ⟨149, 0, 0, 0, 0⟩]
theorem lA_ok : ShapeOk lA where
  pos := by decide
  most := by decide
  found p hp := by
    have e : startsL lA = [0, 1, 2] := by decide
    rw [e] at hp
    simp only [List.mem_cons, List.not_mem_nil, or_false] at hp
    rcases hp with rfl | rfl | rfl
    · exact .inl ⟨_, .load (z := 4) (d := 2) (s := 1) (o := 0) (.inr (.inr (.inl rfl))) ⟨by decide, by decide⟩ ⟨by decide, by decide⟩, rfl⟩
    · exact .inr (.inl ⟨iIf 3 2 14, 0, 2, by rw [e]; decide, .jif (.inl rfl) ⟨by decide, by decide⟩, rfl, by decide, by decide, by decide⟩)
    · exact .inl ⟨_, .exit, rfl⟩
  last := ⟨[0, 1], 2, by decide, rfl⟩
theorem lB_ok : ShapeOk lB where
  pos := by decide
  most := by decide
  found p hp := by
    have e : startsL lB = [0, 1] := by decide
    rw [e] at hp
    simp only [List.mem_cons, List.not_mem_nil, or_false] at hp
    rcases hp with rfl | rfl
    · exact .inr (.inl ⟨iIf 1 0 0, 0, 1, by rw [e]; decide, .jif (.inr (.inr (.inr (.inr rfl)))) ⟨by decide, by decide⟩, rfl, by decide, by decide, by decide⟩)
    · exact .inl ⟨_, .exit, rfl⟩
  last := ⟨[0], 1, by decide, rfl⟩
theorem lC_ok : ShapeOk lC where
  pos := by decide
  most := by decide
  found p hp := by
    have e : startsL lC = [0, 1] := by decide
    rw [e] at hp
    simp only [List.mem_cons, List.not_mem_nil, or_false] at hp
    rcases hp with rfl | rfl
    · exact .inl ⟨_, .load (z := 8) (d := 3) (s := 2) (o := 0) (.inr (.inr (.inr rfl))) ⟨by decide, by decide⟩ ⟨by decide, by decide⟩, rfl⟩
    · exact .inl ⟨_, .exit, rfl⟩
  last := ⟨[0], 1, by decide, rfl⟩
set_option maxRecDepth 100000 in
theorem al_b0 : ((H.callX H.noHint noOrc Tryz.prog kp 1 20 67 [W.imgM (sliceN 1 2), .int .i64 0] (mS gl [.cells false (codeC lB), W.mapB]) fun v m => some ((v, m.get 0, m.get 1, m.get 2), [], [])).map fun x => (x.1, x.2.2)) = some ((outW (Wv 6 1 0 true false), .cells false gl, .cells false (codeC lB), W.mapB), []) := by kernel_rfl
theorem al_b0e : ((H.callX H.noHint noOrc Tryz.prog kp 1 20 67 [W.imgM (sliceN 1 2), .int .i64 0] (mS gl [.cells false (codeC lB), W.mapB]) fun v m => some ((v, m.get 0, m.get 1, m.get 2), [], [])).map fun x => x.2.1.map Prod.fst) = ((H.callX H.noHint noOrc Tryz.prog kp 1 20 67 [W.imgM (sliceN 1 2), .int .i64 0] (mS gl [.cells false (codeC lB), W.mapB]) fun v m => some ((v, m.get 0, m.get 1, m.get 2), [], [])).map fun x => x.2.1.map Prod.snd) := by kernel_rfl
set_option maxRecDepth 100000 in
theorem al_b1 : ((H.callX H.noHint noOrc Tryz.prog kp 1 20 67 [W.imgM (sliceN 1 2), .int .i64 1] (mS gl [.cells false (codeC lB), W.mapB]) fun v m => some ((v, m.get 0, m.get 1, m.get 2), [], [])).map fun x => (x.1, x.2.2)) = some ((outW (Wv 9 0 0 false false), .cells false gl, .cells false (codeC lB), W.mapB), []) := by kernel_rfl
theorem al_b1e : ((H.callX H.noHint noOrc Tryz.prog kp 1 20 67 [W.imgM (sliceN 1 2), .int .i64 1] (mS gl [.cells false (codeC lB), W.mapB]) fun v m => some ((v, m.get 0, m.get 1, m.get 2), [], [])).map fun x => x.2.1.map Prod.fst) = ((H.callX H.noHint noOrc Tryz.prog kp 1 20 67 [W.imgM (sliceN 1 2), .int .i64 1] (mS gl [.cells false (codeC lB), W.mapB]) fun v m => some ((v, m.get 0, m.get 1, m.get 2), [], [])).map fun x => x.2.1.map Prod.snd) := by kernel_rfl
theorem lB_alone : W.Alone lB := fun p hp => by
  have e : startsL lB = [0, 1] := by decide
  rw [e] at hp
  simp only [List.mem_cons, List.not_mem_nil, or_false] at hp
  rcases hp with rfl | rfl
  · refine ⟨1, 0, true, false, ?_⟩
    obtain ⟨v, m, hr, he⟩ := H.callX_run al_b0 al_b0e
    have e1 : v = _ := congrArg (fun x => x.1) he
    have e2 : m.get 0 = _ := congrArg (fun x => x.2.1) he
    have e3 : m.get 1 = _ := congrArg (fun x => x.2.2.1) he
    have e4 : m.get 2 = _ := congrArg (fun x => x.2.2.2) he
    exact ⟨m, hr.trans (by rw [e1]; rfl), e2, e3, e4⟩
  · refine ⟨0, 0, false, false, ?_⟩
    obtain ⟨v, m, hr, he⟩ := H.callX_run al_b1 al_b1e
    have e1 : v = _ := congrArg (fun x => x.1) he
    have e2 : m.get 0 = _ := congrArg (fun x => x.2.1) he
    have e3 : m.get 1 = _ := congrArg (fun x => x.2.2.1) he
    have e4 : m.get 2 = _ := congrArg (fun x => x.2.2.2) he
    exact ⟨m, hr.trans (by rw [e1]; rfl), e2, e3, e4⟩
end
end Go.Proofs.YtipdeijgaabobaaGreatDoor
/-
  FFlow2: FlowKnown: the oracle of its checks.
-/
namespace Go.Proofs.YtipdeijgaabobaaGreatDoor
open Go Go.DI Go.DI.Kit Go.Proofs Go.Cmp Go.RowKit
noncomputable section
def isCd (l : List Ins) (M : Mem) (b : Nat) : Bool := Nat.blt 0 b && (Nat.blt b M.size && (blkIs (M.get b) (codeC l) && blkGl (M.get 0)))
theorem isCd_at {l : List Ins} {M : Mem} {b : Nat} (h : isCd l M b = true) : b ≠ 0 ∧ b < M.size ∧ (∃ o, M.get b = .cells o (codeC l)) ∧ M.get 0 = .cells false gl := by
  unfold isCd at h
  simp only [Bool.and_eq_true, Nat.blt_eq] at h
  exact ⟨by omega, h.2.1, blkIs_eq h.2.2.1, blkGl_eq h.2.2.2⟩
def blkMp (B : Blk) : Bool := match B with
  | .cells _ c => vsEqI c W.mapC
  | _ => false
theorem blkMp_eq {B : Blk} (h : blkMp B = true) : ∃ o, B = .cells o W.mapC := by
  unfold blkMp at h
  split at h
  · exact ⟨_, by rw [vsEqI_eq h]⟩
  · cases h
def isMp (M : Mem) (b d : Nat) : Bool := Nat.blt 0 d && (Nat.blt d M.size && (blkMp (M.get d) && !Nat.beq b d))
theorem isMp_at {M : Mem} {b d : Nat} (h : isMp M b d = true) : d ≠ 0 ∧ d < M.size ∧ (∃ o, M.get d = .cells o W.mapC) ∧ b ≠ d := by
  unfold isMp at h
  simp only [Bool.and_eq_true, Nat.blt_eq, Bool.not_eq_true'] at h
  refine ⟨by omega, h.2.1, blkMp_eq h.2.2.1, fun e => ?_⟩
  subst e
  have := h.2.2.2
  rw [Nat.beq_refl] at this; cases this
/-- Which code is it. -/
def codeAt (n : Nat) (M : Mem) (b : Nat) : Option (List Ins) :=
  cond (Nat.beq n 2 && isCd lW M b) (some lW) (cond (Nat.beq n 3 && isCd lA M b) (some lA) (cond (Nat.beq n 2 && isCd lB M b) (some lB) (cond (Nat.beq n 2 && isCd lC M b) (some lC) none)))
theorem codeAt_some {n b : Nat} {M : Mem} {l : List Ins} (h : codeAt n M b = some l) : ShapeOk l ∧ l.length = n ∧ isCd l M b = true := by
  unfold codeAt at h
  cases h1 : (Nat.beq n 2 && isCd lW M b) with
  | true =>
    rw [h1] at h; cases h
    simp only [Bool.and_eq_true, Nat.beq_eq] at h1
    exact ⟨lW_ok, h1.1.symm, h1.2⟩
  | false =>
    rw [h1] at h
    cases h2 : (Nat.beq n 3 && isCd lA M b) with
    | true =>
      rw [h2] at h; cases h
      simp only [Bool.and_eq_true, Nat.beq_eq] at h2
      exact ⟨lA_ok, h2.1.symm, h2.2⟩
    | false =>
      rw [h2] at h
      cases h3 : (Nat.beq n 2 && isCd lB M b) with
      | true =>
        rw [h3] at h; cases h
        simp only [Bool.and_eq_true, Nat.beq_eq] at h3
        exact ⟨lB_ok, h3.1.symm, h3.2⟩
      | false =>
        rw [h3] at h
        cases h4 : (Nat.beq n 2 && isCd lC M b) with
        | true =>
          rw [h4] at h; cases h
          simp only [Bool.and_eq_true, Nat.beq_eq] at h4
          exact ⟨lC_ok, h4.1.symm, h4.2⟩
        | false => rw [h4] at h; cases h
def g28 (a : List Value) (M : Mem) : Option (Value × Mem) := match a with
  | [.agg ⟨[.slice none 0 0, .slice (some ⟨b, 0, none⟩) n m]⟩] => cond (Nat.beq n m) (match codeAt n M b with | some _ => some (okT, M) | none => none) none
  | [.agg ⟨[.slice (some ⟨d, 0, none⟩) 1 1, .slice (some ⟨b, 0, none⟩) n m]⟩] => cond (Nat.beq n 2 && (Nat.beq m 2 && (isCd lB M b && isMp M b d))) (some (okT, M)) none
  | _ => none
def g29 (a : List Value) (M : Mem) : Option (Value × Mem) := match a with
  | [.slice (some ⟨b, 0, none⟩) n m] => cond (Nat.beq n m) (match codeAt n M b with | some l => some (.slice (some ⟨M.size, 0, none⟩) n n, M.push (.cells true (boolsAt (startsL l) n))) | none => none) none
  | _ => none
def oG (t : Tab) : Orc := fun f args m => cond (Nat.beq f 28) (g28 args m) (cond (Nat.beq f 29) (g29 args m) (oTab t f args m))
theorem oG_cases {t : Tab} {f : FuncId} {a : List Value} {M M' : Mem} {v : Value} (h : oG t f a M = some (v, M')) : (f = 28 ∧ g28 a M = some (v, M')) ∨ (f = 29 ∧ g29 a M = some (v, M')) ∨ oTab t f a M = some (v, M') := by
  unfold oG at h
  cases h1 : Nat.beq f 28 with
  | true => rw [h1] at h; exact .inl ⟨Nat.eq_of_beq_eq_true h1, h⟩
  | false =>
    rw [h1] at h
    cases h2 : Nat.beq f 29 with
    | true => rw [h2] at h; exact .inr (.inl ⟨Nat.eq_of_beq_eq_true h2, h⟩)
    | false => rw [h2] at h; exact .inr (.inr h)
theorem g29_some {a : List Value} {M M' : Mem} {v : Value} (h : g29 a M = some (v, M')) : ∃ b l, a = [sliceN b l.length] ∧ ShapeOk l ∧ isCd l M b = true ∧ v = .slice (some ⟨M.size, 0, none⟩) l.length l.length ∧ M' = M.push (.cells true (boolsAt (startsL l) l.length)) := by
  unfold g29 at h
  split at h
  · rename_i b n m
    cases hnm : Nat.beq n m with
    | false => rw [hnm] at h; cases h
    | true =>
      obtain rfl := Nat.eq_of_beq_eq_true hnm
      rw [hnm] at h
      simp only [cond_true] at h
      cases hc : codeAt n M b with
      | none => rw [hc] at h; cases h
      | some l =>
        rw [hc] at h
        obtain ⟨q1, rfl, q3⟩ := codeAt_some hc
        simp only [Option.some.injEq, Prod.mk.injEq] at h
        exact ⟨b, l, rfl, q1, q3, h.1.symm, h.2.symm⟩
  · cases h
theorem g28_some {a : List Value} {M M' : Mem} {v : Value} (h : g28 a M = some (v, M')) : ((∃ b l, a = [imgV (sliceN b l.length)] ∧ ShapeOk l ∧ isCd l M b = true) ∨ ∃ b d, a = [.agg ⟨[.slice (some ⟨d, 0, none⟩) 1 1, sliceN b 2]⟩] ∧ isCd lB M b = true ∧ isMp M b d = true) ∧ v = okT ∧ M' = M := by
  unfold g28 at h
  split at h
  · rename_i b n m
    cases hnm : Nat.beq n m with
    | false => rw [hnm] at h; cases h
    | true =>
      obtain rfl := Nat.eq_of_beq_eq_true hnm
      rw [hnm] at h
      simp only [cond_true] at h
      cases hc : codeAt n M b with
      | none => rw [hc] at h; cases h
      | some l =>
        rw [hc] at h
        obtain ⟨q1, rfl, q3⟩ := codeAt_some hc
        simp only [Option.some.injEq, Prod.mk.injEq] at h
        exact ⟨.inl ⟨b, l, rfl, q1, q3⟩, h.1.symm, h.2.symm⟩
  · rename_i d b n m
    cases hc : (Nat.beq n 2 && (Nat.beq m 2 && (isCd lB M b && isMp M b d))) with
    | false => rw [hc] at h; cases h
    | true =>
      rw [hc] at h
      simp only [Bool.and_eq_true, Nat.beq_eq] at hc
      obtain ⟨rfl, rfl, h3, h4⟩ := hc
      simp only [cond_true, Option.some.injEq, Prod.mk.injEq] at h
      exact ⟨.inr ⟨b, d, rfl, h3, h4⟩, h.1.symm, h.2.symm⟩
  · cases h
theorem oG_grw (t : Tab) : CfGrw (oG t) := fun f a M v M' h => by
  rcases oG_cases h with ⟨rfl, h⟩ | ⟨rfl, h⟩ | h
  · obtain ⟨_, rfl, rfl⟩ := g28_some h
    exact Grw.refl _
  · obtain ⟨b, l, rfl, _, hc, rfl, rfl⟩ := g29_some h
    refine ⟨by show M.size ≤ M.size + 1; omega, fun ht => top_push ht, fun b hb hl => ?_, fun b hb ho => ?_⟩
    · rw [Mem.get_push_ne _ (by omega)] at hl; exact hl
    · rw [Mem.get_push_ne _ (by omega)] at ho; exact ho
  · exact oTab_grw t _ _ _ _ _ h
/-- The check of one code, on the small memory, as an oracle. -/
noncomputable def oC3 (l : List Ins) (own : Bool) : Orc := fun f a M => open Classical in if f = 28 ∧ a = [imgV (sliceN 1 l.length)] ∧ M = mS gl [.cells own (codeC l)] then some (okT, M) else none
theorem oC3_grw (l : List Ins) (own : Bool) : CfGrw (oC3 l own) := fun f a M v M' h => by
  unfold oC3 at h
  split at h
  · simp only [Option.some.injEq, Prod.mk.injEq] at h; rw [← h.2]; exact Grw.refl _
  · cases h
theorem oC3_ok {l : List Ins} (hS : ShapeOk l) (own : Bool) (B0 : Nat) : CfOK Tryz.prog B0 1 (oC3 l own) := by
  refine ⟨fun f a M v M' h => (oC3_grw l own f a M v M' h).size, fun f a M v M' h => ?_, fun f a M v M' h => ?_⟩
  all_goals
    unfold oC3 at h
    split at h
    case isFalse => cases h
    rename_i hc
    obtain ⟨rfl, rfl, rfl⟩ := hc
    simp only [Option.some.injEq, Prod.mk.injEq] at h
    obtain ⟨rfl, rfl⟩ := h
  · exact check_ok hS
  · exact hasB (by kernel_rfl)
theorem check_atL {B0 : Nat} {M : Mem} {b : Nat} {l : List Ins} (hS : ShapeOk l) (ht : M.top) (h : isCd l M b = true) : CallOK Tryz.prog B0 1 28 [imgV (sliceN b l.length)] M okT M := by
  obtain ⟨h0, h1, ⟨o, h2⟩, h3⟩ := isCd_at h
  have hF := fits1 (l := l) (o1 := o) ht h3 (by omega) h1 h0 h2
  have hrun : oC3 l o 28 [imgV (sliceN 1 l.length)] (mS gl [M.get b]) = some (okT, mS gl [M.get b]) := by rw [h2]; exact if_pos ⟨rfl, rfl, rfl⟩
  refine (emb_pure (v' := okT) free_gl (oC3_ok hS o B0) (oC3_grw l o) hF hrun (.cons (sim_agg (.cons ((free_slc0 _ _).sim _ _) (.cons (sim_slc (ρ := rhoE [b] M) (i := 1) rfl) .nil))) .nil) ((plain2_free rfl).embA _ _) ?_ ?_).1
  · rw [mS_get, if_pos (by decide), mG_get]
  · intro i s hs
    rcases i with _ | i
    · cases hs; rw [mS_get]; rfl
    · cases hs
noncomputable def oC4 (own o2 : Bool) : Orc := fun f a M => open Classical in if f = 28 ∧ a = [W.imgM (sliceN 1 2)] ∧ M = mS gl [.cells own (codeC lB), .cells o2 W.mapC] then some (okT, M) else none
theorem oC4_grw (own o2 : Bool) : CfGrw (oC4 own o2) := fun f a M v M' h => by
  unfold oC4 at h
  split at h
  · simp only [Option.some.injEq, Prod.mk.injEq] at h; rw [← h.2]; exact Grw.refl _
  · cases h
theorem oC4_ok (own o2 : Bool) (B0 : Nat) : CfOK Tryz.prog B0 1 (oC4 own o2) := by
  refine ⟨fun f a M v M' h => (oC4_grw own o2 f a M v M' h).size, fun f a M v M' h => ?_, fun f a M v M' h => ?_⟩
  all_goals
    unfold oC4 at h
    split at h
    case isFalse => cases h
    rename_i hc
    obtain ⟨rfl, rfl, rfl⟩ := hc
    simp only [Option.some.injEq, Prod.mk.injEq] at h
    obtain ⟨rfl, rfl⟩ := h
  · exact W.check_ok (l := lB) lB_ok lB_alone
  · exact hasB (by kernel_rfl)
theorem check_atM {B0 : Nat} {M : Mem} {b d : Nat} (ht : M.top) (h : isCd lB M b = true) (hd : isMp M b d = true) : CallOK Tryz.prog B0 1 28 [.agg ⟨[.slice (some ⟨d, 0, none⟩) 1 1, sliceN b 2]⟩] M okT M := by
  obtain ⟨h0, h1, ⟨o, h2⟩, h3⟩ := isCd_at h
  obtain ⟨d0, d1, ⟨o2, d2⟩, d3⟩ := isMp_at hd
  have hF := W.fits2 (l := lB) (o1 := o) (o2 := o2) ht h3 (by omega) h1 h0 d1 d0 d3 h2 d2
  have hrun : oC4 o o2 28 [W.imgM (sliceN 1 2)] (mS gl [M.get b, M.get d]) = some (okT, mS gl [M.get b, M.get d]) := by rw [h2, d2]; exact if_pos ⟨rfl, rfl, rfl⟩
  refine (emb_pure (v' := okT) free_gl (oC4_ok o o2 B0) (oC4_grw o o2) hF hrun (.cons (sim_agg (.cons (sim_slc (ρ := rhoE [b, d] M) (i := 2) rfl) (.cons (sim_slc (ρ := rhoE [b, d] M) (i := 1) rfl) .nil))) .nil) ((plain2_free rfl).embA _ _) ?_ ?_).1
  · rw [mS_get, if_pos (by decide), mG_get]
  · intro i s hs
    rcases i with _ | _ | i
    · cases hs; rw [mS_get]; rfl
    · cases hs; rw [mS_get]; rfl
    · cases hs
theorem oG_ok {t : Tab} (htab : TabOK Tryz.prog t) (B0 : Nat) : CfOK Tryz.prog B0 1 (oG t) := by
  refine ⟨fun f a M v M' h => (oG_grw t f a M v M' h).size, fun f a M v M' h => ?_, fun f a M v M' h => ?_⟩
  · rcases oG_cases h with ⟨rfl, h⟩ | ⟨rfl, h⟩ | h
    · obtain ⟨hh, rfl, rfl⟩ := g28_some h
      rcases hh with ⟨b, l, rfl, hS, hc⟩ | ⟨b, d, rfl, hc, hd⟩
      · intro ι w args' hr
        exact check_atL hS hr.top hc ι w args' hr
      · intro ι w args' hr
        exact check_atM hr.top hc hd ι w args' hr
    · obtain ⟨b, l, rfl, hS, hc, rfl, rfl⟩ := g29_some h
      obtain ⟨h0, h1, ⟨o, h2⟩, h3⟩ := isCd_at hc
      intro ι w args' hr
      have hF := fits1 (l := l) (o1 := o) hr.top h3 (by omega) h1 h0 h2
      exact starts_at (B0 := B0) (own := o) (l := l) hS h2 hF ι w args' hr
    · exact (oTab_ok htab B0 1).ok _ _ _ _ _ h
  · rcases oG_cases h with ⟨rfl, h⟩ | ⟨rfl, h⟩ | h
    · exact hasB (by kernel_rfl)
    · exact hasB (by kernel_rfl)
    · exact (oTab_ok htab B0 1).body _ _ _ _ _ h
end
end Go.Proofs.YtipdeijgaabobaaGreatDoor
/-
  FFlow3: FlowKnown: the run; on any memory.
-/
namespace Go.Proofs.YtipdeijgaabobaaGreatDoor
open Go Go.DI Go.DI.Kit Go.Proofs Go.Cmp Go.RowKit
noncomputable section
set_option maxRecDepth 1000000 in
theorem flow_run : ((H.callX H.noHint (oG tW) Tryz.prog kp 1 100 3 [] (mS gl []) fun v m => some ((v, m.get 0), [], [])).map fun x => (x.1, x.2.2)) = some ((.bool true, .cells false gl), []) := by kernel_rfl
set_option maxRecDepth 1000000 in
theorem flow_even : ((H.callX H.noHint (oG tW) Tryz.prog kp 1 100 3 [] (mS gl []) fun v m => some ((v, m.get 0), [], [])).map fun x => x.2.1.map Prod.fst) = ((H.callX H.noHint (oG tW) Tryz.prog kp 1 100 3 [] (mS gl []) fun v m => some ((v, m.get 0), [], [])).map fun x => x.2.1.map Prod.snd) := by kernel_rfl
theorem cfG_ok (B0 : Nat) : CfOK Tryz.prog B0 1 (callO Tryz.prog kp 1 (oG tW) 100) := callO_ok hmix hK hng (oG_ok tW_ok B0) (oG_grw _) 100
theorem flow_at {B0 : Nat} {M : Mem} (ht : M.top) (h0 : M.get 0 = .cells false gl) (h1 : 1 ≤ M.size) : CallOK Tryz.prog B0 1 3 [] M (.bool true) M := by
  obtain ⟨v, m, hr, he⟩ := H.callX_run flow_run flow_even
  have e1 : v = .bool true := congrArg Prod.fst he
  have e2 : m.get 0 = .cells false gl := congrArg Prod.snd he
  subst e1
  have hF : Fits gl [] [] M := ⟨ht, h0, h1, rfl, fun _ hb => (by cases hb), by simp, by simp, fun _ _ _ hi => (by simp at hi), fun _ hs => (by cases hs)⟩
  exact (emb_pure (v' := .bool true) free_gl (cfG_ok B0) (callO_grw (oG_grw _) 100) hF hr .nil ((free_bool _).embA _ _) e2 (fun i s hs => by simp at hs)).1
end
end Go.Proofs.YtipdeijgaabobaaGreatDoor
/-
  DiDataG: (DiData over laid globals) ARGUMENTS OF PLAIN DATA (bools, integers, strings, slices, structs, arrays of such): what a row's claim hands in ('DataW.trod') laid into the interpreter's memory, one block a slice.
-/
namespace Go.DI
open Go.RowKit Go.ChangeShapes Go.WideShapes

inductive Dt where
  | bo (b : Bool)
  | int (k : IntKind) (n : Int)
  | str (s : ByteArray)
  | nil
  | sl (l : List Dt) (cap : Nat)
  | ag (l : List Dt)

mutual
def Rep (m : Mem) : Dt → List Value → Prop
  | .bo b, cs => cs = [.bool b]
  | .int k n, cs => cs = [.int k n]
  | .str s, cs => cs = [.string s]
  | .nil, cs => cs = [.slice none 0 0]
  | .sl l cap, cs => ∃ b sp c, cs = [.slice (some ⟨b, 0, sp⟩) l.length cap] ∧ b < m.size ∧ m.get b = .cells false c ∧ Reps m l c ∧ (sp = none ∨ l = [] ∧ cap = 0)
  | .ag l, cs => Reps m l cs
def Reps (m : Mem) : List Dt → List Value → Prop
  | [], cs => cs = []
  | d :: l, cs => ∃ c1 c2, cs = c1 ++ c2 ∧ Rep m d c1 ∧ Reps m l c2
end

/-- Two lists, one by one. -/
def all2 {α β : Type} (R : α → β → Prop) : List α → List β → Prop
  | [], [] => True
  | a :: l, b :: l' => R a b ∧ all2 R l l'
  | _, _ => False

section
variable {P : Program}
def Typed (P : Program) : Nat → TypeId → Dt → Prop
  | 0, _, _ => False
  | n + 1, t, d => match P.underlying t with
    | some .bool => ∃ b, d = .bo b
    | some (.int k) => ∃ x, d = .int k x ∧ (Lit.int k x).wf = true
    | some .string => ∃ s, d = .str s ∧ s.size ≤ maxLen
    | some (.slice e) => d = .nil ∨ ∃ l cap, d = .sl l cap ∧ l.length ≤ cap ∧ cap ≤ maxLen ∧ ∀ x ∈ l, Typed P n e x
    | some (.struct fs) => ∃ l, d = .ag l ∧ all2 (fun f x => Typed P n f x) (fs.toList.map (·.type)) l
    | some (.array k e) => ∃ l, d = .ag l ∧ l.length = k ∧ ∀ x ∈ l, Typed P n e x
    | _ => False

def contig (P : Program) (tot : Nat) : Nat → List Field → Bool
  | off, [] => Nat.beq off tot
  | off, f :: l => Nat.beq f.offset off && contig P tot (off + P.cellsOf f.type) l
def dataT (P : Program) : Nat → TypeId → Bool
  | 0, _ => false
  | n + 1, t => match P.underlying t with
    | some .bool => true
    | some (.int _) => true
    | some .string => true
    | some (.slice e) => Nat.blt 0 (P.cellsOf e) && dataT P n e
    | some (.struct fs) => (fs.toList.all fun f => dataT P n f.type) && contig P (P.cellsOf t) 0 fs.toList
    | some (.array k e) => dataT P n e && Nat.beq (P.cellsOf t) (k * P.cellsOf e)
    | _ => false

/-- The memory of what was there: nothing of it one's own; no name kept for what is to come. -/
structure R0 (G B0 : Nat) (ι : Ren) (m : Mem) (w : World) : Prop where
  rel : Rel B0 G ι m w
  fresh : ∀ b, m.size ≤ b → ι b = none
  lo : G ≤ m.size

/-- More blocks, the others as they were. -/
structure MLe (ι ι' : Ren) (m m' : Mem) : Prop where
  ren : ι.le ι'
  size : m.size ≤ m'.size
  get : ∀ b, b < m.size → m'.get b = m.get b
theorem MLe.refl (ι : Ren) (m : Mem) : MLe ι ι m m := ⟨fun _ _ h => h, Nat.le_refl _, fun _ _ => rfl⟩
theorem MLe.trans {ι ι₁ ι₂ : Ren} {m m₁ m₂ : Mem} (h : MLe ι ι₁ m m₁) (k : MLe ι₁ ι₂ m₁ m₂) : MLe ι ι₂ m m₂ :=
  ⟨fun b L hb => k.ren _ _ (h.ren _ _ hb), Nat.le_trans h.size k.size, fun b hb => (k.get b (Nat.lt_of_lt_of_le hb h.size)).trans (h.get b hb)⟩

mutual
theorem Rep.ext {ι ι' : Ren} {m m' : Mem} (e : MLe ι ι' m m') : ∀ (d : Dt) (cs : List Value), Rep m d cs → Rep m' d cs
  | .bo _, _, h => by simpa only [Rep] using h
  | .int _ _, _, h => by simpa only [Rep] using h
  | .str _, _, h => by simpa only [Rep] using h
  | .nil, _, h => by simpa only [Rep] using h
  | .sl l cap, cs, h => by
    simp only [Rep] at h ⊢
    obtain ⟨b, sp, c, h1, h2, h3, h4, h5⟩ := h
    exact ⟨b, sp, c, h1, Nat.lt_of_lt_of_le h2 e.size, (e.get b h2).trans h3, Reps.ext e l c h4, h5⟩
  | .ag l, cs, h => by
    simp only [Rep] at h ⊢
    exact Reps.ext e l cs h
theorem Reps.ext {ι ι' : Ren} {m m' : Mem} (e : MLe ι ι' m m') : ∀ (l : List Dt) (cs : List Value), Reps m l cs → Reps m' l cs
  | [], _, h => by simpa only [Reps] using h
  | d :: l, cs, h => by
    simp only [Reps] at h ⊢
    obtain ⟨c1, c2, h1, h2, h3⟩ := h
    exact ⟨c1, c2, h1, Rep.ext e d c1 h2, Reps.ext e l c2 h3⟩
end

theorem R0.push {G B0 : Nat} {ι : Ren} {m : Mem} {w : World} (h : R0 G B0 ι m w) (c : List Value) (L : Loc) (hL : L.block < B0) (hb : BlkRel B0 ι (.cells false c) L w) :
    R0 G B0 (fun b => if b = m.size then some L else ι b) (m.push (.cells false c)) w ∧ MLe ι (fun b => if b = m.size then some L else ι b) m (m.push (.cells false c)) := by
  have hn := h.fresh m.size (Nat.le_refl _)
  have hle : ι.le (fun b => if b = m.size then some L else ι b) := by
    intro b L' hb
    have : b ≠ m.size := by intro e; rw [e, hn] at hb; cases hb
    simp [this, hb]
  have hr := h.rel
  refine ⟨⟨⟨fun b L' hb' hL' => ?_, fun b₁ b₂ L₁ L₂ h1 h2 h3 h4 l1 l2 g0 e => ?_, hr.floor, fun g hg => (by obtain ⟨L', h1, h2⟩ := hr.glob g hg; have := h.lo; exact ⟨L', by simp [show g ≠ m.size by omega, h1], h2⟩), fun b hb' => ?_⟩, fun b hb' => ?_, by have := h.lo; simp; omega⟩, ⟨hle, by simp, fun b hb' => Mem.get_push_ne _ (by omega) _⟩⟩
  · rw [Mem.get_push]
    by_cases e : b = m.size
    · subst e; simp at hL'; subst hL'; simpa using hb.mono hle rfl
    · simp only [e, if_false] at hL' ⊢
      simp at hb'
      exact (hr.blk b L' (by omega) hL').mono hle rfl
  · simp at h1 h2
    by_cases e1 : b₁ = m.size
    · simp [e1] at h3; subst h3; omega
    · by_cases e2 : b₂ = m.size
      · simp [e2] at h4; subst h4; omega
      · simp [e1] at h3; simp [e2] at h4
        rw [Mem.get_push_ne _ e1] at l1
        rw [Mem.get_push_ne _ e2] at l2
        exact hr.inj b₁ b₂ L₁ L₂ (by omega) (by omega) h3 h4 l1 l2 g0 e
  · simp at hb'; rw [Mem.get_push_ne _ (by omega)]; exact hr.top b (by omega)
  · simp at hb'
    have : b ≠ m.size := by omega
    simp only [this, if_false]
    exact h.fresh b (by omega)

/-- The memory of one laid variable. -/
theorem R0.start1 {w : World} {gl : List Value} {rc : Array Value} {e : TypeId} {fr : Nat × Nat} (h : w.heap[0]? = some (.cells rc e fr)) (hl : gl.length ≤ rc.size) (hc : ∀ (i : Nat) (v : Value), gl[i]? = some v → rc[i]? = some v ∧ ∀ ι, VRel ι v v) :
    R0 1 w.heap.size (fun b => if b = 0 then some ⟨0, 0, rc.size⟩ else none) (Kit.mG gl) w := by
  refine ⟨⟨fun b L hb hL => ?_, fun b₁ b₂ L₁ L₂ h1 h2 _ _ _ _ _ _ => ?_, Nat.le_refl _, fun g hg => ?_, Kit.mG_top gl⟩, fun b hb => ?_, by rw [Kit.mG_size]; exact Nat.le_refl _⟩
  · rw [Kit.mG_size] at hb
    obtain rfl : b = 0 := by omega
    rw [Kit.mG_get]
    simp at hL
    subst hL
    refine ⟨rc, e, fr, h, rfl, by simpa using hl, fun i v hv => ?_, fun ho => by cases ho⟩
    obtain ⟨q1, q2⟩ := hc i v hv
    exact ⟨v, by simpa using q1, q2 _⟩
  · rw [Kit.mG_size] at h1 h2; omega
  · obtain rfl : g = 0 := by omega
    exact ⟨⟨0, 0, rc.size⟩, by simp, rfl, rfl⟩
  · rw [Kit.mG_size] at hb
    simp [show b ≠ 0 by omega]
/-- What the claim reads of a datum. -/
inductive DRel {H : Type} : Dt → DataW H → Prop
  | bo (b : Bool) : DRel (.bo b) (.lit (.bool b))
  | int (k : IntKind) (n : Int) : DRel (.int k n) (.lit (.int k n))
  | str (s : ByteArray) : DRel (.str s) (.lit (.string s.data.toList))
  | nil : DRel .nil .nil
  | sl {l : List Dt} {cap : Nat} {elems rest : List (DataW H)} (hl : l.length = elems.length) (h : ∀ (i : Nat) (x : Dt) (y : DataW H), l[i]? = some x → elems[i]? = some y → DRel x y) : DRel (.sl l cap) (.slice elems rest)
  | ag {l : List Dt} {parts : List (DataW H)} (hl : l.length = parts.length) (h : ∀ (i : Nat) (x : Dt) (y : DataW H), l[i]? = some x → parts[i]? = some y → DRel x y) : DRel (.ag l) (.agg parts)
section
variable {H : Type} {enc : TypeId × Value → H} {w : World} {G B0 : Nat}
def Bound (B0 : Nat) (ps : List MemPlace) : Prop := ∀ p ∈ ps, p.block < B0
/-- What is said of a thing that comes in. -/
def Imp (G : Nat) (P : Program) (w : World) (B0 n : Nat) (t : TypeId) (cs : List Value × DataW H) : Prop :=
  ∀ (ι : Ren) (m : Mem), R0 G B0 ι m w → ∃ d ι' m' c', Typed P n t d ∧ DRel d cs.2 ∧ Rep m' d c' ∧ VRels ι' c' cs.1 ∧ R0 G B0 ι' m' w ∧ MLe ι ι' m m'


/-- Cells from an address on. -/
def Cells (w : World) (a : Addr) (l : List Value) : Prop := ∀ i, i < l.length → w.cell? (a.add i) = l[i]?
theorem Addr.add_add (a : Addr) (i j : Nat) : (a.add i).add j = a.add (i + j) := by
  unfold Addr.add
  by_cases hi : i = 0
  · subst hi; simp
  · by_cases hj : j = 0
    · subst hj; simp [hi]
    · simp [hi, hj, Nat.add_assoc]
theorem Cells.append {a : Addr} {l l' : List Value} (h : Cells w a l) (k : Cells w (a.add l.length) l') : Cells w a (l ++ l') := by
  intro i hi
  rcases Nat.lt_or_ge i l.length with h1 | h1
  · rw [List.getElem?_append_left h1]; exact h i h1
  · rw [List.getElem?_append_right h1, ← k (i - l.length) (by simp at hi; omega), Addr.add_add, show l.length + (i - l.length) = i by omega]

theorem cell_block {a : Addr} {v : Value} (h : w.cell? a = some v) : a.spot = none ∧ ∃ rc e fr, w.heap[a.block]? = some (.cells rc e fr) ∧ rc[a.off]? = some v := by
  unfold World.cell? at h
  split at h
  · rename_i c e fr hc
    split at h
    · cases h
    · rename_i hs
      refine ⟨by simpa using hs, c, e, fr, hc, h⟩
  · cases h





/-! ### arguments -/
/-- A value of the interpreter that holds a datum. -/
def Arg (P : Program) (m : Mem) (t : TypeId) (d : Dt) (v : Value) : Prop :=
  match aggB P t with
  | some true => ∃ c, v = .agg ⟨c⟩ ∧ Rep m d c
  | _ => Rep m d [v]
def Args (P : Program) (n : Nat) (m : Mem) : List TypeId → List Dt → List Value → Prop
  | [], [], [] => True
  | t :: ts, d :: ds, v :: vs => Typed P n t d ∧ Arg P m t d v ∧ Args P n m ts ds vs
  | _, _, _ => False
theorem Arg.ext {ι ι' : Ren} {m m' : Mem} (e : MLe ι ι' m m') {t : TypeId} {d : Dt} {v : Value} (h : Arg P m t d v) : Arg P m' t d v := by
  unfold Arg at h ⊢
  split
  · rename_i ht
    rw [ht] at h
    obtain ⟨c, h1, h2⟩ := h
    exact ⟨c, h1, Rep.ext e d c h2⟩
  · rename_i ht
    split at h
    · rename_i ht'; exact absurd ht' ht
    · exact Rep.ext e d _ h

/-- An argument's shape, by its type. -/
def shapeOk (P : Program) (t : TypeId) (v : Value) : Prop := match aggB P t with | some true => ∃ cs, v = .agg cs | _ => v.cells.toList = [v]



theorem trodAll_below (hl : laidOutB P = true) : ∀ {ts : List TypeId} {vs : List Value} {ds : List (DataW H)} {ps : List MemPlace} {W' : World}, (ts.all fun t => P.readableRec t && decide (t < P.types.size)) = true →
    DataW.TrodAll enc P w 0 (fun _ => true) true ts vs ds ps → Below w.heap.size w W' → Bound w.heap.size ps → DataW.TrodAll enc P W' 0 (fun b => decide (b < w.heap.size)) true ts vs ds ps
  | [], vs, ds, ps, W', _, h, _, _ => by
    obtain ⟨rfl, rfl, rfl⟩ := trodAll_nil h
    rfl
  | t :: ts, vs, ds, ps, W', hr, h, hb, hB => by
    obtain ⟨v, vs', d, ds', p, q, rfl, rfl, rfl, h1, h2⟩ := trodAll_cons h
    simp only [List.all_cons, Bool.and_eq_true] at hr
    exact ⟨p, q, Below.trod hl hr.1.1 (of_decide_eq_true hr.1.2) h1 hb (fun x hx => hB x (List.mem_append_left _ hx)),
      trodAll_below hl hr.2 h2 hb (fun x hx => hB x (List.mem_append_right _ hx)), rfl⟩
theorem bound_of : ∀ {ts : List TypeId} {vs : List Value} {ds : List (DataW H)} {ps : List MemPlace}, DataW.TrodAll enc P w 0 (fun _ => true) true ts vs ds ps → Bound w.heap.size ps
  | [], vs, ds, ps, h => by
    obtain ⟨rfl, rfl, rfl⟩ := trodAll_nil h
    intro p hp; simp at hp
  | t :: ts, vs, ds, ps, h => by
    obtain ⟨v, vs', d, ds', p, q, rfl, rfl, rfl, ⟨m, hm⟩, h2⟩ := trodAll_cons h
    intro x hx
    rcases List.mem_append.1 hx with hx | hx
    · exact DataW.trod_lt m _ _ _ hm x hx
    · exact bound_of h2 x hx
end
end
end Go.DI
/-
  DiDataH: the walk of a law over plain data, the run by any interpreter that is sound.
-/
namespace Go.DI
open Go Go.RowKit Go.ChangeShapes Go.WideShapes
section
variable {H : Type} {enc : TypeId × Value → H} {P : Program} {w : World} {G : Nat}
end
end Go.DI
