/- The law FlowKnown, a closed one: the interpreter, shape.Check's contracts, the run. -/
import Derived.Test.YtipdeijgaabobaaGreatDoorCards
import Derived.Test.YtipdeijgaabobaaGreatDoorTie
import Derived.Test.YtipdeijgaabobaaGreatDoorK05
import Derived.Test.YtipdeijgaabobaaGreatDoorRows
import Derived.WalkKit
import Derived.ProofKit
import Derived.OpenShut
import Derived.Deep.DeepHandedRow
import Derived.Lib.LaidTab
set_option linter.all false
set_option linter.unusedVariables false
set_option linter.unusedSimpArgs false
/-
  FlowKnownF: the law FlowKnown, a closed one, and its card.
-/
namespace Go.Proofs.YtipdeijgaabobaaGreatDoor.flowKnown
open Go.ChangeShapes Go.WideShapes Go.ChangeAt Go.RowKit Go.DI Go.DI.Kit Go.Cmp
set_option maxRecDepth 100000
theorem own : ownKnob Tryz.prog.godebug = none := by kernel_rfl
theorem laidOut : laidOutB Tryz.prog = true := by kernel_rfl
theorem gTab : Tryz.prog.globalNamed "stockade/insn.sizes" = some 0 := by kernel_rfl
theorem gTabType : (Tryz.prog.globals[0]?).map (·.type) = some 163 := by kernel_rfl
theorem cells163 : Tryz.prog.cellsOf 163 = 4 := by kernel_rfl
theorem cells3 : Tryz.prog.cellsOf 3 = 1 := by kernel_rfl
/-- What the row's list gives. -/
theorem table {W : World} (h : laidMetH Tryz.prog Rows.flowKnownRow.laid W) : Lib.TabIs Tryz.prog W "stockade/insn.sizes" .i64 [4, 2, 1, 8] :=
  Lib.tabIs_of_head (rest := []) gTab gTabType Tryz.underlying163 Tryz.underlying3 cells3 cells163 h
theorem law_world {W : World} {m : Mem} {ι : Ren} (hm : m.top) (h1 : 1 ≤ m.size) (h0 : m.get 0 = .cells false gl) (hr : Rel W.heap.size 1 ι m W) (hf : ∀ b, m.size ≤ b → ι b = none) : Calls Tryz.prog 3 #[] W fun e w' => e = .returned (.bool true) ∧ Below W.heap.size W w' := by
  have := flow_at (B0 := W.heap.size) hm h0 h1 ι W [] hr (fun b hb _ => hf b hb) .nil
  refine this.mono ?_
  rintro e w' ⟨v', ι', he, hv', hr', hs⟩
  exact ⟨by rw [he, hv'.inv_bool], ⟨hs.os, hs.tape, hs.output, hs.hsize, fun B hB => hs.below hr B hB⟩⟩
theorem contract (H : Type) (enc : TypeId × Value → H) (W : World) (args : Array Value) (ds gs : List (DataW H)) (before : List MemPlace)
    (hW : DataW.Whole enc Tryz.prog Tryz.f3.params.toList Rows.flowKnownSpec.vars false W args.toList ds gs before) (hL : laidMetH Tryz.prog Rows.flowKnownRow.laid W) :
    Calls Tryz.prog 3 args W fun e W' => ∃ v, e = .returned v ∧ Rows.flowKnownSpec.post enc Tryz.prog Tryz.f3 false true false false W args v W' := by
  have hW' := hW
  obtain ⟨p, q, hA0, hV, rfl, hfz, hnd⟩ := hW
  have hA : DataW.TrodAll enc Tryz.prog W 0 (fun _ => true) true Tryz.f3.params.toList args.toList ds p := hA0
  rw [Tryz.params3] at hA
  obtain ⟨rfl, rfl⟩ := trodVars_none hV
  have hA1 : DataW.TrodAll enc Tryz.prog W 0 (fun _ => true) true [] args.toList ds p := hA
  have hB := bound_of hA1
  have c0 : W.cell? ⟨0, 0, none⟩ = some (.int .i64 4) := (table hL).cell gTab 0 (by decide)
  have c1 : W.cell? ⟨0, 1, none⟩ = some (.int .i64 2) := (table hL).cell gTab 1 (by decide)
  have c2 : W.cell? ⟨0, 2, none⟩ = some (.int .i64 1) := (table hL).cell gTab 2 (by decide)
  have c3 : W.cell? ⟨0, 3, none⟩ = some (.int .i64 8) := (table hL).cell gTab 3 (by decide)
  obtain ⟨_, rc, e, fr, hh, k0⟩ := cell_block c0
  obtain ⟨_, rc1, e1, fr1, hh1, k1⟩ := cell_block c1
  obtain ⟨_, rc2, e2, fr2, hh2, k2⟩ := cell_block c2
  obtain ⟨_, rc3, e3, fr3, hh3, k3⟩ := cell_block c3
  have hh1 : W.heap[0]? = some (.cells rc1 e1 fr1) := hh1
  have hh2 : W.heap[0]? = some (.cells rc2 e2 fr2) := hh2
  have hh3 : W.heap[0]? = some (.cells rc3 e3 fr3) := hh3
  have hh : W.heap[0]? = some (.cells rc e fr) := hh
  rw [hh] at hh1 hh2 hh3
  cases hh1; cases hh2; cases hh3
  have hlen : 4 ≤ rc.size := (Array.getElem?_eq_some_iff.1 k3).1
  have hst := R0.start1 (gl := gl) hh hlen (fun i v hv => by
    rcases i with _ | _ | _ | _ | i
    · cases hv; exact ⟨k0, fun _ => .int _ _⟩
    · cases hv; exact ⟨k1, fun _ => .int _ _⟩
    · cases hv; exact ⟨k2, fun _ => .int _ _⟩
    · cases hv; exact ⟨k3, fun _ => .int _ _⟩
    · cases hv)
  have hargs : args = #[] := by
    obtain ⟨h1, _, _⟩ := trodAll_nil hA1
    exact Array.toList_eq_nil_iff.1 h1
  have hC := law_world (m := mG gl) (mG_top gl) (Nat.le_of_eq (mG_size gl).symm) (mG_get gl) hst.rel hst.fresh
  rw [← hargs] at hC
  refine hC.mono fun e W' ⟨he, bel⟩ => ?_
  subst he
  have hA2 := trodAll_below laidOut (by rfl) hA1 bel hB
  obtain ⟨_, rfl, rfl⟩ := trodAll_nil hA1
  clear hA0
  exact ⟨_, rfl, _, _, _, [], _, [], hW', trodAll_mk1 (shut_bool Tryz.underlying4 _) , hA2, rfl, bel.frame _, fun h => by cases h⟩

/-- A world for the witness: the settled one, the variable (block 0) holding what its initialiser lays. -/
noncomputable def laidWorld (os : Os) : World :=
  { World.holding Tryz.prog os ⟨#[], #[], []⟩ with heap := (World.holding Tryz.prog os ⟨#[], #[], []⟩).heap.modify 0 fun
      | .cells _ t frozen => .cells #[.int .i64 4, .int .i64 2, .int .i64 1, .int .i64 8] t frozen
      | o => o }
theorem laid_met (os : Os) : laidMet Tryz.prog Rows.flowKnownRow.laid ((laidWorld os).forCall (fun _ _ => 0) ⟨#[], #[], []⟩).memory :=
  laidMet_of_run' 8 (by kernel_rfl) (by kernel_rfl)
theorem reads (os : Os) {H : Type} (enc : TypeId × Value → H) : ∃ places, DataW.whole enc Tryz.prog ((laidWorld os).forCall (fun _ _ => 0) ⟨#[], #[], []⟩).memory Tryz.f3.params.toList Rows.flowKnownSpec.vars false (#[] : Array Value).toList 8 = some ([], [], places) :=
  ⟨[], by kernel_rfl⟩
theorem lifted (os : Os) (started : os.Started) (H : Type) (enc : TypeId × Value → H) (F : Stop.Interp) :
    ReturnsInHanded {} Tryz.checked os 3 .any ((OpenSpec.ofChange Rows.flowKnownSpec).preRow enc Tryz.prog Tryz.f3 Rows.flowKnownRow.domain false Rows.flowKnownRow.laid) (((OpenSpec.ofChange Rows.flowKnownSpec).at F).post enc Tryz.prog Tryz.f3 false true false false) := by
  obtain ⟨places, hx⟩ := reads os enc
  refine returnsInHanded_of_row (C := Tryz.checked) (s := OpenSpec.ofChange Rows.flowKnownSpec) own started (by kernel_rfl) Tryz.func3
    (witness_row_at (enc := enc) (C := Tryz.checked) false (laidWorld os) #[] rfl (by kernel_rfl) (by kernel_rfl) (by kernel_rfl)
      (OpenSpec.preRow_of_cond 8 hx (by kernel_rfl) (fun k hk => by cases hk) (by kernel_rfl) (laid_met os))) ?_
  intro W base args ds gs before hval hW _ _ hwt hL _ _
  exact contract H enc W args ds gs before hW hL
theorem said : Rows.FlowKnownSaid :=
  OpenClaim.holds_of_cond 3 Tryz.f3 rfl rfl rfl rfl rfl rfl rfl ⟨rfl, rfl, rfl, rfl, rfl⟩ rfl rfl rfl rfl rfl (by kernel_rfl) Tryz.func3 (by kernel_rfl)
    (of_decide_eq_true (by kernel_rfl)) (by unfold Func.isWrapper; first | (rw [if_pos (by decide +kernel)]; kernel_rfl) | (rw [if_neg (by decide +kernel)]; exact ⟨rfl, rfl⟩))
    (fun os started H enc _ F => by rw [OpenClaim.pre_eq_preRow]; exact lifted os started H enc F)
theorem plain (f : FuncId) (fn : Func) (hf : Tryz.pinned.checked.prog.funcNamed "stockade/stockadelaw13.FlowKnown" = some f) (hfn : Tryz.pinned.checked.prog.funcs[f]? = some fn) :
    false = Tryz.pinned.checked.prog.looks [] ∧ ∀ (j : Nat) t, fn.params[j]? = some t → Tryz.pinned.checked.prog.wantsStandIn t = false := by
  obtain rfl : f = 3 := Option.some.inj ((show Tryz.prog.funcNamed "stockade/stockadelaw13.FlowKnown" = some 3 by kernel_rfl).symm.trans hf) |>.symm
  obtain rfl : fn = Tryz.f3 := (Option.some.inj (Tryz.func3.symm.trans hfn)).symm
  refine ⟨by kernel_rfl, fun j t ht => ?_⟩
  rw [Tryz.params3] at ht
  simp at ht
theorem card : Rows.FlowKnownCardSaid :=
  Claim7.holds_tied_plain_at .later [] _ _ _ _ said (fun _ h => by cases h) (by kernel_rfl) (fun _ h => by cases h) flowKnown_row_tie rfl ⟨rfl, rfl⟩ (by kernel_rfl) rfl plain (by kernel_rfl)
#print axioms card
end Go.Proofs.YtipdeijgaabobaaGreatDoor.flowKnown
