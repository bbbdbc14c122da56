/-
  CompileCodesF: the law over every table, and its card.
-/
import Derived.Test.YtadioopbehiakaaDoorCards
import Derived.Test.YtadioopbehiakaaDoorTie
import Derived.Test.YtadioopbehiakaaDoorF24
import Derived.Test.YtadioopbehiakaaDoorF29
import Derived.WalkKit
import Derived.ProofKit
import Derived.OpenShut
import Derived.Deep.DeepHandedRow
import Derived.Lib.LaidTab
set_option linter.all false
set_option linter.unusedVariables false
set_option linter.unusedSimpArgs false
namespace Go.Proofs.YtadioopbehiakaaDoor.compileCodes
open Go.ChangeShapes Go.WideShapes Go.ChangeAt Go.RowKit Go.DI Go.DI.Kit Go.Cmp
set_option maxRecDepth 100000
theorem own : ownKnob Tryd.prog.godebug = none := by kernel_rfl
theorem laidOut : laidOutB Tryd.prog = true := by kernel_rfl
theorem dataOk : (([22] : List TypeId).all fun t => dataT Tryd.prog 8 t) = true := by kernel_rfl
theorem readOk : (([22] : List TypeId).all fun t => Tryd.prog.readableRec t && decide (t < Tryd.prog.types.size)) = true := by kernel_rfl
theorem gTab : Tryd.prog.globalNamed "stockade/insn.sizes" = some 0 := by kernel_rfl
theorem gTabType : (Tryd.prog.globals[0]?).map (·.type) = some 106 := by kernel_rfl
theorem cells106 : Tryd.prog.cellsOf 106 = 4 := by kernel_rfl
theorem cells3 : Tryd.prog.cellsOf 3 = 1 := by kernel_rfl
theorem table {W : World} (h : laidMetH Tryd.prog Rows.compileCodesRow.laid W) : Lib.TabIs Tryd.prog W "stockade/insn.sizes" .i64 [4, 2, 1, 8] :=
  Lib.tabIs_of_head (rest := []) gTab gTabType Tryd.underlying106 Tryd.underlying3 cells3 cells106 h
theorem run {H : Type} {m : Mem} {l : List Dt} {vs : List Value} {ds : List (DataW H)} (ht : m.top) (hs : 1 ≤ m.size) (h0 : m.get 0 = .cells false gl) (ha : Args Tryd.prog 8 m [22] l vs)
    (hd : l.length = ds.length ∧ ∀ (i : Nat) (x : Dt) (y : DataW H), l[i]? = some x → ds[i]? = some y → DRel x y) {vt : List TypeId} (hw : ∀ w ∈ DataW.weightsEach Tryd.prog (22 :: vt) ds, w ≤ reachBytes) : ∃ k m', callN Tryd.prog kp 1 oC k 3 vs m = some (.bool true, m') := by
  obtain ⟨d, v, rfl, rfl, h1, h2⟩ := args1 ha
  obtain ⟨rs, g1, g2, g3, g4⟩ := rules_arg h1 h2
  obtain ⟨y, hy⟩ : ∃ y, ds = [y] := by
    match ds, hd.1 with
    | [y], _ => exact ⟨y, rfl⟩
  subst hy
  have hwl := weights_len (hd.2 0 d y rfl rfl) fun w hw' => hw w (by rw [DataW.weightsEach]; exact List.mem_append_left _ hw')
  have hlen : rs.length = (els d).length := by
    have := congrArg List.length g4
    simpa using this
  have hts : ∀ r ∈ rs, r.tests.length * 56 ≤ 140737488355328 := fun r hr => by
    have hm : r.tests.length ∈ rs.map (fun r => r.tests.length) := List.mem_map.2 ⟨r, hr, rfl⟩
    rw [g4] at hm
    obtain ⟨x, hx, hxe⟩ := List.mem_map.1 hm
    rw [← hxe]
    exact hwl.2 x hx
  obtain ⟨M', hrun⟩ := LawC_do (k := 2000000 + rs.length + (rs.map fun r => r.tests.length).sum) orqC awakeC (by omega) (fun r hr => by have := len_le hr; omega) g1 (by rw [hlen]; exact hwl.1) hts g3 (Hp.all ht) (keepAll_at hs h0)
  exact ⟨_, M', hrun⟩
theorem contract (H : Type) (enc : TypeId × Value → H) (W : World) (base : Nat) (args : Array Value) (ds gs : List (DataW H)) (before : List MemPlace)
    (hval0 : ∀ (j : Nat) t v, Tryd.f3.params[j]? = some t → args[j]? = some v → Value.okWide Tryd.prog W .any base t v)
    (hW : DataW.Whole enc Tryd.prog Tryd.f3.params.toList Rows.compileCodesSpec.vars false W args.toList ds gs before) {vt : List TypeId} (hwt : (DataW.weightsEach Tryd.prog (Tryd.f3.params.toList ++ vt) (ds ++ gs)).all (· ≤ reachBytes) = true) (hL : laidMetH Tryd.prog Rows.compileCodesRow.laid W) :
    Calls Tryd.prog 3 args W fun e W' => ∃ v, e = .returned v ∧ Rows.compileCodesSpec.post enc Tryd.prog Tryd.f3 false true false false W args v W' := by
  have hval : ∀ (j : Nat) t v, Tryd.f3.params[j]? = some t → args[j]? = some v → Value.okWide Tryd.prog W .any base t v := hval0
  have hW' := hW
  obtain ⟨p, q, hA0, hV, rfl, hfz, hnd⟩ := hW
  have hA : DataW.TrodAll enc Tryd.prog W 0 (fun _ => true) true Tryd.f3.params.toList args.toList ds p := hA0
  rw [Tryd.params3] at hA hval
  obtain ⟨rfl, rfl⟩ := trodVars_none hV
  have hA1 : DataW.TrodAll enc Tryd.prog W 0 (fun _ => true) true [22] args.toList ds p := hA
  have hB := bound_of hA1
  have c0 : W.cell? ⟨0, 0, none⟩ = some (.int .i64 4) := (table hL).cell gTab 0 (by decide)
  have c1 : W.cell? ⟨0, 1, none⟩ = some (.int .i64 2) := (table hL).cell gTab 1 (by decide)
  have c2 : W.cell? ⟨0, 2, none⟩ = some (.int .i64 1) := (table hL).cell gTab 2 (by decide)
  have c3 : W.cell? ⟨0, 3, none⟩ = some (.int .i64 8) := (table hL).cell gTab 3 (by decide)
  obtain ⟨_, rc, e, fr, hh, k0⟩ := cell_block c0
  obtain ⟨_, rc1, e1, fr1, hh1, k1⟩ := cell_block c1
  obtain ⟨_, rc2, e2, fr2, hh2, k2⟩ := cell_block c2
  obtain ⟨_, rc3, e3, fr3, hh3, k3⟩ := cell_block c3
  have hh1 : W.heap[0]? = some (.cells rc1 e1 fr1) := hh1
  have hh2 : W.heap[0]? = some (.cells rc2 e2 fr2) := hh2
  have hh3 : W.heap[0]? = some (.cells rc3 e3 fr3) := hh3
  have hh : W.heap[0]? = some (.cells rc e fr) := hh
  rw [hh] at hh1 hh2 hh3
  cases hh1; cases hh2; cases hh3
  have hlen : 4 ≤ rc.size := (Array.getElem?_eq_some_iff.1 k3).1
  have hst := R0.start1 (gl := gl) hh hlen (fun i v hv => by
    rcases i with _ | _ | _ | _ | i
    · cases hv; exact ⟨k0, fun _ => .int _ _⟩
    · cases hv; exact ⟨k1, fun _ => .int _ _⟩
    · cases hv; exact ⟨k2, fun _ => .int _ _⟩
    · cases hv; exact ⟨k3, fun _ => .int _ _⟩
    · cases hv)
  have hC := calls_dataG (K := kp) (o := oC) hmix hK hng oC_ok oC_grw hst dataOk hA1 (fun j t v ht hv => hval j t v (by simpa using ht) hv) hB (fun m l vs ht hms hmg h hdr =>
    run (vt := vt) ht hms ((hmg 0 (by rw [mG_size]; omega)).trans (mG_get gl)) h hdr (by
      rw [Tryd.params3, List.append_nil] at hwt
      intro w hw
      exact of_decide_eq_true (List.all_eq_true.1 hwt w hw)))
  refine hC.mono fun e W' ⟨he, bel⟩ => ?_
  subst he
  have hA2 := trodAll_below laidOut readOk hA1 bel hB
  obtain ⟨v0, vs0, d0, ds0, p0, q0, hargs, rfl, rfl, h0, r0⟩ := trodAll_cons hA1
  obtain ⟨rfl, rfl, rfl⟩ := trodAll_nil r0
  clear hA0 hval0
  exact ⟨_, rfl, _, _, _, [], _, [], hW', trodAll_mk1 (shut_bool Tryd.underlying4 _) , hA2, rfl, bel.frame _, fun h => by cases h⟩
noncomputable def laidWorld (os : Os) : World :=
  { World.holding Tryd.prog os ⟨#[], #[], []⟩ with heap := (World.holding Tryd.prog os ⟨#[], #[], []⟩).heap.modify 0 fun
      | .cells _ t frozen => .cells #[.int .i64 4, .int .i64 2, .int .i64 1, .int .i64 8] t frozen
      | o => o }
theorem laid_met (os : Os) : laidMet Tryd.prog Rows.compileCodesRow.laid ((laidWorld os).forCall (fun _ _ => 0) ⟨#[], #[.slice none 0 0], []⟩).memory :=
  laidMet_of_run' 8 (by kernel_rfl) (by kernel_rfl)
theorem reads (os : Os) {H : Type} (enc : TypeId × Value → H) : ∃ places, DataW.whole enc Tryd.prog ((laidWorld os).forCall (fun _ _ => 0) ⟨#[], #[.slice none 0 0], []⟩).memory Tryd.f3.params.toList Rows.compileCodesSpec.vars false #[Value.slice none 0 0].toList 8 = some ([.nil], [], places) :=
  ⟨[], by kernel_rfl⟩
theorem lifted (os : Os) (started : os.Started) (H : Type) (enc : TypeId × Value → H) (F : Stop.Interp) :
    ReturnsInHanded {} Tryd.checked os 3 .any ((OpenSpec.ofChange Rows.compileCodesSpec).preRow enc Tryd.prog Tryd.f3 Rows.compileCodesRow.domain false Rows.compileCodesRow.laid) (((OpenSpec.ofChange Rows.compileCodesSpec).at F).post enc Tryd.prog Tryd.f3 false true false false) := by
  obtain ⟨places, hx⟩ := reads os enc
  refine returnsInHanded_of_row (C := Tryd.checked) (s := OpenSpec.ofChange Rows.compileCodesSpec) own started (by kernel_rfl) Tryd.func3
    (witness_row_at (enc := enc) (C := Tryd.checked) false (laidWorld os) #[.slice none 0 0] rfl (by kernel_rfl) (by kernel_rfl) (by kernel_rfl)
      (OpenSpec.preRow_of_cond 8 hx (by kernel_rfl) (fun k hk => by cases hk) (by kernel_rfl) (laid_met os))) ?_
  intro W base args ds gs before hval hW _ _ hwt hL _ _
  exact contract H enc W base args ds gs before hval hW hwt hL
theorem said : Rows.CompileCodesSaid :=
  OpenClaim.holds_of_cond 3 Tryd.f3 rfl rfl rfl rfl rfl rfl rfl ⟨rfl, rfl, rfl, rfl, rfl⟩ rfl rfl rfl rfl rfl (by kernel_rfl) Tryd.func3 (by kernel_rfl)
    (of_decide_eq_true (by kernel_rfl)) (by unfold Func.isWrapper; first | (rw [if_pos (by decide +kernel)]; kernel_rfl) | (rw [if_neg (by decide +kernel)]; exact ⟨rfl, rfl⟩))
    (fun os started H enc _ F => by rw [OpenClaim.pre_eq_preRow]; exact lifted os started H enc F)
theorem plain (f : FuncId) (fn : Func) (hf : Tryd.pinned.checked.prog.funcNamed "stockade/stockadelaw19.CompileCodes" = some f) (hfn : Tryd.pinned.checked.prog.funcs[f]? = some fn) :
    false = Tryd.pinned.checked.prog.looks [] ∧ ∀ (j : Nat) t, fn.params[j]? = some t → Tryd.pinned.checked.prog.wantsStandIn t = false := by
  obtain rfl : f = 3 := Option.some.inj ((show Tryd.prog.funcNamed "stockade/stockadelaw19.CompileCodes" = some 3 by kernel_rfl).symm.trans hf) |>.symm
  obtain rfl : fn = Tryd.f3 := (Option.some.inj (Tryd.func3.symm.trans hfn)).symm
  refine ⟨by kernel_rfl, fun j t ht => ?_⟩
  rw [Tryd.params3] at ht
  obtain rfl : t = 22 := by simpa using Array.mem_of_getElem? ht
  exact (show Tryd.prog.wantsStandIn 22 = false by kernel_rfl)
theorem card : Rows.CompileCodesCardSaid :=
  Claim7.holds_tied_plain_at .later [] _ _ _ _ said (fun _ h => by cases h) (by kernel_rfl) (fun _ h => by cases h) compileCodes_row_tie rfl ⟨rfl, rfl⟩ (by kernel_rfl) rfl plain (by kernel_rfl)
#print axioms card
end Go.Proofs.YtadioopbehiakaaDoor.compileCodes
