/-
  CompileSizes: the law over every two tables (of the stated bulk), and its card.
-/
import Derived.Test.YtadioopbehiakaaDoorCards
import Derived.Test.YtadioopbehiakaaDoorTie
import Derived.Test.YtadioopbehiakaaDoorS19
import Derived.Test.YtadioopbehiakaaDoorS24
import Derived.WalkKit
import Derived.ProofKit
import Derived.OpenShut
import Derived.Deep.DeepHandedRow
import Derived.Lib.LaidTab
set_option linter.all false
set_option linter.unusedVariables false
set_option linter.unusedSimpArgs false
namespace Go.Proofs.YtadioopbehiakaaDoor.compileSizes
open Go.ChangeShapes Go.WideShapes Go.ChangeAt Go.RowKit Go.DI Go.DI.Kit Go.Cmp
set_option maxRecDepth 100000
theorem own : ownKnob Tryd.prog.godebug = none := by kernel_rfl
theorem laidOut : laidOutB Tryd.prog = true := by kernel_rfl
theorem dataOk : (([22, 22] : List TypeId).all fun t => dataT Tryd.prog 8 t) = true := by kernel_rfl
theorem readOk : (([22, 22] : List TypeId).all fun t => Tryd.prog.readableRec t && decide (t < Tryd.prog.types.size)) = true := by kernel_rfl
theorem gTab : Tryd.prog.globalNamed "stockade/insn.sizes" = some 0 := by kernel_rfl
theorem gTabType : (Tryd.prog.globals[0]?).map (·.type) = some 106 := by kernel_rfl
theorem cells106 : Tryd.prog.cellsOf 106 = 4 := by kernel_rfl
theorem cells3 : Tryd.prog.cellsOf 3 = 1 := by kernel_rfl
theorem table {W : World} (h : laidMetH Tryd.prog Rows.compileSizesUptoRow.laid W) : Lib.TabIs Tryd.prog W "stockade/insn.sizes" .i64 [4, 2, 1, 8] :=
  Lib.tabIs_of_head (rest := []) gTab gTabType Tryd.underlying106 Tryd.underlying3 cells3 cells106 h
theorem rules_sl {m : Mem} {d : Dt} {v : Value} (h : Typed Tryd.prog 8 22 d) (ha : Arg Tryd.prog m 22 d v) : slOk (keepAll m) v := by
  have hag : aggB Tryd.prog 22 = some false := by kernel_rfl
  unfold Arg at ha
  rw [hag] at ha
  simp only at ha
  unfold Typed at h
  rw [Tryd.underlying22] at h
  rcases h with rfl | ⟨l, cap, rfl, _⟩
  · simp only [Rep] at ha
    have : v = .slice none 0 0 := by simpa using ha
    exact ⟨none, 0, 0, this, .inl rfl⟩
  · simp only [Rep] at ha
    obtain ⟨b, sp, c, h1, h2, h3, _⟩ := ha
    have hv : v = .slice (some ⟨b, 0, sp⟩) l.length cap := by simpa using h1
    exact ⟨_, _, _, hv, .inr ⟨b, sp, false, c, rfl, keepAll_at h2 h3⟩⟩
theorem run {H : Type} {m : Mem} {l : List Dt} {vs : List Value} {ds : List (DataW H)} (ht : m.top) (hs : 1 ≤ m.size) (h0 : m.get 0 = .cells false gl) (ha : Args Tryd.prog 8 m [22, 22] l vs)
    (hd : l.length = ds.length ∧ ∀ (i : Nat) (x : Dt) (y : DataW H), l[i]? = some x → ds[i]? = some y → DRel x y) (hb : Rows.uptoBulkAll ds ≤ 1048576) : ∃ k m', callN Tryd.prog kp 1 oC k 4 vs m = some (.bool true, m') := by
  obtain ⟨d, v, d', v', rfl, rfl, h1, h2, h3, h4⟩ := args2 ha
  obtain ⟨a, g1, g2, g3⟩ := rules_arg h1 h2
  obtain ⟨b, g4, g5, g6⟩ := rules_arg h3 h4
  have hw := wtAll_le [d, d'] ds hd.1 hd.2
  simp only [wtAll] at hw
  obtain ⟨M', hrun⟩ := LawS_do (k := 2000000) orqC awakeC (Nat.le_refl _) g1 g4 (by omega) (by omega) g3 g6 (rules_sl h1 h2) (rules_sl h3 h4) (Hp.all ht) (keepAll_at hs h0)
  exact ⟨_, M', hrun⟩
theorem contract (H : Type) (enc : TypeId × Value → H) (W : World) (base : Nat) (args : Array Value) (ds gs : List (DataW H)) (before : List MemPlace)
    (hval0 : ∀ (j : Nat) t v, Tryd.f4.params[j]? = some t → args[j]? = some v → Value.okWide Tryd.prog W .any base t v)
    (hW : DataW.Whole enc Tryd.prog Tryd.f4.params.toList Rows.compileSizesSpec.vars false W args.toList ds gs before) (hbulk : Rows.uptoSmall H (ds ++ gs) = true) (hL : laidMetH Tryd.prog Rows.compileSizesUptoRow.laid W) :
    Calls Tryd.prog 4 args W fun e W' => ∃ v, e = .returned v ∧ Rows.compileSizesSpec.post enc Tryd.prog Tryd.f4 false true false false W args v W' := by
  have hval : ∀ (j : Nat) t v, Tryd.f4.params[j]? = some t → args[j]? = some v → Value.okWide Tryd.prog W .any base t v := hval0
  have hW' := hW
  obtain ⟨p, q, hA0, hV, rfl, hfz, hnd⟩ := hW
  have hA : DataW.TrodAll enc Tryd.prog W 0 (fun _ => true) true Tryd.f4.params.toList args.toList ds p := hA0
  rw [Tryd.params4] at hA hval
  obtain ⟨rfl, rfl⟩ := trodVars_none hV
  have hA1 : DataW.TrodAll enc Tryd.prog W 0 (fun _ => true) true [22, 22] args.toList ds p := hA
  have hB := bound_of hA1
  have c0 : W.cell? ⟨0, 0, none⟩ = some (.int .i64 4) := (table hL).cell gTab 0 (by decide)
  have c1 : W.cell? ⟨0, 1, none⟩ = some (.int .i64 2) := (table hL).cell gTab 1 (by decide)
  have c2 : W.cell? ⟨0, 2, none⟩ = some (.int .i64 1) := (table hL).cell gTab 2 (by decide)
  have c3 : W.cell? ⟨0, 3, none⟩ = some (.int .i64 8) := (table hL).cell gTab 3 (by decide)
  obtain ⟨_, rc, e, fr, hh, k0⟩ := cell_block c0
  obtain ⟨_, rc1, e1, fr1, hh1, k1⟩ := cell_block c1
  obtain ⟨_, rc2, e2, fr2, hh2, k2⟩ := cell_block c2
  obtain ⟨_, rc3, e3, fr3, hh3, k3⟩ := cell_block c3
  have hh1 : W.heap[0]? = some (.cells rc1 e1 fr1) := hh1
  have hh2 : W.heap[0]? = some (.cells rc2 e2 fr2) := hh2
  have hh3 : W.heap[0]? = some (.cells rc3 e3 fr3) := hh3
  have hh : W.heap[0]? = some (.cells rc e fr) := hh
  rw [hh] at hh1 hh2 hh3
  cases hh1; cases hh2; cases hh3
  have hlen : 4 ≤ rc.size := (Array.getElem?_eq_some_iff.1 k3).1
  have hst := R0.start1 (gl := gl) hh hlen (fun i v hv => by
    rcases i with _ | _ | _ | _ | i
    · cases hv; exact ⟨k0, fun _ => .int _ _⟩
    · cases hv; exact ⟨k1, fun _ => .int _ _⟩
    · cases hv; exact ⟨k2, fun _ => .int _ _⟩
    · cases hv; exact ⟨k3, fun _ => .int _ _⟩
    · cases hv)
  have hC := calls_dataG (K := kp) (o := oC) hmix hK hng oC_ok oC_grw hst dataOk hA1 (fun j t v ht hv => hval j t v (by simpa using ht) hv) hB (fun m l vs ht hms hmg h hdr =>
    run ht hms ((hmg 0 (by rw [mG_size]; omega)).trans (mG_get gl)) h hdr (by
      have := of_decide_eq_true hbulk
      rw [List.append_nil] at this
      exact this))
  refine hC.mono fun e W' ⟨he, bel⟩ => ?_
  subst he
  have hA2 := trodAll_below laidOut readOk hA1 bel hB
  obtain ⟨v0, vs0, d0, ds0, p0, q0, hargs, rfl, rfl, h0, r0⟩ := trodAll_cons hA1
  obtain ⟨v1, vs1, d1, ds1, p1, q1, rfl, rfl, rfl, h1, r1⟩ := trodAll_cons r0
  obtain ⟨rfl, rfl, rfl⟩ := trodAll_nil r1
  clear hA0 hval0
  exact ⟨_, rfl, _, _, _, [], _, [], hW', trodAll_mk1 (shut_bool Tryd.underlying4 _) , hA2, rfl, bel.frame _, fun h => by cases h⟩
noncomputable def laidWorld (os : Os) : World :=
  { World.holding Tryd.prog os ⟨#[], #[], []⟩ with heap := (World.holding Tryd.prog os ⟨#[], #[], []⟩).heap.modify 0 fun
      | .cells _ t frozen => .cells #[.int .i64 4, .int .i64 2, .int .i64 1, .int .i64 8] t frozen
      | o => o }
theorem laid_met (os : Os) : laidMet Tryd.prog Rows.compileSizesUptoRow.laid ((laidWorld os).forCall (fun _ _ => 0) ⟨#[], #[.slice none 0 0, .slice none 0 0], []⟩).memory :=
  laidMet_of_run' 8 (by kernel_rfl) (by kernel_rfl)
theorem reads (os : Os) {H : Type} (enc : TypeId × Value → H) : ∃ places, DataW.whole enc Tryd.prog ((laidWorld os).forCall (fun _ _ => 0) ⟨#[], #[.slice none 0 0, .slice none 0 0], []⟩).memory Tryd.f4.params.toList Rows.compileSizesSpec.vars false #[Value.slice none 0 0, Value.slice none 0 0].toList 8 = some ([.nil, .nil], [], places) :=
  ⟨[], by kernel_rfl⟩
theorem liftedUpto (os : Os) (started : os.Started) (H : Type) (enc : TypeId × Value → H) (F : Stop.Interp) :
    ReturnsInHanded {} Tryd.checked os 4 .any ((Rows.OpenSpec.upto Rows.compileSizesSpec).preRow enc Tryd.prog Tryd.f4 Rows.compileSizesUptoRow.domain false Rows.compileSizesUptoRow.laid) (((Rows.OpenSpec.upto Rows.compileSizesSpec).at F).post enc Tryd.prog Tryd.f4 false true false false) := by
  obtain ⟨places, hx⟩ := reads os enc
  refine returnsInHanded_of_row (C := Tryd.checked) (s := Rows.OpenSpec.upto Rows.compileSizesSpec) own started (by kernel_rfl) Tryd.func4
    (witness_row_at (enc := enc) (C := Tryd.checked) false (laidWorld os) #[.slice none 0 0, .slice none 0 0] rfl (by kernel_rfl) (by kernel_rfl) (by kernel_rfl)
      (OpenSpec.preRow_of_cond 8 hx (by kernel_rfl) (fun k hk => by cases hk; kernel_rfl) (by kernel_rfl) (laid_met os))) ?_
  intro W base args ds gs before hval hW _ hcond _ hL _ _
  exact contract H enc W base args ds gs before hval hW (hcond _ rfl) hL
theorem saidUpto : Rows.CompileSizesUptoSaid :=
  OpenClaim.holds_of_cond 4 Tryd.f4 rfl rfl rfl rfl rfl rfl rfl ⟨rfl, rfl, rfl, rfl, rfl⟩ rfl rfl rfl rfl rfl (by kernel_rfl) Tryd.func4 (by kernel_rfl)
    (of_decide_eq_true (by kernel_rfl)) (by unfold Func.isWrapper; first | (rw [if_pos (by decide +kernel)]; kernel_rfl) | (rw [if_neg (by decide +kernel)]; exact ⟨rfl, rfl⟩))
    (fun os started H enc _ F => by rw [OpenClaim.pre_eq_preRow]; exact liftedUpto os started H enc F)
theorem plain (f : FuncId) (fn : Func) (hf : Tryd.pinned.checked.prog.funcNamed "stockade/stockadelaw19.CompileSizes" = some f) (hfn : Tryd.pinned.checked.prog.funcs[f]? = some fn) :
    false = Tryd.pinned.checked.prog.looks [] ∧ ∀ (j : Nat) t, fn.params[j]? = some t → Tryd.pinned.checked.prog.wantsStandIn t = false := by
  obtain rfl : f = 4 := Option.some.inj ((show Tryd.prog.funcNamed "stockade/stockadelaw19.CompileSizes" = some 4 by kernel_rfl).symm.trans hf) |>.symm
  obtain rfl : fn = Tryd.f4 := (Option.some.inj (Tryd.func4.symm.trans hfn)).symm
  refine ⟨by kernel_rfl, fun j t ht => ?_⟩
  rw [Tryd.params4] at ht
  obtain rfl : t = 22 := by
    have := Array.mem_of_getElem? ht
    simpa using this
  exact (show Tryd.prog.wantsStandIn 22 = false by kernel_rfl)
theorem cardUpto : Rows.CompileSizesUptoCardSaid :=
  Claim7.holds_tied_plain_at .later [] _ _ _ _ saidUpto (fun _ h => by cases h) (by kernel_rfl) (fun _ h => by cases h) compileSizesUpto_row_tie rfl ⟨rfl, rfl⟩ (by kernel_rfl) rfl plain (by kernel_rfl)
#print axioms cardUpto
end Go.Proofs.YtadioopbehiakaaDoor.compileSizes
