/-
  CMay: may a test be? Both sides.
-/
import Derived.Test.YtadioopbehiakaaDoorF13
import Derived.Test.YtadioopbehiakaaDoorF14
set_option linter.all false
set_option linter.unusedVariables false
set_option linter.unusedSimpArgs false
namespace Go.Cmp
def mayT (t : TestT) : Bool :=
  if t.hi < t.lo then false
  else if t.kind = 1 ∨ t.kind = 2 then decide (t.pos = 0 ∧ t.size = 0 ∧ t.mask = 0 ∧ t.hi < 4294967296)
  else if t.kind ≠ 3 ∧ t.kind ≠ 4 then false
  else if t.size ≠ 1 ∧ t.size ≠ 2 ∧ t.size ≠ 4 ∧ t.size ≠ 8 then false
  else decide (0 ≤ t.pos ∧ t.pos ≤ 255 ∧ 1 ≤ t.mask ∧ t.mask ≤ fullS t.size ∧ t.hi ≤ fullS t.size)
end Go.Cmp
namespace Go.Proofs.YtadioopbehiakaaDoor
open Go Go.DI Go.DI.Kit Go.Proofs Go.Cmp
noncomputable section
theorem tn0 (t : TestT) : Y.nthL (testC t) 0 = some (.bool t.neg) := nr rfl
theorem tn1 (t : TestT) : Y.nthL (testC t) 1 = some (.int .i64 t.kind) := nr rfl
theorem tn2 (t : TestT) : Y.nthL (testC t) 2 = some (.int .i64 t.pos) := nr rfl
theorem tn3 (t : TestT) : Y.nthL (testC t) 3 = some (.int .i64 t.size) := nr rfl
theorem tn4 (t : TestT) : Y.nthL (testC t) 4 = some (.int .u64 t.mask) := nr rfl
theorem tn5 (t : TestT) : Y.nthL (testC t) 5 = some (.int .u64 t.lo) := nr rfl
theorem tn6 (t : TestT) : Y.nthL (testC t) 6 = some (.int .u64 t.hi) := nr rfl
theorem at16 : Tryd.prog.funcs[16]? = some Tryd.f16 := by kernel_rfl
theorem bd16 : Tryd.f16.body = some (bodyOf Tryd.f16) := by kernel_rfl
theorem nt16 : Tryd.f16.ntmps = 93 := by kernel_rfl
theorem n16 {a : Value} : max [a].length Tryd.f16.ntmps = 93 := by rw [nt16]; rfl
theorem ok16 {b : Bool} : okR Tryd.prog 16 (.bool b) = true := by kernel_rfl
theorem r16_0_eq {α : Type} (cf : Y.CF α) (L : Y.LK α) (k : Nat) (t : Tmps) (m : Mem) (q : Y.ExK α) : Y.codeF (Y.loopC c16 0) Tryd.prog kp 1 (Y.cfT Tryd.prog cf) L 93 k t m q = Y.opsF r16_0 Tryd.prog kp 1 (Y.cfT Tryd.prog cf) 93 r16_0 t m fun t m => q .normal t m := by kernel_rfl
theorem lc16_9 : Y.loopC c16 1 = Code.region 9 ⟨r16_9⟩ true := by kernel_rfl
theorem r16_9_eq {α : Type} (cf : Y.CF α) (L : Y.LK α) (k : Nat) (t : Tmps) (m : Mem) (q : Y.ExK α) : Y.codeF (Y.loopC c16 1) Tryd.prog kp 1 (Y.cfT Tryd.prog cf) L 93 k t m q = Y.drawF Tryd.prog kp 1 (Y.cfT Tryd.prog cf) 93 r16_9 t m fun t m => q .normal t m := by
  rw [lc16_9]; rfl
abbrev ml16 (o : Orc) (k j : Nat) (fr : Tmps) (M : Mem) : Option (Value × Mem) :=
  mixL (Y.lpOf Tryd.prog kp 1 (callN Tryd.prog kp 1 o k) 93) (fun t m q => Y.codeF (Y.loopC c16 j) Tryd.prog kp 1 (Y.cfT Tryd.prog (Y.cfOf (callN Tryd.prog kp 1 o k))) (mixL (Y.lpOf Tryd.prog kp 1 (callN Tryd.prog kp 1 o k) 93)) 93 k t m q) (Y.loopC c16 j) k fr M
    (Y.kont Tryd.prog kp 1 (Y.cfT Tryd.prog (Y.cfOf (callN Tryd.prog kp 1 o k))) (mixL (Y.lpOf Tryd.prog kp 1 (callN Tryd.prog kp 1 o k) 93)) 93 k c16 j (Y.retF Tryd.prog Tryd.f16 fun v m => some (v, m)))
abbrev kt16 (o : Orc) (k j : Nat) (fr : Tmps) (M : Mem) : Option (Value × Mem) :=
  Y.kont Tryd.prog kp 1 (Y.cfT Tryd.prog (Y.cfOf (callN Tryd.prog kp 1 o k))) (mixL (Y.lpOf Tryd.prog kp 1 (callN Tryd.prog kp 1 o k) 93)) 93 k c16 j (Y.retF Tryd.prog Tryd.f16 fun v m => some (v, m)) .normal fr M
section
variable {M : Mem} {o : Orc} {k tb : Nat} {t : TestT}
theorem may9_do (hO : Orq o) (hk : 5 ≤ k) (hM : M.top ∧ 1 ≤ M.size ∧ M.get 0 = .cells false gl) (gb : M.get tb = .cells true (testC t)) (hlt : tb < M.size) (hz : isz t.size) :
    ∃ M', (∀ (x : Nat → Value) (bb : Bool), ml16 o k 1 (fullN 93 (up x [(1, .pointer (some ⟨tb, 0, none⟩)), (2, .bool bb)])) M = some (.bool (decide (0 ≤ t.pos ∧ t.pos ≤ 255 ∧ 1 ≤ t.mask ∧ t.mask ≤ fullS t.size ∧ t.hi ≤ fullS t.size)), M')) ∧ Ext M M' := by
  obtain ⟨M2, c1, x2⟩ := hO.full2 hz k M (by omega) hM.1 hM.2.1 hM.2.2
  have s2 := x2.size
  obtain ⟨M3, c2, x3⟩ := hO.full2 hz k M2 (by omega) (x2.top hM.1) (by omega) ((x2.get 0 (by omega)).trans hM.2.2)
  have g2 : M2.get tb = .cells true (testC t) := (x2.get tb hlt).trans gb
  have g3 : M3.get tb = .cells true (testC t) := (x3.get tb (by omega)).trans g2
  have x23 := x2.trans x3
  by_cases p0 : 0 ≤ t.pos
  · by_cases p1 : t.pos ≤ 255
    · by_cases p2 : 1 ≤ t.mask
      · by_cases p3 : t.mask ≤ fullS t.size
        · by_cases p4 : t.hi ≤ fullS t.size
          · refine ⟨M3, fun x bb => ?_, x23⟩
            rw [decide_eq_true (show (0 ≤ t.pos ∧ t.pos ≤ 255 ∧ 1 ≤ t.mask ∧ t.mask ≤ fullS t.size ∧ t.hi ≤ fullS t.size) by exact ⟨p0, p1, p2, p3, p4⟩)]
            refine Eq.trans (loop_reg _ _ _ (by kernel_rfl) _ _ _ _) ?_
            refine Eq.trans (r16_9_eq ..) ?_
            refine Eq.trans (t_may9 ..) ?_
            simp only [gb, nCells, tn1, tn2, tn3, tn4, tn5, tn6, nElim, nAsInt, nKEq, nCondT, nCondF, notB, ltF_f (show ¬ t.pos < 0 by omega), ltF_f (show ¬ 255 < t.pos by omega), ltF_f (show ¬ t.mask < 1 by omega), nCf, c1, c2, nOnV, g2, g3, ltF_f (show ¬ fullS t.size < t.mask by omega), ltF_f (show ¬ fullS t.size < t.hi by omega), eqF_t (rfl : t.mask = t.mask), eqF_t (rfl : t.hi = t.hi)]
            exact t_mayR ..
          · refine ⟨M3, fun x bb => ?_, x23⟩
            rw [decide_eq_false (show ¬ (0 ≤ t.pos ∧ t.pos ≤ 255 ∧ 1 ≤ t.mask ∧ t.mask ≤ fullS t.size ∧ t.hi ≤ fullS t.size) by intro h; omega)]
            refine Eq.trans (loop_reg _ _ _ (by kernel_rfl) _ _ _ _) ?_
            refine Eq.trans (r16_9_eq ..) ?_
            refine Eq.trans (t_may9 ..) ?_
            simp only [gb, nCells, tn1, tn2, tn3, tn4, tn5, tn6, nElim, nAsInt, nKEq, nCondT, nCondF, notB, ltF_f (show ¬ t.pos < 0 by omega), ltF_f (show ¬ 255 < t.pos by omega), ltF_f (show ¬ t.mask < 1 by omega), nCf, c1, c2, nOnV, g2, g3, ltF_f (show ¬ fullS t.size < t.mask by omega), ltF_t (show fullS t.size < t.hi by omega), eqF_t (rfl : t.mask = t.mask), eqF_t (rfl : t.hi = t.hi)]
            exact t_mayR ..
        · refine ⟨M2, fun x bb => ?_, x2⟩
          rw [decide_eq_false (show ¬ (0 ≤ t.pos ∧ t.pos ≤ 255 ∧ 1 ≤ t.mask ∧ t.mask ≤ fullS t.size ∧ t.hi ≤ fullS t.size) by intro h; omega)]
          refine Eq.trans (loop_reg _ _ _ (by kernel_rfl) _ _ _ _) ?_
          refine Eq.trans (r16_9_eq ..) ?_
          refine Eq.trans (t_may9 ..) ?_
          simp only [gb, nCells, tn1, tn2, tn3, tn4, tn5, tn6, nElim, nAsInt, nKEq, nCondT, nCondF, notB, ltF_f (show ¬ t.pos < 0 by omega), ltF_f (show ¬ 255 < t.pos by omega), ltF_f (show ¬ t.mask < 1 by omega), nCf, c1, nOnV, g2, ltF_t (show fullS t.size < t.mask by omega), eqF_t (rfl : t.mask = t.mask)]
          exact t_mayR ..
      · refine ⟨M, fun x bb => ?_, Ext.refl _⟩
        rw [decide_eq_false (show ¬ (0 ≤ t.pos ∧ t.pos ≤ 255 ∧ 1 ≤ t.mask ∧ t.mask ≤ fullS t.size ∧ t.hi ≤ fullS t.size) by intro h; omega)]
        refine Eq.trans (loop_reg _ _ _ (by kernel_rfl) _ _ _ _) ?_
        refine Eq.trans (r16_9_eq ..) ?_
        refine Eq.trans (t_may9 ..) ?_
        simp only [gb, nCells, tn1, tn2, tn3, tn4, tn5, tn6, nElim, nAsInt, nKEq, nCondT, nCondF, notB, ltF_f (show ¬ t.pos < 0 by omega), ltF_f (show ¬ 255 < t.pos by omega), ltF_t (show t.mask < 1 by omega)]
        exact t_mayR ..
    · refine ⟨M, fun x bb => ?_, Ext.refl _⟩
      rw [decide_eq_false (show ¬ (0 ≤ t.pos ∧ t.pos ≤ 255 ∧ 1 ≤ t.mask ∧ t.mask ≤ fullS t.size ∧ t.hi ≤ fullS t.size) by intro h; omega)]
      refine Eq.trans (loop_reg _ _ _ (by kernel_rfl) _ _ _ _) ?_
      refine Eq.trans (r16_9_eq ..) ?_
      refine Eq.trans (t_may9 ..) ?_
      simp only [gb, nCells, tn1, tn2, tn3, tn4, tn5, tn6, nElim, nAsInt, nKEq, nCondT, nCondF, notB, ltF_f (show ¬ t.pos < 0 by omega), ltF_t (show 255 < t.pos by omega)]
      exact t_mayR ..
  · refine ⟨M, fun x bb => ?_, Ext.refl _⟩
    rw [decide_eq_false (show ¬ (0 ≤ t.pos ∧ t.pos ≤ 255 ∧ 1 ≤ t.mask ∧ t.mask ≤ fullS t.size ∧ t.hi ≤ fullS t.size) by intro h; omega)]
    refine Eq.trans (loop_reg _ _ _ (by kernel_rfl) _ _ _ _) ?_
    refine Eq.trans (r16_9_eq ..) ?_
    refine Eq.trans (t_may9 ..) ?_
    simp only [gb, nCells, tn1, tn2, tn3, tn4, tn5, tn6, nElim, nAsInt, nKEq, nCondT, nCondF, notB, ltF_t (show t.pos < 0 by omega)]
    exact t_mayR ..
theorem mayK_do (hO : Orq o) (hk : 5 ≤ k) (hM : M.top ∧ 1 ≤ M.size ∧ M.get 0 = .cells false gl) (gb : M.get tb = .cells true (testC t)) (hlt : tb < M.size) :
    ∃ M', (∀ x : Nat → Value, kt16 o k 0 (fullN 93 (up x [(1, .pointer (some ⟨tb, 0, none⟩)), (2, .bool false)])) M = some (.bool (mayT t), M')) ∧ Ext M M' := by
  by_cases h1 : t.hi < t.lo
  · refine ⟨M, fun x => ?_, Ext.refl _⟩
    rw [show mayT t = false by simp [mayT, h1]]
    refine Eq.trans (t_mayK ..) ?_
    simp only [gb, nCells, tn1, tn2, tn3, tn4, tn5, tn6, nElim, nAsInt, nKEq, nCondT, nCondF, notB, ltF_t h1]
  · by_cases h2 : t.kind = 1 ∨ t.kind = 2
    · refine ⟨M, fun x => ?_, Ext.refl _⟩
      rw [show mayT t = decide (t.pos = 0 ∧ t.size = 0 ∧ t.mask = 0 ∧ t.hi < 4294967296) by simp [mayT, h1, h2]]
      refine Eq.trans (t_mayK ..) ?_
      rcases h2 with h2 | h2
      · simp only [gb, nCells, tn1, tn2, tn3, tn4, tn5, tn6, nElim, nAsInt, nKEq, nCondT, nCondF, notB, ltF_f h1, eqF_t h2]
        by_cases a1 : t.pos = 0
        · by_cases a2 : t.size = 0
          · by_cases a3 : t.mask = 0
            · by_cases a4 : t.hi < 4294967296
              · rw [eqF_t a1, eqF_t a2, eqF_t a3, ltF_t a4, decide_eq_true ⟨a1, a2, a3, a4⟩]; rfl
              · rw [eqF_t a1, eqF_t a2, eqF_t a3, ltF_f a4, decide_eq_false (fun h => a4 h.2.2.2)]; rfl
            · rw [eqF_t a1, eqF_t a2, eqF_f a3, decide_eq_false (fun h => a3 h.2.2.1)]; rfl
          · rw [eqF_t a1, eqF_f a2, decide_eq_false (fun h => a2 h.2.1)]; rfl
        · rw [eqF_f a1, decide_eq_false (fun h => a1 h.1)]; rfl
      · simp only [gb, nCells, tn1, tn2, tn3, tn4, tn5, tn6, nElim, nAsInt, nKEq, nCondT, nCondF, notB, ltF_f h1, eqF_t h2, eqF_f (show t.kind ≠ 1 by omega)]
        by_cases a1 : t.pos = 0
        · by_cases a2 : t.size = 0
          · by_cases a3 : t.mask = 0
            · by_cases a4 : t.hi < 4294967296
              · rw [eqF_t a1, eqF_t a2, eqF_t a3, ltF_t a4, decide_eq_true ⟨a1, a2, a3, a4⟩]; rfl
              · rw [eqF_t a1, eqF_t a2, eqF_t a3, ltF_f a4, decide_eq_false (fun h => a4 h.2.2.2)]; rfl
            · rw [eqF_t a1, eqF_t a2, eqF_f a3, decide_eq_false (fun h => a3 h.2.2.1)]; rfl
          · rw [eqF_t a1, eqF_f a2, decide_eq_false (fun h => a2 h.2.1)]; rfl
        · rw [eqF_f a1, decide_eq_false (fun h => a1 h.1)]; rfl
    · by_cases h3 : t.kind = 3 ∨ t.kind = 4
      · by_cases hz : isz t.size
        · obtain ⟨M', c, x'⟩ := may9_do hO hk hM gb hlt hz
          refine ⟨M', fun x => ?_, x'⟩
          rw [show mayT t = decide (0 ≤ t.pos ∧ t.pos ≤ 255 ∧ 1 ≤ t.mask ∧ t.mask ≤ fullS t.size ∧ t.hi ≤ fullS t.size) by
            have e3 : ¬ (t.kind ≠ 3 ∧ t.kind ≠ 4) := by omega
            have e4 : ¬ (t.size ≠ 1 ∧ t.size ≠ 2 ∧ t.size ≠ 4 ∧ t.size ≠ 8) := by unfold isz at hz; omega
            unfold mayT
            rw [if_neg h1, if_neg h2, if_neg e3, if_neg e4]]
          refine Eq.trans (t_mayK ..) ?_
          rcases h3 with h3 | h3
          · simp only [gb, nCells, tn1, tn2, tn3, tn4, tn5, tn6, nElim, nAsInt, nKEq, nCondT, nCondF, notB, ltF_f h1, eqF_f (show t.kind ≠ 1 by omega), eqF_f (show t.kind ≠ 2 by omega), eqF_t h3]
            rcases hz with hz | hz | hz | hz
            · simp only [eqF_t hz, nCondT]
              exact c ..
            · simp only [eqF_t hz, eqF_f (show t.size ≠ 1 by omega), nCondT, nCondF]
              exact c ..
            · simp only [eqF_t hz, eqF_f (show t.size ≠ 1 by omega), eqF_f (show t.size ≠ 2 by omega), nCondT, nCondF]
              exact c ..
            · simp only [eqF_t hz, eqF_f (show t.size ≠ 1 by omega), eqF_f (show t.size ≠ 2 by omega), eqF_f (show t.size ≠ 4 by omega), nCondT, nCondF]
              exact c ..
          · simp only [gb, nCells, tn1, tn2, tn3, tn4, tn5, tn6, nElim, nAsInt, nKEq, nCondT, nCondF, notB, ltF_f h1, eqF_f (show t.kind ≠ 1 by omega), eqF_f (show t.kind ≠ 2 by omega), eqF_f (show t.kind ≠ 3 by omega), eqF_t h3]
            rcases hz with hz | hz | hz | hz
            · simp only [eqF_t hz, nCondT]
              exact c ..
            · simp only [eqF_t hz, eqF_f (show t.size ≠ 1 by omega), nCondT, nCondF]
              exact c ..
            · simp only [eqF_t hz, eqF_f (show t.size ≠ 1 by omega), eqF_f (show t.size ≠ 2 by omega), nCondT, nCondF]
              exact c ..
            · simp only [eqF_t hz, eqF_f (show t.size ≠ 1 by omega), eqF_f (show t.size ≠ 2 by omega), eqF_f (show t.size ≠ 4 by omega), nCondT, nCondF]
              exact c ..
        · refine ⟨M, fun x => ?_, Ext.refl _⟩
          unfold isz at hz
          rw [show mayT t = false by
            have e4 : t.size ≠ 1 ∧ t.size ≠ 2 ∧ t.size ≠ 4 ∧ t.size ≠ 8 := by omega
            have e3 : ¬ (t.kind ≠ 3 ∧ t.kind ≠ 4) := by omega
            unfold mayT
            rw [if_neg h1, if_neg h2, if_neg e3, if_pos e4]]
          refine Eq.trans (t_mayK ..) ?_
          have z1 := eqF_f (show t.size ≠ 1 by omega)
          have z2 := eqF_f (show t.size ≠ 2 by omega)
          have z4 := eqF_f (show t.size ≠ 4 by omega)
          have z8 := eqF_f (show t.size ≠ 8 by omega)
          rcases h3 with h3 | h3
          · simp only [gb, nCells, tn1, tn2, tn3, tn4, tn5, tn6, nElim, nAsInt, nKEq, nCondT, nCondF, notB, ltF_f h1, eqF_f (show t.kind ≠ 1 by omega), eqF_f (show t.kind ≠ 2 by omega), eqF_t h3, z1, z2, z4, z8]
          · simp only [gb, nCells, tn1, tn2, tn3, tn4, tn5, tn6, nElim, nAsInt, nKEq, nCondT, nCondF, notB, ltF_f h1, eqF_f (show t.kind ≠ 1 by omega), eqF_f (show t.kind ≠ 2 by omega), eqF_f (show t.kind ≠ 3 by omega), eqF_t h3, z1, z2, z4, z8]
      · refine ⟨M, fun x => ?_, Ext.refl _⟩
        rw [show mayT t = false by
          have e3 : t.kind ≠ 3 ∧ t.kind ≠ 4 := by omega
          unfold mayT
          rw [if_neg h1, if_neg h2, if_pos e3]]
        refine Eq.trans (t_mayK ..) ?_
        simp only [gb, nCells, tn1, tn2, tn3, tn4, tn5, tn6, nElim, nAsInt, nKEq, nCondT, nCondF, notB, ltF_f h1, eqF_f (show t.kind ≠ 1 by omega), eqF_f (show t.kind ≠ 2 by omega), eqF_f (show t.kind ≠ 3 by omega), eqF_f (show t.kind ≠ 4 by omega)]
theorem may_do (hO : Orq o) (hk : 10 ≤ k) (hM : M.top ∧ 1 ≤ M.size ∧ M.get 0 = .cells false gl) : ∃ M', callN Tryd.prog kp 1 o k 16 [.agg ⟨testC t⟩] M = some (.bool (mayT t), M') ∧ Ext M M' := by
  obtain ⟨k, rfl⟩ : ∃ k', k = k' + 1 := ⟨k - 1, by omega⟩
  have x1 := Ext.push M (.cells true (testC t))
  have s1 := x1.size
  obtain ⟨M', c, x'⟩ := mayK_do (M := M.push (.cells true (testC t))) (k := k) (tb := M.size) (t := t) hO (by omega) ⟨x1.top hM.1, by omega, (x1.get 0 (by omega)).trans hM.2.2⟩ (Mem.get_push_same _ _) (by show M.size < M.size + 1; omega)
  refine ⟨M', call_of 93 (hO.off 16 (by decide) _ _) at16 bd16 n16 ?_ ok16, x1.trans x'⟩
  refine Eq.trans (markS_eq [0, 9] Tryd.prog kp 1 _ (Y.lpOf Tryd.prog kp 1 (callN Tryd.prog kp 1 o k) 93) (fun _ _ _ _ _ _ _ => rfl) 93 k (bodyOf Tryd.f16) (by kernel_rfl) _ M _) ?_
  obtain ⟨neg, kind, pos, size, mask, lo, hi⟩ := t
  refine Eq.trans (t_may_in ..) ?_
  refine Eq.trans (loop_reg _ _ _ (by kernel_rfl) _ _ _ _) ?_
  refine Eq.trans (r16_0_eq ..) ?_
  refine Eq.trans (t_may0 ..) ?_
  exact c ..
end
theorem at25 : Tryd.prog.funcs[25]? = some Tryd.f25 := by kernel_rfl
theorem bd25 : Tryd.f25.body = some (bodyOf Tryd.f25) := by kernel_rfl
theorem nt25 : Tryd.f25.ntmps = 89 := by kernel_rfl
theorem n25 {a : Value} : max [a].length Tryd.f25.ntmps = 89 := by rw [nt25]; rfl
theorem ok25 {b : Bool} : okR Tryd.prog 25 (.bool b) = true := by kernel_rfl
theorem r25_0_eq {α : Type} (cf : Y.CF α) (L : Y.LK α) (k : Nat) (t : Tmps) (m : Mem) (q : Y.ExK α) : Y.codeF (Y.loopC c25 0) Tryd.prog kp 1 (Y.cfT Tryd.prog cf) L 89 k t m q = Y.opsF r25_0 Tryd.prog kp 1 (Y.cfT Tryd.prog cf) 89 r25_0 t m fun t m => q .normal t m := by kernel_rfl
theorem lc25_9 : Y.loopC c25 1 = Code.region 9 ⟨r25_9⟩ true := by kernel_rfl
theorem r25_9_eq {α : Type} (cf : Y.CF α) (L : Y.LK α) (k : Nat) (t : Tmps) (m : Mem) (q : Y.ExK α) : Y.codeF (Y.loopC c25 1) Tryd.prog kp 1 (Y.cfT Tryd.prog cf) L 89 k t m q = Y.drawF Tryd.prog kp 1 (Y.cfT Tryd.prog cf) 89 r25_9 t m fun t m => q .normal t m := by
  rw [lc25_9]; rfl
abbrev ml25 (o : Orc) (k j : Nat) (fr : Tmps) (M : Mem) : Option (Value × Mem) :=
  mixL (Y.lpOf Tryd.prog kp 1 (callN Tryd.prog kp 1 o k) 89) (fun t m q => Y.codeF (Y.loopC c25 j) Tryd.prog kp 1 (Y.cfT Tryd.prog (Y.cfOf (callN Tryd.prog kp 1 o k))) (mixL (Y.lpOf Tryd.prog kp 1 (callN Tryd.prog kp 1 o k) 89)) 89 k t m q) (Y.loopC c25 j) k fr M
    (Y.kont Tryd.prog kp 1 (Y.cfT Tryd.prog (Y.cfOf (callN Tryd.prog kp 1 o k))) (mixL (Y.lpOf Tryd.prog kp 1 (callN Tryd.prog kp 1 o k) 89)) 89 k c25 j (Y.retF Tryd.prog Tryd.f25 fun v m => some (v, m)))
abbrev kt25 (o : Orc) (k j : Nat) (fr : Tmps) (M : Mem) : Option (Value × Mem) :=
  Y.kont Tryd.prog kp 1 (Y.cfT Tryd.prog (Y.cfOf (callN Tryd.prog kp 1 o k))) (mixL (Y.lpOf Tryd.prog kp 1 (callN Tryd.prog kp 1 o k) 89)) 89 k c25 j (Y.retF Tryd.prog Tryd.f25 fun v m => some (v, m)) .normal fr M
section
variable {M : Mem} {o : Orc} {k tb : Nat} {t : TestT}
theorem May9_do (hO : Orq o) (hk : 5 ≤ k) (hM : M.top ∧ 1 ≤ M.size ∧ M.get 0 = .cells false gl) (gb : M.get tb = .cells true (testC t)) (hlt : tb < M.size) (hz : isz t.size) :
    ∃ M', (∀ (x : Nat → Value) (bb : Bool), ml25 o k 1 (fullN 89 (up x [(1, .pointer (some ⟨tb, 0, none⟩)), (2, .bool bb)])) M = some (.bool (decide (0 ≤ t.pos ∧ t.pos ≤ 255 ∧ 1 ≤ t.mask ∧ t.mask ≤ fullS t.size ∧ t.hi ≤ fullS t.size)), M')) ∧ Ext M M' := by
  obtain ⟨M2, c1, x2⟩ := hO.full hz k M (by omega) hM.1 hM.2.1 hM.2.2
  have s2 := x2.size
  obtain ⟨M3, c2, x3⟩ := hO.full hz k M2 (by omega) (x2.top hM.1) (by omega) ((x2.get 0 (by omega)).trans hM.2.2)
  have g2 : M2.get tb = .cells true (testC t) := (x2.get tb hlt).trans gb
  have g3 : M3.get tb = .cells true (testC t) := (x3.get tb (by omega)).trans g2
  have x23 := x2.trans x3
  by_cases p0 : 0 ≤ t.pos
  · by_cases p1 : t.pos ≤ 255
    · by_cases p2 : 1 ≤ t.mask
      · by_cases p3 : t.mask ≤ fullS t.size
        · by_cases p4 : t.hi ≤ fullS t.size
          · refine ⟨M3, fun x bb => ?_, x23⟩
            rw [decide_eq_true (show (0 ≤ t.pos ∧ t.pos ≤ 255 ∧ 1 ≤ t.mask ∧ t.mask ≤ fullS t.size ∧ t.hi ≤ fullS t.size) by exact ⟨p0, p1, p2, p3, p4⟩)]
            refine Eq.trans (loop_reg _ _ _ (by kernel_rfl) _ _ _ _) ?_
            refine Eq.trans (r25_9_eq ..) ?_
            refine Eq.trans (t_May9 ..) ?_
            simp only [gb, nCells, tn1, tn2, tn3, tn4, tn5, tn6, nElim, nAsInt, nKEq, nCondT, nCondF, notB, ltF_f (show ¬ t.pos < 0 by omega), ltF_f (show ¬ 255 < t.pos by omega), ltF_t (show 0 < t.mask by omega), nCf, c1, c2, nOnV, g2, g3, ltF_f (show ¬ fullS t.size < t.mask by omega), ltF_f (show ¬ fullS t.size < t.hi by omega), eqF_t (rfl : t.mask = t.mask), eqF_t (rfl : t.hi = t.hi)]
            exact t_MayR ..
          · refine ⟨M3, fun x bb => ?_, x23⟩
            rw [decide_eq_false (show ¬ (0 ≤ t.pos ∧ t.pos ≤ 255 ∧ 1 ≤ t.mask ∧ t.mask ≤ fullS t.size ∧ t.hi ≤ fullS t.size) by intro h; omega)]
            refine Eq.trans (loop_reg _ _ _ (by kernel_rfl) _ _ _ _) ?_
            refine Eq.trans (r25_9_eq ..) ?_
            refine Eq.trans (t_May9 ..) ?_
            simp only [gb, nCells, tn1, tn2, tn3, tn4, tn5, tn6, nElim, nAsInt, nKEq, nCondT, nCondF, notB, ltF_f (show ¬ t.pos < 0 by omega), ltF_f (show ¬ 255 < t.pos by omega), ltF_t (show 0 < t.mask by omega), nCf, c1, c2, nOnV, g2, g3, ltF_f (show ¬ fullS t.size < t.mask by omega), ltF_t (show fullS t.size < t.hi by omega), eqF_t (rfl : t.mask = t.mask), eqF_t (rfl : t.hi = t.hi)]
            exact t_MayR ..
        · refine ⟨M2, fun x bb => ?_, x2⟩
          rw [decide_eq_false (show ¬ (0 ≤ t.pos ∧ t.pos ≤ 255 ∧ 1 ≤ t.mask ∧ t.mask ≤ fullS t.size ∧ t.hi ≤ fullS t.size) by intro h; omega)]
          refine Eq.trans (loop_reg _ _ _ (by kernel_rfl) _ _ _ _) ?_
          refine Eq.trans (r25_9_eq ..) ?_
          refine Eq.trans (t_May9 ..) ?_
          simp only [gb, nCells, tn1, tn2, tn3, tn4, tn5, tn6, nElim, nAsInt, nKEq, nCondT, nCondF, notB, ltF_f (show ¬ t.pos < 0 by omega), ltF_f (show ¬ 255 < t.pos by omega), ltF_t (show 0 < t.mask by omega), nCf, c1, nOnV, g2, ltF_t (show fullS t.size < t.mask by omega), eqF_t (rfl : t.mask = t.mask)]
          exact t_MayR ..
      · refine ⟨M, fun x bb => ?_, Ext.refl _⟩
        rw [decide_eq_false (show ¬ (0 ≤ t.pos ∧ t.pos ≤ 255 ∧ 1 ≤ t.mask ∧ t.mask ≤ fullS t.size ∧ t.hi ≤ fullS t.size) by intro h; omega)]
        refine Eq.trans (loop_reg _ _ _ (by kernel_rfl) _ _ _ _) ?_
        refine Eq.trans (r25_9_eq ..) ?_
        refine Eq.trans (t_May9 ..) ?_
        simp only [gb, nCells, tn1, tn2, tn3, tn4, tn5, tn6, nElim, nAsInt, nKEq, nCondT, nCondF, notB, ltF_f (show ¬ t.pos < 0 by omega), ltF_f (show ¬ 255 < t.pos by omega), ltF_f (show ¬ 0 < t.mask by omega)]
        exact t_MayR ..
    · refine ⟨M, fun x bb => ?_, Ext.refl _⟩
      rw [decide_eq_false (show ¬ (0 ≤ t.pos ∧ t.pos ≤ 255 ∧ 1 ≤ t.mask ∧ t.mask ≤ fullS t.size ∧ t.hi ≤ fullS t.size) by intro h; omega)]
      refine Eq.trans (loop_reg _ _ _ (by kernel_rfl) _ _ _ _) ?_
      refine Eq.trans (r25_9_eq ..) ?_
      refine Eq.trans (t_May9 ..) ?_
      simp only [gb, nCells, tn1, tn2, tn3, tn4, tn5, tn6, nElim, nAsInt, nKEq, nCondT, nCondF, notB, ltF_f (show ¬ t.pos < 0 by omega), ltF_t (show 255 < t.pos by omega)]
      exact t_MayR ..
  · refine ⟨M, fun x bb => ?_, Ext.refl _⟩
    rw [decide_eq_false (show ¬ (0 ≤ t.pos ∧ t.pos ≤ 255 ∧ 1 ≤ t.mask ∧ t.mask ≤ fullS t.size ∧ t.hi ≤ fullS t.size) by intro h; omega)]
    refine Eq.trans (loop_reg _ _ _ (by kernel_rfl) _ _ _ _) ?_
    refine Eq.trans (r25_9_eq ..) ?_
    refine Eq.trans (t_May9 ..) ?_
    simp only [gb, nCells, tn1, tn2, tn3, tn4, tn5, tn6, nElim, nAsInt, nKEq, nCondT, nCondF, notB, ltF_t (show t.pos < 0 by omega)]
    exact t_MayR ..
theorem MayK_do (hO : Orq o) (hk : 5 ≤ k) (hM : M.top ∧ 1 ≤ M.size ∧ M.get 0 = .cells false gl) (gb : M.get tb = .cells true (testC t)) (hlt : tb < M.size) :
    ∃ M', (∀ x : Nat → Value, kt25 o k 0 (fullN 89 (up x [(1, .pointer (some ⟨tb, 0, none⟩)), (2, .bool false)])) M = some (.bool (mayT t), M')) ∧ Ext M M' := by
  by_cases h1 : t.hi < t.lo
  · refine ⟨M, fun x => ?_, Ext.refl _⟩
    rw [show mayT t = false by simp [mayT, h1]]
    refine Eq.trans (t_MayK ..) ?_
    simp only [gb, nCells, tn1, tn2, tn3, tn4, tn5, tn6, nElim, nAsInt, nKEq, nCondT, nCondF, notB, ltF_t h1]
  · by_cases h2 : t.kind = 1 ∨ t.kind = 2
    · refine ⟨M, fun x => ?_, Ext.refl _⟩
      rw [show mayT t = decide (t.pos = 0 ∧ t.size = 0 ∧ t.mask = 0 ∧ t.hi < 4294967296) by simp [mayT, h1, h2]]
      refine Eq.trans (t_MayK ..) ?_
      rcases h2 with h2 | h2
      · simp only [gb, nCells, tn1, tn2, tn3, tn4, tn5, tn6, nElim, nAsInt, nKEq, nCondT, nCondF, notB, ltF_f h1, eqF_t h2]
        by_cases a1 : t.pos = 0
        · by_cases a2 : t.size = 0
          · by_cases a3 : t.mask = 0
            · by_cases a4 : t.hi < 4294967296
              · rw [eqF_t a1, eqF_t a2, eqF_t a3, ltF_t a4, decide_eq_true ⟨a1, a2, a3, a4⟩]; rfl
              · rw [eqF_t a1, eqF_t a2, eqF_t a3, ltF_f a4, decide_eq_false (fun h => a4 h.2.2.2)]; rfl
            · rw [eqF_t a1, eqF_t a2, eqF_f a3, decide_eq_false (fun h => a3 h.2.2.1)]; rfl
          · rw [eqF_t a1, eqF_f a2, decide_eq_false (fun h => a2 h.2.1)]; rfl
        · rw [eqF_f a1, decide_eq_false (fun h => a1 h.1)]; rfl
      · simp only [gb, nCells, tn1, tn2, tn3, tn4, tn5, tn6, nElim, nAsInt, nKEq, nCondT, nCondF, notB, ltF_f h1, eqF_t h2, eqF_f (show t.kind ≠ 1 by omega)]
        by_cases a1 : t.pos = 0
        · by_cases a2 : t.size = 0
          · by_cases a3 : t.mask = 0
            · by_cases a4 : t.hi < 4294967296
              · rw [eqF_t a1, eqF_t a2, eqF_t a3, ltF_t a4, decide_eq_true ⟨a1, a2, a3, a4⟩]; rfl
              · rw [eqF_t a1, eqF_t a2, eqF_t a3, ltF_f a4, decide_eq_false (fun h => a4 h.2.2.2)]; rfl
            · rw [eqF_t a1, eqF_t a2, eqF_f a3, decide_eq_false (fun h => a3 h.2.2.1)]; rfl
          · rw [eqF_t a1, eqF_f a2, decide_eq_false (fun h => a2 h.2.1)]; rfl
        · rw [eqF_f a1, decide_eq_false (fun h => a1 h.1)]; rfl
    · by_cases h3 : t.kind = 3 ∨ t.kind = 4
      · by_cases hz : isz t.size
        · obtain ⟨M', c, x'⟩ := May9_do hO hk hM gb hlt hz
          refine ⟨M', fun x => ?_, x'⟩
          rw [show mayT t = decide (0 ≤ t.pos ∧ t.pos ≤ 255 ∧ 1 ≤ t.mask ∧ t.mask ≤ fullS t.size ∧ t.hi ≤ fullS t.size) by
            have e3 : ¬ (t.kind ≠ 3 ∧ t.kind ≠ 4) := by omega
            have e4 : ¬ (t.size ≠ 1 ∧ t.size ≠ 2 ∧ t.size ≠ 4 ∧ t.size ≠ 8) := by unfold isz at hz; omega
            unfold mayT
            rw [if_neg h1, if_neg h2, if_neg e3, if_neg e4]]
          refine Eq.trans (t_MayK ..) ?_
          rcases h3 with h3 | h3
          · simp only [gb, nCells, tn1, tn2, tn3, tn4, tn5, tn6, nElim, nAsInt, nKEq, nCondT, nCondF, notB, ltF_f h1, eqF_f (show t.kind ≠ 1 by omega), eqF_f (show t.kind ≠ 2 by omega), eqF_t h3]
            rcases hz with hz | hz | hz | hz
            · simp only [eqF_t hz, nCondT]
              exact c ..
            · simp only [eqF_t hz, eqF_f (show t.size ≠ 1 by omega), nCondT, nCondF]
              exact c ..
            · simp only [eqF_t hz, eqF_f (show t.size ≠ 1 by omega), eqF_f (show t.size ≠ 2 by omega), nCondT, nCondF]
              exact c ..
            · simp only [eqF_t hz, eqF_f (show t.size ≠ 1 by omega), eqF_f (show t.size ≠ 2 by omega), eqF_f (show t.size ≠ 4 by omega), nCondT, nCondF]
              exact c ..
          · simp only [gb, nCells, tn1, tn2, tn3, tn4, tn5, tn6, nElim, nAsInt, nKEq, nCondT, nCondF, notB, ltF_f h1, eqF_f (show t.kind ≠ 1 by omega), eqF_f (show t.kind ≠ 2 by omega), eqF_f (show t.kind ≠ 3 by omega), eqF_t h3]
            rcases hz with hz | hz | hz | hz
            · simp only [eqF_t hz, nCondT]
              exact c ..
            · simp only [eqF_t hz, eqF_f (show t.size ≠ 1 by omega), nCondT, nCondF]
              exact c ..
            · simp only [eqF_t hz, eqF_f (show t.size ≠ 1 by omega), eqF_f (show t.size ≠ 2 by omega), nCondT, nCondF]
              exact c ..
            · simp only [eqF_t hz, eqF_f (show t.size ≠ 1 by omega), eqF_f (show t.size ≠ 2 by omega), eqF_f (show t.size ≠ 4 by omega), nCondT, nCondF]
              exact c ..
        · refine ⟨M, fun x => ?_, Ext.refl _⟩
          unfold isz at hz
          rw [show mayT t = false by
            have e4 : t.size ≠ 1 ∧ t.size ≠ 2 ∧ t.size ≠ 4 ∧ t.size ≠ 8 := by omega
            have e3 : ¬ (t.kind ≠ 3 ∧ t.kind ≠ 4) := by omega
            unfold mayT
            rw [if_neg h1, if_neg h2, if_neg e3, if_pos e4]]
          refine Eq.trans (t_MayK ..) ?_
          have z1 := eqF_f (show t.size ≠ 1 by omega)
          have z2 := eqF_f (show t.size ≠ 2 by omega)
          have z4 := eqF_f (show t.size ≠ 4 by omega)
          have z8 := eqF_f (show t.size ≠ 8 by omega)
          rcases h3 with h3 | h3
          · simp only [gb, nCells, tn1, tn2, tn3, tn4, tn5, tn6, nElim, nAsInt, nKEq, nCondT, nCondF, notB, ltF_f h1, eqF_f (show t.kind ≠ 1 by omega), eqF_f (show t.kind ≠ 2 by omega), eqF_t h3, z1, z2, z4, z8]
          · simp only [gb, nCells, tn1, tn2, tn3, tn4, tn5, tn6, nElim, nAsInt, nKEq, nCondT, nCondF, notB, ltF_f h1, eqF_f (show t.kind ≠ 1 by omega), eqF_f (show t.kind ≠ 2 by omega), eqF_f (show t.kind ≠ 3 by omega), eqF_t h3, z1, z2, z4, z8]
      · refine ⟨M, fun x => ?_, Ext.refl _⟩
        rw [show mayT t = false by
          have e3 : t.kind ≠ 3 ∧ t.kind ≠ 4 := by omega
          unfold mayT
          rw [if_neg h1, if_neg h2, if_pos e3]]
        refine Eq.trans (t_MayK ..) ?_
        simp only [gb, nCells, tn1, tn2, tn3, tn4, tn5, tn6, nElim, nAsInt, nKEq, nCondT, nCondF, notB, ltF_f h1, eqF_f (show t.kind ≠ 1 by omega), eqF_f (show t.kind ≠ 2 by omega), eqF_f (show t.kind ≠ 3 by omega), eqF_f (show t.kind ≠ 4 by omega)]
theorem May_do (hO : Orq o) (hk : 10 ≤ k) (hM : M.top ∧ 1 ≤ M.size ∧ M.get 0 = .cells false gl) : ∃ M', callN Tryd.prog kp 1 o k 25 [.agg ⟨testC t⟩] M = some (.bool (mayT t), M') ∧ Ext M M' := by
  obtain ⟨k, rfl⟩ : ∃ k', k = k' + 1 := ⟨k - 1, by omega⟩
  have x1 := Ext.push M (.cells true (testC t))
  have s1 := x1.size
  obtain ⟨M', c, x'⟩ := MayK_do (M := M.push (.cells true (testC t))) (k := k) (tb := M.size) (t := t) hO (by omega) ⟨x1.top hM.1, by omega, (x1.get 0 (by omega)).trans hM.2.2⟩ (Mem.get_push_same _ _) (by show M.size < M.size + 1; omega)
  refine ⟨M', call_of 89 (hO.off 25 (by decide) _ _) at25 bd25 n25 ?_ ok25, x1.trans x'⟩
  refine Eq.trans (markS_eq [0, 9] Tryd.prog kp 1 _ (Y.lpOf Tryd.prog kp 1 (callN Tryd.prog kp 1 o k) 89) (fun _ _ _ _ _ _ _ => rfl) 89 k (bodyOf Tryd.f25) (by kernel_rfl) _ M _) ?_
  obtain ⟨neg, kind, pos, size, mask, lo, hi⟩ := t
  refine Eq.trans (t_May_in ..) ?_
  refine Eq.trans (loop_reg _ _ _ (by kernel_rfl) _ _ _ _) ?_
  refine Eq.trans (r25_0_eq ..) ?_
  refine Eq.trans (t_May0 ..) ?_
  exact c ..
end
end
end Go.Proofs.YtadioopbehiakaaDoor
namespace Go.Proofs.YtadioopbehiakaaDoor
open Go Go.DI Go.DI.Kit Go.Proofs Go.Cmp
noncomputable section
theorem at39 : Tryd.prog.funcs[39]? = some Tryd.f39 := by kernel_rfl
theorem bd39 : Tryd.f39.body = some (bodyOf Tryd.f39) := by kernel_rfl
theorem nt39 : Tryd.f39.ntmps = 62 := by kernel_rfl
theorem n39 {a b c : Value} : max [a, b, c].length Tryd.f39.ntmps = 62 := by rw [nt39]; rfl
theorem ok39 : okR Tryd.prog 39 unitV = true := by kernel_rfl
section
variable {K : Keep} {mp : Nat} {rows : List RowS} {labs : List (Nat × Nat)} {fr : Nat → Prop} {M : Mem}
variable {o : Orc} {k : Nat}
theorem done_do {lp l : Nat} (hO : Orq o) (hk : 100000 + 15 ≤ k) (hl : rows.length + 1 ≤ 100000) (h : St K mp rows ((lp, l) :: labs) fr M) :
    ∃ M1, callN Tryd.prog kp 1 o k 23 [ptr mp, .slice (some ⟨M.size, 0, none⟩) 1 1] (M.push (.cells true [ptr lp])) = some (unitV, M1) ∧ Does o k 24 [ptr mp, .slice (some ⟨M1.size, 0, none⟩) 1 1] (M1.push (.cells true [ptr lp])) (St K mp (rows ++ [lab l]) labs fr) := by
  have hb := h.box (.cells true [ptr lp])
  obtain ⟨M3, c3, h3⟩ := here_st (k := k) (hO.off 23 (by decide)) (by omega) (by omega) hb.1 (keep1_same ..)
  have h3 := h3.weak h.glb hb.2
  have hb2 := h3.box (.cells true [ptr lp])
  obtain ⟨M4, c4, h4⟩ := settle_st (k := k) (ps := [(lp, l)]) (hO.off 24 (by decide)) (by simp; omega) (by omega) (by simp) (keep1_same ..) hb2.1
  exact ⟨M3, c3, M4, c4, h4.weak h.glb hb2.2⟩
theorem past_turn {t : TestT} {lp l dl dn tb n i : Nat} (hO : Orq o) (hk : 100000 + 30 ≤ k) (hl : rows.length + 10 ≤ 100000) (hp : 0 ≤ t.pos ∧ t.pos ≤ 255) (hz : isz t.size) (hi : i < 16) (hlp : (lp, l) ∈ labs) (hdl : (dl, dn) ∈ labs) (htb : K tb = some (.cells true (testC t)))
    (h1 : fr (n + 1)) (h2 : fr (n + 2)) (h : St K mp rows labs fr M) (x : Nat → Value) : ∃ x' M', codeD Tryd.prog kp 1 (callN Tryd.prog kp 1 o k) (drawD Tryd.prog kp 1 (callN Tryd.prog kp 1 o k) 62) 62 k (loopN Tryd.f39 0) (fullN 62 (up x [(0, .pointer (some ⟨mp, 0, none⟩)), (2, .pointer (some ⟨lp, 0, none⟩)), (4, .pointer (some ⟨tb, 0, none⟩)), (6, .pointer (some ⟨dl, 0, none⟩)), (18, .int .i64 (i : Int))])) M = some (.normal, fullN 62 (up x' [(0, .pointer (some ⟨mp, 0, none⟩)), (2, .pointer (some ⟨lp, 0, none⟩)), (4, .pointer (some ⟨tb, 0, none⟩)), (6, .pointer (some ⟨dl, 0, none⟩)), (18, .int .i64 ((i + 1 : Nat) : Int))]), M') ∧
      St K mp (rows ++ ([ins (iIf 5 2 i) (if i = 15 then l else n + 1)] ++ toldS (n + 2) (14 + 4 * (i : Int) + t.pos + t.size) l ++ [ins (iLoad t.size 2 7 (14 + 4 * (i : Int) + t.pos)) 0, ins iGoto dn, lab (n + 1)])) labs (fun j => fr j ∧ j ≠ n + 1 ∧ j ≠ n + 2) M' := by
  have hzb : 1 ≤ t.size ∧ t.size ≤ 8 := by rcases hz with e | e | e | e <;> rw [e] <;> omega
  have e1 : IntKind.wrap .i64 (Int.mul (4 : Int) (i : Int)) = 4 * (i : Int) := wrap64 (by show _ ≤ 4 * (i : Int) ∧ 4 * (i : Int) ≤ _; omega)
  have e2 : IntKind.wrap .i64 (Int.add (14 : Int) (4 * (i : Int))) = 14 + 4 * (i : Int) := wrap64 (by show _ ≤ 14 + 4 * (i : Int) ∧ 14 + 4 * (i : Int) ≤ _; omega)
  have e3 : IntKind.wrap .i64 (Int.add (14 + 4 * (i : Int)) t.pos) = 14 + 4 * (i : Int) + t.pos := wrap64 (by show _ ≤ 14 + 4 * (i : Int) + t.pos ∧ 14 + 4 * (i : Int) + t.pos ≤ _; omega)
  have e4 : IntKind.wrap .i64 (Int.add (14 + 4 * (i : Int) + t.pos) t.size) = 14 + 4 * (i : Int) + t.pos + t.size := wrap64 (by show _ ≤ 14 + 4 * (i : Int) + t.pos + t.size ∧ 14 + 4 * (i : Int) + t.pos + t.size ≤ _; omega)
  have h0 := h.label h1
  have hw : IntKind.wrap .i32 (i : Int) = (i : Int) := wrap32_of (by omega) (by omega)
  have hsub : ∀ j, (((fr j ∧ j ≠ n + 1) ∧ j ≠ n + 2) ↔ (fr j ∧ j ≠ n + 1 ∧ j ≠ n + 2)) := fun j => and_assoc
  have hW : ∃ p, p = (if i = 15 then lp else M.size) ∧ (p, if i = 15 then l else n + 1) ∈ (M.size, n + 1) :: labs := by
    refine ⟨_, rfl, ?_⟩
    by_cases e : i = 15
    · rw [if_pos e, if_pos e]; exact List.mem_cons_of_mem _ hlp
    · rw [if_neg e, if_neg e]; exact List.mem_cons_self ..
  obtain ⟨p, hpe, hpm⟩ := hW
  obtain ⟨M1, c1, h1'⟩ := when_do (k := k) (op := 5) (d := 2) (n := (i : Int)) hO (by omega) (by omega) (by simp) hpm h0
  obtain ⟨M2, c2, h2'⟩ := told_do (k := k) (n := 14 + 4 * (i : Int) + t.pos + t.size) (a := n + 2) hO (by omega) (by simp; omega) (List.mem_cons_of_mem _ hlp) ⟨h2, by omega⟩ h1'
  obtain ⟨M3, c3, h3'⟩ := load_do (k := k) (z := t.size) (d := 2) (s := 7) (n := 14 + 4 * (i : Int) + t.pos) hO (by omega) (by simp [toldS]; omega) (.inr (.inr (.inr ⟨hz, rfl, rfl⟩))) h2'
  obtain ⟨M4, c4, h4'⟩ := away_do (k := k) hO (by omega) (by simp [toldS]; omega) (List.mem_cons_of_mem _ hdl) h3'
  obtain ⟨M5, c5, M6, c6, h6⟩ := done_do (k := k) hO (by omega) (by simp [toldS]; omega) h4'
  have gb1 := h1'.get htb
  have gb2 := h2'.get htb
  have hfin := h6.frees (fr' := fun j => fr j ∧ j ≠ n + 1 ∧ j ≠ n + 2) fun j hj => (hsub j).2 hj
  have hb : ∃ x', codeD Tryd.prog kp 1 (callN Tryd.prog kp 1 o k) (drawD Tryd.prog kp 1 (callN Tryd.prog kp 1 o k) 62) 62 k (loopN Tryd.f39 0) (fullN 62 (up x [(0, .pointer (some ⟨mp, 0, none⟩)), (2, .pointer (some ⟨lp, 0, none⟩)), (4, .pointer (some ⟨tb, 0, none⟩)), (6, .pointer (some ⟨dl, 0, none⟩)), (18, .int .i64 (i : Int))])) M = some (.normal, fullN 62 (up x' [(0, .pointer (some ⟨mp, 0, none⟩)), (2, .pointer (some ⟨lp, 0, none⟩)), (4, .pointer (some ⟨tb, 0, none⟩)), (6, .pointer (some ⟨dl, 0, none⟩)), (18, .int .i64 ((i + 1 : Nat) : Int))]), M6) := by
    have hlt : Y.ltF (i : Int) (16 : Int) = true := ltF_t (by omega)
    by_cases e : i = 15
    · rw [if_pos e] at hpe
      apply Exists.intro
      refine turn_of ?_
      refine Eq.trans (t_past ..) ?_
      rw [hlt, nCondT, eqF_t (show (i : Int) = 15 by omega), nCondT, hw]
      subst hpe
      refine step c1 ?_
      rw [gb1, nCells, show Y.nthL (testC t) 2 = some (.int .i64 t.pos) from rfl, nElim, nAsInt, nKEq, nCondT, nCells, show Y.nthL (testC t) 3 = some (.int .i64 t.size) from rfl, nElim, nAsInt, nKEq, nCondT, e1, e2, e3, e4]
      refine step c2 ?_
      rw [gb2, nCells, show Y.nthL (testC t) 3 = some (.int .i64 t.size) from rfl, nElim, nAsInt, nKEq, nCondT]
      refine step c3 ?_
      refine step c4 ?_
      refine step c5 ?_
      refine step c6 ?_
      rw [wrap_succ (by omega)]
      rfl
    · rw [if_neg e] at hpe
      apply Exists.intro
      refine turn_of ?_
      refine Eq.trans (t_past ..) ?_
      rw [hlt, nCondT, eqF_f (show (i : Int) ≠ 15 by omega), nCondF, hw]
      subst hpe
      refine step c1 ?_
      rw [gb1, nCells, show Y.nthL (testC t) 2 = some (.int .i64 t.pos) from rfl, nElim, nAsInt, nKEq, nCondT, nCells, show Y.nthL (testC t) 3 = some (.int .i64 t.size) from rfl, nElim, nAsInt, nKEq, nCondT, e1, e2, e3, e4]
      refine step c2 ?_
      rw [gb2, nCells, show Y.nthL (testC t) 3 = some (.int .i64 t.size) from rfl, nElim, nAsInt, nKEq, nCondT]
      refine step c3 ?_
      refine step c4 ?_
      refine step c5 ?_
      refine step c6 ?_
      rw [wrap_succ (by omega)]
      rfl
  obtain ⟨x', hb⟩ := hb
  refine ⟨x', M6, hb, ?_⟩
  simp only [List.append_assoc, List.cons_append, List.nil_append] at hfin ⊢
  exact hfin
theorem past_loop {t : TestT} {lp l dl dn tb : Nat} (hO : Orq o) (hk : 100000 + 30 ≤ k) (hp : 0 ≤ t.pos ∧ t.pos ≤ 255) (hz : isz t.size) (hlp : (lp, l) ∈ labs) (hdl : (dl, dn) ∈ labs) (htb : K tb = some (.cells true (testC t))) :
    ∀ (d i : Nat), i + d = 16 → ∀ (jj n : Nat) (rows : List RowS) (fr : Nat → Prop) (x : Nat → Value) (M : Mem), d + 1 ≤ jj → rows.length + 10 * d ≤ 100000 → (∀ j, n < j ∧ j ≤ n + 2 * d → fr j) → St K mp rows labs fr M →
    ∃ x' M', loopD (codeD Tryd.prog kp 1 (callN Tryd.prog kp 1 o k) (drawD Tryd.prog kp 1 (callN Tryd.prog kp 1 o k) 62) 62 k (loopN Tryd.f39 0)) jj (fullN 62 (up x [(0, .pointer (some ⟨mp, 0, none⟩)), (2, .pointer (some ⟨lp, 0, none⟩)), (4, .pointer (some ⟨tb, 0, none⟩)), (6, .pointer (some ⟨dl, 0, none⟩)), (18, .int .i64 (i : Int))])) M = some (.exit 0, fullN 62 (up x' [(0, .pointer (some ⟨mp, 0, none⟩)), (2, .pointer (some ⟨lp, 0, none⟩)), (4, .pointer (some ⟨tb, 0, none⟩)), (6, .pointer (some ⟨dl, 0, none⟩)), (18, .int .i64 ((16 : Nat) : Int))]), M') ∧
      St K mp (rows ++ pastK t l dn d i n) labs (fun j => fr j ∧ ¬ (n < j ∧ j ≤ n + 2 * d)) M'
  | 0, i, hi, jj, n, rows, fr, x, M, hjj, _, _, h => by
    obtain ⟨jj, rfl⟩ : ∃ j', jj = j' + 1 := ⟨jj - 1, by omega⟩
    obtain rfl : i = 16 := by omega
    have hb : ∃ x', codeD Tryd.prog kp 1 (callN Tryd.prog kp 1 o k) (drawD Tryd.prog kp 1 (callN Tryd.prog kp 1 o k) 62) 62 k (loopN Tryd.f39 0) (fullN 62 (up x [(0, .pointer (some ⟨mp, 0, none⟩)), (2, .pointer (some ⟨lp, 0, none⟩)), (4, .pointer (some ⟨tb, 0, none⟩)), (6, .pointer (some ⟨dl, 0, none⟩)), (18, .int .i64 ((16 : Nat) : Int))])) M = some (.exit 0, fullN 62 (up x' [(0, .pointer (some ⟨mp, 0, none⟩)), (2, .pointer (some ⟨lp, 0, none⟩)), (4, .pointer (some ⟨tb, 0, none⟩)), (6, .pointer (some ⟨dl, 0, none⟩)), (18, .int .i64 ((16 : Nat) : Int))]), M) := by
      apply Exists.intro
      refine turn_of ?_
      refine Eq.trans (t_past ..) ?_
      rw [show Y.ltF ((16 : Nat) : Int) (16 : Int) = false from rfl, nCondF]
      rfl
    obtain ⟨x', hb⟩ := hb
    refine ⟨x', M, loopD_stop jj hb (by simp), ?_⟩
    rw [show pastK t l dn 0 16 n = [] from rfl, List.append_nil]
    exact h.frees fun j hj => hj.1
  | d + 1, i, hi, jj, n, rows, fr, x, M, hjj, hl, hf, h => by
    obtain ⟨jj, rfl⟩ : ∃ j', jj = j' + 1 := ⟨jj - 1, by omega⟩
    obtain ⟨x1, M1, hb, h1⟩ := past_turn (n := n) (i := i) hO hk (by omega) hp hz (by omega) hlp hdl htb (hf _ ⟨by omega, by omega⟩) (hf _ ⟨by omega, by omega⟩) h x
    obtain ⟨x2, M2, h2, h3⟩ := past_loop hO hk hp hz hlp hdl htb d (i + 1) (by omega) jj (n + 2) _ _ x1 M1 (by omega) (by simp [toldS]; omega) (fun j hj => ⟨hf j ⟨by omega, by omega⟩, by omega, by omega⟩) h1
    refine ⟨x2, M2, (loopD_next jj hb).trans h2, ?_⟩
    have e : rows ++ pastK t l dn (d + 1) i n = rows ++ ([ins (iIf 5 2 i) (if i = 15 then l else n + 1)] ++ toldS (n + 2) (14 + 4 * (i : Int) + t.pos + t.size) l ++ [ins (iLoad t.size 2 7 (14 + 4 * (i : Int) + t.pos)) 0, ins iGoto dn, lab (n + 1)]) ++ pastK t l dn d (i + 1) (n + 2) := by
      rw [pastK]; simp only [List.append_assoc]
    rw [e]
    exact h3.frees fun j hj => ⟨⟨hj.1, by omega, by omega⟩, by omega⟩
theorem past_do {t : TestT} {lp l n : Nat} (hO : Orq o) (hk : 100000 + 40 ≤ k) (hl : rows.length + 200 ≤ 100000) (hp : 0 ≤ t.pos ∧ t.pos ≤ 255) (hz : isz t.size) (hlp : (lp, l) ∈ labs) (hf : ∀ j, n < j ∧ j ≤ n + 34 → fr j) (h : St K mp rows labs fr M) :
    Does o k 39 [ptr mp, .agg ⟨testC t⟩, ptr lp] M (St K mp (rows ++ (toldS (n + 2) 15 l ++ [ins (iLoad 1 2 7 14) 0, ins (iNum 5 2 15) 0] ++ pastK t l (n + 1) 16 0 (n + 2) ++ [lab (n + 1)])) labs (fun j => fr j ∧ ¬ (n < j ∧ j ≤ n + 34))) := by
  obtain ⟨k, rfl⟩ : ∃ k', k = k' + 1 := ⟨k - 1, by omega⟩
  have hb := h.box (.cells true (testC t))
  obtain ⟨M1, c1, h1⟩ := told_do (k := k) (n := 15) (a := n + 2) hO (by omega) (by omega) hlp (hf _ ⟨by omega, by omega⟩) hb.1
  obtain ⟨M2, c2, h2⟩ := load_do (k := k) (z := 1) (d := 2) (s := 7) (n := 14) hO (by omega) (by simp [toldS]; omega) (by simp) h1
  obtain ⟨M3, c3, h3⟩ := alu_do (k := k) (op := 5) (d := 2) (n := 15) hO (by omega) (by simp [toldS]; omega) (by simp) h2
  have h4 := h3.label (l := n + 1) ⟨hf _ ⟨by omega, by omega⟩, by omega⟩
  obtain ⟨x5, M5, hloop, h5⟩ := past_loop (labs := (M3.size, n + 1) :: labs) (dl := M3.size) (dn := n + 1) (t := t) hO (k := k) (by omega) hp hz (List.mem_cons_of_mem _ hlp) (List.mem_cons_self ..) (keep1_same K M.size (.cells true (testC t))) 16 0 (by omega) k (n + 2) _ _
    (up Go.DI.x0 [(16, (.pointer (some (Addr.mk mp 0 none)))), (12, (.pointer (some (Addr.mk lp 0 none)))), (14, (.pointer (some (Addr.mk mp 0 none)))), (1, (.agg ⟨testC t⟩)), (17, unitV), (13, unitV), (11, (.pointer (some (Addr.mk mp 0 none)))), (15, unitV)]) _ (by omega) (by simp [toldS]; omega) (fun j hj => ⟨⟨hf j ⟨by omega, by omega⟩, by omega⟩, by omega⟩) h4
  have hlen : (pastK t l (n + 1) 16 0 (n + 2)).length = 112 := by simp [pastK, toldS]
  obtain ⟨M6, c6, M7, c7, h7⟩ := done_do (k := k) hO (by omega) (by simp [toldS, hlen]; omega) h5
  have h7 := (h7.weak h.glb hb.2).frees (fr' := fun j => fr j ∧ ¬ (n < j ∧ j ≤ n + 34)) fun j hj => ⟨⟨⟨hj.1, by omega⟩, by omega⟩, by omega⟩
  simp only [List.append_assoc] at h7 ⊢
  refine ⟨M7, call_of 62 (hO.off 39 (by decide) _ _) at39 bd39 n39 ?_ ok39, h7⟩
  obtain ⟨neg, kind, pos, size, mask, lo, hi⟩ := t
  refine Eq.trans (t_past_in ..) ?_
  refine step c1 ?_
  refine step c2 ?_
  refine step c3 ?_
  rw [Y.lpOf_eq, Y.loopC_body]
  refine Eq.trans (congrArg (fun r => Y.onE r _) hloop) ?_
  rw [Y.onE_some]
  refine Eq.trans (t_past_out ..) ?_
  refine step c6 ?_
  refine step c7 ?_
  rfl
end
end
end Go.Proofs.YtadioopbehiakaaDoor
namespace Go.Proofs.YtadioopbehiakaaDoor
open Go Go.DI Go.DI.Kit Go.Proofs Go.Cmp
noncomputable section
theorem at21 : Tryd.prog.funcs[21]? = some Tryd.f21 := by kernel_rfl
theorem bd21 : Tryd.f21.body = some (bodyOf Tryd.f21) := by kernel_rfl
theorem nt21 : Tryd.f21.ntmps = 133 := by kernel_rfl
theorem n21 {a b c : Value} : max [a, b, c].length Tryd.f21.ntmps = 133 := by rw [nt21]; rfl
theorem ok21 : okR Tryd.prog 21 unitV = true := by kernel_rfl
theorem r21_13_eq {α : Type} (cf : Y.CF α) (L : Y.LK α) (k : Nat) (t : Tmps) (m : Mem) (q : Y.ExK α) : Y.codeF (Y.loopC c21 0) Tryd.prog kp 1 (Y.cfT Tryd.prog cf) L 133 k t m q = Y.opsF r21_13 Tryd.prog kp 1 (Y.cfT Tryd.prog cf) 133 r21_13 t m fun t m => q .normal t m := by kernel_rfl
theorem r21_22_eq {α : Type} (cf : Y.CF α) (L : Y.LK α) (k : Nat) (t : Tmps) (m : Mem) (q : Y.ExK α) : Y.codeF (Y.loopC c21 1) Tryd.prog kp 1 (Y.cfT Tryd.prog cf) L 133 k t m q = Y.opsF r21_22 Tryd.prog kp 1 (Y.cfT Tryd.prog cf) 133 r21_22 t m fun t m => q .normal t m := by kernel_rfl
theorem r21_24_eq {α : Type} (cf : Y.CF α) (L : Y.LK α) (k : Nat) (t : Tmps) (m : Mem) (q : Y.ExK α) : Y.codeF (Y.loopC c21 2) Tryd.prog kp 1 (Y.cfT Tryd.prog cf) L 133 k t m q = Y.opsF r21_24 Tryd.prog kp 1 (Y.cfT Tryd.prog cf) 133 r21_24 t m fun t m => q .normal t m := by kernel_rfl
theorem r21_26_eq {α : Type} (cf : Y.CF α) (L : Y.LK α) (k : Nat) (t : Tmps) (m : Mem) (q : Y.ExK α) : Y.codeF (Y.loopC c21 3) Tryd.prog kp 1 (Y.cfT Tryd.prog cf) L 133 k t m q = Y.opsF r21_26 Tryd.prog kp 1 (Y.cfT Tryd.prog cf) 133 r21_26 t m fun t m => q .normal t m := by kernel_rfl
structure TestOk (t : TestT) : Prop where
  kind : t.kind = 1 ∨ t.kind = 2 ∨ t.kind = 3 ∨ t.kind = 4
  pos : isBytes t = true → 0 ≤ t.pos ∧ t.pos ≤ 255
  size : isBytes t = true → isz t.size
  mask : 0 ≤ t.mask ∧ t.mask < 18446744073709551616
  lo : 0 ≤ t.lo ∧ t.lo < 18446744073709551616
  hi : 0 ≤ t.hi ∧ t.hi < 18446744073709551616
def topS (t : TestT) : Int := if isBytes t = true then fullS t.size else 0
abbrev kt (o : Orc) (k j : Nat) (fr : Tmps) (M : Mem) : Option (Value × Mem) :=
  Y.kont Tryd.prog kp 1 (Y.cfT Tryd.prog (Y.cfOf (callN Tryd.prog kp 1 o k))) (mixL (Y.lpOf Tryd.prog kp 1 (callN Tryd.prog kp 1 o k) 133)) 133 k c21 j (Y.retF Tryd.prog Tryd.f21 fun v m => some (v, m)) .normal fr M
section
variable {K : Keep} {mp : Nat} {rows : List RowS} {labs : List (Nat × Nat)} {fr : Nat → Prop} {M : Mem}
variable {o : Orc} {k : Nat}
theorem St.lab0 (h : St K mp rows labs fr M) {l : Nat} (hl : fr l) : St K mp (rows ++ [lab l]) labs (fun j => fr j ∧ j ≠ l) M := by
  obtain ⟨f, h⟩ := h
  obtain ⟨g0, g1, g2, g3⟩ := h.free l hl
  refine ⟨f, ?_, h.glob, h.pos, h.nod, fun j hj => ?_, fun j q hq => ?_, fun r hr h0 => ?_⟩
  · have e1 : labs.map (lbS (rows ++ [lab l])) = labs.map (lbS rows) := by
      refine List.map_congr_left fun y hy => ?_
      simp only [lbS, atS_lab rows g0, jumps_lab rows _ g0]
      rw [if_neg (g2 y hy)]
    rw [e1, outGo_lab f rows g0]; exact h.hp
  · obtain ⟨i0, i1, i2, i3⟩ := h.free j hj.1
    refine ⟨i0, i1, i2, fun r hr => ?_⟩
    rcases List.mem_append.1 hr with hr | hr
    · exact i3 r hr
    · obtain rfl := List.mem_singleton.1 hr
      exact ⟨by show 0 ≠ j; omega, fun e => hj.2 e.symm⟩
  · rw [atS_lab rows g0, if_neg (by rintro rfl; rw [g1] at hq; cases hq)]
    exact h.sett j q hq
  · rcases List.mem_append.1 hr with hr | hr
    · exact h.known r hr h0
    · obtain rfl := List.mem_singleton.1 hr
      exact absurd h0 (Nat.lt_irrefl 0)
section
variable {t : TestT} {lp lf ol tb n : Nat} {tp : Int}
theorem tstE_do (hO : Orq o) (hk : 100000 + 50 ≤ k) (htb : K tb = some (.cells true (testC t))) (hlp : (lp, lf) ∈ labs) (hl : rows.length + 20 ≤ 100000) (hg : fr (n + 2)) (h : St K mp rows ((ol, n + 1) :: labs) fr M) :
    ∃ M', (∀ (tp : Int) (x : Nat → Value), kt o k 3 (fullN 133 (up x [(0, .pointer (some ⟨mp, 0, none⟩)), (2, .pointer (some ⟨lp, 0, none⟩)), (4, .pointer (some ⟨tb, 0, none⟩)), (6, .pointer (some ⟨ol, 0, none⟩)), (7, .int .u64 tp), (105, .bool t.neg)])) M = some (unitV, M')) ∧ St K mp (rows ++ Cmp.endS t (n + 1) (n + 2) lf) labs (fun j => fr j ∧ j ≠ n + 2) M' := by
  by_cases hn : t.neg = true
  · obtain ⟨M1, c1, h1⟩ := afresh_do (k := k) hO (by omega) (by omega) h
    obtain ⟨M2, c2, h2⟩ := away_do (k := k) hO (by omega) (by simp [afreshS]; omega) (List.mem_cons_of_mem _ hlp) h1
    obtain ⟨M3, c3, M4, c4, h4⟩ := done_do (k := k) hO (by omega) (by simp [afreshS]; omega) h2
    have h5 := h4.lab0 hg
    refine ⟨M4, fun tp x => ?_, by rw [Cmp.endS, if_pos hn]; simpa only [List.append_assoc, List.cons_append, List.nil_append] using h5⟩
    refine Eq.trans (t_tstE ..) ?_
    rw [hn, nCondT]
    refine step c1 ?_
    refine step c2 ?_
    refine step c3 ?_
    refine step c4 ?_
    rfl
  · have h0 := h.label hg
    obtain ⟨M1, c1, h1⟩ := away_do (k := k) hO (by omega) (by omega) (List.mem_cons_self ..) h0
    have h1 := h1.perm (List.Perm.swap _ _ _)
    have hb := h1.box (.cells true [ptr ol])
    obtain ⟨M2, c2, h2⟩ := here_st (k := k) (hO.off 23 (by decide)) (by omega) (by simp; omega) hb.1 (keep1_same ..)
    have h2 := h2.weak h.glb hb.2
    obtain ⟨M3, c3, h3⟩ := afresh_do (k := k) hO (by omega) (by simp; omega) h2
    obtain ⟨M4, c4, h4⟩ := away_do (k := k) hO (by omega) (by simp [afreshS]; omega) (List.mem_cons_of_mem _ (List.mem_cons_of_mem _ hlp)) h3
    have h4 := h4.perm (List.Perm.swap _ _ _)
    have hb4 := h4.box (.cells true [ptr M.size])
    obtain ⟨M5, c5, h5⟩ := here_st (k := k) (hO.off 23 (by decide)) (by omega) (by simp [afreshS]; omega) hb4.1 (keep1_same ..)
    have h5 := (h5.weak h.glb hb4.2).perm (List.Perm.swap _ _ _)
    have hb5 := h5.box (.cells true [ptr ol, ptr M.size])
    obtain ⟨M6, c6, h6⟩ := settle_st (k := k) (ps := [(ol, n + 1), (M.size, n + 2)]) (hO.off 24 (by decide)) (by simp [afreshS]; omega) (by omega) (by simp) (keep1_same ..) hb5.1
    have h6 := h6.weak h.glb hb5.2
    refine ⟨M6, fun tp x => ?_, by rw [Cmp.endS, if_neg hn]; simpa only [List.append_assoc, List.cons_append, List.nil_append] using h6⟩
    refine Eq.trans (t_tstE ..) ?_
    rw [Bool.eq_false_iff.2 hn, nCondF]
    refine step c1 ?_
    refine step c2 ?_
    refine step c3 ?_
    refine step c4 ?_
    refine step c5 ?_
    refine step c6 ?_
    rfl
def hiS (t : TestT) (out : Nat) : List RowS := if isBytes t = false ∨ t.hi ≠ fullS t.size then heldS 2 t.hi out else []
def loS (t : TestT) (out : Nat) : List RowS := if 0 < t.lo then heldS 10 t.lo out else []
theorem held_len (op n : Int) (out : Nat) : (heldS op n out).length ≤ 3 := by unfold heldS; split <;> simp
theorem hiS_len (t : TestT) (out : Nat) : (hiS t out).length ≤ 3 := by
  have := held_len 2 t.hi out
  unfold hiS; split <;> simp; omega
theorem loS_len (t : TestT) (out : Nat) : (loS t out).length ≤ 3 := by
  have := held_len 10 t.lo out
  unfold loS; split <;> simp; omega
abbrev ml (o : Orc) (k j : Nat) (fr : Tmps) (M : Mem) : Option (Value × Mem) :=
  mixL (Y.lpOf Tryd.prog kp 1 (callN Tryd.prog kp 1 o k) 133) (fun t m q => Y.codeF (Y.loopC c21 j) Tryd.prog kp 1 (Y.cfT Tryd.prog (Y.cfOf (callN Tryd.prog kp 1 o k))) (mixL (Y.lpOf Tryd.prog kp 1 (callN Tryd.prog kp 1 o k) 133)) 133 k t m q) (Y.loopC c21 j) k fr M
    (Y.kont Tryd.prog kp 1 (Y.cfT Tryd.prog (Y.cfOf (callN Tryd.prog kp 1 o k))) (mixL (Y.lpOf Tryd.prog kp 1 (callN Tryd.prog kp 1 o k) 133)) 133 k c21 j (Y.retF Tryd.prog Tryd.f21 fun v m => some (v, m)))
theorem tst26_do (hO : Orq o) (hk : 100000 + 50 ≤ k) (htb : K tb = some (.cells true (testC t))) (hlp : (lp, lf) ∈ labs) (hl : rows.length + 20 ≤ 100000) (hg : fr (n + 2)) (h : St K mp rows ((ol, n + 1) :: labs) fr M) :
    ∃ M', (∀ (tp : Int) (x : Nat → Value), ml o k 3 (fullN 133 (up x [(0, .pointer (some ⟨mp, 0, none⟩)), (2, .pointer (some ⟨lp, 0, none⟩)), (4, .pointer (some ⟨tb, 0, none⟩)), (6, .pointer (some ⟨ol, 0, none⟩)), (7, .int .u64 tp)])) M = some (unitV, M')) ∧ St K mp (rows ++ Cmp.endS t (n + 1) (n + 2) lf) labs (fun j => fr j ∧ j ≠ n + 2) M' := by
  have gb := h.get htb
  obtain ⟨M', c, h'⟩ := tstE_do hO hk htb hlp hl hg h
  refine ⟨M', fun tp x => ?_, h'⟩
  refine Eq.trans (loop_reg _ _ _ (by kernel_rfl) _ _ _ _) ?_
  refine Eq.trans (r21_26_eq ..) ?_
  refine Eq.trans (t_tst26 ..) ?_
  rw [gb, nCells, show Y.nthL (testC t) 0 = some (.bool t.neg) from rfl, nElim, nAsBoB]
  exact c ..
theorem tstD_do (hO : Orq o) (hk : 100000 + 50 ≤ k) (htb : K tb = some (.cells true (testC t))) (hlp : (lp, lf) ∈ labs) (ht : TestOk t) (hl : rows.length + 30 ≤ 100000) (hg : fr (n + 2)) (h : St K mp rows ((ol, n + 1) :: labs) fr M) :
    ∃ M', (∀ (tp : Int) (x : Nat → Value), kt o k 2 (fullN 133 (up x [(0, .pointer (some ⟨mp, 0, none⟩)), (2, .pointer (some ⟨lp, 0, none⟩)), (4, .pointer (some ⟨tb, 0, none⟩)), (6, .pointer (some ⟨ol, 0, none⟩)), (7, .int .u64 tp), (99, .bool (decide (isBytes t = false ∨ t.hi ≠ fullS t.size)))])) M = some (unitV, M')) ∧ St K mp (rows ++ (hiS t (n + 1) ++ Cmp.endS t (n + 1) (n + 2) lf)) labs (fun j => fr j ∧ j ≠ n + 2) M' := by
  have gb := h.get htb
  have h3 := hiS_len t (n + 1)
  by_cases hc : isBytes t = false ∨ t.hi ≠ fullS t.size
  · obtain ⟨M1, c1, h1⟩ := held_do (k := k) (op := 2) (n := t.hi) hO (by omega) (by omega) (by simp) ht.hi.1 ht.hi.2 (List.mem_cons_self ..) h
    have e : hiS t (n + 1) = heldS 2 t.hi (n + 1) := if_pos hc
    rw [← e] at h1
    obtain ⟨M2, c2, h2⟩ := tst26_do hO hk htb hlp (by rw [List.length_append]; omega) hg h1
    refine ⟨M2, fun tp x => ?_, by rw [← List.append_assoc]; exact h2⟩
    refine Eq.trans (t_tstD ..) ?_
    rw [decide_eq_true hc, nCondT, gb, nCells, show Y.nthL (testC t) 6 = some (.int .u64 t.hi) from rfl, nElim, nAsInt, nKEq, nCondT]
    refine step c1 ?_
    exact c2 ..
  · obtain ⟨M2, c2, h2⟩ := tst26_do hO hk htb hlp (by omega) hg h
    have e : hiS t (n + 1) = [] := if_neg hc
    refine ⟨M2, fun tp x => ?_, by rw [e, List.nil_append]; exact h2⟩
    refine Eq.trans (t_tstD ..) ?_
    rw [decide_eq_false hc, nCondF]
    exact c2 ..
theorem tst24_do (hO : Orq o) (hk : 100000 + 50 ≤ k) (htb : K tb = some (.cells true (testC t))) (hlp : (lp, lf) ∈ labs) (ht : TestOk t) (hl : rows.length + 30 ≤ 100000) (hg : fr (n + 2)) (h : St K mp rows ((ol, n + 1) :: labs) fr M) :
    ∃ M', (∀ (x : Nat → Value), ml o k 2 (fullN 133 (up x [(0, .pointer (some ⟨mp, 0, none⟩)), (2, .pointer (some ⟨lp, 0, none⟩)), (4, .pointer (some ⟨tb, 0, none⟩)), (6, .pointer (some ⟨ol, 0, none⟩)), (7, .int .u64 (topS t))])) M = some (unitV, M')) ∧ St K mp (rows ++ (hiS t (n + 1) ++ Cmp.endS t (n + 1) (n + 2) lf)) labs (fun j => fr j ∧ j ≠ n + 2) M' := by
  have gb := h.get htb
  obtain ⟨M', c, h'⟩ := tstD_do hO hk htb hlp ht hl hg h
  refine ⟨M', fun x => ?_, h'⟩
  refine Eq.trans (loop_reg _ _ _ (by kernel_rfl) _ _ _ _) ?_
  refine Eq.trans (r21_24_eq ..) ?_
  refine Eq.trans (t_tst24 ..) ?_
  rw [gb, nCells, show Y.nthL (testC t) 1 = some (.int .i64 t.kind) from rfl, nElim, nAsInt, nKEq, nCondT]
  by_cases h1 : t.kind = 1
  · have e : decide (isBytes t = false ∨ t.hi ≠ fullS t.size) = true := by simp [isBytes, h1]
    rw [e] at c
    rw [eqF_t h1, nCondT]
    exact c ..
  · rw [eqF_f h1, nCondF, nCells, show Y.nthL (testC t) 1 = some (.int .i64 t.kind) from rfl, nElim, nAsInt, nKEq, nCondT]
    by_cases h2 : t.kind = 2
    · have e : decide (isBytes t = false ∨ t.hi ≠ fullS t.size) = true := by simp [isBytes, h2]
      rw [e] at c
      rw [eqF_t h2, nCondT]
      exact c ..
    · have hb : isBytes t = true := by
        rcases ht.kind with e | e | e | e
        · exact absurd e h1
        · exact absurd e h2
        · simp [isBytes, e]
        · simp [isBytes, e]
      have et : topS t = fullS t.size := if_pos hb
      rw [eqF_f h2, nCondF, nCells, show Y.nthL (testC t) 6 = some (.int .u64 t.hi) from rfl, nElim, nAsInt, nKEq, nCondT, notB, et]
      by_cases h3 : t.hi = fullS t.size
      · have e : decide (isBytes t = false ∨ t.hi ≠ fullS t.size) = false := by simp [hb, h3]
        rw [e] at c
        rw [eqF_t h3, nCondT]
        exact c ..
      · have e : decide (isBytes t = false ∨ t.hi ≠ fullS t.size) = true := by simp [h3]
        rw [e] at c
        rw [eqF_f h3, nCondF]
        exact c ..
theorem tstC_do (hO : Orq o) (hk : 100000 + 50 ≤ k) (htb : K tb = some (.cells true (testC t))) (hlp : (lp, lf) ∈ labs) (ht : TestOk t) (hl : rows.length + 40 ≤ 100000) (hg : fr (n + 2)) (h : St K mp rows ((ol, n + 1) :: labs) fr M) :
    ∃ M', (∀ (x : Nat → Value), kt o k 1 (fullN 133 (up x [(0, .pointer (some ⟨mp, 0, none⟩)), (2, .pointer (some ⟨lp, 0, none⟩)), (4, .pointer (some ⟨tb, 0, none⟩)), (6, .pointer (some ⟨ol, 0, none⟩)), (7, .int .u64 (topS t)), (81, .bool (decide (0 < t.lo)))])) M = some (unitV, M')) ∧ St K mp (rows ++ (loS t (n + 1) ++ (hiS t (n + 1) ++ Cmp.endS t (n + 1) (n + 2) lf))) labs (fun j => fr j ∧ j ≠ n + 2) M' := by
  have gb := h.get htb
  have h3 := loS_len t (n + 1)
  by_cases hc : 0 < t.lo
  · obtain ⟨M1, c1, h1⟩ := held_do (k := k) (op := 10) (n := t.lo) hO (by omega) (by omega) (by simp) ht.lo.1 ht.lo.2 (List.mem_cons_self ..) h
    have e : loS t (n + 1) = heldS 10 t.lo (n + 1) := if_pos hc
    rw [← e] at h1
    obtain ⟨M2, c2, h2⟩ := tst24_do hO hk htb hlp ht (by rw [List.length_append]; omega) hg h1
    refine ⟨M2, fun x => ?_, by rw [← List.append_assoc]; exact h2⟩
    refine Eq.trans (t_tstC ..) ?_
    rw [decide_eq_true hc, nCondT, gb, nCells, show Y.nthL (testC t) 5 = some (.int .u64 t.lo) from rfl, nElim, nAsInt, nKEq, nCondT]
    refine step c1 ?_
    exact c2 ..
  · obtain ⟨M2, c2, h2⟩ := tst24_do hO hk htb hlp ht (by omega) hg h
    have e : loS t (n + 1) = [] := if_neg hc
    refine ⟨M2, fun x => ?_, by rw [e, List.nil_append]; exact h2⟩
    refine Eq.trans (t_tstC ..) ?_
    rw [decide_eq_false hc, nCondF]
    exact c2 ..
theorem tst22_do (hO : Orq o) (hk : 100000 + 50 ≤ k) (htb : K tb = some (.cells true (testC t))) (hlp : (lp, lf) ∈ labs) (ht : TestOk t) (hl : rows.length + 40 ≤ 100000) (hg : fr (n + 2)) (h : St K mp rows ((ol, n + 1) :: labs) fr M) :
    ∃ M', (∀ (x : Nat → Value), ml o k 1 (fullN 133 (up x [(0, .pointer (some ⟨mp, 0, none⟩)), (2, .pointer (some ⟨lp, 0, none⟩)), (4, .pointer (some ⟨tb, 0, none⟩)), (6, .pointer (some ⟨ol, 0, none⟩)), (7, .int .u64 (topS t))])) M = some (unitV, M')) ∧ St K mp (rows ++ (loS t (n + 1) ++ (hiS t (n + 1) ++ Cmp.endS t (n + 1) (n + 2) lf))) labs (fun j => fr j ∧ j ≠ n + 2) M' := by
  have gb := h.get htb
  obtain ⟨M', c, h'⟩ := tstC_do hO hk htb hlp ht hl hg h
  refine ⟨M', fun x => ?_, h'⟩
  refine Eq.trans (loop_reg _ _ _ (by kernel_rfl) _ _ _ _) ?_
  refine Eq.trans (r21_22_eq ..) ?_
  refine Eq.trans (t_tst22 ..) ?_
  rw [gb, nCells, show Y.nthL (testC t) 5 = some (.int .u64 t.lo) from rfl, nElim, nAsInt, nKEq, nCondT, notB]
  have h0 := ht.lo.1
  by_cases h1 : t.lo = 0
  · rw [decide_eq_false (by omega)] at c
    rw [eqF_t h1, nCondT]
    exact c ..
  · rw [decide_eq_true (by omega)] at c
    rw [eqF_f h1, nCondF]
    exact c ..
theorem maskS_len (t : TestT) : (maskS t).length ≤ 4 := by unfold maskS; (repeat' split) <;> simp
theorem tstB_do (hO : Orq o) (hk : 100000 + 50 ≤ k) (htb : K tb = some (.cells true (testC t))) (hlp : (lp, lf) ∈ labs) (ht : TestOk t) (hl : rows.length + 50 ≤ 100000) (hg : fr (n + 2)) (h : St K mp rows ((ol, n + 1) :: labs) fr M) :
    ∃ M', (∀ (x : Nat → Value), kt o k 0 (fullN 133 (up x [(0, .pointer (some ⟨mp, 0, none⟩)), (2, .pointer (some ⟨lp, 0, none⟩)), (4, .pointer (some ⟨tb, 0, none⟩)), (6, .pointer (some ⟨ol, 0, none⟩)), (7, .int .u64 0), (46, .bool (isBytes t))])) M = some (unitV, M')) ∧ St K mp (rows ++ (maskS t ++ (loS t (n + 1) ++ (hiS t (n + 1) ++ Cmp.endS t (n + 1) (n + 2) lf)))) labs (fun j => fr j ∧ j ≠ n + 2) M' := by
  have gb := h.get htb
  cases hb : isBytes t with
  | false =>
    have e : maskS t = [] := by unfold maskS; rw [hb]; rfl
    have et : topS t = 0 := by unfold topS; rw [hb]; rfl
    obtain ⟨M2, c2, h2⟩ := tst22_do hO hk htb hlp ht (by omega) hg h
    rw [et] at c2
    refine ⟨M2, fun x => ?_, by rw [e, List.nil_append]; exact h2⟩
    refine Eq.trans (t_tstB ..) ?_
    rw [nCondF]
    exact c2 ..
  | true =>
    have hz := ht.size hb
    have et : topS t = fullS t.size := if_pos hb
    obtain ⟨M1, c1, x1⟩ := hO.most hz k M (by omega) h.top (by have := h.lt h.glb; omega) (h.get h.glb)
    have h1 := h.ext x1
    have g1 := h1.get htb
    obtain ⟨sw, hsw⟩ : ∃ sw : List RowS, sw = if 1 < t.size then [ins (iSwap t.size) 0] else [] := ⟨_, rfl⟩
    obtain ⟨mk, hmk⟩ : ∃ mk : List RowS, mk = if t.mask = fullS t.size then [] else if t.mask < 2147483648 then [ins (iNum 5 2 t.mask) 0] else [ins (iConst t.mask) 0, ins (iHigh t.mask) 0, ins (iRegs 5 2 3) 0] := ⟨_, rfl⟩
    have e : maskS t = sw ++ mk := by unfold maskS; rw [if_pos hb, hsw, hmk]
    have hsl : sw.length ≤ 1 := by rw [hsw]; split <;> simp
    have tail : ∀ {rows : List RowS} {M1 : Mem}, rows.length + 45 ≤ 100000 → St K mp rows ((ol, n + 1) :: labs) fr M1 → ∃ M2, (t.mask = fullS t.size → M2 = M1) ∧ (t.mask ≠ fullS t.size → ∃ M3, callN Tryd.prog kp 1 o k 41 [.int .u64 t.mask] M1 = some (.bool (decide (t.mask < 2147483648)), M3) ∧ M3.get tb = .cells true (testC t) ∧
        (t.mask < 2147483648 → callN Tryd.prog kp 1 o k 36 [ptr mp, .int .i64 5, .int .u8 2, .int .i32 t.mask] M3 = some (unitV, M2)) ∧
        (¬ t.mask < 2147483648 → ∃ M4, callN Tryd.prog kp 1 o k 42 [ptr mp, .int .u8 3, .int .u64 t.mask] M3 = some (unitV, M4) ∧ callN Tryd.prog kp 1 o k 17 [ptr mp, .int .i64 5, .int .u8 2, .int .u8 3] M4 = some (unitV, M2))) ∧
        St K mp (rows ++ mk) ((ol, n + 1) :: labs) fr M2 := by
      intro rows M1 hl h1
      by_cases hm : t.mask = fullS t.size
      · exact ⟨M1, fun _ => rfl, fun hn => absurd hm hn, by rw [hmk, if_pos hm, List.append_nil]; exact h1⟩
      · obtain ⟨M3, c3, x3⟩ := hO.small t.mask k M1 (by omega) h1.top (by have := h1.lt h1.glb; omega) (h1.get h1.glb)
        have h3 := h1.ext x3
        by_cases hs : t.mask < 2147483648
        · obtain ⟨M2, c2, h2⟩ := alu_do (k := k) (op := 5) (d := 2) (n := t.mask) hO (by omega) (by omega) (by simp) h3
          exact ⟨M2, fun hn => absurd hn hm, fun _ => ⟨M3, c3, h3.get htb, fun _ => c2, fun hn => absurd hs hn⟩, by rw [hmk, if_neg hm, if_pos hs]; exact h2⟩
        · obtain ⟨M4, c4, h4⟩ := konst_st (k := k - 2) (d := 3) (n := t.mask) (hO.off 35 (by decide)) (hO.off 42 (by decide)) (by omega) h3 (hO.makes (by omega) MkS.const)
          rw [show k - 2 + 2 = k by omega] at c4
          obtain ⟨M2, c2, h2⟩ := both_do (k := k) (op := 5) (d := 2) (s := 3) hO (by omega) (by simp; omega) (by simp) h4
          refine ⟨M2, fun hn => absurd hn hm, fun _ => ⟨M3, c3, h3.get htb, fun hn => absurd hn hs, fun _ => ⟨M4, c4, c2⟩⟩, ?_⟩
          rw [hmk, if_neg hm, if_neg hs]
          rw [List.append_assoc, loW_lo, loW_hi ht.mask.1 ht.mask.2] at h2
          exact h2
    by_cases hs : 1 < t.size
    · have hz2 : t.size = 2 ∨ t.size = 4 ∨ t.size = 8 := by rcases hz with e | e | e | e <;> omega
      obtain ⟨M2, c2, h2⟩ := put_do (k := k) hO (by omega) (by omega) (MkS.swap hz2) h1
      have g2 := h2.get htb
      have hsw : sw = [ins (iSwap t.size) 0] := by rw [hsw, if_pos hs]
      rw [← hsw] at h2
      obtain ⟨M5, q1, q2, h5⟩ := tail (by rw [List.length_append]; omega) h2
      have hml : mk.length ≤ 3 := by rw [hmk]; (repeat' split) <;> simp
      obtain ⟨M6, c6, h6⟩ := tst22_do hO hk htb hlp ht (by rw [List.length_append, List.length_append]; omega) hg h5
      rw [et] at c6
      refine ⟨M6, fun x => ?_, by rw [e]; simpa only [List.append_assoc] using h6⟩
      refine Eq.trans (t_tstB ..) ?_
      rw [nCondT, gb, nCells, show Y.nthL (testC t) 3 = some (.int .i64 t.size) from rfl, nElim, nAsInt, nKEq, nCondT]
      refine step c1 ?_
      rw [nAsInt, nKEq, nCondT, g1, nCells, show Y.nthL (testC t) 3 = some (.int .i64 t.size) from rfl, nElim, nAsInt, nKEq, nCondT, ltF_t hs, nCondT, nCells, show Y.nthL (testC t) 3 = some (.int .i64 t.size) from rfl, nElim, nAsInt, nKEq, nCondT]
      refine step c2 ?_
      rw [g2, nCells, show Y.nthL (testC t) 4 = some (.int .u64 t.mask) from rfl, nElim, nAsInt, nKEq, nCondT]
      by_cases hm : t.mask = fullS t.size
      · obtain rfl := q1 hm
        rw [eqF_t hm, nCondT]
        exact c6 ..
      · obtain ⟨M3, c3, g3, q3, q4⟩ := q2 hm
        rw [eqF_f hm, nCondF, nCells, show Y.nthL (testC t) 4 = some (.int .u64 t.mask) from rfl, nElim, nAsInt, nKEq, nCondT]
        refine step c3 ?_
        rw [nAsBoB]
        by_cases hs2 : t.mask < 2147483648
        · rw [decide_eq_true hs2, nCondT, g3, nCells, show Y.nthL (testC t) 4 = some (.int .u64 t.mask) from rfl, nElim, nAsInt, nKEq, nCondT, wrap32_of ht.mask.1 hs2]
          refine step (q3 hs2) ?_
          exact c6 ..
        · obtain ⟨M4, c4, c5⟩ := q4 hs2
          rw [decide_eq_false hs2, nCondF, g3, nCells, show Y.nthL (testC t) 4 = some (.int .u64 t.mask) from rfl, nElim, nAsInt, nKEq, nCondT]
          refine step c4 ?_
          refine step c5 ?_
          exact c6 ..
    · have hsw : sw = [] := by rw [hsw, if_neg hs]
      obtain ⟨M5, q1, q2, h5⟩ := tail (by omega) h1
      have hml : mk.length ≤ 3 := by rw [hmk]; (repeat' split) <;> simp
      obtain ⟨M6, c6, h6⟩ := tst22_do hO hk htb hlp ht (by rw [List.length_append]; omega) hg h5
      rw [et] at c6
      refine ⟨M6, fun x => ?_, by rw [e, hsw, List.nil_append]; simpa only [List.append_assoc] using h6⟩
      refine Eq.trans (t_tstB ..) ?_
      rw [nCondT, gb, nCells, show Y.nthL (testC t) 3 = some (.int .i64 t.size) from rfl, nElim, nAsInt, nKEq, nCondT]
      refine step c1 ?_
      rw [nAsInt, nKEq, nCondT, g1, nCells, show Y.nthL (testC t) 3 = some (.int .i64 t.size) from rfl, nElim, nAsInt, nKEq, nCondT, ltF_f hs, nCondF, nCells, show Y.nthL (testC t) 4 = some (.int .u64 t.mask) from rfl, nElim, nAsInt, nKEq, nCondT]
      by_cases hm : t.mask = fullS t.size
      · obtain rfl := q1 hm
        rw [eqF_t hm, nCondT]
        exact c6 ..
      · obtain ⟨M3, c3, g3, q3, q4⟩ := q2 hm
        rw [eqF_f hm, nCondF, nCells, show Y.nthL (testC t) 4 = some (.int .u64 t.mask) from rfl, nElim, nAsInt, nKEq, nCondT]
        refine step c3 ?_
        rw [nAsBoB]
        by_cases hs2 : t.mask < 2147483648
        · rw [decide_eq_true hs2, nCondT, g3, nCells, show Y.nthL (testC t) 4 = some (.int .u64 t.mask) from rfl, nElim, nAsInt, nKEq, nCondT, wrap32_of ht.mask.1 hs2]
          refine step (q3 hs2) ?_
          exact c6 ..
        · obtain ⟨M4, c4, c5⟩ := q4 hs2
          rw [decide_eq_false hs2, nCondF, g3, nCells, show Y.nthL (testC t) 4 = some (.int .u64 t.mask) from rfl, nElim, nAsInt, nKEq, nCondT]
          refine step c4 ?_
          refine step c5 ?_
          exact c6 ..
theorem tst13_do (hO : Orq o) (hk : 100000 + 50 ≤ k) (htb : K tb = some (.cells true (testC t))) (hlp : (lp, lf) ∈ labs) (ht : TestOk t) (hl : rows.length + 50 ≤ 100000) (hg : fr (n + 2)) (h : St K mp rows ((ol, n + 1) :: labs) fr M) :
    ∃ M', (∀ (x : Nat → Value), ml o k 0 (fullN 133 (up x [(0, .pointer (some ⟨mp, 0, none⟩)), (2, .pointer (some ⟨lp, 0, none⟩)), (4, .pointer (some ⟨tb, 0, none⟩)), (6, .pointer (some ⟨ol, 0, none⟩)), (7, .int .u64 0)])) M = some (unitV, M')) ∧ St K mp (rows ++ (maskS t ++ (loS t (n + 1) ++ (hiS t (n + 1) ++ Cmp.endS t (n + 1) (n + 2) lf)))) labs (fun j => fr j ∧ j ≠ n + 2) M' := by
  have gb := h.get htb
  obtain ⟨M', c, h'⟩ := tstB_do hO hk htb hlp ht hl hg h
  refine ⟨M', fun x => ?_, h'⟩
  refine Eq.trans (loop_reg _ _ _ (by kernel_rfl) _ _ _ _) ?_
  refine Eq.trans (r21_13_eq ..) ?_
  refine Eq.trans (t_tst13 ..) ?_
  rw [gb, nCells, show Y.nthL (testC t) 1 = some (.int .i64 t.kind) from rfl, nElim, nAsInt, nKEq, nCondT]
  by_cases h1 : t.kind = 3
  · have e : isBytes t = true := by simp [isBytes, h1]
    rw [e] at c
    rw [eqF_t h1, nCondT]
    exact c ..
  · rw [eqF_f h1, nCondF, nCells, show Y.nthL (testC t) 1 = some (.int .i64 t.kind) from rfl, nElim, nAsInt, nKEq, nCondT]
    by_cases h2 : t.kind = 4
    · have e : isBytes t = true := by simp [isBytes, h2]
      rw [e] at c
      rw [eqF_t h2, nCondT]
      exact c ..
    · have e : isBytes t = false := by simp [isBytes, h1, h2]
      rw [e] at c
      rw [eqF_f h2, nCondF]
      exact c ..
end
end
end
end Go.Proofs.YtadioopbehiakaaDoor
