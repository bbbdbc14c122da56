/-
  CRef2: the reference's code of a test.
-/
import Derived.Test.YtadioopbehiakaaDoorF18
set_option linter.all false
set_option linter.unusedVariables false
set_option linter.unusedSimpArgs false
namespace Go.Proofs.YtadioopbehiakaaDoor
open Go Go.DI Go.DI.Kit Go.Proofs Go.Cmp
noncomputable section
theorem at31 : Tryd.prog.funcs[31]? = some Tryd.f31 := by kernel_rfl
theorem bd31 : Tryd.f31.body = some (bodyOf Tryd.f31) := by kernel_rfl
theorem nt31 : Tryd.f31.ntmps = 188 := by kernel_rfl
theorem n31 {a b c : Value} : max [a, b, c].length Tryd.f31.ntmps = 188 := by rw [nt31]; rfl
theorem ok31 : okR Tryd.prog 31 unitV = true := by kernel_rfl
theorem r31_6_eq {α : Type} (cf : Y.CF α) (L : Y.LK α) (k : Nat) (t : Tmps) (m : Mem) (q : Y.ExK α) : Y.codeF (Y.loopC c31 0) Tryd.prog kp 1 (Y.cfT Tryd.prog cf) L 188 k t m q = Y.opsF r31_6 Tryd.prog kp 1 (Y.cfT Tryd.prog cf) 188 r31_6 t m fun t m => q .normal t m := by kernel_rfl
theorem r31_8_eq {α : Type} (cf : Y.CF α) (L : Y.LK α) (k : Nat) (t : Tmps) (m : Mem) (q : Y.ExK α) : Y.codeF (Y.loopC c31 1) Tryd.prog kp 1 (Y.cfT Tryd.prog cf) L 188 k t m q = Y.opsF r31_8 Tryd.prog kp 1 (Y.cfT Tryd.prog cf) 188 r31_8 t m fun t m => q .normal t m := by kernel_rfl
theorem r31_11_eq {α : Type} (cf : Y.CF α) (L : Y.LK α) (k : Nat) (t : Tmps) (m : Mem) (q : Y.ExK α) : Y.codeF (Y.loopC c31 2) Tryd.prog kp 1 (Y.cfT Tryd.prog cf) L 188 k t m q = Y.opsF r31_11 Tryd.prog kp 1 (Y.cfT Tryd.prog cf) 188 r31_11 t m fun t m => q .normal t m := by kernel_rfl
theorem r31_29_eq {α : Type} (cf : Y.CF α) (L : Y.LK α) (k : Nat) (t : Tmps) (m : Mem) (q : Y.ExK α) : Y.codeF (Y.loopC c31 4) Tryd.prog kp 1 (Y.cfT Tryd.prog cf) L 188 k t m q = Y.opsF r31_29 Tryd.prog kp 1 (Y.cfT Tryd.prog cf) 188 r31_29 t m fun t m => q .normal t m := by kernel_rfl
theorem lc31_31 : Y.loopC c31 5 = Code.region 31 ⟨r31_31⟩ true := by kernel_rfl
theorem r31_31_eq {α : Type} (cf : Y.CF α) (L : Y.LK α) (k : Nat) (t : Tmps) (m : Mem) (q : Y.ExK α) : Y.codeF (Y.loopC c31 5) Tryd.prog kp 1 (Y.cfT Tryd.prog cf) L 188 k t m q = Y.drawF Tryd.prog kp 1 (Y.cfT Tryd.prog cf) 188 r31_31 t m fun t m => q .normal t m := by
  rw [lc31_31]; rfl
theorem r31_36_eq {α : Type} (cf : Y.CF α) (L : Y.LK α) (k : Nat) (t : Tmps) (m : Mem) (q : Y.ExK α) : Y.codeF (Y.loopC c31 6) Tryd.prog kp 1 (Y.cfT Tryd.prog cf) L 188 k t m q = Y.opsF r31_36 Tryd.prog kp 1 (Y.cfT Tryd.prog cf) 188 r31_36 t m fun t m => q .normal t m := by kernel_rfl
theorem lc31_38 : Y.loopC c31 7 = Code.region 38 ⟨r31_38⟩ true := by kernel_rfl
theorem r31_38_eq {α : Type} (cf : Y.CF α) (L : Y.LK α) (k : Nat) (t : Tmps) (m : Mem) (q : Y.ExK α) : Y.codeF (Y.loopC c31 7) Tryd.prog kp 1 (Y.cfT Tryd.prog cf) L 188 k t m q = Y.drawF Tryd.prog kp 1 (Y.cfT Tryd.prog cf) 188 r31_38 t m fun t m => q .normal t m := by
  rw [lc31_38]; rfl
theorem r31_40_eq {α : Type} (cf : Y.CF α) (L : Y.LK α) (k : Nat) (t : Tmps) (m : Mem) (q : Y.ExK α) : Y.codeF (Y.loopC c31 8) Tryd.prog kp 1 (Y.cfT Tryd.prog cf) L 188 k t m q = Y.opsF r31_40 Tryd.prog kp 1 (Y.cfT Tryd.prog cf) 188 r31_40 t m fun t m => q .normal t m := by kernel_rfl
theorem lc31 : Y.loopC c31 3 = loopN Tryd.f31 0 := by kernel_rfl
abbrev ktR (o : Orc) (k j : Nat) (e : Ex) (fr : Tmps) (M : Mem) : Option (Value × Mem) :=
  Y.kont Tryd.prog kp 1 (Y.cfT Tryd.prog (Y.cfOf (callN Tryd.prog kp 1 o k))) (mixL (Y.lpOf Tryd.prog kp 1 (callN Tryd.prog kp 1 o k) 188)) 188 k c31 j (Y.retF Tryd.prog Tryd.f31 fun v m => some (v, m)) e fr M
abbrev mlR (o : Orc) (k j : Nat) (fr : Tmps) (M : Mem) : Option (Value × Mem) :=
  mixL (Y.lpOf Tryd.prog kp 1 (callN Tryd.prog kp 1 o k) 188) (fun t m q => Y.codeF (Y.loopC c31 j) Tryd.prog kp 1 (Y.cfT Tryd.prog (Y.cfOf (callN Tryd.prog kp 1 o k))) (mixL (Y.lpOf Tryd.prog kp 1 (callN Tryd.prog kp 1 o k) 188)) 188 k t m q) (Y.loopC c31 j) k fr M
    (Y.kont Tryd.prog kp 1 (Y.cfT Tryd.prog (Y.cfOf (callN Tryd.prog kp 1 o k))) (mixL (Y.lpOf Tryd.prog kp 1 (callN Tryd.prog kp 1 o k) 188)) 188 k c31 j (Y.retF Tryd.prog Tryd.f31 fun v m => some (v, m)))
section
variable {K : Keep} {mp : Nat} {rows : List RowS} {M : Mem}
variable {o : Orc} {k : Nat}
variable {t : TestT} {lf tb n N : Nat}
theorem TstK40_do (hO : Orq o) (hk : 100000 + 50 ≤ k) (htb : K tb = some (.cells true (testC t))) (hl : rows.length + 20 ≤ 100000) (h : RS K mp rows N M) :
    ∃ M', (∀ x : Nat → Value, ktR o k 8 .normal (fullN 188 (up x [(0, .pointer (some ⟨mp, 0, none⟩)), (2, .int .i64 (lf : Int)), (4, .pointer (some ⟨tb, 0, none⟩)), (6, .int .i64 ((n + 1 : Nat) : Int)), (7, .int .i64 ((n + 2 : Nat) : Int)), (8, .bool (isBytes t)), (168, .bool (!t.neg))])) M = some (unitV, M')) ∧ RS K mp (rows ++ Cmp.endS t (n + 1) (n + 2) lf) N M' := by
  by_cases hn : t.neg = true
  · obtain ⟨M1, c1, h1⟩ := Afresh_do (k := k) hO (by omega) (by omega) h
    obtain ⟨M2, c2, h2⟩ := Goto_do (k := k) (to := lf) hO (by omega) (by simp [afreshS]; omega) h1
    have g2 := h2.get htb
    obtain ⟨M3, c3, h3⟩ := Here_do (k := k) (l := n + 1) hO (by omega) (by simp [afreshS]; omega) h2
    obtain ⟨M4, c4, h4⟩ := Here_do (k := k) (l := n + 2) hO (by omega) (by simp [afreshS]; omega) h3
    refine ⟨M4, fun x => ?_, by rw [Cmp.endS, if_pos hn]; simpa only [List.append_assoc, List.cons_append, List.nil_append] using h4⟩
    rw [hn]
    refine Eq.trans (t_TstK40 ..) ?_
    rw [Bool.not_true, nCondF]
    refine step c1 ?_
    refine step c2 ?_
    rw [g2, nCells, show Y.nthL (testC t) 0 = some (.bool t.neg) from rfl, nElim, nAsBoB, hn, nCondT]
    refine step c3 ?_
    refine step c4 ?_
    rfl
  · obtain ⟨M1, c1, h1⟩ := Goto_do (k := k) (to := n + 2) hO (by omega) (by omega) h
    obtain ⟨M2, c2, h2⟩ := Here_do (k := k) (l := n + 1) hO (by omega) (by simp; omega) h1
    obtain ⟨M3, c3, h3⟩ := Afresh_do (k := k) hO (by omega) (by simp; omega) h2
    obtain ⟨M4, c4, h4⟩ := Goto_do (k := k) (to := lf) hO (by omega) (by simp [afreshS]; omega) h3
    have g4 := h4.get htb
    obtain ⟨M5, c5, h5⟩ := Here_do (k := k) (l := n + 2) hO (by omega) (by simp [afreshS]; omega) h4
    refine ⟨M5, fun x => ?_, by rw [Cmp.endS, if_neg hn]; simpa only [List.append_assoc, List.cons_append, List.nil_append] using h5⟩
    rw [Bool.eq_false_iff.2 hn]
    refine Eq.trans (t_TstK40 ..) ?_
    rw [Bool.not_false, nCondT]
    refine step c1 ?_
    refine step c2 ?_
    refine step c3 ?_
    refine step c4 ?_
    rw [g4, nCells, show Y.nthL (testC t) 0 = some (.bool t.neg) from rfl, nElim, nAsBoB, Bool.eq_false_iff.2 hn, nCondF]
    refine step c5 ?_
    rfl
theorem Tst40_do (hO : Orq o) (hk : 100000 + 50 ≤ k) (htb : K tb = some (.cells true (testC t))) (hl : rows.length + 20 ≤ 100000) (h : RS K mp rows N M) :
    ∃ M', (∀ x : Nat → Value, mlR o k 8 (fullN 188 (up x [(0, .pointer (some ⟨mp, 0, none⟩)), (2, .int .i64 (lf : Int)), (4, .pointer (some ⟨tb, 0, none⟩)), (6, .int .i64 ((n + 1 : Nat) : Int)), (7, .int .i64 ((n + 2 : Nat) : Int)), (8, .bool (isBytes t))])) M = some (unitV, M')) ∧ RS K mp (rows ++ Cmp.endS t (n + 1) (n + 2) lf) N M' := by
  have gb := h.get htb
  obtain ⟨M', c, h'⟩ := TstK40_do (n := n) (lf := lf) hO hk htb hl h
  refine ⟨M', fun x => ?_, h'⟩
  refine Eq.trans (loop_reg _ _ _ (by kernel_rfl) _ _ _ _) ?_
  refine Eq.trans (r31_40_eq ..) ?_
  refine Eq.trans (t_Tst40 ..) ?_
  rw [gb, nCells, show Y.nthL (testC t) 0 = some (.bool t.neg) from rfl, nElim, nAsBoB, show cond t.neg false true = !t.neg by cases t.neg <;> rfl]
  exact c ..
theorem TstK38_do (hO : Orq o) (hk : 100000 + 50 ≤ k) (htb : K tb = some (.cells true (testC t))) (ht : TestOk t) (hl : rows.length + 30 ≤ 100000) (h : RS K mp rows N M) :
    ∃ M', (∀ x : Nat → Value, ktR o k 7 .normal (fullN 188 (up x [(0, .pointer (some ⟨mp, 0, none⟩)), (2, .int .i64 (lf : Int)), (4, .pointer (some ⟨tb, 0, none⟩)), (6, .int .i64 ((n + 1 : Nat) : Int)), (7, .int .i64 ((n + 2 : Nat) : Int)), (8, .bool (isBytes t)), (160, .bool (decide (isBytes t = false ∨ t.hi ≠ fullS t.size)))])) M = some (unitV, M')) ∧ RS K mp (rows ++ (hiS t (n + 1) ++ Cmp.endS t (n + 1) (n + 2) lf)) N M' := by
  have gb := h.get htb
  have h3 := hiS_len t (n + 1)
  by_cases hc : isBytes t = false ∨ t.hi ≠ fullS t.size
  · obtain ⟨M1, c1, h1⟩ := Held_do (k := k) (op := 2) (m := t.hi) (l := n + 1) hO (by omega) (by omega) (by simp) ht.hi.1 ht.hi.2 h
    have e : hiS t (n + 1) = heldS 2 t.hi (n + 1) := if_pos hc
    rw [← e] at h1
    obtain ⟨M2, c2, h2⟩ := Tst40_do (n := n) (lf := lf) hO hk htb (by rw [List.length_append]; omega) h1
    refine ⟨M2, fun x => ?_, by rw [← List.append_assoc]; exact h2⟩
    refine Eq.trans (t_TstK38 ..) ?_
    rw [decide_eq_true hc, nCondT, gb, nCells, show Y.nthL (testC t) 6 = some (.int .u64 t.hi) from rfl, nElim, nAsInt, nKEq, nCondT]
    refine step c1 ?_
    exact c2 ..
  · obtain ⟨M2, c2, h2⟩ := Tst40_do (n := n) (lf := lf) hO hk htb (by omega) h
    have e : hiS t (n + 1) = [] := if_neg hc
    refine ⟨M2, fun x => ?_, by rw [e, List.nil_append]; exact h2⟩
    refine Eq.trans (t_TstK38 ..) ?_
    rw [decide_eq_false hc, nCondF]
    exact c2 ..
theorem Tst38_do (hO : Orq o) (hk : 100000 + 50 ≤ k) (htb : K tb = some (.cells true (testC t))) (ht : TestOk t) (hl : rows.length + 30 ≤ 100000) (h : RS K mp rows N M) :
    ∃ M', (∀ x : Nat → Value, mlR o k 7 (fullN 188 (up x [(0, .pointer (some ⟨mp, 0, none⟩)), (2, .int .i64 (lf : Int)), (4, .pointer (some ⟨tb, 0, none⟩)), (6, .int .i64 ((n + 1 : Nat) : Int)), (7, .int .i64 ((n + 2 : Nat) : Int)), (8, .bool (isBytes t))])) M = some (unitV, M')) ∧ RS K mp (rows ++ (hiS t (n + 1) ++ Cmp.endS t (n + 1) (n + 2) lf)) N M' := by
  have gb := h.get htb
  cases hb : isBytes t with
  | false =>
    obtain ⟨M', c, h'⟩ := TstK38_do (n := n) (lf := lf) hO hk htb ht hl h
    rw [decide_eq_true (.inl hb), hb] at c
    refine ⟨M', fun x => ?_, h'⟩
    refine Eq.trans (loop_reg _ _ _ (by kernel_rfl) _ _ _ _) ?_
    refine Eq.trans (r31_38_eq ..) ?_
    refine Eq.trans (t_Tst38f ..) ?_
    exact c ..
  | true =>
    have hz := ht.size hb
    obtain ⟨M1, c1, x1⟩ := hO.full hz k M (by omega) h.1.top (by have := h.lt h.2; omega) (h.get h.2)
    have h1 := h.ext x1
    have g1 := h1.get htb
    obtain ⟨M', c, h'⟩ := TstK38_do (n := n) (lf := lf) hO hk htb ht hl h1
    rw [hb] at c
    refine ⟨M', fun x => ?_, h'⟩
    refine Eq.trans (loop_reg _ _ _ (by kernel_rfl) _ _ _ _) ?_
    refine Eq.trans (r31_38_eq ..) ?_
    refine Eq.trans (t_Tst38t ..) ?_
    rw [gb, nCells, show Y.nthL (testC t) 6 = some (.int .u64 t.hi) from rfl, nElim, nAsInt, nKEq, nCondT, nCells, show Y.nthL (testC t) 3 = some (.int .i64 t.size) from rfl, nElim, nAsInt, nKEq, nCondT]
    refine step c1 ?_
    rw [nAsInt, nKEq, nCondT, notB]
    by_cases h3 : t.hi = fullS t.size
    · rw [decide_eq_false (by simp [h3])] at c
      rw [eqF_t h3, nCondT, g1, nCells, show Y.nthL (testC t) 6 = some (.int .u64 t.hi) from rfl, nElim, nAsInt, nKEq, nCondT, eqF_t rfl, nCondT]
      exact c ..
    · rw [decide_eq_true (.inr h3)] at c
      rw [eqF_f h3, nCondF, g1, nCells, show Y.nthL (testC t) 6 = some (.int .u64 t.hi) from rfl, nElim, nAsInt, nKEq, nCondT, eqF_t rfl, nCondT]
      exact c ..
theorem TstK36_do (hO : Orq o) (hk : 100000 + 50 ≤ k) (htb : K tb = some (.cells true (testC t))) (ht : TestOk t) (hl : rows.length + 40 ≤ 100000) (h : RS K mp rows N M) :
    ∃ M', (∀ x : Nat → Value, ktR o k 6 .normal (fullN 188 (up x [(0, .pointer (some ⟨mp, 0, none⟩)), (2, .int .i64 (lf : Int)), (4, .pointer (some ⟨tb, 0, none⟩)), (6, .int .i64 ((n + 1 : Nat) : Int)), (7, .int .i64 ((n + 2 : Nat) : Int)), (8, .bool (isBytes t)), (145, .bool (decide (0 < t.lo)))])) M = some (unitV, M')) ∧ RS K mp (rows ++ (loS t (n + 1) ++ (hiS t (n + 1) ++ Cmp.endS t (n + 1) (n + 2) lf))) N M' := by
  have gb := h.get htb
  have h3 := loS_len t (n + 1)
  by_cases hc : 0 < t.lo
  · obtain ⟨M1, c1, h1⟩ := Held_do (k := k) (op := 10) (m := t.lo) (l := n + 1) hO (by omega) (by omega) (by simp) ht.lo.1 ht.lo.2 h
    have e : loS t (n + 1) = heldS 10 t.lo (n + 1) := if_pos hc
    rw [← e] at h1
    obtain ⟨M2, c2, h2⟩ := Tst38_do (n := n) (lf := lf) hO hk htb ht (by rw [List.length_append]; omega) h1
    refine ⟨M2, fun x => ?_, by rw [← List.append_assoc]; exact h2⟩
    refine Eq.trans (t_TstK36 ..) ?_
    rw [decide_eq_true hc, nCondT, gb, nCells, show Y.nthL (testC t) 5 = some (.int .u64 t.lo) from rfl, nElim, nAsInt, nKEq, nCondT]
    refine step c1 ?_
    exact c2 ..
  · obtain ⟨M2, c2, h2⟩ := Tst38_do (n := n) (lf := lf) hO hk htb ht (by omega) h
    have e : loS t (n + 1) = [] := if_neg hc
    refine ⟨M2, fun x => ?_, by rw [e, List.nil_append]; exact h2⟩
    refine Eq.trans (t_TstK36 ..) ?_
    rw [decide_eq_false hc, nCondF]
    exact c2 ..
theorem Tst36_do (hO : Orq o) (hk : 100000 + 50 ≤ k) (htb : K tb = some (.cells true (testC t))) (ht : TestOk t) (hl : rows.length + 40 ≤ 100000) (h : RS K mp rows N M) :
    ∃ M', (∀ x : Nat → Value, mlR o k 6 (fullN 188 (up x [(0, .pointer (some ⟨mp, 0, none⟩)), (2, .int .i64 (lf : Int)), (4, .pointer (some ⟨tb, 0, none⟩)), (6, .int .i64 ((n + 1 : Nat) : Int)), (7, .int .i64 ((n + 2 : Nat) : Int)), (8, .bool (isBytes t))])) M = some (unitV, M')) ∧ RS K mp (rows ++ (loS t (n + 1) ++ (hiS t (n + 1) ++ Cmp.endS t (n + 1) (n + 2) lf))) N M' := by
  have gb := h.get htb
  obtain ⟨M', c, h'⟩ := TstK36_do (n := n) (lf := lf) hO hk htb ht hl h
  refine ⟨M', fun x => ?_, h'⟩
  refine Eq.trans (loop_reg _ _ _ (by kernel_rfl) _ _ _ _) ?_
  refine Eq.trans (r31_36_eq ..) ?_
  refine Eq.trans (t_Tst36 ..) ?_
  rw [gb, nCells, show Y.nthL (testC t) 5 = some (.int .u64 t.lo) from rfl, nElim, nAsInt, nKEq, nCondT]
  by_cases h1 : 0 < t.lo
  · rw [decide_eq_true h1] at c
    rw [ltF_t h1, nCondT]
    exact c ..
  · rw [decide_eq_false h1] at c
    rw [ltF_f h1, nCondF]
    exact c ..
def mkS2 (t : TestT) : List RowS := if isBytes t = true then (if t.mask = fullS t.size then [] else if t.mask < 2147483648 then [ins (iNum 5 2 t.mask) 0] else [ins (iConst t.mask) 0, ins (iHigh t.mask) 0, ins (iRegs 5 2 3) 0]) else []
def swS (t : TestT) : List RowS := if isBytes t = true ∧ 1 < t.size then [ins (iSwap t.size) 0] else []
theorem maskS_eq (t : TestT) : maskS t = swS t ++ mkS2 t := by
  unfold maskS swS mkS2
  by_cases hb : isBytes t = true
  · by_cases hs : 1 < t.size
    · simp [hb, hs]
    · simp [hb, hs]
  · simp [hb]
theorem TstK31_do (hO : Orq o) (hk : 100000 + 50 ≤ k) (htb : K tb = some (.cells true (testC t))) (ht : TestOk t) (hl : rows.length + 45 ≤ 100000) (h : RS K mp rows N M) :
    ∃ M', (∀ x : Nat → Value, ktR o k 5 .normal (fullN 188 (up x [(0, .pointer (some ⟨mp, 0, none⟩)), (2, .int .i64 (lf : Int)), (4, .pointer (some ⟨tb, 0, none⟩)), (6, .int .i64 ((n + 1 : Nat) : Int)), (7, .int .i64 ((n + 2 : Nat) : Int)), (8, .bool (isBytes t)), (129, .bool (decide (isBytes t = true ∧ t.mask ≠ fullS t.size)))])) M = some (unitV, M')) ∧ RS K mp (rows ++ (mkS2 t ++ (loS t (n + 1) ++ (hiS t (n + 1) ++ Cmp.endS t (n + 1) (n + 2) lf)))) N M' := by
  have gb := h.get htb
  by_cases hc : isBytes t = true ∧ t.mask ≠ fullS t.size
  · by_cases hs : t.mask < 2147483648
    · obtain ⟨M1, c1, h1⟩ := Num_do (k := k) (op := 5) (d := 2) (m := t.mask) hO (by omega) (by omega) (by simp) ⟨ht.mask.1, hs⟩ h
      have e : mkS2 t = [ins (iNum 5 2 t.mask) 0] := by unfold mkS2; rw [if_pos hc.1, if_neg hc.2, if_pos hs]
      rw [← e] at h1
      obtain ⟨M2, c2, h2⟩ := Tst36_do (n := n) (lf := lf) hO hk htb ht (by rw [List.length_append, e]; simp; omega) h1
      refine ⟨M2, fun x => ?_, by rw [← List.append_assoc]; exact h2⟩
      refine Eq.trans (t_TstK31 ..) ?_
      rw [decide_eq_true hc, nCondT, gb, nCells, show Y.nthL (testC t) 4 = some (.int .u64 t.mask) from rfl, nElim, nAsInt, nKEq, nCondT, ltF_t hs, nCondT, nCells, show Y.nthL (testC t) 4 = some (.int .u64 t.mask) from rfl, nElim, nAsInt, nKEq, nCondT]
      refine step c1 ?_
      exact c2 ..
    · obtain ⟨M1, c1, h1⟩ := Const_do (k := k) hO (by omega) (by omega) ht.mask.1 ht.mask.2 h
      obtain ⟨M3, c3, h3⟩ := Regs_do (k := k) (op := 5) (d := 2) (s := 3) hO (by omega) (by simp; omega) (by simp) h1
      have e : mkS2 t = [ins (iConst t.mask) 0, ins (iHigh t.mask) 0, ins (iRegs 5 2 3) 0] := by unfold mkS2; rw [if_pos hc.1, if_neg hc.2, if_neg hs]
      rw [List.append_assoc, show [ins (iConst t.mask) 0, ins (iHigh t.mask) 0] ++ [ins (iRegs 5 2 3) 0] = mkS2 t from e.symm] at h3
      obtain ⟨M2, c2, h2⟩ := Tst36_do (n := n) (lf := lf) hO hk htb ht (by rw [List.length_append, e]; simp; omega) h3
      refine ⟨M2, fun x => ?_, by rw [← List.append_assoc]; exact h2⟩
      refine Eq.trans (t_TstK31 ..) ?_
      rw [decide_eq_true hc, nCondT, gb, nCells, show Y.nthL (testC t) 4 = some (.int .u64 t.mask) from rfl, nElim, nAsInt, nKEq, nCondT, ltF_f hs, nCondF, nCells, show Y.nthL (testC t) 4 = some (.int .u64 t.mask) from rfl, nElim, nAsInt, nKEq, nCondT]
      refine step c1 ?_
      refine step c3 ?_
      exact c2 ..
  · obtain ⟨M2, c2, h2⟩ := Tst36_do (n := n) (lf := lf) hO hk htb ht (by omega) h
    have e : mkS2 t = [] := by
      unfold mkS2
      by_cases hb : isBytes t = true
      · rw [if_pos hb, if_pos (Classical.byContradiction fun hn => hc ⟨hb, hn⟩)]
      · rw [if_neg hb]
    refine ⟨M2, fun x => ?_, by rw [e, List.nil_append]; exact h2⟩
    refine Eq.trans (t_TstK31 ..) ?_
    rw [decide_eq_false hc, nCondF]
    exact c2 ..
theorem Tst31_do (hO : Orq o) (hk : 100000 + 50 ≤ k) (htb : K tb = some (.cells true (testC t))) (ht : TestOk t) (hl : rows.length + 45 ≤ 100000) (h : RS K mp rows N M) :
    ∃ M', (∀ x : Nat → Value, mlR o k 5 (fullN 188 (up x [(0, .pointer (some ⟨mp, 0, none⟩)), (2, .int .i64 (lf : Int)), (4, .pointer (some ⟨tb, 0, none⟩)), (6, .int .i64 ((n + 1 : Nat) : Int)), (7, .int .i64 ((n + 2 : Nat) : Int)), (8, .bool (isBytes t))])) M = some (unitV, M')) ∧ RS K mp (rows ++ (mkS2 t ++ (loS t (n + 1) ++ (hiS t (n + 1) ++ Cmp.endS t (n + 1) (n + 2) lf)))) N M' := by
  have gb := h.get htb
  cases hb : isBytes t with
  | false =>
    obtain ⟨M', c, h'⟩ := TstK31_do (n := n) (lf := lf) hO hk htb ht hl h
    rw [decide_eq_false (by simp [hb]), hb] at c
    refine ⟨M', fun x => ?_, h'⟩
    refine Eq.trans (loop_reg _ _ _ (by kernel_rfl) _ _ _ _) ?_
    refine Eq.trans (r31_31_eq ..) ?_
    refine Eq.trans (t_Tst31f ..) ?_
    exact c ..
  | true =>
    have hz := ht.size hb
    obtain ⟨M1, c1, x1⟩ := hO.full hz k M (by omega) h.1.top (by have := h.lt h.2; omega) (h.get h.2)
    have h1 := h.ext x1
    have g1 := h1.get htb
    obtain ⟨M', c, h'⟩ := TstK31_do (n := n) (lf := lf) hO hk htb ht hl h1
    rw [hb] at c
    refine ⟨M', fun x => ?_, h'⟩
    refine Eq.trans (loop_reg _ _ _ (by kernel_rfl) _ _ _ _) ?_
    refine Eq.trans (r31_31_eq ..) ?_
    refine Eq.trans (t_Tst31t ..) ?_
    rw [gb, nCells, show Y.nthL (testC t) 4 = some (.int .u64 t.mask) from rfl, nElim, nAsInt, nKEq, nCondT, nCells, show Y.nthL (testC t) 3 = some (.int .i64 t.size) from rfl, nElim, nAsInt, nKEq, nCondT]
    refine step c1 ?_
    rw [nAsInt, nKEq, nCondT, notB]
    by_cases h3 : t.mask = fullS t.size
    · rw [decide_eq_false (by simp [h3])] at c
      rw [eqF_t h3, nCondT, g1, nCells, show Y.nthL (testC t) 4 = some (.int .u64 t.mask) from rfl, nElim, nAsInt, nKEq, nCondT, eqF_t rfl, nCondT]
      exact c ..
    · rw [decide_eq_true ⟨rfl, h3⟩] at c
      rw [eqF_f h3, nCondF, g1, nCells, show Y.nthL (testC t) 4 = some (.int .u64 t.mask) from rfl, nElim, nAsInt, nKEq, nCondT, eqF_t rfl, nCondT]
      exact c ..
theorem TstK29_do (hO : Orq o) (hk : 100000 + 50 ≤ k) (htb : K tb = some (.cells true (testC t))) (ht : TestOk t) (hl : rows.length + 50 ≤ 100000) (h : RS K mp rows N M) :
    ∃ M', (∀ x : Nat → Value, ktR o k 4 .normal (fullN 188 (up x [(0, .pointer (some ⟨mp, 0, none⟩)), (2, .int .i64 (lf : Int)), (4, .pointer (some ⟨tb, 0, none⟩)), (6, .int .i64 ((n + 1 : Nat) : Int)), (7, .int .i64 ((n + 2 : Nat) : Int)), (8, .bool (isBytes t)), (114, .bool (decide (isBytes t = true ∧ 1 < t.size)))])) M = some (unitV, M')) ∧ RS K mp (rows ++ (swS t ++ (mkS2 t ++ (loS t (n + 1) ++ (hiS t (n + 1) ++ Cmp.endS t (n + 1) (n + 2) lf))))) N M' := by
  have gb := h.get htb
  by_cases hc : isBytes t = true ∧ 1 < t.size
  · have hz2 : t.size = 2 ∨ t.size = 4 ∨ t.size = 8 := by rcases ht.size hc.1 with e | e | e | e <;> omega
    obtain ⟨M1, c1, h1⟩ := Put_do (k := k) (to := 0) hO (by omega) (by omega) (MkS.swap hz2) h
    have e : swS t = [ins (iSwap t.size) 0] := if_pos hc
    rw [← e] at h1
    obtain ⟨M2, c2, h2⟩ := Tst31_do (n := n) (lf := lf) hO hk htb ht (by rw [List.length_append, e]; simp; omega) h1
    refine ⟨M2, fun x => ?_, by rw [← List.append_assoc]; exact h2⟩
    refine Eq.trans (t_TstK29 ..) ?_
    rw [decide_eq_true hc, nCondT, gb, nCells, show Y.nthL (testC t) 3 = some (.int .i64 t.size) from rfl, nElim, nAsInt, nKEq, nCondT]
    refine step c1 ?_
    exact c2 ..
  · obtain ⟨M2, c2, h2⟩ := Tst31_do (n := n) (lf := lf) hO hk htb ht (by omega) h
    have e : swS t = [] := if_neg hc
    refine ⟨M2, fun x => ?_, by rw [e, List.nil_append]; exact h2⟩
    refine Eq.trans (t_TstK29 ..) ?_
    rw [decide_eq_false hc, nCondF]
    exact c2 ..
def tailS (t : TestT) (n lf : Nat) : List RowS := swS t ++ (mkS2 t ++ (loS t (n + 1) ++ (hiS t (n + 1) ++ Cmp.endS t (n + 1) (n + 2) lf)))
theorem Tst29_do (hO : Orq o) (hk : 100000 + 50 ≤ k) (htb : K tb = some (.cells true (testC t))) (ht : TestOk t) (hl : rows.length + 50 ≤ 100000) (h : RS K mp rows N M) :
    ∃ M', (∀ x : Nat → Value, mlR o k 4 (fullN 188 (up x [(0, .pointer (some ⟨mp, 0, none⟩)), (2, .int .i64 (lf : Int)), (4, .pointer (some ⟨tb, 0, none⟩)), (6, .int .i64 ((n + 1 : Nat) : Int)), (7, .int .i64 ((n + 2 : Nat) : Int)), (8, .bool (isBytes t))])) M = some (unitV, M')) ∧ RS K mp (rows ++ tailS t n lf) N M' := by
  have gb := h.get htb
  obtain ⟨M', c, h'⟩ := TstK29_do (n := n) (lf := lf) hO hk htb ht hl h
  cases hb : isBytes t with
  | false =>
    rw [decide_eq_false (by simp [hb]), hb] at c
    refine ⟨M', fun x => ?_, h'⟩
    refine Eq.trans (loop_reg _ _ _ (by kernel_rfl) _ _ _ _) ?_
    refine Eq.trans (r31_29_eq ..) ?_
    refine Eq.trans (t_Tst29f ..) ?_
    exact c ..
  | true =>
    rw [hb] at c
    refine ⟨M', fun x => ?_, h'⟩
    refine Eq.trans (loop_reg _ _ _ (by kernel_rfl) _ _ _ _) ?_
    refine Eq.trans (r31_29_eq ..) ?_
    refine Eq.trans (t_Tst29t ..) ?_
    rw [gb, nCells, show Y.nthL (testC t) 3 = some (.int .i64 t.size) from rfl, nElim, nAsInt, nKEq, nCondT]
    by_cases h1 : 1 < t.size
    · rw [decide_eq_true ⟨rfl, h1⟩] at c
      rw [ltF_t h1, nCondT]
      exact c ..
    · rw [decide_eq_false (by simp [h1])] at c
      rw [ltF_f h1, nCondF]
      exact c ..
end
end
end Go.Proofs.YtadioopbehiakaaDoor
namespace Go.Proofs.YtadioopbehiakaaDoor
open Go Go.DI Go.DI.Kit Go.Proofs Go.Cmp
noncomputable section
section
variable {K : Keep} {mp : Nat} {rows : List RowS} {M : Mem}
variable {o : Orc} {k : Nat}
variable {t : TestT} {lf tb n N : Nat}
theorem TstP_turn {dn i : Nat} (hO : Orq o) (hk : 100000 + 50 ≤ k) (htb : K tb = some (.cells true (testC t))) (hl : rows.length + 10 ≤ 100000) (hN : N ≤ 800000) (hp : 0 ≤ t.pos ∧ t.pos ≤ 255) (hz : isz t.size) (hi : i < 16) (h : RS K mp rows N M) :
    ∃ M', (∀ x, Lands 188 [(0, .pointer (some ⟨mp, 0, none⟩)), (2, .int .i64 (lf : Int)), (4, .pointer (some ⟨tb, 0, none⟩)), (6, .int .i64 ((n + 1 : Nat) : Int)), (7, .int .i64 ((n + 2 : Nat) : Int)), (8, .bool true), (9, .int .i64 (dn : Int)), (10, .int .i64 ((i + 1 : Nat) : Int))] .normal M' (codeD Tryd.prog kp 1 (callN Tryd.prog kp 1 o k) (drawD Tryd.prog kp 1 (callN Tryd.prog kp 1 o k) 188) 188 k (loopN Tryd.f31 0) (fullN 188 (up x [(0, .pointer (some ⟨mp, 0, none⟩)), (2, .int .i64 (lf : Int)), (4, .pointer (some ⟨tb, 0, none⟩)), (6, .int .i64 ((n + 1 : Nat) : Int)), (7, .int .i64 ((n + 2 : Nat) : Int)), (8, .bool true), (9, .int .i64 (dn : Int)), (10, .int .i64 (i : Int))])) M)) ∧
      RS K mp (rows ++ ([ins (iIf 5 2 i) (if i = 15 then n + 1 else N + 1)] ++ toldS (N + 2) (14 + 4 * (i : Int) + t.pos + t.size) (n + 1) ++ [ins (iLoad t.size 2 7 (14 + 4 * (i : Int) + t.pos)) 0, ins iGoto dn, lab (N + 1)])) (N + 2) M' := by
  have hzb : 1 ≤ t.size ∧ t.size ≤ 8 := by rcases hz with e | e | e | e <;> rw [e] <;> omega
  have e1 : IntKind.wrap .i64 (Int.mul (4 : Int) (i : Int)) = 4 * (i : Int) := wrap64 (by show _ ≤ 4 * (i : Int) ∧ 4 * (i : Int) ≤ _; omega)
  have e2 : IntKind.wrap .i64 (Int.add (14 : Int) (4 * (i : Int))) = 14 + 4 * (i : Int) := wrap64 (by show _ ≤ 14 + 4 * (i : Int) ∧ 14 + 4 * (i : Int) ≤ _; omega)
  have e3 : IntKind.wrap .i64 (Int.add (14 + 4 * (i : Int)) t.pos) = 14 + 4 * (i : Int) + t.pos := wrap64 (by show _ ≤ 14 + 4 * (i : Int) + t.pos ∧ 14 + 4 * (i : Int) + t.pos ≤ _; omega)
  have e4 : IntKind.wrap .i64 (Int.add (14 + 4 * (i : Int) + t.pos) t.size) = 14 + 4 * (i : Int) + t.pos + t.size := wrap64 (by show _ ≤ 14 + 4 * (i : Int) + t.pos + t.size ∧ 14 + 4 * (i : Int) + t.pos + t.size ≤ _; omega)
  obtain ⟨M0, c0, h0⟩ := Label_do (k := k) hO (by omega) (by omega) h
  obtain ⟨M1, c1, h1⟩ := If_do (k := k) (op := 5) (d := 2) (m := (i : Int)) (to := if i = 15 then n + 1 else N + 1) hO (by omega) (by omega) (by simp) h0
  rw [show w32 (i : Int) = (i : Int) from wrap32_of (by omega) (by omega)] at h1
  obtain ⟨M2, c2, h2⟩ := Enough_do (k := k) (m := 14 + 4 * (i : Int) + t.pos + t.size) (l := n + 1) hO (by omega) (by simp; omega) (by omega) h1
  obtain ⟨M3, c3, h3⟩ := Load_do (k := k) (z := t.size) (d := 2) (s := 7) (m := 14 + 4 * (i : Int) + t.pos) hO (by omega) (by simp [toldS]; omega) (.inr (.inr (.inr ⟨hz, rfl, rfl⟩))) h2
  obtain ⟨M4, c4, h4⟩ := Goto_do (k := k) (to := dn) hO (by omega) (by simp [toldS]; omega) h3
  obtain ⟨M5, c5, h5⟩ := Here_do (k := k) (l := N + 1) hO (by omega) (by simp [toldS]; omega) h4
  have gb1 := h1.get htb
  have gb2 := h2.get htb
  refine ⟨M5, fun x => Lands.turn ?_, ?_⟩
  · refine Lands.via (t_TstP ..) ?_
    rw [notB, ltF_f (by omega), nCondF]
    refine Lands.step c0 ?_
    rw [nAsInt, nKEq, nCondT]
    by_cases e : i = 15
    · rw [if_pos e] at c1
      rw [eqF_t (show (i : Int) = 15 by omega), nCondT]
      refine Lands.step c1 ?_
      rw [gb1, nCells, show Y.nthL (testC t) 2 = some (.int .i64 t.pos) from rfl, nElim, nAsInt, nKEq, nCondT, nCells, show Y.nthL (testC t) 3 = some (.int .i64 t.size) from rfl, nElim, nAsInt, nKEq, nCondT, e1, e2, e3, e4]
      refine Lands.step c2 ?_
      rw [gb2, nCells, show Y.nthL (testC t) 3 = some (.int .i64 t.size) from rfl, nElim, nAsInt, nKEq, nCondT]
      refine Lands.step c3 ?_
      refine Lands.step c4 ?_
      refine Lands.step c5 ?_
      rw [wrap_succ (by omega)]
      exact Lands.here _
    · rw [if_neg e] at c1
      rw [eqF_f (show (i : Int) ≠ 15 by omega), nCondF]
      refine Lands.step c1 ?_
      rw [gb1, nCells, show Y.nthL (testC t) 2 = some (.int .i64 t.pos) from rfl, nElim, nAsInt, nKEq, nCondT, nCells, show Y.nthL (testC t) 3 = some (.int .i64 t.size) from rfl, nElim, nAsInt, nKEq, nCondT, e1, e2, e3, e4]
      refine Lands.step c2 ?_
      rw [gb2, nCells, show Y.nthL (testC t) 3 = some (.int .i64 t.size) from rfl, nElim, nAsInt, nKEq, nCondT]
      refine Lands.step c3 ?_
      refine Lands.step c4 ?_
      refine Lands.step c5 ?_
      rw [wrap_succ (by omega)]
      exact Lands.here _
  · simp only [List.append_assoc, List.cons_append, List.nil_append] at h5 ⊢
    exact h5
theorem TstP_loop {dn : Nat} (hO : Orq o) (hk : 100000 + 50 ≤ k) (htb : K tb = some (.cells true (testC t))) (hp : 0 ≤ t.pos ∧ t.pos ≤ 255) (hz : isz t.size) :
    ∀ (d i : Nat), i + d = 16 → ∀ (jj N : Nat) (rows : List RowS) (M : Mem), d + 1 ≤ jj → rows.length + 10 * d ≤ 100000 → N + 2 * d ≤ 800000 → RS K mp rows N M →
    ∃ M', (∀ x, Lands 188 [(0, .pointer (some ⟨mp, 0, none⟩)), (2, .int .i64 (lf : Int)), (4, .pointer (some ⟨tb, 0, none⟩)), (6, .int .i64 ((n + 1 : Nat) : Int)), (7, .int .i64 ((n + 2 : Nat) : Int)), (8, .bool true), (9, .int .i64 (dn : Int)), (10, .int .i64 ((16 : Nat) : Int))] (.exit 0) M' (loopD (codeD Tryd.prog kp 1 (callN Tryd.prog kp 1 o k) (drawD Tryd.prog kp 1 (callN Tryd.prog kp 1 o k) 188) 188 k (loopN Tryd.f31 0)) jj (fullN 188 (up x [(0, .pointer (some ⟨mp, 0, none⟩)), (2, .int .i64 (lf : Int)), (4, .pointer (some ⟨tb, 0, none⟩)), (6, .int .i64 ((n + 1 : Nat) : Int)), (7, .int .i64 ((n + 2 : Nat) : Int)), (8, .bool true), (9, .int .i64 (dn : Int)), (10, .int .i64 (i : Int))])) M)) ∧ RS K mp (rows ++ pastK t (n + 1) dn d i N) (N + 2 * d) M'
  | 0, i, hi, jj, N, rows, M, hjj, _, _, h => by
    obtain ⟨jj, rfl⟩ : ∃ j', jj = j' + 1 := ⟨jj - 1, by omega⟩
    obtain rfl : i = 16 := by omega
    refine ⟨M, fun x => Lands.stop (Lands.turn ?_) (by simp), ?_⟩
    · refine Lands.via (t_TstP ..) ?_
      rw [show Y.ltF (15 : Int) ((16 : Nat) : Int) = true from rfl, show (cond true false true) = false from rfl, nCondF]
      exact Lands.here _
    · rw [show pastK t (n + 1) dn 0 16 N = [] from rfl, List.append_nil]
      exact h
  | d + 1, i, hi, jj, N, rows, M, hjj, hl, hN, h => by
    obtain ⟨jj, rfl⟩ : ∃ j', jj = j' + 1 := ⟨jj - 1, by omega⟩
    obtain ⟨M1, hb, h1⟩ := TstP_turn (n := n) (lf := lf) (dn := dn) (i := i) hO hk htb (by omega) (by omega) hp hz (by omega) h
    obtain ⟨M2, h2, h3⟩ := TstP_loop hO hk htb hp hz d (i + 1) (by omega) jj (N + 2) _ M1 (by omega) (by simp [toldS]; omega) (by omega) h1
    refine ⟨M2, fun x => Lands.next (hb x) h2, ?_⟩
    have e : rows ++ pastK t (n + 1) dn (d + 1) i N = rows ++ ([ins (iIf 5 2 i) (if i = 15 then n + 1 else N + 1)] ++ toldS (N + 2) (14 + 4 * (i : Int) + t.pos + t.size) (n + 1) ++ [ins (iLoad t.size 2 7 (14 + 4 * (i : Int) + t.pos)) 0, ins iGoto dn, lab (N + 1)]) ++ pastK t (n + 1) dn d (i + 1) (N + 2) := by
      rw [pastK]; simp only [List.append_assoc]
    rw [e, show N + 2 * (d + 1) = N + 2 + 2 * d by omega]
    exact h3
def ask4 (t : TestT) (n : Nat) : List RowS := if t.kind = 4 then toldS (n + 4) 15 (n + 1) ++ [ins (iLoad 1 2 7 14) 0, ins (iNum 5 2 15) 0] ++ pastK t (n + 1) (n + 3) 16 0 (n + 4) ++ [lab (n + 3)] else []
def ask3 (t : TestT) (n : Nat) : List RowS := if t.kind = 3 then toldS (n + 3) (t.pos + t.size) (n + 1) ++ [ins (iLoad t.size 2 7 t.pos) 0] else []
def ask2 (t : TestT) : List RowS := if t.kind = 2 then [ins (iLoad 4 2 6 4) 0] else []
def ask1 (t : TestT) : List RowS := if t.kind = 1 then [ins (iRegs 11 2 8) 0] else []
theorem ask_eq {t : TestT} (ht : TestOk t) (n : Nat) : askS t n = ask1 t ++ (ask2 t ++ (ask3 t n ++ ask4 t n)) := by
  rcases ht.kind with e | e | e | e <;> simp [askS, ask1, ask2, ask3, ask4, e]
theorem past_len (t : TestT) (a b c : Nat) : (pastK t a b 16 0 c).length = 112 := by simp [pastK, toldS]
theorem Tst11_do (hO : Orq o) (hk : 100000 + 50 ≤ k) (htb : K tb = some (.cells true (testC t))) (ht : TestOk t) (hl : rows.length + 250 ≤ 100000) (hN : n ≤ 700000) (hNn : t.kind = 4 → N = n + 2) (h : RS K mp rows N M) :
    ∃ M', (∀ x : Nat → Value, mlR o k 2 (fullN 188 (up x [(0, .pointer (some ⟨mp, 0, none⟩)), (2, .int .i64 (lf : Int)), (4, .pointer (some ⟨tb, 0, none⟩)), (6, .int .i64 ((n + 1 : Nat) : Int)), (7, .int .i64 ((n + 2 : Nat) : Int)), (8, .bool (isBytes t))])) M = some (unitV, M')) ∧ RS K mp (rows ++ (ask4 t n ++ tailS t n lf)) (if t.kind = 4 then askN t n else N) M' := by
  have gb := h.get htb
  by_cases hc : t.kind = 4
  · obtain rfl := hNn hc
    have hb : isBytes t = true := by simp [isBytes, hc]
    have hp := ht.pos hb
    have hz := ht.size hb
    obtain ⟨M0, c0, h0⟩ := Label_do (k := k) hO (by omega) (by omega) h
    obtain ⟨M1, c1, h1⟩ := Enough_do (k := k) (m := 15) (l := n + 1) hO (by omega) (by omega) (by omega) h0
    obtain ⟨M2, c2, h2⟩ := Load_do (k := k) (z := 1) (d := 2) (s := 7) (m := 14) hO (by omega) (by simp [toldS]; omega) (by simp) h1
    obtain ⟨M3, c3, h3⟩ := Num_do (k := k) (op := 5) (d := 2) (m := 15) hO (by omega) (by simp [toldS]; omega) (by simp) (by omega) h2
    obtain ⟨M4, hloop, h4⟩ := TstP_loop (n := n) (lf := lf) (dn := n + 3) hO hk htb hp hz 16 0 (by omega) k _ _ M3 (by omega) (by simp [toldS]; omega) (by omega) h3
    obtain ⟨M5, c5, h5⟩ := Here_do (k := k) (l := n + 3) hO (by omega) (by simp [toldS, past_len]; omega) h4
    have e : rows ++ toldS (n + 2 + 1 + 1) 15 (n + 1) ++ [ins (iLoad 1 2 7 14) 0] ++ [ins (iNum 5 2 15) 0] ++ pastK t (n + 1) (n + 3) 16 0 (n + 2 + 1 + 1) ++ [lab (n + 3)] = rows ++ ask4 t n := by
      unfold ask4; rw [if_pos hc]; simp only [List.append_assoc, List.cons_append, List.nil_append]
    rw [e] at h5
    obtain ⟨M6, c6, h6⟩ := Tst29_do (n := n) (lf := lf) hO hk htb ht (by unfold ask4; rw [if_pos hc]; simp [toldS, past_len]; omega) h5
    refine ⟨M6, fun x => ?_, ?_⟩
    · refine Eq.trans (loop_reg _ _ _ (by kernel_rfl) _ _ _ _) ?_
      refine Eq.trans (r31_11_eq ..) ?_
      refine Eq.trans (t_Tst11 ..) ?_
      rw [gb, nCells, show Y.nthL (testC t) 1 = some (.int .i64 t.kind) from rfl, nElim, nAsInt, nKEq, nCondT, eqF_t hc, nCondT]
      rw [hb]
      refine Eq.trans (t_TstK11t ..) ?_
      refine step c0 ?_
      rw [nAsInt, nKEq, nCondT]
      refine step c1 ?_
      refine step c2 ?_
      refine step c3 ?_
      refine Eq.trans (mixL_loop _ _ (by kernel_rfl) _ _ _ _) ?_
      rw [Y.lpOf_eq, lc31]
      refine onE_land (hloop _) fun x' => ?_
      refine Eq.trans (t_TstL ..) ?_
      refine step c5 ?_
      rw [hb] at c6
      exact c6 ..
    · rw [if_pos hc]
      have ea : askN t n = n + 2 + 1 + 1 + 2 * 16 := by unfold askN; simp [hc]
      rw [ea, ← List.append_assoc]
      exact h6
  · obtain ⟨M6, c6, h6⟩ := Tst29_do (n := n) (lf := lf) hO hk htb ht (by omega) h
    have e : ask4 t n = [] := if_neg hc
    refine ⟨M6, fun x => ?_, by rw [e, List.nil_append, if_neg hc]; exact h6⟩
    refine Eq.trans (loop_reg _ _ _ (by kernel_rfl) _ _ _ _) ?_
    refine Eq.trans (r31_11_eq ..) ?_
    refine Eq.trans (t_Tst11 ..) ?_
    rw [gb, nCells, show Y.nthL (testC t) 1 = some (.int .i64 t.kind) from rfl, nElim, nAsInt, nKEq, nCondT, eqF_f hc, nCondF]
    refine Eq.trans (t_TstK11f ..) ?_
    exact c6 ..
theorem Tst8_do (hO : Orq o) (hk : 100000 + 50 ≤ k) (htb : K tb = some (.cells true (testC t))) (ht : TestOk t) (hl : rows.length + 260 ≤ 100000) (hN : n ≤ 700000) (h : RS K mp rows (n + 2) M) :
    ∃ M', (∀ x : Nat → Value, mlR o k 1 (fullN 188 (up x [(0, .pointer (some ⟨mp, 0, none⟩)), (2, .int .i64 (lf : Int)), (4, .pointer (some ⟨tb, 0, none⟩)), (6, .int .i64 ((n + 1 : Nat) : Int)), (7, .int .i64 ((n + 2 : Nat) : Int)), (8, .bool (isBytes t))])) M = some (unitV, M')) ∧ RS K mp (rows ++ (ask3 t n ++ (ask4 t n ++ tailS t n lf))) (askN t n) M' := by
  have gb := h.get htb
  by_cases hc : t.kind = 3
  · have hb : isBytes t = true := by simp [isBytes, hc]
    have hp := ht.pos hb
    have hz := ht.size hb
    have hz2 : 1 ≤ t.size ∧ t.size ≤ 8 := by rcases hz with e | e | e | e <;> omega
    obtain ⟨M1, c1, h1⟩ := Enough_do (k := k) (m := t.pos + t.size) (l := n + 1) hO (by omega) (by omega) (by omega) h
    have g1 := h1.get htb
    obtain ⟨M2, c2, h2⟩ := Load_do (k := k) (z := t.size) (d := 2) (s := 7) (m := t.pos) hO (by omega) (by simp [toldS]; omega) (.inr (.inr (.inr ⟨hz, rfl, rfl⟩))) h1
    have e : rows ++ toldS (n + 2 + 1) (t.pos + t.size) (n + 1) ++ [ins (iLoad t.size 2 7 t.pos) 0] = rows ++ ask3 t n := by
      unfold ask3; rw [if_pos hc]; simp only [List.append_assoc]
    rw [e] at h2
    obtain ⟨M3, c3, h3⟩ := Tst11_do (n := n) (lf := lf) hO hk htb ht (by unfold ask3; rw [if_pos hc]; simp [toldS]; omega) hN (fun e => by omega) h2
    refine ⟨M3, fun x => ?_, ?_⟩
    · refine Eq.trans (loop_reg _ _ _ (by kernel_rfl) _ _ _ _) ?_
      refine Eq.trans (r31_8_eq ..) ?_
      refine Eq.trans (t_Tst8 ..) ?_
      rw [gb, nCells, show Y.nthL (testC t) 1 = some (.int .i64 t.kind) from rfl, nElim, nAsInt, nKEq, nCondT, eqF_t hc, nCondT]
      refine Eq.trans (t_TstK8 ..) ?_
      rw [nCondT, gb, nCells, show Y.nthL (testC t) 2 = some (.int .i64 t.pos) from rfl, nElim, nAsInt, nKEq, nCondT, nCells, show Y.nthL (testC t) 3 = some (.int .i64 t.size) from rfl, nElim, nAsInt, nKEq, nCondT, wrap64 (x := Int.add t.pos t.size) (by show _ ≤ t.pos + t.size ∧ t.pos + t.size ≤ _; omega)]
      refine step c1 ?_
      rw [g1, nCells, show Y.nthL (testC t) 3 = some (.int .i64 t.size) from rfl, nElim, nAsInt, nKEq, nCondT, nCells, show Y.nthL (testC t) 2 = some (.int .i64 t.pos) from rfl, nElim, nAsInt, nKEq, nCondT]
      refine step c2 ?_
      exact c3 ..
    · rw [if_neg (by omega)] at h3
      have ea : askN t n = n + 2 + 1 := by unfold askN; simp [hc]
      rw [ea, ← List.append_assoc]
      exact h3
  · obtain ⟨M3, c3, h3⟩ := Tst11_do (n := n) (lf := lf) hO hk htb ht (by omega) hN (fun _ => rfl) h
    have e : ask3 t n = [] := if_neg hc
    refine ⟨M3, fun x => ?_, ?_⟩
    · refine Eq.trans (loop_reg _ _ _ (by kernel_rfl) _ _ _ _) ?_
      refine Eq.trans (r31_8_eq ..) ?_
      refine Eq.trans (t_Tst8 ..) ?_
      rw [gb, nCells, show Y.nthL (testC t) 1 = some (.int .i64 t.kind) from rfl, nElim, nAsInt, nKEq, nCondT, eqF_f hc, nCondF]
      refine Eq.trans (t_TstK8 ..) ?_
      rw [nCondF]
      exact c3 ..
    · rw [e, List.nil_append]
      have ea : (if t.kind = 4 then askN t n else n + 2) = askN t n := by
        by_cases h4 : t.kind = 4
        · rw [if_pos h4]
        · rw [if_neg h4]
          rcases ht.kind with e | e | e | e
          · simp [askN, e]
          · simp [askN, e]
          · exact absurd e hc
          · exact absurd e h4
      rw [ea] at h3
      exact h3
theorem Tst6_do (hO : Orq o) (hk : 100000 + 50 ≤ k) (htb : K tb = some (.cells true (testC t))) (ht : TestOk t) (hl : rows.length + 270 ≤ 100000) (hN : n ≤ 700000) (h : RS K mp rows (n + 2) M) :
    ∃ M', (∀ x : Nat → Value, mlR o k 0 (fullN 188 (up x [(0, .pointer (some ⟨mp, 0, none⟩)), (2, .int .i64 (lf : Int)), (4, .pointer (some ⟨tb, 0, none⟩)), (6, .int .i64 ((n + 1 : Nat) : Int)), (7, .int .i64 ((n + 2 : Nat) : Int)), (8, .bool (isBytes t))])) M = some (unitV, M')) ∧ RS K mp (rows ++ (ask2 t ++ (ask3 t n ++ (ask4 t n ++ tailS t n lf)))) (askN t n) M' := by
  have gb := h.get htb
  by_cases hc : t.kind = 2
  · obtain ⟨M2, c2, h2⟩ := Load_do (k := k) (z := 4) (d := 2) (s := 6) (m := 4) hO (by omega) (by omega) (by simp) h
    have e : ask2 t = [ins (iLoad 4 2 6 4) 0] := if_pos hc
    rw [← e] at h2
    obtain ⟨M3, c3, h3⟩ := Tst8_do (n := n) (lf := lf) hO hk htb ht (by rw [List.length_append, e]; simp; omega) hN h2
    refine ⟨M3, fun x => ?_, by rw [← List.append_assoc]; exact h3⟩
    refine Eq.trans (loop_reg _ _ _ (by kernel_rfl) _ _ _ _) ?_
    refine Eq.trans (r31_6_eq ..) ?_
    refine Eq.trans (t_Tst6 ..) ?_
    rw [gb, nCells, show Y.nthL (testC t) 1 = some (.int .i64 t.kind) from rfl, nElim, nAsInt, nKEq, nCondT, eqF_t hc, nCondT]
    refine Eq.trans (t_TstK6 ..) ?_
    rw [nCondT]
    refine step c2 ?_
    exact c3 ..
  · obtain ⟨M3, c3, h3⟩ := Tst8_do (n := n) (lf := lf) hO hk htb ht (by omega) hN h
    have e : ask2 t = [] := if_neg hc
    refine ⟨M3, fun x => ?_, by rw [e, List.nil_append]; exact h3⟩
    refine Eq.trans (loop_reg _ _ _ (by kernel_rfl) _ _ _ _) ?_
    refine Eq.trans (r31_6_eq ..) ?_
    refine Eq.trans (t_Tst6 ..) ?_
    rw [gb, nCells, show Y.nthL (testC t) 1 = some (.int .i64 t.kind) from rfl, nElim, nAsInt, nKEq, nCondT, eqF_f hc, nCondF]
    refine Eq.trans (t_TstK6 ..) ?_
    rw [nCondF]
    exact c3 ..
theorem testS_eq2 {t : TestT} (ht : TestOk t) (lf n : Nat) : testS t lf n = afreshS ++ (ask1 t ++ (ask2 t ++ (ask3 t n ++ (ask4 t n ++ tailS t n lf)))) := by
  rw [testS_eq, ask_eq ht, maskS_eq]
  simp only [tailS, List.append_assoc]
theorem isB34 (t : TestT) : isBytes t = (decide (t.kind = 3) || decide (t.kind = 4)) := rfl
theorem Test_do (hO : Orq o) (hk : 100000 + 60 ≤ k) (ht : TestOk t) (hl : rows.length + 300 ≤ 100000) (hN : n ≤ 700000) (h : RS K mp rows n M) :
    Does o k 31 [ptr mp, .agg ⟨testC t⟩, .int .i64 (lf : Int)] M (RS K mp (rows ++ testS t lf n) (askN t n)) := by
  obtain ⟨k, rfl⟩ : ∃ k', k = k' + 1 := ⟨k - 1, by omega⟩
  have hb := h.box (.cells true (testC t))
  have htb := keep1_same K M.size (.cells true (testC t))
  obtain ⟨M1, c1, h1⟩ := Label_do (k := k) hO (by omega) (by omega) hb.1
  obtain ⟨M2, c2, h2⟩ := Label_do (k := k) hO (by omega) (by omega) h1
  have g2 := h2.get htb
  obtain ⟨M3, c3, h3⟩ := Afresh_do (k := k) hO (by omega) (by omega) h2
  have g3 := h3.get htb
  obtain ⟨M4, q1, q2, h4⟩ : ∃ M4, (t.kind = 1 → callN Tryd.prog kp 1 o k 26 [ptr mp, .int .i64 11, .int .u8 2, .int .u8 8] M3 = some (unitV, M4)) ∧ (t.kind ≠ 1 → M4 = M3) ∧ RS (keep1 K M.size (.cells true (testC t))) mp (rows ++ afreshS ++ ask1 t) (n + 2) M4 := by
    by_cases e : t.kind = 1
    · obtain ⟨M4, c4, h4⟩ := Regs_do (k := k) (op := 11) (d := 2) (s := 8) hO (by omega) (by simp [afreshS]; omega) (by simp) h3
      exact ⟨M4, fun _ => c4, fun hn => absurd e hn, by rw [ask1, if_pos e]; exact h4⟩
    · exact ⟨M3, fun hn => absurd hn e, fun _ => rfl, by rw [ask1, if_neg e, List.append_nil]; exact h3⟩
  have hl1 : (ask1 t).length ≤ 1 := by unfold ask1; split <;> simp
  obtain ⟨M5, c5, h5⟩ := Tst6_do (n := n) (lf := lf) (k := k) hO (by omega) htb ht (by simp only [List.length_append, afreshS, List.length_cons, List.length_nil]; omega) hN h4
  have h5 := h5.weak h.2 hb.2
  refine ⟨M5, call_of 188 (hO.off 31 (by decide) _ _) at31 bd31 n31 ?_ ok31, ?_⟩
  · refine Eq.trans (markS_eq [6, 8, 11, 29, 31, 36, 38, 40] Tryd.prog kp 1 _ (Y.lpOf Tryd.prog kp 1 (callN Tryd.prog kp 1 o k) 188) (fun _ _ _ _ _ _ _ => rfl) 188 k (bodyOf Tryd.f31) (by kernel_rfl) _ M _) ?_
    rw [isB34] at c5
    obtain ⟨neg, kind, pos, size, mask, lo, hi⟩ := t
    have hk0 : kind = 1 ∨ kind = 2 ∨ kind = 3 ∨ kind = 4 := ht.kind
    have q1 : kind = 1 → _ := q1
    have q2 : kind ≠ 1 → _ := q2
    refine Eq.trans (t_TstA ..) ?_
    refine step c1 ?_
    rw [nAsInt, nKEq, nCondT]
    refine step c2 ?_
    rw [nAsInt, nKEq, nCondT, g2, nCells, show Y.nthL (testC ⟨neg, kind, pos, size, mask, lo, hi⟩) 1 = some (.int .i64 kind) from rfl, nElim, nAsInt, nKEq, nCondT]
    rcases hk0 with rfl | rfl | rfl | rfl
    · rw [show Y.eqF 1 3 = false from rfl, nCondF, nCells, show Y.nthL (testC ⟨neg, 1, pos, size, mask, lo, hi⟩) 1 = some (.int .i64 1) from rfl, nElim, nAsInt, nKEq, nCondT, show Y.eqF 1 4 = false from rfl, nCondF]
      refine step c3 ?_
      rw [g3, nCells, show Y.nthL (testC ⟨neg, 1, pos, size, mask, lo, hi⟩) 1 = some (.int .i64 1) from rfl, nElim, nAsInt, nKEq, nCondT, show Y.eqF 1 1 = true from rfl, nCondT]
      refine step (q1 rfl) ?_
      exact c5 _
    · obtain rfl := q2 (by decide)
      rw [show Y.eqF 2 3 = false from rfl, nCondF, nCells, show Y.nthL (testC ⟨neg, 2, pos, size, mask, lo, hi⟩) 1 = some (.int .i64 2) from rfl, nElim, nAsInt, nKEq, nCondT, show Y.eqF 2 4 = false from rfl, nCondF]
      refine step c3 ?_
      rw [g3, nCells, show Y.nthL (testC ⟨neg, 2, pos, size, mask, lo, hi⟩) 1 = some (.int .i64 2) from rfl, nElim, nAsInt, nKEq, nCondT, show Y.eqF 2 1 = false from rfl, nCondF]
      exact c5 _
    · obtain rfl := q2 (by decide)
      rw [show Y.eqF 3 3 = true from rfl, nCondT]
      refine step c3 ?_
      rw [g3, nCells, show Y.nthL (testC ⟨neg, 3, pos, size, mask, lo, hi⟩) 1 = some (.int .i64 3) from rfl, nElim, nAsInt, nKEq, nCondT, show Y.eqF 3 1 = false from rfl, nCondF]
      exact c5 _
    · obtain rfl := q2 (by decide)
      rw [show Y.eqF 4 3 = false from rfl, nCondF, nCells, show Y.nthL (testC ⟨neg, 4, pos, size, mask, lo, hi⟩) 1 = some (.int .i64 4) from rfl, nElim, nAsInt, nKEq, nCondT, show Y.eqF 4 4 = true from rfl, nCondT]
      refine step c3 ?_
      rw [g3, nCells, show Y.nthL (testC ⟨neg, 4, pos, size, mask, lo, hi⟩) 1 = some (.int .i64 4) from rfl, nElim, nAsInt, nKEq, nCondT, show Y.eqF 4 1 = false from rfl, nCondF]
      exact c5 _
  · rw [testS_eq2 ht]
    simpa only [List.append_assoc] using h5
end
end
end Go.Proofs.YtadioopbehiakaaDoor
