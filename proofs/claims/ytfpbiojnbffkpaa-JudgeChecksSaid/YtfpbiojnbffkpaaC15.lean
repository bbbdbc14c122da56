/-
  JAddC: Add of a Told, on a judge that is laid by itself.
-/
import Derived.Test.YtfpbiojnbffkpaaC14
set_option linter.all false
set_option linter.unusedVariables false
set_option linter.unusedSimpArgs false
namespace Go.Proofs.Ytfpbiojnbffkpaa
open Go Go.DI Go.Proofs Go.Jud
noncomputable section
def ansC (x : Int × Int × H) : List Value := [.int .i64 x.1, .int .i64 x.2.1] ++ hashC x.2.2
theorem feq_A (a b : Int × Int × H) : feq Try.prog kp 100 73 (.agg ⟨ansC a⟩) (.agg ⟨[.int .i64 b.1, .int .i64 b.2.1] ++ hashC b.2.2⟩) = some (decide (a.1 = b.1) && (decide (a.2.1 = b.2.1) && decide (hl a.2.2 = hl b.2.2))) := by
  have h1 : feq Try.prog kp 100 73 (.agg ⟨ansC a⟩) (.agg ⟨[.int .i64 b.1, .int .i64 b.2.1] ++ hashC b.2.2⟩) = (match some (a.1 == b.1) with | some true => (match some (a.2.1 == b.2.1) with | some true => (match chk (hl a.2.2) (hl b.2.2) with | some true => some true | some false => some false | none => none) | some false => some false | none => none) | some false => some false | none => none) := by kernel_rfl
  rw [h1, chk_eq (hl a.2.2) (hl b.2.2) rfl]
  cases e1 : a.1 == b.1 with
  | false => have := ne_of_beq_false e1; simp [this]
  | true =>
    have g1 := eq_of_beq e1
    cases e2 : a.2.1 == b.2.1 with
    | false => have := ne_of_beq_false e2; simp [this]
    | true =>
      have g2 := eq_of_beq e2
      simp only [g1, g2, decide_true, Bool.true_and]
      cases decide (hl a.2.2 = hl b.2.2) <;> rfl
theorem feq_A' (x : Int × Int × H) (c e : Int) (h : H) : feq Try.prog kp 100 73 (.agg ⟨ansC x⟩) (.agg ⟨[.int .i64 c, .int .i64 e] ++ hashC h⟩) = some (decide (x.1 = c) && (decide (x.2.1 = e) && decide (hl x.2.2 = hl h))) := feq_A x (c, e, h)
theorem feq_P' (p : Int × Int) (a b : Int) : feq Try.prog kp 100 71 (.agg ⟨[.int .i64 p.1, .int .i64 p.2]⟩) (.agg ⟨[.int .i64 a, .int .i64 b]⟩) = some (decide (p = (a, b))) := feq_P p (a, b)
theorem asAgg_A {α : Type} (x : Int × Int × H) (q : Array Value → Option α) (d : Option α) : Y.asAgg (evA x) q d = q ⟨ansC x⟩ := rfl
theorem asAgg_P {α : Type} (p : Int × Int) (q : Array Value → Option α) (d : Option α) : Y.asAgg (ekP p) q d = q ⟨[.int .i64 p.1, .int .i64 p.2]⟩ := rfl
theorem len_A (x : Int × Int × H) : Nat.beq (Y.lenLF (ansC x)) 34 = true := rfl
theorem ble_A (x : Int × Int × H) : Nat.ble 34 (Y.lenLF (ansC x)) = true := rfl
theorem all_A (x : Int × Int × H) : Y.allOneF (ansC x) = true := rfl
theorem sub_A (x : Int × Int × H) : Y.subL (ansC x) 0 34 = ansC x := rfl
theorem len_P (a b : Int) : Nat.beq (Y.lenLF [.int .i64 a, .int .i64 b]) 2 = true := rfl
theorem ble_P (a b : Int) : Nat.ble 2 (Y.lenLF [.int .i64 a, .int .i64 b]) = true := rfl
theorem all_P (a b : Int) : Y.allOneF [.int .i64 a, .int .i64 b] = true := rfl
theorem sub_P (a b : Int) : Y.subL [.int .i64 a, .int .i64 b] 0 2 = [.int .i64 a, .int .i64 b] := rfl
theorem add_toldN (S : JS) (r : RowT) (hn : S.n ≠ 0) (hk : r.k = 5) (hy : r.y = false) : addR obs8 r (msJ S) = obsOf (toldJ S r) (logV 8 S.log) (logB S.log) := by
  unfold addR
  rw [hk, hy]
  refine Eq.trans (t_toldN ..) ?_
  simp only [eqF_f hn, cond_false, toldJ, hy, true_or, if_true]
  rfl
theorem add_toldO (S : JS) (r : RowT) (hn : S.n ≠ 0) (hk : r.k = 5) (hy : r.y = true) (hc : r.c = 61) : addR obs8 r (msJ S) = obsOf (toldJ S r) (logV 8 S.log) (logB S.log) := by
  unfold addR
  rw [hk, hy, hc]
  refine Eq.trans (t_toldO ..) ?_
  simp only [eqF_f hn, cond_false, toldJ, hc, or_true, if_true]
  rfl
set_option maxHeartbeats 2000000 in
theorem add_toldZ (S : JS) (hn : S.n ≠ 0) (w t ix e s st c tr : Int) (h : H) (v : Int) : addR obs8 (⟨5, w, t, ix, 0, s, st, 0, tr, true, h, v⟩ : RowT) (msJ S) = obsOf (toldJ S (⟨5, w, t, ix, 0, s, st, 0, tr, true, h, v⟩ : RowT)) (logV 8 S.log) (logB S.log) := by
  refine Eq.trans (t_toldZ ..) ?_
  have hp : propJ (⟨5, w, t, ix, 0, s, st, 0, tr, true, h, v⟩ : RowT) = false := by simp [propJ]
  have hap : ∀ v, entsL ekP evA S.answers.l ++ [{ key := .agg ⟨[.int .i64 w, .int .i64 s]⟩, val := .agg ⟨[.int .i64 0, .int .i64 0] ++ hashC v⟩, born := S.answers.ck }] = entsL ekP evA (S.answers.l ++ [((w, s), (0, 0, v), S.answers.ck)]) := fun v => app_P evA w s (0, 0, v) S.answers.l S.answers.ck
  have hmo : ∀ i v, modE i (.agg ⟨[.int .i64 w, .int .i64 s]⟩) (.agg ⟨[.int .i64 0, .int .i64 0] ++ hashC v⟩) (entsL ekP evA S.answers.l) = entsL ekP evA (modT i (w, s) (0, 0, v) S.answers.l) := fun i v => mod_P evA w s (0, 0, v) S.answers.l i
  have hap2 : entsL ekI ekP S.askers.l ++ [{ key := .int .i64 0, val := .agg ⟨[.int .i64 w, .int .i64 s]⟩, born := S.askers.ck }] = entsL ekI ekP (S.askers.l ++ [(0, (w, s), S.askers.ck)]) := app_I ekP 0 (w, s) S.askers.l S.askers.ck
  have hmo2 : ∀ i, modE i (.int .i64 0) (.agg ⟨[.int .i64 w, .int .i64 s]⟩) (entsL ekI ekP S.askers.l) = entsL ekI ekP (modT i 0 (w, s) S.askers.l) := fun i => mod_I ekP 0 (w, s) S.askers.l i
  simp only [eqF_f hn, cond_false, find_I, find_P', toldJ, hp, Bool.true_eq_false, false_or, show ¬ (0 : Int) = 61 by omega, if_false, Bool.false_and, Bool.true_and, Bool.false_eq_true, if_true]
  cases hf : findT (w, s) S.answers.l 0 with
  | none =>
    cases hg : findT (0 : Int) S.askers.l 0 with
    | none =>
      simp only [get_none hf, put_none hf, hap, Option.map, Option.elim, asAgg_A, len_A, all_A, ble_A, sub_A, feq_A', asAgg_P, len_P, all_P, ble_P, sub_P, feq_P', cond_true, same_P', same_I', Bool.not_true, Bool.not_false, cond_false, Bool.false_eq_true, if_false, if_true]; rfl
    | some p =>
      obtain ⟨j, p⟩ := p
      simp only [get_none hf, put_none hf, hap, Option.map, Option.elim, asAgg_A, len_A, all_A, ble_A, sub_A, feq_A', asAgg_P, len_P, all_P, ble_P, sub_P, feq_P', cond_true, same_P', same_I', Bool.not_true, Bool.not_false, cond_false, Bool.false_eq_true, if_false, if_true]; rfl
  | some x =>
    obtain ⟨i, x⟩ := x
    obtain ⟨b, hb⟩ := at_P evA hf
    cases hd : (decide (x.1 = 0) && (decide (x.2.1 = 0) && decide (hl x.2.2 = hl h)))
    · cases hg : findT (0 : Int) S.askers.l 0 with
      | none =>
        simp only [get_some hf, put_some hf, hmo, hb, hd, Option.map, Option.elim, asAgg_A, len_A, all_A, ble_A, sub_A, feq_A', asAgg_P, len_P, all_P, ble_P, sub_P, feq_P', cond_true, same_P', same_I', Bool.not_true, Bool.not_false, cond_false, Bool.false_eq_true, if_false, if_true]; rfl
      | some p =>
        obtain ⟨j, p⟩ := p
        simp only [get_some hf, put_some hf, hmo, hb, hd, Option.map, Option.elim, asAgg_A, len_A, all_A, ble_A, sub_A, feq_A', asAgg_P, len_P, all_P, ble_P, sub_P, feq_P', cond_true, same_P', same_I', Bool.not_true, Bool.not_false, cond_false, Bool.false_eq_true, if_false, if_true]; rfl
    · cases hg : findT (0 : Int) S.askers.l 0 with
      | none =>
        simp only [get_some hf, put_some hf, hmo, hb, hd, Option.map, Option.elim, asAgg_A, len_A, all_A, ble_A, sub_A, feq_A', asAgg_P, len_P, all_P, ble_P, sub_P, feq_P', cond_true, same_P', same_I', Bool.not_true, Bool.not_false, cond_false, Bool.false_eq_true, if_false, if_true]; rfl
      | some p =>
        obtain ⟨j, p⟩ := p
        simp only [get_some hf, put_some hf, hmo, hb, hd, Option.map, Option.elim, asAgg_A, len_A, all_A, ble_A, sub_A, feq_A', asAgg_P, len_P, all_P, ble_P, sub_P, feq_P', cond_true, same_P', same_I', Bool.not_true, Bool.not_false, cond_false, Bool.false_eq_true, if_false, if_true]; rfl
set_option maxHeartbeats 2000000 in
theorem add_toldZn (S : JS) (hn : S.n ≠ 0) (w t ix e s st c tr : Int) (h : H) (v : Int) (a : Nat) : addR obs8 (⟨5, w, t, ix, (.negSucc a), s, st, 0, tr, true, h, v⟩ : RowT) (msJ S) = obsOf (toldJ S (⟨5, w, t, ix, (.negSucc a), s, st, 0, tr, true, h, v⟩ : RowT)) (logV 8 S.log) (logB S.log) := by
  refine Eq.trans (t_toldZn ..) ?_
  have hp : propJ (⟨5, w, t, ix, (.negSucc a), s, st, 0, tr, true, h, v⟩ : RowT) = false := by simp [propJ]
  have hap : ∀ v, entsL ekP evA S.answers.l ++ [{ key := .agg ⟨[.int .i64 w, .int .i64 s]⟩, val := .agg ⟨[.int .i64 0, .int .i64 (.negSucc a)] ++ hashC v⟩, born := S.answers.ck }] = entsL ekP evA (S.answers.l ++ [((w, s), (0, (.negSucc a), v), S.answers.ck)]) := fun v => app_P evA w s (0, (.negSucc a), v) S.answers.l S.answers.ck
  have hmo : ∀ i v, modE i (.agg ⟨[.int .i64 w, .int .i64 s]⟩) (.agg ⟨[.int .i64 0, .int .i64 (.negSucc a)] ++ hashC v⟩) (entsL ekP evA S.answers.l) = entsL ekP evA (modT i (w, s) (0, (.negSucc a), v) S.answers.l) := fun i v => mod_P evA w s (0, (.negSucc a), v) S.answers.l i
  have hap2 : entsL ekI ekP S.askers.l ++ [{ key := .int .i64 (.negSucc a), val := .agg ⟨[.int .i64 w, .int .i64 s]⟩, born := S.askers.ck }] = entsL ekI ekP (S.askers.l ++ [((.negSucc a), (w, s), S.askers.ck)]) := app_I ekP (.negSucc a) (w, s) S.askers.l S.askers.ck
  have hmo2 : ∀ i, modE i (.int .i64 (.negSucc a)) (.agg ⟨[.int .i64 w, .int .i64 s]⟩) (entsL ekI ekP S.askers.l) = entsL ekI ekP (modT i (.negSucc a) (w, s) S.askers.l) := fun i => mod_I ekP (.negSucc a) (w, s) S.askers.l i
  simp only [eqF_f hn, cond_false, find_I, find_P', toldJ, hp, Bool.true_eq_false, false_or, show ¬ (0 : Int) = 61 by omega, if_false, Bool.false_and, Bool.true_and, Bool.false_eq_true, if_true]
  cases hf : findT (w, s) S.answers.l 0 with
  | none =>
    cases hg : findT ((.negSucc a) : Int) S.askers.l 0 with
    | none =>
      simp only [get_none hf, put_none hf, hap, Option.map, Option.elim, asAgg_A, len_A, all_A, ble_A, sub_A, feq_A', asAgg_P, len_P, all_P, ble_P, sub_P, feq_P', cond_true, same_P', same_I', Bool.not_true, Bool.not_false, cond_false, Bool.false_eq_true, if_false, if_true]; rfl
    | some p =>
      obtain ⟨j, p⟩ := p
      simp only [get_none hf, put_none hf, hap, Option.map, Option.elim, asAgg_A, len_A, all_A, ble_A, sub_A, feq_A', asAgg_P, len_P, all_P, ble_P, sub_P, feq_P', cond_true, same_P', same_I', Bool.not_true, Bool.not_false, cond_false, Bool.false_eq_true, if_false, if_true]; rfl
  | some x =>
    obtain ⟨i, x⟩ := x
    obtain ⟨b, hb⟩ := at_P evA hf
    cases hd : (decide (x.1 = 0) && (decide (x.2.1 = (.negSucc a)) && decide (hl x.2.2 = hl h)))
    · cases hg : findT ((.negSucc a) : Int) S.askers.l 0 with
      | none =>
        simp only [get_some hf, put_some hf, hmo, hb, hd, Option.map, Option.elim, asAgg_A, len_A, all_A, ble_A, sub_A, feq_A', asAgg_P, len_P, all_P, ble_P, sub_P, feq_P', cond_true, same_P', same_I', Bool.not_true, Bool.not_false, cond_false, Bool.false_eq_true, if_false, if_true]; rfl
      | some p =>
        obtain ⟨j, p⟩ := p
        simp only [get_some hf, put_some hf, hmo, hb, hd, Option.map, Option.elim, asAgg_A, len_A, all_A, ble_A, sub_A, feq_A', asAgg_P, len_P, all_P, ble_P, sub_P, feq_P', cond_true, same_P', same_I', Bool.not_true, Bool.not_false, cond_false, Bool.false_eq_true, if_false, if_true]; rfl
    · cases hg : findT ((.negSucc a) : Int) S.askers.l 0 with
      | none =>
        simp only [get_some hf, put_some hf, hmo, hb, hd, Option.map, Option.elim, asAgg_A, len_A, all_A, ble_A, sub_A, feq_A', asAgg_P, len_P, all_P, ble_P, sub_P, feq_P', cond_true, same_P', same_I', Bool.not_true, Bool.not_false, cond_false, Bool.false_eq_true, if_false, if_true]; rfl
      | some p =>
        obtain ⟨j, p⟩ := p
        simp only [get_some hf, put_some hf, hmo, hb, hd, Option.map, Option.elim, asAgg_A, len_A, all_A, ble_A, sub_A, feq_A', asAgg_P, len_P, all_P, ble_P, sub_P, feq_P', cond_true, same_P', same_I', Bool.not_true, Bool.not_false, cond_false, Bool.false_eq_true, if_false, if_true]; rfl
set_option maxHeartbeats 2000000 in
theorem add_toldP (S : JS) (hn : S.n ≠ 0) (w t ix e s st c tr : Int) (h : H) (v : Int) (a : Nat) : addR obs8 (⟨5, w, t, ix, (.ofNat (a + 1)), s, st, 0, tr, true, h, v⟩ : RowT) (msJ S) = obsOf (toldJ S (⟨5, w, t, ix, (.ofNat (a + 1)), s, st, 0, tr, true, h, v⟩ : RowT)) (logV 8 S.log) (logB S.log) := by
  refine Eq.trans (t_toldP ..) ?_
  have hp : propJ (⟨5, w, t, ix, (.ofNat (a + 1)), s, st, 0, tr, true, h, v⟩ : RowT) = true := by simp [propJ]
  have hap : ∀ v, entsL ekP evA S.answers.l ++ [{ key := .agg ⟨[.int .i64 w, .int .i64 s]⟩, val := .agg ⟨[.int .i64 0, .int .i64 (.ofNat (a + 1))] ++ hashC v⟩, born := S.answers.ck }] = entsL ekP evA (S.answers.l ++ [((w, s), (0, (.ofNat (a + 1)), v), S.answers.ck)]) := fun v => app_P evA w s (0, (.ofNat (a + 1)), v) S.answers.l S.answers.ck
  have hmo : ∀ i v, modE i (.agg ⟨[.int .i64 w, .int .i64 s]⟩) (.agg ⟨[.int .i64 0, .int .i64 (.ofNat (a + 1))] ++ hashC v⟩) (entsL ekP evA S.answers.l) = entsL ekP evA (modT i (w, s) (0, (.ofNat (a + 1)), v) S.answers.l) := fun i v => mod_P evA w s (0, (.ofNat (a + 1)), v) S.answers.l i
  have hap2 : entsL ekI ekP S.askers.l ++ [{ key := .int .i64 (.ofNat (a + 1)), val := .agg ⟨[.int .i64 w, .int .i64 s]⟩, born := S.askers.ck }] = entsL ekI ekP (S.askers.l ++ [((.ofNat (a + 1)), (w, s), S.askers.ck)]) := app_I ekP (.ofNat (a + 1)) (w, s) S.askers.l S.askers.ck
  have hmo2 : ∀ i, modE i (.int .i64 (.ofNat (a + 1))) (.agg ⟨[.int .i64 w, .int .i64 s]⟩) (entsL ekI ekP S.askers.l) = entsL ekI ekP (modT i (.ofNat (a + 1)) (w, s) S.askers.l) := fun i => mod_I ekP (.ofNat (a + 1)) (w, s) S.askers.l i
  simp only [eqF_f hn, cond_false, find_I, find_P', toldJ, hp, Bool.true_eq_false, false_or, show ¬ (0 : Int) = 61 by omega, if_false, Bool.false_and, Bool.true_and, Bool.false_eq_true, if_true]
  cases hf : findT (w, s) S.answers.l 0 with
  | none =>
    cases hg : findT ((.ofNat (a + 1)) : Int) S.askers.l 0 with
    | none =>
      simp only [get_none hf, put_none hf, hap, get_none hg, put_none hg, hap2, Option.map, Option.elim, asAgg_A, len_A, all_A, ble_A, sub_A, feq_A', asAgg_P, len_P, all_P, ble_P, sub_P, feq_P', cond_true, same_P', same_I', Bool.not_true, Bool.not_false, cond_false, Bool.false_eq_true, if_false, if_true]; rfl
    | some p =>
      obtain ⟨j, p⟩ := p
      obtain ⟨b2, hb2⟩ := at_I ekP hg
      by_cases hq : p = (w, s)
      · have hq2 := decide_eq_true hq
        simp only [get_none hf, put_none hf, hap, get_some hg, put_some hg, hmo2, hb2, hq2, Option.map, Option.elim, asAgg_A, len_A, all_A, ble_A, sub_A, feq_A', asAgg_P, len_P, all_P, ble_P, sub_P, feq_P', cond_true, same_P', same_I', Bool.not_true, Bool.not_false, cond_false, Bool.false_eq_true, if_false, if_true]; rfl
      · have hq2 := decide_eq_false hq
        simp only [get_none hf, put_none hf, hap, get_some hg, put_some hg, hmo2, hb2, hq2, Option.map, Option.elim, asAgg_A, len_A, all_A, ble_A, sub_A, feq_A', asAgg_P, len_P, all_P, ble_P, sub_P, feq_P', cond_true, same_P', same_I', Bool.not_true, Bool.not_false, cond_false, Bool.false_eq_true, if_false, if_true]; rfl
  | some x =>
    obtain ⟨i, x⟩ := x
    obtain ⟨b, hb⟩ := at_P evA hf
    cases hd : (decide (x.1 = 0) && (decide (x.2.1 = (.ofNat (a + 1))) && decide (hl x.2.2 = hl h)))
    · cases hg : findT ((.ofNat (a + 1)) : Int) S.askers.l 0 with
      | none =>
        simp only [get_some hf, put_some hf, hmo, hb, hd, get_none hg, put_none hg, hap2, Option.map, Option.elim, asAgg_A, len_A, all_A, ble_A, sub_A, feq_A', asAgg_P, len_P, all_P, ble_P, sub_P, feq_P', cond_true, same_P', same_I', Bool.not_true, Bool.not_false, cond_false, Bool.false_eq_true, if_false, if_true]; rfl
      | some p =>
        obtain ⟨j, p⟩ := p
        obtain ⟨b2, hb2⟩ := at_I ekP hg
        by_cases hq : p = (w, s)
        · have hq2 := decide_eq_true hq
          simp only [get_some hf, put_some hf, hmo, hb, hd, get_some hg, put_some hg, hmo2, hb2, hq2, Option.map, Option.elim, asAgg_A, len_A, all_A, ble_A, sub_A, feq_A', asAgg_P, len_P, all_P, ble_P, sub_P, feq_P', cond_true, same_P', same_I', Bool.not_true, Bool.not_false, cond_false, Bool.false_eq_true, if_false, if_true]; rfl
        · have hq2 := decide_eq_false hq
          simp only [get_some hf, put_some hf, hmo, hb, hd, get_some hg, put_some hg, hmo2, hb2, hq2, Option.map, Option.elim, asAgg_A, len_A, all_A, ble_A, sub_A, feq_A', asAgg_P, len_P, all_P, ble_P, sub_P, feq_P', cond_true, same_P', same_I', Bool.not_true, Bool.not_false, cond_false, Bool.false_eq_true, if_false, if_true]; rfl
    · cases hg : findT ((.ofNat (a + 1)) : Int) S.askers.l 0 with
      | none =>
        simp only [get_some hf, put_some hf, hmo, hb, hd, get_none hg, put_none hg, hap2, Option.map, Option.elim, asAgg_A, len_A, all_A, ble_A, sub_A, feq_A', asAgg_P, len_P, all_P, ble_P, sub_P, feq_P', cond_true, same_P', same_I', Bool.not_true, Bool.not_false, cond_false, Bool.false_eq_true, if_false, if_true]; rfl
      | some p =>
        obtain ⟨j, p⟩ := p
        obtain ⟨b2, hb2⟩ := at_I ekP hg
        by_cases hq : p = (w, s)
        · have hq2 := decide_eq_true hq
          simp only [get_some hf, put_some hf, hmo, hb, hd, get_some hg, put_some hg, hmo2, hb2, hq2, Option.map, Option.elim, asAgg_A, len_A, all_A, ble_A, sub_A, feq_A', asAgg_P, len_P, all_P, ble_P, sub_P, feq_P', cond_true, same_P', same_I', Bool.not_true, Bool.not_false, cond_false, Bool.false_eq_true, if_false, if_true]; rfl
        · have hq2 := decide_eq_false hq
          simp only [get_some hf, put_some hf, hmo, hb, hd, get_some hg, put_some hg, hmo2, hb2, hq2, Option.map, Option.elim, asAgg_A, len_A, all_A, ble_A, sub_A, feq_A', asAgg_P, len_P, all_P, ble_P, sub_P, feq_P', cond_true, same_P', same_I', Bool.not_true, Bool.not_false, cond_false, Bool.false_eq_true, if_false, if_true]; rfl
set_option maxHeartbeats 2000000 in
theorem add_toldC (S : JS) (hn : S.n ≠ 0) (w t ix e s st c tr : Int) (h : H) (v : Int) (a : Nat) (hc : (Int.ofNat (a + 1)) ≠ 61) : addR obs8 (⟨5, w, t, ix, e, s, st, (.ofNat (a + 1)), tr, true, h, v⟩ : RowT) (msJ S) = obsOf (toldJ S (⟨5, w, t, ix, e, s, st, (.ofNat (a + 1)), tr, true, h, v⟩ : RowT)) (logV 8 S.log) (logB S.log) := by
  refine Eq.trans (t_toldC ..) ?_
  have hp : propJ (⟨5, w, t, ix, e, s, st, (.ofNat (a + 1)), tr, true, h, v⟩ : RowT) = false := by simp only [propJ]; rw [decide_eq_false (show ¬ (Int.ofNat (a + 1)) = 0 by simp only [Int.ofNat_eq_natCast]; omega)]; rfl
  have hap : ∀ v, entsL ekP evA S.answers.l ++ [{ key := .agg ⟨[.int .i64 w, .int .i64 s]⟩, val := .agg ⟨[.int .i64 (.ofNat (a + 1)), .int .i64 e] ++ hashC v⟩, born := S.answers.ck }] = entsL ekP evA (S.answers.l ++ [((w, s), ((.ofNat (a + 1)), e, v), S.answers.ck)]) := fun v => app_P evA w s ((.ofNat (a + 1)), e, v) S.answers.l S.answers.ck
  have hmo : ∀ i v, modE i (.agg ⟨[.int .i64 w, .int .i64 s]⟩) (.agg ⟨[.int .i64 (.ofNat (a + 1)), .int .i64 e] ++ hashC v⟩) (entsL ekP evA S.answers.l) = entsL ekP evA (modT i (w, s) ((.ofNat (a + 1)), e, v) S.answers.l) := fun i v => mod_P evA w s ((.ofNat (a + 1)), e, v) S.answers.l i
  have hap2 : entsL ekI ekP S.askers.l ++ [{ key := .int .i64 e, val := .agg ⟨[.int .i64 w, .int .i64 s]⟩, born := S.askers.ck }] = entsL ekI ekP (S.askers.l ++ [(e, (w, s), S.askers.ck)]) := app_I ekP e (w, s) S.askers.l S.askers.ck
  have hmo2 : ∀ i, modE i (.int .i64 e) (.agg ⟨[.int .i64 w, .int .i64 s]⟩) (entsL ekI ekP S.askers.l) = entsL ekI ekP (modT i e (w, s) S.askers.l) := fun i => mod_I ekP e (w, s) S.askers.l i
  simp only [eqF_f hn, cond_false, find_I, find_P', toldJ, hp, Bool.true_eq_false, false_or, eqF_f hc, hc, if_false, Bool.false_and, Bool.true_and, Bool.false_eq_true, if_true]
  cases hf : findT (w, s) S.answers.l 0 with
  | none =>
    cases hg : findT (e : Int) S.askers.l 0 with
    | none =>
      simp only [get_none hf, put_none hf, hap, Option.map, Option.elim, asAgg_A, len_A, all_A, ble_A, sub_A, feq_A', asAgg_P, len_P, all_P, ble_P, sub_P, feq_P', cond_true, same_P', same_I', Bool.not_true, Bool.not_false, cond_false, Bool.false_eq_true, if_false, if_true]; rfl
    | some p =>
      obtain ⟨j, p⟩ := p
      simp only [get_none hf, put_none hf, hap, Option.map, Option.elim, asAgg_A, len_A, all_A, ble_A, sub_A, feq_A', asAgg_P, len_P, all_P, ble_P, sub_P, feq_P', cond_true, same_P', same_I', Bool.not_true, Bool.not_false, cond_false, Bool.false_eq_true, if_false, if_true]; rfl
  | some x =>
    obtain ⟨i, x⟩ := x
    obtain ⟨b, hb⟩ := at_P evA hf
    cases hd : (decide (x.1 = (.ofNat (a + 1))) && (decide (x.2.1 = e) && decide (hl x.2.2 = hl h)))
    · cases hg : findT (e : Int) S.askers.l 0 with
      | none =>
        simp only [get_some hf, put_some hf, hmo, hb, hd, Option.map, Option.elim, asAgg_A, len_A, all_A, ble_A, sub_A, feq_A', asAgg_P, len_P, all_P, ble_P, sub_P, feq_P', cond_true, same_P', same_I', Bool.not_true, Bool.not_false, cond_false, Bool.false_eq_true, if_false, if_true]; rfl
      | some p =>
        obtain ⟨j, p⟩ := p
        simp only [get_some hf, put_some hf, hmo, hb, hd, Option.map, Option.elim, asAgg_A, len_A, all_A, ble_A, sub_A, feq_A', asAgg_P, len_P, all_P, ble_P, sub_P, feq_P', cond_true, same_P', same_I', Bool.not_true, Bool.not_false, cond_false, Bool.false_eq_true, if_false, if_true]; rfl
    · cases hg : findT (e : Int) S.askers.l 0 with
      | none =>
        simp only [get_some hf, put_some hf, hmo, hb, hd, Option.map, Option.elim, asAgg_A, len_A, all_A, ble_A, sub_A, feq_A', asAgg_P, len_P, all_P, ble_P, sub_P, feq_P', cond_true, same_P', same_I', Bool.not_true, Bool.not_false, cond_false, Bool.false_eq_true, if_false, if_true]; rfl
      | some p =>
        obtain ⟨j, p⟩ := p
        simp only [get_some hf, put_some hf, hmo, hb, hd, Option.map, Option.elim, asAgg_A, len_A, all_A, ble_A, sub_A, feq_A', asAgg_P, len_P, all_P, ble_P, sub_P, feq_P', cond_true, same_P', same_I', Bool.not_true, Bool.not_false, cond_false, Bool.false_eq_true, if_false, if_true]; rfl
set_option maxHeartbeats 2000000 in
theorem add_toldCn (S : JS) (hn : S.n ≠ 0) (w t ix e s st c tr : Int) (h : H) (v : Int) (a : Nat) : addR obs8 (⟨5, w, t, ix, e, s, st, (.negSucc a), tr, true, h, v⟩ : RowT) (msJ S) = obsOf (toldJ S (⟨5, w, t, ix, e, s, st, (.negSucc a), tr, true, h, v⟩ : RowT)) (logV 8 S.log) (logB S.log) := by
  refine Eq.trans (t_toldCn ..) ?_
  have hc6 : ¬ Int.negSucc a = 61 := fun h => by cases h
  have hp : propJ (⟨5, w, t, ix, e, s, st, (.negSucc a), tr, true, h, v⟩ : RowT) = false := by simp [propJ]
  have hap : ∀ v, entsL ekP evA S.answers.l ++ [{ key := .agg ⟨[.int .i64 w, .int .i64 s]⟩, val := .agg ⟨[.int .i64 (.negSucc a), .int .i64 e] ++ hashC v⟩, born := S.answers.ck }] = entsL ekP evA (S.answers.l ++ [((w, s), ((.negSucc a), e, v), S.answers.ck)]) := fun v => app_P evA w s ((.negSucc a), e, v) S.answers.l S.answers.ck
  have hmo : ∀ i v, modE i (.agg ⟨[.int .i64 w, .int .i64 s]⟩) (.agg ⟨[.int .i64 (.negSucc a), .int .i64 e] ++ hashC v⟩) (entsL ekP evA S.answers.l) = entsL ekP evA (modT i (w, s) ((.negSucc a), e, v) S.answers.l) := fun i v => mod_P evA w s ((.negSucc a), e, v) S.answers.l i
  have hap2 : entsL ekI ekP S.askers.l ++ [{ key := .int .i64 e, val := .agg ⟨[.int .i64 w, .int .i64 s]⟩, born := S.askers.ck }] = entsL ekI ekP (S.askers.l ++ [(e, (w, s), S.askers.ck)]) := app_I ekP e (w, s) S.askers.l S.askers.ck
  have hmo2 : ∀ i, modE i (.int .i64 e) (.agg ⟨[.int .i64 w, .int .i64 s]⟩) (entsL ekI ekP S.askers.l) = entsL ekI ekP (modT i e (w, s) S.askers.l) := fun i => mod_I ekP e (w, s) S.askers.l i
  simp only [eqF_f hn, cond_false, find_I, find_P', toldJ, hp, Bool.true_eq_false, false_or, hc6, if_false, Bool.false_and, Bool.true_and, Bool.false_eq_true, if_true]
  cases hf : findT (w, s) S.answers.l 0 with
  | none =>
    cases hg : findT (e : Int) S.askers.l 0 with
    | none =>
      simp only [get_none hf, put_none hf, hap, Option.map, Option.elim, asAgg_A, len_A, all_A, ble_A, sub_A, feq_A', asAgg_P, len_P, all_P, ble_P, sub_P, feq_P', cond_true, same_P', same_I', Bool.not_true, Bool.not_false, cond_false, Bool.false_eq_true, if_false, if_true]; rfl
    | some p =>
      obtain ⟨j, p⟩ := p
      simp only [get_none hf, put_none hf, hap, Option.map, Option.elim, asAgg_A, len_A, all_A, ble_A, sub_A, feq_A', asAgg_P, len_P, all_P, ble_P, sub_P, feq_P', cond_true, same_P', same_I', Bool.not_true, Bool.not_false, cond_false, Bool.false_eq_true, if_false, if_true]; rfl
  | some x =>
    obtain ⟨i, x⟩ := x
    obtain ⟨b, hb⟩ := at_P evA hf
    cases hd : (decide (x.1 = (.negSucc a)) && (decide (x.2.1 = e) && decide (hl x.2.2 = hl h)))
    · cases hg : findT (e : Int) S.askers.l 0 with
      | none =>
        simp only [get_some hf, put_some hf, hmo, hb, hd, Option.map, Option.elim, asAgg_A, len_A, all_A, ble_A, sub_A, feq_A', asAgg_P, len_P, all_P, ble_P, sub_P, feq_P', cond_true, same_P', same_I', Bool.not_true, Bool.not_false, cond_false, Bool.false_eq_true, if_false, if_true]; rfl
      | some p =>
        obtain ⟨j, p⟩ := p
        simp only [get_some hf, put_some hf, hmo, hb, hd, Option.map, Option.elim, asAgg_A, len_A, all_A, ble_A, sub_A, feq_A', asAgg_P, len_P, all_P, ble_P, sub_P, feq_P', cond_true, same_P', same_I', Bool.not_true, Bool.not_false, cond_false, Bool.false_eq_true, if_false, if_true]; rfl
    · cases hg : findT (e : Int) S.askers.l 0 with
      | none =>
        simp only [get_some hf, put_some hf, hmo, hb, hd, Option.map, Option.elim, asAgg_A, len_A, all_A, ble_A, sub_A, feq_A', asAgg_P, len_P, all_P, ble_P, sub_P, feq_P', cond_true, same_P', same_I', Bool.not_true, Bool.not_false, cond_false, Bool.false_eq_true, if_false, if_true]; rfl
      | some p =>
        obtain ⟨j, p⟩ := p
        simp only [get_some hf, put_some hf, hmo, hb, hd, Option.map, Option.elim, asAgg_A, len_A, all_A, ble_A, sub_A, feq_A', asAgg_P, len_P, all_P, ble_P, sub_P, feq_P', cond_true, same_P', same_I', Bool.not_true, Bool.not_false, cond_false, Bool.false_eq_true, if_false, if_true]; rfl
end
end Go.Proofs.Ytfpbiojnbffkpaa
