/-
  JAddB: Add of a Swapped, on a judge that is laid by itself.
-/
import Derived.Test.YtfpbiojnbffkpaaH12
import Derived.Test.YtfpbiojnbffkpaaH13
set_option linter.all false
set_option linter.unusedVariables false
set_option linter.unusedSimpArgs false
namespace Go.Proofs.Ytfpbiojnbffkpaa
open Go Go.DI Go.Proofs Go.Jud
noncomputable section
def chk : List Int → List Int → Option Bool
  | a :: l, b :: m => (match some (a == b) with | some true => chk l m | some false => some false | none => none)
  | _, _ => some true
theorem chk_eq : ∀ (l m : List Int), l.length = m.length → chk l m = some (decide (l = m))
  | [], [], _ => rfl
  | [], _ :: _, h => by simp at h
  | _ :: _, [], h => by simp at h
  | a :: l, b :: m, h => by
    have ih := chk_eq l m (by simpa using h)
    simp only [chk]
    cases hab : a == b with
    | true => have := eq_of_beq hab; subst this; simp [ih]
    | false => have := ne_of_beq_false hab; simp [this]
theorem feq_H (a b : H) : feq Try.prog kp 100 31 (.agg ⟨hashC a⟩) (.agg ⟨hashC b⟩) = some (decide (hl a = hl b)) := by
  have h1 : feq Try.prog kp 100 31 (.agg ⟨hashC a⟩) (.agg ⟨hashC b⟩) = chk (hl a) (hl b) := by kernel_rfl
  rw [h1, chk_eq (hl a) (hl b) rfl]
theorem asAgg_H {α : Type} (h : H) (q : Array Value → Option α) (d : Option α) : Y.asAgg (evH h) q d = q ⟨hashC h⟩ := rfl
theorem asAgg_U {α : Type} (u : Unit) (q : Array Value → Option α) (d : Option α) : Y.asAgg (evU u) q d = q ⟨[]⟩ := rfl
theorem len_H (h : H) : Nat.beq (Y.lenLF (hashC h)) 32 = true := rfl
theorem ble_H (h : H) : Nat.ble 32 (Y.lenLF (hashC h)) = true := rfl
theorem all_H (h : H) : Y.allOneF (hashC h) = true := rfl
theorem sub_H (h : H) : Y.subL (hashC h) 0 32 = hashC h := rfl
theorem len_U : Nat.beq (Y.lenLF []) 0 = true := rfl
theorem all_U : Y.allOneF [] = true := rfl
set_option maxHeartbeats 1000000 in
theorem add_swap11 (led : TM Int Int) (log : List (Int × H)) (last : TM Int Int) (ep : Nat → Int) (top : Int) (images : TM Int H) (yes : TM (Int × Int) Unit) (word : TM Int Int) (answers : TM (Int × Int) (Int × Int × H)) (askers : TM Int (Int × Int)) (r : RowT) (hk : r.k = 3) (hw : r.w = 1) (he : ¬ r.e < 1) :
    addR obs8 r (msJ ⟨1, led, log, last, ep, top, images, yes, word, answers, askers⟩) = obsOf (swapJ ⟨1, led, log, last, ep, top, images, yes, word, answers, askers⟩ r) (logV 8 log) (logB log) := by
  unfold addR
  rw [hk, hw]
  refine Eq.trans (t_swap11 ..) ?_
  have ht : (1 : Int).toNat = 1 := rfl
  have hN : (1 : Int).toNat = 1 := rfl
  have hy : yesesJ ⟨1, led, log, last, ep, top, images, yes, word, answers, askers⟩ r.e 1 = ((true && (yes.get (1, r.e)).isSome)) := rfl
  have hev : evenJ ⟨1, led, log, last, ep, top, images, yes, word, answers, askers⟩ 1 = ((true && decide (ep 1 = top))) := rfl
  simp only [ltF_f he, cond_false, find_I, find_P', swapJ, hw, ht, hN, hy, hev]
  by_cases g : r.e ≤ ep 1
  · rw [ltF_f (show ¬ ep 1 < r.e by omega), if_pos g]
    cases hf : findT r.e images.l 0 <;> rfl
  rw [ltF_t (show ep 1 < r.e by omega), if_neg g]
  cases hf : findT r.e images.l 0 with
  | none =>
    have hput : ∀ v, images.put r.e v = ⟨images.l ++ [(r.e, v, images.ck)], images.ck + 1⟩ := fun v => put_none hf v
    have happ : entsL ekI evH images.l ++ [{ key := .int .i64 r.e, val := .agg ⟨hashC r.h⟩, born := images.ck }] = entsL ekI evH (images.l ++ [(r.e, r.h, images.ck)]) := app_I evH r.e r.h images.l images.ck
    simp only [Option.map, Option.elim, get_none hf, Bool.false_eq_true, if_false, Bool.not_true, cond_false, hput, happ]
    cases hy1 : findT ((1 : Int), r.e) yes.l 0 with
    | none => simp only [get_none hy1, Option.isSome, Bool.and_false, Bool.false_and, if_true]; rfl
    | some p1 =>
    simp only [get_some hy1, asAgg_U, len_U, all_U, cond_true, Option.isSome, Bool.and_true, Bool.true_and]
    simp only [Bool.true_eq_false, if_false]
    by_cases e1 : ep 1 = top
    rotate_left
    · simp only [eqF_f e1, decide_eq_false e1, Bool.not_false, cond_true, Bool.false_and, Bool.and_false, Bool.true_or, if_true]; rfl
    simp only [eqF_t e1, decide_eq_true e1, Bool.not_true, cond_false, Bool.and_true, Bool.true_and]
    by_cases gt : top < r.e
    · simp only [ltF_t gt, decide_eq_false (show ¬ r.e ≤ top by omega), Bool.not_true, cond_false, Bool.or_false, Bool.false_eq_true, if_false]; rfl
    · simp only [ltF_f gt, decide_eq_true (show r.e ≤ top by omega), Bool.not_false, cond_true, Bool.or_true, if_true]; rfl
  | some p =>
    obtain ⟨i, g0⟩ := p
    obtain ⟨b, hb⟩ := at_I evH hf
    have hput : ∀ v, images.put r.e v = ⟨modT i r.e v images.l, images.ck⟩ := fun v => put_some hf v
    have hmod : modE i (.int .i64 r.e) (.agg ⟨hashC r.h⟩) (entsL ekI evH images.l) = entsL ekI evH (modT i r.e r.h images.l) := mod_I evH r.e r.h images.l i
    simp only [Option.map, Option.elim, get_some hf, asAgg_H, len_H, all_H, ble_H, sub_H, feq_H, cond_true, Bool.not_true, cond_false, hput, hb, same_I', hmod]
    by_cases hh : hl g0 = hl r.h
    rotate_left
    · simp only [decide_eq_false hh, Bool.not_false, cond_true, if_true]; rfl
    simp only [decide_eq_true hh, Bool.not_true, cond_false, Bool.false_eq_true, if_false]
    cases hy1 : findT ((1 : Int), r.e) yes.l 0 with
    | none => simp only [get_none hy1, Option.isSome, Bool.and_false, Bool.false_and, if_true]; rfl
    | some p1 =>
    simp only [get_some hy1, asAgg_U, len_U, all_U, cond_true, Option.isSome, Bool.and_true, Bool.true_and]
    simp only [Bool.true_eq_false, if_false]
    by_cases et : r.e = top
    rotate_left
    · simp only [eqF_f et, decide_eq_false et, Bool.not_false, cond_true, if_true]; rfl
    simp only [eqF_t et, decide_eq_true et, Bool.not_true, cond_false, Bool.false_eq_true, if_false]
    rfl
set_option maxHeartbeats 1000000 in
theorem add_swap21 (led : TM Int Int) (log : List (Int × H)) (last : TM Int Int) (ep : Nat → Int) (top : Int) (images : TM Int H) (yes : TM (Int × Int) Unit) (word : TM Int Int) (answers : TM (Int × Int) (Int × Int × H)) (askers : TM Int (Int × Int)) (r : RowT) (hk : r.k = 3) (hw : r.w = 1) (he : ¬ r.e < 1) :
    addR obs8 r (msJ ⟨2, led, log, last, ep, top, images, yes, word, answers, askers⟩) = obsOf (swapJ ⟨2, led, log, last, ep, top, images, yes, word, answers, askers⟩ r) (logV 8 log) (logB log) := by
  unfold addR
  rw [hk, hw]
  refine Eq.trans (t_swap21 ..) ?_
  have ht : (1 : Int).toNat = 1 := rfl
  have hN : (2 : Int).toNat = 2 := rfl
  have hy : yesesJ ⟨2, led, log, last, ep, top, images, yes, word, answers, askers⟩ r.e 2 = (((true && (yes.get (1, r.e)).isSome) && (yes.get (2, r.e)).isSome)) := rfl
  have hev : evenJ ⟨2, led, log, last, ep, top, images, yes, word, answers, askers⟩ 2 = (((true && decide (ep 1 = top)) && decide (ep 2 = top))) := rfl
  simp only [ltF_f he, cond_false, find_I, find_P', swapJ, hw, ht, hN, hy, hev]
  by_cases g : r.e ≤ ep 1
  · rw [ltF_f (show ¬ ep 1 < r.e by omega), if_pos g]
    cases hf : findT r.e images.l 0 <;> rfl
  rw [ltF_t (show ep 1 < r.e by omega), if_neg g]
  cases hf : findT r.e images.l 0 with
  | none =>
    have hput : ∀ v, images.put r.e v = ⟨images.l ++ [(r.e, v, images.ck)], images.ck + 1⟩ := fun v => put_none hf v
    have happ : entsL ekI evH images.l ++ [{ key := .int .i64 r.e, val := .agg ⟨hashC r.h⟩, born := images.ck }] = entsL ekI evH (images.l ++ [(r.e, r.h, images.ck)]) := app_I evH r.e r.h images.l images.ck
    simp only [Option.map, Option.elim, get_none hf, Bool.false_eq_true, if_false, Bool.not_true, cond_false, hput, happ]
    cases hy1 : findT ((1 : Int), r.e) yes.l 0 with
    | none => simp only [get_none hy1, Option.isSome, Bool.and_false, Bool.false_and, if_true]; rfl
    | some p1 =>
    simp only [get_some hy1, asAgg_U, len_U, all_U, cond_true, Option.isSome, Bool.and_true, Bool.true_and]
    cases hy2 : findT ((2 : Int), r.e) yes.l 0 with
    | none => simp only [get_none hy2, Option.isSome, Bool.and_false, Bool.false_and, if_true]; rfl
    | some p2 =>
    simp only [get_some hy2, asAgg_U, len_U, all_U, cond_true, Option.isSome, Bool.and_true, Bool.true_and]
    simp only [Bool.true_eq_false, if_false]
    by_cases e1 : ep 1 = top
    rotate_left
    · simp only [eqF_f e1, decide_eq_false e1, Bool.not_false, cond_true, Bool.false_and, Bool.and_false, Bool.true_or, if_true]; rfl
    simp only [eqF_t e1, decide_eq_true e1, Bool.not_true, cond_false, Bool.and_true, Bool.true_and]
    by_cases e2 : ep 2 = top
    rotate_left
    · simp only [eqF_f e2, decide_eq_false e2, Bool.not_false, cond_true, Bool.false_and, Bool.and_false, Bool.true_or, if_true]; rfl
    simp only [eqF_t e2, decide_eq_true e2, Bool.not_true, cond_false, Bool.and_true, Bool.true_and]
    by_cases gt : top < r.e
    · simp only [ltF_t gt, decide_eq_false (show ¬ r.e ≤ top by omega), Bool.not_true, cond_false, Bool.or_false, Bool.false_eq_true, if_false]; rfl
    · simp only [ltF_f gt, decide_eq_true (show r.e ≤ top by omega), Bool.not_false, cond_true, Bool.or_true, if_true]; rfl
  | some p =>
    obtain ⟨i, g0⟩ := p
    obtain ⟨b, hb⟩ := at_I evH hf
    have hput : ∀ v, images.put r.e v = ⟨modT i r.e v images.l, images.ck⟩ := fun v => put_some hf v
    have hmod : modE i (.int .i64 r.e) (.agg ⟨hashC r.h⟩) (entsL ekI evH images.l) = entsL ekI evH (modT i r.e r.h images.l) := mod_I evH r.e r.h images.l i
    simp only [Option.map, Option.elim, get_some hf, asAgg_H, len_H, all_H, ble_H, sub_H, feq_H, cond_true, Bool.not_true, cond_false, hput, hb, same_I', hmod]
    by_cases hh : hl g0 = hl r.h
    rotate_left
    · simp only [decide_eq_false hh, Bool.not_false, cond_true, if_true]; rfl
    simp only [decide_eq_true hh, Bool.not_true, cond_false, Bool.false_eq_true, if_false]
    cases hy1 : findT ((1 : Int), r.e) yes.l 0 with
    | none => simp only [get_none hy1, Option.isSome, Bool.and_false, Bool.false_and, if_true]; rfl
    | some p1 =>
    simp only [get_some hy1, asAgg_U, len_U, all_U, cond_true, Option.isSome, Bool.and_true, Bool.true_and]
    cases hy2 : findT ((2 : Int), r.e) yes.l 0 with
    | none => simp only [get_none hy2, Option.isSome, Bool.and_false, Bool.false_and, if_true]; rfl
    | some p2 =>
    simp only [get_some hy2, asAgg_U, len_U, all_U, cond_true, Option.isSome, Bool.and_true, Bool.true_and]
    simp only [Bool.true_eq_false, if_false]
    by_cases et : r.e = top
    rotate_left
    · simp only [eqF_f et, decide_eq_false et, Bool.not_false, cond_true, if_true]; rfl
    simp only [eqF_t et, decide_eq_true et, Bool.not_true, cond_false, Bool.false_eq_true, if_false]
    rfl
set_option maxHeartbeats 1000000 in
theorem add_swap22 (led : TM Int Int) (log : List (Int × H)) (last : TM Int Int) (ep : Nat → Int) (top : Int) (images : TM Int H) (yes : TM (Int × Int) Unit) (word : TM Int Int) (answers : TM (Int × Int) (Int × Int × H)) (askers : TM Int (Int × Int)) (r : RowT) (hk : r.k = 3) (hw : r.w = 2) (he : ¬ r.e < 1) :
    addR obs8 r (msJ ⟨2, led, log, last, ep, top, images, yes, word, answers, askers⟩) = obsOf (swapJ ⟨2, led, log, last, ep, top, images, yes, word, answers, askers⟩ r) (logV 8 log) (logB log) := by
  unfold addR
  rw [hk, hw]
  refine Eq.trans (t_swap22 ..) ?_
  have ht : (2 : Int).toNat = 2 := rfl
  have hN : (2 : Int).toNat = 2 := rfl
  have hy : yesesJ ⟨2, led, log, last, ep, top, images, yes, word, answers, askers⟩ r.e 2 = (((true && (yes.get (1, r.e)).isSome) && (yes.get (2, r.e)).isSome)) := rfl
  have hev : evenJ ⟨2, led, log, last, ep, top, images, yes, word, answers, askers⟩ 2 = (((true && decide (ep 1 = top)) && decide (ep 2 = top))) := rfl
  simp only [ltF_f he, cond_false, find_I, find_P', swapJ, hw, ht, hN, hy, hev]
  by_cases g : r.e ≤ ep 2
  · rw [ltF_f (show ¬ ep 2 < r.e by omega), if_pos g]
    cases hf : findT r.e images.l 0 <;> rfl
  rw [ltF_t (show ep 2 < r.e by omega), if_neg g]
  cases hf : findT r.e images.l 0 with
  | none =>
    have hput : ∀ v, images.put r.e v = ⟨images.l ++ [(r.e, v, images.ck)], images.ck + 1⟩ := fun v => put_none hf v
    have happ : entsL ekI evH images.l ++ [{ key := .int .i64 r.e, val := .agg ⟨hashC r.h⟩, born := images.ck }] = entsL ekI evH (images.l ++ [(r.e, r.h, images.ck)]) := app_I evH r.e r.h images.l images.ck
    simp only [Option.map, Option.elim, get_none hf, Bool.false_eq_true, if_false, Bool.not_true, cond_false, hput, happ]
    cases hy1 : findT ((1 : Int), r.e) yes.l 0 with
    | none => simp only [get_none hy1, Option.isSome, Bool.and_false, Bool.false_and, if_true]; rfl
    | some p1 =>
    simp only [get_some hy1, asAgg_U, len_U, all_U, cond_true, Option.isSome, Bool.and_true, Bool.true_and]
    cases hy2 : findT ((2 : Int), r.e) yes.l 0 with
    | none => simp only [get_none hy2, Option.isSome, Bool.and_false, Bool.false_and, if_true]; rfl
    | some p2 =>
    simp only [get_some hy2, asAgg_U, len_U, all_U, cond_true, Option.isSome, Bool.and_true, Bool.true_and]
    simp only [Bool.true_eq_false, if_false]
    by_cases e1 : ep 1 = top
    rotate_left
    · simp only [eqF_f e1, decide_eq_false e1, Bool.not_false, cond_true, Bool.false_and, Bool.and_false, Bool.true_or, if_true]; rfl
    simp only [eqF_t e1, decide_eq_true e1, Bool.not_true, cond_false, Bool.and_true, Bool.true_and]
    by_cases e2 : ep 2 = top
    rotate_left
    · simp only [eqF_f e2, decide_eq_false e2, Bool.not_false, cond_true, Bool.false_and, Bool.and_false, Bool.true_or, if_true]; rfl
    simp only [eqF_t e2, decide_eq_true e2, Bool.not_true, cond_false, Bool.and_true, Bool.true_and]
    by_cases gt : top < r.e
    · simp only [ltF_t gt, decide_eq_false (show ¬ r.e ≤ top by omega), Bool.not_true, cond_false, Bool.or_false, Bool.false_eq_true, if_false]; rfl
    · simp only [ltF_f gt, decide_eq_true (show r.e ≤ top by omega), Bool.not_false, cond_true, Bool.or_true, if_true]; rfl
  | some p =>
    obtain ⟨i, g0⟩ := p
    obtain ⟨b, hb⟩ := at_I evH hf
    have hput : ∀ v, images.put r.e v = ⟨modT i r.e v images.l, images.ck⟩ := fun v => put_some hf v
    have hmod : modE i (.int .i64 r.e) (.agg ⟨hashC r.h⟩) (entsL ekI evH images.l) = entsL ekI evH (modT i r.e r.h images.l) := mod_I evH r.e r.h images.l i
    simp only [Option.map, Option.elim, get_some hf, asAgg_H, len_H, all_H, ble_H, sub_H, feq_H, cond_true, Bool.not_true, cond_false, hput, hb, same_I', hmod]
    by_cases hh : hl g0 = hl r.h
    rotate_left
    · simp only [decide_eq_false hh, Bool.not_false, cond_true, if_true]; rfl
    simp only [decide_eq_true hh, Bool.not_true, cond_false, Bool.false_eq_true, if_false]
    cases hy1 : findT ((1 : Int), r.e) yes.l 0 with
    | none => simp only [get_none hy1, Option.isSome, Bool.and_false, Bool.false_and, if_true]; rfl
    | some p1 =>
    simp only [get_some hy1, asAgg_U, len_U, all_U, cond_true, Option.isSome, Bool.and_true, Bool.true_and]
    cases hy2 : findT ((2 : Int), r.e) yes.l 0 with
    | none => simp only [get_none hy2, Option.isSome, Bool.and_false, Bool.false_and, if_true]; rfl
    | some p2 =>
    simp only [get_some hy2, asAgg_U, len_U, all_U, cond_true, Option.isSome, Bool.and_true, Bool.true_and]
    simp only [Bool.true_eq_false, if_false]
    by_cases et : r.e = top
    rotate_left
    · simp only [eqF_f et, decide_eq_false et, Bool.not_false, cond_true, if_true]; rfl
    simp only [eqF_t et, decide_eq_true et, Bool.not_true, cond_false, Bool.false_eq_true, if_false]
    rfl
set_option maxHeartbeats 1000000 in
theorem add_swap31 (led : TM Int Int) (log : List (Int × H)) (last : TM Int Int) (ep : Nat → Int) (top : Int) (images : TM Int H) (yes : TM (Int × Int) Unit) (word : TM Int Int) (answers : TM (Int × Int) (Int × Int × H)) (askers : TM Int (Int × Int)) (r : RowT) (hk : r.k = 3) (hw : r.w = 1) (he : ¬ r.e < 1) :
    addR obs8 r (msJ ⟨3, led, log, last, ep, top, images, yes, word, answers, askers⟩) = obsOf (swapJ ⟨3, led, log, last, ep, top, images, yes, word, answers, askers⟩ r) (logV 8 log) (logB log) := by
  unfold addR
  rw [hk, hw]
  refine Eq.trans (t_swap31 ..) ?_
  have ht : (1 : Int).toNat = 1 := rfl
  have hN : (3 : Int).toNat = 3 := rfl
  have hy : yesesJ ⟨3, led, log, last, ep, top, images, yes, word, answers, askers⟩ r.e 3 = ((((true && (yes.get (1, r.e)).isSome) && (yes.get (2, r.e)).isSome) && (yes.get (3, r.e)).isSome)) := rfl
  have hev : evenJ ⟨3, led, log, last, ep, top, images, yes, word, answers, askers⟩ 3 = ((((true && decide (ep 1 = top)) && decide (ep 2 = top)) && decide (ep 3 = top))) := rfl
  simp only [ltF_f he, cond_false, find_I, find_P', swapJ, hw, ht, hN, hy, hev]
  by_cases g : r.e ≤ ep 1
  · rw [ltF_f (show ¬ ep 1 < r.e by omega), if_pos g]
    cases hf : findT r.e images.l 0 <;> rfl
  rw [ltF_t (show ep 1 < r.e by omega), if_neg g]
  cases hf : findT r.e images.l 0 with
  | none =>
    have hput : ∀ v, images.put r.e v = ⟨images.l ++ [(r.e, v, images.ck)], images.ck + 1⟩ := fun v => put_none hf v
    have happ : entsL ekI evH images.l ++ [{ key := .int .i64 r.e, val := .agg ⟨hashC r.h⟩, born := images.ck }] = entsL ekI evH (images.l ++ [(r.e, r.h, images.ck)]) := app_I evH r.e r.h images.l images.ck
    simp only [Option.map, Option.elim, get_none hf, Bool.false_eq_true, if_false, Bool.not_true, cond_false, hput, happ]
    cases hy1 : findT ((1 : Int), r.e) yes.l 0 with
    | none => simp only [get_none hy1, Option.isSome, Bool.and_false, Bool.false_and, if_true]; rfl
    | some p1 =>
    simp only [get_some hy1, asAgg_U, len_U, all_U, cond_true, Option.isSome, Bool.and_true, Bool.true_and]
    cases hy2 : findT ((2 : Int), r.e) yes.l 0 with
    | none => simp only [get_none hy2, Option.isSome, Bool.and_false, Bool.false_and, if_true]; rfl
    | some p2 =>
    simp only [get_some hy2, asAgg_U, len_U, all_U, cond_true, Option.isSome, Bool.and_true, Bool.true_and]
    cases hy3 : findT ((3 : Int), r.e) yes.l 0 with
    | none => simp only [get_none hy3, Option.isSome, Bool.and_false, Bool.false_and, if_true]; rfl
    | some p3 =>
    simp only [get_some hy3, asAgg_U, len_U, all_U, cond_true, Option.isSome, Bool.and_true, Bool.true_and]
    simp only [Bool.true_eq_false, if_false]
    by_cases e1 : ep 1 = top
    rotate_left
    · simp only [eqF_f e1, decide_eq_false e1, Bool.not_false, cond_true, Bool.false_and, Bool.and_false, Bool.true_or, if_true]; rfl
    simp only [eqF_t e1, decide_eq_true e1, Bool.not_true, cond_false, Bool.and_true, Bool.true_and]
    by_cases e2 : ep 2 = top
    rotate_left
    · simp only [eqF_f e2, decide_eq_false e2, Bool.not_false, cond_true, Bool.false_and, Bool.and_false, Bool.true_or, if_true]; rfl
    simp only [eqF_t e2, decide_eq_true e2, Bool.not_true, cond_false, Bool.and_true, Bool.true_and]
    by_cases e3 : ep 3 = top
    rotate_left
    · simp only [eqF_f e3, decide_eq_false e3, Bool.not_false, cond_true, Bool.false_and, Bool.and_false, Bool.true_or, if_true]; rfl
    simp only [eqF_t e3, decide_eq_true e3, Bool.not_true, cond_false, Bool.and_true, Bool.true_and]
    by_cases gt : top < r.e
    · simp only [ltF_t gt, decide_eq_false (show ¬ r.e ≤ top by omega), Bool.not_true, cond_false, Bool.or_false, Bool.false_eq_true, if_false]; rfl
    · simp only [ltF_f gt, decide_eq_true (show r.e ≤ top by omega), Bool.not_false, cond_true, Bool.or_true, if_true]; rfl
  | some p =>
    obtain ⟨i, g0⟩ := p
    obtain ⟨b, hb⟩ := at_I evH hf
    have hput : ∀ v, images.put r.e v = ⟨modT i r.e v images.l, images.ck⟩ := fun v => put_some hf v
    have hmod : modE i (.int .i64 r.e) (.agg ⟨hashC r.h⟩) (entsL ekI evH images.l) = entsL ekI evH (modT i r.e r.h images.l) := mod_I evH r.e r.h images.l i
    simp only [Option.map, Option.elim, get_some hf, asAgg_H, len_H, all_H, ble_H, sub_H, feq_H, cond_true, Bool.not_true, cond_false, hput, hb, same_I', hmod]
    by_cases hh : hl g0 = hl r.h
    rotate_left
    · simp only [decide_eq_false hh, Bool.not_false, cond_true, if_true]; rfl
    simp only [decide_eq_true hh, Bool.not_true, cond_false, Bool.false_eq_true, if_false]
    cases hy1 : findT ((1 : Int), r.e) yes.l 0 with
    | none => simp only [get_none hy1, Option.isSome, Bool.and_false, Bool.false_and, if_true]; rfl
    | some p1 =>
    simp only [get_some hy1, asAgg_U, len_U, all_U, cond_true, Option.isSome, Bool.and_true, Bool.true_and]
    cases hy2 : findT ((2 : Int), r.e) yes.l 0 with
    | none => simp only [get_none hy2, Option.isSome, Bool.and_false, Bool.false_and, if_true]; rfl
    | some p2 =>
    simp only [get_some hy2, asAgg_U, len_U, all_U, cond_true, Option.isSome, Bool.and_true, Bool.true_and]
    cases hy3 : findT ((3 : Int), r.e) yes.l 0 with
    | none => simp only [get_none hy3, Option.isSome, Bool.and_false, Bool.false_and, if_true]; rfl
    | some p3 =>
    simp only [get_some hy3, asAgg_U, len_U, all_U, cond_true, Option.isSome, Bool.and_true, Bool.true_and]
    simp only [Bool.true_eq_false, if_false]
    by_cases et : r.e = top
    rotate_left
    · simp only [eqF_f et, decide_eq_false et, Bool.not_false, cond_true, if_true]; rfl
    simp only [eqF_t et, decide_eq_true et, Bool.not_true, cond_false, Bool.false_eq_true, if_false]
    rfl
set_option maxHeartbeats 1000000 in
theorem add_swap32 (led : TM Int Int) (log : List (Int × H)) (last : TM Int Int) (ep : Nat → Int) (top : Int) (images : TM Int H) (yes : TM (Int × Int) Unit) (word : TM Int Int) (answers : TM (Int × Int) (Int × Int × H)) (askers : TM Int (Int × Int)) (r : RowT) (hk : r.k = 3) (hw : r.w = 2) (he : ¬ r.e < 1) :
    addR obs8 r (msJ ⟨3, led, log, last, ep, top, images, yes, word, answers, askers⟩) = obsOf (swapJ ⟨3, led, log, last, ep, top, images, yes, word, answers, askers⟩ r) (logV 8 log) (logB log) := by
  unfold addR
  rw [hk, hw]
  refine Eq.trans (t_swap32 ..) ?_
  have ht : (2 : Int).toNat = 2 := rfl
  have hN : (3 : Int).toNat = 3 := rfl
  have hy : yesesJ ⟨3, led, log, last, ep, top, images, yes, word, answers, askers⟩ r.e 3 = ((((true && (yes.get (1, r.e)).isSome) && (yes.get (2, r.e)).isSome) && (yes.get (3, r.e)).isSome)) := rfl
  have hev : evenJ ⟨3, led, log, last, ep, top, images, yes, word, answers, askers⟩ 3 = ((((true && decide (ep 1 = top)) && decide (ep 2 = top)) && decide (ep 3 = top))) := rfl
  simp only [ltF_f he, cond_false, find_I, find_P', swapJ, hw, ht, hN, hy, hev]
  by_cases g : r.e ≤ ep 2
  · rw [ltF_f (show ¬ ep 2 < r.e by omega), if_pos g]
    cases hf : findT r.e images.l 0 <;> rfl
  rw [ltF_t (show ep 2 < r.e by omega), if_neg g]
  cases hf : findT r.e images.l 0 with
  | none =>
    have hput : ∀ v, images.put r.e v = ⟨images.l ++ [(r.e, v, images.ck)], images.ck + 1⟩ := fun v => put_none hf v
    have happ : entsL ekI evH images.l ++ [{ key := .int .i64 r.e, val := .agg ⟨hashC r.h⟩, born := images.ck }] = entsL ekI evH (images.l ++ [(r.e, r.h, images.ck)]) := app_I evH r.e r.h images.l images.ck
    simp only [Option.map, Option.elim, get_none hf, Bool.false_eq_true, if_false, Bool.not_true, cond_false, hput, happ]
    cases hy1 : findT ((1 : Int), r.e) yes.l 0 with
    | none => simp only [get_none hy1, Option.isSome, Bool.and_false, Bool.false_and, if_true]; rfl
    | some p1 =>
    simp only [get_some hy1, asAgg_U, len_U, all_U, cond_true, Option.isSome, Bool.and_true, Bool.true_and]
    cases hy2 : findT ((2 : Int), r.e) yes.l 0 with
    | none => simp only [get_none hy2, Option.isSome, Bool.and_false, Bool.false_and, if_true]; rfl
    | some p2 =>
    simp only [get_some hy2, asAgg_U, len_U, all_U, cond_true, Option.isSome, Bool.and_true, Bool.true_and]
    cases hy3 : findT ((3 : Int), r.e) yes.l 0 with
    | none => simp only [get_none hy3, Option.isSome, Bool.and_false, Bool.false_and, if_true]; rfl
    | some p3 =>
    simp only [get_some hy3, asAgg_U, len_U, all_U, cond_true, Option.isSome, Bool.and_true, Bool.true_and]
    simp only [Bool.true_eq_false, if_false]
    by_cases e1 : ep 1 = top
    rotate_left
    · simp only [eqF_f e1, decide_eq_false e1, Bool.not_false, cond_true, Bool.false_and, Bool.and_false, Bool.true_or, if_true]; rfl
    simp only [eqF_t e1, decide_eq_true e1, Bool.not_true, cond_false, Bool.and_true, Bool.true_and]
    by_cases e2 : ep 2 = top
    rotate_left
    · simp only [eqF_f e2, decide_eq_false e2, Bool.not_false, cond_true, Bool.false_and, Bool.and_false, Bool.true_or, if_true]; rfl
    simp only [eqF_t e2, decide_eq_true e2, Bool.not_true, cond_false, Bool.and_true, Bool.true_and]
    by_cases e3 : ep 3 = top
    rotate_left
    · simp only [eqF_f e3, decide_eq_false e3, Bool.not_false, cond_true, Bool.false_and, Bool.and_false, Bool.true_or, if_true]; rfl
    simp only [eqF_t e3, decide_eq_true e3, Bool.not_true, cond_false, Bool.and_true, Bool.true_and]
    by_cases gt : top < r.e
    · simp only [ltF_t gt, decide_eq_false (show ¬ r.e ≤ top by omega), Bool.not_true, cond_false, Bool.or_false, Bool.false_eq_true, if_false]; rfl
    · simp only [ltF_f gt, decide_eq_true (show r.e ≤ top by omega), Bool.not_false, cond_true, Bool.or_true, if_true]; rfl
  | some p =>
    obtain ⟨i, g0⟩ := p
    obtain ⟨b, hb⟩ := at_I evH hf
    have hput : ∀ v, images.put r.e v = ⟨modT i r.e v images.l, images.ck⟩ := fun v => put_some hf v
    have hmod : modE i (.int .i64 r.e) (.agg ⟨hashC r.h⟩) (entsL ekI evH images.l) = entsL ekI evH (modT i r.e r.h images.l) := mod_I evH r.e r.h images.l i
    simp only [Option.map, Option.elim, get_some hf, asAgg_H, len_H, all_H, ble_H, sub_H, feq_H, cond_true, Bool.not_true, cond_false, hput, hb, same_I', hmod]
    by_cases hh : hl g0 = hl r.h
    rotate_left
    · simp only [decide_eq_false hh, Bool.not_false, cond_true, if_true]; rfl
    simp only [decide_eq_true hh, Bool.not_true, cond_false, Bool.false_eq_true, if_false]
    cases hy1 : findT ((1 : Int), r.e) yes.l 0 with
    | none => simp only [get_none hy1, Option.isSome, Bool.and_false, Bool.false_and, if_true]; rfl
    | some p1 =>
    simp only [get_some hy1, asAgg_U, len_U, all_U, cond_true, Option.isSome, Bool.and_true, Bool.true_and]
    cases hy2 : findT ((2 : Int), r.e) yes.l 0 with
    | none => simp only [get_none hy2, Option.isSome, Bool.and_false, Bool.false_and, if_true]; rfl
    | some p2 =>
    simp only [get_some hy2, asAgg_U, len_U, all_U, cond_true, Option.isSome, Bool.and_true, Bool.true_and]
    cases hy3 : findT ((3 : Int), r.e) yes.l 0 with
    | none => simp only [get_none hy3, Option.isSome, Bool.and_false, Bool.false_and, if_true]; rfl
    | some p3 =>
    simp only [get_some hy3, asAgg_U, len_U, all_U, cond_true, Option.isSome, Bool.and_true, Bool.true_and]
    simp only [Bool.true_eq_false, if_false]
    by_cases et : r.e = top
    rotate_left
    · simp only [eqF_f et, decide_eq_false et, Bool.not_false, cond_true, if_true]; rfl
    simp only [eqF_t et, decide_eq_true et, Bool.not_true, cond_false, Bool.false_eq_true, if_false]
    rfl
set_option maxHeartbeats 1000000 in
theorem add_swap33 (led : TM Int Int) (log : List (Int × H)) (last : TM Int Int) (ep : Nat → Int) (top : Int) (images : TM Int H) (yes : TM (Int × Int) Unit) (word : TM Int Int) (answers : TM (Int × Int) (Int × Int × H)) (askers : TM Int (Int × Int)) (r : RowT) (hk : r.k = 3) (hw : r.w = 3) (he : ¬ r.e < 1) :
    addR obs8 r (msJ ⟨3, led, log, last, ep, top, images, yes, word, answers, askers⟩) = obsOf (swapJ ⟨3, led, log, last, ep, top, images, yes, word, answers, askers⟩ r) (logV 8 log) (logB log) := by
  unfold addR
  rw [hk, hw]
  refine Eq.trans (t_swap33 ..) ?_
  have ht : (3 : Int).toNat = 3 := rfl
  have hN : (3 : Int).toNat = 3 := rfl
  have hy : yesesJ ⟨3, led, log, last, ep, top, images, yes, word, answers, askers⟩ r.e 3 = ((((true && (yes.get (1, r.e)).isSome) && (yes.get (2, r.e)).isSome) && (yes.get (3, r.e)).isSome)) := rfl
  have hev : evenJ ⟨3, led, log, last, ep, top, images, yes, word, answers, askers⟩ 3 = ((((true && decide (ep 1 = top)) && decide (ep 2 = top)) && decide (ep 3 = top))) := rfl
  simp only [ltF_f he, cond_false, find_I, find_P', swapJ, hw, ht, hN, hy, hev]
  by_cases g : r.e ≤ ep 3
  · rw [ltF_f (show ¬ ep 3 < r.e by omega), if_pos g]
    cases hf : findT r.e images.l 0 <;> rfl
  rw [ltF_t (show ep 3 < r.e by omega), if_neg g]
  cases hf : findT r.e images.l 0 with
  | none =>
    have hput : ∀ v, images.put r.e v = ⟨images.l ++ [(r.e, v, images.ck)], images.ck + 1⟩ := fun v => put_none hf v
    have happ : entsL ekI evH images.l ++ [{ key := .int .i64 r.e, val := .agg ⟨hashC r.h⟩, born := images.ck }] = entsL ekI evH (images.l ++ [(r.e, r.h, images.ck)]) := app_I evH r.e r.h images.l images.ck
    simp only [Option.map, Option.elim, get_none hf, Bool.false_eq_true, if_false, Bool.not_true, cond_false, hput, happ]
    cases hy1 : findT ((1 : Int), r.e) yes.l 0 with
    | none => simp only [get_none hy1, Option.isSome, Bool.and_false, Bool.false_and, if_true]; rfl
    | some p1 =>
    simp only [get_some hy1, asAgg_U, len_U, all_U, cond_true, Option.isSome, Bool.and_true, Bool.true_and]
    cases hy2 : findT ((2 : Int), r.e) yes.l 0 with
    | none => simp only [get_none hy2, Option.isSome, Bool.and_false, Bool.false_and, if_true]; rfl
    | some p2 =>
    simp only [get_some hy2, asAgg_U, len_U, all_U, cond_true, Option.isSome, Bool.and_true, Bool.true_and]
    cases hy3 : findT ((3 : Int), r.e) yes.l 0 with
    | none => simp only [get_none hy3, Option.isSome, Bool.and_false, Bool.false_and, if_true]; rfl
    | some p3 =>
    simp only [get_some hy3, asAgg_U, len_U, all_U, cond_true, Option.isSome, Bool.and_true, Bool.true_and]
    simp only [Bool.true_eq_false, if_false]
    by_cases e1 : ep 1 = top
    rotate_left
    · simp only [eqF_f e1, decide_eq_false e1, Bool.not_false, cond_true, Bool.false_and, Bool.and_false, Bool.true_or, if_true]; rfl
    simp only [eqF_t e1, decide_eq_true e1, Bool.not_true, cond_false, Bool.and_true, Bool.true_and]
    by_cases e2 : ep 2 = top
    rotate_left
    · simp only [eqF_f e2, decide_eq_false e2, Bool.not_false, cond_true, Bool.false_and, Bool.and_false, Bool.true_or, if_true]; rfl
    simp only [eqF_t e2, decide_eq_true e2, Bool.not_true, cond_false, Bool.and_true, Bool.true_and]
    by_cases e3 : ep 3 = top
    rotate_left
    · simp only [eqF_f e3, decide_eq_false e3, Bool.not_false, cond_true, Bool.false_and, Bool.and_false, Bool.true_or, if_true]; rfl
    simp only [eqF_t e3, decide_eq_true e3, Bool.not_true, cond_false, Bool.and_true, Bool.true_and]
    by_cases gt : top < r.e
    · simp only [ltF_t gt, decide_eq_false (show ¬ r.e ≤ top by omega), Bool.not_true, cond_false, Bool.or_false, Bool.false_eq_true, if_false]; rfl
    · simp only [ltF_f gt, decide_eq_true (show r.e ≤ top by omega), Bool.not_false, cond_true, Bool.or_true, if_true]; rfl
  | some p =>
    obtain ⟨i, g0⟩ := p
    obtain ⟨b, hb⟩ := at_I evH hf
    have hput : ∀ v, images.put r.e v = ⟨modT i r.e v images.l, images.ck⟩ := fun v => put_some hf v
    have hmod : modE i (.int .i64 r.e) (.agg ⟨hashC r.h⟩) (entsL ekI evH images.l) = entsL ekI evH (modT i r.e r.h images.l) := mod_I evH r.e r.h images.l i
    simp only [Option.map, Option.elim, get_some hf, asAgg_H, len_H, all_H, ble_H, sub_H, feq_H, cond_true, Bool.not_true, cond_false, hput, hb, same_I', hmod]
    by_cases hh : hl g0 = hl r.h
    rotate_left
    · simp only [decide_eq_false hh, Bool.not_false, cond_true, if_true]; rfl
    simp only [decide_eq_true hh, Bool.not_true, cond_false, Bool.false_eq_true, if_false]
    cases hy1 : findT ((1 : Int), r.e) yes.l 0 with
    | none => simp only [get_none hy1, Option.isSome, Bool.and_false, Bool.false_and, if_true]; rfl
    | some p1 =>
    simp only [get_some hy1, asAgg_U, len_U, all_U, cond_true, Option.isSome, Bool.and_true, Bool.true_and]
    cases hy2 : findT ((2 : Int), r.e) yes.l 0 with
    | none => simp only [get_none hy2, Option.isSome, Bool.and_false, Bool.false_and, if_true]; rfl
    | some p2 =>
    simp only [get_some hy2, asAgg_U, len_U, all_U, cond_true, Option.isSome, Bool.and_true, Bool.true_and]
    cases hy3 : findT ((3 : Int), r.e) yes.l 0 with
    | none => simp only [get_none hy3, Option.isSome, Bool.and_false, Bool.false_and, if_true]; rfl
    | some p3 =>
    simp only [get_some hy3, asAgg_U, len_U, all_U, cond_true, Option.isSome, Bool.and_true, Bool.true_and]
    simp only [Bool.true_eq_false, if_false]
    by_cases et : r.e = top
    rotate_left
    · simp only [eqF_f et, decide_eq_false et, Bool.not_false, cond_true, if_true]; rfl
    simp only [eqF_t et, decide_eq_true et, Bool.not_true, cond_false, Bool.false_eq_true, if_false]
    rfl
set_option maxHeartbeats 1000000 in
theorem add_swap41 (led : TM Int Int) (log : List (Int × H)) (last : TM Int Int) (ep : Nat → Int) (top : Int) (images : TM Int H) (yes : TM (Int × Int) Unit) (word : TM Int Int) (answers : TM (Int × Int) (Int × Int × H)) (askers : TM Int (Int × Int)) (r : RowT) (hk : r.k = 3) (hw : r.w = 1) (he : ¬ r.e < 1) :
    addR obs8 r (msJ ⟨4, led, log, last, ep, top, images, yes, word, answers, askers⟩) = obsOf (swapJ ⟨4, led, log, last, ep, top, images, yes, word, answers, askers⟩ r) (logV 8 log) (logB log) := by
  unfold addR
  rw [hk, hw]
  refine Eq.trans (t_swap41 ..) ?_
  have ht : (1 : Int).toNat = 1 := rfl
  have hN : (4 : Int).toNat = 4 := rfl
  have hy : yesesJ ⟨4, led, log, last, ep, top, images, yes, word, answers, askers⟩ r.e 4 = (((((true && (yes.get (1, r.e)).isSome) && (yes.get (2, r.e)).isSome) && (yes.get (3, r.e)).isSome) && (yes.get (4, r.e)).isSome)) := rfl
  have hev : evenJ ⟨4, led, log, last, ep, top, images, yes, word, answers, askers⟩ 4 = (((((true && decide (ep 1 = top)) && decide (ep 2 = top)) && decide (ep 3 = top)) && decide (ep 4 = top))) := rfl
  simp only [ltF_f he, cond_false, find_I, find_P', swapJ, hw, ht, hN, hy, hev]
  by_cases g : r.e ≤ ep 1
  · rw [ltF_f (show ¬ ep 1 < r.e by omega), if_pos g]
    cases hf : findT r.e images.l 0 <;> rfl
  rw [ltF_t (show ep 1 < r.e by omega), if_neg g]
  cases hf : findT r.e images.l 0 with
  | none =>
    have hput : ∀ v, images.put r.e v = ⟨images.l ++ [(r.e, v, images.ck)], images.ck + 1⟩ := fun v => put_none hf v
    have happ : entsL ekI evH images.l ++ [{ key := .int .i64 r.e, val := .agg ⟨hashC r.h⟩, born := images.ck }] = entsL ekI evH (images.l ++ [(r.e, r.h, images.ck)]) := app_I evH r.e r.h images.l images.ck
    simp only [Option.map, Option.elim, get_none hf, Bool.false_eq_true, if_false, Bool.not_true, cond_false, hput, happ]
    cases hy1 : findT ((1 : Int), r.e) yes.l 0 with
    | none => simp only [get_none hy1, Option.isSome, Bool.and_false, Bool.false_and, if_true]; rfl
    | some p1 =>
    simp only [get_some hy1, asAgg_U, len_U, all_U, cond_true, Option.isSome, Bool.and_true, Bool.true_and]
    cases hy2 : findT ((2 : Int), r.e) yes.l 0 with
    | none => simp only [get_none hy2, Option.isSome, Bool.and_false, Bool.false_and, if_true]; rfl
    | some p2 =>
    simp only [get_some hy2, asAgg_U, len_U, all_U, cond_true, Option.isSome, Bool.and_true, Bool.true_and]
    cases hy3 : findT ((3 : Int), r.e) yes.l 0 with
    | none => simp only [get_none hy3, Option.isSome, Bool.and_false, Bool.false_and, if_true]; rfl
    | some p3 =>
    simp only [get_some hy3, asAgg_U, len_U, all_U, cond_true, Option.isSome, Bool.and_true, Bool.true_and]
    cases hy4 : findT ((4 : Int), r.e) yes.l 0 with
    | none => simp only [get_none hy4, Option.isSome, Bool.and_false, Bool.false_and, if_true]; rfl
    | some p4 =>
    simp only [get_some hy4, asAgg_U, len_U, all_U, cond_true, Option.isSome, Bool.and_true, Bool.true_and]
    simp only [Bool.true_eq_false, if_false]
    by_cases e1 : ep 1 = top
    rotate_left
    · simp only [eqF_f e1, decide_eq_false e1, Bool.not_false, cond_true, Bool.false_and, Bool.and_false, Bool.true_or, if_true]; rfl
    simp only [eqF_t e1, decide_eq_true e1, Bool.not_true, cond_false, Bool.and_true, Bool.true_and]
    by_cases e2 : ep 2 = top
    rotate_left
    · simp only [eqF_f e2, decide_eq_false e2, Bool.not_false, cond_true, Bool.false_and, Bool.and_false, Bool.true_or, if_true]; rfl
    simp only [eqF_t e2, decide_eq_true e2, Bool.not_true, cond_false, Bool.and_true, Bool.true_and]
    by_cases e3 : ep 3 = top
    rotate_left
    · simp only [eqF_f e3, decide_eq_false e3, Bool.not_false, cond_true, Bool.false_and, Bool.and_false, Bool.true_or, if_true]; rfl
    simp only [eqF_t e3, decide_eq_true e3, Bool.not_true, cond_false, Bool.and_true, Bool.true_and]
    by_cases e4 : ep 4 = top
    rotate_left
    · simp only [eqF_f e4, decide_eq_false e4, Bool.not_false, cond_true, Bool.false_and, Bool.and_false, Bool.true_or, if_true]; rfl
    simp only [eqF_t e4, decide_eq_true e4, Bool.not_true, cond_false, Bool.and_true, Bool.true_and]
    by_cases gt : top < r.e
    · simp only [ltF_t gt, decide_eq_false (show ¬ r.e ≤ top by omega), Bool.not_true, cond_false, Bool.or_false, Bool.false_eq_true, if_false]; rfl
    · simp only [ltF_f gt, decide_eq_true (show r.e ≤ top by omega), Bool.not_false, cond_true, Bool.or_true, if_true]; rfl
  | some p =>
    obtain ⟨i, g0⟩ := p
    obtain ⟨b, hb⟩ := at_I evH hf
    have hput : ∀ v, images.put r.e v = ⟨modT i r.e v images.l, images.ck⟩ := fun v => put_some hf v
    have hmod : modE i (.int .i64 r.e) (.agg ⟨hashC r.h⟩) (entsL ekI evH images.l) = entsL ekI evH (modT i r.e r.h images.l) := mod_I evH r.e r.h images.l i
    simp only [Option.map, Option.elim, get_some hf, asAgg_H, len_H, all_H, ble_H, sub_H, feq_H, cond_true, Bool.not_true, cond_false, hput, hb, same_I', hmod]
    by_cases hh : hl g0 = hl r.h
    rotate_left
    · simp only [decide_eq_false hh, Bool.not_false, cond_true, if_true]; rfl
    simp only [decide_eq_true hh, Bool.not_true, cond_false, Bool.false_eq_true, if_false]
    cases hy1 : findT ((1 : Int), r.e) yes.l 0 with
    | none => simp only [get_none hy1, Option.isSome, Bool.and_false, Bool.false_and, if_true]; rfl
    | some p1 =>
    simp only [get_some hy1, asAgg_U, len_U, all_U, cond_true, Option.isSome, Bool.and_true, Bool.true_and]
    cases hy2 : findT ((2 : Int), r.e) yes.l 0 with
    | none => simp only [get_none hy2, Option.isSome, Bool.and_false, Bool.false_and, if_true]; rfl
    | some p2 =>
    simp only [get_some hy2, asAgg_U, len_U, all_U, cond_true, Option.isSome, Bool.and_true, Bool.true_and]
    cases hy3 : findT ((3 : Int), r.e) yes.l 0 with
    | none => simp only [get_none hy3, Option.isSome, Bool.and_false, Bool.false_and, if_true]; rfl
    | some p3 =>
    simp only [get_some hy3, asAgg_U, len_U, all_U, cond_true, Option.isSome, Bool.and_true, Bool.true_and]
    cases hy4 : findT ((4 : Int), r.e) yes.l 0 with
    | none => simp only [get_none hy4, Option.isSome, Bool.and_false, Bool.false_and, if_true]; rfl
    | some p4 =>
    simp only [get_some hy4, asAgg_U, len_U, all_U, cond_true, Option.isSome, Bool.and_true, Bool.true_and]
    simp only [Bool.true_eq_false, if_false]
    by_cases et : r.e = top
    rotate_left
    · simp only [eqF_f et, decide_eq_false et, Bool.not_false, cond_true, if_true]; rfl
    simp only [eqF_t et, decide_eq_true et, Bool.not_true, cond_false, Bool.false_eq_true, if_false]
    rfl
set_option maxHeartbeats 1000000 in
theorem add_swap42 (led : TM Int Int) (log : List (Int × H)) (last : TM Int Int) (ep : Nat → Int) (top : Int) (images : TM Int H) (yes : TM (Int × Int) Unit) (word : TM Int Int) (answers : TM (Int × Int) (Int × Int × H)) (askers : TM Int (Int × Int)) (r : RowT) (hk : r.k = 3) (hw : r.w = 2) (he : ¬ r.e < 1) :
    addR obs8 r (msJ ⟨4, led, log, last, ep, top, images, yes, word, answers, askers⟩) = obsOf (swapJ ⟨4, led, log, last, ep, top, images, yes, word, answers, askers⟩ r) (logV 8 log) (logB log) := by
  unfold addR
  rw [hk, hw]
  refine Eq.trans (t_swap42 ..) ?_
  have ht : (2 : Int).toNat = 2 := rfl
  have hN : (4 : Int).toNat = 4 := rfl
  have hy : yesesJ ⟨4, led, log, last, ep, top, images, yes, word, answers, askers⟩ r.e 4 = (((((true && (yes.get (1, r.e)).isSome) && (yes.get (2, r.e)).isSome) && (yes.get (3, r.e)).isSome) && (yes.get (4, r.e)).isSome)) := rfl
  have hev : evenJ ⟨4, led, log, last, ep, top, images, yes, word, answers, askers⟩ 4 = (((((true && decide (ep 1 = top)) && decide (ep 2 = top)) && decide (ep 3 = top)) && decide (ep 4 = top))) := rfl
  simp only [ltF_f he, cond_false, find_I, find_P', swapJ, hw, ht, hN, hy, hev]
  by_cases g : r.e ≤ ep 2
  · rw [ltF_f (show ¬ ep 2 < r.e by omega), if_pos g]
    cases hf : findT r.e images.l 0 <;> rfl
  rw [ltF_t (show ep 2 < r.e by omega), if_neg g]
  cases hf : findT r.e images.l 0 with
  | none =>
    have hput : ∀ v, images.put r.e v = ⟨images.l ++ [(r.e, v, images.ck)], images.ck + 1⟩ := fun v => put_none hf v
    have happ : entsL ekI evH images.l ++ [{ key := .int .i64 r.e, val := .agg ⟨hashC r.h⟩, born := images.ck }] = entsL ekI evH (images.l ++ [(r.e, r.h, images.ck)]) := app_I evH r.e r.h images.l images.ck
    simp only [Option.map, Option.elim, get_none hf, Bool.false_eq_true, if_false, Bool.not_true, cond_false, hput, happ]
    cases hy1 : findT ((1 : Int), r.e) yes.l 0 with
    | none => simp only [get_none hy1, Option.isSome, Bool.and_false, Bool.false_and, if_true]; rfl
    | some p1 =>
    simp only [get_some hy1, asAgg_U, len_U, all_U, cond_true, Option.isSome, Bool.and_true, Bool.true_and]
    cases hy2 : findT ((2 : Int), r.e) yes.l 0 with
    | none => simp only [get_none hy2, Option.isSome, Bool.and_false, Bool.false_and, if_true]; rfl
    | some p2 =>
    simp only [get_some hy2, asAgg_U, len_U, all_U, cond_true, Option.isSome, Bool.and_true, Bool.true_and]
    cases hy3 : findT ((3 : Int), r.e) yes.l 0 with
    | none => simp only [get_none hy3, Option.isSome, Bool.and_false, Bool.false_and, if_true]; rfl
    | some p3 =>
    simp only [get_some hy3, asAgg_U, len_U, all_U, cond_true, Option.isSome, Bool.and_true, Bool.true_and]
    cases hy4 : findT ((4 : Int), r.e) yes.l 0 with
    | none => simp only [get_none hy4, Option.isSome, Bool.and_false, Bool.false_and, if_true]; rfl
    | some p4 =>
    simp only [get_some hy4, asAgg_U, len_U, all_U, cond_true, Option.isSome, Bool.and_true, Bool.true_and]
    simp only [Bool.true_eq_false, if_false]
    by_cases e1 : ep 1 = top
    rotate_left
    · simp only [eqF_f e1, decide_eq_false e1, Bool.not_false, cond_true, Bool.false_and, Bool.and_false, Bool.true_or, if_true]; rfl
    simp only [eqF_t e1, decide_eq_true e1, Bool.not_true, cond_false, Bool.and_true, Bool.true_and]
    by_cases e2 : ep 2 = top
    rotate_left
    · simp only [eqF_f e2, decide_eq_false e2, Bool.not_false, cond_true, Bool.false_and, Bool.and_false, Bool.true_or, if_true]; rfl
    simp only [eqF_t e2, decide_eq_true e2, Bool.not_true, cond_false, Bool.and_true, Bool.true_and]
    by_cases e3 : ep 3 = top
    rotate_left
    · simp only [eqF_f e3, decide_eq_false e3, Bool.not_false, cond_true, Bool.false_and, Bool.and_false, Bool.true_or, if_true]; rfl
    simp only [eqF_t e3, decide_eq_true e3, Bool.not_true, cond_false, Bool.and_true, Bool.true_and]
    by_cases e4 : ep 4 = top
    rotate_left
    · simp only [eqF_f e4, decide_eq_false e4, Bool.not_false, cond_true, Bool.false_and, Bool.and_false, Bool.true_or, if_true]; rfl
    simp only [eqF_t e4, decide_eq_true e4, Bool.not_true, cond_false, Bool.and_true, Bool.true_and]
    by_cases gt : top < r.e
    · simp only [ltF_t gt, decide_eq_false (show ¬ r.e ≤ top by omega), Bool.not_true, cond_false, Bool.or_false, Bool.false_eq_true, if_false]; rfl
    · simp only [ltF_f gt, decide_eq_true (show r.e ≤ top by omega), Bool.not_false, cond_true, Bool.or_true, if_true]; rfl
  | some p =>
    obtain ⟨i, g0⟩ := p
    obtain ⟨b, hb⟩ := at_I evH hf
    have hput : ∀ v, images.put r.e v = ⟨modT i r.e v images.l, images.ck⟩ := fun v => put_some hf v
    have hmod : modE i (.int .i64 r.e) (.agg ⟨hashC r.h⟩) (entsL ekI evH images.l) = entsL ekI evH (modT i r.e r.h images.l) := mod_I evH r.e r.h images.l i
    simp only [Option.map, Option.elim, get_some hf, asAgg_H, len_H, all_H, ble_H, sub_H, feq_H, cond_true, Bool.not_true, cond_false, hput, hb, same_I', hmod]
    by_cases hh : hl g0 = hl r.h
    rotate_left
    · simp only [decide_eq_false hh, Bool.not_false, cond_true, if_true]; rfl
    simp only [decide_eq_true hh, Bool.not_true, cond_false, Bool.false_eq_true, if_false]
    cases hy1 : findT ((1 : Int), r.e) yes.l 0 with
    | none => simp only [get_none hy1, Option.isSome, Bool.and_false, Bool.false_and, if_true]; rfl
    | some p1 =>
    simp only [get_some hy1, asAgg_U, len_U, all_U, cond_true, Option.isSome, Bool.and_true, Bool.true_and]
    cases hy2 : findT ((2 : Int), r.e) yes.l 0 with
    | none => simp only [get_none hy2, Option.isSome, Bool.and_false, Bool.false_and, if_true]; rfl
    | some p2 =>
    simp only [get_some hy2, asAgg_U, len_U, all_U, cond_true, Option.isSome, Bool.and_true, Bool.true_and]
    cases hy3 : findT ((3 : Int), r.e) yes.l 0 with
    | none => simp only [get_none hy3, Option.isSome, Bool.and_false, Bool.false_and, if_true]; rfl
    | some p3 =>
    simp only [get_some hy3, asAgg_U, len_U, all_U, cond_true, Option.isSome, Bool.and_true, Bool.true_and]
    cases hy4 : findT ((4 : Int), r.e) yes.l 0 with
    | none => simp only [get_none hy4, Option.isSome, Bool.and_false, Bool.false_and, if_true]; rfl
    | some p4 =>
    simp only [get_some hy4, asAgg_U, len_U, all_U, cond_true, Option.isSome, Bool.and_true, Bool.true_and]
    simp only [Bool.true_eq_false, if_false]
    by_cases et : r.e = top
    rotate_left
    · simp only [eqF_f et, decide_eq_false et, Bool.not_false, cond_true, if_true]; rfl
    simp only [eqF_t et, decide_eq_true et, Bool.not_true, cond_false, Bool.false_eq_true, if_false]
    rfl
set_option maxHeartbeats 1000000 in
theorem add_swap43 (led : TM Int Int) (log : List (Int × H)) (last : TM Int Int) (ep : Nat → Int) (top : Int) (images : TM Int H) (yes : TM (Int × Int) Unit) (word : TM Int Int) (answers : TM (Int × Int) (Int × Int × H)) (askers : TM Int (Int × Int)) (r : RowT) (hk : r.k = 3) (hw : r.w = 3) (he : ¬ r.e < 1) :
    addR obs8 r (msJ ⟨4, led, log, last, ep, top, images, yes, word, answers, askers⟩) = obsOf (swapJ ⟨4, led, log, last, ep, top, images, yes, word, answers, askers⟩ r) (logV 8 log) (logB log) := by
  unfold addR
  rw [hk, hw]
  refine Eq.trans (t_swap43 ..) ?_
  have ht : (3 : Int).toNat = 3 := rfl
  have hN : (4 : Int).toNat = 4 := rfl
  have hy : yesesJ ⟨4, led, log, last, ep, top, images, yes, word, answers, askers⟩ r.e 4 = (((((true && (yes.get (1, r.e)).isSome) && (yes.get (2, r.e)).isSome) && (yes.get (3, r.e)).isSome) && (yes.get (4, r.e)).isSome)) := rfl
  have hev : evenJ ⟨4, led, log, last, ep, top, images, yes, word, answers, askers⟩ 4 = (((((true && decide (ep 1 = top)) && decide (ep 2 = top)) && decide (ep 3 = top)) && decide (ep 4 = top))) := rfl
  simp only [ltF_f he, cond_false, find_I, find_P', swapJ, hw, ht, hN, hy, hev]
  by_cases g : r.e ≤ ep 3
  · rw [ltF_f (show ¬ ep 3 < r.e by omega), if_pos g]
    cases hf : findT r.e images.l 0 <;> rfl
  rw [ltF_t (show ep 3 < r.e by omega), if_neg g]
  cases hf : findT r.e images.l 0 with
  | none =>
    have hput : ∀ v, images.put r.e v = ⟨images.l ++ [(r.e, v, images.ck)], images.ck + 1⟩ := fun v => put_none hf v
    have happ : entsL ekI evH images.l ++ [{ key := .int .i64 r.e, val := .agg ⟨hashC r.h⟩, born := images.ck }] = entsL ekI evH (images.l ++ [(r.e, r.h, images.ck)]) := app_I evH r.e r.h images.l images.ck
    simp only [Option.map, Option.elim, get_none hf, Bool.false_eq_true, if_false, Bool.not_true, cond_false, hput, happ]
    cases hy1 : findT ((1 : Int), r.e) yes.l 0 with
    | none => simp only [get_none hy1, Option.isSome, Bool.and_false, Bool.false_and, if_true]; rfl
    | some p1 =>
    simp only [get_some hy1, asAgg_U, len_U, all_U, cond_true, Option.isSome, Bool.and_true, Bool.true_and]
    cases hy2 : findT ((2 : Int), r.e) yes.l 0 with
    | none => simp only [get_none hy2, Option.isSome, Bool.and_false, Bool.false_and, if_true]; rfl
    | some p2 =>
    simp only [get_some hy2, asAgg_U, len_U, all_U, cond_true, Option.isSome, Bool.and_true, Bool.true_and]
    cases hy3 : findT ((3 : Int), r.e) yes.l 0 with
    | none => simp only [get_none hy3, Option.isSome, Bool.and_false, Bool.false_and, if_true]; rfl
    | some p3 =>
    simp only [get_some hy3, asAgg_U, len_U, all_U, cond_true, Option.isSome, Bool.and_true, Bool.true_and]
    cases hy4 : findT ((4 : Int), r.e) yes.l 0 with
    | none => simp only [get_none hy4, Option.isSome, Bool.and_false, Bool.false_and, if_true]; rfl
    | some p4 =>
    simp only [get_some hy4, asAgg_U, len_U, all_U, cond_true, Option.isSome, Bool.and_true, Bool.true_and]
    simp only [Bool.true_eq_false, if_false]
    by_cases e1 : ep 1 = top
    rotate_left
    · simp only [eqF_f e1, decide_eq_false e1, Bool.not_false, cond_true, Bool.false_and, Bool.and_false, Bool.true_or, if_true]; rfl
    simp only [eqF_t e1, decide_eq_true e1, Bool.not_true, cond_false, Bool.and_true, Bool.true_and]
    by_cases e2 : ep 2 = top
    rotate_left
    · simp only [eqF_f e2, decide_eq_false e2, Bool.not_false, cond_true, Bool.false_and, Bool.and_false, Bool.true_or, if_true]; rfl
    simp only [eqF_t e2, decide_eq_true e2, Bool.not_true, cond_false, Bool.and_true, Bool.true_and]
    by_cases e3 : ep 3 = top
    rotate_left
    · simp only [eqF_f e3, decide_eq_false e3, Bool.not_false, cond_true, Bool.false_and, Bool.and_false, Bool.true_or, if_true]; rfl
    simp only [eqF_t e3, decide_eq_true e3, Bool.not_true, cond_false, Bool.and_true, Bool.true_and]
    by_cases e4 : ep 4 = top
    rotate_left
    · simp only [eqF_f e4, decide_eq_false e4, Bool.not_false, cond_true, Bool.false_and, Bool.and_false, Bool.true_or, if_true]; rfl
    simp only [eqF_t e4, decide_eq_true e4, Bool.not_true, cond_false, Bool.and_true, Bool.true_and]
    by_cases gt : top < r.e
    · simp only [ltF_t gt, decide_eq_false (show ¬ r.e ≤ top by omega), Bool.not_true, cond_false, Bool.or_false, Bool.false_eq_true, if_false]; rfl
    · simp only [ltF_f gt, decide_eq_true (show r.e ≤ top by omega), Bool.not_false, cond_true, Bool.or_true, if_true]; rfl
  | some p =>
    obtain ⟨i, g0⟩ := p
    obtain ⟨b, hb⟩ := at_I evH hf
    have hput : ∀ v, images.put r.e v = ⟨modT i r.e v images.l, images.ck⟩ := fun v => put_some hf v
    have hmod : modE i (.int .i64 r.e) (.agg ⟨hashC r.h⟩) (entsL ekI evH images.l) = entsL ekI evH (modT i r.e r.h images.l) := mod_I evH r.e r.h images.l i
    simp only [Option.map, Option.elim, get_some hf, asAgg_H, len_H, all_H, ble_H, sub_H, feq_H, cond_true, Bool.not_true, cond_false, hput, hb, same_I', hmod]
    by_cases hh : hl g0 = hl r.h
    rotate_left
    · simp only [decide_eq_false hh, Bool.not_false, cond_true, if_true]; rfl
    simp only [decide_eq_true hh, Bool.not_true, cond_false, Bool.false_eq_true, if_false]
    cases hy1 : findT ((1 : Int), r.e) yes.l 0 with
    | none => simp only [get_none hy1, Option.isSome, Bool.and_false, Bool.false_and, if_true]; rfl
    | some p1 =>
    simp only [get_some hy1, asAgg_U, len_U, all_U, cond_true, Option.isSome, Bool.and_true, Bool.true_and]
    cases hy2 : findT ((2 : Int), r.e) yes.l 0 with
    | none => simp only [get_none hy2, Option.isSome, Bool.and_false, Bool.false_and, if_true]; rfl
    | some p2 =>
    simp only [get_some hy2, asAgg_U, len_U, all_U, cond_true, Option.isSome, Bool.and_true, Bool.true_and]
    cases hy3 : findT ((3 : Int), r.e) yes.l 0 with
    | none => simp only [get_none hy3, Option.isSome, Bool.and_false, Bool.false_and, if_true]; rfl
    | some p3 =>
    simp only [get_some hy3, asAgg_U, len_U, all_U, cond_true, Option.isSome, Bool.and_true, Bool.true_and]
    cases hy4 : findT ((4 : Int), r.e) yes.l 0 with
    | none => simp only [get_none hy4, Option.isSome, Bool.and_false, Bool.false_and, if_true]; rfl
    | some p4 =>
    simp only [get_some hy4, asAgg_U, len_U, all_U, cond_true, Option.isSome, Bool.and_true, Bool.true_and]
    simp only [Bool.true_eq_false, if_false]
    by_cases et : r.e = top
    rotate_left
    · simp only [eqF_f et, decide_eq_false et, Bool.not_false, cond_true, if_true]; rfl
    simp only [eqF_t et, decide_eq_true et, Bool.not_true, cond_false, Bool.false_eq_true, if_false]
    rfl
set_option maxHeartbeats 1000000 in
theorem add_swap44 (led : TM Int Int) (log : List (Int × H)) (last : TM Int Int) (ep : Nat → Int) (top : Int) (images : TM Int H) (yes : TM (Int × Int) Unit) (word : TM Int Int) (answers : TM (Int × Int) (Int × Int × H)) (askers : TM Int (Int × Int)) (r : RowT) (hk : r.k = 3) (hw : r.w = 4) (he : ¬ r.e < 1) :
    addR obs8 r (msJ ⟨4, led, log, last, ep, top, images, yes, word, answers, askers⟩) = obsOf (swapJ ⟨4, led, log, last, ep, top, images, yes, word, answers, askers⟩ r) (logV 8 log) (logB log) := by
  unfold addR
  rw [hk, hw]
  refine Eq.trans (t_swap44 ..) ?_
  have ht : (4 : Int).toNat = 4 := rfl
  have hN : (4 : Int).toNat = 4 := rfl
  have hy : yesesJ ⟨4, led, log, last, ep, top, images, yes, word, answers, askers⟩ r.e 4 = (((((true && (yes.get (1, r.e)).isSome) && (yes.get (2, r.e)).isSome) && (yes.get (3, r.e)).isSome) && (yes.get (4, r.e)).isSome)) := rfl
  have hev : evenJ ⟨4, led, log, last, ep, top, images, yes, word, answers, askers⟩ 4 = (((((true && decide (ep 1 = top)) && decide (ep 2 = top)) && decide (ep 3 = top)) && decide (ep 4 = top))) := rfl
  simp only [ltF_f he, cond_false, find_I, find_P', swapJ, hw, ht, hN, hy, hev]
  by_cases g : r.e ≤ ep 4
  · rw [ltF_f (show ¬ ep 4 < r.e by omega), if_pos g]
    cases hf : findT r.e images.l 0 <;> rfl
  rw [ltF_t (show ep 4 < r.e by omega), if_neg g]
  cases hf : findT r.e images.l 0 with
  | none =>
    have hput : ∀ v, images.put r.e v = ⟨images.l ++ [(r.e, v, images.ck)], images.ck + 1⟩ := fun v => put_none hf v
    have happ : entsL ekI evH images.l ++ [{ key := .int .i64 r.e, val := .agg ⟨hashC r.h⟩, born := images.ck }] = entsL ekI evH (images.l ++ [(r.e, r.h, images.ck)]) := app_I evH r.e r.h images.l images.ck
    simp only [Option.map, Option.elim, get_none hf, Bool.false_eq_true, if_false, Bool.not_true, cond_false, hput, happ]
    cases hy1 : findT ((1 : Int), r.e) yes.l 0 with
    | none => simp only [get_none hy1, Option.isSome, Bool.and_false, Bool.false_and, if_true]; rfl
    | some p1 =>
    simp only [get_some hy1, asAgg_U, len_U, all_U, cond_true, Option.isSome, Bool.and_true, Bool.true_and]
    cases hy2 : findT ((2 : Int), r.e) yes.l 0 with
    | none => simp only [get_none hy2, Option.isSome, Bool.and_false, Bool.false_and, if_true]; rfl
    | some p2 =>
    simp only [get_some hy2, asAgg_U, len_U, all_U, cond_true, Option.isSome, Bool.and_true, Bool.true_and]
    cases hy3 : findT ((3 : Int), r.e) yes.l 0 with
    | none => simp only [get_none hy3, Option.isSome, Bool.and_false, Bool.false_and, if_true]; rfl
    | some p3 =>
    simp only [get_some hy3, asAgg_U, len_U, all_U, cond_true, Option.isSome, Bool.and_true, Bool.true_and]
    cases hy4 : findT ((4 : Int), r.e) yes.l 0 with
    | none => simp only [get_none hy4, Option.isSome, Bool.and_false, Bool.false_and, if_true]; rfl
    | some p4 =>
    simp only [get_some hy4, asAgg_U, len_U, all_U, cond_true, Option.isSome, Bool.and_true, Bool.true_and]
    simp only [Bool.true_eq_false, if_false]
    by_cases e1 : ep 1 = top
    rotate_left
    · simp only [eqF_f e1, decide_eq_false e1, Bool.not_false, cond_true, Bool.false_and, Bool.and_false, Bool.true_or, if_true]; rfl
    simp only [eqF_t e1, decide_eq_true e1, Bool.not_true, cond_false, Bool.and_true, Bool.true_and]
    by_cases e2 : ep 2 = top
    rotate_left
    · simp only [eqF_f e2, decide_eq_false e2, Bool.not_false, cond_true, Bool.false_and, Bool.and_false, Bool.true_or, if_true]; rfl
    simp only [eqF_t e2, decide_eq_true e2, Bool.not_true, cond_false, Bool.and_true, Bool.true_and]
    by_cases e3 : ep 3 = top
    rotate_left
    · simp only [eqF_f e3, decide_eq_false e3, Bool.not_false, cond_true, Bool.false_and, Bool.and_false, Bool.true_or, if_true]; rfl
    simp only [eqF_t e3, decide_eq_true e3, Bool.not_true, cond_false, Bool.and_true, Bool.true_and]
    by_cases e4 : ep 4 = top
    rotate_left
    · simp only [eqF_f e4, decide_eq_false e4, Bool.not_false, cond_true, Bool.false_and, Bool.and_false, Bool.true_or, if_true]; rfl
    simp only [eqF_t e4, decide_eq_true e4, Bool.not_true, cond_false, Bool.and_true, Bool.true_and]
    by_cases gt : top < r.e
    · simp only [ltF_t gt, decide_eq_false (show ¬ r.e ≤ top by omega), Bool.not_true, cond_false, Bool.or_false, Bool.false_eq_true, if_false]; rfl
    · simp only [ltF_f gt, decide_eq_true (show r.e ≤ top by omega), Bool.not_false, cond_true, Bool.or_true, if_true]; rfl
  | some p =>
    obtain ⟨i, g0⟩ := p
    obtain ⟨b, hb⟩ := at_I evH hf
    have hput : ∀ v, images.put r.e v = ⟨modT i r.e v images.l, images.ck⟩ := fun v => put_some hf v
    have hmod : modE i (.int .i64 r.e) (.agg ⟨hashC r.h⟩) (entsL ekI evH images.l) = entsL ekI evH (modT i r.e r.h images.l) := mod_I evH r.e r.h images.l i
    simp only [Option.map, Option.elim, get_some hf, asAgg_H, len_H, all_H, ble_H, sub_H, feq_H, cond_true, Bool.not_true, cond_false, hput, hb, same_I', hmod]
    by_cases hh : hl g0 = hl r.h
    rotate_left
    · simp only [decide_eq_false hh, Bool.not_false, cond_true, if_true]; rfl
    simp only [decide_eq_true hh, Bool.not_true, cond_false, Bool.false_eq_true, if_false]
    cases hy1 : findT ((1 : Int), r.e) yes.l 0 with
    | none => simp only [get_none hy1, Option.isSome, Bool.and_false, Bool.false_and, if_true]; rfl
    | some p1 =>
    simp only [get_some hy1, asAgg_U, len_U, all_U, cond_true, Option.isSome, Bool.and_true, Bool.true_and]
    cases hy2 : findT ((2 : Int), r.e) yes.l 0 with
    | none => simp only [get_none hy2, Option.isSome, Bool.and_false, Bool.false_and, if_true]; rfl
    | some p2 =>
    simp only [get_some hy2, asAgg_U, len_U, all_U, cond_true, Option.isSome, Bool.and_true, Bool.true_and]
    cases hy3 : findT ((3 : Int), r.e) yes.l 0 with
    | none => simp only [get_none hy3, Option.isSome, Bool.and_false, Bool.false_and, if_true]; rfl
    | some p3 =>
    simp only [get_some hy3, asAgg_U, len_U, all_U, cond_true, Option.isSome, Bool.and_true, Bool.true_and]
    cases hy4 : findT ((4 : Int), r.e) yes.l 0 with
    | none => simp only [get_none hy4, Option.isSome, Bool.and_false, Bool.false_and, if_true]; rfl
    | some p4 =>
    simp only [get_some hy4, asAgg_U, len_U, all_U, cond_true, Option.isSome, Bool.and_true, Bool.true_and]
    simp only [Bool.true_eq_false, if_false]
    by_cases et : r.e = top
    rotate_left
    · simp only [eqF_f et, decide_eq_false et, Bool.not_false, cond_true, if_true]; rfl
    simp only [eqF_t et, decide_eq_true et, Bool.not_true, cond_false, Bool.false_eq_true, if_false]
    rfl
end
end Go.Proofs.Ytfpbiojnbffkpaa
