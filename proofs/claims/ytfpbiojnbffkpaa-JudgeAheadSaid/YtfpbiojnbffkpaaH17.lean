/-
  JAddD: Add of a Sure, on a judge that is laid by itself.
-/
import Derived.Test.YtfpbiojnbffkpaaH15
import Derived.Test.YtfpbiojnbffkpaaH16
import Derived.IntWalk
import Derived.Test.YtfpbiojnbffkpaaH09
import Derived.Test.YtfpbiojnbffkpaaH10
set_option linter.all false
set_option linter.unusedVariables false
set_option linter.unusedSimpArgs false
namespace Go.Proofs.Ytfpbiojnbffkpaa
open Go Go.DI Go.Proofs Go.Jud
noncomputable section
theorem entC_len (x : Int × H) : (entC x).length = 33 := rfl
theorem logC_len : ∀ l : List (Int × H), (logC l).length = l.length * 33
  | [] => rfl
  | x :: l => by
    have ih := logC_len l
    simp only [logC] at ih
    simp only [logC, List.flatMap_cons, List.length_append, ih, entC_len, List.length_cons]
    omega
theorem logC_drop : ∀ (l : List (Int × H)) (j : Nat) (x : Int × H), l[j]? = some x → ∃ r, (logC l).drop (j * 33) = entC x ++ r
  | [], j, x, h => by simp at h
  | y :: l, 0, x, h => by simp at h; subst h; exact ⟨logC l, rfl⟩
  | y :: l, j + 1, x, h => by
    obtain ⟨r, hr⟩ := logC_drop l j x (by simpa using h)
    refine ⟨r, ?_⟩
    have e : (j + 1) * 33 = (entC y).length + j * 33 := by rw [entC_len]; omega
    rw [e]
    show List.drop _ (entC y ++ logC l) = _
    rw [← List.drop_drop, List.drop_left]
    exact hr
theorem logC_sub {l : List (Int × H)} {j : Nat} {x : Int × H} (h : l[j]? = some x) : Y.subL (logC l) (Nat.add 0 (Nat.mul j 33)) 33 = entC x := by
  obtain ⟨r, hr⟩ := logC_drop l j x h
  rw [Y.subL_eq, show Nat.add 0 (Nat.mul j 33) = j * 33 from Nat.zero_add _, hr]
  exact List.take_left' rfl
theorem logC_nth {l : List (Int × H)} {j : Nat} {x : Int × H} (h : l[j]? = some x) : Y.nthL (logC l) (Nat.add (Nat.add 0 (Nat.mul j 33)) 0) = some (.int .i64 x.1) := by
  obtain ⟨r, hr⟩ := logC_drop l j x h
  rw [Y.nthL_eq, show Nat.add (Nat.add 0 (Nat.mul j 33)) 0 = j * 33 from Nat.zero_add _]
  have : ((logC l).drop (j * 33))[0]? = some (.int .i64 x.1) := by rw [hr]; rfl
  simpa using this
theorem entC_one (x : Int × H) : (entC x).all one = true := rfl
theorem logC_one : ∀ l : List (Int × H), (logC l).all one = true
  | [] => rfl
  | x :: l => by
    have ih := logC_one l
    show (entC x ++ logC l).all one = true
    rw [List.all_append, entC_one, ih]; rfl
theorem logC_snoc (l : List (Int × H)) (x : Int × H) : logC l ++ entC x = logC (l ++ [x]) := by simp [logC]
theorem logV_ne (N : Nat) {l : List (Int × H)} (h : l ≠ []) : logV N l = .slice (some ⟨N, 0, some 33⟩) l.length l.length := by cases l <;> first | exact absurd rfl h | rfl
theorem logB_ne {l : List (Int × H)} (h : l ≠ []) : logB l = .cells true (logC l) := by cases l <;> first | exact absurd rfl h | rfl
theorem feq_E (a b : Int × H) : feq Try.prog kp 100 67 (.agg ⟨entC a⟩) (.agg ⟨[.int .i64 b.1] ++ hashC b.2⟩) = some (decide (a.1 = b.1) && decide (hl a.2 = hl b.2)) := by
  have h1 : feq Try.prog kp 100 67 (.agg ⟨entC a⟩) (.agg ⟨[.int .i64 b.1] ++ hashC b.2⟩) = (match some (a.1 == b.1) with | some true => (match chk (hl a.2) (hl b.2) with | some true => some true | some false => some false | none => none) | some false => some false | none => none) := by kernel_rfl
  rw [h1, chk_eq (hl a.2) (hl b.2) rfl]
  cases e1 : a.1 == b.1 with
  | false => have := ne_of_beq_false e1; simp [this]
  | true =>
    have g1 := eq_of_beq e1
    simp only [g1, decide_true, Bool.true_and]
    cases decide (hl a.2 = hl b.2) <;> rfl
theorem feq_E' (x : Int × H) (t : Int) (h : H) : feq Try.prog kp 100 67 (.agg ⟨entC x⟩) (.agg ⟨[.int .i64 t] ++ hashC h⟩) = some (decide (x.1 = t) && decide (hl x.2 = hl h)) := feq_E x (t, h)
theorem add_sure0 (n : Int) (led : TM Int Int) (last : TM Int Int) (ep : Nat → Int) (top : Int) (images : TM Int H) (yes : TM (Int × Int) Unit) (word : TM Int Int) (answers : TM (Int × Int) (Int × Int × H)) (askers : TM Int (Int × Int)) (r : RowT) (hn : n ≠ 0) (hk : r.k = 2) (hlast : ∀ w v, last.get w = some v → 1 ≤ v ∧ v ≤ (0 : Int)) (hi : -9223372036854775808 ≤ r.i ∧ r.i ≤ 9223372036854775807) :
    ∃ N, 9 ≤ N ∧ addR obs r (msJ ⟨n, led, [], last, ep, top, images, yes, word, answers, askers⟩) = obsOf (sureJ ⟨n, led, [], last, ep, top, images, yes, word, answers, askers⟩ r) (logV N (sureJ ⟨n, led, [], last, ep, top, images, yes, word, answers, askers⟩ r).2.log) (logB (sureJ ⟨n, led, [], last, ep, top, images, yes, word, answers, askers⟩ r).2.log) := by
  refine ⟨18, by omega, ?_⟩
  have hnone : last.get r.w = none := by
    cases h : last.get r.w with
    | none => rfl
    | some v => have := hlast _ _ h; omega
  have hf : findT r.w last.l 0 = none := by
    cases h : findT r.w last.l 0 with
    | none => rfl
    | some p => rw [get_some (u := p.2) (i := p.1) h] at hnone; cases hnone
  unfold addR
  rw [hk]
  refine Eq.trans (t_sure0 ..) ?_
  have hth : thereJ ⟨n, led, [], last, ep, top, images, yes, word, answers, askers⟩ r = false := by simp only [thereJ]; simp; omega
  have hput : ∀ v, last.put r.w v = ⟨last.l ++ [(r.w, v, last.ck)], last.ck + 1⟩ := fun v => put_none hf v
  have happ : entsL ekI ekI last.l ++ [{ key := .int .i64 r.w, val := .int .i64 r.i, born := last.ck }] = entsL ekI ekI (last.l ++ [(r.w, r.i, last.ck)]) := app_I ekI r.w r.i last.l last.ck
  simp only [eqF_f hn, cond_false, find_I, hf, Option.map, Option.elim, sureJ, hth, Bool.false_and, Bool.false_eq_true, if_false, hnone, Option.getD, hput, happ]
  by_cases a1 : r.i = 1
  · have a2 : ¬ r.i < 1 := by omega
    have a3 : ¬ 1 < r.i := by omega
    have a4 : (0 : Int) < r.i := by omega
    rw [if_neg (show ¬ (r.i ≠ 1 ∧ r.i - 1 ≠ 0) by omega), if_neg a2, if_neg (show ¬ (1 < r.i ∧ _) by omega)]
    simp only [eqF_t a1, ltF_f a2, ltF_f a3, ltF_t a4, Bool.not_true, Bool.not_false, cond_true, cond_false]
    rfl
  · by_cases a2 : r.i < 1
    · have hs : ∀ (X Y Z : Int × JS), (if r.i ≠ 1 ∧ r.i - 1 ≠ 0 then X else if r.i < 1 then X else Y) = X := fun X Y Z => by
        by_cases h : r.i ≠ 1 ∧ r.i - 1 ≠ 0
        · rw [if_pos h]
        · rw [if_neg h, if_pos a2]
      rw [hs _ _ (0, JS.new 0)]
      simp only [eqF_f a1, ltF_t a2, Bool.not_true, Bool.not_false, cond_true, cond_false, bool_same]
      rfl
    · have a4 : (0 : Int) < r.i := by omega
      have hw : IntKind.wrap .i64 (Int.sub r.i 1) = r.i - 1 := IntWalk.i64_in _ (by show _ ≤ r.i - 1 ∧ r.i - 1 ≤ _; omega)
      rw [if_pos (show r.i ≠ 1 ∧ r.i - 1 ≠ 0 by omega)]
      simp only [eqF_f a1, ltF_f a2, ltF_t a4, Bool.not_true, Bool.not_false, cond_true, cond_false, hw, eqF_f (show r.i - 1 ≠ 0 by omega)]
      rfl
set_option maxHeartbeats 2000000 in
theorem add_sure1 (S : JS) (r : RowT) (hn : S.n ≠ 0) (hk : r.k = 2) (hlog : S.log ≠ []) (hlen : S.log.length ≤ 1000000) (hlast : ∀ w v, S.last.get w = some v → 1 ≤ v ∧ v ≤ (S.log.length : Int)) (hi : -9223372036854775808 ≤ r.i ∧ r.i ≤ 9223372036854775807) :
    ∃ N, (N = 8 ∧ (sureJ S r).2.log = S.log ∨ 9 ≤ N) ∧ addR obs r (msJ S) = obsOf (sureJ S r) (logV N (sureJ S r).2.log) (logB (sureJ S r).2.log) := by
  have hms : msJ S = ms (judC S.n (.slice (some ⟨8, 0, some 33⟩) S.log.length S.log.length) (S.ep 0) (S.ep 1) (S.ep 2) (S.ep 3) (S.ep 4) S.top) (mapB ekI ekI S.led) (mapB ekI ekI S.last) (mapB ekI evH S.images) (mapB ekP evU S.yes) (mapB ekI ekI S.word) (mapB ekP evA S.answers) (mapB ekI ekP S.askers) (.cells true (logC S.log)) := by
    unfold msJ judS; rw [logV_ne 8 hlog, logB_ne hlog]
  have hadd : addR obs r (msJ S) = add obs 2 r.w r.t r.i r.e r.s r.st r.c r.tr r.y r.h r.v (ms (judC S.n (.slice (some ⟨8, 0, some 33⟩) S.log.length S.log.length) (S.ep 0) (S.ep 1) (S.ep 2) (S.ep 3) (S.ep 4) S.top) (mapB ekI ekI S.led) (.map true (entsL ekI ekI S.last.l) S.last.ck) (mapB ekI evH S.images) (mapB ekP evU S.yes) (mapB ekI ekI S.word) (mapB ekP evA S.answers) (mapB ekI ekP S.askers) (.cells true (logC S.log))) := by
    unfold addR; rw [hk, hms]; rfl
  have key := hadd.trans (t_sure1 S.n (S.ep 0) (S.ep 1) (S.ep 2) (S.ep 3) (S.ep 4) S.top (mapB ekI ekI S.led) (entsL ekI ekI S.last.l) S.last.ck (mapB ekI evH S.images) (mapB ekP evU S.yes) (mapB ekI ekI S.word) (mapB ekP evA S.answers) (mapB ekI ekP S.askers) (logC S.log) S.log.length r.w r.t r.i r.e r.s r.st r.c r.tr r.y r.h r.v)
  have same : ∀ q, obsOf (q, S) (logV 8 S.log) (logB S.log) = some (.int .i64 q, .cells true (judC S.n (.slice (some ⟨8, 0, some 33⟩) S.log.length S.log.length) (S.ep 0) (S.ep 1) (S.ep 2) (S.ep 3) (S.ep 4) S.top), mapB ekI ekI S.led, mapB ekI ekI S.last, mapB ekI evH S.images, mapB ekP evU S.yes, mapB ekI ekI S.word, mapB ekP evA S.answers, mapB ekI ekP S.askers, .cells true (logC S.log)) := fun q => by
    unfold obsOf judS; rw [logV_ne 8 hlog, logB_ne hlog]
  have hpos : 0 < S.log.length := List.length_pos_iff.2 hlog
  simp only [eqF_f hn, cond_false, find_I] at key
  have n4 : (sureJ S r = (4, S)) → addR obs r (msJ S) = obsOf (4, S) (logV 8 S.log) (logB S.log) → ∃ N, (N = 8 ∧ (sureJ S r).2.log = S.log ∨ 9 ≤ N) ∧ addR obs r (msJ S) = obsOf (sureJ S r) (logV N (sureJ S r).2.log) (logB (sureJ S r).2.log) := fun h1 h2 => by
    rw [h1]; exact ⟨8, .inl ⟨rfl, rfl⟩, h2⟩
  by_cases a2 : r.i < 1
  · -- below the log
    have hth : thereJ S r = false := by simp only [thereJ]; simp; omega
    refine n4 ?_ ?_
    · simp only [sureJ, hth, Bool.false_and, Bool.false_eq_true, if_false, a2, if_true]
      split <;> rfl
    · rw [key, same]
      simp only [ltF_t a2, eqF_f (show r.i ≠ 1 by omega), Bool.not_true, Bool.not_false, cond_true, cond_false]
      cases hf : findT r.w S.last.l 0 with
      | none => simp only [Option.map, Option.elim, bool_same]; rfl
      | some p =>
        obtain ⟨j, u⟩ := p
        simp only [Option.map, Option.elim, ekI, Y.asInt, kEq_i, cond_true, bool_same]; rfl
  have hw1 : IntKind.wrap .i64 (Int.sub r.i 1) = r.i - 1 := IntWalk.i64_in _ (by show _ ≤ r.i - 1 ∧ r.i - 1 ≤ _; omega)
  have hw2 : IntKind.wrap .i64 (Int.sub r.i 2) = r.i - 2 := IntWalk.i64_in _ (by show _ ≤ r.i - 2 ∧ r.i - 2 ≤ _; omega)
  have a4 : (0 : Int) < r.i := by omega
  have hb33 : ∀ j, j < S.log.length → Nat.ble (Nat.add (Nat.add 0 (Nat.mul j 33)) 33) (Y.lenLF (logC S.log)) = true := fun j hj => by
    rw [Y.lenLF_eq, logC_len]; exact Nat.ble_eq_true_of_le (by show 0 + j * 33 + 33 ≤ _; omega)
  have hblt : ∀ j, j < S.log.length → Nat.blt j S.log.length = true := fun j hj => by simpa [Nat.blt_eq] using hj
  have hon : ∀ {q : Nat → Option Obs} (z : Int), 0 ≤ z → Y.onNat z q = q z.toNat := fun {q} z hz => by
    obtain ⟨m, rfl⟩ := Int.eq_ofNat_of_zero_le hz; rfl
  by_cases a5 : r.i ≤ (S.log.length : Int)
  · -- it is there
    have hth : thereJ S r = true := by simp only [thereJ]; simp; omega
    have hlt : (r.i - 1).toNat < S.log.length := by omega
    have hget : S.log[(r.i - 1).toNat]? = some (S.log[(r.i - 1).toNat]) := List.getElem?_eq_getElem hlt
    have e3 : Y.ltF (Int.ofNat S.log.length) r.i = false := ltF_f (by simp only [Int.ofNat_eq_natCast]; omega)
    simp only [ltF_f a2, e3, Bool.not_false, cond_true, hw1, hw2, hon (r.i - 1) (by omega), hblt _ hlt, hb33 _ hlt, logC_sub hget, feq_E', Option.elim] at key
    have hot : otherJ S r = !(decide (S.log[(r.i - 1).toNat].1 = r.t) && decide (hl S.log[(r.i - 1).toNat].2 = hl r.h)) := by simp only [otherJ, hget]
    cases hd : (decide (S.log[(r.i - 1).toNat].1 = r.t) && decide (hl S.log[(r.i - 1).toNat].2 = hl r.h)) with
    | false =>
      have hs : sureJ S r = (3, S) := by simp only [sureJ, hth, hot, hd, Bool.not_false, Bool.true_and, if_true]
      rw [hs]
      refine ⟨8, .inl ⟨rfl, rfl⟩, ?_⟩
      rw [key, same, hd]; rfl
    | true =>
      rw [hd] at key
      simp only [Bool.not_true, cond_false] at key
      have h3 : (thereJ S r && otherJ S r) = false := by rw [hth, hot, hd]; rfl
      by_cases a1 : r.i = 1
      · have a6 : ¬ (1 : Int) < r.i := by omega
        have hs : sureJ S r = (0, { S with last := S.last.put r.w r.i, log := S.log }) := by
          unfold sureJ
          rw [if_neg (show ¬ ((thereJ S r && otherJ S r) = true) by rw [h3]; simp), if_neg (fun h => h.1 a1), if_neg a2, if_neg (fun h => a6 h.1), hth]
          rfl
        rw [hs]
        refine ⟨8, .inl ⟨rfl, rfl⟩, ?_⟩
        rw [key]
        show _ = obsOf (0, { S with last := S.last.put r.w r.i, log := S.log }) (logV 8 S.log) (logB S.log)
        rw [logV_ne 8 hlog, logB_ne hlog]
        simp only [eqF_t a1, ltF_f a6, Bool.not_true, cond_false]
        cases hf : findT r.w S.last.l 0 with
        | none =>
          have happ : entsL ekI ekI S.last.l ++ [{ key := .int .i64 r.w, val := .int .i64 r.i, born := S.last.ck }] = entsL ekI ekI (S.last.l ++ [(r.w, r.i, S.last.ck)]) := app_I ekI r.w r.i S.last.l S.last.ck
          simp only [Option.map, happ, put_none hf]; rfl
        | some p =>
          obtain ⟨j, u⟩ := p
          obtain ⟨b, hb⟩ := at_I ekI hf
          have hmod : modE j (.int .i64 r.w) (.int .i64 r.i) (entsL ekI ekI S.last.l) = entsL ekI ekI (modT j r.w r.i S.last.l) := mod_I ekI r.w r.i S.last.l j
          simp only [Option.map, hmod, put_some hf, hb, same_I', cond_true]; rfl
      · cases hf : findT r.w S.last.l 0 with
        | none =>
          refine n4 ?_ ?_
          · simp only [sureJ, h3, Bool.false_eq_true, if_false, get_none hf, Option.getD]
            rw [if_pos (by omega)]
          · rw [key, same, hf]
            simp only [eqF_f a1, Bool.not_false, cond_true, Option.map, eqF_f (show r.i - 1 ≠ 0 by omega)]; rfl
        | some p =>
          obtain ⟨j, u⟩ := p
          have hu := hlast r.w u (get_some hf)
          obtain ⟨b, hb⟩ := at_I ekI hf
          have hmod : modE j (.int .i64 r.w) (.int .i64 r.i) (entsL ekI ekI S.last.l) = entsL ekI ekI (modT j r.w r.i S.last.l) := mod_I ekI r.w r.i S.last.l j
          simp only [hf, eqF_f a1, Bool.not_false, cond_true, Option.map, ekI, Y.asInt, kEq_i] at key
          by_cases a7 : r.i - 1 = u
          · have hl2 : (r.i - 2).toNat < S.log.length := by omega
            have hg2 : S.log[(r.i - 2).toNat]? = some (S.log[(r.i - 2).toNat]) := List.getElem?_eq_getElem hl2
            simp only [eqF_t a7, Bool.not_true, cond_false, ltF_t (show (1 : Int) < r.i by omega), cond_true, hon (r.i - 2) (by omega), hblt _ hl2, logC_nth hg2, Y.asInt, kEq_i] at key
            by_cases a8 : r.t < S.log[(r.i - 2).toNat].1
            · refine n4 ?_ ?_
              · simp only [sureJ, h3, Bool.false_eq_true, if_false, get_some hf, Option.getD, fallsJ, hg2]
                rw [if_neg (fun h => h.2 a7), if_neg a2, if_pos ⟨by omega, decide_eq_true a8⟩]
              · rw [key, same, ltF_t a8]; rfl
            · have hs : sureJ S r = (0, { S with last := S.last.put r.w r.i, log := S.log }) := by
                unfold sureJ
                rw [if_neg (show ¬ ((thereJ S r && otherJ S r) = true) by rw [h3]; simp)]
                simp only [get_some hf, Option.getD, fallsJ, hg2]
                rw [if_neg (fun h => h.2 a7), if_neg a2, if_neg (fun h => a8 (of_decide_eq_true h.2)), hth]
                rfl
              rw [hs]
              refine ⟨8, .inl ⟨rfl, rfl⟩, ?_⟩
              rw [key, ltF_f a8]
              show _ = obsOf (0, { S with last := S.last.put r.w r.i, log := S.log }) (logV 8 S.log) (logB S.log)
              rw [logV_ne 8 hlog, logB_ne hlog]
              simp only [put_some hf, hb, same_I', cond_true, cond_false, hmod]; rfl
          · refine n4 ?_ ?_
            · simp only [sureJ, h3, Bool.false_eq_true, if_false, get_some hf, Option.getD]
              rw [if_pos ⟨a1, a7⟩]
            · rw [key, same, eqF_f a7]; rfl
  · -- behind the log
    have hth : thereJ S r = false := by simp only [thereJ]; simp; omega
    have h3 : (thereJ S r && otherJ S r) = false := by rw [hth]; rfl
    have a1 : r.i ≠ 1 := by omega
    have e3 : Y.ltF (Int.ofNat S.log.length) r.i = true := ltF_t (by simp only [Int.ofNat_eq_natCast]; omega)
    simp only [ltF_f a2, e3, Bool.not_false, Bool.not_true, cond_true, cond_false, hw1, hw2, eqF_f a1] at key
    cases hf : findT r.w S.last.l 0 with
    | none =>
      refine n4 ?_ ?_
      · simp only [sureJ, h3, Bool.false_eq_true, if_false, get_none hf, Option.getD]
        rw [if_pos (by omega)]
      · rw [key, same, hf]
        simp only [Option.elim, Option.map, eqF_f (show r.i - 1 ≠ 0 by omega), Bool.not_false, cond_true]; rfl
    | some p =>
      obtain ⟨j, u⟩ := p
      have hu := hlast r.w u (get_some hf)
      obtain ⟨b, hb⟩ := at_I ekI hf
      have hmod : modE j (.int .i64 r.w) (.int .i64 r.i) (entsL ekI ekI S.last.l) = entsL ekI ekI (modT j r.w r.i S.last.l) := mod_I ekI r.w r.i S.last.l j
      simp only [hf, Option.elim, Option.map, ekI, Y.asInt, kEq_i, cond_true] at key
      by_cases a7 : r.i - 1 = u
      · have hl2 : (r.i - 2).toNat < S.log.length := by omega
        have hg2 : S.log[(r.i - 2).toNat]? = some (S.log[(r.i - 2).toNat]) := List.getElem?_eq_getElem hl2
        simp only [eqF_t a7, Bool.not_true, cond_false, ltF_t (show (1 : Int) < r.i by omega), cond_true, hon (r.i - 2) (by omega), hblt _ hl2, logC_nth hg2, Y.asInt, kEq_i] at key
        by_cases a8 : r.t < S.log[(r.i - 2).toNat].1
        · refine n4 ?_ ?_
          · simp only [sureJ, h3, Bool.false_eq_true, if_false, get_some hf, Option.getD, fallsJ, hg2]
            rw [if_neg (fun h => h.2 a7), if_neg a2, if_pos ⟨by omega, decide_eq_true a8⟩]
          · rw [key, same, ltF_t a8]; rfl
        · have hs : sureJ S r = (0, { S with last := S.last.put r.w r.i, log := S.log ++ [(r.t, r.h)] }) := by
            unfold sureJ
            rw [if_neg (show ¬ ((thereJ S r && otherJ S r) = true) by rw [h3]; simp)]
            simp only [get_some hf, Option.getD, fallsJ, hg2]
            rw [if_neg (fun h => h.2 a7), if_neg a2, if_neg (fun h => a8 (of_decide_eq_true h.2)), hth]
            rfl
          rw [hs]
          refine ⟨18, .inr (by omega), ?_⟩
          rw [key, ltF_f a8]
          have hne : S.log ++ [(r.t, r.h)] ≠ [] := by simp
          show _ = obsOf (0, { S with last := S.last.put r.w r.i, log := S.log ++ [(r.t, r.h)] }) (logV 18 (S.log ++ [(r.t, r.h)])) (logB (S.log ++ [(r.t, r.h)]))
          rw [logV_ne 18 hne, logB_ne hne, ← logC_snoc]
          have k1 : ¬ (S.log.length + 1 ≤ S.log.length) := by omega
          have k2 : ((S.log.length + 1) * 40 ≤ 140737488355328 ∧ S.log.length + 1 ≤ 4611686018427387904 ∧ 0 < 40 ∧ True) := ⟨by omega, by omega, by omega, trivial⟩
          have k3 : 0 + S.log.length * 33 ≤ (logC S.log).length := by rw [logC_len]; omega
          have k4 : (logC S.log).take (S.log.length * 33) = logC S.log := by rw [← logC_len]; exact List.take_length
          have k5 : ((true && (logC S.log).all one) = true ∧ (logC S.log).length = S.log.length * 33 ∧ True) := ⟨by rw [logC_one]; rfl, logC_len _, trivial⟩
          simp only [put_some hf, hb, same_I', cond_true, cond_false, hmod, if_neg k1, if_pos k2, if_pos k3, k4, if_pos k5, List.length_append, List.length_singleton]
          rfl
      · refine n4 ?_ ?_
        · simp only [sureJ, h3, Bool.false_eq_true, if_false, get_some hf, Option.getD]
          rw [if_pos ⟨a1, a7⟩]
        · rw [key, same, eqF_f a7]; rfl
end
end Go.Proofs.Ytfpbiojnbffkpaa
namespace Go.Proofs.Ytfpbiojnbffkpaa
open Go Go.DI Go.Proofs Go.Jud
noncomputable section
theorem low_swap11 (led : TM Int Int) (log : List (Int × H)) (last : TM Int Int) (ep : Nat → Int) (top : Int) (images : TM Int H) (yes : TM (Int × Int) Unit) (word : TM Int Int) (answers : TM (Int × Int) (Int × Int × H)) (askers : TM Int (Int × Int)) (r : RowT) (hk : r.k = 3) (hw : r.w = 1) (he : r.e < 1) :
    addR obs8 r (msJ ⟨1, led, log, last, ep, top, images, yes, word, answers, askers⟩) = obsOf (1, ⟨1, led, log, last, ep, top, images, yes, word, answers, askers⟩) (logV 8 log) (logB log) := by
  unfold addR
  rw [hk, hw]
  refine Eq.trans (t_swap11 ..) ?_
  rw [ltF_t he]; rfl
theorem low_swap21 (led : TM Int Int) (log : List (Int × H)) (last : TM Int Int) (ep : Nat → Int) (top : Int) (images : TM Int H) (yes : TM (Int × Int) Unit) (word : TM Int Int) (answers : TM (Int × Int) (Int × Int × H)) (askers : TM Int (Int × Int)) (r : RowT) (hk : r.k = 3) (hw : r.w = 1) (he : r.e < 1) :
    addR obs8 r (msJ ⟨2, led, log, last, ep, top, images, yes, word, answers, askers⟩) = obsOf (1, ⟨2, led, log, last, ep, top, images, yes, word, answers, askers⟩) (logV 8 log) (logB log) := by
  unfold addR
  rw [hk, hw]
  refine Eq.trans (t_swap21 ..) ?_
  rw [ltF_t he]; rfl
theorem low_swap22 (led : TM Int Int) (log : List (Int × H)) (last : TM Int Int) (ep : Nat → Int) (top : Int) (images : TM Int H) (yes : TM (Int × Int) Unit) (word : TM Int Int) (answers : TM (Int × Int) (Int × Int × H)) (askers : TM Int (Int × Int)) (r : RowT) (hk : r.k = 3) (hw : r.w = 2) (he : r.e < 1) :
    addR obs8 r (msJ ⟨2, led, log, last, ep, top, images, yes, word, answers, askers⟩) = obsOf (1, ⟨2, led, log, last, ep, top, images, yes, word, answers, askers⟩) (logV 8 log) (logB log) := by
  unfold addR
  rw [hk, hw]
  refine Eq.trans (t_swap22 ..) ?_
  rw [ltF_t he]; rfl
theorem low_swap31 (led : TM Int Int) (log : List (Int × H)) (last : TM Int Int) (ep : Nat → Int) (top : Int) (images : TM Int H) (yes : TM (Int × Int) Unit) (word : TM Int Int) (answers : TM (Int × Int) (Int × Int × H)) (askers : TM Int (Int × Int)) (r : RowT) (hk : r.k = 3) (hw : r.w = 1) (he : r.e < 1) :
    addR obs8 r (msJ ⟨3, led, log, last, ep, top, images, yes, word, answers, askers⟩) = obsOf (1, ⟨3, led, log, last, ep, top, images, yes, word, answers, askers⟩) (logV 8 log) (logB log) := by
  unfold addR
  rw [hk, hw]
  refine Eq.trans (t_swap31 ..) ?_
  rw [ltF_t he]; rfl
theorem low_swap32 (led : TM Int Int) (log : List (Int × H)) (last : TM Int Int) (ep : Nat → Int) (top : Int) (images : TM Int H) (yes : TM (Int × Int) Unit) (word : TM Int Int) (answers : TM (Int × Int) (Int × Int × H)) (askers : TM Int (Int × Int)) (r : RowT) (hk : r.k = 3) (hw : r.w = 2) (he : r.e < 1) :
    addR obs8 r (msJ ⟨3, led, log, last, ep, top, images, yes, word, answers, askers⟩) = obsOf (1, ⟨3, led, log, last, ep, top, images, yes, word, answers, askers⟩) (logV 8 log) (logB log) := by
  unfold addR
  rw [hk, hw]
  refine Eq.trans (t_swap32 ..) ?_
  rw [ltF_t he]; rfl
theorem low_swap33 (led : TM Int Int) (log : List (Int × H)) (last : TM Int Int) (ep : Nat → Int) (top : Int) (images : TM Int H) (yes : TM (Int × Int) Unit) (word : TM Int Int) (answers : TM (Int × Int) (Int × Int × H)) (askers : TM Int (Int × Int)) (r : RowT) (hk : r.k = 3) (hw : r.w = 3) (he : r.e < 1) :
    addR obs8 r (msJ ⟨3, led, log, last, ep, top, images, yes, word, answers, askers⟩) = obsOf (1, ⟨3, led, log, last, ep, top, images, yes, word, answers, askers⟩) (logV 8 log) (logB log) := by
  unfold addR
  rw [hk, hw]
  refine Eq.trans (t_swap33 ..) ?_
  rw [ltF_t he]; rfl
theorem low_swap41 (led : TM Int Int) (log : List (Int × H)) (last : TM Int Int) (ep : Nat → Int) (top : Int) (images : TM Int H) (yes : TM (Int × Int) Unit) (word : TM Int Int) (answers : TM (Int × Int) (Int × Int × H)) (askers : TM Int (Int × Int)) (r : RowT) (hk : r.k = 3) (hw : r.w = 1) (he : r.e < 1) :
    addR obs8 r (msJ ⟨4, led, log, last, ep, top, images, yes, word, answers, askers⟩) = obsOf (1, ⟨4, led, log, last, ep, top, images, yes, word, answers, askers⟩) (logV 8 log) (logB log) := by
  unfold addR
  rw [hk, hw]
  refine Eq.trans (t_swap41 ..) ?_
  rw [ltF_t he]; rfl
theorem low_swap42 (led : TM Int Int) (log : List (Int × H)) (last : TM Int Int) (ep : Nat → Int) (top : Int) (images : TM Int H) (yes : TM (Int × Int) Unit) (word : TM Int Int) (answers : TM (Int × Int) (Int × Int × H)) (askers : TM Int (Int × Int)) (r : RowT) (hk : r.k = 3) (hw : r.w = 2) (he : r.e < 1) :
    addR obs8 r (msJ ⟨4, led, log, last, ep, top, images, yes, word, answers, askers⟩) = obsOf (1, ⟨4, led, log, last, ep, top, images, yes, word, answers, askers⟩) (logV 8 log) (logB log) := by
  unfold addR
  rw [hk, hw]
  refine Eq.trans (t_swap42 ..) ?_
  rw [ltF_t he]; rfl
theorem low_swap43 (led : TM Int Int) (log : List (Int × H)) (last : TM Int Int) (ep : Nat → Int) (top : Int) (images : TM Int H) (yes : TM (Int × Int) Unit) (word : TM Int Int) (answers : TM (Int × Int) (Int × Int × H)) (askers : TM Int (Int × Int)) (r : RowT) (hk : r.k = 3) (hw : r.w = 3) (he : r.e < 1) :
    addR obs8 r (msJ ⟨4, led, log, last, ep, top, images, yes, word, answers, askers⟩) = obsOf (1, ⟨4, led, log, last, ep, top, images, yes, word, answers, askers⟩) (logV 8 log) (logB log) := by
  unfold addR
  rw [hk, hw]
  refine Eq.trans (t_swap43 ..) ?_
  rw [ltF_t he]; rfl
theorem low_swap44 (led : TM Int Int) (log : List (Int × H)) (last : TM Int Int) (ep : Nat → Int) (top : Int) (images : TM Int H) (yes : TM (Int × Int) Unit) (word : TM Int Int) (answers : TM (Int × Int) (Int × Int × H)) (askers : TM Int (Int × Int)) (r : RowT) (hk : r.k = 3) (hw : r.w = 4) (he : r.e < 1) :
    addR obs8 r (msJ ⟨4, led, log, last, ep, top, images, yes, word, answers, askers⟩) = obsOf (1, ⟨4, led, log, last, ep, top, images, yes, word, answers, askers⟩) (logV 8 log) (logB log) := by
  unfold addR
  rw [hk, hw]
  refine Eq.trans (t_swap44 ..) ?_
  rw [ltF_t he]; rfl
theorem low_ack1 (S : JS) (r : RowT) (h1 : 1 ≤ S.n) (hk : r.k = 4) (hw : r.w = 1) (hn : ¬ S.n < 1) (he : r.e < 1) : addR obs8 r (msJ S) = obsOf (1, S) (logV 8 S.log) (logB S.log) := by
  unfold addR
  rw [hk, hw]
  refine Eq.trans (t_ack1 ..) ?_
  rw [eqF_f (show S.n ≠ 0 by omega), ltF_f hn, ltF_t he]; rfl
theorem low_ack2 (S : JS) (r : RowT) (h1 : 1 ≤ S.n) (hk : r.k = 4) (hw : r.w = 2) (hn : ¬ S.n < 2) (he : r.e < 1) : addR obs8 r (msJ S) = obsOf (1, S) (logV 8 S.log) (logB S.log) := by
  unfold addR
  rw [hk, hw]
  refine Eq.trans (t_ack2 ..) ?_
  rw [eqF_f (show S.n ≠ 0 by omega), ltF_f hn, ltF_t he]; rfl
theorem low_ack3 (S : JS) (r : RowT) (h1 : 1 ≤ S.n) (hk : r.k = 4) (hw : r.w = 3) (hn : ¬ S.n < 3) (he : r.e < 1) : addR obs8 r (msJ S) = obsOf (1, S) (logV 8 S.log) (logB S.log) := by
  unfold addR
  rw [hk, hw]
  refine Eq.trans (t_ack3 ..) ?_
  rw [eqF_f (show S.n ≠ 0 by omega), ltF_f hn, ltF_t he]; rfl
theorem low_ack4 (S : JS) (r : RowT) (h1 : 1 ≤ S.n) (hk : r.k = 4) (hw : r.w = 4) (hn : ¬ S.n < 4) (he : r.e < 1) : addR obs8 r (msJ S) = obsOf (1, S) (logV 8 S.log) (logB S.log) := by
  unfold addR
  rw [hk, hw]
  refine Eq.trans (t_ack4 ..) ?_
  rw [eqF_f (show S.n ≠ 0 by omega), ltF_f hn, ltF_t he]; rfl
theorem add_swap (S : JS) (r : RowT) (h1 : 1 ≤ S.n) (h4 : S.n ≤ 4) (hk : r.k = 3) (hw : ¬ (r.w < 1 ∨ S.n < r.w)) (he : ¬ r.e < 1) : addR obs8 r (msJ S) = obsOf (swapJ S r) (logV 8 S.log) (logB S.log) := by
  obtain ⟨n, led, log, last, ep, top, images, yes, word, answers, askers⟩ := S
  simp only at h1 h4 hw
  rcases n_cases h1 h4 with rfl | rfl | rfl | rfl
  · exact add_swap11 _ _ _ _ _ _ _ _ _ _ r hk (by omega) he
  · rcases (show r.w = 1 ∨ r.w = 2 by omega) with h | h
    · exact add_swap21 _ _ _ _ _ _ _ _ _ _ r hk h he
    · exact add_swap22 _ _ _ _ _ _ _ _ _ _ r hk h he
  · rcases (show r.w = 1 ∨ r.w = 2 ∨ r.w = 3 by omega) with h | h | h
    · exact add_swap31 _ _ _ _ _ _ _ _ _ _ r hk h he
    · exact add_swap32 _ _ _ _ _ _ _ _ _ _ r hk h he
    · exact add_swap33 _ _ _ _ _ _ _ _ _ _ r hk h he
  · rcases (show r.w = 1 ∨ r.w = 2 ∨ r.w = 3 ∨ r.w = 4 by omega) with h | h | h | h
    · exact add_swap41 _ _ _ _ _ _ _ _ _ _ r hk h he
    · exact add_swap42 _ _ _ _ _ _ _ _ _ _ r hk h he
    · exact add_swap43 _ _ _ _ _ _ _ _ _ _ r hk h he
    · exact add_swap44 _ _ _ _ _ _ _ _ _ _ r hk h he
theorem low_swap (S : JS) (r : RowT) (h1 : 1 ≤ S.n) (h4 : S.n ≤ 4) (hk : r.k = 3) (hw : ¬ (r.w < 1 ∨ S.n < r.w)) (he : r.e < 1) : addR obs8 r (msJ S) = obsOf (1, S) (logV 8 S.log) (logB S.log) := by
  obtain ⟨n, led, log, last, ep, top, images, yes, word, answers, askers⟩ := S
  simp only at h1 h4 hw
  rcases n_cases h1 h4 with rfl | rfl | rfl | rfl
  · exact low_swap11 _ _ _ _ _ _ _ _ _ _ r hk (by omega) he
  · rcases (show r.w = 1 ∨ r.w = 2 by omega) with h | h
    · exact low_swap21 _ _ _ _ _ _ _ _ _ _ r hk h he
    · exact low_swap22 _ _ _ _ _ _ _ _ _ _ r hk h he
  · rcases (show r.w = 1 ∨ r.w = 2 ∨ r.w = 3 by omega) with h | h | h
    · exact low_swap31 _ _ _ _ _ _ _ _ _ _ r hk h he
    · exact low_swap32 _ _ _ _ _ _ _ _ _ _ r hk h he
    · exact low_swap33 _ _ _ _ _ _ _ _ _ _ r hk h he
  · rcases (show r.w = 1 ∨ r.w = 2 ∨ r.w = 3 ∨ r.w = 4 by omega) with h | h | h | h
    · exact low_swap41 _ _ _ _ _ _ _ _ _ _ r hk h he
    · exact low_swap42 _ _ _ _ _ _ _ _ _ _ r hk h he
    · exact low_swap43 _ _ _ _ _ _ _ _ _ _ r hk h he
    · exact low_swap44 _ _ _ _ _ _ _ _ _ _ r hk h he
theorem add_ack (S : JS) (r : RowT) (h1 : 1 ≤ S.n) (h4 : S.n ≤ 4) (hk : r.k = 4) (hw : ¬ (r.w < 1 ∨ S.n < r.w)) (he : ¬ r.e < 1) : addR obs8 r (msJ S) = obsOf (ackJ S r) (logV 8 S.log) (logB S.log) := by
  rcases (show r.w = 1 ∨ r.w = 2 ∨ r.w = 3 ∨ r.w = 4 by omega) with h | h | h | h
  · exact add_ack1 S r h1 hk h (by omega) he
  · exact add_ack2 S r h1 hk h (by omega) he
  · exact add_ack3 S r h1 hk h (by omega) he
  · exact add_ack4 S r h1 hk h (by omega) he
theorem low_ack (S : JS) (r : RowT) (h1 : 1 ≤ S.n) (h4 : S.n ≤ 4) (hk : r.k = 4) (hw : ¬ (r.w < 1 ∨ S.n < r.w)) (he : r.e < 1) : addR obs8 r (msJ S) = obsOf (1, S) (logV 8 S.log) (logB S.log) := by
  rcases (show r.w = 1 ∨ r.w = 2 ∨ r.w = 3 ∨ r.w = 4 by omega) with h | h | h | h
  · exact low_ack1 S r h1 hk h (by omega) he
  · exact low_ack2 S r h1 hk h (by omega) he
  · exact low_ack3 S r h1 hk h (by omega) he
  · exact low_ack4 S r h1 hk h (by omega) he
theorem add_jud (S : JS) (r : RowT) (h1 : 1 ≤ S.n) (h4 : S.n ≤ 4) (hk : r.k = 6) (hw : ¬ (r.w < 1 ∨ S.n < r.w)) : addR obs8 r (msJ S) = obsOf (judJ S r) (logV 8 S.log) (logB S.log) := by
  rcases (show r.w = 1 ∨ r.w = 2 ∨ r.w = 3 ∨ r.w = 4 by omega) with h | h | h | h
  · exact add_jud1 S r h1 hk h (by omega)
  · exact add_jud2 S r h1 hk h (by omega)
  · exact add_jud3 S r h1 hk h (by omega)
  · exact add_jud4 S r h1 hk h (by omega)
theorem add_told (S : JS) (r : RowT) (hn : S.n ≠ 0) (hk : r.k = 5) : addR obs8 r (msJ S) = obsOf (toldJ S r) (logV 8 S.log) (logB S.log) := by
  by_cases hy : r.y = false
  · exact add_toldN S r hn hk hy
  have hy : r.y = true := by simpa using hy
  by_cases hc : r.c = 61
  · exact add_toldO S r hn hk hy hc
  obtain ⟨k, w, t, i, e, s, st, c, tr, y, h, v⟩ := r
  obtain rfl : k = 5 := hk
  obtain rfl : y = true := hy
  cases c with
  | ofNat a =>
    cases a with
    | zero =>
      cases e with
      | ofNat b =>
        cases b with
        | zero => exact add_toldZ S hn w t i 0 s st 0 tr h v
        | succ b => exact add_toldP S hn w t i 0 s st 0 tr h v b
      | negSucc b => exact add_toldZn S hn w t i 0 s st 0 tr h v b
    | succ a => exact add_toldC S hn w t i e s st 0 tr h v a hc
  | negSucc a => exact add_toldCn S hn w t i e s st 0 tr h v a
def rowR (r : RowT) : List Value := rowC r.k r.w r.t r.i r.e r.s r.st r.c r.tr r.y r.h r.v
noncomputable def callA (S : JS) (r : RowT) : Option (Value × Mem) := callD Try.prog kp 0 20 13 [.pointer (some ⟨0, 0, none⟩), .agg ⟨rowR r⟩] (msJ S)
theorem addR_eq (o : Value → Mem → Option Obs) (S : JS) (r : RowT) : addR o r (msJ S) = onV (callA S r) o := by unfold addR add callA rowR; exact Y.callK_eq ..
structure Lies (S : JS) (N : Nat) (m : Mem) : Prop where
  b0 : m.get 0 = .cells true (judS S (logV N S.log))
  b1 : m.get 1 = mapB ekI ekI S.led
  b2 : m.get 2 = mapB ekI ekI S.last
  b3 : m.get 3 = mapB ekI evH S.images
  b4 : m.get 4 = mapB ekP evU S.yes
  b5 : m.get 5 = mapB ekI ekI S.word
  b6 : m.get 6 = mapB ekP evA S.answers
  b7 : m.get 7 = mapB ekI ekP S.askers
  b8 : S.log ≠ [] → m.get N = .cells true (logC S.log)
theorem lies8 {S : JS} {r : RowT} {q : Int × JS} (hl : q.2.log = S.log) (h : addR obs8 r (msJ S) = obsOf q (logV 8 S.log) (logB S.log)) : ∃ m, callA S r = some (.int .i64 q.1, m) ∧ Lies q.2 8 m := by
  rw [addR_eq] at h
  cases hc : callA S r with
  | none => rw [hc] at h; simp [obsOf, onV] at h
  | some p =>
    obtain ⟨v, m⟩ := p
    rw [hc] at h
    simp only [onV, obs8, obsOf, Option.some.injEq, Prod.mk.injEq] at h
    obtain ⟨h0, h1, h2, h3, h4, h5, h6, h7, h8, h9⟩ := h
    subst h0
    exact ⟨m, rfl, by rw [hl]; exact h1, h2, h3, h4, h5, h6, h7, h8, fun hne => by rw [h9, hl, logB_ne (hl ▸ hne)]⟩
theorem lies {S : JS} {r : RowT} {q : Int × JS} {N : Nat} (h : addR obs r (msJ S) = obsOf q (logV N q.2.log) (logB q.2.log)) : ∃ m, callA S r = some (.int .i64 q.1, m) ∧ Lies q.2 N m := by
  rw [addR_eq] at h
  cases hc : callA S r with
  | none => rw [hc] at h; simp [obsOf, onV] at h
  | some p =>
    obtain ⟨v, m⟩ := p
    rw [hc] at h
    simp only [onV, obs, obsOf, Option.some.injEq, Prod.mk.injEq] at h
    obtain ⟨h0, h1, h2, h3, h4, h5, h6, h7, h8, h9⟩ := h
    subst h0
    refine ⟨m, rfl, h1, h2, h3, h4, h5, h6, h7, h8, fun hne => ?_⟩
    rw [logB_ne hne] at h9
    rw [← h9, logOf, h1, judS, judC, logV_ne N hne]
theorem swapJ_log (S : JS) (r : RowT) : (swapJ S r).2.log = S.log := by unfold swapJ; (repeat' split) <;> rfl
theorem ledJ_log (S : JS) (r : RowT) : (ledJ S r).2.log = S.log := by unfold ledJ; (repeat' split) <;> rfl
theorem ackJ_log (S : JS) (r : RowT) : (ackJ S r).2.log = S.log := by unfold ackJ; (repeat' split) <;> rfl
theorem toldJ_log (S : JS) (r : RowT) : (toldJ S r).2.log = S.log := by unfold toldJ; (repeat' split) <;> rfl
theorem judJ_log (S : JS) (r : RowT) : (judJ S r).2.log = S.log := by unfold judJ; (repeat' split) <;> rfl
theorem add_small (S : JS) (r : RowT) (hS : S.Ok) (hlen : S.log.length ≤ 1000000) (hi : -9223372036854775808 ≤ r.i ∧ r.i ≤ 9223372036854775807) :
    ∃ N m, callA S r = some (.int .i64 (addJ S r).1, m) ∧ Lies (addJ S r).2 N m ∧ (N = 8 ∧ (addJ S r).2.log = S.log ∨ 9 ≤ N) := by
  have hn : S.n ≠ 0 := by have := hS.n1; omega
  have e8 : ∀ {q : Int × JS}, q.2.log = S.log → addR obs8 r (msJ S) = obsOf q (logV 8 S.log) (logB S.log) → ∃ N m, callA S r = some (.int .i64 q.1, m) ∧ Lies q.2 N m ∧ (N = 8 ∧ q.2.log = S.log ∨ 9 ≤ N) := fun hl h => by
    obtain ⟨m, h1, h2⟩ := lies8 hl h
    exact ⟨8, m, h1, h2, .inl ⟨rfl, hl⟩⟩
  unfold addJ
  split
  · rename_i h; exact e8 (q := (1, S)) rfl (add_bad S r h)
  split
  · rename_i h; exact e8 (q := (1, S)) rfl (add_who S r hS.n1 hS.n4 h.1 h.2)
  rename_i hk0 hw0
  split
  · rename_i h
    rcases h with ⟨h | h, he⟩
    · exact e8 (q := (1, S)) rfl (low_swap S r hS.n1 hS.n4 h (fun g => hw0 ⟨.inl h, g⟩) he)
    · exact e8 (q := (1, S)) rfl (low_ack S r hS.n1 hS.n4 h (fun g => hw0 ⟨.inr (.inl h), g⟩) he)
  rename_i he0
  split
  · rename_i h; exact e8 (ledJ_log S r) (add_led S r hn h)
  split
  · rename_i h
    by_cases hl : S.log = []
    · obtain ⟨n, led, log, last, ep, top, images, yes, word, answers, askers⟩ := S
      simp only at hl
      subst hl
      obtain ⟨N, hN, hr⟩ := add_sure0 n led last ep top images yes word answers askers r hn h (fun w v hw => hS.last w v hw) hi
      obtain ⟨m, h1, h2⟩ := lies hr
      exact ⟨N, m, h1, h2, .inr hN⟩
    · obtain ⟨N, hN, hr⟩ := add_sure1 S r hn h hl hlen hS.last hi
      obtain ⟨m, h1, h2⟩ := lies hr
      exact ⟨N, m, h1, h2, hN⟩
  split
  · rename_i h; exact e8 (swapJ_log S r) (add_swap S r hS.n1 hS.n4 h (fun g => hw0 ⟨.inl h, g⟩) (fun g => he0 ⟨.inl h, g⟩))
  split
  · rename_i h; exact e8 (ackJ_log S r) (add_ack S r hS.n1 hS.n4 h (fun g => hw0 ⟨.inr (.inl h), g⟩) (fun g => he0 ⟨.inr h, g⟩))
  split
  · rename_i h; exact e8 (toldJ_log S r) (add_told S r hn h)
  split
  · rename_i h; exact e8 (judJ_log S r) (add_jud S r hS.n1 hS.n4 h (fun g => hw0 ⟨.inr (.inr h), g⟩))
  · rename_i h1 h2 h3 h4 h5 h6
    exact e8 (q := (0, S)) rfl (add_fell S r hn (by omega))
end
end Go.Proofs.Ytfpbiojnbffkpaa
namespace Go.Proofs.Ytfpbiojnbffkpaa
open Go Go.DI Go.Proofs Go.Jud
noncomputable section
open Classical in
def freeB : Blk → Prop
  | .cells _ c => ∀ x ∈ c, Free x
  | .map _ es _ => ∀ e ∈ es, Free e.key ∧ Free e.val
  | _ => False
open Classical in
def keepB (x : Blk) : Blk := if freeB x then x else .none
theorem keepB_of {x : Blk} (h : freeB x) : keepB x = x := if_pos h
theorem keepB_emb (ρ : Nat → Nat) (x : Blk) : keepB x = .none ∨ BEmb ρ x (keepB x) := by
  unfold keepB
  split
  · rename_i h
    right
    cases x with
    | none => exact h.elim
    | cells o c => exact bemb_free h
    | map o es c => exact bemb_mapFree h
    | siter => exact h.elim
  · exact .inl rfl
theorem freeB_sim {ρ : Nat → Nat} {A : Nat → Bool} {x : Blk} (h : freeB x) : BSim ρ A x x := by
  cases x with
  | none => exact h.elim
  | cells o c => exact bsim_free h
  | map o es c => exact bsim_mapFree h
  | siter => exact h.elim
def judL (n lg e0 e1 e2 e3 e4 tp : Value) (b1 b2 b3 b4 b5 b6 b7 : Nat) : List Value :=
  [n, .map (some b1), lg, .map (some b2), e0, e1, e2, e3, e4, tp, .map (some b3), .map (some b4), .map (some b5), .map (some b6), .map (some b7)]
def rhoJ (M : Mem) (b b1 b2 b3 b4 b5 b6 b7 b8 : Nat) (i : Nat) : Nat :=
  match i with
  | 0 => b | 1 => b1 | 2 => b2 | 3 => b3 | 4 => b4 | 5 => b5 | 6 => b6 | 7 => b7 | 8 => b8
  | i + 9 => M.size + i
def seeJ (a8 : Bool) (i : Nat) : Bool := Nat.blt i 8 || (a8 && Nat.beq i 8)
def renL (ρ : Nat → Nat) : Value → Option Value
  | .slice none l c => some (.slice none l c)
  | .slice (some ⟨i, o, sp⟩) l c => some (.slice (some ⟨ρ i, o, sp⟩) l c)
  | _ => none
open Classical in
def backJ (ρ : Nat → Nat) : Blk → Blk
  | .cells o [n, .map (some 1), lg, .map (some 2), e0, e1, e2, e3, e4, tp, .map (some 3), .map (some 4), .map (some 5), .map (some 6), .map (some 7)] =>
    match renL ρ lg with
    | some lg' => if Free n ∧ Free e0 ∧ Free e1 ∧ Free e2 ∧ Free e3 ∧ Free e4 ∧ Free tp then .cells o (judL n lg' e0 e1 e2 e3 e4 tp (ρ 1) (ρ 2) (ρ 3) (ρ 4) (ρ 5) (ρ 6) (ρ 7)) else .none
    | none => .none
  | _ => .none
def backM (M m : Mem) (ρ : Nat → Nat) (a8 : Bool) : Mem :=
  ⟨fun j => if M.size ≤ j then (if j < M.size + (m.size - 9) then keepB (m.get (9 + (j - M.size))) else .none)
    else if j = ρ 0 then backJ ρ (m.get 0) else if j = ρ 1 then keepB (m.get 1) else if j = ρ 2 then keepB (m.get 2) else if j = ρ 3 then keepB (m.get 3)
    else if j = ρ 4 then keepB (m.get 4) else if j = ρ 5 then keepB (m.get 5) else if j = ρ 6 then keepB (m.get 6) else if j = ρ 7 then keepB (m.get 7)
    else if a8 = true ∧ j = ρ 8 then keepB (m.get 8) else M.get j, .nil, M.size + (m.size - 9)⟩
structure CondJ (M : Mem) (ρ : Nat → Nat) (a8 : Bool) (n e0 e1 e2 e3 e4 tp row v : Value) (lgS lg : Value) : Prop where
  top : M.top
  lt : ∀ i, seeJ a8 i = true → ρ i < M.size
  inj : ∀ i j, seeJ a8 i = true → seeJ a8 j = true → ρ i = ρ j → i = j
  fn : Free n ∧ Free e0 ∧ Free e1 ∧ Free e2 ∧ Free e3 ∧ Free e4 ∧ Free tp
  fb : ∀ i, 1 ≤ i → seeJ a8 i = true → freeB (M.get (ρ i))
  frow : Free row
  fv : Free v
  flg : (a8 = false ∧ lgS = lg ∧ Free lg) ∨ (a8 = true ∧ ∃ b8 o sp l c, ρ 8 = b8 ∧ lgS = .slice (some ⟨8, o, sp⟩) l c ∧ lg = .slice (some ⟨b8, o, sp⟩) l c)
open Classical in
def goJ (M : Mem) (a8 : Bool) (n lgS lg e0 e1 e2 e3 e4 tp : Value) (b b1 b2 b3 b4 b5 b6 b7 b8 : Nat) (row : Value) : Option (Value × Mem) :=
  match callD Try.prog kp 0 20 13 [.pointer (some ⟨0, 0, none⟩), row] (ms (judL n lgS e0 e1 e2 e3 e4 tp 1 2 3 4 5 6 7) (M.get b1) (M.get b2) (M.get b3) (M.get b4) (M.get b5) (M.get b6) (M.get b7) (cond a8 (M.get b8) .none)) with
  | some (v, m) => if CondJ M (rhoJ M b b1 b2 b3 b4 b5 b6 b7 b8) a8 n e0 e1 e2 e3 e4 tp row v lgS lg then some (v, backM M m (rhoJ M b b1 b2 b3 b4 b5 b6 b7 b8) a8) else none
  | none => none
def o13 : Orc := fun f args M =>
  if f = 13 then
    match args with
    | [.pointer (some ⟨b, 0, none⟩), row] => match M.get b with
      | .cells true [n, .map (some b1), lg, .map (some b2), e0, e1, e2, e3, e4, tp, .map (some b3), .map (some b4), .map (some b5), .map (some b6), .map (some b7)] =>
        match lg with
        | .slice none l c => goJ M false n (.slice none l c) (.slice none l c) e0 e1 e2 e3 e4 tp b b1 b2 b3 b4 b5 b6 b7 0 row
        | .slice (some ⟨b8, o, sp⟩) l c => goJ M true n (.slice (some ⟨8, o, sp⟩) l c) (.slice (some ⟨b8, o, sp⟩) l c) e0 e1 e2 e3 e4 tp b b1 b2 b3 b4 b5 b6 b7 b8 row
        | _ => none
      | _ => none
    | _ => none
  else none
theorem seeJ_lt {a8 : Bool} {i : Nat} (h : seeJ a8 i = true) : i < 9 := by
  simp only [seeJ, Bool.or_eq_true, Bool.and_eq_true, Nat.blt_eq] at h
  rcases h with h | ⟨_, h⟩
  · omega
  · have := Nat.eq_of_beq_eq_true h; omega
theorem seeJ_low (a8 : Bool) {i : Nat} (h : i < 8) : seeJ a8 i = true := by
  simp only [seeJ, Bool.or_eq_true, Nat.blt_eq]; exact .inl h
theorem ms_get (J : List Value) (c1 c2 c3 c4 c5 c6 c7 c8 : Blk) : (ms J c1 c2 c3 c4 c5 c6 c7 c8).size = 9 ∧ (ms J c1 c2 c3 c4 c5 c6 c7 c8).get 0 = .cells true J ∧ (ms J c1 c2 c3 c4 c5 c6 c7 c8).get 1 = c1 ∧ (ms J c1 c2 c3 c4 c5 c6 c7 c8).get 2 = c2 ∧ (ms J c1 c2 c3 c4 c5 c6 c7 c8).get 3 = c3 ∧
    (ms J c1 c2 c3 c4 c5 c6 c7 c8).get 4 = c4 ∧ (ms J c1 c2 c3 c4 c5 c6 c7 c8).get 5 = c5 ∧ (ms J c1 c2 c3 c4 c5 c6 c7 c8).get 6 = c6 ∧ (ms J c1 c2 c3 c4 c5 c6 c7 c8).get 7 = c7 ∧ (ms J c1 c2 c3 c4 c5 c6 c7 c8).get 8 = c8 := by
  exact ⟨by kernel_rfl, by kernel_rfl, by kernel_rfl, by kernel_rfl, by kernel_rfl, by kernel_rfl, by kernel_rfl, by kernel_rfl, by kernel_rfl, by kernel_rfl⟩
theorem ms_top (J : List Value) (c1 c2 c3 c4 c5 c6 c7 c8 : Blk) : (ms J c1 c2 c3 c4 c5 c6 c7 c8).top := by
  intro b hb
  have hb : 9 ≤ b := hb
  unfold ms
  rw [Mem.get_push_ne _ (by show b ≠ 8; omega), Mem.get_push_ne _ (by show b ≠ 7; omega), Mem.get_push_ne _ (by show b ≠ 6; omega), Mem.get_push_ne _ (by show b ≠ 5; omega), Mem.get_push_ne _ (by show b ≠ 4; omega), Mem.get_push_ne _ (by show b ≠ 3; omega), Mem.get_push_ne _ (by show b ≠ 2; omega), Mem.get_push_ne _ (by show b ≠ 1; omega), Mem.get_push_ne _ (by show b ≠ 0; omega)]
  rfl
theorem backM_get (M m : Mem) (ρ : Nat → Nat) (a8 : Bool) (j : Nat) : (backM M m ρ a8).get j = if M.size ≤ j then (if j < M.size + (m.size - 9) then keepB (m.get (9 + (j - M.size))) else .none)
    else if j = ρ 0 then backJ ρ (m.get 0) else if j = ρ 1 then keepB (m.get 1) else if j = ρ 2 then keepB (m.get 2) else if j = ρ 3 then keepB (m.get 3)
    else if j = ρ 4 then keepB (m.get 4) else if j = ρ 5 then keepB (m.get 5) else if j = ρ 6 then keepB (m.get 6) else if j = ρ 7 then keepB (m.get 7)
    else if a8 = true ∧ j = ρ 8 then keepB (m.get 8) else M.get j := by
  simp only [Mem.get, backM, Tr.get_nil]
theorem backM_at {M m : Mem} {ρ : Nat → Nat} {a8 : Bool} (lt : ∀ i, seeJ a8 i = true → ρ i < M.size) (inj : ∀ i j, seeJ a8 i = true → seeJ a8 j = true → ρ i = ρ j → i = j) :
    (backM M m ρ a8).get (ρ 0) = backJ ρ (m.get 0) ∧ ∀ i, 1 ≤ i → seeJ a8 i = true → (backM M m ρ a8).get (ρ i) = keepB (m.get i) := by
  have l := fun i h => lt i (seeJ_low a8 (i := i) h)
  have ne : ∀ i j, seeJ a8 i = true → seeJ a8 j = true → i ≠ j → ρ i ≠ ρ j := fun i j hi hj h g => h (inj i j hi hj g)
  refine ⟨?_, fun i h1 hi => ?_⟩
  · rw [backM_get, if_neg (by have := l 0 (by omega); omega), if_pos rfl]
  · have hlt := lt i hi
    have h9 := seeJ_lt hi
    rw [backM_get, if_neg (by omega), if_neg (ne i 0 hi (seeJ_low a8 (by omega)) (by omega))]
    rcases (show i = 1 ∨ i = 2 ∨ i = 3 ∨ i = 4 ∨ i = 5 ∨ i = 6 ∨ i = 7 ∨ i = 8 by omega) with rfl | rfl | rfl | rfl | rfl | rfl | rfl | rfl
    · rw [if_pos rfl]
    · rw [if_neg (ne 2 1 hi (seeJ_low a8 (by omega)) (by omega)), if_pos rfl]
    · rw [if_neg (ne 3 1 hi (seeJ_low a8 (by omega)) (by omega)), if_neg (ne 3 2 hi (seeJ_low a8 (by omega)) (by omega)), if_pos rfl]
    · rw [if_neg (ne 4 1 hi (seeJ_low a8 (by omega)) (by omega)), if_neg (ne 4 2 hi (seeJ_low a8 (by omega)) (by omega)), if_neg (ne 4 3 hi (seeJ_low a8 (by omega)) (by omega)), if_pos rfl]
    · rw [if_neg (ne 5 1 hi (seeJ_low a8 (by omega)) (by omega)), if_neg (ne 5 2 hi (seeJ_low a8 (by omega)) (by omega)), if_neg (ne 5 3 hi (seeJ_low a8 (by omega)) (by omega)), if_neg (ne 5 4 hi (seeJ_low a8 (by omega)) (by omega)), if_pos rfl]
    · rw [if_neg (ne 6 1 hi (seeJ_low a8 (by omega)) (by omega)), if_neg (ne 6 2 hi (seeJ_low a8 (by omega)) (by omega)), if_neg (ne 6 3 hi (seeJ_low a8 (by omega)) (by omega)), if_neg (ne 6 4 hi (seeJ_low a8 (by omega)) (by omega)), if_neg (ne 6 5 hi (seeJ_low a8 (by omega)) (by omega)), if_pos rfl]
    · rw [if_neg (ne 7 1 hi (seeJ_low a8 (by omega)) (by omega)), if_neg (ne 7 2 hi (seeJ_low a8 (by omega)) (by omega)), if_neg (ne 7 3 hi (seeJ_low a8 (by omega)) (by omega)), if_neg (ne 7 4 hi (seeJ_low a8 (by omega)) (by omega)), if_neg (ne 7 5 hi (seeJ_low a8 (by omega)) (by omega)), if_neg (ne 7 6 hi (seeJ_low a8 (by omega)) (by omega)), if_pos rfl]
    · have ha : a8 = true := by simpa [seeJ] using hi
      rw [if_neg (ne 8 1 hi (seeJ_low a8 (by omega)) (by omega)), if_neg (ne 8 2 hi (seeJ_low a8 (by omega)) (by omega)), if_neg (ne 8 3 hi (seeJ_low a8 (by omega)) (by omega)), if_neg (ne 8 4 hi (seeJ_low a8 (by omega)) (by omega)), if_neg (ne 8 5 hi (seeJ_low a8 (by omega)) (by omega)), if_neg (ne 8 6 hi (seeJ_low a8 (by omega)) (by omega)), if_neg (ne 8 7 hi (seeJ_low a8 (by omega)) (by omega)), if_pos ⟨ha, rfl⟩]
theorem backM_new {M m : Mem} {ρ : Nat → Nat} {a8 : Bool} {i : Nat} (h9 : 9 ≤ i) (h : i < m.size) : (backM M m ρ a8).get (M.size + (i - 9)) = keepB (m.get i) := by
  rw [backM_get, if_pos (by omega), if_pos (by omega)]
  congr 2; omega
theorem backM_rest {M m : Mem} {ρ : Nat → Nat} {a8 : Bool} {j : Nat} (h : j < M.size) (hn : ∀ i, seeJ a8 i = true → ρ i ≠ j) : (backM M m ρ a8).get j = M.get j := by
  have l := fun i h => hn i (seeJ_low a8 (i := i) h)
  rw [backM_get, if_neg (by omega), if_neg (Ne.symm (l 0 (by omega))), if_neg (Ne.symm (l 1 (by omega))), if_neg (Ne.symm (l 2 (by omega))), if_neg (Ne.symm (l 3 (by omega))), if_neg (Ne.symm (l 4 (by omega))), if_neg (Ne.symm (l 5 (by omega))), if_neg (Ne.symm (l 6 (by omega))), if_neg (Ne.symm (l 7 (by omega))), if_neg]
  rintro ⟨ha, rfl⟩
  exact hn 8 (by simp [seeJ, ha]) rfl
theorem renL_emb {ρ : Nat → Nat} {v v' : Value} (h : renL ρ v = some v') : VEmb ρ v v' := by
  unfold renL at h
  split at h
  · cases h; exact (free_slc0 _ _).emb ρ
  · rename_i i o sp l c
    cases h
    cases sp with
    | none => exact emb_slc
    | some e => exact emb_loose
  · cases h
theorem backJ_emb (ρ : Nat → Nat) (x : Blk) : backJ ρ x = .none ∨ BEmb ρ x (backJ ρ x) := by
  unfold backJ
  split
  · split
    · rename_i lg' hlg
      split
      · rename_i hf
        obtain ⟨f1, f2, f3, f4, f5, f6, f7⟩ := hf
        right
        refine bemb_cells rfl fun i u v hu hv => ?_
        have hl := renL_emb hlg
        have mp : ∀ k, VEmb ρ (.map (some k)) (.map (some (ρ k))) := fun k => emb_map
        have hi : i < 15 := by have := (List.getElem?_eq_some_iff.1 hu).1; simpa using this
        rcases (show i = 0 ∨ i = 1 ∨ i = 2 ∨ i = 3 ∨ i = 4 ∨ i = 5 ∨ i = 6 ∨ i = 7 ∨ i = 8 ∨ i = 9 ∨ i = 10 ∨ i = 11 ∨ i = 12 ∨ i = 13 ∨ i = 14 by omega) with rfl | rfl | rfl | rfl | rfl | rfl | rfl | rfl | rfl | rfl | rfl | rfl | rfl | rfl | rfl <;> cases hu <;> cases hv <;>
          first | exact hl | exact mp _ | exact f1.emb ρ | exact f2.emb ρ | exact f3.emb ρ | exact f4.emb ρ | exact f5.emb ρ | exact f6.emb ρ | exact f7.emb ρ
      · exact .inl rfl
    · exact .inl rfl
  · exact .inl rfl
theorem goJ_ok (hmix : Try.prog.follows .mixedOrders = true) (hK : Plain Try.prog kp) (hng : NoNG Try.prog) {B0 : Nat} {M M' : Mem} {a8 : Bool} {n lgS lg e0 e1 e2 e3 e4 tp row v : Value} {b b1 b2 b3 b4 b5 b6 b7 b8 : Nat}
    (hb : M.get b = .cells true (judL n lg e0 e1 e2 e3 e4 tp b1 b2 b3 b4 b5 b6 b7)) (h : goJ M a8 n lgS lg e0 e1 e2 e3 e4 tp b b1 b2 b3 b4 b5 b6 b7 b8 row = some (v, M')) :
    CallOK Try.prog B0 0 13 [.pointer (some ⟨b, 0, none⟩), row] M v M' ∧ Grw M M' := by
  unfold goJ at h
  split at h <;> try (simp at h; done)
  rename_i v0 m hc
  split at h <;> simp at h
  rename_i hcond
  obtain ⟨rfl, rfl⟩ := h
  obtain ⟨top, lt, inj, ⟨f1, f2, f3, f4, f5, f6, f7⟩, fb, frow, fv, flg⟩ := hcond
  have hg := callD_grw 20 13 _ _ _ _ hc
  obtain ⟨gs, g0, g1, g2, g3, g4, g5, g6, g7, g8⟩ := ms_get (judL n lgS e0 e1 e2 e3 e4 tp 1 2 3 4 5 6 7) (M.get b1) (M.get b2) (M.get b3) (M.get b4) (M.get b5) (M.get b6) (M.get b7) (cond a8 (M.get b8) .none)
  have gsz := hg.size
  rw [gs] at gsz
  obtain ⟨hat0, hat⟩ := backM_at (m := m) lt inj
  have hloc : Local (rhoJ M b b1 b2 b3 b4 b5 b6 b7 b8) (seeJ a8) (ms (judL n lgS e0 e1 e2 e3 e4 tp 1 2 3 4 5 6 7) (M.get b1) (M.get b2) (M.get b3) (M.get b4) (M.get b5) (M.get b6) (M.get b7) (cond a8 (M.get b8) .none)) m M (backM M m (rhoJ M b b1 b2 b3 b4 b5 b6 b7 b8) a8) := by
    refine ⟨fun i hi => by rw [gs]; exact seeJ_lt hi, hg, ms_top _ _ _ _ _ _ _ _ _, fun j hj => ?_, lt, fun i j hi hj _ _ e => inj i j hi hj e, fun i h1 h2 => ?_, by rw [gs]; rfl, fun i hi => ?_, fun i h1 h2 => ?_, fun j hj hn => backM_rest hj hn⟩
    · have hj' : M.size + (m.size - 9) ≤ j := hj
      rw [backM_get, if_pos (by omega), if_neg (by omega)]
    · rw [gs] at h1 ⊢
      obtain ⟨k, rfl⟩ : ∃ k, i = k + 9 := ⟨i - 9, by omega⟩
      rfl
    · have h9 := seeJ_lt hi
      have fbi := fun h1 => fb i h1 hi
      rcases (show i = 0 ∨ i = 1 ∨ i = 2 ∨ i = 3 ∨ i = 4 ∨ i = 5 ∨ i = 6 ∨ i = 7 ∨ i = 8 by omega) with rfl | rfl | rfl | rfl | rfl | rfl | rfl | rfl | rfl
      · rw [g0]
        show BSim _ _ _ (M.get b)
        rw [hb]
        refine bsim_cells rfl fun i u w hu hw => ?_
        have mp : ∀ k, k < 8 → VSim (rhoJ M b b1 b2 b3 b4 b5 b6 b7 b8) (seeJ a8) (.map (some k)) (.map (some (rhoJ M b b1 b2 b3 b4 b5 b6 b7 b8 k))) := fun k hk => sim_map (seeJ_low a8 hk)
        have hlg : VSim (rhoJ M b b1 b2 b3 b4 b5 b6 b7 b8) (seeJ a8) lgS lg := by
          rcases flg with ⟨_, rfl, hf⟩ | ⟨ha, c8, o, sp, l, c, e8, rfl, rfl⟩
          · exact hf.sim _ _
          · subst e8
            have h8 : seeJ a8 8 = true := by simp [seeJ, ha]
            cases sp with
            | none => exact sim_slc h8
            | some e => exact sim_loose h8
        have hi : i < 15 := by have := (List.getElem?_eq_some_iff.1 hu).1; simpa [judL] using this
        rcases (show i = 0 ∨ i = 1 ∨ i = 2 ∨ i = 3 ∨ i = 4 ∨ i = 5 ∨ i = 6 ∨ i = 7 ∨ i = 8 ∨ i = 9 ∨ i = 10 ∨ i = 11 ∨ i = 12 ∨ i = 13 ∨ i = 14 by omega) with rfl | rfl | rfl | rfl | rfl | rfl | rfl | rfl | rfl | rfl | rfl | rfl | rfl | rfl | rfl <;> cases hu <;> cases hw <;>
          first | exact hlg | exact mp 1 (by omega) | exact mp 2 (by omega) | exact mp 3 (by omega) | exact mp 4 (by omega) | exact mp 5 (by omega) | exact mp 6 (by omega) | exact mp 7 (by omega) | exact f1.sim _ _ | exact f2.sim _ _ | exact f3.sim _ _ | exact f4.sim _ _ | exact f5.sim _ _ | exact f6.sim _ _ | exact f7.sim _ _
      · rw [g1]; exact freeB_sim (fbi (by omega))
      · rw [g2]; exact freeB_sim (fbi (by omega))
      · rw [g3]; exact freeB_sim (fbi (by omega))
      · rw [g4]; exact freeB_sim (fbi (by omega))
      · rw [g5]; exact freeB_sim (fbi (by omega))
      · rw [g6]; exact freeB_sim (fbi (by omega))
      · rw [g7]; exact freeB_sim (fbi (by omega))
      · have ha : a8 = true := by simpa [seeJ] using hi
        rw [g8, ha]; exact freeB_sim (fbi (by omega))
    · rw [gs] at h2
      by_cases h9 : 9 ≤ i
      · obtain ⟨k, rfl⟩ : ∃ k, i = k + 9 := ⟨i - 9, by omega⟩
        have := backM_new (M := M) (ρ := rhoJ M b b1 b2 b3 b4 b5 b6 b7 b8) (a8 := a8) h9 h1
        simp only [Nat.add_sub_cancel] at this
        rw [show rhoJ M b b1 b2 b3 b4 b5 b6 b7 b8 (k + 9) = M.size + k from rfl, this]
        exact keepB_emb _ _
      · have hi : seeJ a8 i = true := h2.elim id fun g => absurd g h9
        by_cases h0 : i = 0
        · subst h0
          rw [hat0]; exact backJ_emb _ _
        · rw [hat i (by omega) hi]; exact keepB_emb _ _
  constructor
  · have hp : VSim (rhoJ M b b1 b2 b3 b4 b5 b6 b7 b8) (seeJ a8) (.pointer (some ⟨0, 0, none⟩)) (.pointer (some ⟨b, 0, none⟩)) := sim_ptr (i := 0) (seeJ_low a8 (by omega))
    exact embed ((callD_ok hmix hK hng 20).ok _ _ _ _ _ hc) hloc (.cons hp (.cons (frow.sim _ _) .nil)) (fv.emb _)
  · refine ⟨by show M.size ≤ M.size + _; omega, fun _ => hloc.top', fun j hj hl => ?_, fun j hj ho => ?_⟩
    · by_cases hx : ∃ i, seeJ a8 i = true ∧ rhoJ M b b1 b2 b3 b4 b5 b6 b7 b8 i = j
      · obtain ⟨i, hi, rfl⟩ := hx
        have h9 := seeJ_lt hi
        by_cases h0 : i = 0
        · subst h0
          show (M.get b).live
          rw [hb]; trivial
        · have := fb i (by omega) hi
          cases hm : M.get (rhoJ M b b1 b2 b3 b4 b5 b6 b7 b8 i) with
          | none => rw [hm] at this; exact this.elim
          | cells => trivial
          | map => trivial
          | siter => trivial
      · rw [backM_rest hj (fun i hi e => hx ⟨i, hi, e⟩)] at hl; exact hl
    · by_cases hx : ∃ i, seeJ a8 i = true ∧ rhoJ M b b1 b2 b3 b4 b5 b6 b7 b8 i = j
      · obtain ⟨i, hi, rfl⟩ := hx
        have h9 := seeJ_lt hi
        rcases hloc.emb i (by omega) (.inl hi) with g | g
        · rw [g] at ho; simp [Blk.own] at ho
        · exact (hloc.sim i hi).own (hg.own i (by rw [gs]; omega) (g.own ho))
      · rw [backM_rest hj (fun i hi e => hx ⟨i, hi, e⟩)] at ho; exact ho
end
end Go.Proofs.Ytfpbiojnbffkpaa
namespace Go.DI
open Go.RowKit
theorem calls_trueY {P : Program} {K : TypeId → Bool} {k : Nat} {f : FuncId} (hmix : P.follows .mixedOrders = true) (hK : Plain P K) (hng : NoNG P) (h : Y.callK P K 0 k f [] m0 (fun v m => some (isT (some (v, m)))) = some true) (w : World) :
    Calls P f #[] w fun e w' => e = .returned (.bool true) ∧ Below w.heap.size w w' := by
  refine calls_trueD (k := k) hmix hK hng ?_ w
  rw [Y.callK_eq] at h
  cases hc : callD P K 0 k f [] m0 with
  | none => rw [hc] at h; cases h
  | some r => rw [hc] at h; exact Option.some.inj h
end Go.DI
