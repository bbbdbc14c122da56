/-
  JAddA: Add on a judge that is laid by itself: what is answered, and what is held then (rows that are Led, or of no node).
-/
import Derived.Test.YtfpbiojnbffkpaaC11
set_option linter.all false
set_option linter.unusedVariables false
set_option linter.unusedSimpArgs false
namespace Go.Proofs.Ytfpbiojnbffkpaa
open Go Go.DI Go.Proofs Go.Jud
noncomputable section
def ekI (a : Int) : Value := .int .i64 a
def ekP (p : Int × Int) : Value := .agg ⟨[.int .i64 p.1, .int .i64 p.2]⟩
def evH (h : H) : Value := .agg ⟨hashC h⟩
def evU (_ : Unit) : Value := .agg ⟨[]⟩
def evA (x : Int × Int × H) : Value := .agg ⟨[.int .i64 x.1, .int .i64 x.2.1] ++ hashC x.2.2⟩
def entC (x : Int × H) : List Value := .int .i64 x.1 :: hashC x.2
def logC (l : List (Int × H)) : List Value := l.flatMap entC
def mapB {κ ν : Type} (ek : κ → Value) (ev : ν → Value) (m : TM κ ν) : Blk := .map true (entsL ek ev m.l) m.ck
def logV (i : Nat) (l : List (Int × H)) : Value := match l with | [] => .slice none 0 0 | _ => .slice (some ⟨i, 0, some 33⟩) l.length l.length
def logB (l : List (Int × H)) : Blk := match l with | [] => .none | _ => .cells true (logC l)
def judS (S : JS) (lv : Value) : List Value := judC S.n lv (S.ep 0) (S.ep 1) (S.ep 2) (S.ep 3) (S.ep 4) S.top
def msJ (S : JS) : Mem := ms (judS S (logV 8 S.log)) (mapB ekI ekI S.led) (mapB ekI ekI S.last) (mapB ekI evH S.images) (mapB ekP evU S.yes) (mapB ekI ekI S.word) (mapB ekP evA S.answers) (mapB ekI ekP S.askers) (logB S.log)
def obsOf (q : Int × JS) (lv : Value) (lb : Blk) : Option Obs :=
  some (.int .i64 q.1, .cells true (judS q.2 lv), mapB ekI ekI q.2.led, mapB ekI ekI q.2.last, mapB ekI evH q.2.images, mapB ekP evU q.2.yes, mapB ekI ekI q.2.word, mapB ekP evA q.2.answers, mapB ekI ekP q.2.askers, lb)
def addR (o : Value → Mem → Option Obs) (r : RowT) (m : Mem) : Option Obs := add o r.k r.w r.t r.i r.e r.s r.st r.c r.tr r.y r.h r.v m
theorem feq_I (a b : Int) : feq Try.prog kp 100 3 (ekI a) (ekI b) = some (decide (a = b)) := by
  have : feq Try.prog kp 100 3 (.int .i64 a) (.int .i64 b) = some (a == b) := by kernel_rfl
  rw [ekI, ekI, this]
  congr 1
theorem feq_P (a b : Int × Int) : feq Try.prog kp 100 71 (ekP a) (ekP b) = some (decide (a = b)) := by
  have : feq Try.prog kp 100 71 (.agg ⟨[.int .i64 a.1, .int .i64 a.2]⟩) (.agg ⟨[.int .i64 b.1, .int .i64 b.2]⟩) = (match some (a.1 == b.1) with | some true => (match some (a.2 == b.2) with | some true => some true | some false => some false | none => none) | some false => some false | none => none) := by kernel_rfl
  rw [ekP, ekP, this]
  obtain ⟨a1, a2⟩ := a
  obtain ⟨b1, b2⟩ := b
  show (match some (a1 == b1) with | some true => (match some (a2 == b2) with | some true => some true | some false => some false | none => none) | some false => some false | none => none) = some (decide ((a1, a2) = (b1, b2)))
  cases e1 : a1 == b1 <;> cases e2 : a2 == b2 <;> simp_all
theorem find_I {ν : Type} (ev : ν → Value) (k : Int) (l : List (Int × ν × Nat)) : findD Try.prog kp 3 (.int .i64 k) (entsL ekI ev l) 0 = some ((findT k l 0).map fun p => (p.1, ev p.2)) := findD_ents feq_I k l 0
theorem find_P {ν : Type} (ev : ν → Value) (k : Int × Int) (l : List ((Int × Int) × ν × Nat)) : findD Try.prog kp 71 (.agg ⟨[.int .i64 k.1, .int .i64 k.2]⟩) (entsL ekP ev l) 0 = some ((findT k l 0).map fun p => (p.1, ev p.2)) := findD_ents feq_P k l 0
theorem same_I (a : Int) : Instr.sameBits 10000 (ekI a) (.int .i64 a) = true := by simp [ekI, Instr.sameBits]
theorem same_P (a : Int × Int) : Instr.sameBits 10000 (ekP a) (.agg ⟨[.int .i64 a.1, .int .i64 a.2]⟩) = true := by simp [ekP, Instr.sameBits]
theorem eqF_f {a b : Int} (h : a ≠ b) : Y.eqF a b = false := by rw [Y.eqF_eq]; simp [h]
theorem eqF_t {a b : Int} (h : a = b) : Y.eqF a b = true := by rw [Y.eqF_eq]; simp [h]
theorem kEq_i : Y.kEq .i64 .i64 = true := rfl
theorem same_I' (a : Int) : Instr.sameBits 10000 (.int .i64 a) (.int .i64 a) = true := same_I a
theorem same_P' (a b : Int) : Instr.sameBits 10000 (.agg ⟨[.int .i64 a, .int .i64 b]⟩) (.agg ⟨[.int .i64 a, .int .i64 b]⟩) = true := same_P (a, b)
theorem find_P' {ν : Type} (ev : ν → Value) (a b : Int) (l : List ((Int × Int) × ν × Nat)) : findD Try.prog kp 71 (.agg ⟨[.int .i64 a, .int .i64 b]⟩) (entsL ekP ev l) 0 = some ((findT (a, b) l 0).map fun p => (p.1, ev p.2)) := find_P ev (a, b) l
theorem ltF_t {a b : Int} (h : a < b) : Y.ltF a b = true := by rw [Y.ltF_eq]; simp [h]
theorem ltF_f {a b : Int} (h : ¬ a < b) : Y.ltF a b = false := by rw [Y.ltF_eq]; simp [h]
theorem put_none {κ ν : Type} [DecidableEq κ] {m : TM κ ν} {k : κ} (h : findT k m.l 0 = none) (v : ν) : m.put k v = ⟨m.l ++ [(k, v, m.ck)], m.ck + 1⟩ := by simp only [TM.put, h]
theorem put_some {κ ν : Type} [DecidableEq κ] {m : TM κ ν} {k : κ} {i : Nat} {u : ν} (h : findT k m.l 0 = some (i, u)) (v : ν) : m.put k v = ⟨modT i k v m.l, m.ck⟩ := by simp only [TM.put, h]
theorem get_none {κ ν : Type} [DecidableEq κ] {m : TM κ ν} {k : κ} (h : findT k m.l 0 = none) : m.get k = none := by simp only [TM.get, h, Option.map]
theorem get_some {κ ν : Type} [DecidableEq κ] {m : TM κ ν} {k : κ} {i : Nat} {u : ν} (h : findT k m.l 0 = some (i, u)) : m.get k = some u := by simp only [TM.get, h, Option.map]
theorem app_I {ν : Type} (ev : ν → Value) (k : Int) (v : ν) (l : List (Int × ν × Nat)) (b : Nat) : entsL ekI ev l ++ [{ key := .int .i64 k, val := ev v, born := b }] = entsL ekI ev (l ++ [(k, v, b)]) := ents_append l k v b
theorem mod_I {ν : Type} (ev : ν → Value) (k : Int) (v : ν) (l : List (Int × ν × Nat)) (i : Nat) : modE i (.int .i64 k) (ev v) (entsL ekI ev l) = entsL ekI ev (modT i k v l) := modE_ents k v l i
theorem at_I {ν : Type} (ev : ν → Value) {k : Int} {l : List (Int × ν × Nat)} {i : Nat} {u : ν} (h : findT k l 0 = some (i, u)) : ∃ b, (entsL ekI ev l)[i]? = some { key := .int .i64 k, val := ev u, born := b } := ents_get k l i u h
theorem app_P {ν : Type} (ev : ν → Value) (k1 k2 : Int) (v : ν) (l : List ((Int × Int) × ν × Nat)) (b : Nat) : entsL ekP ev l ++ [{ key := .agg ⟨[.int .i64 k1, .int .i64 k2]⟩, val := ev v, born := b }] = entsL ekP ev (l ++ [((k1, k2), v, b)]) := ents_append l (k1, k2) v b
theorem mod_P {ν : Type} (ev : ν → Value) (k1 k2 : Int) (v : ν) (l : List ((Int × Int) × ν × Nat)) (i : Nat) : modE i (.agg ⟨[.int .i64 k1, .int .i64 k2]⟩) (ev v) (entsL ekP ev l) = entsL ekP ev (modT i (k1, k2) v l) := modE_ents (ek := ekP) (ev := ev) (k1, k2) v l i
theorem at_P {ν : Type} (ev : ν → Value) {k1 k2 : Int} {l : List ((Int × Int) × ν × Nat)} {i : Nat} {u : ν} (h : findT (k1, k2) l 0 = some (i, u)) : ∃ b, (entsL ekP ev l)[i]? = some { key := .agg ⟨[.int .i64 k1, .int .i64 k2]⟩, val := ev u, born := b } := ents_get (k1, k2) l i u h
theorem add_led (S : JS) (r : RowT) (hn : S.n ≠ 0) (hk : r.k = 1) : addR obs8 r (msJ S) = obsOf (ledJ S r) (logV 8 S.log) (logB S.log) := by
  unfold addR
  rw [hk]
  refine Eq.trans (t_led ..) ?_
  simp only [eqF_f hn, cond_false, find_I]
  cases hf : findT r.t S.led.l 0 with
  | none =>
    simp only [Option.map, Option.elim, ledJ, get_none hf, put_none hf]
    exact congrArg _ (by rw [show (MapEntry.mk (.int .i64 r.t) (.int .i64 r.w) S.led.ck) = { key := .int .i64 r.t, val := ekI r.w, born := S.led.ck } from rfl, app_I]; rfl)
  | some p =>
    obtain ⟨i, u⟩ := p
    obtain ⟨b, hb⟩ := at_I ekI hf
    have hm : modE i (.int .i64 r.t) (.int .i64 r.w) (entsL ekI ekI S.led.l) = entsL ekI ekI (modT i r.t r.w S.led.l) := mod_I ekI r.t r.w S.led.l i
    simp only [Option.map, Option.elim, ledJ, get_some hf, put_some hf, ekI, Y.asInt, kEq_i, cond_true]
    by_cases hu : u = r.w
    · subst hu
      simp only [eqF_t rfl, Bool.not_true, cond_false, hb, same_I', cond_true, hm, ne_eq, not_true_eq_false, if_false]
      rfl
    · simp only [eqF_f hu, Bool.not_false, cond_true, ne_eq, hu, not_false_eq_true, if_true]
      rfl
theorem int_low {a : Int} (h : a < 1) : a = 0 ∨ ∃ n : Nat, a = .negSucc n := by
  cases a with
  | ofNat n => left; simp only [Int.ofNat_eq_natCast] at h ⊢; omega
  | negSucc n => exact .inr ⟨n, rfl⟩
theorem int_high {a : Int} (m : Nat) (h : (m : Int) < a) : ∃ n : Nat, a = .ofNat (n + (m + 1)) := ⟨(a - (m + 1)).toNat, by simp only [Int.ofNat_eq_natCast]; omega⟩
theorem bool_same {α : Type} (b : Bool) (x : α) : cond b x x = x := by cases b <;> rfl
theorem add_bad (S : JS) (r : RowT) (hk : r.k < 1 ∨ 7 < r.k) : addR obs8 r (msJ S) = obsOf (1, S) (logV 8 S.log) (logB S.log) := by
  unfold addR
  rcases hk with hk | hk
  · rcases int_low hk with h | ⟨a, h⟩
    · rw [h]; refine Eq.trans (t_badK0 ..) ?_; rw [bool_same]; rfl
    · rw [h]; refine Eq.trans (t_badKn ..) ?_; rw [bool_same]; rfl
  · obtain ⟨a, h⟩ := int_high 7 hk
    rw [h]; refine Eq.trans (t_badKp ..) ?_; rw [bool_same]; rfl
theorem add_fell (S : JS) (r : RowT) (hn : S.n ≠ 0) (hk : r.k = 7) : addR obs8 r (msJ S) = obsOf (0, S) (logV 8 S.log) (logB S.log) := by
  unfold addR
  rw [hk]; refine Eq.trans (t_fell ..) ?_; rw [eqF_f hn]; rfl
theorem n_cases {n : Int} (h1 : 1 ≤ n) (h4 : n ≤ 4) : n = 1 ∨ n = 2 ∨ n = 3 ∨ n = 4 := by omega
theorem add_who (S : JS) (r : RowT) (h1 : 1 ≤ S.n) (h4 : S.n ≤ 4) (hk : ofNode r) (hw : r.w < 1 ∨ S.n < r.w) : addR obs8 r (msJ S) = obsOf (1, S) (logV 8 S.log) (logB S.log) := by
  unfold addR
  rcases hw with hw | hw
  · rcases int_low hw with h | ⟨a, h⟩
    · rcases hk with hk | hk | hk
      · rw [hk, h]; refine Eq.trans (t_bad3w0 ..) ?_; rw [bool_same]; rfl
      · rw [hk, h]; refine Eq.trans (t_bad4w0 ..) ?_; rw [bool_same]; rfl
      · rw [hk, h]; refine Eq.trans (t_bad6w0 ..) ?_; rw [bool_same]; rfl
    · rcases hk with hk | hk | hk
      · rw [hk, h]; refine Eq.trans (t_bad3wn ..) ?_; rw [bool_same]; rfl
      · rw [hk, h]; refine Eq.trans (t_bad4wn ..) ?_; rw [bool_same]; rfl
      · rw [hk, h]; refine Eq.trans (t_bad6wn ..) ?_; rw [bool_same]; rfl
  · obtain ⟨n, led, log, last, ep, top, images, yes, word, answers, askers⟩ := S
    simp only at h1 h4 hw
    rcases n_cases h1 h4 with rfl | rfl | rfl | rfl
    · obtain ⟨a, h⟩ := int_high 1 hw
      rcases hk with hk | hk | hk
      · rw [hk, h]; exact t_bad3wp1 ..
      · rw [hk, h]; exact t_bad4wp1 ..
      · rw [hk, h]; exact t_bad6wp1 ..
    · obtain ⟨a, h⟩ := int_high 2 hw
      rcases hk with hk | hk | hk
      · rw [hk, h]; exact t_bad3wp2 ..
      · rw [hk, h]; exact t_bad4wp2 ..
      · rw [hk, h]; exact t_bad6wp2 ..
    · obtain ⟨a, h⟩ := int_high 3 hw
      rcases hk with hk | hk | hk
      · rw [hk, h]; exact t_bad3wp3 ..
      · rw [hk, h]; exact t_bad4wp3 ..
      · rw [hk, h]; exact t_bad6wp3 ..
    · obtain ⟨a, h⟩ := int_high 4 hw
      rcases hk with hk | hk | hk
      · rw [hk, h]; exact t_bad3wp4 ..
      · rw [hk, h]; exact t_bad4wp4 ..
      · rw [hk, h]; exact t_bad6wp4 ..
theorem add_jud1 (S : JS) (r : RowT) (h1 : 1 ≤ S.n) (hk : r.k = 6) (hw : r.w = 1) (hn : ¬ S.n < 1) : addR obs8 r (msJ S) = obsOf (judJ S r) (logV 8 S.log) (logB S.log) := by
  unfold addR
  rw [hk, hw]
  refine Eq.trans (t_jud1 ..) ?_
  have e0 : Y.eqF S.n 0 = false := eqF_f (by omega)
  have e1 : Y.ltF S.n 1 = false := ltF_f hn
  have ht : r.w.toNat = 1 := by rw [hw]; rfl
  simp only [e0, e1, cond_false, judJ, ht]
  by_cases g1 : r.e = S.ep 1
  · rw [eqF_t g1]
    by_cases g2 : r.c = 0
    · rw [eqF_t g2]
      by_cases g3 : r.e = 0
      · rw [eqF_t g3, if_pos (.inr (.inl ⟨g2, .inl g3⟩))]; rfl
      · rw [eqF_f g3]
        by_cases g4 : r.tr = 0
        · rw [eqF_t g4, eqF_f (show r.c ≠ 6 by omega), if_neg (by omega)]; rfl
        · rw [eqF_f g4, if_pos (.inr (.inl ⟨g2, .inr g4⟩))]; rfl
    · rw [eqF_f g2]
      by_cases g3 : r.c = 6
      · rw [eqF_t g3]
        by_cases g4 : r.e = 0
        · rw [eqF_t g4, if_neg (by omega)]; rfl
        · rw [eqF_f g4, if_pos (.inr (.inr ⟨g3, g4⟩))]; rfl
      · rw [eqF_f g3, if_neg (by omega)]; rfl
  · rw [eqF_f g1, if_pos (.inl g1)]; rfl
theorem add_jud2 (S : JS) (r : RowT) (h1 : 1 ≤ S.n) (hk : r.k = 6) (hw : r.w = 2) (hn : ¬ S.n < 2) : addR obs8 r (msJ S) = obsOf (judJ S r) (logV 8 S.log) (logB S.log) := by
  unfold addR
  rw [hk, hw]
  refine Eq.trans (t_jud2 ..) ?_
  have e0 : Y.eqF S.n 0 = false := eqF_f (by omega)
  have e1 : Y.ltF S.n 2 = false := ltF_f hn
  have ht : r.w.toNat = 2 := by rw [hw]; rfl
  simp only [e0, e1, cond_false, judJ, ht]
  by_cases g1 : r.e = S.ep 2
  · rw [eqF_t g1]
    by_cases g2 : r.c = 0
    · rw [eqF_t g2]
      by_cases g3 : r.e = 0
      · rw [eqF_t g3, if_pos (.inr (.inl ⟨g2, .inl g3⟩))]; rfl
      · rw [eqF_f g3]
        by_cases g4 : r.tr = 0
        · rw [eqF_t g4, eqF_f (show r.c ≠ 6 by omega), if_neg (by omega)]; rfl
        · rw [eqF_f g4, if_pos (.inr (.inl ⟨g2, .inr g4⟩))]; rfl
    · rw [eqF_f g2]
      by_cases g3 : r.c = 6
      · rw [eqF_t g3]
        by_cases g4 : r.e = 0
        · rw [eqF_t g4, if_neg (by omega)]; rfl
        · rw [eqF_f g4, if_pos (.inr (.inr ⟨g3, g4⟩))]; rfl
      · rw [eqF_f g3, if_neg (by omega)]; rfl
  · rw [eqF_f g1, if_pos (.inl g1)]; rfl
theorem add_jud3 (S : JS) (r : RowT) (h1 : 1 ≤ S.n) (hk : r.k = 6) (hw : r.w = 3) (hn : ¬ S.n < 3) : addR obs8 r (msJ S) = obsOf (judJ S r) (logV 8 S.log) (logB S.log) := by
  unfold addR
  rw [hk, hw]
  refine Eq.trans (t_jud3 ..) ?_
  have e0 : Y.eqF S.n 0 = false := eqF_f (by omega)
  have e1 : Y.ltF S.n 3 = false := ltF_f hn
  have ht : r.w.toNat = 3 := by rw [hw]; rfl
  simp only [e0, e1, cond_false, judJ, ht]
  by_cases g1 : r.e = S.ep 3
  · rw [eqF_t g1]
    by_cases g2 : r.c = 0
    · rw [eqF_t g2]
      by_cases g3 : r.e = 0
      · rw [eqF_t g3, if_pos (.inr (.inl ⟨g2, .inl g3⟩))]; rfl
      · rw [eqF_f g3]
        by_cases g4 : r.tr = 0
        · rw [eqF_t g4, eqF_f (show r.c ≠ 6 by omega), if_neg (by omega)]; rfl
        · rw [eqF_f g4, if_pos (.inr (.inl ⟨g2, .inr g4⟩))]; rfl
    · rw [eqF_f g2]
      by_cases g3 : r.c = 6
      · rw [eqF_t g3]
        by_cases g4 : r.e = 0
        · rw [eqF_t g4, if_neg (by omega)]; rfl
        · rw [eqF_f g4, if_pos (.inr (.inr ⟨g3, g4⟩))]; rfl
      · rw [eqF_f g3, if_neg (by omega)]; rfl
  · rw [eqF_f g1, if_pos (.inl g1)]; rfl
theorem add_jud4 (S : JS) (r : RowT) (h1 : 1 ≤ S.n) (hk : r.k = 6) (hw : r.w = 4) (hn : ¬ S.n < 4) : addR obs8 r (msJ S) = obsOf (judJ S r) (logV 8 S.log) (logB S.log) := by
  unfold addR
  rw [hk, hw]
  refine Eq.trans (t_jud4 ..) ?_
  have e0 : Y.eqF S.n 0 = false := eqF_f (by omega)
  have e1 : Y.ltF S.n 4 = false := ltF_f hn
  have ht : r.w.toNat = 4 := by rw [hw]; rfl
  simp only [e0, e1, cond_false, judJ, ht]
  by_cases g1 : r.e = S.ep 4
  · rw [eqF_t g1]
    by_cases g2 : r.c = 0
    · rw [eqF_t g2]
      by_cases g3 : r.e = 0
      · rw [eqF_t g3, if_pos (.inr (.inl ⟨g2, .inl g3⟩))]; rfl
      · rw [eqF_f g3]
        by_cases g4 : r.tr = 0
        · rw [eqF_t g4, eqF_f (show r.c ≠ 6 by omega), if_neg (by omega)]; rfl
        · rw [eqF_f g4, if_pos (.inr (.inl ⟨g2, .inr g4⟩))]; rfl
    · rw [eqF_f g2]
      by_cases g3 : r.c = 6
      · rw [eqF_t g3]
        by_cases g4 : r.e = 0
        · rw [eqF_t g4, if_neg (by omega)]; rfl
        · rw [eqF_f g4, if_pos (.inr (.inr ⟨g3, g4⟩))]; rfl
      · rw [eqF_f g3, if_neg (by omega)]; rfl
  · rw [eqF_f g1, if_pos (.inl g1)]; rfl
theorem add_ack1 (S : JS) (r : RowT) (h1 : 1 ≤ S.n) (hk : r.k = 4) (hw : r.w = 1) (hn : ¬ S.n < 1) (he : ¬ r.e < 1) : addR obs8 r (msJ S) = obsOf (ackJ S r) (logV 8 S.log) (logB S.log) := by
  unfold addR
  rw [hk, hw]
  refine Eq.trans (t_ack1 ..) ?_
  have e0 : Y.eqF S.n 0 = false := eqF_f (by omega)
  have e1 : Y.ltF S.n 1 = false := ltF_f hn
  have ht : (1 : Int).toNat = 1 := rfl
  simp only [e0, e1, ltF_f he, cond_false, find_I, find_P', ackJ, ht, hw, wordJ]
  by_cases g : r.e ≤ S.ep 1
  · rw [ltF_f (show ¬ S.ep 1 < r.e by omega), if_pos g]
    cases hy : r.y <;> cases hf : findT r.e S.word.l 0 <;> rfl
  · rw [ltF_t (show S.ep 1 < r.e by omega), if_neg g]
    cases hf : findT r.e S.word.l 0 with
    | none =>
      have hp := fun v => put_none hf v
      have ha := fun v => app_I ekI r.e v S.word.l S.word.ck
      simp only [get_none hf, Option.map, Option.elim, Bool.not_true, cond_false, hp, Bool.false_eq_true, if_false]
      cases hy : r.y with
      | false =>
        simp only [cond_false, Bool.false_eq_true, if_false]
        exact congrArg _ (by rw [show (MapEntry.mk (.int .i64 r.e) (.int .i64 2) S.word.ck) = { key := .int .i64 r.e, val := ekI 2, born := S.word.ck } from rfl, ha]; rfl)
      | true =>
        simp only [cond_true, if_true]
        rw [show (MapEntry.mk (.int .i64 r.e) (.int .i64 1) S.word.ck) = { key := .int .i64 r.e, val := ekI 1, born := S.word.ck } from rfl, ha]
        cases hg : findT ((1 : Int), r.e) S.yes.l 0 with
        | none =>
          simp only [put_none hg]
          exact congrArg _ (by rw [show (MapEntry.mk (.agg ⟨[.int .i64 1, .int .i64 r.e]⟩) (.agg ⟨[]⟩) S.yes.ck) = { key := .agg ⟨[.int .i64 1, .int .i64 r.e]⟩, val := evU (), born := S.yes.ck } from rfl, app_P]; rfl)
        | some p =>
          obtain ⟨i, u⟩ := p
          obtain ⟨b, hb⟩ := at_P evU hg
          have hm : modE i (.agg ⟨[.int .i64 1, .int .i64 r.e]⟩) (.agg ⟨[]⟩) (entsL ekP evU S.yes.l) = entsL ekP evU (modT i ((1 : Int), r.e) () S.yes.l) := mod_P evU _ _ () S.yes.l i
          simp only [put_some hg, hb, same_P', cond_true, hm]
          rfl
    | some p =>
      obtain ⟨j, q⟩ := p
      obtain ⟨b, hb⟩ := at_I ekI hf
      have hp := fun v => put_some hf v
      have hm : ∀ v, modE j (.int .i64 r.e) (.int .i64 v) (entsL ekI ekI S.word.l) = entsL ekI ekI (modT j r.e v S.word.l) := fun v => mod_I ekI r.e v S.word.l j
      simp only [get_some hf, Option.map, Option.elim, Bool.not_true, cond_false, hp, ekI, Y.asInt, kEq_i, cond_true, hb, same_I', hm]
      by_cases q0 : q = 0
      · rw [eqF_t q0]
        simp only [q0, ne_eq, not_true_eq_false, decide_false, Bool.false_and, Bool.false_eq_true, if_false, Bool.not_true, cond_false]
        cases hy : r.y with
        | false => rfl
        | true =>
          simp only [cond_true, if_true]
          cases hg : findT ((1 : Int), r.e) S.yes.l 0 with
          | none =>
            simp only [put_none hg]
            exact congrArg _ (by rw [show (MapEntry.mk (.agg ⟨[.int .i64 1, .int .i64 r.e]⟩) (.agg ⟨[]⟩) S.yes.ck) = { key := .agg ⟨[.int .i64 1, .int .i64 r.e]⟩, val := evU (), born := S.yes.ck } from rfl, app_P]; rfl)
          | some p =>
            obtain ⟨i, u⟩ := p
            obtain ⟨b', hb'⟩ := at_P evU hg
            have hm' : modE i (.agg ⟨[.int .i64 1, .int .i64 r.e]⟩) (.agg ⟨[]⟩) (entsL ekP evU S.yes.l) = entsL ekP evU (modT i ((1 : Int), r.e) () S.yes.l) := mod_P evU _ _ () S.yes.l i
            simp only [put_some hg, hb', same_P', cond_true, hm']
            rfl
      · rw [eqF_f q0]
        simp only [q0, ne_eq, not_false_eq_true, decide_true, Bool.true_and, Bool.not_false, cond_true]
        rcases Bool.eq_false_or_eq_true r.y with hy | hy
        rotate_left
        · simp only [hy, cond_false, Bool.false_eq_true, if_false]
          by_cases q1 : q = 2
          · rw [eqF_t q1]; simp only [q1, not_true_eq_false, decide_false, Bool.false_eq_true, if_false]; rfl
          · rw [eqF_f q1]; simp only [q1, not_false_eq_true, decide_true, if_true]; rfl
        · simp only [hy, cond_true, if_true]
          by_cases q1 : q = 1
          · rw [eqF_t q1]; simp only [q1, not_true_eq_false, decide_false, Bool.false_eq_true, if_false]
            cases hg : findT ((1 : Int), r.e) S.yes.l 0 with
            | none =>
              simp only [put_none hg]
              exact congrArg _ (by rw [show (MapEntry.mk (.agg ⟨[.int .i64 1, .int .i64 r.e]⟩) (.agg ⟨[]⟩) S.yes.ck) = { key := .agg ⟨[.int .i64 1, .int .i64 r.e]⟩, val := evU (), born := S.yes.ck } from rfl, app_P]; rfl)
            | some p =>
              obtain ⟨i, u⟩ := p
              obtain ⟨b', hb'⟩ := at_P evU hg
              have hm' : modE i (.agg ⟨[.int .i64 1, .int .i64 r.e]⟩) (.agg ⟨[]⟩) (entsL ekP evU S.yes.l) = entsL ekP evU (modT i ((1 : Int), r.e) () S.yes.l) := mod_P evU _ _ () S.yes.l i
              simp only [put_some hg, hb', same_P', cond_true, hm', Bool.not_true, cond_false]
              rfl
          · rw [eqF_f q1]; simp only [q1, not_false_eq_true, decide_true, if_true]; rfl
theorem add_ack2 (S : JS) (r : RowT) (h1 : 1 ≤ S.n) (hk : r.k = 4) (hw : r.w = 2) (hn : ¬ S.n < 2) (he : ¬ r.e < 1) : addR obs8 r (msJ S) = obsOf (ackJ S r) (logV 8 S.log) (logB S.log) := by
  unfold addR
  rw [hk, hw]
  refine Eq.trans (t_ack2 ..) ?_
  have e0 : Y.eqF S.n 0 = false := eqF_f (by omega)
  have e1 : Y.ltF S.n 2 = false := ltF_f hn
  have ht : (2 : Int).toNat = 2 := rfl
  simp only [e0, e1, ltF_f he, cond_false, find_I, find_P', ackJ, ht, hw, wordJ]
  by_cases g : r.e ≤ S.ep 2
  · rw [ltF_f (show ¬ S.ep 2 < r.e by omega), if_pos g]
    cases hy : r.y <;> cases hf : findT r.e S.word.l 0 <;> rfl
  · rw [ltF_t (show S.ep 2 < r.e by omega), if_neg g]
    cases hf : findT r.e S.word.l 0 with
    | none =>
      have hp := fun v => put_none hf v
      have ha := fun v => app_I ekI r.e v S.word.l S.word.ck
      simp only [get_none hf, Option.map, Option.elim, Bool.not_true, cond_false, hp, Bool.false_eq_true, if_false]
      cases hy : r.y with
      | false =>
        simp only [cond_false, Bool.false_eq_true, if_false]
        exact congrArg _ (by rw [show (MapEntry.mk (.int .i64 r.e) (.int .i64 2) S.word.ck) = { key := .int .i64 r.e, val := ekI 2, born := S.word.ck } from rfl, ha]; rfl)
      | true =>
        simp only [cond_true, if_true]
        rw [show (MapEntry.mk (.int .i64 r.e) (.int .i64 1) S.word.ck) = { key := .int .i64 r.e, val := ekI 1, born := S.word.ck } from rfl, ha]
        cases hg : findT ((2 : Int), r.e) S.yes.l 0 with
        | none =>
          simp only [put_none hg]
          exact congrArg _ (by rw [show (MapEntry.mk (.agg ⟨[.int .i64 2, .int .i64 r.e]⟩) (.agg ⟨[]⟩) S.yes.ck) = { key := .agg ⟨[.int .i64 2, .int .i64 r.e]⟩, val := evU (), born := S.yes.ck } from rfl, app_P]; rfl)
        | some p =>
          obtain ⟨i, u⟩ := p
          obtain ⟨b, hb⟩ := at_P evU hg
          have hm : modE i (.agg ⟨[.int .i64 2, .int .i64 r.e]⟩) (.agg ⟨[]⟩) (entsL ekP evU S.yes.l) = entsL ekP evU (modT i ((2 : Int), r.e) () S.yes.l) := mod_P evU _ _ () S.yes.l i
          simp only [put_some hg, hb, same_P', cond_true, hm]
          rfl
    | some p =>
      obtain ⟨j, q⟩ := p
      obtain ⟨b, hb⟩ := at_I ekI hf
      have hp := fun v => put_some hf v
      have hm : ∀ v, modE j (.int .i64 r.e) (.int .i64 v) (entsL ekI ekI S.word.l) = entsL ekI ekI (modT j r.e v S.word.l) := fun v => mod_I ekI r.e v S.word.l j
      simp only [get_some hf, Option.map, Option.elim, Bool.not_true, cond_false, hp, ekI, Y.asInt, kEq_i, cond_true, hb, same_I', hm]
      by_cases q0 : q = 0
      · rw [eqF_t q0]
        simp only [q0, ne_eq, not_true_eq_false, decide_false, Bool.false_and, Bool.false_eq_true, if_false, Bool.not_true, cond_false]
        cases hy : r.y with
        | false => rfl
        | true =>
          simp only [cond_true, if_true]
          cases hg : findT ((2 : Int), r.e) S.yes.l 0 with
          | none =>
            simp only [put_none hg]
            exact congrArg _ (by rw [show (MapEntry.mk (.agg ⟨[.int .i64 2, .int .i64 r.e]⟩) (.agg ⟨[]⟩) S.yes.ck) = { key := .agg ⟨[.int .i64 2, .int .i64 r.e]⟩, val := evU (), born := S.yes.ck } from rfl, app_P]; rfl)
          | some p =>
            obtain ⟨i, u⟩ := p
            obtain ⟨b', hb'⟩ := at_P evU hg
            have hm' : modE i (.agg ⟨[.int .i64 2, .int .i64 r.e]⟩) (.agg ⟨[]⟩) (entsL ekP evU S.yes.l) = entsL ekP evU (modT i ((2 : Int), r.e) () S.yes.l) := mod_P evU _ _ () S.yes.l i
            simp only [put_some hg, hb', same_P', cond_true, hm']
            rfl
      · rw [eqF_f q0]
        simp only [q0, ne_eq, not_false_eq_true, decide_true, Bool.true_and, Bool.not_false, cond_true]
        rcases Bool.eq_false_or_eq_true r.y with hy | hy
        rotate_left
        · simp only [hy, cond_false, Bool.false_eq_true, if_false]
          by_cases q1 : q = 2
          · rw [eqF_t q1]; simp only [q1, not_true_eq_false, decide_false, Bool.false_eq_true, if_false]; rfl
          · rw [eqF_f q1]; simp only [q1, not_false_eq_true, decide_true, if_true]; rfl
        · simp only [hy, cond_true, if_true]
          by_cases q1 : q = 1
          · rw [eqF_t q1]; simp only [q1, not_true_eq_false, decide_false, Bool.false_eq_true, if_false]
            cases hg : findT ((2 : Int), r.e) S.yes.l 0 with
            | none =>
              simp only [put_none hg]
              exact congrArg _ (by rw [show (MapEntry.mk (.agg ⟨[.int .i64 2, .int .i64 r.e]⟩) (.agg ⟨[]⟩) S.yes.ck) = { key := .agg ⟨[.int .i64 2, .int .i64 r.e]⟩, val := evU (), born := S.yes.ck } from rfl, app_P]; rfl)
            | some p =>
              obtain ⟨i, u⟩ := p
              obtain ⟨b', hb'⟩ := at_P evU hg
              have hm' : modE i (.agg ⟨[.int .i64 2, .int .i64 r.e]⟩) (.agg ⟨[]⟩) (entsL ekP evU S.yes.l) = entsL ekP evU (modT i ((2 : Int), r.e) () S.yes.l) := mod_P evU _ _ () S.yes.l i
              simp only [put_some hg, hb', same_P', cond_true, hm', Bool.not_true, cond_false]
              rfl
          · rw [eqF_f q1]; simp only [q1, not_false_eq_true, decide_true, if_true]; rfl
theorem add_ack3 (S : JS) (r : RowT) (h1 : 1 ≤ S.n) (hk : r.k = 4) (hw : r.w = 3) (hn : ¬ S.n < 3) (he : ¬ r.e < 1) : addR obs8 r (msJ S) = obsOf (ackJ S r) (logV 8 S.log) (logB S.log) := by
  unfold addR
  rw [hk, hw]
  refine Eq.trans (t_ack3 ..) ?_
  have e0 : Y.eqF S.n 0 = false := eqF_f (by omega)
  have e1 : Y.ltF S.n 3 = false := ltF_f hn
  have ht : (3 : Int).toNat = 3 := rfl
  simp only [e0, e1, ltF_f he, cond_false, find_I, find_P', ackJ, ht, hw, wordJ]
  by_cases g : r.e ≤ S.ep 3
  · rw [ltF_f (show ¬ S.ep 3 < r.e by omega), if_pos g]
    cases hy : r.y <;> cases hf : findT r.e S.word.l 0 <;> rfl
  · rw [ltF_t (show S.ep 3 < r.e by omega), if_neg g]
    cases hf : findT r.e S.word.l 0 with
    | none =>
      have hp := fun v => put_none hf v
      have ha := fun v => app_I ekI r.e v S.word.l S.word.ck
      simp only [get_none hf, Option.map, Option.elim, Bool.not_true, cond_false, hp, Bool.false_eq_true, if_false]
      cases hy : r.y with
      | false =>
        simp only [cond_false, Bool.false_eq_true, if_false]
        exact congrArg _ (by rw [show (MapEntry.mk (.int .i64 r.e) (.int .i64 2) S.word.ck) = { key := .int .i64 r.e, val := ekI 2, born := S.word.ck } from rfl, ha]; rfl)
      | true =>
        simp only [cond_true, if_true]
        rw [show (MapEntry.mk (.int .i64 r.e) (.int .i64 1) S.word.ck) = { key := .int .i64 r.e, val := ekI 1, born := S.word.ck } from rfl, ha]
        cases hg : findT ((3 : Int), r.e) S.yes.l 0 with
        | none =>
          simp only [put_none hg]
          exact congrArg _ (by rw [show (MapEntry.mk (.agg ⟨[.int .i64 3, .int .i64 r.e]⟩) (.agg ⟨[]⟩) S.yes.ck) = { key := .agg ⟨[.int .i64 3, .int .i64 r.e]⟩, val := evU (), born := S.yes.ck } from rfl, app_P]; rfl)
        | some p =>
          obtain ⟨i, u⟩ := p
          obtain ⟨b, hb⟩ := at_P evU hg
          have hm : modE i (.agg ⟨[.int .i64 3, .int .i64 r.e]⟩) (.agg ⟨[]⟩) (entsL ekP evU S.yes.l) = entsL ekP evU (modT i ((3 : Int), r.e) () S.yes.l) := mod_P evU _ _ () S.yes.l i
          simp only [put_some hg, hb, same_P', cond_true, hm]
          rfl
    | some p =>
      obtain ⟨j, q⟩ := p
      obtain ⟨b, hb⟩ := at_I ekI hf
      have hp := fun v => put_some hf v
      have hm : ∀ v, modE j (.int .i64 r.e) (.int .i64 v) (entsL ekI ekI S.word.l) = entsL ekI ekI (modT j r.e v S.word.l) := fun v => mod_I ekI r.e v S.word.l j
      simp only [get_some hf, Option.map, Option.elim, Bool.not_true, cond_false, hp, ekI, Y.asInt, kEq_i, cond_true, hb, same_I', hm]
      by_cases q0 : q = 0
      · rw [eqF_t q0]
        simp only [q0, ne_eq, not_true_eq_false, decide_false, Bool.false_and, Bool.false_eq_true, if_false, Bool.not_true, cond_false]
        cases hy : r.y with
        | false => rfl
        | true =>
          simp only [cond_true, if_true]
          cases hg : findT ((3 : Int), r.e) S.yes.l 0 with
          | none =>
            simp only [put_none hg]
            exact congrArg _ (by rw [show (MapEntry.mk (.agg ⟨[.int .i64 3, .int .i64 r.e]⟩) (.agg ⟨[]⟩) S.yes.ck) = { key := .agg ⟨[.int .i64 3, .int .i64 r.e]⟩, val := evU (), born := S.yes.ck } from rfl, app_P]; rfl)
          | some p =>
            obtain ⟨i, u⟩ := p
            obtain ⟨b', hb'⟩ := at_P evU hg
            have hm' : modE i (.agg ⟨[.int .i64 3, .int .i64 r.e]⟩) (.agg ⟨[]⟩) (entsL ekP evU S.yes.l) = entsL ekP evU (modT i ((3 : Int), r.e) () S.yes.l) := mod_P evU _ _ () S.yes.l i
            simp only [put_some hg, hb', same_P', cond_true, hm']
            rfl
      · rw [eqF_f q0]
        simp only [q0, ne_eq, not_false_eq_true, decide_true, Bool.true_and, Bool.not_false, cond_true]
        rcases Bool.eq_false_or_eq_true r.y with hy | hy
        rotate_left
        · simp only [hy, cond_false, Bool.false_eq_true, if_false]
          by_cases q1 : q = 2
          · rw [eqF_t q1]; simp only [q1, not_true_eq_false, decide_false, Bool.false_eq_true, if_false]; rfl
          · rw [eqF_f q1]; simp only [q1, not_false_eq_true, decide_true, if_true]; rfl
        · simp only [hy, cond_true, if_true]
          by_cases q1 : q = 1
          · rw [eqF_t q1]; simp only [q1, not_true_eq_false, decide_false, Bool.false_eq_true, if_false]
            cases hg : findT ((3 : Int), r.e) S.yes.l 0 with
            | none =>
              simp only [put_none hg]
              exact congrArg _ (by rw [show (MapEntry.mk (.agg ⟨[.int .i64 3, .int .i64 r.e]⟩) (.agg ⟨[]⟩) S.yes.ck) = { key := .agg ⟨[.int .i64 3, .int .i64 r.e]⟩, val := evU (), born := S.yes.ck } from rfl, app_P]; rfl)
            | some p =>
              obtain ⟨i, u⟩ := p
              obtain ⟨b', hb'⟩ := at_P evU hg
              have hm' : modE i (.agg ⟨[.int .i64 3, .int .i64 r.e]⟩) (.agg ⟨[]⟩) (entsL ekP evU S.yes.l) = entsL ekP evU (modT i ((3 : Int), r.e) () S.yes.l) := mod_P evU _ _ () S.yes.l i
              simp only [put_some hg, hb', same_P', cond_true, hm', Bool.not_true, cond_false]
              rfl
          · rw [eqF_f q1]; simp only [q1, not_false_eq_true, decide_true, if_true]; rfl
theorem add_ack4 (S : JS) (r : RowT) (h1 : 1 ≤ S.n) (hk : r.k = 4) (hw : r.w = 4) (hn : ¬ S.n < 4) (he : ¬ r.e < 1) : addR obs8 r (msJ S) = obsOf (ackJ S r) (logV 8 S.log) (logB S.log) := by
  unfold addR
  rw [hk, hw]
  refine Eq.trans (t_ack4 ..) ?_
  have e0 : Y.eqF S.n 0 = false := eqF_f (by omega)
  have e1 : Y.ltF S.n 4 = false := ltF_f hn
  have ht : (4 : Int).toNat = 4 := rfl
  simp only [e0, e1, ltF_f he, cond_false, find_I, find_P', ackJ, ht, hw, wordJ]
  by_cases g : r.e ≤ S.ep 4
  · rw [ltF_f (show ¬ S.ep 4 < r.e by omega), if_pos g]
    cases hy : r.y <;> cases hf : findT r.e S.word.l 0 <;> rfl
  · rw [ltF_t (show S.ep 4 < r.e by omega), if_neg g]
    cases hf : findT r.e S.word.l 0 with
    | none =>
      have hp := fun v => put_none hf v
      have ha := fun v => app_I ekI r.e v S.word.l S.word.ck
      simp only [get_none hf, Option.map, Option.elim, Bool.not_true, cond_false, hp, Bool.false_eq_true, if_false]
      cases hy : r.y with
      | false =>
        simp only [cond_false, Bool.false_eq_true, if_false]
        exact congrArg _ (by rw [show (MapEntry.mk (.int .i64 r.e) (.int .i64 2) S.word.ck) = { key := .int .i64 r.e, val := ekI 2, born := S.word.ck } from rfl, ha]; rfl)
      | true =>
        simp only [cond_true, if_true]
        rw [show (MapEntry.mk (.int .i64 r.e) (.int .i64 1) S.word.ck) = { key := .int .i64 r.e, val := ekI 1, born := S.word.ck } from rfl, ha]
        cases hg : findT ((4 : Int), r.e) S.yes.l 0 with
        | none =>
          simp only [put_none hg]
          exact congrArg _ (by rw [show (MapEntry.mk (.agg ⟨[.int .i64 4, .int .i64 r.e]⟩) (.agg ⟨[]⟩) S.yes.ck) = { key := .agg ⟨[.int .i64 4, .int .i64 r.e]⟩, val := evU (), born := S.yes.ck } from rfl, app_P]; rfl)
        | some p =>
          obtain ⟨i, u⟩ := p
          obtain ⟨b, hb⟩ := at_P evU hg
          have hm : modE i (.agg ⟨[.int .i64 4, .int .i64 r.e]⟩) (.agg ⟨[]⟩) (entsL ekP evU S.yes.l) = entsL ekP evU (modT i ((4 : Int), r.e) () S.yes.l) := mod_P evU _ _ () S.yes.l i
          simp only [put_some hg, hb, same_P', cond_true, hm]
          rfl
    | some p =>
      obtain ⟨j, q⟩ := p
      obtain ⟨b, hb⟩ := at_I ekI hf
      have hp := fun v => put_some hf v
      have hm : ∀ v, modE j (.int .i64 r.e) (.int .i64 v) (entsL ekI ekI S.word.l) = entsL ekI ekI (modT j r.e v S.word.l) := fun v => mod_I ekI r.e v S.word.l j
      simp only [get_some hf, Option.map, Option.elim, Bool.not_true, cond_false, hp, ekI, Y.asInt, kEq_i, cond_true, hb, same_I', hm]
      by_cases q0 : q = 0
      · rw [eqF_t q0]
        simp only [q0, ne_eq, not_true_eq_false, decide_false, Bool.false_and, Bool.false_eq_true, if_false, Bool.not_true, cond_false]
        cases hy : r.y with
        | false => rfl
        | true =>
          simp only [cond_true, if_true]
          cases hg : findT ((4 : Int), r.e) S.yes.l 0 with
          | none =>
            simp only [put_none hg]
            exact congrArg _ (by rw [show (MapEntry.mk (.agg ⟨[.int .i64 4, .int .i64 r.e]⟩) (.agg ⟨[]⟩) S.yes.ck) = { key := .agg ⟨[.int .i64 4, .int .i64 r.e]⟩, val := evU (), born := S.yes.ck } from rfl, app_P]; rfl)
          | some p =>
            obtain ⟨i, u⟩ := p
            obtain ⟨b', hb'⟩ := at_P evU hg
            have hm' : modE i (.agg ⟨[.int .i64 4, .int .i64 r.e]⟩) (.agg ⟨[]⟩) (entsL ekP evU S.yes.l) = entsL ekP evU (modT i ((4 : Int), r.e) () S.yes.l) := mod_P evU _ _ () S.yes.l i
            simp only [put_some hg, hb', same_P', cond_true, hm']
            rfl
      · rw [eqF_f q0]
        simp only [q0, ne_eq, not_false_eq_true, decide_true, Bool.true_and, Bool.not_false, cond_true]
        rcases Bool.eq_false_or_eq_true r.y with hy | hy
        rotate_left
        · simp only [hy, cond_false, Bool.false_eq_true, if_false]
          by_cases q1 : q = 2
          · rw [eqF_t q1]; simp only [q1, not_true_eq_false, decide_false, Bool.false_eq_true, if_false]; rfl
          · rw [eqF_f q1]; simp only [q1, not_false_eq_true, decide_true, if_true]; rfl
        · simp only [hy, cond_true, if_true]
          by_cases q1 : q = 1
          · rw [eqF_t q1]; simp only [q1, not_true_eq_false, decide_false, Bool.false_eq_true, if_false]
            cases hg : findT ((4 : Int), r.e) S.yes.l 0 with
            | none =>
              simp only [put_none hg]
              exact congrArg _ (by rw [show (MapEntry.mk (.agg ⟨[.int .i64 4, .int .i64 r.e]⟩) (.agg ⟨[]⟩) S.yes.ck) = { key := .agg ⟨[.int .i64 4, .int .i64 r.e]⟩, val := evU (), born := S.yes.ck } from rfl, app_P]; rfl)
            | some p =>
              obtain ⟨i, u⟩ := p
              obtain ⟨b', hb'⟩ := at_P evU hg
              have hm' : modE i (.agg ⟨[.int .i64 4, .int .i64 r.e]⟩) (.agg ⟨[]⟩) (entsL ekP evU S.yes.l) = entsL ekP evU (modT i ((4 : Int), r.e) () S.yes.l) := mod_P evU _ _ () S.yes.l i
              simp only [put_some hg, hb', same_P', cond_true, hm', Bool.not_true, cond_false]
              rfl
          · rw [eqF_f q1]; simp only [q1, not_false_eq_true, decide_true, if_true]; rfl
end
end Go.Proofs.Ytfpbiojnbffkpaa
