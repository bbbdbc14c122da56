/-
  JLaw2: the plain law, whole: the rule is the reference's; a row that is right is taken in; one that is wrong leaves nothing.
-/
import Derived.Test.YtfpbiojnbffkpaaH18
import Derived.Test.YtfpbiojnbffkpaaH10
set_option linter.all false
set_option linter.unusedVariables false
set_option linter.unusedSimpArgs false
namespace Go.Proofs.Ytfpbiojnbffkpaa
open Go Go.DI Go.Proofs Go.Jud
noncomputable section
theorem wrong_law {n : Int} {l : List RowT} {S : JS} {r : RowT} (h : JInv n l S) (hn : 1 ≤ n) (hlog : S.log.length ≤ 1000000) (hi : -9223372036854775808 ≤ r.i ∧ r.i ≤ 9223372036854775807) : (addJ S r).1 = wrongR n l r := by
  unfold addJ wrongR
  rw [h.nodes]
  by_cases a1 : r.k < 1 ∨ 7 < r.k
  · rw [if_pos a1, if_pos (.inl a1)]
  rw [if_neg a1]
  by_cases a2 : ofNode r ∧ (r.w < 1 ∨ n < r.w)
  · rw [if_pos a2, if_pos (.inr a2)]
  rw [if_neg a2, if_neg (show ¬ ((r.k < 1 ∨ 7 < r.k) ∨ ofNode r ∧ (r.w < 1 ∨ n < r.w)) from fun e => e.elim a1 a2)]
  by_cases a3 : (r.k = 3 ∨ r.k = 4) ∧ r.e < 1
  · rw [if_pos a3, if_pos a3]
  rw [if_neg a3, if_neg a3]
  have hw : ofNode r → 1 ≤ r.w ∧ r.w ≤ n := fun g => by
    have h1 : ¬ r.w < 1 := fun e => a2 ⟨g, .inl e⟩
    have h2 : ¬ n < r.w := fun e => a2 ⟨g, .inr e⟩
    omega
  by_cases b1 : r.k = 1
  · rw [if_pos b1, if_pos b1]; exact led_law h b1
  rw [if_neg b1, if_neg b1]
  by_cases b2 : r.k = 2
  · rw [if_pos b2, if_pos b2]; exact sure_law h hlog hi
  rw [if_neg b2, if_neg b2]
  by_cases b3 : r.k = 3
  · rw [if_pos b3, if_pos b3]; exact swap_law h hn (hw (.inl b3))
  rw [if_neg b3, if_neg b3]
  by_cases b4 : r.k = 4
  · rw [if_pos b4, if_pos b4]; exact ack_law h (hw (.inr (.inl b4)))
  rw [if_neg b4, if_neg b4]
  by_cases b5 : r.k = 5
  · rw [if_pos b5, if_pos b5]; exact told_law h b5
  rw [if_neg b5, if_neg b5]
  by_cases b6 : r.k = 6
  · rw [if_pos b6, if_pos b6]; exact jud_law h (hw (.inr (.inr b6)))
  rw [if_neg b6, if_neg b6]
theorem ledJ_leaves (S : JS) (r : RowT) : (ledJ S r).1 ≠ 0 → (ledJ S r).2 = S := by
  unfold ledJ
  (repeat' split) <;> intro h <;> first | rfl | exact absurd rfl h
theorem sureJ_leaves (S : JS) (r : RowT) : (sureJ S r).1 ≠ 0 → (sureJ S r).2 = S := by
  unfold sureJ
  (repeat' split) <;> intro h <;> first | rfl | exact absurd rfl h
theorem swapJ_leaves (S : JS) (r : RowT) : (swapJ S r).1 ≠ 0 → (swapJ S r).2 = S := by
  unfold swapJ
  (repeat' split) <;> intro h <;> first | rfl | exact absurd rfl h
theorem ackJ_leaves (S : JS) (r : RowT) : (ackJ S r).1 ≠ 0 → (ackJ S r).2 = S := by
  unfold ackJ
  (repeat' split) <;> intro h <;> first | rfl | exact absurd rfl h
theorem toldJ_leaves (S : JS) (r : RowT) : (toldJ S r).1 ≠ 0 → (toldJ S r).2 = S := by
  unfold toldJ
  (repeat' split) <;> intro h <;> first | rfl | exact absurd rfl h
theorem judJ_leaves (S : JS) (r : RowT) : (judJ S r).1 ≠ 0 → (judJ S r).2 = S := by
  unfold judJ
  (repeat' split) <;> intro h <;> first | rfl | exact absurd rfl h
theorem wrong_leaves (S : JS) (r : RowT) : (addJ S r).1 ≠ 0 → (addJ S r).2 = S := by
  unfold addJ
  (repeat' split) <;> intro h <;> first | rfl | exact ledJ_leaves S r h | exact sureJ_leaves S r h | exact swapJ_leaves S r h | exact ackJ_leaves S r h | exact toldJ_leaves S r h | exact judJ_leaves S r h
def o9 (S : JS) (r : RowT) : Bool := match S.word.get r.e with | some u => decide (u ≠ 0) && decide (u ≠ wordJ r) | none => false
section
variable {n : Int} {l : List RowT} {S : JS} {r : RowT} (h : JInv n l S)
include h
omit h in
theorem mem_snoc {x : RowT} (hx : x ∈ l ++ [r]) : x ∈ l ∨ x = r := by
  rcases List.mem_append.1 hx with g | g
  · exact .inl g
  · right; simpa using g
theorem keep_led (hk : r.k ≠ 1) : (∀ x ∈ l ++ [r], x.k = 1 → S.led.get x.t = some x.w) ∧ (∀ t u, S.led.get t = some u → ∃ x ∈ l ++ [r], x.k = 1 ∧ x.t = t ∧ x.w = u) :=
  ⟨fun x hx h1 => (mem_snoc hx).elim (fun g => h.led1 x g h1) (fun g => absurd (g ▸ h1) hk), fun t u e => ex_snoc.2 (.inl (h.led2 t u e))⟩
theorem keep_swap (hk : r.k ≠ 3) : (∀ w : Int, 1 ≤ w → w ≤ n → S.ep w.toNat = epochR (l ++ [r]) w 0) ∧ S.top = topR (l ++ [r]) 0 ∧ (∀ x ∈ l ++ [r], x.k = 3 → ∃ h, S.images.get x.e = some h ∧ hl h = hl x.h) ∧ (∀ e h, S.images.get e = some h → ∃ x ∈ l ++ [r], x.k = 3 ∧ x.e = e ∧ hl h = hl x.h) :=
  ⟨fun w h1 h2 => by rw [epochR_snoc, if_neg (fun g => hk g.1)]; exact h.ep w h1 h2, by rw [topR_snoc, if_neg (fun g => hk g.1)]; exact h.top,
    fun x hx h1 => (mem_snoc hx).elim (fun g => h.img1 x g h1) (fun g => absurd (g ▸ h1) hk), fun e a g => ex_snoc.2 (.inl (h.img2 e a g))⟩
theorem keep_ack (hk : r.k ≠ 4) : (∀ w e, S.yes.get (w, e) ≠ none ↔ ∃ x ∈ l ++ [r], saysYes e w x) ∧ (∀ x ∈ l ++ [r], x.k = 4 → S.word.get x.e = some (wordJ x)) ∧ (∀ e u, S.word.get e = some u → ∃ x ∈ l ++ [r], x.k = 4 ∧ x.e = e ∧ u = wordJ x) :=
  ⟨fun w e => (h.yes w e).trans ⟨fun g => ex_snoc.2 (.inl g), fun g => (ex_snoc.1 g).elim id (fun g => absurd g.1 hk)⟩,
    fun x hx h1 => (mem_snoc hx).elim (fun g => h.word1 x g h1) (fun g => absurd (g ▸ h1) hk), fun e a g => ex_snoc.2 (.inl (h.word2 e a g))⟩
theorem keep_told (hk : countsR r = false) : (∀ x ∈ l ++ [r], countsR x = true → ∃ a, S.answers.get (x.w, x.s) = some a ∧ a.1 = x.c ∧ a.2.1 = x.e ∧ hl a.2.2 = hl x.h) ∧
    (∀ q a, S.answers.get q = some a → ∃ x ∈ l ++ [r], countsR x = true ∧ (x.w, x.s) = q ∧ a.1 = x.c ∧ a.2.1 = x.e ∧ hl a.2.2 = hl x.h) ∧
    (∀ x ∈ l ++ [r], countsR x = true → x.c = 0 → 0 < x.e → S.askers.get x.e = some (x.w, x.s)) ∧
    (∀ e q, S.askers.get e = some q → ∃ x ∈ l ++ [r], countsR x = true ∧ x.c = 0 ∧ 0 < x.e ∧ x.e = e ∧ (x.w, x.s) = q) :=
  ⟨fun x hx h1 => (mem_snoc hx).elim (fun g => h.ans1 x g h1) (fun g => by rw [g, hk] at h1; cases h1), fun q a g => ex_snoc.2 (.inl (h.ans2 q a g)),
    fun x hx h1 => (mem_snoc hx).elim (fun g => h.ask1 x g h1) (fun g => by rw [g, hk] at h1; cases h1), fun e q g => ex_snoc.2 (.inl (h.ask2 e q g))⟩
theorem keep_sure (hk : r.k ≠ 2) : (∀ w, (S.last.get w).getD 0 = lastR (l ++ [r]) w) ∧ (∀ x ∈ l ++ [r], x.k = 2 → 1 ≤ x.i ∧ ∃ y, S.log[(x.i - 1).toNat]? = some y ∧ y.1 = x.t ∧ hl y.2 = hl x.h) ∧
    (∀ (j : Nat) y, S.log[j]? = some y → ∃ x ∈ l ++ [r], x.k = 2 ∧ x.i = (j : Int) + 1 ∧ y.1 = x.t ∧ hl y.2 = hl x.h) :=
  ⟨fun w => by rw [lastR_snoc, if_neg (fun g => hk g.1)]; exact h.last w, fun x hx h1 => (mem_snoc hx).elim (fun g => h.log1 x g h1) (fun g => absurd (g ▸ h1) hk), fun j y g => ex_snoc.2 (.inl (h.log2 j y g))⟩
omit h in
theorem counts_k (hk : r.k ≠ 5) : countsR r = false := by unfold countsR; rw [decide_eq_false hk]; rfl
theorem keep_none (h1 : r.k ≠ 1) (h2 : r.k ≠ 2) (h3 : r.k ≠ 3) (h4 : r.k ≠ 4) (h5 : countsR r = false) : JInv n (l ++ [r]) S :=
  have a := keep_led h h1; have b := keep_sure h h2; have c := keep_swap h h3; have d := keep_ack h h4; have e := keep_told h h5
  ⟨h.nodes, a.1, a.2, c.1, c.2.1, c.2.2.1, c.2.2.2, d.1, d.2.1, d.2.2, e.1, e.2.1, e.2.2.1, e.2.2.2, b.1, h.last2, b.2.1, b.2.2⟩
theorem keep_kind1 (hk : r.k = 1) (h0 : (ledJ S r).1 = 0) : JInv n (l ++ [r]) (ledJ S r).2 := by
  have h5 : countsR r = false := by unfold countsR; rw [decide_eq_false (by omega)]; rfl
  have b := keep_sure h (r := r) (by omega); have c := keep_swap h (r := r) (by omega); have d := keep_ack h (r := r) (by omega); have e := keep_told h h5
  have hs : (ledJ S r).2 = { S with led := S.led.put r.t r.w } := by
    revert h0
    unfold ledJ
    (repeat' split) <;> intro g <;> first | rfl | exact absurd g (by simp)
  have hold : ∀ u, S.led.get r.t = some u → u = r.w := fun u hu => by
    revert h0
    unfold ledJ
    rw [hu]
    simp only
    by_cases e : u = r.w
    · exact fun _ => e
    · rw [if_pos e]; intro g; exact absurd g (by simp)
  rw [hs]
  refine ⟨h.nodes, fun x hx h1 => ?_, fun t u hg => ?_, c.1, c.2.1, c.2.2.1, c.2.2.2, d.1, d.2.1, d.2.2, e.1, e.2.1, e.2.2.1, e.2.2.2, b.1, h.last2, b.2.1, b.2.2⟩
  · show (S.led.put r.t r.w).get x.t = _
    rw [TM.get_put]
    rcases mem_snoc hx with g | rfl
    · by_cases e : x.t = r.t
      · rw [if_pos e]
        have := h.led1 x g h1
        rw [e] at this
        rw [hold _ this]
      · rw [if_neg e]; exact h.led1 x g h1
    · rw [if_pos rfl]
  · have hg' : (S.led.put r.t r.w).get t = some u := hg
    rw [TM.get_put] at hg'
    by_cases e : t = r.t
    · rw [if_pos e] at hg'
      exact ⟨r, by simp, hk, e.symm, Option.some.inj hg'⟩
    · rw [if_neg e] at hg'
      exact ex_snoc.2 (.inl (h.led2 t u hg'))
omit h in
theorem ackJ_eq : ackJ S r = (if r.e ≤ S.ep r.w.toNat then (9, S) else if o9 S r = true then (9, S) else
  (0, { S with word := S.word.put r.e (wordJ r), yes := if r.y = true then S.yes.put (r.w, r.e) () else S.yes })) := rfl
theorem keep_kind4 (hk : r.k = 4) (h0 : (ackJ S r).1 = 0) : JInv n (l ++ [r]) (ackJ S r).2 := by
  have h5 : countsR r = false := by unfold countsR; rw [decide_eq_false (by omega)]; rfl
  have a := keep_led h (r := r) (by omega); have b := keep_sure h (r := r) (by omega); have c := keep_swap h (r := r) (by omega); have e := keep_told h h5
  have hs : (ackJ S r).2 = { S with word := S.word.put r.e (wordJ r), yes := if r.y = true then S.yes.put (r.w, r.e) () else S.yes } := by
    revert h0
    rw [ackJ_eq]
    by_cases g1 : r.e ≤ S.ep r.w.toNat
    · rw [if_pos g1]; intro g; exact absurd g (show (9 : Int) ≠ 0 by omega)
    · rw [if_neg g1]
      by_cases g2 : o9 S r = true
      · rw [if_pos g2]; intro g; exact absurd g (show (9 : Int) ≠ 0 by omega)
      · rw [if_neg g2]; exact fun _ => rfl
  have hold : ∀ u, S.word.get r.e = some u → u = 0 ∨ u = wordJ r := fun u hu => by
    revert h0
    unfold ackJ
    rw [hu]
    by_cases ge : r.e ≤ S.ep r.w.toNat
    · rw [if_pos ge]; intro g; exact absurd g (show (9 : Int) ≠ 0 by omega)
    · rw [if_neg ge]
      simp only
      by_cases e1 : u = 0
      · exact fun _ => .inl e1
      · by_cases e2 : u = wordJ r
        · exact fun _ => .inr e2
        · intro g
          rw [if_pos (show (decide (u ≠ 0) && decide (u ≠ wordJ r)) = true by simp [e1, e2])] at g
          exact absurd g (show (9 : Int) ≠ 0 by omega)
  have wne : ∀ x : RowT, wordJ x ≠ 0 := fun x => by unfold wordJ; split <;> omega
  rw [hs]
  refine ⟨h.nodes, a.1, a.2, c.1, c.2.1, c.2.2.1, c.2.2.2, fun w ee => ?_, fun x hx h1 => ?_, fun ee u hg => ?_, e.1, e.2.1, e.2.2.1, e.2.2.2, b.1, h.last2, b.2.1, b.2.2⟩
  · show (if r.y = true then S.yes.put (r.w, r.e) () else S.yes).get (w, ee) ≠ none ↔ _
    rw [ex_snoc]
    cases hy : r.y with
    | false =>
      rw [if_neg (by simp)]
      exact (h.yes w ee).trans ⟨.inl, fun g => g.elim id (fun g => by have := g.2.2.2; rw [hy] at this; cases this)⟩
    | true =>
      rw [if_pos rfl, TM.get_put]
      by_cases e : (w, ee) = (r.w, r.e)
      · rw [if_pos e]
        have e' : w = r.w ∧ ee = r.e := by simpa using e
        exact ⟨fun _ => .inr ⟨hk, e'.1.symm, e'.2.symm, hy⟩, fun _ => by simp⟩
      · rw [if_neg e]
        refine (h.yes w ee).trans ⟨.inl, fun g => g.elim id (fun g => ?_)⟩
        exact absurd (by rw [g.2.1, g.2.2.1]) e
  · show (S.word.put r.e (wordJ r)).get x.e = _
    rw [TM.get_put]
    rcases mem_snoc hx with g | rfl
    · by_cases e : x.e = r.e
      · rw [if_pos e]
        have := h.word1 x g h1
        rw [e] at this
        rcases hold _ this with q | q
        · exact absurd q (wne x)
        · rw [q]
      · rw [if_neg e]; exact h.word1 x g h1
    · rw [if_pos rfl]
  · have hg' : (S.word.put r.e (wordJ r)).get ee = some u := hg
    rw [TM.get_put] at hg'
    by_cases e : ee = r.e
    · rw [if_pos e] at hg'
      exact ⟨r, by simp, hk, e.symm, (Option.some.inj hg').symm⟩
    · rw [if_neg e] at hg'
      exact ex_snoc.2 (.inl (h.word2 ee u hg'))
theorem keep_kind2 (hk : r.k = 2) (h0 : (sureJ S r).1 = 0) : JInv n (l ++ [r]) (sureJ S r).2 := by
  have h5 : countsR r = false := counts_k (by omega)
  have a := keep_led h (r := r) (by omega); have c := keep_swap h (r := r) (by omega); have d := keep_ack h (r := r) (by omega); have e := keep_told h h5
  by_cases g1 : (thereJ S r && otherJ S r) = true
  · unfold sureJ at h0; rw [if_pos g1] at h0; exact absurd h0 (show (3 : Int) ≠ 0 by omega)
  by_cases g2 : r.i ≠ 1 ∧ r.i - 1 ≠ (S.last.get r.w).getD 0
  · unfold sureJ at h0; rw [if_neg g1, if_pos g2] at h0; exact absurd h0 (show (4 : Int) ≠ 0 by omega)
  by_cases g3 : r.i < 1
  · unfold sureJ at h0; rw [if_neg g1, if_neg g2, if_pos g3] at h0; exact absurd h0 (show (4 : Int) ≠ 0 by omega)
  by_cases g4 : 1 < r.i ∧ fallsJ S r = true
  · unfold sureJ at h0; rw [if_neg g1, if_neg g2, if_neg g3, if_pos g4] at h0; exact absurd h0 (show (4 : Int) ≠ 0 by omega)
  have hs : (sureJ S r).2 = { S with last := S.last.put r.w r.i, log := if thereJ S r = true then S.log else S.log ++ [(r.t, r.h)] } := by
    unfold sureJ; rw [if_neg g1, if_neg g2, if_neg g3, if_neg g4]
  have hlr : 0 ≤ (S.last.get r.w).getD 0 ∧ (S.last.get r.w).getD 0 ≤ (S.log.length : Int) := by
    cases hg : S.last.get r.w with
    | none => simp
    | some v => have := h.last2 _ _ hg; simp; omega
  have hile : r.i ≤ (S.log.length : Int) + 1 := by
    by_cases e1 : r.i = 1
    · omega
    · have : r.i - 1 = (S.last.get r.w).getD 0 := by
        by_cases e2 : r.i - 1 = (S.last.get r.w).getD 0
        · exact e2
        · exact absurd ⟨e1, e2⟩ g2
      omega
  have hth : thereJ S r = true ∨ (thereJ S r = false ∧ r.i = (S.log.length : Int) + 1) := by
    cases ht : thereJ S r with
    | true => exact .inl rfl
    | false =>
      right
      refine ⟨rfl, ?_⟩
      unfold thereJ at ht
      rw [decide_eq_true (show 1 ≤ r.i by omega), Bool.true_and] at ht
      have := of_decide_eq_false ht
      omega
  have hlog : ∃ L, L = (if thereJ S r = true then S.log else S.log ++ [(r.t, r.h)]) ∧ (∀ (j : Nat) y, S.log[j]? = some y → L[j]? = some y) ∧ r.i ≤ (L.length : Int) ∧ S.log.length ≤ L.length ∧ (∃ y, L[(r.i - 1).toNat]? = some y ∧ y.1 = r.t ∧ hl y.2 = hl r.h) ∧
      (∀ (j : Nat) y, L[j]? = some y → S.log[j]? = some y ∨ ((j : Int) + 1 = r.i ∧ y = (r.t, r.h))) := by
    refine ⟨_, rfl, ?_⟩
    rcases hth with ht | ⟨ht, hi⟩
    · rw [if_pos ht]
      have ht' := ht
      unfold thereJ at ht'
      simp only [Bool.and_eq_true, decide_eq_true_eq] at ht'
      have hlt : (r.i - 1).toNat < S.log.length := by omega
      have hg : S.log[(r.i - 1).toNat]? = some (S.log[(r.i - 1).toNat]) := List.getElem?_eq_getElem hlt
      have hot : otherJ S r = false := by
        cases ho : otherJ S r with
        | false => rfl
        | true => rw [ht, ho] at g1; exact absurd rfl g1
      unfold otherJ at hot
      rw [hg] at hot
      have hot2 : S.log[(r.i - 1).toNat].1 = r.t ∧ hl S.log[(r.i - 1).toNat].2 = hl r.h := by simpa using hot
      exact ⟨fun j y g => g, ht'.2, Nat.le_refl _, ⟨_, hg, hot2⟩, fun j y g => .inl g⟩
    · rw [if_neg (by rw [ht]; simp)]
      refine ⟨fun j y g => ?_, by simp; omega, by simp, ⟨(r.t, r.h), ?_, rfl, rfl⟩, fun j y g => ?_⟩
      · rw [List.getElem?_append_left (List.getElem?_eq_some_iff.1 g).1]; exact g
      · rw [show (r.i - 1).toNat = S.log.length by omega]; simp
      · rcases Nat.lt_or_ge j S.log.length with q | q
        · rw [List.getElem?_append_left q] at g; exact .inl g
        · rw [List.getElem?_append_right q] at g
          right
          have hj : j - S.log.length = 0 := by
            rcases Nat.eq_zero_or_pos (j - S.log.length) with z | z
            · exact z
            · rw [List.getElem?_eq_none (by simp; omega)] at g; cases g
          rw [hj] at g
          have gy : (r.t, r.h) = y := by simpa using g
          exact ⟨by omega, gy.symm⟩
  obtain ⟨L, hL, l1, l2, l3, l4, l5⟩ := hlog
  rw [hs, ← hL]
  refine ⟨h.nodes, a.1, a.2, c.1, c.2.1, c.2.2.1, c.2.2.2, d.1, d.2.1, d.2.2, e.1, e.2.1, e.2.2.1, e.2.2.2, fun w => ?_, fun w v hg => ?_, fun x hx h1 => ?_, fun j y hg => ?_⟩
  · show ((S.last.put r.w r.i).get w).getD 0 = _
    rw [TM.get_put, lastR_snoc]
    by_cases e1 : w = r.w
    · rw [if_pos e1, if_pos ⟨hk, e1.symm⟩]; rfl
    · rw [if_neg e1, if_neg (fun g => e1 g.2.symm)]; exact h.last w
  · have hg' : (S.last.put r.w r.i).get w = some v := hg
    show 1 ≤ v ∧ v ≤ (L.length : Int)
    rw [TM.get_put] at hg'
    by_cases e1 : w = r.w
    · rw [if_pos e1] at hg'
      cases hg'
      exact ⟨by omega, l2⟩
    · rw [if_neg e1] at hg'
      have := h.last2 w v hg'
      omega
  · rcases mem_snoc hx with g | rfl
    · obtain ⟨b1, y, b2, b3⟩ := h.log1 x g h1
      exact ⟨b1, y, l1 _ _ b2, b3⟩
    · exact ⟨by omega, l4⟩
  · rcases l5 j y hg with g | ⟨g, rfl⟩
    · exact ex_snoc.2 (.inl (h.log2 j y g))
    · exact ⟨r, by simp, hk, g.symm, rfl, rfl⟩
theorem keep_kind3 (hk : r.k = 3) (hw : 1 ≤ r.w ∧ r.w ≤ n) (h0 : (swapJ S r).1 = 0) : JInv n (l ++ [r]) (swapJ S r).2 := by
  have h5 : countsR r = false := counts_k (by omega)
  have a := keep_led h (r := r) (by omega); have b := keep_sure h (r := r) (by omega); have d := keep_ack h (r := r) (by omega); have e := keep_told h h5
  rw [swapJ_eq] at h0 ⊢
  by_cases g1 : r.e ≤ S.ep r.w.toNat
  · rw [if_pos g1] at h0; exact absurd h0 (show (5 : Int) ≠ 0 by omega)
  rw [if_neg g1] at h0 ⊢
  by_cases g2 : o6 S r = true
  · rw [if_pos g2] at h0; exact absurd h0 (show (6 : Int) ≠ 0 by omega)
  rw [if_neg g2] at h0 ⊢
  by_cases g3 : yesesJ S r.e S.n.toNat = false
  · rw [if_pos g3] at h0; exact absurd h0 (show (7 : Int) ≠ 0 by omega)
  rw [if_neg g3] at h0 ⊢
  by_cases g4 : o8 S r = true
  · rw [if_pos g4] at h0; exact absurd h0 (show (8 : Int) ≠ 0 by omega)
  rw [if_neg g4]
  have hold : ∀ a, S.images.get r.e = some a → hl a = hl r.h := fun a ha => by
    unfold o6 at g2
    rw [ha] at g2
    simpa using g2
  refine ⟨h.nodes, a.1, a.2, fun w h1 h2 => ?_, ?_, fun x hx h1 => ?_, fun ee u hg => ?_, d.1, d.2.1, d.2.2, e.1, e.2.1, e.2.2.1, e.2.2.2, b.1, h.last2, b.2.1, b.2.2⟩
  · show (if w.toNat = r.w.toNat then r.e else S.ep w.toNat) = _
    rw [epochR_snoc]
    by_cases e1 : w = r.w
    · rw [if_pos (by rw [e1]), if_pos ⟨hk, e1.symm⟩]
    · rw [if_neg (by omega), if_neg (fun g => e1 g.2.symm)]; exact h.ep w h1 h2
  · show (if r.e > S.top then r.e else S.top) = _
    rw [topR_snoc, h.top]
    by_cases e1 : topR l 0 < r.e
    · rw [if_pos e1, if_pos ⟨hk, e1⟩]
    · rw [if_neg e1, if_neg (fun g => e1 g.2)]
  · show ∃ h, (S.images.put r.e r.h).get x.e = some h ∧ hl h = hl x.h
    rw [TM.get_put]
    rcases mem_snoc hx with g | rfl
    · by_cases e1 : x.e = r.e
      · rw [if_pos e1]
        obtain ⟨a', b1, b2⟩ := h.img1 x g h1
        rw [e1] at b1
        exact ⟨_, rfl, (hold _ b1).symm.trans b2⟩
      · rw [if_neg e1]; exact h.img1 x g h1
    · rw [if_pos rfl]; exact ⟨_, rfl, rfl⟩
  · have hg' : (S.images.put r.e r.h).get ee = some u := hg
    rw [TM.get_put] at hg'
    by_cases e1 : ee = r.e
    · rw [if_pos e1] at hg'
      cases hg'
      exact ⟨r, by simp, hk, e1.symm, rfl⟩
    · rw [if_neg e1] at hg'
      exact ex_snoc.2 (.inl (h.img2 ee u hg'))
theorem keep_kind5 (hk : r.k = 5) (h0 : (toldJ S r).1 = 0) : JInv n (l ++ [r]) (toldJ S r).2 := by
  have hcr : countsR r = (r.y && decide (r.c ≠ 61)) := by unfold countsR; rw [decide_eq_true hk]; rfl
  rw [toldJ_eq] at h0 ⊢
  by_cases g0 : r.y = false ∨ r.c = 61
  · rw [if_pos g0]
    refine keep_none h (by omega) (by omega) (by omega) (by omega) ?_
    rw [hcr]
    rcases g0 with g0 | g0
    · rw [g0]; rfl
    · rw [decide_eq_false (fun g => g g0)]; cases r.y <;> rfl
  rw [if_neg g0] at h0 ⊢
  have hc : countsR r = true := by
    rw [hcr]
    have h1 : r.y = true := by cases hy : r.y with | true => rfl | false => exact absurd (.inl hy) g0
    rw [h1, decide_eq_true (show r.c ≠ 61 from fun g => g0 (.inr g))]; rfl
  by_cases g1 : o10 S r = true
  · rw [if_pos g1] at h0; exact absurd h0 (show (10 : Int) ≠ 0 by omega)
  rw [if_neg g1] at h0 ⊢
  by_cases g2 : (propJ r && o11 S r) = true
  · rw [if_pos g2] at h0; exact absurd h0 (show (11 : Int) ≠ 0 by omega)
  rw [if_neg g2]
  have a := keep_led h (r := r) (by omega); have b := keep_sure h (r := r) (by omega); have c := keep_swap h (r := r) (by omega); have d := keep_ack h (r := r) (by omega)
  have holdA : ∀ x, S.answers.get (r.w, r.s) = some x → x.1 = r.c ∧ x.2.1 = r.e ∧ hl x.2.2 = hl r.h := fun x hx => by
    unfold o10 at g1
    rw [hx] at g1
    simpa using g1
  have hprop : propJ r = true ↔ r.c = 0 ∧ 0 < r.e := by unfold propJ; simp
  have holdB : propJ r = true → ∀ q, S.askers.get r.e = some q → q = (r.w, r.s) := fun hp q hq => by
    rw [hp, Bool.true_and] at g2
    unfold o11 at g2
    rw [hq] at g2
    simpa using g2
  refine ⟨h.nodes, a.1, a.2, c.1, c.2.1, c.2.2.1, c.2.2.2, d.1, d.2.1, d.2.2, fun x hx h1 => ?_, fun q v hg => ?_, fun x hx h1 h2 h3 => ?_, fun ee q hg => ?_, b.1, h.last2, b.2.1, b.2.2⟩
  · show ∃ a, (S.answers.put (r.w, r.s) (r.c, r.e, r.h)).get (x.w, x.s) = some a ∧ _
    rw [TM.get_put]
    rcases mem_snoc hx with g | rfl
    · by_cases e1 : (x.w, x.s) = (r.w, r.s)
      · rw [if_pos e1]
        obtain ⟨v, b1, b2, b3, b4⟩ := h.ans1 x g h1
        rw [e1] at b1
        obtain ⟨q1, q2, q3⟩ := holdA _ b1
        exact ⟨_, rfl, q1.symm.trans b2, q2.symm.trans b3, q3.symm.trans b4⟩
      · rw [if_neg e1]; exact h.ans1 x g h1
    · rw [if_pos rfl]; exact ⟨_, rfl, rfl, rfl, rfl⟩
  · have hg' : (S.answers.put (r.w, r.s) (r.c, r.e, r.h)).get q = some v := hg
    rw [TM.get_put] at hg'
    by_cases e1 : q = (r.w, r.s)
    · rw [if_pos e1] at hg'
      cases hg'
      exact ⟨r, by simp, hc, e1.symm, rfl, rfl, rfl⟩
    · rw [if_neg e1] at hg'
      exact ex_snoc.2 (.inl (h.ans2 q v hg'))
  · show (if propJ r = true then S.askers.put r.e (r.w, r.s) else S.askers).get x.e = some (x.w, x.s)
    by_cases hp : propJ r = true
    · rw [if_pos hp, TM.get_put]
      rcases mem_snoc hx with g | rfl
      · by_cases e1 : x.e = r.e
        · rw [if_pos e1]
          have := h.ask1 x g h1 h2 h3
          rw [e1] at this
          rw [holdB hp _ this]
        · rw [if_neg e1]; exact h.ask1 x g h1 h2 h3
      · rw [if_pos rfl]
    · rw [if_neg hp]
      rcases mem_snoc hx with g | rfl
      · exact h.ask1 x g h1 h2 h3
      · exact absurd (hprop.2 ⟨h2, h3⟩) hp
  · have hg' : (if propJ r = true then S.askers.put r.e (r.w, r.s) else S.askers).get ee = some q := hg
    by_cases hp : propJ r = true
    · rw [if_pos hp, TM.get_put] at hg'
      by_cases e1 : ee = r.e
      · rw [if_pos e1] at hg'
        cases hg'
        obtain ⟨p1, p2⟩ := hprop.1 hp
        exact ⟨r, by simp, hc, p1, p2, e1.symm, rfl⟩
      · rw [if_neg e1] at hg'
        exact ex_snoc.2 (.inl (h.ask2 ee q hg'))
    · rw [if_neg hp] at hg'
      exact ex_snoc.2 (.inl (h.ask2 ee q hg'))
theorem keep_law (h0 : (addJ S r).1 = 0) : JInv n (l ++ [r]) (addJ S r).2 := by
  unfold addJ at h0 ⊢
  by_cases a1 : r.k < 1 ∨ 7 < r.k
  · rw [if_pos a1] at h0; exact absurd h0 (show (1 : Int) ≠ 0 by omega)
  rw [if_neg a1] at h0 ⊢
  by_cases a2 : ofNode r ∧ (r.w < 1 ∨ S.n < r.w)
  · rw [if_pos a2] at h0; exact absurd h0 (show (1 : Int) ≠ 0 by omega)
  rw [if_neg a2] at h0 ⊢
  by_cases a3 : (r.k = 3 ∨ r.k = 4) ∧ r.e < 1
  · rw [if_pos a3] at h0; exact absurd h0 (show (1 : Int) ≠ 0 by omega)
  rw [if_neg a3] at h0 ⊢
  by_cases b1 : r.k = 1
  · rw [if_pos b1] at h0 ⊢; exact keep_kind1 h b1 h0
  rw [if_neg b1] at h0 ⊢
  by_cases b2 : r.k = 2
  · rw [if_pos b2] at h0 ⊢; exact keep_kind2 h b2 h0
  rw [if_neg b2] at h0 ⊢
  by_cases b3 : r.k = 3
  · rw [if_pos b3] at h0 ⊢
    have h1 : ¬ r.w < 1 := fun e => a2 ⟨.inl b3, .inl e⟩
    have h2 : ¬ S.n < r.w := fun e => a2 ⟨.inl b3, .inr e⟩
    have hn := h.nodes
    exact keep_kind3 h b3 (by omega) h0
  rw [if_neg b3] at h0 ⊢
  by_cases b4 : r.k = 4
  · rw [if_pos b4] at h0 ⊢; exact keep_kind4 h b4 h0
  rw [if_neg b4] at h0 ⊢
  by_cases b5 : r.k = 5
  · rw [if_pos b5] at h0 ⊢; exact keep_kind5 h b5 h0
  rw [if_neg b5] at h0 ⊢
  by_cases b6 : r.k = 6
  · rw [if_pos b6] at h0 ⊢
    have hs : (judJ S r).2 = S := by unfold judJ; split <;> rfl
    rw [hs]
    exact keep_none h (by omega) (by omega) (by omega) (by omega) (counts_k (by omega))
  rw [if_neg b6]
  exact keep_none h b1 b2 b3 b4 (counts_k b5)
end
end
end Go.Proofs.Ytfpbiojnbffkpaa
namespace Go.Proofs.Ytfpbiojnbffkpaa
open Go Go.DI Go.Proofs Go.Jud
noncomputable section
variable {α : Type}
set_option maxHeartbeats 4000000 in
theorem t_row (kk : Int) (w t ix e s st c tr : Int) (y : Bool) (h : Nat → Int) (v : Int) : Y.callK Try.prog kp 0 20 11 [.agg ⟨rowC kk w t ix e s st c tr y h v⟩] m0 (fun v _ => some v) =
  (some (.agg ⟨([(.int .i64 kk), (.int .i64 w), (.int .i64 t), (.int .i64 ix), (.int .i64 e), (.int .i64 s), (.int .i64 st), (.int .i64 c), (.int .i64 tr), (.bool y)] ++ hashC h ++ [(.int .u64 v)])⟩)) := by kernel_rfl
end
end Go.Proofs.Ytfpbiojnbffkpaa
namespace Go.Proofs.Ytfpbiojnbffkpaa
open Go Go.DI Go.Proofs Go.Jud
noncomputable section
def growM (M : Mem) (d : Nat) : Mem := ⟨fun j => if j < M.size then M.get j else .none, .nil, M.size + d⟩
theorem growM_get (M : Mem) (d j : Nat) : (growM M d).get j = if j < M.size then M.get j else .none := by simp only [Mem.get, growM, Tr.get_nil]
open Classical in
def runP (f : FuncId) (args : List Value) (M : Mem) : Option (Value × Mem) :=
  if M.top ∧ ∀ x ∈ args, Free x then
    match callD Try.prog kp 0 20 f args m0 with
    | some (v, m) => if Free v then some (v, growM M m.size) else none
    | none => none
  else none
theorem vsims_free {ρ : Nat → Nat} {A : Nat → Bool} : ∀ {l : List Value}, (∀ x ∈ l, Free x) → VSims ρ A l l
  | [], _ => .nil
  | x :: l, h => .cons ((h x (List.mem_cons_self ..)).sim ρ A) (vsims_free fun y hy => h y (List.mem_cons_of_mem _ hy))
theorem runP_ok {B0 : Nat} {f : FuncId} {args : List Value} {M M' : Mem} {v : Value} (h : runP f args M = some (v, M')) : CallOK Try.prog B0 0 f args M v M' ∧ Grw M M' := by
  unfold runP at h
  split at h <;> try (simp at h; done)
  rename_i hc
  obtain ⟨ht, ha⟩ := hc
  split at h <;> try (simp at h; done)
  rename_i v0 m hrun
  split at h <;> simp at h
  rename_i hv
  obtain ⟨rfl, rfl⟩ := h
  have hg := callD_grw (P := Try.prog) (K := kp) (G := 0) 20 f _ _ _ _ hrun
  have hloc : Local (fun i => M.size + i) (fun _ => false) m0 m M (growM M m.size) := by
    refine ⟨fun i hi => (by cases hi), hg, fun b _ => rfl, fun j hj => ?_, fun i hi => (by cases hi), fun i j hi => (by cases hi), fun i _ _ => rfl, rfl, fun i hi => (by cases hi), fun i h1 _ => .inl ?_, fun b hb _ => ?_⟩
    · have hj' : M.size + m.size ≤ j := hj
      rw [growM_get, if_neg (by omega)]
    · rw [growM_get, if_neg (by omega)]
    · rw [growM_get, if_pos hb]
  refine ⟨embed ((callD_ok hmix hK hng 20).ok _ _ _ _ _ hrun) hloc (vsims_free ha) (hv.emb _), ⟨by show M.size ≤ M.size + _; omega, fun _ => hloc.top', fun j hj hl => ?_, fun j hj ho => ?_⟩⟩
  · rw [growM_get, if_pos hj] at hl; exact hl
  · rw [growM_get, if_pos hj] at ho; exact ho
end
end Go.Proofs.Ytfpbiojnbffkpaa
namespace Go.Proofs.Ytfpbiojnbffkpaa
open Go Go.DI Go.Proofs Go.Jud
noncomputable section
theorem of_tree {f : FuncId} {args : List Value} {x : Value} (h : Y.callK Try.prog kp 0 20 f args m0 (fun v _ => some v) = some x) : ∃ m, callD Try.prog kp 0 20 f args m0 = some (x, m) := by
  rw [Y.callK_eq] at h
  cases hc : callD Try.prog kp 0 20 f args m0 with
  | none => rw [hc] at h; cases h
  | some p =>
    obtain ⟨v, m⟩ := p
    rw [hc] at h
    have : some v = some x := h
    cases this
    exact ⟨m, rfl⟩
theorem row_small (r : RowT) : ∃ m, callD Try.prog kp 0 20 11 [.agg ⟨rowR r⟩] m0 = some (.agg ⟨rowR r⟩, m) := of_tree (t_row ..)
end
end Go.Proofs.Ytfpbiojnbffkpaa
namespace Go.Proofs.Ytfpbiojnbffkpaa
open Go Go.DI Go.Proofs Go.Jud
noncomputable section
def oA : Orc := fun f args M => if f = 11 then runP f args M else oJ f args M
theorem oA_both {B0 : Nat} {f : FuncId} {args : List Value} {M M' : Mem} {v : Value} (h : oA f args M = some (v, M')) : CallOK Try.prog B0 0 f args M v M' ∧ Grw M M' := by
  unfold oA at h
  split at h
  · exact runP_ok h
  · exact ⟨(oJ_ok (B0 := B0)).ok _ _ _ _ _ h, oJ_grw _ _ _ _ _ h⟩
theorem oA_grw : CfGrw oA := fun f args M v M' h => (oA_both (B0 := 0) h).2
theorem oA_fn {f : FuncId} {args : List Value} {M M' : Mem} {v : Value} (h : oA f args M = some (v, M')) : ∃ fn, Try.prog.funcs[f]? = some fn ∧ fn.body.isNone = false ∧ (fn.name == "runtime.NumGoroutine") = false := by
  unfold oA at h
  split at h
  · rename_i hf; subst hf; exact hasB_of (by kernel_rfl)
  · exact (oJ_ok (B0 := 0)).body _ _ _ _ _ h
theorem oA_ok {B0 : Nat} : CfOK Try.prog B0 0 oA := ⟨fun f args M v M' h => (oA_grw f args M v M' h).size, fun f args M v M' h => (oA_both h).1, fun f args M v M' h => oA_fn h⟩
theorem oA_7 (M : Mem) : oA 7 [] M = some (.bool true, M) := by
  unfold oA
  rw [if_neg (by decide)]
  unfold oJ
  rw [if_pos rfl]
theorem oA_11 (a : List Value) (M : Mem) : oA 11 a M = runP 11 a M := by
  unfold oA
  rw [if_pos rfl]
theorem oA_J (f : FuncId) (h : f ≠ 11 ∧ f ≠ 14 ∧ f ≠ 15) (a : List Value) (M : Mem) : oA f a M = oJ f a M := by
  unfold oA
  rw [if_neg h.1]
theorem oA_none (f : FuncId) (h : f ≠ 11 ∧ f ≠ 14 ∧ f ≠ 15 ∧ f ≠ 7 ∧ f ≠ 13) (a : List Value) (M : Mem) : oA f a M = none := by
  rw [oA_J f ⟨h.1, h.2.1, h.2.2.1⟩]
  unfold oJ o13
  rw [if_neg h.2.2.2.1, if_neg h.2.2.2.2]
theorem oA_row {M : Mem} (ht : M.top) (r : RowT) : ∃ d, oA 11 [.agg ⟨rowR r⟩] M = some (.agg ⟨rowR r⟩, growM M d) := by
  obtain ⟨m, hm⟩ := row_small r
  refine ⟨m.size, ?_⟩
  rw [oA_11]
  unfold runP
  rw [if_pos ⟨ht, fun x hx => by simp only [List.mem_singleton] at hx; subst hx; exact free_row r⟩, hm]
  exact if_pos (free_row r)
theorem oA_add (b : Nat) (row : Value) (M : Mem) : oA 13 [.pointer (some ⟨b, 0, none⟩), row] M = oJ 13 [.pointer (some ⟨b, 0, none⟩), row] M := oA_J 13 (by decide) _ _
theorem growM_top (M : Mem) (d : Nat) : (growM M d).top := fun j hj => by
  have hj : M.size + d ≤ j := hj
  rw [growM_get, if_neg (by omega)]
theorem growM_ext (M : Mem) (d : Nat) : Ext M (growM M d) := ⟨by show M.size ≤ M.size + d; omega, fun j hj => by rw [growM_get, if_pos hj], fun _ => growM_top M d⟩
end
end Go.Proofs.Ytfpbiojnbffkpaa
namespace Go.Proofs.Ytfpbiojnbffkpaa
open Go Go.DI Go.Proofs Go.Jud
noncomputable section
variable {α : Type}
set_option maxHeartbeats 4000000 in
theorem t_new (cf : Y.CF α) (L : Y.LK α) (k : Nat) (m : Mem) (n : Int) (q : Value → Mem → Option α) : Y.codeF (bodyOf Try.f12) Try.prog kp 0 (Y.cfT Try.prog cf) L 20 k (fullN 20 (argX [.int .i64 n])) m (Y.retF Try.prog Try.f12 q) =
  (cond (Y.ltF n (1 : Int)) (q (.tuple ⟨[(.pointer none), (.int .i64 (1 : Int))]⟩) m) (cond (Y.ltF (4 : Int) n) (q (.tuple ⟨[(.pointer none), (.int .i64 (1 : Int))]⟩) m) (q (.tuple ⟨[(.pointer (some (Addr.mk (Nat.succ (Nat.succ (Nat.succ (Nat.succ (Nat.succ (Nat.succ (Nat.succ (Mem.size m)))))))) 0 none))), (.int .i64 (0 : Int))]⟩) (Mem.push (Mem.push (Mem.push (Mem.push (Mem.push (Mem.push (Mem.push (Mem.push m (Blk.map true [] 0)) (Blk.map true [] 0)) (Blk.map true [] 0)) (Blk.map true [] 0)) (Blk.map true [] 0)) (Blk.map true [] 0)) (Blk.map true [] 0)) (.cells true [(.int .i64 n), (.map (some (Mem.size m))), (.slice none 0 0), (.map (some (Nat.succ (Mem.size m)))), (.int .i64 (0 : Int)), (.int .i64 (0 : Int)), (.int .i64 (0 : Int)), (.int .i64 (0 : Int)), (.int .i64 (0 : Int)), (.int .i64 (0 : Int)), (.map (some (Nat.succ (Nat.succ (Mem.size m))))), (.map (some (Nat.succ (Nat.succ (Nat.succ (Mem.size m)))))), (.map (some (Nat.succ (Nat.succ (Nat.succ (Nat.succ (Mem.size m))))))), (.map (some (Nat.succ (Nat.succ (Nat.succ (Nat.succ (Nat.succ (Mem.size m)))))))), (.map (some (Nat.succ (Nat.succ (Nat.succ (Nat.succ (Nat.succ (Nat.succ (Mem.size m)))))))))]))))) := by kernel_rfl
set_option maxHeartbeats 4000000 in
theorem t_jep (cf : Y.CF α) (L : Y.LK α) (k : Nat) (m : Mem) (jb : Nat) (n : Int) (q : Value → Mem → Option α) : Y.codeF (bodyOf Try.f16) Try.prog kp 0 (Y.cfT Try.prog cf) L 25 k (fullN 25 (argX [.pointer (some ⟨jb, 0, none⟩), .int .i64 n])) m (Y.retF Try.prog Try.f16 q) =
  (cond (Y.ltF n (1 : Int)) (q (.int .i64 (0 : Int)) m) (Y.cellsOf (Mem.get m jb) (fun x_8 c_9 => (Option.elim (Y.nthL c_9 0) none (fun o10 => (Y.asInt o10 (fun k'_11 n_12 => (cond (Y.kEq .i64 k'_11) (cond (Y.ltF n_12 n) (q (.int .i64 (0 : Int)) m) (Y.onNat n (fun i_13 => (cond (Nat.blt i_13 5) (Y.cellsOf (Mem.get m jb) (fun x_14 c_15 => (Option.elim (Y.nthL c_15 (Nat.add 4 (Nat.mul i_13 1))) none (fun o16 => (Y.asInt o16 (fun k'_17 n_18 => (cond (Y.kEq .i64 k'_17) (q (.int .i64 n_18) m) none)) none))))) none)))) none)) none)))))) := by kernel_rfl
end
end Go.Proofs.Ytfpbiojnbffkpaa
namespace Go.Proofs.Ytfpbiojnbffkpaa
open Go Go.DI Go.Proofs Go.Jud
noncomputable section
def newM (m : Mem) (n : Int) : Mem :=
  (((((((m.push (.map true [] 0)).push (.map true [] 0)).push (.map true [] 0)).push (.map true [] 0)).push (.map true [] 0)).push (.map true [] 0)).push (.map true [] 0)).push (.cells true (judL (.int .i64 n) (.slice none 0 0) (.int .i64 0) (.int .i64 0) (.int .i64 0) (.int .i64 0) (.int .i64 0) (.int .i64 0) m.size (m.size + 1) (m.size + 2) (m.size + 3) (m.size + 4) (m.size + 5) (m.size + 6)))
def newV (m : Mem) : Value := .tuple ⟨[.pointer (some ⟨m.size + 7, 0, none⟩), .int .i64 0]⟩
def nilV : Value := .tuple ⟨[.pointer none, .int .i64 1]⟩
theorem filt_n {v : Value} (m : Mem) (h : okR Try.prog 12 v = true) : filtR Try.prog 12 (some (v, m)) = some (v, m) := by simp only [filtR, h, cond_true]
theorem new_run (o : Orc) (k : Nat) (hk : 1 ≤ k) (ho : ∀ a m, o 12 a m = none) (n : Int) (m : Mem) : callN Try.prog kp 0 o k 12 [.int .i64 n] m = cond (Y.ltF n 1) (some (nilV, m)) (cond (Y.ltF 4 n) (some (nilV, m)) (some (newV m, newM m n))) := by
  obtain ⟨k, rfl⟩ : ∃ k', k = k' + 1 := ⟨k - 1, by omega⟩
  simp only [callN, ho]
  rw [Y.body_eq (Y.callN_typed Try.prog kp 0 o k) (c := bodyOf Try.f12) (fn := Try.f12) 20 Try.func12 (by kernel_rfl) _ (by kernel_rfl)]
  refine (congrArg (filtR Try.prog 12) (t_new ..)).trans ?_
  cases Y.ltF n 1 with
  | true => exact filt_n m (by kernel_rfl)
  | false =>
    cases Y.ltF 4 n with
    | true => exact filt_n m (by kernel_rfl)
    | false => exact filt_n (v := newV m) _ (by kernel_rfl)
def rhoN (s : Nat) (i : Nat) : Nat := match i with | 0 => s + 7 | 8 => 0 | i + 1 => s + i
theorem newM_size (m : Mem) (n : Int) : (newM m n).size = m.size + 8 := rfl
theorem newM_ext (m : Mem) (n : Int) : Ext m (newM m n) :=
  (((((((Ext.push m _).trans (Ext.push _ _)).trans (Ext.push _ _)).trans (Ext.push _ _)).trans (Ext.push _ _)).trans (Ext.push _ _)).trans (Ext.push _ _)).trans (Ext.push _ _)
theorem newM_map (m : Mem) (n : Int) (i : Nat) (hi : i < 7) : (newM m n).get (m.size + i) = .map true [] 0 := by
  unfold newM
  rcases (show i = 0 ∨ i = 1 ∨ i = 2 ∨ i = 3 ∨ i = 4 ∨ i = 5 ∨ i = 6 by omega) with rfl | rfl | rfl | rfl | rfl | rfl | rfl
  all_goals
    simp only [Mem.get_push, Mem.size_push]
    repeat (first | rfl | rw [if_pos trivial] | rw [if_pos (by omega)] | rw [if_neg (by omega)])
theorem new_holds (m : Mem) (n : Int) : Holds (JS.new n) (rhoN m.size) (newM m n) := by
  have hm := newM_map m n
  refine ⟨?_, hm 0 (by omega), hm 1 (by omega), hm 2 (by omega), hm 3 (by omega), hm 4 (by omega), hm 5 (by omega), hm 6 (by omega), fun h => absurd rfl h, fun i hi => ?_, fun i j hi hj e => ?_⟩
  · show (newM m n).get (m.size + 7) = _
    exact (Mem.get_push_same _ _)
  · have h8 : i < 8 := by
      have : isL (JS.new n) = false := rfl
      rw [this] at hi
      simpa [seeJ] using hi
    rw [newM_size]
    rcases (show i = 0 ∨ i = 1 ∨ i = 2 ∨ i = 3 ∨ i = 4 ∨ i = 5 ∨ i = 6 ∨ i = 7 by omega) with rfl | rfl | rfl | rfl | rfl | rfl | rfl | rfl <;> simp [rhoN]
  · have hf : isL (JS.new n) = false := rfl
    rw [hf] at hi hj
    have h8 : i < 8 := by simpa [seeJ] using hi
    have k8 : j < 8 := by simpa [seeJ] using hj
    have e0 : ∀ i, i < 8 → rhoN m.size i = m.size + (if i = 0 then 7 else i - 1) := fun i hi => by
      rcases (show i = 0 ∨ i = 1 ∨ i = 2 ∨ i = 3 ∨ i = 4 ∨ i = 5 ∨ i = 6 ∨ i = 7 by omega) with rfl | rfl | rfl | rfl | rfl | rfl | rfl | rfl <;> rfl
    rw [e0 i h8, e0 j k8] at e
    split at e <;> split at e <;> omega
theorem jep_run (o : Orc) (k : Nat) (hk : 1 ≤ k) (ho : ∀ a m, o 16 a m = none) {S : JS} {ρ : Nat → Nat} {m : Mem} (hH : Holds S ρ m) (h4 : S.n ≤ 4) (n : Int) : callN Try.prog kp 0 o k 16 [.pointer (some ⟨ρ 0, 0, none⟩), .int .i64 n] m = some (.int .i64 (if n < 1 ∨ S.n < n then 0 else S.ep n.toNat), m) := by
  obtain ⟨k, rfl⟩ : ∃ k', k = k' + 1 := ⟨k - 1, by omega⟩
  simp only [callN, ho]
  refine (congrArg (filtR Try.prog _) ?_).trans (filt_i _ _ (by kernel_rfl))
  rw [Y.body_eq (Y.callN_typed Try.prog kp 0 o k) (c := bodyOf Try.f16) (fn := Try.f16) 25 Try.func16 (by kernel_rfl) _ (by kernel_rfl)]
  refine (t_jep ..).trans ?_
  by_cases h1 : n < 1
  · rw [ltF_t h1, if_pos (.inl h1)]; rfl
  rw [ltF_f h1]
  have hn0 : Y.nthL (judL (.int .i64 S.n) (logV (ρ 8) S.log) (.int .i64 (S.ep 0)) (.int .i64 (S.ep 1)) (.int .i64 (S.ep 2)) (.int .i64 (S.ep 3)) (.int .i64 (S.ep 4)) (.int .i64 S.top) (ρ 1) (ρ 2) (ρ 3) (ρ 4) (ρ 5) (ρ 6) (ρ 7)) 0 = some (.int .i64 S.n) := rfl
  simp only [hH.b0, cells_c, hn0, Option.elim, asInt_i, kEq_ii, cond_true, cond_false]
  by_cases h2 : S.n < n
  · rw [ltF_t h2, if_pos (.inr h2)]; rfl
  rw [ltF_f h2, if_neg (fun e => e.elim h1 h2)]
  rcases (show n = 1 ∨ n = 2 ∨ n = 3 ∨ n = 4 by omega) with rfl | rfl | rfl | rfl <;> rfl
end
end Go.Proofs.Ytfpbiojnbffkpaa
namespace Go.Proofs.Ytfpbiojnbffkpaa
open Go Go.DI Go.Proofs Go.Jud
noncomputable section
variable {α : Type}
def cfN (cf : Y.CF α) : Y.CF α := fun f a m q =>
  match f, a with
  | 12, [.int .i64 n] => cond (Y.ltF n 1) (q nilV m) (cond (Y.ltF 4 n) (q nilV m) (q (newV m) (newM m n)))
  | f, a => Y.cfT Try.prog cf f a m q
theorem cfN_of (df : DFun) (h : Y.Typed Try.prog df) (h12 : ∀ n m, df 12 [.int .i64 n] m = cond (Y.ltF n 1) (some (nilV, m)) (cond (Y.ltF 4 n) (some (nilV, m)) (some (newV m, newM m n)))) (f : FuncId) (a : List Value) (m : Mem) (q : Value → Mem → Option α) : cfN (Y.cfOf df) f a m q = onV (df f a m) q := by
  unfold cfN
  split
  · rename_i n
    rw [h12]
    cases Y.ltF n 1 <;> cases Y.ltF 4 n <;> rfl
  · exact Y.cfT_of Try.prog df h _ _ _ _
theorem body_eqN {df : DFun} {cf : Y.CF (Value × Mem)} (hcf : ∀ f a m (q : Value → Mem → Option (Value × Mem)), cf f a m q = onV (df f a m) q) {k : Nat} {f : FuncId} {fn : Func} {c : Code} (n : Nat) (hf : Try.prog.funcs[f]? = some fn) (hc : fn.body = some c) (args : List Value) (hn : max args.length fn.ntmps = n) (m : Mem) :
    bodyN Try.prog kp 0 df k f args m = Y.codeF c Try.prog kp 0 cf (Y.lpOf Try.prog kp 0 df n) n k (fullN n (argX args)) m (Y.retF Try.prog fn fun v m => some (v, m)) := by
  rw [Y.codeF_eq Try.prog kp 0 cf df hcf (Y.lpOf Try.prog kp 0 df n) n k (fun _ _ _ _ _ _ => rfl), bodyN, hf]
  simp only [hc, hn]
  cases codeD Try.prog kp 0 df (drawD Try.prog kp 0 df n) n k c (fullN n (argX args)) m with
  | none => rfl
  | some r =>
    obtain ⟨e, t, m'⟩ := r
    cases e with
    | normal =>
      show _ = Y.resF fn.results.toList Try.prog t m' fun vs => some (resV vs, m')
      rw [Y.resF_eq]
      simp only [endD]
      cases resD Try.prog t m' fn.results.toList <;> rfl
    | exit id => rfl
    | ret =>
      show _ = Y.resF fn.results.toList Try.prog t m' fun vs => some (resV vs, m')
      rw [Y.resF_eq]
      simp only [endD]
      cases resD Try.prog t m' fn.results.toList <;> rfl
end
end Go.Proofs.Ytfpbiojnbffkpaa
namespace Go.Proofs.Ytfpbiojnbffkpaa
open Go Go.DI Go.Proofs Go.Jud
noncomputable section
variable {α : Type}
def markC (id : Nat) : Code → Code
  | .region i ops d => cond (Nat.beq i id) (.loop (.region i ops d)) (.region i ops d)
  | .seq a b => .seq (markC id a) (markC id b)
  | .cond c a b => .cond c (markC id a) (markC id b)
  | .block j c => .block j (markC id c)
  | c => c
def noLoop : Code → Bool
  | .region _ _ _ => true
  | .seq a b => noLoop a && noLoop b
  | .cond _ a b => noLoop a && noLoop b
  | .block _ c => noLoop c
  | .skip => true
  | .exit _ => true
  | .ret => true
  | _ => false
def onceL : Y.LK α := fun body _ _ t m q => body t m q
theorem mark_eq (id : Nat) (P : Program) (K : TypeId → Bool) (G : Nat) (cf : Y.CF α) (L : Y.LK α) (n k : Nat) : ∀ (c : Code), noLoop c = true → ∀ (t : Tmps) (m : Mem) (q : Y.ExK α), Y.codeF c P K G cf L n k t m q = Y.codeF (markC id c) P K G cf onceL n k t m q := by
  intro c
  induction c with
  | skip => intros; rfl
  | exit => intros; rfl
  | ret => intros; rfl
  | region i ops d =>
    intro _ t m q
    unfold markC
    cases Nat.beq i id <;> rfl
  | seq a b ia ib =>
    intro h t m q
    simp only [noLoop, Bool.and_eq_true] at h
    refine (ia h.1 ..).trans ?_
    show _ = Y.codeF (markC id a) P K G cf onceL n k t m fun e t m => Ex.rec (motive := fun _ => Option α) (Y.codeF (markC id b) P K G cf onceL n k t m q) (fun id => q (.exit id) t m) (q .ret t m) e
    congr 1
    funext e t m
    cases e with
    | normal => exact ib h.2 ..
    | exit => rfl
    | ret => rfl
  | cond c a b ia ib =>
    intro h t m q
    simp only [noLoop, Bool.and_eq_true] at h
    show Y.evF c G t (fun v => Y.asBool v (Y.codeF a P K G cf L n k t m q) (Y.codeF b P K G cf L n k t m q)) = Y.evF c G t (fun v => Y.asBool v (Y.codeF (markC id a) P K G cf onceL n k t m q) (Y.codeF (markC id b) P K G cf onceL n k t m q))
    rw [ia h.1, ib h.2]
  | block j c ic =>
    intro h t m q
    simp only [noLoop] at h
    exact ic h ..
  | _ => intro h; cases h
def opsC : Code → List Oper
  | .region _ ops _ => ops.toList
  | _ => []
theorem region_eq (id : Nat) (ops : Array Oper) (P : Program) (K : TypeId → Bool) (G : Nat) (cf : Y.CF α) (L : Y.LK α) (n k : Nat) (t : Tmps) (m : Mem) (q : Y.ExK α) : Y.codeF (.region id ops false) P K G cf L n k t m q = Y.opsF (opsC (.region id ops false)) P K G cf n (opsC (.region id ops false)) t m fun t m => q .normal t m := rfl
theorem opsF_app (P : Program) (K : TypeId → Bool) (G : Nat) (cf : Y.CF α) (n : Nat) (ops l2 : List Oper) (q : Tmps → Mem → Option α) : ∀ (l1 : List Oper) (t : Tmps) (m : Mem), Y.opsF (l1 ++ l2) P K G cf n ops t m q = Y.opsF l1 P K G cf n ops t m fun t m => Y.opsF l2 P K G cf n ops t m q
  | [], t, m => rfl
  | o :: l, t, m => by
    have ih := opsF_app P K G cf n ops l2 q l
    show Bool.rec (motive := fun _ => Option α) none (Bool.rec (motive := fun _ => Option α) (Y.putOF t o.dst undef fun t' => Y.opsF (l ++ l2) P K G cf n ops t' m q)
      (Y.opF o.op P K G cf t m fun v m' => Y.putOF t o.dst v fun t' => Y.opsF (l ++ l2) P K G cf n ops t' m' q) (Y.wantF o ops t)) (Y.dstF n o.dst) = _
    simp only [ih]
    rfl
theorem opsF_cut (i : Nat) (P : Program) (K : TypeId → Bool) (G : Nat) (cf : Y.CF α) (n : Nat) (ops : List Oper) (q : Tmps → Mem → Option α) (t : Tmps) (m : Mem) : Y.opsF ops P K G cf n ops t m q = Y.opsF (ops.take i) P K G cf n ops t m fun t m => Y.opsF (ops.drop i) P K G cf n ops t m q := by
  rw [← opsF_app, List.take_append_drop]
end
end Go.Proofs.Ytfpbiojnbffkpaa
namespace Go.Proofs.Ytfpbiojnbffkpaa
open Go Go.DI Go.Proofs Go.Jud
noncomputable section
theorem Holds.ext {S : JS} {ρ : Nat → Nat} {m m' : Mem} (h : Holds S ρ m) (e : Ext m m') : Holds S ρ m' := by
  have g : ∀ i, seeJ (isL S) i = true → m'.get (ρ i) = m.get (ρ i) := fun i hi => e.get _ (h.lt i hi)
  have g8 : ∀ i, i < 8 → m'.get (ρ i) = m.get (ρ i) := fun i hi => g i (seeJ_low _ hi)
  refine ⟨(g8 0 (by omega)).trans h.b0, (g8 1 (by omega)).trans h.b1, (g8 2 (by omega)).trans h.b2, (g8 3 (by omega)).trans h.b3, (g8 4 (by omega)).trans h.b4, (g8 5 (by omega)).trans h.b5, (g8 6 (by omega)).trans h.b6, (g8 7 (by omega)).trans h.b7, fun hn => (g 8 ?_).trans (h.b8 hn), fun i hi => Nat.lt_of_lt_of_le (h.lt i hi) e.size, h.inj⟩
  simp [seeJ, isL_t hn]
theorem callN_o {k : Nat} {f : FuncId} {a : List Value} {m m' : Mem} {v : Value} (hk : 1 ≤ k) (h : oA f a m = some (v, m')) (hok : okR Try.prog f v = true) : callN Try.prog kp 0 oA k f a m = some (v, m') := by
  obtain ⟨k, rfl⟩ : ∃ k', k = k' + 1 := ⟨k - 1, by omega⟩
  simp only [callN, h, filtR, hok, cond_true]
theorem asAgg_a {α : Type} (a : Array Value) (q : Array Value → Option α) (d : Option α) : Y.asAgg (.agg a) q d = q a := rfl
theorem row_one (r : RowT) : (rowR r).all one = true := rfl
theorem rowsC_one : ∀ l : List RowT, (rowsC l).all one = true
  | [] => rfl
  | r :: l => by
    show (rowR r ++ rowsC l).all one = true
    rw [List.all_append, row_one, rowsC_one l]; rfl
theorem rowsC_snoc (l : List RowT) (r : RowT) : rowsC (l ++ [r]) = rowsC l ++ rowR r := by simp [rowsC]
def Rng (r : RowT) : Prop := -9223372036854775808 ≤ r.i ∧ r.i ≤ 9223372036854775807
def Out (S : JS) (ρ : Nat → Nat) (j : Nat) : Prop := ∀ i, seeJ (isL S) i = true → ρ i ≠ j
structure JSt (n : Int) (jb i : Nat) (K : List RowT) (S : JS) (ρ : Nat → Nat) (M : Mem) : Prop where
  holds : Holds S ρ M
  jb0 : ρ 0 = jb
  top : M.top
  inv : JInv n K S
  log : S.log.length ≤ i
section
variable {n : Int} {jb i : Nat} {K : List RowT} {S : JS} {ρ : Nat → Nat} {M M' : Mem}
theorem JSt.ok (h : JSt n jb i K S ρ M) (h1 : 1 ≤ n) (h4 : n ≤ 4) : S.Ok := ⟨by rw [h.inv.nodes]; exact h1, by rw [h.inv.nodes]; exact h4, h.inv.last2⟩
theorem JSt.ext (h : JSt n jb i K S ρ M) (e : Ext M M') : JSt n jb i K S ρ M' := ⟨h.holds.ext e, h.jb0, e.top h.top, h.inv, h.log⟩
def takeR (n : Int) (K : List RowT) (r : RowT) : List RowT := if wrongR n K r = 0 then K ++ [r] else K
theorem add_run (h : JSt n jb i K S ρ M) (h1 : 1 ≤ n) (h4 : n ≤ 4) {r : RowT} (hr : Rng r) (hi : i ≤ 100000) (k : Nat) (hk : 1 ≤ k) :
    ∃ M' S' ρ', callN Try.prog kp 0 oA k 13 [.pointer (some ⟨jb, 0, none⟩), .agg ⟨rowR r⟩] M = some (.int .i64 (wrongR n K r), M') ∧ JSt n jb (i + 1) (takeR n K r) S' ρ' M' ∧ M.size ≤ M'.size ∧
      ∀ j, j < M.size → Out S ρ j → M'.get j = M.get j ∧ Out S' ρ' j := by
  have hlog : S.log.length ≤ 1000000 := by have := h.log; omega
  have hw := wrong_law h.inv h1 hlog hr
  obtain ⟨M', ρ', ha, hH, hρ, hsee, hsz, ht, hfr⟩ := add_at (h.ok h1 h4) hlog hr h.holds h.top
  refine ⟨M', (addJ S r).2, ρ', ?_, ⟨hH, (hρ 0 (by omega)).trans h.jb0, ht, ?_, ?_⟩, hsz, fun j hj ho => ⟨hfr j hj ho, fun i hi e => ?_⟩⟩
  · refine callN_o hk ?_ (by kernel_rfl)
    rw [oA_add, ← hw, ← h.jb0]
    exact ha
  · unfold takeR
    rw [← hw]
    split
    · rename_i h0; exact keep_law h.inv h0
    · rename_i h0; rw [wrong_leaves S r h0]; exact h.inv
  · have := h.log
    rcases addJ_log S r with g | g
    · rw [g]; omega
    · rw [g, List.length_append]; simp; omega
  · rcases hsee i hi with ⟨g1, g2⟩ | g
    · exact ho i g1 (g2.symm.trans e)
    · omega
end
theorem Holds.same {S : JS} {ρ : Nat → Nat} {m m' : Mem} (h : Holds S ρ m) (g : ∀ i, seeJ (isL S) i = true → m'.get (ρ i) = m.get (ρ i)) (hs : m.size ≤ m'.size) : Holds S ρ m' := by
  have g8 : ∀ i, i < 8 → m'.get (ρ i) = m.get (ρ i) := fun i hi => g i (seeJ_low _ hi)
  refine ⟨(g8 0 (by omega)).trans h.b0, (g8 1 (by omega)).trans h.b1, (g8 2 (by omega)).trans h.b2, (g8 3 (by omega)).trans h.b3, (g8 4 (by omega)).trans h.b4, (g8 5 (by omega)).trans h.b5, (g8 6 (by omega)).trans h.b6, (g8 7 (by omega)).trans h.b7, fun hn => (g 8 ?_).trans (h.b8 hn), fun i hi => Nat.lt_of_lt_of_le (h.lt i hi) hs, h.inj⟩
  simp [seeJ, isL_t hn]
theorem JSt.drop {n : Int} {jb i : Nat} {K : List RowT} {S : JS} {ρ : Nat → Nat} {M : Mem} {z : Nat} (h : JSt n jb i K S ρ M) (ho : Out S ρ z) : JSt n jb i K S ρ (M.set z .none) := by
  refine ⟨h.holds.same (fun i hi => Mem.get_set_ne _ (ho i hi) _) (Nat.le_of_eq rfl), h.jb0, fun j hj => ?_, h.inv, h.log⟩
  by_cases hz : j = z
  · subst hz; exact Mem.get_set_same _ _ _
  · rw [Mem.get_set_ne _ hz]; exact h.top j hj
theorem once_eq {α : Type} (body : Tmps → Mem → Y.ExK α → Option α) (c : Code) (k : Nat) (t : Tmps) (m : Mem) (q : Y.ExK α) : onceL body c k t m q = body t m q := rfl
theorem call_wakes (k : Nat) (hk : 1 ≤ k) (M : Mem) : callN Try.prog kp 0 oA k 7 [] M = some (.bool true, M) := callN_o hk (oA_7 M) (by kernel_rfl)
theorem new_st {n : Int} (h1 : 1 ≤ n) (h4 : n ≤ 4) {m : Mem} (ht : m.top) : JSt n (m.size + 7) 0 [] (JS.new n) (rhoN m.size) (newM m n) := ⟨new_holds m n, rfl, (newM_ext m n).top ht, inv_new n, Nat.le_refl _⟩
theorem new_out (n : Int) (m : Mem) {b : Nat} (hb : b < m.size) : Out (JS.new n) (rhoN m.size) b := fun i hi e => by
  have hf : isL (JS.new n) = false := rfl
  rw [hf] at hi
  have h8 : i < 8 := by simpa [seeJ] using hi
  rcases (show i = 0 ∨ i = 1 ∨ i = 2 ∨ i = 3 ∨ i = 4 ∨ i = 5 ∨ i = 6 ∨ i = 7 by omega) with rfl | rfl | rfl | rfl | rfl | rfl | rfl | rfl <;> simp [rhoN] at e <;> omega
end
end Go.Proofs.Ytfpbiojnbffkpaa
namespace Go.Proofs.Ytfpbiojnbffkpaa
open Go Go.DI Go.Proofs Go.Jud
noncomputable section
theorem loadC_at {m : Mem} {b n : Nat} {own : Bool} {c rest : List Value} (hm : m.get b = .cells own (c ++ rest)) (hn : c.length = n) : loadC m b 0 n = some c := by
  subst hn
  unfold loadC
  rw [hm]
  simp
theorem append_first {t e : TypeId} (hu : Try.prog.underlying t = some (.slice e)) (hs : szOf Try.prog e = some 43) (hb : bytesOf Try.prog e = some 120) (hz : (zerosD Try.prog e 1).isSome = true) {m : Mem} {z : Nat} {own : Bool} {l : List Value} (hm : m.get z = .cells own l) (hl : l.length = 43) (h1 : l.all one = true) :
    appendD Try.prog m t t (.slice none 0 0) (.slice (some ⟨z, 0, none⟩) 1 1) = some (.slice (some ⟨m.size, 0, some 43⟩) 1 1, m.push (.cells true l)) := by
  have hf : firstC m 43 1 (.slice (some ⟨z, 0, none⟩) 1 1) = some l := loadC_at (rest := []) (by rw [List.append_nil]; exact hm) (by omega)
  have hf0 : firstC m 43 0 (.slice none 0 0) = some [] := rfl
  have hlen : lenOf (.slice (some ⟨z, 0, none⟩) 1 1) = some 1 := rfl
  unfold appendD
  simp only [hu, hs, hb, hlen, hf, hf0]
  simp [hz, hl]
  rw [List.all_eq_true] at h1
  exact h1
theorem append_more {t e : TypeId} (hu : Try.prog.underlying t = some (.slice e)) (hs : szOf Try.prog e = some 43) (hb : bytesOf Try.prog e = some 120) (hz : (zerosD Try.prog e 1).isSome = true) {m : Mem} {z bk kl : Nat} {own : Bool} {l old : List Value} (hm : m.get z = .cells own l) (hl : l.length = 43) (h1 : l.all one = true)
    (hk : m.get bk = .cells true old) (hkl : old.length = kl * 43) (h2 : old.all one = true) (hbig : kl ≤ 100000) :
    appendD Try.prog m t t (.slice (some ⟨bk, 0, some 43⟩) kl kl) (.slice (some ⟨z, 0, none⟩) 1 1) = some (.slice (some ⟨m.size, 0, some 43⟩) (kl + 1) (kl + 1), (m.push (.cells true (old ++ l))).set bk .none) := by
  have hf : firstC m 43 1 (.slice (some ⟨z, 0, none⟩) 1 1) = some l := loadC_at (rest := []) (by rw [List.append_nil]; exact hm) (by omega)
  have hf0 : firstC m 43 kl (.slice (some ⟨bk, 0, some 43⟩) kl kl) = some old := loadC_at (rest := []) (by rw [List.append_nil]; exact hk) hkl
  have hlen : lenOf (.slice (some ⟨z, 0, none⟩) 1 1) = some 1 := rfl
  unfold appendD
  simp only [hu, hs, hb, hlen, hf, hf0]
  rw [if_neg (by decide), if_neg (by omega), if_pos ⟨by omega, by omega, by omega, hz⟩, if_pos ⟨by rw [h1, h2]; rfl, hkl, by omega⟩, if_pos trivial]
  simp only [hk]
end
end Go.Proofs.Ytfpbiojnbffkpaa
