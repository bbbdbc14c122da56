/-
  JRef1: the reference's Epoch, Top, sure, by the rows.
-/
import Derived.Test.YtfpbiojnbffkpaaC19
import Derived.Test.YtfpbiojnbffkpaaC18
set_option linter.all false
set_option linter.unusedVariables false
set_option linter.unusedSimpArgs false
namespace Go.Proofs.Ytfpbiojnbffkpaa
open Go Go.DI Go.Proofs Go.Jud
noncomputable section
section
variable {b ob : Nat} {own : Bool} {sp : Option Nat} {cap : Nat} {m : Mem} {rs : List RowT} {rest : List Value} (hlen : rs.length ≤ 100000) (hm : m.get b = .cells own (rowsC rs ++ rest))
include hlen hm
theorem epoch_loop {df : DFun} (hdf : Y.Typed Try.prog df) (k : Nat) (node : Int) : ∀ (d i : Nat) (n : Int) (x : Nat → Value) (j : Nat), rs.length = i + d → d + 1 ≤ j →
    ∃ x', loopD (codeD Try.prog kp 0 df (drawD Try.prog kp 0 df 34) 34 k (loopN Try.f15 0)) j (fullN 34 (up x [(0, .slice (some ⟨b, 0, sp⟩) rs.length cap), (1, .int .i64 node), (5, .int .i64 n), (6, .int .i64 (i : Int))])) m =
      some (.exit 0, fullN 34 (up x' [(0, .slice (some ⟨b, 0, sp⟩) rs.length cap), (1, .int .i64 node), (5, .int .i64 (epochR (rs.drop i) node n)), (6, .int .i64 (rs.length : Int))]), m)
  | 0, i, n, x, j, hi, hj => by
    obtain ⟨j, rfl⟩ : ∃ j', j = j' + 1 := ⟨j - 1, by omega⟩
    obtain rfl : i = rs.length := by omega
    have hb := (Y.step_eq Try.prog kp 0 hdf 34 k (loopN Try.f15 0) (fullN 34 (up x [(0, .slice (some ⟨b, 0, sp⟩) rs.length cap), (1, .int .i64 node), (5, .int .i64 n), (6, .int .i64 (rs.length : Int))])) m).trans (t_ep ..)
    simp only [ge_len (Nat.lt_irrefl _), cond_false] at hb
    have hs := loopD_stop j hb (by simp)
    exact ⟨_, by rw [List.drop_length]; exact hs⟩
  | d + 1, i, n, x, j, hi, hj => by
    obtain ⟨j, rfl⟩ : ∃ j', j = j' + 1 := ⟨j - 1, by omega⟩
    have hlt : i < rs.length := by omega
    have hg : rs[i]? = some rs[i] := List.getElem?_eq_getElem hlt
    have ih := fun n x => epoch_loop hdf k node d (i + 1) n x j (by omega) (by omega)
    have hb := (Y.step_eq Try.prog kp 0 hdf 34 k (loopN Try.f15 0) (fullN 34 (up x [(0, .slice (some ⟨b, 0, sp⟩) rs.length cap), (1, .int .i64 node), (5, .int .i64 n), (6, .int .i64 (i : Int))])) m).trans (t_ep ..)
    simp only [lt_len hlt, cond_true, onNat_c, blt_t hlt, hm, cells_c, rows_k hg, rows_w hg, rows_e hg, Option.elim, asInt_i, kEq_ii, wrap_succ (show i ≤ 1000000 by omega)] at hb
    have hd : rs.drop i = rs[i] :: rs.drop (i + 1) := List.drop_eq_getElem_cons hlt
    have he : epochR (rs.drop i) node n = epochR (rs.drop (i + 1)) node (if rs[i].k = 3 ∧ rs[i].w = node then rs[i].e else n) := by rw [hd]; rfl
    rw [he]
    by_cases h1 : rs[i].k = 3
    · by_cases h2 : rs[i].w = node
      · rw [eqF_t h1, eqF_t h2] at hb
        obtain ⟨x', hx⟩ := ih rs[i].e _
        rw [if_pos ⟨h1, h2⟩]
        exact ⟨x', (loopD_next j hb).trans hx⟩
      · rw [eqF_t h1, eqF_f h2] at hb
        obtain ⟨x', hx⟩ := ih n _
        rw [if_neg (fun h => h2 h.2)]
        exact ⟨x', (loopD_next j hb).trans hx⟩
    · rw [eqF_f h1] at hb
      obtain ⟨x', hx⟩ := ih n _
      rw [if_neg (fun h => h1 h.1)]
      exact ⟨x', (loopD_next j hb).trans hx⟩
theorem epoch_run (o : Orc) (node : Int) (k : Nat) (hk : rs.length + 2 ≤ k) (ho : ∀ a c n m, o 15 [.slice (some a) rs.length c, .int .i64 n] m = none) : callN Try.prog kp 0 o k 15 [.slice (some ⟨b, 0, sp⟩) rs.length cap, .int .i64 node] m = some (.int .i64 (epochR rs node 0), m) := by
  obtain ⟨k, rfl⟩ : ∃ k', k = k' + 1 := ⟨k - 1, by omega⟩
  simp only [callN, ho]
  refine (congrArg (filtR Try.prog _) ?_).trans (filt_i _ _ (by kernel_rfl))
  rw [Y.body_eq (Y.callN_typed Try.prog kp 0 o k) (c := bodyOf Try.f15) (fn := Try.f15) 34 Try.func15 (by kernel_rfl) _ (by kernel_rfl), t_ep_in]
  obtain ⟨x', hx⟩ := epoch_loop (b := b) (sp := sp) (cap := cap) hlen hm (Y.callN_typed Try.prog kp 0 o k) k node rs.length 0 0 (up x0 [(4, (.int .i64 (0 : Int)))]) k (by omega) (by omega)
  rw [show ((0 : Nat) : Int) = 0 from rfl, List.drop_zero] at hx
  rw [Y.lpOf_eq, Y.loopC_body, hx, Y.onE_some]
  exact t_ep_out ..
theorem top_loop {df : DFun} (hdf : Y.Typed Try.prog df) (k : Nat) : ∀ (d i : Nat) (n : Int) (x : Nat → Value) (j : Nat), rs.length = i + d → d + 1 ≤ j →
    ∃ x', loopD (codeD Try.prog kp 0 df (drawD Try.prog kp 0 df 32) 32 k (loopN Try.f42 0)) j (fullN 32 (up x [(0, .slice (some ⟨b, 0, sp⟩) rs.length cap), (3, .int .i64 n), (4, .int .i64 (i : Int))])) m =
      some (.exit 0, fullN 32 (up x' [(0, .slice (some ⟨b, 0, sp⟩) rs.length cap), (3, .int .i64 (topR (rs.drop i) n)), (4, .int .i64 (rs.length : Int))]), m)
  | 0, i, n, x, j, hi, hj => by
    obtain ⟨j, rfl⟩ : ∃ j', j = j' + 1 := ⟨j - 1, by omega⟩
    obtain rfl : i = rs.length := by omega
    have hb := (Y.step_eq Try.prog kp 0 hdf 32 k (loopN Try.f42 0) (fullN 32 (up x [(0, .slice (some ⟨b, 0, sp⟩) rs.length cap), (3, .int .i64 n), (4, .int .i64 (rs.length : Int))])) m).trans (t_top ..)
    simp only [ge_len (Nat.lt_irrefl _), cond_false] at hb
    have hs := loopD_stop j hb (by simp)
    exact ⟨_, by rw [List.drop_length]; exact hs⟩
  | d + 1, i, n, x, j, hi, hj => by
    obtain ⟨j, rfl⟩ : ∃ j', j = j' + 1 := ⟨j - 1, by omega⟩
    have hlt : i < rs.length := by omega
    have hg : rs[i]? = some rs[i] := List.getElem?_eq_getElem hlt
    have ih := fun n x => top_loop hdf k d (i + 1) n x j (by omega) (by omega)
    have hb := (Y.step_eq Try.prog kp 0 hdf 32 k (loopN Try.f42 0) (fullN 32 (up x [(0, .slice (some ⟨b, 0, sp⟩) rs.length cap), (3, .int .i64 n), (4, .int .i64 (i : Int))])) m).trans (t_top ..)
    simp only [lt_len hlt, cond_true, onNat_c, blt_t hlt, hm, cells_c, rows_k hg, rows_e hg, Option.elim, asInt_i, kEq_ii, wrap_succ (show i ≤ 1000000 by omega)] at hb
    have hd : rs.drop i = rs[i] :: rs.drop (i + 1) := List.drop_eq_getElem_cons hlt
    have he : topR (rs.drop i) n = topR (rs.drop (i + 1)) (if rs[i].k = 3 ∧ n < rs[i].e then rs[i].e else n) := by rw [hd]; rfl
    rw [he]
    by_cases h1 : rs[i].k = 3
    · by_cases h2 : n < rs[i].e
      · rw [eqF_t h1, ltF_t h2] at hb
        obtain ⟨x', hx⟩ := ih rs[i].e _
        rw [if_pos ⟨h1, h2⟩]
        exact ⟨x', (loopD_next j hb).trans hx⟩
      · rw [eqF_t h1, ltF_f h2] at hb
        obtain ⟨x', hx⟩ := ih n _
        rw [if_neg (fun h => h2 h.2)]
        exact ⟨x', (loopD_next j hb).trans hx⟩
    · rw [eqF_f h1] at hb
      obtain ⟨x', hx⟩ := ih n _
      rw [if_neg (fun h => h1 h.1)]
      exact ⟨x', (loopD_next j hb).trans hx⟩
theorem top_run (o : Orc) (k : Nat) (hk : rs.length + 2 ≤ k) (ho : ∀ a m, o 42 a m = none) : callN Try.prog kp 0 o k 42 [.slice (some ⟨b, 0, sp⟩) rs.length cap] m = some (.int .i64 (topR rs 0), m) := by
  obtain ⟨k, rfl⟩ : ∃ k', k = k' + 1 := ⟨k - 1, by omega⟩
  simp only [callN, ho]
  refine (congrArg (filtR Try.prog _) ?_).trans (filt_i _ _ (by kernel_rfl))
  rw [Y.body_eq (Y.callN_typed Try.prog kp 0 o k) (c := bodyOf Try.f42) (fn := Try.f42) 32 Try.func42 (by kernel_rfl) _ (by kernel_rfl), t_top_in]
  obtain ⟨x', hx⟩ := top_loop (b := b) (sp := sp) (cap := cap) hlen hm (Y.callN_typed Try.prog kp 0 o k) k rs.length 0 0 (up x0 [(2, (.int .i64 (0 : Int)))]) k (by omega) (by omega)
  rw [show ((0 : Nat) : Int) = 0 from rfl, List.drop_zero] at hx
  rw [Y.lpOf_eq, Y.loopC_body, hx, Y.onE_some]
  exact t_top_out ..
end
end
end Go.Proofs.Ytfpbiojnbffkpaa
namespace Go.Proofs.Ytfpbiojnbffkpaa
open Go Go.DI Go.Proofs Go.Jud
noncomputable section
section
variable {b rb : Nat} {own own2 : Bool} {sp : Option Nat} {cap : Nat} {m : Mem} {rs : List RowT} {rest : List Value} {r : RowT} (hlen : rs.length ≤ 100000) (hm : m.get b = .cells own (rowsC rs ++ rest)) (hr : m.get rb = .cells own2 (rowR r)) (hi : -9223372036854775808 ≤ r.i ∧ r.i ≤ 9223372036854775807)
include hlen hm hr hi
set_option maxHeartbeats 4000000 in
theorem sure_turn {df : DFun} (hdf : Y.Typed Try.prog df) (k i : Nat) (hlt : i < rs.length) (a4 la : Int) (fa : Bool) (x : Nat → Value) :
    (∀ st', sureS r (la, fa) rs[i] = some st' → ∃ X, codeD Try.prog kp 0 df (drawD Try.prog kp 0 df 103) 103 k (loopN Try.f29 0) (fullN 103 (up x [(0, .slice (some ⟨b, 0, sp⟩) rs.length cap), (3, .pointer (some ⟨rb, 0, none⟩)), (4, .int .i64 a4), (5, .int .i64 la), (6, .bool fa), (7, .int .i64 (i : Int))])) m =
      some (.normal, fullN 103 (up X [(0, .slice (some ⟨b, 0, sp⟩) rs.length cap), (3, .pointer (some ⟨rb, 0, none⟩)), (4, .int .i64 a4), (5, .int .i64 st'.1), (6, .bool st'.2), (7, .int .i64 ((i + 1 : Nat) : Int))]), m)) ∧
    (sureS r (la, fa) rs[i] = none → ∃ X, codeD Try.prog kp 0 df (drawD Try.prog kp 0 df 103) 103 k (loopN Try.f29 0) (fullN 103 (up x [(0, .slice (some ⟨b, 0, sp⟩) rs.length cap), (3, .pointer (some ⟨rb, 0, none⟩)), (4, .int .i64 a4), (5, .int .i64 la), (6, .bool fa), (7, .int .i64 (i : Int))])) m =
      some (.ret, fullN 103 (up X [(0, .slice (some ⟨b, 0, sp⟩) rs.length cap), (3, .pointer (some ⟨rb, 0, none⟩)), (4, .int .i64 3), (5, .int .i64 la), (6, .bool fa), (7, .int .i64 (i : Int))]), m)) := by
  have hg : rs[i]? = some rs[i] := List.getElem?_eq_getElem hlt
  have hb := (Y.step_eq Try.prog kp 0 hdf 103 k (loopN Try.f29 0) (fullN 103 (up x [(0, .slice (some ⟨b, 0, sp⟩) rs.length cap), (3, .pointer (some ⟨rb, 0, none⟩)), (4, .int .i64 a4), (5, .int .i64 la), (6, .bool fa), (7, .int .i64 (i : Int))])) m).trans (t_sure ..)
  simp only [lt_len hlt, cond_true, onNat_c, blt_t hlt, hm, hr, cells_c, rows_k hg, rows_w hg, rows_t hg, rows_i hg, rows_e hg, rows_h hg, rows_hble hlt, row_k, row_w, row_t, row_i, row_h, row_len, feq_H, Option.elim, asInt_i, kEq_ii, wrap_succ (show i ≤ 1000000 by omega)] at hb
  refine both ?_
  by_cases h1 : rs[i].k = 2
  rotate_left
  · rw [eqF_f h1] at hb
    exact .inl ⟨_, (show sureS r (la, fa) rs[i] = some (la, fa) by simp only [sureS, if_neg h1]), _, hb⟩
  rw [eqF_t h1] at hb
  simp only [bnot_t, cond_false] at hb
  by_cases h2 : rs[i].i = r.i
  · rw [eqF_t h2] at hb
    simp only [cond_true] at hb
    by_cases h3 : rs[i].t = r.t
    rotate_left
    · rw [eqF_f h3] at hb
      exact .inr ⟨(by simp only [sureS, if_pos h1]; rw [if_pos ⟨h2, .inl h3⟩]), _, hb⟩
    rw [eqF_t h3] at hb
    simp only [bnot_t, cond_false] at hb
    by_cases h4 : hl rs[i].h = hl r.h
    rotate_left
    · rw [decide_eq_false h4] at hb
      exact .inr ⟨(by simp only [sureS, if_pos h1]; rw [if_pos ⟨h2, .inr h4⟩]), _, hb⟩
    rw [decide_eq_true h4] at hb
    simp only [bnot_t, cond_false] at hb
    have hbad : ¬ (rs[i].i = r.i ∧ (rs[i].t ≠ r.t ∨ hl rs[i].h ≠ hl r.h)) := fun h => h.2.elim (fun g => g h3) (fun g => g h4)
    by_cases h5 : rs[i].w = r.w
    · rw [eqF_t h5] at hb
      simp only [cond_true, cond_false] at hb
      by_cases h6 : 1 < r.i
      rotate_left
      · rw [ltF_f h6] at hb
        exact .inl ⟨_, (show sureS r (la, fa) rs[i] = some (rs[i].i, fa) by simp only [sureS, if_pos h1, if_neg hbad, if_pos h5]; rw [if_neg (fun h => h6 h.1)]), _, hb⟩
      rw [ltF_t h6] at hb
      have hw : IntKind.wrap .i64 (Int.sub r.i 1) = r.i - 1 := IntWalk.i64_in _ (by show _ ≤ r.i - 1 ∧ r.i - 1 ≤ _; omega)
      simp only [cond_true, hw] at hb
      by_cases h7 : rs[i].i = r.i - 1
      rotate_left
      · rw [eqF_f h7] at hb
        exact .inl ⟨_, (show sureS r (la, fa) rs[i] = some (rs[i].i, fa) by simp only [sureS, if_pos h1, if_neg hbad, if_pos h5]; rw [if_neg (fun h => h7 h.2.1)]), _, hb⟩
      rw [eqF_t h7] at hb
      simp only [cond_true] at hb
      by_cases h8 : r.t < rs[i].t
      · rw [ltF_t h8] at hb
        exact .inl ⟨_, (show sureS r (la, fa) rs[i] = some (rs[i].i, true) by simp only [sureS, if_pos h1, if_neg hbad, if_pos h5]; rw [if_pos ⟨h6, h7, h8⟩]), _, hb⟩
      · rw [ltF_f h8] at hb
        exact .inl ⟨_, (show sureS r (la, fa) rs[i] = some (rs[i].i, fa) by simp only [sureS, if_pos h1, if_neg hbad, if_pos h5]; rw [if_neg (fun h => h8 h.2.2)]), _, hb⟩
    · rw [eqF_f h5] at hb
      simp only [cond_true, cond_false] at hb
      by_cases h6 : 1 < r.i
      rotate_left
      · rw [ltF_f h6] at hb
        exact .inl ⟨_, (show sureS r (la, fa) rs[i] = some (la, fa) by simp only [sureS, if_pos h1, if_neg hbad, if_neg h5]; rw [if_neg (fun h => h6 h.1)]), _, hb⟩
      rw [ltF_t h6] at hb
      have hw : IntKind.wrap .i64 (Int.sub r.i 1) = r.i - 1 := IntWalk.i64_in _ (by show _ ≤ r.i - 1 ∧ r.i - 1 ≤ _; omega)
      simp only [cond_true, hw] at hb
      by_cases h7 : rs[i].i = r.i - 1
      rotate_left
      · rw [eqF_f h7] at hb
        exact .inl ⟨_, (show sureS r (la, fa) rs[i] = some (la, fa) by simp only [sureS, if_pos h1, if_neg hbad, if_neg h5]; rw [if_neg (fun h => h7 h.2.1)]), _, hb⟩
      rw [eqF_t h7] at hb
      simp only [cond_true] at hb
      by_cases h8 : r.t < rs[i].t
      · rw [ltF_t h8] at hb
        exact .inl ⟨_, (show sureS r (la, fa) rs[i] = some (la, true) by simp only [sureS, if_pos h1, if_neg hbad, if_neg h5]; rw [if_pos ⟨h6, h7, h8⟩]), _, hb⟩
      · rw [ltF_f h8] at hb
        exact .inl ⟨_, (show sureS r (la, fa) rs[i] = some (la, fa) by simp only [sureS, if_pos h1, if_neg hbad, if_neg h5]; rw [if_neg (fun h => h8 h.2.2)]), _, hb⟩
  · rw [eqF_f h2] at hb
    simp only [cond_false] at hb
    have hbad : ¬ (rs[i].i = r.i ∧ (rs[i].t ≠ r.t ∨ hl rs[i].h ≠ hl r.h)) := fun h => h2 h.1
    by_cases h5 : rs[i].w = r.w
    · rw [eqF_t h5] at hb
      simp only [cond_true, cond_false] at hb
      by_cases h6 : 1 < r.i
      rotate_left
      · rw [ltF_f h6] at hb
        exact .inl ⟨_, (show sureS r (la, fa) rs[i] = some (rs[i].i, fa) by simp only [sureS, if_pos h1, if_neg hbad, if_pos h5]; rw [if_neg (fun h => h6 h.1)]), _, hb⟩
      rw [ltF_t h6] at hb
      have hw : IntKind.wrap .i64 (Int.sub r.i 1) = r.i - 1 := IntWalk.i64_in _ (by show _ ≤ r.i - 1 ∧ r.i - 1 ≤ _; omega)
      simp only [cond_true, hw] at hb
      by_cases h7 : rs[i].i = r.i - 1
      rotate_left
      · rw [eqF_f h7] at hb
        exact .inl ⟨_, (show sureS r (la, fa) rs[i] = some (rs[i].i, fa) by simp only [sureS, if_pos h1, if_neg hbad, if_pos h5]; rw [if_neg (fun h => h7 h.2.1)]), _, hb⟩
      rw [eqF_t h7] at hb
      simp only [cond_true] at hb
      by_cases h8 : r.t < rs[i].t
      · rw [ltF_t h8] at hb
        exact .inl ⟨_, (show sureS r (la, fa) rs[i] = some (rs[i].i, true) by simp only [sureS, if_pos h1, if_neg hbad, if_pos h5]; rw [if_pos ⟨h6, h7, h8⟩]), _, hb⟩
      · rw [ltF_f h8] at hb
        exact .inl ⟨_, (show sureS r (la, fa) rs[i] = some (rs[i].i, fa) by simp only [sureS, if_pos h1, if_neg hbad, if_pos h5]; rw [if_neg (fun h => h8 h.2.2)]), _, hb⟩
    · rw [eqF_f h5] at hb
      simp only [cond_true, cond_false] at hb
      by_cases h6 : 1 < r.i
      rotate_left
      · rw [ltF_f h6] at hb
        exact .inl ⟨_, (show sureS r (la, fa) rs[i] = some (la, fa) by simp only [sureS, if_pos h1, if_neg hbad, if_neg h5]; rw [if_neg (fun h => h6 h.1)]), _, hb⟩
      rw [ltF_t h6] at hb
      have hw : IntKind.wrap .i64 (Int.sub r.i 1) = r.i - 1 := IntWalk.i64_in _ (by show _ ≤ r.i - 1 ∧ r.i - 1 ≤ _; omega)
      simp only [cond_true, hw] at hb
      by_cases h7 : rs[i].i = r.i - 1
      rotate_left
      · rw [eqF_f h7] at hb
        exact .inl ⟨_, (show sureS r (la, fa) rs[i] = some (la, fa) by simp only [sureS, if_pos h1, if_neg hbad, if_neg h5]; rw [if_neg (fun h => h7 h.2.1)]), _, hb⟩
      rw [eqF_t h7] at hb
      simp only [cond_true] at hb
      by_cases h8 : r.t < rs[i].t
      · rw [ltF_t h8] at hb
        exact .inl ⟨_, (show sureS r (la, fa) rs[i] = some (la, true) by simp only [sureS, if_pos h1, if_neg hbad, if_neg h5]; rw [if_pos ⟨h6, h7, h8⟩]), _, hb⟩
      · rw [ltF_f h8] at hb
        exact .inl ⟨_, (show sureS r (la, fa) rs[i] = some (la, fa) by simp only [sureS, if_pos h1, if_neg hbad, if_neg h5]; rw [if_neg (fun h => h8 h.2.2)]), _, hb⟩
theorem sure_loop {df : DFun} (hdf : Y.Typed Try.prog df) (k : Nat) (a4 : Int) : ∀ (d i : Nat) (la : Int) (fa : Bool) (x : Nat → Value) (j : Nat), rs.length = i + d → d + 1 ≤ j →
    (∀ st, sureF r (la, fa) (rs.drop i) = some st → ∃ x', loopD (codeD Try.prog kp 0 df (drawD Try.prog kp 0 df 103) 103 k (loopN Try.f29 0)) j (fullN 103 (up x [(0, .slice (some ⟨b, 0, sp⟩) rs.length cap), (3, .pointer (some ⟨rb, 0, none⟩)), (4, .int .i64 a4), (5, .int .i64 la), (6, .bool fa), (7, .int .i64 (i : Int))])) m =
      some (.exit 0, fullN 103 (up x' [(0, .slice (some ⟨b, 0, sp⟩) rs.length cap), (3, .pointer (some ⟨rb, 0, none⟩)), (4, .int .i64 a4), (5, .int .i64 st.1), (6, .bool st.2), (7, .int .i64 (rs.length : Int))]), m)) ∧
    (sureF r (la, fa) (rs.drop i) = none → ∃ x' la' fa' i', loopD (codeD Try.prog kp 0 df (drawD Try.prog kp 0 df 103) 103 k (loopN Try.f29 0)) j (fullN 103 (up x [(0, .slice (some ⟨b, 0, sp⟩) rs.length cap), (3, .pointer (some ⟨rb, 0, none⟩)), (4, .int .i64 a4), (5, .int .i64 la), (6, .bool fa), (7, .int .i64 (i : Int))])) m =
      some (.ret, fullN 103 (up x' [(0, .slice (some ⟨b, 0, sp⟩) rs.length cap), (3, .pointer (some ⟨rb, 0, none⟩)), (4, .int .i64 3), (5, .int .i64 la'), (6, .bool fa'), (7, .int .i64 i')]), m))
  | 0, i, la, fa, x, j, hi', hj => by
    obtain ⟨j, rfl⟩ : ∃ j', j = j' + 1 := ⟨j - 1, by omega⟩
    obtain rfl : i = rs.length := by omega
    have hb := (Y.step_eq Try.prog kp 0 hdf 103 k (loopN Try.f29 0) (fullN 103 (up x [(0, .slice (some ⟨b, 0, sp⟩) rs.length cap), (3, .pointer (some ⟨rb, 0, none⟩)), (4, .int .i64 a4), (5, .int .i64 la), (6, .bool fa), (7, .int .i64 (rs.length : Int))])) m).trans (t_sure ..)
    simp only [ge_len (Nat.lt_irrefl _), cond_false] at hb
    have hs := loopD_stop j hb (by simp)
    rw [List.drop_length]
    exact ⟨fun st h => (by cases h; exact ⟨_, hs⟩), fun h => (by cases h)⟩
  | d + 1, i, la, fa, x, j, hi', hj => by
    obtain ⟨j, rfl⟩ : ∃ j', j = j' + 1 := ⟨j - 1, by omega⟩
    have hlt : i < rs.length := by omega
    have ih := fun la fa x => sure_loop hdf k a4 d (i + 1) la fa x j (by omega) (by omega)
    obtain ⟨T1, T2⟩ := sure_turn (b := b) (rb := rb) (sp := sp) (cap := cap) hlen hm hr hi hdf k i hlt a4 la fa x
    have hd : rs.drop i = rs[i] :: rs.drop (i + 1) := List.drop_eq_getElem_cons hlt
    rw [hd]
    simp only [sureF]
    cases hs : sureS r (la, fa) rs[i] with
    | none =>
      obtain ⟨X, hX⟩ := T2 hs
      exact ⟨fun st h => (by cases h), fun _ => ⟨X, la, fa, i, loopD_stop j hX (by simp)⟩⟩
    | some st' =>
      obtain ⟨X, hX⟩ := T1 st' hs
      obtain ⟨I1, I2⟩ := ih st'.1 st'.2 X
      refine ⟨fun st h => ?_, fun h => ?_⟩
      · obtain ⟨x', hx⟩ := I1 st h
        exact ⟨x', (loopD_next j hX).trans hx⟩
      · obtain ⟨x', la', fa', i', hx⟩ := I2 h
        exact ⟨x', la', fa', i', (loopD_next j hX).trans hx⟩
end
theorem sure_run {b : Nat} {own : Bool} {sp : Option Nat} {cap : Nat} {m : Mem} {rs : List RowT} {rest : List Value} {r : RowT} (hlen : rs.length ≤ 100000) (hm : m.get b = .cells own (rowsC rs ++ rest)) (hbm : b < m.size) (hi : -9223372036854775808 ≤ r.i ∧ r.i ≤ 9223372036854775807)
    (o : Orc) (k : Nat) (hk : rs.length + 2 ≤ k) (ho : ∀ a m, o 29 a m = none) : callN Try.prog kp 0 o k 29 [.slice (some ⟨b, 0, sp⟩) rs.length cap, .agg ⟨rowR r⟩] m = some (.int .i64 (sureR rs r), m.push (.cells true (rowR r))) := by
  obtain ⟨k, rfl⟩ : ∃ k', k = k' + 1 := ⟨k - 1, by omega⟩
  simp only [callN, ho]
  refine (congrArg (filtR Try.prog _) ?_).trans (filt_i _ _ (by kernel_rfl))
  rw [Y.body_eq (Y.callN_typed Try.prog kp 0 o k) (c := bodyOf Try.f29) (fn := Try.f29) 103 Try.func29 (by kernel_rfl) _ (by kernel_rfl)]
  refine (t_sure_in ..).trans ?_
  have hm' : (m.push (.cells true (rowR r))).get b = .cells own (rowsC rs ++ rest) := by rw [Mem.get_push_ne _ (by omega)]; exact hm
  have hr' : (m.push (.cells true (rowR r))).get m.size = .cells true (rowR r) := Mem.get_push_same _ _
  obtain ⟨I1, I2⟩ := sure_loop (b := b) (rb := m.size) (sp := sp) (cap := cap) hlen hm' hr' hi (Y.callN_typed Try.prog kp 0 o k) k 0 rs.length 0 0 false (up x0 [(1, .agg ⟨rowR r⟩)]) k (by omega) (by omega)
  rw [show ((0 : Nat) : Int) = 0 from rfl, List.drop_zero] at I1 I2
  rw [Y.lpOf_eq, Y.loopC_body]
  unfold sureR
  cases hs : sureF r (0, false) rs with
  | none =>
    obtain ⟨x', la', fa', i', hx⟩ := I2 hs
    refine (congrArg (fun z => Y.onE z _) hx).trans ?_
    rw [Y.onE_some]
    exact t_sure_ret ..
  | some st =>
    obtain ⟨la, fa⟩ := st
    obtain ⟨x', hx⟩ := I1 _ hs
    refine (congrArg (fun z => Y.onE z _) hx).trans ?_
    rw [Y.onE_some]
    refine (t_sure_out ..).trans ?_
    simp only [hr', cells_c, row_i, Option.elim, asInt_i, kEq_ii, cond_true]
    by_cases h1 : r.i = 1
    · rw [eqF_t h1]
      cases fa with
      | false => rw [if_neg (by simp [h1])]; rfl
      | true => rw [if_pos (by simp)]; rfl
    · rw [eqF_f h1]
      simp only [bnot_f, cond_true]
      by_cases h2 : r.i < 1
      · rw [ltF_t h2, if_pos (.inl ⟨h1, .inl h2⟩)]; rfl
      · rw [ltF_f h2]
        simp only [cond_false]
        by_cases h3 : r.i = IntKind.wrap .i64 (la + 1)
        · rw [show Y.eqF r.i (IntKind.wrap .i64 (Int.add la 1)) = true from eqF_t h3]
          cases fa with
          | false => rw [if_neg (fun h => h.elim (fun g => g.2.elim h2 (fun e => e h3)) (fun e => by cases e))]; rfl
          | true => rw [if_pos (.inr rfl)]; rfl
        · rw [show Y.eqF r.i (IntKind.wrap .i64 (Int.add la 1)) = false from eqF_f h3, if_pos (.inl ⟨h1, .inr h3⟩)]; rfl
end
end Go.Proofs.Ytfpbiojnbffkpaa
