/-
  JRef4: the reference's swapped, by the rows.
-/
import Derived.Test.YtfpbiojnbffkpaaC18
import Derived.Test.YtfpbiojnbffkpaaC22
import Derived.Test.YtfpbiojnbffkpaaC23
set_option linter.all false
set_option linter.unusedVariables false
set_option linter.unusedSimpArgs false
namespace Go.Proofs.Ytfpbiojnbffkpaa
open Go Go.DI Go.Proofs Go.Jud
noncomputable section
def knownB (r : RowT) (l : List RowT) : Bool := l.any fun x => decide (x.k = 3) && decide (x.e = r.e)
def yesB (e n : Int) (l : List RowT) : Bool := l.any fun x => decide (x.k = 4) && (decide (x.w = n) && (decide (x.e = e) && x.y))
section
variable {b rb : Nat} {own own2 : Bool} {sp : Option Nat} {cap : Nat} {m : Mem} {rs : List RowT} {rest : List Value} {r : RowT} {nodes : Int}
set_option maxHeartbeats 4000000 in
theorem swA_turn (hlen : rs.length ≤ 100000) (hm : m.get b = .cells own (rowsC rs ++ rest)) (hr : m.get rb = .cells own2 (rowR r)) {df : DFun} (hdf : Y.Typed Try.prog df) (k i : Nat) (hlt : i < rs.length) (a6 : Int) (ka : Bool) (v9 v10 v11 v12 v13 : Value) (x : Nat → Value) :
    (¬ badH r rs[i] → ∃ X, codeD Try.prog kp 0 df (drawD Try.prog kp 0 df 120) 120 k (loopN Try.f30 0) (fullN 120 (up x [(0, .int .i64 nodes), (1, .slice (some ⟨b, 0, sp⟩) rs.length cap), (5, .pointer (some ⟨rb, 0, none⟩)), (6, .int .i64 a6), (7, .bool ka), (8, .int .i64 (i : Int)), (9, v9), (10, v10), (11, v11), (12, v12), (13, v13)])) m = some (.normal, (fullN 120 (up X [(0, .int .i64 nodes), (1, .slice (some ⟨b, 0, sp⟩) rs.length cap), (5, .pointer (some ⟨rb, 0, none⟩)), (6, .int .i64 a6), (7, .bool (ka || (decide (rs[i].k = 3) && decide (rs[i].e = r.e)))), (8, .int .i64 ((i + 1 : Nat) : Int)), (9, v9), (10, v10), (11, v11), (12, v12), (13, v13)])), m)) ∧ (badH r rs[i] → ∃ X, codeD Try.prog kp 0 df (drawD Try.prog kp 0 df 120) 120 k (loopN Try.f30 0) (fullN 120 (up x [(0, .int .i64 nodes), (1, .slice (some ⟨b, 0, sp⟩) rs.length cap), (5, .pointer (some ⟨rb, 0, none⟩)), (6, .int .i64 a6), (7, .bool ka), (8, .int .i64 (i : Int)), (9, v9), (10, v10), (11, v11), (12, v12), (13, v13)])) m = some (.ret, (fullN 120 (up X [(0, .int .i64 nodes), (1, .slice (some ⟨b, 0, sp⟩) rs.length cap), (5, .pointer (some ⟨rb, 0, none⟩)), (6, .int .i64 6), (7, .bool true), (8, .int .i64 (i : Int)), (9, v9), (10, v10), (11, v11), (12, v12), (13, v13)])), m)) := by
  have hg : rs[i]? = some rs[i] := List.getElem?_eq_getElem hlt
  have hb := (Y.step_eq Try.prog kp 0 hdf 120 k (loopN Try.f30 0) (fullN 120 (up x [(0, .int .i64 nodes), (1, .slice (some ⟨b, 0, sp⟩) rs.length cap), (5, .pointer (some ⟨rb, 0, none⟩)), (6, .int .i64 a6), (7, .bool ka), (8, .int .i64 (i : Int)), (9, v9), (10, v10), (11, v11), (12, v12), (13, v13)])) m).trans (t_swA (v8 := undef) ..)
  simp only [lt_len hlt, cond_true, onNat_c, blt_t hlt, hm, hr, cells_c, rows_k hg, rows_w hg, rows_e hg, rows_y hg, rows_h hg, rows_hble hlt, row_e, row_h, row_len, feq_H, Option.elim, asInt_i, asBo_b, kEq_ii, wrap_succ (show i ≤ 1000000 by omega)] at hb
  by_cases h1 : rs[i].k = 3
  rotate_left
  · rw [eqF_f h1] at hb
    exact ⟨fun _ => ⟨_, by rw [decide_eq_false h1, Bool.false_and, Bool.or_false]; exact hb⟩, fun h => absurd h.1 h1⟩
  rw [eqF_t h1] at hb
  simp only [cond_true] at hb
  by_cases h2 : rs[i].e = r.e
  rotate_left
  · rw [eqF_f h2] at hb
    exact ⟨fun _ => ⟨_, by rw [decide_eq_false h2, Bool.and_false, Bool.or_false]; exact hb⟩, fun h => absurd h.2.1 h2⟩
  rw [eqF_t h2] at hb
  simp only [cond_true] at hb
  by_cases h3 : hl rs[i].h = hl r.h
  · rw [decide_eq_true h3] at hb
    exact ⟨fun _ => ⟨_, by rw [decide_eq_true h1, decide_eq_true h2, Bool.and_true, Bool.or_true]; exact hb⟩, fun h => absurd h3 h.2.2⟩
  · rw [decide_eq_false h3] at hb
    exact ⟨fun h => absurd ⟨h1, h2, h3⟩ h, fun _ => ⟨_, hb⟩⟩
theorem swA_loop (hlen : rs.length ≤ 100000) (hm : m.get b = .cells own (rowsC rs ++ rest)) (hr : m.get rb = .cells own2 (rowR r)) {df : DFun} (hdf : Y.Typed Try.prog df) (k : Nat) (a6 : Int) (v9 v10 v11 v12 v13 : Value) : ∀ (d i : Nat) (ka : Bool) (x : Nat → Value) (j : Nat), rs.length = i + d → d + 1 ≤ j →
    ((¬ ∃ y ∈ rs.drop i, badH r y) → ∃ x', loopD (codeD Try.prog kp 0 df (drawD Try.prog kp 0 df 120) 120 k (loopN Try.f30 0)) j (fullN 120 (up x [(0, .int .i64 nodes), (1, .slice (some ⟨b, 0, sp⟩) rs.length cap), (5, .pointer (some ⟨rb, 0, none⟩)), (6, .int .i64 a6), (7, .bool ka), (8, .int .i64 (i : Int)), (9, v9), (10, v10), (11, v11), (12, v12), (13, v13)])) m = some (.exit 0, (fullN 120 (up x' [(0, .int .i64 nodes), (1, .slice (some ⟨b, 0, sp⟩) rs.length cap), (5, .pointer (some ⟨rb, 0, none⟩)), (6, .int .i64 a6), (7, .bool (ka || knownB r (rs.drop i))), (8, .int .i64 (rs.length : Int)), (9, v9), (10, v10), (11, v11), (12, v12), (13, v13)])), m)) ∧
    ((∃ y ∈ rs.drop i, badH r y) → ∃ x' v8, loopD (codeD Try.prog kp 0 df (drawD Try.prog kp 0 df 120) 120 k (loopN Try.f30 0)) j (fullN 120 (up x [(0, .int .i64 nodes), (1, .slice (some ⟨b, 0, sp⟩) rs.length cap), (5, .pointer (some ⟨rb, 0, none⟩)), (6, .int .i64 a6), (7, .bool ka), (8, .int .i64 (i : Int)), (9, v9), (10, v10), (11, v11), (12, v12), (13, v13)])) m = some (.ret, (fullN 120 (up x' [(0, .int .i64 nodes), (1, .slice (some ⟨b, 0, sp⟩) rs.length cap), (5, .pointer (some ⟨rb, 0, none⟩)), (6, .int .i64 6), (7, .bool true), (8, .int .i64 v8), (9, v9), (10, v10), (11, v11), (12, v12), (13, v13)])), m))
  | 0, i, ka, x, j, hi, hj => by
    obtain ⟨j, rfl⟩ : ∃ j', j = j' + 1 := ⟨j - 1, by omega⟩
    obtain rfl : i = rs.length := by omega
    have hb := (Y.step_eq Try.prog kp 0 hdf 120 k (loopN Try.f30 0) (fullN 120 (up x [(0, .int .i64 nodes), (1, .slice (some ⟨b, 0, sp⟩) rs.length cap), (5, .pointer (some ⟨rb, 0, none⟩)), (6, .int .i64 a6), (7, .bool ka), (8, .int .i64 (rs.length : Int)), (9, v9), (10, v10), (11, v11), (12, v12), (13, v13)])) m).trans (t_swA (v8 := undef) ..)
    simp only [ge_len (Nat.lt_irrefl _), cond_false] at hb
    have hs := loopD_stop j hb (by simp)
    rw [List.drop_length]
    exact ⟨fun _ => ⟨_, by rw [show knownB r [] = false from rfl, Bool.or_false]; exact hs⟩, fun h => by obtain ⟨y, hy, _⟩ := h; simp at hy⟩
  | d + 1, i, ka, x, j, hi, hj => by
    obtain ⟨j, rfl⟩ : ∃ j', j = j' + 1 := ⟨j - 1, by omega⟩
    have hlt : i < rs.length := by omega
    obtain ⟨T1, T2⟩ := swA_turn (nodes := nodes) (b := b) (rb := rb) (sp := sp) (cap := cap) hlen hm hr hdf k i hlt a6 ka v9 v10 v11 v12 v13 x
    have hd : rs.drop i = rs[i] :: rs.drop (i + 1) := List.drop_eq_getElem_cons hlt
    have hkn : knownB r (rs.drop i) = ((decide (rs[i].k = 3) && decide (rs[i].e = r.e)) || knownB r (rs.drop (i + 1))) := by rw [hd]; rfl
    by_cases hc : badH r rs[i]
    · obtain ⟨X, hX⟩ := T2 hc
      exact ⟨fun h => absurd ⟨rs[i], by rw [hd]; exact List.mem_cons_self .., hc⟩ h, fun _ => ⟨X, i, loopD_stop j hX (by simp)⟩⟩
    · obtain ⟨X, hX⟩ := T1 hc
      obtain ⟨I1, I2⟩ := swA_loop hlen hm hr hdf k a6 v9 v10 v11 v12 v13 d (i + 1) (ka || (decide (rs[i].k = 3) && decide (rs[i].e = r.e))) X j (by omega) (by omega)
      refine ⟨fun h => ?_, fun h => ?_⟩
      · obtain ⟨x', hx⟩ := I1 (fun ⟨y, hy, hcy⟩ => h ⟨y, by rw [hd]; exact List.mem_cons_of_mem _ hy, hcy⟩)
        exact ⟨x', by rw [hkn, ← Bool.or_assoc]; exact (loopD_next j hX).trans hx⟩
      · obtain ⟨x', v8, hx⟩ := I2 (by
          obtain ⟨y, hy, hcy⟩ := h
          rw [hd] at hy
          rcases List.mem_cons.1 hy with rfl | hy
          · exact absurd hcy hc
          · exact ⟨y, hy, hcy⟩)
        exact ⟨x', v8, (loopD_next j hX).trans hx⟩
set_option maxHeartbeats 4000000 in
theorem swC_turn (hlen : rs.length ≤ 100000) (hm : m.get b = .cells own (rowsC rs ++ rest)) (hr : m.get rb = .cells own2 (rowR r)) {df : DFun} (hdf : Y.Typed Try.prog df) (k i : Nat) (hlt : i < rs.length) (a6 n : Int) (ka ye : Bool) (v8 v12 v13 : Value) (x : Nat → Value) :
    ∃ X, codeD Try.prog kp 0 df (drawD Try.prog kp 0 df 120) 120 k (loopN Try.f30 2) (fullN 120 (up x [(0, .int .i64 nodes), (1, .slice (some ⟨b, 0, sp⟩) rs.length cap), (5, .pointer (some ⟨rb, 0, none⟩)), (6, .int .i64 a6), (7, .bool ka), (8, v8), (9, .int .i64 n), (10, .bool ye), (11, .int .i64 (i : Int)), (12, v12), (13, v13)])) m = some (.normal, (fullN 120 (up X [(0, .int .i64 nodes), (1, .slice (some ⟨b, 0, sp⟩) rs.length cap), (5, .pointer (some ⟨rb, 0, none⟩)), (6, .int .i64 a6), (7, .bool ka), (8, v8), (9, .int .i64 n), (10, .bool (ye || (decide (rs[i].k = 4) && (decide (rs[i].w = n) && (decide (rs[i].e = r.e) && rs[i].y))))), (11, .int .i64 ((i + 1 : Nat) : Int)), (12, v12), (13, v13)])), m) := by
  have hg : rs[i]? = some rs[i] := List.getElem?_eq_getElem hlt
  cases ye with
  | true =>
    have hb := (Y.step_eq Try.prog kp 0 hdf 120 k (loopN Try.f30 2) (fullN 120 (up x [(0, .int .i64 nodes), (1, .slice (some ⟨b, 0, sp⟩) rs.length cap), (5, .pointer (some ⟨rb, 0, none⟩)), (6, .int .i64 a6), (7, .bool ka), (8, v8), (9, .int .i64 n), (10, .bool true), (11, .int .i64 (i : Int)), (12, v12), (13, v13)])) m).trans (t_swCt (v9 := undef) (v10 := undef) (v11 := undef) ..)
    simp only [lt_len hlt, cond_true, wrap_succ (show i ≤ 1000000 by omega)] at hb
    exact ⟨_, by rw [Bool.true_or]; exact hb⟩
  | false =>
    have hb := (Y.step_eq Try.prog kp 0 hdf 120 k (loopN Try.f30 2) (fullN 120 (up x [(0, .int .i64 nodes), (1, .slice (some ⟨b, 0, sp⟩) rs.length cap), (5, .pointer (some ⟨rb, 0, none⟩)), (6, .int .i64 a6), (7, .bool ka), (8, v8), (9, .int .i64 n), (10, .bool false), (11, .int .i64 (i : Int)), (12, v12), (13, v13)])) m).trans (t_swCf (v9 := undef) (v10 := undef) (v11 := undef) ..)
    simp only [lt_len hlt, cond_true, onNat_c, blt_t hlt, hm, hr, cells_c, rows_k hg, rows_w hg, rows_e hg, rows_y hg, rows_h hg, rows_hble hlt, row_e, row_h, row_len, feq_H, Option.elim, asInt_i, asBo_b, kEq_ii, wrap_succ (show i ≤ 1000000 by omega)] at hb
    rw [Bool.false_or]
    by_cases h1 : rs[i].k = 4
    rotate_left
    · rw [eqF_f h1] at hb
      exact ⟨_, by rw [decide_eq_false h1, Bool.false_and]; exact hb⟩
    rw [eqF_t h1] at hb
    rw [decide_eq_true h1, Bool.true_and]
    simp only [cond_true] at hb
    by_cases h2 : rs[i].w = n
    rotate_left
    · rw [eqF_f h2] at hb
      exact ⟨_, by rw [decide_eq_false h2, Bool.false_and]; exact hb⟩
    rw [eqF_t h2] at hb
    rw [decide_eq_true h2, Bool.true_and]
    simp only [cond_true] at hb
    by_cases h3 : rs[i].e = r.e
    rotate_left
    · rw [eqF_f h3] at hb
      exact ⟨_, by rw [decide_eq_false h3, Bool.false_and]; exact hb⟩
    rw [eqF_t h3] at hb
    rw [decide_eq_true h3, Bool.true_and]
    exact ⟨_, hb⟩
theorem swC_loop (hlen : rs.length ≤ 100000) (hm : m.get b = .cells own (rowsC rs ++ rest)) (hr : m.get rb = .cells own2 (rowR r)) {df : DFun} (hdf : Y.Typed Try.prog df) (k : Nat) (a6 n : Int) (ka : Bool) (v8 v12 v13 : Value) : ∀ (d i : Nat) (ye : Bool) (x : Nat → Value) (j : Nat), rs.length = i + d → d + 1 ≤ j →
    ∃ x', loopD (codeD Try.prog kp 0 df (drawD Try.prog kp 0 df 120) 120 k (loopN Try.f30 2)) j (fullN 120 (up x [(0, .int .i64 nodes), (1, .slice (some ⟨b, 0, sp⟩) rs.length cap), (5, .pointer (some ⟨rb, 0, none⟩)), (6, .int .i64 a6), (7, .bool ka), (8, v8), (9, .int .i64 n), (10, .bool ye), (11, .int .i64 (i : Int)), (12, v12), (13, v13)])) m = some (.exit 4, (fullN 120 (up x' [(0, .int .i64 nodes), (1, .slice (some ⟨b, 0, sp⟩) rs.length cap), (5, .pointer (some ⟨rb, 0, none⟩)), (6, .int .i64 a6), (7, .bool ka), (8, v8), (9, .int .i64 n), (10, .bool (ye || yesB r.e n (rs.drop i))), (11, .int .i64 (rs.length : Int)), (12, v12), (13, v13)])), m)
  | 0, i, ye, x, j, hi, hj => by
    obtain ⟨j, rfl⟩ : ∃ j', j = j' + 1 := ⟨j - 1, by omega⟩
    obtain rfl : i = rs.length := by omega
    rw [List.drop_length, show yesB r.e n [] = false from rfl, Bool.or_false]
    cases ye with
    | true =>
      have hb := (Y.step_eq Try.prog kp 0 hdf 120 k (loopN Try.f30 2) (fullN 120 (up x [(0, .int .i64 nodes), (1, .slice (some ⟨b, 0, sp⟩) rs.length cap), (5, .pointer (some ⟨rb, 0, none⟩)), (6, .int .i64 a6), (7, .bool ka), (8, v8), (9, .int .i64 n), (10, .bool true), (11, .int .i64 (rs.length : Int)), (12, v12), (13, v13)])) m).trans (t_swCt (v9 := undef) (v10 := undef) (v11 := undef) ..)
      simp only [ge_len (Nat.lt_irrefl _), cond_false] at hb
      exact ⟨_, loopD_stop j hb (by simp)⟩
    | false =>
      have hb := (Y.step_eq Try.prog kp 0 hdf 120 k (loopN Try.f30 2) (fullN 120 (up x [(0, .int .i64 nodes), (1, .slice (some ⟨b, 0, sp⟩) rs.length cap), (5, .pointer (some ⟨rb, 0, none⟩)), (6, .int .i64 a6), (7, .bool ka), (8, v8), (9, .int .i64 n), (10, .bool false), (11, .int .i64 (rs.length : Int)), (12, v12), (13, v13)])) m).trans (t_swCf (v9 := undef) (v10 := undef) (v11 := undef) ..)
      simp only [ge_len (Nat.lt_irrefl _), cond_false] at hb
      exact ⟨_, loopD_stop j hb (by simp)⟩
  | d + 1, i, ye, x, j, hi, hj => by
    obtain ⟨j, rfl⟩ : ∃ j', j = j' + 1 := ⟨j - 1, by omega⟩
    have hlt : i < rs.length := by omega
    obtain ⟨X, hX⟩ := swC_turn (nodes := nodes) (b := b) (rb := rb) (sp := sp) (cap := cap) hlen hm hr hdf k i hlt a6 n ka ye v8 v12 v13 x
    obtain ⟨x', hx⟩ := swC_loop hlen hm hr hdf k a6 n ka v8 v12 v13 d (i + 1) _ X j (by omega) (by omega)
    have hd : rs.drop i = rs[i] :: rs.drop (i + 1) := List.drop_eq_getElem_cons hlt
    have hyn : yesB r.e n (rs.drop i) = ((decide (rs[i].k = 4) && (decide (rs[i].w = n) && (decide (rs[i].e = r.e) && rs[i].y))) || yesB r.e n (rs.drop (i + 1))) := by rw [hd]; rfl
    exact ⟨x', by rw [hyn, ← Bool.or_assoc]; exact (loopD_next j hX).trans hx⟩
theorem loopC_2 : Y.loopC (loopN Try.f30 1) 0 = loopN Try.f30 2 := by kernel_rfl
set_option maxHeartbeats 4000000 in
theorem swB_turn (hlen : rs.length ≤ 100000) (hm : m.get b = .cells own (rowsC rs ++ rest)) (hr : m.get rb = .cells own2 (rowR r)) {df : DFun} (hdf : Y.Typed Try.prog df) (k : Nat) (hk : rs.length + 1 ≤ k) (a6 n : Int) (hn : n ≤ nodes) (hn0 : 0 ≤ n) (hn4 : nodes ≤ 4) (ka : Bool) (v8 v10 v11 v12 v13 : Value) (x : Nat → Value) :
    (yesB r.e n rs = true → ∃ X w10 w11, codeD Try.prog kp 0 df (drawD Try.prog kp 0 df 120) 120 k (loopN Try.f30 1) (fullN 120 (up x [(0, .int .i64 nodes), (1, .slice (some ⟨b, 0, sp⟩) rs.length cap), (5, .pointer (some ⟨rb, 0, none⟩)), (6, .int .i64 a6), (7, .bool ka), (8, v8), (9, .int .i64 n), (10, v10), (11, v11), (12, v12), (13, v13)])) m = some (.normal, (fullN 120 (up X [(0, .int .i64 nodes), (1, .slice (some ⟨b, 0, sp⟩) rs.length cap), (5, .pointer (some ⟨rb, 0, none⟩)), (6, .int .i64 a6), (7, .bool ka), (8, v8), (9, .int .i64 (n + 1)), (10, w10), (11, w11), (12, v12), (13, v13)])), m)) ∧
    (yesB r.e n rs = false → ∃ X w10 w11, codeD Try.prog kp 0 df (drawD Try.prog kp 0 df 120) 120 k (loopN Try.f30 1) (fullN 120 (up x [(0, .int .i64 nodes), (1, .slice (some ⟨b, 0, sp⟩) rs.length cap), (5, .pointer (some ⟨rb, 0, none⟩)), (6, .int .i64 a6), (7, .bool ka), (8, v8), (9, .int .i64 n), (10, v10), (11, v11), (12, v12), (13, v13)])) m = some (.ret, (fullN 120 (up X [(0, .int .i64 nodes), (1, .slice (some ⟨b, 0, sp⟩) rs.length cap), (5, .pointer (some ⟨rb, 0, none⟩)), (6, .int .i64 7), (7, .bool ka), (8, v8), (9, .int .i64 n), (10, w10), (11, w11), (12, v12), (13, v13)])), m)) := by
  have hb := (Y.step_eq Try.prog kp 0 hdf 120 k (loopN Try.f30 1) (fullN 120 (up x [(0, .int .i64 nodes), (1, .slice (some ⟨b, 0, sp⟩) rs.length cap), (5, .pointer (some ⟨rb, 0, none⟩)), (6, .int .i64 a6), (7, .bool ka), (8, v8), (9, .int .i64 n), (10, v10), (11, v11), (12, v12), (13, v13)])) m).trans (t_swB (v9 := undef) ..)
  simp only [ltF_f (show ¬ nodes < n by omega), cond_true, cond_false] at hb
  rw [Y.lpOf_eq, loopC_2] at hb
  have hw : IntKind.wrap .i64 (Int.add n 1) = n + 1 := IntWalk.i64_in _ (by show _ ≤ n + 1 ∧ n + 1 ≤ _; omega)
  obtain ⟨x', hx⟩ := swC_loop (nodes := nodes) (b := b) (rb := rb) (sp := sp) (cap := cap) hlen hm hr hdf k a6 n ka v8 v12 v13 rs.length 0 false _ k (by omega) (by omega)
  rw [List.drop_zero, Bool.false_or] at hx
  have hb3 := hb.trans (congrArg (fun z => Y.onE z _) hx)
  rw [Y.onE_some] at hb3
  constructor
  · intro hy
    rw [hy] at hb3
    have := hb3.trans (t_swB_ct (v9 := undef) (v10 := undef) (v11 := undef) ..)
    rw [hw] at this
    exact ⟨_, _, _, this⟩
  · intro hy
    rw [hy] at hb3
    exact ⟨_, _, _, hb3.trans (t_swB_cf (v9 := undef) (v10 := undef) (v11 := undef) ..)⟩
theorem swB_loop (hlen : rs.length ≤ 100000) (hm : m.get b = .cells own (rowsC rs ++ rest)) (hr : m.get rb = .cells own2 (rowR r)) {df : DFun} (hdf : Y.Typed Try.prog df) (k : Nat) (hk : rs.length + 1 ≤ k) (a6 : Int) (hn4 : nodes ≤ 4) (ka : Bool) (v8 v12 v13 : Value) : ∀ (d : Nat) (n : Int) (v10 v11 : Value) (x : Nat → Value) (j : Nat), nodes + 1 = n + d → 1 ≤ n → d + 1 ≤ j →
    ((∀ n', n ≤ n' → n' ≤ nodes → yesB r.e n' rs = true) → ∃ x' w9 w10 w11, loopD (codeD Try.prog kp 0 df (drawD Try.prog kp 0 df 120) 120 k (loopN Try.f30 1)) j (fullN 120 (up x [(0, .int .i64 nodes), (1, .slice (some ⟨b, 0, sp⟩) rs.length cap), (5, .pointer (some ⟨rb, 0, none⟩)), (6, .int .i64 a6), (7, .bool ka), (8, v8), (9, .int .i64 n), (10, v10), (11, v11), (12, v12), (13, v13)])) m = some (.exit 2, (fullN 120 (up x' [(0, .int .i64 nodes), (1, .slice (some ⟨b, 0, sp⟩) rs.length cap), (5, .pointer (some ⟨rb, 0, none⟩)), (6, .int .i64 a6), (7, .bool ka), (8, v8), (9, .int .i64 w9), (10, w10), (11, w11), (12, v12), (13, v13)])), m)) ∧
    ((∃ n', n ≤ n' ∧ n' ≤ nodes ∧ yesB r.e n' rs = false) → ∃ x' w9 w10 w11, loopD (codeD Try.prog kp 0 df (drawD Try.prog kp 0 df 120) 120 k (loopN Try.f30 1)) j (fullN 120 (up x [(0, .int .i64 nodes), (1, .slice (some ⟨b, 0, sp⟩) rs.length cap), (5, .pointer (some ⟨rb, 0, none⟩)), (6, .int .i64 a6), (7, .bool ka), (8, v8), (9, .int .i64 n), (10, v10), (11, v11), (12, v12), (13, v13)])) m = some (.ret, (fullN 120 (up x' [(0, .int .i64 nodes), (1, .slice (some ⟨b, 0, sp⟩) rs.length cap), (5, .pointer (some ⟨rb, 0, none⟩)), (6, .int .i64 7), (7, .bool ka), (8, v8), (9, .int .i64 w9), (10, w10), (11, w11), (12, v12), (13, v13)])), m))
  | 0, n, v10, v11, x, j, hi, h1, hj => by
    obtain ⟨j, rfl⟩ : ∃ j', j = j' + 1 := ⟨j - 1, by omega⟩
    have hb := (Y.step_eq Try.prog kp 0 hdf 120 k (loopN Try.f30 1) (fullN 120 (up x [(0, .int .i64 nodes), (1, .slice (some ⟨b, 0, sp⟩) rs.length cap), (5, .pointer (some ⟨rb, 0, none⟩)), (6, .int .i64 a6), (7, .bool ka), (8, v8), (9, .int .i64 n), (10, v10), (11, v11), (12, v12), (13, v13)])) m).trans (t_swB (v9 := undef) ..)
    simp only [ltF_t (show nodes < n by omega), cond_true, cond_false] at hb
    exact ⟨fun _ => ⟨_, _, _, _, loopD_stop j hb (by simp)⟩, fun ⟨n', h2, h3, _⟩ => by omega⟩
  | d + 1, n, v10, v11, x, j, hi, h1, hj => by
    obtain ⟨j, rfl⟩ : ∃ j', j = j' + 1 := ⟨j - 1, by omega⟩
    obtain ⟨T1, T2⟩ := swB_turn (b := b) (rb := rb) (sp := sp) (cap := cap) hlen hm hr hdf k hk a6 n (by omega) (by omega) hn4 ka v8 v10 v11 v12 v13 x
    cases hy : yesB r.e n rs with
    | false =>
      obtain ⟨X, w10, w11, hX⟩ := T2 hy
      exact ⟨fun h => (by rw [h n (by omega) (by omega)] at hy; cases hy), fun _ => ⟨X, n, w10, w11, loopD_stop j hX (by simp)⟩⟩
    | true =>
      obtain ⟨X, w10, w11, hX⟩ := T1 hy
      obtain ⟨I1, I2⟩ := swB_loop hlen hm hr hdf k hk a6 hn4 ka v8 v12 v13 d (n + 1) w10 w11 X j (by omega) (by omega) (by omega)
      refine ⟨fun h => ?_, fun h => ?_⟩
      · obtain ⟨x', w9, u10, u11, hx⟩ := I1 (fun n' h2 h3 => h n' (by omega) h3)
        exact ⟨x', w9, u10, u11, (loopD_next j hX).trans hx⟩
      · obtain ⟨x', w9, u10, u11, hx⟩ := I2 (by
          obtain ⟨n', h2, h3, h4⟩ := h
          refine ⟨n', ?_, h3, h4⟩
          by_cases e : n' = n
          · rw [e, hy] at h4; cases h4
          · omega)
        exact ⟨x', w9, u10, u11, (loopD_next j hX).trans hx⟩
theorem swE_turn (hlen : rs.length ≤ 100000) (hm : m.get b = .cells own (rowsC rs ++ rest)) (hr : m.get rb = .cells own2 (rowR r)) {df : DFun} (hdf : Y.Typed Try.prog df) (hep : ∀ node, df 15 [.slice (some ⟨b, 0, sp⟩) rs.length cap, .int .i64 node] m = some (.int .i64 (epochR rs node 0), m)) (k : Nat) (a6 n tp : Int) (hn : n ≤ nodes) (hn0 : 0 ≤ n) (hn4 : nodes ≤ 4) (ka : Bool) (v8 v9 v10 v11 : Value) (x : Nat → Value) :
    (epochR rs n 0 = tp → ∃ X, codeD Try.prog kp 0 df (drawD Try.prog kp 0 df 120) 120 k (loopN Try.f30 3) (fullN 120 (up x [(0, .int .i64 nodes), (1, .slice (some ⟨b, 0, sp⟩) rs.length cap), (5, .pointer (some ⟨rb, 0, none⟩)), (6, .int .i64 a6), (7, .bool ka), (8, v8), (9, v9), (10, v10), (11, v11), (12, .int .i64 tp), (13, .int .i64 n)])) m = some (.normal, (fullN 120 (up X [(0, .int .i64 nodes), (1, .slice (some ⟨b, 0, sp⟩) rs.length cap), (5, .pointer (some ⟨rb, 0, none⟩)), (6, .int .i64 a6), (7, .bool ka), (8, v8), (9, v9), (10, v10), (11, v11), (12, .int .i64 tp), (13, .int .i64 (n + 1))])), m)) ∧
    (epochR rs n 0 ≠ tp → ∃ X, codeD Try.prog kp 0 df (drawD Try.prog kp 0 df 120) 120 k (loopN Try.f30 3) (fullN 120 (up x [(0, .int .i64 nodes), (1, .slice (some ⟨b, 0, sp⟩) rs.length cap), (5, .pointer (some ⟨rb, 0, none⟩)), (6, .int .i64 a6), (7, .bool ka), (8, v8), (9, v9), (10, v10), (11, v11), (12, .int .i64 tp), (13, .int .i64 n)])) m = some (.ret, (fullN 120 (up X [(0, .int .i64 nodes), (1, .slice (some ⟨b, 0, sp⟩) rs.length cap), (5, .pointer (some ⟨rb, 0, none⟩)), (6, .int .i64 8), (7, .bool ka), (8, v8), (9, v9), (10, v10), (11, v11), (12, .int .i64 tp), (13, .int .i64 n)])), m)) := by
  have hb := (Y.step_eq Try.prog kp 0 hdf 120 k (loopN Try.f30 3) (fullN 120 (up x [(0, .int .i64 nodes), (1, .slice (some ⟨b, 0, sp⟩) rs.length cap), (5, .pointer (some ⟨rb, 0, none⟩)), (6, .int .i64 a6), (7, .bool ka), (8, v8), (9, v9), (10, v10), (11, v11), (12, .int .i64 tp), (13, .int .i64 n)])) m).trans (t_swE (v12 := undef) (v13 := undef) ..)
  have hw : IntKind.wrap .i64 (Int.add n 1) = n + 1 := IntWalk.i64_in _ (by show _ ≤ n + 1 ∧ n + 1 ≤ _; omega)
  simp only [ltF_f (show ¬ nodes < n by omega), cond_true, cond_false, cfOf_at, hep, onV, asInt_i, kEq_ii, hw] at hb
  constructor
  · intro he
    rw [eqF_t he] at hb
    exact ⟨_, hb⟩
  · intro he
    rw [eqF_f he] at hb
    exact ⟨_, hb⟩
theorem swE_loop (hlen : rs.length ≤ 100000) (hm : m.get b = .cells own (rowsC rs ++ rest)) (hr : m.get rb = .cells own2 (rowR r)) {df : DFun} (hdf : Y.Typed Try.prog df) (hep : ∀ node, df 15 [.slice (some ⟨b, 0, sp⟩) rs.length cap, .int .i64 node] m = some (.int .i64 (epochR rs node 0), m)) (k : Nat) (a6 tp : Int) (hn4 : nodes ≤ 4) (ka : Bool) (v8 v9 v10 v11 : Value) : ∀ (d : Nat) (n : Int) (x : Nat → Value) (j : Nat), nodes + 1 = n + d → 1 ≤ n → d + 1 ≤ j →
    ((∀ n', n ≤ n' → n' ≤ nodes → epochR rs n' 0 = tp) → ∃ x' w, loopD (codeD Try.prog kp 0 df (drawD Try.prog kp 0 df 120) 120 k (loopN Try.f30 3)) j (fullN 120 (up x [(0, .int .i64 nodes), (1, .slice (some ⟨b, 0, sp⟩) rs.length cap), (5, .pointer (some ⟨rb, 0, none⟩)), (6, .int .i64 a6), (7, .bool ka), (8, v8), (9, v9), (10, v10), (11, v11), (12, .int .i64 tp), (13, .int .i64 n)])) m = some (.exit 6, (fullN 120 (up x' [(0, .int .i64 nodes), (1, .slice (some ⟨b, 0, sp⟩) rs.length cap), (5, .pointer (some ⟨rb, 0, none⟩)), (6, .int .i64 a6), (7, .bool ka), (8, v8), (9, v9), (10, v10), (11, v11), (12, .int .i64 tp), (13, .int .i64 w)])), m)) ∧
    ((∃ n', n ≤ n' ∧ n' ≤ nodes ∧ epochR rs n' 0 ≠ tp) → ∃ x' w, loopD (codeD Try.prog kp 0 df (drawD Try.prog kp 0 df 120) 120 k (loopN Try.f30 3)) j (fullN 120 (up x [(0, .int .i64 nodes), (1, .slice (some ⟨b, 0, sp⟩) rs.length cap), (5, .pointer (some ⟨rb, 0, none⟩)), (6, .int .i64 a6), (7, .bool ka), (8, v8), (9, v9), (10, v10), (11, v11), (12, .int .i64 tp), (13, .int .i64 n)])) m = some (.ret, (fullN 120 (up x' [(0, .int .i64 nodes), (1, .slice (some ⟨b, 0, sp⟩) rs.length cap), (5, .pointer (some ⟨rb, 0, none⟩)), (6, .int .i64 8), (7, .bool ka), (8, v8), (9, v9), (10, v10), (11, v11), (12, .int .i64 tp), (13, .int .i64 w)])), m))
  | 0, n, x, j, hi, h1, hj => by
    obtain ⟨j, rfl⟩ : ∃ j', j = j' + 1 := ⟨j - 1, by omega⟩
    have hb := (Y.step_eq Try.prog kp 0 hdf 120 k (loopN Try.f30 3) (fullN 120 (up x [(0, .int .i64 nodes), (1, .slice (some ⟨b, 0, sp⟩) rs.length cap), (5, .pointer (some ⟨rb, 0, none⟩)), (6, .int .i64 a6), (7, .bool ka), (8, v8), (9, v9), (10, v10), (11, v11), (12, .int .i64 tp), (13, .int .i64 n)])) m).trans (t_swE (v12 := undef) (v13 := undef) ..)
    simp only [ltF_t (show nodes < n by omega), cond_true, cond_false] at hb
    exact ⟨fun _ => ⟨_, _, loopD_stop j hb (by simp)⟩, fun ⟨n', h2, h3, _⟩ => by omega⟩
  | d + 1, n, x, j, hi, h1, hj => by
    obtain ⟨j, rfl⟩ : ∃ j', j = j' + 1 := ⟨j - 1, by omega⟩
    obtain ⟨T1, T2⟩ := swE_turn (b := b) (rb := rb) (sp := sp) (cap := cap) hlen hm hr hdf hep k a6 n tp (by omega) (by omega) hn4 ka v8 v9 v10 v11 x
    by_cases hy : epochR rs n 0 = tp
    · obtain ⟨X, hX⟩ := T1 hy
      obtain ⟨I1, I2⟩ := swE_loop hlen hm hr hdf hep k a6 tp hn4 ka v8 v9 v10 v11 d (n + 1) X j (by omega) (by omega) (by omega)
      refine ⟨fun h => ?_, fun h => ?_⟩
      · obtain ⟨x', w, hx⟩ := I1 (fun n' h2 h3 => h n' (by omega) h3)
        exact ⟨x', w, (loopD_next j hX).trans hx⟩
      · obtain ⟨x', w, hx⟩ := I2 (by
          obtain ⟨n', h2, h3, h4⟩ := h
          refine ⟨n', ?_, h3, h4⟩
          by_cases e : n' = n
          · rw [e] at h4; exact absurd hy h4
          · omega)
        exact ⟨x', w, (loopD_next j hX).trans hx⟩
    · obtain ⟨X, hX⟩ := T2 hy
      exact ⟨fun h => absurd (h n (by omega) (by omega)) hy, fun _ => ⟨X, n, loopD_stop j hX (by simp)⟩⟩
end
theorem knownB_iff (r : RowT) (l : List RowT) : knownB r l = true ↔ ∃ x ∈ l, x.k = 3 ∧ x.e = r.e := by
  unfold knownB
  rw [List.any_eq_true]
  simp
theorem yesB_iff (e n : Int) (l : List RowT) : yesB e n l = true ↔ ∃ x ∈ l, saysYes e n x := by
  unfold yesB saysYes
  rw [List.any_eq_true]
  simp
set_option maxHeartbeats 4000000 in
theorem swapped_run {b : Nat} {own : Bool} {sp : Option Nat} {cap : Nat} {m : Mem} {rs : List RowT} {rest : List Value} {r : RowT} {nodes : Int} (hlen : rs.length ≤ 100000) (hm : m.get b = .cells own (rowsC rs ++ rest)) (hbm : b < m.size) (hn1 : 1 ≤ nodes) (hn4 : nodes ≤ 4)
    (o : Orc) (k : Nat) (hk : rs.length + 10 ≤ k) (ho : ∀ a m, o 30 a m = none) (ho15 : ∀ a c n m, o 15 [.slice (some a) rs.length c, .int .i64 n] m = none) (ho42 : ∀ a m, o 42 a m = none) : callN Try.prog kp 0 o k 30 [.int .i64 nodes, .slice (some ⟨b, 0, sp⟩) rs.length cap, .agg ⟨rowR r⟩] m = some (.int .i64 (swappedR nodes rs r), m.push (.cells true (rowR r))) := by
  obtain ⟨k, rfl⟩ : ∃ k', k = k' + 1 := ⟨k - 1, by omega⟩
  have hT := Y.callN_typed Try.prog kp 0 o k
  have hm1 : (m.push (.cells true (rowR r))).get b = .cells own (rowsC rs ++ rest) := by rw [Mem.get_push_ne _ (by omega)]; exact hm
  have hr1 : (m.push (.cells true (rowR r))).get m.size = .cells true (rowR r) := Mem.get_push_same _ _
  have hep : ∀ node, callN Try.prog kp 0 o k 15 [.slice (some ⟨b, 0, sp⟩) rs.length cap, .int .i64 node] (m.push (.cells true (rowR r))) = some (.int .i64 (epochR rs node 0), m.push (.cells true (rowR r))) := fun node => epoch_run hlen hm1 o node k (by omega) ho15
  have htp : callN Try.prog kp 0 o k 42 [.slice (some ⟨b, 0, sp⟩) rs.length cap] (m.push (.cells true (rowR r))) = some (.int .i64 (topR rs 0), m.push (.cells true (rowR r))) := top_run hlen hm1 o k (by omega) ho42
  have fin : ∀ (v : Int), bodyN Try.prog kp 0 (callN Try.prog kp 0 o k) k 30 [.int .i64 nodes, .slice (some ⟨b, 0, sp⟩) rs.length cap, .agg ⟨rowR r⟩] m = some (.int .i64 v, m.push (.cells true (rowR r))) → callN Try.prog kp 0 o (k + 1) 30 [.int .i64 nodes, .slice (some ⟨b, 0, sp⟩) rs.length cap, .agg ⟨rowR r⟩] m = some (.int .i64 v, m.push (.cells true (rowR r))) := fun v h => by
    simp only [callN, ho]
    exact (congrArg (filtR Try.prog _) h).trans (filt_i _ _ (by kernel_rfl))
  have hB := (Y.body_eq hT (k := k) (c := bodyOf Try.f30) (fn := Try.f30) 120 Try.func30 (by kernel_rfl) [.int .i64 nodes, .slice (some ⟨b, 0, sp⟩) rs.length cap, .agg ⟨rowR r⟩] (by kernel_rfl) m).trans (t_sw_in (rb := 0) ..)
  have hrw : [Value.int .i64 r.k, .int .i64 r.w, .int .i64 r.t, .int .i64 r.i, .int .i64 r.e, .int .i64 r.s, .int .i64 r.st, .int .i64 r.c, .int .i64 r.tr, .bool r.y] ++ hashC r.h ++ [.int .u64 r.v] = rowR r := rfl
  rw [hrw] at hB
  simp only [hr1, cells_c, row_e, row_w, Option.elim, asInt_i, kEq_ii, cond_true, cfOf_at, hep, onV, eqF_t (rfl : r.e = r.e)] at hB
  unfold swappedR
  by_cases g5 : r.e ≤ epochR rs r.w 0
  · rw [ltF_f (show ¬ epochR rs r.w 0 < r.e by omega)] at hB
    rw [if_pos g5]
    exact fin _ hB
  rw [ltF_t (show epochR rs r.w 0 < r.e by omega)] at hB
  rw [if_neg g5]
  simp only [cond_true, cond_false] at hB
  rw [Y.lpOf_eq, Y.loopC_body] at hB
  obtain ⟨A1, A2⟩ := swA_loop (nodes := nodes) (b := b) (rb := m.size) (sp := sp) (cap := cap) hlen hm1 hr1 hT k 0 (.tuple ⟨[]⟩) (.tuple ⟨[]⟩) (.tuple ⟨[]⟩) (.tuple ⟨[]⟩) (.tuple ⟨[]⟩) rs.length 0 false _ k (by omega) (by omega)
  rw [List.drop_zero] at A1 A2
  by_cases g6 : ∃ x ∈ rs, badH r x
  · rw [if_pos g6]
    obtain ⟨x', v8, hx⟩ := A2 g6
    exact fin _ (hB.trans ((congrArg (fun z => Y.onE z _) hx).trans ((Y.onE_some ..).trans (t_swA_r (v8 := undef) ..))))
  rw [if_neg g6]
  obtain ⟨x1, hx1⟩ := A1 g6
  rw [Bool.false_or] at hx1
  have hB1 := hB.trans ((congrArg (fun z => Y.onE z _) hx1).trans ((Y.onE_some ..).trans (t_swA_o (v8 := undef) ..)))
  rw [Y.lpOf_eq, Y.loopC_body] at hB1
  obtain ⟨B1, B2⟩ := swB_loop (nodes := nodes) (b := b) (rb := m.size) (sp := sp) (cap := cap) hlen hm1 hr1 hT k (by omega) 0 hn4 (knownB r rs) (.int .i64 (rs.length : Int)) (.tuple ⟨[]⟩) (.tuple ⟨[]⟩) nodes.toNat 1 (.tuple ⟨[]⟩) (.tuple ⟨[]⟩) _ k (by omega) (by omega) (by omega)
  by_cases g7 : ∃ n : Int, 1 ≤ n ∧ n ≤ nodes ∧ ¬ ∃ x ∈ rs, saysYes r.e n x
  · rw [if_pos g7]
    obtain ⟨x', w9, w10, w11, hx⟩ := B2 (by
      obtain ⟨n', h1, h2, h3⟩ := g7
      refine ⟨n', h1, h2, ?_⟩
      cases hy : yesB r.e n' rs with
      | false => rfl
      | true => exact absurd ((yesB_iff _ _ _).1 hy) h3)
    exact fin _ (hB1.trans ((congrArg (fun z => Y.onE z _) hx).trans ((Y.onE_some ..).trans (t_swB_r (v9 := undef) ..))))
  rw [if_neg g7]
  obtain ⟨x2, w9, w10, w11, hx2⟩ := B1 (fun n' h1 h2 => by
    cases hy : yesB r.e n' rs with
    | true => rfl
    | false => exact absurd ⟨n', h1, h2, fun hx => by rw [(yesB_iff _ _ _).2 hx] at hy; cases hy⟩ g7)
  cases hkn : knownB r rs with
  | true =>
    rw [hkn] at hx2
    rw [if_pos ((knownB_iff r rs).1 hkn)]
    have hB2 := hB1
    rw [hkn] at hB2
    have hB3 := hB2.trans ((congrArg (fun z => Y.onE z _) hx2).trans ((Y.onE_some ..).trans (t_swB_ot (v9 := undef) ..)))
    simp only [cfOf_at, htp, onV, asInt_i, kEq_ii, cond_true, hr1, cells_c, row_e, Option.elim] at hB3
    by_cases g8 : r.e = topR rs 0
    · rw [eqF_t g8] at hB3
      rw [if_neg (show ¬ (r.e ≠ topR rs 0) from fun g => g g8)]
      exact fin _ hB3
    · rw [eqF_f g8] at hB3
      rw [if_pos g8]
      exact fin _ hB3
  | false =>
    rw [hkn] at hx2
    rw [if_neg (fun g => by rw [(knownB_iff r rs).2 g] at hkn; cases hkn)]
    have hB2 := hB1
    rw [hkn] at hB2
    have hB3 := hB2.trans ((congrArg (fun z => Y.onE z _) hx2).trans ((Y.onE_some ..).trans (t_swB_of (v9 := undef) ..)))
    simp only [cfOf_at, htp, onV, asInt_i, kEq_ii, cond_true] at hB3
    rw [Y.lpOf_eq, Y.loopC_body] at hB3
    obtain ⟨E1, E2⟩ := swE_loop (nodes := nodes) (b := b) (rb := m.size) (sp := sp) (cap := cap) hlen hm1 hr1 hT hep k 0 (topR rs 0) hn4 false (.int .i64 (rs.length : Int)) (.int .i64 w9) w10 w11 nodes.toNat 1 _ k (by omega) (by omega) (by omega)
    by_cases g8 : ∃ n : Int, 1 ≤ n ∧ n ≤ nodes ∧ epochR rs n 0 ≠ topR rs 0
    · rw [if_pos g8]
      obtain ⟨x', w, hx⟩ := E2 g8
      exact fin _ (hB3.trans ((congrArg (fun z => Y.onE z _) hx).trans ((Y.onE_some ..).trans (t_swE_r (v12 := undef) (v13 := undef) ..))))
    rw [if_neg g8]
    obtain ⟨x3, w, hx3⟩ := E1 (fun n' h1 h2 => by
      by_cases e : epochR rs n' 0 = topR rs 0
      · exact e
      · exact absurd ⟨n', h1, h2, e⟩ g8)
    have hB4 := hB3.trans ((congrArg (fun z => Y.onE z _) hx3).trans ((Y.onE_some ..).trans (t_swE_o (v12 := undef) (v13 := undef) ..)))
    simp only [hr1, cells_c, row_e, Option.elim, asInt_i, kEq_ii, cond_true] at hB4
    by_cases g9 : r.e ≤ topR rs 0
    · rw [ltF_f (show ¬ topR rs 0 < r.e by omega)] at hB4
      rw [if_pos g9]
      exact fin _ hB4
    · rw [ltF_t (show topR rs 0 < r.e by omega)] at hB4
      rw [if_neg g9]
      exact fin _ hB4
end
end Go.Proofs.Ytfpbiojnbffkpaa
namespace Go.Proofs.Ytfpbiojnbffkpaa
open Go Go.DI Go.Proofs Go.Jud
noncomputable section
theorem wrong_law {n : Int} {l : List RowT} {S : JS} {r : RowT} (h : JInv n l S) (hn : 1 ≤ n) (hlog : S.log.length ≤ 1000000) (hi : -9223372036854775808 ≤ r.i ∧ r.i ≤ 9223372036854775807) : (addJ S r).1 = wrongR n l r := by
  unfold addJ wrongR
  rw [h.nodes]
  by_cases a1 : r.k < 1 ∨ 7 < r.k
  · rw [if_pos a1, if_pos (.inl a1)]
  rw [if_neg a1]
  by_cases a2 : ofNode r ∧ (r.w < 1 ∨ n < r.w)
  · rw [if_pos a2, if_pos (.inr a2)]
  rw [if_neg a2, if_neg (show ¬ ((r.k < 1 ∨ 7 < r.k) ∨ ofNode r ∧ (r.w < 1 ∨ n < r.w)) from fun e => e.elim a1 a2)]
  by_cases a3 : (r.k = 3 ∨ r.k = 4) ∧ r.e < 1
  · rw [if_pos a3, if_pos a3]
  rw [if_neg a3, if_neg a3]
  have hw : ofNode r → 1 ≤ r.w ∧ r.w ≤ n := fun g => by
    have h1 : ¬ r.w < 1 := fun e => a2 ⟨g, .inl e⟩
    have h2 : ¬ n < r.w := fun e => a2 ⟨g, .inr e⟩
    omega
  by_cases b1 : r.k = 1
  · rw [if_pos b1, if_pos b1]; exact led_law h b1
  rw [if_neg b1, if_neg b1]
  by_cases b2 : r.k = 2
  · rw [if_pos b2, if_pos b2]; exact sure_law h hlog hi
  rw [if_neg b2, if_neg b2]
  by_cases b3 : r.k = 3
  · rw [if_pos b3, if_pos b3]; exact swap_law h hn (hw (.inl b3))
  rw [if_neg b3, if_neg b3]
  by_cases b4 : r.k = 4
  · rw [if_pos b4, if_pos b4]; exact ack_law h (hw (.inr (.inl b4)))
  rw [if_neg b4, if_neg b4]
  by_cases b5 : r.k = 5
  · rw [if_pos b5, if_pos b5]; exact told_law h b5
  rw [if_neg b5, if_neg b5]
  by_cases b6 : r.k = 6
  · rw [if_pos b6, if_pos b6]; exact jud_law h (hw (.inr (.inr b6)))
  rw [if_neg b6, if_neg b6]
theorem ledJ_leaves (S : JS) (r : RowT) : (ledJ S r).1 ≠ 0 → (ledJ S r).2 = S := by
  unfold ledJ
  (repeat' split) <;> intro h <;> first | rfl | exact absurd rfl h
theorem sureJ_leaves (S : JS) (r : RowT) : (sureJ S r).1 ≠ 0 → (sureJ S r).2 = S := by
  unfold sureJ
  (repeat' split) <;> intro h <;> first | rfl | exact absurd rfl h
theorem swapJ_leaves (S : JS) (r : RowT) : (swapJ S r).1 ≠ 0 → (swapJ S r).2 = S := by
  unfold swapJ
  (repeat' split) <;> intro h <;> first | rfl | exact absurd rfl h
theorem ackJ_leaves (S : JS) (r : RowT) : (ackJ S r).1 ≠ 0 → (ackJ S r).2 = S := by
  unfold ackJ
  (repeat' split) <;> intro h <;> first | rfl | exact absurd rfl h
theorem toldJ_leaves (S : JS) (r : RowT) : (toldJ S r).1 ≠ 0 → (toldJ S r).2 = S := by
  unfold toldJ
  (repeat' split) <;> intro h <;> first | rfl | exact absurd rfl h
theorem judJ_leaves (S : JS) (r : RowT) : (judJ S r).1 ≠ 0 → (judJ S r).2 = S := by
  unfold judJ
  (repeat' split) <;> intro h <;> first | rfl | exact absurd rfl h
theorem wrong_leaves (S : JS) (r : RowT) : (addJ S r).1 ≠ 0 → (addJ S r).2 = S := by
  unfold addJ
  (repeat' split) <;> intro h <;> first | rfl | exact ledJ_leaves S r h | exact sureJ_leaves S r h | exact swapJ_leaves S r h | exact ackJ_leaves S r h | exact toldJ_leaves S r h | exact judJ_leaves S r h
def o9 (S : JS) (r : RowT) : Bool := match S.word.get r.e with | some u => decide (u ≠ 0) && decide (u ≠ wordJ r) | none => false
section
variable {n : Int} {l : List RowT} {S : JS} {r : RowT} (h : JInv n l S)
include h
omit h in
theorem mem_snoc {x : RowT} (hx : x ∈ l ++ [r]) : x ∈ l ∨ x = r := by
  rcases List.mem_append.1 hx with g | g
  · exact .inl g
  · right; simpa using g
theorem keep_led (hk : r.k ≠ 1) : (∀ x ∈ l ++ [r], x.k = 1 → S.led.get x.t = some x.w) ∧ (∀ t u, S.led.get t = some u → ∃ x ∈ l ++ [r], x.k = 1 ∧ x.t = t ∧ x.w = u) :=
  ⟨fun x hx h1 => (mem_snoc hx).elim (fun g => h.led1 x g h1) (fun g => absurd (g ▸ h1) hk), fun t u e => ex_snoc.2 (.inl (h.led2 t u e))⟩
theorem keep_swap (hk : r.k ≠ 3) : (∀ w : Int, 1 ≤ w → w ≤ n → S.ep w.toNat = epochR (l ++ [r]) w 0) ∧ S.top = topR (l ++ [r]) 0 ∧ (∀ x ∈ l ++ [r], x.k = 3 → ∃ h, S.images.get x.e = some h ∧ hl h = hl x.h) ∧ (∀ e h, S.images.get e = some h → ∃ x ∈ l ++ [r], x.k = 3 ∧ x.e = e ∧ hl h = hl x.h) :=
  ⟨fun w h1 h2 => by rw [epochR_snoc, if_neg (fun g => hk g.1)]; exact h.ep w h1 h2, by rw [topR_snoc, if_neg (fun g => hk g.1)]; exact h.top,
    fun x hx h1 => (mem_snoc hx).elim (fun g => h.img1 x g h1) (fun g => absurd (g ▸ h1) hk), fun e a g => ex_snoc.2 (.inl (h.img2 e a g))⟩
theorem keep_ack (hk : r.k ≠ 4) : (∀ w e, S.yes.get (w, e) ≠ none ↔ ∃ x ∈ l ++ [r], saysYes e w x) ∧ (∀ x ∈ l ++ [r], x.k = 4 → S.word.get x.e = some (wordJ x)) ∧ (∀ e u, S.word.get e = some u → ∃ x ∈ l ++ [r], x.k = 4 ∧ x.e = e ∧ u = wordJ x) :=
  ⟨fun w e => (h.yes w e).trans ⟨fun g => ex_snoc.2 (.inl g), fun g => (ex_snoc.1 g).elim id (fun g => absurd g.1 hk)⟩,
    fun x hx h1 => (mem_snoc hx).elim (fun g => h.word1 x g h1) (fun g => absurd (g ▸ h1) hk), fun e a g => ex_snoc.2 (.inl (h.word2 e a g))⟩
theorem keep_told (hk : countsR r = false) : (∀ x ∈ l ++ [r], countsR x = true → ∃ a, S.answers.get (x.w, x.s) = some a ∧ a.1 = x.c ∧ a.2.1 = x.e ∧ hl a.2.2 = hl x.h) ∧
    (∀ q a, S.answers.get q = some a → ∃ x ∈ l ++ [r], countsR x = true ∧ (x.w, x.s) = q ∧ a.1 = x.c ∧ a.2.1 = x.e ∧ hl a.2.2 = hl x.h) ∧
    (∀ x ∈ l ++ [r], countsR x = true → x.c = 0 → 0 < x.e → S.askers.get x.e = some (x.w, x.s)) ∧
    (∀ e q, S.askers.get e = some q → ∃ x ∈ l ++ [r], countsR x = true ∧ x.c = 0 ∧ 0 < x.e ∧ x.e = e ∧ (x.w, x.s) = q) :=
  ⟨fun x hx h1 => (mem_snoc hx).elim (fun g => h.ans1 x g h1) (fun g => by rw [g, hk] at h1; cases h1), fun q a g => ex_snoc.2 (.inl (h.ans2 q a g)),
    fun x hx h1 => (mem_snoc hx).elim (fun g => h.ask1 x g h1) (fun g => by rw [g, hk] at h1; cases h1), fun e q g => ex_snoc.2 (.inl (h.ask2 e q g))⟩
theorem keep_sure (hk : r.k ≠ 2) : (∀ w, (S.last.get w).getD 0 = lastR (l ++ [r]) w) ∧ (∀ x ∈ l ++ [r], x.k = 2 → 1 ≤ x.i ∧ ∃ y, S.log[(x.i - 1).toNat]? = some y ∧ y.1 = x.t ∧ hl y.2 = hl x.h) ∧
    (∀ (j : Nat) y, S.log[j]? = some y → ∃ x ∈ l ++ [r], x.k = 2 ∧ x.i = (j : Int) + 1 ∧ y.1 = x.t ∧ hl y.2 = hl x.h) :=
  ⟨fun w => by rw [lastR_snoc, if_neg (fun g => hk g.1)]; exact h.last w, fun x hx h1 => (mem_snoc hx).elim (fun g => h.log1 x g h1) (fun g => absurd (g ▸ h1) hk), fun j y g => ex_snoc.2 (.inl (h.log2 j y g))⟩
omit h in
theorem counts_k (hk : r.k ≠ 5) : countsR r = false := by unfold countsR; rw [decide_eq_false hk]; rfl
theorem keep_none (h1 : r.k ≠ 1) (h2 : r.k ≠ 2) (h3 : r.k ≠ 3) (h4 : r.k ≠ 4) (h5 : countsR r = false) : JInv n (l ++ [r]) S :=
  have a := keep_led h h1; have b := keep_sure h h2; have c := keep_swap h h3; have d := keep_ack h h4; have e := keep_told h h5
  ⟨h.nodes, a.1, a.2, c.1, c.2.1, c.2.2.1, c.2.2.2, d.1, d.2.1, d.2.2, e.1, e.2.1, e.2.2.1, e.2.2.2, b.1, h.last2, b.2.1, b.2.2⟩
theorem keep_kind1 (hk : r.k = 1) (h0 : (ledJ S r).1 = 0) : JInv n (l ++ [r]) (ledJ S r).2 := by
  have h5 : countsR r = false := by unfold countsR; rw [decide_eq_false (by omega)]; rfl
  have b := keep_sure h (r := r) (by omega); have c := keep_swap h (r := r) (by omega); have d := keep_ack h (r := r) (by omega); have e := keep_told h h5
  have hs : (ledJ S r).2 = { S with led := S.led.put r.t r.w } := by
    revert h0
    unfold ledJ
    (repeat' split) <;> intro g <;> first | rfl | exact absurd g (by simp)
  have hold : ∀ u, S.led.get r.t = some u → u = r.w := fun u hu => by
    revert h0
    unfold ledJ
    rw [hu]
    simp only
    by_cases e : u = r.w
    · exact fun _ => e
    · rw [if_pos e]; intro g; exact absurd g (by simp)
  rw [hs]
  refine ⟨h.nodes, fun x hx h1 => ?_, fun t u hg => ?_, c.1, c.2.1, c.2.2.1, c.2.2.2, d.1, d.2.1, d.2.2, e.1, e.2.1, e.2.2.1, e.2.2.2, b.1, h.last2, b.2.1, b.2.2⟩
  · show (S.led.put r.t r.w).get x.t = _
    rw [TM.get_put]
    rcases mem_snoc hx with g | rfl
    · by_cases e : x.t = r.t
      · rw [if_pos e]
        have := h.led1 x g h1
        rw [e] at this
        rw [hold _ this]
      · rw [if_neg e]; exact h.led1 x g h1
    · rw [if_pos rfl]
  · have hg' : (S.led.put r.t r.w).get t = some u := hg
    rw [TM.get_put] at hg'
    by_cases e : t = r.t
    · rw [if_pos e] at hg'
      exact ⟨r, by simp, hk, e.symm, Option.some.inj hg'⟩
    · rw [if_neg e] at hg'
      exact ex_snoc.2 (.inl (h.led2 t u hg'))
omit h in
theorem ackJ_eq : ackJ S r = (if r.e ≤ S.ep r.w.toNat then (9, S) else if o9 S r = true then (9, S) else
  (0, { S with word := S.word.put r.e (wordJ r), yes := if r.y = true then S.yes.put (r.w, r.e) () else S.yes })) := rfl
theorem keep_kind4 (hk : r.k = 4) (h0 : (ackJ S r).1 = 0) : JInv n (l ++ [r]) (ackJ S r).2 := by
  have h5 : countsR r = false := by unfold countsR; rw [decide_eq_false (by omega)]; rfl
  have a := keep_led h (r := r) (by omega); have b := keep_sure h (r := r) (by omega); have c := keep_swap h (r := r) (by omega); have e := keep_told h h5
  have hs : (ackJ S r).2 = { S with word := S.word.put r.e (wordJ r), yes := if r.y = true then S.yes.put (r.w, r.e) () else S.yes } := by
    revert h0
    rw [ackJ_eq]
    by_cases g1 : r.e ≤ S.ep r.w.toNat
    · rw [if_pos g1]; intro g; exact absurd g (show (9 : Int) ≠ 0 by omega)
    · rw [if_neg g1]
      by_cases g2 : o9 S r = true
      · rw [if_pos g2]; intro g; exact absurd g (show (9 : Int) ≠ 0 by omega)
      · rw [if_neg g2]; exact fun _ => rfl
  have hold : ∀ u, S.word.get r.e = some u → u = 0 ∨ u = wordJ r := fun u hu => by
    revert h0
    unfold ackJ
    rw [hu]
    by_cases ge : r.e ≤ S.ep r.w.toNat
    · rw [if_pos ge]; intro g; exact absurd g (show (9 : Int) ≠ 0 by omega)
    · rw [if_neg ge]
      simp only
      by_cases e1 : u = 0
      · exact fun _ => .inl e1
      · by_cases e2 : u = wordJ r
        · exact fun _ => .inr e2
        · intro g
          rw [if_pos (show (decide (u ≠ 0) && decide (u ≠ wordJ r)) = true by simp [e1, e2])] at g
          exact absurd g (show (9 : Int) ≠ 0 by omega)
  have wne : ∀ x : RowT, wordJ x ≠ 0 := fun x => by unfold wordJ; split <;> omega
  rw [hs]
  refine ⟨h.nodes, a.1, a.2, c.1, c.2.1, c.2.2.1, c.2.2.2, fun w ee => ?_, fun x hx h1 => ?_, fun ee u hg => ?_, e.1, e.2.1, e.2.2.1, e.2.2.2, b.1, h.last2, b.2.1, b.2.2⟩
  · show (if r.y = true then S.yes.put (r.w, r.e) () else S.yes).get (w, ee) ≠ none ↔ _
    rw [ex_snoc]
    cases hy : r.y with
    | false =>
      rw [if_neg (by simp)]
      exact (h.yes w ee).trans ⟨.inl, fun g => g.elim id (fun g => by have := g.2.2.2; rw [hy] at this; cases this)⟩
    | true =>
      rw [if_pos rfl, TM.get_put]
      by_cases e : (w, ee) = (r.w, r.e)
      · rw [if_pos e]
        have e' : w = r.w ∧ ee = r.e := by simpa using e
        exact ⟨fun _ => .inr ⟨hk, e'.1.symm, e'.2.symm, hy⟩, fun _ => by simp⟩
      · rw [if_neg e]
        refine (h.yes w ee).trans ⟨.inl, fun g => g.elim id (fun g => ?_)⟩
        exact absurd (by rw [g.2.1, g.2.2.1]) e
  · show (S.word.put r.e (wordJ r)).get x.e = _
    rw [TM.get_put]
    rcases mem_snoc hx with g | rfl
    · by_cases e : x.e = r.e
      · rw [if_pos e]
        have := h.word1 x g h1
        rw [e] at this
        rcases hold _ this with q | q
        · exact absurd q (wne x)
        · rw [q]
      · rw [if_neg e]; exact h.word1 x g h1
    · rw [if_pos rfl]
  · have hg' : (S.word.put r.e (wordJ r)).get ee = some u := hg
    rw [TM.get_put] at hg'
    by_cases e : ee = r.e
    · rw [if_pos e] at hg'
      exact ⟨r, by simp, hk, e.symm, (Option.some.inj hg').symm⟩
    · rw [if_neg e] at hg'
      exact ex_snoc.2 (.inl (h.word2 ee u hg'))
theorem keep_kind2 (hk : r.k = 2) (h0 : (sureJ S r).1 = 0) : JInv n (l ++ [r]) (sureJ S r).2 := by
  have h5 : countsR r = false := counts_k (by omega)
  have a := keep_led h (r := r) (by omega); have c := keep_swap h (r := r) (by omega); have d := keep_ack h (r := r) (by omega); have e := keep_told h h5
  by_cases g1 : (thereJ S r && otherJ S r) = true
  · unfold sureJ at h0; rw [if_pos g1] at h0; exact absurd h0 (show (3 : Int) ≠ 0 by omega)
  by_cases g2 : r.i ≠ 1 ∧ r.i - 1 ≠ (S.last.get r.w).getD 0
  · unfold sureJ at h0; rw [if_neg g1, if_pos g2] at h0; exact absurd h0 (show (4 : Int) ≠ 0 by omega)
  by_cases g3 : r.i < 1
  · unfold sureJ at h0; rw [if_neg g1, if_neg g2, if_pos g3] at h0; exact absurd h0 (show (4 : Int) ≠ 0 by omega)
  by_cases g4 : 1 < r.i ∧ fallsJ S r = true
  · unfold sureJ at h0; rw [if_neg g1, if_neg g2, if_neg g3, if_pos g4] at h0; exact absurd h0 (show (4 : Int) ≠ 0 by omega)
  have hs : (sureJ S r).2 = { S with last := S.last.put r.w r.i, log := if thereJ S r = true then S.log else S.log ++ [(r.t, r.h)] } := by
    unfold sureJ; rw [if_neg g1, if_neg g2, if_neg g3, if_neg g4]
  have hlr : 0 ≤ (S.last.get r.w).getD 0 ∧ (S.last.get r.w).getD 0 ≤ (S.log.length : Int) := by
    cases hg : S.last.get r.w with
    | none => simp
    | some v => have := h.last2 _ _ hg; simp; omega
  have hile : r.i ≤ (S.log.length : Int) + 1 := by
    by_cases e1 : r.i = 1
    · omega
    · have : r.i - 1 = (S.last.get r.w).getD 0 := by
        by_cases e2 : r.i - 1 = (S.last.get r.w).getD 0
        · exact e2
        · exact absurd ⟨e1, e2⟩ g2
      omega
  have hth : thereJ S r = true ∨ (thereJ S r = false ∧ r.i = (S.log.length : Int) + 1) := by
    cases ht : thereJ S r with
    | true => exact .inl rfl
    | false =>
      right
      refine ⟨rfl, ?_⟩
      unfold thereJ at ht
      rw [decide_eq_true (show 1 ≤ r.i by omega), Bool.true_and] at ht
      have := of_decide_eq_false ht
      omega
  have hlog : ∃ L, L = (if thereJ S r = true then S.log else S.log ++ [(r.t, r.h)]) ∧ (∀ (j : Nat) y, S.log[j]? = some y → L[j]? = some y) ∧ r.i ≤ (L.length : Int) ∧ S.log.length ≤ L.length ∧ (∃ y, L[(r.i - 1).toNat]? = some y ∧ y.1 = r.t ∧ hl y.2 = hl r.h) ∧
      (∀ (j : Nat) y, L[j]? = some y → S.log[j]? = some y ∨ ((j : Int) + 1 = r.i ∧ y = (r.t, r.h))) := by
    refine ⟨_, rfl, ?_⟩
    rcases hth with ht | ⟨ht, hi⟩
    · rw [if_pos ht]
      have ht' := ht
      unfold thereJ at ht'
      simp only [Bool.and_eq_true, decide_eq_true_eq] at ht'
      have hlt : (r.i - 1).toNat < S.log.length := by omega
      have hg : S.log[(r.i - 1).toNat]? = some (S.log[(r.i - 1).toNat]) := List.getElem?_eq_getElem hlt
      have hot : otherJ S r = false := by
        cases ho : otherJ S r with
        | false => rfl
        | true => rw [ht, ho] at g1; exact absurd rfl g1
      unfold otherJ at hot
      rw [hg] at hot
      have hot2 : S.log[(r.i - 1).toNat].1 = r.t ∧ hl S.log[(r.i - 1).toNat].2 = hl r.h := by simpa using hot
      exact ⟨fun j y g => g, ht'.2, Nat.le_refl _, ⟨_, hg, hot2⟩, fun j y g => .inl g⟩
    · rw [if_neg (by rw [ht]; simp)]
      refine ⟨fun j y g => ?_, by simp; omega, by simp, ⟨(r.t, r.h), ?_, rfl, rfl⟩, fun j y g => ?_⟩
      · rw [List.getElem?_append_left (List.getElem?_eq_some_iff.1 g).1]; exact g
      · rw [show (r.i - 1).toNat = S.log.length by omega]; simp
      · rcases Nat.lt_or_ge j S.log.length with q | q
        · rw [List.getElem?_append_left q] at g; exact .inl g
        · rw [List.getElem?_append_right q] at g
          right
          have hj : j - S.log.length = 0 := by
            rcases Nat.eq_zero_or_pos (j - S.log.length) with z | z
            · exact z
            · rw [List.getElem?_eq_none (by simp; omega)] at g; cases g
          rw [hj] at g
          have gy : (r.t, r.h) = y := by simpa using g
          exact ⟨by omega, gy.symm⟩
  obtain ⟨L, hL, l1, l2, l3, l4, l5⟩ := hlog
  rw [hs, ← hL]
  refine ⟨h.nodes, a.1, a.2, c.1, c.2.1, c.2.2.1, c.2.2.2, d.1, d.2.1, d.2.2, e.1, e.2.1, e.2.2.1, e.2.2.2, fun w => ?_, fun w v hg => ?_, fun x hx h1 => ?_, fun j y hg => ?_⟩
  · show ((S.last.put r.w r.i).get w).getD 0 = _
    rw [TM.get_put, lastR_snoc]
    by_cases e1 : w = r.w
    · rw [if_pos e1, if_pos ⟨hk, e1.symm⟩]; rfl
    · rw [if_neg e1, if_neg (fun g => e1 g.2.symm)]; exact h.last w
  · have hg' : (S.last.put r.w r.i).get w = some v := hg
    show 1 ≤ v ∧ v ≤ (L.length : Int)
    rw [TM.get_put] at hg'
    by_cases e1 : w = r.w
    · rw [if_pos e1] at hg'
      cases hg'
      exact ⟨by omega, l2⟩
    · rw [if_neg e1] at hg'
      have := h.last2 w v hg'
      omega
  · rcases mem_snoc hx with g | rfl
    · obtain ⟨b1, y, b2, b3⟩ := h.log1 x g h1
      exact ⟨b1, y, l1 _ _ b2, b3⟩
    · exact ⟨by omega, l4⟩
  · rcases l5 j y hg with g | ⟨g, rfl⟩
    · exact ex_snoc.2 (.inl (h.log2 j y g))
    · exact ⟨r, by simp, hk, g.symm, rfl, rfl⟩
theorem keep_kind3 (hk : r.k = 3) (hw : 1 ≤ r.w ∧ r.w ≤ n) (h0 : (swapJ S r).1 = 0) : JInv n (l ++ [r]) (swapJ S r).2 := by
  have h5 : countsR r = false := counts_k (by omega)
  have a := keep_led h (r := r) (by omega); have b := keep_sure h (r := r) (by omega); have d := keep_ack h (r := r) (by omega); have e := keep_told h h5
  rw [swapJ_eq] at h0 ⊢
  by_cases g1 : r.e ≤ S.ep r.w.toNat
  · rw [if_pos g1] at h0; exact absurd h0 (show (5 : Int) ≠ 0 by omega)
  rw [if_neg g1] at h0 ⊢
  by_cases g2 : o6 S r = true
  · rw [if_pos g2] at h0; exact absurd h0 (show (6 : Int) ≠ 0 by omega)
  rw [if_neg g2] at h0 ⊢
  by_cases g3 : yesesJ S r.e S.n.toNat = false
  · rw [if_pos g3] at h0; exact absurd h0 (show (7 : Int) ≠ 0 by omega)
  rw [if_neg g3] at h0 ⊢
  by_cases g4 : o8 S r = true
  · rw [if_pos g4] at h0; exact absurd h0 (show (8 : Int) ≠ 0 by omega)
  rw [if_neg g4]
  have hold : ∀ a, S.images.get r.e = some a → hl a = hl r.h := fun a ha => by
    unfold o6 at g2
    rw [ha] at g2
    simpa using g2
  refine ⟨h.nodes, a.1, a.2, fun w h1 h2 => ?_, ?_, fun x hx h1 => ?_, fun ee u hg => ?_, d.1, d.2.1, d.2.2, e.1, e.2.1, e.2.2.1, e.2.2.2, b.1, h.last2, b.2.1, b.2.2⟩
  · show (if w.toNat = r.w.toNat then r.e else S.ep w.toNat) = _
    rw [epochR_snoc]
    by_cases e1 : w = r.w
    · rw [if_pos (by rw [e1]), if_pos ⟨hk, e1.symm⟩]
    · rw [if_neg (by omega), if_neg (fun g => e1 g.2.symm)]; exact h.ep w h1 h2
  · show (if r.e > S.top then r.e else S.top) = _
    rw [topR_snoc, h.top]
    by_cases e1 : topR l 0 < r.e
    · rw [if_pos e1, if_pos ⟨hk, e1⟩]
    · rw [if_neg e1, if_neg (fun g => e1 g.2)]
  · show ∃ h, (S.images.put r.e r.h).get x.e = some h ∧ hl h = hl x.h
    rw [TM.get_put]
    rcases mem_snoc hx with g | rfl
    · by_cases e1 : x.e = r.e
      · rw [if_pos e1]
        obtain ⟨a', b1, b2⟩ := h.img1 x g h1
        rw [e1] at b1
        exact ⟨_, rfl, (hold _ b1).symm.trans b2⟩
      · rw [if_neg e1]; exact h.img1 x g h1
    · rw [if_pos rfl]; exact ⟨_, rfl, rfl⟩
  · have hg' : (S.images.put r.e r.h).get ee = some u := hg
    rw [TM.get_put] at hg'
    by_cases e1 : ee = r.e
    · rw [if_pos e1] at hg'
      cases hg'
      exact ⟨r, by simp, hk, e1.symm, rfl⟩
    · rw [if_neg e1] at hg'
      exact ex_snoc.2 (.inl (h.img2 ee u hg'))
theorem keep_kind5 (hk : r.k = 5) (h0 : (toldJ S r).1 = 0) : JInv n (l ++ [r]) (toldJ S r).2 := by
  have hcr : countsR r = (r.y && decide (r.c ≠ 61)) := by unfold countsR; rw [decide_eq_true hk]; rfl
  rw [toldJ_eq] at h0 ⊢
  by_cases g0 : r.y = false ∨ r.c = 61
  · rw [if_pos g0]
    refine keep_none h (by omega) (by omega) (by omega) (by omega) ?_
    rw [hcr]
    rcases g0 with g0 | g0
    · rw [g0]; rfl
    · rw [decide_eq_false (fun g => g g0)]; cases r.y <;> rfl
  rw [if_neg g0] at h0 ⊢
  have hc : countsR r = true := by
    rw [hcr]
    have h1 : r.y = true := by cases hy : r.y with | true => rfl | false => exact absurd (.inl hy) g0
    rw [h1, decide_eq_true (show r.c ≠ 61 from fun g => g0 (.inr g))]; rfl
  by_cases g1 : o10 S r = true
  · rw [if_pos g1] at h0; exact absurd h0 (show (10 : Int) ≠ 0 by omega)
  rw [if_neg g1] at h0 ⊢
  by_cases g2 : (propJ r && o11 S r) = true
  · rw [if_pos g2] at h0; exact absurd h0 (show (11 : Int) ≠ 0 by omega)
  rw [if_neg g2]
  have a := keep_led h (r := r) (by omega); have b := keep_sure h (r := r) (by omega); have c := keep_swap h (r := r) (by omega); have d := keep_ack h (r := r) (by omega)
  have holdA : ∀ x, S.answers.get (r.w, r.s) = some x → x.1 = r.c ∧ x.2.1 = r.e ∧ hl x.2.2 = hl r.h := fun x hx => by
    unfold o10 at g1
    rw [hx] at g1
    simpa using g1
  have hprop : propJ r = true ↔ r.c = 0 ∧ 0 < r.e := by unfold propJ; simp
  have holdB : propJ r = true → ∀ q, S.askers.get r.e = some q → q = (r.w, r.s) := fun hp q hq => by
    rw [hp, Bool.true_and] at g2
    unfold o11 at g2
    rw [hq] at g2
    simpa using g2
  refine ⟨h.nodes, a.1, a.2, c.1, c.2.1, c.2.2.1, c.2.2.2, d.1, d.2.1, d.2.2, fun x hx h1 => ?_, fun q v hg => ?_, fun x hx h1 h2 h3 => ?_, fun ee q hg => ?_, b.1, h.last2, b.2.1, b.2.2⟩
  · show ∃ a, (S.answers.put (r.w, r.s) (r.c, r.e, r.h)).get (x.w, x.s) = some a ∧ _
    rw [TM.get_put]
    rcases mem_snoc hx with g | rfl
    · by_cases e1 : (x.w, x.s) = (r.w, r.s)
      · rw [if_pos e1]
        obtain ⟨v, b1, b2, b3, b4⟩ := h.ans1 x g h1
        rw [e1] at b1
        obtain ⟨q1, q2, q3⟩ := holdA _ b1
        exact ⟨_, rfl, q1.symm.trans b2, q2.symm.trans b3, q3.symm.trans b4⟩
      · rw [if_neg e1]; exact h.ans1 x g h1
    · rw [if_pos rfl]; exact ⟨_, rfl, rfl, rfl, rfl⟩
  · have hg' : (S.answers.put (r.w, r.s) (r.c, r.e, r.h)).get q = some v := hg
    rw [TM.get_put] at hg'
    by_cases e1 : q = (r.w, r.s)
    · rw [if_pos e1] at hg'
      cases hg'
      exact ⟨r, by simp, hc, e1.symm, rfl, rfl, rfl⟩
    · rw [if_neg e1] at hg'
      exact ex_snoc.2 (.inl (h.ans2 q v hg'))
  · show (if propJ r = true then S.askers.put r.e (r.w, r.s) else S.askers).get x.e = some (x.w, x.s)
    by_cases hp : propJ r = true
    · rw [if_pos hp, TM.get_put]
      rcases mem_snoc hx with g | rfl
      · by_cases e1 : x.e = r.e
        · rw [if_pos e1]
          have := h.ask1 x g h1 h2 h3
          rw [e1] at this
          rw [holdB hp _ this]
        · rw [if_neg e1]; exact h.ask1 x g h1 h2 h3
      · rw [if_pos rfl]
    · rw [if_neg hp]
      rcases mem_snoc hx with g | rfl
      · exact h.ask1 x g h1 h2 h3
      · exact absurd (hprop.2 ⟨h2, h3⟩) hp
  · have hg' : (if propJ r = true then S.askers.put r.e (r.w, r.s) else S.askers).get ee = some q := hg
    by_cases hp : propJ r = true
    · rw [if_pos hp, TM.get_put] at hg'
      by_cases e1 : ee = r.e
      · rw [if_pos e1] at hg'
        cases hg'
        obtain ⟨p1, p2⟩ := hprop.1 hp
        exact ⟨r, by simp, hc, p1, p2, e1.symm, rfl⟩
      · rw [if_neg e1] at hg'
        exact ex_snoc.2 (.inl (h.ask2 ee q hg'))
    · rw [if_neg hp] at hg'
      exact ex_snoc.2 (.inl (h.ask2 ee q hg'))
theorem keep_law (h0 : (addJ S r).1 = 0) : JInv n (l ++ [r]) (addJ S r).2 := by
  unfold addJ at h0 ⊢
  by_cases a1 : r.k < 1 ∨ 7 < r.k
  · rw [if_pos a1] at h0; exact absurd h0 (show (1 : Int) ≠ 0 by omega)
  rw [if_neg a1] at h0 ⊢
  by_cases a2 : ofNode r ∧ (r.w < 1 ∨ S.n < r.w)
  · rw [if_pos a2] at h0; exact absurd h0 (show (1 : Int) ≠ 0 by omega)
  rw [if_neg a2] at h0 ⊢
  by_cases a3 : (r.k = 3 ∨ r.k = 4) ∧ r.e < 1
  · rw [if_pos a3] at h0; exact absurd h0 (show (1 : Int) ≠ 0 by omega)
  rw [if_neg a3] at h0 ⊢
  by_cases b1 : r.k = 1
  · rw [if_pos b1] at h0 ⊢; exact keep_kind1 h b1 h0
  rw [if_neg b1] at h0 ⊢
  by_cases b2 : r.k = 2
  · rw [if_pos b2] at h0 ⊢; exact keep_kind2 h b2 h0
  rw [if_neg b2] at h0 ⊢
  by_cases b3 : r.k = 3
  · rw [if_pos b3] at h0 ⊢
    have h1 : ¬ r.w < 1 := fun e => a2 ⟨.inl b3, .inl e⟩
    have h2 : ¬ S.n < r.w := fun e => a2 ⟨.inl b3, .inr e⟩
    have hn := h.nodes
    exact keep_kind3 h b3 (by omega) h0
  rw [if_neg b3] at h0 ⊢
  by_cases b4 : r.k = 4
  · rw [if_pos b4] at h0 ⊢; exact keep_kind4 h b4 h0
  rw [if_neg b4] at h0 ⊢
  by_cases b5 : r.k = 5
  · rw [if_pos b5] at h0 ⊢; exact keep_kind5 h b5 h0
  rw [if_neg b5] at h0 ⊢
  by_cases b6 : r.k = 6
  · rw [if_pos b6] at h0 ⊢
    have hs : (judJ S r).2 = S := by unfold judJ; split <;> rfl
    rw [hs]
    exact keep_none h (by omega) (by omega) (by omega) (by omega) (counts_k (by omega))
  rw [if_neg b6]
  exact keep_none h b1 b2 b3 b4 (counts_k b5)
end
end
end Go.Proofs.Ytfpbiojnbffkpaa
