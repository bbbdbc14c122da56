/-
  JRef5: the reference's Wrong, by the rows.
-/
import Derived.Test.YtfpbiojnbffkpaaC24
import Derived.Test.YtfpbiojnbffkpaaC25
import Derived.Test.YtfpbiojnbffkpaaC26
import Derived.Test.YtfpbiojnbffkpaaC10
import Derived.Test.YtfpbiojnbffkpaaC18
set_option linter.all false
set_option linter.unusedVariables false
set_option linter.unusedSimpArgs false
namespace Go.Proofs.Ytfpbiojnbffkpaa
open Go Go.DI Go.Proofs Go.Jud
noncomputable section
def clashL (r x : RowT) : Prop := x.k = 1 ∧ x.t = r.t ∧ x.w ≠ r.w
def clashA (r x : RowT) : Prop := x.k = 4 ∧ x.e = r.e ∧ x.y ≠ r.y
section
variable {b rb : Nat} {own own2 : Bool} {sp : Option Nat} {cap : Nat} {m : Mem} {rs : List RowT} {rest : List Value} {r : RowT} {nodes : Int}
set_option maxHeartbeats 4000000 in
theorem wrA_turn (hlen : rs.length ≤ 100000) (hm : m.get b = .cells own (rowsC rs ++ rest)) (hr : m.get rb = .cells own2 (rowR r)) {df : DFun} (hdf : Y.Typed Try.prog df) (k i : Nat) (hlt : i < rs.length) (a6 : Int) (v9 : Value) (x : Nat → Value) :
    (¬ clashL r rs[i] → ∃ X, codeD Try.prog kp 0 df (drawD Try.prog kp 0 df 183) 183 k (loopN Try.f14 0) (fullN 183 (up x [(0, .int .i64 nodes), (1, .slice (some ⟨b, 0, sp⟩) rs.length cap), (5, .pointer (some ⟨rb, 0, none⟩)), (6, .int .i64 a6), (8, .int .i64 (i : Int)), (9, v9)])) m = some (.normal, (fullN 183 (up X [(0, .int .i64 nodes), (1, .slice (some ⟨b, 0, sp⟩) rs.length cap), (5, .pointer (some ⟨rb, 0, none⟩)), (6, .int .i64 a6), (8, .int .i64 ((i + 1 : Nat) : Int)), (9, v9)])), m)) ∧ (clashL r rs[i] → ∃ X, codeD Try.prog kp 0 df (drawD Try.prog kp 0 df 183) 183 k (loopN Try.f14 0) (fullN 183 (up x [(0, .int .i64 nodes), (1, .slice (some ⟨b, 0, sp⟩) rs.length cap), (5, .pointer (some ⟨rb, 0, none⟩)), (6, .int .i64 a6), (8, .int .i64 (i : Int)), (9, v9)])) m = some (.ret, (fullN 183 (up X [(0, .int .i64 nodes), (1, .slice (some ⟨b, 0, sp⟩) rs.length cap), (5, .pointer (some ⟨rb, 0, none⟩)), (6, .int .i64 2), (8, .int .i64 (i : Int)), (9, v9)])), m)) := by
  have hg : rs[i]? = some rs[i] := List.getElem?_eq_getElem hlt
  have hb := (Y.step_eq Try.prog kp 0 hdf 183 k (loopN Try.f14 0) (fullN 183 (up x [(0, .int .i64 nodes), (1, .slice (some ⟨b, 0, sp⟩) rs.length cap), (5, .pointer (some ⟨rb, 0, none⟩)), (6, .int .i64 a6), (8, .int .i64 (i : Int)), (9, v9)])) m).trans (t_wrA (v9 := v9) ..)
  simp only [lt_len hlt, cond_true, onNat_c, blt_t hlt, hm, hr, cells_c, rows_k hg, rows_w hg, rows_t hg, rows_e hg, rows_y hg, row_e, row_t, row_w, row_y, Option.elim, asInt_i, asBo_b, kEq_ii, wrap_succ (show i ≤ 1000000 by omega)] at hb
  by_cases h1 : rs[i].k = 1
  rotate_left
  · rw [eqF_f h1] at hb
    exact ⟨fun _ => ⟨_, hb⟩, fun h => absurd h.1 h1⟩
  rw [eqF_t h1] at hb
  simp only [cond_true] at hb
  by_cases h2 : rs[i].t = r.t
  rotate_left
  · rw [eqF_f h2] at hb
    exact ⟨fun _ => ⟨_, hb⟩, fun h => absurd h.2.1 h2⟩
  rw [eqF_t h2] at hb
  simp only [cond_true] at hb
  by_cases h3 : rs[i].w = r.w
  · rw [eqF_t h3] at hb
    exact ⟨fun _ => ⟨_, hb⟩, fun h => absurd h3 h.2.2⟩
  · rw [eqF_f h3] at hb
    exact ⟨fun h => absurd ⟨h1, h2, h3⟩ h, fun _ => ⟨_, hb⟩⟩
set_option maxHeartbeats 4000000 in
theorem wrB_turn (hlen : rs.length ≤ 100000) (hm : m.get b = .cells own (rowsC rs ++ rest)) (hr : m.get rb = .cells own2 (rowR r)) {df : DFun} (hdf : Y.Typed Try.prog df) (k i : Nat) (hlt : i < rs.length) (a6 : Int) (v8 : Value) (x : Nat → Value) :
    (¬ clashA r rs[i] → ∃ X, codeD Try.prog kp 0 df (drawD Try.prog kp 0 df 183) 183 k (loopN Try.f14 1) (fullN 183 (up x [(0, .int .i64 nodes), (1, .slice (some ⟨b, 0, sp⟩) rs.length cap), (5, .pointer (some ⟨rb, 0, none⟩)), (6, .int .i64 a6), (8, v8), (9, .int .i64 (i : Int))])) m = some (.normal, (fullN 183 (up X [(0, .int .i64 nodes), (1, .slice (some ⟨b, 0, sp⟩) rs.length cap), (5, .pointer (some ⟨rb, 0, none⟩)), (6, .int .i64 a6), (8, v8), (9, .int .i64 ((i + 1 : Nat) : Int))])), m)) ∧ (clashA r rs[i] → ∃ X, codeD Try.prog kp 0 df (drawD Try.prog kp 0 df 183) 183 k (loopN Try.f14 1) (fullN 183 (up x [(0, .int .i64 nodes), (1, .slice (some ⟨b, 0, sp⟩) rs.length cap), (5, .pointer (some ⟨rb, 0, none⟩)), (6, .int .i64 a6), (8, v8), (9, .int .i64 (i : Int))])) m = some (.ret, (fullN 183 (up X [(0, .int .i64 nodes), (1, .slice (some ⟨b, 0, sp⟩) rs.length cap), (5, .pointer (some ⟨rb, 0, none⟩)), (6, .int .i64 9), (8, v8), (9, .int .i64 (i : Int))])), m)) := by
  have hg : rs[i]? = some rs[i] := List.getElem?_eq_getElem hlt
  have hb := (Y.step_eq Try.prog kp 0 hdf 183 k (loopN Try.f14 1) (fullN 183 (up x [(0, .int .i64 nodes), (1, .slice (some ⟨b, 0, sp⟩) rs.length cap), (5, .pointer (some ⟨rb, 0, none⟩)), (6, .int .i64 a6), (8, v8), (9, .int .i64 (i : Int))])) m).trans (t_wrB (v8 := v8) ..)
  simp only [lt_len hlt, cond_true, onNat_c, blt_t hlt, hm, hr, cells_c, rows_k hg, rows_w hg, rows_t hg, rows_e hg, rows_y hg, row_e, row_t, row_w, row_y, Option.elim, asInt_i, asBo_b, kEq_ii, wrap_succ (show i ≤ 1000000 by omega)] at hb
  by_cases h1 : rs[i].k = 4
  rotate_left
  · rw [eqF_f h1] at hb
    exact ⟨fun _ => ⟨_, hb⟩, fun h => absurd h.1 h1⟩
  rw [eqF_t h1] at hb
  simp only [cond_true] at hb
  by_cases h2 : rs[i].e = r.e
  rotate_left
  · rw [eqF_f h2] at hb
    exact ⟨fun _ => ⟨_, hb⟩, fun h => absurd h.2.1 h2⟩
  rw [eqF_t h2] at hb
  simp only [cond_true] at hb
  cases hx : rs[i].y <;> cases hy : r.y <;> rw [hx, hy] at hb
  · exact ⟨fun _ => ⟨_, hb⟩, fun h => absurd (hx.trans hy.symm) h.2.2⟩
  · exact ⟨fun h => absurd ⟨h1, h2, by rw [hx, hy]; simp⟩ h, fun _ => ⟨_, hb⟩⟩
  · exact ⟨fun h => absurd ⟨h1, h2, by rw [hx, hy]; simp⟩ h, fun _ => ⟨_, hb⟩⟩
  · exact ⟨fun _ => ⟨_, hb⟩, fun h => absurd (hx.trans hy.symm) h.2.2⟩
theorem wrA_loop (hlen : rs.length ≤ 100000) (hm : m.get b = .cells own (rowsC rs ++ rest)) (hr : m.get rb = .cells own2 (rowR r)) {df : DFun} (hdf : Y.Typed Try.prog df) (k : Nat) (a6 : Int) (v9 : Value) : ∀ (d i : Nat) (x : Nat → Value) (j : Nat), rs.length = i + d → d + 1 ≤ j →
    ((¬ ∃ y ∈ rs.drop i, clashL r y) → ∃ x', loopD (codeD Try.prog kp 0 df (drawD Try.prog kp 0 df 183) 183 k (loopN Try.f14 0)) j (fullN 183 (up x [(0, .int .i64 nodes), (1, .slice (some ⟨b, 0, sp⟩) rs.length cap), (5, .pointer (some ⟨rb, 0, none⟩)), (6, .int .i64 a6), (8, .int .i64 (i : Int)), (9, v9)])) m = some (.exit 1, (fullN 183 (up x' [(0, .int .i64 nodes), (1, .slice (some ⟨b, 0, sp⟩) rs.length cap), (5, .pointer (some ⟨rb, 0, none⟩)), (6, .int .i64 a6), (8, .int .i64 (rs.length : Int)), (9, v9)])), m)) ∧
    ((∃ y ∈ rs.drop i, clashL r y) → ∃ x' w, loopD (codeD Try.prog kp 0 df (drawD Try.prog kp 0 df 183) 183 k (loopN Try.f14 0)) j (fullN 183 (up x [(0, .int .i64 nodes), (1, .slice (some ⟨b, 0, sp⟩) rs.length cap), (5, .pointer (some ⟨rb, 0, none⟩)), (6, .int .i64 a6), (8, .int .i64 (i : Int)), (9, v9)])) m = some (.ret, (fullN 183 (up x' [(0, .int .i64 nodes), (1, .slice (some ⟨b, 0, sp⟩) rs.length cap), (5, .pointer (some ⟨rb, 0, none⟩)), (6, .int .i64 2), (8, .int .i64 w), (9, v9)])), m))
  | 0, i, x, j, hi, hj => by
    obtain ⟨j, rfl⟩ : ∃ j', j = j' + 1 := ⟨j - 1, by omega⟩
    obtain rfl : i = rs.length := by omega
    have hb := (Y.step_eq Try.prog kp 0 hdf 183 k (loopN Try.f14 0) (fullN 183 (up x [(0, .int .i64 nodes), (1, .slice (some ⟨b, 0, sp⟩) rs.length cap), (5, .pointer (some ⟨rb, 0, none⟩)), (6, .int .i64 a6), (8, .int .i64 (rs.length : Int)), (9, v9)])) m).trans (t_wrA (v9 := v9) ..)
    simp only [ge_len (Nat.lt_irrefl _), cond_false] at hb
    have hs := loopD_stop j hb (by simp)
    rw [List.drop_length]
    exact ⟨fun _ => ⟨_, hs⟩, fun h => by obtain ⟨y, hy, _⟩ := h; simp at hy⟩
  | d + 1, i, x, j, hi, hj => by
    obtain ⟨j, rfl⟩ : ∃ j', j = j' + 1 := ⟨j - 1, by omega⟩
    have hlt : i < rs.length := by omega
    obtain ⟨T1, T2⟩ := wrA_turn (nodes := nodes) (b := b) (rb := rb) (sp := sp) (cap := cap) hlen hm hr hdf k i hlt a6 v9 x
    have hd : rs.drop i = rs[i] :: rs.drop (i + 1) := List.drop_eq_getElem_cons hlt
    by_cases hc : clashL r rs[i]
    · obtain ⟨X, hX⟩ := T2 hc
      exact ⟨fun h => absurd ⟨rs[i], by rw [hd]; exact List.mem_cons_self .., hc⟩ h, fun _ => ⟨X, i, loopD_stop j hX (by simp)⟩⟩
    · obtain ⟨X, hX⟩ := T1 hc
      obtain ⟨I1, I2⟩ := wrA_loop hlen hm hr hdf k a6 v9 d (i + 1) X j (by omega) (by omega)
      refine ⟨fun h => ?_, fun h => ?_⟩
      · obtain ⟨x', hx⟩ := I1 (fun ⟨y, hy, hcy⟩ => h ⟨y, by rw [hd]; exact List.mem_cons_of_mem _ hy, hcy⟩)
        exact ⟨x', (loopD_next j hX).trans hx⟩
      · obtain ⟨x', w, hx⟩ := I2 (by
          obtain ⟨y, hy, hcy⟩ := h
          rw [hd] at hy
          rcases List.mem_cons.1 hy with rfl | hy
          · exact absurd hcy hc
          · exact ⟨y, hy, hcy⟩)
        exact ⟨x', w, (loopD_next j hX).trans hx⟩
theorem wrB_loop (hlen : rs.length ≤ 100000) (hm : m.get b = .cells own (rowsC rs ++ rest)) (hr : m.get rb = .cells own2 (rowR r)) {df : DFun} (hdf : Y.Typed Try.prog df) (k : Nat) (a6 : Int) (v8 : Value) : ∀ (d i : Nat) (x : Nat → Value) (j : Nat), rs.length = i + d → d + 1 ≤ j →
    ((¬ ∃ y ∈ rs.drop i, clashA r y) → ∃ x', loopD (codeD Try.prog kp 0 df (drawD Try.prog kp 0 df 183) 183 k (loopN Try.f14 1)) j (fullN 183 (up x [(0, .int .i64 nodes), (1, .slice (some ⟨b, 0, sp⟩) rs.length cap), (5, .pointer (some ⟨rb, 0, none⟩)), (6, .int .i64 a6), (8, v8), (9, .int .i64 (i : Int))])) m = some (.exit 3, (fullN 183 (up x' [(0, .int .i64 nodes), (1, .slice (some ⟨b, 0, sp⟩) rs.length cap), (5, .pointer (some ⟨rb, 0, none⟩)), (6, .int .i64 a6), (8, v8), (9, .int .i64 (rs.length : Int))])), m)) ∧
    ((∃ y ∈ rs.drop i, clashA r y) → ∃ x' w, loopD (codeD Try.prog kp 0 df (drawD Try.prog kp 0 df 183) 183 k (loopN Try.f14 1)) j (fullN 183 (up x [(0, .int .i64 nodes), (1, .slice (some ⟨b, 0, sp⟩) rs.length cap), (5, .pointer (some ⟨rb, 0, none⟩)), (6, .int .i64 a6), (8, v8), (9, .int .i64 (i : Int))])) m = some (.ret, (fullN 183 (up x' [(0, .int .i64 nodes), (1, .slice (some ⟨b, 0, sp⟩) rs.length cap), (5, .pointer (some ⟨rb, 0, none⟩)), (6, .int .i64 9), (8, v8), (9, .int .i64 w)])), m))
  | 0, i, x, j, hi, hj => by
    obtain ⟨j, rfl⟩ : ∃ j', j = j' + 1 := ⟨j - 1, by omega⟩
    obtain rfl : i = rs.length := by omega
    have hb := (Y.step_eq Try.prog kp 0 hdf 183 k (loopN Try.f14 1) (fullN 183 (up x [(0, .int .i64 nodes), (1, .slice (some ⟨b, 0, sp⟩) rs.length cap), (5, .pointer (some ⟨rb, 0, none⟩)), (6, .int .i64 a6), (8, v8), (9, .int .i64 (rs.length : Int))])) m).trans (t_wrB (v8 := v8) ..)
    simp only [ge_len (Nat.lt_irrefl _), cond_false] at hb
    have hs := loopD_stop j hb (by simp)
    rw [List.drop_length]
    exact ⟨fun _ => ⟨_, hs⟩, fun h => by obtain ⟨y, hy, _⟩ := h; simp at hy⟩
  | d + 1, i, x, j, hi, hj => by
    obtain ⟨j, rfl⟩ : ∃ j', j = j' + 1 := ⟨j - 1, by omega⟩
    have hlt : i < rs.length := by omega
    obtain ⟨T1, T2⟩ := wrB_turn (nodes := nodes) (b := b) (rb := rb) (sp := sp) (cap := cap) hlen hm hr hdf k i hlt a6 v8 x
    have hd : rs.drop i = rs[i] :: rs.drop (i + 1) := List.drop_eq_getElem_cons hlt
    by_cases hc : clashA r rs[i]
    · obtain ⟨X, hX⟩ := T2 hc
      exact ⟨fun h => absurd ⟨rs[i], by rw [hd]; exact List.mem_cons_self .., hc⟩ h, fun _ => ⟨X, i, loopD_stop j hX (by simp)⟩⟩
    · obtain ⟨X, hX⟩ := T1 hc
      obtain ⟨I1, I2⟩ := wrB_loop hlen hm hr hdf k a6 v8 d (i + 1) X j (by omega) (by omega)
      refine ⟨fun h => ?_, fun h => ?_⟩
      · obtain ⟨x', hx⟩ := I1 (fun ⟨y, hy, hcy⟩ => h ⟨y, by rw [hd]; exact List.mem_cons_of_mem _ hy, hcy⟩)
        exact ⟨x', (loopD_next j hX).trans hx⟩
      · obtain ⟨x', w, hx⟩ := I2 (by
          obtain ⟨y, hy, hcy⟩ := h
          rw [hd] at hy
          rcases List.mem_cons.1 hy with rfl | hy
          · exact absurd hcy hc
          · exact ⟨y, hy, hcy⟩)
        exact ⟨x', w, (loopD_next j hX).trans hx⟩
end
set_option maxHeartbeats 8000000 in
theorem wrong_run {own : Bool} {sp : Option Nat} {cap : Nat} {rs : List RowT} {rest : List Value} {r : RowT} {nodes : Int} (hlen : rs.length ≤ 100000) (hn1 : 1 ≤ nodes) (hn4 : nodes ≤ 4) (hi : -9223372036854775808 ≤ r.i ∧ r.i ≤ 9223372036854775807)
    (o : Orc) (k : Nat) (hk : rs.length + 12 ≤ k) (ho : ∀ f a m, f = 29 ∨ f = 30 ∨ f = 31 ∨ f = 42 ∨ f = 43 → o f a m = none) (ho15 : ∀ a c n m, o 15 [.slice (some a) rs.length c, .int .i64 n] m = none) (ho14 : ∀ n a l c x m, o 14 [n, .slice (some a) l c, x] m = none) : ∃ m', callN Try.prog kp 0 o k 14 [.int .i64 nodes, .slice (some ⟨0, 0, sp⟩) rs.length cap, .agg ⟨rowR r⟩] (mO own (rowsC rs ++ rest)) = some (.int .i64 (wrongR nodes rs r), m') ∧ Ext (mO own (rowsC rs ++ rest)) m' := by
  obtain ⟨k, rfl⟩ : ∃ k', k = k' + 1 := ⟨k - 1, by omega⟩
  have hT := Y.callN_typed Try.prog kp 0 o k
  have hm : (mO own (rowsC rs ++ rest)).get 0 = .cells own (rowsC rs ++ rest) := Mem.get_push_same _ _
  have hbm : 0 < (mO own (rowsC rs ++ rest)).size := by show 0 < 1; omega
  have hsz : (mO own (rowsC rs ++ rest)).size = 1 := rfl
  have e1 : Ext (mO own (rowsC rs ++ rest)) ((mO own (rowsC rs ++ rest)).push (.cells true (rowR r))) := Ext.push _ _
  have hm1 : ((mO own (rowsC rs ++ rest)).push (.cells true (rowR r))).get 0 = .cells own (rowsC rs ++ rest) := (e1.get 0 hbm).trans hm
  have hr1 : ((mO own (rowsC rs ++ rest)).push (.cells true (rowR r))).get 1 = .cells true (rowR r) := Mem.get_push_same _ _
  have hb1 : 0 < ((mO own (rowsC rs ++ rest)).push (.cells true (rowR r))).size := by simp
  have hep : ∀ node, callN Try.prog kp 0 o k 15 [.slice (some ⟨0, 0, sp⟩) rs.length cap, .int .i64 node] ((mO own (rowsC rs ++ rest)).push (.cells true (rowR r))) = some (.int .i64 (epochR rs node 0), (mO own (rowsC rs ++ rest)).push (.cells true (rowR r))) := fun node => epoch_run hlen hm1 o node k (by omega) ho15
  have hsu : callN Try.prog kp 0 o k 29 [.slice (some ⟨0, 0, sp⟩) rs.length cap, .agg ⟨rowR r⟩] ((mO own (rowsC rs ++ rest)).push (.cells true (rowR r))) = some (.int .i64 (sureR rs r), ((mO own (rowsC rs ++ rest)).push (.cells true (rowR r))).push (.cells true (rowR r))) := sure_run hlen hm1 hb1 hi o k (by omega) (fun a m => ho 29 a m (by decide))
  have hsw : callN Try.prog kp 0 o k 30 [.int .i64 nodes, .slice (some ⟨0, 0, sp⟩) rs.length cap, .agg ⟨rowR r⟩] ((mO own (rowsC rs ++ rest)).push (.cells true (rowR r))) = some (.int .i64 (swappedR nodes rs r), ((mO own (rowsC rs ++ rest)).push (.cells true (rowR r))).push (.cells true (rowR r))) := swapped_run hlen hm1 hb1 hn1 hn4 o k (by omega) (fun a m => ho 30 a m (by decide)) ho15 (fun a m => ho 42 a m (by decide))
  obtain ⟨mt, hto, et⟩ := told_run (sp := sp) (cap := cap) (r := r) hlen hm1 hb1 o k (by omega) (fun a m => ho 31 a m (by decide)) (fun a m => ho 43 a m (by decide))
  have fin : ∀ (v : Int) (m' : Mem), bodyN Try.prog kp 0 (callN Try.prog kp 0 o k) k 14 [.int .i64 nodes, .slice (some ⟨0, 0, sp⟩) rs.length cap, .agg ⟨rowR r⟩] (mO own (rowsC rs ++ rest)) = some (.int .i64 v, m') → Ext (mO own (rowsC rs ++ rest)) m' → ∃ m', callN Try.prog kp 0 o (k + 1) 14 [.int .i64 nodes, .slice (some ⟨0, 0, sp⟩) rs.length cap, .agg ⟨rowR r⟩] (mO own (rowsC rs ++ rest)) = some (.int .i64 v, m') ∧ Ext (mO own (rowsC rs ++ rest)) m' := fun v m' h e => by
    refine ⟨m', ?_, e⟩
    simp only [callN, ho14]
    exact (congrArg (filtR Try.prog _) h).trans (filt_i _ _ (by kernel_rfl))
  have hB0 := Y.body_eq (G := 0) (K := kp) hT (k := k) (c := bodyOf Try.f14) (fn := Try.f14) 183 Try.func14 (by kernel_rfl) [.int .i64 nodes, .slice (some ⟨0, 0, sp⟩) rs.length cap, .agg ⟨rowR r⟩] (by kernel_rfl) (mO own (rowsC rs ++ rest))
  have fin1 : ∀ (v : Int), bodyN Try.prog kp 0 (callN Try.prog kp 0 o k) k 14 [.int .i64 nodes, .slice (some ⟨0, 0, sp⟩) rs.length cap, .agg ⟨rowR r⟩] (mO own (rowsC rs ++ rest)) = some (.int .i64 v, (mO own (rowsC rs ++ rest)).push (.cells true (rowR r))) → ∃ m', callN Try.prog kp 0 o (k + 1) 14 [.int .i64 nodes, .slice (some ⟨0, 0, sp⟩) rs.length cap, .agg ⟨rowR r⟩] (mO own (rowsC rs ++ rest)) = some (.int .i64 v, m') ∧ Ext (mO own (rowsC rs ++ rest)) m' := fun v h => fin v _ h e1
  unfold wrongR
  by_cases a1 : r.k < 1 ∨ 7 < r.k
  · rw [if_pos (.inl a1)]
    rcases a1 with g | g
    · rcases int_low g with hk0 | ⟨a, hk0⟩
      · skip
        have hrk : rowR r = rowC 0 r.w r.t r.i r.e r.s r.st r.c r.tr r.y r.h r.v := by unfold rowR; rw [hk0]
        have hrw : [Value.int .i64 0, .int .i64 r.w, .int .i64 r.t, .int .i64 r.i, .int .i64 r.e, .int .i64 r.s, .int .i64 r.st, .int .i64 r.c, .int .i64 r.tr, .bool r.y] ++ hashC r.h ++ [.int .u64 r.v] = rowR r := hrk.symm
        have hB := hB0.trans ((congrArg (fun z => Y.codeF (bodyOf Try.f14) Try.prog kp 0 (Y.cfT Try.prog (Y.cfOf (callN Try.prog kp 0 o k))) (Y.lpOf Try.prog kp 0 (callN Try.prog kp 0 o k) 183) 183 k (fullN 183 (argX [.int .i64 nodes, .slice (some ⟨0, 0, sp⟩) rs.length cap, .agg ⟨z⟩])) (mO own (rowsC rs ++ rest)) (Y.retF Try.prog Try.f14 fun v m => some (v, m))) hrk).trans (t_wr0 ..))
        rw [hrw] at hB
        exact fin1 _ hB
      · skip
        have hrk : rowR r = rowC (.negSucc a) r.w r.t r.i r.e r.s r.st r.c r.tr r.y r.h r.v := by unfold rowR; rw [hk0]
        have hrw : [Value.int .i64 (.negSucc a), .int .i64 r.w, .int .i64 r.t, .int .i64 r.i, .int .i64 r.e, .int .i64 r.s, .int .i64 r.st, .int .i64 r.c, .int .i64 r.tr, .bool r.y] ++ hashC r.h ++ [.int .u64 r.v] = rowR r := hrk.symm
        have hB := hB0.trans ((congrArg (fun z => Y.codeF (bodyOf Try.f14) Try.prog kp 0 (Y.cfT Try.prog (Y.cfOf (callN Try.prog kp 0 o k))) (Y.lpOf Try.prog kp 0 (callN Try.prog kp 0 o k) 183) 183 k (fullN 183 (argX [.int .i64 nodes, .slice (some ⟨0, 0, sp⟩) rs.length cap, .agg ⟨z⟩])) (mO own (rowsC rs ++ rest)) (Y.retF Try.prog Try.f14 fun v m => some (v, m))) hrk).trans (t_wrn ..))
        rw [hrw] at hB
        exact fin1 _ hB
    · obtain ⟨a, hk0⟩ := int_high 7 g
      have hrk : rowR r = rowC (.ofNat (a + 8)) r.w r.t r.i r.e r.s r.st r.c r.tr r.y r.h r.v := by unfold rowR; rw [hk0]
      have hrw : [Value.int .i64 (.ofNat (a + 8)), .int .i64 r.w, .int .i64 r.t, .int .i64 r.i, .int .i64 r.e, .int .i64 r.s, .int .i64 r.st, .int .i64 r.c, .int .i64 r.tr, .bool r.y] ++ hashC r.h ++ [.int .u64 r.v] = rowR r := hrk.symm
      have hB := hB0.trans ((congrArg (fun z => Y.codeF (bodyOf Try.f14) Try.prog kp 0 (Y.cfT Try.prog (Y.cfOf (callN Try.prog kp 0 o k))) (Y.lpOf Try.prog kp 0 (callN Try.prog kp 0 o k) 183) 183 k (fullN 183 (argX [.int .i64 nodes, .slice (some ⟨0, 0, sp⟩) rs.length cap, .agg ⟨z⟩])) (mO own (rowsC rs ++ rest)) (Y.retF Try.prog Try.f14 fun v m => some (v, m))) hrk).trans (t_wrp ..))
      rw [hrw] at hB
      exact fin1 _ hB
  have hk : r.k = 1 ∨ r.k = 2 ∨ r.k = 3 ∨ r.k = 4 ∨ r.k = 5 ∨ r.k = 6 ∨ r.k = 7 := by omega
  have notN : ¬ (r.k = 3 ∨ r.k = 4 ∨ r.k = 6) → ¬ ((r.k < 1 ∨ 7 < r.k) ∨ ofNode r ∧ (r.w < 1 ∨ nodes < r.w)) := fun g e => e.elim a1 (fun e => g e.1)
  rcases hk with hk | hk | hk | hk | hk | hk | hk
  · have hk0 : r.k = 1 := hk
    have hrk : rowR r = rowC 1 r.w r.t r.i r.e r.s r.st r.c r.tr r.y r.h r.v := by unfold rowR; rw [hk0]
    have hrw : [Value.int .i64 1, .int .i64 r.w, .int .i64 r.t, .int .i64 r.i, .int .i64 r.e, .int .i64 r.s, .int .i64 r.st, .int .i64 r.c, .int .i64 r.tr, .bool r.y] ++ hashC r.h ++ [.int .u64 r.v] = rowR r := hrk.symm
    have hB := hB0.trans ((congrArg (fun z => Y.codeF (bodyOf Try.f14) Try.prog kp 0 (Y.cfT Try.prog (Y.cfOf (callN Try.prog kp 0 o k))) (Y.lpOf Try.prog kp 0 (callN Try.prog kp 0 o k) 183) 183 k (fullN 183 (argX [.int .i64 nodes, .slice (some ⟨0, 0, sp⟩) rs.length cap, .agg ⟨z⟩])) (mO own (rowsC rs ++ rest)) (Y.retF Try.prog Try.f14 fun v m => some (v, m))) hrk).trans (t_wr1 ..))
    rw [hrw] at hB
    rw [if_neg (notN (by omega)), if_neg (by omega), if_pos hk0]
    rw [Y.lpOf_eq, Y.loopC_body] at hB
    obtain ⟨A1, A2⟩ := wrA_loop (nodes := nodes) (b := 0) (rb := 1) (sp := sp) (cap := cap) hlen hm1 hr1 hT k 0 (.tuple ⟨[]⟩) rs.length 0 _ k (by omega) (by omega)
    rw [List.drop_zero] at A1 A2
    by_cases g : ∃ x ∈ rs, x.k = 1 ∧ x.t = r.t ∧ x.w ≠ r.w
    · obtain ⟨x', v, hx⟩ := A2 g
      rw [if_pos g]
      exact fin1 _ (hB.trans ((congrArg (fun z => Y.onE z _) hx).trans ((Y.onE_some ..).trans (t_wrA_r ..))))
    · obtain ⟨x', hx⟩ := A1 g
      rw [if_neg g]
      exact fin1 _ (hB.trans ((congrArg (fun z => Y.onE z _) hx).trans ((Y.onE_some ..).trans (t_wrA_o ..))))
  · have hk0 : r.k = 2 := hk
    have hrk : rowR r = rowC 2 r.w r.t r.i r.e r.s r.st r.c r.tr r.y r.h r.v := by unfold rowR; rw [hk0]
    have hrw : [Value.int .i64 2, .int .i64 r.w, .int .i64 r.t, .int .i64 r.i, .int .i64 r.e, .int .i64 r.s, .int .i64 r.st, .int .i64 r.c, .int .i64 r.tr, .bool r.y] ++ hashC r.h ++ [.int .u64 r.v] = rowR r := hrk.symm
    have hB := hB0.trans ((congrArg (fun z => Y.codeF (bodyOf Try.f14) Try.prog kp 0 (Y.cfT Try.prog (Y.cfOf (callN Try.prog kp 0 o k))) (Y.lpOf Try.prog kp 0 (callN Try.prog kp 0 o k) 183) 183 k (fullN 183 (argX [.int .i64 nodes, .slice (some ⟨0, 0, sp⟩) rs.length cap, .agg ⟨z⟩])) (mO own (rowsC rs ++ rest)) (Y.retF Try.prog Try.f14 fun v m => some (v, m))) hrk).trans (t_wr2 ..))
    rw [hrw] at hB
    simp only [hr1, cells_c, row_k, row_w, row_e, row_c, row_tr, Option.elim, asInt_i, kEq_ii, cond_true, cfOf_at, hep, hsu, hsw, hto, onV, eqF_t (rfl : r.e = r.e)] at hB
    rw [if_neg (notN (by omega)), if_neg (by omega), if_neg (by omega), if_pos hk0]
    exact fin _ _ hB (e1.trans (Ext.push _ _))
  · have hk0 : r.k = 3 := hk
    have hrk : rowR r = rowC 3 r.w r.t r.i r.e r.s r.st r.c r.tr r.y r.h r.v := by unfold rowR; rw [hk0]
    have hrw : [Value.int .i64 3, .int .i64 r.w, .int .i64 r.t, .int .i64 r.i, .int .i64 r.e, .int .i64 r.s, .int .i64 r.st, .int .i64 r.c, .int .i64 r.tr, .bool r.y] ++ hashC r.h ++ [.int .u64 r.v] = rowR r := hrk.symm
    have hB := hB0.trans ((congrArg (fun z => Y.codeF (bodyOf Try.f14) Try.prog kp 0 (Y.cfT Try.prog (Y.cfOf (callN Try.prog kp 0 o k))) (Y.lpOf Try.prog kp 0 (callN Try.prog kp 0 o k) 183) 183 k (fullN 183 (argX [.int .i64 nodes, .slice (some ⟨0, 0, sp⟩) rs.length cap, .agg ⟨z⟩])) (mO own (rowsC rs ++ rest)) (Y.retF Try.prog Try.f14 fun v m => some (v, m))) hrk).trans (t_wr3 ..))
    rw [hrw] at hB
    simp only [hr1, cells_c, row_k, row_w, row_e, row_c, row_tr, Option.elim, asInt_i, kEq_ii, cond_true, cfOf_at, hep, hsu, hsw, hto, onV, eqF_t (rfl : r.e = r.e)] at hB
    by_cases w1 : r.w < 1
    · rw [ltF_t w1] at hB
      rw [if_pos (.inr ⟨.inl hk0, .inl w1⟩)]
      exact fin1 _ hB
    by_cases w2 : nodes < r.w
    · rw [ltF_f w1, ltF_t w2] at hB
      rw [if_pos (.inr ⟨.inl hk0, .inr w2⟩)]
      exact fin1 _ hB
    rw [ltF_f w1, ltF_f w2] at hB
    rw [if_neg (fun e => e.elim a1 (fun e => e.2.elim w1 w2))]
    simp only [cond_true, cond_false] at hB
    by_cases w3 : r.e < 1
    · rw [ltF_t w3] at hB
      rw [if_pos ⟨.inl hk0, w3⟩]
      exact fin1 _ hB
    rw [ltF_f w3] at hB
    rw [if_neg (fun e => w3 e.2), if_neg (by omega), if_neg (by omega), if_pos hk0]
    exact fin _ _ hB (e1.trans (Ext.push _ _))
  · have hk0 : r.k = 4 := hk
    have hrk : rowR r = rowC 4 r.w r.t r.i r.e r.s r.st r.c r.tr r.y r.h r.v := by unfold rowR; rw [hk0]
    have hrw : [Value.int .i64 4, .int .i64 r.w, .int .i64 r.t, .int .i64 r.i, .int .i64 r.e, .int .i64 r.s, .int .i64 r.st, .int .i64 r.c, .int .i64 r.tr, .bool r.y] ++ hashC r.h ++ [.int .u64 r.v] = rowR r := hrk.symm
    have hB := hB0.trans ((congrArg (fun z => Y.codeF (bodyOf Try.f14) Try.prog kp 0 (Y.cfT Try.prog (Y.cfOf (callN Try.prog kp 0 o k))) (Y.lpOf Try.prog kp 0 (callN Try.prog kp 0 o k) 183) 183 k (fullN 183 (argX [.int .i64 nodes, .slice (some ⟨0, 0, sp⟩) rs.length cap, .agg ⟨z⟩])) (mO own (rowsC rs ++ rest)) (Y.retF Try.prog Try.f14 fun v m => some (v, m))) hrk).trans (t_wr4 ..))
    rw [hrw] at hB
    simp only [hr1, cells_c, row_k, row_w, row_e, row_c, row_tr, Option.elim, asInt_i, kEq_ii, cond_true, cfOf_at, hep, hsu, hsw, hto, onV, eqF_t (rfl : r.e = r.e)] at hB
    by_cases w1 : r.w < 1
    · rw [ltF_t w1] at hB
      rw [if_pos (.inr ⟨.inr (.inl hk0), .inl w1⟩)]
      exact fin1 _ hB
    by_cases w2 : nodes < r.w
    · rw [ltF_f w1, ltF_t w2] at hB
      rw [if_pos (.inr ⟨.inr (.inl hk0), .inr w2⟩)]
      exact fin1 _ hB
    rw [ltF_f w1, ltF_f w2] at hB
    rw [if_neg (fun e => e.elim a1 (fun e => e.2.elim w1 w2))]
    simp only [cond_true, cond_false] at hB
    by_cases w3 : r.e < 1
    · rw [ltF_t w3] at hB
      rw [if_pos ⟨.inr hk0, w3⟩]
      exact fin1 _ hB
    rw [ltF_f w3] at hB
    rw [if_neg (fun e => w3 e.2), if_neg (by omega), if_neg (by omega), if_neg (by omega), if_pos hk0]
    by_cases w4 : r.e ≤ epochR rs r.w 0
    · rw [ltF_f (show ¬ epochR rs r.w 0 < r.e by omega)] at hB
      rw [if_pos w4]
      exact fin1 _ hB
    rw [ltF_t (show epochR rs r.w 0 < r.e by omega)] at hB
    rw [if_neg w4]
    simp only [cond_true, cond_false] at hB
    rw [Y.lpOf_eq, Y.loopC_body] at hB
    obtain ⟨A1, A2⟩ := wrB_loop (nodes := nodes) (b := 0) (rb := 1) (sp := sp) (cap := cap) hlen hm1 hr1 hT k 0 (.tuple ⟨[]⟩) rs.length 0 _ k (by omega) (by omega)
    rw [List.drop_zero] at A1 A2
    by_cases g : ∃ x ∈ rs, x.k = 4 ∧ x.e = r.e ∧ x.y ≠ r.y
    · obtain ⟨x', v, hx⟩ := A2 g
      rw [if_pos g]
      exact fin1 _ (hB.trans ((congrArg (fun z => Y.onE z _) hx).trans ((Y.onE_some ..).trans (t_wrB_r ..))))
    · obtain ⟨x', hx⟩ := A1 g
      rw [if_neg g]
      exact fin1 _ (hB.trans ((congrArg (fun z => Y.onE z _) hx).trans ((Y.onE_some ..).trans (t_wrB_o ..))))
  · have hk0 : r.k = 5 := hk
    have hrk : rowR r = rowC 5 r.w r.t r.i r.e r.s r.st r.c r.tr r.y r.h r.v := by unfold rowR; rw [hk0]
    have hrw : [Value.int .i64 5, .int .i64 r.w, .int .i64 r.t, .int .i64 r.i, .int .i64 r.e, .int .i64 r.s, .int .i64 r.st, .int .i64 r.c, .int .i64 r.tr, .bool r.y] ++ hashC r.h ++ [.int .u64 r.v] = rowR r := hrk.symm
    have hB := hB0.trans ((congrArg (fun z => Y.codeF (bodyOf Try.f14) Try.prog kp 0 (Y.cfT Try.prog (Y.cfOf (callN Try.prog kp 0 o k))) (Y.lpOf Try.prog kp 0 (callN Try.prog kp 0 o k) 183) 183 k (fullN 183 (argX [.int .i64 nodes, .slice (some ⟨0, 0, sp⟩) rs.length cap, .agg ⟨z⟩])) (mO own (rowsC rs ++ rest)) (Y.retF Try.prog Try.f14 fun v m => some (v, m))) hrk).trans (t_wr5 ..))
    rw [hrw] at hB
    simp only [hr1, cells_c, row_k, row_w, row_e, row_c, row_tr, Option.elim, asInt_i, kEq_ii, cond_true, cfOf_at, hep, hsu, hsw, hto, onV, eqF_t (rfl : r.e = r.e)] at hB
    rw [if_neg (notN (by omega)), if_neg (by omega), if_neg (by omega), if_neg (by omega), if_neg (by omega), if_neg (by omega), if_pos hk0]
    exact fin _ _ hB (e1.trans et)
  · have hk0 : r.k = 6 := hk
    have hrk : rowR r = rowC 6 r.w r.t r.i r.e r.s r.st r.c r.tr r.y r.h r.v := by unfold rowR; rw [hk0]
    have hrw : [Value.int .i64 6, .int .i64 r.w, .int .i64 r.t, .int .i64 r.i, .int .i64 r.e, .int .i64 r.s, .int .i64 r.st, .int .i64 r.c, .int .i64 r.tr, .bool r.y] ++ hashC r.h ++ [.int .u64 r.v] = rowR r := hrk.symm
    have hB := hB0.trans ((congrArg (fun z => Y.codeF (bodyOf Try.f14) Try.prog kp 0 (Y.cfT Try.prog (Y.cfOf (callN Try.prog kp 0 o k))) (Y.lpOf Try.prog kp 0 (callN Try.prog kp 0 o k) 183) 183 k (fullN 183 (argX [.int .i64 nodes, .slice (some ⟨0, 0, sp⟩) rs.length cap, .agg ⟨z⟩])) (mO own (rowsC rs ++ rest)) (Y.retF Try.prog Try.f14 fun v m => some (v, m))) hrk).trans (t_wr6 ..))
    rw [hrw] at hB
    simp only [hr1, cells_c, row_k, row_w, row_e, row_c, row_tr, Option.elim, asInt_i, kEq_ii, cond_true, cfOf_at, hep, hsu, hsw, hto, onV, eqF_t (rfl : r.e = r.e)] at hB
    by_cases w1 : r.w < 1
    · rw [ltF_t w1] at hB
      rw [if_pos (.inr ⟨.inr (.inr hk0), .inl w1⟩)]
      exact fin1 _ hB
    by_cases w2 : nodes < r.w
    · rw [ltF_f w1, ltF_t w2] at hB
      rw [if_pos (.inr ⟨.inr (.inr hk0), .inr w2⟩)]
      exact fin1 _ hB
    rw [ltF_f w1, ltF_f w2] at hB
    rw [if_neg (fun e => e.elim a1 (fun e => e.2.elim w1 w2))]
    simp only [cond_true, cond_false] at hB
    rw [if_neg (by omega), if_neg (by omega), if_neg (by omega), if_neg (by omega), if_neg (by omega), if_neg (by omega), if_pos hk0]
    by_cases w4 : r.e = epochR rs r.w 0
    rotate_left
    · rw [eqF_f w4] at hB
      rw [if_pos w4]
      exact fin1 _ hB
    rw [eqF_t w4] at hB
    rw [if_neg (fun g => g w4)]
    simp only [cond_true, cond_false] at hB
    by_cases c0 : r.c = 0
    · rw [eqF_t c0] at hB
      by_cases c1 : r.e = 0
      · rw [eqF_t c1] at hB
        rw [if_pos (.inl ⟨c0, .inl c1⟩)]
        exact fin1 _ hB
      · rw [eqF_f c1] at hB
        by_cases c2 : r.tr = 0
        · rw [eqF_t c2, eqF_f (show r.c ≠ 6 by omega)] at hB
          rw [if_neg (by omega)]
          exact fin1 _ hB
        · rw [eqF_f c2] at hB
          rw [if_pos (.inl ⟨c0, .inr c2⟩)]
          exact fin1 _ hB
    · rw [eqF_f c0] at hB
      by_cases c1 : r.c = 6
      · rw [eqF_t c1] at hB
        by_cases c2 : r.e = 0
        · rw [eqF_t c2] at hB
          rw [if_neg (by omega)]
          exact fin1 _ hB
        · rw [eqF_f c2] at hB
          rw [if_pos (.inr ⟨c1, c2⟩)]
          exact fin1 _ hB
      · rw [eqF_f c1] at hB
        rw [if_neg (by omega)]
        exact fin1 _ hB
  · have hk0 : r.k = 7 := hk
    have hrk : rowR r = rowC 7 r.w r.t r.i r.e r.s r.st r.c r.tr r.y r.h r.v := by unfold rowR; rw [hk0]
    have hrw : [Value.int .i64 7, .int .i64 r.w, .int .i64 r.t, .int .i64 r.i, .int .i64 r.e, .int .i64 r.s, .int .i64 r.st, .int .i64 r.c, .int .i64 r.tr, .bool r.y] ++ hashC r.h ++ [.int .u64 r.v] = rowR r := hrk.symm
    have hB := hB0.trans ((congrArg (fun z => Y.codeF (bodyOf Try.f14) Try.prog kp 0 (Y.cfT Try.prog (Y.cfOf (callN Try.prog kp 0 o k))) (Y.lpOf Try.prog kp 0 (callN Try.prog kp 0 o k) 183) 183 k (fullN 183 (argX [.int .i64 nodes, .slice (some ⟨0, 0, sp⟩) rs.length cap, .agg ⟨z⟩])) (mO own (rowsC rs ++ rest)) (Y.retF Try.prog Try.f14 fun v m => some (v, m))) hrk).trans (t_wr7 ..))
    rw [hrw] at hB
    rw [if_neg (notN (by omega)), if_neg (by omega), if_neg (by omega), if_neg (by omega), if_neg (by omega), if_neg (by omega), if_neg (by omega), if_neg (by omega)]
    exact fin1 _ hB
end
end Go.Proofs.Ytfpbiojnbffkpaa
namespace Go.Proofs.Ytfpbiojnbffkpaa
open Go Go.DI Go.Proofs Go.Jud
noncomputable section
variable {α : Type}
set_option maxHeartbeats 4000000 in
theorem t_row (kk : Int) (w t ix e s st c tr : Int) (y : Bool) (h : Nat → Int) (v : Int) : Y.callK Try.prog kp 0 20 11 [.agg ⟨rowC kk w t ix e s st c tr y h v⟩] m0 (fun v _ => some v) =
  (some (.agg ⟨([(.int .i64 kk), (.int .i64 w), (.int .i64 t), (.int .i64 ix), (.int .i64 e), (.int .i64 s), (.int .i64 st), (.int .i64 c), (.int .i64 tr), (.bool y)] ++ hashC h ++ [(.int .u64 v)])⟩)) := by kernel_rfl
end
end Go.Proofs.Ytfpbiojnbffkpaa
namespace Go.Proofs.Ytfpbiojnbffkpaa
open Go Go.DI Go.Proofs Go.Jud
noncomputable section
def growM (M : Mem) (d : Nat) : Mem := ⟨fun j => if j < M.size then M.get j else .none, .nil, M.size + d⟩
theorem growM_get (M : Mem) (d j : Nat) : (growM M d).get j = if j < M.size then M.get j else .none := by simp only [Mem.get, growM, Tr.get_nil]
open Classical in
def runP (f : FuncId) (args : List Value) (M : Mem) : Option (Value × Mem) :=
  if M.top ∧ ∀ x ∈ args, Free x then
    match callD Try.prog kp 0 20 f args m0 with
    | some (v, m) => if Free v then some (v, growM M m.size) else none
    | none => none
  else none
theorem vsims_free {ρ : Nat → Nat} {A : Nat → Bool} : ∀ {l : List Value}, (∀ x ∈ l, Free x) → VSims ρ A l l
  | [], _ => .nil
  | x :: l, h => .cons ((h x (List.mem_cons_self ..)).sim ρ A) (vsims_free fun y hy => h y (List.mem_cons_of_mem _ hy))
theorem runP_ok {B0 : Nat} {f : FuncId} {args : List Value} {M M' : Mem} {v : Value} (h : runP f args M = some (v, M')) : CallOK Try.prog B0 0 f args M v M' ∧ Grw M M' := by
  unfold runP at h
  split at h <;> try (simp at h; done)
  rename_i hc
  obtain ⟨ht, ha⟩ := hc
  split at h <;> try (simp at h; done)
  rename_i v0 m hrun
  split at h <;> simp at h
  rename_i hv
  obtain ⟨rfl, rfl⟩ := h
  have hg := callD_grw (P := Try.prog) (K := kp) (G := 0) 20 f _ _ _ _ hrun
  have hloc : Local (fun i => M.size + i) (fun _ => false) m0 m M (growM M m.size) := by
    refine ⟨fun i hi => (by cases hi), hg, fun b _ => rfl, fun j hj => ?_, fun i hi => (by cases hi), fun i j hi => (by cases hi), fun i _ _ => rfl, rfl, fun i hi => (by cases hi), fun i h1 _ => .inl ?_, fun b hb _ => ?_⟩
    · have hj' : M.size + m.size ≤ j := hj
      rw [growM_get, if_neg (by omega)]
    · rw [growM_get, if_neg (by omega)]
    · rw [growM_get, if_pos hb]
  refine ⟨embed ((callD_ok hmix hK hng 20).ok _ _ _ _ _ hrun) hloc (vsims_free ha) (hv.emb _), ⟨by show M.size ≤ M.size + _; omega, fun _ => hloc.top', fun j hj hl => ?_, fun j hj ho => ?_⟩⟩
  · rw [growM_get, if_pos hj] at hl; exact hl
  · rw [growM_get, if_pos hj] at ho; exact ho
end
end Go.Proofs.Ytfpbiojnbffkpaa
namespace Go.Proofs.Ytfpbiojnbffkpaa
open Go Go.DI Go.Proofs Go.Jud
noncomputable section
theorem of_tree {f : FuncId} {args : List Value} {x : Value} (h : Y.callK Try.prog kp 0 20 f args m0 (fun v _ => some v) = some x) : ∃ m, callD Try.prog kp 0 20 f args m0 = some (x, m) := by
  rw [Y.callK_eq] at h
  cases hc : callD Try.prog kp 0 20 f args m0 with
  | none => rw [hc] at h; cases h
  | some p =>
    obtain ⟨v, m⟩ := p
    rw [hc] at h
    have : some v = some x := h
    cases this
    exact ⟨m, rfl⟩
theorem row_small (r : RowT) : ∃ m, callD Try.prog kp 0 20 11 [.agg ⟨rowR r⟩] m0 = some (.agg ⟨rowR r⟩, m) := of_tree (t_row ..)
end
end Go.Proofs.Ytfpbiojnbffkpaa
namespace Go.Proofs.Ytfpbiojnbffkpaa
open Go Go.DI Go.Proofs Go.Jud
noncomputable section
def oZ : Orc := fun _ _ _ => none
theorem oZ_grw : CfGrw oZ := fun _ _ _ _ _ h => by cases h
theorem oZ_ok {B0 G : Nat} : CfOK Try.prog B0 G oZ := ⟨fun _ _ _ _ _ h => (by cases h), fun _ _ _ _ _ h => (by cases h), fun _ _ _ _ _ h => (by cases h)⟩
def smO (M : Mem) (b i : Nat) : Nat := match i with | 0 => b | i + 1 => M.size + i
open Classical in
def runS (n : Value) (b : Nat) (sp : Option Nat) (l c : Nat) (row : Value) (M : Mem) : Option (Value × Mem) :=
  match M.get b with
  | .cells own cs =>
    if M.top ∧ b < M.size ∧ Free n ∧ Free row ∧ ∀ x ∈ cs, Free x then
      match callN Try.prog kp 0 oZ (l + 12) 14 [n, .slice (some ⟨0, 0, sp⟩) l c, row] (mO own cs) with
      | some (v, m) => if Free v ∧ m.get 0 = .cells own cs then some (v, growM M (m.size - 1)) else none
      | none => none
    else none
  | _ => none
theorem runS_ok {B0 : Nat} {n row : Value} {b l c : Nat} {sp : Option Nat} {M M' : Mem} {v : Value} (h : runS n b sp l c row M = some (v, M')) : CallOK Try.prog B0 0 14 [n, .slice (some ⟨b, 0, sp⟩) l c, row] M v M' ∧ Grw M M' := by
  unfold runS at h
  split at h <;> try (simp at h; done)
  rename_i own cs hb
  split at h <;> try (simp at h; done)
  rename_i hc
  obtain ⟨ht, hbM, hfn, hfr, hfc⟩ := hc
  split at h <;> try (simp at h; done)
  rename_i v0 m hrun
  split at h <;> simp at h
  rename_i hv
  obtain ⟨hv, h0⟩ := hv
  obtain ⟨rfl, rfl⟩ := h
  have hg := callN_grw (P := Try.prog) (K := kp) (G := 0) oZ_grw _ _ _ _ _ _ hrun
  have hs1 : (mO own cs).size = 1 := rfl
  have hg0 : (mO own cs).get 0 = .cells own cs := Mem.get_push_same _ _
  have hsz := hg.size
  rw [hs1] at hsz
  have hA : ∀ i : Nat, Nat.beq i 0 = true → i = 0 := fun i hi => Nat.eq_of_beq_eq_true hi
  have hloc : Local (smO M b) (fun i => Nat.beq i 0) (mO own cs) m M (growM M (m.size - 1)) := by
    refine ⟨fun i hi => (by rw [hA i hi, hs1]; omega), hg, fun j hj => ?_, fun j hj => ?_, fun i hi => (by rw [hA i hi]; exact hbM), fun i j hi hj _ _ _ => (by rw [hA i hi, hA j hj]), fun i h1 _ => ?_, (by rw [hs1]; rfl), fun i hi => ?_, fun i h1 h2 => ?_, fun j hj _ => ?_⟩
    · have hj : 1 ≤ j := hj
      unfold mO
      rw [Mem.get_push_ne _ (by show j ≠ 0; omega)]
      rfl
    · have hj' : M.size + (m.size - 1) ≤ j := hj
      rw [growM_get, if_neg (by omega)]
    · rw [hs1] at h1 ⊢
      obtain ⟨k, rfl⟩ : ∃ k, i = k + 1 := ⟨i - 1, by omega⟩
      rfl
    · rw [hA i hi, hg0]
      show BSim _ _ _ (M.get b)
      rw [hb]; exact bsim_free hfc
    · by_cases hi : i = 0
      · subst hi
        right
        rw [h0]
        show BEmb _ _ ((growM M _).get b)
        rw [growM_get, if_pos hbM, hb]; exact bemb_free hfc
      · left
        obtain ⟨k, rfl⟩ : ∃ k, i = k + 1 := ⟨i - 1, by omega⟩
        show (growM M _).get (M.size + k) = _
        rw [growM_get, if_neg (by omega)]
    · rw [growM_get, if_pos hj]
  have hsl : VSim (smO M b) (fun i => Nat.beq i 0) (.slice (some ⟨0, 0, sp⟩) l c) (.slice (some ⟨b, 0, sp⟩) l c) := by
    cases sp with
    | none => exact sim_slc (i := 0) (ρ := smO M b) rfl
    | some e => exact sim_loose (i := 0) (ρ := smO M b) rfl
  refine ⟨embed ((callN_ok hmix hK hng oZ_ok oZ_grw _).ok _ _ _ _ _ hrun) hloc (.cons (hfn.sim _ _) (.cons hsl (.cons (hfr.sim _ _) .nil))) (hv.emb _), ⟨by show M.size ≤ M.size + _; omega, fun _ => hloc.top', fun j hj hl => ?_, fun j hj ho => ?_⟩⟩
  · rw [growM_get, if_pos hj] at hl; exact hl
  · rw [growM_get, if_pos hj] at ho; exact ho
def oA : Orc := fun f args M =>
  if f = 11 then runP f args M
  else if f = 14 then
    match args with
    | [_, .slice none _ _, _] => runP f args M
    | [n, .slice (some ⟨b, 0, sp⟩) l c, row] => runS n b sp l c row M
    | _ => none
  else if f = 15 then
    match args with
    | [.slice none _ _, _] => runP f args M
    | _ => none
  else oJ f args M
theorem oA_both {B0 : Nat} {f : FuncId} {args : List Value} {M M' : Mem} {v : Value} (h : oA f args M = some (v, M')) : CallOK Try.prog B0 0 f args M v M' ∧ Grw M M' := by
  unfold oA at h
  split at h
  · exact runP_ok h
  split at h
  · rename_i hf
    split at h
    · exact runP_ok h
    · subst hf; exact runS_ok h
    · cases h
  split at h
  · split at h
    · exact runP_ok h
    · cases h
  · exact ⟨(oJ_ok (B0 := B0)).ok _ _ _ _ _ h, oJ_grw _ _ _ _ _ h⟩
theorem oA_grw : CfGrw oA := fun f args M v M' h => (oA_both (B0 := 0) h).2
theorem oA_fn {f : FuncId} {args : List Value} {M M' : Mem} {v : Value} (h : oA f args M = some (v, M')) : ∃ fn, Try.prog.funcs[f]? = some fn ∧ fn.body.isNone = false ∧ (fn.name == "runtime.NumGoroutine") = false := by
  unfold oA at h
  split at h
  · rename_i hf; subst hf; exact hasB_of (by kernel_rfl)
  split at h
  · rename_i hf; subst hf; exact hasB_of (by kernel_rfl)
  split at h
  · rename_i hf; subst hf; exact hasB_of (by kernel_rfl)
  · exact (oJ_ok (B0 := 0)).body _ _ _ _ _ h
theorem oA_ok {B0 : Nat} : CfOK Try.prog B0 0 oA := ⟨fun f args M v M' h => (oA_grw f args M v M' h).size, fun f args M v M' h => (oA_both h).1, fun f args M v M' h => oA_fn h⟩
theorem oA_7 (M : Mem) : oA 7 [] M = some (.bool true, M) := by
  unfold oA
  rw [if_neg (by decide), if_neg (by decide), if_neg (by decide)]
  unfold oJ
  rw [if_pos rfl]
theorem oA_11 (a : List Value) (M : Mem) : oA 11 a M = runP 11 a M := by
  unfold oA
  rw [if_pos rfl]
theorem oA_14n (n row : Value) (l c : Nat) (M : Mem) : oA 14 [n, .slice none l c, row] M = runP 14 [n, .slice none l c, row] M := by
  unfold oA
  rw [if_neg (by decide), if_pos rfl]
theorem oA_14s (n row : Value) (b : Nat) (sp : Option Nat) (l c : Nat) (M : Mem) : oA 14 [n, .slice (some ⟨b, 0, sp⟩) l c, row] M = runS n b sp l c row M := by
  unfold oA
  rw [if_neg (by decide), if_pos rfl]
  rfl
theorem oA_15n (n : Value) (l c : Nat) (M : Mem) : oA 15 [.slice none l c, n] M = runP 15 [.slice none l c, n] M := by
  unfold oA
  rw [if_neg (by decide), if_neg (by decide), if_pos rfl]
theorem oA_15s (n : Value) (a : Addr) (l c : Nat) (M : Mem) : oA 15 [.slice (some a) l c, n] M = none := by
  unfold oA
  rw [if_neg (by decide), if_neg (by decide), if_pos rfl]
theorem oA_J (f : FuncId) (h : f ≠ 11 ∧ f ≠ 14 ∧ f ≠ 15) (a : List Value) (M : Mem) : oA f a M = oJ f a M := by
  unfold oA
  rw [if_neg h.1, if_neg h.2.1, if_neg h.2.2]
theorem oA_none (f : FuncId) (h : f ≠ 11 ∧ f ≠ 14 ∧ f ≠ 15 ∧ f ≠ 7 ∧ f ≠ 13) (a : List Value) (M : Mem) : oA f a M = none := by
  rw [oA_J f ⟨h.1, h.2.1, h.2.2.1⟩]
  unfold oJ o13
  rw [if_neg h.2.2.2.1, if_neg h.2.2.2.2]
theorem oA_row {M : Mem} (ht : M.top) (r : RowT) : ∃ d, oA 11 [.agg ⟨rowR r⟩] M = some (.agg ⟨rowR r⟩, growM M d) := by
  obtain ⟨m, hm⟩ := row_small r
  refine ⟨m.size, ?_⟩
  rw [oA_11]
  unfold runP
  rw [if_pos ⟨ht, fun x hx => by simp only [List.mem_singleton] at hx; subst hx; exact free_row r⟩, hm]
  exact if_pos (free_row r)
theorem free_rowsC (rs : List RowT) : ∀ x ∈ rowsC rs, Free x := by
  intro x hx
  simp only [rowsC, List.mem_flatMap] at hx
  obtain ⟨r, _, hx⟩ := hx
  simp only [rowR, rowC, List.cons_append, List.nil_append, List.mem_cons, List.mem_append, List.not_mem_nil, or_false] at hx
  rcases hx with h | h | h | h | h | h | h | h | h | h | h | h
  all_goals first | exact free_hashC _ _ h | (rw [h]; first | exact free_int _ _ | exact free_bool _)
theorem oA_wrs {M : Mem} (ht : M.top) {b : Nat} {own : Bool} {sp : Option Nat} {cap : Nat} {rs : List RowT} {rest : List Value} (hf : ∀ x ∈ rest, Free x) (hb : b < M.size) (hm : M.get b = .cells own (rowsC rs ++ rest)) (hlen : rs.length ≤ 100000) {nodes : Int} (hn1 : 1 ≤ nodes) (hn4 : nodes ≤ 4) (r : RowT) (hi : -9223372036854775808 ≤ r.i ∧ r.i ≤ 9223372036854775807) :
    ∃ d, oA 14 [.int .i64 nodes, .slice (some ⟨b, 0, sp⟩) rs.length cap, .agg ⟨rowR r⟩] M = some (.int .i64 (wrongR nodes rs r), growM M d) := by
  obtain ⟨m', h, e⟩ := wrong_run (own := own) (sp := sp) (cap := cap) (rest := rest) hlen hn1 hn4 hi oZ (rs.length + 12) (Nat.le_refl _) (fun _ _ _ _ => rfl) (fun _ _ _ _ => rfl) (fun _ _ _ _ _ _ => rfl)
  refine ⟨m'.size - 1, ?_⟩
  rw [oA_14s]
  unfold runS
  rw [hm]
  simp only
  rw [if_pos ⟨ht, hb, free_int _ _, free_row r, fun x hx => (List.mem_append.1 hx).elim (free_rowsC rs x) (hf x)⟩, h]
  exact if_pos ⟨free_int _ _, (e.get 0 (by show 0 < 1; omega)).trans (Mem.get_push_same _ _)⟩
theorem oA_add (b : Nat) (row : Value) (M : Mem) : oA 13 [.pointer (some ⟨b, 0, none⟩), row] M = oJ 13 [.pointer (some ⟨b, 0, none⟩), row] M := oA_J 13 (by decide) _ _
theorem growM_top (M : Mem) (d : Nat) : (growM M d).top := fun j hj => by
  have hj : M.size + d ≤ j := hj
  rw [growM_get, if_neg (by omega)]
theorem growM_ext (M : Mem) (d : Nat) : Ext M (growM M d) := ⟨by show M.size ≤ M.size + d; omega, fun j hj => by rw [growM_get, if_pos hj], fun _ => growM_top M d⟩
end
end Go.Proofs.Ytfpbiojnbffkpaa
namespace Go.Proofs.Ytfpbiojnbffkpaa
open Go Go.DI Go.Proofs Go.Jud
noncomputable section
variable {α : Type}
set_option maxHeartbeats 4000000 in
theorem t_new (cf : Y.CF α) (L : Y.LK α) (k : Nat) (m : Mem) (n : Int) (q : Value → Mem → Option α) : Y.codeF (bodyOf Try.f12) Try.prog kp 0 (Y.cfT Try.prog cf) L 20 k (fullN 20 (argX [.int .i64 n])) m (Y.retF Try.prog Try.f12 q) =
  (cond (Y.ltF n (1 : Int)) (q (.tuple ⟨[(.pointer none), (.int .i64 (1 : Int))]⟩) m) (cond (Y.ltF (4 : Int) n) (q (.tuple ⟨[(.pointer none), (.int .i64 (1 : Int))]⟩) m) (q (.tuple ⟨[(.pointer (some (Addr.mk (Nat.succ (Nat.succ (Nat.succ (Nat.succ (Nat.succ (Nat.succ (Nat.succ (Mem.size m)))))))) 0 none))), (.int .i64 (0 : Int))]⟩) (Mem.push (Mem.push (Mem.push (Mem.push (Mem.push (Mem.push (Mem.push (Mem.push m (Blk.map true [] 0)) (Blk.map true [] 0)) (Blk.map true [] 0)) (Blk.map true [] 0)) (Blk.map true [] 0)) (Blk.map true [] 0)) (Blk.map true [] 0)) (.cells true [(.int .i64 n), (.map (some (Mem.size m))), (.slice none 0 0), (.map (some (Nat.succ (Mem.size m)))), (.int .i64 (0 : Int)), (.int .i64 (0 : Int)), (.int .i64 (0 : Int)), (.int .i64 (0 : Int)), (.int .i64 (0 : Int)), (.int .i64 (0 : Int)), (.map (some (Nat.succ (Nat.succ (Mem.size m))))), (.map (some (Nat.succ (Nat.succ (Nat.succ (Mem.size m)))))), (.map (some (Nat.succ (Nat.succ (Nat.succ (Nat.succ (Mem.size m))))))), (.map (some (Nat.succ (Nat.succ (Nat.succ (Nat.succ (Nat.succ (Mem.size m)))))))), (.map (some (Nat.succ (Nat.succ (Nat.succ (Nat.succ (Nat.succ (Nat.succ (Mem.size m)))))))))]))))) := by kernel_rfl
set_option maxHeartbeats 4000000 in
theorem t_jep (cf : Y.CF α) (L : Y.LK α) (k : Nat) (m : Mem) (jb : Nat) (n : Int) (q : Value → Mem → Option α) : Y.codeF (bodyOf Try.f16) Try.prog kp 0 (Y.cfT Try.prog cf) L 25 k (fullN 25 (argX [.pointer (some ⟨jb, 0, none⟩), .int .i64 n])) m (Y.retF Try.prog Try.f16 q) =
  (cond (Y.ltF n (1 : Int)) (q (.int .i64 (0 : Int)) m) (Y.cellsOf (Mem.get m jb) (fun x_8 c_9 => (Option.elim (Y.nthL c_9 0) none (fun o10 => (Y.asInt o10 (fun k'_11 n_12 => (cond (Y.kEq .i64 k'_11) (cond (Y.ltF n_12 n) (q (.int .i64 (0 : Int)) m) (Y.onNat n (fun i_13 => (cond (Nat.blt i_13 5) (Y.cellsOf (Mem.get m jb) (fun x_14 c_15 => (Option.elim (Y.nthL c_15 (Nat.add 4 (Nat.mul i_13 1))) none (fun o16 => (Y.asInt o16 (fun k'_17 n_18 => (cond (Y.kEq .i64 k'_17) (q (.int .i64 n_18) m) none)) none))))) none)))) none)) none)))))) := by kernel_rfl
end
end Go.Proofs.Ytfpbiojnbffkpaa
namespace Go.Proofs.Ytfpbiojnbffkpaa
open Go Go.DI Go.Proofs Go.Jud
noncomputable section
def newM (m : Mem) (n : Int) : Mem :=
  (((((((m.push (.map true [] 0)).push (.map true [] 0)).push (.map true [] 0)).push (.map true [] 0)).push (.map true [] 0)).push (.map true [] 0)).push (.map true [] 0)).push (.cells true (judL (.int .i64 n) (.slice none 0 0) (.int .i64 0) (.int .i64 0) (.int .i64 0) (.int .i64 0) (.int .i64 0) (.int .i64 0) m.size (m.size + 1) (m.size + 2) (m.size + 3) (m.size + 4) (m.size + 5) (m.size + 6)))
def newV (m : Mem) : Value := .tuple ⟨[.pointer (some ⟨m.size + 7, 0, none⟩), .int .i64 0]⟩
def nilV : Value := .tuple ⟨[.pointer none, .int .i64 1]⟩
theorem filt_n {v : Value} (m : Mem) (h : okR Try.prog 12 v = true) : filtR Try.prog 12 (some (v, m)) = some (v, m) := by simp only [filtR, h, cond_true]
theorem new_run (o : Orc) (k : Nat) (hk : 1 ≤ k) (ho : ∀ a m, o 12 a m = none) (n : Int) (m : Mem) : callN Try.prog kp 0 o k 12 [.int .i64 n] m = cond (Y.ltF n 1) (some (nilV, m)) (cond (Y.ltF 4 n) (some (nilV, m)) (some (newV m, newM m n))) := by
  obtain ⟨k, rfl⟩ : ∃ k', k = k' + 1 := ⟨k - 1, by omega⟩
  simp only [callN, ho]
  rw [Y.body_eq (Y.callN_typed Try.prog kp 0 o k) (c := bodyOf Try.f12) (fn := Try.f12) 20 Try.func12 (by kernel_rfl) _ (by kernel_rfl)]
  refine (congrArg (filtR Try.prog 12) (t_new ..)).trans ?_
  cases Y.ltF n 1 with
  | true => exact filt_n m (by kernel_rfl)
  | false =>
    cases Y.ltF 4 n with
    | true => exact filt_n m (by kernel_rfl)
    | false => exact filt_n (v := newV m) _ (by kernel_rfl)
def rhoN (s : Nat) (i : Nat) : Nat := match i with | 0 => s + 7 | 8 => 0 | i + 1 => s + i
theorem newM_size (m : Mem) (n : Int) : (newM m n).size = m.size + 8 := rfl
theorem newM_ext (m : Mem) (n : Int) : Ext m (newM m n) :=
  (((((((Ext.push m _).trans (Ext.push _ _)).trans (Ext.push _ _)).trans (Ext.push _ _)).trans (Ext.push _ _)).trans (Ext.push _ _)).trans (Ext.push _ _)).trans (Ext.push _ _)
theorem newM_map (m : Mem) (n : Int) (i : Nat) (hi : i < 7) : (newM m n).get (m.size + i) = .map true [] 0 := by
  unfold newM
  rcases (show i = 0 ∨ i = 1 ∨ i = 2 ∨ i = 3 ∨ i = 4 ∨ i = 5 ∨ i = 6 by omega) with rfl | rfl | rfl | rfl | rfl | rfl | rfl
  all_goals
    simp only [Mem.get_push, Mem.size_push]
    repeat (first | rfl | rw [if_pos trivial] | rw [if_pos (by omega)] | rw [if_neg (by omega)])
theorem new_holds (m : Mem) (n : Int) : Holds (JS.new n) (rhoN m.size) (newM m n) := by
  have hm := newM_map m n
  refine ⟨?_, hm 0 (by omega), hm 1 (by omega), hm 2 (by omega), hm 3 (by omega), hm 4 (by omega), hm 5 (by omega), hm 6 (by omega), fun h => absurd rfl h, fun i hi => ?_, fun i j hi hj e => ?_⟩
  · show (newM m n).get (m.size + 7) = _
    exact (Mem.get_push_same _ _)
  · have h8 : i < 8 := by
      have : isL (JS.new n) = false := rfl
      rw [this] at hi
      simpa [seeJ] using hi
    rw [newM_size]
    rcases (show i = 0 ∨ i = 1 ∨ i = 2 ∨ i = 3 ∨ i = 4 ∨ i = 5 ∨ i = 6 ∨ i = 7 by omega) with rfl | rfl | rfl | rfl | rfl | rfl | rfl | rfl <;> simp [rhoN]
  · have hf : isL (JS.new n) = false := rfl
    rw [hf] at hi hj
    have h8 : i < 8 := by simpa [seeJ] using hi
    have k8 : j < 8 := by simpa [seeJ] using hj
    have e0 : ∀ i, i < 8 → rhoN m.size i = m.size + (if i = 0 then 7 else i - 1) := fun i hi => by
      rcases (show i = 0 ∨ i = 1 ∨ i = 2 ∨ i = 3 ∨ i = 4 ∨ i = 5 ∨ i = 6 ∨ i = 7 by omega) with rfl | rfl | rfl | rfl | rfl | rfl | rfl | rfl <;> rfl
    rw [e0 i h8, e0 j k8] at e
    split at e <;> split at e <;> omega
theorem jep_run (o : Orc) (k : Nat) (hk : 1 ≤ k) (ho : ∀ a m, o 16 a m = none) {S : JS} {ρ : Nat → Nat} {m : Mem} (hH : Holds S ρ m) (h4 : S.n ≤ 4) (n : Int) : callN Try.prog kp 0 o k 16 [.pointer (some ⟨ρ 0, 0, none⟩), .int .i64 n] m = some (.int .i64 (if n < 1 ∨ S.n < n then 0 else S.ep n.toNat), m) := by
  obtain ⟨k, rfl⟩ : ∃ k', k = k' + 1 := ⟨k - 1, by omega⟩
  simp only [callN, ho]
  refine (congrArg (filtR Try.prog _) ?_).trans (filt_i _ _ (by kernel_rfl))
  rw [Y.body_eq (Y.callN_typed Try.prog kp 0 o k) (c := bodyOf Try.f16) (fn := Try.f16) 25 Try.func16 (by kernel_rfl) _ (by kernel_rfl)]
  refine (t_jep ..).trans ?_
  by_cases h1 : n < 1
  · rw [ltF_t h1, if_pos (.inl h1)]; rfl
  rw [ltF_f h1]
  have hn0 : Y.nthL (judL (.int .i64 S.n) (logV (ρ 8) S.log) (.int .i64 (S.ep 0)) (.int .i64 (S.ep 1)) (.int .i64 (S.ep 2)) (.int .i64 (S.ep 3)) (.int .i64 (S.ep 4)) (.int .i64 S.top) (ρ 1) (ρ 2) (ρ 3) (ρ 4) (ρ 5) (ρ 6) (ρ 7)) 0 = some (.int .i64 S.n) := rfl
  simp only [hH.b0, cells_c, hn0, Option.elim, asInt_i, kEq_ii, cond_true, cond_false]
  by_cases h2 : S.n < n
  · rw [ltF_t h2, if_pos (.inr h2)]; rfl
  rw [ltF_f h2, if_neg (fun e => e.elim h1 h2)]
  rcases (show n = 1 ∨ n = 2 ∨ n = 3 ∨ n = 4 by omega) with rfl | rfl | rfl | rfl <;> rfl
end
end Go.Proofs.Ytfpbiojnbffkpaa
namespace Go.Proofs.Ytfpbiojnbffkpaa
open Go Go.DI Go.Proofs Go.Jud
noncomputable section
variable {α : Type}
def cfN (cf : Y.CF α) : Y.CF α := fun f a m q =>
  match f, a with
  | 12, [.int .i64 n] => cond (Y.ltF n 1) (q nilV m) (cond (Y.ltF 4 n) (q nilV m) (q (newV m) (newM m n)))
  | f, a => Y.cfT Try.prog cf f a m q
theorem cfN_of (df : DFun) (h : Y.Typed Try.prog df) (h12 : ∀ n m, df 12 [.int .i64 n] m = cond (Y.ltF n 1) (some (nilV, m)) (cond (Y.ltF 4 n) (some (nilV, m)) (some (newV m, newM m n)))) (f : FuncId) (a : List Value) (m : Mem) (q : Value → Mem → Option α) : cfN (Y.cfOf df) f a m q = onV (df f a m) q := by
  unfold cfN
  split
  · rename_i n
    rw [h12]
    cases Y.ltF n 1 <;> cases Y.ltF 4 n <;> rfl
  · exact Y.cfT_of Try.prog df h _ _ _ _
theorem body_eqN {df : DFun} {cf : Y.CF (Value × Mem)} (hcf : ∀ f a m (q : Value → Mem → Option (Value × Mem)), cf f a m q = onV (df f a m) q) {k : Nat} {f : FuncId} {fn : Func} {c : Code} (n : Nat) (hf : Try.prog.funcs[f]? = some fn) (hc : fn.body = some c) (args : List Value) (hn : max args.length fn.ntmps = n) (m : Mem) :
    bodyN Try.prog kp 0 df k f args m = Y.codeF c Try.prog kp 0 cf (Y.lpOf Try.prog kp 0 df n) n k (fullN n (argX args)) m (Y.retF Try.prog fn fun v m => some (v, m)) := by
  rw [Y.codeF_eq Try.prog kp 0 cf df hcf (Y.lpOf Try.prog kp 0 df n) n k (fun _ _ _ _ _ _ => rfl), bodyN, hf]
  simp only [hc, hn]
  cases codeD Try.prog kp 0 df (drawD Try.prog kp 0 df n) n k c (fullN n (argX args)) m with
  | none => rfl
  | some r =>
    obtain ⟨e, t, m'⟩ := r
    cases e with
    | normal =>
      show _ = Y.resF fn.results.toList Try.prog t m' fun vs => some (resV vs, m')
      rw [Y.resF_eq]
      simp only [endD]
      cases resD Try.prog t m' fn.results.toList <;> rfl
    | exit id => rfl
    | ret =>
      show _ = Y.resF fn.results.toList Try.prog t m' fun vs => some (resV vs, m')
      rw [Y.resF_eq]
      simp only [endD]
      cases resD Try.prog t m' fn.results.toList <;> rfl
end
end Go.Proofs.Ytfpbiojnbffkpaa
namespace Go.Proofs.Ytfpbiojnbffkpaa
open Go Go.DI Go.Proofs Go.Jud
noncomputable section
variable {α : Type}
def markC (id : Nat) : Code → Code
  | .region i ops d => cond (Nat.beq i id) (.loop (.region i ops d)) (.region i ops d)
  | .seq a b => .seq (markC id a) (markC id b)
  | .cond c a b => .cond c (markC id a) (markC id b)
  | .block j c => .block j (markC id c)
  | c => c
def noLoop : Code → Bool
  | .region _ _ _ => true
  | .seq a b => noLoop a && noLoop b
  | .cond _ a b => noLoop a && noLoop b
  | .block _ c => noLoop c
  | .skip => true
  | .exit _ => true
  | .ret => true
  | _ => false
def onceL : Y.LK α := fun body _ _ t m q => body t m q
theorem mark_eq (id : Nat) (P : Program) (K : TypeId → Bool) (G : Nat) (cf : Y.CF α) (L : Y.LK α) (n k : Nat) : ∀ (c : Code), noLoop c = true → ∀ (t : Tmps) (m : Mem) (q : Y.ExK α), Y.codeF c P K G cf L n k t m q = Y.codeF (markC id c) P K G cf onceL n k t m q := by
  intro c
  induction c with
  | skip => intros; rfl
  | exit => intros; rfl
  | ret => intros; rfl
  | region i ops d =>
    intro _ t m q
    unfold markC
    cases Nat.beq i id <;> rfl
  | seq a b ia ib =>
    intro h t m q
    simp only [noLoop, Bool.and_eq_true] at h
    refine (ia h.1 ..).trans ?_
    show _ = Y.codeF (markC id a) P K G cf onceL n k t m fun e t m => Ex.rec (motive := fun _ => Option α) (Y.codeF (markC id b) P K G cf onceL n k t m q) (fun id => q (.exit id) t m) (q .ret t m) e
    congr 1
    funext e t m
    cases e with
    | normal => exact ib h.2 ..
    | exit => rfl
    | ret => rfl
  | cond c a b ia ib =>
    intro h t m q
    simp only [noLoop, Bool.and_eq_true] at h
    show Y.evF c G t (fun v => Y.asBool v (Y.codeF a P K G cf L n k t m q) (Y.codeF b P K G cf L n k t m q)) = Y.evF c G t (fun v => Y.asBool v (Y.codeF (markC id a) P K G cf onceL n k t m q) (Y.codeF (markC id b) P K G cf onceL n k t m q))
    rw [ia h.1, ib h.2]
  | block j c ic =>
    intro h t m q
    simp only [noLoop] at h
    exact ic h ..
  | _ => intro h; cases h
def opsC : Code → List Oper
  | .region _ ops _ => ops.toList
  | _ => []
theorem region_eq (id : Nat) (ops : Array Oper) (P : Program) (K : TypeId → Bool) (G : Nat) (cf : Y.CF α) (L : Y.LK α) (n k : Nat) (t : Tmps) (m : Mem) (q : Y.ExK α) : Y.codeF (.region id ops false) P K G cf L n k t m q = Y.opsF (opsC (.region id ops false)) P K G cf n (opsC (.region id ops false)) t m fun t m => q .normal t m := rfl
theorem opsF_app (P : Program) (K : TypeId → Bool) (G : Nat) (cf : Y.CF α) (n : Nat) (ops l2 : List Oper) (q : Tmps → Mem → Option α) : ∀ (l1 : List Oper) (t : Tmps) (m : Mem), Y.opsF (l1 ++ l2) P K G cf n ops t m q = Y.opsF l1 P K G cf n ops t m fun t m => Y.opsF l2 P K G cf n ops t m q
  | [], t, m => rfl
  | o :: l, t, m => by
    have ih := opsF_app P K G cf n ops l2 q l
    show Bool.rec (motive := fun _ => Option α) none (Bool.rec (motive := fun _ => Option α) (Y.putOF t o.dst undef fun t' => Y.opsF (l ++ l2) P K G cf n ops t' m q)
      (Y.opF o.op P K G cf t m fun v m' => Y.putOF t o.dst v fun t' => Y.opsF (l ++ l2) P K G cf n ops t' m' q) (Y.wantF o ops t)) (Y.dstF n o.dst) = _
    simp only [ih]
    rfl
theorem opsF_cut (i : Nat) (P : Program) (K : TypeId → Bool) (G : Nat) (cf : Y.CF α) (n : Nat) (ops : List Oper) (q : Tmps → Mem → Option α) (t : Tmps) (m : Mem) : Y.opsF ops P K G cf n ops t m q = Y.opsF (ops.take i) P K G cf n ops t m fun t m => Y.opsF (ops.drop i) P K G cf n ops t m q := by
  rw [← opsF_app, List.take_append_drop]
end
end Go.Proofs.Ytfpbiojnbffkpaa
