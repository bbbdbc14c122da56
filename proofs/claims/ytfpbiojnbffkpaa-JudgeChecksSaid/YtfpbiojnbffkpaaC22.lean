/-
  JRef3: the reference's counts and told, by the rows.
-/
import Derived.Test.YtfpbiojnbffkpaaC20
import Derived.Test.YtfpbiojnbffkpaaC21
set_option linter.all false
set_option linter.unusedVariables false
set_option linter.unusedSimpArgs false
namespace Go.Proofs.Ytfpbiojnbffkpaa
open Go Go.DI Go.Proofs Go.Jud
noncomputable section
theorem counts_run (o : Orc) (k : Nat) (hk : 1 ≤ k) (ho : ∀ a m, o 43 a m = none) (x : RowT) (m : Mem) : callN Try.prog kp 0 o k 43 [.agg ⟨rowR x⟩] m = some (.bool (countsR x), m.push (.cells true (rowR x))) := by
  obtain ⟨k, rfl⟩ : ∃ k', k = k' + 1 := ⟨k - 1, by omega⟩
  simp only [callN, ho]
  refine (congrArg (filtR Try.prog _) ?_).trans (filt_b _ _ (by kernel_rfl))
  rw [Y.body_eq (Y.callN_typed Try.prog kp 0 o k) (c := bodyOf Try.f43) (fn := Try.f43) 15 Try.func43 (by kernel_rfl) _ (by kernel_rfl)]
  refine (t_counts ..).trans ?_
  have hr : (m.push (.cells true (rowR x))).get m.size = .cells true (rowR x) := Mem.get_push_same _ _
  have hrw : [Value.int .i64 x.k, .int .i64 x.w, .int .i64 x.t, .int .i64 x.i, .int .i64 x.e, .int .i64 x.s, .int .i64 x.st, .int .i64 x.c, .int .i64 x.tr, .bool x.y] ++ hashC x.h ++ [.int .u64 x.v] = rowR x := rfl
  rw [hrw]
  simp only [hr, cells_c, row_k, row_y, row_c, Option.elim, asInt_i, asBo_b, kEq_ii, cond_true, countsR]
  by_cases h1 : x.k = 5
  · rw [eqF_t h1, decide_eq_true h1]
    cases hy : x.y with
    | false => rfl
    | true =>
      by_cases h3 : x.c = 61
      · rw [eqF_t h3, decide_eq_false (show ¬ x.c ≠ 61 from fun g => g h3)]; rfl
      · rw [eqF_f h3, decide_eq_true h3]; rfl
  · rw [eqF_f h1, decide_eq_false h1]; rfl
section
variable {b rb : Nat} {own own2 : Bool} {sp : Option Nat} {cap : Nat} {m : Mem} {rs : List RowT} {rest : List Value} {r : RowT}
set_option maxHeartbeats 4000000 in
theorem told1_turn (hlen : rs.length ≤ 100000) (hm : m.get b = .cells own (rowsC rs ++ rest)) (hr : m.get rb = .cells own2 (rowR r)) (hbm : b < m.size) (hrm : rb < m.size) {df : DFun} (hdf : Y.Typed Try.prog df) (hcnt : ∀ x m, df 43 [.agg ⟨rowR x⟩] m = some (.bool (countsR x), m.push (.cells true (rowR x)))) (k i : Nat) (hlt : i < rs.length) (a4 : Int) (a6 : Value) (x : Nat → Value) :
    (¬ clash1 r rs[i] → ∃ X, codeD Try.prog kp 0 df (drawD Try.prog kp 0 df 130) 130 k (loopN Try.f31 0) (fullN 130 (up x [(0, .slice (some ⟨b, 0, sp⟩) rs.length cap), (3, .pointer (some ⟨rb, 0, none⟩)), (4, .int .i64 a4), (5, .int .i64 (i : Int)), (6, a6)])) m = some (.normal, (fullN 130 (up X [(0, .slice (some ⟨b, 0, sp⟩) rs.length cap), (3, .pointer (some ⟨rb, 0, none⟩)), (4, .int .i64 a4), (5, .int .i64 ((i + 1 : Nat) : Int)), (6, a6)])), m.push (.cells true (rowR rs[i])))) ∧
    (clash1 r rs[i] → ∃ X, codeD Try.prog kp 0 df (drawD Try.prog kp 0 df 130) 130 k (loopN Try.f31 0) (fullN 130 (up x [(0, .slice (some ⟨b, 0, sp⟩) rs.length cap), (3, .pointer (some ⟨rb, 0, none⟩)), (4, .int .i64 a4), (5, .int .i64 (i : Int)), (6, a6)])) m = some (.ret, (fullN 130 (up X [(0, .slice (some ⟨b, 0, sp⟩) rs.length cap), (3, .pointer (some ⟨rb, 0, none⟩)), (4, .int .i64 10), (5, .int .i64 (i : Int)), (6, a6)])), m.push (.cells true (rowR rs[i])))) := by
  have hg : rs[i]? = some rs[i] := List.getElem?_eq_getElem hlt
  have hm' : (m.push (.cells true (rowR rs[i]))).get b = .cells own (rowsC rs ++ rest) := by rw [Mem.get_push_ne _ (by omega)]; exact hm
  have hr' : (m.push (.cells true (rowR rs[i]))).get rb = .cells own2 (rowR r) := by rw [Mem.get_push_ne _ (by omega)]; exact hr
  have hb := (Y.step_eq Try.prog kp 0 hdf 130 k (loopN Try.f31 0) (fullN 130 (up x [(0, .slice (some ⟨b, 0, sp⟩) rs.length cap), (3, .pointer (some ⟨rb, 0, none⟩)), (4, .int .i64 a4), (5, .int .i64 (i : Int)), (6, a6)])) m).trans (t_told1 ..)
  simp only [lt_len hlt, cond_true, onNat_c, blt_t hlt, hm, cells_c, rows_ble hlt, rows_sub hg, cfOf_at, hcnt, onV, asBo_b, hm', hr', rows_k hg, rows_w hg, rows_s hg, rows_c hg, rows_e hg, rows_h hg, rows_hble hlt, row_w, row_s, row_c, row_e, row_h, row_len, feq_H, Option.elim, asInt_i, kEq_ii, wrap_succ (show i ≤ 1000000 by omega)] at hb
  cases h1 : countsR rs[i] with
  | false =>
    rw [h1] at hb
    exact ⟨fun _ => ⟨_, hb⟩, fun h => (by have := h.1; rw [h1] at this; cases this)⟩
  | true =>
  rw [h1] at hb
  simp only [cond_true] at hb
  by_cases h2 : rs[i].w = r.w
  rotate_left
  · rw [eqF_f h2] at hb
    exact ⟨fun _ => ⟨_, hb⟩, fun h => absurd h.2.1 h2⟩
  rw [eqF_t h2] at hb
  simp only [cond_true] at hb
  by_cases h3 : rs[i].s = r.s
  rotate_left
  · rw [eqF_f h3] at hb
    exact ⟨fun _ => ⟨_, hb⟩, fun h => absurd h.2.2.1 h3⟩
  rw [eqF_t h3] at hb
  simp only [cond_true] at hb
  by_cases h4 : rs[i].c = r.c
  rotate_left
  · rw [eqF_f h4] at hb
    exact ⟨fun h => absurd ⟨h1, h2, h3, .inl h4⟩ h, fun _ => ⟨_, hb⟩⟩
  rw [eqF_t h4] at hb
  simp only [cond_true, cond_false] at hb
  by_cases h5 : rs[i].e = r.e
  rotate_left
  · rw [eqF_f h5] at hb
    exact ⟨fun h => absurd ⟨h1, h2, h3, .inr (.inl h5)⟩ h, fun _ => ⟨_, hb⟩⟩
  rw [eqF_t h5] at hb
  simp only [cond_true, cond_false] at hb
  by_cases h6 : hl rs[i].h = hl r.h
  rotate_left
  · rw [decide_eq_false h6] at hb
    exact ⟨fun h => absurd ⟨h1, h2, h3, .inr (.inr h6)⟩ h, fun _ => ⟨_, hb⟩⟩
  rw [decide_eq_true h6] at hb
  exact ⟨fun _ => ⟨_, hb⟩, fun h => h.2.2.2.elim (fun g => absurd h4 g) (fun g => g.elim (fun g => absurd h5 g) (fun g => absurd h6 g))⟩
set_option maxHeartbeats 4000000 in
theorem told2_turn (hlen : rs.length ≤ 100000) (hm : m.get b = .cells own (rowsC rs ++ rest)) (hr : m.get rb = .cells own2 (rowR r)) (hbm : b < m.size) (hrm : rb < m.size) {df : DFun} (hdf : Y.Typed Try.prog df) (hcnt : ∀ x m, df 43 [.agg ⟨rowR x⟩] m = some (.bool (countsR x), m.push (.cells true (rowR x)))) (k i : Nat) (hlt : i < rs.length) (a4 : Int) (a5 : Value) (x : Nat → Value) :
    (¬ clash2 r rs[i] → ∃ X, codeD Try.prog kp 0 df (drawD Try.prog kp 0 df 130) 130 k (loopN Try.f31 1) (fullN 130 (up x [(0, .slice (some ⟨b, 0, sp⟩) rs.length cap), (3, .pointer (some ⟨rb, 0, none⟩)), (4, .int .i64 a4), (5, a5), (6, .int .i64 (i : Int))])) m = some (.normal, (fullN 130 (up X [(0, .slice (some ⟨b, 0, sp⟩) rs.length cap), (3, .pointer (some ⟨rb, 0, none⟩)), (4, .int .i64 a4), (5, a5), (6, .int .i64 ((i + 1 : Nat) : Int))])), m.push (.cells true (rowR rs[i])))) ∧
    (clash2 r rs[i] → ∃ X, codeD Try.prog kp 0 df (drawD Try.prog kp 0 df 130) 130 k (loopN Try.f31 1) (fullN 130 (up x [(0, .slice (some ⟨b, 0, sp⟩) rs.length cap), (3, .pointer (some ⟨rb, 0, none⟩)), (4, .int .i64 a4), (5, a5), (6, .int .i64 (i : Int))])) m = some (.ret, (fullN 130 (up X [(0, .slice (some ⟨b, 0, sp⟩) rs.length cap), (3, .pointer (some ⟨rb, 0, none⟩)), (4, .int .i64 11), (5, a5), (6, .int .i64 (i : Int))])), m.push (.cells true (rowR rs[i])))) := by
  have hg : rs[i]? = some rs[i] := List.getElem?_eq_getElem hlt
  have hm' : (m.push (.cells true (rowR rs[i]))).get b = .cells own (rowsC rs ++ rest) := by rw [Mem.get_push_ne _ (by omega)]; exact hm
  have hr' : (m.push (.cells true (rowR rs[i]))).get rb = .cells own2 (rowR r) := by rw [Mem.get_push_ne _ (by omega)]; exact hr
  have hb := (Y.step_eq Try.prog kp 0 hdf 130 k (loopN Try.f31 1) (fullN 130 (up x [(0, .slice (some ⟨b, 0, sp⟩) rs.length cap), (3, .pointer (some ⟨rb, 0, none⟩)), (4, .int .i64 a4), (5, a5), (6, .int .i64 (i : Int))])) m).trans (t_told2 ..)
  simp only [lt_len hlt, cond_true, onNat_c, blt_t hlt, hm, cells_c, rows_ble hlt, rows_sub hg, cfOf_at, hcnt, onV, asBo_b, hm', hr', rows_k hg, rows_w hg, rows_s hg, rows_c hg, rows_e hg, rows_h hg, rows_hble hlt, row_w, row_s, row_c, row_e, row_h, row_len, feq_H, Option.elim, asInt_i, kEq_ii, wrap_succ (show i ≤ 1000000 by omega)] at hb
  cases h1 : countsR rs[i] with
  | false =>
    rw [h1] at hb
    exact ⟨fun _ => ⟨_, hb⟩, fun h => (by have := h.1; rw [h1] at this; cases this)⟩
  | true =>
  rw [h1] at hb
  simp only [cond_true] at hb
  by_cases h2 : r.c = 0
  rotate_left
  · rw [eqF_f h2] at hb
    exact ⟨fun _ => ⟨_, hb⟩, fun h => absurd h.2.1 h2⟩
  rw [eqF_t h2] at hb
  simp only [cond_true] at hb
  by_cases h3 : rs[i].c = 0
  rotate_left
  · rw [eqF_f h3] at hb
    exact ⟨fun _ => ⟨_, hb⟩, fun h => absurd h.2.2.1 h3⟩
  rw [eqF_t h3] at hb
  simp only [cond_true] at hb
  by_cases h4 : 0 < r.e
  rotate_left
  · rw [ltF_f h4] at hb
    exact ⟨fun _ => ⟨_, hb⟩, fun h => absurd h.2.2.2.1 h4⟩
  rw [ltF_t h4] at hb
  simp only [cond_true] at hb
  by_cases h5 : rs[i].e = r.e
  rotate_left
  · rw [eqF_f h5] at hb
    exact ⟨fun _ => ⟨_, hb⟩, fun h => absurd h.2.2.2.2.1 h5⟩
  rw [eqF_t h5] at hb
  simp only [cond_true] at hb
  by_cases h6 : rs[i].w = r.w
  rotate_left
  · rw [eqF_f h6] at hb
    exact ⟨fun h => absurd ⟨h1, h2, h3, h4, h5, .inl h6⟩ h, fun _ => ⟨_, hb⟩⟩
  rw [eqF_t h6] at hb
  simp only [cond_true, cond_false] at hb
  by_cases h7 : rs[i].s = r.s
  rotate_left
  · rw [eqF_f h7] at hb
    exact ⟨fun h => absurd ⟨h1, h2, h3, h4, h5, .inr h7⟩ h, fun _ => ⟨_, hb⟩⟩
  rw [eqF_t h7] at hb
  exact ⟨fun _ => ⟨_, hb⟩, fun h => h.2.2.2.2.2.elim (fun g => absurd h6 g) (fun g => absurd h7 g)⟩
theorem told1_loop (hlen : rs.length ≤ 100000) {df : DFun} (hdf : Y.Typed Try.prog df) (hcnt : ∀ x m, df 43 [.agg ⟨rowR x⟩] m = some (.bool (countsR x), m.push (.cells true (rowR x)))) (k : Nat) (a4 : Int) (a6 : Value) : ∀ (d i : Nat) (m : Mem) (x : Nat → Value) (j : Nat), m.get b = .cells own (rowsC rs ++ rest) → m.get rb = .cells own2 (rowR r) → b < m.size → rb < m.size → rs.length = i + d → d + 1 ≤ j →
    ((¬ ∃ y ∈ rs.drop i, clash1 r y) → ∃ x' m', loopD (codeD Try.prog kp 0 df (drawD Try.prog kp 0 df 130) 130 k (loopN Try.f31 0)) j (fullN 130 (up x [(0, .slice (some ⟨b, 0, sp⟩) rs.length cap), (3, .pointer (some ⟨rb, 0, none⟩)), (4, .int .i64 a4), (5, .int .i64 (i : Int)), (6, a6)])) m = some (.exit 0, (fullN 130 (up x' [(0, .slice (some ⟨b, 0, sp⟩) rs.length cap), (3, .pointer (some ⟨rb, 0, none⟩)), (4, .int .i64 a4), (5, .int .i64 (rs.length : Int)), (6, a6)])), m') ∧ Ext m m') ∧
    ((∃ y ∈ rs.drop i, clash1 r y) → ∃ x' m' v5, loopD (codeD Try.prog kp 0 df (drawD Try.prog kp 0 df 130) 130 k (loopN Try.f31 0)) j (fullN 130 (up x [(0, .slice (some ⟨b, 0, sp⟩) rs.length cap), (3, .pointer (some ⟨rb, 0, none⟩)), (4, .int .i64 a4), (5, .int .i64 (i : Int)), (6, a6)])) m = some (.ret, (fullN 130 (up x' [(0, .slice (some ⟨b, 0, sp⟩) rs.length cap), (3, .pointer (some ⟨rb, 0, none⟩)), (4, .int .i64 10), (5, .int .i64 v5), (6, a6)])), m') ∧ Ext m m')
  | 0, i, m, x, j, hm, hr, hbm, hrm, hi, hj => by
    obtain ⟨j, rfl⟩ : ∃ j', j = j' + 1 := ⟨j - 1, by omega⟩
    obtain rfl : i = rs.length := by omega
    have hb := (Y.step_eq Try.prog kp 0 hdf 130 k (loopN Try.f31 0) (fullN 130 (up x [(0, .slice (some ⟨b, 0, sp⟩) rs.length cap), (3, .pointer (some ⟨rb, 0, none⟩)), (4, .int .i64 a4), (5, .int .i64 (rs.length : Int)), (6, a6)])) m).trans (t_told1 ..)
    simp only [ge_len (Nat.lt_irrefl _), cond_false] at hb
    have hs := loopD_stop j hb (by simp)
    rw [List.drop_length]
    exact ⟨fun _ => ⟨_, m, hs, Ext.refl m⟩, fun h => by obtain ⟨y, hy, _⟩ := h; simp at hy⟩
  | d + 1, i, m, x, j, hm, hr, hbm, hrm, hi, hj => by
    obtain ⟨j, rfl⟩ : ∃ j', j = j' + 1 := ⟨j - 1, by omega⟩
    have hlt : i < rs.length := by omega
    obtain ⟨T1, T2⟩ := told1_turn (b := b) (rb := rb) (sp := sp) (cap := cap) hlen hm hr hbm hrm hdf hcnt k i hlt a4 a6 x
    have hd : rs.drop i = rs[i] :: rs.drop (i + 1) := List.drop_eq_getElem_cons hlt
    have he : Ext m (m.push (.cells true (rowR rs[i]))) := Ext.push _ _
    have hsz := he.size
    by_cases hc : clash1 r rs[i]
    · obtain ⟨X, hX⟩ := T2 hc
      refine ⟨fun h => absurd ⟨rs[i], by rw [hd]; exact List.mem_cons_self .., hc⟩ h, fun _ => ⟨X, _, i, loopD_stop j hX (by simp), he⟩⟩
    · obtain ⟨X, hX⟩ := T1 hc
      obtain ⟨I1, I2⟩ := told1_loop hlen hdf hcnt k a4 a6 d (i + 1) (m.push (.cells true (rowR rs[i]))) X j ((he.get b hbm).trans hm) ((he.get rb hrm).trans hr) (by omega) (by omega) (by omega) (by omega)
      refine ⟨fun h => ?_, fun h => ?_⟩
      · obtain ⟨x', m', hx, h2⟩ := I1 (fun ⟨y, hy, hcy⟩ => h ⟨y, by rw [hd]; exact List.mem_cons_of_mem _ hy, hcy⟩)
        exact ⟨x', m', (loopD_next j hX).trans hx, he.trans h2⟩
      · obtain ⟨x', m', v5, hx, h2⟩ := I2 (by
          obtain ⟨y, hy, hcy⟩ := h
          rw [hd] at hy
          rcases List.mem_cons.1 hy with rfl | hy
          · exact absurd hcy hc
          · exact ⟨y, hy, hcy⟩)
        exact ⟨x', m', v5, (loopD_next j hX).trans hx, he.trans h2⟩
theorem told2_loop (hlen : rs.length ≤ 100000) {df : DFun} (hdf : Y.Typed Try.prog df) (hcnt : ∀ x m, df 43 [.agg ⟨rowR x⟩] m = some (.bool (countsR x), m.push (.cells true (rowR x)))) (k : Nat) (a4 : Int) (a5 : Value) : ∀ (d i : Nat) (m : Mem) (x : Nat → Value) (j : Nat), m.get b = .cells own (rowsC rs ++ rest) → m.get rb = .cells own2 (rowR r) → b < m.size → rb < m.size → rs.length = i + d → d + 1 ≤ j →
    ((¬ ∃ y ∈ rs.drop i, clash2 r y) → ∃ x' m', loopD (codeD Try.prog kp 0 df (drawD Try.prog kp 0 df 130) 130 k (loopN Try.f31 1)) j (fullN 130 (up x [(0, .slice (some ⟨b, 0, sp⟩) rs.length cap), (3, .pointer (some ⟨rb, 0, none⟩)), (4, .int .i64 a4), (5, a5), (6, .int .i64 (i : Int))])) m = some (.exit 2, (fullN 130 (up x' [(0, .slice (some ⟨b, 0, sp⟩) rs.length cap), (3, .pointer (some ⟨rb, 0, none⟩)), (4, .int .i64 a4), (5, a5), (6, .int .i64 (rs.length : Int))])), m') ∧ Ext m m') ∧
    ((∃ y ∈ rs.drop i, clash2 r y) → ∃ x' m' v5, loopD (codeD Try.prog kp 0 df (drawD Try.prog kp 0 df 130) 130 k (loopN Try.f31 1)) j (fullN 130 (up x [(0, .slice (some ⟨b, 0, sp⟩) rs.length cap), (3, .pointer (some ⟨rb, 0, none⟩)), (4, .int .i64 a4), (5, a5), (6, .int .i64 (i : Int))])) m = some (.ret, (fullN 130 (up x' [(0, .slice (some ⟨b, 0, sp⟩) rs.length cap), (3, .pointer (some ⟨rb, 0, none⟩)), (4, .int .i64 11), (5, a5), (6, .int .i64 v5)])), m') ∧ Ext m m')
  | 0, i, m, x, j, hm, hr, hbm, hrm, hi, hj => by
    obtain ⟨j, rfl⟩ : ∃ j', j = j' + 1 := ⟨j - 1, by omega⟩
    obtain rfl : i = rs.length := by omega
    have hb := (Y.step_eq Try.prog kp 0 hdf 130 k (loopN Try.f31 1) (fullN 130 (up x [(0, .slice (some ⟨b, 0, sp⟩) rs.length cap), (3, .pointer (some ⟨rb, 0, none⟩)), (4, .int .i64 a4), (5, a5), (6, .int .i64 (rs.length : Int))])) m).trans (t_told2 ..)
    simp only [ge_len (Nat.lt_irrefl _), cond_false] at hb
    have hs := loopD_stop j hb (by simp)
    rw [List.drop_length]
    exact ⟨fun _ => ⟨_, m, hs, Ext.refl m⟩, fun h => by obtain ⟨y, hy, _⟩ := h; simp at hy⟩
  | d + 1, i, m, x, j, hm, hr, hbm, hrm, hi, hj => by
    obtain ⟨j, rfl⟩ : ∃ j', j = j' + 1 := ⟨j - 1, by omega⟩
    have hlt : i < rs.length := by omega
    obtain ⟨T1, T2⟩ := told2_turn (b := b) (rb := rb) (sp := sp) (cap := cap) hlen hm hr hbm hrm hdf hcnt k i hlt a4 a5 x
    have hd : rs.drop i = rs[i] :: rs.drop (i + 1) := List.drop_eq_getElem_cons hlt
    have he : Ext m (m.push (.cells true (rowR rs[i]))) := Ext.push _ _
    have hsz := he.size
    by_cases hc : clash2 r rs[i]
    · obtain ⟨X, hX⟩ := T2 hc
      refine ⟨fun h => absurd ⟨rs[i], by rw [hd]; exact List.mem_cons_self .., hc⟩ h, fun _ => ⟨X, _, i, loopD_stop j hX (by simp), he⟩⟩
    · obtain ⟨X, hX⟩ := T1 hc
      obtain ⟨I1, I2⟩ := told2_loop hlen hdf hcnt k a4 a5 d (i + 1) (m.push (.cells true (rowR rs[i]))) X j ((he.get b hbm).trans hm) ((he.get rb hrm).trans hr) (by omega) (by omega) (by omega) (by omega)
      refine ⟨fun h => ?_, fun h => ?_⟩
      · obtain ⟨x', m', hx, h2⟩ := I1 (fun ⟨y, hy, hcy⟩ => h ⟨y, by rw [hd]; exact List.mem_cons_of_mem _ hy, hcy⟩)
        exact ⟨x', m', (loopD_next j hX).trans hx, he.trans h2⟩
      · obtain ⟨x', m', v5, hx, h2⟩ := I2 (by
          obtain ⟨y, hy, hcy⟩ := h
          rw [hd] at hy
          rcases List.mem_cons.1 hy with rfl | hy
          · exact absurd hcy hc
          · exact ⟨y, hy, hcy⟩)
        exact ⟨x', m', v5, (loopD_next j hX).trans hx, he.trans h2⟩
end
set_option maxHeartbeats 4000000 in
theorem told_run {b : Nat} {own : Bool} {sp : Option Nat} {cap : Nat} {m : Mem} {rs : List RowT} {rest : List Value} {r : RowT} (hlen : rs.length ≤ 100000) (hm : m.get b = .cells own (rowsC rs ++ rest)) (hbm : b < m.size)
    (o : Orc) (k : Nat) (hk : rs.length + 3 ≤ k) (ho : ∀ a m, o 31 a m = none) (ho43 : ∀ a m, o 43 a m = none) : ∃ m', callN Try.prog kp 0 o k 31 [.slice (some ⟨b, 0, sp⟩) rs.length cap, .agg ⟨rowR r⟩] m = some (.int .i64 (toldR rs r), m') ∧ Ext m m' := by
  obtain ⟨k, rfl⟩ : ∃ k', k = k' + 1 := ⟨k - 1, by omega⟩
  have hcnt : ∀ x m, callN Try.prog kp 0 o k 43 [.agg ⟨rowR x⟩] m = some (.bool (countsR x), m.push (.cells true (rowR x))) := fun x m => counts_run o k (by omega) ho43 x m
  have fin : ∀ (v : Int) (m' : Mem), bodyN Try.prog kp 0 (callN Try.prog kp 0 o k) k 31 [.slice (some ⟨b, 0, sp⟩) rs.length cap, .agg ⟨rowR r⟩] m = some (.int .i64 v, m') → callN Try.prog kp 0 o (k + 1) 31 [.slice (some ⟨b, 0, sp⟩) rs.length cap, .agg ⟨rowR r⟩] m = some (.int .i64 v, m') := fun v m' h => by
    simp only [callN, ho]
    exact (congrArg (filtR Try.prog _) h).trans (filt_i _ _ (by kernel_rfl))
  have hB := (Y.body_eq (Y.callN_typed Try.prog kp 0 o k) (k := k) (c := bodyOf Try.f31) (fn := Try.f31) 130 Try.func31 (by kernel_rfl) [.slice (some ⟨b, 0, sp⟩) rs.length cap, .agg ⟨rowR r⟩] (by kernel_rfl) m).trans (t_told_in ..)
  have hm1 : (m.push (.cells true (rowR r))).get b = .cells own (rowsC rs ++ rest) := by rw [Mem.get_push_ne _ (by omega)]; exact hm
  have hr1 : (m.push (.cells true (rowR r))).get m.size = .cells true (rowR r) := Mem.get_push_same _ _
  have hrw : [Value.int .i64 r.k, .int .i64 r.w, .int .i64 r.t, .int .i64 r.i, .int .i64 r.e, .int .i64 r.s, .int .i64 r.st, .int .i64 r.c, .int .i64 r.tr, .bool r.y] ++ hashC r.h ++ [.int .u64 r.v] = rowR r := rfl
  rw [hrw] at hB
  simp only [hr1, cells_c, row_len43, row_all, cfOf_at, hcnt, onV, asBo_b, cond_true] at hB
  let m2 := (m.push (.cells true (rowR r))).push (.cells true (rowR r))
  have e2 : Ext m m2 := (Ext.push _ _).trans (Ext.push _ _)
  have hm2 : m2.get b = .cells own (rowsC rs ++ rest) := (e2.get b hbm).trans hm
  have hr2 : m2.get m.size = .cells true (rowR r) := by show (Mem.push _ _).get _ = _; rw [Mem.get_push_ne _ (by simp)]; exact hr1
  have hsz2 : m2.size = m.size + 2 := by simp [m2]
  unfold toldR
  cases hc : countsR r with
  | false =>
    rw [hc] at hB
    exact ⟨m2, by rw [if_pos rfl]; exact fin _ _ hB, e2⟩
  | true =>
    rw [hc] at hB
    rw [if_neg (by simp)]
    simp only [cond_true] at hB
    rw [Y.lpOf_eq, Y.loopC_body] at hB
    obtain ⟨I1, I2⟩ := told1_loop (b := b) (rb := m.size) (sp := sp) (cap := cap) (r := r) hlen (Y.callN_typed Try.prog kp 0 o k) hcnt k 0 (.tuple ⟨[]⟩) rs.length 0 m2 _ k hm2 hr2 (by omega) (by omega) (by omega) (by omega)
    rw [List.drop_zero] at I1 I2
    by_cases h1 : ∃ x ∈ rs, clash1 r x
    · obtain ⟨x', m', v5, hx, he⟩ := I2 h1
      rw [if_pos h1]
      refine ⟨m', fin _ _ (hB.trans ((congrArg (fun z => Y.onE z _) hx).trans ?_)), e2.trans he⟩
      rw [Y.onE_some]
      exact t_told_r1 ..
    · obtain ⟨x', m3, hx, he⟩ := I1 h1
      rw [if_neg h1]
      have hB2 := hB.trans ((congrArg (fun z => Y.onE z _) hx).trans ((Y.onE_some ..).trans (t_told_o1 ..)))
      rw [Y.lpOf_eq, Y.loopC_body] at hB2
      have hsz := he.size
      obtain ⟨J1, J2⟩ := told2_loop (b := b) (rb := m.size) (sp := sp) (cap := cap) (r := r) hlen (Y.callN_typed Try.prog kp 0 o k) hcnt k 0 (.int .i64 (rs.length : Int)) rs.length 0 m3 _ k ((he.get b (by omega)).trans hm2) ((he.get m.size (by omega)).trans hr2) (by omega) (by omega) (by omega) (by omega)
      rw [List.drop_zero] at J1 J2
      by_cases h2 : ∃ x ∈ rs, clash2 r x
      · obtain ⟨x2, m4, v5, hx2, he2⟩ := J2 h2
        rw [if_pos h2]
        refine ⟨m4, fin _ _ (hB2.trans ((congrArg (fun z => Y.onE z _) hx2).trans ?_)), (e2.trans he).trans he2⟩
        rw [Y.onE_some]
        exact t_told_r2 ..
      · obtain ⟨x2, m4, hx2, he2⟩ := J1 h2
        rw [if_neg h2]
        refine ⟨m4, fin _ _ (hB2.trans ((congrArg (fun z => Y.onE z _) hx2).trans ?_)), (e2.trans he).trans he2⟩
        rw [Y.onE_some]
        exact t_told_o2 ..
end
end Go.Proofs.Ytfpbiojnbffkpaa
