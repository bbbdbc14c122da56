/-
  JRef3: the reference's counts and told, by the rows.
-/
import Derived.Test.YtfpbiojnbffkpaaB19
import Derived.Test.YtfpbiojnbffkpaaB20
import Derived.Test.YtfpbiojnbffkpaaB10
set_option linter.all false
set_option linter.unusedVariables false
set_option linter.unusedSimpArgs false
namespace Go.Proofs.Ytfpbiojnbffkpaa
open Go Go.DI Go.Proofs Go.Jud
noncomputable section
theorem cfOf_at {α : Type} (df : DFun) (f : FuncId) (a : List Value) (m : Mem) (q : Value → Mem → Option α) : Y.cfOf df f a m q = onV (df f a m) q := rfl
theorem filt_b {f : FuncId} (n : Bool) (m : Mem) (h : okR Try.prog f (.bool n) = true) : filtR Try.prog f (some (.bool n, m)) = some (.bool n, m) := by simp only [filtR, h, cond_true]
/-- What was there is there, and more. -/
structure Ext (m m' : Mem) : Prop where
  size : m.size ≤ m'.size
  get : ∀ j, j < m.size → m'.get j = m.get j
  top : m.top → m'.top
theorem Ext.refl (m : Mem) : Ext m m := ⟨Nat.le_refl _, fun _ _ => rfl, id⟩
theorem Ext.trans {a b c : Mem} (h : Ext a b) (k : Ext b c) : Ext a c := ⟨Nat.le_trans h.size k.size, fun j hj => (k.get j (Nat.lt_of_lt_of_le hj h.size)).trans (h.get j hj), fun t => k.top (h.top t)⟩
theorem Ext.push (m : Mem) (x : Blk) : Ext m (m.push x) := ⟨by simp, fun j hj => Mem.get_push_ne _ (by omega) _, fun t j hj => by
  simp at hj
  rw [Mem.get_push_ne _ (by omega)]; exact t j (by omega)⟩
def countsR (x : RowT) : Bool := decide (x.k = 5) && (x.y && decide (x.c ≠ 61))
theorem counts_run (o : Orc) (k : Nat) (hk : 1 ≤ k) (ho : ∀ a m, o 43 a m = none) (x : RowT) (m : Mem) : callN Try.prog kp 0 o k 43 [.agg ⟨rowR x⟩] m = some (.bool (countsR x), m.push (.cells true (rowR x))) := by
  obtain ⟨k, rfl⟩ : ∃ k', k = k' + 1 := ⟨k - 1, by omega⟩
  simp only [callN, ho]
  refine (congrArg (filtR Try.prog _) ?_).trans (filt_b _ _ (by kernel_rfl))
  rw [Y.body_eq (Y.callN_typed Try.prog kp 0 o k) (c := bodyOf Try.f43) (fn := Try.f43) 15 Try.func43 (by kernel_rfl) _ (by kernel_rfl)]
  refine (t_counts ..).trans ?_
  have hr : (m.push (.cells true (rowR x))).get m.size = .cells true (rowR x) := Mem.get_push_same _ _
  have hrw : [Value.int .i64 x.k, .int .i64 x.w, .int .i64 x.t, .int .i64 x.i, .int .i64 x.e, .int .i64 x.s, .int .i64 x.st, .int .i64 x.c, .int .i64 x.tr, .bool x.y] ++ hashC x.h ++ [.int .u64 x.v] = rowR x := rfl
  rw [hrw]
  simp only [hr, cells_c, row_k, row_y, row_c, Option.elim, asInt_i, asBo_b, kEq_ii, cond_true, countsR]
  by_cases h1 : x.k = 5
  · rw [eqF_t h1, decide_eq_true h1]
    cases hy : x.y with
    | false => rfl
    | true =>
      by_cases h3 : x.c = 61
      · rw [eqF_t h3, decide_eq_false (show ¬ x.c ≠ 61 from fun g => g h3)]; rfl
      · rw [eqF_f h3, decide_eq_true h3]; rfl
  · rw [eqF_f h1, decide_eq_false h1]; rfl
def clash1 (r x : RowT) : Prop := countsR x = true ∧ x.w = r.w ∧ x.s = r.s ∧ (x.c ≠ r.c ∨ x.e ≠ r.e ∨ hl x.h ≠ hl r.h)
def clash2 (r x : RowT) : Prop := countsR x = true ∧ r.c = 0 ∧ x.c = 0 ∧ 0 < r.e ∧ x.e = r.e ∧ (x.w ≠ r.w ∨ x.s ≠ r.s)
open Classical in
def toldR (l : List RowT) (r : RowT) : Int :=
  if countsR r = false then 0 else if ∃ x ∈ l, clash1 r x then 10 else if ∃ x ∈ l, clash2 r x then 11 else 0
section
variable {b rb : Nat} {own own2 : Bool} {sp : Option Nat} {cap : Nat} {m : Mem} {rs : List RowT} {rest : List Value} {r : RowT}
set_option maxHeartbeats 4000000 in
theorem told1_turn (hlen : rs.length ≤ 100000) (hm : m.get b = .cells own (rowsC rs ++ rest)) (hr : m.get rb = .cells own2 (rowR r)) (hbm : b < m.size) (hrm : rb < m.size) {df : DFun} (hdf : Y.Typed Try.prog df) (hcnt : ∀ x m, df 43 [.agg ⟨rowR x⟩] m = some (.bool (countsR x), m.push (.cells true (rowR x)))) (k i : Nat) (hlt : i < rs.length) (a4 : Int) (a6 : Value) (x : Nat → Value) :
    (¬ clash1 r rs[i] → ∃ X, codeD Try.prog kp 0 df (drawD Try.prog kp 0 df 130) 130 k (loopN Try.f31 0) (fullN 130 (up x [(0, .slice (some ⟨b, 0, sp⟩) rs.length cap), (3, .pointer (some ⟨rb, 0, none⟩)), (4, .int .i64 a4), (5, .int .i64 (i : Int)), (6, a6)])) m = some (.normal, (fullN 130 (up X [(0, .slice (some ⟨b, 0, sp⟩) rs.length cap), (3, .pointer (some ⟨rb, 0, none⟩)), (4, .int .i64 a4), (5, .int .i64 ((i + 1 : Nat) : Int)), (6, a6)])), m.push (.cells true (rowR rs[i])))) ∧
    (clash1 r rs[i] → ∃ X, codeD Try.prog kp 0 df (drawD Try.prog kp 0 df 130) 130 k (loopN Try.f31 0) (fullN 130 (up x [(0, .slice (some ⟨b, 0, sp⟩) rs.length cap), (3, .pointer (some ⟨rb, 0, none⟩)), (4, .int .i64 a4), (5, .int .i64 (i : Int)), (6, a6)])) m = some (.ret, (fullN 130 (up X [(0, .slice (some ⟨b, 0, sp⟩) rs.length cap), (3, .pointer (some ⟨rb, 0, none⟩)), (4, .int .i64 10), (5, .int .i64 (i : Int)), (6, a6)])), m.push (.cells true (rowR rs[i])))) := by
  have hg : rs[i]? = some rs[i] := List.getElem?_eq_getElem hlt
  have hm' : (m.push (.cells true (rowR rs[i]))).get b = .cells own (rowsC rs ++ rest) := by rw [Mem.get_push_ne _ (by omega)]; exact hm
  have hr' : (m.push (.cells true (rowR rs[i]))).get rb = .cells own2 (rowR r) := by rw [Mem.get_push_ne _ (by omega)]; exact hr
  have hb := (Y.step_eq Try.prog kp 0 hdf 130 k (loopN Try.f31 0) (fullN 130 (up x [(0, .slice (some ⟨b, 0, sp⟩) rs.length cap), (3, .pointer (some ⟨rb, 0, none⟩)), (4, .int .i64 a4), (5, .int .i64 (i : Int)), (6, a6)])) m).trans (t_told1 ..)
  simp only [lt_len hlt, cond_true, onNat_c, blt_t hlt, hm, cells_c, rows_ble hlt, rows_sub hg, cfOf_at, hcnt, onV, asBo_b, hm', hr', rows_k hg, rows_w hg, rows_s hg, rows_c hg, rows_e hg, rows_h hg, rows_hble hlt, row_w, row_s, row_c, row_e, row_h, row_len, feq_H, Option.elim, asInt_i, kEq_ii, wrap_succ (show i ≤ 1000000 by omega)] at hb
  cases h1 : countsR rs[i] with
  | false =>
    rw [h1] at hb
    exact ⟨fun _ => ⟨_, hb⟩, fun h => (by have := h.1; rw [h1] at this; cases this)⟩
  | true =>
  rw [h1] at hb
  simp only [cond_true] at hb
  by_cases h2 : rs[i].w = r.w
  rotate_left
  · rw [eqF_f h2] at hb
    exact ⟨fun _ => ⟨_, hb⟩, fun h => absurd h.2.1 h2⟩
  rw [eqF_t h2] at hb
  simp only [cond_true] at hb
  by_cases h3 : rs[i].s = r.s
  rotate_left
  · rw [eqF_f h3] at hb
    exact ⟨fun _ => ⟨_, hb⟩, fun h => absurd h.2.2.1 h3⟩
  rw [eqF_t h3] at hb
  simp only [cond_true] at hb
  by_cases h4 : rs[i].c = r.c
  rotate_left
  · rw [eqF_f h4] at hb
    exact ⟨fun h => absurd ⟨h1, h2, h3, .inl h4⟩ h, fun _ => ⟨_, hb⟩⟩
  rw [eqF_t h4] at hb
  simp only [cond_true, cond_false] at hb
  by_cases h5 : rs[i].e = r.e
  rotate_left
  · rw [eqF_f h5] at hb
    exact ⟨fun h => absurd ⟨h1, h2, h3, .inr (.inl h5)⟩ h, fun _ => ⟨_, hb⟩⟩
  rw [eqF_t h5] at hb
  simp only [cond_true, cond_false] at hb
  by_cases h6 : hl rs[i].h = hl r.h
  rotate_left
  · rw [decide_eq_false h6] at hb
    exact ⟨fun h => absurd ⟨h1, h2, h3, .inr (.inr h6)⟩ h, fun _ => ⟨_, hb⟩⟩
  rw [decide_eq_true h6] at hb
  exact ⟨fun _ => ⟨_, hb⟩, fun h => h.2.2.2.elim (fun g => absurd h4 g) (fun g => g.elim (fun g => absurd h5 g) (fun g => absurd h6 g))⟩
set_option maxHeartbeats 4000000 in
theorem told2_turn (hlen : rs.length ≤ 100000) (hm : m.get b = .cells own (rowsC rs ++ rest)) (hr : m.get rb = .cells own2 (rowR r)) (hbm : b < m.size) (hrm : rb < m.size) {df : DFun} (hdf : Y.Typed Try.prog df) (hcnt : ∀ x m, df 43 [.agg ⟨rowR x⟩] m = some (.bool (countsR x), m.push (.cells true (rowR x)))) (k i : Nat) (hlt : i < rs.length) (a4 : Int) (a5 : Value) (x : Nat → Value) :
    (¬ clash2 r rs[i] → ∃ X, codeD Try.prog kp 0 df (drawD Try.prog kp 0 df 130) 130 k (loopN Try.f31 1) (fullN 130 (up x [(0, .slice (some ⟨b, 0, sp⟩) rs.length cap), (3, .pointer (some ⟨rb, 0, none⟩)), (4, .int .i64 a4), (5, a5), (6, .int .i64 (i : Int))])) m = some (.normal, (fullN 130 (up X [(0, .slice (some ⟨b, 0, sp⟩) rs.length cap), (3, .pointer (some ⟨rb, 0, none⟩)), (4, .int .i64 a4), (5, a5), (6, .int .i64 ((i + 1 : Nat) : Int))])), m.push (.cells true (rowR rs[i])))) ∧
    (clash2 r rs[i] → ∃ X, codeD Try.prog kp 0 df (drawD Try.prog kp 0 df 130) 130 k (loopN Try.f31 1) (fullN 130 (up x [(0, .slice (some ⟨b, 0, sp⟩) rs.length cap), (3, .pointer (some ⟨rb, 0, none⟩)), (4, .int .i64 a4), (5, a5), (6, .int .i64 (i : Int))])) m = some (.ret, (fullN 130 (up X [(0, .slice (some ⟨b, 0, sp⟩) rs.length cap), (3, .pointer (some ⟨rb, 0, none⟩)), (4, .int .i64 11), (5, a5), (6, .int .i64 (i : Int))])), m.push (.cells true (rowR rs[i])))) := by
  have hg : rs[i]? = some rs[i] := List.getElem?_eq_getElem hlt
  have hm' : (m.push (.cells true (rowR rs[i]))).get b = .cells own (rowsC rs ++ rest) := by rw [Mem.get_push_ne _ (by omega)]; exact hm
  have hr' : (m.push (.cells true (rowR rs[i]))).get rb = .cells own2 (rowR r) := by rw [Mem.get_push_ne _ (by omega)]; exact hr
  have hb := (Y.step_eq Try.prog kp 0 hdf 130 k (loopN Try.f31 1) (fullN 130 (up x [(0, .slice (some ⟨b, 0, sp⟩) rs.length cap), (3, .pointer (some ⟨rb, 0, none⟩)), (4, .int .i64 a4), (5, a5), (6, .int .i64 (i : Int))])) m).trans (t_told2 ..)
  simp only [lt_len hlt, cond_true, onNat_c, blt_t hlt, hm, cells_c, rows_ble hlt, rows_sub hg, cfOf_at, hcnt, onV, asBo_b, hm', hr', rows_k hg, rows_w hg, rows_s hg, rows_c hg, rows_e hg, rows_h hg, rows_hble hlt, row_w, row_s, row_c, row_e, row_h, row_len, feq_H, Option.elim, asInt_i, kEq_ii, wrap_succ (show i ≤ 1000000 by omega)] at hb
  cases h1 : countsR rs[i] with
  | false =>
    rw [h1] at hb
    exact ⟨fun _ => ⟨_, hb⟩, fun h => (by have := h.1; rw [h1] at this; cases this)⟩
  | true =>
  rw [h1] at hb
  simp only [cond_true] at hb
  by_cases h2 : r.c = 0
  rotate_left
  · rw [eqF_f h2] at hb
    exact ⟨fun _ => ⟨_, hb⟩, fun h => absurd h.2.1 h2⟩
  rw [eqF_t h2] at hb
  simp only [cond_true] at hb
  by_cases h3 : rs[i].c = 0
  rotate_left
  · rw [eqF_f h3] at hb
    exact ⟨fun _ => ⟨_, hb⟩, fun h => absurd h.2.2.1 h3⟩
  rw [eqF_t h3] at hb
  simp only [cond_true] at hb
  by_cases h4 : 0 < r.e
  rotate_left
  · rw [ltF_f h4] at hb
    exact ⟨fun _ => ⟨_, hb⟩, fun h => absurd h.2.2.2.1 h4⟩
  rw [ltF_t h4] at hb
  simp only [cond_true] at hb
  by_cases h5 : rs[i].e = r.e
  rotate_left
  · rw [eqF_f h5] at hb
    exact ⟨fun _ => ⟨_, hb⟩, fun h => absurd h.2.2.2.2.1 h5⟩
  rw [eqF_t h5] at hb
  simp only [cond_true] at hb
  by_cases h6 : rs[i].w = r.w
  rotate_left
  · rw [eqF_f h6] at hb
    exact ⟨fun h => absurd ⟨h1, h2, h3, h4, h5, .inl h6⟩ h, fun _ => ⟨_, hb⟩⟩
  rw [eqF_t h6] at hb
  simp only [cond_true, cond_false] at hb
  by_cases h7 : rs[i].s = r.s
  rotate_left
  · rw [eqF_f h7] at hb
    exact ⟨fun h => absurd ⟨h1, h2, h3, h4, h5, .inr h7⟩ h, fun _ => ⟨_, hb⟩⟩
  rw [eqF_t h7] at hb
  exact ⟨fun _ => ⟨_, hb⟩, fun h => h.2.2.2.2.2.elim (fun g => absurd h6 g) (fun g => absurd h7 g)⟩
theorem told1_loop (hlen : rs.length ≤ 100000) {df : DFun} (hdf : Y.Typed Try.prog df) (hcnt : ∀ x m, df 43 [.agg ⟨rowR x⟩] m = some (.bool (countsR x), m.push (.cells true (rowR x)))) (k : Nat) (a4 : Int) (a6 : Value) : ∀ (d i : Nat) (m : Mem) (x : Nat → Value) (j : Nat), m.get b = .cells own (rowsC rs ++ rest) → m.get rb = .cells own2 (rowR r) → b < m.size → rb < m.size → rs.length = i + d → d + 1 ≤ j →
    ((¬ ∃ y ∈ rs.drop i, clash1 r y) → ∃ x' m', loopD (codeD Try.prog kp 0 df (drawD Try.prog kp 0 df 130) 130 k (loopN Try.f31 0)) j (fullN 130 (up x [(0, .slice (some ⟨b, 0, sp⟩) rs.length cap), (3, .pointer (some ⟨rb, 0, none⟩)), (4, .int .i64 a4), (5, .int .i64 (i : Int)), (6, a6)])) m = some (.exit 0, (fullN 130 (up x' [(0, .slice (some ⟨b, 0, sp⟩) rs.length cap), (3, .pointer (some ⟨rb, 0, none⟩)), (4, .int .i64 a4), (5, .int .i64 (rs.length : Int)), (6, a6)])), m') ∧ Ext m m') ∧
    ((∃ y ∈ rs.drop i, clash1 r y) → ∃ x' m' v5, loopD (codeD Try.prog kp 0 df (drawD Try.prog kp 0 df 130) 130 k (loopN Try.f31 0)) j (fullN 130 (up x [(0, .slice (some ⟨b, 0, sp⟩) rs.length cap), (3, .pointer (some ⟨rb, 0, none⟩)), (4, .int .i64 a4), (5, .int .i64 (i : Int)), (6, a6)])) m = some (.ret, (fullN 130 (up x' [(0, .slice (some ⟨b, 0, sp⟩) rs.length cap), (3, .pointer (some ⟨rb, 0, none⟩)), (4, .int .i64 10), (5, .int .i64 v5), (6, a6)])), m') ∧ Ext m m')
  | 0, i, m, x, j, hm, hr, hbm, hrm, hi, hj => by
    obtain ⟨j, rfl⟩ : ∃ j', j = j' + 1 := ⟨j - 1, by omega⟩
    obtain rfl : i = rs.length := by omega
    have hb := (Y.step_eq Try.prog kp 0 hdf 130 k (loopN Try.f31 0) (fullN 130 (up x [(0, .slice (some ⟨b, 0, sp⟩) rs.length cap), (3, .pointer (some ⟨rb, 0, none⟩)), (4, .int .i64 a4), (5, .int .i64 (rs.length : Int)), (6, a6)])) m).trans (t_told1 ..)
    simp only [ge_len (Nat.lt_irrefl _), cond_false] at hb
    have hs := loopD_stop j hb (by simp)
    rw [List.drop_length]
    exact ⟨fun _ => ⟨_, m, hs, Ext.refl m⟩, fun h => by obtain ⟨y, hy, _⟩ := h; simp at hy⟩
  | d + 1, i, m, x, j, hm, hr, hbm, hrm, hi, hj => by
    obtain ⟨j, rfl⟩ : ∃ j', j = j' + 1 := ⟨j - 1, by omega⟩
    have hlt : i < rs.length := by omega
    obtain ⟨T1, T2⟩ := told1_turn (b := b) (rb := rb) (sp := sp) (cap := cap) hlen hm hr hbm hrm hdf hcnt k i hlt a4 a6 x
    have hd : rs.drop i = rs[i] :: rs.drop (i + 1) := List.drop_eq_getElem_cons hlt
    have he : Ext m (m.push (.cells true (rowR rs[i]))) := Ext.push _ _
    have hsz := he.size
    by_cases hc : clash1 r rs[i]
    · obtain ⟨X, hX⟩ := T2 hc
      refine ⟨fun h => absurd ⟨rs[i], by rw [hd]; exact List.mem_cons_self .., hc⟩ h, fun _ => ⟨X, _, i, loopD_stop j hX (by simp), he⟩⟩
    · obtain ⟨X, hX⟩ := T1 hc
      obtain ⟨I1, I2⟩ := told1_loop hlen hdf hcnt k a4 a6 d (i + 1) (m.push (.cells true (rowR rs[i]))) X j ((he.get b hbm).trans hm) ((he.get rb hrm).trans hr) (by omega) (by omega) (by omega) (by omega)
      refine ⟨fun h => ?_, fun h => ?_⟩
      · obtain ⟨x', m', hx, h2⟩ := I1 (fun ⟨y, hy, hcy⟩ => h ⟨y, by rw [hd]; exact List.mem_cons_of_mem _ hy, hcy⟩)
        exact ⟨x', m', (loopD_next j hX).trans hx, he.trans h2⟩
      · obtain ⟨x', m', v5, hx, h2⟩ := I2 (by
          obtain ⟨y, hy, hcy⟩ := h
          rw [hd] at hy
          rcases List.mem_cons.1 hy with rfl | hy
          · exact absurd hcy hc
          · exact ⟨y, hy, hcy⟩)
        exact ⟨x', m', v5, (loopD_next j hX).trans hx, he.trans h2⟩
theorem told2_loop (hlen : rs.length ≤ 100000) {df : DFun} (hdf : Y.Typed Try.prog df) (hcnt : ∀ x m, df 43 [.agg ⟨rowR x⟩] m = some (.bool (countsR x), m.push (.cells true (rowR x)))) (k : Nat) (a4 : Int) (a5 : Value) : ∀ (d i : Nat) (m : Mem) (x : Nat → Value) (j : Nat), m.get b = .cells own (rowsC rs ++ rest) → m.get rb = .cells own2 (rowR r) → b < m.size → rb < m.size → rs.length = i + d → d + 1 ≤ j →
    ((¬ ∃ y ∈ rs.drop i, clash2 r y) → ∃ x' m', loopD (codeD Try.prog kp 0 df (drawD Try.prog kp 0 df 130) 130 k (loopN Try.f31 1)) j (fullN 130 (up x [(0, .slice (some ⟨b, 0, sp⟩) rs.length cap), (3, .pointer (some ⟨rb, 0, none⟩)), (4, .int .i64 a4), (5, a5), (6, .int .i64 (i : Int))])) m = some (.exit 2, (fullN 130 (up x' [(0, .slice (some ⟨b, 0, sp⟩) rs.length cap), (3, .pointer (some ⟨rb, 0, none⟩)), (4, .int .i64 a4), (5, a5), (6, .int .i64 (rs.length : Int))])), m') ∧ Ext m m') ∧
    ((∃ y ∈ rs.drop i, clash2 r y) → ∃ x' m' v5, loopD (codeD Try.prog kp 0 df (drawD Try.prog kp 0 df 130) 130 k (loopN Try.f31 1)) j (fullN 130 (up x [(0, .slice (some ⟨b, 0, sp⟩) rs.length cap), (3, .pointer (some ⟨rb, 0, none⟩)), (4, .int .i64 a4), (5, a5), (6, .int .i64 (i : Int))])) m = some (.ret, (fullN 130 (up x' [(0, .slice (some ⟨b, 0, sp⟩) rs.length cap), (3, .pointer (some ⟨rb, 0, none⟩)), (4, .int .i64 11), (5, a5), (6, .int .i64 v5)])), m') ∧ Ext m m')
  | 0, i, m, x, j, hm, hr, hbm, hrm, hi, hj => by
    obtain ⟨j, rfl⟩ : ∃ j', j = j' + 1 := ⟨j - 1, by omega⟩
    obtain rfl : i = rs.length := by omega
    have hb := (Y.step_eq Try.prog kp 0 hdf 130 k (loopN Try.f31 1) (fullN 130 (up x [(0, .slice (some ⟨b, 0, sp⟩) rs.length cap), (3, .pointer (some ⟨rb, 0, none⟩)), (4, .int .i64 a4), (5, a5), (6, .int .i64 (rs.length : Int))])) m).trans (t_told2 ..)
    simp only [ge_len (Nat.lt_irrefl _), cond_false] at hb
    have hs := loopD_stop j hb (by simp)
    rw [List.drop_length]
    exact ⟨fun _ => ⟨_, m, hs, Ext.refl m⟩, fun h => by obtain ⟨y, hy, _⟩ := h; simp at hy⟩
  | d + 1, i, m, x, j, hm, hr, hbm, hrm, hi, hj => by
    obtain ⟨j, rfl⟩ : ∃ j', j = j' + 1 := ⟨j - 1, by omega⟩
    have hlt : i < rs.length := by omega
    obtain ⟨T1, T2⟩ := told2_turn (b := b) (rb := rb) (sp := sp) (cap := cap) hlen hm hr hbm hrm hdf hcnt k i hlt a4 a5 x
    have hd : rs.drop i = rs[i] :: rs.drop (i + 1) := List.drop_eq_getElem_cons hlt
    have he : Ext m (m.push (.cells true (rowR rs[i]))) := Ext.push _ _
    have hsz := he.size
    by_cases hc : clash2 r rs[i]
    · obtain ⟨X, hX⟩ := T2 hc
      refine ⟨fun h => absurd ⟨rs[i], by rw [hd]; exact List.mem_cons_self .., hc⟩ h, fun _ => ⟨X, _, i, loopD_stop j hX (by simp), he⟩⟩
    · obtain ⟨X, hX⟩ := T1 hc
      obtain ⟨I1, I2⟩ := told2_loop hlen hdf hcnt k a4 a5 d (i + 1) (m.push (.cells true (rowR rs[i]))) X j ((he.get b hbm).trans hm) ((he.get rb hrm).trans hr) (by omega) (by omega) (by omega) (by omega)
      refine ⟨fun h => ?_, fun h => ?_⟩
      · obtain ⟨x', m', hx, h2⟩ := I1 (fun ⟨y, hy, hcy⟩ => h ⟨y, by rw [hd]; exact List.mem_cons_of_mem _ hy, hcy⟩)
        exact ⟨x', m', (loopD_next j hX).trans hx, he.trans h2⟩
      · obtain ⟨x', m', v5, hx, h2⟩ := I2 (by
          obtain ⟨y, hy, hcy⟩ := h
          rw [hd] at hy
          rcases List.mem_cons.1 hy with rfl | hy
          · exact absurd hcy hc
          · exact ⟨y, hy, hcy⟩)
        exact ⟨x', m', v5, (loopD_next j hX).trans hx, he.trans h2⟩
end
set_option maxHeartbeats 4000000 in
theorem told_run {b : Nat} {own : Bool} {sp : Option Nat} {cap : Nat} {m : Mem} {rs : List RowT} {rest : List Value} {r : RowT} (hlen : rs.length ≤ 100000) (hm : m.get b = .cells own (rowsC rs ++ rest)) (hbm : b < m.size)
    (o : Orc) (k : Nat) (hk : rs.length + 3 ≤ k) (ho : ∀ a m, o 31 a m = none) (ho43 : ∀ a m, o 43 a m = none) : ∃ m', callN Try.prog kp 0 o k 31 [.slice (some ⟨b, 0, sp⟩) rs.length cap, .agg ⟨rowR r⟩] m = some (.int .i64 (toldR rs r), m') ∧ Ext m m' := by
  obtain ⟨k, rfl⟩ : ∃ k', k = k' + 1 := ⟨k - 1, by omega⟩
  have hcnt : ∀ x m, callN Try.prog kp 0 o k 43 [.agg ⟨rowR x⟩] m = some (.bool (countsR x), m.push (.cells true (rowR x))) := fun x m => counts_run o k (by omega) ho43 x m
  have fin : ∀ (v : Int) (m' : Mem), bodyN Try.prog kp 0 (callN Try.prog kp 0 o k) k 31 [.slice (some ⟨b, 0, sp⟩) rs.length cap, .agg ⟨rowR r⟩] m = some (.int .i64 v, m') → callN Try.prog kp 0 o (k + 1) 31 [.slice (some ⟨b, 0, sp⟩) rs.length cap, .agg ⟨rowR r⟩] m = some (.int .i64 v, m') := fun v m' h => by
    simp only [callN, ho]
    exact (congrArg (filtR Try.prog _) h).trans (filt_i _ _ (by kernel_rfl))
  have hB := (Y.body_eq (Y.callN_typed Try.prog kp 0 o k) (k := k) (c := bodyOf Try.f31) (fn := Try.f31) 130 Try.func31 (by kernel_rfl) [.slice (some ⟨b, 0, sp⟩) rs.length cap, .agg ⟨rowR r⟩] (by kernel_rfl) m).trans (t_told_in ..)
  have hm1 : (m.push (.cells true (rowR r))).get b = .cells own (rowsC rs ++ rest) := by rw [Mem.get_push_ne _ (by omega)]; exact hm
  have hr1 : (m.push (.cells true (rowR r))).get m.size = .cells true (rowR r) := Mem.get_push_same _ _
  have hrw : [Value.int .i64 r.k, .int .i64 r.w, .int .i64 r.t, .int .i64 r.i, .int .i64 r.e, .int .i64 r.s, .int .i64 r.st, .int .i64 r.c, .int .i64 r.tr, .bool r.y] ++ hashC r.h ++ [.int .u64 r.v] = rowR r := rfl
  rw [hrw] at hB
  simp only [hr1, cells_c, row_len43, row_all, cfOf_at, hcnt, onV, asBo_b, cond_true] at hB
  let m2 := (m.push (.cells true (rowR r))).push (.cells true (rowR r))
  have e2 : Ext m m2 := (Ext.push _ _).trans (Ext.push _ _)
  have hm2 : m2.get b = .cells own (rowsC rs ++ rest) := (e2.get b hbm).trans hm
  have hr2 : m2.get m.size = .cells true (rowR r) := by show (Mem.push _ _).get _ = _; rw [Mem.get_push_ne _ (by simp)]; exact hr1
  have hsz2 : m2.size = m.size + 2 := by simp [m2]
  unfold toldR
  cases hc : countsR r with
  | false =>
    rw [hc] at hB
    exact ⟨m2, by rw [if_pos rfl]; exact fin _ _ hB, e2⟩
  | true =>
    rw [hc] at hB
    rw [if_neg (by simp)]
    simp only [cond_true] at hB
    rw [Y.lpOf_eq, Y.loopC_body] at hB
    obtain ⟨I1, I2⟩ := told1_loop (b := b) (rb := m.size) (sp := sp) (cap := cap) (r := r) hlen (Y.callN_typed Try.prog kp 0 o k) hcnt k 0 (.tuple ⟨[]⟩) rs.length 0 m2 _ k hm2 hr2 (by omega) (by omega) (by omega) (by omega)
    rw [List.drop_zero] at I1 I2
    by_cases h1 : ∃ x ∈ rs, clash1 r x
    · obtain ⟨x', m', v5, hx, he⟩ := I2 h1
      rw [if_pos h1]
      refine ⟨m', fin _ _ (hB.trans ((congrArg (fun z => Y.onE z _) hx).trans ?_)), e2.trans he⟩
      rw [Y.onE_some]
      exact t_told_r1 ..
    · obtain ⟨x', m3, hx, he⟩ := I1 h1
      rw [if_neg h1]
      have hB2 := hB.trans ((congrArg (fun z => Y.onE z _) hx).trans ((Y.onE_some ..).trans (t_told_o1 ..)))
      rw [Y.lpOf_eq, Y.loopC_body] at hB2
      have hsz := he.size
      obtain ⟨J1, J2⟩ := told2_loop (b := b) (rb := m.size) (sp := sp) (cap := cap) (r := r) hlen (Y.callN_typed Try.prog kp 0 o k) hcnt k 0 (.int .i64 (rs.length : Int)) rs.length 0 m3 _ k ((he.get b (by omega)).trans hm2) ((he.get m.size (by omega)).trans hr2) (by omega) (by omega) (by omega) (by omega)
      rw [List.drop_zero] at J1 J2
      by_cases h2 : ∃ x ∈ rs, clash2 r x
      · obtain ⟨x2, m4, v5, hx2, he2⟩ := J2 h2
        rw [if_pos h2]
        refine ⟨m4, fin _ _ (hB2.trans ((congrArg (fun z => Y.onE z _) hx2).trans ?_)), (e2.trans he).trans he2⟩
        rw [Y.onE_some]
        exact t_told_r2 ..
      · obtain ⟨x2, m4, hx2, he2⟩ := J1 h2
        rw [if_neg h2]
        refine ⟨m4, fin _ _ (hB2.trans ((congrArg (fun z => Y.onE z _) hx2).trans ?_)), (e2.trans he).trans he2⟩
        rw [Y.onE_some]
        exact t_told_o2 ..
end
end Go.Proofs.Ytfpbiojnbffkpaa
/-
  JNew: a new judge, and the epoch that a judge tells.
-/
namespace Go.Proofs.Ytfpbiojnbffkpaa
open Go Go.DI Go.Proofs Go.Jud
noncomputable section
def newM (m : Mem) (n : Int) : Mem :=
  (((((((m.push (.map true [] 0)).push (.map true [] 0)).push (.map true [] 0)).push (.map true [] 0)).push (.map true [] 0)).push (.map true [] 0)).push (.map true [] 0)).push (.cells true (judL (.int .i64 n) (.slice none 0 0) (.int .i64 0) (.int .i64 0) (.int .i64 0) (.int .i64 0) (.int .i64 0) (.int .i64 0) m.size (m.size + 1) (m.size + 2) (m.size + 3) (m.size + 4) (m.size + 5) (m.size + 6)))
def newV (m : Mem) : Value := .tuple ⟨[.pointer (some ⟨m.size + 7, 0, none⟩), .int .i64 0]⟩
def nilV : Value := .tuple ⟨[.pointer none, .int .i64 1]⟩
theorem filt_n {v : Value} (m : Mem) (h : okR Try.prog 12 v = true) : filtR Try.prog 12 (some (v, m)) = some (v, m) := by simp only [filtR, h, cond_true]
theorem new_run (o : Orc) (k : Nat) (hk : 1 ≤ k) (ho : ∀ a m, o 12 a m = none) (n : Int) (m : Mem) : callN Try.prog kp 0 o k 12 [.int .i64 n] m = cond (Y.ltF n 1) (some (nilV, m)) (cond (Y.ltF 4 n) (some (nilV, m)) (some (newV m, newM m n))) := by
  obtain ⟨k, rfl⟩ : ∃ k', k = k' + 1 := ⟨k - 1, by omega⟩
  simp only [callN, ho]
  rw [Y.body_eq (Y.callN_typed Try.prog kp 0 o k) (c := bodyOf Try.f12) (fn := Try.f12) 20 Try.func12 (by kernel_rfl) _ (by kernel_rfl)]
  refine (congrArg (filtR Try.prog 12) (t_new ..)).trans ?_
  cases Y.ltF n 1 with
  | true => exact filt_n m (by kernel_rfl)
  | false =>
    cases Y.ltF 4 n with
    | true => exact filt_n m (by kernel_rfl)
    | false => exact filt_n (v := newV m) _ (by kernel_rfl)
/-- Where a new judge lies. -/
def rhoN (s : Nat) (i : Nat) : Nat := match i with | 0 => s + 7 | 8 => 0 | i + 1 => s + i
theorem newM_size (m : Mem) (n : Int) : (newM m n).size = m.size + 8 := rfl
theorem newM_ext (m : Mem) (n : Int) : Ext m (newM m n) :=
  (((((((Ext.push m _).trans (Ext.push _ _)).trans (Ext.push _ _)).trans (Ext.push _ _)).trans (Ext.push _ _)).trans (Ext.push _ _)).trans (Ext.push _ _)).trans (Ext.push _ _)
theorem newM_map (m : Mem) (n : Int) (i : Nat) (hi : i < 7) : (newM m n).get (m.size + i) = .map true [] 0 := by
  unfold newM
  rcases (show i = 0 ∨ i = 1 ∨ i = 2 ∨ i = 3 ∨ i = 4 ∨ i = 5 ∨ i = 6 by omega) with rfl | rfl | rfl | rfl | rfl | rfl | rfl
  all_goals
    simp only [Mem.get_push, Mem.size_push]
    repeat (first | rfl | rw [if_pos trivial] | rw [if_pos (by omega)] | rw [if_neg (by omega)])
theorem new_holds (m : Mem) (n : Int) : Holds (JS.new n) (rhoN m.size) (newM m n) := by
  have hm := newM_map m n
  refine ⟨?_, hm 0 (by omega), hm 1 (by omega), hm 2 (by omega), hm 3 (by omega), hm 4 (by omega), hm 5 (by omega), hm 6 (by omega), fun h => absurd rfl h, fun i hi => ?_, fun i j hi hj e => ?_⟩
  · show (newM m n).get (m.size + 7) = _
    exact (Mem.get_push_same _ _)
  · have h8 : i < 8 := by
      have : isL (JS.new n) = false := rfl
      rw [this] at hi
      simpa [seeJ] using hi
    rw [newM_size]
    rcases (show i = 0 ∨ i = 1 ∨ i = 2 ∨ i = 3 ∨ i = 4 ∨ i = 5 ∨ i = 6 ∨ i = 7 by omega) with rfl | rfl | rfl | rfl | rfl | rfl | rfl | rfl <;> simp [rhoN]
  · have hf : isL (JS.new n) = false := rfl
    rw [hf] at hi hj
    have h8 : i < 8 := by simpa [seeJ] using hi
    have k8 : j < 8 := by simpa [seeJ] using hj
    have e0 : ∀ i, i < 8 → rhoN m.size i = m.size + (if i = 0 then 7 else i - 1) := fun i hi => by
      rcases (show i = 0 ∨ i = 1 ∨ i = 2 ∨ i = 3 ∨ i = 4 ∨ i = 5 ∨ i = 6 ∨ i = 7 by omega) with rfl | rfl | rfl | rfl | rfl | rfl | rfl | rfl <;> rfl
    rw [e0 i h8, e0 j k8] at e
    split at e <;> split at e <;> omega
theorem jep_run (o : Orc) (k : Nat) (hk : 1 ≤ k) (ho : ∀ a m, o 16 a m = none) {S : JS} {ρ : Nat → Nat} {m : Mem} (hH : Holds S ρ m) (h4 : S.n ≤ 4) (n : Int) : callN Try.prog kp 0 o k 16 [.pointer (some ⟨ρ 0, 0, none⟩), .int .i64 n] m = some (.int .i64 (if n < 1 ∨ S.n < n then 0 else S.ep n.toNat), m) := by
  obtain ⟨k, rfl⟩ : ∃ k', k = k' + 1 := ⟨k - 1, by omega⟩
  simp only [callN, ho]
  refine (congrArg (filtR Try.prog _) ?_).trans (filt_i _ _ (by kernel_rfl))
  rw [Y.body_eq (Y.callN_typed Try.prog kp 0 o k) (c := bodyOf Try.f16) (fn := Try.f16) 25 Try.func16 (by kernel_rfl) _ (by kernel_rfl)]
  refine (t_jep ..).trans ?_
  by_cases h1 : n < 1
  · rw [ltF_t h1, if_pos (.inl h1)]; rfl
  rw [ltF_f h1]
  have hn0 : Y.nthL (judL (.int .i64 S.n) (logV (ρ 8) S.log) (.int .i64 (S.ep 0)) (.int .i64 (S.ep 1)) (.int .i64 (S.ep 2)) (.int .i64 (S.ep 3)) (.int .i64 (S.ep 4)) (.int .i64 S.top) (ρ 1) (ρ 2) (ρ 3) (ρ 4) (ρ 5) (ρ 6) (ρ 7)) 0 = some (.int .i64 S.n) := rfl
  simp only [hH.b0, cells_c, hn0, Option.elim, asInt_i, kEq_ii, cond_true, cond_false]
  by_cases h2 : S.n < n
  · rw [ltF_t h2, if_pos (.inr h2)]; rfl
  rw [ltF_f h2, if_neg (fun e => e.elim h1 h2)]
  rcases (show n = 1 ∨ n = 2 ∨ n = 3 ∨ n = 4 by omega) with rfl | rfl | rfl | rfl <;> rfl
end
end Go.Proofs.Ytfpbiojnbffkpaa
/-
  JCfN: trees in which New is written out.
-/
namespace Go.Proofs.Ytfpbiojnbffkpaa
open Go Go.DI Go.Proofs Go.Jud
noncomputable section
variable {α : Type}
/-- Calls; New is known. -/
def cfN (cf : Y.CF α) : Y.CF α := fun f a m q =>
  match f, a with
  | 12, [.int .i64 n] => cond (Y.ltF n 1) (q nilV m) (cond (Y.ltF 4 n) (q nilV m) (q (newV m) (newM m n)))
  | f, a => Y.cfT Try.prog cf f a m q
theorem cfN_of (df : DFun) (h : Y.Typed Try.prog df) (h12 : ∀ n m, df 12 [.int .i64 n] m = cond (Y.ltF n 1) (some (nilV, m)) (cond (Y.ltF 4 n) (some (nilV, m)) (some (newV m, newM m n)))) (f : FuncId) (a : List Value) (m : Mem) (q : Value → Mem → Option α) : cfN (Y.cfOf df) f a m q = onV (df f a m) q := by
  unfold cfN
  split
  · rename_i n
    rw [h12]
    cases Y.ltF n 1 <;> cases Y.ltF 4 n <;> rfl
  · exact Y.cfT_of Try.prog df h _ _ _ _
/-- 'body_eq' for any calls that are df's. -/
theorem body_eqN {df : DFun} {cf : Y.CF (Value × Mem)} (hcf : ∀ f a m (q : Value → Mem → Option (Value × Mem)), cf f a m q = onV (df f a m) q) {k : Nat} {f : FuncId} {fn : Func} {c : Code} (n : Nat) (hf : Try.prog.funcs[f]? = some fn) (hc : fn.body = some c) (args : List Value) (hn : max args.length fn.ntmps = n) (m : Mem) :
    bodyN Try.prog kp 0 df k f args m = Y.codeF c Try.prog kp 0 cf (Y.lpOf Try.prog kp 0 df n) n k (fullN n (argX args)) m (Y.retF Try.prog fn fun v m => some (v, m)) := by
  rw [Y.codeF_eq Try.prog kp 0 cf df hcf (Y.lpOf Try.prog kp 0 df n) n k (fun _ _ _ _ _ _ => rfl), bodyN, hf]
  simp only [hc, hn]
  cases codeD Try.prog kp 0 df (drawD Try.prog kp 0 df n) n k c (fullN n (argX args)) m with
  | none => rfl
  | some r =>
    obtain ⟨e, t, m'⟩ := r
    cases e with
    | normal =>
      show _ = Y.resF fn.results.toList Try.prog t m' fun vs => some (resV vs, m')
      rw [Y.resF_eq]
      simp only [endD]
      cases resD Try.prog t m' fn.results.toList <;> rfl
    | exit id => rfl
    | ret =>
      show _ = Y.resF fn.results.toList Try.prog t m' fun vs => some (resV vs, m')
      rw [Y.resF_eq]
      simp only [endD]
      cases resD Try.prog t m' fn.results.toList <;> rfl
end
end Go.Proofs.Ytfpbiojnbffkpaa
/-
  JMark: a turn in pieces: one region is set apart (as a loop that is gone through once), and its operations are gone through in two goes.
-/
namespace Go.Proofs.Ytfpbiojnbffkpaa
open Go Go.DI Go.Proofs Go.Jud
noncomputable section
variable {α : Type}
def markC (id : Nat) : Code → Code
  | .region i ops d => cond (Nat.beq i id) (.loop (.region i ops d)) (.region i ops d)
  | .seq a b => .seq (markC id a) (markC id b)
  | .cond c a b => .cond c (markC id a) (markC id b)
  | .block j c => .block j (markC id c)
  | c => c
def noLoop : Code → Bool
  | .region _ _ _ => true
  | .seq a b => noLoop a && noLoop b
  | .cond _ a b => noLoop a && noLoop b
  | .block _ c => noLoop c
  | .skip => true
  | .exit _ => true
  | .ret => true
  | _ => false
/-- A loop's body, once. -/
def onceL : Y.LK α := fun body _ _ t m q => body t m q
theorem mark_eq (id : Nat) (P : Program) (K : TypeId → Bool) (G : Nat) (cf : Y.CF α) (L : Y.LK α) (n k : Nat) : ∀ (c : Code), noLoop c = true → ∀ (t : Tmps) (m : Mem) (q : Y.ExK α), Y.codeF c P K G cf L n k t m q = Y.codeF (markC id c) P K G cf onceL n k t m q := by
  intro c
  induction c with
  | skip => intros; rfl
  | exit => intros; rfl
  | ret => intros; rfl
  | region i ops d =>
    intro _ t m q
    unfold markC
    cases Nat.beq i id <;> rfl
  | seq a b ia ib =>
    intro h t m q
    simp only [noLoop, Bool.and_eq_true] at h
    refine (ia h.1 ..).trans ?_
    show _ = Y.codeF (markC id a) P K G cf onceL n k t m fun e t m => Ex.rec (motive := fun _ => Option α) (Y.codeF (markC id b) P K G cf onceL n k t m q) (fun id => q (.exit id) t m) (q .ret t m) e
    congr 1
    funext e t m
    cases e with
    | normal => exact ib h.2 ..
    | exit => rfl
    | ret => rfl
  | cond c a b ia ib =>
    intro h t m q
    simp only [noLoop, Bool.and_eq_true] at h
    show Y.evF c G t (fun v => Y.asBool v (Y.codeF a P K G cf L n k t m q) (Y.codeF b P K G cf L n k t m q)) = Y.evF c G t (fun v => Y.asBool v (Y.codeF (markC id a) P K G cf onceL n k t m q) (Y.codeF (markC id b) P K G cf onceL n k t m q))
    rw [ia h.1, ib h.2]
  | block j c ic =>
    intro h t m q
    simp only [noLoop] at h
    exact ic h ..
  | _ => intro h; cases h
def opsC : Code → List Oper
  | .region _ ops _ => ops.toList
  | _ => []
theorem region_eq (id : Nat) (ops : Array Oper) (P : Program) (K : TypeId → Bool) (G : Nat) (cf : Y.CF α) (L : Y.LK α) (n k : Nat) (t : Tmps) (m : Mem) (q : Y.ExK α) : Y.codeF (.region id ops false) P K G cf L n k t m q = Y.opsF (opsC (.region id ops false)) P K G cf n (opsC (.region id ops false)) t m fun t m => q .normal t m := rfl
theorem opsF_app (P : Program) (K : TypeId → Bool) (G : Nat) (cf : Y.CF α) (n : Nat) (ops l2 : List Oper) (q : Tmps → Mem → Option α) : ∀ (l1 : List Oper) (t : Tmps) (m : Mem), Y.opsF (l1 ++ l2) P K G cf n ops t m q = Y.opsF l1 P K G cf n ops t m fun t m => Y.opsF l2 P K G cf n ops t m q
  | [], t, m => rfl
  | o :: l, t, m => by
    have ih := opsF_app P K G cf n ops l2 q l
    show Bool.rec (motive := fun _ => Option α) none (Bool.rec (motive := fun _ => Option α) (Y.putOF t o.dst undef fun t' => Y.opsF (l ++ l2) P K G cf n ops t' m q)
      (Y.opF o.op P K G cf t m fun v m' => Y.putOF t o.dst v fun t' => Y.opsF (l ++ l2) P K G cf n ops t' m' q) (Y.wantF o ops t)) (Y.dstF n o.dst) = _
    simp only [ih]
    rfl
theorem opsF_cut (i : Nat) (P : Program) (K : TypeId → Bool) (G : Nat) (cf : Y.CF α) (n : Nat) (ops : List Oper) (q : Tmps → Mem → Option α) (t : Tmps) (m : Mem) : Y.opsF ops P K G cf n ops t m q = Y.opsF (ops.take i) P K G cf n ops t m fun t m => Y.opsF (ops.drop i) P K G cf n ops t m q := by
  rw [← opsF_app, List.take_append_drop]
end
end Go.Proofs.Ytfpbiojnbffkpaa
