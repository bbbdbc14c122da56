/-
  CChk: Check, of both sides.
-/
import Derived.Test.YtadioopbehiakaaDoorF15
import Derived.Test.YtadioopbehiakaaDoorF16
set_option linter.all false
set_option linter.unusedVariables false
set_option linter.unusedSimpArgs false
namespace Go.Cmp
def checkGo : List RuleT → Nat → Option (Nat × Int)
  | [], _ => none
  | r :: l, i => if 8 < r.tests.length then some (i, 3) else if r.tests.all mayT = true then checkGo l (i + 1) else some (i, 1)
def checkS (rs : List RuleT) : Nat × Int := if 32 < rs.length then (0, 3) else (checkGo rs 0).getD (0, 0)
end Go.Cmp
namespace Go.Proofs.YtadioopbehiakaaDoor
open Go Go.DI Go.DI.Kit Go.Proofs Go.Cmp
noncomputable section
theorem at12 : Tryd.prog.funcs[12]? = some Tryd.f12 := by kernel_rfl
theorem bd12 : Tryd.f12.body = some (bodyOf Tryd.f12) := by kernel_rfl
theorem nt12 : Tryd.f12.ntmps = 36 := by kernel_rfl
theorem n12 {a : Value} : max [a].length Tryd.f12.ntmps = 36 := by rw [nt12]; rfl
theorem at14 : Tryd.prog.funcs[14]? = some Tryd.f14 := by kernel_rfl
theorem bd14 : Tryd.f14.body = some (bodyOf Tryd.f14) := by kernel_rfl
theorem nt14 : Tryd.f14.ntmps = 44 := by kernel_rfl
theorem n14 {a : Value} : max [a].length Tryd.f14.ntmps = 44 := by rw [nt14]; rfl
theorem ok12 {a b : Int} : okR Tryd.prog 12 (.tuple ⟨[.int .i64 a, .int .i64 b]⟩) = true := by kernel_rfl
theorem ok14 {a b : Int} : okR Tryd.prog 14 (.tuple ⟨[.int .i64 a, .int .i64 b]⟩) = true := by kernel_rfl
section
variable {α : Type} (x : Nat → Value) (cf : Y.CF α) (L : Y.LK α) (k : Nat) (m : Mem)
theorem t_ChkRS (b : Nat) (w4 w11 w12 w13 u : Value) (q : Tmps → Mem → Option α) : Y.opsF (List.drop 5 r12_5) Tryd.prog kp 1 (Y.cfT Tryd.prog cf) 36 r12_5 (fullN 36 (up x [(4, w4), (5, .pointer (some ⟨b, 0, none⟩)), (11, w11), (12, w12), (13, w13), (17, u)])) m q =
  Y.storeF Tryd.prog m 46 u (.pointer (some ⟨b, 0, none⟩)) fun m' => q (fullN 36 (up (up x [(17, u)]) [(4, w4), (5, .pointer (some ⟨b, 0, none⟩)), (11, w11), (12, w12), (13, w13)])) m' := by kernel_rfl
theorem t_ChkJS (b : Nat) (w4 w5 w11 w12 w13 w24 w25 w26 u : Value) (q : Tmps → Mem → Option α) : Y.opsF (List.drop 3 r12_10) Tryd.prog kp 1 (Y.cfT Tryd.prog cf) 36 r12_10 (fullN 36 (up x [(4, w4), (5, w5), (7, .pointer (some ⟨b, 0, none⟩)), (11, w11), (12, w12), (13, w13), (24, w24), (25, w25), (26, w26), (29, u)])) m q =
  Y.storeF Tryd.prog m 53 u (.pointer (some ⟨b, 0, none⟩)) fun m' => q (fullN 36 (up (up x [(29, u)]) [(4, w4), (5, w5), (7, .pointer (some ⟨b, 0, none⟩)), (11, w11), (12, w12), (13, w13), (24, w24), (25, w25), (26, w26)])) m' := by kernel_rfl
theorem r12_5_eq (t : Tmps) (q : Y.ExK α) : Y.codeF (Y.loopC c12 0) Tryd.prog kp 1 (Y.cfT Tryd.prog cf) L 36 k t m q = Y.opsF r12_5 Tryd.prog kp 1 (Y.cfT Tryd.prog cf) 36 r12_5 t m fun t m => q .normal t m := by kernel_rfl
theorem r12_8_eq (t : Tmps) (q : Y.ExK α) : Y.codeF (Y.loopC c12 1) Tryd.prog kp 1 (Y.cfT Tryd.prog cf) L 36 k t m q = Y.opsF r12_8 Tryd.prog kp 1 (Y.cfT Tryd.prog cf) 36 r12_8 t m fun t m => q .normal t m := by kernel_rfl
theorem r12_10_eq (t : Tmps) (q : Y.ExK α) : Y.codeF (Y.loopC c12i 0) Tryd.prog kp 1 (Y.cfT Tryd.prog cf) L 36 k t m q = Y.opsF r12_10 Tryd.prog kp 1 (Y.cfT Tryd.prog cf) 36 r12_10 t m fun t m => q .normal t m := by kernel_rfl
theorem r14_8_eq (t : Tmps) (q : Y.ExK α) : Y.codeF (Y.loopC c14 0) Tryd.prog kp 1 (Y.cfT Tryd.prog cf) L 44 k t m q = Y.opsF r14_8 Tryd.prog kp 1 (Y.cfT Tryd.prog cf) 44 r14_8 t m fun t m => q .normal t m := by kernel_rfl
theorem t_ChkI0 (w4 w5 w11 w12 w13 w24 : Value) (q : Y.ExK α) : Y.codeF (loopN Tryd.f12 1) Tryd.prog kp 1 (Y.cfT Tryd.prog cf) L 36 k (fullN 36 (up x [(4, w4), (5, w5), (11, w11), (12, w12), (13, w13), (24, w24), (25, .int .i64 (0 : Nat)), (26, .int .i64 (0 : Int))])) m q =
  q (.exit 2) (fullN 36 (up (up x [(27, .bool false)]) [(4, w4), (5, w5), (11, w11), (12, w12), (13, w13), (24, w24), (25, .int .i64 (0 : Nat)), (26, .int .i64 (0 : Int))])) m := by kernel_rfl
theorem t_ChkA0 (w11 : Value) (q : Y.ExK α) : Y.codeF (loopN Tryd.f12 0) Tryd.prog kp 1 (Y.cfT Tryd.prog cf) L 36 k (fullN 36 (up x [(11, w11), (12, .int .i64 (0 : Nat)), (13, .int .i64 (0 : Int))])) m q =
  q (.exit 0) (fullN 36 (up (up x [(14, .bool false)]) [(11, w11), (12, .int .i64 (0 : Nat)), (13, .int .i64 (0 : Int))])) m := by kernel_rfl
theorem t_ChRA0 (ra : Option Addr) (rc : Nat) (q : Y.ExK α) : Y.codeF (loopN Tryd.f14 0) Tryd.prog kp 1 (Y.cfT Tryd.prog cf) L 44 k (fullN 44 (up x [(0, .slice ra 0 rc), (4, .int .i64 (0 : Int))])) m q =
  q (.exit 0) (fullN 44 (up (up x [(12, .bool false), (10, .slice ra 0 rc), (9, .int .i64 (0 : Int)), (11, .int .i64 (0 : Int))]) [(0, .slice ra 0 rc), (4, .int .i64 (0 : Int))])) m := by kernel_rfl
end
theorem lc12 : Y.loopC c12 2 = loopN Tryd.f12 1 := by kernel_rfl
theorem lc14 : Y.loopC c14 1 = loopN Tryd.f14 1 := by kernel_rfl
theorem fa2 {F : Nat → Value} {a b : Nat × Value} (h1 : F a.1 = a.2) (h2 : F b.1 = b.2) : ∀ p ∈ [a, b], F p.1 = p.2 := by
  intro p hp
  simp only [List.mem_cons, List.not_mem_nil, or_false] at hp
  rcases hp with rfl | rfl
  · exact h1
  · exact h2
section
variable {K : Keep} {M : Mem} {o : Orc} {k : Nat}
theorem hp_glob {hs : List (Nat × Thing)} (h : Hp M K hs) (h0 : K 0 = some (.cells false gl)) : M.top ∧ 1 ≤ M.size ∧ M.get 0 = .cells false gl := ⟨h.top, by have := h.lt h0; omega, h.get h0⟩
/-! ### the program's -/
theorem ChkT_loop {ts : List TestT} {rest : List Value} {own : Bool} {tb tc xb rb rn rc i : Nat} {tp rp : Option Nat} (hO : Orq o) (hk : 100 ≤ k) (hn : ts.length ≤ 8) (h0 : K 0 = some (.cells false gl)) (htb : K tb = some (.cells own (ts.flatMap testC ++ rest))) :
    ∀ (d j : Nat), ts.length = j + d → ∀ (jj : Nat) (M : Mem), d + 1 ≤ jj → Hp M K [] →
    ∃ M', Hp M' K [] ∧ ((ts.drop j).all mayT = true → ∀ x, Lands 36 [(4, .int .i64 (i : Int)), (5, .pointer (some ⟨xb, 0, none⟩)), (11, .slice (some ⟨rb, 0, rp⟩) rn rc), (12, .int .i64 (rn : Int)), (13, .int .i64 (i : Int)), (24, .slice (some ⟨tb, 0, tp⟩) ts.length tc), (25, .int .i64 (ts.length : Int)), (26, .int .i64 (ts.length : Int))] (.exit 2) M' (loopD (codeD Tryd.prog kp 1 (callN Tryd.prog kp 1 o k) (drawD Tryd.prog kp 1 (callN Tryd.prog kp 1 o k) 36) 36 k (loopN Tryd.f12 1)) jj (fullN 36 (up x [(4, .int .i64 (i : Int)), (5, .pointer (some ⟨xb, 0, none⟩)), (11, .slice (some ⟨rb, 0, rp⟩) rn rc), (12, .int .i64 (rn : Int)), (13, .int .i64 (i : Int)), (24, .slice (some ⟨tb, 0, tp⟩) ts.length tc), (25, .int .i64 (ts.length : Int)), (26, .int .i64 (j : Int))])) M)) ∧
      ((ts.drop j).all mayT = false → ∀ x, Lands 36 [(2, .int .i64 (i : Int)), (3, .int .i64 1)] .ret M' (loopD (codeD Tryd.prog kp 1 (callN Tryd.prog kp 1 o k) (drawD Tryd.prog kp 1 (callN Tryd.prog kp 1 o k) 36) 36 k (loopN Tryd.f12 1)) jj (fullN 36 (up x [(4, .int .i64 (i : Int)), (5, .pointer (some ⟨xb, 0, none⟩)), (11, .slice (some ⟨rb, 0, rp⟩) rn rc), (12, .int .i64 (rn : Int)), (13, .int .i64 (i : Int)), (24, .slice (some ⟨tb, 0, tp⟩) ts.length tc), (25, .int .i64 (ts.length : Int)), (26, .int .i64 (j : Int))])) M))
  | 0, j, hj, jj, M, hjj, h => by
    obtain ⟨jj, rfl⟩ : ∃ j', jj = j' + 1 := ⟨jj - 1, by omega⟩
    obtain rfl : j = ts.length := by omega
    refine ⟨M, h, fun _ x => Lands.stop (Lands.turn ?_) (by simp), fun ha => by rw [List.drop_length] at ha; cases ha⟩
    refine Lands.via (markS_eq [10] Tryd.prog kp 1 _ (Y.lpOf Tryd.prog kp 1 (callN Tryd.prog kp 1 o k) 36) (fun _ _ _ _ _ _ _ => rfl) 36 k (loopN Tryd.f12 1) (by kernel_rfl) _ M _) ?_
    refine Lands.via (t_ChkI ..) ?_
    rw [ge_len (by omega), nCondF]
    exact Lands.here _
  | d + 1, j, hj, jj, M, hjj, h => by
    obtain ⟨jj, rfl⟩ : ∃ j', jj = j' + 1 := ⟨jj - 1, by omega⟩
    have hlt : j < ts.length := by omega
    obtain ⟨t, ht⟩ : ∃ t, ts[j]? = some t := ⟨_, List.getElem?_eq_getElem hlt⟩
    have hd : ts.drop j = t :: ts.drop (j + 1) := by
      rw [List.drop_eq_getElem_cons hlt]
      congr 1
      rw [List.getElem?_eq_getElem hlt] at ht
      exact Option.some.inj ht
    have gb := h.get htb
    obtain ⟨M1, hM1⟩ : ∃ M1, (M.push (.cells true [(.bool false), (.int .i64 (0 : Int)), (.int .i64 (0 : Int)), (.int .i64 (0 : Int)), (.int .u64 (0 : Int)), (.int .u64 (0 : Int)), (.int .u64 (0 : Int))])).set M.size (.cells true (testC t)) = M1 := ⟨_, rfl⟩
    have gy : M1.get M.size = .cells true (testC t) := by rw [← hM1]; exact Mem.get_set_same _ _ _
    have h1 : Hp M1 K [] := h.ext (hM1 ▸ Ext.fresh)
    have hst : storeD Tryd.prog (M.push (.cells true [(.bool false), (.int .i64 (0 : Int)), (.int .i64 (0 : Int)), (.int .i64 (0 : Int)), (.int .u64 (0 : Int)), (.int .u64 (0 : Int)), (.int .u64 (0 : Int))])) 53 (.agg ⟨testC t⟩) (.pointer (some ⟨M.size, 0, none⟩)) = some M1 := by
      rw [storeD_at (n := 7) sz53 rfl (Mem.get_push_same _ _) (by simp) rfl, ← hM1]
      rfl
    obtain ⟨M2, c2, x2⟩ := may_do (t := t) (k := k) hO (by omega) (hp_glob h1 h0)
    have h2 := h1.ext x2
    obtain ⟨M3, h3, q1, q2⟩ := ChkT_loop (xb := xb) (rb := rb) (rn := rn) (rc := rc) (i := i) (tp := tp) (rp := rp) (tc := tc) hO hk hn h0 htb d (j + 1) (by omega) jj M2 (by omega) h2
    cases hm : mayT t with
    | true =>
      refine ⟨M3, h3, fun ha x => Lands.next (Lands.turn ?_) (q1 (by rw [hd, List.all_cons, hm] at ha; exact ha)), fun ha x => Lands.next (Lands.turn ?_) (q2 (by rw [hd, List.all_cons, hm] at ha; exact ha))⟩
      · refine Lands.via (markS_eq [10] Tryd.prog kp 1 _ (Y.lpOf Tryd.prog kp 1 (callN Tryd.prog kp 1 o k) 36) (fun _ _ _ _ _ _ _ => rfl) 36 k (loopN Tryd.f12 1) (by kernel_rfl) _ M _) ?_
        refine Lands.via (t_ChkI ..) ?_
        rw [lt_len hlt, nCondT]
        refine Lands.via (loop_reg _ _ _ (by kernel_rfl) _ _ _ _) ?_
        refine Lands.via (r12_10_eq ..) ?_
        refine Lands.via (opsF_cut 3 ..) ?_
        refine Lands.via (t_ChkJ ..) ?_
        rw [nOnNat, blt_t hlt, nCondT, gb, nCells, chunk_ble testC_len hlt, nCondT, chunk_sub testC_len ht]
        refine Lands.via (t_ChkJS ..) ?_
        rw [Y.storeF_eq, hst, Y.ob_some]
        refine Lands.via (t_ChkK ..) ?_
        rw [gy, nCells, show Nat.ble 7 (Y.lenLF (testC t)) = true from rfl, nCondT, show Y.subL (testC t) 0 7 = testC t from rfl]
        refine Lands.step c2 ?_
        rw [hm, nAsBoB, nCondT, wrap_succ (by omega)]
        exact Lands.here _
      · refine Lands.via (markS_eq [10] Tryd.prog kp 1 _ (Y.lpOf Tryd.prog kp 1 (callN Tryd.prog kp 1 o k) 36) (fun _ _ _ _ _ _ _ => rfl) 36 k (loopN Tryd.f12 1) (by kernel_rfl) _ M _) ?_
        refine Lands.via (t_ChkI ..) ?_
        rw [lt_len hlt, nCondT]
        refine Lands.via (loop_reg _ _ _ (by kernel_rfl) _ _ _ _) ?_
        refine Lands.via (r12_10_eq ..) ?_
        refine Lands.via (opsF_cut 3 ..) ?_
        refine Lands.via (t_ChkJ ..) ?_
        rw [nOnNat, blt_t hlt, nCondT, gb, nCells, chunk_ble testC_len hlt, nCondT, chunk_sub testC_len ht]
        refine Lands.via (t_ChkJS ..) ?_
        rw [Y.storeF_eq, hst, Y.ob_some]
        refine Lands.via (t_ChkK ..) ?_
        rw [gy, nCells, show Nat.ble 7 (Y.lenLF (testC t)) = true from rfl, nCondT, show Y.subL (testC t) 0 7 = testC t from rfl]
        refine Lands.step c2 ?_
        rw [hm, nAsBoB, nCondT, wrap_succ (by omega)]
        exact Lands.here _
    | false =>
      refine ⟨M2, h2, fun ha => (by rw [hd, List.all_cons, hm] at ha; cases ha), fun _ x => Lands.stop (Lands.turn ?_) (by simp)⟩
      refine Lands.via (markS_eq [10] Tryd.prog kp 1 _ (Y.lpOf Tryd.prog kp 1 (callN Tryd.prog kp 1 o k) 36) (fun _ _ _ _ _ _ _ => rfl) 36 k (loopN Tryd.f12 1) (by kernel_rfl) _ M _) ?_
      refine Lands.via (t_ChkI ..) ?_
      rw [lt_len hlt, nCondT]
      refine Lands.via (loop_reg _ _ _ (by kernel_rfl) _ _ _ _) ?_
      refine Lands.via (r12_10_eq ..) ?_
      refine Lands.via (opsF_cut 3 ..) ?_
      refine Lands.via (t_ChkJ ..) ?_
      rw [nOnNat, blt_t hlt, nCondT, gb, nCells, chunk_ble testC_len hlt, nCondT, chunk_sub testC_len ht]
      refine Lands.via (t_ChkJS ..) ?_
      rw [Y.storeF_eq, hst, Y.ob_some]
      refine Lands.via (t_ChkK ..) ?_
      rw [gy, nCells, show Nat.ble 7 (Y.lenLF (testC t)) = true from rfl, nCondT, show Y.subL (testC t) 0 7 = testC t from rfl]
      refine Lands.step c2 ?_
      rw [hm, nAsBoB, nCondF]
      exact Lands.at (fa2 rfl rfl)
theorem ChkT_run {ts : List TestT} {v : Value} {xb rb rn rc i : Nat} {rp : Option Nat} (hO : Orq o) (hk : 100 ≤ k) (hn : ts.length ≤ 8) (h0 : K 0 = some (.cells false gl)) (hv : tstsAt K v ts) (h : Hp M K []) :
    ∃ ta tc M', v = .slice ta ts.length tc ∧ Hp M' K [] ∧ (ts.all mayT = true → ∀ x, Lands 36 [(4, .int .i64 (i : Int)), (5, .pointer (some ⟨xb, 0, none⟩)), (11, .slice (some ⟨rb, 0, rp⟩) rn rc), (12, .int .i64 (rn : Int)), (13, .int .i64 (i : Int)), (24, .slice ta ts.length tc), (25, .int .i64 (ts.length : Int)), (26, .int .i64 (ts.length : Int))] (.exit 2) M' (loopD (codeD Tryd.prog kp 1 (callN Tryd.prog kp 1 o k) (drawD Tryd.prog kp 1 (callN Tryd.prog kp 1 o k) 36) 36 k (loopN Tryd.f12 1)) k (fullN 36 (up x [(4, .int .i64 (i : Int)), (5, .pointer (some ⟨xb, 0, none⟩)), (11, .slice (some ⟨rb, 0, rp⟩) rn rc), (12, .int .i64 (rn : Int)), (13, .int .i64 (i : Int)), (24, .slice ta ts.length tc), (25, .int .i64 (ts.length : Int)), (26, .int .i64 (0 : Int))])) M)) ∧
      (ts.all mayT = false → ∀ x, Lands 36 [(2, .int .i64 (i : Int)), (3, .int .i64 1)] .ret M' (loopD (codeD Tryd.prog kp 1 (callN Tryd.prog kp 1 o k) (drawD Tryd.prog kp 1 (callN Tryd.prog kp 1 o k) 36) 36 k (loopN Tryd.f12 1)) k (fullN 36 (up x [(4, .int .i64 (i : Int)), (5, .pointer (some ⟨xb, 0, none⟩)), (11, .slice (some ⟨rb, 0, rp⟩) rn rc), (12, .int .i64 (rn : Int)), (13, .int .i64 (i : Int)), (24, .slice ta ts.length tc), (25, .int .i64 (ts.length : Int)), (26, .int .i64 (0 : Int))])) M)) := by
  obtain ⟨ta, tc, rfl, hv⟩ := hv
  by_cases e : ts = []
  · subst e
    obtain ⟨k, rfl⟩ : ∃ k', k = k' + 1 := ⟨k - 1, by omega⟩
    refine ⟨ta, tc, M, rfl, h, fun _ x => Lands.stop (Lands.turn ?_) (by simp), fun ha => by cases ha⟩
    exact Lands.via (t_ChkI0 ..) (Lands.here _)
  · obtain ⟨tb, tp, own, rest, rfl, htb⟩ := hv e
    obtain ⟨M', h1, h2, h3⟩ := ChkT_loop (xb := xb) (rb := rb) (rn := rn) (rc := rc) (i := i) (tp := tp) (rp := rp) (tc := tc) (k := k) hO hk hn h0 htb ts.length 0 (by omega) k M (by omega) h
    exact ⟨_, tc, M', rfl, h1, h2, h3⟩
theorem ChkR_loop {rs : List RuleT} {rest : List Value} {vr : List (Value × RuleT)} {own : Bool} {rb rc : Nat} {rp : Option Nat} (hO : Orq o) (hk : 200 ≤ k) (hlen : rs.length ≤ 32) (hrs : vr.map (·.2) = rs) (h0 : K 0 = some (.cells false gl)) (hrb : K rb = some (.cells own (vr.flatMap ruleC ++ rest))) (hv : ∀ x ∈ vr, tstsAt K x.1 x.2.tests) :
    ∀ (d i : Nat), vr.length = i + d → ∀ (jj : Nat) (M : Mem), d + 1 ≤ jj → Hp M K [] →
    ∃ M', Hp M' K [] ∧ (checkGo (rs.drop i) i = none → ∀ x, Lands 36 [(11, .slice (some ⟨rb, 0, rp⟩) vr.length rc), (12, .int .i64 (vr.length : Int)), (13, .int .i64 (vr.length : Int))] (.exit 0) M' (loopD (codeD Tryd.prog kp 1 (callN Tryd.prog kp 1 o k) (drawD Tryd.prog kp 1 (callN Tryd.prog kp 1 o k) 36) 36 k (loopN Tryd.f12 0)) jj (fullN 36 (up x [(11, .slice (some ⟨rb, 0, rp⟩) vr.length rc), (12, .int .i64 (vr.length : Int)), (13, .int .i64 (i : Int))])) M)) ∧
      (∀ a e, checkGo (rs.drop i) i = some (a, e) → ∀ x, Lands 36 [(2, .int .i64 (a : Int)), (3, .int .i64 e)] .ret M' (loopD (codeD Tryd.prog kp 1 (callN Tryd.prog kp 1 o k) (drawD Tryd.prog kp 1 (callN Tryd.prog kp 1 o k) 36) 36 k (loopN Tryd.f12 0)) jj (fullN 36 (up x [(11, .slice (some ⟨rb, 0, rp⟩) vr.length rc), (12, .int .i64 (vr.length : Int)), (13, .int .i64 (i : Int))])) M))
  | 0, i, hi, jj, M, hjj, h => by
    obtain ⟨jj, rfl⟩ : ∃ j', jj = j' + 1 := ⟨jj - 1, by omega⟩
    obtain rfl : i = vr.length := by omega
    have hl : rs.length = vr.length := by rw [← hrs, List.length_map]
    refine ⟨M, h, fun _ x => Lands.stop (Lands.turn ?_) (by simp), fun a e ha => by rw [← hl, List.drop_length] at ha; cases ha⟩
    refine Lands.via (markS_eq [5, 8] Tryd.prog kp 1 _ (Y.lpOf Tryd.prog kp 1 (callN Tryd.prog kp 1 o k) 36) (fun _ _ _ _ _ _ _ => rfl) 36 k (loopN Tryd.f12 0) (by kernel_rfl) _ M _) ?_
    refine Lands.via (t_ChkA ..) ?_
    rw [ge_len (by omega), nCondF]
    exact Lands.here _
  | d + 1, i, hi, jj, M, hjj, h => by
    obtain ⟨jj, rfl⟩ : ∃ j', jj = j' + 1 := ⟨jj - 1, by omega⟩
    have hl : rs.length = vr.length := by rw [← hrs, List.length_map]
    have hlt : i < vr.length := by omega
    obtain ⟨p, hp⟩ : ∃ p, vr[i]? = some p := ⟨_, List.getElem?_eq_getElem hlt⟩
    obtain ⟨v, r⟩ := p
    have hpm : (v, r) ∈ vr := List.mem_of_getElem? hp
    have hri : rs[i]? = some r := by rw [← hrs, List.getElem?_map, hp]; rfl
    have hd : rs.drop i = r :: rs.drop (i + 1) := by
      rw [List.drop_eq_getElem_cons (by omega)]
      congr 1
      rw [List.getElem?_eq_getElem (by omega)] at hri
      exact Option.some.inj hri
    have gb := h.get hrb
    have hvt : tstsAt K v r.tests := hv _ hpm
    obtain ⟨M1, hM1⟩ : ∃ M1, (M.push (.cells true [(.slice none 0 0), (.int Go.IntKind.u32 (0 : Int))])).set M.size (.cells true (ruleC (v, r))) = M1 := ⟨_, rfl⟩
    have gx : M1.get M.size = .cells true (ruleC (v, r)) := by rw [← hM1]; exact Mem.get_set_same _ _ _
    have h1 : Hp M1 K [] := h.ext (hM1 ▸ Ext.fresh)
    obtain ⟨ta0, tc0, hv0, _⟩ := id hvt
    have hst : storeD Tryd.prog (M.push (.cells true [(.slice none 0 0), (.int Go.IntKind.u32 (0 : Int))])) 46 (.agg ⟨ruleC (v, r)⟩) (.pointer (some ⟨M.size, 0, none⟩)) = some M1 := by
      subst hv0
      rw [storeD_at (n := 2) sz46 rfl (Mem.get_push_same _ _) (by simp) rfl, ← hM1]
      rfl
    by_cases h8 : 8 < r.tests.length
    · have e : checkGo (rs.drop i) i = some (i, 3) := by rw [hd, checkGo, if_pos h8]
      refine ⟨M1, h1, fun ha => (by rw [e] at ha; cases ha), fun a e' ha x => Lands.stop (Lands.turn ?_) (by simp)⟩
      obtain ⟨rfl, rfl⟩ : i = a ∧ 3 = e' := by rw [e] at ha; cases ha; exact ⟨rfl, rfl⟩
      refine Lands.via (markS_eq [5, 8] Tryd.prog kp 1 _ (Y.lpOf Tryd.prog kp 1 (callN Tryd.prog kp 1 o k) 36) (fun _ _ _ _ _ _ _ => rfl) 36 k (loopN Tryd.f12 0) (by kernel_rfl) _ M _) ?_
      refine Lands.via (t_ChkA ..) ?_
      rw [lt_len hlt, nCondT]
      refine Lands.via (loop_reg _ _ _ (by kernel_rfl) _ _ _ _) ?_
      refine Lands.via (r12_5_eq ..) ?_
      refine Lands.via (opsF_cut 5 ..) ?_
      refine Lands.via (t_ChkR ..) ?_
      rw [nOnNat, blt_t hlt, nCondT, gb, nCells, chunk_ble ruleC_len hlt, nCondT, chunk_sub ruleC_len hp]
      refine Lands.via (t_ChkRS ..) ?_
      rw [Y.storeF_eq, hst, Y.ob_some]
      refine Lands.via (t_ChkB ..) ?_
      rw [gx, nCells, show Y.nthL (ruleC (v, r)) 0 = some v from rfl, nElim, hv0, nAsSl, ltF_t (show (8 : Int) < Int.ofNat r.tests.length by show (8 : Int) < (r.tests.length : Int); omega), nCondT]
      exact Lands.at (fa2 rfl rfl)
    · have h8f : Y.ltF 8 (Int.ofNat r.tests.length) = false := ltF_f (by show ¬ (8 : Int) < (r.tests.length : Int); omega)
      obtain ⟨ta, tc, M2, hve, h2, q1, q2⟩ := ChkT_run (k := k) (xb := M.size) (rb := rb) (rn := vr.length) (rc := rc) (i := i) (rp := rp) hO (by omega) (by omega) h0 hvt h1
      cases hm : r.tests.all mayT with
      | true =>
        have e : checkGo (rs.drop i) i = checkGo (rs.drop (i + 1)) (i + 1) := by rw [hd, checkGo, if_neg h8, if_pos hm]
        obtain ⟨M3, h3, w1, w2⟩ := ChkR_loop (rc := rc) (rp := rp) hO hk hlen hrs h0 hrb hv d (i + 1) (by omega) jj M2 (by omega) h2
        rw [e]
        refine ⟨M3, h3, fun ha x => Lands.next (Lands.turn ?_) (w1 ha), fun a e' ha x => Lands.next (Lands.turn ?_) (w2 a e' ha)⟩
        · have hve' := hve
          refine Lands.via (markS_eq [5, 8] Tryd.prog kp 1 _ (Y.lpOf Tryd.prog kp 1 (callN Tryd.prog kp 1 o k) 36) (fun _ _ _ _ _ _ _ => rfl) 36 k (loopN Tryd.f12 0) (by kernel_rfl) _ M _) ?_
          refine Lands.via (t_ChkA ..) ?_
          rw [lt_len hlt, nCondT]
          refine Lands.via (loop_reg _ _ _ (by kernel_rfl) _ _ _ _) ?_
          refine Lands.via (r12_5_eq ..) ?_
          refine Lands.via (opsF_cut 5 ..) ?_
          refine Lands.via (t_ChkR ..) ?_
          rw [nOnNat, blt_t hlt, nCondT, gb, nCells, chunk_ble ruleC_len hlt, nCondT, chunk_sub ruleC_len hp]
          refine Lands.via (t_ChkRS ..) ?_
          rw [Y.storeF_eq, hst, Y.ob_some]
          refine Lands.via (t_ChkB ..) ?_
          rw [gx, nCells, show Y.nthL (ruleC (v, r)) 0 = some v from rfl, nElim, hve, nAsSl, h8f, nCondF]
          refine Lands.via (loop_reg _ _ _ (by kernel_rfl) _ _ _ _) ?_
          refine Lands.via (r12_8_eq ..) ?_
          refine Lands.via (t_ChkS ..) ?_
          rw [gx, nCells, show Y.nthL (ruleC (v, r)) 0 = some v from rfl, nElim, hve', nAsSl]
          refine Lands.via (t_ChkC ..) ?_
          refine Lands.via (mixL_loop _ _ (by kernel_rfl) _ _ _ _) ?_
          rw [Y.lpOf_eq, lc12]
          simp only [Int.ofNat_eq_natCast]
          refine Lands.loop (q1 hm _) fun x' => ?_
          refine Lands.via (t_ChkD ..) ?_
          rw [wrap_succ (by omega)]
          exact Lands.here _
        · have hve' := hve
          refine Lands.via (markS_eq [5, 8] Tryd.prog kp 1 _ (Y.lpOf Tryd.prog kp 1 (callN Tryd.prog kp 1 o k) 36) (fun _ _ _ _ _ _ _ => rfl) 36 k (loopN Tryd.f12 0) (by kernel_rfl) _ M _) ?_
          refine Lands.via (t_ChkA ..) ?_
          rw [lt_len hlt, nCondT]
          refine Lands.via (loop_reg _ _ _ (by kernel_rfl) _ _ _ _) ?_
          refine Lands.via (r12_5_eq ..) ?_
          refine Lands.via (opsF_cut 5 ..) ?_
          refine Lands.via (t_ChkR ..) ?_
          rw [nOnNat, blt_t hlt, nCondT, gb, nCells, chunk_ble ruleC_len hlt, nCondT, chunk_sub ruleC_len hp]
          refine Lands.via (t_ChkRS ..) ?_
          rw [Y.storeF_eq, hst, Y.ob_some]
          refine Lands.via (t_ChkB ..) ?_
          rw [gx, nCells, show Y.nthL (ruleC (v, r)) 0 = some v from rfl, nElim, hve, nAsSl, h8f, nCondF]
          refine Lands.via (loop_reg _ _ _ (by kernel_rfl) _ _ _ _) ?_
          refine Lands.via (r12_8_eq ..) ?_
          refine Lands.via (t_ChkS ..) ?_
          rw [gx, nCells, show Y.nthL (ruleC (v, r)) 0 = some v from rfl, nElim, hve', nAsSl]
          refine Lands.via (t_ChkC ..) ?_
          refine Lands.via (mixL_loop _ _ (by kernel_rfl) _ _ _ _) ?_
          rw [Y.lpOf_eq, lc12]
          simp only [Int.ofNat_eq_natCast]
          refine Lands.loop (q1 hm _) fun x' => ?_
          refine Lands.via (t_ChkD ..) ?_
          rw [wrap_succ (by omega)]
          exact Lands.here _
      | false =>
        have e : checkGo (rs.drop i) i = some (i, 1) := by rw [hd, checkGo, if_neg h8, if_neg (by rw [hm]; decide)]
        refine ⟨M2, h2, fun ha => (by rw [e] at ha; cases ha), fun a e' ha x => Lands.stop (Lands.turn ?_) (by simp)⟩
        obtain ⟨rfl, rfl⟩ : i = a ∧ 1 = e' := by rw [e] at ha; cases ha; exact ⟨rfl, rfl⟩
        have hve' := hve
        refine Lands.via (markS_eq [5, 8] Tryd.prog kp 1 _ (Y.lpOf Tryd.prog kp 1 (callN Tryd.prog kp 1 o k) 36) (fun _ _ _ _ _ _ _ => rfl) 36 k (loopN Tryd.f12 0) (by kernel_rfl) _ M _) ?_
        refine Lands.via (t_ChkA ..) ?_
        rw [lt_len hlt, nCondT]
        refine Lands.via (loop_reg _ _ _ (by kernel_rfl) _ _ _ _) ?_
        refine Lands.via (r12_5_eq ..) ?_
        refine Lands.via (opsF_cut 5 ..) ?_
        refine Lands.via (t_ChkR ..) ?_
        rw [nOnNat, blt_t hlt, nCondT, gb, nCells, chunk_ble ruleC_len hlt, nCondT, chunk_sub ruleC_len hp]
        refine Lands.via (t_ChkRS ..) ?_
        rw [Y.storeF_eq, hst, Y.ob_some]
        refine Lands.via (t_ChkB ..) ?_
        rw [gx, nCells, show Y.nthL (ruleC (v, r)) 0 = some v from rfl, nElim, hve, nAsSl, h8f, nCondF]
        refine Lands.via (loop_reg _ _ _ (by kernel_rfl) _ _ _ _) ?_
        refine Lands.via (r12_8_eq ..) ?_
        refine Lands.via (t_ChkS ..) ?_
        rw [gx, nCells, show Y.nthL (ruleC (v, r)) 0 = some v from rfl, nElim, hve', nAsSl]
        refine Lands.via (t_ChkC ..) ?_
        refine Lands.via (mixL_loop _ _ (by kernel_rfl) _ _ _ _) ?_
        rw [Y.lpOf_eq, lc12]
        simp only [Int.ofNat_eq_natCast]
        refine Lands.loop (q2 hm _) fun x' => ?_
        refine Lands.via (t_ChkE ..) ?_
        exact Lands.here _
theorem Check_do {rs : List RuleT} {v : Value} (hO : Orq o) (hk : 300 ≤ k) (hv : rulesAt K v rs) (h : Hp M K []) (h0 : K 0 = some (.cells false gl)) :
    ∃ M', callN Tryd.prog kp 1 o k 12 [v] M = some (.tuple ⟨[.int .i64 ((checkS rs).1 : Int), .int .i64 (checkS rs).2]⟩, M') ∧ Hp M' K [] := by
  obtain ⟨k, rfl⟩ : ∃ k', k = k' + 1 := ⟨k - 1, by omega⟩
  obtain ⟨ra, rc, rfl, hv⟩ := hv
  by_cases h32 : 32 < rs.length
  · refine ⟨M, call_of 36 (hO.off 12 (by decide) _ _) at12 bd12 n12 ?_ ok12, h⟩
    refine Eq.trans (t_Chk_in ..) ?_
    rw [ltF_t (show (32 : Int) < Int.ofNat rs.length by show (32 : Int) < (rs.length : Int); omega), nCondT, checkS, if_pos h32]
    rfl
  · have hf : Y.ltF 32 (Int.ofNat rs.length) = false := ltF_f (by show ¬ (32 : Int) < (rs.length : Int); omega)
    obtain ⟨M', h', q1, q2⟩ : ∃ M', Hp M' K [] ∧ (checkGo rs 0 = none → ∀ x, Lands 36 [(11, .slice ra rs.length rc), (12, .int .i64 (rs.length : Int)), (13, .int .i64 (rs.length : Int))] (.exit 0) M' (loopD (codeD Tryd.prog kp 1 (callN Tryd.prog kp 1 o k) (drawD Tryd.prog kp 1 (callN Tryd.prog kp 1 o k) 36) 36 k (loopN Tryd.f12 0)) k (fullN 36 (up x [(11, .slice ra rs.length rc), (12, .int .i64 (rs.length : Int)), (13, .int .i64 (0 : Int))])) M)) ∧
        (∀ a e, checkGo rs 0 = some (a, e) → ∀ x, Lands 36 [(2, .int .i64 (a : Int)), (3, .int .i64 e)] .ret M' (loopD (codeD Tryd.prog kp 1 (callN Tryd.prog kp 1 o k) (drawD Tryd.prog kp 1 (callN Tryd.prog kp 1 o k) 36) 36 k (loopN Tryd.f12 0)) k (fullN 36 (up x [(11, .slice ra rs.length rc), (12, .int .i64 (rs.length : Int)), (13, .int .i64 (0 : Int))])) M)) := by
      by_cases e : rs = []
      · subst e
        obtain ⟨k, rfl⟩ : ∃ k', k = k' + 1 := ⟨k - 1, by omega⟩
        exact ⟨M, h, fun _ x => Lands.stop (Lands.turn (Lands.via (t_ChkA0 ..) (Lands.here _))) (by simp), fun a e ha => by cases ha⟩
      · obtain ⟨rb, rp, own, rest, vr, rfl, hrs, hrb, hvt⟩ := hv e
        have hl2 : rs.length = vr.length := by rw [← hrs, List.length_map]
        obtain ⟨M', h', q1, q2⟩ := ChkR_loop (k := k) (rc := rc) (rp := rp) hO (by omega) (by omega) hrs h0 hrb hvt vr.length 0 (by omega) k M (by omega) h
        rw [hl2]
        exact ⟨M', h', q1, q2⟩
    refine ⟨M', call_of 36 (hO.off 12 (by decide) _ _) at12 bd12 n12 ?_ ok12, h'⟩
    refine Eq.trans (t_Chk_in ..) ?_
    rw [hf, nCondF, checkS, if_neg h32]
    rw [Y.lpOf_eq, Y.loopC_body]
    simp only [Int.ofNat_eq_natCast]
    cases hc : checkGo rs 0 with
    | none =>
      refine onE_land (q1 hc _) fun x' => ?_
      exact t_Chk_out ..
    | some p =>
      obtain ⟨a, e⟩ := p
      refine onE_land (q2 a e hc _) fun x' => ?_
      exact t_Chk_ret ..
/-! ### the reference's -/
theorem ChRT_loop {r : RuleT} {v : Value} {rest : List Value} {vr : List (Value × RuleT)} {own : Bool} {rb rc i : Nat} {rp : Option Nat} (hO : Orq o) (hk : 100 ≤ k) (hn : r.tests.length ≤ 8) (h0 : K 0 = some (.cells false gl)) (hrb : K rb = some (.cells own (vr.flatMap ruleC ++ rest))) (hi : vr[i]? = some (v, r)) (hv : tstsAt K v r.tests) :
    ∀ (d j : Nat), r.tests.length = j + d → ∀ (jj : Nat) (M : Mem), d + 1 ≤ jj → Hp M K [] →
    ∃ M', Hp M' K [] ∧ ((r.tests.drop j).all mayT = true → ∀ x, Lands 44 [(0, .slice (some ⟨rb, 0, rp⟩) vr.length rc), (4, .int .i64 (i : Int)), (5, .int .i64 (r.tests.length : Int))] (.exit 2) M' (loopD (codeD Tryd.prog kp 1 (callN Tryd.prog kp 1 o k) (drawD Tryd.prog kp 1 (callN Tryd.prog kp 1 o k) 44) 44 k (loopN Tryd.f14 1)) jj (fullN 44 (up x [(0, .slice (some ⟨rb, 0, rp⟩) vr.length rc), (4, .int .i64 (i : Int)), (5, .int .i64 (j : Int))])) M)) ∧
      ((r.tests.drop j).all mayT = false → ∀ x, Lands 44 [(2, .int .i64 (i : Int)), (3, .int .i64 1)] .ret M' (loopD (codeD Tryd.prog kp 1 (callN Tryd.prog kp 1 o k) (drawD Tryd.prog kp 1 (callN Tryd.prog kp 1 o k) 44) 44 k (loopN Tryd.f14 1)) jj (fullN 44 (up x [(0, .slice (some ⟨rb, 0, rp⟩) vr.length rc), (4, .int .i64 (i : Int)), (5, .int .i64 (j : Int))])) M))
  | 0, j, hj, jj, M, hjj, h => by
    obtain ⟨jj, rfl⟩ : ∃ j', jj = j' + 1 := ⟨jj - 1, by omega⟩
    obtain rfl : j = r.tests.length := by omega
    have hlt : i < vr.length := (List.getElem?_eq_some_iff.1 hi).1
    have gb := h.get hrb
    obtain ⟨a, cap, rfl, _⟩ := hv
    refine ⟨M, h, fun _ x => Lands.stop (Lands.turn ?_) (by simp), fun ha => by rw [List.drop_length] at ha; cases ha⟩
    refine Lands.via (t_ChRI ..) ?_
    rw [nOnNat, blt_t hlt, nCondT, gb, nCells, chunk_nth ruleC_len hi (by omega), show (ruleC (Value.slice a r.tests.length cap, r))[0]? = some (.slice a r.tests.length cap) from rfl, nElim, nAsSl, ge_len (by omega), nCondF]
    exact Lands.here _
  | d + 1, j, hj, jj, M, hjj, h => by
    obtain ⟨jj, rfl⟩ : ∃ j', jj = j' + 1 := ⟨jj - 1, by omega⟩
    have hlt : i < vr.length := (List.getElem?_eq_some_iff.1 hi).1
    have hjl : j < r.tests.length := by omega
    have gb := h.get hrb
    obtain ⟨t, ht⟩ : ∃ t, r.tests[j]? = some t := ⟨_, List.getElem?_eq_getElem hjl⟩
    have hd : r.tests.drop j = t :: r.tests.drop (j + 1) := by
      rw [List.drop_eq_getElem_cons hjl]
      congr 1
      rw [List.getElem?_eq_getElem hjl] at ht
      exact Option.some.inj ht
    obtain ⟨M2, c2, x2⟩ := May_do (t := t) (k := k) hO (by omega) (hp_glob h h0)
    have h2 := h.ext x2
    obtain ⟨M3, h3, q1, q2⟩ := ChRT_loop (rc := rc) (rp := rp) hO hk hn h0 hrb hi hv d (j + 1) (by omega) jj M2 (by omega) h2
    obtain ⟨a, cap, rfl, hv⟩ := hv
    obtain ⟨tb, tp, own2, rest2, rfl, htb⟩ := hv (by rintro e; rw [e] at hjl; simp at hjl)
    have gt := h.get htb
    cases hm : mayT t with
    | true =>
      refine ⟨M3, h3, fun ha x => Lands.next (Lands.turn ?_) (q1 (by rw [hd, List.all_cons, hm] at ha; exact ha)), fun ha x => Lands.next (Lands.turn ?_) (q2 (by rw [hd, List.all_cons, hm] at ha; exact ha))⟩
      · refine Lands.via (t_ChRI ..) ?_
        rw [nOnNat, blt_t hlt, nCondT, gb, nCells, chunk_nth ruleC_len hi (by omega), show (ruleC (Value.slice (some ⟨tb, 0, tp⟩) r.tests.length cap, r))[0]? = some (.slice (some ⟨tb, 0, tp⟩) r.tests.length cap) from rfl, nElim, nAsSl, lt_len hjl, nCondT,
          nOnNat, blt_t hlt, nCondT, nCells, chunk_nth ruleC_len hi (by omega), show (ruleC (Value.slice (some ⟨tb, 0, tp⟩) r.tests.length cap, r))[0]? = some (.slice (some ⟨tb, 0, tp⟩) r.tests.length cap) from rfl, nElim, nAsSl, nElim, nOnNat, blt_t hjl, nCondT]
        dsimp only
        rw [gt, nCells, chunk_ble testC_len hjl, nCondT, chunk_sub testC_len ht]
        refine Lands.step c2 ?_
        rw [hm, nAsBoB, nCondT, wrap_succ (by omega)]
        exact Lands.here _
      · refine Lands.via (t_ChRI ..) ?_
        rw [nOnNat, blt_t hlt, nCondT, gb, nCells, chunk_nth ruleC_len hi (by omega), show (ruleC (Value.slice (some ⟨tb, 0, tp⟩) r.tests.length cap, r))[0]? = some (.slice (some ⟨tb, 0, tp⟩) r.tests.length cap) from rfl, nElim, nAsSl, lt_len hjl, nCondT,
          nOnNat, blt_t hlt, nCondT, nCells, chunk_nth ruleC_len hi (by omega), show (ruleC (Value.slice (some ⟨tb, 0, tp⟩) r.tests.length cap, r))[0]? = some (.slice (some ⟨tb, 0, tp⟩) r.tests.length cap) from rfl, nElim, nAsSl, nElim, nOnNat, blt_t hjl, nCondT]
        dsimp only
        rw [gt, nCells, chunk_ble testC_len hjl, nCondT, chunk_sub testC_len ht]
        refine Lands.step c2 ?_
        rw [hm, nAsBoB, nCondT, wrap_succ (by omega)]
        exact Lands.here _
    | false =>
      refine ⟨M2, h2, fun ha => (by rw [hd, List.all_cons, hm] at ha; cases ha), fun _ x => Lands.stop (Lands.turn ?_) (by simp)⟩
      refine Lands.via (t_ChRI ..) ?_
      rw [nOnNat, blt_t hlt, nCondT, gb, nCells, chunk_nth ruleC_len hi (by omega), show (ruleC (Value.slice (some ⟨tb, 0, tp⟩) r.tests.length cap, r))[0]? = some (.slice (some ⟨tb, 0, tp⟩) r.tests.length cap) from rfl, nElim, nAsSl, lt_len hjl, nCondT,
        nOnNat, blt_t hlt, nCondT, nCells, chunk_nth ruleC_len hi (by omega), show (ruleC (Value.slice (some ⟨tb, 0, tp⟩) r.tests.length cap, r))[0]? = some (.slice (some ⟨tb, 0, tp⟩) r.tests.length cap) from rfl, nElim, nAsSl, nElim, nOnNat, blt_t hjl, nCondT]
      dsimp only
      rw [gt, nCells, chunk_ble testC_len hjl, nCondT, chunk_sub testC_len ht]
      refine Lands.step c2 ?_
      rw [hm, nAsBoB, nCondF]
      exact Lands.at (fa2 rfl rfl)
theorem ChRR_loop {rs : List RuleT} {rest : List Value} {vr : List (Value × RuleT)} {own : Bool} {rb rc : Nat} {rp : Option Nat} (hO : Orq o) (hk : 200 ≤ k) (hlen : rs.length ≤ 32) (hrs : vr.map (·.2) = rs) (h0 : K 0 = some (.cells false gl)) (hrb : K rb = some (.cells own (vr.flatMap ruleC ++ rest))) (hv : ∀ x ∈ vr, tstsAt K x.1 x.2.tests) :
    ∀ (d i : Nat), vr.length = i + d → ∀ (jj : Nat) (M : Mem), d + 1 ≤ jj → Hp M K [] →
    ∃ M', Hp M' K [] ∧ (checkGo (rs.drop i) i = none → ∀ x, Lands 44 [(0, .slice (some ⟨rb, 0, rp⟩) vr.length rc), (4, .int .i64 (vr.length : Int))] (.exit 0) M' (loopD (codeD Tryd.prog kp 1 (callN Tryd.prog kp 1 o k) (drawD Tryd.prog kp 1 (callN Tryd.prog kp 1 o k) 44) 44 k (loopN Tryd.f14 0)) jj (fullN 44 (up x [(0, .slice (some ⟨rb, 0, rp⟩) vr.length rc), (4, .int .i64 (i : Int))])) M)) ∧
      (∀ a e, checkGo (rs.drop i) i = some (a, e) → ∀ x, Lands 44 [(2, .int .i64 (a : Int)), (3, .int .i64 e)] .ret M' (loopD (codeD Tryd.prog kp 1 (callN Tryd.prog kp 1 o k) (drawD Tryd.prog kp 1 (callN Tryd.prog kp 1 o k) 44) 44 k (loopN Tryd.f14 0)) jj (fullN 44 (up x [(0, .slice (some ⟨rb, 0, rp⟩) vr.length rc), (4, .int .i64 (i : Int))])) M))
  | 0, i, hi, jj, M, hjj, h => by
    obtain ⟨jj, rfl⟩ : ∃ j', jj = j' + 1 := ⟨jj - 1, by omega⟩
    obtain rfl : i = vr.length := by omega
    have hl : rs.length = vr.length := by rw [← hrs, List.length_map]
    refine ⟨M, h, fun _ x => Lands.stop (Lands.turn ?_) (by simp), fun a e ha => by rw [← hl, List.drop_length] at ha; cases ha⟩
    refine Lands.via (markS_eq [8] Tryd.prog kp 1 _ (Y.lpOf Tryd.prog kp 1 (callN Tryd.prog kp 1 o k) 44) (fun _ _ _ _ _ _ _ => rfl) 44 k (loopN Tryd.f14 0) (by kernel_rfl) _ M _) ?_
    refine Lands.via (t_ChRA ..) ?_
    rw [ge_len (by omega), nCondF]
    exact Lands.here _
  | d + 1, i, hi, jj, M, hjj, h => by
    obtain ⟨jj, rfl⟩ : ∃ j', jj = j' + 1 := ⟨jj - 1, by omega⟩
    have hl : rs.length = vr.length := by rw [← hrs, List.length_map]
    have hlt : i < vr.length := by omega
    obtain ⟨p, hp⟩ : ∃ p, vr[i]? = some p := ⟨_, List.getElem?_eq_getElem hlt⟩
    obtain ⟨v, r⟩ := p
    have hpm : (v, r) ∈ vr := List.mem_of_getElem? hp
    have hri : rs[i]? = some r := by rw [← hrs, List.getElem?_map, hp]; rfl
    have hd : rs.drop i = r :: rs.drop (i + 1) := by
      rw [List.drop_eq_getElem_cons (by omega)]
      congr 1
      rw [List.getElem?_eq_getElem (by omega)] at hri
      exact Option.some.inj hri
    have gb := h.get hrb
    have hvt : tstsAt K v r.tests := hv _ hpm
    obtain ⟨ta0, tc0, hv0, _⟩ := id hvt
    by_cases h8 : 8 < r.tests.length
    · have e : checkGo (rs.drop i) i = some (i, 3) := by rw [hd, checkGo, if_pos h8]
      refine ⟨M, h, fun ha => (by rw [e] at ha; cases ha), fun a e' ha x => Lands.stop (Lands.turn ?_) (by simp)⟩
      obtain ⟨rfl, rfl⟩ : i = a ∧ 3 = e' := by rw [e] at ha; cases ha; exact ⟨rfl, rfl⟩
      refine Lands.via (markS_eq [8] Tryd.prog kp 1 _ (Y.lpOf Tryd.prog kp 1 (callN Tryd.prog kp 1 o k) 44) (fun _ _ _ _ _ _ _ => rfl) 44 k (loopN Tryd.f14 0) (by kernel_rfl) _ M _) ?_
      refine Lands.via (t_ChRA ..) ?_
      rw [lt_len hlt, nCondT, nOnNat, blt_t hlt, nCondT, gb, nCells, chunk_nth ruleC_len hp (by omega), show (ruleC (v, r))[0]? = some v from rfl, nElim, hv0, nAsSl]
      rw [ltF_t (show (8 : Int) < Int.ofNat r.tests.length by show (8 : Int) < (r.tests.length : Int); omega), nCondT]
      exact Lands.at (fa2 rfl rfl)
    · have h8f : Y.ltF 8 (Int.ofNat r.tests.length) = false := ltF_f (by show ¬ (8 : Int) < (r.tests.length : Int); omega)
      obtain ⟨M2, h2, q1, q2⟩ := ChRT_loop (k := k) (rc := rc) (rp := rp) hO (by omega) (by omega) h0 hrb hp hvt r.tests.length 0 (by omega) k M (by omega) h
      rw [List.drop_zero] at q1 q2
      cases hm : r.tests.all mayT with
      | true =>
        have e : checkGo (rs.drop i) i = checkGo (rs.drop (i + 1)) (i + 1) := by rw [hd, checkGo, if_neg h8, if_pos hm]
        obtain ⟨M3, h3, w1, w2⟩ := ChRR_loop (rc := rc) (rp := rp) hO hk hlen hrs h0 hrb hv d (i + 1) (by omega) jj M2 (by omega) h2
        rw [e]
        refine ⟨M3, h3, fun ha x => Lands.next (Lands.turn ?_) (w1 ha), fun a e' ha x => Lands.next (Lands.turn ?_) (w2 a e' ha)⟩
        · refine Lands.via (markS_eq [8] Tryd.prog kp 1 _ (Y.lpOf Tryd.prog kp 1 (callN Tryd.prog kp 1 o k) 44) (fun _ _ _ _ _ _ _ => rfl) 44 k (loopN Tryd.f14 0) (by kernel_rfl) _ M _) ?_
          refine Lands.via (t_ChRA ..) ?_
          rw [lt_len hlt, nCondT, nOnNat, blt_t hlt, nCondT, gb, nCells, chunk_nth ruleC_len hp (by omega), show (ruleC (v, r))[0]? = some v from rfl, nElim, hv0, nAsSl]
          rw [h8f, nCondF]
          refine Lands.via (loop_reg _ _ _ (by kernel_rfl) _ _ _ _) ?_
          refine Lands.via (r14_8_eq ..) ?_
          refine Lands.via (t_ChRS ..) ?_
          refine Lands.via (t_ChRC ..) ?_
          refine Lands.via (mixL_loop _ _ (by kernel_rfl) _ _ _ _) ?_
          rw [Y.lpOf_eq, lc14]
          refine Lands.loop (q1 hm _) fun x' => ?_
          refine Lands.via (t_ChRD ..) ?_
          rw [wrap_succ (by omega)]
          exact Lands.here _
        · refine Lands.via (markS_eq [8] Tryd.prog kp 1 _ (Y.lpOf Tryd.prog kp 1 (callN Tryd.prog kp 1 o k) 44) (fun _ _ _ _ _ _ _ => rfl) 44 k (loopN Tryd.f14 0) (by kernel_rfl) _ M _) ?_
          refine Lands.via (t_ChRA ..) ?_
          rw [lt_len hlt, nCondT, nOnNat, blt_t hlt, nCondT, gb, nCells, chunk_nth ruleC_len hp (by omega), show (ruleC (v, r))[0]? = some v from rfl, nElim, hv0, nAsSl]
          rw [h8f, nCondF]
          refine Lands.via (loop_reg _ _ _ (by kernel_rfl) _ _ _ _) ?_
          refine Lands.via (r14_8_eq ..) ?_
          refine Lands.via (t_ChRS ..) ?_
          refine Lands.via (t_ChRC ..) ?_
          refine Lands.via (mixL_loop _ _ (by kernel_rfl) _ _ _ _) ?_
          rw [Y.lpOf_eq, lc14]
          refine Lands.loop (q1 hm _) fun x' => ?_
          refine Lands.via (t_ChRD ..) ?_
          rw [wrap_succ (by omega)]
          exact Lands.here _
      | false =>
        have e : checkGo (rs.drop i) i = some (i, 1) := by rw [hd, checkGo, if_neg h8, if_neg (by rw [hm]; decide)]
        refine ⟨M2, h2, fun ha => (by rw [e] at ha; cases ha), fun a e' ha x => Lands.stop (Lands.turn ?_) (by simp)⟩
        obtain ⟨rfl, rfl⟩ : i = a ∧ 1 = e' := by rw [e] at ha; cases ha; exact ⟨rfl, rfl⟩
        refine Lands.via (markS_eq [8] Tryd.prog kp 1 _ (Y.lpOf Tryd.prog kp 1 (callN Tryd.prog kp 1 o k) 44) (fun _ _ _ _ _ _ _ => rfl) 44 k (loopN Tryd.f14 0) (by kernel_rfl) _ M _) ?_
        refine Lands.via (t_ChRA ..) ?_
        rw [lt_len hlt, nCondT, nOnNat, blt_t hlt, nCondT, gb, nCells, chunk_nth ruleC_len hp (by omega), show (ruleC (v, r))[0]? = some v from rfl, nElim, hv0, nAsSl]
        rw [h8f, nCondF]
        refine Lands.via (loop_reg _ _ _ (by kernel_rfl) _ _ _ _) ?_
        refine Lands.via (r14_8_eq ..) ?_
        refine Lands.via (t_ChRS ..) ?_
        refine Lands.via (t_ChRC ..) ?_
        refine Lands.via (mixL_loop _ _ (by kernel_rfl) _ _ _ _) ?_
        rw [Y.lpOf_eq, lc14]
        refine Lands.loop (q2 hm _) fun x' => ?_
        refine Lands.via (t_ChRE ..) ?_
        exact Lands.here _
theorem CheckR_do {rs : List RuleT} {v : Value} (hO : Orq o) (hk : 300 ≤ k) (hv : rulesAt K v rs) (h : Hp M K []) (h0 : K 0 = some (.cells false gl)) :
    ∃ M', callN Tryd.prog kp 1 o k 14 [v] M = some (.tuple ⟨[.int .i64 ((checkS rs).1 : Int), .int .i64 (checkS rs).2]⟩, M') ∧ Hp M' K [] := by
  obtain ⟨k, rfl⟩ : ∃ k', k = k' + 1 := ⟨k - 1, by omega⟩
  obtain ⟨ra, rc, rfl, hv⟩ := hv
  by_cases h32 : 32 < rs.length
  · refine ⟨M, call_of 44 (hO.off 14 (by decide) _ _) at14 bd14 n14 ?_ ok14, h⟩
    refine Eq.trans (t_ChR_in ..) ?_
    rw [ltF_t (show (32 : Int) < Int.ofNat rs.length by show (32 : Int) < (rs.length : Int); omega), nCondT, checkS, if_pos h32]
    rfl
  · have hf : Y.ltF 32 (Int.ofNat rs.length) = false := ltF_f (by show ¬ (32 : Int) < (rs.length : Int); omega)
    obtain ⟨M', h', q1, q2⟩ : ∃ M', Hp M' K [] ∧ (checkGo rs 0 = none → ∀ x, Lands 44 [(0, .slice ra rs.length rc), (4, .int .i64 (rs.length : Int))] (.exit 0) M' (loopD (codeD Tryd.prog kp 1 (callN Tryd.prog kp 1 o k) (drawD Tryd.prog kp 1 (callN Tryd.prog kp 1 o k) 44) 44 k (loopN Tryd.f14 0)) k (fullN 44 (up x [(0, .slice ra rs.length rc), (4, .int .i64 (0 : Int))])) M)) ∧
        (∀ a e, checkGo rs 0 = some (a, e) → ∀ x, Lands 44 [(2, .int .i64 (a : Int)), (3, .int .i64 e)] .ret M' (loopD (codeD Tryd.prog kp 1 (callN Tryd.prog kp 1 o k) (drawD Tryd.prog kp 1 (callN Tryd.prog kp 1 o k) 44) 44 k (loopN Tryd.f14 0)) k (fullN 44 (up x [(0, .slice ra rs.length rc), (4, .int .i64 (0 : Int))])) M)) := by
      by_cases e : rs = []
      · subst e
        obtain ⟨k, rfl⟩ : ∃ k', k = k' + 1 := ⟨k - 1, by omega⟩
        exact ⟨M, h, fun _ x => Lands.stop (Lands.turn (Lands.via (t_ChRA0 ..) (Lands.here _))) (by simp), fun a e ha => by cases ha⟩
      · obtain ⟨rb, rp, own, rest, vr, rfl, hrs, hrb, hvt⟩ := hv e
        have hl2 : rs.length = vr.length := by rw [← hrs, List.length_map]
        obtain ⟨M', h', q1, q2⟩ := ChRR_loop (k := k) (rc := rc) (rp := rp) hO (by omega) (by omega) hrs h0 hrb hvt vr.length 0 (by omega) k M (by omega) h
        rw [hl2]
        exact ⟨M', h', q1, q2⟩
    refine ⟨M', call_of 44 (hO.off 14 (by decide) _ _) at14 bd14 n14 ?_ ok14, h'⟩
    refine Eq.trans (t_ChR_in ..) ?_
    rw [hf, nCondF, checkS, if_neg h32]
    rw [Y.lpOf_eq, Y.loopC_body]
    cases hc : checkGo rs 0 with
    | none =>
      refine onE_land (q1 hc _) fun x' => ?_
      exact t_ChR_out ..
    | some p =>
      obtain ⟨a, e⟩ := p
      refine onE_land (q2 a e hc _) fun x' => ?_
      exact t_ChR_ret ..
end
end
end Go.Proofs.YtadioopbehiakaaDoor
