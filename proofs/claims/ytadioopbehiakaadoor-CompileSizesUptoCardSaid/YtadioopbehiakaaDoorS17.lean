/-
  CChk: Check, of both sides.
-/
import Derived.Test.YtadioopbehiakaaDoorS15
import Derived.Test.YtadioopbehiakaaDoorS16
import Derived.Test.YtadioopbehiakaaDoorS10
set_option linter.all false
set_option linter.unusedVariables false
set_option linter.unusedSimpArgs false
namespace Go.Cmp
def checkGo : List RuleT → Nat → Option (Nat × Int)
  | [], _ => none
  | r :: l, i => if 8 < r.tests.length then some (i, 3) else if r.tests.all mayT = true then checkGo l (i + 1) else some (i, 1)
def checkS (rs : List RuleT) : Nat × Int := if 32 < rs.length then (0, 3) else (checkGo rs 0).getD (0, 0)
end Go.Cmp
namespace Go.Proofs.YtadioopbehiakaaDoor
open Go Go.DI Go.DI.Kit Go.Proofs Go.Cmp
noncomputable section
theorem at12 : Tryd.prog.funcs[12]? = some Tryd.f12 := by kernel_rfl
theorem bd12 : Tryd.f12.body = some (bodyOf Tryd.f12) := by kernel_rfl
theorem nt12 : Tryd.f12.ntmps = 36 := by kernel_rfl
theorem n12 {a : Value} : max [a].length Tryd.f12.ntmps = 36 := by rw [nt12]; rfl
theorem ok12 {a b : Int} : okR Tryd.prog 12 (.tuple ⟨[.int .i64 a, .int .i64 b]⟩) = true := by kernel_rfl
section
variable {α : Type} (x : Nat → Value) (cf : Y.CF α) (L : Y.LK α) (k : Nat) (m : Mem)
theorem t_ChkRS (b : Nat) (w4 w11 w12 w13 u : Value) (q : Tmps → Mem → Option α) : Y.opsF (List.drop 5 r12_5) Tryd.prog kp 1 (Y.cfT Tryd.prog cf) 36 r12_5 (fullN 36 (up x [(4, w4), (5, .pointer (some ⟨b, 0, none⟩)), (11, w11), (12, w12), (13, w13), (17, u)])) m q =
  Y.storeF Tryd.prog m 46 u (.pointer (some ⟨b, 0, none⟩)) fun m' => q (fullN 36 (up (up x [(17, u)]) [(4, w4), (5, .pointer (some ⟨b, 0, none⟩)), (11, w11), (12, w12), (13, w13)])) m' := by kernel_rfl
theorem t_ChkJS (b : Nat) (w4 w5 w11 w12 w13 w24 w25 w26 u : Value) (q : Tmps → Mem → Option α) : Y.opsF (List.drop 3 r12_10) Tryd.prog kp 1 (Y.cfT Tryd.prog cf) 36 r12_10 (fullN 36 (up x [(4, w4), (5, w5), (7, .pointer (some ⟨b, 0, none⟩)), (11, w11), (12, w12), (13, w13), (24, w24), (25, w25), (26, w26), (29, u)])) m q =
  Y.storeF Tryd.prog m 53 u (.pointer (some ⟨b, 0, none⟩)) fun m' => q (fullN 36 (up (up x [(29, u)]) [(4, w4), (5, w5), (7, .pointer (some ⟨b, 0, none⟩)), (11, w11), (12, w12), (13, w13), (24, w24), (25, w25), (26, w26)])) m' := by kernel_rfl
theorem r12_5_eq (t : Tmps) (q : Y.ExK α) : Y.codeF (Y.loopC c12 0) Tryd.prog kp 1 (Y.cfT Tryd.prog cf) L 36 k t m q = Y.opsF r12_5 Tryd.prog kp 1 (Y.cfT Tryd.prog cf) 36 r12_5 t m fun t m => q .normal t m := by kernel_rfl
theorem r12_8_eq (t : Tmps) (q : Y.ExK α) : Y.codeF (Y.loopC c12 1) Tryd.prog kp 1 (Y.cfT Tryd.prog cf) L 36 k t m q = Y.opsF r12_8 Tryd.prog kp 1 (Y.cfT Tryd.prog cf) 36 r12_8 t m fun t m => q .normal t m := by kernel_rfl
theorem r12_10_eq (t : Tmps) (q : Y.ExK α) : Y.codeF (Y.loopC c12i 0) Tryd.prog kp 1 (Y.cfT Tryd.prog cf) L 36 k t m q = Y.opsF r12_10 Tryd.prog kp 1 (Y.cfT Tryd.prog cf) 36 r12_10 t m fun t m => q .normal t m := by kernel_rfl
theorem t_ChkI0 (w4 w5 w11 w12 w13 w24 : Value) (q : Y.ExK α) : Y.codeF (loopN Tryd.f12 1) Tryd.prog kp 1 (Y.cfT Tryd.prog cf) L 36 k (fullN 36 (up x [(4, w4), (5, w5), (11, w11), (12, w12), (13, w13), (24, w24), (25, .int .i64 (0 : Nat)), (26, .int .i64 (0 : Int))])) m q =
  q (.exit 2) (fullN 36 (up (up x [(27, .bool false)]) [(4, w4), (5, w5), (11, w11), (12, w12), (13, w13), (24, w24), (25, .int .i64 (0 : Nat)), (26, .int .i64 (0 : Int))])) m := by kernel_rfl
theorem t_ChkA0 (w11 : Value) (q : Y.ExK α) : Y.codeF (loopN Tryd.f12 0) Tryd.prog kp 1 (Y.cfT Tryd.prog cf) L 36 k (fullN 36 (up x [(11, w11), (12, .int .i64 (0 : Nat)), (13, .int .i64 (0 : Int))])) m q =
  q (.exit 0) (fullN 36 (up (up x [(14, .bool false)]) [(11, w11), (12, .int .i64 (0 : Nat)), (13, .int .i64 (0 : Int))])) m := by kernel_rfl
end
theorem lc12 : Y.loopC c12 2 = loopN Tryd.f12 1 := by kernel_rfl
theorem fa2 {F : Nat → Value} {a b : Nat × Value} (h1 : F a.1 = a.2) (h2 : F b.1 = b.2) : ∀ p ∈ [a, b], F p.1 = p.2 := by
  intro p hp
  simp only [List.mem_cons, List.not_mem_nil, or_false] at hp
  rcases hp with rfl | rfl
  · exact h1
  · exact h2
section
variable {K : Keep} {M : Mem} {o : Orc} {k : Nat}
theorem hp_glob {hs : List (Nat × Thing)} (h : Hp M K hs) (h0 : K 0 = some (.cells false gl)) : M.top ∧ 1 ≤ M.size ∧ M.get 0 = .cells false gl := ⟨h.top, by have := h.lt h0; omega, h.get h0⟩
/-! ### the program's -/
theorem ChkT_loop {ts : List TestT} {rest : List Value} {own : Bool} {tb tc xb rb rn rc i : Nat} {tp rp : Option Nat} (hO : Orq o) (hk : 100 ≤ k) (hn : ts.length ≤ 8) (h0 : K 0 = some (.cells false gl)) (htb : K tb = some (.cells own (ts.flatMap testC ++ rest))) :
    ∀ (d j : Nat), ts.length = j + d → ∀ (jj : Nat) (M : Mem), d + 1 ≤ jj → Hp M K [] →
    ∃ M', Hp M' K [] ∧ ((ts.drop j).all mayT = true → ∀ x, Lands 36 [(4, .int .i64 (i : Int)), (5, .pointer (some ⟨xb, 0, none⟩)), (11, .slice (some ⟨rb, 0, rp⟩) rn rc), (12, .int .i64 (rn : Int)), (13, .int .i64 (i : Int)), (24, .slice (some ⟨tb, 0, tp⟩) ts.length tc), (25, .int .i64 (ts.length : Int)), (26, .int .i64 (ts.length : Int))] (.exit 2) M' (loopD (codeD Tryd.prog kp 1 (callN Tryd.prog kp 1 o k) (drawD Tryd.prog kp 1 (callN Tryd.prog kp 1 o k) 36) 36 k (loopN Tryd.f12 1)) jj (fullN 36 (up x [(4, .int .i64 (i : Int)), (5, .pointer (some ⟨xb, 0, none⟩)), (11, .slice (some ⟨rb, 0, rp⟩) rn rc), (12, .int .i64 (rn : Int)), (13, .int .i64 (i : Int)), (24, .slice (some ⟨tb, 0, tp⟩) ts.length tc), (25, .int .i64 (ts.length : Int)), (26, .int .i64 (j : Int))])) M)) ∧
      ((ts.drop j).all mayT = false → ∀ x, Lands 36 [(2, .int .i64 (i : Int)), (3, .int .i64 1)] .ret M' (loopD (codeD Tryd.prog kp 1 (callN Tryd.prog kp 1 o k) (drawD Tryd.prog kp 1 (callN Tryd.prog kp 1 o k) 36) 36 k (loopN Tryd.f12 1)) jj (fullN 36 (up x [(4, .int .i64 (i : Int)), (5, .pointer (some ⟨xb, 0, none⟩)), (11, .slice (some ⟨rb, 0, rp⟩) rn rc), (12, .int .i64 (rn : Int)), (13, .int .i64 (i : Int)), (24, .slice (some ⟨tb, 0, tp⟩) ts.length tc), (25, .int .i64 (ts.length : Int)), (26, .int .i64 (j : Int))])) M))
  | 0, j, hj, jj, M, hjj, h => by
    obtain ⟨jj, rfl⟩ : ∃ j', jj = j' + 1 := ⟨jj - 1, by omega⟩
    obtain rfl : j = ts.length := by omega
    refine ⟨M, h, fun _ x => Lands.stop (Lands.turn ?_) (by simp), fun ha => by rw [List.drop_length] at ha; cases ha⟩
    refine Lands.via (markS_eq [10] Tryd.prog kp 1 _ (Y.lpOf Tryd.prog kp 1 (callN Tryd.prog kp 1 o k) 36) (fun _ _ _ _ _ _ _ => rfl) 36 k (loopN Tryd.f12 1) (by kernel_rfl) _ M _) ?_
    refine Lands.via (t_ChkI ..) ?_
    rw [ge_len (by omega), nCondF]
    exact Lands.here _
  | d + 1, j, hj, jj, M, hjj, h => by
    obtain ⟨jj, rfl⟩ : ∃ j', jj = j' + 1 := ⟨jj - 1, by omega⟩
    have hlt : j < ts.length := by omega
    obtain ⟨t, ht⟩ : ∃ t, ts[j]? = some t := ⟨_, List.getElem?_eq_getElem hlt⟩
    have hd : ts.drop j = t :: ts.drop (j + 1) := by
      rw [List.drop_eq_getElem_cons hlt]
      congr 1
      rw [List.getElem?_eq_getElem hlt] at ht
      exact Option.some.inj ht
    have gb := h.get htb
    obtain ⟨M1, hM1⟩ : ∃ M1, (M.push (.cells true [(.bool false), (.int .i64 (0 : Int)), (.int .i64 (0 : Int)), (.int .i64 (0 : Int)), (.int .u64 (0 : Int)), (.int .u64 (0 : Int)), (.int .u64 (0 : Int))])).set M.size (.cells true (testC t)) = M1 := ⟨_, rfl⟩
    have gy : M1.get M.size = .cells true (testC t) := by rw [← hM1]; exact Mem.get_set_same _ _ _
    have h1 : Hp M1 K [] := h.ext (hM1 ▸ Ext.fresh)
    have hst : storeD Tryd.prog (M.push (.cells true [(.bool false), (.int .i64 (0 : Int)), (.int .i64 (0 : Int)), (.int .i64 (0 : Int)), (.int .u64 (0 : Int)), (.int .u64 (0 : Int)), (.int .u64 (0 : Int))])) 53 (.agg ⟨testC t⟩) (.pointer (some ⟨M.size, 0, none⟩)) = some M1 := by
      rw [storeD_at (n := 7) sz53 rfl (Mem.get_push_same _ _) (by simp) rfl, ← hM1]
      rfl
    obtain ⟨M2, c2, x2⟩ := may_do (t := t) (k := k) hO (by omega) (hp_glob h1 h0)
    have h2 := h1.ext x2
    obtain ⟨M3, h3, q1, q2⟩ := ChkT_loop (xb := xb) (rb := rb) (rn := rn) (rc := rc) (i := i) (tp := tp) (rp := rp) (tc := tc) hO hk hn h0 htb d (j + 1) (by omega) jj M2 (by omega) h2
    cases hm : mayT t with
    | true =>
      refine ⟨M3, h3, fun ha x => Lands.next (Lands.turn ?_) (q1 (by rw [hd, List.all_cons, hm] at ha; exact ha)), fun ha x => Lands.next (Lands.turn ?_) (q2 (by rw [hd, List.all_cons, hm] at ha; exact ha))⟩
      · refine Lands.via (markS_eq [10] Tryd.prog kp 1 _ (Y.lpOf Tryd.prog kp 1 (callN Tryd.prog kp 1 o k) 36) (fun _ _ _ _ _ _ _ => rfl) 36 k (loopN Tryd.f12 1) (by kernel_rfl) _ M _) ?_
        refine Lands.via (t_ChkI ..) ?_
        rw [lt_len hlt, nCondT]
        refine Lands.via (loop_reg _ _ _ (by kernel_rfl) _ _ _ _) ?_
        refine Lands.via (r12_10_eq ..) ?_
        refine Lands.via (opsF_cut 3 ..) ?_
        refine Lands.via (t_ChkJ ..) ?_
        rw [nOnNat, blt_t hlt, nCondT, gb, nCells, chunk_ble testC_len hlt, nCondT, chunk_sub testC_len ht]
        refine Lands.via (t_ChkJS ..) ?_
        rw [Y.storeF_eq, hst, Y.ob_some]
        refine Lands.via (t_ChkK ..) ?_
        rw [gy, nCells, show Nat.ble 7 (Y.lenLF (testC t)) = true from rfl, nCondT, show Y.subL (testC t) 0 7 = testC t from rfl]
        refine Lands.step c2 ?_
        rw [hm, nAsBoB, nCondT, wrap_succ (by omega)]
        exact Lands.here _
      · refine Lands.via (markS_eq [10] Tryd.prog kp 1 _ (Y.lpOf Tryd.prog kp 1 (callN Tryd.prog kp 1 o k) 36) (fun _ _ _ _ _ _ _ => rfl) 36 k (loopN Tryd.f12 1) (by kernel_rfl) _ M _) ?_
        refine Lands.via (t_ChkI ..) ?_
        rw [lt_len hlt, nCondT]
        refine Lands.via (loop_reg _ _ _ (by kernel_rfl) _ _ _ _) ?_
        refine Lands.via (r12_10_eq ..) ?_
        refine Lands.via (opsF_cut 3 ..) ?_
        refine Lands.via (t_ChkJ ..) ?_
        rw [nOnNat, blt_t hlt, nCondT, gb, nCells, chunk_ble testC_len hlt, nCondT, chunk_sub testC_len ht]
        refine Lands.via (t_ChkJS ..) ?_
        rw [Y.storeF_eq, hst, Y.ob_some]
        refine Lands.via (t_ChkK ..) ?_
        rw [gy, nCells, show Nat.ble 7 (Y.lenLF (testC t)) = true from rfl, nCondT, show Y.subL (testC t) 0 7 = testC t from rfl]
        refine Lands.step c2 ?_
        rw [hm, nAsBoB, nCondT, wrap_succ (by omega)]
        exact Lands.here _
    | false =>
      refine ⟨M2, h2, fun ha => (by rw [hd, List.all_cons, hm] at ha; cases ha), fun _ x => Lands.stop (Lands.turn ?_) (by simp)⟩
      refine Lands.via (markS_eq [10] Tryd.prog kp 1 _ (Y.lpOf Tryd.prog kp 1 (callN Tryd.prog kp 1 o k) 36) (fun _ _ _ _ _ _ _ => rfl) 36 k (loopN Tryd.f12 1) (by kernel_rfl) _ M _) ?_
      refine Lands.via (t_ChkI ..) ?_
      rw [lt_len hlt, nCondT]
      refine Lands.via (loop_reg _ _ _ (by kernel_rfl) _ _ _ _) ?_
      refine Lands.via (r12_10_eq ..) ?_
      refine Lands.via (opsF_cut 3 ..) ?_
      refine Lands.via (t_ChkJ ..) ?_
      rw [nOnNat, blt_t hlt, nCondT, gb, nCells, chunk_ble testC_len hlt, nCondT, chunk_sub testC_len ht]
      refine Lands.via (t_ChkJS ..) ?_
      rw [Y.storeF_eq, hst, Y.ob_some]
      refine Lands.via (t_ChkK ..) ?_
      rw [gy, nCells, show Nat.ble 7 (Y.lenLF (testC t)) = true from rfl, nCondT, show Y.subL (testC t) 0 7 = testC t from rfl]
      refine Lands.step c2 ?_
      rw [hm, nAsBoB, nCondF]
      exact Lands.at (fa2 rfl rfl)
theorem ChkT_run {ts : List TestT} {v : Value} {xb rb rn rc i : Nat} {rp : Option Nat} (hO : Orq o) (hk : 100 ≤ k) (hn : ts.length ≤ 8) (h0 : K 0 = some (.cells false gl)) (hv : tstsAt K v ts) (h : Hp M K []) :
    ∃ ta tc M', v = .slice ta ts.length tc ∧ Hp M' K [] ∧ (ts.all mayT = true → ∀ x, Lands 36 [(4, .int .i64 (i : Int)), (5, .pointer (some ⟨xb, 0, none⟩)), (11, .slice (some ⟨rb, 0, rp⟩) rn rc), (12, .int .i64 (rn : Int)), (13, .int .i64 (i : Int)), (24, .slice ta ts.length tc), (25, .int .i64 (ts.length : Int)), (26, .int .i64 (ts.length : Int))] (.exit 2) M' (loopD (codeD Tryd.prog kp 1 (callN Tryd.prog kp 1 o k) (drawD Tryd.prog kp 1 (callN Tryd.prog kp 1 o k) 36) 36 k (loopN Tryd.f12 1)) k (fullN 36 (up x [(4, .int .i64 (i : Int)), (5, .pointer (some ⟨xb, 0, none⟩)), (11, .slice (some ⟨rb, 0, rp⟩) rn rc), (12, .int .i64 (rn : Int)), (13, .int .i64 (i : Int)), (24, .slice ta ts.length tc), (25, .int .i64 (ts.length : Int)), (26, .int .i64 (0 : Int))])) M)) ∧
      (ts.all mayT = false → ∀ x, Lands 36 [(2, .int .i64 (i : Int)), (3, .int .i64 1)] .ret M' (loopD (codeD Tryd.prog kp 1 (callN Tryd.prog kp 1 o k) (drawD Tryd.prog kp 1 (callN Tryd.prog kp 1 o k) 36) 36 k (loopN Tryd.f12 1)) k (fullN 36 (up x [(4, .int .i64 (i : Int)), (5, .pointer (some ⟨xb, 0, none⟩)), (11, .slice (some ⟨rb, 0, rp⟩) rn rc), (12, .int .i64 (rn : Int)), (13, .int .i64 (i : Int)), (24, .slice ta ts.length tc), (25, .int .i64 (ts.length : Int)), (26, .int .i64 (0 : Int))])) M)) := by
  obtain ⟨ta, tc, rfl, hv⟩ := hv
  by_cases e : ts = []
  · subst e
    obtain ⟨k, rfl⟩ : ∃ k', k = k' + 1 := ⟨k - 1, by omega⟩
    refine ⟨ta, tc, M, rfl, h, fun _ x => Lands.stop (Lands.turn ?_) (by simp), fun ha => by cases ha⟩
    exact Lands.via (t_ChkI0 ..) (Lands.here _)
  · obtain ⟨tb, tp, own, rest, rfl, htb⟩ := hv e
    obtain ⟨M', h1, h2, h3⟩ := ChkT_loop (xb := xb) (rb := rb) (rn := rn) (rc := rc) (i := i) (tp := tp) (rp := rp) (tc := tc) (k := k) hO hk hn h0 htb ts.length 0 (by omega) k M (by omega) h
    exact ⟨_, tc, M', rfl, h1, h2, h3⟩
theorem ChkR_loop {rs : List RuleT} {rest : List Value} {vr : List (Value × RuleT)} {own : Bool} {rb rc : Nat} {rp : Option Nat} (hO : Orq o) (hk : 200 ≤ k) (hlen : rs.length ≤ 32) (hrs : vr.map (·.2) = rs) (h0 : K 0 = some (.cells false gl)) (hrb : K rb = some (.cells own (vr.flatMap ruleC ++ rest))) (hv : ∀ x ∈ vr, tstsAt K x.1 x.2.tests) :
    ∀ (d i : Nat), vr.length = i + d → ∀ (jj : Nat) (M : Mem), d + 1 ≤ jj → Hp M K [] →
    ∃ M', Hp M' K [] ∧ (checkGo (rs.drop i) i = none → ∀ x, Lands 36 [(11, .slice (some ⟨rb, 0, rp⟩) vr.length rc), (12, .int .i64 (vr.length : Int)), (13, .int .i64 (vr.length : Int))] (.exit 0) M' (loopD (codeD Tryd.prog kp 1 (callN Tryd.prog kp 1 o k) (drawD Tryd.prog kp 1 (callN Tryd.prog kp 1 o k) 36) 36 k (loopN Tryd.f12 0)) jj (fullN 36 (up x [(11, .slice (some ⟨rb, 0, rp⟩) vr.length rc), (12, .int .i64 (vr.length : Int)), (13, .int .i64 (i : Int))])) M)) ∧
      (∀ a e, checkGo (rs.drop i) i = some (a, e) → ∀ x, Lands 36 [(2, .int .i64 (a : Int)), (3, .int .i64 e)] .ret M' (loopD (codeD Tryd.prog kp 1 (callN Tryd.prog kp 1 o k) (drawD Tryd.prog kp 1 (callN Tryd.prog kp 1 o k) 36) 36 k (loopN Tryd.f12 0)) jj (fullN 36 (up x [(11, .slice (some ⟨rb, 0, rp⟩) vr.length rc), (12, .int .i64 (vr.length : Int)), (13, .int .i64 (i : Int))])) M))
  | 0, i, hi, jj, M, hjj, h => by
    obtain ⟨jj, rfl⟩ : ∃ j', jj = j' + 1 := ⟨jj - 1, by omega⟩
    obtain rfl : i = vr.length := by omega
    have hl : rs.length = vr.length := by rw [← hrs, List.length_map]
    refine ⟨M, h, fun _ x => Lands.stop (Lands.turn ?_) (by simp), fun a e ha => by rw [← hl, List.drop_length] at ha; cases ha⟩
    refine Lands.via (markS_eq [5, 8] Tryd.prog kp 1 _ (Y.lpOf Tryd.prog kp 1 (callN Tryd.prog kp 1 o k) 36) (fun _ _ _ _ _ _ _ => rfl) 36 k (loopN Tryd.f12 0) (by kernel_rfl) _ M _) ?_
    refine Lands.via (t_ChkA ..) ?_
    rw [ge_len (by omega), nCondF]
    exact Lands.here _
  | d + 1, i, hi, jj, M, hjj, h => by
    obtain ⟨jj, rfl⟩ : ∃ j', jj = j' + 1 := ⟨jj - 1, by omega⟩
    have hl : rs.length = vr.length := by rw [← hrs, List.length_map]
    have hlt : i < vr.length := by omega
    obtain ⟨p, hp⟩ : ∃ p, vr[i]? = some p := ⟨_, List.getElem?_eq_getElem hlt⟩
    obtain ⟨v, r⟩ := p
    have hpm : (v, r) ∈ vr := List.mem_of_getElem? hp
    have hri : rs[i]? = some r := by rw [← hrs, List.getElem?_map, hp]; rfl
    have hd : rs.drop i = r :: rs.drop (i + 1) := by
      rw [List.drop_eq_getElem_cons (by omega)]
      congr 1
      rw [List.getElem?_eq_getElem (by omega)] at hri
      exact Option.some.inj hri
    have gb := h.get hrb
    have hvt : tstsAt K v r.tests := hv _ hpm
    obtain ⟨M1, hM1⟩ : ∃ M1, (M.push (.cells true [(.slice none 0 0), (.int Go.IntKind.u32 (0 : Int))])).set M.size (.cells true (ruleC (v, r))) = M1 := ⟨_, rfl⟩
    have gx : M1.get M.size = .cells true (ruleC (v, r)) := by rw [← hM1]; exact Mem.get_set_same _ _ _
    have h1 : Hp M1 K [] := h.ext (hM1 ▸ Ext.fresh)
    obtain ⟨ta0, tc0, hv0, _⟩ := id hvt
    have hst : storeD Tryd.prog (M.push (.cells true [(.slice none 0 0), (.int Go.IntKind.u32 (0 : Int))])) 46 (.agg ⟨ruleC (v, r)⟩) (.pointer (some ⟨M.size, 0, none⟩)) = some M1 := by
      subst hv0
      rw [storeD_at (n := 2) sz46 rfl (Mem.get_push_same _ _) (by simp) rfl, ← hM1]
      rfl
    by_cases h8 : 8 < r.tests.length
    · have e : checkGo (rs.drop i) i = some (i, 3) := by rw [hd, checkGo, if_pos h8]
      refine ⟨M1, h1, fun ha => (by rw [e] at ha; cases ha), fun a e' ha x => Lands.stop (Lands.turn ?_) (by simp)⟩
      obtain ⟨rfl, rfl⟩ : i = a ∧ 3 = e' := by rw [e] at ha; cases ha; exact ⟨rfl, rfl⟩
      refine Lands.via (markS_eq [5, 8] Tryd.prog kp 1 _ (Y.lpOf Tryd.prog kp 1 (callN Tryd.prog kp 1 o k) 36) (fun _ _ _ _ _ _ _ => rfl) 36 k (loopN Tryd.f12 0) (by kernel_rfl) _ M _) ?_
      refine Lands.via (t_ChkA ..) ?_
      rw [lt_len hlt, nCondT]
      refine Lands.via (loop_reg _ _ _ (by kernel_rfl) _ _ _ _) ?_
      refine Lands.via (r12_5_eq ..) ?_
      refine Lands.via (opsF_cut 5 ..) ?_
      refine Lands.via (t_ChkR ..) ?_
      rw [nOnNat, blt_t hlt, nCondT, gb, nCells, chunk_ble ruleC_len hlt, nCondT, chunk_sub ruleC_len hp]
      refine Lands.via (t_ChkRS ..) ?_
      rw [Y.storeF_eq, hst, Y.ob_some]
      refine Lands.via (t_ChkB ..) ?_
      rw [gx, nCells, show Y.nthL (ruleC (v, r)) 0 = some v from rfl, nElim, hv0, nAsSl, ltF_t (show (8 : Int) < Int.ofNat r.tests.length by show (8 : Int) < (r.tests.length : Int); omega), nCondT]
      exact Lands.at (fa2 rfl rfl)
    · have h8f : Y.ltF 8 (Int.ofNat r.tests.length) = false := ltF_f (by show ¬ (8 : Int) < (r.tests.length : Int); omega)
      obtain ⟨ta, tc, M2, hve, h2, q1, q2⟩ := ChkT_run (k := k) (xb := M.size) (rb := rb) (rn := vr.length) (rc := rc) (i := i) (rp := rp) hO (by omega) (by omega) h0 hvt h1
      cases hm : r.tests.all mayT with
      | true =>
        have e : checkGo (rs.drop i) i = checkGo (rs.drop (i + 1)) (i + 1) := by rw [hd, checkGo, if_neg h8, if_pos hm]
        obtain ⟨M3, h3, w1, w2⟩ := ChkR_loop (rc := rc) (rp := rp) hO hk hlen hrs h0 hrb hv d (i + 1) (by omega) jj M2 (by omega) h2
        rw [e]
        refine ⟨M3, h3, fun ha x => Lands.next (Lands.turn ?_) (w1 ha), fun a e' ha x => Lands.next (Lands.turn ?_) (w2 a e' ha)⟩
        · have hve' := hve
          refine Lands.via (markS_eq [5, 8] Tryd.prog kp 1 _ (Y.lpOf Tryd.prog kp 1 (callN Tryd.prog kp 1 o k) 36) (fun _ _ _ _ _ _ _ => rfl) 36 k (loopN Tryd.f12 0) (by kernel_rfl) _ M _) ?_
          refine Lands.via (t_ChkA ..) ?_
          rw [lt_len hlt, nCondT]
          refine Lands.via (loop_reg _ _ _ (by kernel_rfl) _ _ _ _) ?_
          refine Lands.via (r12_5_eq ..) ?_
          refine Lands.via (opsF_cut 5 ..) ?_
          refine Lands.via (t_ChkR ..) ?_
          rw [nOnNat, blt_t hlt, nCondT, gb, nCells, chunk_ble ruleC_len hlt, nCondT, chunk_sub ruleC_len hp]
          refine Lands.via (t_ChkRS ..) ?_
          rw [Y.storeF_eq, hst, Y.ob_some]
          refine Lands.via (t_ChkB ..) ?_
          rw [gx, nCells, show Y.nthL (ruleC (v, r)) 0 = some v from rfl, nElim, hve, nAsSl, h8f, nCondF]
          refine Lands.via (loop_reg _ _ _ (by kernel_rfl) _ _ _ _) ?_
          refine Lands.via (r12_8_eq ..) ?_
          refine Lands.via (t_ChkS ..) ?_
          rw [gx, nCells, show Y.nthL (ruleC (v, r)) 0 = some v from rfl, nElim, hve', nAsSl]
          refine Lands.via (t_ChkC ..) ?_
          refine Lands.via (mixL_loop _ _ (by kernel_rfl) _ _ _ _) ?_
          rw [Y.lpOf_eq, lc12]
          simp only [Int.ofNat_eq_natCast]
          refine Lands.loop (q1 hm _) fun x' => ?_
          refine Lands.via (t_ChkD ..) ?_
          rw [wrap_succ (by omega)]
          exact Lands.here _
        · have hve' := hve
          refine Lands.via (markS_eq [5, 8] Tryd.prog kp 1 _ (Y.lpOf Tryd.prog kp 1 (callN Tryd.prog kp 1 o k) 36) (fun _ _ _ _ _ _ _ => rfl) 36 k (loopN Tryd.f12 0) (by kernel_rfl) _ M _) ?_
          refine Lands.via (t_ChkA ..) ?_
          rw [lt_len hlt, nCondT]
          refine Lands.via (loop_reg _ _ _ (by kernel_rfl) _ _ _ _) ?_
          refine Lands.via (r12_5_eq ..) ?_
          refine Lands.via (opsF_cut 5 ..) ?_
          refine Lands.via (t_ChkR ..) ?_
          rw [nOnNat, blt_t hlt, nCondT, gb, nCells, chunk_ble ruleC_len hlt, nCondT, chunk_sub ruleC_len hp]
          refine Lands.via (t_ChkRS ..) ?_
          rw [Y.storeF_eq, hst, Y.ob_some]
          refine Lands.via (t_ChkB ..) ?_
          rw [gx, nCells, show Y.nthL (ruleC (v, r)) 0 = some v from rfl, nElim, hve, nAsSl, h8f, nCondF]
          refine Lands.via (loop_reg _ _ _ (by kernel_rfl) _ _ _ _) ?_
          refine Lands.via (r12_8_eq ..) ?_
          refine Lands.via (t_ChkS ..) ?_
          rw [gx, nCells, show Y.nthL (ruleC (v, r)) 0 = some v from rfl, nElim, hve', nAsSl]
          refine Lands.via (t_ChkC ..) ?_
          refine Lands.via (mixL_loop _ _ (by kernel_rfl) _ _ _ _) ?_
          rw [Y.lpOf_eq, lc12]
          simp only [Int.ofNat_eq_natCast]
          refine Lands.loop (q1 hm _) fun x' => ?_
          refine Lands.via (t_ChkD ..) ?_
          rw [wrap_succ (by omega)]
          exact Lands.here _
      | false =>
        have e : checkGo (rs.drop i) i = some (i, 1) := by rw [hd, checkGo, if_neg h8, if_neg (by rw [hm]; decide)]
        refine ⟨M2, h2, fun ha => (by rw [e] at ha; cases ha), fun a e' ha x => Lands.stop (Lands.turn ?_) (by simp)⟩
        obtain ⟨rfl, rfl⟩ : i = a ∧ 1 = e' := by rw [e] at ha; cases ha; exact ⟨rfl, rfl⟩
        have hve' := hve
        refine Lands.via (markS_eq [5, 8] Tryd.prog kp 1 _ (Y.lpOf Tryd.prog kp 1 (callN Tryd.prog kp 1 o k) 36) (fun _ _ _ _ _ _ _ => rfl) 36 k (loopN Tryd.f12 0) (by kernel_rfl) _ M _) ?_
        refine Lands.via (t_ChkA ..) ?_
        rw [lt_len hlt, nCondT]
        refine Lands.via (loop_reg _ _ _ (by kernel_rfl) _ _ _ _) ?_
        refine Lands.via (r12_5_eq ..) ?_
        refine Lands.via (opsF_cut 5 ..) ?_
        refine Lands.via (t_ChkR ..) ?_
        rw [nOnNat, blt_t hlt, nCondT, gb, nCells, chunk_ble ruleC_len hlt, nCondT, chunk_sub ruleC_len hp]
        refine Lands.via (t_ChkRS ..) ?_
        rw [Y.storeF_eq, hst, Y.ob_some]
        refine Lands.via (t_ChkB ..) ?_
        rw [gx, nCells, show Y.nthL (ruleC (v, r)) 0 = some v from rfl, nElim, hve, nAsSl, h8f, nCondF]
        refine Lands.via (loop_reg _ _ _ (by kernel_rfl) _ _ _ _) ?_
        refine Lands.via (r12_8_eq ..) ?_
        refine Lands.via (t_ChkS ..) ?_
        rw [gx, nCells, show Y.nthL (ruleC (v, r)) 0 = some v from rfl, nElim, hve', nAsSl]
        refine Lands.via (t_ChkC ..) ?_
        refine Lands.via (mixL_loop _ _ (by kernel_rfl) _ _ _ _) ?_
        rw [Y.lpOf_eq, lc12]
        simp only [Int.ofNat_eq_natCast]
        refine Lands.loop (q2 hm _) fun x' => ?_
        refine Lands.via (t_ChkE ..) ?_
        exact Lands.here _
theorem Check_do {rs : List RuleT} {v : Value} (hO : Orq o) (hk : 300 ≤ k) (hv : rulesAt K v rs) (h : Hp M K []) (h0 : K 0 = some (.cells false gl)) :
    ∃ M', callN Tryd.prog kp 1 o k 12 [v] M = some (.tuple ⟨[.int .i64 ((checkS rs).1 : Int), .int .i64 (checkS rs).2]⟩, M') ∧ Hp M' K [] := by
  obtain ⟨k, rfl⟩ : ∃ k', k = k' + 1 := ⟨k - 1, by omega⟩
  obtain ⟨ra, rc, rfl, hv⟩ := hv
  by_cases h32 : 32 < rs.length
  · refine ⟨M, call_of 36 (hO.off 12 (by decide) _ _) at12 bd12 n12 ?_ ok12, h⟩
    refine Eq.trans (t_Chk_in ..) ?_
    rw [ltF_t (show (32 : Int) < Int.ofNat rs.length by show (32 : Int) < (rs.length : Int); omega), nCondT, checkS, if_pos h32]
    rfl
  · have hf : Y.ltF 32 (Int.ofNat rs.length) = false := ltF_f (by show ¬ (32 : Int) < (rs.length : Int); omega)
    obtain ⟨M', h', q1, q2⟩ : ∃ M', Hp M' K [] ∧ (checkGo rs 0 = none → ∀ x, Lands 36 [(11, .slice ra rs.length rc), (12, .int .i64 (rs.length : Int)), (13, .int .i64 (rs.length : Int))] (.exit 0) M' (loopD (codeD Tryd.prog kp 1 (callN Tryd.prog kp 1 o k) (drawD Tryd.prog kp 1 (callN Tryd.prog kp 1 o k) 36) 36 k (loopN Tryd.f12 0)) k (fullN 36 (up x [(11, .slice ra rs.length rc), (12, .int .i64 (rs.length : Int)), (13, .int .i64 (0 : Int))])) M)) ∧
        (∀ a e, checkGo rs 0 = some (a, e) → ∀ x, Lands 36 [(2, .int .i64 (a : Int)), (3, .int .i64 e)] .ret M' (loopD (codeD Tryd.prog kp 1 (callN Tryd.prog kp 1 o k) (drawD Tryd.prog kp 1 (callN Tryd.prog kp 1 o k) 36) 36 k (loopN Tryd.f12 0)) k (fullN 36 (up x [(11, .slice ra rs.length rc), (12, .int .i64 (rs.length : Int)), (13, .int .i64 (0 : Int))])) M)) := by
      by_cases e : rs = []
      · subst e
        obtain ⟨k, rfl⟩ : ∃ k', k = k' + 1 := ⟨k - 1, by omega⟩
        exact ⟨M, h, fun _ x => Lands.stop (Lands.turn (Lands.via (t_ChkA0 ..) (Lands.here _))) (by simp), fun a e ha => by cases ha⟩
      · obtain ⟨rb, rp, own, rest, vr, rfl, hrs, hrb, hvt⟩ := hv e
        have hl2 : rs.length = vr.length := by rw [← hrs, List.length_map]
        obtain ⟨M', h', q1, q2⟩ := ChkR_loop (k := k) (rc := rc) (rp := rp) hO (by omega) (by omega) hrs h0 hrb hvt vr.length 0 (by omega) k M (by omega) h
        rw [hl2]
        exact ⟨M', h', q1, q2⟩
    refine ⟨M', call_of 36 (hO.off 12 (by decide) _ _) at12 bd12 n12 ?_ ok12, h'⟩
    refine Eq.trans (t_Chk_in ..) ?_
    rw [hf, nCondF, checkS, if_neg h32]
    rw [Y.lpOf_eq, Y.loopC_body]
    simp only [Int.ofNat_eq_natCast]
    cases hc : checkGo rs 0 with
    | none =>
      refine onE_land (q1 hc _) fun x' => ?_
      exact t_Chk_out ..
    | some p =>
      obtain ⟨a, e⟩ := p
      refine onE_land (q2 a e hc _) fun x' => ?_
      exact t_Chk_ret ..
/-! ### the reference's -/
end
end
end Go.Proofs.YtadioopbehiakaaDoor
namespace Go.Proofs.YtadioopbehiakaaDoor
open Go Go.DI Go.DI.Kit Go.Proofs Go.Cmp
noncomputable section
variable {α : Type}
end
end Go.Proofs.YtadioopbehiakaaDoor
namespace Go.Proofs.YtadioopbehiakaaDoor
open Go Go.DI Go.DI.Kit Go.Proofs Go.Cmp
noncomputable section
section
variable {K : Keep} {mp n : Nat} {rows : List RowS} {M M' : Mem}
variable {o : Orc} {k : Nat}
end
end
end Go.Proofs.YtadioopbehiakaaDoor
namespace Go.Proofs.YtadioopbehiakaaDoor
open Go Go.DI Go.DI.Kit Go.Proofs Go.Cmp
noncomputable section
section
variable {K : Keep} {mp : Nat} {rows : List RowS} {M : Mem}
variable {o : Orc} {k : Nat}
variable {t : TestT} {lf tb n N : Nat}
end
end
end Go.Proofs.YtadioopbehiakaaDoor
namespace Go.Proofs.YtadioopbehiakaaDoor
open Go Go.DI Go.DI.Kit Go.Proofs Go.Cmp
noncomputable section
section
variable {K : Keep} {mp : Nat} {rows : List RowS} {M : Mem}
variable {o : Orc} {k : Nat}
variable {t : TestT} {lf tb n N : Nat}
end
end
end Go.Proofs.YtadioopbehiakaaDoor
namespace Go.Proofs.YtadioopbehiakaaDoor
open Go Go.DI Go.DI.Kit Go.Proofs Go.Cmp
noncomputable section
variable {α : Type}
end
end Go.Proofs.YtadioopbehiakaaDoor
namespace Go.Proofs.YtadioopbehiakaaDoor
open Go Go.DI Go.DI.Kit Go.Proofs Go.Cmp
noncomputable section
section
variable {α : Type}
end
section
variable {K : Keep} {mp N : Nat} {rows : List RowS} {M : Mem}
variable {o : Orc} {k : Nat}
end
end
end Go.Proofs.YtadioopbehiakaaDoor
namespace Go.Cmp
open Go Go.DI
section
variable {N : Nat}
end
/-! ### the labels' places, as cells -/
end Go.Cmp
namespace Go.Proofs.YtadioopbehiakaaDoor
open Go Go.DI Go.DI.Kit Go.Proofs Go.Cmp
noncomputable section
section
variable {α : Type}
end
section
variable {K : Keep} {mp rb N : Nat} {rows : List RowS} {M : Mem}
variable {o : Orc} {k : Nat}
end
end
end Go.Proofs.YtadioopbehiakaaDoor
namespace Go.Proofs.YtadioopbehiakaaDoor
open Go Go.DI Go.DI.Kit Go.Proofs Go.Cmp
noncomputable section
def OutAt (M : Mem) (K : Keep) (l : List Ins) (oa : Option Addr) : Prop := (l = [] ∧ oa = none) ∨ ∃ c, oa = some ⟨c, 0, some 5⟩ ∧ c < M.size ∧ K c = none ∧ M.get c = .cells true (codeC l)
theorem OutAt.ext {M M' : Mem} {K : Keep} {l : List Ins} {oa : Option Addr} (h : OutAt M K l oa) (hx : Ext M M') : OutAt M' K l oa := by
  rcases h with h | ⟨c, h1, h2, h3, h4⟩
  · exact .inl h
  · exact .inr ⟨c, h1, Nat.lt_of_lt_of_le h2 hx.size, h3, (hx.get c h2).trans h4⟩
def stepI (rows : List RowS) (n : Nat) (r : RowS) : Ins := match (if 0 < r.to then some (atS rows r.to) else none) with | some q => goS q n r.i | none => r.i
section
variable {K : Keep} {mp rb N : Nat} {rows : List RowS} {M : Mem}
variable {o : Orc} {k : Nat}
def outL (rows : List RowS) (i : Nat) : List Ins := outGo (fun j => some (atS rows j)) (rows.take i) 0
theorem tableS_len {rs : List RuleT} (hT : TableOk rs) : 0 < (tableS rs).length ∧ (tableS rs).length ≤ 50000 := by
  have hlen := rulesS_len rs 0 hT.tests
  have h32 := hT.len
  simp only [tableS, List.length_append, List.length_cons, List.length_nil, afreshS, lowS]
  omega
end
end
end Go.Proofs.YtadioopbehiakaaDoor
namespace Go.Proofs.YtadioopbehiakaaDoor
open Go Go.DI Go.DI.Kit Go.Proofs Go.Cmp
noncomputable section
set_option maxHeartbeats 4000000
variable {α : Type} (x : Nat → Value) (cf : Y.CF α) (L : Y.LK α) (k : Nat) (m : Mem)
def c8 : Code := markS [3, 6, 7] (bodyOf Tryd.f8)
def r8_3 : List Oper := regOps 3 (bodyOf Tryd.f8)
def r8_6 : List Oper := regOps 6 (bodyOf Tryd.f8)
def r8_7 : List Oper := regOps 7 (bodyOf Tryd.f8)
def c9 : Code := markS [3, 6, 7] (bodyOf Tryd.f9)
def r9_3 : List Oper := regOps 3 (bodyOf Tryd.f9)
def r9_6 : List Oper := regOps 6 (bodyOf Tryd.f9)
def r9_7 : List Oper := regOps 7 (bodyOf Tryd.f9)
def c6 : Code := markS [4] (loopN Tryd.f6 0)
def r6_4 : List Oper := regOps 4 (bodyOf Tryd.f6)
theorem t_Siz (ra : Option Addr) (rn rc : Nat) (q : Value → Mem → Option α) : Y.codeF (bodyOf Tryd.f10) Tryd.prog kp 1 (Y.cfT Tryd.prog cf) L 17 k (fullN 17 (argX [.slice ra rn rc])) m (Y.retF Tryd.prog Tryd.f10 q) =
  (cf 12 [(.slice ra rn rc)] m (fun v_9 m'_10=>(Y.asTup v_9 (fun cs_11=>(Y.unc (Array.toList cs_11) (fun a l=>(Y.asInt a (fun k'_15 n_16=>(cond (Y.kEq .i64 k'_15) (Y.unc l (fun a_7 l_8=>(Y.asInt a_7 (fun k'_20 n_21=>(cond (Y.kEq .i64 k'_20) (Y.unc l_8 (fun a_11 l_12=>none) (cond (cond (Y.eqF n_21 (0:Int)) false true) (q (.tuple ⟨[(.int .i64 (0:Int)),(.int .i64 n_21)]⟩) m'_10) (cf 13 [(.slice ra rn rc)] m'_10 (fun v_22 m'_23=>(Y.asSl v_22 (fun a_24 n_25 c_26=>(q (.tuple ⟨[(.int .i64 (Int.ofNat n_25)),(.int .i64 (0:Int))]⟩) m'_23)) none))))) none)) none)) none) none)) none)) none))))):=by kernel_rfl
theorem t_Cod_in (ra : Option Addr) (rn rc : Nat) (q : Value → Mem → Option α) : Y.codeF c8 Tryd.prog kp 1 (Y.cfT Tryd.prog cf) L 24 k (fullN 24 (argX [.slice ra rn rc])) m (Y.retF Tryd.prog Tryd.f8 q) =
  (cf 12 [(.slice ra rn rc)] (Mem.push m (.cells true [(.slice none 0 0),(.slice none 0 0)])) (fun v_9 m'_10=>(Y.asTup v_9 (fun cs_11=>(Y.unc (Array.toList cs_11) (fun a l=>(Y.asInt a (fun k'_15 n_16=>(cond (Y.kEq .i64 k'_15) (Y.unc l (fun a_7 l_8=>(Y.asInt a_7 (fun k'_20 n_21=>(cond (Y.kEq .i64 k'_20) (Y.unc l_8 (fun a_11 l_12=>none) (cond (cond (Y.eqF n_21 (0:Int)) false true) (L (Y.codeF (Y.loopC c8 0) Tryd.prog kp 1 (Y.cfT Tryd.prog cf) L 24 k) (Y.loopC c8 0) k (fullN 24 (up (up Go.DI.x0 [(0,(.slice ra rn rc)),(8,(.slice ra rn rc)),(4,(.int .i64 n_16)),(12,(.int .i64 n_21)),(10,(.int .i64 n_16)),(9,(.tuple ⟨[(.int .i64 n_16),(.int .i64 n_21)]⟩)),(13,(.bool true)),(3,(.int .i64 (0:Int))),(11,(.int .i64 n_21)),(7,(.tuple ⟨[(.int .i64 n_16),(.int .i64 n_21)]⟩))]) [(2,(.pointer (some (Addr.mk (Mem.size m) 0 none)))),(5,(.int .i64 n_21)),(6,(.tuple ⟨[]⟩))])) m'_10 (Y.kont Tryd.prog kp 1 (Y.cfT Tryd.prog cf) L 24 k c8 0 (Y.retF Tryd.prog Tryd.f8 q))) (cf 13 [(.slice ra rn rc)] m'_10 (fun v_22 m'_23=>(Y.asSl v_22 (fun a_24 n_25 c_26=>(cond (Y.ltF (512 : Int) (Int.ofNat n_25)) (L (Y.codeF (Y.loopC c8 1) Tryd.prog kp 1 (Y.cfT Tryd.prog cf) L 24 k) (Y.loopC c8 1) k (fullN 24 (up (up Go.DI.x0 [(0,(.slice ra rn rc)),(16,(.slice ra rn rc)),(8,(.slice ra rn rc)),(4,(.int .i64 n_16)),(20,(.bool true)),(12,(.int .i64 n_21)),(18,(.slice a_24 n_25 c_26)),(10,(.int .i64 n_16)),(17,(.slice a_24 n_25 c_26)),(9,(.tuple ⟨[(.int .i64 n_16),(.int .i64 n_21)]⟩)),(13,(.bool false)),(3,(.int .i64 (0:Int))),(19,(.int .i64 (Int.ofNat n_25))),(11,(.int .i64 n_21)),(7,(.tuple ⟨[(.int .i64 n_16),(.int .i64 n_21)]⟩))]) [(2,(.pointer (some (Addr.mk (Mem.size m) 0 none)))),(5,(.int .i64 n_21)),(6,(.slice a_24 n_25 c_26))])) m'_23 (Y.kont Tryd.prog kp 1 (Y.cfT Tryd.prog cf) L 24 k c8 1 (Y.retF Tryd.prog Tryd.f8 q))) (L (Y.codeF (Y.loopC c8 2) Tryd.prog kp 1 (Y.cfT Tryd.prog cf) L 24 k) (Y.loopC c8 2) k (fullN 24 (up (up Go.DI.x0 [(0,(.slice ra rn rc)),(16,(.slice ra rn rc)),(8,(.slice ra rn rc)),(4,(.int .i64 n_16)),(20,(.bool false)),(12,(.int .i64 n_21)),(18,(.slice a_24 n_25 c_26)),(10,(.int .i64 n_16)),(17,(.slice a_24 n_25 c_26)),(9,(.tuple ⟨[(.int .i64 n_16),(.int .i64 n_21)]⟩)),(13,(.bool false)),(3,(.int .i64 (0:Int))),(19,(.int .i64 (Int.ofNat n_25))),(11,(.int .i64 n_21)),(7,(.tuple ⟨[(.int .i64 n_16),(.int .i64 n_21)]⟩))]) [(2,(.pointer (some (Addr.mk (Mem.size m) 0 none)))),(5,(.int .i64 n_21)),(6,(.slice a_24 n_25 c_26))])) m'_23 (Y.kont Tryd.prog kp 1 (Y.cfT Tryd.prog cf) L 24 k c8 2 (Y.retF Tryd.prog Tryd.f8 q))))) none))))) none)) none)) none) none)) none)) none))))):=by kernel_rfl
theorem t_CodR0 (tb : Nat) (e : Int) (q : Value → Mem → Option α) : Y.kont Tryd.prog kp 1 (Y.cfT Tryd.prog cf) L 24 k c8 0 (Y.retF Tryd.prog Tryd.f8 q) .normal (fullN 24 (up x [(2,.pointer (some ⟨tb,0,none⟩)),(3,.int .i64 e)])) m =
  (Y.cellsOf (Mem.get m tb) (fun _ c_10=>(cond (Nat.ble 2 (Y.lenLF c_10)) (q (.tuple ⟨[(.agg ⟨(Y.subL c_10 0 2)⟩),(.int .i64 e)]⟩) m) none))):=by kernel_rfl
theorem t_CodR1 (tb : Nat) (e : Int) (q : Value → Mem → Option α) : Y.kont Tryd.prog kp 1 (Y.cfT Tryd.prog cf) L 24 k c8 1 (Y.retF Tryd.prog Tryd.f8 q) .normal (fullN 24 (up x [(2,.pointer (some ⟨tb,0,none⟩)),(3,.int .i64 e)])) m =
  (Y.cellsOf (Mem.get m tb) (fun _ c_10=>(cond (Nat.ble 2 (Y.lenLF c_10)) (q (.tuple ⟨[(.agg ⟨(Y.subL c_10 0 2)⟩),(.int .i64 e)]⟩) m) none))):=by kernel_rfl
theorem t_CodR2 (tb : Nat) (e : Int) (q : Value → Mem → Option α) : Y.kont Tryd.prog kp 1 (Y.cfT Tryd.prog cf) L 24 k c8 2 (Y.retF Tryd.prog Tryd.f8 q) .normal (fullN 24 (up x [(2,.pointer (some ⟨tb,0,none⟩)),(3,.int .i64 e)])) m =
  (Y.cellsOf (Mem.get m tb) (fun _ c_10=>(cond (Nat.ble 2 (Y.lenLF c_10)) (q (.tuple ⟨[(.agg ⟨(Y.subL c_10 0 2)⟩),(.int .i64 e)]⟩) m) none))):=by kernel_rfl
theorem t_Lon_in (ra : Option Addr) (rn rc : Nat) (q : Value → Mem → Option α) : Y.codeF (bodyOf Tryd.f6) Tryd.prog kp 1 (Y.cfT Tryd.prog cf) L 22 k (fullN 22 (argX [.slice ra rn rc])) m (Y.retF Tryd.prog Tryd.f6 q) =
  (L (fun t m q=>Y.codeF (Y.loopC (bodyOf Tryd.f6) 0) Tryd.prog kp 1 (Y.cfT Tryd.prog cf) L 22 k t m q) (Y.loopC (bodyOf Tryd.f6) 0) k (fullN 22 (up (up Go.DI.x0 [(0,(.slice ra rn rc)),(2,(.bool false)),(6,(.slice ra rn rc)),(7,(.int .i64 (Int.ofNat rn)))]) [(3,(.int .i64 (Int.ofNat rn))),(8,(.slice ra rn rc)),(9,(.int .i64 (Int.ofNat rn))),(10,(.int .i64 (0:Int)))])) m (Y.kont Tryd.prog kp 1 (Y.cfT Tryd.prog cf) L 22 k (bodyOf Tryd.f6) 0 (Y.retF Tryd.prog Tryd.f6 q))):=by kernel_rfl
theorem t_LonA (rb : Nat) (rp : Option Nat) (rn rc : Nat) (n i : Int) (q : Y.ExK α) : Y.codeF c6 Tryd.prog kp 1 (Y.cfT Tryd.prog cf) L 22 k (fullN 22 (up x [(3,.int .i64 n),(8,.slice (some ⟨rb,0,rp⟩) rn rc),(9,.int .i64 rn),(10,.int .i64 i)])) m q =
  (cond (Y.ltF i (Int.ofNat rn)) (L (Y.codeF (Y.loopC c6 0) Tryd.prog kp 1 (Y.cfT Tryd.prog cf) L 22 k) (Y.loopC c6 0) k (fullN 22 (up (up x [(11,(.bool true))]) [(3,(.int .i64 n)),(8,(.slice (some (Addr.mk rb 0 rp)) rn rc)),(9,(.int .i64 (Int.ofNat rn))),(10,(.int .i64 i))])) m (Y.kont Tryd.prog kp 1 (Y.cfT Tryd.prog cf) L 22 k c6 0 q)) (q (Ex.exit 0) (fullN 22 (up (up x [(11,(.bool false))]) [(3,(.int .i64 n)),(8,(.slice (some (Addr.mk rb 0 rp)) rn rc)),(9,(.int .i64 (Int.ofNat rn))),(10,(.int .i64 i))])) m)):=by kernel_rfl
theorem t_LonR (rb : Nat) (rp : Option Nat) (rn rc : Nat) (n i : Int) (q : Tmps → Mem → Option α) : Y.opsF (List.take 3 r6_4) Tryd.prog kp 1 (Y.cfT Tryd.prog cf) 22 r6_4 (fullN 22 (up x [(3,.int .i64 n),(8,.slice (some ⟨rb,0,rp⟩) rn rc),(9,.int .i64 rn),(10,.int .i64 i)])) m q =
  (Y.onNat i (fun i_11=>(cond (Nat.blt i_11 rn) (Y.cellsOf (Mem.get m rb) (fun _ c_13=>(cond (Nat.ble (Nat.add (Nat.add 0 (Nat.mul i_11 2)) 2) (Y.lenLF c_13)) (q (fullN 22 (up (up x [(12,(.pointer (some (Addr.mk rb (Nat.add 0 (Nat.mul i_11 2)) none))))]) [(3,(.int .i64 n)),(5,(.pointer (some (Addr.mk (Mem.size m) 0 none)))),(8,(.slice (some (Addr.mk rb 0 rp)) rn rc)),(9,(.int .i64 (Int.ofNat rn))),(10,(.int .i64 i)),(13,(.agg ⟨(Y.subL c_13 (Nat.add 0 (Nat.mul i_11 2)) 2)⟩))])) (Mem.push m (.cells true [(.slice none 0 0),(.int Go.IntKind.u32 (0:Int))]))) none))) none))):=by kernel_rfl
theorem t_LonB (xb : Nat) (rb : Nat) (rp : Option Nat) (rn rc : Nat) (n i : Int) (q : Y.ExK α) : Y.kont Tryd.prog kp 1 (Y.cfT Tryd.prog cf) L 22 k c6 0 q .normal (fullN 22 (up x [(3,.int .i64 n),(5,.pointer (some ⟨xb,0,none⟩)),(8,.slice (some ⟨rb,0,rp⟩) rn rc),(9,.int .i64 rn),(10,.int .i64 i)])) m =
  (Y.cellsOf (Mem.get m xb) (fun _ c_15=>(Option.elim (Y.nthL c_15 0) none (fun o16=>(Y.asSl o16 (fun a_17 n_18 c_19=>(q .normal (fullN 22 (up (up x [(16,(.slice a_17 n_18 c_19)),(18,(.int .i64 (IntKind.wrap .i64 (Int.add n (Int.ofNat n_18))))),(14,(.int .i64 n)),(17,(.int .i64 (Int.ofNat n_18))),(5,(.pointer (some (Addr.mk xb 0 none)))),(19,(.int .i64 (IntKind.wrap .i64 (Int.add i (1:Int))))),(15,(.pointer (some (Addr.mk xb 0 none))))]) [(3,(.int .i64 (IntKind.wrap .i64 (Int.add n (Int.ofNat n_18))))),(8,(.slice (some (Addr.mk rb 0 rp)) rn rc)),(9,(.int .i64 (Int.ofNat rn))),(10,(.int .i64 (IntKind.wrap .i64 (Int.add i (1:Int)))))])) m)) none))))):=by kernel_rfl
theorem t_Lon_out (n : Int) (w8 w9 w10 : Value) (q : Value → Mem → Option α) : Y.kont Tryd.prog kp 1 (Y.cfT Tryd.prog cf) L 22 k (bodyOf Tryd.f6) 0 (Y.retF Tryd.prog Tryd.f6 q) (.exit 0) (fullN 22 (up x [(3,.int .i64 n),(8,w8),(9,w9),(10,w10)])) m =
  (cond (Y.ltF (5000 : Int) n) (q (.bool true) m) (q (.bool false) m)):=by kernel_rfl
end
end Go.Proofs.YtadioopbehiakaaDoor
namespace Go.Cmp
structure TestRng (t : TestT) : Prop where
  mask : 0 ≤ t.mask ∧ t.mask < 18446744073709551616
  lo : 0 ≤ t.lo ∧ t.lo < 18446744073709551616
  hi : 0 ≤ t.hi ∧ t.hi < 18446744073709551616
def TableRng (rs : List RuleT) : Prop := ∀ r ∈ rs, ∀ t ∈ r.tests, TestRng t
def sizeS (rs : List RuleT) : Nat := if (checkS rs).2 = 0 then (madeS (tableS rs)).length else 0
def errS (rs : List RuleT) : Int := if (checkS rs).2 = 0 then (if 512 < (madeS (tableS rs)).length then 3 else 0) else (checkS rs).2
def outS (rs : List RuleT) : List Ins := if errS rs = 0 then madeS (tableS rs) else []
def longN (rs : List RuleT) : Nat := rs.length + (rs.map fun r => r.tests.length).sum
end Go.Cmp
namespace Go.Proofs.YtadioopbehiakaaDoor
open Go Go.DI Go.DI.Kit Go.Proofs Go.Cmp
noncomputable section
theorem testOk_of {t : TestT} (h : mayT t = true) (hr : TestRng t) : TestOk t := by
  unfold mayT at h
  split at h
  · cases h
  · split at h
    · rename_i h2
      have hb : isBytes t = true → False := by
        intro hb
        simp only [isBytes, Bool.or_eq_true, decide_eq_true_eq] at hb
        omega
      exact ⟨by omega, fun e => (hb e).elim, fun e => (hb e).elim, hr.mask, hr.lo, hr.hi⟩
    · split at h
      · cases h
      · split at h
        · cases h
        · rename_i h3 h4
          simp only [decide_eq_true_eq] at h
          exact ⟨by omega, fun _ => ⟨h.1, h.2.1⟩, fun _ => by unfold isz; omega, hr.mask, hr.lo, hr.hi⟩
theorem checkGo_none : ∀ (rs : List RuleT) (i : Nat), checkGo rs i = none → ∀ r ∈ rs, r.tests.length ≤ 8 ∧ r.tests.all mayT = true
  | [], i, _, r, hr => by simp at hr
  | r :: rs, i, h, r', hr => by
    simp only [checkGo] at h
    split at h
    · cases h
    · rename_i h8
      split at h
      · rename_i ha
        rcases List.mem_cons.1 hr with rfl | hr
        · exact ⟨by omega, ha⟩
        · exact checkGo_none rs (i + 1) h r' hr
      · cases h
theorem checkGo_err : ∀ (rs : List RuleT) (i a : Nat) (e : Int), checkGo rs i = some (a, e) → e = 1 ∨ e = 3
  | [], i, a, e, h => by cases h
  | r :: rs, i, a, e, h => by
    simp only [checkGo] at h
    split at h
    · right; cases h; rfl
    · split at h
      · exact checkGo_err rs (i + 1) a e h
      · left; cases h; rfl
theorem check_ok {rs : List RuleT} (h : (checkS rs).2 = 0) : rs.length ≤ 32 ∧ checkGo rs 0 = none := by
  unfold checkS at h
  split at h
  · cases h
  · refine ⟨by omega, ?_⟩
    cases hc : checkGo rs 0 with
    | none => rfl
    | some p =>
      obtain ⟨a, e⟩ := p
      rw [hc] at h
      have := checkGo_err rs 0 a e hc
      have h : e = 0 := h
      omega
theorem tableOk_of {rs : List RuleT} (h : (checkS rs).2 = 0) (hr : TableRng rs) : TableOk rs := by
  obtain ⟨h1, h2⟩ := check_ok h
  have h3 := checkGo_none rs 0 h2
  exact ⟨h1, fun r hr' => (h3 r hr').1, fun r hr' t ht => testOk_of (List.all_eq_true.1 (h3 r hr').2 t ht) (hr r hr' t ht)⟩
def CodeAt (M : Mem) (K : Keep) (l : List Ins) (v : Value) : Prop := ∃ a, v = .slice a l.length l.length ∧ (l ≠ [] → ∃ c, a = some ⟨c, 0, some 5⟩ ∧ c < M.size ∧ K c = none ∧ M.get c = .cells true (codeC l))
theorem OutAt.code {M : Mem} {K : Keep} {l : List Ins} {oa : Option Addr} (h : OutAt M K l oa) : CodeAt M K l (.slice oa l.length l.length) := by
  refine ⟨oa, rfl, fun h0 => ?_⟩
  rcases h with ⟨e, _⟩ | h
  · exact absurd e h0
  · exact h
theorem CodeAt.none (M : Mem) (K : Keep) : CodeAt M K [] (.slice none 0 0) := ⟨_, rfl, fun h => absurd rfl h⟩
theorem CodeAt.weak {M : Mem} {K K' : Keep} {l : List Ins} {v : Value} (h : CodeAt M K' l v) (hw : ∀ j x, K j = some x → K' j = some x) : CodeAt M K l v := by
  obtain ⟨a, h1, h2⟩ := h
  refine ⟨a, h1, fun h0 => ?_⟩
  obtain ⟨c, q1, q2, q3, q4⟩ := h2 h0
  refine ⟨c, q1, q2, ?_, q4⟩
  cases hk : K c with
  | none => rfl
  | some y => rw [hw _ _ hk] at q3; cases q3
theorem code_of {M : Mem} {K : Keep} {mp : Nat} {l : List Ins} {v : Value} (h : Hp M K [(mp, mkO l)]) (hv : M.get mp = .cells true [v]) : CodeAt M K l v := by
  obtain ⟨ht, hK, F, h1, h2, h3⟩ := h
  cases h1 with
  | cons hA hL =>
    rename_i b F
    have hc := hA.cells
    rw [hv] at hc
    have hc : v = slV b 5 l.length := by simpa [mkO] using hc
    cases b with
    | none =>
      have h0 : l.length = 0 := hA.buf.1
      exact ⟨none, by rw [hc, h0]; rfl, fun hn => absurd (List.eq_nil_of_length_eq_zero h0) hn⟩
    | some c =>
      exact ⟨some ⟨c, 0, some 5⟩, hc, fun _ => ⟨c, rfl, (h3 c (by simp)).2, (h3 c (by simp)).1, hA.buf⟩⟩
theorem at8 : Tryd.prog.funcs[8]? = some Tryd.f8 := by kernel_rfl
theorem bd8 : Tryd.f8.body = some (bodyOf Tryd.f8) := by kernel_rfl
theorem nt8 : Tryd.f8.ntmps = 24 := by kernel_rfl
theorem n8 {a : Value} : max [a].length Tryd.f8.ntmps = 24 := by rw [nt8]; rfl
theorem at10 : Tryd.prog.funcs[10]? = some Tryd.f10 := by kernel_rfl
theorem bd10 : Tryd.f10.body = some (bodyOf Tryd.f10) := by kernel_rfl
theorem nt10 : Tryd.f10.ntmps = 17 := by kernel_rfl
theorem n10 {a : Value} : max [a].length Tryd.f10.ntmps = 17 := by rw [nt10]; rfl
theorem at6 : Tryd.prog.funcs[6]? = some Tryd.f6 := by kernel_rfl
theorem bd6 : Tryd.f6.body = some (bodyOf Tryd.f6) := by kernel_rfl
theorem nt6 : Tryd.f6.ntmps = 22 := by kernel_rfl
theorem n6 {a : Value} : max [a].length Tryd.f6.ntmps = 22 := by rw [nt6]; rfl
theorem ok10 {a b : Int} : okR Tryd.prog 10 (.tuple ⟨[.int .i64 a, .int .i64 b]⟩) = true := by kernel_rfl
theorem ok6 {b : Bool} : okR Tryd.prog 6 (.bool b) = true := by kernel_rfl
theorem ok8 {a b : Option Addr} {n n' c c' : Nat} {e : Int} : okR Tryd.prog 8 (.tuple ⟨[.agg ⟨[.slice a n c, .slice b n' c']⟩, .int .i64 e]⟩) = true := by kernel_rfl
theorem sz30 : szOf Tryd.prog 30 = some 2 := by kernel_rfl
section
variable {α : Type} (x : Nat → Value) (cf : Y.CF α) (L : Y.LK α) (k : Nat) (m : Mem)
theorem r8_3_eq (t : Tmps) (q : Y.ExK α) : Y.codeF (Y.loopC c8 0) Tryd.prog kp 1 (Y.cfT Tryd.prog cf) L 24 k t m q = Y.opsF r8_3 Tryd.prog kp 1 (Y.cfT Tryd.prog cf) 24 r8_3 t m fun t m => q .normal t m := by kernel_rfl
theorem r8_6_eq (t : Tmps) (q : Y.ExK α) : Y.codeF (Y.loopC c8 1) Tryd.prog kp 1 (Y.cfT Tryd.prog cf) L 24 k t m q = Y.opsF r8_6 Tryd.prog kp 1 (Y.cfT Tryd.prog cf) 24 r8_6 t m fun t m => q .normal t m := by kernel_rfl
theorem r8_7_eq (t : Tmps) (q : Y.ExK α) : Y.codeF (Y.loopC c8 2) Tryd.prog kp 1 (Y.cfT Tryd.prog cf) L 24 k t m q = Y.opsF r8_7 Tryd.prog kp 1 (Y.cfT Tryd.prog cf) 24 r8_7 t m fun t m => q .normal t m := by kernel_rfl
theorem t_Cod3 (b : Nat) (e : Int) (w6 : Value) (q : Tmps → Mem → Option α) : Y.opsF r8_3 Tryd.prog kp 1 (Y.cfT Tryd.prog cf) 24 r8_3 (fullN 24 (up x [(2, .pointer (some ⟨b, 0, none⟩)), (5, .int .i64 e), (6, w6)])) m q =
  Y.storeF Tryd.prog m 30 (.agg ⟨[.slice none 0 0, .slice none 0 0]⟩) (.pointer (some ⟨b, 0, none⟩)) fun m' => q (fullN 24 (up (up x [(5, .int .i64 e), (6, w6), (14, .agg ⟨[.slice none 0 0, .slice none 0 0]⟩), (15, .int .i64 e)]) [(2, .pointer (some ⟨b, 0, none⟩)), (3, .int .i64 e)])) m' := by kernel_rfl
theorem t_Cod6 (b : Nat) (e : Int) (w6 : Value) (q : Tmps → Mem → Option α) : Y.opsF r8_6 Tryd.prog kp 1 (Y.cfT Tryd.prog cf) 24 r8_6 (fullN 24 (up x [(2, .pointer (some ⟨b, 0, none⟩)), (5, .int .i64 e), (6, w6)])) m q =
  Y.storeF Tryd.prog m 30 (.agg ⟨[.slice none 0 0, .slice none 0 0]⟩) (.pointer (some ⟨b, 0, none⟩)) fun m' => q (fullN 24 (up (up x [(5, .int .i64 e), (6, w6), (21, .agg ⟨[.slice none 0 0, .slice none 0 0]⟩)]) [(2, .pointer (some ⟨b, 0, none⟩)), (3, .int .i64 (3 : Int))])) m' := by kernel_rfl
theorem t_Cod7 (b : Nat) (e : Int) (a : Option Addr) (n c : Nat) (q : Tmps → Mem → Option α) : Y.opsF r8_7 Tryd.prog kp 1 (Y.cfT Tryd.prog cf) 24 r8_7 (fullN 24 (up x [(2, .pointer (some ⟨b, 0, none⟩)), (5, .int .i64 e), (6, .slice a n c)])) m q =
  Y.storeF Tryd.prog m 30 (.agg ⟨[.slice none 0 0, .slice a n c]⟩) (.pointer (some ⟨b, 0, none⟩)) fun m' => q (fullN 24 (up (up x [(5, .int .i64 e), (6, .slice a n c), (22, .slice a n c), (23, .agg ⟨[.slice none 0 0, .slice a n c]⟩)]) [(2, .pointer (some ⟨b, 0, none⟩)), (3, .int .i64 (0 : Int))])) m' := by kernel_rfl
theorem r6_4_eq (t : Tmps) (q : Y.ExK α) : Y.codeF (Y.loopC c6 0) Tryd.prog kp 1 (Y.cfT Tryd.prog cf) L 22 k t m q = Y.opsF r6_4 Tryd.prog kp 1 (Y.cfT Tryd.prog cf) 22 r6_4 t m fun t m => q .normal t m := by kernel_rfl
theorem t_LonRS (b : Nat) (w3 w8 w9 w10 u : Value) (q : Tmps → Mem → Option α) : Y.opsF (List.drop 3 r6_4) Tryd.prog kp 1 (Y.cfT Tryd.prog cf) 22 r6_4 (fullN 22 (up x [(3, w3), (5, .pointer (some ⟨b, 0, none⟩)), (8, w8), (9, w9), (10, w10), (13, u)])) m q =
  Y.storeF Tryd.prog m 49 u (.pointer (some ⟨b, 0, none⟩)) fun m' => q (fullN 22 (up (up x [(13, u)]) [(3, w3), (5, .pointer (some ⟨b, 0, none⟩)), (8, w8), (9, w9), (10, w10)])) m' := by kernel_rfl
theorem t_LonA0 (w3 w8 : Value) (q : Y.ExK α) : Y.codeF (loopN Tryd.f6 0) Tryd.prog kp 1 (Y.cfT Tryd.prog cf) L 22 k (fullN 22 (up x [(3, w3), (8, w8), (9, .int .i64 (0 : Nat)), (10, .int .i64 (0 : Int))])) m q =
  q (.exit 0) (fullN 22 (up (up x [(11, .bool false)]) [(3, w3), (8, w8), (9, .int .i64 (0 : Nat)), (10, .int .i64 (0 : Int))])) m := by kernel_rfl
end
theorem sz49 : szOf Tryd.prog 49 = some 2 := by kernel_rfl
section
variable {K : Keep} {M : Mem} {o : Orc} {k : Nat}
theorem Size_do {rs : List RuleT} {v : Value} (hO : Orq o) (hk : 100000 + 200 ≤ k) (hr : TableRng rs) (hv : rulesAt K v rs) (h : Hp M K []) (h0 : K 0 = some (.cells false gl)) :
    ∃ M', callN Tryd.prog kp 1 o k 10 [v] M = some (.tuple ⟨[.int .i64 (sizeS rs : Int), .int .i64 (checkS rs).2]⟩, M') ∧ Hp M' K [] := by
  obtain ⟨k, rfl⟩ : ∃ k', k = k' + 1 := ⟨k - 1, by omega⟩
  obtain ⟨ra, rc, hve, _⟩ := id hv
  obtain ⟨M1, c1, h1⟩ := Check_do (k := k) hO (by omega) hv h h0
  by_cases he : (checkS rs).2 = 0
  · have hT := tableOk_of he hr
    obtain ⟨v', M2, mp, c2, g2, h2⟩ := made_do (k := k) hO (by omega) hT hv h1 h0
    obtain ⟨a, rfl, _⟩ := code_of h2 g2
    have h2 := h2.tail
    refine ⟨M2, call_of 17 (hO.off 10 (by decide) _ _) at10 bd10 n10 ?_ ok10, h2⟩
    subst hve
    refine Eq.trans (t_Siz ..) ?_
    refine step c1 ?_
    rw [nAsTup, nUncC, nAsInt, nKEq, nCondT, nUncC, nAsInt, nKEq, nCondT, nUncN, notB, eqF_t he, nCondT]
    refine step c2 ?_
    rw [nAsSl, sizeS, if_pos he, he]
    rfl
  · refine ⟨M1, call_of 17 (hO.off 10 (by decide) _ _) at10 bd10 n10 ?_ ok10, h1⟩
    subst hve
    refine Eq.trans (t_Siz ..) ?_
    refine step c1 ?_
    rw [nAsTup, nUncC, nAsInt, nKEq, nCondT, nUncC, nAsInt, nKEq, nCondT, nUncN, notB, eqF_f he, nCondF, sizeS, if_neg he]
    rfl
theorem Hp.unbox {b : Nat} {x y : Blk} {hs : List (Nat × Thing)} (h : Hp M (keep1 K b x) hs) (hk : K b = none) : Hp (M.set b y) K hs := by
  obtain ⟨ht, hK, F, h1, h2, h3⟩ := h
  have hb := (hK b x (keep1_same ..)).1
  refine ⟨top_set ht hb, fun j z hj => ?_, F, h1.mono fun j hj => Mem.get_set_ne _ ?_ _, h2, fun j hj => ?_⟩
  · have hne : j ≠ b := by rintro rfl; rw [hk] at hj; cases hj
    have := hK j z (by rw [keep1_ne hne]; exact hj)
    exact ⟨this.1, (Mem.get_set_ne _ hne _).trans this.2⟩
  · rintro rfl
    have := (h3 _ hj).1
    rw [keep1_same] at this; cases this
  · have := h3 j hj
    have hne : j ≠ b := by rintro rfl; rw [keep1_same] at this; cases this.1
    rw [keep1_ne hne] at this
    exact this
theorem agg2_store {b : Nat} {u v u' v' : Option Addr} {n c n' c' n2 c2 n3 c3 : Nat} (hg : M.get b = .cells true [.slice u n c, .slice v n' c']) :
    storeD Tryd.prog M 30 (.agg ⟨[.slice u' n2 c2, .slice v' n3 c3]⟩) (.pointer (some ⟨b, 0, none⟩)) = some (M.set b (.cells true [.slice u' n2 c2, .slice v' n3 c3])) := by
  rw [storeD_at (n := 2) sz30 rfl hg (by simp) rfl]
  rfl
theorem Code_do {rs : List RuleT} {v : Value} (hO : Orq o) (hk : 100000 + 200 ≤ k) (hr : TableRng rs) (hv : rulesAt K v rs) (h : Hp M K []) (h0 : K 0 = some (.cells false gl)) :
    ∃ v' M', callN Tryd.prog kp 1 o k 8 [v] M = some (.tuple ⟨[.agg ⟨[.slice none 0 0, v']⟩, .int .i64 (errS rs)]⟩, M') ∧ Hp M' K [] ∧ CodeAt M' K (outS rs) v' ∧ M.size ≤ M'.size := by
  obtain ⟨k, rfl⟩ : ∃ k', k = k' + 1 := ⟨k - 1, by omega⟩
  obtain ⟨ra, rc, hve, _⟩ := id hv
  have hKM := h.no (Nat.le_refl M.size)
  have hbx := h.boxP (.cells true [.slice none 0 0, .slice none 0 0])
  have hv1 := hv.mono hbx.2
  have h01 := hbx.2 _ _ h0
  obtain ⟨M1, c1, h1⟩ := Check_do (k := k) hO (by omega) hv1 hbx.1 h01
  have g1 := h1.get (keep1_same ..)
  have s1 := h1.lt (keep1_same K M.size _)
  by_cases he : (checkS rs).2 = 0
  · have hT := tableOk_of he hr
    obtain ⟨v', M2, mp, c2, g2', h2⟩ := made_do (k := k) hO (by omega) hT hv1 h1 h01
    obtain ⟨a, rfl, hcode⟩ := code_of h2 g2'
    have g2 := h2.get (keep1_same ..)
    have s2 := h2.lt (keep1_same K M.size _)
    by_cases hl : 512 < (madeS (tableS rs)).length
    · have ee : errS rs = 3 := by rw [errS, if_pos he, if_pos hl]
      have eo : outS rs = [] := by rw [outS, if_neg (by rw [ee]; decide)]
      refine ⟨.slice none 0 0, M2.set M.size (.cells true [.slice none 0 0, .slice none 0 0]), call_of 24 (hO.off 8 (by decide) _ _) at8 bd8 n8 ?_ ok8, (Hp.unbox h2 hKM).tail, by rw [eo]; exact CodeAt.none _ _, by show M.size ≤ M2.size; omega⟩
      subst hve
      refine Eq.trans (markS_eq [3, 6, 7] Tryd.prog kp 1 _ (Y.lpOf Tryd.prog kp 1 (callN Tryd.prog kp 1 o k) 24) (fun _ _ _ _ _ _ _ => rfl) 24 k (bodyOf Tryd.f8) (by kernel_rfl) _ M _) ?_
      refine Eq.trans (t_Cod_in ..) ?_
      refine step c1 ?_
      rw [nAsTup, nUncC, nAsInt, nKEq, nCondT, nUncC, nAsInt, nKEq, nCondT, nUncN, notB, eqF_t he, nCondT]
      refine step c2 ?_
      rw [nAsSl, ltF_t (show (512 : Int) < Int.ofNat (madeS (tableS rs)).length by show (512 : Int) < ((madeS (tableS rs)).length : Int); omega), nCondT, ee]
      refine Eq.trans (loop_reg _ _ _ (by kernel_rfl) _ _ _ _) ?_
      refine Eq.trans (r8_6_eq ..) ?_
      refine Eq.trans (t_Cod6 ..) ?_
      rw [Y.storeF_eq, agg2_store g2, Y.ob_some]
      refine Eq.trans (t_CodR1 ..) ?_
      rw [Mem.get_set_same, nCells]
      rfl
    · have ee : errS rs = 0 := by rw [errS, if_pos he, if_neg hl]
      have eo : outS rs = madeS (tableS rs) := by rw [outS, if_pos ee]
      refine ⟨.slice a (madeS (tableS rs)).length (madeS (tableS rs)).length, M2.set M.size (.cells true [.slice none 0 0, .slice a (madeS (tableS rs)).length (madeS (tableS rs)).length]), call_of 24 (hO.off 8 (by decide) _ _) at8 bd8 n8 ?_ ok8, (Hp.unbox h2 hKM).tail, ?_, by show M.size ≤ M2.size; omega⟩
      · subst hve
        refine Eq.trans (markS_eq [3, 6, 7] Tryd.prog kp 1 _ (Y.lpOf Tryd.prog kp 1 (callN Tryd.prog kp 1 o k) 24) (fun _ _ _ _ _ _ _ => rfl) 24 k (bodyOf Tryd.f8) (by kernel_rfl) _ M _) ?_
        refine Eq.trans (t_Cod_in ..) ?_
        refine step c1 ?_
        rw [nAsTup, nUncC, nAsInt, nKEq, nCondT, nUncC, nAsInt, nKEq, nCondT, nUncN, notB, eqF_t he, nCondT]
        refine step c2 ?_
        rw [nAsSl, ltF_f (show ¬ (512 : Int) < Int.ofNat (madeS (tableS rs)).length by show ¬ (512 : Int) < ((madeS (tableS rs)).length : Int); omega), nCondF, ee]
        refine Eq.trans (loop_reg _ _ _ (by kernel_rfl) _ _ _ _) ?_
        refine Eq.trans (r8_7_eq ..) ?_
        refine Eq.trans (t_Cod7 ..) ?_
        rw [Y.storeF_eq, agg2_store g2, Y.ob_some]
        refine Eq.trans (t_CodR2 ..) ?_
        rw [Mem.get_set_same, nCells]
        rfl
      · rw [eo]
        refine ⟨a, rfl, fun hne => ?_⟩
        obtain ⟨c, q1, q2, q3, q4⟩ := hcode hne
        have hcne : c ≠ M.size := by rintro rfl; rw [keep1_same] at q3; cases q3
        rw [keep1_ne hcne] at q3
        exact ⟨c, q1, q2, q3, (Mem.get_set_ne _ hcne _).trans q4⟩
  · have ee : errS rs = (checkS rs).2 := by rw [errS, if_neg he]
    have eo : outS rs = [] := by rw [outS, if_neg (by rw [ee]; exact he)]
    refine ⟨.slice none 0 0, M1.set M.size (.cells true [.slice none 0 0, .slice none 0 0]), call_of 24 (hO.off 8 (by decide) _ _) at8 bd8 n8 ?_ ok8, Hp.unbox h1 hKM, by rw [eo]; exact CodeAt.none _ _, by show M.size ≤ M1.size; omega⟩
    subst hve
    refine Eq.trans (markS_eq [3, 6, 7] Tryd.prog kp 1 _ (Y.lpOf Tryd.prog kp 1 (callN Tryd.prog kp 1 o k) 24) (fun _ _ _ _ _ _ _ => rfl) 24 k (bodyOf Tryd.f8) (by kernel_rfl) _ M _) ?_
    refine Eq.trans (t_Cod_in ..) ?_
    refine step c1 ?_
    rw [nAsTup, nUncC, nAsInt, nKEq, nCondT, nUncC, nAsInt, nKEq, nCondT, nUncN, notB, eqF_f he, nCondF, ee]
    refine Eq.trans (loop_reg _ _ _ (by kernel_rfl) _ _ _ _) ?_
    refine Eq.trans (r8_3_eq ..) ?_
    refine Eq.trans (t_Cod3 ..) ?_
    rw [Y.storeF_eq, agg2_store g1, Y.ob_some]
    refine Eq.trans (t_CodR0 ..) ?_
    rw [Mem.get_set_same, nCells]
    rfl
theorem sum_take {l : List RuleT} {i : Nat} {r : RuleT} (h : l[i]? = some r) : ((l.take (i + 1)).map fun r => r.tests.length).sum = ((l.take i).map fun r => r.tests.length).sum + r.tests.length := by
  rw [List.take_add_one, h, Option.toList_some, List.map_append, List.sum_append]
  simp
theorem sum_take_le (l : List RuleT) (i : Nat) : ((l.take i).map fun r => r.tests.length).sum ≤ (l.map fun r => r.tests.length).sum := by
  have h : (l.map fun r => r.tests.length).sum = ((l.take i).map fun r => r.tests.length).sum + ((l.drop i).map fun r => r.tests.length).sum := by
    rw [← List.sum_append, ← List.map_append, List.take_append_drop]
  omega
theorem long_loop {rs : List RuleT} {rest : List Value} {vr : List (Value × RuleT)} {own : Bool} {rb rc : Nat} {rp : Option Nat} (hlen : longN rs ≤ 1000000) (hrs : vr.map (·.2) = rs) (hrb : K rb = some (.cells own (vr.flatMap ruleC ++ rest))) (hv : ∀ x ∈ vr, tstsAt K x.1 x.2.tests) :
    ∀ (d i : Nat), vr.length = i + d → ∀ (jj : Nat) (M : Mem), d + 1 ≤ jj → Hp M K [] →
    ∃ M', (∀ x, Lands 22 [(3, .int .i64 (longN rs : Int)), (8, .slice (some ⟨rb, 0, rp⟩) vr.length rc), (9, .int .i64 (vr.length : Int)), (10, .int .i64 (vr.length : Int))] (.exit 0) M' (loopD (codeD Tryd.prog kp 1 (callN Tryd.prog kp 1 o k) (drawD Tryd.prog kp 1 (callN Tryd.prog kp 1 o k) 22) 22 k (loopN Tryd.f6 0)) jj (fullN 22 (up x [(3, .int .i64 ((rs.length + ((rs.take i).map fun r => r.tests.length).sum : Nat) : Int)), (8, .slice (some ⟨rb, 0, rp⟩) vr.length rc), (9, .int .i64 (vr.length : Int)), (10, .int .i64 (i : Int))])) M)) ∧ Hp M' K []
  | 0, i, hi, jj, M, hjj, h => by
    obtain ⟨jj, rfl⟩ : ∃ j', jj = j' + 1 := ⟨jj - 1, by omega⟩
    obtain rfl : i = vr.length := by omega
    have hl : rs.length = vr.length := by rw [← hrs, List.length_map]
    refine ⟨M, fun x => Lands.stop (Lands.turn ?_) (by simp), h⟩
    refine Lands.via (markS_eq [4] Tryd.prog kp 1 _ (Y.lpOf Tryd.prog kp 1 (callN Tryd.prog kp 1 o k) 22) (fun _ _ _ _ _ _ _ => rfl) 22 k (loopN Tryd.f6 0) (by kernel_rfl) _ M _) ?_
    refine Lands.via (t_LonA ..) ?_
    rw [ge_len (by omega), nCondF, ← hl, List.take_length]
    exact Lands.here _
  | d + 1, i, hi, jj, M, hjj, h => by
    obtain ⟨jj, rfl⟩ : ∃ j', jj = j' + 1 := ⟨jj - 1, by omega⟩
    have hl : rs.length = vr.length := by rw [← hrs, List.length_map]
    have hlt : i < vr.length := by omega
    obtain ⟨p, hp⟩ : ∃ p, vr[i]? = some p := ⟨_, List.getElem?_eq_getElem hlt⟩
    obtain ⟨v, r⟩ := p
    have hpm : (v, r) ∈ vr := List.mem_of_getElem? hp
    have hri : rs[i]? = some r := by rw [← hrs, List.getElem?_map, hp]; rfl
    have gb := h.get hrb
    have hvt : tstsAt K v r.tests := hv _ hpm
    obtain ⟨ta, tc, rfl, _⟩ := hvt
    obtain ⟨M1, hM1⟩ : ∃ M1, (M.push (.cells true [(.slice none 0 0), (.int Go.IntKind.u32 (0 : Int))])).set M.size (.cells true (ruleC (.slice ta r.tests.length tc, r))) = M1 := ⟨_, rfl⟩
    have gx : M1.get M.size = .cells true (ruleC (.slice ta r.tests.length tc, r)) := by rw [← hM1]; exact Mem.get_set_same _ _ _
    have h1 : Hp M1 K [] := h.ext (hM1 ▸ Ext.fresh)
    have hst : storeD Tryd.prog (M.push (.cells true [(.slice none 0 0), (.int Go.IntKind.u32 (0 : Int))])) 49 (.agg ⟨ruleC (.slice ta r.tests.length tc, r)⟩) (.pointer (some ⟨M.size, 0, none⟩)) = some M1 := by
      rw [storeD_at (n := 2) sz49 rfl (Mem.get_push_same _ _) (by simp) rfl, ← hM1]
      rfl
    have hsum := sum_take hri
    have hle := sum_take_le rs (i + 1)
    unfold longN at hlen
    obtain ⟨M2, h2, h3⟩ := long_loop (rc := rc) (rp := rp) (by unfold longN; exact hlen) hrs hrb hv d (i + 1) (by omega) jj M1 (by omega) h1
    refine ⟨M2, fun x => Lands.next (Lands.turn ?_) h2, h3⟩
    refine Lands.via (markS_eq [4] Tryd.prog kp 1 _ (Y.lpOf Tryd.prog kp 1 (callN Tryd.prog kp 1 o k) 22) (fun _ _ _ _ _ _ _ => rfl) 22 k (loopN Tryd.f6 0) (by kernel_rfl) _ M _) ?_
    refine Lands.via (t_LonA ..) ?_
    rw [lt_len hlt, nCondT]
    refine Lands.via (loop_reg _ _ _ (by kernel_rfl) _ _ _ _) ?_
    refine Lands.via (r6_4_eq ..) ?_
    refine Lands.via (opsF_cut 3 ..) ?_
    refine Lands.via (t_LonR ..) ?_
    rw [nOnNat, blt_t hlt, nCondT, gb, nCells, chunk_ble ruleC_len hlt, nCondT, chunk_sub ruleC_len hp]
    refine Lands.via (t_LonRS ..) ?_
    rw [Y.storeF_eq, hst, Y.ob_some]
    refine Lands.via (t_LonB ..) ?_
    rw [gx, nCells, show Y.nthL (ruleC (Value.slice ta r.tests.length tc, r)) 0 = some (.slice ta r.tests.length tc) from rfl, nElim, nAsSl, wrap_succ (by omega),
      wrap64 (x := Int.add ((rs.length + ((rs.take i).map fun r => r.tests.length).sum : Nat) : Int) (Int.ofNat r.tests.length)) (by show _ ≤ ((rs.length + ((rs.take i).map fun r => r.tests.length).sum : Nat) : Int) + (r.tests.length : Int) ∧ ((rs.length + ((rs.take i).map fun r => r.tests.length).sum : Nat) : Int) + (r.tests.length : Int) ≤ _; omega),
      show Int.add ((rs.length + ((rs.take i).map fun r => r.tests.length).sum : Nat) : Int) (Int.ofNat r.tests.length) = ((rs.length + ((rs.take (i + 1)).map fun r => r.tests.length).sum : Nat) : Int) by show ((rs.length + ((rs.take i).map fun r => r.tests.length).sum : Nat) : Int) + (r.tests.length : Int) = _; omega]
    exact Lands.here _
theorem long_do {rs : List RuleT} {v : Value} (hO : Orq o) (hk : longN rs + 100 ≤ k) (hlen : longN rs ≤ 1000000) (hv : rulesAt K v rs) (h : Hp M K []) :
    ∃ M', callN Tryd.prog kp 1 o k 6 [v] M = some (.bool (decide (5000 < longN rs)), M') ∧ Hp M' K [] := by
  obtain ⟨k, rfl⟩ : ∃ k', k = k' + 1 := ⟨k - 1, by omega⟩
  obtain ⟨ra, rc, rfl, hv⟩ := hv
  have hrl : rs.length ≤ longN rs := by unfold longN; omega
  obtain ⟨M', hloop, h'⟩ : ∃ M', (∀ x, Lands 22 [(3, .int .i64 (longN rs : Int)), (8, .slice ra rs.length rc), (9, .int .i64 (rs.length : Int)), (10, .int .i64 (rs.length : Int))] (.exit 0) M' (loopD (codeD Tryd.prog kp 1 (callN Tryd.prog kp 1 o k) (drawD Tryd.prog kp 1 (callN Tryd.prog kp 1 o k) 22) 22 k (loopN Tryd.f6 0)) k (fullN 22 (up x [(3, .int .i64 (rs.length : Int)), (8, .slice ra rs.length rc), (9, .int .i64 (rs.length : Int)), (10, .int .i64 (0 : Int))])) M)) ∧ Hp M' K [] := by
    by_cases e : rs = []
    · subst e
      obtain ⟨k, rfl⟩ : ∃ k', k = k' + 1 := ⟨k - 1, by omega⟩
      exact ⟨M, fun x => Lands.stop (Lands.turn (Lands.via (t_LonA0 ..) (Lands.here _))) (by simp), h⟩
    · obtain ⟨rb, rp, own, rest, vr, rfl, hrs, hrb, hvt⟩ := hv e
      have hl2 : rs.length = vr.length := by rw [← hrs, List.length_map]
      obtain ⟨M', q1, q2⟩ := long_loop (o := o) (k := k) (rc := rc) (rp := rp) hlen hrs hrb hvt vr.length 0 (by omega) k M (by omega) h
      refine ⟨M', fun x => ?_, q2⟩
      have := q1 x
      rw [← hl2] at this
      exact this
  refine ⟨M', call_of 22 (hO.off 6 (by decide) _ _) at6 bd6 n6 ?_ ok6, h'⟩
  refine Eq.trans (t_Lon_in ..) ?_
  rw [Y.lpOf_eq, Y.loopC_body]
  simp only [Int.ofNat_eq_natCast]
  refine onE_land (hloop _) fun x' => ?_
  refine Eq.trans (t_Lon_out ..) ?_
  by_cases hc : 5000 < longN rs
  · rw [decide_eq_true hc, ltF_t (by omega), nCondT]
  · rw [decide_eq_false hc, ltF_f (by omega), nCondF]
end
end
end Go.Proofs.YtadioopbehiakaaDoor
