/-
  COurs: ours: the program's table, a copy.
-/
import Derived.Test.YtadioopbehiakaaDoorF22
import Derived.Test.YtadioopbehiakaaDoorF10
set_option linter.all false
set_option linter.unusedVariables false
set_option linter.unusedSimpArgs false
namespace Go.Proofs.YtadioopbehiakaaDoor
open Go Go.DI Go.DI.Kit Go.Proofs Go.Cmp
noncomputable section
theorem at7 : Tryd.prog.funcs[7]? = some Tryd.f7 := by kernel_rfl
theorem bd7 : Tryd.f7.body = some (bodyOf Tryd.f7) := by kernel_rfl
theorem nt7 : Tryd.f7.ntmps = 52 := by kernel_rfl
theorem n7 {a : Value} : max [a].length Tryd.f7.ntmps = 52 := by rw [nt7]; rfl
theorem okSl7 {a : Option Addr} {n c : Nat} : okR Tryd.prog 7 (.slice a n c) = true := by kernel_rfl
theorem und43 : Tryd.prog.underlying 43 = some (.slice 53) := by kernel_rfl
theorem sz43 : szOf Tryd.prog 43 = some 1 := by kernel_rfl
theorem by53 : bytesOf Tryd.prog 53 = some 56 := by kernel_rfl
theorem ze53 : (zerosD Tryd.prog 53 1).isSome = true := by kernel_rfl
theorem und25 : Tryd.prog.underlying 25 = some (.slice 46) := by kernel_rfl
theorem by46 : bytesOf Tryd.prog 46 = some 32 := by kernel_rfl
theorem ze46 : (zerosD Tryd.prog 46 1).isSome = true := by kernel_rfl
theorem sz54 : szOf Tryd.prog 54 = some 7 := by kernel_rfl
section
variable {α : Type} (x : Nat → Value) (cf : Y.CF α) (L : Y.LK α) (k : Nat) (m : Mem)
theorem r7_4_eq (t : Tmps) (q : Y.ExK α) : Y.codeF (Y.loopC c7 0) Tryd.prog kp 1 (Y.cfT Tryd.prog cf) L 52 k t m q = Y.opsF r7_4 Tryd.prog kp 1 (Y.cfT Tryd.prog cf) 52 r7_4 t m fun t m => q .normal t m := by kernel_rfl
theorem r7_5_eq (t : Tmps) (q : Y.ExK α) : Y.codeF (Y.loopC c7 1) Tryd.prog kp 1 (Y.cfT Tryd.prog cf) L 52 k t m q = Y.opsF r7_5 Tryd.prog kp 1 (Y.cfT Tryd.prog cf) 52 r7_5 t m fun t m => q .normal t m := by kernel_rfl
theorem r7_6_eq (t : Tmps) (q : Y.ExK α) : Y.codeF (Y.loopC c7 2) Tryd.prog kp 1 (Y.cfT Tryd.prog cf) L 52 k t m q = Y.opsF r7_6 Tryd.prog kp 1 (Y.cfT Tryd.prog cf) 52 r7_6 t m fun t m => q .normal t m := by kernel_rfl
theorem r7_11_eq (t : Tmps) (q : Y.ExK α) : Y.codeF (Y.loopC c7 4) Tryd.prog kp 1 (Y.cfT Tryd.prog cf) L 52 k t m q = Y.opsF r7_11 Tryd.prog kp 1 (Y.cfT Tryd.prog cf) 52 r7_11 t m fun t m => q .normal t m := by kernel_rfl
theorem r7_8_eq (t : Tmps) (q : Y.ExK α) : Y.codeF (Y.loopC c7i 0) Tryd.prog kp 1 (Y.cfT Tryd.prog cf) L 52 k t m q = Y.opsF r7_8 Tryd.prog kp 1 (Y.cfT Tryd.prog cf) 52 r7_8 t m fun t m => q .normal t m := by kernel_rfl
theorem r7_9_eq (t : Tmps) (q : Y.ExK α) : Y.codeF (Y.loopC c7i 1) Tryd.prog kp 1 (Y.cfT Tryd.prog cf) L 52 k t m q = Y.opsF r7_9 Tryd.prog kp 1 (Y.cfT Tryd.prog cf) 52 r7_9 t m fun t m => q .normal t m := by kernel_rfl
theorem t_OurRS (b : Nat) (w3 w9 w10 w11 u : Value) (q : Tmps → Mem → Option α) : Y.opsF (List.drop 3 r7_4) Tryd.prog kp 1 (Y.cfT Tryd.prog cf) 52 r7_4 (fullN 52 (up x [(3, w3), (5, .pointer (some ⟨b, 0, none⟩)), (9, w9), (10, w10), (11, w11), (14, u)])) m q =
  Y.storeF Tryd.prog m 49 u (.pointer (some ⟨b, 0, none⟩)) fun m' => q (fullN 52 (up (up x [(14, u)]) [(3, w3), (5, .pointer (some ⟨b, 0, none⟩)), (9, w9), (10, w10), (11, w11)])) m' := by kernel_rfl
theorem t_Our5S (b : Nat) (w3 w5 w9 w10 w11 u : Value) (q : Tmps → Mem → Option α) : Y.opsF (List.drop 4 r7_5) Tryd.prog kp 1 (Y.cfT Tryd.prog cf) 52 r7_5 (fullN 52 (up x [(3, w3), (5, w5), (6, .pointer (some ⟨b, 0, none⟩)), (9, w9), (10, w10), (11, w11), (17, u)])) m q =
  Y.storeF Tryd.prog m 46 u (.pointer (some ⟨b, 0, none⟩)) fun m' => q (fullN 52 (up (up x [(17, u)]) [(3, w3), (5, w5), (6, .pointer (some ⟨b, 0, none⟩)), (9, w9), (10, w10), (11, w11)])) m' := by kernel_rfl
theorem t_OurJS (b : Nat) (w3 w6 w9 w10 w11 w19 w20 w21 u : Value) (q : Tmps → Mem → Option α) : Y.opsF (List.drop 3 r7_8) Tryd.prog kp 1 (Y.cfT Tryd.prog cf) 52 r7_8 (fullN 52 (up x [(3, w3), (6, w6), (8, .pointer (some ⟨b, 0, none⟩)), (9, w9), (10, w10), (11, w11), (19, w19), (20, w20), (21, w21), (24, u)])) m q =
  Y.storeF Tryd.prog m 54 u (.pointer (some ⟨b, 0, none⟩)) fun m' => q (fullN 52 (up (up x [(24, u)]) [(3, w3), (6, w6), (8, .pointer (some ⟨b, 0, none⟩)), (9, w9), (10, w10), (11, w11), (19, w19), (20, w20), (21, w21)])) m' := by kernel_rfl
theorem t_OurLc (b : Nat) (w3 w9 w10 w11 w19 w20 w21 u v : Value) (q : Tmps → Mem → Option α) : Y.opsF (List.drop 18 r7_9) Tryd.prog kp 1 (Y.cfT Tryd.prog cf) 52 r7_9 (fullN 52 (up x [(3, w3), (6, .pointer (some ⟨b, 0, none⟩)), (9, w9), (10, w10), (11, w11), (19, w19), (20, w20), (21, w21), (26, u), (42, v)])) m q =
  Y.appendF Tryd.prog m 43 43 u v fun a m' => Y.storeF Tryd.prog m' 43 a (.pointer (some ⟨b, 0, none⟩)) fun m'' => q (fullN 52 (up (up x [(26, u), (42, v), (43, a), (44, .pointer (some ⟨b, 0, none⟩))]) [(3, w3), (6, .pointer (some ⟨b, 0, none⟩)), (9, w9), (10, w10), (11, w11), (19, w19), (20, w20), (21, w21)])) m'' := by kernel_rfl
theorem t_Our11c (w9 w10 w11 u v : Value) (q : Tmps → Mem → Option α) : Y.opsF (List.drop 3 r7_11) Tryd.prog kp 1 (Y.cfT Tryd.prog cf) 52 r7_11 (fullN 52 (up x [(9, w9), (10, w10), (11, w11), (46, u), (48, v)])) m q =
  Y.appendF Tryd.prog m 25 25 u v fun a m' => q (fullN 52 (up (up x [(46, u), (48, v), (49, a)]) [(3, a), (9, w9), (10, w10), (11, w11)])) m' := by kernel_rfl
theorem t_OurI0 (w3 w6 w9 w10 w11 w19 : Value) (q : Y.ExK α) : Y.codeF (loopN Tryd.f7 1) Tryd.prog kp 1 (Y.cfT Tryd.prog cf) L 52 k (fullN 52 (up x [(3, w3), (6, w6), (9, w9), (10, w10), (11, w11), (19, w19), (20, .int .i64 (0 : Nat)), (21, .int .i64 (0 : Int))])) m q =
  q (.exit 2) (fullN 52 (up (up x [(22, .bool false)]) [(3, w3), (6, w6), (9, w9), (10, w10), (11, w11), (19, w19), (20, .int .i64 (0 : Nat)), (21, .int .i64 (0 : Int))])) m := by kernel_rfl
theorem t_OurA0 (w3 w9 : Value) (q : Y.ExK α) : Y.codeF (loopN Tryd.f7 0) Tryd.prog kp 1 (Y.cfT Tryd.prog cf) L 52 k (fullN 52 (up x [(3, w3), (9, w9), (10, .int .i64 (0 : Nat)), (11, .int .i64 (0 : Int))])) m q =
  q (.exit 0) (fullN 52 (up (up x [(12, .bool false)]) [(3, w3), (9, w9), (10, .int .i64 (0 : Nat)), (11, .int .i64 (0 : Int))])) m := by kernel_rfl
end
theorem lc7 : Y.loopC c7 3 = loopN Tryd.f7 1 := by kernel_rfl
theorem Hp.learn {M : Mem} {K : Keep} {c : Nat} {x : Blk} (h : Hp M K []) (hc : c < M.size) (hg : M.get c = x) (hk : K c = none) : Hp M (keep1 K c x) [] ∧ ∀ j y, K j = some y → keep1 K c x j = some y := by
  obtain ⟨ht, hK, F, q1, q2, q3⟩ := h
  cases q1
  refine ⟨⟨ht, fun j y hj => ?_, [], .nil, List.nodup_nil, fun x hx => by simp at hx⟩, fun j y hj => ?_⟩
  · by_cases e : j = c
    · subst e; rw [keep1_same] at hj; cases hj
      exact ⟨hc, hg⟩
    · rw [keep1_ne e] at hj; exact hK j y hj
  · rw [keep1_ne (by rintro rfl; rw [hk] at hj; cases hj)]; exact hj
def xO (ve : Int) (ts : List TestT) : Thing := ⟨[], [.int .u32 ve], 7, ts.length, ts.flatMap testC⟩
theorem xO_next (ve : Int) (ts : List TestT) (t : TestT) : ({ xO ve ts with n := (xO ve ts).n + 1, c := (xO ve ts).c ++ testC t } : Thing) = xO ve (ts ++ [t]) := by simp [xO]
section
variable {K : Keep} {M : Mem} {o : Orc} {k : Nat}
theorem OurT_loop {ts : List TestT} {rest : List Value} {own : Bool} {ve : Int} {tb tc yb rb rn rc i on : Nat} {tp rp : Option Nat} {oa : Option Addr} (hn : ts.length * 56 ≤ 140737488355328) (htb : K tb = some (.cells own (ts.flatMap testC ++ rest))) :
    ∀ (d j : Nat), ts.length = j + d → ∀ (jj : Nat) (M : Mem), d + 1 ≤ jj → Hp M K [(yb, xO ve (ts.take j))] →
    ∃ M', (∀ x, Lands 52 [(3, .slice oa on on), (6, .pointer (some ⟨yb, 0, none⟩)), (9, .slice (some ⟨rb, 0, rp⟩) rn rc), (10, .int .i64 (rn : Int)), (11, .int .i64 (i : Int)), (19, .slice (some ⟨tb, 0, tp⟩) ts.length tc), (20, .int .i64 (ts.length : Int)), (21, .int .i64 (ts.length : Int))] (.exit 2) M' (loopD (codeD Tryd.prog kp 1 (callN Tryd.prog kp 1 o k) (drawD Tryd.prog kp 1 (callN Tryd.prog kp 1 o k) 52) 52 k (loopN Tryd.f7 1)) jj (fullN 52 (up x [(3, .slice oa on on), (6, .pointer (some ⟨yb, 0, none⟩)), (9, .slice (some ⟨rb, 0, rp⟩) rn rc), (10, .int .i64 (rn : Int)), (11, .int .i64 (i : Int)), (19, .slice (some ⟨tb, 0, tp⟩) ts.length tc), (20, .int .i64 (ts.length : Int)), (21, .int .i64 (j : Int))])) M)) ∧ Hp M' K [(yb, xO ve ts)]
  | 0, j, hj, jj, M, hjj, h => by
    obtain ⟨jj, rfl⟩ : ∃ j', jj = j' + 1 := ⟨jj - 1, by omega⟩
    obtain rfl : j = ts.length := by omega
    rw [List.take_length] at h
    refine ⟨M, fun x => Lands.stop (Lands.turn ?_) (by simp), h⟩
    refine Lands.via (markS_eq [8, 9] Tryd.prog kp 1 _ (Y.lpOf Tryd.prog kp 1 (callN Tryd.prog kp 1 o k) 52) (fun _ _ _ _ _ _ _ => rfl) 52 k (loopN Tryd.f7 1) (by kernel_rfl) _ M _) ?_
    refine Lands.via (t_OurI ..) ?_
    rw [ge_len (by omega), nCondF]
    exact Lands.here _
  | d + 1, j, hj, jj, M, hjj, h => by
    obtain ⟨jj, rfl⟩ : ∃ j', jj = j' + 1 := ⟨jj - 1, by omega⟩
    have hlt : j < ts.length := by omega
    obtain ⟨t, ht⟩ : ∃ t, ts[j]? = some t := ⟨_, List.getElem?_eq_getElem hlt⟩
    have htk : ts.take (j + 1) = ts.take j ++ [t] := by rw [List.take_add_one, ht]; rfl
    have gb := h.get htb
    obtain ⟨M1, hM1⟩ : ∃ M1, (M.push (.cells true [(.bool false), (.int .i64 (0 : Int)), (.int .i64 (0 : Int)), (.int .i64 (0 : Int)), (.int .u64 (0 : Int)), (.int .u64 (0 : Int)), (.int .u64 (0 : Int))])).set M.size (.cells true (testC t)) = M1 := ⟨_, rfl⟩
    have x1 : Ext M M1 := hM1 ▸ Ext.fresh
    have gz : M1.get M.size = .cells true (testC t) := by rw [← hM1]; exact Mem.get_set_same _ _ _
    have hst : storeD Tryd.prog (M.push (.cells true [(.bool false), (.int .i64 (0 : Int)), (.int .i64 (0 : Int)), (.int .i64 (0 : Int)), (.int .u64 (0 : Int)), (.int .u64 (0 : Int)), (.int .u64 (0 : Int))])) 54 (.agg ⟨testC t⟩) (.pointer (some ⟨M.size, 0, none⟩)) = some M1 := by
      rw [storeD_at (n := 7) sz54 rfl (Mem.get_push_same _ _) (by simp) rfl, ← hM1]
      rfl
    have x2 : Ext M (M1.push (.cells true (testC t))) := x1.trans (Ext.push _ _)
    have hlj : (ts.take j).length = j := by rw [List.length_take]; omega
    obtain ⟨a, gm, happ⟩ := h.append und43 sz43 sz53 (show (7 : Nat) ≠ 0 by decide) by53 (by decide) ze53 (by show ((ts.take j).length + 1) * 56 ≤ _ ∧ (ts.take j).length + 1 ≤ _; omega)
    obtain ⟨a', M7, M8, p1, p2, h8, _, _⟩ := happ _ M1.size true (testC t) x2 (Mem.get_push_same _ _) rfl rfl
    rw [xO_next, ← htk] at h8
    have gy : M1.get yb = .cells true [.slice a (ts.take j).length (ts.take j).length, .int .u32 ve] := (x1.get yb h.set.1).trans gm
    obtain ⟨M3, h3, h4⟩ := OurT_loop (rb := rb) (rn := rn) (rc := rc) (i := i) (on := on) (tp := tp) (rp := rp) (oa := oa) (tc := tc) hn htb d (j + 1) (by omega) jj M8 (by omega) h8
    refine ⟨M3, fun x => Lands.next (Lands.turn ?_) h3, h4⟩
    refine Lands.via (markS_eq [8, 9] Tryd.prog kp 1 _ (Y.lpOf Tryd.prog kp 1 (callN Tryd.prog kp 1 o k) 52) (fun _ _ _ _ _ _ _ => rfl) 52 k (loopN Tryd.f7 1) (by kernel_rfl) _ M _) ?_
    refine Lands.via (t_OurI ..) ?_
    rw [lt_len hlt, nCondT]
    refine Lands.via (loop_reg _ _ _ (by kernel_rfl) _ _ _ _) ?_
    refine Lands.via (r7_8_eq ..) ?_
    refine Lands.via (opsF_cut 3 ..) ?_
    refine Lands.via (t_OurJ ..) ?_
    rw [nOnNat, blt_t hlt, nCondT, gb, nCells, chunk_ble testC_len hlt, nCondT, chunk_sub testC_len ht]
    refine Lands.via (t_OurJS ..) ?_
    rw [Y.storeF_eq, hst, Y.ob_some]
    refine Lands.via (t_OurK ..) ?_
    refine Lands.via (loop_reg _ _ _ (by kernel_rfl) _ _ _ _) ?_
    refine Lands.via (r7_9_eq ..) ?_
    refine Lands.via (opsF_cut 17 ..) ?_
    refine Lands.via (t_OurL ..) ?_
    rw [gy, nCells, show Y.nthL [Value.slice a (ts.take j).length (ts.take j).length, .int .u32 ve] 0 = some (.slice a (ts.take j).length (ts.take j).length) from rfl, nElim, nAsSl]
    simp only [gz, nCells, tn0, tn1, tn2, tn3, tn4, tn5, tn6, nElim, nAsInt, nAsBoB, nKEq, nCondT]
    refine Lands.via (opsF_cut 1 ..) ?_
    refine Lands.via (t_OurLb ..) ?_
    rw [show List.drop 1 (List.drop 17 r7_9) = List.drop 18 r7_9 by rw [List.drop_drop]]
    refine Lands.via (t_OurLc ..) ?_
    rw [Y.appendF_eq, show appendD Tryd.prog (M1.push (.cells true [.bool t.neg, .int .i64 t.kind, .int .i64 t.pos, .int .i64 t.size, .int .u64 t.mask, .int .u64 t.lo, .int .u64 t.hi])) 43 43 (.slice a (ts.take j).length (ts.take j).length) (.slice (some ⟨M1.size, 0, none⟩) 1 1) = _ from p1, nOnV, Y.storeF_eq, show storeD Tryd.prog M7 43 _ (.pointer (some ⟨yb, 0, none⟩)) = _ from p2, Y.ob_some]
    refine Lands.via (t_OurM ..) ?_
    rw [wrap_succL (by omega)]
    exact Lands.here _
theorem OurT_run {ts : List TestT} {v : Value} {ve : Int} {yb rb rn rc i on : Nat} {rp : Option Nat} {oa : Option Addr} (hk : ts.length + 2 ≤ k) (hn : ts.length * 56 ≤ 140737488355328) (hv : tstsAt K v ts) (h : Hp M K [(yb, xO ve [])]) :
    ∃ ta tc M', v = .slice ta ts.length tc ∧ (∀ x, Lands 52 [(3, .slice oa on on), (6, .pointer (some ⟨yb, 0, none⟩)), (9, .slice (some ⟨rb, 0, rp⟩) rn rc), (10, .int .i64 (rn : Int)), (11, .int .i64 (i : Int)), (19, .slice ta ts.length tc), (20, .int .i64 (ts.length : Int)), (21, .int .i64 (ts.length : Int))] (.exit 2) M' (loopD (codeD Tryd.prog kp 1 (callN Tryd.prog kp 1 o k) (drawD Tryd.prog kp 1 (callN Tryd.prog kp 1 o k) 52) 52 k (loopN Tryd.f7 1)) k (fullN 52 (up x [(3, .slice oa on on), (6, .pointer (some ⟨yb, 0, none⟩)), (9, .slice (some ⟨rb, 0, rp⟩) rn rc), (10, .int .i64 (rn : Int)), (11, .int .i64 (i : Int)), (19, .slice ta ts.length tc), (20, .int .i64 (ts.length : Int)), (21, .int .i64 (0 : Int))])) M)) ∧ Hp M' K [(yb, xO ve ts)] := by
  obtain ⟨ta, tc, rfl, hv⟩ := hv
  by_cases e : ts = []
  · subst e
    obtain ⟨k, rfl⟩ : ∃ k', k = k' + 1 := ⟨k - 1, by omega⟩
    exact ⟨ta, tc, M, rfl, fun x => Lands.stop (Lands.turn (Lands.via (t_OurI0 ..) (Lands.here _))) (by simp), h⟩
  · obtain ⟨tb, tp, own, rest, rfl, htb⟩ := hv e
    obtain ⟨M', h1, h2⟩ := OurT_loop (o := o) (rb := rb) (rn := rn) (rc := rc) (i := i) (on := on) (tp := tp) (rp := rp) (oa := oa) (tc := tc) hn htb ts.length 0 (by omega) k M (by omega) h
    exact ⟨_, tc, M', rfl, h1, h2⟩
def OutR (M : Mem) (K : Keep) (vr : List (Value × RuleT)) (oa : Option Addr) : Prop := (vr = [] ∧ oa = none) ∨ ∃ c, oa = some ⟨c, 0, some 2⟩ ∧ c < M.size ∧ K c = none ∧ M.get c = .cells true (vr.flatMap ruleC)
def sliceV (v : Value) : Prop := ∃ a n c, v = .slice a n c
theorem rules_one : ∀ {vr : List (Value × RuleT)}, (∀ x ∈ vr, sliceV x.1) → (vr.flatMap ruleC).all one = true
  | [], _ => rfl
  | x :: vr, h => by
    obtain ⟨v, r⟩ := x
    obtain ⟨a, n, c, rfl⟩ := h (v, r) (List.mem_cons_self ..)
    show (ruleC (.slice a n c, r) ++ vr.flatMap ruleC).all one = true
    rw [List.all_append, rules_one fun x hx => h x (List.mem_cons_of_mem _ hx)]
    rfl
theorem outR_app {M2 : Mem} {vr : List (Value × RuleT)} {oa : Option Addr} {nb : Nat} {own : Bool} {x : Value × RuleT} (hs : ∀ y ∈ vr, sliceV y.1) (hx1 : sliceV x.1) (ho : OutR M2 K vr oa) (hn : M2.get nb = .cells own (ruleC x)) (hl : vr.length * 32 + 32 ≤ 140737488355328) (h : Hp M2 K []) :
    ∃ oa' M3, appendD Tryd.prog M2 25 25 (.slice oa vr.length vr.length) (.slice (some ⟨nb, 0, none⟩) 1 1) = some (.slice oa' (vr.length + 1) (vr.length + 1), M3) ∧ Hp M3 K [] ∧ OutR M3 K (vr ++ [x]) oa' := by
  have hf : firstC M2 2 1 (.slice (some ⟨nb, 0, none⟩) 1 1) = some (ruleC x) := loadC_at (rest := []) (by rw [List.append_nil]; exact hn) rfl
  have h1 : (ruleC x).all one = true := by
    have := rules_one (vr := [x]) fun y hy => by obtain rfl := List.mem_singleton.1 hy; exact hx1
    simpa using this
  rcases ho with ⟨rfl, rfl⟩ | ⟨c, rfl, h2, h3, h4⟩
  · refine ⟨_, _, append_nil und25 sz46 (by decide) by46 (by decide) ze46 (n := 1) rfl (by decide) (by decide) hf rfl h1, h.ext (Ext.push _ _), .inr ⟨_, rfl, ?_, h.no (Nat.le_refl _), ?_⟩⟩
    · show M2.size < M2.size + 1; omega
    · rw [Mem.get_push_same]; simp
  · refine ⟨_, _, append_own und25 sz46 (by decide) by46 (by decide) ze46 h4 (chunk_len ruleC_len vr) (rules_one hs) (n := 1) rfl (by decide) (by omega) hf rfl h1, ?_, .inr ⟨_, rfl, ?_, h.no (Nat.le_refl _), ?_⟩⟩
    · exact (h.ext (Ext.push _ _)).free_set (by show c < M2.size + 1; omega) h3
    · show M2.size < M2.size + 1; omega
    · rw [Mem.get_set_ne _ (by omega), Mem.get_push_same, List.flatMap_append]; simp
def dropK (K : Keep) (c : Nat) : Keep := fun j => if j = c then none else K j
theorem dropK_le {K : Keep} {c : Nat} : ∀ j x, dropK K c j = some x → K j = some x := by
  intro j x h
  unfold dropK at h
  split at h
  · cases h
  · exact h
theorem dropK_ne {K : Keep} {c j : Nat} (h : j ≠ c) : dropK K c j = K j := if_neg h
theorem tstsAt.slice {v : Value} {ts : List TestT} (h : tstsAt K v ts) : sliceV v := by
  obtain ⟨a, c, rfl, _⟩ := h
  exact ⟨_, _, _, rfl⟩
theorem Our_turn {r : RuleT} {v : Value} {rest : List Value} {sr vr : List (Value × RuleT)} {own : Bool} {rb rc i : Nat} {rp : Option Nat} {oa : Option Addr} (hk : r.tests.length + 80 ≤ k) (hn : r.tests.length * 56 ≤ 140737488355328) (hi32 : i * 32 + 32 ≤ 140737488355328)
    (hrb : K rb = some (.cells own (sr.flatMap ruleC ++ rest))) (hi : sr[i]? = some (v, r)) (hv : tstsAt K v r.tests) (hs : ∀ y ∈ vr, sliceV y.1) (hvl : vr.length = i) (h : Hp M K []) (ho : OutR M K vr oa) :
    ∃ K' M' oa' v', (∀ x, Lands 52 [(3, .slice oa' (i + 1) (i + 1)), (9, .slice (some ⟨rb, 0, rp⟩) sr.length rc), (10, .int .i64 (sr.length : Int)), (11, .int .i64 ((i + 1 : Nat) : Int))] .normal M' (codeD Tryd.prog kp 1 (callN Tryd.prog kp 1 o k) (drawD Tryd.prog kp 1 (callN Tryd.prog kp 1 o k) 52) 52 k (loopN Tryd.f7 0) (fullN 52 (up x [(3, .slice oa i i), (9, .slice (some ⟨rb, 0, rp⟩) sr.length rc), (10, .int .i64 (sr.length : Int)), (11, .int .i64 (i : Int))])) M)) ∧
      (∀ j x, K j = some x → K' j = some x) ∧ Hp M' K' [] ∧ OutR M' K' (vr ++ [(v', r)]) oa' ∧ tstsAt K' v' r.tests := by
  have hlt : i < sr.length := (List.getElem?_eq_some_iff.1 hi).1
  have gb := h.get hrb
  have hvs := hv.slice
  obtain ⟨K1, hK1, hw1, hback⟩ : ∃ K1, Hp M K1 [] ∧ (∀ j x, K j = some x → K1 j = some x) ∧ ((vr = [] ∧ oa = none ∧ K1 = K) ∨ ∃ c, oa = some ⟨c, 0, some 2⟩ ∧ K c = none ∧ K1 = keep1 K c (.cells true (vr.flatMap ruleC))) := by
    rcases ho with ⟨q1, q2⟩ | ⟨c, q1, q2, q3, q4⟩
    · exact ⟨K, h, fun _ _ h => h, .inl ⟨q1, q2, rfl⟩⟩
    · have := Hp.learn h q2 q4 q3
      exact ⟨_, this.1, this.2, .inr ⟨c, q1, q3, rfl⟩⟩
  obtain ⟨M1, hM1⟩ : ∃ M1, (M.push (.cells true [(.slice none 0 0), (.int Go.IntKind.u32 (0 : Int))])).set M.size (.cells true (ruleC (v, r))) = M1 := ⟨_, rfl⟩
  have gx : M1.get M.size = .cells true (ruleC (v, r)) := by rw [← hM1]; exact Mem.get_set_same _ _ _
  have s1 : M1.size = M.size + 1 := by rw [← hM1]; rfl
  have h1 : Hp M1 K1 [] := hK1.ext (hM1 ▸ Ext.fresh)
  have hst : storeD Tryd.prog (M.push (.cells true [(.slice none 0 0), (.int Go.IntKind.u32 (0 : Int))])) 49 (.agg ⟨ruleC (v, r)⟩) (.pointer (some ⟨M.size, 0, none⟩)) = some M1 := by
    obtain ⟨ta, n, tc, rfl⟩ := hvs
    rw [storeD_at (n := 2) sz49 rfl (Mem.get_push_same _ _) (by simp) rfl, ← hM1]
    rfl
  have hx0 := h1.push [] [.int .u32 (0 : Int)] 7
  obtain ⟨_, _, _, ⟨u, rfl⟩, gx0, hx1⟩ := hx0.set
  have hx1 := hx1 [] [.int .u32 r.verdict]
  obtain ⟨M2, hM2⟩ : ∃ M2, (M1.push (.cells true [(.slice none 0 0), (.int Go.IntKind.u32 (0 : Int))])).set M1.size (.cells true [.slice none 0 0, .int .u32 r.verdict]) = M2 := ⟨_, rfl⟩
  have hu : u = none := by
    have : (M1.push (.cells true ([] ++ Value.slice none 0 0 :: [.int .u32 (0 : Int)]))).get M1.size = .cells true ([] ++ Value.slice none 0 0 :: [.int .u32 (0 : Int)]) := Mem.get_push_same _ _
    rw [this] at gx0
    simp at gx0
    exact gx0.symm
  subst hu
  have h2 : Hp M2 K1 [(M1.size, xO r.verdict [])] := hM2 ▸ hx1
  have hst2 : storeD Tryd.prog (M1.push (.cells true [(.slice none 0 0), (.int Go.IntKind.u32 (0 : Int))])) 46 (.agg ⟨[.slice none 0 0, .int .u32 r.verdict]⟩) (.pointer (some ⟨M1.size, 0, none⟩)) = some M2 := by
    rw [storeD_at (n := 2) sz46 rfl (Mem.get_push_same _ _) (by simp) rfl, ← hM2]
    rfl
  have gx2 : M2.get M.size = .cells true (ruleC (v, r)) := by
    rw [← hM2, Mem.get_set_ne _ (by omega), Mem.get_push_ne _ (by omega)]; exact gx
  obtain ⟨ta, tc, M3, hve, hloop, h3⟩ := OurT_run (o := o) (k := k) (yb := M1.size) (rb := rb) (rn := sr.length) (rc := rc) (i := i) (on := i) (rp := rp) (oa := oa) (by omega) (by omega) (hv.mono hw1) h2
  obtain ⟨K2, a, hw2, hK2y, hbuf, hyn, h4⟩ := h3.freeze
  have gy : M3.get M1.size = .cells true [.slice a r.tests.length r.tests.length, .int .u32 r.verdict] := h4.get hK2y
  have h5 := h4.ext (Ext.push M3 (.cells true (ruleC (.slice a r.tests.length r.tests.length, r))))
  have hsx : sliceV (Value.slice a r.tests.length r.tests.length) := ⟨_, _, _, rfl⟩
  obtain ⟨K3, hK3, hw3, ho3, ht3⟩ : ∃ K3, Hp (M3.push (.cells true (ruleC (.slice a r.tests.length r.tests.length, r)))) K3 [] ∧ (∀ j x, K j = some x → K3 j = some x) ∧ OutR (M3.push (.cells true (ruleC (.slice a r.tests.length r.tests.length, r)))) K3 vr oa ∧ tstsAt K3 (.slice a r.tests.length r.tests.length) r.tests := by
    rcases hback with ⟨q1, q2, rfl⟩ | ⟨c, q1, q2, rfl⟩
    · refine ⟨K2, h5, hw2, .inl ⟨q1, q2⟩, a, _, rfl, fun h0 => ?_⟩
      obtain ⟨c', e1, e2, _⟩ := hbuf (List.length_pos_iff.2 h0)
      exact ⟨c', some 7, true, [], e1, by rw [e2, List.append_nil]; rfl⟩
    · have hc2 := hw2 c _ (keep1_same ..)
      refine ⟨dropK K2 c, h5.weak dropK_le, fun j x hj => ?_, .inr ⟨c, q1, h5.lt hc2, if_pos rfl, h5.get hc2⟩, a, _, rfl, fun h0 => ?_⟩
      · have hne : j ≠ c := by rintro rfl; rw [q2] at hj; cases hj
        rw [dropK_ne hne]
        exact hw2 j x (by rw [keep1_ne hne]; exact hj)
      · obtain ⟨c', e1, e2, e3⟩ := hbuf (List.length_pos_iff.2 h0)
        have hne : c' ≠ c := by rintro rfl; rw [keep1_same] at e3; cases e3
        exact ⟨c', some 7, true, [], e1, by rw [dropK_ne hne, e2, List.append_nil]; rfl⟩
  obtain ⟨oa', M4, hap, h6, ho6⟩ := outR_app hs hsx ho3 (nb := M3.size) (own := true) (x := (.slice a r.tests.length r.tests.length, r)) (Mem.get_push_same _ _) (by omega) hK3
  rw [hvl] at hap
  refine ⟨K3, M4, oa', .slice a r.tests.length r.tests.length, fun x => Lands.turn ?_, hw3, h6, ho6, ht3⟩
  refine Lands.via (markS_eq [4, 5, 6, 11] Tryd.prog kp 1 _ (Y.lpOf Tryd.prog kp 1 (callN Tryd.prog kp 1 o k) 52) (fun _ _ _ _ _ _ _ => rfl) 52 k (loopN Tryd.f7 0) (by kernel_rfl) _ M _) ?_
  refine Lands.via (t_OurA ..) ?_
  rw [lt_len hlt, nCondT]
  refine Lands.via (loop_reg _ _ _ (by kernel_rfl) _ _ _ _) ?_
  refine Lands.via (r7_4_eq ..) ?_
  refine Lands.via (opsF_cut 3 ..) ?_
  refine Lands.via (t_OurR ..) ?_
  rw [nOnNat, blt_t hlt, nCondT, gb, nCells, chunk_ble ruleC_len hlt, nCondT, chunk_sub ruleC_len hi]
  refine Lands.via (t_OurRS ..) ?_
  rw [Y.storeF_eq, hst, Y.ob_some]
  refine Lands.via (t_OurB ..) ?_
  refine Lands.via (loop_reg _ _ _ (by kernel_rfl) _ _ _ _) ?_
  refine Lands.via (r7_5_eq ..) ?_
  refine Lands.via (opsF_cut 4 ..) ?_
  refine Lands.via (t_Our5 ..) ?_
  rw [gx, nCells, show Y.nthL (ruleC (v, r)) 1 = some (.int .u32 r.verdict) from rfl, nElim, nAsInt, nKEq, nCondT]
  refine Lands.via (t_Our5S ..) ?_
  rw [Y.storeF_eq, hst2, Y.ob_some]
  refine Lands.via (t_OurC ..) ?_
  refine Lands.via (loop_reg _ _ _ (by kernel_rfl) _ _ _ _) ?_
  refine Lands.via (r7_6_eq ..) ?_
  refine Lands.via (t_Our6 ..) ?_
  rw [gx2, nCells, show Y.nthL (ruleC (v, r)) 0 = some v from rfl, nElim, hve, nAsSl]
  refine Lands.via (t_OurD ..) ?_
  refine Lands.via (mixL_loop _ _ (by kernel_rfl) _ _ _ _) ?_
  rw [Y.lpOf_eq, lc7]
  simp only [Int.ofNat_eq_natCast]
  refine Lands.loop (hloop _) fun x' => ?_
  refine Lands.via (t_OurE ..) ?_
  refine Lands.via (loop_reg _ _ _ (by kernel_rfl) _ _ _ _) ?_
  refine Lands.via (r7_11_eq ..) ?_
  refine Lands.via (opsF_cut 2 ..) ?_
  refine Lands.via (t_Our11 ..) ?_
  rw [gy, nCells, show Nat.ble 2 (Y.lenLF [Value.slice a r.tests.length r.tests.length, .int .u32 r.verdict]) = true from rfl, nCondT, show Y.subL [Value.slice a r.tests.length r.tests.length, .int .u32 r.verdict] 0 2 = [Value.slice a r.tests.length r.tests.length, .int .u32 r.verdict] from rfl]
  refine Lands.via (opsF_cut 1 ..) ?_
  refine Lands.via (t_Our11b ..) ?_
  rw [show List.drop 1 (List.drop 2 r7_11) = List.drop 3 r7_11 by rw [List.drop_drop]]
  refine Lands.via (t_Our11c ..) ?_
  rw [Y.appendF_eq, show appendD Tryd.prog (M3.push (.cells true [.slice a r.tests.length r.tests.length, .int .u32 r.verdict])) 25 25 (.slice oa i i) (.slice (some ⟨M3.size, 0, none⟩) 1 1) = _ from hap, nOnV]
  refine Lands.via (t_OurF ..) ?_
  rw [wrap_succL (by omega)]
  exact Lands.here _
theorem Our_loop {rest : List Value} {sr : List (Value × RuleT)} {own : Bool} {rb rc : Nat} {rp : Option Nat} (hk : ∀ x ∈ sr, x.2.tests.length + 80 ≤ k) (hsr : sr.length * 32 ≤ 140737488355328) (hn : ∀ x ∈ sr, x.2.tests.length * 56 ≤ 140737488355328) :
    ∀ (d i : Nat), sr.length = i + d → ∀ (jj : Nat) (K : Keep) (M : Mem) (vr : List (Value × RuleT)) (oa : Option Addr), d + 1 ≤ jj → K rb = some (.cells own (sr.flatMap ruleC ++ rest)) → (∀ x ∈ sr, tstsAt K x.1 x.2.tests) → (∀ x ∈ vr, tstsAt K x.1 x.2.tests) → vr.map (·.2) = (sr.take i).map (·.2) → Hp M K [] → OutR M K vr oa →
    ∃ K' M' oa' vr', (∀ x, Lands 52 [(3, .slice oa' sr.length sr.length), (9, .slice (some ⟨rb, 0, rp⟩) sr.length rc), (10, .int .i64 (sr.length : Int)), (11, .int .i64 (sr.length : Int))] (.exit 0) M' (loopD (codeD Tryd.prog kp 1 (callN Tryd.prog kp 1 o k) (drawD Tryd.prog kp 1 (callN Tryd.prog kp 1 o k) 52) 52 k (loopN Tryd.f7 0)) jj (fullN 52 (up x [(3, .slice oa i i), (9, .slice (some ⟨rb, 0, rp⟩) sr.length rc), (10, .int .i64 (sr.length : Int)), (11, .int .i64 (i : Int))])) M)) ∧ (∀ j x, K j = some x → K' j = some x) ∧ Hp M' K' [] ∧ OutR M' K' vr' oa' ∧ (∀ x ∈ vr', tstsAt K' x.1 x.2.tests) ∧ vr'.map (·.2) = sr.map (·.2)
  | 0, i, hi, jj, K, M, vr, oa, hjj, hrb, hv, hvr, hm, h, ho => by
    obtain ⟨jj, rfl⟩ : ∃ j', jj = j' + 1 := ⟨jj - 1, by omega⟩
    obtain rfl : i = sr.length := by omega
    refine ⟨K, M, oa, vr, fun x => Lands.stop (Lands.turn ?_) (by simp), fun _ _ h => h, h, ho, hvr, by rw [hm, List.take_length]⟩
    refine Lands.via (markS_eq [4, 5, 6, 11] Tryd.prog kp 1 _ (Y.lpOf Tryd.prog kp 1 (callN Tryd.prog kp 1 o k) 52) (fun _ _ _ _ _ _ _ => rfl) 52 k (loopN Tryd.f7 0) (by kernel_rfl) _ M _) ?_
    refine Lands.via (t_OurA ..) ?_
    rw [ge_len (by omega), nCondF]
    exact Lands.here _
  | d + 1, i, hi, jj, K, M, vr, oa, hjj, hrb, hv, hvr, hm, h, ho => by
    obtain ⟨jj, rfl⟩ : ∃ j', jj = j' + 1 := ⟨jj - 1, by omega⟩
    have hlt : i < sr.length := by omega
    obtain ⟨p, hp⟩ : ∃ p, sr[i]? = some p := ⟨_, List.getElem?_eq_getElem hlt⟩
    obtain ⟨v, r⟩ := p
    have hpm : (v, r) ∈ sr := List.mem_of_getElem? hp
    have hvl : vr.length = i := by
      have := congrArg List.length hm
      rw [List.length_map, List.length_map, List.length_take] at this
      omega
    obtain ⟨K1, M1, oa1, v1, h1, hw1, hp1, ho1, ht1⟩ := Our_turn (o := o) (k := k) (rc := rc) (rp := rp) (hk _ hpm) (hn _ hpm) (by omega) hrb hp (hv _ hpm) (fun y hy => (hvr y hy).slice) hvl h ho
    obtain ⟨K2, M2, oa2, vr2, h2, hw2, hp2, ho2, ht2, hm2⟩ := Our_loop (rc := rc) (rp := rp) hk hsr hn d (i + 1) (by omega) jj K1 M1 (vr ++ [(v1, r)]) oa1 (by omega) (hw1 _ _ hrb) (fun x hx => (hv x hx).mono hw1) (fun x hx => by
      rcases List.mem_append.1 hx with hx | hx
      · exact (hvr x hx).mono hw1
      · obtain rfl := List.mem_singleton.1 hx; exact ht1) (by rw [List.map_append, hm, List.take_add_one, hp, Option.toList_some, List.map_append]; rfl) hp1 ho1
    exact ⟨K2, M2, oa2, vr2, fun x => Lands.next (h1 x) h2, fun j x hj => hw2 j x (hw1 j x hj), hp2, ho2, ht2, hm2⟩
theorem ours_do {rs : List RuleT} {v : Value} (hO : Orq o) (hk : rs.length + 100 ≤ k) (hkt : ∀ r ∈ rs, r.tests.length + 100 ≤ k) (hl : rs.length * 32 ≤ 140737488355328) (hn : ∀ r ∈ rs, r.tests.length * 56 ≤ 140737488355328) (hv : rulesAt K v rs) (h : Hp M K []) :
    ∃ K' v' M', callN Tryd.prog kp 1 o k 7 [v] M = some (v', M') ∧ (∀ j x, K j = some x → K' j = some x) ∧ Hp M' K' [] ∧ rulesAt K' v' rs := by
  obtain ⟨k, rfl⟩ : ∃ k', k = k' + 1 := ⟨k - 1, by omega⟩
  obtain ⟨ra, rc, rfl, hv⟩ := hv
  obtain ⟨K1, M1, oa, vr, hloop, hw1, h1, ho1, ht1, hm1⟩ : ∃ K' M' oa' vr', (∀ x, Lands 52 [(3, .slice oa' rs.length rs.length), (9, .slice ra rs.length rc), (10, .int .i64 (rs.length : Int)), (11, .int .i64 (rs.length : Int))] (.exit 0) M' (loopD (codeD Tryd.prog kp 1 (callN Tryd.prog kp 1 o k) (drawD Tryd.prog kp 1 (callN Tryd.prog kp 1 o k) 52) 52 k (loopN Tryd.f7 0)) k (fullN 52 (up x [(3, .slice none 0 0), (9, .slice ra rs.length rc), (10, .int .i64 (rs.length : Int)), (11, .int .i64 (0 : Int))])) M)) ∧ (∀ j x, K j = some x → K' j = some x) ∧ Hp M' K' [] ∧ OutR M' K' vr' oa' ∧ (∀ x ∈ vr', tstsAt K' x.1 x.2.tests) ∧ vr'.map (·.2) = rs := by
    by_cases e : rs = []
    · subst e
      obtain ⟨k, rfl⟩ : ∃ k', k = k' + 1 := ⟨k - 1, by omega⟩
      exact ⟨K, M, none, [], fun x => Lands.stop (Lands.turn (Lands.via (t_OurA0 ..) (Lands.here _))) (by simp), fun _ _ h => h, h, .inl ⟨rfl, rfl⟩, fun x hx => by simp at hx, rfl⟩
    · obtain ⟨rb, rp, own, rest, sr, rfl, hrs, hrb, hvt⟩ := hv e
      have hl2 : rs.length = sr.length := by rw [← hrs, List.length_map]
      obtain ⟨K', M', oa', vr', q1, q2, q3, q4, q5, q6⟩ := Our_loop (o := o) (k := k) (rc := rc) (rp := rp) (fun x hx => by have := hkt _ (by rw [← hrs]; exact List.mem_map.2 ⟨x, hx, rfl⟩); omega) (by omega) (fun x hx => hn _ (by rw [← hrs]; exact List.mem_map.2 ⟨x, hx, rfl⟩)) sr.length 0 (by omega) k K M [] none (by omega) hrb hvt (fun x hx => by simp at hx) (by simp) h (.inl ⟨rfl, rfl⟩)
      rw [hl2]
      exact ⟨K', M', oa', vr', q1, q2, q3, q4, q5, q6.trans hrs⟩
  have hvl : vr.length = rs.length := by rw [← hm1, List.length_map]
  have hrun : callN Tryd.prog kp 1 o (k + 1) 7 [.slice ra rs.length rc] M = some (.slice oa rs.length rs.length, M1) := by
    refine call_of 52 (hO.off 7 (by decide) _ _) at7 bd7 n7 ?_ okSl7
    refine Eq.trans (t_Our_in ..) ?_
    rw [Y.lpOf_eq, Y.loopC_body]
    simp only [Int.ofNat_eq_natCast]
    refine onE_land (hloop _) fun x' => ?_
    exact t_Our_out ..
  rcases ho1 with ⟨q1, q2⟩ | ⟨c, q1, q2, q3, q4⟩
  · have e : rs = [] := by rw [← hm1, q1]; rfl
    exact ⟨K1, _, M1, hrun, hw1, h1, oa, _, rfl, fun hne => absurd e hne⟩
  · have hlearn := Hp.learn h1 q2 q4 q3
    refine ⟨keep1 K1 c (.cells true (vr.flatMap ruleC)), _, M1, hrun, fun j x hj => hlearn.2 _ _ (hw1 j x hj), hlearn.1, oa, _, rfl, fun hne => ⟨c, some 2, true, [], vr, q1, hm1, by rw [keep1_same, List.append_nil], fun x hx => (ht1 x hx).mono hlearn.2⟩⟩
end
end
end Go.Proofs.YtadioopbehiakaaDoor
namespace Go.Proofs.YtadioopbehiakaaDoor
open Go Go.DI Go.DI.Kit Go.Proofs Go.Cmp
noncomputable section
set_option maxHeartbeats 4000000
variable {α : Type} (x : Nat → Value) (cf : Y.CF α) (L : Y.LK α) (k : Nat) (m : Mem)
def c3 : Code := markS [6, 7, 25] (bodyOf Tryd.f3)
def r3_6 : List Oper := regOps 6 (bodyOf Tryd.f3)
def r3_7 : List Oper := regOps 7 (bodyOf Tryd.f3)
def r3_25 : List Oper := regOps 25 (bodyOf Tryd.f3)
def c3a : Code := markS [15, 17] (calm [15] (loopN Tryd.f3 0))
def r3_15 : List Oper := regOps 15 (bodyOf Tryd.f3)
def r3_17 : List Oper := regOps 17 (bodyOf Tryd.f3)
def c3b : Code := markS [21, 22] (calm [22] (loopN Tryd.f3 1))
def r3_21 : List Oper := regOps 21 (bodyOf Tryd.f3)
def r3_22 : List Oper := regOps 22 (bodyOf Tryd.f3)
def c3d : Code := markS [29] (calm [29] (loopN Tryd.f3 2))
def r3_29 : List Oper := regOps 29 (bodyOf Tryd.f3)
theorem t_Cc_in (ra : Option Addr) (rn rc : Nat) (q : Value → Mem → Option α) : Y.codeF c3 Tryd.prog kp 1 (Y.cfT Tryd.prog cf) L 160 k (fullN 160 (argX [.slice ra rn rc])) m (Y.retF Tryd.prog Tryd.f3 q) =
  (cf 5 [] m (fun v_9 m'_10=>(Y.asBo v_9 (fun b_11=>(cond b_11 (cf 6 [(.slice ra rn rc)] m'_10 (fun v_12 m'_13=>(Y.asBo v_12 (fun b_14=>(cond b_14 (q (.bool true) m'_13) (cf 7 [(.slice ra rn rc)] m'_13 (fun v_15 m'_16=>(Y.asSl v_15 (fun a_17 n_18 c_19=>(L (Y.codeF (Y.loopC c3 0) Tryd.prog kp 1 (Y.cfT Tryd.prog cf) L 160 k) (Y.loopC c3 0) k (fullN 160 (up (up Go.DI.x0 [(20,(.slice ra rn rc)),(2,(.bool false)),(18,(.bool true)),(22,(.slice ra rn rc)),(21,(.bool false)),(19,(.bool false)),(23,(.slice a_17 n_18 c_19))]) [(0,(.slice ra rn rc)),(3,(.slice a_17 n_18 c_19))])) m'_16 (Y.kont Tryd.prog kp 1 (Y.cfT Tryd.prog cf) L 160 k c3 0 (Y.retF Tryd.prog Tryd.f3 q)))) none))))) none))) (q (.bool false) m'_10))) none))):=by kernel_rfl
theorem t_Cc6 (ra wa : Option Addr) (rn rc wn wc : Nat) (q : Tmps → Mem → Option α) : Y.opsF (List.take 6 r3_6) Tryd.prog kp 1 (Y.cfT Tryd.prog cf) 160 r3_6 (fullN 160 (up x [(0,.slice ra rn rc),(3,.slice wa wn wc)])) m q =
  (cf 8 [(.slice wa wn wc)] m (fun v_11 m'_12=>(Y.asTup v_11 (fun cs_13=>(Y.unc (Array.toList cs_13) (fun a l=>(Y.asAgg a (fun cs_17=>(Y.unc l (fun a_6 l_7=>(Y.asInt a_6 (fun k'_21 n_22=>(cond (Y.kEq .i64 k'_21) (Y.unc l_7 (fun a_10 l_11=>none) (q (fullN 160 (up (up x [(24,(.tuple ⟨[(.agg cs_17),(.int .i64 n_22)]⟩)),(26,(.tuple ⟨[(.agg cs_17),(.int .i64 n_22)]⟩)),(25,(.slice wa wn wc))]) [(0,(.slice ra rn rc)),(3,(.slice wa wn wc)),(4,(.pointer (some (Addr.mk (Mem.size m'_12) 0 none)))),(27,(.agg cs_17)),(28,(.int .i64 n_22))])) (Mem.push m'_12 (.cells true [(.slice none 0 0),(.slice none 0 0)])))) none)) none)) none)) none)) none))))):=by kernel_rfl
theorem t_CcB (ab : Nat) (e : Int) (ra wa : Option Addr) (rn rc wn wc : Nat) (q : Value → Mem → Option α) : Y.kont Tryd.prog kp 1 (Y.cfT Tryd.prog cf) L 160 k c3 0 (Y.retF Tryd.prog Tryd.f3 q) .normal (fullN 160 (up x [(0,.slice ra rn rc),(3,.slice wa wn wc),(4,.pointer (some ⟨ab,0,none⟩)),(5,.int .i64 e)])) m =
  (L (Y.codeF (Y.loopC c3 1) Tryd.prog kp 1 (Y.cfT Tryd.prog cf) L 160 k) (Y.loopC c3 1) k (fullN 160 (up x [(0,(.slice ra rn rc)),(3,(.slice wa wn wc)),(4,(.pointer (some (Addr.mk ab 0 none)))),(5,(.int .i64 e))])) m (Y.kont Tryd.prog kp 1 (Y.cfT Tryd.prog cf) L 160 k c3 1 (Y.retF Tryd.prog Tryd.f3 q))):=by kernel_rfl
theorem t_Cc7 (ab : Nat) (e : Int) (ra wa : Option Addr) (rn rc wn wc : Nat) (q : Tmps → Mem → Option α) : Y.opsF (List.take 6 r3_7) Tryd.prog kp 1 (Y.cfT Tryd.prog cf) 160 r3_7 (fullN 160 (up x [(0,.slice ra rn rc),(3,.slice wa wn wc),(4,.pointer (some ⟨ab,0,none⟩)),(5,.int .i64 e)])) m q =
  (cf 9 [(.slice ra rn rc)] m (fun v_13 m'_14=>(Y.asTup v_13 (fun cs_15=>(Y.unc (Array.toList cs_15) (fun a l=>(Y.asAgg a (fun cs_19=>(Y.unc l (fun a_6 l_7=>(Y.asInt a_6 (fun k'_23 n_24=>(cond (Y.kEq .i64 k'_23) (Y.unc l_7 (fun a_10 l_11=>none) (q (fullN 160 (up (up x [(30,(.slice ra rn rc)),(29,(.tuple ⟨[(.agg cs_19),(.int .i64 n_24)]⟩)),(31,(.tuple ⟨[(.agg cs_19),(.int .i64 n_24)]⟩))]) [(0,(.slice ra rn rc)),(3,(.slice wa wn wc)),(4,(.pointer (some (Addr.mk ab 0 none)))),(5,(.int .i64 e)),(6,(.pointer (some (Addr.mk (Mem.size m'_14) 0 none)))),(32,(.agg cs_19)),(33,(.int .i64 n_24))])) (Mem.push m'_14 (.cells true [(.slice none 0 0),(.slice none 0 0)])))) none)) none)) none)) none)) none))))):=by kernel_rfl
theorem t_CcC (bb : Nat) (f : Int) (ab : Nat) (e : Int) (ra wa : Option Addr) (rn rc wn wc : Nat) (q : Value → Mem → Option α) : Y.kont Tryd.prog kp 1 (Y.cfT Tryd.prog cf) L 160 k c3 1 (Y.retF Tryd.prog Tryd.f3 q) .normal (fullN 160 (up x [(0,.slice ra rn rc),(3,.slice wa wn wc),(4,.pointer (some ⟨ab,0,none⟩)),(5,.int .i64 e),(6,.pointer (some ⟨bb,0,none⟩)),(7,.int .i64 f)])) m =
  (cf 10 [(.slice wa wn wc)] m (fun v_17 m'_18=>(Y.asTup v_17 (fun cs_19=>(Y.unc (Array.toList cs_19) (fun a l=>(Y.asInt a (fun k'_23 n_24=>(cond (Y.kEq .i64 k'_23) (Y.unc l (fun a_7 l_8=>(Y.asInt a_7 (fun k'_28 n_29=>(cond (Y.kEq .i64 k'_28) (Y.unc l_8 (fun a_11 l_12=>none) (cf 11 [(.slice ra rn rc)] m'_18 (fun v_30 m'_31=>(Y.asTup v_30 (fun cs_32=>(Y.unc (Array.toList cs_32) (fun a_14 l_15=>(Y.asInt a_14 (fun k'_36 n_37=>(cond (Y.kEq .i64 k'_36) (Y.unc l_15 (fun a_18 l_19=>(Y.asInt a_18 (fun k'_41 n_42=>(cond (Y.kEq .i64 k'_41) (Y.unc l_19 (fun a_22 l_23=>none) (cond (cond (Y.eqF e f) false true) (q (.bool false) m'_31) (Y.cellsOf (Mem.get m'_31 ab) (fun _ c_44=>(Option.elim (Y.nthL c_44 0) none (fun o45=>(Y.asSl o45 (fun a_46 n_47 c_48=>(Y.cellsOf (Mem.get m'_31 bb) (fun _ c_50=>(Option.elim (Y.nthL c_50 0) none (fun o51=>(Y.asSl o51 (fun a_52 n_53 c_54=>(cond (cond (Y.eqF (Int.ofNat n_47) (Int.ofNat n_53)) false true) (q (.bool false) m'_31) (Y.cellsOf (Mem.get m'_31 ab) (fun _ c_56=>(Option.elim (Y.nthL c_56 1) none (fun o57=>(Y.asSl o57 (fun a_58 n_59 c_60=>(Y.cellsOf (Mem.get m'_31 bb) (fun _ c_62=>(Option.elim (Y.nthL c_62 1) none (fun o63=>(Y.asSl o63 (fun a_64 n_65 c_66=>(cond (cond (Y.eqF (Int.ofNat n_59) (Int.ofNat n_65)) false true) (q (.bool false) m'_31) (cond (cond (Y.eqF n_24 n_37) false true) (q (.bool false) m'_31) (cond (cond (Y.eqF n_29 n_42) false true) (q (.bool false) m'_31) (Y.cellsOf (Mem.get m'_31 ab) (fun _ c_68=>(Option.elim (Y.nthL c_68 1) none (fun o69=>(Y.asSl o69 (fun a_70 n_71 c_72=>(L (Y.codeF (Y.loopC c3 2) Tryd.prog kp 1 (Y.cfT Tryd.prog cf) L 160 k) (Y.loopC c3 2) k (fullN 160 (up (up x [(64,(.bool false)),(48,(.pointer (some (Addr.mk ab 0 none)))),(8,(.int .i64 n_24)),(72,(.int .i64 n_42)),(40,(.slice ra rn rc)),(56,(.bool false)),(68,(.bool false)),(36,(.tuple ⟨[(.int .i64 n_24),(.int .i64 n_29)]⟩)),(52,(.slice a_52 n_53 c_54)),(44,(.int .i64 e)),(60,(.pointer (some (Addr.mk bb 1 none)))),(66,(.int .i64 n_24)),(34,(.tuple ⟨[(.int .i64 n_24),(.int .i64 n_29)]⟩)),(50,(.int .i64 (Int.ofNat n_47))),(10,(.int .i64 n_37)),(74,(.bool false)),(42,(.int .i64 n_37)),(58,(.slice a_58 n_59 c_60)),(70,(.bool false)),(38,(.int .i64 n_29)),(54,(.bool false)),(46,(.bool false)),(62,(.int .i64 (Int.ofNat n_65))),(65,(.bool false)),(49,(.slice a_46 n_47 c_48)),(9,(.int .i64 n_29)),(73,(.bool false)),(41,(.tuple ⟨[(.int .i64 n_37),(.int .i64 n_42)]⟩)),(57,(.pointer (some (Addr.mk ab 1 none)))),(5,(.int .i64 e)),(69,(.bool false)),(37,(.int .i64 n_24)),(53,(.int .i64 (Int.ofNat n_53))),(45,(.int .i64 f)),(61,(.slice a_64 n_65 c_66)),(67,(.int .i64 n_37)),(35,(.slice wa wn wc)),(51,(.pointer (some (Addr.mk bb 0 none)))),(11,(.int .i64 n_42)),(75,(.pointer (some (Addr.mk ab 1 none)))),(43,(.int .i64 n_42)),(59,(.int .i64 (Int.ofNat n_59))),(7,(.int .i64 f)),(71,(.int .i64 n_29)),(39,(.tuple ⟨[(.int .i64 n_37),(.int .i64 n_42)]⟩)),(55,(.bool false)),(47,(.bool false)),(63,(.bool false))]) [(0,(.slice ra rn rc)),(3,(.slice wa wn wc)),(4,(.pointer (some (Addr.mk ab 0 none)))),(6,(.pointer (some (Addr.mk bb 0 none)))),(76,(.slice a_70 n_71 c_72)),(77,(.int .i64 (Int.ofNat n_71))),(78,(.int .i64 (0:Int)))])) m'_31 (Y.kont Tryd.prog kp 1 (Y.cfT Tryd.prog cf) L 160 k c3 2 (Y.retF Tryd.prog Tryd.f3 q)))) none))))))))) none)))))) none))))))) none)))))) none))))))) none)) none)) none) none)) none)) none)))))) none)) none)) none) none)) none)) none))))):=by kernel_rfl
theorem t_CcD (ab bb : Nat) (ca : Option Addr) (cn cc : Nat) (i : Int) (ra wa : Option Addr) (rn rc wn wc : Nat) (q : Value → Mem → Option α) : Y.kont Tryd.prog kp 1 (Y.cfT Tryd.prog cf) L 160 k c3 2 (Y.retF Tryd.prog Tryd.f3 q) (.exit 0) (fullN 160 (up x [(0,.slice ra rn rc),(3,.slice wa wn wc),(4,.pointer (some ⟨ab,0,none⟩)),(6,.pointer (some ⟨bb,0,none⟩)),(76,.slice ca cn cc),(77,.int .i64 cn),(78,.int .i64 i)])) m =
  (L (Y.codeF (Y.loopC c3 3) Tryd.prog kp 1 (Y.cfT Tryd.prog cf) L 160 k) (Y.loopC c3 3) k (fullN 160 (up (up x [(4,(.pointer (some (Addr.mk ab 0 none)))),(76,(.slice ca cn cc)),(78,(.int .i64 i)),(77,(.int .i64 (Int.ofNat cn)))]) [(0,(.slice ra rn rc)),(3,(.slice wa wn wc)),(6,(.pointer (some (Addr.mk bb 0 none)))),(102,(.slice wa wn wc)),(103,(.int .i64 (Int.ofNat wn))),(104,(.int .i64 (0:Int)))])) m (Y.kont Tryd.prog kp 1 (Y.cfT Tryd.prog cf) L 160 k c3 3 (Y.retF Tryd.prog Tryd.f3 q))):=by kernel_rfl
theorem t_CcE (bb : Nat) (i : Int) (ra wa : Option Addr) (rn rc wn wc : Nat) (q : Value → Mem → Option α) : Y.kont Tryd.prog kp 1 (Y.cfT Tryd.prog cf) L 160 k c3 3 (Y.retF Tryd.prog Tryd.f3 q) (.exit 2) (fullN 160 (up x [(0,.slice ra rn rc),(3,.slice wa wn wc),(6,.pointer (some ⟨bb,0,none⟩)),(102,.slice wa wn wc),(103,.int .i64 wn),(104,.int .i64 i)])) m =
  (L (Y.codeF (Y.loopC c3 4) Tryd.prog kp 1 (Y.cfT Tryd.prog cf) L 160 k) (Y.loopC c3 4) k (fullN 160 (up (up x [(0,(.slice ra rn rc)),(104,(.int .i64 i)),(102,(.slice wa wn wc)),(103,(.int .i64 (Int.ofNat wn)))]) [(3,(.slice wa wn wc)),(6,(.pointer (some (Addr.mk bb 0 none))))])) m (Y.kont Tryd.prog kp 1 (Y.cfT Tryd.prog cf) L 160 k c3 4 (Y.retF Tryd.prog Tryd.f3 q))):=by kernel_rfl
theorem t_Cc25 (bb : Nat) (wa : Option Addr) (wn wc : Nat) (q : Tmps → Mem → Option α) : Y.opsF (List.take 6 r3_25) Tryd.prog kp 1 (Y.cfT Tryd.prog cf) 160 r3_25 (fullN 160 (up x [(3,.slice wa wn wc),(6,.pointer (some ⟨bb,0,none⟩))])) m q =
  (cf 8 [(.slice wa wn wc)] m (fun v_9 m'_10=>(Y.asTup v_9 (fun cs_11=>(Y.unc (Array.toList cs_11) (fun a l=>(Y.asAgg a (fun cs_15=>(Y.unc l (fun a_6 l_7=>(Y.asInt a_6 (fun k'_19 n_20=>(cond (Y.kEq .i64 k'_19) (Y.unc l_7 (fun a_10 l_11=>none) (q (fullN 160 (up (up x [(132,(.tuple ⟨[(.agg cs_15),(.int .i64 n_20)]⟩)),(130,(.tuple ⟨[(.agg cs_15),(.int .i64 n_20)]⟩)),(3,(.slice wa wn wc)),(131,(.slice wa wn wc))]) [(6,(.pointer (some (Addr.mk bb 0 none)))),(15,(.pointer (some (Addr.mk (Mem.size m'_10) 0 none)))),(133,(.agg cs_15)),(134,(.int .i64 n_20))])) (Mem.push m'_10 (.cells true [(.slice none 0 0),(.slice none 0 0)])))) none)) none)) none)) none)) none))))):=by kernel_rfl
theorem t_CcF (bb db : Nat) (q : Value → Mem → Option α) : Y.kont Tryd.prog kp 1 (Y.cfT Tryd.prog cf) L 160 k c3 4 (Y.retF Tryd.prog Tryd.f3 q) .normal (fullN 160 (up x [(6,.pointer (some ⟨bb,0,none⟩)),(15,.pointer (some ⟨db,0,none⟩))])) m =
  (Y.cellsOf (Mem.get m db) (fun _ c_10=>(Option.elim (Y.nthL c_10 1) none (fun o11=>(Y.asSl o11 (fun a_12 n_13 c_14=>(L (Y.codeF (Y.loopC c3 5) Tryd.prog kp 1 (Y.cfT Tryd.prog cf) L 160 k) (Y.loopC c3 5) k (fullN 160 (up (up x [(135,(.pointer (some (Addr.mk db 1 none))))]) [(6,(.pointer (some (Addr.mk bb 0 none)))),(15,(.pointer (some (Addr.mk db 0 none)))),(136,(.slice a_12 n_13 c_14)),(137,(.int .i64 (Int.ofNat n_13))),(138,(.int .i64 (0:Int)))])) m (Y.kont Tryd.prog kp 1 (Y.cfT Tryd.prog cf) L 160 k c3 5 (Y.retF Tryd.prog Tryd.f3 q)))) none))))):=by kernel_rfl
theorem t_CcG (bb db : Nat) (ca : Option Addr) (cn cc : Nat) (i : Int) (q : Value → Mem → Option α) : Y.kont Tryd.prog kp 1 (Y.cfT Tryd.prog cf) L 160 k c3 5 (Y.retF Tryd.prog Tryd.f3 q) (.exit 4) (fullN 160 (up x [(6,.pointer (some ⟨bb,0,none⟩)),(15,.pointer (some ⟨db,0,none⟩)),(136,.slice ca cn cc),(137,.int .i64 cn),(138,.int .i64 i)])) m =
  (Y.cellsOf (Mem.get m db) (fun _ c_14=>(Option.elim (Y.nthL c_14 1) none (fun o15=>(Y.asSl o15 (fun a_16 n_17 c_18=>(Y.cellsOf (Mem.get m bb) (fun _ c_20=>(Option.elim (Y.nthL c_20 1) none (fun o21=>(Y.asSl o21 (fun a_22 n_23 c_24=>(cond (Y.eqF (Int.ofNat n_17) (Int.ofNat n_23)) (q (.bool true) m) (q (.bool false) m))) none)))))) none))))):=by kernel_rfl
theorem t_C0A (ab bb : Nat) (ca : Option Addr) (cn cc : Nat) (i : Int) (ra wa : Option Addr) (rn rc wn wc : Nat) (q : Y.ExK α) : Y.codeF c3a Tryd.prog kp 1 (Y.cfT Tryd.prog cf) L 160 k (fullN 160 (up x [(0,.slice ra rn rc),(3,.slice wa wn wc),(4,.pointer (some ⟨ab,0,none⟩)),(6,.pointer (some ⟨bb,0,none⟩)),(76,.slice ca cn cc),(77,.int .i64 cn),(78,.int .i64 i)])) m q =
  (cond (Y.ltF i (Int.ofNat cn)) (L (Y.codeF (Y.loopC c3a 0) Tryd.prog kp 1 (Y.cfT Tryd.prog cf) L 160 k) (Y.loopC c3a 0) k (fullN 160 (up (up x [(80,(.int .i64 i)),(79,(.bool true))]) [(0,(.slice ra rn rc)),(3,(.slice wa wn wc)),(4,(.pointer (some (Addr.mk ab 0 none)))),(6,(.pointer (some (Addr.mk bb 0 none)))),(12,(.int .i64 i)),(76,(.slice ca cn cc)),(77,(.int .i64 (Int.ofNat cn))),(78,(.int .i64 i))])) m (Y.kont Tryd.prog kp 1 (Y.cfT Tryd.prog cf) L 160 k c3a 0 q)) (q (Ex.exit 0) (fullN 160 (up (up x [(79,(.bool false))]) [(0,(.slice ra rn rc)),(3,(.slice wa wn wc)),(4,(.pointer (some (Addr.mk ab 0 none)))),(6,(.pointer (some (Addr.mk bb 0 none)))),(12,(x 12)),(76,(.slice ca cn cc)),(77,(.int .i64 (Int.ofNat cn))),(78,(.int .i64 i))])) m)):=by kernel_rfl
theorem t_C0R (ab bb : Nat) (ca : Option Addr) (cn cc : Nat) (i : Int) (ra wa : Option Addr) (rn rc wn wc : Nat) (q : Tmps → Mem → Option α) : Y.opsF (List.take 10 r3_15) Tryd.prog kp 1 (Y.cfT Tryd.prog cf) 160 r3_15 (fullN 160 (up x [(0,.slice ra rn rc),(3,.slice wa wn wc),(4,.pointer (some ⟨ab,0,none⟩)),(6,.pointer (some ⟨bb,0,none⟩)),(12,.int .i64 i),(76,.slice ca cn cc),(77,.int .i64 cn),(78,.int .i64 i)])) m q =
  (Y.cellsOf (Mem.get m ab) (fun _ c_18=>(Option.elim (Y.nthL c_18 1) none (fun o19=>(Y.asSl o19 (fun a_20 n_21 c_22=>(Option.elim a_20 none (fun o23=>(Y.onNat i (fun i_24=>(cond (Nat.blt i_24 n_21) (Y.cellsOf (Mem.get m o23.1) (fun _ c_26=>(cond (Nat.ble (Nat.add (Nat.add o23.2 (Nat.mul i_24 5)) 5) (Y.lenLF c_26)) (Y.cellsOf (Mem.get m bb) (fun _ c_28=>(Option.elim (Y.nthL c_28 1) none (fun o29=>(Y.asSl o29 (fun a_30 n_31 c_32=>(Option.elim a_30 none (fun o33=>(Y.onNat i (fun i_34=>(cond (Nat.blt i_34 n_31) (Y.cellsOf (Mem.get m o33.1) (fun _ c_36=>(cond (Nat.ble (Nat.add (Nat.add o33.2 (Nat.mul i_34 5)) 5) (Y.lenLF c_36)) (q (fullN 160 (up (up x [(88,(.int .i64 i)),(84,(.pointer (some (Addr.mk o23.1 (Nat.add o23.2 (Nat.mul i_24 5)) none)))),(82,(.slice a_20 n_21 c_22)),(86,(.pointer (some (Addr.mk bb 1 none)))),(81,(.pointer (some (Addr.mk ab 1 none)))),(89,(.pointer (some (Addr.mk o33.1 (Nat.add o33.2 (Nat.mul i_34 5)) none)))),(83,(.int .i64 i)),(87,(.slice a_30 n_31 c_32))]) [(0,(.slice ra rn rc)),(3,(.slice wa wn wc)),(4,(.pointer (some (Addr.mk ab 0 none)))),(6,(.pointer (some (Addr.mk bb 0 none)))),(12,(.int .i64 i)),(76,(.slice ca cn cc)),(77,(.int .i64 (Int.ofNat cn))),(78,(.int .i64 i)),(85,(.agg ⟨(Y.subL c_26 (Nat.add o23.2 (Nat.mul i_24 5)) 5)⟩)),(90,(.agg ⟨(Y.subL c_36 (Nat.add o33.2 (Nat.mul i_34 5)) 5)⟩))])) m) none))) none)))))) none))))) none))) none)))))) none))))):=by kernel_rfl
theorem t_C0N (ab bb : Nat) (ca : Option Addr) (cn cc : Nat) (i : Int) (ra wa : Option Addr) (rn rc wn wc : Nat) (o1 d1 s1 f1 m1 o2 d2 s2 f2 m2 : Int) (q : Tmps → Mem → Option α) : Y.opsF (List.take 1 (List.drop 10 r3_15)) Tryd.prog kp 1 (Y.cfT Tryd.prog cf) 160 r3_15 (fullN 160 (up x [(0,.slice ra rn rc),(3,.slice wa wn wc),(4,.pointer (some ⟨ab,0,none⟩)),(6,.pointer (some ⟨bb,0,none⟩)),(12,.int .i64 i),(76,.slice ca cn cc),(77,.int .i64 cn),(78,.int .i64 i),(85,.agg ⟨[.int .u8 o1,.int .u8 d1,.int .u8 s1,.int .i16 f1,.int .i32 m1]⟩),(90,.agg ⟨[.int .u8 o2,.int .u8 d2,.int .u8 s2,.int .i16 f2,.int .i32 m2]⟩)])) m q =
  (Option.elim (feq Tryd.prog kp 100 42 (.agg ⟨[(.int .u8 o1),(.int .u8 d1),(.int .u8 s1),(.int Go.IntKind.i16 f1),(.int Go.IntKind.i32 m1)]⟩) (.agg ⟨[(.int .u8 o2),(.int .u8 d2),(.int .u8 s2),(.int Go.IntKind.i16 f2),(.int Go.IntKind.i32 m2)]⟩)) none (fun o27=>(cond (cond o27 false true) (q (fullN 160 (up (up x [(90,(.agg ⟨[(.int .u8 o2),(.int .u8 d2),(.int .u8 s2),(.int Go.IntKind.i16 f2),(.int Go.IntKind.i32 m2)]⟩)),(85,(.agg ⟨[(.int .u8 o1),(.int .u8 d1),(.int .u8 s1),(.int Go.IntKind.i16 f1),(.int Go.IntKind.i32 m1)]⟩))]) [(0,(.slice ra rn rc)),(3,(.slice wa wn wc)),(4,(.pointer (some (Addr.mk ab 0 none)))),(6,(.pointer (some (Addr.mk bb 0 none)))),(12,(.int .i64 i)),(76,(.slice ca cn cc)),(77,(.int .i64 (Int.ofNat cn))),(78,(.int .i64 i)),(91,(.bool true))])) m) (q (fullN 160 (up (up x [(90,(.agg ⟨[(.int .u8 o2),(.int .u8 d2),(.int .u8 s2),(.int Go.IntKind.i16 f2),(.int Go.IntKind.i32 m2)]⟩)),(85,(.agg ⟨[(.int .u8 o1),(.int .u8 d1),(.int .u8 s1),(.int Go.IntKind.i16 f1),(.int Go.IntKind.i32 m1)]⟩))]) [(0,(.slice ra rn rc)),(3,(.slice wa wn wc)),(4,(.pointer (some (Addr.mk ab 0 none)))),(6,(.pointer (some (Addr.mk bb 0 none)))),(12,(.int .i64 i)),(76,(.slice ca cn cc)),(77,(.int .i64 (Int.ofNat cn))),(78,(.int .i64 i)),(91,(.bool false))])) m)))):=by kernel_rfl
theorem t_C0B (ab bb : Nat) (ca : Option Addr) (cn cc : Nat) (i : Int) (ra wa : Option Addr) (rn rc wn wc : Nat) (bo : Bool) (q : Y.ExK α) : Y.kont Tryd.prog kp 1 (Y.cfT Tryd.prog cf) L 160 k c3a 0 q .normal (fullN 160 (up x [(0,.slice ra rn rc),(3,.slice wa wn wc),(4,.pointer (some ⟨ab,0,none⟩)),(6,.pointer (some ⟨bb,0,none⟩)),(12,.int .i64 i),(76,.slice ca cn cc),(77,.int .i64 cn),(78,.int .i64 i),(91,.bool bo)])) m =
  (cond bo (q .ret (fullN 160 (up (up x [(2,(.bool false)),(91,(.bool bo))]) [(0,(.slice ra rn rc)),(3,(.slice wa wn wc)),(4,(.pointer (some (Addr.mk ab 0 none)))),(6,(.pointer (some (Addr.mk bb 0 none)))),(12,(.int .i64 i)),(76,(.slice ca cn cc)),(77,(.int .i64 (Int.ofNat cn))),(78,(.int .i64 i))])) m) (L (Y.codeF (Y.loopC c3a 1) Tryd.prog kp 1 (Y.cfT Tryd.prog cf) L 160 k) (Y.loopC c3a 1) k (fullN 160 (up (up x [(91,(.bool bo))]) [(0,(.slice ra rn rc)),(3,(.slice wa wn wc)),(4,(.pointer (some (Addr.mk ab 0 none)))),(6,(.pointer (some (Addr.mk bb 0 none)))),(12,(.int .i64 i)),(76,(.slice ca cn cc)),(77,(.int .i64 (Int.ofNat cn))),(78,(.int .i64 i))])) m (Y.kont Tryd.prog kp 1 (Y.cfT Tryd.prog cf) L 160 k c3a 1 q))):=by kernel_rfl
theorem t_C0X (ab bb : Nat) (ca : Option Addr) (cn cc : Nat) (i : Int) (ra wa : Option Addr) (rn rc wn wc : Nat) (q : Tmps → Mem → Option α) : Y.opsF (List.take 9 r3_17) Tryd.prog kp 1 (Y.cfT Tryd.prog cf) 160 r3_17 (fullN 160 (up x [(0,.slice ra rn rc),(3,.slice wa wn wc),(4,.pointer (some ⟨ab,0,none⟩)),(6,.pointer (some ⟨bb,0,none⟩)),(12,.int .i64 i),(76,.slice ca cn cc),(77,.int .i64 cn),(78,.int .i64 i)])) m q =
  (Y.cellsOf (Mem.get m ab) (fun _ c_18=>(Option.elim (Y.nthL c_18 1) none (fun o19=>(Y.asSl o19 (fun a_20 n_21 c_22=>(Option.elim a_20 none (fun o23=>(Y.onNat i (fun i_24=>(cond (Nat.blt i_24 n_21) (Y.cellsOf (Mem.get m o23.1) (fun _ c_26=>(Option.elim (Y.nthL c_26 (Nat.add (Nat.add o23.2 (Nat.mul i_24 5)) 4)) none (fun o27=>(Y.asInt o27 (fun k'_28 n_29=>(cond (Y.kEq Go.IntKind.i32 k'_28) (Option.elim a_20 none (fun o30=>(Y.onNat i (fun i_31=>(cond (Nat.blt i_31 n_21) (q (fullN 160 (up (up x [(96,(.pointer (some (Addr.mk o23.1 (Nat.add (Nat.add o23.2 (Nat.mul i_24 5)) 4) none)))),(12,(.int .i64 i)),(92,(.pointer (some (Addr.mk ab 1 none)))),(94,(.int .i64 i)),(97,(.int Go.IntKind.i32 n_29)),(93,(.slice a_20 n_21 c_22)),(99,(.pointer (some (Addr.mk o30.1 (Nat.add o30.2 (Nat.mul i_31 5)) none)))),(95,(.pointer (some (Addr.mk o23.1 (Nat.add o23.2 (Nat.mul i_24 5)) none))))]) [(0,(.slice ra rn rc)),(3,(.slice wa wn wc)),(4,(.pointer (some (Addr.mk ab 0 none)))),(6,(.pointer (some (Addr.mk bb 0 none)))),(76,(.slice ca cn cc)),(77,(.int .i64 (Int.ofNat cn))),(78,(.int .i64 i)),(98,(.int Go.IntKind.i32 (IntKind.wrap Go.IntKind.i32 (Int.ofNat (BitVec.toNat (HXor.hXor (BitVec.ofInt (IntKind.bits Go.IntKind.i32) n_29) (BitVec.ofInt (IntKind.bits Go.IntKind.i32) (OfNat.ofNat 1)))))))),(100,(.pointer (some (Addr.mk o30.1 (Nat.add (Nat.add o30.2 (Nat.mul i_31 5)) 4) none))))])) m) none))))) none)) none))))) none)))))) none))))):=by kernel_rfl
theorem t_C0C (ab bb : Nat) (ca : Option Addr) (cn cc : Nat) (i : Int) (ra wa : Option Addr) (rn rc wn wc : Nat) (q : Y.ExK α) : Y.kont Tryd.prog kp 1 (Y.cfT Tryd.prog cf) L 160 k c3a 1 q .normal (fullN 160 (up x [(0,.slice ra rn rc),(3,.slice wa wn wc),(4,.pointer (some ⟨ab,0,none⟩)),(6,.pointer (some ⟨bb,0,none⟩)),(76,.slice ca cn cc),(77,.int .i64 cn),(78,.int .i64 i)])) m =
  (q .normal (fullN 160 (up (up x [(101,(.int .i64 (IntKind.wrap .i64 (Int.add i (1:Int)))))]) [(0,(.slice ra rn rc)),(3,(.slice wa wn wc)),(4,(.pointer (some (Addr.mk ab 0 none)))),(6,(.pointer (some (Addr.mk bb 0 none)))),(76,(.slice ca cn cc)),(77,(.int .i64 (Int.ofNat cn))),(78,(.int .i64 (IntKind.wrap .i64 (Int.add i (1:Int)))))])) m):=by kernel_rfl
theorem t_C2A (bb rb wb : Nat) (rp wp : Option Nat) (rn rc wn wc : Nat) (i : Int) (q : Y.ExK α) : Y.codeF c3b Tryd.prog kp 1 (Y.cfT Tryd.prog cf) L 160 k (fullN 160 (up x [(0,.slice (some ⟨rb,0,rp⟩) rn rc),(3,.slice (some ⟨wb,0,wp⟩) wn wc),(6,.pointer (some ⟨bb,0,none⟩)),(102,.slice (some ⟨wb,0,wp⟩) wn wc),(103,.int .i64 wn),(104,.int .i64 i)])) m q =
  (cond (Y.ltF i (Int.ofNat wn)) (L (Y.codeF (Y.loopC c3b 0) Tryd.prog kp 1 (Y.cfT Tryd.prog cf) L 160 k) (Y.loopC c3b 0) k (fullN 160 (up (up x [(105,(.bool true))]) [(0,(.slice (some (Addr.mk rb 0 rp)) rn rc)),(3,(.slice (some (Addr.mk wb 0 wp)) wn wc)),(6,(.pointer (some (Addr.mk bb 0 none)))),(102,(.slice (some (Addr.mk wb 0 wp)) wn wc)),(103,(.int .i64 (Int.ofNat wn))),(104,(.int .i64 i))])) m (Y.kont Tryd.prog kp 1 (Y.cfT Tryd.prog cf) L 160 k c3b 0 q)) (q (Ex.exit 2) (fullN 160 (up (up x [(105,(.bool false))]) [(0,(.slice (some (Addr.mk rb 0 rp)) rn rc)),(3,(.slice (some (Addr.mk wb 0 wp)) wn wc)),(6,(.pointer (some (Addr.mk bb 0 none)))),(102,(.slice (some (Addr.mk wb 0 wp)) wn wc)),(103,(.int .i64 (Int.ofNat wn))),(104,(.int .i64 i))])) m)):=by kernel_rfl
theorem t_C2R (bb rb wb : Nat) (rp wp : Option Nat) (rn rc wn wc : Nat) (i : Int) (q : Tmps → Mem → Option α) : Y.opsF (List.take 5 r3_21) Tryd.prog kp 1 (Y.cfT Tryd.prog cf) 160 r3_21 (fullN 160 (up x [(0,.slice (some ⟨rb,0,rp⟩) rn rc),(3,.slice (some ⟨wb,0,wp⟩) wn wc),(6,.pointer (some ⟨bb,0,none⟩)),(102,.slice (some ⟨wb,0,wp⟩) wn wc),(103,.int .i64 wn),(104,.int .i64 i)])) m q =
  (Y.onNat i (fun i_15=>(cond (Nat.blt i_15 wn) (Y.cellsOf (Mem.get m wb) (fun _ c_17=>(cond (Nat.ble (Nat.add (Nat.add 0 (Nat.mul i_15 2)) 2) (Y.lenLF c_17)) (q (fullN 160 (up (up x [(106,(.int .i64 i)),(107,(.pointer (some (Addr.mk wb (Nat.add 0 (Nat.mul i_15 2)) none))))]) [(0,(.slice (some (Addr.mk rb 0 rp)) rn rc)),(3,(.slice (some (Addr.mk wb 0 wp)) wn wc)),(6,(.pointer (some (Addr.mk bb 0 none)))),(13,(.int .i64 i)),(14,(.pointer (some (Addr.mk (Mem.size m) 0 none)))),(102,(.slice (some (Addr.mk wb 0 wp)) wn wc)),(103,(.int .i64 (Int.ofNat wn))),(104,(.int .i64 i)),(108,(.agg ⟨(Y.subL c_17 (Nat.add 0 (Nat.mul i_15 2)) 2)⟩))])) (Mem.push m (.cells true [(.slice none 0 0),(.int Go.IntKind.u32 (0:Int))]))) none))) none))):=by kernel_rfl
theorem t_C2B (bb rb wb : Nat) (rp wp : Option Nat) (rn rc wn wc : Nat) (i : Int) (xb : Nat) (q : Y.ExK α) : Y.kont Tryd.prog kp 1 (Y.cfT Tryd.prog cf) L 160 k c3b 0 q .normal (fullN 160 (up x [(0,.slice (some ⟨rb,0,rp⟩) rn rc),(3,.slice (some ⟨wb,0,wp⟩) wn wc),(6,.pointer (some ⟨bb,0,none⟩)),(13,.int .i64 i),(14,.pointer (some ⟨xb,0,none⟩)),(102,.slice (some ⟨wb,0,wp⟩) wn wc),(103,.int .i64 wn),(104,.int .i64 i)])) m =
  (L (Y.codeF (Y.loopC c3b 1) Tryd.prog kp 1 (Y.cfT Tryd.prog cf) L 160 k) (Y.loopC c3b 1) k (fullN 160 (up x [(0,(.slice (some (Addr.mk rb 0 rp)) rn rc)),(3,(.slice (some (Addr.mk wb 0 wp)) wn wc)),(6,(.pointer (some (Addr.mk bb 0 none)))),(13,(.int .i64 i)),(14,(.pointer (some (Addr.mk xb 0 none)))),(102,(.slice (some (Addr.mk wb 0 wp)) wn wc)),(103,(.int .i64 (Int.ofNat wn))),(104,(.int .i64 i))])) m (Y.kont Tryd.prog kp 1 (Y.cfT Tryd.prog cf) L 160 k c3b 1 q)):=by kernel_rfl
theorem t_C2D (bb rb wb : Nat) (rp wp : Option Nat) (rn rc wn wc : Nat) (i : Int) (xb : Nat) (q : Tmps → Mem → Option α) : Y.opsF (r3_22) Tryd.prog kp 1 (Y.cfT Tryd.prog cf) 160 r3_22 (fullN 160 (up x [(0,.slice (some ⟨rb,0,rp⟩) rn rc),(3,.slice (some ⟨wb,0,wp⟩) wn wc),(6,.pointer (some ⟨bb,0,none⟩)),(13,.int .i64 i),(14,.pointer (some ⟨xb,0,none⟩)),(102,.slice (some ⟨wb,0,wp⟩) wn wc),(103,.int .i64 wn),(104,.int .i64 i)])) m q =
  (Y.cellsOf (Mem.get m xb) (fun _ c_17=>(Option.elim (Y.nthL c_17 1) none (fun o18=>(Y.asInt o18 (fun k'_19 n_20=>(cond (Y.kEq Go.IntKind.u32 k'_19) (Y.onNat i (fun i_21=>(cond (Nat.blt i_21 rn) (Y.cellsOf (Mem.get m rb) (fun _ c_23=>(Option.elim (Y.nthL c_23 (Nat.add (Nat.add 0 (Nat.mul i_21 2)) 1)) none (fun o24=>(Y.asInt o24 (fun k'_25 n_26=>(cond (Y.kEq Go.IntKind.u32 k'_25) (cond (cond (Y.eqF n_20 n_26) false true) (q (fullN 160 (up (up x [(112,(.int .i64 i)),(120,(.tuple ⟨[]⟩)),(116,(.bool true)),(124,(.tuple ⟨[]⟩)),(114,(.pointer (some (Addr.mk rb (Nat.add (Nat.add 0 (Nat.mul i_21 2)) 1) none)))),(122,(.tuple ⟨[]⟩)),(118,(.tuple ⟨[]⟩)),(14,(.pointer (some (Addr.mk xb 0 none)))),(110,(.int Go.IntKind.u32 n_20)),(126,(.tuple ⟨[]⟩)),(113,(.pointer (some (Addr.mk rb (Nat.add 0 (Nat.mul i_21 2)) none)))),(121,(.tuple ⟨[]⟩)),(117,(.bool true)),(13,(.int .i64 i)),(109,(.pointer (some (Addr.mk xb 1 none)))),(125,(.tuple ⟨[]⟩)),(115,(.int Go.IntKind.u32 n_26)),(123,(.tuple ⟨[]⟩)),(119,(.tuple ⟨[]⟩)),(111,(.slice (some (Addr.mk rb 0 rp)) rn rc)),(127,(.tuple ⟨[]⟩))]) [(0,(.slice (some (Addr.mk rb 0 rp)) rn rc)),(3,(.slice (some (Addr.mk wb 0 wp)) wn wc)),(6,(.pointer (some (Addr.mk bb 0 none)))),(102,(.slice (some (Addr.mk wb 0 wp)) wn wc)),(103,(.int .i64 (Int.ofNat wn))),(104,(.int .i64 i)),(128,(.bool true))])) m) (Y.cellsOf (Mem.get m xb) (fun _ c_28=>(Option.elim (Y.nthL c_28 0) none (fun o29=>(Y.asSl o29 (fun a_30 n_31 c_32=>(Y.onNat i (fun i_33=>(cond (Nat.blt i_33 rn) (Y.cellsOf (Mem.get m rb) (fun _ c_35=>(Option.elim (Y.nthL c_35 (Nat.add (Nat.add 0 (Nat.mul i_33 2)) 0)) none (fun o36=>(Y.asSl o36 (fun a_37 n_38 c_39=>(cond (cond (Y.eqF (Int.ofNat n_31) (Int.ofNat n_38)) false true) (q (fullN 160 (up (up x [(112,(.int .i64 i)),(120,(.int .i64 (Int.ofNat n_31))),(116,(.bool false)),(124,(.pointer (some (Addr.mk rb (Nat.add (Nat.add 0 (Nat.mul i_33 2)) 0) none)))),(114,(.pointer (some (Addr.mk rb (Nat.add (Nat.add 0 (Nat.mul i_21 2)) 1) none)))),(122,(.int .i64 i)),(118,(.pointer (some (Addr.mk xb 0 none)))),(14,(.pointer (some (Addr.mk xb 0 none)))),(110,(.int Go.IntKind.u32 n_20)),(126,(.int .i64 (Int.ofNat n_38))),(113,(.pointer (some (Addr.mk rb (Nat.add 0 (Nat.mul i_21 2)) none)))),(121,(.slice (some (Addr.mk rb 0 rp)) rn rc)),(117,(.bool false)),(13,(.int .i64 i)),(109,(.pointer (some (Addr.mk xb 1 none)))),(125,(.slice a_37 n_38 c_39)),(115,(.int Go.IntKind.u32 n_26)),(123,(.pointer (some (Addr.mk rb (Nat.add 0 (Nat.mul i_33 2)) none)))),(119,(.slice a_30 n_31 c_32)),(111,(.slice (some (Addr.mk rb 0 rp)) rn rc)),(127,(.bool true))]) [(0,(.slice (some (Addr.mk rb 0 rp)) rn rc)),(3,(.slice (some (Addr.mk wb 0 wp)) wn wc)),(6,(.pointer (some (Addr.mk bb 0 none)))),(102,(.slice (some (Addr.mk wb 0 wp)) wn wc)),(103,(.int .i64 (Int.ofNat wn))),(104,(.int .i64 i)),(128,(.bool true))])) m) (q (fullN 160 (up (up x [(112,(.int .i64 i)),(120,(.int .i64 (Int.ofNat n_31))),(116,(.bool false)),(124,(.pointer (some (Addr.mk rb (Nat.add (Nat.add 0 (Nat.mul i_33 2)) 0) none)))),(114,(.pointer (some (Addr.mk rb (Nat.add (Nat.add 0 (Nat.mul i_21 2)) 1) none)))),(122,(.int .i64 i)),(118,(.pointer (some (Addr.mk xb 0 none)))),(14,(.pointer (some (Addr.mk xb 0 none)))),(110,(.int Go.IntKind.u32 n_20)),(126,(.int .i64 (Int.ofNat n_38))),(113,(.pointer (some (Addr.mk rb (Nat.add 0 (Nat.mul i_21 2)) none)))),(121,(.slice (some (Addr.mk rb 0 rp)) rn rc)),(117,(.bool false)),(13,(.int .i64 i)),(109,(.pointer (some (Addr.mk xb 1 none)))),(125,(.slice a_37 n_38 c_39)),(115,(.int Go.IntKind.u32 n_26)),(123,(.pointer (some (Addr.mk rb (Nat.add 0 (Nat.mul i_33 2)) none)))),(119,(.slice a_30 n_31 c_32)),(111,(.slice (some (Addr.mk rb 0 rp)) rn rc)),(127,(.bool false))]) [(0,(.slice (some (Addr.mk rb 0 rp)) rn rc)),(3,(.slice (some (Addr.mk wb 0 wp)) wn wc)),(6,(.pointer (some (Addr.mk bb 0 none)))),(102,(.slice (some (Addr.mk wb 0 wp)) wn wc)),(103,(.int .i64 (Int.ofNat wn))),(104,(.int .i64 i)),(128,(.bool false))])) m))) none))))) none)))) none)))))) none)) none))))) none))) none)) none))))):=by kernel_rfl
theorem t_C2E (bb rb wb : Nat) (rp wp : Option Nat) (rn rc wn wc : Nat) (i : Int) (bo : Bool) (q : Y.ExK α) : Y.kont Tryd.prog kp 1 (Y.cfT Tryd.prog cf) L 160 k c3b 1 q .normal (fullN 160 (up x [(0,.slice (some ⟨rb,0,rp⟩) rn rc),(3,.slice (some ⟨wb,0,wp⟩) wn wc),(6,.pointer (some ⟨bb,0,none⟩)),(102,.slice (some ⟨wb,0,wp⟩) wn wc),(103,.int .i64 wn),(104,.int .i64 i),(128,.bool bo)])) m =
  (cond bo (q .ret (fullN 160 (up (up x [(128,(.bool bo)),(2,(.bool false))]) [(0,(.slice (some (Addr.mk rb 0 rp)) rn rc)),(3,(.slice (some (Addr.mk wb 0 wp)) wn wc)),(6,(.pointer (some (Addr.mk bb 0 none)))),(102,(.slice (some (Addr.mk wb 0 wp)) wn wc)),(103,(.int .i64 (Int.ofNat wn))),(104,(.int .i64 i))])) m) (q .normal (fullN 160 (up (up x [(128,(.bool bo)),(129,(.int .i64 (IntKind.wrap .i64 (Int.add i (1:Int)))))]) [(0,(.slice (some (Addr.mk rb 0 rp)) rn rc)),(3,(.slice (some (Addr.mk wb 0 wp)) wn wc)),(6,(.pointer (some (Addr.mk bb 0 none)))),(102,(.slice (some (Addr.mk wb 0 wp)) wn wc)),(103,(.int .i64 (Int.ofNat wn))),(104,(.int .i64 (IntKind.wrap .i64 (Int.add i (1:Int)))))])) m)):=by kernel_rfl
theorem t_C4A (bb db : Nat) (ca : Option Addr) (cn cc : Nat) (i : Int) (q : Y.ExK α) : Y.codeF c3d Tryd.prog kp 1 (Y.cfT Tryd.prog cf) L 160 k (fullN 160 (up x [(6,.pointer (some ⟨bb,0,none⟩)),(15,.pointer (some ⟨db,0,none⟩)),(136,.slice ca cn cc),(137,.int .i64 cn),(138,.int .i64 i)])) m q =
  (cond (Y.ltF i (Int.ofNat cn)) (L (Y.codeF (Y.loopC c3d 0) Tryd.prog kp 1 (Y.cfT Tryd.prog cf) L 160 k) (Y.loopC c3d 0) k (fullN 160 (up (up x [(140,(.int .i64 i)),(139,(.bool true))]) [(6,(.pointer (some (Addr.mk bb 0 none)))),(15,(.pointer (some (Addr.mk db 0 none)))),(17,(.int .i64 i)),(136,(.slice ca cn cc)),(137,(.int .i64 (Int.ofNat cn))),(138,(.int .i64 i))])) m (Y.kont Tryd.prog kp 1 (Y.cfT Tryd.prog cf) L 160 k c3d 0 q)) (q (Ex.exit 4) (fullN 160 (up (up x [(139,(.bool false))]) [(6,(.pointer (some (Addr.mk bb 0 none)))),(15,(.pointer (some (Addr.mk db 0 none)))),(17,(x 17)),(136,(.slice ca cn cc)),(137,(.int .i64 (Int.ofNat cn))),(138,(.int .i64 i))])) m)):=by kernel_rfl
theorem t_C4R (bb db : Nat) (ca : Option Addr) (cn cc : Nat) (i : Int) (q : Tmps → Mem → Option α) : Y.opsF (List.take 10 r3_29) Tryd.prog kp 1 (Y.cfT Tryd.prog cf) 160 r3_29 (fullN 160 (up x [(6,.pointer (some ⟨bb,0,none⟩)),(15,.pointer (some ⟨db,0,none⟩)),(17,.int .i64 i),(136,.slice ca cn cc),(137,.int .i64 cn),(138,.int .i64 i)])) m q =
  (Y.cellsOf (Mem.get m db) (fun _ c_12=>(Option.elim (Y.nthL c_12 1) none (fun o13=>(Y.asSl o13 (fun a_14 n_15 c_16=>(Option.elim a_14 none (fun o17=>(Y.onNat i (fun i_18=>(cond (Nat.blt i_18 n_15) (Y.cellsOf (Mem.get m o17.1) (fun _ c_20=>(cond (Nat.ble (Nat.add (Nat.add o17.2 (Nat.mul i_18 5)) 5) (Y.lenLF c_20)) (Y.cellsOf (Mem.get m bb) (fun _ c_22=>(Option.elim (Y.nthL c_22 1) none (fun o23=>(Y.asSl o23 (fun a_24 n_25 c_26=>(Option.elim a_24 none (fun o27=>(Y.onNat i (fun i_28=>(cond (Nat.blt i_28 n_25) (Y.cellsOf (Mem.get m o27.1) (fun _ c_30=>(cond (Nat.ble (Nat.add (Nat.add o27.2 (Nat.mul i_28 5)) 5) (Y.lenLF c_30)) (q (fullN 160 (up (up x [(144,(.pointer (some (Addr.mk o17.1 (Nat.add o17.2 (Nat.mul i_18 5)) none)))),(148,(.int .i64 i)),(146,(.pointer (some (Addr.mk bb 1 none)))),(142,(.slice a_14 n_15 c_16)),(17,(.int .i64 i)),(149,(.pointer (some (Addr.mk o27.1 (Nat.add o27.2 (Nat.mul i_28 5)) none)))),(141,(.pointer (some (Addr.mk db 1 none)))),(147,(.slice a_24 n_25 c_26)),(143,(.int .i64 i))]) [(6,(.pointer (some (Addr.mk bb 0 none)))),(15,(.pointer (some (Addr.mk db 0 none)))),(136,(.slice ca cn cc)),(137,(.int .i64 (Int.ofNat cn))),(138,(.int .i64 i)),(145,(.agg ⟨(Y.subL c_20 (Nat.add o17.2 (Nat.mul i_18 5)) 5)⟩)),(150,(.agg ⟨(Y.subL c_30 (Nat.add o27.2 (Nat.mul i_28 5)) 5)⟩))])) m) none))) none)))))) none))))) none))) none)))))) none))))):=by kernel_rfl
theorem t_C4N (bb db : Nat) (ca : Option Addr) (cn cc : Nat) (i : Int) (o1 d1 s1 f1 m1 o2 d2 s2 f2 m2 : Int) (q : Tmps → Mem → Option α) : Y.opsF (List.take 1 (List.drop 10 r3_29)) Tryd.prog kp 1 (Y.cfT Tryd.prog cf) 160 r3_29 (fullN 160 (up x [(6,.pointer (some ⟨bb,0,none⟩)),(15,.pointer (some ⟨db,0,none⟩)),(136,.slice ca cn cc),(137,.int .i64 cn),(138,.int .i64 i),(145,.agg ⟨[.int .u8 o1,.int .u8 d1,.int .u8 s1,.int .i16 f1,.int .i32 m1]⟩),(150,.agg ⟨[.int .u8 o2,.int .u8 d2,.int .u8 s2,.int .i16 f2,.int .i32 m2]⟩)])) m q =
  (Option.elim (feq Tryd.prog kp 100 42 (.agg ⟨[(.int .u8 o1),(.int .u8 d1),(.int .u8 s1),(.int Go.IntKind.i16 f1),(.int Go.IntKind.i32 m1)]⟩) (.agg ⟨[(.int .u8 o2),(.int .u8 d2),(.int .u8 s2),(.int Go.IntKind.i16 f2),(.int Go.IntKind.i32 m2)]⟩)) none (fun o21=>(cond (cond o21 false true) (q (fullN 160 (up (up x [(150,(.agg ⟨[(.int .u8 o2),(.int .u8 d2),(.int .u8 s2),(.int Go.IntKind.i16 f2),(.int Go.IntKind.i32 m2)]⟩)),(145,(.agg ⟨[(.int .u8 o1),(.int .u8 d1),(.int .u8 s1),(.int Go.IntKind.i16 f1),(.int Go.IntKind.i32 m1)]⟩))]) [(6,(.pointer (some (Addr.mk bb 0 none)))),(15,(.pointer (some (Addr.mk db 0 none)))),(136,(.slice ca cn cc)),(137,(.int .i64 (Int.ofNat cn))),(138,(.int .i64 i)),(151,(.bool true))])) m) (q (fullN 160 (up (up x [(150,(.agg ⟨[(.int .u8 o2),(.int .u8 d2),(.int .u8 s2),(.int Go.IntKind.i16 f2),(.int Go.IntKind.i32 m2)]⟩)),(145,(.agg ⟨[(.int .u8 o1),(.int .u8 d1),(.int .u8 s1),(.int Go.IntKind.i16 f1),(.int Go.IntKind.i32 m1)]⟩))]) [(6,(.pointer (some (Addr.mk bb 0 none)))),(15,(.pointer (some (Addr.mk db 0 none)))),(136,(.slice ca cn cc)),(137,(.int .i64 (Int.ofNat cn))),(138,(.int .i64 i)),(151,(.bool false))])) m)))):=by kernel_rfl
theorem t_C4B (bb db : Nat) (ca : Option Addr) (cn cc : Nat) (i : Int) (bo : Bool) (q : Y.ExK α) : Y.kont Tryd.prog kp 1 (Y.cfT Tryd.prog cf) L 160 k c3d 0 q .normal (fullN 160 (up x [(6,.pointer (some ⟨bb,0,none⟩)),(15,.pointer (some ⟨db,0,none⟩)),(136,.slice ca cn cc),(137,.int .i64 cn),(138,.int .i64 i),(151,.bool bo)])) m =
  (cond bo (q .ret (fullN 160 (up (up x [(2,(.bool false)),(151,(.bool bo))]) [(6,(.pointer (some (Addr.mk bb 0 none)))),(15,(.pointer (some (Addr.mk db 0 none)))),(136,(.slice ca cn cc)),(137,(.int .i64 (Int.ofNat cn))),(138,(.int .i64 i))])) m) (q .normal (fullN 160 (up (up x [(152,(.int .i64 (IntKind.wrap .i64 (Int.add i (1:Int))))),(151,(.bool bo))]) [(6,(.pointer (some (Addr.mk bb 0 none)))),(15,(.pointer (some (Addr.mk db 0 none)))),(136,(.slice ca cn cc)),(137,(.int .i64 (Int.ofNat cn))),(138,(.int .i64 (IntKind.wrap .i64 (Int.add i (1:Int)))))])) m)):=by kernel_rfl
end
end Go.Proofs.YtadioopbehiakaaDoor
