/-
  CCode: Size, Code and the reference's Size, Image; long.
-/
import Derived.Test.YtadioopbehiakaaDoorF17
import Derived.Test.YtadioopbehiakaaDoorF21
import Derived.Test.YtadioopbehiakaaDoorF10
set_option linter.all false
set_option linter.unusedVariables false
set_option linter.unusedSimpArgs false
namespace Go.Cmp
structure TestRng (t : TestT) : Prop where
  mask : 0 ≤ t.mask ∧ t.mask < 18446744073709551616
  lo : 0 ≤ t.lo ∧ t.lo < 18446744073709551616
  hi : 0 ≤ t.hi ∧ t.hi < 18446744073709551616
def TableRng (rs : List RuleT) : Prop := ∀ r ∈ rs, ∀ t ∈ r.tests, TestRng t
def sizeS (rs : List RuleT) : Nat := if (checkS rs).2 = 0 then (madeS (tableS rs)).length else 0
def errS (rs : List RuleT) : Int := if (checkS rs).2 = 0 then (if 512 < (madeS (tableS rs)).length then 3 else 0) else (checkS rs).2
def outS (rs : List RuleT) : List Ins := if errS rs = 0 then madeS (tableS rs) else []
def longN (rs : List RuleT) : Nat := rs.length + (rs.map fun r => r.tests.length).sum
end Go.Cmp
namespace Go.Proofs.YtadioopbehiakaaDoor
open Go Go.DI Go.DI.Kit Go.Proofs Go.Cmp
noncomputable section
theorem testOk_of {t : TestT} (h : mayT t = true) (hr : TestRng t) : TestOk t := by
  unfold mayT at h
  split at h
  · cases h
  · split at h
    · rename_i h2
      have hb : isBytes t = true → False := by
        intro hb
        simp only [isBytes, Bool.or_eq_true, decide_eq_true_eq] at hb
        omega
      exact ⟨by omega, fun e => (hb e).elim, fun e => (hb e).elim, hr.mask, hr.lo, hr.hi⟩
    · split at h
      · cases h
      · split at h
        · cases h
        · rename_i h3 h4
          simp only [decide_eq_true_eq] at h
          exact ⟨by omega, fun _ => ⟨h.1, h.2.1⟩, fun _ => by unfold isz; omega, hr.mask, hr.lo, hr.hi⟩
theorem checkGo_none : ∀ (rs : List RuleT) (i : Nat), checkGo rs i = none → ∀ r ∈ rs, r.tests.length ≤ 8 ∧ r.tests.all mayT = true
  | [], i, _, r, hr => by simp at hr
  | r :: rs, i, h, r', hr => by
    simp only [checkGo] at h
    split at h
    · cases h
    · rename_i h8
      split at h
      · rename_i ha
        rcases List.mem_cons.1 hr with rfl | hr
        · exact ⟨by omega, ha⟩
        · exact checkGo_none rs (i + 1) h r' hr
      · cases h
theorem checkGo_err : ∀ (rs : List RuleT) (i a : Nat) (e : Int), checkGo rs i = some (a, e) → e = 1 ∨ e = 3
  | [], i, a, e, h => by cases h
  | r :: rs, i, a, e, h => by
    simp only [checkGo] at h
    split at h
    · right; cases h; rfl
    · split at h
      · exact checkGo_err rs (i + 1) a e h
      · left; cases h; rfl
theorem check_ok {rs : List RuleT} (h : (checkS rs).2 = 0) : rs.length ≤ 32 ∧ checkGo rs 0 = none := by
  unfold checkS at h
  split at h
  · cases h
  · refine ⟨by omega, ?_⟩
    cases hc : checkGo rs 0 with
    | none => rfl
    | some p =>
      obtain ⟨a, e⟩ := p
      rw [hc] at h
      have := checkGo_err rs 0 a e hc
      have h : e = 0 := h
      omega
theorem tableOk_of {rs : List RuleT} (h : (checkS rs).2 = 0) (hr : TableRng rs) : TableOk rs := by
  obtain ⟨h1, h2⟩ := check_ok h
  have h3 := checkGo_none rs 0 h2
  exact ⟨h1, fun r hr' => (h3 r hr').1, fun r hr' t ht => testOk_of (List.all_eq_true.1 (h3 r hr').2 t ht) (hr r hr' t ht)⟩
def CodeAt (M : Mem) (K : Keep) (l : List Ins) (v : Value) : Prop := ∃ a, v = .slice a l.length l.length ∧ (l ≠ [] → ∃ c, a = some ⟨c, 0, some 5⟩ ∧ c < M.size ∧ K c = none ∧ M.get c = .cells true (codeC l))
theorem OutAt.code {M : Mem} {K : Keep} {l : List Ins} {oa : Option Addr} (h : OutAt M K l oa) : CodeAt M K l (.slice oa l.length l.length) := by
  refine ⟨oa, rfl, fun h0 => ?_⟩
  rcases h with ⟨e, _⟩ | h
  · exact absurd e h0
  · exact h
theorem CodeAt.none (M : Mem) (K : Keep) : CodeAt M K [] (.slice none 0 0) := ⟨_, rfl, fun h => absurd rfl h⟩
theorem CodeAt.weak {M : Mem} {K K' : Keep} {l : List Ins} {v : Value} (h : CodeAt M K' l v) (hw : ∀ j x, K j = some x → K' j = some x) : CodeAt M K l v := by
  obtain ⟨a, h1, h2⟩ := h
  refine ⟨a, h1, fun h0 => ?_⟩
  obtain ⟨c, q1, q2, q3, q4⟩ := h2 h0
  refine ⟨c, q1, q2, ?_, q4⟩
  cases hk : K c with
  | none => rfl
  | some y => rw [hw _ _ hk] at q3; cases q3
theorem code_of {M : Mem} {K : Keep} {mp : Nat} {l : List Ins} {v : Value} (h : Hp M K [(mp, mkO l)]) (hv : M.get mp = .cells true [v]) : CodeAt M K l v := by
  obtain ⟨ht, hK, F, h1, h2, h3⟩ := h
  cases h1 with
  | cons hA hL =>
    rename_i b F
    have hc := hA.cells
    rw [hv] at hc
    have hc : v = slV b 5 l.length := by simpa [mkO] using hc
    cases b with
    | none =>
      have h0 : l.length = 0 := hA.buf.1
      exact ⟨none, by rw [hc, h0]; rfl, fun hn => absurd (List.eq_nil_of_length_eq_zero h0) hn⟩
    | some c =>
      exact ⟨some ⟨c, 0, some 5⟩, hc, fun _ => ⟨c, rfl, (h3 c (by simp)).2, (h3 c (by simp)).1, hA.buf⟩⟩
theorem at8 : Tryd.prog.funcs[8]? = some Tryd.f8 := by kernel_rfl
theorem bd8 : Tryd.f8.body = some (bodyOf Tryd.f8) := by kernel_rfl
theorem nt8 : Tryd.f8.ntmps = 24 := by kernel_rfl
theorem n8 {a : Value} : max [a].length Tryd.f8.ntmps = 24 := by rw [nt8]; rfl
theorem at9 : Tryd.prog.funcs[9]? = some Tryd.f9 := by kernel_rfl
theorem bd9 : Tryd.f9.body = some (bodyOf Tryd.f9) := by kernel_rfl
theorem nt9 : Tryd.f9.ntmps = 24 := by kernel_rfl
theorem n9 {a : Value} : max [a].length Tryd.f9.ntmps = 24 := by rw [nt9]; rfl
theorem at10 : Tryd.prog.funcs[10]? = some Tryd.f10 := by kernel_rfl
theorem bd10 : Tryd.f10.body = some (bodyOf Tryd.f10) := by kernel_rfl
theorem nt10 : Tryd.f10.ntmps = 17 := by kernel_rfl
theorem n10 {a : Value} : max [a].length Tryd.f10.ntmps = 17 := by rw [nt10]; rfl
theorem at11 : Tryd.prog.funcs[11]? = some Tryd.f11 := by kernel_rfl
theorem bd11 : Tryd.f11.body = some (bodyOf Tryd.f11) := by kernel_rfl
theorem nt11 : Tryd.f11.ntmps = 17 := by kernel_rfl
theorem n11 {a : Value} : max [a].length Tryd.f11.ntmps = 17 := by rw [nt11]; rfl
theorem at6 : Tryd.prog.funcs[6]? = some Tryd.f6 := by kernel_rfl
theorem bd6 : Tryd.f6.body = some (bodyOf Tryd.f6) := by kernel_rfl
theorem nt6 : Tryd.f6.ntmps = 22 := by kernel_rfl
theorem n6 {a : Value} : max [a].length Tryd.f6.ntmps = 22 := by rw [nt6]; rfl
theorem ok10 {a b : Int} : okR Tryd.prog 10 (.tuple ⟨[.int .i64 a, .int .i64 b]⟩) = true := by kernel_rfl
theorem ok11 {a b : Int} : okR Tryd.prog 11 (.tuple ⟨[.int .i64 a, .int .i64 b]⟩) = true := by kernel_rfl
theorem ok6 {b : Bool} : okR Tryd.prog 6 (.bool b) = true := by kernel_rfl
theorem ok8 {a b : Option Addr} {n n' c c' : Nat} {e : Int} : okR Tryd.prog 8 (.tuple ⟨[.agg ⟨[.slice a n c, .slice b n' c']⟩, .int .i64 e]⟩) = true := by kernel_rfl
theorem ok9 {a b : Option Addr} {n n' c c' : Nat} {e : Int} : okR Tryd.prog 9 (.tuple ⟨[.agg ⟨[.slice a n c, .slice b n' c']⟩, .int .i64 e]⟩) = true := by kernel_rfl
theorem sz30 : szOf Tryd.prog 30 = some 2 := by kernel_rfl
section
variable {α : Type} (x : Nat → Value) (cf : Y.CF α) (L : Y.LK α) (k : Nat) (m : Mem)
theorem r8_3_eq (t : Tmps) (q : Y.ExK α) : Y.codeF (Y.loopC c8 0) Tryd.prog kp 1 (Y.cfT Tryd.prog cf) L 24 k t m q = Y.opsF r8_3 Tryd.prog kp 1 (Y.cfT Tryd.prog cf) 24 r8_3 t m fun t m => q .normal t m := by kernel_rfl
theorem r8_6_eq (t : Tmps) (q : Y.ExK α) : Y.codeF (Y.loopC c8 1) Tryd.prog kp 1 (Y.cfT Tryd.prog cf) L 24 k t m q = Y.opsF r8_6 Tryd.prog kp 1 (Y.cfT Tryd.prog cf) 24 r8_6 t m fun t m => q .normal t m := by kernel_rfl
theorem r8_7_eq (t : Tmps) (q : Y.ExK α) : Y.codeF (Y.loopC c8 2) Tryd.prog kp 1 (Y.cfT Tryd.prog cf) L 24 k t m q = Y.opsF r8_7 Tryd.prog kp 1 (Y.cfT Tryd.prog cf) 24 r8_7 t m fun t m => q .normal t m := by kernel_rfl
theorem t_Cod3 (b : Nat) (e : Int) (w6 : Value) (q : Tmps → Mem → Option α) : Y.opsF r8_3 Tryd.prog kp 1 (Y.cfT Tryd.prog cf) 24 r8_3 (fullN 24 (up x [(2, .pointer (some ⟨b, 0, none⟩)), (5, .int .i64 e), (6, w6)])) m q =
  Y.storeF Tryd.prog m 30 (.agg ⟨[.slice none 0 0, .slice none 0 0]⟩) (.pointer (some ⟨b, 0, none⟩)) fun m' => q (fullN 24 (up (up x [(5, .int .i64 e), (6, w6), (14, .agg ⟨[.slice none 0 0, .slice none 0 0]⟩), (15, .int .i64 e)]) [(2, .pointer (some ⟨b, 0, none⟩)), (3, .int .i64 e)])) m' := by kernel_rfl
theorem t_Cod6 (b : Nat) (e : Int) (w6 : Value) (q : Tmps → Mem → Option α) : Y.opsF r8_6 Tryd.prog kp 1 (Y.cfT Tryd.prog cf) 24 r8_6 (fullN 24 (up x [(2, .pointer (some ⟨b, 0, none⟩)), (5, .int .i64 e), (6, w6)])) m q =
  Y.storeF Tryd.prog m 30 (.agg ⟨[.slice none 0 0, .slice none 0 0]⟩) (.pointer (some ⟨b, 0, none⟩)) fun m' => q (fullN 24 (up (up x [(5, .int .i64 e), (6, w6), (21, .agg ⟨[.slice none 0 0, .slice none 0 0]⟩)]) [(2, .pointer (some ⟨b, 0, none⟩)), (3, .int .i64 (3 : Int))])) m' := by kernel_rfl
theorem t_Cod7 (b : Nat) (e : Int) (a : Option Addr) (n c : Nat) (q : Tmps → Mem → Option α) : Y.opsF r8_7 Tryd.prog kp 1 (Y.cfT Tryd.prog cf) 24 r8_7 (fullN 24 (up x [(2, .pointer (some ⟨b, 0, none⟩)), (5, .int .i64 e), (6, .slice a n c)])) m q =
  Y.storeF Tryd.prog m 30 (.agg ⟨[.slice none 0 0, .slice a n c]⟩) (.pointer (some ⟨b, 0, none⟩)) fun m' => q (fullN 24 (up (up x [(5, .int .i64 e), (6, .slice a n c), (22, .slice a n c), (23, .agg ⟨[.slice none 0 0, .slice a n c]⟩)]) [(2, .pointer (some ⟨b, 0, none⟩)), (3, .int .i64 (0 : Int))])) m' := by kernel_rfl
theorem r9_3_eq (t : Tmps) (q : Y.ExK α) : Y.codeF (Y.loopC c9 0) Tryd.prog kp 1 (Y.cfT Tryd.prog cf) L 24 k t m q = Y.opsF r9_3 Tryd.prog kp 1 (Y.cfT Tryd.prog cf) 24 r9_3 t m fun t m => q .normal t m := by kernel_rfl
theorem r9_6_eq (t : Tmps) (q : Y.ExK α) : Y.codeF (Y.loopC c9 1) Tryd.prog kp 1 (Y.cfT Tryd.prog cf) L 24 k t m q = Y.opsF r9_6 Tryd.prog kp 1 (Y.cfT Tryd.prog cf) 24 r9_6 t m fun t m => q .normal t m := by kernel_rfl
theorem r9_7_eq (t : Tmps) (q : Y.ExK α) : Y.codeF (Y.loopC c9 2) Tryd.prog kp 1 (Y.cfT Tryd.prog cf) L 24 k t m q = Y.opsF r9_7 Tryd.prog kp 1 (Y.cfT Tryd.prog cf) 24 r9_7 t m fun t m => q .normal t m := by kernel_rfl
theorem t_Img3 (b : Nat) (e : Int) (w6 : Value) (q : Tmps → Mem → Option α) : Y.opsF r9_3 Tryd.prog kp 1 (Y.cfT Tryd.prog cf) 24 r9_3 (fullN 24 (up x [(2, .pointer (some ⟨b, 0, none⟩)), (5, .int .i64 e), (6, w6)])) m q =
  Y.storeF Tryd.prog m 30 (.agg ⟨[.slice none 0 0, .slice none 0 0]⟩) (.pointer (some ⟨b, 0, none⟩)) fun m' => q (fullN 24 (up (up x [(5, .int .i64 e), (6, w6), (14, .agg ⟨[.slice none 0 0, .slice none 0 0]⟩), (15, .int .i64 e)]) [(2, .pointer (some ⟨b, 0, none⟩)), (3, .int .i64 e)])) m' := by kernel_rfl
theorem t_Img6 (b : Nat) (e : Int) (w6 : Value) (q : Tmps → Mem → Option α) : Y.opsF r9_6 Tryd.prog kp 1 (Y.cfT Tryd.prog cf) 24 r9_6 (fullN 24 (up x [(2, .pointer (some ⟨b, 0, none⟩)), (5, .int .i64 e), (6, w6)])) m q =
  Y.storeF Tryd.prog m 30 (.agg ⟨[.slice none 0 0, .slice none 0 0]⟩) (.pointer (some ⟨b, 0, none⟩)) fun m' => q (fullN 24 (up (up x [(5, .int .i64 e), (6, w6), (21, .agg ⟨[.slice none 0 0, .slice none 0 0]⟩)]) [(2, .pointer (some ⟨b, 0, none⟩)), (3, .int .i64 (3 : Int))])) m' := by kernel_rfl
theorem t_Img7 (b : Nat) (e : Int) (a : Option Addr) (n c : Nat) (q : Tmps → Mem → Option α) : Y.opsF r9_7 Tryd.prog kp 1 (Y.cfT Tryd.prog cf) 24 r9_7 (fullN 24 (up x [(2, .pointer (some ⟨b, 0, none⟩)), (5, .int .i64 e), (6, .slice a n c)])) m q =
  Y.storeF Tryd.prog m 30 (.agg ⟨[.slice none 0 0, .slice a n c]⟩) (.pointer (some ⟨b, 0, none⟩)) fun m' => q (fullN 24 (up (up x [(5, .int .i64 e), (6, .slice a n c), (22, .slice a n c), (23, .agg ⟨[.slice none 0 0, .slice a n c]⟩)]) [(2, .pointer (some ⟨b, 0, none⟩)), (3, .int .i64 (0 : Int))])) m' := by kernel_rfl
theorem r6_4_eq (t : Tmps) (q : Y.ExK α) : Y.codeF (Y.loopC c6 0) Tryd.prog kp 1 (Y.cfT Tryd.prog cf) L 22 k t m q = Y.opsF r6_4 Tryd.prog kp 1 (Y.cfT Tryd.prog cf) 22 r6_4 t m fun t m => q .normal t m := by kernel_rfl
theorem t_LonRS (b : Nat) (w3 w8 w9 w10 u : Value) (q : Tmps → Mem → Option α) : Y.opsF (List.drop 3 r6_4) Tryd.prog kp 1 (Y.cfT Tryd.prog cf) 22 r6_4 (fullN 22 (up x [(3, w3), (5, .pointer (some ⟨b, 0, none⟩)), (8, w8), (9, w9), (10, w10), (13, u)])) m q =
  Y.storeF Tryd.prog m 49 u (.pointer (some ⟨b, 0, none⟩)) fun m' => q (fullN 22 (up (up x [(13, u)]) [(3, w3), (5, .pointer (some ⟨b, 0, none⟩)), (8, w8), (9, w9), (10, w10)])) m' := by kernel_rfl
theorem t_LonA0 (w3 w8 : Value) (q : Y.ExK α) : Y.codeF (loopN Tryd.f6 0) Tryd.prog kp 1 (Y.cfT Tryd.prog cf) L 22 k (fullN 22 (up x [(3, w3), (8, w8), (9, .int .i64 (0 : Nat)), (10, .int .i64 (0 : Int))])) m q =
  q (.exit 0) (fullN 22 (up (up x [(11, .bool false)]) [(3, w3), (8, w8), (9, .int .i64 (0 : Nat)), (10, .int .i64 (0 : Int))])) m := by kernel_rfl
end
theorem sz49 : szOf Tryd.prog 49 = some 2 := by kernel_rfl
section
variable {K : Keep} {M : Mem} {o : Orc} {k : Nat}
theorem Size_do {rs : List RuleT} {v : Value} (hO : Orq o) (hk : 100000 + 200 ≤ k) (hr : TableRng rs) (hv : rulesAt K v rs) (h : Hp M K []) (h0 : K 0 = some (.cells false gl)) :
    ∃ M', callN Tryd.prog kp 1 o k 10 [v] M = some (.tuple ⟨[.int .i64 (sizeS rs : Int), .int .i64 (checkS rs).2]⟩, M') ∧ Hp M' K [] := by
  obtain ⟨k, rfl⟩ : ∃ k', k = k' + 1 := ⟨k - 1, by omega⟩
  obtain ⟨ra, rc, hve, _⟩ := id hv
  obtain ⟨M1, c1, h1⟩ := Check_do (k := k) hO (by omega) hv h h0
  by_cases he : (checkS rs).2 = 0
  · have hT := tableOk_of he hr
    obtain ⟨v', M2, mp, c2, g2, h2⟩ := made_do (k := k) hO (by omega) hT hv h1 h0
    obtain ⟨a, rfl, _⟩ := code_of h2 g2
    have h2 := h2.tail
    refine ⟨M2, call_of 17 (hO.off 10 (by decide) _ _) at10 bd10 n10 ?_ ok10, h2⟩
    subst hve
    refine Eq.trans (t_Siz ..) ?_
    refine step c1 ?_
    rw [nAsTup, nUncC, nAsInt, nKEq, nCondT, nUncC, nAsInt, nKEq, nCondT, nUncN, notB, eqF_t he, nCondT]
    refine step c2 ?_
    rw [nAsSl, sizeS, if_pos he, he]
    rfl
  · refine ⟨M1, call_of 17 (hO.off 10 (by decide) _ _) at10 bd10 n10 ?_ ok10, h1⟩
    subst hve
    refine Eq.trans (t_Siz ..) ?_
    refine step c1 ?_
    rw [nAsTup, nUncC, nAsInt, nKEq, nCondT, nUncC, nAsInt, nKEq, nCondT, nUncN, notB, eqF_f he, nCondF, sizeS, if_neg he]
    rfl
theorem SizeR_do {rs : List RuleT} {v : Value} (hO : Orq o) (hk : 100000 + 200 ≤ k) (hr : TableRng rs) (hv : rulesAt K v rs) (h : Hp M K []) (h0 : K 0 = some (.cells false gl)) :
    ∃ M', callN Tryd.prog kp 1 o k 11 [v] M = some (.tuple ⟨[.int .i64 (sizeS rs : Int), .int .i64 (checkS rs).2]⟩, M') ∧ Hp M' K [] := by
  obtain ⟨k, rfl⟩ : ∃ k', k = k' + 1 := ⟨k - 1, by omega⟩
  obtain ⟨ra, rc, hve, _⟩ := id hv
  obtain ⟨M1, c1, h1⟩ := CheckR_do (k := k) hO (by omega) hv h h0
  by_cases he : (checkS rs).2 = 0
  · have hT := tableOk_of he hr
    obtain ⟨a, M2, c2, h2, _⟩ := MadeR_do (k := k) hO (by omega) hT hv h1 h0
    refine ⟨M2, call_of 17 (hO.off 11 (by decide) _ _) at11 bd11 n11 ?_ ok11, h2⟩
    subst hve
    refine Eq.trans (t_SizR ..) ?_
    refine step c1 ?_
    rw [nAsTup, nUncC, nAsInt, nKEq, nCondT, nUncC, nAsInt, nKEq, nCondT, nUncN, notB, eqF_t he, nCondT]
    refine step c2 ?_
    rw [nAsSl, sizeS, if_pos he, he]
    rfl
  · refine ⟨M1, call_of 17 (hO.off 11 (by decide) _ _) at11 bd11 n11 ?_ ok11, h1⟩
    subst hve
    refine Eq.trans (t_SizR ..) ?_
    refine step c1 ?_
    rw [nAsTup, nUncC, nAsInt, nKEq, nCondT, nUncC, nAsInt, nKEq, nCondT, nUncN, notB, eqF_f he, nCondF, sizeS, if_neg he]
    rfl
theorem Hp.unbox {b : Nat} {x y : Blk} {hs : List (Nat × Thing)} (h : Hp M (keep1 K b x) hs) (hk : K b = none) : Hp (M.set b y) K hs := by
  obtain ⟨ht, hK, F, h1, h2, h3⟩ := h
  have hb := (hK b x (keep1_same ..)).1
  refine ⟨top_set ht hb, fun j z hj => ?_, F, h1.mono fun j hj => Mem.get_set_ne _ ?_ _, h2, fun j hj => ?_⟩
  · have hne : j ≠ b := by rintro rfl; rw [hk] at hj; cases hj
    have := hK j z (by rw [keep1_ne hne]; exact hj)
    exact ⟨this.1, (Mem.get_set_ne _ hne _).trans this.2⟩
  · rintro rfl
    have := (h3 _ hj).1
    rw [keep1_same] at this; cases this
  · have := h3 j hj
    have hne : j ≠ b := by rintro rfl; rw [keep1_same] at this; cases this.1
    rw [keep1_ne hne] at this
    exact this
theorem agg2_store {b : Nat} {u v u' v' : Option Addr} {n c n' c' n2 c2 n3 c3 : Nat} (hg : M.get b = .cells true [.slice u n c, .slice v n' c']) :
    storeD Tryd.prog M 30 (.agg ⟨[.slice u' n2 c2, .slice v' n3 c3]⟩) (.pointer (some ⟨b, 0, none⟩)) = some (M.set b (.cells true [.slice u' n2 c2, .slice v' n3 c3])) := by
  rw [storeD_at (n := 2) sz30 rfl hg (by simp) rfl]
  rfl
theorem Code_do {rs : List RuleT} {v : Value} (hO : Orq o) (hk : 100000 + 200 ≤ k) (hr : TableRng rs) (hv : rulesAt K v rs) (h : Hp M K []) (h0 : K 0 = some (.cells false gl)) :
    ∃ v' M', callN Tryd.prog kp 1 o k 8 [v] M = some (.tuple ⟨[.agg ⟨[.slice none 0 0, v']⟩, .int .i64 (errS rs)]⟩, M') ∧ Hp M' K [] ∧ CodeAt M' K (outS rs) v' ∧ M.size ≤ M'.size := by
  obtain ⟨k, rfl⟩ : ∃ k', k = k' + 1 := ⟨k - 1, by omega⟩
  obtain ⟨ra, rc, hve, _⟩ := id hv
  have hKM := h.no (Nat.le_refl M.size)
  have hbx := h.boxP (.cells true [.slice none 0 0, .slice none 0 0])
  have hv1 := hv.mono hbx.2
  have h01 := hbx.2 _ _ h0
  obtain ⟨M1, c1, h1⟩ := Check_do (k := k) hO (by omega) hv1 hbx.1 h01
  have g1 := h1.get (keep1_same ..)
  have s1 := h1.lt (keep1_same K M.size _)
  by_cases he : (checkS rs).2 = 0
  · have hT := tableOk_of he hr
    obtain ⟨v', M2, mp, c2, g2', h2⟩ := made_do (k := k) hO (by omega) hT hv1 h1 h01
    obtain ⟨a, rfl, hcode⟩ := code_of h2 g2'
    have g2 := h2.get (keep1_same ..)
    have s2 := h2.lt (keep1_same K M.size _)
    by_cases hl : 512 < (madeS (tableS rs)).length
    · have ee : errS rs = 3 := by rw [errS, if_pos he, if_pos hl]
      have eo : outS rs = [] := by rw [outS, if_neg (by rw [ee]; decide)]
      refine ⟨.slice none 0 0, M2.set M.size (.cells true [.slice none 0 0, .slice none 0 0]), call_of 24 (hO.off 8 (by decide) _ _) at8 bd8 n8 ?_ ok8, (Hp.unbox h2 hKM).tail, by rw [eo]; exact CodeAt.none _ _, by show M.size ≤ M2.size; omega⟩
      subst hve
      refine Eq.trans (markS_eq [3, 6, 7] Tryd.prog kp 1 _ (Y.lpOf Tryd.prog kp 1 (callN Tryd.prog kp 1 o k) 24) (fun _ _ _ _ _ _ _ => rfl) 24 k (bodyOf Tryd.f8) (by kernel_rfl) _ M _) ?_
      refine Eq.trans (t_Cod_in ..) ?_
      refine step c1 ?_
      rw [nAsTup, nUncC, nAsInt, nKEq, nCondT, nUncC, nAsInt, nKEq, nCondT, nUncN, notB, eqF_t he, nCondT]
      refine step c2 ?_
      rw [nAsSl, ltF_t (show (512 : Int) < Int.ofNat (madeS (tableS rs)).length by show (512 : Int) < ((madeS (tableS rs)).length : Int); omega), nCondT, ee]
      refine Eq.trans (loop_reg _ _ _ (by kernel_rfl) _ _ _ _) ?_
      refine Eq.trans (r8_6_eq ..) ?_
      refine Eq.trans (t_Cod6 ..) ?_
      rw [Y.storeF_eq, agg2_store g2, Y.ob_some]
      refine Eq.trans (t_CodR1 ..) ?_
      rw [Mem.get_set_same, nCells]
      rfl
    · have ee : errS rs = 0 := by rw [errS, if_pos he, if_neg hl]
      have eo : outS rs = madeS (tableS rs) := by rw [outS, if_pos ee]
      refine ⟨.slice a (madeS (tableS rs)).length (madeS (tableS rs)).length, M2.set M.size (.cells true [.slice none 0 0, .slice a (madeS (tableS rs)).length (madeS (tableS rs)).length]), call_of 24 (hO.off 8 (by decide) _ _) at8 bd8 n8 ?_ ok8, (Hp.unbox h2 hKM).tail, ?_, by show M.size ≤ M2.size; omega⟩
      · subst hve
        refine Eq.trans (markS_eq [3, 6, 7] Tryd.prog kp 1 _ (Y.lpOf Tryd.prog kp 1 (callN Tryd.prog kp 1 o k) 24) (fun _ _ _ _ _ _ _ => rfl) 24 k (bodyOf Tryd.f8) (by kernel_rfl) _ M _) ?_
        refine Eq.trans (t_Cod_in ..) ?_
        refine step c1 ?_
        rw [nAsTup, nUncC, nAsInt, nKEq, nCondT, nUncC, nAsInt, nKEq, nCondT, nUncN, notB, eqF_t he, nCondT]
        refine step c2 ?_
        rw [nAsSl, ltF_f (show ¬ (512 : Int) < Int.ofNat (madeS (tableS rs)).length by show ¬ (512 : Int) < ((madeS (tableS rs)).length : Int); omega), nCondF, ee]
        refine Eq.trans (loop_reg _ _ _ (by kernel_rfl) _ _ _ _) ?_
        refine Eq.trans (r8_7_eq ..) ?_
        refine Eq.trans (t_Cod7 ..) ?_
        rw [Y.storeF_eq, agg2_store g2, Y.ob_some]
        refine Eq.trans (t_CodR2 ..) ?_
        rw [Mem.get_set_same, nCells]
        rfl
      · rw [eo]
        refine ⟨a, rfl, fun hne => ?_⟩
        obtain ⟨c, q1, q2, q3, q4⟩ := hcode hne
        have hcne : c ≠ M.size := by rintro rfl; rw [keep1_same] at q3; cases q3
        rw [keep1_ne hcne] at q3
        exact ⟨c, q1, q2, q3, (Mem.get_set_ne _ hcne _).trans q4⟩
  · have ee : errS rs = (checkS rs).2 := by rw [errS, if_neg he]
    have eo : outS rs = [] := by rw [outS, if_neg (by rw [ee]; exact he)]
    refine ⟨.slice none 0 0, M1.set M.size (.cells true [.slice none 0 0, .slice none 0 0]), call_of 24 (hO.off 8 (by decide) _ _) at8 bd8 n8 ?_ ok8, Hp.unbox h1 hKM, by rw [eo]; exact CodeAt.none _ _, by show M.size ≤ M1.size; omega⟩
    subst hve
    refine Eq.trans (markS_eq [3, 6, 7] Tryd.prog kp 1 _ (Y.lpOf Tryd.prog kp 1 (callN Tryd.prog kp 1 o k) 24) (fun _ _ _ _ _ _ _ => rfl) 24 k (bodyOf Tryd.f8) (by kernel_rfl) _ M _) ?_
    refine Eq.trans (t_Cod_in ..) ?_
    refine step c1 ?_
    rw [nAsTup, nUncC, nAsInt, nKEq, nCondT, nUncC, nAsInt, nKEq, nCondT, nUncN, notB, eqF_f he, nCondF, ee]
    refine Eq.trans (loop_reg _ _ _ (by kernel_rfl) _ _ _ _) ?_
    refine Eq.trans (r8_3_eq ..) ?_
    refine Eq.trans (t_Cod3 ..) ?_
    rw [Y.storeF_eq, agg2_store g1, Y.ob_some]
    refine Eq.trans (t_CodR0 ..) ?_
    rw [Mem.get_set_same, nCells]
    rfl
theorem Image_do {rs : List RuleT} {v : Value} (hO : Orq o) (hk : 100000 + 200 ≤ k) (hr : TableRng rs) (hv : rulesAt K v rs) (h : Hp M K []) (h0 : K 0 = some (.cells false gl)) :
    ∃ v' M', callN Tryd.prog kp 1 o k 9 [v] M = some (.tuple ⟨[.agg ⟨[.slice none 0 0, v']⟩, .int .i64 (errS rs)]⟩, M') ∧ Hp M' K [] ∧ CodeAt M' K (outS rs) v' ∧ M.size ≤ M'.size := by
  obtain ⟨k, rfl⟩ : ∃ k', k = k' + 1 := ⟨k - 1, by omega⟩
  obtain ⟨ra, rc, hve, _⟩ := id hv
  have hKM := h.no (Nat.le_refl M.size)
  have hbx := h.boxP (.cells true [.slice none 0 0, .slice none 0 0])
  have hv1 := hv.mono hbx.2
  have h01 := hbx.2 _ _ h0
  obtain ⟨M1, c1, h1⟩ := CheckR_do (k := k) hO (by omega) hv1 hbx.1 h01
  have g1 := h1.get (keep1_same ..)
  have s1 := h1.lt (keep1_same K M.size _)
  by_cases he : (checkS rs).2 = 0
  · have hT := tableOk_of he hr
    obtain ⟨a, M2, c2, h2, ho2⟩ := MadeR_do (k := k) hO (by omega) hT hv1 h1 h01
    have hcode : madeS (tableS rs) ≠ [] → ∃ c, a = some ⟨c, 0, some 5⟩ ∧ c < M2.size ∧ (keep1 K M.size (.cells true [.slice none 0 0, .slice none 0 0])) c = none ∧ M2.get c = .cells true (codeC (madeS (tableS rs))) := by
      intro hne
      rcases ho2 with ⟨e, _⟩ | hc
      · exact absurd e hne
      · exact hc
    have g2 := h2.get (keep1_same ..)
    have s2 := h2.lt (keep1_same K M.size _)
    by_cases hl : 512 < (madeS (tableS rs)).length
    · have ee : errS rs = 3 := by rw [errS, if_pos he, if_pos hl]
      have eo : outS rs = [] := by rw [outS, if_neg (by rw [ee]; decide)]
      refine ⟨.slice none 0 0, M2.set M.size (.cells true [.slice none 0 0, .slice none 0 0]), call_of 24 (hO.off 9 (by decide) _ _) at9 bd9 n9 ?_ ok9, Hp.unbox h2 hKM, by rw [eo]; exact CodeAt.none _ _, by show M.size ≤ M2.size; omega⟩
      subst hve
      refine Eq.trans (markS_eq [3, 6, 7] Tryd.prog kp 1 _ (Y.lpOf Tryd.prog kp 1 (callN Tryd.prog kp 1 o k) 24) (fun _ _ _ _ _ _ _ => rfl) 24 k (bodyOf Tryd.f9) (by kernel_rfl) _ M _) ?_
      refine Eq.trans (t_Img_in ..) ?_
      refine step c1 ?_
      rw [nAsTup, nUncC, nAsInt, nKEq, nCondT, nUncC, nAsInt, nKEq, nCondT, nUncN, notB, eqF_t he, nCondT]
      refine step c2 ?_
      rw [nAsSl, ltF_t (show (512 : Int) < Int.ofNat (madeS (tableS rs)).length by show (512 : Int) < ((madeS (tableS rs)).length : Int); omega), nCondT, ee]
      refine Eq.trans (loop_reg _ _ _ (by kernel_rfl) _ _ _ _) ?_
      refine Eq.trans (r9_6_eq ..) ?_
      refine Eq.trans (t_Img6 ..) ?_
      rw [Y.storeF_eq, agg2_store g2, Y.ob_some]
      refine Eq.trans (t_ImgR1 ..) ?_
      rw [Mem.get_set_same, nCells]
      rfl
    · have ee : errS rs = 0 := by rw [errS, if_pos he, if_neg hl]
      have eo : outS rs = madeS (tableS rs) := by rw [outS, if_pos ee]
      refine ⟨.slice a (madeS (tableS rs)).length (madeS (tableS rs)).length, M2.set M.size (.cells true [.slice none 0 0, .slice a (madeS (tableS rs)).length (madeS (tableS rs)).length]), call_of 24 (hO.off 9 (by decide) _ _) at9 bd9 n9 ?_ ok9, Hp.unbox h2 hKM, ?_, by show M.size ≤ M2.size; omega⟩
      · subst hve
        refine Eq.trans (markS_eq [3, 6, 7] Tryd.prog kp 1 _ (Y.lpOf Tryd.prog kp 1 (callN Tryd.prog kp 1 o k) 24) (fun _ _ _ _ _ _ _ => rfl) 24 k (bodyOf Tryd.f9) (by kernel_rfl) _ M _) ?_
        refine Eq.trans (t_Img_in ..) ?_
        refine step c1 ?_
        rw [nAsTup, nUncC, nAsInt, nKEq, nCondT, nUncC, nAsInt, nKEq, nCondT, nUncN, notB, eqF_t he, nCondT]
        refine step c2 ?_
        rw [nAsSl, ltF_f (show ¬ (512 : Int) < Int.ofNat (madeS (tableS rs)).length by show ¬ (512 : Int) < ((madeS (tableS rs)).length : Int); omega), nCondF, ee]
        refine Eq.trans (loop_reg _ _ _ (by kernel_rfl) _ _ _ _) ?_
        refine Eq.trans (r9_7_eq ..) ?_
        refine Eq.trans (t_Img7 ..) ?_
        rw [Y.storeF_eq, agg2_store g2, Y.ob_some]
        refine Eq.trans (t_ImgR2 ..) ?_
        rw [Mem.get_set_same, nCells]
        rfl
      · rw [eo]
        refine ⟨a, rfl, fun hne => ?_⟩
        obtain ⟨c, q1, q2, q3, q4⟩ := hcode hne
        have hcne : c ≠ M.size := by rintro rfl; rw [keep1_same] at q3; cases q3
        rw [keep1_ne hcne] at q3
        exact ⟨c, q1, q2, q3, (Mem.get_set_ne _ hcne _).trans q4⟩
  · have ee : errS rs = (checkS rs).2 := by rw [errS, if_neg he]
    have eo : outS rs = [] := by rw [outS, if_neg (by rw [ee]; exact he)]
    refine ⟨.slice none 0 0, M1.set M.size (.cells true [.slice none 0 0, .slice none 0 0]), call_of 24 (hO.off 9 (by decide) _ _) at9 bd9 n9 ?_ ok9, Hp.unbox h1 hKM, by rw [eo]; exact CodeAt.none _ _, by show M.size ≤ M1.size; omega⟩
    subst hve
    refine Eq.trans (markS_eq [3, 6, 7] Tryd.prog kp 1 _ (Y.lpOf Tryd.prog kp 1 (callN Tryd.prog kp 1 o k) 24) (fun _ _ _ _ _ _ _ => rfl) 24 k (bodyOf Tryd.f9) (by kernel_rfl) _ M _) ?_
    refine Eq.trans (t_Img_in ..) ?_
    refine step c1 ?_
    rw [nAsTup, nUncC, nAsInt, nKEq, nCondT, nUncC, nAsInt, nKEq, nCondT, nUncN, notB, eqF_f he, nCondF, ee]
    refine Eq.trans (loop_reg _ _ _ (by kernel_rfl) _ _ _ _) ?_
    refine Eq.trans (r9_3_eq ..) ?_
    refine Eq.trans (t_Img3 ..) ?_
    rw [Y.storeF_eq, agg2_store g1, Y.ob_some]
    refine Eq.trans (t_ImgR0 ..) ?_
    rw [Mem.get_set_same, nCells]
    rfl
theorem sum_take {l : List RuleT} {i : Nat} {r : RuleT} (h : l[i]? = some r) : ((l.take (i + 1)).map fun r => r.tests.length).sum = ((l.take i).map fun r => r.tests.length).sum + r.tests.length := by
  rw [List.take_add_one, h, Option.toList_some, List.map_append, List.sum_append]
  simp
def longW (rs : List RuleT) : Int := IntKind.wrap .i64 (longN rs : Int)
def runW (rs : List RuleT) (i : Nat) : Int := IntKind.wrap .i64 ((rs.length + ((rs.take i).map fun r => r.tests.length).sum : Nat) : Int)
theorem wrap_succL {i : Nat} (h : i ≤ 4611686018427387904) : IntKind.wrap .i64 (Int.add (i : Int) (1 : Int)) = ((i + 1 : Nat) : Int) := IntWalk.i64_in _ (by show _ ≤ (i : Int) + 1 ∧ (i : Int) + 1 ≤ _; omega)
theorem run_next {rs : List RuleT} {i : Nat} {r : RuleT} (h : rs[i]? = some r) : IntKind.wrap .i64 (Int.add (runW rs i) (Int.ofNat r.tests.length)) = runW rs (i + 1) := by
  unfold runW
  rw [sum_take h]
  show IntKind.wrap .i64 (IntKind.wrap .i64 _ + (r.tests.length : Int)) = _
  simp only [IntKind.wrap_i64]
  omega
theorem run_zero {rs : List RuleT} (h : rs.length * 32 ≤ 140737488355328) : runW rs 0 = (rs.length : Int) := by
  unfold runW
  rw [List.take_zero]
  exact IntWalk.i64_in _ (by show _ ≤ ((rs.length + 0 : Nat) : Int) ∧ ((rs.length + 0 : Nat) : Int) ≤ _; omega)
theorem run_all (rs : List RuleT) : runW rs rs.length = longW rs := by
  unfold runW longW longN
  rw [List.take_length]
theorem long_loop {rs : List RuleT} {rest : List Value} {vr : List (Value × RuleT)} {own : Bool} {rb rc : Nat} {rp : Option Nat} (hlen : rs.length * 32 ≤ 140737488355328) (hrs : vr.map (·.2) = rs) (hrb : K rb = some (.cells own (vr.flatMap ruleC ++ rest))) (hv : ∀ x ∈ vr, tstsAt K x.1 x.2.tests) :
    ∀ (d i : Nat), vr.length = i + d → ∀ (jj : Nat) (M : Mem), d + 1 ≤ jj → Hp M K [] →
    ∃ M', (∀ x, Lands 22 [(3, .int .i64 (longW rs)), (8, .slice (some ⟨rb, 0, rp⟩) vr.length rc), (9, .int .i64 (vr.length : Int)), (10, .int .i64 (vr.length : Int))] (.exit 0) M' (loopD (codeD Tryd.prog kp 1 (callN Tryd.prog kp 1 o k) (drawD Tryd.prog kp 1 (callN Tryd.prog kp 1 o k) 22) 22 k (loopN Tryd.f6 0)) jj (fullN 22 (up x [(3, .int .i64 (runW rs i)), (8, .slice (some ⟨rb, 0, rp⟩) vr.length rc), (9, .int .i64 (vr.length : Int)), (10, .int .i64 (i : Int))])) M)) ∧ Hp M' K []
  | 0, i, hi, jj, M, hjj, h => by
    obtain ⟨jj, rfl⟩ : ∃ j', jj = j' + 1 := ⟨jj - 1, by omega⟩
    obtain rfl : i = vr.length := by omega
    have hl : rs.length = vr.length := by rw [← hrs, List.length_map]
    refine ⟨M, fun x => Lands.stop (Lands.turn ?_) (by simp), h⟩
    refine Lands.via (markS_eq [4] Tryd.prog kp 1 _ (Y.lpOf Tryd.prog kp 1 (callN Tryd.prog kp 1 o k) 22) (fun _ _ _ _ _ _ _ => rfl) 22 k (loopN Tryd.f6 0) (by kernel_rfl) _ M _) ?_
    refine Lands.via (t_LonA ..) ?_
    rw [ge_len (by omega), nCondF, ← hl, run_all]
    exact Lands.here _
  | d + 1, i, hi, jj, M, hjj, h => by
    obtain ⟨jj, rfl⟩ : ∃ j', jj = j' + 1 := ⟨jj - 1, by omega⟩
    have hl : rs.length = vr.length := by rw [← hrs, List.length_map]
    have hlt : i < vr.length := by omega
    obtain ⟨p, hp⟩ : ∃ p, vr[i]? = some p := ⟨_, List.getElem?_eq_getElem hlt⟩
    obtain ⟨v, r⟩ := p
    have hpm : (v, r) ∈ vr := List.mem_of_getElem? hp
    have hri : rs[i]? = some r := by rw [← hrs, List.getElem?_map, hp]; rfl
    have gb := h.get hrb
    have hvt : tstsAt K v r.tests := hv _ hpm
    obtain ⟨ta, tc, rfl, _⟩ := hvt
    obtain ⟨M1, hM1⟩ : ∃ M1, (M.push (.cells true [(.slice none 0 0), (.int Go.IntKind.u32 (0 : Int))])).set M.size (.cells true (ruleC (.slice ta r.tests.length tc, r))) = M1 := ⟨_, rfl⟩
    have gx : M1.get M.size = .cells true (ruleC (.slice ta r.tests.length tc, r)) := by rw [← hM1]; exact Mem.get_set_same _ _ _
    have h1 : Hp M1 K [] := h.ext (hM1 ▸ Ext.fresh)
    have hst : storeD Tryd.prog (M.push (.cells true [(.slice none 0 0), (.int Go.IntKind.u32 (0 : Int))])) 49 (.agg ⟨ruleC (.slice ta r.tests.length tc, r)⟩) (.pointer (some ⟨M.size, 0, none⟩)) = some M1 := by
      rw [storeD_at (n := 2) sz49 rfl (Mem.get_push_same _ _) (by simp) rfl, ← hM1]
      rfl
    obtain ⟨M2, h2, h3⟩ := long_loop (rc := rc) (rp := rp) hlen hrs hrb hv d (i + 1) (by omega) jj M1 (by omega) h1
    refine ⟨M2, fun x => Lands.next (Lands.turn ?_) h2, h3⟩
    refine Lands.via (markS_eq [4] Tryd.prog kp 1 _ (Y.lpOf Tryd.prog kp 1 (callN Tryd.prog kp 1 o k) 22) (fun _ _ _ _ _ _ _ => rfl) 22 k (loopN Tryd.f6 0) (by kernel_rfl) _ M _) ?_
    refine Lands.via (t_LonA ..) ?_
    rw [lt_len hlt, nCondT]
    refine Lands.via (loop_reg _ _ _ (by kernel_rfl) _ _ _ _) ?_
    refine Lands.via (r6_4_eq ..) ?_
    refine Lands.via (opsF_cut 3 ..) ?_
    refine Lands.via (t_LonR ..) ?_
    rw [nOnNat, blt_t hlt, nCondT, gb, nCells, chunk_ble ruleC_len hlt, nCondT, chunk_sub ruleC_len hp]
    refine Lands.via (t_LonRS ..) ?_
    rw [Y.storeF_eq, hst, Y.ob_some]
    refine Lands.via (t_LonB ..) ?_
    rw [gx, nCells, show Y.nthL (ruleC (Value.slice ta r.tests.length tc, r)) 0 = some (.slice ta r.tests.length tc) from rfl, nElim, nAsSl, wrap_succL (by omega), run_next hri]
    exact Lands.here _
theorem long_do {rs : List RuleT} {v : Value} (hO : Orq o) (hk : rs.length + 100 ≤ k) (hlen : rs.length * 32 ≤ 140737488355328) (hv : rulesAt K v rs) (h : Hp M K []) :
    ∃ M', callN Tryd.prog kp 1 o k 6 [v] M = some (.bool (decide (5000 < longW rs)), M') ∧ Hp M' K [] := by
  obtain ⟨k, rfl⟩ : ∃ k', k = k' + 1 := ⟨k - 1, by omega⟩
  obtain ⟨ra, rc, rfl, hv⟩ := hv
  obtain ⟨M', hloop, h'⟩ : ∃ M', (∀ x, Lands 22 [(3, .int .i64 (longW rs)), (8, .slice ra rs.length rc), (9, .int .i64 (rs.length : Int)), (10, .int .i64 (rs.length : Int))] (.exit 0) M' (loopD (codeD Tryd.prog kp 1 (callN Tryd.prog kp 1 o k) (drawD Tryd.prog kp 1 (callN Tryd.prog kp 1 o k) 22) 22 k (loopN Tryd.f6 0)) k (fullN 22 (up x [(3, .int .i64 (rs.length : Int)), (8, .slice ra rs.length rc), (9, .int .i64 (rs.length : Int)), (10, .int .i64 (0 : Int))])) M)) ∧ Hp M' K [] := by
    by_cases e : rs = []
    · subst e
      obtain ⟨k, rfl⟩ : ∃ k', k = k' + 1 := ⟨k - 1, by omega⟩
      have e0 : longW [] = 0 := IntWalk.i64_in 0 (by omega)
      rw [e0]
      exact ⟨M, fun x => Lands.stop (Lands.turn (Lands.via (t_LonA0 ..) (Lands.here _))) (by simp), h⟩
    · obtain ⟨rb, rp, own, rest, vr, rfl, hrs, hrb, hvt⟩ := hv e
      have hl2 : rs.length = vr.length := by rw [← hrs, List.length_map]
      obtain ⟨M', q1, q2⟩ := long_loop (o := o) (k := k) (rc := rc) (rp := rp) hlen hrs hrb hvt vr.length 0 (by omega) k M (by omega) h
      refine ⟨M', fun x => ?_, q2⟩
      have := q1 x
      rw [← hl2, run_zero hlen] at this
      exact this
  refine ⟨M', call_of 22 (hO.off 6 (by decide) _ _) at6 bd6 n6 ?_ ok6, h'⟩
  refine Eq.trans (t_Lon_in ..) ?_
  rw [Y.lpOf_eq, Y.loopC_body]
  simp only [Int.ofNat_eq_natCast]
  refine onE_land (hloop _) fun x' => ?_
  refine Eq.trans (t_Lon_out ..) ?_
  by_cases hc : 5000 < longW rs
  · rw [decide_eq_true hc, ltF_t hc, nCondT]
  · rw [decide_eq_false hc, ltF_f hc, nCondF]
end
end
end Go.Proofs.YtadioopbehiakaaDoor
namespace Go.Proofs.YtadioopbehiakaaDoor
open Go Go.DI Go.DI.Kit Go.Proofs Go.Cmp
noncomputable section
set_option maxHeartbeats 4000000
variable {α : Type} (x : Nat → Value) (cf : Y.CF α) (L : Y.LK α) (k : Nat) (m : Mem)
def c7 : Code := markS [4, 5, 6, 11] (loopN Tryd.f7 0)
def r7_4 : List Oper := regOps 4 (bodyOf Tryd.f7)
def r7_5 : List Oper := regOps 5 (bodyOf Tryd.f7)
def r7_6 : List Oper := regOps 6 (bodyOf Tryd.f7)
def r7_11 : List Oper := regOps 11 (bodyOf Tryd.f7)
def c7i : Code := markS [8, 9] (loopN Tryd.f7 1)
def r7_8 : List Oper := regOps 8 (bodyOf Tryd.f7)
def r7_9 : List Oper := regOps 9 (bodyOf Tryd.f7)
theorem t_Our_in (ra : Option Addr) (rn rc : Nat) (q : Value → Mem → Option α) : Y.codeF (bodyOf Tryd.f7) Tryd.prog kp 1 (Y.cfT Tryd.prog cf) L 52 k (fullN 52 (argX [.slice ra rn rc])) m (Y.retF Tryd.prog Tryd.f7 q) =
  (L (fun t m q=>Y.codeF (Y.loopC (bodyOf Tryd.f7) 0) Tryd.prog kp 1 (Y.cfT Tryd.prog cf) L 52 k t m q) (Y.loopC (bodyOf Tryd.f7) 0) k (fullN 52 (up (up Go.DI.x0 [(0,(.slice ra rn rc)),(2,(.slice none 0 0))]) [(3,(.slice none 0 0)),(9,(.slice ra rn rc)),(10,(.int .i64 (Int.ofNat rn))),(11,(.int .i64 (0:Int)))])) m (Y.kont Tryd.prog kp 1 (Y.cfT Tryd.prog cf) L 52 k (bodyOf Tryd.f7) 0 (Y.retF Tryd.prog Tryd.f7 q))):=by kernel_rfl
theorem t_OurA (oa : Option Addr) (on : Nat) (rb : Nat) (rp : Option Nat) (rn rc : Nat) (i : Int) (q : Y.ExK α) : Y.codeF c7 Tryd.prog kp 1 (Y.cfT Tryd.prog cf) L 52 k (fullN 52 (up x [(3,.slice oa on on),(9,.slice (some ⟨rb,0,rp⟩) rn rc),(10,.int .i64 rn),(11,.int .i64 i)])) m q =
  (cond (Y.ltF i (Int.ofNat rn)) (L (Y.codeF (Y.loopC c7 0) Tryd.prog kp 1 (Y.cfT Tryd.prog cf) L 52 k) (Y.loopC c7 0) k (fullN 52 (up (up x [(12,(.bool true))]) [(3,(.slice oa on on)),(9,(.slice (some (Addr.mk rb 0 rp)) rn rc)),(10,(.int .i64 (Int.ofNat rn))),(11,(.int .i64 i))])) m (Y.kont Tryd.prog kp 1 (Y.cfT Tryd.prog cf) L 52 k c7 0 q)) (q (Ex.exit 0) (fullN 52 (up (up x [(12,(.bool false))]) [(3,(.slice oa on on)),(9,(.slice (some (Addr.mk rb 0 rp)) rn rc)),(10,(.int .i64 (Int.ofNat rn))),(11,(.int .i64 i))])) m)):=by kernel_rfl
theorem t_OurR (oa : Option Addr) (on : Nat) (rb : Nat) (rp : Option Nat) (rn rc : Nat) (i : Int) (q : Tmps → Mem → Option α) : Y.opsF (List.take 3 r7_4) Tryd.prog kp 1 (Y.cfT Tryd.prog cf) 52 r7_4 (fullN 52 (up x [(3,.slice oa on on),(9,.slice (some ⟨rb,0,rp⟩) rn rc),(10,.int .i64 rn),(11,.int .i64 i)])) m q =
  (Y.onNat i (fun i_12=>(cond (Nat.blt i_12 rn) (Y.cellsOf (Mem.get m rb) (fun _ c_14=>(cond (Nat.ble (Nat.add (Nat.add 0 (Nat.mul i_12 2)) 2) (Y.lenLF c_14)) (q (fullN 52 (up (up x [(13,(.pointer (some (Addr.mk rb (Nat.add 0 (Nat.mul i_12 2)) none))))]) [(3,(.slice oa on on)),(5,(.pointer (some (Addr.mk (Mem.size m) 0 none)))),(9,(.slice (some (Addr.mk rb 0 rp)) rn rc)),(10,(.int .i64 (Int.ofNat rn))),(11,(.int .i64 i)),(14,(.agg ⟨(Y.subL c_14 (Nat.add 0 (Nat.mul i_12 2)) 2)⟩))])) (Mem.push m (.cells true [(.slice none 0 0),(.int Go.IntKind.u32 (0:Int))]))) none))) none))):=by kernel_rfl
theorem t_OurB (oa : Option Addr) (on : Nat) (rb : Nat) (rp : Option Nat) (rn rc : Nat) (i : Int) (xb : Nat) (q : Y.ExK α) : Y.kont Tryd.prog kp 1 (Y.cfT Tryd.prog cf) L 52 k c7 0 q .normal (fullN 52 (up x [(3,.slice oa on on),(5,.pointer (some ⟨xb,0,none⟩)),(9,.slice (some ⟨rb,0,rp⟩) rn rc),(10,.int .i64 rn),(11,.int .i64 i)])) m =
  (L (Y.codeF (Y.loopC c7 1) Tryd.prog kp 1 (Y.cfT Tryd.prog cf) L 52 k) (Y.loopC c7 1) k (fullN 52 (up x [(3,(.slice oa on on)),(5,(.pointer (some (Addr.mk xb 0 none)))),(9,(.slice (some (Addr.mk rb 0 rp)) rn rc)),(10,(.int .i64 (Int.ofNat rn))),(11,(.int .i64 i))])) m (Y.kont Tryd.prog kp 1 (Y.cfT Tryd.prog cf) L 52 k c7 1 q)):=by kernel_rfl
theorem t_Our5 (oa : Option Addr) (on : Nat) (rb : Nat) (rp : Option Nat) (rn rc : Nat) (i : Int) (xb : Nat) (q : Tmps → Mem → Option α) : Y.opsF (List.take 4 r7_5) Tryd.prog kp 1 (Y.cfT Tryd.prog cf) 52 r7_5 (fullN 52 (up x [(3,.slice oa on on),(5,.pointer (some ⟨xb,0,none⟩)),(9,.slice (some ⟨rb,0,rp⟩) rn rc),(10,.int .i64 rn),(11,.int .i64 i)])) m q =
  (Y.cellsOf (Mem.get m xb) (fun _ c_14=>(Option.elim (Y.nthL c_14 1) none (fun o15=>(Y.asInt o15 (fun k'_16 n_17=>(cond (Y.kEq Go.IntKind.u32 k'_16) (q (fullN 52 (up (up x [(16,(.int Go.IntKind.u32 n_17)),(15,(.pointer (some (Addr.mk xb 1 none))))]) [(3,(.slice oa on on)),(5,(.pointer (some (Addr.mk xb 0 none)))),(6,(.pointer (some (Addr.mk (Mem.size m) 0 none)))),(9,(.slice (some (Addr.mk rb 0 rp)) rn rc)),(10,(.int .i64 (Int.ofNat rn))),(11,(.int .i64 i)),(17,(.agg ⟨[(.slice none 0 0),(.int Go.IntKind.u32 n_17)]⟩))])) (Mem.push m (.cells true [(.slice none 0 0),(.int Go.IntKind.u32 (0:Int))]))) none)) none))))):=by kernel_rfl
theorem t_OurC (oa : Option Addr) (on : Nat) (rb : Nat) (rp : Option Nat) (rn rc : Nat) (i : Int) (xb : Nat) (yb : Nat) (q : Y.ExK α) : Y.kont Tryd.prog kp 1 (Y.cfT Tryd.prog cf) L 52 k c7 1 q .normal (fullN 52 (up x [(3,.slice oa on on),(5,.pointer (some ⟨xb,0,none⟩)),(6,.pointer (some ⟨yb,0,none⟩)),(9,.slice (some ⟨rb,0,rp⟩) rn rc),(10,.int .i64 rn),(11,.int .i64 i)])) m =
  (L (Y.codeF (Y.loopC c7 2) Tryd.prog kp 1 (Y.cfT Tryd.prog cf) L 52 k) (Y.loopC c7 2) k (fullN 52 (up x [(3,(.slice oa on on)),(5,(.pointer (some (Addr.mk xb 0 none)))),(6,(.pointer (some (Addr.mk yb 0 none)))),(9,(.slice (some (Addr.mk rb 0 rp)) rn rc)),(10,(.int .i64 (Int.ofNat rn))),(11,(.int .i64 i))])) m (Y.kont Tryd.prog kp 1 (Y.cfT Tryd.prog cf) L 52 k c7 2 q)):=by kernel_rfl
theorem t_Our6 (oa : Option Addr) (on : Nat) (rb : Nat) (rp : Option Nat) (rn rc : Nat) (i : Int) (xb : Nat) (yb : Nat) (q : Tmps → Mem → Option α) : Y.opsF (r7_6) Tryd.prog kp 1 (Y.cfT Tryd.prog cf) 52 r7_6 (fullN 52 (up x [(3,.slice oa on on),(5,.pointer (some ⟨xb,0,none⟩)),(6,.pointer (some ⟨yb,0,none⟩)),(9,.slice (some ⟨rb,0,rp⟩) rn rc),(10,.int .i64 rn),(11,.int .i64 i)])) m q =
  (Y.cellsOf (Mem.get m xb) (fun _ c_15=>(Option.elim (Y.nthL c_15 0) none (fun o16=>(Y.asSl o16 (fun a_17 n_18 c_19=>(q (fullN 52 (up (up x [(18,(.pointer (some (Addr.mk xb 0 none)))),(5,(.pointer (some (Addr.mk xb 0 none))))]) [(3,(.slice oa on on)),(6,(.pointer (some (Addr.mk yb 0 none)))),(9,(.slice (some (Addr.mk rb 0 rp)) rn rc)),(10,(.int .i64 (Int.ofNat rn))),(11,(.int .i64 i)),(19,(.slice a_17 n_18 c_19)),(20,(.int .i64 (Int.ofNat n_18))),(21,(.int .i64 (0:Int)))])) m)) none))))):=by kernel_rfl
theorem t_OurD (oa : Option Addr) (on : Nat) (rb : Nat) (rp : Option Nat) (rn rc : Nat) (i : Int) (yb : Nat) (ta : Option Addr) (tn tc : Nat) (j : Int) (q : Y.ExK α) : Y.kont Tryd.prog kp 1 (Y.cfT Tryd.prog cf) L 52 k c7 2 q .normal (fullN 52 (up x [(3,.slice oa on on),(6,.pointer (some ⟨yb,0,none⟩)),(9,.slice (some ⟨rb,0,rp⟩) rn rc),(10,.int .i64 rn),(11,.int .i64 i),(19,.slice ta tn tc),(20,.int .i64 tn),(21,.int .i64 j)])) m =
  (L (Y.codeF (Y.loopC c7 3) Tryd.prog kp 1 (Y.cfT Tryd.prog cf) L 52 k) (Y.loopC c7 3) k (fullN 52 (up x [(3,(.slice oa on on)),(6,(.pointer (some (Addr.mk yb 0 none)))),(9,(.slice (some (Addr.mk rb 0 rp)) rn rc)),(10,(.int .i64 (Int.ofNat rn))),(11,(.int .i64 i)),(19,(.slice ta tn tc)),(20,(.int .i64 (Int.ofNat tn))),(21,(.int .i64 j))])) m (Y.kont Tryd.prog kp 1 (Y.cfT Tryd.prog cf) L 52 k c7 3 q)):=by kernel_rfl
theorem t_OurE (oa : Option Addr) (on : Nat) (rb : Nat) (rp : Option Nat) (rn rc : Nat) (i : Int) (yb : Nat) (ta : Option Addr) (tn tc : Nat) (j : Int) (q : Y.ExK α) : Y.kont Tryd.prog kp 1 (Y.cfT Tryd.prog cf) L 52 k c7 3 q (.exit 2) (fullN 52 (up x [(3,.slice oa on on),(6,.pointer (some ⟨yb,0,none⟩)),(9,.slice (some ⟨rb,0,rp⟩) rn rc),(10,.int .i64 rn),(11,.int .i64 i),(19,.slice ta tn tc),(20,.int .i64 tn),(21,.int .i64 j)])) m =
  (L (Y.codeF (Y.loopC c7 4) Tryd.prog kp 1 (Y.cfT Tryd.prog cf) L 52 k) (Y.loopC c7 4) k (fullN 52 (up (up x [(20,(.int .i64 (Int.ofNat tn))),(21,(.int .i64 j)),(19,(.slice ta tn tc))]) [(3,(.slice oa on on)),(6,(.pointer (some (Addr.mk yb 0 none)))),(9,(.slice (some (Addr.mk rb 0 rp)) rn rc)),(10,(.int .i64 (Int.ofNat rn))),(11,(.int .i64 i))])) m (Y.kont Tryd.prog kp 1 (Y.cfT Tryd.prog cf) L 52 k c7 4 q)):=by kernel_rfl
theorem t_Our11 (oa : Option Addr) (on : Nat) (rb : Nat) (rp : Option Nat) (rn rc : Nat) (i : Int) (yb : Nat) (q : Tmps → Mem → Option α) : Y.opsF (List.take 2 r7_11) Tryd.prog kp 1 (Y.cfT Tryd.prog cf) 52 r7_11 (fullN 52 (up x [(3,.slice oa on on),(6,.pointer (some ⟨yb,0,none⟩)),(9,.slice (some ⟨rb,0,rp⟩) rn rc),(10,.int .i64 rn),(11,.int .i64 i)])) m q =
  (Y.cellsOf (Mem.get m yb) (fun _ c_14=>(cond (Nat.ble 2 (Y.lenLF c_14)) (q (fullN 52 (up (up x [(6,(.pointer (some (Addr.mk yb 0 none)))),(3,(.slice oa on on))]) [(9,(.slice (some (Addr.mk rb 0 rp)) rn rc)),(10,(.int .i64 (Int.ofNat rn))),(11,(.int .i64 i)),(46,(.slice oa on on)),(47,(.agg ⟨(Y.subL c_14 0 2)⟩))])) m) none))):=by kernel_rfl
theorem t_Our11b (w9 w10 w11 : Value) (oa ya : Option Addr) (on yn yc : Nat) (ve : Int) (q : Tmps → Mem → Option α) : Y.opsF (List.take 1 (List.drop 2 r7_11)) Tryd.prog kp 1 (Y.cfT Tryd.prog cf) 52 r7_11 (fullN 52 (up x [(9,w9),(10,w10),(11,w11),(46,.slice oa on on),(47,.agg ⟨[.slice ya yn yc,.int .u32 ve]⟩)])) m q =
  (q (fullN 52 (up (up x [(47,(.agg ⟨[(.slice ya yn yc),(.int Go.IntKind.u32 ve)]⟩))]) [(9,w9),(10,w10),(11,w11),(46,(.slice oa on on)),(48,(.slice (some (Addr.mk (Mem.size m) 0 none)) 1 1))])) (Mem.push m (.cells true [(.slice ya yn yc),(.int Go.IntKind.u32 ve)]))):=by kernel_rfl
theorem t_OurF (oa : Option Addr) (on : Nat) (rb : Nat) (rp : Option Nat) (rn rc : Nat) (i : Int) (q : Y.ExK α) : Y.kont Tryd.prog kp 1 (Y.cfT Tryd.prog cf) L 52 k c7 4 q .normal (fullN 52 (up x [(3,.slice oa on on),(9,.slice (some ⟨rb,0,rp⟩) rn rc),(10,.int .i64 rn),(11,.int .i64 i)])) m =
  (q .normal (fullN 52 (up (up x [(50,(.int .i64 (IntKind.wrap .i64 (Int.add i (1:Int)))))]) [(3,(.slice oa on on)),(9,(.slice (some (Addr.mk rb 0 rp)) rn rc)),(10,(.int .i64 (Int.ofNat rn))),(11,(.int .i64 (IntKind.wrap .i64 (Int.add i (1:Int)))))])) m):=by kernel_rfl
theorem t_OurI (oa : Option Addr) (on : Nat) (rb : Nat) (rp : Option Nat) (rn rc : Nat) (i : Int) (yb tb : Nat) (tp : Option Nat) (tn tc : Nat) (j : Int) (q : Y.ExK α) : Y.codeF c7i Tryd.prog kp 1 (Y.cfT Tryd.prog cf) L 52 k (fullN 52 (up x [(3,.slice oa on on),(6,.pointer (some ⟨yb,0,none⟩)),(9,.slice (some ⟨rb,0,rp⟩) rn rc),(10,.int .i64 rn),(11,.int .i64 i),(19,.slice (some ⟨tb,0,tp⟩) tn tc),(20,.int .i64 tn),(21,.int .i64 j)])) m q =
  (cond (Y.ltF j (Int.ofNat tn)) (L (Y.codeF (Y.loopC c7i 0) Tryd.prog kp 1 (Y.cfT Tryd.prog cf) L 52 k) (Y.loopC c7i 0) k (fullN 52 (up (up x [(22,(.bool true))]) [(3,(.slice oa on on)),(6,(.pointer (some (Addr.mk yb 0 none)))),(9,(.slice (some (Addr.mk rb 0 rp)) rn rc)),(10,(.int .i64 (Int.ofNat rn))),(11,(.int .i64 i)),(19,(.slice (some (Addr.mk tb 0 tp)) tn tc)),(20,(.int .i64 (Int.ofNat tn))),(21,(.int .i64 j))])) m (Y.kont Tryd.prog kp 1 (Y.cfT Tryd.prog cf) L 52 k c7i 0 q)) (q (Ex.exit 2) (fullN 52 (up (up x [(22,(.bool false))]) [(3,(.slice oa on on)),(6,(.pointer (some (Addr.mk yb 0 none)))),(9,(.slice (some (Addr.mk rb 0 rp)) rn rc)),(10,(.int .i64 (Int.ofNat rn))),(11,(.int .i64 i)),(19,(.slice (some (Addr.mk tb 0 tp)) tn tc)),(20,(.int .i64 (Int.ofNat tn))),(21,(.int .i64 j))])) m)):=by kernel_rfl
theorem t_OurJ (oa : Option Addr) (on : Nat) (rb : Nat) (rp : Option Nat) (rn rc : Nat) (i : Int) (yb tb : Nat) (tp : Option Nat) (tn tc : Nat) (j : Int) (q : Tmps → Mem → Option α) : Y.opsF (List.take 3 r7_8) Tryd.prog kp 1 (Y.cfT Tryd.prog cf) 52 r7_8 (fullN 52 (up x [(3,.slice oa on on),(6,.pointer (some ⟨yb,0,none⟩)),(9,.slice (some ⟨rb,0,rp⟩) rn rc),(10,.int .i64 rn),(11,.int .i64 i),(19,.slice (some ⟨tb,0,tp⟩) tn tc),(20,.int .i64 tn),(21,.int .i64 j)])) m q =
  (Y.onNat j (fun i_18=>(cond (Nat.blt i_18 tn) (Y.cellsOf (Mem.get m tb) (fun _ c_20=>(cond (Nat.ble (Nat.add (Nat.add 0 (Nat.mul i_18 7)) 7) (Y.lenLF c_20)) (q (fullN 52 (up (up x [(23,(.pointer (some (Addr.mk tb (Nat.add 0 (Nat.mul i_18 7)) none))))]) [(3,(.slice oa on on)),(6,(.pointer (some (Addr.mk yb 0 none)))),(8,(.pointer (some (Addr.mk (Mem.size m) 0 none)))),(9,(.slice (some (Addr.mk rb 0 rp)) rn rc)),(10,(.int .i64 (Int.ofNat rn))),(11,(.int .i64 i)),(19,(.slice (some (Addr.mk tb 0 tp)) tn tc)),(20,(.int .i64 (Int.ofNat tn))),(21,(.int .i64 j)),(24,(.agg ⟨(Y.subL c_20 (Nat.add 0 (Nat.mul i_18 7)) 7)⟩))])) (Mem.push m (.cells true [(.bool false),(.int .i64 (0:Int)),(.int .i64 (0:Int)),(.int .i64 (0:Int)),(.int .u64 (0:Int)),(.int .u64 (0:Int)),(.int .u64 (0:Int))]))) none))) none))):=by kernel_rfl
theorem t_OurK (oa : Option Addr) (on : Nat) (rb : Nat) (rp : Option Nat) (rn rc : Nat) (i : Int) (yb tb : Nat) (tp : Option Nat) (tn tc : Nat) (j : Int) (zb : Nat) (q : Y.ExK α) : Y.kont Tryd.prog kp 1 (Y.cfT Tryd.prog cf) L 52 k c7i 0 q .normal (fullN 52 (up x [(3,.slice oa on on),(6,.pointer (some ⟨yb,0,none⟩)),(8,.pointer (some ⟨zb,0,none⟩)),(9,.slice (some ⟨rb,0,rp⟩) rn rc),(10,.int .i64 rn),(11,.int .i64 i),(19,.slice (some ⟨tb,0,tp⟩) tn tc),(20,.int .i64 tn),(21,.int .i64 j)])) m =
  (L (Y.codeF (Y.loopC c7i 1) Tryd.prog kp 1 (Y.cfT Tryd.prog cf) L 52 k) (Y.loopC c7i 1) k (fullN 52 (up x [(3,(.slice oa on on)),(6,(.pointer (some (Addr.mk yb 0 none)))),(8,(.pointer (some (Addr.mk zb 0 none)))),(9,(.slice (some (Addr.mk rb 0 rp)) rn rc)),(10,(.int .i64 (Int.ofNat rn))),(11,(.int .i64 i)),(19,(.slice (some (Addr.mk tb 0 tp)) tn tc)),(20,(.int .i64 (Int.ofNat tn))),(21,(.int .i64 j))])) m (Y.kont Tryd.prog kp 1 (Y.cfT Tryd.prog cf) L 52 k c7i 1 q)):=by kernel_rfl
theorem t_OurL (oa : Option Addr) (on : Nat) (rb : Nat) (rp : Option Nat) (rn rc : Nat) (i : Int) (yb tb : Nat) (tp : Option Nat) (tn tc : Nat) (j : Int) (zb : Nat) (q : Tmps → Mem → Option α) : Y.opsF (List.take 17 r7_9) Tryd.prog kp 1 (Y.cfT Tryd.prog cf) 52 r7_9 (fullN 52 (up x [(3,.slice oa on on),(6,.pointer (some ⟨yb,0,none⟩)),(8,.pointer (some ⟨zb,0,none⟩)),(9,.slice (some ⟨rb,0,rp⟩) rn rc),(10,.int .i64 rn),(11,.int .i64 i),(19,.slice (some ⟨tb,0,tp⟩) tn tc),(20,.int .i64 tn),(21,.int .i64 j)])) m q =
  (Y.cellsOf (Mem.get m yb) (fun _ c_20=>(Option.elim (Y.nthL c_20 0) none (fun o21=>(Y.asSl o21 (fun a_22 n_23 c_24=>(Y.cellsOf (Mem.get m zb) (fun _ c_26=>(Option.elim (Y.nthL c_26 0) none (fun o27=>(Y.asBo o27 (fun b_28=>(Y.cellsOf (Mem.get m zb) (fun _ c_30=>(Option.elim (Y.nthL c_30 1) none (fun o31=>(Y.asInt o31 (fun k'_32 n_33=>(cond (Y.kEq .i64 k'_32) (Y.cellsOf (Mem.get m zb) (fun _ c_35=>(Option.elim (Y.nthL c_35 2) none (fun o36=>(Y.asInt o36 (fun k'_37 n_38=>(cond (Y.kEq .i64 k'_37) (Y.cellsOf (Mem.get m zb) (fun _ c_40=>(Option.elim (Y.nthL c_40 3) none (fun o41=>(Y.asInt o41 (fun k'_42 n_43=>(cond (Y.kEq .i64 k'_42) (Y.cellsOf (Mem.get m zb) (fun _ c_45=>(Option.elim (Y.nthL c_45 4) none (fun o46=>(Y.asInt o46 (fun k'_47 n_48=>(cond (Y.kEq .u64 k'_47) (Y.cellsOf (Mem.get m zb) (fun _ c_50=>(Option.elim (Y.nthL c_50 5) none (fun o51=>(Y.asInt o51 (fun k'_52 n_53=>(cond (Y.kEq .u64 k'_52) (Y.cellsOf (Mem.get m zb) (fun _ c_55=>(Option.elim (Y.nthL c_55 6) none (fun o56=>(Y.asInt o56 (fun k'_57 n_58=>(cond (Y.kEq .u64 k'_57) (q (fullN 52 (up (up x [(32,(.int .i64 n_38)),(8,(.pointer (some (Addr.mk zb 0 none)))),(40,(.int .u64 n_58)),(36,(.int .u64 n_48)),(28,(.bool b_28)),(34,(.int .i64 n_43)),(38,(.int .u64 n_53)),(30,(.int .i64 n_33)),(33,(.pointer (some (Addr.mk zb 3 none)))),(25,(.pointer (some (Addr.mk yb 0 none)))),(37,(.pointer (some (Addr.mk zb 5 none)))),(29,(.pointer (some (Addr.mk zb 1 none)))),(35,(.pointer (some (Addr.mk zb 4 none)))),(27,(.pointer (some (Addr.mk zb 0 none)))),(39,(.pointer (some (Addr.mk zb 6 none)))),(31,(.pointer (some (Addr.mk zb 2 none))))]) [(3,(.slice oa on on)),(6,(.pointer (some (Addr.mk yb 0 none)))),(9,(.slice (some (Addr.mk rb 0 rp)) rn rc)),(10,(.int .i64 (Int.ofNat rn))),(11,(.int .i64 i)),(19,(.slice (some (Addr.mk tb 0 tp)) tn tc)),(20,(.int .i64 (Int.ofNat tn))),(21,(.int .i64 j)),(26,(.slice a_22 n_23 c_24)),(41,(.agg ⟨[(.bool b_28),(.int .i64 n_33),(.int .i64 n_38),(.int .i64 n_43),(.int .u64 n_48),(.int .u64 n_53),(.int .u64 n_58)]⟩))])) m) none)) none))))) none)) none))))) none)) none))))) none)) none))))) none)) none))))) none)) none)))))) none)))))) none))))):=by kernel_rfl
theorem t_OurLb (oa : Option Addr) (on : Nat) (rb : Nat) (rp : Option Nat) (rn rc : Nat) (i : Int) (yb tb : Nat) (tp : Option Nat) (tn tc : Nat) (j : Int) (w26 : Value) (g : Bool) (ki p s ma lo hi : Int) (q : Tmps → Mem → Option α) : Y.opsF (List.take 1 (List.drop 17 r7_9)) Tryd.prog kp 1 (Y.cfT Tryd.prog cf) 52 r7_9 (fullN 52 (up x [(3,.slice oa on on),(6,.pointer (some ⟨yb,0,none⟩)),(9,.slice (some ⟨rb,0,rp⟩) rn rc),(10,.int .i64 rn),(11,.int .i64 i),(19,.slice (some ⟨tb,0,tp⟩) tn tc),(20,.int .i64 tn),(21,.int .i64 j),(26,w26),(41,.agg ⟨[.bool g,.int .i64 ki,.int .i64 p,.int .i64 s,.int .u64 ma,.int .u64 lo,.int .u64 hi]⟩)])) m q =
  (q (fullN 52 (up (up x [(41,(.agg ⟨[(.bool g),(.int .i64 ki),(.int .i64 p),(.int .i64 s),(.int .u64 ma),(.int .u64 lo),(.int .u64 hi)]⟩))]) [(3,(.slice oa on on)),(6,(.pointer (some (Addr.mk yb 0 none)))),(9,(.slice (some (Addr.mk rb 0 rp)) rn rc)),(10,(.int .i64 (Int.ofNat rn))),(11,(.int .i64 i)),(19,(.slice (some (Addr.mk tb 0 tp)) tn tc)),(20,(.int .i64 (Int.ofNat tn))),(21,(.int .i64 j)),(26,w26),(42,(.slice (some (Addr.mk (Mem.size m) 0 none)) 1 1))])) (Mem.push m (.cells true [(.bool g),(.int .i64 ki),(.int .i64 p),(.int .i64 s),(.int .u64 ma),(.int .u64 lo),(.int .u64 hi)]))):=by kernel_rfl
theorem t_OurM (oa : Option Addr) (on : Nat) (rb : Nat) (rp : Option Nat) (rn rc : Nat) (i : Int) (yb tb : Nat) (tp : Option Nat) (tn tc : Nat) (j : Int) (q : Y.ExK α) : Y.kont Tryd.prog kp 1 (Y.cfT Tryd.prog cf) L 52 k c7i 1 q .normal (fullN 52 (up x [(3,.slice oa on on),(6,.pointer (some ⟨yb,0,none⟩)),(9,.slice (some ⟨rb,0,rp⟩) rn rc),(10,.int .i64 rn),(11,.int .i64 i),(19,.slice (some ⟨tb,0,tp⟩) tn tc),(20,.int .i64 tn),(21,.int .i64 j)])) m =
  (q .normal (fullN 52 (up (up x [(45,(.int .i64 (IntKind.wrap .i64 (Int.add j (1:Int)))))]) [(3,(.slice oa on on)),(6,(.pointer (some (Addr.mk yb 0 none)))),(9,(.slice (some (Addr.mk rb 0 rp)) rn rc)),(10,(.int .i64 (Int.ofNat rn))),(11,(.int .i64 i)),(19,(.slice (some (Addr.mk tb 0 tp)) tn tc)),(20,(.int .i64 (Int.ofNat tn))),(21,(.int .i64 (IntKind.wrap .i64 (Int.add j (1:Int)))))])) m):=by kernel_rfl
theorem t_Our_out (oa : Option Addr) (on : Nat) (w9 w10 w11 : Value) (q : Value → Mem → Option α) : Y.kont Tryd.prog kp 1 (Y.cfT Tryd.prog cf) L 52 k (bodyOf Tryd.f7) 0 (Y.retF Tryd.prog Tryd.f7 q) (.exit 0) (fullN 52 (up x [(3,.slice oa on on),(9,w9),(10,w10),(11,w11)])) m =
  (q (.slice oa on on) m):=by kernel_rfl
end
end Go.Proofs.YtadioopbehiakaaDoor
