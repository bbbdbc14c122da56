/-
  CLawS: the law CompileSizes: function 4 answers true.
-/
import Derived.Test.YtadioopbehiakaaDoorS18
set_option linter.all false
set_option linter.unusedVariables false
set_option linter.unusedSimpArgs false
namespace Go.Cmp
open Go Go.DI
theorem cns_lab (n : Nat) (l : List RowS) : cnt (lab (n + 1) :: l) = cnt l := by simp [cnt, isLab, lab]
theorem cns_ins (x : Ins) (to : Nat) (l : List RowS) : cnt (ins x to :: l) = cnt l + 1 := by simp [cnt, isLab, ins]
theorem cnt_nil : cnt [] = 0 := rfl
theorem cnt_told (a : Nat) (n : Int) (out : Nat) : cnt (toldS (a + 1) n out) = 2 := by simp [toldS, cns_ins, cns_lab, cnt_nil]
theorem cnt_held (op n : Int) (out : Nat) : cnt (heldS op n out) = if n < 2147483648 then 1 else 3 := by
  unfold heldS
  split <;> simp [cns_ins, cnt_nil]
theorem cnt_past (t : TestT) (out d : Nat) : ∀ m k n : Nat, cnt (pastK t out d m k n) = 5 * m
  | 0, _, _ => rfl
  | m + 1, k, n => by
    simp only [pastK, cnt_append, cnt_told, cns_ins, cns_lab, cnt_nil, cnt_past t out d m]
    omega
theorem cnt_ask (t : TestT) (n : Nat) : cnt (askS t n) = if t.kind = 1 then 1 else if t.kind = 2 then 1 else if t.kind = 3 then 3 else 84 := by
  unfold askS
  split
  · rfl
  split
  · rfl
  split
  · simp only [cnt_append, cnt_told, cns_ins, cnt_nil]
  · simp only [cnt_append, cnt_told, cns_ins, cns_lab, cnt_nil, cnt_past]
theorem cnt_bound (t : TestT) (out : Nat) : cnt (boundS t out) = cnt (boundS t 0) := by
  unfold boundS
  simp only [cnt_append]
  congr 1
  · split
    · rw [cnt_held, cnt_held]
    · rfl
  · split
    · rw [cnt_held, cnt_held]
    · rfl
theorem cnt_end (t : TestT) (n fail : Nat) : cnt (endS t (n + 1) (n + 2) fail) = if t.neg = true then 4 else 5 := by
  unfold endS
  split <;> simp [afreshS, cns_ins, cns_lab, cnt_nil]
theorem cnt_test (t : TestT) (fail n fail' n' : Nat) : cnt (testS t fail n) = cnt (testS t fail' n') := by
  simp only [testS, cnt_append, cnt_ask, cnt_end]
  rw [cnt_bound t (n + 1), cnt_bound t (n' + 1)]
theorem cnt_tests : ∀ (l : List TestT) (fail n fail' n' : Nat), cnt (testsS fail l n) = cnt (testsS fail' l n')
  | [], _, _, _, _ => rfl
  | t :: l, fail, n, fail', n' => by
    simp only [testsS, cnt_append]
    rw [cnt_test t fail n fail' n', cnt_tests l fail (askN t n) fail' (askN t n')]
theorem cnt_rule (r : RuleT) (n n' : Nat) : cnt (ruleS r n) = cnt (ruleS r n') := by
  have e : cnt (if r.tests = [] then [ins (iIf 5 2 0) (n + 1)] else []) = cnt (if r.tests = [] then [ins (iIf 5 2 0) (n' + 1)] else []) := by
    split <;> simp [cns_ins, cnt_nil]
  simp only [ruleS, cnt_append, cns_lab, cnt_nil]
  rw [cnt_tests r.tests (n + 1) (n + 1) (n' + 1) (n' + 1), e]
theorem cnt_rules : ∀ (l : List RuleT) (n n' : Nat), cnt (rulesS l n) = cnt (rulesS l n')
  | [], _, _ => rfl
  | r :: l, n, n' => by
    simp only [rulesS, cnt_append]
    rw [cnt_rule r n n', cnt_rules l (testsN r.tests (n + 1)) (testsN r.tests (n' + 1))]
theorem cnt_rules_app : ∀ (a b : List RuleT) (n : Nat), cnt (rulesS (a ++ b) n) = cnt (rulesS a n) + cnt (rulesS b n)
  | [], b, n => by simp [rulesS, cnt_nil]
  | r :: a, b, n => by
    simp only [List.cons_append, rulesS, cnt_append]
    rw [cnt_rules_app a b, cnt_rules b (testsN r.tests (n + 1)) n]
    omega
theorem made_len (l : List RuleT) : (madeS (tableS l)).length = cnt (rulesS l 0) + 7 := by
  unfold madeS
  rw [outGo_length]
  simp only [tableS, cnt_append, afreshS, lowS, cns_ins, cnt_nil]
  omega
theorem checkGo_of : ∀ (rs : List RuleT) (i : Nat), (∀ r ∈ rs, r.tests.length ≤ 8 ∧ r.tests.all mayT = true) → checkGo rs i = none
  | [], _, _ => rfl
  | r :: rs, i, h => by
    obtain ⟨h1, h2⟩ := h r (by simp)
    simp only [checkGo]
    rw [if_neg (by omega), if_pos h2]
    exact checkGo_of rs (i + 1) fun x hx => h x (by simp [hx])
end Go.Cmp
namespace Go.Proofs.YtadioopbehiakaaDoor
open Go Go.DI Go.DI.Kit Go.Proofs Go.Cmp
noncomputable section
theorem check_mk {rs : List RuleT} (h1 : rs.length ≤ 32) (h2 : ∀ r ∈ rs, r.tests.length ≤ 8 ∧ r.tests.all mayT = true) : (checkS rs).2 = 0 := by
  unfold checkS
  rw [if_neg (by omega), checkGo_of rs 0 h2]
  rfl
theorem check_app {a b : List RuleT} : (checkS (a ++ b)).2 = 0 ↔ (checkS a).2 = 0 ∧ (checkS b).2 = 0 ∧ a.length + b.length ≤ 32 := by
  constructor
  · intro h
    obtain ⟨h1, h2⟩ := check_ok h
    have h3 := checkGo_none _ 0 h2
    rw [List.length_append] at h1
    exact ⟨check_mk (by omega) fun r hr => h3 r (List.mem_append_left _ hr), check_mk (by omega) fun r hr => h3 r (List.mem_append_right _ hr), h1⟩
  · rintro ⟨h1, h2, h3⟩
    have h4 := checkGo_none _ 0 (check_ok h1).2
    have h5 := checkGo_none _ 0 (check_ok h2).2
    refine check_mk (by rw [List.length_append]; exact h3) fun r hr => ?_
    rcases List.mem_append.1 hr with hr | hr
    · exact h4 r hr
    · exact h5 r hr
theorem size_le {rs : List RuleT} (hr : TableRng rs) : sizeS rs ≤ 50000 := by
  unfold sizeS
  split
  · rename_i h
    have := tableS_len (tableOk_of h hr)
    have h2 := cnt_le (tableS rs)
    unfold madeS
    rw [outGo_length]
    omega
  · omega
theorem size_app {a b : List RuleT} (h1 : (checkS a).2 = 0) (h2 : (checkS b).2 = 0) (h3 : a.length + b.length ≤ 32) : (sizeS (a ++ b) : Int) = (sizeS a : Int) + (sizeS b : Int) - 7 := by
  rw [sizeS, sizeS, sizeS, if_pos (check_app.2 ⟨h1, h2, h3⟩), if_pos h1, if_pos h2, made_len, made_len, made_len, cnt_rules_app]
  omega
theorem at4 : Tryd.prog.funcs[4]? = some Tryd.f4 := by kernel_rfl
theorem bd4 : Tryd.f4.body = some (bodyOf Tryd.f4) := by kernel_rfl
theorem nt4 : Tryd.f4.ntmps = 111 := by kernel_rfl
theorem n4 {a b : Value} : max [a, b].length Tryd.f4.ntmps = 111 := by rw [nt4]; rfl
theorem ok4 {b : Bool} : okR Tryd.prog 4 (.bool b) = true := by kernel_rfl
theorem by49 : bytesOf Tryd.prog 49 = some 32 := by kernel_rfl
theorem ze49 : (zerosD Tryd.prog 49 1).isSome = true := by kernel_rfl
section
variable {α : Type} (x : Nat → Value) (cf : Y.CF α) (L : Y.LK α) (k : Nat) (m : Mem)
theorem r4_7_eq (t : Tmps) (q : Y.ExK α) : Y.codeF (Y.loopC c4 0) Tryd.prog kp 1 (Y.cfT Tryd.prog cf) L 111 k t m q = Y.opsF r4_7 Tryd.prog kp 1 (Y.cfT Tryd.prog cf) 111 r4_7 t m fun t m => q .normal t m := by kernel_rfl
theorem r4_9_eq (t : Tmps) (q : Y.ExK α) : Y.codeF (Y.loopC c4 1) Tryd.prog kp 1 (Y.cfT Tryd.prog cf) L 111 k t m q = Y.opsF r4_9 Tryd.prog kp 1 (Y.cfT Tryd.prog cf) 111 r4_9 t m fun t m => q .normal t m := by kernel_rfl
theorem t_Cs7 (w0 w1 w5 w6 w7 w8 : Value) (q : Tmps → Mem → Option α) : Y.opsF r4_7 Tryd.prog kp 1 (Y.cfT Tryd.prog cf) 111 r4_7 (fullN 111 (up x [(0, w0), (1, w1), (5, w5), (6, w6), (7, w7), (8, w8)])) m q =
  Y.appendF Tryd.prog (m.push (.cells true [])) 22 22 (.slice (some ⟨m.size, 0, none⟩) 0 0) w0 fun a m' => Y.appendF Tryd.prog m' 22 22 a w1 fun a' m'' => q (fullN 111 (up (up x [(34, .slice (some ⟨m.size, 0, none⟩) 0 0), (35, w0), (36, a), (37, w1), (38, a')]) [(0, w0), (1, w1), (5, w5), (6, w6), (7, w7), (8, w8), (9, a')])) m'' := by kernel_rfl
theorem t_Cs9S (b : Nat) (w5 w6 w7 w8 w9 w10 w11 w50 u : Value) (q : Tmps → Mem → Option α) : Y.opsF (List.drop 7 r4_9) Tryd.prog kp 1 (Y.cfT Tryd.prog cf) 111 r4_9 (fullN 111 (up x [(5, w5), (6, w6), (7, w7), (8, w8), (9, w9), (10, w10), (11, w11), (12, .pointer (some ⟨b, 0, none⟩)), (49, u), (50, w50)])) m q =
  Y.storeF Tryd.prog m 30 u (.pointer (some ⟨b, 0, none⟩)) fun m' => q (fullN 111 (up (up x [(49, u), (50, w50)]) [(5, w5), (6, w6), (7, w7), (8, w8), (9, w9), (10, w10), (11, w11), (12, .pointer (some ⟨b, 0, none⟩)), (13, w50)])) m' := by kernel_rfl
end
section
variable {K : Keep} {M : Mem} {o : Orc} {k : Nat}
def slOk (K : Keep) (v : Value) : Prop := ∃ a n c, v = .slice a n c ∧ (a = none ∨ ∃ b sp own cs, a = some ⟨b, 0, sp⟩ ∧ K b = some (.cells own cs))
theorem slOk.mono {K' : Keep} {v : Value} (h : slOk K v) (hw : ∀ j x, K j = some x → K' j = some x) : slOk K' v := by
  obtain ⟨a, n, c, h1, h2⟩ := h
  refine ⟨a, n, c, h1, h2.imp id ?_⟩
  rintro ⟨b, sp, own, cs, e1, e2⟩
  exact ⟨b, sp, own, cs, e1, hw _ _ e2⟩
def OutE (M : Mem) (K : Keep) (vr : List (Value × RuleT)) (oa : Option Addr) : Prop := (vr = [] ∧ ∃ b, oa = some ⟨b, 0, none⟩ ∧ M.get b = .cells true []) ∨ ∃ c, oa = some ⟨c, 0, some 2⟩ ∧ c < M.size ∧ K c = none ∧ M.get c = .cells true (vr.flatMap ruleC)
theorem append_zero {m : Mem} {a : Addr} {x : Value} {n : Nat} {new : List Value} (hl : lenOf x = some 0) (hf : firstC m 2 0 x = some new) :
    appendD Tryd.prog m 22 22 (.slice (some a) n n) x = some (.slice (some a) n n, m) := by
  obtain ⟨b, off, sp⟩ := a
  unfold appendD
  simp only [Tryd.underlying22, sz49, by49, hl, hf]
  rw [if_neg (by decide), if_pos (by omega), if_pos trivial]
  rfl
theorem append_emp {m : Mem} {b n : Nat} {x : Value} {new : List Value} (hg : m.get b = .cells true []) (hl : lenOf x = some n) (hn : 0 < n) (hbig : n ≤ 1000000) (hf : firstC m 2 n x = some new) (hnl : new.length = n * 2) (h1 : new.all one = true) :
    appendD Tryd.prog m 22 22 (.slice (some ⟨b, 0, none⟩) 0 0) x = some (.slice (some ⟨m.size, 0, some 2⟩) n n, m.push (.cells true new)) := by
  have hf0 : firstC m 2 0 (.slice (some ⟨b, 0, none⟩) 0 0) = some [] := loadC_at (rest := []) hg rfl
  unfold appendD
  simp only [Tryd.underlying22, sz49, by49, hl, hf, hf0]
  rw [if_neg (by decide), if_neg (by omega), if_pos ⟨by omega, by omega, by decide, ze49⟩, if_pos ⟨by rw [h1]; rfl, by simp, hnl⟩]
  simp
theorem outE_app {vr vb : List (Value × RuleT)} {oa ba : Option Addr} {bc : Nat} (hs : ∀ y ∈ vr, sliceV y.1) (hvs : ∀ y ∈ vb, sliceV y.1) (ho : OutE M K vr oa) (hv : vb ≠ [] → ∃ bb sp own rest, ba = some ⟨bb, 0, sp⟩ ∧ K bb = some (.cells own (vb.flatMap ruleC ++ rest))) (hsl : slOk K (.slice ba vb.length bc)) (hl : vr.length + vb.length ≤ 1000000) (h : Hp M K []) :
    ∃ oa' M', appendD Tryd.prog M 22 22 (.slice oa vr.length vr.length) (.slice ba vb.length bc) = some (.slice oa' (vr.length + vb.length) (vr.length + vb.length), M') ∧ Hp M' K [] ∧ OutE M' K (vr ++ vb) oa' := by
  by_cases e : vb = []
  · subst e
    obtain ⟨a, n, c, e1, e2⟩ := hsl
    cases e1
    have hf : ∃ new, firstC M 2 0 (.slice ba 0 bc) = some new := by
      rcases e2 with rfl | ⟨b, sp, own, cs, rfl, e2⟩
      · exact ⟨_, rfl⟩
      · exact ⟨[], loadC_at (c := []) (by rw [List.nil_append]; exact h.get e2) rfl⟩
    obtain ⟨new, hf⟩ := hf
    obtain ⟨a, rfl⟩ : ∃ a, oa = some a := by
      rcases ho with ⟨_, b, q1, _⟩ | ⟨c, q1, _⟩
      · exact ⟨_, q1⟩
      · exact ⟨_, q1⟩
    refine ⟨some a, M, append_zero rfl hf, h, ?_⟩
    rw [List.append_nil]; exact ho
  · obtain ⟨bb, sp, own, rest, rfl, hK⟩ := hv e
    have hpos : 0 < vb.length := List.length_pos_iff.2 e
    have hf : firstC M 2 vb.length (.slice (some ⟨bb, 0, sp⟩) vb.length bc) = some (vb.flatMap ruleC) := loadC_at (h.get hK) (chunk_len ruleC_len vb)
    rcases ho with ⟨rfl, b, rfl, hg⟩ | ⟨c, rfl, q2, q3, q4⟩
    · refine ⟨_, M.push (.cells true (vb.flatMap ruleC)), ?_, h.ext (Ext.push _ _), .inr ⟨_, rfl, ?_, h.no (Nat.le_refl _), ?_⟩⟩
      · have := append_emp hg (x := .slice (some ⟨bb, 0, sp⟩) vb.length bc) rfl hpos (by simpa using hl) hf (chunk_len ruleC_len vb) (rules_one hvs)
        rw [List.length_nil, Nat.zero_add]; exact this
      · show M.size < M.size + 1; omega
      · rw [Mem.get_push_same]; rfl
    · refine ⟨_, _, append_own Tryd.underlying22 sz49 (by decide) by49 (by decide) ze49 q4 (chunk_len ruleC_len vr) (rules_one hs) (n := vb.length) rfl hpos (by omega) hf (chunk_len ruleC_len vb) (rules_one hvs), ?_, .inr ⟨_, rfl, ?_, h.no (Nat.le_refl _), ?_⟩⟩
      · exact (h.ext (Ext.push _ _)).free_set (by show c < M.size + 1; omega) q3
      · show M.size < M.size + 1; omega
      · rw [Mem.get_set_ne _ (by omega), Mem.get_push_same, List.flatMap_append]
theorem both_app {a b : List RuleT} {ra wa : Option Addr} {rc wc : Nat} (ha : rulesAt K (.slice ra a.length rc) a) (hb : rulesAt K (.slice wa b.length wc) b) (sa : slOk K (.slice ra a.length rc)) (sb : slOk K (.slice wa b.length wc)) (hl : a.length + b.length ≤ 1000000) (h : Hp M K []) :
    ∃ v1 M1 v2 M2 K2, appendD Tryd.prog (M.push (.cells true [])) 22 22 (.slice (some ⟨M.size, 0, none⟩) 0 0) (.slice ra a.length rc) = some (v1, M1) ∧ appendD Tryd.prog M1 22 22 v1 (.slice wa b.length wc) = some (.slice v2 (a.length + b.length) (a.length + b.length), M2) ∧
      (∀ j x, K j = some x → K2 j = some x) ∧ Hp M2 K2 [] ∧ rulesAt K2 (.slice v2 (a.length + b.length) (a.length + b.length)) (a ++ b) := by
  have open_ : ∀ {l : List RuleT} {w : Option Addr} {c : Nat}, rulesAt K (.slice w l.length c) l → ∃ vr : List (Value × RuleT), vr.map (·.2) = l ∧ (∀ x ∈ vr, tstsAt K x.1 x.2.tests) ∧ (vr ≠ [] → ∃ bb sp own rest, w = some ⟨bb, 0, sp⟩ ∧ K bb = some (.cells own (vr.flatMap ruleC ++ rest))) := by
    intro l w c hv
    obtain ⟨w', c', e1, hv⟩ := hv
    cases e1
    by_cases e : l = []
    · subst e; exact ⟨[], rfl, fun x hx => by simp at hx, fun h0 => absurd rfl h0⟩
    · obtain ⟨bb, sp, own, rest, vr, q1, q2, q3, q4⟩ := hv e
      exact ⟨vr, q2, q4, fun _ => ⟨bb, sp, own, rest, q1, q3⟩⟩
  obtain ⟨va, a1, a2, a3⟩ := open_ ha
  obtain ⟨vb, b1, b2, b3⟩ := open_ hb
  have la : a.length = va.length := by rw [← a1, List.length_map]
  have lb : b.length = vb.length := by rw [← b1, List.length_map]
  rw [la] at sa hl ⊢
  rw [lb] at sb hl ⊢
  have h0 := h.ext (Ext.push M (.cells true []))
  obtain ⟨o1, M1, p1, h1, w1⟩ := outE_app (vr := []) (vb := va) (oa := some ⟨M.size, 0, none⟩) (fun y hy => by simp at hy) (fun y hy => (a2 y hy).slice) (.inl ⟨rfl, _, rfl, Mem.get_push_same _ _⟩) a3 sa (by simp; omega) h0
  rw [List.length_nil, Nat.zero_add] at p1
  rw [List.nil_append] at w1
  obtain ⟨o2, M2, p2, h2, w2⟩ := outE_app (vr := va) (vb := vb) (fun y hy => (a2 y hy).slice) (fun y hy => (b2 y hy).slice) w1 b3 sb hl h1
  have hts : ∀ x ∈ va ++ vb, tstsAt K x.1 x.2.tests := fun x hx => by
    rcases List.mem_append.1 hx with hx | hx
    · exact a2 x hx
    · exact b2 x hx
  have hln : va.length + vb.length = (a ++ b).length := by rw [List.length_append, la, lb]
  rcases w2 with ⟨e1, bz, e2, e3⟩ | ⟨c, e1, e2, e3, e4⟩
  · refine ⟨_, M1, o2, M2, K, p1, p2, fun _ _ hj => hj, h2, o2, va.length + vb.length, by rw [hln], fun hne => ?_⟩
    have : (a ++ b).length = 0 := by rw [← hln, ← List.length_append, e1]; rfl
    exact absurd (List.eq_nil_of_length_eq_zero this) hne
  · have hlearn := Hp.learn h2 e2 e4 e3
    refine ⟨_, M1, o2, M2, keep1 K c (.cells true ((va ++ vb).flatMap ruleC)), p1, p2, hlearn.2, hlearn.1, o2, va.length + vb.length, by rw [hln], fun hne => ⟨c, some 2, true, [], va ++ vb, e1, by rw [List.map_append, a1, b1], by rw [keep1_same, List.append_nil], fun x hx => (hts x hx).mono hlearn.2⟩⟩
theorem LawS_do {a b : List RuleT} {va vb : Value} (hO : Orq o) (hAw : Pure o 5 [] (.bool true)) (hk : 2000000 ≤ k) (hra : TableRng a) (hrb : TableRng b) (hla : longN a ≤ 1000000) (hlb : longN b ≤ 1000000) (hva : rulesAt K va a) (hvb : rulesAt K vb b) (hsa : slOk K va) (hsb : slOk K vb) (h : Hp M K []) (h0 : K 0 = some (.cells false gl)) :
    ∃ M', callN Tryd.prog kp 1 o k 4 [va, vb] M = some (.bool true, M') := by
  obtain ⟨k, rfl⟩ : ∃ k', k = k' + 1 := ⟨k - 1, by omega⟩
  obtain ⟨ra, rc, rfl, _⟩ := id hva
  obtain ⟨wa, wc, rfl, _⟩ := id hvb
  have hs0 := h.lt h0
  obtain ⟨M1, c1, x1⟩ := hAw k M (by omega) h.top (by omega) (h.get h0)
  have h1 := h.ext x1
  obtain ⟨M2, c2, h2⟩ := long_do (k := k) hO (by omega) hla hva h1
  by_cases hloa : 5000 < longN a
  · refine ⟨M2, call_of 111 (hO.off 4 (by decide) _ _) at4 bd4 n4 ?_ ok4⟩
    refine Eq.trans (markS_eq [7, 9] Tryd.prog kp 1 _ (Y.lpOf Tryd.prog kp 1 (callN Tryd.prog kp 1 o k) 111) (fun _ _ _ _ _ _ _ => rfl) 111 k (bodyOf Tryd.f4) (by kernel_rfl) _ M _) ?_
    refine Eq.trans (t_Cs_in ..) ?_
    refine step c1 ?_
    rw [nAsBoB, nCondT]
    refine step c2 ?_
    rw [nAsBoB, decide_eq_true hloa, nCondT]
  obtain ⟨M3, c3, h3⟩ := long_do (k := k) hO (by omega) hlb hvb h2
  by_cases hlob : 5000 < longN b
  · refine ⟨M3, call_of 111 (hO.off 4 (by decide) _ _) at4 bd4 n4 ?_ ok4⟩
    refine Eq.trans (markS_eq [7, 9] Tryd.prog kp 1 _ (Y.lpOf Tryd.prog kp 1 (callN Tryd.prog kp 1 o k) 111) (fun _ _ _ _ _ _ _ => rfl) 111 k (bodyOf Tryd.f4) (by kernel_rfl) _ M _) ?_
    refine Eq.trans (t_Cs_in ..) ?_
    refine step c1 ?_
    rw [nAsBoB, nCondT]
    refine step c2 ?_
    rw [nAsBoB, decide_eq_false hloa, nCondF]
    refine step c3 ?_
    rw [nAsBoB, decide_eq_true hlob, nCondT]
  have hrla : a.length ≤ 5000 := by unfold longN at hloa; omega
  have hrlb : b.length ≤ 5000 := by unfold longN at hlob; omega
  have hta : ∀ r ∈ a, r.tests.length ≤ 10000 := fun r hx => by have := len_le hx; unfold longN at hloa; omega
  have htb : ∀ r ∈ b, r.tests.length ≤ 10000 := fun r hx => by have := len_le hx; unfold longN at hlob; omega
  have htab : ∀ r ∈ a ++ b, r.tests.length ≤ 10000 := fun r hx => by
    rcases List.mem_append.1 hx with hx | hx
    · exact hta r hx
    · exact htb r hx
  have hrab : TableRng (a ++ b) := fun r hx => by
    rcases List.mem_append.1 hx with hx | hx
    · exact hra r hx
    · exact hrb r hx
  obtain ⟨K4, w4, M4, c4, hw4, h4, r4⟩ := ours_do (k := k) hO (by omega) (by omega) hta hva h3
  obtain ⟨u4, z4, rfl, _⟩ := id r4
  obtain ⟨M5, c5, h5⟩ := Size_do (k := k) hO (by omega) hra r4 h4 (hw4 _ _ h0)
  obtain ⟨K6, w6, M6, c6, hw6, h6, r6⟩ := ours_do (k := k) hO (by omega) (by omega) htb (hvb.mono hw4) h5
  obtain ⟨u6, z6, rfl, _⟩ := id r6
  have h06 := hw6 _ _ (hw4 _ _ h0)
  obtain ⟨M7, c7, h7⟩ := Size_do (k := k) hO (by omega) hrb r6 h6 h06
  obtain ⟨v1, M8, v2, M9, K9, p1, p2, hw9, h9, r9⟩ := both_app ((hva.mono hw4).mono hw6) ((hvb.mono hw4).mono hw6) ((hsa.mono hw4).mono hw6) ((hsb.mono hw4).mono hw6) (by omega) h7
  have h09 := hw9 _ _ h06
  obtain ⟨K10, w10, M10, c10, hw10, h10, r10⟩ := ours_do (k := k) hO (by omega) (by rw [List.length_append]; omega) htab r9 h9
  obtain ⟨u10, z10, rfl, _⟩ := id r10
  obtain ⟨M11, c11, h11⟩ := Size_do (k := k) hO (by omega) hrab r10 h10 (hw10 _ _ h09)
  obtain ⟨K12, w12, M12, c12, hw12, h12, r12⟩ := ours_do (k := k) hO (by omega) (by omega) hta ((((hva.mono hw4).mono hw6).mono hw9).mono hw10) h11
  obtain ⟨u12, z12, rfl, _⟩ := id r12
  obtain ⟨vd, M13, c13, h13, hcode, _⟩ := Code_do (k := k) hO (by omega) hra r12 h12 (hw12 _ _ (hw10 _ _ h09))
  obtain ⟨K14, d, M14, rfl, st14, hw14, h14, _, hD, hid, _⟩ := learn_code h13 hcode
  have gD := h14.get hD
  refine ⟨M14, call_of 111 (hO.off 4 (by decide) _ _) at4 bd4 n4 ?_ ok4⟩
  refine Eq.trans (markS_eq [7, 9] Tryd.prog kp 1 _ (Y.lpOf Tryd.prog kp 1 (callN Tryd.prog kp 1 o k) 111) (fun _ _ _ _ _ _ _ => rfl) 111 k (bodyOf Tryd.f4) (by kernel_rfl) _ M _) ?_
  refine Eq.trans (t_Cs_in ..) ?_
  refine step c1 ?_
  rw [nAsBoB, nCondT]
  refine step c2 ?_
  rw [nAsBoB, decide_eq_false hloa, nCondF]
  refine step c3 ?_
  rw [nAsBoB, decide_eq_false hlob, nCondF]
  refine step c4 ?_
  rw [nAsSl]
  refine step c5 ?_
  rw [nAsTup, nUncC, nAsInt, nKEq, nCondT, nUncC, nAsInt, nKEq, nCondT, nUncN]
  refine step c6 ?_
  rw [nAsSl]
  refine step c7 ?_
  rw [nAsTup, nUncC, nAsInt, nKEq, nCondT, nUncC, nAsInt, nKEq, nCondT, nUncN]
  refine Eq.trans (loop_reg _ _ _ (by kernel_rfl) _ _ _ _) ?_
  refine Eq.trans (r4_7_eq ..) ?_
  refine Eq.trans (t_Cs7 ..) ?_
  rw [Y.appendF_eq, p1, nOnV, Y.appendF_eq, p2, nOnV]
  refine Eq.trans (t_CsB ..) ?_
  refine step c10 ?_
  rw [nAsSl]
  refine step c11 ?_
  rw [nAsTup, nUncC, nAsInt, nKEq, nCondT, nUncC, nAsInt, nKEq, nCondT, nUncN]
  refine Eq.trans (loop_reg _ _ _ (by kernel_rfl) _ _ _ _) ?_
  refine Eq.trans (r4_9_eq ..) ?_
  refine Eq.trans (opsF_cut 7 ..) ?_
  refine Eq.trans (t_Cs9 ..) ?_
  refine step c12 ?_
  rw [nAsSl]
  refine step c13 ?_
  rw [nAsTup, nUncC, nAsAgg, nUncC, nAsInt, nKEq, nCondT, nUncN]
  refine Eq.trans (t_Cs9S ..) ?_
  rw [Y.storeF_eq, st14, Y.ob_some]
  refine Eq.trans (t_CsC ..) ?_
  by_cases hca : (checkS a).2 = 0
  · by_cases hcb : (checkS b).2 = 0
    · by_cases hn : a.length + b.length ≤ 32
      · have hcc : (checkS (a ++ b)).2 = 0 := check_app.2 ⟨hca, hcb, hn⟩
        have hsc := size_app hca hcb hn
        have la := size_le hra
        have lb := size_le hrb
        have hwr : IntKind.wrap .i64 (Int.sub (IntKind.wrap .i64 (Int.add (sizeS a : Int) (sizeS b : Int))) (7 : Int)) = (sizeS a : Int) + (sizeS b : Int) - 7 := by
          rw [wrap64 (x := Int.add (sizeS a : Int) (sizeS b : Int)) (by show _ ≤ (sizeS a : Int) + (sizeS b : Int) ∧ (sizeS a : Int) + (sizeS b : Int) ≤ _; omega)]
          exact wrap64 (by show _ ≤ (sizeS a : Int) + (sizeS b : Int) - 7 ∧ (sizeS a : Int) + (sizeS b : Int) - 7 ≤ _; omega)
        rw [hwr]
        by_cases h5 : 512 < (madeS (tableS a)).length
        · have he : errS a = 3 := by rw [errS, if_pos hca, if_pos h5]
          have hs : (512 : Int) < (sizeS a : Int) := by rw [sizeS, if_pos hca]; omega
          simp only [eqF_t hca, eqF_t hcb, eqF_t hcc, eqF_t hsc, eqF_t he, eqF_f (show errS a ≠ 0 by rw [he]; decide), ltF_t hs, ltF_f (show ¬ (32 : Int) < Int.ofNat (a.length + b.length) by show ¬ (32 : Int) < ((a.length + b.length : Nat) : Int); omega), cond_true, cond_false]
        · have he : errS a = 0 := by rw [errS, if_pos hca, if_neg h5]
          have hs : ¬ (512 : Int) < (sizeS a : Int) := by rw [sizeS, if_pos hca]; omega
          have ho : (outS a).length = sizeS a := by rw [outS, if_pos he, sizeS, if_pos hca]
          rw [gD]
          simp only [eqF_t hca, eqF_t hcb, eqF_t hcc, eqF_t hsc, eqF_t he, eqF_f (show errS a ≠ 3 by rw [he]; decide), ltF_f hs, ltF_f (show ¬ (32 : Int) < Int.ofNat (a.length + b.length) by show ¬ (32 : Int) < ((a.length + b.length : Nat) : Int); omega), cond_true, cond_false]
          rw [nCells, show Y.nthL [Value.slice none 0 0, .slice d (outS a).length (outS a).length] 1 = some (.slice d (outS a).length (outS a).length) from rfl, nElim, nAsSl, eqF_t (show Int.ofNat (outS a).length = (sizeS a : Int) by rw [ho]; rfl)]
          rfl
      · have hn2 : (32 : Int) < Int.ofNat (a.length + b.length) := by show (32 : Int) < ((a.length + b.length : Nat) : Int); omega
        simp only [eqF_t hca, eqF_t hcb, ltF_t hn2, cond_true, cond_false]
    · have hcc : (checkS (a ++ b)).2 ≠ 0 := fun hc => hcb (check_app.1 hc).2.1
      simp only [eqF_t hca, eqF_f hcb, eqF_f hcc, cond_true, cond_false]
  · have hcc : (checkS (a ++ b)).2 ≠ 0 := fun hc => hca (check_app.1 hc).1
    have he : errS a = (checkS a).2 := by rw [errS, if_neg hca]
    have hs : (sizeS a : Int) = 0 := by rw [sizeS, if_neg hca]; rfl
    simp only [eqF_f hca, eqF_t he, eqF_t hs, eqF_f hcc, cond_true, cond_false]
end
end
end Go.Proofs.YtadioopbehiakaaDoor
