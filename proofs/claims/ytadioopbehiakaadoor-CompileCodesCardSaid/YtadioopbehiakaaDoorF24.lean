/-
  CLawC: the law CompileCodes: function 3 answers true.
-/
import Derived.Test.YtadioopbehiakaaDoorF23
set_option linter.all false
set_option linter.unusedVariables false
set_option linter.unusedSimpArgs false
namespace Go.Cmp
open Go Go.DI
def Ins.setImm (v : Int) (x : Ins) : Ins := { x with imm := v }
def setI (l : List Ins) (i : Nat) (v : Int) : List Ins := l.modify i (Ins.setImm v)
theorem codeC_imm (v : Int) : ∀ (c : List Ins) (p : Nat), p < c.length → splice (codeC c) (p * 5 + 4) [.int .i32 v] = codeC (setI c p v)
  | [], p, h => by simp at h
  | x :: c, 0, h => by
    show splice (insC x ++ codeC c) 4 _ = insC (Ins.setImm v x) ++ codeC c
    rfl
  | x :: c, p + 1, h => by
    have ih := codeC_imm v c p (by simpa using h)
    have e : (p + 1) * 5 + 4 = (insC x).length + (p * 5 + 4) := by rw [insC_len]; omega
    have e2 : setI (x :: c) (p + 1) v = x :: setI c p v := by simp [setI]
    rw [e2]
    show splice (insC x ++ codeC c) _ _ = insC x ++ codeC (setI c p v)
    rw [← ih, e]
    unfold splice
    rw [List.take_length_add_append, show (insC x).length + (p * 5 + 4) + [Value.int .i32 v].length = (insC x).length + (p * 5 + 4 + [Value.int .i32 v].length) by omega, List.drop_length_add_append, List.append_assoc]
theorem setI_len (l : List Ins) (i : Nat) (v : Int) : (setI l i v).length = l.length := by simp [setI]
theorem setI_ne {l : List Ins} {i j : Nat} (v : Int) (h : i ≠ j) : (setI l i v)[j]? = l[j]? := by
  unfold setI
  rw [List.getElem?_modify]
  simp only [if_neg h]
  cases l[j]? <;> rfl
theorem code_ble {l : List Ins} {j : Nat} (h : j < l.length) : Nat.ble (Nat.add (Nat.add 0 (Nat.mul j 5)) 5) (Y.lenLF (codeC l)) = true := by
  have := chunk_ble (g := insC) insC_len h []
  rw [List.append_nil] at this; exact this
theorem code_sub {l : List Ins} {j : Nat} {x : Ins} (h : l[j]? = some x) : Y.subL (codeC l) (Nat.add 0 (Nat.mul j 5)) 5 = [.int .u8 x.op, .int .u8 x.dst, .int .u8 x.src, .int .i16 x.off, .int .i32 x.imm] := by
  have := chunk_sub (g := insC) insC_len h []
  rw [List.append_nil] at this; exact this
theorem code_imm {l : List Ins} {j : Nat} {x : Ins} (h : l[j]? = some x) : Y.nthL (codeC l) (Nat.add (Nat.add 0 (Nat.mul j 5)) 4) = some (.int .i32 x.imm) := by
  have := chunk_nth (g := insC) insC_len h (show 4 < 5 by decide) []
  rw [List.append_nil] at this; exact this
end Go.Cmp
namespace Go.Proofs.YtadioopbehiakaaDoor
open Go Go.DI Go.DI.Kit Go.Proofs Go.Cmp
noncomputable section
theorem at3 : Tryd.prog.funcs[3]? = some Tryd.f3 := by kernel_rfl
theorem bd3 : Tryd.f3.body = some (bodyOf Tryd.f3) := by kernel_rfl
theorem nt3 : Tryd.f3.ntmps = 160 := by kernel_rfl
theorem n3 {a : Value} : max [a].length Tryd.f3.ntmps = 160 := by rw [nt3]; rfl
theorem ok3 {b : Bool} : okR Tryd.prog 3 (.bool b) = true := by kernel_rfl
theorem sz21 : szOf Tryd.prog 21 = some 1 := by kernel_rfl
theorem fa_nil {X : Type} {P : X → Prop} : ∀ p ∈ ([] : List X), P p := fun p h => by simp at h
theorem fa_cons {X : Type} {P : X → Prop} {x : X} {l : List X} (h : P x) (hl : ∀ p ∈ l, P p) : ∀ p ∈ x :: l, P p := fun p hp => by
  rcases List.mem_cons.1 hp with rfl | hp
  · exact h
  · exact hl p hp
theorem nAdB (b o : Nat) (z : Option Nat) : (Addr.mk b o z).1 = b := nr rfl
theorem nAdO (b o : Nat) (z : Option Nat) : (Addr.mk b o z).2 = o := nr rfl
theorem feq_ins (x y : Ins) : feq Tryd.prog kp 100 42 (.agg ⟨[.int .u8 x.op, .int .u8 x.dst, .int .u8 x.src, .int .i16 x.off, .int .i32 x.imm]⟩) (.agg ⟨[.int .u8 y.op, .int .u8 y.dst, .int .u8 y.src, .int .i16 y.off, .int .i32 y.imm]⟩) =
    (match x.op == y.op with | true => (match x.dst == y.dst with | true => (match x.src == y.src with | true => (match x.off == y.off with | true => (match x.imm == y.imm with | true => some true | false => some false) | false => some false) | false => some false) | false => some false) | false => some false) := by kernel_rfl
theorem feq_same (x : Ins) : feq Tryd.prog kp 100 42 (.agg ⟨[.int .u8 x.op, .int .u8 x.dst, .int .u8 x.src, .int .i16 x.off, .int .i32 x.imm]⟩) (.agg ⟨[.int .u8 x.op, .int .u8 x.dst, .int .u8 x.src, .int .i16 x.off, .int .i32 x.imm]⟩) = some true := by
  rw [feq_ins]; simp
section
variable {α : Type} (x : Nat → Value) (cf : Y.CF α) (L : Y.LK α) (k : Nat) (m : Mem)
theorem r3_6_eq (t : Tmps) (q : Y.ExK α) : Y.codeF (Y.loopC c3 0) Tryd.prog kp 1 (Y.cfT Tryd.prog cf) L 160 k t m q = Y.opsF r3_6 Tryd.prog kp 1 (Y.cfT Tryd.prog cf) 160 r3_6 t m fun t m => q .normal t m := by kernel_rfl
theorem r3_7_eq (t : Tmps) (q : Y.ExK α) : Y.codeF (Y.loopC c3 1) Tryd.prog kp 1 (Y.cfT Tryd.prog cf) L 160 k t m q = Y.opsF r3_7 Tryd.prog kp 1 (Y.cfT Tryd.prog cf) 160 r3_7 t m fun t m => q .normal t m := by kernel_rfl
theorem r3_25_eq (t : Tmps) (q : Y.ExK α) : Y.codeF (Y.loopC c3 4) Tryd.prog kp 1 (Y.cfT Tryd.prog cf) L 160 k t m q = Y.opsF r3_25 Tryd.prog kp 1 (Y.cfT Tryd.prog cf) 160 r3_25 t m fun t m => q .normal t m := by kernel_rfl
theorem r3_15_eq (t : Tmps) (q : Y.ExK α) : Y.codeF (Y.loopC c3a 0) Tryd.prog kp 1 (Y.cfT Tryd.prog cf) L 160 k t m q = Y.opsF r3_15 Tryd.prog kp 1 (Y.cfT Tryd.prog cf) 160 r3_15 t m fun t m => q .normal t m := by kernel_rfl
theorem r3_17_eq (t : Tmps) (q : Y.ExK α) : Y.codeF (Y.loopC c3a 1) Tryd.prog kp 1 (Y.cfT Tryd.prog cf) L 160 k t m q = Y.opsF r3_17 Tryd.prog kp 1 (Y.cfT Tryd.prog cf) 160 r3_17 t m fun t m => q .normal t m := by kernel_rfl
theorem r3_21_eq (t : Tmps) (q : Y.ExK α) : Y.codeF (Y.loopC c3b 0) Tryd.prog kp 1 (Y.cfT Tryd.prog cf) L 160 k t m q = Y.opsF r3_21 Tryd.prog kp 1 (Y.cfT Tryd.prog cf) 160 r3_21 t m fun t m => q .normal t m := by kernel_rfl
theorem r3_22_eq (t : Tmps) (q : Y.ExK α) : Y.codeF (Y.loopC c3b 1) Tryd.prog kp 1 (Y.cfT Tryd.prog cf) L 160 k t m q = Y.opsF r3_22 Tryd.prog kp 1 (Y.cfT Tryd.prog cf) 160 r3_22 t m fun t m => q .normal t m := by kernel_rfl
theorem r3_29_eq (t : Tmps) (q : Y.ExK α) : Y.codeF (Y.loopC c3d 0) Tryd.prog kp 1 (Y.cfT Tryd.prog cf) L 160 k t m q = Y.opsF r3_29 Tryd.prog kp 1 (Y.cfT Tryd.prog cf) 160 r3_29 t m fun t m => q .normal t m := by kernel_rfl
theorem t_Cc6S (b : Nat) (w0 w3 w28 u : Value) (q : Tmps → Mem → Option α) : Y.opsF (List.drop 6 r3_6) Tryd.prog kp 1 (Y.cfT Tryd.prog cf) 160 r3_6 (fullN 160 (up x [(0, w0), (3, w3), (4, .pointer (some ⟨b, 0, none⟩)), (27, u), (28, w28)])) m q =
  Y.storeF Tryd.prog m 30 u (.pointer (some ⟨b, 0, none⟩)) fun m' => q (fullN 160 (up (up x [(27, u), (28, w28)]) [(0, w0), (3, w3), (4, .pointer (some ⟨b, 0, none⟩)), (5, w28)])) m' := by kernel_rfl
theorem t_Cc7S (b : Nat) (w0 w3 w4 w5 w33 u : Value) (q : Tmps → Mem → Option α) : Y.opsF (List.drop 6 r3_7) Tryd.prog kp 1 (Y.cfT Tryd.prog cf) 160 r3_7 (fullN 160 (up x [(0, w0), (3, w3), (4, w4), (5, w5), (6, .pointer (some ⟨b, 0, none⟩)), (32, u), (33, w33)])) m q =
  Y.storeF Tryd.prog m 30 u (.pointer (some ⟨b, 0, none⟩)) fun m' => q (fullN 160 (up (up x [(32, u), (33, w33)]) [(0, w0), (3, w3), (4, w4), (5, w5), (6, .pointer (some ⟨b, 0, none⟩)), (7, w33)])) m' := by kernel_rfl
theorem t_Cc25S (b : Nat) (w6 w134 u : Value) (q : Tmps → Mem → Option α) : Y.opsF (List.drop 6 r3_25) Tryd.prog kp 1 (Y.cfT Tryd.prog cf) 160 r3_25 (fullN 160 (up x [(6, w6), (15, .pointer (some ⟨b, 0, none⟩)), (133, u), (134, w134)])) m q =
  Y.storeF Tryd.prog m 30 u (.pointer (some ⟨b, 0, none⟩)) fun m' => q (fullN 160 (up (up x [(133, u), (134, w134), (16, w134)]) [(6, w6), (15, .pointer (some ⟨b, 0, none⟩))])) m' := by kernel_rfl
theorem t_C0XS (b : Nat) (of_ : Nat) (w0 w3 w4 w6 w76 w77 w78 u : Value) (q : Tmps → Mem → Option α) : Y.opsF (List.drop 9 r3_17) Tryd.prog kp 1 (Y.cfT Tryd.prog cf) 160 r3_17 (fullN 160 (up x [(0, w0), (3, w3), (4, w4), (6, w6), (76, w76), (77, w77), (78, w78), (98, u), (100, .pointer (some ⟨b, of_, none⟩))])) m q =
  Y.storeF Tryd.prog m 21 u (.pointer (some ⟨b, of_, none⟩)) fun m' => q (fullN 160 (up (up x [(98, u), (100, .pointer (some ⟨b, of_, none⟩))]) [(0, w0), (3, w3), (4, w4), (6, w6), (76, w76), (77, w77), (78, w78)])) m' := by kernel_rfl
theorem t_C2RS (b : Nat) (w0 w3 w6 w13 w102 w103 w104 u : Value) (q : Tmps → Mem → Option α) : Y.opsF (List.drop 5 r3_21) Tryd.prog kp 1 (Y.cfT Tryd.prog cf) 160 r3_21 (fullN 160 (up x [(0, w0), (3, w3), (6, w6), (13, w13), (14, .pointer (some ⟨b, 0, none⟩)), (102, w102), (103, w103), (104, w104), (108, u)])) m q =
  Y.storeF Tryd.prog m 46 u (.pointer (some ⟨b, 0, none⟩)) fun m' => q (fullN 160 (up (up x [(108, u)]) [(0, w0), (3, w3), (6, w6), (13, w13), (14, .pointer (some ⟨b, 0, none⟩)), (102, w102), (103, w103), (104, w104)])) m' := by kernel_rfl
theorem t_C2A0 (w0 w3 w6 w102 : Value) (q : Y.ExK α) : Y.codeF (loopN Tryd.f3 1) Tryd.prog kp 1 (Y.cfT Tryd.prog cf) L 160 k (fullN 160 (up x [(0, w0), (3, w3), (6, w6), (102, w102), (103, .int .i64 (0 : Nat)), (104, .int .i64 (0 : Int))])) m q =
  q (.exit 2) (fullN 160 (up (up x [(105, .bool false)]) [(0, w0), (3, w3), (6, w6), (102, w102), (103, .int .i64 (0 : Nat)), (104, .int .i64 (0 : Int))])) m := by kernel_rfl
end
theorem lc3_2 : Y.loopC c3 2 = loopN Tryd.f3 0 := by kernel_rfl
theorem lc3_3 : Y.loopC c3 3 = loopN Tryd.f3 1 := by kernel_rfl
theorem lc3_5 : Y.loopC c3 5 = loopN Tryd.f3 2 := by kernel_rfl
def ImgK (K : Keep) (l : List Ins) (a : Option Addr) : Prop := l ≠ [] → ∃ c, a = some ⟨c, 0, some 5⟩ ∧ K c = some (.cells true (codeC l))
theorem ImgK.mono {K K' : Keep} {l : List Ins} {a : Option Addr} (h : ImgK K l a) (hw : ∀ j x, K j = some x → K' j = some x) : ImgK K' l a := fun h0 => by
  obtain ⟨c, h1, h2⟩ := h h0
  exact ⟨c, h1, hw _ _ h2⟩
section
variable {K : Keep} {M : Mem} {o : Orc} {k : Nat}
theorem learn_code {l : List Ins} {v : Value} (h : Hp M K []) (hc : CodeAt M K l v) :
    ∃ K1 a M1, v = .slice a l.length l.length ∧ storeD Tryd.prog (M.push (.cells true [.slice none 0 0, .slice none 0 0])) 30 (.agg ⟨[.slice none 0 0, v]⟩) (.pointer (some ⟨M.size, 0, none⟩)) = some M1 ∧
      (∀ j x, K j = some x → K1 j = some x) ∧ Hp M1 K1 [] ∧ K M.size = none ∧ K1 M.size = some (.cells true [.slice none 0 0, .slice a l.length l.length]) ∧ ImgK K1 l a ∧ ∀ c, a = some ⟨c, 0, some 5⟩ → l ≠ [] → K c = none ∧ c ≠ M.size := by
  obtain ⟨a, rfl, hcode⟩ := hc
  obtain ⟨M1, hM1⟩ : ∃ M1, (M.push (.cells true [.slice none 0 0, .slice none 0 0])).set M.size (.cells true [.slice none 0 0, .slice a l.length l.length]) = M1 := ⟨_, rfl⟩
  have x1 : Ext M M1 := hM1 ▸ Ext.fresh
  have s1 : M1.size = M.size + 1 := by rw [← hM1]; rfl
  have gz : M1.get M.size = .cells true [.slice none 0 0, .slice a l.length l.length] := by rw [← hM1]; exact Mem.get_set_same _ _ _
  have hKM := h.no (Nat.le_refl M.size)
  have hst : storeD Tryd.prog (M.push (.cells true [.slice none 0 0, .slice none 0 0])) 30 (.agg ⟨[.slice none 0 0, .slice a l.length l.length]⟩) (.pointer (some ⟨M.size, 0, none⟩)) = some M1 := by
    rw [agg2_store (Mem.get_push_same _ _), hM1]
  obtain ⟨hb, hbw⟩ := h.box x1 (Nat.le_refl _) (by omega) gz
  by_cases e : l = []
  · subst e
    exact ⟨_, a, M1, rfl, hst, hbw, hb, hKM, keep1_same .., fun h0 => absurd rfl h0, fun c hc h0 => absurd rfl h0⟩
  · obtain ⟨c, rfl, q2, q3, q4⟩ := hcode e
    have hne : c ≠ M.size := by omega
    have g1 : M1.get c = .cells true (codeC l) := (x1.get c q2).trans q4
    obtain ⟨hl, hlw⟩ := Hp.learn hb (by omega) g1 (by rw [keep1_ne hne]; exact q3)
    refine ⟨_, _, M1, rfl, hst, fun j x hj => hlw _ _ (hbw _ _ hj), hl, hKM, hlw _ _ (keep1_same ..), fun _ => ⟨c, rfl, keep1_same ..⟩, fun c' hc' _ => ?_⟩
    cases hc'
    exact ⟨q3, hne⟩
theorem C0_loop {l : List Ins} {ab bb xa xb rn rc wn wc : Nat} {ra wa : Option Addr} (hA : K ab = some (.cells true [.slice none 0 0, .slice (some ⟨xa, 0, some 5⟩) l.length l.length])) (hB : K bb = some (.cells true [.slice none 0 0, .slice (some ⟨xb, 0, some 5⟩) l.length l.length])) (hcb : K xb = some (.cells true (codeC l))) (hca : K xa = none) (hl : l.length ≤ 100000) :
    ∀ (d i : Nat), l.length = i + d → ∀ (jj : Nat) (M : Mem) (l' : List Ins), d + 1 ≤ jj → Hp M K [] → xa < M.size → M.get xa = .cells true (codeC l') → l'.length = l.length → (∀ j, i ≤ j → l'[j]? = l[j]?) →
    ∃ M', (∀ x, Lands 160 [(0, .slice ra rn rc), (3, .slice wa wn wc), (4, .pointer (some ⟨ab, 0, none⟩)), (6, .pointer (some ⟨bb, 0, none⟩)), (76, .slice (some ⟨xa, 0, some 5⟩) l.length l.length), (77, .int .i64 (l.length : Int)), (78, .int .i64 (l.length : Int))] (.exit 0) M' (loopD (codeD Tryd.prog kp 1 (callN Tryd.prog kp 1 o k) (drawD Tryd.prog kp 1 (callN Tryd.prog kp 1 o k) 160) 160 k (loopN Tryd.f3 0)) jj (fullN 160 (up x [(0, .slice ra rn rc), (3, .slice wa wn wc), (4, .pointer (some ⟨ab, 0, none⟩)), (6, .pointer (some ⟨bb, 0, none⟩)), (76, .slice (some ⟨xa, 0, some 5⟩) l.length l.length), (77, .int .i64 (l.length : Int)), (78, .int .i64 (i : Int))])) M)) ∧ Hp M' K []
  | 0, i, hi, jj, M, l', hjj, h, hxa, gca, hll, heq => by
    obtain ⟨jj, rfl⟩ : ∃ j', jj = j' + 1 := ⟨jj - 1, by omega⟩
    obtain rfl : i = l.length := by omega
    refine ⟨M, fun x => Lands.stop (Lands.turn ?_) (by simp), h⟩
    refine Lands.via (calm_eq [15] Tryd.prog kp 1 _ _ 160 k (loopN Tryd.f3 0) (by kernel_rfl) _ M _) ?_
    refine Lands.via (markS_eq [15, 17] Tryd.prog kp 1 _ (Y.lpOf Tryd.prog kp 1 (callN Tryd.prog kp 1 o k) 160) (fun _ _ _ _ _ _ _ => rfl) 160 k (calm [15] (loopN Tryd.f3 0)) (by kernel_rfl) _ M _) ?_
    refine Lands.via (t_C0A ..) ?_
    rw [ge_len (by omega), nCondF]
    exact Lands.at (fa_cons rfl (fa_cons rfl (fa_cons rfl (fa_cons rfl (fa_cons rfl (fa_cons rfl (fa_cons rfl fa_nil)))))))
  | d + 1, i, hi, jj, M, l', hjj, h, hxa, gca, hll, heq => by
    obtain ⟨jj, rfl⟩ : ∃ j', jj = j' + 1 := ⟨jj - 1, by omega⟩
    have hlt : i < l.length := by omega
    have hlt' : i < l'.length := by omega
    obtain ⟨x0, hx0⟩ : ∃ x, l[i]? = some x := ⟨_, List.getElem?_eq_getElem hlt⟩
    have hx1 : l'[i]? = some x0 := (heq i (Nat.le_refl _)).trans hx0
    have gA := h.get hA
    have gB := h.get hB
    have gcb := h.get hcb
    obtain ⟨iv, hiv⟩ : ∃ iv, IntKind.wrap Go.IntKind.i32 (Int.ofNat (BitVec.toNat (HXor.hXor (BitVec.ofInt (IntKind.bits Go.IntKind.i32) x0.imm) (BitVec.ofInt (IntKind.bits Go.IntKind.i32) (OfNat.ofNat 1))))) = iv := ⟨_, rfl⟩
    have hst : storeD Tryd.prog M 21 (.int .i32 iv) (.pointer (some ⟨xa, Nat.add (Nat.add 0 (Nat.mul i 5)) 4, none⟩)) = some (M.set xa (.cells true (codeC (setI l' i iv)))) := by
      have e0 : Nat.add (Nat.add 0 (Nat.mul i 5)) 4 = i * 5 + 4 := by show 0 + i * 5 + 4 = _; omega
      rw [storeD_at (n := 1) sz21 rfl gca (by rw [codeC_len, e0]; omega) rfl, e0]
      rw [← codeC_imm iv l' i hlt']
      rfl
    have h1 := Hp.free_set h (x := .cells true (codeC (setI l' i iv))) hxa hca
    obtain ⟨M2, h2, h3⟩ := C0_loop (ra := ra) (wa := wa) (rn := rn) (rc := rc) (wn := wn) (wc := wc) hA hB hcb hca hl d (i + 1) (by omega) jj _ (setI l' i iv) (by omega) h1 hxa (Mem.get_set_same _ _ _) ((setI_len ..).trans hll) (fun j hj => by rw [setI_ne _ (by omega)]; exact heq j (by omega))
    refine ⟨M2, fun x => Lands.next (Lands.turn ?_) h2, h3⟩
    refine Lands.via (calm_eq [15] Tryd.prog kp 1 _ _ 160 k (loopN Tryd.f3 0) (by kernel_rfl) _ M _) ?_
    refine Lands.via (markS_eq [15, 17] Tryd.prog kp 1 _ (Y.lpOf Tryd.prog kp 1 (callN Tryd.prog kp 1 o k) 160) (fun _ _ _ _ _ _ _ => rfl) 160 k (calm [15] (loopN Tryd.f3 0)) (by kernel_rfl) _ M _) ?_
    refine Lands.via (t_C0A ..) ?_
    rw [lt_len hlt, nCondT]
    refine Lands.via (loop_reg _ _ _ (by kernel_rfl) _ _ _ _) ?_
    refine Lands.via (r3_15_eq ..) ?_
    refine Lands.via (opsF_cut 10 ..) ?_
    refine Lands.via (t_C0R ..) ?_
    rw [gA, nCells, show Y.nthL [Value.slice none 0 0, .slice (some ⟨xa, 0, some 5⟩) l.length l.length] 1 = some (.slice (some ⟨xa, 0, some 5⟩) l.length l.length) from rfl, nElim, nAsSl, nElim, nOnNat, blt_t hlt, nCondT, nAdB, nAdO, gca, nCells, code_ble hlt', nCondT,
      gB, nCells, show Y.nthL [Value.slice none 0 0, .slice (some ⟨xb, 0, some 5⟩) l.length l.length] 1 = some (.slice (some ⟨xb, 0, some 5⟩) l.length l.length) from rfl, nElim, nAsSl, nElim, nOnNat, blt_t hlt, nCondT, nAdB, nAdO, gcb, nCells, code_ble hlt, nCondT, code_sub hx1, code_sub hx0]
    refine Lands.via (opsF_cut 1 ..) ?_
    refine Lands.via (t_C0N ..) ?_
    rw [feq_same, nElim, notB, nCondT]
    rw [show List.drop 1 (List.drop 10 r3_15) = [] by kernel_rfl]
    refine Lands.via (t_C0B ..) ?_
    rw [nCondF]
    refine Lands.via (loop_reg _ _ _ (by kernel_rfl) _ _ _ _) ?_
    refine Lands.via (r3_17_eq ..) ?_
    refine Lands.via (opsF_cut 9 ..) ?_
    refine Lands.via (t_C0X ..) ?_
    rw [gA, nCells, show Y.nthL [Value.slice none 0 0, .slice (some ⟨xa, 0, some 5⟩) l.length l.length] 1 = some (.slice (some ⟨xa, 0, some 5⟩) l.length l.length) from rfl, nElim, nAsSl, nElim, nOnNat, blt_t hlt, nCondT, nAdB, nAdO, gca, nCells, code_imm hx1, nElim, nAsInt, nKEq, nCondT, nElim, nOnNat, blt_t hlt, nCondT, nAdB, nAdO, hiv]
    refine Lands.via (t_C0XS ..) ?_
    rw [Y.storeF_eq, hst, Y.ob_some]
    refine Lands.via (t_C0C ..) ?_
    rw [wrap_succ (by omega)]
    exact Lands.here _
theorem C2_loop {rs : List RuleT} {rest rest' : List Value} {vr vw : List (Value × RuleT)} {own own' : Bool} {bb rb wb rc wc : Nat} {rp wp : Option Nat} (hrs : vr.map (·.2) = rs) (hws : vw.map (·.2) = rs) (hrb : K rb = some (.cells own (vr.flatMap ruleC ++ rest))) (hwb : K wb = some (.cells own' (vw.flatMap ruleC ++ rest'))) (hv : ∀ x ∈ vr, tstsAt K x.1 x.2.tests) (hw : ∀ x ∈ vw, tstsAt K x.1 x.2.tests) (hl : rs.length * 32 ≤ 140737488355328) :
    ∀ (d i : Nat), rs.length = i + d → ∀ (jj : Nat) (M : Mem), d + 1 ≤ jj → Hp M K [] →
    ∃ M', (∀ x, Lands 160 [(0, .slice (some ⟨rb, 0, rp⟩) rs.length rc), (3, .slice (some ⟨wb, 0, wp⟩) rs.length wc), (6, .pointer (some ⟨bb, 0, none⟩)), (102, .slice (some ⟨wb, 0, wp⟩) rs.length wc), (103, .int .i64 (rs.length : Int)), (104, .int .i64 (rs.length : Int))] (.exit 2) M' (loopD (codeD Tryd.prog kp 1 (callN Tryd.prog kp 1 o k) (drawD Tryd.prog kp 1 (callN Tryd.prog kp 1 o k) 160) 160 k (loopN Tryd.f3 1)) jj (fullN 160 (up x [(0, .slice (some ⟨rb, 0, rp⟩) rs.length rc), (3, .slice (some ⟨wb, 0, wp⟩) rs.length wc), (6, .pointer (some ⟨bb, 0, none⟩)), (102, .slice (some ⟨wb, 0, wp⟩) rs.length wc), (103, .int .i64 (rs.length : Int)), (104, .int .i64 (i : Int))])) M)) ∧ Hp M' K []
  | 0, i, hi, jj, M, hjj, h => by
    obtain ⟨jj, rfl⟩ : ∃ j', jj = j' + 1 := ⟨jj - 1, by omega⟩
    obtain rfl : i = rs.length := by omega
    refine ⟨M, fun x => Lands.stop (Lands.turn ?_) (by simp), h⟩
    refine Lands.via (calm_eq [22] Tryd.prog kp 1 _ _ 160 k (loopN Tryd.f3 1) (by kernel_rfl) _ M _) ?_
    refine Lands.via (markS_eq [21, 22] Tryd.prog kp 1 _ (Y.lpOf Tryd.prog kp 1 (callN Tryd.prog kp 1 o k) 160) (fun _ _ _ _ _ _ _ => rfl) 160 k (calm [22] (loopN Tryd.f3 1)) (by kernel_rfl) _ M _) ?_
    refine Lands.via (t_C2A ..) ?_
    rw [ge_len (by omega), nCondF]
    exact Lands.here _
  | d + 1, i, hi, jj, M, hjj, h => by
    obtain ⟨jj, rfl⟩ : ∃ j', jj = j' + 1 := ⟨jj - 1, by omega⟩
    have hlt : i < rs.length := by omega
    obtain ⟨r, hri⟩ : ∃ x, rs[i]? = some x := ⟨_, List.getElem?_eq_getElem hlt⟩
    obtain ⟨u, hu⟩ : ∃ u, vr[i]? = some (u, r) := by
      have := hri; rw [← hrs, List.getElem?_map] at this
      cases hq : vr[i]? with
      | none => rw [hq] at this; cases this
      | some p => rw [hq] at this; obtain ⟨a, b⟩ := p; cases this; exact ⟨a, rfl⟩
    obtain ⟨u', hu'⟩ : ∃ u, vw[i]? = some (u, r) := by
      have := hri; rw [← hws, List.getElem?_map] at this
      cases hq : vw[i]? with
      | none => rw [hq] at this; cases this
      | some p => rw [hq] at this; obtain ⟨a, b⟩ := p; cases this; exact ⟨a, rfl⟩
    have hltr : i < vr.length := (List.getElem?_eq_some_iff.1 hu).1
    have hltw : i < vw.length := (List.getElem?_eq_some_iff.1 hu').1
    have gr := h.get hrb
    have gw := h.get hwb
    have hvt : tstsAt K u r.tests := hv _ (List.mem_of_getElem? hu)
    have hwt : tstsAt K u' r.tests := hw _ (List.mem_of_getElem? hu')
    obtain ⟨ta, tc, rfl, _⟩ := hvt
    obtain ⟨ta', tc', rfl, _⟩ := hwt
    obtain ⟨M1, hM1⟩ : ∃ M1, (M.push (.cells true [(.slice none 0 0), (.int Go.IntKind.u32 (0 : Int))])).set M.size (.cells true (ruleC (.slice ta' r.tests.length tc', r))) = M1 := ⟨_, rfl⟩
    have gx : M1.get M.size = .cells true (ruleC (.slice ta' r.tests.length tc', r)) := by rw [← hM1]; exact Mem.get_set_same _ _ _
    have h1 : Hp M1 K [] := h.ext (hM1 ▸ Ext.fresh)
    have gr1 := h1.get hrb
    have hst : storeD Tryd.prog (M.push (.cells true [(.slice none 0 0), (.int Go.IntKind.u32 (0 : Int))])) 46 (.agg ⟨ruleC (.slice ta' r.tests.length tc', r)⟩) (.pointer (some ⟨M.size, 0, none⟩)) = some M1 := by
      rw [storeD_at (n := 2) sz46 rfl (Mem.get_push_same _ _) (by simp) rfl, ← hM1]
      rfl
    obtain ⟨M2, h2, h3⟩ := C2_loop (bb := bb) (rc := rc) (wc := wc) (rp := rp) (wp := wp) hrs hws hrb hwb hv hw hl d (i + 1) (by omega) jj M1 (by omega) h1
    refine ⟨M2, fun x => Lands.next (Lands.turn ?_) h2, h3⟩
    refine Lands.via (calm_eq [22] Tryd.prog kp 1 _ _ 160 k (loopN Tryd.f3 1) (by kernel_rfl) _ M _) ?_
    refine Lands.via (markS_eq [21, 22] Tryd.prog kp 1 _ (Y.lpOf Tryd.prog kp 1 (callN Tryd.prog kp 1 o k) 160) (fun _ _ _ _ _ _ _ => rfl) 160 k (calm [22] (loopN Tryd.f3 1)) (by kernel_rfl) _ M _) ?_
    refine Lands.via (t_C2A ..) ?_
    rw [lt_len hlt, nCondT]
    refine Lands.via (loop_reg _ _ _ (by kernel_rfl) _ _ _ _) ?_
    refine Lands.via (r3_21_eq ..) ?_
    refine Lands.via (opsF_cut 5 ..) ?_
    refine Lands.via (t_C2R ..) ?_
    rw [nOnNat, blt_t hlt, nCondT, gw, nCells, chunk_ble ruleC_len hltw, nCondT, chunk_sub ruleC_len hu']
    refine Lands.via (t_C2RS ..) ?_
    rw [Y.storeF_eq, hst, Y.ob_some]
    refine Lands.via (t_C2B ..) ?_
    refine Lands.via (loop_reg _ _ _ (by kernel_rfl) _ _ _ _) ?_
    refine Lands.via (r3_22_eq ..) ?_
    refine Lands.via (t_C2D ..) ?_
    rw [gx, nCells, show Y.nthL (ruleC (Value.slice ta' r.tests.length tc', r)) 1 = some (.int .u32 r.verdict) from rfl, nElim, nAsInt, nKEq, nCondT, nOnNat, blt_t hlt, nCondT, gr1, nCells, chunk_nth ruleC_len hu (show 1 < 2 by decide), show (ruleC (Value.slice ta r.tests.length tc, r))[1]? = some (.int .u32 r.verdict) from rfl, nElim, nAsInt, nKEq, nCondT, notB, eqF_t rfl, nCondT,
      nCells, show Y.nthL (ruleC (Value.slice ta' r.tests.length tc', r)) 0 = some (.slice ta' r.tests.length tc') from rfl, nElim, nAsSl, nOnNat, blt_t hlt, nCondT, nCells, chunk_nth ruleC_len hu (show 0 < 2 by decide), show (ruleC (Value.slice ta r.tests.length tc, r))[0]? = some (.slice ta r.tests.length tc) from rfl, nElim, nAsSl, notB, eqF_t rfl, nCondT]
    refine Lands.via (t_C2E ..) ?_
    rw [nCondF, wrap_succL (by omega)]
    exact Lands.here _
theorem C4_loop {l : List Ins} {bb db xb xd : Nat} (hB : K bb = some (.cells true [.slice none 0 0, .slice (some ⟨xb, 0, some 5⟩) l.length l.length])) (hcb : K xb = some (.cells true (codeC l))) (hD : K db = some (.cells true [.slice none 0 0, .slice (some ⟨xd, 0, some 5⟩) l.length l.length])) (hcd : K xd = some (.cells true (codeC l))) (hl : l.length ≤ 100000) (h : Hp M K []) :
    ∀ (d i : Nat), l.length = i + d → ∀ (jj : Nat), d + 1 ≤ jj →
    (∀ x, Lands 160 [(6, .pointer (some ⟨bb, 0, none⟩)), (15, .pointer (some ⟨db, 0, none⟩)), (136, .slice (some ⟨xd, 0, some 5⟩) l.length l.length), (137, .int .i64 (l.length : Int)), (138, .int .i64 (l.length : Int))] (.exit 4) M (loopD (codeD Tryd.prog kp 1 (callN Tryd.prog kp 1 o k) (drawD Tryd.prog kp 1 (callN Tryd.prog kp 1 o k) 160) 160 k (loopN Tryd.f3 2)) jj (fullN 160 (up x [(6, .pointer (some ⟨bb, 0, none⟩)), (15, .pointer (some ⟨db, 0, none⟩)), (136, .slice (some ⟨xd, 0, some 5⟩) l.length l.length), (137, .int .i64 (l.length : Int)), (138, .int .i64 (i : Int))])) M))
  | 0, i, hi, jj, hjj => by
    obtain ⟨jj, rfl⟩ : ∃ j', jj = j' + 1 := ⟨jj - 1, by omega⟩
    obtain rfl : i = l.length := by omega
    refine fun x => Lands.stop (Lands.turn ?_) (by simp)
    refine Lands.via (calm_eq [29] Tryd.prog kp 1 _ _ 160 k (loopN Tryd.f3 2) (by kernel_rfl) _ M _) ?_
    refine Lands.via (markS_eq [29] Tryd.prog kp 1 _ (Y.lpOf Tryd.prog kp 1 (callN Tryd.prog kp 1 o k) 160) (fun _ _ _ _ _ _ _ => rfl) 160 k (calm [29] (loopN Tryd.f3 2)) (by kernel_rfl) _ M _) ?_
    refine Lands.via (t_C4A ..) ?_
    rw [ge_len (by omega), nCondF]
    exact Lands.at (fa_cons rfl (fa_cons rfl (fa_cons rfl (fa_cons rfl (fa_cons rfl fa_nil)))))
  | d + 1, i, hi, jj, hjj => by
    obtain ⟨jj, rfl⟩ : ∃ j', jj = j' + 1 := ⟨jj - 1, by omega⟩
    have hlt : i < l.length := by omega
    obtain ⟨x0, hx0⟩ : ∃ x, l[i]? = some x := ⟨_, List.getElem?_eq_getElem hlt⟩
    have gB := h.get hB
    have gD := h.get hD
    have gcb := h.get hcb
    have gcd := h.get hcd
    have h2 := C4_loop hB hcb hD hcd hl h d (i + 1) (by omega) jj (by omega)
    refine fun x => Lands.next (Lands.turn ?_) h2
    refine Lands.via (calm_eq [29] Tryd.prog kp 1 _ _ 160 k (loopN Tryd.f3 2) (by kernel_rfl) _ M _) ?_
    refine Lands.via (markS_eq [29] Tryd.prog kp 1 _ (Y.lpOf Tryd.prog kp 1 (callN Tryd.prog kp 1 o k) 160) (fun _ _ _ _ _ _ _ => rfl) 160 k (calm [29] (loopN Tryd.f3 2)) (by kernel_rfl) _ M _) ?_
    refine Lands.via (t_C4A ..) ?_
    rw [lt_len hlt, nCondT]
    refine Lands.via (loop_reg _ _ _ (by kernel_rfl) _ _ _ _) ?_
    refine Lands.via (r3_29_eq ..) ?_
    refine Lands.via (opsF_cut 10 ..) ?_
    refine Lands.via (t_C4R ..) ?_
    rw [gD, nCells, show Y.nthL [Value.slice none 0 0, .slice (some ⟨xd, 0, some 5⟩) l.length l.length] 1 = some (.slice (some ⟨xd, 0, some 5⟩) l.length l.length) from rfl, nElim, nAsSl, nElim, nOnNat, blt_t hlt, nCondT, nAdB, nAdO, gcd, nCells, code_ble hlt, nCondT,
      gB, nCells, show Y.nthL [Value.slice none 0 0, .slice (some ⟨xb, 0, some 5⟩) l.length l.length] 1 = some (.slice (some ⟨xb, 0, some 5⟩) l.length l.length) from rfl, nElim, nAsSl, nElim, nOnNat, blt_t hlt, nCondT, nAdB, nAdO, gcb, nCells, code_ble hlt, nCondT, code_sub hx0]
    refine Lands.via (opsF_cut 1 ..) ?_
    refine Lands.via (t_C4N ..) ?_
    rw [feq_same, nElim, notB, nCondT]
    rw [show List.drop 1 (List.drop 10 r3_29) = [] by kernel_rfl]
    refine Lands.via (t_C4B ..) ?_
    rw [nCondF, wrap_succ (by omega)]
    exact Lands.here _
theorem len_le {l : List RuleT} {r : RuleT} (h : r ∈ l) : r.tests.length ≤ (l.map fun r => r.tests.length).sum := by
  induction l with
  | nil => simp at h
  | cons x l ih =>
    rw [List.map_cons, List.sum_cons]
    rcases List.mem_cons.1 h with rfl | h
    · omega
    · have := ih h; omega
theorem outS_len (rs : List RuleT) : (outS rs).length ≤ 512 := by
  unfold outS
  split
  · rename_i h
    unfold errS at h
    split at h
    · split at h
      · cases h
      · omega
    · rename_i h2; exact absurd h h2
  · exact Nat.zero_le _
theorem C0_run {l : List Ins} {K3 K5 K7 : Keep} {M9 : Mem} {ab bb rn rc wn wc : Nat} {a b ra wa : Option Addr} (hk : 1000 ≤ k) (hl : l.length ≤ 512) (hw5 : ∀ j x, K3 j = some x → K5 j = some x) (hw7 : ∀ j x, K5 j = some x → K7 j = some x)
    (hA : K5 ab = some (.cells true [.slice none 0 0, .slice a l.length l.length])) (hna : ∀ c, a = some ⟨c, 0, some 5⟩ → l ≠ [] → K3 c = none ∧ c ≠ ab) (hia : ImgK K5 l a) (hB : K7 bb = some (.cells true [.slice none 0 0, .slice b l.length l.length])) (hB5 : K5 bb = none) (hnb : ∀ c, b = some ⟨c, 0, some 5⟩ → l ≠ [] → K5 c = none ∧ c ≠ bb) (hib : ImgK K7 l b) (h9 : Hp M9 K7 []) :
    ∃ Kf M', (∀ x, Lands 160 [(0, .slice ra rn rc), (3, .slice wa wn wc), (4, .pointer (some ⟨ab, 0, none⟩)), (6, .pointer (some ⟨bb, 0, none⟩)), (76, .slice a l.length l.length), (77, .int .i64 (l.length : Int)), (78, .int .i64 (l.length : Int))] (.exit 0) M' (loopD (codeD Tryd.prog kp 1 (callN Tryd.prog kp 1 o k) (drawD Tryd.prog kp 1 (callN Tryd.prog kp 1 o k) 160) 160 k (loopN Tryd.f3 0)) k (fullN 160 (up x [(0, .slice ra rn rc), (3, .slice wa wn wc), (4, .pointer (some ⟨ab, 0, none⟩)), (6, .pointer (some ⟨bb, 0, none⟩)), (76, .slice a l.length l.length), (77, .int .i64 (l.length : Int)), (78, .int .i64 (0 : Int))])) M9)) ∧ Hp M' Kf [] ∧ (∀ j x, K3 j = some x → Kf j = some x) ∧ Kf bb = some (.cells true [.slice none 0 0, .slice b l.length l.length]) ∧ ImgK Kf l b := by
  by_cases e : l = []
  · subst e
    obtain ⟨k, rfl⟩ : ∃ k', k = k' + 1 := ⟨k - 1, by omega⟩
    refine ⟨K7, M9, fun x => Lands.stop (Lands.turn ?_) (by simp), h9, fun j x hj => hw7 _ _ (hw5 _ _ hj), hB, hib⟩
    refine Lands.via (calm_eq [15] Tryd.prog kp 1 _ _ 160 (k + 1) (loopN Tryd.f3 0) (by kernel_rfl) _ M9 _) ?_
    refine Lands.via (markS_eq [15, 17] Tryd.prog kp 1 _ (Y.lpOf Tryd.prog kp 1 (callN Tryd.prog kp 1 o (k + 1)) 160) (fun _ _ _ _ _ _ _ => rfl) 160 (k + 1) (calm [15] (loopN Tryd.f3 0)) (by kernel_rfl) _ M9 _) ?_
    refine Lands.via (t_C0A (i := 0) ..) ?_
    rw [show Y.ltF 0 (Int.ofNat ([] : List Ins).length) = false from rfl, nCondF]
    exact Lands.at (fa_cons rfl (fa_cons rfl (fa_cons rfl (fa_cons rfl (fa_cons rfl (fa_cons rfl (fa_cons rfl fa_nil)))))))
  · obtain ⟨xa, rfl, ga⟩ := hia e
    obtain ⟨xb, rfl, gb⟩ := hib e
    obtain ⟨na, ne1⟩ := hna _ rfl e
    obtain ⟨nb, ne2⟩ := hnb _ rfl e
    have hbx : bb ≠ xa := by rintro rfl; rw [hB5] at ga; cases ga
    have hxx : xb ≠ xa := by rintro rfl; rw [nb] at ga; cases ga
    have ga7 := hw7 _ _ ga
    obtain ⟨M', q1, q2⟩ := C0_loop (K := dropK K7 xa) (o := o) (k := k) (l := l) (ab := ab) (bb := bb) (xa := xa) (xb := xb) (ra := ra) (wa := wa) (rn := rn) (rc := rc) (wn := wn) (wc := wc) (by rw [dropK_ne (Ne.symm ne1)]; exact hw7 _ _ hA) (by rw [dropK_ne hbx]; exact hB) (by rw [dropK_ne hxx]; exact gb) (if_pos rfl) (by omega) l.length 0 (by omega) k M9 l (by omega) (h9.weak dropK_le) (h9.lt ga7) (h9.get ga7) rfl (fun _ _ => rfl)
    refine ⟨dropK K7 xa, M', q1, q2, fun j x hj => ?_, by rw [dropK_ne hbx]; exact hB, fun _ => ⟨xb, rfl, by rw [dropK_ne hxx]; exact gb⟩⟩
    have hne : j ≠ xa := by rintro rfl; rw [na] at hj; cases hj
    rw [dropK_ne hne]; exact hw7 _ _ (hw5 _ _ hj)
theorem C2_run {rs : List RuleT} {bb rc wc : Nat} {ra wa : Option Addr} (hk : rs.length + 2 ≤ k) (hl : rs.length * 32 ≤ 140737488355328) (hv : rulesAt K (.slice ra rs.length rc) rs) (hw : rulesAt K (.slice wa rs.length wc) rs) (h : Hp M K []) :
    ∃ M', (∀ x, Lands 160 [(0, .slice ra rs.length rc), (3, .slice wa rs.length wc), (6, .pointer (some ⟨bb, 0, none⟩)), (102, .slice wa rs.length wc), (103, .int .i64 (rs.length : Int)), (104, .int .i64 (rs.length : Int))] (.exit 2) M' (loopD (codeD Tryd.prog kp 1 (callN Tryd.prog kp 1 o k) (drawD Tryd.prog kp 1 (callN Tryd.prog kp 1 o k) 160) 160 k (loopN Tryd.f3 1)) k (fullN 160 (up x [(0, .slice ra rs.length rc), (3, .slice wa rs.length wc), (6, .pointer (some ⟨bb, 0, none⟩)), (102, .slice wa rs.length wc), (103, .int .i64 (rs.length : Int)), (104, .int .i64 (0 : Int))])) M)) ∧ Hp M' K [] := by
  obtain ⟨ra', rc', e1, hv⟩ := hv
  cases e1
  obtain ⟨wa', wc', e1, hw⟩ := hw
  cases e1
  by_cases e : rs = []
  · subst e
    obtain ⟨k, rfl⟩ : ∃ k', k = k' + 1 := ⟨k - 1, by omega⟩
    exact ⟨M, fun x => Lands.stop (Lands.turn (Lands.via (t_C2A0 ..) (Lands.here _))) (by simp), h⟩
  · obtain ⟨rb, rp, own, rest, vr, rfl, hrs, hrb, hvt⟩ := hv e
    obtain ⟨wb, wp, own', rest', vw, rfl, hws, hwb, hwt⟩ := hw e
    exact C2_loop (o := o) (k := k) hrs hws hrb hwb hvt hwt hl rs.length 0 (by omega) k M (by omega) h
theorem C4_run {l : List Ins} {bb db : Nat} {b d : Option Addr} (hk : 1000 ≤ k) (hl : l.length ≤ 512) (hB : K bb = some (.cells true [.slice none 0 0, .slice b l.length l.length])) (hib : ImgK K l b) (hD : K db = some (.cells true [.slice none 0 0, .slice d l.length l.length])) (hid : ImgK K l d) (h : Hp M K []) :
    ∀ x, Lands 160 [(6, .pointer (some ⟨bb, 0, none⟩)), (15, .pointer (some ⟨db, 0, none⟩)), (136, .slice d l.length l.length), (137, .int .i64 (l.length : Int)), (138, .int .i64 (l.length : Int))] (.exit 4) M (loopD (codeD Tryd.prog kp 1 (callN Tryd.prog kp 1 o k) (drawD Tryd.prog kp 1 (callN Tryd.prog kp 1 o k) 160) 160 k (loopN Tryd.f3 2)) k (fullN 160 (up x [(6, .pointer (some ⟨bb, 0, none⟩)), (15, .pointer (some ⟨db, 0, none⟩)), (136, .slice d l.length l.length), (137, .int .i64 (l.length : Int)), (138, .int .i64 (0 : Int))])) M) := by
  by_cases e : l = []
  · subst e
    obtain ⟨k, rfl⟩ : ∃ k', k = k' + 1 := ⟨k - 1, by omega⟩
    refine fun x => Lands.stop (Lands.turn ?_) (by simp)
    refine Lands.via (calm_eq [29] Tryd.prog kp 1 _ _ 160 (k + 1) (loopN Tryd.f3 2) (by kernel_rfl) _ M _) ?_
    refine Lands.via (markS_eq [29] Tryd.prog kp 1 _ (Y.lpOf Tryd.prog kp 1 (callN Tryd.prog kp 1 o (k + 1)) 160) (fun _ _ _ _ _ _ _ => rfl) 160 (k + 1) (calm [29] (loopN Tryd.f3 2)) (by kernel_rfl) _ M _) ?_
    refine Lands.via (t_C4A (i := 0) ..) ?_
    rw [show Y.ltF 0 (Int.ofNat ([] : List Ins).length) = false from rfl, nCondF]
    exact Lands.at (fa_cons rfl (fa_cons rfl (fa_cons rfl (fa_cons rfl (fa_cons rfl fa_nil)))))
  · obtain ⟨xb, rfl, gb⟩ := hib e
    obtain ⟨xd, rfl, gd⟩ := hid e
    exact C4_loop hB gb hD gd (by omega) h l.length 0 (by omega) k (by omega)
theorem LawC_do {rs : List RuleT} {v : Value} (hO : Orq o) (hAw : Pure o 5 [] (.bool true)) (hk : 2000000 + rs.length ≤ k) (hkt : ∀ r ∈ rs, r.tests.length + 200 ≤ k) (hr : TableRng rs) (hb1 : rs.length * 32 ≤ 140737488355328) (hb2 : ∀ r ∈ rs, r.tests.length * 56 ≤ 140737488355328) (hv : rulesAt K v rs) (h : Hp M K []) (h0 : K 0 = some (.cells false gl)) :
    ∃ M', callN Tryd.prog kp 1 o k 3 [v] M = some (.bool true, M') := by
  obtain ⟨k, rfl⟩ : ∃ k', k = k' + 1 := ⟨k - 1, by omega⟩
  obtain ⟨ra, rc, hve, _⟩ := id hv
  have hs0 := h.lt h0
  obtain ⟨M1, c1, x1⟩ := hAw k M (by omega) h.top (by omega) (h.get h0)
  have h1 := h.ext x1
  obtain ⟨M2, c2, h2⟩ := long_do (k := k) hO (by omega) hb1 hv h1
  by_cases hlo : 5000 < longW rs
  · refine ⟨M2, call_of 160 (hO.off 3 (by decide) _ _) at3 bd3 n3 ?_ ok3⟩
    subst hve
    refine Eq.trans (markS_eq [6, 7, 25] Tryd.prog kp 1 _ (Y.lpOf Tryd.prog kp 1 (callN Tryd.prog kp 1 o k) 160) (fun _ _ _ _ _ _ _ => rfl) 160 k (bodyOf Tryd.f3) (by kernel_rfl) _ M _) ?_
    refine Eq.trans (t_Cc_in ..) ?_
    refine step c1 ?_
    rw [nAsBoB, nCondT]
    refine step c2 ?_
    rw [nAsBoB, decide_eq_true hlo, nCondT]
  · obtain ⟨K3, w, M3, c3, hw3, h3, hwr⟩ := ours_do (k := k) hO (by omega) (fun r hx => by have := hkt r hx; omega) hb1 hb2 hv h2
    have hv3 := hv.mono hw3
    have h03 := hw3 _ _ h0
    obtain ⟨wa, wc, rfl, _⟩ := id hwr
    have hol := outS_len rs
    obtain ⟨va, M4, c4, h4, hcode4, _⟩ := Code_do (k := k) hO (by omega) hr hwr h3 h03
    obtain ⟨K5, a, M5, rfl, st5, hw5, h5, _, hA, hia, hna⟩ := learn_code h4 hcode4
    obtain ⟨vb, M6, c6, h6, hcode6, _⟩ := Image_do (k := k) hO (by omega) hr (hv3.mono hw5) h5 (hw5 _ _ h03)
    obtain ⟨K7, b, M7, rfl, st7, hw7, h7, hB5, hB, hib, hnb⟩ := learn_code h6 hcode6
    have h07 := hw7 _ _ (hw5 _ _ h03)
    obtain ⟨M8, c8, h8⟩ := Size_do (k := k) hO (by omega) hr ((hwr.mono hw5).mono hw7) h7 h07
    obtain ⟨M9, c9, h9⟩ := SizeR_do (k := k) hO (by omega) hr ((hv3.mono hw5).mono hw7) h8 h07
    have gA := h9.get (hw7 _ _ hA)
    have gB := h9.get hB
    obtain ⟨Kf, M10, lp0, h10, hwf, hBf, hibf⟩ := C0_run (o := o) (k := k) (ra := ra) (wa := wa) (rn := rs.length) (rc := rc) (wn := rs.length) (wc := wc) (by omega) hol hw5 hw7 hA hna hia hB hB5 hnb hib h9
    have hvf := hv3.mono hwf
    have hwwf := hwr.mono hwf
    subst hve
    obtain ⟨M11, lp2, h11⟩ := C2_run (o := o) (k := k) (bb := M6.size) (by omega) hb1 hvf hwwf h10
    obtain ⟨vd, M12, c12, h12, hcode12, _⟩ := Code_do (k := k) hO (by omega) hr hwwf h11 (hwf _ _ h03)
    obtain ⟨K13, d, M13, rfl, st13, hw13, h13, _, hD, hid, _⟩ := learn_code h12 hcode12
    have gB13 := h13.get (hw13 _ _ hBf)
    have gD13 := h13.get hD
    have lp4 := C4_run (o := o) (k := k) (by omega) hol (hw13 _ _ hBf) (hibf.mono hw13) hD hid h13
    refine ⟨M13, call_of 160 (hO.off 3 (by decide) _ _) at3 bd3 n3 ?_ ok3⟩
    refine Eq.trans (markS_eq [6, 7, 25] Tryd.prog kp 1 _ (Y.lpOf Tryd.prog kp 1 (callN Tryd.prog kp 1 o k) 160) (fun _ _ _ _ _ _ _ => rfl) 160 k (bodyOf Tryd.f3) (by kernel_rfl) _ M _) ?_
    refine Eq.trans (t_Cc_in ..) ?_
    refine step c1 ?_
    rw [nAsBoB, nCondT]
    refine step c2 ?_
    rw [nAsBoB, decide_eq_false hlo, nCondF]
    refine step c3 ?_
    rw [nAsSl]
    refine Eq.trans (loop_reg _ _ _ (by kernel_rfl) _ _ _ _) ?_
    refine Eq.trans (r3_6_eq ..) ?_
    refine Eq.trans (opsF_cut 6 ..) ?_
    refine Eq.trans (t_Cc6 ..) ?_
    refine step c4 ?_
    rw [nAsTup, nUncC, nAsAgg, nUncC, nAsInt, nKEq, nCondT, nUncN]
    refine Eq.trans (t_Cc6S ..) ?_
    rw [Y.storeF_eq, st5, Y.ob_some]
    refine Eq.trans (t_CcB ..) ?_
    refine Eq.trans (loop_reg _ _ _ (by kernel_rfl) _ _ _ _) ?_
    refine Eq.trans (r3_7_eq ..) ?_
    refine Eq.trans (opsF_cut 6 ..) ?_
    refine Eq.trans (t_Cc7 ..) ?_
    refine step c6 ?_
    rw [nAsTup, nUncC, nAsAgg, nUncC, nAsInt, nKEq, nCondT, nUncN]
    refine Eq.trans (t_Cc7S ..) ?_
    rw [Y.storeF_eq, st7, Y.ob_some]
    refine Eq.trans (t_CcC ..) ?_
    refine step c8 ?_
    rw [nAsTup, nUncC, nAsInt, nKEq, nCondT, nUncC, nAsInt, nKEq, nCondT, nUncN]
    refine step c9 ?_
    rw [nAsTup, nUncC, nAsInt, nKEq, nCondT, nUncC, nAsInt, nKEq, nCondT, nUncN, notB, eqF_t rfl, nCondT, gA, nCells, show Y.nthL [Value.slice none 0 0, .slice a (outS rs).length (outS rs).length] 0 = some (.slice none 0 0) from rfl, nElim, nAsSl, gB, nCells, show Y.nthL [Value.slice none 0 0, .slice b (outS rs).length (outS rs).length] 0 = some (.slice none 0 0) from rfl, nElim, nAsSl, notB, eqF_t rfl, nCondT, nCells, show Y.nthL [Value.slice none 0 0, .slice a (outS rs).length (outS rs).length] 1 = some (.slice a (outS rs).length (outS rs).length) from rfl, nElim, nAsSl, nCells, show Y.nthL [Value.slice none 0 0, .slice b (outS rs).length (outS rs).length] 1 = some (.slice b (outS rs).length (outS rs).length) from rfl, nElim, nAsSl, notB, eqF_t rfl, nCondT, notB, eqF_t rfl, nCondT, notB, eqF_t rfl, nCondT, nCells, show Y.nthL [Value.slice none 0 0, .slice a (outS rs).length (outS rs).length] 1 = some (.slice a (outS rs).length (outS rs).length) from rfl, nElim, nAsSl]
    refine Eq.trans (mixL_loop _ _ (by kernel_rfl) _ _ _ _) ?_
    rw [Y.lpOf_eq, lc3_2]
    simp only [Int.ofNat_eq_natCast]
    refine onE_land (lp0 _) fun x' => ?_
    refine Eq.trans (t_CcD ..) ?_
    refine Eq.trans (mixL_loop _ _ (by kernel_rfl) _ _ _ _) ?_
    rw [Y.lpOf_eq, lc3_3]
    simp only [Int.ofNat_eq_natCast]
    refine onE_land (lp2 _) fun x' => ?_
    refine Eq.trans (t_CcE ..) ?_
    refine Eq.trans (loop_reg _ _ _ (by kernel_rfl) _ _ _ _) ?_
    refine Eq.trans (r3_25_eq ..) ?_
    refine Eq.trans (opsF_cut 6 ..) ?_
    refine Eq.trans (t_Cc25 ..) ?_
    refine step c12 ?_
    rw [nAsTup, nUncC, nAsAgg, nUncC, nAsInt, nKEq, nCondT, nUncN]
    refine Eq.trans (t_Cc25S ..) ?_
    rw [Y.storeF_eq, st13, Y.ob_some]
    refine Eq.trans (t_CcF ..) ?_
    rw [gD13, nCells, show Y.nthL [Value.slice none 0 0, .slice d (outS rs).length (outS rs).length] 1 = some (.slice d (outS rs).length (outS rs).length) from rfl, nElim, nAsSl]
    refine Eq.trans (mixL_loop _ _ (by kernel_rfl) _ _ _ _) ?_
    rw [Y.lpOf_eq, lc3_5]
    simp only [Int.ofNat_eq_natCast]
    refine onE_land (lp4 _) fun x' => ?_
    refine Eq.trans (t_CcG ..) ?_
    rw [gD13, nCells, show Y.nthL [Value.slice none 0 0, .slice d (outS rs).length (outS rs).length] 1 = some (.slice d (outS rs).length (outS rs).length) from rfl, nElim, nAsSl, gB13, nCells, show Y.nthL [Value.slice none 0 0, .slice b (outS rs).length (outS rs).length] 1 = some (.slice b (outS rs).length (outS rs).length) from rfl, nElim, nAsSl, eqF_t rfl, nCondT]
end
end
end Go.Proofs.YtadioopbehiakaaDoor
