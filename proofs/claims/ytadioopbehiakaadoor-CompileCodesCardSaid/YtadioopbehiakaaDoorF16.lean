/-
  CTest2: a test, whole.
-/
import Derived.Test.YtadioopbehiakaaDoorF15
import Derived.Test.YtadioopbehiakaaDoorF10
set_option linter.all false
set_option linter.unusedVariables false
set_option linter.unusedSimpArgs false
namespace Go.Proofs.YtadioopbehiakaaDoor
open Go Go.DI Go.DI.Kit Go.Proofs Go.Cmp
noncomputable section
section
variable {K : Keep} {mp : Nat} {rows : List RowS} {labs : List (Nat × Nat)} {fr : Nat → Prop} {M : Mem}
variable {o : Orc} {k : Nat}
theorem askS_len (t : TestT) (n : Nat) : (askS t n).length ≤ 120 := by
  unfold askS
  (repeat' split) <;> simp [toldS, pastK]
theorem testS_eq (t : TestT) (lf n : Nat) : testS t lf n = afreshS ++ (askS t n ++ (maskS t ++ (loS t (n + 1) ++ (hiS t (n + 1) ++ Cmp.endS t (n + 1) (n + 2) lf)))) := by
  simp only [testS, boundS, loS, hiS, List.append_assoc]
theorem testS_len (t : TestT) (lf n : Nat) : (testS t lf n).length ≤ 150 := by
  have h1 := askS_len t n
  have h2 := maskS_len t
  have h3 := loS_len t (n + 1)
  have h4 := hiS_len t (n + 1)
  have h5 : (Cmp.endS t (n + 1) (n + 2) lf).length ≤ 7 := by unfold Cmp.endS; split <;> simp [afreshS]
  rw [testS_eq]
  simp only [List.length_append, afreshS, List.length_cons, List.length_nil]
  omega
theorem test_do {t : TestT} {lp lf n : Nat} (hO : Orq o) (hk : 100000 + 60 ≤ k) (ht : TestOk t) (hlp : (lp, lf) ∈ labs) (hl : rows.length + 300 ≤ 100000) (h : St K mp rows labs (fun j => n < j) M) :
    Does o k 21 [ptr mp, .agg ⟨testC t⟩, ptr lp] M (St K mp (rows ++ testS t lf n) labs (fun j => askN t n < j)) := by
  obtain ⟨k, rfl⟩ : ∃ k', k = k' + 1 := ⟨k - 1, by omega⟩
  have hb := h.box (.cells true (testC t))
  have h0 := hb.1.label (l := n + 1) (by omega)
  have htb := keep1_same K M.size (.cells true (testC t))
  obtain ⟨M1, c1, h1⟩ := afresh_do (k := k) hO (by omega) (by omega) h0
  have gb := h1.get htb
  have hA := askS_len t n
  suffices hs : ∃ M2, St (keep1 K M.size (.cells true (testC t))) mp (rows ++ afreshS ++ askS t n) ((M.size + 1, n + 1) :: labs) (fun j => j = n + 2 ∨ askN t n < j) M2 ∧
      ∀ M3, (∀ x : Nat → Value, ml o k 0 (fullN 133 (up x [(0, .pointer (some ⟨mp, 0, none⟩)), (2, .pointer (some ⟨lp, 0, none⟩)), (4, .pointer (some ⟨M.size, 0, none⟩)), (6, .pointer (some ⟨M.size + 1, 0, none⟩)), (7, .int .u64 0)])) M2 = some (unitV, M3)) →
        Y.codeF c21 Tryd.prog kp 1 (Y.cfT Tryd.prog (Y.cfOf (callN Tryd.prog kp 1 o k))) (mixL (Y.lpOf Tryd.prog kp 1 (callN Tryd.prog kp 1 o k) 133)) 133 k (fullN 133 (argX [ptr mp, .agg ⟨testC t⟩, ptr lp])) M (Y.retF Tryd.prog Tryd.f21 fun v m => some (v, m)) = some (unitV, M3) by
    obtain ⟨M2, h2, hrun⟩ := hs
    obtain ⟨M3, c3, h3⟩ := tst13_do (k := k) hO (by omega) htb hlp ht (by simp [afreshS]; omega) (.inl rfl) h2
    refine ⟨M3, call_of 133 (hO.off 21 (by decide) _ _) at21 bd21 n21 ?_ ok21, ?_⟩
    · refine Eq.trans (markS_eq [13, 22, 24, 26] Tryd.prog kp 1 _ (Y.lpOf Tryd.prog kp 1 (callN Tryd.prog kp 1 o k) 133) (fun _ _ _ _ _ _ _ => rfl) 133 k (bodyOf Tryd.f21) (by kernel_rfl) _ M _) ?_
      exact hrun M3 c3
    · have h3 := (h3.weak h.glb hb.2).frees (fr' := fun j => askN t n < j) fun j hj => ⟨.inr hj, by
        have hj : askN t n < j := hj
        unfold askN at hj
        (repeat' split at hj) <;> omega⟩
      rw [testS_eq]
      simpa only [List.append_assoc] using h3
  obtain ⟨neg, kind, pos, size, mask, lo, hi⟩ := t
  rcases ht.kind with e | e | e | e
  · obtain rfl : kind = 1 := e
    obtain ⟨M2, c2, h2⟩ := both_do (k := k) (op := 11) (d := 2) (s := 8) hO (by omega) (by simp [afreshS]; omega) (by simp) h1
    refine ⟨M2, (h2.frees fun j hj => ?_), fun M3 c3 => ?_⟩
    · have hj : j = n + 2 ∨ n + 2 < j := hj
      exact ⟨by omega, by omega⟩
    · refine Eq.trans (t_tstA ..) ?_
      refine step c1 ?_
      rw [gb, nCells, show Y.nthL (testC ⟨neg, 1, pos, size, mask, lo, hi⟩) 1 = some (.int .i64 1) from rfl, nElim, nAsInt, nKEq, nCondT, show Y.eqF 1 1 = true from rfl, nCondT]
      refine step c2 ?_
      exact c3 _
  · obtain rfl : kind = 2 := e
    obtain ⟨M2, c2, h2⟩ := load_do (k := k) (z := 4) (d := 2) (s := 6) (n := 4) hO (by omega) (by simp [afreshS]; omega) (by simp) h1
    refine ⟨M2, (h2.frees fun j hj => ?_), fun M3 c3 => ?_⟩
    · have hj : j = n + 2 ∨ n + 2 < j := hj
      exact ⟨by omega, by omega⟩
    · refine Eq.trans (t_tstA ..) ?_
      refine step c1 ?_
      rw [gb, nCells, show Y.nthL (testC ⟨neg, 2, pos, size, mask, lo, hi⟩) 1 = some (.int .i64 2) from rfl, nElim, nAsInt, nKEq, nCondT, show Y.eqF 2 1 = false from rfl, nCondF, show Y.eqF 2 2 = true from rfl, nCondT]
      refine step c2 ?_
      exact c3 _
  · obtain rfl : kind = 3 := e
    have hp : 0 ≤ pos ∧ pos ≤ 255 := ht.pos rfl
    have hz : isz size := ht.size rfl
    have hz2 : 1 ≤ size ∧ size ≤ 8 := by rcases hz with e | e | e | e <;> omega
    obtain ⟨M2, c2, h2⟩ := told_do (k := k) (n := pos + size) (a := n + 3) hO (by omega) (by simp [afreshS]; omega) (List.mem_cons_self ..) ⟨by omega, by omega⟩ h1
    have g2 := h2.get htb
    obtain ⟨M4, c4, h4⟩ := load_do (k := k) (z := size) (d := 2) (s := 7) (n := pos) hO (by omega) (by simp [afreshS, toldS]; omega) (.inr (.inr (.inr ⟨hz, rfl, rfl⟩))) h2
    refine ⟨M4, ?_, fun M3 c3 => ?_⟩
    · simp only [List.append_assoc] at h4 ⊢
      refine St.frees h4 fun j hj => ?_
      have hj : j = n + 2 ∨ n + 3 < j := hj
      exact ⟨⟨by omega, by omega⟩, by omega⟩
    · refine Eq.trans (t_tstA ..) ?_
      refine step c1 ?_
      rw [gb, nCells, show Y.nthL (testC ⟨neg, 3, pos, size, mask, lo, hi⟩) 1 = some (.int .i64 3) from rfl, nElim, nAsInt, nKEq, nCondT, show Y.eqF 3 1 = false from rfl, nCondF, show Y.eqF 3 2 = false from rfl, nCondF, show Y.eqF 3 3 = true from rfl, nCondT,
        nCells, show Y.nthL (testC ⟨neg, 3, pos, size, mask, lo, hi⟩) 2 = some (.int .i64 pos) from rfl, nElim, nAsInt, nKEq, nCondT, nCells, show Y.nthL (testC ⟨neg, 3, pos, size, mask, lo, hi⟩) 3 = some (.int .i64 size) from rfl, nElim, nAsInt, nKEq, nCondT,
        wrap64 (x := Int.add pos size) (by show _ ≤ pos + size ∧ pos + size ≤ _; omega)]
      refine step c2 ?_
      rw [g2, nCells, show Y.nthL (testC ⟨neg, 3, pos, size, mask, lo, hi⟩) 3 = some (.int .i64 size) from rfl, nElim, nAsInt, nKEq, nCondT, nCells, show Y.nthL (testC ⟨neg, 3, pos, size, mask, lo, hi⟩) 2 = some (.int .i64 pos) from rfl, nElim, nAsInt, nKEq, nCondT]
      refine step c4 ?_
      exact c3 _
  · obtain rfl : kind = 4 := e
    have hp : 0 ≤ pos ∧ pos ≤ 255 := ht.pos rfl
    have hz : isz size := ht.size rfl
    obtain ⟨M2, c2, h2⟩ := past_do (k := k) (t := ⟨neg, 4, pos, size, mask, lo, hi⟩) (n := n + 2) hO (by omega) (by simp [afreshS]; omega) hp hz (List.mem_cons_self ..) (fun j hj => ⟨by omega, by omega⟩) h1
    refine ⟨M2, ?_, fun M3 c3 => ?_⟩
    · refine St.frees (fr := _) h2 fun j hj => ?_
      have hj : j = n + 2 ∨ n + 4 + 32 < j := hj
      exact ⟨⟨by omega, by omega⟩, by omega⟩
    · refine Eq.trans (t_tstA ..) ?_
      refine step c1 ?_
      rw [gb, nCells, show Y.nthL (testC ⟨neg, 4, pos, size, mask, lo, hi⟩) 1 = some (.int .i64 4) from rfl, nElim, nAsInt, nKEq, nCondT, show Y.eqF 4 1 = false from rfl, nCondF, show Y.eqF 4 2 = false from rfl, nCondF, show Y.eqF 4 3 = false from rfl, nCondF,
        nCells, show Nat.ble 7 (Y.lenLF (testC ⟨neg, 4, pos, size, mask, lo, hi⟩)) = true from rfl, nCondT, show Y.subL (testC ⟨neg, 4, pos, size, mask, lo, hi⟩) 0 7 = testC ⟨neg, 4, pos, size, mask, lo, hi⟩ from rfl]
      refine step c2 ?_
      exact c3 _
end
end
end Go.Proofs.YtadioopbehiakaaDoor
namespace Go.Proofs.YtadioopbehiakaaDoor
open Go Go.DI Go.DI.Kit Go.Proofs Go.Cmp
noncomputable section
set_option maxHeartbeats 4000000
variable {α : Type} (x : Nat → Value) (cf : Y.CF α) (L : Y.LK α) (k : Nat) (m : Mem)
def c13 : Code := markS [6, 11] (loopN Tryd.f13 0)
def r13 : List Oper := regOps 6 (bodyOf Tryd.f13)
def r13b : List Oper := regOps 11 (bodyOf Tryd.f13)
def c13i : Code := markS [13] (loopN Tryd.f13 1)
def r13i : List Oper := regOps 13 (bodyOf Tryd.f13)
theorem t_made_in (ra : Option Addr) (rn rc : Nat) (q : Value → Mem → Option α) : Y.codeF (bodyOf Tryd.f13) Tryd.prog kp 1 (Y.cfT Tryd.prog cf) L 59 k (fullN 59 (argX [.slice ra rn rc])) m (Y.retF Tryd.prog Tryd.f13 q) =
  (cf 17 [(.pointer (some (Addr.mk (Mem.size m) 0 none))),(.int .i64 (11 : Int)),(.int .u8 (6 : Int)),(.int .u8 (1:Int))] (Mem.push m (.cells true [(.slice none 0 0)])) (fun v_9 m'_10=>(cf 18 [(.pointer (some (Addr.mk (Mem.size m) 0 none))),(.int .i64 (8 : Int)),(.int .u8 (7 : Int)),(.int .u8 (1:Int)),(.int .i64 (8 : Int))] m'_10 (fun v_11 m'_12=>(L (fun t m q=>Y.codeF (Y.loopC (bodyOf Tryd.f13) 0) Tryd.prog kp 1 (Y.cfT Tryd.prog cf) L 59 k t m q) (Y.loopC (bodyOf Tryd.f13) 0) k (fullN 59 (up (up Go.DI.x0 [(0,(.slice ra rn rc)),(12,v_9),(2,(.slice none 0 0)),(10,(.pointer (some (Addr.mk (Mem.size m) 0 none)))),(14,v_11),(9,(.agg ⟨[(.slice none 0 0)]⟩)),(13,(.pointer (some (Addr.mk (Mem.size m) 0 none)))),(11,(.pointer (some (Addr.mk (Mem.size m) 0 none))))]) [(3,(.pointer (some (Addr.mk (Mem.size m) 0 none)))),(15,(.slice ra rn rc)),(16,(.int .i64 (Int.ofNat rn))),(17,(.int .i64 (0:Int)))])) m'_12 (Y.kont Tryd.prog kp 1 (Y.cfT Tryd.prog cf) L 59 k (bodyOf Tryd.f13) 0 (Y.retF Tryd.prog Tryd.f13 q))))))):=by kernel_rfl
theorem t_madA (mp rb : Nat) (rp : Option Nat) (rn rc : Nat) (i : Int) (q : Y.ExK α) : Y.codeF c13 Tryd.prog kp 1 (Y.cfT Tryd.prog cf) L 59 k (fullN 59 (up x [(3,.pointer (some ⟨mp,0,none⟩)),(15,.slice (some ⟨rb,0,rp⟩) rn rc),(16,.int .i64 rn),(17,.int .i64 i)])) m q =
  (cond (Y.ltF i (Int.ofNat rn)) (L (Y.codeF (Y.loopC c13 0) Tryd.prog kp 1 (Y.cfT Tryd.prog cf) L 59 k) (Y.loopC c13 0) k (fullN 59 (up (up x [(18,(.bool true))]) [(3,(.pointer (some (Addr.mk mp 0 none)))),(15,(.slice (some (Addr.mk rb 0 rp)) rn rc)),(16,(.int .i64 (Int.ofNat rn))),(17,(.int .i64 i))])) m (Y.kont Tryd.prog kp 1 (Y.cfT Tryd.prog cf) L 59 k c13 0 q)) (q (Ex.exit 0) (fullN 59 (up (up x [(18,(.bool false))]) [(3,(.pointer (some (Addr.mk mp 0 none)))),(15,(.slice (some (Addr.mk rb 0 rp)) rn rc)),(16,(.int .i64 (Int.ofNat rn))),(17,(.int .i64 i))])) m)):=by kernel_rfl
theorem t_madR (mp rb : Nat) (rp : Option Nat) (rn rc : Nat) (i : Int) (q : Tmps → Mem → Option α) : Y.opsF (List.take 3 r13) Tryd.prog kp 1 (Y.cfT Tryd.prog cf) 59 r13 (fullN 59 (up x [(3,.pointer (some ⟨mp,0,none⟩)),(15,.slice (some ⟨rb,0,rp⟩) rn rc),(16,.int .i64 rn),(17,.int .i64 i)])) m q =
  (Y.onNat i (fun i_11=>(cond (Nat.blt i_11 rn) (Y.cellsOf (Mem.get m rb) (fun _ c_13=>(cond (Nat.ble (Nat.add (Nat.add 0 (Nat.mul i_11 2)) 2) (Y.lenLF c_13)) (q (fullN 59 (up (up x [(19,(.pointer (some (Addr.mk rb (Nat.add 0 (Nat.mul i_11 2)) none))))]) [(3,(.pointer (some (Addr.mk mp 0 none)))),(5,(.pointer (some (Addr.mk (Mem.size m) 0 none)))),(15,(.slice (some (Addr.mk rb 0 rp)) rn rc)),(16,(.int .i64 (Int.ofNat rn))),(17,(.int .i64 i)),(20,(.agg ⟨(Y.subL c_13 (Nat.add 0 (Nat.mul i_11 2)) 2)⟩))])) (Mem.push m (.cells true [(.slice none 0 0),(.int Go.IntKind.u32 (0:Int))]))) none))) none))):=by kernel_rfl
theorem t_madB (xb : Nat) (mp rb : Nat) (rp : Option Nat) (rn rc : Nat) (i : Int) (q : Y.ExK α) : Y.kont Tryd.prog kp 1 (Y.cfT Tryd.prog cf) L 59 k c13 0 q .normal (fullN 59 (up x [(3,.pointer (some ⟨mp,0,none⟩)),(5,.pointer (some ⟨xb,0,none⟩)),(15,.slice (some ⟨rb,0,rp⟩) rn rc),(16,.int .i64 rn),(17,.int .i64 i)])) m =
  (cf 19 [(.pointer (some (Addr.mk mp 0 none)))] (Mem.push m (.cells true [(.int .i64 (0:Int)),(.slice none 0 0)])) (fun v_14 m'_15=>(Y.cellsOf (Mem.get m'_15 xb) (fun _ c_17=>(Option.elim (Y.nthL c_17 0) none (fun o18=>(Y.asSl o18 (fun a_19 n_20 c_21=>(cond (Y.eqF (Int.ofNat n_20) (0:Int)) (cf 20 [(.pointer (some (Addr.mk mp 0 none))),(.int .i64 (5 : Int)),(.int .u8 (2 : Int)),(.int Go.IntKind.i32 (0:Int)),(.pointer (some (Addr.mk (Mem.size m) 0 none)))] m'_15 (fun v_22 m'_23=>(L (Y.codeF (Y.loopC c13 1) Tryd.prog kp 1 (Y.cfT Tryd.prog cf) L 59 k) (Y.loopC c13 1) k (fullN 59 (up (up x [(24,(.slice a_19 n_20 c_21)),(28,v_22),(26,(.bool true)),(22,v_14),(25,(.int .i64 (Int.ofNat n_20))),(21,(.pointer (some (Addr.mk mp 0 none)))),(27,(.pointer (some (Addr.mk mp 0 none)))),(23,(.pointer (some (Addr.mk xb 0 none))))]) [(3,(.pointer (some (Addr.mk mp 0 none)))),(5,(.pointer (some (Addr.mk xb 0 none)))),(6,(.pointer (some (Addr.mk (Mem.size m) 0 none)))),(15,(.slice (some (Addr.mk rb 0 rp)) rn rc)),(16,(.int .i64 (Int.ofNat rn))),(17,(.int .i64 i))])) m'_23 (Y.kont Tryd.prog kp 1 (Y.cfT Tryd.prog cf) L 59 k c13 1 q)))) (L (Y.codeF (Y.loopC c13 1) Tryd.prog kp 1 (Y.cfT Tryd.prog cf) L 59 k) (Y.loopC c13 1) k (fullN 59 (up (up x [(24,(.slice a_19 n_20 c_21)),(26,(.bool false)),(22,v_14),(25,(.int .i64 (Int.ofNat n_20))),(21,(.pointer (some (Addr.mk mp 0 none)))),(23,(.pointer (some (Addr.mk xb 0 none))))]) [(3,(.pointer (some (Addr.mk mp 0 none)))),(5,(.pointer (some (Addr.mk xb 0 none)))),(6,(.pointer (some (Addr.mk (Mem.size m) 0 none)))),(15,(.slice (some (Addr.mk rb 0 rp)) rn rc)),(16,(.int .i64 (Int.ofNat rn))),(17,(.int .i64 i))])) m'_15 (Y.kont Tryd.prog kp 1 (Y.cfT Tryd.prog cf) L 59 k c13 1 q)))) none))))))):=by kernel_rfl
theorem t_madS (xb lp : Nat) (mp rb : Nat) (rp : Option Nat) (rn rc : Nat) (i : Int) (q : Tmps → Mem → Option α) : Y.opsF (r13b) Tryd.prog kp 1 (Y.cfT Tryd.prog cf) 59 r13b (fullN 59 (up x [(3,.pointer (some ⟨mp,0,none⟩)),(5,.pointer (some ⟨xb,0,none⟩)),(6,.pointer (some ⟨lp,0,none⟩)),(15,.slice (some ⟨rb,0,rp⟩) rn rc),(16,.int .i64 rn),(17,.int .i64 i)])) m q =
  (Y.cellsOf (Mem.get m xb) (fun _ c_14=>(Option.elim (Y.nthL c_14 0) none (fun o15=>(Y.asSl o15 (fun a_16 n_17 c_18=>(q (fullN 59 (up (up x [(29,(.pointer (some (Addr.mk xb 0 none))))]) [(3,(.pointer (some (Addr.mk mp 0 none)))),(5,(.pointer (some (Addr.mk xb 0 none)))),(6,(.pointer (some (Addr.mk lp 0 none)))),(15,(.slice (some (Addr.mk rb 0 rp)) rn rc)),(16,(.int .i64 (Int.ofNat rn))),(17,(.int .i64 i)),(30,(.slice a_16 n_17 c_18)),(31,(.int .i64 (Int.ofNat n_17))),(32,(.int .i64 (0:Int)))])) m)) none))))):=by kernel_rfl
theorem t_madC (xb lp : Nat) (ta : Option Addr) (tn tc : Nat) (j : Int) (mp rb : Nat) (rp : Option Nat) (rn rc : Nat) (i : Int) (q : Y.ExK α) : Y.kont Tryd.prog kp 1 (Y.cfT Tryd.prog cf) L 59 k c13 1 q .normal (fullN 59 (up x [(3,.pointer (some ⟨mp,0,none⟩)),(5,.pointer (some ⟨xb,0,none⟩)),(6,.pointer (some ⟨lp,0,none⟩)),(15,.slice (some ⟨rb,0,rp⟩) rn rc),(16,.int .i64 rn),(17,.int .i64 i),(30,.slice ta tn tc),(31,.int .i64 tn),(32,.int .i64 j)])) m =
  (L (Y.codeF (Y.loopC c13 2) Tryd.prog kp 1 (Y.cfT Tryd.prog cf) L 59 k) (Y.loopC c13 2) k (fullN 59 (up x [(3,(.pointer (some (Addr.mk mp 0 none)))),(5,(.pointer (some (Addr.mk xb 0 none)))),(6,(.pointer (some (Addr.mk lp 0 none)))),(15,(.slice (some (Addr.mk rb 0 rp)) rn rc)),(16,(.int .i64 (Int.ofNat rn))),(17,(.int .i64 i)),(30,(.slice ta tn tc)),(31,(.int .i64 (Int.ofNat tn))),(32,(.int .i64 j))])) m (Y.kont Tryd.prog kp 1 (Y.cfT Tryd.prog cf) L 59 k c13 2 q)):=by kernel_rfl
theorem t_madD (xb lp : Nat) (ta : Option Addr) (tn tc : Nat) (j : Int) (mp rb : Nat) (rp : Option Nat) (rn rc : Nat) (i : Int) (q : Y.ExK α) : Y.kont Tryd.prog kp 1 (Y.cfT Tryd.prog cf) L 59 k c13 2 q (.exit 2) (fullN 59 (up x [(3,.pointer (some ⟨mp,0,none⟩)),(5,.pointer (some ⟨xb,0,none⟩)),(6,.pointer (some ⟨lp,0,none⟩)),(15,.slice (some ⟨rb,0,rp⟩) rn rc),(16,.int .i64 rn),(17,.int .i64 i),(30,.slice ta tn tc),(31,.int .i64 tn),(32,.int .i64 j)])) m =
  (Y.cellsOf (Mem.get m xb) (fun _ c_20=>(Option.elim (Y.nthL c_20 1) none (fun o21=>(Y.asInt o21 (fun k'_22 n_23=>(cond (Y.kEq Go.IntKind.u32 k'_22) (cf 22 [(.pointer (some (Addr.mk mp 0 none))),(.int Go.IntKind.u32 n_23)] m (fun v_24 m'_25=>(cf 23 [(.pointer (some (Addr.mk mp 0 none))),(.slice (some (Addr.mk (Mem.size m'_25) 0 none)) 1 1)] (Mem.push m'_25 (.cells true [(.pointer (some (Addr.mk lp 0 none)))])) (fun v_26 m'_27=>(cf 24 [(.pointer (some (Addr.mk mp 0 none))),(.slice (some (Addr.mk (Mem.size m'_27) 0 none)) 1 1)] (Mem.push m'_27 (.cells true [(.pointer (some (Addr.mk lp 0 none)))])) (fun v_28 m'_29=>(q .normal (fullN 59 (up (up x [(32,(.int .i64 j)),(48,(.slice (some (Addr.mk (Mem.size m'_27) 0 none)) 1 1)),(40,(.pointer (some (Addr.mk mp 0 none)))),(44,(.pointer (some (Addr.mk mp 0 none)))),(50,(.int .i64 (IntKind.wrap .i64 (Int.add i (1:Int))))),(42,(.int Go.IntKind.u32 n_23)),(6,(.pointer (some (Addr.mk lp 0 none)))),(46,v_26),(30,(.slice ta tn tc)),(49,v_28),(41,(.pointer (some (Addr.mk xb 1 none)))),(5,(.pointer (some (Addr.mk xb 0 none)))),(45,(.slice (some (Addr.mk (Mem.size m'_25) 0 none)) 1 1)),(43,v_24),(47,(.pointer (some (Addr.mk mp 0 none)))),(31,(.int .i64 (Int.ofNat tn)))]) [(3,(.pointer (some (Addr.mk mp 0 none)))),(15,(.slice (some (Addr.mk rb 0 rp)) rn rc)),(16,(.int .i64 (Int.ofNat rn))),(17,(.int .i64 (IntKind.wrap .i64 (Int.add i (1:Int)))))])) m'_29))))))) none)) none))))):=by kernel_rfl
theorem t_made_out (mp : Nat) (w15 w16 w17 : Value) (q : Value → Mem → Option α) : Y.kont Tryd.prog kp 1 (Y.cfT Tryd.prog cf) L 59 k (bodyOf Tryd.f13) 0 (Y.retF Tryd.prog Tryd.f13 q) (.exit 0) (fullN 59 (up x [(3,.pointer (some ⟨mp,0,none⟩)),(15,w15),(16,w16),(17,w17)])) m =
  (cf 19 [(.pointer (some (Addr.mk mp 0 none)))] m (fun v_11 m'_12=>(cf 22 [(.pointer (some (Addr.mk mp 0 none))),(.int Go.IntKind.u32 (0:Int))] m'_12 (fun v_13 m'_14=>(Y.cellsOf (Mem.get m'_14 mp) (fun _ c_16=>(Option.elim (Y.nthL c_16 0) none (fun o17=>(Y.asSl o17 (fun a_18 n_19 c_20=>(q (.slice a_18 n_19 c_20) m'_14)) none))))))))):=by kernel_rfl
theorem t_madI (xb lp tb tn tc : Nat) (tp : Option Nat) (j : Int) (mp rb : Nat) (rp : Option Nat) (rn rc : Nat) (i : Int) (q : Y.ExK α) : Y.codeF c13i Tryd.prog kp 1 (Y.cfT Tryd.prog cf) L 59 k (fullN 59 (up x [(3,.pointer (some ⟨mp,0,none⟩)),(5,.pointer (some ⟨xb,0,none⟩)),(6,.pointer (some ⟨lp,0,none⟩)),(15,.slice (some ⟨rb,0,rp⟩) rn rc),(16,.int .i64 rn),(17,.int .i64 i),(30,.slice (some ⟨tb,0,tp⟩) tn tc),(31,.int .i64 tn),(32,.int .i64 j)])) m q =
  (cond (Y.ltF j (Int.ofNat tn)) (L (Y.codeF (Y.loopC c13i 0) Tryd.prog kp 1 (Y.cfT Tryd.prog cf) L 59 k) (Y.loopC c13i 0) k (fullN 59 (up (up x [(33,(.bool true))]) [(3,(.pointer (some (Addr.mk mp 0 none)))),(5,(.pointer (some (Addr.mk xb 0 none)))),(6,(.pointer (some (Addr.mk lp 0 none)))),(15,(.slice (some (Addr.mk rb 0 rp)) rn rc)),(16,(.int .i64 (Int.ofNat rn))),(17,(.int .i64 i)),(30,(.slice (some (Addr.mk tb 0 tp)) tn tc)),(31,(.int .i64 (Int.ofNat tn))),(32,(.int .i64 j))])) m (Y.kont Tryd.prog kp 1 (Y.cfT Tryd.prog cf) L 59 k c13i 0 q)) (q (Ex.exit 2) (fullN 59 (up (up x [(33,(.bool false))]) [(3,(.pointer (some (Addr.mk mp 0 none)))),(5,(.pointer (some (Addr.mk xb 0 none)))),(6,(.pointer (some (Addr.mk lp 0 none)))),(15,(.slice (some (Addr.mk rb 0 rp)) rn rc)),(16,(.int .i64 (Int.ofNat rn))),(17,(.int .i64 i)),(30,(.slice (some (Addr.mk tb 0 tp)) tn tc)),(31,(.int .i64 (Int.ofNat tn))),(32,(.int .i64 j))])) m)):=by kernel_rfl
theorem t_madJ (xb lp tb tn tc : Nat) (tp : Option Nat) (j : Int) (mp rb : Nat) (rp : Option Nat) (rn rc : Nat) (i : Int) (q : Tmps → Mem → Option α) : Y.opsF (List.take 3 r13i) Tryd.prog kp 1 (Y.cfT Tryd.prog cf) 59 r13i (fullN 59 (up x [(3,.pointer (some ⟨mp,0,none⟩)),(5,.pointer (some ⟨xb,0,none⟩)),(6,.pointer (some ⟨lp,0,none⟩)),(15,.slice (some ⟨rb,0,rp⟩) rn rc),(16,.int .i64 rn),(17,.int .i64 i),(30,.slice (some ⟨tb,0,tp⟩) tn tc),(31,.int .i64 tn),(32,.int .i64 j)])) m q =
  (Y.onNat j (fun i_18=>(cond (Nat.blt i_18 tn) (Y.cellsOf (Mem.get m tb) (fun _ c_20=>(cond (Nat.ble (Nat.add (Nat.add 0 (Nat.mul i_18 7)) 7) (Y.lenLF c_20)) (q (fullN 59 (up (up x [(34,(.pointer (some (Addr.mk tb (Nat.add 0 (Nat.mul i_18 7)) none))))]) [(3,(.pointer (some (Addr.mk mp 0 none)))),(5,(.pointer (some (Addr.mk xb 0 none)))),(6,(.pointer (some (Addr.mk lp 0 none)))),(8,(.pointer (some (Addr.mk (Mem.size m) 0 none)))),(15,(.slice (some (Addr.mk rb 0 rp)) rn rc)),(16,(.int .i64 (Int.ofNat rn))),(17,(.int .i64 i)),(30,(.slice (some (Addr.mk tb 0 tp)) tn tc)),(31,(.int .i64 (Int.ofNat tn))),(32,(.int .i64 j)),(35,(.agg ⟨(Y.subL c_20 (Nat.add 0 (Nat.mul i_18 7)) 7)⟩))])) (Mem.push m (.cells true [(.bool false),(.int .i64 (0:Int)),(.int .i64 (0:Int)),(.int .i64 (0:Int)),(.int .u64 (0:Int)),(.int .u64 (0:Int)),(.int .u64 (0:Int))]))) none))) none))):=by kernel_rfl
theorem t_madK (yb : Nat) (xb lp tb tn tc : Nat) (tp : Option Nat) (j : Int) (mp rb : Nat) (rp : Option Nat) (rn rc : Nat) (i : Int) (q : Y.ExK α) : Y.kont Tryd.prog kp 1 (Y.cfT Tryd.prog cf) L 59 k c13i 0 q .normal (fullN 59 (up x [(3,.pointer (some ⟨mp,0,none⟩)),(5,.pointer (some ⟨xb,0,none⟩)),(6,.pointer (some ⟨lp,0,none⟩)),(8,.pointer (some ⟨yb,0,none⟩)),(15,.slice (some ⟨rb,0,rp⟩) rn rc),(16,.int .i64 rn),(17,.int .i64 i),(30,.slice (some ⟨tb,0,tp⟩) tn tc),(31,.int .i64 tn),(32,.int .i64 j)])) m =
  (Y.cellsOf (Mem.get m yb) (fun _ c_22=>(cond (Nat.ble 7 (Y.lenLF c_22)) (cf 21 [(.pointer (some (Addr.mk mp 0 none))),(.agg ⟨(Y.subL c_22 0 7)⟩),(.pointer (some (Addr.mk lp 0 none)))] m (fun v_23 m'_24=>(q .normal (fullN 59 (up (up x [(8,(.pointer (some (Addr.mk yb 0 none)))),(36,(.pointer (some (Addr.mk mp 0 none)))),(38,v_23),(37,(.agg ⟨(Y.subL c_22 0 7)⟩)),(39,(.int .i64 (IntKind.wrap .i64 (Int.add j (1:Int)))))]) [(3,(.pointer (some (Addr.mk mp 0 none)))),(5,(.pointer (some (Addr.mk xb 0 none)))),(6,(.pointer (some (Addr.mk lp 0 none)))),(15,(.slice (some (Addr.mk rb 0 rp)) rn rc)),(16,(.int .i64 (Int.ofNat rn))),(17,(.int .i64 i)),(30,(.slice (some (Addr.mk tb 0 tp)) tn tc)),(31,(.int .i64 (Int.ofNat tn))),(32,(.int .i64 (IntKind.wrap .i64 (Int.add j (1:Int)))))])) m'_24))) none))):=by kernel_rfl
end
end Go.Proofs.YtadioopbehiakaaDoor
namespace Go.DI
namespace Kit
noncomputable section
def Lands (N : Nat) (kn : List (Nat × Value)) (e : Ex) (M : Mem) (r : Option (Ex × Tmps × Mem)) : Prop := ∃ x', r = some (e, fullN N (up x' kn), M)
section
variable {N : Nat} {kn : List (Nat × Value)} {e : Ex} {M : Mem}
theorem Lands.here (x : Nat → Value) : Lands N kn e M (some (e, fullN N (up x kn), M)) := ⟨x, rfl⟩
theorem Lands.here' {x : Nat → Value} {t : Tmps} (h : t = fullN N (up x kn)) : Lands N kn e M (some (e, t, M)) := ⟨x, by rw [h]⟩
theorem up_self (F : Nat → Value) : ∀ kn : List (Nat × Value), (∀ p ∈ kn, F p.1 = p.2) → up F kn = F
  | [], _ => rfl
  | p :: kn, h => by
    have ih := up_self F kn fun q hq => h q (List.mem_cons_of_mem _ hq)
    funext i
    have h1 := h p (List.mem_cons_self ..)
    have e : up F (p :: kn) i = if i = p.1 then p.2 else up F kn i := by
      show Bool.rec (motive := fun _ => Value) (up F kn i) p.2 (Nat.beq p.1 i) = _
      by_cases hij : i = p.1
      · rw [if_pos hij, show Nat.beq p.1 i = true from by rw [hij]; exact Nat.beq_refl _]
      · rw [if_neg hij, show Nat.beq p.1 i = false from by
          cases hb : Nat.beq p.1 i with
          | false => rfl
          | true => exact absurd (Nat.eq_of_beq_eq_true hb).symm hij]
    rw [e, ih]
    split
    · rename_i he; rw [he, h1]
    · rfl
theorem Lands.at {F : Nat → Value} (h : ∀ p ∈ kn, F p.1 = p.2) : Lands N kn e M (some (e, fullN N F, M)) := ⟨F, by rw [up_self F kn h]⟩
theorem Lands.via {a b : Option (Ex × Tmps × Mem)} (h : a = b) (hb : Lands N kn e M b) : Lands N kn e M a := h ▸ hb
theorem Lands.step {df : DFun} {f : FuncId} {a : List Value} {m m' : Mem} {v : Value} {q : Value → Mem → Option (Ex × Tmps × Mem)} (h : df f a m = some (v, m')) (hq : Lands N kn e M (q v m')) : Lands N kn e M (Y.cfOf df f a m q) := by
  rw [nCf, h, nOnV]; exact hq
theorem Lands.loop {N' : Nat} {kn' : List (Nat × Value)} {e' : Ex} {M' : Mem} {r : Option (Ex × Tmps × Mem)} {q : Y.ExK (Ex × Tmps × Mem)} (hl : Lands N' kn' e' M' r) (hq : ∀ x', Lands N kn e M (q e' (fullN N' (up x' kn')) M')) : Lands N kn e M (Y.onE r q) := by
  obtain ⟨x', rfl⟩ := hl
  rw [nOnE]; exact hq x'
theorem Lands.next {kn' : List (Nat × Value)} {M' : Mem} {body : Tmps → Mem → Option (Ex × Tmps × Mem)} {t : Tmps} {m : Mem} {j : Nat} (h : Lands N kn' .normal M' (body t m)) (hq : ∀ x', Lands N kn e M (loopD body j (fullN N (up x' kn')) M')) : Lands N kn e M (loopD body (j + 1) t m) := by
  obtain ⟨x', h⟩ := h
  rw [loopD_next j h]; exact hq x'
theorem Lands.stop {body : Tmps → Mem → Option (Ex × Tmps × Mem)} {t : Tmps} {m : Mem} {j : Nat} (h : Lands N kn e M (body t m)) (he : e ≠ .normal) : Lands N kn e M (loopD body (j + 1) t m) := by
  obtain ⟨x', h⟩ := h
  rw [loopD_stop j h he]; exact ⟨x', rfl⟩
theorem Lands.turn {P : Program} {K : TypeId → Bool} {G : Nat} {o : Orc} {k n : Nat} {c : Code} {t : Tmps} {m : Mem} (h : Lands N kn e M (Y.codeF c P K G (Y.cfT P (Y.cfOf (callN P K G o k))) (Y.lpOf P K G (callN P K G o k) n) n k t m Y.q0)) :
    Lands N kn e M (codeD P K G (callN P K G o k) (drawD P K G (callN P K G o k) n) n k c t m) := by
  obtain ⟨x', h⟩ := h
  exact ⟨x', turn_of h⟩
theorem onE_land {α : Type} {N' : Nat} {kn' : List (Nat × Value)} {e' : Ex} {M' : Mem} {r : Option (Ex × Tmps × Mem)} {q : Y.ExK α} {R : Option α} (hl : Lands N' kn' e' M' r) (hq : ∀ x', q e' (fullN N' (up x' kn')) M' = R) : Y.onE r q = R := by
  obtain ⟨x', rfl⟩ := hl
  rw [nOnE]; exact hq x'
end
end
end Kit
end Go.DI
namespace Go.Cmp
open Go Go.DI
section
variable {X : Type} {g : X → List Value} {z : Nat}
theorem chunk_len (hz : ∀ x, (g x).length = z) : ∀ l : List X, (l.flatMap g).length = l.length * z
  | [] => by simp
  | x :: l => by
    have ih := chunk_len hz l
    simp only [List.flatMap_cons, List.length_append, ih, hz, List.length_cons]
    rw [Nat.add_mul, Nat.one_mul]; omega
theorem chunk_drop (hz : ∀ x, (g x).length = z) : ∀ (l : List X) (j : Nat) (x : X), l[j]? = some x → ∃ r, (l.flatMap g).drop (j * z) = g x ++ r
  | [], j, x, h => by simp at h
  | y :: l, 0, x, h => by simp at h; subst h; exact ⟨l.flatMap g, by simp⟩
  | y :: l, j + 1, x, h => by
    obtain ⟨r, hr⟩ := chunk_drop hz l j x (by simpa using h)
    refine ⟨r, ?_⟩
    have e : (j + 1) * z = (g y).length + j * z := by rw [hz, Nat.add_mul, Nat.one_mul]; omega
    rw [e, List.flatMap_cons, ← List.drop_drop, List.drop_left]
    exact hr
theorem chunk_sub (hz : ∀ x, (g x).length = z) {l : List X} {j : Nat} {x : X} (h : l[j]? = some x) (r : List Value) : Y.subL (l.flatMap g ++ r) (Nat.add 0 (Nat.mul j z)) z = g x := by
  obtain ⟨t, ht⟩ := chunk_drop hz l j x h
  have hl : j < l.length := (List.getElem?_eq_some_iff.1 h).1
  have hm : j * z ≤ l.length * z := Nat.mul_le_mul_right z (by omega)
  rw [Y.subL_eq, show Nat.add 0 (Nat.mul j z) = j * z from Nat.zero_add _, List.drop_append_of_le_length (by rw [chunk_len hz]; exact hm), ht, List.append_assoc]
  exact List.take_left' (hz x)
theorem chunk_ble (hz : ∀ x, (g x).length = z) {l : List X} {j : Nat} (h : j < l.length) (r : List Value) : Nat.ble (Nat.add (Nat.add 0 (Nat.mul j z)) z) (Y.lenLF (l.flatMap g ++ r)) = true := by
  rw [Y.lenLF_eq, List.length_append, chunk_len hz]
  have hm : (j + 1) * z ≤ l.length * z := Nat.mul_le_mul_right z (by omega)
  rw [Nat.add_mul, Nat.one_mul] at hm
  exact Nat.ble_eq_true_of_le (by show 0 + j * z + z ≤ _; omega)
theorem chunk_nth (hz : ∀ x, (g x).length = z) {l : List X} {j f : Nat} {x : X} (h : l[j]? = some x) (hf : f < z) (r : List Value) : Y.nthL (l.flatMap g ++ r) (Nat.add (Nat.add 0 (Nat.mul j z)) f) = (g x)[f]? := by
  obtain ⟨t, ht⟩ := chunk_drop hz l j x h
  have hl : j < l.length := (List.getElem?_eq_some_iff.1 h).1
  have hm : (j + 1) * z ≤ l.length * z := Nat.mul_le_mul_right z (by omega)
  rw [Nat.add_mul, Nat.one_mul] at hm
  rw [Y.nthL_eq, show Nat.add (Nat.add 0 (Nat.mul j z)) f = j * z + f by show 0 + j * z + f = _; omega, List.getElem?_append_left (by rw [chunk_len hz]; omega)]
  have : ((l.flatMap g).drop (j * z))[f]? = (g x)[f]? := by rw [ht, List.getElem?_append_left (by rw [hz]; exact hf)]
  rw [← this, List.getElem?_drop]
end
def ruleC (x : Value × RuleT) : List Value := [x.1, .int .u32 x.2.verdict]
theorem ruleC_len (x : Value × RuleT) : (ruleC x).length = 2 := rfl
end Go.Cmp
namespace Go.Proofs.YtadioopbehiakaaDoor
open Go Go.DI Go.DI.Kit Go.Proofs Go.Cmp
noncomputable section
theorem testC_len (t : TestT) : (testC t).length = 7 := rfl
def tstsAt (K : Keep) (v : Value) (ts : List TestT) : Prop := ∃ a cap, v = .slice a ts.length cap ∧ (ts ≠ [] → ∃ b sp own rest, a = some ⟨b, 0, sp⟩ ∧ K b = some (.cells own (ts.flatMap testC ++ rest)))
def rulesAt (K : Keep) (v : Value) (rs : List RuleT) : Prop := ∃ a cap, v = .slice a rs.length cap ∧ (rs ≠ [] → ∃ (b : Nat) (sp : Option Nat) (own : Bool) (rest : List Value) (vr : List (Value × RuleT)), a = some ⟨b, 0, sp⟩ ∧ vr.map (·.2) = rs ∧ K b = some (.cells own (vr.flatMap ruleC ++ rest)) ∧ ∀ x ∈ vr, tstsAt K x.1 x.2.tests)
theorem tstsAt.mono {K K' : Keep} {v : Value} {ts : List TestT} (h : tstsAt K v ts) (hw : ∀ j x, K j = some x → K' j = some x) : tstsAt K' v ts := by
  obtain ⟨a, cap, h1, h2⟩ := h
  refine ⟨a, cap, h1, fun h0 => ?_⟩
  obtain ⟨b, sp, own, rest, h3, h4⟩ := h2 h0
  exact ⟨b, sp, own, rest, h3, hw _ _ h4⟩
theorem rulesAt.mono {K K' : Keep} {v : Value} {rs : List RuleT} (h : rulesAt K v rs) (hw : ∀ j x, K j = some x → K' j = some x) : rulesAt K' v rs := by
  obtain ⟨a, cap, h1, h2⟩ := h
  refine ⟨a, cap, h1, fun h0 => ?_⟩
  obtain ⟨b, sp, own, rest, vr, h3, h4, h5, h6⟩ := h2 h0
  exact ⟨b, sp, own, rest, vr, h3, h4, hw _ _ h5, fun x hx => (h6 x hx).mono hw⟩
structure TableOk (rs : List RuleT) : Prop where
  len : rs.length ≤ 32
  tests : ∀ r ∈ rs, r.tests.length ≤ 8
  ok : ∀ r ∈ rs, ∀ t ∈ r.tests, TestOk t
theorem at13 : Tryd.prog.funcs[13]? = some Tryd.f13 := by kernel_rfl
theorem bd13 : Tryd.f13.body = some (bodyOf Tryd.f13) := by kernel_rfl
theorem nt13 : Tryd.f13.ntmps = 59 := by kernel_rfl
theorem n13 {a : Value} : max [a].length Tryd.f13.ntmps = 59 := by rw [nt13]; rfl
section
variable {α : Type} (x : Nat → Value) (cf : Y.CF α) (L : Y.LK α) (k : Nat) (m : Mem)
theorem t_madRS (b : Nat) (w3 w15 w16 w17 u : Value) (q : Tmps → Mem → Option α) : Y.opsF (List.drop 3 r13) Tryd.prog kp 1 (Y.cfT Tryd.prog cf) 59 r13 (fullN 59 (up x [(3, w3), (5, .pointer (some ⟨b, 0, none⟩)), (15, w15), (16, w16), (17, w17), (20, u)])) m q =
  Y.storeF Tryd.prog m 46 u (.pointer (some ⟨b, 0, none⟩)) fun m' => q (fullN 59 (up (up x [(20, u)]) [(3, w3), (5, .pointer (some ⟨b, 0, none⟩)), (15, w15), (16, w16), (17, w17)])) m' := by kernel_rfl
theorem t_madJS (b : Nat) (w3 w5 w6 w15 w16 w17 w30 w31 w32 u : Value) (q : Tmps → Mem → Option α) : Y.opsF (List.drop 3 r13i) Tryd.prog kp 1 (Y.cfT Tryd.prog cf) 59 r13i (fullN 59 (up x [(3, w3), (5, w5), (6, w6), (8, .pointer (some ⟨b, 0, none⟩)), (15, w15), (16, w16), (17, w17), (30, w30), (31, w31), (32, w32), (35, u)])) m q =
  Y.storeF Tryd.prog m 53 u (.pointer (some ⟨b, 0, none⟩)) fun m' => q (fullN 59 (up (up x [(35, u)]) [(3, w3), (5, w5), (6, w6), (8, .pointer (some ⟨b, 0, none⟩)), (15, w15), (16, w16), (17, w17), (30, w30), (31, w31), (32, w32)])) m' := by kernel_rfl
theorem r13_eq (t : Tmps) (q : Y.ExK α) : Y.codeF (Y.loopC c13 0) Tryd.prog kp 1 (Y.cfT Tryd.prog cf) L 59 k t m q = Y.opsF r13 Tryd.prog kp 1 (Y.cfT Tryd.prog cf) 59 r13 t m fun t m => q .normal t m := by kernel_rfl
theorem r13b_eq (t : Tmps) (q : Y.ExK α) : Y.codeF (Y.loopC c13 1) Tryd.prog kp 1 (Y.cfT Tryd.prog cf) L 59 k t m q = Y.opsF r13b Tryd.prog kp 1 (Y.cfT Tryd.prog cf) 59 r13b t m fun t m => q .normal t m := by kernel_rfl
theorem r13i_eq (t : Tmps) (q : Y.ExK α) : Y.codeF (Y.loopC c13i 0) Tryd.prog kp 1 (Y.cfT Tryd.prog cf) L 59 k t m q = Y.opsF r13i Tryd.prog kp 1 (Y.cfT Tryd.prog cf) 59 r13i t m fun t m => q .normal t m := by kernel_rfl
theorem t_madI0 (w3 w5 w6 w15 w16 w17 w30 : Value) (q : Y.ExK α) : Y.codeF (loopN Tryd.f13 1) Tryd.prog kp 1 (Y.cfT Tryd.prog cf) L 59 k (fullN 59 (up x [(3, w3), (5, w5), (6, w6), (15, w15), (16, w16), (17, w17), (30, w30), (31, .int .i64 (0 : Nat)), (32, .int .i64 (0 : Int))])) m q =
  q (.exit 2) (fullN 59 (up (up x [(33, .bool false)]) [(3, w3), (5, w5), (6, w6), (15, w15), (16, w16), (17, w17), (30, w30), (31, .int .i64 (0 : Nat)), (32, .int .i64 (0 : Int))])) m := by kernel_rfl
theorem t_madA0 (w3 w15 : Value) (q : Y.ExK α) : Y.codeF (loopN Tryd.f13 0) Tryd.prog kp 1 (Y.cfT Tryd.prog cf) L 59 k (fullN 59 (up x [(3, w3), (15, w15), (16, .int .i64 (0 : Nat)), (17, .int .i64 (0 : Int))])) m q =
  q (.exit 0) (fullN 59 (up (up x [(18, .bool false)]) [(3, w3), (15, w15), (16, .int .i64 (0 : Nat)), (17, .int .i64 (0 : Int))])) m := by kernel_rfl
end
theorem lc13 : Y.loopC c13 2 = loopN Tryd.f13 1 := by kernel_rfl
theorem sz46 : szOf Tryd.prog 46 = some 2 := by kernel_rfl
theorem sz53 : szOf Tryd.prog 53 = some 7 := by kernel_rfl
section
variable {K K' : Keep} {mp : Nat} {rows : List RowS} {labs : List (Nat × Nat)} {fr : Nat → Prop} {M M' : Mem}
variable {o : Orc} {k : Nat}
theorem St.boxE (h : St K mp rows labs fr M) {b : Nat} {x : Blk} (hx : Ext M M') (h1 : M.size ≤ b) (h2 : b < M'.size) (hb : M'.get b = x) : St (keep1 K b x) mp rows labs fr M' ∧ ∀ j y, K j = some y → keep1 K b x j = some y := by
  obtain ⟨f, h⟩ := h
  have hb := h.hp.box hx h1 h2 hb
  exact ⟨⟨f, hb.1, hb.2 _ _ h.glob, h.pos, h.nod, h.free, h.sett, h.known⟩, hb.2⟩
theorem Ext.fresh {m : Mem} {x y : Blk} : Ext m ((m.push x).set m.size y) := by
  refine ⟨by show m.size ≤ m.size + 1; omega, fun j hj => ?_, fun t j hj => ?_⟩
  · rw [Mem.get_set_ne _ (by omega), Mem.get_push_ne _ (by omega)]
  · have hj : m.size + 1 ≤ j := hj
    rw [Mem.get_set_ne _ (by omega), Mem.get_push_ne _ (by omega)]; exact t j (by omega)
theorem tests_loop {ts : List TestT} {rest : List Value} {own : Bool} {lp l tb tc xb rb rn rc i : Nat} {tp rp : Option Nat} (hO : Orq o) (hk : 100000 + 70 ≤ k) (hn : ts.length ≤ 8) (hts : ∀ t ∈ ts, TestOk t) (hlp : (lp, l) ∈ labs) (htb : K tb = some (.cells own (ts.flatMap testC ++ rest))) :
    ∀ (d j : Nat), ts.length = j + d → ∀ (jj n : Nat) (rows : List RowS) (M : Mem), d + 1 ≤ jj → rows.length + 150 * d + 300 ≤ 100000 → St K mp rows labs (fun j => n < j) M →
    ∃ M', (∀ x, Lands 59 [(3, .pointer (some ⟨mp, 0, none⟩)), (5, .pointer (some ⟨xb, 0, none⟩)), (6, .pointer (some ⟨lp, 0, none⟩)), (15, .slice (some ⟨rb, 0, rp⟩) rn rc), (16, .int .i64 (rn : Int)), (17, .int .i64 (i : Int)), (30, .slice (some ⟨tb, 0, tp⟩) ts.length tc), (31, .int .i64 (ts.length : Int)), (32, .int .i64 (ts.length : Int))] (.exit 2) M' (loopD (codeD Tryd.prog kp 1 (callN Tryd.prog kp 1 o k) (drawD Tryd.prog kp 1 (callN Tryd.prog kp 1 o k) 59) 59 k (loopN Tryd.f13 1)) jj (fullN 59 (up x [(3, .pointer (some ⟨mp, 0, none⟩)), (5, .pointer (some ⟨xb, 0, none⟩)), (6, .pointer (some ⟨lp, 0, none⟩)), (15, .slice (some ⟨rb, 0, rp⟩) rn rc), (16, .int .i64 (rn : Int)), (17, .int .i64 (i : Int)), (30, .slice (some ⟨tb, 0, tp⟩) ts.length tc), (31, .int .i64 (ts.length : Int)), (32, .int .i64 (j : Int))])) M)) ∧ St K mp (rows ++ testsS l (ts.drop j) n) labs (fun j' => testsN (ts.drop j) n < j') M'
  | 0, j, hj, jj, n, rows, M, hjj, _, h => by
    obtain ⟨jj, rfl⟩ : ∃ j', jj = j' + 1 := ⟨jj - 1, by omega⟩
    obtain rfl : j = ts.length := by omega
    refine ⟨M, fun x => Lands.stop (Lands.turn ?_) (by simp), ?_⟩
    · refine Lands.via (markS_eq [13] Tryd.prog kp 1 _ (Y.lpOf Tryd.prog kp 1 (callN Tryd.prog kp 1 o k) 59) (fun _ _ _ _ _ _ _ => rfl) 59 k (loopN Tryd.f13 1) (by kernel_rfl) _ M _) ?_
      refine Lands.via (t_madI ..) ?_
      rw [ge_len (by omega), nCondF]
      exact Lands.here _
    · rw [List.drop_length, show testsS l [] n = [] from rfl, List.append_nil]
      exact h
  | d + 1, j, hj, jj, n, rows, M, hjj, hl, h => by
    obtain ⟨jj, rfl⟩ : ∃ j', jj = j' + 1 := ⟨jj - 1, by omega⟩
    have hlt : j < ts.length := by omega
    obtain ⟨t, ht⟩ : ∃ t, ts[j]? = some t := ⟨_, List.getElem?_eq_getElem hlt⟩
    have htm : t ∈ ts := List.mem_of_getElem? ht
    have hd : ts.drop j = t :: ts.drop (j + 1) := by
      rw [List.drop_eq_getElem_cons hlt]
      congr 1
      rw [List.getElem?_eq_getElem hlt] at ht
      exact Option.some.inj ht
    have gb := h.get htb
    obtain ⟨M1, hM1⟩ : ∃ M1, (M.push (.cells true [(.bool false), (.int .i64 (0 : Int)), (.int .i64 (0 : Int)), (.int .i64 (0 : Int)), (.int .u64 (0 : Int)), (.int .u64 (0 : Int)), (.int .u64 (0 : Int))])).set M.size (.cells true (testC t)) = M1 := ⟨_, rfl⟩
    have gy : M1.get M.size = .cells true (testC t) := by rw [← hM1]; exact Mem.get_set_same _ _ _
    have hb1 := h.boxE (M' := M1) (b := M.size) (x := .cells true (testC t)) (hM1 ▸ Ext.fresh) (Nat.le_refl _) (by rw [← hM1]; show M.size < M.size + 1; omega) gy
    obtain ⟨M2, c2, h2⟩ := test_do (k := k) (lf := l) hO (by omega) (hts t htm) hlp (by omega) hb1.1
    have h2 := h2.weak h.glb hb1.2
    have hst : storeD Tryd.prog (M.push (.cells true [(.bool false), (.int .i64 (0 : Int)), (.int .i64 (0 : Int)), (.int .i64 (0 : Int)), (.int .u64 (0 : Int)), (.int .u64 (0 : Int)), (.int .u64 (0 : Int))])) 53 (.agg ⟨testC t⟩) (.pointer (some ⟨M.size, 0, none⟩)) = some M1 := by
      rw [storeD_at (n := 7) sz53 rfl (Mem.get_push_same _ _) (by simp) rfl, ← hM1]
      rfl
    have htl := testS_len t l n
    obtain ⟨M3, h3, h4⟩ := tests_loop (xb := xb) (rb := rb) (rn := rn) (rc := rc) (i := i) (tp := tp) (rp := rp) (tc := tc) hO hk hn hts hlp htb d (j + 1) (by omega) jj (askN t n) _ M2 (by omega) (by rw [List.length_append]; omega) h2
    refine ⟨M3, fun x => Lands.next (Lands.turn ?_) h3, ?_⟩
    · refine Lands.via (markS_eq [13] Tryd.prog kp 1 _ (Y.lpOf Tryd.prog kp 1 (callN Tryd.prog kp 1 o k) 59) (fun _ _ _ _ _ _ _ => rfl) 59 k (loopN Tryd.f13 1) (by kernel_rfl) _ M _) ?_
      refine Lands.via (t_madI ..) ?_
      rw [lt_len hlt, nCondT]
      refine Lands.via (loop_reg _ _ _ (by kernel_rfl) _ _ _ _) ?_
      refine Lands.via (r13i_eq ..) ?_
      refine Lands.via (opsF_cut 3 ..) ?_
      refine Lands.via (t_madJ ..) ?_
      rw [nOnNat, blt_t hlt, nCondT, gb, nCells, chunk_ble testC_len hlt, nCondT, chunk_sub testC_len ht]
      refine Lands.via (t_madJS ..) ?_
      rw [Y.storeF_eq, hst, Y.ob_some]
      refine Lands.via (t_madK ..) ?_
      rw [gy, nCells, show Nat.ble 7 (Y.lenLF (testC t)) = true from rfl, nCondT, show Y.subL (testC t) 0 7 = testC t from rfl]
      refine Lands.step c2 ?_
      rw [wrap_succ (by omega)]
      exact Lands.here _
    · rw [hd, testsS, testsN, ← List.append_assoc]
      exact h4
theorem tests_run {ts : List TestT} {v : Value} {lp l xb rb rn rc i n : Nat} {rp : Option Nat} (hO : Orq o) (hk : 100000 + 70 ≤ k) (hn : ts.length ≤ 8) (hts : ∀ t ∈ ts, TestOk t) (hlp : (lp, l) ∈ labs) (hv : tstsAt K v ts) (hl : rows.length + 1600 ≤ 100000) (h : St K mp rows labs (fun j => n < j) M) :
    ∃ ta tc M', v = .slice ta ts.length tc ∧ (∀ x, Lands 59 [(3, .pointer (some ⟨mp, 0, none⟩)), (5, .pointer (some ⟨xb, 0, none⟩)), (6, .pointer (some ⟨lp, 0, none⟩)), (15, .slice (some ⟨rb, 0, rp⟩) rn rc), (16, .int .i64 (rn : Int)), (17, .int .i64 (i : Int)), (30, .slice ta ts.length tc), (31, .int .i64 (ts.length : Int)), (32, .int .i64 (ts.length : Int))] (.exit 2) M' (loopD (codeD Tryd.prog kp 1 (callN Tryd.prog kp 1 o k) (drawD Tryd.prog kp 1 (callN Tryd.prog kp 1 o k) 59) 59 k (loopN Tryd.f13 1)) k (fullN 59 (up x [(3, .pointer (some ⟨mp, 0, none⟩)), (5, .pointer (some ⟨xb, 0, none⟩)), (6, .pointer (some ⟨lp, 0, none⟩)), (15, .slice (some ⟨rb, 0, rp⟩) rn rc), (16, .int .i64 (rn : Int)), (17, .int .i64 (i : Int)), (30, .slice ta ts.length tc), (31, .int .i64 (ts.length : Int)), (32, .int .i64 (0 : Int))])) M)) ∧ St K mp (rows ++ testsS l ts n) labs (fun j' => testsN ts n < j') M' := by
  obtain ⟨ta, tc, rfl, hv⟩ := hv
  by_cases h0 : ts = []
  · subst h0
    obtain ⟨k, rfl⟩ : ∃ k', k = k' + 1 := ⟨k - 1, by omega⟩
    refine ⟨ta, tc, M, rfl, fun x => Lands.stop (Lands.turn ?_) (by simp), ?_⟩
    · exact Lands.via (t_madI0 ..) (Lands.here _)
    · rw [show testsS l [] n = [] from rfl, List.append_nil]
      exact h
  · obtain ⟨tb, tp, own, rest, rfl, htb⟩ := hv h0
    obtain ⟨M', h1, h2⟩ := tests_loop (xb := xb) (rb := rb) (rn := rn) (rc := rc) (i := i) (tp := tp) (rp := rp) (tc := tc) hO hk hn hts hlp htb ts.length 0 (by omega) k n rows M (by omega) (by omega) h
    exact ⟨_, tc, M', rfl, h1, h2⟩
theorem testsS_len (l : Nat) : ∀ (ts : List TestT) (n : Nat), (testsS l ts n).length ≤ 150 * ts.length
  | [], n => by simp [testsS]
  | t :: ts, n => by
    have h1 := testS_len t l n
    have h2 := testsS_len l ts (askN t n)
    simp only [testsS, List.length_append, List.length_cons]
    omega
theorem ruleS_len (r : RuleT) (n : Nat) (hr : r.tests.length ≤ 8) : (ruleS r n).length ≤ 1210 := by
  have h := testsS_len (n + 1) r.tests (n + 1)
  simp only [ruleS, List.length_append, afreshS, lowS, List.length_cons, List.length_nil]
  have : (if r.tests = [] then [ins (iIf 5 2 0) (n + 1)] else []).length ≤ 1 := by split <;> simp
  omega
theorem rule_turn {r : RuleT} {v : Value} {rest : List Value} {vr : List (Value × RuleT)} {own : Bool} {rb rc i n : Nat} {rp : Option Nat} (hO : Orq o) (hk : 100000 + 80 ≤ k) (hn : r.tests.length ≤ 8) (hts : ∀ t ∈ r.tests, TestOk t) (hi32 : i ≤ 32)
    (hrb : K rb = some (.cells own (vr.flatMap ruleC ++ rest))) (hi : vr[i]? = some (v, r)) (hv : tstsAt K v r.tests) (hl : rows.length + 2000 ≤ 100000) (h : St K mp rows [] (fun j => n < j) M) :
    ∃ M', (∀ x, Lands 59 [(3, .pointer (some ⟨mp, 0, none⟩)), (15, .slice (some ⟨rb, 0, rp⟩) vr.length rc), (16, .int .i64 (vr.length : Int)), (17, .int .i64 ((i + 1 : Nat) : Int))] .normal M' (codeD Tryd.prog kp 1 (callN Tryd.prog kp 1 o k) (drawD Tryd.prog kp 1 (callN Tryd.prog kp 1 o k) 59) 59 k (loopN Tryd.f13 0) (fullN 59 (up x [(3, .pointer (some ⟨mp, 0, none⟩)), (15, .slice (some ⟨rb, 0, rp⟩) vr.length rc), (16, .int .i64 (vr.length : Int)), (17, .int .i64 (i : Int))])) M)) ∧ St K mp (rows ++ ruleS r n) [] (fun j => testsN r.tests (n + 1) < j) M' := by
  have hlt : i < vr.length := (List.getElem?_eq_some_iff.1 hi).1
  have gb := h.get hrb
  obtain ⟨M1, hM1⟩ : ∃ M1, (M.push (.cells true [(.slice none 0 0), (.int Go.IntKind.u32 (0 : Int))])).set M.size (.cells true (ruleC (v, r))) = M1 := ⟨_, rfl⟩
  have gx : M1.get M.size = .cells true (ruleC (v, r)) := by rw [← hM1]; exact Mem.get_set_same _ _ _
  have s1 : M1.size = M.size + 1 := by rw [← hM1]; rfl
  have hb1 := h.boxE (M' := M1) (b := M.size) (x := .cells true (ruleC (v, r))) (hM1 ▸ Ext.fresh) (Nat.le_refl _) (by omega) gx
  have hst : storeD Tryd.prog (M.push (.cells true [(.slice none 0 0), (.int Go.IntKind.u32 (0 : Int))])) 46 (.agg ⟨ruleC (v, r)⟩) (.pointer (some ⟨M.size, 0, none⟩)) = some M1 := by
    obtain ⟨ta, tc, rfl, _⟩ := hv
    rw [storeD_at (n := 2) sz46 rfl (Mem.get_push_same _ _) (by simp) rfl, ← hM1]
    rfl
  have h1 := hb1.1.label (l := n + 1) (by omega)
  obtain ⟨M2, c2, h2⟩ := afresh_do (k := k) hO (by omega) (by omega) h1
  have kx := keep1_same K M.size (.cells true (ruleC (v, r)))
  have g2 := h2.get kx
  have hlp : (M1.size, n + 1) ∈ (M1.size, n + 1) :: ([] : List (Nat × Nat)) := List.mem_cons_self ..
  have hl3 : (if r.tests = [] then [ins (iIf 5 2 0) (n + 1)] else []).length ≤ 1 := by split <;> simp
  obtain ⟨M3, q1, q2, h3⟩ : ∃ M3, (r.tests = [] → callN Tryd.prog kp 1 o k 20 [ptr mp, .int .i64 5, .int .u8 2, .int .i32 0, ptr M1.size] M2 = some (unitV, M3)) ∧ (r.tests ≠ [] → M3 = M2) ∧
      St (keep1 K M.size (.cells true (ruleC (v, r)))) mp (rows ++ afreshS ++ if r.tests = [] then [ins (iIf 5 2 0) (n + 1)] else []) [(M1.size, n + 1)] (fun j => n < j ∧ j ≠ n + 1) M3 := by
    by_cases e : r.tests = []
    · obtain ⟨M3, c3, h3⟩ := when_do (k := k) (op := 5) (d := 2) (n := 0) hO (by omega) (by simp [afreshS]; omega) (by simp) hlp h2
      refine ⟨M3, fun _ => c3, fun hn => absurd e hn, ?_⟩
      rw [if_pos e]; exact h3
    · refine ⟨M2, fun hn => absurd hn e, fun _ => rfl, ?_⟩
      rw [if_neg e, List.append_nil]; exact h2
  have g3 := h3.get kx
  have h3' := h3.frees (fr' := fun j => n + 1 < j) fun j hj => ⟨by omega, by omega⟩
  obtain ⟨ta, tc, M4, hve, hloop, h4⟩ := tests_run (k := k) (xb := M.size) (rb := rb) (rn := vr.length) (rc := rc) (rp := rp) (i := i) (l := n + 1) hO (by omega) hn hts hlp (hv.mono hb1.2) (by simp only [List.length_append, afreshS, List.length_cons, List.length_nil]; omega) h3'
  have htl := testsS_len (n + 1) r.tests (n + 1)
  have g4 := h4.get kx
  obtain ⟨M5, c5, h5⟩ := ends_do (k := k) (v := r.verdict) hO (by omega) (by simp only [List.length_append, afreshS, List.length_cons, List.length_nil]; omega) h4
  obtain ⟨M6, c6, M7, c7, h7⟩ := done_do (k := k) hO (by omega) (by simp only [List.length_append, lowS, afreshS, List.length_cons, List.length_nil]; omega) h5
  have h7 := h7.weak h.glb hb1.2
  refine ⟨M7, fun x => Lands.turn ?_, by unfold ruleS; simpa only [List.append_assoc] using h7⟩
  refine Lands.via (markS_eq [6, 11] Tryd.prog kp 1 _ (Y.lpOf Tryd.prog kp 1 (callN Tryd.prog kp 1 o k) 59) (fun _ _ _ _ _ _ _ => rfl) 59 k (loopN Tryd.f13 0) (by kernel_rfl) _ M _) ?_
  refine Lands.via (t_madA ..) ?_
  rw [lt_len hlt, nCondT]
  refine Lands.via (loop_reg _ _ _ (by kernel_rfl) _ _ _ _) ?_
  refine Lands.via (r13_eq ..) ?_
  refine Lands.via (opsF_cut 3 ..) ?_
  refine Lands.via (t_madR ..) ?_
  rw [nOnNat, blt_t hlt, nCondT, gb, nCells, chunk_ble ruleC_len hlt, nCondT, chunk_sub ruleC_len hi]
  refine Lands.via (t_madRS ..) ?_
  rw [Y.storeF_eq, hst, Y.ob_some]
  refine Lands.via (t_madB ..) ?_
  refine Lands.step c2 ?_
  rw [g2, nCells, show Y.nthL (ruleC (v, r)) 0 = some v from rfl, nElim, hve, nAsSl]
  have hve' := hve
  by_cases e : r.tests = []
  · rw [eqF_t (show Int.ofNat r.tests.length = 0 by rw [e]; rfl), nCondT]
    refine Lands.step (q1 e) ?_
    refine Lands.via (loop_reg _ _ _ (by kernel_rfl) _ _ _ _) ?_
    refine Lands.via (r13b_eq ..) ?_
    refine Lands.via (t_madS ..) ?_
    rw [g3, nCells, show Y.nthL (ruleC (v, r)) 0 = some v from rfl, nElim, hve', nAsSl]
    refine Lands.via (t_madC ..) ?_
    refine Lands.via (mixL_loop _ _ (by kernel_rfl) _ _ _ _) ?_
    rw [Y.lpOf_eq, lc13]
    simp only [Int.ofNat_eq_natCast]
    refine Lands.loop (hloop _) fun x' => ?_
    refine Lands.via (t_madD ..) ?_
    rw [g4, nCells, show Y.nthL (ruleC (v, r)) 1 = some (.int .u32 r.verdict) from rfl, nElim, nAsInt, nKEq, nCondT]
    refine Lands.step c5 ?_
    refine Lands.step c6 ?_
    refine Lands.step c7 ?_
    rw [wrap_succ (by omega)]
    exact Lands.here _
  · obtain rfl := q2 e
    rw [eqF_f (show Int.ofNat r.tests.length ≠ 0 by intro h; exact e (List.eq_nil_of_length_eq_zero (by simpa using h))), nCondF]
    refine Lands.via (loop_reg _ _ _ (by kernel_rfl) _ _ _ _) ?_
    refine Lands.via (r13b_eq ..) ?_
    refine Lands.via (t_madS ..) ?_
    rw [g3, nCells, show Y.nthL (ruleC (v, r)) 0 = some v from rfl, nElim, hve', nAsSl]
    refine Lands.via (t_madC ..) ?_
    refine Lands.via (mixL_loop _ _ (by kernel_rfl) _ _ _ _) ?_
    rw [Y.lpOf_eq, lc13]
    simp only [Int.ofNat_eq_natCast]
    refine Lands.loop (hloop _) fun x' => ?_
    refine Lands.via (t_madD ..) ?_
    rw [g4, nCells, show Y.nthL (ruleC (v, r)) 1 = some (.int .u32 r.verdict) from rfl, nElim, nAsInt, nKEq, nCondT]
    refine Lands.step c5 ?_
    refine Lands.step c6 ?_
    refine Lands.step c7 ?_
    rw [wrap_succ (by omega)]
    exact Lands.here _
theorem rules_loop {rs : List RuleT} {rest : List Value} {vr : List (Value × RuleT)} {own : Bool} {rb rc : Nat} {rp : Option Nat} (hO : Orq o) (hk : 100000 + 80 ≤ k) (hT : TableOk rs) (hrs : vr.map (·.2) = rs) (hrb : K rb = some (.cells own (vr.flatMap ruleC ++ rest))) (hv : ∀ x ∈ vr, tstsAt K x.1 x.2.tests) :
    ∀ (d i : Nat), vr.length = i + d → ∀ (jj n : Nat) (rows : List RowS) (M : Mem), d + 1 ≤ jj → rows.length + 1210 * d + 2000 ≤ 100000 → St K mp rows [] (fun j => n < j) M →
    ∃ M', (∀ x, Lands 59 [(3, .pointer (some ⟨mp, 0, none⟩)), (15, .slice (some ⟨rb, 0, rp⟩) vr.length rc), (16, .int .i64 (vr.length : Int)), (17, .int .i64 (vr.length : Int))] (.exit 0) M' (loopD (codeD Tryd.prog kp 1 (callN Tryd.prog kp 1 o k) (drawD Tryd.prog kp 1 (callN Tryd.prog kp 1 o k) 59) 59 k (loopN Tryd.f13 0)) jj (fullN 59 (up x [(3, .pointer (some ⟨mp, 0, none⟩)), (15, .slice (some ⟨rb, 0, rp⟩) vr.length rc), (16, .int .i64 (vr.length : Int)), (17, .int .i64 (i : Int))])) M)) ∧ St K mp (rows ++ rulesS (rs.drop i) n) [] (fun j' => rulesN (rs.drop i) n < j') M'
  | 0, i, hi, jj, n, rows, M, hjj, _, h => by
    obtain ⟨jj, rfl⟩ : ∃ j', jj = j' + 1 := ⟨jj - 1, by omega⟩
    obtain rfl : i = vr.length := by omega
    have hlen : rs.length = vr.length := by rw [← hrs, List.length_map]
    refine ⟨M, fun x => Lands.stop (Lands.turn ?_) (by simp), ?_⟩
    · refine Lands.via (markS_eq [6, 11] Tryd.prog kp 1 _ (Y.lpOf Tryd.prog kp 1 (callN Tryd.prog kp 1 o k) 59) (fun _ _ _ _ _ _ _ => rfl) 59 k (loopN Tryd.f13 0) (by kernel_rfl) _ M _) ?_
      refine Lands.via (t_madA ..) ?_
      rw [ge_len (by omega), nCondF]
      exact Lands.here _
    · rw [← hlen, List.drop_length, show rulesS [] n = [] from rfl, List.append_nil]
      exact h
  | d + 1, i, hi, jj, n, rows, M, hjj, hl, h => by
    obtain ⟨jj, rfl⟩ : ∃ j', jj = j' + 1 := ⟨jj - 1, by omega⟩
    have hlen : rs.length = vr.length := by rw [← hrs, List.length_map]
    have h32 := hT.len
    have hlt : i < vr.length := by omega
    obtain ⟨p, hp⟩ : ∃ p, vr[i]? = some p := ⟨_, List.getElem?_eq_getElem hlt⟩
    obtain ⟨v, r⟩ := p
    have hpm : (v, r) ∈ vr := List.mem_of_getElem? hp
    have hrm : r ∈ rs := by rw [← hrs]; exact List.mem_map.2 ⟨_, hpm, rfl⟩
    have hri : rs[i]? = some r := by rw [← hrs, List.getElem?_map, hp]; rfl
    have hd : rs.drop i = r :: rs.drop (i + 1) := by
      rw [List.drop_eq_getElem_cons (by omega)]
      congr 1
      rw [List.getElem?_eq_getElem (by omega)] at hri
      exact Option.some.inj hri
    obtain ⟨M2, h1, h2⟩ := rule_turn (k := k) (rc := rc) (rp := rp) hO hk (hT.tests r hrm) (hT.ok r hrm) (by omega) hrb hp (hv _ hpm) (by omega) h
    have htl := ruleS_len r n (hT.tests r hrm)
    obtain ⟨M3, h3, h4⟩ := rules_loop (rc := rc) (rp := rp) hO hk hT hrs hrb hv d (i + 1) (by omega) jj (testsN r.tests (n + 1)) _ M2 (by omega) (by rw [List.length_append]; omega) h2
    refine ⟨M3, fun x => Lands.next (h1 x) h3, ?_⟩
    rw [hd, rulesS, rulesN, ← List.append_assoc]
    exact h4
theorem rulesS_len : ∀ (rs : List RuleT) (n : Nat), (∀ r ∈ rs, r.tests.length ≤ 8) → (rulesS rs n).length ≤ 1210 * rs.length
  | [], n, _ => by simp [rulesS]
  | r :: rs, n, h => by
    have h1 := ruleS_len r n (h r (by simp))
    have h2 := rulesS_len rs (testsN r.tests (n + 1)) fun r hr => h r (by simp [hr])
    simp only [rulesS, List.length_append, List.length_cons]
    omega
theorem okSl13 {a : Option Addr} {n c : Nat} : okR Tryd.prog 13 (.slice a n c) = true := by kernel_rfl
theorem St.new (h : Hp M K []) (h0 : K 0 = some (.cells false gl)) : St K M.size [] [] (fun j => 0 < j) (M.push (.cells true [.slice none 0 0])) := by
  refine ⟨fun _ => none, h.push [] [] 5, h0, fun x hx => by simp at hx, by simp, fun l hl => ⟨hl, rfl, fun x hx => by simp at hx, fun r hr => by simp at hr⟩, fun l q hq => (by cases hq), fun r hr => by simp at hr⟩
theorem made_do {rs : List RuleT} {v : Value} (hO : Orq o) (hk : 100000 + 100 ≤ k) (hT : TableOk rs) (hv : rulesAt K v rs) (h : Hp M K []) (h0 : K 0 = some (.cells false gl)) :
    ∃ v' M' mp, callN Tryd.prog kp 1 o k 13 [v] M = some (v', M') ∧ M'.get mp = .cells true [v'] ∧ Hp M' K [(mp, mkO (madeS (tableS rs)))] := by
  obtain ⟨k, rfl⟩ : ∃ k', k = k' + 1 := ⟨k - 1, by omega⟩
  have s0 := St.new h h0
  obtain ⟨M1, c1, h1⟩ := both_do (k := k) (op := 11) (d := 6) (s := 1) hO (by omega) (by simp) (by simp) s0
  obtain ⟨M2, c2, h2⟩ := load_do (k := k) (z := 8) (d := 7) (s := 1) (n := 8) hO (by omega) (by simp) (by simp) h1
  obtain ⟨ra, rc, rfl, hv⟩ := hv
  have hlen := rulesS_len rs 0 hT.tests
  have h32 := hT.len
  obtain ⟨M3, hloop, h3⟩ : ∃ M3, (∀ x, Lands 59 [(3, ptr M.size), (15, .slice ra rs.length rc), (16, .int .i64 (rs.length : Int)), (17, .int .i64 (rs.length : Int))] (.exit 0) M3 (loopD (codeD Tryd.prog kp 1 (callN Tryd.prog kp 1 o k) (drawD Tryd.prog kp 1 (callN Tryd.prog kp 1 o k) 59) 59 k (loopN Tryd.f13 0)) k (fullN 59 (up x [(3, ptr M.size), (15, .slice ra rs.length rc), (16, .int .i64 (rs.length : Int)), (17, .int .i64 (0 : Int))])) M2)) ∧
      St K M.size ([] ++ [ins (iRegs 11 6 1) 0] ++ [ins (iLoad 8 7 1 8) 0] ++ rulesS rs 0) [] (fun j' => rulesN rs 0 < j') M3 := by
    by_cases e : rs = []
    · subst e
      obtain ⟨k, rfl⟩ : ∃ k', k = k' + 1 := ⟨k - 1, by omega⟩
      refine ⟨M2, fun x => Lands.stop (Lands.turn ?_) (by simp), by rw [show rulesS [] 0 = [] from rfl, List.append_nil]; exact h2⟩
      exact Lands.via (t_madA0 ..) (Lands.here _)
    · obtain ⟨rb, rp, own, rest, vr, rfl, hrs, hrb, hvt⟩ := hv e
      have hl2 : rs.length = vr.length := by rw [← hrs, List.length_map]
      obtain ⟨M3, q1, q2⟩ := rules_loop (mp := M.size) (rc := rc) (rp := rp) (k := k) hO (by omega) hT hrs hrb hvt vr.length 0 (by omega) k 0 _ M2 (by omega) (by simp; omega) h2
      refine ⟨M3, fun x => ?_, q2⟩
      rw [hl2]
      exact q1 x
  obtain ⟨M4, c4, h4⟩ := afresh_do (k := k) hO (by omega) (by simp only [List.length_append, List.length_cons, List.length_nil]; omega) h3
  obtain ⟨M5, c5, h5⟩ := ends_do (k := k) (v := 0) hO (by omega) (by simp only [List.length_append, List.length_cons, List.length_nil, afreshS]; omega) h4
  have h6 := h5.made
  rw [show [] ++ [ins (iRegs 11 6 1) 0] ++ [ins (iLoad 8 7 1 8) 0] ++ rulesS rs 0 ++ afreshS ++ lowS 0 = tableS rs by simp only [tableS, List.nil_append, List.append_assoc, List.cons_append]] at h6
  obtain ⟨_, _, _, ⟨a, rfl⟩, gm, _⟩ := h6.set
  have gm' : M5.get M.size = .cells true [.slice a (madeS (tableS rs)).length (madeS (tableS rs)).length] := gm
  refine ⟨.slice a (madeS (tableS rs)).length (madeS (tableS rs)).length, M5, M.size, call_of 59 (hO.off 13 (by decide) _ _) at13 bd13 n13 ?_ okSl13, gm', h6⟩
  refine Eq.trans (t_made_in ..) ?_
  refine step c1 ?_
  refine step c2 ?_
  rw [Y.lpOf_eq, Y.loopC_body]
  simp only [Int.ofNat_eq_natCast]
  refine onE_land (hloop _) fun x' => ?_
  refine Eq.trans (t_made_out ..) ?_
  refine step c4 ?_
  refine step c5 ?_
  rw [gm', nCells, show Y.nthL [Value.slice a (madeS (tableS rs)).length (madeS (tableS rs)).length] 0 = some (.slice a (madeS (tableS rs)).length (madeS (tableS rs)).length) from rfl, nElim, nAsSl]
end
end
end Go.Proofs.YtadioopbehiakaaDoor
