/-
  CSettle: here and settle, where labels lie.
-/
import Derived.Test.YtadioopbehiakaaDoorF11
import Derived.Test.YtadioopbehiakaaDoorF12
set_option linter.all false
set_option linter.unusedVariables false
set_option linter.unusedSimpArgs false
namespace Go.Proofs.YtadioopbehiakaaDoor
open Go Go.DI Go.DI.Kit Go.Proofs Go.Cmp
noncomputable section
section
variable {α : Type} (x : Nat → Value) (cf : Y.CF α) (L : Y.LK α) (k : Nat) (m : Mem)
theorem t_hereS (lp : Nat) (w0 w5 w6 w7 w8 u : Value) (q : Tmps → Mem → Option α) : Y.opsF (List.drop 8 r23) Tryd.prog kp 1 (Y.cfT Tryd.prog cf) 21 r23 (fullN 21 (up x [(0, w0), (5, w5), (6, w6), (7, w7), (8, w8), (17, u), (19, .pointer (some ⟨lp, 0, none⟩))])) m q =
  Y.storeF Tryd.prog m 3 u (.pointer (some ⟨lp, 0, none⟩)) fun m' => q (fullN 21 (up (up x [(5, w5), (17, u), (19, .pointer (some ⟨lp, 0, none⟩))]) [(0, w0), (6, w6), (7, w7), (8, w8)])) m' := by kernel_rfl
set_option maxHeartbeats 4000000 in
theorem t_setD6 (mp lp sb nn jb jn : Nat) (i j at_ : Int) (q : Tmps → Mem → Option α) : Y.drawF Tryd.prog kp 1 (Y.cfT Tryd.prog cf) 40 r24i (fullN 40 (up x [(0, .pointer (some ⟨mp, 0, none⟩)), (5, .pointer (some ⟨lp, 0, none⟩)), (7, .int .i64 at_), (8, .slice (some ⟨sb, 0, none⟩) nn nn), (9, .int .i64 nn), (10, .int .i64 i), (17, .slice (some ⟨jb, 0, some 1⟩) jn jn), (18, .int .i64 jn), (19, .int .i64 j)])) m q =
  (Y.cellsOf (Mem.get m mp) (fun x_14 c_15 => (Option.elim (Y.nthL c_15 0) none (fun o16 => (Y.asSl o16 (fun a_17 n_18 c_19 => (Y.cellsOf (Mem.get m lp) (fun x_20 c_21 => (Option.elim (Y.nthL c_21 0) none (fun o22 => (Y.asInt o22 (fun k'_23 n_24 => (cond (Y.kEq .i64 k'_23) (Option.elim a_17 none (fun o25 => (Y.onNat at_ (fun i_26 => (cond (Nat.blt i_26 n_18) (Y.storeF Tryd.prog m 40 (.int Go.IntKind.i16 (IntKind.wrap Go.IntKind.i16 (IntKind.wrap .i64 (Int.sub (IntKind.wrap .i64 (Int.sub n_24 at_)) (1 : Int))))) (.pointer (some (Addr.mk o25.1 (Nat.add (Nat.add o25.2 (Nat.mul i_26 5)) 3) none))) (fun m_s => (Y.cellsOf (Mem.get m mp) (fun x_s c_s => (Option.elim (Y.nthL c_s 0) none (fun o_s => (Y.asSl o_s (fun a_s n_s k_s => (Bool.rec (motive := fun _ => Option α) none (q (fullN 40 (up (up x [(32, (.int .i64 at_)), (24, (.pointer (some (Addr.mk mp 0 none)))), (36, (.pointer (some (Addr.mk o25.1 (Nat.add o25.2 (Nat.mul i_26 5)) none)))), (28, (.pointer (some (Addr.mk lp 0 none)))), (34, (.int .i64 (IntKind.wrap .i64 (Int.sub (IntKind.wrap .i64 (Int.sub n_24 at_)) (1 : Int))))), (26, (.slice a_17 n_18 c_19)), (30, (.pointer (some (Addr.mk lp 0 none)))), (33, (.int .i64 (IntKind.wrap .i64 (Int.sub n_24 at_)))), (25, (.pointer (some (Addr.mk mp 0 none)))), (29, (.pointer (some (Addr.mk lp 0 none)))), (27, (.int .i64 at_)), (7, (.int .i64 at_)), (23, (.pointer (some (Addr.mk mp 0 none)))), (31, (.int .i64 n_24)), (35, (.int Go.IntKind.i16 (IntKind.wrap Go.IntKind.i16 (IntKind.wrap .i64 (Int.sub (IntKind.wrap .i64 (Int.sub n_24 at_)) (1 : Int)))))), (37, (.pointer (some (Addr.mk o25.1 (Nat.add (Nat.add o25.2 (Nat.mul i_26 5)) 3) none))))]) [(0, (.pointer (some (Addr.mk mp 0 none)))), (5, (.pointer (some (Addr.mk lp 0 none)))), (8, (.slice (some (Addr.mk sb 0 none)) nn nn)), (9, (.int .i64 (Int.ofNat nn))), (10, (.int .i64 i)), (17, (.slice (some (Addr.mk jb 0 (some 1))) jn jn)), (18, (.int .i64 (Int.ofNat jn))), (19, (.int .i64 j))])) m_s) (veq 8 (.slice a_s n_s k_s) (.slice a_17 n_18 c_19)))) none))))))) none))))) none)) none)))))) none))))) := by kernel_rfl
theorem r23_eq (t : Tmps) (q : Y.ExK α) : Y.codeF (Y.loopC c23 0) Tryd.prog kp 1 (Y.cfT Tryd.prog cf) L 21 k t m q = Y.opsF r23 Tryd.prog kp 1 (Y.cfT Tryd.prog cf) 21 r23 t m fun t m => q .normal t m := by kernel_rfl
theorem r24_eq (t : Tmps) (q : Y.ExK α) : Y.codeF (Y.loopC c24 0) Tryd.prog kp 1 (Y.cfT Tryd.prog cf) L 40 k t m q = Y.opsF r24 Tryd.prog kp 1 (Y.cfT Tryd.prog cf) 40 r24 t m fun t m => q .normal t m := by kernel_rfl
theorem lc24i : Y.loopC c24i 0 = Code.region 6 ⟨r24i⟩ true := by kernel_rfl
theorem r24i_eq (t : Tmps) (q : Y.ExK α) : Y.codeF (Y.loopC c24i 0) Tryd.prog kp 1 (Y.cfT Tryd.prog cf) L 40 k t m q = Y.drawF Tryd.prog kp 1 (Y.cfT Tryd.prog cf) 40 r24i t m fun t m => q .normal t m := by
  rw [lc24i]; rfl
end
theorem at23 : Tryd.prog.funcs[23]? = some Tryd.f23 := by kernel_rfl
theorem bd23 : Tryd.f23.body = some (bodyOf Tryd.f23) := by kernel_rfl
theorem nt23 : Tryd.f23.ntmps = 21 := by kernel_rfl
theorem n23 {a b : Value} : max [a, b].length Tryd.f23.ntmps = 21 := by rw [nt23]; rfl
theorem ok23 : okR Tryd.prog 23 unitV = true := by kernel_rfl
theorem at24 : Tryd.prog.funcs[24]? = some Tryd.f24 := by kernel_rfl
theorem bd24 : Tryd.f24.body = some (bodyOf Tryd.f24) := by kernel_rfl
theorem nt24 : Tryd.f24.ntmps = 40 := by kernel_rfl
theorem n24 {a b : Value} : max [a, b].length Tryd.f24.ntmps = 40 := by rw [nt24]; rfl
theorem ok24 : okR Tryd.prog 24 unitV = true := by kernel_rfl
theorem sz40 : szOf Tryd.prog 40 = some 1 := by kernel_rfl
section
variable {K K' : Keep} {mp : Nat} {rows : List RowS} {labs labs' : List (Nat × Nat)} {fr fr' : Nat → Prop} {M M' : Mem}
variable {o : Orc} {k : Nat}
theorem St.here {lp l : Nat} (h : St K mp rows ((lp, l) :: labs) fr M) : ∃ u, M.get mp = .cells true [.slice u (cnt rows) (cnt rows)] ∧ ∃ c, M.get lp = .cells true c ∧ c.length = 2 ∧ St K mp (rows ++ [lab l]) ((lp, l) :: labs) fr (M.set lp (.cells true (splice c 0 [.int .i64 (cnt rows : Int)]))) := by
  obtain ⟨f, h⟩ := h
  have hlen := outGo_length f rows 0
  have hpos := h.pos (lp, l) (List.mem_cons_self ..)
  have hnod := List.nodup_cons.1 h.nod
  have hne : ∀ y ∈ labs, y.2 ≠ l := fun y hy e => hnod.1 (List.mem_map.2 ⟨y, hy, e⟩)
  obtain ⟨_, _, _, ⟨u, rfl⟩, gm, _⟩ := h.hp.set
  have h2 : Hp M K ((lp, lbO (atS rows l : Int) (jumpsS l rows 0)) :: (mp, mkO (outGo f rows 0)) :: labs.map (lbS rows)) := h.hp.perm (List.Perm.swap _ _ _)
  obtain ⟨_, _, _, ⟨v, rfl⟩, gl2, hs⟩ := h2.set
  refine ⟨u, ?_, _, gl2, rfl, f, ?_, h.glob, h.pos, h.nod, ?_, ?_, ?_⟩
  · rw [gm]; show _ = Blk.cells true [.slice u (cnt rows) (cnt rows)]; rw [← hlen]; rfl
  · have hs := hs [.int .i64 (cnt rows : Int)] []
    have e1 : labs.map (lbS (rows ++ [lab l])) = labs.map (lbS rows) := by
      refine List.map_congr_left fun y hy => ?_
      simp only [lbS, atS_lab rows hpos.1, jumps_lab rows _ hpos.1]
      rw [if_neg (hne y hy)]
    have e2 : lbS (rows ++ [lab l]) (lp, l) = (lp, lbO (cnt rows : Int) (jumpsS l rows 0)) := by
      simp only [lbS, atS_lab rows hpos.1, jumps_lab rows _ hpos.1, if_true]
    rw [List.map_cons, e1, e2, outGo_lab f rows hpos.1]
    exact hs.perm (List.Perm.swap _ _ _)
  · intro j hj
    obtain ⟨g0, g1, g2, g3⟩ := h.free j hj
    refine ⟨g0, g1, g2, fun r hr => ?_⟩
    rcases List.mem_append.1 hr with hr | hr
    · exact g3 r hr
    · obtain rfl := List.mem_singleton.1 hr
      exact ⟨by show 0 ≠ j; omega, g2 (lp, l) (List.mem_cons_self ..)⟩
  · intro j q hq
    rw [atS_lab rows hpos.1, if_neg (by rintro rfl; rw [hpos.2] at hq; cases hq)]
    exact h.sett j q hq
  · intro r hr h0
    rcases List.mem_append.1 hr with hr | hr
    · exact h.known r hr h0
    · obtain rfl := List.mem_singleton.1 hr
      exact absurd h0 (Nat.lt_irrefl 0)
theorem here_st {sb lp l : Nat} (ho : ∀ a m, o 23 a m = none) (hk : 5 ≤ k) (hl : rows.length ≤ 100000) (h : St K mp rows ((lp, l) :: labs) fr M) (hsb : K sb = some (.cells true [ptr lp])) :
    ∃ M', callN Tryd.prog kp 1 o k 23 [ptr mp, .slice (some ⟨sb, 0, none⟩) 1 1] M = some (unitV, M') ∧ St K mp (rows ++ [lab l]) ((lp, l) :: labs) fr M' := by
  obtain ⟨k, rfl⟩ : ∃ k', k = k' + 1 := ⟨k - 1, by omega⟩
  obtain ⟨u, gm, c, gc, hcl, h'⟩ := h.here
  have gs := h.get hsb
  obtain ⟨M1, hM1⟩ : ∃ M1, M.set lp (.cells true (splice c 0 [.int .i64 (cnt rows : Int)])) = M1 := ⟨_, rfl⟩
  rw [hM1] at h'
  refine ⟨M1, call_of 21 (ho _ _) at23 bd23 n23 ?_ ok23, h'⟩
  refine Eq.trans (t_here_in ..) ?_
  have hT : ∀ x, ∃ x', codeD Tryd.prog kp 1 (callN Tryd.prog kp 1 o k) (drawD Tryd.prog kp 1 (callN Tryd.prog kp 1 o k) 21) 21 k (loopN Tryd.f23 0) (fullN 21 (up x [(0, .pointer (some ⟨mp, 0, none⟩)), (6, .slice (some ⟨sb, 0, none⟩) 1 1), (7, .int .i64 (1 : Nat)), (8, .int .i64 (0 : Nat))])) M =
      some (.normal, fullN 21 (up x' [(0, .pointer (some ⟨mp, 0, none⟩)), (6, .slice (some ⟨sb, 0, none⟩) 1 1), (7, .int .i64 (1 : Nat)), (8, .int .i64 (1 : Nat))]), M1) := by
    intro x
    apply Exists.intro
    refine turn_of ((markS_eq [3] Tryd.prog kp 1 _ (Y.lpOf Tryd.prog kp 1 (callN Tryd.prog kp 1 o k) 21) (fun _ _ _ _ _ _ _ => rfl) 21 k (loopN Tryd.f23 0) (by kernel_rfl) _ M _).trans ?_)
    refine Eq.trans (t_hereT ..) ?_
    rw [lt_len (by omega), nCondT, nOnNat, blt_t (by omega), nCondT, gs, nCells, show Y.nthL [ptr lp] (Nat.add 0 (Nat.mul 0 1)) = some (.pointer (some ⟨lp, 0, none⟩)) from rfl, nElim, nAsPt]
    refine Eq.trans (loop_reg _ _ _ (by kernel_rfl) _ _ _ _) ?_
    refine Eq.trans (r23_eq ..) ?_
    refine Eq.trans (opsF_cut 8 ..) ?_
    refine Eq.trans (t_hereR ..) ?_
    rw [gm, nCells, show Y.nthL [Value.slice u (cnt rows) (cnt rows)] 0 = some (.slice u (cnt rows) (cnt rows)) from rfl, nElim, nAsSl]
    refine Eq.trans (t_hereS ..) ?_
    rw [Y.storeF_eq, show storeD Tryd.prog M 3 (.int .i64 (Int.ofNat (cnt rows))) (.pointer (some ⟨lp, 0, none⟩)) = some M1 from (storeD_at (n := 1) sz3 rfl gc (by omega) rfl).trans (congrArg some hM1), Y.ob_some]
    refine Eq.trans (t_hereK ..) ?_
    rw [wrap_succ (by omega)]
    rfl
  have hS : ∀ x, ∃ x', codeD Tryd.prog kp 1 (callN Tryd.prog kp 1 o k) (drawD Tryd.prog kp 1 (callN Tryd.prog kp 1 o k) 21) 21 k (loopN Tryd.f23 0) (fullN 21 (up x [(0, .pointer (some ⟨mp, 0, none⟩)), (6, .slice (some ⟨sb, 0, none⟩) 1 1), (7, .int .i64 (1 : Nat)), (8, .int .i64 (1 : Nat))])) M1 =
      some (.exit 0, fullN 21 (up x' [(0, .pointer (some ⟨mp, 0, none⟩)), (6, .slice (some ⟨sb, 0, none⟩) 1 1), (7, .int .i64 (1 : Nat)), (8, .int .i64 (1 : Nat))]), M1) := by
    intro x
    apply Exists.intro
    refine turn_of ((markS_eq [3] Tryd.prog kp 1 _ (Y.lpOf Tryd.prog kp 1 (callN Tryd.prog kp 1 o k) 21) (fun _ _ _ _ _ _ _ => rfl) 21 k (loopN Tryd.f23 0) (by kernel_rfl) _ M1 _).trans ?_)
    refine Eq.trans (t_hereT ..) ?_
    rw [ge_len (by omega), nCondF]
    rfl
  obtain ⟨k2, rfl⟩ : ∃ k2, k = k2 + 2 := ⟨k - 2, by omega⟩
  obtain ⟨x1, hT⟩ := hT (up Go.DI.x0 [(1, (.slice (some (Addr.mk sb 0 none)) 1 1))])
  obtain ⟨x2, hS⟩ := hS x1
  have hloop : loopD _ (k2 + 2) _ _ = _ := (loopD_next (k2 + 1) hT).trans (loopD_stop k2 hS (by simp))
  rw [show ((0 : Nat) : Int) = 0 from rfl] at hloop
  rw [Y.lpOf_eq, Y.loopC_body, Int.ofNat_eq_natCast, hloop, Y.onE_some]
  exact t_here_out ..
theorem settleS_length (q n : Nat) : ∀ (J : List Nat) (c : List Ins), (settleS q n J c).length = c.length
  | [], c => rfl
  | p :: J, c => (settleS_length q n J _).trans (modA_length _ _ _)
theorem settleS_append (q n : Nat) : ∀ (a b : List Nat) (c : List Ins), settleS q n (a ++ b) c = settleS q n b (settleS q n a c)
  | [], b, c => rfl
  | p :: a, b, c => settleS_append q n a b _
def jumpC (J : List Nat) : List Value := J.map fun (j : Nat) => .int .i64 (j : Int)
theorem jumpC_nth {J : List Nat} {j p : Nat} (h : J[j]? = some p) : Y.nthL (jumpC J) (Nat.add 0 (Nat.mul j 1)) = some (.int .i64 (p : Int)) := by
  rw [show Nat.add 0 (Nat.mul j 1) = j from by show 0 + j * 1 = j; omega, Y.nthL_eq, jumpC, List.getElem?_map, h]; rfl
theorem jumps_loop {hs : List (Nat × Thing)} {c0 : List Ins} {J : List Nat} {q lp jb sb nn i : Nat} (hq : q ≤ 1000000) (hc : c0.length ≤ 1000000) (hJ : ∀ p ∈ J, p < c0.length) (hJl : J.length ≤ 1000000) (hk : J.length + 1 ≤ k) :
    ∀ (d j : Nat), J.length = j + d → ∀ (jj : Nat) (x : Nat → Value) (M : Mem), d + 1 ≤ jj → Hp M K ((mp, mkO (settleS q 0 (J.take j) c0)) :: (lp, lbO (q : Int) J) :: hs) → (J ≠ [] → M.get lp = .cells true [.int .i64 (q : Int), .slice (some ⟨jb, 0, some 1⟩) J.length J.length] ∧ M.get jb = .cells true (jumpC J)) →
    ∃ x' M', loopD (codeD Tryd.prog kp 1 (callN Tryd.prog kp 1 o k) (drawD Tryd.prog kp 1 (callN Tryd.prog kp 1 o k) 40) 40 k (loopN Tryd.f24 1)) jj
        (fullN 40 (up x [(0, .pointer (some ⟨mp, 0, none⟩)), (5, .pointer (some ⟨lp, 0, none⟩)), (8, .slice (some ⟨sb, 0, none⟩) nn nn), (9, .int .i64 (nn : Int)), (10, .int .i64 (i : Int)), (17, .slice (some ⟨jb, 0, some 1⟩) J.length J.length), (18, .int .i64 (J.length : Int)), (19, .int .i64 (j : Int))])) M =
      some (.exit 2, fullN 40 (up x' [(0, .pointer (some ⟨mp, 0, none⟩)), (5, .pointer (some ⟨lp, 0, none⟩)), (8, .slice (some ⟨sb, 0, none⟩) nn nn), (9, .int .i64 (nn : Int)), (10, .int .i64 (i : Int)), (17, .slice (some ⟨jb, 0, some 1⟩) J.length J.length), (18, .int .i64 (J.length : Int)), (19, .int .i64 (J.length : Int))]), M') ∧
      Hp M' K ((mp, mkO (settleS q 0 J c0)) :: (lp, lbO (q : Int) J) :: hs)
  | 0, j, hj, jj, x, M, hjj, hh, _ => by
    obtain ⟨jj, rfl⟩ : ∃ j', jj = j' + 1 := ⟨jj - 1, by omega⟩
    obtain rfl : j = J.length := by omega
    rw [List.take_length] at hh
    have hb : ∃ x', codeD Tryd.prog kp 1 (callN Tryd.prog kp 1 o k) (drawD Tryd.prog kp 1 (callN Tryd.prog kp 1 o k) 40) 40 k (loopN Tryd.f24 1) (fullN 40 (up x [(0, .pointer (some ⟨mp, 0, none⟩)), (5, .pointer (some ⟨lp, 0, none⟩)), (8, .slice (some ⟨sb, 0, none⟩) nn nn), (9, .int .i64 (nn : Int)), (10, .int .i64 (i : Int)), (17, .slice (some ⟨jb, 0, some 1⟩) J.length J.length), (18, .int .i64 (J.length : Int)), (19, .int .i64 (J.length : Int))])) M =
        some (.exit 2, fullN 40 (up x' [(0, .pointer (some ⟨mp, 0, none⟩)), (5, .pointer (some ⟨lp, 0, none⟩)), (8, .slice (some ⟨sb, 0, none⟩) nn nn), (9, .int .i64 (nn : Int)), (10, .int .i64 (i : Int)), (17, .slice (some ⟨jb, 0, some 1⟩) J.length J.length), (18, .int .i64 (J.length : Int)), (19, .int .i64 (J.length : Int))]), M) := by
      apply Exists.intro
      refine turn_of ((markS_eq [6] Tryd.prog kp 1 _ (Y.lpOf Tryd.prog kp 1 (callN Tryd.prog kp 1 o k) 40) (fun _ _ _ _ _ _ _ => rfl) 40 k (loopN Tryd.f24 1) (by kernel_rfl) _ M _).trans ?_)
      refine Eq.trans (t_setE ..) ?_
      rw [ge_len (by omega), nCondF]
      rfl
    obtain ⟨x', hb⟩ := hb
    exact ⟨x', M, loopD_stop jj hb (by simp), hh⟩
  | d + 1, j, hj, jj, x, M, hjj, hh, hm => by
    obtain ⟨jj, rfl⟩ : ∃ j', jj = j' + 1 := ⟨jj - 1, by omega⟩
    have hlt : j < J.length := by omega
    have hJ0 : J ≠ [] := by rintro rfl; simp at hlt
    obtain ⟨p, hp⟩ : ∃ p, J[j]? = some p := ⟨_, List.getElem?_eq_getElem hlt⟩
    have hpm : p ∈ J := List.mem_of_getElem? hp
    have hpl := hJ p hpm
    obtain ⟨gl1, gj1⟩ := hm hJ0
    obtain ⟨cj, hcj⟩ : ∃ cj, settleS q 0 (J.take j) c0 = cj := ⟨_, rfl⟩
    have hcl : cj.length = c0.length := by rw [← hcj]; exact settleS_length ..
    rw [hcj] at hh
    obtain ⟨c, c2, gm, gc, gl2, gj2, n1, n2, n3, hset⟩ := hh.poke2 (by show 0 < cj.length; omega) (by show 0 < J.length; omega)
    have e2 : c2 = jb := by
      rw [gl1] at gl2
      simp [lbO] at gl2
      exact gl2.symm
    subst e2
    have hst : storeD Tryd.prog M 40 (.int .i16 (w16 ((q : Int) - p - 1))) (.pointer (some ⟨c, p * 5 + 3, none⟩)) = some (M.set c (.cells true (codeC (modA cj p (goS q p))))) := by
      rw [storeD_at (n := 1) sz40 rfl gc (by show p * 5 + 3 + 1 ≤ (codeC cj).length; rw [codeC_len]; omega) rfl]
      congr 3
      exact codeC_mod q cj p p (by omega)
    obtain ⟨M1, hM1⟩ : ∃ M1, M.set c (.cells true (codeC (modA cj p (goS q p)))) = M1 := ⟨_, rfl⟩
    rw [hM1] at hst
    have hh1 : Hp M1 K ((mp, mkO (settleS q 0 (J.take (j + 1)) c0)) :: (lp, lbO (q : Int) J) :: hs) := by
      have := hset (codeC (modA cj p (goS q p))) (by show _ = (codeC cj).length; rw [codeC_len, codeC_len, modA_length]) (codeC_one _)
      rw [hM1] at this
      have e : settleS q 0 (J.take (j + 1)) c0 = modA cj p (goS q p) := by
        rw [List.take_add_one, hp, Option.toList_some, settleS_append, hcj]; rfl
      rw [e]
      have e3 : ({ mkO cj with c := codeC (modA cj p (goS q p)) } : Thing) = mkO (modA cj p (goS q p)) := by simp [mkO, modA_length, codeC]
      rw [e3] at this; exact this
    have gl3 : M1.get lp = .cells true [.int .i64 (q : Int), .slice (some ⟨c2, 0, some 1⟩) J.length J.length] := by rw [← hM1, Mem.get_set_ne _ n2]; exact gl1
    have gj3 : M1.get c2 = .cells true (jumpC J) := by rw [← hM1, Mem.get_set_ne _ n3]; exact gj1
    have gm3 : M1.get mp = .cells true [.slice (some ⟨c, 0, some 5⟩) cj.length cj.length] := by rw [← hM1, Mem.get_set_ne _ n1]; exact gm
    have gm' : M.get mp = .cells true [.slice (some ⟨c, 0, some 5⟩) cj.length cj.length] := gm
    have hb : ∃ x', codeD Tryd.prog kp 1 (callN Tryd.prog kp 1 o k) (drawD Tryd.prog kp 1 (callN Tryd.prog kp 1 o k) 40) 40 k (loopN Tryd.f24 1) (fullN 40 (up x [(0, .pointer (some ⟨mp, 0, none⟩)), (5, .pointer (some ⟨lp, 0, none⟩)), (8, .slice (some ⟨sb, 0, none⟩) nn nn), (9, .int .i64 (nn : Int)), (10, .int .i64 (i : Int)), (17, .slice (some ⟨c2, 0, some 1⟩) J.length J.length), (18, .int .i64 (J.length : Int)), (19, .int .i64 (j : Int))])) M =
        some (.normal, fullN 40 (up x' [(0, .pointer (some ⟨mp, 0, none⟩)), (5, .pointer (some ⟨lp, 0, none⟩)), (8, .slice (some ⟨sb, 0, none⟩) nn nn), (9, .int .i64 (nn : Int)), (10, .int .i64 (i : Int)), (17, .slice (some ⟨c2, 0, some 1⟩) J.length J.length), (18, .int .i64 (J.length : Int)), (19, .int .i64 ((j + 1 : Nat) : Int))]), M1) := by
      apply Exists.intro
      refine turn_of ((markS_eq [6] Tryd.prog kp 1 _ (Y.lpOf Tryd.prog kp 1 (callN Tryd.prog kp 1 o k) 40) (fun _ _ _ _ _ _ _ => rfl) 40 k (loopN Tryd.f24 1) (by kernel_rfl) _ M _).trans ?_)
      refine Eq.trans (t_setE ..) ?_
      rw [lt_len hlt, nCondT, nOnNat, blt_t hlt, nCondT, gj1, nCells, jumpC_nth hp, nElim, nAsInt, nKEq, nCondT]
      refine Eq.trans (loop_reg _ _ _ (by kernel_rfl) _ _ _ _) ?_
      refine Eq.trans (r24i_eq ..) ?_
      refine Eq.trans (t_setD6 ..) ?_
      rw [gm', nCells, show Y.nthL [Value.slice (some ⟨c, 0, some 5⟩) cj.length cj.length] 0 = some (.slice (some ⟨c, 0, some 5⟩) cj.length cj.length) from rfl, nElim, nAsSl, gl1, nCells,
        show Y.nthL [Value.int .i64 (q : Int), .slice (some ⟨c2, 0, some 1⟩) J.length J.length] 0 = some (.int .i64 (q : Int)) from rfl, nElim, nAsInt, nKEq, nCondT, nElim, nOnNat, blt_t (by omega), nCondT]
      rw [wrap64 (x := Int.sub (q : Int) (p : Int)) (by show _ ≤ (q : Int) - (p : Int) ∧ (q : Int) - (p : Int) ≤ _; omega), wrap64 (x := Int.sub (Int.sub (q : Int) (p : Int)) 1) (by show _ ≤ (q : Int) - (p : Int) - 1 ∧ (q : Int) - (p : Int) - 1 ≤ _; omega)]
      rw [Y.storeF_eq, show Nat.add (Nat.add ({ block := c, off := 0, spot := some 5 } : Addr).2 (Nat.mul p 5)) 3 = p * 5 + 3 from by show 0 + p * 5 + 3 = _; omega]
      rw [show storeD Tryd.prog M 40 (.int .i16 (IntKind.wrap .i16 (Int.sub (Int.sub (q : Int) (p : Int)) 1))) (.pointer (some ⟨c, p * 5 + 3, none⟩)) = some M1 from hst, Y.ob_some]
      rw [nCells, show Y.nthL [Value.slice (some ⟨c, 0, some 5⟩) cj.length cj.length] 0 = some (.slice (some ⟨c, 0, some 5⟩) cj.length cj.length) from rfl, nElim, nAsSl, show veq 8 (.slice (some ⟨c, 0, some 5⟩) cj.length cj.length) (.slice (some ⟨c, 0, some 5⟩) cj.length cj.length) = true from by simp [veq]]
      refine Eq.trans (t_setG ..) ?_
      rw [wrap_succ (by omega)]
      rfl
    obtain ⟨x', hb⟩ := hb
    obtain ⟨x2, M2, h2, h3⟩ := jumps_loop hq hc hJ hJl hk d (j + 1) (by omega) jj x' M1 (by omega) hh1 fun _ => ⟨gl3, gj3⟩
    exact ⟨x2, M2, (loopD_next jj hb).trans h2, h3⟩
end
end
end Go.Proofs.YtadioopbehiakaaDoor
namespace Go.Proofs.YtadioopbehiakaaDoor
open Go Go.DI Go.DI.Kit Go.Proofs Go.Cmp
noncomputable section
theorem t_setE0 {α : Type} (x : Nat → Value) (cf : Y.CF α) (L : Y.LK α) (k : Nat) (w0 w5 w8 w9 w10 w17 : Value) (m : Mem) (q : Y.ExK α) : Y.codeF c24i Tryd.prog kp 1 (Y.cfT Tryd.prog cf) L 40 k (fullN 40 (up x [(0, w0), (5, w5), (8, w8), (9, w9), (10, w10), (17, w17), (18, .int .i64 (0 : Nat)), (19, .int .i64 (0 : Nat))])) m q =
  q (.exit 2) (fullN 40 (up (up x [(20, .bool false)]) [(0, w0), (5, w5), (8, w8), (9, w9), (10, w10), (17, w17), (18, .int .i64 (0 : Nat)), (19, .int .i64 (0 : Nat))])) m := by kernel_rfl
theorem lc24 : Y.loopC c24 1 = loopN Tryd.f24 1 := by kernel_rfl
section
variable {K K' : Keep} {mp : Nat} {rows : List RowS} {labs labs' : List (Nat × Nat)} {fr fr' : Nat → Prop} {M M' : Mem}
variable {o : Orc} {k : Nat}
theorem jumps_one {hs : List (Nat × Thing)} {c0 : List Ins} {J : List Nat} {q lp sb nn i : Nat} (hq : q ≤ 1000000) (hc : c0.length ≤ 1000000) (hJ : ∀ p ∈ J, p < c0.length) (hJl : J.length ≤ 1000000) (hk : J.length + 1 ≤ k) (hh : Hp M K ((mp, mkO c0) :: (lp, lbO (q : Int) J) :: hs)) :
    ∃ a, M.get lp = .cells true [.int .i64 (q : Int), .slice a J.length J.length] ∧ ∀ x, ∃ x' M', loopD (codeD Tryd.prog kp 1 (callN Tryd.prog kp 1 o k) (drawD Tryd.prog kp 1 (callN Tryd.prog kp 1 o k) 40) 40 k (loopN Tryd.f24 1)) k
        (fullN 40 (up x [(0, .pointer (some ⟨mp, 0, none⟩)), (5, .pointer (some ⟨lp, 0, none⟩)), (8, .slice (some ⟨sb, 0, none⟩) nn nn), (9, .int .i64 (nn : Int)), (10, .int .i64 (i : Int)), (17, .slice a J.length J.length), (18, .int .i64 (J.length : Int)), (19, .int .i64 (0 : Nat))])) M =
      some (.exit 2, fullN 40 (up x' [(0, .pointer (some ⟨mp, 0, none⟩)), (5, .pointer (some ⟨lp, 0, none⟩)), (8, .slice (some ⟨sb, 0, none⟩) nn nn), (9, .int .i64 (nn : Int)), (10, .int .i64 (i : Int)), (17, .slice a J.length J.length), (18, .int .i64 (J.length : Int)), (19, .int .i64 (J.length : Int))]), M') ∧
      Hp M' K ((mp, mkO (settleS q 0 J c0)) :: (lp, lbO (q : Int) J) :: hs) := by
  have h2 : Hp M K ((lp, lbO (q : Int) J) :: (mp, mkO c0) :: hs) := hh.perm (List.Perm.swap _ _ _)
  by_cases hJ0 : J = []
  · obtain ⟨_, _, _, ⟨u, rfl⟩, gm, _⟩ := h2.set
    refine ⟨u, gm, fun x => ?_⟩
    subst hJ0
    obtain ⟨k, rfl⟩ : ∃ k', k = k' + 1 := ⟨k - 1, by omega⟩
    have hb : ∃ x', codeD Tryd.prog kp 1 (callN Tryd.prog kp 1 o (k + 1)) (drawD Tryd.prog kp 1 (callN Tryd.prog kp 1 o (k + 1)) 40) 40 (k + 1) (loopN Tryd.f24 1) (fullN 40 (up x [(0, .pointer (some ⟨mp, 0, none⟩)), (5, .pointer (some ⟨lp, 0, none⟩)), (8, .slice (some ⟨sb, 0, none⟩) nn nn), (9, .int .i64 (nn : Int)), (10, .int .i64 (i : Int)), (17, .slice u 0 0), (18, .int .i64 (0 : Nat)), (19, .int .i64 (0 : Nat))])) M =
        some (.exit 2, fullN 40 (up x' [(0, .pointer (some ⟨mp, 0, none⟩)), (5, .pointer (some ⟨lp, 0, none⟩)), (8, .slice (some ⟨sb, 0, none⟩) nn nn), (9, .int .i64 (nn : Int)), (10, .int .i64 (i : Int)), (17, .slice u 0 0), (18, .int .i64 (0 : Nat)), (19, .int .i64 (0 : Nat))]), M) := by
      apply Exists.intro
      refine turn_of ((markS_eq [6] Tryd.prog kp 1 _ (Y.lpOf Tryd.prog kp 1 (callN Tryd.prog kp 1 o (k + 1)) 40) (fun _ _ _ _ _ _ _ => rfl) 40 (k + 1) (loopN Tryd.f24 1) (by kernel_rfl) _ M _).trans ?_)
      exact t_setE0 ..
    obtain ⟨x', hb⟩ := hb
    exact ⟨x', M, loopD_stop k hb (by simp), hh⟩
  · have h0 : 0 < J.length := List.length_pos_iff.2 hJ0
    obtain ⟨c, g1, g2, _⟩ := h2.poke h0
    refine ⟨some ⟨c, 0, some 1⟩, g1, fun x => ?_⟩
    exact jumps_loop hq hc hJ hJl hk J.length 0 (by omega) k x M (by omega) (by rw [List.take_zero]; exact hh) fun _ => ⟨g1, g2⟩
theorem St0.settled {f : Nat → Option Nat} {lp l : Nat} (h : St0 K mp f rows ((lp, l) :: labs) fr M) (h' : Hp M' K ((mp, mkO (settleS (atS rows l) 0 (jumpsS l rows 0) (outGo f rows 0))) :: (lp, lbO (atS rows l : Int) (jumpsS l rows 0)) :: labs.map (lbS rows))) : St K mp rows labs fr M' := by
  have hpos := h.pos (lp, l) (List.mem_cons_self ..)
  have hnod := List.nodup_cons.1 h.nod
  have hne : ∀ y ∈ labs, y.2 ≠ l := fun y hy e => hnod.1 (List.mem_map.2 ⟨y, hy, e⟩)
  rw [settle_all f l (atS rows l) hpos.1 rows 0] at h'
  refine ⟨setF f l (atS rows l), (h'.perm (List.Perm.swap _ _ _)).tail, h.glob, fun x hx => ⟨(h.pos x (List.mem_cons_of_mem _ hx)).1, ?_⟩, hnod.2, fun j hj => ?_, fun j q hq => ?_, fun r hr h0 => ?_⟩
  · unfold setF
    rw [if_neg (hne x hx)]
    exact (h.pos x (List.mem_cons_of_mem _ hx)).2
  · obtain ⟨g0, g1, g2, g3⟩ := h.free j hj
    refine ⟨g0, ?_, fun x hx => g2 x (List.mem_cons_of_mem _ hx), g3⟩
    unfold setF
    rw [if_neg (fun e => g2 (lp, l) (List.mem_cons_self ..) e.symm)]
    exact g1
  · unfold setF at hq
    split at hq
    · rename_i e; rw [e]; exact (Option.some.inj hq).symm
    · exact h.sett j q hq
  · by_cases he : r.to = l
    · right; unfold setF; rw [if_pos he]; rfl
    · rcases h.known r hr h0 with ⟨x, hx, hxe⟩ | hs
      · rcases List.mem_cons.1 hx with rfl | hx
        · exact absurd hxe.symm he
        · exact .inl ⟨x, hx, hxe⟩
      · right; unfold setF; rw [if_neg he]; exact hs
theorem settle_loop {ps : List (Nat × Nat)} {sb : Nat} (hl : rows.length ≤ 100000) (hk : rows.length + 1 ≤ k) (hps : ps.length ≤ 100000) (hsb : K sb = some (.cells true (ps.map fun x => ptr x.1))) :
    ∀ (d i : Nat), ps.length = i + d → ∀ (jj : Nat) (x : Nat → Value) (M : Mem), d + 1 ≤ jj → St K mp rows (ps.drop i ++ labs) fr M →
    ∃ x' M', loopD (codeD Tryd.prog kp 1 (callN Tryd.prog kp 1 o k) (drawD Tryd.prog kp 1 (callN Tryd.prog kp 1 o k) 40) 40 k (loopN Tryd.f24 0)) jj
        (fullN 40 (up x [(0, .pointer (some ⟨mp, 0, none⟩)), (8, .slice (some ⟨sb, 0, none⟩) ps.length ps.length), (9, .int .i64 (ps.length : Int)), (10, .int .i64 (i : Int))])) M =
      some (.exit 0, fullN 40 (up x' [(0, .pointer (some ⟨mp, 0, none⟩)), (8, .slice (some ⟨sb, 0, none⟩) ps.length ps.length), (9, .int .i64 (ps.length : Int)), (10, .int .i64 (ps.length : Int))]), M') ∧ St K mp rows labs fr M'
  | 0, i, hi, jj, x, M, hjj, h => by
    obtain ⟨jj, rfl⟩ : ∃ j', jj = j' + 1 := ⟨jj - 1, by omega⟩
    obtain rfl : i = ps.length := by omega
    rw [List.drop_length, List.nil_append] at h
    have hb : ∃ x', codeD Tryd.prog kp 1 (callN Tryd.prog kp 1 o k) (drawD Tryd.prog kp 1 (callN Tryd.prog kp 1 o k) 40) 40 k (loopN Tryd.f24 0) (fullN 40 (up x [(0, .pointer (some ⟨mp, 0, none⟩)), (8, .slice (some ⟨sb, 0, none⟩) ps.length ps.length), (9, .int .i64 (ps.length : Int)), (10, .int .i64 (ps.length : Int))])) M =
        some (.exit 0, fullN 40 (up x' [(0, .pointer (some ⟨mp, 0, none⟩)), (8, .slice (some ⟨sb, 0, none⟩) ps.length ps.length), (9, .int .i64 (ps.length : Int)), (10, .int .i64 (ps.length : Int))]), M) := by
      apply Exists.intro
      refine turn_of ((markS_eq [3] Tryd.prog kp 1 _ (Y.lpOf Tryd.prog kp 1 (callN Tryd.prog kp 1 o k) 40) (fun _ _ _ _ _ _ _ => rfl) 40 k (loopN Tryd.f24 0) (by kernel_rfl) _ M _).trans ?_)
      refine Eq.trans (t_setA ..) ?_
      rw [ge_len (by omega), nCondF]
      rfl
    obtain ⟨x', hb⟩ := hb
    exact ⟨x', M, loopD_stop jj hb (by simp), h⟩
  | d + 1, i, hi, jj, x, M, hjj, h => by
    obtain ⟨jj, rfl⟩ : ∃ j', jj = j' + 1 := ⟨jj - 1, by omega⟩
    have hlt : i < ps.length := by omega
    obtain ⟨p, hp⟩ : ∃ p, ps[i]? = some p := ⟨_, List.getElem?_eq_getElem hlt⟩
    obtain ⟨lp, l⟩ := p
    have hd : ps.drop i = (lp, l) :: ps.drop (i + 1) := by
      rw [List.drop_eq_getElem_cons hlt]
      congr 1
      rw [List.getElem?_eq_getElem hlt] at hp
      exact Option.some.inj hp
    rw [hd, List.cons_append] at h
    have gs := h.get hsb
    obtain ⟨f, h⟩ := h
    have hc := cnt_le rows
    have hlen := outGo_length f rows 0
    have hjl := jumps_length l rows 0
    obtain ⟨a, gl1, hloop⟩ := jumps_one (o := o) (k := k) (c0 := outGo f rows 0) (J := jumpsS l rows 0) (q := atS rows l) (lp := lp) (hs := (ps.drop (i + 1) ++ labs).map (lbS rows)) (sb := sb) (nn := ps.length) (i := i) (by have := atS_cnt rows l; omega) (by omega) (fun p hp => by have := jumpsS_lt l rows 0 p hp; omega) (by omega) (by omega) h.hp
    obtain ⟨xx, hxx⟩ : ∃ xx : Nat → Value, xx = up (up x [(12, (.pointer (some (Addr.mk sb (Nat.add 0 (Nat.mul i 1)) none)))), (13, (.pointer (some ⟨lp, 0, none⟩))), (11, (.bool true))]) [(16, (.pointer (some (Addr.mk lp 1 none)))), (14, (.pointer (some (Addr.mk lp 0 none)))), (15, (.pointer (some (Addr.mk lp 0 none))))] := ⟨_, rfl⟩
    obtain ⟨x1, M1, hloop, hh⟩ := hloop xx
    rw [show ((0 : Nat) : Int) = 0 from rfl] at hloop
    have hs1 := h.settled hh
    have hb : ∃ x', codeD Tryd.prog kp 1 (callN Tryd.prog kp 1 o k) (drawD Tryd.prog kp 1 (callN Tryd.prog kp 1 o k) 40) 40 k (loopN Tryd.f24 0) (fullN 40 (up x [(0, .pointer (some ⟨mp, 0, none⟩)), (8, .slice (some ⟨sb, 0, none⟩) ps.length ps.length), (9, .int .i64 (ps.length : Int)), (10, .int .i64 (i : Int))])) M =
        some (.normal, fullN 40 (up x' [(0, .pointer (some ⟨mp, 0, none⟩)), (8, .slice (some ⟨sb, 0, none⟩) ps.length ps.length), (9, .int .i64 (ps.length : Int)), (10, .int .i64 ((i + 1 : Nat) : Int))]), M1) := by
      apply Exists.intro
      refine turn_of ((markS_eq [3] Tryd.prog kp 1 _ (Y.lpOf Tryd.prog kp 1 (callN Tryd.prog kp 1 o k) 40) (fun _ _ _ _ _ _ _ => rfl) 40 k (loopN Tryd.f24 0) (by kernel_rfl) _ M _).trans ?_)
      refine Eq.trans (t_setA ..) ?_
      rw [lt_len hlt, nCondT, nOnNat, blt_t hlt, nCondT, gs, nCells, show Y.nthL (ps.map fun x => ptr x.1) (Nat.add 0 (Nat.mul i 1)) = some (.pointer (some ⟨lp, 0, none⟩)) from by
        rw [show Nat.add 0 (Nat.mul i 1) = i from by show 0 + i * 1 = i; omega, Y.nthL_eq, List.getElem?_map, hp]; rfl, nElim, nAsPt]
      refine Eq.trans (loop_reg _ _ _ (by kernel_rfl) _ _ _ _) ?_
      refine Eq.trans (r24_eq ..) ?_
      refine Eq.trans (t_setB ..) ?_
      rw [gl1, nCells, show Y.nthL [Value.int .i64 (atS rows l : Int), .slice a (jumpsS l rows 0).length (jumpsS l rows 0).length] 1 = some (.slice a (jumpsS l rows 0).length (jumpsS l rows 0).length) from rfl, nElim, nAsSl]
      rw [← hxx]
      refine Eq.trans (t_setC ..) ?_
      refine Eq.trans (mixL_loop _ _ (by kernel_rfl) _ _ _ _) ?_
      rw [Y.lpOf_eq, lc24]
      simp only [Int.ofNat_eq_natCast]
      rw [hloop, Y.onE_some]
      refine Eq.trans (t_setD ..) ?_
      rw [wrap_succ (by omega)]
      rfl
    obtain ⟨x', hb⟩ := hb
    obtain ⟨x2, M2, h2, h3⟩ := settle_loop hl hk hps hsb d (i + 1) (by omega) jj x' M1 (by omega) hs1
    exact ⟨x2, M2, (loopD_next jj hb).trans h2, h3⟩
theorem settle_st {ps : List (Nat × Nat)} {sb : Nat} (ho : ∀ a m, o 24 a m = none) (hl : rows.length ≤ 100000) (hk : 100000 + 10 ≤ k) (hps : ps.length ≤ 100) (hsb : K sb = some (.cells true (ps.map fun x => ptr x.1))) (h : St K mp rows (ps ++ labs) fr M) :
    ∃ M', callN Tryd.prog kp 1 o k 24 [ptr mp, .slice (some ⟨sb, 0, none⟩) ps.length ps.length] M = some (unitV, M') ∧ St K mp rows labs fr M' := by
  obtain ⟨k, rfl⟩ : ∃ k', k = k' + 1 := ⟨k - 1, by omega⟩
  obtain ⟨x', M', hloop, h'⟩ := settle_loop (o := o) (k := k) hl (by omega) (by omega) hsb ps.length 0 (by omega) k (up Go.DI.x0 [(1, (.slice (some (Addr.mk sb 0 none)) ps.length ps.length))]) M (by omega) h
  rw [show ((0 : Nat) : Int) = 0 from rfl] at hloop
  refine ⟨M', call_of 40 (ho _ _) at24 bd24 n24 ?_ ok24, h'⟩
  refine Eq.trans (t_set_in ..) ?_
  rw [Y.lpOf_eq, Y.loopC_body]
  simp only [Int.ofNat_eq_natCast]
  rw [hloop, Y.onE_some]
  exact t_set_out ..
end
end
end Go.Proofs.YtadioopbehiakaaDoor
namespace Go.Proofs.YtadioopbehiakaaDoor
open Go Go.DI Go.DI.Kit Go.Proofs Go.Cmp
noncomputable section
theorem at17 : Tryd.prog.funcs[17]? = some Tryd.f17 := by kernel_rfl
theorem bd17 : Tryd.f17.body = some (bodyOf Tryd.f17) := by kernel_rfl
theorem nt17 : Tryd.f17.ntmps = 15 := by kernel_rfl
theorem n17 {a b c d : Value} : max [a, b, c, d].length Tryd.f17.ntmps = 15 := by rw [nt17]; rfl
theorem ok17 : okR Tryd.prog 17 unitV = true := by kernel_rfl
theorem at18 : Tryd.prog.funcs[18]? = some Tryd.f18 := by kernel_rfl
theorem bd18 : Tryd.f18.body = some (bodyOf Tryd.f18) := by kernel_rfl
theorem nt18 : Tryd.f18.ntmps = 19 := by kernel_rfl
theorem n18 {a b c d e : Value} : max [a, b, c, d, e].length Tryd.f18.ntmps = 19 := by rw [nt18]; rfl
theorem ok18 : okR Tryd.prog 18 unitV = true := by kernel_rfl
theorem at19 : Tryd.prog.funcs[19]? = some Tryd.f19 := by kernel_rfl
theorem bd19 : Tryd.f19.body = some (bodyOf Tryd.f19) := by kernel_rfl
theorem nt19 : Tryd.f19.ntmps = 8 := by kernel_rfl
theorem n19 {a : Value} : max [a].length Tryd.f19.ntmps = 8 := by rw [nt19]; rfl
theorem ok19 : okR Tryd.prog 19 unitV = true := by kernel_rfl
theorem at20 : Tryd.prog.funcs[20]? = some Tryd.f20 := by kernel_rfl
theorem bd20 : Tryd.f20.body = some (bodyOf Tryd.f20) := by kernel_rfl
theorem nt20 : Tryd.f20.ntmps = 18 := by kernel_rfl
theorem n20 {a b c d e : Value} : max [a, b, c, d, e].length Tryd.f20.ntmps = 18 := by rw [nt20]; rfl
theorem ok20 : okR Tryd.prog 20 unitV = true := by kernel_rfl
theorem at22 : Tryd.prog.funcs[22]? = some Tryd.f22 := by kernel_rfl
theorem bd22 : Tryd.f22.body = some (bodyOf Tryd.f22) := by kernel_rfl
theorem nt22 : Tryd.f22.ntmps = 14 := by kernel_rfl
theorem n22 {a b : Value} : max [a, b].length Tryd.f22.ntmps = 14 := by rw [nt22]; rfl
theorem ok22 : okR Tryd.prog 22 unitV = true := by kernel_rfl
theorem at36 : Tryd.prog.funcs[36]? = some Tryd.f36 := by kernel_rfl
theorem bd36 : Tryd.f36.body = some (bodyOf Tryd.f36) := by kernel_rfl
theorem nt36 : Tryd.f36.ntmps = 15 := by kernel_rfl
theorem n36 {a b c d : Value} : max [a, b, c, d].length Tryd.f36.ntmps = 15 := by rw [nt36]; rfl
theorem ok36 : okR Tryd.prog 36 unitV = true := by kernel_rfl
theorem at38 : Tryd.prog.funcs[38]? = some Tryd.f38 := by kernel_rfl
theorem bd38 : Tryd.f38.body = some (bodyOf Tryd.f38) := by kernel_rfl
theorem nt38 : Tryd.f38.ntmps = 20 := by kernel_rfl
theorem n38 {a b c : Value} : max [a, b, c].length Tryd.f38.ntmps = 20 := by rw [nt38]; rfl
theorem ok38 : okR Tryd.prog 38 unitV = true := by kernel_rfl
theorem at43 : Tryd.prog.funcs[43]? = some Tryd.f43 := by kernel_rfl
theorem bd43 : Tryd.f43.body = some (bodyOf Tryd.f43) := by kernel_rfl
theorem nt43 : Tryd.f43.ntmps = 25 := by kernel_rfl
theorem n43 {a b c d : Value} : max [a, b, c, d].length Tryd.f43.ntmps = 25 := by rw [nt43]; rfl
theorem ok43 : okR Tryd.prog 43 unitV = true := by kernel_rfl
theorem at44 : Tryd.prog.funcs[44]? = some Tryd.f44 := by kernel_rfl
theorem bd44 : Tryd.f44.body = some (bodyOf Tryd.f44) := by kernel_rfl
theorem nt44 : Tryd.f44.ntmps = 9 := by kernel_rfl
theorem n44 {a b : Value} : max [a, b].length Tryd.f44.ntmps = 9 := by rw [nt44]; rfl
theorem ok44 : okR Tryd.prog 44 unitV = true := by kernel_rfl
theorem step {α : Type} {df : DFun} {f : FuncId} {a : List Value} {m m' : Mem} {v : Value} {q : Value → Mem → Option α} {r : Option α} (h : df f a m = some (v, m')) (hq : q v m' = r) : Y.cfOf df f a m q = r := by
  rw [nCf, h, nOnV, hq]
theorem notB {α : Type} (b : Bool) (x y : α) : cond (cond b false true) x y = cond b y x := nr (by cases b <;> rfl)
inductive MkS : Value → Value → Ins → Prop
  | num {op d n : Int} : (op = 11 ∧ d = 2) ∨ (op = 11 ∧ d = 3) ∨ (op = 5 ∧ d = 2) → MkS (whatV 1 op 0 true false) (insV ⟨0, d, 0, 0, n⟩) (iNum op d n)
  | regs {op d s : Int} : (op = 11 ∧ d = 6 ∧ s = 1) ∨ (op = 11 ∧ d = 2 ∧ s = 8) ∨ (op = 5 ∧ d = 2 ∧ s = 3) → MkS (whatV 1 op 0 true true) (insV ⟨0, d, s, 0, 0⟩) (iRegs op d s)
  | low {n : Int} : MkS (whatV 1 11 0 false false) (insV ⟨0, 0, 0, 0, n⟩) (iLow n)
  | exit : MkS (whatV 9 0 0 false false) (insV ⟨0, 0, 0, 0, 0⟩) iExit
  | const {n : Int} : MkS (whatV 10 0 0 false false) (insV ⟨0, 3, 0, 0, n⟩) ⟨24, 3, 0, 0, n⟩
  | load {z d s n : Int} : (z = 4 ∧ d = 8 ∧ s = 6) ∨ (z = 4 ∧ d = 2 ∧ s = 6) ∨ (z = 8 ∧ d = 7 ∧ s = 1) ∨ ((z = 1 ∨ z = 2 ∨ z = 4 ∨ z = 8) ∧ d = 2 ∧ s = 7) → MkS (whatV 3 0 z false false) (insV ⟨0, d, s, n, 0⟩) ⟨97 + 8 * sizeK z, d, s, n, 0⟩
  | jif {op d n : Int} : (op = 3 ∧ d = 8) ∨ (op = 5 ∧ d = 2) ∨ (op = 10 ∧ d = 2) ∨ (op = 2 ∧ d = 2) → MkS (whatV 6 op 0 true false) (insV ⟨0, d, 0, 0, n⟩) (iIf op d n)
  | jifR {op : Int} : op = 10 ∨ op = 2 → MkS (whatV 6 op 0 true true) (insV ⟨0, 2, 3, 0, 0⟩) (iIfR op)
  | goto : MkS (whatV 7 0 0 false false) (insV ⟨0, 0, 0, 0, 0⟩) iGoto
  | swap {z : Int} : z = 2 ∨ z = 4 ∨ z = 8 → MkS (whatV 2 0 z false false) (insV ⟨0, 2, 0, 0, 0⟩) (iSwap z)
def isz (z : Int) : Prop := z = 1 ∨ z = 2 ∨ z = 4 ∨ z = 8
def Pure (o : Orc) (f : FuncId) (a : List Value) (v : Value) : Prop := ∀ k M, 1 ≤ k → M.top → 1 ≤ M.size → M.get 0 = .cells false gl → ∃ M', callN Tryd.prog kp 1 o k f a M = some (v, M') ∧ Ext M M'
structure Orq (o : Orc) : Prop where
  off : ∀ f, f ∉ [5, 34, 40, 41, 45, 52, 53] → ∀ a m, o f a m = none
  mkP : ∀ {w i x}, MkS w i x → ∃ e : Int, Pure o 52 [w, i] (.tuple ⟨[insV x, .int .i64 e]⟩)
  mkR : ∀ {w i x}, MkS w i x → ∃ e : Int, Pure o 53 [w, i] (.tuple ⟨[insV x, .int .i64 e]⟩)
  most : ∀ {z}, isz z → Pure o 40 [.int .i64 z] (.int .u64 (fullS z))
  small : ∀ n : Int, Pure o 41 [.int .u64 n] (.bool (decide (n < 2147483648)))
  full : ∀ {z}, isz z → Pure o 45 [.int .i64 z] (.int .u64 (fullS z))
  full2 : ∀ {z}, isz z → Pure o 34 [.int .i64 z] (.int .u64 (fullS z))
theorem Orq.makes {o : Orc} (h : Orq o) {k : Nat} (hk : 1 ≤ k) {w i : Value} {x : Ins} (hm : MkS w i x) : Makes o k w i x := by
  obtain ⟨e, hp⟩ := h.mkP hm
  intro M ht h1 h0
  obtain ⟨M', c, x⟩ := hp k M hk ht h1 h0
  exact ⟨e, M', c, x⟩
section
variable {K : Keep} {mp : Nat} {rows : List RowS} {labs : List (Nat × Nat)} {fr : Nat → Prop} {M : Mem}
variable {o : Orc} {k : Nat}
def Does (o : Orc) (k : Nat) (f : FuncId) (a : List Value) (M : Mem) (Q : Mem → Prop) : Prop := ∃ M', callN Tryd.prog kp 1 o k f a M = some (unitV, M') ∧ Q M'
theorem Does.to {f : FuncId} {a : List Value} {Q Q' : Mem → Prop} (h : Does o k f a M Q) (hq : ∀ m, Q m → Q' m) : Does o k f a M Q' := by
  obtain ⟨M', c, h⟩ := h
  exact ⟨M', c, hq _ h⟩
theorem put_do {wc wo ws : Int} {ww wr : Bool} {i x : Ins} (hO : Orq o) (hk : 2 ≤ k) (hl : rows.length ≤ 100000) (hm : MkS (whatV wc wo ws ww wr) (insV i) x) (h : St K mp rows labs fr M) :
    Does o k 35 [ptr mp, whatV wc wo ws ww wr, insV i] M (St K mp (rows ++ [ins x 0]) labs fr) := by
  obtain ⟨k, rfl⟩ : ∃ k', k = k' + 1 := ⟨k - 1, by omega⟩
  exact put_st (hO.off 35 (by decide)) hl h (hO.makes (by omega) hm)
theorem jump_do {wc wo ws : Int} {ww wr : Bool} {i x : Ins} {lp l : Nat} (hO : Orq o) (hk : 3 ≤ k) (hl : rows.length ≤ 100000) (hm : MkS (whatV wc wo ws ww wr) (insV i) x) (hlp : (lp, l) ∈ labs) (h : St K mp rows labs fr M) :
    Does o k 37 [ptr mp, whatV wc wo ws ww wr, insV i, ptr lp] M (St K mp (rows ++ [ins x l]) labs fr) := by
  obtain ⟨k, rfl⟩ : ∃ k', k = k' + 2 := ⟨k - 2, by omega⟩
  exact jump_st hlp (hO.off 35 (by decide)) (hO.off 37 (by decide)) hl h (hO.makes (by omega) hm)
theorem alu_do {op d n : Int} (hO : Orq o) (hk : 3 ≤ k) (hl : rows.length ≤ 100000) (hm : (op = 11 ∧ d = 2) ∨ (op = 11 ∧ d = 3) ∨ (op = 5 ∧ d = 2)) (h : St K mp rows labs fr M) :
    Does o k 36 [ptr mp, .int .i64 op, .int .u8 d, .int .i32 n] M (St K mp (rows ++ [ins (iNum op d n) 0]) labs fr) := by
  obtain ⟨k, rfl⟩ : ∃ k', k = k' + 1 := ⟨k - 1, by omega⟩
  obtain ⟨M1, c1, h1⟩ := put_do (k := k) hO (by omega) hl (MkS.num (n := n) hm) h
  refine ⟨M1, call_of 15 (hO.off 36 (by decide) _ _) at36 bd36 n36 ?_ ok36, h1⟩
  refine Eq.trans (t_alu ..) ?_
  refine step c1 ?_
  rfl
theorem both_do {op d s : Int} (hO : Orq o) (hk : 3 ≤ k) (hl : rows.length ≤ 100000) (hm : (op = 11 ∧ d = 6 ∧ s = 1) ∨ (op = 11 ∧ d = 2 ∧ s = 8) ∨ (op = 5 ∧ d = 2 ∧ s = 3)) (h : St K mp rows labs fr M) :
    Does o k 17 [ptr mp, .int .i64 op, .int .u8 d, .int .u8 s] M (St K mp (rows ++ [ins (iRegs op d s) 0]) labs fr) := by
  obtain ⟨k, rfl⟩ : ∃ k', k = k' + 1 := ⟨k - 1, by omega⟩
  obtain ⟨M1, c1, h1⟩ := put_do (k := k) hO (by omega) hl (MkS.regs hm) h
  refine ⟨M1, call_of 15 (hO.off 17 (by decide) _ _) at17 bd17 n17 ?_ ok17, h1⟩
  refine Eq.trans (t_both ..) ?_
  refine step c1 ?_
  rfl
theorem load_do {z d s n : Int} (hO : Orq o) (hk : 3 ≤ k) (hl : rows.length ≤ 100000) (hm : (z = 4 ∧ d = 8 ∧ s = 6) ∨ (z = 4 ∧ d = 2 ∧ s = 6) ∨ (z = 8 ∧ d = 7 ∧ s = 1) ∨ ((z = 1 ∨ z = 2 ∨ z = 4 ∨ z = 8) ∧ d = 2 ∧ s = 7)) (h : St K mp rows labs fr M) :
    Does o k 18 [ptr mp, .int .i64 z, .int .u8 d, .int .u8 s, .int .i64 n] M (St K mp (rows ++ [ins (iLoad z d s n) 0]) labs fr) := by
  obtain ⟨k, rfl⟩ : ∃ k', k = k' + 1 := ⟨k - 1, by omega⟩
  obtain ⟨M1, c1, h1⟩ := put_do (k := k) hO (by omega) hl (MkS.load (n := w16 n) hm) h
  refine ⟨M1, call_of 19 (hO.off 18 (by decide) _ _) at18 bd18 n18 ?_ ok18, h1⟩
  refine Eq.trans (t_load ..) ?_
  refine step c1 ?_
  rfl
theorem when_do {op d n : Int} {lp l : Nat} (hO : Orq o) (hk : 4 ≤ k) (hl : rows.length ≤ 100000) (hm : (op = 3 ∧ d = 8) ∨ (op = 5 ∧ d = 2) ∨ (op = 10 ∧ d = 2) ∨ (op = 2 ∧ d = 2)) (hlp : (lp, l) ∈ labs) (h : St K mp rows labs fr M) :
    Does o k 20 [ptr mp, .int .i64 op, .int .u8 d, .int .i32 n, ptr lp] M (St K mp (rows ++ [ins (iIf op d n) l]) labs fr) := by
  obtain ⟨k, rfl⟩ : ∃ k', k = k' + 1 := ⟨k - 1, by omega⟩
  obtain ⟨M1, c1, h1⟩ := jump_do (k := k) hO (by omega) hl (MkS.jif (n := n) hm) hlp h
  refine ⟨M1, call_of 18 (hO.off 20 (by decide) _ _) at20 bd20 n20 ?_ ok20, h1⟩
  refine Eq.trans (t_when ..) ?_
  refine step c1 ?_
  rfl
theorem away_do {lp l : Nat} (hO : Orq o) (hk : 4 ≤ k) (hl : rows.length ≤ 100000) (hlp : (lp, l) ∈ labs) (h : St K mp rows labs fr M) :
    Does o k 44 [ptr mp, ptr lp] M (St K mp (rows ++ [ins iGoto l]) labs fr) := by
  obtain ⟨k, rfl⟩ : ∃ k', k = k' + 1 := ⟨k - 1, by omega⟩
  obtain ⟨M1, c1, h1⟩ := jump_do (k := k) hO (by omega) hl MkS.goto hlp h
  refine ⟨M1, call_of 9 (hO.off 44 (by decide) _ _) at44 bd44 n44 ?_ ok44, h1⟩
  refine Eq.trans (t_away ..) ?_
  refine step c1 ?_
  rfl
theorem ends_do {v : Int} (hO : Orq o) (hk : 4 ≤ k) (hl : rows.length + 1 ≤ 100000) (h : St K mp rows labs fr M) :
    Does o k 22 [ptr mp, .int .u32 v] M (St K mp (rows ++ lowS v) labs fr) := by
  obtain ⟨k, rfl⟩ : ∃ k', k = k' + 1 := ⟨k - 1, by omega⟩
  obtain ⟨M1, c1, h1⟩ := put_do (k := k) hO (by omega) (by omega) (MkS.low (n := w32 v)) h
  obtain ⟨M2, c2, h2⟩ := put_do (k := k) hO (by omega) (by rw [List.length_append]; exact hl) MkS.exit h1
  rw [List.append_assoc] at h2
  refine ⟨M2, call_of 14 (hO.off 22 (by decide) _ _) at22 bd22 n22 ?_ ok22, h2⟩
  refine Eq.trans (t_ends ..) ?_
  refine step c1 ?_
  refine step c2 ?_
  rfl
theorem afresh_do (hO : Orq o) (hk : 5 ≤ k) (hl : rows.length + 2 ≤ 100000) (h : St K mp rows labs fr M) :
    Does o k 19 [ptr mp] M (St K mp (rows ++ afreshS) labs fr) := by
  obtain ⟨k, rfl⟩ : ∃ k', k = k' + 1 := ⟨k - 1, by omega⟩
  obtain ⟨M1, c1, h1⟩ := alu_do (k := k) (op := 11) (d := 2) (n := 0) hO (by omega) (by omega) (by simp) h
  obtain ⟨M2, c2, h2⟩ := alu_do (k := k) (op := 11) (d := 3) (n := 0) hO (by omega) (by rw [List.length_append]; simp; omega) (by simp) h1
  obtain ⟨M3, c3, h3⟩ := load_do (k := k) (z := 4) (d := 8) (s := 6) (n := 0) hO (by omega) (by simp; omega) (by simp) h2
  rw [List.append_assoc, List.append_assoc] at h3
  refine ⟨M3, call_of 8 (hO.off 19 (by decide) _ _) at19 bd19 n19 ?_ ok19, h3⟩
  refine Eq.trans (t_afresh ..) ?_
  refine step c1 ?_
  refine step c2 ?_
  refine step c3 ?_
  rfl
theorem wrap32_of {n : Int} (h : 0 ≤ n) (h2 : n < 2147483648) : IntKind.wrap .i32 n = n := by
  simp [IntKind.wrap, IntKind.bits, IntKind.signed]
  omega
theorem loW_lo {n : Int} : loW n = w32 (n % 4294967296) := by
  simp [loW, w32, IntKind.wrap, IntKind.bits, IntKind.signed]
theorem loW_hi {n : Int} (h : 0 ≤ n) (h2 : n < 18446744073709551616) : loW (Int.fdiv n 4294967296) = w32 (n / 4294967296) := by
  rw [Int.fdiv_eq_ediv_of_nonneg _ (by omega)]
  have : n / 4294967296 % 4294967296 = n / 4294967296 := Int.emod_eq_of_lt (by omega) (by omega)
  rw [loW_lo, this]
theorem held_do {op n : Int} {lp l : Nat} (hO : Orq o) (hk : 6 ≤ k) (hl : rows.length + 3 ≤ 100000) (hm : op = 10 ∨ op = 2) (hn : 0 ≤ n) (hn2 : n < 18446744073709551616) (hlp : (lp, l) ∈ labs) (h : St K mp rows labs fr M) :
    Does o k 43 [ptr mp, .int .i64 op, .int .u64 n, ptr lp] M (St K mp (rows ++ heldS op n l) labs fr) := by
  obtain ⟨k, rfl⟩ : ∃ k', k = k' + 1 := ⟨k - 1, by omega⟩
  obtain ⟨M0, c0, x0⟩ := hO.small n k M (by omega) h.top (by have := h.lt h.glb; omega) (h.get h.glb)
  have h0 := h.ext x0
  by_cases hs : n < 2147483648
  · obtain ⟨M1, c1, h1⟩ := when_do (k := k) (op := op) (d := 2) (n := n) hO (by omega) (by omega) (by rcases hm with rfl | rfl <;> simp) hlp h0
    refine ⟨M1, call_of 25 (hO.off 43 (by decide) _ _) at43 bd43 n43 ?_ ok43, by rw [heldS, if_pos hs]; exact h1⟩
    refine Eq.trans (t_held ..) ?_
    refine step c0 ?_
    rw [nAsBoB, decide_eq_true hs, nCondT, wrap32_of hn hs]
    refine step c1 ?_
    rfl
  · obtain ⟨M1, c1, h1⟩ := konst_st (k := k - 2) (d := 3) (n := n) (hO.off 35 (by decide)) (hO.off 42 (by decide)) (by omega) h0 (hO.makes (by omega) MkS.const)
    obtain ⟨k', rfl⟩ : ∃ k', k = k' + 2 := ⟨k - 2, by omega⟩
    obtain ⟨M2, c2, h2⟩ := jump_do (k := k' + 2) hO (by omega) (by simp; omega) (MkS.jifR hm) hlp h1
    refine ⟨M2, call_of 25 (hO.off 43 (by decide) _ _) at43 bd43 n43 ?_ ok43, ?_⟩
    · refine Eq.trans (t_held ..) ?_
      refine step c0 ?_
      rw [nAsBoB, decide_eq_false hs, nCondF]
      refine step c1 ?_
      refine step c2 ?_
      rfl
    · rw [heldS, if_neg hs]
      rw [List.append_assoc, loW_lo, loW_hi hn hn2] at h2
      exact h2
theorem told_do {n : Int} {lp l a : Nat} (hO : Orq o) (hk : 100000 + 20 ≤ k) (hl : rows.length + 3 ≤ 100000) (hlp : (lp, l) ∈ labs) (ha : fr a) (h : St K mp rows labs fr M) :
    Does o k 38 [ptr mp, .int .i64 n, ptr lp] M (St K mp (rows ++ toldS a n l) labs (fun j => fr j ∧ j ≠ a)) := by
  obtain ⟨k, rfl⟩ : ∃ k', k = k' + 1 := ⟨k - 1, by omega⟩
  have h0 := h.label ha
  obtain ⟨M1, c1, h1⟩ := when_do (k := k) (op := 3) (d := 8) (n := w32 n) hO (by omega) (by omega) (by simp) (List.mem_cons_self ..) h0
  obtain ⟨M2, c2, h2⟩ := away_do (k := k) hO (by omega) (by simp; omega) (List.mem_cons_of_mem _ hlp) h1
  have hb := h2.box (.cells true [ptr M.size])
  obtain ⟨M3, c3, h3⟩ := here_st (k := k) (hO.off 23 (by decide)) (by omega) (by simp; omega) hb.1 (keep1_same ..)
  have h3 := h3.weak h.glb hb.2
  have hb2 := h3.box (.cells true [ptr M.size])
  obtain ⟨M4, c4, h4⟩ := settle_st (k := k) (ps := [(M.size, a)]) (hO.off 24 (by decide)) (by simp; omega) (by omega) (by simp) (keep1_same ..) hb2.1
  have h4 := h4.weak h.glb hb2.2
  rw [List.append_assoc, List.append_assoc] at h4
  refine ⟨M4, call_of 20 (hO.off 38 (by decide) _ _) at38 bd38 n38 ?_ ok38, h4⟩
  refine Eq.trans (t_told ..) ?_
  refine step c1 ?_
  refine step c2 ?_
  refine step c3 ?_
  refine step c4 ?_
  rfl
end
end
end Go.Proofs.YtadioopbehiakaaDoor
