/-
  CRef6: the reference's Made, whole.
-/
import Derived.Test.YtadioopbehiakaaDoorF20
import Derived.Test.YtadioopbehiakaaDoorF10
set_option linter.all false
set_option linter.unusedVariables false
set_option linter.unusedSimpArgs false
namespace Go.Proofs.YtadioopbehiakaaDoor
open Go Go.DI Go.DI.Kit Go.Proofs Go.Cmp
noncomputable section
def OutAt (M : Mem) (K : Keep) (l : List Ins) (oa : Option Addr) : Prop := (l = [] ∧ oa = none) ∨ ∃ c, oa = some ⟨c, 0, some 5⟩ ∧ c < M.size ∧ K c = none ∧ M.get c = .cells true (codeC l)
theorem OutAt.ext {M M' : Mem} {K : Keep} {l : List Ins} {oa : Option Addr} (h : OutAt M K l oa) (hx : Ext M M') : OutAt M' K l oa := by
  rcases h with h | ⟨c, h1, h2, h3, h4⟩
  · exact .inl h
  · exact .inr ⟨c, h1, Nat.lt_of_lt_of_le h2 hx.size, h3, (hx.get c h2).trans h4⟩
theorem out_app {M M2 : Mem} {K : Keep} {l : List Ins} {oa : Option Addr} {nb : Nat} {own : Bool} {x : Ins} (ho : OutAt M K l oa) (hx : Ext M M2) (hn : M2.get nb = .cells own (insC x)) (hl : l.length ≤ 1000000) (h : Hp M2 K []) :
    ∃ oa' M3, appendD Tryd.prog M2 28 28 (.slice oa l.length l.length) (.slice (some ⟨nb, 0, none⟩) 1 1) = some (.slice oa' (l.length + 1) (l.length + 1), M3) ∧ Hp M3 K [] ∧ OutAt M3 K (l ++ [x]) oa' ∧ M2.size ≤ M3.size := by
  have hf : firstC M2 5 1 (.slice (some ⟨nb, 0, none⟩) 1 1) = some (insC x) := loadC_at (rest := []) (by rw [List.append_nil]; exact hn) rfl
  rcases ho.ext hx with ⟨rfl, rfl⟩ | ⟨c, rfl, h2, h3, h4⟩
  · refine ⟨_, _, append_nil und28 sz42 (by decide) by42 (by decide) ze42 (n := 1) rfl (by decide) (by decide) hf rfl rfl, h.ext (Ext.push _ _), .inr ⟨_, rfl, ?_, h.no (Nat.le_refl _), ?_⟩, ?_⟩
    · show M2.size < M2.size + 1; omega
    · rw [Mem.get_push_same]; simp [codeC]
    · show M2.size ≤ M2.size + 1; omega
  · refine ⟨_, _, append_own und28 sz42 (by decide) by42 (by decide) ze42 h4 (codeC_len l) (codeC_one l) (n := 1) rfl (by decide) (by omega) hf rfl rfl, ?_, .inr ⟨_, rfl, ?_, h.no (Nat.le_refl _), ?_⟩, ?_⟩
    · exact (h.ext (Ext.push _ _)).free_set (by show c < M2.size + 1; omega) h3
    · show M2.size < M2.size + 1; omega
    · rw [Mem.get_set_ne _ (by omega), Mem.get_push_same, codeC_append]; simp [codeC]
    · show M2.size ≤ M2.size + 1; omega
def stepI (rows : List RowS) (n : Nat) (r : RowS) : Ins := match (if 0 < r.to then some (atS rows r.to) else none) with | some q => goS q n r.i | none => r.i
theorem outGo_take {rows : List RowS} {i : Nat} {r : RowS} (h : rows[i]? = some r) : outGo (fun j => some (atS rows j)) (rows.take (i + 1)) 0 = if isLab r = true then outGo (fun j => some (atS rows j)) (rows.take i) 0 else outGo (fun j => some (atS rows j)) (rows.take i) 0 ++ [stepI rows (cnt (rows.take i)) r] := by
  rw [List.take_add_one, h, Option.toList_some, outGo_append, Nat.zero_add]
  by_cases hl : isLab r = true
  · rw [if_pos hl]; simp only [outGo, if_pos hl, List.append_nil]
  · rw [if_neg hl]; simp only [outGo, if_neg hl, stepI]
    rfl
section
variable {K : Keep} {mp rb N : Nat} {rows : List RowS} {M : Mem}
variable {o : Orc} {k : Nat}
def outL (rows : List RowS) (i : Nat) : List Ins := outGo (fun j => some (atS rows j)) (rows.take i) 0
theorem outL_len (rows : List RowS) (i : Nat) : (outL rows i).length = cnt (rows.take i) := outGo_length ..
theorem up_12 (x : Nat → Value) (a b c d e : Value) : fullN 151 (up x [(3, a), (7, b), (10, c), (11, d), (12, e)]) = fullN 151 (up (up x [(12, e)]) [(3, a), (7, b), (10, c), (11, d)]) := by kernel_rfl
theorem Out_loop {ab : Nat} (hF : RF K mp rb rows N) (hA : K ab = some (.cells true (atC N (atS rows)))) :
    ∀ (d i : Nat), rows.length = i + d → ∀ (jj : Nat) (oa : Option Addr) (M : Mem), d + 1 ≤ jj → Hp M K [] → OutAt M K (outL rows i) oa →
    ∃ M' oa', (∀ x, Lands 151 [(3, .pointer (some ⟨mp, 0, none⟩)), (7, .slice (some ⟨ab, 0, none⟩) (N + 1) (N + 1)), (10, .slice oa' (madeS rows).length (madeS rows).length), (11, .int .i64 (rows.length : Int))] (.exit 6) M' (loopD (codeD Tryd.prog kp 1 (callN Tryd.prog kp 1 o k) (drawD Tryd.prog kp 1 (callN Tryd.prog kp 1 o k) 151) 151 k (loopN Tryd.f15 3)) jj (fullN 151 (up x [(3, .pointer (some ⟨mp, 0, none⟩)), (7, .slice (some ⟨ab, 0, none⟩) (N + 1) (N + 1)), (10, .slice oa (outL rows i).length (outL rows i).length), (11, .int .i64 (i : Int))])) M)) ∧ Hp M' K [] ∧ OutAt M' K (madeS rows) oa'
  | 0, i, hi, jj, oa, M, hjj, h, ho => by
    obtain ⟨jj, rfl⟩ : ∃ j', jj = j' + 1 := ⟨jj - 1, by omega⟩
    obtain rfl : i = rows.length := by omega
    have gm := h.get hF.head
    have e : outL rows rows.length = madeS rows := by unfold outL; rw [List.take_length]; rfl
    rw [e] at ho
    refine ⟨M, oa, fun x => Lands.stop (Lands.turn ?_) (by simp), h, ho⟩
    refine Lands.via (markS_eq [31, 33, 34, 35] Tryd.prog kp 1 _ (Y.lpOf Tryd.prog kp 1 (callN Tryd.prog kp 1 o k) 151) (fun _ _ _ _ _ _ _ => rfl) 151 k (loopN Tryd.f15 3) (by kernel_rfl) _ M _) ?_
    refine Lands.via (t_OutA ..) ?_
    rw [gm, nCells, head_nth, nElim, nAsSl, ge_len (by omega), nCondF, e]
    exact Lands.here _
  | d + 1, i, hi, jj, oa, M, hjj, h, ho => by
    obtain ⟨jj, rfl⟩ : ∃ j', jj = j' + 1 := ⟨jj - 1, by omega⟩
    have hlt : i < rows.length := by omega
    have hlen := hF.len
    have gm := h.get hF.head
    have gr := h.get hF.body
    obtain ⟨r, hr⟩ : ∃ r, rows[i]? = some r := ⟨_, List.getElem?_eq_getElem hlt⟩
    have hrm : r ∈ rows := List.mem_of_getElem? hr
    have hlb := hF.lb r hrm
    have hct := cnt_take_le rows i
    have hol := outL_len rows i
    obtain ⟨M1, hM1⟩ : ∃ M1, (M.push (.cells true [(.int .u8 (0 : Int)), (.int .u8 (0 : Int)), (.int .u8 (0 : Int)), (.int Go.IntKind.i16 (0 : Int)), (.int Go.IntKind.i32 (0 : Int)), (.int .i64 (0 : Int)), (.int .i64 (0 : Int))])).set M.size (.cells true (rowC r)) = M1 := ⟨_, rfl⟩
    have x1 : Ext M M1 := hM1 ▸ Ext.fresh
    have g1 : M1.get M.size = .cells true (rowC r) := by rw [← hM1]; exact Mem.get_set_same _ _ _
    have s1 : M1.size = M.size + 1 := by rw [← hM1]; rfl
    have h1 := h.ext x1
    have hst : storeD Tryd.prog (M.push (.cells true [(.int .u8 (0 : Int)), (.int .u8 (0 : Int)), (.int .u8 (0 : Int)), (.int Go.IntKind.i16 (0 : Int)), (.int Go.IntKind.i32 (0 : Int)), (.int .i64 (0 : Int)), (.int .i64 (0 : Int))])) 81 (.agg ⟨rowC r⟩) (.pointer (some ⟨M.size, 0, none⟩)) = some M1 := by
      rw [storeD_at (n := 7) sz81 rfl (Mem.get_push_same _ _) (by simp) rfl, ← hM1]
      rfl
    by_cases hl : isLab r = true
    · have hpos : 0 < r.here := by simpa [isLab] using hl
      have e : outL rows (i + 1) = outL rows i := by unfold outL; rw [outGo_take hr, if_pos hl]
      obtain ⟨M2, oa2, h2, h3, h4⟩ := Out_loop hF hA d (i + 1) (by omega) jj oa M1 (by omega) h1 (by rw [e]; exact ho.ext x1)
      refine ⟨M2, oa2, fun x => Lands.next (Lands.turn ?_) h2, h3, h4⟩
      refine Lands.via (markS_eq [31, 33, 34, 35] Tryd.prog kp 1 _ (Y.lpOf Tryd.prog kp 1 (callN Tryd.prog kp 1 o k) 151) (fun _ _ _ _ _ _ _ => rfl) 151 k (loopN Tryd.f15 3) (by kernel_rfl) _ M _) ?_
      refine Lands.via (t_OutA ..) ?_
      rw [gm, nCells, head_nth, nElim, nAsSl, lt_len hlt, nCondT]
      refine Lands.via (loop_reg _ _ _ (by kernel_rfl) _ _ _ _) ?_
      refine Lands.via (r15_31_eq ..) ?_
      refine Lands.via (opsF_cut 8 ..) ?_
      refine Lands.via (t_OutR ..) ?_
      rw [gm, nCells, head_nth, nElim, nAsSl, nElim, nOnNat, blt_t hlt, nCondT]
      dsimp only
      rw [gr, nCells, row_ble hlt, nCondT, row_sub hr]
      refine Lands.via (t_Out31S ..) ?_
      rw [Y.storeF_eq, hst, Y.ob_some]
      refine Lands.via (t_OutB ..) ?_
      rw [g1, nCells, show Y.nthL (rowC r) 6 = some (.int .i64 (r.here : Int)) from rfl, nElim, nAsInt, nKEq, nCondT, ltF_t (by omega), nCondT, wrap_succ (by omega), e]
      exact Lands.here' (up_12 ..)
    · have h0 : r.here = 0 := by
        have : ¬ 0 < r.here := by simpa [isLab] using hl
        omega
      obtain ⟨x', hx'⟩ : ∃ x', stepI rows (cnt (rows.take i)) r = x' := ⟨_, rfl⟩
      have e : outL rows (i + 1) = outL rows i ++ [x'] := by unfold outL; rw [outGo_take hr, if_neg hl, hx']
      obtain ⟨M4, q1, q2, g4, x4⟩ : ∃ M4, (0 < r.to → storeD Tryd.prog M1 40 (.int .i16 (w16 ((atS rows r.to : Int) - (cnt (rows.take i) : Int) - 1))) (.pointer (some ⟨M.size, 3, none⟩)) = some M4) ∧ (¬ 0 < r.to → M4 = M1) ∧ M4.get M.size = .cells true (insC x' ++ [.int .i64 (r.to : Int), .int .i64 (r.here : Int)]) ∧ Ext M M4 := by
        by_cases ht : 0 < r.to
        · have ex : x' = goS (atS rows r.to) (cnt (rows.take i)) r.i := by rw [← hx', stepI, if_pos ht]
          refine ⟨M1.set M.size (.cells true (insC x' ++ [.int .i64 (r.to : Int), .int .i64 (r.here : Int)])), fun _ => ?_, fun hn => absurd ht hn, Mem.get_set_same _ _ _, ?_⟩
          · rw [storeD_at (n := 1) sz40 rfl g1 (by simp [rowC, insC]) rfl, ex]
            rfl
          · refine ⟨by show M.size ≤ M1.size; omega, fun j hj => ?_, fun t j hj => ?_⟩
            · rw [Mem.get_set_ne _ (by omega)]; exact x1.get j hj
            · have hj : M1.size ≤ j := hj
              rw [Mem.get_set_ne _ (by omega)]; exact x1.top t j hj
        · have ex : x' = r.i := by rw [← hx', stepI, if_neg ht]
          exact ⟨M1, fun hn => absurd hn ht, fun _ => rfl, by rw [g1, ex]; rfl, x1⟩
      have x5 : Ext M (M4.push (.cells true (insC x'))) := x4.trans (Ext.push _ _)
      obtain ⟨oa5, M5, hap, h5, ho5, _⟩ := out_app (x := x') (nb := M4.size) (own := true) ho x5 (Mem.get_push_same _ _) (by rw [hol]; omega) (h.ext x5)
      obtain ⟨M2, oa2, h2, h3, h4⟩ := Out_loop hF hA d (i + 1) (by omega) jj oa5 M5 (by omega) h5 (by rw [e]; exact ho5)
      refine ⟨M2, oa2, fun x => Lands.next (Lands.turn ?_) h2, h3, h4⟩
      have hlen1 : (outL rows (i + 1)).length = (outL rows i).length + 1 := by rw [e, List.length_append]; rfl
      rw [hlen1]
      refine Lands.via (markS_eq [31, 33, 34, 35] Tryd.prog kp 1 _ (Y.lpOf Tryd.prog kp 1 (callN Tryd.prog kp 1 o k) 151) (fun _ _ _ _ _ _ _ => rfl) 151 k (loopN Tryd.f15 3) (by kernel_rfl) _ M _) ?_
      refine Lands.via (t_OutA ..) ?_
      rw [gm, nCells, head_nth, nElim, nAsSl, lt_len hlt, nCondT]
      refine Lands.via (loop_reg _ _ _ (by kernel_rfl) _ _ _ _) ?_
      refine Lands.via (r15_31_eq ..) ?_
      refine Lands.via (opsF_cut 8 ..) ?_
      refine Lands.via (t_OutR ..) ?_
      rw [gm, nCells, head_nth, nElim, nAsSl, nElim, nOnNat, blt_t hlt, nCondT]
      dsimp only
      rw [gr, nCells, row_ble hlt, nCondT, row_sub hr]
      refine Lands.via (t_Out31S ..) ?_
      rw [Y.storeF_eq, hst, Y.ob_some]
      refine Lands.via (t_OutB ..) ?_
      rw [g1, nCells, show Y.nthL (rowC r) 6 = some (.int .i64 (r.here : Int)) from rfl, nElim, nAsInt, nKEq, nCondT, ltF_f (by omega), nCondF]
      refine Lands.via (loop_reg _ _ _ (by kernel_rfl) _ _ _ _) ?_
      refine Lands.via (r15_33_eq ..) ?_
      refine Lands.via (t_Out33 ..) ?_
      rw [g1, nCells, show Y.nthL (rowC r) 5 = some (.int .i64 (r.to : Int)) from rfl, nElim, nAsInt, nKEq, nCondT]
      obtain ⟨xo, xd, xs, xf, xm⟩ := x'
      by_cases ht : 0 < r.to
      · rw [ltF_t (by omega), nCondT]
        refine Lands.via (t_OutC ..) ?_
        rw [nCondT]
        refine Lands.via (loop_reg _ _ _ (by kernel_rfl) _ _ _ _) ?_
        refine Lands.via (r15_34_eq ..) ?_
        refine Lands.via (opsF_cut 12 ..) ?_
        refine Lands.via (t_Out34 ..) ?_
        have gA := h1.get hA
        have hat := atS_cnt rows r.to
        have hcr := cnt_le rows
        rw [g1, nCells, show Y.nthL (rowC r) 5 = some (.int .i64 (r.to : Int)) from rfl, nElim, nAsInt, nKEq, nCondT, nOnNat, blt_t (show r.to < N + 1 by omega), nCondT, gA, nCells, atC_nth _ hlb.1, nElim, nAsInt, nKEq, nCondT]
        simp only [Int.ofNat_eq_natCast]
        rw [hol]
        rw [wrap64 (x := Int.sub (atS rows r.to : Int) (cnt (rows.take i) : Int)) (by show _ ≤ (atS rows r.to : Int) - (cnt (rows.take i) : Int) ∧ (atS rows r.to : Int) - (cnt (rows.take i) : Int) ≤ _; omega), wrap64 (x := Int.sub (Int.sub (atS rows r.to : Int) (cnt (rows.take i) : Int)) 1) (by show _ ≤ (atS rows r.to : Int) - (cnt (rows.take i) : Int) - 1 ∧ (atS rows r.to : Int) - (cnt (rows.take i) : Int) - 1 ≤ _; omega)]
        refine Lands.via (t_Out34S ..) ?_
        rw [Y.storeF_eq, show storeD Tryd.prog M1 40 (.int .i16 (IntKind.wrap .i16 (Int.sub (Int.sub (atS rows r.to : Int) (cnt (rows.take i) : Int)) 1))) (.pointer (some ⟨M.size, 3, none⟩)) = some M4 from q1 ht, Y.ob_some, ← hol]
        refine Lands.via (t_OutD ..) ?_
        refine Lands.via (loop_reg _ _ _ (by kernel_rfl) _ _ _ _) ?_
        refine Lands.via (r15_35_eq ..) ?_
        refine Lands.via (opsF_cut 3 ..) ?_
        refine Lands.via (t_Out35 ..) ?_
        rw [g4, nCells, show Nat.ble 5 (Y.lenLF (insC ⟨xo, xd, xs, xf, xm⟩ ++ [.int .i64 (r.to : Int), .int .i64 (r.here : Int)])) = true from rfl, nCondT, show Y.subL (insC ⟨xo, xd, xs, xf, xm⟩ ++ [.int .i64 (r.to : Int), .int .i64 (r.here : Int)]) 0 5 = insC ⟨xo, xd, xs, xf, xm⟩ from rfl]
        refine Lands.via (opsF_cut 1 ..) ?_
        refine Lands.via (t_Out35b ..) ?_
        rw [show List.drop 1 (List.drop 3 r15_35) = List.drop 4 r15_35 by rw [List.drop_drop]]
        refine Lands.via (t_Out35c ..) ?_
        rw [Y.appendF_eq, show appendD Tryd.prog (M4.push (.cells true [.int .u8 xo, .int .u8 xd, .int .u8 xs, .int .i16 xf, .int .i32 xm])) 28 28 (.slice oa (outL rows i).length (outL rows i).length) (.slice (some ⟨M4.size, 0, none⟩) 1 1) = _ from hap, nOnV]
        refine Lands.via (t_OutE ..) ?_
        rw [wrap_succ (by omega)]
        exact Lands.here _
      · obtain rfl := q2 ht
        rw [ltF_f (by omega), nCondF]
        refine Lands.via (t_OutC ..) ?_
        rw [nCondF]
        refine Lands.via (loop_reg _ _ _ (by kernel_rfl) _ _ _ _) ?_
        refine Lands.via (r15_35_eq ..) ?_
        refine Lands.via (opsF_cut 3 ..) ?_
        refine Lands.via (t_Out35 ..) ?_
        rw [g4, nCells, show Nat.ble 5 (Y.lenLF (insC ⟨xo, xd, xs, xf, xm⟩ ++ [.int .i64 (r.to : Int), .int .i64 (r.here : Int)])) = true from rfl, nCondT, show Y.subL (insC ⟨xo, xd, xs, xf, xm⟩ ++ [.int .i64 (r.to : Int), .int .i64 (r.here : Int)]) 0 5 = insC ⟨xo, xd, xs, xf, xm⟩ from rfl]
        refine Lands.via (opsF_cut 1 ..) ?_
        refine Lands.via (t_Out35b ..) ?_
        rw [show List.drop 1 (List.drop 3 r15_35) = List.drop 4 r15_35 by rw [List.drop_drop]]
        refine Lands.via (t_Out35c ..) ?_
        rw [Y.appendF_eq, show appendD Tryd.prog (M4.push (.cells true [.int .u8 xo, .int .u8 xd, .int .u8 xs, .int .i16 xf, .int .i32 xm])) 28 28 (.slice oa (outL rows i).length (outL rows i).length) (.slice (some ⟨M4.size, 0, none⟩) 1 1) = _ from hap, nOnV]
        refine Lands.via (t_OutE ..) ?_
        rw [wrap_succ (by omega)]
        exact Lands.here _
theorem Rows_do {rs : List RuleT} {ra : Option Addr} {rc : Nat} (hO : Orq o) (hk : 100000 + 90 ≤ k) (hT : TableOk rs) (hv : rulesAt K (.slice ra rs.length rc) rs) (h : Hp M K []) (h0 : K 0 = some (.cells false gl)) :
    ∃ M1 M2 M3 M4 M5, callN Tryd.prog kp 1 o k 26 [ptr M.size, .int .i64 11, .int .u8 6, .int .u8 1] (M.push (.cells true [.slice none 0 0, .int .i64 0])) = some (unitV, M1) ∧ callN Tryd.prog kp 1 o k 27 [ptr M.size, .int .i64 8, .int .u8 7, .int .u8 1, .int .i64 8] M1 = some (unitV, M2) ∧
      (∀ x, Lands 151 [(0, .slice ra rs.length rc), (3, ptr M.size), (4, .int .i64 (rs.length : Int))] (.exit 0) M3 (loopD (codeD Tryd.prog kp 1 (callN Tryd.prog kp 1 o k) (drawD Tryd.prog kp 1 (callN Tryd.prog kp 1 o k) 151) 151 k (loopN Tryd.f15 0)) k (fullN 151 (up x [(0, .slice ra rs.length rc), (3, ptr M.size), (4, .int .i64 (0 : Int))])) M2)) ∧
      callN Tryd.prog kp 1 o k 29 [ptr M.size] M3 = some (unitV, M4) ∧ callN Tryd.prog kp 1 o k 32 [ptr M.size, .int .u32 0] M4 = some (unitV, M5) ∧ RS K M.size (tableS rs) (rulesN rs 0) M5 := by
  have s0 : RS K M.size [] 0 (M.push (.cells true [.slice none 0 0, .int .i64 0])) := ⟨h.push [] [.int .i64 0] 7, h0⟩
  obtain ⟨M1, c1, h1⟩ := Regs_do (k := k) (op := 11) (d := 6) (s := 1) hO (by omega) (by simp) (by simp) s0
  obtain ⟨M2, c2, h2⟩ := Load_do (k := k) (z := 8) (d := 7) (s := 1) (m := 8) hO (by omega) (by simp) (by simp) h1
  have hlen := rulesS_len rs 0 hT.tests
  have h32 := hT.len
  obtain ⟨ra', rc', hve, hv⟩ := hv
  obtain ⟨rfl, rfl⟩ : ra = ra' ∧ rc = rc' := by simpa using hve
  obtain ⟨M3, hloop, h3⟩ : ∃ M3, (∀ x, Lands 151 [(0, .slice ra rs.length rc), (3, ptr M.size), (4, .int .i64 (rs.length : Int))] (.exit 0) M3 (loopD (codeD Tryd.prog kp 1 (callN Tryd.prog kp 1 o k) (drawD Tryd.prog kp 1 (callN Tryd.prog kp 1 o k) 151) 151 k (loopN Tryd.f15 0)) k (fullN 151 (up x [(0, .slice ra rs.length rc), (3, ptr M.size), (4, .int .i64 (0 : Int))])) M2)) ∧
      RS K M.size ([] ++ [ins (iRegs 11 6 1) 0] ++ [ins (iLoad 8 7 1 8) 0] ++ rulesS rs 0) (rulesN rs 0) M3 := by
    by_cases e : rs = []
    · subst e
      obtain ⟨k, rfl⟩ : ∃ k', k = k' + 1 := ⟨k - 1, by omega⟩
      refine ⟨M2, fun x => Lands.stop (Lands.turn ?_) (by simp), by rw [show rulesS [] 0 = [] from rfl, List.append_nil]; exact h2⟩
      exact Lands.via (t_MadA0 ..) (Lands.here _)
    · obtain ⟨rb, rp, own, rest, vr, rfl, hrs, hrb, hvt⟩ := hv e
      have hl2 : rs.length = vr.length := by rw [← hrs, List.length_map]
      obtain ⟨M3, q1, q2⟩ := RulesR_loop (mp := M.size) (rc := rc) (rp := rp) (k := k) hO (by omega) hT hrs hrb hvt vr.length 0 (by omega) k 0 _ M2 (by omega) (by simp; omega) (by omega) h2
      refine ⟨M3, fun x => ?_, q2⟩
      rw [hl2]
      exact q1 x
  obtain ⟨M4, c4, h4⟩ := Afresh_do (k := k) hO (by omega) (by simp only [List.length_append, List.length_cons, List.length_nil]; omega) h3
  obtain ⟨M5, c5, h5⟩ := Low_do (k := k) (v := 0) hO (by omega) (by simp only [List.length_append, List.length_cons, List.length_nil, afreshS]; omega) h4
  rw [show [] ++ [ins (iRegs 11 6 1) 0] ++ [ins (iLoad 8 7 1 8) 0] ++ rulesS rs 0 ++ afreshS ++ lowS 0 = tableS rs by simp only [tableS, List.nil_append, List.append_assoc, List.cons_append]] at h5
  exact ⟨M1, M2, M3, M4, M5, c1, c2, hloop, c4, c5, h5⟩
theorem tableS_len {rs : List RuleT} (hT : TableOk rs) : 0 < (tableS rs).length ∧ (tableS rs).length ≤ 50000 := by
  have hlen := rulesS_len rs 0 hT.tests
  have h32 := hT.len
  simp only [tableS, List.length_append, List.length_cons, List.length_nil, afreshS, lowS]
  omega
theorem rulesN_le : ∀ (rs : List RuleT) (n : Nat), (∀ r ∈ rs, r.tests.length ≤ 8) → rulesN rs n ≤ n + 300 * rs.length
  | [], n, _ => by simp [rulesN]
  | r :: rs, n, h => by
    have h1 := (testsN_le r.tests (n + 1)).2
    have h2 := rulesN_le rs (testsN r.tests (n + 1)) fun r hr => h r (by simp [hr])
    have h3 := h r (by simp)
    simp only [rulesN, List.length_cons]
    omega
theorem MadeR_do {rs : List RuleT} {v : Value} (hO : Orq o) (hk : 100000 + 100 ≤ k) (hT : TableOk rs) (hv : rulesAt K v rs) (h : Hp M K []) (h0 : K 0 = some (.cells false gl)) :
    ∃ oa M', callN Tryd.prog kp 1 o k 15 [v] M = some (.slice oa (madeS (tableS rs)).length (madeS (tableS rs)).length, M') ∧ Hp M' K [] ∧ OutAt M' K (madeS (tableS rs)) oa := by
  obtain ⟨k, rfl⟩ : ∃ k', k = k' + 1 := ⟨k - 1, by omega⟩
  obtain ⟨ra, rc, hve, hv'⟩ := id hv
  subst hve
  obtain ⟨M1, M2, M3, M4, M5, c1, c2, hloop, c4, c5, h5⟩ := Rows_do (k := k) hO (by omega) hT hv h h0
  have htl := tableS_len hT
  have hnl := rulesN_le rs 0 hT.tests
  have h32 := hT.len
  obtain ⟨N, hN⟩ : ∃ N, rulesN rs 0 = N := ⟨_, rfl⟩
  have hlb := LB.table rs
  obtain ⟨rows, hrows⟩ : ∃ rows, tableS rs = rows := ⟨_, rfl⟩
  rw [hrows] at htl hlb h5
  rw [hN] at hlb h5 hnl
  rw [hrows]
  obtain ⟨K2, a, hw, hK2, hbuf, _, h6⟩ := h5.1.freeze
  obtain ⟨rb, rfl, hrb, _⟩ := hbuf htl.1
  have hF : RF K2 M.size rb rows N := ⟨hK2, hrb, hlb, by omega⟩
  have gm := h6.get hF.head
  obtain ⟨M6, hM6⟩ : ∃ M6, M5.push (.cells true (atC N fun _ => 0)) = M6 := ⟨_, rfl⟩
  have x6 : Ext M5 M6 := hM6 ▸ Ext.push _ _
  have s6 : M6.size = M5.size + 1 := by rw [← hM6]; rfl
  obtain ⟨M7, hl7, h7, hs7, g7⟩ := At_loop (o := o) (k := k) (ab := M5.size) hF (h6.no (Nat.le_refl _)) (by omega) rows.length 0 (by omega) k M6 (by omega) (h6.ext x6) (by omega) (by rw [← hM6]; exact Mem.get_push_same _ _)
  obtain ⟨hb8, hw8⟩ : Hp M7 (keep1 K2 M5.size (.cells true (atC N (atS rows)))) [] ∧ ∀ j y, K2 j = some y → keep1 K2 M5.size (.cells true (atC N (atS rows))) j = some y := by
    obtain ⟨ht, hK, F, q1, q2, q3⟩ := h7
    cases q1
    have hno := h6.no (Nat.le_refl M5.size)
    refine ⟨⟨ht, fun j y hj => ?_, [], .nil, List.nodup_nil, fun x hx => by simp at hx⟩, fun j y hj => ?_⟩
    · by_cases e : j = M5.size
      · subst e; rw [keep1_same] at hj; cases hj
        exact ⟨by omega, g7⟩
      · rw [keep1_ne e] at hj; exact hK j y hj
    · rw [keep1_ne (by rintro rfl; rw [hno] at hj; cases hj)]; exact hj
  have hF8 : RF (keep1 K2 M5.size (.cells true (atC N (atS rows)))) M.size rb rows N := ⟨hw8 _ _ hF.head, hw8 _ _ hF.body, hlb, by omega⟩
  obtain ⟨M9, oa, hl9, h9, ho9⟩ := Out_loop (o := o) (k := k) (ab := M5.size) hF8 (keep1_same ..) rows.length 0 (by omega) k none M7 (by omega) hb8 (.inl ⟨rfl, rfl⟩)
  refine ⟨oa, M9, call_of 151 (hO.off 15 (by decide) _ _) at15 bd15 n15 ?_ okSl15, h9.weak fun j y hj => hw8 _ _ (hw _ _ hj), ?_⟩
  rotate_left
  · rcases ho9 with ho | ⟨c, q1, q2, q3, q4⟩
    · exact .inl ho
    · refine .inr ⟨c, q1, q2, ?_, q4⟩
      cases hk : K c with
      | none => rfl
      | some y => rw [hw8 _ _ (hw _ _ hk)] at q3; cases q3
  refine Eq.trans (markS_eq [19] Tryd.prog kp 1 _ (Y.lpOf Tryd.prog kp 1 (callN Tryd.prog kp 1 o k) 151) (fun _ _ _ _ _ _ _ => rfl) 151 k (bodyOf Tryd.f15) (by kernel_rfl) _ M _) ?_
  refine Eq.trans (t_Made_in ..) ?_
  refine step c1 ?_
  refine step c2 ?_
  refine Eq.trans (mixL_loop _ _ (by kernel_rfl) _ _ _ _) ?_
  rw [Y.lpOf_eq, lc15z]
  refine onE_land (hloop _) fun x3 => ?_
  refine Eq.trans (t_Made2 ..) ?_
  refine step c4 ?_
  refine step c5 ?_
  refine Eq.trans (loop_reg _ _ _ (by kernel_rfl) _ _ _ _) ?_
  refine Eq.trans (r15_19_eq ..) ?_
  refine Eq.trans (opsF_cut 5 ..) ?_
  refine Eq.trans (t_Made19 ..) ?_
  rw [gm, nCells, show Y.nthL [Value.slice (some ⟨rb, 0, some 7⟩) rows.length rows.length, .int .i64 (N : Int)] 1 = some (.int .i64 (N : Int)) from rfl, nElim, nAsInt, nKEq, nCondT, wrap_succ (by omega)]
  refine Eq.trans (t_Made19b ..) ?_
  rw [Y.alloc_on rfl, ms63 (ev78 ..) (by omega), atC_repl, show Y.layF (some (.cells true (atC N fun _ => 0), Made.slc (N + 1) (N + 1))) M5 = fun q => q (.slice (some ⟨M5.size, 0, none⟩) (N + 1) (N + 1)) (M5.push (.cells true (atC N fun _ => 0))) from rfl, hM6]
  refine Eq.trans (t_Made3 ..) ?_
  refine Eq.trans (mixL_loop _ _ (by kernel_rfl) _ _ _ _) ?_
  rw [Y.lpOf_eq, lc15l]
  refine onE_land (hl7 _) fun x4 => ?_
  refine Eq.trans (t_Made4 ..) ?_
  refine Eq.trans (mixL_loop _ _ (by kernel_rfl) _ _ _ _) ?_
  rw [Y.lpOf_eq, lc15o]
  refine onE_land (hl9 _) fun x5 => ?_
  exact t_Made5 ..
end
end
end Go.Proofs.YtadioopbehiakaaDoor
namespace Go.Proofs.YtadioopbehiakaaDoor
open Go Go.DI Go.DI.Kit Go.Proofs Go.Cmp
noncomputable section
set_option maxHeartbeats 4000000
variable {α : Type} (x : Nat → Value) (cf : Y.CF α) (L : Y.LK α) (k : Nat) (m : Mem)
def c8 : Code := markS [3, 6, 7] (bodyOf Tryd.f8)
def r8_3 : List Oper := regOps 3 (bodyOf Tryd.f8)
def r8_6 : List Oper := regOps 6 (bodyOf Tryd.f8)
def r8_7 : List Oper := regOps 7 (bodyOf Tryd.f8)
def c9 : Code := markS [3, 6, 7] (bodyOf Tryd.f9)
def r9_3 : List Oper := regOps 3 (bodyOf Tryd.f9)
def r9_6 : List Oper := regOps 6 (bodyOf Tryd.f9)
def r9_7 : List Oper := regOps 7 (bodyOf Tryd.f9)
def c6 : Code := markS [4] (loopN Tryd.f6 0)
def r6_4 : List Oper := regOps 4 (bodyOf Tryd.f6)
theorem t_Siz (ra : Option Addr) (rn rc : Nat) (q : Value → Mem → Option α) : Y.codeF (bodyOf Tryd.f10) Tryd.prog kp 1 (Y.cfT Tryd.prog cf) L 17 k (fullN 17 (argX [.slice ra rn rc])) m (Y.retF Tryd.prog Tryd.f10 q) =
  (cf 12 [(.slice ra rn rc)] m (fun v_9 m'_10=>(Y.asTup v_9 (fun cs_11=>(Y.unc (Array.toList cs_11) (fun a l=>(Y.asInt a (fun k'_15 n_16=>(cond (Y.kEq .i64 k'_15) (Y.unc l (fun a_7 l_8=>(Y.asInt a_7 (fun k'_20 n_21=>(cond (Y.kEq .i64 k'_20) (Y.unc l_8 (fun a_11 l_12=>none) (cond (cond (Y.eqF n_21 (0:Int)) false true) (q (.tuple ⟨[(.int .i64 (0:Int)),(.int .i64 n_21)]⟩) m'_10) (cf 13 [(.slice ra rn rc)] m'_10 (fun v_22 m'_23=>(Y.asSl v_22 (fun a_24 n_25 c_26=>(q (.tuple ⟨[(.int .i64 (Int.ofNat n_25)),(.int .i64 (0:Int))]⟩) m'_23)) none))))) none)) none)) none) none)) none)) none))))):=by kernel_rfl
theorem t_SizR (ra : Option Addr) (rn rc : Nat) (q : Value → Mem → Option α) : Y.codeF (bodyOf Tryd.f11) Tryd.prog kp 1 (Y.cfT Tryd.prog cf) L 17 k (fullN 17 (argX [.slice ra rn rc])) m (Y.retF Tryd.prog Tryd.f11 q) =
  (cf 14 [(.slice ra rn rc)] m (fun v_9 m'_10=>(Y.asTup v_9 (fun cs_11=>(Y.unc (Array.toList cs_11) (fun a l=>(Y.asInt a (fun k'_15 n_16=>(cond (Y.kEq .i64 k'_15) (Y.unc l (fun a_7 l_8=>(Y.asInt a_7 (fun k'_20 n_21=>(cond (Y.kEq .i64 k'_20) (Y.unc l_8 (fun a_11 l_12=>none) (cond (cond (Y.eqF n_21 (0:Int)) false true) (q (.tuple ⟨[(.int .i64 (0:Int)),(.int .i64 n_21)]⟩) m'_10) (cf 15 [(.slice ra rn rc)] m'_10 (fun v_22 m'_23=>(Y.asSl v_22 (fun a_24 n_25 c_26=>(q (.tuple ⟨[(.int .i64 (Int.ofNat n_25)),(.int .i64 (0:Int))]⟩) m'_23)) none))))) none)) none)) none) none)) none)) none))))):=by kernel_rfl
theorem t_Cod_in (ra : Option Addr) (rn rc : Nat) (q : Value → Mem → Option α) : Y.codeF c8 Tryd.prog kp 1 (Y.cfT Tryd.prog cf) L 24 k (fullN 24 (argX [.slice ra rn rc])) m (Y.retF Tryd.prog Tryd.f8 q) =
  (cf 12 [(.slice ra rn rc)] (Mem.push m (.cells true [(.slice none 0 0),(.slice none 0 0)])) (fun v_9 m'_10=>(Y.asTup v_9 (fun cs_11=>(Y.unc (Array.toList cs_11) (fun a l=>(Y.asInt a (fun k'_15 n_16=>(cond (Y.kEq .i64 k'_15) (Y.unc l (fun a_7 l_8=>(Y.asInt a_7 (fun k'_20 n_21=>(cond (Y.kEq .i64 k'_20) (Y.unc l_8 (fun a_11 l_12=>none) (cond (cond (Y.eqF n_21 (0:Int)) false true) (L (Y.codeF (Y.loopC c8 0) Tryd.prog kp 1 (Y.cfT Tryd.prog cf) L 24 k) (Y.loopC c8 0) k (fullN 24 (up (up Go.DI.x0 [(0,(.slice ra rn rc)),(8,(.slice ra rn rc)),(4,(.int .i64 n_16)),(12,(.int .i64 n_21)),(10,(.int .i64 n_16)),(9,(.tuple ⟨[(.int .i64 n_16),(.int .i64 n_21)]⟩)),(13,(.bool true)),(3,(.int .i64 (0:Int))),(11,(.int .i64 n_21)),(7,(.tuple ⟨[(.int .i64 n_16),(.int .i64 n_21)]⟩))]) [(2,(.pointer (some (Addr.mk (Mem.size m) 0 none)))),(5,(.int .i64 n_21)),(6,(.tuple ⟨[]⟩))])) m'_10 (Y.kont Tryd.prog kp 1 (Y.cfT Tryd.prog cf) L 24 k c8 0 (Y.retF Tryd.prog Tryd.f8 q))) (cf 13 [(.slice ra rn rc)] m'_10 (fun v_22 m'_23=>(Y.asSl v_22 (fun a_24 n_25 c_26=>(cond (Y.ltF (512 : Int) (Int.ofNat n_25)) (L (Y.codeF (Y.loopC c8 1) Tryd.prog kp 1 (Y.cfT Tryd.prog cf) L 24 k) (Y.loopC c8 1) k (fullN 24 (up (up Go.DI.x0 [(0,(.slice ra rn rc)),(16,(.slice ra rn rc)),(8,(.slice ra rn rc)),(4,(.int .i64 n_16)),(20,(.bool true)),(12,(.int .i64 n_21)),(18,(.slice a_24 n_25 c_26)),(10,(.int .i64 n_16)),(17,(.slice a_24 n_25 c_26)),(9,(.tuple ⟨[(.int .i64 n_16),(.int .i64 n_21)]⟩)),(13,(.bool false)),(3,(.int .i64 (0:Int))),(19,(.int .i64 (Int.ofNat n_25))),(11,(.int .i64 n_21)),(7,(.tuple ⟨[(.int .i64 n_16),(.int .i64 n_21)]⟩))]) [(2,(.pointer (some (Addr.mk (Mem.size m) 0 none)))),(5,(.int .i64 n_21)),(6,(.slice a_24 n_25 c_26))])) m'_23 (Y.kont Tryd.prog kp 1 (Y.cfT Tryd.prog cf) L 24 k c8 1 (Y.retF Tryd.prog Tryd.f8 q))) (L (Y.codeF (Y.loopC c8 2) Tryd.prog kp 1 (Y.cfT Tryd.prog cf) L 24 k) (Y.loopC c8 2) k (fullN 24 (up (up Go.DI.x0 [(0,(.slice ra rn rc)),(16,(.slice ra rn rc)),(8,(.slice ra rn rc)),(4,(.int .i64 n_16)),(20,(.bool false)),(12,(.int .i64 n_21)),(18,(.slice a_24 n_25 c_26)),(10,(.int .i64 n_16)),(17,(.slice a_24 n_25 c_26)),(9,(.tuple ⟨[(.int .i64 n_16),(.int .i64 n_21)]⟩)),(13,(.bool false)),(3,(.int .i64 (0:Int))),(19,(.int .i64 (Int.ofNat n_25))),(11,(.int .i64 n_21)),(7,(.tuple ⟨[(.int .i64 n_16),(.int .i64 n_21)]⟩))]) [(2,(.pointer (some (Addr.mk (Mem.size m) 0 none)))),(5,(.int .i64 n_21)),(6,(.slice a_24 n_25 c_26))])) m'_23 (Y.kont Tryd.prog kp 1 (Y.cfT Tryd.prog cf) L 24 k c8 2 (Y.retF Tryd.prog Tryd.f8 q))))) none))))) none)) none)) none) none)) none)) none))))):=by kernel_rfl
theorem t_CodR0 (tb : Nat) (e : Int) (q : Value → Mem → Option α) : Y.kont Tryd.prog kp 1 (Y.cfT Tryd.prog cf) L 24 k c8 0 (Y.retF Tryd.prog Tryd.f8 q) .normal (fullN 24 (up x [(2,.pointer (some ⟨tb,0,none⟩)),(3,.int .i64 e)])) m =
  (Y.cellsOf (Mem.get m tb) (fun _ c_10=>(cond (Nat.ble 2 (Y.lenLF c_10)) (q (.tuple ⟨[(.agg ⟨(Y.subL c_10 0 2)⟩),(.int .i64 e)]⟩) m) none))):=by kernel_rfl
theorem t_CodR1 (tb : Nat) (e : Int) (q : Value → Mem → Option α) : Y.kont Tryd.prog kp 1 (Y.cfT Tryd.prog cf) L 24 k c8 1 (Y.retF Tryd.prog Tryd.f8 q) .normal (fullN 24 (up x [(2,.pointer (some ⟨tb,0,none⟩)),(3,.int .i64 e)])) m =
  (Y.cellsOf (Mem.get m tb) (fun _ c_10=>(cond (Nat.ble 2 (Y.lenLF c_10)) (q (.tuple ⟨[(.agg ⟨(Y.subL c_10 0 2)⟩),(.int .i64 e)]⟩) m) none))):=by kernel_rfl
theorem t_CodR2 (tb : Nat) (e : Int) (q : Value → Mem → Option α) : Y.kont Tryd.prog kp 1 (Y.cfT Tryd.prog cf) L 24 k c8 2 (Y.retF Tryd.prog Tryd.f8 q) .normal (fullN 24 (up x [(2,.pointer (some ⟨tb,0,none⟩)),(3,.int .i64 e)])) m =
  (Y.cellsOf (Mem.get m tb) (fun _ c_10=>(cond (Nat.ble 2 (Y.lenLF c_10)) (q (.tuple ⟨[(.agg ⟨(Y.subL c_10 0 2)⟩),(.int .i64 e)]⟩) m) none))):=by kernel_rfl
theorem t_Img_in (ra : Option Addr) (rn rc : Nat) (q : Value → Mem → Option α) : Y.codeF c9 Tryd.prog kp 1 (Y.cfT Tryd.prog cf) L 24 k (fullN 24 (argX [.slice ra rn rc])) m (Y.retF Tryd.prog Tryd.f9 q) =
  (cf 14 [(.slice ra rn rc)] (Mem.push m (.cells true [(.slice none 0 0),(.slice none 0 0)])) (fun v_9 m'_10=>(Y.asTup v_9 (fun cs_11=>(Y.unc (Array.toList cs_11) (fun a l=>(Y.asInt a (fun k'_15 n_16=>(cond (Y.kEq .i64 k'_15) (Y.unc l (fun a_7 l_8=>(Y.asInt a_7 (fun k'_20 n_21=>(cond (Y.kEq .i64 k'_20) (Y.unc l_8 (fun a_11 l_12=>none) (cond (cond (Y.eqF n_21 (0:Int)) false true) (L (Y.codeF (Y.loopC c9 0) Tryd.prog kp 1 (Y.cfT Tryd.prog cf) L 24 k) (Y.loopC c9 0) k (fullN 24 (up (up Go.DI.x0 [(0,(.slice ra rn rc)),(8,(.slice ra rn rc)),(4,(.int .i64 n_16)),(12,(.int .i64 n_21)),(10,(.int .i64 n_16)),(9,(.tuple ⟨[(.int .i64 n_16),(.int .i64 n_21)]⟩)),(13,(.bool true)),(3,(.int .i64 (0:Int))),(11,(.int .i64 n_21)),(7,(.tuple ⟨[(.int .i64 n_16),(.int .i64 n_21)]⟩))]) [(2,(.pointer (some (Addr.mk (Mem.size m) 0 none)))),(5,(.int .i64 n_21)),(6,(.tuple ⟨[]⟩))])) m'_10 (Y.kont Tryd.prog kp 1 (Y.cfT Tryd.prog cf) L 24 k c9 0 (Y.retF Tryd.prog Tryd.f9 q))) (cf 15 [(.slice ra rn rc)] m'_10 (fun v_22 m'_23=>(Y.asSl v_22 (fun a_24 n_25 c_26=>(cond (Y.ltF (512 : Int) (Int.ofNat n_25)) (L (Y.codeF (Y.loopC c9 1) Tryd.prog kp 1 (Y.cfT Tryd.prog cf) L 24 k) (Y.loopC c9 1) k (fullN 24 (up (up Go.DI.x0 [(0,(.slice ra rn rc)),(16,(.slice ra rn rc)),(8,(.slice ra rn rc)),(4,(.int .i64 n_16)),(20,(.bool true)),(12,(.int .i64 n_21)),(18,(.slice a_24 n_25 c_26)),(10,(.int .i64 n_16)),(17,(.slice a_24 n_25 c_26)),(9,(.tuple ⟨[(.int .i64 n_16),(.int .i64 n_21)]⟩)),(13,(.bool false)),(3,(.int .i64 (0:Int))),(19,(.int .i64 (Int.ofNat n_25))),(11,(.int .i64 n_21)),(7,(.tuple ⟨[(.int .i64 n_16),(.int .i64 n_21)]⟩))]) [(2,(.pointer (some (Addr.mk (Mem.size m) 0 none)))),(5,(.int .i64 n_21)),(6,(.slice a_24 n_25 c_26))])) m'_23 (Y.kont Tryd.prog kp 1 (Y.cfT Tryd.prog cf) L 24 k c9 1 (Y.retF Tryd.prog Tryd.f9 q))) (L (Y.codeF (Y.loopC c9 2) Tryd.prog kp 1 (Y.cfT Tryd.prog cf) L 24 k) (Y.loopC c9 2) k (fullN 24 (up (up Go.DI.x0 [(0,(.slice ra rn rc)),(16,(.slice ra rn rc)),(8,(.slice ra rn rc)),(4,(.int .i64 n_16)),(20,(.bool false)),(12,(.int .i64 n_21)),(18,(.slice a_24 n_25 c_26)),(10,(.int .i64 n_16)),(17,(.slice a_24 n_25 c_26)),(9,(.tuple ⟨[(.int .i64 n_16),(.int .i64 n_21)]⟩)),(13,(.bool false)),(3,(.int .i64 (0:Int))),(19,(.int .i64 (Int.ofNat n_25))),(11,(.int .i64 n_21)),(7,(.tuple ⟨[(.int .i64 n_16),(.int .i64 n_21)]⟩))]) [(2,(.pointer (some (Addr.mk (Mem.size m) 0 none)))),(5,(.int .i64 n_21)),(6,(.slice a_24 n_25 c_26))])) m'_23 (Y.kont Tryd.prog kp 1 (Y.cfT Tryd.prog cf) L 24 k c9 2 (Y.retF Tryd.prog Tryd.f9 q))))) none))))) none)) none)) none) none)) none)) none))))):=by kernel_rfl
theorem t_ImgR0 (tb : Nat) (e : Int) (q : Value → Mem → Option α) : Y.kont Tryd.prog kp 1 (Y.cfT Tryd.prog cf) L 24 k c9 0 (Y.retF Tryd.prog Tryd.f9 q) .normal (fullN 24 (up x [(2,.pointer (some ⟨tb,0,none⟩)),(3,.int .i64 e)])) m =
  (Y.cellsOf (Mem.get m tb) (fun _ c_10=>(cond (Nat.ble 2 (Y.lenLF c_10)) (q (.tuple ⟨[(.agg ⟨(Y.subL c_10 0 2)⟩),(.int .i64 e)]⟩) m) none))):=by kernel_rfl
theorem t_ImgR1 (tb : Nat) (e : Int) (q : Value → Mem → Option α) : Y.kont Tryd.prog kp 1 (Y.cfT Tryd.prog cf) L 24 k c9 1 (Y.retF Tryd.prog Tryd.f9 q) .normal (fullN 24 (up x [(2,.pointer (some ⟨tb,0,none⟩)),(3,.int .i64 e)])) m =
  (Y.cellsOf (Mem.get m tb) (fun _ c_10=>(cond (Nat.ble 2 (Y.lenLF c_10)) (q (.tuple ⟨[(.agg ⟨(Y.subL c_10 0 2)⟩),(.int .i64 e)]⟩) m) none))):=by kernel_rfl
theorem t_ImgR2 (tb : Nat) (e : Int) (q : Value → Mem → Option α) : Y.kont Tryd.prog kp 1 (Y.cfT Tryd.prog cf) L 24 k c9 2 (Y.retF Tryd.prog Tryd.f9 q) .normal (fullN 24 (up x [(2,.pointer (some ⟨tb,0,none⟩)),(3,.int .i64 e)])) m =
  (Y.cellsOf (Mem.get m tb) (fun _ c_10=>(cond (Nat.ble 2 (Y.lenLF c_10)) (q (.tuple ⟨[(.agg ⟨(Y.subL c_10 0 2)⟩),(.int .i64 e)]⟩) m) none))):=by kernel_rfl
theorem t_Lon_in (ra : Option Addr) (rn rc : Nat) (q : Value → Mem → Option α) : Y.codeF (bodyOf Tryd.f6) Tryd.prog kp 1 (Y.cfT Tryd.prog cf) L 22 k (fullN 22 (argX [.slice ra rn rc])) m (Y.retF Tryd.prog Tryd.f6 q) =
  (L (fun t m q=>Y.codeF (Y.loopC (bodyOf Tryd.f6) 0) Tryd.prog kp 1 (Y.cfT Tryd.prog cf) L 22 k t m q) (Y.loopC (bodyOf Tryd.f6) 0) k (fullN 22 (up (up Go.DI.x0 [(0,(.slice ra rn rc)),(2,(.bool false)),(6,(.slice ra rn rc)),(7,(.int .i64 (Int.ofNat rn)))]) [(3,(.int .i64 (Int.ofNat rn))),(8,(.slice ra rn rc)),(9,(.int .i64 (Int.ofNat rn))),(10,(.int .i64 (0:Int)))])) m (Y.kont Tryd.prog kp 1 (Y.cfT Tryd.prog cf) L 22 k (bodyOf Tryd.f6) 0 (Y.retF Tryd.prog Tryd.f6 q))):=by kernel_rfl
theorem t_LonA (rb : Nat) (rp : Option Nat) (rn rc : Nat) (n i : Int) (q : Y.ExK α) : Y.codeF c6 Tryd.prog kp 1 (Y.cfT Tryd.prog cf) L 22 k (fullN 22 (up x [(3,.int .i64 n),(8,.slice (some ⟨rb,0,rp⟩) rn rc),(9,.int .i64 rn),(10,.int .i64 i)])) m q =
  (cond (Y.ltF i (Int.ofNat rn)) (L (Y.codeF (Y.loopC c6 0) Tryd.prog kp 1 (Y.cfT Tryd.prog cf) L 22 k) (Y.loopC c6 0) k (fullN 22 (up (up x [(11,(.bool true))]) [(3,(.int .i64 n)),(8,(.slice (some (Addr.mk rb 0 rp)) rn rc)),(9,(.int .i64 (Int.ofNat rn))),(10,(.int .i64 i))])) m (Y.kont Tryd.prog kp 1 (Y.cfT Tryd.prog cf) L 22 k c6 0 q)) (q (Ex.exit 0) (fullN 22 (up (up x [(11,(.bool false))]) [(3,(.int .i64 n)),(8,(.slice (some (Addr.mk rb 0 rp)) rn rc)),(9,(.int .i64 (Int.ofNat rn))),(10,(.int .i64 i))])) m)):=by kernel_rfl
theorem t_LonR (rb : Nat) (rp : Option Nat) (rn rc : Nat) (n i : Int) (q : Tmps → Mem → Option α) : Y.opsF (List.take 3 r6_4) Tryd.prog kp 1 (Y.cfT Tryd.prog cf) 22 r6_4 (fullN 22 (up x [(3,.int .i64 n),(8,.slice (some ⟨rb,0,rp⟩) rn rc),(9,.int .i64 rn),(10,.int .i64 i)])) m q =
  (Y.onNat i (fun i_11=>(cond (Nat.blt i_11 rn) (Y.cellsOf (Mem.get m rb) (fun _ c_13=>(cond (Nat.ble (Nat.add (Nat.add 0 (Nat.mul i_11 2)) 2) (Y.lenLF c_13)) (q (fullN 22 (up (up x [(12,(.pointer (some (Addr.mk rb (Nat.add 0 (Nat.mul i_11 2)) none))))]) [(3,(.int .i64 n)),(5,(.pointer (some (Addr.mk (Mem.size m) 0 none)))),(8,(.slice (some (Addr.mk rb 0 rp)) rn rc)),(9,(.int .i64 (Int.ofNat rn))),(10,(.int .i64 i)),(13,(.agg ⟨(Y.subL c_13 (Nat.add 0 (Nat.mul i_11 2)) 2)⟩))])) (Mem.push m (.cells true [(.slice none 0 0),(.int Go.IntKind.u32 (0:Int))]))) none))) none))):=by kernel_rfl
theorem t_LonB (xb : Nat) (rb : Nat) (rp : Option Nat) (rn rc : Nat) (n i : Int) (q : Y.ExK α) : Y.kont Tryd.prog kp 1 (Y.cfT Tryd.prog cf) L 22 k c6 0 q .normal (fullN 22 (up x [(3,.int .i64 n),(5,.pointer (some ⟨xb,0,none⟩)),(8,.slice (some ⟨rb,0,rp⟩) rn rc),(9,.int .i64 rn),(10,.int .i64 i)])) m =
  (Y.cellsOf (Mem.get m xb) (fun _ c_15=>(Option.elim (Y.nthL c_15 0) none (fun o16=>(Y.asSl o16 (fun a_17 n_18 c_19=>(q .normal (fullN 22 (up (up x [(16,(.slice a_17 n_18 c_19)),(18,(.int .i64 (IntKind.wrap .i64 (Int.add n (Int.ofNat n_18))))),(14,(.int .i64 n)),(17,(.int .i64 (Int.ofNat n_18))),(5,(.pointer (some (Addr.mk xb 0 none)))),(19,(.int .i64 (IntKind.wrap .i64 (Int.add i (1:Int))))),(15,(.pointer (some (Addr.mk xb 0 none))))]) [(3,(.int .i64 (IntKind.wrap .i64 (Int.add n (Int.ofNat n_18))))),(8,(.slice (some (Addr.mk rb 0 rp)) rn rc)),(9,(.int .i64 (Int.ofNat rn))),(10,(.int .i64 (IntKind.wrap .i64 (Int.add i (1:Int)))))])) m)) none))))):=by kernel_rfl
theorem t_Lon_out (n : Int) (w8 w9 w10 : Value) (q : Value → Mem → Option α) : Y.kont Tryd.prog kp 1 (Y.cfT Tryd.prog cf) L 22 k (bodyOf Tryd.f6) 0 (Y.retF Tryd.prog Tryd.f6 q) (.exit 0) (fullN 22 (up x [(3,.int .i64 n),(8,w8),(9,w9),(10,w10)])) m =
  (cond (Y.ltF (5000 : Int) n) (q (.bool true) m) (q (.bool false) m)):=by kernel_rfl
end
end Go.Proofs.YtadioopbehiakaaDoor
