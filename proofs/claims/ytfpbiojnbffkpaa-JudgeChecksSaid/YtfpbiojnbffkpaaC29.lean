/-
  JRowsRun: Rows of the law's package: the rows, appended one by one.
-/
import Derived.Test.YtfpbiojnbffkpaaC28
set_option linter.all false
set_option linter.unusedVariables false
set_option linter.unusedSimpArgs false
namespace Go.Proofs.Ytfpbiojnbffkpaa
open Go Go.DI Go.Proofs Go.Jud
noncomputable section
theorem und24 : Try.prog.underlying 24 = some (.slice 34) := by kernel_rfl
theorem sz34 : szOf Try.prog 34 = some 43 := by kernel_rfl
theorem by34 : bytesOf Try.prog 34 = some 120 := by kernel_rfl
theorem ze34 : (zerosD Try.prog 34 1).isSome = true := by kernel_rfl
set_option maxHeartbeats 4000000 in
theorem t_jrQ {α : Type} (x : Nat → Value) (cf : Y.CF α) (v0 v3 v4 : Value) (kk w t ix e s st c tr : Int) (y : Bool) (h : Nat → Int) (v : Int) (m : Mem) (q : Tmps → Mem → Option α) : Y.opsF (List.drop 6 r5) Try.prog kp 0 (Y.cfT Try.prog cf) 20 r5 (fullN 20 (up x [(0, v0), (2, .slice none 0 0), (3, v3), (4, v4), (11, v3), (16, .agg ⟨rowC kk w t ix e s st c tr y h v⟩)])) m q =
  Y.appendF Try.prog (m.push (.cells true (rowC kk w t ix e s st c tr y h v))) 24 24 v3 (.slice (some ⟨m.size, 0, none⟩) 1 1) fun a m' => q (fullN 20 (up (up x [(16, .agg ⟨rowC kk w t ix e s st c tr y h v⟩), (11, v3), (18, a), (17, .slice (some ⟨m.size, 0, none⟩) 1 1)]) [(0, v0), (2, .slice none 0 0), (3, a), (4, v4)])) m' := by kernel_rfl
theorem r5_eq {α : Type} (cf : Y.CF α) (L : Y.LK α) (k : Nat) (t : Tmps) (m : Mem) (q : Y.ExK α) : Y.codeF (Y.loopC jrX 0) Try.prog kp 0 (Y.cfT Try.prog cf) L 20 k t m q = Y.opsF r5 Try.prog kp 0 (Y.cfT Try.prog cf) 20 r5 t m fun t m => q .normal t m := rfl
theorem take_succ {α : Type} {l : List α} {i : Nat} {x : α} (h : l[i]? = some x) : l.take (i + 1) = l.take i ++ [x] := by
  rw [List.take_add_one, h]; rfl
theorem drop_at {α : Type} {l : List α} {i : Nat} {x : α} (h : l[i]? = some x) : l.drop i = x :: l.drop (i + 1) := by
  obtain ⟨hi, rfl⟩ := List.getElem?_eq_some_iff.1 h
  exact List.drop_eq_getElem_cons hi
structure RwSt (m : Mem) (l : List RowT) (i : Nat) (kv : Value) (M : Mem) : Prop where
  ext : Ext m M
  top : M.top
  kept : (i = 0 ∧ kv = .slice none 0 0) ∨ ∃ bk, kv = .slice (some ⟨bk, 0, some 43⟩) i i ∧ M.get bk = .cells true (rowsC (l.take i)) ∧ bk < M.size ∧ m.size ≤ bk ∧ 0 < i
section
variable {b i : Nat} {own : Bool} {sp : Option Nat} {cap : Nat} {l : List RowT} {rest : List Value} {kv : Value} {m M : Mem}
theorem row_call (ht : M.top) (r : RowT) (k : Nat) (hk : 1 ≤ k) : ∃ d, callN Try.prog kp 0 oA k 11 [.agg ⟨rowR r⟩] M = some (.agg ⟨rowR r⟩, growM M d) := by
  obtain ⟨d, e⟩ := oA_row ht r
  exact ⟨d, callN_o hk e (by kernel_rfl)⟩
set_option maxHeartbeats 4000000 in
theorem rows_turn (hm : m.get b = .cells own (rowsC l ++ rest)) (hb : b < m.size) (hlen : l.length ≤ 100000) (hs : RwSt m l i kv M) (hlt : i < l.length) (k : Nat) (hk : 1 ≤ k) (x : Nat → Value) :
    ∃ kv' M' X, codeD Try.prog kp 0 (callN Try.prog kp 0 oA k) (drawD Try.prog kp 0 (callN Try.prog kp 0 oA k) 20) 20 k (loopN Try.f8 0) (fullN 20 (up x [(0, .slice (some ⟨b, 0, sp⟩) l.length cap), (2, .slice none 0 0), (3, kv), (4, .int .i64 (i : Int))])) M = some (.normal, (fullN 20 (up X [(0, .slice (some ⟨b, 0, sp⟩) l.length cap), (2, .slice none 0 0), (3, kv'), (4, .int .i64 ((i + 1 : Nat) : Int))])), M') ∧ RwSt m l (i + 1) kv' M' := by
  have hT := Y.callN_typed Try.prog kp 0 oA k
  have hg : l[i]? = some l[i] := List.getElem?_eq_getElem hlt
  generalize hre : l[i] = r at hg
  obtain ⟨d, c1⟩ := row_call hs.top r k hk
  have x1 := growM_ext M d
  have hMb : M.get b = .cells own (rowsC l ++ rest) := (hs.ext.get b hb).trans hm
  have hrow : rowC r.k r.w r.t r.i r.e r.s r.st r.c r.tr r.y r.h r.v = rowR r := rfl
  have hsz := hs.ext.size
  have hb0 := (Y.step_eq Try.prog kp 0 hT 20 k (loopN Try.f8 0) (fullN 20 (up x [(0, .slice (some ⟨b, 0, sp⟩) l.length cap), (2, .slice none 0 0), (3, kv), (4, .int .i64 (i : Int))])) M).trans ((mark_eq 5 Try.prog kp 0 _ _ 20 k (loopN Try.f8 0) (by kernel_rfl) _ M _).trans (t_jr (L := onceL) ..))
  rw [lt_len hlt] at hb0
  simp only [cond_true] at hb0
  rw [once_eq, r5_eq, opsF_cut 6, t_jrP] at hb0
  simp only [cond_true, cond_false, onNat_c, blt_t hlt, hMb, cells_c, rows_ble hlt, rows_sub hg, cfOf_at, c1, onV, asAgg_a] at hb0
  rw [← hrow, t_jrQ, hrow, Y.appendF_eq] at hb0
  rcases hs.kept with ⟨h0, rfl⟩ | ⟨bk, rfl, hbk, hlt2, hge, _⟩
  · subst h0
    rw [append_first und24 sz34 by34 ze34 (Mem.get_push_same _ _) (rowR_len r) (row_one r)] at hb0
    simp only [onV] at hb0
    rw [t_jrK] at hb0
    simp only [wrap_succ (show 0 ≤ 1000000 by omega)] at hb0
    have x4 : Ext (growM M d) (((growM M d).push (.cells true (rowR r))).push (.cells true (rowR r))) := (Ext.push _ _).trans (Ext.push _ _)
    refine ⟨_, _, _, hb0, ⟨(hs.ext.trans x1).trans x4, x4.top (x1.top hs.top), .inr ⟨((growM M d).push (.cells true (rowR r))).size, rfl, ?_, by simp, ?_, by omega⟩⟩⟩
    · rw [Mem.get_push_same, take_succ hg]; simp [rowsC]
    · have := x1.size; simp; omega
  · have hzb : ((growM M d).push (.cells true (rowR r))).get bk = .cells true (rowsC (l.take i)) := by
      rw [Mem.get_push_ne _ (by have := x1.size; omega)]; exact (x1.get bk hlt2).trans hbk
    rw [append_more und24 sz34 by34 ze34 (Mem.get_push_same _ _) (rowR_len r) (row_one r) hzb (by rw [rowsC_len, List.length_take, Nat.min_eq_left (by omega)]) (rowsC_one _) (by omega)] at hb0
    simp only [onV] at hb0
    rw [t_jrK] at hb0
    simp only [wrap_succ (show i ≤ 1000000 by omega)] at hb0
    have x4 : Ext (growM M d) (((growM M d).push (.cells true (rowR r))).push (.cells true (rowsC (l.take i) ++ rowR r))) := (Ext.push _ _).trans (Ext.push _ _)
    have hx := (hs.ext.trans x1).trans x4
    refine ⟨_, _, _, hb0, ⟨⟨hx.size, fun j hj => ?_, fun _ => ?_⟩, ?_, .inr ⟨((growM M d).push (.cells true (rowR r))).size, rfl, ?_, by simp, ?_, by omega⟩⟩⟩
    · rw [Mem.get_set_ne _ (by omega)]; exact hx.get j hj
    · intro j hj
      by_cases e : j = bk
      · subst e; exact Mem.get_set_same _ _ _
      · rw [Mem.get_set_ne _ e]; exact x4.top (x1.top hs.top) j hj
    · intro j hj
      by_cases e : j = bk
      · subst e; exact Mem.get_set_same _ _ _
      · rw [Mem.get_set_ne _ e]; exact x4.top (x1.top hs.top) j hj
    · have := x1.size
      rw [Mem.get_set_ne _ (by simp; omega), Mem.get_push_same, take_succ hg, rowsC_snoc]
    · have := x1.size; simp; omega
theorem rows_loop (hm : m.get b = .cells own (rowsC l ++ rest)) (hb : b < m.size) (hlen : l.length ≤ 100000) (k : Nat) (hk : 1 ≤ k) : ∀ (d i : Nat) (kv : Value) (M : Mem) (x : Nat → Value) (j : Nat), l.length = i + d → d + 1 ≤ j → RwSt m l i kv M →
    ∃ kv' M' X, loopD (codeD Try.prog kp 0 (callN Try.prog kp 0 oA k) (drawD Try.prog kp 0 (callN Try.prog kp 0 oA k) 20) 20 k (loopN Try.f8 0)) j (fullN 20 (up x [(0, .slice (some ⟨b, 0, sp⟩) l.length cap), (2, .slice none 0 0), (3, kv), (4, .int .i64 (i : Int))])) M = some (.exit 0, (fullN 20 (up X [(0, .slice (some ⟨b, 0, sp⟩) l.length cap), (2, .slice none 0 0), (3, kv'), (4, .int .i64 (l.length : Int))])), M') ∧ RwSt m l l.length kv' M'
  | 0, i, kv, M, x, j, hi, hj, hs => by
    obtain ⟨j, rfl⟩ : ∃ j', j = j' + 1 := ⟨j - 1, by omega⟩
    obtain rfl : i = l.length := by omega
    have hT := Y.callN_typed Try.prog kp 0 oA k
    have hb0 := (Y.step_eq Try.prog kp 0 hT 20 k (loopN Try.f8 0) (fullN 20 (up x [(0, .slice (some ⟨b, 0, sp⟩) l.length cap), (2, .slice none 0 0), (3, kv), (4, .int .i64 (l.length : Int))])) M).trans ((mark_eq 5 Try.prog kp 0 _ _ 20 k (loopN Try.f8 0) (by kernel_rfl) _ M _).trans (t_jr (L := onceL) ..))
    rw [ge_len (Nat.lt_irrefl _)] at hb0
    exact ⟨kv, M, _, loopD_stop j hb0 (by simp), hs⟩
  | d + 1, i, kv, M, x, j, hi, hj, hs => by
    obtain ⟨j, rfl⟩ : ∃ j', j = j' + 1 := ⟨j - 1, by omega⟩
    obtain ⟨kv1, M1, X1, hb1, hs1⟩ := rows_turn (sp := sp) (cap := cap) hm hb hlen hs (by omega) k hk x
    obtain ⟨kv2, M2, X2, hb2, hs2⟩ := rows_loop hm hb hlen k hk d (i + 1) kv1 M1 X1 j (by omega) (by omega) hs1
    exact ⟨kv2, M2, X2, (loopD_next j hb1).trans hb2, hs2⟩
def OwnRows (m : Mem) (l : List RowT) (v : Value) (M : Mem) : Prop := Ext m M ∧ M.top ∧ ((l = [] ∧ v = .slice none 0 0) ∨ ∃ bk, v = .slice (some ⟨bk, 0, some 43⟩) l.length l.length ∧ M.get bk = .cells true (rowsC l) ∧ bk < M.size ∧ m.size ≤ bk ∧ l ≠ [])
theorem filt_s {a : Option Addr} {n c : Nat} (m : Mem) (h : okR Try.prog 8 (.slice a n c) = true) : filtR Try.prog 8 (some (.slice a n c, m)) = some (.slice a n c, m) := by simp only [filtR, h, cond_true]
theorem rows_run (ht : m.top) (hm : m.get b = .cells own (rowsC l ++ rest)) (hb : b < m.size) (hlen : l.length ≤ 100000) (k : Nat) (hk : l.length + 3 ≤ k) : ∃ v M, callN Try.prog kp 0 oA k 8 [.slice (some ⟨b, 0, sp⟩) l.length cap] m = some (v, M) ∧ OwnRows m l v M := by
  obtain ⟨k, rfl⟩ : ∃ k', k = k' + 1 := ⟨k - 1, by omega⟩
  have hB := (Y.body_eq (k := k) (Y.callN_typed Try.prog kp 0 oA k) (c := bodyOf Try.f8) (fn := Try.f8) 20 Try.func8 (by kernel_rfl) [.slice (some ⟨b, 0, sp⟩) l.length cap] (by kernel_rfl) m).trans (t_jr_in ..)
  rw [Y.lpOf_eq, Y.loopC_body] at hB
  have s0 : RwSt m l 0 (.slice none 0 0) m := ⟨Ext.refl m, ht, .inl ⟨rfl, rfl⟩⟩
  obtain ⟨kv, M, X, hA, sA⟩ := rows_loop (sp := sp) (cap := cap) hm hb hlen k (by omega) l.length 0 (.slice none 0 0) m _ k (by omega) (by omega) s0
  have hB := hB.trans ((congrArg (fun z => Y.onE z _) hA).trans ((Y.onE_some ..).trans (t_jr_o ..)))
  refine ⟨kv, M, ?_, sA.ext, sA.top, ?_⟩
  · simp only [callN, oA_none 8 (by decide)]
    refine (congrArg (filtR Try.prog _) hB).trans ?_
    rcases sA.kept with ⟨_, rfl⟩ | ⟨bk, rfl, _⟩
    · exact filt_s _ (by kernel_rfl)
    · exact filt_s _ (by kernel_rfl)
  · rcases sA.kept with ⟨h0, rfl⟩ | ⟨bk, rfl, h1, h2, h3, h4⟩
    · exact .inl ⟨List.eq_nil_of_length_eq_zero h0, rfl⟩
    · exact .inr ⟨bk, rfl, by rw [h1, List.take_length], h2, h3, fun e => by rw [e] at h4; simp at h4⟩
theorem rows_run0 (ht : m.top) (k : Nat) (hk : 3 ≤ k) : callN Try.prog kp 0 oA k 8 [.slice none 0 0] m = some (.slice none 0 0, m) := by
  obtain ⟨k, rfl⟩ : ∃ k', k = k' + 1 := ⟨k - 1, by omega⟩
  obtain ⟨j, hj⟩ : ∃ j, k = j + 1 := ⟨k - 1, by omega⟩
  have hT := Y.callN_typed Try.prog kp 0 oA k
  have hB := (Y.body_eq (k := k) hT (c := bodyOf Try.f8) (fn := Try.f8) 20 Try.func8 (by kernel_rfl) [.slice none 0 0] (by kernel_rfl) m).trans (t_jr_in ..)
  rw [Y.lpOf_eq, Y.loopC_body] at hB
  have hA : ∀ x, ∃ X, loopD (codeD Try.prog kp 0 (callN Try.prog kp 0 oA k) (drawD Try.prog kp 0 (callN Try.prog kp 0 oA k) 20) 20 k (loopN Try.f8 0)) k (fullN 20 (up x [(0, .slice none 0 0), (2, .slice none 0 0), (3, .slice none 0 0), (4, .int .i64 0)])) m = some (.exit 0, fullN 20 (up X [(0, .slice none 0 0), (2, .slice none 0 0), (3, .slice none 0 0), (4, .int .i64 0)]), m) := fun x => by
    have hb := (Y.step_eq Try.prog kp 0 hT 20 k (loopN Try.f8 0) _ m).trans (t_jr_nil (x := x) (i := 0) (v3 := .slice none 0 0) ..)
    rw [ltF_f (show ¬ (0 : Int) < 0 by omega)] at hb
    have hb2 := loopD_stop j hb (by simp)
    rw [← hj] at hb2
    exact ⟨_, hb2⟩
  obtain ⟨X, hA⟩ := hA _
  have hB := hB.trans ((congrArg (fun z => Y.onE z _) hA).trans ((Y.onE_some ..).trans (t_jr_o ..)))
  simp only [callN, oA_none 8 (by decide)]
  exact (congrArg (filtR Try.prog _) hB).trans (filt_s _ (by kernel_rfl))
end
end
end Go.Proofs.Ytfpbiojnbffkpaa
namespace Go.Proofs.Ytfpbiojnbffkpaa
open Go Go.DI Go.Proofs Go.Jud
noncomputable section
theorem ite_nn {p : Prop} {hp : Decidable p} {a b : Int} (ha : 0 ≤ a) (hb : 0 ≤ b) : 0 ≤ if p then a else b := by
  split
  · exact ha
  · exact hb
theorem sureR_nn (K : List RowT) (r : RowT) : 0 ≤ sureR K r := by
  unfold sureR
  split
  · decide
  · exact ite_nn (by decide) (by decide)
theorem toldR_nn (K : List RowT) (r : RowT) : 0 ≤ toldR K r := by
  unfold toldR
  exact ite_nn (by decide) (ite_nn (by decide) (ite_nn (by decide) (by decide)))
theorem swappedR_nn (n : Int) (K : List RowT) (r : RowT) : 0 ≤ swappedR n K r := by
  unfold swappedR
  exact ite_nn (by decide) (ite_nn (by decide) (ite_nn (by decide) (ite_nn (ite_nn (by decide) (by decide)) (ite_nn (by decide) (ite_nn (by decide) (by decide))))))
theorem wrongR_pos (n : Int) (K : List RowT) (r : RowT) : wrongR n K r = 0 ∨ 0 < wrongR n K r := by
  have h : 0 ≤ wrongR n K r := by
    unfold wrongR
    exact ite_nn (by decide) (ite_nn (by decide) (ite_nn (ite_nn (by decide) (by decide)) (ite_nn (sureR_nn K r) (ite_nn (swappedR_nn n K r) (ite_nn (ite_nn (by decide) (ite_nn (by decide) (by decide))) (ite_nn (toldR_nn K r) (ite_nn (ite_nn (by decide) (ite_nn (by decide) (by decide))) (by decide))))))))
  omega
def chkR (n : Int) (K : List RowT) : List RowT → Int × Int
  | [] => (0, 0)
  | r :: t => if wrongR n K r = 0 then chkR n (K ++ [r]) t else ((K.length : Int), wrongR n K r)
def tripV (a b c : Int) : Value := .tuple ⟨[.int .i64 a, .int .i64 b, .int .i64 c]⟩
theorem store_row (m : Mem) (r : RowT) (z : List Value) (hz : z.length = 43) : storeD Try.prog (m.push (.cells true z)) 34 (.agg ⟨rowR r⟩) (.pointer (some ⟨m.size, 0, none⟩)) = some ((m.push (.cells true z)).set m.size (.cells true (rowR r))) := by
  unfold storeD
  rw [sz34]
  have hl : (Value.agg ⟨rowR r⟩).cells.toList = rowR r := rfl
  simp only [hl, rowR_len, if_true]
  unfold storeC
  rw [Mem.get_push_same]
  simp only [rowR_len, hz]
  rw [if_pos (by omega), row_one, if_pos rfl]
  unfold splice
  rw [List.take_zero, rowR_len, List.drop_of_length_le (by omega), List.append_nil, List.nil_append]
def zrow : List Value := [.int .i64 0, .int .i64 0, .int .i64 0, .int .i64 0, .int .i64 0, .int .i64 0, .int .i64 0, .int .i64 0, .int .i64 0, .bool false, .int .u8 0, .int .u8 0, .int .u8 0, .int .u8 0, .int .u8 0, .int .u8 0, .int .u8 0, .int .u8 0, .int .u8 0, .int .u8 0, .int .u8 0, .int .u8 0, .int .u8 0, .int .u8 0, .int .u8 0, .int .u8 0, .int .u8 0, .int .u8 0, .int .u8 0, .int .u8 0, .int .u8 0, .int .u8 0, .int .u8 0, .int .u8 0, .int .u8 0, .int .u8 0, .int .u8 0, .int .u8 0, .int .u8 0, .int .u8 0, .int .u8 0, .int .u8 0, .int .u64 0]
set_option maxHeartbeats 4000000 in
theorem t_jcQ {α : Type} (x : Nat → Value) (cf : Y.CF α) (v0 v1 v9 v10 v11 : Value) (jb : Nat) (v20 v21 v22 v24 row : Value) (m : Mem) (q : Tmps → Mem → Option α) : Y.opsF (List.drop 3 r6) Try.prog kp 0 (Y.cfT Try.prog cf) 35 r6 (fullN 35 (up x [(0, v0), (1, v1), (4, .int .i64 0), (5, .int .i64 0), (6, .int .i64 0), (7, .pointer (some ⟨jb, 0, none⟩)), (9, v9), (10, v10), (11, v11), (20, v20), (21, v21), (22, v22), (24, v24), (26, row)])) m q =
  Y.storeF Try.prog (m.push (.cells true zrow)) 34 row (.pointer (some ⟨m.size, 0, none⟩)) fun m' => q (fullN 35 (up (up x [(24, v24), (26, row)]) [(0, v0), (1, v1), (4, .int .i64 0), (5, .int .i64 0), (6, .int .i64 0), (7, .pointer (some ⟨jb, 0, none⟩)), (9, v24), (10, .pointer (some ⟨m.size, 0, none⟩)), (11, v11), (20, v20), (21, v21), (22, v22)])) m' := by kernel_rfl
theorem r6_eq {α : Type} (cf : Y.CF α) (L : Y.LK α) (k : Nat) (t : Tmps) (m : Mem) (q : Y.ExK α) : Y.codeF (Y.loopC jcX 0) Try.prog kp 0 (Y.cfT Try.prog cf) L 35 k t m q = Y.opsF r6 Try.prog kp 0 (Y.cfT Try.prog cf) 35 r6 t m fun t m => q .normal t m := rfl
theorem kont9 {α : Type} (cf : Y.CF α) (L : Y.LK α) (k : Nat) (t : Tmps) (m : Mem) (q : Value → Mem → Option α) : Y.kont Try.prog kp 0 (Y.cfT Try.prog cf) L 35 k (bodyOf Try.f9) 0 (Y.retF Try.prog Try.f9 q) .ret t m = Y.retF Try.prog Try.f9 q .ret t m := by kernel_rfl
theorem kont10 {α : Type} (cf : Y.CF α) (L : Y.LK α) (k : Nat) (t : Tmps) (m : Mem) (q : Value → Mem → Option α) : Y.kont Try.prog kp 0 (Y.cfT Try.prog cf) L 34 k (bodyOf Try.f10) 0 (Y.retF Try.prog Try.f10 q) .ret t m = Y.retF Try.prog Try.f10 q .ret t m := by kernel_rfl
structure CkSt (m : Mem) (n : Int) (jb i : Nat) (l : List RowT) (S : JS) (ρ : Nat → Nat) (M : Mem) : Prop where
  st : JSt n jb i (l.take i) S ρ M
  size : m.size ≤ M.size
  get : ∀ j, j < m.size → M.get j = m.get j ∧ Out S ρ j
theorem JSt.same {n : Int} {jb i : Nat} {K : List RowT} {S : JS} {ρ : Nat → Nat} {M M' : Mem} (h : JSt n jb i K S ρ M) (g : ∀ j, j < M.size → M'.get j = M.get j) (hs : M.size ≤ M'.size) (ht : M'.top) : JSt n jb i K S ρ M' :=
  ⟨h.holds.same (fun i hi => g _ (h.holds.lt i hi)) hs, h.jb0, ht, h.inv, h.log⟩
section
variable {n : Int} {b jb i : Nat} {own : Bool} {sp : Option Nat} {cap : Nat} {l : List RowT} {rest : List Value} {S : JS} {ρ : Nat → Nat} {m M : Mem}
set_option maxHeartbeats 4000000 in
theorem chk_turn (h1 : 1 ≤ n) (h4 : n ≤ 4) (hm : m.get b = .cells own (rowsC l ++ rest)) (hb : b < m.size) (hlen : l.length ≤ 100000) (hr : ∀ r ∈ l, Rng r) (hs : CkSt m n jb i l S ρ M) (hlt : i < l.length) (k : Nat) (hk : 1 ≤ k) (x : Nat → Value) (v0 v1 v9 v10 v11 : Value) :
    (wrongR n (l.take i) l[i] ≠ 0 ∧ ∃ M' X w0 w1 w7 w9 w10 w11 w20 w21 w22, codeD Try.prog kp 0 (callN Try.prog kp 0 oA k) (drawD Try.prog kp 0 (callN Try.prog kp 0 oA k) 35) 35 k (loopN Try.f9 0) (fullN 35 (up x [(0, v0), (1, v1), (4, .int .i64 0), (5, .int .i64 0), (6, .int .i64 0), (7, .pointer (some ⟨jb, 0, none⟩)), (9, v9), (10, v10), (11, v11), (20, .slice (some ⟨b, 0, sp⟩) l.length cap), (21, .int .i64 (Int.ofNat l.length)), (22, .int .i64 (i : Int))])) M = some (.ret, (fullN 35 (up X [(0, w0), (1, w1), (4, .int .i64 (i : Int)), (5, .int .i64 (wrongR n (l.take i) l[i])), (6, .int .i64 0), (7, w7), (9, w9), (10, w10), (11, w11), (20, w20), (21, w21), (22, w22)])), M') ∧ Ext m M' ∧ M'.top) ∨
    (wrongR n (l.take i) l[i] = 0 ∧ ∃ S' ρ' M' X v9' v10' v11', codeD Try.prog kp 0 (callN Try.prog kp 0 oA k) (drawD Try.prog kp 0 (callN Try.prog kp 0 oA k) 35) 35 k (loopN Try.f9 0) (fullN 35 (up x [(0, v0), (1, v1), (4, .int .i64 0), (5, .int .i64 0), (6, .int .i64 0), (7, .pointer (some ⟨jb, 0, none⟩)), (9, v9), (10, v10), (11, v11), (20, .slice (some ⟨b, 0, sp⟩) l.length cap), (21, .int .i64 (Int.ofNat l.length)), (22, .int .i64 (i : Int))])) M = some (.normal, (fullN 35 (up X [(0, v0), (1, v1), (4, .int .i64 0), (5, .int .i64 0), (6, .int .i64 0), (7, .pointer (some ⟨jb, 0, none⟩)), (9, v9'), (10, v10'), (11, v11'), (20, .slice (some ⟨b, 0, sp⟩) l.length cap), (21, .int .i64 (Int.ofNat l.length)), (22, .int .i64 ((i + 1 : Nat) : Int))])), M') ∧ CkSt m n jb (i + 1) l S' ρ' M') := by
  have hT := Y.callN_typed Try.prog kp 0 oA k
  have hg : l[i]? = some l[i] := List.getElem?_eq_getElem hlt
  generalize hre : l[i] = r at hg
  have hrr : Rng r := hr r (by rw [← hre]; exact List.getElem_mem _)
  have hMb : M.get b = .cells own (rowsC l ++ rest) := (hs.get b hb).1.trans hm
  have hsz := hs.size
  have hz : zrow.length = 43 := rfl
  generalize hM1 : (M.push (.cells true zrow)).set M.size (.cells true (rowR r)) = M1
  have g1 : ∀ j, j < M.size → M1.get j = M.get j := fun j hj => by rw [← hM1, Mem.get_set_ne _ (by omega), Mem.get_push_ne _ (by omega)]
  have s1 : M1.size = M.size + 1 := by rw [← hM1]; rfl
  have t1 : M1.top := fun j hj => by
    rw [← hM1, Mem.get_set_ne _ (by omega), Mem.get_push_ne _ (by omega)]; exact hs.st.top j (by omega)
  have z1 : M1.get M.size = .cells true (rowR r) := by rw [← hM1]; exact Mem.get_set_same _ _ _
  obtain ⟨M2, S', ρ', c2, s2, z2, f2⟩ := add_run (hs.st.same g1 (by omega) t1) h1 h4 hrr (by omega) k hk
  have hext : Ext m M2 := ⟨by omega, fun j hj => by rw [(f2 j (by omega) (hs.get j hj).2).1, g1 j (by omega)]; exact (hs.get j hj).1, fun _ => s2.top⟩
  have hb0 := (Y.step_eq Try.prog kp 0 hT 35 k (loopN Try.f9 0) (fullN 35 (up x [(0, v0), (1, v1), (4, .int .i64 0), (5, .int .i64 0), (6, .int .i64 0), (7, .pointer (some ⟨jb, 0, none⟩)), (9, v9), (10, v10), (11, v11), (20, .slice (some ⟨b, 0, sp⟩) l.length cap), (21, .int .i64 (Int.ofNat l.length)), (22, .int .i64 (i : Int))])) M).trans ((mark_eq 6 Try.prog kp 0 _ _ 35 k (loopN Try.f9 0) (by kernel_rfl) _ M _).trans (t_jc (L := onceL) ..))
  rw [lt_len hlt] at hb0
  simp only [cond_true] at hb0
  rw [once_eq, r6_eq, opsF_cut 3, t_jcP] at hb0
  simp only [cond_true, onNat_c, blt_t hlt, hMb, cells_c, rows_ble hlt, rows_sub hg] at hb0
  rw [t_jcQ, Y.storeF_eq, store_row M r zrow hz, hM1] at hb0
  simp only [Y.ob_some] at hb0
  rw [t_jcK] at hb0
  simp only [z1, cells_c, row_len43, row_all, cond_true, cfOf_at, c2, onV, asInt_i, kEq_ii] at hb0
  rcases wrongR_pos n (l.take i) r with hw | hw
  · right
    rw [hw, ltF_f (show ¬ (0 : Int) < 0 by omega)] at hb0
    simp only [cond_false, wrap_succ (show i ≤ 1000000 by omega)] at hb0
    have ht : takeR n (l.take i) r = l.take (i + 1) := by unfold takeR; rw [if_pos hw, take_succ hg]
    rw [ht] at s2
    exact ⟨hw, S', ρ', M2, _, _, _, _, hb0, s2, hext.size, fun j hj => ⟨hext.get j hj, (f2 j (by omega) (hs.get j hj).2).2⟩⟩
  · left
    rw [ltF_t hw] at hb0
    simp only [cond_true] at hb0
    exact ⟨by omega, M2, _, _, _, _, _, _, _, _, _, _, hb0, hext, s2.top⟩
theorem chk_loop (h1 : 1 ≤ n) (h4 : n ≤ 4) (hm : m.get b = .cells own (rowsC l ++ rest)) (hb : b < m.size) (hlen : l.length ≤ 100000) (hr : ∀ r ∈ l, Rng r) (k : Nat) (hk : 1 ≤ k) (v0 v1 : Value) : ∀ (d i : Nat) (S : JS) (ρ : Nat → Nat) (M : Mem) (x : Nat → Value) (v9 v10 v11 : Value) (j : Nat), l.length = i + d → d + 1 ≤ j → CkSt m n jb i l S ρ M →
    ∃ M' t' e, loopD (codeD Try.prog kp 0 (callN Try.prog kp 0 oA k) (drawD Try.prog kp 0 (callN Try.prog kp 0 oA k) 35) 35 k (loopN Try.f9 0)) j (fullN 35 (up x [(0, v0), (1, v1), (4, .int .i64 0), (5, .int .i64 0), (6, .int .i64 0), (7, .pointer (some ⟨jb, 0, none⟩)), (9, v9), (10, v10), (11, v11), (20, .slice (some ⟨b, 0, sp⟩) l.length cap), (21, .int .i64 (Int.ofNat l.length)), (22, .int .i64 (i : Int))])) M = some (e, t', M') ∧ Ext m M' ∧ M'.top ∧
      ∀ (q : Value → Mem → Option (Value × Mem)) (cf : Y.CF (Value × Mem)) (L : Y.LK (Value × Mem)), Y.kont Try.prog kp 0 (Y.cfT Try.prog cf) L 35 k (bodyOf Try.f9) 0 (Y.retF Try.prog Try.f9 q) e t' M' = q (tripV (chkR n (l.take i) (l.drop i)).1 (chkR n (l.take i) (l.drop i)).2 0) M'
  | 0, i, S, ρ, M, x, v9, v10, v11, j, hi, hj, hs => by
    obtain ⟨j, rfl⟩ : ∃ j', j = j' + 1 := ⟨j - 1, by omega⟩
    obtain rfl : i = l.length := by omega
    have hT := Y.callN_typed Try.prog kp 0 oA k
    have hb0 := (Y.step_eq Try.prog kp 0 hT 35 k (loopN Try.f9 0) (fullN 35 (up x [(0, v0), (1, v1), (4, .int .i64 0), (5, .int .i64 0), (6, .int .i64 0), (7, .pointer (some ⟨jb, 0, none⟩)), (9, v9), (10, v10), (11, v11), (20, .slice (some ⟨b, 0, sp⟩) l.length cap), (21, .int .i64 (Int.ofNat l.length)), (22, .int .i64 (l.length : Int))])) M).trans ((mark_eq 6 Try.prog kp 0 _ _ 35 k (loopN Try.f9 0) (by kernel_rfl) _ M _).trans (t_jc (L := onceL) ..))
    rw [ge_len (Nat.lt_irrefl _)] at hb0
    simp only [cond_false] at hb0
    have hb1 := loopD_stop (e := .exit 0) (m' := M) j hb0 (by simp)
    refine ⟨M, _, _, hb1, ⟨hs.size, fun j hj => (hs.get j hj).1, fun _ => hs.st.top⟩, hs.st.top, fun q cf L => ?_⟩
    rw [List.drop_length]
    exact t_jc_o ..
  | d + 1, i, S, ρ, M, x, v9, v10, v11, j, hi, hj, hs => by
    obtain ⟨j, rfl⟩ : ∃ j', j = j' + 1 := ⟨j - 1, by omega⟩
    have hlt : i < l.length := by omega
    have hg : l[i]? = some l[i] := List.getElem?_eq_getElem hlt
    rcases chk_turn (sp := sp) (cap := cap) h1 h4 hm hb hlen hr hs hlt k hk x v0 v1 v9 v10 v11 with ⟨hw, M1, X, w0, w1, w7, w9, w10, w11, w20, w21, w22, hb1, he, ht⟩ | ⟨hw, S1, ρ1, M1, X, u9, u10, u11, hb1, hs1⟩
    · refine ⟨M1, _, _, loopD_stop j hb1 (by simp), he, ht, fun q cf L => ?_⟩
      rw [drop_at hg]
      simp only [chkR, if_neg hw, List.length_take, Nat.min_eq_left (Nat.le_of_lt hlt)]
      rw [kont9]
      exact t_jc_r X (.int .i64 (i : Int)) (.int .i64 (wrongR n (l.take i) l[i])) (.int .i64 0) w0 w1 w7 w9 w10 w11 w20 w21 w22 M1 q
    · obtain ⟨M2, t2, e2, hb2, he2, ht2, hq2⟩ := chk_loop h1 h4 hm hb hlen hr k hk v0 v1 d (i + 1) S1 ρ1 M1 X u9 u10 u11 j (by omega) (by omega) hs1
      refine ⟨M2, t2, e2, (loopD_next j hb1).trans hb2, he2, ht2, fun q cf L => ?_⟩
      rw [hq2 q cf L, drop_at hg, take_succ hg]
      simp only [chkR, if_pos hw]
theorem filt_t (f : FuncId) (a b c : Int) (m : Mem) (h : okR Try.prog f (tripV a b c) = true) : filtR Try.prog f (some (tripV a b c, m)) = some (tripV a b c, m) := by simp only [filtR, h, cond_true]
theorem new_call (k : Nat) (hk : 1 ≤ k) (n : Int) (m : Mem) : callN Try.prog kp 0 oA k 12 [.int .i64 n] m = cond (Y.ltF n 1) (some (nilV, m)) (cond (Y.ltF 4 n) (some (nilV, m)) (some (newV m, newM m n))) := new_run oA k hk (fun a m => oA_none 12 (by decide) a m) n m
def chkV (n : Int) (l : List RowT) : Value := if 1 ≤ n ∧ n ≤ 4 then tripV (chkR n [] l).1 (chkR n [] l).2 0 else tripV 0 0 1
theorem chkV_in {n : Int} {l : List RowT} (h : 1 ≤ n ∧ n ≤ 4) : chkV n l = tripV (chkR n [] l).1 (chkR n [] l).2 0 := if_pos h
theorem chkV_out {n : Int} {l : List RowT} (h : ¬ (1 ≤ n ∧ n ≤ 4)) : chkV n l = tripV 0 0 1 := if_neg h
theorem unc_cons {α : Type} (a : Value) (l : List Value) (q : Value → List Value → Option α) (d : Option α) : Y.unc (a :: l) q d = q a l := rfl
theorem unc_nil {α : Type} (q : Value → List Value → Option α) (d : Option α) : Y.unc [] q d = d := rfl
theorem asTup_t {α : Type} (a : Array Value) (q : Array Value → Option α) : Y.asTup (.tuple a) q = q a := rfl
theorem asTup_new {α : Type} (m : Mem) (q : Array Value → Option α) : Y.asTup (newV m) q = q ⟨[.pointer (some ⟨m.size + 7, 0, none⟩), .int .i64 0]⟩ := rfl
theorem asTup_nilV {α : Type} (q : Array Value → Option α) : Y.asTup nilV q = q ⟨[.pointer none, .int .i64 1]⟩ := rfl
set_option maxHeartbeats 4000000 in
theorem chk_run (ht : m.top) (hm : m.get b = .cells own (rowsC l ++ rest)) (hb : b < m.size) (hlen : l.length ≤ 100000) (hr : ∀ r ∈ l, Rng r) (n : Int) (k : Nat) (hk : l.length + 3 ≤ k) :
    ∃ M, callN Try.prog kp 0 oA k 9 [.int .i64 n, .slice (some ⟨b, 0, sp⟩) l.length cap] m = some (chkV n l, M) ∧ Ext m M ∧ M.top := by
  obtain ⟨k, rfl⟩ : ∃ k', k = k' + 1 := ⟨k - 1, by omega⟩
  have hB := (Y.body_eq (k := k) (Y.callN_typed Try.prog kp 0 oA k) (c := bodyOf Try.f9) (fn := Try.f9) 35 Try.func9 (by kernel_rfl) [.int .i64 n, .slice (some ⟨b, 0, sp⟩) l.length cap] (by kernel_rfl) m).trans (t_jc_in ..)
  suffices hh : ∃ M, bodyN Try.prog kp 0 (callN Try.prog kp 0 oA k) k 9 [.int .i64 n, .slice (some ⟨b, 0, sp⟩) l.length cap] m = some (chkV n l, M) ∧ Ext m M ∧ M.top by
    obtain ⟨M, h, e, t⟩ := hh
    refine ⟨M, ?_, e, t⟩
    simp only [callN, oA_none 9 (by decide)]
    refine (congrArg (filtR Try.prog _) h).trans ?_
    unfold chkV
    split
    · exact filt_t 9 _ _ _ _ (by kernel_rfl)
    · exact filt_t 9 _ _ _ _ (by kernel_rfl)
  by_cases g1 : n < 1
  · have c0 := new_call k (by omega) n m
    rw [ltF_t g1] at c0
    simp only [cond_true] at c0
    simp only [cfOf_at, c0, onV, asTup_nilV, unc_cons, unc_nil, asInt_i, kEq_ii, cond_true, eqF_f (show ¬ (1 : Int) = 0 by omega), cond_false] at hB
    exact ⟨m, by rw [chkV_out (by omega)]; exact hB, Ext.refl m, ht⟩
  by_cases g4 : 4 < n
  · have c0 := new_call k (by omega) n m
    rw [ltF_f g1, ltF_t g4] at c0
    simp only [cond_true, cond_false] at c0
    simp only [cfOf_at, c0, onV, asTup_nilV, unc_cons, unc_nil, asInt_i, kEq_ii, cond_true, eqF_f (show ¬ (1 : Int) = 0 by omega), cond_false] at hB
    exact ⟨m, by rw [chkV_out (by omega)]; exact hB, Ext.refl m, ht⟩
  have c0 := new_call k (by omega) n m
  rw [ltF_f g1, ltF_f g4] at c0
  simp only [cond_false] at c0
  simp only [cfOf_at, c0, onV, asTup_new, unc_cons, unc_nil, asInt_i, kEq_ii, cond_true, eqF_t (rfl : (0 : Int) = 0), cond_false] at hB
  rw [Y.lpOf_eq, Y.loopC_body] at hB
  have xN := newM_ext m n
  have s0 : CkSt m n (m.size + 7) 0 l (JS.new n) (rhoN m.size) (newM m n) := ⟨new_st (by omega) (by omega) ht, xN.size, fun j hj => ⟨xN.get j hj, new_out n m hj⟩⟩
  obtain ⟨M, t', e, hA, hE, hTp, hq⟩ := chk_loop (sp := sp) (cap := cap) (by omega) (by omega) hm hb hlen hr k (by omega) (.int .i64 n) (.slice (some ⟨b, 0, sp⟩) l.length cap) l.length 0 (JS.new n) (rhoN m.size) (newM m n) _ (.tuple ⟨[]⟩) (.tuple ⟨[]⟩) (.tuple ⟨[]⟩) k (by omega) (by omega) s0
  have hB := hB.trans ((congrArg (fun z => Y.onE z _) hA).trans ((Y.onE_some ..).trans (hq _ _ _)))
  rw [List.take_zero, List.drop_zero] at hB
  exact ⟨M, by rw [chkV_in (by omega)]; exact hB, hE, hTp⟩
set_option maxHeartbeats 4000000 in
theorem chk_run0 (ht : m.top) (n : Int) (k : Nat) (hk : 3 ≤ k) : ∃ M, callN Try.prog kp 0 oA k 9 [.int .i64 n, .slice none 0 0] m = some (chkV n [], M) ∧ Ext m M ∧ M.top := by
  obtain ⟨k, rfl⟩ : ∃ k', k = k' + 1 := ⟨k - 1, by omega⟩
  obtain ⟨j, hj⟩ : ∃ j, k = j + 1 := ⟨k - 1, by omega⟩
  have hT := Y.callN_typed Try.prog kp 0 oA k
  have hB := (Y.body_eq (k := k) hT (c := bodyOf Try.f9) (fn := Try.f9) 35 Try.func9 (by kernel_rfl) [.int .i64 n, .slice none 0 0] (by kernel_rfl) m).trans (t_jc_in0 ..)
  suffices hh : ∃ M, bodyN Try.prog kp 0 (callN Try.prog kp 0 oA k) k 9 [.int .i64 n, .slice none 0 0] m = some (chkV n [], M) ∧ Ext m M ∧ M.top by
    obtain ⟨M, h, e, t⟩ := hh
    refine ⟨M, ?_, e, t⟩
    simp only [callN, oA_none 9 (by decide)]
    refine (congrArg (filtR Try.prog _) h).trans ?_
    unfold chkV
    split
    · exact filt_t 9 _ _ _ _ (by kernel_rfl)
    · exact filt_t 9 _ _ _ _ (by kernel_rfl)
  by_cases g1 : n < 1
  · have c0 := new_call k (by omega) n m
    rw [ltF_t g1] at c0
    simp only [cond_true] at c0
    simp only [cfOf_at, c0, onV, asTup_nilV, unc_cons, unc_nil, asInt_i, kEq_ii, cond_true, eqF_f (show ¬ (1 : Int) = 0 by omega), cond_false] at hB
    exact ⟨m, by rw [chkV_out (by omega)]; exact hB, Ext.refl m, ht⟩
  by_cases g4 : 4 < n
  · have c0 := new_call k (by omega) n m
    rw [ltF_f g1, ltF_t g4] at c0
    simp only [cond_true, cond_false] at c0
    simp only [cfOf_at, c0, onV, asTup_nilV, unc_cons, unc_nil, asInt_i, kEq_ii, cond_true, eqF_f (show ¬ (1 : Int) = 0 by omega), cond_false] at hB
    exact ⟨m, by rw [chkV_out (by omega)]; exact hB, Ext.refl m, ht⟩
  have c0 := new_call k (by omega) n m
  rw [ltF_f g1, ltF_f g4] at c0
  simp only [cond_false] at c0
  simp only [cfOf_at, c0, onV, asTup_new, unc_cons, unc_nil, asInt_i, kEq_ii, cond_true, eqF_t (rfl : (0 : Int) = 0), cond_false] at hB
  rw [Y.lpOf_eq, Y.loopC_body] at hB
  have xN := newM_ext m n
  have hA : ∀ x v7, ∃ X w7, loopD (codeD Try.prog kp 0 (callN Try.prog kp 0 oA k) (drawD Try.prog kp 0 (callN Try.prog kp 0 oA k) 35) 35 k (loopN Try.f9 0)) k (fullN 35 (up x [(0, .int .i64 n), (1, .slice none 0 0), (4, .int .i64 0), (5, .int .i64 0), (6, .int .i64 0), (7, .pointer (some ⟨v7, 0, none⟩)), (9, .tuple ⟨[]⟩), (10, .tuple ⟨[]⟩), (11, .tuple ⟨[]⟩), (20, .slice none 0 0), (21, .int .i64 0), (22, .int .i64 0)])) (newM m n) = some (.exit 0, fullN 35 (up X [(0, .int .i64 n), (1, .slice none 0 0), (4, .int .i64 0), (5, .int .i64 0), (6, .int .i64 0), (7, .pointer (some ⟨w7, 0, none⟩)), (9, .tuple ⟨[]⟩), (10, .tuple ⟨[]⟩), (11, .tuple ⟨[]⟩), (20, .slice none 0 0), (21, .int .i64 0), (22, .int .i64 0)]), newM m n) := fun x v7 => by
    have hb := (Y.step_eq Try.prog kp 0 hT 35 k (loopN Try.f9 0) _ (newM m n)).trans (t_jc_nil (x := x) (i := 0) (v0 := .int .i64 n) (v1 := .slice none 0 0) (v9 := .tuple ⟨[]⟩) (v10 := .tuple ⟨[]⟩) (v11 := .tuple ⟨[]⟩) (jb := v7) ..)
    rw [ltF_f (show ¬ (0 : Int) < 0 by omega)] at hb
    have hb2 := loopD_stop j hb (by simp)
    rw [← hj] at hb2
    exact ⟨_, v7, hb2⟩
  obtain ⟨X, w7, hA⟩ := hA _ _
  have hB := hB.trans ((congrArg (fun z => Y.onE z _) hA).trans ((Y.onE_some ..).trans (t_jc_o ..)))
  exact ⟨_, by rw [chkV_in (by omega)]; exact hB, xN, xN.top ht⟩
end
end
end Go.Proofs.Ytfpbiojnbffkpaa
namespace Go.Proofs.Ytfpbiojnbffkpaa
open Go Go.DI Go.Proofs Go.Jud
noncomputable section
theorem und22' : Try.prog.underlying 22 = some (.slice 37) := by kernel_rfl
theorem sz37' : szOf Try.prog 37 = some 43 := by kernel_rfl
theorem slice_to (b len cap i : Nat) (h : i ≤ cap) : Go.DI.sliceD Try.prog 22 (Value.slice (some (Addr.mk b 0 none)) len cap) none (some (Value.int .i64 (i : Int))) none = some (.slice (some ⟨b, 0, none⟩) i cap) := by
  unfold sliceD
  rw [und22']
  simp only [sz37']
  have hb : boundsD len cap none (some (Value.int .i64 (i : Int))) none = some (0, i, cap) := by
    simp [boundsD, boundD, h]
  rw [hb]
  simp
section
variable {n : Int} {b i : Nat} {own : Bool} {cap : Nat} {l : List RowT} {rest : List Value} {m M : Mem}
theorem rows_cut (i : Nat) : rowsC l = rowsC (l.take i) ++ rowsC (l.drop i) := by
  unfold rowsC
  rw [← List.flatMap_append, List.take_append_drop]
set_option maxHeartbeats 4000000 in
theorem ref_turn (h1 : 1 ≤ n) (h4 : n ≤ 4) (hm : m.get b = .cells own (rowsC l ++ rest)) (hf : ∀ x ∈ rest, Free x) (hb : b < m.size) (hlen : l.length ≤ 100000) (hcap : l.length ≤ cap) (hr : ∀ r ∈ l, Rng r) (he : Ext m M) (ht : M.top) (hlt : i < l.length) (k : Nat) (hk : 1 ≤ k) (x : Nat → Value) (v8 : Value) :
    (wrongR n (l.take i) l[i] ≠ 0 ∧ ∃ M' X w1 w7 w8, codeD Try.prog kp 0 (callN Try.prog kp 0 oA k) (drawD Try.prog kp 0 (callN Try.prog kp 0 oA k) 34) 34 k (loopN Try.f10 0) (fullN 34 (up x [(0, .int .i64 n), (1, .slice (some ⟨b, 0, none⟩) l.length cap), (4, .int .i64 0), (5, .int .i64 0), (6, .int .i64 0), (7, .int .i64 (i : Int)), (8, v8)])) M = some (.ret, (fullN 34 (up X [(0, .int .i64 n), (1, w1), (4, .int .i64 (i : Int)), (5, .int .i64 (wrongR n (l.take i) l[i])), (6, .int .i64 0), (7, w7), (8, w8)])), M') ∧ Ext m M' ∧ M'.top) ∨
    (wrongR n (l.take i) l[i] = 0 ∧ ∃ M' X w8, codeD Try.prog kp 0 (callN Try.prog kp 0 oA k) (drawD Try.prog kp 0 (callN Try.prog kp 0 oA k) 34) 34 k (loopN Try.f10 0) (fullN 34 (up x [(0, .int .i64 n), (1, .slice (some ⟨b, 0, none⟩) l.length cap), (4, .int .i64 0), (5, .int .i64 0), (6, .int .i64 0), (7, .int .i64 (i : Int)), (8, v8)])) M = some (.normal, (fullN 34 (up X [(0, .int .i64 n), (1, .slice (some ⟨b, 0, none⟩) l.length cap), (4, .int .i64 0), (5, .int .i64 0), (6, .int .i64 0), (7, .int .i64 ((i + 1 : Nat) : Int)), (8, w8)])), M') ∧ Ext m M' ∧ M'.top) := by
  have hT := Y.callN_typed Try.prog kp 0 oA k
  have hg : l[i]? = some l[i] := List.getElem?_eq_getElem hlt
  generalize hre : l[i] = r at hg
  have hrr : Rng r := hr r (by rw [← hre]; exact List.getElem_mem _)
  have hMb : M.get b = .cells own (rowsC l ++ rest) := (he.get b hb).trans hm
  have hti : (l.take i).length = i := by rw [List.length_take, Nat.min_eq_left (by omega)]
  obtain ⟨d, e3⟩ := oA_wrs (own := own) (sp := none) (cap := cap) (rs := l.take i) (rest := rowsC (l.drop i) ++ rest) ht (fun x hx => (List.mem_append.1 hx).elim (free_rowsC _ x) (hf x)) (Nat.lt_of_lt_of_le hb he.size)
    (by rw [hMb, ← List.append_assoc, ← rows_cut]) (by omega) h1 h4 r hrr
  rw [hti] at e3
  have c3 := callN_o hk e3 (by kernel_rfl)
  have x3 := growM_ext M d
  have hb0 := (Y.step_eq Try.prog kp 0 hT 34 k (loopN Try.f10 0) (fullN 34 (up x [(0, .int .i64 n), (1, .slice (some ⟨b, 0, none⟩) l.length cap), (4, .int .i64 0), (5, .int .i64 0), (6, .int .i64 0), (7, .int .i64 (i : Int)), (8, v8)])) M).trans (t_jk ..)
  rw [lt_len hlt, slice_to b l.length cap i (by omega)] at hb0
  simp only [cond_true, Option.elim, onNat_c, blt_t hlt, hMb, cells_c, rows_ble hlt, rows_sub hg, cfOf_at, c3, onV, asInt_i, kEq_ii] at hb0
  rcases wrongR_pos n (l.take i) r with hw | hw
  · right
    rw [hw, ltF_f (show ¬ (0 : Int) < 0 by omega)] at hb0
    simp only [cond_false, wrap_succ (show i ≤ 1000000 by omega)] at hb0
    exact ⟨hw, _, _, _, hb0, he.trans x3, x3.top ht⟩
  · left
    rw [ltF_t hw] at hb0
    simp only [cond_true] at hb0
    exact ⟨by omega, _, _, _, _, _, hb0, he.trans x3, x3.top ht⟩
theorem ref_loop (h1 : 1 ≤ n) (h4 : n ≤ 4) (hm : m.get b = .cells own (rowsC l ++ rest)) (hf : ∀ x ∈ rest, Free x) (hb : b < m.size) (hlen : l.length ≤ 100000) (hcap : l.length ≤ cap) (hr : ∀ r ∈ l, Rng r) (k : Nat) (hk : 1 ≤ k) : ∀ (d i : Nat) (M : Mem) (x : Nat → Value) (v8 : Value) (j : Nat), l.length = i + d → d + 1 ≤ j → Ext m M → M.top →
    ∃ M' t' e, loopD (codeD Try.prog kp 0 (callN Try.prog kp 0 oA k) (drawD Try.prog kp 0 (callN Try.prog kp 0 oA k) 34) 34 k (loopN Try.f10 0)) j (fullN 34 (up x [(0, .int .i64 n), (1, .slice (some ⟨b, 0, none⟩) l.length cap), (4, .int .i64 0), (5, .int .i64 0), (6, .int .i64 0), (7, .int .i64 (i : Int)), (8, v8)])) M = some (e, t', M') ∧ Ext m M' ∧ M'.top ∧
      ∀ (q : Value → Mem → Option (Value × Mem)) (cf : Y.CF (Value × Mem)) (L : Y.LK (Value × Mem)), Y.kont Try.prog kp 0 (Y.cfT Try.prog cf) L 34 k (bodyOf Try.f10) 0 (Y.retF Try.prog Try.f10 q) e t' M' = q (tripV (chkR n (l.take i) (l.drop i)).1 (chkR n (l.take i) (l.drop i)).2 0) M'
  | 0, i, M, x, v8, j, hi, hj, he, ht => by
    obtain ⟨j, rfl⟩ : ∃ j', j = j' + 1 := ⟨j - 1, by omega⟩
    obtain rfl : i = l.length := by omega
    have hT := Y.callN_typed Try.prog kp 0 oA k
    have hb0 := (Y.step_eq Try.prog kp 0 hT 34 k (loopN Try.f10 0) (fullN 34 (up x [(0, .int .i64 n), (1, .slice (some ⟨b, 0, none⟩) l.length cap), (4, .int .i64 0), (5, .int .i64 0), (6, .int .i64 0), (7, .int .i64 (l.length : Int)), (8, v8)])) M).trans (t_jk ..)
    rw [ge_len (Nat.lt_irrefl _)] at hb0
    simp only [cond_false] at hb0
    have hb1 := loopD_stop (e := .exit 0) (m' := M) j hb0 (by simp)
    refine ⟨M, _, _, hb1, he, ht, fun q cf L => ?_⟩
    rw [List.drop_length]
    exact t_jk_o ..
  | d + 1, i, M, x, v8, j, hi, hj, he, ht => by
    obtain ⟨j, rfl⟩ : ∃ j', j = j' + 1 := ⟨j - 1, by omega⟩
    have hlt : i < l.length := by omega
    have hg : l[i]? = some l[i] := List.getElem?_eq_getElem hlt
    rcases ref_turn h1 h4 hm hf hb hlen hcap hr he ht hlt k hk x v8 with ⟨hw, M1, X, w1, w7, w8, hb1, he1, ht1⟩ | ⟨hw, M1, X, w8, hb1, he1, ht1⟩
    · refine ⟨M1, _, _, loopD_stop j hb1 (by simp), he1, ht1, fun q cf L => ?_⟩
      rw [drop_at hg]
      simp only [chkR, if_neg hw, List.length_take, Nat.min_eq_left (Nat.le_of_lt hlt)]
      rw [kont10]
      exact t_jk_r X n w1 (.int .i64 (i : Int)) (.int .i64 (wrongR n (l.take i) l[i])) (.int .i64 0) w7 w8 M1 q
    · obtain ⟨M2, t2, e2, hb2, he2, ht2, hq2⟩ := ref_loop h1 h4 hm hf hb hlen hcap hr k hk d (i + 1) M1 X w8 j (by omega) (by omega) he1 ht1
      refine ⟨M2, t2, e2, (loopD_next j hb1).trans hb2, he2, ht2, fun q cf L => ?_⟩
      rw [hq2 q cf L, drop_at hg, take_succ hg]
      simp only [chkR, if_pos hw]
set_option maxHeartbeats 4000000 in
theorem ref_run (ht : m.top) (hm : m.get b = .cells own (rowsC l ++ rest)) (hf : ∀ x ∈ rest, Free x) (hb : b < m.size) (hlen : l.length ≤ 100000) (hcap : l.length ≤ cap) (hr : ∀ r ∈ l, Rng r) (n : Int) (k : Nat) (hk : l.length + 3 ≤ k) :
    ∃ M, callN Try.prog kp 0 oA k 10 [.int .i64 n, .slice (some ⟨b, 0, none⟩) l.length cap] m = some (chkV n l, M) ∧ Ext m M ∧ M.top := by
  obtain ⟨k, rfl⟩ : ∃ k', k = k' + 1 := ⟨k - 1, by omega⟩
  have hB := (Y.body_eq (k := k) (Y.callN_typed Try.prog kp 0 oA k) (c := bodyOf Try.f10) (fn := Try.f10) 34 Try.func10 (by kernel_rfl) [.int .i64 n, .slice (some ⟨b, 0, none⟩) l.length cap] (by kernel_rfl) m).trans (t_jk_in ..)
  suffices hh : ∃ M, bodyN Try.prog kp 0 (callN Try.prog kp 0 oA k) k 10 [.int .i64 n, .slice (some ⟨b, 0, none⟩) l.length cap] m = some (chkV n l, M) ∧ Ext m M ∧ M.top by
    obtain ⟨M, h, e, t⟩ := hh
    refine ⟨M, ?_, e, t⟩
    simp only [callN, oA_none 10 (by decide)]
    refine (congrArg (filtR Try.prog _) h).trans ?_
    unfold chkV
    split
    · exact filt_t 10 _ _ _ _ (by kernel_rfl)
    · exact filt_t 10 _ _ _ _ (by kernel_rfl)
  by_cases g1 : n < 1
  · rw [ltF_t g1] at hB
    exact ⟨m, by rw [chkV_out (by omega)]; exact hB, Ext.refl m, ht⟩
  by_cases g4 : 4 < n
  · rw [ltF_f g1, ltF_t g4] at hB
    exact ⟨m, by rw [chkV_out (by omega)]; exact hB, Ext.refl m, ht⟩
  rw [ltF_f g1, ltF_f g4] at hB
  simp only [cond_false] at hB
  rw [Y.lpOf_eq, Y.loopC_body] at hB
  obtain ⟨M, t', e, hA, hE, hTp, hq⟩ := ref_loop (n := n) (by omega) (by omega) hm hf hb hlen hcap hr k (by omega) l.length 0 m _ (.tuple ⟨[]⟩) k (by omega) (by omega) (Ext.refl m) ht
  have hB := hB.trans ((congrArg (fun z => Y.onE z _) hA).trans ((Y.onE_some ..).trans (hq _ _ _)))
  rw [List.take_zero, List.drop_zero] at hB
  exact ⟨M, by rw [chkV_in (by omega)]; exact hB, hE, hTp⟩
theorem ref_run0 (ht : m.top) {v : Value} (hv : v = .slice none 0 0 ∨ ∃ b sp, v = .slice (some ⟨b, 0, some sp⟩) 0 0) (n : Int) (k : Nat) (hk : 3 ≤ k) : callN Try.prog kp 0 oA k 10 [.int .i64 n, v] m = some (chkV n [], m) := by
  obtain ⟨k, rfl⟩ : ∃ k', k = k' + 1 := ⟨k - 1, by omega⟩
  obtain ⟨j, hj⟩ : ∃ j, k = j + 1 := ⟨k - 1, by omega⟩
  have hT := Y.callN_typed Try.prog kp 0 oA k
  have hB := (Y.body_eq (k := k) hT (c := bodyOf Try.f10) (fn := Try.f10) 34 Try.func10 (by kernel_rfl) [.int .i64 n, v] (by kernel_rfl) m).trans (t_jk_in ..)
  suffices hh : bodyN Try.prog kp 0 (callN Try.prog kp 0 oA k) k 10 [.int .i64 n, v] m = some (chkV n [], m) by
    simp only [callN, oA_none 10 (by decide)]
    refine (congrArg (filtR Try.prog _) hh).trans ?_
    unfold chkV
    split
    · exact filt_t 10 _ _ _ _ (by kernel_rfl)
    · exact filt_t 10 _ _ _ _ (by kernel_rfl)
  by_cases g1 : n < 1
  · rw [ltF_t g1] at hB
    rw [chkV_out (by omega)]; exact hB
  by_cases g4 : 4 < n
  · rw [ltF_f g1, ltF_t g4] at hB
    rw [chkV_out (by omega)]; exact hB
  rw [ltF_f g1, ltF_f g4] at hB
  simp only [cond_false] at hB
  rw [Y.lpOf_eq, Y.loopC_body] at hB
  have hA : ∀ x, ∃ X, loopD (codeD Try.prog kp 0 (callN Try.prog kp 0 oA k) (drawD Try.prog kp 0 (callN Try.prog kp 0 oA k) 34) 34 k (loopN Try.f10 0)) k (fullN 34 (up x [(0, .int .i64 n), (1, v), (4, .int .i64 0), (5, .int .i64 0), (6, .int .i64 0), (7, .int .i64 0), (8, .tuple ⟨[]⟩)])) m = some (.exit 0, fullN 34 (up X [(0, .int .i64 n), (1, v), (4, .int .i64 0), (5, .int .i64 0), (6, .int .i64 0), (7, .int .i64 0), (8, .tuple ⟨[]⟩)]), m) := fun x => by
    rcases hv with rfl | ⟨b, sp, rfl⟩
    · have hb := (Y.step_eq Try.prog kp 0 hT 34 k (loopN Try.f10 0) _ m).trans (t_jk_nil (x := x) (nodes := n) (v8 := .tuple ⟨[]⟩) ..)
      have hb2 := loopD_stop (e := .exit 0) (m' := m) j hb (by simp)
      rw [← hj] at hb2
      exact ⟨_, hb2⟩
    · have hb := (Y.step_eq Try.prog kp 0 hT 34 k (loopN Try.f10 0) _ m).trans (t_jk_e (x := x) (nodes := n) (v8 := .tuple ⟨[]⟩) (b := b) (sp := sp) ..)
      have hb2 := loopD_stop (e := .exit 0) (m' := m) j hb (by simp)
      rw [← hj] at hb2
      exact ⟨_, hb2⟩
  obtain ⟨X, hA⟩ := hA _
  have hB := hB.trans ((congrArg (fun z => Y.onE z _) hA).trans ((Y.onE_some ..).trans (t_jk_o ..)))
  rw [chkV_in (by omega)]
  exact hB
end
end
end Go.Proofs.Ytfpbiojnbffkpaa
