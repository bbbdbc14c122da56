/-
  JChk: the program's Check and the reference's Check: both tell the first row that is wrong.
-/
import Derived.Test.YtfpbiojnbffkpaaH20
import Derived.Test.YtfpbiojnbffkpaaH19
set_option linter.all false
set_option linter.unusedVariables false
set_option linter.unusedSimpArgs false
namespace Go.Proofs.Ytfpbiojnbffkpaa
open Go Go.DI Go.Proofs Go.Jud
noncomputable section
theorem ite_nn {p : Prop} {hp : Decidable p} {a b : Int} (ha : 0 ≤ a) (hb : 0 ≤ b) : 0 ≤ if p then a else b := by
  split
  · exact ha
  · exact hb
theorem sureR_nn (K : List RowT) (r : RowT) : 0 ≤ sureR K r := by
  unfold sureR
  split
  · decide
  · exact ite_nn (by decide) (by decide)
theorem toldR_nn (K : List RowT) (r : RowT) : 0 ≤ toldR K r := by
  unfold toldR
  exact ite_nn (by decide) (ite_nn (by decide) (ite_nn (by decide) (by decide)))
theorem swappedR_nn (n : Int) (K : List RowT) (r : RowT) : 0 ≤ swappedR n K r := by
  unfold swappedR
  exact ite_nn (by decide) (ite_nn (by decide) (ite_nn (by decide) (ite_nn (ite_nn (by decide) (by decide)) (ite_nn (by decide) (ite_nn (by decide) (by decide))))))
theorem wrongR_pos (n : Int) (K : List RowT) (r : RowT) : wrongR n K r = 0 ∨ 0 < wrongR n K r := by
  have h : 0 ≤ wrongR n K r := by
    unfold wrongR
    exact ite_nn (by decide) (ite_nn (by decide) (ite_nn (ite_nn (by decide) (by decide)) (ite_nn (sureR_nn K r) (ite_nn (swappedR_nn n K r) (ite_nn (ite_nn (by decide) (ite_nn (by decide) (by decide))) (ite_nn (toldR_nn K r) (ite_nn (ite_nn (by decide) (ite_nn (by decide) (by decide))) (by decide))))))))
  omega
def chkR (n : Int) (K : List RowT) : List RowT → Int × Int
  | [] => (0, 0)
  | r :: t => if wrongR n K r = 0 then chkR n (K ++ [r]) t else ((K.length : Int), wrongR n K r)
def tripV (a b c : Int) : Value := .tuple ⟨[.int .i64 a, .int .i64 b, .int .i64 c]⟩
theorem store_row (m : Mem) (r : RowT) (z : List Value) (hz : z.length = 43) : storeD Try.prog (m.push (.cells true z)) 34 (.agg ⟨rowR r⟩) (.pointer (some ⟨m.size, 0, none⟩)) = some ((m.push (.cells true z)).set m.size (.cells true (rowR r))) := by
  unfold storeD
  rw [sz34]
  have hl : (Value.agg ⟨rowR r⟩).cells.toList = rowR r := rfl
  simp only [hl, rowR_len, if_true]
  unfold storeC
  rw [Mem.get_push_same]
  simp only [rowR_len, hz]
  rw [if_pos (by omega), row_one, if_pos rfl]
  unfold splice
  rw [List.take_zero, rowR_len, List.drop_of_length_le (by omega), List.append_nil, List.nil_append]
def zrow : List Value := [.int .i64 0, .int .i64 0, .int .i64 0, .int .i64 0, .int .i64 0, .int .i64 0, .int .i64 0, .int .i64 0, .int .i64 0, .bool false, .int .u8 0, .int .u8 0, .int .u8 0, .int .u8 0, .int .u8 0, .int .u8 0, .int .u8 0, .int .u8 0, .int .u8 0, .int .u8 0, .int .u8 0, .int .u8 0, .int .u8 0, .int .u8 0, .int .u8 0, .int .u8 0, .int .u8 0, .int .u8 0, .int .u8 0, .int .u8 0, .int .u8 0, .int .u8 0, .int .u8 0, .int .u8 0, .int .u8 0, .int .u8 0, .int .u8 0, .int .u8 0, .int .u8 0, .int .u8 0, .int .u8 0, .int .u8 0, .int .u64 0]
set_option maxHeartbeats 4000000 in
theorem t_jcQ {α : Type} (x : Nat → Value) (cf : Y.CF α) (v0 v1 v9 v10 v11 : Value) (jb : Nat) (v20 v21 v22 v24 row : Value) (m : Mem) (q : Tmps → Mem → Option α) : Y.opsF (List.drop 3 r6) Try.prog kp 0 (Y.cfT Try.prog cf) 35 r6 (fullN 35 (up x [(0, v0), (1, v1), (4, .int .i64 0), (5, .int .i64 0), (6, .int .i64 0), (7, .pointer (some ⟨jb, 0, none⟩)), (9, v9), (10, v10), (11, v11), (20, v20), (21, v21), (22, v22), (24, v24), (26, row)])) m q =
  Y.storeF Try.prog (m.push (.cells true zrow)) 34 row (.pointer (some ⟨m.size, 0, none⟩)) fun m' => q (fullN 35 (up (up x [(24, v24), (26, row)]) [(0, v0), (1, v1), (4, .int .i64 0), (5, .int .i64 0), (6, .int .i64 0), (7, .pointer (some ⟨jb, 0, none⟩)), (9, v24), (10, .pointer (some ⟨m.size, 0, none⟩)), (11, v11), (20, v20), (21, v21), (22, v22)])) m' := by kernel_rfl
theorem r6_eq {α : Type} (cf : Y.CF α) (L : Y.LK α) (k : Nat) (t : Tmps) (m : Mem) (q : Y.ExK α) : Y.codeF (Y.loopC jcX 0) Try.prog kp 0 (Y.cfT Try.prog cf) L 35 k t m q = Y.opsF r6 Try.prog kp 0 (Y.cfT Try.prog cf) 35 r6 t m fun t m => q .normal t m := rfl
theorem kont9 {α : Type} (cf : Y.CF α) (L : Y.LK α) (k : Nat) (t : Tmps) (m : Mem) (q : Value → Mem → Option α) : Y.kont Try.prog kp 0 (Y.cfT Try.prog cf) L 35 k (bodyOf Try.f9) 0 (Y.retF Try.prog Try.f9 q) .ret t m = Y.retF Try.prog Try.f9 q .ret t m := by kernel_rfl
theorem kont10 {α : Type} (cf : Y.CF α) (L : Y.LK α) (k : Nat) (t : Tmps) (m : Mem) (q : Value → Mem → Option α) : Y.kont Try.prog kp 0 (Y.cfT Try.prog cf) L 34 k (bodyOf Try.f10) 0 (Y.retF Try.prog Try.f10 q) .ret t m = Y.retF Try.prog Try.f10 q .ret t m := by kernel_rfl
structure CkSt (m : Mem) (n : Int) (jb i : Nat) (l : List RowT) (S : JS) (ρ : Nat → Nat) (M : Mem) : Prop where
  st : JSt n jb i (l.take i) S ρ M
  size : m.size ≤ M.size
  get : ∀ j, j < m.size → M.get j = m.get j ∧ Out S ρ j
theorem JSt.same {n : Int} {jb i : Nat} {K : List RowT} {S : JS} {ρ : Nat → Nat} {M M' : Mem} (h : JSt n jb i K S ρ M) (g : ∀ j, j < M.size → M'.get j = M.get j) (hs : M.size ≤ M'.size) (ht : M'.top) : JSt n jb i K S ρ M' :=
  ⟨h.holds.same (fun i hi => g _ (h.holds.lt i hi)) hs, h.jb0, ht, h.inv, h.log⟩
section
variable {n : Int} {b jb i : Nat} {own : Bool} {sp : Option Nat} {cap : Nat} {l : List RowT} {rest : List Value} {S : JS} {ρ : Nat → Nat} {m M : Mem}
set_option maxHeartbeats 4000000 in
theorem chk_turn (h1 : 1 ≤ n) (h4 : n ≤ 4) (hm : m.get b = .cells own (rowsC l ++ rest)) (hb : b < m.size) (hlen : l.length ≤ 100000) (hr : ∀ r ∈ l, Rng r) (hs : CkSt m n jb i l S ρ M) (hlt : i < l.length) (k : Nat) (hk : 1 ≤ k) (x : Nat → Value) (v0 v1 v9 v10 v11 : Value) :
    (wrongR n (l.take i) l[i] ≠ 0 ∧ ∃ M' X w0 w1 w7 w9 w10 w11 w20 w21 w22, codeD Try.prog kp 0 (callN Try.prog kp 0 oA k) (drawD Try.prog kp 0 (callN Try.prog kp 0 oA k) 35) 35 k (loopN Try.f9 0) (fullN 35 (up x [(0, v0), (1, v1), (4, .int .i64 0), (5, .int .i64 0), (6, .int .i64 0), (7, .pointer (some ⟨jb, 0, none⟩)), (9, v9), (10, v10), (11, v11), (20, .slice (some ⟨b, 0, sp⟩) l.length cap), (21, .int .i64 (Int.ofNat l.length)), (22, .int .i64 (i : Int))])) M = some (.ret, (fullN 35 (up X [(0, w0), (1, w1), (4, .int .i64 (i : Int)), (5, .int .i64 (wrongR n (l.take i) l[i])), (6, .int .i64 0), (7, w7), (9, w9), (10, w10), (11, w11), (20, w20), (21, w21), (22, w22)])), M') ∧ Ext m M' ∧ M'.top) ∨
    (wrongR n (l.take i) l[i] = 0 ∧ ∃ S' ρ' M' X v9' v10' v11', codeD Try.prog kp 0 (callN Try.prog kp 0 oA k) (drawD Try.prog kp 0 (callN Try.prog kp 0 oA k) 35) 35 k (loopN Try.f9 0) (fullN 35 (up x [(0, v0), (1, v1), (4, .int .i64 0), (5, .int .i64 0), (6, .int .i64 0), (7, .pointer (some ⟨jb, 0, none⟩)), (9, v9), (10, v10), (11, v11), (20, .slice (some ⟨b, 0, sp⟩) l.length cap), (21, .int .i64 (Int.ofNat l.length)), (22, .int .i64 (i : Int))])) M = some (.normal, (fullN 35 (up X [(0, v0), (1, v1), (4, .int .i64 0), (5, .int .i64 0), (6, .int .i64 0), (7, .pointer (some ⟨jb, 0, none⟩)), (9, v9'), (10, v10'), (11, v11'), (20, .slice (some ⟨b, 0, sp⟩) l.length cap), (21, .int .i64 (Int.ofNat l.length)), (22, .int .i64 ((i + 1 : Nat) : Int))])), M') ∧ CkSt m n jb (i + 1) l S' ρ' M') := by
  have hT := Y.callN_typed Try.prog kp 0 oA k
  have hg : l[i]? = some l[i] := List.getElem?_eq_getElem hlt
  generalize hre : l[i] = r at hg
  have hrr : Rng r := hr r (by rw [← hre]; exact List.getElem_mem _)
  have hMb : M.get b = .cells own (rowsC l ++ rest) := (hs.get b hb).1.trans hm
  have hsz := hs.size
  have hz : zrow.length = 43 := rfl
  generalize hM1 : (M.push (.cells true zrow)).set M.size (.cells true (rowR r)) = M1
  have g1 : ∀ j, j < M.size → M1.get j = M.get j := fun j hj => by rw [← hM1, Mem.get_set_ne _ (by omega), Mem.get_push_ne _ (by omega)]
  have s1 : M1.size = M.size + 1 := by rw [← hM1]; rfl
  have t1 : M1.top := fun j hj => by
    rw [← hM1, Mem.get_set_ne _ (by omega), Mem.get_push_ne _ (by omega)]; exact hs.st.top j (by omega)
  have z1 : M1.get M.size = .cells true (rowR r) := by rw [← hM1]; exact Mem.get_set_same _ _ _
  obtain ⟨M2, S', ρ', c2, s2, z2, f2⟩ := add_run (hs.st.same g1 (by omega) t1) h1 h4 hrr (by omega) k hk
  have hext : Ext m M2 := ⟨by omega, fun j hj => by rw [(f2 j (by omega) (hs.get j hj).2).1, g1 j (by omega)]; exact (hs.get j hj).1, fun _ => s2.top⟩
  have hb0 := (Y.step_eq Try.prog kp 0 hT 35 k (loopN Try.f9 0) (fullN 35 (up x [(0, v0), (1, v1), (4, .int .i64 0), (5, .int .i64 0), (6, .int .i64 0), (7, .pointer (some ⟨jb, 0, none⟩)), (9, v9), (10, v10), (11, v11), (20, .slice (some ⟨b, 0, sp⟩) l.length cap), (21, .int .i64 (Int.ofNat l.length)), (22, .int .i64 (i : Int))])) M).trans ((mark_eq 6 Try.prog kp 0 _ _ 35 k (loopN Try.f9 0) (by kernel_rfl) _ M _).trans (t_jc (L := onceL) ..))
  rw [lt_len hlt] at hb0
  simp only [cond_true] at hb0
  rw [once_eq, r6_eq, opsF_cut 3, t_jcP] at hb0
  simp only [cond_true, onNat_c, blt_t hlt, hMb, cells_c, rows_ble hlt, rows_sub hg] at hb0
  rw [t_jcQ, Y.storeF_eq, store_row M r zrow hz, hM1] at hb0
  simp only [Y.ob_some] at hb0
  rw [t_jcK] at hb0
  simp only [z1, cells_c, row_len43, row_all, cond_true, cfOf_at, c2, onV, asInt_i, kEq_ii] at hb0
  rcases wrongR_pos n (l.take i) r with hw | hw
  · right
    rw [hw, ltF_f (show ¬ (0 : Int) < 0 by omega)] at hb0
    simp only [cond_false, wrap_succ (show i ≤ 1000000 by omega)] at hb0
    have ht : takeR n (l.take i) r = l.take (i + 1) := by unfold takeR; rw [if_pos hw, take_succ hg]
    rw [ht] at s2
    exact ⟨hw, S', ρ', M2, _, _, _, _, hb0, s2, hext.size, fun j hj => ⟨hext.get j hj, (f2 j (by omega) (hs.get j hj).2).2⟩⟩
  · left
    rw [ltF_t hw] at hb0
    simp only [cond_true] at hb0
    exact ⟨by omega, M2, _, _, _, _, _, _, _, _, _, _, hb0, hext, s2.top⟩
theorem chk_loop (h1 : 1 ≤ n) (h4 : n ≤ 4) (hm : m.get b = .cells own (rowsC l ++ rest)) (hb : b < m.size) (hlen : l.length ≤ 100000) (hr : ∀ r ∈ l, Rng r) (k : Nat) (hk : 1 ≤ k) (v0 v1 : Value) : ∀ (d i : Nat) (S : JS) (ρ : Nat → Nat) (M : Mem) (x : Nat → Value) (v9 v10 v11 : Value) (j : Nat), l.length = i + d → d + 1 ≤ j → CkSt m n jb i l S ρ M →
    ∃ M' t' e, loopD (codeD Try.prog kp 0 (callN Try.prog kp 0 oA k) (drawD Try.prog kp 0 (callN Try.prog kp 0 oA k) 35) 35 k (loopN Try.f9 0)) j (fullN 35 (up x [(0, v0), (1, v1), (4, .int .i64 0), (5, .int .i64 0), (6, .int .i64 0), (7, .pointer (some ⟨jb, 0, none⟩)), (9, v9), (10, v10), (11, v11), (20, .slice (some ⟨b, 0, sp⟩) l.length cap), (21, .int .i64 (Int.ofNat l.length)), (22, .int .i64 (i : Int))])) M = some (e, t', M') ∧ Ext m M' ∧ M'.top ∧
      ∀ (q : Value → Mem → Option (Value × Mem)) (cf : Y.CF (Value × Mem)) (L : Y.LK (Value × Mem)), Y.kont Try.prog kp 0 (Y.cfT Try.prog cf) L 35 k (bodyOf Try.f9) 0 (Y.retF Try.prog Try.f9 q) e t' M' = q (tripV (chkR n (l.take i) (l.drop i)).1 (chkR n (l.take i) (l.drop i)).2 0) M'
  | 0, i, S, ρ, M, x, v9, v10, v11, j, hi, hj, hs => by
    obtain ⟨j, rfl⟩ : ∃ j', j = j' + 1 := ⟨j - 1, by omega⟩
    obtain rfl : i = l.length := by omega
    have hT := Y.callN_typed Try.prog kp 0 oA k
    have hb0 := (Y.step_eq Try.prog kp 0 hT 35 k (loopN Try.f9 0) (fullN 35 (up x [(0, v0), (1, v1), (4, .int .i64 0), (5, .int .i64 0), (6, .int .i64 0), (7, .pointer (some ⟨jb, 0, none⟩)), (9, v9), (10, v10), (11, v11), (20, .slice (some ⟨b, 0, sp⟩) l.length cap), (21, .int .i64 (Int.ofNat l.length)), (22, .int .i64 (l.length : Int))])) M).trans ((mark_eq 6 Try.prog kp 0 _ _ 35 k (loopN Try.f9 0) (by kernel_rfl) _ M _).trans (t_jc (L := onceL) ..))
    rw [ge_len (Nat.lt_irrefl _)] at hb0
    simp only [cond_false] at hb0
    have hb1 := loopD_stop (e := .exit 0) (m' := M) j hb0 (by simp)
    refine ⟨M, _, _, hb1, ⟨hs.size, fun j hj => (hs.get j hj).1, fun _ => hs.st.top⟩, hs.st.top, fun q cf L => ?_⟩
    rw [List.drop_length]
    exact t_jc_o ..
  | d + 1, i, S, ρ, M, x, v9, v10, v11, j, hi, hj, hs => by
    obtain ⟨j, rfl⟩ : ∃ j', j = j' + 1 := ⟨j - 1, by omega⟩
    have hlt : i < l.length := by omega
    have hg : l[i]? = some l[i] := List.getElem?_eq_getElem hlt
    rcases chk_turn (sp := sp) (cap := cap) h1 h4 hm hb hlen hr hs hlt k hk x v0 v1 v9 v10 v11 with ⟨hw, M1, X, w0, w1, w7, w9, w10, w11, w20, w21, w22, hb1, he, ht⟩ | ⟨hw, S1, ρ1, M1, X, u9, u10, u11, hb1, hs1⟩
    · refine ⟨M1, _, _, loopD_stop j hb1 (by simp), he, ht, fun q cf L => ?_⟩
      rw [drop_at hg]
      simp only [chkR, if_neg hw, List.length_take, Nat.min_eq_left (Nat.le_of_lt hlt)]
      rw [kont9]
      exact t_jc_r X (.int .i64 (i : Int)) (.int .i64 (wrongR n (l.take i) l[i])) (.int .i64 0) w0 w1 w7 w9 w10 w11 w20 w21 w22 M1 q
    · obtain ⟨M2, t2, e2, hb2, he2, ht2, hq2⟩ := chk_loop h1 h4 hm hb hlen hr k hk v0 v1 d (i + 1) S1 ρ1 M1 X u9 u10 u11 j (by omega) (by omega) hs1
      refine ⟨M2, t2, e2, (loopD_next j hb1).trans hb2, he2, ht2, fun q cf L => ?_⟩
      rw [hq2 q cf L, drop_at hg, take_succ hg]
      simp only [chkR, if_pos hw]
theorem filt_t (f : FuncId) (a b c : Int) (m : Mem) (h : okR Try.prog f (tripV a b c) = true) : filtR Try.prog f (some (tripV a b c, m)) = some (tripV a b c, m) := by simp only [filtR, h, cond_true]
theorem new_call (k : Nat) (hk : 1 ≤ k) (n : Int) (m : Mem) : callN Try.prog kp 0 oA k 12 [.int .i64 n] m = cond (Y.ltF n 1) (some (nilV, m)) (cond (Y.ltF 4 n) (some (nilV, m)) (some (newV m, newM m n))) := new_run oA k hk (fun a m => oA_none 12 (by decide) a m) n m
def chkV (n : Int) (l : List RowT) : Value := if 1 ≤ n ∧ n ≤ 4 then tripV (chkR n [] l).1 (chkR n [] l).2 0 else tripV 0 0 1
theorem chkV_in {n : Int} {l : List RowT} (h : 1 ≤ n ∧ n ≤ 4) : chkV n l = tripV (chkR n [] l).1 (chkR n [] l).2 0 := if_pos h
theorem chkV_out {n : Int} {l : List RowT} (h : ¬ (1 ≤ n ∧ n ≤ 4)) : chkV n l = tripV 0 0 1 := if_neg h
theorem unc_cons {α : Type} (a : Value) (l : List Value) (q : Value → List Value → Option α) (d : Option α) : Y.unc (a :: l) q d = q a l := rfl
theorem unc_nil {α : Type} (q : Value → List Value → Option α) (d : Option α) : Y.unc [] q d = d := rfl
theorem asTup_t {α : Type} (a : Array Value) (q : Array Value → Option α) : Y.asTup (.tuple a) q = q a := rfl
theorem asTup_new {α : Type} (m : Mem) (q : Array Value → Option α) : Y.asTup (newV m) q = q ⟨[.pointer (some ⟨m.size + 7, 0, none⟩), .int .i64 0]⟩ := rfl
theorem asTup_nilV {α : Type} (q : Array Value → Option α) : Y.asTup nilV q = q ⟨[.pointer none, .int .i64 1]⟩ := rfl
set_option maxHeartbeats 4000000 in
theorem chk_run (ht : m.top) (hm : m.get b = .cells own (rowsC l ++ rest)) (hb : b < m.size) (hlen : l.length ≤ 100000) (hr : ∀ r ∈ l, Rng r) (n : Int) (k : Nat) (hk : l.length + 3 ≤ k) :
    ∃ M, callN Try.prog kp 0 oA k 9 [.int .i64 n, .slice (some ⟨b, 0, sp⟩) l.length cap] m = some (chkV n l, M) ∧ Ext m M ∧ M.top := by
  obtain ⟨k, rfl⟩ : ∃ k', k = k' + 1 := ⟨k - 1, by omega⟩
  have hB := (Y.body_eq (k := k) (Y.callN_typed Try.prog kp 0 oA k) (c := bodyOf Try.f9) (fn := Try.f9) 35 Try.func9 (by kernel_rfl) [.int .i64 n, .slice (some ⟨b, 0, sp⟩) l.length cap] (by kernel_rfl) m).trans (t_jc_in ..)
  suffices hh : ∃ M, bodyN Try.prog kp 0 (callN Try.prog kp 0 oA k) k 9 [.int .i64 n, .slice (some ⟨b, 0, sp⟩) l.length cap] m = some (chkV n l, M) ∧ Ext m M ∧ M.top by
    obtain ⟨M, h, e, t⟩ := hh
    refine ⟨M, ?_, e, t⟩
    simp only [callN, oA_none 9 (by decide)]
    refine (congrArg (filtR Try.prog _) h).trans ?_
    unfold chkV
    split
    · exact filt_t 9 _ _ _ _ (by kernel_rfl)
    · exact filt_t 9 _ _ _ _ (by kernel_rfl)
  by_cases g1 : n < 1
  · have c0 := new_call k (by omega) n m
    rw [ltF_t g1] at c0
    simp only [cond_true] at c0
    simp only [cfOf_at, c0, onV, asTup_nilV, unc_cons, unc_nil, asInt_i, kEq_ii, cond_true, eqF_f (show ¬ (1 : Int) = 0 by omega), cond_false] at hB
    exact ⟨m, by rw [chkV_out (by omega)]; exact hB, Ext.refl m, ht⟩
  by_cases g4 : 4 < n
  · have c0 := new_call k (by omega) n m
    rw [ltF_f g1, ltF_t g4] at c0
    simp only [cond_true, cond_false] at c0
    simp only [cfOf_at, c0, onV, asTup_nilV, unc_cons, unc_nil, asInt_i, kEq_ii, cond_true, eqF_f (show ¬ (1 : Int) = 0 by omega), cond_false] at hB
    exact ⟨m, by rw [chkV_out (by omega)]; exact hB, Ext.refl m, ht⟩
  have c0 := new_call k (by omega) n m
  rw [ltF_f g1, ltF_f g4] at c0
  simp only [cond_false] at c0
  simp only [cfOf_at, c0, onV, asTup_new, unc_cons, unc_nil, asInt_i, kEq_ii, cond_true, eqF_t (rfl : (0 : Int) = 0), cond_false] at hB
  rw [Y.lpOf_eq, Y.loopC_body] at hB
  have xN := newM_ext m n
  have s0 : CkSt m n (m.size + 7) 0 l (JS.new n) (rhoN m.size) (newM m n) := ⟨new_st (by omega) (by omega) ht, xN.size, fun j hj => ⟨xN.get j hj, new_out n m hj⟩⟩
  obtain ⟨M, t', e, hA, hE, hTp, hq⟩ := chk_loop (sp := sp) (cap := cap) (by omega) (by omega) hm hb hlen hr k (by omega) (.int .i64 n) (.slice (some ⟨b, 0, sp⟩) l.length cap) l.length 0 (JS.new n) (rhoN m.size) (newM m n) _ (.tuple ⟨[]⟩) (.tuple ⟨[]⟩) (.tuple ⟨[]⟩) k (by omega) (by omega) s0
  have hB := hB.trans ((congrArg (fun z => Y.onE z _) hA).trans ((Y.onE_some ..).trans (hq _ _ _)))
  rw [List.take_zero, List.drop_zero] at hB
  exact ⟨M, by rw [chkV_in (by omega)]; exact hB, hE, hTp⟩
set_option maxHeartbeats 4000000 in
theorem chk_run0 (ht : m.top) (n : Int) (k : Nat) (hk : 3 ≤ k) : ∃ M, callN Try.prog kp 0 oA k 9 [.int .i64 n, .slice none 0 0] m = some (chkV n [], M) ∧ Ext m M ∧ M.top := by
  obtain ⟨k, rfl⟩ : ∃ k', k = k' + 1 := ⟨k - 1, by omega⟩
  obtain ⟨j, hj⟩ : ∃ j, k = j + 1 := ⟨k - 1, by omega⟩
  have hT := Y.callN_typed Try.prog kp 0 oA k
  have hB := (Y.body_eq (k := k) hT (c := bodyOf Try.f9) (fn := Try.f9) 35 Try.func9 (by kernel_rfl) [.int .i64 n, .slice none 0 0] (by kernel_rfl) m).trans (t_jc_in0 ..)
  suffices hh : ∃ M, bodyN Try.prog kp 0 (callN Try.prog kp 0 oA k) k 9 [.int .i64 n, .slice none 0 0] m = some (chkV n [], M) ∧ Ext m M ∧ M.top by
    obtain ⟨M, h, e, t⟩ := hh
    refine ⟨M, ?_, e, t⟩
    simp only [callN, oA_none 9 (by decide)]
    refine (congrArg (filtR Try.prog _) h).trans ?_
    unfold chkV
    split
    · exact filt_t 9 _ _ _ _ (by kernel_rfl)
    · exact filt_t 9 _ _ _ _ (by kernel_rfl)
  by_cases g1 : n < 1
  · have c0 := new_call k (by omega) n m
    rw [ltF_t g1] at c0
    simp only [cond_true] at c0
    simp only [cfOf_at, c0, onV, asTup_nilV, unc_cons, unc_nil, asInt_i, kEq_ii, cond_true, eqF_f (show ¬ (1 : Int) = 0 by omega), cond_false] at hB
    exact ⟨m, by rw [chkV_out (by omega)]; exact hB, Ext.refl m, ht⟩
  by_cases g4 : 4 < n
  · have c0 := new_call k (by omega) n m
    rw [ltF_f g1, ltF_t g4] at c0
    simp only [cond_true, cond_false] at c0
    simp only [cfOf_at, c0, onV, asTup_nilV, unc_cons, unc_nil, asInt_i, kEq_ii, cond_true, eqF_f (show ¬ (1 : Int) = 0 by omega), cond_false] at hB
    exact ⟨m, by rw [chkV_out (by omega)]; exact hB, Ext.refl m, ht⟩
  have c0 := new_call k (by omega) n m
  rw [ltF_f g1, ltF_f g4] at c0
  simp only [cond_false] at c0
  simp only [cfOf_at, c0, onV, asTup_new, unc_cons, unc_nil, asInt_i, kEq_ii, cond_true, eqF_t (rfl : (0 : Int) = 0), cond_false] at hB
  rw [Y.lpOf_eq, Y.loopC_body] at hB
  have xN := newM_ext m n
  have hA : ∀ x v7, ∃ X w7, loopD (codeD Try.prog kp 0 (callN Try.prog kp 0 oA k) (drawD Try.prog kp 0 (callN Try.prog kp 0 oA k) 35) 35 k (loopN Try.f9 0)) k (fullN 35 (up x [(0, .int .i64 n), (1, .slice none 0 0), (4, .int .i64 0), (5, .int .i64 0), (6, .int .i64 0), (7, .pointer (some ⟨v7, 0, none⟩)), (9, .tuple ⟨[]⟩), (10, .tuple ⟨[]⟩), (11, .tuple ⟨[]⟩), (20, .slice none 0 0), (21, .int .i64 0), (22, .int .i64 0)])) (newM m n) = some (.exit 0, fullN 35 (up X [(0, .int .i64 n), (1, .slice none 0 0), (4, .int .i64 0), (5, .int .i64 0), (6, .int .i64 0), (7, .pointer (some ⟨w7, 0, none⟩)), (9, .tuple ⟨[]⟩), (10, .tuple ⟨[]⟩), (11, .tuple ⟨[]⟩), (20, .slice none 0 0), (21, .int .i64 0), (22, .int .i64 0)]), newM m n) := fun x v7 => by
    have hb := (Y.step_eq Try.prog kp 0 hT 35 k (loopN Try.f9 0) _ (newM m n)).trans (t_jc_nil (x := x) (i := 0) (v0 := .int .i64 n) (v1 := .slice none 0 0) (v9 := .tuple ⟨[]⟩) (v10 := .tuple ⟨[]⟩) (v11 := .tuple ⟨[]⟩) (jb := v7) ..)
    rw [ltF_f (show ¬ (0 : Int) < 0 by omega)] at hb
    have hb2 := loopD_stop j hb (by simp)
    rw [← hj] at hb2
    exact ⟨_, v7, hb2⟩
  obtain ⟨X, w7, hA⟩ := hA _ _
  have hB := hB.trans ((congrArg (fun z => Y.onE z _) hA).trans ((Y.onE_some ..).trans (t_jc_o ..)))
  exact ⟨_, by rw [chkV_in (by omega)]; exact hB, xN, xN.top ht⟩
end
end
end Go.Proofs.Ytfpbiojnbffkpaa
namespace Go.Proofs.Ytfpbiojnbffkpaa
open Go Go.DI Go.Proofs Go.Jud
noncomputable section
theorem ite_le {p : Prop} {hp : Decidable p} {a b : Int} (ha : a ≤ 12) (hb : b ≤ 12) : (if p then a else b) ≤ 12 := by
  split
  · exact ha
  · exact hb
theorem sureR_le (K : List RowT) (r : RowT) : sureR K r ≤ 12 := by
  unfold sureR
  split
  · decide
  · exact ite_le (by decide) (by decide)
theorem toldR_le (K : List RowT) (r : RowT) : toldR K r ≤ 12 := by
  unfold toldR
  exact ite_le (by decide) (ite_le (by decide) (ite_le (by decide) (by decide)))
theorem swappedR_le (n : Int) (K : List RowT) (r : RowT) : swappedR n K r ≤ 12 := by
  unfold swappedR
  exact ite_le (by decide) (ite_le (by decide) (ite_le (by decide) (ite_le (ite_le (by decide) (by decide)) (ite_le (by decide) (ite_le (by decide) (by decide))))))
theorem wrongR_le (n : Int) (K : List RowT) (r : RowT) : wrongR n K r ≤ 12 := by
  unfold wrongR
  exact ite_le (by decide) (ite_le (by decide) (ite_le (ite_le (by decide) (by decide)) (ite_le (sureR_le K r) (ite_le (swappedR_le n K r) (ite_le (ite_le (by decide) (ite_le (by decide) (by decide))) (ite_le (toldR_le K r) (ite_le (ite_le (by decide) (ite_le (by decide) (by decide))) (by decide))))))))
theorem chkR_spec (n : Int) : ∀ (l : List RowT) (K : List RowT), (chkR n K l = (0, 0) ∧ ∀ i r, l[i]? = some r → wrongR n (K ++ l.take i) r = 0) ∨
    ∃ a r, l[a]? = some r ∧ wrongR n (K ++ l.take a) r ≠ 0 ∧ chkR n K l = (((K.length + a : Nat) : Int), wrongR n (K ++ l.take a) r) ∧ ∀ i x, i < a → l[i]? = some x → wrongR n (K ++ l.take i) x = 0
  | [], K => .inl ⟨rfl, fun i r h => by simp at h⟩
  | r :: t, K => by
    by_cases h0 : wrongR n K r = 0
    · have e : chkR n K (r :: t) = chkR n (K ++ [r]) t := by simp only [chkR, if_pos h0]
      rcases chkR_spec n t (K ++ [r]) with ⟨h1, h2⟩ | ⟨a, x, h1, h2, h3, h4⟩
      · refine .inl ⟨e.trans h1, fun i x hx => ?_⟩
        cases i with
        | zero => simp at hx; subst hx; simpa using h0
        | succ i => have := h2 i x (by simpa using hx); simpa using this
      · refine .inr ⟨a + 1, x, by simpa using h1, by simpa using h2, ?_, fun i y hi hy => ?_⟩
        · rw [e, h3]; simp; omega
        · cases i with
          | zero => simp at hy; subst hy; simpa using h0
          | succ i => have := h4 i y (by omega) (by simpa using hy); simpa using this
    · exact .inr ⟨0, r, rfl, by simpa using h0, by simp [chkR, h0], fun i x hi => by omega⟩
theorem chkR_right (n : Int) : ∀ (l : List RowT) (K : List RowT), (∀ i r, l[i]? = some r → wrongR n (K ++ l.take i) r = 0) → chkR n K l = (0, 0)
  | [], K, _ => rfl
  | r :: t, K, h => by
    have h0 : wrongR n K r = 0 := by have := h 0 r rfl; simpa using this
    simp only [chkR, if_pos h0]
    exact chkR_right n t (K ++ [r]) fun i x hx => by have := h (i + 1) x (by simpa using hx); simpa using this
theorem chkR_at (n : Int) (r : RowT) (more : List RowT) : ∀ (l : List RowT) (K : List RowT), (∀ i x, l[i]? = some x → wrongR n (K ++ l.take i) x = 0) → wrongR n (K ++ l) r ≠ 0 → chkR n K (l ++ r :: more) = (((K.length + l.length : Nat) : Int), wrongR n (K ++ l) r)
  | [], K, _, hr => by
    have hr : wrongR n K r ≠ 0 := by simpa using hr
    simp [chkR, hr]
  | x :: t, K, h, hr => by
    have h0 : wrongR n K x = 0 := by have := h 0 x rfl; simpa using this
    have ih := chkR_at n r more t (K ++ [x]) (fun i y hy => by have := h (i + 1) y (by simpa using hy); simpa using this) (by simpa using hr)
    simp only [List.cons_append, chkR, if_pos h0, ih]
    simp
    omega
structure Two (n : Int) (jb kb i : Nat) (K : List RowT) (M : Mem) (S T : JS) (ρ σ : Nat → Nat) : Prop where
  st1 : JSt n jb i K S ρ M
  st2 : JSt n kb i K T σ M
  dis : ∀ i, seeJ (isL T) i = true → Out S ρ (σ i)
theorem JSt.moved {n : Int} {jb i : Nat} {K : List RowT} {S : JS} {ρ : Nat → Nat} {M M' : Mem} (h : JSt n jb i K S ρ M) (g : ∀ i, seeJ (isL S) i = true → M'.get (ρ i) = M.get (ρ i)) (hs : M.size ≤ M'.size) (ht : M'.top) : JSt n jb i K S ρ M' :=
  ⟨h.holds.same g hs, h.jb0, ht, h.inv, h.log⟩
theorem JSt.later {n : Int} {jb i i' : Nat} {K : List RowT} {S : JS} {ρ : Nat → Nat} {M : Mem} (h : JSt n jb i K S ρ M) (hi : i ≤ i') : JSt n jb i' K S ρ M := ⟨h.holds, h.jb0, h.top, h.inv, Nat.le_trans h.log hi⟩
theorem dis_symm {S T : JS} {ρ σ : Nat → Nat} (h : ∀ i, seeJ (isL T) i = true → Out S ρ (σ i)) : ∀ i, seeJ (isL S) i = true → Out T σ (ρ i) := fun i hi j hj e => h j hj i hi e.symm
section
variable {n : Int} {jb kb i : Nat} {K : List RowT} {M : Mem} {S T : JS} {ρ σ : Nat → Nat}
theorem two_add (h : Two n jb kb i K M S T ρ σ) (h1 : 1 ≤ n) (h4 : n ≤ 4) {r : RowT} (hr : Rng r) (hi : i ≤ 100000) (k : Nat) (hk : 1 ≤ k) :
    ∃ M1 M2 S' T' ρ' σ', callN Try.prog kp 0 oA k 13 [.pointer (some ⟨jb, 0, none⟩), .agg ⟨rowR r⟩] M = some (.int .i64 (wrongR n K r), M1) ∧ callN Try.prog kp 0 oA k 13 [.pointer (some ⟨kb, 0, none⟩), .agg ⟨rowR r⟩] M1 = some (.int .i64 (wrongR n K r), M2) ∧
      Two n jb kb (i + 1) (takeR n K r) M2 S' T' ρ' σ' ∧ M.size ≤ M1.size ∧ M1.size ≤ M2.size ∧
      ∀ j, j < M.size → Out S ρ j → Out T σ j → M1.get j = M.get j ∧ M2.get j = M.get j ∧ Out S' ρ' j ∧ Out T' σ' j := by
  obtain ⟨M1, S', ρ', c1, s1, z1, f1⟩ := add_run h.st1 h1 h4 hr hi k hk
  have hσ : ∀ i, seeJ (isL T) i = true → M1.get (σ i) = M.get (σ i) ∧ Out S' ρ' (σ i) := fun i hi => f1 (σ i) (h.st2.holds.lt i hi) (h.dis i hi)
  have s2 : JSt n kb i K T σ M1 := h.st2.moved (fun i hi => (hσ i hi).1) z1 s1.top
  obtain ⟨M2, T', σ', c2, s3, z2, f2⟩ := add_run s2 h1 h4 hr hi k hk
  have d1 := dis_symm (fun i hi => (hσ i hi).2)
  have hρ : ∀ i, seeJ (isL S') i = true → M2.get (ρ' i) = M1.get (ρ' i) ∧ Out T' σ' (ρ' i) := fun i hi => f2 (ρ' i) (s1.holds.lt i hi) (d1 i hi)
  refine ⟨M1, M2, S', T', ρ', σ', c1, c2, ⟨s1.moved (fun i hi => (hρ i hi).1) z2 s3.top, s3, dis_symm (fun i hi => (hρ i hi).2)⟩, z1, z2, fun j hj o1 o2 => ?_⟩
  obtain ⟨g1, g2⟩ := f1 j hj o1
  obtain ⟨g3, g4⟩ := f2 j (Nat.lt_of_lt_of_le hj z1) o2
  exact ⟨g1, g3.trans g1, g2, g4⟩
theorem two_wrong (h : Two n jb kb i K M S T ρ σ) (h1 : 1 ≤ n) (h4 : n ≤ 4) {r : RowT} (hr : Rng r) (hi : i ≤ 100000) (hw : wrongR n K r ≠ 0) (k : Nat) (hk : 1 ≤ k) :
    ∃ M1 S' ρ', callN Try.prog kp 0 oA k 13 [.pointer (some ⟨jb, 0, none⟩), .agg ⟨rowR r⟩] M = some (.int .i64 (wrongR n K r), M1) ∧ Two n jb kb (i + 1) K M1 S' T ρ' σ ∧ M.size ≤ M1.size ∧
      ∀ j, j < M.size → Out S ρ j → Out T σ j → M1.get j = M.get j ∧ Out S' ρ' j ∧ Out T σ j := by
  obtain ⟨M1, S', ρ', c1, s1, z1, f1⟩ := add_run h.st1 h1 h4 hr hi k hk
  have hσ : ∀ i, seeJ (isL T) i = true → M1.get (σ i) = M.get (σ i) ∧ Out S' ρ' (σ i) := fun i hi => f1 (σ i) (h.st2.holds.lt i hi) (h.dis i hi)
  have ht : takeR n K r = K := by unfold takeR; rw [if_neg hw]
  rw [ht] at s1
  exact ⟨M1, S', ρ', c1, ⟨s1, (h.st2.moved (fun i hi => (hσ i hi).1) z1 s1.top).later (Nat.le_succ i), fun i hi => (hσ i hi).2⟩, z1, fun j hj o1 o2 => ⟨(f1 j hj o1).1, (f1 j hj o1).2, o2⟩⟩
end
theorem two_new {n : Int} (h1 : 1 ≤ n) (h4 : n ≤ 4) {m : Mem} (ht : m.top) : Two n (m.size + 7) ((newM m n).size + 7) 0 [] (newM (newM m n) n) (JS.new n) (JS.new n) (rhoN m.size) (rhoN (newM m n).size) := by
  have x1 := newM_ext m n
  have t1 := x1.top ht
  refine ⟨(new_st h1 h4 ht).ext (newM_ext _ n), new_st h1 h4 t1, dis_symm fun i hi => ?_⟩
  exact new_out n _ ((new_holds m n).lt i hi)
end
end Go.Proofs.Ytfpbiojnbffkpaa
namespace Go.Proofs.Ytfpbiojnbffkpaa
open Go Go.DI Go.Proofs Go.Jud
noncomputable section
variable {α : Type}
def markS (s : List Nat) : Code → Code
  | .region i ops d => cond (s.any (Nat.beq i)) (.loop (.region i ops d)) (.region i ops d)
  | .seq a b => .seq (markS s a) (markS s b)
  | .cond c a b => .cond c (markS s a) (markS s b)
  | .block j c => .block j (markS s c)
  | c => c
def isReg : Code → Bool
  | .region _ _ _ => true
  | _ => false
def fitM : Code → Bool
  | .region _ _ _ => true
  | .seq a b => fitM a && fitM b
  | .cond _ a b => fitM a && fitM b
  | .block _ c => fitM c
  | .loop c => !isReg c
  | .skip => true
  | .exit _ => true
  | .ret => true
  | _ => false
def mixL (L : Y.LK α) : Y.LK α := fun body c k t m q => cond (isReg c) (body t m q) (L body c k t m q)
theorem mixL_reg (L : Y.LK α) (body : Tmps → Mem → Y.ExK α → Option α) {c : Code} (h : isReg c = true) (k : Nat) (t : Tmps) (m : Mem) (q : Y.ExK α) : mixL L body c k t m q = body t m q := by unfold mixL; rw [h]; rfl
theorem mixL_loop (L : Y.LK α) (body : Tmps → Mem → Y.ExK α → Option α) {c : Code} (h : isReg c = false) (k : Nat) (t : Tmps) (m : Mem) (q : Y.ExK α) : mixL L body c k t m q = L body c k t m q := by unfold mixL; rw [h]; rfl
theorem markS_eq (s : List Nat) (P : Program) (K : TypeId → Bool) (G : Nat) (cf : Y.CF α) (L : Y.LK α) (hL : ∀ b b' c k t m q, L b c k t m q = L b' c k t m q) (n k : Nat) : ∀ (c : Code), fitM c = true → ∀ (t : Tmps) (m : Mem) (q : Y.ExK α), Y.codeF c P K G cf L n k t m q = Y.codeF (markS s c) P K G cf (mixL L) n k t m q := by
  intro c
  induction c with
  | skip => intros; rfl
  | exit => intros; rfl
  | ret => intros; rfl
  | region i ops d =>
    intro _ t m q
    unfold markS
    cases s.any (Nat.beq i) <;> rfl
  | seq a b ia ib =>
    intro h t m q
    simp only [fitM, Bool.and_eq_true] at h
    refine (ia h.1 ..).trans ?_
    show _ = Y.codeF (markS s a) P K G cf (mixL L) n k t m fun e t m => Ex.rec (motive := fun _ => Option α) (Y.codeF (markS s b) P K G cf (mixL L) n k t m q) (fun id => q (.exit id) t m) (q .ret t m) e
    congr 1
    funext e t m
    cases e with
    | normal => exact ib h.2 ..
    | exit => rfl
    | ret => rfl
  | cond c a b ia ib =>
    intro h t m q
    simp only [fitM, Bool.and_eq_true] at h
    show Y.evF c G t (fun v => Y.asBool v (Y.codeF a P K G cf L n k t m q) (Y.codeF b P K G cf L n k t m q)) = Y.evF c G t (fun v => Y.asBool v (Y.codeF (markS s a) P K G cf (mixL L) n k t m q) (Y.codeF (markS s b) P K G cf (mixL L) n k t m q))
    rw [ia h.1, ib h.2]
  | block j c ic =>
    intro h t m q
    simp only [fitM] at h
    exact ic h ..
  | loop c ic =>
    intro h t m q
    simp only [fitM, Bool.not_eq_true'] at h
    show L (fun t m q => Y.codeF c P K G cf L n k t m q) c k t m q = mixL L (fun t m q => Y.codeF c P K G cf (mixL L) n k t m q) c k t m q
    rw [mixL_loop _ _ h]
    exact hL _ _ _ _ _ _ _
  | _ => intro h; cases h
theorem lpOf_any (P : Program) (K : TypeId → Bool) (G : Nat) (df : DFun) (n : Nat) (b b' : Tmps → Mem → Y.ExK α → Option α) (c : Code) (k : Nat) (t : Tmps) (m : Mem) (q : Y.ExK α) : Y.lpOf P K G df n b c k t m q = Y.lpOf P K G df n b' c k t m q := rfl
end
end Go.Proofs.Ytfpbiojnbffkpaa
