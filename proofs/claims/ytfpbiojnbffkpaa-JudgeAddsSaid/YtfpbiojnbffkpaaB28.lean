/-
  JStB: a judge that lies somewhere and has taken in rows; what calls answer there.
-/
import Derived.Test.YtfpbiojnbffkpaaB27
import Derived.Test.YtfpbiojnbffkpaaB21
import Derived.Test.YtfpbiojnbffkpaaB22
set_option linter.all false
set_option linter.unusedVariables false
set_option linter.unusedSimpArgs false
namespace Go.Proofs.Ytfpbiojnbffkpaa
open Go Go.DI Go.Proofs Go.Jud
noncomputable section
theorem Holds.ext {S : JS} {ρ : Nat → Nat} {m m' : Mem} (h : Holds S ρ m) (e : Ext m m') : Holds S ρ m' := by
  have g : ∀ i, seeJ (isL S) i = true → m'.get (ρ i) = m.get (ρ i) := fun i hi => e.get _ (h.lt i hi)
  have g8 : ∀ i, i < 8 → m'.get (ρ i) = m.get (ρ i) := fun i hi => g i (seeJ_low _ hi)
  refine ⟨(g8 0 (by omega)).trans h.b0, (g8 1 (by omega)).trans h.b1, (g8 2 (by omega)).trans h.b2, (g8 3 (by omega)).trans h.b3, (g8 4 (by omega)).trans h.b4, (g8 5 (by omega)).trans h.b5, (g8 6 (by omega)).trans h.b6, (g8 7 (by omega)).trans h.b7, fun hn => (g 8 ?_).trans (h.b8 hn), fun i hi => Nat.lt_of_lt_of_le (h.lt i hi) e.size, h.inj⟩
  simp [seeJ, isL_t hn]
theorem callN_o {k : Nat} {f : FuncId} {a : List Value} {m m' : Mem} {v : Value} (hk : 1 ≤ k) (h : oA f a m = some (v, m')) (hok : okR Try.prog f v = true) : callN Try.prog kp 0 oA k f a m = some (v, m') := by
  obtain ⟨k, rfl⟩ : ∃ k', k = k' + 1 := ⟨k - 1, by omega⟩
  simp only [callN, h, filtR, hok, cond_true]
theorem asAgg_a {α : Type} (a : Array Value) (q : Array Value → Option α) (d : Option α) : Y.asAgg (.agg a) q d = q a := rfl
theorem row_one (r : RowT) : (rowR r).all one = true := rfl
theorem rowsC_one : ∀ l : List RowT, (rowsC l).all one = true
  | [] => rfl
  | r :: l => by
    show (rowR r ++ rowsC l).all one = true
    rw [List.all_append, row_one, rowsC_one l]; rfl
theorem rowsC_snoc (l : List RowT) (r : RowT) : rowsC (l ++ [r]) = rowsC l ++ rowR r := by simp [rowsC]
def Rng (r : RowT) : Prop := -9223372036854775808 ≤ r.i ∧ r.i ≤ 9223372036854775807
def Out (S : JS) (ρ : Nat → Nat) (j : Nat) : Prop := ∀ i, seeJ (isL S) i = true → ρ i ≠ j
/-- A judge that has taken in the rows K. -/
structure JSt (n : Int) (jb i : Nat) (K : List RowT) (S : JS) (ρ : Nat → Nat) (M : Mem) : Prop where
  holds : Holds S ρ M
  jb0 : ρ 0 = jb
  top : M.top
  inv : JInv n K S
  log : S.log.length ≤ i
section
variable {n : Int} {jb i : Nat} {K : List RowT} {S : JS} {ρ : Nat → Nat} {M M' : Mem}
theorem JSt.ok (h : JSt n jb i K S ρ M) (h1 : 1 ≤ n) (h4 : n ≤ 4) : S.Ok := ⟨by rw [h.inv.nodes]; exact h1, by rw [h.inv.nodes]; exact h4, h.inv.last2⟩
theorem JSt.ext (h : JSt n jb i K S ρ M) (e : Ext M M') : JSt n jb i K S ρ M' := ⟨h.holds.ext e, h.jb0, e.top h.top, h.inv, h.log⟩
def takeR (n : Int) (K : List RowT) (r : RowT) : List RowT := if wrongR n K r = 0 then K ++ [r] else K
theorem add_run (h : JSt n jb i K S ρ M) (h1 : 1 ≤ n) (h4 : n ≤ 4) {r : RowT} (hr : Rng r) (hi : i ≤ 100000) (k : Nat) (hk : 1 ≤ k) :
    ∃ M' S' ρ', callN Try.prog kp 0 oA k 13 [.pointer (some ⟨jb, 0, none⟩), .agg ⟨rowR r⟩] M = some (.int .i64 (wrongR n K r), M') ∧ JSt n jb (i + 1) (takeR n K r) S' ρ' M' ∧ M.size ≤ M'.size ∧
      ∀ j, j < M.size → Out S ρ j → M'.get j = M.get j ∧ Out S' ρ' j := by
  have hlog : S.log.length ≤ 1000000 := by have := h.log; omega
  have hw := wrong_law h.inv h1 hlog hr
  obtain ⟨M', ρ', ha, hH, hρ, hsee, hsz, ht, hfr⟩ := add_at (h.ok h1 h4) hlog hr h.holds h.top
  refine ⟨M', (addJ S r).2, ρ', ?_, ⟨hH, (hρ 0 (by omega)).trans h.jb0, ht, ?_, ?_⟩, hsz, fun j hj ho => ⟨hfr j hj ho, fun i hi e => ?_⟩⟩
  · refine callN_o hk ?_ (by kernel_rfl)
    rw [oA_add, ← hw, ← h.jb0]
    exact ha
  · unfold takeR
    rw [← hw]
    split
    · rename_i h0; exact keep_law h.inv h0
    · rename_i h0; rw [wrong_leaves S r h0]; exact h.inv
  · have := h.log
    rcases addJ_log S r with g | g
    · rw [g]; omega
    · rw [g, List.length_append]; simp; omega
  · rcases hsee i hi with ⟨g1, g2⟩ | g
    · exact ho i g1 (g2.symm.trans e)
    · omega
end
theorem Holds.same {S : JS} {ρ : Nat → Nat} {m m' : Mem} (h : Holds S ρ m) (g : ∀ i, seeJ (isL S) i = true → m'.get (ρ i) = m.get (ρ i)) (hs : m.size ≤ m'.size) : Holds S ρ m' := by
  have g8 : ∀ i, i < 8 → m'.get (ρ i) = m.get (ρ i) := fun i hi => g i (seeJ_low _ hi)
  refine ⟨(g8 0 (by omega)).trans h.b0, (g8 1 (by omega)).trans h.b1, (g8 2 (by omega)).trans h.b2, (g8 3 (by omega)).trans h.b3, (g8 4 (by omega)).trans h.b4, (g8 5 (by omega)).trans h.b5, (g8 6 (by omega)).trans h.b6, (g8 7 (by omega)).trans h.b7, fun hn => (g 8 ?_).trans (h.b8 hn), fun i hi => Nat.lt_of_lt_of_le (h.lt i hi) hs, h.inj⟩
  simp [seeJ, isL_t hn]
theorem JSt.drop {n : Int} {jb i : Nat} {K : List RowT} {S : JS} {ρ : Nat → Nat} {M : Mem} {z : Nat} (h : JSt n jb i K S ρ M) (ho : Out S ρ z) : JSt n jb i K S ρ (M.set z .none) := by
  refine ⟨h.holds.same (fun i hi => Mem.get_set_ne _ (ho i hi) _) (Nat.le_of_eq rfl), h.jb0, fun j hj => ?_, h.inv, h.log⟩
  by_cases hz : j = z
  · subst hz; exact Mem.get_set_same _ _ _
  · rw [Mem.get_set_ne _ hz]; exact h.top j hj
theorem once_eq {α : Type} (body : Tmps → Mem → Y.ExK α → Option α) (c : Code) (k : Nat) (t : Tmps) (m : Mem) (q : Y.ExK α) : onceL body c k t m q = body t m q := rfl
theorem call_wakes (k : Nat) (hk : 1 ≤ k) (M : Mem) : callN Try.prog kp 0 oA k 7 [] M = some (.bool true, M) := callN_o hk (oA_7 M) (by kernel_rfl)
/-- A new judge, laid. -/
theorem new_st {n : Int} (h1 : 1 ≤ n) (h4 : n ≤ 4) {m : Mem} (ht : m.top) : JSt n (m.size + 7) 0 [] (JS.new n) (rhoN m.size) (newM m n) := ⟨new_holds m n, rfl, (newM_ext m n).top ht, inv_new n, Nat.le_refl _⟩
theorem new_out (n : Int) (m : Mem) {b : Nat} (hb : b < m.size) : Out (JS.new n) (rhoN m.size) b := fun i hi e => by
  have hf : isL (JS.new n) = false := rfl
  rw [hf] at hi
  have h8 : i < 8 := by simpa [seeJ] using hi
  rcases (show i = 0 ∨ i = 1 ∨ i = 2 ∨ i = 3 ∨ i = 4 ∨ i = 5 ∨ i = 6 ∨ i = 7 by omega) with rfl | rfl | rfl | rfl | rfl | rfl | rfl | rfl <;> simp [rhoN] at e <;> omega
end
end Go.Proofs.Ytfpbiojnbffkpaa
/-
  JLoop9: the law of JudgeAdds: its way in (printed by gt.py).
-/
namespace Go.Proofs.Ytfpbiojnbffkpaa
open Go Go.DI Go.Proofs Go.Jud
noncomputable section
variable {α : Type}
set_option maxHeartbeats 4000000 in
theorem t_ja_in (cf : Y.CF α) (L : Y.LK α) (k : Nat) (b : Nat) (sp : Option Nat) (len cap : Nat) (m : Mem) (nodes : Int) (q : Value → Mem → Option α) : Y.codeF (bodyOf Try.f5) Try.prog kp 0 (cfN cf) L 103 k (fullN 103 (argX [.int .i64 nodes, .slice (some ⟨b, 0, sp⟩) len cap])) m (Y.retF Try.prog Try.f5 q) =
  (cond (Y.ltF nodes (1 : Int)) (cond (Y.ltF nodes (1 : Int)) (cf 7 [] m (fun v_11 m'_12 => (Y.asBo v_11 (fun b_13 => (cond b_13 (q (.bool true) m'_12) (q (.bool false) m'_12))) none))) (cond (Y.ltF (4 : Int) nodes) (cf 7 [] m (fun v_11 m'_12 => (Y.asBo v_11 (fun b_13 => (cond b_13 (q (.bool true) m'_12) (q (.bool false) m'_12))) none))) (q (.bool false) m))) (cond (Y.ltF (4 : Int) nodes) (cond (Y.ltF nodes (1 : Int)) (cf 7 [] m (fun v_11 m'_12 => (Y.asBo v_11 (fun b_13 => (cond b_13 (q (.bool true) m'_12) (q (.bool false) m'_12))) none))) (cond (Y.ltF (4 : Int) nodes) (cf 7 [] m (fun v_11 m'_12 => (Y.asBo v_11 (fun b_13 => (cond b_13 (q (.bool true) m'_12) (q (.bool false) m'_12))) none))) (q (.bool false) m))) (cond (Y.ltF nodes (1 : Int)) (q (.bool false) (newM m nodes)) (cond (Y.ltF (4 : Int) nodes) (q (.bool false) (newM m nodes)) (cond (Y.ltF (250 : Int) (Int.ofNat len)) (cf 7 [] (newM m nodes) (fun v_11 m'_12 => (Y.asBo v_11 (fun b_13 => (cond b_13 (q (.bool true) m'_12) (q (.bool false) m'_12))) none))) (L (fun t m q => Y.codeF (Y.loopC (bodyOf Try.f5) 0) Try.prog kp 0 (cfN cf) L 103 k t m q) (Y.loopC (bodyOf Try.f5) 0) k (fullN 103 (up (up Go.DI.x0 [(32, (.int .i64 (0 : Int))), (16, (.int .i64 (0 : Int))), (40, (.int .i64 (Int.ofNat len))), (36, (.bool false)), (20, (.int .i64 nodes)), (12, (.tuple ⟨[(.pointer (some (Addr.mk ((Mem.size m) + 7) 0 none))), (.int .i64 (0 : Int))]⟩)), (34, (.bool false)), (18, (.bool false)), (42, (.bool false)), (6, (.int .i64 (0 : Int))), (38, (.bool false)), (22, (.bool false)), (14, (.tuple ⟨[(.pointer (some (Addr.mk ((Mem.size m) + 7) 0 none))), (.int .i64 (0 : Int))]⟩)), (33, (.bool false)), (17, (.int .i64 nodes)), (41, (.bool false)), (37, (.bool false)), (21, (.bool false)), (13, (.int .i64 nodes)), (35, (.pointer (some (Addr.mk ((Mem.size m) + 7) 0 none)))), (19, (.bool false)), (39, (.slice (some (Addr.mk b 0 sp)) len cap)), (15, (.pointer (some (Addr.mk ((Mem.size m) + 7) 0 none))))]) [(0, (.int .i64 nodes)), (1, (.slice (some (Addr.mk b 0 sp)) len cap)), (4, (.bool false)), (5, (.pointer (some (Addr.mk ((Mem.size m) + 7) 0 none)))), (7, (.slice none 0 0)), (8, (.int .i64 (0 : Int))), (9, (.tuple ⟨[]⟩)), (10, (.tuple ⟨[]⟩)), (11, (.tuple ⟨[]⟩))])) (newM m nodes) (Y.kont Try.prog kp 0 (cfN cf) L 103 k (bodyOf Try.f5) 0 (Y.retF Try.prog Try.f5 q)))))))) := by kernel_rfl
set_option maxHeartbeats 4000000 in
theorem t_ja_in0 (cf : Y.CF α) (L : Y.LK α) (k : Nat) (m : Mem) (nodes : Int) (q : Value → Mem → Option α) : Y.codeF (bodyOf Try.f5) Try.prog kp 0 (cfN cf) L 103 k (fullN 103 (argX [.int .i64 nodes, .slice none 0 0])) m (Y.retF Try.prog Try.f5 q) =
  (cond (Y.ltF nodes (1 : Int)) (cond (Y.ltF nodes (1 : Int)) (cf 7 [] m (fun v_7 m'_8 => (Y.asBo v_7 (fun b_9 => (cond b_9 (q (.bool true) m'_8) (q (.bool false) m'_8))) none))) (cond (Y.ltF (4 : Int) nodes) (cf 7 [] m (fun v_7 m'_8 => (Y.asBo v_7 (fun b_9 => (cond b_9 (q (.bool true) m'_8) (q (.bool false) m'_8))) none))) (q (.bool false) m))) (cond (Y.ltF (4 : Int) nodes) (cond (Y.ltF nodes (1 : Int)) (cf 7 [] m (fun v_7 m'_8 => (Y.asBo v_7 (fun b_9 => (cond b_9 (q (.bool true) m'_8) (q (.bool false) m'_8))) none))) (cond (Y.ltF (4 : Int) nodes) (cf 7 [] m (fun v_7 m'_8 => (Y.asBo v_7 (fun b_9 => (cond b_9 (q (.bool true) m'_8) (q (.bool false) m'_8))) none))) (q (.bool false) m))) (cond (Y.ltF nodes (1 : Int)) (q (.bool false) (newM m nodes)) (cond (Y.ltF (4 : Int) nodes) (q (.bool false) (newM m nodes)) (L (fun t m q => Y.codeF (Y.loopC (bodyOf Try.f5) 0) Try.prog kp 0 (cfN cf) L 103 k t m q) (Y.loopC (bodyOf Try.f5) 0) k (fullN 103 (up (up Go.DI.x0 [(32, (.int .i64 (0 : Int))), (16, (.int .i64 (0 : Int))), (40, (.int .i64 (0 : Int))), (36, (.bool false)), (20, (.int .i64 nodes)), (12, (.tuple ⟨[(.pointer (some (Addr.mk ((Mem.size m) + 7) 0 none))), (.int .i64 (0 : Int))]⟩)), (34, (.bool false)), (18, (.bool false)), (42, (.bool false)), (6, (.int .i64 (0 : Int))), (38, (.bool false)), (22, (.bool false)), (14, (.tuple ⟨[(.pointer (some (Addr.mk ((Mem.size m) + 7) 0 none))), (.int .i64 (0 : Int))]⟩)), (33, (.bool false)), (17, (.int .i64 nodes)), (41, (.bool false)), (37, (.bool false)), (21, (.bool false)), (13, (.int .i64 nodes)), (35, (.pointer (some (Addr.mk ((Mem.size m) + 7) 0 none)))), (19, (.bool false)), (39, (.slice none 0 0)), (15, (.pointer (some (Addr.mk ((Mem.size m) + 7) 0 none))))]) [(0, (.int .i64 nodes)), (1, (.slice none 0 0)), (4, (.bool false)), (5, (.pointer (some (Addr.mk ((Mem.size m) + 7) 0 none)))), (7, (.slice none 0 0)), (8, (.int .i64 (0 : Int))), (9, (.tuple ⟨[]⟩)), (10, (.tuple ⟨[]⟩)), (11, (.tuple ⟨[]⟩))])) (newM m nodes) (Y.kont Try.prog kp 0 (cfN cf) L 103 k (bodyOf Try.f5) 0 (Y.retF Try.prog Try.f5 q))))))) := by kernel_rfl
set_option maxHeartbeats 4000000 in
theorem t_jaA_o (x : Nat → Value) (cf : Y.CF α) (L : Y.LK α) (k : Nat) (v1 v7 : Value) (jb : Nat) (m : Mem) (nodes : Int) (v8 v9 v10 v11 : Value) (q : Value → Mem → Option α) : Y.kont Try.prog kp 0 (cfN cf) L 103 k (bodyOf Try.f5) 0 (Y.retF Try.prog Try.f5 q) (.exit 0) (fullN 103 (up x [(0, .int .i64 nodes), (1, v1), (4, .bool false), (5, .pointer (some ⟨jb, 0, none⟩)), (7, v7), (8, v8), (9, v9), (10, v10), (11, v11)])) m =
  (L (fun t m q => Y.codeF (Y.loopC (bodyOf Try.f5) 1) Try.prog kp 0 (cfN cf) L 103 k t m q) (Y.loopC (bodyOf Try.f5) 1) k (fullN 103 (up x [(0, (.int .i64 nodes)), (1, v1), (4, (.bool false)), (5, (.pointer (some (Addr.mk jb 0 none)))), (7, v7), (8, v8), (9, v9), (10, (.int .i64 (-1 : Int))), (11, v11)])) m (Y.kont Try.prog kp 0 (cfN cf) L 103 k (bodyOf Try.f5) 1 (Y.retF Try.prog Try.f5 q))) := by kernel_rfl
set_option maxHeartbeats 4000000 in
theorem t_jaB_o (x : Nat → Value) (cf : Y.CF α) (L : Y.LK α) (k : Nat) (v1 v7 : Value) (jb : Nat) (m : Mem) (nodes : Int) (v8 v9 v10 v11 : Value) (q : Value → Mem → Option α) : Y.kont Try.prog kp 0 (cfN cf) L 103 k (bodyOf Try.f5) 1 (Y.retF Try.prog Try.f5 q) (.exit 2) (fullN 103 (up x [(0, .int .i64 nodes), (1, v1), (4, .bool false), (5, .pointer (some ⟨jb, 0, none⟩)), (7, v7), (8, v8), (9, v9), (10, v10), (11, v11)])) m =
  (cf 7 [] m (fun v_15 m'_16 => (Y.asBo v_15 (fun b_17 => (cond b_17 (q (.bool true) m'_16) (q (.bool false) m'_16))) none))) := by kernel_rfl
end
end Go.Proofs.Ytfpbiojnbffkpaa
/-
  JAdds: the rows' loop of JudgeAdds.
-/
namespace Go.Proofs.Ytfpbiojnbffkpaa
open Go Go.DI Go.Proofs Go.Jud
noncomputable section
/-- What lies where while the rows are gone through. -/
structure AddsSt (n : Int) (b : Nat) (own : Bool) (l : List RowT) (rest : List Value) (jb i : Nat) (K : List RowT) (S : JS) (ρ : Nat → Nat) (kv : Value) (M : Mem) : Prop where
  st : JSt n jb i K S ρ M
  klen : K.length ≤ i
  blk : M.get b = .cells own (rowsC l ++ rest)
  bM : b < M.size
  bρ : Out S ρ b
  kept : (K = [] ∧ kv = .slice none 0 0) ∨ ∃ bk, kv = .slice (some ⟨bk, 0, some 43⟩) K.length K.length ∧ M.get bk = .cells true (rowsC K) ∧ bk < M.size ∧ bk ≠ b ∧ Out S ρ bk
section
variable {n : Int} {b jb i : Nat} {own : Bool} {sp : Option Nat} {cap : Nat} {l : List RowT} {rest : List Value} {K : List RowT} {S : JS} {ρ : Nat → Nat} {kv : Value} {M : Mem}
/-- Row, Add, Wrong on a row. -/
theorem adds_calls (h1 : 1 ≤ n) (h4 : n ≤ 4) (hs : AddsSt n b own l rest jb i K S ρ kv M) {r : RowT} (hr : Rng r) (hi : i ≤ 100000) (k : Nat) (hk : 1 ≤ k) :
    ∃ M1 M2 M3 S' ρ', callN Try.prog kp 0 oA k 11 [.agg ⟨rowR r⟩] M = some (.agg ⟨rowR r⟩, M1) ∧
      callN Try.prog kp 0 oA k 13 [.pointer (some ⟨jb, 0, none⟩), .agg ⟨rowR r⟩] M1 = some (.int .i64 (wrongR n K r), M2) ∧
      callN Try.prog kp 0 oA k 14 [.int .i64 n, kv, .agg ⟨rowR r⟩] M2 = some (.int .i64 (wrongR n K r), M3) ∧
      M2.get b = .cells own (rowsC l ++ rest) ∧ JSt n jb (i + 1) (takeR n K r) S' ρ' M3 ∧ M.size ≤ M3.size ∧ ∀ j, j < M.size → Out S ρ j → M3.get j = M.get j ∧ Out S' ρ' j := by
  obtain ⟨d1, e1⟩ := oA_row hs.st.top r
  have x1 := growM_ext M d1
  obtain ⟨M2, S', ρ', e2, s2, z2, f2⟩ := add_run (hs.st.ext x1) h1 h4 hr hi k hk
  have fr : ∀ j, j < M.size → Out S ρ j → M2.get j = M.get j ∧ Out S' ρ' j := fun j hj ho => by
    obtain ⟨g1, g2⟩ := f2 j (Nat.lt_of_lt_of_le hj x1.size) ho
    exact ⟨g1.trans (x1.get j hj), g2⟩
  have hsz : M.size ≤ M2.size := Nat.le_trans x1.size z2
  have key : ∃ d3, oA 14 [.int .i64 n, kv, .agg ⟨rowR r⟩] M2 = some (.int .i64 (wrongR n K r), growM M2 d3) := by
    rcases hs.kept with ⟨rfl, rfl⟩ | ⟨bk, rfl, hbk, hlt, _, ho⟩
    · exact oA_wrn s2.top n h1 r
    · exact oA_wrs (own := true) (rest := []) s2.top (fun x hx => by simp at hx) (Nat.lt_of_lt_of_le hlt hsz) (by rw [List.append_nil, (fr bk hlt ho).1]; exact hbk) (by have := hs.klen; omega) h1 h4 r hr
  obtain ⟨d3, e3⟩ := key
  have x3 := growM_ext M2 d3
  refine ⟨_, M2, _, S', ρ', callN_o hk e1 (by kernel_rfl), e2, callN_o hk e3 (by kernel_rfl), (fr b hs.bM hs.bρ).1.trans hs.blk, s2.ext x3, Nat.le_trans hsz x3.size, fun j hj ho => ⟨(x3.get j (Nat.lt_of_lt_of_le hj hsz)).trans (fr j hj ho).1, (fr j hj ho).2⟩⟩
end
end
end Go.Proofs.Ytfpbiojnbffkpaa
/-
  JAdds2: one turn of JudgeAdds' loop over the rows, and the loop.
-/
namespace Go.Proofs.Ytfpbiojnbffkpaa
open Go Go.DI Go.Proofs Go.Jud
noncomputable section
theorem r14_eq {α : Type} (cf : Y.CF α) (L : Y.LK α) (k : Nat) (t : Tmps) (m : Mem) (q : Y.ExK α) : Y.codeF (Y.loopC jaX 0) Try.prog kp 0 (Y.cfT Try.prog cf) L 103 k t m q = Y.opsF r14 Try.prog kp 0 (Y.cfT Try.prog cf) 103 r14 t m fun t m => q .normal t m := rfl
theorem und22 : Try.prog.underlying 22 = some (.slice 37) := by kernel_rfl
theorem sz37 : szOf Try.prog 37 = some 43 := by kernel_rfl
theorem by37 : bytesOf Try.prog 37 = some 120 := by kernel_rfl
theorem ze37 : (zerosD Try.prog 37 1).isSome = true := by kernel_rfl
section
variable {n : Int} {b jb i : Nat} {own : Bool} {sp : Option Nat} {cap : Nat} {l : List RowT} {rest : List Value} {K : List RowT} {S : JS} {ρ : Nat → Nat} {kv : Value} {M : Mem}
set_option maxHeartbeats 4000000 in
theorem adds_turn (h1 : 1 ≤ n) (h4 : n ≤ 4) (hlen : l.length ≤ 100000) (hs : AddsSt n b own l rest jb i K S ρ kv M) (hlt : i < l.length) (hr : ∀ r ∈ l, Rng r) (k : Nat) (hk : 1 ≤ k) (x : Nat → Value) (v9 v10 v11 : Value) :
    ∃ K' S' ρ' kv' M' X v9', codeD Try.prog kp 0 (callN Try.prog kp 0 oA k) (drawD Try.prog kp 0 (callN Try.prog kp 0 oA k) 103) 103 k (loopN Try.f5 0) (fullN 103 (up x [(0, .int .i64 n), (1, .slice (some ⟨b, 0, sp⟩) l.length cap), (4, .bool false), (5, .pointer (some ⟨jb, 0, none⟩)), (7, kv), (8, .int .i64 (i : Int)), (9, v9), (10, v10), (11, v11)])) M = some (.normal, (fullN 103 (up X [(0, .int .i64 n), (1, .slice (some ⟨b, 0, sp⟩) l.length cap), (4, .bool false), (5, .pointer (some ⟨jb, 0, none⟩)), (7, kv'), (8, .int .i64 ((i + 1 : Nat) : Int)), (9, v9'), (10, v10), (11, v11)])), M') ∧ AddsSt n b own l rest jb (i + 1) K' S' ρ' kv' M' ∧ K' = takeR n K l[i] := by
  have hT := Y.callN_typed Try.prog kp 0 oA k
  have hg : l[i]? = some l[i] := List.getElem?_eq_getElem hlt
  generalize hre : l[i] = r at hg
  have hrr : Rng r := hr r (by rw [← hre]; exact List.getElem_mem _)
  obtain ⟨M1, M2, M3, S', ρ', c1, c2, c3, hM2, s3, z3, f3⟩ := adds_calls h1 h4 hs hrr (by omega) k hk
  have hM3 : M3.get b = .cells own (rowsC l ++ rest) := (f3 b hs.bM hs.bρ).1.trans hs.blk
  have hbM3 : b < M3.size := Nat.lt_of_lt_of_le hs.bM z3
  have hrow : rowC r.k r.w r.t r.i r.e r.s r.st r.c r.tr r.y r.h r.v = rowR r := rfl
  have hK : (takeR n K r).length ≤ i + 1 := by
    unfold takeR
    have := hs.klen
    split
    · rw [List.length_append]; simp; omega
    · omega
  rcases hs.kept with ⟨hK0, rfl⟩ | ⟨bk, rfl, hbk, hlt2, hne, ho⟩
  · have hb := (Y.step_eq Try.prog kp 0 hT 103 k (loopN Try.f5 0) (fullN 103 (up x [(0, .int .i64 n), (1, .slice (some ⟨b, 0, sp⟩) l.length cap), (4, .bool false), (5, .pointer (some ⟨jb, 0, none⟩)), (7, .slice none 0 0), (8, .int .i64 (i : Int)), (9, v9), (10, v10), (11, v11)])) M).trans ((mark_eq 14 Try.prog kp 0 _ _ 103 k (loopN Try.f5 0) (by kernel_rfl) _ M _).trans (t_jaA_k0 (L := onceL) (v8 := undef) ..))
    simp only [lt_len hlt, cond_true, cond_false, onNat_c, blt_t hlt, hs.blk, hM2, hM3, cells_c, rows_ble hlt, rows_sub hg, cfOf_at, c1, c2, c3, onV, asAgg_a, asInt_i, kEq_ii, eqF_t (rfl : wrongR n K r = wrongR n K r), bnot_t, wrap_succ (show i ≤ 1000000 by omega)] at hb
    by_cases hw : wrongR n K r = 0
    · rw [eqF_t hw] at hb
      simp only [cond_true] at hb
      rw [once_eq, r14_eq, opsF_cut 5, t_jaP_k0 (v8 := undef)] at hb
      simp only [lt_len hlt, cond_true, cond_false, onNat_c, blt_t hlt, hs.blk, hM2, hM3, cells_c, rows_ble hlt, rows_sub hg, cfOf_at, c1, c2, c3, onV, asAgg_a, asInt_i, kEq_ii, eqF_t (rfl : wrongR n K r = wrongR n K r), bnot_t, wrap_succ (show i ≤ 1000000 by omega)] at hb
      rw [← hrow, t_jaQ, hrow, Y.appendF_eq] at hb
      rw [append_first und22 sz37 by37 ze37 (Mem.get_push_same _ _) (rowR_len r) (row_one r)] at hb
      simp only [onV] at hb
      rw [t_jaK (v8 := undef)] at hb
      simp only [wrap_succ (show i ≤ 1000000 by omega)] at hb
      have ht : takeR n K r = [r] := by unfold takeR; rw [if_pos hw, hK0]; rfl
      have x4 : Ext M3 ((M3.push (.cells true (rowR r))).push (.cells true (rowR r))) := (Ext.push _ _).trans (Ext.push _ _)
      refine ⟨_, S', ρ', _, _, _, _, hb, ⟨s3.ext x4, hK, (x4.get b hbM3).trans hM3, Nat.lt_of_lt_of_le hbM3 x4.size, (f3 b hs.bM hs.bρ).2, .inr ⟨(M3.push (.cells true (rowR r))).size, ?_, ?_, ?_, ?_, ?_⟩⟩, rfl⟩
      · rw [ht]; rfl
      · rw [ht, Mem.get_push_same]; simp [rowsC]
      · simp
      · simp; omega
      · intro j hj e
        have := s3.holds.lt j hj
        have e' : ρ' j = M3.size + 1 := e
        omega
    · rw [eqF_f hw] at hb
      have ht : takeR n K r = K := by unfold takeR; rw [if_neg hw]
      exact ⟨_, S', ρ', _, _, _, _, hb, ⟨s3, hK, hM3, hbM3, (f3 b hs.bM hs.bρ).2, .inl ⟨ht.trans hK0, rfl⟩⟩, rfl⟩
  · have hb := (Y.step_eq Try.prog kp 0 hT 103 k (loopN Try.f5 0) (fullN 103 (up x [(0, .int .i64 n), (1, .slice (some ⟨b, 0, sp⟩) l.length cap), (4, .bool false), (5, .pointer (some ⟨jb, 0, none⟩)), (7, .slice (some ⟨bk, 0, some 43⟩) K.length K.length), (8, .int .i64 (i : Int)), (9, v9), (10, v10), (11, v11)])) M).trans ((mark_eq 14 Try.prog kp 0 _ _ 103 k (loopN Try.f5 0) (by kernel_rfl) _ M _).trans (t_jaA_k1 (L := onceL) (v8 := undef) ..))
    simp only [lt_len hlt, cond_true, cond_false, onNat_c, blt_t hlt, hs.blk, hM2, hM3, cells_c, rows_ble hlt, rows_sub hg, cfOf_at, c1, c2, c3, onV, asAgg_a, asInt_i, kEq_ii, eqF_t (rfl : wrongR n K r = wrongR n K r), bnot_t, wrap_succ (show i ≤ 1000000 by omega)] at hb
    by_cases hw : wrongR n K r = 0
    · rw [eqF_t hw] at hb
      simp only [cond_true] at hb
      rw [once_eq, r14_eq, opsF_cut 5, t_jaP_k1 (v8 := undef)] at hb
      simp only [lt_len hlt, cond_true, cond_false, onNat_c, blt_t hlt, hs.blk, hM2, hM3, cells_c, rows_ble hlt, rows_sub hg, cfOf_at, c1, c2, c3, onV, asAgg_a, asInt_i, kEq_ii, eqF_t (rfl : wrongR n K r = wrongR n K r), bnot_t, wrap_succ (show i ≤ 1000000 by omega)] at hb
      rw [← hrow, t_jaQ, hrow, Y.appendF_eq] at hb
      have hzb : (M3.push (.cells true (rowR r))).get bk = .cells true (rowsC K) := by
        rw [Mem.get_push_ne _ (by omega)]; exact (f3 bk hlt2 ho).1.trans hbk
      rw [append_more und22 sz37 by37 ze37 (Mem.get_push_same _ _) (rowR_len r) (row_one r) hzb (rowsC_len K) (rowsC_one K) (by have := hs.klen; omega)] at hb
      simp only [onV] at hb
      rw [t_jaK (v8 := undef)] at hb
      simp only [wrap_succ (show i ≤ 1000000 by omega)] at hb
      have ht : takeR n K r = K ++ [r] := by unfold takeR; rw [if_pos hw]
      have hb3 : bk < M3.size := Nat.lt_of_lt_of_le hlt2 z3
      have x4 : Ext M3 ((M3.push (.cells true (rowR r))).push (.cells true (rowsC K ++ rowR r))) := (Ext.push _ _).trans (Ext.push _ _)
      refine ⟨_, S', ρ', _, _, _, _, hb, ⟨(s3.ext x4).drop (f3 bk hlt2 ho).2, hK, ?_, Nat.lt_of_lt_of_le hbM3 x4.size, (f3 b hs.bM hs.bρ).2, .inr ⟨(M3.push (.cells true (rowR r))).size, ?_, ?_, ?_, ?_, ?_⟩⟩, rfl⟩
      · rw [Mem.get_set_ne _ (Ne.symm hne)]; exact (x4.get b hbM3).trans hM3
      · rw [ht, List.length_append]; rfl
      · rw [Mem.get_set_ne _ (by simp; omega), Mem.get_push_same, ht, rowsC_snoc]
      · show _ < _ + 1
        simp
      · simp; omega
      · intro j hj e
        have := s3.holds.lt j hj
        have e' : ρ' j = M3.size + 1 := e
        omega
    · rw [eqF_f hw] at hb
      have ht : takeR n K r = K := by unfold takeR; rw [if_neg hw]
      exact ⟨_, S', ρ', _, _, _, _, hb, ⟨s3, hK, hM3, hbM3, (f3 b hs.bM hs.bρ).2, .inr ⟨bk, by rw [ht], by rw [ht]; exact (f3 bk hlt2 ho).1.trans hbk, Nat.lt_of_lt_of_le hlt2 z3, hne, (f3 bk hlt2 ho).2⟩⟩, rfl⟩
theorem adds_loop (h1 : 1 ≤ n) (h4 : n ≤ 4) (hlen : l.length ≤ 100000) (hr : ∀ r ∈ l, Rng r) (k : Nat) (hk : 1 ≤ k) (v10 v11 : Value) : ∀ (d i : Nat) (K : List RowT) (S : JS) (ρ : Nat → Nat) (kv : Value) (M : Mem) (x : Nat → Value) (v9 : Value) (j : Nat), l.length = i + d → d + 1 ≤ j → AddsSt n b own l rest jb i K S ρ kv M →
    ∃ K' S' ρ' kv' M' X v9', loopD (codeD Try.prog kp 0 (callN Try.prog kp 0 oA k) (drawD Try.prog kp 0 (callN Try.prog kp 0 oA k) 103) 103 k (loopN Try.f5 0)) j (fullN 103 (up x [(0, .int .i64 n), (1, .slice (some ⟨b, 0, sp⟩) l.length cap), (4, .bool false), (5, .pointer (some ⟨jb, 0, none⟩)), (7, kv), (8, .int .i64 (i : Int)), (9, v9), (10, v10), (11, v11)])) M = some (.exit 0, (fullN 103 (up X [(0, .int .i64 n), (1, .slice (some ⟨b, 0, sp⟩) l.length cap), (4, .bool false), (5, .pointer (some ⟨jb, 0, none⟩)), (7, kv'), (8, .int .i64 (l.length : Int)), (9, v9'), (10, v10), (11, v11)])), M') ∧ AddsSt n b own l rest jb l.length K' S' ρ' kv' M'
  | 0, i, K, S, ρ, kv, M, x, v9, j, hi, hj, hs => by
    obtain ⟨j, rfl⟩ : ∃ j', j = j' + 1 := ⟨j - 1, by omega⟩
    obtain rfl : i = l.length := by omega
    have hT := Y.callN_typed Try.prog kp 0 oA k
    have key : ∃ X, codeD Try.prog kp 0 (callN Try.prog kp 0 oA k) (drawD Try.prog kp 0 (callN Try.prog kp 0 oA k) 103) 103 k (loopN Try.f5 0) (fullN 103 (up x [(0, .int .i64 n), (1, .slice (some ⟨b, 0, sp⟩) l.length cap), (4, .bool false), (5, .pointer (some ⟨jb, 0, none⟩)), (7, kv), (8, .int .i64 (l.length : Int)), (9, v9), (10, v10), (11, v11)])) M = some (.exit 0, (fullN 103 (up X [(0, .int .i64 n), (1, .slice (some ⟨b, 0, sp⟩) l.length cap), (4, .bool false), (5, .pointer (some ⟨jb, 0, none⟩)), (7, kv), (8, .int .i64 (l.length : Int)), (9, v9), (10, v10), (11, v11)])), M) := by
      rcases hs.kept with ⟨hK0, rfl⟩ | ⟨bk, rfl, hbk, hlt2, hne, ho⟩
      · have hb := (Y.step_eq Try.prog kp 0 hT 103 k (loopN Try.f5 0) (fullN 103 (up x [(0, .int .i64 n), (1, .slice (some ⟨b, 0, sp⟩) l.length cap), (4, .bool false), (5, .pointer (some ⟨jb, 0, none⟩)), (7, .slice none 0 0), (8, .int .i64 (l.length : Int)), (9, v9), (10, v10), (11, v11)])) M).trans ((mark_eq 14 Try.prog kp 0 _ _ 103 k (loopN Try.f5 0) (by kernel_rfl) _ M _).trans (t_jaA_k0 (L := onceL) (v8 := undef) ..))
        rw [ge_len (Nat.lt_irrefl _)] at hb
        exact ⟨_, hb⟩
      · have hb := (Y.step_eq Try.prog kp 0 hT 103 k (loopN Try.f5 0) (fullN 103 (up x [(0, .int .i64 n), (1, .slice (some ⟨b, 0, sp⟩) l.length cap), (4, .bool false), (5, .pointer (some ⟨jb, 0, none⟩)), (7, .slice (some ⟨bk, 0, some 43⟩) K.length K.length), (8, .int .i64 (l.length : Int)), (9, v9), (10, v10), (11, v11)])) M).trans ((mark_eq 14 Try.prog kp 0 _ _ 103 k (loopN Try.f5 0) (by kernel_rfl) _ M _).trans (t_jaA_k1 (L := onceL) (v8 := undef) ..))
        rw [ge_len (Nat.lt_irrefl _)] at hb
        exact ⟨_, hb⟩
    obtain ⟨X, hX⟩ := key
    exact ⟨K, S, ρ, kv, M, X, v9, loopD_stop j hX (by simp), hs⟩
  | d + 1, i, K, S, ρ, kv, M, x, v9, j, hi, hj, hs => by
    obtain ⟨j, rfl⟩ : ∃ j', j = j' + 1 := ⟨j - 1, by omega⟩
    obtain ⟨K1, S1, ρ1, kv1, M1, X1, w9, hb, hs1, _⟩ := adds_turn (sp := sp) (cap := cap) h1 h4 hlen hs (by omega) hr k hk x v9 v10 v11
    obtain ⟨K2, S2, ρ2, kv2, M2, X2, w92, hb2, hs2⟩ := adds_loop h1 h4 hlen hr k hk v10 v11 d (i + 1) K1 S1 ρ1 kv1 M1 X1 w9 j (by omega) (by omega) hs1
    exact ⟨K2, S2, ρ2, kv2, M2, X2, w92, (loopD_next j hb).trans hb2, hs2⟩
end
end
end Go.Proofs.Ytfpbiojnbffkpaa
/-
  JAdds3: JudgeAdds' loop over the nodes; all of it.
-/
namespace Go.Proofs.Ytfpbiojnbffkpaa
open Go Go.DI Go.Proofs Go.Jud
noncomputable section
structure AddsB (n : Int) (jb i : Nat) (K : List RowT) (S : JS) (ρ : Nat → Nat) (kv : Value) (M : Mem) : Prop where
  st : JSt n jb i K S ρ M
  klen : K.length ≤ 100000
  kept : (K = [] ∧ kv = .slice none 0 0) ∨ ∃ bk, kv = .slice (some ⟨bk, 0, some 43⟩) K.length K.length ∧ M.get bk = .cells true (rowsC K) ∧ bk < M.size
theorem wrap_up {a : Int} (h : -1 ≤ a ∧ a ≤ 6) : IntKind.wrap .i64 (Int.add a 1) = a + 1 := IntWalk.i64_in _ (by show _ ≤ a + 1 ∧ a + 1 ≤ _; omega)
section
variable {n : Int} {jb i : Nat} {K : List RowT} {S : JS} {ρ : Nat → Nat} {kv : Value} {M : Mem}
theorem adds_ep (h1 : 1 ≤ n) (h4 : n ≤ 4) (hs : AddsB n jb i K S ρ kv M) (a : Int) (k : Nat) (hk : K.length + 2 ≤ k) :
    ∃ M', callN Try.prog kp 0 oA k 15 [kv, .int .i64 a] M = some (.int .i64 (epochR K a 0), M') ∧ AddsB n jb i K S ρ kv M' := by
  rcases hs.kept with ⟨hK0, rfl⟩ | ⟨bk, rfl, hbk, hlt⟩
  · obtain ⟨d, e⟩ := oA_epn hs.st.top a
    refine ⟨growM M d, ?_, ⟨hs.st.ext (growM_ext M d), hs.klen, .inl ⟨hK0, rfl⟩⟩⟩
    rw [hK0]
    exact callN_o (by omega) e (by kernel_rfl)
  · refine ⟨M, ?_, hs⟩
    exact epoch_run (rest := []) hs.klen (by rw [List.append_nil]; exact hbk) oA a k hk (fun a c n m => oA_15s ..)
theorem adds_jep (h1 : 1 ≤ n) (h4 : n ≤ 4) (hs : AddsB n jb i K S ρ kv M) (a : Int) (k : Nat) (hk : 1 ≤ k) :
    callN Try.prog kp 0 oA k 16 [.pointer (some ⟨jb, 0, none⟩), .int .i64 a] M = some (.int .i64 (if a < 1 ∨ n < a then 0 else epochR K a 0), M) := by
  have h := jep_run oA k hk (fun a m => oA_none 16 (by decide) a m) hs.st.holds (by rw [hs.st.inv.nodes]; exact h4) a
  rw [hs.st.jb0, hs.st.inv.nodes] at h
  rw [h]
  by_cases g : a < 1 ∨ n < a
  · rw [if_pos g, if_pos g]
  · rw [if_neg g, if_neg g, hs.st.inv.ep a (by omega) (by omega)]
set_option maxHeartbeats 4000000 in
theorem addsB_turn (h1 : 1 ≤ n) (h4 : n ≤ 4) (hs : AddsB n jb i K S ρ kv M) (a : Int) (ha : -1 ≤ a ∧ a ≤ 6) (k : Nat) (hk : K.length + 2 ≤ k) (x : Nat → Value) (v1 v8 v9 v11 : Value) :
    ∃ M' X v11', codeD Try.prog kp 0 (callN Try.prog kp 0 oA k) (drawD Try.prog kp 0 (callN Try.prog kp 0 oA k) 103) 103 k (loopN Try.f5 1) (fullN 103 (up x [(0, .int .i64 n), (1, v1), (4, .bool false), (5, .pointer (some ⟨jb, 0, none⟩)), (7, kv), (8, v8), (9, v9), (10, .int .i64 a), (11, v11)])) M = some (.normal, (fullN 103 (up X [(0, .int .i64 n), (1, v1), (4, .bool false), (5, .pointer (some ⟨jb, 0, none⟩)), (7, kv), (8, v8), (9, v9), (10, .int .i64 (a + 1)), (11, v11')])), M') ∧ AddsB n jb i K S ρ kv M' := by
  have hT := Y.callN_typed Try.prog kp 0 oA k
  rcases id hs.kept with ⟨hK0, rfl⟩ | ⟨bk, rfl, hbk, hlt⟩
  · have hb := (Y.step_eq Try.prog kp 0 hT 103 k (loopN Try.f5 1) (fullN 103 (up x [(0, .int .i64 n), (1, v1), (4, .bool false), (5, .pointer (some ⟨jb, 0, none⟩)), (7, .slice none 0 0), (8, v8), (9, v9), (10, .int .i64 a), (11, v11)])) M).trans (t_jaB_k0 (v10 := undef) ..)
    by_cases g1 : a < 1
    · have c0 := adds_jep h1 h4 hs a k (by omega)
      rw [if_pos (.inl g1)] at c0
      simp only [ltF_f (show ¬ (6 : Int) < a by omega), cond_true, cond_false, cfOf_at, c0, onV, asInt_i, kEq_ii, bnot_t, bnot_f, wrap_up (show -1 ≤ a ∧ a ≤ 6 by omega), ltF_t g1, eqF_t (rfl : (0 : Int) = 0)] at hb
      exact ⟨M, _, _, hb, hs⟩
    by_cases g2 : n < a
    · have c0 := adds_jep h1 h4 hs a k (by omega)
      rw [if_pos (.inr g2)] at c0
      simp only [ltF_f (show ¬ (6 : Int) < a by omega), cond_true, cond_false, cfOf_at, c0, onV, asInt_i, kEq_ii, bnot_t, bnot_f, wrap_up (show -1 ≤ a ∧ a ≤ 6 by omega), ltF_f g1, ltF_t g2, eqF_t (rfl : (0 : Int) = 0)] at hb
      exact ⟨M, _, _, hb, hs⟩
    obtain ⟨M1, c0, hs1⟩ := adds_ep h1 h4 hs a k hk
    have c1 := adds_jep h1 h4 hs1 a k (by omega)
    rw [if_neg (fun e => e.elim g1 g2)] at c1
    simp only [ltF_f (show ¬ (6 : Int) < a by omega), cond_true, cond_false, cfOf_at, c0, onV, asInt_i, kEq_ii, bnot_t, bnot_f, wrap_up (show -1 ≤ a ∧ a ≤ 6 by omega), c1, ltF_f g1, ltF_f g2, eqF_t (rfl : epochR K a 0 = epochR K a 0)] at hb
    exact ⟨M1, _, _, hb, hs1⟩
  · have hb := (Y.step_eq Try.prog kp 0 hT 103 k (loopN Try.f5 1) (fullN 103 (up x [(0, .int .i64 n), (1, v1), (4, .bool false), (5, .pointer (some ⟨jb, 0, none⟩)), (7, .slice (some ⟨bk, 0, some 43⟩) K.length K.length), (8, v8), (9, v9), (10, .int .i64 a), (11, v11)])) M).trans (t_jaB_k1 (v10 := undef) ..)
    by_cases g1 : a < 1
    · have c0 := adds_jep h1 h4 hs a k (by omega)
      rw [if_pos (.inl g1)] at c0
      simp only [ltF_f (show ¬ (6 : Int) < a by omega), cond_true, cond_false, cfOf_at, c0, onV, asInt_i, kEq_ii, bnot_t, bnot_f, wrap_up (show -1 ≤ a ∧ a ≤ 6 by omega), ltF_t g1, eqF_t (rfl : (0 : Int) = 0)] at hb
      exact ⟨M, _, _, hb, hs⟩
    by_cases g2 : n < a
    · have c0 := adds_jep h1 h4 hs a k (by omega)
      rw [if_pos (.inr g2)] at c0
      simp only [ltF_f (show ¬ (6 : Int) < a by omega), cond_true, cond_false, cfOf_at, c0, onV, asInt_i, kEq_ii, bnot_t, bnot_f, wrap_up (show -1 ≤ a ∧ a ≤ 6 by omega), ltF_f g1, ltF_t g2, eqF_t (rfl : (0 : Int) = 0)] at hb
      exact ⟨M, _, _, hb, hs⟩
    obtain ⟨M1, c0, hs1⟩ := adds_ep h1 h4 hs a k hk
    have c1 := adds_jep h1 h4 hs1 a k (by omega)
    rw [if_neg (fun e => e.elim g1 g2)] at c1
    simp only [ltF_f (show ¬ (6 : Int) < a by omega), cond_true, cond_false, cfOf_at, c0, onV, asInt_i, kEq_ii, bnot_t, bnot_f, wrap_up (show -1 ≤ a ∧ a ≤ 6 by omega), c1, ltF_f g1, ltF_f g2, eqF_t (rfl : epochR K a 0 = epochR K a 0)] at hb
    exact ⟨M1, _, _, hb, hs1⟩
theorem addsB_loop (h1 : 1 ≤ n) (h4 : n ≤ 4) (k : Nat) (hk : K.length + 2 ≤ k) (v1 v8 v9 : Value) : ∀ (d : Nat) (a : Int) (M : Mem) (x : Nat → Value) (v11 : Value) (j : Nat), -1 ≤ a → a + d = 7 → d + 1 ≤ j → AddsB n jb i K S ρ kv M →
    ∃ M' X v11', loopD (codeD Try.prog kp 0 (callN Try.prog kp 0 oA k) (drawD Try.prog kp 0 (callN Try.prog kp 0 oA k) 103) 103 k (loopN Try.f5 1)) j (fullN 103 (up x [(0, .int .i64 n), (1, v1), (4, .bool false), (5, .pointer (some ⟨jb, 0, none⟩)), (7, kv), (8, v8), (9, v9), (10, .int .i64 a), (11, v11)])) M = some (.exit 2, (fullN 103 (up X [(0, .int .i64 n), (1, v1), (4, .bool false), (5, .pointer (some ⟨jb, 0, none⟩)), (7, kv), (8, v8), (9, v9), (10, .int .i64 7), (11, v11')])), M') ∧ AddsB n jb i K S ρ kv M'
  | 0, a, M, x, v11, j, ha, hd, hj, hs => by
    obtain ⟨j, rfl⟩ : ∃ j', j = j' + 1 := ⟨j - 1, by omega⟩
    obtain rfl : a = 7 := by omega
    have hT := Y.callN_typed Try.prog kp 0 oA k
    have key : ∃ X, codeD Try.prog kp 0 (callN Try.prog kp 0 oA k) (drawD Try.prog kp 0 (callN Try.prog kp 0 oA k) 103) 103 k (loopN Try.f5 1) (fullN 103 (up x [(0, .int .i64 n), (1, v1), (4, .bool false), (5, .pointer (some ⟨jb, 0, none⟩)), (7, kv), (8, v8), (9, v9), (10, .int .i64 7), (11, v11)])) M = some (.exit 2, (fullN 103 (up X [(0, .int .i64 n), (1, v1), (4, .bool false), (5, .pointer (some ⟨jb, 0, none⟩)), (7, kv), (8, v8), (9, v9), (10, .int .i64 7), (11, v11)])), M) := by
      rcases hs.kept with ⟨hK0, rfl⟩ | ⟨bk, rfl, hbk, hlt⟩
      · have hb := (Y.step_eq Try.prog kp 0 hT 103 k (loopN Try.f5 1) (fullN 103 (up x [(0, .int .i64 n), (1, v1), (4, .bool false), (5, .pointer (some ⟨jb, 0, none⟩)), (7, .slice none 0 0), (8, v8), (9, v9), (10, .int .i64 7), (11, v11)])) M).trans (t_jaB_k0 (v10 := undef) ..)
        rw [ltF_t (show (6 : Int) < 7 by omega)] at hb
        exact ⟨_, hb⟩
      · have hb := (Y.step_eq Try.prog kp 0 hT 103 k (loopN Try.f5 1) (fullN 103 (up x [(0, .int .i64 n), (1, v1), (4, .bool false), (5, .pointer (some ⟨jb, 0, none⟩)), (7, .slice (some ⟨bk, 0, some 43⟩) K.length K.length), (8, v8), (9, v9), (10, .int .i64 7), (11, v11)])) M).trans (t_jaB_k1 (v10 := undef) ..)
        rw [ltF_t (show (6 : Int) < 7 by omega)] at hb
        exact ⟨_, hb⟩
    obtain ⟨X, hX⟩ := key
    exact ⟨M, X, v11, loopD_stop j hX (by simp), hs⟩
  | d + 1, a, M, x, v11, j, ha, hd, hj, hs => by
    obtain ⟨j, rfl⟩ : ∃ j', j = j' + 1 := ⟨j - 1, by omega⟩
    obtain ⟨M1, X1, w, hb, hs1⟩ := addsB_turn h1 h4 hs a (by omega) k hk x v1 v8 v9 v11
    obtain ⟨M2, X2, w2, hb2, hs2⟩ := addsB_loop h1 h4 k hk v1 v8 v9 d (a + 1) M1 X1 w j (by omega) (by omega) (by omega) hs1
    exact ⟨M2, X2, w2, (loopD_next j hb).trans hb2, hs2⟩
end
theorem adds_cf (k : Nat) (hk : 1 ≤ k) (f : FuncId) (a : List Value) (m : Mem) (q : Value → Mem → Option (Value × Mem)) : cfN (Y.cfOf (callN Try.prog kp 0 oA k)) f a m q = onV (callN Try.prog kp 0 oA k f a m) q :=
  cfN_of _ (Y.callN_typed Try.prog kp 0 oA k) (fun n m => new_run oA k hk (fun a m => oA_none 12 (by decide) a m) n m) f a m q
section
variable {n : Int} {b : Nat} {own : Bool} {sp : Option Nat} {cap : Nat} {l : List RowT} {rest : List Value} {m : Mem}
set_option maxHeartbeats 4000000 in
theorem adds_run (n : Int) (ht : m.top) (hm : m.get b = .cells own (rowsC l ++ rest)) (hb : b < m.size) (hr : ∀ r ∈ l, Rng r) (k : Nat) (hk : 300 ≤ k) : ∃ m', callN Try.prog kp 0 oA k 5 [.int .i64 n, .slice (some ⟨b, 0, sp⟩) l.length cap] m = some (.bool true, m') := by
  obtain ⟨k, rfl⟩ : ∃ k', k = k' + 1 := ⟨k - 1, by omega⟩
  suffices hh : ∃ m', bodyN Try.prog kp 0 (callN Try.prog kp 0 oA k) k 5 [.int .i64 n, .slice (some ⟨b, 0, sp⟩) l.length cap] m = some (.bool true, m') by
    obtain ⟨m', h⟩ := hh
    refine ⟨m', ?_⟩
    simp only [callN, oA_none 5 (by decide)]
    exact (congrArg (filtR Try.prog _) h).trans (filt_b _ _ (by kernel_rfl))
  have hB := (body_eqN (k := k) (adds_cf k (by omega)) (c := bodyOf Try.f5) (fn := Try.f5) 103 (show Try.prog.funcs[5]? = some Try.f5 by kernel_rfl) (by kernel_rfl) [.int .i64 n, .slice (some ⟨b, 0, sp⟩) l.length cap] (by kernel_rfl) m).trans (t_ja_in ..)
  have hw := fun M => call_wakes k (by omega) M
  by_cases g1 : n < 1
  · simp only [ltF_t g1, cond_true, cfOf_at, hw, onV, asBo_b] at hB
    exact ⟨_, hB⟩
  by_cases g4 : 4 < n
  · simp only [ltF_f g1, ltF_t g4, cond_true, cond_false, cfOf_at, hw, onV, asBo_b] at hB
    exact ⟨_, hB⟩
  simp only [ltF_f g1, ltF_f g4, cond_true, cond_false, cfOf_at, hw, onV, asBo_b] at hB
  by_cases g5 : 250 < l.length
  · rw [ltF_t (show (250 : Int) < Int.ofNat l.length by show (250 : Int) < (l.length : Int); omega)] at hB
    exact ⟨_, hB⟩
  rw [ltF_f (show ¬ (250 : Int) < Int.ofNat l.length by show ¬ (250 : Int) < (l.length : Int); omega)] at hB
  simp only [cond_false] at hB
  have hl : l.length ≤ 250 := by omega
  have xN := newM_ext m n
  have s0 : AddsSt n b own l rest (m.size + 7) 0 [] (JS.new n) (rhoN m.size) (.slice none 0 0) (newM m n) := ⟨new_st (by omega) (by omega) ht, Nat.le_refl _, (xN.get b hb).trans hm, Nat.lt_of_lt_of_le hb xN.size, new_out n m hb, .inl ⟨rfl, rfl⟩⟩
  rw [Y.lpOf_eq, Y.loopC_body] at hB
  obtain ⟨K, S, ρ, kv, M, X, v9, hA, sA⟩ := adds_loop (sp := sp) (cap := cap) (by omega) (by omega) (by omega) hr k (by omega) (.tuple ⟨[]⟩) (.tuple ⟨[]⟩) l.length 0 [] (JS.new n) (rhoN m.size) (.slice none 0 0) (newM m n) _ (.tuple ⟨[]⟩) k (by omega) (by omega) s0
  have hB := hB.trans ((congrArg (fun z => Y.onE z _) hA).trans ((Y.onE_some ..).trans (t_jaA_o (v10 := undef) ..)))
  have hKl := sA.klen
  have sB : AddsB n (m.size + 7) l.length K S ρ kv M := ⟨sA.st, by omega, sA.kept.imp id (fun ⟨bk, e1, e2, e3, _⟩ => ⟨bk, e1, e2, e3⟩)⟩
  rw [Y.lpOf_eq, Y.loopC_body] at hB
  obtain ⟨M2, X2, w2, hC, sC⟩ := addsB_loop (by omega) (by omega) k (by omega) _ _ _ 8 (-1) _ _ _ k (by omega) (by omega) (by omega) sB
  have hB := hB.trans ((congrArg (fun z => Y.onE z _) hC).trans ((Y.onE_some ..).trans (t_jaB_o ..)))
  simp only [cfOf_at, hw, onV, asBo_b, cond_true] at hB
  exact ⟨_, hB⟩
set_option maxHeartbeats 4000000 in
theorem adds_run0 (n : Int) (ht : m.top) (k : Nat) (hk : 300 ≤ k) : ∃ m', callN Try.prog kp 0 oA k 5 [.int .i64 n, .slice none 0 0] m = some (.bool true, m') := by
  obtain ⟨k, rfl⟩ : ∃ k', k = k' + 1 := ⟨k - 1, by omega⟩
  suffices hh : ∃ m', bodyN Try.prog kp 0 (callN Try.prog kp 0 oA k) k 5 [.int .i64 n, .slice none 0 0] m = some (.bool true, m') by
    obtain ⟨m', h⟩ := hh
    refine ⟨m', ?_⟩
    simp only [callN, oA_none 5 (by decide)]
    exact (congrArg (filtR Try.prog _) h).trans (filt_b _ _ (by kernel_rfl))
  have hB := (body_eqN (k := k) (adds_cf k (by omega)) (c := bodyOf Try.f5) (fn := Try.f5) 103 (show Try.prog.funcs[5]? = some Try.f5 by kernel_rfl) (by kernel_rfl) [.int .i64 n, .slice none 0 0] (by kernel_rfl) m).trans (t_ja_in0 ..)
  have hw := fun M => call_wakes k (by omega) M
  by_cases g1 : n < 1
  · simp only [ltF_t g1, cond_true, cfOf_at, hw, onV, asBo_b] at hB
    exact ⟨_, hB⟩
  by_cases g4 : 4 < n
  · simp only [ltF_f g1, ltF_t g4, cond_true, cond_false, cfOf_at, hw, onV, asBo_b] at hB
    exact ⟨_, hB⟩
  simp only [ltF_f g1, ltF_f g4, cond_true, cond_false, cfOf_at, hw, onV, asBo_b] at hB
  have sB : AddsB n (m.size + 7) 0 [] (JS.new n) (rhoN m.size) (.slice none 0 0) (newM m n) := ⟨new_st (by omega) (by omega) ht, by simp, .inl ⟨rfl, rfl⟩⟩
  rw [Y.lpOf_eq, Y.loopC_body] at hB
  have hKl : ([] : List RowT).length ≤ 250 := by simp
  have hT := Y.callN_typed Try.prog kp 0 oA k
  obtain ⟨j, hj⟩ : ∃ j, k = j + 1 := ⟨k - 1, by omega⟩
  have hA : ∀ x, ∃ X, loopD (codeD Try.prog kp 0 (callN Try.prog kp 0 oA k) (drawD Try.prog kp 0 (callN Try.prog kp 0 oA k) 103) 103 k (loopN Try.f5 0)) k (fullN 103 (up x [(0, .int .i64 n), (1, .slice none 0 0), (4, .bool false), (5, .pointer (some ⟨m.size + 7, 0, none⟩)), (7, .slice none 0 0), (8, .int .i64 0), (9, .tuple ⟨[]⟩), (10, .tuple ⟨[]⟩), (11, .tuple ⟨[]⟩)])) (newM m n) = some (.exit 0, fullN 103 (up X [(0, .int .i64 n), (1, .slice none 0 0), (4, .bool false), (5, .pointer (some ⟨m.size + 7, 0, none⟩)), (7, .slice none 0 0), (8, .int .i64 0), (9, .tuple ⟨[]⟩), (10, .tuple ⟨[]⟩), (11, .tuple ⟨[]⟩)]), newM m n) := fun x => by
    have hb := (Y.step_eq Try.prog kp 0 hT 103 k (loopN Try.f5 0) _ (newM m n)).trans (t_jaA_nil (x := x) (i := 0) (v8 := undef) (v9 := .tuple ⟨[]⟩) (v10 := .tuple ⟨[]⟩) (v11 := .tuple ⟨[]⟩) (jb := m.size + 7) (nodes := n) ..)
    rw [ltF_f (show ¬ (0 : Int) < 0 by omega)] at hb
    have hb2 := loopD_stop j hb (by simp)
    rw [← hj] at hb2
    exact ⟨_, hb2⟩
  obtain ⟨X, hA⟩ := hA _
  have hB := hB.trans ((congrArg (fun z => Y.onE z _) hA).trans ((Y.onE_some ..).trans (t_jaA_o (v10 := undef) ..)))
  rw [Y.lpOf_eq, Y.loopC_body] at hB
  obtain ⟨M2, X2, w2, hC, sC⟩ := addsB_loop (by omega) (by omega) k (by omega) _ _ _ 8 (-1) _ _ _ k (by omega) (by omega) (by omega) sB
  have hB := hB.trans ((congrArg (fun z => Y.onE z _) hC).trans ((Y.onE_some ..).trans (t_jaB_o ..)))
  simp only [cfOf_at, hw, onV, asBo_b, cond_true] at hB
  exact ⟨_, hB⟩
end
end
end Go.Proofs.Ytfpbiojnbffkpaa
