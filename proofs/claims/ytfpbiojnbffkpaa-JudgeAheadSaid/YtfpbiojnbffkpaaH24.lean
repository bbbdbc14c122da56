/-
  JAheadA: the loops of JudgeAhead (written by genahead.py).
-/
import Derived.Test.YtfpbiojnbffkpaaH21
import Derived.Test.YtfpbiojnbffkpaaH22
import Derived.Test.YtfpbiojnbffkpaaH23
set_option linter.all false
set_option linter.unusedVariables false
set_option linter.unusedSimpArgs false
namespace Go.Proofs.Ytfpbiojnbffkpaa
open Go Go.DI Go.Proofs Go.Jud
noncomputable section
theorem slice_own (bo no i : Nat) (h : i ≤ no) : Go.DI.sliceD Try.prog 24 (Value.slice (some (Addr.mk bo 0 (some 43))) no no) none (some (Value.int .i64 (i : Int))) none = some (.slice (some ⟨bo, 0, some 43⟩) i no) := by
  unfold sliceD
  rw [und24]
  simp only [sz34]
  have hb : boundsD no no none (some (Value.int .i64 (i : Int))) none = some (0, i, no) := by
    simp [boundsD, boundD, h]
  rw [hb]
  simp [h]
theorem rows_cut2 (l : List RowT) (i : Nat) : rowsC l = rowsC (l.take i) ++ rowsC (l.drop i) := by
  unfold rowsC
  rw [← List.flatMap_append, List.take_append_drop]
theorem rowsC_app (a b : List RowT) : rowsC (a ++ b) = rowsC a ++ rowsC b := by unfold rowsC; rw [List.flatMap_append]
theorem append_nil_n {m : Mem} {b : Nat} {own : Bool} {sp : Option Nat} {l : List RowT} {rest : List Value} {cap : Nat} (hm : m.get b = .cells own (rowsC l ++ rest)) (hl : 0 < l.length) (hbig : l.length ≤ 100000) :
    appendD Try.prog m 24 24 (.slice none 0 0) (.slice (some ⟨b, 0, sp⟩) l.length cap) = some (.slice (some ⟨m.size, 0, some 43⟩) l.length l.length, m.push (.cells true (rowsC l))) := by
  have hf : firstC m 43 l.length (.slice (some ⟨b, 0, sp⟩) l.length cap) = some (rowsC l) := loadC_at hm (rowsC_len l)
  have hf0 : firstC m 43 0 (.slice none 0 0) = some [] := rfl
  have hlen : lenOf (.slice (some ⟨b, 0, sp⟩) l.length cap) = some l.length := rfl
  unfold appendD
  simp only [und24, sz34, by34, hlen, hf, hf0]
  rw [if_neg (by decide), if_neg (by omega), if_pos ⟨by omega, by omega, by omega, ze34⟩, if_pos ⟨by rw [rowsC_one]; rfl, by simp, by rw [rowsC_len]⟩]
  simp
theorem append_rows {m : Mem} {bk z : Nat} {own : Bool} {sp : Option Nat} {l more : List RowT} {rest : List Value} {cap : Nat} (hk : m.get bk = .cells true (rowsC l)) (hm : m.get z = .cells own (rowsC more ++ rest)) (hl : 0 < more.length) (hbig : l.length + more.length ≤ 100000) :
    appendD Try.prog m 24 24 (.slice (some ⟨bk, 0, some 43⟩) l.length l.length) (.slice (some ⟨z, 0, sp⟩) more.length cap) = some (.slice (some ⟨m.size, 0, some 43⟩) (l.length + more.length) (l.length + more.length), (m.push (.cells true (rowsC l ++ rowsC more))).set bk .none) := by
  have hf : firstC m 43 more.length (.slice (some ⟨z, 0, sp⟩) more.length cap) = some (rowsC more) := loadC_at hm (rowsC_len more)
  have hf0 : firstC m 43 l.length (.slice (some ⟨bk, 0, some 43⟩) l.length l.length) = some (rowsC l) := loadC_at (rest := []) (by rw [List.append_nil]; exact hk) (rowsC_len l)
  have hlen : lenOf (.slice (some ⟨z, 0, sp⟩) more.length cap) = some more.length := rfl
  unfold appendD
  simp only [und24, sz34, by34, hlen, hf, hf0]
  rw [if_neg (by decide), if_neg (by omega), if_pos ⟨by omega, by omega, by omega, ze34⟩, if_pos ⟨by rw [rowsC_one, rowsC_one]; rfl, rowsC_len l, by rw [rowsC_len]⟩, if_pos trivial]
  simp only [hk]
theorem append_none {m : Mem} {bk n : Nat} : appendD Try.prog m 24 24 (.slice (some ⟨bk, 0, some 43⟩) n n) (.slice none 0 0) = some (.slice (some ⟨bk, 0, some 43⟩) n n, m) := by
  have hlen : lenOf (.slice none 0 0) = some 0 := rfl
  have hf : firstC m 43 0 (.slice none 0 0) = some [] := rfl
  unfold appendD
  simp only [und24, sz34, by34, hlen, hf]
  simp
set_option maxHeartbeats 4000000 in
theorem t_jh12b {α : Type} (x : Nat → Value) (cf : Y.CF α) (v1 v2 v7 v11 v12 v13 v14 v15 v16 v17 v18 v19 v20 v21 v22 v23 v24 v25 w1 : Value) (n a ru : Int) (m : Mem) (q : Tmps → Mem → Option α) : Y.opsF (List.take 1 (List.drop 5 h12)) Try.prog kp 0 (Y.cfT Try.prog cf) 205 h12 (fullN 205 (up x [(0, .int .i64 n), (1, v1), (2, v2), (6, .bool false), (7, v7), (8, .int .i64 a), (9, .int .i64 ru), (10, .int .i64 0), (11, v11), (12, v12), (13, v13), (14, v14), (15, v15), (16, v16), (17, v17), (18, v18), (19, v19), (20, v20), (21, v21), (22, v22), (23, v23), (24, v24), (25, v25), (106, .int .i64 n), (110, w1)])) m q =
  Y.appendF Try.prog m 24 24 (.slice none 0 0) w1 fun ap m' => q (fullN 205 (up (up x [(110, w1)]) [(0, .int .i64 n), (1, v1), (2, v2), (6, .bool false), (7, v7), (8, .int .i64 a), (9, .int .i64 ru), (10, .int .i64 0), (11, v11), (12, v12), (13, v13), (14, v14), (15, v15), (16, v16), (17, v17), (18, v18), (19, v19), (20, v20), (21, v21), (22, v22), (23, v23), (24, v24), (25, v25), (106, .int .i64 n), (111, ap)])) m' := by kernel_rfl
set_option maxHeartbeats 4000000 in
theorem t_jh12d {α : Type} (x : Nat → Value) (cf : Y.CF α) (v1 v2 v7 v11 v12 v13 v14 v15 v16 v17 v18 v19 v20 v21 v22 v23 v24 v25 w1 w2 : Value) (n a ru : Int) (m : Mem) (q : Tmps → Mem → Option α) : Y.opsF (List.take 1 (List.drop 2 (List.drop 6 h12))) Try.prog kp 0 (Y.cfT Try.prog cf) 205 h12 (fullN 205 (up x [(0, .int .i64 n), (1, v1), (2, v2), (6, .bool false), (7, v7), (8, .int .i64 a), (9, .int .i64 ru), (10, .int .i64 0), (11, v11), (12, v12), (13, v13), (14, v14), (15, v15), (16, v16), (17, v17), (18, v18), (19, v19), (20, v20), (21, v21), (22, v22), (23, v23), (24, v24), (25, v25), (106, .int .i64 n), (111, w1), (113, w2)])) m q =
  Y.appendF Try.prog m 24 24 w1 w2 fun ap m' => q (fullN 205 (up (up x [(111, w1), (113, w2)]) [(0, .int .i64 n), (1, v1), (2, v2), (6, .bool false), (7, v7), (8, .int .i64 a), (9, .int .i64 ru), (10, .int .i64 0), (11, v11), (12, v12), (13, v13), (14, v14), (15, v15), (16, v16), (17, v17), (18, v18), (19, v19), (20, v20), (21, v21), (22, v22), (23, v23), (24, v24), (25, v25), (106, .int .i64 n), (114, ap)])) m' := by kernel_rfl
set_option maxHeartbeats 4000000 in
theorem t_jh29b {α : Type} (x : Nat → Value) (cf : Y.CF α) (v1 v2 v7 v11 v12 v13 v14 v15 v16 v18 v20 v21 v22 v23 v24 v25 row : Value) (n a ru : Int) (jb kb : Nat) (m : Mem) (q : Tmps → Mem → Option α) : Y.opsF (List.drop 5 h29) Try.prog kp 0 (Y.cfT Try.prog cf) 205 h29 (fullN 205 (up x [(0, .int .i64 n), (1, v1), (2, v2), (6, .bool false), (7, v7), (8, .int .i64 a), (9, .int .i64 ru), (10, .int .i64 0), (11, v11), (12, v12), (13, v13), (14, v14), (15, v15), (16, v16), (17, .pointer (some ⟨jb, 0, none⟩)), (18, v18), (19, .pointer (some ⟨kb, 0, none⟩)), (20, v20), (21, v21), (22, v22), (23, v23), (24, v24), (25, v25), (194, row)])) m q =
  Y.storeF Try.prog (m.push (.cells true zrow)) 34 row (.pointer (some ⟨m.size, 0, none⟩)) fun m' => q (fullN 205 (up (up x [(194, row)]) [(0, .int .i64 n), (1, v1), (2, v2), (6, .bool false), (7, v7), (8, .int .i64 a), (9, .int .i64 ru), (10, .int .i64 0), (11, v11), (12, v12), (13, v13), (14, v14), (15, v15), (16, v16), (17, .pointer (some ⟨jb, 0, none⟩)), (18, v18), (19, .pointer (some ⟨kb, 0, none⟩)), (20, v20), (21, v21), (22, v22), (23, .pointer (some ⟨m.size, 0, none⟩)), (24, v24), (25, v25)])) m' := by kernel_rfl
theorem h11_eq {α : Type} (cf : Y.CF α) (L : Y.LK α) (k : Nat) (t : Tmps) (m : Mem) (q : Y.ExK α) : Y.codeF (Y.loopC jhM 1) Try.prog kp 0 (Y.cfT Try.prog cf) L 205 k t m q = Y.opsF h11 Try.prog kp 0 (Y.cfT Try.prog cf) 205 h11 t m fun t m => q .normal t m := rfl
theorem h12_eq {α : Type} (cf : Y.CF α) (L : Y.LK α) (k : Nat) (t : Tmps) (m : Mem) (q : Y.ExK α) : Y.codeF (Y.loopC jhM 2) Try.prog kp 0 (Y.cfT Try.prog cf) L 205 k t m q = Y.opsF h12 Try.prog kp 0 (Y.cfT Try.prog cf) 205 h12 t m fun t m => q .normal t m := rfl
theorem h29_eq {α : Type} (cf : Y.CF α) (L : Y.LK α) (k : Nat) (t : Tmps) (m : Mem) (q : Y.ExK α) : Y.codeF (Y.loopC jhB 0) Try.prog kp 0 (Y.cfT Try.prog cf) L 205 k t m q = Y.opsF h29 Try.prog kp 0 (Y.cfT Try.prog cf) 205 h29 t m fun t m => q .normal t m := rfl
theorem jhM3 : Y.loopC jhM 3 = loopN Try.f4 0 := by kernel_rfl
theorem jhM4 : Y.loopC jhM 4 = loopN Try.f4 1 := by kernel_rfl
theorem wrap_one {a : Nat} (h : a ≤ 1000000) : IntKind.wrap .i64 (Int.add (a : Int) (1 : Int)) = ((a + 1 : Nat) : Int) := wrap_succ h
structure AhSt (n : Int) (jb kb i : Nat) (K : List RowT) (M0 M : Mem) (S T : JS) (ρ σ : Nat → Nat) : Prop where
  two : Two n jb kb i K M S T ρ σ
  size : M0.size ≤ M.size
  get : ∀ j, j < M0.size → M.get j = M0.get j ∧ Out S ρ j ∧ Out T σ j
theorem Two.same {n : Int} {jb kb i : Nat} {K : List RowT} {M M' : Mem} {S T : JS} {ρ σ : Nat → Nat} (h : Two n jb kb i K M S T ρ σ) (g : ∀ j, j < M.size → M'.get j = M.get j) (hs : M.size ≤ M'.size) (ht : M'.top) : Two n jb kb i K M' S T ρ σ :=
  ⟨h.st1.same g hs ht, h.st2.same g hs ht, h.dis⟩
section
variable {n : Int} {bo b2 jb kb i a : Nat} {own : Bool} {sp : Option Nat} {cap : Nat} {l : List RowT} {rest : List Value} {m M : Mem} {S T : JS} {ρ σ : Nat → Nat}
set_option maxHeartbeats 4000000 in
theorem ahA_turn (h1 : 1 ≤ n) (h4 : n ≤ 4) (hm : m.get bo = .cells own (rowsC l ++ rest)) (hb : bo < m.size) (hlen : l.length ≤ 100000) (hr : ∀ r ∈ l, Rng r) (ha : a ≤ l.length) (hok : ∀ i x, i < a → l[i]? = some x → wrongR n (l.take i) x = 0)
    (hs : AhSt n jb kb i (l.take i) m M S T ρ σ) (hlt : i < a) (k : Nat) (hk : 1 ≤ k) (x : Nat → Value) (ru : Int) (v1 v2 v11 v12 v13 v14 v15 v16 v18 v20 v21 v22 v23 v24 v25 : Value) :
    ∃ S' T' ρ' σ' M' X, codeD Try.prog kp 0 (callN Try.prog kp 0 oA k) (drawD Try.prog kp 0 (callN Try.prog kp 0 oA k) 205) 205 k (loopN Try.f4 0) (fullN 205 (up x [(0, .int .i64 n), (1, v1), (2, v2), (6, .bool false), (7, .slice (some ⟨bo, 0, some 43⟩) l.length l.length), (8, .int .i64 (a : Int)), (9, .int .i64 ru), (10, .int .i64 0), (11, v11), (12, v12), (13, v13), (14, v14), (15, v15), (16, v16), (17, .pointer (some ⟨jb, 0, none⟩)), (18, v18), (19, .pointer (some ⟨kb, 0, none⟩)), (20, v20), (21, .int .i64 (i : Int)), (22, v22), (23, v23), (24, v24), (25, v25)])) M = some (.normal, (fullN 205 (up X [(0, .int .i64 n), (1, v1), (2, v2), (6, .bool false), (7, .slice (some ⟨bo, 0, some 43⟩) l.length l.length), (8, .int .i64 (a : Int)), (9, .int .i64 ru), (10, .int .i64 0), (11, v11), (12, v12), (13, v13), (14, v14), (15, v15), (16, v16), (17, .pointer (some ⟨jb, 0, none⟩)), (18, v18), (19, .pointer (some ⟨kb, 0, none⟩)), (20, v20), (21, .int .i64 ((i + 1 : Nat) : Int)), (22, v22), (23, v23), (24, v24), (25, v25)])), M') ∧ AhSt n jb kb (i + 1) (l.take (i + 1)) m M' S' T' ρ' σ' := by
  have hT := Y.callN_typed Try.prog kp 0 oA k
  have hl : i < l.length := by omega
  have hg : l[i]? = some l[i] := List.getElem?_eq_getElem hl
  generalize hre : l[i] = r at hg
  have hrr : Rng r := hr r (by rw [← hre]; exact List.getElem_mem _)
  have hw := hok i r hlt hg
  have hMb : M.get bo = .cells own (rowsC l ++ rest) := (hs.get bo hb).1.trans hm
  obtain ⟨M1, M2, S', T', ρ', σ', c1, c2, s2, z1, z2, f2⟩ := two_add hs.two h1 h4 hrr (by omega) k hk
  have ht : takeR n (l.take i) r = l.take (i + 1) := by unfold takeR; rw [if_pos hw, take_succ hg]
  have hsz := hs.size
  have hM1 : M1.get bo = .cells own (rowsC l ++ rest) := (f2 bo (by omega) (hs.get bo hb).2.1 (hs.get bo hb).2.2).1.trans hMb
  have hb0 := (Y.step_eq Try.prog kp 0 hT 205 k (loopN Try.f4 0) (fullN 205 (up x [(0, .int .i64 n), (1, v1), (2, v2), (6, .bool false), (7, .slice (some ⟨bo, 0, some 43⟩) l.length l.length), (8, .int .i64 (a : Int)), (9, .int .i64 ru), (10, .int .i64 0), (11, v11), (12, v12), (13, v13), (14, v14), (15, v15), (16, v16), (17, .pointer (some ⟨jb, 0, none⟩)), (18, v18), (19, .pointer (some ⟨kb, 0, none⟩)), (20, v20), (21, .int .i64 (i : Int)), (22, v22), (23, v23), (24, v24), (25, v25)])) M).trans (t_jhA ..)
  rw [ltF_t (show (i : Int) < (a : Int) by omega)] at hb0
  simp only [cond_true, onNat_c, blt_t hl, hMb, hM1, cells_c, rows_ble hl, rows_sub hg, cfOf_at, c1, c2, onV, asInt_i, kEq_ii, wrap_one (show i ≤ 1000000 by omega)] at hb0
  rw [ht] at s2
  exact ⟨S', T', ρ', σ', M2, _, hb0, s2, by omega, fun j hj => ⟨((f2 j (by omega) (hs.get j hj).2.1 (hs.get j hj).2.2).2.1).trans (hs.get j hj).1, (f2 j (by omega) (hs.get j hj).2.1 (hs.get j hj).2.2).2.2⟩⟩
theorem ahA_loop (h1 : 1 ≤ n) (h4 : n ≤ 4) (hm : m.get bo = .cells own (rowsC l ++ rest)) (hb : bo < m.size) (hlen : l.length ≤ 100000) (hr : ∀ r ∈ l, Rng r) (ha : a ≤ l.length) (hok : ∀ i x, i < a → l[i]? = some x → wrongR n (l.take i) x = 0) (k : Nat) (hk : 1 ≤ k) (ru : Int) (v1 v2 v11 v12 v13 v14 v15 v16 v18 v20 v22 v23 v24 v25 : Value) :
    ∀ (d i : Nat) (S T : JS) (ρ σ : Nat → Nat) (M : Mem) (x : Nat → Value) (jj : Nat), a = i + d → d + 1 ≤ jj → AhSt n jb kb i (l.take i) m M S T ρ σ →
    ∃ S' T' ρ' σ' M' X, loopD (codeD Try.prog kp 0 (callN Try.prog kp 0 oA k) (drawD Try.prog kp 0 (callN Try.prog kp 0 oA k) 205) 205 k (loopN Try.f4 0)) jj (fullN 205 (up x [(0, .int .i64 n), (1, v1), (2, v2), (6, .bool false), (7, .slice (some ⟨bo, 0, some 43⟩) l.length l.length), (8, .int .i64 (a : Int)), (9, .int .i64 ru), (10, .int .i64 0), (11, v11), (12, v12), (13, v13), (14, v14), (15, v15), (16, v16), (17, .pointer (some ⟨jb, 0, none⟩)), (18, v18), (19, .pointer (some ⟨kb, 0, none⟩)), (20, v20), (21, .int .i64 (i : Int)), (22, v22), (23, v23), (24, v24), (25, v25)])) M = some (.exit 0, (fullN 205 (up X [(0, .int .i64 n), (1, v1), (2, v2), (6, .bool false), (7, .slice (some ⟨bo, 0, some 43⟩) l.length l.length), (8, .int .i64 (a : Int)), (9, .int .i64 ru), (10, .int .i64 0), (11, v11), (12, v12), (13, v13), (14, v14), (15, v15), (16, v16), (17, .pointer (some ⟨jb, 0, none⟩)), (18, v18), (19, .pointer (some ⟨kb, 0, none⟩)), (20, v20), (21, .int .i64 (a : Int)), (22, v22), (23, v23), (24, v24), (25, v25)])), M') ∧ AhSt n jb kb a (l.take a) m M' S' T' ρ' σ'
  | 0, i, S, T, ρ, σ, M, x, jj, hi, hj, hs => by
    obtain ⟨jj, rfl⟩ : ∃ j', jj = j' + 1 := ⟨jj - 1, by omega⟩
    obtain rfl : i = a := by omega
    have hT := Y.callN_typed Try.prog kp 0 oA k
    have hb0 := (Y.step_eq Try.prog kp 0 hT 205 k (loopN Try.f4 0) (fullN 205 (up x [(0, .int .i64 n), (1, v1), (2, v2), (6, .bool false), (7, .slice (some ⟨bo, 0, some 43⟩) l.length l.length), (8, .int .i64 (i : Int)), (9, .int .i64 ru), (10, .int .i64 0), (11, v11), (12, v12), (13, v13), (14, v14), (15, v15), (16, v16), (17, .pointer (some ⟨jb, 0, none⟩)), (18, v18), (19, .pointer (some ⟨kb, 0, none⟩)), (20, v20), (21, .int .i64 (i : Int)), (22, v22), (23, v23), (24, v24), (25, v25)])) M).trans (t_jhA ..)
    rw [ltF_f (show ¬ (i : Int) < (i : Int) by omega)] at hb0
    simp only [cond_false] at hb0
    exact ⟨S, T, ρ, σ, M, _, loopD_stop jj hb0 (by simp), hs⟩
  | d + 1, i, S, T, ρ, σ, M, x, jj, hi, hj, hs => by
    obtain ⟨jj, rfl⟩ : ∃ j', jj = j' + 1 := ⟨jj - 1, by omega⟩
    obtain ⟨S1, T1, ρ1, σ1, M1, X1, hb1, hs1⟩ := ahA_turn h1 h4 hm hb hlen hr ha hok hs (show i < a by omega) k hk x ru v1 v2 v11 v12 v13 v14 v15 v16 v18 v20 (.tuple ⟨[]⟩) v22 v23 v24 v25
    obtain ⟨S2, T2, ρ2, σ2, M2, X2, hb2, hs2⟩ := ahA_loop h1 h4 hm hb hlen hr ha hok k hk ru v1 v2 v11 v12 v13 v14 v15 v16 v18 v20 v22 v23 v24 v25 d (i + 1) S1 T1 ρ1 σ1 M1 X1 jj (by omega) (by omega) hs1
    exact ⟨S2, T2, ρ2, σ2, M2, X2, (loopD_next jj hb1).trans hb2, hs2⟩
set_option maxHeartbeats 4000000 in
theorem ahB_turn {K : List RowT} {s : Nat} (h1 : 1 ≤ n) (h4 : n ≤ 4) (hm : m.get b2 = .cells own (rowsC l ++ rest)) (hb : b2 < m.size) (hlen : l.length ≤ 1000) (hr : ∀ r ∈ l, Rng r)
    (hs : AhSt n jb kb s K m M S T ρ σ) (hsi : s ≤ 1000 + i) (hlt : i < l.length) (k : Nat) (hk : 1 ≤ k) (x : Nat → Value) (a ru : Int) (v1 v2 v11 v12 v13 v14 v15 v16 v18 v20 v21 v22 v23 v24 v25 v7 : Value) :
    ∃ S' T' ρ' σ' M' X w23 w24 w25, codeD Try.prog kp 0 (callN Try.prog kp 0 oA k) (drawD Try.prog kp 0 (callN Try.prog kp 0 oA k) 205) 205 k (loopN Try.f4 1) (fullN 205 (up x [(0, .int .i64 n), (1, v1), (2, .slice (some ⟨b2, 0, sp⟩) l.length cap), (6, .bool false), (7, v7), (8, .int .i64 a), (9, .int .i64 ru), (10, .int .i64 0), (11, v11), (12, v12), (13, v13), (14, v14), (15, v15), (16, v16), (17, .pointer (some ⟨jb, 0, none⟩)), (18, v18), (19, .pointer (some ⟨kb, 0, none⟩)), (20, v20), (21, v21), (22, .int .i64 (i : Int)), (23, v23), (24, v24), (25, v25)])) M = some (.normal, (fullN 205 (up X [(0, .int .i64 n), (1, v1), (2, .slice (some ⟨b2, 0, sp⟩) l.length cap), (6, .bool false), (7, v7), (8, .int .i64 a), (9, .int .i64 ru), (10, .int .i64 0), (11, v11), (12, v12), (13, v13), (14, v14), (15, v15), (16, v16), (17, .pointer (some ⟨jb, 0, none⟩)), (18, v18), (19, .pointer (some ⟨kb, 0, none⟩)), (20, v20), (21, v21), (22, .int .i64 ((i + 1 : Nat) : Int)), (23, w23), (24, w24), (25, w25)])), M') ∧ AhSt n jb kb (s + 1) (takeR n K l[i]) m M' S' T' ρ' σ' := by
  have hT := Y.callN_typed Try.prog kp 0 oA k
  have hg : l[i]? = some l[i] := List.getElem?_eq_getElem hlt
  generalize hre : l[i] = r at hg
  have hrr : Rng r := hr r (by rw [← hre]; exact List.getElem_mem _)
  have hMb : M.get b2 = .cells own (rowsC l ++ rest) := (hs.get b2 hb).1.trans hm
  have hsz := hs.size
  obtain ⟨d, c11⟩ := row_call hs.two.st1.top r k hk
  have x1 := growM_ext M d
  have t0 := x1.top hs.two.st1.top
  have hz : zrow.length = 43 := rfl
  have xs := x1.size
  generalize hG : growM M d = G at c11 x1 t0 xs
  generalize hM1 : (G.push (.cells true zrow)).set G.size (.cells true (rowR r)) = M1
  have g1 : ∀ j, j < G.size → M1.get j = G.get j := fun j hj => by rw [← hM1, Mem.get_set_ne _ (by omega), Mem.get_push_ne _ (by omega)]
  have s1 : M1.size = G.size + 1 := by rw [← hM1]; rfl
  have t1 : M1.top := fun j hj => by
    rw [← hM1, Mem.get_set_ne _ (by omega), Mem.get_push_ne _ (by omega)]; exact t0 j (by omega)
  have z1 : M1.get G.size = .cells true (rowR r) := by rw [← hM1]; exact Mem.get_set_same _ _ _
  have g0 : ∀ j, j < M.size → M1.get j = M.get j := fun j hj => (g1 j (by omega)).trans (x1.get j hj)
  obtain ⟨M2, M3, S', T', ρ', σ', c1, c2, s3, y1, y2, f3⟩ := two_add (hs.two.same g0 (by omega) t1) h1 h4 hrr (by omega) k hk
  have oz1 : Out S ρ G.size := fun i hi e => by have := hs.two.st1.holds.lt i hi; omega
  have oz2 : Out T σ G.size := fun i hi e => by have := hs.two.st2.holds.lt i hi; omega
  have z2 : M2.get G.size = .cells true (rowR r) := (f3 G.size (by omega) oz1 oz2).1.trans z1
  have hb0 := (Y.step_eq Try.prog kp 0 hT 205 k (loopN Try.f4 1) (fullN 205 (up x [(0, .int .i64 n), (1, v1), (2, .slice (some ⟨b2, 0, sp⟩) l.length cap), (6, .bool false), (7, v7), (8, .int .i64 a), (9, .int .i64 ru), (10, .int .i64 0), (11, v11), (12, v12), (13, v13), (14, v14), (15, v15), (16, v16), (17, .pointer (some ⟨jb, 0, none⟩)), (18, v18), (19, .pointer (some ⟨kb, 0, none⟩)), (20, v20), (21, v21), (22, .int .i64 (i : Int)), (23, v23), (24, v24), (25, v25)])) M).trans ((mark_eq 29 Try.prog kp 0 _ _ 205 k (loopN Try.f4 1) (by kernel_rfl) _ M _).trans (t_jhB (L := onceL) ..))
  rw [lt_len hlt] at hb0
  simp only [cond_true] at hb0
  rw [once_eq, h29_eq, opsF_cut 5, t_jh29a] at hb0
  simp only [cond_true, onNat_c, blt_t hlt, hMb, cells_c, rows_ble hlt, rows_sub hg, cfOf_at, c11, onV, asAgg_a] at hb0
  rw [t_jh29b, Y.storeF_eq, store_row G r zrow hz, hM1] at hb0
  simp only [Y.ob_some] at hb0
  rw [t_jh29k] at hb0
  simp only [z1, z2, cells_c, row_len43, row_all, cond_true, cond_false, cfOf_at, c1, c2, onV, asInt_i, kEq_ii, eqF_t (rfl : wrongR n K r = wrongR n K r), wrap_one (show i ≤ 1000000 by omega)] at hb0
  exact ⟨S', T', ρ', σ', M3, _, _, _, _, hb0, s3, by omega, fun j hj => by
    obtain ⟨q0, q1, q2⟩ := hs.get j hj
    obtain ⟨p1, p2, p3, p4⟩ := f3 j (by omega) q1 q2
    exact ⟨(p2.trans (g0 j (by omega))).trans q0, p3, p4⟩⟩
theorem ahB_loop (h1 : 1 ≤ n) (h4 : n ≤ 4) (hm : m.get b2 = .cells own (rowsC l ++ rest)) (hb : b2 < m.size) (hlen : l.length ≤ 1000) (hr : ∀ r ∈ l, Rng r) (k : Nat) (hk : 1 ≤ k) (a ru : Int) (v1 v7 v11 v12 v13 v14 v15 v16 v18 v20 v21 : Value) :
    ∀ (d i s : Nat) (K : List RowT) (S T : JS) (ρ σ : Nat → Nat) (M : Mem) (x : Nat → Value) (v23 v24 v25 : Value) (jj : Nat), l.length = i + d → d + 1 ≤ jj → s ≤ 1000 + i → AhSt n jb kb s K m M S T ρ σ →
    ∃ M' X w22 w23 w24 w25, loopD (codeD Try.prog kp 0 (callN Try.prog kp 0 oA k) (drawD Try.prog kp 0 (callN Try.prog kp 0 oA k) 205) 205 k (loopN Try.f4 1)) jj (fullN 205 (up x [(0, .int .i64 n), (1, v1), (2, .slice (some ⟨b2, 0, sp⟩) l.length cap), (6, .bool false), (7, v7), (8, .int .i64 a), (9, .int .i64 ru), (10, .int .i64 0), (11, v11), (12, v12), (13, v13), (14, v14), (15, v15), (16, v16), (17, .pointer (some ⟨jb, 0, none⟩)), (18, v18), (19, .pointer (some ⟨kb, 0, none⟩)), (20, v20), (21, v21), (22, .int .i64 (i : Int)), (23, v23), (24, v24), (25, v25)])) M = some (.exit 2, (fullN 205 (up X [(0, .int .i64 n), (1, v1), (2, .slice (some ⟨b2, 0, sp⟩) l.length cap), (6, .bool false), (7, v7), (8, .int .i64 a), (9, .int .i64 ru), (10, .int .i64 0), (11, v11), (12, v12), (13, v13), (14, v14), (15, v15), (16, v16), (17, .pointer (some ⟨jb, 0, none⟩)), (18, v18), (19, .pointer (some ⟨kb, 0, none⟩)), (20, v20), (21, v21), (22, w22), (23, w23), (24, w24), (25, w25)])), M')
  | 0, i, s, K, S, T, ρ, σ, M, x, v23, v24, v25, jj, hi, hj, hsi, hs => by
    obtain ⟨jj, rfl⟩ : ∃ j', jj = j' + 1 := ⟨jj - 1, by omega⟩
    obtain rfl : i = l.length := by omega
    have hT := Y.callN_typed Try.prog kp 0 oA k
    have hb0 := (Y.step_eq Try.prog kp 0 hT 205 k (loopN Try.f4 1) (fullN 205 (up x [(0, .int .i64 n), (1, v1), (2, .slice (some ⟨b2, 0, sp⟩) l.length cap), (6, .bool false), (7, v7), (8, .int .i64 a), (9, .int .i64 ru), (10, .int .i64 0), (11, v11), (12, v12), (13, v13), (14, v14), (15, v15), (16, v16), (17, .pointer (some ⟨jb, 0, none⟩)), (18, v18), (19, .pointer (some ⟨kb, 0, none⟩)), (20, v20), (21, v21), (22, .int .i64 (l.length : Int)), (23, v23), (24, v24), (25, v25)])) M).trans ((mark_eq 29 Try.prog kp 0 _ _ 205 k (loopN Try.f4 1) (by kernel_rfl) _ M _).trans (t_jhB (L := onceL) ..))
    rw [ge_len (Nat.lt_irrefl _)] at hb0
    simp only [cond_false] at hb0
    exact ⟨M, _, _, _, _, _, loopD_stop jj hb0 (by simp)⟩
  | d + 1, i, s, K, S, T, ρ, σ, M, x, v23, v24, v25, jj, hi, hj, hsi, hs => by
    obtain ⟨jj, rfl⟩ : ∃ j', jj = j' + 1 := ⟨jj - 1, by omega⟩
    obtain ⟨S1, T1, ρ1, σ1, M1, X1, u23, u24, u25, hb1, hs1⟩ := ahB_turn (sp := sp) (cap := cap) h1 h4 hm hb hlen hr hs hsi (show i < l.length by omega) k hk x a ru v1 (.tuple ⟨[]⟩) v11 v12 v13 v14 v15 v16 v18 v20 v21 (.tuple ⟨[]⟩) v23 v24 v25 v7
    obtain ⟨M2, X2, w22, w23, w24, w25, hb2⟩ := ahB_loop h1 h4 hm hb hlen hr k hk a ru v1 v7 v11 v12 v13 v14 v15 v16 v18 v20 v21 d (i + 1) (s + 1) _ S1 T1 ρ1 σ1 M1 X1 u23 u24 u25 jj (by omega) (by omega) (by omega) hs1
    exact ⟨M2, X2, w22, w23, w24, w25, (loopD_next jj hb1).trans hb2⟩
end
end
end Go.Proofs.Ytfpbiojnbffkpaa
namespace Go.Proofs.Ytfpbiojnbffkpaa
open Go Go.DI Go.Proofs Go.Jud
theorem nr {p : Prop} (h : p) : p := by
  by_cases hp : p
  · exact hp
  · exact absurd h hp
section
variable {α : Type}
theorem nCondT (a b : Option α) : cond true a b = a := nr rfl
theorem nCondF (a b : Option α) : cond false a b = b := nr rfl
theorem nNotT : (cond true false true : Bool) = false := nr rfl
theorem nNotF : (cond false false true : Bool) = true := nr rfl
theorem nOnV (v : Value) (m : Mem) (q : Value → Mem → Option α) : onV (some (v, m)) q = q v m := nr rfl
theorem nAsBoS (a : Option Addr) (n c : Nat) (q : Bool → Option α) (d : Option α) : Y.asBo (.slice a n c) q d = d := nr rfl
theorem nAsBoB (b : Bool) (q : Bool → Option α) (d : Option α) : Y.asBo (.bool b) q d = q b := nr rfl
theorem nAsTup (a b c : Int) (q : Array Value → Option α) : Y.asTup (tripV a b c) q = q ⟨[.int .i64 a, .int .i64 b, .int .i64 c]⟩ := nr rfl
theorem nAsTupN (m : Mem) (q : Array Value → Option α) : Y.asTup (newV m) q = q ⟨[.pointer (some ⟨m.size + 7, 0, none⟩), .int .i64 0]⟩ := nr rfl
theorem nUncC (a : Value) (l : List Value) (q : Value → List Value → Option α) (d : Option α) : Y.unc (a :: l) q d = q a l := nr rfl
theorem nUncN (q : Value → List Value → Option α) (d : Option α) : Y.unc [] q d = d := nr rfl
theorem nAsInt (k : IntKind) (n : Int) (q : IntKind → Int → Option α) (d : Option α) : Y.asInt (.int k n) q d = q k n := nr rfl
theorem nAsAgg (a : Array Value) (q : Array Value → Option α) (d : Option α) : Y.asAgg (.agg a) q d = q a := nr rfl
theorem nKEq : Y.kEq .i64 .i64 = true := nr rfl
theorem nElim {β γ : Type} (a : β) (d : γ) (f : β → γ) : Option.elim (some a) d f = f a := nr rfl
theorem nCells (o : Bool) (c : List Value) (q : Bool → List Value → Option α) : Y.cellsOf (.cells o c) q = q o c := nr rfl
theorem nOnNat (n : Nat) (q : Nat → Option α) : Y.onNat (n : Int) q = q n := nr rfl
theorem nOnE (e : Ex) (t : Tmps) (m : Mem) (q : Y.ExK α) : Y.onE (some (e, t, m)) q = q e t m := nr rfl
theorem nCf (df : DFun) (f : FuncId) (a : List Value) (m : Mem) (q : Value → Mem → Option α) : Y.cfOf df f a m q = onV (df f a m) q := nr rfl
end
end Go.Proofs.Ytfpbiojnbffkpaa
namespace Go.Proofs.Ytfpbiojnbffkpaa
open Go Go.DI Go.Proofs Go.Jud
noncomputable section
theorem opsF_cut2 {α : Type} (i : Nat) (P : Program) (K : TypeId → Bool) (G : Nat) (cf : Y.CF α) (n : Nat) (l ops : List Oper) (q : Tmps → Mem → Option α) (t : Tmps) (m : Mem) : Y.opsF l P K G cf n ops t m q = Y.opsF (l.take i) P K G cf n ops t m fun t m => Y.opsF (l.drop i) P K G cf n ops t m q := by
  rw [← opsF_app, List.take_append_drop]
theorem trip_var {o : Option (Value × Mem)} {a b c : Int} {M : Mem} (h : o = some (tripV a b c, M)) : ∃ x y z, o = some (tripV x y z, M) ∧ x = a ∧ y = b ∧ z = c := ⟨a, b, c, h, rfl, rfl, rfl⟩
theorem asBo_sl {α : Type} (a : Option Addr) (n c : Nat) (q : Bool → Option α) (d : Option α) : Y.asBo (.slice a n c) q d = d := rfl
theorem asTup_trip2 {α : Type} (a b c : Int) (q : Array Value → Option α) : Y.asTup (tripV a b c) q = q ⟨[.int .i64 a, .int .i64 b, .int .i64 c]⟩ := rfl
section
variable {k : Nat} (L : Y.LK (Value × Mem)) (q : Y.ExK (Value × Mem)) (x : Nat → Value) (n : Int) (m : Mem)
theorem s7 (ta ru : Int) (ao : Option Addr) (no : Nat) (h1 : ¬ ru < 0) (h2 : ¬ 12 < ru) (h3 : ¬ ta < 0) (h4 : ¬ (no : Int) < ta) (h5 : ¬ 0 < ru ∨ ta < (no : Int)) (v1 v2 v11 v12 v13 v14 v15 v16 v17 v18 v19 v20 v21 v22 v23 v24 v25 : Value) :
    ∃ X, Y.codeF (Y.loopC jhM 0) Try.prog kp 0 (Y.cfT Try.prog (Y.cfOf (callN Try.prog kp 0 oA k))) L 205 k (fullN 205 (up x [(0, .int .i64 n), (1, v1), (2, v2), (6, .bool false), (7, .slice ao no no), (8, .int .i64 ta), (9, .int .i64 ru), (10, .int .i64 0), (11, v11), (12, v12), (13, v13), (14, v14), (15, v15), (16, v16), (17, v17), (18, v18), (19, v19), (20, v20), (21, v21), (22, v22), (23, v23), (24, v24), (25, v25)])) m q = q .normal (fullN 205 (up X [(0, .int .i64 n), (1, v1), (2, v2), (6, .bool false), (7, .slice ao no no), (8, .int .i64 ta), (9, .int .i64 ru), (10, .int .i64 0), (11, v11), (12, v12), (13, v13), (14, v14), (15, v15), (16, v16), (17, v17), (18, v18), (19, v19), (20, v20), (21, v21), (22, v22), (23, v23), (24, v24), (25, v25), (88, .bool false)])) m := by
  have e := t_jh7 x (Y.cfOf (callN Try.prog kp 0 oA k)) L k v1 v2 v11 v12 v13 v14 v15 v16 v17 v18 v19 v20 v21 v22 v23 v24 v25 n ta ru no ao m q
  rw [ltF_f h1, ltF_f h2, ltF_f h3, ltF_f (show ¬ (Int.ofNat no) < ta from h4)] at e
  simp only [cond_false] at e
  by_cases h0 : 0 < ru
  · rw [ltF_t h0, ltF_t (show ta < Int.ofNat no from h5.elim (fun h => absurd h0 h) id)] at e
    simp only [cond_true, cond_false] at e
    exact ⟨_, e⟩
  · rw [ltF_f h0] at e
    simp only [cond_false] at e
    exact ⟨_, e⟩
theorem s11 (ru : Int) (a bo no : Nat) (ha : a ≤ no) {M3 : Mem} {x1 x2 x3 : Int} (c9 : callN Try.prog kp 0 oA k 9 [.int .i64 n, .slice (some ⟨bo, 0, some 43⟩) a no] m = some (tripV x1 x2 x3, M3)) (v1 v2 v11 v12 v13 v14 v15 v16 v17 v18 v19 v20 v21 v22 v23 v24 v25 : Value) :
    ∃ X, Y.codeF (Y.loopC jhM 1) Try.prog kp 0 (Y.cfT Try.prog (Y.cfOf (callN Try.prog kp 0 oA k))) L 205 k (fullN 205 (up x [(0, .int .i64 n), (1, v1), (2, v2), (6, .bool false), (7, .slice (some ⟨bo, 0, some 43⟩) no no), (8, .int .i64 (a : Int)), (9, .int .i64 ru), (10, .int .i64 0), (11, v11), (12, v12), (13, v13), (14, v14), (15, v15), (16, v16), (17, v17), (18, v18), (19, v19), (20, v20), (21, v21), (22, v22), (23, v23), (24, v24), (25, v25)])) m q = q .normal (fullN 205 (up X [(0, .int .i64 n), (1, v1), (2, v2), (6, .bool false), (7, .slice (some ⟨bo, 0, some 43⟩) no no), (8, .int .i64 (a : Int)), (9, .int .i64 ru), (10, .int .i64 0), (11, .int .i64 x1), (12, .int .i64 x2), (13, .int .i64 x3), (14, v14), (15, v15), (16, v16), (17, v17), (18, v18), (19, v19), (20, v20), (21, v21), (22, v22), (23, v23), (24, v24), (25, v25)])) M3 := by
  have e := (h11_eq (Y.cfOf (callN Try.prog kp 0 oA k)) L k (fullN 205 (up x [(0, .int .i64 n), (1, v1), (2, v2), (6, .bool false), (7, .slice (some ⟨bo, 0, some 43⟩) no no), (8, .int .i64 (a : Int)), (9, .int .i64 ru), (10, .int .i64 0), (11, v11), (12, v12), (13, v13), (14, v14), (15, v15), (16, v16), (17, v17), (18, v18), (19, v19), (20, v20), (21, v21), (22, v22), (23, v23), (24, v24), (25, v25)])) m q).trans (opsF_cut2 4 ..)
  rw [t_jh11a, slice_own bo no a ha] at e
  simp only [nElim] at e
  rw [t_jh11b] at e
  simp only [nCf, c9, nOnV, nAsTup, nUncC, nUncN, nAsInt, nKEq, nCondT] at e
  exact ⟨_, e⟩
theorem s12 (ru : Int) (a bo no : Nat) (ha : a + 1 ≤ no) (hb : a ≤ 1000000) {M4 M5 M6 M7 : Mem} {w111 w114 : Value} {ad : Option Addr} {nn cc : Nat} {x1 x2 x3 : Int}
    (p1 : appendD Try.prog m 24 24 (.slice none 0 0) (.slice (some ⟨bo, 0, some 43⟩) (a + 1) no) = some (w111, M4)) (v1 v2 v11 v12 v13 v14 v15 v16 v17 v18 v19 v20 v21 v22 v23 v24 v25 : Value)
    (c8 : callN Try.prog kp 0 oA k 8 [v2] M4 = some (.slice ad nn cc, M5)) (p2 : appendD Try.prog M5 24 24 w111 (.slice ad nn cc) = some (w114, M6))
    (c9 : callN Try.prog kp 0 oA k 9 [.int .i64 n, w114] M6 = some (tripV x1 x2 x3, M7)) :
    ∃ X, Y.codeF (Y.loopC jhM 2) Try.prog kp 0 (Y.cfT Try.prog (Y.cfOf (callN Try.prog kp 0 oA k))) L 205 k (fullN 205 (up x [(0, .int .i64 n), (1, v1), (2, v2), (6, .bool false), (7, .slice (some ⟨bo, 0, some 43⟩) no no), (8, .int .i64 (a : Int)), (9, .int .i64 ru), (10, .int .i64 0), (11, v11), (12, v12), (13, v13), (14, v14), (15, v15), (16, v16), (17, v17), (18, v18), (19, v19), (20, v20), (21, v21), (22, v22), (23, v23), (24, v24), (25, v25)])) m q = q .normal (fullN 205 (up X [(0, .int .i64 n), (1, v1), (2, v2), (6, .bool false), (7, .slice (some ⟨bo, 0, some 43⟩) no no), (8, .int .i64 (a : Int)), (9, .int .i64 ru), (10, .int .i64 0), (11, v11), (12, v12), (13, v13), (14, .int .i64 x1), (15, .int .i64 x2), (16, .int .i64 x3), (17, v17), (18, v18), (19, v19), (20, v20), (21, v21), (22, v22), (23, v23), (24, v24), (25, v25)])) M7 := by
  have e := (h12_eq (Y.cfOf (callN Try.prog kp 0 oA k)) L k (fullN 205 (up x [(0, .int .i64 n), (1, v1), (2, v2), (6, .bool false), (7, .slice (some ⟨bo, 0, some 43⟩) no no), (8, .int .i64 (a : Int)), (9, .int .i64 ru), (10, .int .i64 0), (11, v11), (12, v12), (13, v13), (14, v14), (15, v15), (16, v16), (17, v17), (18, v18), (19, v19), (20, v20), (21, v21), (22, v22), (23, v23), (24, v24), (25, v25)])) m q).trans (opsF_cut2 5 ..)
  rw [t_jh12a, wrap_one hb, slice_own bo no (a + 1) ha] at e
  simp only [nElim] at e
  rw [opsF_cut2 1, t_jh12b, Y.appendF_eq, p1] at e
  simp only [nOnV] at e
  rw [show List.drop 1 (List.drop 5 h12) = List.drop 6 h12 by rw [List.drop_drop], opsF_cut2 2, t_jh12c] at e
  simp only [nCf, c8, nOnV, nAsBoS] at e
  rw [opsF_cut2 1, t_jh12d, Y.appendF_eq, p2] at e
  simp only [nOnV] at e
  rw [show List.drop 1 (List.drop 2 (List.drop 6 h12)) = List.drop 9 h12 by rw [List.drop_drop, List.drop_drop]] at e
  rw [t_jh12e] at e
  simp only [nCf, c9, nOnV, nAsTup, nUncC, nUncN, nAsInt, nKEq, nCondT] at e
  exact ⟨_, e⟩
end
end
end Go.Proofs.Ytfpbiojnbffkpaa
namespace Go.Proofs.Ytfpbiojnbffkpaa
open Go Go.DI Go.Proofs Go.Jud
noncomputable section
theorem reg0 : isReg (Y.loopC jhM 0) = true := by kernel_rfl
theorem reg1 : isReg (Y.loopC jhM 1) = true := by kernel_rfl
theorem reg2 : isReg (Y.loopC jhM 2) = true := by kernel_rfl
theorem reg3 : isReg (loopN Try.f4 0) = false := by kernel_rfl
theorem reg4 : isReg (loopN Try.f4 1) = false := by kernel_rfl
def RowsAt (m : Mem) (v : Value) (rs : List RowT) : Prop := ∃ ad cap, v = .slice ad rs.length cap ∧ ((rs = [] ∧ ad = none ∧ cap = 0) ∨ ∃ b sp, ad = some ⟨b, 0, sp⟩ ∧ b < m.size ∧ m.get b = .cells false (rowsC rs))
theorem RowsIn.at {m : Mem} {v : Value} {rs : List RowT} (h : RowsIn m v rs) : RowsAt m v rs := by
  rcases h with ⟨rfl, rfl⟩ | ⟨b, sp, cap, rfl, hb, hg, _⟩
  · exact ⟨none, 0, rfl, .inl ⟨rfl, rfl, rfl⟩⟩
  · exact ⟨some ⟨b, 0, sp⟩, cap, rfl, .inr ⟨b, sp, rfl, hb, hg⟩⟩
theorem rows_any {m M : Mem} {rs : List RowT} {ad : Option Addr} {cap : Nat} (h : (rs = [] ∧ ad = none ∧ cap = 0) ∨ ∃ b sp, ad = some ⟨b, 0, sp⟩ ∧ b < m.size ∧ m.get b = .cells false (rowsC rs)) (he : ∀ j, j < m.size → M.get j = m.get j) (hs : m.size ≤ M.size) (ht : M.top) (hlen : rs.length ≤ 100000) (k : Nat) (hk : rs.length + 3 ≤ k) :
    ∃ v M', callN Try.prog kp 0 oA k 8 [.slice ad rs.length cap] M = some (v, M') ∧ OwnRows M rs v M' := by
  rcases h with ⟨rfl, rfl, rfl⟩ | ⟨b, sp, rfl, hb, hg⟩
  · exact ⟨_, M, rows_run0 ht k (by omega), Ext.refl M, ht, .inl ⟨rfl, rfl⟩⟩
  · exact rows_run (rest := []) ht (by rw [List.append_nil, he b hb]; exact hg) (Nat.lt_of_lt_of_le hb hs) hlen k hk
section
variable {m : Mem} {l more : List RowT} {a1 a2 : Option Addr} {c1 c2 : Nat}
set_option maxHeartbeats 8000000 in
theorem ahead_run (ht : m.top) (h1 : (l = [] ∧ a1 = none ∧ c1 = 0) ∨ ∃ b sp, a1 = some ⟨b, 0, sp⟩ ∧ b < m.size ∧ m.get b = .cells false (rowsC l)) (h2 : (more = [] ∧ a2 = none ∧ c2 = 0) ∨ ∃ b sp, a2 = some ⟨b, 0, sp⟩ ∧ b < m.size ∧ m.get b = .cells false (rowsC more))
    (hr1 : ∀ r ∈ l, Rng r) (hr2 : ∀ r ∈ more, Rng r) (n : Int) (k : Nat) (hk : 600 ≤ k) :
    ∃ m', callN Try.prog kp 0 oA k 4 [.int .i64 n, .slice a1 l.length c1, .slice a2 more.length c2] m = some (.bool true, m') := by
  obtain ⟨k, rfl⟩ : ∃ k', k = k' + 1 := ⟨k - 1, by omega⟩
  have hT := Y.callN_typed Try.prog kp 0 oA k
  suffices hh : ∃ m', bodyN Try.prog kp 0 (callN Try.prog kp 0 oA k) k 4 [.int .i64 n, .slice a1 l.length c1, .slice a2 more.length c2] m = some (.bool true, m') by
    obtain ⟨m', h⟩ := hh
    refine ⟨m', ?_⟩
    simp only [callN, oA_none 4 (by decide)]
    exact (congrArg (filtR Try.prog _) h).trans (filt_b _ _ (by kernel_rfl))
  have hB := (Y.body_eq (k := k) hT (c := bodyOf Try.f4) (fn := Try.f4) 205 Try.func4 (by kernel_rfl) [.int .i64 n, .slice a1 l.length c1, .slice a2 more.length c2] (by kernel_rfl) m).trans
    ((markS_eq [7, 11, 12] Try.prog kp 0 _ _ (lpOf_any Try.prog kp 0 _ 205) 205 k (bodyOf Try.f4) (by kernel_rfl) _ m _).trans (t_jh_in (L := mixL _) ..))
  have hw := fun M => call_wakes k (by omega) M
  generalize hLL : (mixL (Y.lpOf Try.prog kp 0 (callN Try.prog kp 0 oA k) 205) : Y.LK (Value × Mem)) = LL at hB
  have hreg : ∀ (body : Tmps → Mem → Y.ExK (Value × Mem) → Option (Value × Mem)) (c : Code), isReg c = true → ∀ (j : Nat) (t : Tmps) (m : Mem) (q : Y.ExK (Value × Mem)), LL body c j t m q = body t m q := fun body c h j t m q => by rw [← hLL]; exact mixL_reg _ _ h j t m q
  have hloop : ∀ (body : Tmps → Mem → Y.ExK (Value × Mem) → Option (Value × Mem)) (c : Code), isReg c = false → ∀ (j : Nat) (t : Tmps) (m : Mem) (q : Y.ExK (Value × Mem)), LL body c j t m q = Y.onE (loopD (codeD Try.prog kp 0 (callN Try.prog kp 0 oA k) (drawD Try.prog kp 0 (callN Try.prog kp 0 oA k) 205) 205 j c) j t m) q := fun body c h j t m q => by rw [← hLL]; exact mixL_loop _ _ h j t m q
  clear hLL
  by_cases g1 : 250 < l.length
  · rw [ltF_t (show (250 : Int) < Int.ofNat l.length by show (250 : Int) < (l.length : Int); omega)] at hB
    simp only [nCondT, nCf, hw, nOnV, nAsBoB] at hB
    exact ⟨_, hB⟩
  rw [ltF_f (show ¬ (250 : Int) < Int.ofNat l.length by show ¬ (250 : Int) < (l.length : Int); omega)] at hB
  by_cases g2 : 250 < more.length
  · rw [ltF_t (show (250 : Int) < Int.ofNat more.length by show (250 : Int) < (more.length : Int); omega)] at hB
    simp only [nCondT, nCondF, nCf, hw, nOnV, nAsBoB] at hB
    exact ⟨_, hB⟩
  rw [ltF_f (show ¬ (250 : Int) < Int.ofNat more.length by show ¬ (250 : Int) < (more.length : Int); omega)] at hB
  simp only [nCondF] at hB
  obtain ⟨v, M1, c8, x1, t1, ho⟩ := rows_any h1 (fun _ _ => rfl) (Nat.le_refl _) ht (by omega) k (by omega)
  have hv : ∃ ao M2, v = .slice ao l.length l.length ∧ callN Try.prog kp 0 oA k 9 [.int .i64 n, .slice ao l.length l.length] M1 = some (chkV n l, M2) ∧ Ext M1 M2 ∧ M2.top ∧ (l = [] ∨ ∃ bo, ao = some ⟨bo, 0, some 43⟩ ∧ M1.get bo = .cells true (rowsC l) ∧ bo < M1.size ∧ m.size ≤ bo) := by
    rcases ho with ⟨h0, rfl⟩ | ⟨bo, rfl, hbo, hlo, hge, _⟩
    · obtain ⟨M2, c9, x2, t2⟩ := chk_run0 t1 n k (by omega)
      subst h0
      exact ⟨none, M2, rfl, c9, x2, t2, .inl rfl⟩
    · obtain ⟨M2, c9, x2, t2⟩ := chk_run (sp := some 43) (cap := l.length) (rest := []) t1 (by rw [List.append_nil]; exact hbo) hlo (by omega) hr1 n k (by omega)
      exact ⟨some ⟨bo, 0, some 43⟩, M2, rfl, c9, x2, t2, .inr ⟨bo, rfl, hbo, hlo, hge⟩⟩
  obtain ⟨ao, M2, rfl, c9, x2, t2, hown⟩ := hv
  by_cases gn : 1 ≤ n ∧ n ≤ 4
  rotate_left
  · rw [chkV_out gn] at c9
    obtain ⟨ta, tb, tc, c9, e1, e2, e3⟩ := trip_var c9
    simp only [nCf, c8, nOnV, nAsBoS, c9, nAsTup, nUncC, nUncN, nAsInt, nKEq, nCondT] at hB
    rw [eqF_f (show ¬ tc = 0 by omega), eqF_t e1, eqF_t e2] at hB
    simp only [nNotF, nCondT, nCf, hw, nOnV, nAsBoB] at hB
    by_cases g3 : n < 1
    · rw [ltF_t g3] at hB
      exact ⟨_, hB⟩
    · rw [ltF_f g3, ltF_t (show 4 < n by omega)] at hB
      exact ⟨_, hB⟩
  obtain ⟨n1, n4⟩ := gn
  rw [chkV_in ⟨n1, n4⟩] at c9
  rcases chkR_spec n l [] with ⟨e0, hall⟩ | ⟨a, r, ha, hwr, e0, hok⟩
  · -- all right
    rw [e0] at c9
    obtain ⟨ta, tb, tc, c9, e1, e2, e3⟩ := trip_var c9
    simp only [nCf, c8, nOnV, nAsBoS, c9, nAsTup, nUncC, nUncN, nAsInt, nKEq, nCondT] at hB
    rw [eqF_t e3] at hB
    simp only [nNotT, nCondF] at hB
    subst e3
    have e1 : ta = 0 := e1
    have e2 : tb = 0 := e2
    rw [hreg _ _ reg0] at hB
    obtain ⟨X7, hS⟩ := s7 (k := k) LL (Y.kont Try.prog kp 0 (Y.cfT Try.prog (Y.cfOf (callN Try.prog kp 0 oA k))) LL 205 k jhM 0 (Y.retF Try.prog Try.f4 fun v m => some (v, m))) _ n M2 ta tb ao l.length (by omega) (by omega) (by omega) (by omega) (.inl (by omega)) _ _ _ _ _ _ _ _ _ _ _ _ _ _ _ _ _
    replace hB := hB.trans hS
    rw [t_jh7k, eqF_t e1, eqF_t e2] at hB
    simp only [nCondF, nCondT, nCf, hw, nOnV, nAsBoB] at hB
    exact ⟨_, hB⟩
  rw [List.nil_append] at hwr e0
  have hal : a < l.length := (List.getElem?_eq_some_iff.1 ha).1
  have hok' : ∀ i x, i < a → l[i]? = some x → wrongR n (l.take i) x = 0 := fun i x hi hx => by have := hok i x hi hx; simpa using this
  have hrr : Rng r := hr1 r (List.mem_of_getElem? ha)
  rcases hown with rfl | ⟨bo, rfl, hbo, hlo, hge⟩
  · simp at hal
  generalize hru : wrongR n (l.take a) r = ru at hwr e0
  have hpos : 0 < ru := by rcases wrongR_pos n (l.take a) r with h | h <;> omega
  have hle : ru ≤ 12 := by rw [← hru]; exact wrongR_le _ _ _
  have e0' : chkR n [] l = ((a : Int), ru) := by rw [e0]; simp
  rw [e0'] at c9
  obtain ⟨ta, tb, tc, c9, e1, e2, e3⟩ := trip_var c9
  simp only [nCf, c8, nOnV, nAsBoS, c9, nAsTup, nUncC, nUncN, nAsInt, nKEq, nCondT] at hB
  rw [eqF_t e3] at hB
  simp only [nNotT, nCondF] at hB
  have e1 : ta = (a : Int) := e1
  have e2 : tb = ru := e2
  rw [e1, e2, e3] at hB
  rw [hreg _ _ reg0] at hB
  obtain ⟨X7, hS⟩ := s7 (k := k) LL (Y.kont Try.prog kp 0 (Y.cfT Try.prog (Y.cfOf (callN Try.prog kp 0 oA k))) LL 205 k jhM 0 (Y.retF Try.prog Try.f4 fun v m => some (v, m))) _ n M2 (a : Int) ru (some ⟨bo, 0, some 43⟩) l.length (by omega) (by omega) (by omega) (by omega) (.inr (by omega)) _ _ _ _ _ _ _ _ _ _ _ _ _ _ _ _ _
  replace hB := hB.trans hS
  rw [t_jh7k, eqF_f (show ¬ ru = 0 by omega)] at hB
  simp only [nCondF] at hB
  have hta : (l.take a).length = a := by rw [List.length_take, Nat.min_eq_left (by omega)]
  have hbo2 : M2.get bo = .cells true (rowsC (l.take a) ++ rowsC (l.drop a)) := by rw [x2.get bo hlo, hbo, ← rows_cut2]
  have hlo2 : bo < M2.size := Nat.lt_of_lt_of_le hlo x2.size
  obtain ⟨M3, c9b, x3, t3⟩ := chk_run (sp := some 43) (cap := l.length) t2 hbo2 hlo2 (by omega) (fun r hr => hr1 r (List.mem_of_mem_take hr)) n k (by omega)
  have er : chkR n [] (l.take a) = (0, 0) := chkR_right n (l.take a) [] fun i x hx => by
    have hi : i < a := by have := (List.getElem?_eq_some_iff.1 hx).1; omega
    rw [List.nil_append, List.take_take, Nat.min_eq_left (by omega)]
    exact hok' i x hi (by rw [List.getElem?_take, if_pos hi] at hx; exact hx)
  rw [chkV_in ⟨n1, n4⟩, er, hta] at c9b
  have c9b : callN Try.prog kp 0 oA k 9 [.int .i64 n, .slice (some ⟨bo, 0, some 43⟩) a l.length] M2 = some (tripV 0 0 0, M3) := c9b
  rw [hreg _ _ reg1] at hB
  obtain ⟨X11, hS⟩ := s11 (k := k) LL (Y.kont Try.prog kp 0 (Y.cfT Try.prog (Y.cfOf (callN Try.prog kp 0 oA k))) LL 205 k jhM 1 (Y.retF Try.prog Try.f4 fun v m => some (v, m))) _ n M2 ru a bo l.length (by omega) c9b _ _ _ _ _ _ _ _ _ _ _ _ _ _ _ _ _
  replace hB := hB.trans hS
  rw [t_jh11k] at hB
  have htb : (l.take (a + 1)).length = a + 1 := by rw [List.length_take, Nat.min_eq_left (by omega)]
  have hbo3 : M3.get bo = .cells true (rowsC (l.take (a + 1)) ++ rowsC (l.drop (a + 1))) := by rw [x3.get bo hlo2, x2.get bo hlo, hbo, ← rows_cut2]
  have ap1 := append_nil_n (sp := some 43) (cap := l.length) hbo3 (by omega) (by omega)
  rw [htb] at ap1
  generalize hM4 : M3.push (.cells true (rowsC (l.take (a + 1)))) = M4 at ap1
  have x4 : Ext M3 M4 := by rw [← hM4]; exact Ext.push _ _
  have g4 : M4.get M3.size = .cells true (rowsC (l.take (a + 1))) := by rw [← hM4]; exact Mem.get_push_same _ _
  have s4 : M4.size = M3.size + 1 := by rw [← hM4]; rfl
  have x04 : Ext m M4 := (((x1.trans x2).trans x3).trans x4)
  obtain ⟨v5, M5, c8b, x5, t5, ho5⟩ := rows_any h2 x04.get x04.size (x4.top t3) (by omega) k (by omega)
  have g5 : M5.get M3.size = .cells true (rowsC (l.take (a + 1))) := (x5.get _ (by omega)).trans g4
  have hall : ∃ bz M6, appendD Try.prog M5 24 24 (.slice (some ⟨M3.size, 0, some 43⟩) (a + 1) (a + 1)) v5 = some (.slice (some ⟨bz, 0, some 43⟩) (l.take (a + 1) ++ more).length (l.take (a + 1) ++ more).length, M6) ∧ M6.get bz = .cells true (rowsC (l.take (a + 1) ++ more)) ∧ bz < M6.size ∧ Ext M3 M6 ∧ M6.top ∧ ∃ ad nn cc, v5 = .slice ad nn cc := by
    rcases ho5 with ⟨h0, rfl⟩ | ⟨b5, rfl, hb5, hl5, hge5, hne⟩
    · subst h0
      refine ⟨M3.size, M5, ?_, ?_, by have := x5.size; omega, x4.trans x5, t5, _, _, _, rfl⟩
      · rw [append_none, List.append_nil, htb]
      · rw [List.append_nil]; exact g5
    · have hpos2 : 0 < more.length := List.length_pos_iff.2 hne
      have ap2 := append_rows (l := l.take (a + 1)) (more := more) (rest := []) (sp := some 43) (cap := more.length) g5 (by rw [List.append_nil]; exact hb5) hpos2 (by omega)
      rw [htb] at ap2
      have x6 : Ext M5 (M5.push (.cells true (rowsC (l.take (a + 1)) ++ rowsC more))) := Ext.push _ _
      have xs := x5.size
      refine ⟨M5.size, (M5.push (.cells true (rowsC (l.take (a + 1)) ++ rowsC more))).set M3.size .none, ?_, ?_, by simp, ⟨?_, fun j hj => ?_, fun _ => ?_⟩, ?_, _, _, _, rfl⟩
      · rw [ap2, List.length_append, htb]
      · rw [Mem.get_set_ne _ (by omega), Mem.get_push_same, rowsC_app]
      · simp; omega
      · rw [Mem.get_set_ne _ (by omega), x6.get j (by omega), x5.get j (by omega)]; exact x4.get j hj
      · intro j hj
        by_cases e : j = M3.size
        · subst e; exact Mem.get_set_same _ _ _
        · rw [Mem.get_set_ne _ e]; exact x6.top t5 j hj
      · intro j hj
        by_cases e : j = M3.size
        · subst e; exact Mem.get_set_same _ _ _
        · rw [Mem.get_set_ne _ e]; exact x6.top t5 j hj
  obtain ⟨bz, M6, ap3, g6, l6, x6, t6, ad5, nn5, cc5, rfl⟩ := hall
  obtain ⟨M7, c9c, x7, t7⟩ := chk_run (sp := some 43) (cap := (l.take (a + 1) ++ more).length) (rest := []) t6 (by rw [List.append_nil]; exact g6) l6 (by rw [List.length_append, htb]; omega) (fun r hr => (List.mem_append.1 hr).elim (fun h => hr1 r (List.mem_of_mem_take h)) (hr2 r)) n k (by rw [List.length_append, htb]; omega)
  have ec : chkR n [] (l.take (a + 1) ++ more) = ((a : Int), ru) := by
    rw [take_succ ha, List.append_assoc]
    have := chkR_at n r more (l.take a) [] (fun i x hx => by
      have hi : i < a := by have := (List.getElem?_eq_some_iff.1 hx).1; omega
      rw [List.nil_append, List.take_take, Nat.min_eq_left (by omega)]
      exact hok' i x hi (by rw [List.getElem?_take, if_pos hi] at hx; exact hx)) (by rw [List.nil_append, hru]; exact hwr)
    rw [List.nil_append, hru, hta] at this
    simpa using this
  rw [chkV_in ⟨n1, n4⟩, ec] at c9c
  have c9c : callN Try.prog kp 0 oA k 9 [.int .i64 n, .slice (some ⟨bz, 0, some 43⟩) (l.take (a + 1) ++ more).length (l.take (a + 1) ++ more).length] M6 = some (tripV (a : Int) ru 0, M7) := c9c
  rw [hreg _ _ reg2] at hB
  obtain ⟨X12, hS⟩ := s12 (k := k) LL (Y.kont Try.prog kp 0 (Y.cfT Try.prog (Y.cfOf (callN Try.prog kp 0 oA k))) LL 205 k jhM 2 (Y.retF Try.prog Try.f4 fun v m => some (v, m))) _ n M3 ru a bo l.length (by omega) (by omega) ap1 _ _ _ _ _ _ _ _ _ _ _ _ _ _ _ _ _ c8b ap3 c9c
  replace hB := hB.trans hS
  rw [t_jh12k] at hB
  have cN1 := new_call k (by omega) n M7
  rw [ltF_f (show ¬ n < 1 by omega), ltF_f (show ¬ 4 < n by omega)] at cN1
  simp only [cond_false] at cN1
  have cN2 := new_call k (by omega) n (newM M7 n)
  rw [ltF_f (show ¬ n < 1 by omega), ltF_f (show ¬ 4 < n by omega)] at cN2
  simp only [cond_false] at cN2
  rw [eqF_t (rfl : (a : Int) = (a : Int)), eqF_t (rfl : ru = ru)] at hB
  simp only [nNotT, nCondF, nCondT, nCf, cN1, cN2, nOnV, nAsTupN, nUncC, nUncN, nAsInt, nKEq, eqF_t (rfl : (0 : Int) = 0)] at hB
  rw [jhM3, hloop _ _ reg3] at hB
  have xN := (newM_ext M7 n).trans (newM_ext (newM M7 n) n)
  have x37 : Ext M3 M7 := x6.trans x7
  have hlo7 : bo < M7.size := Nat.lt_of_lt_of_le (Nat.lt_of_lt_of_le hlo2 x3.size) x37.size
  have hbo7 : M7.get bo = .cells true (rowsC l ++ []) := by rw [List.append_nil, x37.get bo (Nat.lt_of_lt_of_le hlo2 x3.size), x3.get bo hlo2, x2.get bo hlo, hbo]
  have s0 : AhSt n (M7.size + 7) ((newM M7 n).size + 7) 0 (l.take 0) M7 (newM (newM M7 n) n) (JS.new n) (JS.new n) (rhoN M7.size) (rhoN (newM M7 n).size) := by
    rw [List.take_zero]
    exact ⟨two_new n1 n4 t7, xN.size, fun j hj => ⟨xN.get j hj, new_out n _ hj, new_out n _ (Nat.lt_of_lt_of_le hj (newM_ext M7 n).size)⟩⟩
  obtain ⟨S8, T8, ρ8, σ8, M8, X8, hA, sA⟩ := ahA_loop n1 n4 hbo7 hlo7 (by omega) hr1 (by omega) hok' k (by omega) ru _ _ _ _ _ _ _ _ _ _ _ _ _ _ a 0 _ _ _ _ _ _ k (by omega) (by omega) s0
  have hB := hB.trans ((congrArg (fun z => Y.onE z _) hA).trans ((Y.onE_some ..).trans (t_jhAk (L := LL) ..)))
  have hMb8 : M8.get bo = .cells true (rowsC l ++ []) := (sA.get bo hlo7).1.trans hbo7
  obtain ⟨M9, S9, ρ9, c13, s9, z9, f9⟩ := two_wrong sA.two n1 n4 hrr (by omega) (by rw [hru]; exact hwr) k (by omega)
  rw [hru] at c13
  simp only [nOnNat, blt_t hal, hMb8, nCells, rows_ble hal, rows_sub ha, nCondT, nCondF, nNotT, nCf, c13, nOnV, nAsInt, nKEq, eqF_t (rfl : ru = ru)] at hB
  rw [jhM4, hloop _ _ reg4] at hB
  have sz8 := sA.size
  have s9' : AhSt n (M7.size + 7) ((newM M7 n).size + 7) (a + 1) (l.take a) M7 M9 S9 T8 ρ9 σ8 := ⟨s9, by omega, fun j hj => by
    obtain ⟨q0, q1, q2⟩ := sA.get j hj
    obtain ⟨p1, p2, p3⟩ := f9 j (by omega) q1 q2
    exact ⟨p1.trans q0, p2, p3⟩⟩
  have fin : ∀ (x : Nat → Value) (w2 w7 w11 w12 w13 w14 w15 w16 w18 w20 w21 w22 w23 w24 w25 v1 : Value) (jb kb : Nat) (M : Mem), Y.kont Try.prog kp 0 (Y.cfT Try.prog (Y.cfOf (callN Try.prog kp 0 oA k))) LL 205 k jhM 4 (Y.retF Try.prog Try.f4 fun v m => some (v, m)) (.exit 2) (fullN 205 (up x [(0, .int .i64 n), (1, v1), (2, w2), (6, .bool false), (7, w7), (8, .int .i64 (a : Int)), (9, .int .i64 ru), (10, .int .i64 0), (11, w11), (12, w12), (13, w13), (14, w14), (15, w15), (16, w16), (17, .pointer (some ⟨jb, 0, none⟩)), (18, w18), (19, .pointer (some ⟨kb, 0, none⟩)), (20, w20), (21, w21), (22, w22), (23, w23), (24, w24), (25, w25)])) M = some (.bool true, M) := by
    intros
    refine (t_jhBk ..).trans ?_
    simp only [nCf, hw, nOnV, nAsBoB, nCondT]
  rcases h2 with ⟨rfl, rfl, rfl⟩ | ⟨b2, sp, rfl, hb2, hg2⟩
  · -- none behind
    obtain ⟨j, hj⟩ : ∃ j, k = j + 1 := ⟨k - 1, by omega⟩
    have hA : ∀ (x : Nat → Value) (w7 w11 w12 w13 w14 w15 w16 w18 w20 w21 w23 w24 w25 v1 : Value) (jb kb : Nat), ∃ X, loopD (codeD Try.prog kp 0 (callN Try.prog kp 0 oA k) (drawD Try.prog kp 0 (callN Try.prog kp 0 oA k) 205) 205 k (loopN Try.f4 1)) k (fullN 205 (up x [(0, .int .i64 n), (1, v1), (2, .slice none 0 0), (6, .bool false), (7, w7), (8, .int .i64 (a : Int)), (9, .int .i64 ru), (10, .int .i64 0), (11, w11), (12, w12), (13, w13), (14, w14), (15, w15), (16, w16), (17, .pointer (some ⟨jb, 0, none⟩)), (18, w18), (19, .pointer (some ⟨kb, 0, none⟩)), (20, w20), (21, w21), (22, .int .i64 0), (23, w23), (24, w24), (25, w25)])) M9 = some (.exit 2, fullN 205 (up X [(0, .int .i64 n), (1, v1), (2, .slice none 0 0), (6, .bool false), (7, w7), (8, .int .i64 (a : Int)), (9, .int .i64 ru), (10, .int .i64 0), (11, w11), (12, w12), (13, w13), (14, w14), (15, w15), (16, w16), (17, .pointer (some ⟨jb, 0, none⟩)), (18, w18), (19, .pointer (some ⟨kb, 0, none⟩)), (20, w20), (21, w21), (22, .int .i64 0), (23, w23), (24, w24), (25, w25)]), M9) := by
      intro x w7 w11 w12 w13 w14 w15 w16 w18 w20 w21 w23 w24 w25 v1 jb kb
      have hb := (Y.step_eq Try.prog kp 0 hT 205 k (loopN Try.f4 1) _ M9).trans (t_jhB0 (x := x) (n := n) (a2 := none) (c2 := 0) (v1 := v1) (v7 := w7) (v11 := w11) (v12 := w12) (v13 := w13) (v14 := w14) (v15 := w15) (v16 := w16) (v18 := w18) (v20 := w20) (v21 := w21) (v23 := w23) (v24 := w24) (v25 := w25) (jb := jb) (kb := kb) (ta := (a : Int)) (ru := ru) ..)
      have hb2 := loopD_stop (e := .exit 2) (m' := M9) j hb (by simp)
      rw [← hj] at hb2
      exact ⟨_, hb2⟩
    obtain ⟨X, hA⟩ := hA _ _ _ _ _ _ _ _ _ _ _ _ _ _ _ _ _
    have hB := hB.trans ((congrArg (fun z => Y.onE z _) hA).trans ((Y.onE_some ..).trans (fin ..)))
    exact ⟨_, hB⟩
  · have x07 : Ext m M7 := (((x1.trans x2).trans x3).trans x37)
    obtain ⟨M10, X10, w22, w23, w24, w25, hC⟩ := ahB_loop (l := more) (rest := []) (sp := sp) (cap := c2) n1 n4 (by rw [List.append_nil, x07.get b2 hb2]; exact hg2) (Nat.lt_of_lt_of_le hb2 x07.size) (by omega) hr2 k (by omega) (a : Int) ru _ _ _ _ _ _ _ _ _ _ _ more.length 0 (a + 1) _ _ _ _ _ _ _ _ _ _ k (by omega) (by omega) (by omega) s9'
    have hB := hB.trans ((congrArg (fun z => Y.onE z _) hC).trans ((Y.onE_some ..).trans (fin ..)))
    exact ⟨_, hB⟩
end
theorem judgeAhead_run (m : Mem) (l : List Dt) (vs : List Value) (ht : m.top) (h : Args Try.prog 8 m [3, 22, 22] l vs) : ∃ k m', callN Try.prog kp 0 oA k 4 vs m = some (.bool true, m') := by
  obtain ⟨d, v, d', v', d'', v'', rfl, rfl, h1, h2, h3, h4, h5, h6⟩ := args3 h
  obtain ⟨n, rfl, _⟩ := int_arg h1 h2
  obtain ⟨rs, hr, hin⟩ := rows_arg h3 h4
  obtain ⟨rs2, hr2, hin2⟩ := rows_arg h5 h6
  obtain ⟨ad, cap, rfl, q1⟩ := hin.at
  obtain ⟨ad2, cap2, rfl, q2⟩ := hin2.at
  obtain ⟨m', h⟩ := ahead_run ht q1 q2 hr hr2 n 600 (Nat.le_refl _)
  exact ⟨600, m', h⟩
end
end Go.Proofs.Ytfpbiojnbffkpaa
