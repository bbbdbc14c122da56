/-
  CPut: what the functions that append do to the maker's code.
-/
import Derived.Test.YtadioopbehiakaaDoorF10
set_option linter.all false
set_option linter.unusedVariables false
set_option linter.unusedSimpArgs false
namespace Go.Proofs.YtadioopbehiakaaDoor
open Go Go.DI Go.DI.Kit Go.Proofs Go.Cmp
noncomputable section
theorem und28 : Tryd.prog.underlying 28 = some (.slice 42) := by kernel_rfl
theorem sz28 : szOf Tryd.prog 28 = some 1 := by kernel_rfl
theorem sz42 : szOf Tryd.prog 42 = some 5 := by kernel_rfl
theorem by42 : bytesOf Tryd.prog 42 = some 12 := by kernel_rfl
theorem ze42 : (zerosD Tryd.prog 42 1).isSome = true := by kernel_rfl
theorem und63 : Tryd.prog.underlying 63 = some (.slice 3) := by kernel_rfl
theorem sz63 : szOf Tryd.prog 63 = some 1 := by kernel_rfl
theorem sz3 : szOf Tryd.prog 3 = some 1 := by kernel_rfl
theorem by3 : bytesOf Tryd.prog 3 = some 8 := by kernel_rfl
theorem ze3 : (zerosD Tryd.prog 3 1).isSome = true := by kernel_rfl
theorem und73 : Tryd.prog.underlying 73 = some (.slice 81) := by kernel_rfl
theorem sz73 : szOf Tryd.prog 73 = some 1 := by kernel_rfl
theorem sz81 : szOf Tryd.prog 81 = some 7 := by kernel_rfl
theorem by81 : bytesOf Tryd.prog 81 = some 32 := by kernel_rfl
theorem ze81 : (zerosD Tryd.prog 81 1).isSome = true := by kernel_rfl
def mkO (l : List Ins) : Thing := ⟨[], [], 5, l.length, l.flatMap insC⟩
def lbO (a : Int) (js : List Nat) : Thing := ⟨[.int .i64 a], [], 1, js.length, js.map fun (j : Nat) => .int .i64 (j : Int)⟩
def rowC (r : RowS) : List Value := insC r.i ++ [.int .i64 (r.to : Int), .int .i64 (r.here : Int)]
def rkO (l : List RowS) (n : Nat) : Thing := ⟨[], [.int .i64 (n : Int)], 7, l.length, l.flatMap rowC⟩
def ptr (p : Nat) : Value := .pointer (some ⟨p, 0, none⟩)
def whatV (c o s : Int) (w r : Bool) : Value := .agg ⟨[.int .i64 c, .int .i64 o, .int .i64 s, .bool w, .bool r]⟩
def insV (x : Ins) : Value := .agg ⟨insC x⟩
def unitV : Value := .tuple ⟨[]⟩
theorem loop_reg {α : Type} (L : Y.LK α) (body : Tmps → Mem → Y.ExK α → Option α) (c : Code) (h : isReg c = true) (k : Nat) (t : Tmps) (m : Mem) (q : Y.ExK α) : mixL L body c k t m q = body t m q := mixL_reg L body h k t m q
theorem r35a_eq {α : Type} (cf : Y.CF α) (L : Y.LK α) (k : Nat) (t : Tmps) (m : Mem) (q : Y.ExK α) : Y.codeF (Y.loopC c35 0) Tryd.prog kp 1 (Y.cfT Tryd.prog cf) L 24 k t m q = Y.opsF r35a Tryd.prog kp 1 (Y.cfT Tryd.prog cf) 24 r35a t m fun t m => q .normal t m := by kernel_rfl
theorem r35_eq {α : Type} (cf : Y.CF α) (L : Y.LK α) (k : Nat) (t : Tmps) (m : Mem) (q : Y.ExK α) : Y.codeF (Y.loopC c35 1) Tryd.prog kp 1 (Y.cfT Tryd.prog cf) L 24 k t m q = Y.opsF r35 Tryd.prog kp 1 (Y.cfT Tryd.prog cf) 24 r35 t m fun t m => q .normal t m := by kernel_rfl
theorem at35 : Tryd.prog.funcs[35]? = some Tryd.f35 := by kernel_rfl
theorem bd35 : Tryd.f35.body = some (bodyOf Tryd.f35) := by kernel_rfl
theorem nt35 : Tryd.f35.ntmps = 24 := by kernel_rfl
theorem n35 {a b c : Value} : max [a, b, c].length Tryd.f35.ntmps = 24 := by rw [nt35]; rfl
theorem ok35 : okR Tryd.prog 35 unitV = true := by kernel_rfl
def Makes (o : Orc) (k : Nat) (w i : Value) (x : Ins) : Prop := ∀ M, M.top → 1 ≤ M.size → M.get 0 = .cells false gl → ∃ e M', callN Tryd.prog kp 1 o k 52 [w, i] M = some (.tuple ⟨[insV x, .int .i64 e]⟩, M') ∧ Ext M M'
set_option maxHeartbeats 400000 in
theorem put_run {o : Orc} {k : Nat} {K : Keep} {mp : Nat} {M : Mem} {l : List Ins} {hs : List (Nat × Thing)} {wc wo ws : Int} {ww wr : Bool} {i x : Ins} (ho : ∀ a m, o 35 a m = none) (h0 : K 0 = some (.cells false gl))
    (hl : l.length ≤ 1000000000) (h : Hp M K ((mp, mkO l) :: hs)) (hmk : Makes o k (whatV wc wo ws ww wr) (insV i) x) :
    ∃ M', callN Tryd.prog kp 1 o (k + 1) 35 [ptr mp, whatV wc wo ws ww wr, insV i] M = some (unitV, M') ∧ Hp M' K ((mp, mkO (l ++ [x])) :: hs) := by
  obtain ⟨io, id, is, iof, im⟩ := i
  obtain ⟨M2, hM2⟩ : ∃ M2, (M.push (.cells true [.int .i64 wc, .int .i64 wo, .int .i64 ws, .bool ww, .bool wr])).push (.cells true [.int .u8 io, .int .u8 id, .int .u8 is, .int .i16 iof, .int .i32 im]) = M2 := ⟨_, rfl⟩
  have x2 : Ext M M2 := hM2 ▸ (Ext.push _ _).trans (Ext.push _ _)
  have g1 : M2.get M.size = .cells true [.int .i64 wc, .int .i64 wo, .int .i64 ws, .bool ww, .bool wr] := by
    rw [← hM2, Mem.get_push_ne _ (by simp), Mem.get_push_same]
  have g2 : M2.get (Nat.succ M.size) = .cells true [.int .u8 io, .int .u8 id, .int .u8 is, .int .i16 iof, .int .i32 im] := by rw [← hM2]; exact Mem.get_push_same _ _
  obtain ⟨e, M3, c52, x3⟩ := hmk M2 (x2.top h.top) (by have := x2.size; have := h.lt h0; omega) ((x2.get 0 (h.lt h0)).trans (h.get h0))
  obtain ⟨M4, hM4⟩ : ∃ M4, M3.push (.cells true [.int .u8 0, .int .u8 0, .int .u8 0, .int .i16 0, .int .i32 0]) = M4 := ⟨_, rfl⟩
  have hst : storeD Tryd.prog M4 42 (insV x) (.pointer (some ⟨M3.size, 0, none⟩)) = some (M4.set M3.size (.cells true (insC x))) :=
    storeD_at (c := [.int .u8 0, .int .u8 0, .int .u8 0, .int .i16 0, .int .i32 0]) sz42 rfl (by rw [← hM4]; exact Mem.get_push_same _ _) (by decide) rfl
  obtain ⟨M5, hM5⟩ : ∃ M5, M4.set M3.size (.cells true (insC x)) = M5 := ⟨_, rfl⟩
  have g5 : M5.get M3.size = .cells true (insC x) := by rw [← hM5]; exact Mem.get_set_same _ _ _
  rw [hM5] at hst
  have x5 : Ext M M5 := by
    have x3' := x2.trans x3
    subst hM5 hM4
    refine ⟨by have := x3'.size; show M.size ≤ M3.size + 1; omega, fun j hj => ?_, fun t j hj => ?_⟩
    · have := x3'.size
      rw [Mem.get_set_ne _ (by omega), Mem.get_push_ne _ (by omega)]; exact x3'.get j hj
    · have hj : M3.size + 1 ≤ j := hj
      rw [Mem.get_set_ne _ (by omega), Mem.get_push_ne _ (by omega)]; exact x3'.top t j (by omega)
  obtain ⟨M6, hM6⟩ : ∃ M6, M5.push (.cells true (insC x)) = M6 := ⟨_, rfl⟩
  have x6 : Ext M M6 := hM6 ▸ x5.trans (Ext.push _ _)
  obtain ⟨a, gm, happ⟩ := h.append und28 sz28 sz42 (show (5 : Nat) ≠ 0 by decide) by42 (by decide) ze42 (by show (l.length + 1) * 12 ≤ _ ∧ l.length + 1 ≤ _; omega)
  obtain ⟨a', M7, M8, p1, p2, h8, _, _⟩ := happ M6 M5.size true (insC x) x6 (by rw [← hM6]; exact Mem.get_push_same _ _) rfl rfl
  have gm5 : M5.get mp = .cells true [.slice a l.length l.length] := by
    have hlt := h.set.1
    exact (x5.get mp hlt).trans gm
  have hres : Hp M8 K ((mp, mkO (l ++ [x])) :: hs) := by
    have e1 : ({ mkO l with n := (mkO l).n + 1, c := (mkO l).c ++ insC x } : Thing) = mkO (l ++ [x]) := by simp [mkO]
    rw [e1] at h8; exact h8
  refine ⟨M8, call_of 24 (ho _ _) at35 bd35 n35 ?_ ok35, hres⟩
  refine Eq.trans (calm_eq [2] Tryd.prog kp 1 _ _ 24 k (bodyOf Tryd.f35) (by kernel_rfl) _ M _) ?_
  refine Eq.trans (markS_eq [1, 2] Tryd.prog kp 1 _ (Y.lpOf Tryd.prog kp 1 (callN Tryd.prog kp 1 o k) 24) (fun _ _ _ _ _ _ _ => rfl) 24 k (calm [2] (bodyOf Tryd.f35)) (by kernel_rfl) _ M _) ?_
  refine Eq.trans (t_putA ..) ?_
  refine Eq.trans (loop_reg _ _ _ (by kernel_rfl) _ _ _ _) ?_
  refine Eq.trans (r35a_eq ..) ?_
  refine Eq.trans (opsF_cut 7 ..) ?_
  refine Eq.trans (t_putP ..) ?_
  rw [hM2, g1, nCells]
  rw [show Nat.ble 5 (Y.lenLF [Value.int .i64 wc, .int .i64 wo, .int .i64 ws, .bool ww, .bool wr]) = true from rfl, nCondT, g2, nCells]
  rw [show Nat.ble 5 (Y.lenLF [Value.int .u8 io, .int .u8 id, .int .u8 is, .int .i16 iof, .int .i32 im]) = true from rfl, nCondT]
  rw [show Y.subL [Value.int .i64 wc, .int .i64 wo, .int .i64 ws, .bool ww, .bool wr] 0 5 = [Value.int .i64 wc, .int .i64 wo, .int .i64 ws, .bool ww, .bool wr] from rfl]
  rw [show Y.subL [Value.int .u8 io, .int .u8 id, .int .u8 is, .int .i16 iof, .int .i32 im] 0 5 = [Value.int .u8 io, .int .u8 id, .int .u8 is, .int .i16 iof, .int .i32 im] from rfl]
  have c52' : callN Tryd.prog kp 1 o k 52 [.agg ⟨[.int .i64 wc, .int .i64 wo, .int .i64 ws, .bool ww, .bool wr]⟩, .agg ⟨[.int .u8 io, .int .u8 id, .int .u8 is, .int .i16 iof, .int .i32 im]⟩] M2 = some (.tuple ⟨[.agg ⟨insC x⟩, .int .i64 e]⟩, M3) := c52
  simp only [nCf, c52', nOnV, nAsTup, nUncC, nUncN, nAsInt, nAsAgg, nKEq, nCondT]
  rw [hM4]
  refine Eq.trans (t_putS ..) ?_
  rw [Y.storeF_eq, show storeD Tryd.prog M4 42 (.agg ⟨insC x⟩) (.pointer (some ⟨M3.size, 0, none⟩)) = some M5 from hst, Y.ob_some]
  refine Eq.trans (t_putJ ..) ?_
  refine Eq.trans (loop_reg _ _ _ (by kernel_rfl) _ _ _ _) ?_
  refine Eq.trans (r35_eq ..) ?_
  refine Eq.trans (opsF_cut 6 ..) ?_
  refine Eq.trans (t_putB ..) ?_
  rw [gm5, nCells, show Y.nthL [Value.slice a l.length l.length] 0 = some (.slice a l.length l.length) from rfl, nElim, nAsSl, g5, nCells]
  rw [show Nat.ble 5 (Y.lenLF (insC x)) = true from rfl, nCondT, show Y.subL (insC x) 0 5 = insC x from rfl]
  refine Eq.trans (opsF_cut 1 ..) ?_
  refine Eq.trans (t_putB2 ..) ?_
  obtain ⟨xo, xd, xs, xf, xm⟩ := x
  rw [show M5.push (.cells true [.int .u8 xo, .int .u8 xd, .int .u8 xs, .int .i16 xf, .int .i32 xm]) = M6 from hM6]
  rw [show List.drop 1 (List.drop 6 r35) = List.drop 7 r35 by rw [List.drop_drop]]
  refine Eq.trans (t_putC ..) ?_
  rw [Y.appendF_eq, show appendD Tryd.prog M6 28 28 (.slice a l.length l.length) (.slice (some ⟨M5.size, 0, none⟩) 1 1) = _ from p1, nOnV, Y.storeF_eq, show storeD Tryd.prog M7 28 _ (.pointer (some ⟨mp, 0, none⟩)) = _ from p2, Y.ob_some]
  exact t_putK ..
theorem at37 : Tryd.prog.funcs[37]? = some Tryd.f37 := by kernel_rfl
theorem bd37 : Tryd.f37.body = some (bodyOf Tryd.f37) := by kernel_rfl
theorem nt37 : Tryd.f37.ntmps = 26 := by kernel_rfl
theorem n37 {a b c d : Value} : max [a, b, c, d].length Tryd.f37.ntmps = 26 := by rw [nt37]; rfl
theorem ok37 : okR Tryd.prog 37 unitV = true := by kernel_rfl
theorem r37_eq {α : Type} (cf : Y.CF α) (L : Y.LK α) (k : Nat) (t : Tmps) (m : Mem) (q : Y.ExK α) : Y.codeF (Y.loopC c37 0) Tryd.prog kp 1 (Y.cfT Tryd.prog cf) L 26 k t m q = Y.opsF r37 Tryd.prog kp 1 (Y.cfT Tryd.prog cf) 26 r37 t m fun t m => q .normal t m := by kernel_rfl
set_option maxHeartbeats 400000 in
theorem jump_run {o : Orc} {k : Nat} {K : Keep} {mp lp : Nat} {M : Mem} {l : List Ins} {at_ : Int} {js : List Nat} {hs : List (Nat × Thing)} {wc wo ws : Int} {ww wr : Bool} {i x : Ins} (ho : ∀ a m, o 35 a m = none) (ho2 : ∀ a m, o 37 a m = none) (h0 : K 0 = some (.cells false gl))
    (hl : l.length ≤ 1000000000) (hj : js.length ≤ 1000000000) (h : Hp M K ((mp, mkO l) :: (lp, lbO at_ js) :: hs)) (hmk : Makes o k (whatV wc wo ws ww wr) (insV i) x) :
    ∃ M', callN Tryd.prog kp 1 o (k + 2) 37 [ptr mp, whatV wc wo ws ww wr, insV i, ptr lp] M = some (unitV, M') ∧ Hp M' K ((mp, mkO (l ++ [x])) :: (lp, lbO at_ (js ++ [l.length])) :: hs) := by
  obtain ⟨io, id, is, iof, im⟩ := i
  obtain ⟨M2, hM2⟩ : ∃ M2, (M.push (.cells true [.int .i64 wc, .int .i64 wo, .int .i64 ws, .bool ww, .bool wr])).push (.cells true [.int .u8 io, .int .u8 id, .int .u8 is, .int .i16 iof, .int .i32 im]) = M2 := ⟨_, rfl⟩
  have x2 : Ext M M2 := hM2 ▸ (Ext.push _ _).trans (Ext.push _ _)
  have s2 : M2.size = M.size + 2 := by rw [← hM2]; rfl
  have g1 : M2.get M.size = .cells true [.int .i64 wc, .int .i64 wo, .int .i64 ws, .bool ww, .bool wr] := by
    rw [← hM2, Mem.get_push_ne _ (by simp), Mem.get_push_same]
  have g2 : M2.get (Nat.succ M.size) = .cells true [.int .u8 io, .int .u8 id, .int .u8 is, .int .i16 iof, .int .i32 im] := by rw [← hM2]; exact Mem.get_push_same _ _
  have h' := h.perm (List.Perm.swap (lp, lbO at_ js) (mp, mkO l) hs)
  obtain ⟨hmp, _, u, ⟨am, rfl⟩, gm, _⟩ := h.set
  have hlp := h'.set.1
  obtain ⟨a, gl_, happ⟩ := h'.append und63 sz63 sz3 (show (1 : Nat) ≠ 0 by decide) by3 (by decide) ze3 (by show (js.length + 1) * 8 ≤ _ ∧ js.length + 1 ≤ _; omega)
  obtain ⟨M6, hM6⟩ : ∃ M6, M2.push (.cells true [.int .i64 (Int.ofNat l.length)]) = M6 := ⟨_, rfl⟩
  have x6 : Ext M M6 := hM6 ▸ x2.trans (Ext.push _ _)
  have s6 : M6.size = M.size + 3 := by rw [← hM6]; show M2.size + 1 = _; omega
  obtain ⟨a', M7, M8, p1, p2, h8, _, fr⟩ := happ M6 M2.size true [.int .i64 (Int.ofNat l.length)] x6 (by rw [← hM6]; exact Mem.get_push_same _ _) rfl rfl
  have e1 : ({ lbO at_ js with n := (lbO at_ js).n + 1, c := (lbO at_ js).c ++ [.int .i64 (Int.ofNat l.length)] } : Thing) = lbO at_ (js ++ [l.length]) := by simp [lbO]
  rw [e1] at h8
  have gm2 : M2.get mp = .cells true [.slice am l.length l.length] := (x2.get mp hmp).trans gm
  have gl2 : M2.get lp = .cells true [.int .i64 at_, .slice a js.length js.length] := (x2.get lp hlp).trans gl_
  have q1 : M8.get M.size = .cells true [.int .i64 wc, .int .i64 wo, .int .i64 ws, .bool ww, .bool wr] := by
    rw [fr _ (by omega) (by omega), ← hM6, Mem.get_push_ne _ (by omega)]; exact g1
  have q2 : M8.get (Nat.succ M.size) = .cells true [.int .u8 io, .int .u8 id, .int .u8 is, .int .i16 iof, .int .i32 im] := by
    rw [fr _ (by omega) (by omega), ← hM6, Mem.get_push_ne _ (by omega)]; exact g2
  obtain ⟨M9, c35, h9⟩ := put_run (k := k) (hs := (lp, lbO at_ (js ++ [l.length])) :: hs) (i := ⟨io, id, is, iof, im⟩) ho h0 hl (h8.perm (List.Perm.swap (mp, mkO l) (lp, lbO at_ (js ++ [l.length])) hs)) hmk
  refine ⟨M9, call_of 26 (ho2 _ _) at37 bd37 n37 ?_ ok37, h9⟩
  refine Eq.trans (calm_eq [1] Tryd.prog kp 1 _ _ 26 (k + 1) (bodyOf Tryd.f37) (by kernel_rfl) _ M _) ?_
  refine Eq.trans (markS_eq [1] Tryd.prog kp 1 _ (Y.lpOf Tryd.prog kp 1 (callN Tryd.prog kp 1 o (k + 1)) 26) (fun _ _ _ _ _ _ _ => rfl) 26 (k + 1) (calm [1] (bodyOf Tryd.f37)) (by kernel_rfl) _ M _) ?_
  refine Eq.trans (t_jumpA ..) ?_
  rw [hM2]
  refine Eq.trans (loop_reg _ _ _ (by kernel_rfl) _ _ _ _) ?_
  refine Eq.trans (r37_eq ..) ?_
  refine Eq.trans (opsF_cut 11 ..) ?_
  refine Eq.trans (t_jumpB ..) ?_
  rw [gl2, nCells, show Y.nthL [Value.int .i64 at_, Value.slice a js.length js.length] 1 = some (.slice a js.length js.length) from rfl, nElim, nAsSl, gm2, nCells, show Y.nthL [Value.slice am l.length l.length] 0 = some (.slice am l.length l.length) from rfl, nElim, nAsSl, hM6]
  refine Eq.trans (t_jumpC ..) ?_
  rw [Y.appendF_eq, show appendD Tryd.prog M6 63 63 (.slice a js.length js.length) (.slice (some ⟨M2.size, 0, none⟩) 1 1) = _ from p1, nOnV, Y.storeF_eq, show storeD Tryd.prog M7 63 _ (.pointer (some ⟨lp, 1, none⟩)) = _ from p2, Y.ob_some]
  refine Eq.trans (t_jumpK ..) ?_
  rw [q1, nCells]
  rw [show Nat.ble 5 (Y.lenLF [Value.int .i64 wc, .int .i64 wo, .int .i64 ws, .bool ww, .bool wr]) = true from rfl, nCondT, q2, nCells]
  rw [show Nat.ble 5 (Y.lenLF [Value.int .u8 io, .int .u8 id, .int .u8 is, .int .i16 iof, .int .i32 im]) = true from rfl, nCondT]
  rw [show Y.subL [Value.int .i64 wc, .int .i64 wo, .int .i64 ws, .bool ww, .bool wr] 0 5 = [Value.int .i64 wc, .int .i64 wo, .int .i64 ws, .bool ww, .bool wr] from rfl]
  rw [show Y.subL [Value.int .u8 io, .int .u8 id, .int .u8 is, .int .i16 iof, .int .i32 im] 0 5 = [Value.int .u8 io, .int .u8 id, .int .u8 is, .int .i16 iof, .int .i32 im] from rfl]
  rw [nCf, show callN Tryd.prog kp 1 o (k + 1) 35 [.pointer (some ⟨mp, 0, none⟩), .agg ⟨[.int .i64 wc, .int .i64 wo, .int .i64 ws, .bool ww, .bool wr]⟩, .agg ⟨[.int .u8 io, .int .u8 id, .int .u8 is, .int .i16 iof, .int .i32 im]⟩] M8 = some (unitV, M9) from c35, nOnV]
  rfl
end
end Go.Proofs.YtadioopbehiakaaDoor
namespace Go.Proofs.YtadioopbehiakaaDoor
open Go Go.DI Go.DI.Kit Go.Proofs Go.Cmp
noncomputable section
theorem at33 : Tryd.prog.funcs[33]? = some Tryd.f33 := by kernel_rfl
theorem bd33 : Tryd.f33.body = some (bodyOf Tryd.f33) := by kernel_rfl
theorem nt33 : Tryd.f33.ntmps = 15 := by kernel_rfl
theorem n33 {a b : Value} : max [a, b].length Tryd.f33.ntmps = 15 := by rw [nt33]; rfl
theorem ok33 : okR Tryd.prog 33 unitV = true := by kernel_rfl
theorem r33_eq {α : Type} (cf : Y.CF α) (L : Y.LK α) (k : Nat) (t : Tmps) (m : Mem) (q : Y.ExK α) : Y.codeF (Y.loopC c33 0) Tryd.prog kp 1 (Y.cfT Tryd.prog cf) L 15 k t m q = Y.opsF r33 Tryd.prog kp 1 (Y.cfT Tryd.prog cf) 15 r33 t m fun t m => q .normal t m := by kernel_rfl
theorem at42 : Tryd.prog.funcs[42]? = some Tryd.f42 := by kernel_rfl
theorem bd42 : Tryd.f42.body = some (bodyOf Tryd.f42) := by kernel_rfl
theorem nt42 : Tryd.f42.ntmps = 28 := by kernel_rfl
theorem n42 {a b c : Value} : max [a, b, c].length Tryd.f42.ntmps = 28 := by rw [nt42]; rfl
theorem ok42 : okR Tryd.prog 42 unitV = true := by kernel_rfl
theorem r42_eq {α : Type} (cf : Y.CF α) (L : Y.LK α) (k : Nat) (t : Tmps) (m : Mem) (q : Y.ExK α) : Y.codeF (Y.loopC c42 0) Tryd.prog kp 1 (Y.cfT Tryd.prog cf) L 28 k t m q = Y.opsF r42 Tryd.prog kp 1 (Y.cfT Tryd.prog cf) 28 r42 t m fun t m => q .normal t m := by kernel_rfl
theorem at46 : Tryd.prog.funcs[46]? = some Tryd.f46 := by kernel_rfl
theorem bd46 : Tryd.f46.body = some (bodyOf Tryd.f46) := by kernel_rfl
theorem nt46 : Tryd.f46.ntmps = 28 := by kernel_rfl
theorem n46 {a b c d : Value} : max [a, b, c, d].length Tryd.f46.ntmps = 28 := by rw [nt46]; rfl
theorem ok46 : okR Tryd.prog 46 unitV = true := by kernel_rfl
theorem r46_eq {α : Type} (cf : Y.CF α) (L : Y.LK α) (k : Nat) (t : Tmps) (m : Mem) (q : Y.ExK α) : Y.codeF (Y.loopC c46 1) Tryd.prog kp 1 (Y.cfT Tryd.prog cf) L 28 k t m q = Y.opsF r46 Tryd.prog kp 1 (Y.cfT Tryd.prog cf) 28 r46 t m fun t m => q .normal t m := by kernel_rfl
theorem at50 : Tryd.prog.funcs[50]? = some Tryd.f50 := by kernel_rfl
theorem bd50 : Tryd.f50.body = some (bodyOf Tryd.f50) := by kernel_rfl
theorem nt50 : Tryd.f50.ntmps = 27 := by kernel_rfl
theorem n50 {a b : Value} : max [a, b].length Tryd.f50.ntmps = 27 := by rw [nt50]; rfl
theorem ok50 : okR Tryd.prog 50 unitV = true := by kernel_rfl
theorem r50_eq {α : Type} (cf : Y.CF α) (L : Y.LK α) (k : Nat) (t : Tmps) (m : Mem) (q : Y.ExK α) : Y.codeF (Y.loopC c50 0) Tryd.prog kp 1 (Y.cfT Tryd.prog cf) L 27 k t m q = Y.opsF r50 Tryd.prog kp 1 (Y.cfT Tryd.prog cf) 27 r50 t m fun t m => q .normal t m := by kernel_rfl
theorem r46a_eq {α : Type} (cf : Y.CF α) (L : Y.LK α) (k : Nat) (t : Tmps) (m : Mem) (q : Y.ExK α) : Y.codeF (Y.loopC c46 0) Tryd.prog kp 1 (Y.cfT Tryd.prog cf) L 28 k t m q = Y.opsF r46a Tryd.prog kp 1 (Y.cfT Tryd.prog cf) 28 r46a t m fun t m => q .normal t m := by kernel_rfl
def MakesR (o : Orc) (k : Nat) (w i : Value) (x : Ins) : Prop := ∀ M, M.top → 1 ≤ M.size → M.get 0 = .cells false gl → ∃ e M', callN Tryd.prog kp 1 o k 53 [w, i] M = some (.tuple ⟨[insV x, .int .i64 e]⟩, M') ∧ Ext M M'
theorem mk_next (l : List Ins) (x : Ins) : ({ mkO l with n := (mkO l).n + 1, c := (mkO l).c ++ insC x } : Thing) = mkO (l ++ [x]) := by simp [mkO]
theorem rk_next (l : List RowS) (n : Nat) (r : RowS) : ({ rkO l n with n := (rkO l n).n + 1, c := (rkO l n).c ++ rowC r } : Thing) = rkO (l ++ [r]) n := by simp [rkO]
theorem mk_app {K : Keep} {mp : Nat} {M : Mem} {l : List Ins} {hs : List (Nat × Thing)} (hl : l.length ≤ 1000000000) (h : Hp M K ((mp, mkO l) :: hs)) (x : Ins) {M1 : Mem} {nb : Nat} (hx : Ext M M1) (hn : M1.get nb = .cells true (insC x)) :
    ∃ a a' M2 M3, M.get mp = .cells true [.slice a l.length l.length] ∧ appendD Tryd.prog M1 28 28 (.slice a l.length l.length) (.slice (some ⟨nb, 0, none⟩) 1 1) = some (.slice a' (l.length + 1) (l.length + 1), M2) ∧ storeD Tryd.prog M2 28 (.slice a' (l.length + 1) (l.length + 1)) (.pointer (some ⟨mp, 0, none⟩)) = some M3 ∧ Hp M3 K ((mp, mkO (l ++ [x])) :: hs) := by
  obtain ⟨a, gm, happ⟩ := h.append und28 sz28 sz42 (show (5 : Nat) ≠ 0 by decide) by42 (by decide) ze42 (by show (l.length + 1) * 12 ≤ _ ∧ l.length + 1 ≤ _; omega)
  obtain ⟨a', M7, M8, p1, p2, h8, _, _⟩ := happ M1 nb true (insC x) hx hn rfl rfl
  rw [mk_next] at h8
  exact ⟨a, a', M7, M8, gm, p1, p2, h8⟩
theorem rk_app {K : Keep} {mp : Nat} {M : Mem} {l : List RowS} {n : Nat} {hs : List (Nat × Thing)} (hl : l.length ≤ 1000000000) (h : Hp M K ((mp, rkO l n) :: hs)) (r : RowS) {M1 : Mem} {nb : Nat} (hx : Ext M M1) (hn : M1.get nb = .cells true (rowC r)) :
    ∃ a a' M2 M3, M.get mp = .cells true [.slice a l.length l.length, .int .i64 (n : Int)] ∧ appendD Tryd.prog M1 73 73 (.slice a l.length l.length) (.slice (some ⟨nb, 0, none⟩) 1 1) = some (.slice a' (l.length + 1) (l.length + 1), M2) ∧ storeD Tryd.prog M2 73 (.slice a' (l.length + 1) (l.length + 1)) (.pointer (some ⟨mp, 0, none⟩)) = some M3 ∧ Hp M3 K ((mp, rkO (l ++ [r]) n) :: hs) := by
  obtain ⟨a, gm, happ⟩ := h.append und73 sz73 sz81 (show (7 : Nat) ≠ 0 by decide) by81 (by decide) ze81 (by show (l.length + 1) * 32 ≤ _ ∧ l.length + 1 ≤ _; omega)
  obtain ⟨a', M7, M8, p1, p2, h8, _, _⟩ := happ M1 nb true (rowC r) hx hn rfl rfl
  rw [rk_next] at h8
  exact ⟨a, a', M7, M8, gm, p1, p2, h8⟩
set_option maxHeartbeats 400000 in
theorem here_run {o : Orc} {k : Nat} {K : Keep} {mp n : Nat} {M : Mem} {l : List RowS} {hs : List (Nat × Thing)} (lb : Nat) (ho : ∀ a m, o 33 a m = none) (hl : l.length ≤ 1000000000) (h : Hp M K ((mp, rkO l n) :: hs)) :
    ∃ M', callN Tryd.prog kp 1 o (k + 1) 33 [ptr mp, .int .i64 (lb : Int)] M = some (unitV, M') ∧ Hp M' K ((mp, rkO (l ++ [lab lb]) n) :: hs) := by
  obtain ⟨a, a', M7, M8, gm, p1, p2, h8⟩ := rk_app hl h (lab lb) (Ext.push M (.cells true (rowC (lab lb)))) (Mem.get_push_same _ _)
  refine ⟨M8, call_of 15 (ho _ _) at33 bd33 n33 ?_ ok33, h8⟩
  refine Eq.trans (markS_eq [0] Tryd.prog kp 1 _ (Y.lpOf Tryd.prog kp 1 (callN Tryd.prog kp 1 o k) 15) (fun _ _ _ _ _ _ _ => rfl) 15 k (bodyOf Tryd.f33) (by kernel_rfl) _ M _) ?_
  refine Eq.trans (t_HereA ..) ?_
  refine Eq.trans (loop_reg _ _ _ (by kernel_rfl) _ _ _ _) ?_
  refine Eq.trans (r33_eq ..) ?_
  refine Eq.trans (opsF_cut 8 ..) ?_
  refine Eq.trans (t_HereB ..) ?_
  rw [gm, nCells, show Y.nthL [Value.slice a l.length l.length, .int .i64 (n : Int)] 0 = some (.slice a l.length l.length) from rfl, nElim, nAsSl]
  refine Eq.trans (t_HereC ..) ?_
  rw [Y.appendF_eq, show appendD Tryd.prog (M.push (.cells true [.int .u8 0, .int .u8 0, .int .u8 0, .int .i16 0, .int .i32 0, .int .i64 0, .int .i64 (lb : Int)])) 73 73 (.slice a l.length l.length) (.slice (some ⟨M.size, 0, none⟩) 1 1) = _ from p1, nOnV, Y.storeF_eq, show storeD Tryd.prog M7 73 _ (.pointer (some ⟨mp, 0, none⟩)) = _ from p2, Y.ob_some]
  exact t_HereK ..
set_option maxHeartbeats 400000 in
theorem putR_run {o : Orc} {k : Nat} {K : Keep} {mp n : Nat} {M : Mem} {l : List RowS} {hs : List (Nat × Thing)} {wc wo ws : Int} {ww wr : Bool} {i x : Ins} (to : Nat) (ho : ∀ a m, o 46 a m = none) (h0 : K 0 = some (.cells false gl))
    (hl : l.length ≤ 1000000000) (h : Hp M K ((mp, rkO l n) :: hs)) (hmk : MakesR o k (whatV wc wo ws ww wr) (insV i) x) :
    ∃ M', callN Tryd.prog kp 1 o (k + 1) 46 [ptr mp, whatV wc wo ws ww wr, insV i, .int .i64 (to : Int)] M = some (unitV, M') ∧ Hp M' K ((mp, rkO (l ++ [ins x to]) n) :: hs) := by
  obtain ⟨io, id, is, iof, im⟩ := i
  obtain ⟨M2, hM2⟩ : ∃ M2, (M.push (.cells true [.int .i64 wc, .int .i64 wo, .int .i64 ws, .bool ww, .bool wr])).push (.cells true [.int .u8 io, .int .u8 id, .int .u8 is, .int .i16 iof, .int .i32 im]) = M2 := ⟨_, rfl⟩
  have x2 : Ext M M2 := hM2 ▸ (Ext.push _ _).trans (Ext.push _ _)
  have g1 : M2.get M.size = .cells true [.int .i64 wc, .int .i64 wo, .int .i64 ws, .bool ww, .bool wr] := by
    rw [← hM2, Mem.get_push_ne _ (by simp), Mem.get_push_same]
  have g2 : M2.get (Nat.succ M.size) = .cells true [.int .u8 io, .int .u8 id, .int .u8 is, .int .i16 iof, .int .i32 im] := by rw [← hM2]; exact Mem.get_push_same _ _
  obtain ⟨e, M3, c53, x3⟩ := hmk M2 (x2.top h.top) (by have := x2.size; have := h.lt h0; omega) ((x2.get 0 (h.lt h0)).trans (h.get h0))
  obtain ⟨M4, hM4⟩ : ∃ M4, M3.push (.cells true [.int .u8 0, .int .u8 0, .int .u8 0, .int .i16 0, .int .i32 0]) = M4 := ⟨_, rfl⟩
  have hst : storeD Tryd.prog M4 42 (insV x) (.pointer (some ⟨M3.size, 0, none⟩)) = some (M4.set M3.size (.cells true (insC x))) :=
    storeD_at (c := [.int .u8 0, .int .u8 0, .int .u8 0, .int .i16 0, .int .i32 0]) sz42 rfl (by rw [← hM4]; exact Mem.get_push_same _ _) (by decide) rfl
  obtain ⟨M5, hM5⟩ : ∃ M5, M4.set M3.size (.cells true (insC x)) = M5 := ⟨_, rfl⟩
  have g5 : M5.get M3.size = .cells true (insC x) := by rw [← hM5]; exact Mem.get_set_same _ _ _
  rw [hM5] at hst
  have x5 : Ext M M5 := by
    have x3' := x2.trans x3
    subst hM5 hM4
    refine ⟨by have := x3'.size; show M.size ≤ M3.size + 1; omega, fun j hj => ?_, fun t j hj => ?_⟩
    · have := x3'.size
      rw [Mem.get_set_ne _ (by omega), Mem.get_push_ne _ (by omega)]; exact x3'.get j hj
    · have hj : M3.size + 1 ≤ j := hj
      rw [Mem.get_set_ne _ (by omega), Mem.get_push_ne _ (by omega)]; exact x3'.top t j (by omega)
  obtain ⟨M6, hM6⟩ : ∃ M6, M5.push (.cells true (rowC (ins x to))) = M6 := ⟨_, rfl⟩
  have x6 : Ext M M6 := hM6 ▸ x5.trans (Ext.push _ _)
  obtain ⟨a, a', M7, M8, gm, p1, p2, h8⟩ := rk_app hl h (ins x to) x6 (nb := M5.size) (by rw [← hM6]; exact Mem.get_push_same _ _)
  have gm5 : M5.get mp = .cells true [.slice a l.length l.length, .int .i64 (n : Int)] := (x5.get mp h.set.1).trans gm
  refine ⟨M8, call_of 28 (ho _ _) at46 bd46 n46 ?_ ok46, h8⟩
  refine Eq.trans (calm_eq [2] Tryd.prog kp 1 _ _ 28 k (bodyOf Tryd.f46) (by kernel_rfl) _ M _) ?_
  refine Eq.trans (markS_eq [1, 2] Tryd.prog kp 1 _ (Y.lpOf Tryd.prog kp 1 (callN Tryd.prog kp 1 o k) 28) (fun _ _ _ _ _ _ _ => rfl) 28 k (calm [2] (bodyOf Tryd.f46)) (by kernel_rfl) _ M _) ?_
  refine Eq.trans (t_PutA ..) ?_
  refine Eq.trans (loop_reg _ _ _ (by kernel_rfl) _ _ _ _) ?_
  refine Eq.trans (r46a_eq ..) ?_
  refine Eq.trans (opsF_cut 7 ..) ?_
  refine Eq.trans (t_PutP ..) ?_
  rw [hM2, g1, nCells]
  rw [show Nat.ble 5 (Y.lenLF [Value.int .i64 wc, .int .i64 wo, .int .i64 ws, .bool ww, .bool wr]) = true from rfl, nCondT, g2, nCells]
  rw [show Nat.ble 5 (Y.lenLF [Value.int .u8 io, .int .u8 id, .int .u8 is, .int .i16 iof, .int .i32 im]) = true from rfl, nCondT]
  rw [show Y.subL [Value.int .i64 wc, .int .i64 wo, .int .i64 ws, .bool ww, .bool wr] 0 5 = [Value.int .i64 wc, .int .i64 wo, .int .i64 ws, .bool ww, .bool wr] from rfl]
  rw [show Y.subL [Value.int .u8 io, .int .u8 id, .int .u8 is, .int .i16 iof, .int .i32 im] 0 5 = [Value.int .u8 io, .int .u8 id, .int .u8 is, .int .i16 iof, .int .i32 im] from rfl]
  have c53' : callN Tryd.prog kp 1 o k 53 [.agg ⟨[.int .i64 wc, .int .i64 wo, .int .i64 ws, .bool ww, .bool wr]⟩, .agg ⟨[.int .u8 io, .int .u8 id, .int .u8 is, .int .i16 iof, .int .i32 im]⟩] M2 = some (.tuple ⟨[.agg ⟨insC x⟩, .int .i64 e]⟩, M3) := c53
  simp only [nCf, c53', nOnV, nAsTup, nUncC, nUncN, nAsInt, nAsAgg, nKEq, nCondT]
  rw [hM4]
  refine Eq.trans (t_PutS ..) ?_
  rw [Y.storeF_eq, show storeD Tryd.prog M4 42 (.agg ⟨insC x⟩) (.pointer (some ⟨M3.size, 0, none⟩)) = some M5 from hst, Y.ob_some]
  refine Eq.trans (t_PutJ ..) ?_
  refine Eq.trans (loop_reg _ _ _ (by kernel_rfl) _ _ _ _) ?_
  refine Eq.trans (r46_eq ..) ?_
  refine Eq.trans (opsF_cut 7 ..) ?_
  refine Eq.trans (t_PutB ..) ?_
  rw [gm5, nCells, show Y.nthL [Value.slice a l.length l.length, .int .i64 (n : Int)] 0 = some (.slice a l.length l.length) from rfl, nElim, nAsSl, g5, nCells]
  rw [show Nat.ble 5 (Y.lenLF (insC x)) = true from rfl, nCondT, show Y.subL (insC x) 0 5 = insC x from rfl]
  refine Eq.trans (opsF_cut 2 ..) ?_
  refine Eq.trans (t_PutB2 ..) ?_
  obtain ⟨xo, xd, xs, xf, xm⟩ := x
  rw [show M5.push (.cells true [.int .u8 xo, .int .u8 xd, .int .u8 xs, .int .i16 xf, .int .i32 xm, .int .i64 (to : Int), .int .i64 0]) = M6 from hM6]
  rw [show List.drop 2 (List.drop 7 r46) = List.drop 9 r46 by rw [List.drop_drop]]
  refine Eq.trans (t_PutC ..) ?_
  rw [Y.appendF_eq, show appendD Tryd.prog M6 73 73 (.slice a l.length l.length) (.slice (some ⟨M5.size, 0, none⟩) 1 1) = _ from p1, nOnV, Y.storeF_eq, show storeD Tryd.prog M7 73 _ (.pointer (some ⟨mp, 0, none⟩)) = _ from p2, Y.ob_some]
  exact t_PutK ..
def loW (n : Int) : Int := IntKind.wrap .i32 (IntKind.wrap .u32 n)
set_option maxHeartbeats 400000 in
theorem konst_run {o : Orc} {k : Nat} {K : Keep} {mp : Nat} {M : Mem} {l : List Ins} {hs : List (Nat × Thing)} {d n : Int} {x : Ins} (ho : ∀ a m, o 35 a m = none) (ho2 : ∀ a m, o 42 a m = none) (h0 : K 0 = some (.cells false gl))
    (hl : l.length ≤ 100000000) (h : Hp M K ((mp, mkO l) :: hs)) (hmk : Makes o k (whatV 10 0 0 false false) (insV ⟨0, d, 0, 0, loW n⟩) x) :
    ∃ M', callN Tryd.prog kp 1 o (k + 2) 42 [ptr mp, .int .u8 d, .int .u64 n] M = some (unitV, M') ∧ Hp M' K ((mp, mkO (l ++ [x, ⟨0, 0, 0, 0, loW (Int.fdiv n 4294967296)⟩])) :: hs) := by
  obtain ⟨M1, c35, h1⟩ := put_run (k := k) ho h0 (by omega) h hmk
  obtain ⟨a, a', M7, M8, gm, p1, p2, h8⟩ := mk_app (by simp; omega) h1 ⟨0, 0, 0, 0, loW (Int.fdiv n 4294967296)⟩ (Ext.push M1 (.cells true (insC ⟨0, 0, 0, 0, loW (Int.fdiv n 4294967296)⟩))) (Mem.get_push_same _ _)
  rw [List.append_assoc] at h8
  refine ⟨M8, call_of 28 (ho2 _ _) at42 bd42 n42 ?_ ok42, h8⟩
  refine Eq.trans (markS_eq [1] Tryd.prog kp 1 _ (Y.lpOf Tryd.prog kp 1 (callN Tryd.prog kp 1 o (k + 1)) 28) (fun _ _ _ _ _ _ _ => rfl) 28 (k + 1) (bodyOf Tryd.f42) (by kernel_rfl) _ M _) ?_
  refine Eq.trans (t_konA ..) ?_
  rw [nCf, show callN Tryd.prog kp 1 o (k + 1) 35 [.pointer (some ⟨mp, 0, none⟩), .agg ⟨[.int .i64 10, .int .i64 0, .int .i64 0, .bool false, .bool false]⟩, .agg ⟨[.int .u8 0, .int .u8 d, .int .u8 0, .int .i16 0, .int .i32 (IntKind.wrap .i32 (IntKind.wrap .u32 n))]⟩] M = some (unitV, M1) from c35, nOnV]
  refine Eq.trans (loop_reg _ _ _ (by kernel_rfl) _ _ _ _) ?_
  refine Eq.trans (r42_eq ..) ?_
  refine Eq.trans (opsF_cut 11 ..) ?_
  refine Eq.trans (t_konB ..) ?_
  obtain ⟨l1, hl1⟩ : ∃ l1, l ++ [x] = l1 := ⟨_, rfl⟩
  rw [hl1] at gm p1 p2
  rw [gm, nCells, show Y.nthL [Value.slice a l1.length l1.length] 0 = some (.slice a l1.length l1.length) from rfl, nElim, nAsSl]
  refine Eq.trans (t_konC ..) ?_
  rw [Y.appendF_eq, show appendD Tryd.prog (M1.push (.cells true [.int .u8 0, .int .u8 0, .int .u8 0, .int .i16 0, .int .i32 (IntKind.wrap .i32 (IntKind.wrap .u32 (Int.fdiv n 4294967296)))])) 28 28 (.slice a l1.length l1.length) (.slice (some ⟨M1.size, 0, none⟩) 1 1) = _ from p1, nOnV, Y.storeF_eq, show storeD Tryd.prog M7 28 _ (.pointer (some ⟨mp, 0, none⟩)) = _ from p2, Y.ob_some]
  exact t_konK ..
set_option maxHeartbeats 400000 in
theorem const_run {o : Orc} {k : Nat} {K : Keep} {mp nl : Nat} {M : Mem} {l : List RowS} {hs : List (Nat × Thing)} {n : Int} {x : Ins} (ho : ∀ a m, o 46 a m = none) (ho2 : ∀ a m, o 50 a m = none) (h0 : K 0 = some (.cells false gl))
    (hl : l.length ≤ 100000000) (h : Hp M K ((mp, rkO l nl) :: hs)) (hmk : MakesR o k (whatV 10 0 0 false false) (insV ⟨0, 3, 0, 0, loW (Int.tmod n 4294967296)⟩) x) :
    ∃ M', callN Tryd.prog kp 1 o (k + 2) 50 [ptr mp, .int .u64 n] M = some (unitV, M') ∧ Hp M' K ((mp, rkO (l ++ [ins x 0, ins ⟨0, 0, 0, 0, loW (IntKind.wrap .u64 (Int.tdiv n 4294967296))⟩ 0]) nl) :: hs) := by
  obtain ⟨M1, c46, h1⟩ := putR_run (k := k) 0 ho h0 (by omega) h hmk
  obtain ⟨a, a', M7, M8, gm, p1, p2, h8⟩ := rk_app (by simp; omega) h1 (ins ⟨0, 0, 0, 0, loW (IntKind.wrap .u64 (Int.tdiv n 4294967296))⟩ 0) (Ext.push M1 (.cells true (rowC (ins ⟨0, 0, 0, 0, loW (IntKind.wrap .u64 (Int.tdiv n 4294967296))⟩ 0)))) (Mem.get_push_same _ _)
  rw [List.append_assoc] at h8
  refine ⟨M8, call_of 27 (ho2 _ _) at50 bd50 n50 ?_ ok50, h8⟩
  refine Eq.trans (markS_eq [1] Tryd.prog kp 1 _ (Y.lpOf Tryd.prog kp 1 (callN Tryd.prog kp 1 o (k + 1)) 27) (fun _ _ _ _ _ _ _ => rfl) 27 (k + 1) (bodyOf Tryd.f50) (by kernel_rfl) _ M _) ?_
  refine Eq.trans (t_ConA ..) ?_
  rw [nCf, show callN Tryd.prog kp 1 o (k + 1) 46 [.pointer (some ⟨mp, 0, none⟩), .agg ⟨[.int .i64 10, .int .i64 0, .int .i64 0, .bool false, .bool false]⟩, .agg ⟨[.int .u8 0, .int .u8 3, .int .u8 0, .int .i16 0, .int .i32 (IntKind.wrap .i32 (IntKind.wrap .u32 (Int.tmod n 4294967296)))]⟩, .int .i64 0] M = some (unitV, M1) from c46, nOnV]
  refine Eq.trans (loop_reg _ _ _ (by kernel_rfl) _ _ _ _) ?_
  refine Eq.trans (r50_eq ..) ?_
  refine Eq.trans (opsF_cut 12 ..) ?_
  refine Eq.trans (t_ConB ..) ?_
  obtain ⟨l1, hl1⟩ : ∃ l1, l ++ [ins x 0] = l1 := ⟨_, rfl⟩
  rw [hl1] at gm p1 p2
  rw [gm, nCells, show Y.nthL [Value.slice a l1.length l1.length, .int .i64 (nl : Int)] 0 = some (.slice a l1.length l1.length) from rfl, nElim, nAsSl]
  refine Eq.trans (t_ConC ..) ?_
  rw [Y.appendF_eq, show appendD Tryd.prog (M1.push (.cells true [.int .u8 0, .int .u8 0, .int .u8 0, .int .i16 0, .int .i32 (IntKind.wrap .i32 (IntKind.wrap .u32 (IntKind.wrap .u64 (Int.tdiv n 4294967296)))), .int .i64 0, .int .i64 0])) 73 73 (.slice a l1.length l1.length) (.slice (some ⟨M1.size, 0, none⟩) 1 1) = _ from p1, nOnV, Y.storeF_eq, show storeD Tryd.prog M7 73 _ (.pointer (some ⟨mp, 0, none⟩)) = _ from p2, Y.ob_some]
  exact t_ConK ..
end
end Go.Proofs.YtadioopbehiakaaDoor
namespace Go.Cmp
open Go Go.DI
theorem outGo_ins0 (f : Nat → Option Nat) (a : List RowS) (x : Ins) : outGo f (a ++ [ins x 0]) 0 = outGo f a 0 ++ [x] := by
  rw [outGo_append]; simp [outGo, ins, isLab]
theorem outGo_insL {f : Nat → Option Nat} (a : List RowS) (x : Ins) {l : Nat} (hf : f l = none) : outGo f (a ++ [ins x l]) 0 = outGo f a 0 ++ [x] := by
  rw [outGo_append]; simp [outGo, ins, isLab, hf]
theorem outGo_lab (f : Nat → Option Nat) (a : List RowS) {l : Nat} (hl : 0 < l) : outGo f (a ++ [lab l]) 0 = outGo f a 0 := by
  rw [outGo_append]; simp [outGo, lab, isLab, hl]
theorem cnt_le : ∀ a : List RowS, cnt a ≤ a.length
  | [] => Nat.le_refl _
  | r :: a => by
    have := cnt_le a
    simp only [cnt, List.length_cons]
    split <;> omega
theorem jumps_ins (a : List RowS) (x : Ins) (to l : Nat) : jumpsS l (a ++ [ins x to]) 0 = jumpsS l a 0 ++ (if to = l then [cnt a] else []) := by
  rw [jumpsS_append]; simp [jumpsS, ins, isLab]
theorem jumps_lab (a : List RowS) (l : Nat) {l' : Nat} (hl : 0 < l') : jumpsS l (a ++ [lab l']) 0 = jumpsS l a 0 := by
  rw [jumpsS_append]; simp [jumpsS, lab, isLab, hl]
theorem jumps_length (l : Nat) : ∀ (a : List RowS) (n : Nat), (jumpsS l a n).length ≤ cnt a
  | [], n => Nat.le_refl _
  | r :: a, n => by
    have h1 := jumps_length l a n
    have h2 := jumps_length l a (n + 1)
    simp only [jumpsS, cnt]
    split
    · exact h1
    · rw [List.length_append]
      split
      · simp; omega
      · simp; omega
theorem jumps_fresh {l : Nat} : ∀ (a : List RowS) (n : Nat), (∀ r ∈ a, r.to ≠ l) → jumpsS l a n = []
  | [], n, _ => rfl
  | r :: a, n, h => by
    simp only [jumpsS]
    rw [jumps_fresh a n fun r hr => h r (by simp [hr]), jumps_fresh a (n + 1) fun r hr => h r (by simp [hr]), if_neg (h r (by simp))]
    simp
theorem atGo_append : ∀ (a b : List RowS) (n : Nat) (f : Nat → Nat), atGo (a ++ b) n f = atGo b (n + cnt a) (atGo a n f)
  | [], b, n, f => by simp [atGo, cnt]
  | r :: a, b, n, f => by
    simp only [List.cons_append, atGo, cnt]
    split
    · exact atGo_append a b n _
    · rw [atGo_append a b (n + 1) f, show n + 1 + cnt a = n + (cnt a + 1) by omega]
theorem atS_ins (a : List RowS) (x : Ins) (to l : Nat) : atS (a ++ [ins x to]) l = atS a l := by
  unfold atS; rw [atGo_append]; simp [atGo, ins, isLab]
theorem atS_lab (a : List RowS) {l : Nat} (hl : 0 < l) (j : Nat) : atS (a ++ [lab l]) j = if j = l then cnt a else atS a j := by
  unfold atS; rw [atGo_append]; simp [atGo, lab, isLab, hl]
theorem at_fresh {l : Nat} (hl : 0 < l) : ∀ (a : List RowS) (n : Nat) (f : Nat → Nat), (∀ r ∈ a, r.here ≠ l) → atGo a n f l = f l
  | [], n, f, _ => rfl
  | r :: a, n, f, h => by
    simp only [atGo]
    split
    · rw [at_fresh hl a n _ fun r hr => h r (by simp [hr]), if_neg (fun e => h r (by simp) e.symm)]
    · exact at_fresh hl a (n + 1) f fun r hr => h r (by simp [hr])
theorem atS_fresh {l : Nat} (hl : 0 < l) (a : List RowS) (h : ∀ r ∈ a, r.here ≠ l) : atS a l = 0 := at_fresh hl a 0 _ h
theorem atS_le : ∀ (a : List RowS) (n : Nat) (f : Nat → Nat) (c : Nat), n + cnt a ≤ c → (∀ j, f j ≤ c) → ∀ j, atGo a n f j ≤ c
  | [], n, f, c, _, hf, j => hf j
  | r :: a, n, f, c, hc, hf, j => by
    simp only [atGo, cnt] at hc ⊢
    split
    · rename_i h
      rw [if_pos h] at hc
      refine atS_le a n _ c hc (fun j => ?_) j
      split
      · omega
      · exact hf j
    · rename_i h
      rw [if_neg h] at hc
      exact atS_le a (n + 1) f c (by omega) hf j
theorem atS_cnt (a : List RowS) (j : Nat) : atS a j ≤ cnt a := atS_le a 0 _ _ (by omega) (fun _ => Nat.zero_le _) j
theorem outGo_made (f : Nat → Option Nat) (a : List RowS) (hs : ∀ l q, f l = some q → q = atS a l) (hk : ∀ r ∈ a, 0 < r.to → (f r.to).isSome) : outGo f a 0 = madeS a := by
  refine outGo_same f _ a 0 fun r hr _ h0 => ?_
  have h1 := hk r hr h0
  cases h : f r.to with
  | none => rw [h] at h1; cases h1
  | some q => rw [hs _ _ h]
end Go.Cmp
namespace Go.Proofs.YtadioopbehiakaaDoor
open Go Go.DI Go.DI.Kit Go.Proofs Go.Cmp
noncomputable section
def lbS (rows : List RowS) (x : Nat × Nat) : Nat × Thing := (x.1, lbO (atS rows x.2 : Int) (jumpsS x.2 rows 0))
structure St0 (K : Keep) (mp : Nat) (f : Nat → Option Nat) (rows : List RowS) (labs : List (Nat × Nat)) (fr : Nat → Prop) (M : Mem) : Prop where
  hp : Hp M K ((mp, mkO (outGo f rows 0)) :: labs.map (lbS rows))
  glob : K 0 = some (.cells false gl)
  pos : ∀ x ∈ labs, 0 < x.2 ∧ f x.2 = none
  nod : (labs.map (·.2)).Nodup
  free : ∀ l, fr l → 0 < l ∧ f l = none ∧ (∀ x ∈ labs, x.2 ≠ l) ∧ ∀ r ∈ rows, r.to ≠ l ∧ r.here ≠ l
  sett : ∀ l q, f l = some q → q = atS rows l
  known : ∀ r ∈ rows, 0 < r.to → (∃ x ∈ labs, x.2 = r.to) ∨ (f r.to).isSome
def St (K : Keep) (mp : Nat) (rows : List RowS) (labs : List (Nat × Nat)) (fr : Nat → Prop) (M : Mem) : Prop := ∃ f, St0 K mp f rows labs fr M
section
variable {K K' : Keep} {mp : Nat} {rows : List RowS} {labs labs' : List (Nat × Nat)} {fr fr' : Nat → Prop} {M M' : Mem}
theorem St.frees (h : St K mp rows labs fr M) (hf : ∀ l, fr' l → fr l) : St K mp rows labs fr' M := by
  obtain ⟨f, h⟩ := h
  exact ⟨f, h.hp, h.glob, h.pos, h.nod, fun l hl => h.free l (hf l hl), h.sett, h.known⟩
theorem St.weak (h : St K' mp rows labs fr M) (hg : K 0 = some (.cells false gl)) (hw : ∀ j x, K j = some x → K' j = some x) : St K mp rows labs fr M := by
  obtain ⟨f, h⟩ := h
  exact ⟨f, h.hp.weak hw, hg, h.pos, h.nod, h.free, h.sett, h.known⟩
theorem St.ext (h : St K mp rows labs fr M) (hx : Ext M M') : St K mp rows labs fr M' := by
  obtain ⟨f, h⟩ := h
  exact ⟨f, h.hp.ext hx, h.glob, h.pos, h.nod, h.free, h.sett, h.known⟩
theorem St.top (h : St K mp rows labs fr M) : M.top := by obtain ⟨f, h⟩ := h; exact h.hp.top
theorem St.get (h : St K mp rows labs fr M) {j : Nat} {x : Blk} (hj : K j = some x) : M.get j = x := by obtain ⟨f, h⟩ := h; exact h.hp.get hj
theorem St.lt (h : St K mp rows labs fr M) {j : Nat} {x : Blk} (hj : K j = some x) : j < M.size := by obtain ⟨f, h⟩ := h; exact h.hp.lt hj
theorem St.glb (h : St K mp rows labs fr M) : K 0 = some (.cells false gl) := by obtain ⟨f, h⟩ := h; exact h.glob
theorem St.box (h : St K mp rows labs fr M) (x : Blk) : St (keep1 K M.size x) mp rows labs fr (M.push x) ∧ ∀ j y, K j = some y → keep1 K M.size x j = some y := by
  obtain ⟨f, h⟩ := h
  have hb := h.hp.boxP x
  exact ⟨⟨f, hb.1, hb.2 _ _ h.glob, h.pos, h.nod, h.free, h.sett, h.known⟩, hb.2⟩
theorem St.perm (h : St K mp rows labs fr M) (hp : labs.Perm labs') : St K mp rows labs' fr M := by
  obtain ⟨f, h⟩ := h
  exact ⟨f, h.hp.perm ((hp.map _).cons _), h.glob, fun x hx => h.pos x (hp.mem_iff.2 hx), (hp.map _).nodup_iff.1 h.nod, fun l hl => ⟨(h.free l hl).1, (h.free l hl).2.1, fun x hx => (h.free l hl).2.2.1 x (hp.mem_iff.2 hx), (h.free l hl).2.2.2⟩, h.sett, fun r hr h0 => by
    rcases h.known r hr h0 with ⟨x, hx, he⟩ | hs
    · exact .inl ⟨x, hp.mem_iff.1 hx, he⟩
    · exact .inr hs⟩
theorem St.label (h : St K mp rows labs fr M) {l : Nat} (hl : fr l) : St K mp rows ((M.size, l) :: labs) (fun j => fr j ∧ j ≠ l) (M.push (.cells true [.int .i64 0, .slice none 0 0])) := by
  obtain ⟨f, h⟩ := h
  obtain ⟨h0, h1, h2, h3⟩ := h.free l hl
  refine ⟨f, ?_, h.glob, ?_, ?_, ?_, h.sett, ?_⟩
  · have hp := h.hp.push [.int .i64 0] [] 1
    have e : lbS rows (M.size, l) = (M.size, ⟨[.int .i64 0], [], 1, 0, []⟩) := by
      simp only [lbS, atS_fresh h0 rows (fun r hr => (h3 r hr).2), jumps_fresh rows 0 (fun r hr => (h3 r hr).1)]
      rfl
    rw [List.map_cons, e]
    exact hp.perm (List.Perm.swap _ _ _)
  · intro x hx
    rcases List.mem_cons.1 hx with rfl | hx
    · exact ⟨h0, h1⟩
    · exact h.pos x hx
  · rw [List.map_cons]
    refine List.nodup_cons.2 ⟨fun hm => ?_, h.nod⟩
    obtain ⟨x, hx, he⟩ := List.mem_map.1 hm
    exact h2 x hx he
  · intro j hj
    obtain ⟨g0, g1, g2, g3⟩ := h.free j hj.1
    refine ⟨g0, g1, fun x hx => ?_, g3⟩
    rcases List.mem_cons.1 hx with rfl | hx
    · exact fun e => hj.2 e.symm
    · exact g2 x hx
  · intro r hr h0
    rcases h.known r hr h0 with ⟨x, hx, he⟩ | hs
    · exact .inl ⟨x, List.mem_cons_of_mem _ hx, he⟩
    · exact .inr hs
theorem lbS_ins0 (x : Ins) {to : Nat} {labs : List (Nat × Nat)} (h : ∀ y ∈ labs, y.2 ≠ to) : labs.map (lbS (rows ++ [ins x to])) = labs.map (lbS rows) := by
  refine List.map_congr_left fun y hy => ?_
  simp only [lbS, atS_ins, jumps_ins]
  rw [if_neg (fun e => h y hy e.symm), List.append_nil]
section
variable {o : Orc} {k : Nat}
theorem put_st {wc wo ws : Int} {ww wr : Bool} {i x : Ins} (ho : ∀ a m, o 35 a m = none) (hl : rows.length ≤ 100000) (h : St K mp rows labs fr M) (hmk : Makes o k (whatV wc wo ws ww wr) (insV i) x) :
    ∃ M', callN Tryd.prog kp 1 o (k + 1) 35 [ptr mp, whatV wc wo ws ww wr, insV i] M = some (unitV, M') ∧ St K mp (rows ++ [ins x 0]) labs fr M' := by
  obtain ⟨f, h⟩ := h
  have hc := cnt_le rows
  have hlen := outGo_length f rows 0
  obtain ⟨M', c, h'⟩ := put_run ho h.glob (by omega) h.hp hmk
  refine ⟨M', c, f, ?_, h.glob, h.pos, h.nod, ?_, ?_, ?_⟩
  · rw [lbS_ins0 x fun y hy => Nat.pos_iff_ne_zero.1 (h.pos y hy).1, outGo_ins0]; exact h'
  · intro l hl
    obtain ⟨g0, g1, g2, g3⟩ := h.free l hl
    refine ⟨g0, g1, g2, fun r hr => ?_⟩
    rcases List.mem_append.1 hr with hr | hr
    · exact g3 r hr
    · obtain rfl := List.mem_singleton.1 hr
      exact ⟨by show 0 ≠ l; omega, by show 0 ≠ l; omega⟩
  · intro l q hq; rw [atS_ins]; exact h.sett l q hq
  · intro r hr h0
    rcases List.mem_append.1 hr with hr | hr
    · exact h.known r hr h0
    · obtain rfl := List.mem_singleton.1 hr
      exact absurd h0 (Nat.lt_irrefl 0)
theorem jump_st {wc wo ws : Int} {ww wr : Bool} {i x : Ins} {lp l : Nat} (hm : (lp, l) ∈ labs) (ho : ∀ a m, o 35 a m = none) (ho2 : ∀ a m, o 37 a m = none) (hl : rows.length ≤ 100000) (h : St K mp rows labs fr M) (hmk : Makes o k (whatV wc wo ws ww wr) (insV i) x) :
    ∃ M', callN Tryd.prog kp 1 o (k + 2) 37 [ptr mp, whatV wc wo ws ww wr, insV i, ptr lp] M = some (unitV, M') ∧ St K mp (rows ++ [ins x l]) labs fr M' := by
  obtain ⟨l1, l2, rfl⟩ := List.append_of_mem hm
  have hp := List.perm_middle (a := (lp, l)) (l₁ := l1) (l₂ := l2)
  suffices hs : ∃ M', callN Tryd.prog kp 1 o (k + 2) 37 [ptr mp, whatV wc wo ws ww wr, insV i, ptr lp] M = some (unitV, M') ∧ St K mp (rows ++ [ins x l]) ((lp, l) :: (l1 ++ l2)) fr M' by
    obtain ⟨M', c, h'⟩ := hs
    exact ⟨M', c, h'.perm hp.symm⟩
  obtain ⟨f, h⟩ := h.perm hp
  have hc := cnt_le rows
  have hlen := outGo_length f rows 0
  have hjl := jumps_length l rows 0
  have hpos := h.pos (lp, l) (List.mem_cons_self ..)
  have hnod := List.nodup_cons.1 h.nod
  obtain ⟨M', c, h'⟩ := jump_run (at_ := (atS rows l : Int)) (js := jumpsS l rows 0) ho ho2 h.glob (by omega) (by omega) h.hp hmk
  have hne : ∀ y ∈ l1 ++ l2, y.2 ≠ l := fun y hy e => hnod.1 (List.mem_map.2 ⟨y, hy, e⟩)
  refine ⟨M', c, f, ?_, h.glob, h.pos, h.nod, ?_, ?_, ?_⟩
  · rw [List.map_cons, lbS_ins0 x hne, outGo_insL rows x hpos.2]
    have e : lbS (rows ++ [ins x l]) (lp, l) = (lp, lbO (atS rows l : Int) (jumpsS l rows 0 ++ [(outGo f rows 0).length])) := by
      simp only [lbS, atS_ins, jumps_ins, if_true, hlen]
    rw [e]; exact h'
  · intro j hj
    obtain ⟨g0, g1, g2, g3⟩ := h.free j hj
    refine ⟨g0, g1, g2, fun r hr => ?_⟩
    rcases List.mem_append.1 hr with hr | hr
    · exact g3 r hr
    · obtain rfl := List.mem_singleton.1 hr
      exact ⟨g2 (lp, l) (List.mem_cons_self ..), by show 0 ≠ j; omega⟩
  · intro l q hq; rw [atS_ins]; exact h.sett l q hq
  · intro r hr h0
    rcases List.mem_append.1 hr with hr | hr
    · exact h.known r hr h0
    · obtain rfl := List.mem_singleton.1 hr
      exact .inl ⟨(lp, l), List.mem_cons_self .., rfl⟩
theorem konst_st {d n : Int} {x : Ins} (ho : ∀ a m, o 35 a m = none) (ho2 : ∀ a m, o 42 a m = none) (hl : rows.length ≤ 100000) (h : St K mp rows labs fr M) (hmk : Makes o k (whatV 10 0 0 false false) (insV ⟨0, d, 0, 0, loW n⟩) x) :
    ∃ M', callN Tryd.prog kp 1 o (k + 2) 42 [ptr mp, .int .u8 d, .int .u64 n] M = some (unitV, M') ∧ St K mp (rows ++ [ins x 0, ins ⟨0, 0, 0, 0, loW (Int.fdiv n 4294967296)⟩ 0]) labs fr M' := by
  obtain ⟨f, h⟩ := h
  have hc := cnt_le rows
  have hlen := outGo_length f rows 0
  obtain ⟨M', c, h'⟩ := konst_run ho ho2 h.glob (by omega) h.hp hmk
  refine ⟨M', c, f, ?_, h.glob, h.pos, h.nod, ?_, ?_, ?_⟩
  · have hz : ∀ y ∈ labs, y.2 ≠ 0 := fun y hy => Nat.pos_iff_ne_zero.1 (h.pos y hy).1
    rw [show rows ++ [ins x 0, ins ⟨0, 0, 0, 0, loW (Int.fdiv n 4294967296)⟩ 0] = (rows ++ [ins x 0]) ++ [ins ⟨0, 0, 0, 0, loW (Int.fdiv n 4294967296)⟩ 0] by simp, lbS_ins0 _ hz, lbS_ins0 _ hz, outGo_ins0, outGo_ins0, List.append_assoc]
    exact h'
  · intro l hl
    obtain ⟨g0, g1, g2, g3⟩ := h.free l hl
    refine ⟨g0, g1, g2, fun r hr => ?_⟩
    rcases List.mem_append.1 hr with hr | hr
    · exact g3 r hr
    · simp only [List.mem_cons, List.not_mem_nil, or_false] at hr
      rcases hr with rfl | rfl
      · exact ⟨by show 0 ≠ l; omega, by show 0 ≠ l; omega⟩
      · exact ⟨by show 0 ≠ l; omega, by show 0 ≠ l; omega⟩
  · intro l q hq
    rw [show rows ++ [ins x 0, ins ⟨0, 0, 0, 0, loW (Int.fdiv n 4294967296)⟩ 0] = (rows ++ [ins x 0]) ++ [ins ⟨0, 0, 0, 0, loW (Int.fdiv n 4294967296)⟩ 0] by simp, atS_ins, atS_ins]; exact h.sett l q hq
  · intro r hr h0
    rcases List.mem_append.1 hr with hr | hr
    · exact h.known r hr h0
    · simp only [List.mem_cons, List.not_mem_nil, or_false] at hr
      rcases hr with rfl | rfl
      · exact absurd h0 (Nat.lt_irrefl 0)
      · exact absurd h0 (Nat.lt_irrefl 0)
end
theorem St.made (h : St K mp rows [] fr M) : Hp M K [(mp, mkO (madeS rows))] := by
  obtain ⟨f, h⟩ := h
  have e := outGo_made f rows h.sett fun r hr h0 => by
    rcases h.known r hr h0 with ⟨x, hx, _⟩ | hs
    · simp at hx
    · exact hs
  rw [← e]; exact h.hp
end
end
end Go.Proofs.YtadioopbehiakaaDoor
