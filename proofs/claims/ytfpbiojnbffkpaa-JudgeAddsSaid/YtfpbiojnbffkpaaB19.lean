/-
  JWake: 'wakes' answers true and turns nothing; the oracle of the judge's laws; and what Add does where a judge lies.
-/
import Derived.Test.YtfpbiojnbffkpaaB18
import Derived.Test.YtfpbiojnbffkpaaB11
set_option linter.all false
set_option linter.unusedVariables false
set_option linter.unusedSimpArgs false
namespace Go.Proofs.Ytfpbiojnbffkpaa
open Go Go.DI Go.Proofs Go.Jud
noncomputable section
theorem hmix : Try.prog.follows .mixedOrders = true := by kernel_rfl
theorem hK : Plain Try.prog kp := plain_among (by kernel_rfl)
theorem hng : NoNG Try.prog := noNG_of (by kernel_rfl)
theorem wakes_true : Y.callK Try.prog kp 0 60 7 [] m0 (fun v m => some (isT (some (v, m)))) = some true := by kernel_rfl
theorem wakes_ok {B0 : Nat} (M : Mem) : CallOK Try.prog B0 0 7 [] M (.bool true) M := by
  intro ι w args' hr _ hargs
  cases hargs
  refine (calls_trueY hmix hK hng wakes_true w).mono ?_
  rintro e w' ⟨rfl, hb⟩
  refine ⟨.bool true, ι, rfl, .bool _, ⟨fun b L hb' hL => ?_, hr.inj, Nat.le_trans hr.floor hb.size, hr.glob, hr.top⟩, ⟨fun _ _ h => h, fun _ _ => rfl, hb.os, hb.output, hb.tape, hb.size, fun B hB _ => hb.block B hB, fun b L h1 h2 => by omega, Nat.le_refl _, fun _ _ h => h⟩⟩
  exact (hr.blk b L hb' hL).monoL (fun _ _ h => h) (fun hl => hb.block _ (hr.old b L hL hl))
def oJ : Orc := fun f args M => if f = 7 then (match args with | [] => some (.bool true, M) | _ => none) else o13 f args M
theorem o13_ok {B0 : Nat} {f : FuncId} {args : List Value} {M M' : Mem} {v : Value} (h : o13 f args M = some (v, M')) : f = 13 ∧ CallOK Try.prog B0 0 f args M v M' ∧ Grw M M' := by
  unfold o13 at h
  split at h <;> try (simp at h; done)
  rename_i hf
  subst hf
  refine ⟨rfl, ?_⟩
  split at h <;> try (simp at h; done)
  split at h <;> try (simp at h; done)
  rename_i hb
  split at h <;> try (simp at h; done)
  · exact goJ_ok hmix hK hng hb h
  · exact goJ_ok hmix hK hng hb h
theorem oJ_grw : CfGrw oJ := fun f args M v M' h => by
  unfold oJ at h
  split at h
  · split at h <;> simp at h
    rw [h.2]; exact Grw.refl _
  · exact (o13_ok (B0 := 0) h).2.2
def hasB (P : Program) (f : FuncId) : Bool := match P.funcs[f]? with | some fn => !fn.body.isNone | none => false
theorem hasB_of {f : FuncId} (h : hasB Try.prog f = true) : ∃ fn, Try.prog.funcs[f]? = some fn ∧ fn.body.isNone = false ∧ (fn.name == "runtime.NumGoroutine") = false := by
  unfold hasB at h
  split at h
  · rename_i fn hf
    have hb : fn.body.isNone = false := by simpa using h
    exact ⟨fn, hf, hb, hng f fn hf hb⟩
  · simp at h
theorem oJ_ok {B0 : Nat} : CfOK Try.prog B0 0 oJ := by
  refine ⟨fun f args M v M' h => (oJ_grw f args M v M' h).size, fun f args M v M' h => ?_, fun f args M v M' h => ?_⟩
  all_goals
    unfold oJ at h
    split at h
  · rename_i hf
    subst hf
    split at h <;> simp at h
    obtain ⟨rfl, rfl⟩ := h
    exact wakes_ok M
  · exact (o13_ok h).2.1
  · rename_i hf
    subst hf
    exact hasB_of (by kernel_rfl)
  · obtain ⟨rfl, _⟩ := o13_ok (B0 := 0) h
    exact hasB_of (by kernel_rfl)

/-! ### a judge that lies somewhere -/
def isL (S : JS) : Bool := match S.log with | [] => false | _ => true
theorem isL_f {S : JS} (h : S.log = []) : isL S = false := by unfold isL; rw [h]
theorem isL_t {S : JS} (h : S.log ≠ []) : isL S = true := by unfold isL; cases hl : S.log <;> simp_all
structure Holds (S : JS) (ρ : Nat → Nat) (M : Mem) : Prop where
  b0 : M.get (ρ 0) = .cells true (judL (.int .i64 S.n) (logV (ρ 8) S.log) (.int .i64 (S.ep 0)) (.int .i64 (S.ep 1)) (.int .i64 (S.ep 2)) (.int .i64 (S.ep 3)) (.int .i64 (S.ep 4)) (.int .i64 S.top) (ρ 1) (ρ 2) (ρ 3) (ρ 4) (ρ 5) (ρ 6) (ρ 7))
  b1 : M.get (ρ 1) = mapB ekI ekI S.led
  b2 : M.get (ρ 2) = mapB ekI ekI S.last
  b3 : M.get (ρ 3) = mapB ekI evH S.images
  b4 : M.get (ρ 4) = mapB ekP evU S.yes
  b5 : M.get (ρ 5) = mapB ekI ekI S.word
  b6 : M.get (ρ 6) = mapB ekP evA S.answers
  b7 : M.get (ρ 7) = mapB ekI ekP S.askers
  b8 : S.log ≠ [] → M.get (ρ 8) = .cells true (logC S.log)
  lt : ∀ i, seeJ (isL S) i = true → ρ i < M.size
  inj : ∀ i j, seeJ (isL S) i = true → seeJ (isL S) j = true → ρ i = ρ j → i = j
theorem free_ekI (a : Int) : Free (ekI a) := free_int _ _
theorem free_hashC (h : H) : ∀ x ∈ hashC h, Free x := by
  intro x hx
  simp only [hashC, List.mem_cons, List.not_mem_nil, or_false] at hx
  rcases hx with h | h | h | h | h | h | h | h | h | h | h | h | h | h | h | h | h | h | h | h | h | h | h | h | h | h | h | h | h | h | h | h <;> (rw [h]; exact free_int _ _)
theorem free_ekP (p : Int × Int) : Free (ekP p) := free_agg (by
  intro x hx
  simp only [List.mem_cons, List.not_mem_nil, or_false] at hx
  rcases hx with h | h <;> (rw [h]; exact free_int _ _))
theorem free_evH (h : H) : Free (evH h) := free_agg (free_hashC h)
theorem free_evU (u : Unit) : Free (evU u) := free_agg (by intro x hx; simp at hx)
theorem free_evA (x : Int × Int × H) : Free (evA x) := free_agg (by
  intro y hy
  simp only [List.cons_append, List.nil_append, List.mem_cons] at hy
  rcases hy with h | h | h
  · rw [h]; exact free_int _ _
  · rw [h]; exact free_int _ _
  · exact free_hashC _ _ h)
theorem free_map {κ ν : Type} {ek : κ → Value} {ev : ν → Value} (hk : ∀ a, Free (ek a)) (hv : ∀ a, Free (ev a)) (m : TM κ ν) : freeB (mapB ek ev m) := ents_free hk hv m.l
theorem free_logC (l : List (Int × H)) : freeB (.cells true (logC l)) := by
  intro x hx
  simp only [logC, List.mem_flatMap] at hx
  obtain ⟨y, _, hx⟩ := hx
  simp only [entC, List.mem_cons] at hx
  rcases hx with h | h
  · rw [h]; exact free_int _ _
  · exact free_hashC _ _ h
theorem free_row (r : RowT) : Free (.agg ⟨rowR r⟩) := free_agg (by
  intro x hx
  simp only [rowR, rowC, List.cons_append, List.nil_append, List.mem_cons, List.mem_append, List.not_mem_nil, or_false] at hx
  rcases hx with h | h | h | h | h | h | h | h | h | h | h | h
  all_goals first | exact free_hashC _ _ h | (rw [h]; first | exact free_int _ _ | exact free_bool _))
end
end Go.Proofs.Ytfpbiojnbffkpaa
/-
  JAt: Add, where a judge lies: the oracle's answer, and where the judge lies behind it.
-/
namespace Go.Proofs.Ytfpbiojnbffkpaa
open Go Go.DI Go.Proofs Go.Jud
noncomputable section
theorem renL_logV (ρ : Nat → Nat) (N : Nat) (l : List (Int × H)) : renL ρ (logV N l) = some (logV (ρ N) l) := by cases l <;> rfl
theorem backJ_jud (ρ : Nat → Nat) (S : JS) (N : Nat) : backJ ρ (.cells true (judS S (logV N S.log))) = .cells true (judL (.int .i64 S.n) (logV (ρ N) S.log) (.int .i64 (S.ep 0)) (.int .i64 (S.ep 1)) (.int .i64 (S.ep 2)) (.int .i64 (S.ep 3)) (.int .i64 (S.ep 4)) (.int .i64 S.top) (ρ 1) (ρ 2) (ρ 3) (ρ 4) (ρ 5) (ρ 6) (ρ 7)) := by
  unfold judS judC backJ
  simp only [renL_logV]
  exact if_pos ⟨free_int _ _, free_int _ _, free_int _ _, free_int _ _, free_int _ _, free_int _ _, free_int _ _⟩
theorem sureJ_log (S : JS) (r : RowT) : (sureJ S r).2.log = S.log ∨ (sureJ S r).2.log = S.log ++ [(r.t, r.h)] := by
  unfold sureJ
  split
  · exact .inl rfl
  split
  · exact .inl rfl
  split
  · exact .inl rfl
  split
  · exact .inl rfl
  by_cases h : thereJ S r = true
  · exact .inl (by simp [h])
  · exact .inr (by simp [h])
theorem addJ_log (S : JS) (r : RowT) : (addJ S r).2.log = S.log ∨ (addJ S r).2.log = S.log ++ [(r.t, r.h)] := by
  unfold addJ
  repeat' split
  all_goals first | exact .inl rfl | exact .inl (ledJ_log S r) | exact sureJ_log S r | exact .inl (swapJ_log S r) | exact .inl (ackJ_log S r) | exact .inl (toldJ_log S r) | exact .inl (judJ_log S r)

theorem add_at {S : JS} {r : RowT} {ρ : Nat → Nat} {M : Mem} (hS : S.Ok) (hlen : S.log.length ≤ 1000000) (hi : -9223372036854775808 ≤ r.i ∧ r.i ≤ 9223372036854775807) (hH : Holds S ρ M) (ht : M.top) :
    ∃ M' ρ', oJ 13 [.pointer (some ⟨ρ 0, 0, none⟩), .agg ⟨rowR r⟩] M = some (.int .i64 (addJ S r).1, M') ∧ Holds (addJ S r).2 ρ' M' ∧ (∀ i, i < 8 → ρ' i = ρ i) ∧ (∀ i, seeJ (isL (addJ S r).2) i = true → (seeJ (isL S) i = true ∧ ρ' i = ρ i) ∨ M.size ≤ ρ' i) ∧ M.size ≤ M'.size ∧ M'.top ∧
      ∀ j, j < M.size → (∀ i, seeJ (isL S) i = true → ρ i ≠ j) → M'.get j = M.get j := by
  obtain ⟨N, m, hc, hL, hN⟩ := add_small S r hS hlen hi
  let x8 : Nat := if isL S = true then ρ 8 else 0
  let ρs := rhoJ M (ρ 0) (ρ 1) (ρ 2) (ρ 3) (ρ 4) (ρ 5) (ρ 6) (ρ 7) x8
  have hρ8 : ∀ i, i < 8 → ρs i = ρ i := fun i hi => by
    rcases (show i = 0 ∨ i = 1 ∨ i = 2 ∨ i = 3 ∨ i = 4 ∨ i = 5 ∨ i = 6 ∨ i = 7 by omega) with rfl | rfl | rfl | rfl | rfl | rfl | rfl | rfl <;> rfl
  have hρ : ∀ i, seeJ (isL S) i = true → ρs i = ρ i := fun i hi => by
    by_cases h8 : i < 8
    · exact hρ8 i h8
    · have h9 := seeJ_lt hi
      obtain rfl : i = 8 := by omega
      have hl : isL S = true := by simpa [seeJ] using hi
      show (if isL S = true then ρ 8 else 0) = _
      rw [if_pos hl]
  have lt : ∀ i, seeJ (isL S) i = true → ρs i < M.size := fun i h => by rw [hρ i h]; exact hH.lt i h
  have inj : ∀ i j, seeJ (isL S) i = true → seeJ (isL S) j = true → ρs i = ρs j → i = j := fun i j h1 h2 e => hH.inj i j h1 h2 (by rw [← hρ i h1, ← hρ j h2]; exact e)
  have fb : ∀ i, 1 ≤ i → seeJ (isL S) i = true → freeB (M.get (ρs i)) := fun i h1 h => by
    have h9 := seeJ_lt h
    rw [hρ i h]
    rcases (show i = 1 ∨ i = 2 ∨ i = 3 ∨ i = 4 ∨ i = 5 ∨ i = 6 ∨ i = 7 ∨ i = 8 by omega) with rfl | rfl | rfl | rfl | rfl | rfl | rfl | rfl
    · rw [hH.b1]; exact free_map free_ekI free_ekI _
    · rw [hH.b2]; exact free_map free_ekI free_ekI _
    · rw [hH.b3]; exact free_map free_ekI free_evH _
    · rw [hH.b4]; exact free_map free_ekP free_evU _
    · rw [hH.b5]; exact free_map free_ekI free_ekI _
    · rw [hH.b6]; exact free_map free_ekP free_evA _
    · rw [hH.b7]; exact free_map free_ekI free_ekP _
    · have hl : S.log ≠ [] := fun e => by simp [seeJ, isL_f e] at h
      rw [hH.b8 hl]; exact free_logC _
  have hcall : ∀ (o : Value) (B8 : Blk), logV 8 S.log = o → logB S.log = B8 → callD Try.prog kp 0 20 13 [.pointer (some ⟨0, 0, none⟩), .agg ⟨rowR r⟩] (ms (judL (.int .i64 S.n) o (.int .i64 (S.ep 0)) (.int .i64 (S.ep 1)) (.int .i64 (S.ep 2)) (.int .i64 (S.ep 3)) (.int .i64 (S.ep 4)) (.int .i64 S.top) 1 2 3 4 5 6 7) (M.get (ρ 1)) (M.get (ρ 2)) (M.get (ρ 3)) (M.get (ρ 4)) (M.get (ρ 5)) (M.get (ρ 6)) (M.get (ρ 7)) B8) = some (.int .i64 (addJ S r).1, m) := fun o B8 e1 e2 => by
    subst e1 e2
    rw [hH.b1, hH.b2, hH.b3, hH.b4, hH.b5, hH.b6, hH.b7]
    exact hc
  have fn : Free (.int .i64 S.n) ∧ Free (.int .i64 (S.ep 0)) ∧ Free (.int .i64 (S.ep 1)) ∧ Free (.int .i64 (S.ep 2)) ∧ Free (.int .i64 (S.ep 3)) ∧ Free (.int .i64 (S.ep 4)) ∧ Free (.int .i64 S.top) := ⟨free_int _ _, free_int _ _, free_int _ _, free_int _ _, free_int _ _, free_int _ _, free_int _ _⟩
  have ho : oJ 13 [.pointer (some ⟨ρ 0, 0, none⟩), .agg ⟨rowR r⟩] M = some (.int .i64 (addJ S r).1, backM M m ρs (isL S)) := by
    unfold oJ o13
    rw [if_neg (by decide)]
    simp only [if_true, hH.b0, judL]
    by_cases hl : S.log = []
    · rw [show logV (ρ 8) S.log = .slice none 0 0 by rw [hl]; rfl]
      simp only
      rw [isL_f hl]
      unfold goJ
      rw [show cond false (M.get 0) Blk.none = logB S.log by rw [hl]; rfl]
      rw [hcall _ _ (by rw [hl]; rfl) rfl]
      simp only
      have hx : x8 = 0 := if_neg (by rw [isL_f hl]; simp)
      rw [isL_f hl] at lt inj fb
      have hbk : rhoJ M (ρ 0) (ρ 1) (ρ 2) (ρ 3) (ρ 4) (ρ 5) (ρ 6) (ρ 7) 0 = ρs := by show _ = rhoJ _ _ _ _ _ _ _ _ _ x8; rw [hx]
      rw [hbk, if_pos]
      exact ⟨ht, lt, inj, fn, fb, free_row r, free_int _ _, .inl ⟨rfl, rfl, free_slc0 _ _⟩⟩
    · rw [logV_ne (ρ 8) hl]
      simp only
      rw [isL_t hl]
      rw [isL_t hl] at lt inj fb
      have hx : x8 = ρ 8 := if_pos (isL_t hl)
      have hbk : rhoJ M (ρ 0) (ρ 1) (ρ 2) (ρ 3) (ρ 4) (ρ 5) (ρ 6) (ρ 7) (ρ 8) = ρs := by show _ = rhoJ _ _ _ _ _ _ _ _ _ x8; rw [hx]
      unfold goJ
      rw [show cond true (M.get (ρ 8)) Blk.none = logB S.log by rw [logB_ne hl]; exact hH.b8 hl]
      rw [hcall _ _ (logV_ne 8 hl) rfl]
      simp only
      rw [hbk, if_pos]
      exact ⟨ht, lt, inj, fn, fb, free_row r, free_int _ _, .inr ⟨rfl, ρ 8, 0, some 33, _, _, hx, rfl, rfl⟩⟩
  have hgr := oJ_grw _ _ _ _ _ ho
  have hcg := callD_grw (P := Try.prog) (K := kp) (G := 0) 20 13 _ _ _ _ hc
  have hm9 : 9 ≤ m.size := hcg.size
  have hmt : m.top := hcg.top (ms_top _ _ _ _ _ _ _ _ _)
  have hsz : (backM M m ρs (isL S)).size = M.size + (m.size - 9) := rfl
  obtain ⟨a0, at1⟩ := backM_at (m := m) lt inj
  have keep : ∀ i, 1 ≤ i → i < 8 → ∀ x, m.get i = x → freeB x → (backM M m ρs (isL S)).get (ρ i) = x := fun i h1 h8 x hx hf => by
    have := at1 i h1 (seeJ_low _ h8)
    rw [hρ8 i h8] at this
    rw [this, hx, keepB_of hf]
  -- where the log lies
  let ρ' : Nat → Nat := fun i => if i = 8 then ρs N else ρ i
  have e8 : ρ' 8 = ρs N := rfl
  have el : ∀ i, i < 8 → ρ' i = ρ i := fun i h => by show (if i = 8 then _ else _) = _; rw [if_neg (by omega)]
  have hnew : 9 ≤ N → ρs N = M.size + (N - 9) := fun h => by
    obtain ⟨k, rfl⟩ : ∃ k, N = k + 9 := ⟨N - 9, by omega⟩
    rfl
  have hlogN : (addJ S r).2.log ≠ [] → N < m.size := fun hne => by
    rcases Nat.lt_or_ge N m.size with h | h
    · exact h
    · have h1 := hL.b8 hne
      have h2 : m.get N = .none := hmt N h
      rw [h2] at h1; cases h1
  refine ⟨_, ρ', ho, ⟨?_, ?_, ?_, ?_, ?_, ?_, ?_, ?_, fun hne => ?_, fun i h => ?_, fun i j h1 h2 e => ?_⟩, el, fun i h => ?_, hgr.size, hgr.top ht, fun j h1 h2 => backM_rest h1 fun i h => by rw [hρ i h]; exact h2 i h⟩
  · rw [el 0 (by omega), el 1 (by omega), el 2 (by omega), el 3 (by omega), el 4 (by omega), el 5 (by omega), el 6 (by omega), el 7 (by omega), e8, ← hρ8 0 (by omega), a0, hL.b0, backJ_jud]
    rfl
  · rw [el 1 (by omega)]; exact keep 1 (by omega) (by omega) _ hL.b1 (free_map free_ekI free_ekI _)
  · rw [el 2 (by omega)]; exact keep 2 (by omega) (by omega) _ hL.b2 (free_map free_ekI free_ekI _)
  · rw [el 3 (by omega)]; exact keep 3 (by omega) (by omega) _ hL.b3 (free_map free_ekI free_evH _)
  · rw [el 4 (by omega)]; exact keep 4 (by omega) (by omega) _ hL.b4 (free_map free_ekP free_evU _)
  · rw [el 5 (by omega)]; exact keep 5 (by omega) (by omega) _ hL.b5 (free_map free_ekI free_ekI _)
  · rw [el 6 (by omega)]; exact keep 6 (by omega) (by omega) _ hL.b6 (free_map free_ekP free_evA _)
  · rw [el 7 (by omega)]; exact keep 7 (by omega) (by omega) _ hL.b7 (free_map free_ekI free_ekP _)
  · rw [e8]
    rcases hN with ⟨rfl, hsame⟩ | h9
    · have hl : S.log ≠ [] := hsame ▸ hne
      rw [at1 8 (by omega) (by simp [seeJ, isL_t hl]), hL.b8 hne, keepB_of (free_logC _)]
    · rw [hnew h9, backM_new h9 (hlogN hne), hL.b8 hne, keepB_of (free_logC _)]
  · show ρ' i < M.size + (m.size - 9)
    by_cases h8 : i < 8
    · rw [el i h8, ← hρ8 i h8]
      have := lt i (seeJ_low _ h8); omega
    · have h9 := seeJ_lt h
      obtain rfl : i = 8 := by omega
      have hne : (addJ S r).2.log ≠ [] := fun e => by simp [seeJ, isL_f e] at h
      rw [e8]
      rcases hN with ⟨rfl, hsame⟩ | h9
      · have := lt 8 (by simp [seeJ, isL_t (hsame ▸ hne : S.log ≠ [])]); omega
      · rw [hnew h9]; have := hlogN hne; omega
  · have key : ∀ i, i < 8 → ∀ (hne : (addJ S r).2.log ≠ []), ρ' i ≠ ρ' 8 := fun i h8 hne e => by
      rw [el i h8, ← hρ8 i h8, e8] at e
      have l1 := lt i (seeJ_low _ h8)
      rcases hN with ⟨rfl, hsame⟩ | h9
      · have := inj i 8 (seeJ_low _ h8) (by simp [seeJ, isL_t (hsame ▸ hne : S.log ≠ [])]) e; omega
      · rw [hnew h9] at e; omega
    have hne8 : ∀ i, seeJ (isL (addJ S r).2) i = true → ¬ i < 8 → i = 8 ∧ (addJ S r).2.log ≠ [] := fun i h hi => ⟨by have := seeJ_lt h; omega, fun e => by
      have h9 := seeJ_lt h
      obtain rfl : i = 8 := by omega
      simp [seeJ, isL_f e] at h⟩
    by_cases k1 : i < 8
    · by_cases k2 : j < 8
      · rw [el i k1, el j k2, ← hρ8 i k1, ← hρ8 j k2] at e
        exact inj i j (seeJ_low _ k1) (seeJ_low _ k2) e
      · obtain ⟨rfl, hne⟩ := hne8 j h2 k2
        exact absurd e (key i k1 hne)
    · obtain ⟨rfl, hne⟩ := hne8 i h1 k1
      by_cases k2 : j < 8
      · exact absurd e.symm (key j k2 hne)
      · exact (hne8 j h2 k2).1.symm
  · by_cases h8 : i < 8
    · exact .inl ⟨seeJ_low _ h8, el i h8⟩
    · have h9 := seeJ_lt h
      obtain rfl : i = 8 := by omega
      have hne : (addJ S r).2.log ≠ [] := fun e => by simp [seeJ, isL_f e] at h
      rcases hN with ⟨rfl, hsame⟩ | h9
      · have h8' : seeJ (isL S) 8 = true := by simp [seeJ, isL_t (hsame ▸ hne : S.log ≠ [])]
        exact .inl ⟨h8', by rw [e8, hρ 8 h8']⟩
      · right; rw [e8, hnew h9]; omega
end
end Go.Proofs.Ytfpbiojnbffkpaa
/-
  JRows: rows in a block, and what is read there.
-/
namespace Go.Proofs.Ytfpbiojnbffkpaa
open Go Go.DI Go.Proofs Go.Jud
noncomputable section
def rowsC (l : List RowT) : List Value := l.flatMap rowR
theorem rowR_len (r : RowT) : (rowR r).length = 43 := rfl
theorem rowsC_len : ∀ l : List RowT, (rowsC l).length = l.length * 43
  | [] => rfl
  | x :: l => by
    have ih := rowsC_len l
    simp only [rowsC] at ih
    simp only [rowsC, List.flatMap_cons, List.length_append, ih, rowR_len, List.length_cons]
    omega
theorem rowsC_drop : ∀ (l : List RowT) (j : Nat) (x : RowT), l[j]? = some x → ∃ r, (rowsC l).drop (j * 43) = rowR x ++ r
  | [], j, x, h => by simp at h
  | y :: l, 0, x, h => by simp at h; subst h; exact ⟨rowsC l, rfl⟩
  | y :: l, j + 1, x, h => by
    obtain ⟨r, hr⟩ := rowsC_drop l j x (by simpa using h)
    refine ⟨r, ?_⟩
    have e : (j + 1) * 43 = (rowR y).length + j * 43 := by rw [rowR_len]; omega
    rw [e]
    show List.drop _ (rowR y ++ rowsC l) = _
    rw [← List.drop_drop, List.drop_left]
    exact hr
theorem rows_nth {l : List RowT} {j : Nat} {x : RowT} (h : l[j]? = some x) (r : List Value) {f : Nat} (hf : f < 43) : Y.nthL (rowsC l ++ r) (Nat.add (Nat.add 0 (Nat.mul j 43)) f) = (rowR x)[f]? := by
  obtain ⟨t, ht⟩ := rowsC_drop l j x h
  have hl : j < l.length := (List.getElem?_eq_some_iff.1 h).1
  rw [Y.nthL_eq, show Nat.add (Nat.add 0 (Nat.mul j 43)) f = j * 43 + f by show 0 + j * 43 + f = _; omega, List.getElem?_append_left (by rw [rowsC_len]; omega)]
  have : ((rowsC l).drop (j * 43))[f]? = (rowR x)[f]? := by rw [ht, List.getElem?_append_left (by rw [rowR_len]; exact hf)]
  rw [← this, List.getElem?_drop]
theorem rows_sub {l : List RowT} {j : Nat} {x : RowT} (h : l[j]? = some x) (r : List Value) : Y.subL (rowsC l ++ r) (Nat.add 0 (Nat.mul j 43)) 43 = rowR x := by
  obtain ⟨t, ht⟩ := rowsC_drop l j x h
  have hl : j < l.length := (List.getElem?_eq_some_iff.1 h).1
  rw [Y.subL_eq, show Nat.add 0 (Nat.mul j 43) = j * 43 from Nat.zero_add _, List.drop_append_of_le_length (by rw [rowsC_len]; omega), ht, List.append_assoc]
  exact List.take_left' rfl
theorem rows_ble {l : List RowT} {j : Nat} (h : j < l.length) (r : List Value) : Nat.ble (Nat.add (Nat.add 0 (Nat.mul j 43)) 43) (Y.lenLF (rowsC l ++ r)) = true := by
  rw [Y.lenLF_eq, List.length_append, rowsC_len]
  exact Nat.ble_eq_true_of_le (by show 0 + j * 43 + 43 ≤ _; omega)
theorem blt_t {a b : Nat} (h : a < b) : Nat.blt a b = true := by simpa [Nat.blt_eq] using h
section
variable {l : List RowT} {j : Nat} {x : RowT} (h : l[j]? = some x) (r : List Value)
include h
theorem rows_k : Y.nthL (rowsC l ++ r) (Nat.add (Nat.add 0 (Nat.mul j 43)) 0) = some (.int .i64 x.k) := rows_nth h r (by omega)
theorem rows_w : Y.nthL (rowsC l ++ r) (Nat.add (Nat.add 0 (Nat.mul j 43)) 1) = some (.int .i64 x.w) := rows_nth h r (by omega)
theorem rows_t : Y.nthL (rowsC l ++ r) (Nat.add (Nat.add 0 (Nat.mul j 43)) 2) = some (.int .i64 x.t) := rows_nth h r (by omega)
theorem rows_i : Y.nthL (rowsC l ++ r) (Nat.add (Nat.add 0 (Nat.mul j 43)) 3) = some (.int .i64 x.i) := rows_nth h r (by omega)
theorem rows_e : Y.nthL (rowsC l ++ r) (Nat.add (Nat.add 0 (Nat.mul j 43)) 4) = some (.int .i64 x.e) := rows_nth h r (by omega)
theorem rows_s : Y.nthL (rowsC l ++ r) (Nat.add (Nat.add 0 (Nat.mul j 43)) 5) = some (.int .i64 x.s) := rows_nth h r (by omega)
theorem rows_c : Y.nthL (rowsC l ++ r) (Nat.add (Nat.add 0 (Nat.mul j 43)) 7) = some (.int .i64 x.c) := rows_nth h r (by omega)
theorem rows_y : Y.nthL (rowsC l ++ r) (Nat.add (Nat.add 0 (Nat.mul j 43)) 9) = some (.bool x.y) := rows_nth h r (by omega)
end
theorem asInt_i {α : Type} (k : IntKind) (n : Int) (q : IntKind → Int → Option α) (d : Option α) : Y.asInt (.int k n) q d = q k n := rfl
theorem asBo_b {α : Type} (b : Bool) (q : Bool → Option α) (d : Option α) : Y.asBo (.bool b) q d = q b := rfl
theorem onNat_n {α : Type} (n : Nat) (q : Nat → Option α) : Y.onNat (Int.ofNat n) q = q n := rfl
theorem loopD_next {body : Tmps → Mem → Option (Ex × Tmps × Mem)} {t t' : Tmps} {m m' : Mem} (k : Nat) (h : body t m = some (.normal, t', m')) : loopD body (k + 1) t m = loopD body k t' m' := by simp only [loopD, h]
theorem loopD_stop {body : Tmps → Mem → Option (Ex × Tmps × Mem)} {t t' : Tmps} {m m' : Mem} {e : Ex} (k : Nat) (h : body t m = some (e, t', m')) (he : e ≠ .normal) : loopD body (k + 1) t m = some (e, t', m') := by
  simp only [loopD, h]
  cases e with
  | normal => exact absurd rfl he
  | exit => rfl
  | ret => rfl
end
end Go.Proofs.Ytfpbiojnbffkpaa
/-
  JRef1: the reference's Epoch, Top, sure, by the rows.
-/
namespace Go.Proofs.Ytfpbiojnbffkpaa
open Go Go.DI Go.Proofs Go.Jud
noncomputable section
theorem filt_i {f : FuncId} (n : Int) (m : Mem) (h : okR Try.prog f (.int .i64 n) = true) : filtR Try.prog f (some (.int .i64 n, m)) = some (.int .i64 n, m) := by simp only [filtR, h, cond_true]
theorem onNat_c {α : Type} (n : Nat) (q : Nat → Option α) : Y.onNat (n : Int) q = q n := rfl
theorem wrap_succ {i : Nat} (h : i ≤ 1000000) : IntKind.wrap .i64 (Int.add (i : Int) 1) = ((i + 1 : Nat) : Int) := IntWalk.i64_in _ (by show _ ≤ (i : Int) + 1 ∧ (i : Int) + 1 ≤ _; omega)
theorem lt_len {i n : Nat} (h : i < n) : Y.ltF (i : Int) (Int.ofNat n) = true := ltF_t (by show (i : Int) < (n : Int); omega)
theorem ge_len {i n : Nat} (h : ¬ i < n) : Y.ltF (i : Int) (Int.ofNat n) = false := ltF_f (by show ¬ (i : Int) < (n : Int); omega)
theorem kEq_ii : Y.kEq .i64 .i64 = true := rfl
theorem cells_c {α : Type} (o : Bool) (c : List Value) (q : Bool → List Value → Option α) : Y.cellsOf (.cells o c) q = q o c := rfl
theorem bnot_t : Bool.not true = false := rfl
theorem bnot_f : Bool.not false = true := rfl
/-- What is read of a row that lies by itself. -/
theorem row_k (r : RowT) : Y.nthL (rowR r) 0 = some (.int .i64 r.k) := rfl
theorem row_w (r : RowT) : Y.nthL (rowR r) 1 = some (.int .i64 r.w) := rfl
theorem row_t (r : RowT) : Y.nthL (rowR r) 2 = some (.int .i64 r.t) := rfl
theorem row_i (r : RowT) : Y.nthL (rowR r) 3 = some (.int .i64 r.i) := rfl
theorem row_e (r : RowT) : Y.nthL (rowR r) 4 = some (.int .i64 r.e) := rfl
theorem row_s (r : RowT) : Y.nthL (rowR r) 5 = some (.int .i64 r.s) := rfl
theorem row_c (r : RowT) : Y.nthL (rowR r) 7 = some (.int .i64 r.c) := rfl
theorem row_tr (r : RowT) : Y.nthL (rowR r) 8 = some (.int .i64 r.tr) := rfl
theorem row_y (r : RowT) : Y.nthL (rowR r) 9 = some (.bool r.y) := rfl
theorem row_h (r : RowT) : Y.subL (rowR r) 10 32 = hashC r.h := rfl
theorem row_len (r : RowT) : Nat.ble 42 (Y.lenLF (rowR r)) = true := rfl
theorem row_len43 (r : RowT) : Nat.ble 43 (Y.lenLF (rowR r)) = true := rfl
theorem row_all (r : RowT) : Y.subL (rowR r) 0 43 = rowR r := rfl
theorem rows_h {l : List RowT} {j : Nat} {x : RowT} (h : l[j]? = some x) (r : List Value) : Y.subL (rowsC l ++ r) (Nat.add (Nat.add 0 (Nat.mul j 43)) 10) 32 = hashC x.h := by
  obtain ⟨t, ht⟩ := rowsC_drop l j x h
  have hl : j < l.length := (List.getElem?_eq_some_iff.1 h).1
  have e : (rowsC l ++ r).drop (j * 43 + 10) = (rowR x).drop 10 ++ (t ++ r) := by
    rw [← List.drop_drop, List.drop_append_of_le_length (by rw [rowsC_len]; omega), ht, List.append_assoc, List.drop_append_of_le_length (by rw [rowR_len]; omega)]
  rw [Y.subL_eq, show Nat.add (Nat.add 0 (Nat.mul j 43)) 10 = j * 43 + 10 by show 0 + j * 43 + 10 = _; omega, e]
  show List.take 32 (hashC x.h ++ [Value.int .u64 x.v] ++ (t ++ r)) = _
  rw [List.append_assoc]
  exact List.take_left' rfl
theorem rows_hble {l : List RowT} {j : Nat} (h : j < l.length) (r : List Value) : Nat.ble (Nat.add (Nat.add (Nat.add 0 (Nat.mul j 43)) 10) 32) (Y.lenLF (rowsC l ++ r)) = true := by
  rw [Y.lenLF_eq, List.length_append, rowsC_len]
  exact Nat.ble_eq_true_of_le (by show 0 + j * 43 + 10 + 32 ≤ _; omega)

/-- A node's epoch, by the rows. -/
def epochR (l : List RowT) (node : Int) (n : Int) : Int := l.foldl (fun n r => if r.k = 3 ∧ r.w = node then r.e else n) n
def topR (l : List RowT) (n : Int) : Int := l.foldl (fun n r => if r.k = 3 ∧ n < r.e then r.e else n) n
section
variable {b ob : Nat} {own : Bool} {sp : Option Nat} {cap : Nat} {m : Mem} {rs : List RowT} {rest : List Value} (hlen : rs.length ≤ 100000) (hm : m.get b = .cells own (rowsC rs ++ rest))
include hlen hm
theorem epoch_loop {df : DFun} (hdf : Y.Typed Try.prog df) (k : Nat) (node : Int) : ∀ (d i : Nat) (n : Int) (x : Nat → Value) (j : Nat), rs.length = i + d → d + 1 ≤ j →
    ∃ x', loopD (codeD Try.prog kp 0 df (drawD Try.prog kp 0 df 34) 34 k (loopN Try.f15 0)) j (fullN 34 (up x [(0, .slice (some ⟨b, 0, sp⟩) rs.length cap), (1, .int .i64 node), (5, .int .i64 n), (6, .int .i64 (i : Int))])) m =
      some (.exit 0, fullN 34 (up x' [(0, .slice (some ⟨b, 0, sp⟩) rs.length cap), (1, .int .i64 node), (5, .int .i64 (epochR (rs.drop i) node n)), (6, .int .i64 (rs.length : Int))]), m)
  | 0, i, n, x, j, hi, hj => by
    obtain ⟨j, rfl⟩ : ∃ j', j = j' + 1 := ⟨j - 1, by omega⟩
    obtain rfl : i = rs.length := by omega
    have hb := (Y.step_eq Try.prog kp 0 hdf 34 k (loopN Try.f15 0) (fullN 34 (up x [(0, .slice (some ⟨b, 0, sp⟩) rs.length cap), (1, .int .i64 node), (5, .int .i64 n), (6, .int .i64 (rs.length : Int))])) m).trans (t_ep ..)
    simp only [ge_len (Nat.lt_irrefl _), cond_false] at hb
    have hs := loopD_stop j hb (by simp)
    exact ⟨_, by rw [List.drop_length]; exact hs⟩
  | d + 1, i, n, x, j, hi, hj => by
    obtain ⟨j, rfl⟩ : ∃ j', j = j' + 1 := ⟨j - 1, by omega⟩
    have hlt : i < rs.length := by omega
    have hg : rs[i]? = some rs[i] := List.getElem?_eq_getElem hlt
    have ih := fun n x => epoch_loop hdf k node d (i + 1) n x j (by omega) (by omega)
    have hb := (Y.step_eq Try.prog kp 0 hdf 34 k (loopN Try.f15 0) (fullN 34 (up x [(0, .slice (some ⟨b, 0, sp⟩) rs.length cap), (1, .int .i64 node), (5, .int .i64 n), (6, .int .i64 (i : Int))])) m).trans (t_ep ..)
    simp only [lt_len hlt, cond_true, onNat_c, blt_t hlt, hm, cells_c, rows_k hg, rows_w hg, rows_e hg, Option.elim, asInt_i, kEq_ii, wrap_succ (show i ≤ 1000000 by omega)] at hb
    have hd : rs.drop i = rs[i] :: rs.drop (i + 1) := List.drop_eq_getElem_cons hlt
    have he : epochR (rs.drop i) node n = epochR (rs.drop (i + 1)) node (if rs[i].k = 3 ∧ rs[i].w = node then rs[i].e else n) := by rw [hd]; rfl
    rw [he]
    by_cases h1 : rs[i].k = 3
    · by_cases h2 : rs[i].w = node
      · rw [eqF_t h1, eqF_t h2] at hb
        obtain ⟨x', hx⟩ := ih rs[i].e _
        rw [if_pos ⟨h1, h2⟩]
        exact ⟨x', (loopD_next j hb).trans hx⟩
      · rw [eqF_t h1, eqF_f h2] at hb
        obtain ⟨x', hx⟩ := ih n _
        rw [if_neg (fun h => h2 h.2)]
        exact ⟨x', (loopD_next j hb).trans hx⟩
    · rw [eqF_f h1] at hb
      obtain ⟨x', hx⟩ := ih n _
      rw [if_neg (fun h => h1 h.1)]
      exact ⟨x', (loopD_next j hb).trans hx⟩
theorem epoch_run (o : Orc) (node : Int) (k : Nat) (hk : rs.length + 2 ≤ k) (ho : ∀ a c n m, o 15 [.slice (some a) rs.length c, .int .i64 n] m = none) : callN Try.prog kp 0 o k 15 [.slice (some ⟨b, 0, sp⟩) rs.length cap, .int .i64 node] m = some (.int .i64 (epochR rs node 0), m) := by
  obtain ⟨k, rfl⟩ : ∃ k', k = k' + 1 := ⟨k - 1, by omega⟩
  simp only [callN, ho]
  refine (congrArg (filtR Try.prog _) ?_).trans (filt_i _ _ (by kernel_rfl))
  rw [Y.body_eq (Y.callN_typed Try.prog kp 0 o k) (c := bodyOf Try.f15) (fn := Try.f15) 34 Try.func15 (by kernel_rfl) _ (by kernel_rfl), t_ep_in]
  obtain ⟨x', hx⟩ := epoch_loop (b := b) (sp := sp) (cap := cap) hlen hm (Y.callN_typed Try.prog kp 0 o k) k node rs.length 0 0 (up x0 [(4, (.int .i64 (0 : Int)))]) k (by omega) (by omega)
  rw [show ((0 : Nat) : Int) = 0 from rfl, List.drop_zero] at hx
  rw [Y.lpOf_eq, Y.loopC_body, hx, Y.onE_some]
  exact t_ep_out ..
theorem top_loop {df : DFun} (hdf : Y.Typed Try.prog df) (k : Nat) : ∀ (d i : Nat) (n : Int) (x : Nat → Value) (j : Nat), rs.length = i + d → d + 1 ≤ j →
    ∃ x', loopD (codeD Try.prog kp 0 df (drawD Try.prog kp 0 df 32) 32 k (loopN Try.f42 0)) j (fullN 32 (up x [(0, .slice (some ⟨b, 0, sp⟩) rs.length cap), (3, .int .i64 n), (4, .int .i64 (i : Int))])) m =
      some (.exit 0, fullN 32 (up x' [(0, .slice (some ⟨b, 0, sp⟩) rs.length cap), (3, .int .i64 (topR (rs.drop i) n)), (4, .int .i64 (rs.length : Int))]), m)
  | 0, i, n, x, j, hi, hj => by
    obtain ⟨j, rfl⟩ : ∃ j', j = j' + 1 := ⟨j - 1, by omega⟩
    obtain rfl : i = rs.length := by omega
    have hb := (Y.step_eq Try.prog kp 0 hdf 32 k (loopN Try.f42 0) (fullN 32 (up x [(0, .slice (some ⟨b, 0, sp⟩) rs.length cap), (3, .int .i64 n), (4, .int .i64 (rs.length : Int))])) m).trans (t_top ..)
    simp only [ge_len (Nat.lt_irrefl _), cond_false] at hb
    have hs := loopD_stop j hb (by simp)
    exact ⟨_, by rw [List.drop_length]; exact hs⟩
  | d + 1, i, n, x, j, hi, hj => by
    obtain ⟨j, rfl⟩ : ∃ j', j = j' + 1 := ⟨j - 1, by omega⟩
    have hlt : i < rs.length := by omega
    have hg : rs[i]? = some rs[i] := List.getElem?_eq_getElem hlt
    have ih := fun n x => top_loop hdf k d (i + 1) n x j (by omega) (by omega)
    have hb := (Y.step_eq Try.prog kp 0 hdf 32 k (loopN Try.f42 0) (fullN 32 (up x [(0, .slice (some ⟨b, 0, sp⟩) rs.length cap), (3, .int .i64 n), (4, .int .i64 (i : Int))])) m).trans (t_top ..)
    simp only [lt_len hlt, cond_true, onNat_c, blt_t hlt, hm, cells_c, rows_k hg, rows_e hg, Option.elim, asInt_i, kEq_ii, wrap_succ (show i ≤ 1000000 by omega)] at hb
    have hd : rs.drop i = rs[i] :: rs.drop (i + 1) := List.drop_eq_getElem_cons hlt
    have he : topR (rs.drop i) n = topR (rs.drop (i + 1)) (if rs[i].k = 3 ∧ n < rs[i].e then rs[i].e else n) := by rw [hd]; rfl
    rw [he]
    by_cases h1 : rs[i].k = 3
    · by_cases h2 : n < rs[i].e
      · rw [eqF_t h1, ltF_t h2] at hb
        obtain ⟨x', hx⟩ := ih rs[i].e _
        rw [if_pos ⟨h1, h2⟩]
        exact ⟨x', (loopD_next j hb).trans hx⟩
      · rw [eqF_t h1, ltF_f h2] at hb
        obtain ⟨x', hx⟩ := ih n _
        rw [if_neg (fun h => h2 h.2)]
        exact ⟨x', (loopD_next j hb).trans hx⟩
    · rw [eqF_f h1] at hb
      obtain ⟨x', hx⟩ := ih n _
      rw [if_neg (fun h => h1 h.1)]
      exact ⟨x', (loopD_next j hb).trans hx⟩
theorem top_run (o : Orc) (k : Nat) (hk : rs.length + 2 ≤ k) (ho : ∀ a m, o 42 a m = none) : callN Try.prog kp 0 o k 42 [.slice (some ⟨b, 0, sp⟩) rs.length cap] m = some (.int .i64 (topR rs 0), m) := by
  obtain ⟨k, rfl⟩ : ∃ k', k = k' + 1 := ⟨k - 1, by omega⟩
  simp only [callN, ho]
  refine (congrArg (filtR Try.prog _) ?_).trans (filt_i _ _ (by kernel_rfl))
  rw [Y.body_eq (Y.callN_typed Try.prog kp 0 o k) (c := bodyOf Try.f42) (fn := Try.f42) 32 Try.func42 (by kernel_rfl) _ (by kernel_rfl), t_top_in]
  obtain ⟨x', hx⟩ := top_loop (b := b) (sp := sp) (cap := cap) hlen hm (Y.callN_typed Try.prog kp 0 o k) k rs.length 0 0 (up x0 [(2, (.int .i64 (0 : Int)))]) k (by omega) (by omega)
  rw [show ((0 : Nat) : Int) = 0 from rfl, List.drop_zero] at hx
  rw [Y.lpOf_eq, Y.loopC_body, hx, Y.onE_some]
  exact t_top_out ..
end
end
end Go.Proofs.Ytfpbiojnbffkpaa
/-
  JRef2: the reference's sure, by the rows.
-/
namespace Go.Proofs.Ytfpbiojnbffkpaa
open Go Go.DI Go.Proofs Go.Jud
noncomputable section
theorem both {β : Type} {s : Option β} {P : β → Prop} {Q : Prop} (h : (∃ a, s = some a ∧ P a) ∨ (s = none ∧ Q)) : (∀ a, s = some a → P a) ∧ (s = none → Q) := by
  rcases h with ⟨a, rfl, h⟩ | ⟨rfl, h⟩
  · exact ⟨fun a' e => (by cases e; exact h), fun e => (by cases e)⟩
  · exact ⟨fun a' e => (by cases e), fun _ => h⟩
def sureS (r : RowT) (st : Int × Bool) (x : RowT) : Option (Int × Bool) :=
  if x.k = 2 then
    if x.i = r.i ∧ (x.t ≠ r.t ∨ hl x.h ≠ hl r.h) then none else
    some (if x.w = r.w then x.i else st.1, if 1 < r.i ∧ x.i = r.i - 1 ∧ r.t < x.t then true else st.2)
  else some st
def sureF (r : RowT) : Int × Bool → List RowT → Option (Int × Bool)
  | st, [] => some st
  | st, x :: l => match sureS r st x with | some st' => sureF r st' l | none => none
def sureR (l : List RowT) (r : RowT) : Int :=
  match sureF r (0, false) l with
  | none => 3
  | some (la, fa) => if r.i ≠ 1 ∧ (r.i < 1 ∨ r.i ≠ IntKind.wrap .i64 (la + 1)) ∨ fa = true then 4 else 0
section
variable {b rb : Nat} {own own2 : Bool} {sp : Option Nat} {cap : Nat} {m : Mem} {rs : List RowT} {rest : List Value} {r : RowT} (hlen : rs.length ≤ 100000) (hm : m.get b = .cells own (rowsC rs ++ rest)) (hr : m.get rb = .cells own2 (rowR r)) (hi : -9223372036854775808 ≤ r.i ∧ r.i ≤ 9223372036854775807)
include hlen hm hr hi
set_option maxHeartbeats 4000000 in
theorem sure_turn {df : DFun} (hdf : Y.Typed Try.prog df) (k i : Nat) (hlt : i < rs.length) (a4 la : Int) (fa : Bool) (x : Nat → Value) :
    (∀ st', sureS r (la, fa) rs[i] = some st' → ∃ X, codeD Try.prog kp 0 df (drawD Try.prog kp 0 df 103) 103 k (loopN Try.f29 0) (fullN 103 (up x [(0, .slice (some ⟨b, 0, sp⟩) rs.length cap), (3, .pointer (some ⟨rb, 0, none⟩)), (4, .int .i64 a4), (5, .int .i64 la), (6, .bool fa), (7, .int .i64 (i : Int))])) m =
      some (.normal, fullN 103 (up X [(0, .slice (some ⟨b, 0, sp⟩) rs.length cap), (3, .pointer (some ⟨rb, 0, none⟩)), (4, .int .i64 a4), (5, .int .i64 st'.1), (6, .bool st'.2), (7, .int .i64 ((i + 1 : Nat) : Int))]), m)) ∧
    (sureS r (la, fa) rs[i] = none → ∃ X, codeD Try.prog kp 0 df (drawD Try.prog kp 0 df 103) 103 k (loopN Try.f29 0) (fullN 103 (up x [(0, .slice (some ⟨b, 0, sp⟩) rs.length cap), (3, .pointer (some ⟨rb, 0, none⟩)), (4, .int .i64 a4), (5, .int .i64 la), (6, .bool fa), (7, .int .i64 (i : Int))])) m =
      some (.ret, fullN 103 (up X [(0, .slice (some ⟨b, 0, sp⟩) rs.length cap), (3, .pointer (some ⟨rb, 0, none⟩)), (4, .int .i64 3), (5, .int .i64 la), (6, .bool fa), (7, .int .i64 (i : Int))]), m)) := by
  have hg : rs[i]? = some rs[i] := List.getElem?_eq_getElem hlt
  have hb := (Y.step_eq Try.prog kp 0 hdf 103 k (loopN Try.f29 0) (fullN 103 (up x [(0, .slice (some ⟨b, 0, sp⟩) rs.length cap), (3, .pointer (some ⟨rb, 0, none⟩)), (4, .int .i64 a4), (5, .int .i64 la), (6, .bool fa), (7, .int .i64 (i : Int))])) m).trans (t_sure ..)
  simp only [lt_len hlt, cond_true, onNat_c, blt_t hlt, hm, hr, cells_c, rows_k hg, rows_w hg, rows_t hg, rows_i hg, rows_e hg, rows_h hg, rows_hble hlt, row_k, row_w, row_t, row_i, row_h, row_len, feq_H, Option.elim, asInt_i, kEq_ii, wrap_succ (show i ≤ 1000000 by omega)] at hb
  refine both ?_
  by_cases h1 : rs[i].k = 2
  rotate_left
  · rw [eqF_f h1] at hb
    exact .inl ⟨_, (show sureS r (la, fa) rs[i] = some (la, fa) by simp only [sureS, if_neg h1]), _, hb⟩
  rw [eqF_t h1] at hb
  simp only [bnot_t, cond_false] at hb
  by_cases h2 : rs[i].i = r.i
  · rw [eqF_t h2] at hb
    simp only [cond_true] at hb
    by_cases h3 : rs[i].t = r.t
    rotate_left
    · rw [eqF_f h3] at hb
      exact .inr ⟨(by simp only [sureS, if_pos h1]; rw [if_pos ⟨h2, .inl h3⟩]), _, hb⟩
    rw [eqF_t h3] at hb
    simp only [bnot_t, cond_false] at hb
    by_cases h4 : hl rs[i].h = hl r.h
    rotate_left
    · rw [decide_eq_false h4] at hb
      exact .inr ⟨(by simp only [sureS, if_pos h1]; rw [if_pos ⟨h2, .inr h4⟩]), _, hb⟩
    rw [decide_eq_true h4] at hb
    simp only [bnot_t, cond_false] at hb
    have hbad : ¬ (rs[i].i = r.i ∧ (rs[i].t ≠ r.t ∨ hl rs[i].h ≠ hl r.h)) := fun h => h.2.elim (fun g => g h3) (fun g => g h4)
    by_cases h5 : rs[i].w = r.w
    · rw [eqF_t h5] at hb
      simp only [cond_true, cond_false] at hb
      by_cases h6 : 1 < r.i
      rotate_left
      · rw [ltF_f h6] at hb
        exact .inl ⟨_, (show sureS r (la, fa) rs[i] = some (rs[i].i, fa) by simp only [sureS, if_pos h1, if_neg hbad, if_pos h5]; rw [if_neg (fun h => h6 h.1)]), _, hb⟩
      rw [ltF_t h6] at hb
      have hw : IntKind.wrap .i64 (Int.sub r.i 1) = r.i - 1 := IntWalk.i64_in _ (by show _ ≤ r.i - 1 ∧ r.i - 1 ≤ _; omega)
      simp only [cond_true, hw] at hb
      by_cases h7 : rs[i].i = r.i - 1
      rotate_left
      · rw [eqF_f h7] at hb
        exact .inl ⟨_, (show sureS r (la, fa) rs[i] = some (rs[i].i, fa) by simp only [sureS, if_pos h1, if_neg hbad, if_pos h5]; rw [if_neg (fun h => h7 h.2.1)]), _, hb⟩
      rw [eqF_t h7] at hb
      simp only [cond_true] at hb
      by_cases h8 : r.t < rs[i].t
      · rw [ltF_t h8] at hb
        exact .inl ⟨_, (show sureS r (la, fa) rs[i] = some (rs[i].i, true) by simp only [sureS, if_pos h1, if_neg hbad, if_pos h5]; rw [if_pos ⟨h6, h7, h8⟩]), _, hb⟩
      · rw [ltF_f h8] at hb
        exact .inl ⟨_, (show sureS r (la, fa) rs[i] = some (rs[i].i, fa) by simp only [sureS, if_pos h1, if_neg hbad, if_pos h5]; rw [if_neg (fun h => h8 h.2.2)]), _, hb⟩
    · rw [eqF_f h5] at hb
      simp only [cond_true, cond_false] at hb
      by_cases h6 : 1 < r.i
      rotate_left
      · rw [ltF_f h6] at hb
        exact .inl ⟨_, (show sureS r (la, fa) rs[i] = some (la, fa) by simp only [sureS, if_pos h1, if_neg hbad, if_neg h5]; rw [if_neg (fun h => h6 h.1)]), _, hb⟩
      rw [ltF_t h6] at hb
      have hw : IntKind.wrap .i64 (Int.sub r.i 1) = r.i - 1 := IntWalk.i64_in _ (by show _ ≤ r.i - 1 ∧ r.i - 1 ≤ _; omega)
      simp only [cond_true, hw] at hb
      by_cases h7 : rs[i].i = r.i - 1
      rotate_left
      · rw [eqF_f h7] at hb
        exact .inl ⟨_, (show sureS r (la, fa) rs[i] = some (la, fa) by simp only [sureS, if_pos h1, if_neg hbad, if_neg h5]; rw [if_neg (fun h => h7 h.2.1)]), _, hb⟩
      rw [eqF_t h7] at hb
      simp only [cond_true] at hb
      by_cases h8 : r.t < rs[i].t
      · rw [ltF_t h8] at hb
        exact .inl ⟨_, (show sureS r (la, fa) rs[i] = some (la, true) by simp only [sureS, if_pos h1, if_neg hbad, if_neg h5]; rw [if_pos ⟨h6, h7, h8⟩]), _, hb⟩
      · rw [ltF_f h8] at hb
        exact .inl ⟨_, (show sureS r (la, fa) rs[i] = some (la, fa) by simp only [sureS, if_pos h1, if_neg hbad, if_neg h5]; rw [if_neg (fun h => h8 h.2.2)]), _, hb⟩
  · rw [eqF_f h2] at hb
    simp only [cond_false] at hb
    have hbad : ¬ (rs[i].i = r.i ∧ (rs[i].t ≠ r.t ∨ hl rs[i].h ≠ hl r.h)) := fun h => h2 h.1
    by_cases h5 : rs[i].w = r.w
    · rw [eqF_t h5] at hb
      simp only [cond_true, cond_false] at hb
      by_cases h6 : 1 < r.i
      rotate_left
      · rw [ltF_f h6] at hb
        exact .inl ⟨_, (show sureS r (la, fa) rs[i] = some (rs[i].i, fa) by simp only [sureS, if_pos h1, if_neg hbad, if_pos h5]; rw [if_neg (fun h => h6 h.1)]), _, hb⟩
      rw [ltF_t h6] at hb
      have hw : IntKind.wrap .i64 (Int.sub r.i 1) = r.i - 1 := IntWalk.i64_in _ (by show _ ≤ r.i - 1 ∧ r.i - 1 ≤ _; omega)
      simp only [cond_true, hw] at hb
      by_cases h7 : rs[i].i = r.i - 1
      rotate_left
      · rw [eqF_f h7] at hb
        exact .inl ⟨_, (show sureS r (la, fa) rs[i] = some (rs[i].i, fa) by simp only [sureS, if_pos h1, if_neg hbad, if_pos h5]; rw [if_neg (fun h => h7 h.2.1)]), _, hb⟩
      rw [eqF_t h7] at hb
      simp only [cond_true] at hb
      by_cases h8 : r.t < rs[i].t
      · rw [ltF_t h8] at hb
        exact .inl ⟨_, (show sureS r (la, fa) rs[i] = some (rs[i].i, true) by simp only [sureS, if_pos h1, if_neg hbad, if_pos h5]; rw [if_pos ⟨h6, h7, h8⟩]), _, hb⟩
      · rw [ltF_f h8] at hb
        exact .inl ⟨_, (show sureS r (la, fa) rs[i] = some (rs[i].i, fa) by simp only [sureS, if_pos h1, if_neg hbad, if_pos h5]; rw [if_neg (fun h => h8 h.2.2)]), _, hb⟩
    · rw [eqF_f h5] at hb
      simp only [cond_true, cond_false] at hb
      by_cases h6 : 1 < r.i
      rotate_left
      · rw [ltF_f h6] at hb
        exact .inl ⟨_, (show sureS r (la, fa) rs[i] = some (la, fa) by simp only [sureS, if_pos h1, if_neg hbad, if_neg h5]; rw [if_neg (fun h => h6 h.1)]), _, hb⟩
      rw [ltF_t h6] at hb
      have hw : IntKind.wrap .i64 (Int.sub r.i 1) = r.i - 1 := IntWalk.i64_in _ (by show _ ≤ r.i - 1 ∧ r.i - 1 ≤ _; omega)
      simp only [cond_true, hw] at hb
      by_cases h7 : rs[i].i = r.i - 1
      rotate_left
      · rw [eqF_f h7] at hb
        exact .inl ⟨_, (show sureS r (la, fa) rs[i] = some (la, fa) by simp only [sureS, if_pos h1, if_neg hbad, if_neg h5]; rw [if_neg (fun h => h7 h.2.1)]), _, hb⟩
      rw [eqF_t h7] at hb
      simp only [cond_true] at hb
      by_cases h8 : r.t < rs[i].t
      · rw [ltF_t h8] at hb
        exact .inl ⟨_, (show sureS r (la, fa) rs[i] = some (la, true) by simp only [sureS, if_pos h1, if_neg hbad, if_neg h5]; rw [if_pos ⟨h6, h7, h8⟩]), _, hb⟩
      · rw [ltF_f h8] at hb
        exact .inl ⟨_, (show sureS r (la, fa) rs[i] = some (la, fa) by simp only [sureS, if_pos h1, if_neg hbad, if_neg h5]; rw [if_neg (fun h => h8 h.2.2)]), _, hb⟩
theorem sure_loop {df : DFun} (hdf : Y.Typed Try.prog df) (k : Nat) (a4 : Int) : ∀ (d i : Nat) (la : Int) (fa : Bool) (x : Nat → Value) (j : Nat), rs.length = i + d → d + 1 ≤ j →
    (∀ st, sureF r (la, fa) (rs.drop i) = some st → ∃ x', loopD (codeD Try.prog kp 0 df (drawD Try.prog kp 0 df 103) 103 k (loopN Try.f29 0)) j (fullN 103 (up x [(0, .slice (some ⟨b, 0, sp⟩) rs.length cap), (3, .pointer (some ⟨rb, 0, none⟩)), (4, .int .i64 a4), (5, .int .i64 la), (6, .bool fa), (7, .int .i64 (i : Int))])) m =
      some (.exit 0, fullN 103 (up x' [(0, .slice (some ⟨b, 0, sp⟩) rs.length cap), (3, .pointer (some ⟨rb, 0, none⟩)), (4, .int .i64 a4), (5, .int .i64 st.1), (6, .bool st.2), (7, .int .i64 (rs.length : Int))]), m)) ∧
    (sureF r (la, fa) (rs.drop i) = none → ∃ x' la' fa' i', loopD (codeD Try.prog kp 0 df (drawD Try.prog kp 0 df 103) 103 k (loopN Try.f29 0)) j (fullN 103 (up x [(0, .slice (some ⟨b, 0, sp⟩) rs.length cap), (3, .pointer (some ⟨rb, 0, none⟩)), (4, .int .i64 a4), (5, .int .i64 la), (6, .bool fa), (7, .int .i64 (i : Int))])) m =
      some (.ret, fullN 103 (up x' [(0, .slice (some ⟨b, 0, sp⟩) rs.length cap), (3, .pointer (some ⟨rb, 0, none⟩)), (4, .int .i64 3), (5, .int .i64 la'), (6, .bool fa'), (7, .int .i64 i')]), m))
  | 0, i, la, fa, x, j, hi', hj => by
    obtain ⟨j, rfl⟩ : ∃ j', j = j' + 1 := ⟨j - 1, by omega⟩
    obtain rfl : i = rs.length := by omega
    have hb := (Y.step_eq Try.prog kp 0 hdf 103 k (loopN Try.f29 0) (fullN 103 (up x [(0, .slice (some ⟨b, 0, sp⟩) rs.length cap), (3, .pointer (some ⟨rb, 0, none⟩)), (4, .int .i64 a4), (5, .int .i64 la), (6, .bool fa), (7, .int .i64 (rs.length : Int))])) m).trans (t_sure ..)
    simp only [ge_len (Nat.lt_irrefl _), cond_false] at hb
    have hs := loopD_stop j hb (by simp)
    rw [List.drop_length]
    exact ⟨fun st h => (by cases h; exact ⟨_, hs⟩), fun h => (by cases h)⟩
  | d + 1, i, la, fa, x, j, hi', hj => by
    obtain ⟨j, rfl⟩ : ∃ j', j = j' + 1 := ⟨j - 1, by omega⟩
    have hlt : i < rs.length := by omega
    have ih := fun la fa x => sure_loop hdf k a4 d (i + 1) la fa x j (by omega) (by omega)
    obtain ⟨T1, T2⟩ := sure_turn (b := b) (rb := rb) (sp := sp) (cap := cap) hlen hm hr hi hdf k i hlt a4 la fa x
    have hd : rs.drop i = rs[i] :: rs.drop (i + 1) := List.drop_eq_getElem_cons hlt
    rw [hd]
    simp only [sureF]
    cases hs : sureS r (la, fa) rs[i] with
    | none =>
      obtain ⟨X, hX⟩ := T2 hs
      exact ⟨fun st h => (by cases h), fun _ => ⟨X, la, fa, i, loopD_stop j hX (by simp)⟩⟩
    | some st' =>
      obtain ⟨X, hX⟩ := T1 st' hs
      obtain ⟨I1, I2⟩ := ih st'.1 st'.2 X
      refine ⟨fun st h => ?_, fun h => ?_⟩
      · obtain ⟨x', hx⟩ := I1 st h
        exact ⟨x', (loopD_next j hX).trans hx⟩
      · obtain ⟨x', la', fa', i', hx⟩ := I2 h
        exact ⟨x', la', fa', i', (loopD_next j hX).trans hx⟩
end
theorem sure_run {b : Nat} {own : Bool} {sp : Option Nat} {cap : Nat} {m : Mem} {rs : List RowT} {rest : List Value} {r : RowT} (hlen : rs.length ≤ 100000) (hm : m.get b = .cells own (rowsC rs ++ rest)) (hbm : b < m.size) (hi : -9223372036854775808 ≤ r.i ∧ r.i ≤ 9223372036854775807)
    (o : Orc) (k : Nat) (hk : rs.length + 2 ≤ k) (ho : ∀ a m, o 29 a m = none) : callN Try.prog kp 0 o k 29 [.slice (some ⟨b, 0, sp⟩) rs.length cap, .agg ⟨rowR r⟩] m = some (.int .i64 (sureR rs r), m.push (.cells true (rowR r))) := by
  obtain ⟨k, rfl⟩ : ∃ k', k = k' + 1 := ⟨k - 1, by omega⟩
  simp only [callN, ho]
  refine (congrArg (filtR Try.prog _) ?_).trans (filt_i _ _ (by kernel_rfl))
  rw [Y.body_eq (Y.callN_typed Try.prog kp 0 o k) (c := bodyOf Try.f29) (fn := Try.f29) 103 Try.func29 (by kernel_rfl) _ (by kernel_rfl)]
  refine (t_sure_in ..).trans ?_
  have hm' : (m.push (.cells true (rowR r))).get b = .cells own (rowsC rs ++ rest) := by rw [Mem.get_push_ne _ (by omega)]; exact hm
  have hr' : (m.push (.cells true (rowR r))).get m.size = .cells true (rowR r) := Mem.get_push_same _ _
  obtain ⟨I1, I2⟩ := sure_loop (b := b) (rb := m.size) (sp := sp) (cap := cap) hlen hm' hr' hi (Y.callN_typed Try.prog kp 0 o k) k 0 rs.length 0 0 false (up x0 [(1, .agg ⟨rowR r⟩)]) k (by omega) (by omega)
  rw [show ((0 : Nat) : Int) = 0 from rfl, List.drop_zero] at I1 I2
  rw [Y.lpOf_eq, Y.loopC_body]
  unfold sureR
  cases hs : sureF r (0, false) rs with
  | none =>
    obtain ⟨x', la', fa', i', hx⟩ := I2 hs
    refine (congrArg (fun z => Y.onE z _) hx).trans ?_
    rw [Y.onE_some]
    exact t_sure_ret ..
  | some st =>
    obtain ⟨la, fa⟩ := st
    obtain ⟨x', hx⟩ := I1 _ hs
    refine (congrArg (fun z => Y.onE z _) hx).trans ?_
    rw [Y.onE_some]
    refine (t_sure_out ..).trans ?_
    simp only [hr', cells_c, row_i, Option.elim, asInt_i, kEq_ii, cond_true]
    by_cases h1 : r.i = 1
    · rw [eqF_t h1]
      cases fa with
      | false => rw [if_neg (by simp [h1])]; rfl
      | true => rw [if_pos (by simp)]; rfl
    · rw [eqF_f h1]
      simp only [bnot_f, cond_true]
      by_cases h2 : r.i < 1
      · rw [ltF_t h2, if_pos (.inl ⟨h1, .inl h2⟩)]; rfl
      · rw [ltF_f h2]
        simp only [cond_false]
        by_cases h3 : r.i = IntKind.wrap .i64 (la + 1)
        · rw [show Y.eqF r.i (IntKind.wrap .i64 (Int.add la 1)) = true from eqF_t h3]
          cases fa with
          | false => rw [if_neg (fun h => h.elim (fun g => g.2.elim h2 (fun e => e h3)) (fun e => by cases e))]; rfl
          | true => rw [if_pos (.inr rfl)]; rfl
        · rw [show Y.eqF r.i (IntKind.wrap .i64 (Int.add la 1)) = false from eqF_f h3, if_pos (.inl ⟨h1, .inr h3⟩)]; rfl
end
end Go.Proofs.Ytfpbiojnbffkpaa
