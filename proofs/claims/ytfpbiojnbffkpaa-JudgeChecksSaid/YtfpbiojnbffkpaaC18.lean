/-
  JWake: 'wakes' answers true and turns nothing; the oracle of the judge's laws; and what Add does where a judge lies.
-/
import Derived.Test.YtfpbiojnbffkpaaC17
import Derived.IntWalk
set_option linter.all false
set_option linter.unusedVariables false
set_option linter.unusedSimpArgs false
namespace Go.Proofs.Ytfpbiojnbffkpaa
open Go Go.DI Go.Proofs Go.Jud
noncomputable section
theorem hmix : Try.prog.follows .mixedOrders = true := by kernel_rfl
theorem hK : Plain Try.prog kp := plain_among (by kernel_rfl)
theorem hng : NoNG Try.prog := noNG_of (by kernel_rfl)
theorem wakes_true : Y.callK Try.prog kp 0 60 7 [] m0 (fun v m => some (isT (some (v, m)))) = some true := by kernel_rfl
theorem wakes_ok {B0 : Nat} (M : Mem) : CallOK Try.prog B0 0 7 [] M (.bool true) M := by
  intro ι w args' hr _ hargs
  cases hargs
  refine (calls_trueY hmix hK hng wakes_true w).mono ?_
  rintro e w' ⟨rfl, hb⟩
  refine ⟨.bool true, ι, rfl, .bool _, ⟨fun b L hb' hL => ?_, hr.inj, Nat.le_trans hr.floor hb.size, hr.glob, hr.top⟩, ⟨fun _ _ h => h, fun _ _ => rfl, hb.os, hb.output, hb.tape, hb.size, fun B hB _ => hb.block B hB, fun b L h1 h2 => by omega, Nat.le_refl _, fun _ _ h => h⟩⟩
  exact (hr.blk b L hb' hL).monoL (fun _ _ h => h) (fun hl => hb.block _ (hr.old b L hL hl))
def oJ : Orc := fun f args M => if f = 7 then (match args with | [] => some (.bool true, M) | _ => none) else o13 f args M
theorem o13_ok {B0 : Nat} {f : FuncId} {args : List Value} {M M' : Mem} {v : Value} (h : o13 f args M = some (v, M')) : f = 13 ∧ CallOK Try.prog B0 0 f args M v M' ∧ Grw M M' := by
  unfold o13 at h
  split at h <;> try (simp at h; done)
  rename_i hf
  subst hf
  refine ⟨rfl, ?_⟩
  split at h <;> try (simp at h; done)
  split at h <;> try (simp at h; done)
  rename_i hb
  split at h <;> try (simp at h; done)
  · exact goJ_ok hmix hK hng hb h
  · exact goJ_ok hmix hK hng hb h
theorem oJ_grw : CfGrw oJ := fun f args M v M' h => by
  unfold oJ at h
  split at h
  · split at h <;> simp at h
    rw [h.2]; exact Grw.refl _
  · exact (o13_ok (B0 := 0) h).2.2
def hasB (P : Program) (f : FuncId) : Bool := match P.funcs[f]? with | some fn => !fn.body.isNone | none => false
theorem hasB_of {f : FuncId} (h : hasB Try.prog f = true) : ∃ fn, Try.prog.funcs[f]? = some fn ∧ fn.body.isNone = false ∧ (fn.name == "runtime.NumGoroutine") = false := by
  unfold hasB at h
  split at h
  · rename_i fn hf
    have hb : fn.body.isNone = false := by simpa using h
    exact ⟨fn, hf, hb, hng f fn hf hb⟩
  · simp at h
theorem oJ_ok {B0 : Nat} : CfOK Try.prog B0 0 oJ := by
  refine ⟨fun f args M v M' h => (oJ_grw f args M v M' h).size, fun f args M v M' h => ?_, fun f args M v M' h => ?_⟩
  all_goals
    unfold oJ at h
    split at h
  · rename_i hf
    subst hf
    split at h <;> simp at h
    obtain ⟨rfl, rfl⟩ := h
    exact wakes_ok M
  · exact (o13_ok h).2.1
  · rename_i hf
    subst hf
    exact hasB_of (by kernel_rfl)
  · obtain ⟨rfl, _⟩ := o13_ok (B0 := 0) h
    exact hasB_of (by kernel_rfl)
/-! ### a judge that lies somewhere -/
def isL (S : JS) : Bool := match S.log with | [] => false | _ => true
theorem isL_f {S : JS} (h : S.log = []) : isL S = false := by unfold isL; rw [h]
theorem isL_t {S : JS} (h : S.log ≠ []) : isL S = true := by unfold isL; cases hl : S.log <;> simp_all
structure Holds (S : JS) (ρ : Nat → Nat) (M : Mem) : Prop where
  b0 : M.get (ρ 0) = .cells true (judL (.int .i64 S.n) (logV (ρ 8) S.log) (.int .i64 (S.ep 0)) (.int .i64 (S.ep 1)) (.int .i64 (S.ep 2)) (.int .i64 (S.ep 3)) (.int .i64 (S.ep 4)) (.int .i64 S.top) (ρ 1) (ρ 2) (ρ 3) (ρ 4) (ρ 5) (ρ 6) (ρ 7))
  b1 : M.get (ρ 1) = mapB ekI ekI S.led
  b2 : M.get (ρ 2) = mapB ekI ekI S.last
  b3 : M.get (ρ 3) = mapB ekI evH S.images
  b4 : M.get (ρ 4) = mapB ekP evU S.yes
  b5 : M.get (ρ 5) = mapB ekI ekI S.word
  b6 : M.get (ρ 6) = mapB ekP evA S.answers
  b7 : M.get (ρ 7) = mapB ekI ekP S.askers
  b8 : S.log ≠ [] → M.get (ρ 8) = .cells true (logC S.log)
  lt : ∀ i, seeJ (isL S) i = true → ρ i < M.size
  inj : ∀ i j, seeJ (isL S) i = true → seeJ (isL S) j = true → ρ i = ρ j → i = j
theorem free_ekI (a : Int) : Free (ekI a) := free_int _ _
theorem free_hashC (h : H) : ∀ x ∈ hashC h, Free x := by
  intro x hx
  simp only [hashC, List.mem_cons, List.not_mem_nil, or_false] at hx
  rcases hx with h | h | h | h | h | h | h | h | h | h | h | h | h | h | h | h | h | h | h | h | h | h | h | h | h | h | h | h | h | h | h | h <;> (rw [h]; exact free_int _ _)
theorem free_ekP (p : Int × Int) : Free (ekP p) := free_agg (by
  intro x hx
  simp only [List.mem_cons, List.not_mem_nil, or_false] at hx
  rcases hx with h | h <;> (rw [h]; exact free_int _ _))
theorem free_evH (h : H) : Free (evH h) := free_agg (free_hashC h)
theorem free_evU (u : Unit) : Free (evU u) := free_agg (by intro x hx; simp at hx)
theorem free_evA (x : Int × Int × H) : Free (evA x) := free_agg (by
  intro y hy
  simp only [List.cons_append, List.nil_append, List.mem_cons] at hy
  rcases hy with h | h | h
  · rw [h]; exact free_int _ _
  · rw [h]; exact free_int _ _
  · exact free_hashC _ _ h)
theorem free_map {κ ν : Type} {ek : κ → Value} {ev : ν → Value} (hk : ∀ a, Free (ek a)) (hv : ∀ a, Free (ev a)) (m : TM κ ν) : freeB (mapB ek ev m) := ents_free hk hv m.l
theorem free_logC (l : List (Int × H)) : freeB (.cells true (logC l)) := by
  intro x hx
  simp only [logC, List.mem_flatMap] at hx
  obtain ⟨y, _, hx⟩ := hx
  simp only [entC, List.mem_cons] at hx
  rcases hx with h | h
  · rw [h]; exact free_int _ _
  · exact free_hashC _ _ h
theorem free_row (r : RowT) : Free (.agg ⟨rowR r⟩) := free_agg (by
  intro x hx
  simp only [rowR, rowC, List.cons_append, List.nil_append, List.mem_cons, List.mem_append, List.not_mem_nil, or_false] at hx
  rcases hx with h | h | h | h | h | h | h | h | h | h | h | h
  all_goals first | exact free_hashC _ _ h | (rw [h]; first | exact free_int _ _ | exact free_bool _))
end
end Go.Proofs.Ytfpbiojnbffkpaa
namespace Go.Proofs.Ytfpbiojnbffkpaa
open Go Go.DI Go.Proofs Go.Jud
noncomputable section
theorem renL_logV (ρ : Nat → Nat) (N : Nat) (l : List (Int × H)) : renL ρ (logV N l) = some (logV (ρ N) l) := by cases l <;> rfl
theorem backJ_jud (ρ : Nat → Nat) (S : JS) (N : Nat) : backJ ρ (.cells true (judS S (logV N S.log))) = .cells true (judL (.int .i64 S.n) (logV (ρ N) S.log) (.int .i64 (S.ep 0)) (.int .i64 (S.ep 1)) (.int .i64 (S.ep 2)) (.int .i64 (S.ep 3)) (.int .i64 (S.ep 4)) (.int .i64 S.top) (ρ 1) (ρ 2) (ρ 3) (ρ 4) (ρ 5) (ρ 6) (ρ 7)) := by
  unfold judS judC backJ
  simp only [renL_logV]
  exact if_pos ⟨free_int _ _, free_int _ _, free_int _ _, free_int _ _, free_int _ _, free_int _ _, free_int _ _⟩
theorem sureJ_log (S : JS) (r : RowT) : (sureJ S r).2.log = S.log ∨ (sureJ S r).2.log = S.log ++ [(r.t, r.h)] := by
  unfold sureJ
  split
  · exact .inl rfl
  split
  · exact .inl rfl
  split
  · exact .inl rfl
  split
  · exact .inl rfl
  by_cases h : thereJ S r = true
  · exact .inl (by simp [h])
  · exact .inr (by simp [h])
theorem addJ_log (S : JS) (r : RowT) : (addJ S r).2.log = S.log ∨ (addJ S r).2.log = S.log ++ [(r.t, r.h)] := by
  unfold addJ
  repeat' split
  all_goals first | exact .inl rfl | exact .inl (ledJ_log S r) | exact sureJ_log S r | exact .inl (swapJ_log S r) | exact .inl (ackJ_log S r) | exact .inl (toldJ_log S r) | exact .inl (judJ_log S r)
theorem add_at {S : JS} {r : RowT} {ρ : Nat → Nat} {M : Mem} (hS : S.Ok) (hlen : S.log.length ≤ 1000000) (hi : -9223372036854775808 ≤ r.i ∧ r.i ≤ 9223372036854775807) (hH : Holds S ρ M) (ht : M.top) :
    ∃ M' ρ', oJ 13 [.pointer (some ⟨ρ 0, 0, none⟩), .agg ⟨rowR r⟩] M = some (.int .i64 (addJ S r).1, M') ∧ Holds (addJ S r).2 ρ' M' ∧ (∀ i, i < 8 → ρ' i = ρ i) ∧ (∀ i, seeJ (isL (addJ S r).2) i = true → (seeJ (isL S) i = true ∧ ρ' i = ρ i) ∨ M.size ≤ ρ' i) ∧ M.size ≤ M'.size ∧ M'.top ∧
      ∀ j, j < M.size → (∀ i, seeJ (isL S) i = true → ρ i ≠ j) → M'.get j = M.get j := by
  obtain ⟨N, m, hc, hL, hN⟩ := add_small S r hS hlen hi
  let x8 : Nat := if isL S = true then ρ 8 else 0
  let ρs := rhoJ M (ρ 0) (ρ 1) (ρ 2) (ρ 3) (ρ 4) (ρ 5) (ρ 6) (ρ 7) x8
  have hρ8 : ∀ i, i < 8 → ρs i = ρ i := fun i hi => by
    rcases (show i = 0 ∨ i = 1 ∨ i = 2 ∨ i = 3 ∨ i = 4 ∨ i = 5 ∨ i = 6 ∨ i = 7 by omega) with rfl | rfl | rfl | rfl | rfl | rfl | rfl | rfl <;> rfl
  have hρ : ∀ i, seeJ (isL S) i = true → ρs i = ρ i := fun i hi => by
    by_cases h8 : i < 8
    · exact hρ8 i h8
    · have h9 := seeJ_lt hi
      obtain rfl : i = 8 := by omega
      have hl : isL S = true := by simpa [seeJ] using hi
      show (if isL S = true then ρ 8 else 0) = _
      rw [if_pos hl]
  have lt : ∀ i, seeJ (isL S) i = true → ρs i < M.size := fun i h => by rw [hρ i h]; exact hH.lt i h
  have inj : ∀ i j, seeJ (isL S) i = true → seeJ (isL S) j = true → ρs i = ρs j → i = j := fun i j h1 h2 e => hH.inj i j h1 h2 (by rw [← hρ i h1, ← hρ j h2]; exact e)
  have fb : ∀ i, 1 ≤ i → seeJ (isL S) i = true → freeB (M.get (ρs i)) := fun i h1 h => by
    have h9 := seeJ_lt h
    rw [hρ i h]
    rcases (show i = 1 ∨ i = 2 ∨ i = 3 ∨ i = 4 ∨ i = 5 ∨ i = 6 ∨ i = 7 ∨ i = 8 by omega) with rfl | rfl | rfl | rfl | rfl | rfl | rfl | rfl
    · rw [hH.b1]; exact free_map free_ekI free_ekI _
    · rw [hH.b2]; exact free_map free_ekI free_ekI _
    · rw [hH.b3]; exact free_map free_ekI free_evH _
    · rw [hH.b4]; exact free_map free_ekP free_evU _
    · rw [hH.b5]; exact free_map free_ekI free_ekI _
    · rw [hH.b6]; exact free_map free_ekP free_evA _
    · rw [hH.b7]; exact free_map free_ekI free_ekP _
    · have hl : S.log ≠ [] := fun e => by simp [seeJ, isL_f e] at h
      rw [hH.b8 hl]; exact free_logC _
  have hcall : ∀ (o : Value) (B8 : Blk), logV 8 S.log = o → logB S.log = B8 → callD Try.prog kp 0 20 13 [.pointer (some ⟨0, 0, none⟩), .agg ⟨rowR r⟩] (ms (judL (.int .i64 S.n) o (.int .i64 (S.ep 0)) (.int .i64 (S.ep 1)) (.int .i64 (S.ep 2)) (.int .i64 (S.ep 3)) (.int .i64 (S.ep 4)) (.int .i64 S.top) 1 2 3 4 5 6 7) (M.get (ρ 1)) (M.get (ρ 2)) (M.get (ρ 3)) (M.get (ρ 4)) (M.get (ρ 5)) (M.get (ρ 6)) (M.get (ρ 7)) B8) = some (.int .i64 (addJ S r).1, m) := fun o B8 e1 e2 => by
    subst e1 e2
    rw [hH.b1, hH.b2, hH.b3, hH.b4, hH.b5, hH.b6, hH.b7]
    exact hc
  have fn : Free (.int .i64 S.n) ∧ Free (.int .i64 (S.ep 0)) ∧ Free (.int .i64 (S.ep 1)) ∧ Free (.int .i64 (S.ep 2)) ∧ Free (.int .i64 (S.ep 3)) ∧ Free (.int .i64 (S.ep 4)) ∧ Free (.int .i64 S.top) := ⟨free_int _ _, free_int _ _, free_int _ _, free_int _ _, free_int _ _, free_int _ _, free_int _ _⟩
  have ho : oJ 13 [.pointer (some ⟨ρ 0, 0, none⟩), .agg ⟨rowR r⟩] M = some (.int .i64 (addJ S r).1, backM M m ρs (isL S)) := by
    unfold oJ o13
    rw [if_neg (by decide)]
    simp only [if_true, hH.b0, judL]
    by_cases hl : S.log = []
    · rw [show logV (ρ 8) S.log = .slice none 0 0 by rw [hl]; rfl]
      simp only
      rw [isL_f hl]
      unfold goJ
      rw [show cond false (M.get 0) Blk.none = logB S.log by rw [hl]; rfl]
      rw [hcall _ _ (by rw [hl]; rfl) rfl]
      simp only
      have hx : x8 = 0 := if_neg (by rw [isL_f hl]; simp)
      rw [isL_f hl] at lt inj fb
      have hbk : rhoJ M (ρ 0) (ρ 1) (ρ 2) (ρ 3) (ρ 4) (ρ 5) (ρ 6) (ρ 7) 0 = ρs := by show _ = rhoJ _ _ _ _ _ _ _ _ _ x8; rw [hx]
      rw [hbk, if_pos]
      exact ⟨ht, lt, inj, fn, fb, free_row r, free_int _ _, .inl ⟨rfl, rfl, free_slc0 _ _⟩⟩
    · rw [logV_ne (ρ 8) hl]
      simp only
      rw [isL_t hl]
      rw [isL_t hl] at lt inj fb
      have hx : x8 = ρ 8 := if_pos (isL_t hl)
      have hbk : rhoJ M (ρ 0) (ρ 1) (ρ 2) (ρ 3) (ρ 4) (ρ 5) (ρ 6) (ρ 7) (ρ 8) = ρs := by show _ = rhoJ _ _ _ _ _ _ _ _ _ x8; rw [hx]
      unfold goJ
      rw [show cond true (M.get (ρ 8)) Blk.none = logB S.log by rw [logB_ne hl]; exact hH.b8 hl]
      rw [hcall _ _ (logV_ne 8 hl) rfl]
      simp only
      rw [hbk, if_pos]
      exact ⟨ht, lt, inj, fn, fb, free_row r, free_int _ _, .inr ⟨rfl, ρ 8, 0, some 33, _, _, hx, rfl, rfl⟩⟩
  have hgr := oJ_grw _ _ _ _ _ ho
  have hcg := callD_grw (P := Try.prog) (K := kp) (G := 0) 20 13 _ _ _ _ hc
  have hm9 : 9 ≤ m.size := hcg.size
  have hmt : m.top := hcg.top (ms_top _ _ _ _ _ _ _ _ _)
  have hsz : (backM M m ρs (isL S)).size = M.size + (m.size - 9) := rfl
  obtain ⟨a0, at1⟩ := backM_at (m := m) lt inj
  have keep : ∀ i, 1 ≤ i → i < 8 → ∀ x, m.get i = x → freeB x → (backM M m ρs (isL S)).get (ρ i) = x := fun i h1 h8 x hx hf => by
    have := at1 i h1 (seeJ_low _ h8)
    rw [hρ8 i h8] at this
    rw [this, hx, keepB_of hf]
  let ρ' : Nat → Nat := fun i => if i = 8 then ρs N else ρ i
  have e8 : ρ' 8 = ρs N := rfl
  have el : ∀ i, i < 8 → ρ' i = ρ i := fun i h => by show (if i = 8 then _ else _) = _; rw [if_neg (by omega)]
  have hnew : 9 ≤ N → ρs N = M.size + (N - 9) := fun h => by
    obtain ⟨k, rfl⟩ : ∃ k, N = k + 9 := ⟨N - 9, by omega⟩
    rfl
  have hlogN : (addJ S r).2.log ≠ [] → N < m.size := fun hne => by
    rcases Nat.lt_or_ge N m.size with h | h
    · exact h
    · have h1 := hL.b8 hne
      have h2 : m.get N = .none := hmt N h
      rw [h2] at h1; cases h1
  refine ⟨_, ρ', ho, ⟨?_, ?_, ?_, ?_, ?_, ?_, ?_, ?_, fun hne => ?_, fun i h => ?_, fun i j h1 h2 e => ?_⟩, el, fun i h => ?_, hgr.size, hgr.top ht, fun j h1 h2 => backM_rest h1 fun i h => by rw [hρ i h]; exact h2 i h⟩
  · rw [el 0 (by omega), el 1 (by omega), el 2 (by omega), el 3 (by omega), el 4 (by omega), el 5 (by omega), el 6 (by omega), el 7 (by omega), e8, ← hρ8 0 (by omega), a0, hL.b0, backJ_jud]
    rfl
  · rw [el 1 (by omega)]; exact keep 1 (by omega) (by omega) _ hL.b1 (free_map free_ekI free_ekI _)
  · rw [el 2 (by omega)]; exact keep 2 (by omega) (by omega) _ hL.b2 (free_map free_ekI free_ekI _)
  · rw [el 3 (by omega)]; exact keep 3 (by omega) (by omega) _ hL.b3 (free_map free_ekI free_evH _)
  · rw [el 4 (by omega)]; exact keep 4 (by omega) (by omega) _ hL.b4 (free_map free_ekP free_evU _)
  · rw [el 5 (by omega)]; exact keep 5 (by omega) (by omega) _ hL.b5 (free_map free_ekI free_ekI _)
  · rw [el 6 (by omega)]; exact keep 6 (by omega) (by omega) _ hL.b6 (free_map free_ekP free_evA _)
  · rw [el 7 (by omega)]; exact keep 7 (by omega) (by omega) _ hL.b7 (free_map free_ekI free_ekP _)
  · rw [e8]
    rcases hN with ⟨rfl, hsame⟩ | h9
    · have hl : S.log ≠ [] := hsame ▸ hne
      rw [at1 8 (by omega) (by simp [seeJ, isL_t hl]), hL.b8 hne, keepB_of (free_logC _)]
    · rw [hnew h9, backM_new h9 (hlogN hne), hL.b8 hne, keepB_of (free_logC _)]
  · show ρ' i < M.size + (m.size - 9)
    by_cases h8 : i < 8
    · rw [el i h8, ← hρ8 i h8]
      have := lt i (seeJ_low _ h8); omega
    · have h9 := seeJ_lt h
      obtain rfl : i = 8 := by omega
      have hne : (addJ S r).2.log ≠ [] := fun e => by simp [seeJ, isL_f e] at h
      rw [e8]
      rcases hN with ⟨rfl, hsame⟩ | h9
      · have := lt 8 (by simp [seeJ, isL_t (hsame ▸ hne : S.log ≠ [])]); omega
      · rw [hnew h9]; have := hlogN hne; omega
  · have key : ∀ i, i < 8 → ∀ (hne : (addJ S r).2.log ≠ []), ρ' i ≠ ρ' 8 := fun i h8 hne e => by
      rw [el i h8, ← hρ8 i h8, e8] at e
      have l1 := lt i (seeJ_low _ h8)
      rcases hN with ⟨rfl, hsame⟩ | h9
      · have := inj i 8 (seeJ_low _ h8) (by simp [seeJ, isL_t (hsame ▸ hne : S.log ≠ [])]) e; omega
      · rw [hnew h9] at e; omega
    have hne8 : ∀ i, seeJ (isL (addJ S r).2) i = true → ¬ i < 8 → i = 8 ∧ (addJ S r).2.log ≠ [] := fun i h hi => ⟨by have := seeJ_lt h; omega, fun e => by
      have h9 := seeJ_lt h
      obtain rfl : i = 8 := by omega
      simp [seeJ, isL_f e] at h⟩
    by_cases k1 : i < 8
    · by_cases k2 : j < 8
      · rw [el i k1, el j k2, ← hρ8 i k1, ← hρ8 j k2] at e
        exact inj i j (seeJ_low _ k1) (seeJ_low _ k2) e
      · obtain ⟨rfl, hne⟩ := hne8 j h2 k2
        exact absurd e (key i k1 hne)
    · obtain ⟨rfl, hne⟩ := hne8 i h1 k1
      by_cases k2 : j < 8
      · exact absurd e.symm (key j k2 hne)
      · exact (hne8 j h2 k2).1.symm
  · by_cases h8 : i < 8
    · exact .inl ⟨seeJ_low _ h8, el i h8⟩
    · have h9 := seeJ_lt h
      obtain rfl : i = 8 := by omega
      have hne : (addJ S r).2.log ≠ [] := fun e => by simp [seeJ, isL_f e] at h
      rcases hN with ⟨rfl, hsame⟩ | h9
      · have h8' : seeJ (isL S) 8 = true := by simp [seeJ, isL_t (hsame ▸ hne : S.log ≠ [])]
        exact .inl ⟨h8', by rw [e8, hρ 8 h8']⟩
      · right; rw [e8, hnew h9]; omega
end
end Go.Proofs.Ytfpbiojnbffkpaa
namespace Go.Proofs.Ytfpbiojnbffkpaa
open Go Go.DI Go.Proofs Go.Jud
noncomputable section
def rowsC (l : List RowT) : List Value := l.flatMap rowR
theorem rowR_len (r : RowT) : (rowR r).length = 43 := rfl
theorem rowsC_len : ∀ l : List RowT, (rowsC l).length = l.length * 43
  | [] => rfl
  | x :: l => by
    have ih := rowsC_len l
    simp only [rowsC] at ih
    simp only [rowsC, List.flatMap_cons, List.length_append, ih, rowR_len, List.length_cons]
    omega
theorem rowsC_drop : ∀ (l : List RowT) (j : Nat) (x : RowT), l[j]? = some x → ∃ r, (rowsC l).drop (j * 43) = rowR x ++ r
  | [], j, x, h => by simp at h
  | y :: l, 0, x, h => by simp at h; subst h; exact ⟨rowsC l, rfl⟩
  | y :: l, j + 1, x, h => by
    obtain ⟨r, hr⟩ := rowsC_drop l j x (by simpa using h)
    refine ⟨r, ?_⟩
    have e : (j + 1) * 43 = (rowR y).length + j * 43 := by rw [rowR_len]; omega
    rw [e]
    show List.drop _ (rowR y ++ rowsC l) = _
    rw [← List.drop_drop, List.drop_left]
    exact hr
theorem rows_nth {l : List RowT} {j : Nat} {x : RowT} (h : l[j]? = some x) (r : List Value) {f : Nat} (hf : f < 43) : Y.nthL (rowsC l ++ r) (Nat.add (Nat.add 0 (Nat.mul j 43)) f) = (rowR x)[f]? := by
  obtain ⟨t, ht⟩ := rowsC_drop l j x h
  have hl : j < l.length := (List.getElem?_eq_some_iff.1 h).1
  rw [Y.nthL_eq, show Nat.add (Nat.add 0 (Nat.mul j 43)) f = j * 43 + f by show 0 + j * 43 + f = _; omega, List.getElem?_append_left (by rw [rowsC_len]; omega)]
  have : ((rowsC l).drop (j * 43))[f]? = (rowR x)[f]? := by rw [ht, List.getElem?_append_left (by rw [rowR_len]; exact hf)]
  rw [← this, List.getElem?_drop]
theorem rows_sub {l : List RowT} {j : Nat} {x : RowT} (h : l[j]? = some x) (r : List Value) : Y.subL (rowsC l ++ r) (Nat.add 0 (Nat.mul j 43)) 43 = rowR x := by
  obtain ⟨t, ht⟩ := rowsC_drop l j x h
  have hl : j < l.length := (List.getElem?_eq_some_iff.1 h).1
  rw [Y.subL_eq, show Nat.add 0 (Nat.mul j 43) = j * 43 from Nat.zero_add _, List.drop_append_of_le_length (by rw [rowsC_len]; omega), ht, List.append_assoc]
  exact List.take_left' rfl
theorem rows_ble {l : List RowT} {j : Nat} (h : j < l.length) (r : List Value) : Nat.ble (Nat.add (Nat.add 0 (Nat.mul j 43)) 43) (Y.lenLF (rowsC l ++ r)) = true := by
  rw [Y.lenLF_eq, List.length_append, rowsC_len]
  exact Nat.ble_eq_true_of_le (by show 0 + j * 43 + 43 ≤ _; omega)
theorem blt_t {a b : Nat} (h : a < b) : Nat.blt a b = true := by simpa [Nat.blt_eq] using h
section
variable {l : List RowT} {j : Nat} {x : RowT} (h : l[j]? = some x) (r : List Value)
include h
theorem rows_k : Y.nthL (rowsC l ++ r) (Nat.add (Nat.add 0 (Nat.mul j 43)) 0) = some (.int .i64 x.k) := rows_nth h r (by omega)
theorem rows_w : Y.nthL (rowsC l ++ r) (Nat.add (Nat.add 0 (Nat.mul j 43)) 1) = some (.int .i64 x.w) := rows_nth h r (by omega)
theorem rows_t : Y.nthL (rowsC l ++ r) (Nat.add (Nat.add 0 (Nat.mul j 43)) 2) = some (.int .i64 x.t) := rows_nth h r (by omega)
theorem rows_i : Y.nthL (rowsC l ++ r) (Nat.add (Nat.add 0 (Nat.mul j 43)) 3) = some (.int .i64 x.i) := rows_nth h r (by omega)
theorem rows_e : Y.nthL (rowsC l ++ r) (Nat.add (Nat.add 0 (Nat.mul j 43)) 4) = some (.int .i64 x.e) := rows_nth h r (by omega)
theorem rows_s : Y.nthL (rowsC l ++ r) (Nat.add (Nat.add 0 (Nat.mul j 43)) 5) = some (.int .i64 x.s) := rows_nth h r (by omega)
theorem rows_c : Y.nthL (rowsC l ++ r) (Nat.add (Nat.add 0 (Nat.mul j 43)) 7) = some (.int .i64 x.c) := rows_nth h r (by omega)
theorem rows_y : Y.nthL (rowsC l ++ r) (Nat.add (Nat.add 0 (Nat.mul j 43)) 9) = some (.bool x.y) := rows_nth h r (by omega)
end
theorem asInt_i {α : Type} (k : IntKind) (n : Int) (q : IntKind → Int → Option α) (d : Option α) : Y.asInt (.int k n) q d = q k n := rfl
theorem asBo_b {α : Type} (b : Bool) (q : Bool → Option α) (d : Option α) : Y.asBo (.bool b) q d = q b := rfl
theorem onNat_n {α : Type} (n : Nat) (q : Nat → Option α) : Y.onNat (Int.ofNat n) q = q n := rfl
theorem loopD_next {body : Tmps → Mem → Option (Ex × Tmps × Mem)} {t t' : Tmps} {m m' : Mem} (k : Nat) (h : body t m = some (.normal, t', m')) : loopD body (k + 1) t m = loopD body k t' m' := by simp only [loopD, h]
theorem loopD_stop {body : Tmps → Mem → Option (Ex × Tmps × Mem)} {t t' : Tmps} {m m' : Mem} {e : Ex} (k : Nat) (h : body t m = some (e, t', m')) (he : e ≠ .normal) : loopD body (k + 1) t m = some (e, t', m') := by
  simp only [loopD, h]
  cases e with
  | normal => exact absurd rfl he
  | exit => rfl
  | ret => rfl
end
end Go.Proofs.Ytfpbiojnbffkpaa
namespace Go.Proofs.Ytfpbiojnbffkpaa
open Go Go.DI Go.Proofs Go.Jud
noncomputable section
theorem filt_i {f : FuncId} (n : Int) (m : Mem) (h : okR Try.prog f (.int .i64 n) = true) : filtR Try.prog f (some (.int .i64 n, m)) = some (.int .i64 n, m) := by simp only [filtR, h, cond_true]
theorem onNat_c {α : Type} (n : Nat) (q : Nat → Option α) : Y.onNat (n : Int) q = q n := rfl
theorem wrap_succ {i : Nat} (h : i ≤ 1000000) : IntKind.wrap .i64 (Int.add (i : Int) 1) = ((i + 1 : Nat) : Int) := IntWalk.i64_in _ (by show _ ≤ (i : Int) + 1 ∧ (i : Int) + 1 ≤ _; omega)
theorem lt_len {i n : Nat} (h : i < n) : Y.ltF (i : Int) (Int.ofNat n) = true := ltF_t (by show (i : Int) < (n : Int); omega)
theorem ge_len {i n : Nat} (h : ¬ i < n) : Y.ltF (i : Int) (Int.ofNat n) = false := ltF_f (by show ¬ (i : Int) < (n : Int); omega)
theorem kEq_ii : Y.kEq .i64 .i64 = true := rfl
theorem cells_c {α : Type} (o : Bool) (c : List Value) (q : Bool → List Value → Option α) : Y.cellsOf (.cells o c) q = q o c := rfl
theorem bnot_t : Bool.not true = false := rfl
theorem bnot_f : Bool.not false = true := rfl
theorem row_k (r : RowT) : Y.nthL (rowR r) 0 = some (.int .i64 r.k) := rfl
theorem row_w (r : RowT) : Y.nthL (rowR r) 1 = some (.int .i64 r.w) := rfl
theorem row_t (r : RowT) : Y.nthL (rowR r) 2 = some (.int .i64 r.t) := rfl
theorem row_i (r : RowT) : Y.nthL (rowR r) 3 = some (.int .i64 r.i) := rfl
theorem row_e (r : RowT) : Y.nthL (rowR r) 4 = some (.int .i64 r.e) := rfl
theorem row_s (r : RowT) : Y.nthL (rowR r) 5 = some (.int .i64 r.s) := rfl
theorem row_c (r : RowT) : Y.nthL (rowR r) 7 = some (.int .i64 r.c) := rfl
theorem row_tr (r : RowT) : Y.nthL (rowR r) 8 = some (.int .i64 r.tr) := rfl
theorem row_y (r : RowT) : Y.nthL (rowR r) 9 = some (.bool r.y) := rfl
theorem row_h (r : RowT) : Y.subL (rowR r) 10 32 = hashC r.h := rfl
theorem row_len (r : RowT) : Nat.ble 42 (Y.lenLF (rowR r)) = true := rfl
theorem row_len43 (r : RowT) : Nat.ble 43 (Y.lenLF (rowR r)) = true := rfl
theorem row_all (r : RowT) : Y.subL (rowR r) 0 43 = rowR r := rfl
theorem rows_h {l : List RowT} {j : Nat} {x : RowT} (h : l[j]? = some x) (r : List Value) : Y.subL (rowsC l ++ r) (Nat.add (Nat.add 0 (Nat.mul j 43)) 10) 32 = hashC x.h := by
  obtain ⟨t, ht⟩ := rowsC_drop l j x h
  have hl : j < l.length := (List.getElem?_eq_some_iff.1 h).1
  have e : (rowsC l ++ r).drop (j * 43 + 10) = (rowR x).drop 10 ++ (t ++ r) := by
    rw [← List.drop_drop, List.drop_append_of_le_length (by rw [rowsC_len]; omega), ht, List.append_assoc, List.drop_append_of_le_length (by rw [rowR_len]; omega)]
  rw [Y.subL_eq, show Nat.add (Nat.add 0 (Nat.mul j 43)) 10 = j * 43 + 10 by show 0 + j * 43 + 10 = _; omega, e]
  show List.take 32 (hashC x.h ++ [Value.int .u64 x.v] ++ (t ++ r)) = _
  rw [List.append_assoc]
  exact List.take_left' rfl
theorem rows_hble {l : List RowT} {j : Nat} (h : j < l.length) (r : List Value) : Nat.ble (Nat.add (Nat.add (Nat.add 0 (Nat.mul j 43)) 10) 32) (Y.lenLF (rowsC l ++ r)) = true := by
  rw [Y.lenLF_eq, List.length_append, rowsC_len]
  exact Nat.ble_eq_true_of_le (by show 0 + j * 43 + 10 + 32 ≤ _; omega)
def epochR (l : List RowT) (node : Int) (n : Int) : Int := l.foldl (fun n r => if r.k = 3 ∧ r.w = node then r.e else n) n
def topR (l : List RowT) (n : Int) : Int := l.foldl (fun n r => if r.k = 3 ∧ n < r.e then r.e else n) n
theorem both {β : Type} {s : Option β} {P : β → Prop} {Q : Prop} (h : (∃ a, s = some a ∧ P a) ∨ (s = none ∧ Q)) : (∀ a, s = some a → P a) ∧ (s = none → Q) := by
  rcases h with ⟨a, rfl, h⟩ | ⟨rfl, h⟩
  · exact ⟨fun a' e => (by cases e; exact h), fun e => (by cases e)⟩
  · exact ⟨fun a' e => (by cases e), fun _ => h⟩
def sureS (r : RowT) (st : Int × Bool) (x : RowT) : Option (Int × Bool) :=
  if x.k = 2 then
    if x.i = r.i ∧ (x.t ≠ r.t ∨ hl x.h ≠ hl r.h) then none else
    some (if x.w = r.w then x.i else st.1, if 1 < r.i ∧ x.i = r.i - 1 ∧ r.t < x.t then true else st.2)
  else some st
def sureF (r : RowT) : Int × Bool → List RowT → Option (Int × Bool)
  | st, [] => some st
  | st, x :: l => match sureS r st x with | some st' => sureF r st' l | none => none
def sureR (l : List RowT) (r : RowT) : Int :=
  match sureF r (0, false) l with
  | none => 3
  | some (la, fa) => if r.i ≠ 1 ∧ (r.i < 1 ∨ r.i ≠ IntKind.wrap .i64 (la + 1)) ∨ fa = true then 4 else 0
theorem cfOf_at {α : Type} (df : DFun) (f : FuncId) (a : List Value) (m : Mem) (q : Value → Mem → Option α) : Y.cfOf df f a m q = onV (df f a m) q := rfl
theorem filt_b {f : FuncId} (n : Bool) (m : Mem) (h : okR Try.prog f (.bool n) = true) : filtR Try.prog f (some (.bool n, m)) = some (.bool n, m) := by simp only [filtR, h, cond_true]
structure Ext (m m' : Mem) : Prop where
  size : m.size ≤ m'.size
  get : ∀ j, j < m.size → m'.get j = m.get j
  top : m.top → m'.top
theorem Ext.refl (m : Mem) : Ext m m := ⟨Nat.le_refl _, fun _ _ => rfl, id⟩
theorem Ext.trans {a b c : Mem} (h : Ext a b) (k : Ext b c) : Ext a c := ⟨Nat.le_trans h.size k.size, fun j hj => (k.get j (Nat.lt_of_lt_of_le hj h.size)).trans (h.get j hj), fun t => k.top (h.top t)⟩
theorem Ext.push (m : Mem) (x : Blk) : Ext m (m.push x) := ⟨by simp, fun j hj => Mem.get_push_ne _ (by omega) _, fun t j hj => by
  simp at hj
  rw [Mem.get_push_ne _ (by omega)]; exact t j (by omega)⟩
def countsR (x : RowT) : Bool := decide (x.k = 5) && (x.y && decide (x.c ≠ 61))
def clash1 (r x : RowT) : Prop := countsR x = true ∧ x.w = r.w ∧ x.s = r.s ∧ (x.c ≠ r.c ∨ x.e ≠ r.e ∨ hl x.h ≠ hl r.h)
def clash2 (r x : RowT) : Prop := countsR x = true ∧ r.c = 0 ∧ x.c = 0 ∧ 0 < r.e ∧ x.e = r.e ∧ (x.w ≠ r.w ∨ x.s ≠ r.s)
open Classical in
def toldR (l : List RowT) (r : RowT) : Int :=
  if countsR r = false then 0 else if ∃ x ∈ l, clash1 r x then 10 else if ∃ x ∈ l, clash2 r x then 11 else 0
end
end Go.Proofs.Ytfpbiojnbffkpaa
namespace Go.Proofs.Ytfpbiojnbffkpaa
open Go Go.DI Go.Proofs Go.Jud
noncomputable section
def badH (r x : RowT) : Prop := x.k = 3 ∧ x.e = r.e ∧ hl x.h ≠ hl r.h
def saysYes (e n : Int) (x : RowT) : Prop := x.k = 4 ∧ x.w = n ∧ x.e = e ∧ x.y = true
open Classical in
def swappedR (nodes : Int) (l : List RowT) (r : RowT) : Int :=
  if r.e ≤ epochR l r.w 0 then 5 else
  if ∃ x ∈ l, badH r x then 6 else
  if ∃ n : Int, 1 ≤ n ∧ n ≤ nodes ∧ ¬ ∃ x ∈ l, saysYes r.e n x then 7 else
  if ∃ x ∈ l, x.k = 3 ∧ x.e = r.e then (if r.e ≠ topR l 0 then 8 else 0) else
  if ∃ n : Int, 1 ≤ n ∧ n ≤ nodes ∧ epochR l n 0 ≠ topR l 0 then 8 else
  if r.e ≤ topR l 0 then 8 else 0
open Classical in
def wrongR (nodes : Int) (l : List RowT) (r : RowT) : Int :=
  if (r.k < 1 ∨ 7 < r.k) ∨ ofNode r ∧ (r.w < 1 ∨ nodes < r.w) then 1 else
  if (r.k = 3 ∨ r.k = 4) ∧ r.e < 1 then 1 else
  if r.k = 1 then (if ∃ x ∈ l, x.k = 1 ∧ x.t = r.t ∧ x.w ≠ r.w then 2 else 0) else
  if r.k = 2 then sureR l r else
  if r.k = 3 then swappedR nodes l r else
  if r.k = 4 then (if r.e ≤ epochR l r.w 0 then 9 else if ∃ x ∈ l, x.k = 4 ∧ x.e = r.e ∧ x.y ≠ r.y then 9 else 0) else
  if r.k = 5 then toldR l r else
  if r.k = 6 then (if r.e ≠ epochR l r.w 0 then 12 else if r.c = 0 ∧ (r.e = 0 ∨ r.tr ≠ 0) ∨ r.c = 6 ∧ r.e ≠ 0 then 12 else 0) else 0
def lastR (l : List RowT) (w : Int) : Int := l.foldl (fun n x => if x.k = 2 ∧ x.w = w then x.i else n) 0
structure JInv (nn : Int) (l : List RowT) (S : JS) : Prop where
  nodes : S.n = nn
  led1 : ∀ x ∈ l, x.k = 1 → S.led.get x.t = some x.w
  led2 : ∀ t u, S.led.get t = some u → ∃ x ∈ l, x.k = 1 ∧ x.t = t ∧ x.w = u
  ep : ∀ w : Int, 1 ≤ w → w ≤ nn → S.ep w.toNat = epochR l w 0
  top : S.top = topR l 0
  img1 : ∀ x ∈ l, x.k = 3 → ∃ h, S.images.get x.e = some h ∧ hl h = hl x.h
  img2 : ∀ e h, S.images.get e = some h → ∃ x ∈ l, x.k = 3 ∧ x.e = e ∧ hl h = hl x.h
  yes : ∀ w e, S.yes.get (w, e) ≠ none ↔ ∃ x ∈ l, saysYes e w x
  word1 : ∀ x ∈ l, x.k = 4 → S.word.get x.e = some (wordJ x)
  word2 : ∀ e u, S.word.get e = some u → ∃ x ∈ l, x.k = 4 ∧ x.e = e ∧ u = wordJ x
  ans1 : ∀ x ∈ l, countsR x = true → ∃ a, S.answers.get (x.w, x.s) = some a ∧ a.1 = x.c ∧ a.2.1 = x.e ∧ hl a.2.2 = hl x.h
  ans2 : ∀ q a, S.answers.get q = some a → ∃ x ∈ l, countsR x = true ∧ (x.w, x.s) = q ∧ a.1 = x.c ∧ a.2.1 = x.e ∧ hl a.2.2 = hl x.h
  ask1 : ∀ x ∈ l, countsR x = true → x.c = 0 → 0 < x.e → S.askers.get x.e = some (x.w, x.s)
  ask2 : ∀ e q, S.askers.get e = some q → ∃ x ∈ l, countsR x = true ∧ x.c = 0 ∧ 0 < x.e ∧ x.e = e ∧ (x.w, x.s) = q
  last : ∀ w, (S.last.get w).getD 0 = lastR l w
  last2 : ∀ w v, S.last.get w = some v → 1 ≤ v ∧ v ≤ (S.log.length : Int)
  log1 : ∀ x ∈ l, x.k = 2 → 1 ≤ x.i ∧ ∃ y, S.log[(x.i - 1).toNat]? = some y ∧ y.1 = x.t ∧ hl y.2 = hl x.h
  log2 : ∀ (j : Nat) y, S.log[j]? = some y → ∃ x ∈ l, x.k = 2 ∧ x.i = (j : Int) + 1 ∧ y.1 = x.t ∧ hl y.2 = hl x.h
theorem inv_new (n : Int) : JInv n [] (JS.new n) where
  nodes := rfl
  led1 := fun x h => by simp at h
  led2 := fun t u h => by cases h
  ep := fun _ _ _ => rfl
  top := rfl
  img1 := fun x h => by simp at h
  img2 := fun t u h => by cases h
  yes := fun w e => ⟨fun h => absurd rfl h, fun ⟨x, h, _⟩ => by simp at h⟩
  word1 := fun x h => by simp at h
  word2 := fun t u h => by cases h
  ans1 := fun x h => by simp at h
  ans2 := fun t u h => by cases h
  ask1 := fun x h => by simp at h
  ask2 := fun t u h => by cases h
  last := fun w => rfl
  last2 := fun t u h => by cases h
  log1 := fun x h => by simp at h
  log2 := fun j y h => by simp [JS.new] at h
theorem epochR_snoc (l : List RowT) (x : RowT) (w n : Int) : epochR (l ++ [x]) w n = if x.k = 3 ∧ x.w = w then x.e else epochR l w n := by simp [epochR]
theorem topR_snoc (l : List RowT) (x : RowT) (n : Int) : topR (l ++ [x]) n = if x.k = 3 ∧ topR l n < x.e then x.e else topR l n := by
  unfold topR; rw [List.foldl_append]; rfl
theorem lastR_snoc (l : List RowT) (x : RowT) (w : Int) : lastR (l ++ [x]) w = if x.k = 2 ∧ x.w = w then x.i else lastR l w := by simp [lastR]
theorem ex_snoc {l : List RowT} {r : RowT} {p : RowT → Prop} : (∃ x ∈ l ++ [r], p x) ↔ (∃ x ∈ l, p x) ∨ p r := by
  constructor
  · rintro ⟨x, hx, hp⟩
    rcases List.mem_append.1 hx with h | h
    · exact .inl ⟨x, h, hp⟩
    · simp at h; subst h; exact .inr hp
  · rintro (⟨x, hx, hp⟩ | hp)
    · exact ⟨x, List.mem_append_left _ hx, hp⟩
    · exact ⟨r, by simp, hp⟩
def o10 (S : JS) (r : RowT) : Bool := match S.answers.get (r.w, r.s) with | some x => !(decide (x.1 = r.c) && (decide (x.2.1 = r.e) && decide (hl x.2.2 = hl r.h))) | none => false
def o11 (S : JS) (r : RowT) : Bool := match S.askers.get r.e with | some x => !decide (x = (r.w, r.s)) | none => false
section
variable {n : Int} {l : List RowT} {S : JS} {r : RowT} (h : JInv n l S)
include h
open Classical in
theorem led_law (hk : r.k = 1) : (ledJ S r).1 = (if ∃ x ∈ l, x.k = 1 ∧ x.t = r.t ∧ x.w ≠ r.w then 2 else 0) := by
  unfold ledJ
  cases hg : S.led.get r.t with
  | none =>
    rw [if_neg]
    rintro ⟨x, hx, h1, h2, _⟩
    have := h.led1 x hx h1
    rw [h2, hg] at this; cases this
  | some u =>
    by_cases hu : u = r.w
    · simp only [hu, ne_eq, not_true_eq_false, if_false]
      rw [if_neg]
      rintro ⟨x, hx, h1, h2, h3⟩
      have := h.led1 x hx h1
      rw [h2, hg] at this
      cases this
      exact h3 hu
    · simp only [ne_eq, hu, not_false_eq_true, if_true]
      obtain ⟨x, hx, h1, h2, h3⟩ := h.led2 _ _ hg
      rw [if_pos ⟨x, hx, h1, h2, by rw [h3]; exact hu⟩]
open Classical in
theorem ack_law (hw : 1 ≤ r.w ∧ r.w ≤ n) : (ackJ S r).1 = (if r.e ≤ epochR l r.w 0 then 9 else if ∃ x ∈ l, x.k = 4 ∧ x.e = r.e ∧ x.y ≠ r.y then 9 else 0) := by
  unfold ackJ
  rw [h.ep r.w hw.1 hw.2]
  by_cases g : r.e ≤ epochR l r.w 0
  · rw [if_pos g, if_pos g]
  rw [if_neg g, if_neg g]
  have wne : ∀ x : RowT, wordJ x ≠ 0 := fun x => by unfold wordJ; split <;> omega
  have weq : ∀ x : RowT, wordJ x = wordJ r ↔ x.y = r.y := fun x => by
    unfold wordJ
    cases x.y <;> cases r.y <;> simp
  cases hg : S.word.get r.e with
  | none =>
    have hn : ¬ ∃ x ∈ l, x.k = 4 ∧ x.e = r.e ∧ x.y ≠ r.y := by
      rintro ⟨x, hx, h1, h2, _⟩
      have := h.word1 x hx h1
      rw [h2, hg] at this; cases this
    rw [if_neg (by simp), if_neg hn]
  | some u =>
    obtain ⟨x, hx, h1, h2, rfl⟩ := h.word2 _ _ hg
    by_cases hy : x.y = r.y
    · have hn : ¬ ∃ x ∈ l, x.k = 4 ∧ x.e = r.e ∧ x.y ≠ r.y := by
        rintro ⟨z, hz, g1, g2, g3⟩
        have := h.word1 z hz g1
        rw [g2, hg] at this
        have e := (weq z).1 ((Option.some.inj this).symm.trans ((weq x).2 hy))
        exact g3 e
      rw [if_neg (by simp [(weq x).2 hy]), if_neg hn]
    · have : wordJ x ≠ wordJ r := fun e => hy ((weq x).1 e)
      rw [if_pos (by simp [wne x, this]), if_pos ⟨x, hx, h1, h2, hy⟩]
theorem jud_law (hw : 1 ≤ r.w ∧ r.w ≤ n) : (judJ S r).1 = (if r.e ≠ epochR l r.w 0 then 12 else if r.c = 0 ∧ (r.e = 0 ∨ r.tr ≠ 0) ∨ r.c = 6 ∧ r.e ≠ 0 then 12 else 0) := by
  unfold judJ
  rw [h.ep r.w hw.1 hw.2]
  by_cases g : r.e ≠ epochR l r.w 0
  · rw [if_pos (.inl g), if_pos g]
  · rw [if_neg g]
    by_cases g2 : r.c = 0 ∧ (r.e = 0 ∨ r.tr ≠ 0) ∨ r.c = 6 ∧ r.e ≠ 0
    · rw [if_pos (.inr g2), if_pos g2]
    · rw [if_neg (fun e => e.elim g g2), if_neg g2]
omit h in
theorem toldJ_eq : toldJ S r = (if r.y = false ∨ r.c = 61 then (0, S) else if o10 S r = true then (10, S) else if (propJ r && o11 S r) = true then (11, S) else
  (0, { S with answers := S.answers.put (r.w, r.s) (r.c, r.e, r.h), askers := if propJ r = true then S.askers.put r.e (r.w, r.s) else S.askers })) := rfl
open Classical in
theorem told_law (hk : r.k = 5) : (toldJ S r).1 = toldR l r := by
  have hcr : countsR r = (r.y && decide (r.c ≠ 61)) := by unfold countsR; rw [decide_eq_true hk]; rfl
  rw [toldJ_eq]
  unfold toldR
  by_cases h0 : r.y = false ∨ r.c = 61
  · rw [if_pos h0, if_pos]
    rw [hcr]
    rcases h0 with h0 | h0
    · rw [h0]; rfl
    · rw [decide_eq_false (fun g => g h0)]; cases r.y <;> rfl
  have hc : countsR r ≠ false := by
    rw [hcr]
    have h1 : r.y = true := by cases hy : r.y with | true => rfl | false => exact absurd (.inl hy) h0
    rw [h1, decide_eq_true (show r.c ≠ 61 from fun g => h0 (.inr g))]; simp
  rw [if_neg h0, if_neg hc]
  have k10 : (o10 S r = true) ↔ ∃ x ∈ l, clash1 r x := by
    unfold o10
    cases hg : S.answers.get (r.w, r.s) with
    | none =>
      refine ⟨fun e => (by cases e), ?_⟩
      rintro ⟨x, hx, c1, c2, c3, _⟩
      obtain ⟨a, ha, _⟩ := h.ans1 x hx c1
      rw [c2, c3, hg] at ha; cases ha
    | some a =>
      obtain ⟨x, hx, c1, c2, a1, a2, a3⟩ := h.ans2 _ _ hg
      have c2' : x.w = r.w ∧ x.s = r.s := by simpa using c2
      constructor
      · intro e
        refine ⟨x, hx, c1, c2'.1, c2'.2, ?_⟩
        by_cases e1 : x.c = r.c
        · by_cases e2 : x.e = r.e
          · by_cases e3 : hl x.h = hl r.h
            · simp [a1, a2, a3, e1, e2, e3] at e
            · exact .inr (.inr e3)
          · exact .inr (.inl e2)
        · exact .inl e1
      · rintro ⟨z, hz, d1, d2, d3, d4⟩
        obtain ⟨a', ha', b1, b2, b3⟩ := h.ans1 z hz d1
        rw [d2, d3, hg] at ha'
        cases ha'
        rcases d4 with g | g | g
        · have : ¬ a.1 = r.c := fun e => g (b1.symm.trans e)
          simp [this]
        · have : ¬ a.2.1 = r.e := fun e => g (b2.symm.trans e)
          simp [this]
        · have : ¬ hl a.2.2 = hl r.h := fun e => g (b3.symm.trans e)
          simp [this]
  by_cases g10 : ∃ x ∈ l, clash1 r x
  · rw [if_pos (k10.2 g10), if_pos g10]
  rw [if_neg (fun e => g10 (k10.1 e)), if_neg g10]
  have k11 : ((propJ r && o11 S r) = true) ↔ ∃ x ∈ l, clash2 r x := by
    unfold o11
    by_cases hp : r.c = 0 ∧ 0 < r.e
    · have hp' : propJ r = true := by unfold propJ; rw [decide_eq_true hp.1, decide_eq_true hp.2]; rfl
      rw [hp', Bool.true_and]
      cases hg : S.askers.get r.e with
      | none =>
        refine ⟨fun e => (by cases e), ?_⟩
        rintro ⟨x, hx, c1, c2, c3, c4, c5, _⟩
        have := h.ask1 x hx c1 c3 (by rw [c5]; exact c4)
        rw [c5, hg] at this; cases this
      | some q =>
        obtain ⟨x, hx, c1, c2, c3, c4, c5⟩ := h.ask2 _ _ hg
        constructor
        · intro e
          refine ⟨x, hx, c1, hp.1, c2, hp.2, c4, ?_⟩
          have e' : ¬ q = (r.w, r.s) := by simpa using e
          rw [← c5] at e'
          by_cases e1 : x.w = r.w
          · right; intro e2; exact e' (by rw [e1, e2])
          · exact .inl e1
        · rintro ⟨z, hz, d1, d2, d3, d4, d5, d6⟩
          have := h.ask1 z hz d1 d3 (by rw [d5]; exact d4)
          rw [d5, hg] at this
          cases this
          have : ¬ (z.w, z.s) = (r.w, r.s) := fun e => by
            have e' : z.w = r.w ∧ z.s = r.s := by simpa using e
            exact d6.elim (fun g => g e'.1) (fun g => g e'.2)
          simp [this]
    · have hp' : propJ r = false := by
        unfold propJ
        by_cases h1 : r.c = 0
        · rw [decide_eq_true h1, decide_eq_false (fun g => hp ⟨h1, g⟩)]; rfl
        · rw [decide_eq_false h1]; rfl
      rw [hp', Bool.false_and]
      refine ⟨fun e => (by cases e), ?_⟩
      rintro ⟨z, hz, d1, d2, d3, d4, d5, d6⟩
      exact absurd ⟨d2, d4⟩ hp
  by_cases g11 : ∃ x ∈ l, clash2 r x
  · rw [if_pos (k11.2 g11), if_pos g11]
  · rw [if_neg (fun e => g11 (k11.1 e)), if_neg g11]
omit h in
theorem yeses_iff (S : JS) (e : Int) : ∀ m : Nat, yesesJ S e m = true ↔ ∀ j : Nat, j < m → S.yes.get ((j : Int) + 1, e) ≠ none
  | 0 => ⟨fun _ j hj => absurd hj (Nat.not_lt_zero _), fun _ => rfl⟩
  | m + 1 => by
    have ih := yeses_iff S e m
    simp only [yesesJ, Bool.and_eq_true, ih]
    constructor
    · rintro ⟨h1, h2⟩ j hj
      by_cases e1 : j = m
      · subst e1; intro g; rw [g] at h2; cases h2
      · exact h1 j (by omega)
    · intro h1
      refine ⟨fun j hj => h1 j (by omega), ?_⟩
      have := h1 m (by omega)
      cases hg : S.yes.get ((m : Int) + 1, e) with
      | none => exact absurd hg this
      | some _ => rfl
omit h in
theorem even_iff (S : JS) : ∀ m : Nat, evenJ S m = true ↔ ∀ j : Nat, j < m → S.ep (j + 1) = S.top
  | 0 => ⟨fun _ j hj => absurd hj (Nat.not_lt_zero _), fun _ => rfl⟩
  | m + 1 => by
    have ih := even_iff S m
    simp only [evenJ, Bool.and_eq_true, ih, decide_eq_true_eq]
    constructor
    · rintro ⟨h1, h2⟩ j hj
      by_cases e1 : j = m
      · subst e1; exact h2
      · exact h1 j (by omega)
    · exact fun h1 => ⟨fun j hj => h1 j (by omega), h1 m (by omega)⟩
def o6 (S : JS) (r : RowT) : Bool := match S.images.get r.e with | some h => !decide (hl h = hl r.h) | none => false
def o8 (S : JS) (r : RowT) : Bool := match S.images.get r.e with | some _ => !decide (r.e = S.top) | none => !evenJ S S.n.toNat || decide (r.e ≤ S.top)
omit h in
theorem swapJ_eq : swapJ S r = (if r.e ≤ S.ep r.w.toNat then (5, S) else if o6 S r = true then (6, S) else if yesesJ S r.e S.n.toNat = false then (7, S) else if o8 S r = true then (8, S) else
  (0, { S with ep := fun j => if j = r.w.toNat then r.e else S.ep j, images := S.images.put r.e r.h, top := if r.e > S.top then r.e else S.top })) := rfl
open Classical in
theorem swap_law (hn : 1 ≤ n) (hw : 1 ≤ r.w ∧ r.w ≤ n) : (swapJ S r).1 = swappedR n l r := by
  rw [swapJ_eq]
  unfold swappedR
  rw [h.ep r.w hw.1 hw.2]
  by_cases g5 : r.e ≤ epochR l r.w 0
  · rw [if_pos g5, if_pos g5]
  rw [if_neg g5, if_neg g5]
  have k6 : o6 S r = true ↔ ∃ x ∈ l, badH r x := by
    unfold o6
    cases hg : S.images.get r.e with
    | none =>
      refine ⟨fun e => (by cases e), ?_⟩
      rintro ⟨x, hx, c1, c2, _⟩
      obtain ⟨a, ha, _⟩ := h.img1 x hx c1
      rw [c2, hg] at ha; cases ha
    | some a =>
      obtain ⟨x, hx, c1, c2, c3⟩ := h.img2 _ _ hg
      constructor
      · intro e
        have e' : ¬ hl a = hl r.h := by simpa using e
        exact ⟨x, hx, c1, c2, by rw [← c3]; exact e'⟩
      · rintro ⟨z, hz, d1, d2, d3⟩
        obtain ⟨a', ha', b1⟩ := h.img1 z hz d1
        rw [d2, hg] at ha'
        cases ha'
        show (!decide (hl a = hl r.h)) = true
        rw [b1]
        simpa using d3
  by_cases g6 : ∃ x ∈ l, badH r x
  · rw [if_pos (k6.2 g6), if_pos g6]
  rw [if_neg (fun e => g6 (k6.1 e)), if_neg g6]
  have hnn := h.nodes
  have k7 : yesesJ S r.e S.n.toNat = false ↔ ∃ n' : Int, 1 ≤ n' ∧ n' ≤ n ∧ ¬ ∃ x ∈ l, saysYes r.e n' x := by
    constructor
    · intro e
      have hne : ¬ ∀ j : Nat, j < S.n.toNat → S.yes.get ((j : Int) + 1, r.e) ≠ none := fun g => by
        rw [(yeses_iff S r.e S.n.toNat).2 g] at e; cases e
      by_cases g : ∃ j : Nat, j < S.n.toNat ∧ S.yes.get ((j : Int) + 1, r.e) = none
      · obtain ⟨j, hj, hg⟩ := g
        exact ⟨(j : Int) + 1, by omega, by omega, fun hx => (h.yes _ _).2 hx hg⟩
      · exact absurd (fun j hj e' => g ⟨j, hj, e'⟩) hne
    · rintro ⟨n', h1, h2, h3⟩
      cases hy : yesesJ S r.e S.n.toNat with
      | false => rfl
      | true =>
        have := (yeses_iff S r.e S.n.toNat).1 hy (n' - 1).toNat (by omega)
        rw [show (((n' - 1).toNat : Nat) : Int) + 1 = n' by omega] at this
        exact absurd ((h.yes _ _).1 this) h3
  by_cases g7 : ∃ n' : Int, 1 ≤ n' ∧ n' ≤ n ∧ ¬ ∃ x ∈ l, saysYes r.e n' x
  · rw [if_pos (k7.2 g7), if_pos g7]
  rw [if_neg (fun e => g7 (k7.1 e)), if_neg g7]
  have kk : (∃ x ∈ l, x.k = 3 ∧ x.e = r.e) ↔ S.images.get r.e ≠ none := by
    constructor
    · rintro ⟨x, hx, c1, c2⟩ e
      obtain ⟨a, ha, _⟩ := h.img1 x hx c1
      rw [c2, e] at ha; cases ha
    · intro e
      cases hg : S.images.get r.e with
      | none => exact absurd hg e
      | some a =>
        obtain ⟨x, hx, c1, c2, _⟩ := h.img2 _ _ hg
        exact ⟨x, hx, c1, c2⟩
  unfold o8
  rw [h.top]
  cases hg : S.images.get r.e with
  | some a =>
    rw [if_pos (kk.2 (by rw [hg]; simp))]
    simp only
    by_cases e1 : r.e = topR l 0
    · rw [decide_eq_true e1, if_neg (by simp), if_neg (show ¬ (r.e ≠ topR l 0) from fun g => g e1)]
    · rw [decide_eq_false e1, if_pos (by simp), if_pos e1]
  | none =>
    rw [if_neg (fun g => kk.1 g hg)]
    simp only
    have k8 : evenJ S S.n.toNat = true ↔ ¬ ∃ n' : Int, 1 ≤ n' ∧ n' ≤ n ∧ epochR l n' 0 ≠ topR l 0 := by
      rw [even_iff]
      constructor
      · rintro g ⟨n', h1, h2, h3⟩
        have := g (n' - 1).toNat (by omega)
        rw [show (n' - 1).toNat + 1 = n'.toNat by omega, h.ep n' h1 h2, h.top] at this
        exact h3 this
      · intro g j hj
        have := h.ep ((j : Int) + 1) (by omega) (by omega)
        rw [show ((j : Int) + 1).toNat = j + 1 by omega] at this
        rw [this, h.top]
        by_cases e1 : epochR l ((j : Int) + 1) 0 = topR l 0
        · exact e1
        · exact absurd ⟨(j : Int) + 1, by omega, by omega, e1⟩ g
    by_cases g8 : ∃ n' : Int, 1 ≤ n' ∧ n' ≤ n ∧ epochR l n' 0 ≠ topR l 0
    · have : evenJ S S.n.toNat = false := by
        cases hev : evenJ S S.n.toNat with
        | false => rfl
        | true => exact absurd g8 (k8.1 hev)
      rw [this, if_pos (show (!false || decide (r.e ≤ topR l 0)) = true from rfl), if_pos g8]
    · rw [k8.2 g8, if_neg g8]
      by_cases e1 : r.e ≤ topR l 0
      · rw [decide_eq_true e1, if_pos (by simp), if_pos e1]
      · rw [decide_eq_false e1, if_neg (by simp), if_neg e1]
def badS (r x : RowT) : Prop := x.k = 2 ∧ x.i = r.i ∧ (x.t ≠ r.t ∨ hl x.h ≠ hl r.h)
def fallS (r x : RowT) : Prop := x.k = 2 ∧ 1 < r.i ∧ x.i = r.i - 1 ∧ r.t < x.t
omit h in
theorem sureS_none (r x : RowT) (st : Int × Bool) : sureS r st x = none ↔ badS r x := by
  unfold sureS badS
  by_cases h1 : x.k = 2
  · rw [if_pos h1]
    by_cases h2 : x.i = r.i ∧ (x.t ≠ r.t ∨ hl x.h ≠ hl r.h)
    · rw [if_pos h2]; exact ⟨fun _ => ⟨h1, h2⟩, fun _ => rfl⟩
    · rw [if_neg h2]; exact ⟨fun e => (by cases e), fun e => absurd e.2 h2⟩
  · rw [if_neg h1]; exact ⟨fun e => (by cases e), fun e => absurd e.1 h1⟩
omit h in
open Classical in
theorem sureS_some {r x : RowT} (hb : ¬ badS r x) (st : Int × Bool) : sureS r st x = some (if x.k = 2 ∧ x.w = r.w then x.i else st.1, if fallS r x then true else st.2) := by
  unfold sureS
  by_cases h1 : x.k = 2
  · rw [if_pos h1, if_neg (fun g => hb ⟨h1, g⟩)]
    congr 2
    · by_cases h2 : x.w = r.w
      · rw [if_pos h2, if_pos ⟨h1, h2⟩]
      · rw [if_neg h2, if_neg (fun g => h2 g.2)]
    · by_cases h2 : 1 < r.i ∧ x.i = r.i - 1 ∧ r.t < x.t
      · rw [if_pos h2, if_pos (show fallS r x from ⟨h1, h2⟩)]
      · rw [if_neg h2, if_neg (show ¬ fallS r x from fun g => h2 g.2)]
  · rw [if_neg h1, if_neg (fun g => h1 g.1), if_neg (show ¬ fallS r x from fun g => h1 g.1)]
omit h in
open Classical in
theorem sureF_eq (r : RowT) : ∀ (l : List RowT) (st : Int × Bool), sureF r st l = if ∃ x ∈ l, badS r x then none else some (l.foldl (fun n x => if x.k = 2 ∧ x.w = r.w then x.i else n) st.1, if ∃ x ∈ l, fallS r x then true else st.2)
  | [], st => by
    rw [if_neg (by rintro ⟨x, hx, _⟩; simp at hx), if_neg (by rintro ⟨x, hx, _⟩; simp at hx)]
    rfl
  | x :: l, st => by
    simp only [sureF]
    by_cases hb : badS r x
    · rw [(sureS_none r x st).2 hb, if_pos ⟨x, by simp, hb⟩]
    · rw [sureS_some hb]
      simp only
      rw [sureF_eq r l]
      have hE : ∀ (p : RowT → Prop), ¬ p x → ((∃ y ∈ x :: l, p y) ↔ ∃ y ∈ l, p y) := fun p hp => by
        constructor
        · rintro ⟨y, hy, hpy⟩
          rcases List.mem_cons.1 hy with rfl | hy
          · exact absurd hpy hp
          · exact ⟨y, hy, hpy⟩
        · rintro ⟨y, hy, hpy⟩; exact ⟨y, List.mem_cons_of_mem _ hy, hpy⟩
      by_cases hbl : ∃ y ∈ l, badS r y
      · rw [if_pos hbl, if_pos ((hE _ hb).2 hbl)]
      · rw [if_neg hbl, if_neg (fun g => hbl ((hE _ hb).1 g))]
        congr 2
        by_cases hf : fallS r x
        · rw [if_pos hf, if_pos (show ∃ y ∈ x :: l, fallS r y from ⟨x, by simp, hf⟩)]
          split <;> rfl
        · rw [if_neg hf]
          by_cases hfl : ∃ y ∈ l, fallS r y
          · rw [if_pos hfl, if_pos ((hE _ hf).2 hfl)]
          · rw [if_neg hfl, if_neg (fun g => hfl ((hE _ hf).1 g))]
open Classical in
theorem sure_law (hlog : S.log.length ≤ 1000000) (hi : -9223372036854775808 ≤ r.i ∧ r.i ≤ 9223372036854775807) : (sureJ S r).1 = sureR l r := by
  unfold sureR sureJ
  rw [sureF_eq]
  have k3 : (thereJ S r && otherJ S r) = true ↔ ∃ x ∈ l, badS r x := by
    unfold thereJ otherJ
    constructor
    · intro e
      simp only [Bool.and_eq_true, decide_eq_true_eq] at e
      obtain ⟨⟨e1, e2⟩, e3⟩ := e
      cases hg : S.log[(r.i - 1).toNat]? with
      | none => rw [hg] at e3; cases e3
      | some y =>
        rw [hg] at e3
        obtain ⟨x, hx, c1, c2, c3, c4⟩ := h.log2 _ _ hg
        refine ⟨x, hx, c1, by omega, ?_⟩
        by_cases d1 : x.t = r.t
        · by_cases d2 : hl x.h = hl r.h
          · simp [c3, c4, d1, d2] at e3
          · exact .inr d2
        · exact .inl d1
    · rintro ⟨x, hx, c1, c2, c3⟩
      obtain ⟨b1, y, hy, y1, y2⟩ := h.log1 x hx c1
      rw [c2] at b1 hy
      have hlt := (List.getElem?_eq_some_iff.1 hy).1
      have t1 : decide (1 ≤ r.i) = true := decide_eq_true b1
      have t2 : decide (r.i ≤ (S.log.length : Int)) = true := decide_eq_true (by omega)
      rw [t1, t2, hy]
      rcases c3 with c3 | c3
      · have : ¬ y.1 = r.t := fun e => c3 (y1.symm.trans e)
        simp [this]
      · have : ¬ hl y.2 = hl r.h := fun e => c3 (y2.symm.trans e)
        simp [this]
  by_cases g3 : ∃ x ∈ l, badS r x
  · rw [if_pos (k3.2 g3), if_pos g3]
  rw [if_neg (fun e => g3 (k3.1 e)), if_neg g3]
  have hlast : (l.foldl (fun n x => if x.k = 2 ∧ x.w = r.w then x.i else n) (0 : Int)) = (S.last.get r.w).getD 0 := (h.last r.w).symm
  simp only [hlast]
  have hr : 0 ≤ (S.last.get r.w).getD 0 ∧ (S.last.get r.w).getD 0 ≤ (S.log.length : Int) := by
    cases hg : S.last.get r.w with
    | none => simp
    | some v => have := h.last2 _ _ hg; simp; omega
  have hw : IntKind.wrap .i64 ((S.last.get r.w).getD 0 + 1) = (S.last.get r.w).getD 0 + 1 := IntWalk.i64_in _ (by omega)
  rw [hw]
  by_cases g4 : r.i ≠ 1 ∧ r.i - 1 ≠ (S.last.get r.w).getD 0
  · rw [if_pos g4, if_pos (.inl ⟨g4.1, .inr (by omega)⟩)]
  rw [if_neg g4]
  by_cases g5 : r.i < 1
  · rw [if_pos g5, if_pos (.inl ⟨by omega, .inl g5⟩)]
  rw [if_neg g5]
  have kf : (1 < r.i ∧ fallsJ S r = true) ↔ ∃ x ∈ l, fallS r x := by
    unfold fallsJ
    constructor
    · rintro ⟨e1, e2⟩
      cases hg : S.log[(r.i - 2).toNat]? with
      | none => rw [hg] at e2; cases e2
      | some y =>
        rw [hg] at e2
        obtain ⟨x, hx, c1, c2, c3, c4⟩ := h.log2 _ _ hg
        exact ⟨x, hx, c1, e1, by omega, by rw [← c3]; simpa using e2⟩
    · rintro ⟨x, hx, c1, c2, c3, c4⟩
      obtain ⟨b1, y, hy, y1, y2⟩ := h.log1 x hx c1
      rw [show x.i - 1 = r.i - 2 by omega] at hy
      rw [hy]
      exact ⟨c2, show decide (r.t < y.1) = true by rw [y1]; exact decide_eq_true c4⟩
  by_cases gf : ∃ x ∈ l, fallS r x
  · rw [if_pos (kf.2 gf), if_pos gf, if_pos (.inr rfl)]
  · have hneg : ¬ (r.i ≠ 1 ∧ (r.i < 1 ∨ r.i ≠ (S.last.get r.w).getD 0 + 1) ∨ false = true) := by
      rintro (⟨e1, e2 | e2⟩ | e)
      · exact g5 e2
      · exact g4 ⟨e1, fun e => e2 (by omega)⟩
      · cases e
    rw [if_neg (fun e => gf (kf.1 e)), if_neg gf, if_neg hneg]
end
end
end Go.Proofs.Ytfpbiojnbffkpaa
