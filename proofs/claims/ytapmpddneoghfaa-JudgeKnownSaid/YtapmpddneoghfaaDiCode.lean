/-
  DiCode: what the interpreter answers of code, the model answers.
-/
import Derived.Test.YtapmpddneoghfaaDiRun
namespace Go.DI
section
variable {P : Program} {K : TypeId → Bool} {G B0 n : Nat} {ι : Ren} {m : Mem} {w : World} {t : Tmps} {a : Act}

abbrev CallF := FuncId → List Value → Mem → Option (Value × Mem)

/-- What a call's answer is worth. -/
def CallOK (P : Program) (B0 G : Nat) (f : FuncId) (args : List Value) (m : Mem) (v : Value) (m' : Mem) : Prop :=
  ∀ (ι : Ren) (w : World) (args' : List Value), Rel B0 G ι m w → Fresh ι m.size m'.size → VRels ι args args' →
    Calls P f args'.toArray w fun e w' => ∃ v' ι', e = .returned v' ∧ VRel ι' v v' ∧ Rel B0 G ι' m' w' ∧ Stp ι ι' m m' w w'

structure CfOK (P : Program) (B0 G : Nat) (cf : CallF) : Prop where
  size : ∀ f args m v m', cf f args m = some (v, m') → m.size ≤ m'.size
  ok : ∀ f args m v m', cf f args m = some (v, m') → CallOK P B0 G f args m v m'
  body : ∀ f args m v m', cf f args m = some (v, m') → ∃ fn, P.funcs[f]? = some fn ∧ fn.body.isNone = false ∧ (fn.name == "runtime.NumGoroutine") = false

theorem storeC_size {b off : Nat} {vs : List Value} {m' : Mem} (h : storeC m b off vs = some m') : m'.size = m.size := by
  unfold storeC at h
  split at h <;> try (simp at h; done)
  split at h <;> try (simp at h; done)
  split at h <;> simp at h
  subst h; rfl
theorem storeD_size {s : TypeId} {x v : Value} {m' : Mem} (h : storeD P m s v x = some m') : m'.size = m.size := by
  unfold storeD at h
  split at h <;> try (simp at h; done)
  split at h <;> try (simp at h; done)
  split at h <;> try (simp at h; done)
  exact storeC_size h
theorem mapUpdateD_size {s : TypeId} {x k v : Value} {m' : Mem} (h : mapUpdateD P K m s x k v = some m') : m'.size = m.size := by
  unfold mapUpdateD at h
  split at h <;> try (simp at h; done)
  split at h <;> try (simp at h; done)
  split at h <;> try (simp at h; done)
  split at h <;> try (simp at h; done)
  split at h <;> try (simp at h; done)
  · split at h <;> try (simp at h; done)
    split at h <;> simp at h
    subst h; rfl
  · simp at h; subst h; rfl
theorem appendD_size {tS tX : TypeId} {s x v : Value} {m' : Mem} (h : appendD P m tS tX s x = some (v, m')) : m.size ≤ m'.size := by
  unfold appendD at h
  split at h <;> try (simp at h; done)
  split at h <;> try (simp at h; done)
  split at h <;> try (simp at h; done)
  split at h <;> try (simp at h; done)
  split at h
  · split at h
    · split at h <;> simp at h
      rw [h.2]; exact Nat.le_refl _
    · split at h
      · simp at h; rw [h.2]; exact Nat.le_refl _
      · split at h <;> simp at h
        rename_i hst
        rw [← h.2, storeC_size hst]; exact Nat.le_refl _
  · split at h <;> try (simp at h; done)
    split at h <;> try (simp at h; done)
    split at h <;> try (simp at h; done)
    split at h
    · split at h <;> try (simp at h; done)
      split at h <;> simp at h
      rw [← h.2]; simp
    · simp at h; rw [← h.2]; simp
theorem copyD_size {tD : TypeId} {s x v : Value} {m' : Mem} (h : copyD P m tD s x = some (v, m')) : m.size ≤ m'.size := by
  unfold copyD at h
  split at h <;> try (simp at h; done)
  split at h <;> try (simp at h; done)
  split at h <;> try (simp at h; done)
  split at h <;> try (simp at h; done)
  split at h
  · simp at h; rw [h.2]; exact Nat.le_refl _
  · split at h
    · simp at h; rw [h.2]; exact Nat.le_refl _
    · split at h <;> simp at h
      rename_i hst
      rw [← h.2, storeC_size hst]; exact Nat.le_refl _
theorem convD_size {s d : TypeId} {x v : Value} {m' : Mem} (h : convD P m s d x = some (v, m')) : m.size ≤ m'.size := by
  unfold convD at h
  split at h <;> try (simp at h; done)
  · split at h <;> simp at h
    rw [h.2]; exact Nat.le_refl _
  · split at h <;> simp at h
    rw [h.2]; exact Nat.le_refl _
  · split at h <;> simp at h
    rw [← h.2]; simp
  · split at h <;> try (simp at h; done)
    split at h <;> try (simp at h; done)
    · simp at h; rw [h.2]; exact Nat.le_refl _
    · split at h <;> try (simp at h; done)
      split at h <;> simp at h
      rw [h.2]; exact Nat.le_refl _

theorem heavyD_size {cf : CallF} (hcf : ∀ f args m v m', cf f args m = some (v, m') → m.size ≤ m'.size) {o : Op} {v : Value} {m' : Mem} (h : heavyD P K G cf t m o = some (v, m')) : m.size ≤ m'.size := by
  unfold heavyD at h
  split at h <;> try (simp at h; done)
  · split at h <;> try (simp at h; done)
    split at h <;> simp at h
    rename_i hs
    rw [← h.2, storeD_size hs]; exact Nat.le_refl _
  · split at h <;> try (simp at h; done)
    split at h <;> simp at h
    rename_i hs
    rw [← h.2, mapUpdateD_size hs]; exact Nat.le_refl _
  · split at h <;> try (simp at h; done)
    split at h <;> simp at h
    rename_i hs
    rw [← h.2, mapUpdateD_size hs]; exact Nat.le_refl _
  · split at h <;> try (simp at h; done)
    exact convD_size h
  · split at h <;> try (simp at h; done)
    split at h <;> try (simp at h; done)
    exact appendD_size h
  · split at h <;> try (simp at h; done)
    split at h <;> try (simp at h; done)
    exact copyD_size h
  · split at h <;> try (simp at h; done)
    exact hcf _ _ _ _ _ h

theorem opD_size {cf : CallF} (hcf : ∀ f args m v m', cf f args m = some (v, m') → m.size ≤ m'.size) {o : Op} {v : Value} {m' : Mem} (h : opD P K G cf t m o = some (v, m')) : m.size ≤ m'.size := by
  unfold opD at h
  split at h
  · split at h <;> simp at h
    rw [h.2]; exact Nat.le_refl _
  · split at h <;> simp at h
    rw [← h.2]; simp
  · exact heavyD_size hcf h

/-- A heavy operation, in the walk's own words. -/
theorem heavy_wp (hK : Plain P K) {cf : CallF} (hcf : CfOK P B0 G cf) (hr : Rel B0 G ι m w) (ht : TRel ι n t a) {o : Oper} {v : Value} {m' : Mem} (h : heavyD P K G cf t m o.op = some (v, m')) (hf : Fresh ι m.size m'.size)
    {next : Act → World → Prop} {Q : Exit → Act → World → Prop} (hnext : ∀ ι' v' w', VRel ι' v v' → Rel B0 G ι' m' w' → Stp ι ι' m m' w w' → next (a.put o.dst v') w') : o.wp P a w next Q := by
  have hn : m.size < m'.size → ι m.size = none := fun h => hf _ (Nat.le_refl _) h
  unfold Oper.wp
  unfold heavyD at h
  split at h <;> try (simp at h; done)
  · rename_i ty x y ho
    split at h <;> try (simp at h; done)
    rename_i u1 u2 h1 h2
    split at h <;> simp at h
    rename_i m₁ hs
    obtain ⟨rfl, rfl⟩ := h
    obtain ⟨w', g1, g2, g3⟩ := storeD_ok (P := P) hr (ev_rel hr ht h1) (ev_rel hr ht h2) hs
    simp only [execOp, ho, Sem.run_bind, g1, Result.andThen_ok, Sem.run_pure]
    exact hnext ι _ w' (VRel.undef _) g2 g3
  · rename_i ty x k y ho
    split at h <;> try (simp at h; done)
    rename_i u1 u2 u3 h1 h2 h3
    split at h <;> simp at h
    rename_i m₁ hs
    obtain ⟨rfl, rfl⟩ := h
    obtain ⟨w', g1, g2, g3⟩ := mapUpdateD_ok (P := P) hK hr (ev_rel hr ht h1) (ev_rel hr ht h2) (ev_rel hr ht h3) hs
    simp only [execOp, ho, Sem.run_bind, g1, Result.andThen_ok, Sem.run_pure]
    exact hnext ι _ w' (VRel.undef _) g2 g3
  · rename_i ty x k y ho
    split at h <;> try (simp at h; done)
    rename_i u1 u2 u3 h1 h2 h3
    split at h <;> simp at h
    rename_i m₁ hs
    obtain ⟨rfl, rfl⟩ := h
    obtain ⟨w', g1, g2, g3⟩ := mapUpdateD_ok (P := P) hK hr (ev_rel hr ht h1) (ev_rel hr ht h2) (ev_rel hr ht h3) hs
    simp only [execOp, ho, Sem.run_bind, g1, Result.andThen_ok, Sem.run_pure]
    exact hnext ι _ w' (VRel.undef _) g2 g3
  · rename_i s d x ho
    split at h <;> try (simp at h; done)
    rename_i u hu
    obtain ⟨ι', v', w', g1, g2, g3, g4⟩ := convD_ok (P := P) hr (ev_rel hr ht hu) hn h
    simp only [execOp, ho, Sem.run_bind, g1, Result.andThen_ok, Sem.run_pure]
    exact hnext ι' v' w' g2 g3 g4
  · rename_i args tys ho
    split at h <;> try (simp at h; done)
    rename_i x y tS tX hx ht'
    split at h <;> try (simp at h; done)
    rename_i u1 u2 h1 h2
    have e1 : args = #[x, y] := Array.ext' (by simpa using hx)
    have e2 : tys = #[tS, tX] := Array.ext' (by simpa using ht')
    subst e1 e2
    obtain ⟨ι', v', w', g1, g2, g3, g4⟩ := appendD_ok (P := P) (ty := o.type) hr (ev_rel hr ht h1) (ev_rel hr ht h2) hn h
    simp only [execOp, ho, resolve, Sem.run_bind, Sem.run_pure, Result.andThen_ok, invoke, builtin, List.map_toArray, List.map_cons, List.map_nil, g1]
    exact hnext ι' v' w' g2 g3 g4
  · rename_i args tys ho
    split at h <;> try (simp at h; done)
    rename_i x y tS tX hx ht'
    split at h <;> try (simp at h; done)
    rename_i u1 u2 h1 h2
    have e1 : args = #[x, y] := Array.ext' (by simpa using hx)
    have e2 : tys = #[tS, tX] := Array.ext' (by simpa using ht')
    subst e1 e2
    obtain ⟨v', w', g1, g2, g3, g4⟩ := copyD_ok (P := P) (tX := tX) (ty := o.type) hr (ev_rel hr ht h1) (ev_rel hr ht h2) h
    simp only [execOp, ho, resolve, Sem.run_bind, Sem.run_pure, Result.andThen_ok, invoke, builtin, List.map_toArray, List.map_cons, List.map_nil, g1]
    exact hnext ι v' w' g2 g3 g4
  · rename_i f args tys ho
    split at h <;> try (simp at h; done)
    rename_i g first captured vs h1 h2
    obtain ⟨fn, hfn, hbody, hname⟩ := hcf.body _ _ _ _ _ h
    obtain ⟨a', b', e1, g1, g2⟩ := (ev_rel hr ht h1).inv_func
    have g3 := evs_rel hr ht h2
    have hcall := hcf.ok _ _ _ _ _ h ι w (a'.toList ++ (args.toList.map a.eval ++ b'.toList)) hr hf (g1.append (g3.append g2))
    have earr : (a'.toList ++ (args.toList.map a.eval ++ b'.toList)).toArray = a' ++ args.map a.eval ++ b' := by apply Array.ext'; simp
    rw [earr] at hcall
    simp only [execOp, ho, resolve, e1, Deferred.ofValue, Sem.run_bind, Sem.run_pure, Result.andThen_ok, invoke, callFunc, run_program, hfn, hname, hbody, Bool.false_eq_true, if_false]
    refine Calls.mono hcall fun e w' he => ?_
    obtain ⟨v', ι', rfl, g4, g5, g6⟩ := he
    exact hnext ι' v' w' g4 g5 g6

theorem op_wp (hK : Plain P K) {cf : CallF} (hcf : CfOK P B0 G cf) (hr : Rel B0 G ι m w) (ht : TRel ι n t a) {o : Oper} {v : Value} {m' : Mem} (h : opD P K G cf t m o.op = some (v, m')) (hf : Fresh ι m.size m'.size)
    {next : Act → World → Prop} {Q : Exit → Act → World → Prop} (hnext : ∀ ι' v' w', VRel ι' v v' → Rel B0 G ι' m' w' → Stp ι ι' m m' w w' → next (a.put o.dst v') w') : o.wp P a w next Q := by
  unfold opD at h
  split at h
  · split at h <;> simp at h
    rename_i u hu
    obtain ⟨rfl, rfl⟩ := h
    obtain ⟨v', g1, g2⟩ := quiet_ok hK hr ht hu
    unfold Oper.wp
    rw [g1]
    exact hnext ι v' w g2 hr (Stp.refl _ _ _)
  · split at h <;> simp at h
    rename_i x q hx
    obtain ⟨rfl, rfl⟩ := h
    obtain ⟨ι', v', w', g1, g2, g3, g4⟩ := allocD_ok (P := P) hr ht (hf _ (Nat.le_refl _) (by simp)) hx
    unfold Oper.wp
    rw [g1]
    exact hnext ι' v' w' g2 g3 g4
  · exact heavy_wp hK hcf hr ht h hf hnext

theorem TRel.putD (ht : TRel ι n t a) {dst : Option Tmp} (hd : dstOk n dst = true) {v v' : Value} (hv : VRel ι v v') : TRel ι n (putD t dst v) (a.put dst v') := by
  cases dst with
  | none => exact ht
  | some d => exact ht.put (by simpa [dstOk] using hd) hv

theorem yield_rel (ht : TRel ι n t a) (ops : Array Oper) : yieldD ops.toList t = yielded ops a.tmps := by
  funext j
  unfold yieldD yielded
  rw [Array.getElem?_toList]
  cases hj : ops[j]? with
  | none => rfl
  | some o =>
    simp only [Option.bind_some]
    cases hd : o.dst with
    | none => rfl
    | some d =>
      simp only [Option.bind_some]
      have h := ht.2 d
      rw [Array.getD_eq_getD_getElem?] at h
      cases hg : a.tmps[d]? with
      | none =>
        rw [hg] at h
        simp only [Option.getD_none] at h
        generalize t.at d = q at h
        cases h <;> rfl
      | some u =>
        rw [hg] at h
        simp only [Option.getD_some] at h
        generalize t.at d = q at h
        cases h <;> rfl

theorem opsD_size {cf : CallF} (hcf : ∀ f args m v m', cf f args m = some (v, m') → m.size ≤ m'.size) {ops : List Oper} : ∀ (l : List Oper) (t : Tmps) (m : Mem) (t' : Tmps) (m' : Mem), opsD P K G cf n ops l t m = some (t', m') → m.size ≤ m'.size
  | [], t, m, t', m', h => by simp [opsD] at h; rw [h.2]; exact Nat.le_refl _
  | o :: l, t, m, t', m', h => by
    simp only [opsD] at h
    split at h <;> try (simp at h; done)
    split at h
    · split at h <;> try (simp at h; done)
      rename_i v m₁ hv
      exact Nat.le_trans (opD_size hcf hv) (opsD_size hcf l _ _ _ _ h)
    · exact opsD_size hcf l _ _ _ _ h

/-- What comes of a piece of code. -/
def After (B0 G n : Nat) (ι : Ren) (m : Mem) (w : World) (a : Act) (t' : Tmps) (m' : Mem) (a' : Act) (w' : World) : Prop :=
  ∃ ι', TRel ι' n t' a' ∧ Rel B0 G ι' m' w' ∧ Stp ι ι' m m' w w' ∧ a'.defers = a.defers

theorem After.trans {ι₁ : Ren} {m₁ m₂ : Mem} {w₁ w₂ : World} {a₁ a₂ : Act} {t₂ : Tmps} (s : Stp ι ι₁ m m₁ w w₁) (hd : a₁.defers = a.defers) (h : After B0 G n ι₁ m₁ w₁ a₁ t₂ m₂ a₂ w₂) : After B0 G n ι m w a t₂ m₂ a₂ w₂ := by
  obtain ⟨ι', g1, g2, g3, g4⟩ := h
  exact ⟨ι', g1, g2, s.trans g3, g4.trans hd⟩

theorem put_defers (a : Act) (d : Option Tmp) (v : Value) : (a.put d v).defers = a.defers := by cases d <;> rfl

theorem ops_wp (hK : Plain P K) {cf : CallF} (hcf : CfOK P B0 G cf) {ops : Array Oper} {Q : Exit → Act → World → Prop} : ∀ (l : List Oper) (i : Nat), (∀ j, l[j]? = ops[i + j]?) → ∀ (ι : Ren) (t : Tmps) (m : Mem) (w : World) (a : Act) (t' : Tmps) (m' : Mem),
    opsD P K G cf n ops.toList l t m = some (t', m') → Rel B0 G ι m w → TRel ι n t a → Fresh ι m.size m'.size →
    (∀ a' w', After B0 G n ι m w a t' m' a' w' → Q .normal a' w') → wpOps P ops Q (List.range' i l.length) a w
  | [], i, hl, ι, t, m, w, a, t', m', h, hr, ht, hf, hQ => by
    simp [opsD] at h
    obtain ⟨rfl, rfl⟩ := h
    simp only [List.length_nil, List.range'_zero, wpOps]
    exact hQ a w ⟨ι, ht, hr, Stp.refl _ _ _, rfl⟩
  | o :: l, i, hl, ι, t, m, w, a, t', m', h, hr, ht, hf, hQ => by
    simp only [opsD] at h
    split at h <;> try (simp at h; done)
    rename_i hd
    have ho : ops[i]? = some o := by have := hl 0; simpa using this.symm
    have hl' : ∀ j, l[j]? = ops[i + 1 + j]? := fun j => by have := hl (j + 1); simp at this; rw [this]; congr 1; omega
    rw [List.length_cons, List.range'_succ]
    simp only [wpOps, ho]
    rw [yield_rel ht] at h
    split at h
    · rename_i hw
      rw [if_pos hw]
      split at h <;> try (simp at h; done)
      rename_i v m₁ hv
      have s1 := opD_size hcf.size hv
      have s2 := opsD_size hcf.size _ _ _ _ _ h
      refine .inl (op_wp hK hcf hr ht hv (hf.sub (Nat.le_refl _) s2) fun ι' v' w' g1 g2 g3 => ?_)
      refine ops_wp hK hcf l (i + 1) hl' ι' _ m₁ w' _ t' m' h g2 ((ht.mono g3.ext).putD hd g1) ((hf.sub s1 (Nat.le_refl _)).stp g3 (Nat.le_refl _)) fun a' w'' ha => hQ a' w'' ?_
      exact After.trans g3 (put_defers _ _ _) ha
    · rename_i hw
      rw [if_neg hw]
      refine ops_wp hK hcf l (i + 1) hl' ι _ m w _ t' m' h hr (ht.putD hd (VRel.undef _)) hf fun a' w'' ha => hQ a' w'' ?_
      exact After.trans (Stp.refl _ _ _) (put_defers _ _ _) ha

theorem region_wp (hK : Plain P K) {cf : CallF} (hcf : CfOK P B0 G cf) {ops : Array Oper} {id : Nat} {Q : Exit → Act → World → Prop} {t' : Tmps} {m' : Mem}
    (h : opsD P K G cf n ops.toList ops.toList t m = some (t', m')) (hr : Rel B0 G ι m w) (ht : TRel ι n t a) (hf : Fresh ι m.size m'.size)
    (hQ : ∀ a' w', After B0 G n ι m w a t' m' a' w' → Q .normal a' w') : (Code.region id ops false).wp P Q a w := by
  refine wp_region ?_
  have := ops_wp (Q := Q) hK hcf (ops := ops) ops.toList 0 (fun j => by simp) ι t m w a t' m' h hr ht hf hQ
  rw [List.range_eq_range']
  simpa using this

/-- A region that draws its order. -/
def DrawOK (P : Program) (B0 G n : Nat) (dr : List Oper → Tmps → Mem → Option (Tmps × Mem)) : Prop :=
  (∀ ops t m t' m', dr ops t m = some (t', m') → m.size ≤ m'.size) ∧
  ∀ (ops : Array Oper) (id : Nat) (ι : Ren) (t : Tmps) (m : Mem) (w : World) (a : Act) (t' : Tmps) (m' : Mem) (Q : Exit → Act → World → Prop),
    dr ops.toList t m = some (t', m') → Rel B0 G ι m w → TRel ι n t a → Fresh ι m.size m'.size →
    (∀ a' w', After B0 G n ι m w a t' m' a' w' → Q .normal a' w') → (Code.region id ops true).wp P Q a w

def Ex.to : Ex → Exit
  | .normal => .normal
  | .exit id => .exit id
  | .ret => .ret

theorem loopD_size {body : Tmps → Mem → Option (Ex × Tmps × Mem)} (hb : ∀ t m e t' m', body t m = some (e, t', m') → m.size ≤ m'.size) : ∀ (k : Nat) (t : Tmps) (m : Mem) (e : Ex) (t' : Tmps) (m' : Mem), loopD body k t m = some (e, t', m') → m.size ≤ m'.size
  | 0, t, m, e, t', m', h => by simp [loopD] at h
  | k + 1, t, m, e, t', m', h => by
    simp only [loopD] at h
    split at h
    · rename_i t₁ m₁ h1
      exact Nat.le_trans (hb _ _ _ _ _ h1) (loopD_size hb k _ _ _ _ _ h)
    · exact hb _ _ _ _ _ h

theorem codeD_size {cf : CallF} (hcf : ∀ f args m v m', cf f args m = some (v, m') → m.size ≤ m'.size) {dr : List Oper → Tmps → Mem → Option (Tmps × Mem)} (hdr : ∀ ops t m t' m', dr ops t m = some (t', m') → m.size ≤ m'.size) {k : Nat} :
    ∀ (c : Code) (t : Tmps) (m : Mem) (e : Ex) (t' : Tmps) (m' : Mem), codeD P K G cf dr n k c t m = some (e, t', m') → m.size ≤ m'.size := by
  intro c
  induction c with
  | skip => intro t m e t' m' h; simp [codeD] at h; rw [h.2.2]; exact Nat.le_refl _
  | label l => intro t m e t' m' h; simp [codeD] at h; rw [h.2.2]; exact Nat.le_refl _
  | region id ops draw =>
    intro t m e t' m' h
    simp only [codeD] at h
    split at h <;> simp at h
    rename_i t₁ m₁ h1
    rw [← h.2.2]
    cases draw
    · exact opsD_size hcf _ _ _ _ _ h1
    · exact hdr _ _ _ _ _ h1
  | seq x y ihx ihy =>
    intro t m e t' m' h
    simp only [codeD] at h
    split at h
    · rename_i t₁ m₁ h1
      exact Nat.le_trans (ihx _ _ _ _ _ h1) (ihy _ _ _ _ _ h)
    · exact ihx _ _ _ _ _ h
  | cond c x y ihx ihy =>
    intro t m e t' m' h
    simp only [codeD] at h
    split at h <;> try (simp at h; done)
    · exact ihx _ _ _ _ _ h
    · exact ihy _ _ _ _ _ h
  | block id c ih =>
    intro t m e t' m' h
    simp only [codeD] at h
    split at h
    · rename_i id' t₁ m₁ h1
      split at h <;> simp at h <;> rw [← h.2.2] <;> exact ih _ _ _ _ _ h1
    · exact ih _ _ _ _ _ h
  | loop c ih => intro t m e t' m' h; simp only [codeD] at h; exact loopD_size (fun t m e t' m' h => ih t m e t' m' h) _ _ _ _ _ _ h
  | exit id => intro t m e t' m' h; simp [codeD] at h; rw [h.2.2]; exact Nat.le_refl _
  | ret => intro t m e t' m' h; simp [codeD] at h; rw [h.2.2]; exact Nat.le_refl _
  | rangeFunc => intro t m e t' m' h; simp [codeD] at h
  | scope => intro t m e t' m' h; simp [codeD] at h
  | goto => intro t m e t' m' h; simp [codeD] at h
  | refuse => intro t m e t' m' h; simp [codeD] at h

/-- What is claimed of a piece of code. -/
def CodeOK (P : Program) (B0 G n : Nat) (c : Code) (t : Tmps) (m : Mem) (e : Ex) (t' : Tmps) (m' : Mem) : Prop :=
  ∀ (ι : Ren) (w : World) (a : Act) (Q : Exit → Act → World → Prop), Rel B0 G ι m w → TRel ι n t a → Fresh ι m.size m'.size → (∀ a' w', After B0 G n ι m w a t' m' a' w' → Q e.to a' w') → c.wp P Q a w

theorem code_ok (hK : Plain P K) {cf : CallF} (hcf : CfOK P B0 G cf) {dr : List Oper → Tmps → Mem → Option (Tmps × Mem)} (hdr : DrawOK P B0 G n dr) {k : Nat} :
    ∀ (c : Code) (t : Tmps) (m : Mem) (e : Ex) (t' : Tmps) (m' : Mem), codeD P K G cf dr n k c t m = some (e, t', m') → CodeOK P B0 G n c t m e t' m' := by
  intro c
  have hsz := fun c => codeD_size (P := P) (K := K) (G := G) (n := n) (k := k) hcf.size hdr.1 c
  induction c with
  | skip => intro t m e t' m' h; simp [codeD] at h; obtain ⟨rfl, rfl, rfl⟩ := h; intro ι w a Q hr ht hf hQ; exact wp_skip (hQ a w ⟨ι, ht, hr, Stp.refl _ _ _, rfl⟩)
  | label l => intro t m e t' m' h; simp [codeD] at h; obtain ⟨rfl, rfl, rfl⟩ := h; intro ι w a Q hr ht hf hQ; exact wp_label (hQ a w ⟨ι, ht, hr, Stp.refl _ _ _, rfl⟩)
  | region id ops draw =>
    intro t m e t' m' h
    simp only [codeD] at h
    split at h <;> simp at h
    rename_i t₁ m₁ h1
    obtain ⟨rfl, rfl, rfl⟩ := h
    intro ι w a Q hr ht hf hQ
    cases draw
    · exact region_wp hK hcf h1 hr ht hf hQ
    · exact hdr.2 ops id ι t m w a _ _ Q h1 hr ht hf hQ
  | seq x y ihx ihy =>
    intro t m e t' m' h
    simp only [codeD] at h
    intro ι w a Q hr ht hf hQ
    split at h
    · rename_i t₁ m₁ h1
      have s1 := hsz x _ _ _ _ _ h1
      have s2 := hsz y _ _ _ _ _ h
      refine wp_seq (ihx _ _ _ _ _ h1 ι w a _ hr ht (hf.sub (Nat.le_refl _) s2) fun a₁ w₁ ha => ?_)
      obtain ⟨ι₁, g1, g2, g3, g4⟩ := ha
      simp only [Ex.to, Exit.then]
      exact ihy _ _ _ _ _ h ι₁ w₁ a₁ Q g2 g1 ((hf.sub s1 (Nat.le_refl _)).stp g3 (Nat.le_refl _)) fun a₂ w₂ ha₂ => hQ a₂ w₂ (After.trans g3 g4 ha₂)
    · rename_i hne
      refine wp_seq (ihx _ _ _ _ _ h ι w a _ hr ht hf fun a₁ w₁ ha => ?_)
      have := hQ a₁ w₁ ha
      cases e with
      | normal => exact absurd h (hne _ _)
      | exit id => exact this
      | ret => exact this
  | cond c x y ihx ihy =>
    intro t m e t' m' h
    simp only [codeD] at h
    intro ι w a Q hr ht hf hQ
    split at h <;> try (simp at h; done)
    · rename_i hc
      exact wp_cond_true (ev_rel hr ht hc).inv_bool (ihx _ _ _ _ _ h ι w a Q hr ht hf hQ)
    · rename_i hc
      exact wp_cond_false (ev_rel hr ht hc).inv_bool (ihy _ _ _ _ _ h ι w a Q hr ht hf hQ)
  | block id c ih =>
    intro t m e t' m' h
    simp only [codeD] at h
    intro ι w a Q hr ht hf hQ
    split at h
    · rename_i id' t₁ m₁ h1
      split at h <;> simp at h
      · rename_i he
        obtain ⟨rfl, rfl, rfl⟩ := h
        refine wp_block (ih _ _ _ _ _ h1 ι w a _ hr ht hf fun a₁ w₁ ha => ?_)
        simp only [Ex.to, Exit.inBlock, he, if_true]
        exact hQ a₁ w₁ ha
      · rename_i he
        obtain ⟨rfl, rfl, rfl⟩ := h
        refine wp_block (ih _ _ _ _ _ h1 ι w a _ hr ht hf fun a₁ w₁ ha => ?_)
        simp only [Ex.to, Exit.inBlock, he, if_false]
        exact hQ a₁ w₁ ha
    · rename_i hne
      refine wp_block (ih _ _ _ _ _ h ι w a _ hr ht hf fun a₁ w₁ ha => ?_)
      have := hQ a₁ w₁ ha
      cases e with
      | normal => exact this
      | exit id => exact absurd h (hne _ _ _)
      | ret => exact this
  | loop c ih =>
    intro t m e t' m' h
    simp only [codeD] at h
    intro ι w a Q hr ht hf hQ
    refine wp_loop_rounds k ?_
    have key : ∀ (k' : Nat) (t : Tmps) (m : Mem) (ι : Ren) (w : World) (a : Act) (Q : Exit → Act → World → Prop), loopD (codeD P K G cf dr n k c) k' t m = some (e, t', m') → Rel B0 G ι m w → TRel ι n t a → Fresh ι m.size m'.size →
        (∀ a' w', After B0 G n ι m w a t' m' a' w' → Q e.to a' w') → e.to ≠ .normal → Code.rounds P c Q k' a w := by
      intro k'
      induction k' with
      | zero => intro t m ι w a Q h; simp [loopD] at h
      | succ k' ih2 =>
        intro t m ι w a Q h hr ht hf hQ hne'
        simp only [loopD] at h
        rw [rounds_succ]
        split at h
        · rename_i t₁ m₁ h1
          have s1 := hsz c _ _ _ _ _ h1
          have s2 := loopD_size (fun t m e t' m' h => hsz c t m e t' m' h) _ _ _ _ _ _ h
          refine ih _ _ _ _ _ h1 ι w a _ hr ht (hf.sub (Nat.le_refl _) s2) fun a₁ w₁ ha => ?_
          obtain ⟨ι₁, g1, g2, g3, g4⟩ := ha
          simp only [Ex.to, Exit.then]
          exact ih2 t₁ m₁ ι₁ w₁ a₁ Q h g2 g1 ((hf.sub s1 (Nat.le_refl _)).stp g3 (Nat.le_refl _)) (fun a₂ w₂ ha₂ => hQ a₂ w₂ (After.trans g3 g4 ha₂)) hne'
        · rename_i hne
          refine ih _ _ _ _ _ h ι w a _ hr ht hf fun a₁ w₁ ha => ?_
          have := hQ a₁ w₁ ha
          cases e with
          | normal => exact absurd h (hne _ _)
          | exit id => exact this
          | ret => exact this
    have hne' : e.to ≠ .normal := by
      have : ∀ (k' : Nat) (t : Tmps) (m : Mem), loopD (codeD P K G cf dr n k c) k' t m = some (e, t', m') → e.to ≠ .normal := by
        intro k'
        induction k' with
        | zero => intro t m h; simp [loopD] at h
        | succ k' ih2 =>
          intro t m h
          simp only [loopD] at h
          split at h
          · exact ih2 _ _ h
          · rename_i hne
            cases e with
            | normal => exact absurd h (hne _ _)
            | exit id => simp [Ex.to]
            | ret => simp [Ex.to]
      exact this k t m h
    exact key k t m ι w a Q h hr ht hf hQ hne'
  | exit id => intro t m e t' m' h; simp [codeD] at h; obtain ⟨rfl, rfl, rfl⟩ := h; intro ι w a Q hr ht hf hQ; exact wp_exit (hQ a w ⟨ι, ht, hr, Stp.refl _ _ _, rfl⟩)
  | ret => intro t m e t' m' h; simp [codeD] at h; obtain ⟨rfl, rfl, rfl⟩ := h; intro ι w a Q hr ht hf hQ; exact wp_ret (hQ a w ⟨ι, ht, hr, Stp.refl _ _ _, rfl⟩)
  | rangeFunc => intro t m e t' m' h; simp [codeD] at h
  | scope => intro t m e t' m' h; simp [codeD] at h
  | goto => intro t m e t' m' h; simp [codeD] at h
  | refuse => intro t m e t' m' h; simp [codeD] at h
end
end Go.DI
