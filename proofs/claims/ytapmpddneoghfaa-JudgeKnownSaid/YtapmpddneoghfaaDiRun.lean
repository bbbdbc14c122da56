/-
  DiRun: what the interpreter answers, the model answers: operations, regions, code.
-/
import Derived.Test.YtapmpddneoghfaaDiApp
import Derived.LoopN
namespace Go.DI
section
variable {P : Program} {K : TypeId → Bool} {G B0 n : Nat} {ι : Ren} {m : Mem} {w : World} {t : Tmps} {a : Act}

/-- No name from a on below b is used. -/
def Fresh (ι : Ren) (x y : Nat) : Prop := ∀ b, x ≤ b → b < y → ι b = none

theorem Fresh.sub {x y x' y' : Nat} (h : Fresh ι x y) (h1 : x ≤ x') (h2 : y' ≤ y) : Fresh ι x' y' := fun b g1 g2 => h b (by omega) (by omega)
theorem Fresh.stp {ι' : Ren} {m m' : Mem} {w w' : World} {x y : Nat} (h : Fresh ι x y) (s : Stp ι ι' m m' w w') (h1 : m'.size ≤ x) : Fresh ι' x y := fun b g1 g2 => by
  rw [s.out b (.inr (by omega))]
  exact h b g1 g2

theorem minD_ok : ∀ {l l' : List Value} {k : IntKind} {x r : Int}, VRels ι l l' → minD l x = some r → (l'.foldlM Builtin.min2 (.int k x)).run P w = .ok (.int k r) w
  | [], _, k, x, r, hl, h => by cases hl; simp [minD] at h; subst h; simp
  | v :: l, _, k, x, r, hl, h => by
    cases hl with
    | cons h0 t0 =>
      cases v <;> simp only [minD] at h <;> try (simp at h; done)
      cases h0
      simp only [List.foldlM_cons, Sem.run_bind, Builtin.min2, Sem.run_pure, Result.andThen_ok]
      exact minD_ok t0 h
theorem maxD_ok : ∀ {l l' : List Value} {k : IntKind} {x r : Int}, VRels ι l l' → maxD l x = some r → (l'.foldlM Builtin.max2 (.int k x)).run P w = .ok (.int k r) w
  | [], _, k, x, r, hl, h => by cases hl; simp [maxD] at h; subst h; simp
  | v :: l, _, k, x, r, hl, h => by
    cases hl with
    | cons h0 t0 =>
      cases v <;> simp only [maxD] at h <;> try (simp at h; done)
      cases h0
      simp only [List.foldlM_cons, Sem.run_bind, Builtin.max2, Sem.run_pure, Result.andThen_ok]
      exact maxD_ok t0 h

theorem lenD_ok (hr : Rel B0 G ι m w) {s ty : TypeId} {x x' v : Value} (hx : VRel ι x x') (h : lenD P m s x = some v) : (Builtin.len_ #[s] ty #[x']).run P w = .ok v w ∧ VRel ι v v := by
  unfold lenD at h
  split at h <;> try (simp at h; done)
  · rename_i hu
    split at h <;> simp at h
    subst h; cases hx
    exact ⟨by simp [Builtin.len_, run_und hu, goInt], .int _ _⟩
  · rename_i hu
    simp at h
    subst h
    refine ⟨?_, .int _ _⟩
    simp only [Builtin.len_, Sem.run_bind, run_und hu, Result.andThen_ok, List.getElem?_toArray, List.getElem?_cons_zero]
    cases x' <;> simp [goInt]
  · rename_i hu
    split at h <;> simp at h
    subst h
    refine ⟨?_, .int _ _⟩
    cases hx <;> simp [Builtin.len_, run_und hu, goInt]
  · rename_i hu
    split at h <;> try (simp at h; done)
    · simp at h; subst h; cases hx
      exact ⟨by simp [Builtin.len_, run_und hu, goInt], .int _ _⟩
    · rename_i r
      split at h <;> simp at h
      rename_i own es c hg
      subst h
      have hlt := hr.get_lt (b := r) (by rw [hg]; simp)
      cases hx with
      | map _ L hL =>
        have hb := hr.blk r L hlt hL
        rw [hg] at hb
        obtain ⟨res, h1, h2, h3⟩ := hb
        have hgo : (getObj L.block).run P w = .ok (.map res c) w := by simp [getObj, Sem.run, h1]
        have := h2.length
        exact ⟨by simp [Builtin.len_, run_und hu, goInt, hgo, this], .int _ _⟩

theorem quiet_ok (hK : Plain P K) (hr : Rel B0 G ι m w) (ht : TRel ι n t a) {o : Oper} {v : Value} (h : quietD P K G t m o.op = some v) :
    ∃ v', (execOp a.eval o).run P w = .ok (.value v') w ∧ VRel ι v v' := by
  unfold quietD at h
  split at h <;> try (simp at h; done)
  · rename_i x ho; exact ⟨_, by simp [execOp, ho], ev_rel hr ht h⟩
  · rename_i x ho; exact ⟨_, by simp [execOp, ho], ev_rel hr ht h⟩
  · rename_i c x y ho
    split at h <;> try (simp at h; done)
    · rename_i hc; have := (ev_rel hr ht hc).inv_bool; exact ⟨_, by simp [execOp, ho, this, asBool], ev_rel hr ht h⟩
    · rename_i hc; have := (ev_rel hr ht hc).inv_bool; exact ⟨_, by simp [execOp, ho, this, asBool], ev_rel hr ht h⟩
  · rename_i ty x ho
    split at h <;> try (simp at h; done)
    rename_i u hu
    obtain ⟨v', h1, h2⟩ := loadD_ok (P := P) hr (ev_rel hr ht hu) h
    exact ⟨v', by simp [execOp, ho, h1], h2⟩
  · rename_i x ho
    split at h <;> simp at h
    · rename_i ad hx
      subst h
      have := ev_rel hr ht hx
      refine ⟨a.eval x, ?_, this⟩
      simp only [execOp, ho]
      revert this
      cases a.eval x <;> intro this <;> cases this <;> rfl
    · rename_i f fs cs hx
      subst h
      have := ev_rel hr ht hx
      obtain ⟨a', b', e1, _, _⟩ := this.inv_func
      rw [e1] at this
      refine ⟨_, ?_, this⟩
      simp [execOp, ho, e1]
  · rename_i op ty x y yt ho
    split at h <;> try (simp at h; done)
    rename_i u1 u2 h1 h2
    obtain ⟨g1, g2⟩ := binD_rel (ev_rel hr ht h1) (ev_rel hr ht h2) h
    have := run_binD (w := w) (o1 := x) (o2 := y) hK g1
    refine ⟨v, ?_, g2⟩
    simp only [execOp, ho]
    rw [Sem.run_bind, this]
    rfl
  · rename_i op ty x ho
    split at h <;> try (simp at h; done)
    rename_i u hu
    obtain ⟨g1, g2⟩ := unD_ok (P := P) (w := w) (ev_rel hr ht hu) h
    exact ⟨v, by simp [execOp, ho, g1], g2⟩
  · rename_i f fs cs ho
    split at h <;> simp at h
    rename_i l1 l2 h1 h2
    subst h
    refine ⟨.func (.func f) (fs.map a.eval) (cs.map a.eval), by simp [execOp, ho, Instr.makeFunc], ?_⟩
    have g1 := evs_rel hr ht h1
    have g2 := evs_rel hr ht h2
    have e1 : (fs.map a.eval).toList = fs.toList.map a.eval := by simp
    have e2 : (cs.map a.eval).toList = cs.toList.map a.eval := by simp
    have k1 := VRels.arr (a := l1.toArray) (a' := fs.map a.eval) (ι := ι) (by rw [e1]; exact g1)
    have k2 := VRels.arr (a := l2.toArray) (a' := cs.map a.eval) (ι := ι) (by rw [e2]; exact g2)
    exact .func _ _ _ _ _ k1.1 k2.1 k1.2 k2.2
  · rename_i s x f ho
    split at h <;> try (simp at h; done)
    rename_i u hu
    obtain ⟨v', h1, h2⟩ := fieldAddrD_ok (P := P) (w := w) (ev_rel hr ht hu) h
    exact ⟨v', by simp [execOp, ho, h1], h2⟩
  · rename_i s x f ho
    split at h <;> try (simp at h; done)
    rename_i u hu
    obtain ⟨v', h1, h2⟩ := fieldD_ok (P := P) (w := w) (ev_rel hr ht hu) h
    exact ⟨v', by simp [execOp, ho, h1], h2⟩
  · rename_i s x i ho
    split at h <;> try (simp at h; done)
    rename_i u1 u2 h1 h2
    obtain ⟨v', g1, g2⟩ := indexAddrD_ok (P := P) (w := w) (ev_rel hr ht h1) h
    have hi : a.eval i = u2 := by
      have := ev_rel hr ht h2
      unfold indexAddrD at h
      split at h <;> try (simp at h; done)
      exact this.inv_int
    exact ⟨v', by simp [execOp, ho, hi, g1], g2⟩
  · rename_i s x i ho
    split at h <;> try (simp at h; done)
    rename_i u1 u2 h1 h2
    obtain ⟨v', g1, g2⟩ := indexD_ok (P := P) (w := w) (ev_rel hr ht h1) h
    have hi : a.eval i = u2 := by
      have := ev_rel hr ht h2
      unfold indexD at h
      split at h <;> try (simp at h; done)
      exact this.inv_int
    exact ⟨v', by simp [execOp, ho, hi, g1], g2⟩
  · rename_i s x k ok ho
    split at h <;> try (simp at h; done)
    rename_i u1 u2 h1 h2
    obtain ⟨v', g1, g2⟩ := lookupD_ok (P := P) (w := w) hK hr (ev_rel hr ht h1) (ev_rel hr ht h2) h
    exact ⟨v', by simp [execOp, ho, g1], g2⟩
  · rename_i x i ho
    split at h <;> try (simp at h; done)
    rename_i vs hx
    obtain ⟨vs', e1, hvs⟩ := (ev_rel hr ht hx).inv_tuple
    obtain ⟨y, hy, hry⟩ := hvs.get h
    have hy' : vs'[i]? = some y := by simpa using hy
    exact ⟨y, by simp [execOp, ho, e1, Instr.extract, hy'], hry⟩
  · rename_i ty parts ho
    split at h <;> try (simp at h; done)
    rename_i ps hps
    have hp := evParts_rel hr ht hps
    obtain ⟨v', g1, g2⟩ := buildD_ok (P := P) (w := w) (ps' := parts.map fun x => (x.1, a.eval x.2)) (by simpa using hp) h
    exact ⟨v', by simp [execOp, ho, g1], g2⟩
  · rename_i ty x lo hi mx ho
    split at h <;> try (simp at h; done)
    rename_i u l1 l2 l3 hu h1 h2 h3
    obtain ⟨v', g1, g2⟩ := sliceD_ok (P := P) (w := w) (ev_rel hr ht hu) (optEv_rel hr ht h1) (optEv_rel hr ht h2) (optEv_rel hr ht h3) h
    exact ⟨v', by simp [execOp, ho, g1], g2⟩
  · rename_i args tys ho
    split at h <;> try (simp at h; done)
    rename_i x ty hx ht'
    split at h <;> try (simp at h; done)
    rename_i u hu
    have e1 : args = #[x] := Array.ext' (by simpa using hx)
    have e2 : tys = #[ty] := Array.ext' (by simpa using ht')
    subst e1 e2
    obtain ⟨g1, g2⟩ := lenD_ok (P := P) (ty := o.type) hr (ev_rel hr ht hu) h
    exact ⟨v, by simp [execOp, ho, resolve, invoke, builtin, g1], g2⟩
  · rename_i args tys ho
    split at h <;> try (simp at h; done)
    rename_i k x l hx
    split at h <;> simp at h
    rename_i r hm
    subst h
    have hv := evs_rel hr ht hx
    generalize hq : args.toList.map a.eval = q at hv
    cases hv with
    | cons h0 t0 =>
      cases h0
      have e1 : (args.map a.eval).toList = args.toList.map a.eval := by simp
      refine ⟨_, ?_, .int _ _⟩
      simp only [execOp, ho, resolve, Sem.run_bind, Sem.run_pure, Result.andThen_ok, invoke, builtin, Builtin.min_, e1, hq]
      rw [minD_ok t0 hm]
      rfl
  · rename_i args tys ho
    split at h <;> try (simp at h; done)
    rename_i k x l hx
    split at h <;> simp at h
    rename_i r hm
    subst h
    have hv := evs_rel hr ht hx
    generalize hq : args.toList.map a.eval = q at hv
    cases hv with
    | cons h0 t0 =>
      cases h0
      have e1 : (args.map a.eval).toList = args.toList.map a.eval := by simp
      refine ⟨_, ?_, .int _ _⟩
      simp only [execOp, ho, resolve, Sem.run_bind, Sem.run_pure, Result.andThen_ok, invoke, builtin, Builtin.max_, e1, hq]
      rw [maxD_ok t0 hm]
      rfl
end
end Go.DI
