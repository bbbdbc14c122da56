/-
  DiGrow: what a run of the interpreter does to its own memory, whatever the world is: numbers are given in order, none comes back.
-/
import Derived.Test.YtapmpddneoghfaaDiCode
namespace Go.DI
section
variable {P : Program} {K : TypeId → Bool} {G B0 n : Nat} {ι : Ren} {m : Mem} {w : World} {t : Tmps} {a : Act}

def Mem.top (m : Mem) : Prop := ∀ b, m.size ≤ b → m.get b = .none

structure Grw (m m' : Mem) : Prop where
  size : m.size ≤ m'.size
  top : m.top → m'.top
  live : ∀ b, b < m.size → (m'.get b).live → (m.get b).live
  own : ∀ b, b < m.size → (m'.get b).own = true → (m.get b).own = true

theorem Grw.refl (m : Mem) : Grw m m := ⟨Nat.le_refl _, id, fun _ _ => id, fun _ _ => id⟩
theorem Grw.trans {m m₁ m₂ : Mem} (h : Grw m m₁) (k : Grw m₁ m₂) : Grw m m₂ :=
  ⟨Nat.le_trans h.size k.size, fun q => k.top (h.top q), fun b hb q => h.live b hb (k.live b (Nat.lt_of_lt_of_le hb h.size) q), fun b hb q => h.own b hb (k.own b (Nat.lt_of_lt_of_le hb h.size) q)⟩

theorem Grw.set {b : Nat} {x : Blk} (hl : (m.get b).live) (h1 : x.own = true → (m.get b).own = true) : Grw m (m.set b x) := by
  refine ⟨Nat.le_refl _, fun q c hc => ?_, fun c hc q => ?_, fun c hc q => ?_⟩
  · rw [Mem.get_set]
    split
    · rename_i e; subst e
      rw [q c hc] at hl; exact hl.elim
    · exact q c hc
  · rw [Mem.get_set] at q
    split at q
    · rename_i e; subst e; exact hl
    · exact q
  · rw [Mem.get_set] at q
    split at q
    · rename_i e; subst e; exact h1 q
    · exact q

theorem Grw.push (m : Mem) (x : Blk) : Grw m (m.push x) := by
  refine ⟨by simp, fun q c hc => ?_, fun c hc q => ?_, fun c hc q => ?_⟩
  · simp at hc; rw [Mem.get_push_ne _ (by omega)]; exact q c (by omega)
  · rw [Mem.get_push_ne _ (by omega)] at q; exact q
  · rw [Mem.get_push_ne _ (by omega)] at q; exact q

theorem storeC_grw {b off : Nat} {vs : List Value} {m' : Mem} (h : storeC m b off vs = some m') : Grw m m' := by
  unfold storeC at h
  split at h <;> try (simp at h; done)
  rename_i hg
  split at h <;> try (simp at h; done)
  split at h <;> simp at h
  subst h
  exact Grw.set (by rw [hg]; trivial) (by rw [hg]; simp [Blk.own])
theorem storeD_grw {s : TypeId} {x v : Value} {m' : Mem} (h : storeD P m s v x = some m') : Grw m m' := by
  unfold storeD at h
  split at h <;> try (simp at h; done)
  split at h <;> try (simp at h; done)
  split at h <;> try (simp at h; done)
  exact storeC_grw h
theorem mapUpdateD_grw {s : TypeId} {x k v : Value} {m' : Mem} (h : mapUpdateD P K m s x k v = some m') : Grw m m' := by
  unfold mapUpdateD at h
  split at h <;> try (simp at h; done)
  split at h <;> try (simp at h; done)
  split at h <;> try (simp at h; done)
  rename_i hg
  split at h <;> try (simp at h; done)
  split at h <;> try (simp at h; done)
  · split at h <;> try (simp at h; done)
    split at h <;> simp at h
    subst h; exact Grw.set (by rw [hg]; trivial) (by rw [hg]; simp [Blk.own])
  · simp at h; subst h; exact Grw.set (by rw [hg]; trivial) (by rw [hg]; simp [Blk.own])
theorem appendD_grw {tS tX : TypeId} {s x v : Value} {m' : Mem} (h : appendD P m tS tX s x = some (v, m')) : Grw m m' := by
  unfold appendD at h
  split at h <;> try (simp at h; done)
  split at h <;> try (simp at h; done)
  split at h <;> try (simp at h; done)
  split at h <;> try (simp at h; done)
  split at h
  · split at h
    · split at h <;> simp at h
      rw [h.2]; exact Grw.refl _
    · split at h
      · simp at h; rw [h.2]; exact Grw.refl _
      · split at h <;> simp at h
        rename_i hst
        rw [← h.2]; exact storeC_grw hst
  · split at h <;> try (simp at h; done)
    split at h <;> try (simp at h; done)
    split at h <;> try (simp at h; done)
    split at h
    · rename_i b off e'
      split at h <;> try (simp at h; done)
      split at h <;> simp at h
      rename_i cb hg
      rw [← h.2]
      refine ⟨by simp, fun q c hc => ?_, fun c hc q => ?_, fun c hc q => ?_⟩
      · simp at hc
        rw [Mem.get_set]
        split
        · rfl
        · rw [Mem.get_push_ne _ (by omega)]; exact q c (by omega)
      · rw [Mem.get_set] at q
        split at q
        · exact q.elim
        · rw [Mem.get_push_ne _ (by omega)] at q; exact q
      · rw [Mem.get_set] at q
        split at q
        · simp [Blk.own] at q
        · rw [Mem.get_push_ne _ (by omega)] at q; exact q
    · simp at h; rw [← h.2]; exact Grw.push _ _
theorem copyD_grw {tD : TypeId} {s x v : Value} {m' : Mem} (h : copyD P m tD s x = some (v, m')) : Grw m m' := by
  unfold copyD at h
  split at h <;> try (simp at h; done)
  split at h <;> try (simp at h; done)
  split at h <;> try (simp at h; done)
  split at h <;> try (simp at h; done)
  split at h
  · simp at h; rw [h.2]; exact Grw.refl _
  · split at h
    · simp at h; rw [h.2]; exact Grw.refl _
    · split at h <;> simp at h
      rename_i hst
      rw [← h.2]; exact storeC_grw hst
theorem convD_grw {s d : TypeId} {x v : Value} {m' : Mem} (h : convD P m s d x = some (v, m')) : Grw m m' := by
  unfold convD at h
  split at h <;> try (simp at h; done)
  · split at h <;> simp at h
    rw [h.2]; exact Grw.refl _
  · split at h <;> simp at h
    rw [h.2]; exact Grw.refl _
  · split at h <;> simp at h
    rw [← h.2]; exact Grw.push _ _
  · split at h <;> try (simp at h; done)
    split at h <;> try (simp at h; done)
    · simp at h; rw [h.2]; exact Grw.refl _
    · split at h <;> try (simp at h; done)
      split at h <;> simp at h
      rw [h.2]; exact Grw.refl _

def CfGrw (cf : CallF) : Prop := ∀ f args m v m', cf f args m = some (v, m') → Grw m m'

theorem heavyD_grw {cf : CallF} (hcf : CfGrw cf) {o : Op} {v : Value} {m' : Mem} (h : heavyD P K G cf t m o = some (v, m')) : Grw m m' := by
  unfold heavyD at h
  split at h <;> try (simp at h; done)
  · split at h <;> try (simp at h; done)
    split at h <;> simp at h
    rename_i hs
    rw [← h.2]; exact storeD_grw hs
  · split at h <;> try (simp at h; done)
    split at h <;> simp at h
    rename_i hs
    rw [← h.2]; exact mapUpdateD_grw hs
  · split at h <;> try (simp at h; done)
    split at h <;> simp at h
    rename_i hs
    rw [← h.2]; exact mapUpdateD_grw hs
  · split at h <;> try (simp at h; done)
    exact convD_grw h
  · split at h <;> try (simp at h; done)
    split at h <;> try (simp at h; done)
    exact appendD_grw h
  · split at h <;> try (simp at h; done)
    split at h <;> try (simp at h; done)
    exact copyD_grw h
  · split at h <;> try (simp at h; done)
    exact hcf _ _ _ _ _ h

theorem opD_grw {cf : CallF} (hcf : CfGrw cf) {o : Op} {v : Value} {m' : Mem} (h : opD P K G cf t m o = some (v, m')) : Grw m m' := by
  unfold opD at h
  split at h
  · split at h <;> simp at h
    rw [h.2]; exact Grw.refl _
  · split at h <;> simp at h
    rw [← h.2]; exact Grw.push _ _
  · exact heavyD_grw hcf h

theorem opsD_grw {cf : CallF} (hcf : CfGrw cf) {ops : List Oper} : ∀ (l : List Oper) (t : Tmps) (m : Mem) (t' : Tmps) (m' : Mem), opsD P K G cf n ops l t m = some (t', m') → Grw m m'
  | [], t, m, t', m', h => by simp [opsD] at h; rw [h.2]; exact Grw.refl _
  | o :: l, t, m, t', m', h => by
    simp only [opsD] at h
    split at h <;> try (simp at h; done)
    split at h
    · split at h <;> try (simp at h; done)
      rename_i v m₁ hv
      exact (opD_grw hcf hv).trans (opsD_grw hcf l _ _ _ _ h)
    · exact opsD_grw hcf l _ _ _ _ h

theorem loopD_grw {body : Tmps → Mem → Option (Ex × Tmps × Mem)} (hb : ∀ t m e t' m', body t m = some (e, t', m') → Grw m m') : ∀ (k : Nat) (t : Tmps) (m : Mem) (e : Ex) (t' : Tmps) (m' : Mem), loopD body k t m = some (e, t', m') → Grw m m'
  | 0, t, m, e, t', m', h => by simp [loopD] at h
  | k + 1, t, m, e, t', m', h => by
    simp only [loopD] at h
    split at h
    · rename_i t₁ m₁ h1
      exact (hb _ _ _ _ _ h1).trans (loopD_grw hb k _ _ _ _ _ h)
    · exact hb _ _ _ _ _ h

theorem codeD_grw {cf : CallF} (hcf : CfGrw cf) {dr : List Oper → Tmps → Mem → Option (Tmps × Mem)} (hdr : ∀ ops t m t' m', dr ops t m = some (t', m') → Grw m m') {k : Nat} :
    ∀ (c : Code) (t : Tmps) (m : Mem) (e : Ex) (t' : Tmps) (m' : Mem), codeD P K G cf dr n k c t m = some (e, t', m') → Grw m m' := by
  intro c
  induction c with
  | skip => intro t m e t' m' h; simp [codeD] at h; rw [h.2.2]; exact Grw.refl _
  | label l => intro t m e t' m' h; simp [codeD] at h; rw [h.2.2]; exact Grw.refl _
  | region id ops draw =>
    intro t m e t' m' h
    simp only [codeD] at h
    split at h <;> simp at h
    rename_i t₁ m₁ h1
    rw [← h.2.2]
    cases draw
    · exact opsD_grw hcf _ _ _ _ _ h1
    · exact hdr _ _ _ _ _ h1
  | seq x y ihx ihy =>
    intro t m e t' m' h
    simp only [codeD] at h
    split at h
    · rename_i t₁ m₁ h1
      exact (ihx _ _ _ _ _ h1).trans (ihy _ _ _ _ _ h)
    · exact ihx _ _ _ _ _ h
  | cond c x y ihx ihy =>
    intro t m e t' m' h
    simp only [codeD] at h
    split at h <;> try (simp at h; done)
    · exact ihx _ _ _ _ _ h
    · exact ihy _ _ _ _ _ h
  | block id c ih =>
    intro t m e t' m' h
    simp only [codeD] at h
    split at h
    · rename_i id' t₁ m₁ h1
      split at h <;> simp at h <;> rw [← h.2.2] <;> exact ih _ _ _ _ _ h1
    · exact ih _ _ _ _ _ h
  | loop c ih => intro t m e t' m' h; simp only [codeD] at h; exact loopD_grw (fun t m e t' m' h => ih t m e t' m' h) _ _ _ _ _ _ h
  | exit id => intro t m e t' m' h; simp [codeD] at h; rw [h.2.2]; exact Grw.refl _
  | ret => intro t m e t' m' h; simp [codeD] at h; rw [h.2.2]; exact Grw.refl _
  | rangeFunc => intro t m e t' m' h; simp [codeD] at h
  | scope => intro t m e t' m' h; simp [codeD] at h
  | goto => intro t m e t' m' h; simp [codeD] at h
  | refuse => intro t m e t' m' h; simp [codeD] at h
end
end Go.DI
