/-
  DiOps: the interpreter's operations that only compute: on related values they answer related values, and the model answers the same.
-/
import Derived.Test.YtapmpddneoghfaaDiRel
import Derived.Laws.StructEq
import Derived.ChangeKeysEq
namespace Go.DI
section
variable {P : Program} {K : TypeId → Bool} {G : Nat} {w : World}

/-! ### types -/
theorem run_sizeOf' {t : TypeId} {n : Nat} (h : szOf P t = some n) : (Go.sizeOf t).run P w = .ok n w := by
  unfold szOf at h
  simp only [Go.sizeOf, typeInfo, Sem.run_bind, run_program, Result.andThen_ok]
  split at h
  · rename_i i hi; simp at h; simp [hi, h]
  · simp at h
theorem run_typeInfo_bytes {t : TypeId} {n : Nat} (h : bytesOf P t = some n) : ∃ i, (typeInfo t).run P w = .ok i w ∧ i.bytes = n := by
  unfold bytesOf at h
  simp only [typeInfo, Sem.run_bind, run_program, Result.andThen_ok]
  split at h
  · rename_i i hi; simp at h; exact ⟨i, by simp [hi], h⟩
  · simp at h
theorem run_zero' {t : TypeId} {z : Value} (h : zeroOf P t = some z) : (zeroValue t).run P w = .ok z w := by
  unfold zeroOf at h
  simp only [zeroValue, typeInfo, Sem.run_bind, run_program, Result.andThen_ok]
  split at h
  · rename_i i hi; simp [hi, h]
  · simp at h
theorem run_und {t : TypeId} {d : TypeDesc} (h : P.underlying t = some d) : (underlying t).run P w = .ok d w := by
  simp [underlying, h]
theorem run_isAgg' {t : TypeId} {b : Bool} (h : aggB P t = some b) : (isAgg t).run P w = .ok b w := by
  unfold aggB at h
  simp only [isAgg, Sem.run_bind]
  split at h
  · rename_i hu; rw [run_und hu]; simp at h; simp [h]
  · rename_i hu; rw [run_und hu]; simp at h; simp [h]
  · rename_i d h1 h2 hu; rw [run_und hu]; simp at h; subst h
    cases d <;> simp_all
  · simp at h

theorem drop_take_extract (cs : Array Value) (off n : Nat) : ((cs.toList.drop off).take n).toArray = cs.extract off (off + n) := by
  apply Array.ext'
  simp [Array.toList_extract, List.extract]

theorem run_part {t : TypeId} {cs : Array Value} {off : Nat} {v : Value} (h : part P t cs.toList off = some v) : (Go.part t cs off).run P w = .ok v w := by
  unfold part at h
  simp only [Go.part, Sem.run_bind]
  split at h
  · rename_i ha
    rw [run_isAgg' ha]
    split at h
    · rename_i n hn
      simp at h
      simp [run_sizeOf' hn, ← h, ← drop_take_extract]
    · simp at h
  · rename_i ha
    rw [run_isAgg' ha]
    simp at h
    simp [h]
  · simp at h

theorem part_rel {ι : Ren} {t : TypeId} {cs cs' : List Value} (hc : VRels ι cs cs') {off : Nat} {v : Value} (h : part P t cs off = some v) : ∃ v', part P t cs' off = some v' ∧ VRel ι v v' := by
  unfold part at h ⊢
  split at h
  · split at h
    · simp at h; subst h; exact ⟨_, rfl, VRel.agg' ((hc.drop _).take _)⟩
    · simp at h
  · obtain ⟨y, hy, hr⟩ := hc.get h; exact ⟨y, by simp [hy], hr⟩
  · simp at h

/-! ### numbers and strings -/
theorem run_binInt {op : BinOp} {k : IntKind} {x y : Int} {t : TypeId} {v : Value} (h : binInt op k x y = some v) (hs : op ≠ .shl ∧ op ≠ .shr) : (binOp op t (.int k x) (.int k y)).run P w = .ok v w := by
  cases op <;> simp only [binInt] at h <;> (try (split at h)) <;> (try (simp at h; done)) <;> (try (simp at h)) <;> (try subst h) <;>
    simp_all [binOp, Op.intArith, Op.intDiv, Op.intBits, Op.intCmp]

theorem run_shiftD {op : BinOp} {k k' : IntKind} {x y : Int} {t : TypeId} {v : Value} (h : shiftD op k x y = some v) (hs : op = .shl ∨ op = .shr) : (binOp op t (.int k x) (.int k' y)).run P w = .ok v w := by
  unfold shiftD at h
  split at h
  · simp at h
  · rename_i hy
    rcases hs with rfl | rfl <;> simp at h <;> subst h <;> simp [binOp, Op.shift, hy]

theorem run_binStr {op : BinOp} {x y : ByteArray} {t : TypeId} {v : Value} (h : binStr op x y = some v) : (binOp op t (.string x) (.string y)).run P w = .ok v w := by
  cases op <;> simp only [binStr] at h <;> (try (split at h)) <;> (try (simp at h; done)) <;> (try (simp at h)) <;> (try subst h) <;>
    simp_all [binOp, Op.stringOp]

/-! ### equality -/
/-- What the list of comparable types is worth. -/
def Plain (P : Program) (K : TypeId → Bool) : Prop := ∀ t, K t = true → P.stoodInHeld t = false ∧ P.eqGuardType P.depth t = false

theorem run_feqF {d : Nat} {xs ys : Array Value} (ih : ∀ (t : TypeId) (a b : Value) (r : Bool), feq P K d t a b = some r → ∀ d', d ≤ d' → (Op.equalIn d' t a b).run P w = .ok r w) {d' : Nat} (hd : d ≤ d') :
    ∀ (fs : List Field) (r : Bool), feqF (fun u o => match part P u xs.toList o, part P u ys.toList o with | some a, some b => feq P K d u a b | _, _ => none) fs = some r →
      (Op.eqFields d' xs ys fs).run P w = .ok r w
  | [], r, h => by simp [feqF] at h; subst h; simp [Op.eqFields]
  | f :: fs, r, h => by
    simp only [feqF] at h
    split at h
    · simp at h
    · rename_i hn
      simp only [Op.eqFields, ne_eq, hn, not_false_eq_true, if_true, Sem.run_bind]
      split at h
      · rename_i he
        split at he
        · rename_i a b ha hb
          rw [run_part ha]; simp only [Result.andThen_ok]; rw [run_part hb]; simp only [Result.andThen_ok]; rw [ih _ _ _ _ he _ hd]
          simp only [Result.andThen_ok, Bool.not_true, Bool.false_eq_true, if_false]
          exact run_feqF ih hd fs r h
        · simp at he
      · rename_i he
        simp at h; subst h
        split at he
        · rename_i a b ha hb
          rw [run_part ha]; simp only [Result.andThen_ok]; rw [run_part hb]; simp only [Result.andThen_ok]; rw [ih _ _ _ _ he _ hd]
          simp
        · simp at he
      · simp at h

theorem run_feqL {d : Nat} {xs ys : Array Value} {e : TypeId} {n : Nat} (ih : ∀ (t : TypeId) (a b : Value) (r : Bool), feq P K d t a b = some r → ∀ d', d ≤ d' → (Op.equalIn d' t a b).run P w = .ok r w) {d' : Nat} (hd : d ≤ d') :
    ∀ (len i : Nat) (r : Bool), feqL (fun i => match part P e xs.toList (i * n), part P e ys.toList (i * n) with | some a, some b => feq P K d e a b | _, _ => none) len i = some r →
      (Op.eqItems d' e n xs ys (List.range' i len)).run P w = .ok r w
  | 0, i, r, h => by simp [feqL] at h; subst h; simp [Op.eqItems]
  | len + 1, i, r, h => by
    simp only [feqL] at h
    rw [List.range'_succ]
    simp only [Op.eqItems, Sem.run_bind]
    split at h
    · rename_i he
      split at he
      · rename_i a b ha hb
        rw [run_part ha]; simp only [Result.andThen_ok]; rw [run_part hb]; simp only [Result.andThen_ok]; rw [ih _ _ _ _ he _ hd]
        simp only [Result.andThen_ok, Bool.not_true, Bool.false_eq_true, if_false]
        exact run_feqL ih hd len (i + 1) r h
      · simp at he
    · rename_i he
      simp at h; subst h
      split at he
      · rename_i a b ha hb
        rw [run_part ha]; simp only [Result.andThen_ok]; rw [run_part hb]; simp only [Result.andThen_ok]; rw [ih _ _ _ _ he _ hd]
        simp
      · simp at he
    · simp at h

theorem szOf_info {t : TypeId} {n : Nat} (h : szOf P t = some n) : ∃ i, P.info? t = some i ∧ P.cellsOf t = n := by
  unfold szOf at h
  split at h
  · rename_i i hi; simp at h; exact ⟨i, hi, by simp [Program.cellsOf, hi, h]⟩
  · simp at h

theorem run_feq (hK : Plain P K) : ∀ (d : Nat) (t : TypeId) (x y : Value) (r : Bool), feq P K d t x y = some r → ∀ d', d ≤ d' → (Op.equalIn d' t x y).run P w = .ok r w
  | 0, t, x, y, r, h, d', hd => by simp [feq] at h
  | d + 1, t, x, y, r, h, d', hd => by
    obtain ⟨d', rfl⟩ : ∃ k, d' = k + 1 := ⟨d' - 1, by omega⟩
    have hd' : d ≤ d' := by omega
    have ih := run_feq hK d
    unfold feq at h
    split at h
    · rename_i hu
      split at h <;> simp at h
      subst h; simp [Op.equalIn, run_und hu]
    · rename_i hu
      split at h <;> try (simp at h; done)
      split at h <;> simp at h
      rename_i hk; subst hk; subst h; simp [Op.equalIn, run_und hu]
    · rename_i hu
      split at h <;> simp at h
      subst h; simp [Op.equalIn, run_und hu]
    · rename_i hu
      split at h <;> simp at h <;> subst h <;> simp [Op.equalIn, run_und hu]
    · rename_i hu
      split at h <;> simp at h <;> subst h <;> simp [Op.equalIn, run_und hu]
    · rename_i hu
      split at h <;> simp at h <;> subst h <;> simp [Op.equalIn, run_und hu]
    · rename_i hu
      split at h <;> simp at h <;> subst h <;> simp [Op.equalIn, run_und hu]
    · rename_i fields hu
      split at h <;> try (simp at h; done)
      split at h <;> try (simp at h; done)
      rename_i xs ys hk
      have hf : P.fieldsOf t = fields := by simp [Program.fieldsOf, hu]
      rw [run_equalIn_struct w d' t xs ys (by rw [hf]; exact hu) (hK t hk).1, hf]
      exact run_feqF ih hd' fields.toList r h
    · rename_i len elem hu
      split at h <;> try (simp at h; done)
      rename_i xs ys
      split at h <;> try (simp at h; done)
      rename_i n hn
      obtain ⟨i, hi, hc⟩ := szOf_info hn
      rw [run_equalIn_array w d' xs ys hu hi, hc, List.range_eq_range']
      exact run_feqL ih hd' len 0 r h
    · simp at h

/-! ### the same on related values -/
theorem feqF_rel {g g' : TypeId → Nat → Option Bool} (hg : ∀ (t : TypeId) (o : Nat) (r : Bool), g t o = some r → g' t o = some r) : ∀ (fs : List Field) (r : Bool), feqF g fs = some r → feqF g' fs = some r
  | [], r, h => h
  | f :: fs, r, h => by
    simp only [feqF] at h ⊢
    split at h
    · simp at h
    · rename_i hn
      simp only [hn, if_false]
      split at h
      · rename_i he; rw [hg _ _ _ he]; exact feqF_rel hg fs r h
      · rename_i he; rw [hg _ _ _ he]; exact h
      · simp at h

theorem feqL_rel {g g' : Nat → Option Bool} (hg : ∀ (i : Nat) (r : Bool), g i = some r → g' i = some r) : ∀ (n i : Nat) (r : Bool), feqL g n i = some r → feqL g' n i = some r
  | 0, i, r, h => h
  | n + 1, i, r, h => by
    simp only [feqL] at h ⊢
    split at h
    · rename_i he; rw [hg _ _ he]; exact feqL_rel hg n (i + 1) r h
    · rename_i he; rw [hg _ _ he]; exact h
    · simp at h

theorem feq_rel {ι : Ren} : ∀ (d : Nat) (t : TypeId) (x y x' y' : Value) (r : Bool), VRel ι x x' → VRel ι y y' → feq P K d t x y = some r → feq P K d t x' y' = some r
  | 0, t, x, y, x', y', r, _, _, h => by simp [feq] at h
  | d + 1, t, x, y, x', y', r, hx, hy, h => by
    have ih := feq_rel (ι := ι) d
    unfold feq at h ⊢
    split at h
    · split at h <;> simp at h
      cases hx; cases hy; simp [h]
    · split at h <;> try (simp at h; done)
      cases hx; cases hy; exact h
    · split at h <;> simp at h
      cases hx; cases hy; simp [h]
    · split at h <;> simp at h
      · cases hx; cases hy <;> simpa using h
      · cases hy; cases hx; simpa using h
    · split at h <;> simp at h
      · cases hx; cases hy <;> simpa using h
      · cases hy; cases hx <;> simpa using h
    · split at h <;> simp at h
      · cases hx; cases hy <;> simpa using h
      · cases hy; cases hx; simpa using h
    · split at h <;> simp at h
      · cases hx; cases hy; simpa using h
      · cases hx; cases hy; simpa using h
      · cases hx; cases hy; simpa using h
    · split at h <;> try (simp at h; done)
      rename_i xs ys
      split at h <;> try (simp at h; done)
      rename_i hk
      obtain ⟨xs', rfl, hxs⟩ := hx.inv_agg
      obtain ⟨ys', rfl, hys⟩ := hy.inv_agg
      simp only [hk, if_true]
      refine feqF_rel (fun u o r he => ?_) _ _ h
      split at he
      · rename_i a b ha hb
        obtain ⟨a', ha', hra⟩ := part_rel hxs ha
        obtain ⟨b', hb', hrb⟩ := part_rel hys hb
        simp only [ha', hb']
        exact ih _ _ _ _ _ _ hra hrb he
      · simp at he
    · split at h <;> try (simp at h; done)
      rename_i xs ys
      split at h <;> try (simp at h; done)
      rename_i n hn
      obtain ⟨xs', rfl, hxs⟩ := hx.inv_agg
      obtain ⟨ys', rfl, hys⟩ := hy.inv_agg
      refine feqL_rel (fun i r he => ?_) _ _ _ h
      split at he
      · rename_i a b ha hb
        obtain ⟨a', ha', hra⟩ := part_rel hxs ha
        obtain ⟨b', hb', hrb⟩ := part_rel hys hb
        simp only [ha', hb']
        exact ih _ _ _ _ _ _ hra hrb he
      · simp at he
    · simp at h

theorem binD_rel {ι : Ren} {op : BinOp} {t : TypeId} {x y x' y' v : Value} (hx : VRel ι x x') (hy : VRel ι y y') (h : binD P K op t x y = some v) : binD P K op t x' y' = some v ∧ VRel ι v v := by
  have hint : ∀ (op : BinOp) (k : IntKind) (a b : Int) (v : Value), binInt op k a b = some v → VRel ι v v := by
    intro op k a b v h
    cases op <;> simp only [binInt] at h <;> (try (split at h)) <;> (try (simp at h; done)) <;> simp at h <;> subst h <;> constructor
  have hsh : ∀ (op : BinOp) (k : IntKind) (a b : Int) (v : Value), shiftD op k a b = some v → VRel ι v v := by
    intro op k a b v h
    unfold shiftD at h
    split at h
    · simp at h
    · cases op <;> simp at h <;> subst h <;> constructor
  have hst : ∀ (op : BinOp) (a b : ByteArray) (v : Value), binStr op a b = some v → VRel ι v v := by
    intro op a b v h
    cases op <;> simp only [binStr] at h <;> (try (split at h)) <;> (try (simp at h; done)) <;> simp at h <;> subst h <;> constructor
  have heq : ∀ (a b a' b' v : Value), VRel ι a a' → VRel ι b b' → eqD P K op t a b = some v → eqD P K op t a' b' = some v ∧ VRel ι v v := by
    intro a b a' b' v ha hb h
    unfold eqD at h ⊢
    cases op <;> simp at h ⊢
    all_goals
      split at h
      · rename_i r hr
        rw [feq_rel 100 t a b a' b' r ha hb hr]
        simp at h ⊢
        subst h
        exact ⟨rfl, .bool _⟩
      · simp at h
  cases x
  case int k a =>
    cases hx
    simp only [binD] at h ⊢
    split at h
    · cases hy
      simp only []
      cases hb : shiftB op with
      | true => simp [hb] at h ⊢; exact ⟨h, hsh _ _ _ _ _ h⟩
      | false =>
        simp only [hb, cond_false] at h ⊢
        refine ⟨h, ?_⟩
        split at h
        · exact hint _ _ _ _ _ h
        · simp at h
    · simp at h
  case string a =>
    cases hx
    simp only [binD] at h ⊢
    split at h
    · cases hy
      exact ⟨h, hst _ _ _ _ h⟩
    · simp at h
  case agg xs =>
    obtain ⟨xs', rfl, hxs⟩ := hx.inv_agg
    simp only [binD] at h ⊢
    split at h
    · rename_i ys
      obtain ⟨ys', rfl, hys⟩ := hy.inv_agg
      split at h
      · rename_i hk
        simp only [hk, if_true]
        exact heq _ _ _ _ v hx hy h
      · simp at h
    · simp at h
  case bool a => cases hx; exact heq _ _ _ _ v (.bool a) hy h
  case pointer a =>
    have := heq _ _ _ _ v hx hy h
    cases hx <;> exact this
  case slice a n c =>
    have := heq _ _ _ _ v hx hy h
    cases hx <;> exact this
  case map a =>
    have := heq _ _ _ _ v hx hy h
    cases hx <;> exact this
  case func f a b =>
    have := heq _ _ _ _ v hx hy h
    cases hx <;> exact this
  case nilFunc =>
    have := heq _ _ _ _ v hx hy h
    cases hx; exact this
  all_goals (simp [binD] at h; done)

theorem run_eqD (hK : Plain P K) {op : BinOp} {t : TypeId} {x y v : Value} (h : eqD P K op t x y = some v) :
    (match op with | .eql => (do pure (Value.bool (← Op.equal t x y)) : Sem Value) | _ => (do pure (Value.bool (!(← Op.equal t x y))))).run P w = .ok v w ∧ (op = .eql ∨ op = .neq) := by
  unfold eqD at h
  cases op <;> simp at h
  all_goals
    split at h
    · rename_i r hr
      have := run_feq (w := w) hK 100 t x y r hr Op.maxDepth (by decide)
      simp at h; subst h
      simp [Op.equal, this]
    · simp at h

theorem run_binD (hK : Plain P K) {op : BinOp} {t : TypeId} {o1 o2 : Operand} {x y v : Value} (h : binD P K op t x y = some v) :
    (do eqGuard op t o1 o2 x y; binOp op t x y).run P w = .ok v w := by
  cases x
  case int k a =>
    simp only [binD] at h
    split at h
    · rename_i k' b
      have hg : (eqGuard op t o1 o2 (.int k a) (.int k' b)).run P w = .ok () w := by cases op <;> simp [eqGuard]
      simp only [Sem.run_bind, hg, Result.andThen_ok]
      cases hb : shiftB op with
      | true =>
        simp only [hb, cond_true] at h
        exact run_shiftD h (by cases op <;> simp_all [shiftB])
      | false =>
        simp only [hb, cond_false] at h
        split at h
        · rename_i hk; subst hk
          exact run_binInt h (by cases op <;> simp_all [shiftB])
        · simp at h
    · simp at h
  case string a =>
    simp only [binD] at h
    split at h
    · rename_i b
      have hg : (eqGuard op t o1 o2 (.string a) (.string b)).run P w = .ok () w := by cases op <;> simp [eqGuard]
      simp only [Sem.run_bind, hg, Result.andThen_ok]
      exact run_binStr h
    · simp at h
  case agg xs =>
    simp only [binD] at h
    split at h
    · rename_i ys
      split at h
      · rename_i hk
        have hg := run_eqGuard_agg (P := P) w op t o1 o2 xs ys (hK t hk).2
        simp only [Sem.run_bind, hg, Result.andThen_ok]
        obtain ⟨h1, h2⟩ := run_eqD (w := w) hK h
        rcases h2 with rfl | rfl <;> simpa [binOp] using h1
      · simp at h
    · simp at h
  case bool a =>
    obtain ⟨h1, h2⟩ := run_eqD (w := w) hK (show eqD P K op t (.bool a) y = some v from h)
    rcases h2 with rfl | rfl <;> simp only [eqGuard] <;> cases y <;> simp_all [binOp, eqD, feq]
  case nilFunc =>
    obtain ⟨h1, h2⟩ := run_eqD (w := w) hK (show eqD P K op t .nilFunc y = some v from h)
    rcases h2 with rfl | rfl <;> simp only [eqGuard] <;> cases y <;> simp_all [binOp, eqD, feq]
  case func f a b =>
    obtain ⟨h1, h2⟩ := run_eqD (w := w) hK (show eqD P K op t (.func f a b) y = some v from h)
    rcases h2 with rfl | rfl <;> simp only [eqGuard] <;> cases y <;> simp_all [binOp, eqD, feq]
  case map a =>
    obtain ⟨h1, h2⟩ := run_eqD (w := w) hK (show eqD P K op t (.map a) y = some v from h)
    rcases h2 with rfl | rfl <;> simp only [eqGuard] <;> cases y <;> simp_all [binOp, eqD, feq]
  case slice a n c =>
    obtain ⟨h1, h2⟩ := run_eqD (w := w) hK (show eqD P K op t (.slice a n c) y = some v from h)
    rcases h2 with rfl | rfl <;> simp only [eqGuard] <;> cases y <;> simp_all [binOp, eqD, feq]
  case pointer a =>
    obtain ⟨h1, h2⟩ := run_eqD (w := w) hK (show eqD P K op t (.pointer a) y = some v from h)
    rcases h2 with rfl | rfl <;> simp only [eqGuard] <;> cases y <;> simp_all [binOp, eqD, feq]
  all_goals (simp [binD] at h; done)
end
end Go.DI
