/-
  DiOps: the interpreter's operations that only compute: on related values they answer related values, and the model answers the same.
-/
import Derived.Test.YtadioopbehiakaaDoorF00
import Derived.Laws.StructEq
import Derived.ChangeKeysEq
import Derived.Laws.Cells
set_option linter.all false
set_option linter.unusedVariables false
set_option linter.unusedSimpArgs false
namespace Go.DI
section
variable {P : Program} {K : TypeId → Bool} {G : Nat} {w : World}
/-! ### types -/
theorem run_sizeOf' {t : TypeId} {n : Nat} (h : szOf P t = some n) : (Go.sizeOf t).run P w = .ok n w := by
  unfold szOf at h
  simp only [Go.sizeOf, typeInfo, Sem.run_bind, run_program, Result.andThen_ok]
  split at h
  · rename_i i hi; simp at h; simp [hi, h]
  · simp at h
theorem run_typeInfo_bytes {t : TypeId} {n : Nat} (h : bytesOf P t = some n) : ∃ i, (typeInfo t).run P w = .ok i w ∧ i.bytes = n := by
  unfold bytesOf at h
  simp only [typeInfo, Sem.run_bind, run_program, Result.andThen_ok]
  split at h
  · rename_i i hi; simp at h; exact ⟨i, by simp [hi], h⟩
  · simp at h
theorem run_zero' {t : TypeId} {z : Value} (h : zeroOf P t = some z) : (zeroValue t).run P w = .ok z w := by
  unfold zeroOf at h
  simp only [zeroValue, typeInfo, Sem.run_bind, run_program, Result.andThen_ok]
  split at h
  · rename_i i hi; simp [hi, h]
  · simp at h
theorem run_und {t : TypeId} {d : TypeDesc} (h : P.underlying t = some d) : (underlying t).run P w = .ok d w := by
  simp [underlying, h]
theorem run_isAgg' {t : TypeId} {b : Bool} (h : aggB P t = some b) : (isAgg t).run P w = .ok b w := by
  unfold aggB at h
  simp only [isAgg, Sem.run_bind]
  split at h
  · rename_i hu; rw [run_und hu]; simp at h; simp [h]
  · rename_i hu; rw [run_und hu]; simp at h; simp [h]
  · rename_i d h1 h2 hu; rw [run_und hu]; simp at h; subst h
    cases d <;> simp_all
  · simp at h
theorem drop_take_extract (cs : Array Value) (off n : Nat) : ((cs.toList.drop off).take n).toArray = cs.extract off (off + n) := by
  apply Array.ext'
  simp [Array.toList_extract, List.extract]
theorem run_part {t : TypeId} {cs : Array Value} {off : Nat} {v : Value} (h : part P t cs.toList off = some v) : (Go.part t cs off).run P w = .ok v w := by
  unfold part at h
  simp only [Go.part, Sem.run_bind]
  split at h
  · rename_i ha
    rw [run_isAgg' ha]
    split at h
    · rename_i n hn
      simp at h
      simp [run_sizeOf' hn, ← h, ← drop_take_extract]
    · simp at h
  · rename_i ha
    rw [run_isAgg' ha]
    simp at h
    simp [h]
  · simp at h
theorem part_rel {ι : Ren} {t : TypeId} {cs cs' : List Value} (hc : VRels ι cs cs') {off : Nat} {v : Value} (h : part P t cs off = some v) : ∃ v', part P t cs' off = some v' ∧ VRel ι v v' := by
  unfold part at h ⊢
  split at h
  · split at h
    · simp at h; subst h; exact ⟨_, rfl, VRel.agg' ((hc.drop _).take _)⟩
    · simp at h
  · obtain ⟨y, hy, hr⟩ := hc.get h; exact ⟨y, by simp [hy], hr⟩
  · simp at h
/-! ### numbers and strings -/
theorem run_binInt {op : BinOp} {k : IntKind} {x y : Int} {t : TypeId} {v : Value} (h : binInt op k x y = some v) (hs : op ≠ .shl ∧ op ≠ .shr) : (binOp op t (.int k x) (.int k y)).run P w = .ok v w := by
  cases op <;> simp only [binInt] at h <;> (try (split at h)) <;> (try (simp at h; done)) <;> (try (simp at h)) <;> (try subst h) <;>
    simp_all [binOp, Op.intArith, Op.intDiv, Op.intBits, Op.intCmp]
theorem run_shiftD {op : BinOp} {k k' : IntKind} {x y : Int} {t : TypeId} {v : Value} (h : shiftD op k x y = some v) (hs : op = .shl ∨ op = .shr) : (binOp op t (.int k x) (.int k' y)).run P w = .ok v w := by
  unfold shiftD at h
  split at h
  · simp at h
  · rename_i hy
    rcases hs with rfl | rfl <;> simp at h <;> subst h <;> simp [binOp, Op.shift, hy]
theorem run_binStr {op : BinOp} {x y : ByteArray} {t : TypeId} {v : Value} (h : binStr op x y = some v) : (binOp op t (.string x) (.string y)).run P w = .ok v w := by
  cases op <;> simp only [binStr] at h <;> (try (split at h)) <;> (try (simp at h; done)) <;> (try (simp at h)) <;> (try subst h) <;>
    simp_all [binOp, Op.stringOp]
/-! ### equality -/
def Plain (P : Program) (K : TypeId → Bool) : Prop := ∀ t, K t = true → P.stoodInHeld t = false ∧ P.eqGuardType P.depth t = false
theorem run_feqF {d : Nat} {xs ys : Array Value} (ih : ∀ (t : TypeId) (a b : Value) (r : Bool), feq P K d t a b = some r → ∀ d', d ≤ d' → (Op.equalIn d' t a b).run P w = .ok r w) {d' : Nat} (hd : d ≤ d') :
    ∀ (fs : List Field) (r : Bool), feqF (fun u o => match part P u xs.toList o, part P u ys.toList o with | some a, some b => feq P K d u a b | _, _ => none) fs = some r →
      (Op.eqFields d' xs ys fs).run P w = .ok r w
  | [], r, h => by simp [feqF] at h; subst h; simp [Op.eqFields]
  | f :: fs, r, h => by
    simp only [feqF] at h
    split at h
    · simp at h
    · rename_i hn
      simp only [Op.eqFields, ne_eq, hn, not_false_eq_true, if_true, Sem.run_bind]
      split at h
      · rename_i he
        split at he
        · rename_i a b ha hb
          rw [run_part ha]; simp only [Result.andThen_ok]; rw [run_part hb]; simp only [Result.andThen_ok]; rw [ih _ _ _ _ he _ hd]
          simp only [Result.andThen_ok, Bool.not_true, Bool.false_eq_true, if_false]
          exact run_feqF ih hd fs r h
        · simp at he
      · rename_i he
        simp at h; subst h
        split at he
        · rename_i a b ha hb
          rw [run_part ha]; simp only [Result.andThen_ok]; rw [run_part hb]; simp only [Result.andThen_ok]; rw [ih _ _ _ _ he _ hd]
          simp
        · simp at he
      · simp at h
theorem run_feqL {d : Nat} {xs ys : Array Value} {e : TypeId} {n : Nat} (ih : ∀ (t : TypeId) (a b : Value) (r : Bool), feq P K d t a b = some r → ∀ d', d ≤ d' → (Op.equalIn d' t a b).run P w = .ok r w) {d' : Nat} (hd : d ≤ d') :
    ∀ (len i : Nat) (r : Bool), feqL (fun i => match part P e xs.toList (i * n), part P e ys.toList (i * n) with | some a, some b => feq P K d e a b | _, _ => none) len i = some r →
      (Op.eqItems d' e n xs ys (List.range' i len)).run P w = .ok r w
  | 0, i, r, h => by simp [feqL] at h; subst h; simp [Op.eqItems]
  | len + 1, i, r, h => by
    simp only [feqL] at h
    rw [List.range'_succ]
    simp only [Op.eqItems, Sem.run_bind]
    split at h
    · rename_i he
      split at he
      · rename_i a b ha hb
        rw [run_part ha]; simp only [Result.andThen_ok]; rw [run_part hb]; simp only [Result.andThen_ok]; rw [ih _ _ _ _ he _ hd]
        simp only [Result.andThen_ok, Bool.not_true, Bool.false_eq_true, if_false]
        exact run_feqL ih hd len (i + 1) r h
      · simp at he
    · rename_i he
      simp at h; subst h
      split at he
      · rename_i a b ha hb
        rw [run_part ha]; simp only [Result.andThen_ok]; rw [run_part hb]; simp only [Result.andThen_ok]; rw [ih _ _ _ _ he _ hd]
        simp
      · simp at he
    · simp at h
theorem szOf_info {t : TypeId} {n : Nat} (h : szOf P t = some n) : ∃ i, P.info? t = some i ∧ P.cellsOf t = n := by
  unfold szOf at h
  split at h
  · rename_i i hi; simp at h; exact ⟨i, hi, by simp [Program.cellsOf, hi, h]⟩
  · simp at h
theorem run_feq (hK : Plain P K) : ∀ (d : Nat) (t : TypeId) (x y : Value) (r : Bool), feq P K d t x y = some r → ∀ d', d ≤ d' → (Op.equalIn d' t x y).run P w = .ok r w
  | 0, t, x, y, r, h, d', hd => by simp [feq] at h
  | d + 1, t, x, y, r, h, d', hd => by
    obtain ⟨d', rfl⟩ : ∃ k, d' = k + 1 := ⟨d' - 1, by omega⟩
    have hd' : d ≤ d' := by omega
    have ih := run_feq hK d
    unfold feq at h
    split at h
    · rename_i hu
      split at h <;> simp at h
      subst h; simp [Op.equalIn, run_und hu]
    · rename_i hu
      split at h <;> try (simp at h; done)
      split at h <;> simp at h
      rename_i hk; subst hk; subst h; simp [Op.equalIn, run_und hu]
    · rename_i hu
      split at h <;> simp at h
      subst h; simp [Op.equalIn, run_und hu]
    · rename_i hu
      split at h <;> simp at h <;> subst h <;> simp [Op.equalIn, run_und hu]
    · rename_i hu
      split at h <;> simp at h <;> subst h <;> simp [Op.equalIn, run_und hu]
    · rename_i hu
      split at h <;> simp at h <;> subst h <;> simp [Op.equalIn, run_und hu]
    · rename_i hu
      split at h <;> simp at h <;> subst h <;> simp [Op.equalIn, run_und hu]
    · rename_i fields hu
      split at h <;> try (simp at h; done)
      split at h <;> try (simp at h; done)
      rename_i xs ys hk
      have hf : P.fieldsOf t = fields := by simp [Program.fieldsOf, hu]
      rw [run_equalIn_struct w d' t xs ys (by rw [hf]; exact hu) (hK t hk).1, hf]
      exact run_feqF ih hd' fields.toList r h
    · rename_i len elem hu
      split at h <;> try (simp at h; done)
      rename_i xs ys
      split at h <;> try (simp at h; done)
      rename_i n hn
      obtain ⟨i, hi, hc⟩ := szOf_info hn
      rw [run_equalIn_array w d' xs ys hu hi, hc, List.range_eq_range']
      exact run_feqL ih hd' len 0 r h
    · simp at h
/-! ### the same on related values -/
theorem feqF_rel {g g' : TypeId → Nat → Option Bool} (hg : ∀ (t : TypeId) (o : Nat) (r : Bool), g t o = some r → g' t o = some r) : ∀ (fs : List Field) (r : Bool), feqF g fs = some r → feqF g' fs = some r
  | [], r, h => h
  | f :: fs, r, h => by
    simp only [feqF] at h ⊢
    split at h
    · simp at h
    · rename_i hn
      simp only [hn, if_false]
      split at h
      · rename_i he; rw [hg _ _ _ he]; exact feqF_rel hg fs r h
      · rename_i he; rw [hg _ _ _ he]; exact h
      · simp at h
theorem feqL_rel {g g' : Nat → Option Bool} (hg : ∀ (i : Nat) (r : Bool), g i = some r → g' i = some r) : ∀ (n i : Nat) (r : Bool), feqL g n i = some r → feqL g' n i = some r
  | 0, i, r, h => h
  | n + 1, i, r, h => by
    simp only [feqL] at h ⊢
    split at h
    · rename_i he; rw [hg _ _ he]; exact feqL_rel hg n (i + 1) r h
    · rename_i he; rw [hg _ _ he]; exact h
    · simp at h
theorem feq_rel {ι : Ren} : ∀ (d : Nat) (t : TypeId) (x y x' y' : Value) (r : Bool), VRel ι x x' → VRel ι y y' → feq P K d t x y = some r → feq P K d t x' y' = some r
  | 0, t, x, y, x', y', r, _, _, h => by simp [feq] at h
  | d + 1, t, x, y, x', y', r, hx, hy, h => by
    have ih := feq_rel (ι := ι) d
    unfold feq at h ⊢
    split at h
    · split at h <;> simp at h
      cases hx; cases hy; simp [h]
    · split at h <;> try (simp at h; done)
      cases hx; cases hy; exact h
    · split at h <;> simp at h
      cases hx; cases hy; simp [h]
    · split at h <;> simp at h
      · cases hx; cases hy <;> simpa using h
      · cases hy; cases hx; simpa using h
    · split at h <;> simp at h
      · cases hx; cases hy <;> simpa using h
      · cases hy; cases hx <;> simpa using h
    · split at h <;> simp at h
      · cases hx; cases hy <;> simpa using h
      · cases hy; cases hx; simpa using h
    · split at h <;> simp at h
      · cases hx; cases hy; simpa using h
      · cases hx; cases hy; simpa using h
      · cases hx; cases hy; simpa using h
    · split at h <;> try (simp at h; done)
      rename_i xs ys
      split at h <;> try (simp at h; done)
      rename_i hk
      obtain ⟨xs', rfl, hxs⟩ := hx.inv_agg
      obtain ⟨ys', rfl, hys⟩ := hy.inv_agg
      simp only [hk, if_true]
      refine feqF_rel (fun u o r he => ?_) _ _ h
      split at he
      · rename_i a b ha hb
        obtain ⟨a', ha', hra⟩ := part_rel hxs ha
        obtain ⟨b', hb', hrb⟩ := part_rel hys hb
        simp only [ha', hb']
        exact ih _ _ _ _ _ _ hra hrb he
      · simp at he
    · split at h <;> try (simp at h; done)
      rename_i xs ys
      split at h <;> try (simp at h; done)
      rename_i n hn
      obtain ⟨xs', rfl, hxs⟩ := hx.inv_agg
      obtain ⟨ys', rfl, hys⟩ := hy.inv_agg
      refine feqL_rel (fun i r he => ?_) _ _ _ h
      split at he
      · rename_i a b ha hb
        obtain ⟨a', ha', hra⟩ := part_rel hxs ha
        obtain ⟨b', hb', hrb⟩ := part_rel hys hb
        simp only [ha', hb']
        exact ih _ _ _ _ _ _ hra hrb he
      · simp at he
    · simp at h
theorem binD_rel {ι : Ren} {op : BinOp} {t : TypeId} {x y x' y' v : Value} (hx : VRel ι x x') (hy : VRel ι y y') (h : binD P K op t x y = some v) : binD P K op t x' y' = some v ∧ VRel ι v v := by
  have hint : ∀ (op : BinOp) (k : IntKind) (a b : Int) (v : Value), binInt op k a b = some v → VRel ι v v := by
    intro op k a b v h
    cases op <;> simp only [binInt] at h <;> (try (split at h)) <;> (try (simp at h; done)) <;> simp at h <;> subst h <;> constructor
  have hsh : ∀ (op : BinOp) (k : IntKind) (a b : Int) (v : Value), shiftD op k a b = some v → VRel ι v v := by
    intro op k a b v h
    unfold shiftD at h
    split at h
    · simp at h
    · cases op <;> simp at h <;> subst h <;> constructor
  have hst : ∀ (op : BinOp) (a b : ByteArray) (v : Value), binStr op a b = some v → VRel ι v v := by
    intro op a b v h
    cases op <;> simp only [binStr] at h <;> (try (split at h)) <;> (try (simp at h; done)) <;> simp at h <;> subst h <;> constructor
  have heq : ∀ (a b a' b' v : Value), VRel ι a a' → VRel ι b b' → eqD P K op t a b = some v → eqD P K op t a' b' = some v ∧ VRel ι v v := by
    intro a b a' b' v ha hb h
    unfold eqD at h ⊢
    cases op <;> simp at h ⊢
    all_goals
      split at h
      · rename_i r hr
        rw [feq_rel 100 t a b a' b' r ha hb hr]
        simp at h ⊢
        subst h
        exact ⟨rfl, .bool _⟩
      · simp at h
  cases x
  case int k a =>
    cases hx
    simp only [binD] at h ⊢
    split at h
    · cases hy
      simp only []
      cases hb : shiftB op with
      | true => simp [hb] at h ⊢; exact ⟨h, hsh _ _ _ _ _ h⟩
      | false =>
        simp only [hb, cond_false] at h ⊢
        refine ⟨h, ?_⟩
        split at h
        · exact hint _ _ _ _ _ h
        · simp at h
    · simp at h
  case string a =>
    cases hx
    simp only [binD] at h ⊢
    split at h
    · cases hy
      exact ⟨h, hst _ _ _ _ h⟩
    · simp at h
  case agg xs =>
    obtain ⟨xs', rfl, hxs⟩ := hx.inv_agg
    simp only [binD] at h ⊢
    split at h
    · rename_i ys
      obtain ⟨ys', rfl, hys⟩ := hy.inv_agg
      split at h
      · rename_i hk
        simp only [hk, if_true]
        exact heq _ _ _ _ v hx hy h
      · simp at h
    · simp at h
  case bool a => cases hx; exact heq _ _ _ _ v (.bool a) hy h
  case pointer a =>
    have := heq _ _ _ _ v hx hy h
    cases hx <;> exact this
  case slice a n c =>
    have := heq _ _ _ _ v hx hy h
    cases hx <;> exact this
  case map a =>
    have := heq _ _ _ _ v hx hy h
    cases hx <;> exact this
  case func f a b =>
    have := heq _ _ _ _ v hx hy h
    cases hx <;> exact this
  case nilFunc =>
    have := heq _ _ _ _ v hx hy h
    cases hx; exact this
  all_goals (simp [binD] at h; done)
theorem run_eqD (hK : Plain P K) {op : BinOp} {t : TypeId} {x y v : Value} (h : eqD P K op t x y = some v) :
    (match op with | .eql => (do pure (Value.bool (← Op.equal t x y)) : Sem Value) | _ => (do pure (Value.bool (!(← Op.equal t x y))))).run P w = .ok v w ∧ (op = .eql ∨ op = .neq) := by
  unfold eqD at h
  cases op <;> simp at h
  all_goals
    split at h
    · rename_i r hr
      have := run_feq (w := w) hK 100 t x y r hr Op.maxDepth (by decide)
      simp at h; subst h
      simp [Op.equal, this]
    · simp at h
theorem run_binD (hK : Plain P K) {op : BinOp} {t : TypeId} {o1 o2 : Operand} {x y v : Value} (h : binD P K op t x y = some v) :
    (do eqGuard op t o1 o2 x y; binOp op t x y).run P w = .ok v w := by
  cases x
  case int k a =>
    simp only [binD] at h
    split at h
    · rename_i k' b
      have hg : (eqGuard op t o1 o2 (.int k a) (.int k' b)).run P w = .ok () w := by cases op <;> simp [eqGuard]
      simp only [Sem.run_bind, hg, Result.andThen_ok]
      cases hb : shiftB op with
      | true =>
        simp only [hb, cond_true] at h
        exact run_shiftD h (by cases op <;> simp_all [shiftB])
      | false =>
        simp only [hb, cond_false] at h
        split at h
        · rename_i hk; subst hk
          exact run_binInt h (by cases op <;> simp_all [shiftB])
        · simp at h
    · simp at h
  case string a =>
    simp only [binD] at h
    split at h
    · rename_i b
      have hg : (eqGuard op t o1 o2 (.string a) (.string b)).run P w = .ok () w := by cases op <;> simp [eqGuard]
      simp only [Sem.run_bind, hg, Result.andThen_ok]
      exact run_binStr h
    · simp at h
  case agg xs =>
    simp only [binD] at h
    split at h
    · rename_i ys
      split at h
      · rename_i hk
        have hg := run_eqGuard_agg (P := P) w op t o1 o2 xs ys (hK t hk).2
        simp only [Sem.run_bind, hg, Result.andThen_ok]
        obtain ⟨h1, h2⟩ := run_eqD (w := w) hK h
        rcases h2 with rfl | rfl <;> simpa [binOp] using h1
      · simp at h
    · simp at h
  case bool a =>
    obtain ⟨h1, h2⟩ := run_eqD (w := w) hK (show eqD P K op t (.bool a) y = some v from h)
    rcases h2 with rfl | rfl <;> simp only [eqGuard] <;> cases y <;> simp_all [binOp, eqD, feq]
  case nilFunc =>
    obtain ⟨h1, h2⟩ := run_eqD (w := w) hK (show eqD P K op t .nilFunc y = some v from h)
    rcases h2 with rfl | rfl <;> simp only [eqGuard] <;> cases y <;> simp_all [binOp, eqD, feq]
  case func f a b =>
    obtain ⟨h1, h2⟩ := run_eqD (w := w) hK (show eqD P K op t (.func f a b) y = some v from h)
    rcases h2 with rfl | rfl <;> simp only [eqGuard] <;> cases y <;> simp_all [binOp, eqD, feq]
  case map a =>
    obtain ⟨h1, h2⟩ := run_eqD (w := w) hK (show eqD P K op t (.map a) y = some v from h)
    rcases h2 with rfl | rfl <;> simp only [eqGuard] <;> cases y <;> simp_all [binOp, eqD, feq]
  case slice a n c =>
    obtain ⟨h1, h2⟩ := run_eqD (w := w) hK (show eqD P K op t (.slice a n c) y = some v from h)
    rcases h2 with rfl | rfl <;> simp only [eqGuard] <;> cases y <;> simp_all [binOp, eqD, feq]
  case pointer a =>
    obtain ⟨h1, h2⟩ := run_eqD (w := w) hK (show eqD P K op t (.pointer a) y = some v from h)
    rcases h2 with rfl | rfl <;> simp only [eqGuard] <;> cases y <;> simp_all [binOp, eqD, feq]
  all_goals (simp [binD] at h; done)
end
end Go.DI
namespace Go.DI
section
variable {P : Program} {K : TypeId → Bool} {G B0 n : Nat} {ι : Ren} {m : Mem} {w : World} {t : Tmps} {a : Act}
theorem unD_ok {op : UnOp} {x x' v : Value} (hx : VRel ι x x') (h : unD op x = some v) : (Op.unary op x').run P w = .ok v w ∧ VRel ι v v := by
  cases x
  case int k q =>
    cases hx
    cases op <;> simp only [unD] at h
    case neg => simp at h; subst h; exact ⟨by simp [Op.unary, Op.intArith], .int _ _⟩
    case xor => simp [binInt] at h; subst h; exact ⟨by simp [Op.unary, Op.intBits], .int _ _⟩
    all_goals (simp at h)
  case bool b =>
    cases hx
    cases op <;> simp only [unD] at h
    case not => simp at h; subst h; exact ⟨by simp [Op.unary], .bool _⟩
    all_goals (simp at h)
  all_goals (simp [unD] at h)
theorem Addr.add_none (b off k : Nat) : (⟨b, off, none⟩ : Addr).add k = ⟨b, off + k, none⟩ := by
  unfold Addr.add
  split
  · rename_i h; subst h; rfl
  · rfl
theorem fieldAddrD_ok {s : TypeId} {f : Nat} {x x' v : Value} (hx : VRel ι x x') (h : fieldAddrD P s f x = some v) :
    ∃ v', (Instr.fieldAt s x' f).run P w = .ok v' w ∧ VRel ι v v' := by
  unfold fieldAddrD at h
  split at h <;> try (simp at h; done)
  rename_i b off
  split at h <;> try (simp at h; done)
  rename_i fields hu
  split at h <;> try (simp at h; done)
  rename_i fd hf
  split at h <;> try (simp at h; done)
  rename_i sz hs
  split at h <;> simp at h
  rename_i hz
  obtain ⟨L, hL, rfl⟩ := hx.inv_ptr
  subst h
  refine ⟨.pointer (some ⟨L.block, L.base + (off + fd.offset), none⟩), ?_, .ptr _ _ _ hL⟩
  have hf' : fields[f]? = some fd := by simpa using hf
  simp [Instr.fieldAt, run_und hu, hf', Instr.sureAddr, fieldPlace, run_sizeOf' hs, hz, Addr.add_none, Nat.add_assoc]
theorem fieldD_ok {s : TypeId} {f : Nat} {x x' v : Value} (hx : VRel ι x x') (h : fieldD P s f x = some v) :
    ∃ v', (Instr.field s x' f).run P w = .ok v' w ∧ VRel ι v v' := by
  unfold fieldD at h
  split at h <;> try (simp at h; done)
  rename_i cs
  split at h <;> try (simp at h; done)
  rename_i fields hu
  split at h <;> try (simp at h; done)
  rename_i fd hf
  obtain ⟨cs', rfl, hcs⟩ := hx.inv_agg
  obtain ⟨v', hv', hr⟩ := part_rel hcs h
  have hf' : fields[f]? = some fd := by simpa using hf
  exact ⟨v', by simp [Instr.field, run_und hu, hf', asAgg, run_part hv'], hr⟩
theorem indexAddrD_ok {s : TypeId} {x x' i v : Value} (hx : VRel ι x x') (h : indexAddrD P s x i = some v) :
    ∃ v', (Instr.indexAt s x' i).run P w = .ok v' w ∧ VRel ι v v' := by
  unfold indexAddrD at h
  split at h <;> try (simp at h; done)
  rename_i k j
  split at h <;> try (simp at h; done)
  · rename_i len elem hu
    split at h <;> try (simp at h; done)
    rename_i b off
    split at h <;> try (simp at h; done)
    rename_i sz hs
    split at h <;> simp at h
    rename_i hb
    obtain ⟨L, hL, rfl⟩ := hx.inv_ptr
    subst h
    refine ⟨.pointer (some ⟨L.block, L.base + (off + j.toNat * sz), none⟩), ?_, .ptr _ _ _ hL⟩
    simp [Instr.indexAt, asIntOf, run_und hu, Instr.sureAddr, hb, run_sizeOf' hs, Addr.add_none, Nat.add_assoc]
  · rename_i elem hu
    split at h <;> try (simp at h; done)
    rename_i b off sp len cap
    split at h <;> try (simp at h; done)
    rename_i sz hs
    split at h <;> simp at h
    rename_i hb
    subst h
    cases hx with
    | slc _ _ _ _ L hL =>
      refine ⟨.pointer (some ⟨L.block, L.base + (off + j.toNat * sz), none⟩), ?_, .ptr _ _ _ hL⟩
      simp [Instr.indexAt, asIntOf, run_und hu, Instr.sureAddr, hb, run_sizeOf' hs, Addr.add_none, Nat.add_assoc]
    | loose _ _ _ _ _ _ L hL hc htot =>
      refine ⟨.pointer (some ⟨L.block, L.base + (off + j.toNat * sz), none⟩), ?_, .ptr _ _ _ hL⟩
      simp [Instr.indexAt, asIntOf, run_und hu, Instr.sureAddr, hb, run_sizeOf' hs, Addr.add_none, Nat.add_assoc]
    | loose0 _ _ _ _ _ L hL htot => simp at hb; omega
    | empty => simp at hb; omega
theorem indexD_ok {s : TypeId} {x x' i v : Value} (hx : VRel ι x x') (h : indexD P s x i = some v) :
    ∃ v', (Instr.index s x' i).run P w = .ok v' w ∧ VRel ι v v' := by
  unfold indexD at h
  split at h <;> try (simp at h; done)
  rename_i k j
  split at h <;> try (simp at h; done)
  · rename_i len elem hu
    split at h <;> try (simp at h; done)
    rename_i cs
    split at h <;> try (simp at h; done)
    rename_i sz hs
    split at h <;> try (simp at h; done)
    rename_i hb
    obtain ⟨cs', rfl, hcs⟩ := hx.inv_agg
    obtain ⟨v', hv', hr⟩ := part_rel hcs h
    refine ⟨v', ?_, hr⟩
    simp [Instr.index, asIntOf, run_und hu, hb, run_sizeOf' hs, run_part hv']
  · rename_i hu
    split at h <;> try (simp at h; done)
    rename_i q
    split at h <;> try (simp at h; done)
    rename_i hj
    split at h <;> simp at h
    rename_i u hb
    subst h
    cases hx
    refine ⟨_, ?_, .int _ _⟩
    have hb' : q[j.toNat]? = some u := by
      have h1 : q.data[j.toNat]? = some u := by simpa using hb
      rw [← h1]
      simp only [getElem?_def]
      rfl
    simp [Instr.index, asIntOf, run_und hu, hj, hb']
theorem boundD_run {y y' : Nat} (hy : y ≤ y') {x : Value} {d r : Nat} (h : boundD y (some x) d = some r) (code : BoundsCode) : (Instr.sliceBound x y' code).run P w = .ok r w ∧ r ≤ y := by
  cases x <;> simp only [boundD] at h <;> try (simp at h; done)
  split at h <;> simp at h
  rename_i k i hb
  subst h
  have : 0 ≤ i ∧ i ≤ (y' : Int) := by omega
  exact ⟨by simp [Instr.sliceBound, asIntOf, this], by omega⟩
theorem boundsD_run {len cap cap' : Nat} (hc : cap ≤ cap') {lo hi mx : Option Value} {l h' m' : Nat} (h : boundsD len cap lo hi mx = some (l, h', m')) (b : Bool) :
    (Instr.sliceBounds b len cap' lo hi mx).run P w = .ok (l, h', if mx.isSome then m' else cap') w ∧ (mx.isSome = false → m' = cap) ∧ m' ≤ cap ∧ (lo.isSome = false → l = 0) ∧ (lo.isSome = true → l ≤ h') ∧ (hi.isSome = true → h' ≤ m') ∧ (hi.isSome = false → h' = len) := by
  unfold boundsD at h
  split at h
  · simp at h
  · rename_i hne
    split at h <;> try (simp at h; done)
    rename_i m₁ hm
    split at h <;> try (simp at h; done)
    rename_i h₁ hh
    split at h <;> simp at h
    rename_i l₁ hl
    obtain ⟨rfl, rfl, rfl⟩ := h
    cases mx with
    | none =>
      simp [boundD] at hm; subst hm
      cases hi with
      | none =>
        simp [boundD] at hh; subst hh
        cases lo with
        | none => simp [boundD] at hl; subst hl; simp [Instr.sliceBounds]
        | some lo => obtain ⟨e1, e2⟩ := boundD_run (P := P) (w := w) (Nat.le_refl _) hl .sliceB; simp [Instr.sliceBounds, e1, e2]
      | some hi =>
        obtain ⟨e3, e4⟩ := boundD_run (P := P) (w := w) hc hh (if b then .sliceAcap else .sliceAlen)
        cases lo with
        | none => simp [boundD] at hl; subst hl; simp [Instr.sliceBounds, e3, e4]
        | some lo => obtain ⟨e1, e2⟩ := boundD_run (P := P) (w := w) (Nat.le_refl _) hl .sliceB; simp [Instr.sliceBounds, e1, e2, e3, e4]
    | some mx =>
      obtain ⟨e5, e6⟩ := boundD_run (P := P) (w := w) hc hm (if b then .slice3Acap else .slice3Alen)
      cases hi with
      | none => exact absurd rfl (hne mx rfl)
      | some hi =>
        obtain ⟨e3, e4⟩ := boundD_run (P := P) (w := w) (Nat.le_refl _) hh .slice3B
        cases lo with
        | none => simp [boundD] at hl; subst hl; simp [Instr.sliceBounds, e3, e4, e5, e6]
        | some lo => obtain ⟨e1, e2⟩ := boundD_run (P := P) (w := w) (Nat.le_refl _) hl .slice3C; simp [Instr.sliceBounds, e1, e2, e3, e4, e5, e6]
def ORel (ι : Ren) : Option Value → Option Value → Prop
  | none, none => True
  | some v, some v' => VRel ι v v'
  | _, _ => False
theorem boundD_rel {ι : Ren} {y d : Nat} {x x' : Option Value} (h : ORel ι x x') {r : Nat} (hb : boundD y x d = some r) : boundD y x' d = some r := by
  cases x <;> cases x' <;> simp only [ORel] at h
  · exact hb
  · rename_i v v'
    cases v <;> simp only [boundD] at hb <;> try (simp at hb; done)
    cases h; exact hb
theorem boundsD_rel {ι : Ren} {len cap : Nat} {lo lo' hi hi' mx mx' : Option Value} (h1 : ORel ι lo lo') (h2 : ORel ι hi hi') (h3 : ORel ι mx mx') {r : Nat × Nat × Nat} (h : boundsD len cap lo hi mx = some r) :
    boundsD len cap lo' hi' mx' = some r := by
  unfold boundsD at h ⊢
  split at h
  · simp at h
  · rename_i hne
    split at h <;> try (simp at h; done)
    rename_i m₁ hm
    split at h <;> try (simp at h; done)
    rename_i h₁ hh
    split at h <;> simp at h
    rename_i l₁ hl
    have hne' : ∀ (v : Value), mx' = some v → hi' = none → False := by
      intro v e1 e2
      subst e1 e2
      cases mx <;> cases hi <;> simp_all [ORel]
    split
    · exact (hne' _ rfl rfl).elim
    · simp [boundD_rel h3 hm, boundD_rel h2 hh, boundD_rel h1 hl, h]
theorem sliceD_ok {s : TypeId} {x x' v : Value} {lo lo' hi hi' mx mx' : Option Value} (hx : VRel ι x x') (h1 : ORel ι lo lo') (h2 : ORel ι hi hi') (h3 : ORel ι mx mx') (h : sliceD P s x lo hi mx = some v) :
    ∃ v', (Instr.sliceAt s x' lo' hi' mx').run P w = .ok v' w ∧ VRel ι v v' := by
  have hsome : mx'.isSome = mx.isSome := by cases mx <;> cases mx' <;> simp_all [ORel]
  unfold sliceD at h
  split at h <;> try (simp at h; done)
  · rename_i hu
    split at h <;> try (simp at h; done)
    rename_i q
    split at h <;> try (simp at h; done)
    split at h <;> simp at h
    rename_i l h' m₁ hb
    subst h
    cases hx
    have hb' := boundsD_rel h1 h2 h3 hb
    obtain ⟨e, _⟩ := boundsD_run (P := P) (w := w) (Nat.le_refl _) hb' false
    cases mx' <;> simp [ORel] at h3
    refine ⟨_, ?_, .string _⟩
    simp at e
    simp [Instr.sliceAt, run_und hu, Instr.slice, e]
  · rename_i elem hu
    split at h <;> try (simp at h; done)
    · rename_i len cap
      split at h <;> simp at h
      rename_i l h' m₁ sz hb hsz
      subst h
      cases hx
      have hb' := boundsD_rel h1 h2 h3 hb
      obtain ⟨e, g1, _⟩ := boundsD_run (P := P) (w := w) (Nat.le_refl _) hb' true
      have e2 : (if mx'.isSome = true then m₁ else cap) = m₁ := by
        cases hm : mx'.isSome
        · simp [g1 hm]
        · simp
      rw [e2] at e
      refine ⟨.slice none (h' - l) (m₁ - l), ?_, .slc0 _ _⟩
      simp [Instr.sliceAt, run_und hu, Instr.slice, e, run_sizeOf' hsz]
    · rename_i b off len cap
      split at h <;> simp at h
      rename_i l h' m₁ sz hb hsz
      subst h
      cases hx with
      | slc _ _ _ _ L hL =>
        have hb' := boundsD_rel h1 h2 h3 hb
        obtain ⟨e, g1, _⟩ := boundsD_run (P := P) (w := w) (Nat.le_refl _) hb' true
        have e2 : (if mx'.isSome = true then m₁ else cap) = m₁ := by
          cases hm : mx'.isSome
          · simp [g1 hm]
          · simp
        rw [e2] at e
        by_cases hml : m₁ = l
        · refine ⟨.slice (some ⟨L.block, L.base + off, none⟩) (h' - l) (m₁ - l), ?_, by simp only [hml, if_true]; exact .slc _ _ _ _ _ hL⟩
          simp [Instr.sliceAt, run_und hu, Instr.slice, e, run_sizeOf' hsz, hml]
        · refine ⟨.slice (some ⟨L.block, L.base + (off + l * sz), none⟩) (h' - l) (m₁ - l), ?_, by simp only [hml, if_false]; exact .slc _ _ _ _ _ hL⟩
          simp [Instr.sliceAt, run_und hu, Instr.slice, e, run_sizeOf' hsz, hml, Addr.add_none, Nat.add_assoc]
    · rename_i b off e₀ len cap
      split at h <;> try (simp at h; done)
      rename_i l h' m₁ sz hb hsz
      split at h <;> try (simp at h; done)
      rename_i hc
      obtain ⟨rfl, hlh, hhm⟩ := hc
      have hb' := boundsD_rel h1 h2 h3 hb
      cases hx with
      | loose _ _ _ _ _ cap' L hL hcc htot =>
        obtain ⟨e, g1, g2, _⟩ := boundsD_run (P := P) (w := w) hcc hb' true
        cases hm : mx'.isSome
        · have hm2 : mx.isSome = false := by rw [← hsome, hm]
          have g1' := g1 hm
          rw [hm2] at h
          simp at h
          subst h
          rw [hm] at e
          simp only [Bool.false_eq_true, if_false] at e
          by_cases hml : cap' = l
          · have h0 : h' - l = 0 := by omega
            have h4 : m₁ - l = 0 := by omega
            refine ⟨.slice (some ⟨L.block, L.base + off, none⟩) (h' - l) (cap' - l), ?_, ?_⟩
            · simp [Instr.sliceAt, run_und hu, Instr.slice, e, run_sizeOf' hsz]; simp [hml]
            · rw [h0, h4]; exact .loose0 _ _ _ _ _ L hL (by rw [hml]; simp; omega)
          · refine ⟨.slice (some ⟨L.block, L.base + (off + l * sz), none⟩) (h' - l) (cap' - l), ?_, ?_⟩
            · simp [Instr.sliceAt, run_und hu, Instr.slice, e, run_sizeOf' hsz, hml, Addr.add_none, Nat.add_assoc]
            · refine .loose _ _ _ _ _ _ L hL (by omega) ?_
              have : l * sz + (cap' - l) * sz = cap' * sz := by rw [← Nat.add_mul]; congr 1; omega
              omega
        · have hm2 : mx.isSome = true := by rw [← hsome, hm]
          rw [hm2] at h
          simp only [if_true] at h
          rw [hm] at e
          simp only [if_true] at e
          by_cases hml : m₁ = l
          · simp only [hml, if_true] at h
            simp at h; subst h
            have h0 : h' - l = 0 := by omega
            refine ⟨.slice (some ⟨L.block, L.base + off, none⟩) (h' - l) (m₁ - l), ?_, ?_⟩
            · simp [Instr.sliceAt, run_und hu, Instr.slice, e, run_sizeOf' hsz, hml]
            · rw [h0]; exact .loose0 _ _ _ _ _ L hL (by rw [hml]; simp; omega)
          · simp only [hml, if_false] at h
            simp at h; subst h
            refine ⟨.slice (some ⟨L.block, L.base + (off + l * sz), none⟩) (h' - l) (m₁ - l), ?_, .slc _ _ _ _ _ hL⟩
            simp [Instr.sliceAt, run_und hu, Instr.slice, e, run_sizeOf' hsz, hml, Addr.add_none, Nat.add_assoc]
      | loose0 _ _ _ o' cap' L hL htot =>
        obtain ⟨e, g1, g2, _⟩ := boundsD_run (P := P) (w := w) (Nat.zero_le cap') hb' true
        have z1 : m₁ = 0 := by omega
        have z2 : h' = 0 := by omega
        have z3 : l = 0 := by omega
        subst z1 z2 z3
        cases hm : mx'.isSome
        · have hm2 : mx.isSome = false := by rw [← hsome, hm]
          rw [hm2] at h
          simp at h
          subst h
          rw [hm] at e
          simp only [Bool.false_eq_true, if_false] at e
          refine ⟨.slice (some ⟨L.block, o', none⟩) 0 cap', ?_, .loose0 _ _ _ _ _ L hL htot⟩
          simp [Instr.sliceAt, run_und hu, Instr.slice, e, run_sizeOf' hsz, Addr.add_none]
        · have hm2 : mx.isSome = true := by rw [← hsome, hm]
          rw [hm2] at h
          simp at h
          subst h
          rw [hm] at e
          simp only [if_true] at e
          refine ⟨.slice (some ⟨L.block, o', none⟩) 0 0, ?_, .loose0 _ _ _ _ _ L hL (by simp; omega)⟩
          simp [Instr.sliceAt, run_und hu, Instr.slice, e, run_sizeOf' hsz, Addr.add_none]
      | empty b off e₁ ad =>
        obtain ⟨e, g1, g2, _⟩ := boundsD_run (P := P) (w := w) (Nat.le_refl 0) hb' true
        have z1 : m₁ = 0 := by omega
        have z2 : h' = 0 := by omega
        have z3 : l = 0 := by omega
        subst z1 z2 z3
        cases hm : mx'.isSome
        · have hm2 : mx.isSome = false := by rw [← hsome, hm]
          rw [hm2] at h
          simp at h
          subst h
          rw [hm] at e
          simp only [Bool.false_eq_true, if_false] at e
          refine ⟨.slice (some ad) 0 0, ?_, .empty _ _ _ _⟩
          simp [Instr.sliceAt, run_und hu, Instr.slice, e, run_sizeOf' hsz]
        · have hm2 : mx.isSome = true := by rw [← hsome, hm]
          rw [hm2] at h
          simp at h
          subst h
          rw [hm] at e
          simp only [if_true] at e
          refine ⟨.slice (some ad) 0 0, ?_, .empty _ _ _ _⟩
          simp [Instr.sliceAt, run_und hu, Instr.slice, e, run_sizeOf' hsz]
  · rename_i len elem hu
    split at h <;> try (simp at h; done)
    rename_i b off
    split at h <;> simp at h
    rename_i l h' m₁ sz hb hsz
    subst h
    obtain ⟨L, hL, rfl⟩ := hx.inv_ptr
    have hb' := boundsD_rel h1 h2 h3 hb
    obtain ⟨e, g1, _⟩ := boundsD_run (P := P) (w := w) (Nat.le_refl _) hb' false
    have e2 : (if mx'.isSome = true then m₁ else len) = m₁ := by
      cases hm : mx'.isSome
      · simp [g1 hm]
      · simp
    rw [e2] at e
    by_cases hml : m₁ = l
    · refine ⟨.slice (some ⟨L.block, L.base + off, none⟩) (h' - l) (m₁ - l), ?_, by simp only [hml, if_true]; exact .slc _ _ _ _ _ hL⟩
      simp [Instr.sliceAt, run_und hu, Instr.sureAddr, e, run_sizeOf' hsz, hml]
    · refine ⟨.slice (some ⟨L.block, L.base + (off + l * sz), none⟩) (h' - l) (m₁ - l), ?_, by simp only [hml, if_false]; exact .slc _ _ _ _ _ hL⟩
      simp [Instr.sliceAt, run_und hu, Instr.sureAddr, e, run_sizeOf' hsz, hml, Addr.add_none, Nat.add_assoc]
end
end Go.DI
namespace Go.DI
section
variable {P : Program} {K : TypeId → Bool} {G B0 n : Nat} {ι : Ren} {m : Mem} {w : World} {t : Tmps} {a : Act}
def setBlk (w : World) (b : Nat) (o : Obj) : World := { w with heap := w.heap.setIfInBounds b o }
theorem modify_eq_set {α : Type} (a : Array α) (i : Nat) (f : α → α) (x : α) (h : a[i]? = some x) : a.modify i f = a.setIfInBounds i (f x) := by
  apply Array.ext_getElem?
  intro j
  rw [Array.getElem?_modify, Array.getElem?_setIfInBounds]
  have hi : i < a.size := by
    rcases Nat.lt_or_ge i a.size with h1 | h1
    · exact h1
    · rw [Array.getElem?_eq_none h1] at h; cases h
  by_cases hij : i = j
  · subst hij
    have hx : a[i] = x := by rw [Array.getElem?_eq_getElem hi] at h; exact Option.some.inj h
    simp [hi, hx]
  · simp [hij]
theorem setCell_eq {b o : Nat} {c : Array Value} {e : TypeId} {fr : Nat × Nat} (h : w.heap[b]? = some (.cells c e fr)) (v : Value) :
    w.setCell ⟨b, o, none⟩ v = setBlk w b (.cells (c.setIfInBounds o v) e fr) := by
  simp only [World.setCell, setBlk]
  rw [modify_eq_set _ _ _ _ h]
  simp
theorem setBlk_get (w : World) (b j : Nat) (o : Obj) (hb : b < w.heap.size) : (setBlk w b o).heap[j]? = if j = b then some o else w.heap[j]? := by
  simp only [setBlk, Array.getElem?_setIfInBounds]
  by_cases h : b = j
  · subst h; simp [hb]
  · have : ¬ j = b := fun h' => h h'.symm
    simp [h, this]
theorem setBlk_setBlk (w : World) (b : Nat) (o o' : Obj) : setBlk (setBlk w b o) b o' = setBlk w b o' := by
  simp only [setBlk]
  congr 1
  apply Array.ext_getElem?
  intro j
  simp only [Array.getElem?_setIfInBounds, Array.size_setIfInBounds]
  split <;> simp_all
theorem lt_of_get {b : Nat} {o : Obj} (h : w.heap[b]? = some o) : b < w.heap.size := by
  rcases Nat.lt_or_ge b w.heap.size with h1 | h1
  · exact h1
  · rw [Array.getElem?_eq_none h1] at h; cases h
theorem one_oneCell {v : Value} (h : one v = true) : v.oneCell' = true := by cases v <;> simp_all [one, Value.oneCell']
theorem splice_length (c vs : List Value) (off : Nat) (h : off + vs.length ≤ c.length) : (splice c off vs).length = c.length := by
  simp only [splice, List.length_append, List.length_take, List.length_drop]; omega
theorem splice_get (c vs : List Value) (off i : Nat) (h : off + vs.length ≤ c.length) : (splice c off vs)[i]? = if off ≤ i ∧ i < off + vs.length then vs[i - off]? else c[i]? := by
  unfold splice
  rw [List.getElem?_append, List.length_take]
  have hm : min off c.length = off := by omega
  rw [hm]
  by_cases h1 : i < off
  · have : ¬ (off ≤ i ∧ i < off + vs.length) := by omega
    simp [h1, this, List.getElem?_take]
  · simp only [h1, if_false]
    rw [List.getElem?_append]
    by_cases h2 : i - off < vs.length
    · have : off ≤ i ∧ i < off + vs.length := by omega
      simp [h2, this]
    · have : ¬ (off ≤ i ∧ i < off + vs.length) := by omega
      simp only [h2, if_false, this, List.getElem?_drop]
      congr 1; omega
theorem splice_cons (c vs : List Value) (off : Nat) (v : Value) (h : off + (vs.length + 1) ≤ c.length) : splice (c.set off v) (off + 1) vs = splice c off (v :: vs) := by
  apply List.ext_getElem?
  intro i
  rw [splice_get _ _ _ _ (by simp; omega), splice_get _ _ _ _ (by simpa using h)]
  by_cases h1 : off + 1 ≤ i ∧ i < off + 1 + vs.length
  · have h2 : off ≤ i ∧ i < off + (v :: vs).length := by simp; omega
    rw [if_pos h1, if_pos h2]
    obtain ⟨k, rfl⟩ : ∃ k, i = off + 1 + k := ⟨i - (off + 1), by omega⟩
    have e1 : off + 1 + k - (off + 1) = k := by omega
    have e2 : off + 1 + k - off = k + 1 := by omega
    rw [e1, e2]; rfl
  · rw [if_neg h1, List.getElem?_set]
    by_cases h3 : off = i
    · subst h3
      have h2 : off ≤ off ∧ off < off + (v :: vs).length := by simp
      rw [if_pos h2]
      have : off < c.length := by omega
      simp [this]
    · have h2 : ¬ (off ≤ i ∧ i < off + (v :: vs).length) := by simp; omega
      rw [if_neg h2]
      simp [h3]
theorem run_storeCells' (b : Nat) (e : TypeId) (fr : Nat × Nat) : ∀ (vs : List Value) (o i : Nat) (cur : Array Value) (w : World), w.heap[b]? = some (.cells cur e fr) → o + i + vs.length ≤ cur.size →
    (∀ j, o + i ≤ j → j < o + i + vs.length → ¬ (fr.1 ≤ j ∧ j < fr.2)) → vs.all one = true → (storeCells ⟨b, o, none⟩ vs i).run P w = .ok () (setBlk w b (.cells (splice cur.toList (o + i) vs).toArray e fr))
  | [], o, i, cur, w, hb, hl, hf, h1 => by
    have h0 : setBlk w b (.cells (splice cur.toList (o + i) []).toArray e fr) = w := by
      have : splice cur.toList (o + i) [] = cur.toList := by simp [splice]
      rw [this]
      simp only [setBlk, Array.toArray_toList]
      have : w.heap.setIfInBounds b (.cells cur e fr) = w.heap := by
        apply Array.ext_getElem?
        intro j
        rw [Array.getElem?_setIfInBounds]
        split
        · rename_i hj; subst hj; split
          · exact hb.symm
          · rename_i hn; exact (Array.getElem?_eq_none (by omega)).symm
        · rfl
      rw [this]
    simp [storeCells, h0]
  | v :: vs, o, i, cur, w, hb, hl, hf, h1 => by
    simp only [List.all_cons, Bool.and_eq_true] at h1
    simp only [List.length_cons] at hl hf
    have hlt : o + i < cur.size := by omega
    have hc : w.cell? ⟨b, o + i, none⟩ = some cur[o + i] := by simp [World.cell?, hb, hlt]
    have hz : w.frozen? ⟨b, o + i, none⟩ = false := by
      have := hf (o + i) (Nat.le_refl _) (by omega)
      simp only [World.frozen?, hb]
      simp only [Bool.and_eq_false_iff, decide_eq_false_iff_not]
      omega
    simp only [storeCells, Addr.add_none, Sem.run_bind]
    rw [run_store P w _ _ _ (one_oneCell h1.1), hc]
    simp only [hz, Bool.false_eq_true, if_false, Result.andThen_ok]
    rw [setCell_eq hb]
    have ih := run_storeCells' b e fr vs o (i + 1) (cur.setIfInBounds (o + i) v) (setBlk w b (.cells (cur.setIfInBounds (o + i) v) e fr))
      (by rw [setBlk_get _ _ _ _ (lt_of_get hb)]; simp) (by simp; omega) (fun j g1 g2 => hf j (by omega) (by omega)) h1.2
    rw [ih, setBlk_setBlk]
    have e1 : (cur.setIfInBounds (o + i) v).toList = cur.toList.set (o + i) v := by simp
    rw [e1, show o + (i + 1) = (o + i) + 1 from rfl, splice_cons _ _ _ _ (by simp; omega)]
theorem Rel.get_lt (hr : Rel B0 G ι m w) {b : Nat} (h : m.get b ≠ .none) : b < m.size := by
  rcases Nat.lt_or_ge b m.size with h1 | h1
  · exact h1
  · exact absurd (hr.top b h1) h
theorem loadC_ok (hr : Rel B0 G ι m w) {b off k : Nat} {c : List Value} {L : Loc} (hL : ι b = some L) (h : loadC m b off k = some c) :
    ∃ c', (loadCells ⟨L.block, L.base + off, none⟩ k).run P w = .ok c'.toArray w ∧ VRels ι c c' := by
  unfold loadC at h
  split at h <;> try (simp at h; done)
  rename_i own cs hg
  split at h <;> simp at h
  rename_i hle
  have hlt := hr.get_lt (b := b) (by rw [hg]; simp)
  have hb := hr.blk b L hlt hL
  rw [hg] at hb
  obtain ⟨rc, e, fr, h1, h2, h3, h4, h5⟩ := hb
  have hlen : c.length = k := by rw [← h]; simp; omega
  refine ⟨(rc.toList.drop (L.base + off)).take k, ?_, ?_⟩
  · have hl : ((rc.toList.drop (L.base + off)).take k).length = k := by simp; omega
    have := run_loadCells_list (P := P) w ⟨L.block, L.base + off, none⟩ ((rc.toList.drop (L.base + off)).take k) (fun j v hj => by
      rw [Addr.add_none]
      simp only [World.cell?, h1]
      rw [List.getElem?_take] at hj
      split at hj
      · rw [List.getElem?_drop] at hj; simpa using hj
      · simp at hj)
    rw [hl] at this
    exact this
  · refine LRel.of_get (by rw [hlen]; simp; omega) fun i x y hx hy => ?_
    rw [← h] at hx
    rw [List.getElem?_take] at hx hy
    split at hx
    · rename_i hi
      rw [List.getElem?_drop] at hx
      simp only [hi, if_true, List.getElem?_drop] at hy
      obtain ⟨v', hv', hrel⟩ := h4 _ _ hx
      have e1 : L.base + off + i = L.base + (off + i) := by omega
      rw [e1] at hy
      rw [Array.getElem?_toList, hv'] at hy
      cases hy
      exact hrel
    · simp at hx
theorem loadD_ok (hr : Rel B0 G ι m w) {s : TypeId} {x x' v : Value} (hx : VRel ι x x') (h : loadD P m s x = some v) : ∃ v', (Instr.loadAt s x').run P w = .ok v' w ∧ VRel ι v v' := by
  unfold loadD at h
  split at h <;> try (simp at h; done)
  rename_i b off
  obtain ⟨L, hL, rfl⟩ := hx.inv_ptr
  split at h <;> try (simp at h; done)
  · rename_i ha
    split at h <;> try (simp at h; done)
    rename_i k hk
    split at h <;> simp at h
    rename_i c hc
    subst h
    obtain ⟨c', h1, h2⟩ := loadC_ok (P := P) hr hL hc
    exact ⟨.agg c'.toArray, by simp [Instr.loadAt, Instr.sureAddr, loadVar, run_isAgg' ha, run_sizeOf' hk, h1], VRel.agg' h2⟩
  · rename_i ha
    split at h <;> try (simp at h; done)
    rename_i own c hg
    have hlt := hr.get_lt (b := b) (by rw [hg]; simp)
    have hb := hr.blk b L hlt hL
    rw [hg] at hb
    obtain ⟨rc, e, fr, h1, h2, h3, h4, h5⟩ := hb
    obtain ⟨v', hv', hrel⟩ := h4 _ _ h
    refine ⟨v', ?_, hrel⟩
    have hc : w.cell? ⟨L.block, L.base + off, none⟩ = some v' := by simp [World.cell?, h1, hv']
    simp [Instr.loadAt, Instr.sureAddr, loadVar, run_isAgg' ha, hc]
theorem Rel.set (hr : Rel B0 G ι m w) {b : Nat} {L : Loc} (hL : ι b = some L) (hlt : b < m.size) {x : Blk} (hold : (m.get b).own = true) {o : Obj}
    (hnew : BlkRel B0 ι x L (setBlk w L.block o)) (hlive : x.live → (m.get b).live) (hown : x.own = true → (m.get b).own = true) :
    Rel B0 G ι (m.set b x) (setBlk w L.block o) ∧ Stp ι ι m (m.set b x) w (setBlk w L.block o) := by
  have hs : (setBlk w L.block o).heap.size = w.heap.size := by simp [setBlk]
  have hold' : (m.get b).live := by
    cases hg : m.get b <;> simp_all [Blk.own, Blk.live]
  refine ⟨⟨fun b' L' hb' hL' => ?_, fun b₁ b₂ L₁ L₂ h1 h2 h3 h4 l1 l2 g0 e => ?_, by rw [hs]; exact hr.floor, hr.glob, fun b' hb' => ?_⟩,
    ⟨fun _ _ h => h, fun _ _ => rfl, rfl, rfl, rfl, by rw [hs]; exact Nat.le_refl _, fun B hB hn => ?_, fun b' L' h1 h2 => by simp at h2; omega, Nat.le_refl _, fun b' hb' ho => ?_⟩⟩
  · rw [Mem.get_set]
    by_cases e : b' = b
    · subst e
      rw [hL] at hL'
      cases hL'
      simpa using hnew
    · simp only [e, if_false]
      have hbr := hr.blk b' L' hb' hL'
      by_cases hlv : (m.get b').live
      · refine hbr.mono (fun _ _ h => h) ?_
        rw [setBlk_get _ _ _ _ (hr.old b L hL hold'), if_neg]
        intro e2
        exact e (hr.inj b' b L' L hb' hlt hL' hL hlv hold' (Nat.le_trans ((hr.blk b L hlt hL).own_floor hold) (Nat.le_of_eq e2.symm)) e2)
      · cases hg : m.get b' <;> simp_all [Blk.live, BlkRel]
  · have g1 : (m.get b₁).live := by
      rw [Mem.get_set] at l1
      by_cases e1 : b₁ = b
      · subst e1; simp at l1; exact hlive l1
      · simpa [e1] using l1
    have g2 : (m.get b₂).live := by
      rw [Mem.get_set] at l2
      by_cases e1 : b₂ = b
      · subst e1; simp at l2; exact hlive l2
      · simpa [e1] using l2
    exact hr.inj b₁ b₂ L₁ L₂ h1 h2 h3 h4 g1 g2 g0 e
  · rw [Mem.get_set, if_neg (by simp at hb'; omega)]; exact hr.top b' hb'
  · rw [setBlk_get _ _ _ _ (hr.old b L hL hold'), if_neg]
    intro e
    exact hn b L hlt hL hold e.symm
  · rw [Mem.get_set] at ho
    by_cases e1 : b' = b
    · subst e1; simp at ho; exact hown ho
    · simpa [e1] using ho
theorem storeC_ok (hr : Rel B0 G ι m w) {b off : Nat} {vs vs' : List Value} {L : Loc} (hL : ι b = some L) (hv : VRels ι vs vs') {m' : Mem} (h : storeC m b off vs = some m') :
    ∃ w', (storeCells ⟨L.block, L.base + off, none⟩ vs').run P w = .ok () w' ∧ Rel B0 G ι m' w' ∧ Stp ι ι m m' w w' := by
  unfold storeC at h
  split at h <;> try (simp at h; done)
  rename_i c hg
  split at h <;> try (simp at h; done)
  rename_i hle
  split at h <;> simp at h
  rename_i hone
  subst h
  have hlt := hr.get_lt (b := b) (by rw [hg]; simp)
  have hb := hr.blk b L hlt hL
  rw [hg] at hb
  obtain ⟨rc, e, fr, h1, h2, h3, h4, h5⟩ := hb
  have hlen := hv.length
  have hone' : vs'.all one = true := by rw [← hv.all fun _ _ h => h.one]; simpa using hone
  have hrun := run_storeCells' (P := P) L.block e fr vs' (L.base + off) 0 rc w h1 (by omega) (fun j g1 g2 => (h5 rfl).2 j (by omega)) hone'
  refine ⟨_, hrun, Rel.set hr hL hlt (by rw [hg]; rfl) ?_ (by rw [hg]; simp [Blk.live]) (by rw [hg]; simp [Blk.own])⟩
  have hsl := splice_length c vs off hle
  refine ⟨_, e, fr, by rw [setBlk_get _ _ _ _ (lt_of_get h1)]; simp; rfl, ?_, by rw [hsl]; exact h3, fun i v hv' => ?_, h5⟩
  · rw [List.size_toArray, splice_length _ _ _ (by simp; omega)]; simpa using h2
  · rw [splice_get _ _ _ _ hle] at hv'
    simp only [List.getElem?_toArray, Nat.add_zero]
    rw [splice_get _ _ _ _ (by simp; omega)]
    split at hv'
    · rename_i hi
      obtain ⟨y, hy, hry⟩ := hv.get hv'
      refine ⟨y, ?_, hry⟩
      rw [if_pos (by omega), ← hy]
      congr 1; omega
    · rename_i hi
      obtain ⟨y, hy, hry⟩ := h4 _ _ hv'
      refine ⟨y, ?_, hry⟩
      rw [if_neg (by omega)]
      simpa using hy
theorem storeD_ok (hr : Rel B0 G ι m w) {s : TypeId} {x x' v v' : Value} (hx : VRel ι x x') (hv : VRel ι v v') {m' : Mem} (h : storeD P m s v x = some m') :
    ∃ w', (Instr.storeAt s x' v').run P w = .ok () w' ∧ Rel B0 G ι m' w' ∧ Stp ι ι m m' w w' := by
  unfold storeD at h
  split at h <;> try (simp at h; done)
  rename_i b off
  obtain ⟨L, hL, rfl⟩ := hx.inv_ptr
  split at h <;> try (simp at h; done)
  rename_i k hk
  split at h <;> try (simp at h; done)
  rename_i hsz
  obtain ⟨w', h1, h2⟩ := storeC_ok (P := P) hr hL hv.cells h
  have hsz' : v'.cells.size = k := by
    have := hv.cells.length
    rw [hsz] at this
    simpa using this.symm
  exact ⟨w', by simp [Instr.storeAt, Instr.sureAddr, storeVar, run_sizeOf' hk, hsz', h1], h2⟩
end
end Go.DI
namespace Go.DI
section
variable {P : Program} {K : TypeId → Bool} {G B0 n : Nat} {ι : Ren} {m : Mem} {w : World} {t : Tmps} {a : Act}
theorem run_keyOkF {em : Bool} {d' : Nat} {cs : Array Value} {h : TypeId → Value → Bool} (ih : ∀ (t : TypeId) (v : Value), h t v = true → (Instr.checkKey em d' t v).run P w = .ok () w) :
    ∀ (fs : List Field), keyOkF (fun t o => part P t cs.toList o) h fs = true →
      (forIn fs PUnit.unit fun f r => (if f.name ≠ "_" then (do let a ← Go.part f.type cs f.offset; Instr.checkKey em d' f.type a; pure (ForInStep.yield PUnit.unit)) else pure (ForInStep.yield PUnit.unit) : Sem (ForInStep PUnit))).run P w = .ok PUnit.unit w
  | [], _ => by simp
  | f :: fs, hk => by
    simp only [keyOkF, Bool.and_eq_true] at hk
    obtain ⟨h1, h2⟩ := hk
    have ih2 := run_keyOkF ih fs h2
    split at h1 <;> try (simp at h1; done)
    rename_i v hv
    simp only [List.forIn_cons, Sem.run_bind]
    by_cases hn : f.name = "_"
    · simp only [hn, ne_eq, not_true_eq_false, if_false, Sem.run_pure, Result.andThen_ok]
      exact ih2
    · simp only [ne_eq, hn, not_false_eq_true, if_true, Sem.run_bind, run_part hv, Result.andThen_ok, ih _ _ h1, Sem.run_pure]
      exact ih2
theorem run_keyOkL {em : Bool} {d' k : Nat} {cs : Array Value} {e : TypeId} {h : TypeId → Value → Bool} (hs : szOf P e = some k) (ih : ∀ (t : TypeId) (v : Value), h t v = true → (Instr.checkKey em d' t v).run P w = .ok () w) :
    ∀ (len i : Nat), keyOkL (fun i => match part P e cs.toList (i * k) with | some u => h e u | none => false) len i = true →
      (forIn (List.range' i len) PUnit.unit fun i r => (do let s ← Go.sizeOf e; let a ← Go.part e cs (i * s); Instr.checkKey em d' e a; pure (ForInStep.yield PUnit.unit) : Sem (ForInStep PUnit))).run P w = .ok PUnit.unit w
  | 0, i, _ => by simp
  | len + 1, i, hk => by
    simp only [keyOkL, Bool.and_eq_true] at hk
    obtain ⟨h1, h2⟩ := hk
    have ih2 := run_keyOkL hs ih len (i + 1) h2
    split at h1 <;> try (simp at h1; done)
    rename_i v hv
    rw [List.range'_succ]
    simp only [List.forIn_cons, Sem.run_bind, run_sizeOf' hs, Result.andThen_ok, run_part hv, ih _ _ h1, Sem.run_pure]
    exact ih2
theorem run_keyOk (em : Bool) : ∀ (d : Nat) (t : TypeId) (v : Value), keyOk P d t v = true → ∀ d', d ≤ d' → (Instr.checkKey em d' t v).run P w = .ok () w
  | 0, t, v, h, d', hd => by simp [keyOk] at h
  | d + 1, t, v, h, d', hd => by
    obtain ⟨d', rfl⟩ : ∃ k, d' = k + 1 := ⟨d' - 1, by omega⟩
    have hd' : d ≤ d' := by omega
    unfold keyOk at h
    split at h
    · simp at h
    · rename_i len elem hu
      split at h <;> try (simp at h; done)
      rename_i cs
      split at h <;> try (simp at h; done)
      rename_i k hk
      simp only [Instr.checkKey, Sem.run_bind, run_und hu, Result.andThen_ok]
      simp only [Std.Legacy.Range.forIn_eq_forIn_range', Std.Legacy.Range.size, Nat.sub_zero, Nat.add_one_sub_one, Nat.div_one]
      have := run_keyOkL (em := em) (d' := d') (cs := cs) (h := keyOk P d) (w := w) hk (fun t v h => run_keyOk em d t v h d' hd') len 0 h
      simp at this ⊢
      rw [this]
      rfl
    · rename_i fields hu
      split at h <;> try (simp at h; done)
      rename_i cs
      simp only [Instr.checkKey, Sem.run_bind, run_und hu, Result.andThen_ok]
      rw [← Array.forIn_toList]
      have := run_keyOkF (em := em) (d' := d') (cs := cs) (h := keyOk P d) (w := w) (fun t v h => run_keyOk em d t v h d' hd') fields.toList h
      simp at this ⊢
      rw [this]
      rfl
    · rename_i dd hi hA hS hu
      simp only [Instr.checkKey, Sem.run_bind, run_und hu, Result.andThen_ok]
      cases dd <;> first | rfl | exact absurd rfl (hi _) | exact absurd rfl (hA _ _) | exact absurd rfl (hS _)
    · simp at h
theorem keyOkF_rel {g g' : TypeId → Nat → Option Value} {h : TypeId → Value → Bool} (hg : ∀ (t : TypeId) (o : Nat) (v : Value), g t o = some v → ∃ v', g' t o = some v' ∧ VRel ι v v')
    (hh : ∀ (t : TypeId) (v v' : Value), VRel ι v v' → h t v = true → h t v' = true) : ∀ (fs : List Field), keyOkF g h fs = true → keyOkF g' h fs = true
  | [], _ => rfl
  | f :: fs, hk => by
    simp only [keyOkF, Bool.and_eq_true] at hk ⊢
    obtain ⟨h1, h2⟩ := hk
    refine ⟨?_, keyOkF_rel hg hh fs h2⟩
    split at h1 <;> try (simp at h1; done)
    rename_i v hv
    obtain ⟨v', hv', hr⟩ := hg _ _ _ hv
    simp only [hv']
    exact hh _ _ _ hr h1
theorem keyOkL_rel {f f' : Nat → Bool} (hf : ∀ i, f i = true → f' i = true) : ∀ (n i : Nat), keyOkL f n i = true → keyOkL f' n i = true
  | 0, _, _ => rfl
  | n + 1, i, h => by
    simp only [keyOkL, Bool.and_eq_true] at h ⊢
    exact ⟨hf _ h.1, keyOkL_rel hf n (i + 1) h.2⟩
theorem keyOk_rel : ∀ (d : Nat) (t : TypeId) (v v' : Value), VRel ι v v' → keyOk P d t v = true → keyOk P d t v' = true
  | 0, t, v, v', hr, h => by simp [keyOk] at h
  | d + 1, t, v, v', hr, h => by
    unfold keyOk at h ⊢
    split at h
    · simp at h
    · split at h <;> try (simp at h; done)
      rename_i cs
      split at h <;> try (simp at h; done)
      obtain ⟨cs', rfl, hcs⟩ := hr.inv_agg
      refine keyOkL_rel (fun i hi => ?_) _ _ h
      split at hi <;> try (simp at hi; done)
      rename_i u hu
      obtain ⟨u', hu', hru⟩ := part_rel hcs hu
      simp only [hu']
      exact keyOk_rel d _ _ _ hru hi
    · split at h <;> try (simp at h; done)
      rename_i cs
      obtain ⟨cs', rfl, hcs⟩ := hr.inv_agg
      exact keyOkF_rel (fun t o v hv => part_rel hcs hv) (fun t v v' hr h => keyOk_rel d t v v' hr h) _ h
    · rfl
    · simp at h
theorem findNow_eq (hK : Plain P K) {kt : TypeId} {kd : TypeDesc} (hu : P.underlying kt = some kd) {k : Value} : ∀ (es : List MapEntry) (i : Nat) (r r' : Option (Nat × Value)),
    findD P K kt k es i = some r → Instr.findNow kd k es i = some r' → r = r'
  | [], i, r, r', h, h' => by simp [findD] at h; simp [Instr.findNow] at h'; rw [← h, ← h']
  | e :: es, i, r, r', h, h' => by
    simp only [findD] at h
    simp only [Instr.findNow] at h'
    have hsame : ∀ b b', feq P K 100 kt k e.key = some b → Instr.sameNow kd k e.key = some b' → b = b' := by
      intro b b' h1 h2
      rw [show (100 : Nat) = 99 + 1 from rfl] at h1
      unfold feq at h1
      rw [hu] at h1
      unfold Instr.sameNow at h2
      split at h2
      · simp only [] at h1
        split at h1 <;> try (simp at h1; done)
        split at h2 <;> simp_all
      · simp_all
      · simp_all
      · simp at h2
    split at h' <;> try (simp at h'; done)
    · rename_i hs
      split at h <;> try (simp at h; done)
      · simp at h h'; rw [← h, ← h']
      · rename_i hf; exact absurd (hsame _ _ hf hs) (by simp)
    · rename_i hs
      split at h <;> try (simp at h; done)
      · rename_i hf; exact absurd (hsame _ _ hf hs) (by simp)
      · exact findNow_eq hK hu es (i + 1) r r' h h'
theorem run_findAsking (hK : Plain P K) {kt : TypeId} {k : Value} : ∀ (es : List MapEntry) (i : Nat) (r : Option (Nat × Value)), findD P K kt k es i = some r → (Instr.findAsking kt k es i).run P w = .ok r w
  | [], i, r, h => by simp [findD] at h; subst h; simp [Instr.findAsking]
  | e :: es, i, r, h => by
    simp only [findD] at h
    split at h
    · rename_i hf
      have := run_feq (w := w) hK 100 kt k e.key true hf Op.maxDepth (by decide)
      simp at h; subst h
      simp [Instr.findAsking, Op.equal, this]
    · rename_i hf
      have := run_feq (w := w) hK 100 kt k e.key false hf Op.maxDepth (by decide)
      simp only [Instr.findAsking, Op.equal, Sem.run_bind, this, Result.andThen_ok, Bool.false_eq_true, if_false]
      exact run_findAsking hK es (i + 1) r h
    · simp at h
theorem run_findKey (hK : Plain P K) {kt : TypeId} {kd : TypeDesc} (hu : P.underlying kt = some kd) {k : Value} {es : List MapEntry} {r : Option (Nat × Value)} (h : findD P K kt k es 0 = some r) :
    (Instr.findKey kt k es).run P w = .ok r w := by
  simp only [Instr.findKey, Sem.run_bind, run_und hu, Result.andThen_ok]
  split
  · rename_i r' h'
    rw [findNow_eq hK hu es 0 r r' h h']
    rfl
  · exact run_findAsking hK es 0 r h
def FRel (ι : Ren) : Option (Nat × Value) → Option (Nat × Value) → Prop
  | none, none => True
  | some (i, v), some (j, v') => i = j ∧ VRel ι v v'
  | _, _ => False
theorem findD_rel {kt : TypeId} {k k' : Value} (hk : VRel ι k k') {es es' : List MapEntry} (he : ERels ι es es') : ∀ (i : Nat) (r : Option (Nat × Value)), findD P K kt k es i = some r → ∃ r', findD P K kt k' es' i = some r' ∧ FRel ι r r' := by
  induction he with
  | nil => intro i r h; simp [findD] at h; subst h; exact ⟨none, rfl, trivial⟩
  | cons h0 t ih =>
    intro i r h
    simp only [findD] at h ⊢
    split at h
    · rename_i hf
      rw [feq_rel 100 kt _ _ _ _ _ hk h0.1 hf]
      simp at h; subst h
      exact ⟨_, rfl, rfl, h0.2.1⟩
    · rename_i hf
      rw [feq_rel 100 kt _ _ _ _ _ hk h0.1 hf]
      exact ih _ _ h
    · simp at h
theorem key_desc {kt : TypeId} {d : Nat} {k : Value} (h : keyOk P (d + 1) kt k = true) : ∃ kd, P.underlying kt = some kd := by
  unfold keyOk at h
  cases hu : P.underlying kt with
  | none => simp [hu] at h
  | some kd => exact ⟨kd, rfl⟩
theorem entries_ok (hr : Rel B0 G ι m w) {x x' : Value} (hx : VRel ι x x') {es : List MapEntry} (h : entriesD m x = some es) :
    ∃ es' : Array MapEntry, ERels ι es es'.toList ∧ (x' = .map none ∧ es' = #[] ∨ ∃ r c, x' = .map (some r) ∧ w.heap[r]? = some (.map es' c)) := by
  unfold entriesD at h
  split at h <;> try (simp at h; done)
  · simp at h; subst h; cases hx; exact ⟨#[], .nil, .inl ⟨rfl, rfl⟩⟩
  · rename_i r
    split at h <;> simp at h
    rename_i own es₀ c hg
    subst h
    have hlt := hr.get_lt (b := r) (by rw [hg]; simp)
    cases hx with
    | map _ L hL =>
      have hb := hr.blk r L hlt hL
      rw [hg] at hb
      obtain ⟨res, h1, h2, h3⟩ := hb
      exact ⟨res, h2, .inr ⟨_, _, rfl, h1⟩⟩
theorem lookupD_ok (hK : Plain P K) (hr : Rel B0 G ι m w) {s : TypeId} {x x' k k' v : Value} {ok : Bool} (hx : VRel ι x x') (hk : VRel ι k k') (h : lookupD P K m s x k ok = some v) :
    ∃ v', (Instr.lookup s x' k' ok).run P w = .ok v' w ∧ VRel ι v v' := by
  unfold lookupD at h
  split at h <;> try (simp at h; done)
  rename_i kt et hu
  split at h <;> try (simp at h; done)
  rename_i es hes
  split at h <;> try (simp at h; done)
  rename_i hkey
  obtain ⟨es', he, hcase⟩ := entries_ok hr hx hes
  obtain ⟨kd, hkd⟩ := key_desc hkey
  have hkey' := keyOk_rel 100 kt k k' hk hkey
  have hck := fun em => run_keyOk (P := P) (w := w) em 100 kt k' hkey' 10000 (by decide)
  have hmain : ∀ (r' : Option (Nat × Value)) (v' : Value), findD P K kt k' es'.toList 0 = some r' →
      (match r' with | some (_, u) => v' = cond ok (.tuple #[u, .bool true]) u | none => ∃ z, zeroOf P et = some z ∧ v' = cond ok (.tuple #[z, .bool false]) z) → (Instr.lookup s x' k' ok).run P w = .ok v' w := by
    intro r' v' hf hv
    have hfk := run_findKey (P := P) (w := w) hK hkd hf
    unfold Instr.lookup
    simp only [Sem.run_bind, run_und hu, Result.andThen_ok]
    rcases hcase with ⟨rfl, rfl⟩ | ⟨r, c, rfl, hh⟩
    · simp only [Sem.run_bind, Sem.run_pure, Result.andThen_ok, hck, hfk]
      cases r' with
      | none => obtain ⟨z, hz, rfl⟩ := hv; simp [run_zero' hz]
      | some p => obtain ⟨i, u⟩ := p; simp only [] at hv; subst hv; simp
    · have hgo : (getObj r).run P w = .ok (.map es' c) w := by simp [getObj, Sem.run, hh]
      simp only [Sem.run_bind, Sem.run_pure, Result.andThen_ok, hgo, hck, hfk]
      cases r' with
      | none => obtain ⟨z, hz, rfl⟩ := hv; simp [run_zero' hz]
      | some p => obtain ⟨i, u⟩ := p; simp only [] at hv; subst hv; simp
  split at h <;> try (simp at h; done)
  · rename_i i u hf
    obtain ⟨r', hf', hfr⟩ := findD_rel hk he 0 _ hf
    cases r' with
    | none => simp [FRel] at hfr
    | some p =>
      obtain ⟨j, u'⟩ := p
      cases hsh : shp P et u with
      | false => rw [hsh] at h; simp at h
      | true =>
      rw [hsh] at h
      simp at h; subst h
      refine ⟨_, hmain _ _ hf' rfl, ?_⟩
      cases ok
      · exact hfr.2
      · exact VRel.tuple' (a := [u, .bool true]) (a' := [u', .bool true]) (.cons hfr.2 (.cons (.bool _) .nil))
  · rename_i hf
    obtain ⟨r', hf', hfr⟩ := findD_rel hk he 0 _ hf
    cases r' with
    | some p => simp [FRel] at hfr
    | none =>
      split at h <;> try (simp at h; done)
      rename_i z hz
      split at h <;> simp at h
      rename_i hcz
      subst h
      refine ⟨_, hmain _ _ hf' ⟨z, hz, rfl⟩, ?_⟩
      cases ok
      · exact constV_rel ι hcz
      · exact VRel.tuple' (a := [z, .bool false]) (a' := [z, .bool false]) (.cons (constV_rel ι hcz) (.cons (.bool _) .nil))
theorem sameBits_rel : ∀ (d : Nat) (x y x' y' : Value), VRel ι x x' → VRel ι y y' → Instr.sameBits d x y = true → Instr.sameBits d x' y' = true := by
  intro d
  induction d with
  | zero =>
    intro x y x' y' hx hy h
    cases hx <;> cases hy <;> simp_all [Instr.sameBits]
  | succ d ih =>
    intro x y x' y' hx hy h
    cases x <;> cases y <;> simp only [Instr.sameBits] at h <;> (try (simp at h; done))
    case bool => cases hx; cases hy; simpa [Instr.sameBits] using h
    case int => cases hx; cases hy; simpa [Instr.sameBits] using h
    case float => cases hx; cases hy; simpa [Instr.sameBits] using h
    case complex => cases hx; cases hy; simpa [Instr.sameBits] using h
    case string => cases hx; cases hy; simpa [Instr.sameBits] using h
    case pointer a b =>
      have hab : a = b := by simpa using h
      subst hab
      cases hx with
      | ptr0 => cases hy; rfl
      | ptr b off L hL =>
        cases hy with
        | ptr _ _ L' hL' => rw [hL] at hL'; cases hL'; simp [Instr.sameBits]
    case chan => cases hx
    case iface => cases hx with | iface t v v' h1 => cases hy with | iface u q q' h2 => simp [Instr.sameBits] at h ⊢; exact ⟨h.1, ih _ _ _ _ h1 h2 h.2⟩
    case nilIface => cases hx; cases hy; rfl
    case agg xs ys =>
      obtain ⟨xs', rfl, hxs⟩ := hx.inv_agg
      obtain ⟨ys', rfl, hys⟩ := hy.inv_agg
      simp only [Instr.sameBits, Bool.and_eq_true, beq_iff_eq] at h ⊢
      have hz : ∀ (a a' b b' : List Value), VRels ι a a' → VRels ι b b' → (a.zip b).all (fun (x, y) => Instr.sameBits d x y) = true → (a'.zip b').all (fun (x, y) => Instr.sameBits d x y) = true := by
        intro a a' b b' ha
        induction ha generalizing b b' with
        | nil => intro hb h; simp
        | cons h0 t ih2 =>
          intro hb h
          cases hb with
          | nil => simp
          | cons h0' t' => simp at h ⊢; exact ⟨ih _ _ _ _ h0 h0' h.1, by simpa using ih2 _ _ t' (by simpa using h.2)⟩
      refine ⟨?_, hz _ _ _ _ hxs hys h.2⟩
      have e1 := hxs.length
      have e2 := hys.length
      simp at e1 e2
      omega
theorem modE_eq (es : List MapEntry) (i : Nat) (k v : Value) : ((⟨es⟩ : Array MapEntry).modify i fun e => { e with key := k, val := v }).toList = modE i k v es := by
  have h : ∀ (es : List MapEntry) (i : Nat), es.modify i (fun e => { e with key := k, val := v }) = modE i k v es := by
    intro es
    induction es with
    | nil => intro i; simp [modE]
    | cons e es ih => intro i; cases i with
      | zero => simp [modE]
      | succ i => simp [modE, ih]
  rw [Array.toList_modify]
  exact h es i
theorem modE_rel {es es' : List MapEntry} (he : ERels ι es es') {k k' v v' : Value} (hk : VRel ι k k') (hv : VRel ι v v') : ∀ i, ERels ι (modE i k v es) (modE i k' v' es') := by
  induction he with
  | nil => intro i; simp only [modE]; exact .nil
  | cons h t ih => intro i; cases i with
    | zero => exact .cons ⟨hk, hv, h.2.2⟩ t
    | succ i => exact .cons h (ih i)
theorem run_setObj {r : Nat} {es : Array MapEntry} {c : Nat} (h : w.heap[r]? = some (.map es c)) (o : Obj) : (setObj r o).run P w = .ok () (setBlk w r o) := by
  simp [setObj, Sem.run, h, setBlk]
theorem mapUpdateD_ok (hK : Plain P K) (hr : Rel B0 G ι m w) {s : TypeId} {x x' k k' v v' : Value} (hx : VRel ι x x') (hk : VRel ι k k') (hv : VRel ι v v') {m' : Mem} (h : mapUpdateD P K m s x k v = some m') :
    ∃ w', (Instr.mapUpdate s x' k' v').run P w = .ok () w' ∧ Rel B0 G ι m' w' ∧ Stp ι ι m m' w w' := by
  unfold mapUpdateD at h
  split at h <;> try (simp at h; done)
  rename_i kt et hu
  split at h <;> try (simp at h; done)
  rename_i r
  split at h <;> try (simp at h; done)
  rename_i es clock hg
  split at h <;> try (simp at h; done)
  rename_i hkey
  have hlt := hr.get_lt (b := r) (by rw [hg]; simp)
  obtain ⟨kd, hkd⟩ := key_desc hkey
  have hkey' := keyOk_rel 100 kt k k' hk hkey
  cases hx with
  | map _ L hL =>
    have hb := hr.blk r L hlt hL
    rw [hg] at hb
    obtain ⟨res, h1, h2, h3⟩ := hb
    have hck := run_keyOk (P := P) (w := w) false 100 kt k' hkey' 10000 (by decide)
    have hgo : (getObj L.block).run P w = .ok (.map res clock) w := by simp [getObj, Sem.run, h1]
    split at h <;> try (simp at h; done)
    · rename_i i u hf
      obtain ⟨r', hf', hfr⟩ := findD_rel hk h2 0 _ hf
      split at h <;> try (simp at h; done)
      rename_i e he
      split at h <;> simp at h
      rename_i hsb
      subst h
      cases r' with
      | none => simp [FRel] at hfr
      | some p =>
        obtain ⟨j, u'⟩ := p
        obtain ⟨rfl, hu'⟩ := hfr
        obtain ⟨e', he', hre⟩ := h2.get he
        have hsb' := sameBits_rel 10000 _ _ _ _ hre.1 hk hsb
        have hfk := run_findKey (P := P) (w := w) hK hkd hf'
        have hks : (Instr.keyThatStays e'.key k').run P w = .ok k' w := by simp [Instr.keyThatStays, hsb']
        have he'' : res[i]? = some e' := by simpa using he'
        refine ⟨setBlk w L.block (.map (res.modify i fun e => { e with key := k', val := v' }) clock), ?_, Rel.set hr hL hlt (by rw [hg]; rfl) ?_ (by rw [hg]; simp [Blk.live]) (by rw [hg]; simp [Blk.own])⟩
        · simp only [Instr.mapUpdate, Sem.run_bind, run_und hu, Result.andThen_ok, hgo, hck, hfk, he'', Option.map_some, Option.getD_some, hks]
          exact run_setObj h1 _
        · refine ⟨_, by rw [setBlk_get _ _ _ _ (lt_of_get h1)]; simp; rfl, ?_, h3⟩
          obtain ⟨rl⟩ := res
          rw [modE_eq]
          exact modE_rel h2 hk hv i
    · rename_i hf
      obtain ⟨r', hf', hfr⟩ := findD_rel hk h2 0 _ hf
      simp at h; subst h
      cases r' with
      | some p => simp [FRel] at hfr
      | none =>
        have hfk := run_findKey (P := P) (w := w) hK hkd hf'
        refine ⟨setBlk w L.block (.map (res.push { key := k', val := v', born := clock }) (clock + 1)), ?_, Rel.set hr hL hlt (by rw [hg]; rfl) ?_ (by rw [hg]; simp [Blk.live]) (by rw [hg]; simp [Blk.own])⟩
        · simp only [Instr.mapUpdate, Sem.run_bind, run_und hu, Result.andThen_ok, hgo, hck, hfk]
          exact run_setObj h1 _
        · refine ⟨_, by rw [setBlk_get _ _ _ _ (lt_of_get h1)]; simp; rfl, ?_, h3⟩
          simp only [Array.toList_push]
          exact h2.append (.cons ⟨hk, hv, rfl⟩ .nil)
end
end Go.DI
