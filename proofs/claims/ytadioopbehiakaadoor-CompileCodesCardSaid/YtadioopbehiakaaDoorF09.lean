/-
  DiOrc: the interpreter with an oracle: where the oracle answers a call, the body is not run. What the oracle answers must be so in the model (OrcOK).
-/
import Derived.Test.YtadioopbehiakaaDoorF06
import Derived.Test.YtadioopbehiakaaDoorF08
import Derived.ChangeSame
import Derived.Below
import Derived.KernelRfl
import Derived.IntWalk
set_option linter.all false
set_option linter.unusedVariables false
set_option linter.unusedSimpArgs false
namespace Go.DI
section
variable {P : Program} {K : TypeId → Bool} {G B0 : Nat}
def bodyD (P : Program) (K : TypeId → Bool) (G : Nat) (cf : FuncId → List Value → Mem → Option (Value × Mem)) (k : Nat) (f : FuncId) (args : List Value) (m : Mem) : Option (Value × Mem) :=
  match P.funcs[f]? with
    | some fn => match fn.body with
      | some c => match codeD P K G cf (drawD P K G cf (max args.length fn.ntmps)) (max args.length fn.ntmps) k c (initT 0 args) m with
        | some (.normal, t, m') => match resD P t m' fn.results.toList with
          | some vs => some (resV vs, m')
          | none => none
        | some (.ret, t, m') => match resD P t m' fn.results.toList with
          | some vs => some (resV vs, m')
          | none => none
        | _ => none
      | none => none
    | none => none
abbrev Orc := FuncId → List Value → Mem → Option (Value × Mem)
def callO (P : Program) (K : TypeId → Bool) (G : Nat) (o : Orc) : Nat → FuncId → List Value → Mem → Option (Value × Mem)
  | 0, _, _, _ => none
  | k + 1, f, args, m => match o f args m with
    | some r => some r
    | none => bodyD P K G (callO P K G o k) k f args m
theorem bodyD_grw {cf : FuncId → List Value → Mem → Option (Value × Mem)} (ih : CfGrw cf) (k : Nat) (f : FuncId) (args : List Value) (m : Mem) (v : Value) (m' : Mem) (h : bodyD P K G cf k f args m = some (v, m')) : Grw m m' := by
  simp only [bodyD] at h
  split at h <;> try (simp at h; done)
  split at h <;> try (simp at h; done)
  split at h <;> try (simp at h; done)
  all_goals
    rename_i hc
    split at h <;> simp at h
    rw [← h.2]
    exact codeD_grw ih (fun _ _ _ _ _ h => drawD_grw ih h) _ _ _ _ _ _ hc
theorem callO_grw {o : Orc} (ho : CfGrw o) : ∀ (k : Nat), CfGrw (callO P K G o k)
  | 0 => fun f args m v m' h => by simp [callO] at h
  | k + 1 => fun f args m v m' h => by
    simp only [callO] at h
    split at h
    · rename_i r hr
      simp at h; subst h
      exact ho _ _ _ _ _ hr
    · exact bodyD_grw (callO_grw ho k) k f args m v m' h
theorem bodyD_ok (hmix : P.follows .mixedOrders = true) (hK : Plain P K) (hng : NoNG P) {cf : FuncId → List Value → Mem → Option (Value × Mem)} (ih : CfOK P B0 G cf) (hg : CfGrw cf) (k : Nat) : CfOK P B0 G (bodyD P K G cf k) := by
    refine ⟨fun f args m v m' h => (bodyD_grw hg k f args m v m' h).size, fun f args m v m' h => ?_, fun f args m v m' h => ?_⟩
    · simp only [bodyD] at h
      split at h <;> try (simp at h; done)
      rename_i fn hfn
      split at h <;> try (simp at h; done)
      rename_i c hc
      intro ι w args' hr hf hargs
      have hlen := hargs.length
      have ht0 : TRel ι (max args.length fn.ntmps) (initT 0 args) { tmps := args'.toArray ++ Array.replicate (fn.ntmps - args'.toArray.size) undef, defers := [] } := by
        refine ⟨by simp; omega, fun d => ?_⟩
        rw [initT_at]
        simp only [Nat.zero_le, if_true, Nat.sub_zero]
        cases hd : args[d]? with
        | some v =>
          obtain ⟨y, hy, hry⟩ := hargs.get hd
          have hlt : d < args'.length := by
            rcases Nat.lt_or_ge d args'.length with h1 | h1
            · exact h1
            · rw [List.getElem?_eq_none h1] at hy; cases hy
          have : (args'.toArray ++ Array.replicate (fn.ntmps - args'.toArray.size) undef).getD d undef = y := by
            rw [Array.getD_eq_getD_getElem?, Array.getElem?_append_left (by simpa using hlt), List.getElem?_toArray, hy]; rfl
          rw [this]; exact hry
        | none =>
          have hge : args.length ≤ d := List.getElem?_eq_none_iff.1 hd
          have : (args'.toArray ++ Array.replicate (fn.ntmps - args'.toArray.size) undef).getD d undef = undef := by
            rw [Array.getD_eq_getD_getElem?, Array.getElem?_append_right (by simp; omega), Array.getElem?_replicate]
            split <;> rfl
          rw [this]; exact VRel.undef _
      have fin : ∀ (e : Ex) (t' : Tmps) (m₁ : Mem), codeD P K G cf (drawD P K G cf (max args.length fn.ntmps)) (max args.length fn.ntmps) k c (initT 0 args) m = some (e, t', m₁) → (e = .normal ∨ e = .ret) →
          (match resD P t' m₁ fn.results.toList with | some vs => some (resV vs, m₁) | none => none) = some (v, m') →
          Calls P f args'.toArray w fun e w' => ∃ v' ι', e = .returned v' ∧ VRel ι' v v' ∧ Rel B0 G ι' m' w' ∧ Stp ι ι' m m' w w' := by
        intro e t' m₁ hcode he hres
        split at hres <;> simp at hres
        rename_i vs hvs
        obtain ⟨rfl, rfl⟩ := hres
        refine calls_of_wp hfn hc (code_ok hK ih (drawOK hmix hK ih hg) c _ _ _ _ _ hcode ι w _ _ hr ht0 hf fun a' w' ha => ?_)
        obtain ⟨ι', g1, g2, g3, g4⟩ := ha
        obtain ⟨v', q1, q2⟩ := results_ok (P := P) g2 g1 hvs
        rcases he with rfl | rfl
        · exact ⟨g4, v', q1, v', ι', rfl, q2, g2, g3⟩
        · exact ⟨g4, v', q1, v', ι', rfl, q2, g2, g3⟩
      split at h <;> try (simp at h; done)
      · rename_i t' m₁ hcode
        exact fin _ _ _ hcode (.inl rfl) h
      · rename_i t' m₁ hcode
        exact fin _ _ _ hcode (.inr rfl) h
    · simp only [bodyD] at h
      split at h <;> try (simp at h; done)
      rename_i fn hfn
      split at h <;> try (simp at h; done)
      rename_i c hc
      exact ⟨fn, hfn, by simp [hc], hng f fn hfn (by simp [hc])⟩
theorem callO_ok (hmix : P.follows .mixedOrders = true) (hK : Plain P K) (hng : NoNG P) {o : Orc} (ho : CfOK P B0 G o) (hg : CfGrw o) : ∀ (k : Nat), CfOK P B0 G (callO P K G o k)
  | 0 => ⟨fun f args m v m' h => by simp [callO] at h, fun f args m v m' h => by simp [callO] at h, fun f args m v m' h => by simp [callO] at h⟩
  | k + 1 => by
    have ih := bodyD_ok hmix hK hng (callO_ok hmix hK hng ho hg k) (callO_grw hg k) k
    refine ⟨fun f args m v m' h => ?_, fun f args m v m' h => ?_, fun f args m v m' h => ?_⟩
    all_goals
      simp only [callO] at h
      split at h
    · rename_i r hr; simp at h; subst h; exact ho.size _ _ _ _ _ hr
    · exact ih.size _ _ _ _ _ h
    · rename_i r hr; simp at h; subst h; exact ho.ok _ _ _ _ _ hr
    · exact ih.ok _ _ _ _ _ h
    · rename_i r hr; simp at h; subst h; exact ho.body _ _ _ _ _ hr
    · exact ih.body _ _ _ _ _ h
end
end Go.DI
namespace Go.DI
noncomputable section
def up (x : Nat → Value) (l : List (Nat × Value)) : Nat → Value :=
  List.rec (motive := fun _ => Nat → Value) x (fun p _ ih i => Bool.rec (motive := fun _ => Value) (ih i) p.2 (Nat.beq p.1 i)) l
def fullN (n : Nat) (x : Nat → Value) : Tmps := Nat.rec (motive := fun _ => Tmps) .nil (fun i t => Tmps.set t i (x i)) n
theorem fullN_at (x : Nat → Value) (d : Nat) : ∀ n, (fullN n x).at d = if d < n then x d else undef
  | 0 => by simp [fullN, Tmps.at, Tr.get]
  | n + 1 => by
    have ih := fullN_at x d n
    show (Tmps.set (fullN n x) n (x n)).at d = _
    rw [Tmps.at_set, ih]
    by_cases h : d = n
    · subst h; simp
    · by_cases h2 : d < n
      · simp [h, h2, Nat.lt_succ_of_lt h2]
      · have : ¬ d < n + 1 := by omega
        simp [h, h2, this]
def x0 : Nat → Value := fun _ => undef
def argX (l : List Value) : Nat → Value :=
  List.rec (motive := fun _ => Nat → Value) x0 (fun a _ ih i => Nat.rec (motive := fun _ => Value) a (fun i' _ => ih i') i) l
theorem argX_eq : ∀ (l : List Value) (i : Nat), argX l i = (l[i]?).getD undef
  | [], i => by simp [argX, x0]
  | a :: l, 0 => rfl
  | a :: l, i + 1 => by
    have := argX_eq l i
    rw [List.getElem?_cons_succ]
    exact this
section
variable {P : Program} {K : TypeId → Bool} {G B0 : Nat}
abbrev DFun := FuncId → List Value → Mem → Option (Value × Mem)
def endD (P : Program) (fn : Func) : Option (Ex × Tmps × Mem) → Option (Value × Mem)
  | some (.normal, t, m') => match resD P t m' fn.results.toList with
    | some vs => some (resV vs, m')
    | none => none
  | some (.ret, t, m') => match resD P t m' fn.results.toList with
    | some vs => some (resV vs, m')
    | none => none
  | _ => none
def bodyN (P : Program) (K : TypeId → Bool) (G : Nat) (cf : DFun) (k : Nat) (f : FuncId) (args : List Value) (m : Mem) : Option (Value × Mem) :=
  match P.funcs[f]? with
    | some fn => match fn.body with
      | some c => endD P fn (codeD P K G cf (drawD P K G cf (max args.length fn.ntmps)) (max args.length fn.ntmps) k c (fullN (max args.length fn.ntmps) (argX args)) m)
      | none => none
    | none => none
def resT (P : Program) (f : FuncId) : List TypeId := match P.funcs[f]? with | some fn => fn.resultTypes.toList | none => []
def okL (P : Program) : List TypeId → List Value → Bool
  | [], [] => true
  | t :: ts, v :: vs => shp P t v && okL P ts vs
  | _, _ => false
def okR (P : Program) (f : FuncId) (v : Value) : Bool :=
  match resT P f with
  | [t] => shp P t v
  | [] => true
  | ts => match v with | .tuple cs => okL P ts cs.toList | _ => false
def filtR (P : Program) (f : FuncId) : Option (Value × Mem) → Option (Value × Mem)
  | some (v, m) => cond (okR P f v) (some (v, m)) none
  | none => none
theorem filtR_some {P : Program} {f : FuncId} {r : Option (Value × Mem)} {x : Value × Mem} (h : filtR P f r = some x) : r = some x := by
  cases r with
  | none => cases h
  | some p =>
    obtain ⟨v, m⟩ := p
    simp only [filtR] at h
    cases hk : okR P f v <;> rw [hk] at h <;> simp at h
    rw [h]
def callN (P : Program) (K : TypeId → Bool) (G : Nat) (o : Orc) : Nat → FuncId → List Value → Mem → Option (Value × Mem)
  | 0, _, _, _ => none
  | k + 1, f, args, m => filtR P f (match o f args m with
    | some r => some r
    | none => bodyN P K G (callN P K G o k) k f args m)
theorem bodyN_grw {cf : DFun} (ih : CfGrw cf) (k : Nat) (f : FuncId) (args : List Value) (m : Mem) (v : Value) (m' : Mem) (h : bodyN P K G cf k f args m = some (v, m')) : Grw m m' := by
  simp only [bodyN] at h
  split at h <;> try (simp at h; done)
  split at h <;> try (simp at h; done)
  simp only [endD] at h
  split at h <;> try (simp at h; done)
  all_goals
    rename_i hc
    split at h <;> simp at h
    rw [← h.2]
    exact codeD_grw ih (fun _ _ _ _ _ h => drawD_grw ih h) _ _ _ _ _ _ hc
theorem callN_grw {o : Orc} (ho : CfGrw o) : ∀ (k : Nat), CfGrw (callN P K G o k)
  | 0 => fun f args m v m' h => by simp [callN] at h
  | k + 1 => fun f args m v m' h => by
    simp only [callN] at h
    have h := filtR_some h
    split at h
    · rename_i r hr
      simp at h; subst h
      exact ho _ _ _ _ _ hr
    · exact bodyN_grw (callN_grw ho k) k f args m v m' h
theorem bodyN_ok (hmix : P.follows .mixedOrders = true) (hK : Plain P K) (hng : NoNG P) {cf : DFun} (ih : CfOK P B0 G cf) (hg : CfGrw cf) (k : Nat) : CfOK P B0 G (bodyN P K G cf k) := by
    refine ⟨fun f args m v m' h => (bodyN_grw hg k f args m v m' h).size, fun f args m v m' h => ?_, fun f args m v m' h => ?_⟩
    · simp only [bodyN] at h
      split at h <;> try (simp at h; done)
      rename_i fn hfn
      split at h <;> try (simp at h; done)
      rename_i c hc
      intro ι w args' hr hf hargs
      have hlen := hargs.length
      have ht0 : TRel ι (max args.length fn.ntmps) (fullN (max args.length fn.ntmps) (argX args)) { tmps := args'.toArray ++ Array.replicate (fn.ntmps - args'.toArray.size) undef, defers := [] } := by
        refine ⟨by simp; omega, fun d => ?_⟩
        rw [fullN_at, argX_eq]
        cases hd : args[d]? with
        | some v =>
          obtain ⟨y, hy, hry⟩ := hargs.get hd
          have hlt : d < args'.length := by
            rcases Nat.lt_or_ge d args'.length with h1 | h1
            · exact h1
            · rw [List.getElem?_eq_none h1] at hy; cases hy
          have : (args'.toArray ++ Array.replicate (fn.ntmps - args'.toArray.size) undef).getD d undef = y := by
            rw [Array.getD_eq_getD_getElem?, Array.getElem?_append_left (by simpa using hlt), List.getElem?_toArray, hy]; rfl
          rw [this, if_pos (by omega)]; exact hry
        | none =>
          have hge : args.length ≤ d := List.getElem?_eq_none_iff.1 hd
          have : (args'.toArray ++ Array.replicate (fn.ntmps - args'.toArray.size) undef).getD d undef = undef := by
            rw [Array.getD_eq_getD_getElem?, Array.getElem?_append_right (by simp; omega), Array.getElem?_replicate]
            split <;> rfl
          rw [this]
          split
          · exact VRel.undef _
          · exact VRel.undef _
      have fin : ∀ (e : Ex) (t' : Tmps) (m₁ : Mem), codeD P K G cf (drawD P K G cf (max args.length fn.ntmps)) (max args.length fn.ntmps) k c (fullN (max args.length fn.ntmps) (argX args)) m = some (e, t', m₁) → (e = .normal ∨ e = .ret) →
          (match resD P t' m₁ fn.results.toList with | some vs => some (resV vs, m₁) | none => none) = some (v, m') →
          Calls P f args'.toArray w fun e w' => ∃ v' ι', e = .returned v' ∧ VRel ι' v v' ∧ Rel B0 G ι' m' w' ∧ Stp ι ι' m m' w w' := by
        intro e t' m₁ hcode he hres
        split at hres <;> simp at hres
        rename_i vs hvs
        obtain ⟨rfl, rfl⟩ := hres
        refine calls_of_wp hfn hc (code_ok hK ih (drawOK hmix hK ih hg) c _ _ _ _ _ hcode ι w _ _ hr ht0 hf fun a' w' ha => ?_)
        obtain ⟨ι', g1, g2, g3, g4⟩ := ha
        obtain ⟨v', q1, q2⟩ := results_ok (P := P) g2 g1 hvs
        rcases he with rfl | rfl
        · exact ⟨g4, v', q1, v', ι', rfl, q2, g2, g3⟩
        · exact ⟨g4, v', q1, v', ι', rfl, q2, g2, g3⟩
      simp only [endD] at h
      split at h <;> try (simp at h; done)
      · rename_i t' m₁ hcode
        exact fin _ _ _ hcode (.inl rfl) h
      · rename_i t' m₁ hcode
        exact fin _ _ _ hcode (.inr rfl) h
    · simp only [bodyN] at h
      split at h <;> try (simp at h; done)
      rename_i fn hfn
      split at h <;> try (simp at h; done)
      rename_i c hc
      exact ⟨fn, hfn, by simp [hc], hng f fn hfn (by simp [hc])⟩
theorem callN_ok (hmix : P.follows .mixedOrders = true) (hK : Plain P K) (hng : NoNG P) {o : Orc} (ho : CfOK P B0 G o) (hg : CfGrw o) : ∀ (k : Nat), CfOK P B0 G (callN P K G o k)
  | 0 => ⟨fun f args m v m' h => by simp [callN] at h, fun f args m v m' h => by simp [callN] at h, fun f args m v m' h => by simp [callN] at h⟩
  | k + 1 => by
    have ih := bodyN_ok hmix hK hng (callN_ok hmix hK hng ho hg k) (callN_grw hg k) k
    refine ⟨fun f args m v m' h => ?_, fun f args m v m' h => ?_, fun f args m v m' h => ?_⟩
    all_goals
      simp only [callN] at h
      have h := filtR_some h
      split at h
    · rename_i r hr; simp at h; subst h; exact ho.size _ _ _ _ _ hr
    · exact ih.size _ _ _ _ _ h
    · rename_i r hr; simp at h; subst h; exact ho.ok _ _ _ _ _ hr
    · exact ih.ok _ _ _ _ _ h
    · rename_i r hr; simp at h; subst h; exact ho.body _ _ _ _ _ hr
    · exact ih.body _ _ _ _ _ h
end
/-! ### in the symbolic layer -/
def loopsOf : Code → List Code
  | .seq a b => loopsOf a ++ loopsOf b
  | .cond _ a b => loopsOf a ++ loopsOf b
  | .block _ c => loopsOf c
  | .loop c => c :: loopsOf c
  | _ => []
def bodyOf (fn : Func) : Code := match fn.body with | some c => c | none => .skip
def loopN (fn : Func) (j : Nat) : Code := match (loopsOf (bodyOf fn))[j]? with | some c => c | none => .skip
namespace Y
variable {α : Type}
def onNat (i : Int) (q : Nat → Option α) : Option α := Int.rec (motive := fun _ => Option α) q (fun _ => none) i
def cfOf (df : DFun) : CF α := fun f a m q => onV (df f a m) q
def lpOf (P : Program) (K : TypeId → Bool) (G : Nat) (df : DFun) (n : Nat) : LK α := fun _ c k t m q => onE (loopD (codeD P K G df (drawD P K G df n) n k c) k t m) q
def unc (l : List Value) (q : Value → List Value → Option α) (d : Option α) : Option α := List.rec (motive := fun _ => Option α) d (fun a l _ => q a l) l
def expL (P : Program) (ts : List TypeId) : List Value → (List Value → Option α) → Option α :=
  List.rec (motive := fun _ => List Value → (List Value → Option α) → Option α) (fun cs q => unc cs (fun _ _ => none) (q []))
    (fun t _ ih cs q => unc cs (fun v vs => shF P t v fun v => ih vs fun l => q (v :: l)) none) ts
theorem expL_eq (P : Program) : ∀ (ts : List TypeId) (cs : List Value) (q : List Value → Option α), expL P ts cs q = cond (okL P ts cs) (q cs) none
  | [], [], q => rfl
  | [], _ :: _, q => rfl
  | _ :: _, [], q => rfl
  | t :: ts, v :: vs, q => by
    have ih := expL_eq P ts vs
    show (shF P t v fun v => expL P ts vs fun l => q (v :: l)) = _
    simp only [ih, shF_eq, shD, okL]
    cases shp P t v <;> cases okL P ts vs <;> rfl
def splB (v : Value) (q : Value → Option α) : Option α := asBo v (fun b => blF b q) (q v)
theorem splB_eq (v : Value) (q : Value → Option α) : splB v q = q v := by cases v <;> first | exact blF_eq _ _ | rfl
def resK (P : Program) (f : FuncId) (v : Value) (q : Value → Option α) : Option α :=
  match resT P f with
  | [t] => shF P t v fun v => splB v q
  | [] => q v
  | ts => asTup v fun cs => expL P ts cs.toList fun l => q (.tuple ⟨l⟩)
theorem resK_eq (P : Program) (f : FuncId) (v : Value) (q : Value → Option α) : resK P f v q = cond (okR P f v) (q v) none := by
  unfold resK okR
  split
  · rw [shF_eq]; simp only [shD, splB_eq]; cases shp P _ v <;> rfl
  · rfl
  · cases v <;> try rfl
    rename_i cs
    show expL P _ cs.toList _ = _
    rw [expL_eq]
def cfT (P : Program) (cf : CF α) : CF α := fun f a m q => cf f a m fun v m' => resK P f v fun v => q v m'
theorem cfT_of (P : Program) (df : DFun) (h : ∀ f a m v m', df f a m = some (v, m') → okR P f v = true) (f : FuncId) (a : List Value) (m : Mem) (q : Value → Mem → Option α) : cfT P (cfOf df) f a m q = onV (df f a m) q := by
  unfold cfT cfOf
  cases hd : df f a m with
  | none => rfl
  | some p =>
    obtain ⟨v, m'⟩ := p
    show resK P f v (fun v => q v m') = _
    rw [resK_eq, h f a m v m' hd]; rfl
def retF (P : Program) (fn : Func) (q : Value → Mem → Option α) : ExK α := fun e t' m' =>
  Ex.rec (motive := fun _ => Option α) (resF fn.results.toList P t' m' fun vs => q (resV vs) m') (fun _ => none) (resF fn.results.toList P t' m' fun vs => q (resV vs) m') e
def Typed (P : Program) (df : DFun) : Prop := ∀ f a m v m', df f a m = some (v, m') → okR P f v = true
theorem callN_typed (P : Program) (K : TypeId → Bool) (G : Nat) (o : Orc) : ∀ k, Typed P (callN P K G o k)
  | 0 => fun f a m v m' h => by cases h
  | k + 1 => fun f a m v m' h => by
    simp only [callN] at h
    revert h
    generalize (match o f a m with | some r => some r | none => bodyN P K G (callN P K G o k) k f a m) = r
    intro h
    cases r with
    | none => cases h
    | some p =>
      obtain ⟨v0, m0⟩ := p
      simp only [filtR] at h
      cases hk : okR P f v0 <;> rw [hk] at h <;> simp at h
      rw [← h.1]; exact hk
theorem code_eq (P : Program) (K : TypeId → Bool) (G : Nat) (df : DFun) (hdf : Typed P df) (n k : Nat) (c : Code) (t : Tmps) (m : Mem) (q : ExK α) :
    onE (codeD P K G df (drawD P K G df n) n k c t m) q = codeF c P K G (cfT P (cfOf df)) (lpOf P K G df n) n k t m q :=
  (codeF_eq P K G (cfT P (cfOf df)) df (fun f a m q => cfT_of P df hdf f a m q) (lpOf P K G df n) n k (fun _ _ _ _ _ _ => rfl) c t m q).symm
theorem body_eq {P : Program} {K : TypeId → Bool} {G : Nat} {df : DFun} (hdf : Typed P df) {k : Nat} {f : FuncId} {fn : Func} {c : Code} (n : Nat) (hf : P.funcs[f]? = some fn) (hc : fn.body = some c) (args : List Value) (hn : max args.length fn.ntmps = n) (m : Mem) :
    bodyN P K G df k f args m = codeF c P K G (cfT P (cfOf df)) (lpOf P K G df n) n k (fullN n (argX args)) m (retF P fn fun v m => some (v, m)) := by
  rw [← code_eq P K G df hdf, bodyN, hf]
  simp only [hc, hn]
  cases codeD P K G df (drawD P K G df n) n k c (fullN n (argX args)) m with
  | none => rfl
  | some r =>
    obtain ⟨e, t, m'⟩ := r
    cases e with
    | normal =>
      show _ = resF fn.results.toList P t m' fun vs => some (resV vs, m')
      rw [resF_eq]
      simp only [endD]
      cases resD P t m' fn.results.toList <;> rfl
    | exit id => rfl
    | ret =>
      show _ = resF fn.results.toList P t m' fun vs => some (resV vs, m')
      rw [resF_eq]
      simp only [endD]
      cases resD P t m' fn.results.toList <;> rfl
def q0 : ExK (Ex × Tmps × Mem) := fun e t m => some (e, t, m)
theorem step_eq (P : Program) (K : TypeId → Bool) (G : Nat) {df : DFun} (hdf : Typed P df) (n k : Nat) (c : Code) (t : Tmps) (m : Mem) :
    codeD P K G df (drawD P K G df n) n k c t m = codeF c P K G (cfT P (cfOf df)) (lpOf P K G df n) n k t m q0 := by
  rw [← code_eq P K G df hdf]
  cases codeD P K G df (drawD P K G df n) n k c t m with
  | none => rfl
  | some r => rfl
def loopC (c : Code) (j : Nat) : Code := match (loopsOf c)[j]? with | some c => c | none => .skip
def kont (P : Program) (K : TypeId → Bool) (G : Nat) (cf : CF α) (L : LK α) (n k : Nat) : Code → Nat → ExK α → ExK α
  | .seq a b, j, q => cond (Nat.blt j (loopsOf a).length) (kont P K G cf L n k a j fun e t m => Ex.rec (motive := fun _ => Option α) (codeF b P K G cf L n k t m q) (fun id => q (.exit id) t m) (q .ret t m) e) (kont P K G cf L n k b (j - (loopsOf a).length) q)
  | .cond _ a b, j, q => cond (Nat.blt j (loopsOf a).length) (kont P K G cf L n k a j q) (kont P K G cf L n k b (j - (loopsOf a).length) q)
  | .block id c, j, q => kont P K G cf L n k c j fun e t m => Ex.rec (motive := fun _ => Option α) (q .normal t m) (fun id' => Bool.rec (motive := fun _ => Option α) (q (.exit id') t m) (q .normal t m) (Nat.beq id' id)) (q .ret t m) e
  | _, _, q => q
theorem lpOf_eq (P : Program) (K : TypeId → Bool) (G : Nat) (df : DFun) (n : Nat) (b : Tmps → Mem → ExK α → Option α) (c : Code) (k : Nat) (t : Tmps) (m : Mem) (q : ExK α) : lpOf P K G df n b c k t m q = onE (loopD (codeD P K G df (drawD P K G df n) n k c) k t m) q := rfl
theorem loopC_body (f : Func) (j : Nat) : loopC (bodyOf f) j = loopN f j := rfl
theorem onE_some (e : Ex) (t : Tmps) (m : Mem) (q : ExK α) : onE (some (e, t, m)) q = q e t m := rfl
end Y
end
end Go.DI
namespace Go.DI
open Go.RowKit Go.ChangeShapes Go.WideShapes
def m0 : Mem := ⟨fun _ => .none, .nil, 0⟩
def among (l : List TypeId) (t : TypeId) : Bool := l.any fun u => Nat.beq u t
theorem plain_among {P : Program} {l : List TypeId} (h : (l.all fun t => not (P.stoodInHeld t) && not (P.eqGuardType P.depth t)) = true) : Plain P (among l) := by
  intro t ht
  simp only [among, List.any_eq_true] at ht
  obtain ⟨u, hu, hut⟩ := ht
  obtain rfl := Nat.eq_of_beq_eq_true hut
  have := List.all_eq_true.1 h u hu
  simp only [Bool.and_eq_true, Bool.not_eq_true'] at this
  exact this
theorem noNG_of {P : Program} (h : (P.funcs.toList.all fun fn => fn.body.isNone || not (fn.name == "runtime.NumGoroutine")) = true) : NoNG P := by
  intro f fn hf hb
  have hm : fn ∈ P.funcs.toList := by
    have : P.funcs.toList[f]? = some fn := by simpa using hf
    exact List.mem_of_getElem? this
  have := List.all_eq_true.1 h fn hm
  rw [hb] at this
  simpa using this
end Go.DI
namespace Go.DI
open Go.RowKit
end Go.DI
namespace Go.DI
def Ren.sub (ι : Ren) (ρ : Nat → Nat) (k : Nat → Bool) : Ren := fun i => if k i = true then ι (ρ i) else none
def VSim (ρ : Nat → Nat) (k : Nat → Bool) (vs v : Value) : Prop := ∀ (ι : Ren) (v' : Value), VRel ι v v' → VRel (ι.sub ρ k) vs v'
def VEmb (ρ : Nat → Nat) (vs v : Value) : Prop := ∀ (ι κ : Ren) (v' : Value), (∀ i L, ι i = some L → κ (ρ i) = some L) → VRel ι vs v' → VRel κ v v'
structure BSim (ρ : Nat → Nat) (k : Nat → Bool) (bs b : Blk) : Prop where
  live : bs.live → b.live
  own : bs.own = true → b.own = true
  rel : ∀ (B0 : Nat) (ι : Ren) (L : Loc) (w : World), BlkRel B0 ι b L w → BlkRel B0 (ι.sub ρ k) bs L w
structure BEmb (ρ : Nat → Nat) (bs b : Blk) : Prop where
  live : b.live → bs.live
  own : b.own = true → bs.own = true
  rel : ∀ (B0 : Nat) (ι κ : Ren) (L : Loc) (w : World), (∀ i L, ι i = some L → κ (ρ i) = some L) → BlkRel B0 ι bs L w → BlkRel B0 κ b L w
inductive VSims (ρ : Nat → Nat) (k : Nat → Bool) : List Value → List Value → Prop where
  | nil : VSims ρ k [] []
  | cons {x y : Value} {l l' : List Value} : VSim ρ k x y → VSims ρ k l l' → VSims ρ k (x :: l) (y :: l')
theorem VSims.rel {ρ : Nat → Nat} {k : Nat → Bool} {ι : Ren} : ∀ {l l' l'' : List Value}, VSims ρ k l l' → VRels ι l' l'' → VRels (ι.sub ρ k) l l''
  | _, _, _, .nil, h => by cases h; exact .nil
  | _, _, _, .cons h t, g => by
    cases g with
    | cons g0 gt => exact .cons (h _ _ g0) (t.rel gt)
theorem ownlive {x : Blk} (h : x.own = true) : x.live := by cases x <;> first | trivial | simp [Blk.own] at h
structure Local (ρ : Nat → Nat) (A : Nat → Bool) (ms ms' M M' : Mem) : Prop where
  sees : ∀ i, A i = true → i < ms.size
  grw : Grw ms ms'
  top : ms.top
  top' : M'.top
  old : ∀ i, A i = true → ρ i < M.size
  inj : ∀ i j, A i = true → A j = true → (ms.get i).live → (ms.get j).live → ρ i = ρ j → i = j
  new : ∀ i, ms.size ≤ i → i < ms'.size → ρ i = M.size + (i - ms.size)
  size : M'.size = M.size + (ms'.size - ms.size)
  sim : ∀ i, A i = true → BSim ρ A (ms.get i) (M.get (ρ i))
  emb : ∀ i, i < ms'.size → (A i = true ∨ ms.size ≤ i) → M'.get (ρ i) = .none ∨ BEmb ρ (ms'.get i) (M'.get (ρ i))
  rest : ∀ b, b < M.size → (∀ i, A i = true → ρ i ≠ b) → M'.get b = M.get b
theorem embedG {P : Program} {B0 G : Nat} (Gs : Nat) {f : FuncId} {avs args : List Value} {vs v : Value} {ms ms' M M' : Mem} {ρ : Nat → Nat} {A : Nat → Bool} (hG : ∀ g, g < Gs → g < G ∧ A g = true ∧ ρ g = g) (run : CallOK P B0 Gs f avs ms vs ms') (h : Local ρ A ms ms' M M')
    (ha : VSims ρ A avs args) (hv : VEmb ρ vs v) : CallOK P B0 G f args M v M' := by
  intro ι w args' hr hf hargs
  have hms := h.grw.size
  have hrs : Rel B0 Gs (ι.sub ρ A) ms w := by
    refine ⟨fun b L hb hL => ?_, fun b₁ b₂ L₁ L₂ h1 h2 e1 e2 l1 l2 g0 e => ?_, hr.floor, fun g hg => ?_, fun b hb => h.top b hb⟩
    · simp only [Ren.sub] at hL
      split at hL
      · rename_i hb
        exact (h.sim b hb).rel _ _ _ _ (hr.blk _ _ (h.old b hb) hL)
      · simp at hL
    · simp only [Ren.sub] at e1 e2
      split at e1
      · rename_i h1
        split at e2
        · rename_i h2
          exact h.inj _ _ h1 h2 l1 l2 (hr.inj _ _ _ _ (h.old _ h1) (h.old _ h2) e1 e2 ((h.sim _ h1).live l1) ((h.sim _ h2).live l2) g0 e)
        · simp at e2
      · simp at e1
    · obtain ⟨q1, q2, q3⟩ := hG g hg
      obtain ⟨L, p1, p2⟩ := hr.glob g q1
      exact ⟨L, by simp only [Ren.sub, q2, if_true, q3]; exact p1, p2⟩
  refine (run _ w args' hrs (fun b h1 _ => by simp only [Ren.sub]; rw [if_neg (fun g => by have := h.sees b g; omega)]) (ha.rel hargs)).mono ?_
  rintro e w' ⟨v', ι₂, he, hv', hr', hs⟩
  let κ : Ren := fun b => if b < M.size then ι b else if b < M'.size then ι₂ (ms.size + (b - M.size)) else ι b
  have hκold : ∀ b, b < M.size → κ b = ι b := fun b hb => by simp only [κ, hb, if_true]
  have hκnew : ∀ i, ms.size ≤ i → i < ms'.size → κ (ρ i) = ι₂ i := fun i h1 h2 => by
    have e := h.new i h1 h2
    have e2 := h.size
    simp only [κ]
    rw [if_neg (by omega), if_pos (by omega), e]
    congr 1; omega
  have hι₂old : ∀ i, A i = true → ι₂ i = ι (ρ i) := fun i hi => by
    rw [hs.out i (.inl (h.sees i hi))]; simp only [Ren.sub, hi, if_true]
  have hι₂none : ∀ i L, i < ms.size → ι₂ i = some L → A i = true := fun i L hi hL => by
    rw [hs.out i (.inl hi)] at hL
    simp only [Ren.sub] at hL
    split at hL
    · assumption
    · simp at hL
  have hle : ι.le κ := fun b L hL => by
    simp only [κ]
    split
    · exact hL
    · split
      · have := hf b (by omega) (by omega)
        rw [this] at hL; cases hL
      · exact hL
  have hmap : ∀ i L, ι₂ i = some L → κ (ρ i) = some L := fun i L hL => by
    rcases Nat.lt_or_ge i ms.size with h0 | h1
    · have h1 := hι₂none i L h0 hL
      rw [hκold _ (h.old i h1), ← hι₂old i h1]; exact hL
    · rcases Nat.lt_or_ge i ms'.size with h2 | h2
      · rw [hκnew i h1 h2]; exact hL
      · have := hs.out i (.inr h2)
        rw [this] at hL
        simp only [Ren.sub] at hL
        rw [if_neg (fun g => by have := h.sees i g; have := h.grw.size; omega)] at hL
        cases hL
  have cases3 : ∀ b L, b < M'.size → κ b = some L → (∃ i, A i = true ∧ ρ i = b ∧ ι₂ i = some L ∧ ι b = some L) ∨ (b < M.size ∧ (∀ i, A i = true → ρ i ≠ b) ∧ ι b = some L) ∨ (∃ i, ms.size ≤ i ∧ i < ms'.size ∧ ρ i = b ∧ ι₂ i = some L) := by
    intro b L hb hL
    rcases Nat.lt_or_ge b M.size with h1 | h1
    · rw [hκold b h1] at hL
      by_cases hx : ∃ i, A i = true ∧ ρ i = b
      · obtain ⟨i, hi, rfl⟩ := hx
        exact .inl ⟨i, hi, rfl, by rw [hι₂old i hi]; exact hL, hL⟩
      · exact .inr (.inl ⟨h1, fun i hi e => hx ⟨i, hi, e⟩, hL⟩)
    · have e2 := h.size
      have hi : ms.size + (b - M.size) < ms'.size := by omega
      have e3 := h.new (ms.size + (b - M.size)) (by omega) hi
      have e4 : ρ (ms.size + (b - M.size)) = b := by omega
      have := hκnew (ms.size + (b - M.size)) (by omega) hi
      rw [e4, hL] at this
      exact .inr (.inr ⟨_, by omega, hi, e4, this.symm⟩)
  have hframe : ∀ B, B < w.heap.size → (∀ b L, b < M.size → ι b = some L → (M.get b).own = true → L.block ≠ B) → w'.heap[B]? = w.heap[B]? := by
    intro B hB hno
    refine hs.frame B hB fun i L hi hL ho => ?_
    simp only [Ren.sub] at hL
    split at hL
    · rename_i hi
      exact hno _ _ (h.old i hi) hL ((h.sim i hi).own ho)
    · simp at hL
  refine ⟨v', κ, he, hv _ _ _ hmap hv', ⟨fun b L hb hL => ?_, fun b₁ b₂ L₁ L₂ h1 h2 e1 e2 l1 l2 g0 e => ?_, hr'.floor, fun g hg => ?_, h.top'⟩,
    ⟨hle, fun b hb => ?_, hs.os, hs.output, hs.tape, hs.hsize, hframe, fun b L h1 h2 hL => ?_, by have := h.size; omega, fun b hb ho => ?_⟩⟩
  · rcases cases3 b L hb hL with ⟨i, hi, rfl, h2, h3⟩ | ⟨h1, h2, h3⟩ | ⟨i, hi, hi', rfl, h2⟩
    · have hi0 := h.sees i hi
      rcases h.emb i (by omega) (.inl hi) with g | g
      · rw [g]; trivial
      · exact g.rel _ _ _ _ _ hmap (hr'.blk _ _ (by omega) h2)
    · rw [h.rest b h1 h2]
      have hb0 := hr.blk b L h1 h3
      by_cases hl : (M.get b).live
      · refine BlkRel.mono hle (hs.frame _ (hr.old _ _ h3 hl) fun i L' q1 q2 q3 q4 => ?_) hb0
        simp only [Ren.sub] at q2
        split at q2
        · rename_i q1
          exact h2 i q1 (hr.inj _ _ _ _ (h.old i q1) h1 q2 h3 (ownlive ((h.sim i q1).own q3)) hl ((hr.blk _ _ (h.old i q1) q2).own_floor ((h.sim i q1).own q3)) q4)
        · simp at q2
      · cases hg : M.get b with
        | none => trivial
        | cells => rw [hg] at hl; exact absurd trivial hl
        | map => rw [hg] at hl; exact absurd trivial hl
        | siter => rw [hg] at hl; exact absurd trivial hl
    · rcases h.emb i hi' (.inr hi) with g | g
      · rw [g]; trivial
      · exact g.rel _ _ _ _ _ hmap (hr'.blk _ _ hi' h2)
  · -- no two live blocks at one place
    have key : ∀ b, M'.get b ≠ .none → ∀ i, i < ms'.size → (A i = true ∨ ms.size ≤ i) → ρ i = b → (ms'.get i).live := fun b hb i hi hA e => by
      rcases h.emb i hi hA with g | g
      · rw [e] at g; exact absurd g hb
      · refine g.live ?_
        rw [e]
        cases hg : M'.get b with
        | none => exact absurd hg hb
        | cells => trivial
        | map => trivial
        | siter => trivial
    have ne1 : M'.get b₁ ≠ .none := fun g => by rw [g] at l1; exact l1
    have ne2 : M'.get b₂ ≠ .none := fun g => by rw [g] at l2; exact l2
    have mixed : ∀ b c L L', M'.get b ≠ .none → b < M'.size → κ b = some L → c < M.size → (∀ i, A i = true → ρ i ≠ c) → ι c = some L' → (M'.get c).live → B0 ≤ L.block → L.block = L'.block →
        (∃ i, i < ms'.size ∧ (A i = true ∨ ms.size ≤ i) ∧ ρ i = b ∧ ι₂ i = some L) → False := by
      intro b c L L' nb hb hL hc hno hLc lc g0 e ⟨i, hi, hA, hib, hiL⟩
      have lc' : (M.get c).live := by rw [← h.rest c hc hno]; exact lc
      rcases Nat.lt_or_ge i ms.size with h0 | h1
      · have h1 := hι₂none i L h0 hiL
        have g1 := h.grw.live i h0 (key b nb i hi hA hib)
        have g2 := (h.sim i h1).live g1
        have g3 : ι (ρ i) = some L := by rw [← hι₂old i h1]; exact hiL
        exact hno i h1 (hr.inj _ _ _ _ (h.old i h1) hc g3 hLc g2 lc' g0 e)
      · rcases hs.new i L h1 hi hiL with g | ⟨b0, L0, g1, g2, g3, g4⟩
        · have := hr.old c L' hLc lc'; omega
        · simp only [Ren.sub] at g2
          split at g2
          · rename_i g1
            exact hno b0 g1 (hr.inj _ _ _ _ (h.old b0 g1) hc g2 hLc (ownlive ((h.sim b0 g1).own g3)) lc' ((hr.blk _ _ (h.old b0 g1) g2).own_floor ((h.sim b0 g1).own g3)) (by omega))
          · simp at g2
    have known : ∀ b L, b < M'.size → κ b = some L → (∃ i, i < ms'.size ∧ (A i = true ∨ ms.size ≤ i) ∧ ρ i = b ∧ ι₂ i = some L) ∨ (b < M.size ∧ (∀ i, A i = true → ρ i ≠ b) ∧ ι b = some L) := by
      intro b L hb hL
      rcases cases3 b L hb hL with ⟨i, hi, g1, g2, _⟩ | g | ⟨i, hi, hi', g1, g2⟩
      · exact .inl ⟨i, by have := h.sees i hi; omega, .inl hi, g1, g2⟩
      · exact .inr g
      · exact .inl ⟨i, hi', .inr hi, g1, g2⟩
    rcases known b₁ L₁ h1 e1 with k1 | k1
    · rcases known b₂ L₂ h2 e2 with k2 | k2
      · obtain ⟨i, hi, hA, q1, q2⟩ := k1
        obtain ⟨j, hj, hB, r1, r2⟩ := k2
        have := hr'.inj i j _ _ hi hj q2 r2 (key b₁ ne1 i hi hA q1) (key b₂ ne2 j hj hB r1) g0 e
        rw [← q1, ← r1, this]
      · exact (mixed b₁ b₂ L₁ L₂ ne1 h1 e1 k2.1 k2.2.1 k2.2.2 l2 g0 e k1).elim
    · rcases known b₂ L₂ h2 e2 with k2 | k2
      · exact (mixed b₂ b₁ L₂ L₁ ne2 h2 e2 k1.1 k1.2.1 k1.2.2 l1 (Nat.le_trans g0 (Nat.le_of_eq e)) e.symm k2).elim
      · refine hr.inj _ _ _ _ k1.1 k2.1 k1.2.2 k2.2.2 ?_ ?_ g0 e
        · rw [← h.rest _ k1.1 k1.2.1]; exact l1
        · rw [← h.rest _ k2.1 k2.2.1]; exact l2
  · obtain ⟨L, g1, g2⟩ := hr.glob g hg
    exact ⟨L, hle _ _ g1, g2⟩
  · have e2 := h.size
    rcases hb with hb | hb
    · exact hκold b hb
    · simp only [κ]
      rw [if_neg (by omega), if_neg (by omega)]
  · rcases cases3 b L h2 hL with ⟨i, hi, g1, _, _⟩ | ⟨g, _, _⟩ | ⟨i, hi, hi', g1, g2⟩
    · have := h.old i hi; omega
    · omega
    · rcases hs.new i L hi hi' g2 with g | ⟨b0, L0, q1, q2, q3, q4⟩
      · exact .inl g
      · simp only [Ren.sub] at q2
        split at q2
        · rename_i q1
          exact .inr ⟨ρ b0, L0, h.old b0 q1, q2, (h.sim b0 q1).own q3, q4⟩
        · simp at q2
  · by_cases hx : ∃ i, A i = true ∧ ρ i = b
    · obtain ⟨i, hi, rfl⟩ := hx
      have hi0 := h.sees i hi
      rcases h.emb i (by omega) (.inl hi) with g | g
      · rw [g] at ho; simp [Blk.own] at ho
      · exact (h.sim i hi).own (hs.ownk i hi0 (g.own ho))
    · rw [h.rest b hb (fun i hi e => hx ⟨i, hi, e⟩)] at ho
      exact ho
theorem embed {P : Program} {B0 G : Nat} {f : FuncId} {avs args : List Value} {vs v : Value} {ms ms' M M' : Mem} {ρ : Nat → Nat} {A : Nat → Bool} (run : CallOK P B0 0 f avs ms vs ms') (h : Local ρ A ms ms' M M')
    (ha : VSims ρ A avs args) (hv : VEmb ρ vs v) : CallOK P B0 G f args M v M' := embedG 0 (fun g hg => absurd hg (Nat.not_lt_zero _)) run h ha hv
end Go.DI
namespace Go.DI
def Free (v : Value) : Prop := ∀ (ι κ : Ren) (v' : Value), VRel ι v v' → VRel κ v v'
theorem Free.sim {v : Value} (h : Free v) (ρ : Nat → Nat) (k : Nat → Bool) : VSim ρ k v v := fun ι v' g => h ι _ v' g
theorem Free.emb {v : Value} (h : Free v) (ρ : Nat → Nat) : VEmb ρ v v := fun ι κ v' _ g => h ι κ v' g
theorem free_int (k : IntKind) (n : Int) : Free (.int k n) := fun _ _ _ h => by cases h; constructor
theorem free_bool (b : Bool) : Free (.bool b) := fun _ _ _ h => by cases h; constructor
theorem free_agg {a : Array Value} (h : ∀ x ∈ a.toList, Free x) : Free (.agg a) := fun ι κ v' g => by
  cases g with
  | agg _ a' hs hr =>
    refine .agg _ _ hs fun i x y hx hy => h x ?_ ι κ y (hr i x y hx hy)
    exact Array.mem_toList_iff.2 (Array.mem_of_getElem? hx)
theorem free_tuple {a : Array Value} (h : ∀ x ∈ a.toList, Free x) : Free (.tuple a) := fun ι κ v' g => by
  cases g with
  | tuple _ a' hs hr =>
    refine .tuple _ _ hs fun i x y hx hy => h x ?_ ι κ y (hr i x y hx hy)
    exact Array.mem_toList_iff.2 (Array.mem_of_getElem? hx)
section
variable {ρ : Nat → Nat} {k : Nat → Bool}
theorem emb_loose {i o e n c : Nat} : VEmb ρ (.slice (some ⟨i, o, some e⟩) n c) (.slice (some ⟨ρ i, o, some e⟩) n c) := fun ι κ v' hm g => by
  cases g with
  | loose _ _ _ _ _ _ L h hc ht => exact .loose _ _ _ _ _ _ L (hm _ _ h) hc ht
  | loose0 _ _ _ _ _ L h ht => exact .loose0 _ _ _ _ _ L (hm _ _ h) ht
  | empty => exact .empty _ _ _ _
/-! ### blocks -/
theorem bsim_cells {o : Bool} {cs c : List Value} (hl : cs.length = c.length) (h : ∀ (i : Nat) (x y : Value), cs[i]? = some x → c[i]? = some y → VSim ρ k x y) : BSim ρ k (.cells o cs) (.cells o c) := by
  refine ⟨fun _ => trivial, id, fun B0 ι L w => ?_⟩
  rintro ⟨rc, e, fr, h1, h2, h3, h4, h5⟩
  refine ⟨rc, e, fr, h1, h2, by omega, fun i v hv => ?_, h5⟩
  have hi : i < c.length := by have := (List.getElem?_eq_some_iff.1 hv).1; omega
  obtain ⟨v', g1, g2⟩ := h4 i c[i] (List.getElem?_eq_getElem hi)
  exact ⟨v', g1, h i v c[i] hv (List.getElem?_eq_getElem hi) ι v' g2⟩
theorem bemb_cells {o : Bool} {cs c : List Value} (hl : cs.length = c.length) (h : ∀ (i : Nat) (x y : Value), cs[i]? = some x → c[i]? = some y → VEmb ρ x y) : BEmb ρ (.cells o cs) (.cells o c) := by
  refine ⟨fun _ => trivial, id, fun B0 ι κ L w hm => ?_⟩
  rintro ⟨rc, e, fr, h1, h2, h3, h4, h5⟩
  refine ⟨rc, e, fr, h1, h2, by omega, fun i v hv => ?_, h5⟩
  have hi : i < cs.length := by have := (List.getElem?_eq_some_iff.1 hv).1; omega
  obtain ⟨v', g1, g2⟩ := h4 i cs[i] (List.getElem?_eq_getElem hi)
  exact ⟨v', g1, h i cs[i] v (List.getElem?_eq_getElem hi) hv ι κ v' hm g2⟩
theorem bsim_free {o : Bool} {c : List Value} (h : ∀ x ∈ c, Free x) : BSim ρ k (.cells o c) (.cells o c) :=
  bsim_cells rfl fun i x y hx hy => by
    rw [hx] at hy; cases hy
    exact (h x (List.mem_of_getElem? hx)).sim ρ k
theorem bemb_free {o : Bool} {c : List Value} (h : ∀ x ∈ c, Free x) : BEmb ρ (.cells o c) (.cells o c) :=
  bemb_cells rfl fun i x y hx hy => by
    rw [hx] at hy; cases hy
    exact (h x (List.mem_of_getElem? hx)).emb ρ
end
end Go.DI
namespace Go.DI
open Go.RowKit
noncomputable section
theorem nr {p : Prop} (h : p) : p := by
  by_cases hp : p
  · exact hp
  · exact absurd h hp
section
variable {α : Type}
theorem nCondT {β : Type} (a b : β) : cond true a b = a := nr rfl
theorem nCondF {β : Type} (a b : β) : cond false a b = b := nr rfl
theorem nOnV (v : Value) (m : Mem) (q : Value → Mem → Option α) : onV (some (v, m)) q = q v m := nr rfl
theorem nAsBoB (b : Bool) (q : Bool → Option α) (d : Option α) : Y.asBo (.bool b) q d = q b := nr rfl
theorem nAsTup (a : Array Value) (q : Array Value → Option α) : Y.asTup (.tuple a) q = q a := nr rfl
theorem nUncC (a : Value) (l : List Value) (q : Value → List Value → Option α) (d : Option α) : Y.unc (a :: l) q d = q a l := nr rfl
theorem nUncN (q : Value → List Value → Option α) (d : Option α) : Y.unc [] q d = d := nr rfl
theorem nAsInt (k : IntKind) (n : Int) (q : IntKind → Int → Option α) (d : Option α) : Y.asInt (.int k n) q d = q k n := nr rfl
theorem nAsSl (a : Option Addr) (n c : Nat) (q : Option Addr → Nat → Nat → Option α) (d : Option α) : Y.asSl (.slice a n c) q d = q a n c := nr rfl
theorem nAsPt (a : Option Addr) (q : Option Addr → Option α) (d : Option α) : Y.asPt (.pointer a) q d = q a := nr rfl
theorem nAsAgg (a : Array Value) (q : Array Value → Option α) (d : Option α) : Y.asAgg (.agg a) q d = q a := nr rfl
theorem nKEq (k : IntKind) : Y.kEq k k = true := by cases k <;> rfl
theorem nElim {β γ : Type} (a : β) (d : γ) (f : β → γ) : Option.elim (some a) d f = f a := nr rfl
theorem nCells (o : Bool) (c : List Value) (q : Bool → List Value → Option α) : Y.cellsOf (.cells o c) q = q o c := nr rfl
theorem nOnNat (n : Nat) (q : Nat → Option α) : Y.onNat (n : Int) q = q n := nr rfl
theorem nOnE (e : Ex) (t : Tmps) (m : Mem) (q : Y.ExK α) : Y.onE (some (e, t, m)) q = q e t m := nr rfl
theorem nCf (df : DFun) (f : FuncId) (a : List Value) (m : Mem) (q : Value → Mem → Option α) : Y.cfOf df f a m q = onV (df f a m) q := nr rfl
end
namespace Kit
theorem eqF_f {a b : Int} (h : a ≠ b) : Y.eqF a b = false := by rw [Y.eqF_eq]; simp [h]
theorem eqF_t {a b : Int} (h : a = b) : Y.eqF a b = true := by rw [Y.eqF_eq]; simp [h]
theorem ltF_t {a b : Int} (h : a < b) : Y.ltF a b = true := by rw [Y.ltF_eq]; simp [h]
theorem ltF_f {a b : Int} (h : ¬ a < b) : Y.ltF a b = false := by rw [Y.ltF_eq]; simp [h]
theorem lt_len {i n : Nat} (h : i < n) : Y.ltF (i : Int) (Int.ofNat n) = true := ltF_t (by show (i : Int) < (n : Int); omega)
theorem ge_len {i n : Nat} (h : ¬ i < n) : Y.ltF (i : Int) (Int.ofNat n) = false := ltF_f (by show ¬ (i : Int) < (n : Int); omega)
theorem blt_t {a b : Nat} (h : a < b) : Nat.blt a b = true := by simpa [Nat.blt_eq] using h
theorem wrap64 {x : Int} (h : -9223372036854775808 ≤ x ∧ x ≤ 9223372036854775807) : IntKind.wrap .i64 x = x := IntWalk.i64_in _ h
theorem wrap_succ {i : Nat} (h : i ≤ 1000000000) : IntKind.wrap .i64 (Int.add (i : Int) (1 : Int)) = ((i + 1 : Nat) : Int) := IntWalk.i64_in _ (by show _ ≤ (i : Int) + 1 ∧ (i : Int) + 1 ≤ _; omega)
/-! ### loops -/
theorem loopD_next {body : Tmps → Mem → Option (Ex × Tmps × Mem)} {t t' : Tmps} {m m' : Mem} (k : Nat) (h : body t m = some (.normal, t', m')) : loopD body (k + 1) t m = loopD body k t' m' := by simp only [loopD, h]
theorem loopD_stop {body : Tmps → Mem → Option (Ex × Tmps × Mem)} {t t' : Tmps} {m m' : Mem} {e : Ex} (k : Nat) (h : body t m = some (e, t', m')) (he : e ≠ .normal) : loopD body (k + 1) t m = some (e, t', m') := by
  simp only [loopD, h]
  cases e with
  | normal => exact absurd rfl he
  | exit id => rfl
  | ret => rfl
/-! ### calls -/
section
variable {P : Program} {K : TypeId → Bool} {G : Nat}
theorem filtR_ok {f : FuncId} {v : Value} {m : Mem} (h : okR P f v = true) : filtR P f (some (v, m)) = some (v, m) := by simp only [filtR, h, cond_true]
theorem callN_o {o : Orc} {k : Nat} {f : FuncId} {a : List Value} {m m' : Mem} {v : Value} (hk : 1 ≤ k) (h : o f a m = some (v, m')) (hok : okR P f v = true) : callN P K G o k f a m = some (v, m') := by
  obtain ⟨k, rfl⟩ : ∃ k', k = k' + 1 := ⟨k - 1, by omega⟩
  simp only [callN, h, filtR_ok hok]
theorem call_of {o : Orc} {k : Nat} {f : FuncId} {fn : Func} {c : Code} {args : List Value} {m m' : Mem} {v : Value} (n : Nat) (ho : o f args m = none) (hf : P.funcs[f]? = some fn) (hc : fn.body = some c) (hn : max args.length fn.ntmps = n)
    (h : Y.codeF c P K G (Y.cfT P (Y.cfOf (callN P K G o k))) (Y.lpOf P K G (callN P K G o k) n) n k (fullN n (argX args)) m (Y.retF P fn fun v m => some (v, m)) = some (v, m')) (hok : okR P f v = true) :
    callN P K G o (k + 1) f args m = some (v, m') := by
  simp only [callN, ho]
  rw [Y.body_eq (Y.callN_typed P K G o k) (c := c) (fn := fn) n hf hc args hn, h, filtR_ok hok]
theorem turn_of {o : Orc} {k : Nat} {n : Nat} {c : Code} {t t' : Tmps} {m m' : Mem} {e : Ex} (h : Y.codeF c P K G (Y.cfT P (Y.cfOf (callN P K G o k))) (Y.lpOf P K G (callN P K G o k) n) n k t m Y.q0 = some (e, t', m')) :
    codeD P K G (callN P K G o k) (drawD P K G (callN P K G o k) n) n k c t m = some (e, t', m') :=
  (Y.step_eq P K G (Y.callN_typed P K G o k) n k c t m).trans h
end
/-! ### memories that grow -/
structure Ext (m m' : Mem) : Prop where
  size : m.size ≤ m'.size
  get : ∀ j, j < m.size → m'.get j = m.get j
  top : m.top → m'.top
theorem Ext.refl (m : Mem) : Ext m m := ⟨Nat.le_refl _, fun _ _ => rfl, id⟩
theorem Ext.trans {a b c : Mem} (h : Ext a b) (k : Ext b c) : Ext a c := ⟨Nat.le_trans h.size k.size, fun j hj => (k.get j (Nat.lt_of_lt_of_le hj h.size)).trans (h.get j hj), fun t => k.top (h.top t)⟩
theorem Ext.push (m : Mem) (x : Blk) : Ext m (m.push x) := ⟨by simp, fun j hj => Mem.get_push_ne _ (by omega) _, fun t j hj => by
  simp at hj
  rw [Mem.get_push_ne _ (by omega)]; exact t j (by omega)⟩
structure Upd (F : List Nat) (m m' : Mem) : Prop where
  size : m.size ≤ m'.size
  get : ∀ j, j < m.size → j ∉ F → m'.get j = m.get j
  top : m.top → m'.top
theorem Upd.refl (F : List Nat) (m : Mem) : Upd F m m := ⟨Nat.le_refl _, fun _ _ _ => rfl, id⟩
theorem Upd.trans {F F' : List Nat} {a b c : Mem} (h : Upd F a b) (k : Upd F' b c) (hF : ∀ j ∈ F', j < a.size → j ∈ F) : Upd F a c :=
  ⟨Nat.le_trans h.size k.size, fun j hj hn => (k.get j (Nat.lt_of_lt_of_le hj h.size) fun hm => hn (hF j hm hj)).trans (h.get j hj hn), fun t => k.top (h.top t)⟩
theorem Ext.upd {m m' : Mem} (h : Ext m m') (F : List Nat) : Upd F m m' := ⟨h.size, fun j hj _ => h.get j hj, h.top⟩
theorem Upd.mono {F F' : List Nat} {m m' : Mem} (h : Upd F m m') (hF : ∀ j ∈ F, j ∈ F') : Upd F' m m' := ⟨h.size, fun j hj hn => h.get j hj fun hm => hn (hF j hm), h.top⟩
theorem Upd.set {m : Mem} {b : Nat} {x : Blk} (hb : b < m.size) : Upd [b] m (m.set b x) := ⟨Nat.le_refl _, fun j _ hn => Mem.get_set_ne _ (by simpa using hn) _, fun t j hj => by
  have hj : m.size ≤ j := hj
  rw [Mem.get_set_ne _ (by omega)]; exact t j hj⟩
/-! ### loads, stores, appends -/
theorem loadC_at {m : Mem} {b n : Nat} {own : Bool} {c rest : List Value} (hm : m.get b = .cells own (c ++ rest)) (hn : c.length = n) : loadC m b 0 n = some c := by
  subst hn
  unfold loadC
  rw [hm]
  simp
theorem storeD_at {P : Program} {m : Mem} {t : TypeId} {v : Value} {b off n : Nat} {c : List Value} (hs : szOf P t = some n) (hv : v.cells.toList.length = n) (hg : m.get b = .cells true c) (ho : off + n ≤ c.length) (h1 : v.cells.toList.all one = true) :
    storeD P m t v (.pointer (some ⟨b, off, none⟩)) = some (m.set b (.cells true (splice c off v.cells.toList))) := by
  unfold storeD
  rw [hs]
  simp only [hv, if_true]
  unfold storeC
  rw [hg]
  simp only [hv]
  rw [if_pos ho, h1, if_pos rfl]
section
variable {P : Program} {t e : TypeId} {z by_ : Nat}
theorem append_nil {m : Mem} {x : Value} {n : Nat} {new : List Value} (hu : P.underlying t = some (.slice e)) (hs : szOf P e = some z) (hz : z ≠ 0) (hb : bytesOf P e = some by_) (hb0 : 0 < by_) (h0 : (zerosD P e 1).isSome = true)
    (hl : lenOf x = some n) (hn : 0 < n) (hbig : n * by_ ≤ 140737488355328 ∧ n ≤ 4611686018427387904) (hf : firstC m z n x = some new) (hnl : new.length = n * z) (h1 : new.all one = true) :
    appendD P m t t (.slice none 0 0) x = some (.slice (some ⟨m.size, 0, some z⟩) n n, m.push (.cells true new)) := by
  have hf0 : firstC m z 0 (.slice none 0 0) = some [] := rfl
  unfold appendD
  simp only [hu, hs, hb, hl, hf, hf0]
  rw [if_neg hz, if_neg (by omega), if_pos ⟨by rw [Nat.zero_add]; exact hbig.1, by omega, hb0, h0⟩, if_pos ⟨by rw [h1]; rfl, by simp, hnl⟩]
  simp
theorem append_own {m : Mem} {bk k n : Nat} {x : Value} {old new : List Value} (hu : P.underlying t = some (.slice e)) (hs : szOf P e = some z) (hz : z ≠ 0) (hb : bytesOf P e = some by_) (hb0 : 0 < by_) (h0 : (zerosD P e 1).isSome = true)
    (hg : m.get bk = .cells true old) (hol : old.length = k * z) (h2 : old.all one = true)
    (hl : lenOf x = some n) (hn : 0 < n) (hbig : (k + n) * by_ ≤ 140737488355328 ∧ k + n ≤ 4611686018427387904) (hf : firstC m z n x = some new) (hnl : new.length = n * z) (h1 : new.all one = true) :
    appendD P m t t (.slice (some ⟨bk, 0, some z⟩) k k) x = some (.slice (some ⟨m.size, 0, some z⟩) (k + n) (k + n), (m.push (.cells true (old ++ new))).set bk .none) := by
  have hf0 : firstC m z k (.slice (some ⟨bk, 0, some z⟩) k k) = some old := loadC_at (rest := []) (by rw [List.append_nil]; exact hg) hol
  unfold appendD
  simp only [hu, hs, hb, hl, hf, hf0]
  rw [if_neg hz, if_neg (by omega), if_pos ⟨hbig.1, by omega, hb0, h0⟩, if_pos ⟨by rw [h1, h2]; rfl, hol, hnl⟩, if_pos trivial]
  simp only [hg]
end
/-! ### regions set apart -/
section
variable {α : Type}
def isReg : Code → Bool
  | .region _ _ _ => true
  | _ => false
def markS (s : List Nat) : Code → Code
  | .region i ops d => cond (s.any (Nat.beq i)) (.loop (.region i ops d)) (.region i ops d)
  | .seq a b => .seq (markS s a) (markS s b)
  | .cond c a b => .cond c (markS s a) (markS s b)
  | .block j c => .block j (markS s c)
  | c => c
def fitM : Code → Bool
  | .region _ _ _ => true
  | .seq a b => fitM a && fitM b
  | .cond _ a b => fitM a && fitM b
  | .block _ c => fitM c
  | .loop c => !isReg c
  | .skip => true
  | .exit _ => true
  | .ret => true
  | _ => false
def mixL (L : Y.LK α) : Y.LK α := fun body c k t m q => cond (isReg c) (body t m q) (L body c k t m q)
theorem mixL_reg (L : Y.LK α) (body : Tmps → Mem → Y.ExK α → Option α) {c : Code} (h : isReg c = true) (k : Nat) (t : Tmps) (m : Mem) (q : Y.ExK α) : mixL L body c k t m q = body t m q := by unfold mixL; rw [h]; rfl
theorem mixL_loop (L : Y.LK α) (body : Tmps → Mem → Y.ExK α → Option α) {c : Code} (h : isReg c = false) (k : Nat) (t : Tmps) (m : Mem) (q : Y.ExK α) : mixL L body c k t m q = L body c k t m q := by unfold mixL; rw [h]; rfl
theorem markS_eq (s : List Nat) (P : Program) (K : TypeId → Bool) (G : Nat) (cf : Y.CF α) (L : Y.LK α) (hL : ∀ b b' c k t m q, L b c k t m q = L b' c k t m q) (n k : Nat) : ∀ (c : Code), fitM c = true → ∀ (t : Tmps) (m : Mem) (q : Y.ExK α), Y.codeF c P K G cf L n k t m q = Y.codeF (markS s c) P K G cf (mixL L) n k t m q := by
  intro c
  induction c with
  | skip => intros; rfl
  | exit => intros; rfl
  | ret => intros; rfl
  | region i ops d =>
    intro _ t m q
    unfold markS
    cases s.any (Nat.beq i) <;> rfl
  | seq a b ia ib =>
    intro h t m q
    simp only [fitM, Bool.and_eq_true] at h
    refine (ia h.1 ..).trans ?_
    show _ = Y.codeF (markS s a) P K G cf (mixL L) n k t m fun e t m => Ex.rec (motive := fun _ => Option α) (Y.codeF (markS s b) P K G cf (mixL L) n k t m q) (fun id => q (.exit id) t m) (q .ret t m) e
    congr 1
    funext e t m
    cases e with
    | normal => exact ib h.2 ..
    | exit => rfl
    | ret => rfl
  | cond c a b ia ib =>
    intro h t m q
    simp only [fitM, Bool.and_eq_true] at h
    show Y.evF c G t (fun v => Y.asBool v (Y.codeF a P K G cf L n k t m q) (Y.codeF b P K G cf L n k t m q)) = Y.evF c G t (fun v => Y.asBool v (Y.codeF (markS s a) P K G cf (mixL L) n k t m q) (Y.codeF (markS s b) P K G cf (mixL L) n k t m q))
    rw [ia h.1, ib h.2]
  | block j c ic =>
    intro h t m q
    simp only [fitM] at h
    exact ic h ..
  | loop c ic =>
    intro h t m q
    simp only [fitM, Bool.not_eq_true'] at h
    show L (fun t m q => Y.codeF c P K G cf L n k t m q) c k t m q = mixL L (fun t m q => Y.codeF c P K G cf (mixL L) n k t m q) c k t m q
    rw [mixL_loop _ _ h]
    exact hL _ _ _ _ _ _ _
  | _ => intro h; cases h
theorem opsF_app (P : Program) (K : TypeId → Bool) (G : Nat) (cf : Y.CF α) (n : Nat) (ops l2 : List Oper) (q : Tmps → Mem → Option α) : ∀ (l1 : List Oper) (t : Tmps) (m : Mem), Y.opsF (l1 ++ l2) P K G cf n ops t m q = Y.opsF l1 P K G cf n ops t m fun t m => Y.opsF l2 P K G cf n ops t m q
  | [], t, m => rfl
  | o :: l, t, m => by
    have ih := opsF_app P K G cf n ops l2 q l
    show Bool.rec (motive := fun _ => Option α) none (Bool.rec (motive := fun _ => Option α) (Y.putOF t o.dst undef fun t' => Y.opsF (l ++ l2) P K G cf n ops t' m q)
      (Y.opF o.op P K G cf t m fun v m' => Y.putOF t o.dst v fun t' => Y.opsF (l ++ l2) P K G cf n ops t' m' q) (Y.wantF o ops t)) (Y.dstF n o.dst) = _
    simp only [ih]
    rfl
theorem opsF_cut (i : Nat) (P : Program) (K : TypeId → Bool) (G : Nat) (cf : Y.CF α) (n : Nat) (l ops : List Oper) (q : Tmps → Mem → Option α) (t : Tmps) (m : Mem) : Y.opsF l P K G cf n ops t m q = Y.opsF (l.take i) P K G cf n ops t m fun t m => Y.opsF (l.drop i) P K G cf n ops t m q := by
  rw [← opsF_app, List.take_append_drop]
end
end Kit
end
end Go.DI
namespace Go.DI
namespace Kit
noncomputable section
def growM (M : Mem) (d : Nat) : Mem := ⟨fun j => if j < M.size then M.get j else .none, .nil, M.size + d⟩
theorem growM_get (M : Mem) (d j : Nat) : (growM M d).get j = if j < M.size then M.get j else .none := by simp only [Mem.get, growM, Tr.get_nil]
theorem growM_top (M : Mem) (d : Nat) : (growM M d).top := fun j hj => by
  have hj : M.size + d ≤ j := hj
  rw [growM_get, if_neg (by omega)]
theorem growM_ext (M : Mem) (d : Nat) : Ext M (growM M d) := ⟨by show M.size ≤ M.size + d; omega, fun j hj => by rw [growM_get, if_pos hj], fun _ => growM_top M d⟩
def mG (gl : List Value) : Mem := m0.push (.cells false gl)
theorem mG_get (gl : List Value) : (mG gl).get 0 = .cells false gl := Mem.get_push_same _ _
theorem mG_size (gl : List Value) : (mG gl).size = 1 := rfl
theorem mG_top (gl : List Value) : (mG gl).top := fun j hj => by
  have hj : 1 ≤ j := hj
  unfold mG
  rw [Mem.get_push_ne _ (by show j ≠ 0; omega)]
  rfl
theorem vsims_free {ρ : Nat → Nat} {A : Nat → Bool} : ∀ {l : List Value}, (∀ x ∈ l, Free x) → VSims ρ A l l
  | [], _ => .nil
  | x :: l, h => .cons ((h x (List.mem_cons_self ..)).sim ρ A) (vsims_free fun y hy => h y (List.mem_cons_of_mem _ hy))
section
variable (P : Program) (K : TypeId → Bool) (gl : List Value)
open Classical in
def runG (R : FuncId → List Value → Mem → Option (Value × Mem)) (f : FuncId) (args : List Value) (M : Mem) : Option (Value × Mem) :=
  if M.top ∧ 1 ≤ M.size ∧ M.get 0 = .cells false gl ∧ ∀ x ∈ args, Free x then
    match R f args (mG gl) with
    | some (v, m) => if Free v ∧ m.get 0 = .cells false gl then some (v, growM M (m.size - 1)) else none
    | none => none
  else none
end
variable {P : Program} {K : TypeId → Bool} {gl : List Value}
def rhoG (M : Mem) (i : Nat) : Nat := match i with | 0 => 0 | i + 1 => M.size + i
theorem runG_ok {B0 : Nat} {R : FuncId → List Value → Mem → Option (Value × Mem)} (hg : ∀ x ∈ gl, Free x) (hR : CfOK P B0 1 R) (hRg : CfGrw R)
    {f : FuncId} {args : List Value} {M M' : Mem} {v : Value} (h : runG gl R f args M = some (v, M')) : CallOK P B0 1 f args M v M' ∧ Grw M M' := by
  unfold runG at h
  split at h <;> try (simp at h; done)
  rename_i hc
  obtain ⟨ht, h1, h0, ha⟩ := hc
  split at h <;> try (simp at h; done)
  rename_i v0 m hrun
  split at h <;> simp at h
  rename_i hv
  obtain ⟨hv, h00⟩ := hv
  obtain ⟨rfl, rfl⟩ := h
  have hgr := hRg _ _ _ _ _ hrun
  have hsz := hgr.size
  rw [mG_size] at hsz
  have hA : ∀ i : Nat, Nat.beq i 0 = true → i = 0 := fun i hi => Nat.eq_of_beq_eq_true hi
  have hloc : Local (rhoG M) (fun i => Nat.beq i 0) (mG gl) m M (growM M (m.size - 1)) := by
    refine ⟨fun i hi => (by rw [hA i hi, mG_size]; omega), hgr, mG_top gl, growM_top M _, fun i hi => (by rw [hA i hi]; exact h1), fun i j hi hj _ _ _ => (by rw [hA i hi, hA j hj]), fun i h1 _ => ?_, (by rw [mG_size]; rfl), fun i hi => ?_, fun i h1 h2 => ?_, fun j hj _ => ?_⟩
    · rw [mG_size] at h1 ⊢
      obtain ⟨k, rfl⟩ : ∃ k, i = k + 1 := ⟨i - 1, by omega⟩
      rfl
    · rw [hA i hi, mG_get]
      show BSim _ _ _ (M.get 0)
      rw [h0]; exact bsim_free hg
    · by_cases hi : i = 0
      · subst hi
        right
        rw [h00]
        show BEmb _ _ ((growM M _).get 0)
        rw [growM_get, if_pos (by omega), h0]; exact bemb_free hg
      · left
        obtain ⟨k, rfl⟩ : ∃ k, i = k + 1 := ⟨i - 1, by omega⟩
        show (growM M _).get (M.size + k) = _
        rw [growM_get, if_neg (by omega)]
    · rw [growM_get, if_pos hj]
  refine ⟨embedG 1 (fun g hg => ⟨hg, by obtain rfl : g = 0 := by omega
                                        rfl, by obtain rfl : g = 0 := by omega
                                                rfl⟩) (hR.ok _ _ _ _ _ hrun) hloc (vsims_free ha) (hv.emb _), ⟨by show M.size ≤ M.size + _; omega, fun _ => hloc.top', fun j hj hl => ?_, fun j hj ho => ?_⟩⟩
  · rw [growM_get, if_pos hj] at hl; exact hl
  · rw [growM_get, if_pos hj] at ho; exact ho
theorem runG_at {R : FuncId → List Value → Mem → Option (Value × Mem)} {f : FuncId} {args : List Value} {M m : Mem} {v : Value} (ht : M.top) (h1 : 1 ≤ M.size) (h0 : M.get 0 = .cells false gl) (ha : ∀ x ∈ args, Free x) (h : R f args (mG gl) = some (v, m)) (hv : Free v) (h00 : m.get 0 = .cells false gl) :
    runG gl R f args M = some (v, growM M (m.size - 1)) := by
  unfold runG
  rw [if_pos ⟨ht, h1, h0, ha⟩, h]
  exact if_pos ⟨hv, h00⟩
theorem of_tree {k : Nat} {f : FuncId} {args : List Value} {m : Mem} {v : Value} {b : Blk} (h : Y.callK P K 1 k f args m (fun v m => some (v, m.get 0)) = some (v, b)) : ∃ m', callD P K 1 k f args m = some (v, m') ∧ m'.get 0 = b := by
  rw [Y.callK_eq] at h
  cases hc : callD P K 1 k f args m with
  | none => rw [hc] at h; cases h
  | some r =>
    obtain ⟨v', m'⟩ := r
    rw [hc] at h
    have h := Option.some.inj h
    cases h
    exact ⟨m', rfl, rfl⟩
end
end Kit
end Go.DI
namespace Go.Cmp
open Go Go.DI
structure Ins where
  op : Int
  dst : Int
  src : Int
  off : Int
  imm : Int
  deriving DecidableEq
def Ins.zero : Ins := ⟨0, 0, 0, 0, 0⟩
def insC (x : Ins) : List Value := [.int .u8 x.op, .int .u8 x.dst, .int .u8 x.src, .int .i16 x.off, .int .i32 x.imm]
structure TestT where
  neg : Bool
  kind : Int
  pos : Int
  size : Int
  mask : Int
  lo : Int
  hi : Int
structure RuleT where
  tests : List TestT
  verdict : Int
structure RowS where
  i : Ins
  to : Nat
  here : Nat
def ins (x : Ins) (to : Nat) : RowS := ⟨x, to, 0⟩
def lab (l : Nat) : RowS := ⟨.zero, 0, l⟩
def w16 (n : Int) : Int := IntKind.wrap .i16 n
def w32 (n : Int) : Int := IntKind.wrap .i32 n
/-! ### instructions -/
def iNum (op r n : Int) : Ins := ⟨16 * op + 7, r, 0, 0, n⟩
def iRegs (op r s : Int) : Ins := ⟨16 * op + 15, r, s, 0, 0⟩
def iLow (n : Int) : Ins := ⟨180, 0, 0, 0, n⟩
def iExit : Ins := ⟨149, 0, 0, 0, 0⟩
def iConst (n : Int) : Ins := ⟨24, 3, 0, 0, w32 (n % 4294967296)⟩
def iHigh (n : Int) : Ins := ⟨0, 0, 0, 0, w32 (n / 4294967296)⟩
def sizeK (size : Int) : Int := if size = 4 then 0 else if size = 2 then 1 else if size = 1 then 2 else 3
def iLoad (size r s off : Int) : Ins := ⟨97 + 8 * sizeK size, r, s, w16 off, 0⟩
def iIf (op r n : Int) : Ins := ⟨16 * op + 5, r, 0, 0, n⟩
def iIfR (op : Int) : Ins := ⟨16 * op + 13, 2, 3, 0, 0⟩
def iGoto : Ins := ⟨5, 0, 0, 0, 0⟩
def iSwap (size : Int) : Ins := ⟨215, 2, 0, 0, 8 * size⟩
/-! ### rows; n: how many labels there were -/
def afreshS : List RowS := [ins (iNum 11 2 0) 0, ins (iNum 11 3 0) 0, ins (iLoad 4 8 6 0) 0]
def toldS (a : Nat) (n : Int) (out : Nat) : List RowS := [ins (iIf 3 8 (w32 n)) a, ins iGoto out, lab a]
def heldS (op n : Int) (out : Nat) : List RowS := if n < 2147483648 then [ins (iIf op 2 n) out] else [ins (iConst n) 0, ins (iHigh n) 0, ins (iIfR op) out]
def pastK (t : TestT) (out d : Nat) : Nat → Nat → Nat → List RowS
  | 0, _, _ => []
  | m + 1, k, n =>
    [ins (iIf 5 2 k) (if k = 15 then out else n + 1)] ++ toldS (n + 2) (14 + 4 * (k : Int) + t.pos + t.size) out ++ [ins (iLoad t.size 2 7 (14 + 4 * (k : Int) + t.pos)) 0, ins iGoto d, lab (n + 1)] ++ pastK t out d m (k + 1) (n + 2)
def fullS (size : Int) : Int := if size = 8 then 18446744073709551615 else if size = 4 then 4294967295 else if size = 2 then 65535 else 255
def isBytes (t : TestT) : Bool := decide (t.kind = 3) || decide (t.kind = 4)
def askS (t : TestT) (n : Nat) : List RowS :=
  if t.kind = 1 then [ins (iRegs 11 2 8) 0]
  else if t.kind = 2 then [ins (iLoad 4 2 6 4) 0]
  else if t.kind = 3 then toldS (n + 3) (t.pos + t.size) (n + 1) ++ [ins (iLoad t.size 2 7 t.pos) 0]
  else toldS (n + 4) 15 (n + 1) ++ [ins (iLoad 1 2 7 14) 0, ins (iNum 5 2 15) 0] ++ pastK t (n + 1) (n + 3) 16 0 (n + 4) ++ [lab (n + 3)]
def askN (t : TestT) (n : Nat) : Nat := if t.kind = 1 ∨ t.kind = 2 then n + 2 else if t.kind = 3 then n + 3 else n + 4 + 32
def maskS (t : TestT) : List RowS :=
  if isBytes t = true then
    (if 1 < t.size then [ins (iSwap t.size) 0] else []) ++
    (if t.mask = fullS t.size then [] else if t.mask < 2147483648 then [ins (iNum 5 2 t.mask) 0] else [ins (iConst t.mask) 0, ins (iHigh t.mask) 0, ins (iRegs 5 2 3) 0])
  else []
def boundS (t : TestT) (out : Nat) : List RowS :=
  (if 0 < t.lo then heldS 10 t.lo out else []) ++ (if isBytes t = false ∨ t.hi ≠ fullS t.size then heldS 2 t.hi out else [])
def endS (t : TestT) (out good fail : Nat) : List RowS :=
  if t.neg = true then afreshS ++ [ins iGoto fail, lab out, lab good] else [ins iGoto good, lab out] ++ afreshS ++ [ins iGoto fail, lab good]
def testS (t : TestT) (fail n : Nat) : List RowS := afreshS ++ askS t n ++ maskS t ++ boundS t (n + 1) ++ endS t (n + 1) (n + 2) fail
def testsS (fail : Nat) : List TestT → Nat → List RowS
  | [], _ => []
  | t :: l, n => testS t fail n ++ testsS fail l (askN t n)
def testsN : List TestT → Nat → Nat
  | [], n => n
  | t :: l, n => testsN l (askN t n)
def lowS (v : Int) : List RowS := [ins (iLow (w32 v)) 0, ins iExit 0]
def ruleS (r : RuleT) (n : Nat) : List RowS := afreshS ++ (if r.tests = [] then [ins (iIf 5 2 0) (n + 1)] else []) ++ testsS (n + 1) r.tests (n + 1) ++ lowS r.verdict ++ [lab (n + 1)]
def rulesS : List RuleT → Nat → List RowS
  | [], _ => []
  | r :: l, n => ruleS r n ++ rulesS l (testsN r.tests (n + 1))
def rulesN : List RuleT → Nat → Nat
  | [], n => n
  | r :: l, n => rulesN l (testsN r.tests (n + 1))
def tableS (l : List RuleT) : List RowS := [ins (iRegs 11 6 1) 0, ins (iLoad 8 7 1 8) 0] ++ rulesS l 0 ++ afreshS ++ lowS 0
/-! ### labels settled -/
def isLab (r : RowS) : Bool := decide (0 < r.here)
def cnt : List RowS → Nat
  | [] => 0
  | r :: l => if isLab r = true then cnt l else cnt l + 1
theorem cnt_append : ∀ (a b : List RowS), cnt (a ++ b) = cnt a + cnt b
  | [], b => by simp [cnt]
  | r :: a, b => by
    simp only [List.cons_append, cnt, cnt_append a b]
    split <;> omega
def atGo : List RowS → Nat → (Nat → Nat) → Nat → Nat
  | [], _, f => f
  | r :: l, n, f => if isLab r = true then atGo l n (fun j => if j = r.here then n else f j) else atGo l (n + 1) f
def atS (l : List RowS) : Nat → Nat := atGo l 0 fun _ => 0
def goS (q n : Nat) (x : Ins) : Ins := { x with off := w16 ((q : Int) - n - 1) }
def outGo (f : Nat → Option Nat) : List RowS → Nat → List Ins
  | [], _ => []
  | r :: l, n => if isLab r = true then outGo f l n else (match (if 0 < r.to then f r.to else none) with | some q => goS q n r.i | none => r.i) :: outGo f l (n + 1)
def madeS (l : List RowS) : List Ins := outGo (fun j => some (atS l j)) l 0
theorem outGo_append (f : Nat → Option Nat) : ∀ (a b : List RowS) (n : Nat), outGo f (a ++ b) n = outGo f a n ++ outGo f b (n + cnt a)
  | [], b, n => by simp [outGo, cnt]
  | r :: a, b, n => by
    simp only [List.cons_append, outGo, cnt]
    split
    · exact outGo_append f a b n
    · rw [outGo_append f a b (n + 1), List.cons_append]
      congr 2
      rw [show n + 1 + cnt a = n + (cnt a + 1) by omega]
theorem outGo_length (f : Nat → Option Nat) : ∀ (a : List RowS) (n : Nat), (outGo f a n).length = cnt a
  | [], n => rfl
  | r :: a, n => by
    simp only [outGo, cnt]
    split
    · exact outGo_length f a n
    · simp [outGo_length f a (n + 1)]
def jumpsS (l : Nat) : List RowS → Nat → List Nat
  | [], _ => []
  | r :: a, n => if isLab r = true then jumpsS l a n else (if r.to = l then [n] else []) ++ jumpsS l a (n + 1)
theorem jumpsS_append (l : Nat) : ∀ (a b : List RowS) (n : Nat), jumpsS l (a ++ b) n = jumpsS l a n ++ jumpsS l b (n + cnt a)
  | [], b, n => by simp [jumpsS, cnt]
  | r :: a, b, n => by
    simp only [List.cons_append, jumpsS, cnt]
    split
    · exact jumpsS_append l a b n
    · rw [jumpsS_append l a b (n + 1), List.append_assoc, show n + 1 + cnt a = n + (cnt a + 1) by omega]
end Go.Cmp
