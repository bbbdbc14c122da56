/-
  DiN: calls with an oracle once more, each body run on a full frame (all slots there from the start): 'callN'. And what a body, or a loop, comes to in the symbolic layer.
-/
import Derived.Test.YtfpbiojnbffkpaaC09
import Derived.Test.YtfpbiojnbffkpaaC06
import Derived.ChangeSame
import Derived.Below
import Derived.KernelRfl
import Derived.Test.YtfpbiojnbffkpaaChecked
set_option linter.all false
set_option linter.unusedVariables false
set_option linter.unusedSimpArgs false
namespace Go.DI
noncomputable section
def up (x : Nat → Value) (l : List (Nat × Value)) : Nat → Value :=
  List.rec (motive := fun _ => Nat → Value) x (fun p _ ih i => Bool.rec (motive := fun _ => Value) (ih i) p.2 (Nat.beq p.1 i)) l
theorem up_nil (x : Nat → Value) : up x [] = x := rfl
def fullN (n : Nat) (x : Nat → Value) : Tmps := Nat.rec (motive := fun _ => Tmps) .nil (fun i t => Tmps.set t i (x i)) n
theorem fullN_at (x : Nat → Value) (d : Nat) : ∀ n, (fullN n x).at d = if d < n then x d else undef
  | 0 => by simp [fullN, Tmps.at, Tr.get]
  | n + 1 => by
    have ih := fullN_at x d n
    show (Tmps.set (fullN n x) n (x n)).at d = _
    rw [Tmps.at_set, ih]
    by_cases h : d = n
    · subst h; simp
    · by_cases h2 : d < n
      · simp [h, h2, Nat.lt_succ_of_lt h2]
      · have : ¬ d < n + 1 := by omega
        simp [h, h2, this]
def x0 : Nat → Value := fun _ => undef
def argX (l : List Value) : Nat → Value :=
  List.rec (motive := fun _ => Nat → Value) x0 (fun a _ ih i => Nat.rec (motive := fun _ => Value) a (fun i' _ => ih i') i) l
theorem argX_eq : ∀ (l : List Value) (i : Nat), argX l i = (l[i]?).getD undef
  | [], i => by simp [argX, x0]
  | a :: l, 0 => rfl
  | a :: l, i + 1 => by
    have := argX_eq l i
    rw [List.getElem?_cons_succ]
    exact this
section
variable {P : Program} {K : TypeId → Bool} {G B0 : Nat}
abbrev DFun := FuncId → List Value → Mem → Option (Value × Mem)
def endD (P : Program) (fn : Func) : Option (Ex × Tmps × Mem) → Option (Value × Mem)
  | some (.normal, t, m') => match resD P t m' fn.results.toList with
    | some vs => some (resV vs, m')
    | none => none
  | some (.ret, t, m') => match resD P t m' fn.results.toList with
    | some vs => some (resV vs, m')
    | none => none
  | _ => none
def bodyN (P : Program) (K : TypeId → Bool) (G : Nat) (cf : DFun) (k : Nat) (f : FuncId) (args : List Value) (m : Mem) : Option (Value × Mem) :=
  match P.funcs[f]? with
    | some fn => match fn.body with
      | some c => endD P fn (codeD P K G cf (drawD P K G cf (max args.length fn.ntmps)) (max args.length fn.ntmps) k c (fullN (max args.length fn.ntmps) (argX args)) m)
      | none => none
    | none => none
def resT (P : Program) (f : FuncId) : List TypeId := match P.funcs[f]? with | some fn => fn.resultTypes.toList | none => []
def okL (P : Program) : List TypeId → List Value → Bool
  | [], [] => true
  | t :: ts, v :: vs => shp P t v && okL P ts vs
  | _, _ => false
def okR (P : Program) (f : FuncId) (v : Value) : Bool :=
  match resT P f with
  | [t] => shp P t v
  | [] => true
  | ts => match v with | .tuple cs => okL P ts cs.toList | _ => false
def filtR (P : Program) (f : FuncId) : Option (Value × Mem) → Option (Value × Mem)
  | some (v, m) => cond (okR P f v) (some (v, m)) none
  | none => none
theorem filtR_some {P : Program} {f : FuncId} {r : Option (Value × Mem)} {x : Value × Mem} (h : filtR P f r = some x) : r = some x := by
  cases r with
  | none => cases h
  | some p =>
    obtain ⟨v, m⟩ := p
    simp only [filtR] at h
    cases hk : okR P f v <;> rw [hk] at h <;> simp at h
    rw [h]
def callN (P : Program) (K : TypeId → Bool) (G : Nat) (o : Orc) : Nat → FuncId → List Value → Mem → Option (Value × Mem)
  | 0, _, _, _ => none
  | k + 1, f, args, m => filtR P f (match o f args m with
    | some r => some r
    | none => bodyN P K G (callN P K G o k) k f args m)
theorem bodyN_grw {cf : DFun} (ih : CfGrw cf) (k : Nat) (f : FuncId) (args : List Value) (m : Mem) (v : Value) (m' : Mem) (h : bodyN P K G cf k f args m = some (v, m')) : Grw m m' := by
  simp only [bodyN] at h
  split at h <;> try (simp at h; done)
  split at h <;> try (simp at h; done)
  simp only [endD] at h
  split at h <;> try (simp at h; done)
  all_goals
    rename_i hc
    split at h <;> simp at h
    rw [← h.2]
    exact codeD_grw ih (fun _ _ _ _ _ h => drawD_grw ih h) _ _ _ _ _ _ hc
theorem callN_grw {o : Orc} (ho : CfGrw o) : ∀ (k : Nat), CfGrw (callN P K G o k)
  | 0 => fun f args m v m' h => by simp [callN] at h
  | k + 1 => fun f args m v m' h => by
    simp only [callN] at h
    have h := filtR_some h
    split at h
    · rename_i r hr
      simp at h; subst h
      exact ho _ _ _ _ _ hr
    · exact bodyN_grw (callN_grw ho k) k f args m v m' h
theorem bodyN_ok (hmix : P.follows .mixedOrders = true) (hK : Plain P K) (hng : NoNG P) {cf : DFun} (ih : CfOK P B0 G cf) (hg : CfGrw cf) (k : Nat) : CfOK P B0 G (bodyN P K G cf k) := by
    refine ⟨fun f args m v m' h => (bodyN_grw hg k f args m v m' h).size, fun f args m v m' h => ?_, fun f args m v m' h => ?_⟩
    · simp only [bodyN] at h
      split at h <;> try (simp at h; done)
      rename_i fn hfn
      split at h <;> try (simp at h; done)
      rename_i c hc
      intro ι w args' hr hf hargs
      have hlen := hargs.length
      have ht0 : TRel ι (max args.length fn.ntmps) (fullN (max args.length fn.ntmps) (argX args)) { tmps := args'.toArray ++ Array.replicate (fn.ntmps - args'.toArray.size) undef, defers := [] } := by
        refine ⟨by simp; omega, fun d => ?_⟩
        rw [fullN_at, argX_eq]
        cases hd : args[d]? with
        | some v =>
          obtain ⟨y, hy, hry⟩ := hargs.get hd
          have hlt : d < args'.length := by
            rcases Nat.lt_or_ge d args'.length with h1 | h1
            · exact h1
            · rw [List.getElem?_eq_none h1] at hy; cases hy
          have : (args'.toArray ++ Array.replicate (fn.ntmps - args'.toArray.size) undef).getD d undef = y := by
            rw [Array.getD_eq_getD_getElem?, Array.getElem?_append_left (by simpa using hlt), List.getElem?_toArray, hy]; rfl
          rw [this, if_pos (by omega)]; exact hry
        | none =>
          have hge : args.length ≤ d := List.getElem?_eq_none_iff.1 hd
          have : (args'.toArray ++ Array.replicate (fn.ntmps - args'.toArray.size) undef).getD d undef = undef := by
            rw [Array.getD_eq_getD_getElem?, Array.getElem?_append_right (by simp; omega), Array.getElem?_replicate]
            split <;> rfl
          rw [this]
          split
          · exact VRel.undef _
          · exact VRel.undef _
      have fin : ∀ (e : Ex) (t' : Tmps) (m₁ : Mem), codeD P K G cf (drawD P K G cf (max args.length fn.ntmps)) (max args.length fn.ntmps) k c (fullN (max args.length fn.ntmps) (argX args)) m = some (e, t', m₁) → (e = .normal ∨ e = .ret) →
          (match resD P t' m₁ fn.results.toList with | some vs => some (resV vs, m₁) | none => none) = some (v, m') →
          Calls P f args'.toArray w fun e w' => ∃ v' ι', e = .returned v' ∧ VRel ι' v v' ∧ Rel B0 G ι' m' w' ∧ Stp ι ι' m m' w w' := by
        intro e t' m₁ hcode he hres
        split at hres <;> simp at hres
        rename_i vs hvs
        obtain ⟨rfl, rfl⟩ := hres
        refine calls_of_wp hfn hc (code_ok hK ih (drawOK hmix hK ih hg) c _ _ _ _ _ hcode ι w _ _ hr ht0 hf fun a' w' ha => ?_)
        obtain ⟨ι', g1, g2, g3, g4⟩ := ha
        obtain ⟨v', q1, q2⟩ := results_ok (P := P) g2 g1 hvs
        rcases he with rfl | rfl
        · exact ⟨g4, v', q1, v', ι', rfl, q2, g2, g3⟩
        · exact ⟨g4, v', q1, v', ι', rfl, q2, g2, g3⟩
      simp only [endD] at h
      split at h <;> try (simp at h; done)
      · rename_i t' m₁ hcode
        exact fin _ _ _ hcode (.inl rfl) h
      · rename_i t' m₁ hcode
        exact fin _ _ _ hcode (.inr rfl) h
    · simp only [bodyN] at h
      split at h <;> try (simp at h; done)
      rename_i fn hfn
      split at h <;> try (simp at h; done)
      rename_i c hc
      exact ⟨fn, hfn, by simp [hc], hng f fn hfn (by simp [hc])⟩
theorem callN_ok (hmix : P.follows .mixedOrders = true) (hK : Plain P K) (hng : NoNG P) {o : Orc} (ho : CfOK P B0 G o) (hg : CfGrw o) : ∀ (k : Nat), CfOK P B0 G (callN P K G o k)
  | 0 => ⟨fun f args m v m' h => by simp [callN] at h, fun f args m v m' h => by simp [callN] at h, fun f args m v m' h => by simp [callN] at h⟩
  | k + 1 => by
    have ih := bodyN_ok hmix hK hng (callN_ok hmix hK hng ho hg k) (callN_grw hg k) k
    refine ⟨fun f args m v m' h => ?_, fun f args m v m' h => ?_, fun f args m v m' h => ?_⟩
    all_goals
      simp only [callN] at h
      have h := filtR_some h
      split at h
    · rename_i r hr; simp at h; subst h; exact ho.size _ _ _ _ _ hr
    · exact ih.size _ _ _ _ _ h
    · rename_i r hr; simp at h; subst h; exact ho.ok _ _ _ _ _ hr
    · exact ih.ok _ _ _ _ _ h
    · rename_i r hr; simp at h; subst h; exact ho.body _ _ _ _ _ hr
    · exact ih.body _ _ _ _ _ h
end
/-! ### in the symbolic layer -/
def loopsOf : Code → List Code
  | .seq a b => loopsOf a ++ loopsOf b
  | .cond _ a b => loopsOf a ++ loopsOf b
  | .block _ c => loopsOf c
  | .loop c => c :: loopsOf c
  | _ => []
def bodyOf (fn : Func) : Code := match fn.body with | some c => c | none => .skip
def loopN (fn : Func) (j : Nat) : Code := match (loopsOf (bodyOf fn))[j]? with | some c => c | none => .skip
namespace Y
variable {α : Type}
def onNat (i : Int) (q : Nat → Option α) : Option α := Int.rec (motive := fun _ => Option α) q (fun _ => none) i
theorem onNat_ofNat (n : Nat) (q : Nat → Option α) : onNat (n : Int) q = q n := rfl
def cfOf (df : DFun) : CF α := fun f a m q => onV (df f a m) q
def lpOf (P : Program) (K : TypeId → Bool) (G : Nat) (df : DFun) (n : Nat) : LK α := fun _ c k t m q => onE (loopD (codeD P K G df (drawD P K G df n) n k c) k t m) q
def unc (l : List Value) (q : Value → List Value → Option α) (d : Option α) : Option α := List.rec (motive := fun _ => Option α) d (fun a l _ => q a l) l
def expL (P : Program) (ts : List TypeId) : List Value → (List Value → Option α) → Option α :=
  List.rec (motive := fun _ => List Value → (List Value → Option α) → Option α) (fun cs q => unc cs (fun _ _ => none) (q []))
    (fun t _ ih cs q => unc cs (fun v vs => shF P t v fun v => ih vs fun l => q (v :: l)) none) ts
theorem expL_eq (P : Program) : ∀ (ts : List TypeId) (cs : List Value) (q : List Value → Option α), expL P ts cs q = cond (okL P ts cs) (q cs) none
  | [], [], q => rfl
  | [], _ :: _, q => rfl
  | _ :: _, [], q => rfl
  | t :: ts, v :: vs, q => by
    have ih := expL_eq P ts vs
    show (shF P t v fun v => expL P ts vs fun l => q (v :: l)) = _
    simp only [ih, shF_eq, shD, okL]
    cases shp P t v <;> cases okL P ts vs <;> rfl
def splB (v : Value) (q : Value → Option α) : Option α := asBo v (fun b => blF b q) (q v)
theorem splB_eq (v : Value) (q : Value → Option α) : splB v q = q v := by cases v <;> first | exact blF_eq _ _ | rfl
def resK (P : Program) (f : FuncId) (v : Value) (q : Value → Option α) : Option α :=
  match resT P f with
  | [t] => shF P t v fun v => splB v q
  | [] => q v
  | ts => asTup v fun cs => expL P ts cs.toList fun l => q (.tuple ⟨l⟩)
theorem resK_eq (P : Program) (f : FuncId) (v : Value) (q : Value → Option α) : resK P f v q = cond (okR P f v) (q v) none := by
  unfold resK okR
  split
  · rw [shF_eq]; simp only [shD, splB_eq]; cases shp P _ v <;> rfl
  · rfl
  · cases v <;> try rfl
    rename_i cs
    show expL P _ cs.toList _ = _
    rw [expL_eq]
def cfT (P : Program) (cf : CF α) : CF α := fun f a m q => cf f a m fun v m' => resK P f v fun v => q v m'
theorem cfT_of (P : Program) (df : DFun) (h : ∀ f a m v m', df f a m = some (v, m') → okR P f v = true) (f : FuncId) (a : List Value) (m : Mem) (q : Value → Mem → Option α) : cfT P (cfOf df) f a m q = onV (df f a m) q := by
  unfold cfT cfOf
  cases hd : df f a m with
  | none => rfl
  | some p =>
    obtain ⟨v, m'⟩ := p
    show resK P f v (fun v => q v m') = _
    rw [resK_eq, h f a m v m' hd]; rfl
def retF (P : Program) (fn : Func) (q : Value → Mem → Option α) : ExK α := fun e t' m' =>
  Ex.rec (motive := fun _ => Option α) (resF fn.results.toList P t' m' fun vs => q (resV vs) m') (fun _ => none) (resF fn.results.toList P t' m' fun vs => q (resV vs) m') e
def Typed (P : Program) (df : DFun) : Prop := ∀ f a m v m', df f a m = some (v, m') → okR P f v = true
theorem callN_typed (P : Program) (K : TypeId → Bool) (G : Nat) (o : Orc) : ∀ k, Typed P (callN P K G o k)
  | 0 => fun f a m v m' h => by cases h
  | k + 1 => fun f a m v m' h => by
    simp only [callN] at h
    revert h
    generalize (match o f a m with | some r => some r | none => bodyN P K G (callN P K G o k) k f a m) = r
    intro h
    cases r with
    | none => cases h
    | some p =>
      obtain ⟨v0, m0⟩ := p
      simp only [filtR] at h
      cases hk : okR P f v0 <;> rw [hk] at h <;> simp at h
      rw [← h.1]; exact hk
theorem code_eq (P : Program) (K : TypeId → Bool) (G : Nat) (df : DFun) (hdf : Typed P df) (n k : Nat) (c : Code) (t : Tmps) (m : Mem) (q : ExK α) :
    onE (codeD P K G df (drawD P K G df n) n k c t m) q = codeF c P K G (cfT P (cfOf df)) (lpOf P K G df n) n k t m q :=
  (codeF_eq P K G (cfT P (cfOf df)) df (fun f a m q => cfT_of P df hdf f a m q) (lpOf P K G df n) n k (fun _ _ _ _ _ _ => rfl) c t m q).symm
theorem body_eq {P : Program} {K : TypeId → Bool} {G : Nat} {df : DFun} (hdf : Typed P df) {k : Nat} {f : FuncId} {fn : Func} {c : Code} (n : Nat) (hf : P.funcs[f]? = some fn) (hc : fn.body = some c) (args : List Value) (hn : max args.length fn.ntmps = n) (m : Mem) :
    bodyN P K G df k f args m = codeF c P K G (cfT P (cfOf df)) (lpOf P K G df n) n k (fullN n (argX args)) m (retF P fn fun v m => some (v, m)) := by
  rw [← code_eq P K G df hdf, bodyN, hf]
  simp only [hc, hn]
  cases codeD P K G df (drawD P K G df n) n k c (fullN n (argX args)) m with
  | none => rfl
  | some r =>
    obtain ⟨e, t, m'⟩ := r
    cases e with
    | normal =>
      show _ = resF fn.results.toList P t m' fun vs => some (resV vs, m')
      rw [resF_eq]
      simp only [endD]
      cases resD P t m' fn.results.toList <;> rfl
    | exit id => rfl
    | ret =>
      show _ = resF fn.results.toList P t m' fun vs => some (resV vs, m')
      rw [resF_eq]
      simp only [endD]
      cases resD P t m' fn.results.toList <;> rfl
def q0 : ExK (Ex × Tmps × Mem) := fun e t m => some (e, t, m)
theorem step_eq (P : Program) (K : TypeId → Bool) (G : Nat) {df : DFun} (hdf : Typed P df) (n k : Nat) (c : Code) (t : Tmps) (m : Mem) :
    codeD P K G df (drawD P K G df n) n k c t m = codeF c P K G (cfT P (cfOf df)) (lpOf P K G df n) n k t m q0 := by
  rw [← code_eq P K G df hdf]
  cases codeD P K G df (drawD P K G df n) n k c t m with
  | none => rfl
  | some r => rfl
def loopC (c : Code) (j : Nat) : Code := match (loopsOf c)[j]? with | some c => c | none => .skip
def kont (P : Program) (K : TypeId → Bool) (G : Nat) (cf : CF α) (L : LK α) (n k : Nat) : Code → Nat → ExK α → ExK α
  | .seq a b, j, q => cond (Nat.blt j (loopsOf a).length) (kont P K G cf L n k a j fun e t m => Ex.rec (motive := fun _ => Option α) (codeF b P K G cf L n k t m q) (fun id => q (.exit id) t m) (q .ret t m) e) (kont P K G cf L n k b (j - (loopsOf a).length) q)
  | .cond _ a b, j, q => cond (Nat.blt j (loopsOf a).length) (kont P K G cf L n k a j q) (kont P K G cf L n k b (j - (loopsOf a).length) q)
  | .block id c, j, q => kont P K G cf L n k c j fun e t m => Ex.rec (motive := fun _ => Option α) (q .normal t m) (fun id' => Bool.rec (motive := fun _ => Option α) (q (.exit id') t m) (q .normal t m) (Nat.beq id' id)) (q .ret t m) e
  | _, _, q => q
theorem lpOf_eq (P : Program) (K : TypeId → Bool) (G : Nat) (df : DFun) (n : Nat) (b : Tmps → Mem → ExK α → Option α) (c : Code) (k : Nat) (t : Tmps) (m : Mem) (q : ExK α) : lpOf P K G df n b c k t m q = onE (loopD (codeD P K G df (drawD P K G df n) n k c) k t m) q := rfl
theorem loopC_body (f : Func) (j : Nat) : loopC (bodyOf f) j = loopN f j := rfl
theorem onE_some (e : Ex) (t : Tmps) (m : Mem) (q : ExK α) : onE (some (e, t, m)) q = q e t m := rfl
theorem onV_some (v : Value) (m : Mem) (q : Value → Mem → Option α) : onV (some (v, m)) q = q v m := rfl
end Y
end
end Go.DI
namespace Go.DI
open Go.RowKit Go.ChangeShapes Go.WideShapes
def m0 : Mem := ⟨fun _ => .none, .nil, 0⟩
def isT : Option (Value × Mem) → Bool
  | some (.bool true, _) => true
  | _ => false
def among (l : List TypeId) (t : TypeId) : Bool := l.any fun u => Nat.beq u t
theorem plain_among {P : Program} {l : List TypeId} (h : (l.all fun t => not (P.stoodInHeld t) && not (P.eqGuardType P.depth t)) = true) : Plain P (among l) := by
  intro t ht
  simp only [among, List.any_eq_true] at ht
  obtain ⟨u, hu, hut⟩ := ht
  obtain rfl := Nat.eq_of_beq_eq_true hut
  have := List.all_eq_true.1 h u hu
  simp only [Bool.and_eq_true, Bool.not_eq_true'] at this
  exact this
theorem noNG_of {P : Program} (h : (P.funcs.toList.all fun fn => fn.body.isNone || not (fn.name == "runtime.NumGoroutine")) = true) : NoNG P := by
  intro f fn hf hb
  have hm : fn ∈ P.funcs.toList := by
    have : P.funcs.toList[f]? = some fn := by simpa using hf
    exact List.mem_of_getElem? this
  have := List.all_eq_true.1 h fn hm
  rw [hb] at this
  simpa using this
theorem rel0 (w : World) : Rel w.heap.size 0 (fun _ => none) m0 w where
  blk := fun b L h => absurd h (Nat.not_lt_zero _)
  inj := fun b₁ b₂ L₁ L₂ h => absurd h (Nat.not_lt_zero _)
  floor := Nat.le_refl _
  glob := fun g h => absurd h (Nat.not_lt_zero _)
  top := fun b _ => rfl
theorem calls_trueD {P : Program} {K : TypeId → Bool} {k : Nat} {f : FuncId} (hmix : P.follows .mixedOrders = true) (hK : Plain P K) (hng : NoNG P) (h : isT (callD P K 0 k f [] m0) = true) (w : World) :
    Calls P f #[] w fun e w' => e = .returned (.bool true) ∧ Below w.heap.size w w' := by
  cases hc : callD P K 0 k f [] m0 with
  | none => rw [hc] at h; simp [isT] at h
  | some r =>
    obtain ⟨v, m'⟩ := r
    rw [hc] at h
    have hv : v = .bool true := by
      cases v <;> simp [isT] at h
      rename_i b
      cases b
      · simp [isT] at h
      · rfl
    subst hv
    have := callD_calls (B0 := w.heap.size) (ι := fun _ => none) (w := w) (args' := []) hmix hK hng hc (rel0 w) (fun _ _ _ => rfl) .nil
    refine this.mono ?_
    rintro e w' ⟨v', ι', he, hv', hr', hs⟩
    refine ⟨by rw [he, hv'.inv_bool], ⟨hs.os, hs.tape, hs.output, hs.hsize, fun B hB => hs.below (rel0 w) B hB⟩⟩
theorem post_below {H : Type} {enc : TypeId × Value → H} {P : Program} {f : Func} {s : ChangeSpec} {apart fresh handsOn again : Bool} {W W' : World} {args : Array Value} {v : Value} {ds gs : List (DataW H)} {before pa pv : List MemPlace}
    (hW : DataW.Whole enc P f.params.toList s.vars apart W args.toList ds gs before)
    (hres : ∀ (b : Nat) (sp : Nat → Bool) (hd : Bool), DataW.TrodAll enc P W' b sp hd f.resultTypes.toList (v.resultList f.resultTypes.size) (s.fn H (ds ++ gs)).results [])
    (hargs : ∀ sp : Nat → Bool, (∀ p ∈ before, sp p.block = true) → DataW.TrodAll enc P W' 0 sp true f.params.toList args.toList (s.fn H (ds ++ gs)).args pa)
    (hvars : ∀ sp : Nat → Bool, (∀ p ∈ before, sp p.block = true) → DataW.TrodVars enc P W' sp s.vars (s.fn H (ds ++ gs)).vars pv)
    (hps : before = pa ++ pv) (hb : Below W.heap.size W W')
    (hok : ∀ (j : Nat) (t : TypeId) (r : Value), f.resultTypes[j]? = some t → (v.resultList f.resultTypes.size)[j]? = some r → Value.okWide P W' .any 0 t r) :
    s.post enc P f apart fresh handsOn again W args v W' := by
  subst hps
  have old : ∀ p ∈ pa ++ pv, (fun b => decide (b < W.heap.size)) p.block = true := fun p hp => decide_eq_true (hW.lt p hp)
  refine ⟨ds, gs, pa ++ pv, [], pa, pv, hW, hres _ _ _, hargs _ old, hvars _ old, World.keptBut_mono (fun p hp => ⟨hp, .inr (List.mem_append.1 hp)⟩) (hb.frame _), fun _ => ?_⟩
  have hlt := hW.lt
  obtain ⟨_, _, _, _, _, hz, hn⟩ := hW
  refine ⟨hok, _, _, ([] ++ pa) ++ pv, ⟨[] ++ pa, pv, trodAll_append (hargs _ (fun _ _ => rfl)) (hres _ _ _), hvars _ (fun _ _ => rfl), rfl, ?_, ?_⟩, ?_⟩
  · intro b off hp
    have hp' : MemPlace.cell b off ∈ pa ++ pv := by simpa using hp
    have := hlt _ hp'
    rw [hb.frozen (p := ⟨b, off, none⟩) this]
    exact hz b off hp'
  · intro ha
    simpa using hn ha
  · intro p hp _
    simpa using hp
end Go.DI
namespace Go.DI
def Ren.sub (ι : Ren) (ρ : Nat → Nat) (k : Nat → Bool) : Ren := fun i => if k i = true then ι (ρ i) else none
def VSim (ρ : Nat → Nat) (k : Nat → Bool) (vs v : Value) : Prop := ∀ (ι : Ren) (v' : Value), VRel ι v v' → VRel (ι.sub ρ k) vs v'
def VEmb (ρ : Nat → Nat) (vs v : Value) : Prop := ∀ (ι κ : Ren) (v' : Value), (∀ i L, ι i = some L → κ (ρ i) = some L) → VRel ι vs v' → VRel κ v v'
structure BSim (ρ : Nat → Nat) (k : Nat → Bool) (bs b : Blk) : Prop where
  live : bs.live → b.live
  own : bs.own = true → b.own = true
  rel : ∀ (B0 : Nat) (ι : Ren) (L : Loc) (w : World), BlkRel B0 ι b L w → BlkRel B0 (ι.sub ρ k) bs L w
structure BEmb (ρ : Nat → Nat) (bs b : Blk) : Prop where
  live : b.live → bs.live
  own : b.own = true → bs.own = true
  rel : ∀ (B0 : Nat) (ι κ : Ren) (L : Loc) (w : World), (∀ i L, ι i = some L → κ (ρ i) = some L) → BlkRel B0 ι bs L w → BlkRel B0 κ b L w
inductive VSims (ρ : Nat → Nat) (k : Nat → Bool) : List Value → List Value → Prop where
  | nil : VSims ρ k [] []
  | cons {x y : Value} {l l' : List Value} : VSim ρ k x y → VSims ρ k l l' → VSims ρ k (x :: l) (y :: l')
theorem VSims.rel {ρ : Nat → Nat} {k : Nat → Bool} {ι : Ren} : ∀ {l l' l'' : List Value}, VSims ρ k l l' → VRels ι l' l'' → VRels (ι.sub ρ k) l l''
  | _, _, _, .nil, h => by cases h; exact .nil
  | _, _, _, .cons h t, g => by
    cases g with
    | cons g0 gt => exact .cons (h _ _ g0) (t.rel gt)
theorem ownlive {x : Blk} (h : x.own = true) : x.live := by cases x <;> first | trivial | simp [Blk.own] at h
structure Local (ρ : Nat → Nat) (A : Nat → Bool) (ms ms' M M' : Mem) : Prop where
  sees : ∀ i, A i = true → i < ms.size
  grw : Grw ms ms'
  top : ms.top
  top' : M'.top
  old : ∀ i, A i = true → ρ i < M.size
  inj : ∀ i j, A i = true → A j = true → (ms.get i).live → (ms.get j).live → ρ i = ρ j → i = j
  new : ∀ i, ms.size ≤ i → i < ms'.size → ρ i = M.size + (i - ms.size)
  size : M'.size = M.size + (ms'.size - ms.size)
  sim : ∀ i, A i = true → BSim ρ A (ms.get i) (M.get (ρ i))
  emb : ∀ i, i < ms'.size → (A i = true ∨ ms.size ≤ i) → M'.get (ρ i) = .none ∨ BEmb ρ (ms'.get i) (M'.get (ρ i))
  rest : ∀ b, b < M.size → (∀ i, A i = true → ρ i ≠ b) → M'.get b = M.get b
theorem embed {P : Program} {B0 G : Nat} {f : FuncId} {avs args : List Value} {vs v : Value} {ms ms' M M' : Mem} {ρ : Nat → Nat} {A : Nat → Bool} (run : CallOK P B0 0 f avs ms vs ms') (h : Local ρ A ms ms' M M')
    (ha : VSims ρ A avs args) (hv : VEmb ρ vs v) : CallOK P B0 G f args M v M' := by
  intro ι w args' hr hf hargs
  have hms := h.grw.size
  have hrs : Rel B0 0 (ι.sub ρ A) ms w := by
    refine ⟨fun b L hb hL => ?_, fun b₁ b₂ L₁ L₂ h1 h2 e1 e2 l1 l2 g0 e => ?_, hr.floor, fun g hg => absurd hg (Nat.not_lt_zero _), fun b hb => h.top b hb⟩
    · simp only [Ren.sub] at hL
      split at hL
      · rename_i hb
        exact (h.sim b hb).rel _ _ _ _ (hr.blk _ _ (h.old b hb) hL)
      · simp at hL
    · simp only [Ren.sub] at e1 e2
      split at e1
      · rename_i h1
        split at e2
        · rename_i h2
          exact h.inj _ _ h1 h2 l1 l2 (hr.inj _ _ _ _ (h.old _ h1) (h.old _ h2) e1 e2 ((h.sim _ h1).live l1) ((h.sim _ h2).live l2) g0 e)
        · simp at e2
      · simp at e1
  refine (run _ w args' hrs (fun b h1 _ => by simp only [Ren.sub]; rw [if_neg (fun g => by have := h.sees b g; omega)]) (ha.rel hargs)).mono ?_
  rintro e w' ⟨v', ι₂, he, hv', hr', hs⟩
  let κ : Ren := fun b => if b < M.size then ι b else if b < M'.size then ι₂ (ms.size + (b - M.size)) else ι b
  have hκold : ∀ b, b < M.size → κ b = ι b := fun b hb => by simp only [κ, hb, if_true]
  have hκnew : ∀ i, ms.size ≤ i → i < ms'.size → κ (ρ i) = ι₂ i := fun i h1 h2 => by
    have e := h.new i h1 h2
    have e2 := h.size
    simp only [κ]
    rw [if_neg (by omega), if_pos (by omega), e]
    congr 1; omega
  have hι₂old : ∀ i, A i = true → ι₂ i = ι (ρ i) := fun i hi => by
    rw [hs.out i (.inl (h.sees i hi))]; simp only [Ren.sub, hi, if_true]
  have hι₂none : ∀ i L, i < ms.size → ι₂ i = some L → A i = true := fun i L hi hL => by
    rw [hs.out i (.inl hi)] at hL
    simp only [Ren.sub] at hL
    split at hL
    · assumption
    · simp at hL
  have hle : ι.le κ := fun b L hL => by
    simp only [κ]
    split
    · exact hL
    · split
      · have := hf b (by omega) (by omega)
        rw [this] at hL; cases hL
      · exact hL
  have hmap : ∀ i L, ι₂ i = some L → κ (ρ i) = some L := fun i L hL => by
    rcases Nat.lt_or_ge i ms.size with h0 | h1
    · have h1 := hι₂none i L h0 hL
      rw [hκold _ (h.old i h1), ← hι₂old i h1]; exact hL
    · rcases Nat.lt_or_ge i ms'.size with h2 | h2
      · rw [hκnew i h1 h2]; exact hL
      · have := hs.out i (.inr h2)
        rw [this] at hL
        simp only [Ren.sub] at hL
        rw [if_neg (fun g => by have := h.sees i g; have := h.grw.size; omega)] at hL
        cases hL
  have cases3 : ∀ b L, b < M'.size → κ b = some L → (∃ i, A i = true ∧ ρ i = b ∧ ι₂ i = some L ∧ ι b = some L) ∨ (b < M.size ∧ (∀ i, A i = true → ρ i ≠ b) ∧ ι b = some L) ∨ (∃ i, ms.size ≤ i ∧ i < ms'.size ∧ ρ i = b ∧ ι₂ i = some L) := by
    intro b L hb hL
    rcases Nat.lt_or_ge b M.size with h1 | h1
    · rw [hκold b h1] at hL
      by_cases hx : ∃ i, A i = true ∧ ρ i = b
      · obtain ⟨i, hi, rfl⟩ := hx
        exact .inl ⟨i, hi, rfl, by rw [hι₂old i hi]; exact hL, hL⟩
      · exact .inr (.inl ⟨h1, fun i hi e => hx ⟨i, hi, e⟩, hL⟩)
    · have e2 := h.size
      have hi : ms.size + (b - M.size) < ms'.size := by omega
      have e3 := h.new (ms.size + (b - M.size)) (by omega) hi
      have e4 : ρ (ms.size + (b - M.size)) = b := by omega
      have := hκnew (ms.size + (b - M.size)) (by omega) hi
      rw [e4, hL] at this
      exact .inr (.inr ⟨_, by omega, hi, e4, this.symm⟩)
  have hframe : ∀ B, B < w.heap.size → (∀ b L, b < M.size → ι b = some L → (M.get b).own = true → L.block ≠ B) → w'.heap[B]? = w.heap[B]? := by
    intro B hB hno
    refine hs.frame B hB fun i L hi hL ho => ?_
    simp only [Ren.sub] at hL
    split at hL
    · rename_i hi
      exact hno _ _ (h.old i hi) hL ((h.sim i hi).own ho)
    · simp at hL
  refine ⟨v', κ, he, hv _ _ _ hmap hv', ⟨fun b L hb hL => ?_, fun b₁ b₂ L₁ L₂ h1 h2 e1 e2 l1 l2 g0 e => ?_, hr'.floor, fun g hg => ?_, h.top'⟩,
    ⟨hle, fun b hb => ?_, hs.os, hs.output, hs.tape, hs.hsize, hframe, fun b L h1 h2 hL => ?_, by have := h.size; omega, fun b hb ho => ?_⟩⟩
  · rcases cases3 b L hb hL with ⟨i, hi, rfl, h2, h3⟩ | ⟨h1, h2, h3⟩ | ⟨i, hi, hi', rfl, h2⟩
    · have hi0 := h.sees i hi
      rcases h.emb i (by omega) (.inl hi) with g | g
      · rw [g]; trivial
      · exact g.rel _ _ _ _ _ hmap (hr'.blk _ _ (by omega) h2)
    · rw [h.rest b h1 h2]
      have hb0 := hr.blk b L h1 h3
      by_cases hl : (M.get b).live
      · refine BlkRel.mono hle (hs.frame _ (hr.old _ _ h3 hl) fun i L' q1 q2 q3 q4 => ?_) hb0
        simp only [Ren.sub] at q2
        split at q2
        · rename_i q1
          exact h2 i q1 (hr.inj _ _ _ _ (h.old i q1) h1 q2 h3 (ownlive ((h.sim i q1).own q3)) hl ((hr.blk _ _ (h.old i q1) q2).own_floor ((h.sim i q1).own q3)) q4)
        · simp at q2
      · cases hg : M.get b with
        | none => trivial
        | cells => rw [hg] at hl; exact absurd trivial hl
        | map => rw [hg] at hl; exact absurd trivial hl
        | siter => rw [hg] at hl; exact absurd trivial hl
    · rcases h.emb i hi' (.inr hi) with g | g
      · rw [g]; trivial
      · exact g.rel _ _ _ _ _ hmap (hr'.blk _ _ hi' h2)
  · -- no two live blocks at one place
    have key : ∀ b, M'.get b ≠ .none → ∀ i, i < ms'.size → (A i = true ∨ ms.size ≤ i) → ρ i = b → (ms'.get i).live := fun b hb i hi hA e => by
      rcases h.emb i hi hA with g | g
      · rw [e] at g; exact absurd g hb
      · refine g.live ?_
        rw [e]
        cases hg : M'.get b with
        | none => exact absurd hg hb
        | cells => trivial
        | map => trivial
        | siter => trivial
    have ne1 : M'.get b₁ ≠ .none := fun g => by rw [g] at l1; exact l1
    have ne2 : M'.get b₂ ≠ .none := fun g => by rw [g] at l2; exact l2
    have mixed : ∀ b c L L', M'.get b ≠ .none → b < M'.size → κ b = some L → c < M.size → (∀ i, A i = true → ρ i ≠ c) → ι c = some L' → (M'.get c).live → B0 ≤ L.block → L.block = L'.block →
        (∃ i, i < ms'.size ∧ (A i = true ∨ ms.size ≤ i) ∧ ρ i = b ∧ ι₂ i = some L) → False := by
      intro b c L L' nb hb hL hc hno hLc lc g0 e ⟨i, hi, hA, hib, hiL⟩
      have lc' : (M.get c).live := by rw [← h.rest c hc hno]; exact lc
      rcases Nat.lt_or_ge i ms.size with h0 | h1
      · have h1 := hι₂none i L h0 hiL
        have g1 := h.grw.live i h0 (key b nb i hi hA hib)
        have g2 := (h.sim i h1).live g1
        have g3 : ι (ρ i) = some L := by rw [← hι₂old i h1]; exact hiL
        exact hno i h1 (hr.inj _ _ _ _ (h.old i h1) hc g3 hLc g2 lc' g0 e)
      · rcases hs.new i L h1 hi hiL with g | ⟨b0, L0, g1, g2, g3, g4⟩
        · have := hr.old c L' hLc lc'; omega
        · simp only [Ren.sub] at g2
          split at g2
          · rename_i g1
            exact hno b0 g1 (hr.inj _ _ _ _ (h.old b0 g1) hc g2 hLc (ownlive ((h.sim b0 g1).own g3)) lc' ((hr.blk _ _ (h.old b0 g1) g2).own_floor ((h.sim b0 g1).own g3)) (by omega))
          · simp at g2
    have known : ∀ b L, b < M'.size → κ b = some L → (∃ i, i < ms'.size ∧ (A i = true ∨ ms.size ≤ i) ∧ ρ i = b ∧ ι₂ i = some L) ∨ (b < M.size ∧ (∀ i, A i = true → ρ i ≠ b) ∧ ι b = some L) := by
      intro b L hb hL
      rcases cases3 b L hb hL with ⟨i, hi, g1, g2, _⟩ | g | ⟨i, hi, hi', g1, g2⟩
      · exact .inl ⟨i, by have := h.sees i hi; omega, .inl hi, g1, g2⟩
      · exact .inr g
      · exact .inl ⟨i, hi', .inr hi, g1, g2⟩
    rcases known b₁ L₁ h1 e1 with k1 | k1
    · rcases known b₂ L₂ h2 e2 with k2 | k2
      · obtain ⟨i, hi, hA, q1, q2⟩ := k1
        obtain ⟨j, hj, hB, r1, r2⟩ := k2
        have := hr'.inj i j _ _ hi hj q2 r2 (key b₁ ne1 i hi hA q1) (key b₂ ne2 j hj hB r1) g0 e
        rw [← q1, ← r1, this]
      · exact (mixed b₁ b₂ L₁ L₂ ne1 h1 e1 k2.1 k2.2.1 k2.2.2 l2 g0 e k1).elim
    · rcases known b₂ L₂ h2 e2 with k2 | k2
      · exact (mixed b₂ b₁ L₂ L₁ ne2 h2 e2 k1.1 k1.2.1 k1.2.2 l1 (Nat.le_trans g0 (Nat.le_of_eq e)) e.symm k2).elim
      · refine hr.inj _ _ _ _ k1.1 k2.1 k1.2.2 k2.2.2 ?_ ?_ g0 e
        · rw [← h.rest _ k1.1 k1.2.1]; exact l1
        · rw [← h.rest _ k2.1 k2.2.1]; exact l2
  · obtain ⟨L, g1, g2⟩ := hr.glob g hg
    exact ⟨L, hle _ _ g1, g2⟩
  · have e2 := h.size
    rcases hb with hb | hb
    · exact hκold b hb
    · simp only [κ]
      rw [if_neg (by omega), if_neg (by omega)]
  · rcases cases3 b L h2 hL with ⟨i, hi, g1, _, _⟩ | ⟨g, _, _⟩ | ⟨i, hi, hi', g1, g2⟩
    · have := h.old i hi; omega
    · omega
    · rcases hs.new i L hi hi' g2 with g | ⟨b0, L0, q1, q2, q3, q4⟩
      · exact .inl g
      · simp only [Ren.sub] at q2
        split at q2
        · rename_i q1
          exact .inr ⟨ρ b0, L0, h.old b0 q1, q2, (h.sim b0 q1).own q3, q4⟩
        · simp at q2
  · by_cases hx : ∃ i, A i = true ∧ ρ i = b
    · obtain ⟨i, hi, rfl⟩ := hx
      have hi0 := h.sees i hi
      rcases h.emb i (by omega) (.inl hi) with g | g
      · rw [g] at ho; simp [Blk.own] at ho
      · exact (h.sim i hi).own (hs.ownk i hi0 (g.own ho))
    · rw [h.rest b hb (fun i hi e => hx ⟨i, hi, e⟩)] at ho
      exact ho
end Go.DI
namespace Go.DI
def Free (v : Value) : Prop := ∀ (ι κ : Ren) (v' : Value), VRel ι v v' → VRel κ v v'
theorem Free.sim {v : Value} (h : Free v) (ρ : Nat → Nat) (k : Nat → Bool) : VSim ρ k v v := fun ι v' g => h ι _ v' g
theorem Free.emb {v : Value} (h : Free v) (ρ : Nat → Nat) : VEmb ρ v v := fun ι κ v' _ g => h ι κ v' g
theorem free_int (k : IntKind) (n : Int) : Free (.int k n) := fun _ _ _ h => by cases h; constructor
theorem free_bool (b : Bool) : Free (.bool b) := fun _ _ _ h => by cases h; constructor
theorem free_string (b : ByteArray) : Free (.string b) := fun _ _ _ h => by cases h; constructor
theorem free_nilFunc : Free .nilFunc := fun _ _ _ h => by cases h; constructor
theorem free_ptr0 : Free (.pointer none) := fun _ _ _ h => by cases h; constructor
theorem free_slc0 (n c : Nat) : Free (.slice none n c) := fun _ _ _ h => by cases h; constructor
theorem free_map0 : Free (.map none) := fun _ _ _ h => by cases h; constructor
theorem free_agg {a : Array Value} (h : ∀ x ∈ a.toList, Free x) : Free (.agg a) := fun ι κ v' g => by
  cases g with
  | agg _ a' hs hr =>
    refine .agg _ _ hs fun i x y hx hy => h x ?_ ι κ y (hr i x y hx hy)
    exact Array.mem_toList_iff.2 (Array.mem_of_getElem? hx)
theorem free_tuple {a : Array Value} (h : ∀ x ∈ a.toList, Free x) : Free (.tuple a) := fun ι κ v' g => by
  cases g with
  | tuple _ a' hs hr =>
    refine .tuple _ _ hs fun i x y hx hy => h x ?_ ι κ y (hr i x y hx hy)
    exact Array.mem_toList_iff.2 (Array.mem_of_getElem? hx)
section
variable {ρ : Nat → Nat} {k : Nat → Bool}
theorem Ren.sub_some {ι : Ren} {i : Nat} {L : Loc} (hi : k i = true) (h : ι (ρ i) = some L) : (ι.sub ρ k) i = some L := by simp only [Ren.sub, hi, if_true]; exact h
theorem sim_ptr {i o : Nat} (hi : k i = true) : VSim ρ k (.pointer (some ⟨i, o, none⟩)) (.pointer (some ⟨ρ i, o, none⟩)) := fun ι v' g => by
  cases g with
  | ptr _ _ L h => exact .ptr _ _ L (Ren.sub_some hi h)
theorem emb_ptr {i o : Nat} : VEmb ρ (.pointer (some ⟨i, o, none⟩)) (.pointer (some ⟨ρ i, o, none⟩)) := fun ι κ v' hm g => by
  cases g with
  | ptr _ _ L h => exact .ptr _ _ L (hm _ _ h)
theorem sim_slc {i o n c : Nat} (hi : k i = true) : VSim ρ k (.slice (some ⟨i, o, none⟩) n c) (.slice (some ⟨ρ i, o, none⟩) n c) := fun ι v' g => by
  cases g with
  | slc _ _ _ _ L h => exact .slc _ _ _ _ L (Ren.sub_some hi h)
theorem emb_slc {i o n c : Nat} : VEmb ρ (.slice (some ⟨i, o, none⟩) n c) (.slice (some ⟨ρ i, o, none⟩) n c) := fun ι κ v' hm g => by
  cases g with
  | slc _ _ _ _ L h => exact .slc _ _ _ _ L (hm _ _ h)
theorem sim_loose {i o e n c : Nat} (hi : k i = true) : VSim ρ k (.slice (some ⟨i, o, some e⟩) n c) (.slice (some ⟨ρ i, o, some e⟩) n c) := fun ι v' g => by
  cases g with
  | loose _ _ _ _ _ _ L h hc ht => exact .loose _ _ _ _ _ _ L (Ren.sub_some hi h) hc ht
  | loose0 _ _ _ _ _ L h ht => exact .loose0 _ _ _ _ _ L (Ren.sub_some hi h) ht
  | empty => exact .empty _ _ _ _
theorem emb_loose {i o e n c : Nat} : VEmb ρ (.slice (some ⟨i, o, some e⟩) n c) (.slice (some ⟨ρ i, o, some e⟩) n c) := fun ι κ v' hm g => by
  cases g with
  | loose _ _ _ _ _ _ L h hc ht => exact .loose _ _ _ _ _ _ L (hm _ _ h) hc ht
  | loose0 _ _ _ _ _ L h ht => exact .loose0 _ _ _ _ _ L (hm _ _ h) ht
  | empty => exact .empty _ _ _ _
theorem sim_map {i : Nat} (hi : k i = true) : VSim ρ k (.map (some i)) (.map (some (ρ i))) := fun ι v' g => by
  cases g with
  | map _ L h => exact .map _ L (Ren.sub_some hi h)
theorem emb_map {i : Nat} : VEmb ρ (.map (some i)) (.map (some (ρ i))) := fun ι κ v' hm g => by
  cases g with
  | map _ L h => exact .map _ L (hm _ _ h)
/-! ### blocks -/
theorem bsim_none (b : Blk) : BSim ρ k .none b := ⟨fun h => h.elim, fun h => by simp [Blk.own] at h, fun _ _ _ _ _ => trivial⟩
theorem bemb_none (bs : Blk) : BEmb ρ bs .none := ⟨fun h => h.elim, fun h => by simp [Blk.own] at h, fun _ _ _ _ _ _ _ => trivial⟩
theorem bsim_cells {o : Bool} {cs c : List Value} (hl : cs.length = c.length) (h : ∀ (i : Nat) (x y : Value), cs[i]? = some x → c[i]? = some y → VSim ρ k x y) : BSim ρ k (.cells o cs) (.cells o c) := by
  refine ⟨fun _ => trivial, id, fun B0 ι L w => ?_⟩
  rintro ⟨rc, e, fr, h1, h2, h3, h4, h5⟩
  refine ⟨rc, e, fr, h1, h2, by omega, fun i v hv => ?_, h5⟩
  have hi : i < c.length := by have := (List.getElem?_eq_some_iff.1 hv).1; omega
  obtain ⟨v', g1, g2⟩ := h4 i c[i] (List.getElem?_eq_getElem hi)
  exact ⟨v', g1, h i v c[i] hv (List.getElem?_eq_getElem hi) ι v' g2⟩
theorem bemb_cells {o : Bool} {cs c : List Value} (hl : cs.length = c.length) (h : ∀ (i : Nat) (x y : Value), cs[i]? = some x → c[i]? = some y → VEmb ρ x y) : BEmb ρ (.cells o cs) (.cells o c) := by
  refine ⟨fun _ => trivial, id, fun B0 ι κ L w hm => ?_⟩
  rintro ⟨rc, e, fr, h1, h2, h3, h4, h5⟩
  refine ⟨rc, e, fr, h1, h2, by omega, fun i v hv => ?_, h5⟩
  have hi : i < cs.length := by have := (List.getElem?_eq_some_iff.1 hv).1; omega
  obtain ⟨v', g1, g2⟩ := h4 i cs[i] (List.getElem?_eq_getElem hi)
  exact ⟨v', g1, h i cs[i] v (List.getElem?_eq_getElem hi) hv ι κ v' hm g2⟩
theorem bsim_free {o : Bool} {c : List Value} (h : ∀ x ∈ c, Free x) : BSim ρ k (.cells o c) (.cells o c) :=
  bsim_cells rfl fun i x y hx hy => by
    rw [hx] at hy; cases hy
    exact (h x (List.mem_of_getElem? hx)).sim ρ k
theorem bemb_free {o : Bool} {c : List Value} (h : ∀ x ∈ c, Free x) : BEmb ρ (.cells o c) (.cells o c) :=
  bemb_cells rfl fun i x y hx hy => by
    rw [hx] at hy; cases hy
    exact (h x (List.mem_of_getElem? hx)).emb ρ
theorem erels_free {ι κ : Ren} : ∀ {es res : List MapEntry}, (∀ e ∈ es, Free e.key ∧ Free e.val) → ERels ι es res → ERels κ es res
  | _, _, _, .nil => .nil
  | _, _, h, .cons g t => .cons ⟨(h _ (List.mem_cons_self ..)).1 _ _ _ g.1, (h _ (List.mem_cons_self ..)).2 _ _ _ g.2.1, g.2.2⟩ (erels_free (fun e he => h e (List.mem_cons_of_mem _ he)) t)
theorem bsim_mapFree {o : Bool} {es : List MapEntry} {c : Nat} (h : ∀ e ∈ es, Free e.key ∧ Free e.val) : BSim ρ k (.map o es c) (.map o es c) := by
  refine ⟨fun _ => trivial, id, fun B0 ι L w => ?_⟩
  rintro ⟨res, h1, h2, h3⟩
  exact ⟨res, h1, erels_free h h2, h3⟩
theorem bemb_mapFree {o : Bool} {es : List MapEntry} {c : Nat} (h : ∀ e ∈ es, Free e.key ∧ Free e.val) : BEmb ρ (.map o es c) (.map o es c) := by
  refine ⟨fun _ => trivial, id, fun B0 ι κ L w _ => ?_⟩
  rintro ⟨res, h1, h2, h3⟩
  exact ⟨res, h1, erels_free h h2, h3⟩
end
end Go.DI
namespace Go.DI
section
variable {κ ν : Type} [DecidableEq κ]
structure TM (κ ν : Type) where
  l : List (κ × ν × Nat)
  ck : Nat
def encE (ek : κ → Value) (ev : ν → Value) (x : κ × ν × Nat) : MapEntry := { key := ek x.1, val := ev x.2.1, born := x.2.2 }
def entsL (ek : κ → Value) (ev : ν → Value) (l : List (κ × ν × Nat)) : List MapEntry := l.map (encE ek ev)
def findT (k : κ) : List (κ × ν × Nat) → Nat → Option (Nat × ν)
  | [], _ => none
  | x :: l, i => if k = x.1 then some (i, x.2.1) else findT k l (i + 1)
def modT (i : Nat) (k : κ) (v : ν) : List (κ × ν × Nat) → List (κ × ν × Nat)
  | [] => []
  | x :: l => match i with
    | 0 => (k, v, x.2.2) :: l
    | i + 1 => x :: modT i k v l
def TM.get (m : TM κ ν) (k : κ) : Option ν := (findT k m.l 0).map (·.2)
def TM.put (m : TM κ ν) (k : κ) (v : ν) : TM κ ν := match findT k m.l 0 with
  | some (i, _) => ⟨modT i k v m.l, m.ck⟩
  | none => ⟨m.l ++ [(k, v, m.ck)], m.ck + 1⟩
def TM.empty : TM κ ν := ⟨[], 0⟩
theorem TM.get_empty (k : κ) : (TM.empty : TM κ ν).get k = none := rfl
theorem findT_shift (k : κ) : ∀ (l : List (κ × ν × Nat)) (i : Nat), findT k l i = (findT k l 0).map fun p => (p.1 + i, p.2)
  | [], i => rfl
  | x :: l, i => by
    simp only [findT]
    by_cases h : k = x.1
    · simp [h]
    · simp only [h, if_false]
      rw [findT_shift k l (i + 1), findT_shift k l (0 + 1)]
      cases findT k l 0 with
      | none => rfl
      | some p => simp; omega
theorem findT_mod (k k' : κ) (v : ν) : ∀ (l : List (κ × ν × Nat)) (i : Nat) (u : ν), findT k l 0 = some (i, u) → findT k' (modT i k v l) 0 = if k' = k then some (i, v) else findT k' l 0
  | [], i, u, h => by simp [findT] at h
  | x :: l, i, u, h => by
    simp only [findT] at h
    by_cases hx : k = x.1
    · simp only [hx, if_true] at h
      cases h
      simp only [modT, findT, hx]
      by_cases h2 : k' = x.1 <;> simp [h2]
    · simp only [hx, if_false] at h
      rw [findT_shift] at h
      cases hf : findT k l 0 with
      | none => rw [hf] at h; simp at h
      | some p =>
        obtain ⟨j, u'⟩ := p
        rw [hf] at h
        simp at h
        obtain ⟨rfl, rfl⟩ := h
        have ih := findT_mod k k' v l j u' hf
        simp only [modT, findT]
        by_cases h2 : k' = x.1
        · have : ¬ k' = k := fun e => hx (e ▸ h2)
          simp only [h2, if_true]
          have : ¬ x.1 = k := fun e => hx e.symm
          simp [this]
        · simp only [h2, if_false]
          rw [findT_shift, ih]
          by_cases h3 : k' = k
          · simp [h3]
          · simp only [h3, if_false]; rw [findT_shift k' l 1]
theorem findT_append (k k' : κ) (v : ν) (b : Nat) : ∀ (l : List (κ × ν × Nat)) (i : Nat), findT k l i = none → findT k' (l ++ [(k, v, b)]) i = if k' = k then some (i + l.length, v) else findT k' l i
  | [], i, _ => by simp [findT]
  | x :: l, i, h => by
    simp only [findT] at h
    by_cases hx : k = x.1
    · simp [hx] at h
    · simp only [hx, if_false] at h
      have ih := findT_append k k' v b l (i + 1) h
      simp only [List.cons_append, findT, ih]
      by_cases h2 : k' = x.1
      · have : ¬ x.1 = k := fun e => hx e.symm
        simp [h2, this]
      · simp only [h2, if_false]
        by_cases h3 : k' = k
        · simp [h3]; omega
        · simp [h3]
theorem TM.get_put (m : TM κ ν) (k k' : κ) (v : ν) : (m.put k v).get k' = if k' = k then some v else m.get k' := by
  unfold TM.put TM.get
  cases hf : findT k m.l 0 with
  | none =>
    simp only [findT_append k k' v m.ck m.l 0 hf]
    by_cases h : k' = k <;> simp [h]
  | some p =>
    obtain ⟨i, u⟩ := p
    simp only [findT_mod k k' v m.l i u hf]
    by_cases h : k' = k <;> simp [h]
/-! ### the entries -/
variable {P : Program} {K : TypeId → Bool} {kt : TypeId} {ek : κ → Value} {ev : ν → Value}
theorem findD_ents (hk : ∀ a b, feq P K 100 kt (ek a) (ek b) = some (decide (a = b))) (k : κ) : ∀ (l : List (κ × ν × Nat)) (i : Nat), findD P K kt (ek k) (entsL ek ev l) i = some ((findT k l i).map fun p => (p.1, ev p.2))
  | [], i => rfl
  | x :: l, i => by
    have ih := findD_ents hk k l (i + 1)
    unfold entsL at ih
    simp only [entsL, List.map_cons, findD, findT]
    show (match feq P K 100 kt (ek k) (ek x.1) with | some true => some (some (i, ev x.2.1)) | some false => findD P K kt (ek k) (List.map (encE ek ev) l) (i + 1) | none => none) = _
    rw [hk, ih]
    by_cases h : k = x.1 <;> simp [h]
omit [DecidableEq κ] in
theorem modE_ents (k : κ) (v : ν) : ∀ (l : List (κ × ν × Nat)) (i : Nat), modE i (ek k) (ev v) (entsL ek ev l) = entsL ek ev (modT i k v l)
  | [], i => by simp [entsL, modE, modT]
  | x :: l, 0 => rfl
  | x :: l, i + 1 => by
    have ih := modE_ents k v l i
    unfold entsL at ih
    simp only [entsL, List.map_cons, modE, modT, ih]
theorem ents_get (k : κ) : ∀ (l : List (κ × ν × Nat)) (i : Nat) (u : ν), findT k l 0 = some (i, u) → ∃ b, (entsL ek ev l)[i]? = some ⟨ek k, ev u, b⟩
  | [], i, u, h => by simp [findT] at h
  | x :: l, i, u, h => by
    simp only [findT] at h
    by_cases hx : k = x.1
    · simp only [hx, if_true] at h
      cases h
      exact ⟨x.2.2, by simp [entsL, encE, hx]⟩
    · simp only [hx, if_false] at h
      rw [findT_shift] at h
      cases hf : findT k l 0 with
      | none => rw [hf] at h; simp at h
      | some p =>
        obtain ⟨j, u'⟩ := p
        rw [hf] at h
        simp at h
        obtain ⟨rfl, rfl⟩ := h
        obtain ⟨b, hb⟩ := ents_get k l j u' hf
        exact ⟨b, by simpa [entsL] using hb⟩
omit [DecidableEq κ] in
theorem ents_append (l : List (κ × ν × Nat)) (k : κ) (v : ν) (b : Nat) : entsL ek ev l ++ [⟨ek k, ev v, b⟩] = entsL ek ev (l ++ [(k, v, b)]) := by simp [entsL, encE]
omit [DecidableEq κ] in
theorem ents_free (hk : ∀ a, Free (ek a)) (hv : ∀ a, Free (ev a)) (l : List (κ × ν × Nat)) : ∀ e ∈ entsL ek ev l, Free e.key ∧ Free e.val := by
  intro e he
  simp only [entsL, List.mem_map] at he
  obtain ⟨x, _, rfl⟩ := he
  exact ⟨hk _, hv _⟩
end
end Go.DI
namespace Go.Jud
open Go Go.DI
abbrev H := Nat → Int
def hl (h : H) : List Int := [h 0, h 1, h 2, h 3, h 4, h 5, h 6, h 7, h 8, h 9, h 10, h 11, h 12, h 13, h 14, h 15, h 16, h 17, h 18, h 19, h 20, h 21, h 22, h 23, h 24, h 25, h 26, h 27, h 28, h 29, h 30, h 31]
structure RowT where
  k : Int
  w : Int
  t : Int
  i : Int
  e : Int
  s : Int
  st : Int
  c : Int
  tr : Int
  y : Bool
  h : H
  v : Int
structure JS where
  n : Int
  led : TM Int Int
  log : List (Int × H)
  last : TM Int Int
  ep : Nat → Int
  top : Int
  images : TM Int H
  yes : TM (Int × Int) Unit
  word : TM Int Int
  answers : TM (Int × Int) (Int × Int × H)
  askers : TM Int (Int × Int)
def JS.new (n : Int) : JS := ⟨n, .empty, [], .empty, fun _ => 0, 0, .empty, .empty, .empty, .empty, .empty⟩
def ledJ (S : JS) (r : RowT) : Int × JS :=
  match S.led.get r.t with
  | some u => if u ≠ r.w then (2, S) else (0, { S with led := S.led.put r.t r.w })
  | none => (0, { S with led := S.led.put r.t r.w })
def thereJ (S : JS) (r : RowT) : Bool := decide (1 ≤ r.i) && decide (r.i ≤ (S.log.length : Int))
def otherJ (S : JS) (r : RowT) : Bool := match S.log[(r.i - 1).toNat]? with
  | some x => !(decide (x.1 = r.t) && decide (hl x.2 = hl r.h))
  | none => false
def fallsJ (S : JS) (r : RowT) : Bool := match S.log[(r.i - 2).toNat]? with
  | some x => decide (r.t < x.1)
  | none => false
def sureJ (S : JS) (r : RowT) : Int × JS :=
  if (thereJ S r && otherJ S r) = true then (3, S) else
  if r.i ≠ 1 ∧ r.i - 1 ≠ (S.last.get r.w).getD 0 then (4, S) else
  if r.i < 1 then (4, S) else
  if 1 < r.i ∧ fallsJ S r = true then (4, S) else
  (0, { S with last := S.last.put r.w r.i, log := if thereJ S r = true then S.log else S.log ++ [(r.t, r.h)] })
def yesesJ (S : JS) (e : Int) : Nat → Bool
  | 0 => true
  | m + 1 => yesesJ S e m && (S.yes.get ((m : Int) + 1, e)).isSome
def evenJ (S : JS) : Nat → Bool
  | 0 => true
  | m + 1 => evenJ S m && decide (S.ep (m + 1) = S.top)
def swapJ (S : JS) (r : RowT) : Int × JS :=
  if r.e ≤ S.ep r.w.toNat then (5, S) else
  if (match S.images.get r.e with | some h => !decide (hl h = hl r.h) | none => false) = true then (6, S) else
  if yesesJ S r.e S.n.toNat = false then (7, S) else
  if (match S.images.get r.e with | some _ => !decide (r.e = S.top) | none => !evenJ S S.n.toNat || decide (r.e ≤ S.top)) = true then (8, S) else
  (0, { S with ep := fun j => if j = r.w.toNat then r.e else S.ep j, images := S.images.put r.e r.h, top := if r.e > S.top then r.e else S.top })
def wordJ (r : RowT) : Int := if r.y = true then 1 else 2
def ackJ (S : JS) (r : RowT) : Int × JS :=
  if r.e ≤ S.ep r.w.toNat then (9, S) else
  if (match S.word.get r.e with | some u => decide (u ≠ 0) && decide (u ≠ wordJ r) | none => false) = true then (9, S) else
  (0, { S with word := S.word.put r.e (wordJ r), yes := if r.y = true then S.yes.put (r.w, r.e) () else S.yes })
def propJ (r : RowT) : Bool := decide (r.c = 0) && decide (0 < r.e)
def toldJ (S : JS) (r : RowT) : Int × JS :=
  if r.y = false ∨ r.c = 61 then (0, S) else
  if (match S.answers.get (r.w, r.s) with | some x => !(decide (x.1 = r.c) && (decide (x.2.1 = r.e) && decide (hl x.2.2 = hl r.h))) | none => false) = true then (10, S) else
  if (propJ r && (match S.askers.get r.e with | some x => !decide (x = (r.w, r.s)) | none => false)) = true then (11, S) else
  (0, { S with answers := S.answers.put (r.w, r.s) (r.c, r.e, r.h), askers := if propJ r = true then S.askers.put r.e (r.w, r.s) else S.askers })
def judJ (S : JS) (r : RowT) : Int × JS :=
  if r.e ≠ S.ep r.w.toNat ∨ r.c = 0 ∧ (r.e = 0 ∨ r.tr ≠ 0) ∨ r.c = 6 ∧ r.e ≠ 0 then (12, S) else (0, S)
def ofNode (r : RowT) : Prop := r.k = 3 ∨ r.k = 4 ∨ r.k = 6
instance (r : RowT) : Decidable (ofNode r) := inferInstanceAs (Decidable (_ ∨ _))
def addJ (S : JS) (r : RowT) : Int × JS :=
  if r.k < 1 ∨ 7 < r.k then (1, S) else
  if ofNode r ∧ (r.w < 1 ∨ S.n < r.w) then (1, S) else
  if (r.k = 3 ∨ r.k = 4) ∧ r.e < 1 then (1, S) else
  if r.k = 1 then ledJ S r else
  if r.k = 2 then sureJ S r else
  if r.k = 3 then swapJ S r else
  if r.k = 4 then ackJ S r else
  if r.k = 5 then toldJ S r else
  if r.k = 6 then judJ S r else (0, S)
structure JS.Ok (S : JS) : Prop where
  n1 : 1 ≤ S.n
  n4 : S.n ≤ 4
  last : ∀ w v, S.last.get w = some v → 1 ≤ v ∧ v ≤ (S.log.length : Int)
end Go.Jud
namespace Go.Proofs.Ytfpbiojnbffkpaa
open Go Go.DI Go.Proofs
noncomputable section
def kp : TypeId → Bool := among [30, 31, 33, 34, 36, 37, 66, 67, 69, 71, 72, 73]
def hashC (h : Nat → Int) : List Value := [.int .u8 (h 0), .int .u8 (h 1), .int .u8 (h 2), .int .u8 (h 3), .int .u8 (h 4), .int .u8 (h 5), .int .u8 (h 6), .int .u8 (h 7), .int .u8 (h 8), .int .u8 (h 9), .int .u8 (h 10), .int .u8 (h 11), .int .u8 (h 12), .int .u8 (h 13), .int .u8 (h 14), .int .u8 (h 15), .int .u8 (h 16), .int .u8 (h 17), .int .u8 (h 18), .int .u8 (h 19), .int .u8 (h 20), .int .u8 (h 21), .int .u8 (h 22), .int .u8 (h 23), .int .u8 (h 24), .int .u8 (h 25), .int .u8 (h 26), .int .u8 (h 27), .int .u8 (h 28), .int .u8 (h 29), .int .u8 (h 30), .int .u8 (h 31)]
def rowC (k w t i e s st c tr : Int) (y : Bool) (h : Nat → Int) (v : Int) : List Value :=
  [.int .i64 k, .int .i64 w, .int .i64 t, .int .i64 i, .int .i64 e, .int .i64 s, .int .i64 st, .int .i64 c, .int .i64 tr, .bool y] ++ (hashC h ++ [.int .u64 v])
def judC (n : Int) (log : Value) (e0 e1 e2 e3 e4 top : Int) : List Value :=
  [.int .i64 n, .map (some 1), log, .map (some 2), .int .i64 e0, .int .i64 e1, .int .i64 e2, .int .i64 e3, .int .i64 e4, .int .i64 top, .map (some 3), .map (some 4), .map (some 5), .map (some 6), .map (some 7)]
def ms (J : List Value) (b1 b2 b3 b4 b5 b6 b7 b8 : Blk) : Mem :=
  ((((((((m0.push (.cells true J)).push b1).push b2).push b3).push b4).push b5).push b6).push b7).push b8
def logOf (m : Mem) : Blk := match m.get 0 with
  | .cells _ (_ :: _ :: .slice (some a) _ _ :: _) => m.get a.block
  | _ => .none
abbrev Obs := Value × Blk × Blk × Blk × Blk × Blk × Blk × Blk × Blk × Blk
def obs (v : Value) (m : Mem) : Option Obs := some (v, m.get 0, m.get 1, m.get 2, m.get 3, m.get 4, m.get 5, m.get 6, m.get 7, logOf m)
def obs8 (v : Value) (m : Mem) : Option Obs := some (v, m.get 0, m.get 1, m.get 2, m.get 3, m.get 4, m.get 5, m.get 6, m.get 7, m.get 8)
def add (o : Value → Mem → Option Obs) (k w t i e s st c tr : Int) (y : Bool) (h : Nat → Int) (v : Int) (m : Mem) : Option Obs :=
  Y.callK Try.prog kp 0 20 13 [.pointer (some ⟨0, 0, none⟩), .agg ⟨rowC k w t i e s st c tr y h v⟩] m o
end
end Go.Proofs.Ytfpbiojnbffkpaa
