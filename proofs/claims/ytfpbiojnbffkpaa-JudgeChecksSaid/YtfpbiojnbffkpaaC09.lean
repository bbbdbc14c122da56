/-
  (by symify.py, out of DiFast3: any answer type, nothing forced.) DiFast3: operations, regions, code, calls, quickly: 'callF', and that it is 'callD' (callF_eq).
-/
import Derived.Test.YtfpbiojnbffkpaaC08
import Derived.Test.YtfpbiojnbffkpaaC06
set_option linter.all false
set_option linter.unusedVariables false
set_option linter.unusedSimpArgs false
namespace Go.DI.Y
noncomputable section
variable {α : Type}
abbrev CF (α : Type) := FuncId → List Value → Mem → (Value → Mem → Option α) → Option α
abbrev OpK (α : Type) := Program → (TypeId → Bool) → Nat → CF α → Tmps → Mem → (Value → Mem → Option α) → Option α
abbrev DF := FuncId → List Value → Mem → Option (Value × Mem)
theorem onV_ob {r : Option Value} {m : Mem} {q : Value → Mem → Option α} : onV (match r with | some v => some (v, m) | none => none) q = ob r fun v => q v m := by cases r <;> rfl
def layF (r : Option (Blk × Made)) (m : Mem) (q : Value → Mem → Option α) : Option α :=
  Option.rec (motive := fun _ => Option α) none (fun p => Prod.rec (motive := fun _ => Option α) (fun x k =>
    (fun lay : Blk → Option α => Blk.rec (motive := fun _ => Option α) (lay .none) (fun o c => frcL c fun c => lay (.cells o c)) (fun o es c => lay (.map o es c)) (fun s p => lay (.siter s p)) x)
      fun x => frcN m.size fun z => pushMF m x fun m' => q (k.val z) m') p) r
theorem layF_eq (r : Option (Blk × Made)) (m : Mem) (q : Value → Mem → Option α) : layF r m q = onV (match r with | some (x, k) => some (k.val m.size, m.push x) | none => none) q := by
  cases r with
  | none => rfl
  | some p =>
    obtain ⟨x, k⟩ := p
    show (Blk.rec (motive := fun _ => Option α) _ _ _ _ x : Option α) = _
    simp only [frcL_eq, frcN_eq, pushMF_eq, fV_eq]
    cases x <;> rfl
def asNN (v : Value) (q : Value → Option α) : Option α :=
  match v with
  | .pointer (some a) => q (.pointer (some a))
  | .func (.func f) a b => q (.func (.func f) a b)
  | _ => none
section
variable (P : Program)
def storeCF (m : Mem) (b off : Nat) (vs : List Value) (q : Mem → Option α) : Option α :=
  cellsOf (getBF m b) fun o c => Bool.rec (motive := fun _ => Option α) none (spliceF c off vs fun c' => setMF m b (.cells true c') q) o
theorem storeCF_eq (m : Mem) (b off : Nat) (vs : List Value) (q : Mem → Option α) : storeCF m b off vs q = ob (storeC m b off vs) q := by
  simp only [storeCF, storeC, cellsOf_eq, getBF_eq]
  cases m.get b <;> try rfl
  rename_i o c
  cases o with
  | false => rfl
  | true =>
    simp only [spliceF_eq, setMF_eq]
    split
    · split <;> rfl
    · rfl
def storeRF (sp : Option Nat) (m : Mem) (b off : Nat) (vs : List Value) (q : Mem → Option α) : Option α := match sp with | none => storeCF m b off vs q | some _ => none
theorem storeRF_eq (sp : Option Nat) (m : Mem) (b off : Nat) (vs : List Value) (q : Mem → Option α) : storeRF sp m b off vs q = ob (storeR sp m b off vs) q := by
  cases sp with
  | none => exact storeCF_eq _ _ _ _ _
  | some _ => rfl
def appendF (m : Mem) (tS tX : TypeId) (s x : Value) (k : Value → Mem → Option α) : Option α :=
  match P.underlying tS, P.underlying tX with
  | _, some (.int _) | _, none => none
  | some (.slice e), some _ => match s, szOf P e, bytesOf P e, lenOf x with
    | .slice base sLen sCap, some size, some bytes, some n =>
      if size = 0 then none else
      match firstC m size n x with
      | some new =>
        if sLen + n ≤ sCap then
          (match base with
          | none => if n = 0 then k (.slice none (sLen + n) sCap) m else none
          | some ⟨b, off, sp⟩ => if n = 0 then k (.slice (some ⟨b, off, sp⟩) (sLen + n) sCap) m else
            storeRF sp m b (off + sLen * size) new fun m' => frcN (sLen + n) fun q => k (.slice (some ⟨b, off, sp⟩) q sCap) m')
        else if (sLen + n) * bytes ≤ 140737488355328 ∧ (sLen + n : Nat) ≤ 4611686018427387904 ∧ 0 < bytes ∧ (zerosD P e 1).isSome = true then
          match firstC m size sLen s with
          | some old =>
            if (new.all one && old.all one) = true ∧ old.length = sLen * size ∧ new.length = n * size then
            (match base with
            | some ⟨b, _, some e'⟩ => if e' = size then
                (match m.get b with
                | .cells true _ => frcL (old ++ new) fun l => frcN m.size fun z => frcN (sLen + n) fun q => pushMF m (.cells true l) fun m' => setMF m' b .none fun m' => k (.slice (some ⟨z, 0, some size⟩) q q) m'
                | _ => none)
              else none
            | _ => frcL (old ++ new) fun l => frcN m.size fun z => frcN (sLen + n) fun q => pushMF m (.cells true l) fun m' => k (.slice (some ⟨z, 0, some size⟩) q q) m') else none
          | none => none
        else none
      | none => none
    | _, _, _, _ => none
  | _, _ => none
theorem appendF_eq (m : Mem) (tS tX : TypeId) (s x : Value) (k : Value → Mem → Option α) : appendF P m tS tX s x k = onV (appendD P m tS tX s x) k := by
  unfold appendF appendD
  cases P.underlying tX with
  | none => cases P.underlying tS <;> rfl
  | some dX =>
    cases P.underlying tS with
    | none => cases dX <;> rfl
    | some dS =>
      cases dS <;> cases dX <;> try rfl
      all_goals
        simp only
        cases s <;> try rfl
        cases szOf P _ <;> try rfl
        cases bytesOf P _ <;> try rfl
        cases lenOf x <;> try rfl
        simp only
        rename_i base sLen sCap size bytes n
        by_cases h0 : size = 0
        · simp only [h0, if_true]; rfl
        · simp only [h0, if_false]
          cases firstC m size n x with
          | none => rfl
          | some new =>
            simp only
            by_cases h1 : sLen + n ≤ sCap
            · simp only [h1, if_true]
              cases base with
              | none => by_cases h2 : n = 0 <;> simp only [h2, if_true, if_false] <;> rfl
              | some ad =>
                obtain ⟨b, off, sp⟩ := ad
                simp only
                by_cases h2 : n = 0
                · simp only [h2, if_true]; rfl
                · simp only [h2, if_false, storeRF_eq]
                  cases storeR sp m b (off + sLen * size) new <;> simp only [ob_some, ob_none, onV, frcN_eq]
            · simp only [h1, if_false]
              rw [onV_ite]
              refine ite_same fun h2 => ?_
              cases firstC m size sLen _ with
              | none => rfl
              | some old =>
                  simp only
                  by_cases h3 : (new.all one && old.all one) = true ∧ old.length = sLen * size ∧ new.length = n * size
                  · rw [if_pos h3, if_pos h3]
                    cases base with
                    | none => simp only [frcL_eq, pushMF_eq, frcN_eq, onV]
                    | some ad =>
                      obtain ⟨b, off, sp⟩ := ad
                      cases sp with
                      | none => simp only [frcL_eq, pushMF_eq, frcN_eq, onV]
                      | some e' =>
                        simp only
                        by_cases h4 : e' = size
                        · simp only [h4, if_true]
                          cases m.get b with
                          | none => rfl
                          | map => rfl
                          | siter => rfl
                          | cells o c => cases o with
                            | false => rfl
                            | true => simp only [frcL_eq, pushMF_eq, setMF_eq, frcN_eq, onV]
                        · simp only [h4, if_false]; rfl
                  · rw [if_neg h3, if_neg h3]; rfl
end
def callOF (c : Call) : OpK α :=
  Call.rec (motive := fun _ => OpK α) (fun callee args tys => Callee.rec (motive := fun _ => OpK α)
    (fun f P K G cf t m q => evF f G t fun v => asFunc v fun g fs cs => evsF args.toList G t fun vs => appF vs cs fun r => appF fs r fun l => cf g l m q)
    (fun r s P K G cf t m q => onV (opD P K G (fun _ _ _ => none) t m (.call ⟨.invoke r s, args, tys⟩)) q)
    (fun b P K G cf t m q => match b with
      | .len => (match args.toList, tys.toList with
        | [x], [ty] => evF x G t fun v => frcV (lenD P m ty v) fun v => q v m
        | _, _ => none)
      | .append => (match args.toList, tys.toList with
        | [s, x], [tS, tX] => evF s G t fun s => evF x G t fun x => appendF P m tS tX s x q
        | _, _ => none)
      | b => onV (opD P K G (fun _ _ _ => none) t m (.call ⟨.builtin b, args, tys⟩)) q) callee) c
def opF (o : Op) : OpK α :=
  Op.rec (motive := fun _ => OpK α)
    (fun x P K G cf t mm q => evF x G t fun v => q v mm)
    (fun x P K G cf t mm q => evF x G t fun v => q v mm)
    (fun c a b P K G cf t mm q => evF c G t fun v => asBool v (evF a G t fun v => q v mm) (evF b G t fun v => q v mm))
    (fun e P K G cf t mm q => layF (allocD P G t (.alloc e)) mm q)
    (fun e x P K G cf t mm q => layF (allocD P G t (.box e x)) mm q)
    (fun ty ps P K G cf t mm q => onV (opD P K G (fun _ _ _ => none) t mm (.build ty ps)) q)
    (fun ty n ps P K G cf t mm q => onV (opD P K G (fun _ _ _ => none) t mm (.buildSlice ty n ps)) q)
    (fun mt m k v P K G cf t mm q => evF m G t fun x => evF k G t fun k => evF v G t fun v => mapUpdateF P K mm mt x k v fun m => q undef m)
    (fun ty a P K G cf t mm q => evF a G t fun v => loadF P mm ty v fun v => shF P ty v fun v => q v mm)
    (fun ty a x P K G cf t mm q => evF a G t fun a => evF x G t fun v => storeF P mm ty v a fun m => q undef m)
    (fun g P K G cf t mm q => onV (opD P K G (fun _ _ _ => none) t mm (.ready g)) q)
    (fun g P K G cf t mm q => onV (opD P K G (fun _ _ _ => none) t mm (.waits g)) q)
    (fun x P K G cf t mm q => evF x G t fun v => asNN v (fun v => q v mm))
    (fun op ty x y yt P K G cf t mm q => evF x G t fun x => evF y G t fun y => binF P K op ty x y fun v => q v mm)
    (fun op ty x P K G cf t mm q => evF x G t fun x => frcV (unD op x) fun v => q v mm)
    (fun a b x P K G cf t mm q => onV (opD P K G (fun _ _ _ => none) t mm (.convert a b x)) q)
    (fun d x P K G cf t mm q => onV (opD P K G (fun _ _ _ => none) t mm (.sliceToArrayPointer d x)) q)
    (fun ty x P K G cf t mm q => onV (opD P K G (fun _ _ _ => none) t mm (.makeInterface ty x)) q)
    (fun fn a b P K G cf t mm q => onV (opD P K G (fun _ _ _ => none) t mm (.makeFunc fn a b)) q)
    (fun ty r P K G cf t mm q => onV (opD P K G (fun _ _ _ => none) t mm (.makeMap ty r)) q)
    (fun ty s P K G cf t mm q => onV (opD P K G (fun _ _ _ => none) t mm (.makeChan ty s)) q)
    (fun ty l c P K G cf t mm q => onV (opD P K G (fun _ _ _ => none) t mm (.makeSlice ty l c)) q)
    (fun ty x l h mx P K G cf t mm q => onV (opD P K G (fun _ _ _ => none) t mm (.slice ty x l h mx)) q)
    (fun s x f P K G cf t mm q => evF x G t fun v => fieldAddrF P s f v fun v => q v mm)
    (fun s x f P K G cf t mm q => evF x G t fun v => fieldF P s f v fun v => q v mm)
    (fun ty x i P K G cf t mm q => evF x G t fun x => evF i G t fun i => indexAddrF P ty x i fun v => q v mm)
    (fun ty x i P K G cf t mm q => onV (opD P K G (fun _ _ _ => none) t mm (.index ty x i)) q)
    (fun ty x k ok P K G cf t mm q => evF x G t fun x => evF k G t fun k => lookupF P K mm ty x k ok fun v => q v mm)
    (fun mt m k v P K G cf t mm q => evF m G t fun x => evF k G t fun k => evF v G t fun v => mapUpdateF P K mm mt x k v fun m => q undef m)
    (fun mt m k P K G cf t mm q => onV (opD P K G (fun _ _ _ => none) t mm (.mapEntry mt m k)) q)
    (fun mt m s v P K G cf t mm q => onV (opD P K G (fun _ _ _ => none) t mm (.entryStore mt m s v)) q)
    (fun ty x P K G cf t mm q => onV (opD P K G (fun _ _ _ => none) t mm (.range ty x)) q)
    (fun i s P K G cf t mm q => onV (opD P K G (fun _ _ _ => none) t mm (.next i s)) q)
    (fun i P K G cf t mm q => onV (opD P K G (fun _ _ _ => none) t mm (.entry i)) q)
    (fun x a b ok P K G cf t mm q => onV (opD P K G (fun _ _ _ => none) t mm (.typeAssert x a b ok)) q)
    (fun x i P K G cf t mm q => evF x G t fun v => asTup v fun vs => nthF vs.toList i fun v => q v mm)
    (fun c P K G cf t mm q => callOF c P K G cf t mm q)
    (fun c P K G cf t mm q => onV (opD P K G (fun _ _ _ => none) t mm (.go c)) q)
    (fun c P K G cf t mm q => onV (opD P K G (fun _ _ _ => none) t mm (.defer c)) q)
    (fun x P K G cf t mm q => onV (opD P K G (fun _ _ _ => none) t mm (.panic x)) q)
    (fun c x P K G cf t mm q => onV (opD P K G (fun _ _ _ => none) t mm (.send c x)) q)
    (fun ct c ok P K G cf t mm q => onV (opD P K G (fun _ _ _ => none) t mm (.recv ct c ok)) q)
    (fun cs b P K G cf t mm q => onV (opD P K G (fun _ _ _ => none) t mm (.select cs b)) q)
    o
section
variable {P : Program} {K : TypeId → Bool} {G : Nat} {cf : CF α} {df : DF} {t : Tmps} {m : Mem} {q : Value → Mem → Option α}
theorem quiet_on {o : Op} (h : klass o = 0) : onV (opD P K G df t m o) q = ob (quietD P K G t m o) fun v => q v m := by
  simp only [opD, h]; exact onV_ob
theorem alloc_on {o : Op} (h : klass o = 1) : onV (opD P K G df t m o) q = layF (allocD P G t o) m q := by
  simp only [opD, h, layF_eq]
  cases allocD P G t o <;> rfl
theorem heavy_on {o : Op} (h : klass o = 2) : onV (opD P K G df t m o) q = onV (heavyD P K G df t m o) q := by
  simp only [opD, h]
theorem callOF_eq (hcf : ∀ f a m (q : Value → Mem → Option α), cf f a m q = onV (df f a m) q) (c : Call) : callOF c P K G cf t m q = onV (opD P K G df t m (.call c)) q := by
  obtain ⟨callee, args, tys⟩ := c
  cases callee with
  | invoke r s =>
    rfl
  | value f =>
    rw [heavy_on rfl]
    show (evF f G t fun v => asFunc v fun g fs cs => evsF args.toList G t fun vs => appF vs cs fun r => appF fs r fun l => cf g l m q) = _
    simp only [evF_eq, evsF_eq, appF_eq, heavyD]
    cases ev G t f with
    | none => rfl
    | some v =>
      simp only [ob_some]
      cases v <;> try rfl
      rename_i fn a b
      cases fn <;> try rfl
      show ob (evs G t args.toList) _ = _
      simp only [hcf]
      cases evs G t args.toList <;> rfl
  | builtin b =>
    cases b <;> try rfl
    · rw [heavy_on rfl]
      show (match args.toList, tys.toList with | [s, x], [tS, tX] => evF s G t fun s => evF x G t fun x => appendF P m tS tX s x q | _, _ => none) = _
      simp only [heavyD]
      generalize args.toList = A
      generalize tys.toList = T
      rcases A with _ | ⟨s, _ | ⟨x, _ | ⟨y, A⟩⟩⟩ <;> rcases T with _ | ⟨tS, _ | ⟨tX, _ | ⟨c, T⟩⟩⟩ <;> try rfl
      simp only [evF_eq]
      cases ev G t s with
      | none => rfl
      | some s =>
        simp only [ob_some]
        cases ev G t x with
        | none => rfl
        | some x => exact appendF_eq _ _ _ _ _ _ _
    · rw [quiet_on rfl]
      show (match args.toList, tys.toList with | [x], [ty] => evF x G t fun v => frcV (lenD P m ty v) fun v => q v m | _, _ => none) = _
      simp only [quietD]
      generalize args.toList = A
      generalize tys.toList = T
      rcases A with _ | ⟨x, _ | ⟨y, A⟩⟩ <;> rcases T with _ | ⟨ty, _ | ⟨c, T⟩⟩ <;> try rfl
      simp only [evF_eq, frcV_eq]
      cases ev G t x <;> rfl
theorem opF_eq (hcf : ∀ f a m (q : Value → Mem → Option α), cf f a m q = onV (df f a m) q) (o : Op) : opF o P K G cf t m q = onV (opD P K G df t m o) q := by
  cases o <;> try rfl
  case move x => rw [quiet_on rfl]; exact evF_eq _ _ _ _
  case assign x => rw [quiet_on rfl]; exact evF_eq _ _ _ _
  case pick c a b =>
    rw [quiet_on rfl]
    refine (evF_eq _ _ _ _).trans ?_
    simp only [quietD]
    cases ev G t c with
    | none => rfl
    | some v =>
      simp only [ob_some]
      cases v <;> try rfl
      rename_i b'
      cases b'
      · exact evF_eq _ _ _ _
      · exact evF_eq _ _ _ _
  case alloc e => rw [alloc_on rfl]; rfl
  case box e x => rw [alloc_on rfl]; rfl
  case load ty a =>
    rw [quiet_on rfl]
    refine (evF_eq _ _ _ _).trans ?_
    simp only [quietD]
    cases ev G t a with
    | none => rfl
    | some v =>
      simp only [ob_some, loadF_eq, shF_eq]
      cases loadD P m ty v with
      | none => rfl
      | some u => rfl
  case store ty a x =>
    rw [heavy_on rfl]
    refine (evF_eq _ _ _ _).trans ?_
    simp only [heavyD]
    cases ev G t a with
    | none => rfl
    | some a =>
      simp only [ob_some]
      refine (evF_eq _ _ _ _).trans ?_
      cases ev G t x with
      | none => rfl
      | some x =>
        simp only [ob_some]
        refine (storeF_eq _ _ _ _ _ _).trans ?_
        cases storeD P m ty x a <;> rfl
  case nilCheck x =>
    rw [quiet_on rfl]
    refine (evF_eq _ _ _ _).trans ?_
    simp only [quietD]
    cases ev G t x with
    | none => rfl
    | some v =>
      simp only [ob_some]
      cases v <;> try rfl
      · rename_i a; cases a <;> rfl
      · rename_i fn _ _; cases fn <;> rfl
  case binOp op ty x y yt =>
    rw [quiet_on rfl]
    refine (evF_eq _ _ _ _).trans ?_
    simp only [quietD]
    cases ev G t x with
    | none => rfl
    | some x =>
      simp only [ob_some]
      refine (evF_eq _ _ _ _).trans ?_
      cases ev G t y with
      | none => rfl
      | some y => exact binF_eq _ _ _ _ _ _ _
  case unOp op ty x =>
    rw [quiet_on rfl]
    refine (evF_eq _ _ _ _).trans ?_
    simp only [quietD]
    cases ev G t x with
    | none => rfl
    | some x =>
      simp only [ob_some]
      exact frcV_eq _ _
  case fieldAddr s x f =>
    rw [quiet_on rfl]
    refine (evF_eq _ _ _ _).trans ?_
    simp only [quietD]
    cases ev G t x with
    | none => rfl
    | some x =>
      simp only [ob_some]
      exact fieldAddrF_eq _ _ _ _ _
  case field s x f =>
    rw [quiet_on rfl]
    refine (evF_eq _ _ _ _).trans ?_
    simp only [quietD]
    cases ev G t x with
    | none => rfl
    | some x =>
      simp only [ob_some]
      exact fieldF_eq _ _ _ _ _
  case indexAddr ty x i =>
    rw [quiet_on rfl]
    refine (evF_eq _ _ _ _).trans ?_
    simp only [quietD]
    cases ev G t x with
    | none => rfl
    | some x =>
      simp only [ob_some]
      refine (evF_eq _ _ _ _).trans ?_
      cases ev G t i with
      | none => rfl
      | some i => exact indexAddrF_eq _ _ _ _ _
  case extract x i =>
    rw [quiet_on rfl]
    refine (evF_eq _ _ _ _).trans ?_
    simp only [quietD]
    cases ev G t x with
    | none => rfl
    | some v =>
      simp only [ob_some]
      cases v <;> try rfl
      exact nthF_eq _ _ _
  case lookup ty x k ok =>
    rw [quiet_on rfl]
    refine (evF_eq _ _ _ _).trans ?_
    simp only [quietD]
    cases ev G t x with
    | none => rfl
    | some x =>
      simp only [ob_some]
      refine (evF_eq _ _ _ _).trans ?_
      cases ev G t k with
      | none => rfl
      | some k => exact lookupF_eq _ _ _ _ _ _ _ _
  case mapUpdate ty x k y =>
    rw [heavy_on rfl]
    refine (evF_eq _ _ _ _).trans ?_
    simp only [heavyD]
    cases ev G t x with
    | none => rfl
    | some x =>
      simp only [ob_some]
      refine (evF_eq _ _ _ _).trans ?_
      cases ev G t k with
      | none => rfl
      | some k =>
        simp only [ob_some]
        refine (evF_eq _ _ _ _).trans ?_
        cases ev G t y with
        | none => rfl
        | some y =>
          simp only [ob_some]
          refine (mapUpdateF_eq _ _ _ _ _ _ _ _).trans ?_
          cases mapUpdateD P K m ty x k y <;> rfl
  case insert ty x k y =>
    rw [heavy_on rfl]
    refine (evF_eq _ _ _ _).trans ?_
    simp only [heavyD]
    cases ev G t x with
    | none => rfl
    | some x =>
      simp only [ob_some]
      refine (evF_eq _ _ _ _).trans ?_
      cases ev G t k with
      | none => rfl
      | some k =>
        simp only [ob_some]
        refine (evF_eq _ _ _ _).trans ?_
        cases ev G t y with
        | none => rfl
        | some y =>
          simp only [ob_some]
          refine (mapUpdateF_eq _ _ _ _ _ _ _ _).trans ?_
          cases mapUpdateD P K m ty x k y <;> rfl
  case call c => exact callOF_eq hcf c
end
/-! ### regions -/
def dstF (n : Nat) (d : Option Tmp) : Bool := Option.rec (motive := fun _ => Bool) true (fun d => Nat.blt d n) d
theorem dstF_eq (n : Nat) (d : Option Tmp) : dstF n d = dstOk n d := by
  cases d with
  | none => rfl
  | some d =>
    show Nat.blt d n = decide (d < n)
    rw [Bool.eq_iff_iff]; simp [Nat.blt_eq]
def putOF (t : Tmps) (d : Option Tmp) (v : Value) (q : Tmps → Option α) : Option α := Option.rec (motive := fun _ => Option α) (q t) (fun d => setTF t d v q) d
theorem putOF_eq (t : Tmps) (d : Option Tmp) (v : Value) (q : Tmps → Option α) : putOF t d v q = q (putD t d v) := by
  cases d with
  | none => rfl
  | some d => exact setTF_eq _ _ _ _
def nthO (l : List Oper) : Nat → Option Oper :=
  List.rec (motive := fun _ => Nat → Option Oper) (fun _ => none) (fun a _ ih i => Nat.rec (motive := fun _ => Option Oper) (some a) (fun i' _ => ih i') i) l
theorem nthO_eq : ∀ (l : List Oper) (i : Nat), nthO l i = l[i]?
  | [], i => by simp; rfl
  | a :: l, 0 => rfl
  | a :: l, i + 1 => by
    have := nthO_eq l i
    rw [List.getElem?_cons_succ]
    exact this
def boolF (t : Tmps) (d : Nat) (w : Bool) : Bool :=
  (fun v => cond (isB v) (Bool.rec (motive := fun _ => Bool) (not w) w (theB v)) false) (Option.rec (motive := fun _ => Value) undef (fun v => v) (getF t d d))
theorem boolF_eq (t : Tmps) (d : Nat) (w : Bool) : boolF t d w = ((match t.at d with | .bool b => some b | _ => none) == some w) := by
  have e : Option.rec (motive := fun _ => Value) undef (fun v => v) (getF t d d) = t.at d := by
    unfold Tmps.at
    rw [getF_eq]
    cases Tr.get t d d <;> rfl
  unfold boolF
  rw [e]
  cases t.at d <;> try rfl
  rename_i b
  cases b <;> cases w <;> rfl
def wantF (o : Oper) (ops : List Oper) (t : Tmps) : Bool :=
  Option.rec (motive := fun _ => Bool) true (fun g => Prod.rec (motive := fun _ => Bool) (fun j w => Option.rec (motive := fun _ => Bool) false (fun o' => Option.rec (motive := fun _ => Bool) false (fun d => boolF t d w) o'.dst) (nthO ops j)) g) o.guard
theorem wantF_eq (o : Oper) (ops : List Oper) (t : Tmps) : wantF o ops t = Region.wanted o (yieldD ops t) := by
  unfold wantF Region.wanted
  cases h : o.guard with
  | none => rfl
  | some g =>
    obtain ⟨j, w⟩ := g
    simp only [nthO_eq, yieldD]
    cases ops[j]? with
    | none => rfl
    | some o' =>
      simp only
      cases o'.dst with
      | none => rfl
      | some d => exact boolF_eq t d w
abbrev OpsK (α : Type) := Program → (TypeId → Bool) → Nat → CF α → Nat → List Oper → Tmps → Mem → (Tmps → Mem → Option α) → Option α
def opsF (l : List Oper) : OpsK α :=
  List.rec (motive := fun _ => OpsK α) (fun _ _ _ _ _ _ t m q => q t m)
    (fun o _ ih P K G cf n ops t m q => Bool.rec (motive := fun _ => Option α) none (Bool.rec (motive := fun _ => Option α) (putOF t o.dst undef fun t' => ih P K G cf n ops t' m q)
      (opF o.op P K G cf t m fun v m' => putOF t o.dst v fun t' => ih P K G cf n ops t' m' q) (wantF o ops t)) (dstF n o.dst)) l
def onT {β : Type} (r : Option (Tmps × Mem)) (q : Tmps → Mem → Option β) : Option β := match r with | some (t, m) => q t m | none => none
theorem opsF_eq (P : Program) (K : TypeId → Bool) (G : Nat) (cf : CF α) (df : DF) (hcf : ∀ f a m (q : Value → Mem → Option α), cf f a m q = onV (df f a m) q) (n : Nat) (ops : List Oper) (q : Tmps → Mem → Option α) : ∀ (l : List Oper) (t : Tmps) (m : Mem),
    opsF l P K G cf n ops t m q = onT (opsD P K G df n ops l t m) q
  | [], t, m => rfl
  | o :: l, t, m => by
    have ih := opsF_eq P K G cf df hcf n ops q l
    show Bool.rec (motive := fun _ => Option α) none (Bool.rec (motive := fun _ => Option α) (putOF t o.dst undef fun t' => opsF l P K G cf n ops t' m q)
      (opF o.op P K G cf t m fun v m' => putOF t o.dst v fun t' => opsF l P K G cf n ops t' m' q) (wantF o ops t)) (dstF n o.dst) = _
    simp only [putOF_eq, ih, opF_eq hcf, wantF_eq, dstF_eq, opsD]
    cases dstOk n o.dst with
    | false => rfl
    | true =>
      cases Region.wanted o (yieldD ops t) with
      | false => rfl
      | true =>
        simp only [if_true]
        cases opD P K G df t m o.op with
        | none => rfl
        | some r => rfl
abbrev RecK (α : Type) := Program → (TypeId → Bool) → Nat → CF α → Nat → List Oper → Tmps → Mem → (List Rec → Tmps → Mem → Option α) → Option α
def recF (l : List Oper) : RecK α :=
  List.rec (motive := fun _ => RecK α) (fun _ _ _ _ _ _ t m q => q [] t m)
    (fun o _ ih P K G cf n ops t m q => Bool.rec (motive := fun _ => Option α) none (Bool.rec (motive := fun _ => Option α) (putOF t o.dst undef fun t' => ih P K G cf n ops t' m fun rs t' m'' => q (⟨false, undef, t, m⟩ :: rs) t' m'')
      (opF o.op P K G cf t m fun v m' => putOF t o.dst v fun t' => ih P K G cf n ops t' m' fun rs t' m'' => q (⟨true, v, t, m⟩ :: rs) t' m'') (wantF o ops t)) (dstF n o.dst)) l
def onR (r : Option (List Rec × Tmps × Mem)) (q : List Rec → Tmps → Mem → Option α) : Option α := match r with | some (rs, t, m) => q rs t m | none => none
theorem recF_eq (P : Program) (K : TypeId → Bool) (G : Nat) (cf : CF α) (df : DF) (hcf : ∀ f a m (q : Value → Mem → Option α), cf f a m q = onV (df f a m) q) (n : Nat) (ops : List Oper) : ∀ (l : List Oper) (t : Tmps) (m : Mem) (q : List Rec → Tmps → Mem → Option α),
    recF l P K G cf n ops t m q = onR (recD P K G df n ops l t m) q
  | [], t, m, q => rfl
  | o :: l, t, m, q => by
    have ih := recF_eq P K G cf df hcf n ops l
    show Bool.rec (motive := fun _ => Option α) none (Bool.rec (motive := fun _ => Option α) (putOF t o.dst undef fun t' => recF l P K G cf n ops t' m fun rs t' m'' => q (⟨false, undef, t, m⟩ :: rs) t' m'')
      (opF o.op P K G cf t m fun v m' => putOF t o.dst v fun t' => recF l P K G cf n ops t' m' fun rs t' m'' => q (⟨true, v, t, m⟩ :: rs) t' m'') (wantF o ops t)) (dstF n o.dst) = _
    simp only [putOF_eq, ih, opF_eq hcf, wantF_eq, dstF_eq, recD]
    cases dstOk n o.dst with
    | false => rfl
    | true =>
      cases Region.wanted o (yieldD ops t) with
      | false =>
        simp only [if_true]
        cases recD P K G df n ops l (putD t o.dst undef) m <;> rfl
      | true =>
        simp only [if_true]
        cases opD P K G df t m o.op with
        | none => rfl
        | some r =>
          obtain ⟨v, m'⟩ := r
          simp only [onV]
          cases recD P K G df n ops l (putD t o.dst v) m' <;> rfl
def vqK (v' v : Value) (q : Option α) : Option α :=
  (fun g => asInt v' (fun k n => asInt v (fun k' n' => Bool.rec (motive := fun _ => Option α) g (Bool.rec (motive := fun _ => Option α) none q (eqF n n')) (kEq k k')) g) g) (Bool.rec (motive := fun _ => Option α) none q (veq 8 v' v))
theorem cond_rec (b : Bool) (q : Option α) : Bool.rec (motive := fun _ => Option α) none q b = cond b q none := by cases b <;> rfl
theorem vqK_eq (v' v : Value) (q : Option α) : vqK v' v q = cond (veq 8 v' v) q none := by
  unfold vqK
  refine Eq.trans ?_ (cond_rec (veq 8 v' v) q)
  cases v' <;> try rfl
  cases v <;> try rfl
  rename_i k a k' b
  rw [cond_rec (veq 8 (.int k a) (.int k' b)) q]
  show Bool.rec (motive := fun _ => Option α) _ (Bool.rec (motive := fun _ => Option α) none q (eqF a b)) (kEq k k') = _
  rw [kEq_eq, eqF_eq]
  show _ = cond (decide (k = k') && decide (a = b)) q none
  have hab : (a == b) = decide (a = b) := by rw [Bool.eq_iff_iff]; simp
  rw [hab]
  by_cases h : k = k'
  · subst h
    rw [decide_eq_true rfl, Bool.true_and]
    exact cond_rec _ _
  · rw [decide_eq_false h, Bool.false_and]
    have hv : veq 8 (.int k a) (.int k' b) = false := by show (decide (k = k') && decide (a = b)) = false; rw [decide_eq_false h]; rfl
    simp only [hv]
    try rfl
def chkF (P : Program) (K : TypeId → Bool) (G : Nat) (ops : List Oper) (rs : List Rec) (m' : Mem) (x : Nat × Nat) (q : Option α) : Option α :=
  match rs[x.1]?, ops[x.1]? with
  | some r, some o => Bool.rec (motive := fun _ => Option α) q (match o.op with
      | .load ty a => evF a G r.t fun v => loadF P (mAt rs m' x.2) ty v fun v => shF P ty v fun v' => vqK v' r.v q
      | _ => Bool.rec (motive := fun _ => Option α) none q (chk1 P K G ops rs m' x)) r.want
  | _, _ => none
theorem chkF_eq (P : Program) (K : TypeId → Bool) (G : Nat) (ops : List Oper) (rs : List Rec) (m' : Mem) (x : Nat × Nat) (q : Option α) : chkF P K G ops rs m' x q = cond (chk1 P K G ops rs m' x) q none := by
  unfold chkF
  have hc : chk1 P K G ops rs m' x = (match rs[x.1]?, ops[x.1]? with
    | some r, some o => !r.want || (match quietD P K G r.t (mAt rs m' x.2) o.op with | some v => veq 8 v r.v | none => false)
    | _, _ => false) := rfl
  cases hr : rs[x.1]? with
  | none => rw [hr] at hc; rw [hc]; rfl
  | some r =>
    cases ho : ops[x.1]? with
    | none => rw [hr, ho] at hc; rw [hc]; rfl
    | some o =>
      rw [hr, ho] at hc
      simp only at hc ⊢
      cases hw : r.want with
      | false => rw [hc, hw]; rfl
      | true =>
        simp only
        have hg : Bool.rec (motive := fun _ => Option α) none q (chk1 P K G ops rs m' x) = cond (chk1 P K G ops rs m' x) q none := cond_rec _ _
        cases hop : o.op <;> try exact hg
        rename_i ty a
        rw [hc, hw, hop]
        simp only [evF_eq, loadF_eq, shF_eq, vqK_eq, quietD, Bool.not_true, Bool.false_or]
        cases ev G r.t a with
        | none => rfl
        | some v =>
          simp only [ob_some]
          cases loadD P (mAt rs m' x.2) ty v with
          | none => rfl
          | some u =>
            simp only [ob_some, shD]
            cases shp P ty u <;> rfl
def chksF (P : Program) (K : TypeId → Bool) (G : Nat) (ops : List Oper) (rs : List Rec) (m' : Mem) (l : List (Nat × Nat)) (q : Option α) : Option α :=
  List.rec (motive := fun _ => Option α) q (fun x _ ih => chkF P K G ops rs m' x ih) l
theorem chksF_eq (P : Program) (K : TypeId → Bool) (G : Nat) (ops : List Oper) (rs : List Rec) (m' : Mem) : ∀ (l : List (Nat × Nat)) (q : Option α), chksF P K G ops rs m' l q = cond (l.all (chk1 P K G ops rs m')) q none
  | [], q => rfl
  | x :: l, q => by
    have ih := chksF_eq P K G ops rs m' l q
    show chkF P K G ops rs m' x (chksF P K G ops rs m' l q) = _
    rw [chkF_eq, ih, List.all_cons]
    cases chk1 P K G ops rs m' x <;> rfl
def drawF (P : Program) (K : TypeId → Bool) (G : Nat) (cf : CF α) (n : Nat) (ops : List Oper) (t : Tmps) (m : Mem) (q : Tmps → Mem → Option α) : Option α :=
  Bool.rec (motive := fun _ => Option α) none (recF ops P K G cf n ops t m fun rs t' m' => chksF P K G ops rs m' (need1F ops) (Bool.rec (motive := fun _ => Option α) none (q t' m')
    ((need2F ops).all (chk2 rs m')))) (statT ops)
theorem drawF_eq (P : Program) (K : TypeId → Bool) (G : Nat) (cf : CF α) (df : DF) (hcf : ∀ f a m (q : Value → Mem → Option α), cf f a m q = onV (df f a m) q) (n : Nat) (ops : List Oper) (t : Tmps) (m : Mem) (q : Tmps → Mem → Option α) : drawF P K G cf n ops t m q = onT (drawD P K G df n ops t m) q := by
  unfold drawF drawD
  simp only [recF_eq P K G cf df hcf, statT_eq, chksF_eq, all_congr_mem (need1F_mem ops), all_congr_mem (need2F_mem ops)]
  cases statB ops (tabD ops []) with
  | false => rfl
  | true =>
    simp only [if_true]
    cases recD P K G df n ops ops t m with
    | none => rfl
    | some r =>
      obtain ⟨rs, t', m'⟩ := r
      simp only [onR]
      cases (need1 ops (tabD ops [])).all (chk1 P K G ops rs m') with
      | false => rfl
      | true => cases (need2 ops (tabD ops [])).all (chk2 rs m') <;> rfl
/-! ### code -/
abbrev ExK (α : Type) := Ex → Tmps → Mem → Option α
def onE (r : Option (Ex × Tmps × Mem)) (q : ExK α) : Option α := match r with | some (e, t, m) => q e t m | none => none
def loopF (body : Tmps → Mem → ExK α → Option α) (k : Nat) : Tmps → Mem → ExK α → Option α :=
  Nat.rec (motive := fun _ => Tmps → Mem → ExK α → Option α) (fun _ _ _ => none) (fun _ ih t m q => body t m fun e t' m' => Ex.rec (motive := fun _ => Option α) (ih t' m' q) (fun id => q (.exit id) t' m') (q .ret t' m') e) k
theorem loopF_eq {body : Tmps → Mem → ExK α → Option α} {b : Tmps → Mem → Option (Ex × Tmps × Mem)} (hb : ∀ t m q, body t m q = onE (b t m) q) : ∀ (k : Nat) (t : Tmps) (m : Mem) (q : ExK α), loopF body k t m q = onE (loopD b k t m) q
  | 0, t, m, q => rfl
  | k + 1, t, m, q => by
    have ih := loopF_eq hb k
    show (body t m fun e t' m' => Ex.rec (motive := fun _ => Option α) (loopF body k t' m' q) (fun id => q (.exit id) t' m') (q .ret t' m') e) = _
    simp only [hb, ih, loopD]
    cases b t m with
    | none => rfl
    | some r =>
      obtain ⟨e, t', m'⟩ := r
      cases e <;> rfl
abbrev LK (α : Type) := (Tmps → Mem → ExK α → Option α) → Code → Nat → Tmps → Mem → ExK α → Option α
abbrev CodeK (α : Type) := Program → (TypeId → Bool) → Nat → CF α → LK α → Nat → Nat → Tmps → Mem → ExK α → Option α
def codeF (c : Code) : CodeK α :=
  Code.rec (motive := fun _ => CodeK α)
    (fun _ _ _ _ _ _ _ t m q => q .normal t m)
    (fun _ ops draw P K G cf _ n _ t m q => Bool.rec (motive := fun _ => Option α) (opsF ops.toList P K G cf n ops.toList t m fun t m => q .normal t m) (drawF P K G cf n ops.toList t m fun t m => q .normal t m) draw)
    (fun _ _ ia ib P K G cf L n k t m q => ia P K G cf L n k t m fun e t m => Ex.rec (motive := fun _ => Option α) (ib P K G cf L n k t m q) (fun id => q (.exit id) t m) (q .ret t m) e)
    (fun c _ _ ix iy P K G cf L n k t m q => evF c G t fun v => asBool v (ix P K G cf L n k t m q) (iy P K G cf L n k t m q))
    (fun id _ ib P K G cf L n k t m q => ib P K G cf L n k t m fun e t m => Ex.rec (motive := fun _ => Option α) (q .normal t m) (fun id' => Bool.rec (motive := fun _ => Option α) (q (.exit id') t m) (q .normal t m) (Nat.beq id' id)) (q .ret t m) e)
    (fun c ib P K G cf L n k t m q => L (fun t m q => ib P K G cf L n k t m q) c k t m q)
    (fun _ _ _ _ _ _ _ _ _ _ _ _ _ _ _ _ => none)
    (fun id _ _ _ _ _ _ _ t m q => q (.exit id) t m)
    (fun _ _ _ _ _ _ _ _ _ _ _ _ => none)
    (fun _ _ _ _ _ _ _ _ t m q => q .normal t m)
    (fun _ _ _ _ _ _ _ _ _ _ _ => none)
    (fun _ _ _ _ _ _ _ t m q => q .ret t m)
    (fun _ _ _ _ _ _ _ _ _ _ _ => none)
    c
theorem codeF_eq (P : Program) (K : TypeId → Bool) (G : Nat) (cf : CF α) (df : DF) (hcf : ∀ f a m (q : Value → Mem → Option α), cf f a m q = onV (df f a m) q) (L : LK α) (n k : Nat) (hL : ∀ (body : Tmps → Mem → ExK α → Option α) (c : Code) (t : Tmps) (m : Mem) (q : ExK α), (∀ t m q, body t m q = onE (codeD P K G df (drawD P K G df n) n k c t m) q) → L body c k t m q = onE (loopD (codeD P K G df (drawD P K G df n) n k c) k t m) q) : ∀ (c : Code) (t : Tmps) (m : Mem) (q : ExK α), codeF c P K G cf L n k t m q = onE (codeD P K G df (drawD P K G df n) n k c t m) q := by
  intro c
  induction c with
  | skip => intros; rfl
  | label l => intros; rfl
  | region id ops draw =>
    intro t m q
    show Bool.rec (motive := fun _ => Option α) (opsF ops.toList P K G cf n ops.toList t m fun t m => q .normal t m) (drawF P K G cf n ops.toList t m fun t m => q .normal t m) draw = _
    rw [opsF_eq P K G cf df hcf, drawF_eq P K G cf df hcf]
    simp only [codeD]
    cases draw with
    | false =>
      simp only [cond_false]
      cases opsD P K G df n ops.toList ops.toList t m <;> rfl
    | true =>
      simp only [cond_true]
      cases drawD P K G df n ops.toList t m <;> rfl
  | seq a b iha ihb =>
    intro t m q
    refine (iha t m _).trans ?_
    simp only [codeD]
    cases codeD P K G df (drawD P K G df n) n k a t m with
    | none => rfl
    | some r =>
      obtain ⟨e, t', m'⟩ := r
      cases e with
      | normal => exact ihb t' m' q
      | exit id => rfl
      | ret => rfl
  | cond c x y ihx ihy =>
    intro t m q
    refine (evF_eq _ _ _ _).trans ?_
    simp only [codeD]
    cases ev G t c with
    | none => rfl
    | some v =>
      simp only [ob_some]
      cases v <;> try rfl
      rename_i b
      cases b with
      | true => exact ihx t m q
      | false => exact ihy t m q
  | block id c ih =>
    intro t m q
    refine (ih t m _).trans ?_
    simp only [codeD]
    cases codeD P K G df (drawD P K G df n) n k c t m with
    | none => rfl
    | some r =>
      obtain ⟨e, t', m'⟩ := r
      cases e with
      | normal => rfl
      | ret => rfl
      | exit id' =>
        show Bool.rec (motive := fun _ => Option α) (q (.exit id') t' m') (q .normal t' m') (Nat.beq id' id) = _
        rw [beqN]
        simp only
        by_cases h : id' = id
        · rw [decide_eq_true h, if_pos h]; rfl
        · rw [decide_eq_false h, if_neg h]; rfl
  | loop c ih =>
    intro t m q
    exact hL _ c t m q fun t m q => ih t m q
  | exit id => intros; rfl
  | ret => intros; rfl
  | rangeFunc => intros; rfl
  | scope => intros; rfl
  | goto => intros; rfl
  | refuse => intros; rfl
def resF (l : List ResultVar) : Program → Tmps → Mem → (List Value → Option α) → Option α :=
  List.rec (motive := fun _ => Program → Tmps → Mem → (List Value → Option α) → Option α) (fun _ _ _ q => q [])
    (fun r _ ih P t m q => match r with
      | .tmp d => getTF t d fun v => ih P t m fun vs => q (v :: vs)
      | .cell a ty => getTF t a fun a => loadF P m ty a fun v => ih P t m fun vs => q (v :: vs)) l
theorem resF_eq (P : Program) (t : Tmps) (m : Mem) : ∀ (l : List ResultVar) (q : List Value → Option α), resF l P t m q = ob (resD P t m l) q
  | [], q => rfl
  | .tmp d :: l, q => by
    have ih := resF_eq P t m l
    show (getTF t d fun v => resF l P t m fun vs => q (v :: vs)) = _
    simp only [getTF_eq, ih, resD]
    cases resD P t m l <;> rfl
  | .cell a ty :: l, q => by
    have ih := resF_eq P t m l
    show (getTF t a fun a => loadF P m ty a fun v => resF l P t m fun vs => q (v :: vs)) = _
    simp only [getTF_eq, loadF_eq, ih, resD]
    cases loadD P m ty (t.at a) with
    | none => rfl
    | some v =>
      simp only [ob_some]
      cases resD P t m l <;> rfl
def initF (l : List Value) : Nat → (Tmps → Option α) → Option α :=
  List.rec (motive := fun _ => Nat → (Tmps → Option α) → Option α) (fun _ q => q .nil) (fun v _ ih i q => ih (Nat.succ i) fun t => setTF t i v q) l
theorem initF_eq : ∀ (l : List Value) (i : Nat) (q : Tmps → Option α), initF l i q = q (initT i l)
  | [], _, _ => rfl
  | v :: l, i, q => (initF_eq l (i + 1) fun t => setTF t i v q).trans (setTF_eq _ _ _ _)
def runF (P : Program) (K : TypeId → Bool) (G : Nat) (k : Nat) (cf : CF α) (fn : Func) (c : Code) (args : List Value) (m : Mem) (q : Value → Mem → Option α) : Option α :=
  initF args 0 fun t => codeF c P K G cf (fun body _ k t m q => loopF body k t m q) (max args.length fn.ntmps) k t m fun e t' m' => Ex.rec (motive := fun _ => Option α) (resF fn.results.toList P t' m' fun vs => q (resV vs) m') (fun _ => none) (resF fn.results.toList P t' m' fun vs => q (resV vs) m') e
def callK (P : Program) (K : TypeId → Bool) (G : Nat) (k : Nat) : CF α :=
  Nat.rec (motive := fun _ => CF α) (fun _ _ _ _ => none) (fun k ih f args m q => Option.rec (motive := fun _ => Option α) none (fun fn => Option.rec (motive := fun _ => Option α) none (fun c => runF P K G k ih fn c args m q) fn.body) P.funcs[f]?) k
theorem callK_eq (P : Program) (K : TypeId → Bool) (G : Nat) : ∀ (k : Nat) (f : FuncId) (args : List Value) (m : Mem) (q : Value → Mem → Option α), callK P K G k f args m q = onV (callD P K G k f args m) q
  | 0, _, _, _, _ => rfl
  | k + 1, f, args, m, q => by
    have ih := callK_eq P K G k
    simp only [callD]
    show Option.rec (motive := fun _ => Option α) none (fun fn => Option.rec (motive := fun _ => Option α) none (fun c => runF P K G k (callK P K G k) fn c args m q) fn.body) P.funcs[f]? = _
    cases P.funcs[f]? with
    | none => rfl
    | some fn =>
      simp only
      cases hb : fn.body with
      | none => rfl
      | some c =>
        simp only [runF, initF_eq, codeF_eq P K G (callK P K G k) (callD P K G k) ih (fun body _ k t m q => loopF body k t m q) _ k (fun body c t m q hb => loopF_eq hb k t m q), resF_eq]
        cases codeD P K G (callD P K G k) (drawD P K G (callD P K G k) (max args.length fn.ntmps)) (max args.length fn.ntmps) k c (initT 0 args) m with
        | none => rfl
        | some r =>
          obtain ⟨e, t', m'⟩ := r
          cases e with
          | normal =>
            simp only [onE]
            cases resD P t' m' fn.results.toList <;> rfl
          | exit id => rfl
          | ret =>
            simp only [onE]
            cases resD P t' m' fn.results.toList <;> rfl
end
end Go.DI.Y
namespace Go.DI
section
variable {P : Program} {K : TypeId → Bool} {G B0 : Nat}
def bodyD (P : Program) (K : TypeId → Bool) (G : Nat) (cf : FuncId → List Value → Mem → Option (Value × Mem)) (k : Nat) (f : FuncId) (args : List Value) (m : Mem) : Option (Value × Mem) :=
  match P.funcs[f]? with
    | some fn => match fn.body with
      | some c => match codeD P K G cf (drawD P K G cf (max args.length fn.ntmps)) (max args.length fn.ntmps) k c (initT 0 args) m with
        | some (.normal, t, m') => match resD P t m' fn.results.toList with
          | some vs => some (resV vs, m')
          | none => none
        | some (.ret, t, m') => match resD P t m' fn.results.toList with
          | some vs => some (resV vs, m')
          | none => none
        | _ => none
      | none => none
    | none => none
abbrev Orc := FuncId → List Value → Mem → Option (Value × Mem)
def callO (P : Program) (K : TypeId → Bool) (G : Nat) (o : Orc) : Nat → FuncId → List Value → Mem → Option (Value × Mem)
  | 0, _, _, _ => none
  | k + 1, f, args, m => match o f args m with
    | some r => some r
    | none => bodyD P K G (callO P K G o k) k f args m
theorem bodyD_grw {cf : FuncId → List Value → Mem → Option (Value × Mem)} (ih : CfGrw cf) (k : Nat) (f : FuncId) (args : List Value) (m : Mem) (v : Value) (m' : Mem) (h : bodyD P K G cf k f args m = some (v, m')) : Grw m m' := by
  simp only [bodyD] at h
  split at h <;> try (simp at h; done)
  split at h <;> try (simp at h; done)
  split at h <;> try (simp at h; done)
  all_goals
    rename_i hc
    split at h <;> simp at h
    rw [← h.2]
    exact codeD_grw ih (fun _ _ _ _ _ h => drawD_grw ih h) _ _ _ _ _ _ hc
theorem callO_grw {o : Orc} (ho : CfGrw o) : ∀ (k : Nat), CfGrw (callO P K G o k)
  | 0 => fun f args m v m' h => by simp [callO] at h
  | k + 1 => fun f args m v m' h => by
    simp only [callO] at h
    split at h
    · rename_i r hr
      simp at h; subst h
      exact ho _ _ _ _ _ hr
    · exact bodyD_grw (callO_grw ho k) k f args m v m' h
theorem bodyD_ok (hmix : P.follows .mixedOrders = true) (hK : Plain P K) (hng : NoNG P) {cf : FuncId → List Value → Mem → Option (Value × Mem)} (ih : CfOK P B0 G cf) (hg : CfGrw cf) (k : Nat) : CfOK P B0 G (bodyD P K G cf k) := by
    refine ⟨fun f args m v m' h => (bodyD_grw hg k f args m v m' h).size, fun f args m v m' h => ?_, fun f args m v m' h => ?_⟩
    · simp only [bodyD] at h
      split at h <;> try (simp at h; done)
      rename_i fn hfn
      split at h <;> try (simp at h; done)
      rename_i c hc
      intro ι w args' hr hf hargs
      have hlen := hargs.length
      have ht0 : TRel ι (max args.length fn.ntmps) (initT 0 args) { tmps := args'.toArray ++ Array.replicate (fn.ntmps - args'.toArray.size) undef, defers := [] } := by
        refine ⟨by simp; omega, fun d => ?_⟩
        rw [initT_at]
        simp only [Nat.zero_le, if_true, Nat.sub_zero]
        cases hd : args[d]? with
        | some v =>
          obtain ⟨y, hy, hry⟩ := hargs.get hd
          have hlt : d < args'.length := by
            rcases Nat.lt_or_ge d args'.length with h1 | h1
            · exact h1
            · rw [List.getElem?_eq_none h1] at hy; cases hy
          have : (args'.toArray ++ Array.replicate (fn.ntmps - args'.toArray.size) undef).getD d undef = y := by
            rw [Array.getD_eq_getD_getElem?, Array.getElem?_append_left (by simpa using hlt), List.getElem?_toArray, hy]; rfl
          rw [this]; exact hry
        | none =>
          have hge : args.length ≤ d := List.getElem?_eq_none_iff.1 hd
          have : (args'.toArray ++ Array.replicate (fn.ntmps - args'.toArray.size) undef).getD d undef = undef := by
            rw [Array.getD_eq_getD_getElem?, Array.getElem?_append_right (by simp; omega), Array.getElem?_replicate]
            split <;> rfl
          rw [this]; exact VRel.undef _
      have fin : ∀ (e : Ex) (t' : Tmps) (m₁ : Mem), codeD P K G cf (drawD P K G cf (max args.length fn.ntmps)) (max args.length fn.ntmps) k c (initT 0 args) m = some (e, t', m₁) → (e = .normal ∨ e = .ret) →
          (match resD P t' m₁ fn.results.toList with | some vs => some (resV vs, m₁) | none => none) = some (v, m') →
          Calls P f args'.toArray w fun e w' => ∃ v' ι', e = .returned v' ∧ VRel ι' v v' ∧ Rel B0 G ι' m' w' ∧ Stp ι ι' m m' w w' := by
        intro e t' m₁ hcode he hres
        split at hres <;> simp at hres
        rename_i vs hvs
        obtain ⟨rfl, rfl⟩ := hres
        refine calls_of_wp hfn hc (code_ok hK ih (drawOK hmix hK ih hg) c _ _ _ _ _ hcode ι w _ _ hr ht0 hf fun a' w' ha => ?_)
        obtain ⟨ι', g1, g2, g3, g4⟩ := ha
        obtain ⟨v', q1, q2⟩ := results_ok (P := P) g2 g1 hvs
        rcases he with rfl | rfl
        · exact ⟨g4, v', q1, v', ι', rfl, q2, g2, g3⟩
        · exact ⟨g4, v', q1, v', ι', rfl, q2, g2, g3⟩
      split at h <;> try (simp at h; done)
      · rename_i t' m₁ hcode
        exact fin _ _ _ hcode (.inl rfl) h
      · rename_i t' m₁ hcode
        exact fin _ _ _ hcode (.inr rfl) h
    · simp only [bodyD] at h
      split at h <;> try (simp at h; done)
      rename_i fn hfn
      split at h <;> try (simp at h; done)
      rename_i c hc
      exact ⟨fn, hfn, by simp [hc], hng f fn hfn (by simp [hc])⟩
theorem callO_ok (hmix : P.follows .mixedOrders = true) (hK : Plain P K) (hng : NoNG P) {o : Orc} (ho : CfOK P B0 G o) (hg : CfGrw o) : ∀ (k : Nat), CfOK P B0 G (callO P K G o k)
  | 0 => ⟨fun f args m v m' h => by simp [callO] at h, fun f args m v m' h => by simp [callO] at h, fun f args m v m' h => by simp [callO] at h⟩
  | k + 1 => by
    have ih := bodyD_ok hmix hK hng (callO_ok hmix hK hng ho hg k) (callO_grw hg k) k
    refine ⟨fun f args m v m' h => ?_, fun f args m v m' h => ?_, fun f args m v m' h => ?_⟩
    all_goals
      simp only [callO] at h
      split at h
    · rename_i r hr; simp at h; subst h; exact ho.size _ _ _ _ _ hr
    · exact ih.size _ _ _ _ _ h
    · rename_i r hr; simp at h; subst h; exact ho.ok _ _ _ _ _ hr
    · exact ih.ok _ _ _ _ _ h
    · rename_i r hr; simp at h; subst h; exact ho.body _ _ _ _ _ hr
    · exact ih.body _ _ _ _ _ h
end
end Go.DI
