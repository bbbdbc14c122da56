/- The law FlowKnown, a closed one: the interpreter, shape.Check's contracts, the run. -/
import Derived.Test.YtipdeijgaabobaaGreatDoorK02
import Derived.ChangeSame
import Derived.Below
import Derived.KernelRfl
import Derived.IntWalk
import Derived.OrdersIn
import Derived.TacticsIn
import Derived.RangeFuncCalls
import Derived.RangeFuncWrites
import Derived.RangeFuncLeaves
set_option linter.all false
set_option linter.unusedVariables false
set_option linter.unusedSimpArgs false
/-
  (by symify.py, out of DiFast3: any answer type, nothing forced.) DiFast3: operations, regions, code, calls, quickly: 'callF', and that it is 'callD' (callF_eq).
-/
namespace Go.DI.Y
noncomputable section
variable {α : Type}
abbrev CF (α : Type) := FuncId → List Value → Mem → (Value → Mem → Option α) → Option α
abbrev OpK (α : Type) := Program → (TypeId → Bool) → Nat → CF α → Tmps → Mem → (Value → Mem → Option α) → Option α
abbrev DF := FuncId → List Value → Mem → Option (Value × Mem)

theorem onV_ob {r : Option Value} {m : Mem} {q : Value → Mem → Option α} : onV (match r with | some v => some (v, m) | none => none) q = ob r fun v => q v m := by cases r <;> rfl

def layF (r : Option (Blk × Made)) (m : Mem) (q : Value → Mem → Option α) : Option α :=
  Option.rec (motive := fun _ => Option α) none (fun p => Prod.rec (motive := fun _ => Option α) (fun x k =>
    (fun lay : Blk → Option α => Blk.rec (motive := fun _ => Option α) (lay .none) (fun o c => frcL c fun c => lay (.cells o c)) (fun o es c => lay (.map o es c)) (fun s p => lay (.siter s p)) x)
      fun x => frcN m.size fun z => pushMF m x fun m' => q (k.val z) m') p) r
theorem layF_eq (r : Option (Blk × Made)) (m : Mem) (q : Value → Mem → Option α) : layF r m q = onV (match r with | some (x, k) => some (k.val m.size, m.push x) | none => none) q := by
  cases r with
  | none => rfl
  | some p =>
    obtain ⟨x, k⟩ := p
    show (Blk.rec (motive := fun _ => Option α) _ _ _ _ x : Option α) = _
    simp only [frcL_eq, frcN_eq, pushMF_eq]
    cases x <;> rfl

def asNN (v : Value) (q : Value → Option α) : Option α :=
  match v with
  | .pointer (some a) => q (.pointer (some a))
  | .func (.func f) a b => q (.func (.func f) a b)
  | _ => none

section
variable (P : Program)
def storeCF (m : Mem) (b off : Nat) (vs : List Value) (q : Mem → Option α) : Option α :=
  cellsOf (getBF m b) fun o c => Bool.rec (motive := fun _ => Option α) none (spliceF c off vs fun c' => setMF m b (.cells true c') q) o
theorem storeCF_eq (m : Mem) (b off : Nat) (vs : List Value) (q : Mem → Option α) : storeCF m b off vs q = ob (storeC m b off vs) q := by
  simp only [storeCF, storeC, cellsOf_eq, getBF_eq]
  cases m.get b <;> try rfl
  rename_i o c
  cases o with
  | false => rfl
  | true =>
    simp only [spliceF_eq, setMF_eq]
    split
    · split <;> rfl
    · rfl

def storeRF (sp : Option Nat) (m : Mem) (b off : Nat) (vs : List Value) (q : Mem → Option α) : Option α := match sp with | none => storeCF m b off vs q | some _ => none
theorem storeRF_eq (sp : Option Nat) (m : Mem) (b off : Nat) (vs : List Value) (q : Mem → Option α) : storeRF sp m b off vs q = ob (storeR sp m b off vs) q := by
  cases sp with
  | none => exact storeCF_eq _ _ _ _ _
  | some _ => rfl
def appendF (m : Mem) (tS tX : TypeId) (s x : Value) (k : Value → Mem → Option α) : Option α :=
  match P.underlying tS, P.underlying tX with
  | _, some (.int _) | _, none => none
  | some (.slice e), some _ => match s, szOf P e, bytesOf P e, lenOf x with
    | .slice base sLen sCap, some size, some bytes, some n =>
      if size = 0 then none else
      match firstC m size n x with
      | some new =>
        if sLen + n ≤ sCap then
          (match base with
          | none => if n = 0 then k (.slice none (sLen + n) sCap) m else none
          | some ⟨b, off, sp⟩ => if n = 0 then k (.slice (some ⟨b, off, sp⟩) (sLen + n) sCap) m else
            storeRF sp m b (off + sLen * size) new fun m' => frcN (sLen + n) fun q => k (.slice (some ⟨b, off, sp⟩) q sCap) m')
        else if (sLen + n) * bytes ≤ 140737488355328 ∧ (sLen + n : Nat) ≤ 4611686018427387904 ∧ 0 < bytes ∧ (zerosD P e 1).isSome = true then
          match firstC m size sLen s with
          | some old =>
            if (new.all one && old.all one) = true ∧ old.length = sLen * size ∧ new.length = n * size then
            (match base with
            | some ⟨b, _, some e'⟩ => if e' = size then
                (match m.get b with
                | .cells true _ => frcL (old ++ new) fun l => frcN m.size fun z => frcN (sLen + n) fun q => pushMF m (.cells true l) fun m' => setMF m' b .none fun m' => k (.slice (some ⟨z, 0, some size⟩) q q) m'
                | _ => none)
              else none
            | _ => frcL (old ++ new) fun l => frcN m.size fun z => frcN (sLen + n) fun q => pushMF m (.cells true l) fun m' => k (.slice (some ⟨z, 0, some size⟩) q q) m') else none
          | none => none
        else none
      | none => none
    | _, _, _, _ => none
  | _, _ => none
theorem appendF_eq (m : Mem) (tS tX : TypeId) (s x : Value) (k : Value → Mem → Option α) : appendF P m tS tX s x k = onV (appendD P m tS tX s x) k := by
  unfold appendF appendD
  cases P.underlying tX with
  | none => cases P.underlying tS <;> rfl
  | some dX =>
    cases P.underlying tS with
    | none => cases dX <;> rfl
    | some dS =>
      cases dS <;> cases dX <;> try rfl
      all_goals
        simp only
        cases s <;> try rfl
        cases szOf P _ <;> try rfl
        cases bytesOf P _ <;> try rfl
        cases lenOf x <;> try rfl
        simp only
        rename_i base sLen sCap size bytes n
        by_cases h0 : size = 0
        · simp only [h0, if_true]; rfl
        · simp only [h0, if_false]
          cases firstC m size n x with
          | none => rfl
          | some new =>
            simp only
            by_cases h1 : sLen + n ≤ sCap
            · simp only [h1, if_true]
              cases base with
              | none => by_cases h2 : n = 0 <;> simp only [h2, if_true, if_false] <;> rfl
              | some ad =>
                obtain ⟨b, off, sp⟩ := ad
                simp only
                by_cases h2 : n = 0
                · simp only [h2, if_true]; rfl
                · simp only [h2, if_false, storeRF_eq]
                  cases storeR sp m b (off + sLen * size) new <;> simp only [ob_some, ob_none, onV, frcN_eq]
            · simp only [h1, if_false]
              rw [onV_ite]
              refine ite_same fun h2 => ?_
              cases firstC m size sLen _ with
              | none => rfl
              | some old =>
                  simp only
                  by_cases h3 : (new.all one && old.all one) = true ∧ old.length = sLen * size ∧ new.length = n * size
                  · rw [if_pos h3, if_pos h3]
                    cases base with
                    | none => simp only [frcL_eq, pushMF_eq, frcN_eq, onV]
                    | some ad =>
                      obtain ⟨b, off, sp⟩ := ad
                      cases sp with
                      | none => simp only [frcL_eq, pushMF_eq, frcN_eq, onV]
                      | some e' =>
                        simp only
                        by_cases h4 : e' = size
                        · simp only [h4, if_true]
                          cases m.get b with
                          | none => rfl
                          | map => rfl
                          | siter => rfl
                          | cells o c => cases o with
                            | false => rfl
                            | true => simp only [frcL_eq, pushMF_eq, setMF_eq, frcN_eq, onV]
                        · simp only [h4, if_false]; rfl
                  · rw [if_neg h3, if_neg h3]; rfl
end

def callOF (c : Call) : OpK α :=
  Call.rec (motive := fun _ => OpK α) (fun callee args tys => Callee.rec (motive := fun _ => OpK α)
    (fun f P K G cf t m q => evF f G t fun v => asFunc v fun g fs cs => evsF args.toList G t fun vs => appF vs cs fun r => appF fs r fun l => cf g l m q)
    (fun r s P K G cf t m q => onV (opD P K G (fun _ _ _ => none) t m (.call ⟨.invoke r s, args, tys⟩)) q)
    (fun b P K G cf t m q => match b with
      | .len => (match args.toList, tys.toList with
        | [x], [ty] => evF x G t fun v => frcV (lenD P m ty v) fun v => q v m
        | _, _ => none)
      | .append => (match args.toList, tys.toList with
        | [s, x], [tS, tX] => evF s G t fun s => evF x G t fun x => appendF P m tS tX s x q
        | _, _ => none)
      | b => onV (opD P K G (fun _ _ _ => none) t m (.call ⟨.builtin b, args, tys⟩)) q) callee) c
def opF (o : Op) : OpK α :=
  Op.rec (motive := fun _ => OpK α)
    (fun x P K G cf t mm q => evF x G t fun v => q v mm)
    (fun x P K G cf t mm q => evF x G t fun v => q v mm)
    (fun c a b P K G cf t mm q => evF c G t fun v => asBool v (evF a G t fun v => q v mm) (evF b G t fun v => q v mm))
    (fun e P K G cf t mm q => layF (allocD P G t (.alloc e)) mm q)
    (fun e x P K G cf t mm q => layF (allocD P G t (.box e x)) mm q)
    (fun ty ps P K G cf t mm q => onV (opD P K G (fun _ _ _ => none) t mm (.build ty ps)) q)
    (fun ty n ps P K G cf t mm q => onV (opD P K G (fun _ _ _ => none) t mm (.buildSlice ty n ps)) q)
    (fun mt m k v P K G cf t mm q => evF m G t fun x => evF k G t fun k => evF v G t fun v => mapUpdateF P K mm mt x k v fun m => q undef m)
    (fun ty a P K G cf t mm q => evF a G t fun v => loadF P mm ty v fun v => shF P ty v fun v => q v mm)
    (fun ty a x P K G cf t mm q => evF a G t fun a => evF x G t fun v => storeF P mm ty v a fun m => q undef m)
    (fun g P K G cf t mm q => onV (opD P K G (fun _ _ _ => none) t mm (.ready g)) q)
    (fun g P K G cf t mm q => onV (opD P K G (fun _ _ _ => none) t mm (.waits g)) q)
    (fun x P K G cf t mm q => evF x G t fun v => asNN v (fun v => q v mm))
    (fun op ty x y yt P K G cf t mm q => evF x G t fun x => evF y G t fun y => binF P K op ty x y fun v => q v mm)
    (fun op ty x P K G cf t mm q => evF x G t fun x => frcV (unD op x) fun v => q v mm)
    (fun a b x P K G cf t mm q => onV (opD P K G (fun _ _ _ => none) t mm (.convert a b x)) q)
    (fun d x P K G cf t mm q => onV (opD P K G (fun _ _ _ => none) t mm (.sliceToArrayPointer d x)) q)
    (fun ty x P K G cf t mm q => onV (opD P K G (fun _ _ _ => none) t mm (.makeInterface ty x)) q)
    (fun fn a b P K G cf t mm q => onV (opD P K G (fun _ _ _ => none) t mm (.makeFunc fn a b)) q)
    (fun ty r P K G cf t mm q => onV (opD P K G (fun _ _ _ => none) t mm (.makeMap ty r)) q)
    (fun ty s P K G cf t mm q => onV (opD P K G (fun _ _ _ => none) t mm (.makeChan ty s)) q)
    (fun ty l c P K G cf t mm q => onV (opD P K G (fun _ _ _ => none) t mm (.makeSlice ty l c)) q)
    (fun ty x l h mx P K G cf t mm q => onV (opD P K G (fun _ _ _ => none) t mm (.slice ty x l h mx)) q)
    (fun s x f P K G cf t mm q => evF x G t fun v => fieldAddrF P s f v fun v => q v mm)
    (fun s x f P K G cf t mm q => evF x G t fun v => fieldF P s f v fun v => q v mm)
    (fun ty x i P K G cf t mm q => evF x G t fun x => evF i G t fun i => indexAddrF P ty x i fun v => q v mm)
    (fun ty x i P K G cf t mm q => onV (opD P K G (fun _ _ _ => none) t mm (.index ty x i)) q)
    (fun ty x k ok P K G cf t mm q => evF x G t fun x => evF k G t fun k => lookupF P K mm ty x k ok fun v => q v mm)
    (fun mt m k v P K G cf t mm q => evF m G t fun x => evF k G t fun k => evF v G t fun v => mapUpdateF P K mm mt x k v fun m => q undef m)
    (fun mt m k P K G cf t mm q => onV (opD P K G (fun _ _ _ => none) t mm (.mapEntry mt m k)) q)
    (fun mt m s v P K G cf t mm q => onV (opD P K G (fun _ _ _ => none) t mm (.entryStore mt m s v)) q)
    (fun ty x P K G cf t mm q => onV (opD P K G (fun _ _ _ => none) t mm (.range ty x)) q)
    (fun i s P K G cf t mm q => onV (opD P K G (fun _ _ _ => none) t mm (.next i s)) q)
    (fun i P K G cf t mm q => onV (opD P K G (fun _ _ _ => none) t mm (.entry i)) q)
    (fun x a b ok P K G cf t mm q => onV (opD P K G (fun _ _ _ => none) t mm (.typeAssert x a b ok)) q)
    (fun x i P K G cf t mm q => evF x G t fun v => asTup v fun vs => nthF vs.toList i fun v => q v mm)
    (fun c P K G cf t mm q => callOF c P K G cf t mm q)
    (fun c P K G cf t mm q => onV (opD P K G (fun _ _ _ => none) t mm (.go c)) q)
    (fun c P K G cf t mm q => onV (opD P K G (fun _ _ _ => none) t mm (.defer c)) q)
    (fun x P K G cf t mm q => onV (opD P K G (fun _ _ _ => none) t mm (.panic x)) q)
    (fun c x P K G cf t mm q => onV (opD P K G (fun _ _ _ => none) t mm (.send c x)) q)
    (fun ct c ok P K G cf t mm q => onV (opD P K G (fun _ _ _ => none) t mm (.recv ct c ok)) q)
    (fun cs b P K G cf t mm q => onV (opD P K G (fun _ _ _ => none) t mm (.select cs b)) q)
    o

section
variable {P : Program} {K : TypeId → Bool} {G : Nat} {cf : CF α} {df : DF} {t : Tmps} {m : Mem} {q : Value → Mem → Option α}
theorem quiet_on {o : Op} (h : klass o = 0) : onV (opD P K G df t m o) q = ob (quietD P K G t m o) fun v => q v m := by
  simp only [opD, h]; exact onV_ob
theorem alloc_on {o : Op} (h : klass o = 1) : onV (opD P K G df t m o) q = layF (allocD P G t o) m q := by
  simp only [opD, h, layF_eq]
  cases allocD P G t o <;> rfl
theorem heavy_on {o : Op} (h : klass o = 2) : onV (opD P K G df t m o) q = onV (heavyD P K G df t m o) q := by
  simp only [opD, h]

theorem callOF_eq (hcf : ∀ f a m (q : Value → Mem → Option α), cf f a m q = onV (df f a m) q) (c : Call) : callOF c P K G cf t m q = onV (opD P K G df t m (.call c)) q := by
  obtain ⟨callee, args, tys⟩ := c
  cases callee with
  | invoke r s =>
    rfl
  | value f =>
    rw [heavy_on rfl]
    show (evF f G t fun v => asFunc v fun g fs cs => evsF args.toList G t fun vs => appF vs cs fun r => appF fs r fun l => cf g l m q) = _
    simp only [evF_eq, evsF_eq, appF_eq, heavyD]
    cases ev G t f with
    | none => rfl
    | some v =>
      simp only [ob_some]
      cases v <;> try rfl
      rename_i fn a b
      cases fn <;> try rfl
      show ob (evs G t args.toList) _ = _
      simp only [hcf]
      cases evs G t args.toList <;> rfl
  | builtin b =>
    cases b <;> try rfl
    · rw [heavy_on rfl]
      show (match args.toList, tys.toList with | [s, x], [tS, tX] => evF s G t fun s => evF x G t fun x => appendF P m tS tX s x q | _, _ => none) = _
      simp only [heavyD]
      generalize args.toList = A
      generalize tys.toList = T
      rcases A with _ | ⟨s, _ | ⟨x, _ | ⟨y, A⟩⟩⟩ <;> rcases T with _ | ⟨tS, _ | ⟨tX, _ | ⟨c, T⟩⟩⟩ <;> try rfl
      simp only [evF_eq]
      cases ev G t s with
      | none => rfl
      | some s =>
        simp only [ob_some]
        cases ev G t x with
        | none => rfl
        | some x => exact appendF_eq _ _ _ _ _ _ _
    · rw [quiet_on rfl]
      show (match args.toList, tys.toList with | [x], [ty] => evF x G t fun v => frcV (lenD P m ty v) fun v => q v m | _, _ => none) = _
      simp only [quietD]
      generalize args.toList = A
      generalize tys.toList = T
      rcases A with _ | ⟨x, _ | ⟨y, A⟩⟩ <;> rcases T with _ | ⟨ty, _ | ⟨c, T⟩⟩ <;> try rfl
      simp only [evF_eq, frcV_eq]
      cases ev G t x <;> rfl

theorem opF_eq (hcf : ∀ f a m (q : Value → Mem → Option α), cf f a m q = onV (df f a m) q) (o : Op) : opF o P K G cf t m q = onV (opD P K G df t m o) q := by
  cases o <;> try rfl
  case move x => rw [quiet_on rfl]; exact evF_eq _ _ _ _
  case assign x => rw [quiet_on rfl]; exact evF_eq _ _ _ _
  case pick c a b =>
    rw [quiet_on rfl]
    refine (evF_eq _ _ _ _).trans ?_
    simp only [quietD]
    cases ev G t c with
    | none => rfl
    | some v =>
      simp only [ob_some]
      cases v <;> try rfl
      rename_i b'
      cases b'
      · exact evF_eq _ _ _ _
      · exact evF_eq _ _ _ _
  case alloc e => rw [alloc_on rfl]; rfl
  case box e x => rw [alloc_on rfl]; rfl
  case load ty a =>
    rw [quiet_on rfl]
    refine (evF_eq _ _ _ _).trans ?_
    simp only [quietD]
    cases ev G t a with
    | none => rfl
    | some v =>
      simp only [ob_some, loadF_eq, shF_eq]
      cases loadD P m ty v with
      | none => rfl
      | some u => rfl
  case store ty a x =>
    rw [heavy_on rfl]
    refine (evF_eq _ _ _ _).trans ?_
    simp only [heavyD]
    cases ev G t a with
    | none => rfl
    | some a =>
      simp only [ob_some]
      refine (evF_eq _ _ _ _).trans ?_
      cases ev G t x with
      | none => rfl
      | some x =>
        simp only [ob_some]
        refine (storeF_eq _ _ _ _ _ _).trans ?_
        cases storeD P m ty x a <;> rfl
  case nilCheck x =>
    rw [quiet_on rfl]
    refine (evF_eq _ _ _ _).trans ?_
    simp only [quietD]
    cases ev G t x with
    | none => rfl
    | some v =>
      simp only [ob_some]
      cases v <;> try rfl
      · rename_i a; cases a <;> rfl
      · rename_i fn _ _; cases fn <;> rfl
  case binOp op ty x y yt =>
    rw [quiet_on rfl]
    refine (evF_eq _ _ _ _).trans ?_
    simp only [quietD]
    cases ev G t x with
    | none => rfl
    | some x =>
      simp only [ob_some]
      refine (evF_eq _ _ _ _).trans ?_
      cases ev G t y with
      | none => rfl
      | some y => exact binF_eq _ _ _ _ _ _ _
  case unOp op ty x =>
    rw [quiet_on rfl]
    refine (evF_eq _ _ _ _).trans ?_
    simp only [quietD]
    cases ev G t x with
    | none => rfl
    | some x =>
      simp only [ob_some]
      exact frcV_eq _ _
  case fieldAddr s x f =>
    rw [quiet_on rfl]
    refine (evF_eq _ _ _ _).trans ?_
    simp only [quietD]
    cases ev G t x with
    | none => rfl
    | some x =>
      simp only [ob_some]
      exact fieldAddrF_eq _ _ _ _ _
  case field s x f =>
    rw [quiet_on rfl]
    refine (evF_eq _ _ _ _).trans ?_
    simp only [quietD]
    cases ev G t x with
    | none => rfl
    | some x =>
      simp only [ob_some]
      exact fieldF_eq _ _ _ _ _
  case indexAddr ty x i =>
    rw [quiet_on rfl]
    refine (evF_eq _ _ _ _).trans ?_
    simp only [quietD]
    cases ev G t x with
    | none => rfl
    | some x =>
      simp only [ob_some]
      refine (evF_eq _ _ _ _).trans ?_
      cases ev G t i with
      | none => rfl
      | some i => exact indexAddrF_eq _ _ _ _ _
  case extract x i =>
    rw [quiet_on rfl]
    refine (evF_eq _ _ _ _).trans ?_
    simp only [quietD]
    cases ev G t x with
    | none => rfl
    | some v =>
      simp only [ob_some]
      cases v <;> try rfl
      exact nthF_eq _ _ _
  case lookup ty x k ok =>
    rw [quiet_on rfl]
    refine (evF_eq _ _ _ _).trans ?_
    simp only [quietD]
    cases ev G t x with
    | none => rfl
    | some x =>
      simp only [ob_some]
      refine (evF_eq _ _ _ _).trans ?_
      cases ev G t k with
      | none => rfl
      | some k => exact lookupF_eq _ _ _ _ _ _ _ _
  case mapUpdate ty x k y =>
    rw [heavy_on rfl]
    refine (evF_eq _ _ _ _).trans ?_
    simp only [heavyD]
    cases ev G t x with
    | none => rfl
    | some x =>
      simp only [ob_some]
      refine (evF_eq _ _ _ _).trans ?_
      cases ev G t k with
      | none => rfl
      | some k =>
        simp only [ob_some]
        refine (evF_eq _ _ _ _).trans ?_
        cases ev G t y with
        | none => rfl
        | some y =>
          simp only [ob_some]
          refine (mapUpdateF_eq _ _ _ _ _ _ _ _).trans ?_
          cases mapUpdateD P K m ty x k y <;> rfl
  case insert ty x k y =>
    rw [heavy_on rfl]
    refine (evF_eq _ _ _ _).trans ?_
    simp only [heavyD]
    cases ev G t x with
    | none => rfl
    | some x =>
      simp only [ob_some]
      refine (evF_eq _ _ _ _).trans ?_
      cases ev G t k with
      | none => rfl
      | some k =>
        simp only [ob_some]
        refine (evF_eq _ _ _ _).trans ?_
        cases ev G t y with
        | none => rfl
        | some y =>
          simp only [ob_some]
          refine (mapUpdateF_eq _ _ _ _ _ _ _ _).trans ?_
          cases mapUpdateD P K m ty x k y <;> rfl
  case call c => exact callOF_eq hcf c
end

/-! ### regions -/
def dstF (n : Nat) (d : Option Tmp) : Bool := Option.rec (motive := fun _ => Bool) true (fun d => Nat.blt d n) d
theorem dstF_eq (n : Nat) (d : Option Tmp) : dstF n d = dstOk n d := by
  cases d with
  | none => rfl
  | some d =>
    show Nat.blt d n = decide (d < n)
    rw [Bool.eq_iff_iff]; simp [Nat.blt_eq]
def putOF (t : Tmps) (d : Option Tmp) (v : Value) (q : Tmps → Option α) : Option α := Option.rec (motive := fun _ => Option α) (q t) (fun d => setTF t d v q) d
theorem putOF_eq (t : Tmps) (d : Option Tmp) (v : Value) (q : Tmps → Option α) : putOF t d v q = q (putD t d v) := by
  cases d with
  | none => rfl
  | some d => exact setTF_eq _ _ _ _
def nthO (l : List Oper) : Nat → Option Oper :=
  List.rec (motive := fun _ => Nat → Option Oper) (fun _ => none) (fun a _ ih i => Nat.rec (motive := fun _ => Option Oper) (some a) (fun i' _ => ih i') i) l
theorem nthO_eq : ∀ (l : List Oper) (i : Nat), nthO l i = l[i]?
  | [], i => by simp; rfl
  | a :: l, 0 => rfl
  | a :: l, i + 1 => by
    have := nthO_eq l i
    rw [List.getElem?_cons_succ]
    exact this
def boolF (t : Tmps) (d : Nat) (w : Bool) : Bool :=
  (fun v => cond (isB v) (Bool.rec (motive := fun _ => Bool) (not w) w (theB v)) false) (Option.rec (motive := fun _ => Value) undef (fun v => v) (getF t d d))
theorem boolF_eq (t : Tmps) (d : Nat) (w : Bool) : boolF t d w = ((match t.at d with | .bool b => some b | _ => none) == some w) := by
  have e : Option.rec (motive := fun _ => Value) undef (fun v => v) (getF t d d) = t.at d := by
    unfold Tmps.at
    rw [getF_eq]
    cases Tr.get t d d <;> rfl
  unfold boolF
  rw [e]
  cases t.at d <;> try rfl
  rename_i b
  cases b <;> cases w <;> rfl
def wantF (o : Oper) (ops : List Oper) (t : Tmps) : Bool :=
  Option.rec (motive := fun _ => Bool) true (fun g => Prod.rec (motive := fun _ => Bool) (fun j w => Option.rec (motive := fun _ => Bool) false (fun o' => Option.rec (motive := fun _ => Bool) false (fun d => boolF t d w) o'.dst) (nthO ops j)) g) o.guard
theorem wantF_eq (o : Oper) (ops : List Oper) (t : Tmps) : wantF o ops t = Region.wanted o (yieldD ops t) := by
  unfold wantF Region.wanted
  cases h : o.guard with
  | none => rfl
  | some g =>
    obtain ⟨j, w⟩ := g
    simp only [nthO_eq, yieldD]
    cases ops[j]? with
    | none => rfl
    | some o' =>
      simp only
      cases o'.dst with
      | none => rfl
      | some d => exact boolF_eq t d w

abbrev OpsK (α : Type) := Program → (TypeId → Bool) → Nat → CF α → Nat → List Oper → Tmps → Mem → (Tmps → Mem → Option α) → Option α
def opsF (l : List Oper) : OpsK α :=
  List.rec (motive := fun _ => OpsK α) (fun _ _ _ _ _ _ t m q => q t m)
    (fun o _ ih P K G cf n ops t m q => Bool.rec (motive := fun _ => Option α) none (Bool.rec (motive := fun _ => Option α) (putOF t o.dst undef fun t' => ih P K G cf n ops t' m q)
      (opF o.op P K G cf t m fun v m' => putOF t o.dst v fun t' => ih P K G cf n ops t' m' q) (wantF o ops t)) (dstF n o.dst)) l
def onT {β : Type} (r : Option (Tmps × Mem)) (q : Tmps → Mem → Option β) : Option β := match r with | some (t, m) => q t m | none => none
theorem opsF_eq (P : Program) (K : TypeId → Bool) (G : Nat) (cf : CF α) (df : DF) (hcf : ∀ f a m (q : Value → Mem → Option α), cf f a m q = onV (df f a m) q) (n : Nat) (ops : List Oper) (q : Tmps → Mem → Option α) : ∀ (l : List Oper) (t : Tmps) (m : Mem),
    opsF l P K G cf n ops t m q = onT (opsD P K G df n ops l t m) q
  | [], t, m => rfl
  | o :: l, t, m => by
    have ih := opsF_eq P K G cf df hcf n ops q l
    show Bool.rec (motive := fun _ => Option α) none (Bool.rec (motive := fun _ => Option α) (putOF t o.dst undef fun t' => opsF l P K G cf n ops t' m q)
      (opF o.op P K G cf t m fun v m' => putOF t o.dst v fun t' => opsF l P K G cf n ops t' m' q) (wantF o ops t)) (dstF n o.dst) = _
    simp only [putOF_eq, ih, opF_eq hcf, wantF_eq, dstF_eq, opsD]
    cases dstOk n o.dst with
    | false => rfl
    | true =>
      cases Region.wanted o (yieldD ops t) with
      | false => rfl
      | true =>
        simp only [if_true]
        cases opD P K G df t m o.op with
        | none => rfl
        | some r => rfl

abbrev RecK (α : Type) := Program → (TypeId → Bool) → Nat → CF α → Nat → List Oper → Tmps → Mem → (List Rec → Tmps → Mem → Option α) → Option α
def recF (l : List Oper) : RecK α :=
  List.rec (motive := fun _ => RecK α) (fun _ _ _ _ _ _ t m q => q [] t m)
    (fun o _ ih P K G cf n ops t m q => Bool.rec (motive := fun _ => Option α) none (Bool.rec (motive := fun _ => Option α) (putOF t o.dst undef fun t' => ih P K G cf n ops t' m fun rs t' m'' => q (⟨false, undef, t, m⟩ :: rs) t' m'')
      (opF o.op P K G cf t m fun v m' => putOF t o.dst v fun t' => ih P K G cf n ops t' m' fun rs t' m'' => q (⟨true, v, t, m⟩ :: rs) t' m'') (wantF o ops t)) (dstF n o.dst)) l
def onR (r : Option (List Rec × Tmps × Mem)) (q : List Rec → Tmps → Mem → Option α) : Option α := match r with | some (rs, t, m) => q rs t m | none => none
theorem recF_eq (P : Program) (K : TypeId → Bool) (G : Nat) (cf : CF α) (df : DF) (hcf : ∀ f a m (q : Value → Mem → Option α), cf f a m q = onV (df f a m) q) (n : Nat) (ops : List Oper) : ∀ (l : List Oper) (t : Tmps) (m : Mem) (q : List Rec → Tmps → Mem → Option α),
    recF l P K G cf n ops t m q = onR (recD P K G df n ops l t m) q
  | [], t, m, q => rfl
  | o :: l, t, m, q => by
    have ih := recF_eq P K G cf df hcf n ops l
    show Bool.rec (motive := fun _ => Option α) none (Bool.rec (motive := fun _ => Option α) (putOF t o.dst undef fun t' => recF l P K G cf n ops t' m fun rs t' m'' => q (⟨false, undef, t, m⟩ :: rs) t' m'')
      (opF o.op P K G cf t m fun v m' => putOF t o.dst v fun t' => recF l P K G cf n ops t' m' fun rs t' m'' => q (⟨true, v, t, m⟩ :: rs) t' m'') (wantF o ops t)) (dstF n o.dst) = _
    simp only [putOF_eq, ih, opF_eq hcf, wantF_eq, dstF_eq, recD]
    cases dstOk n o.dst with
    | false => rfl
    | true =>
      cases Region.wanted o (yieldD ops t) with
      | false =>
        simp only [if_true]
        cases recD P K G df n ops l (putD t o.dst undef) m <;> rfl
      | true =>
        simp only [if_true]
        cases opD P K G df t m o.op with
        | none => rfl
        | some r =>
          obtain ⟨v, m'⟩ := r
          simp only [onV]
          cases recD P K G df n ops l (putD t o.dst v) m' <;> rfl

def vqK (v' v : Value) (q : Option α) : Option α :=
  (fun g => asInt v' (fun k n => asInt v (fun k' n' => Bool.rec (motive := fun _ => Option α) g (Bool.rec (motive := fun _ => Option α) none q (eqF n n')) (kEq k k')) g) g) (Bool.rec (motive := fun _ => Option α) none q (veq 8 v' v))
theorem cond_rec (b : Bool) (q : Option α) : Bool.rec (motive := fun _ => Option α) none q b = cond b q none := by cases b <;> rfl
theorem vqK_eq (v' v : Value) (q : Option α) : vqK v' v q = cond (veq 8 v' v) q none := by
  unfold vqK
  refine Eq.trans ?_ (cond_rec (veq 8 v' v) q)
  cases v' <;> try rfl
  cases v <;> try rfl
  rename_i k a k' b
  rw [cond_rec (veq 8 (.int k a) (.int k' b)) q]
  show Bool.rec (motive := fun _ => Option α) _ (Bool.rec (motive := fun _ => Option α) none q (eqF a b)) (kEq k k') = _
  rw [kEq_eq, eqF_eq]
  show _ = cond (decide (k = k') && decide (a = b)) q none
  have hab : (a == b) = decide (a = b) := by rw [Bool.eq_iff_iff]; simp
  rw [hab]
  by_cases h : k = k'
  · subst h
    rw [decide_eq_true rfl, Bool.true_and]
    exact cond_rec _ _
  · rw [decide_eq_false h, Bool.false_and]
    have hv : veq 8 (.int k a) (.int k' b) = false := by show (decide (k = k') && decide (a = b)) = false; rw [decide_eq_false h]; rfl
    simp only [hv]
    try rfl
def chkF (P : Program) (K : TypeId → Bool) (G : Nat) (ops : List Oper) (rs : List Rec) (m' : Mem) (x : Nat × Nat) (q : Option α) : Option α :=
  match rs[x.1]?, ops[x.1]? with
  | some r, some o => Bool.rec (motive := fun _ => Option α) q (match o.op with
      | .load ty a => evF a G r.t fun v => loadF P (mAt rs m' x.2) ty v fun v => shF P ty v fun v' => vqK v' r.v q
      | .convert a b y => evF y G r.t fun v => ob (convQ P (mAt rs m' x.2) a b v) fun v' => vqK v' r.v q
      | _ => Bool.rec (motive := fun _ => Option α) none q (chk1 P K G ops rs m' x)) r.want
  | _, _ => none
theorem chkF_eq (P : Program) (K : TypeId → Bool) (G : Nat) (ops : List Oper) (rs : List Rec) (m' : Mem) (x : Nat × Nat) (q : Option α) : chkF P K G ops rs m' x q = cond (chk1 P K G ops rs m' x) q none := by
  unfold chkF
  have hc : chk1 P K G ops rs m' x = (match rs[x.1]?, ops[x.1]? with
    | some r, some o => !r.want || (match quietD P K G r.t (mAt rs m' x.2) o.op with | some v => veq 8 v r.v | none => false)
    | _, _ => false) := rfl
  cases hr : rs[x.1]? with
  | none => rw [hr] at hc; rw [hc]; rfl
  | some r =>
    cases ho : ops[x.1]? with
    | none => rw [hr, ho] at hc; rw [hc]; rfl
    | some o =>
      rw [hr, ho] at hc
      simp only at hc ⊢
      cases hw : r.want with
      | false => rw [hc, hw]; rfl
      | true =>
        simp only
        have hg : Bool.rec (motive := fun _ => Option α) none q (chk1 P K G ops rs m' x) = cond (chk1 P K G ops rs m' x) q none := cond_rec _ _
        cases hop : o.op <;> try exact hg
        case convert a b y =>
          rw [hc, hw, hop]
          simp only [evF_eq, vqK_eq, quietD, Bool.not_true, Bool.false_or]
          cases ev G r.t y with
          | none => rfl
          | some v =>
            simp only [ob_some]
            cases convQ P (mAt rs m' x.2) a b v with
            | none => rfl
            | some v' => rfl
        rename_i ty a
        rw [hc, hw, hop]
        simp only [evF_eq, loadF_eq, shF_eq, vqK_eq, quietD, Bool.not_true, Bool.false_or]
        cases ev G r.t a with
        | none => rfl
        | some v =>
          simp only [ob_some]
          cases loadD P (mAt rs m' x.2) ty v with
          | none => rfl
          | some u =>
            simp only [ob_some, shD]
            cases shp P ty u <;> rfl
def chksF (P : Program) (K : TypeId → Bool) (G : Nat) (ops : List Oper) (rs : List Rec) (m' : Mem) (l : List (Nat × Nat)) (q : Option α) : Option α :=
  List.rec (motive := fun _ => Option α) q (fun x _ ih => chkF P K G ops rs m' x ih) l
theorem chksF_eq (P : Program) (K : TypeId → Bool) (G : Nat) (ops : List Oper) (rs : List Rec) (m' : Mem) : ∀ (l : List (Nat × Nat)) (q : Option α), chksF P K G ops rs m' l q = cond (l.all (chk1 P K G ops rs m')) q none
  | [], q => rfl
  | x :: l, q => by
    have ih := chksF_eq P K G ops rs m' l q
    show chkF P K G ops rs m' x (chksF P K G ops rs m' l q) = _
    rw [chkF_eq, ih, List.all_cons]
    cases chk1 P K G ops rs m' x <;> rfl
def drawF (P : Program) (K : TypeId → Bool) (G : Nat) (cf : CF α) (n : Nat) (ops : List Oper) (t : Tmps) (m : Mem) (q : Tmps → Mem → Option α) : Option α :=
  Bool.rec (motive := fun _ => Option α) none (recF ops P K G cf n ops t m fun rs t' m' => chksF P K G ops rs m' (need1F ops) (Bool.rec (motive := fun _ => Option α) none (q t' m')
    ((need2F ops).all (chk2 rs m')))) (statT ops)
theorem drawF_eq (P : Program) (K : TypeId → Bool) (G : Nat) (cf : CF α) (df : DF) (hcf : ∀ f a m (q : Value → Mem → Option α), cf f a m q = onV (df f a m) q) (n : Nat) (ops : List Oper) (t : Tmps) (m : Mem) (q : Tmps → Mem → Option α) : drawF P K G cf n ops t m q = onT (drawD P K G df n ops t m) q := by
  unfold drawF drawD
  simp only [recF_eq P K G cf df hcf, statT_eq, chksF_eq, all_congr_mem (need1F_mem ops), all_congr_mem (need2F_mem ops)]
  cases statB ops (tabD ops []) with
  | false => rfl
  | true =>
    simp only [if_true]
    cases recD P K G df n ops ops t m with
    | none => rfl
    | some r =>
      obtain ⟨rs, t', m'⟩ := r
      simp only [onR]
      cases (need1 ops (tabD ops [])).all (chk1 P K G ops rs m') with
      | false => rfl
      | true => cases (need2 ops (tabD ops [])).all (chk2 rs m') <;> rfl

/-! ### code -/
abbrev ExK (α : Type) := Ex → Tmps → Mem → Option α
def onE (r : Option (Ex × Tmps × Mem)) (q : ExK α) : Option α := match r with | some (e, t, m) => q e t m | none => none
def loopF (body : Tmps → Mem → ExK α → Option α) (k : Nat) : Tmps → Mem → ExK α → Option α :=
  Nat.rec (motive := fun _ => Tmps → Mem → ExK α → Option α) (fun _ _ _ => none) (fun _ ih t m q => body t m fun e t' m' => Ex.rec (motive := fun _ => Option α) (ih t' m' q) (fun id => q (.exit id) t' m') (q .ret t' m') e) k

/-- What a loop does: its body, its text, the fuel. -/
abbrev LK (α : Type) := (Tmps → Mem → ExK α → Option α) → Code → Nat → Tmps → Mem → ExK α → Option α
abbrev CodeK (α : Type) := Program → (TypeId → Bool) → Nat → CF α → LK α → Nat → Nat → Tmps → Mem → ExK α → Option α
def codeF (c : Code) : CodeK α :=
  Code.rec (motive := fun _ => CodeK α)
    (fun _ _ _ _ _ _ _ t m q => q .normal t m)
    (fun _ ops draw P K G cf _ n _ t m q => Bool.rec (motive := fun _ => Option α) (opsF ops.toList P K G cf n ops.toList t m fun t m => q .normal t m) (drawF P K G cf n ops.toList t m fun t m => q .normal t m) draw)
    (fun _ _ ia ib P K G cf L n k t m q => ia P K G cf L n k t m fun e t m => Ex.rec (motive := fun _ => Option α) (ib P K G cf L n k t m q) (fun id => q (.exit id) t m) (q .ret t m) e)
    (fun c _ _ ix iy P K G cf L n k t m q => evF c G t fun v => asBool v (ix P K G cf L n k t m q) (iy P K G cf L n k t m q))
    (fun id _ ib P K G cf L n k t m q => ib P K G cf L n k t m fun e t m => Ex.rec (motive := fun _ => Option α) (q .normal t m) (fun id' => Bool.rec (motive := fun _ => Option α) (q (.exit id') t m) (q .normal t m) (Nat.beq id' id)) (q .ret t m) e)
    (fun c ib P K G cf L n k t m q => L (fun t m q => ib P K G cf L n k t m q) c k t m q)
    (fun _ _ _ _ _ _ _ _ _ _ _ _ _ _ _ _ => none)
    (fun id _ _ _ _ _ _ _ t m q => q (.exit id) t m)
    (fun _ ic P K G cf L n k t m q => ic P K G cf L n k t m q)
    (fun _ _ _ _ _ _ _ _ t m q => q .normal t m)
    (fun _ _ _ _ _ _ _ _ _ _ _ => none)
    (fun _ _ _ _ _ _ _ t m q => q .ret t m)
    (fun _ _ _ _ _ _ _ _ _ _ _ => none)
    c
theorem codeF_eq (P : Program) (K : TypeId → Bool) (G : Nat) (cf : CF α) (df : DF) (hcf : ∀ f a m (q : Value → Mem → Option α), cf f a m q = onV (df f a m) q) (L : LK α) (n k : Nat) (hL : ∀ (body : Tmps → Mem → ExK α → Option α) (c : Code) (t : Tmps) (m : Mem) (q : ExK α), (∀ t m q, body t m q = onE (codeD P K G df (drawD P K G df n) n k c t m) q) → L body c k t m q = onE (loopD (codeD P K G df (drawD P K G df n) n k c) k t m) q) : ∀ (c : Code) (t : Tmps) (m : Mem) (q : ExK α), codeF c P K G cf L n k t m q = onE (codeD P K G df (drawD P K G df n) n k c t m) q := by
  intro c
  induction c with
  | skip => intros; rfl
  | label l => intros; rfl
  | region id ops draw =>
    intro t m q
    show Bool.rec (motive := fun _ => Option α) (opsF ops.toList P K G cf n ops.toList t m fun t m => q .normal t m) (drawF P K G cf n ops.toList t m fun t m => q .normal t m) draw = _
    rw [opsF_eq P K G cf df hcf, drawF_eq P K G cf df hcf]
    simp only [codeD]
    cases draw with
    | false =>
      simp only [cond_false]
      cases opsD P K G df n ops.toList ops.toList t m <;> rfl
    | true =>
      simp only [cond_true]
      cases drawD P K G df n ops.toList t m <;> rfl
  | seq a b iha ihb =>
    intro t m q
    refine (iha t m _).trans ?_
    simp only [codeD]
    cases codeD P K G df (drawD P K G df n) n k a t m with
    | none => rfl
    | some r =>
      obtain ⟨e, t', m'⟩ := r
      cases e with
      | normal => exact ihb t' m' q
      | exit id => rfl
      | ret => rfl
  | cond c x y ihx ihy =>
    intro t m q
    refine (evF_eq _ _ _ _).trans ?_
    simp only [codeD]
    cases ev G t c with
    | none => rfl
    | some v =>
      simp only [ob_some]
      cases v <;> try rfl
      rename_i b
      cases b with
      | true => exact ihx t m q
      | false => exact ihy t m q
  | block id c ih =>
    intro t m q
    refine (ih t m _).trans ?_
    simp only [codeD]
    cases codeD P K G df (drawD P K G df n) n k c t m with
    | none => rfl
    | some r =>
      obtain ⟨e, t', m'⟩ := r
      cases e with
      | normal => rfl
      | ret => rfl
      | exit id' =>
        show Bool.rec (motive := fun _ => Option α) (q (.exit id') t' m') (q .normal t' m') (Nat.beq id' id) = _
        rw [beqN]
        simp only
        by_cases h : id' = id
        · rw [decide_eq_true h, if_pos h]; rfl
        · rw [decide_eq_false h, if_neg h]; rfl
  | loop c ih =>
    intro t m q
    exact hL _ c t m q fun t m q => ih t m q
  | exit id => intros; rfl
  | ret => intros; rfl
  | rangeFunc => intros; rfl
  | scope c ih => intro t m q; exact ih t m q
  | goto => intros; rfl
  | refuse => intros; rfl

def resF (l : List ResultVar) : Program → Tmps → Mem → (List Value → Option α) → Option α :=
  List.rec (motive := fun _ => Program → Tmps → Mem → (List Value → Option α) → Option α) (fun _ _ _ q => q [])
    (fun r _ ih P t m q => match r with
      | .tmp d => getTF t d fun v => ih P t m fun vs => q (v :: vs)
      | .cell a ty => getTF t a fun a => loadF P m ty a fun v => ih P t m fun vs => q (v :: vs)) l
theorem resF_eq (P : Program) (t : Tmps) (m : Mem) : ∀ (l : List ResultVar) (q : List Value → Option α), resF l P t m q = ob (resD P t m l) q
  | [], q => rfl
  | .tmp d :: l, q => by
    have ih := resF_eq P t m l
    show (getTF t d fun v => resF l P t m fun vs => q (v :: vs)) = _
    simp only [getTF_eq, ih, resD]
    cases resD P t m l <;> rfl
  | .cell a ty :: l, q => by
    have ih := resF_eq P t m l
    show (getTF t a fun a => loadF P m ty a fun v => resF l P t m fun vs => q (v :: vs)) = _
    simp only [getTF_eq, loadF_eq, ih, resD]
    cases loadD P m ty (t.at a) with
    | none => rfl
    | some v =>
      simp only [ob_some]
      cases resD P t m l <;> rfl

def initF (l : List Value) : Nat → (Tmps → Option α) → Option α :=
  List.rec (motive := fun _ => Nat → (Tmps → Option α) → Option α) (fun _ q => q .nil) (fun v _ ih i q => ih (Nat.succ i) fun t => setTF t i v q) l
theorem initF_eq : ∀ (l : List Value) (i : Nat) (q : Tmps → Option α), initF l i q = q (initT i l)
  | [], _, _ => rfl
  | v :: l, i, q => (initF_eq l (i + 1) fun t => setTF t i v q).trans (setTF_eq _ _ _ _)

def runF (P : Program) (K : TypeId → Bool) (G : Nat) (k : Nat) (cf : CF α) (fn : Func) (c : Code) (args : List Value) (m : Mem) (q : Value → Mem → Option α) : Option α :=
  initF args 0 fun t => codeF c P K G cf (fun body _ k t m q => loopF body k t m q) (max args.length fn.ntmps) k t m fun e t' m' => Ex.rec (motive := fun _ => Option α) (resF fn.results.toList P t' m' fun vs => q (resV vs) m') (fun _ => none) (resF fn.results.toList P t' m' fun vs => q (resV vs) m') e
def callK (P : Program) (K : TypeId → Bool) (G : Nat) (k : Nat) : CF α :=
  Nat.rec (motive := fun _ => CF α) (fun _ _ _ _ => none) (fun k ih f args m q => Option.rec (motive := fun _ => Option α) none (fun fn => Option.rec (motive := fun _ => Option α) none (fun c => runF P K G k ih fn c args m q) fn.body) P.funcs[f]?) k
end
end Go.DI.Y
/-
  DiOrc: the interpreter with an oracle: where the oracle answers a call, the body is not run. What the oracle answers must be so in the model (OrcOK).
-/
namespace Go.DI
section
variable {P : Program} {K : TypeId → Bool} {G B0 : Nat}

/-- One call by its body. -/
def bodyD (P : Program) (K : TypeId → Bool) (G : Nat) (cf : FuncId → List Value → Mem → Option (Value × Mem)) (k : Nat) (f : FuncId) (args : List Value) (m : Mem) : Option (Value × Mem) :=
  match P.funcs[f]? with
    | some fn => match fn.body with
      | some c => match codeD P K G cf (drawD P K G cf (max args.length fn.ntmps)) (max args.length fn.ntmps) k c (initT 0 args) m with
        | some (.normal, t, m') => match resD P t m' fn.results.toList with
          | some vs => some (resV vs, m')
          | none => none
        | some (.ret, t, m') => match resD P t m' fn.results.toList with
          | some vs => some (resV vs, m')
          | none => none
        | _ => none
      | none => none
    | none => none

abbrev Orc := FuncId → List Value → Mem → Option (Value × Mem)
def callO (P : Program) (K : TypeId → Bool) (G : Nat) (o : Orc) : Nat → FuncId → List Value → Mem → Option (Value × Mem)
  | 0, _, _, _ => none
  | k + 1, f, args, m => match o f args m with
    | some r => some r
    | none => bodyD P K G (callO P K G o k) k f args m

theorem bodyD_grw {cf : FuncId → List Value → Mem → Option (Value × Mem)} (ih : CfGrw cf) (k : Nat) (f : FuncId) (args : List Value) (m : Mem) (v : Value) (m' : Mem) (h : bodyD P K G cf k f args m = some (v, m')) : Grw m m' := by
  simp only [bodyD] at h
  split at h <;> try (simp at h; done)
  split at h <;> try (simp at h; done)
  split at h <;> try (simp at h; done)
  all_goals
    rename_i hc
    split at h <;> simp at h
    rw [← h.2]
    exact codeD_grw ih (fun _ _ _ _ _ h => drawD_grw ih h) _ _ _ _ _ _ hc
theorem callO_grw {o : Orc} (ho : CfGrw o) : ∀ (k : Nat), CfGrw (callO P K G o k)
  | 0 => fun f args m v m' h => by simp [callO] at h
  | k + 1 => fun f args m v m' h => by
    simp only [callO] at h
    split at h
    · rename_i r hr
      simp at h; subst h
      exact ho _ _ _ _ _ hr
    · exact bodyD_grw (callO_grw ho k) k f args m v m' h

theorem bodyD_ok (hmix : P.follows .mixedOrders = true) (hK : Plain P K) (hng : NoNG P) {cf : FuncId → List Value → Mem → Option (Value × Mem)} (ih : CfOK P B0 G cf) (hg : CfGrw cf) (k : Nat) : CfOK P B0 G (bodyD P K G cf k) := by
    refine ⟨fun f args m v m' h => (bodyD_grw hg k f args m v m' h).size, fun f args m v m' h => ?_, fun f args m v m' h => ?_⟩
    · simp only [bodyD] at h
      split at h <;> try (simp at h; done)
      rename_i fn hfn
      split at h <;> try (simp at h; done)
      rename_i c hc
      intro ι w args' hr hf hargs
      have hlen := hargs.length
      have ht0 : TRel ι (max args.length fn.ntmps) (initT 0 args) { tmps := args'.toArray ++ Array.replicate (fn.ntmps - args'.toArray.size) undef, defers := [] } := by
        refine ⟨by simp; omega, fun d => ?_⟩
        rw [initT_at]
        simp only [Nat.zero_le, if_true, Nat.sub_zero]
        cases hd : args[d]? with
        | some v =>
          obtain ⟨y, hy, hry⟩ := hargs.get hd
          have hlt : d < args'.length := by
            rcases Nat.lt_or_ge d args'.length with h1 | h1
            · exact h1
            · rw [List.getElem?_eq_none h1] at hy; cases hy
          have : (args'.toArray ++ Array.replicate (fn.ntmps - args'.toArray.size) undef).getD d undef = y := by
            rw [Array.getD_eq_getD_getElem?, Array.getElem?_append_left (by simpa using hlt), List.getElem?_toArray, hy]; rfl
          rw [this]; exact hry
        | none =>
          have hge : args.length ≤ d := List.getElem?_eq_none_iff.1 hd
          have : (args'.toArray ++ Array.replicate (fn.ntmps - args'.toArray.size) undef).getD d undef = undef := by
            rw [Array.getD_eq_getD_getElem?, Array.getElem?_append_right (by simp; omega), Array.getElem?_replicate]
            split <;> rfl
          rw [this]; exact VRel.undef _
      have fin : ∀ (e : Ex) (t' : Tmps) (m₁ : Mem), codeD P K G cf (drawD P K G cf (max args.length fn.ntmps)) (max args.length fn.ntmps) k c (initT 0 args) m = some (e, t', m₁) → (e = .normal ∨ e = .ret) →
          (match resD P t' m₁ fn.results.toList with | some vs => some (resV vs, m₁) | none => none) = some (v, m') →
          Calls P f args'.toArray w fun e w' => ∃ v' ι', e = .returned v' ∧ VRel ι' v v' ∧ Rel B0 G ι' m' w' ∧ Stp ι ι' m m' w w' := by
        intro e t' m₁ hcode he hres
        split at hres <;> simp at hres
        rename_i vs hvs
        obtain ⟨rfl, rfl⟩ := hres
        refine calls_of_wp hfn hc (code_ok hK ih (drawOK hmix hK ih hg) c _ _ _ _ _ hcode ι w _ _ hr ht0 hf fun a' w' ha => ?_)
        obtain ⟨ι', g1, g2, g3, g4⟩ := ha
        obtain ⟨v', q1, q2⟩ := results_ok (P := P) g2 g1 hvs
        rcases he with rfl | rfl
        · exact ⟨g4, v', q1, v', ι', rfl, q2, g2, g3⟩
        · exact ⟨g4, v', q1, v', ι', rfl, q2, g2, g3⟩
      split at h <;> try (simp at h; done)
      · rename_i t' m₁ hcode
        exact fin _ _ _ hcode (.inl rfl) h
      · rename_i t' m₁ hcode
        exact fin _ _ _ hcode (.inr rfl) h
    · simp only [bodyD] at h
      split at h <;> try (simp at h; done)
      rename_i fn hfn
      split at h <;> try (simp at h; done)
      rename_i c hc
      exact ⟨fn, hfn, by simp [hc], hng f fn hfn (by simp [hc])⟩

theorem callO_ok (hmix : P.follows .mixedOrders = true) (hK : Plain P K) (hng : NoNG P) {o : Orc} (ho : CfOK P B0 G o) (hg : CfGrw o) : ∀ (k : Nat), CfOK P B0 G (callO P K G o k)
  | 0 => ⟨fun f args m v m' h => by simp [callO] at h, fun f args m v m' h => by simp [callO] at h, fun f args m v m' h => by simp [callO] at h⟩
  | k + 1 => by
    have ih := bodyD_ok hmix hK hng (callO_ok hmix hK hng ho hg k) (callO_grw hg k) k
    refine ⟨fun f args m v m' h => ?_, fun f args m v m' h => ?_, fun f args m v m' h => ?_⟩
    all_goals
      simp only [callO] at h
      split at h
    · rename_i r hr; simp at h; subst h; exact ho.size _ _ _ _ _ hr
    · exact ih.size _ _ _ _ _ h
    · rename_i r hr; simp at h; subst h; exact ho.ok _ _ _ _ _ hr
    · exact ih.ok _ _ _ _ _ h
    · rename_i r hr; simp at h; subst h; exact ho.body _ _ _ _ _ hr
    · exact ih.body _ _ _ _ _ h
end
end Go.DI
/-
  DiN: calls with an oracle once more, each body run on a full frame (all slots there from the start): 'callN'. And what a body, or a loop, comes to in the symbolic layer.
-/
namespace Go.DI
noncomputable section
def up (x : Nat → Value) (l : List (Nat × Value)) : Nat → Value :=
  List.rec (motive := fun _ => Nat → Value) x (fun p _ ih i => Bool.rec (motive := fun _ => Value) (ih i) p.2 (Nat.beq p.1 i)) l
def fullN (n : Nat) (x : Nat → Value) : Tmps := Nat.rec (motive := fun _ => Tmps) .nil (fun i t => Tmps.set t i (x i)) n
theorem fullN_at (x : Nat → Value) (d : Nat) : ∀ n, (fullN n x).at d = if d < n then x d else undef
  | 0 => by simp [fullN, Tmps.at, Tr.get]
  | n + 1 => by
    have ih := fullN_at x d n
    show (Tmps.set (fullN n x) n (x n)).at d = _
    rw [Tmps.at_set, ih]
    by_cases h : d = n
    · subst h; simp
    · by_cases h2 : d < n
      · simp [h, h2, Nat.lt_succ_of_lt h2]
      · have : ¬ d < n + 1 := by omega
        simp [h, h2, this]
def x0 : Nat → Value := fun _ => undef
def argX (l : List Value) : Nat → Value :=
  List.rec (motive := fun _ => Nat → Value) x0 (fun a _ ih i => Nat.rec (motive := fun _ => Value) a (fun i' _ => ih i') i) l
theorem argX_eq : ∀ (l : List Value) (i : Nat), argX l i = (l[i]?).getD undef
  | [], i => by simp [argX, x0]
  | a :: l, 0 => rfl
  | a :: l, i + 1 => by
    have := argX_eq l i
    rw [List.getElem?_cons_succ]
    exact this

section
variable {P : Program} {K : TypeId → Bool} {G B0 : Nat}
abbrev DFun := FuncId → List Value → Mem → Option (Value × Mem)
def endD (P : Program) (fn : Func) : Option (Ex × Tmps × Mem) → Option (Value × Mem)
  | some (.normal, t, m') => match resD P t m' fn.results.toList with
    | some vs => some (resV vs, m')
    | none => none
  | some (.ret, t, m') => match resD P t m' fn.results.toList with
    | some vs => some (resV vs, m')
    | none => none
  | _ => none
def bodyN (P : Program) (K : TypeId → Bool) (G : Nat) (cf : DFun) (k : Nat) (f : FuncId) (args : List Value) (m : Mem) : Option (Value × Mem) :=
  match P.funcs[f]? with
    | some fn => match fn.body with
      | some c => endD P fn (codeD P K G cf (drawD P K G cf (max args.length fn.ntmps)) (max args.length fn.ntmps) k c (fullN (max args.length fn.ntmps) (argX args)) m)
      | none => none
    | none => none
/-- What a function may answer, by its result types. -/
def resT (P : Program) (f : FuncId) : List TypeId := match P.funcs[f]? with | some fn => fn.resultTypes.toList | none => []
def okL (P : Program) : List TypeId → List Value → Bool
  | [], [] => true
  | t :: ts, v :: vs => shp P t v && okL P ts vs
  | _, _ => false
def okR (P : Program) (f : FuncId) (v : Value) : Bool :=
  match resT P f with
  | [t] => shp P t v
  | [] => true
  | ts => match v with | .tuple cs => okL P ts cs.toList | _ => false
def filtR (P : Program) (f : FuncId) : Option (Value × Mem) → Option (Value × Mem)
  | some (v, m) => cond (okR P f v) (some (v, m)) none
  | none => none
def callN (P : Program) (K : TypeId → Bool) (G : Nat) (o : Orc) : Nat → FuncId → List Value → Mem → Option (Value × Mem)
  | 0, _, _, _ => none
  | k + 1, f, args, m => filtR P f (match o f args m with
    | some r => some r
    | none => bodyN P K G (callN P K G o k) k f args m)

theorem bodyN_grw {cf : DFun} (ih : CfGrw cf) (k : Nat) (f : FuncId) (args : List Value) (m : Mem) (v : Value) (m' : Mem) (h : bodyN P K G cf k f args m = some (v, m')) : Grw m m' := by
  simp only [bodyN] at h
  split at h <;> try (simp at h; done)
  split at h <;> try (simp at h; done)
  simp only [endD] at h
  split at h <;> try (simp at h; done)
  all_goals
    rename_i hc
    split at h <;> simp at h
    rw [← h.2]
    exact codeD_grw ih (fun _ _ _ _ _ h => drawD_grw ih h) _ _ _ _ _ _ hc

theorem bodyN_ok (hmix : P.follows .mixedOrders = true) (hK : Plain P K) (hng : NoNG P) {cf : DFun} (ih : CfOK P B0 G cf) (hg : CfGrw cf) (k : Nat) : CfOK P B0 G (bodyN P K G cf k) := by
    refine ⟨fun f args m v m' h => (bodyN_grw hg k f args m v m' h).size, fun f args m v m' h => ?_, fun f args m v m' h => ?_⟩
    · simp only [bodyN] at h
      split at h <;> try (simp at h; done)
      rename_i fn hfn
      split at h <;> try (simp at h; done)
      rename_i c hc
      intro ι w args' hr hf hargs
      have hlen := hargs.length
      have ht0 : TRel ι (max args.length fn.ntmps) (fullN (max args.length fn.ntmps) (argX args)) { tmps := args'.toArray ++ Array.replicate (fn.ntmps - args'.toArray.size) undef, defers := [] } := by
        refine ⟨by simp; omega, fun d => ?_⟩
        rw [fullN_at, argX_eq]
        cases hd : args[d]? with
        | some v =>
          obtain ⟨y, hy, hry⟩ := hargs.get hd
          have hlt : d < args'.length := by
            rcases Nat.lt_or_ge d args'.length with h1 | h1
            · exact h1
            · rw [List.getElem?_eq_none h1] at hy; cases hy
          have : (args'.toArray ++ Array.replicate (fn.ntmps - args'.toArray.size) undef).getD d undef = y := by
            rw [Array.getD_eq_getD_getElem?, Array.getElem?_append_left (by simpa using hlt), List.getElem?_toArray, hy]; rfl
          rw [this, if_pos (by omega)]; exact hry
        | none =>
          have hge : args.length ≤ d := List.getElem?_eq_none_iff.1 hd
          have : (args'.toArray ++ Array.replicate (fn.ntmps - args'.toArray.size) undef).getD d undef = undef := by
            rw [Array.getD_eq_getD_getElem?, Array.getElem?_append_right (by simp; omega), Array.getElem?_replicate]
            split <;> rfl
          rw [this]
          split
          · exact VRel.undef _
          · exact VRel.undef _
      have fin : ∀ (e : Ex) (t' : Tmps) (m₁ : Mem), codeD P K G cf (drawD P K G cf (max args.length fn.ntmps)) (max args.length fn.ntmps) k c (fullN (max args.length fn.ntmps) (argX args)) m = some (e, t', m₁) → (e = .normal ∨ e = .ret) →
          (match resD P t' m₁ fn.results.toList with | some vs => some (resV vs, m₁) | none => none) = some (v, m') →
          Calls P f args'.toArray w fun e w' => ∃ v' ι', e = .returned v' ∧ VRel ι' v v' ∧ Rel B0 G ι' m' w' ∧ Stp ι ι' m m' w w' := by
        intro e t' m₁ hcode he hres
        split at hres <;> simp at hres
        rename_i vs hvs
        obtain ⟨rfl, rfl⟩ := hres
        refine calls_of_wp hfn hc (code_ok hK ih (drawOK hmix hK ih hg) c _ _ _ _ _ hcode ι w _ _ hr ht0 hf fun a' w' ha => ?_)
        obtain ⟨ι', g1, g2, g3, g4⟩ := ha
        obtain ⟨v', q1, q2⟩ := results_ok (P := P) g2 g1 hvs
        rcases he with rfl | rfl
        · exact ⟨g4, v', q1, v', ι', rfl, q2, g2, g3⟩
        · exact ⟨g4, v', q1, v', ι', rfl, q2, g2, g3⟩
      simp only [endD] at h
      split at h <;> try (simp at h; done)
      · rename_i t' m₁ hcode
        exact fin _ _ _ hcode (.inl rfl) h
      · rename_i t' m₁ hcode
        exact fin _ _ _ hcode (.inr rfl) h
    · simp only [bodyN] at h
      split at h <;> try (simp at h; done)
      rename_i fn hfn
      split at h <;> try (simp at h; done)
      rename_i c hc
      exact ⟨fn, hfn, by simp [hc], hng f fn hfn (by simp [hc])⟩

end

/-! ### in the symbolic layer -/
def loopsOf : Code → List Code
  | .seq a b => loopsOf a ++ loopsOf b
  | .cond _ a b => loopsOf a ++ loopsOf b
  | .block _ c => loopsOf c
  | .loop c => c :: loopsOf c
  | _ => []
def bodyOf (fn : Func) : Code := match fn.body with | some c => c | none => .skip
def loopN (fn : Func) (j : Nat) : Code := match (loopsOf (bodyOf fn))[j]? with | some c => c | none => .skip
namespace Y
variable {α : Type}
def onNat (i : Int) (q : Nat → Option α) : Option α := Int.rec (motive := fun _ => Option α) q (fun _ => none) i
/-- What calls and loops are, where 'df' answers the calls. -/
def cfOf (df : DFun) : CF α := fun f a m q => onV (df f a m) q
def lpOf (P : Program) (K : TypeId → Bool) (G : Nat) (df : DFun) (n : Nat) : LK α := fun _ c k t m q => onE (loopD (codeD P K G df (drawD P K G df n) n k c) k t m) q
def unc (l : List Value) (q : Value → List Value → Option α) (d : Option α) : Option α := List.rec (motive := fun _ => Option α) d (fun a l _ => q a l) l
def expL (P : Program) (ts : List TypeId) : List Value → (List Value → Option α) → Option α :=
  List.rec (motive := fun _ => List Value → (List Value → Option α) → Option α) (fun cs q => unc cs (fun _ _ => none) (q []))
    (fun t _ ih cs q => unc cs (fun v vs => shF P t v fun v => ih vs fun l => q (v :: l)) none) ts
theorem expL_eq (P : Program) : ∀ (ts : List TypeId) (cs : List Value) (q : List Value → Option α), expL P ts cs q = cond (okL P ts cs) (q cs) none
  | [], [], q => rfl
  | [], _ :: _, q => rfl
  | _ :: _, [], q => rfl
  | t :: ts, v :: vs, q => by
    have ih := expL_eq P ts vs
    show (shF P t v fun v => expL P ts vs fun l => q (v :: l)) = _
    simp only [ih, shF_eq, shD, okL]
    cases shp P t v <;> cases okL P ts vs <;> rfl
/-- A truth value is split at once. -/
def splB (v : Value) (q : Value → Option α) : Option α := asBo v (fun b => blF b q) (q v)
theorem splB_eq (v : Value) (q : Value → Option α) : splB v q = q v := by cases v <;> first | exact blF_eq _ _ | rfl
def resK (P : Program) (f : FuncId) (v : Value) (q : Value → Option α) : Option α :=
  match resT P f with
  | [t] => shF P t v fun v => splB v q
  | [] => q v
  | ts => asTup v fun cs => expL P ts cs.toList fun l => q (.tuple ⟨l⟩)
theorem resK_eq (P : Program) (f : FuncId) (v : Value) (q : Value → Option α) : resK P f v q = cond (okR P f v) (q v) none := by
  unfold resK okR
  split
  · rw [shF_eq]; simp only [shD, splB_eq]; cases shp P _ v <;> rfl
  · rfl
  · cases v <;> try rfl
    rename_i cs
    show expL P _ cs.toList _ = _
    rw [expL_eq]
/-- Calls, whose answers are of the result types. -/
def cfT (P : Program) (cf : CF α) : CF α := fun f a m q => cf f a m fun v m' => resK P f v fun v => q v m'
theorem cfT_of (P : Program) (df : DFun) (h : ∀ f a m v m', df f a m = some (v, m') → okR P f v = true) (f : FuncId) (a : List Value) (m : Mem) (q : Value → Mem → Option α) : cfT P (cfOf df) f a m q = onV (df f a m) q := by
  unfold cfT cfOf
  cases hd : df f a m with
  | none => rfl
  | some p =>
    obtain ⟨v, m'⟩ := p
    show resK P f v (fun v => q v m') = _
    rw [resK_eq, h f a m v m' hd]; rfl
def retF (P : Program) (fn : Func) (q : Value → Mem → Option α) : ExK α := fun e t' m' =>
  Ex.rec (motive := fun _ => Option α) (resF fn.results.toList P t' m' fun vs => q (resV vs) m') (fun _ => none) (resF fn.results.toList P t' m' fun vs => q (resV vs) m') e
/-- Answers of their types alone. -/
def Typed (P : Program) (df : DFun) : Prop := ∀ f a m v m', df f a m = some (v, m') → okR P f v = true
theorem callN_typed (P : Program) (K : TypeId → Bool) (G : Nat) (o : Orc) : ∀ k, Typed P (callN P K G o k)
  | 0 => fun f a m v m' h => by cases h
  | k + 1 => fun f a m v m' h => by
    simp only [callN] at h
    revert h
    generalize (match o f a m with | some r => some r | none => bodyN P K G (callN P K G o k) k f a m) = r
    intro h
    cases r with
    | none => cases h
    | some p =>
      obtain ⟨v0, m0⟩ := p
      simp only [filtR] at h
      cases hk : okR P f v0 <;> rw [hk] at h <;> simp at h
      rw [← h.1]; exact hk
theorem code_eq (P : Program) (K : TypeId → Bool) (G : Nat) (df : DFun) (hdf : Typed P df) (n k : Nat) (c : Code) (t : Tmps) (m : Mem) (q : ExK α) :
    onE (codeD P K G df (drawD P K G df n) n k c t m) q = codeF c P K G (cfT P (cfOf df)) (lpOf P K G df n) n k t m q :=
  (codeF_eq P K G (cfT P (cfOf df)) df (fun f a m q => cfT_of P df hdf f a m q) (lpOf P K G df n) n k (fun _ _ _ _ _ _ => rfl) c t m q).symm
def q0 : ExK (Ex × Tmps × Mem) := fun e t m => some (e, t, m)
theorem step_eq (P : Program) (K : TypeId → Bool) (G : Nat) {df : DFun} (hdf : Typed P df) (n k : Nat) (c : Code) (t : Tmps) (m : Mem) :
    codeD P K G df (drawD P K G df n) n k c t m = codeF c P K G (cfT P (cfOf df)) (lpOf P K G df n) n k t m q0 := by
  rw [← code_eq P K G df hdf]
  cases codeD P K G df (drawD P K G df n) n k c t m with
  | none => rfl
  | some r => rfl
def loopC (c : Code) (j : Nat) : Code := match (loopsOf c)[j]? with | some c => c | none => .skip
/-- What comes behind the j-th loop of a code. -/
def kont (P : Program) (K : TypeId → Bool) (G : Nat) (cf : CF α) (L : LK α) (n k : Nat) : Code → Nat → ExK α → ExK α
  | .seq a b, j, q => cond (Nat.blt j (loopsOf a).length) (kont P K G cf L n k a j fun e t m => Ex.rec (motive := fun _ => Option α) (codeF b P K G cf L n k t m q) (fun id => q (.exit id) t m) (q .ret t m) e) (kont P K G cf L n k b (j - (loopsOf a).length) q)
  | .cond _ a b, j, q => cond (Nat.blt j (loopsOf a).length) (kont P K G cf L n k a j q) (kont P K G cf L n k b (j - (loopsOf a).length) q)
  | .block id c, j, q => kont P K G cf L n k c j fun e t m => Ex.rec (motive := fun _ => Option α) (q .normal t m) (fun id' => Bool.rec (motive := fun _ => Option α) (q (.exit id') t m) (q .normal t m) (Nat.beq id' id)) (q .ret t m) e
  | _, _, q => q
end Y
end
end Go.DI
/-
  DiClosed: a function of no argument that the quick interpreter answers 'true', answers 'true' in the model: and nothing that was there turns.
-/
namespace Go.DI
open Go.RowKit Go.ChangeShapes Go.WideShapes

def m0 : Mem := ⟨fun _ => .none, .nil, 0⟩

def among (l : List TypeId) (t : TypeId) : Bool := l.any fun u => Nat.beq u t
theorem plain_among {P : Program} {l : List TypeId} (h : (l.all fun t => not (P.stoodInHeld t) && not (P.eqGuardType P.depth t)) = true) : Plain P (among l) := by
  intro t ht
  simp only [among, List.any_eq_true] at ht
  obtain ⟨u, hu, hut⟩ := ht
  obtain rfl := Nat.eq_of_beq_eq_true hut
  have := List.all_eq_true.1 h u hu
  simp only [Bool.and_eq_true, Bool.not_eq_true'] at this
  exact this
theorem noNG_of {P : Program} (h : (P.funcs.toList.all fun fn => fn.body.isNone || not (fn.name == "runtime.NumGoroutine")) = true) : NoNG P := by
  intro f fn hf hb
  have hm : fn ∈ P.funcs.toList := by
    have : P.funcs.toList[f]? = some fn := by simpa using hf
    exact List.mem_of_getElem? this
  have := List.all_eq_true.1 h fn hm
  rw [hb] at this
  simpa using this



end Go.DI
/-
  DiClosedY: a closed law by the symbolic form ('Y.callK').
-/
namespace Go.DI
open Go.RowKit
end Go.DI
/-
  DiLocal: a run on a small memory carries over to a bigger one: the small memory's block i lies there as block ρ i; what the run lays anew is laid behind.
-/
namespace Go.DI

/-- The names that the small memory sees. -/
def Ren.sub (ι : Ren) (ρ : Nat → Nat) (k : Nat → Bool) : Ren := fun i => if k i = true then ι (ρ i) else none

def VSim (ρ : Nat → Nat) (k : Nat → Bool) (vs v : Value) : Prop := ∀ (ι : Ren) (v' : Value), VRel ι v v' → VRel (ι.sub ρ k) vs v'
def VEmb (ρ : Nat → Nat) (vs v : Value) : Prop := ∀ (ι κ : Ren) (v' : Value), (∀ i L, ι i = some L → κ (ρ i) = some L) → VRel ι vs v' → VRel κ v v'
structure BSim (ρ : Nat → Nat) (k : Nat → Bool) (bs b : Blk) : Prop where
  live : bs.live → b.live
  own : bs.own = true → b.own = true
  rel : ∀ (B0 : Nat) (ι : Ren) (L : Loc) (w : World), BlkRel B0 ι b L w → BlkRel B0 (ι.sub ρ k) bs L w
structure BEmb (ρ : Nat → Nat) (bs b : Blk) : Prop where
  live : b.live → bs.live
  own : b.own = true → bs.own = true
  rel : ∀ (B0 : Nat) (ι κ : Ren) (L : Loc) (w : World), (∀ i L, ι i = some L → κ (ρ i) = some L) → BlkRel B0 ι bs L w → BlkRel B0 κ b L w

inductive VSims (ρ : Nat → Nat) (k : Nat → Bool) : List Value → List Value → Prop where
  | nil : VSims ρ k [] []
  | cons {x y : Value} {l l' : List Value} : VSim ρ k x y → VSims ρ k l l' → VSims ρ k (x :: l) (y :: l')
theorem VSims.rel {ρ : Nat → Nat} {k : Nat → Bool} {ι : Ren} : ∀ {l l' l'' : List Value}, VSims ρ k l l' → VRels ι l' l'' → VRels (ι.sub ρ k) l l''
  | _, _, _, .nil, h => by cases h; exact .nil
  | _, _, _, .cons h t, g => by
    cases g with
    | cons g0 gt => exact .cons (h _ _ g0) (t.rel gt)

theorem ownlive {x : Blk} (h : x.own = true) : x.live := by cases x <;> first | trivial | simp [Blk.own] at h

structure Local (ρ : Nat → Nat) (A : Nat → Bool) (ms ms' M M' : Mem) : Prop where
  sees : ∀ i, A i = true → i < ms.size
  grw : Grw ms ms'
  top : ms.top
  top' : M'.top
  old : ∀ i, A i = true → ρ i < M.size
  inj : ∀ i j, A i = true → A j = true → (ms.get i).live → (ms.get j).live → ρ i = ρ j → i = j
  new : ∀ i, ms.size ≤ i → i < ms'.size → ρ i = M.size + (i - ms.size)
  size : M'.size = M.size + (ms'.size - ms.size)
  sim : ∀ i, A i = true → BSim ρ A (ms.get i) (M.get (ρ i))
  emb : ∀ i, i < ms'.size → (A i = true ∨ ms.size ≤ i) → M'.get (ρ i) = .none ∨ BEmb ρ (ms'.get i) (M'.get (ρ i))
  rest : ∀ b, b < M.size → (∀ i, A i = true → ρ i ≠ b) → M'.get b = M.get b

theorem embedG {P : Program} {B0 G : Nat} (Gs : Nat) {f : FuncId} {avs args : List Value} {vs v : Value} {ms ms' M M' : Mem} {ρ : Nat → Nat} {A : Nat → Bool} (hG : ∀ g, g < Gs → g < G ∧ A g = true ∧ ρ g = g) (run : CallOK P B0 Gs f avs ms vs ms') (h : Local ρ A ms ms' M M')
    (ha : VSims ρ A avs args) (hv : VEmb ρ vs v) : CallOK P B0 G f args M v M' := by
  intro ι w args' hr hf hargs
  have hms := h.grw.size
  have hrs : Rel B0 Gs (ι.sub ρ A) ms w := by
    refine ⟨fun b L hb hL => ?_, fun b₁ b₂ L₁ L₂ h1 h2 e1 e2 l1 l2 g0 e => ?_, hr.floor, fun g hg => ?_, fun b hb => h.top b hb⟩
    · simp only [Ren.sub] at hL
      split at hL
      · rename_i hb
        exact (h.sim b hb).rel _ _ _ _ (hr.blk _ _ (h.old b hb) hL)
      · simp at hL
    · simp only [Ren.sub] at e1 e2
      split at e1
      · rename_i h1
        split at e2
        · rename_i h2
          exact h.inj _ _ h1 h2 l1 l2 (hr.inj _ _ _ _ (h.old _ h1) (h.old _ h2) e1 e2 ((h.sim _ h1).live l1) ((h.sim _ h2).live l2) g0 e)
        · simp at e2
      · simp at e1
    · obtain ⟨q1, q2, q3⟩ := hG g hg
      obtain ⟨L, p1, p2⟩ := hr.glob g q1
      exact ⟨L, by simp only [Ren.sub, q2, if_true, q3]; exact p1, p2⟩
  refine (run _ w args' hrs (fun b h1 _ => by simp only [Ren.sub]; rw [if_neg (fun g => by have := h.sees b g; omega)]) (ha.rel hargs)).mono ?_
  rintro e w' ⟨v', ι₂, he, hv', hr', hs⟩
  let κ : Ren := fun b => if b < M.size then ι b else if b < M'.size then ι₂ (ms.size + (b - M.size)) else ι b
  have hκold : ∀ b, b < M.size → κ b = ι b := fun b hb => by simp only [κ, hb, if_true]
  have hκnew : ∀ i, ms.size ≤ i → i < ms'.size → κ (ρ i) = ι₂ i := fun i h1 h2 => by
    have e := h.new i h1 h2
    have e2 := h.size
    simp only [κ]
    rw [if_neg (by omega), if_pos (by omega), e]
    congr 1; omega
  have hι₂old : ∀ i, A i = true → ι₂ i = ι (ρ i) := fun i hi => by
    rw [hs.out i (.inl (h.sees i hi))]; simp only [Ren.sub, hi, if_true]
  have hι₂none : ∀ i L, i < ms.size → ι₂ i = some L → A i = true := fun i L hi hL => by
    rw [hs.out i (.inl hi)] at hL
    simp only [Ren.sub] at hL
    split at hL
    · assumption
    · simp at hL
  have hle : ι.le κ := fun b L hL => by
    simp only [κ]
    split
    · exact hL
    · split
      · have := hf b (by omega) (by omega)
        rw [this] at hL; cases hL
      · exact hL
  have hmap : ∀ i L, ι₂ i = some L → κ (ρ i) = some L := fun i L hL => by
    rcases Nat.lt_or_ge i ms.size with h0 | h1
    · have h1 := hι₂none i L h0 hL
      rw [hκold _ (h.old i h1), ← hι₂old i h1]; exact hL
    · rcases Nat.lt_or_ge i ms'.size with h2 | h2
      · rw [hκnew i h1 h2]; exact hL
      · have := hs.out i (.inr h2)
        rw [this] at hL
        simp only [Ren.sub] at hL
        rw [if_neg (fun g => by have := h.sees i g; have := h.grw.size; omega)] at hL
        cases hL
  -- where a block of the big memory comes from
  have cases3 : ∀ b L, b < M'.size → κ b = some L → (∃ i, A i = true ∧ ρ i = b ∧ ι₂ i = some L ∧ ι b = some L) ∨ (b < M.size ∧ (∀ i, A i = true → ρ i ≠ b) ∧ ι b = some L) ∨ (∃ i, ms.size ≤ i ∧ i < ms'.size ∧ ρ i = b ∧ ι₂ i = some L) := by
    intro b L hb hL
    rcases Nat.lt_or_ge b M.size with h1 | h1
    · rw [hκold b h1] at hL
      by_cases hx : ∃ i, A i = true ∧ ρ i = b
      · obtain ⟨i, hi, rfl⟩ := hx
        exact .inl ⟨i, hi, rfl, by rw [hι₂old i hi]; exact hL, hL⟩
      · exact .inr (.inl ⟨h1, fun i hi e => hx ⟨i, hi, e⟩, hL⟩)
    · have e2 := h.size
      have hi : ms.size + (b - M.size) < ms'.size := by omega
      have e3 := h.new (ms.size + (b - M.size)) (by omega) hi
      have e4 : ρ (ms.size + (b - M.size)) = b := by omega
      have := hκnew (ms.size + (b - M.size)) (by omega) hi
      rw [e4, hL] at this
      exact .inr (.inr ⟨_, by omega, hi, e4, this.symm⟩)
  have hframe : ∀ B, B < w.heap.size → (∀ b L, b < M.size → ι b = some L → (M.get b).own = true → L.block ≠ B) → w'.heap[B]? = w.heap[B]? := by
    intro B hB hno
    refine hs.frame B hB fun i L hi hL ho => ?_
    simp only [Ren.sub] at hL
    split at hL
    · rename_i hi
      exact hno _ _ (h.old i hi) hL ((h.sim i hi).own ho)
    · simp at hL
  refine ⟨v', κ, he, hv _ _ _ hmap hv', ⟨fun b L hb hL => ?_, fun b₁ b₂ L₁ L₂ h1 h2 e1 e2 l1 l2 g0 e => ?_, hr'.floor, fun g hg => ?_, h.top'⟩,
    ⟨hle, fun b hb => ?_, hs.os, hs.output, hs.tape, hs.hsize, hframe, fun b L h1 h2 hL => ?_, by have := h.size; omega, fun b hb ho => ?_⟩⟩
  · rcases cases3 b L hb hL with ⟨i, hi, rfl, h2, h3⟩ | ⟨h1, h2, h3⟩ | ⟨i, hi, hi', rfl, h2⟩
    · have hi0 := h.sees i hi
      rcases h.emb i (by omega) (.inl hi) with g | g
      · rw [g]; trivial
      · exact g.rel _ _ _ _ _ hmap (hr'.blk _ _ (by omega) h2)
    · rw [h.rest b h1 h2]
      have hb0 := hr.blk b L h1 h3
      by_cases hl : (M.get b).live
      · refine BlkRel.mono hle (hs.frame _ (hr.old _ _ h3 hl) fun i L' q1 q2 q3 q4 => ?_) hb0
        simp only [Ren.sub] at q2
        split at q2
        · rename_i q1
          exact h2 i q1 (hr.inj _ _ _ _ (h.old i q1) h1 q2 h3 (ownlive ((h.sim i q1).own q3)) hl ((hr.blk _ _ (h.old i q1) q2).own_floor ((h.sim i q1).own q3)) q4)
        · simp at q2
      · cases hg : M.get b with
        | none => trivial
        | cells => rw [hg] at hl; exact absurd trivial hl
        | map => rw [hg] at hl; exact absurd trivial hl
        | siter => rw [hg] at hl; exact absurd trivial hl
    · rcases h.emb i hi' (.inr hi) with g | g
      · rw [g]; trivial
      · exact g.rel _ _ _ _ _ hmap (hr'.blk _ _ hi' h2)
  · -- no two live blocks at one place
    have key : ∀ b, M'.get b ≠ .none → ∀ i, i < ms'.size → (A i = true ∨ ms.size ≤ i) → ρ i = b → (ms'.get i).live := fun b hb i hi hA e => by
      rcases h.emb i hi hA with g | g
      · rw [e] at g; exact absurd g hb
      · refine g.live ?_
        rw [e]
        cases hg : M'.get b with
        | none => exact absurd hg hb
        | cells => trivial
        | map => trivial
        | siter => trivial
    have ne1 : M'.get b₁ ≠ .none := fun g => by rw [g] at l1; exact l1
    have ne2 : M'.get b₂ ≠ .none := fun g => by rw [g] at l2; exact l2
    -- a block that the run knows, and one that it doesn't
    have mixed : ∀ b c L L', M'.get b ≠ .none → b < M'.size → κ b = some L → c < M.size → (∀ i, A i = true → ρ i ≠ c) → ι c = some L' → (M'.get c).live → B0 ≤ L.block → L.block = L'.block →
        (∃ i, i < ms'.size ∧ (A i = true ∨ ms.size ≤ i) ∧ ρ i = b ∧ ι₂ i = some L) → False := by
      intro b c L L' nb hb hL hc hno hLc lc g0 e ⟨i, hi, hA, hib, hiL⟩
      have lc' : (M.get c).live := by rw [← h.rest c hc hno]; exact lc
      rcases Nat.lt_or_ge i ms.size with h0 | h1
      · have h1 := hι₂none i L h0 hiL
        have g1 := h.grw.live i h0 (key b nb i hi hA hib)
        have g2 := (h.sim i h1).live g1
        have g3 : ι (ρ i) = some L := by rw [← hι₂old i h1]; exact hiL
        exact hno i h1 (hr.inj _ _ _ _ (h.old i h1) hc g3 hLc g2 lc' g0 e)
      · rcases hs.new i L h1 hi hiL with g | ⟨b0, L0, g1, g2, g3, g4⟩
        · have := hr.old c L' hLc lc'; omega
        · simp only [Ren.sub] at g2
          split at g2
          · rename_i g1
            exact hno b0 g1 (hr.inj _ _ _ _ (h.old b0 g1) hc g2 hLc (ownlive ((h.sim b0 g1).own g3)) lc' ((hr.blk _ _ (h.old b0 g1) g2).own_floor ((h.sim b0 g1).own g3)) (by omega))
          · simp at g2
    have known : ∀ b L, b < M'.size → κ b = some L → (∃ i, i < ms'.size ∧ (A i = true ∨ ms.size ≤ i) ∧ ρ i = b ∧ ι₂ i = some L) ∨ (b < M.size ∧ (∀ i, A i = true → ρ i ≠ b) ∧ ι b = some L) := by
      intro b L hb hL
      rcases cases3 b L hb hL with ⟨i, hi, g1, g2, _⟩ | g | ⟨i, hi, hi', g1, g2⟩
      · exact .inl ⟨i, by have := h.sees i hi; omega, .inl hi, g1, g2⟩
      · exact .inr g
      · exact .inl ⟨i, hi', .inr hi, g1, g2⟩
    rcases known b₁ L₁ h1 e1 with k1 | k1
    · rcases known b₂ L₂ h2 e2 with k2 | k2
      · obtain ⟨i, hi, hA, q1, q2⟩ := k1
        obtain ⟨j, hj, hB, r1, r2⟩ := k2
        have := hr'.inj i j _ _ hi hj q2 r2 (key b₁ ne1 i hi hA q1) (key b₂ ne2 j hj hB r1) g0 e
        rw [← q1, ← r1, this]
      · exact (mixed b₁ b₂ L₁ L₂ ne1 h1 e1 k2.1 k2.2.1 k2.2.2 l2 g0 e k1).elim
    · rcases known b₂ L₂ h2 e2 with k2 | k2
      · exact (mixed b₂ b₁ L₂ L₁ ne2 h2 e2 k1.1 k1.2.1 k1.2.2 l1 (Nat.le_trans g0 (Nat.le_of_eq e)) e.symm k2).elim
      · refine hr.inj _ _ _ _ k1.1 k2.1 k1.2.2 k2.2.2 ?_ ?_ g0 e
        · rw [← h.rest _ k1.1 k1.2.1]; exact l1
        · rw [← h.rest _ k2.1 k2.2.1]; exact l2
  · obtain ⟨L, g1, g2⟩ := hr.glob g hg
    exact ⟨L, hle _ _ g1, g2⟩
  · have e2 := h.size
    rcases hb with hb | hb
    · exact hκold b hb
    · simp only [κ]
      rw [if_neg (by omega), if_neg (by omega)]
  · rcases cases3 b L h2 hL with ⟨i, hi, g1, _, _⟩ | ⟨g, _, _⟩ | ⟨i, hi, hi', g1, g2⟩
    · have := h.old i hi; omega
    · omega
    · rcases hs.new i L hi hi' g2 with g | ⟨b0, L0, q1, q2, q3, q4⟩
      · exact .inl g
      · simp only [Ren.sub] at q2
        split at q2
        · rename_i q1
          exact .inr ⟨ρ b0, L0, h.old b0 q1, q2, (h.sim b0 q1).own q3, q4⟩
        · simp at q2
  · by_cases hx : ∃ i, A i = true ∧ ρ i = b
    · obtain ⟨i, hi, rfl⟩ := hx
      have hi0 := h.sees i hi
      rcases h.emb i (by omega) (.inl hi) with g | g
      · rw [g] at ho; simp [Blk.own] at ho
      · exact (h.sim i hi).own (hs.ownk i hi0 (g.own ho))
    · rw [h.rest b hb (fun i hi e => hx ⟨i, hi, e⟩)] at ho
      exact ho
end Go.DI
/-
  DiLocal2: which small values and blocks stand for which big ones.
-/
namespace Go.DI

/-- No name stands in it. -/
def Free (v : Value) : Prop := ∀ (ι κ : Ren) (v' : Value), VRel ι v v' → VRel κ v v'
theorem Free.sim {v : Value} (h : Free v) (ρ : Nat → Nat) (k : Nat → Bool) : VSim ρ k v v := fun ι v' g => h ι _ v' g
theorem Free.emb {v : Value} (h : Free v) (ρ : Nat → Nat) : VEmb ρ v v := fun ι κ v' _ g => h ι κ v' g
theorem free_int (k : IntKind) (n : Int) : Free (.int k n) := fun _ _ _ h => by cases h; constructor
theorem free_bool (b : Bool) : Free (.bool b) := fun _ _ _ h => by cases h; constructor
theorem free_string (b : ByteArray) : Free (.string b) := fun _ _ _ h => by cases h; constructor
theorem free_ptr0 : Free (.pointer none) := fun _ _ _ h => by cases h; constructor
theorem free_slc0 (n c : Nat) : Free (.slice none n c) := fun _ _ _ h => by cases h; constructor
theorem free_tuple {a : Array Value} (h : ∀ x ∈ a.toList, Free x) : Free (.tuple a) := fun ι κ v' g => by
  cases g with
  | tuple _ a' hs hr =>
    refine .tuple _ _ hs fun i x y hx hy => h x ?_ ι κ y (hr i x y hx hy)
    exact Array.mem_toList_iff.2 (Array.mem_of_getElem? hx)

section
variable {ρ : Nat → Nat} {k : Nat → Bool}
theorem Ren.sub_some {ι : Ren} {i : Nat} {L : Loc} (hi : k i = true) (h : ι (ρ i) = some L) : (ι.sub ρ k) i = some L := by simp only [Ren.sub, hi, if_true]; exact h
theorem sim_ptr {i o : Nat} (hi : k i = true) : VSim ρ k (.pointer (some ⟨i, o, none⟩)) (.pointer (some ⟨ρ i, o, none⟩)) := fun ι v' g => by
  cases g with
  | ptr _ _ L h => exact .ptr _ _ L (Ren.sub_some hi h)
theorem emb_ptr {i o : Nat} : VEmb ρ (.pointer (some ⟨i, o, none⟩)) (.pointer (some ⟨ρ i, o, none⟩)) := fun ι κ v' hm g => by
  cases g with
  | ptr _ _ L h => exact .ptr _ _ L (hm _ _ h)
theorem sim_slc {i o n c : Nat} (hi : k i = true) : VSim ρ k (.slice (some ⟨i, o, none⟩) n c) (.slice (some ⟨ρ i, o, none⟩) n c) := fun ι v' g => by
  cases g with
  | slc _ _ _ _ L h => exact .slc _ _ _ _ L (Ren.sub_some hi h)
theorem emb_slc {i o n c : Nat} : VEmb ρ (.slice (some ⟨i, o, none⟩) n c) (.slice (some ⟨ρ i, o, none⟩) n c) := fun ι κ v' hm g => by
  cases g with
  | slc _ _ _ _ L h => exact .slc _ _ _ _ L (hm _ _ h)
theorem sim_loose {i o e n c : Nat} (hi : k i = true) : VSim ρ k (.slice (some ⟨i, o, some e⟩) n c) (.slice (some ⟨ρ i, o, some e⟩) n c) := fun ι v' g => by
  cases g with
  | loose _ _ _ _ _ _ L h hc ht => exact .loose _ _ _ _ _ _ L (Ren.sub_some hi h) hc ht
  | loose0 _ _ _ _ _ L h ht => exact .loose0 _ _ _ _ _ L (Ren.sub_some hi h) ht
  | empty => exact .empty _ _ _ _
theorem emb_loose {i o e n c : Nat} : VEmb ρ (.slice (some ⟨i, o, some e⟩) n c) (.slice (some ⟨ρ i, o, some e⟩) n c) := fun ι κ v' hm g => by
  cases g with
  | loose _ _ _ _ _ _ L h hc ht => exact .loose _ _ _ _ _ _ L (hm _ _ h) hc ht
  | loose0 _ _ _ _ _ L h ht => exact .loose0 _ _ _ _ _ L (hm _ _ h) ht
  | empty => exact .empty _ _ _ _

/-! ### blocks -/
theorem bsim_none (b : Blk) : BSim ρ k .none b := ⟨fun h => h.elim, fun h => by simp [Blk.own] at h, fun _ _ _ _ _ => trivial⟩
theorem bemb_none (bs : Blk) : BEmb ρ bs .none := ⟨fun h => h.elim, fun h => by simp [Blk.own] at h, fun _ _ _ _ _ _ _ => trivial⟩
theorem bsim_cells {o : Bool} {cs c : List Value} (hl : cs.length = c.length) (h : ∀ (i : Nat) (x y : Value), cs[i]? = some x → c[i]? = some y → VSim ρ k x y) : BSim ρ k (.cells o cs) (.cells o c) := by
  refine ⟨fun _ => trivial, id, fun B0 ι L w => ?_⟩
  rintro ⟨rc, e, fr, h1, h2, h3, h4, h5⟩
  refine ⟨rc, e, fr, h1, h2, by omega, fun i v hv => ?_, h5⟩
  have hi : i < c.length := by have := (List.getElem?_eq_some_iff.1 hv).1; omega
  obtain ⟨v', g1, g2⟩ := h4 i c[i] (List.getElem?_eq_getElem hi)
  exact ⟨v', g1, h i v c[i] hv (List.getElem?_eq_getElem hi) ι v' g2⟩
theorem bemb_cells {o : Bool} {cs c : List Value} (hl : cs.length = c.length) (h : ∀ (i : Nat) (x y : Value), cs[i]? = some x → c[i]? = some y → VEmb ρ x y) : BEmb ρ (.cells o cs) (.cells o c) := by
  refine ⟨fun _ => trivial, id, fun B0 ι κ L w hm => ?_⟩
  rintro ⟨rc, e, fr, h1, h2, h3, h4, h5⟩
  refine ⟨rc, e, fr, h1, h2, by omega, fun i v hv => ?_, h5⟩
  have hi : i < cs.length := by have := (List.getElem?_eq_some_iff.1 hv).1; omega
  obtain ⟨v', g1, g2⟩ := h4 i cs[i] (List.getElem?_eq_getElem hi)
  exact ⟨v', g1, h i cs[i] v (List.getElem?_eq_getElem hi) hv ι κ v' hm g2⟩
theorem bsim_free {o : Bool} {c : List Value} (h : ∀ x ∈ c, Free x) : BSim ρ k (.cells o c) (.cells o c) :=
  bsim_cells rfl fun i x y hx hy => by
    rw [hx] at hy; cases hy
    exact (h x (List.mem_of_getElem? hx)).sim ρ k
theorem bemb_free {o : Bool} {c : List Value} (h : ∀ x ∈ c, Free x) : BEmb ρ (.cells o c) (.cells o c) :=
  bemb_cells rfl fun i x y hx hy => by
    rw [hx] at hy; cases hy
    exact (h x (List.mem_of_getElem? hx)).emb ρ
end
end Go.DI
/-
  DiKit: for proofs over any program: small laws (their proofs hidden from the kernel's computing), loops by invariants, calls by their trees, memories that only grow, appends and stores.
-/
namespace Go.DI
open Go.RowKit
noncomputable section
theorem nr {p : Prop} (h : p) : p := by
  by_cases hp : p
  · exact hp
  · exact absurd h hp
section
variable {α : Type}
theorem nOnV (v : Value) (m : Mem) (q : Value → Mem → Option α) : onV (some (v, m)) q = q v m := nr rfl
theorem nOnE (e : Ex) (t : Tmps) (m : Mem) (q : Y.ExK α) : Y.onE (some (e, t, m)) q = q e t m := nr rfl
theorem nCf (df : DFun) (f : FuncId) (a : List Value) (m : Mem) (q : Value → Mem → Option α) : Y.cfOf df f a m q = onV (df f a m) q := nr rfl
end
namespace Kit
theorem wrap_succ {i : Nat} (h : i ≤ 1000000000) : IntKind.wrap .i64 (Int.add (i : Int) (1 : Int)) = ((i + 1 : Nat) : Int) := IntWalk.i64_in _ (by show _ ≤ (i : Int) + 1 ∧ (i : Int) + 1 ≤ _; omega)
/-! ### loops -/
theorem loopD_next {body : Tmps → Mem → Option (Ex × Tmps × Mem)} {t t' : Tmps} {m m' : Mem} (k : Nat) (h : body t m = some (.normal, t', m')) : loopD body (k + 1) t m = loopD body k t' m' := by simp only [loopD, h]
theorem loopD_stop {body : Tmps → Mem → Option (Ex × Tmps × Mem)} {t t' : Tmps} {m m' : Mem} {e : Ex} (k : Nat) (h : body t m = some (e, t', m')) (he : e ≠ .normal) : loopD body (k + 1) t m = some (e, t', m') := by
  simp only [loopD, h]
  cases e with
  | normal => exact absurd rfl he
  | exit id => rfl
  | ret => rfl
/-! ### calls -/
section
variable {P : Program} {K : TypeId → Bool} {G : Nat}
/-- One turn of a loop, by what its body comes to. -/
theorem turn_of {o : Orc} {k : Nat} {n : Nat} {c : Code} {t t' : Tmps} {m m' : Mem} {e : Ex} (h : Y.codeF c P K G (Y.cfT P (Y.cfOf (callN P K G o k))) (Y.lpOf P K G (callN P K G o k) n) n k t m Y.q0 = some (e, t', m')) :
    codeD P K G (callN P K G o k) (drawD P K G (callN P K G o k) n) n k c t m = some (e, t', m') :=
  (Y.step_eq P K G (Y.callN_typed P K G o k) n k c t m).trans h
end
/-! ### memories that grow -/
structure Ext (m m' : Mem) : Prop where
  size : m.size ≤ m'.size
  get : ∀ j, j < m.size → m'.get j = m.get j
  top : m.top → m'.top
theorem Ext.refl (m : Mem) : Ext m m := ⟨Nat.le_refl _, fun _ _ => rfl, id⟩
theorem Ext.trans {a b c : Mem} (h : Ext a b) (k : Ext b c) : Ext a c := ⟨Nat.le_trans h.size k.size, fun j hj => (k.get j (Nat.lt_of_lt_of_le hj h.size)).trans (h.get j hj), fun t => k.top (h.top t)⟩
theorem Ext.push (m : Mem) (x : Blk) : Ext m (m.push x) := ⟨by simp, fun j hj => Mem.get_push_ne _ (by omega) _, fun t j hj => by
  simp at hj
  rw [Mem.get_push_ne _ (by omega)]; exact t j (by omega)⟩
/-- Blocks of a list may have turned, the others have not. -/
structure Upd (F : List Nat) (m m' : Mem) : Prop where
  size : m.size ≤ m'.size
  get : ∀ j, j < m.size → j ∉ F → m'.get j = m.get j
  top : m.top → m'.top
theorem Upd.refl (F : List Nat) (m : Mem) : Upd F m m := ⟨Nat.le_refl _, fun _ _ _ => rfl, id⟩
theorem Upd.trans {F F' : List Nat} {a b c : Mem} (h : Upd F a b) (k : Upd F' b c) (hF : ∀ j ∈ F', j < a.size → j ∈ F) : Upd F a c :=
  ⟨Nat.le_trans h.size k.size, fun j hj hn => (k.get j (Nat.lt_of_lt_of_le hj h.size) fun hm => hn (hF j hm hj)).trans (h.get j hj hn), fun t => k.top (h.top t)⟩
theorem Ext.upd {m m' : Mem} (h : Ext m m') (F : List Nat) : Upd F m m' := ⟨h.size, fun j hj _ => h.get j hj, h.top⟩
theorem Upd.mono {F F' : List Nat} {m m' : Mem} (h : Upd F m m') (hF : ∀ j ∈ F, j ∈ F') : Upd F' m m' := ⟨h.size, fun j hj hn => h.get j hj fun hm => hn (hF j hm), h.top⟩
theorem Upd.set {m : Mem} {b : Nat} {x : Blk} (hb : b < m.size) : Upd [b] m (m.set b x) := ⟨Nat.le_refl _, fun j _ hn => Mem.get_set_ne _ (by simpa using hn) _, fun t j hj => by
  have hj : m.size ≤ j := hj
  rw [Mem.get_set_ne _ (by omega)]; exact t j hj⟩
/-! ### loads, stores, appends -/
theorem loadC_at {m : Mem} {b n : Nat} {own : Bool} {c rest : List Value} (hm : m.get b = .cells own (c ++ rest)) (hn : c.length = n) : loadC m b 0 n = some c := by
  subst hn
  unfold loadC
  rw [hm]
  simp
theorem storeD_at {P : Program} {m : Mem} {t : TypeId} {v : Value} {b off n : Nat} {c : List Value} (hs : szOf P t = some n) (hv : v.cells.toList.length = n) (hg : m.get b = .cells true c) (ho : off + n ≤ c.length) (h1 : v.cells.toList.all one = true) :
    storeD P m t v (.pointer (some ⟨b, off, none⟩)) = some (m.set b (.cells true (splice c off v.cells.toList))) := by
  unfold storeD
  rw [hs]
  simp only [hv, if_true]
  unfold storeC
  rw [hg]
  simp only [hv]
  rw [if_pos ho, h1, if_pos rfl]
section
variable {P : Program} {t e : TypeId} {z by_ : Nat}
/-- Some elements, appended to nothing. -/
theorem append_nil {m : Mem} {x : Value} {n : Nat} {new : List Value} (hu : P.underlying t = some (.slice e)) (hs : szOf P e = some z) (hz : z ≠ 0) (hb : bytesOf P e = some by_) (hb0 : 0 < by_) (h0 : (zerosD P e 1).isSome = true)
    (hl : lenOf x = some n) (hn : 0 < n) (hbig : n * by_ ≤ 140737488355328 ∧ n ≤ 4611686018427387904) (hf : firstC m z n x = some new) (hnl : new.length = n * z) (h1 : new.all one = true) :
    appendD P m t t (.slice none 0 0) x = some (.slice (some ⟨m.size, 0, some z⟩) n n, m.push (.cells true new)) := by
  have hf0 : firstC m z 0 (.slice none 0 0) = some [] := rfl
  unfold appendD
  simp only [hu, hs, hb, hl, hf, hf0]
  rw [if_neg hz, if_neg (by omega), if_pos ⟨by rw [Nat.zero_add]; exact hbig.1, by omega, hb0, h0⟩, if_pos ⟨by rw [h1]; rfl, by simp, hnl⟩]
  simp
/-- Elements behind elements. -/
theorem append_own {m : Mem} {bk k n : Nat} {x : Value} {old new : List Value} (hu : P.underlying t = some (.slice e)) (hs : szOf P e = some z) (hz : z ≠ 0) (hb : bytesOf P e = some by_) (hb0 : 0 < by_) (h0 : (zerosD P e 1).isSome = true)
    (hg : m.get bk = .cells true old) (hol : old.length = k * z) (h2 : old.all one = true)
    (hl : lenOf x = some n) (hn : 0 < n) (hbig : (k + n) * by_ ≤ 140737488355328 ∧ k + n ≤ 4611686018427387904) (hf : firstC m z n x = some new) (hnl : new.length = n * z) (h1 : new.all one = true) :
    appendD P m t t (.slice (some ⟨bk, 0, some z⟩) k k) x = some (.slice (some ⟨m.size, 0, some z⟩) (k + n) (k + n), (m.push (.cells true (old ++ new))).set bk .none) := by
  have hf0 : firstC m z k (.slice (some ⟨bk, 0, some z⟩) k k) = some old := loadC_at (rest := []) (by rw [List.append_nil]; exact hg) hol
  unfold appendD
  simp only [hu, hs, hb, hl, hf, hf0]
  rw [if_neg hz, if_neg (by omega), if_pos ⟨hbig.1, by omega, hb0, h0⟩, if_pos ⟨by rw [h1, h2]; rfl, hol, hnl⟩, if_pos trivial]
  simp only [hg]
end
/-! ### regions set apart -/
section
variable {α : Type}
end
end Kit
end
end Go.DI
/-
  DiPure: runs that hang on the first package variable alone: done on a memory that holds it and nothing else, they are so on any.
-/
namespace Go.DI
namespace Kit
noncomputable section
/-- So many blocks more, none of them known. -/
def growM (M : Mem) (d : Nat) : Mem := ⟨fun j => if j < M.size then M.get j else .none, .nil, M.size + d⟩
/-- The memory of the variable. -/
def mG (gl : List Value) : Mem := m0.push (.cells false gl)
theorem mG_get (gl : List Value) : (mG gl).get 0 = .cells false gl := Mem.get_push_same _ _
theorem mG_size (gl : List Value) : (mG gl).size = 1 := rfl
theorem mG_top (gl : List Value) : (mG gl).top := fun j hj => by
  have hj : 1 ≤ j := hj
  unfold mG
  rw [Mem.get_push_ne _ (by show j ≠ 0; omega)]
  rfl
section
variable (P : Program) (K : TypeId → Bool) (gl : List Value)
open Classical in
/-- A run on that memory, by 'R'. -/
def runG (R : FuncId → List Value → Mem → Option (Value × Mem)) (f : FuncId) (args : List Value) (M : Mem) : Option (Value × Mem) :=
  if M.top ∧ 1 ≤ M.size ∧ M.get 0 = .cells false gl ∧ ∀ x ∈ args, Free x then
    match R f args (mG gl) with
    | some (v, m) => if Free v ∧ m.get 0 = .cells false gl then some (v, growM M (m.size - 1)) else none
    | none => none
  else none
end
variable {P : Program} {K : TypeId → Bool} {gl : List Value}
def rhoG (M : Mem) (i : Nat) : Nat := match i with | 0 => 0 | i + 1 => M.size + i
end
end Kit
end Go.DI
/-
  DiKo: the symbolic form with an oracle: where 'is' says so, 'o' answers a call.
-/
namespace Go.DI
namespace Kit
noncomputable section
variable {α : Type}
end
end Kit
end Go.DI
/-
  DiEmb: a run on a small memory (the variable, and some blocks of one's own) carried over to any memory that holds such blocks somewhere.
-/
namespace Go.DI
namespace Kit
noncomputable section
/-- Values by block: what they name is named anew. -/
def renV (ρ : Nat → Nat) : Value → Value
  | .slice (some ⟨b, o, sp⟩) n c => .slice (some ⟨ρ b, o, sp⟩) n c
  | .pointer (some ⟨b, o, none⟩) => .pointer (some ⟨ρ b, o, none⟩)
  | v => v
/-- Values that are served; those that are told at the start name blocks below nb alone. -/
def okV : Value → Bool
  | .slice _ _ _ => true
  | .pointer none => true
  | .pointer (some ⟨_, _, none⟩) => true
  | .int _ _ => true
  | .bool _ => true
  | .string _ => true
  | .tuple ⟨[]⟩ => true
  | _ => false
def seenV (nb : Nat) : Value → Bool
  | .slice (some a) _ _ => Nat.blt a.block nb
  | .pointer (some a) => Nat.blt a.block nb
  | _ => true
theorem free_undef : Free (.tuple ⟨[]⟩) := free_tuple (by intro x hx; simp at hx)
theorem sim_ren {ρ : Nat → Nat} {nb : Nat} {v : Value} (h : okV v = true) (hs : seenV nb v = true) : VSim ρ (fun i => Nat.blt i nb) v (renV ρ v) := by
  unfold okV at h
  split at h <;> try (simp at h; done)
  · rename_i a n c
    cases a with
    | none => exact (free_slc0 _ _).sim _ _
    | some a =>
      obtain ⟨b, o, sp⟩ := a
      cases sp with
      | none => exact sim_slc (ρ := ρ) hs
      | some e => exact sim_loose (ρ := ρ) hs
  · exact free_ptr0.sim _ _
  · exact sim_ptr (ρ := ρ) hs
  · exact (free_int _ _).sim _ _
  · exact (free_bool _).sim _ _
  · exact (free_string _).sim _ _
  · exact free_undef.sim _ _
theorem emb_ren {ρ : Nat → Nat} {v : Value} (h : okV v = true) : VEmb ρ v (renV ρ v) := by
  unfold okV at h
  split at h <;> try (simp at h; done)
  · rename_i a n c
    cases a with
    | none => exact (free_slc0 _ _).emb _
    | some a =>
      obtain ⟨b, o, sp⟩ := a
      cases sp with
      | none => exact emb_slc (ρ := ρ)
      | some e => exact emb_loose (ρ := ρ)
  · exact free_ptr0.emb _
  · exact emb_ptr (ρ := ρ)
  · exact (free_int _ _).emb _
  · exact (free_bool _).emb _
  · exact (free_string _).emb _
  · exact free_undef.emb _
def renB (ρ : Nat → Nat) : Blk → Blk
  | .cells o c => .cells o (c.map (renV ρ))
  | _ => .none
def okB : Blk → Prop
  | .cells _ c => ∀ v ∈ c, okV v = true
  | .none => True
  | _ => False
def seenB (nb : Nat) : Blk → Prop
  | .cells _ c => ∀ v ∈ c, seenV nb v = true
  | _ => True
theorem bsim_ren {ρ : Nat → Nat} {nb : Nat} {b : Blk} (h : okB b) (hs : seenB nb b) : BSim ρ (fun i => Nat.blt i nb) b (renB ρ b) := by
  cases b with
  | none => exact bsim_none _
  | map => exact h.elim
  | siter => exact h.elim
  | cells o c =>
    refine bsim_cells (by simp) fun i x y hx hy => ?_
    rw [List.getElem?_map, hx] at hy
    simp only [Option.map_some, Option.some.injEq] at hy
    subst hy
    have hm := List.mem_of_getElem? hx
    exact sim_ren (h x hm) (hs x hm)
theorem bemb_ren {ρ : Nat → Nat} {b : Blk} (h : okB b) : BEmb ρ b (renB ρ b) := by
  cases b with
  | none => exact bemb_none _
  | map => exact h.elim
  | siter => exact h.elim
  | cells o c =>
    refine bemb_cells (by simp) fun i x y hx hy => ?_
    rw [List.getElem?_map, hx] at hy
    simp only [Option.map_some, Option.some.injEq] at hy
    subst hy
    exact emb_ren (h x (List.mem_of_getElem? hx))
/-- The small memory. -/
def mS (gl : List Value) (ss : List Blk) : Mem := ss.foldl Mem.push (mG gl)
theorem foldl_push_size : ∀ (ss : List Blk) (m : Mem), (ss.foldl Mem.push m).size = m.size + ss.length
  | [], m => rfl
  | x :: ss, m => by rw [List.foldl_cons, foldl_push_size ss]; simp; omega
theorem foldl_push_get : ∀ (ss : List Blk) (m : Mem) (j : Nat), (ss.foldl Mem.push m).get j = if j < m.size then m.get j else (match ss[j - m.size]? with | some x => x | none => m.get j)
  | [], m, j => by simp
  | x :: ss, m, j => by
    rw [List.foldl_cons, foldl_push_get ss, Mem.size_push, Mem.get_push]
    by_cases h1 : j < m.size
    · rw [if_pos (by omega), if_neg (by omega), if_pos h1]
    · rw [if_neg h1]
      by_cases h2 : j = m.size
      · subst h2; simp
      · rw [if_neg (by omega), if_neg h2, show j - m.size = (j - (m.size + 1)) + 1 by omega]; rfl
/-- Where the small memory's blocks lie. -/
def rhoE (bs : List Nat) (M : Mem) (i : Nat) : Nat := match i with | 0 => 0 | i + 1 => match bs[i]? with | some b => b | none => M.size + (i - bs.length)
/-- What must be so of the big memory. -/
structure Fits (gl : List Value) (bs : List Nat) (ss : List Blk) (M : Mem) : Prop where
  top : M.top
  gl0 : M.get 0 = .cells false gl
  pos : 1 ≤ M.size
  len : bs.length = ss.length
  lt : ∀ b ∈ bs, b < M.size
  nz : 0 ∉ bs
  nd : bs.Nodup
  at_ : ∀ (i b : Nat) (s : Blk), bs[i]? = some b → ss[i]? = some s → M.get b = renB (rhoE bs M) s
  ok : ∀ s ∈ ss, okB s ∧ seenB (1 + bs.length) s
section
variable {P : Program} {K : TypeId → Bool} {gl : List Value}
end
end
end Kit
end Go.DI
/-
  DiEmbJ: a run on a small memory carried over to a bigger one, where nothing is known of what the run lays anew.
-/
namespace Go.DI
namespace Kit
noncomputable section
section
variable {P : Program} {K : TypeId → Bool} {gl : List Value}
end
end
end Kit
end Go.DI
/-
  DiEmbK: the same, where some of the blocks that the run lays anew are known.
-/
namespace Go.DI
namespace Kit
noncomputable section
/-- The big memory behind the run; 'kp' says which of the new blocks are known. -/
def backK (kp : Nat → Bool) (bs : List Nat) (M m : Mem) : Mem :=
  ⟨fun j => if j < M.size then (match bs.idxOf? j with | some i => renB (rhoE bs M) (m.get (i + 1)) | none => M.get j) else if j < M.size + (m.size - (1 + bs.length)) ∧ kp (j - M.size + 1 + bs.length) = true then renB (rhoE bs M) (m.get (j - M.size + 1 + bs.length)) else .none, .nil, M.size + (m.size - (1 + bs.length))⟩
section
variable {P : Program} {K : TypeId → Bool} {gl : List Value}
theorem sim_agg {ρ : Nat → Nat} {k : Nat → Bool} {a a' : List Value} (h : VSims ρ k a a') : VSim ρ k (.agg ⟨a⟩) (.agg ⟨a'⟩) := fun ι v' g => by
  obtain ⟨b, rfl, hb⟩ := g.inv_agg
  have := h.rel hb
  have e : b = b.toList.toArray := by simp
  rw [e]
  exact VRel.agg' this
end
end
end Kit
end Go.DI
/-
  DiEmbN: a run on a small memory carried over to a bigger one; what the run lays anew is left out: no block more than before.
-/
namespace Go.DI
namespace Kit
noncomputable section
def VEmbA (ρ : Nat → Nat) (A : Nat → Bool) (vs v : Value) : Prop := ∀ (ι κ : Ren) (v' : Value), (∀ i L, A i = true → ι i = some L → κ (ρ i) = some L) → VRel ι vs v' → VRel κ v v'
structure BEmbA (ρ : Nat → Nat) (A : Nat → Bool) (bs b : Blk) : Prop where
  live : b.live → bs.live
  own : b.own = true → bs.own = true
  rel : ∀ (B0 : Nat) (ι κ : Ren) (L : Loc) (w : World), (∀ i L, A i = true → ι i = some L → κ (ρ i) = some L) → BlkRel B0 ι bs L w → BlkRel B0 κ b L w
theorem _root_.Go.DI.Free.embA {v : Value} (h : Free v) (ρ : Nat → Nat) (A : Nat → Bool) : VEmbA ρ A v v := fun ι κ v' _ g => h ι κ v' g
theorem renV_id {v : Value} (h : okV v = true) : renV id v = v := by
  unfold okV at h
  split at h <;> try (simp at h; done)
  · rename_i a n c
    cases a <;> rfl
  all_goals rfl
theorem sub_id (ι : Ren) (A : Nat → Bool) (i : Nat) (L : Loc) (h : (ι.sub id A) i = some L) : A i = true ∧ ι i = some L := by
  simp only [Ren.sub] at h
  split at h
  · rename_i g; exact ⟨g, h⟩
  · cases h
theorem renB_id {b : Blk} (h : okB b) : renB id b = b := by
  cases b with
  | none => rfl
  | map => exact h.elim
  | siter => exact h.elim
  | cells o c =>
    show Blk.cells o (c.map (renV id)) = _
    congr 1
    exact (List.map_congr_left fun v hv => renV_id (h v hv)).trans (List.map_id _)
theorem bemb_renA {ρ : Nat → Nat} {nb : Nat} {b : Blk} (h : okB b) (hs : seenB nb b) : BEmbA ρ (fun i => Nat.blt i nb) b (renB ρ b) := by
  have h1 := bsim_ren (ρ := id) h hs
  rw [renB_id h] at h1
  have h2 := bemb_ren (ρ := ρ) h
  exact ⟨h2.live, h2.own, fun B0 ι κ L w hm g => h2.rel B0 _ κ L w (fun i L hi => by obtain ⟨a, b⟩ := sub_id _ _ _ _ hi; exact hm i L a b) (h1.rel B0 ι L w g)⟩
theorem bemb_freeA {ρ : Nat → Nat} {A : Nat → Bool} {o : Bool} {c : List Value} (h : ∀ x ∈ c, Free x) : BEmbA ρ A (.cells o c) (.cells o c) := by
  have h1 : BSim id A (.cells o c) (.cells o c) := bsim_free h
  have h2 : BEmb ρ (.cells o c) (.cells o c) := bemb_free h
  exact ⟨h2.live, h2.own, fun B0 ι κ L w hm g => h2.rel B0 _ κ L w (fun i L hi => by obtain ⟨a, b⟩ := sub_id _ _ _ _ hi; exact hm i L a b) (h1.rel B0 ι L w g)⟩

theorem renB_live {ρ : Nat → Nat} {x : Blk} (h : (renB ρ x).live) : x.live := by cases x <;> first | trivial | exact h.elim
theorem renB_own {ρ : Nat → Nat} {x : Blk} (h : (renB ρ x).own = true) : x.own = true := by cases x <;> first | exact h | exact absurd h (by simp [renB, Blk.own])
theorem live_renB {ρ : Nat → Nat} {x : Blk} (ho : okB x) (h : x.live) : (renB ρ x).live := by cases x <;> first | trivial | exact h.elim | exact ho.elim
theorem own_renB {ρ : Nat → Nat} {x : Blk} (ho : okB x) (h : x.own = true) : (renB ρ x).own = true := by cases x <;> first | exact h | exact ho.elim
structure LocalN (ρ : Nat → Nat) (A : Nat → Bool) (ms ms' M M' : Mem) : Prop where
  sees : ∀ i, A i = true → i < ms.size
  grw : Grw ms ms'
  top : ms.top
  top' : M'.top
  old : ∀ i, A i = true → ρ i < M.size
  inj : ∀ i j, A i = true → A j = true → (ms.get i).live → (ms.get j).live → ρ i = ρ j → i = j
  size : M'.size = M.size
  sim : ∀ i, A i = true → BSim ρ A (ms.get i) (M.get (ρ i))
  emb : ∀ i, A i = true → BEmbA ρ A (ms'.get i) (M'.get (ρ i))
  rest : ∀ b, b < M.size → (∀ i, A i = true → ρ i ≠ b) → M'.get b = M.get b

theorem embedN {P : Program} {B0 G : Nat} (Gs : Nat) {f : FuncId} {avs args : List Value} {vs v : Value} {ms ms' M M' : Mem} {ρ : Nat → Nat} {A : Nat → Bool} (hG : ∀ g, g < Gs → g < G ∧ A g = true ∧ ρ g = g) (run : CallOK P B0 Gs f avs ms vs ms') (h : LocalN ρ A ms ms' M M')
    (ha : VSims ρ A avs args) (hv : VEmbA ρ A vs v) : CallOK P B0 G f args M v M' := by
  intro ι w args' hr hf hargs
  have hms := h.grw.size
  have hrs : Rel B0 Gs (ι.sub ρ A) ms w := by
    refine ⟨fun b L hb hL => ?_, fun b₁ b₂ L₁ L₂ h1 h2 e1 e2 l1 l2 g0 e => ?_, hr.floor, fun g hg => ?_, fun b hb => h.top b hb⟩
    · simp only [Ren.sub] at hL
      split at hL
      · rename_i hb
        exact (h.sim b hb).rel _ _ _ _ (hr.blk _ _ (h.old b hb) hL)
      · simp at hL
    · simp only [Ren.sub] at e1 e2
      split at e1
      · rename_i h1
        split at e2
        · rename_i h2
          exact h.inj _ _ h1 h2 l1 l2 (hr.inj _ _ _ _ (h.old _ h1) (h.old _ h2) e1 e2 ((h.sim _ h1).live l1) ((h.sim _ h2).live l2) g0 e)
        · simp at e2
      · simp at e1
    · obtain ⟨q1, q2, q3⟩ := hG g hg
      obtain ⟨L, p1, p2⟩ := hr.glob g q1
      exact ⟨L, by simp only [Ren.sub, q2, if_true, q3]; exact p1, p2⟩
  refine (run _ w args' hrs (fun b h1 _ => by simp only [Ren.sub]; rw [if_neg (fun g => by have := h.sees b g; omega)]) (ha.rel hargs)).mono ?_
  rintro e w' ⟨v', ι₂, he, hv', hr', hs⟩
  have hι₂old : ∀ i, A i = true → ι₂ i = ι (ρ i) := fun i hi => by
    rw [hs.out i (.inl (h.sees i hi))]; simp only [Ren.sub, hi, if_true]
  have hmap : ∀ i L, A i = true → ι₂ i = some L → ι (ρ i) = some L := fun i L hi hL => by rw [← hι₂old i hi]; exact hL
  have hframe : ∀ B, B < w.heap.size → (∀ b L, b < M.size → ι b = some L → (M.get b).own = true → L.block ≠ B) → w'.heap[B]? = w.heap[B]? := by
    intro B hB hno
    refine hs.frame B hB fun i L hi hL ho => ?_
    simp only [Ren.sub] at hL
    split at hL
    · rename_i hi
      exact hno _ _ (h.old i hi) hL ((h.sim i hi).own ho)
    · simp at hL
  have hsz := h.size
  refine ⟨v', ι, he, hv _ _ _ hmap hv', ⟨fun b L hb hL => ?_, fun b₁ b₂ L₁ L₂ h1 h2 e1 e2 l1 l2 g0 e => ?_, hr'.floor, hr.glob, h.top'⟩,
    ⟨fun _ _ h => h, fun _ _ => rfl, hs.os, hs.output, hs.tape, hs.hsize, hframe, fun b L h1 h2 hL => by omega, by omega, fun b hb ho => ?_⟩⟩
  · by_cases hx : ∃ i, A i = true ∧ ρ i = b
    · obtain ⟨i, hi, rfl⟩ := hx
      have hi0 := h.sees i hi
      exact (h.emb i hi).rel _ _ _ _ _ hmap (hr'.blk _ _ (by omega) (by rw [hι₂old i hi]; exact hL))
    · have h1 : b < M.size := by omega
      have h2 : ∀ i, A i = true → ρ i ≠ b := fun i hi e => hx ⟨i, hi, e⟩
      rw [h.rest b h1 h2]
      have hb0 := hr.blk b L h1 hL
      by_cases hl : (M.get b).live
      · refine BlkRel.mono (fun _ _ h => h) (hs.frame _ (hr.old _ _ hL hl) fun i L' q1 q2 q3 q4 => ?_) hb0
        simp only [Ren.sub] at q2
        split at q2
        · rename_i q1
          exact h2 i q1 (hr.inj _ _ _ _ (h.old i q1) h1 q2 hL (ownlive ((h.sim i q1).own q3)) hl ((hr.blk _ _ (h.old i q1) q2).own_floor ((h.sim i q1).own q3)) q4)
        · simp at q2
      · cases hg : M.get b with
        | none => trivial
        | cells => rw [hg] at hl; exact absurd trivial hl
        | map => rw [hg] at hl; exact absurd trivial hl
        | siter => rw [hg] at hl; exact absurd trivial hl
  · have hl : ∀ b, b < M.size → (M'.get b).live → (M.get b).live := fun b hb l => by
      by_cases hx : ∃ i, A i = true ∧ ρ i = b
      · obtain ⟨i, hi, rfl⟩ := hx
        exact (h.sim i hi).live (h.grw.live i (h.sees i hi) ((h.emb i hi).live l))
      · rw [h.rest b hb (fun i hi e => hx ⟨i, hi, e⟩)] at l
        exact l
    exact hr.inj _ _ _ _ (by omega) (by omega) e1 e2 (hl _ (by omega) l1) (hl _ (by omega) l2) g0 e
  · by_cases hx : ∃ i, A i = true ∧ ρ i = b
    · obtain ⟨i, hi, rfl⟩ := hx
      have hi0 := h.sees i hi
      exact (h.sim i hi).own (hs.ownk i hi0 ((h.emb i hi).own ho))
    · rw [h.rest b hb (fun i hi e => hx ⟨i, hi, e⟩)] at ho
      exact ho
section
variable {P : Program} {K : TypeId → Bool} {gl : List Value}
/-- The same on blocks that fit; the memory behind it may be any that holds what the run left. -/
theorem emb_okN {B0 : Nat} {R : FuncId → List Value → Mem → Option (Value × Mem)} (hgl : ∀ x ∈ gl, Free x) (hR : CfOK P B0 1 R) (hRg : CfGrw R) {bs : List Nat} {ss : List Blk} {f : FuncId} {as_ args : List Value} {M M' m : Mem} {v v' : Value}
    (hM : Fits gl bs ss M) (hrun : R f as_ (mS gl ss) = some (v, m)) (ha : VSims (rhoE bs M) (fun i => Nat.blt i (1 + bs.length)) as_ args) (hv : VEmbA (rhoE bs M) (fun i => Nat.blt i (1 + bs.length)) v v')
    (h0 : m.get 0 = .cells false gl) (hm : ∀ i, 0 < i → i ≤ bs.length → okB (m.get i) ∧ seenB (1 + bs.length) (m.get i))
    (ht : M'.top) (hsz' : M'.size = M.size) (hat : ∀ i b, bs[i]? = some b → M'.get b = renB (rhoE bs M) (m.get (i + 1))) (hre : ∀ j, j < M.size → j ∉ bs → M'.get j = M.get j) :
    CallOK P B0 1 f args M v' M' ∧ Grw M M' := by
  have hgr := hRg _ _ _ _ _ hrun
  have hsz0 : (mS gl ss).size = 1 + ss.length := by unfold mS; rw [foldl_push_size, mG_size]
  have hsz := hgr.size
  rw [hsz0, ← hM.len] at hsz
  have hA : ∀ i : Nat, Nat.blt i (1 + bs.length) = true → i < 1 + bs.length := fun i hi => by simpa [Nat.blt_eq] using hi
  have hA' : ∀ i : Nat, i < 1 + bs.length → Nat.blt i (1 + bs.length) = true := fun i hi => by simpa [Nat.blt_eq] using hi
  have hget : ∀ j, (mS gl ss).get j = if j < 1 then (mG gl).get j else (match ss[j - 1]? with | some x => x | none => (mG gl).get j) := fun j => foldl_push_get ss (mG gl) j
  have hrho2 : ∀ i, i < bs.length → ∃ b, bs[i]? = some b ∧ rhoE bs M (i + 1) = b := fun i hi => ⟨bs[i], List.getElem?_eq_getElem hi, by
    show (match bs[i]? with | some b => b | none => M.size + (i - bs.length)) = _
    rw [List.getElem?_eq_getElem hi]⟩
  have hidx : ∀ i j b, bs[i]? = some b → bs[j]? = some b → i = j := fun i j b hb hc => by
    obtain ⟨hi, e1⟩ := List.getElem?_eq_some_iff.1 hb
    obtain ⟨hj, e2⟩ := List.getElem?_eq_some_iff.1 hc
    exact (List.getElem_inj hM.nd).1 (e1.trans e2.symm)
  have hz : 0 ∉ bs → M'.get 0 = M.get 0 := fun h => hre 0 hM.pos h
  have hloc : LocalN (rhoE bs M) (fun i => Nat.blt i (1 + bs.length)) (mS gl ss) m M M' := by
    refine ⟨fun i hi => (by rw [hsz0, ← hM.len]; exact hA i hi), hgr, fun j hj => ?_, ht, fun i hi => ?_, fun i j hi hj _ _ e => ?_, hsz', fun i hi => ?_, fun i hi => ?_, fun j hj hne => ?_⟩
    · rw [hsz0] at hj
      rw [hget, if_neg (by omega), List.getElem?_eq_none (by omega)]
      exact mG_top gl j (by rw [mG_size]; omega)
    · cases i with
      | zero => exact hM.pos
      | succ i =>
        obtain ⟨b, hb, e⟩ := hrho2 i (by have := hA _ hi; omega)
        rw [e]; exact hM.lt b (List.mem_of_getElem? hb)
    · have hi := hA i hi
      have hj := hA j hj
      cases i with
      | zero =>
        cases j with
        | zero => rfl
        | succ j =>
          obtain ⟨b, hb, e2⟩ := hrho2 j (by omega)
          rw [e2] at e
          have : b = 0 := e.symm
          subst this
          exact absurd (List.mem_of_getElem? hb) hM.nz
      | succ i =>
        obtain ⟨b, hb, e1⟩ := hrho2 i (by omega)
        cases j with
        | zero =>
          rw [e1] at e
          have : b = 0 := e
          subst this
          exact absurd (List.mem_of_getElem? hb) hM.nz
        | succ j =>
          obtain ⟨c, hc, e2⟩ := hrho2 j (by omega)
          rw [e1, e2] at e
          subst e
          rw [hidx i j b hb hc]
    · have hi' := hA i hi
      cases i with
      | zero =>
        rw [hget, if_pos (by omega), mG_get]
        show BSim _ _ _ (M.get 0)
        rw [hM.gl0]; exact bsim_free hgl
      | succ i =>
        obtain ⟨b, hb, e⟩ := hrho2 i (by omega)
        have hs : i < ss.length := by rw [← hM.len]; omega
        rw [hget, if_neg (by omega), show i + 1 - 1 = i by omega, List.getElem?_eq_getElem hs, e, hM.at_ i b ss[i] hb (List.getElem?_eq_getElem hs)]
        obtain ⟨q1, q2⟩ := hM.ok ss[i] (List.getElem_mem hs)
        exact bsim_ren q1 q2
    · have hi' := hA i hi
      cases i with
      | zero =>
        rw [h0]
        show BEmbA _ _ _ (M'.get 0)
        rw [hz hM.nz, hM.gl0]
        exact bemb_freeA hgl
      | succ i =>
        obtain ⟨b, hb, e⟩ := hrho2 i (by omega)
        rw [e, hat i b hb]
        obtain ⟨q1, q2⟩ := hm (i + 1) (by omega) (by omega)
        exact bemb_renA q1 q2
    · refine hre j hj fun hmem => ?_
      obtain ⟨i, hi⟩ := List.getElem?_of_mem hmem
      have hlt : i < bs.length := (List.getElem?_eq_some_iff.1 hi).1
      obtain ⟨b, hb, e⟩ := hrho2 i hlt
      rw [hi] at hb
      cases hb
      exact hne (i + 1) (hA' _ (by omega)) e
  have hatM : ∀ j, j < M.size → j ∈ bs → ∃ i s, okB s ∧ M.get j = renB (rhoE bs M) s ∧ (mS gl ss).get (i + 1) = s ∧ i + 1 < (mS gl ss).size ∧ M'.get j = renB (rhoE bs M) (m.get (i + 1)) := fun j hj hmem => by
    obtain ⟨i, hi⟩ := List.getElem?_of_mem hmem
    have hlt : i < bs.length := (List.getElem?_eq_some_iff.1 hi).1
    have hs : i < ss.length := by rw [← hM.len]; exact hlt
    refine ⟨i, ss[i], (hM.ok _ (List.getElem_mem hs)).1, hM.at_ i j _ hi (List.getElem?_eq_getElem hs), ?_, by rw [hsz0]; omega, hat i j hi⟩
    rw [hget, if_neg (by omega), show i + 1 - 1 = i by omega, List.getElem?_eq_getElem hs]
  refine ⟨embedN 1 (fun g hg => ⟨hg, by obtain rfl : g = 0 := by omega
                                        exact hA' 0 (by omega), by obtain rfl : g = 0 := by omega
                                                                   rfl⟩) (hR.ok _ _ _ _ _ hrun) hloc ha hv, ⟨by omega, fun _ => ht, fun j hj hl => ?_, fun j hj ho => ?_⟩⟩
  · by_cases hmem : j ∈ bs
    · obtain ⟨i, s, q1, q2, q3, q4, q5⟩ := hatM j hj hmem
      rw [q5] at hl
      have h1 := hgr.live (i + 1) q4 (renB_live hl)
      rw [q3] at h1
      rw [q2]
      exact live_renB q1 h1
    · rw [hre j hj hmem] at hl; exact hl
  · by_cases hmem : j ∈ bs
    · obtain ⟨i, s, q1, q2, q3, q4, q5⟩ := hatM j hj hmem
      rw [q5] at ho
      have h1 := hgr.own (i + 1) q4 (renB_own ho)
      rw [q3] at h1
      rw [q2]
      exact own_renB q1 h1
    · rw [hre j hj hmem] at ho; exact ho
/-- A run that changes nothing: the memory stays as it is. -/
theorem emb_pure {B0 : Nat} {R : FuncId → List Value → Mem → Option (Value × Mem)} (hgl : ∀ x ∈ gl, Free x) (hR : CfOK P B0 1 R) (hRg : CfGrw R) {bs : List Nat} {ss : List Blk} {f : FuncId} {as_ args : List Value} {M m : Mem} {v v' : Value}
    (hM : Fits gl bs ss M) (hrun : R f as_ (mS gl ss) = some (v, m)) (ha : VSims (rhoE bs M) (fun i => Nat.blt i (1 + bs.length)) as_ args) (hv : VEmbA (rhoE bs M) (fun i => Nat.blt i (1 + bs.length)) v v')
    (h0 : m.get 0 = .cells false gl) (hm : ∀ i s, ss[i]? = some s → m.get (i + 1) = s) : CallOK P B0 1 f args M v' M ∧ Grw M M := by
  refine emb_okN hgl hR hRg hM hrun ha hv h0 (fun i h1 h2 => ?_) hM.top rfl (fun i b hb => ?_) (fun _ _ _ => rfl)
  · have hi : i - 1 < ss.length := by rw [← hM.len]; omega
    have := hm (i - 1) ss[i - 1] (List.getElem?_eq_getElem hi)
    rw [show i - 1 + 1 = i by omega] at this
    rw [this]
    exact hM.ok _ (List.getElem_mem hi)
  · have hlt : i < bs.length := (List.getElem?_eq_some_iff.1 hb).1
    have hi : i < ss.length := by rw [← hM.len]; exact hlt
    rw [hm i ss[i] (List.getElem?_eq_getElem hi)]
    exact hM.at_ i b _ hb (List.getElem?_eq_getElem hi)
end
end
end Kit
end Go.DI
/-
  DiOra: a function that changes nothing, told by an oracle: its run on a small memory, its answer free of names; the memory stays as it is.
-/
namespace Go.DI
namespace Kit
noncomputable section
def plain0 : Value → Bool
  | .int _ _ => true
  | .bool _ => true
  | _ => false
def plain1 : Value → Bool
  | .int _ _ => true
  | .bool _ => true
  | .agg ⟨l⟩ => l.all plain0
  | _ => false
def plain2 : Value → Bool
  | .int _ _ => true
  | .bool _ => true
  | .agg ⟨l⟩ => l.all plain0
  | .tuple ⟨l⟩ => l.all plain1
  | _ => false
theorem plain0_free {v : Value} (h : plain0 v = true) : Free v := by cases v <;> simp [plain0] at h <;> first | exact free_int _ _ | exact free_bool _
theorem free_agg0 {l : List Value} (h : l.all plain0 = true) : Free (.agg ⟨l⟩) := fun ι κ v' g => by
  cases g with
  | agg _ a' hs hr =>
    refine .agg _ _ hs fun i x y hx hy => plain0_free (List.all_eq_true.1 h x ?_) ι κ y (hr i x y hx hy)
    exact Array.mem_toList_iff.2 (Array.mem_of_getElem? hx)
theorem plain1_free {v : Value} (h : plain1 v = true) : Free v := by
  cases v <;> simp only [plain1] at h <;> try (cases h; done)
  · exact free_bool _
  · exact free_int _ _
  · exact free_agg0 h
theorem plain2_free {v : Value} (h : plain2 v = true) : Free v := by
  cases v <;> simp only [plain2] at h <;> try (cases h; done)
  · exact free_bool _
  · exact free_int _ _
  · exact free_agg0 h
  · exact free_tuple fun x hx => plain1_free (List.all_eq_true.1 h x hx)
section
variable {P : Program} {gl : List Value}
open Classical in
def oPure (gl : List Value) (F : FuncId) (R : FuncId → List Value → Mem → Option (Value × Mem)) (op : List Value → Option (List Value × List Nat)) : Orc := fun f a M => if f = F then (match op a with
  | some (sa, bs) => if Fits gl bs (bs.map M.get) M ∧ VSims (rhoE bs M) (fun i => Nat.blt i (1 + bs.length)) sa a then
      (match R F sa (mS gl (bs.map M.get)) with
       | some (v, m) => if plain2 v = true ∧ m.get 0 = .cells false gl ∧ ∀ i s, (bs.map M.get)[i]? = some s → m.get (i + 1) = s then some (v, M) else none
       | none => none) else none
  | none => none) else none
variable {F : FuncId} {R : FuncId → List Value → Mem → Option (Value × Mem)} {op : List Value → Option (List Value × List Nat)}
theorem oPure_off {f : FuncId} (h : f ≠ F) (a : List Value) (M : Mem) : oPure gl F R op f a M = none := if_neg h
theorem oPure_both (hgl : ∀ x ∈ gl, Free x) {B0 : Nat} (hR : CfOK P B0 1 R) (hRg : CfGrw R) {f : FuncId} {a : List Value} {M M' : Mem} {v : Value} (h : oPure gl F R op f a M = some (v, M')) : f = F ∧ CallOK P B0 1 f a M v M' ∧ Grw M M' ∧ ∃ sa m m', R F sa m = some (v, m') := by
  unfold oPure at h
  split at h
  case isFalse => cases h
  rename_i e
  subst e
  split at h
  case h_2 => cases h
  rename_i sa bs hop
  split at h
  case isFalse => cases h
  rename_i hF
  split at h
  case h_2 => cases h
  rename_i v0 m hr
  split at h
  case isFalse => cases h
  rename_i hk
  simp only [Option.some.injEq, Prod.mk.injEq] at h
  obtain ⟨rfl, rfl⟩ := h
  obtain ⟨h1, h2⟩ := emb_pure hgl hR hRg hF.1 hr hF.2 ((plain2_free hk.1).embA _ _) hk.2.1 hk.2.2
  exact ⟨rfl, h1, h2, sa, _, m, hr⟩
theorem oPure_grw (hgl : ∀ x ∈ gl, Free x) (hR : ∀ B0, CfOK P B0 1 R) (hRg : CfGrw R) : CfGrw (oPure gl F R op) := fun f a M v M' h => (oPure_both hgl (hR 0) hRg h).2.2.1
theorem oPure_ok (hgl : ∀ x ∈ gl, Free x) (hR : ∀ B0, CfOK P B0 1 R) (hRg : CfGrw R) (B0 : Nat) : CfOK P B0 1 (oPure gl F R op) :=
  ⟨fun f a M v M' h => (oPure_grw hgl hR hRg f a M v M' h).size, fun f a M v M' h => (oPure_both hgl (hR B0) hRg h).2.1, fun f a M v M' h => by
    obtain ⟨rfl, _, _, sa, m, m', hr⟩ := oPure_both hgl (hR B0) hRg h
    exact (hR B0).body _ _ _ _ _ hr⟩
/-- What it tells. -/
theorem oPure_at {a sa : List Value} {bs : List Nat} {M m : Mem} {v : Value} (hop : op a = some (sa, bs)) (hF : Fits gl bs (bs.map M.get) M) (hs : VSims (rhoE bs M) (fun i => Nat.blt i (1 + bs.length)) sa a)
    (hr : R F sa (mS gl (bs.map M.get)) = some (v, m)) (hv : plain2 v = true) (h0 : m.get 0 = .cells false gl) (hm : ∀ i s, (bs.map M.get)[i]? = some s → m.get (i + 1) = s) : oPure gl F R op F a M = some (v, M) := by
  unfold oPure
  rw [if_pos rfl, hop]
  simp only
  rw [if_pos ⟨hF, hs⟩, hr]
  exact if_pos ⟨hv, h0, hm⟩
/-- One after the other. -/
def oAlt (o o' : Orc) : Orc := fun f a M => match o f a M with
  | some r => some r
  | none => o' f a M
theorem oAlt_grw {o o' : Orc} (h : CfGrw o) (h' : CfGrw o') : CfGrw (oAlt o o') := fun f a M v M' g => by
  unfold oAlt at g
  cases hq : o f a M with
  | some r => rw [hq] at g; cases g; exact h _ _ _ _ _ hq
  | none => rw [hq] at g; exact h' _ _ _ _ _ g
theorem oAlt_ok {o o' : Orc} {B0 : Nat} (h : CfOK P B0 1 o) (h' : CfOK P B0 1 o') : CfOK P B0 1 (oAlt o o') := by
  refine ⟨fun f a M v M' g => ?_, fun f a M v M' g => ?_, fun f a M v M' g => ?_⟩
  all_goals
    unfold oAlt at g
    cases hq : o f a M with
    | some r => rw [hq] at g; cases g; first | exact h.size _ _ _ _ _ hq | exact h.ok _ _ _ _ _ hq | exact h.body _ _ _ _ _ hq
    | none => rw [hq] at g; first | exact h'.size _ _ _ _ _ g | exact h'.ok _ _ _ _ _ g | exact h'.body _ _ _ _ _ g
theorem oAlt_l {o o' : Orc} {f : FuncId} {a : List Value} {M : Mem} {r : Value × Mem} (h : o f a M = some r) : oAlt o o' f a M = some r := by unfold oAlt; rw [h]
theorem oAlt_r {o o' : Orc} {f : FuncId} {a : List Value} {M : Mem} (h : o f a M = none) : oAlt o o' f a M = o' f a M := by unfold oAlt; rw [h]
def noOrc : Orc := fun _ _ _ => none
theorem noOrc_ok (B0 : Nat) : CfOK P B0 1 noOrc := ⟨fun _ _ _ _ _ h => (by cases h), fun _ _ _ _ _ h => (by cases h), fun _ _ _ _ _ h => (by cases h)⟩
theorem noOrc_grw : CfGrw noOrc := fun _ _ _ _ _ h => by cases h
end
end
end Kit
end Go.DI
/-
  DiKeep: a function told by an oracle: its run on a small memory; of what it lays anew some blocks are kept.
-/
namespace Go.DI
namespace Kit
noncomputable section
def okR : Value → Bool
  | .tuple ⟨l⟩ => l.all okV
  | v => okV v
section
variable {P : Program} {gl : List Value}
open Classical in
variable {F : FuncId} {R : FuncId → List Value → Mem → Option (Value × Mem)} {op : List Value → Option (List Value × List Nat)} {kp : Value → Nat → Bool}
end
end
end Kit
end Go.DI
/-
  DiIn: a piece of code without loops, run in a round of a range over a function: what the interpreter says of it holds there too.
-/
namespace Go.DI
noncomputable section
/-- The fence of a round. -/
abbrev FR (l : Nat) : Fence := Fence.wide.inRound l
section
variable {P : Program} {l n : Nat} {Q : Exit → Act → World → Prop} {a : Act} {w : World}
theorem depthR : (FR l).depth.isSome = true → 1 ≤ n := fun h => by cases h
theorem rowsR {row : String} {args : Array Value} {R : Value → World → Prop} (h : Rows P row args w R) : RowsIn (FR l) n P row args w R := fun c cs _ =>
  let ⟨v, w', r, s⟩ := h c cs
  ⟨v, w', r, stepsIn_wide.2 s⟩
def noDefer (o : Oper) : Bool := match o.op with | .defer _ => false | _ => true
theorem opIn {o : Oper} {next : Act → World → Prop} (hd : noDefer o = true) (h : o.wp P a w next Q) : o.wpIn (FR l) n P a w next Q := by
  refine ⟨fun _ _ => trivial, ?_⟩
  have e : Oper.semAt (FR l).round a.eval o = execOp a.eval o := Oper.semAt_some l _ _ (by intro c hc; simp [noDefer, hc] at hd)
  rw [e]
  unfold Oper.wp at h
  generalize (execOp a.eval o).run P w = r at *
  cases r with
  | ok x w' =>
    cases x <;> simp only [Oper.upon, Oper.uponIn] at h ⊢ <;>
      first
        | exact h
        | exact h.elim
        | exact ⟨depthR, (callsIn_wide.2 h).mono (fun e w'' he => by cases e <;> exact he)⟩
        | exact ⟨depthR, rowsR h⟩
  | halt x w' => cases x <;> simp only [Oper.upon, Oper.uponIn] at h ⊢ <;> exact h
theorem opsIn (hQ : ¬ LetsOut Q) {ops : Array Oper} (hd : ops.toList.all noDefer = true) : ∀ (is : List Nat) (a : Act) (w : World), wpOps P ops Q is a w → wpOpsIn (FR l) n P ops Q is a w
  | [], a, w, h => h
  | i :: rest, a, w, h => by
    simp only [wpOps] at h
    simp only [wpOpsIn]
    cases ho : ops[i]? with
    | none => rw [ho] at h; exact opsIn hQ hd rest a w h
    | some o =>
      rw [ho] at h
      simp only at h ⊢
      by_cases hw : Region.wanted o (yielded ops a.tmps) = true
      · rw [if_pos hw] at h ⊢
        have hdo : noDefer o = true := List.all_eq_true.1 hd o (by rw [← Array.getElem?_toList] at ho; exact List.mem_of_getElem? ho)
        rcases h with h | h
        · exact opIn hdo (Oper.wp_mono (fun a w h => opsIn hQ hd rest a w h) h)
        · exact absurd h.2 hQ
      · rw [if_neg hw] at h ⊢
        exact ⟨fun _ _ => trivial, opsIn hQ hd rest _ w h⟩
theorem anyIn (hQ : ¬ LetsOut Q) {md : Region.Mode} {ops : Array Oper} (hd : ops.toList.all noDefer = true) : ∀ (fuel : Nat) (listed : Array Bool) (a : Act) (w : World), wpAny P md ops Q fuel listed a w → wpAnyIn (FR l) n P md ops Q fuel listed a w
  | 0, listed, a, w, h => h
  | fuel + 1, listed, a, w, h => by
    refine ⟨h.1, fun i hi => ?_⟩
    have h2 := h.2 i hi
    unfold wpOp at h2
    unfold wpOpIn
    cases ho : ops[i]? with
    | none => rw [ho] at h2; exact anyIn hQ hd fuel _ a w h2
    | some o =>
      rw [ho] at h2
      simp only at h2 ⊢
      by_cases hw : Region.wanted o (yielded ops a.tmps) = true
      · rw [if_pos hw] at h2 ⊢
        have hdo : noDefer o = true := List.all_eq_true.1 hd o (by rw [← Array.getElem?_toList] at ho; exact List.mem_of_getElem? ho)
        rcases h2 with h2 | h2
        · exact opIn hdo (Oper.wp_mono (fun a w h => anyIn hQ hd fuel _ a w h) h2)
        · exact absurd h2.2 hQ
      · rw [if_neg hw] at h2 ⊢
        exact ⟨fun _ _ => trivial, anyIn hQ hd fuel _ _ w h2⟩
end
/-- No loop, no jump of one's own, no deferred call. -/
def flatC : Code → Bool
  | .skip => true
  | .label _ => true
  | .region _ ops _ => ops.toList.all noDefer
  | .seq a b => flatC a && flatC b
  | .cond _ a b => flatC a && flatC b
  | .block _ c => flatC c
  | .exit _ => true
  | .ret => true
  | _ => false
section
variable {P : Program} {K : TypeId → Bool} {B0 G n : Nat}
theorem code_okIn (hmix : P.follows .mixedOrders = true) (hK : Plain P K) {cf : CallF} (hcf : CfOK P B0 G cf) (hg : CfGrw cf) {k l d : Nat} :
    ∀ (c : Code), flatC c = true → ∀ (t : Tmps) (m : Mem) (e : Ex) (t' : Tmps) (m' : Mem), codeD P K G cf (drawD P K G cf n) n k c t m = some (e, t', m') →
      ∀ (ι : Ren) (w : World) (a : Act) (Q : Exit → Act → World → Prop), ¬ LetsOut Q → Rel B0 G ι m w → TRel ι n t a → Fresh ι m.size m'.size → (∀ a' w', After B0 G n ι m w a t' m' a' w' → Q e.to a' w') → c.wpIn (FR l) d P Q a w := by
  intro c
  have hsz := fun c => codeD_size (P := P) (K := K) (G := G) (n := n) (k := k) hcf.size (drawOK (n := n) hmix hK hcf hg).1 c
  induction c with
  | skip => intro _ t m e t' m' h; simp [codeD] at h; obtain ⟨rfl, rfl, rfl⟩ := h; intro ι w a Q hx hr ht hf hQ; exact wpIn_skip (hQ a w ⟨ι, ht, hr, Stp.refl _ _ _, rfl⟩)
  | label l => intro _ t m e t' m' h; simp [codeD] at h; obtain ⟨rfl, rfl, rfl⟩ := h; intro ι w a Q hx hr ht hf hQ; exact wpIn_label (hQ a w ⟨ι, ht, hr, Stp.refl _ _ _, rfl⟩)
  | region id ops draw =>
    intro hfl t m e t' m' h
    simp only [codeD] at h
    split at h <;> simp at h
    rename_i t₁ m₁ h1
    obtain ⟨rfl, rfl, rfl⟩ := h
    intro ι w a Q hx hr ht hf hQ
    cases draw
    · refine wpIn_region (opsIn hx hfl _ _ _ ?_)
      have := ops_wp (Q := Q) hK hcf (ops := ops) ops.toList 0 (fun j => by simp) ι t m w a t₁ m₁ h1 hr ht hf hQ
      rw [List.range_eq_range']
      simpa using this
    · exact wpIn_region_any hmix (anyIn hx hfl _ _ _ _ (draw_any hK hcf hg h1 hr ht hf hQ))
  | seq x y ihx ihy =>
    intro hfl t m e t' m' h
    simp only [flatC, Bool.and_eq_true] at hfl
    simp only [codeD] at h
    intro ι w a Q hx hr ht hf hQ
    split at h
    · rename_i t₁ m₁ h1
      have s1 := hsz x _ _ _ _ _ h1
      have s2 := hsz y _ _ _ _ _ h
      refine wpIn_seq (ihx hfl.1 _ _ _ _ _ h1 ι w a _ hx hr ht (hf.sub (Nat.le_refl _) s2) fun a₁ w₁ ha => ?_)
      obtain ⟨ι₁, g1, g2, g3, g4⟩ := ha
      simp only [Ex.to, Exit.then]
      exact ihy hfl.2 _ _ _ _ _ h ι₁ w₁ a₁ Q hx g2 g1 ((hf.sub s1 (Nat.le_refl _)).stp g3 (Nat.le_refl _)) fun a₂ w₂ ha₂ => hQ a₂ w₂ (After.trans g3 g4 ha₂)
    · rename_i hne
      refine wpIn_seq (ihx hfl.1 _ _ _ _ _ h ι w a _ hx hr ht hf fun a₁ w₁ ha => ?_)
      have := hQ a₁ w₁ ha
      cases e with
      | normal => exact absurd h (hne _ _)
      | exit id => exact this
      | ret => exact this
  | cond c x y ihx ihy =>
    intro hfl t m e t' m' h
    simp only [flatC, Bool.and_eq_true] at hfl
    simp only [codeD] at h
    intro ι w a Q hx hr ht hf hQ
    split at h <;> try (simp at h; done)
    · rename_i hc
      exact wpIn_cond_true (ev_rel hr ht hc).inv_bool (ihx hfl.1 _ _ _ _ _ h ι w a Q hx hr ht hf hQ)
    · rename_i hc
      exact wpIn_cond_false (ev_rel hr ht hc).inv_bool (ihy hfl.2 _ _ _ _ _ h ι w a Q hx hr ht hf hQ)
  | block id c ih =>
    intro hfl t m e t' m' h
    simp only [codeD] at h
    intro ι w a Q hx hr ht hf hQ
    split at h
    · rename_i id' t₁ m₁ h1
      split at h <;> simp at h
      · rename_i he
        obtain ⟨rfl, rfl, rfl⟩ := h
        refine wpIn_block (ih hfl _ _ _ _ _ h1 ι w a _ hx hr ht hf fun a₁ w₁ ha => ?_)
        simp only [Ex.to, Exit.inBlock, he, if_true]
        exact hQ a₁ w₁ ha
      · rename_i he
        obtain ⟨rfl, rfl, rfl⟩ := h
        refine wpIn_block (ih hfl _ _ _ _ _ h1 ι w a _ hx hr ht hf fun a₁ w₁ ha => ?_)
        simp only [Ex.to, Exit.inBlock, he, if_false]
        exact hQ a₁ w₁ ha
    · rename_i hne
      refine wpIn_block (ih hfl _ _ _ _ _ h ι w a _ hx hr ht hf fun a₁ w₁ ha => ?_)
      have := hQ a₁ w₁ ha
      cases e with
      | normal => exact this
      | exit id => exact absurd h (hne _ _ _)
      | ret => exact this
  | loop c ih => intro hfl; cases hfl
  | exit id => intro _ t m e t' m' h; simp [codeD] at h; obtain ⟨rfl, rfl, rfl⟩ := h; intro ι w a Q hx hr ht hf hQ; exact wpIn_exit (hQ a w ⟨ι, ht, hr, Stp.refl _ _ _, rfl⟩)
  | ret => intro _ t m e t' m' h; simp [codeD] at h; obtain ⟨rfl, rfl, rfl⟩ := h; intro ι w a Q hx hr ht hf hQ; exact wpIn_ret (hQ a w ⟨ι, ht, hr, Stp.refl _ _ _, rfl⟩)
  | rangeFunc => intro hfl; cases hfl
  | scope => intro hfl; cases hfl
  | goto => intro hfl; cases hfl
  | refuse => intro hfl; cases hfl
end
end
end Go.DI
/-
  DiWorld: where a function's run stands, in the world: pieces of code by the interpreter, joined by hand.
-/
namespace Go.DI
open Go.RowKit
noncomputable section
/-- w0: the world at the function's start. -/
structure St (B0 : Nat) (w0 : World) (ι : Ren) (m : Mem) (W : World) : Prop where
  rel : Rel B0 1 ι m W
  fresh : ∀ b, m.size ≤ b → ι b = none
  below : Below w0.heap.size w0 W
  own : ∀ b L, ι b = some L → (m.get b).own = true → w0.heap.size ≤ L.block
/-- Cells alone. -/
def onlyCells (m : Mem) : Prop := ∀ b, (m.get b).own = true → ∃ o c, m.get b = .cells o c
/-- What is no cells lies as it lay. -/
def Keeps (W W' : World) : Prop := W.heap.size ≤ W'.heap.size ∧ ∀ (k : Nat) (o : Obj), W.heap[k]? = some o → o.isCells = false → W'.heap[k]? = some o
theorem Keeps.refl (W : World) : Keeps W W := ⟨Nat.le_refl _, fun _ _ h _ => h⟩
theorem Keeps.trans {A B C : World} (h : Keeps A B) (g : Keeps B C) : Keeps A C := ⟨Nat.le_trans h.1 g.1, fun k o ho hc => g.2 k o (h.2 k o ho hc) hc⟩
theorem Keeps.from {A B : World} (h : Keeps A B) (n : Nat) : KeepsFrom n A B := ⟨h.1, fun k o _ ho hc => h.2 k o ho hc⟩
section
variable {P : Program} {K : TypeId → Bool} {B0 n : Nat} {w0 W : World} {ι : Ren} {m : Mem} {t : Tmps} {a : Act}
theorem St.fresh' (h : St B0 w0 ι m W) (y : Nat) : Fresh ι m.size y := fun b h1 _ => h.fresh b h1
theorem St.after (h : St B0 w0 ι m W) (hc : onlyCells m) {ι' : Ren} {m' : Mem} {W' : World} (hr : Rel B0 1 ι' m' W') (hs : Stp ι ι' m m' W W') : St B0 w0 ι' m' W' ∧ Keeps W W' := by
  refine ⟨⟨hr, fun b hb => ?_, ?_, fun b L hL ho => ?_⟩, hs.hsize, fun k o ho hno => ?_⟩
  · rw [hs.out b (.inr hb)]
    exact h.fresh b (Nat.le_trans hs.msize hb)
  · refine ⟨hs.os.trans h.below.os, hs.tape.trans h.below.tape, hs.output.trans h.below.output, Nat.le_trans h.below.size hs.hsize, fun k hk => ?_⟩
    rw [← h.below.block k hk]
    refine hs.frame k (Nat.lt_of_lt_of_le hk h.below.size) fun b L hb hL ho e => ?_
    have := h.own b L hL ho
    omega
  · rcases Nat.lt_or_ge b m.size with hb | hb
    · exact h.own b L (by rw [← hs.out b (.inl hb)]; exact hL) (hs.ownk b hb ho)
    · rcases Nat.lt_or_ge b m'.size with hb' | hb'
      · rcases hs.new b L hb hb' hL with g | ⟨b0, L0, g1, g2, g3, g4⟩
        · exact Nat.le_trans h.below.size g
        · rw [← g4]; exact h.own b0 L0 g2 g3
      · rw [hs.out b (.inr hb'), h.fresh b hb] at hL; cases hL
  · have hk : k < W.heap.size := (Array.getElem?_eq_some_iff.1 ho).1
    rw [hs.frame k hk fun b L hb hL hw e => ?_]
    · exact ho
    · obtain ⟨o', c, hg⟩ := hc b hw
      have := h.rel.blk b L hb hL
      rw [hg] at this
      obtain ⟨rc, e1, fr, h1, _⟩ := this
      rw [e, ho] at h1
      cases h1
      cases hno
/-- A piece of code, outside of a round. -/
theorem piece (hmix : P.follows .mixedOrders = true) (hK : Plain P K) {cf : CallF} (hcf : CfOK P B0 1 cf) (hg : CfGrw cf) {k d : Nat} {c : Code} {e : Ex} {t' : Tmps} {m' : Mem}
    (h : codeD P K 1 cf (drawD P K 1 cf n) n k c t m = some (e, t', m')) (hs : St B0 w0 ι m W) (hc : onlyCells m) (ht : TRel ι n t a) {Q : Exit → Act → World → Prop}
    (hQ : ∀ ι' a' W', St B0 w0 ι' m' W' → TRel ι' n t' a' → a'.defers = a.defers → (∀ b, b < m.size → ι' b = ι b) → Keeps W W' → Q e.to a' W') : c.wpIn Fence.wide d P Q a W := by
  refine wpIn_wide.2 (code_ok hK hcf (drawOK hmix hK hcf hg) c t m e t' m' h ι W a Q hs.rel ht (hs.fresh' _) fun a' W' ha => ?_)
  obtain ⟨ι', g1, g2, g3, g4⟩ := ha
  obtain ⟨h1, h2⟩ := hs.after hc g2 g3
  exact hQ ι' a' W' h1 g1 g4 (fun b hb => g3.out b (.inl hb)) h2
/-- A piece of code, in a round. -/
theorem pieceIn (hmix : P.follows .mixedOrders = true) (hK : Plain P K) {cf : CallF} (hcf : CfOK P B0 1 cf) (hg : CfGrw cf) {k l d : Nat} {c : Code} (hfl : flatC c = true) {e : Ex} {t' : Tmps} {m' : Mem}
    (h : codeD P K 1 cf (drawD P K 1 cf n) n k c t m = some (e, t', m')) (hs : St B0 w0 ι m W) (hc : onlyCells m) (ht : TRel ι n t a) {Q : Exit → Act → World → Prop} (hx : ¬ LetsOut Q)
    (hQ : ∀ ι' a' W', St B0 w0 ι' m' W' → TRel ι' n t' a' → a'.defers = a.defers → (∀ b, b < m.size → ι' b = ι b) → Keeps W W' → Q e.to a' W') : c.wpIn (FR l) d P Q a W := by
  refine code_okIn hmix hK hcf hg c hfl t m e t' m' h ι W a Q hx hs.rel ht (hs.fresh' _) fun a' W' ha => ?_
  obtain ⟨ι', g1, g2, g3, g4⟩ := ha
  obtain ⟨h1, h2⟩ := hs.after hc g2 g3
  exact hQ ι' a' W' h1 g1 g4 (fun b hb => g3.out b (.inl hb)) h2
/-- What was laid behind the first z blocks is forgotten. -/
theorem St.cut (hs : St B0 w0 ι m W) {z : Nat} (hz : z ≤ m.size) (h1 : 1 ≤ z) {mz : Mem} (hsz : mz.size = z) (ht : mz.top) (hget : ∀ b, b < z → mz.get b = m.get b) (hseen : ∀ b, b < z → Kit.okB (m.get b) ∧ Kit.seenB z (m.get b)) :
    St B0 w0 (ι.sub id fun i => Nat.blt i z) mz W := by
  have hin : ∀ b L, (ι.sub id fun i => Nat.blt i z) b = some L → b < z ∧ ι b = some L := fun b L h => by
    obtain ⟨g1, g2⟩ := Kit.sub_id _ _ _ _ h
    exact ⟨by simpa [Nat.blt_eq] using g1, g2⟩
  refine ⟨⟨fun b L hb hL => ?_, fun b₁ b₂ L₁ L₂ b1 b2 e1 e2 l1 l2 g0 e => ?_, hs.rel.floor, fun g hg => ?_, ht⟩, fun b hb => ?_, hs.below, fun b L hL ho => ?_⟩
  · obtain ⟨g1, g2⟩ := hin b L hL
    obtain ⟨k1, k2⟩ := hseen b g1
    rw [hget b g1]
    have hb := Kit.bsim_ren (ρ := id) k1 k2
    rw [Kit.renB_id k1] at hb
    exact hb.rel _ _ _ _ (hs.rel.blk b L (by omega) g2)
  · obtain ⟨g1, g2⟩ := hin _ _ e1
    obtain ⟨k1, k2⟩ := hin _ _ e2
    rw [hget _ g1] at l1
    rw [hget _ k1] at l2
    exact hs.rel.inj _ _ _ _ (by omega) (by omega) g2 k2 l1 l2 g0 e
  · obtain ⟨L, p1, p2⟩ := hs.rel.glob g hg
    refine ⟨L, ?_, p2⟩
    obtain rfl : g = 0 := by omega
    show (if Nat.blt 0 z = true then ι 0 else none) = some L
    rw [if_pos (by simp [Nat.blt_eq]; omega)]
    exact p1
  · show (if Nat.blt b z = true then ι b else none) = none
    rw [if_neg (by simp [Nat.blt_eq]; omega)]
  · obtain ⟨g1, g2⟩ := hin _ _ hL
    rw [hget _ g1] at ho
    exact hs.own _ _ g2 ho
/-- The names are those of before. -/
theorem sub_back {ι ι' : Ren} {z : Nat} (hf : ∀ b, z ≤ b → ι b = none) (he : ∀ b, b < z → ι' b = ι b) : (ι'.sub id fun i => Nat.blt i z) = ι := by
  funext b
  show (if Nat.blt b z = true then ι' b else none) = ι b
  by_cases h : b < z
  · rw [if_pos (by simp [Nat.blt_eq]; omega)]; exact he b h
  · rw [if_neg (by simp [Nat.blt_eq]; omega)]; exact (hf b (by omega)).symm
/-- The iterator's steps don't touch it. -/
theorem St.grown (hs : St B0 w0 ι m W) (hc : ∀ b, (m.get b).live → ∃ o c, m.get b = .cells o c) {W' : World} {row : Option Nat} {B : Nat} (hB : w0.heap.size ≤ B) (hg : W.grownBy W' row) (hr : ∀ r, row = some r → B ≤ r ∧ ∃ o : Obj, W.heap[r]? = some o ∧ o.isCells = false) : St B0 w0 ι m W' := by
  refine ⟨⟨fun b L hb hL => ?_, hs.rel.inj, Nat.le_trans hs.rel.floor hg.size, hs.rel.glob, hs.rel.top⟩, hs.fresh, ⟨hg.os.trans hs.below.os, hg.tape.trans hs.below.tape, hg.output.trans hs.below.output, Nat.le_trans hs.below.size hg.size, fun k hk => ?_⟩, hs.own⟩
  · have hb0 := hs.rel.blk b L hb hL
    refine hb0.monoL (fun _ _ h => h) fun hl => ?_
    obtain ⟨o, c, hgb⟩ := hc b hl
    have hlt := hb0.lt hl
    refine hg.block _ hlt fun e => ?_
    obtain ⟨_, o', ho', hno⟩ := hr _ e.symm
    rw [hgb] at hb0
    obtain ⟨rc, e1, fr, h1, _⟩ := hb0
    rw [h1] at ho'
    cases ho'
    cases hno
  · rw [hg.block k (Nat.lt_of_lt_of_le hk hs.below.size) fun e => ?_]
    · exact hs.below.block k hk
    · obtain ⟨h1, _⟩ := hr _ e.symm
      omega
end
end
end Go.DI
/-
  DiPlain: drawn regions that need no check at run time are plain regions.
-/
namespace Go.DI
namespace Kit
noncomputable section
variable {α : Type}
/-- The operations of a region, by its number. -/
def regOps (id : Nat) : Code → List Oper
  | .region i ops _ => cond (Nat.beq i id) ops.toList []
  | .seq a b => match regOps id a with | [] => regOps id b | l => l
  | .cond _ a b => match regOps id a with | [] => regOps id b | l => l
  | .block _ c => regOps id c
  | .loop c => regOps id c
  | _ => []
/-- What a drawn region asks beforehand, and that it asks nothing behind. -/
def calmB (ops : List Oper) : Bool := statT ops && (need1F ops).isEmpty && (need2F ops).isEmpty
/-- Code whose drawn regions of a list are plain ones. -/
def calm (s : List Nat) : Code → Code
  | .region i ops d => cond (s.any (Nat.beq i) && calmB ops.toList) (.region i ops false) (.region i ops d)
  | .seq a b => .seq (calm s a) (calm s b)
  | .cond c a b => .cond c (calm s a) (calm s b)
  | .block j c => .block j (calm s c)
  | c => c
def fitC : Code → Bool
  | .region _ _ _ => true
  | .seq a b => fitC a && fitC b
  | .cond _ a b => fitC a && fitC b
  | .block _ c => fitC c
  | .loop _ => true
  | .skip => true
  | .exit _ => true
  | .ret => true
  | _ => false
end
end Kit
end Go.DI
/-
  DiHeap: objects of one's own, each a block with a slice in it and the slice's elements in another block; what is done to one leaves the others.
-/
namespace Go.DI
namespace Kit
noncomputable section
/-- A block whose cells are 'pre', a slice of n elements of z cells (c together), 'post'. -/
structure Thing where
  pre : List Value
  post : List Value
  z : Nat
  n : Nat
  c : List Value
def slV (b : Option Nat) (z n : Nat) : Value := match b with | none => .slice none 0 0 | some c => .slice (some ⟨c, 0, some z⟩) n n
def bufOk (M : Mem) (b : Option Nat) (n : Nat) (l : List Value) : Prop := match b with | none => n = 0 ∧ l = [] | some c => M.get c = .cells true l
structure At (M : Mem) (p : Nat) (b : Option Nat) (o : Thing) : Prop where
  cells : M.get p = .cells true (o.pre ++ slV b o.z o.n :: o.post)
  buf : bufOk M b o.n o.c
  len : o.c.length = o.n * o.z
  ones : o.c.all one = true
inductive HpL (M : Mem) : List (Nat × Thing) → List Nat → Prop
  | nil : HpL M [] []
  | cons {p : Nat} {b : Option Nat} {o : Thing} {hs : List (Nat × Thing)} {F : List Nat} : At M p b o → HpL M hs F → HpL M ((p, o) :: hs) (p :: (b.toList ++ F))
/-- What is known of other blocks. -/
abbrev Keep := Nat → Option Blk
/-- Objects that share nothing, beside blocks that are known. -/
def Hp (M : Mem) (K : Keep) (hs : List (Nat × Thing)) : Prop := M.top ∧ (∀ j x, K j = some x → j < M.size ∧ M.get j = x) ∧ ∃ F, HpL M hs F ∧ F.Nodup ∧ ∀ x ∈ F, K x = none ∧ x < M.size
theorem Hp.top {M : Mem} {K : Keep} {hs : List (Nat × Thing)} (h : Hp M K hs) : M.top := h.1
theorem Hp.get {M : Mem} {K : Keep} {hs : List (Nat × Thing)} (h : Hp M K hs) {j : Nat} {x : Blk} (hj : K j = some x) : M.get j = x := (h.2.1 j x hj).2
theorem Hp.lt {M : Mem} {K : Keep} {hs : List (Nat × Thing)} (h : Hp M K hs) {j : Nat} {x : Blk} (hj : K j = some x) : j < M.size := (h.2.1 j x hj).1
theorem At.mono {M M' : Mem} {p : Nat} {b : Option Nat} {o : Thing} (h : At M p b o) (hm : ∀ x ∈ p :: b.toList, M'.get x = M.get x) : At M' p b o := by
  refine ⟨by rw [hm p (List.mem_cons_self ..)]; exact h.cells, ?_, h.len, h.ones⟩
  have := h.buf
  cases b with
  | none => exact this
  | some c => show M'.get c = _; rw [hm c (by simp)]; exact this
theorem HpL.mono {M M' : Mem} {hs : List (Nat × Thing)} {F : List Nat} (h : HpL M hs F) (hm : ∀ x ∈ F, M'.get x = M.get x) : HpL M' hs F := by
  induction h with
  | nil => exact .nil
  | cons hA _ ih => exact .cons (hA.mono fun x hx => hm x (by simp at hx ⊢; rcases hx with h | h <;> simp [h])) (ih fun x hx => hm x (by simp [hx]))
theorem Hp.tail {M : Mem} {K : Keep} {x : Nat × Thing} {hs : List (Nat × Thing)} (h : Hp M K (x :: hs)) : Hp M K hs := by
  obtain ⟨ht, hK, F, h1, h2, h3⟩ := h
  cases h1 with
  | cons hA hL =>
    have h2 := (List.nodup_cons.1 h2).2
    exact ⟨ht, hK, _, hL, (List.nodup_append.1 h2).2.1, fun x hx => h3 x (by simp [hx])⟩
theorem Hp.ext {M M' : Mem} {K : Keep} {hs : List (Nat × Thing)} (h : Hp M K hs) (hx : Ext M M') : Hp M' K hs := by
  obtain ⟨ht, hK, F, h1, h2, h3⟩ := h
  exact ⟨hx.top ht, fun j x hj => ⟨Nat.lt_of_lt_of_le (hK j x hj).1 hx.size, (hx.get j (hK j x hj).1).trans (hK j x hj).2⟩, F, h1.mono fun x hx' => hx.get x (h3 x hx').2, h2, fun x hx' => ⟨(h3 x hx').1, Nat.lt_of_lt_of_le (h3 x hx').2 hx.size⟩⟩
/-- All that is there is known. -/
def keepAll (M : Mem) : Keep := fun j => if j < M.size then some (M.get j) else none
theorem Hp.all {M : Mem} (h : M.top) : Hp M (keepAll M) [] := by
  refine ⟨h, fun j x hj => ?_, [], .nil, List.nodup_nil, fun x hx => by simp at hx⟩
  unfold keepAll at hj
  split at hj
  · rename_i hl; exact ⟨hl, Option.some.inj hj⟩
  · cases hj
/-- One block more that is known. -/
def keep1 (K : Keep) (b : Nat) (x : Blk) : Keep := fun j => if j = b then some x else K j
theorem keep1_same (K : Keep) (b : Nat) (x : Blk) : keep1 K b x b = some x := if_pos rfl
theorem keep1_ne {K : Keep} {b j : Nat} {x : Blk} (h : j ≠ b) : keep1 K b x j = K j := if_neg h
theorem Hp.box {M M' : Mem} {K : Keep} {hs : List (Nat × Thing)} (h : Hp M K hs) {b : Nat} {x : Blk} (hx : Ext M M') (h1 : M.size ≤ b) (h2 : b < M'.size) (hb : M'.get b = x) : Hp M' (keep1 K b x) hs ∧ ∀ j y, K j = some y → keep1 K b x j = some y := by
  obtain ⟨ht, hK, F, hL, hn, h3⟩ := h
  refine ⟨⟨hx.top ht, fun j y hj => ?_, F, hL.mono fun x hx' => hx.get x (h3 x hx').2, hn, fun y hy => ?_⟩, fun j y hj => ?_⟩
  · by_cases hjb : j = b
    · subst hjb; rw [keep1_same] at hj; cases hj; exact ⟨h2, hb⟩
    · rw [keep1_ne hjb] at hj
      exact ⟨Nat.lt_of_lt_of_le (hK j y hj).1 hx.size, (hx.get j (hK j y hj).1).trans (hK j y hj).2⟩
  · have := h3 y hy
    rw [keep1_ne (by omega)]
    exact ⟨this.1, Nat.lt_of_lt_of_le this.2 hx.size⟩
  · have := (hK j y hj).1
    rw [keep1_ne (by omega)]; exact hj
/-- A new object. -/
theorem Hp.push {M : Mem} {K : Keep} {hs : List (Nat × Thing)} (h : Hp M K hs) (pre post : List Value) (z : Nat) : Hp (M.push (.cells true (pre ++ .slice none 0 0 :: post))) K ((M.size, ⟨pre, post, z, 0, []⟩) :: hs) := by
  have h' := h.ext (Ext.push M (.cells true (pre ++ .slice none 0 0 :: post)))
  obtain ⟨ht, hK, F, h1, h2, h3⟩ := h
  obtain ⟨ht', hK', _⟩ := h'
  refine ⟨ht', hK', M.size :: ((none : Option Nat).toList ++ F), .cons ⟨Mem.get_push_same _ _, ⟨rfl, rfl⟩, by simp, rfl⟩ (h1.mono fun x hx => Mem.get_push_ne _ (by have := (h3 x hx).2; omega) _), ?_, fun x hx => ?_⟩
  · simp only [Option.toList_none, List.nil_append]
    exact List.nodup_cons.2 ⟨fun hm => by have := (h3 _ hm).2; omega, h2⟩
  · simp only [Option.toList_none, List.nil_append, List.mem_cons] at hx
    rcases hx with rfl | hx
    · refine ⟨?_, by simp⟩
      cases hk : K M.size with
      | none => rfl
      | some y => have := (hK _ _ hk).1; omega
    · have := h3 x hx
      exact ⟨this.1, by simp; omega⟩
theorem splice_mid (pre post : List Value) (x y : Value) : splice (pre ++ x :: post) pre.length [y] = pre ++ y :: post := by
  unfold splice
  rw [List.take_left, show pre.length + [y].length = pre.length + 1 from rfl]
  simp
theorem keep_set {M : Mem} {K : Keep} {p : Nat} {x : Blk} (hK : ∀ j x, K j = some x → j < M.size ∧ M.get j = x) (hp : K p = none) : ∀ j y, K j = some y → j < (M.set p x).size ∧ (M.set p x).get j = y := by
  intro j y hj
  have hne : j ≠ p := by rintro rfl; rw [hp] at hj; cases hj
  exact ⟨(hK j y hj).1, (Mem.get_set_ne _ hne _).trans (hK j y hj).2⟩
theorem keep_push {M : Mem} {K : Keep} {x : Blk} (hK : ∀ j x, K j = some x → j < M.size ∧ M.get j = x) : ∀ j y, K j = some y → j < (M.push x).size ∧ (M.push x).get j = y := by
  intro j y hj
  have := hK j y hj
  exact ⟨by show j < M.size + 1; omega, (Mem.get_push_ne _ (by omega) _).trans this.2⟩
theorem keep_ext {M M' : Mem} {K : Keep} (hK : ∀ j x, K j = some x → j < M.size ∧ M.get j = x) (hx : Ext M M') : ∀ j y, K j = some y → j < M'.size ∧ M'.get j = y := by
  intro j y hj
  have := hK j y hj
  exact ⟨Nat.lt_of_lt_of_le this.1 hx.size, (hx.get j this.1).trans this.2⟩
theorem top_set {M : Mem} {p : Nat} {x : Blk} (ht : M.top) (hp : p < M.size) : (M.set p x).top := fun j hj => by
  have hj : M.size ≤ j := hj
  rw [Mem.get_set_ne _ (by omega)]; exact ht j hj
theorem top_push {M : Mem} {x : Blk} (ht : M.top) : (M.push x).top := (Ext.push M x).top ht
/-- What stands in an object's block besides the slice is set anew. -/
theorem Hp.set {M : Mem} {K : Keep} {p : Nat} {o : Thing} {hs : List (Nat × Thing)} (h : Hp M K ((p, o) :: hs)) : p < M.size ∧ K p = none ∧ ∃ u, (∃ a, u = .slice a o.n o.n) ∧ M.get p = .cells true (o.pre ++ u :: o.post) ∧
    ∀ pre post, Hp (M.set p (.cells true (pre ++ u :: post))) K ((p, { o with pre := pre, post := post }) :: hs) := by
  obtain ⟨ht, hK, F, h1, h2, h3⟩ := h
  cases h1 with
  | cons hA hL =>
    rename_i b F
    have hp := h3 p (List.mem_cons_self ..)
    have hn := List.nodup_cons.1 h2
    refine ⟨hp.2, hp.1, _, ?_, hA.cells, fun pre post => ⟨top_set ht hp.2, keep_set hK hp.1, _, .cons (b := b) ⟨Mem.get_set_same _ _ _, ?_, hA.len, hA.ones⟩ (hL.mono fun x hx => Mem.get_set_ne _ (by rintro rfl; exact hn.1 (by simp [hx])) _), h2, h3⟩⟩
    · have := hA.buf
      cases b with
      | none => exact ⟨none, by show Value.slice none 0 0 = _; rw [this.1]⟩
      | some c => exact ⟨_, rfl⟩
    · have := hA.buf
      cases b with
      | none => exact this
      | some c =>
        show (M.set p _).get c = _
        rw [Mem.get_set_ne _ (by rintro rfl; exact hn.1 (by simp))]; exact this
/-- An object that is not written any more: known blocks. -/
theorem Hp.freeze {M : Mem} {K : Keep} {p : Nat} {o : Thing} {hs : List (Nat × Thing)} (h : Hp M K ((p, o) :: hs)) : ∃ (K2 : Keep) (a : Option Addr), (∀ j x, K j = some x → K2 j = some x) ∧ K2 p = some (.cells true (o.pre ++ .slice a o.n o.n :: o.post)) ∧
    (0 < o.n → ∃ c, a = some ⟨c, 0, some o.z⟩ ∧ K2 c = some (.cells true o.c) ∧ K c = none) ∧ K p = none ∧ Hp M K2 hs := by
  obtain ⟨ht, hK, F, h1, h2, h3⟩ := h
  cases h1 with
  | cons hA hL =>
    rename_i b F
    have hp := h3 p (List.mem_cons_self ..)
    have hn := List.nodup_cons.1 h2
    have w1 : ∀ x, ∀ j y, K j = some y → keep1 K p x j = some y := fun x j y hj => by
      rw [keep1_ne (by rintro rfl; rw [hp.1] at hj; cases hj)]; exact hj
    cases b with
    | none =>
      have h0 : o.n = 0 := hA.buf.1
      refine ⟨keep1 K p (.cells true (o.pre ++ .slice none o.n o.n :: o.post)), none, w1 _, keep1_same .., fun hn0 => by omega, hp.1, ht, fun j x hj => ?_, F, hL, hn.2, fun x hx => ?_⟩
      · by_cases e : j = p
        · subst e; rw [keep1_same] at hj; cases hj
          refine ⟨hp.2, ?_⟩
          have := hA.cells
          rw [h0] at this ⊢; exact this
        · rw [keep1_ne e] at hj; exact hK j x hj
      · rw [keep1_ne (by rintro rfl; exact hn.1 (by simpa using hx))]
        exact h3 x (by simp [hx])
    | some c =>
      have hc := h3 c (by simp)
      have hcp : c ≠ p := by rintro rfl; exact hn.1 (by simp)
      have hcF := List.nodup_cons.1 hn.2
      refine ⟨keep1 (keep1 K p (.cells true (o.pre ++ .slice (some ⟨c, 0, some o.z⟩) o.n o.n :: o.post))) c (.cells true o.c), some ⟨c, 0, some o.z⟩, fun j y hj => ?_, ?_, fun _ => ⟨c, rfl, keep1_same .., hc.1⟩, hp.1, ht, fun j x hj => ?_, F, hL, hcF.2, fun x hx => ?_⟩
      · rw [keep1_ne (by rintro rfl; rw [hc.1] at hj; cases hj)]; exact w1 _ j y hj
      · rw [keep1_ne (Ne.symm hcp), keep1_same]
      · by_cases e : j = c
        · subst e; rw [keep1_same] at hj; cases hj
          exact ⟨hc.2, hA.buf⟩
        · rw [keep1_ne e] at hj
          by_cases e2 : j = p
          · subst e2; rw [keep1_same] at hj; cases hj
            exact ⟨hp.2, hA.cells⟩
          · rw [keep1_ne e2] at hj; exact hK j x hj
      · rw [keep1_ne (by rintro rfl; exact hcF.1 hx), keep1_ne (by rintro rfl; exact hn.1 (by simp [hx]))]
        exact h3 x (by simp [hx])
theorem Hp.no {M : Mem} {K : Keep} {hs : List (Nat × Thing)} (h : Hp M K hs) {j : Nat} (hj : M.size ≤ j) : K j = none := by
  cases hk : K j with
  | none => rfl
  | some y => have := h.lt hk; omega
section
variable {P : Program} {t e : TypeId} {by_ : Nat}
/-- An element appended to an object's slice, and what it gives stored there. -/
theorem Hp.append {M : Mem} {K : Keep} {p : Nat} {o : Thing} {hs : List (Nat × Thing)} (h : Hp M K ((p, o) :: hs)) (hu : P.underlying t = some (.slice e)) (hst : szOf P t = some 1) (hs_ : szOf P e = some o.z) (hz : o.z ≠ 0) (hb : bytesOf P e = some by_) (hb0 : 0 < by_) (h0 : (zerosD P e 1).isSome = true)
    (hbig : (o.n + 1) * by_ ≤ 140737488355328 ∧ o.n + 1 ≤ 4611686018427387904) : ∃ a, M.get p = .cells true (o.pre ++ .slice a o.n o.n :: o.post) ∧
    ∀ (M1 : Mem) (nb : Nat) (own : Bool) (new : List Value), Ext M M1 → M1.get nb = .cells own new → new.length = o.z → new.all one = true → ∃ a' M2 M3, appendD P M1 t t (.slice a o.n o.n) (.slice (some ⟨nb, 0, none⟩) 1 1) = some (.slice a' (o.n + 1) (o.n + 1), M2) ∧
      storeD P M2 t (.slice a' (o.n + 1) (o.n + 1)) (.pointer (some ⟨p, o.pre.length, none⟩)) = some M3 ∧ Hp M3 K ((p, { o with n := o.n + 1, c := o.c ++ new }) :: hs) ∧ M1.size ≤ M3.size ∧ ∀ j, M.size ≤ j → j < M1.size → M3.get j = M1.get j := by
  obtain ⟨ht, hK, F, h1, h2, h3⟩ := h
  cases h1 with
  | cons hA hL =>
    rename_i b F
    have hp := h3 p (List.mem_cons_self ..)
    have hn := List.nodup_cons.1 h2
    have hst2 : ∀ (M2 : Mem) (u : Value) (a' : Option Addr), M2.get p = .cells true (o.pre ++ u :: o.post) → storeD P M2 t (.slice a' (o.n + 1) (o.n + 1)) (.pointer (some ⟨p, o.pre.length, none⟩)) = some (M2.set p (.cells true (o.pre ++ .slice a' (o.n + 1) (o.n + 1) :: o.post))) := fun M2 u a' hg => by
      rw [storeD_at hst (n := 1) rfl hg (by simp) rfl]
      show some (M2.set p (.cells true (splice (o.pre ++ u :: o.post) o.pre.length [.slice a' (o.n + 1) (o.n + 1)]))) = _
      rw [splice_mid]
    have hlen : ∀ x, lenOf (.slice (some ⟨x, 0, none⟩) 1 1) = some 1 := fun _ => rfl
    have hnone : ∀ M1 : Mem, Ext M M1 → K M1.size = none := fun M1 hx => by
      cases hk : K M1.size with
      | none => rfl
      | some y => have := (hK _ _ hk).1; have := hx.size; omega
    cases b with
    | none =>
      obtain ⟨b1, b2⟩ : o.n = 0 ∧ o.c = [] := hA.buf
      refine ⟨none, by have := hA.cells; rw [b1] at this ⊢; exact this, fun M1 nb own new hx hg hl h1 => ?_⟩
      have hf : firstC M1 o.z 1 (.slice (some ⟨nb, 0, none⟩) 1 1) = some new := loadC_at (rest := []) (by rw [List.append_nil]; exact hg) (by omega)
      have hap := append_nil (m := M1) (x := .slice (some ⟨nb, 0, none⟩) 1 1) hu hs_ hz hb hb0 h0 (hlen nb) (by omega) (by rw [b1] at hbig; simpa using hbig) hf (by omega) h1
      have hgp : (M1.push (.cells true new)).get p = .cells true (o.pre ++ slV none o.z o.n :: o.post) := by
        rw [Mem.get_push_ne _ (by have := hx.size; omega), hx.get p hp.2]; exact hA.cells
      refine ⟨_, _, _, by rw [b1]; exact hap, hst2 _ _ _ hgp, ⟨?_, ?_, p :: ((some M1.size).toList ++ F), .cons ⟨?_, ?_, ?_, ?_⟩ (hL.mono fun x hx' => ?_), ?_, fun x hx' => ?_⟩, ?_, fun j h1 h2 => ?_⟩
      · exact top_set (top_push (hx.top ht)) (by have := hx.size; show p < M1.size + 1; omega)
      · exact keep_set (keep_push (keep_ext hK hx)) hp.1
      · exact Mem.get_set_same _ _ _
      · show (Mem.set _ p _).get M1.size = .cells true (o.c ++ new)
        rw [Mem.get_set_ne _ (by have := hx.size; omega), Mem.get_push_same, b2]; rfl
      · show (o.c ++ new).length = (o.n + 1) * o.z
        rw [List.length_append, hl, hA.len, Nat.add_mul, Nat.one_mul]
      · show (o.c ++ new).all one = true
        rw [List.all_append, hA.ones, h1]; rfl
      · have hxs := (h3 x (by simp [hx'])).2
        have := hx.size
        rw [Mem.get_set_ne _ (by rintro rfl; exact hn.1 (by simp [hx'])), Mem.get_push_ne _ (by omega), hx.get x hxs]
      · have := hx.size
        refine List.nodup_cons.2 ⟨fun hm => ?_, ?_⟩
        · simp only [Option.toList_some, List.cons_append, List.nil_append, List.mem_cons] at hm
          rcases hm with rfl | hm
          · omega
          · exact hn.1 (by simp [hm])
        · simp only [Option.toList_some, List.cons_append, List.nil_append]
          refine List.nodup_cons.2 ⟨fun hm => ?_, (List.nodup_append.1 hn.2).2.1⟩
          have := (h3 M1.size (by simp [hm])).2
          omega
      · have := hx.size
        show K x = none ∧ x < M1.size + 1
        simp only [Option.toList_some, List.cons_append, List.nil_append, List.mem_cons] at hx'
        rcases hx' with rfl | rfl | hx'
        · exact ⟨hp.1, by omega⟩
        · exact ⟨hnone M1 hx, by omega⟩
        · have := h3 x (by simp [hx']); exact ⟨this.1, by omega⟩
      · show M1.size ≤ M1.size + 1; omega
      · rw [Mem.get_set_ne _ (by omega), Mem.get_push_ne _ (by omega)]
    | some c =>
      have hbuf : M.get c = .cells true o.c := hA.buf
      refine ⟨_, hA.cells, fun M1 nb own new hx hg hl h1 => ?_⟩
      have hc := h3 c (by simp)
      have hcp : c ≠ p := by rintro rfl; exact hn.1 (by simp)
      have hf : firstC M1 o.z 1 (.slice (some ⟨nb, 0, none⟩) 1 1) = some new := loadC_at (rest := []) (by rw [List.append_nil]; exact hg) (by omega)
      have hap := append_own (m := M1) (bk := c) (k := o.n) (x := .slice (some ⟨nb, 0, none⟩) 1 1) hu hs_ hz hb hb0 h0 ((hx.get c hc.2).trans hbuf) hA.len hA.ones (hlen nb) (by omega) hbig hf (by omega) h1
      have hgp : ((M1.push (.cells true (o.c ++ new))).set c .none).get p = .cells true (o.pre ++ slV (some c) o.z o.n :: o.post) := by
        rw [Mem.get_set_ne _ (Ne.symm hcp), Mem.get_push_ne _ (by have := hx.size; omega), hx.get p hp.2]; exact hA.cells
      refine ⟨_, _, _, hap, hst2 _ _ _ hgp, ⟨?_, ?_, p :: ((some M1.size).toList ++ F), .cons ⟨?_, ?_, ?_, ?_⟩ (hL.mono fun x hx' => ?_), ?_, fun x hx' => ?_⟩, ?_, fun j h1 h2 => ?_⟩
      · exact top_set (top_set (top_push (hx.top ht)) (by have := hx.size; show c < M1.size + 1; omega)) (by have := hx.size; show p < M1.size + 1; omega)
      · exact keep_set (keep_set (keep_push (keep_ext hK hx)) hc.1) hp.1
      · exact Mem.get_set_same _ _ _
      · show (Mem.set _ p _).get M1.size = .cells true (o.c ++ new)
        rw [Mem.get_set_ne _ (by have := hx.size; omega), Mem.get_set_ne _ (by have := hx.size; omega), Mem.get_push_same]
      · show (o.c ++ new).length = (o.n + 1) * o.z
        rw [List.length_append, hl, hA.len, Nat.add_mul, Nat.one_mul]
      · show (o.c ++ new).all one = true
        rw [List.all_append, hA.ones, h1]; rfl
      · have hxs := (h3 x (by simp [hx'])).2
        have := hx.size
        rw [Mem.get_set_ne _ (by rintro rfl; exact hn.1 (by simp [hx'])), Mem.get_set_ne _ (by rintro rfl; exact (List.nodup_cons.1 hn.2).1 hx'), Mem.get_push_ne _ (by omega), hx.get x hxs]
      · have := hx.size
        refine List.nodup_cons.2 ⟨fun hm => ?_, ?_⟩
        · simp only [Option.toList_some, List.cons_append, List.nil_append, List.mem_cons] at hm
          rcases hm with rfl | hm
          · omega
          · exact hn.1 (by simp [hm])
        · simp only [Option.toList_some, List.cons_append, List.nil_append]
          refine List.nodup_cons.2 ⟨fun hm => ?_, (List.nodup_cons.1 hn.2).2⟩
          have := (h3 M1.size (by simp [hm])).2
          omega
      · have := hx.size
        show K x = none ∧ x < M1.size + 1
        simp only [Option.toList_some, List.cons_append, List.nil_append, List.mem_cons] at hx'
        rcases hx' with rfl | rfl | hx'
        · exact ⟨hp.1, by omega⟩
        · exact ⟨hnone M1 hx, by omega⟩
        · have := h3 x (by simp [hx']); exact ⟨this.1, by omega⟩
      · show M1.size ≤ M1.size + 1; omega
      · rw [Mem.get_set_ne _ (by omega), Mem.get_set_ne _ (by omega), Mem.get_push_ne _ (by omega)]
end
end
end Kit
end Go.DI
/-
  DiLand: where a run of a loop's body, or of a loop, lands: the slots that are known, the others being whatever.
-/
namespace Go.DI
namespace Kit
noncomputable section
def Lands (N : Nat) (kn : List (Nat × Value)) (e : Ex) (M : Mem) (r : Option (Ex × Tmps × Mem)) : Prop := ∃ x', r = some (e, fullN N (up x' kn), M)
section
variable {N : Nat} {kn : List (Nat × Value)} {e : Ex} {M : Mem}
theorem Lands.here (x : Nat → Value) : Lands N kn e M (some (e, fullN N (up x kn), M)) := ⟨x, rfl⟩
theorem up_self (F : Nat → Value) : ∀ kn : List (Nat × Value), (∀ p ∈ kn, F p.1 = p.2) → up F kn = F
  | [], _ => rfl
  | p :: kn, h => by
    have ih := up_self F kn fun q hq => h q (List.mem_cons_of_mem _ hq)
    funext i
    have h1 := h p (List.mem_cons_self ..)
    have e : up F (p :: kn) i = if i = p.1 then p.2 else up F kn i := by
      show Bool.rec (motive := fun _ => Value) (up F kn i) p.2 (Nat.beq p.1 i) = _
      by_cases hij : i = p.1
      · rw [if_pos hij, show Nat.beq p.1 i = true from by rw [hij]; exact Nat.beq_refl _]
      · rw [if_neg hij, show Nat.beq p.1 i = false from by
          cases hb : Nat.beq p.1 i with
          | false => rfl
          | true => exact absurd (Nat.eq_of_beq_eq_true hb).symm hij]
    rw [e, ih]
    split
    · rename_i he; rw [he, h1]
    · rfl
theorem Lands.at {F : Nat → Value} (h : ∀ p ∈ kn, F p.1 = p.2) : Lands N kn e M (some (e, fullN N F, M)) := ⟨F, by rw [up_self F kn h]⟩
theorem Lands.step {df : DFun} {f : FuncId} {a : List Value} {m m' : Mem} {v : Value} {q : Value → Mem → Option (Ex × Tmps × Mem)} (h : df f a m = some (v, m')) (hq : Lands N kn e M (q v m')) : Lands N kn e M (Y.cfOf df f a m q) := by
  rw [nCf, h, nOnV]; exact hq
theorem Lands.loop {N' : Nat} {kn' : List (Nat × Value)} {e' : Ex} {M' : Mem} {r : Option (Ex × Tmps × Mem)} {q : Y.ExK (Ex × Tmps × Mem)} (hl : Lands N' kn' e' M' r) (hq : ∀ x', Lands N kn e M (q e' (fullN N' (up x' kn')) M')) : Lands N kn e M (Y.onE r q) := by
  obtain ⟨x', rfl⟩ := hl
  rw [nOnE]; exact hq x'
theorem Lands.next {kn' : List (Nat × Value)} {M' : Mem} {body : Tmps → Mem → Option (Ex × Tmps × Mem)} {t : Tmps} {m : Mem} {j : Nat} (h : Lands N kn' .normal M' (body t m)) (hq : ∀ x', Lands N kn e M (loopD body j (fullN N (up x' kn')) M')) : Lands N kn e M (loopD body (j + 1) t m) := by
  obtain ⟨x', h⟩ := h
  rw [loopD_next j h]; exact hq x'
theorem Lands.stop {body : Tmps → Mem → Option (Ex × Tmps × Mem)} {t : Tmps} {m : Mem} {j : Nat} (h : Lands N kn e M (body t m)) (he : e ≠ .normal) : Lands N kn e M (loopD body (j + 1) t m) := by
  obtain ⟨x', h⟩ := h
  rw [loopD_stop j h he]; exact ⟨x', rfl⟩
theorem Lands.turn {P : Program} {K : TypeId → Bool} {G : Nat} {o : Orc} {k n : Nat} {c : Code} {t : Tmps} {m : Mem} (h : Lands N kn e M (Y.codeF c P K G (Y.cfT P (Y.cfOf (callN P K G o k))) (Y.lpOf P K G (callN P K G o k) n) n k t m Y.q0)) :
    Lands N kn e M (codeD P K G (callN P K G o k) (drawD P K G (callN P K G o k) n) n k c t m) := by
  obtain ⟨x', h⟩ := h
  exact ⟨x', turn_of h⟩
end
end
end Kit
end Go.DI
/-
  DiT: the symbolic form once more: what a drawn region asks at run time (that a load gives the same at a later time) is not asked but written down: pairs of values; where they are pairwise the same, the run is the interpreter's own.
-/
namespace Go.DI.Y
noncomputable section
variable {β : Type}
/-- An answer and what is to be the same. -/
abbrev TT (β : Type) := β × List (Value × Value)
def good (ps : List (Value × Value)) : Prop := ∀ p ∈ ps, p.1 = p.2
theorem good_of {ps : List (Value × Value)} (h : ps.map Prod.fst = ps.map Prod.snd) : good ps := by
  induction ps with
  | nil => intro p hp; simp at hp
  | cons x l ih =>
    simp only [List.map_cons, List.cons.injEq] at h
    intro p hp
    rcases List.mem_cons.1 hp with rfl | hp
    · exact h.1
    · exact ih h.2 p hp
section
variable {P : Program} {K : TypeId → Bool} {G : Nat} {cf : CF (TT β)} {df : DF}
end
/-! ### regions that are drawn -/
def selfV (d : Nat) : Value → Bool :=
  Nat.rec (motive := fun _ => Value → Bool) (fun _ => false) (fun _ ih v => match v with
    | .bool _ => true
    | .int _ _ => true
    | .string _ => true
    | .pointer _ => true
    | .slice _ _ _ => true
    | .map _ => true
    | .nilFunc => true
    | .nilIface => true
    | .agg a => List.rec (motive := fun _ => Bool) true (fun x _ r => Bool.rec (motive := fun _ => Bool) false r (ih x)) a.toList
    | .tuple a => List.rec (motive := fun _ => Bool) true (fun x _ r => Bool.rec (motive := fun _ => Bool) false r (ih x)) a.toList
    | _ => false) d
theorem veqL_self {f : Value → Bool} {g : Value → Value → Bool} (h : ∀ v, f v = true → g v v = true) : ∀ (l : List Value), List.rec (motive := fun _ => Bool) true (fun x _ r => Bool.rec (motive := fun _ => Bool) false r (f x)) l = true → veqL g l l = true
  | [], _ => rfl
  | x :: l, hl => by
    have hl : Bool.rec (motive := fun _ => Bool) false (List.rec (motive := fun _ => Bool) true (fun x _ r => Bool.rec (motive := fun _ => Bool) false r (f x)) l) (f x) = true := hl
    cases hx : f x with
    | false => rw [hx] at hl; cases hl
    | true =>
      rw [hx] at hl
      simp only [veqL, h x hx, veqL_self h l hl, Bool.and_self]
theorem veq_self : ∀ (d : Nat) (v : Value), selfV d v = true → veq d v v = true
  | 0, v, h => by cases h
  | d + 1, v, h => by
    have ih := veq_self d
    cases v <;> first | (cases h; done) | skip
    all_goals try (simp [veq]; done)
    · exact veqL_self ih _ h
    · exact veqL_self ih _ h
/-! ### code -/
end
end Go.DI.Y
/-
  DiH: DiT once more, with hints: what an index, a load, a call gives may be told beforehand; what must be so for it is written down: a list of propositions.
-/
namespace Go.DI.H
open Go.DI.Y
noncomputable section
variable {β : Type}
/-- An answer, what is to be the same, and what else must be so. -/
abbrev TT (β : Type) := β × List (Value × Value) × List Prop
def good (ps : List (Value × Value) × List Prop) : Prop := (∀ p ∈ ps.1, p.1 = p.2) ∧ ∀ p ∈ ps.2, p
structure Hint where
  ix : TypeId → Bool
  ld : Nat → TypeId → Nat → Option Value
  cmp : BinOp → TypeId → Option Bool
  ap : TypeId → Option (List Value)
  call : FuncId → Option Value
  spec : FuncId → List Value → Blk → Value → Prop
  blk : Nat
  eff : FuncId → Mem → Mem := fun _ m => m
  specM : FuncId → Option (List Value → Mem → Value → Prop) := fun _ => none
  cv : TypeId → TypeId → Option Value := fun _ _ => none
  cmpY : BinOp → TypeId → Value → Option Bool := fun _ _ _ => none
  ldA : Operand → TypeId → Option Value := fun _ _ => none
  cmpO : BinOp → TypeId → Operand → Option Bool := fun _ _ _ => none
  mks : TypeId → Option Blk := fun _ => none
  st : TypeId → Nat → Option Blk := fun _ _ => none
  sl : TypeId → Option Value := fun _ => none
  apO : Operand → Option (Value × Mem) := fun _ => none
  ixv : TypeId → Option Value := fun _ => none
  at_ : Tmp → Option Value := fun _ => none
  stO : Operand → Operand → Option Blk := fun _ _ => none
  mu : TypeId → Option Blk := fun _ => none
  bs : TypeId → Option Blk := fun _ => none
def Hint.on (H : Hint) : Option Tmp → Option Value
  | some d => H.at_ d
  | none => none
def Hint.ldX (H : Hint) (o : Oper) (b : Nat) (ty : TypeId) (off : Nat) : Option Value := match H.on o.dst with
  | some u => some u
  | none => H.ld b ty off
def Hint.cmpAt (H : Hint) (op : BinOp) (ty : TypeId) (y : Operand) : Option Bool := match H.cmpO op ty y with
  | some b => some b
  | none => H.cmp op ty
/-- What must be so, for a call to answer so. -/
def Hint.says (H : Hint) (f : FuncId) (args : List Value) (m : Mem) (v : Value) : Prop := match H.specM f with
  | some g => g args m v
  | none => H.spec f args (m.get H.blk) v
theorem good_of {ps : List (Value × Value)} {qs : List Prop} (h : ps.map Prod.fst = ps.map Prod.snd) (hq : ∀ p ∈ qs, p) : good (ps, qs) := ⟨Y.good_of h, hq⟩
def Fac {A : Type} (F : (A → Option (TT β)) → Option (TT β)) (d : Option A) : Prop := ∀ q b ps, F q = some (b, ps) → good ps → ∃ a, d = some a ∧ ∃ ps', q a = some (b, ps') ∧ good ps'
abbrev FacV (F : (Value → Mem → Option (TT β)) → Option (TT β)) (d : Option (Value × Mem)) : Prop := Fac (fun q => F fun v m => q (v, m)) d
abbrev FacT (F : (Tmps → Mem → Option (TT β)) → Option (TT β)) (d : Option (Tmps × Mem)) : Prop := Fac (fun q => F fun v m => q (v, m)) d
abbrev FacR (F : (List Rec → Tmps → Mem → Option (TT β)) → Option (TT β)) (d : Option (List Rec × Tmps × Mem)) : Prop := Fac (fun q => F fun r v m => q (r, v, m)) d
abbrev FacE (F : ExK (TT β) → Option (TT β)) (d : Option (Ex × Tmps × Mem)) : Prop := Fac (fun q => F fun r v m => q (r, v, m)) d
theorem Fac.on {A : Type} {F : (A → Option (TT β)) → Option (TT β)} {d : Option A} (h : ∀ q, F q = (match d with | some a => q a | none => none)) : Fac F d := fun q b ps hq hg => by
  rw [h] at hq
  cases d with
  | none => cases hq
  | some a => exact ⟨a, rfl, ps, hq, hg⟩
def cf0 (df : DF) : CF (TT β) := fun f a m q => onV (df f a m) q
section
variable {P : Program} {K : TypeId → Bool} {G : Nat} {cf : CF (TT β)} {df : DF}
theorem op_fac (hcf : ∀ f a m, FacV (cf f a m) (df f a m)) (o : Op) (t : Tmps) (m : Mem) : FacV (opF o P K G cf t m) (opD P K G df t m o) := by
  have h0 : ∀ q : Value → Mem → Option (TT β), opF o P K G (cf0 df) t m q = onV (opD P K G df t m o) q := fun q => opF_eq (cf := cf0 df) (fun _ _ _ _ => rfl) o
  have on_ : (∀ q, opF o P K G cf t m q = opF o P K G (cf0 df) t m q) → FacV (opF o P K G cf t m) (opD P K G df t m o) := fun h => Fac.on fun q => by
    show opF o P K G cf t m _ = _
    rw [h, h0]
    cases opD P K G df t m o <;> rfl
  cases o
  case call c =>
    obtain ⟨callee, args, tys⟩ := c
    cases callee with
    | invoke r s => exact on_ fun q => rfl
    | builtin b => exact on_ fun q => rfl
    | value f =>
      intro q b ps hq hg
      have hq : (evF f G t fun v => asFunc v fun g fs cs => evsF args.toList G t fun vs => appF vs cs fun r => appF fs r fun l => cf g l m fun v m => q (v, m)) = some (b, ps) := hq
      have h1 := h0 fun v m => q (v, m)
      have h1 : (evF f G t fun v => asFunc v fun g fs cs => evsF args.toList G t fun vs => appF vs cs fun r => appF fs r fun l => onV (df g l m) fun v m => q (v, m)) = onV (opD P K G df t m (.call ⟨.value f, args, tys⟩)) fun v m => q (v, m) := h1
      simp only [evF_eq, evsF_eq, appF_eq] at hq h1
      cases he : ev G t f with
      | none => rw [he] at hq; cases hq
      | some v =>
        rw [he] at hq h1
        simp only [ob_some] at hq h1
        cases v <;> try (cases hq; done)
        rename_i fn fs cs
        cases fn <;> try (cases hq; done)
        rename_i g
        have hq : ob (evs G t args.toList) (fun vs => cf g (fs.toList ++ (vs ++ cs.toList)) m fun v m => q (v, m)) = some (b, ps) := hq
        cases hv : evs G t args.toList with
        | none => rw [hv] at hq; cases hq
        | some vs =>
          rw [hv] at hq
          simp only [ob_some] at hq
          obtain ⟨a, ha, r⟩ := hcf g _ m q b ps hq hg
          refine ⟨a, ?_, r⟩
          show opD P K G df t m (.call ⟨.value f, args, tys⟩) = some a
          have : opD P K G df t m (.call ⟨.value f, args, tys⟩) = df g (fs.toList ++ (vs ++ cs.toList)) m := by
            simp only [opD, klass, heavyD, he, hv]
          rw [this, ha]
  all_goals exact on_ fun q => rfl
/-- What is told beforehand. -/
def needs (p : Prop) (q : Option (TT β)) : Option (TT β) := Option.rec (motive := fun _ => Option (TT β)) none (fun r => some (r.1, r.2.1, p :: r.2.2)) q
theorem needs_some {p : Prop} {q : Option (TT β)} {b : β} {ps : List (Value × Value) × List Prop} (h : needs p q = some (b, ps)) (hg : good ps) : p ∧ ∃ ps', q = some (b, ps') ∧ good ps' := by
  cases q with
  | none => cases h
  | some r =>
    have h : some (r.1, r.2.1, p :: r.2.2) = some (b, ps) := h
    simp only [Option.some.injEq, Prod.mk.injEq] at h
    obtain ⟨rfl, rfl⟩ := h
    exact ⟨hg.2 p (List.mem_cons_self ..), r.2, rfl, hg.1, fun x hx => hg.2 x (List.mem_cons_of_mem _ hx)⟩
def blkSub (x : Blk) (off n : Nat) : Option (List Value) := match x with | .cells _ c => if off + n ≤ c.length then some ((c.drop off).take n) else none | _ => none
def blkNth (x : Blk) (off : Nat) : Option Value := match x with | .cells _ c => c[off]? | _ => none
def ldOk (x : Blk) (off : Nat) (g : Bool) (n : Nat) (v : Value) : Prop := match g with | true => ∃ l, blkSub x off n = some l ∧ v = .agg ⟨l⟩ | false => blkNth x off = some v
def capZ (v : Value) : Bool := match v with | .slice _ _ c => Nat.beq c 0 | _ => false
def plainP (v : Value) : Bool := match v with | .slice (some ⟨_, o, none⟩) _ _ => Nat.beq o 0 | _ => false
def emptyB (x : Blk) : Bool := match x with | .cells _ _ => true | _ => false
def slBk (v : Value) : Nat := match v with | .slice (some ⟨b, _, _⟩) _ _ => b | _ => 0
/-- A conversion that reads one block. -/
def cvOk (P : Program) (x : Blk) (a b : TypeId) (v u : Value) : Prop := ∀ m : Mem, m.get (slBk v) = x → convQ P m a b v = some u
/-- A store, told by its block. -/
def stOk (P : Program) (x : Blk) (ty : TypeId) (off : Nat) (v : Value) (y : Blk) : Prop := ∀ (m : Mem) (b : Nat), m.get b = x → storeD P m ty v (.pointer (some ⟨b, off, none⟩)) = some (m.set b y)
/-- A slice that is made, its length open. -/
def mkOk (P : Program) (G : Nat) (ty : TypeId) (lv cv : Value) (x : Blk) (l c : Nat) : Prop := ∀ t lx cx, ev G t lx = some lv → ev G t cx = some cv → allocD P G t (.makeSlice ty lx cx) = some (x, .slc l c)
def apOk (x : Blk) (off z by_ n : Nat) (X : List Value) : Prop := 0 < n ∧ n * by_ ≤ 140737488355328 ∧ n ≤ 4611686018427387904 ∧ blkSub x off (n * z) = some X ∧ X.all one = true ∧ X.length = n * z
def apH (P : Program) (m : Mem) (tS tX : TypeId) (s x : Value) (X : List Value) (q : Value → Mem → Option (TT β)) : Option (TT β) :=
  asSlc s fun b0 o0 n0 => asSlc x fun b off n => match P.underlying tS with
    | some (.slice e) => (match szOf P e, bytesOf P e with
      | some z, some by_ => cond (Nat.beq tS tX && (Nat.beq n0 0 && (capZ s && (plainP s && (emptyB (m.get b0) && (Nat.ble 1 z && (Nat.ble 1 by_ && (zerosD P e 1).isSome))))))) (needs (apOk (m.get b) off z by_ n X) (q (.slice (some ⟨m.size, 0, some z⟩) n n) (m.push (.cells true X)))) none
      | _, _ => none)
    | _ => none
/-- A slice that is built: its block. -/
def bsOk (P : Program) (ty : TypeId) (len : Nat) (ps : List (Nat × Value)) (x : Blk) : Prop := ∀ (G : Nat) (t : Tmps) (pa : Array (Nat × Operand)), evParts G t pa.toList = some ps → allocD P G t (.buildSlice ty len pa) = some (x, .slc len len)
def opH (H : Hint) (o : Op) : OpK (TT β) := match o with
  | .mapUpdate ty x k v => fun P K G cf t m q => match H.mu ty with
    | some y => Option.rec (motive := fun _ => Option (TT β)) none (fun xv => Option.rec (motive := fun _ => Option (TT β)) none (fun kv => Option.rec (motive := fun _ => Option (TT β)) none (fun vv => match xv with
      | .map (some r) => needs (mapUpdateD P K m ty (.map (some r)) kv vv = some (m.set r y)) (q undef (m.set r y))
      | _ => none) (ev G t v)) (ev G t k)) (ev G t x)
    | none => opF (.mapUpdate ty x k v) P K G cf t m q
  | .buildSlice ty len parts => fun P K G cf t m q => match H.bs ty with
    | some x => Option.rec (motive := fun _ => Option (TT β)) none (fun ps => needs (bsOk P ty len ps x) (q (.slice (some ⟨m.size, 0, none⟩) len len) (m.push x))) (evParts G t parts.toList)
    | none => opF (.buildSlice ty len parts) P K G cf t m q
  | .binOp op ty x y yt => fun P K G cf t m q => match H.cmpAt op ty y with
    | some b => evF x G t fun x => evF y G t fun y => needs (binD P K op ty x y = some (.bool b)) (q (.bool b) m)
    | none => evF y G t fun v => match H.cmpY op ty v with
      | some b => evF x G t fun x => needs (binD P K op ty x v = some (.bool b)) (q (.bool b) m)
      | none => opF (.binOp op ty x y yt) P K G cf t m q
  | .call ⟨.builtin .append, args, tys⟩ => fun P K G cf t m q => match args.toList, tys.toList with
    | [s, x], [tS, tX] => (match H.apO x with
      | some r => evF s G t fun s => evF x G t fun x => needs (appendD P m tS tX s x = some r) (q r.1 r.2)
      | none => (match H.ap tS with
        | some X => evF s G t fun s => evF x G t fun x => apH P m tS tX s x X q
        | none => opF (.call ⟨.builtin .append, args, tys⟩) P K G cf t m q))
    | _, _ => none
  | .load ty a => fun P K G cf t m q => evF a G t fun v => asPtr v fun b off => match (match H.ldA a ty with | some u => some u | none => H.ld b ty off) with
    | some u => (match aggB P ty, szOf P ty with | some g, some n => needs (ldOk (m.get b) off g n u) (shF P ty u fun u => q u m) | _, _ => none)
    | none => opF (.load ty a) P K G cf t m q
  | .slice ty x (some lo) (some hi) none => fun P K G cf t m q => match H.sl ty with
    | some u => evF x G t fun xv => evF lo G t fun lv => evF hi G t fun hv => needs (sliceD P ty xv (some lv) (some hv) none = some u) (q u m)
    | none => opF (.slice ty x (some lo) (some hi) none) P K G cf t m q
  | .store ty a x => fun P K G cf t m q => evF a G t fun av => asPtr av fun b off => match (match H.stO a x with | some y => some y | none => H.st ty b) with
    | some y => evF x G t fun v => needs (stOk P (m.get b) ty off v y) (q undef (m.set b y))
    | none => opF (.store ty a x) P K G cf t m q
  | .makeSlice ty l c => fun P K G cf t m q => match H.mks ty with
    | some x => evF l G t fun lv => evF c G t fun cv => Y.asInt lv (fun _ lz => Y.asInt cv (fun _ cz => needs (mkOk P G ty lv cv x lz.toNat cz.toNat) (q (.slice (some ⟨m.size, 0, none⟩) lz.toNat cz.toNat) (m.push x))) none) none
    | none => opF (.makeSlice ty l c) P K G cf t m q
  | .convert a b y => fun P K G cf t m q => match H.cv a b with
    | some u => evF y G t fun v => needs (cvOk P (m.get (slBk v)) a b v u) (q u m)
    | none => opF (.convert a b y) P K G cf t m q
  | .index ty x i => fun P K G cf t m q => match H.ixv ty with
    | some u => evF x G t fun xv => evF i G t fun iv => needs (indexD P ty xv iv = some u) (q u m)
    | none => opF (.index ty x i) P K G cf t m q
  | .indexAddr ty x i => fun P K G cf t m q => cond (H.ix ty) (evF x G t fun x => evF i G t fun i => Y.asInt i (fun _ i => asSlc x fun b off len => match ixD P ty with
      | some (none, size) => needs (0 ≤ i ∧ i < (len : Int)) (q (.pointer (some ⟨b, Nat.add off (Nat.mul i.toNat size), none⟩)) m)
      | _ => none) none) (opF (.indexAddr ty x i) P K G cf t m q)
  | o => opF o
theorem opH_fac {P : Program} {K : TypeId → Bool} {G : Nat} {cf : CF (TT β)} {df : DF} (H : Hint) (hcf : ∀ f a m, FacV (cf f a m) (df f a m)) (o : Op) (t : Tmps) (m : Mem) : FacV (opH H o P K G cf t m) (opD P K G df t m o) := by
  have hoff : (opH H o : OpK (TT β)) = opF o → FacV (opH H o P K G cf t m) (opD P K G df t m o) := fun e => by
    rw [e]; exact op_fac hcf o t m
  cases o
  case load ty a =>
    intro q b ps hq hg
    have hq : (evF a G t fun v => asPtr v fun b off => match (match H.ldA a ty with | some u => some u | none => H.ld b ty off) with
      | some u => (match aggB P ty, szOf P ty with | some g, some n => needs (ldOk (m.get b) off g n u) (shF P ty u fun u => q (u, m)) | _, _ => none)
      | none => opF (.load ty a) P K G cf t m fun v m => q (v, m)) = some (b, ps) := hq
    rw [evF_eq] at hq
    cases he : ev G t a with
    | none => rw [he] at hq; cases hq
    | some v =>
      rw [he] at hq
      simp only [ob_some, asPtr_eq] at hq
      have key : ∀ bk off, v = .pointer (some ⟨bk, off, none⟩) → (match (match H.ldA a ty with | some u => some u | none => H.ld bk ty off) with
        | some u => (match aggB P ty, szOf P ty with | some g, some n => needs (ldOk (m.get bk) off g n u) (shF P ty u fun u => q (u, m)) | _, _ => none)
        | none => opF (.load ty a) P K G cf t m fun v m => q (v, m)) = some (b, ps) → ∃ x, opD P K G df t m (.load ty a) = some x ∧ ∃ ps', q x = some (b, ps') ∧ good ps' := by
        rintro bk off rfl hq
        cases hh : (match H.ldA a ty with | some u => some u | none => H.ld bk ty off) with
        | none => rw [hh] at hq; exact op_fac hcf (.load ty a) t m q b ps hq hg
        | some u =>
          rw [hh] at hq
          simp only at hq
          cases ha : aggB P ty with
          | none => rw [ha] at hq; cases hq
          | some g =>
            cases hs : szOf P ty with
            | none => rw [ha, hs] at hq; cases hq
            | some n =>
              rw [ha, hs] at hq
              obtain ⟨h1, ps1, h2, g2⟩ := needs_some hq hg
              rw [shF_eq] at h2
              have hl : loadD P m ty (.pointer (some ⟨bk, off, none⟩)) = some u := by
                cases g with
                | true =>
                  obtain ⟨l, h3, rfl⟩ := h1
                  simp only [loadD, ha, hs]
                  unfold blkSub at h3
                  unfold loadC
                  cases hb : m.get bk <;> rw [hb] at h3 <;> simp_all
                | false =>
                  have h3 : blkNth (m.get bk) off = some u := h1
                  simp only [loadD, ha]
                  unfold blkNth at h3
                  cases hb : m.get bk <;> rw [hb] at h3 <;> simp_all
              cases hsh : shD P ty (some u) with
              | none => rw [hsh] at h2; cases h2
              | some u' =>
                rw [hsh] at h2
                refine ⟨(u', m), ?_, ps1, h2, g2⟩
                simp only [opD, klass, quietD, he, hl, hsh]
      cases v <;> try (cases hq; done)
      rename_i ad
      cases ad with
      | none => cases hq
      | some ad =>
        obtain ⟨bk, off, sp⟩ := ad
        cases sp with
        | some _ => cases hq
        | none => exact key bk off rfl hq
  case indexAddr ty x i =>
    intro q b ps hq hg
    have hq : (cond (H.ix ty) (evF x G t fun x => evF i G t fun i => Y.asInt i (fun _ i => asSlc x fun b off len => match ixD P ty with
      | some (none, size) => needs (0 ≤ i ∧ i < (len : Int)) (q (.pointer (some ⟨b, Nat.add off (Nat.mul i.toNat size), none⟩), m))
      | _ => none) none) (opF (.indexAddr ty x i) P K G cf t m fun v m => q (v, m))) = some (b, ps) := hq
    cases hx : H.ix ty with
    | false => rw [hx] at hq; exact op_fac hcf (.indexAddr ty x i) t m q b ps hq hg
    | true =>
      rw [hx] at hq
      simp only [cond_true, evF_eq] at hq
      cases he : ev G t x with
      | none => rw [he] at hq; cases hq
      | some xv =>
        rw [he] at hq
        simp only [ob_some] at hq
        cases hi : ev G t i with
        | none => rw [hi] at hq; cases hq
        | some iv =>
          rw [hi] at hq
          simp only [ob_some] at hq
          cases iv <;> try (cases hq; done)
          rename_i ik iz
          cases xv <;> try (cases hq; done)
          rename_i sa sn sc
          cases sa with
          | none => cases hq
          | some sa =>
            obtain ⟨bk, off, sp⟩ := sa
            have hq : (match ixD P ty with
              | some (none, size) => needs (0 ≤ iz ∧ iz < (sn : Int)) (q (.pointer (some ⟨bk, Nat.add off (Nat.mul iz.toNat size), none⟩), m))
              | _ => none) = some (b, ps) := hq
            unfold ixD at hq
            cases hu : P.underlying ty with
            | none => rw [hu] at hq; cases hq
            | some d =>
              rw [hu] at hq
              cases d <;> try (cases hq; done)
              · rename_i e
                simp only at hq
                cases hs : szOf P e with
                | none => rw [hs] at hq; cases hq
                | some size =>
                  rw [hs] at hq
                  simp only at hq
                  obtain ⟨h1, ps1, h2, g2⟩ := needs_some hq hg
                  refine ⟨(_, m), ?_, ps1, h2, g2⟩
                  simp only [opD, klass, quietD, he, hi, indexAddrD, hu, hs, if_pos h1]
                  rfl
              · rename_i len e
                simp only at hq
                cases hs : szOf P e <;> rw [hs] at hq <;> cases hq
  case slice ty x lo hi mx =>
    cases lo with
    | none => exact hoff rfl
    | some lo =>
    cases hi with
    | none => exact hoff rfl
    | some hi =>
    cases mx with
    | some mx => exact hoff rfl
    | none =>
    intro q b ps hq hg
    have hq : (match H.sl ty with
      | some u => evF x G t fun xv => evF lo G t fun lv => evF hi G t fun hv => needs (sliceD P ty xv (some lv) (some hv) none = some u) (q (u, m))
      | none => opF (.slice ty x (some lo) (some hi) none) P K G cf t m fun v m => q (v, m)) = some (b, ps) := hq
    cases hc : H.sl ty with
    | none => rw [hc] at hq; exact op_fac hcf (.slice ty x (some lo) (some hi) none) t m q b ps hq hg
    | some u =>
      rw [hc] at hq
      simp only [evF_eq] at hq
      cases he : ev G t x with
      | none => rw [he] at hq; cases hq
      | some xv =>
        rw [he] at hq
        simp only [ob_some] at hq
        cases h2 : ev G t lo with
        | none => rw [h2] at hq; cases hq
        | some lv =>
          rw [h2] at hq
          simp only [ob_some] at hq
          cases h3 : ev G t hi with
          | none => rw [h3] at hq; cases hq
          | some hv =>
            rw [h3] at hq
            simp only [ob_some] at hq
            obtain ⟨h4, ps1, h5, g5⟩ := needs_some hq hg
            refine ⟨(u, m), ?_, ps1, h5, g5⟩
            simp only [opD, klass, quietD, he, optEv, h2, h3, h4]
  case store ty a x =>
    intro q b ps hq hg
    have hq : (evF a G t fun av => asPtr av fun b off => match (match H.stO a x with | some y => some y | none => H.st ty b) with
      | some y => evF x G t fun v => needs (stOk P (m.get b) ty off v y) (q (undef, m.set b y))
      | none => opF (.store ty a x) P K G cf t m fun v m => q (v, m)) = some (b, ps) := hq
    rw [evF_eq] at hq
    cases he : ev G t a with
    | none => rw [he] at hq; cases hq
    | some av =>
      rw [he] at hq
      simp only [ob_some, asPtr_eq] at hq
      cases av <;> try (cases hq; done)
      rename_i ad
      cases ad with
      | none => cases hq
      | some ad =>
        obtain ⟨bk, off, sp⟩ := ad
        cases sp with
        | some _ => cases hq
        | none =>
          have hq : (match (match H.stO a x with | some y => some y | none => H.st ty bk) with
            | some y => evF x G t fun v => needs (stOk P (m.get bk) ty off v y) (q (undef, m.set bk y))
            | none => opF (.store ty a x) P K G cf t m fun v m => q (v, m)) = some (b, ps) := hq
          cases hc : (match H.stO a x with | some y => some y | none => H.st ty bk) with
          | none => rw [hc] at hq; exact op_fac hcf (.store ty a x) t m q b ps hq hg
          | some y =>
            rw [hc] at hq
            simp only [evF_eq] at hq
            cases hi : ev G t x with
            | none => rw [hi] at hq; cases hq
            | some v =>
              rw [hi] at hq
              simp only [ob_some] at hq
              obtain ⟨h1, ps1, h2, g2⟩ := needs_some hq hg
              refine ⟨(undef, m.set bk y), ?_, ps1, h2, g2⟩
              simp only [opD, klass, heavyD, he, hi, h1 m bk rfl]
  case makeSlice ty l c =>
    intro q b ps hq hg
    have hq : (match H.mks ty with
      | some x => evF l G t fun lv => evF c G t fun cv => Y.asInt lv (fun _ lz => Y.asInt cv (fun _ cz => needs (mkOk P G ty lv cv x lz.toNat cz.toNat) (q (.slice (some ⟨m.size, 0, none⟩) lz.toNat cz.toNat, m.push x))) none) none
      | none => opF (.makeSlice ty l c) P K G cf t m fun v m => q (v, m)) = some (b, ps) := hq
    cases hc : H.mks ty with
    | none => rw [hc] at hq; exact op_fac hcf (.makeSlice ty l c) t m q b ps hq hg
    | some x =>
      rw [hc] at hq
      simp only [evF_eq] at hq
      cases he : ev G t l with
      | none => rw [he] at hq; cases hq
      | some lv =>
        rw [he] at hq
        simp only [ob_some] at hq
        cases hi : ev G t c with
        | none => rw [hi] at hq; cases hq
        | some cv =>
          rw [hi] at hq
          simp only [ob_some] at hq
          cases lv <;> try (cases hq; done)
          cases cv <;> try (cases hq; done)
          obtain ⟨h1, ps1, h2, g2⟩ := needs_some hq hg
          refine ⟨(_, m.push x), ?_, ps1, h2, g2⟩
          simp only [opD, klass, h1 t l c he hi]
          rfl
  case index ty x i =>
    intro q b ps hq hg
    have hq : (match H.ixv ty with
      | some u => evF x G t fun xv => evF i G t fun iv => needs (indexD P ty xv iv = some u) (q (u, m))
      | none => opF (.index ty x i) P K G cf t m fun v m => q (v, m)) = some (b, ps) := hq
    cases hc : H.ixv ty with
    | none => rw [hc] at hq; exact op_fac hcf (.index ty x i) t m q b ps hq hg
    | some u =>
      rw [hc] at hq
      simp only [evF_eq] at hq
      cases he : ev G t x with
      | none => rw [he] at hq; cases hq
      | some xv =>
        rw [he] at hq
        simp only [ob_some] at hq
        cases hi : ev G t i with
        | none => rw [hi] at hq; cases hq
        | some iv =>
          rw [hi] at hq
          simp only [ob_some] at hq
          obtain ⟨h1, ps1, h2, g2⟩ := needs_some hq hg
          refine ⟨(_, m), ?_, ps1, h2, g2⟩
          simp only [opD, klass, quietD, he, hi, h1]
  case mapUpdate ty x k v =>
    intro q b ps hq hg
    have hq : (match H.mu ty with
      | some y => Option.rec (motive := fun _ => Option (TT β)) none (fun xv => Option.rec (motive := fun _ => Option (TT β)) none (fun kv => Option.rec (motive := fun _ => Option (TT β)) none (fun vv => match xv with
        | .map (some r) => needs (mapUpdateD P K m ty (.map (some r)) kv vv = some (m.set r y)) (q (undef, m.set r y))
        | _ => none) (ev G t v)) (ev G t k)) (ev G t x)
      | none => opF (.mapUpdate ty x k v) P K G cf t m fun v m => q (v, m)) = some (b, ps) := hq
    cases hc : H.mu ty with
    | none => rw [hc] at hq; exact op_fac hcf (.mapUpdate ty x k v) t m q b ps hq hg
    | some y =>
      rw [hc] at hq
      cases hx : ev G t x with
      | none => rw [hx] at hq; cases hq
      | some xv =>
        rw [hx] at hq
        cases hk : ev G t k with
        | none => rw [hk] at hq; cases hq
        | some kv =>
          rw [hk] at hq
          cases hv : ev G t v with
          | none => rw [hv] at hq; cases hq
          | some vv =>
            rw [hv] at hq
            cases xv <;> try (cases hq; done)
            rename_i r
            cases r with
            | none => cases hq
            | some r =>
              obtain ⟨h1, ps1, h2, g2⟩ := needs_some hq hg
              refine ⟨(undef, m.set r y), ?_, ps1, h2, g2⟩
              simp only [opD, klass, heavyD, hx, hk, hv, h1]
  case buildSlice ty len parts =>
    intro q b ps hq hg
    have hq : (match H.bs ty with
      | some x => Option.rec (motive := fun _ => Option (TT β)) none (fun ps => needs (bsOk P ty len ps x) (q (.slice (some ⟨m.size, 0, none⟩) len len, m.push x))) (evParts G t parts.toList)
      | none => opF (.buildSlice ty len parts) P K G cf t m fun v m => q (v, m)) = some (b, ps) := hq
    cases hc : H.bs ty with
    | none => rw [hc] at hq; exact op_fac hcf (.buildSlice ty len parts) t m q b ps hq hg
    | some x =>
      rw [hc] at hq
      cases hp : evParts G t parts.toList with
      | none => rw [hp] at hq; cases hq
      | some pv =>
        rw [hp] at hq
        obtain ⟨h1, ps1, h2, g2⟩ := needs_some hq hg
        refine ⟨(_, m.push x), ?_, ps1, h2, g2⟩
        simp only [opD, klass, h1 G t parts hp]
        rfl
  case convert a b' y =>
    intro q b ps hq hg
    have hq : (match H.cv a b' with
      | some u => evF y G t fun v => needs (cvOk P (m.get (slBk v)) a b' v u) (q (u, m))
      | none => opF (.convert a b' y) P K G cf t m fun v m => q (v, m)) = some (b, ps) := hq
    cases hc : H.cv a b' with
    | none => rw [hc] at hq; exact op_fac hcf (.convert a b' y) t m q b ps hq hg
    | some u =>
      rw [hc] at hq
      simp only [evF_eq] at hq
      cases he : ev G t y with
      | none => rw [he] at hq; cases hq
      | some v =>
        rw [he] at hq
        simp only [ob_some] at hq
        obtain ⟨h1, ps1, h2, g2⟩ := needs_some hq hg
        refine ⟨(_, m), ?_, ps1, h2, g2⟩
        simp only [opD, klass, quietD, he, h1 m rfl]
  case binOp op ty x y yt =>
    intro q b ps hq hg
    have hq : (match H.cmpAt op ty y with
      | some b => evF x G t fun x => evF y G t fun y => needs (binD P K op ty x y = some (.bool b)) (q (.bool b, m))
      | none => evF y G t fun v => match H.cmpY op ty v with
        | some b => evF x G t fun x => needs (binD P K op ty x v = some (.bool b)) (q (.bool b, m))
        | none => opF (.binOp op ty x y yt) P K G cf t m fun v m => q (v, m)) = some (b, ps) := hq
    cases hc : H.cmpAt op ty y with
    | none =>
      rw [hc] at hq
      simp only [evF_eq] at hq
      cases hi : ev G t y with
      | none => rw [hi] at hq; cases hq
      | some yv =>
        rw [hi] at hq
        simp only [ob_some] at hq
        cases hy : H.cmpY op ty yv with
        | none => rw [hy] at hq; exact op_fac hcf (.binOp op ty x y yt) t m q b ps hq hg
        | some w =>
          rw [hy] at hq
          simp only at hq
          cases he : ev G t x with
          | none => rw [he] at hq; cases hq
          | some xv =>
            rw [he] at hq
            simp only [ob_some] at hq
            obtain ⟨h1, ps1, h2, g2⟩ := needs_some hq hg
            refine ⟨(_, m), ?_, ps1, h2, g2⟩
            simp only [opD, klass, quietD, he, hi, h1]
    | some w =>
      rw [hc] at hq
      simp only [evF_eq] at hq
      cases he : ev G t x with
      | none => rw [he] at hq; cases hq
      | some xv =>
        rw [he] at hq
        simp only [ob_some] at hq
        cases hi : ev G t y with
        | none => rw [hi] at hq; cases hq
        | some yv =>
          rw [hi] at hq
          simp only [ob_some] at hq
          obtain ⟨h1, ps1, h2, g2⟩ := needs_some hq hg
          refine ⟨(_, m), ?_, ps1, h2, g2⟩
          simp only [opD, klass, quietD, he, hi, h1]
  case call c =>
    obtain ⟨callee, args, tys⟩ := c
    cases callee with
    | value f => exact hoff rfl
    | invoke r s => exact hoff rfl
    | builtin bi =>
      by_cases hb : bi = .append
      · subst hb
        intro q b ps hq hg
        have hq : (match args.toList, tys.toList with
          | [s, x], [tS, tX] => (match H.apO x with
            | some r => evF s G t fun s => evF x G t fun x => needs (appendD P m tS tX s x = some r) (q r)
            | none => (match H.ap tS with
              | some X => evF s G t fun s => evF x G t fun x => apH P m tS tX s x X fun v m => q (v, m)
              | none => opF (.call ⟨.builtin .append, args, tys⟩) P K G cf t m fun v m => q (v, m)))
          | _, _ => none) = some (b, ps) := hq
        split at hq <;> try (cases hq; done)
        rename_i s x tS tX ha ht
        cases hO : H.apO x with
        | some r =>
          rw [hO] at hq
          simp only [evF_eq] at hq
          cases he : ev G t s with
          | none => rw [he] at hq; cases hq
          | some sv =>
            rw [he] at hq
            simp only [ob_some] at hq
            cases hi : ev G t x with
            | none => rw [hi] at hq; cases hq
            | some xv =>
              rw [hi] at hq
              simp only [ob_some] at hq
              obtain ⟨h1, ps1, h2, g2⟩ := needs_some hq hg
              refine ⟨r, ?_, ps1, h2, g2⟩
              simp only [opD, klass, heavyD, ha, ht, he, hi, h1]
        | none =>
        rw [hO] at hq
        simp only at hq
        cases hp : H.ap tS with
        | none => rw [hp] at hq; exact op_fac hcf (.call ⟨.builtin .append, args, tys⟩) t m q b ps hq hg
        | some X =>
          rw [hp] at hq
          simp only [evF_eq] at hq
          cases he : ev G t s with
          | none => rw [he] at hq; cases hq
          | some sv =>
            rw [he] at hq
            simp only [ob_some] at hq
            cases hi : ev G t x with
            | none => rw [hi] at hq; cases hq
            | some xv =>
              rw [hi] at hq
              simp only [ob_some] at hq
              cases sv <;> try (cases hq; done)
              rename_i sa sn sc
              cases sa with
              | none => cases hq
              | some sa =>
              obtain ⟨b0, o0, sp0⟩ := sa
              cases xv <;> try (cases hq; done)
              rename_i xa xn xc
              cases xa with
              | none => cases hq
              | some xa =>
              obtain ⟨bk, off, sp⟩ := xa
              have hq2 : (match P.underlying tS with
                | some (.slice e) => (match szOf P e, bytesOf P e with
                  | some z, some by_ => cond (Nat.beq tS tX && (Nat.beq sn 0 && (capZ (.slice (some ⟨b0, o0, sp0⟩) sn sc) && (plainP (.slice (some ⟨b0, o0, sp0⟩) sn sc) && (emptyB (m.get b0) && (Nat.ble 1 z && (Nat.ble 1 by_ && (zerosD P e 1).isSome))))))) (needs (apOk (m.get bk) off z by_ xn X) (q (.slice (some ⟨m.size, 0, some z⟩) xn xn, m.push (.cells true X)))) none
                  | _, _ => none)
                | _ => none) = some (b, ps) := hq
              split at hq2 <;> try (cases hq2; done)
              rename_i e hu
              split at hq2 <;> try (cases hq2; done)
              rename_i z by_ hz hby
              cases hk : (Nat.beq tS tX && (Nat.beq sn 0 && (capZ (.slice (some ⟨b0, o0, sp0⟩) sn sc) && (plainP (.slice (some ⟨b0, o0, sp0⟩) sn sc) && (emptyB (m.get b0) && (Nat.ble 1 z && (Nat.ble 1 by_ && (zerosD P e 1).isSome))))))) with
              | false => rw [hk] at hq2; cases hq2
              | true =>
                rw [hk] at hq2
                simp only [Bool.and_eq_true, Nat.beq_eq] at hk
                obtain ⟨k1, k2, k3, k4, k5, k6, k7, k8⟩ := hk
                subst k1 k2
                cases sp0 with
                | some _ => simp [plainP] at k4
                | none =>
                have e4 : o0 = 0 := by simpa [plainP] using k4
                have e3 : sc = 0 := by simpa [capZ] using k3
                subst e3 e4
                obtain ⟨⟨h0, h1, h2, h3, h4, h5⟩, ps1, h6, g6⟩ := needs_some hq2 hg
                refine ⟨_, ?_, ps1, h6, g6⟩
                have hf : firstC m z xn (.slice (some ⟨bk, off, sp⟩) xn xc) = some X := by
                  show loadC m bk off (xn * z) = some X
                  unfold blkSub at h3
                  unfold loadC
                  cases hb : m.get bk <;> rw [hb] at h3 <;> simp_all
                have hf0 : firstC m z 0 (.slice (some ⟨b0, 0, none⟩) 0 0) = some [] := by
                  show loadC m b0 0 (0 * z) = some []
                  unfold loadC
                  cases hb : m.get b0 <;> rw [hb] at k5 <;> simp_all [emptyB]
                have h6' : 1 ≤ z := Nat.le_of_ble_eq_true k6
                have h7' : 1 ≤ by_ := Nat.le_of_ble_eq_true k7
                have key : appendD P m tS tS (.slice (some ⟨b0, 0, none⟩) 0 0) (.slice (some ⟨bk, off, sp⟩) xn xc) = some (.slice (some ⟨m.size, 0, some z⟩) xn xn, m.push (.cells true X)) := by
                  unfold appendD
                  simp only [hu, hz, hby, lenOf, hf, hf0]
                  rw [if_neg (by omega), if_neg (by omega), if_pos ⟨by rw [Nat.zero_add]; exact h1, by omega, by omega, k8⟩, if_pos ⟨by rw [h4]; rfl, by simp, h5⟩]
                  simp
                simp only [opD, klass, heavyD, ha, ht, he, hi, key]
      · exact hoff (by cases bi <;> first | rfl | exact absurd rfl hb)
  all_goals exact hoff rfl
end
/-- An operation, its answer told by the name of what it sets. -/
def opHd (H : Hint) (o : Oper) : OpK (TT β) := match H.on o.dst with
  | none => opH H o.op
  | some u => match o.op with
    | .load ty a => fun P _ G _ t m q => evF a G t fun v => asPtr v fun b off => match aggB P ty, szOf P ty with
      | some g, some n => needs (ldOk (m.get b) off g n u) (shF P ty u fun u => q u m)
      | _, _ => none
    | .binOp op ty x y _ => fun P K G _ t m q => evF x G t fun x => evF y G t fun y => needs (binD P K op ty x y = some u) (q u m)
    | .unOp op _ x => fun _ _ G _ t m q => evF x G t fun x => needs (unD op x = some u) (q u m)
    | .index ty x i => fun P _ G _ t m q => evF x G t fun xv => evF i G t fun iv => needs (indexD P ty xv iv = some u) (q u m)
    | .indexAddr ty x i => fun P _ G _ t m q => evF x G t fun xv => evF i G t fun iv => needs (indexAddrD P ty xv iv = some u) (q u m)
    | .field ty x f => fun P _ G _ t m q => evF x G t fun xv => needs (fieldD P ty f xv = some u) (q u m)
    | .convert a b y => fun P _ G _ t m q => evF y G t fun v => needs (cvOk P (m.get (slBk v)) a b v u) (q u m)
    | .lookup ty x k ok => fun P K G _ t m q => evF x G t fun xv => evF k G t fun kv => needs (lookupD P K m ty xv kv ok = some u) (q u m)
    | .build ty parts => fun P _ G _ t m q => Option.rec (motive := fun _ => Option (TT β)) none (fun ps => needs (buildD P ty ps = some u) (q u m)) (evParts G t parts.toList)
    | .move x => fun _ _ G _ t m q => evF x G t fun v => needs (v = u) (q u m)
    | .assign x => fun _ _ G _ t m q => evF x G t fun v => needs (v = u) (q u m)
    | op => opH H op
section
variable {P : Program} {K : TypeId → Bool} {G : Nat} {cf : CF (TT β)} {df : DF}
theorem opHd_fac (H : Hint) (hcf : ∀ f a m, FacV (cf f a m) (df f a m)) (o : Oper) (t : Tmps) (m : Mem) : FacV (opHd H o P K G cf t m) (opD P K G df t m o.op) := by
  cases hu : H.on o.dst with
  | none =>
    have e : (opHd H o : OpK (TT β)) = opH H o.op := by unfold opHd; rw [hu]
    rw [e]; exact opH_fac H hcf o.op t m
  | some u =>
    have hoff : (opHd H o : OpK (TT β)) = opH H o.op → FacV (opHd H o P K G cf t m) (opD P K G df t m o.op) := fun e => by
      rw [e]; exact opH_fac H hcf o.op t m
    intro q b ps hq hg
    unfold opHd at hq
    rw [hu] at hq
    simp only at hq
    cases hop : o.op
    case load ty a =>
      rw [hop] at hq
      have hq : (evF a G t fun v => asPtr v fun b off => match aggB P ty, szOf P ty with
        | some g, some n => needs (ldOk (m.get b) off g n u) (shF P ty u fun u => q (u, m))
        | _, _ => none) = some (b, ps) := hq
      rw [evF_eq] at hq
      cases he : ev G t a with
      | none => rw [he] at hq; cases hq
      | some v =>
        rw [he] at hq
        simp only [ob_some, asPtr_eq] at hq
        cases v <;> try (cases hq; done)
        rename_i ad
        cases ad with
        | none => cases hq
        | some ad =>
          obtain ⟨bk, off, sp⟩ := ad
          cases sp with
          | some _ => cases hq
          | none =>
            have hq : (match aggB P ty, szOf P ty with
              | some g, some n => needs (ldOk (m.get bk) off g n u) (shF P ty u fun u => q (u, m))
              | _, _ => none) = some (b, ps) := hq
            cases ha : aggB P ty with
            | none => rw [ha] at hq; cases hq
            | some g =>
              cases hs : szOf P ty with
              | none => rw [ha, hs] at hq; cases hq
              | some n =>
                rw [ha, hs] at hq
                obtain ⟨h1, ps1, h2, g2⟩ := needs_some hq hg
                rw [shF_eq] at h2
                have hl : loadD P m ty (.pointer (some ⟨bk, off, none⟩)) = some u := by
                  cases g with
                  | true =>
                    obtain ⟨l, h3, rfl⟩ := h1
                    simp only [loadD, ha, hs]
                    unfold blkSub at h3
                    unfold loadC
                    cases hb : m.get bk <;> rw [hb] at h3 <;> simp_all
                  | false =>
                    have h3 : blkNth (m.get bk) off = some u := h1
                    simp only [loadD, ha]
                    unfold blkNth at h3
                    cases hb : m.get bk <;> rw [hb] at h3 <;> simp_all
                cases hsh : shD P ty (some u) with
                | none => rw [hsh] at h2; cases h2
                | some u' =>
                  rw [hsh] at h2
                  refine ⟨(u', m), ?_, ps1, h2, g2⟩
                  simp only [opD, klass, quietD, he, hl, hsh]
    case binOp op ty x y yt =>
      rw [hop] at hq
      have hq : (evF x G t fun x => evF y G t fun y => needs (binD P K op ty x y = some u) (q (u, m))) = some (b, ps) := hq
      simp only [evF_eq] at hq
      cases he : ev G t x with
      | none => rw [he] at hq; cases hq
      | some xv =>
        rw [he] at hq
        simp only [ob_some] at hq
        cases hi : ev G t y with
        | none => rw [hi] at hq; cases hq
        | some yv =>
          rw [hi] at hq
          simp only [ob_some] at hq
          obtain ⟨h1, ps1, h2, g2⟩ := needs_some hq hg
          refine ⟨(_, m), ?_, ps1, h2, g2⟩
          simp only [opD, klass, quietD, he, hi, h1]
    case unOp op ty x =>
      rw [hop] at hq
      have hq : (evF x G t fun x => needs (unD op x = some u) (q (u, m))) = some (b, ps) := hq
      simp only [evF_eq] at hq
      cases he : ev G t x with
      | none => rw [he] at hq; cases hq
      | some xv =>
        rw [he] at hq
        simp only [ob_some] at hq
        obtain ⟨h1, ps1, h2, g2⟩ := needs_some hq hg
        refine ⟨(_, m), ?_, ps1, h2, g2⟩
        simp only [opD, klass, quietD, he, h1]
    case index ty x i =>
      rw [hop] at hq
      have hq : (evF x G t fun xv => evF i G t fun iv => needs (indexD P ty xv iv = some u) (q (u, m))) = some (b, ps) := hq
      simp only [evF_eq] at hq
      cases he : ev G t x with
      | none => rw [he] at hq; cases hq
      | some xv =>
        rw [he] at hq
        simp only [ob_some] at hq
        cases hi : ev G t i with
        | none => rw [hi] at hq; cases hq
        | some iv =>
          rw [hi] at hq
          simp only [ob_some] at hq
          obtain ⟨h1, ps1, h2, g2⟩ := needs_some hq hg
          refine ⟨(_, m), ?_, ps1, h2, g2⟩
          simp only [opD, klass, quietD, he, hi, h1]
    case indexAddr ty x i =>
      rw [hop] at hq
      have hq : (evF x G t fun xv => evF i G t fun iv => needs (indexAddrD P ty xv iv = some u) (q (u, m))) = some (b, ps) := hq
      simp only [evF_eq] at hq
      cases he : ev G t x with
      | none => rw [he] at hq; cases hq
      | some xv =>
        rw [he] at hq
        simp only [ob_some] at hq
        cases hi : ev G t i with
        | none => rw [hi] at hq; cases hq
        | some iv =>
          rw [hi] at hq
          simp only [ob_some] at hq
          obtain ⟨h1, ps1, h2, g2⟩ := needs_some hq hg
          refine ⟨(_, m), ?_, ps1, h2, g2⟩
          simp only [opD, klass, quietD, he, hi, h1]
    case field ty x f =>
      rw [hop] at hq
      have hq : (evF x G t fun xv => needs (fieldD P ty f xv = some u) (q (u, m))) = some (b, ps) := hq
      simp only [evF_eq] at hq
      cases he : ev G t x with
      | none => rw [he] at hq; cases hq
      | some xv =>
        rw [he] at hq
        simp only [ob_some] at hq
        obtain ⟨h1, ps1, h2, g2⟩ := needs_some hq hg
        refine ⟨(_, m), ?_, ps1, h2, g2⟩
        simp only [opD, klass, quietD, he, h1]
    case convert a b' y =>
      rw [hop] at hq
      have hq : (evF y G t fun v => needs (cvOk P (m.get (slBk v)) a b' v u) (q (u, m))) = some (b, ps) := hq
      simp only [evF_eq] at hq
      cases he : ev G t y with
      | none => rw [he] at hq; cases hq
      | some v =>
        rw [he] at hq
        simp only [ob_some] at hq
        obtain ⟨h1, ps1, h2, g2⟩ := needs_some hq hg
        refine ⟨(_, m), ?_, ps1, h2, g2⟩
        simp only [opD, klass, quietD, he, h1 m rfl]
    case lookup ty x k ok =>
      rw [hop] at hq
      have hq : (evF x G t fun xv => evF k G t fun kv => needs (lookupD P K m ty xv kv ok = some u) (q (u, m))) = some (b, ps) := hq
      simp only [evF_eq] at hq
      cases he : ev G t x with
      | none => rw [he] at hq; cases hq
      | some xv =>
        rw [he] at hq
        simp only [ob_some] at hq
        cases hi : ev G t k with
        | none => rw [hi] at hq; cases hq
        | some iv =>
          rw [hi] at hq
          simp only [ob_some] at hq
          obtain ⟨h1, ps1, h2, g2⟩ := needs_some hq hg
          refine ⟨(_, m), ?_, ps1, h2, g2⟩
          simp only [opD, klass, quietD, he, hi, h1]
    case build ty parts =>
      rw [hop] at hq
      have hq : Option.rec (motive := fun _ => Option (TT β)) none (fun ps => needs (buildD P ty ps = some u) (q (u, m))) (evParts G t parts.toList) = some (b, ps) := hq
      cases hp : evParts G t parts.toList with
      | none => rw [hp] at hq; cases hq
      | some pv =>
        rw [hp] at hq
        obtain ⟨h1, ps1, h2, g2⟩ := needs_some hq hg
        refine ⟨(_, m), ?_, ps1, h2, g2⟩
        simp only [opD, klass, quietD, hp, h1]
    case move x =>
      rw [hop] at hq
      have hq : (evF x G t fun v => needs (v = u) (q (u, m))) = some (b, ps) := hq
      simp only [evF_eq] at hq
      cases he : ev G t x with
      | none => rw [he] at hq; cases hq
      | some xv =>
        rw [he] at hq
        simp only [ob_some] at hq
        obtain ⟨rfl, ps1, h2, g2⟩ := needs_some hq hg
        refine ⟨(_, m), ?_, ps1, h2, g2⟩
        simp only [opD, klass, quietD, he]
    case assign x =>
      rw [hop] at hq
      have hq : (evF x G t fun v => needs (v = u) (q (u, m))) = some (b, ps) := hq
      simp only [evF_eq] at hq
      cases he : ev G t x with
      | none => rw [he] at hq; cases hq
      | some xv =>
        rw [he] at hq
        simp only [ob_some] at hq
        obtain ⟨rfl, ps1, h2, g2⟩ := needs_some hq hg
        refine ⟨(_, m), ?_, ps1, h2, g2⟩
        simp only [opD, klass, quietD, he]
    all_goals
      rw [hop] at hq
      have h0 := opH_fac (P := P) (K := K) (G := G) H hcf o.op t m q b ps
      rw [hop] at h0
      exact h0 hq hg
end
def recH (H : Hint) (l : List Oper) : RecK (TT β) :=
  List.rec (motive := fun _ => RecK (TT β)) (fun _ _ _ _ _ _ t m q => q [] t m)
    (fun o _ ih P K G cf n ops t m q => Bool.rec (motive := fun _ => Option (TT β)) none (Bool.rec (motive := fun _ => Option (TT β)) (putOF t o.dst undef fun t' => ih P K G cf n ops t' m fun rs t' m'' => q (⟨false, undef, t, m⟩ :: rs) t' m'')
      (opHd H o P K G cf t m fun v m' => putOF t o.dst v fun t' => ih P K G cf n ops t' m' fun rs t' m'' => q (⟨true, v, t, m⟩ :: rs) t' m'') (wantF o ops t)) (dstF n o.dst)) l
def opsH (H : Hint) (l : List Oper) : OpsK (TT β) :=
  List.rec (motive := fun _ => OpsK (TT β)) (fun _ _ _ _ _ _ t m q => q t m)
    (fun o _ ih P K G cf n ops t m q => Bool.rec (motive := fun _ => Option (TT β)) none (Bool.rec (motive := fun _ => Option (TT β)) (putOF t o.dst undef fun t' => ih P K G cf n ops t' m q)
      (opHd H o P K G cf t m fun v m' => putOF t o.dst v fun t' => ih P K G cf n ops t' m' q) (wantF o ops t)) (dstF n o.dst)) l
section
variable {P : Program} {K : TypeId → Bool} {G : Nat} {cf : CF (TT β)} {df : DF}
theorem rec_fac (H : Hint) (hcf : ∀ f a m, FacV (cf f a m) (df f a m)) (n : Nat) (ops : List Oper) : ∀ (l : List Oper) (t : Tmps) (m : Mem), FacR (recH H l P K G cf n ops t m) (recD P K G df n ops l t m)
  | [], t, m => Fac.on fun q => rfl
  | o :: l, t, m => fun q b ps hq hg => by
    have hq : Bool.rec (motive := fun _ => Option (TT β)) none (Bool.rec (motive := fun _ => Option (TT β)) (putOF t o.dst undef fun t' => recH H l P K G cf n ops t' m fun rs t' m'' => q (⟨false, undef, t, m⟩ :: rs, t', m''))
      (opHd H o P K G cf t m fun v m' => putOF t o.dst v fun t' => recH H l P K G cf n ops t' m' fun rs t' m'' => q (⟨true, v, t, m⟩ :: rs, t', m'')) (wantF o ops t)) (dstF n o.dst) = some (b, ps) := hq
    simp only [putOF_eq, wantF_eq, dstF_eq] at hq
    simp only [recD]
    cases hd : dstOk n o.dst with
    | false => rw [hd] at hq; cases hq
    | true =>
      rw [hd] at hq
      cases hw : Region.wanted o (yieldD ops t) with
      | false =>
        rw [hw] at hq
        obtain ⟨⟨rs, t', m'⟩, h1, h2⟩ := rec_fac H hcf n ops l (putD t o.dst undef) m (fun p => q (⟨false, undef, t, m⟩ :: p.1, p.2.1, p.2.2)) b ps hq hg
        exact ⟨_, by simp only [if_true, h1]; rfl, h2⟩
      | true =>
        rw [hw] at hq
        obtain ⟨⟨v, m1⟩, h1, ps1, h2, g2⟩ := opHd_fac H hcf o t m (fun p => recH H l P K G cf n ops (putD t o.dst p.1) p.2 fun rs t' m'' => q (⟨true, p.1, t, m⟩ :: rs, t', m'')) b ps hq hg
        obtain ⟨⟨rs, t', m'⟩, h3, h4⟩ := rec_fac H hcf n ops l (putD t o.dst v) m1 (fun p => q (⟨true, v, t, m⟩ :: p.1, p.2.1, p.2.2)) b ps1 h2 g2
        exact ⟨_, by simp only [if_true, h1, h3], h4⟩
theorem ops_fac (H : Hint) (hcf : ∀ f a m, FacV (cf f a m) (df f a m)) (n : Nat) (ops : List Oper) : ∀ (l : List Oper) (t : Tmps) (m : Mem), FacT (opsH H l P K G cf n ops t m) (opsD P K G df n ops l t m)
  | [], t, m => Fac.on fun q => rfl
  | o :: l, t, m => fun q b ps hq hg => by
    have hq : Bool.rec (motive := fun _ => Option (TT β)) none (Bool.rec (motive := fun _ => Option (TT β)) (putOF t o.dst undef fun t' => opsH H l P K G cf n ops t' m fun t' m'' => q (t', m''))
      (opHd H o P K G cf t m fun v m' => putOF t o.dst v fun t' => opsH H l P K G cf n ops t' m' fun t' m'' => q (t', m'')) (wantF o ops t)) (dstF n o.dst) = some (b, ps) := hq
    simp only [putOF_eq, wantF_eq, dstF_eq] at hq
    simp only [opsD]
    cases hd : dstOk n o.dst with
    | false => rw [hd] at hq; cases hq
    | true =>
      rw [hd] at hq
      cases hw : Region.wanted o (yieldD ops t) with
      | false =>
        rw [hw] at hq
        obtain ⟨a, h1, h2⟩ := ops_fac H hcf n ops l (putD t o.dst undef) m q b ps hq hg
        exact ⟨a, by simp only [if_true]; exact h1, h2⟩
      | true =>
        rw [hw] at hq
        obtain ⟨⟨v, m1⟩, h1, ps1, h2, g2⟩ := opHd_fac H hcf o t m (fun p => opsH H l P K G cf n ops (putD t o.dst p.1) p.2 fun t' m'' => q (t', m'')) b ps hq hg
        obtain ⟨a, h3, h4⟩ := ops_fac H hcf n ops l (putD t o.dst v) m1 q b ps1 h2 g2
        exact ⟨a, by simp only [if_true, h1]; exact h3, h4⟩
end
/-! ### regions that are drawn -/
def vqT (v' v : Value) (q : Option (TT β)) : Option (TT β) := Bool.rec (motive := fun _ => Option (TT β)) none (Option.rec (motive := fun _ => Option (TT β)) none (fun p => some (p.1, (v', v) :: p.2.1, p.2.2)) q) (selfV 8 v)
def chkT (H : Hint) (P : Program) (K : TypeId → Bool) (G : Nat) (ops : List Oper) (rs : List Rec) (m' : Mem) (x : Nat × Nat) (q : Option (TT β)) : Option (TT β) :=
  match rs[x.1]?, ops[x.1]? with
  | some r, some o => Bool.rec (motive := fun _ => Option (TT β)) q (match o.op with
      | .load ty a => evF a G r.t fun v => asPtr v fun b off => match H.ldX o b ty off with
        | some u => (match aggB P ty, szOf P ty with | some g, some n => needs (ldOk ((mAt rs m' x.2).get b) off g n u) (shF P ty u fun v' => vqT v' r.v q) | _, _ => none)
        | none => loadF P (mAt rs m' x.2) ty v fun v => shF P ty v fun v' => vqT v' r.v q
      | .convert a b y => evF y G r.t fun v => (match H.cv a b with
        | some u => needs (cvOk P ((mAt rs m' x.2).get (slBk v)) a b v u) (vqT u r.v q)
        | none => ob (convQ P (mAt rs m' x.2) a b v) fun v' => vqT v' r.v q)
      | .call c => (match quietD P K G r.t (mAt rs m' x.2) (.call c) with
        | some v' => vqT v' r.v q
        | none => none)
      | _ => Bool.rec (motive := fun _ => Option (TT β)) none q (chk1 P K G ops rs m' x)) r.want
  | _, _ => none
theorem vqT_some {v' v : Value} {q : Option (TT β)} {b : β} {ps : List (Value × Value) × List Prop} (h : vqT v' v q = some (b, ps)) (hg : good ps) : veq 8 v' v = true ∧ ∃ ps', q = some (b, ps') ∧ good ps' := by
  unfold vqT at h
  cases hs : selfV 8 v with
  | false => rw [hs] at h; cases h
  | true =>
    rw [hs] at h
    cases q with
    | none => cases h
    | some p =>
      have h : some (p.1, (v', v) :: p.2.1, p.2.2) = some (b, ps) := h
      simp only [Option.some.injEq, Prod.mk.injEq] at h
      obtain ⟨rfl, rfl⟩ := h
      have e : v' = v := hg.1 (v', v) (List.mem_cons_self ..)
      subst e
      exact ⟨veq_self 8 _ hs, p.2, rfl, fun x hx => hg.1 x (List.mem_cons_of_mem _ hx), hg.2⟩
theorem chkT_some {H : Hint} {P : Program} {K : TypeId → Bool} {G : Nat} {ops : List Oper} {rs : List Rec} {m' : Mem} {x : Nat × Nat} {q : Option (TT β)} {b : β} {ps : List (Value × Value) × List Prop} (h : chkT H P K G ops rs m' x q = some (b, ps)) (hg : good ps) : chk1 P K G ops rs m' x = true ∧ ∃ ps', q = some (b, ps') ∧ good ps' := by
  unfold chkT at h
  have hc : chk1 P K G ops rs m' x = (match rs[x.1]?, ops[x.1]? with
    | some r, some o => !r.want || (match quietD P K G r.t (mAt rs m' x.2) o.op with | some v => veq 8 v r.v | none => false)
    | _, _ => false) := rfl
  cases hr : rs[x.1]? with
  | none => rw [hr] at h; cases h
  | some r =>
    cases ho : ops[x.1]? with
    | none => rw [hr, ho] at h; cases h
    | some o =>
      rw [hr, ho] at hc h
      simp only at hc h
      cases hw : r.want with
      | false =>
        rw [hw] at hc h
        exact ⟨by rw [hc]; rfl, ps, h, hg⟩
      | true =>
        rw [hw] at h
        simp only at h
        have hgen : Bool.rec (motive := fun _ => Option (TT β)) none q (chk1 P K G ops rs m' x) = some (b, ps) → chk1 P K G ops rs m' x = true ∧ ∃ ps', q = some (b, ps') ∧ good ps' := fun h => by
          cases hk : chk1 P K G ops rs m' x with
          | false => rw [hk] at h; cases h
          | true => rw [hk] at h; exact ⟨rfl, ps, h, hg⟩
        cases hop : o.op <;> rw [hop] at h <;> try (exact hgen h)
        case convert a b' y =>
          rw [hc, hw, hop]
          simp only [evF_eq] at h
          simp only [quietD, Bool.not_true, Bool.false_or]
          cases he : ev G r.t y with
          | none => rw [he] at h; cases h
          | some v =>
            rw [he] at h
            simp only [ob_some] at h
            cases hcv : H.cv a b' with
            | some u =>
              rw [hcv] at h
              simp only at h
              obtain ⟨h1, ps1, h2, g2⟩ := needs_some h hg
              simp only [h1 _ rfl]
              exact vqT_some h2 g2
            | none =>
            rw [hcv] at h
            simp only at h
            cases hv : convQ P (mAt rs m' x.2) a b' v with
            | none => rw [hv] at h; cases h
            | some v' => rw [hv] at h; simp only [hv]; exact vqT_some h hg
        case call c =>
          rw [hc, hw, hop]
          simp only [Bool.not_true, Bool.false_or]
          have h : (match quietD P K G r.t (mAt rs m' x.2) (.call c) with
            | some v' => vqT v' r.v q
            | none => none) = some (b, ps) := h
          cases hv : quietD P K G r.t (mAt rs m' x.2) (.call c) with
          | none => rw [hv] at h; cases h
          | some v' => rw [hv] at h; exact vqT_some h hg
        rename_i ty a
        rw [hc, hw, hop]
        simp only [evF_eq] at h
        simp only [quietD, Bool.not_true, Bool.false_or]
        cases he : ev G r.t a with
        | none => rw [he] at h; cases h
        | some v =>
          rw [he] at h
          simp only [ob_some, asPtr_eq] at h ⊢
          have key : ∀ bk off, v = .pointer (some ⟨bk, off, none⟩) → (match H.ldX o bk ty off with
            | some u => (match aggB P ty, szOf P ty with | some g, some n => needs (ldOk ((mAt rs m' x.2).get bk) off g n u) (shF P ty u fun v' => vqT v' r.v q) | _, _ => none)
            | none => loadF P (mAt rs m' x.2) ty v fun v => shF P ty v fun v' => vqT v' r.v q) = some (b, ps) → (match shD P ty (loadD P (mAt rs m' x.2) ty v) with | some v => veq 8 v r.v | none => false) = true ∧ ∃ ps', q = some (b, ps') ∧ good ps' := by
            rintro bk off rfl h
            cases hh : H.ldX o bk ty off with
            | none =>
              rw [hh] at h
              simp only [loadF_eq, shF_eq] at h
              cases hl : loadD P (mAt rs m' x.2) ty (.pointer (some ⟨bk, off, none⟩)) with
              | none => rw [hl] at h; cases h
              | some u =>
                rw [hl] at h
                simp only [ob_some] at h
                cases hs : shD P ty (some u) with
                | none => rw [hs] at h; cases h
                | some u' =>
                  rw [hs] at h
                  simp only [ob_some] at h
                  simp only [hs]
                  exact vqT_some h hg
            | some u =>
              rw [hh] at h
              simp only at h
              cases ha : aggB P ty with
              | none => rw [ha] at h; cases h
              | some g =>
                cases hs : szOf P ty with
                | none => rw [ha, hs] at h; cases h
                | some n =>
                  rw [ha, hs] at h
                  obtain ⟨h1, ps1, h2, g2⟩ := needs_some h hg
                  rw [shF_eq] at h2
                  have hl : loadD P (mAt rs m' x.2) ty (.pointer (some ⟨bk, off, none⟩)) = some u := by
                    cases g with
                    | true =>
                      obtain ⟨l, h3, rfl⟩ := h1
                      simp only [loadD, ha, hs]
                      unfold blkSub at h3
                      unfold loadC
                      cases hb : (mAt rs m' x.2).get bk <;> rw [hb] at h3 <;> simp_all
                    | false =>
                      have h3 : blkNth ((mAt rs m' x.2).get bk) off = some u := h1
                      simp only [loadD, ha]
                      unfold blkNth at h3
                      cases hb : (mAt rs m' x.2).get bk <;> rw [hb] at h3 <;> simp_all
                  rw [hl]
                  cases hsh : shD P ty (some u) with
                  | none => rw [hsh] at h2; cases h2
                  | some u' =>
                    rw [hsh] at h2
                    simp only [ob_some] at h2
                    simp only [hsh]
                    exact vqT_some h2 g2
          cases v <;> try (cases h; done)
          rename_i ad
          cases ad with
          | none => cases h
          | some ad =>
            obtain ⟨bk, off, sp⟩ := ad
            cases sp with
            | some _ => cases h
            | none => exact key bk off rfl h
def chksT (H : Hint) (P : Program) (K : TypeId → Bool) (G : Nat) (ops : List Oper) (rs : List Rec) (m' : Mem) (l : List (Nat × Nat)) (q : Option (TT β)) : Option (TT β) :=
  List.rec (motive := fun _ => Option (TT β)) q (fun x _ ih => chkT H P K G ops rs m' x ih) l
theorem chksT_some {H : Hint} {P : Program} {K : TypeId → Bool} {G : Nat} {ops : List Oper} {rs : List Rec} {m' : Mem} {q : Option (TT β)} {b : β} : ∀ {l : List (Nat × Nat)} {ps : List (Value × Value) × List Prop}, chksT H P K G ops rs m' l q = some (b, ps) → good ps → l.all (chk1 P K G ops rs m') = true ∧ ∃ ps', q = some (b, ps') ∧ good ps'
  | [], ps, h, hg => ⟨rfl, ps, h, hg⟩
  | x :: l, ps, h, hg => by
    obtain ⟨h1, ps1, h2, g2⟩ := chkT_some (q := chksT H P K G ops rs m' l q) h hg
    obtain ⟨h3, r⟩ := chksT_some h2 g2
    exact ⟨by rw [List.all_cons, h1, h3]; rfl, r⟩
def drawT (H : Hint) (P : Program) (K : TypeId → Bool) (G : Nat) (cf : CF (TT β)) (n : Nat) (ops : List Oper) (t : Tmps) (m : Mem) (q : Tmps → Mem → Option (TT β)) : Option (TT β) :=
  Bool.rec (motive := fun _ => Option (TT β)) none (recH H ops P K G cf n ops t m fun rs t' m' => chksT H P K G ops rs m' (need1F ops) (Bool.rec (motive := fun _ => Option (TT β)) none (q t' m')
    ((need2F ops).all (chk2 rs m')))) (statT ops)
theorem draw_fac (H : Hint) {P : Program} {K : TypeId → Bool} {G : Nat} {cf : CF (TT β)} {df : DF} (hcf : ∀ f a m, FacV (cf f a m) (df f a m)) (n : Nat) (ops : List Oper) (t : Tmps) (m : Mem) : FacT (drawT H P K G cf n ops t m) (drawD P K G df n ops t m) := fun q b ps hq hg => by
  have hq : drawT H P K G cf n ops t m (fun t' m' => q (t', m')) = some (b, ps) := hq
  unfold drawT at hq
  unfold drawD
  simp only [statT_eq] at hq
  cases hs : statB ops (tabD ops []) with
  | false => rw [hs] at hq; cases hq
  | true =>
    rw [hs] at hq
    obtain ⟨⟨rs, t', m'⟩, h1, ps1, h2, g2⟩ := rec_fac H hcf n ops ops t m (fun p => chksT H P K G ops p.1 p.2.2 (need1F ops) (Bool.rec (motive := fun _ => Option (TT β)) none (q (p.2.1, p.2.2)) ((need2F ops).all (chk2 p.1 p.2.2)))) b ps hq hg
    obtain ⟨h3, ps2, h4, g4⟩ := chksT_some h2 g2
    simp only at h4
    cases h5 : (need2F ops).all (chk2 rs m') with
    | false => rw [h5] at h4; cases h4
    | true =>
      rw [h5] at h4
      refine ⟨(t', m'), ?_, ps2, h4, g4⟩
      simp only [if_true, h1]
      rw [if_pos (by rw [← all_congr_mem (need1F_mem ops)]; exact h3), if_pos (by rw [← all_congr_mem (need2F_mem ops)]; exact h5)]
/-! ### code -/
def codeT (H : Hint) (c : Code) : CodeK (TT β) :=
  Code.rec (motive := fun _ => CodeK (TT β))
    (fun _ _ _ _ _ _ _ t m q => q .normal t m)
    (fun _ ops draw P K G cf _ n _ t m q => Bool.rec (motive := fun _ => Option (TT β)) (opsH H ops.toList P K G cf n ops.toList t m fun t m => q .normal t m) (drawT H P K G cf n ops.toList t m fun t m => q .normal t m) draw)
    (fun _ _ ia ib P K G cf L n k t m q => ia P K G cf L n k t m fun e t m => Ex.rec (motive := fun _ => Option (TT β)) (ib P K G cf L n k t m q) (fun id => q (.exit id) t m) (q .ret t m) e)
    (fun c _ _ ix iy P K G cf L n k t m q => evF c G t fun v => Y.asBool v (ix P K G cf L n k t m q) (iy P K G cf L n k t m q))
    (fun id _ ib P K G cf L n k t m q => ib P K G cf L n k t m fun e t m => Ex.rec (motive := fun _ => Option (TT β)) (q .normal t m) (fun id' => Bool.rec (motive := fun _ => Option (TT β)) (q (.exit id') t m) (q .normal t m) (Nat.beq id' id)) (q .ret t m) e)
    (fun c ib P K G cf L n k t m q => L (fun t m q => ib P K G cf L n k t m q) c k t m q)
    (fun _ _ _ _ _ _ _ _ _ _ _ _ _ _ _ _ => none)
    (fun id _ _ _ _ _ _ _ t m q => q (.exit id) t m)
    (fun _ ic P K G cf L n k t m q => ic P K G cf L n k t m q)
    (fun _ _ _ _ _ _ _ _ t m q => q .normal t m)
    (fun _ _ _ _ _ _ _ _ _ _ _ => none)
    (fun _ _ _ _ _ _ _ t m q => q .ret t m)
    (fun _ _ _ _ _ _ _ _ _ _ _ => none)
    c
def loopT (body : Tmps → Mem → ExK (TT β) → Option (TT β)) (k : Nat) : Tmps → Mem → ExK (TT β) → Option (TT β) := loopF body k
theorem loop_fac {body : Tmps → Mem → ExK (TT β) → Option (TT β)} {b : Tmps → Mem → Option (Ex × Tmps × Mem)} (hb : ∀ t m, FacE (body t m) (b t m)) : ∀ (k : Nat) (t : Tmps) (m : Mem), FacE (loopF body k t m) (loopD b k t m)
  | 0, t, m => fun q x ps hq hg => by cases hq
  | k + 1, t, m => fun q x ps hq hg => by
    have hq : (body t m fun e t' m' => Ex.rec (motive := fun _ => Option (TT β)) (loopF body k t' m' fun e t m => q (e, t, m)) (fun id => q (.exit id, t', m')) (q (.ret, t', m')) e) = some (x, ps) := hq
    obtain ⟨⟨e, t', m'⟩, h1, ps1, h2, g2⟩ := hb t m (fun p => Ex.rec (motive := fun _ => Option (TT β)) (loopF body k p.2.1 p.2.2 fun e t m => q (e, t, m)) (fun id => q (.exit id, p.2.1, p.2.2)) (q (.ret, p.2.1, p.2.2)) p.1) x ps hq hg
    simp only [loopD, h1]
    cases e with
    | normal => exact loop_fac hb k t' m' q x ps1 h2 g2
    | exit id => exact ⟨_, rfl, ps1, h2, g2⟩
    | ret => exact ⟨_, rfl, ps1, h2, g2⟩
theorem code_fac (H : Hint) {P : Program} {K : TypeId → Bool} {G : Nat} {cf : CF (TT β)} {df : DF} (hcf : ∀ f a m, FacV (cf f a m) (df f a m)) (n k : Nat) : ∀ (c : Code) (t : Tmps) (m : Mem), FacE (codeT H c P K G cf (fun body _ k t m q => loopF body k t m q) n k t m) (codeD P K G df (drawD P K G df n) n k c t m) := by
  intro c
  induction c with
  | skip => intro t m; exact Fac.on fun q => rfl
  | label l => intro t m; exact Fac.on fun q => rfl
  | exit id => intro t m; exact Fac.on fun q => rfl
  | ret => intro t m; exact Fac.on fun q => rfl
  | rangeFunc => intro t m q b ps hq; cases hq
  | scope c ih => intro t m; exact ih t m
  | goto => intro t m q b ps hq; cases hq
  | refuse => intro t m q b ps hq; cases hq
  | region id ops draw =>
    intro t m q b ps hq hg
    cases draw with
    | false =>
      obtain ⟨⟨t', m'⟩, h1, r⟩ := ops_fac H hcf n ops.toList ops.toList t m (fun p => q (.normal, p.1, p.2)) b ps hq hg
      exact ⟨(.normal, t', m'), by simp only [codeD, cond_false, h1], r⟩
    | true =>
      obtain ⟨⟨t', m'⟩, h1, r⟩ := draw_fac H hcf n ops.toList t m (fun p => q (.normal, p.1, p.2)) b ps hq hg
      exact ⟨(.normal, t', m'), by simp only [codeD, cond_true, h1], r⟩
  | seq a b iha ihb =>
    intro t m q x ps hq hg
    obtain ⟨⟨e, t', m'⟩, h1, ps1, h2, g2⟩ := iha t m (fun p => Ex.rec (motive := fun _ => Option (TT β)) (codeT H b P K G cf (fun body _ k t m q => loopF body k t m q) n k p.2.1 p.2.2 fun e t m => q (e, t, m)) (fun id => q (.exit id, p.2.1, p.2.2)) (q (.ret, p.2.1, p.2.2)) p.1) x ps hq hg
    simp only [codeD, h1]
    cases e with
    | normal => exact ihb t' m' q x ps1 h2 g2
    | exit id => exact ⟨_, rfl, ps1, h2, g2⟩
    | ret => exact ⟨_, rfl, ps1, h2, g2⟩
  | cond c x y ihx ihy =>
    intro t m q b ps hq hg
    have hq : (evF c G t fun v => Y.asBool v (codeT H x P K G cf (fun body _ k t m q => loopF body k t m q) n k t m fun e t m => q (e, t, m)) (codeT H y P K G cf (fun body _ k t m q => loopF body k t m q) n k t m fun e t m => q (e, t, m))) = some (b, ps) := hq
    rw [evF_eq] at hq
    simp only [codeD]
    cases he : ev G t c with
    | none => rw [he] at hq; cases hq
    | some v =>
      rw [he] at hq
      cases v <;> try (cases hq; done)
      rename_i w
      cases w with
      | true => exact ihx t m q b ps hq hg
      | false => exact ihy t m q b ps hq hg
  | block id c ih =>
    intro t m q b ps hq hg
    obtain ⟨⟨e, t', m'⟩, h1, ps1, h2, g2⟩ := ih t m (fun p => Ex.rec (motive := fun _ => Option (TT β)) (q (.normal, p.2.1, p.2.2)) (fun id' => Bool.rec (motive := fun _ => Option (TT β)) (q (.exit id', p.2.1, p.2.2)) (q (.normal, p.2.1, p.2.2)) (Nat.beq id' id)) (q (.ret, p.2.1, p.2.2)) p.1) b ps hq hg
    simp only [codeD, h1]
    cases e with
    | normal => exact ⟨_, rfl, ps1, h2, g2⟩
    | ret => exact ⟨_, rfl, ps1, h2, g2⟩
    | exit id' =>
      have h2 : Bool.rec (motive := fun _ => Option (TT β)) (q (.exit id', t', m')) (q (.normal, t', m')) (Nat.beq id' id) = some (b, ps1) := h2
      rw [beqN] at h2
      by_cases h : id' = id
      · rw [decide_eq_true h] at h2
        exact ⟨(.normal, t', m'), by simp only [if_pos h], ps1, h2, g2⟩
      · rw [decide_eq_false h] at h2
        exact ⟨(.exit id', t', m'), by simp only [if_neg h], ps1, h2, g2⟩
  | loop c ih =>
    intro t m q b ps hq hg
    exact loop_fac (fun t m => ih t m) k t m q b ps hq hg
def runT (H : Hint) (P : Program) (K : TypeId → Bool) (G : Nat) (k : Nat) (cf : CF (TT β)) (fn : Func) (c : Code) (args : List Value) (m : Mem) (q : Value → Mem → Option (TT β)) : Option (TT β) :=
  initF args 0 fun t => codeT H c P K G cf (fun body _ k t m q => loopF body k t m q) (max args.length fn.ntmps) k t m fun e t' m' => Ex.rec (motive := fun _ => Option (TT β)) (resF fn.results.toList P t' m' fun vs => q (resV vs) m') (fun _ => none) (resF fn.results.toList P t' m' fun vs => q (resV vs) m') e
def callT (H : Hint) (P : Program) (K : TypeId → Bool) (G : Nat) (k : Nat) : CF (TT β) :=
  Nat.rec (motive := fun _ => CF (TT β)) (fun _ _ _ _ => none) (fun k ih f args m q => Option.rec (motive := fun _ => Option (TT β)) (Option.rec (motive := fun _ => Option (TT β)) none (fun fn => Option.rec (motive := fun _ => Option (TT β)) none (fun c => runT H P K G k ih fn c args m q) fn.body) P.funcs[f]?)
    (fun v => needs (H.says f args m v) (q v (H.eff f m))) (H.call f)) k
theorem call_fac (H : Hint) (P : Program) (K : TypeId → Bool) (G : Nat) (o : Orc) (h1 : ∀ f v args m, H.call f = some v → H.says f args m v → o f args m = some (v, H.eff f m)) (h2 : ∀ f, H.call f = none → ∀ a m, o f a m = none) : ∀ (k : Nat) (f : FuncId) (args : List Value) (m : Mem), FacV (callT H P K G k f args m : (Value → Mem → Option (TT β)) → Option (TT β)) (callO P K G o k f args m)
  | 0, f, args, m => fun q b ps hq => by cases hq
  | k + 1, f, args, m => fun q b ps hq hg => by
    have ih : ∀ f args m, FacV (callT H P K G k f args m : (Value → Mem → Option (TT β)) → Option (TT β)) (callO P K G o k f args m) := call_fac H P K G o h1 h2 k
    have hq : Option.rec (motive := fun _ => Option (TT β)) (Option.rec (motive := fun _ => Option (TT β)) none (fun fn => Option.rec (motive := fun _ => Option (TT β)) none (fun c => runT H P K G k (callT H P K G k) fn c args m fun v m => q (v, m)) fn.body) P.funcs[f]?)
      (fun v => needs (H.says f args m v) (q (v, H.eff f m))) (H.call f) = some (b, ps) := hq
    simp only [callO]
    cases hc : H.call f with
    | some v =>
      rw [hc] at hq
      obtain ⟨p1, ps1, p2, g2⟩ := needs_some hq hg
      rw [h1 f v args m hc p1]
      exact ⟨_, rfl, ps1, p2, g2⟩
    | none =>
    rw [hc] at hq
    rw [h2 f hc]
    simp only [bodyD]
    cases hf : P.funcs[f]? with
    | none => rw [hf] at hq; cases hq
    | some fn =>
      rw [hf] at hq
      simp only at hq ⊢
      cases hb : fn.body with
      | none => rw [hb] at hq; cases hq
      | some c =>
        rw [hb] at hq
        simp only [runT, initF_eq, resF_eq] at hq ⊢
        obtain ⟨⟨e, t', m'⟩, h1, ps1, h2, g2⟩ := code_fac H ih (max args.length fn.ntmps) k c (initT 0 args) m (fun p => Ex.rec (motive := fun _ => Option (TT β)) (ob (resD P p.2.1 p.2.2 fn.results.toList) fun vs => q (resV vs, p.2.2)) (fun _ => none) (ob (resD P p.2.1 p.2.2 fn.results.toList) fun vs => q (resV vs, p.2.2)) p.1) b ps hq hg
        rw [h1]
        cases e with
        | exit id => cases h2
        | normal =>
          have h2 : (ob (resD P t' m' fn.results.toList) fun vs => q (resV vs, m')) = some (b, ps1) := h2
          simp only
          cases hr : resD P t' m' fn.results.toList with
          | none => rw [hr] at h2; cases h2
          | some vs => rw [hr] at h2; exact ⟨_, rfl, ps1, h2, g2⟩
        | ret =>
          have h2 : (ob (resD P t' m' fn.results.toList) fun vs => q (resV vs, m')) = some (b, ps1) := h2
          simp only
          cases hr : resD P t' m' fn.results.toList with
          | none => rw [hr] at h2; cases h2
          | some vs => rw [hr] at h2; exact ⟨_, rfl, ps1, h2, g2⟩
/-- A call, by a run with hints. -/
theorem callO_H {H : Hint} {P : Program} {K : TypeId → Bool} {G : Nat} {o : Orc} (h1 : ∀ f v args m, H.call f = some v → H.says f args m v → o f args m = some (v, H.eff f m)) (h2 : ∀ f, H.call f = none → ∀ a m, o f a m = none)
    {k : Nat} {f : FuncId} {args : List Value} {m : Mem} {g : Value → Mem → β} {b : β} {qs : List Prop}
    (hr : (callT H P K G k f args m fun v m => some (g v m, [], [])).map (fun x => (x.1, x.2.2)) = some (b, qs))
    (hp : ((callT H P K G k f args m fun v m => some (g v m, [], [])).map fun x => x.2.1.map Prod.fst) = ((callT H P K G k f args m fun v m => some (g v m, [], [])).map fun x => x.2.1.map Prod.snd)) (hq : ∀ p ∈ qs, p) :
    ∃ v m', callO P K G o k f args m = some (v, m') ∧ g v m' = b := by
  cases hx : callT H P K G k f args m fun v m => some (g v m, [], []) with
  | none => rw [hx] at hr; cases hr
  | some r =>
    obtain ⟨b', ps, qs'⟩ := r
    rw [hx] at hr hp
    have hr : some (b', qs') = some (b, qs) := hr
    simp only [Option.some.injEq, Prod.mk.injEq] at hr
    obtain ⟨rfl, rfl⟩ := hr
    have hp : some (ps.map Prod.fst) = some (ps.map Prod.snd) := hp
    obtain ⟨⟨v, m'⟩, q1, ps', q2, _⟩ := call_fac H P K G o h1 h2 k f args m (fun p => some (g p.1 p.2, [], [])) b' (ps, qs') hx (good_of (Option.some.inj hp) hq)
    simp only [Option.some.injEq, Prod.mk.injEq] at q2
    exact ⟨v, m', q1, q2.1⟩
/-- A piece of code, by a run with hints. -/
theorem codeO_H {H : Hint} {P : Program} {K : TypeId → Bool} {G : Nat} {o : Orc} (h1 : ∀ f v args m, H.call f = some v → H.says f args m v → o f args m = some (v, H.eff f m)) (h2 : ∀ f, H.call f = none → ∀ a m, o f a m = none)
    {j n k : Nat} {c : Code} {t : Tmps} {m : Mem} {g : Ex → Tmps → Mem → β} {b : β} {qs : List Prop}
    (hr : (codeT H c P K G (callT H P K G j) (fun body _ k t m q => loopF body k t m q) n k t m fun e t m => some (g e t m, [], [])).map (fun x => (x.1, x.2.2)) = some (b, qs))
    (hp : ((codeT H c P K G (callT H P K G j) (fun body _ k t m q => loopF body k t m q) n k t m fun e t m => some (g e t m, [], [])).map fun x => x.2.1.map Prod.fst) = ((codeT H c P K G (callT H P K G j) (fun body _ k t m q => loopF body k t m q) n k t m fun e t m => some (g e t m, [], [])).map fun x => x.2.1.map Prod.snd)) (hq : ∀ p ∈ qs, p) :
    ∃ e t' m', codeD P K G (callO P K G o j) (drawD P K G (callO P K G o j) n) n k c t m = some (e, t', m') ∧ g e t' m' = b := by
  cases hx : codeT H c P K G (callT H P K G j) (fun body _ k t m q => loopF body k t m q) n k t m fun e t m => some (g e t m, [], []) with
  | none => rw [hx] at hr; cases hr
  | some r =>
    obtain ⟨b', ps, qs'⟩ := r
    rw [hx] at hr hp
    have hr : some (b', qs') = some (b, qs) := hr
    simp only [Option.some.injEq, Prod.mk.injEq] at hr
    obtain ⟨rfl, rfl⟩ := hr
    have hp : some (ps.map Prod.fst) = some (ps.map Prod.snd) := hp
    obtain ⟨⟨e, t', m'⟩, q1, ps', q2, _⟩ := code_fac H (call_fac H P K G o h1 h2 j) n k c t m (fun p => some (g p.1 p.2.1 p.2.2, [], [])) b' (ps, qs') hx (good_of (Option.some.inj hp) hq)
    simp only [Option.some.injEq, Prod.mk.injEq] at q2
    exact ⟨e, t', m', q1, q2.1⟩
end
end Go.DI.H
/-
  DiItems: a code, cut into its statements; a run of some of them, and of the rest.
-/
namespace Go.DI
namespace Kit
noncomputable section
def items : Code → List Code
  | .seq a b => items a ++ items b
  | .scope c => items c
  | c => [c]
def seqL : List Code → Code
  | [] => .skip
  | [c] => c
  | c :: l => .seq c (seqL l)
section
variable {P : Program} {K : TypeId → Bool} {G : Nat}
def runLD (P : Program) (K : TypeId → Bool) (G : Nat) (cf : DFun) (n k : Nat) : List Code → Tmps → Mem → Option (Ex × Tmps × Mem)
  | [], t, m => some (.normal, t, m)
  | c :: l, t, m => match codeD P K G cf (drawD P K G cf n) n k c t m with
    | some (.normal, t', m') => runLD P K G cf n k l t' m'
    | r => r
variable {cf : DFun} {n k : Nat}
theorem runLD_app : ∀ (a b : List Code) (t : Tmps) (m : Mem), runLD P K G cf n k (a ++ b) t m = (match runLD P K G cf n k a t m with | some (.normal, t', m') => runLD P K G cf n k b t' m' | r => r)
  | [], b, t, m => rfl
  | c :: a, b, t, m => by
    simp only [List.cons_append, runLD]
    cases codeD P K G cf (drawD P K G cf n) n k c t m with
    | none => rfl
    | some r =>
      obtain ⟨e, t', m'⟩ := r
      cases e with
      | normal => exact runLD_app a b t' m'
      | exit id => rfl
      | ret => rfl
theorem runLD_one (c : Code) (t : Tmps) (m : Mem) : runLD P K G cf n k [c] t m = codeD P K G cf (drawD P K G cf n) n k c t m := by
  simp only [runLD]
  cases codeD P K G cf (drawD P K G cf n) n k c t m with
  | none => rfl
  | some r =>
    obtain ⟨e, t', m'⟩ := r
    cases e <;> rfl
theorem codeD_items : ∀ (c : Code) (t : Tmps) (m : Mem), codeD P K G cf (drawD P K G cf n) n k c t m = runLD P K G cf n k (items c) t m := by
  intro c
  induction c with
  | seq a b iha ihb =>
    intro t m
    simp only [items, runLD_app, ← iha, codeD]
    cases codeD P K G cf (drawD P K G cf n) n k a t m with
    | none => rfl
    | some r =>
      obtain ⟨e, t', m'⟩ := r
      cases e with
      | normal => exact ihb t' m'
      | exit id => rfl
      | ret => rfl
  | scope c ih => intro t m; exact ih t m
  | _ => intro t m; exact (runLD_one _ t m).symm
theorem codeD_seqL : ∀ (l : List Code) (t : Tmps) (m : Mem), codeD P K G cf (drawD P K G cf n) n k (seqL l) t m = runLD P K G cf n k l t m
  | [], t, m => rfl
  | [c], t, m => (runLD_one c t m).symm
  | c :: c' :: l, t, m => by
    show codeD P K G cf (drawD P K G cf n) n k (.seq c (seqL (c' :: l))) t m = _
    simp only [codeD, runLD]
    cases codeD P K G cf (drawD P K G cf n) n k c t m with
    | none => rfl
    | some r =>
      obtain ⟨e, t', m'⟩ := r
      cases e with
      | normal => exact codeD_seqL (c' :: l) t' m'
      | exit id => rfl
      | ret => rfl
/-- A code by the first of its statements and the rest. -/
theorem codeD_cut (i : Nat) (c : Code) {t t' : Tmps} {m m' : Mem} (h : codeD P K G cf (drawD P K G cf n) n k (seqL ((items c).take i)) t m = some (.normal, t', m')) :
    codeD P K G cf (drawD P K G cf n) n k c t m = codeD P K G cf (drawD P K G cf n) n k (seqL ((items c).drop i)) t' m' := by
  rw [codeD_items c, ← List.take_append_drop i (items c), runLD_app, ← codeD_seqL, h]
  simp only [List.take_append_drop]
  rw [codeD_seqL]
end
end
end Kit
end Go.DI
/-
  DiRF: single operations by hand, and frames brought back to their shape: for iterators.
-/
namespace Go.DI
open Go.RowKit
noncomputable section
section
variable {P : Program} {F : Fence} {n : Nat} {Q : Exit → Act → World → Prop} {a : Act} {w w' : World} {ops : Array Oper} {rest : List Nat} {i : Nat} {o : Oper} {ρ : Operand → Value}
theorem run_move {x : Operand} (h : o.op = .move x) : (execOp ρ o).run P w = .ok (.value (ρ x)) w := by unfold execOp; rw [h]; rfl
theorem run_assign {x : Operand} (h : o.op = .assign x) : (execOp ρ o).run P w = .ok (.value (ρ x)) w := by unfold execOp; rw [h]; rfl
theorem run_not {ty : TypeId} {x : Operand} {b : Bool} (h : o.op = .unOp .not ty x) (hx : ρ x = .bool b) : (execOp ρ o).run P w = .ok (.value (.bool (!b))) w := by
  unfold execOp; rw [h]; simp only [hx]; rfl
theorem run_yieldOp {f : Operand} {args : Array Operand} {tys : Array TypeId} {l : Nat} (h : o.op = .call ⟨.value f, args, tys⟩) (hf : ρ f = .func (.yield l) #[] #[]) : (execOp ρ o).run P w = (Instr.yield l (args.map ρ)).run P w := by
  unfold execOp; rw [h]
  simp [resolve, hf, Deferred.ofValue, invoke]
theorem ops_val {v : Value} (ho : ops[i]? = some o) (hg : o.guard = none) (hF : ∀ f, F.fn f) (hr : (Oper.semAt F.round a.eval o).run P w = .ok (.value v) w') (h : wpOpsIn F n P ops Q rest (a.put o.dst v) w') : wpOpsIn F n P ops Q (i :: rest) a w := by
  simp only [wpOpsIn, ho]
  rw [if_pos (by simp [Region.wanted, hg])]
  refine ⟨fun f _ => hF f, ?_⟩
  rw [hr]
  exact h
theorem ops_round {l : Nat} {fn : FuncId} {tmps : Array Value} {assign body : Code} (ho : ops[i]? = some o) (hg : o.guard = none) (hF : ∀ f, F.fn f) (hd : F.depth = none) (hr : (Oper.semAt F.round a.eval o).run P w = .ok (.round l fn tmps assign body) w')
    (h : RoundIn F (n - 1) P l fn tmps assign body w' fun e w'' => ∃ v, e = .returned v ∧ wpOpsIn F n P ops Q rest (a.put o.dst v) w'') : wpOpsIn F n P ops Q (i :: rest) a w := by
  simp only [wpOpsIn, ho]
  rw [if_pos (by simp [Region.wanted, hg])]
  refine ⟨fun f _ => hF f, ?_⟩
  rw [hr]
  refine ⟨fun g => (by rw [hd] at g; cases g), h.mono ?_⟩
  rintro e w'' ⟨v, rfl, hv⟩
  exact hv
end
section
variable {P : Program} {n : Nat} {Q : Exit → Act → World → Prop} {a : Act} {w w' : World} {ops : Array Oper} {rest : List Nat} {i : Nat} {o : Oper}
theorem sem_wide {ρ : Operand → Value} : Oper.semAt Fence.wide.round ρ o = execOp ρ o := Oper.semAt_none ρ o
theorem ops_valW {v : Value} (ho : ops[i]? = some o) (hg : o.guard = none) (hr : (execOp a.eval o).run P w = .ok (.value v) w') (h : wpOpsIn Fence.wide n P ops Q rest (a.put o.dst v) w') : wpOpsIn Fence.wide n P ops Q (i :: rest) a w :=
  ops_val ho hg (fun _ => trivial) (by rw [sem_wide]; exact hr) h
theorem ops_roundW {l : Nat} {fn : FuncId} {tmps : Array Value} {assign body : Code} (ho : ops[i]? = some o) (hg : o.guard = none) (hr : (execOp a.eval o).run P w = .ok (.round l fn tmps assign body) w')
    (h : RoundIn Fence.wide (n - 1) P l fn tmps assign body w' fun e w'' => ∃ v, e = .returned v ∧ wpOpsIn Fence.wide n P ops Q rest (a.put o.dst v) w'') : wpOpsIn Fence.wide n P ops Q (i :: rest) a w :=
  ops_round ho hg (fun _ => trivial) rfl (by rw [sem_wide]; exact hr) h
end
section
variable {ι : Ren} {n : Nat} {t : Tmps} {a : Act}
theorem TRel.full (h : TRel ι n t a) (kn : List (Nat × Value)) (hk : ∀ p ∈ kn, t.at p.1 = p.2) : ∃ x, TRel ι n (fullN n (up x kn)) a := by
  refine ⟨fun d => t.at d, h.1, fun d => ?_⟩
  rw [Kit.up_self _ kn hk, fullN_at]
  by_cases hd : d < n
  · rw [if_pos hd]; exact h.2 d
  · rw [if_neg hd, Array.getD_eq_getD_getElem?, Array.getElem?_eq_none (by rw [h.1]; omega)]
    exact VRel.undef _
theorem TRel.int (h : TRel ι n t a) {d : Nat} {k : IntKind} {z : Int} (hd : t.at d = .int k z) : a.tmps.getD d undef = .int k z := by
  have := h.2 d
  rw [hd] at this
  generalize a.tmps.getD d undef = u at this ⊢
  cases this
  rfl
theorem TRel.bool (h : TRel ι n t a) {d : Nat} {b : Bool} (hd : t.at d = .bool b) : a.tmps.getD d undef = .bool b := by
  have := h.2 d
  rw [hd] at this
  generalize a.tmps.getD d undef = u at this ⊢
  cases this
  rfl
theorem TRel.yield (h : TRel ι n t a) {d l : Nat} (hd : t.at d = .func (.yield l) #[] #[]) : a.tmps.getD d undef = .func (.yield l) #[] #[] := by
  have := h.2 d
  rw [hd] at this
  generalize a.tmps.getD d undef = u at this ⊢
  cases this with
  | func fn x x' y y' hx hy =>
    have e1 : x' = #[] := Array.eq_empty_of_size_eq_zero hx.symm
    have e2 : y' = #[] := Array.eq_empty_of_size_eq_zero hy.symm
    rw [e1, e2]
theorem vrel_yield (ι : Ren) (l : Nat) : VRel ι (.func (.yield l) #[] #[]) (.func (.yield l) #[] #[]) := .func _ _ _ _ _ rfl rfl (fun i x y hx => by simp at hx) (fun i x y hx => by simp at hx)
end
/-- The frame at a function's start. -/
theorem start_rel {ι : Ren} {args args' : List Value} {nt : Nat} (hargs : VRels ι args args') : TRel ι (max args.length nt) (fullN (max args.length nt) (argX args)) { tmps := args'.toArray ++ Array.replicate (nt - args'.toArray.size) undef, defers := [] } := by
  have hlen := hargs.length
  refine ⟨by simp; omega, fun d => ?_⟩
  rw [fullN_at, argX_eq]
  cases hd : args[d]? with
  | some v =>
    obtain ⟨y, hy, hry⟩ := hargs.get hd
    have hlt : d < args'.length := by
      rcases Nat.lt_or_ge d args'.length with h1 | h1
      · exact h1
      · rw [List.getElem?_eq_none h1] at hy; cases hy
    have hld : d < args.length := (List.getElem?_eq_some_iff.1 hd).1
    have : (args'.toArray ++ Array.replicate (nt - args'.toArray.size) undef).getD d undef = y := by
      rw [Array.getD_eq_getD_getElem?, Array.getElem?_append_left (by simpa using hlt), List.getElem?_toArray, hy]; rfl
    rw [this, if_pos (by omega)]; exact hry
  | none =>
    have hge : args.length ≤ d := List.getElem?_eq_none_iff.1 hd
    have : (args'.toArray ++ Array.replicate (nt - args'.toArray.size) undef).getD d undef = undef := by
      rw [Array.getD_eq_getD_getElem?, Array.getElem?_append_right (by simp; omega), Array.getElem?_replicate]
      split <;> rfl
    rw [this]
    split
    · exact VRel.undef _
    · exact VRel.undef _
theorem rel_below {B0 G : Nat} {ι : Ren} {m : Mem} {w W : World} (hr : Rel B0 G ι m w) (hb : Below w.heap.size w W) : Rel B0 G ι m W :=
  ⟨fun b L h1 h2 => (hr.blk b L h1 h2).monoL (fun _ _ h => h) fun hl => hb.block _ ((hr.blk b L h1 h2).lt hl), hr.inj, Nat.le_trans hr.floor hb.size, hr.glob, hr.top⟩
/-- What an iterator's step leaves alone. -/
theorem grown_of {P : Program} {ι ι' : Ren} {m m' : Mem} {W W' : World} (hs : Stp ι ι' m m' W W') (ho : ∀ b, (m.get b).own = false) : W.grownBy W' none :=
  ⟨hs.os, hs.tape, hs.output, hs.hsize, fun k hk _ => hs.frame k hk fun b L _ _ h => by rw [ho b] at h; cases h⟩
theorem stp_same {ι ι' : Ren} {m : Mem} {W W' : World} (hs : Stp ι ι' m m W W') : ι' = ι := by
  funext b
  rcases Nat.lt_or_ge b m.size with h | h
  · exact hs.out b (.inl h)
  · exact hs.out b (.inr h)
def regA : Code → Nat → Array Oper
  | .region id ops _, i => if id = i then ops else #[]
  | .seq x y, i => if (regA x i).isEmpty then regA y i else regA x i
  | .cond _ x y, i => if (regA x i).isEmpty then regA y i else regA x i
  | .block _ c, i => regA c i
  | .loop c, i => regA c i
  | .scope c, i => regA c i
  | .rangeFunc _ _ x y, i => if (regA x i).isEmpty then regA y i else regA x i
  | _, _ => #[]
end
end Go.DI
/-
  DiRF2: a range over a function, its body by the interpreter, round by round.
-/
namespace Go.DI
open Go.RowKit
noncomputable section
/-- Blocks that the rounds' deferred calls are gathered in. -/
def Marks (Ds : List Nat) (W : World) : Prop := ∀ D ∈ Ds, W.heap[D]? = some (.deferred (some []))
theorem Marks.keeps {Ds : List Nat} {W W' : World} (h : Marks Ds W) (hk : Keeps W W') : Marks Ds W' := fun D hD => hk.2 D _ (h D hD) rfl
section
variable {P : Program} {B0 n d : Nat} {w0 w : World} {ι : Ren} {m0 : Mem} {a : Act} {g : Operand} {ps : Array Tmp} {assign body : Code} {Q : Exit → Act → World → Prop}
theorem range_di {α : Type} (hs : St B0 w0 ι m0 w) {Ds : List Nat} (hDs : Marks Ds w) (hd : 1 ≤ d) {gf : Nat} {lb : Array Value} (hg : a.eval g = .func (.func gf) #[] lb) (eg : ∀ args w, (callFunc gf args).run P w = .ok (.enter gf args) w)
    {encs : α → Array Value} {Kp : World → World → Prop} {S : List α → Prop} {N : Nat} (hseq : SeqStopsK Fence.wide (d - 1) P gf lb encs Kp S (fun _ => True) N w)
    (hKt : ∀ {A B C : World}, Kp A B → Kp B C → Kp A C) (hKb : ∀ (W : World) (l : Nat) (o o' : Obj), w.heap.size ≤ l → W.heap[l]? = some o → o.isCells = false → o.isWalk = false → Kp W (W.putObj l o')) (hps : ∀ x, (encs x).size = ps.size)
    (mp : List α → Mem) (h0 : mp [] = m0) (hc : ∀ pre b, ((mp pre).get b).live → ∃ o c, (mp pre).get b = .cells o c) (a₁ : α → Act)
    (hassign : ∀ (l : Nat) (x : α) (W : World) (K : Act → World → Prop), K (a₁ x) W →
      assign.wpIn (FR l) (d - 1 - 1) P (Exit.then K (fun _ _ _ => False)) { tmps := (ps.zip (encs x)).foldl (fun t (p, v) => t.setIfInBounds p v) a.tmps, defers := [] } W)
    (hbody : ∀ (l : Nat) (pre : List α) (x : α) (W : World) (Q' : Exit → Act → World → Prop), ¬ LetsOut Q' → St B0 w0 ι (mp pre) W → (∀ a' W', Keeps W W' → St B0 w0 ι (mp (pre ++ [x])) W' → Q' .normal a' W') → body.wpIn (FR l) (d - 1 - 1) P Q' (a₁ x) W)
    (hKp : ∀ (pre : List α) (W W' : World), St B0 w0 ι (mp pre) W' → Kp W W')
    (hQ : ∀ (D : Nat) (xs : List α) (W : World), w.heap.size ≤ D → S xs → St B0 w0 ι (mp xs) W → Marks (D :: Ds) W → Q .normal { a with defers := { target := .collected D, args := #[] } :: a.defers } W) :
    (Code.rangeFunc g ps assign body).wpIn Fence.wide d P Q a w := by
  have hsz : w0.heap.size ≤ w.heap.size := hs.below.size
  have hown : OwnFrom w.heap.size (fun pre W => St B0 w0 ι (mp pre) W ∧ Marks Ds W ∧ ∀ D ∈ Ds, D < w.heap.size) := by
    rintro pre W W' row ⟨h1, h2, h3⟩ hgr hr
    refine ⟨h1.grown (hc pre) hsz hgr hr, fun D hD => ?_, h3⟩
    have hlt : D < W.heap.size := (Array.getElem?_eq_some_iff.1 (h2 D hD)).1
    rw [hgr.block D hlt fun e => ?_]
    · exact h2 D hD
    · obtain ⟨hB, _⟩ := hr D e.symm
      have := h3 D hD
      omega
  have hDlt : ∀ D ∈ Ds, D < w.heap.size := fun D hD => (Array.getElem?_eq_some_iff.1 (hDs D hD)).1
  refine wpIn_rangeFunc_ownG (F := Fence.wide) rfl hd hg trivial eg hseq hKt hKb (Below.refl _ _) hps (fun pre W => St B0 w0 ι (mp pre) W ∧ Marks Ds W ∧ ∀ D ∈ Ds, D < w.heap.size) (fun _ _ _ => False) hown (fun _ _ _ _ _ hf _ _ => hf) ⟨h0 ▸ hs, hDs, hDlt⟩ a₁ hassign ?_ ?_ ?_
  · rintro l pre x W ⟨h1, h2, h3⟩ _
    refine hbody l pre x W _ (by rintro ⟨_, _, h⟩; exact h) h1 fun a' W' hk hst => ?_
    exact ⟨hk.from _, hKp _ W W' hst, hst, h2.keeps hk, h3⟩
  · rintro D xs W hD hS ⟨h1, h2, h3⟩ hk
    refine hQ D xs W hD hS h1 fun D' hD' => ?_
    rcases List.mem_cons.1 hD' with rfl | hD'
    · exact hk
    · exact h2 D' hD'
  · rintro D c pre W _ _ hf _
    exact hf.elim
end
end
end Go.DI
/-
  DiRF3: a piece of a function's code, by a run with hints, in the world.
-/
namespace Go.DI
open Go.RowKit
noncomputable section
section
variable {P : Program} {K : TypeId → Bool} {B0 : Nat} {w0 W : World} {ι : Ren} {M M' : Mem} {t : Tmps} {a : Act} {h : H.Hint} {o : Orc} {N d : Nat} {c : Code} {ds : List Nat} {vs : List Value} {qs : List Prop} {Q : Exit → Act → World → Prop} {e : Ex}
noncomputable def pcR (h : H.Hint) (P : Program) (K : TypeId → Bool) (c : Code) (N : Nat) (ds : List Nat) (t : Tmps) (M : Mem) : Option (H.TT (Ex × List Value × Mem)) :=
  H.codeT h c P K 1 (H.callT h P K 1 20) (fun body _ k t m q => Y.loopF body k t m q) N 20 t M fun e t m => some ((e, ds.map t.at, m), [], [])
theorem pc_run (h1 : ∀ f v args m, h.call f = some v → h.says f args m v → o f args m = some (v, h.eff f m)) (h2 : ∀ f, h.call f = none → ∀ a m, o f a m = none)
    (hr : (pcR h P K c N ds t M).map (fun x => (x.1, x.2.2)) = some ((e, vs, M'), qs)) (hp : ((pcR h P K c N ds t M).map fun x => x.2.1.map Prod.fst) = ((pcR h P K c N ds t M).map fun x => x.2.1.map Prod.snd)) (hq : ∀ q ∈ qs, q) :
    ∃ t', codeD P K 1 (callO P K 1 o 20) (drawD P K 1 (callO P K 1 o 20) N) N 20 c t M = some (e, t', M') ∧ ds.map t'.at = vs := by
  obtain ⟨e', t', m', a1, a2⟩ := H.codeO_H (H := h) (o := o) (P := P) (K := K) (G := 1) (j := 20) (n := N) (k := 20) (c := c) (t := t) (m := M) (g := fun e t m => (e, ds.map t.at, m)) h1 h2 hr hp hq
  have e1 : e' = _ := congrArg (fun x => x.1) a2
  have e2 : ds.map t'.at = _ := congrArg (fun x => x.2.1) a2
  have e3 : m' = _ := congrArg (fun x => x.2.2) a2
  rw [e1, e3] at a1
  exact ⟨t', a1, e2⟩
theorem st_piece (hmix : P.follows .mixedOrders = true) (hK : Plain P K) (hng : NoNG P) (ho : CfOK P B0 1 o) (hg : CfGrw o)
    (h1 : ∀ f v args m, h.call f = some v → h.says f args m v → o f args m = some (v, h.eff f m)) (h2 : ∀ f, h.call f = none → ∀ a m, o f a m = none)
    (hr : (pcR h P K c N ds t M).map (fun x => (x.1, x.2.2)) = some ((e, vs, M'), qs)) (hp : ((pcR h P K c N ds t M).map fun x => x.2.1.map Prod.fst) = ((pcR h P K c N ds t M).map fun x => x.2.1.map Prod.snd)) (hq : ∀ q ∈ qs, q)
    (hs : St B0 w0 ι M W) (hc : onlyCells M) (ht : TRel ι N t a)
    (hQ : ∀ ι' a' W' t', St B0 w0 ι' M' W' → TRel ι' N t' a' → ds.map t'.at = vs → a'.defers = a.defers → (∀ b, b < M.size → ι' b = ι b) → Keeps W W' → Q e.to a' W') : c.wpIn Fence.wide d P Q a W := by
  obtain ⟨t', a1, a2⟩ := pc_run h1 h2 hr hp hq
  exact piece hmix hK (callO_ok hmix hK hng ho hg 20) (callO_grw hg 20) a1 hs hc ht fun ι' a' W' g1 g2 g3 g4 g5 => hQ ι' a' W' t' g1 g2 a2 g3 g4 g5
theorem st_pieceIn {l : Nat} (hmix : P.follows .mixedOrders = true) (hK : Plain P K) (hng : NoNG P) (ho : CfOK P B0 1 o) (hg : CfGrw o)
    (h1 : ∀ f v args m, h.call f = some v → h.says f args m v → o f args m = some (v, h.eff f m)) (h2 : ∀ f, h.call f = none → ∀ a m, o f a m = none) (hfl : flatC c = true)
    (hr : (pcR h P K c N ds t M).map (fun x => (x.1, x.2.2)) = some ((e, vs, M'), qs)) (hp : ((pcR h P K c N ds t M).map fun x => x.2.1.map Prod.fst) = ((pcR h P K c N ds t M).map fun x => x.2.1.map Prod.snd)) (hq : ∀ q ∈ qs, q)
    (hs : St B0 w0 ι M W) (hc : onlyCells M) (ht : TRel ι N t a) (hx : ¬ LetsOut Q)
    (hQ : ∀ ι' a' W' t', St B0 w0 ι' M' W' → TRel ι' N t' a' → ds.map t'.at = vs → a'.defers = a.defers → (∀ b, b < M.size → ι' b = ι b) → Keeps W W' → Q e.to a' W') : c.wpIn (FR l) d P Q a W := by
  obtain ⟨t', a1, a2⟩ := pc_run h1 h2 hr hp hq
  exact pieceIn hmix hK (callO_ok hmix hK hng ho hg 20) (callO_grw hg 20) hfl a1 hs hc ht hx fun ι' a' W' g1 g2 g3 g4 g5 => hQ ι' a' W' t' g1 g2 a2 g3 g4 g5
theorem at_of {t' : Tmps} : ∀ {ds : List Nat} {vs : List Value}, ds.map t'.at = vs → ∀ p ∈ ds.zip vs, t'.at p.1 = p.2
  | [], _, _, p, hp => by simp at hp
  | d :: ds, [], h, p, hp => by simp at h
  | d :: ds, v :: vs, h, p, hp => by
    simp only [List.map_cons, List.cons.injEq] at h
    simp only [List.zip_cons_cons, List.mem_cons] at hp
    rcases hp with rfl | hp
    · exact h.1
    · exact at_of h.2 p hp
/-- An assignment, in a round. -/
theorem assign_one {l id : Nat} {op : Oper} {x : Operand} {K' : Act → World → Prop} (hop : op.op = .assign x) (hg : op.guard = none) (hk : K' (a.put op.dst (a.eval x)) W) : (Code.region id #[op] false).wpIn (FR l) d P (Exit.then K' (fun _ _ _ => False)) a W := by
  refine wpIn_region ?_
  show wpOpsIn (FR l) d P #[op] _ [0] a W
  have e : Oper.semAt (FR l).round a.eval op = execOp a.eval op := Oper.semAt_some l _ _ (by intro c hc; rw [hop] at hc; cases hc)
  refine ops_val (o := op) (v := a.eval x) (w' := W) rfl hg (fun _ => trivial) (by rw [e]; exact run_assign hop) ?_
  exact hk
theorem TRel.setI (ht : TRel ι N t a) {p : Nat} (hp : p < N) {v v' : Value} (hv : VRel ι v v') : TRel ι N (t.set p v) { a with tmps := a.tmps.setIfInBounds p v' } := ht.put hp hv
end
end
end Go.DI
/-
  DiRF4: a piece of code by a run with hints, its loops' fuel open.
-/
namespace Go.DI
noncomputable section
section
variable {P : Program} {K : TypeId → Bool} {M M' : Mem} {t : Tmps} {h : H.Hint} {o : Orc} {N k : Nat} {c : Code} {ds : List Nat} {vs : List Value} {qs : List Prop} {e : Ex}
end
end
end Go.DI
