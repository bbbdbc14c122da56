/-
  DiFast3: operations, regions, code, calls, quickly: 'callF', and that it is 'callD' (callF_eq).
-/
import Derived.Test.YtapmpddneoghfaaDiFast2
import Derived.Test.YtapmpddneoghfaaDiStat
namespace Go.DI
noncomputable section
abbrev CF := FuncId → List Value → Mem → Ans
abbrev OpK := Program → (TypeId → Bool) → Nat → CF → Tmps → Mem → (Value → Mem → Ans) → Ans

theorem onV_ob {r : Option Value} {m : Mem} {q : Value → Mem → Ans} : onV (match r with | some v => some (v, m) | none => none) q = ob r fun v => q v m := by cases r <;> rfl

def layF (r : Option (Blk × Made)) (m : Mem) (q : Value → Mem → Ans) : Ans :=
  Option.rec (motive := fun _ => Ans) none (fun p => Prod.rec (motive := fun _ => Ans) (fun x k =>
    (fun lay : Blk → Ans => Blk.rec (motive := fun _ => Ans) (lay .none) (fun o c => frcL c fun c => lay (.cells o c)) (fun o es c => lay (.map o es c)) (fun s p => lay (.siter s p)) x)
      fun x => frcN m.size fun z => pushMF m x fun m' => fV 6 (k.val z) fun v => q v m') p) r
theorem layF_eq (r : Option (Blk × Made)) (m : Mem) (q : Value → Mem → Ans) : layF r m q = onV (match r with | some (x, k) => some (k.val m.size, m.push x) | none => none) q := by
  cases r with
  | none => rfl
  | some p =>
    obtain ⟨x, k⟩ := p
    show (Blk.rec (motive := fun _ => Ans) _ _ _ _ x : Ans) = _
    simp only [frcL_eq, frcN_eq, pushMF_eq, fV_eq]
    cases x <;> rfl

def asNN (v : Value) (q : Value → Ans) : Ans :=
  match v with
  | .pointer (some a) => q (.pointer (some a))
  | .func (.func f) a b => q (.func (.func f) a b)
  | _ => none

section
variable (P : Program)
def storeCF (m : Mem) (b off : Nat) (vs : List Value) (q : Mem → Ans) : Ans :=
  cellsOf (getBF m b) fun o c => Bool.rec (motive := fun _ => Ans) none (spliceF c off vs fun c' => setMF m b (.cells true c') q) o
theorem storeCF_eq (m : Mem) (b off : Nat) (vs : List Value) (q : Mem → Ans) : storeCF m b off vs q = ob (storeC m b off vs) q := by
  simp only [storeCF, storeC, cellsOf_eq, getBF_eq]
  cases m.get b <;> try rfl
  rename_i o c
  cases o with
  | false => rfl
  | true =>
    simp only [spliceF_eq, setMF_eq]
    split
    · split <;> rfl
    · rfl

def appendF (m : Mem) (tS tX : TypeId) (s x : Value) (k : Value → Mem → Ans) : Ans :=
  match P.underlying tS, P.underlying tX with
  | _, some (.int _) | _, none => none
  | some (.slice e), some _ => match s, szOf P e, bytesOf P e, lenOf x with
    | .slice base sLen sCap, some size, some bytes, some n =>
      if size = 0 then none else
      match firstC m size n x with
      | some new =>
        if sLen + n ≤ sCap then
          (match base with
          | none => if n = 0 then k (.slice none (sLen + n) sCap) m else none
          | some ⟨b, off, sp⟩ => if n = 0 then k (.slice (some ⟨b, off, sp⟩) (sLen + n) sCap) m else
            storeCF m b (off + sLen * size) new fun m' => frcN (sLen + n) fun q => k (.slice (some ⟨b, off, sp⟩) q sCap) m')
        else if (sLen + n) * bytes ≤ 140737488355328 ∧ (sLen + n : Nat) ≤ 4611686018427387904 ∧ 0 < bytes ∧ (zerosD P e 1).isSome = true then
          match firstC m size sLen s with
          | some old =>
            if (new.all one && old.all one) = true ∧ old.length = sLen * size ∧ new.length = n * size then
            (match base with
            | some ⟨b, _, some e'⟩ => if e' = size then
                (match m.get b with
                | .cells true _ => frcL (old ++ new) fun l => frcN m.size fun z => frcN (sLen + n) fun q => pushMF m (.cells true l) fun m' => setMF m' b .none fun m' => k (.slice (some ⟨z, 0, some size⟩) q q) m'
                | _ => none)
              else none
            | _ => frcL (old ++ new) fun l => frcN m.size fun z => frcN (sLen + n) fun q => pushMF m (.cells true l) fun m' => k (.slice (some ⟨z, 0, some size⟩) q q) m') else none
          | none => none
        else none
      | none => none
    | _, _, _, _ => none
  | _, _ => none
theorem appendF_eq (m : Mem) (tS tX : TypeId) (s x : Value) (k : Value → Mem → Ans) : appendF P m tS tX s x k = onV (appendD P m tS tX s x) k := by
  unfold appendF appendD
  cases P.underlying tX with
  | none => cases P.underlying tS <;> rfl
  | some dX =>
    cases P.underlying tS with
    | none => cases dX <;> rfl
    | some dS =>
      cases dS <;> cases dX <;> try rfl
      all_goals
        simp only
        cases s <;> try rfl
        cases szOf P _ <;> try rfl
        cases bytesOf P _ <;> try rfl
        cases lenOf x <;> try rfl
        simp only
        rename_i base sLen sCap size bytes n
        by_cases h0 : size = 0
        · simp only [h0, if_true]; rfl
        · simp only [h0, if_false]
          cases firstC m size n x with
          | none => rfl
          | some new =>
            simp only
            by_cases h1 : sLen + n ≤ sCap
            · simp only [h1, if_true]
              cases base with
              | none => by_cases h2 : n = 0 <;> simp only [h2, if_true, if_false] <;> rfl
              | some ad =>
                obtain ⟨b, off, sp⟩ := ad
                simp only
                by_cases h2 : n = 0
                · simp only [h2, if_true]; rfl
                · simp only [h2, if_false, storeCF_eq]
                  cases storeC m b (off + sLen * size) new <;> simp only [ob_some, ob_none, onV, frcN_eq]
            · simp only [h1, if_false]
              rw [onV_ite]
              refine ite_same fun h2 => ?_
              cases firstC m size sLen _ with
              | none => rfl
              | some old =>
                  simp only
                  by_cases h3 : (new.all one && old.all one) = true ∧ old.length = sLen * size ∧ new.length = n * size
                  · rw [if_pos h3, if_pos h3]
                    cases base with
                    | none => simp only [frcL_eq, pushMF_eq, frcN_eq, onV]
                    | some ad =>
                      obtain ⟨b, off, sp⟩ := ad
                      cases sp with
                      | none => simp only [frcL_eq, pushMF_eq, frcN_eq, onV]
                      | some e' =>
                        simp only
                        by_cases h4 : e' = size
                        · simp only [h4, if_true]
                          cases m.get b with
                          | none => rfl
                          | map => rfl
                          | siter => rfl
                          | cells o c => cases o with
                            | false => rfl
                            | true => simp only [frcL_eq, pushMF_eq, setMF_eq, frcN_eq, onV]
                        · simp only [h4, if_false]; rfl
                  · rw [if_neg h3, if_neg h3]; rfl
end

def callOF (c : Call) : OpK :=
  Call.rec (motive := fun _ => OpK) (fun callee args tys => Callee.rec (motive := fun _ => OpK)
    (fun f P K G cf t m q => evF f G t fun v => asFunc v fun g fs cs => evsF args.toList G t fun vs => appF vs cs fun r => appF fs r fun l => onV (cf g l m) q)
    (fun r s P K G cf t m q => opS P K G cf t m (.call ⟨.invoke r s, args, tys⟩) q)
    (fun b P K G cf t m q => match b with
      | .len => (match args.toList, tys.toList with
        | [x], [ty] => evF x G t fun v => frcV (lenD P m ty v) fun v => q v m
        | _, _ => none)
      | .append => (match args.toList, tys.toList with
        | [s, x], [tS, tX] => evF s G t fun s => evF x G t fun x => appendF P m tS tX s x q
        | _, _ => none)
      | b => opS P K G cf t m (.call ⟨.builtin b, args, tys⟩) q) callee) c
def opF (o : Op) : OpK :=
  Op.rec (motive := fun _ => OpK)
    (fun x P K G cf t mm q => evF x G t fun v => q v mm)
    (fun x P K G cf t mm q => evF x G t fun v => q v mm)
    (fun c a b P K G cf t mm q => evF c G t fun v => asBool v (evF a G t fun v => q v mm) (evF b G t fun v => q v mm))
    (fun e P K G cf t mm q => layF (allocD P G t (.alloc e)) mm q)
    (fun e x P K G cf t mm q => layF (allocD P G t (.box e x)) mm q)
    (fun ty ps P K G cf t mm q => opS P K G cf t mm (.build ty ps) q)
    (fun ty n ps P K G cf t mm q => opS P K G cf t mm (.buildSlice ty n ps) q)
    (fun mt m k v P K G cf t mm q => opS P K G cf t mm (.insert mt m k v) q)
    (fun ty a P K G cf t mm q => evF a G t fun v => loadF P mm ty v fun v => q v mm)
    (fun ty a x P K G cf t mm q => evF a G t fun a => evF x G t fun v => storeF P mm ty v a fun m => q undef m)
    (fun g P K G cf t mm q => opS P K G cf t mm (.ready g) q)
    (fun g P K G cf t mm q => opS P K G cf t mm (.waits g) q)
    (fun x P K G cf t mm q => evF x G t fun v => asNN v (fun v => q v mm))
    (fun op ty x y yt P K G cf t mm q => evF x G t fun x => evF y G t fun y => binF P K op ty x y fun v => q v mm)
    (fun op ty x P K G cf t mm q => evF x G t fun x => frcV (unD op x) fun v => q v mm)
    (fun a b x P K G cf t mm q => opS P K G cf t mm (.convert a b x) q)
    (fun d x P K G cf t mm q => opS P K G cf t mm (.sliceToArrayPointer d x) q)
    (fun ty x P K G cf t mm q => opS P K G cf t mm (.makeInterface ty x) q)
    (fun fn a b P K G cf t mm q => opS P K G cf t mm (.makeFunc fn a b) q)
    (fun ty r P K G cf t mm q => opS P K G cf t mm (.makeMap ty r) q)
    (fun ty s P K G cf t mm q => opS P K G cf t mm (.makeChan ty s) q)
    (fun ty l c P K G cf t mm q => opS P K G cf t mm (.makeSlice ty l c) q)
    (fun ty x l h mx P K G cf t mm q => opS P K G cf t mm (.slice ty x l h mx) q)
    (fun s x f P K G cf t mm q => evF x G t fun v => fieldAddrF P s f v fun v => q v mm)
    (fun s x f P K G cf t mm q => evF x G t fun v => fieldF P s f v fun v => q v mm)
    (fun ty x i P K G cf t mm q => evF x G t fun x => evF i G t fun i => indexAddrF P ty x i fun v => q v mm)
    (fun ty x i P K G cf t mm q => opS P K G cf t mm (.index ty x i) q)
    (fun ty x k ok P K G cf t mm q => opS P K G cf t mm (.lookup ty x k ok) q)
    (fun mt m k v P K G cf t mm q => opS P K G cf t mm (.mapUpdate mt m k v) q)
    (fun mt m k P K G cf t mm q => opS P K G cf t mm (.mapEntry mt m k) q)
    (fun mt m s v P K G cf t mm q => opS P K G cf t mm (.entryStore mt m s v) q)
    (fun ty x P K G cf t mm q => opS P K G cf t mm (.range ty x) q)
    (fun i s P K G cf t mm q => opS P K G cf t mm (.next i s) q)
    (fun i P K G cf t mm q => opS P K G cf t mm (.entry i) q)
    (fun x a b ok P K G cf t mm q => opS P K G cf t mm (.typeAssert x a b ok) q)
    (fun x i P K G cf t mm q => evF x G t fun v => asTup v fun vs => nthF vs.toList i fun v => q v mm)
    (fun c P K G cf t mm q => callOF c P K G cf t mm q)
    (fun c P K G cf t mm q => opS P K G cf t mm (.go c) q)
    (fun c P K G cf t mm q => opS P K G cf t mm (.defer c) q)
    (fun x P K G cf t mm q => opS P K G cf t mm (.panic x) q)
    (fun c x P K G cf t mm q => opS P K G cf t mm (.send c x) q)
    (fun ct c ok P K G cf t mm q => opS P K G cf t mm (.recv ct c ok) q)
    (fun cs b P K G cf t mm q => opS P K G cf t mm (.select cs b) q)
    o

section
variable {P : Program} {K : TypeId → Bool} {G : Nat} {cf : CF} {t : Tmps} {m : Mem} {q : Value → Mem → Ans}
theorem quiet_on {o : Op} (h : klass o = 0) : onV (opD P K G cf t m o) q = ob (quietD P K G t m o) fun v => q v m := by
  simp only [opD, h]; exact onV_ob
theorem alloc_on {o : Op} (h : klass o = 1) : onV (opD P K G cf t m o) q = layF (allocD P G t o) m q := by
  simp only [opD, h, layF_eq]
  cases allocD P G t o <;> rfl
theorem heavy_on {o : Op} (h : klass o = 2) : onV (opD P K G cf t m o) q = onV (heavyD P K G cf t m o) q := by
  simp only [opD, h]

theorem callOF_eq (c : Call) : callOF c P K G cf t m q = onV (opD P K G cf t m (.call c)) q := by
  obtain ⟨callee, args, tys⟩ := c
  cases callee with
  | invoke r s =>
    show opS P K G cf t m (.call ⟨.invoke r s, args, tys⟩) q = _
    exact opS_eq _ _ _ _ _ _ _ _
  | value f =>
    rw [heavy_on rfl]
    show (evF f G t fun v => asFunc v fun g fs cs => evsF args.toList G t fun vs => appF vs cs fun r => appF fs r fun l => onV (cf g l m) q) = _
    simp only [evF_eq, evsF_eq, appF_eq, heavyD]
    cases ev G t f with
    | none => rfl
    | some v =>
      simp only [ob_some]
      cases v <;> try rfl
      rename_i fn a b
      cases fn <;> try rfl
      show ob (evs G t args.toList) _ = _
      cases evs G t args.toList <;> rfl
  | builtin b =>
    have h := opS_eq P K G cf t m (.call ⟨.builtin b, args, tys⟩) q
    cases b <;> try exact h
    · rw [heavy_on rfl]
      show (match args.toList, tys.toList with | [s, x], [tS, tX] => evF s G t fun s => evF x G t fun x => appendF P m tS tX s x q | _, _ => none) = _
      simp only [heavyD]
      generalize args.toList = A
      generalize tys.toList = T
      rcases A with _ | ⟨s, _ | ⟨x, _ | ⟨y, A⟩⟩⟩ <;> rcases T with _ | ⟨tS, _ | ⟨tX, _ | ⟨c, T⟩⟩⟩ <;> try rfl
      simp only [evF_eq]
      cases ev G t s with
      | none => rfl
      | some s =>
        simp only [ob_some]
        cases ev G t x with
        | none => rfl
        | some x => exact appendF_eq _ _ _ _ _ _ _
    · rw [quiet_on rfl]
      show (match args.toList, tys.toList with | [x], [ty] => evF x G t fun v => frcV (lenD P m ty v) fun v => q v m | _, _ => none) = _
      simp only [quietD]
      generalize args.toList = A
      generalize tys.toList = T
      rcases A with _ | ⟨x, _ | ⟨y, A⟩⟩ <;> rcases T with _ | ⟨ty, _ | ⟨c, T⟩⟩ <;> try rfl
      simp only [evF_eq, frcV_eq]
      cases ev G t x <;> rfl

theorem opF_eq (o : Op) : opF o P K G cf t m q = onV (opD P K G cf t m o) q := by
  have h := opS_eq P K G cf t m o q
  cases o <;> try exact h
  case move x => rw [quiet_on rfl]; exact evF_eq _ _ _ _
  case assign x => rw [quiet_on rfl]; exact evF_eq _ _ _ _
  case pick c a b =>
    rw [quiet_on rfl]
    refine (evF_eq _ _ _ _).trans ?_
    simp only [quietD]
    cases ev G t c with
    | none => rfl
    | some v =>
      simp only [ob_some]
      cases v <;> try rfl
      rename_i b'
      cases b'
      · exact evF_eq _ _ _ _
      · exact evF_eq _ _ _ _
  case alloc e => rw [alloc_on rfl]; rfl
  case box e x => rw [alloc_on rfl]; rfl
  case load ty a =>
    rw [quiet_on rfl]
    refine (evF_eq _ _ _ _).trans ?_
    simp only [quietD]
    cases ev G t a with
    | none => rfl
    | some v =>
      simp only [ob_some]
      exact loadF_eq _ _ _ _ _
  case store ty a x =>
    rw [heavy_on rfl]
    refine (evF_eq _ _ _ _).trans ?_
    simp only [heavyD]
    cases ev G t a with
    | none => rfl
    | some a =>
      simp only [ob_some]
      refine (evF_eq _ _ _ _).trans ?_
      cases ev G t x with
      | none => rfl
      | some x =>
        simp only [ob_some]
        refine (storeF_eq _ _ _ _ _ _).trans ?_
        cases storeD P m ty x a <;> rfl
  case nilCheck x =>
    rw [quiet_on rfl]
    refine (evF_eq _ _ _ _).trans ?_
    simp only [quietD]
    cases ev G t x with
    | none => rfl
    | some v =>
      simp only [ob_some]
      cases v <;> try rfl
      · rename_i a; cases a <;> rfl
      · rename_i fn _ _; cases fn <;> rfl
  case binOp op ty x y yt =>
    rw [quiet_on rfl]
    refine (evF_eq _ _ _ _).trans ?_
    simp only [quietD]
    cases ev G t x with
    | none => rfl
    | some x =>
      simp only [ob_some]
      refine (evF_eq _ _ _ _).trans ?_
      cases ev G t y with
      | none => rfl
      | some y => exact binF_eq _ _ _ _ _ _ _
  case unOp op ty x =>
    rw [quiet_on rfl]
    refine (evF_eq _ _ _ _).trans ?_
    simp only [quietD]
    cases ev G t x with
    | none => rfl
    | some x =>
      simp only [ob_some]
      exact frcV_eq _ _
  case fieldAddr s x f =>
    rw [quiet_on rfl]
    refine (evF_eq _ _ _ _).trans ?_
    simp only [quietD]
    cases ev G t x with
    | none => rfl
    | some x =>
      simp only [ob_some]
      exact fieldAddrF_eq _ _ _ _ _
  case field s x f =>
    rw [quiet_on rfl]
    refine (evF_eq _ _ _ _).trans ?_
    simp only [quietD]
    cases ev G t x with
    | none => rfl
    | some x =>
      simp only [ob_some]
      exact fieldF_eq _ _ _ _ _
  case indexAddr ty x i =>
    rw [quiet_on rfl]
    refine (evF_eq _ _ _ _).trans ?_
    simp only [quietD]
    cases ev G t x with
    | none => rfl
    | some x =>
      simp only [ob_some]
      refine (evF_eq _ _ _ _).trans ?_
      cases ev G t i with
      | none => rfl
      | some i => exact indexAddrF_eq _ _ _ _ _
  case extract x i =>
    rw [quiet_on rfl]
    refine (evF_eq _ _ _ _).trans ?_
    simp only [quietD]
    cases ev G t x with
    | none => rfl
    | some v =>
      simp only [ob_some]
      cases v <;> try rfl
      exact nthF_eq _ _ _
  case call c => exact callOF_eq c
end

/-! ### regions -/
def dstF (n : Nat) (d : Option Tmp) : Bool := Option.rec (motive := fun _ => Bool) true (fun d => Nat.blt d n) d
theorem dstF_eq (n : Nat) (d : Option Tmp) : dstF n d = dstOk n d := by
  cases d with
  | none => rfl
  | some d =>
    show Nat.blt d n = decide (d < n)
    rw [Bool.eq_iff_iff]; simp [Nat.blt_eq]
def putOF (t : Tmps) (d : Option Tmp) (v : Value) (q : Tmps → Ans) : Ans := Option.rec (motive := fun _ => Ans) (q t) (fun d => setTF t d v q) d
theorem putOF_eq (t : Tmps) (d : Option Tmp) (v : Value) (q : Tmps → Ans) : putOF t d v q = q (putD t d v) := by
  cases d with
  | none => rfl
  | some d => exact setTF_eq _ _ _ _
def nthO (l : List Oper) : Nat → Option Oper :=
  List.rec (motive := fun _ => Nat → Option Oper) (fun _ => none) (fun a _ ih i => Nat.rec (motive := fun _ => Option Oper) (some a) (fun i' _ => ih i') i) l
theorem nthO_eq : ∀ (l : List Oper) (i : Nat), nthO l i = l[i]?
  | [], i => by simp; rfl
  | a :: l, 0 => rfl
  | a :: l, i + 1 => by
    have := nthO_eq l i
    rw [List.getElem?_cons_succ]
    exact this
def boolF (t : Tmps) (d : Nat) (w : Bool) : Bool :=
  (fun v => cond (isB v) (Bool.rec (motive := fun _ => Bool) (not w) w (theB v)) false) (Option.rec (motive := fun _ => Value) undef (fun v => v) (getF t d d))
theorem boolF_eq (t : Tmps) (d : Nat) (w : Bool) : boolF t d w = ((match t.at d with | .bool b => some b | _ => none) == some w) := by
  have e : Option.rec (motive := fun _ => Value) undef (fun v => v) (getF t d d) = t.at d := by
    unfold Tmps.at
    rw [getF_eq]
    cases Tr.get t d d <;> rfl
  unfold boolF
  rw [e]
  cases t.at d <;> try rfl
  rename_i b
  cases b <;> cases w <;> rfl
def wantF (o : Oper) (ops : List Oper) (t : Tmps) : Bool :=
  Option.rec (motive := fun _ => Bool) true (fun g => Prod.rec (motive := fun _ => Bool) (fun j w => Option.rec (motive := fun _ => Bool) false (fun o' => Option.rec (motive := fun _ => Bool) false (fun d => boolF t d w) o'.dst) (nthO ops j)) g) o.guard
theorem wantF_eq (o : Oper) (ops : List Oper) (t : Tmps) : wantF o ops t = Region.wanted o (yieldD ops t) := by
  unfold wantF Region.wanted
  cases h : o.guard with
  | none => rfl
  | some g =>
    obtain ⟨j, w⟩ := g
    simp only [nthO_eq, yieldD]
    cases ops[j]? with
    | none => rfl
    | some o' =>
      simp only
      cases o'.dst with
      | none => rfl
      | some d => exact boolF_eq t d w

abbrev OpsK := Program → (TypeId → Bool) → Nat → CF → Nat → List Oper → Tmps → Mem → (Tmps → Mem → Ans) → Ans
def opsF (l : List Oper) : OpsK :=
  List.rec (motive := fun _ => OpsK) (fun _ _ _ _ _ _ t m q => q t m)
    (fun o _ ih P K G cf n ops t m q => Bool.rec (motive := fun _ => Ans) none (Bool.rec (motive := fun _ => Ans) (putOF t o.dst undef fun t' => ih P K G cf n ops t' m q)
      (opF o.op P K G cf t m fun v m' => putOF t o.dst v fun t' => ih P K G cf n ops t' m' q) (wantF o ops t)) (dstF n o.dst)) l
def onT {β : Type} (r : Option (Tmps × Mem)) (q : Tmps → Mem → Option β) : Option β := match r with | some (t, m) => q t m | none => none
theorem opsF_eq (P : Program) (K : TypeId → Bool) (G : Nat) (cf : CF) (n : Nat) (ops : List Oper) (q : Tmps → Mem → Ans) : ∀ (l : List Oper) (t : Tmps) (m : Mem),
    opsF l P K G cf n ops t m q = onT (opsD P K G cf n ops l t m) q
  | [], t, m => rfl
  | o :: l, t, m => by
    have ih := opsF_eq P K G cf n ops q l
    show Bool.rec (motive := fun _ => Ans) none (Bool.rec (motive := fun _ => Ans) (putOF t o.dst undef fun t' => opsF l P K G cf n ops t' m q)
      (opF o.op P K G cf t m fun v m' => putOF t o.dst v fun t' => opsF l P K G cf n ops t' m' q) (wantF o ops t)) (dstF n o.dst) = _
    simp only [putOF_eq, ih, opF_eq, wantF_eq, dstF_eq, opsD]
    cases dstOk n o.dst with
    | false => rfl
    | true =>
      cases Region.wanted o (yieldD ops t) with
      | false => rfl
      | true =>
        simp only [if_true]
        cases opD P K G cf t m o.op with
        | none => rfl
        | some r => rfl

abbrev RecK := Program → (TypeId → Bool) → Nat → CF → Nat → List Oper → Tmps → Mem → (List Rec → Tmps → Mem → Ans) → Ans
def recF (l : List Oper) : RecK :=
  List.rec (motive := fun _ => RecK) (fun _ _ _ _ _ _ t m q => q [] t m)
    (fun o _ ih P K G cf n ops t m q => Bool.rec (motive := fun _ => Ans) none (Bool.rec (motive := fun _ => Ans) (putOF t o.dst undef fun t' => ih P K G cf n ops t' m fun rs t' m'' => q (⟨false, undef, t, m⟩ :: rs) t' m'')
      (opF o.op P K G cf t m fun v m' => putOF t o.dst v fun t' => ih P K G cf n ops t' m' fun rs t' m'' => q (⟨true, v, t, m⟩ :: rs) t' m'') (wantF o ops t)) (dstF n o.dst)) l
def onR (r : Option (List Rec × Tmps × Mem)) (q : List Rec → Tmps → Mem → Ans) : Ans := match r with | some (rs, t, m) => q rs t m | none => none
theorem recF_eq (P : Program) (K : TypeId → Bool) (G : Nat) (cf : CF) (n : Nat) (ops : List Oper) : ∀ (l : List Oper) (t : Tmps) (m : Mem) (q : List Rec → Tmps → Mem → Ans),
    recF l P K G cf n ops t m q = onR (recD P K G cf n ops l t m) q
  | [], t, m, q => rfl
  | o :: l, t, m, q => by
    have ih := recF_eq P K G cf n ops l
    show Bool.rec (motive := fun _ => Ans) none (Bool.rec (motive := fun _ => Ans) (putOF t o.dst undef fun t' => recF l P K G cf n ops t' m fun rs t' m'' => q (⟨false, undef, t, m⟩ :: rs) t' m'')
      (opF o.op P K G cf t m fun v m' => putOF t o.dst v fun t' => recF l P K G cf n ops t' m' fun rs t' m'' => q (⟨true, v, t, m⟩ :: rs) t' m'') (wantF o ops t)) (dstF n o.dst) = _
    simp only [putOF_eq, ih, opF_eq, wantF_eq, dstF_eq, recD]
    cases dstOk n o.dst with
    | false => rfl
    | true =>
      cases Region.wanted o (yieldD ops t) with
      | false =>
        simp only [if_true]
        cases recD P K G cf n ops l (putD t o.dst undef) m <;> rfl
      | true =>
        simp only [if_true]
        cases opD P K G cf t m o.op with
        | none => rfl
        | some r =>
          obtain ⟨v, m'⟩ := r
          simp only [onV]
          cases recD P K G cf n ops l (putD t o.dst v) m' <;> rfl

def drawF (P : Program) (K : TypeId → Bool) (G : Nat) (cf : CF) (n : Nat) (ops : List Oper) (t : Tmps) (m : Mem) (q : Tmps → Mem → Ans) : Ans :=
  Bool.rec (motive := fun _ => Ans) none (recF ops P K G cf n ops t m fun rs t' m' => Bool.rec (motive := fun _ => Ans) none (Bool.rec (motive := fun _ => Ans) none (q t' m')
    ((need2F ops).all (chk2 rs m'))) ((need1F ops).all (chk1 P K G ops rs m'))) (statT ops)
theorem drawF_eq (P : Program) (K : TypeId → Bool) (G : Nat) (cf : CF) (n : Nat) (ops : List Oper) (t : Tmps) (m : Mem) (q : Tmps → Mem → Ans) : drawF P K G cf n ops t m q = onT (drawD P K G cf n ops t m) q := by
  unfold drawF drawD
  simp only [recF_eq, statT_eq, all_congr_mem (need1F_mem ops), all_congr_mem (need2F_mem ops)]
  cases statB ops (tabD ops []) with
  | false => rfl
  | true =>
    simp only [if_true]
    cases recD P K G cf n ops ops t m with
    | none => rfl
    | some r =>
      obtain ⟨rs, t', m'⟩ := r
      simp only [onR]
      cases (need1 ops (tabD ops [])).all (chk1 P K G ops rs m') with
      | false => rfl
      | true => cases (need2 ops (tabD ops [])).all (chk2 rs m') <;> rfl

/-! ### code -/
abbrev ExK := Ex → Tmps → Mem → Ans
def onE (r : Option (Ex × Tmps × Mem)) (q : ExK) : Ans := match r with | some (e, t, m) => q e t m | none => none
def loopF (body : Tmps → Mem → ExK → Ans) (k : Nat) : Tmps → Mem → ExK → Ans :=
  Nat.rec (motive := fun _ => Tmps → Mem → ExK → Ans) (fun _ _ _ => none) (fun _ ih t m q => body t m fun e t' m' => Ex.rec (motive := fun _ => Ans) (ih t' m' q) (fun id => q (.exit id) t' m') (q .ret t' m') e) k
theorem loopF_eq {body : Tmps → Mem → ExK → Ans} {b : Tmps → Mem → Option (Ex × Tmps × Mem)} (hb : ∀ t m q, body t m q = onE (b t m) q) : ∀ (k : Nat) (t : Tmps) (m : Mem) (q : ExK), loopF body k t m q = onE (loopD b k t m) q
  | 0, t, m, q => rfl
  | k + 1, t, m, q => by
    have ih := loopF_eq hb k
    show (body t m fun e t' m' => Ex.rec (motive := fun _ => Ans) (loopF body k t' m' q) (fun id => q (.exit id) t' m') (q .ret t' m') e) = _
    simp only [hb, ih, loopD]
    cases b t m with
    | none => rfl
    | some r =>
      obtain ⟨e, t', m'⟩ := r
      cases e <;> rfl

abbrev CodeK := Program → (TypeId → Bool) → Nat → CF → Nat → Nat → Tmps → Mem → ExK → Ans
def codeF (c : Code) : CodeK :=
  Code.rec (motive := fun _ => CodeK)
    (fun _ _ _ _ _ _ t m q => q .normal t m)
    (fun _ ops draw P K G cf n _ t m q => Bool.rec (motive := fun _ => Ans) (opsF ops.toList P K G cf n ops.toList t m fun t m => q .normal t m) (drawF P K G cf n ops.toList t m fun t m => q .normal t m) draw)
    (fun _ _ ia ib P K G cf n k t m q => ia P K G cf n k t m fun e t m => Ex.rec (motive := fun _ => Ans) (ib P K G cf n k t m q) (fun id => q (.exit id) t m) (q .ret t m) e)
    (fun c _ _ ix iy P K G cf n k t m q => evF c G t fun v => asBool v (ix P K G cf n k t m q) (iy P K G cf n k t m q))
    (fun id _ ib P K G cf n k t m q => ib P K G cf n k t m fun e t m => Ex.rec (motive := fun _ => Ans) (q .normal t m) (fun id' => Bool.rec (motive := fun _ => Ans) (q (.exit id') t m) (q .normal t m) (Nat.beq id' id)) (q .ret t m) e)
    (fun _ ib P K G cf n k t m q => loopF (fun t m q => ib P K G cf n k t m q) k t m q)
    (fun _ _ _ _ _ _ _ _ _ _ _ _ _ _ _ => none)
    (fun id _ _ _ _ _ _ t m q => q (.exit id) t m)
    (fun _ _ _ _ _ _ _ _ _ _ _ => none)
    (fun _ _ _ _ _ _ _ t m q => q .normal t m)
    (fun _ _ _ _ _ _ _ _ _ _ => none)
    (fun _ _ _ _ _ _ t m q => q .ret t m)
    (fun _ _ _ _ _ _ _ _ _ _ => none)
    c
theorem codeF_eq (P : Program) (K : TypeId → Bool) (G : Nat) (cf : CF) (n k : Nat) : ∀ (c : Code) (t : Tmps) (m : Mem) (q : ExK), codeF c P K G cf n k t m q = onE (codeD P K G cf (drawD P K G cf n) n k c t m) q := by
  intro c
  induction c with
  | skip => intros; rfl
  | label l => intros; rfl
  | region id ops draw =>
    intro t m q
    show Bool.rec (motive := fun _ => Ans) (opsF ops.toList P K G cf n ops.toList t m fun t m => q .normal t m) (drawF P K G cf n ops.toList t m fun t m => q .normal t m) draw = _
    rw [opsF_eq, drawF_eq]
    simp only [codeD]
    cases draw with
    | false =>
      simp only [cond_false]
      cases opsD P K G cf n ops.toList ops.toList t m <;> rfl
    | true =>
      simp only [cond_true]
      cases drawD P K G cf n ops.toList t m <;> rfl
  | seq a b iha ihb =>
    intro t m q
    refine (iha t m _).trans ?_
    simp only [codeD]
    cases codeD P K G cf (drawD P K G cf n) n k a t m with
    | none => rfl
    | some r =>
      obtain ⟨e, t', m'⟩ := r
      cases e with
      | normal => exact ihb t' m' q
      | exit id => rfl
      | ret => rfl
  | cond c x y ihx ihy =>
    intro t m q
    refine (evF_eq _ _ _ _).trans ?_
    simp only [codeD]
    cases ev G t c with
    | none => rfl
    | some v =>
      simp only [ob_some]
      cases v <;> try rfl
      rename_i b
      cases b with
      | true => exact ihx t m q
      | false => exact ihy t m q
  | block id c ih =>
    intro t m q
    refine (ih t m _).trans ?_
    simp only [codeD]
    cases codeD P K G cf (drawD P K G cf n) n k c t m with
    | none => rfl
    | some r =>
      obtain ⟨e, t', m'⟩ := r
      cases e with
      | normal => rfl
      | ret => rfl
      | exit id' =>
        show Bool.rec (motive := fun _ => Ans) (q (.exit id') t' m') (q .normal t' m') (Nat.beq id' id) = _
        rw [beqN]
        simp only
        by_cases h : id' = id
        · rw [decide_eq_true h, if_pos h]; rfl
        · rw [decide_eq_false h, if_neg h]; rfl
  | loop c ih =>
    intro t m q
    exact loopF_eq (fun t m q => ih t m q) k t m q
  | exit id => intros; rfl
  | ret => intros; rfl
  | rangeFunc => intros; rfl
  | scope => intros; rfl
  | goto => intros; rfl
  | refuse => intros; rfl

def resF (l : List ResultVar) : Program → Tmps → Mem → (List Value → Ans) → Ans :=
  List.rec (motive := fun _ => Program → Tmps → Mem → (List Value → Ans) → Ans) (fun _ _ _ q => q [])
    (fun r _ ih P t m q => match r with
      | .tmp d => getTF t d fun v => ih P t m fun vs => q (v :: vs)
      | .cell a ty => getTF t a fun a => loadF P m ty a fun v => ih P t m fun vs => q (v :: vs)) l
theorem resF_eq (P : Program) (t : Tmps) (m : Mem) : ∀ (l : List ResultVar) (q : List Value → Ans), resF l P t m q = ob (resD P t m l) q
  | [], q => rfl
  | .tmp d :: l, q => by
    have ih := resF_eq P t m l
    show (getTF t d fun v => resF l P t m fun vs => q (v :: vs)) = _
    simp only [getTF_eq, ih, resD]
    cases resD P t m l <;> rfl
  | .cell a ty :: l, q => by
    have ih := resF_eq P t m l
    show (getTF t a fun a => loadF P m ty a fun v => resF l P t m fun vs => q (v :: vs)) = _
    simp only [getTF_eq, loadF_eq, ih, resD]
    cases loadD P m ty (t.at a) with
    | none => rfl
    | some v =>
      simp only [ob_some]
      cases resD P t m l <;> rfl

def initF (l : List Value) : Nat → (Tmps → Ans) → Ans :=
  List.rec (motive := fun _ => Nat → (Tmps → Ans) → Ans) (fun _ q => q .nil) (fun v _ ih i q => ih (Nat.succ i) fun t => setTF t i v q) l
theorem initF_eq : ∀ (l : List Value) (i : Nat) (q : Tmps → Ans), initF l i q = q (initT i l)
  | [], _, _ => rfl
  | v :: l, i, q => (initF_eq l (i + 1) fun t => setTF t i v q).trans (setTF_eq _ _ _ _)

def runF (P : Program) (K : TypeId → Bool) (G : Nat) (k : Nat) (cf : CF) (fn : Func) (c : Code) (args : List Value) (m : Mem) : Ans :=
  initF args 0 fun t => codeF c P K G cf (max args.length fn.ntmps) k t m fun e t' m' => Ex.rec (motive := fun _ => Ans) (resF fn.results.toList P t' m' fun vs => some (resV vs, m')) (fun _ => none) (resF fn.results.toList P t' m' fun vs => some (resV vs, m')) e
def callF (P : Program) (K : TypeId → Bool) (G : Nat) (k : Nat) : CF :=
  Nat.rec (motive := fun _ => CF) (fun _ _ _ => none) (fun k ih f args m => Option.rec (motive := fun _ => Ans) none (fun fn => Option.rec (motive := fun _ => Ans) none (fun c => runF P K G k ih fn c args m) fn.body) P.funcs[f]?) k
theorem callF_eq (P : Program) (K : TypeId → Bool) (G : Nat) : ∀ (k : Nat), callF P K G k = callD P K G k
  | 0 => rfl
  | k + 1 => by
    funext f args m
    have ih := callF_eq P K G k
    simp only [callD]
    show Option.rec (motive := fun _ => Ans) none (fun fn => Option.rec (motive := fun _ => Ans) none (fun c => runF P K G k (callF P K G k) fn c args m) fn.body) P.funcs[f]? = _
    rw [ih]
    cases P.funcs[f]? with
    | none => rfl
    | some fn =>
      simp only
      cases hb : fn.body with
      | none => rfl
      | some c =>
        simp only [runF, initF_eq, codeF_eq, resF_eq]
        cases codeD P K G (callD P K G k) (drawD P K G (callD P K G k) (max args.length fn.ntmps)) (max args.length fn.ntmps) k c (initT 0 args) m with
        | none => rfl
        | some r =>
          obtain ⟨e, t', m'⟩ := r
          cases e with
          | normal =>
            simp only [onE]
            cases resD P t' m' fn.results.toList <;> rfl
          | exit id => rfl
          | ret =>
            simp only [onE]
            cases resD P t' m' fn.results.toList <;> rfl
end
end Go.DI
