/-
  DiStrict: the same interpreter, told so that the kernel works everything out at once ('callS'); it is the same function (callS_eq).
-/
import Derived.Test.YtfpbiojnbffkpaaH06
set_option linter.all false
set_option linter.unusedVariables false
set_option linter.unusedSimpArgs false
namespace Go.DI
section
variable {α : Type}
def fNat (n : Nat) (k : Nat → α) : α := match n with | 0 => k 0 | m + 1 => k (Nat.succ m)
theorem fNat_eq (n : Nat) (k : Nat → α) : fNat n k = k n := by cases n <;> rfl
def fInt (n : Int) (k : Int → α) : α := match n with | .ofNat m => fNat m fun m => k (.ofNat m) | .negSucc m => fNat m fun m => k (.negSucc m)
theorem fInt_eq (n : Int) (k : Int → α) : fInt n k = k n := by cases n <;> simp [fInt, fNat_eq]
def fL (f : Value → (Value → α) → α) : List Value → (List Value → α) → α
  | [], k => k []
  | x :: l, k => f x fun x => fL f l fun l => k (x :: l)
theorem fL_eq {f : Value → (Value → α) → α} (hf : ∀ v k, f v k = k v) : ∀ (l : List Value) (k : List Value → α), fL f l k = k l
  | [], k => rfl
  | x :: l, k => by simp only [fL, hf, fL_eq hf l]
def fSp : List Value → (List Value → α) → α := fL fun v k => k v
theorem fSp_eq (l : List Value) (k : List Value → α) : fSp l k = k l := fL_eq (fun _ _ => rfl) l k
def fA (a : Option Addr) (k : Option Addr → α) : α :=
  match a with
  | none => k none
  | some ⟨b, o, none⟩ => fNat b fun b => fNat o fun o => k (some ⟨b, o, none⟩)
  | some ⟨b, o, some e⟩ => fNat b fun b => fNat o fun o => fNat e fun e => k (some ⟨b, o, some e⟩)
theorem fA_eq (a : Option Addr) (k : Option Addr → α) : fA a k = k a := by
  unfold fA
  split <;> simp [fNat_eq]
def fV : Nat → Value → (Value → α) → α
  | 0, v, k => k v
  | d + 1, v, k =>
    match v with
    | .bool b => (match b with | true => k (.bool true) | false => k (.bool false))
    | .int q n => fInt n fun n => k (.int q n)
    | .pointer a => fA a fun a => k (.pointer a)
    | .slice a n c => fA a fun a => fNat n fun n => fNat c fun c => k (.slice a n c)
    | .map (some r) => fNat r fun r => k (.map (some r))
    | .agg ⟨l⟩ => fL (fV d) l fun l => k (.agg ⟨l⟩)
    | .tuple ⟨l⟩ => fL (fV d) l fun l => k (.tuple ⟨l⟩)
    | .func f ⟨a⟩ ⟨b⟩ => fL (fV d) a fun a => fL (fV d) b fun b => k (.func f ⟨a⟩ ⟨b⟩)
    | v => k v
theorem fV_eq : ∀ (d : Nat) (v : Value) (k : Value → α), fV d v k = k v
  | 0, v, k => rfl
  | d + 1, v, k => by
    have ih := fun v k => fV_eq d v k
    unfold fV
    split <;> (try simp only [fInt_eq, fA_eq, fNat_eq, fL_eq ih])
    split <;> rfl
def fE : List MapEntry → (List MapEntry → α) → α
  | [], k => k []
  | ⟨key, val, born⟩ :: l, k => fV 6 key fun key => fV 6 val fun val => fE l fun l => k (⟨key, val, born⟩ :: l)
theorem fE_eq : ∀ (l : List MapEntry) (k : List MapEntry → α), fE l k = k l
  | [], k => rfl
  | ⟨key, val, born⟩ :: l, k => by simp only [fE, fV_eq, fE_eq l]
def fB (x : Blk) (k : Blk → α) : α :=
  match x with
  | .cells o c => fL (fV 6) c fun c => k (.cells o c)
  | .map o es c => fE es fun es => fNat c fun c => k (.map o es c)
  | x => k x
theorem fB_eq (x : Blk) (k : Blk → α) : fB x k = k x := by
  unfold fB
  split <;> simp only [fL_eq (fV_eq 6), fE_eq, fNat_eq]
def Tr.putK {β : Type} (d : Nat) (t : Tr β) (p key : Nat) (v : β) (k : Tr β → α) : α := k (Tr.put t d p key v)
theorem Tr.putK_eq {β : Type} (d : Nat) (t : Tr β) (p key : Nat) (v : β) (k : Tr β → α) : Tr.putK d t p key v k = k (Tr.put t d p key v) := rfl
def setT (t : Tmps) (d : Nat) (v : Value) (k : Tmps → α) : α := Tr.putK 6 t d d v k
theorem setT_eq (t : Tmps) (d : Nat) (v : Value) (k : Tmps → α) : setT t d v k = k (t.set d v) := Tr.putK_eq _ _ _ _ _ _
def setM (m : Mem) (b : Nat) (x : Blk) (k : Mem → α) : α := match m with | ⟨base, tr, size⟩ => Tr.putK 10 tr b b x fun tr => k ⟨base, tr, size⟩
theorem setM_eq (m : Mem) (b : Nat) (x : Blk) (k : Mem → α) : setM m b x k = k (m.set b x) := by simp only [setM, Tr.putK_eq]; rfl
def pushM (m : Mem) (x : Blk) (k : Mem → α) : α := match m with | ⟨base, tr, size⟩ => Tr.putK 10 tr size size x fun tr => fNat (size + 1) fun s => k ⟨base, tr, s⟩
theorem pushM_eq (m : Mem) (x : Blk) (k : Mem → α) : pushM m x k = k (m.push x) := by simp only [pushM, Tr.putK_eq, fNat_eq]; rfl
def putS (t : Tmps) (dst : Option Tmp) (v : Value) (k : Tmps → α) : α := match dst with | none => k t | some d => setT t d v k
theorem putS_eq (t : Tmps) (dst : Option Tmp) (v : Value) (k : Tmps → α) : putS t dst v k = k (putD t dst v) := by
  cases dst <;> simp only [putS, putD, setT_eq]
def initS : Nat → List Value → (Tmps → α) → α
  | _, [], k => k .nil
  | i, v :: l, k => initS (i + 1) l fun t => setT t i v k
theorem initS_eq : ∀ (l : List Value) (i : Nat) (k : Tmps → α), initS i l k = k (initT i l)
  | [], _, _ => rfl
  | v :: l, i, k => by simp only [initS, initT, initS_eq l, setT_eq]
def onV (r : Option (Value × Mem)) (k : Value → Mem → Option α) : Option α := match r with | some (v, m) => k v m | none => none
def onM (r : Option Mem) (k : Mem → Option α) : Option α := match r with | some m => k m | none => none
theorem onV_ite {c : Prop} [Decidable c] (a : Option (Value × Mem)) (k : Value → Mem → Option α) : onV (if c then a else none) k = if c then onV a k else none := by split <;> rfl
theorem onM_ite {c : Prop} [Decidable c] (a : Option Mem) (k : Mem → Option α) : onM (if c then a else none) k = if c then onM a k else none := by split <;> rfl
theorem ite_same {c : Prop} [Decidable c] {a b x : Option α} (h : c → a = b) : (if c then a else x) = (if c then b else x) := by
  split
  · exact h ‹_›
  · rfl
def storeCS (m : Mem) (b off : Nat) (vs : List Value) (k : Mem → Option α) : Option α :=
  match m.get b with
  | .cells true c => if off + vs.length ≤ c.length then (if vs.all one then fB (.cells true (splice c off vs)) fun x => setM m b x k else none) else none
  | _ => none
theorem storeCS_eq (m : Mem) (b off : Nat) (vs : List Value) (k : Mem → Option α) : storeCS m b off vs k = onM (storeC m b off vs) k := by
  unfold storeCS storeC
  cases m.get b with
  | none => rfl
  | map => rfl
  | siter => rfl
  | cells o c =>
    cases o with
    | false => rfl
    | true =>
      simp only
      by_cases h1 : off + vs.length ≤ c.length
      · by_cases h2 : vs.all one = true
        · simp only [h1, h2, if_true, fB_eq, setM_eq, onM]
        · simp only [h1, h2, if_true, if_false, onM]; rfl
      · simp only [h1, if_false, onM]
section
variable (P : Program) (K : TypeId → Bool) (G : Nat)
def storeDS (m : Mem) (t : TypeId) (x : Value) (k : Mem → Option α) : Value → Option α
  | .pointer (some ⟨b, off, none⟩) =>
    match szOf P t with
    | some n => if x.cells.toList.length = n then storeCS m b off x.cells.toList k else none
    | none => none
  | _ => none
theorem storeDS_eq (m : Mem) (t : TypeId) (x : Value) (k : Mem → Option α) (a : Value) : storeDS P m t x k a = onM (storeD P m t x a) k := by
  unfold storeDS storeD
  cases a <;> try rfl
  rename_i ad
  cases ad with
  | none => rfl
  | some ad =>
    obtain ⟨b, off, sp⟩ := ad
    cases sp with
    | some e => rfl
    | none =>
      simp only
      cases szOf P t with
      | none => rfl
      | some n =>
        simp only
        by_cases h : x.cells.toList.length = n
        · simp only [h, if_true]; exact storeCS_eq _ _ _ _ _
        · simp only [h, if_false]; rfl
def mapUpdateS (m : Mem) (t : TypeId) (x k v : Value) (q : Mem → Option α) : Option α :=
  match P.underlying t with
  | some (.map kt _) => match x with
    | .map (some r) => match m.get r with
      | .map true es clock => if keyOk P 100 kt k = true then
          (match findD P K kt k es 0 with
          | some (some (i, _)) => match es[i]? with
            | some e => if Instr.sameBits 10000 e.key k = true then fB (.map true (modE i k v es) clock) fun x => setM m r x q else none
            | none => none
          | some none => fB (.map true (es ++ [{ key := k, val := v, born := clock }]) (clock + 1)) fun x => setM m r x q
          | none => none) else none
      | _ => none
    | _ => none
  | _ => none
theorem mapUpdateS_eq (m : Mem) (t : TypeId) (x k v : Value) (q : Mem → Option α) : mapUpdateS P K m t x k v q = onM (mapUpdateD P K m t x k v) q := by
  unfold mapUpdateS mapUpdateD
  cases P.underlying t with
  | none => rfl
  | some d =>
    cases d <;> try rfl
    cases x <;> try rfl
    rename_i r
    cases r with
    | none => rfl
    | some r =>
      simp only
      cases m.get r with
      | none => rfl
      | cells => rfl
      | siter => rfl
      | map o es clock =>
        cases o with
        | false => rfl
        | true =>
          simp only
          rw [onM_ite]
          refine ite_same fun hk => ?_
          cases findD P K _ k es 0 with
          | none => rfl
          | some r =>
              cases r with
              | none => simp only [fB_eq, setM_eq, onM]
              | some p =>
                obtain ⟨i, u⟩ := p
                simp only
                cases es[i]? with
                | none => rfl
                | some e =>
                  simp only
                  by_cases hs : Instr.sameBits 10000 e.key k = true
                  · simp only [hs, if_true, fB_eq, setM_eq, onM]
                  · simp only [hs, if_false]; rfl
def storeRS (sp : Option Nat) (m : Mem) (b off : Nat) (vs : List Value) (q : Mem → Option α) : Option α := match sp with | none => storeCS m b off vs q | some _ => none
theorem storeRS_eq (sp : Option Nat) (m : Mem) (b off : Nat) (vs : List Value) (q : Mem → Option α) : storeRS sp m b off vs q = onM (storeR sp m b off vs) q := by
  cases sp with
  | none => exact storeCS_eq _ _ _ _ _
  | some _ => rfl
def appendS (m : Mem) (tS tX : TypeId) (s x : Value) (k : Value → Mem → Option α) : Option α :=
  match P.underlying tS, P.underlying tX with
  | _, some (.int _) | _, none => none
  | some (.slice e), some _ => match s, szOf P e, bytesOf P e, lenOf x with
    | .slice base sLen sCap, some size, some bytes, some n =>
      if size = 0 then none else
      match firstC m size n x with
      | some new =>
        if sLen + n ≤ sCap then
          (match base with
          | none => if n = 0 then k (.slice none (sLen + n) sCap) m else none
          | some ⟨b, off, sp⟩ => if n = 0 then k (.slice (some ⟨b, off, sp⟩) (sLen + n) sCap) m else
            storeRS sp m b (off + sLen * size) new fun m' => fNat (sLen + n) fun q => k (.slice (some ⟨b, off, sp⟩) q sCap) m')
        else if (sLen + n) * bytes ≤ 140737488355328 ∧ (sLen + n : Nat) ≤ 4611686018427387904 ∧ 0 < bytes ∧ (zerosD P e 1).isSome = true then
          match firstC m size sLen s with
          | some old =>
            if (new.all one && old.all one) = true ∧ old.length = sLen * size ∧ new.length = n * size then
            (match base with
            | some ⟨b, _, some e'⟩ => if e' = size then
                (match m.get b with
                | .cells true _ => fB (.cells true (old ++ new)) fun x => fNat m.size fun z => fNat (sLen + n) fun q => pushM m x fun m' => setM m' b .none fun m' => k (.slice (some ⟨z, 0, some size⟩) q q) m'
                | _ => none)
              else none
            | _ => fB (.cells true (old ++ new)) fun x => fNat m.size fun z => fNat (sLen + n) fun q => pushM m x fun m' => k (.slice (some ⟨z, 0, some size⟩) q q) m') else none
          | none => none
        else none
      | none => none
    | _, _, _, _ => none
  | _, _ => none
theorem appendS_eq (m : Mem) (tS tX : TypeId) (s x : Value) (k : Value → Mem → Option α) : appendS P m tS tX s x k = onV (appendD P m tS tX s x) k := by
  unfold appendS appendD
  cases P.underlying tX with
  | none => cases P.underlying tS <;> rfl
  | some dX =>
    cases P.underlying tS with
    | none => cases dX <;> rfl
    | some dS =>
      cases dS <;> cases dX <;> try rfl
      all_goals
        simp only
        cases s <;> try rfl
        cases szOf P _ <;> try rfl
        cases bytesOf P _ <;> try rfl
        cases lenOf x <;> try rfl
        simp only
        rename_i base sLen sCap size bytes n
        by_cases h0 : size = 0
        · simp only [h0, if_true]; rfl
        · simp only [h0, if_false]
          cases firstC m size n x with
          | none => rfl
          | some new =>
            simp only
            by_cases h1 : sLen + n ≤ sCap
            · simp only [h1, if_true]
              cases base with
              | none => by_cases h2 : n = 0 <;> simp only [h2, if_true, if_false] <;> rfl
              | some ad =>
                obtain ⟨b, off, sp⟩ := ad
                simp only
                by_cases h2 : n = 0
                · simp only [h2, if_true]; rfl
                · simp only [h2, if_false, storeRS_eq]
                  cases storeR sp m b (off + sLen * size) new <;> simp only [onM, onV, fNat_eq]
            · simp only [h1, if_false]
              rw [onV_ite]
              refine ite_same fun h2 => ?_
              cases firstC m size sLen _ with
              | none => rfl
              | some old =>
                  simp only
                  by_cases h3 : (new.all one && old.all one) = true ∧ old.length = sLen * size ∧ new.length = n * size
                  · rw [if_pos h3, if_pos h3]
                    cases base with
                    | none => simp only [fB_eq, pushM_eq, fNat_eq, onV]
                    | some ad =>
                      obtain ⟨b, off, sp⟩ := ad
                      cases sp with
                      | none => simp only [fB_eq, pushM_eq, fNat_eq, onV]
                      | some e' =>
                        simp only
                        by_cases h4 : e' = size
                        · simp only [h4, if_true]
                          cases m.get b with
                          | none => rfl
                          | map => rfl
                          | siter => rfl
                          | cells o c => cases o with
                            | false => rfl
                            | true => simp only [fB_eq, pushM_eq, setM_eq, fNat_eq, onV]
                        · simp only [h4, if_false]; rfl
                  · rw [if_neg h3, if_neg h3]; rfl
def heavyS (cf : FuncId → List Value → Mem → Option (Value × Mem)) (t : Tmps) (m : Mem) (o : Op) (q : Value → Mem → Option α) : Option α :=
  match o with
  | .store ty a x => match ev G t a, ev G t x with
    | some a, some v => storeDS P m ty v (fun m' => q undef m') a
    | _, _ => none
  | .mapUpdate ty x k v => match ev G t x, ev G t k, ev G t v with
    | some x, some k, some v => mapUpdateS P K m ty x k v fun m' => q undef m'
    | _, _, _ => none
  | .insert ty x k v => match ev G t x, ev G t k, ev G t v with
    | some x, some k, some v => mapUpdateS P K m ty x k v fun m' => q undef m'
    | _, _, _ => none
  | .call { callee := .builtin .append, args, argTypes } => match args.toList, argTypes.toList with
    | [s, x], [tS, tX] => match ev G t s, ev G t x with
      | some s, some x => appendS P m tS tX s x q
      | _, _ => none
    | _, _ => none
  | .call { callee := .value f, args, argTypes := _ } => match ev G t f, evs G t args.toList with
    | some (.func (.func g) first captured), some vs => fSp (first.toList ++ (vs ++ captured.toList)) fun l => onV (cf g l m) q
    | _, _ => none
  | o => onV (heavyD P K G cf t m o) fun v m' => fV 6 v fun v => q v m'
theorem heavyS_eq (cf : FuncId → List Value → Mem → Option (Value × Mem)) (t : Tmps) (m : Mem) (o : Op) (q : Value → Mem → Option α) : heavyS P K G cf t m o q = onV (heavyD P K G cf t m o) q := by
  have hfv : ∀ r : Option (Value × Mem), (onV r fun v m' => fV 6 v fun v => q v m') = onV r q := by
    intro r; cases r with
    | none => rfl
    | some r => simp only [onV, fV_eq]
  cases o <;> try (unfold heavyS; exact hfv _)
  case store ty a x =>
    simp only [heavyS, heavyD]
    cases ev G t a with
    | none => rfl
    | some a =>
      cases ev G t x with
      | none => rfl
      | some v =>
        simp only [storeDS_eq]
        cases storeD P m ty v a <;> rfl
  case mapUpdate ty x k y =>
    simp only [heavyS, heavyD]
    cases ev G t x with
    | none => rfl
    | some x =>
      cases ev G t k with
      | none => rfl
      | some k =>
        cases ev G t y with
        | none => rfl
        | some y =>
          simp only [mapUpdateS_eq]
          cases mapUpdateD P K m ty x k y <;> rfl
  case insert ty x k y =>
    simp only [heavyS, heavyD]
    cases ev G t x with
    | none => rfl
    | some x =>
      cases ev G t k with
      | none => rfl
      | some k =>
        cases ev G t y with
        | none => rfl
        | some y =>
          simp only [mapUpdateS_eq]
          cases mapUpdateD P K m ty x k y <;> rfl
  case call c =>
    obtain ⟨callee, args, tys⟩ := c
    cases callee with
    | invoke r s => unfold heavyS; exact hfv _
    | builtin b =>
      cases b <;> try (unfold heavyS; exact hfv _)
      simp only [heavyS, heavyD]
      cases args.toList with
      | nil => rfl
      | cons s l =>
        cases l with
        | nil => rfl
        | cons x l =>
          cases l with
          | cons y l => rfl
          | nil =>
            cases tys.toList with
            | nil => rfl
            | cons a l => cases l with
              | nil => rfl
              | cons b l => cases l with
                | cons c l => rfl
                | nil =>
                  simp only
                  cases ev G t s with
                  | none => rfl
                  | some s =>
                    cases ev G t x with
                    | none => rfl
                    | some x => exact appendS_eq P m a b s x q
    | value f =>
      simp only [heavyS, heavyD]
      cases ev G t f with
      | none => rfl
      | some v =>
        cases v <;> try rfl
        rename_i fn first captured
        cases fn <;> try rfl
        cases evs G t args.toList with
        | none => rfl
        | some vs => simp only [fSp_eq]
def opS (cf : FuncId → List Value → Mem → Option (Value × Mem)) (t : Tmps) (m : Mem) (o : Op) (q : Value → Mem → Option α) : Option α :=
  match klass o with
  | 0 => match quietD P K G t m o with | some v => fV 6 v fun v => q v m | none => none
  | 1 => match allocD P G t o with | some (x, k) => fB x fun x => fNat m.size fun z => pushM m x fun m' => fV 6 (k.val z) fun v => q v m' | none => none
  | _ => heavyS P K G cf t m o q
theorem opS_eq (cf : FuncId → List Value → Mem → Option (Value × Mem)) (t : Tmps) (m : Mem) (o : Op) (q : Value → Mem → Option α) : opS P K G cf t m o q = onV (opD P K G cf t m o) q := by
  unfold opS opD
  rcases klass_cases o with h | h | h
  · simp only [h]
    cases quietD P K G t m o with
    | none => rfl
    | some v => simp only [fV_eq, onV]
  · simp only [h]
    cases allocD P G t o with
    | none => rfl
    | some x => obtain ⟨x, k⟩ := x; simp only [fB_eq, fNat_eq, pushM_eq, fV_eq, onV]
  · simp only [h]
    exact heavyS_eq P K G cf t m o q
def opsS (cf : FuncId → List Value → Mem → Option (Value × Mem)) (n : Nat) (ops : List Oper) : List Oper → Tmps → Mem → Option (Tmps × Mem)
  | [], t, m => some (t, m)
  | o :: l, t, m => if dstOk n o.dst = true then
      (if Region.wanted o (yieldD ops t) = true then opS P K G cf t m o.op fun v m' => putS t o.dst v fun t' => opsS cf n ops l t' m'
      else putS t o.dst undef fun t' => opsS cf n ops l t' m) else none
theorem opsS_eq (cf : FuncId → List Value → Mem → Option (Value × Mem)) (n : Nat) (ops : List Oper) : ∀ (l : List Oper) (t : Tmps) (m : Mem), opsS P K G cf n ops l t m = opsD P K G cf n ops l t m
  | [], t, m => rfl
  | o :: l, t, m => by
    simp only [opsS, opsD, opS_eq, putS_eq]
    split
    · split
      · cases opD P K G cf t m o.op with
        | none => rfl
        | some r => obtain ⟨v, m'⟩ := r; simp only [onV]; exact opsS_eq cf n ops l _ _
      · exact opsS_eq cf n ops l _ _
    · rfl
def recS (cf : FuncId → List Value → Mem → Option (Value × Mem)) (n : Nat) (ops : List Oper) : List Oper → Tmps → Mem → Option (List Rec × Tmps × Mem)
  | [], t, m => some ([], t, m)
  | o :: l, t, m => if dstOk n o.dst = true then
      (if Region.wanted o (yieldD ops t) = true then opS P K G cf t m o.op fun v m' => putS t o.dst v fun t₁ => (match recS cf n ops l t₁ m' with
          | some (rs, t', m'') => some (⟨true, v, t, m⟩ :: rs, t', m'')
          | none => none)
      else putS t o.dst undef fun t₁ => match recS cf n ops l t₁ m with
        | some (rs, t', m'') => some (⟨false, undef, t, m⟩ :: rs, t', m'')
        | none => none) else none
theorem recS_eq (cf : FuncId → List Value → Mem → Option (Value × Mem)) (n : Nat) (ops : List Oper) : ∀ (l : List Oper) (t : Tmps) (m : Mem), recS P K G cf n ops l t m = recD P K G cf n ops l t m
  | [], t, m => rfl
  | o :: l, t, m => by
    simp only [recS, recD, opS_eq, putS_eq, recS_eq cf n ops l]
    split
    · split
      · cases opD P K G cf t m o.op with
        | none => rfl
        | some r => obtain ⟨v, m'⟩ := r; rfl
      · rfl
    · rfl
/-! the tables of a drawing region, worked out once -/
def drawS (cf : FuncId → List Value → Mem → Option (Value × Mem)) (n : Nat) (ops : List Oper) (t : Tmps) (m : Mem) : Option (Tmps × Mem) :=
  match statB ops (tabD ops []) with
  | true => match recS P K G cf n ops ops t m with
    | some (rs, t', m') => (match (need1 ops (tabD ops [])).all (chk1 P K G ops rs m') with
      | true => (match (need2 ops (tabD ops [])).all (chk2 rs m') with
        | true => some (t', m')
        | false => none)
      | false => none)
    | none => none
  | false => none
theorem drawS_eq (cf : FuncId → List Value → Mem → Option (Value × Mem)) (n : Nat) (ops : List Oper) (t : Tmps) (m : Mem) : drawS P K G cf n ops t m = drawD P K G cf n ops t m := by
  unfold drawS drawD
  rw [recS_eq]
  cases statB ops (tabD ops []) with
  | false => rfl
  | true =>
    simp only [if_true]
    cases recD P K G cf n ops ops t m with
    | none => rfl
    | some r =>
      obtain ⟨rs, t', m'⟩ := r
      simp only
      cases (need1 ops (tabD ops [])).all (chk1 P K G ops rs m') with
      | false => rfl
      | true =>
        cases (need2 ops (tabD ops [])).all (chk2 rs m') <;> rfl
def codeS (cf : FuncId → List Value → Mem → Option (Value × Mem)) (n k : Nat) : Code → Tmps → Mem → Option (Ex × Tmps × Mem)
  | .skip, t, m => some (.normal, t, m)
  | .label _, t, m => some (.normal, t, m)
  | .region _ ops draw, t, m => match (match draw with | true => drawS P K G cf n ops.toList t m | false => opsS P K G cf n ops.toList ops.toList t m) with
    | some (t', m') => some (.normal, t', m')
    | none => none
  | .seq a b, t, m => match codeS cf n k a t m with
    | some (.normal, t', m') => codeS cf n k b t' m'
    | r => r
  | .cond c x y, t, m => match ev G t c with
    | some (.bool true) => codeS cf n k x t m
    | some (.bool false) => codeS cf n k y t m
    | _ => none
  | .block id c, t, m => match codeS cf n k c t m with
    | some (.exit id', t', m') => if id' = id then some (.normal, t', m') else some (.exit id', t', m')
    | r => r
  | .loop c, t, m => loopD (codeS cf n k c) k t m
  | .exit id, t, m => some (.exit id, t, m)
  | .ret, t, m => some (.ret, t, m)
  | _, _, _ => none
theorem codeS_eq (cf : FuncId → List Value → Mem → Option (Value × Mem)) (n k : Nat) : ∀ (c : Code), codeS P K G cf n k c = codeD P K G cf (drawD P K G cf n) n k c := by
  intro c
  induction c with
  | skip => rfl
  | label l => rfl
  | region id ops draw =>
    funext t m
    simp only [codeS, codeD]
    cases draw <;> simp only [opsS_eq, drawS_eq, cond_true, cond_false] <;> rfl
  | seq a b iha ihb => funext t m; simp only [codeS, codeD, iha, ihb]; rfl
  | cond c x y ihx ihy => funext t m; simp only [codeS, codeD, ihx, ihy]; rfl
  | block id c ih => funext t m; simp only [codeS, codeD, ih]; rfl
  | loop c ih => funext t m; simp only [codeS, codeD, ih]
  | exit id => rfl
  | ret => rfl
  | rangeFunc => rfl
  | scope => rfl
  | goto => rfl
  | refuse => rfl
def endS (m : Mem) : Option (List Value) → Option (Value × Mem)
  | some vs => fV 6 (resV vs) fun v => some (v, m)
  | none => none
def callS : Nat → FuncId → List Value → Mem → Option (Value × Mem)
  | 0, _, _, _ => none
  | k + 1, f, args, m => match P.funcs[f]? with
    | some fn => match fn.body with
      | some c => initS 0 args fun t => match codeS P K G (callS k) (max args.length fn.ntmps) k c t m with
        | some (.normal, t', m') => endS m' (resD P t' m' fn.results.toList)
        | some (.ret, t', m') => endS m' (resD P t' m' fn.results.toList)
        | _ => none
      | none => none
    | none => none
theorem callS_eq : ∀ (k : Nat), callS P K G k = callD P K G k
  | 0 => rfl
  | k + 1 => by
    funext f args m
    simp only [callS, callD, initS_eq, callS_eq k, codeS_eq]
    have he : ∀ (m : Mem) (r : Option (List Value)), endS m r = (match r with | some vs => some (resV vs, m) | none => none) := by
      intro m r; cases r <;> simp [endS, fV_eq]
    simp only [he]
    rfl
end
end
end Go.DI
namespace Go.DI.Y
noncomputable section
variable {α : Type}
def ob {β : Type} (r : Option β) (q : β → Option α) : Option α := match r with | some v => q v | none => none
@[simp] theorem ob_some {β : Type} (v : β) (q : β → Option α) : ob (some v) q = q v := rfl
@[simp] theorem ob_none {β : Type} (q : β → Option α) : ob none q = none := rfl
/-! ### tries -/
section
variable {β : Type}
def lookF (l : List (Nat × β)) : Nat → Option β :=
  List.rec (motive := fun _ => Nat → Option β) (fun _ => none) (fun x _ ih k => Prod.rec (motive := fun _ => Option β) (fun j v => Bool.rec (motive := fun _ => Option β) (ih k) (some v) (Nat.beq j k)) x) l
theorem lookF_eq (k : Nat) : ∀ l : List (Nat × β), lookF l k = Tr.look k l
  | [] => rfl
  | (j, v) :: l => by
    have ih := lookF_eq k l
    simp only [Tr.look]
    rw [← ih]
    show Bool.rec (motive := fun _ => Option β) _ _ (Nat.beq j k) = _
    cases Nat.beq j k <;> rfl
def getF (t : Tr β) : Nat → Nat → Option β :=
  Tr.rec (motive := fun _ => Nat → Nat → Option β) (fun _ _ => none)
    (fun l _ k => lookF l k)
    (fun _ _ il ir p k => Nat.rec (motive := fun _ => Option β) (il (Nat.div p 2) k) (fun _ _ => ir (Nat.div p 2) k) (Nat.mod p 2)) t
theorem bit_cases (p : Nat) : (Nat.mod p 2 = 0 ∧ Nat.beq (p % 2) 0 = true) ∨ (Nat.mod p 2 = 1 ∧ Nat.beq (p % 2) 0 = false) := by
  have : p % 2 = 0 ∨ p % 2 = 1 := by omega
  rcases this with h | h
  · exact .inl ⟨h, by rw [h]; rfl⟩
  · exact .inr ⟨h, by rw [h]; rfl⟩
theorem getF_eq (k : Nat) : ∀ (t : Tr β) (p : Nat), getF t p k = Tr.get t p k
  | .nil, p => rfl
  | .bucket l, p => lookF_eq k l
  | .node l r, p => by
      have il := getF_eq k l (p / 2)
      have ir := getF_eq k r (p / 2)
      simp only [Tr.get]
      rw [← il, ← ir]
      show Nat.rec (motive := fun _ => Option β) _ _ (Nat.mod p 2) = _
      rcases bit_cases p with ⟨h1, h2⟩ | ⟨h1, h2⟩ <;> rw [h1, h2] <;> rfl
def updF (key : Nat) (v : β) (l : List (Nat × β)) : (List (Nat × β) → Option α) → Option α :=
  List.rec (motive := fun _ => (List (Nat × β) → Option α) → Option α) (fun q => q [(key, v)])
    (fun x l ih q => Prod.rec (motive := fun _ => Option α) (fun j u => Bool.rec (motive := fun _ => Option α) (ih fun r => q ((j, u) :: r)) (q ((key, v) :: l)) (Nat.beq j key)) x) l
theorem updF_eq (key : Nat) (v : β) : ∀ (l : List (Nat × β)) (q : List (Nat × β) → Option α), updF key v l q = q (Tr.upd key v l)
  | [], q => rfl
  | (j, u) :: l, q => by
    have ih := updF_eq key v l fun r => q ((j, u) :: r)
    simp only [Tr.upd]
    show Bool.rec (motive := fun _ => Option α) (updF key v l fun r => q ((j, u) :: r)) _ (Nat.beq j key) = _
    rw [ih]
    cases Nat.beq j key <;> rfl
def putN (d : Nat) : Nat → Nat → β → (Tr β → Option α) → Option α :=
  Nat.rec (motive := fun _ => Nat → Nat → β → (Tr β → Option α) → Option α) (fun _ key v q => q (.bucket [(key, v)]))
    (fun _ ih p key v q => Nat.rec (motive := fun _ => Option α) (ih (Nat.div p 2) key v fun l => q (.node l .nil)) (fun _ _ => ih (Nat.div p 2) key v fun r => q (.node .nil r)) (Nat.mod p 2)) d
theorem putN_eq (key : Nat) (v : β) : ∀ (d p : Nat) (q : Tr β → Option α), putN d p key v q = q (Tr.new d p key v)
  | 0, p, q => rfl
  | d + 1, p, q => by
    have ih := putN_eq key v d (p / 2)
    simp only [Tr.new]
    show Nat.rec (motive := fun _ => Option α) (putN d (p / 2) key v fun l => q (.node l .nil)) (fun _ _ => putN d (p / 2) key v fun r => q (.node .nil r)) (Nat.mod p 2) = _
    rw [ih, ih]
    rcases bit_cases p with ⟨h1, h2⟩ | ⟨h1, h2⟩ <;> rw [h1, h2] <;> rfl
def putF (t : Tr β) : Nat → Nat → Nat → β → (Tr β → Option α) → Option α :=
  Tr.rec (motive := fun _ => Nat → Nat → Nat → β → (Tr β → Option α) → Option α)
    (fun d p key v q => putN d p key v q)
    (fun l _ _ key v q => updF key v l fun l => q (.bucket l))
    (fun l r il ir d p key v q => Nat.rec (motive := fun _ => Option α) (il (Nat.sub d 1) (Nat.div p 2) key v fun l => q (.node l r)) (fun _ _ => ir (Nat.sub d 1) (Nat.div p 2) key v fun r => q (.node l r)) (Nat.mod p 2)) t
theorem putF_eq (key : Nat) (v : β) : ∀ (t : Tr β) (d p : Nat) (q : Tr β → Option α), putF t d p key v q = q (Tr.put t d p key v)
  | .nil, d, p, q => putN_eq key v d p q
  | .bucket l, d, p, q => updF_eq key v l _
  | .node l r, d, p, q => by
      have il := fun q => putF_eq key v l (d - 1) (p / 2) q
      have ir := fun q => putF_eq key v r (d - 1) (p / 2) q
      simp only [Tr.put]
      show Nat.rec (motive := fun _ => Option α) (putF l (d - 1) (p / 2) key v fun l => q (.node l r)) (fun _ _ => putF r (d - 1) (p / 2) key v fun r => q (.node l r)) (Nat.mod p 2) = _
      rw [il, ir]
      rcases bit_cases p with ⟨h1, h2⟩ | ⟨h1, h2⟩ <;> rw [h1, h2] <;> rfl
end
def setTF (t : Tmps) (d : Nat) (v : Value) (q : Tmps → Option α) : Option α := putF t 6 d d v q
theorem setTF_eq (t : Tmps) (d : Nat) (v : Value) (q : Tmps → Option α) : setTF t d v q = q (t.set d v) := putF_eq _ _ _ _ _ _
def setMF (m : Mem) (b : Nat) (x : Blk) (q : Mem → Option α) : Option α := q (m.set b x)
theorem setMF_eq (m : Mem) (b : Nat) (x : Blk) (q : Mem → Option α) : setMF m b x q = q (m.set b x) := rfl
def frcN (n : Nat) (q : Nat → Option α) : Option α := q n
theorem frcN_eq (n : Nat) (q : Nat → Option α) : frcN n q = q n := rfl
def pushMF (m : Mem) (x : Blk) (q : Mem → Option α) : Option α := q (m.push x)
theorem pushMF_eq (m : Mem) (x : Blk) (q : Mem → Option α) : pushMF m x q = q (m.push x) := rfl
def getTF (t : Tmps) (d : Nat) (q : Value → Option α) : Option α := Option.rec (motive := fun _ => Option α) (q undef) (fun v => q v) (getF t d d)
theorem getTF_eq (t : Tmps) (d : Nat) (q : Value → Option α) : getTF t d q = q (t.at d) := by
  unfold getTF Tmps.at
  rw [getF_eq]
  cases Tr.get t d d <;> rfl
def getBF (m : Mem) (b : Nat) : Blk := m.get b
theorem getBF_eq (m : Mem) (b : Nat) : getBF m b = m.get b := rfl
def cellsOf (x : Blk) : (Bool → List Value → Option α) → Option α := Blk.rec (motive := fun _ => (Bool → List Value → Option α) → Option α) (fun _ => none) (fun o c q => q o c) (fun _ _ _ _ => none) (fun _ _ _ => none) x
/-! ### values -/
def asPtr (v : Value) : (Nat → Nat → Option α) → Option α :=
  Value.rec (motive_1 := fun _ => (Nat → Nat → Option α) → Option α) (motive_2 := fun _ => Unit) (motive_3 := fun _ => Unit)
    (fun _ _ => none)
    (fun _ _ _ => none)
    (fun _ _ _ => none)
    (fun _ _ _ _ => none)
    (fun _ _ => none)
    (fun a q => Option.rec (motive := fun _ => Option α) none (fun ad => Addr.rec (motive := fun _ => Option α) (fun b off sp => Option.rec (motive := fun _ => Option α) (q b off) (fun _ => none) sp) ad) a)
    (fun _ _ _ _ => none)
    (fun _ _ => none)
    (fun _ _ => none)
    (fun _ _ _ _ _ _ => none)
    (fun  _ => none)
    (fun _ _ _ _ => none)
    (fun  _ => none)
    (fun _ _ _ => none)
    (fun _ _ _ => none)
    (fun _ _ => ()) () (fun _ _ _ _ => ()) v
def asSlc (v : Value) : (Nat → Nat → Nat → Option α) → Option α :=
  Value.rec (motive_1 := fun _ => (Nat → Nat → Nat → Option α) → Option α) (motive_2 := fun _ => Unit) (motive_3 := fun _ => Unit)
    (fun _ _ => none)
    (fun _ _ _ => none)
    (fun _ _ _ => none)
    (fun _ _ _ _ => none)
    (fun _ _ => none)
    (fun _ _ => none)
    (fun a n _ q => Option.rec (motive := fun _ => Option α) none (fun ad => Addr.rec (motive := fun _ => Option α) (fun b off _ => q b off n) ad) a)
    (fun _ _ => none)
    (fun _ _ => none)
    (fun _ _ _ _ _ _ => none)
    (fun  _ => none)
    (fun _ _ _ _ => none)
    (fun  _ => none)
    (fun _ _ _ => none)
    (fun _ _ _ => none)
    (fun _ _ => ()) () (fun _ _ _ _ => ()) v
def asAgg (v : Value) : (Array Value → Option α) → Option α → Option α :=
  Value.rec (motive_1 := fun _ => (Array Value → Option α) → Option α → Option α) (motive_2 := fun _ => Unit) (motive_3 := fun _ => Unit)
    (fun _ _ d => d)
    (fun _ _ _ d => d)
    (fun _ _ _ d => d)
    (fun _ _ _ _ d => d)
    (fun _ _ d => d)
    (fun _ _ d => d)
    (fun _ _ _ _ d => d)
    (fun _ _ d => d)
    (fun _ _ d => d)
    (fun _ _ _ _ _ _ d => d)
    (fun  _ d => d)
    (fun _ _ _ _ d => d)
    (fun  _ d => d)
    (fun cs _ q _ => q cs)
    (fun _ _ _ d => d)
    (fun _ _ => ()) () (fun _ _ _ _ => ()) v
def asTup (v : Value) : (Array Value → Option α) → Option α :=
  Value.rec (motive_1 := fun _ => (Array Value → Option α) → Option α) (motive_2 := fun _ => Unit) (motive_3 := fun _ => Unit)
    (fun _ _ => none)
    (fun _ _ _ => none)
    (fun _ _ _ => none)
    (fun _ _ _ _ => none)
    (fun _ _ => none)
    (fun _ _ => none)
    (fun _ _ _ _ => none)
    (fun _ _ => none)
    (fun _ _ => none)
    (fun _ _ _ _ _ _ => none)
    (fun  _ => none)
    (fun _ _ _ _ => none)
    (fun  _ => none)
    (fun _ _ _ => none)
    (fun cs _ q => q cs)
    (fun _ _ => ()) () (fun _ _ _ _ => ()) v
def asInt (v : Value) : (IntKind → Int → Option α) → Option α → Option α :=
  Value.rec (motive_1 := fun _ => (IntKind → Int → Option α) → Option α → Option α) (motive_2 := fun _ => Unit) (motive_3 := fun _ => Unit)
    (fun _ _ d => d)
    (fun k n q _ => q k n)
    (fun _ _ _ d => d)
    (fun _ _ _ _ d => d)
    (fun _ _ d => d)
    (fun _ _ d => d)
    (fun _ _ _ _ d => d)
    (fun _ _ d => d)
    (fun _ _ d => d)
    (fun _ _ _ _ _ _ d => d)
    (fun  _ d => d)
    (fun _ _ _ _ d => d)
    (fun  _ d => d)
    (fun _ _ _ d => d)
    (fun _ _ _ d => d)
    (fun _ _ => ()) () (fun _ _ _ _ => ()) v
def asBool (v : Value) : Option α → Option α → Option α :=
  Value.rec (motive_1 := fun _ => Option α → Option α → Option α) (motive_2 := fun _ => Unit) (motive_3 := fun _ => Unit)
    (fun b x y => Bool.rec (motive := fun _ => Option α) y x b)
    (fun _ _ _ _ => none)
    (fun _ _ _ _ => none)
    (fun _ _ _ _ _ => none)
    (fun _ _ _ => none)
    (fun _ _ _ => none)
    (fun _ _ _ _ _ => none)
    (fun _ _ _ => none)
    (fun _ _ _ => none)
    (fun _ _ _ _ _ _ _ => none)
    (fun  _ _ => none)
    (fun _ _ _ _ _ => none)
    (fun  _ _ => none)
    (fun _ _ _ _ => none)
    (fun _ _ _ _ => none)
    (fun _ _ => ()) () (fun _ _ _ _ => ()) v
def asBo (v : Value) : (Bool → Option α) → Option α → Option α :=
  Value.rec (motive_1 := fun _ => (Bool → Option α) → Option α → Option α) (motive_2 := fun _ => Unit) (motive_3 := fun _ => Unit)
    (fun b q _ => q b)
    (fun _ _ _ d => d)
    (fun _ _ _ d => d)
    (fun _ _ _ _ d => d)
    (fun _ _ d => d)
    (fun _ _ d => d)
    (fun _ _ _ _ d => d)
    (fun _ _ d => d)
    (fun _ _ d => d)
    (fun _ _ _ _ _ _ d => d)
    (fun _ d => d)
    (fun _ _ _ _ d => d)
    (fun _ d => d)
    (fun _ _ _ d => d)
    (fun _ _ _ d => d)
    (fun _ _ => ()) () (fun _ _ _ _ => ()) v
def asFunc (v : Value) : (FuncId → List Value → List Value → Option α) → Option α :=
  Value.rec (motive_1 := fun _ => (FuncId → List Value → List Value → Option α) → Option α) (motive_2 := fun _ => Unit) (motive_3 := fun _ => Unit)
    (fun _ _ => none)
    (fun _ _ _ => none)
    (fun _ _ _ => none)
    (fun _ _ _ _ => none)
    (fun _ _ => none)
    (fun _ _ => none)
    (fun _ _ _ _ => none)
    (fun _ _ => none)
    (fun _ _ => none)
    (fun fn a b _ _ q => match fn with | .func f => q f a.toList b.toList | _ => none)
    (fun  _ => none)
    (fun _ _ _ _ => none)
    (fun  _ => none)
    (fun _ _ _ => none)
    (fun _ _ _ => none)
    (fun _ _ => ()) () (fun _ _ _ _ => ()) v
def oneF (v : Value) : Bool :=
  Value.rec (motive_1 := fun _ => Bool) (motive_2 := fun _ => Unit) (motive_3 := fun _ => Unit)
    (fun _  => true)
    (fun _ _  => true)
    (fun _ _  => true)
    (fun _ _ _  => true)
    (fun _  => true)
    (fun _  => true)
    (fun _ _ _  => true)
    (fun _  => true)
    (fun _  => true)
    (fun _ _ _ _ _  => true)
    true
    (fun _ _ _  => true)
    true
    (fun _ _ => false)
    (fun _ _ => false)
    (fun _ _ => ()) () (fun _ _ _ _ => ()) v
def isB (v : Value) : Bool :=
  Value.rec (motive_1 := fun _ => Bool) (motive_2 := fun _ => Unit) (motive_3 := fun _ => Unit)
    (fun _ => true)
    (fun _ _  => false)
    (fun _ _  => false)
    (fun _ _ _  => false)
    (fun _  => false)
    (fun _  => false)
    (fun _ _ _  => false)
    (fun _  => false)
    (fun _  => false)
    (fun _ _ _ _ _  => false)
    false
    (fun _ _ _  => false)
    false
    (fun _ _  => false)
    (fun _ _  => false)
    (fun _ _ => ()) () (fun _ _ _ _ => ()) v
def theB (v : Value) : Bool :=
  Value.rec (motive_1 := fun _ => Bool) (motive_2 := fun _ => Unit) (motive_3 := fun _ => Unit)
    (fun b => b)
    (fun _ _  => false)
    (fun _ _  => false)
    (fun _ _ _  => false)
    (fun _  => false)
    (fun _  => false)
    (fun _ _ _  => false)
    (fun _  => false)
    (fun _  => false)
    (fun _ _ _ _ _  => false)
    false
    (fun _ _ _  => false)
    false
    (fun _ _  => false)
    (fun _ _  => false)
    (fun _ _ => ()) () (fun _ _ _ _ => ()) v
theorem asPtr_eq (v : Value) (q : Nat → Nat → Option α) : asPtr v q = match v with | .pointer (some ⟨b, off, none⟩) => q b off | _ => none := by
  cases v <;> try rfl
  rename_i a
  cases a with
  | none => rfl
  | some a => obtain ⟨b, off, sp⟩ := a; cases sp <;> rfl
theorem asSlc_eq (v : Value) (q : Nat → Nat → Nat → Option α) : asSlc v q = match v with | .slice (some ⟨b, off, _⟩) n _ => q b off n | _ => none := by
  cases v <;> try rfl
  rename_i a _ _
  cases a <;> rfl
theorem oneF_eq (v : Value) : oneF v = one v := by cases v <;> rfl
def cellsF (v : Value) (q : List Value → Option α) : Option α := asAgg v (fun cs => q cs.toList) (q [v])
theorem cellsF_eq (v : Value) (q : List Value → Option α) : cellsF v q = q v.cells.toList := by cases v <;> rfl
/-! ### lists -/
def nthL (c : List Value) : Nat → Option Value :=
  List.rec (motive := fun _ => Nat → Option Value) (fun _ => none) (fun a _ ih i => Nat.rec (motive := fun _ => Option Value) (some a) (fun i' _ => ih i') i) c
theorem nthL_eq : ∀ (c : List Value) (i : Nat), nthL c i = c[i]?
  | [], i => by simp; rfl
  | a :: c, 0 => rfl
  | a :: c, i + 1 => by
    have := nthL_eq c i
    rw [List.getElem?_cons_succ]
    exact this
def nthF (c : List Value) (i : Nat) (q : Value → Option α) : Option α := Option.rec (motive := fun _ => Option α) none (fun v => q v) (nthL c i)
theorem nthF_eq (q : Value → Option α) (c : List Value) (i : Nat) : nthF c i q = ob c[i]? q := by
  unfold nthF
  rw [nthL_eq]
  cases c[i]? <;> rfl
def takeF (c : List Value) : Nat → (List Value → Option α) → Option α :=
  List.rec (motive := fun _ => Nat → (List Value → Option α) → Option α) (fun n q => Nat.rec (motive := fun _ => Option α) (q []) (fun _ _ => none) n)
    (fun a _ ih n q => Nat.rec (motive := fun _ => Option α) (q []) (fun n' _ => ih n' fun l => q (a :: l)) n) c
theorem takeF_eq : ∀ (c : List Value) (n : Nat) (q : List Value → Option α), takeF c n q = if n ≤ c.length then q (c.take n) else none
  | [], 0, q => rfl
  | [], n + 1, q => rfl
  | a :: c, 0, q => rfl
  | a :: c, n + 1, q => by
    have := takeF_eq c n fun l => q (a :: l)
    simp only [List.length_cons, Nat.add_le_add_iff_right, List.take_succ_cons]
    exact this
def lenLF (l : List Value) : Nat := List.rec (motive := fun _ => Nat) Nat.zero (fun _ _ ih => Nat.succ ih) l
theorem lenLF_eq : ∀ l : List Value, lenLF l = l.length
  | [] => rfl
  | a :: l => by
    have := lenLF_eq l
    show Nat.succ (lenLF l) = _
    rw [this]; rfl
def dropL (c : List Value) (n : Nat) : List Value :=
  Nat.rec (motive := fun _ => List Value → List Value) (fun c => c) (fun _ ih c => List.rec (motive := fun _ => List Value) [] (fun _ c' _ => ih c') c) n c
theorem dropL_eq : ∀ (c : List Value) (i : Nat), dropL c i = c.drop i
  | c, 0 => rfl
  | [], i + 1 => rfl
  | a :: c, i + 1 => by
    rw [List.drop_succ_cons]
    exact dropL_eq c i
def takeL (c : List Value) : Nat → List Value :=
  List.rec (motive := fun _ => Nat → List Value) (fun _ => []) (fun a _ ih i => Nat.rec (motive := fun _ => List Value) [] (fun i' _ => a :: ih i') i) c
theorem takeL_eq : ∀ (c : List Value) (i : Nat), takeL c i = c.take i
  | [], i => by simp; rfl
  | a :: c, 0 => rfl
  | a :: c, i + 1 => by
    rw [List.take_succ_cons, ← takeL_eq c i]
    rfl
def subL (c : List Value) (off n : Nat) : List Value := takeL (dropL c off) n
theorem subL_eq (c : List Value) (off n : Nat) : subL c off n = (c.drop off).take n := by rw [subL, takeL_eq, dropL_eq]
def subF (c : List Value) (off n : Nat) (q : List Value → Option α) : Option α := Bool.rec (motive := fun _ => Option α) none (q (subL c off n)) (Nat.ble (Nat.add off n) (lenLF c))
theorem subF_eq (n : Nat) (q : List Value → Option α) (c : List Value) (off : Nat) : subF c off n q = if off + n ≤ c.length then q ((c.drop off).take n) else none := by
  unfold subF
  rw [lenLF_eq, subL_eq]
  show Bool.rec (motive := fun _ => Option α) none _ (Nat.ble (off + n) c.length) = _
  by_cases h : off + n ≤ c.length
  · rw [if_pos h, Nat.ble_eq_true_of_le h]
  · rw [if_neg h, show Nat.ble (off + n) c.length = false from Bool.eq_false_iff.2 fun g => h (Nat.le_of_ble_eq_true g)]
def overF (vs : List Value) : List Value → (List Value → Option α) → Option α :=
  List.rec (motive := fun _ => List Value → (List Value → Option α) → Option α) (fun c q => q c)
    (fun v _ ih c q => List.rec (motive := fun _ => Option α) none (fun _ c' _ => Bool.rec (motive := fun _ => Option α) none (ih c' fun r => q (v :: r)) (oneF v)) c) vs
theorem overF_eq : ∀ (vs c : List Value) (q : List Value → Option α), overF vs c q = if vs.length ≤ c.length ∧ vs.all one = true then q (vs ++ c.drop vs.length) else none
  | [], c, q => by simp; rfl
  | v :: vs, [], q => by simp; rfl
  | v :: vs, a :: c, q => by
    have ih := overF_eq vs c fun r => q (v :: r)
    show Bool.rec (motive := fun _ => Option α) none (overF vs c fun r => q (v :: r)) (oneF v) = _
    rw [ih, oneF_eq]
    cases h : one v <;> simp [h]
def spliceF (c : List Value) : Nat → List Value → (List Value → Option α) → Option α :=
  List.rec (motive := fun _ => Nat → List Value → (List Value → Option α) → Option α) (fun off vs q => Nat.rec (motive := fun _ => Option α) (overF vs [] q) (fun _ _ => none) off)
    (fun a c ih off vs q => Nat.rec (motive := fun _ => Option α) (overF vs (a :: c) q) (fun off' _ => ih off' vs fun r => q (a :: r)) off) c
theorem spliceF_eq (vs : List Value) : ∀ (c : List Value) (off : Nat) (q : List Value → Option α), spliceF c off vs q = if off + vs.length ≤ c.length then (if vs.all one = true then q (splice c off vs) else none) else none
  | [], 0, q => by
    have := overF_eq vs [] q
    simp only [splice, Nat.zero_add, List.take_zero, List.nil_append]
    refine Eq.trans this ?_
    by_cases h1 : vs.length ≤ ([] : List Value).length <;> by_cases h2 : vs.all one = true <;> simp only [h1, h2, and_true, and_false, if_true, if_false, true_and, false_and]
  | [], off + 1, q => by rw [if_neg (by simp)]; rfl
  | a :: c, 0, q => by
    have := overF_eq vs (a :: c) q
    simp only [splice, Nat.zero_add, List.take_zero, List.nil_append]
    refine Eq.trans this ?_
    by_cases h1 : vs.length ≤ (a :: c).length <;> by_cases h2 : vs.all one = true <;> simp only [h1, h2, and_true, and_false, if_true, if_false, true_and, false_and]
  | a :: c, off + 1, q => by
    have ih := spliceF_eq vs c off fun r => q (a :: r)
    have e : (off + 1 + vs.length ≤ (a :: c).length) = (off + vs.length ≤ c.length) := by simp; omega
    have e2 : splice (a :: c) (off + 1) vs = a :: splice c off vs := by
      have : off + 1 + vs.length = (off + vs.length) + 1 := by omega
      simp [splice, this]
    simp only [e, e2]
    exact ih
def appF (a : List Value) : List Value → (List Value → Option α) → Option α :=
  List.rec (motive := fun _ => List Value → (List Value → Option α) → Option α) (fun b q => q b) (fun x _ ih b q => ih b fun r => q (x :: r)) a
theorem appF_eq : ∀ (a b : List Value) (q : List Value → Option α), appF a b q = q (a ++ b)
  | [], b, q => rfl
  | x :: a, b, q => appF_eq a b fun r => q (x :: r)
/-! ### operands -/
def evF (x : Operand) : Nat → Tmps → (Value → Option α) → Option α :=
  Operand.rec (motive := fun _ => Nat → Tmps → (Value → Option α) → Option α) (fun d _ t q => getTF t d q) (fun v _ _ q => Bool.rec (motive := fun _ => Option α) none (q v) (constV v))
    (fun g G _ q => Bool.rec (motive := fun _ => Option α) none (q (.pointer (some ⟨g, 0, none⟩))) (Nat.blt g G)) (fun f _ _ q => q (.func (.func f) #[] #[])) x
theorem evF_eq (x : Operand) (G : Nat) (t : Tmps) (q : Value → Option α) : evF x G t q = ob (ev G t x) q := by
  cases x with
  | tmp d => exact getTF_eq t d q
  | const v =>
    show Bool.rec (motive := fun _ => Option α) none (q v) (constV v) = _
    simp only [ev]
    cases constV v <;> rfl
  | global g =>
    show Bool.rec (motive := fun _ => Option α) none (q (.pointer (some ⟨g, 0, none⟩))) (Nat.blt g G) = _
    simp only [ev]
    by_cases h : g < G
    · have : Nat.blt g G = true := by simpa [Nat.blt_eq] using h
      rw [this, if_pos h]; rfl
    · have : Nat.blt g G = false := by
        cases hb : Nat.blt g G with
        | false => rfl
        | true => exact absurd (by simpa [Nat.blt_eq] using hb) h
      rw [this, if_neg h]; rfl
  | func f => rfl
def evsF (l : List Operand) : Nat → Tmps → (List Value → Option α) → Option α :=
  List.rec (motive := fun _ => Nat → Tmps → (List Value → Option α) → Option α) (fun _ _ q => q []) (fun x _ ih G t q => evF x G t fun v => ih G t fun vs => q (v :: vs)) l
theorem evsF_eq (G : Nat) (t : Tmps) : ∀ (l : List Operand) (q : List Value → Option α), evsF l G t q = ob (evs G t l) q
  | [], q => rfl
  | x :: l, q => by
    have ih := evsF_eq G t l
    show (evF x G t fun v => evsF l G t fun vs => q (v :: vs)) = _
    rw [evF_eq]
    simp only [evs]
    cases ev G t x with
    | none => rfl
    | some v =>
      simp only [ob_some, ih]
      cases evs G t l <;> rfl
end
end Go.DI.Y
