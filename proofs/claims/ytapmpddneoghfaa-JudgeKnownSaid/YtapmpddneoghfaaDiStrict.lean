/-
  DiStrict: the same interpreter, told so that the kernel works everything out at once ('callS'); it is the same function (callS_eq).
-/
import Derived.Test.YtapmpddneoghfaaDiDraw4
namespace Go.DI
section
variable {α : Type}

def fNat (n : Nat) (k : Nat → α) : α := match n with | 0 => k 0 | m + 1 => k (Nat.succ m)
theorem fNat_eq (n : Nat) (k : Nat → α) : fNat n k = k n := by cases n <;> rfl

def fInt (n : Int) (k : Int → α) : α := match n with | .ofNat m => fNat m fun m => k (.ofNat m) | .negSucc m => fNat m fun m => k (.negSucc m)
theorem fInt_eq (n : Int) (k : Int → α) : fInt n k = k n := by cases n <;> simp [fInt, fNat_eq]

def fL (f : Value → (Value → α) → α) : List Value → (List Value → α) → α
  | [], k => k []
  | x :: l, k => f x fun x => fL f l fun l => k (x :: l)
theorem fL_eq {f : Value → (Value → α) → α} (hf : ∀ v k, f v k = k v) : ∀ (l : List Value) (k : List Value → α), fL f l k = k l
  | [], k => rfl
  | x :: l, k => by simp only [fL, hf, fL_eq hf l]

def fSp : List Value → (List Value → α) → α := fL fun v k => k v
theorem fSp_eq (l : List Value) (k : List Value → α) : fSp l k = k l := fL_eq (fun _ _ => rfl) l k

def fA (a : Option Addr) (k : Option Addr → α) : α :=
  match a with
  | none => k none
  | some ⟨b, o, none⟩ => fNat b fun b => fNat o fun o => k (some ⟨b, o, none⟩)
  | some ⟨b, o, some e⟩ => fNat b fun b => fNat o fun o => fNat e fun e => k (some ⟨b, o, some e⟩)
theorem fA_eq (a : Option Addr) (k : Option Addr → α) : fA a k = k a := by
  unfold fA
  split <;> simp [fNat_eq]

def fV : Nat → Value → (Value → α) → α
  | 0, v, k => k v
  | d + 1, v, k =>
    match v with
    | .bool b => (match b with | true => k (.bool true) | false => k (.bool false))
    | .int q n => fInt n fun n => k (.int q n)
    | .pointer a => fA a fun a => k (.pointer a)
    | .slice a n c => fA a fun a => fNat n fun n => fNat c fun c => k (.slice a n c)
    | .map (some r) => fNat r fun r => k (.map (some r))
    | .agg ⟨l⟩ => fL (fV d) l fun l => k (.agg ⟨l⟩)
    | .tuple ⟨l⟩ => fL (fV d) l fun l => k (.tuple ⟨l⟩)
    | .func f ⟨a⟩ ⟨b⟩ => fL (fV d) a fun a => fL (fV d) b fun b => k (.func f ⟨a⟩ ⟨b⟩)
    | v => k v
theorem fV_eq : ∀ (d : Nat) (v : Value) (k : Value → α), fV d v k = k v
  | 0, v, k => rfl
  | d + 1, v, k => by
    have ih := fun v k => fV_eq d v k
    unfold fV
    split <;> (try simp only [fInt_eq, fA_eq, fNat_eq, fL_eq ih])
    split <;> rfl

def fE : List MapEntry → (List MapEntry → α) → α
  | [], k => k []
  | ⟨key, val, born⟩ :: l, k => fV 6 key fun key => fV 6 val fun val => fE l fun l => k (⟨key, val, born⟩ :: l)
theorem fE_eq : ∀ (l : List MapEntry) (k : List MapEntry → α), fE l k = k l
  | [], k => rfl
  | ⟨key, val, born⟩ :: l, k => by simp only [fE, fV_eq, fE_eq l]

def fB (x : Blk) (k : Blk → α) : α :=
  match x with
  | .cells o c => fL (fV 6) c fun c => k (.cells o c)
  | .map o es c => fE es fun es => fNat c fun c => k (.map o es c)
  | x => k x
theorem fB_eq (x : Blk) (k : Blk → α) : fB x k = k x := by
  unfold fB
  split <;> simp only [fL_eq (fV_eq 6), fE_eq, fNat_eq]

def Tr.putK {β : Type} (d : Nat) (t : Tr β) (p key : Nat) (v : β) (k : Tr β → α) : α := k (Tr.put t d p key v)
theorem Tr.putK_eq {β : Type} (d : Nat) (t : Tr β) (p key : Nat) (v : β) (k : Tr β → α) : Tr.putK d t p key v k = k (Tr.put t d p key v) := rfl

def setT (t : Tmps) (d : Nat) (v : Value) (k : Tmps → α) : α := Tr.putK 6 t d d v k
theorem setT_eq (t : Tmps) (d : Nat) (v : Value) (k : Tmps → α) : setT t d v k = k (t.set d v) := Tr.putK_eq _ _ _ _ _ _

def setM (m : Mem) (b : Nat) (x : Blk) (k : Mem → α) : α := match m with | ⟨base, tr, size⟩ => Tr.putK 10 tr b b x fun tr => k ⟨base, tr, size⟩
theorem setM_eq (m : Mem) (b : Nat) (x : Blk) (k : Mem → α) : setM m b x k = k (m.set b x) := by simp only [setM, Tr.putK_eq]; rfl

def pushM (m : Mem) (x : Blk) (k : Mem → α) : α := match m with | ⟨base, tr, size⟩ => Tr.putK 10 tr size size x fun tr => fNat (size + 1) fun s => k ⟨base, tr, s⟩
theorem pushM_eq (m : Mem) (x : Blk) (k : Mem → α) : pushM m x k = k (m.push x) := by simp only [pushM, Tr.putK_eq, fNat_eq]; rfl

def putS (t : Tmps) (dst : Option Tmp) (v : Value) (k : Tmps → α) : α := match dst with | none => k t | some d => setT t d v k
theorem putS_eq (t : Tmps) (dst : Option Tmp) (v : Value) (k : Tmps → α) : putS t dst v k = k (putD t dst v) := by
  cases dst <;> simp only [putS, putD, setT_eq]

def initS : Nat → List Value → (Tmps → α) → α
  | _, [], k => k .nil
  | i, v :: l, k => initS (i + 1) l fun t => setT t i v k
theorem initS_eq : ∀ (l : List Value) (i : Nat) (k : Tmps → α), initS i l k = k (initT i l)
  | [], _, _ => rfl
  | v :: l, i, k => by simp only [initS, initT, initS_eq l, setT_eq]

/-- What is done with an answer. -/
def onV (r : Option (Value × Mem)) (k : Value → Mem → Option α) : Option α := match r with | some (v, m) => k v m | none => none
def onM (r : Option Mem) (k : Mem → Option α) : Option α := match r with | some m => k m | none => none

theorem onV_ite {c : Prop} [Decidable c] (a : Option (Value × Mem)) (k : Value → Mem → Option α) : onV (if c then a else none) k = if c then onV a k else none := by split <;> rfl
theorem onM_ite {c : Prop} [Decidable c] (a : Option Mem) (k : Mem → Option α) : onM (if c then a else none) k = if c then onM a k else none := by split <;> rfl
theorem ite_same {c : Prop} [Decidable c] {a b x : Option α} (h : c → a = b) : (if c then a else x) = (if c then b else x) := by
  split
  · exact h ‹_›
  · rfl

def storeCS (m : Mem) (b off : Nat) (vs : List Value) (k : Mem → Option α) : Option α :=
  match m.get b with
  | .cells true c => if off + vs.length ≤ c.length then (if vs.all one then fB (.cells true (splice c off vs)) fun x => setM m b x k else none) else none
  | _ => none
theorem storeCS_eq (m : Mem) (b off : Nat) (vs : List Value) (k : Mem → Option α) : storeCS m b off vs k = onM (storeC m b off vs) k := by
  unfold storeCS storeC
  cases m.get b with
  | none => rfl
  | map => rfl
  | siter => rfl
  | cells o c =>
    cases o with
    | false => rfl
    | true =>
      simp only
      by_cases h1 : off + vs.length ≤ c.length
      · by_cases h2 : vs.all one = true
        · simp only [h1, h2, if_true, fB_eq, setM_eq, onM]
        · simp only [h1, h2, if_true, if_false, onM]; rfl
      · simp only [h1, if_false, onM]

section
variable (P : Program) (K : TypeId → Bool) (G : Nat)

def storeDS (m : Mem) (t : TypeId) (x : Value) (k : Mem → Option α) : Value → Option α
  | .pointer (some ⟨b, off, none⟩) =>
    match szOf P t with
    | some n => if x.cells.toList.length = n then storeCS m b off x.cells.toList k else none
    | none => none
  | _ => none
theorem storeDS_eq (m : Mem) (t : TypeId) (x : Value) (k : Mem → Option α) (a : Value) : storeDS P m t x k a = onM (storeD P m t x a) k := by
  unfold storeDS storeD
  cases a <;> try rfl
  rename_i ad
  cases ad with
  | none => rfl
  | some ad =>
    obtain ⟨b, off, sp⟩ := ad
    cases sp with
    | some e => rfl
    | none =>
      simp only
      cases szOf P t with
      | none => rfl
      | some n =>
        simp only
        by_cases h : x.cells.toList.length = n
        · simp only [h, if_true]; exact storeCS_eq _ _ _ _ _
        · simp only [h, if_false]; rfl

def mapUpdateS (m : Mem) (t : TypeId) (x k v : Value) (q : Mem → Option α) : Option α :=
  match P.underlying t with
  | some (.map kt _) => match x with
    | .map (some r) => match m.get r with
      | .map true es clock => if keyOk P 100 kt k = true then
          (match findD P K kt k es 0 with
          | some (some (i, _)) => match es[i]? with
            | some e => if Instr.sameBits 10000 e.key k = true then fB (.map true (modE i k v es) clock) fun x => setM m r x q else none
            | none => none
          | some none => fB (.map true (es ++ [{ key := k, val := v, born := clock }]) (clock + 1)) fun x => setM m r x q
          | none => none) else none
      | _ => none
    | _ => none
  | _ => none
theorem mapUpdateS_eq (m : Mem) (t : TypeId) (x k v : Value) (q : Mem → Option α) : mapUpdateS P K m t x k v q = onM (mapUpdateD P K m t x k v) q := by
  unfold mapUpdateS mapUpdateD
  cases P.underlying t with
  | none => rfl
  | some d =>
    cases d <;> try rfl
    cases x <;> try rfl
    rename_i r
    cases r with
    | none => rfl
    | some r =>
      simp only
      cases m.get r with
      | none => rfl
      | cells => rfl
      | siter => rfl
      | map o es clock =>
        cases o with
        | false => rfl
        | true =>
          simp only
          rw [onM_ite]
          refine ite_same fun hk => ?_
          cases findD P K _ k es 0 with
          | none => rfl
          | some r =>
              cases r with
              | none => simp only [fB_eq, setM_eq, onM]
              | some p =>
                obtain ⟨i, u⟩ := p
                simp only
                cases es[i]? with
                | none => rfl
                | some e =>
                  simp only
                  by_cases hs : Instr.sameBits 10000 e.key k = true
                  · simp only [hs, if_true, fB_eq, setM_eq, onM]
                  · simp only [hs, if_false]; rfl

def appendS (m : Mem) (tS tX : TypeId) (s x : Value) (k : Value → Mem → Option α) : Option α :=
  match P.underlying tS, P.underlying tX with
  | _, some (.int _) | _, none => none
  | some (.slice e), some _ => match s, szOf P e, bytesOf P e, lenOf x with
    | .slice base sLen sCap, some size, some bytes, some n =>
      if size = 0 then none else
      match firstC m size n x with
      | some new =>
        if sLen + n ≤ sCap then
          (match base with
          | none => if n = 0 then k (.slice none (sLen + n) sCap) m else none
          | some ⟨b, off, sp⟩ => if n = 0 then k (.slice (some ⟨b, off, sp⟩) (sLen + n) sCap) m else
            storeCS m b (off + sLen * size) new fun m' => fNat (sLen + n) fun q => k (.slice (some ⟨b, off, sp⟩) q sCap) m')
        else if (sLen + n) * bytes ≤ 140737488355328 ∧ (sLen + n : Nat) ≤ 4611686018427387904 ∧ 0 < bytes ∧ (zerosD P e 1).isSome = true then
          match firstC m size sLen s with
          | some old =>
            if (new.all one && old.all one) = true ∧ old.length = sLen * size ∧ new.length = n * size then
            (match base with
            | some ⟨b, _, some e'⟩ => if e' = size then
                (match m.get b with
                | .cells true _ => fB (.cells true (old ++ new)) fun x => fNat m.size fun z => fNat (sLen + n) fun q => pushM m x fun m' => setM m' b .none fun m' => k (.slice (some ⟨z, 0, some size⟩) q q) m'
                | _ => none)
              else none
            | _ => fB (.cells true (old ++ new)) fun x => fNat m.size fun z => fNat (sLen + n) fun q => pushM m x fun m' => k (.slice (some ⟨z, 0, some size⟩) q q) m') else none
          | none => none
        else none
      | none => none
    | _, _, _, _ => none
  | _, _ => none
theorem appendS_eq (m : Mem) (tS tX : TypeId) (s x : Value) (k : Value → Mem → Option α) : appendS P m tS tX s x k = onV (appendD P m tS tX s x) k := by
  unfold appendS appendD
  cases P.underlying tX with
  | none => cases P.underlying tS <;> rfl
  | some dX =>
    cases P.underlying tS with
    | none => cases dX <;> rfl
    | some dS =>
      cases dS <;> cases dX <;> try rfl
      all_goals
        simp only
        cases s <;> try rfl
        cases szOf P _ <;> try rfl
        cases bytesOf P _ <;> try rfl
        cases lenOf x <;> try rfl
        simp only
        rename_i base sLen sCap size bytes n
        by_cases h0 : size = 0
        · simp only [h0, if_true]; rfl
        · simp only [h0, if_false]
          cases firstC m size n x with
          | none => rfl
          | some new =>
            simp only
            by_cases h1 : sLen + n ≤ sCap
            · simp only [h1, if_true]
              cases base with
              | none => by_cases h2 : n = 0 <;> simp only [h2, if_true, if_false] <;> rfl
              | some ad =>
                obtain ⟨b, off, sp⟩ := ad
                simp only
                by_cases h2 : n = 0
                · simp only [h2, if_true]; rfl
                · simp only [h2, if_false, storeCS_eq]
                  cases storeC m b (off + sLen * size) new <;> simp only [onM, onV, fNat_eq]
            · simp only [h1, if_false]
              rw [onV_ite]
              refine ite_same fun h2 => ?_
              cases firstC m size sLen _ with
              | none => rfl
              | some old =>
                  simp only
                  by_cases h3 : (new.all one && old.all one) = true ∧ old.length = sLen * size ∧ new.length = n * size
                  · rw [if_pos h3, if_pos h3]
                    cases base with
                    | none => simp only [fB_eq, pushM_eq, fNat_eq, onV]
                    | some ad =>
                      obtain ⟨b, off, sp⟩ := ad
                      cases sp with
                      | none => simp only [fB_eq, pushM_eq, fNat_eq, onV]
                      | some e' =>
                        simp only
                        by_cases h4 : e' = size
                        · simp only [h4, if_true]
                          cases m.get b with
                          | none => rfl
                          | map => rfl
                          | siter => rfl
                          | cells o c => cases o with
                            | false => rfl
                            | true => simp only [fB_eq, pushM_eq, setM_eq, fNat_eq, onV]
                        · simp only [h4, if_false]; rfl
                  · rw [if_neg h3, if_neg h3]; rfl

def heavyS (cf : FuncId → List Value → Mem → Option (Value × Mem)) (t : Tmps) (m : Mem) (o : Op) (q : Value → Mem → Option α) : Option α :=
  match o with
  | .store ty a x => match ev G t a, ev G t x with
    | some a, some v => storeDS P m ty v (fun m' => q undef m') a
    | _, _ => none
  | .mapUpdate ty x k v => match ev G t x, ev G t k, ev G t v with
    | some x, some k, some v => mapUpdateS P K m ty x k v fun m' => q undef m'
    | _, _, _ => none
  | .insert ty x k v => match ev G t x, ev G t k, ev G t v with
    | some x, some k, some v => mapUpdateS P K m ty x k v fun m' => q undef m'
    | _, _, _ => none
  | .call { callee := .builtin .append, args, argTypes } => match args.toList, argTypes.toList with
    | [s, x], [tS, tX] => match ev G t s, ev G t x with
      | some s, some x => appendS P m tS tX s x q
      | _, _ => none
    | _, _ => none
  | .call { callee := .value f, args, argTypes := _ } => match ev G t f, evs G t args.toList with
    | some (.func (.func g) first captured), some vs => fSp (first.toList ++ (vs ++ captured.toList)) fun l => onV (cf g l m) q
    | _, _ => none
  | o => onV (heavyD P K G cf t m o) fun v m' => fV 6 v fun v => q v m'
theorem heavyS_eq (cf : FuncId → List Value → Mem → Option (Value × Mem)) (t : Tmps) (m : Mem) (o : Op) (q : Value → Mem → Option α) : heavyS P K G cf t m o q = onV (heavyD P K G cf t m o) q := by
  have hfv : ∀ r : Option (Value × Mem), (onV r fun v m' => fV 6 v fun v => q v m') = onV r q := by
    intro r; cases r with
    | none => rfl
    | some r => simp only [onV, fV_eq]
  cases o <;> try (unfold heavyS; exact hfv _)
  case store ty a x =>
    simp only [heavyS, heavyD]
    cases ev G t a with
    | none => rfl
    | some a =>
      cases ev G t x with
      | none => rfl
      | some v =>
        simp only [storeDS_eq]
        cases storeD P m ty v a <;> rfl
  case mapUpdate ty x k y =>
    simp only [heavyS, heavyD]
    cases ev G t x with
    | none => rfl
    | some x =>
      cases ev G t k with
      | none => rfl
      | some k =>
        cases ev G t y with
        | none => rfl
        | some y =>
          simp only [mapUpdateS_eq]
          cases mapUpdateD P K m ty x k y <;> rfl
  case insert ty x k y =>
    simp only [heavyS, heavyD]
    cases ev G t x with
    | none => rfl
    | some x =>
      cases ev G t k with
      | none => rfl
      | some k =>
        cases ev G t y with
        | none => rfl
        | some y =>
          simp only [mapUpdateS_eq]
          cases mapUpdateD P K m ty x k y <;> rfl
  case call c =>
    obtain ⟨callee, args, tys⟩ := c
    cases callee with
    | invoke r s => unfold heavyS; exact hfv _
    | builtin b =>
      cases b <;> try (unfold heavyS; exact hfv _)
      simp only [heavyS, heavyD]
      cases args.toList with
      | nil => rfl
      | cons s l =>
        cases l with
        | nil => rfl
        | cons x l =>
          cases l with
          | cons y l => rfl
          | nil =>
            cases tys.toList with
            | nil => rfl
            | cons a l => cases l with
              | nil => rfl
              | cons b l => cases l with
                | cons c l => rfl
                | nil =>
                  simp only
                  cases ev G t s with
                  | none => rfl
                  | some s =>
                    cases ev G t x with
                    | none => rfl
                    | some x => exact appendS_eq P m a b s x q
    | value f =>
      simp only [heavyS, heavyD]
      cases ev G t f with
      | none => rfl
      | some v =>
        cases v <;> try rfl
        rename_i fn first captured
        cases fn <;> try rfl
        cases evs G t args.toList with
        | none => rfl
        | some vs => simp only [fSp_eq]

def opS (cf : FuncId → List Value → Mem → Option (Value × Mem)) (t : Tmps) (m : Mem) (o : Op) (q : Value → Mem → Option α) : Option α :=
  match klass o with
  | 0 => match quietD P K G t m o with | some v => fV 6 v fun v => q v m | none => none
  | 1 => match allocD P G t o with | some (x, k) => fB x fun x => fNat m.size fun z => pushM m x fun m' => fV 6 (k.val z) fun v => q v m' | none => none
  | _ => heavyS P K G cf t m o q
theorem opS_eq (cf : FuncId → List Value → Mem → Option (Value × Mem)) (t : Tmps) (m : Mem) (o : Op) (q : Value → Mem → Option α) : opS P K G cf t m o q = onV (opD P K G cf t m o) q := by
  unfold opS opD
  rcases klass_cases o with h | h | h
  · simp only [h]
    cases quietD P K G t m o with
    | none => rfl
    | some v => simp only [fV_eq, onV]
  · simp only [h]
    cases allocD P G t o with
    | none => rfl
    | some x => obtain ⟨x, k⟩ := x; simp only [fB_eq, fNat_eq, pushM_eq, fV_eq, onV]
  · simp only [h]
    exact heavyS_eq P K G cf t m o q

def opsS (cf : FuncId → List Value → Mem → Option (Value × Mem)) (n : Nat) (ops : List Oper) : List Oper → Tmps → Mem → Option (Tmps × Mem)
  | [], t, m => some (t, m)
  | o :: l, t, m => if dstOk n o.dst = true then
      (if Region.wanted o (yieldD ops t) = true then opS P K G cf t m o.op fun v m' => putS t o.dst v fun t' => opsS cf n ops l t' m'
      else putS t o.dst undef fun t' => opsS cf n ops l t' m) else none
theorem opsS_eq (cf : FuncId → List Value → Mem → Option (Value × Mem)) (n : Nat) (ops : List Oper) : ∀ (l : List Oper) (t : Tmps) (m : Mem), opsS P K G cf n ops l t m = opsD P K G cf n ops l t m
  | [], t, m => rfl
  | o :: l, t, m => by
    simp only [opsS, opsD, opS_eq, putS_eq]
    split
    · split
      · cases opD P K G cf t m o.op with
        | none => rfl
        | some r => obtain ⟨v, m'⟩ := r; simp only [onV]; exact opsS_eq cf n ops l _ _
      · exact opsS_eq cf n ops l _ _
    · rfl

def recS (cf : FuncId → List Value → Mem → Option (Value × Mem)) (n : Nat) (ops : List Oper) : List Oper → Tmps → Mem → Option (List Rec × Tmps × Mem)
  | [], t, m => some ([], t, m)
  | o :: l, t, m => if dstOk n o.dst = true then
      (if Region.wanted o (yieldD ops t) = true then opS P K G cf t m o.op fun v m' => putS t o.dst v fun t₁ => (match recS cf n ops l t₁ m' with
          | some (rs, t', m'') => some (⟨true, v, t, m⟩ :: rs, t', m'')
          | none => none)
      else putS t o.dst undef fun t₁ => match recS cf n ops l t₁ m with
        | some (rs, t', m'') => some (⟨false, undef, t, m⟩ :: rs, t', m'')
        | none => none) else none
theorem recS_eq (cf : FuncId → List Value → Mem → Option (Value × Mem)) (n : Nat) (ops : List Oper) : ∀ (l : List Oper) (t : Tmps) (m : Mem), recS P K G cf n ops l t m = recD P K G cf n ops l t m
  | [], t, m => rfl
  | o :: l, t, m => by
    simp only [recS, recD, opS_eq, putS_eq, recS_eq cf n ops l]
    split
    · split
      · cases opD P K G cf t m o.op with
        | none => rfl
        | some r => obtain ⟨v, m'⟩ := r; rfl
      · rfl
    · rfl

/-! the tables of a drawing region, worked out once -/
def drawS (cf : FuncId → List Value → Mem → Option (Value × Mem)) (n : Nat) (ops : List Oper) (t : Tmps) (m : Mem) : Option (Tmps × Mem) :=
  match statB ops (tabD ops []) with
  | true => match recS P K G cf n ops ops t m with
    | some (rs, t', m') => (match (need1 ops (tabD ops [])).all (chk1 P K G ops rs m') with
      | true => (match (need2 ops (tabD ops [])).all (chk2 rs m') with
        | true => some (t', m')
        | false => none)
      | false => none)
    | none => none
  | false => none
theorem drawS_eq (cf : FuncId → List Value → Mem → Option (Value × Mem)) (n : Nat) (ops : List Oper) (t : Tmps) (m : Mem) : drawS P K G cf n ops t m = drawD P K G cf n ops t m := by
  unfold drawS drawD
  rw [recS_eq]
  cases statB ops (tabD ops []) with
  | false => rfl
  | true =>
    simp only [if_true]
    cases recD P K G cf n ops ops t m with
    | none => rfl
    | some r =>
      obtain ⟨rs, t', m'⟩ := r
      simp only
      cases (need1 ops (tabD ops [])).all (chk1 P K G ops rs m') with
      | false => rfl
      | true =>
        cases (need2 ops (tabD ops [])).all (chk2 rs m') <;> rfl

def codeS (cf : FuncId → List Value → Mem → Option (Value × Mem)) (n k : Nat) : Code → Tmps → Mem → Option (Ex × Tmps × Mem)
  | .skip, t, m => some (.normal, t, m)
  | .label _, t, m => some (.normal, t, m)
  | .region _ ops draw, t, m => match (match draw with | true => drawS P K G cf n ops.toList t m | false => opsS P K G cf n ops.toList ops.toList t m) with
    | some (t', m') => some (.normal, t', m')
    | none => none
  | .seq a b, t, m => match codeS cf n k a t m with
    | some (.normal, t', m') => codeS cf n k b t' m'
    | r => r
  | .cond c x y, t, m => match ev G t c with
    | some (.bool true) => codeS cf n k x t m
    | some (.bool false) => codeS cf n k y t m
    | _ => none
  | .block id c, t, m => match codeS cf n k c t m with
    | some (.exit id', t', m') => if id' = id then some (.normal, t', m') else some (.exit id', t', m')
    | r => r
  | .loop c, t, m => loopD (codeS cf n k c) k t m
  | .exit id, t, m => some (.exit id, t, m)
  | .ret, t, m => some (.ret, t, m)
  | _, _, _ => none
theorem codeS_eq (cf : FuncId → List Value → Mem → Option (Value × Mem)) (n k : Nat) : ∀ (c : Code), codeS P K G cf n k c = codeD P K G cf (drawD P K G cf n) n k c := by
  intro c
  induction c with
  | skip => rfl
  | label l => rfl
  | region id ops draw =>
    funext t m
    simp only [codeS, codeD]
    cases draw <;> simp only [opsS_eq, drawS_eq, cond_true, cond_false] <;> rfl
  | seq a b iha ihb => funext t m; simp only [codeS, codeD, iha, ihb]; rfl
  | cond c x y ihx ihy => funext t m; simp only [codeS, codeD, ihx, ihy]; rfl
  | block id c ih => funext t m; simp only [codeS, codeD, ih]; rfl
  | loop c ih => funext t m; simp only [codeS, codeD, ih]
  | exit id => rfl
  | ret => rfl
  | rangeFunc => rfl
  | scope => rfl
  | goto => rfl
  | refuse => rfl

def endS (m : Mem) : Option (List Value) → Option (Value × Mem)
  | some vs => fV 6 (resV vs) fun v => some (v, m)
  | none => none

def callS : Nat → FuncId → List Value → Mem → Option (Value × Mem)
  | 0, _, _, _ => none
  | k + 1, f, args, m => match P.funcs[f]? with
    | some fn => match fn.body with
      | some c => initS 0 args fun t => match codeS P K G (callS k) (max args.length fn.ntmps) k c t m with
        | some (.normal, t', m') => endS m' (resD P t' m' fn.results.toList)
        | some (.ret, t', m') => endS m' (resD P t' m' fn.results.toList)
        | _ => none
      | none => none
    | none => none
theorem callS_eq : ∀ (k : Nat), callS P K G k = callD P K G k
  | 0 => rfl
  | k + 1 => by
    funext f args m
    simp only [callS, callD, initS_eq, callS_eq k, codeS_eq]
    have he : ∀ (m : Mem) (r : Option (List Value)), endS m r = (match r with | some vs => some (resV vs, m) | none => none) := by
      intro m r; cases r <;> simp [endS, fV_eq]
    simp only [he]
    rfl
end
end
end Go.DI
