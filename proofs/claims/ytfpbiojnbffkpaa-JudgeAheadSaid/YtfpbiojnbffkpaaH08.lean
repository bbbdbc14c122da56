/-
  (by symify.py, out of DiFast2: any answer type, nothing forced.) DiFast2: operations, quickly.
-/
import Derived.Test.YtfpbiojnbffkpaaH07
import Derived.Test.YtfpbiojnbffkpaaH05
set_option linter.all false
set_option linter.unusedVariables false
set_option linter.unusedSimpArgs false
namespace Go.DI.Y
noncomputable section
variable {α : Type}
theorem beqN (a b : Nat) : Nat.beq a b = decide (a = b) := by
  rw [Bool.eq_iff_iff]; simp [Nat.beq_eq]
/-! ### numbers -/
def frcI (n : Int) (q : Int → Option α) : Option α := q n
theorem frcI_eq (n : Int) (q : Int → Option α) : frcI n q = q n := rfl
def kNo (k : IntKind) : Nat := IntKind.rec (motive := fun _ => Nat) 0 1 2 3 4 5 6 7 k
def kEq (k k' : IntKind) : Bool := Nat.beq (kNo k) (kNo k')
theorem kEq_eq (k k' : IntKind) : kEq k k' = decide (k = k') := by cases k <;> cases k' <;> rfl
def wrapF (k : IntKind) (n : Int) (q : Int → Option α) : Option α := q (k.wrap n)
theorem wrapF_eq (k : IntKind) (n : Int) (q : Int → Option α) : wrapF k n q = q (k.wrap n) := rfl
def blF (b : Bool) (q : Value → Option α) : Option α := Bool.rec (motive := fun _ => Option α) (q (.bool false)) (q (.bool true)) b
theorem blF_eq (b : Bool) (q : Value → Option α) : blF b q = q (.bool b) := by cases b <;> rfl
def ltF (x y : Int) : Bool := Int.rec (motive := fun _ => Bool) (fun a => Int.rec (motive := fun _ => Bool) (fun b => Nat.blt a b) (fun _ => false) y) (fun a => Int.rec (motive := fun _ => Bool) (fun _ => true) (fun b => Nat.blt b a) y) x
theorem ltF_eq (x y : Int) : ltF x y = decide (x < y) := by
  cases x <;> cases y
  · rename_i a b
    show Nat.blt a b = _
    rw [Bool.eq_iff_iff]; simp [Nat.blt_eq]
  · show false = _
    symm
    rw [decide_eq_false_iff_not]
    simp only [Int.ofNat_eq_natCast]; omega
  · show true = _
    symm
    rw [decide_eq_true_iff]
    simp only [Int.ofNat_eq_natCast]; omega
  · rename_i a b
    show Nat.blt b a = _
    rw [Bool.eq_iff_iff]
    simp only [Nat.blt_eq, decide_eq_true_eq]
    omega
def eqF (x y : Int) : Bool := Int.rec (motive := fun _ => Bool) (fun a => Int.rec (motive := fun _ => Bool) (fun b => Nat.beq a b) (fun _ => false) y) (fun a => Int.rec (motive := fun _ => Bool) (fun _ => false) (fun b => Nat.beq a b) y) x
theorem eqF_eq (x y : Int) : eqF x y = (x == y) := by
  have hb : (x == y) = decide (x = y) := by rw [Bool.eq_iff_iff]; simp
  rw [hb]
  cases x <;> cases y
  · rename_i a b
    show Nat.beq a b = _
    rw [beqN]; simp; omega
  · show false = _
    symm; rw [decide_eq_false_iff_not]; simp only [Int.ofNat_eq_natCast]; omega
  · show false = _
    symm; rw [decide_eq_false_iff_not]; simp only [Int.ofNat_eq_natCast]; omega
  · rename_i a b
    show Nat.beq a b = _
    rw [beqN]; simp
def binIF (op : BinOp) : IntKind → Int → Int → (Value → Option α) → Option α → Option α :=
  BinOp.rec (motive := fun _ => IntKind → Int → Int → (Value → Option α) → Option α → Option α)
    (fun k x y q _ => wrapF k (Int.add x y) fun n => q (.int k n))
    (fun k x y q _ => wrapF k (Int.sub x y) fun n => q (.int k n))
    (fun k x y q _ => wrapF k (Int.mul x y) fun n => q (.int k n))
    (fun _ _ _ _ g => g) (fun _ _ _ _ g => g) (fun _ _ _ _ g => g) (fun _ _ _ _ g => g) (fun _ _ _ _ g => g) (fun _ _ _ _ g => g) (fun _ _ _ _ g => g) (fun _ _ _ _ g => g)
    (fun _ x y q _ => blF (eqF x y) q)
    (fun _ x y q _ => blF (not (eqF x y)) q)
    (fun _ x y q _ => blF (ltF x y) q)
    (fun _ x y q _ => blF (not (ltF y x)) q)
    (fun _ x y q _ => blF (ltF y x) q)
    (fun _ x y q _ => blF (not (ltF x y)) q) op
theorem binIF_eq {op : BinOp} {k : IntKind} {x y : Int} {q : Value → Option α} {g : Option α} (hg : g = ob (cond (shiftB op) (shiftD op k x y) (binInt op k x y)) q) : binIF op k x y q g = g := by
  cases op <;> try rfl
  all_goals simp only [shiftB, cond_false, binInt, ob_some] at hg; subst hg
  · rfl
  · rfl
  · rfl
  · refine (blF_eq _ _).trans ?_; rw [eqF_eq]
  · refine (blF_eq _ _).trans ?_; rw [eqF_eq]; try rfl
  · refine (blF_eq _ _).trans ?_; rw [ltF_eq]
  · refine (blF_eq _ _).trans ?_
    rw [ltF_eq]
    congr 2
    rw [Bool.eq_iff_iff]; simp
  · refine (blF_eq _ _).trans ?_; rw [ltF_eq]; try rfl
  · refine (blF_eq _ _).trans ?_
    rw [ltF_eq]
    congr 2
    rw [Bool.eq_iff_iff]; simp
section
variable (P : Program) (K : TypeId → Bool)
def frcV (r : Option Value) (q : Value → Option α) : Option α := ob r q
theorem frcV_eq (r : Option Value) (q : Value → Option α) : frcV r q = ob r q := rfl
def bkF (op : BinOp) (ty : TypeId) (x y : Value) (q : Value → Option α) : Option α :=
  match x with
  | .agg xs => (match y with
    | .agg ys => (match K ty with
      | true => (match op with
        | .eql => Option.rec (motive := fun _ => Option α) none (fun r => blF r q) (feq P K 100 ty (.agg xs) (.agg ys))
        | .neq => Option.rec (motive := fun _ => Option α) none (fun r => blF (not r) q) (feq P K 100 ty (.agg xs) (.agg ys))
        | _ => none)
      | false => none)
    | _ => none)
  | x => ob (binD P K op ty x y) q
theorem bkF_eq (op : BinOp) (ty : TypeId) (x y : Value) (q : Value → Option α) : bkF P K op ty x y q = ob (binD P K op ty x y) q := by
  unfold bkF
  cases x <;> try rfl
  cases y <;> try rfl
  simp only [binD]
  cases K ty with
  | false => rfl
  | true =>
    cases op <;> try rfl
    all_goals
      simp only [if_true, eqD]
      cases feq P K 100 ty _ _ with
      | none => rfl
      | some r => exact blF_eq _ _
def binF (op : BinOp) (ty : TypeId) (x y : Value) (q : Value → Option α) : Option α :=
  (fun g => asInt x (fun k a => asInt y (fun k' b => Bool.rec (motive := fun _ => Option α) g (binIF op k a b q g) (kEq k k')) g) g) (bkF P K op ty x y q)
theorem binF_eq (op : BinOp) (ty : TypeId) (x y : Value) (q : Value → Option α) : binF P K op ty x y q = ob (binD P K op ty x y) q := by
  unfold binF
  rw [bkF_eq]
  cases x <;> try rfl
  rename_i k a
  cases y <;> try rfl
  rename_i k' b
  show Bool.rec (motive := fun _ => Option α) _ (binIF op k a b q _) (kEq k k') = _
  rw [kEq_eq]
  by_cases h : k = k'
  · subst h
    rw [decide_eq_true rfl]
    refine binIF_eq ?_
    simp [binD]
  · rw [decide_eq_false h]
/-! ### memory -/
def loadF (m : Mem) (ty : TypeId) (v : Value) (q : Value → Option α) : Option α :=
  asPtr v fun b off => Option.rec (motive := fun _ => Option α) none (fun agg => Bool.rec (motive := fun _ => Option α) (cellsOf (getBF m b) fun _ c => nthF c off q)
    (Option.rec (motive := fun _ => Option α) none (fun n => cellsOf (getBF m b) fun _ c => subF c off n fun l => q (.agg ⟨l⟩)) (szOf P ty)) agg) (aggB P ty)
theorem cellsOf_eq (x : Blk) (q : Bool → List Value → Option α) : cellsOf x q = match x with | .cells o c => q o c | _ => none := by cases x <;> rfl
theorem loadF_eq (m : Mem) (ty : TypeId) (v : Value) (q : Value → Option α) : loadF P m ty v q = ob (loadD P m ty v) q := by
  unfold loadF
  rw [asPtr_eq]
  unfold loadD
  cases v <;> try rfl
  rename_i a
  cases a with
  | none => rfl
  | some a =>
    obtain ⟨b, off, sp⟩ := a
    cases sp with
    | some _ => rfl
    | none =>
      simp only [getBF_eq]
      cases aggB P ty with
      | none => rfl
      | some g =>
        cases g with
        | false =>
          simp only [cellsOf_eq]
          cases m.get b <;> try rfl
          exact nthF_eq _ _ _
        | true =>
          simp only
          cases szOf P ty with
          | none => rfl
          | some n =>
            simp only [cellsOf_eq, loadC]
            cases m.get b <;> try rfl
            simp only [subF_eq]
            split <;> rfl
def allOneF (l : List Value) : Bool := List.rec (motive := fun _ => Bool) true (fun v _ ih => Bool.rec (motive := fun _ => Bool) false ih (oneF v)) l
theorem allOneF_eq : ∀ l : List Value, allOneF l = l.all one
  | [] => rfl
  | v :: l => by
    have ih := allOneF_eq l
    show Bool.rec (motive := fun _ => Bool) false (allOneF l) (oneF v) = _
    rw [ih, oneF_eq, List.all_cons]
    cases one v <;> rfl
def wholeF (c : List Value) (off n : Nat) : Bool := Bool.rec (motive := fun _ => Bool) false (Nat.beq (lenLF c) n) (Nat.beq off 0)
def putCF (m : Mem) (b : Nat) (c : List Value) (off n : Nat) (l : List Value) (q : Mem → Option α) : Option α :=
  Bool.rec (motive := fun _ => Option α) (spliceF c off l fun c' => setMF m b (.cells true c') q) (Bool.rec (motive := fun _ => Option α) none (setMF m b (.cells true l) q) (allOneF l)) (wholeF c off n)
theorem putCF_eq (m : Mem) (b : Nat) (c : List Value) (off n : Nat) (l : List Value) (hl : l.length = n) (q : Mem → Option α) : putCF m b c off n l q = spliceF c off l fun c' => setMF m b (.cells true c') q := by
  unfold putCF wholeF
  rw [lenLF_eq, allOneF_eq, beqN, beqN]
  by_cases h1 : off = 0
  · by_cases h2 : c.length = n
    · subst h1 h2
      rw [decide_eq_true rfl, decide_eq_true rfl, spliceF_eq]
      have h3 : 0 + l.length ≤ c.length := by omega
      have h4 : splice c 0 l = l := by simp [splice, List.drop_of_length_le (show c.length ≤ l.length by omega)]
      rw [if_pos h3, h4]
      cases l.all one <;> simp [setMF]
    · subst h1
      rw [decide_eq_true rfl, decide_eq_false h2]
  · rw [decide_eq_false h1]
def storeF (m : Mem) (ty : TypeId) (v a : Value) (q : Mem → Option α) : Option α :=
  asPtr a fun b off => Option.rec (motive := fun _ => Option α) none (fun n => cellsF v fun l => Bool.rec (motive := fun _ => Option α) none
    (cellsOf (getBF m b) fun o c => Bool.rec (motive := fun _ => Option α) none (putCF m b c off n l q) o) (Nat.beq (lenLF l) n)) (szOf P ty)
theorem storeF_eq (m : Mem) (ty : TypeId) (v a : Value) (q : Mem → Option α) : storeF P m ty v a q = ob (storeD P m ty v a) q := by
  unfold storeF
  rw [asPtr_eq]
  unfold storeD
  cases a <;> try rfl
  rename_i a
  cases a with
  | none => rfl
  | some a =>
    obtain ⟨b, off, sp⟩ := a
    cases sp with
    | some _ => rfl
    | none =>
      simp only [cellsF_eq, getBF_eq, cellsOf_eq, lenLF_eq]
      cases szOf P ty with
      | none => rfl
      | some n =>
        simp only [beqN]
        by_cases h : v.cells.toList.length = n
        · rw [decide_eq_true h, if_pos h]
          simp only [storeC]
          cases m.get b <;> try rfl
          rename_i o c
          cases o with
          | false => rfl
          | true =>
            simp only [putCF_eq _ _ _ _ _ _ h, spliceF_eq, setMF_eq]
            split
            · split <;> rfl
            · rfl
        · rw [decide_eq_false h, if_neg h]; rfl
def shF (ty : TypeId) (v : Value) (q : Value → Option α) : Option α :=
  match P.underlying ty with
  | some (.int k) => asInt v (fun k' n => Bool.rec (motive := fun _ => Option α) none (q (.int k n)) (kEq k k')) none
  | some .bool => asBo v (fun b => q (.bool b)) none
  | some (.struct _) => asAgg v (fun cs => q (.agg cs)) none
  | some (.array _ _) => asAgg v (fun cs => q (.agg cs)) none
  | _ => q v
theorem shF_eq (ty : TypeId) (v : Value) (q : Value → Option α) : shF P ty v q = ob (shD P ty (some v)) q := by
  unfold shF shD shp
  cases P.underlying ty with
  | none => rfl
  | some d =>
    cases d <;> try rfl
    all_goals
      simp only
      cases v <;> try rfl
      try
        rename_i k k' n
        show Bool.rec (motive := fun _ => Option α) _ _ (kEq k k') = _
        simp only [kEq_eq]
        by_cases h : k = k'
        · subst h
          simp [ob_some]
        · simp [h, ob_none]
/-! ### places -/
def foD (s : TypeId) (f : Nat) : Option Nat :=
  match P.underlying s with
  | some (.struct fields) => match fields.toList[f]? with
    | some fd => match szOf P fd.type with
      | some n => if n = 0 then none else some fd.offset
      | none => none
    | none => none
  | _ => none
def fieldAddrF (s : TypeId) (f : Nat) (v : Value) (q : Value → Option α) : Option α :=
  asPtr v fun b off => Option.rec (motive := fun _ => Option α) none (fun o => frcN (Nat.add off o) fun off' => q (.pointer (some ⟨b, off', none⟩))) (foD P s f)
theorem fieldAddrF_eq (s : TypeId) (f : Nat) (v : Value) (q : Value → Option α) : fieldAddrF P s f v q = ob (fieldAddrD P s f v) q := by
  unfold fieldAddrF
  rw [asPtr_eq]
  unfold fieldAddrD foD
  cases v <;> try rfl
  rename_i a
  cases a with
  | none => rfl
  | some a =>
    obtain ⟨b, off, sp⟩ := a
    cases sp with
    | some _ => rfl
    | none =>
      simp only [frcN_eq]
      cases P.underlying s with
      | none => rfl
      | some d =>
        cases d <;> try rfl
        rename_i fields
        simp only
        cases fields.toList[f]? with
        | none => rfl
        | some fd =>
          simp only
          cases szOf P fd.type with
          | none => rfl
          | some n => by_cases h : n = 0 <;> simp only [h, if_true, if_false] <;> rfl
def ixD (t : TypeId) : Option (Option Nat × Nat) :=
  match P.underlying t with
  | some (.array len elem) => match szOf P elem with | some size => some (some len, size) | none => none
  | some (.slice elem) => match szOf P elem with | some size => some (none, size) | none => none
  | _ => none
def ixAt (b off size len : Nat) (i : Int) (q : Value → Option α) : Option α :=
  Int.rec (motive := fun _ => Option α) (fun i => Bool.rec (motive := fun _ => Option α) none (frcN (Nat.add off (Nat.mul i size)) fun off' => q (.pointer (some ⟨b, off', none⟩))) (Nat.blt i len)) (fun _ => none) i
theorem ixAt_eq (b off size len : Nat) (i : Int) (q : Value → Option α) : ixAt b off size len i q = ob (if 0 ≤ i ∧ i < (len : Int) then some (.pointer (some ⟨b, off + i.toNat * size, none⟩)) else none) q := by
  cases i with
  | negSucc a => rw [if_neg (by omega)]; rfl
  | ofNat a =>
    show Bool.rec (motive := fun _ => Option α) none (frcN (Nat.add off (Nat.mul a size)) fun off' => q (.pointer (some ⟨b, off', none⟩))) (Nat.blt a len) = _
    by_cases h : a < len
    · have hb : Nat.blt a len = true := by simpa [Nat.blt_eq] using h
      rw [hb, if_pos ⟨by simp, by simpa using h⟩]
      exact frcN_eq _ _
    · have hb : Nat.blt a len = false := by
        cases hb : Nat.blt a len with
        | false => rfl
        | true => exact absurd (by simpa [Nat.blt_eq] using hb) h
      rw [hb, if_neg (by simp only [Int.ofNat_eq_natCast]; omega)]; rfl
def indexAddrF (t : TypeId) (x i : Value) (q : Value → Option α) : Option α :=
  asInt i (fun _ i => Option.rec (motive := fun _ => Option α) none (fun p => Prod.rec (motive := fun _ => Option α) (fun a size =>
    Option.rec (motive := fun _ => Option α) (asSlc x fun b off len => ixAt b off size len i q) (fun len => asPtr x fun b off => ixAt b off size len i q) a) p) (ixD P t)) none
theorem indexAddrF_eq (t : TypeId) (x i : Value) (q : Value → Option α) : indexAddrF P t x i q = ob (indexAddrD P t x i) q := by
  unfold indexAddrF indexAddrD ixD
  cases i <;> try rfl
  rename_i ik i
  show Option.rec (motive := fun _ => Option α) none _ _ = _
  cases P.underlying t with
  | none => rfl
  | some d =>
    cases d <;> try rfl
    · rename_i elem
      simp only
      cases szOf P elem with
      | none => simp only; cases x <;> try rfl
                rename_i a _ _; cases a <;> rfl
      | some size =>
        simp only [asSlc_eq]
        cases x <;> try rfl
        rename_i a n c
        cases a with
        | none => rfl
        | some a => exact ixAt_eq _ _ _ _ _ _
    · rename_i len elem
      simp only
      cases szOf P elem with
      | none => simp only; cases x <;> try rfl
                rename_i a; cases a with
                | none => rfl
                | some a => obtain ⟨b, off, sp⟩ := a; cases sp <;> rfl
      | some size =>
        simp only [asPtr_eq]
        cases x <;> try rfl
        rename_i a
        cases a with
        | none => rfl
        | some a =>
          obtain ⟨b, off, sp⟩ := a
          cases sp with
          | some _ => rfl
          | none => exact ixAt_eq _ _ _ _ _ _
def pfD (t : TypeId) (f : Nat) : Option (TypeId × Nat) :=
  match P.underlying t with
  | some (.struct fields) => match fields.toList[f]? with
    | some fd => some (fd.type, fd.offset)
    | none => none
  | _ => none
def frcL (l : List Value) (q : List Value → Option α) : Option α := q l
theorem frcL_eq (l : List Value) (q : List Value → Option α) : frcL l q = q l := rfl
def partF (t : TypeId) (cs : List Value) (off : Nat) (q : Value → Option α) : Option α :=
  Option.rec (motive := fun _ => Option α) none (fun agg => Bool.rec (motive := fun _ => Option α) (nthF cs off q) (Option.rec (motive := fun _ => Option α) none (fun n => frcL (subL cs off n) fun l => q (.agg ⟨l⟩)) (szOf P t)) agg) (aggB P t)
theorem partF_eq (t : TypeId) (cs : List Value) (off : Nat) (q : Value → Option α) : partF P t cs off q = ob (part P t cs off) q := by
  unfold partF part
  cases aggB P t with
  | none => rfl
  | some g =>
    cases g with
    | false => exact nthF_eq _ _ _
    | true =>
      simp only
      cases szOf P t with
      | none => rfl
      | some n => simp only [subL_eq]; exact frcL_eq _ _
def fieldF (t : TypeId) (f : Nat) (v : Value) (q : Value → Option α) : Option α :=
  asAgg v (fun cs => Option.rec (motive := fun _ => Option α) none (fun p => Prod.rec (motive := fun _ => Option α) (fun u o => partF P u cs.toList o q) p) (pfD P t f)) none
theorem fieldF_eq (t : TypeId) (f : Nat) (v : Value) (q : Value → Option α) : fieldF P t f v q = ob (fieldD P t f v) q := by
  unfold fieldF fieldD pfD
  cases v <;> try rfl
  rename_i cs
  show Option.rec (motive := fun _ => Option α) none _ _ = _
  cases P.underlying t with
  | none => rfl
  | some d =>
    cases d <;> try rfl
    rename_i fields
    simp only
    cases fields.toList[f]? with
    | none => rfl
    | some fd => exact partF_eq _ _ _ _ _
/-! ### maps -/
def missF (et : TypeId) (ok : Bool) (q : Value → Option α) : Option α :=
  Option.rec (motive := fun _ => Option α) none (fun z => Bool.rec (motive := fun _ => Option α) none (q (cond ok (.tuple #[z, .bool false]) z)) (constV z)) (zeroOf P et)
def lookupIn (kt et : TypeId) (k : Value) (ok : Bool) (es : List MapEntry) (q : Value → Option α) : Option α :=
  Bool.rec (motive := fun _ => Option α) none (Option.rec (motive := fun _ => Option α) none (fun r => Option.rec (motive := fun _ => Option α) (missF P et ok q) (fun p => Prod.rec (motive := fun _ => Option α) (fun _ v => shF P et v fun v => q (cond ok (.tuple #[v, .bool true]) v)) p) r) (findD P K kt k es 0)) (keyOk P 100 kt k)
def lookupF (m : Mem) (t : TypeId) (x k : Value) (ok : Bool) (q : Value → Option α) : Option α :=
  match P.underlying t with
  | some (.map kt et) => match entriesD m x with
    | some es => lookupIn P K kt et k ok es q
    | none => none
  | _ => none
theorem lookupF_eq (m : Mem) (t : TypeId) (x k : Value) (ok : Bool) (q : Value → Option α) : lookupF P K m t x k ok q = ob (lookupD P K m t x k ok) q := by
  unfold lookupF lookupD
  cases P.underlying t with
  | none => rfl
  | some d =>
    cases d <;> try rfl
    rename_i kt et
    simp only
    cases entriesD m x with
    | none => rfl
    | some es =>
      simp only [lookupIn]
      cases keyOk P 100 kt k with
      | false => rfl
      | true =>
        simp only [if_true]
        cases findD P K kt k es 0 with
        | none => rfl
        | some r =>
          cases r with
          | some p =>
            obtain ⟨i, v⟩ := p
            simp only [shF_eq, shD]
            cases shp P et v <;> rfl
          | none =>
            simp only [missF]
            cases zeroOf P et with
            | none => rfl
            | some z =>
              simp only
              cases constV z <;> rfl
def updIn (kt : TypeId) (m : Mem) (r : Nat) (k v : Value) (es : List MapEntry) (clock : Nat) (q : Mem → Option α) : Option α :=
  Bool.rec (motive := fun _ => Option α) none (Option.rec (motive := fun _ => Option α) none (fun x => Option.rec (motive := fun _ => Option α) (setMF m r (.map true (es ++ [{ key := k, val := v, born := clock }]) (clock + 1)) q)
    (fun p => Prod.rec (motive := fun _ => Option α) (fun i _ => Option.rec (motive := fun _ => Option α) none (fun e => Bool.rec (motive := fun _ => Option α) none (setMF m r (.map true (modE i k v es) clock) q) (Instr.sameBits 10000 e.key k)) es[i]?) p) x) (findD P K kt k es 0)) (keyOk P 100 kt k)
def mapUpdateF (m : Mem) (t : TypeId) (x k v : Value) (q : Mem → Option α) : Option α :=
  match P.underlying t with
  | some (.map kt _) => match x with
    | .map (some r) => match getBF m r with
      | .map true es clock => updIn P K kt m r k v es clock q
      | _ => none
    | _ => none
  | _ => none
theorem mapUpdateF_eq (m : Mem) (t : TypeId) (x k v : Value) (q : Mem → Option α) : mapUpdateF P K m t x k v q = ob (mapUpdateD P K m t x k v) q := by
  unfold mapUpdateF mapUpdateD
  cases P.underlying t with
  | none => rfl
  | some d =>
    cases d <;> try rfl
    rename_i kt et
    simp only
    cases x <;> try rfl
    rename_i r
    cases r with
    | none => rfl
    | some r =>
      simp only [getBF_eq]
      cases m.get r with
      | none => rfl
      | cells => rfl
      | siter => rfl
      | map o es clock =>
        cases o with
        | false => rfl
        | true =>
          simp only [updIn, setMF_eq]
          cases keyOk P 100 kt k with
          | false => rfl
          | true =>
            simp only [if_true]
            cases findD P K kt k es 0 with
            | none => rfl
            | some x =>
              cases x with
              | none => rfl
              | some p =>
                obtain ⟨i, u⟩ := p
                simp only
                cases es[i]? with
                | none => rfl
                | some e =>
                  simp only
                  cases Instr.sameBits 10000 e.key k <;> rfl
end
end
end Go.DI.Y
namespace Go.DI
/-! ### what waits for what -/
def maskAt (M : Tr Nat) (j : Nat) : Nat := match Tr.get M j j with | some x => x | none => 0
def maskT (acc : Tr Nat) : List Edge → Nat
  | [] => 0
  | e :: l => cond (Region.binds .any e) (2 ^ e.on ||| (maskAt acc e.on ||| maskT acc l)) (maskT acc l)
def tabT : List Oper → Nat → Tr Nat → Tr Nat
  | [], _, acc => acc
  | o :: l, i, acc => tabT l (i + 1) (Tr.put acc 8 i i (maskT acc o.after.toList))
theorem maskT_eq {acc : Tr Nat} {L : List Nat} (h : ∀ j, maskAt acc j = L.getD j 0) : ∀ es : List Edge, maskT acc es = maskD L es
  | [] => rfl
  | e :: es => by simp only [maskT, maskD, h, maskT_eq h es]
theorem tabT_eq : ∀ (l : List Oper) (acc : Tr Nat) (L : List Nat), (∀ j, maskAt acc j = L.getD j 0) → ∀ j, maskAt (tabT l L.length acc) j = (tabD l L).getD j 0
  | [], _, _, h => h
  | o :: l, acc, L, h => by
    intro j
    have := tabT_eq l (Tr.put acc 8 L.length L.length (maskT acc o.after.toList)) (L ++ [maskD L o.after.toList]) (by
      intro j
      simp only [maskAt, Tr.get_put]
      by_cases hj : j = L.length
      · subst hj; simp [maskT_eq h]
      · have h2 := h j
        simp only [maskAt] at h2
        simp only [hj, if_false, h2, List.getD_eq_getElem?_getD]
        by_cases h3 : j < L.length
        · rw [List.getElem?_append_left h3]
        · rw [List.getElem?_eq_none (by omega), List.getElem?_eq_none (by simp; omega)]) j
    simpa [tabT, tabD] using this
def tabF (ops : List Oper) : Tr Nat := tabT ops 0 .nil
theorem tabF_eq (ops : List Oper) (j : Nat) : maskAt (tabF ops) j = (tabD ops []).getD j 0 := tabT_eq ops .nil [] (fun j => by simp [maskAt, Tr.get_nil]) j
/-! ### who lays a slot -/
def defAt (T : Tr (List Nat)) (u : Nat) : List Nat := match Tr.get T u u with | some x => x | none => []
def defsT : List Oper → Nat → Tr (List Nat) → Tr (List Nat)
  | [], _, T => T
  | o :: l, i, T => match o.dst with
    | some d => defsT l (i + 1) (Tr.put T 8 d d (i :: defAt T d))
    | none => defsT l (i + 1) T
theorem defsT_mem (u k : Nat) : ∀ (l : List Oper) (i : Nat) (T : Tr (List Nat)), k ∈ defAt (defsT l i T) u ↔ k ∈ defAt T u ∨ (∃ a o, k = i + a ∧ l[a]? = some o ∧ o.dst = some u)
  | [], i, T => by simp [defsT]
  | o :: l, i, T => by
    have step : (∃ a o', k = i + a ∧ (o :: l)[a]? = some o' ∧ o'.dst = some u) ↔ (k = i ∧ o.dst = some u) ∨ (∃ a o', k = i + 1 + a ∧ l[a]? = some o' ∧ o'.dst = some u) := by
      constructor
      · rintro ⟨a, o', h1, h2, h3⟩
        cases a with
        | zero => simp at h2; subst h2; exact .inl ⟨by omega, h3⟩
        | succ a => exact .inr ⟨a, o', by omega, by simpa using h2, h3⟩
      · rintro (⟨h1, h2⟩ | ⟨a, o', h1, h2, h3⟩)
        · exact ⟨0, o, by omega, by simp, h2⟩
        · exact ⟨a + 1, o', by omega, by simpa using h2, h3⟩
    rw [step]
    simp only [defsT]
    cases hd : o.dst with
    | none =>
      simp only
      rw [defsT_mem u k l (i + 1) T]
      simp
    | some d =>
      simp only
      rw [defsT_mem u k l (i + 1)]
      have : k ∈ defAt (Tr.put T 8 d d (i :: defAt T d)) u ↔ k ∈ defAt T u ∨ (k = i ∧ d = u) := by
        simp only [defAt, Tr.get_put]
        by_cases h : u = d
        · subst h; simp [or_comm]
        · simp [h, Ne.symm h]
      rw [this]
      simp only [Option.some.injEq]
      exact or_assoc
def defsF (ops : List Oper) : Tr (List Nat) := defsT ops 0 .nil
theorem defsF_mem (ops : List Oper) (u k : Nat) : k ∈ defAt (defsF ops) u ↔ ∃ o, ops[k]? = some o ∧ o.dst = some u := by
  have := defsT_mem u k ops 0 .nil
  simp only [defsF]
  rw [this]
  constructor
  · rintro (h | ⟨a, o, h1, h2, h3⟩)
    · simp [defAt, Tr.get_nil] at h
    · exact ⟨o, by simpa [h1] using h2, h3⟩
  · rintro ⟨o, h2, h3⟩
    exact .inr ⟨k, o, by omega, h2, h3⟩
/-! ### the heavy ones -/
def hvL (M : Tr Nat) : List Oper → Nat → List (Nat × Nat)
  | [], _ => []
  | o :: l, i => cond (Nat.beq (klass o.op) 2) ((i, maskAt M i) :: hvL M l (i + 1)) (hvL M l (i + 1))
theorem hvL_mem (M : Tr Nat) (x : Nat × Nat) : ∀ (l : List Oper) (i : Nat), x ∈ hvL M l i ↔ ∃ a o, x.1 = i + a ∧ l[a]? = some o ∧ klass o.op = 2 ∧ x.2 = maskAt M x.1
  | [], i => by simp [hvL]
  | o :: l, i => by
    have ih := hvL_mem M x l (i + 1)
    have step : (∃ a o', x.1 = i + a ∧ (o :: l)[a]? = some o' ∧ klass o'.op = 2 ∧ x.2 = maskAt M x.1) ↔ (x.1 = i ∧ klass o.op = 2 ∧ x.2 = maskAt M x.1) ∨ (∃ a o', x.1 = i + 1 + a ∧ l[a]? = some o' ∧ klass o'.op = 2 ∧ x.2 = maskAt M x.1) := by
      constructor
      · rintro ⟨a, o', h1, h2, h3⟩
        cases a with
        | zero => simp at h2; subst h2; exact .inl ⟨by omega, h3⟩
        | succ a => exact .inr ⟨a, o', by omega, by simpa using h2, h3⟩
      · rintro (⟨h1, h2⟩ | ⟨a, o', h1, h2, h3⟩)
        · exact ⟨0, o, by omega, by simp, h2⟩
        · exact ⟨a + 1, o', by omega, by simpa using h2, h3⟩
    rw [step, ← ih]
    simp only [hvL]
    by_cases hk : klass o.op = 2
    · have : Nat.beq (klass o.op) 2 = true := by rw [hk]; rfl
      rw [this]
      simp only [cond_true, List.mem_cons, hk, true_and]
      constructor
      · rintro (h | h)
        · subst h; exact .inl ⟨rfl, rfl⟩
        · exact .inr h
      · rintro (⟨h1, h2⟩ | h)
        · left; ext
          · exact h1
          · rw [h2, h1]
        · exact .inr h
    · have : Nat.beq (klass o.op) 2 = false := beq_ne hk
      rw [this]
      simp [hk]
theorem hvL_sorted (M : Tr Nat) : ∀ (l : List Oper) (i : Nat), (hvL M l i).Pairwise fun a b => a.1 < b.1
  | [], i => by simp [hvL]
  | o :: l, i => by
    have ih := hvL_sorted M l (i + 1)
    simp only [hvL]
    cases Nat.beq (klass o.op) 2 with
    | false => exact ih
    | true =>
      simp only [cond_true, List.pairwise_cons]
      refine ⟨fun x hx => ?_, ih⟩
      obtain ⟨a, o', h1, _⟩ := (hvL_mem M x l (i + 1)).1 hx
      omega
def hvF (ops : List Oper) : List (Nat × Nat) := hvL (tabF ops) ops 0
theorem hvF_mem (ops : List Oper) (x : Nat × Nat) : x ∈ hvF ops ↔ klassAt ops x.1 = 2 ∧ x.1 < ops.length ∧ x.2 = (tabD ops []).getD x.1 0 := by
  rw [hvF, hvL_mem]
  simp only [Nat.zero_add, tabF_eq, klassAt]
  constructor
  · rintro ⟨a, o, h1, h2, h3, h4⟩
    subst h1
    rw [h2]
    exact ⟨h3, (List.getElem?_eq_some_iff.1 h2).1, h4⟩
  · rintro ⟨h1, h2, h3⟩
    refine ⟨x.1, ops[x.1], rfl, List.getElem?_eq_getElem h2, ?_, h3⟩
    rw [List.getElem?_eq_getElem h2] at h1
    exact h1
def hvOk : List (Nat × Nat) → Bool
  | [] => true
  | x :: l => l.all (fun b => b.2.testBit x.1) && hvOk l
theorem hvOk_iff : ∀ {l : List (Nat × Nat)}, l.Pairwise (fun a b => a.1 < b.1) → (hvOk l = true ↔ ∀ a ∈ l, ∀ b ∈ l, a.1 < b.1 → b.2.testBit a.1 = true)
  | [], _ => by simp [hvOk]
  | x :: l, hs => by
    rw [List.pairwise_cons] at hs
    have ih := hvOk_iff hs.2
    simp only [hvOk, Bool.and_eq_true, List.all_eq_true, ih]
    constructor
    · rintro ⟨h1, h2⟩ a ha b hb hab
      rcases List.mem_cons.1 ha with e | ha'
      · subst e
        rcases List.mem_cons.1 hb with e | hb'
        · subst e; omega
        · exact h1 b hb'
      · rcases List.mem_cons.1 hb with e | hb'
        · subst e; have := hs.1 a ha'; omega
        · exact h2 a ha' b hb' hab
    · intro h
      exact ⟨fun b hb => h x (List.mem_cons_self ..) b (List.mem_cons_of_mem _ hb) (hs.1 b hb), fun a ha b hb => h a (List.mem_cons_of_mem _ ha) b (List.mem_cons_of_mem _ hb)⟩
/-! ### the static check -/
def chkJ (M : Tr Nat) (D : Tr (List Nat)) (j Tj : Nat) (us : List Tmp) : Bool :=
  us.all fun u => (defAt D u).all fun i => Nat.beq i j || cond (Nat.blt i j) (Tj.testBit i) ((maskAt M i).testBit j)
def chkAll (ops : List Oper) (M : Tr Nat) (D : Tr (List Nat)) : List Oper → Nat → Bool
  | [], _ => true
  | o :: l, j => chkJ M D j (maskAt M j) (looksL ops o ++ o.dst.toList) && chkAll ops M D l (j + 1)
theorem chkAll_iff (ops : List Oper) (M : Tr Nat) (D : Tr (List Nat)) : ∀ (l : List Oper) (j : Nat), chkAll ops M D l j = true ↔ ∀ a o, l[a]? = some o → chkJ M D (j + a) (maskAt M (j + a)) (looksL ops o ++ o.dst.toList) = true
  | [], j => by simp [chkAll]
  | o :: l, j => by
    have ih := chkAll_iff ops M D l (j + 1)
    simp only [chkAll, Bool.and_eq_true, ih]
    constructor
    · rintro ⟨h1, h2⟩ a o' h
      cases a with
      | zero => simp at h; subst h; exact h1
      | succ a =>
        have := h2 a o' (by simpa using h)
        have e : j + 1 + a = j + (a + 1) := by omega
        rwa [e] at this
    · intro h
      refine ⟨h 0 o (by simp), fun a o' ho => ?_⟩
      have := h (a + 1) o' (by simpa using ho)
      have e : j + 1 + a = j + (a + 1) := by omega
      rwa [e]
def statT (ops : List Oper) : Bool := edgesB ops 0 && (chkAll ops (tabF ops) (defsF ops) ops 0 && hvOk (hvF ops))
theorem statT_eq (ops : List Oper) : statT ops = statB ops (tabD ops []) := by
  rw [Bool.eq_iff_iff]
  simp only [statT, statB, Bool.and_eq_true, chkAll_iff, hvOk_iff (hvL_sorted _ _ _), hvF, List.all_eq_true, List.mem_range]
  have hv := hvF_mem ops
  simp only [hvF] at hv
  refine and_congr_right fun _ => ?_
  constructor
  · rintro ⟨h1, h2⟩ i hi j hj
    simp only [pairB, List.getElem?_eq_getElem hi, List.getElem?_eq_getElem hj, Bool.and_eq_true]
    refine ⟨?_, ?_⟩
    · cases hd : ops[i].dst with
      | none => rfl
      | some d =>
        simp only [Bool.or_eq_true]
        by_cases hij : i = j
        · subst hij; exact .inl (.inl (by simp))
        · by_cases hu : ((looksL ops ops[j]).contains d || ops[j].dst == some d) = true
          · right
            have hmem : d ∈ looksL ops ops[j] ++ ops[j].dst.toList := by
              simp only [Bool.or_eq_true, List.contains_iff_mem, beq_iff_eq] at hu
              simp only [List.mem_append, Option.mem_toList]
              rcases hu with h | h
              · exact .inl h
              · exact .inr h
            have := h1 j ops[j] (List.getElem?_eq_getElem hj)
            simp only [chkJ, List.all_eq_true, Nat.zero_add] at this
            have := this d hmem i ((defsF_mem ops d i).2 ⟨_, List.getElem?_eq_getElem hi, hd⟩)
            simp only [tabF_eq, Bool.or_eq_true] at this
            rcases this with h | h
            · exact absurd (Nat.eq_of_beq_eq_true h) hij
            · exact h
          · exact .inl (.inr (by simpa using hu))
    · simp only [Bool.or_eq_true]
      by_cases hc : klass ops[i].op = 2 ∧ klass ops[j].op = 2 ∧ i < j
      · right
        have := h2 (i, _) ((hv (i, (tabD ops []).getD i 0)).2 ⟨by simp only [klassAt, List.getElem?_eq_getElem hi]; exact hc.1, hi, rfl⟩) (j, _) ((hv (j, (tabD ops []).getD j 0)).2 ⟨by simp only [klassAt, List.getElem?_eq_getElem hj]; exact hc.2.1, hj, rfl⟩) hc.2.2
        exact this
      · left
        simp only [Bool.not_eq_true']
        cases hb : (Nat.beq (klass ops[i].op) 2 && Nat.beq (klass ops[j].op) 2 && Nat.blt i j) with
        | false => rfl
        | true =>
          simp only [Bool.and_eq_true] at hb
          exact absurd ⟨Nat.eq_of_beq_eq_true hb.1.1, Nat.eq_of_beq_eq_true hb.1.2, by simpa [Nat.blt_eq] using hb.2⟩ hc
  · intro h
    refine ⟨fun j y hy => ?_, ?_⟩
    · obtain ⟨hj, rfl⟩ := List.getElem?_eq_some_iff.1 hy
      simp only [chkJ, List.all_eq_true, Nat.zero_add]
      intro u hu i hi
      obtain ⟨x, hx, hd⟩ := (defsF_mem ops u i).1 hi
      obtain ⟨hi', rfl⟩ := List.getElem?_eq_some_iff.1 hx
      have := h i hi' j hj
      simp only [pairB, List.getElem?_eq_getElem hi', List.getElem?_eq_getElem hj, hd, Bool.and_eq_true] at this
      have h1 := this.1
      simp only [Bool.or_eq_true] at h1
      simp only [tabF_eq, Bool.or_eq_true]
      rcases h1 with (h1 | h1) | h1
      · exact .inl h1
      · exfalso
        simp only [List.mem_append, Option.mem_toList] at hu
        have : ((looksL ops ops[j]).contains u || ops[j].dst == some u) = true := by
          simp only [Bool.or_eq_true, List.contains_iff_mem, beq_iff_eq]
          rcases hu with g | g
          · exact .inl g
          · exact .inr g
        rw [this] at h1
        simp at h1
      · exact .inr h1
    · intro a ha b hb hab
      obtain ⟨a1, a2, a3⟩ := (hv a).1 ha
      obtain ⟨b1, b2, b3⟩ := (hv b).1 hb
      have := h a.1 a2 b.1 b2
      simp only [pairB, List.getElem?_eq_getElem a2, List.getElem?_eq_getElem b2, Bool.and_eq_true] at this
      have h2 := this.2
      simp only [klassAt, List.getElem?_eq_getElem a2] at a1
      simp only [klassAt, List.getElem?_eq_getElem b2] at b1
      rw [a1, b1] at h2
      have hlt : Nat.blt a.1 b.1 = true := by simpa [Nat.blt_eq] using hab
      rw [hlt] at h2
      simp only [befB] at h2
      rw [b3]
      simpa using h2
/-! ### what is to be looked at when the region has run -/
def firstP (p : Nat × Nat → Bool) (hs : List (Nat × Nat)) (n : Nat) : Nat := match hs.find? p with | some h => h.1 | none => n
theorem firstP_iff {p : Nat × Nat → Bool} {hs : List (Nat × Nat)} {n s : Nat} (hp : hs.Pairwise fun a b => a.1 < b.1) (hn : s ≤ n) : s ≤ firstP p hs n ↔ ∀ h ∈ hs, h.1 < s → p h = false := by
  unfold firstP
  cases hf : hs.find? p with
  | none =>
    simp only [hn, true_iff]
    intro h hh _
    have := List.find?_eq_none.1 hf h hh
    simpa using this
  | some x =>
    obtain ⟨hx, l1, l2, rfl, h1⟩ := List.find?_eq_some_iff_append.1 hf
    rw [List.pairwise_append] at hp
    simp only
    constructor
    · intro hs' h hh hlt
      rcases List.mem_append.1 hh with g | g
      · have := h1 h g; simpa using this
      · rcases List.mem_cons.1 g with rfl | g
        · omega
        · have := (List.pairwise_cons.1 hp.2.1).1 h g; omega
    · intro h
      by_cases hlt : x.1 < s
      · have := h x (by simp) hlt
        rw [this] at hx; simp at hx
      · omega
def need1I (hs : List (Nat × Nat)) (n i Ti : Nat) : List (Nat × Nat) :=
  (fun f g => (hs.map (·.1) ++ [n]).filterMap fun s => cond (Nat.ble s f && (Nat.beq s n || !(Ti.testBit s)) && !(Nat.ble i s && Nat.ble s g)) (some (i, s)) none)
    (firstP (fun h => h.2.testBit i) hs n) (firstP (fun h => Nat.ble i h.1) hs n)
def need1L (M : Tr Nat) (hs : List (Nat × Nat)) (n : Nat) : List Oper → Nat → List (Nat × Nat)
  | [], _ => []
  | o :: l, i => cond (Nat.beq (klass o.op) 0 && readsB o.op) (need1I hs n i (maskAt M i) ++ need1L M hs n l (i + 1)) (need1L M hs n l (i + 1))
def need1F (ops : List Oper) : List (Nat × Nat) := need1L (tabF ops) (hvF ops) ops.length ops 0
def need2L (hs : List (Nat × Nat)) : List Oper → Nat → List (Nat × Nat)
  | [], _ => []
  | o :: l, i => cond (Nat.beq (klass o.op) 1) ((hs.filterMap fun h => cond (Nat.blt i h.1 && !(h.2.testBit i)) (some (i, h.1)) none) ++ need2L hs l (i + 1)) (need2L hs l (i + 1))
def need2F (ops : List Oper) : List (Nat × Nat) := need2L (hvF ops) ops 0
theorem need1L_mem (M : Tr Nat) (hs : List (Nat × Nat)) (n : Nat) (x : Nat × Nat) : ∀ (l : List Oper) (i : Nat), x ∈ need1L M hs n l i ↔ ∃ a o, l[a]? = some o ∧ klass o.op = 0 ∧ readsB o.op = true ∧ x ∈ need1I hs n (i + a) (maskAt M (i + a))
  | [], i => by simp [need1L]
  | o :: l, i => by
    have ih := need1L_mem M hs n x l (i + 1)
    have step : (∃ a o', (o :: l)[a]? = some o' ∧ klass o'.op = 0 ∧ readsB o'.op = true ∧ x ∈ need1I hs n (i + a) (maskAt M (i + a))) ↔ (klass o.op = 0 ∧ readsB o.op = true ∧ x ∈ need1I hs n i (maskAt M i)) ∨ (∃ a o', l[a]? = some o' ∧ klass o'.op = 0 ∧ readsB o'.op = true ∧ x ∈ need1I hs n (i + 1 + a) (maskAt M (i + 1 + a))) := by
      constructor
      · rintro ⟨a, o', h2, h3⟩
        cases a with
        | zero => simp at h2; subst h2; exact .inl h3
        | succ a =>
          have e : i + (a + 1) = i + 1 + a := by omega
          rw [e] at h3
          exact .inr ⟨a, o', by simpa using h2, h3⟩
      · rintro (h | ⟨a, o', h2, h3⟩)
        · exact ⟨0, o, by simp, h⟩
        · have e : i + 1 + a = i + (a + 1) := by omega
          rw [e] at h3
          exact ⟨a + 1, o', by simpa using h2, h3⟩
    rw [step, ← ih]
    simp only [need1L]
    by_cases hk : klass o.op = 0 ∧ readsB o.op = true
    · have : (Nat.beq (klass o.op) 0 && readsB o.op) = true := by rw [hk.1, hk.2]; rfl
      rw [this]
      simp [hk.1, hk.2]
    · have : (Nat.beq (klass o.op) 0 && readsB o.op) = false := by
        cases hb : (Nat.beq (klass o.op) 0 && readsB o.op) with
        | false => rfl
        | true =>
          simp only [Bool.and_eq_true] at hb
          exact absurd ⟨Nat.eq_of_beq_eq_true hb.1, hb.2⟩ hk
      rw [this]
      simp only [cond_false]
      constructor
      · exact .inr
      · rintro (⟨h1, h2, _⟩ | h)
        · exact absurd ⟨h1, h2⟩ hk
        · exact h
theorem need2L_mem (hs : List (Nat × Nat)) (x : Nat × Nat) : ∀ (l : List Oper) (i : Nat), x ∈ need2L hs l i ↔ ∃ a o, l[a]? = some o ∧ klass o.op = 1 ∧ x.1 = i + a ∧ ∃ h ∈ hs, i + a < h.1 ∧ h.2.testBit (i + a) = false ∧ x.2 = h.1
  | [], i => by simp [need2L]
  | o :: l, i => by
    have ih := need2L_mem hs x l (i + 1)
    have step : (∃ a o', (o :: l)[a]? = some o' ∧ klass o'.op = 1 ∧ x.1 = i + a ∧ ∃ h ∈ hs, i + a < h.1 ∧ h.2.testBit (i + a) = false ∧ x.2 = h.1) ↔ (klass o.op = 1 ∧ x.1 = i ∧ ∃ h ∈ hs, i < h.1 ∧ h.2.testBit i = false ∧ x.2 = h.1) ∨ (∃ a o', l[a]? = some o' ∧ klass o'.op = 1 ∧ x.1 = i + 1 + a ∧ ∃ h ∈ hs, i + 1 + a < h.1 ∧ h.2.testBit (i + 1 + a) = false ∧ x.2 = h.1) := by
      constructor
      · rintro ⟨a, o', h2, h3⟩
        cases a with
        | zero => simp at h2; subst h2; exact .inl h3
        | succ a =>
          have e : i + (a + 1) = i + 1 + a := by omega
          rw [e] at h3
          exact .inr ⟨a, o', by simpa using h2, h3⟩
      · rintro (h | ⟨a, o', h2, h3⟩)
        · exact ⟨0, o, by simp, h⟩
        · have e : i + 1 + a = i + (a + 1) := by omega
          rw [e] at h3
          exact ⟨a + 1, o', by simpa using h2, h3⟩
    rw [step, ← ih]
    simp only [need2L]
    by_cases hk : klass o.op = 1
    · have : Nat.beq (klass o.op) 1 = true := by rw [hk]; rfl
      rw [this]
      simp only [cond_true, List.mem_append, List.mem_filterMap, hk, true_and]
      refine or_congr_left ?_
      constructor
      · rintro ⟨h, hh, hc⟩
        cases hb : (Nat.blt i h.1 && !(h.2.testBit i)) with
        | false => rw [hb] at hc; simp at hc
        | true =>
          rw [hb] at hc
          simp only [cond_true, Option.some.injEq] at hc
          subst hc
          simp only [Bool.and_eq_true, Bool.not_eq_true'] at hb
          exact ⟨rfl, h, hh, by simpa [Nat.blt_eq] using hb.1, hb.2, rfl⟩
      · rintro ⟨h1, h, hh, h2, h3, h4⟩
        refine ⟨h, hh, ?_⟩
        have : Nat.blt i h.1 = true := by simpa [Nat.blt_eq] using h2
        rw [this, h3]
        simp only [Bool.not_false, Bool.and_true, cond_true, Option.some.injEq]
        ext
        · exact h1.symm
        · exact h4.symm
    · have : Nat.beq (klass o.op) 1 = false := beq_ne hk
      rw [this]
      simp [hk]
theorem need2F_mem (ops : List Oper) (x : Nat × Nat) : x ∈ need2F ops ↔ x ∈ need2 ops (tabD ops []) := by
  rw [need2F, need2L_mem]
  simp only [need2, List.mem_flatMap, List.mem_range, Nat.zero_add]
  constructor
  · rintro ⟨i, o, ho, hk, h1, h, hh, h2, h3, h4⟩
    obtain ⟨hi, rfl⟩ := List.getElem?_eq_some_iff.1 ho
    obtain ⟨g1, g2, g3⟩ := (hvF_mem ops h).1 hh
    refine ⟨i, hi, ?_⟩
    have e1 : klassAt ops i = 1 := by simp only [klassAt, ho]; exact hk
    rw [e1]
    simp only [show Nat.beq 1 1 = true from rfl, cond_true, List.mem_filterMap, List.mem_range]
    refine ⟨h.1, g2, ?_⟩
    have e2 : Nat.blt i h.1 = true := by simpa [Nat.blt_eq] using h2
    have e3 : befB (tabD ops []) i h.1 = false := by simp only [befB, ← g3]; exact h3
    rw [e2, g1, e3]
    simp only [show Nat.beq 2 2 = true from rfl, Bool.and_true, Bool.not_false, cond_true, Option.some.injEq]
    ext
    · exact h1.symm
    · exact h4.symm
  · rintro ⟨i, hi, hx⟩
    cases hk : Nat.beq (klassAt ops i) 1 with
    | false => rw [hk] at hx; simp at hx
    | true =>
      rw [hk] at hx
      simp only [cond_true, List.mem_filterMap, List.mem_range] at hx
      obtain ⟨h, hh, hc⟩ := hx
      cases hb : (Nat.blt i h && Nat.beq (klassAt ops h) 2 && !(befB (tabD ops []) i h)) with
      | false => rw [hb] at hc; simp at hc
      | true =>
        rw [hb] at hc
        simp only [cond_true, Option.some.injEq] at hc
        subst hc
        simp only [Bool.and_eq_true, Bool.not_eq_true'] at hb
        have hk' := Nat.eq_of_beq_eq_true hk
        simp only [klassAt, List.getElem?_eq_getElem hi] at hk'
        refine ⟨i, ops[i], List.getElem?_eq_getElem hi, hk', rfl, (h, (tabD ops []).getD h 0), (hvF_mem ops _).2 ⟨Nat.eq_of_beq_eq_true hb.1.2, hh, rfl⟩, by simpa [Nat.blt_eq] using hb.1.1, ?_, rfl⟩
        have := hb.2
        simpa [befB] using this
theorem need1F_mem (ops : List Oper) (x : Nat × Nat) : x ∈ need1F ops ↔ x ∈ need1 ops (tabD ops []) := by
  rw [need1F, need1L_mem]
  have hsort : (hvF ops).Pairwise (fun a b => a.1 < b.1) := hvL_sorted _ _ _
  have hmem : ∀ s, s ∈ (hvF ops).map (·.1) ↔ klassAt ops s = 2 ∧ s < ops.length := by
    intro s
    simp only [List.mem_map]
    constructor
    · rintro ⟨h, hh, rfl⟩
      obtain ⟨g1, g2, g3⟩ := (hvF_mem ops h).1 hh
      exact ⟨g1, g2⟩
    · rintro ⟨g1, g2⟩
      exact ⟨(s, _), (hvF_mem ops (s, (tabD ops []).getD s 0)).2 ⟨g1, g2, rfl⟩, rfl⟩
  have hfe : ∀ i s, s ≤ ops.length → (s ≤ firstP (fun h => h.2.testBit i) (hvF ops) ops.length ↔ ((List.range s).all fun h => !(Nat.beq (klassAt ops h) 2) || !(befB (tabD ops []) i h)) = true) := by
    intro i s hs
    rw [firstP_iff hsort hs]
    simp only [List.all_eq_true, List.mem_range, Bool.or_eq_true, Bool.not_eq_true']
    constructor
    · intro h q hq
      by_cases hk : klassAt ops q = 2
      · right
        have := h (q, _) ((hvF_mem ops (q, (tabD ops []).getD q 0)).2 ⟨hk, by omega, rfl⟩) hq
        exact this
      · exact .inl (beq_ne hk)
    · intro h q hq hlt
      obtain ⟨g1, g2, g3⟩ := (hvF_mem ops q).1 hq
      rcases h q.1 hlt with g | g
      · rw [g1] at g; simp at g
      · rw [g3]; exact g
  have hne : ∀ i s, s ≤ ops.length → (s ≤ firstP (fun h => Nat.ble i h.1) (hvF ops) ops.length ↔ ((List.range s).all fun h => !(Nat.beq (klassAt ops h) 2) || Nat.blt h i) = true) := by
    intro i s hs
    rw [firstP_iff hsort hs]
    simp only [List.all_eq_true, List.mem_range, Bool.or_eq_true, Bool.not_eq_true']
    constructor
    · intro h q hq
      by_cases hk : klassAt ops q = 2
      · right
        have := h (q, _) ((hvF_mem ops (q, (tabD ops []).getD q 0)).2 ⟨hk, by omega, rfl⟩) hq
        simp only at this
        have h2 : ¬ (i ≤ q) := fun hle => by
          have hb : Nat.ble i q = true := by rw [Nat.ble_eq]; exact hle
          rw [hb] at this
          simp at this
        simp only [Nat.blt_eq]
        omega
      · exact .inl (beq_ne hk)
    · intro h q hq hlt
      obtain ⟨g1, g2, g3⟩ := (hvF_mem ops q).1 hq
      rcases h q.1 hlt with g | g
      · rw [g1] at g; simp at g
      · have h3 : q.1 < i := by simpa [Nat.blt_eq] using g
        cases hb : Nat.ble i q.1 with
        | false => rfl
        | true => have := Nat.le_of_ble_eq_true hb; omega
  have core : ∀ i s, s ≤ ops.length → (((Nat.ble s (firstP (fun h => h.2.testBit i) (hvF ops) ops.length) && (Nat.beq s ops.length || !((maskAt (tabF ops) i).testBit s)) && !(Nat.ble i s && Nat.ble s (firstP (fun h => Nat.ble i h.1) (hvF ops) ops.length))) = true ∧ (s ∈ (hvF ops).map (·.1) ∨ s = ops.length)) ↔ ((feasB ops (tabD ops []) i s && !(nextB ops i s)) = true)) := by
    intro i s hs
    have e1 := hfe i s hs
    have e2 := hne i s hs
    simp only [Bool.and_eq_true, Nat.ble_eq, e1, Bool.not_eq_true', Bool.or_eq_true, feasB, nextB, tabF_eq, befB] at e1 e2 ⊢
    have e3 : (Nat.ble i s && Nat.ble s (firstP (fun h => Nat.ble i h.1) (hvF ops) ops.length)) = (Nat.ble i s && (List.range s).all fun h => !(Nat.beq (klassAt ops h) 2) || Nat.blt h i) := by
      congr 1
      rw [Bool.eq_iff_iff, Nat.ble_eq]
      exact e2
    rw [e3, hmem]
    constructor
    · rintro ⟨⟨⟨h1, h2⟩, h3⟩, h4⟩
      refine ⟨⟨?_, h1⟩, h3⟩
      rcases h4 with h4 | h4
      · rcases h2 with h2 | h2
        · exact .inl h2
        · exact .inr ⟨by rw [h4.1]; rfl, h2⟩
      · left; rw [h4]; exact Nat.beq_refl _
    · rintro ⟨⟨h0, h1⟩, h3⟩
      rcases h0 with h0 | ⟨h0, h2⟩
      · exact ⟨⟨⟨h1, .inl h0⟩, h3⟩, .inr (Nat.eq_of_beq_eq_true h0)⟩
      · by_cases hlt : s < ops.length
        · exact ⟨⟨⟨h1, .inr h2⟩, h3⟩, .inl ⟨Nat.eq_of_beq_eq_true h0, hlt⟩⟩
        · have : s = ops.length := by omega
          exact ⟨⟨⟨h1, .inr h2⟩, h3⟩, .inr this⟩
  simp only [need1, List.mem_flatMap, List.mem_range, Nat.zero_add]
  constructor
  · rintro ⟨i, o, ho, hk, hr, hx⟩
    obtain ⟨hi, rfl⟩ := List.getElem?_eq_some_iff.1 ho
    refine ⟨i, hi, ?_⟩
    rw [ho]
    simp only [hk, hr, show Nat.beq 0 0 = true from rfl, Bool.and_true, cond_true, List.mem_filterMap, List.mem_range]
    simp only [need1I, List.mem_filterMap] at hx
    obtain ⟨s, hs, hc⟩ := hx
    cases hb : (Nat.ble s (firstP (fun h => h.2.testBit i) (hvF ops) ops.length) && (Nat.beq s ops.length || !((maskAt (tabF ops) i).testBit s)) && !(Nat.ble i s && Nat.ble s (firstP (fun h => Nat.ble i h.1) (hvF ops) ops.length))) with
    | false => rw [hb] at hc; simp at hc
    | true =>
      rw [hb] at hc
      have hs' : s ∈ (hvF ops).map (·.1) ∨ s = ops.length := by simpa using hs
      have hle : s ≤ ops.length := by
        rcases hs' with g | g
        · have := (hmem s).1 g; omega
        · omega
      refine ⟨s, by omega, ?_⟩
      rw [(core i s hle).1 ⟨hb, hs'⟩]
      exact hc
  · rintro ⟨i, hi, hx⟩
    rw [List.getElem?_eq_getElem hi] at hx
    simp only at hx
    cases hk : (Nat.beq (klass ops[i].op) 0 && readsB ops[i].op) with
    | false => rw [hk] at hx; simp at hx
    | true =>
      rw [hk] at hx
      simp only [cond_true, List.mem_filterMap, List.mem_range] at hx
      obtain ⟨s, hs, hc⟩ := hx
      simp only [Bool.and_eq_true] at hk
      refine ⟨i, ops[i], List.getElem?_eq_getElem hi, Nat.eq_of_beq_eq_true hk.1, hk.2, ?_⟩
      cases hb : (feasB ops (tabD ops []) i s && !(nextB ops i s)) with
      | false => rw [hb] at hc; simp at hc
      | true =>
        rw [hb] at hc
        obtain ⟨g1, g2⟩ := (core i s (by omega)).2 hb
        simp only [need1I, List.mem_filterMap]
        refine ⟨s, by simpa using g2, ?_⟩
        rw [g1]
        exact hc
theorem all_congr_mem {α : Type} {l l' : List α} (h : ∀ x, x ∈ l ↔ x ∈ l') (p : α → Bool) : l.all p = l'.all p := by
  rw [Bool.eq_iff_iff]
  simp only [List.all_eq_true, h]
end Go.DI
