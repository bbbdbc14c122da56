/-
  DiFast2: operations, quickly.
-/
import Derived.Test.YtapmpddneoghfaaDiFast1
namespace Go.DI
noncomputable section

/-! ### numbers -/
def frcI (n : Int) (q : Int → Ans) : Ans :=
  Int.rec (motive := fun _ => Ans) (fun m => Nat.rec (motive := fun _ => Ans) (q (.ofNat Nat.zero)) (fun m' _ => q (.ofNat (Nat.succ m'))) m)
    (fun m => Nat.rec (motive := fun _ => Ans) (q (.negSucc Nat.zero)) (fun m' _ => q (.negSucc (Nat.succ m'))) m) n
theorem frcI_eq (n : Int) (q : Int → Ans) : frcI n q = q n := by
  cases n with
  | ofNat m => cases m <;> rfl
  | negSucc m => cases m <;> rfl
def kNo (k : IntKind) : Nat := IntKind.rec (motive := fun _ => Nat) 0 1 2 3 4 5 6 7 k
def kEq (k k' : IntKind) : Bool := Nat.beq (kNo k) (kNo k')
theorem kEq_eq (k k' : IntKind) : kEq k k' = decide (k = k') := by cases k <;> cases k' <;> rfl
def limF (k : IntKind) : Nat := IntKind.rec (motive := fun _ => Nat) 128 128 128 9223372036854775808 128 128 128 128 k
theorem wrap_small (k : IntKind) (a : Nat) (h : a < limF k) : k.wrap (Int.ofNat a) = Int.ofNat a := by
  have h1 : Int.ofNat a = (a : Int) := rfl
  cases k <;> simp only [limF] at h <;> simp only [IntKind.wrap, IntKind.bits, IntKind.signed, h1] <;> simp <;> omega
def wrapF (k : IntKind) (n : Int) (q : Int → Ans) : Ans :=
  Int.rec (motive := fun _ => Ans) (fun a => Bool.rec (motive := fun _ => Ans) (frcI (k.wrap (.ofNat a)) q) (frcN a fun a => q (.ofNat a)) (Nat.blt a (limF k))) (fun a => frcI (k.wrap (.negSucc a)) q) n
theorem wrapF_eq (k : IntKind) (n : Int) (q : Int → Ans) : wrapF k n q = q (k.wrap n) := by
  cases n with
  | ofNat a =>
    show Bool.rec (motive := fun _ => Ans) (frcI (k.wrap (.ofNat a)) q) (frcN a fun a => q (.ofNat a)) (Nat.blt a (limF k)) = _
    cases h : Nat.blt a (limF k) with
    | false => exact frcI_eq _ _
    | true =>
      rw [wrap_small k a (by simpa [Nat.blt_eq] using h)]
      exact frcN_eq _ _
  | negSucc a => exact frcI_eq _ _
def blF (b : Bool) (q : Value → Ans) : Ans := Bool.rec (motive := fun _ => Ans) (q (.bool false)) (q (.bool true)) b
theorem blF_eq (b : Bool) (q : Value → Ans) : blF b q = q (.bool b) := by cases b <;> rfl
def ltF (x y : Int) : Bool := Int.rec (motive := fun _ => Bool) (fun a => Int.rec (motive := fun _ => Bool) (fun b => Nat.blt a b) (fun _ => false) y) (fun a => Int.rec (motive := fun _ => Bool) (fun _ => true) (fun b => Nat.blt b a) y) x
theorem ltF_eq (x y : Int) : ltF x y = decide (x < y) := by
  cases x <;> cases y
  · rename_i a b
    show Nat.blt a b = _
    rw [Bool.eq_iff_iff]; simp [Nat.blt_eq]
  · show false = _
    symm
    rw [decide_eq_false_iff_not]
    simp only [Int.ofNat_eq_natCast]; omega
  · show true = _
    symm
    rw [decide_eq_true_iff]
    simp only [Int.ofNat_eq_natCast]; omega
  · rename_i a b
    show Nat.blt b a = _
    rw [Bool.eq_iff_iff]
    simp only [Nat.blt_eq, decide_eq_true_eq]
    omega
def eqF (x y : Int) : Bool := Int.rec (motive := fun _ => Bool) (fun a => Int.rec (motive := fun _ => Bool) (fun b => Nat.beq a b) (fun _ => false) y) (fun a => Int.rec (motive := fun _ => Bool) (fun _ => false) (fun b => Nat.beq a b) y) x
theorem beqN (a b : Nat) : Nat.beq a b = decide (a = b) := by
  rw [Bool.eq_iff_iff]; simp [Nat.beq_eq]
theorem eqF_eq (x y : Int) : eqF x y = (x == y) := by
  have hb : (x == y) = decide (x = y) := by rw [Bool.eq_iff_iff]; simp
  rw [hb]
  cases x <;> cases y
  · rename_i a b
    show Nat.beq a b = _
    rw [beqN]; simp; omega
  · show false = _
    symm; rw [decide_eq_false_iff_not]; simp only [Int.ofNat_eq_natCast]; omega
  · show false = _
    symm; rw [decide_eq_false_iff_not]; simp only [Int.ofNat_eq_natCast]; omega
  · rename_i a b
    show Nat.beq a b = _
    rw [beqN]; simp

def binIF (op : BinOp) : IntKind → Int → Int → (Value → Ans) → Ans → Ans :=
  BinOp.rec (motive := fun _ => IntKind → Int → Int → (Value → Ans) → Ans → Ans)
    (fun k x y q _ => wrapF k (Int.add x y) fun n => q (.int k n))
    (fun k x y q _ => wrapF k (Int.sub x y) fun n => q (.int k n))
    (fun k x y q _ => wrapF k (Int.mul x y) fun n => q (.int k n))
    (fun _ _ _ _ g => g) (fun _ _ _ _ g => g) (fun _ _ _ _ g => g) (fun _ _ _ _ g => g) (fun _ _ _ _ g => g) (fun _ _ _ _ g => g) (fun _ _ _ _ g => g) (fun _ _ _ _ g => g)
    (fun _ x y q _ => blF (eqF x y) q)
    (fun _ x y q _ => blF (not (eqF x y)) q)
    (fun _ x y q _ => blF (ltF x y) q)
    (fun _ x y q _ => blF (not (ltF y x)) q)
    (fun _ x y q _ => blF (ltF y x) q)
    (fun _ x y q _ => blF (not (ltF x y)) q) op
theorem binIF_eq {op : BinOp} {k : IntKind} {x y : Int} {q : Value → Ans} {g : Ans} (hg : g = ob (cond (shiftB op) (shiftD op k x y) (binInt op k x y)) q) : binIF op k x y q g = g := by
  cases op <;> try rfl
  all_goals simp only [shiftB, cond_false, binInt, ob_some] at hg; subst hg
  · exact wrapF_eq _ _ _
  · exact wrapF_eq _ _ _
  · exact wrapF_eq _ _ _
  · refine (blF_eq _ _).trans ?_; rw [eqF_eq]
  · refine (blF_eq _ _).trans ?_; rw [eqF_eq]; try rfl
  · refine (blF_eq _ _).trans ?_; rw [ltF_eq]
  · refine (blF_eq _ _).trans ?_
    rw [ltF_eq]
    congr 2
    rw [Bool.eq_iff_iff]; simp
  · refine (blF_eq _ _).trans ?_; rw [ltF_eq]; try rfl
  · refine (blF_eq _ _).trans ?_
    rw [ltF_eq]
    congr 2
    rw [Bool.eq_iff_iff]; simp

section
variable (P : Program) (K : TypeId → Bool)
def frcV (r : Option Value) (q : Value → Ans) : Ans := ob r fun v => fV 6 v q
theorem frcV_eq (r : Option Value) (q : Value → Ans) : frcV r q = ob r q := by cases r <;> simp [frcV, fV_eq]

def binF (op : BinOp) (ty : TypeId) (x y : Value) (q : Value → Ans) : Ans :=
  (fun g => asInt x (fun k a => asInt y (fun k' b => Bool.rec (motive := fun _ => Ans) g (binIF op k a b q g) (kEq k k')) g) g) (frcV (binD P K op ty x y) q)
theorem binF_eq (op : BinOp) (ty : TypeId) (x y : Value) (q : Value → Ans) : binF P K op ty x y q = ob (binD P K op ty x y) q := by
  unfold binF
  rw [frcV_eq]
  cases x <;> try rfl
  rename_i k a
  cases y <;> try rfl
  rename_i k' b
  show Bool.rec (motive := fun _ => Ans) _ (binIF op k a b q _) (kEq k k') = _
  rw [kEq_eq]
  by_cases h : k = k'
  · subst h
    rw [decide_eq_true rfl]
    refine binIF_eq ?_
    simp [binD]
  · rw [decide_eq_false h]

/-! ### memory -/
def loadF (m : Mem) (ty : TypeId) (v : Value) (q : Value → Ans) : Ans :=
  asPtr v fun b off => Option.rec (motive := fun _ => Ans) none (fun agg => Bool.rec (motive := fun _ => Ans) (cellsOf (getBF m b) fun _ c => nthF c off q)
    (Option.rec (motive := fun _ => Ans) none (fun n => cellsOf (getBF m b) fun _ c => subF c off n fun l => q (.agg ⟨l⟩)) (szOf P ty)) agg) (aggB P ty)
theorem cellsOf_eq (x : Blk) (q : Bool → List Value → Ans) : cellsOf x q = match x with | .cells o c => q o c | _ => none := by cases x <;> rfl
theorem loadF_eq (m : Mem) (ty : TypeId) (v : Value) (q : Value → Ans) : loadF P m ty v q = ob (loadD P m ty v) q := by
  unfold loadF
  rw [asPtr_eq]
  unfold loadD
  cases v <;> try rfl
  rename_i a
  cases a with
  | none => rfl
  | some a =>
    obtain ⟨b, off, sp⟩ := a
    cases sp with
    | some _ => rfl
    | none =>
      simp only [getBF_eq]
      cases aggB P ty with
      | none => rfl
      | some g =>
        cases g with
        | false =>
          simp only [cellsOf_eq]
          cases m.get b <;> try rfl
          exact nthF_eq _ _ _
        | true =>
          simp only
          cases szOf P ty with
          | none => rfl
          | some n =>
            simp only [cellsOf_eq, loadC]
            cases m.get b <;> try rfl
            simp only [subF_eq]
            split <;> rfl

def storeF (m : Mem) (ty : TypeId) (v a : Value) (q : Mem → Ans) : Ans :=
  asPtr a fun b off => Option.rec (motive := fun _ => Ans) none (fun n => cellsF v fun l => Bool.rec (motive := fun _ => Ans) none
    (cellsOf (getBF m b) fun o c => Bool.rec (motive := fun _ => Ans) none (spliceF c off l fun c' => setMF m b (.cells true c') q) o) (Nat.beq (lenLF l) n)) (szOf P ty)
theorem storeF_eq (m : Mem) (ty : TypeId) (v a : Value) (q : Mem → Ans) : storeF P m ty v a q = ob (storeD P m ty v a) q := by
  unfold storeF
  rw [asPtr_eq]
  unfold storeD
  cases a <;> try rfl
  rename_i a
  cases a with
  | none => rfl
  | some a =>
    obtain ⟨b, off, sp⟩ := a
    cases sp with
    | some _ => rfl
    | none =>
      simp only [cellsF_eq, getBF_eq, cellsOf_eq, lenLF_eq]
      cases szOf P ty with
      | none => rfl
      | some n =>
        simp only [beqN]
        by_cases h : v.cells.toList.length = n
        · rw [decide_eq_true h, if_pos h]
          simp only [storeC]
          cases m.get b <;> try rfl
          rename_i o c
          cases o with
          | false => rfl
          | true =>
            simp only [spliceF_eq, setMF_eq]
            split
            · split <;> rfl
            · rfl
        · rw [decide_eq_false h, if_neg h]; rfl

/-! ### places -/
def foD (s : TypeId) (f : Nat) : Option Nat :=
  match P.underlying s with
  | some (.struct fields) => match fields.toList[f]? with
    | some fd => match szOf P fd.type with
      | some n => if n = 0 then none else some fd.offset
      | none => none
    | none => none
  | _ => none
def fieldAddrF (s : TypeId) (f : Nat) (v : Value) (q : Value → Ans) : Ans :=
  asPtr v fun b off => Option.rec (motive := fun _ => Ans) none (fun o => frcN (Nat.add off o) fun off' => q (.pointer (some ⟨b, off', none⟩))) (foD P s f)
theorem fieldAddrF_eq (s : TypeId) (f : Nat) (v : Value) (q : Value → Ans) : fieldAddrF P s f v q = ob (fieldAddrD P s f v) q := by
  unfold fieldAddrF
  rw [asPtr_eq]
  unfold fieldAddrD foD
  cases v <;> try rfl
  rename_i a
  cases a with
  | none => rfl
  | some a =>
    obtain ⟨b, off, sp⟩ := a
    cases sp with
    | some _ => rfl
    | none =>
      simp only [frcN_eq]
      cases P.underlying s with
      | none => rfl
      | some d =>
        cases d <;> try rfl
        rename_i fields
        simp only
        cases fields.toList[f]? with
        | none => rfl
        | some fd =>
          simp only
          cases szOf P fd.type with
          | none => rfl
          | some n => by_cases h : n = 0 <;> simp only [h, if_true, if_false] <;> rfl

/-- What is indexed: an array of so many (or a slice), and the size of an element. -/
def ixD (t : TypeId) : Option (Option Nat × Nat) :=
  match P.underlying t with
  | some (.array len elem) => match szOf P elem with | some size => some (some len, size) | none => none
  | some (.slice elem) => match szOf P elem with | some size => some (none, size) | none => none
  | _ => none
def ixAt (b off size len : Nat) (i : Int) (q : Value → Ans) : Ans :=
  Int.rec (motive := fun _ => Ans) (fun i => Bool.rec (motive := fun _ => Ans) none (frcN (Nat.add off (Nat.mul i size)) fun off' => q (.pointer (some ⟨b, off', none⟩))) (Nat.blt i len)) (fun _ => none) i
theorem ixAt_eq (b off size len : Nat) (i : Int) (q : Value → Ans) : ixAt b off size len i q = ob (if 0 ≤ i ∧ i < (len : Int) then some (.pointer (some ⟨b, off + i.toNat * size, none⟩)) else none) q := by
  cases i with
  | negSucc a => rw [if_neg (by omega)]; rfl
  | ofNat a =>
    show Bool.rec (motive := fun _ => Ans) none (frcN (Nat.add off (Nat.mul a size)) fun off' => q (.pointer (some ⟨b, off', none⟩))) (Nat.blt a len) = _
    by_cases h : a < len
    · have hb : Nat.blt a len = true := by simpa [Nat.blt_eq] using h
      rw [hb, if_pos ⟨by simp, by simpa using h⟩]
      exact frcN_eq _ _
    · have hb : Nat.blt a len = false := by
        cases hb : Nat.blt a len with
        | false => rfl
        | true => exact absurd (by simpa [Nat.blt_eq] using hb) h
      rw [hb, if_neg (by simp only [Int.ofNat_eq_natCast]; omega)]; rfl
def indexAddrF (t : TypeId) (x i : Value) (q : Value → Ans) : Ans :=
  asInt i (fun _ i => Option.rec (motive := fun _ => Ans) none (fun p => Prod.rec (motive := fun _ => Ans) (fun a size =>
    Option.rec (motive := fun _ => Ans) (asSlc x fun b off len => ixAt b off size len i q) (fun len => asPtr x fun b off => ixAt b off size len i q) a) p) (ixD P t)) none
theorem indexAddrF_eq (t : TypeId) (x i : Value) (q : Value → Ans) : indexAddrF P t x i q = ob (indexAddrD P t x i) q := by
  unfold indexAddrF indexAddrD ixD
  cases i <;> try rfl
  rename_i ik i
  show Option.rec (motive := fun _ => Ans) none _ _ = _
  cases P.underlying t with
  | none => rfl
  | some d =>
    cases d <;> try rfl
    · rename_i elem
      simp only
      cases szOf P elem with
      | none => simp only; cases x <;> try rfl
                rename_i a _ _; cases a <;> rfl
      | some size =>
        simp only [asSlc_eq]
        cases x <;> try rfl
        rename_i a n c
        cases a with
        | none => rfl
        | some a => exact ixAt_eq _ _ _ _ _ _
    · rename_i len elem
      simp only
      cases szOf P elem with
      | none => simp only; cases x <;> try rfl
                rename_i a; cases a with
                | none => rfl
                | some a => obtain ⟨b, off, sp⟩ := a; cases sp <;> rfl
      | some size =>
        simp only [asPtr_eq]
        cases x <;> try rfl
        rename_i a
        cases a with
        | none => rfl
        | some a =>
          obtain ⟨b, off, sp⟩ := a
          cases sp with
          | some _ => rfl
          | none => exact ixAt_eq _ _ _ _ _ _
def pfD (t : TypeId) (f : Nat) : Option (TypeId × Nat) :=
  match P.underlying t with
  | some (.struct fields) => match fields.toList[f]? with
    | some fd => some (fd.type, fd.offset)
    | none => none
  | _ => none
/-- part, but sure of its length: 'none' where the list is too short for an aggregate is not what 'part' says, so the list is cut as it is. -/
def frcL (l : List Value) : (List Value → Ans) → Ans := List.rec (motive := fun _ => (List Value → Ans) → Ans) (fun q => q []) (fun x _ ih q => ih fun r => q (x :: r)) l
theorem frcL_eq : ∀ (l : List Value) (q : List Value → Ans), frcL l q = q l
  | [], q => rfl
  | x :: l, q => frcL_eq l fun r => q (x :: r)
def partF (t : TypeId) (cs : List Value) (off : Nat) (q : Value → Ans) : Ans :=
  Option.rec (motive := fun _ => Ans) none (fun agg => Bool.rec (motive := fun _ => Ans) (nthF cs off q) (Option.rec (motive := fun _ => Ans) none (fun n => frcL ((cs.drop off).take n) fun l => q (.agg ⟨l⟩)) (szOf P t)) agg) (aggB P t)
theorem partF_eq (t : TypeId) (cs : List Value) (off : Nat) (q : Value → Ans) : partF P t cs off q = ob (part P t cs off) q := by
  unfold partF part
  cases aggB P t with
  | none => rfl
  | some g =>
    cases g with
    | false => exact nthF_eq _ _ _
    | true =>
      simp only
      cases szOf P t with
      | none => rfl
      | some n => exact frcL_eq _ _
def fieldF (t : TypeId) (f : Nat) (v : Value) (q : Value → Ans) : Ans :=
  asAgg v (fun cs => Option.rec (motive := fun _ => Ans) none (fun p => Prod.rec (motive := fun _ => Ans) (fun u o => partF P u cs.toList o q) p) (pfD P t f)) none
theorem fieldF_eq (t : TypeId) (f : Nat) (v : Value) (q : Value → Ans) : fieldF P t f v q = ob (fieldD P t f v) q := by
  unfold fieldF fieldD pfD
  cases v <;> try rfl
  rename_i cs
  show Option.rec (motive := fun _ => Ans) none _ _ = _
  cases P.underlying t with
  | none => rfl
  | some d =>
    cases d <;> try rfl
    rename_i fields
    simp only
    cases fields.toList[f]? with
    | none => rfl
    | some fd => exact partF_eq _ _ _ _ _
end
end
end Go.DI
