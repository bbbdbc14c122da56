/-
  DiFast: the same interpreter again, told by recursors alone and with continuations: the kernel works it out some ten times quicker than 'callD'.
-/
import Derived.Test.YtapmpddneoghfaaDiStrict
namespace Go.DI
noncomputable section
abbrev Ans := Option (Value × Mem)
def ob {β : Type} (r : Option β) (q : β → Ans) : Ans := match r with | some v => q v | none => none
@[simp] theorem ob_some {β : Type} (v : β) (q : β → Ans) : ob (some v) q = q v := rfl
@[simp] theorem ob_none {β : Type} (q : β → Ans) : ob none q = none := rfl

/-! ### tries -/
section
variable {β : Type}
def lookF (l : List (Nat × β)) : Nat → Option β :=
  List.rec (motive := fun _ => Nat → Option β) (fun _ => none) (fun x _ ih k => Prod.rec (motive := fun _ => Option β) (fun j v => Bool.rec (motive := fun _ => Option β) (ih k) (some v) (Nat.beq j k)) x) l
theorem lookF_eq (k : Nat) : ∀ l : List (Nat × β), lookF l k = Tr.look k l
  | [] => rfl
  | (j, v) :: l => by
    have ih := lookF_eq k l
    simp only [Tr.look]
    rw [← ih]
    show Bool.rec (motive := fun _ => Option β) _ _ (Nat.beq j k) = _
    cases Nat.beq j k <;> rfl

def getF (t : Tr β) : Nat → Nat → Option β :=
  Tr.rec (motive := fun _ => Nat → Nat → Option β) (fun _ _ => none)
    (fun l _ k => lookF l k)
    (fun _ _ il ir p k => Nat.rec (motive := fun _ => Option β) (il (Nat.div p 2) k) (fun _ _ => ir (Nat.div p 2) k) (Nat.mod p 2)) t

theorem bit_cases (p : Nat) : (Nat.mod p 2 = 0 ∧ Nat.beq (p % 2) 0 = true) ∨ (Nat.mod p 2 = 1 ∧ Nat.beq (p % 2) 0 = false) := by
  have : p % 2 = 0 ∨ p % 2 = 1 := by omega
  rcases this with h | h
  · exact .inl ⟨h, by rw [h]; rfl⟩
  · exact .inr ⟨h, by rw [h]; rfl⟩

theorem getF_eq (k : Nat) : ∀ (t : Tr β) (p : Nat), getF t p k = Tr.get t p k
  | .nil, p => rfl
  | .bucket l, p => lookF_eq k l
  | .node l r, p => by
      have il := getF_eq k l (p / 2)
      have ir := getF_eq k r (p / 2)
      simp only [Tr.get]
      rw [← il, ← ir]
      show Nat.rec (motive := fun _ => Option β) _ _ (Nat.mod p 2) = _
      rcases bit_cases p with ⟨h1, h2⟩ | ⟨h1, h2⟩ <;> rw [h1, h2] <;> rfl

def updF (key : Nat) (v : β) (l : List (Nat × β)) : (List (Nat × β) → Ans) → Ans :=
  List.rec (motive := fun _ => (List (Nat × β) → Ans) → Ans) (fun q => q [(key, v)])
    (fun x l ih q => Prod.rec (motive := fun _ => Ans) (fun j u => Bool.rec (motive := fun _ => Ans) (ih fun r => q ((j, u) :: r)) (q ((key, v) :: l)) (Nat.beq j key)) x) l
theorem updF_eq (key : Nat) (v : β) : ∀ (l : List (Nat × β)) (q : List (Nat × β) → Ans), updF key v l q = q (Tr.upd key v l)
  | [], q => rfl
  | (j, u) :: l, q => by
    have ih := updF_eq key v l fun r => q ((j, u) :: r)
    simp only [Tr.upd]
    show Bool.rec (motive := fun _ => Ans) (updF key v l fun r => q ((j, u) :: r)) _ (Nat.beq j key) = _
    rw [ih]
    cases Nat.beq j key <;> rfl

def putN (d : Nat) : Nat → Nat → β → (Tr β → Ans) → Ans :=
  Nat.rec (motive := fun _ => Nat → Nat → β → (Tr β → Ans) → Ans) (fun _ key v q => q (.bucket [(key, v)]))
    (fun _ ih p key v q => Nat.rec (motive := fun _ => Ans) (ih (Nat.div p 2) key v fun l => q (.node l .nil)) (fun _ _ => ih (Nat.div p 2) key v fun r => q (.node .nil r)) (Nat.mod p 2)) d
theorem putN_eq (key : Nat) (v : β) : ∀ (d p : Nat) (q : Tr β → Ans), putN d p key v q = q (Tr.new d p key v)
  | 0, p, q => rfl
  | d + 1, p, q => by
    have ih := putN_eq key v d (p / 2)
    simp only [Tr.new]
    show Nat.rec (motive := fun _ => Ans) (putN d (p / 2) key v fun l => q (.node l .nil)) (fun _ _ => putN d (p / 2) key v fun r => q (.node .nil r)) (Nat.mod p 2) = _
    rw [ih, ih]
    rcases bit_cases p with ⟨h1, h2⟩ | ⟨h1, h2⟩ <;> rw [h1, h2] <;> rfl

def putF (t : Tr β) : Nat → Nat → Nat → β → (Tr β → Ans) → Ans :=
  Tr.rec (motive := fun _ => Nat → Nat → Nat → β → (Tr β → Ans) → Ans)
    (fun d p key v q => putN d p key v q)
    (fun l _ _ key v q => updF key v l fun l => q (.bucket l))
    (fun l r il ir d p key v q => Nat.rec (motive := fun _ => Ans) (il (Nat.sub d 1) (Nat.div p 2) key v fun l => q (.node l r)) (fun _ _ => ir (Nat.sub d 1) (Nat.div p 2) key v fun r => q (.node l r)) (Nat.mod p 2)) t
theorem putF_eq (key : Nat) (v : β) : ∀ (t : Tr β) (d p : Nat) (q : Tr β → Ans), putF t d p key v q = q (Tr.put t d p key v)
  | .nil, d, p, q => putN_eq key v d p q
  | .bucket l, d, p, q => updF_eq key v l _
  | .node l r, d, p, q => by
      have il := fun q => putF_eq key v l (d - 1) (p / 2) q
      have ir := fun q => putF_eq key v r (d - 1) (p / 2) q
      simp only [Tr.put]
      show Nat.rec (motive := fun _ => Ans) (putF l (d - 1) (p / 2) key v fun l => q (.node l r)) (fun _ _ => putF r (d - 1) (p / 2) key v fun r => q (.node l r)) (Nat.mod p 2) = _
      rw [il, ir]
      rcases bit_cases p with ⟨h1, h2⟩ | ⟨h1, h2⟩ <;> rw [h1, h2] <;> rfl
end

def setTF (t : Tmps) (d : Nat) (v : Value) (q : Tmps → Ans) : Ans := putF t 6 d d v q
theorem setTF_eq (t : Tmps) (d : Nat) (v : Value) (q : Tmps → Ans) : setTF t d v q = q (t.set d v) := putF_eq _ _ _ _ _ _
def setMF (m : Mem) (b : Nat) (x : Blk) (q : Mem → Ans) : Ans := Mem.rec (motive := fun _ => Ans) (fun base tr size => putF tr 10 b b x fun tr => q ⟨base, tr, size⟩) m
theorem setMF_eq (m : Mem) (b : Nat) (x : Blk) (q : Mem → Ans) : setMF m b x q = q (m.set b x) := by cases m; exact putF_eq _ _ _ _ _ _
def frcN (n : Nat) (q : Nat → Ans) : Ans := Nat.rec (motive := fun _ => Ans) (q Nat.zero) (fun m _ => q (Nat.succ m)) n
theorem frcN_eq (n : Nat) (q : Nat → Ans) : frcN n q = q n := by cases n <;> rfl
def pushMF (m : Mem) (x : Blk) (q : Mem → Ans) : Ans := Mem.rec (motive := fun _ => Ans) (fun base tr size => putF tr 10 size size x fun tr => frcN (Nat.succ size) fun s => q ⟨base, tr, s⟩) m
theorem pushMF_eq (m : Mem) (x : Blk) (q : Mem → Ans) : pushMF m x q = q (m.push x) := by
  cases m
  simp only [pushMF, putF_eq, frcN_eq]
  rfl
def getTF (t : Tmps) (d : Nat) (q : Value → Ans) : Ans := Option.rec (motive := fun _ => Ans) (q undef) (fun v => q v) (getF t d d)
theorem getTF_eq (t : Tmps) (d : Nat) (q : Value → Ans) : getTF t d q = q (t.at d) := by
  unfold getTF Tmps.at
  rw [getF_eq]
  cases Tr.get t d d <;> rfl
def getBF (m : Mem) (b : Nat) : Blk := Mem.rec (motive := fun _ => Blk) (fun base tr _ => Option.rec (motive := fun _ => Blk) (base b) (fun x => x) (getF tr b b)) m
theorem getBF_eq (m : Mem) (b : Nat) : getBF m b = m.get b := by
  cases m with
  | mk base tr size =>
    show Option.rec (motive := fun _ => Blk) (base b) (fun x => x) (getF tr b b) = match Tr.get tr b b with | some x => x | none => base b
    rw [getF_eq]
    cases Tr.get tr b b <;> rfl
def cellsOf (x : Blk) : (Bool → List Value → Ans) → Ans := Blk.rec (motive := fun _ => (Bool → List Value → Ans) → Ans) (fun _ => none) (fun o c q => q o c) (fun _ _ _ _ => none) (fun _ _ _ => none) x

/-! ### values -/
def asPtr (v : Value) : (Nat → Nat → Ans) → Ans :=
  Value.rec (motive_1 := fun _ => (Nat → Nat → Ans) → Ans) (motive_2 := fun _ => Unit) (motive_3 := fun _ => Unit)
    (fun _ _ => none)
    (fun _ _ _ => none)
    (fun _ _ _ => none)
    (fun _ _ _ _ => none)
    (fun _ _ => none)
    (fun a q => Option.rec (motive := fun _ => Ans) none (fun ad => Addr.rec (motive := fun _ => Ans) (fun b off sp => Option.rec (motive := fun _ => Ans) (q b off) (fun _ => none) sp) ad) a)
    (fun _ _ _ _ => none)
    (fun _ _ => none)
    (fun _ _ => none)
    (fun _ _ _ _ _ _ => none)
    (fun  _ => none)
    (fun _ _ _ _ => none)
    (fun  _ => none)
    (fun _ _ _ => none)
    (fun _ _ _ => none)
    (fun _ _ => ()) () (fun _ _ _ _ => ()) v
def asSlc (v : Value) : (Nat → Nat → Nat → Ans) → Ans :=
  Value.rec (motive_1 := fun _ => (Nat → Nat → Nat → Ans) → Ans) (motive_2 := fun _ => Unit) (motive_3 := fun _ => Unit)
    (fun _ _ => none)
    (fun _ _ _ => none)
    (fun _ _ _ => none)
    (fun _ _ _ _ => none)
    (fun _ _ => none)
    (fun _ _ => none)
    (fun a n _ q => Option.rec (motive := fun _ => Ans) none (fun ad => Addr.rec (motive := fun _ => Ans) (fun b off _ => q b off n) ad) a)
    (fun _ _ => none)
    (fun _ _ => none)
    (fun _ _ _ _ _ _ => none)
    (fun  _ => none)
    (fun _ _ _ _ => none)
    (fun  _ => none)
    (fun _ _ _ => none)
    (fun _ _ _ => none)
    (fun _ _ => ()) () (fun _ _ _ _ => ()) v
def asAgg (v : Value) : (Array Value → Ans) → Ans → Ans :=
  Value.rec (motive_1 := fun _ => (Array Value → Ans) → Ans → Ans) (motive_2 := fun _ => Unit) (motive_3 := fun _ => Unit)
    (fun _ _ d => d)
    (fun _ _ _ d => d)
    (fun _ _ _ d => d)
    (fun _ _ _ _ d => d)
    (fun _ _ d => d)
    (fun _ _ d => d)
    (fun _ _ _ _ d => d)
    (fun _ _ d => d)
    (fun _ _ d => d)
    (fun _ _ _ _ _ _ d => d)
    (fun  _ d => d)
    (fun _ _ _ _ d => d)
    (fun  _ d => d)
    (fun cs _ q _ => q cs)
    (fun _ _ _ d => d)
    (fun _ _ => ()) () (fun _ _ _ _ => ()) v
def asTup (v : Value) : (Array Value → Ans) → Ans :=
  Value.rec (motive_1 := fun _ => (Array Value → Ans) → Ans) (motive_2 := fun _ => Unit) (motive_3 := fun _ => Unit)
    (fun _ _ => none)
    (fun _ _ _ => none)
    (fun _ _ _ => none)
    (fun _ _ _ _ => none)
    (fun _ _ => none)
    (fun _ _ => none)
    (fun _ _ _ _ => none)
    (fun _ _ => none)
    (fun _ _ => none)
    (fun _ _ _ _ _ _ => none)
    (fun  _ => none)
    (fun _ _ _ _ => none)
    (fun  _ => none)
    (fun _ _ _ => none)
    (fun cs _ q => q cs)
    (fun _ _ => ()) () (fun _ _ _ _ => ()) v
def asInt (v : Value) : (IntKind → Int → Ans) → Ans → Ans :=
  Value.rec (motive_1 := fun _ => (IntKind → Int → Ans) → Ans → Ans) (motive_2 := fun _ => Unit) (motive_3 := fun _ => Unit)
    (fun _ _ d => d)
    (fun k n q _ => q k n)
    (fun _ _ _ d => d)
    (fun _ _ _ _ d => d)
    (fun _ _ d => d)
    (fun _ _ d => d)
    (fun _ _ _ _ d => d)
    (fun _ _ d => d)
    (fun _ _ d => d)
    (fun _ _ _ _ _ _ d => d)
    (fun  _ d => d)
    (fun _ _ _ _ d => d)
    (fun  _ d => d)
    (fun _ _ _ d => d)
    (fun _ _ _ d => d)
    (fun _ _ => ()) () (fun _ _ _ _ => ()) v
def asBool (v : Value) : Ans → Ans → Ans :=
  Value.rec (motive_1 := fun _ => Ans → Ans → Ans) (motive_2 := fun _ => Unit) (motive_3 := fun _ => Unit)
    (fun b x y => Bool.rec (motive := fun _ => Ans) y x b)
    (fun _ _ _ _ => none)
    (fun _ _ _ _ => none)
    (fun _ _ _ _ _ => none)
    (fun _ _ _ => none)
    (fun _ _ _ => none)
    (fun _ _ _ _ _ => none)
    (fun _ _ _ => none)
    (fun _ _ _ => none)
    (fun _ _ _ _ _ _ _ => none)
    (fun  _ _ => none)
    (fun _ _ _ _ _ => none)
    (fun  _ _ => none)
    (fun _ _ _ _ => none)
    (fun _ _ _ _ => none)
    (fun _ _ => ()) () (fun _ _ _ _ => ()) v
def asFunc (v : Value) : (FuncId → List Value → List Value → Ans) → Ans :=
  Value.rec (motive_1 := fun _ => (FuncId → List Value → List Value → Ans) → Ans) (motive_2 := fun _ => Unit) (motive_3 := fun _ => Unit)
    (fun _ _ => none)
    (fun _ _ _ => none)
    (fun _ _ _ => none)
    (fun _ _ _ _ => none)
    (fun _ _ => none)
    (fun _ _ => none)
    (fun _ _ _ _ => none)
    (fun _ _ => none)
    (fun _ _ => none)
    (fun fn a b _ _ q => match fn with | .func f => q f a.toList b.toList | _ => none)
    (fun  _ => none)
    (fun _ _ _ _ => none)
    (fun  _ => none)
    (fun _ _ _ => none)
    (fun _ _ _ => none)
    (fun _ _ => ()) () (fun _ _ _ _ => ()) v
def oneF (v : Value) : Bool :=
  Value.rec (motive_1 := fun _ => Bool) (motive_2 := fun _ => Unit) (motive_3 := fun _ => Unit)
    (fun _  => true)
    (fun _ _  => true)
    (fun _ _  => true)
    (fun _ _ _  => true)
    (fun _  => true)
    (fun _  => true)
    (fun _ _ _  => true)
    (fun _  => true)
    (fun _  => true)
    (fun _ _ _ _ _  => true)
    true
    (fun _ _ _  => true)
    true
    (fun _ _ => false)
    (fun _ _ => false)
    (fun _ _ => ()) () (fun _ _ _ _ => ()) v
def isB (v : Value) : Bool :=
  Value.rec (motive_1 := fun _ => Bool) (motive_2 := fun _ => Unit) (motive_3 := fun _ => Unit)
    (fun _ => true)
    (fun _ _  => false)
    (fun _ _  => false)
    (fun _ _ _  => false)
    (fun _  => false)
    (fun _  => false)
    (fun _ _ _  => false)
    (fun _  => false)
    (fun _  => false)
    (fun _ _ _ _ _  => false)
    false
    (fun _ _ _  => false)
    false
    (fun _ _  => false)
    (fun _ _  => false)
    (fun _ _ => ()) () (fun _ _ _ _ => ()) v
def theB (v : Value) : Bool :=
  Value.rec (motive_1 := fun _ => Bool) (motive_2 := fun _ => Unit) (motive_3 := fun _ => Unit)
    (fun b => b)
    (fun _ _  => false)
    (fun _ _  => false)
    (fun _ _ _  => false)
    (fun _  => false)
    (fun _  => false)
    (fun _ _ _  => false)
    (fun _  => false)
    (fun _  => false)
    (fun _ _ _ _ _  => false)
    false
    (fun _ _ _  => false)
    false
    (fun _ _  => false)
    (fun _ _  => false)
    (fun _ _ => ()) () (fun _ _ _ _ => ()) v

theorem asPtr_eq (v : Value) (q : Nat → Nat → Ans) : asPtr v q = match v with | .pointer (some ⟨b, off, none⟩) => q b off | _ => none := by
  cases v <;> try rfl
  rename_i a
  cases a with
  | none => rfl
  | some a => obtain ⟨b, off, sp⟩ := a; cases sp <;> rfl
theorem asSlc_eq (v : Value) (q : Nat → Nat → Nat → Ans) : asSlc v q = match v with | .slice (some ⟨b, off, _⟩) n _ => q b off n | _ => none := by
  cases v <;> try rfl
  rename_i a _ _
  cases a <;> rfl
theorem oneF_eq (v : Value) : oneF v = one v := by cases v <;> rfl

def cellsF (v : Value) (q : List Value → Ans) : Ans := asAgg v (fun cs => q cs.toList) (q [v])
theorem cellsF_eq (v : Value) (q : List Value → Ans) : cellsF v q = q v.cells.toList := by cases v <;> rfl

/-! ### lists -/
def nthF (c : List Value) : Nat → (Value → Ans) → Ans :=
  List.rec (motive := fun _ => Nat → (Value → Ans) → Ans) (fun _ _ => none) (fun a _ ih i q => Nat.rec (motive := fun _ => Ans) (q a) (fun i' _ => ih i' q) i) c
theorem nthF_eq (q : Value → Ans) : ∀ (c : List Value) (i : Nat), nthF c i q = ob c[i]? q
  | [], i => by simp; rfl
  | a :: c, 0 => rfl
  | a :: c, i + 1 => by
    have := nthF_eq q c i
    rw [List.getElem?_cons_succ]
    exact this
def takeF (c : List Value) : Nat → (List Value → Ans) → Ans :=
  List.rec (motive := fun _ => Nat → (List Value → Ans) → Ans) (fun n q => Nat.rec (motive := fun _ => Ans) (q []) (fun _ _ => none) n)
    (fun a _ ih n q => Nat.rec (motive := fun _ => Ans) (q []) (fun n' _ => ih n' fun l => q (a :: l)) n) c
theorem takeF_eq : ∀ (c : List Value) (n : Nat) (q : List Value → Ans), takeF c n q = if n ≤ c.length then q (c.take n) else none
  | [], 0, q => rfl
  | [], n + 1, q => rfl
  | a :: c, 0, q => rfl
  | a :: c, n + 1, q => by
    have := takeF_eq c n fun l => q (a :: l)
    simp only [List.length_cons, Nat.add_le_add_iff_right, List.take_succ_cons]
    exact this
def subF (c : List Value) : Nat → Nat → (List Value → Ans) → Ans :=
  List.rec (motive := fun _ => Nat → Nat → (List Value → Ans) → Ans) (fun off n q => Nat.rec (motive := fun _ => Ans) (takeF [] n q) (fun _ _ => none) off)
    (fun a c ih off n q => Nat.rec (motive := fun _ => Ans) (takeF (a :: c) n q) (fun off' _ => ih off' n q) off) c
theorem subF_eq (n : Nat) (q : List Value → Ans) : ∀ (c : List Value) (off : Nat), subF c off n q = if off + n ≤ c.length then q ((c.drop off).take n) else none
  | [], 0 => by
    have := takeF_eq [] n q
    simp only [Nat.zero_add, List.drop_zero]
    exact this
  | [], off + 1 => by rw [if_neg (by simp)]; rfl
  | a :: c, 0 => by
    have := takeF_eq (a :: c) n q
    simp only [Nat.zero_add, List.drop_zero]
    exact this
  | a :: c, off + 1 => by
    have ih := subF_eq n q c off
    have e : (off + 1 + n ≤ (a :: c).length) = (off + n ≤ c.length) := by simp; omega
    simp only [e, List.drop_succ_cons]
    exact ih
def overF (vs : List Value) : List Value → (List Value → Ans) → Ans :=
  List.rec (motive := fun _ => List Value → (List Value → Ans) → Ans) (fun c q => q c)
    (fun v _ ih c q => List.rec (motive := fun _ => Ans) none (fun _ c' _ => Bool.rec (motive := fun _ => Ans) none (ih c' fun r => q (v :: r)) (oneF v)) c) vs
theorem overF_eq : ∀ (vs c : List Value) (q : List Value → Ans), overF vs c q = if vs.length ≤ c.length ∧ vs.all one = true then q (vs ++ c.drop vs.length) else none
  | [], c, q => by simp; rfl
  | v :: vs, [], q => by simp; rfl
  | v :: vs, a :: c, q => by
    have ih := overF_eq vs c fun r => q (v :: r)
    show Bool.rec (motive := fun _ => Ans) none (overF vs c fun r => q (v :: r)) (oneF v) = _
    rw [ih, oneF_eq]
    cases h : one v <;> simp [h]
def spliceF (c : List Value) : Nat → List Value → (List Value → Ans) → Ans :=
  List.rec (motive := fun _ => Nat → List Value → (List Value → Ans) → Ans) (fun off vs q => Nat.rec (motive := fun _ => Ans) (overF vs [] q) (fun _ _ => none) off)
    (fun a c ih off vs q => Nat.rec (motive := fun _ => Ans) (overF vs (a :: c) q) (fun off' _ => ih off' vs fun r => q (a :: r)) off) c
theorem spliceF_eq (vs : List Value) : ∀ (c : List Value) (off : Nat) (q : List Value → Ans), spliceF c off vs q = if off + vs.length ≤ c.length then (if vs.all one = true then q (splice c off vs) else none) else none
  | [], 0, q => by
    have := overF_eq vs [] q
    simp only [splice, Nat.zero_add, List.take_zero, List.nil_append]
    refine Eq.trans this ?_
    by_cases h1 : vs.length ≤ ([] : List Value).length <;> by_cases h2 : vs.all one = true <;> simp only [h1, h2, and_true, and_false, if_true, if_false, true_and, false_and]
  | [], off + 1, q => by rw [if_neg (by simp)]; rfl
  | a :: c, 0, q => by
    have := overF_eq vs (a :: c) q
    simp only [splice, Nat.zero_add, List.take_zero, List.nil_append]
    refine Eq.trans this ?_
    by_cases h1 : vs.length ≤ (a :: c).length <;> by_cases h2 : vs.all one = true <;> simp only [h1, h2, and_true, and_false, if_true, if_false, true_and, false_and]
  | a :: c, off + 1, q => by
    have ih := spliceF_eq vs c off fun r => q (a :: r)
    have e : (off + 1 + vs.length ≤ (a :: c).length) = (off + vs.length ≤ c.length) := by simp; omega
    have e2 : splice (a :: c) (off + 1) vs = a :: splice c off vs := by
      have : off + 1 + vs.length = (off + vs.length) + 1 := by omega
      simp [splice, this]
    simp only [e, e2]
    exact ih
def lenLF (l : List Value) : Nat := List.rec (motive := fun _ => Nat) Nat.zero (fun _ _ ih => Nat.succ ih) l
theorem lenLF_eq : ∀ l : List Value, lenLF l = l.length
  | [] => rfl
  | a :: l => by
    have := lenLF_eq l
    show Nat.succ (lenLF l) = _
    rw [this]; rfl
def appF (a : List Value) : List Value → (List Value → Ans) → Ans :=
  List.rec (motive := fun _ => List Value → (List Value → Ans) → Ans) (fun b q => q b) (fun x _ ih b q => ih b fun r => q (x :: r)) a
theorem appF_eq : ∀ (a b : List Value) (q : List Value → Ans), appF a b q = q (a ++ b)
  | [], b, q => rfl
  | x :: a, b, q => appF_eq a b fun r => q (x :: r)

/-! ### operands -/
def evF (x : Operand) : Nat → Tmps → (Value → Ans) → Ans :=
  Operand.rec (motive := fun _ => Nat → Tmps → (Value → Ans) → Ans) (fun d _ t q => getTF t d q) (fun v _ _ q => Bool.rec (motive := fun _ => Ans) none (q v) (constV v))
    (fun g G _ q => Bool.rec (motive := fun _ => Ans) none (q (.pointer (some ⟨g, 0, none⟩))) (Nat.blt g G)) (fun f _ _ q => q (.func (.func f) #[] #[])) x
theorem evF_eq (x : Operand) (G : Nat) (t : Tmps) (q : Value → Ans) : evF x G t q = ob (ev G t x) q := by
  cases x with
  | tmp d => exact getTF_eq t d q
  | const v =>
    show Bool.rec (motive := fun _ => Ans) none (q v) (constV v) = _
    simp only [ev]
    cases constV v <;> rfl
  | global g =>
    show Bool.rec (motive := fun _ => Ans) none (q (.pointer (some ⟨g, 0, none⟩))) (Nat.blt g G) = _
    simp only [ev]
    by_cases h : g < G
    · have : Nat.blt g G = true := by simpa [Nat.blt_eq] using h
      rw [this, if_pos h]; rfl
    · have : Nat.blt g G = false := by
        cases hb : Nat.blt g G with
        | false => rfl
        | true => exact absurd (by simpa [Nat.blt_eq] using hb) h
      rw [this, if_neg h]; rfl
  | func f => rfl
def evsF (l : List Operand) : Nat → Tmps → (List Value → Ans) → Ans :=
  List.rec (motive := fun _ => Nat → Tmps → (List Value → Ans) → Ans) (fun _ _ q => q []) (fun x _ ih G t q => evF x G t fun v => ih G t fun vs => q (v :: vs)) l
theorem evsF_eq (G : Nat) (t : Tmps) : ∀ (l : List Operand) (q : List Value → Ans), evsF l G t q = ob (evs G t l) q
  | [], q => rfl
  | x :: l, q => by
    have ih := evsF_eq G t l
    show (evF x G t fun v => evsF l G t fun vs => q (v :: vs)) = _
    rw [evF_eq]
    simp only [evs]
    cases ev G t x with
    | none => rfl
    | some v =>
      simp only [ob_some, ih]
      cases evs G t l <;> rfl
end
end Go.DI
