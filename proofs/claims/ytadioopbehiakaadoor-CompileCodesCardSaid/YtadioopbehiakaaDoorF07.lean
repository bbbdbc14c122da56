/-
  (by symify.py, out of DiFast1: any answer type, nothing forced.) DiFast: the same interpreter again, told by recursors alone and with continuations: the kernel works it out some ten times quicker than 'callD'.
-/
import Derived.Test.YtadioopbehiakaaDoorF06
set_option linter.all false
set_option linter.unusedVariables false
set_option linter.unusedSimpArgs false
namespace Go.DI.Y
noncomputable section
variable {α : Type}
def ob {β : Type} (r : Option β) (q : β → Option α) : Option α := match r with | some v => q v | none => none
@[simp] theorem ob_some {β : Type} (v : β) (q : β → Option α) : ob (some v) q = q v := rfl
@[simp] theorem ob_none {β : Type} (q : β → Option α) : ob none q = none := rfl
/-! ### tries -/
section
variable {β : Type}
def lookF (l : List (Nat × β)) : Nat → Option β :=
  List.rec (motive := fun _ => Nat → Option β) (fun _ => none) (fun x _ ih k => Prod.rec (motive := fun _ => Option β) (fun j v => Bool.rec (motive := fun _ => Option β) (ih k) (some v) (Nat.beq j k)) x) l
theorem lookF_eq (k : Nat) : ∀ l : List (Nat × β), lookF l k = Tr.look k l
  | [] => rfl
  | (j, v) :: l => by
    have ih := lookF_eq k l
    simp only [Tr.look]
    rw [← ih]
    show Bool.rec (motive := fun _ => Option β) _ _ (Nat.beq j k) = _
    cases Nat.beq j k <;> rfl
def getF (t : Tr β) : Nat → Nat → Option β :=
  Tr.rec (motive := fun _ => Nat → Nat → Option β) (fun _ _ => none)
    (fun l _ k => lookF l k)
    (fun _ _ il ir p k => Nat.rec (motive := fun _ => Option β) (il (Nat.div p 2) k) (fun _ _ => ir (Nat.div p 2) k) (Nat.mod p 2)) t
theorem bit_cases (p : Nat) : (Nat.mod p 2 = 0 ∧ Nat.beq (p % 2) 0 = true) ∨ (Nat.mod p 2 = 1 ∧ Nat.beq (p % 2) 0 = false) := by
  have : p % 2 = 0 ∨ p % 2 = 1 := by omega
  rcases this with h | h
  · exact .inl ⟨h, by rw [h]; rfl⟩
  · exact .inr ⟨h, by rw [h]; rfl⟩
theorem getF_eq (k : Nat) : ∀ (t : Tr β) (p : Nat), getF t p k = Tr.get t p k
  | .nil, p => rfl
  | .bucket l, p => lookF_eq k l
  | .node l r, p => by
      have il := getF_eq k l (p / 2)
      have ir := getF_eq k r (p / 2)
      simp only [Tr.get]
      rw [← il, ← ir]
      show Nat.rec (motive := fun _ => Option β) _ _ (Nat.mod p 2) = _
      rcases bit_cases p with ⟨h1, h2⟩ | ⟨h1, h2⟩ <;> rw [h1, h2] <;> rfl
def updF (key : Nat) (v : β) (l : List (Nat × β)) : (List (Nat × β) → Option α) → Option α :=
  List.rec (motive := fun _ => (List (Nat × β) → Option α) → Option α) (fun q => q [(key, v)])
    (fun x l ih q => Prod.rec (motive := fun _ => Option α) (fun j u => Bool.rec (motive := fun _ => Option α) (ih fun r => q ((j, u) :: r)) (q ((key, v) :: l)) (Nat.beq j key)) x) l
theorem updF_eq (key : Nat) (v : β) : ∀ (l : List (Nat × β)) (q : List (Nat × β) → Option α), updF key v l q = q (Tr.upd key v l)
  | [], q => rfl
  | (j, u) :: l, q => by
    have ih := updF_eq key v l fun r => q ((j, u) :: r)
    simp only [Tr.upd]
    show Bool.rec (motive := fun _ => Option α) (updF key v l fun r => q ((j, u) :: r)) _ (Nat.beq j key) = _
    rw [ih]
    cases Nat.beq j key <;> rfl
def putN (d : Nat) : Nat → Nat → β → (Tr β → Option α) → Option α :=
  Nat.rec (motive := fun _ => Nat → Nat → β → (Tr β → Option α) → Option α) (fun _ key v q => q (.bucket [(key, v)]))
    (fun _ ih p key v q => Nat.rec (motive := fun _ => Option α) (ih (Nat.div p 2) key v fun l => q (.node l .nil)) (fun _ _ => ih (Nat.div p 2) key v fun r => q (.node .nil r)) (Nat.mod p 2)) d
theorem putN_eq (key : Nat) (v : β) : ∀ (d p : Nat) (q : Tr β → Option α), putN d p key v q = q (Tr.new d p key v)
  | 0, p, q => rfl
  | d + 1, p, q => by
    have ih := putN_eq key v d (p / 2)
    simp only [Tr.new]
    show Nat.rec (motive := fun _ => Option α) (putN d (p / 2) key v fun l => q (.node l .nil)) (fun _ _ => putN d (p / 2) key v fun r => q (.node .nil r)) (Nat.mod p 2) = _
    rw [ih, ih]
    rcases bit_cases p with ⟨h1, h2⟩ | ⟨h1, h2⟩ <;> rw [h1, h2] <;> rfl
def putF (t : Tr β) : Nat → Nat → Nat → β → (Tr β → Option α) → Option α :=
  Tr.rec (motive := fun _ => Nat → Nat → Nat → β → (Tr β → Option α) → Option α)
    (fun d p key v q => putN d p key v q)
    (fun l _ _ key v q => updF key v l fun l => q (.bucket l))
    (fun l r il ir d p key v q => Nat.rec (motive := fun _ => Option α) (il (Nat.sub d 1) (Nat.div p 2) key v fun l => q (.node l r)) (fun _ _ => ir (Nat.sub d 1) (Nat.div p 2) key v fun r => q (.node l r)) (Nat.mod p 2)) t
theorem putF_eq (key : Nat) (v : β) : ∀ (t : Tr β) (d p : Nat) (q : Tr β → Option α), putF t d p key v q = q (Tr.put t d p key v)
  | .nil, d, p, q => putN_eq key v d p q
  | .bucket l, d, p, q => updF_eq key v l _
  | .node l r, d, p, q => by
      have il := fun q => putF_eq key v l (d - 1) (p / 2) q
      have ir := fun q => putF_eq key v r (d - 1) (p / 2) q
      simp only [Tr.put]
      show Nat.rec (motive := fun _ => Option α) (putF l (d - 1) (p / 2) key v fun l => q (.node l r)) (fun _ _ => putF r (d - 1) (p / 2) key v fun r => q (.node l r)) (Nat.mod p 2) = _
      rw [il, ir]
      rcases bit_cases p with ⟨h1, h2⟩ | ⟨h1, h2⟩ <;> rw [h1, h2] <;> rfl
end
def setTF (t : Tmps) (d : Nat) (v : Value) (q : Tmps → Option α) : Option α := putF t 6 d d v q
theorem setTF_eq (t : Tmps) (d : Nat) (v : Value) (q : Tmps → Option α) : setTF t d v q = q (t.set d v) := putF_eq _ _ _ _ _ _
def setMF (m : Mem) (b : Nat) (x : Blk) (q : Mem → Option α) : Option α := q (m.set b x)
theorem setMF_eq (m : Mem) (b : Nat) (x : Blk) (q : Mem → Option α) : setMF m b x q = q (m.set b x) := rfl
def frcN (n : Nat) (q : Nat → Option α) : Option α := q n
theorem frcN_eq (n : Nat) (q : Nat → Option α) : frcN n q = q n := rfl
def pushMF (m : Mem) (x : Blk) (q : Mem → Option α) : Option α := q (m.push x)
theorem pushMF_eq (m : Mem) (x : Blk) (q : Mem → Option α) : pushMF m x q = q (m.push x) := rfl
def getTF (t : Tmps) (d : Nat) (q : Value → Option α) : Option α := Option.rec (motive := fun _ => Option α) (q undef) (fun v => q v) (getF t d d)
theorem getTF_eq (t : Tmps) (d : Nat) (q : Value → Option α) : getTF t d q = q (t.at d) := by
  unfold getTF Tmps.at
  rw [getF_eq]
  cases Tr.get t d d <;> rfl
def getBF (m : Mem) (b : Nat) : Blk := m.get b
theorem getBF_eq (m : Mem) (b : Nat) : getBF m b = m.get b := rfl
def cellsOf (x : Blk) : (Bool → List Value → Option α) → Option α := Blk.rec (motive := fun _ => (Bool → List Value → Option α) → Option α) (fun _ => none) (fun o c q => q o c) (fun _ _ _ _ => none) (fun _ _ _ => none) x
/-! ### values -/
def asPtr (v : Value) : (Nat → Nat → Option α) → Option α :=
  Value.rec (motive_1 := fun _ => (Nat → Nat → Option α) → Option α) (motive_2 := fun _ => Unit) (motive_3 := fun _ => Unit)
    (fun _ _ => none)
    (fun _ _ _ => none)
    (fun _ _ _ => none)
    (fun _ _ _ _ => none)
    (fun _ _ => none)
    (fun a q => Option.rec (motive := fun _ => Option α) none (fun ad => Addr.rec (motive := fun _ => Option α) (fun b off sp => Option.rec (motive := fun _ => Option α) (q b off) (fun _ => none) sp) ad) a)
    (fun _ _ _ _ => none)
    (fun _ _ => none)
    (fun _ _ => none)
    (fun _ _ _ _ _ _ => none)
    (fun  _ => none)
    (fun _ _ _ _ => none)
    (fun  _ => none)
    (fun _ _ _ => none)
    (fun _ _ _ => none)
    (fun _ _ => ()) () (fun _ _ _ _ => ()) v
def asSlc (v : Value) : (Nat → Nat → Nat → Option α) → Option α :=
  Value.rec (motive_1 := fun _ => (Nat → Nat → Nat → Option α) → Option α) (motive_2 := fun _ => Unit) (motive_3 := fun _ => Unit)
    (fun _ _ => none)
    (fun _ _ _ => none)
    (fun _ _ _ => none)
    (fun _ _ _ _ => none)
    (fun _ _ => none)
    (fun _ _ => none)
    (fun a n _ q => Option.rec (motive := fun _ => Option α) none (fun ad => Addr.rec (motive := fun _ => Option α) (fun b off _ => q b off n) ad) a)
    (fun _ _ => none)
    (fun _ _ => none)
    (fun _ _ _ _ _ _ => none)
    (fun  _ => none)
    (fun _ _ _ _ => none)
    (fun  _ => none)
    (fun _ _ _ => none)
    (fun _ _ _ => none)
    (fun _ _ => ()) () (fun _ _ _ _ => ()) v
def asAgg (v : Value) : (Array Value → Option α) → Option α → Option α :=
  Value.rec (motive_1 := fun _ => (Array Value → Option α) → Option α → Option α) (motive_2 := fun _ => Unit) (motive_3 := fun _ => Unit)
    (fun _ _ d => d)
    (fun _ _ _ d => d)
    (fun _ _ _ d => d)
    (fun _ _ _ _ d => d)
    (fun _ _ d => d)
    (fun _ _ d => d)
    (fun _ _ _ _ d => d)
    (fun _ _ d => d)
    (fun _ _ d => d)
    (fun _ _ _ _ _ _ d => d)
    (fun  _ d => d)
    (fun _ _ _ _ d => d)
    (fun  _ d => d)
    (fun cs _ q _ => q cs)
    (fun _ _ _ d => d)
    (fun _ _ => ()) () (fun _ _ _ _ => ()) v
def asSl (v : Value) : (Option Addr → Nat → Nat → Option α) → Option α → Option α :=
  Value.rec (motive_1 := fun _ => (Option Addr → Nat → Nat → Option α) → Option α → Option α) (motive_2 := fun _ => Unit) (motive_3 := fun _ => Unit)
    (fun _ _ d => d)
    (fun _ _ _ d => d)
    (fun _ _ _ d => d)
    (fun _ _ _ _ d => d)
    (fun _ _ d => d)
    (fun _ _ d => d)
    (fun a n c q _ => q a n c)
    (fun _ _ d => d)
    (fun _ _ d => d)
    (fun _ _ _ _ _ _ d => d)
    (fun  _ d => d)
    (fun _ _ _ _ d => d)
    (fun  _ d => d)
    (fun _ _ _ d => d)
    (fun _ _ _ d => d)
    (fun _ _ => ()) () (fun _ _ _ _ => ()) v
def asPt (v : Value) : (Option Addr → Option α) → Option α → Option α :=
  Value.rec (motive_1 := fun _ => (Option Addr → Option α) → Option α → Option α) (motive_2 := fun _ => Unit) (motive_3 := fun _ => Unit)
    (fun _ _ d => d)
    (fun _ _ _ d => d)
    (fun _ _ _ d => d)
    (fun _ _ _ _ d => d)
    (fun _ _ d => d)
    (fun a q _ => q a)
    (fun _ _ _ _ d => d)
    (fun _ _ d => d)
    (fun _ _ d => d)
    (fun _ _ _ _ _ _ d => d)
    (fun  _ d => d)
    (fun _ _ _ _ d => d)
    (fun  _ d => d)
    (fun _ _ _ d => d)
    (fun _ _ _ d => d)
    (fun _ _ => ()) () (fun _ _ _ _ => ()) v
def asTup (v : Value) : (Array Value → Option α) → Option α :=
  Value.rec (motive_1 := fun _ => (Array Value → Option α) → Option α) (motive_2 := fun _ => Unit) (motive_3 := fun _ => Unit)
    (fun _ _ => none)
    (fun _ _ _ => none)
    (fun _ _ _ => none)
    (fun _ _ _ _ => none)
    (fun _ _ => none)
    (fun _ _ => none)
    (fun _ _ _ _ => none)
    (fun _ _ => none)
    (fun _ _ => none)
    (fun _ _ _ _ _ _ => none)
    (fun  _ => none)
    (fun _ _ _ _ => none)
    (fun  _ => none)
    (fun _ _ _ => none)
    (fun cs _ q => q cs)
    (fun _ _ => ()) () (fun _ _ _ _ => ()) v
def asInt (v : Value) : (IntKind → Int → Option α) → Option α → Option α :=
  Value.rec (motive_1 := fun _ => (IntKind → Int → Option α) → Option α → Option α) (motive_2 := fun _ => Unit) (motive_3 := fun _ => Unit)
    (fun _ _ d => d)
    (fun k n q _ => q k n)
    (fun _ _ _ d => d)
    (fun _ _ _ _ d => d)
    (fun _ _ d => d)
    (fun _ _ d => d)
    (fun _ _ _ _ d => d)
    (fun _ _ d => d)
    (fun _ _ d => d)
    (fun _ _ _ _ _ _ d => d)
    (fun  _ d => d)
    (fun _ _ _ _ d => d)
    (fun  _ d => d)
    (fun _ _ _ d => d)
    (fun _ _ _ d => d)
    (fun _ _ => ()) () (fun _ _ _ _ => ()) v
def asBool (v : Value) : Option α → Option α → Option α :=
  Value.rec (motive_1 := fun _ => Option α → Option α → Option α) (motive_2 := fun _ => Unit) (motive_3 := fun _ => Unit)
    (fun b x y => Bool.rec (motive := fun _ => Option α) y x b)
    (fun _ _ _ _ => none)
    (fun _ _ _ _ => none)
    (fun _ _ _ _ _ => none)
    (fun _ _ _ => none)
    (fun _ _ _ => none)
    (fun _ _ _ _ _ => none)
    (fun _ _ _ => none)
    (fun _ _ _ => none)
    (fun _ _ _ _ _ _ _ => none)
    (fun  _ _ => none)
    (fun _ _ _ _ _ => none)
    (fun  _ _ => none)
    (fun _ _ _ _ => none)
    (fun _ _ _ _ => none)
    (fun _ _ => ()) () (fun _ _ _ _ => ()) v
def asBo (v : Value) : (Bool → Option α) → Option α → Option α :=
  Value.rec (motive_1 := fun _ => (Bool → Option α) → Option α → Option α) (motive_2 := fun _ => Unit) (motive_3 := fun _ => Unit)
    (fun b q _ => q b)
    (fun _ _ _ d => d)
    (fun _ _ _ d => d)
    (fun _ _ _ _ d => d)
    (fun _ _ d => d)
    (fun _ _ d => d)
    (fun _ _ _ _ d => d)
    (fun _ _ d => d)
    (fun _ _ d => d)
    (fun _ _ _ _ _ _ d => d)
    (fun _ d => d)
    (fun _ _ _ _ d => d)
    (fun _ d => d)
    (fun _ _ _ d => d)
    (fun _ _ _ d => d)
    (fun _ _ => ()) () (fun _ _ _ _ => ()) v
def asFunc (v : Value) : (FuncId → List Value → List Value → Option α) → Option α :=
  Value.rec (motive_1 := fun _ => (FuncId → List Value → List Value → Option α) → Option α) (motive_2 := fun _ => Unit) (motive_3 := fun _ => Unit)
    (fun _ _ => none)
    (fun _ _ _ => none)
    (fun _ _ _ => none)
    (fun _ _ _ _ => none)
    (fun _ _ => none)
    (fun _ _ => none)
    (fun _ _ _ _ => none)
    (fun _ _ => none)
    (fun _ _ => none)
    (fun fn a b _ _ q => match fn with | .func f => q f a.toList b.toList | _ => none)
    (fun  _ => none)
    (fun _ _ _ _ => none)
    (fun  _ => none)
    (fun _ _ _ => none)
    (fun _ _ _ => none)
    (fun _ _ => ()) () (fun _ _ _ _ => ()) v
def oneF (v : Value) : Bool :=
  Value.rec (motive_1 := fun _ => Bool) (motive_2 := fun _ => Unit) (motive_3 := fun _ => Unit)
    (fun _  => true)
    (fun _ _  => true)
    (fun _ _  => true)
    (fun _ _ _  => true)
    (fun _  => true)
    (fun _  => true)
    (fun _ _ _  => true)
    (fun _  => true)
    (fun _  => true)
    (fun _ _ _ _ _  => true)
    true
    (fun _ _ _  => true)
    true
    (fun _ _ => false)
    (fun _ _ => false)
    (fun _ _ => ()) () (fun _ _ _ _ => ()) v
def isB (v : Value) : Bool :=
  Value.rec (motive_1 := fun _ => Bool) (motive_2 := fun _ => Unit) (motive_3 := fun _ => Unit)
    (fun _ => true)
    (fun _ _  => false)
    (fun _ _  => false)
    (fun _ _ _  => false)
    (fun _  => false)
    (fun _  => false)
    (fun _ _ _  => false)
    (fun _  => false)
    (fun _  => false)
    (fun _ _ _ _ _  => false)
    false
    (fun _ _ _  => false)
    false
    (fun _ _  => false)
    (fun _ _  => false)
    (fun _ _ => ()) () (fun _ _ _ _ => ()) v
def theB (v : Value) : Bool :=
  Value.rec (motive_1 := fun _ => Bool) (motive_2 := fun _ => Unit) (motive_3 := fun _ => Unit)
    (fun b => b)
    (fun _ _  => false)
    (fun _ _  => false)
    (fun _ _ _  => false)
    (fun _  => false)
    (fun _  => false)
    (fun _ _ _  => false)
    (fun _  => false)
    (fun _  => false)
    (fun _ _ _ _ _  => false)
    false
    (fun _ _ _  => false)
    false
    (fun _ _  => false)
    (fun _ _  => false)
    (fun _ _ => ()) () (fun _ _ _ _ => ()) v
theorem asPtr_eq (v : Value) (q : Nat → Nat → Option α) : asPtr v q = match v with | .pointer (some ⟨b, off, none⟩) => q b off | _ => none := by
  cases v <;> try rfl
  rename_i a
  cases a with
  | none => rfl
  | some a => obtain ⟨b, off, sp⟩ := a; cases sp <;> rfl
theorem asSlc_eq (v : Value) (q : Nat → Nat → Nat → Option α) : asSlc v q = match v with | .slice (some ⟨b, off, _⟩) n _ => q b off n | _ => none := by
  cases v <;> try rfl
  rename_i a _ _
  cases a <;> rfl
theorem oneF_eq (v : Value) : oneF v = one v := by cases v <;> rfl
def cellsF (v : Value) (q : List Value → Option α) : Option α := asAgg v (fun cs => q cs.toList) (q [v])
theorem cellsF_eq (v : Value) (q : List Value → Option α) : cellsF v q = q v.cells.toList := by cases v <;> rfl
/-! ### lists -/
def nthL (c : List Value) : Nat → Option Value :=
  List.rec (motive := fun _ => Nat → Option Value) (fun _ => none) (fun a _ ih i => Nat.rec (motive := fun _ => Option Value) (some a) (fun i' _ => ih i') i) c
theorem nthL_eq : ∀ (c : List Value) (i : Nat), nthL c i = c[i]?
  | [], i => by simp; rfl
  | a :: c, 0 => rfl
  | a :: c, i + 1 => by
    have := nthL_eq c i
    rw [List.getElem?_cons_succ]
    exact this
def nthF (c : List Value) (i : Nat) (q : Value → Option α) : Option α := Option.rec (motive := fun _ => Option α) none (fun v => q v) (nthL c i)
theorem nthF_eq (q : Value → Option α) (c : List Value) (i : Nat) : nthF c i q = ob c[i]? q := by
  unfold nthF
  rw [nthL_eq]
  cases c[i]? <;> rfl
def lenLF (l : List Value) : Nat := List.rec (motive := fun _ => Nat) Nat.zero (fun _ _ ih => Nat.succ ih) l
theorem lenLF_eq : ∀ l : List Value, lenLF l = l.length
  | [] => rfl
  | a :: l => by
    have := lenLF_eq l
    show Nat.succ (lenLF l) = _
    rw [this]; rfl
def dropL (c : List Value) (n : Nat) : List Value :=
  Nat.rec (motive := fun _ => List Value → List Value) (fun c => c) (fun _ ih c => List.rec (motive := fun _ => List Value) [] (fun _ c' _ => ih c') c) n c
theorem dropL_eq : ∀ (c : List Value) (i : Nat), dropL c i = c.drop i
  | c, 0 => rfl
  | [], i + 1 => rfl
  | a :: c, i + 1 => by
    rw [List.drop_succ_cons]
    exact dropL_eq c i
def takeL (c : List Value) : Nat → List Value :=
  List.rec (motive := fun _ => Nat → List Value) (fun _ => []) (fun a _ ih i => Nat.rec (motive := fun _ => List Value) [] (fun i' _ => a :: ih i') i) c
theorem takeL_eq : ∀ (c : List Value) (i : Nat), takeL c i = c.take i
  | [], i => by simp; rfl
  | a :: c, 0 => rfl
  | a :: c, i + 1 => by
    rw [List.take_succ_cons, ← takeL_eq c i]
    rfl
def subL (c : List Value) (off n : Nat) : List Value := takeL (dropL c off) n
theorem subL_eq (c : List Value) (off n : Nat) : subL c off n = (c.drop off).take n := by rw [subL, takeL_eq, dropL_eq]
def subF (c : List Value) (off n : Nat) (q : List Value → Option α) : Option α := Bool.rec (motive := fun _ => Option α) none (q (subL c off n)) (Nat.ble (Nat.add off n) (lenLF c))
theorem subF_eq (n : Nat) (q : List Value → Option α) (c : List Value) (off : Nat) : subF c off n q = if off + n ≤ c.length then q ((c.drop off).take n) else none := by
  unfold subF
  rw [lenLF_eq, subL_eq]
  show Bool.rec (motive := fun _ => Option α) none _ (Nat.ble (off + n) c.length) = _
  by_cases h : off + n ≤ c.length
  · rw [if_pos h, Nat.ble_eq_true_of_le h]
  · rw [if_neg h, show Nat.ble (off + n) c.length = false from Bool.eq_false_iff.2 fun g => h (Nat.le_of_ble_eq_true g)]
def overF (vs : List Value) : List Value → (List Value → Option α) → Option α :=
  List.rec (motive := fun _ => List Value → (List Value → Option α) → Option α) (fun c q => q c)
    (fun v _ ih c q => List.rec (motive := fun _ => Option α) none (fun _ c' _ => Bool.rec (motive := fun _ => Option α) none (ih c' fun r => q (v :: r)) (oneF v)) c) vs
theorem overF_eq : ∀ (vs c : List Value) (q : List Value → Option α), overF vs c q = if vs.length ≤ c.length ∧ vs.all one = true then q (vs ++ c.drop vs.length) else none
  | [], c, q => by simp; rfl
  | v :: vs, [], q => by simp; rfl
  | v :: vs, a :: c, q => by
    have ih := overF_eq vs c fun r => q (v :: r)
    show Bool.rec (motive := fun _ => Option α) none (overF vs c fun r => q (v :: r)) (oneF v) = _
    rw [ih, oneF_eq]
    cases h : one v <;> simp [h]
def spliceF (c : List Value) : Nat → List Value → (List Value → Option α) → Option α :=
  List.rec (motive := fun _ => Nat → List Value → (List Value → Option α) → Option α) (fun off vs q => Nat.rec (motive := fun _ => Option α) (overF vs [] q) (fun _ _ => none) off)
    (fun a c ih off vs q => Nat.rec (motive := fun _ => Option α) (overF vs (a :: c) q) (fun off' _ => ih off' vs fun r => q (a :: r)) off) c
theorem spliceF_eq (vs : List Value) : ∀ (c : List Value) (off : Nat) (q : List Value → Option α), spliceF c off vs q = if off + vs.length ≤ c.length then (if vs.all one = true then q (splice c off vs) else none) else none
  | [], 0, q => by
    have := overF_eq vs [] q
    simp only [splice, Nat.zero_add, List.take_zero, List.nil_append]
    refine Eq.trans this ?_
    by_cases h1 : vs.length ≤ ([] : List Value).length <;> by_cases h2 : vs.all one = true <;> simp only [h1, h2, and_true, and_false, if_true, if_false, true_and, false_and]
  | [], off + 1, q => by rw [if_neg (by simp)]; rfl
  | a :: c, 0, q => by
    have := overF_eq vs (a :: c) q
    simp only [splice, Nat.zero_add, List.take_zero, List.nil_append]
    refine Eq.trans this ?_
    by_cases h1 : vs.length ≤ (a :: c).length <;> by_cases h2 : vs.all one = true <;> simp only [h1, h2, and_true, and_false, if_true, if_false, true_and, false_and]
  | a :: c, off + 1, q => by
    have ih := spliceF_eq vs c off fun r => q (a :: r)
    have e : (off + 1 + vs.length ≤ (a :: c).length) = (off + vs.length ≤ c.length) := by simp; omega
    have e2 : splice (a :: c) (off + 1) vs = a :: splice c off vs := by
      have : off + 1 + vs.length = (off + vs.length) + 1 := by omega
      simp [splice, this]
    simp only [e, e2]
    exact ih
def appF (a : List Value) : List Value → (List Value → Option α) → Option α :=
  List.rec (motive := fun _ => List Value → (List Value → Option α) → Option α) (fun b q => q b) (fun x _ ih b q => ih b fun r => q (x :: r)) a
theorem appF_eq : ∀ (a b : List Value) (q : List Value → Option α), appF a b q = q (a ++ b)
  | [], b, q => rfl
  | x :: a, b, q => appF_eq a b fun r => q (x :: r)
/-! ### operands -/
def evF (x : Operand) : Nat → Tmps → (Value → Option α) → Option α :=
  Operand.rec (motive := fun _ => Nat → Tmps → (Value → Option α) → Option α) (fun d _ t q => getTF t d q) (fun v _ _ q => Bool.rec (motive := fun _ => Option α) none (q v) (constV v))
    (fun g G _ q => Bool.rec (motive := fun _ => Option α) none (q (.pointer (some ⟨g, 0, none⟩))) (Nat.blt g G)) (fun f _ _ q => q (.func (.func f) #[] #[])) x
theorem evF_eq (x : Operand) (G : Nat) (t : Tmps) (q : Value → Option α) : evF x G t q = ob (ev G t x) q := by
  cases x with
  | tmp d => exact getTF_eq t d q
  | const v =>
    show Bool.rec (motive := fun _ => Option α) none (q v) (constV v) = _
    simp only [ev]
    cases constV v <;> rfl
  | global g =>
    show Bool.rec (motive := fun _ => Option α) none (q (.pointer (some ⟨g, 0, none⟩))) (Nat.blt g G) = _
    simp only [ev]
    by_cases h : g < G
    · have : Nat.blt g G = true := by simpa [Nat.blt_eq] using h
      rw [this, if_pos h]; rfl
    · have : Nat.blt g G = false := by
        cases hb : Nat.blt g G with
        | false => rfl
        | true => exact absurd (by simpa [Nat.blt_eq] using hb) h
      rw [this, if_neg h]; rfl
  | func f => rfl
def evsF (l : List Operand) : Nat → Tmps → (List Value → Option α) → Option α :=
  List.rec (motive := fun _ => Nat → Tmps → (List Value → Option α) → Option α) (fun _ _ q => q []) (fun x _ ih G t q => evF x G t fun v => ih G t fun vs => q (v :: vs)) l
theorem evsF_eq (G : Nat) (t : Tmps) : ∀ (l : List Operand) (q : List Value → Option α), evsF l G t q = ob (evs G t l) q
  | [], q => rfl
  | x :: l, q => by
    have ih := evsF_eq G t l
    show (evF x G t fun v => evsF l G t fun vs => q (v :: vs)) = _
    rw [evF_eq]
    simp only [evs]
    cases ev G t x with
    | none => rfl
    | some v =>
      simp only [ob_some, ih]
      cases evs G t l <;> rfl
end
end Go.DI.Y
namespace Go.DI.Y
noncomputable section
variable {α : Type}
theorem beqN (a b : Nat) : Nat.beq a b = decide (a = b) := by
  rw [Bool.eq_iff_iff]; simp [Nat.beq_eq]
/-! ### numbers -/
def kNo (k : IntKind) : Nat := IntKind.rec (motive := fun _ => Nat) 0 1 2 3 4 5 6 7 k
def kEq (k k' : IntKind) : Bool := Nat.beq (kNo k) (kNo k')
theorem kEq_eq (k k' : IntKind) : kEq k k' = decide (k = k') := by cases k <;> cases k' <;> rfl
def wrapF (k : IntKind) (n : Int) (q : Int → Option α) : Option α := q (k.wrap n)
def blF (b : Bool) (q : Value → Option α) : Option α := Bool.rec (motive := fun _ => Option α) (q (.bool false)) (q (.bool true)) b
theorem blF_eq (b : Bool) (q : Value → Option α) : blF b q = q (.bool b) := by cases b <;> rfl
def ltF (x y : Int) : Bool := Int.rec (motive := fun _ => Bool) (fun a => Int.rec (motive := fun _ => Bool) (fun b => Nat.blt a b) (fun _ => false) y) (fun a => Int.rec (motive := fun _ => Bool) (fun _ => true) (fun b => Nat.blt b a) y) x
theorem ltF_eq (x y : Int) : ltF x y = decide (x < y) := by
  cases x <;> cases y
  · rename_i a b
    show Nat.blt a b = _
    rw [Bool.eq_iff_iff]; simp [Nat.blt_eq]
  · show false = _
    symm
    rw [decide_eq_false_iff_not]
    simp only [Int.ofNat_eq_natCast]; omega
  · show true = _
    symm
    rw [decide_eq_true_iff]
    simp only [Int.ofNat_eq_natCast]; omega
  · rename_i a b
    show Nat.blt b a = _
    rw [Bool.eq_iff_iff]
    simp only [Nat.blt_eq, decide_eq_true_eq]
    omega
def eqF (x y : Int) : Bool := Int.rec (motive := fun _ => Bool) (fun a => Int.rec (motive := fun _ => Bool) (fun b => Nat.beq a b) (fun _ => false) y) (fun a => Int.rec (motive := fun _ => Bool) (fun _ => false) (fun b => Nat.beq a b) y) x
theorem eqF_eq (x y : Int) : eqF x y = (x == y) := by
  have hb : (x == y) = decide (x = y) := by rw [Bool.eq_iff_iff]; simp
  rw [hb]
  cases x <;> cases y
  · rename_i a b
    show Nat.beq a b = _
    rw [beqN]; simp; omega
  · show false = _
    symm; rw [decide_eq_false_iff_not]; simp only [Int.ofNat_eq_natCast]; omega
  · show false = _
    symm; rw [decide_eq_false_iff_not]; simp only [Int.ofNat_eq_natCast]; omega
  · rename_i a b
    show Nat.beq a b = _
    rw [beqN]; simp
def binIF (op : BinOp) : IntKind → Int → Int → (Value → Option α) → Option α → Option α :=
  BinOp.rec (motive := fun _ => IntKind → Int → Int → (Value → Option α) → Option α → Option α)
    (fun k x y q _ => wrapF k (Int.add x y) fun n => q (.int k n))
    (fun k x y q _ => wrapF k (Int.sub x y) fun n => q (.int k n))
    (fun k x y q _ => wrapF k (Int.mul x y) fun n => q (.int k n))
    (fun _ _ _ _ g => g) (fun _ _ _ _ g => g) (fun _ _ _ _ g => g) (fun _ _ _ _ g => g) (fun _ _ _ _ g => g) (fun _ _ _ _ g => g) (fun _ _ _ _ g => g) (fun _ _ _ _ g => g)
    (fun _ x y q _ => blF (eqF x y) q)
    (fun _ x y q _ => blF (not (eqF x y)) q)
    (fun _ x y q _ => blF (ltF x y) q)
    (fun _ x y q _ => blF (not (ltF y x)) q)
    (fun _ x y q _ => blF (ltF y x) q)
    (fun _ x y q _ => blF (not (ltF x y)) q) op
theorem binIF_eq {op : BinOp} {k : IntKind} {x y : Int} {q : Value → Option α} {g : Option α} (hg : g = ob (cond (shiftB op) (shiftD op k x y) (binInt op k x y)) q) : binIF op k x y q g = g := by
  cases op <;> try rfl
  all_goals simp only [shiftB, cond_false, binInt, ob_some] at hg; subst hg
  · rfl
  · rfl
  · rfl
  · refine (blF_eq _ _).trans ?_; rw [eqF_eq]
  · refine (blF_eq _ _).trans ?_; rw [eqF_eq]; try rfl
  · refine (blF_eq _ _).trans ?_; rw [ltF_eq]
  · refine (blF_eq _ _).trans ?_
    rw [ltF_eq]
    congr 2
    rw [Bool.eq_iff_iff]; simp
  · refine (blF_eq _ _).trans ?_; rw [ltF_eq]; try rfl
  · refine (blF_eq _ _).trans ?_
    rw [ltF_eq]
    congr 2
    rw [Bool.eq_iff_iff]; simp
section
variable (P : Program) (K : TypeId → Bool)
def frcV (r : Option Value) (q : Value → Option α) : Option α := ob r q
theorem frcV_eq (r : Option Value) (q : Value → Option α) : frcV r q = ob r q := rfl
def bkF (op : BinOp) (ty : TypeId) (x y : Value) (q : Value → Option α) : Option α :=
  match x with
  | .agg xs => (match y with
    | .agg ys => (match K ty with
      | true => (match op with
        | .eql => Option.rec (motive := fun _ => Option α) none (fun r => blF r q) (feq P K 100 ty (.agg xs) (.agg ys))
        | .neq => Option.rec (motive := fun _ => Option α) none (fun r => blF (not r) q) (feq P K 100 ty (.agg xs) (.agg ys))
        | _ => none)
      | false => none)
    | _ => none)
  | x => ob (binD P K op ty x y) q
theorem bkF_eq (op : BinOp) (ty : TypeId) (x y : Value) (q : Value → Option α) : bkF P K op ty x y q = ob (binD P K op ty x y) q := by
  unfold bkF
  cases x <;> try rfl
  cases y <;> try rfl
  simp only [binD]
  cases K ty with
  | false => rfl
  | true =>
    cases op <;> try rfl
    all_goals
      simp only [if_true, eqD]
      cases feq P K 100 ty _ _ with
      | none => rfl
      | some r => exact blF_eq _ _
def binF (op : BinOp) (ty : TypeId) (x y : Value) (q : Value → Option α) : Option α :=
  (fun g => asInt x (fun k a => asInt y (fun k' b => Bool.rec (motive := fun _ => Option α) g (binIF op k a b q g) (kEq k k')) g) g) (bkF P K op ty x y q)
theorem binF_eq (op : BinOp) (ty : TypeId) (x y : Value) (q : Value → Option α) : binF P K op ty x y q = ob (binD P K op ty x y) q := by
  unfold binF
  rw [bkF_eq]
  cases x <;> try rfl
  rename_i k a
  cases y <;> try rfl
  rename_i k' b
  show Bool.rec (motive := fun _ => Option α) _ (binIF op k a b q _) (kEq k k') = _
  rw [kEq_eq]
  by_cases h : k = k'
  · subst h
    rw [decide_eq_true rfl]
    refine binIF_eq ?_
    simp [binD]
  · rw [decide_eq_false h]
/-! ### memory -/
def loadF (m : Mem) (ty : TypeId) (v : Value) (q : Value → Option α) : Option α :=
  asPtr v fun b off => Option.rec (motive := fun _ => Option α) none (fun agg => Bool.rec (motive := fun _ => Option α) (cellsOf (getBF m b) fun _ c => nthF c off q)
    (Option.rec (motive := fun _ => Option α) none (fun n => cellsOf (getBF m b) fun _ c => subF c off n fun l => q (.agg ⟨l⟩)) (szOf P ty)) agg) (aggB P ty)
theorem cellsOf_eq (x : Blk) (q : Bool → List Value → Option α) : cellsOf x q = match x with | .cells o c => q o c | _ => none := by cases x <;> rfl
theorem loadF_eq (m : Mem) (ty : TypeId) (v : Value) (q : Value → Option α) : loadF P m ty v q = ob (loadD P m ty v) q := by
  unfold loadF
  rw [asPtr_eq]
  unfold loadD
  cases v <;> try rfl
  rename_i a
  cases a with
  | none => rfl
  | some a =>
    obtain ⟨b, off, sp⟩ := a
    cases sp with
    | some _ => rfl
    | none =>
      simp only [getBF_eq]
      cases aggB P ty with
      | none => rfl
      | some g =>
        cases g with
        | false =>
          simp only [cellsOf_eq]
          cases m.get b <;> try rfl
          exact nthF_eq _ _ _
        | true =>
          simp only
          cases szOf P ty with
          | none => rfl
          | some n =>
            simp only [cellsOf_eq, loadC]
            cases m.get b <;> try rfl
            simp only [subF_eq]
            split <;> rfl
def allOneF (l : List Value) : Bool := List.rec (motive := fun _ => Bool) true (fun v _ ih => Bool.rec (motive := fun _ => Bool) false ih (oneF v)) l
theorem allOneF_eq : ∀ l : List Value, allOneF l = l.all one
  | [] => rfl
  | v :: l => by
    have ih := allOneF_eq l
    show Bool.rec (motive := fun _ => Bool) false (allOneF l) (oneF v) = _
    rw [ih, oneF_eq, List.all_cons]
    cases one v <;> rfl
def wholeF (c : List Value) (off n : Nat) : Bool := Bool.rec (motive := fun _ => Bool) false (Nat.beq (lenLF c) n) (Nat.beq off 0)
def putCF (m : Mem) (b : Nat) (c : List Value) (off n : Nat) (l : List Value) (q : Mem → Option α) : Option α :=
  Bool.rec (motive := fun _ => Option α) (spliceF c off l fun c' => setMF m b (.cells true c') q) (Bool.rec (motive := fun _ => Option α) none (setMF m b (.cells true l) q) (allOneF l)) (wholeF c off n)
theorem putCF_eq (m : Mem) (b : Nat) (c : List Value) (off n : Nat) (l : List Value) (hl : l.length = n) (q : Mem → Option α) : putCF m b c off n l q = spliceF c off l fun c' => setMF m b (.cells true c') q := by
  unfold putCF wholeF
  rw [lenLF_eq, allOneF_eq, beqN, beqN]
  by_cases h1 : off = 0
  · by_cases h2 : c.length = n
    · subst h1 h2
      rw [decide_eq_true rfl, decide_eq_true rfl, spliceF_eq]
      have h3 : 0 + l.length ≤ c.length := by omega
      have h4 : splice c 0 l = l := by simp [splice, List.drop_of_length_le (show c.length ≤ l.length by omega)]
      rw [if_pos h3, h4]
      cases l.all one <;> simp [setMF]
    · subst h1
      rw [decide_eq_true rfl, decide_eq_false h2]
  · rw [decide_eq_false h1]
def storeF (m : Mem) (ty : TypeId) (v a : Value) (q : Mem → Option α) : Option α :=
  asPtr a fun b off => Option.rec (motive := fun _ => Option α) none (fun n => cellsF v fun l => Bool.rec (motive := fun _ => Option α) none
    (cellsOf (getBF m b) fun o c => Bool.rec (motive := fun _ => Option α) none (putCF m b c off n l q) o) (Nat.beq (lenLF l) n)) (szOf P ty)
theorem storeF_eq (m : Mem) (ty : TypeId) (v a : Value) (q : Mem → Option α) : storeF P m ty v a q = ob (storeD P m ty v a) q := by
  unfold storeF
  rw [asPtr_eq]
  unfold storeD
  cases a <;> try rfl
  rename_i a
  cases a with
  | none => rfl
  | some a =>
    obtain ⟨b, off, sp⟩ := a
    cases sp with
    | some _ => rfl
    | none =>
      simp only [cellsF_eq, getBF_eq, cellsOf_eq, lenLF_eq]
      cases szOf P ty with
      | none => rfl
      | some n =>
        simp only [beqN]
        by_cases h : v.cells.toList.length = n
        · rw [decide_eq_true h, if_pos h]
          simp only [storeC]
          cases m.get b <;> try rfl
          rename_i o c
          cases o with
          | false => rfl
          | true =>
            simp only [putCF_eq _ _ _ _ _ _ h, spliceF_eq, setMF_eq]
            split
            · split <;> rfl
            · rfl
        · rw [decide_eq_false h, if_neg h]; rfl
def shF (ty : TypeId) (v : Value) (q : Value → Option α) : Option α :=
  match P.underlying ty with
  | some (.int k) => asInt v (fun k' n => Bool.rec (motive := fun _ => Option α) none (q (.int k n)) (kEq k k')) none
  | some .bool => asBo v (fun b => q (.bool b)) none
  | some (.struct _) => asAgg v (fun cs => q (.agg cs)) none
  | some (.array _ _) => asAgg v (fun cs => q (.agg cs)) none
  | some (.slice _) => asSl v (fun a n c => q (.slice a n c)) none
  | some (.pointer _) => asPt v (fun a => q (.pointer a)) none
  | _ => q v
theorem shF_eq (ty : TypeId) (v : Value) (q : Value → Option α) : shF P ty v q = ob (shD P ty (some v)) q := by
  unfold shF shD shp
  cases P.underlying ty with
  | none => rfl
  | some d =>
    cases d <;> try rfl
    all_goals
      simp only
      cases v <;> try rfl
      try
        rename_i k k' n
        show Bool.rec (motive := fun _ => Option α) _ _ (kEq k k') = _
        simp only [kEq_eq]
        by_cases h : k = k'
        · subst h
          simp [ob_some]
        · simp [h, ob_none]
/-! ### places -/
def foD (s : TypeId) (f : Nat) : Option Nat :=
  match P.underlying s with
  | some (.struct fields) => match fields.toList[f]? with
    | some fd => match szOf P fd.type with
      | some n => if n = 0 then none else some fd.offset
      | none => none
    | none => none
  | _ => none
def fieldAddrF (s : TypeId) (f : Nat) (v : Value) (q : Value → Option α) : Option α :=
  asPtr v fun b off => Option.rec (motive := fun _ => Option α) none (fun o => frcN (Nat.add off o) fun off' => q (.pointer (some ⟨b, off', none⟩))) (foD P s f)
theorem fieldAddrF_eq (s : TypeId) (f : Nat) (v : Value) (q : Value → Option α) : fieldAddrF P s f v q = ob (fieldAddrD P s f v) q := by
  unfold fieldAddrF
  rw [asPtr_eq]
  unfold fieldAddrD foD
  cases v <;> try rfl
  rename_i a
  cases a with
  | none => rfl
  | some a =>
    obtain ⟨b, off, sp⟩ := a
    cases sp with
    | some _ => rfl
    | none =>
      simp only [frcN_eq]
      cases P.underlying s with
      | none => rfl
      | some d =>
        cases d <;> try rfl
        rename_i fields
        simp only
        cases fields.toList[f]? with
        | none => rfl
        | some fd =>
          simp only
          cases szOf P fd.type with
          | none => rfl
          | some n => by_cases h : n = 0 <;> simp only [h, if_true, if_false] <;> rfl
def ixD (t : TypeId) : Option (Option Nat × Nat) :=
  match P.underlying t with
  | some (.array len elem) => match szOf P elem with | some size => some (some len, size) | none => none
  | some (.slice elem) => match szOf P elem with | some size => some (none, size) | none => none
  | _ => none
def ixAt (b off size len : Nat) (i : Int) (q : Value → Option α) : Option α :=
  Int.rec (motive := fun _ => Option α) (fun i => Bool.rec (motive := fun _ => Option α) none (frcN (Nat.add off (Nat.mul i size)) fun off' => q (.pointer (some ⟨b, off', none⟩))) (Nat.blt i len)) (fun _ => none) i
theorem ixAt_eq (b off size len : Nat) (i : Int) (q : Value → Option α) : ixAt b off size len i q = ob (if 0 ≤ i ∧ i < (len : Int) then some (.pointer (some ⟨b, off + i.toNat * size, none⟩)) else none) q := by
  cases i with
  | negSucc a => rw [if_neg (by omega)]; rfl
  | ofNat a =>
    show Bool.rec (motive := fun _ => Option α) none (frcN (Nat.add off (Nat.mul a size)) fun off' => q (.pointer (some ⟨b, off', none⟩))) (Nat.blt a len) = _
    by_cases h : a < len
    · have hb : Nat.blt a len = true := by simpa [Nat.blt_eq] using h
      rw [hb, if_pos ⟨by simp, by simpa using h⟩]
      exact frcN_eq _ _
    · have hb : Nat.blt a len = false := by
        cases hb : Nat.blt a len with
        | false => rfl
        | true => exact absurd (by simpa [Nat.blt_eq] using hb) h
      rw [hb, if_neg (by simp only [Int.ofNat_eq_natCast]; omega)]; rfl
def indexAddrF (t : TypeId) (x i : Value) (q : Value → Option α) : Option α :=
  asInt i (fun _ i => Option.rec (motive := fun _ => Option α) none (fun p => Prod.rec (motive := fun _ => Option α) (fun a size =>
    Option.rec (motive := fun _ => Option α) (asSlc x fun b off len => ixAt b off size len i q) (fun len => asPtr x fun b off => ixAt b off size len i q) a) p) (ixD P t)) none
theorem indexAddrF_eq (t : TypeId) (x i : Value) (q : Value → Option α) : indexAddrF P t x i q = ob (indexAddrD P t x i) q := by
  unfold indexAddrF indexAddrD ixD
  cases i <;> try rfl
  rename_i ik i
  show Option.rec (motive := fun _ => Option α) none _ _ = _
  cases P.underlying t with
  | none => rfl
  | some d =>
    cases d <;> try rfl
    · rename_i elem
      simp only
      cases szOf P elem with
      | none => simp only; cases x <;> try rfl
                rename_i a _ _; cases a <;> rfl
      | some size =>
        simp only [asSlc_eq]
        cases x <;> try rfl
        rename_i a n c
        cases a with
        | none => rfl
        | some a => exact ixAt_eq _ _ _ _ _ _
    · rename_i len elem
      simp only
      cases szOf P elem with
      | none => simp only; cases x <;> try rfl
                rename_i a; cases a with
                | none => rfl
                | some a => obtain ⟨b, off, sp⟩ := a; cases sp <;> rfl
      | some size =>
        simp only [asPtr_eq]
        cases x <;> try rfl
        rename_i a
        cases a with
        | none => rfl
        | some a =>
          obtain ⟨b, off, sp⟩ := a
          cases sp with
          | some _ => rfl
          | none => exact ixAt_eq _ _ _ _ _ _
def pfD (t : TypeId) (f : Nat) : Option (TypeId × Nat) :=
  match P.underlying t with
  | some (.struct fields) => match fields.toList[f]? with
    | some fd => some (fd.type, fd.offset)
    | none => none
  | _ => none
def frcL (l : List Value) (q : List Value → Option α) : Option α := q l
theorem frcL_eq (l : List Value) (q : List Value → Option α) : frcL l q = q l := rfl
def partF (t : TypeId) (cs : List Value) (off : Nat) (q : Value → Option α) : Option α :=
  Option.rec (motive := fun _ => Option α) none (fun agg => Bool.rec (motive := fun _ => Option α) (nthF cs off q) (Option.rec (motive := fun _ => Option α) none (fun n => frcL (subL cs off n) fun l => q (.agg ⟨l⟩)) (szOf P t)) agg) (aggB P t)
theorem partF_eq (t : TypeId) (cs : List Value) (off : Nat) (q : Value → Option α) : partF P t cs off q = ob (part P t cs off) q := by
  unfold partF part
  cases aggB P t with
  | none => rfl
  | some g =>
    cases g with
    | false => exact nthF_eq _ _ _
    | true =>
      simp only
      cases szOf P t with
      | none => rfl
      | some n => simp only [subL_eq]; exact frcL_eq _ _
def fieldF (t : TypeId) (f : Nat) (v : Value) (q : Value → Option α) : Option α :=
  asAgg v (fun cs => Option.rec (motive := fun _ => Option α) none (fun p => Prod.rec (motive := fun _ => Option α) (fun u o => partF P u cs.toList o q) p) (pfD P t f)) none
theorem fieldF_eq (t : TypeId) (f : Nat) (v : Value) (q : Value → Option α) : fieldF P t f v q = ob (fieldD P t f v) q := by
  unfold fieldF fieldD pfD
  cases v <;> try rfl
  rename_i cs
  show Option.rec (motive := fun _ => Option α) none _ _ = _
  cases P.underlying t with
  | none => rfl
  | some d =>
    cases d <;> try rfl
    rename_i fields
    simp only
    cases fields.toList[f]? with
    | none => rfl
    | some fd => exact partF_eq _ _ _ _ _
/-! ### maps -/
def missF (et : TypeId) (ok : Bool) (q : Value → Option α) : Option α :=
  Option.rec (motive := fun _ => Option α) none (fun z => Bool.rec (motive := fun _ => Option α) none (q (cond ok (.tuple #[z, .bool false]) z)) (constV z)) (zeroOf P et)
def lookupIn (kt et : TypeId) (k : Value) (ok : Bool) (es : List MapEntry) (q : Value → Option α) : Option α :=
  Bool.rec (motive := fun _ => Option α) none (Option.rec (motive := fun _ => Option α) none (fun r => Option.rec (motive := fun _ => Option α) (missF P et ok q) (fun p => Prod.rec (motive := fun _ => Option α) (fun _ v => shF P et v fun v => q (cond ok (.tuple #[v, .bool true]) v)) p) r) (findD P K kt k es 0)) (keyOk P 100 kt k)
def lookupF (m : Mem) (t : TypeId) (x k : Value) (ok : Bool) (q : Value → Option α) : Option α :=
  match P.underlying t with
  | some (.map kt et) => match entriesD m x with
    | some es => lookupIn P K kt et k ok es q
    | none => none
  | _ => none
theorem lookupF_eq (m : Mem) (t : TypeId) (x k : Value) (ok : Bool) (q : Value → Option α) : lookupF P K m t x k ok q = ob (lookupD P K m t x k ok) q := by
  unfold lookupF lookupD
  cases P.underlying t with
  | none => rfl
  | some d =>
    cases d <;> try rfl
    rename_i kt et
    simp only
    cases entriesD m x with
    | none => rfl
    | some es =>
      simp only [lookupIn]
      cases keyOk P 100 kt k with
      | false => rfl
      | true =>
        simp only [if_true]
        cases findD P K kt k es 0 with
        | none => rfl
        | some r =>
          cases r with
          | some p =>
            obtain ⟨i, v⟩ := p
            simp only [shF_eq, shD]
            cases shp P et v <;> rfl
          | none =>
            simp only [missF]
            cases zeroOf P et with
            | none => rfl
            | some z =>
              simp only
              cases constV z <;> rfl
def updIn (kt : TypeId) (m : Mem) (r : Nat) (k v : Value) (es : List MapEntry) (clock : Nat) (q : Mem → Option α) : Option α :=
  Bool.rec (motive := fun _ => Option α) none (Option.rec (motive := fun _ => Option α) none (fun x => Option.rec (motive := fun _ => Option α) (setMF m r (.map true (es ++ [{ key := k, val := v, born := clock }]) (clock + 1)) q)
    (fun p => Prod.rec (motive := fun _ => Option α) (fun i _ => Option.rec (motive := fun _ => Option α) none (fun e => Bool.rec (motive := fun _ => Option α) none (setMF m r (.map true (modE i k v es) clock) q) (Instr.sameBits 10000 e.key k)) es[i]?) p) x) (findD P K kt k es 0)) (keyOk P 100 kt k)
def mapUpdateF (m : Mem) (t : TypeId) (x k v : Value) (q : Mem → Option α) : Option α :=
  match P.underlying t with
  | some (.map kt _) => match x with
    | .map (some r) => match getBF m r with
      | .map true es clock => updIn P K kt m r k v es clock q
      | _ => none
    | _ => none
  | _ => none
theorem mapUpdateF_eq (m : Mem) (t : TypeId) (x k v : Value) (q : Mem → Option α) : mapUpdateF P K m t x k v q = ob (mapUpdateD P K m t x k v) q := by
  unfold mapUpdateF mapUpdateD
  cases P.underlying t with
  | none => rfl
  | some d =>
    cases d <;> try rfl
    rename_i kt et
    simp only
    cases x <;> try rfl
    rename_i r
    cases r with
    | none => rfl
    | some r =>
      simp only [getBF_eq]
      cases m.get r with
      | none => rfl
      | cells => rfl
      | siter => rfl
      | map o es clock =>
        cases o with
        | false => rfl
        | true =>
          simp only [updIn, setMF_eq]
          cases keyOk P 100 kt k with
          | false => rfl
          | true =>
            simp only [if_true]
            cases findD P K kt k es 0 with
            | none => rfl
            | some x =>
              cases x with
              | none => rfl
              | some p =>
                obtain ⟨i, u⟩ := p
                simp only
                cases es[i]? with
                | none => rfl
                | some e =>
                  simp only
                  cases Instr.sameBits 10000 e.key k <;> rfl
end
end
end Go.DI.Y
