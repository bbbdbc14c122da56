/- The law FlowKnown, a closed one: the interpreter, shape.Check's contracts, the run. -/
import Derived.Orders
import Derived.Below
import Derived.Laws.Sem
import Derived.Laws.StructEq
import Derived.ChangeKeysEq
import Derived.Laws.Cells
set_option linter.all false
set_option linter.unusedVariables false
set_option linter.unusedSimpArgs false
/-
  DiTree: a finite map by numbers (a trie with buckets): what the deterministic interpreter's memory and frames are made of.
-/
namespace Go.DI

inductive Tr (α : Type) where
  | nil
  | bucket (l : List (Nat × α))
  | node (l r : Tr α)

def Tr.look {α : Type} (k : Nat) : List (Nat × α) → Option α
  | [] => none
  | (j, v) :: l => cond (Nat.beq j k) (some v) (Tr.look k l)

def Tr.upd {α : Type} (k : Nat) (v : α) : List (Nat × α) → List (Nat × α)
  | [] => [(k, v)]
  | (j, u) :: l => cond (Nat.beq j k) ((k, v) :: l) ((j, u) :: Tr.upd k v l)

def Tr.get {α : Type} : Tr α → Nat → Nat → Option α
  | .nil, _, _ => none
  | .bucket l, _, k => Tr.look k l
  | .node l r, p, k => cond (Nat.beq (p % 2) 0) (Tr.get l (p / 2) k) (Tr.get r (p / 2) k)

def Tr.new {α : Type} : Nat → Nat → Nat → α → Tr α
  | 0, _, k, v => .bucket [(k, v)]
  | d + 1, p, k, v => cond (Nat.beq (p % 2) 0) (.node (Tr.new d (p / 2) k v) .nil) (.node .nil (Tr.new d (p / 2) k v))

def Tr.put {α : Type} : Tr α → Nat → Nat → Nat → α → Tr α
  | .nil, d, p, k, v => Tr.new d p k v
  | .bucket l, _, _, k, v => .bucket (Tr.upd k v l)
  | .node l r, d, p, k, v => cond (Nat.beq (p % 2) 0) (.node (Tr.put l (d - 1) (p / 2) k v) r) (.node l (Tr.put r (d - 1) (p / 2) k v))

theorem beq_ne {a b : Nat} (h : a ≠ b) : Nat.beq a b = false := by
  cases hb : Nat.beq a b with
  | false => rfl
  | true => exact absurd (Nat.eq_of_beq_eq_true hb) h

theorem Tr.look_upd {α : Type} (k j : Nat) (v : α) (l : List (Nat × α)) : Tr.look j (Tr.upd k v l) = if j = k then some v else Tr.look j l := by
  induction l with
  | nil =>
    simp only [Tr.upd, Tr.look]
    by_cases h : j = k
    · subst h; simp
    · simp [beq_ne (Ne.symm h), h]
  | cons x l ih =>
    obtain ⟨i, u⟩ := x
    simp only [Tr.upd]
    cases hb : Nat.beq i k with
    | true =>
      have hik := Nat.eq_of_beq_eq_true hb
      subst hik
      simp only [cond_true, Tr.look]
      by_cases h : j = i
      · subst h; simp
      · simp [beq_ne (Ne.symm h), h]
    | false =>
      simp only [cond_false, Tr.look, ih]
      by_cases h : j = k
      · subst h; simp [hb]
      · simp [h]

theorem Tr.get_new_same {α : Type} (k : Nat) (v : α) : ∀ (d p : Nat), Tr.get (Tr.new d p k v) p k = some v
  | 0, p => by simp [Tr.new, Tr.get, Tr.look]
  | d + 1, p => by
    have ih := Tr.get_new_same k v d (p / 2)
    simp only [Tr.new]
    cases hb : Nat.beq (p % 2) 0 <;> simp only [cond_true, cond_false, Tr.get, hb, ih]

theorem Tr.get_put_same {α : Type} (k : Nat) (v : α) : ∀ (t : Tr α) (d p : Nat), Tr.get (Tr.put t d p k v) p k = some v
  | .nil, d, p => Tr.get_new_same k v d p
  | .bucket l, d, p => by simp [Tr.put, Tr.get, Tr.look_upd]
  | .node l r, d, p => by
    have il := Tr.get_put_same k v l (d - 1) (p / 2)
    have ir := Tr.get_put_same k v r (d - 1) (p / 2)
    simp only [Tr.put]
    cases hb : Nat.beq (p % 2) 0 <;> simp only [cond_true, cond_false, Tr.get, hb, il, ir]

theorem Tr.get_nil {α : Type} (p k : Nat) : Tr.get (.nil : Tr α) p k = none := rfl

theorem Tr.get_new_ne {α : Type} (k j : Nat) (h : j ≠ k) (v : α) : ∀ (d p q : Nat), Tr.get (Tr.new d p k v) q j = none
  | 0, p, q => by simp [Tr.new, Tr.get, Tr.look, beq_ne (Ne.symm h)]
  | d + 1, p, q => by
    have ih := Tr.get_new_ne k j h v d (p / 2) (q / 2)
    simp only [Tr.new]
    cases hb : Nat.beq (p % 2) 0 <;> cases hc : Nat.beq (q % 2) 0 <;> simp only [cond_true, cond_false, Tr.get, hc, ih]

theorem Tr.get_put_ne {α : Type} (k j : Nat) (h : j ≠ k) (v : α) : ∀ (t : Tr α) (d p q : Nat), Tr.get (Tr.put t d p k v) q j = Tr.get t q j
  | .nil, d, p, q => Tr.get_new_ne k j h v d p q
  | .bucket l, d, p, q => by simp [Tr.put, Tr.get, Tr.look_upd, h]
  | .node l r, d, p, q => by
    have il := Tr.get_put_ne k j h v l (d - 1) (p / 2) (q / 2)
    have ir := Tr.get_put_ne k j h v r (d - 1) (p / 2) (q / 2)
    simp only [Tr.put]
    cases hb : Nat.beq (p % 2) 0 <;> cases hc : Nat.beq (q % 2) 0 <;> simp only [cond_true, cond_false, Tr.get, hc, il, ir]

theorem Tr.get_put {α : Type} (k j : Nat) (v : α) (d : Nat) (t : Tr α) : Tr.get (Tr.put t d k k v) j j = if j = k then some v else Tr.get t j j := by
  by_cases h : j = k
  · subst h; simp [Tr.get_put_same]
  · simp [h, Tr.get_put_ne k j h]

/-- A frame's slots. -/
abbrev Tmps := Tr Value
def Tmps.at (t : Tmps) (d : Nat) : Value := match Tr.get t d d with | some v => v | none => undef
def Tmps.set (t : Tmps) (d : Nat) (v : Value) : Tmps := Tr.put t 6 d d v
theorem Tmps.at_set (t : Tmps) (d e : Nat) (v : Value) : (t.set d v).at e = if e = d then v else t.at e := by
  simp only [Tmps.at, Tmps.set, Tr.get_put]
  by_cases h : e = d <;> simp [h]
theorem Tmps.at_set_same (t : Tmps) (d : Nat) (v : Value) : (t.set d v).at d = v := by simp [Tmps.at_set]
theorem Tmps.at_set_ne (t : Tmps) {d e : Nat} (h : e ≠ d) (v : Value) : (t.set d v).at e = t.at e := by simp [Tmps.at_set, h]

/-- A block of the memory. -/
inductive Blk where
  | none
  | cells (own : Bool) (c : List Value)
  | map (own : Bool) (es : List MapEntry) (clock : Nat)
  | siter (s : ByteArray) (pos : Nat)
  deriving Inhabited

structure Mem where
  base : Nat → Blk
  tr : Tr Blk
  size : Nat

def Mem.get (m : Mem) (b : Nat) : Blk := match Tr.get m.tr b b with | some x => x | none => m.base b
def Mem.set (m : Mem) (b : Nat) (x : Blk) : Mem := { base := m.base, tr := Tr.put m.tr 10 b b x, size := m.size }
def Mem.push (m : Mem) (x : Blk) : Mem := { base := m.base, tr := Tr.put m.tr 10 m.size m.size x, size := m.size + 1 }

theorem Mem.get_set (m : Mem) (b j : Nat) (x : Blk) : (m.set b x).get j = if j = b then x else m.get j := by
  simp only [Mem.get, Mem.set, Tr.get_put]
  by_cases h : j = b <;> simp [h]
theorem Mem.get_push (m : Mem) (j : Nat) (x : Blk) : (m.push x).get j = if j = m.size then x else m.get j := by
  simp only [Mem.get, Mem.push, Tr.get_put]
  by_cases h : j = m.size <;> simp [h]
@[simp] theorem Mem.size_set (m : Mem) (b : Nat) (x : Blk) : (m.set b x).size = m.size := rfl
@[simp] theorem Mem.size_push (m : Mem) (x : Blk) : (m.push x).size = m.size + 1 := rfl
theorem Mem.get_set_same (m : Mem) (b : Nat) (x : Blk) : (m.set b x).get b = x := by simp [Mem.get_set]
theorem Mem.get_set_ne (m : Mem) {b j : Nat} (h : j ≠ b) (x : Blk) : (m.set b x).get j = m.get j := by simp [Mem.get_set, h]
theorem Mem.get_push_same (m : Mem) (x : Blk) : (m.push x).get m.size = x := by simp [Mem.get_push]
theorem Mem.get_push_ne (m : Mem) {j : Nat} (h : j ≠ m.size) (x : Blk) : (m.push x).get j = m.get j := by simp [Mem.get_push, h]

end Go.DI
/-
  DiCore: A DETERMINISTIC INTERPRETER over the model's own code, with a memory of its own ('Mem': blocks by number).
  What a run of it answers, every run of the model answers, whatever its tape is (DiRun). One goroutine; no panic.
-/
namespace Go.DI

section
variable (P : Program) (K : TypeId → Bool) (G : Nat)

/-! ### types -/
def szOf (t : TypeId) : Option Nat := match P.info? t with | some i => some i.size | none => none
def bytesOf (t : TypeId) : Option Nat := match P.info? t with | some i => some i.bytes | none => none
def zeroOf (t : TypeId) : Option Value := match P.info? t with | some i => i.zero | none => none
def aggB (t : TypeId) : Option Bool := match P.underlying t with | some (.struct _) => some true | some (.array _ _) => some true | some _ => some false | none => none

/-- A constant without addresses. -/
def bareV : Value → Bool
  | .int .. | .bool _ | .string _ | .pointer none | .slice none 0 0 | .map none | .nilFunc | .nilIface => true
  | _ => false
def constV : Value → Bool
  | .agg cs => cs.toList.all bareV
  | .tuple cs => cs.toList.all bareV
  | v => bareV v

def ev (t : Tmps) : Operand → Option Value
  | .tmp d => some (t.at d)
  | .const v => cond (constV v) (some v) none
  | .global g => if g < G then some (.pointer (some ⟨g, 0, none⟩)) else none
  | .func f => some (.func (.func f) #[] #[])

def evs (t : Tmps) : List Operand → Option (List Value)
  | [] => some []
  | x :: l => match ev G t x with
    | some v => match evs t l with
      | some vs => some (v :: vs)
      | none => none
    | none => none

def part (t : TypeId) (cs : List Value) (off : Nat) : Option Value :=
  match aggB P t with
  | some true => match szOf P t with
    | some n => some (.agg ((cs.drop off).take n).toArray)
    | none => none
  | some false => cs[off]?
  | none => none

def one : Value → Bool
  | .agg _ | .tuple _ => false
  | _ => true

/-! ### memory -/
def loadC (m : Mem) (b off n : Nat) : Option (List Value) :=
  match m.get b with
  | .cells _ c => if off + n ≤ c.length then some ((c.drop off).take n) else none
  | _ => none

def splice (c : List Value) (off : Nat) (vs : List Value) : List Value := c.take off ++ (vs ++ c.drop (off + vs.length))

def storeC (m : Mem) (b off : Nat) (vs : List Value) : Option Mem :=
  match m.get b with
  | .cells true c => if off + vs.length ≤ c.length then (if vs.all one then some (m.set b (.cells true (splice c off vs))) else none) else none
  | _ => none

def loadD (m : Mem) (t : TypeId) : Value → Option Value
  | .pointer (some ⟨b, off, none⟩) => match aggB P t with
    | some true => match szOf P t with
      | some n => match loadC m b off n with
        | some c => some (.agg c.toArray)
        | none => none
      | none => none
    | some false => match m.get b with
      | .cells _ c => c[off]?
      | _ => none
    | none => none
  | _ => none

/-- Is the value of the type's shape? -/
def shp (t : TypeId) (v : Value) : Bool :=
  match P.underlying t with
  | some (.int k) => (match v with | .int k' _ => decide (k = k') | _ => false)
  | some .bool => (match v with | .bool _ => true | _ => false)
  | some (.struct _) | some (.array _ _) => (match v with | .agg _ => true | _ => false)
  | some (.slice _) => (match v with | .slice _ _ _ => true | _ => false)
  | some (.pointer _) => (match v with | .pointer _ => true | _ => false)
  | _ => true
def shD (t : TypeId) : Option Value → Option Value
  | some v => cond (shp P t v) (some v) none
  | none => none
theorem shD_some {P : Program} {t : TypeId} {o : Option Value} {v : Value} (h : shD P t o = some v) : o = some v := by
  cases o with
  | none => simp [shD] at h
  | some u =>
    simp only [shD] at h
    cases hs : shp P t u <;> simp [hs] at h
    rw [h]

def storeD (m : Mem) (t : TypeId) (x : Value) : Value → Option Mem
  | .pointer (some ⟨b, off, none⟩) =>
    match szOf P t with
    | some n => if x.cells.toList.length = n then storeC m b off x.cells.toList else none
    | none => none
  | _ => none

/-! ### numbers, strings -/
def binInt (op : BinOp) (k : IntKind) (x y : Int) : Option Value :=
  match op with
  | .add => some (.int k (k.wrap (x + y)))
  | .sub => some (.int k (k.wrap (x - y)))
  | .mul => some (.int k (k.wrap (x * y)))
  | .quo => if y = 0 then none else some (.int k (k.wrap (x.tdiv y)))
  | .rem => if y = 0 then none else some (.int k (x.tmod y))
  | .and => some (.int k (k.wrap (BitVec.ofInt k.bits x &&& BitVec.ofInt k.bits y).toNat))
  | .or => some (.int k (k.wrap (BitVec.ofInt k.bits x ||| BitVec.ofInt k.bits y).toNat))
  | .xor => some (.int k (k.wrap (BitVec.ofInt k.bits x ^^^ BitVec.ofInt k.bits y).toNat))
  | .andNot => some (.int k (k.wrap (BitVec.ofInt k.bits x &&& ~~~ BitVec.ofInt k.bits y).toNat))
  | .eql => some (.bool (x == y))
  | .neq => some (.bool (x != y))
  | .lss => some (.bool (x < y))
  | .leq => some (.bool (x ≤ y))
  | .gtr => some (.bool (x > y))
  | .geq => some (.bool (x ≥ y))
  | _ => none

def shiftD (op : BinOp) (k : IntKind) (x y : Int) : Option Value :=
  if y < 0 then none else
  match op with
  | .shl => some (.int k (k.wrap (x * 2 ^ (min y.toNat k.bits))))
  | .shr => some (.int k (x.fdiv (2 ^ (min y.toNat k.bits))))
  | _ => none

def binStr (op : BinOp) (x y : ByteArray) : Option Value :=
  match op with
  | .add => if ((x.size + y.size : Nat) : Int) ≤ 9223372036854775807 then some (.string (x ++ y)) else none
  | .eql => some (.bool (x.toList == y.toList))
  | .neq => some (.bool !(x.toList == y.toList))
  | .lss => some (.bool (Op.bytesLess x.toList y.toList))
  | .leq => some (.bool (Op.bytesLess x.toList y.toList || x.toList == y.toList))
  | .gtr => some (.bool !(Op.bytesLess x.toList y.toList || x.toList == y.toList))
  | .geq => some (.bool !(Op.bytesLess x.toList y.toList))
  | _ => none

/-! ### equality -/
def feqL (f : Nat → Option Bool) : Nat → Nat → Option Bool
  | 0, _ => some true
  | n + 1, i => match f i with
    | some true => feqL f n (i + 1)
    | some false => some false
    | none => none

def feqF (g : TypeId → Nat → Option Bool) : List Field → Option Bool
  | [] => some true
  | f :: l => if f.name = "_" then none else match g f.type f.offset with
    | some true => feqF g l
    | some false => some false
    | none => none

def feq : Nat → TypeId → Value → Value → Option Bool
  | 0, _, _, _ => none
  | d + 1, t, x, y =>
    match P.underlying t with
    | some .bool => match x, y with | .bool a, .bool b => some (a == b) | _, _ => none
    | some (.int _) => match x, y with | .int k a, .int k' b => if k = k' then some (a == b) else none | _, _ => none
    | some .string => match x, y with | .string a, .string b => some (a == b) | _, _ => none
    | some (.pointer _) => match x, y with
      | .pointer none, .pointer b => some b.isNone
      | .pointer (some _), .pointer none => some false
      | _, _ => none
    | some (.slice _) => match x, y with
      | .slice none _ _, .slice b _ _ => some b.isNone
      | .slice (some _) _ _, .slice none _ _ => some false
      | _, _ => none
    | some (.map _ _) => match x, y with
      | .map none, .map b => some b.isNone
      | .map (some _), .map none => some false
      | _, _ => none
    | some (.func _ _ _) => match x, y with
      | .nilFunc, .nilFunc => some true
      | .nilFunc, .func _ _ _ => some false
      | .func _ _ _, .nilFunc => some false
      | _, _ => none
    | some (.struct fields) => match x, y with
      | .agg xs, .agg ys => if K t = true then feqF (fun u o => match part P u xs.toList o, part P u ys.toList o with | some a, some b => feq d u a b | _, _ => none) fields.toList else none
      | _, _ => none
    | some (.array len elem) => match x, y with
      | .agg xs, .agg ys => match szOf P elem with
        | some n => feqL (fun i => match part P elem xs.toList (i * n), part P elem ys.toList (i * n) with | some a, some b => feq d elem a b | _, _ => none) len 0
        | none => none
      | _, _ => none
    | _ => none

def eqD (op : BinOp) (t : TypeId) (x y : Value) : Option Value :=
  match op with
  | .eql => (match feq P K 100 t x y with | some r => some (.bool r) | none => none)
  | .neq => (match feq P K 100 t x y with | some r => some (.bool (!r)) | none => none)
  | _ => none

def shiftB : BinOp → Bool
  | .shl | .shr => true
  | _ => false

def binD (op : BinOp) (t : TypeId) (x y : Value) : Option Value :=
  match x with
  | .int k a => (match y with
    | .int k' b => cond (shiftB op) (shiftD op k a b) (if k = k' then binInt op k a b else none)
    | _ => none)
  | .string a => (match y with
    | .string b => binStr op a b
    | _ => none)
  | .agg xs => (match y with
    | .agg ys => if K t = true then eqD P K op t (.agg xs) (.agg ys) else none
    | _ => none)
  | .bool a => eqD P K op t (.bool a) y
  | .pointer a => eqD P K op t (.pointer a) y
  | .slice a n c => eqD P K op t (.slice a n c) y
  | .map a => eqD P K op t (.map a) y
  | .func f a b => eqD P K op t (.func f a b) y
  | .nilFunc => eqD P K op t .nilFunc y
  | _ => none

def unD (op : UnOp) : Value → Option Value
  | .int k n => match op with
    | .neg => some (.int k (k.wrap (0 - n)))
    | .xor => binInt .xor k (if k.signed then -1 else k.max) n
    | _ => none
  | .bool b => match op with | .not => some (.bool !b) | _ => none
  | _ => none

/-! ### slices -/
def boundD (y : Nat) : Option Value → Nat → Option Nat
  | none, d => some d
  | some (.int _ i), _ => if 0 ≤ i ∧ i ≤ (y : Int) then some i.toNat else none
  | some _, _ => none

/-- low, high, max of a slice expression -/
def boundsD (len cap : Nat) (lo hi mx : Option Value) : Option (Nat × Nat × Nat) :=
  match mx, hi with
  | some _, none => none
  | _, _ =>
    match boundD cap mx cap with
    | some m => match boundD m hi len with
      | some h => match boundD h lo 0 with
        | some l => some (l, h, m)
        | none => none
      | none => none
    | none => none

def sliceD (t : TypeId) (x : Value) (lo hi mx : Option Value) : Option Value :=
  match P.underlying t with
  | some .string => match x with
    | .string s => match mx with
      | some _ => none
      | none => match boundsD s.size s.size lo hi none with
        | some (l, h, _) => some (.string (s.extract l h))
        | none => none
    | _ => none
  | some (.slice elem) => match x with
    | .slice none len cap => match boundsD len cap lo hi mx, szOf P elem with
      | some (l, h, m), some _ => some (.slice none (h - l) (m - l))
      | _, _ => none
    | .slice (some ⟨b, off, none⟩) len cap => match boundsD len cap lo hi mx, szOf P elem with
      | some (l, h, m), some size => some (.slice (some ⟨b, if m = l then off else off + l * size, none⟩) (h - l) (m - l))
      | _, _ => none
    | .slice (some ⟨b, off, some e⟩) len cap => match boundsD len cap lo hi mx, szOf P elem with
      | some (l, h, m), some size =>
        if size = e ∧ l ≤ h ∧ h ≤ m then
          (if mx.isSome then (if m = l then some (.slice (some ⟨b, off, some e⟩) 0 0) else some (.slice (some ⟨b, off + l * size, none⟩) (h - l) (m - l)))
           else some (.slice (some ⟨b, off + l * size, some e⟩) (h - l) (m - l)))
        else none
      | _, _ => none
    | _ => none
  | some (.array n elem) => match x with
    | .pointer (some ⟨b, off, none⟩) => match boundsD n n lo hi mx, szOf P elem with
      | some (l, h, m), some size => some (.slice (some ⟨b, if m = l then off else off + l * size, none⟩) (h - l) (m - l))
      | _, _ => none
    | _ => none
  | _ => none

def indexAddrD (t : TypeId) (x i : Value) : Option Value :=
  match i with
  | .int _ i => match P.underlying t with
    | some (.array len elem) => match x with
      | .pointer (some ⟨b, off, none⟩) => match szOf P elem with
        | some size => if 0 ≤ i ∧ i < (len : Int) then some (.pointer (some ⟨b, off + i.toNat * size, none⟩)) else none
        | none => none
      | _ => none
    | some (.slice elem) => match x with
      | .slice (some ⟨b, off, _⟩) len _ => match szOf P elem with
        | some size => if 0 ≤ i ∧ i < (len : Int) then some (.pointer (some ⟨b, off + i.toNat * size, none⟩)) else none
        | none => none
      | _ => none
    | _ => none
  | _ => none

def indexD (t : TypeId) (x i : Value) : Option Value :=
  match i with
  | .int _ i => match P.underlying t with
    | some (.array len elem) => match x with
      | .agg cs => match szOf P elem with
        | some size => if 0 ≤ i ∧ i < (len : Int) then part P elem cs.toList (i.toNat * size) else none
        | none => none
      | _ => none
    | some .string => match x with
      | .string s => if 0 ≤ i then (match s.data.toList[i.toNat]? with | some b => some (.int .u8 b.toNat) | none => none) else none
      | _ => none
    | _ => none
  | _ => none

def fieldAddrD (s : TypeId) (f : Nat) : Value → Option Value
  | .pointer (some ⟨b, off, none⟩) => match P.underlying s with
    | some (.struct fields) => match fields.toList[f]? with
      | some fd => match szOf P fd.type with
        | some n => if n = 0 then none else some (.pointer (some ⟨b, off + fd.offset, none⟩))
        | none => none
      | none => none
    | _ => none
  | _ => none

def fieldD (t : TypeId) (f : Nat) : Value → Option Value
  | .agg cs => match P.underlying t with
    | some (.struct fields) => match fields.toList[f]? with
      | some fd => part P fd.type cs.toList fd.offset
      | none => none
    | _ => none
  | _ => none

def lenD (m : Mem) (t : TypeId) (x : Value) : Option Value :=
  match P.underlying t with
  | some .string => match x with | .string s => some (.int .i64 s.size) | _ => none
  | some (.array n _) => some (.int .i64 n)
  | some (.slice _) => match x with | .slice _ n _ => some (.int .i64 n) | _ => none
  | some (.map _ _) => match x with
    | .map none => some (.int .i64 0)
    | .map (some r) => match m.get r with
      | .map _ es _ => some (.int .i64 es.length)
      | _ => none
    | _ => none
  | _ => none

def minD : List Value → Int → Option Int
  | [], a => some a
  | .int _ y :: l, a => minD l (if y < a then y else a)
  | _ :: _, _ => none
def maxD : List Value → Int → Option Int
  | [], a => some a
  | .int _ y :: l, a => maxD l (if y > a then y else a)
  | _ :: _, _ => none

/-! ### maps -/
def keyOkF (g : TypeId → Nat → Option Value) (h : TypeId → Value → Bool) : List Field → Bool
  | [] => true
  | f :: l => (match g f.type f.offset with | some v => h f.type v | none => false) && keyOkF g h l
def keyOkL (f : Nat → Bool) : Nat → Nat → Bool
  | 0, _ => true
  | n + 1, i => f i && keyOkL f n (i + 1)

def keyOk : Nat → TypeId → Value → Bool
  | 0, _, _ => false
  | d + 1, t, v =>
    match P.underlying t with
    | some (.interface _) => false
    | some (.array len elem) => match v with
      | .agg cs => match szOf P elem with
        | some n => keyOkL (fun i => match part P elem cs.toList (i * n) with | some u => keyOk d elem u | none => false) len 0
        | none => false
      | _ => false
    | some (.struct fields) => match v with
      | .agg cs => keyOkF (fun t o => part P t cs.toList o) (keyOk d) fields.toList
      | _ => false
    | some _ => true
    | none => false

def findD (kt : TypeId) (k : Value) : List MapEntry → Nat → Option (Option (Nat × Value))
  | [], _ => some none
  | e :: es, i => match feq P K 100 kt k e.key with
    | some true => some (some (i, e.val))
    | some false => findD kt k es (i + 1)
    | none => none

def entriesD (m : Mem) : Value → Option (List MapEntry)
  | .map none => some []
  | .map (some r) => match m.get r with
    | .map _ es _ => some es
    | _ => none
  | _ => none

def lookupD (m : Mem) (t : TypeId) (x k : Value) (ok : Bool) : Option Value :=
  match P.underlying t with
  | some (.map kt et) => match entriesD m x with
    | some es => if keyOk P 100 kt k = true then
        (match findD P K kt k es 0 with
        | some (some (_, v)) => cond (shp P et v) (some (cond ok (.tuple #[v, .bool true]) v)) none
        | some none => match zeroOf P et with
          | some z => if constV z = true then some (cond ok (.tuple #[z, .bool false]) z) else none
          | none => none
        | none => none) else none
    | none => none
  | _ => none

def modE (i : Nat) (k v : Value) : List MapEntry → List MapEntry
  | [] => []
  | e :: es => match i with
    | 0 => { e with key := k, val := v } :: es
    | i + 1 => e :: modE i k v es

def mapUpdateD (m : Mem) (t : TypeId) (x k v : Value) : Option Mem :=
  match P.underlying t with
  | some (.map kt _) => match x with
    | .map (some r) => match m.get r with
      | .map true es clock => if keyOk P 100 kt k = true then
          (match findD P K kt k es 0 with
          | some (some (i, _)) => match es[i]? with
            | some e => if Instr.sameBits 10000 e.key k = true then some (m.set r (.map true (modE i k v es) clock)) else none
            | none => none
          | some none => some (m.set r (.map true (es ++ [{ key := k, val := v, born := clock }]) (clock + 1)))
          | none => none) else none
      | _ => none
    | _ => none
  | _ => none

/-! ### making -/
def fillD (place : Nat → Option (Nat × Nat)) (cells : List Value) : List (Nat × Value) → Option (List Value)
  | [] => some cells
  | (i, v) :: rest => match place i with
    | none => none
    | some (off, size) => if v.cells.toList.length = size ∧ off + v.cells.toList.length ≤ cells.length then fillD place (splice cells off v.cells.toList) rest else none

def placeS (fields : List Field) (i : Nat) : Option (Nat × Nat) :=
  match fields[i]? with
  | some f => match szOf P f.type with
    | some n => some (f.offset, n)
    | none => none
  | none => none

def fieldsSized : List Field → Bool
  | [] => true
  | f :: l => (szOf P f.type).isSome && fieldsSized l

def buildD (t : TypeId) (parts : List (Nat × Value)) : Option Value :=
  match zeroOf P t with
  | some z => if constV z = true then
    (match P.underlying t with
    | some (.struct fields) => if fieldsSized P fields.toList = true then
        (match fillD (placeS P fields.toList) z.cells.toList parts with
        | some cs => some (.agg cs.toArray)
        | none => none) else none
    | some (.array _ elem) => match szOf P elem with
      | some size => match fillD (fun i => some (i * size, size)) z.cells.toList parts with
        | some cs => some (.agg cs.toArray)
        | none => none
      | none => none
    | _ => none) else none
  | none => none

def repl (z : List Value) : Nat → List Value
  | 0 => []
  | n + 1 => z ++ repl z n

/-- zero cells for n elements of type e -/
def zerosD (e : TypeId) (n : Nat) : Option (List Value) :=
  match zeroOf P e, szOf P e with
  | some z, some size => if constV z = true ∧ z.cells.toList.length = size then some (repl z.cells.toList n) else none
  | _, _ => none

def evParts (t : Tmps) : List (Nat × Operand) → Option (List (Nat × Value))
  | [] => some []
  | (i, x) :: l => match ev G t x with
    | some v => match evParts t l with
      | some vs => some ((i, v) :: vs)
      | none => none
    | none => none

/-- WHAT IS LAID ANEW: the block, and the value that tells of it by its number. -/
inductive Made where
  | ptr | slc (len cap : Nat) | mp | ext

def Made.val (b : Nat) : Made → Value
  | .ptr => .pointer (some ⟨b, 0, none⟩)
  | .slc len cap => .slice (some ⟨b, 0, none⟩) len cap
  | .mp => .map (some b)
  | .ext => .pointer (some ⟨b, 0, none⟩)

def allocD (t : Tmps) : Op → Option (Blk × Made)
  | .alloc e => match zeroOf P e with
    | some z => if constV z = true then some (.cells true z.cells.toList, .ptr) else none
    | none => none
  | .box _ x => match ev G t x with
    | some v => some (.cells true v.cells.toList, .ptr)
    | none => none
  | .buildSlice ty len parts => match P.underlying ty with
    | some (.slice e) => match szOf P e with
      | some size => if len * size ≤ 16777216 then
          (match zerosD P e len, evParts G t parts.toList with
          | some zs, some ps => match fillD (fun i => some (i * size, size)) zs ps with
            | some cs => some (.cells true cs, .slc len len)
            | none => none
          | _, _ => none) else none
      | none => none
    | _ => none
  | .makeSlice ty l c => match P.underlying ty with
    | some (.slice e) => match ev G t l, ev G t c, bytesOf P e with
      | some (.int .i64 l), some (.int .i64 c), some bytes =>
        if 0 ≤ l ∧ l ≤ c ∧ (bytes : Int) * c ≤ 281474976710656 ∧ c ≤ 9223372036854775807 then
          (match zerosD P e c.toNat with
          | some zs => some (.cells true zs, .slc l.toNat c.toNat)
          | none => none) else none
      | _, _, _ => none
    | _ => none
  | .makeMap ty r => match r with
    | none => some (.map true [] 0, .mp)
    | some x => match P.underlying ty, ev G t x with
      | some (.map _ _), some (.int _ _) => some (.map true [] 0, .mp)
      | _, _ => none
  | _ => none

/-- The cells of what is appended or copied: n elements of size cells each. -/
def firstC (m : Mem) (size n : Nat) : Value → Option (List Value)
  | .slice (some ⟨b, off, _⟩) _ _ => loadC m b off (n * size)
  | .slice none _ _ => some []
  | .string s => if size = 1 then some ((s.data.toList.take n).map fun b => .int .u8 b.toNat) else none
  | _ => none

def lenOf : Value → Option Nat
  | .slice _ n _ => some n
  | .string s => some s.size
  | _ => none

/-- In place: not where the room behind is not known. -/
def storeR (sp : Option Nat) (m : Mem) (b off : Nat) (vs : List Value) : Option Mem := match sp with | none => storeC m b off vs | some _ => none
theorem storeR_some {sp : Option Nat} {m m' : Mem} {b off : Nat} {vs : List Value} (h : storeR sp m b off vs = some m') : storeC m b off vs = some m' := by
  cases sp with
  | none => exact h
  | some _ => simp [storeR] at h
def appendD (m : Mem) (tS tX : TypeId) (s x : Value) : Option (Value × Mem) :=
  match P.underlying tS, P.underlying tX with
  | _, some (.int _) | _, none => none
  | some (.slice e), some _ => match s, szOf P e, bytesOf P e, lenOf x with
    | .slice base sLen sCap, some size, some bytes, some n =>
      if size = 0 then none else
      match firstC m size n x with
      | some new =>
        if sLen + n ≤ sCap then
          (match base with
          | none => if n = 0 then some (.slice none (sLen + n) sCap, m) else none
          | some ⟨b, off, sp⟩ => if n = 0 then some (.slice (some ⟨b, off, sp⟩) (sLen + n) sCap, m) else
            match storeR sp m b (off + sLen * size) new with
            | some m' => some (.slice (some ⟨b, off, sp⟩) (sLen + n) sCap, m')
            | none => none)
        else if (sLen + n) * bytes ≤ 140737488355328 ∧ (sLen + n : Nat) ≤ 4611686018427387904 ∧ 0 < bytes ∧ (zerosD P e 1).isSome = true then
          match firstC m size sLen s with
          | some old =>
            if (new.all one && old.all one) = true ∧ old.length = sLen * size ∧ new.length = n * size then
            (match base with
            | some ⟨b, _, some e'⟩ => if e' = size then
                (match m.get b with
                | .cells true _ => some (.slice (some ⟨m.size, 0, some size⟩) (sLen + n) (sLen + n), (m.push (.cells true (old ++ new))).set b .none)
                | _ => none)
              else none
            | _ => some (.slice (some ⟨m.size, 0, some size⟩) (sLen + n) (sLen + n), m.push (.cells true (old ++ new)))) else none
          | none => none
        else none
      | none => none
    | _, _, _, _ => none
  | _, _ => none

def copyD (m : Mem) (tD : TypeId) (d s : Value) : Option (Value × Mem) :=
  match P.underlying tD with
  | some (.slice e) => match d, szOf P e, lenOf s with
    | .slice base dLen _, some size, some sl =>
      if size = 0 then none else
      match firstC m size (Nat.min sl dLen) s with
      | some new => match base with
        | none => some (.int .i64 (Nat.min sl dLen : Nat), m)
        | some ⟨b, off, _⟩ => if Nat.min sl dLen = 0 then some (.int .i64 (Nat.min sl dLen : Nat), m) else
          match storeC m b off new with
          | some m' => some (.int .i64 (Nat.min sl dLen : Nat), m')
          | none => none
      | none => none
    | _, _, _ => none
  | _ => none

def byteOf : Value → Option UInt8
  | .int .u8 n => some (UInt8.ofNat n.toNat)
  | _ => none
def bytesIn : List Value → Option (List UInt8)
  | [] => some []
  | v :: l => match byteOf v with
    | some b => match bytesIn l with
      | some r => some (b :: r)
      | none => none
    | none => none

def convD (m : Mem) (src dst : TypeId) (x : Value) : Option (Value × Mem) :=
  match P.underlying src, P.underlying dst with
  | some _, some (.int k) => match x with | .int _ n => some (.int k (k.wrap n), m) | _ => none
  | some .string, some .string => match x with | .string s => some (.string s, m) | _ => none
  | some .string, some (.slice e) => match x, P.underlying e with
    | .string s, some (.int .u8) => some (.slice (some ⟨m.size, 0, some 1⟩) s.size s.size, m.push (.cells true (s.data.toList.map fun b => .int .u8 b.toNat)))
    | _, _ => none
  | some (.slice e), some .string => match P.underlying e with
    | some (.int .u8) => match x with
      | .slice none _ _ => some (.string .empty, m)
      | .slice (some ⟨b, off, _⟩) n _ => match loadC m b off n with
        | some c => match bytesIn c with
          | some l => some (.string ⟨l.toArray⟩, m)
          | none => none
        | none => none
      | _ => none
    | _ => none
  | _, _ => none

/-- Conversions that lay nothing. -/
def convQ (m : Mem) (src dst : TypeId) (x : Value) : Option Value :=
  match P.underlying src, P.underlying dst with
  | some _, some (.int k) => match x with | .int _ n => some (.int k (k.wrap n)) | _ => none
  | some .string, some .string => match x with | .string s => some (.string s) | _ => none
  | some (.slice e), some .string => match P.underlying e with
    | some (.int .u8) => match x with
      | .slice none _ _ => some (.string .empty)
      | .slice (some ⟨b, off, _⟩) n _ => match loadC m b off n with
        | some c => match bytesIn c with
          | some l => some (.string ⟨l.toArray⟩)
          | none => none
        | none => none
      | _ => none
    | _ => none
  | _, _ => none

/-! ### one operation -/
def optEv (t : Tmps) : Option Operand → Option (Option Value)
  | none => some none
  | some x => match ev G t x with | some v => some (some v) | none => none

/-- Operations that only compute or read. -/
def quietD (t : Tmps) (m : Mem) : Op → Option Value
  | .move x | .assign x => ev G t x
  | .pick c a b => match ev G t c with
    | some (.bool true) => ev G t a
    | some (.bool false) => ev G t b
    | _ => none
  | .load ty a => match ev G t a with | some v => shD P ty (loadD P m ty v) | none => none
  | .nilCheck x => match ev G t x with
    | some (.pointer (some a)) => some (.pointer (some a))
    | some (.func (.func f) a b) => some (.func (.func f) a b)
    | _ => none
  | .binOp op ty x y _ => match ev G t x, ev G t y with
    | some a, some b => binD P K op ty a b
    | _, _ => none
  | .unOp op _ x => match ev G t x with | some v => unD op v | none => none
  | .makeFunc (.func f) first captured => match evs G t first.toList, evs G t captured.toList with
    | some a, some b => some (.func (.func f) a.toArray b.toArray)
    | _, _ => none
  | .fieldAddr s x f => match ev G t x with | some v => fieldAddrD P s f v | none => none
  | .field ty x f => match ev G t x with | some v => fieldD P ty f v | none => none
  | .indexAddr ty x i => match ev G t x, ev G t i with
    | some v, some i => indexAddrD P ty v i
    | _, _ => none
  | .index ty x i => match ev G t x, ev G t i with
    | some v, some i => indexD P ty v i
    | _, _ => none
  | .lookup ty x k ok => match ev G t x, ev G t k with
    | some v, some k => lookupD P K m ty v k ok
    | _, _ => none
  | .extract x i => match ev G t x with
    | some (.tuple vs) => vs.toList[i]?
    | _ => none
  | .build ty parts => match evParts G t parts.toList with
    | some ps => buildD P ty ps
    | none => none
  | .slice ty x lo hi mx => match ev G t x, optEv G t lo, optEv G t hi, optEv G t mx with
    | some v, some lo, some hi, some mx => sliceD P ty v lo hi mx
    | _, _, _, _ => none
  | .convert src dst x => match ev G t x with | some v => convQ P m src dst v | none => none
  | .call { callee := .builtin .len, args, argTypes } => match args.toList, argTypes.toList with
    | [x], [ty] => match ev G t x with | some v => lenD P m ty v | none => none
    | _, _ => none
  | .call { callee := .builtin .min, args, argTypes := _ } => match evs G t args.toList with
    | some (.int k a :: l) => match minD l a with | some r => some (.int k r) | none => none
    | _ => none
  | .call { callee := .builtin .max, args, argTypes := _ } => match evs G t args.toList with
    | some (.int k a :: l) => match maxD l a with | some r => some (.int k r) | none => none
    | _ => none
  | _ => none

/-- Operations that write, call, or lay something whose place hangs on what is there. -/
def heavyD (cf : FuncId → List Value → Mem → Option (Value × Mem)) (t : Tmps) (m : Mem) : Op → Option (Value × Mem)
  | .store ty a x => match ev G t a, ev G t x with
    | some a, some v => match storeD P m ty v a with | some m' => some (undef, m') | none => none
    | _, _ => none
  | .mapUpdate ty x k v => match ev G t x, ev G t k, ev G t v with
    | some x, some k, some v => match mapUpdateD P K m ty x k v with | some m' => some (undef, m') | none => none
    | _, _, _ => none
  | .insert ty x k v => match ev G t x, ev G t k, ev G t v with
    | some x, some k, some v => match mapUpdateD P K m ty x k v with | some m' => some (undef, m') | none => none
    | _, _, _ => none
  | .convert src dst x => match ev G t x with | some v => convD P m src dst v | none => none
  | .call { callee := .builtin .append, args, argTypes } => match args.toList, argTypes.toList with
    | [s, x], [tS, tX] => match ev G t s, ev G t x with
      | some s, some x => appendD P m tS tX s x
      | _, _ => none
    | _, _ => none
  | .call { callee := .builtin .copy, args, argTypes } => match args.toList, argTypes.toList with
    | [s, x], [tS, _] => match ev G t s, ev G t x with
      | some s, some x => copyD P m tS s x
      | _, _ => none
    | _, _ => none
  | .call { callee := .value f, args, argTypes := _ } => match ev G t f, evs G t args.toList with
    | some (.func (.func g) first captured), some vs => cf g (first.toList ++ (vs ++ captured.toList)) m
    | _, _ => none
  | _ => none

/-- 0: computes or reads; 1: lays a block; 2: the rest. -/
def klass : Op → Nat
  | .alloc _ | .box .. | .buildSlice .. | .makeSlice .. | .makeMap .. => 1
  | .store .. | .mapUpdate .. | .insert .. => 2
  | .call { callee := .builtin .len, .. } | .call { callee := .builtin .min, .. } | .call { callee := .builtin .max, .. } => 0
  | .call _ => 2
  | _ => 0

def opD (cf : FuncId → List Value → Mem → Option (Value × Mem)) (t : Tmps) (m : Mem) (o : Op) : Option (Value × Mem) :=
  match klass o with
  | 0 => match quietD P K G t m o with | some v => some (v, m) | none => none
  | 1 => match allocD P G t o with | some (x, k) => some (k.val m.size, m.push x) | none => none
  | _ => heavyD P K G cf t m o

/-! ### regions, code, calls -/
def yieldD (ops : List Oper) (t : Tmps) (j : Nat) : Option Bool :=
  match ops[j]? with
  | some o => match o.dst with
    | some d => match t.at d with
      | .bool b => some b
      | _ => none
    | none => none
  | none => none

def dstOk (n : Nat) : Option Tmp → Bool
  | none => true
  | some d => decide (d < n)

def putD (t : Tmps) (dst : Option Tmp) (v : Value) : Tmps :=
  match dst with
  | none => t
  | some d => t.set d v

/-- Operations in the text's order. -/
def opsD (cf : FuncId → List Value → Mem → Option (Value × Mem)) (n : Nat) (ops : List Oper) : List Oper → Tmps → Mem → Option (Tmps × Mem)
  | [], t, m => some (t, m)
  | o :: l, t, m => if dstOk n o.dst = true then
      (if Region.wanted o (yieldD ops t) = true then
        (match opD P K G cf t m o.op with
        | some (v, m') => opsD cf n ops l (putD t o.dst v) m'
        | none => none)
      else opsD cf n ops l (putD t o.dst undef) m) else none

inductive Ex where
  | normal
  | exit (id : Nat)
  | ret

def loopD (body : Tmps → Mem → Option (Ex × Tmps × Mem)) : Nat → Tmps → Mem → Option (Ex × Tmps × Mem)
  | 0, _, _ => none
  | k + 1, t, m => match body t m with
    | some (.normal, t', m') => loopD body k t' m'
    | r => r

def codeD (cf : FuncId → List Value → Mem → Option (Value × Mem)) (dr : List Oper → Tmps → Mem → Option (Tmps × Mem)) (n k : Nat) : Code → Tmps → Mem → Option (Ex × Tmps × Mem)
  | .skip, t, m => some (.normal, t, m)
  | .label _, t, m => some (.normal, t, m)
  | .region _ ops draw, t, m => match (cond draw (dr ops.toList t m) (opsD P K G cf n ops.toList ops.toList t m)) with
    | some (t', m') => some (.normal, t', m')
    | none => none
  | .seq a b, t, m => match codeD cf dr n k a t m with
    | some (.normal, t', m') => codeD cf dr n k b t' m'
    | r => r
  | .cond c x y, t, m => match ev G t c with
    | some (.bool true) => codeD cf dr n k x t m
    | some (.bool false) => codeD cf dr n k y t m
    | _ => none
  | .block id c, t, m => match codeD cf dr n k c t m with
    | some (.exit id', t', m') => if id' = id then some (.normal, t', m') else some (.exit id', t', m')
    | r => r
  | .loop c, t, m => loopD (codeD cf dr n k c) k t m
  | .exit id, t, m => some (.exit id, t, m)
  | .ret, t, m => some (.ret, t, m)
  | .scope c, t, m => codeD cf dr n k c t m
  | _, _, _ => none

def initT : Nat → List Value → Tmps
  | _, [] => .nil
  | i, v :: l => Tmps.set (initT (i + 1) l) i v

def resD (t : Tmps) (m : Mem) : List ResultVar → Option (List Value)
  | [] => some []
  | .tmp d :: l => match resD t m l with
    | some vs => some (t.at d :: vs)
    | none => none
  | .cell a ty :: l => match loadD P m ty (t.at a) with
    | some v => match resD t m l with
      | some vs => some (v :: vs)
      | none => none
    | none => none

def resV : List Value → Value
  | [v] => v
  | vs => .tuple vs.toArray

end
end Go.DI
/-
  DiRel: HOW THE INTERPRETER'S MEMORY STANDS TO THE MODEL's WORLD: blocks have other numbers there ('Ren'), a slice that an append made may have more room there.
-/
namespace Go.DI

/-- Where a block lies in the world: its number there, its first cell, how many cells that block has. -/
structure Loc where
  block : Nat
  base : Nat
  total : Nat

abbrev Ren := Nat → Option Loc

inductive VRel (ι : Ren) : Value → Value → Prop where
  | bool (b : Bool) : VRel ι (.bool b) (.bool b)
  | int (k : IntKind) (n : Int) : VRel ι (.int k n) (.int k n)
  | float (k : FloatKind) (n : Nat) : VRel ι (.float k n) (.float k n)
  | complex (k : FloatKind) (n r : Nat) : VRel ι (.complex k n r) (.complex k n r)
  | string (s : ByteArray) : VRel ι (.string s) (.string s)
  | nilFunc : VRel ι .nilFunc .nilFunc
  | nilIface : VRel ι .nilIface .nilIface
  | ptr0 : VRel ι (.pointer none) (.pointer none)
  | ptr (b off : Nat) (L : Loc) (h : ι b = some L) : VRel ι (.pointer (some ⟨b, off, none⟩)) (.pointer (some ⟨L.block, L.base + off, none⟩))
  | slc0 (n c : Nat) : VRel ι (.slice none n c) (.slice none n c)
  | slc (b off n c : Nat) (L : Loc) (h : ι b = some L) : VRel ι (.slice (some ⟨b, off, none⟩) n c) (.slice (some ⟨L.block, L.base + off, none⟩) n c)
  | loose (b off e n c c' : Nat) (L : Loc) (h : ι b = some L) (hc : c ≤ c') (ht : L.base + off + c' * e ≤ L.total) :
      VRel ι (.slice (some ⟨b, off, some e⟩) n c) (.slice (some ⟨L.block, L.base + off, none⟩) n c')
  | loose0 (b off e o' c' : Nat) (L : Loc) (h : ι b = some L) (ht : o' + c' * e ≤ L.total) :
      VRel ι (.slice (some ⟨b, off, some e⟩) 0 0) (.slice (some ⟨L.block, o', none⟩) 0 c')
  | empty (b off e : Nat) (a : Addr) : VRel ι (.slice (some ⟨b, off, some e⟩) 0 0) (.slice (some a) 0 0)
  | map0 : VRel ι (.map none) (.map none)
  | map (r : Nat) (L : Loc) (h : ι r = some L) : VRel ι (.map (some r)) (.map (some L.block))
  | func (fn : Fn) (a a' b b' : Array Value) (ha : a.size = a'.size) (hb : b.size = b'.size)
      (h : ∀ (i : Nat) (x y : Value), a[i]? = some x → a'[i]? = some y → VRel ι x y) (h' : ∀ (i : Nat) (x y : Value), b[i]? = some x → b'[i]? = some y → VRel ι x y) : VRel ι (.func fn a b) (.func fn a' b')
  | iface (t : TypeId) (v v' : Value) (h : VRel ι v v') : VRel ι (.iface t v) (.iface t v')
  | agg (a a' : Array Value) (ha : a.size = a'.size) (h : ∀ (i : Nat) (x y : Value), a[i]? = some x → a'[i]? = some y → VRel ι x y) : VRel ι (.agg a) (.agg a')
  | tuple (a a' : Array Value) (ha : a.size = a'.size) (h : ∀ (i : Nat) (x y : Value), a[i]? = some x → a'[i]? = some y → VRel ι x y) : VRel ι (.tuple a) (.tuple a')

def Ren.le (ι ι' : Ren) : Prop := ∀ b L, ι b = some L → ι' b = some L

theorem VRel.mono {ι ι' : Ren} (hι : ι.le ι') {v v' : Value} (h : VRel ι v v') : VRel ι' v v' := by
  induction h with
  | bool | int | float | complex | string | nilFunc | nilIface | ptr0 | slc0 | map0 => constructor
  | ptr b off L h => exact .ptr b off L (hι _ _ h)
  | slc b off n c L h => exact .slc b off n c L (hι _ _ h)
  | loose b off e n c c' L h hc ht => exact .loose b off e n c c' L (hι _ _ h) hc ht
  | loose0 b off e o' c' L h ht => exact .loose0 b off e o' c' L (hι _ _ h) ht
  | empty b off e a => exact .empty b off e a
  | map r L h => exact .map r L (hι _ _ h)
  | func fn a a' b b' ha hb h h' ih ih' => exact .func fn a a' b b' ha hb ih ih'
  | iface t v v' h ih => exact .iface t v v' ih
  | agg a a' ha h ih => exact .agg a a' ha ih
  | tuple a a' ha h ih => exact .tuple a a' ha ih

/-- Lists of values, one by one. -/
inductive LRel (R : Value → Value → Prop) : List Value → List Value → Prop where
  | nil : LRel R [] []
  | cons {x y : Value} {l l' : List Value} (h : R x y) (t : LRel R l l') : LRel R (x :: l) (y :: l')

theorem LRel.length {R : Value → Value → Prop} {l l' : List Value} (h : LRel R l l') : l.length = l'.length := by
  induction h with
  | nil => rfl
  | cons h t ih => simp [ih]

theorem LRel.get {R : Value → Value → Prop} {l l' : List Value} (h : LRel R l l') : ∀ {i : Nat} {x : Value}, l[i]? = some x → ∃ y, l'[i]? = some y ∧ R x y := by
  induction h with
  | nil => intro i x hx; simp at hx
  | cons h t ih =>
    intro i x hx
    cases i with
    | zero => simp at hx; subst hx; exact ⟨_, rfl, h⟩
    | succ i => simp at hx; obtain ⟨y, hy, hr⟩ := ih hx; exact ⟨y, by simpa using hy, hr⟩

theorem LRel.of_get {R : Value → Value → Prop} : ∀ {l l' : List Value}, l.length = l'.length → (∀ (i : Nat) (x y : Value), l[i]? = some x → l'[i]? = some y → R x y) → LRel R l l'
  | [], [], _, _ => .nil
  | x :: l, y :: l', hl, h => .cons (h 0 x y rfl rfl) (LRel.of_get (by simpa using hl) fun i x y hx hy => h (i + 1) x y (by simpa using hx) (by simpa using hy))

theorem LRel.mono {R R' : Value → Value → Prop} (hr : ∀ (x y : Value), R x y → R' x y) {l l' : List Value} (h : LRel R l l') : LRel R' l l' := by
  induction h with
  | nil => exact .nil
  | cons h t ih => exact .cons (hr _ _ h) ih

theorem LRel.append {R : Value → Value → Prop} {a a' b b' : List Value} (h : LRel R a a') (k : LRel R b b') : LRel R (a ++ b) (a' ++ b') := by
  induction h with
  | nil => exact k
  | cons h t ih => exact .cons h ih

theorem LRel.drop {R : Value → Value → Prop} {a a' : List Value} (h : LRel R a a') : ∀ n, LRel R (a.drop n) (a'.drop n) := by
  induction h with
  | nil => intro n; simp; exact .nil
  | cons h t ih => intro n; cases n with
    | zero => exact .cons h t
    | succ n => simpa using ih n

theorem LRel.take {R : Value → Value → Prop} {a a' : List Value} (h : LRel R a a') : ∀ n, LRel R (a.take n) (a'.take n) := by
  induction h with
  | nil => intro n; simp; exact .nil
  | cons h t ih => intro n; cases n with
    | zero => simp; exact .nil
    | succ n => simpa using .cons h (ih n)

theorem LRel.splice {R : Value → Value → Prop} {c c' v v' : List Value} (h : LRel R c c') (k : LRel R v v') (off : Nat) : LRel R (splice c off v) (splice c' off v') := by
  unfold DI.splice
  rw [k.length]
  exact (h.take _).append (k.append (h.drop _))

theorem LRel.all {R : Value → Value → Prop} {f : Value → Bool} (hf : ∀ (x y : Value), R x y → f x = f y) {l l' : List Value} (h : LRel R l l') : l.all f = l'.all f := by
  induction h with
  | nil => rfl
  | cons h t ih => simp [hf _ _ h, ih]

theorem LRel.refl {R : Value → Value → Prop} : ∀ (l : List Value), (∀ x ∈ l, R x x) → LRel R l l
  | [], _ => .nil
  | x :: l, h => .cons (h x (by simp)) (LRel.refl l fun y hy => h y (by simp [hy]))

abbrev VRels (ι : Ren) := LRel (VRel ι)

theorem VRels.mono {ι ι' : Ren} (hι : ι.le ι') {l l' : List Value} (h : VRels ι l l') : VRels ι' l l' := LRel.mono (fun _ _ h => h.mono hι) h

theorem VRels.of_arr {ι : Ren} {a a' : Array Value} (ha : a.size = a'.size) (h : ∀ (i : Nat) (x y : Value), a[i]? = some x → a'[i]? = some y → VRel ι x y) : VRels ι a.toList a'.toList :=
  LRel.of_get (by simpa using ha) fun i x y hx hy => h i x y (by simpa using hx) (by simpa using hy)

theorem VRels.arr {ι : Ren} {a a' : Array Value} (h : VRels ι a.toList a'.toList) : a.size = a'.size ∧ ∀ (i : Nat) (x y : Value), a[i]? = some x → a'[i]? = some y → VRel ι x y := by
  refine ⟨by simpa using h.length, fun i x y hx hy => ?_⟩
  obtain ⟨z, hz, hr⟩ := h.get (i := i) (x := x) (by simpa using hx)
  have hy' : a'.toList[i]? = some y := by simpa using hy
  rw [hz] at hy'
  cases hy'
  exact hr

theorem VRel.agg' {ι : Ren} {a a' : List Value} (h : VRels ι a a') : VRel ι (.agg a.toArray) (.agg a'.toArray) :=
  .agg _ _ (VRels.arr (a := a.toArray) (a' := a'.toArray) h).1 (VRels.arr (a := a.toArray) (a' := a'.toArray) h).2
theorem VRel.tuple' {ι : Ren} {a a' : List Value} (h : VRels ι a a') : VRel ι (.tuple a.toArray) (.tuple a'.toArray) :=
  .tuple _ _ (VRels.arr (a := a.toArray) (a' := a'.toArray) h).1 (VRels.arr (a := a.toArray) (a' := a'.toArray) h).2
theorem VRel.undef (ι : Ren) : VRel ι undef undef := .tuple _ _ rfl (by intro i x y h; simp at h)

theorem VRel.inv_int {ι : Ren} {k : IntKind} {n : Int} {v : Value} (h : VRel ι (.int k n) v) : v = .int k n := by cases h; rfl
theorem VRel.inv_bool {ι : Ren} {b : Bool} {v : Value} (h : VRel ι (.bool b) v) : v = .bool b := by cases h; rfl
theorem VRel.inv_agg {ι : Ren} {a : Array Value} {v : Value} (h : VRel ι (.agg a) v) : ∃ a', v = .agg a' ∧ VRels ι a.toList a'.toList := by
  cases h with | agg a a' ha h => exact ⟨a', rfl, VRels.of_arr ha h⟩
theorem VRel.inv_tuple {ι : Ren} {a : Array Value} {v : Value} (h : VRel ι (.tuple a) v) : ∃ a', v = .tuple a' ∧ VRels ι a.toList a'.toList := by
  cases h with | tuple a a' ha h => exact ⟨a', rfl, VRels.of_arr ha h⟩
theorem VRel.inv_func {ι : Ren} {fn : Fn} {a b : Array Value} {v : Value} (h : VRel ι (.func fn a b) v) : ∃ a' b', v = .func fn a' b' ∧ VRels ι a.toList a'.toList ∧ VRels ι b.toList b'.toList := by
  cases h with | func fn a a' b b' ha hb h h' => exact ⟨a', b', rfl, VRels.of_arr ha h, VRels.of_arr hb h'⟩
theorem VRel.inv_ptr {ι : Ren} {b off : Nat} {v : Value} (h : VRel ι (.pointer (some ⟨b, off, none⟩)) v) : ∃ L, ι b = some L ∧ v = .pointer (some ⟨L.block, L.base + off, none⟩) := by
  cases h with | ptr _ _ L h => exact ⟨L, h, rfl⟩

theorem bareV_rel (ι : Ren) {v : Value} (h : bareV v = true) : VRel ι v v := by
  unfold bareV at h
  split at h <;> first | constructor | (simp at h)

theorem constV_rel (ι : Ren) {v : Value} (h : constV v = true) : VRel ι v v := by
  unfold constV at h
  split at h
  · rename_i cs
    have := List.all_eq_true.1 h
    have hl : VRels ι cs.toList cs.toList := LRel.refl _ fun x hx => bareV_rel ι (this x hx)
    exact .agg _ _ hl.arr.1 hl.arr.2
  · rename_i cs
    have := List.all_eq_true.1 h
    have hl : VRels ι cs.toList cs.toList := LRel.refl _ fun x hx => bareV_rel ι (this x hx)
    exact .tuple _ _ hl.arr.1 hl.arr.2
  · exact bareV_rel ι h

theorem VRel.cells {ι : Ren} {v v' : Value} (h : VRel ι v v') : VRels ι v.cells.toList v'.cells.toList := by
  cases h <;> first | exact VRels.of_arr ‹_› ‹_› | exact .cons (by first | exact .empty _ _ _ _ | constructor; done | exact .ptr _ _ _ ‹_› | exact .slc _ _ _ _ _ ‹_› | exact .loose _ _ _ _ _ _ _ ‹_› ‹_› ‹_› | exact .loose0 _ _ _ _ _ _ ‹_› ‹_› | exact .map _ _ ‹_› | exact .func _ _ _ _ _ ‹_› ‹_› ‹_› ‹_› | exact .iface _ _ _ ‹_› | exact .tuple _ _ ‹_› ‹_›) .nil

theorem VRel.one {ι : Ren} {v v' : Value} (h : VRel ι v v') : one v = one v' := by cases h <;> rfl

/-! ### blocks -/
def Blk.own : Blk → Bool
  | .cells o _ => o
  | .map o _ _ => o
  | .siter _ _ => true
  | .none => false

def Blk.live : Blk → Prop
  | .none => False
  | _ => True

def ERel (ι : Ren) (e e' : MapEntry) : Prop := VRel ι e.key e'.key ∧ VRel ι e.val e'.val ∧ e.born = e'.born

inductive ERels (ι : Ren) : List MapEntry → List MapEntry → Prop where
  | nil : ERels ι [] []
  | cons {x y : MapEntry} {l l' : List MapEntry} (h : ERel ι x y) (t : ERels ι l l') : ERels ι (x :: l) (y :: l')

theorem ERels.mono {ι ι' : Ren} (hι : ι.le ι') {l l' : List MapEntry} (h : ERels ι l l') : ERels ι' l l' := by
  induction h with
  | nil => exact .nil
  | cons h t ih => exact .cons ⟨h.1.mono hι, h.2.1.mono hι, h.2.2⟩ ih
theorem ERels.length {ι : Ren} {l l' : List MapEntry} (h : ERels ι l l') : l.length = l'.length := by
  induction h with
  | nil => rfl
  | cons h t ih => simp [ih]
theorem ERels.append {ι : Ren} {a a' b b' : List MapEntry} (h : ERels ι a a') (k : ERels ι b b') : ERels ι (a ++ b) (a' ++ b') := by
  induction h with
  | nil => exact k
  | cons h t ih => exact .cons h ih
theorem ERels.get {ι : Ren} {l l' : List MapEntry} (h : ERels ι l l') : ∀ {i : Nat} {x : MapEntry}, l[i]? = some x → ∃ y, l'[i]? = some y ∧ ERel ι x y := by
  induction h with
  | nil => intro i x hx; simp at hx
  | cons h t ih =>
    intro i x hx
    cases i with
    | zero => simp at hx; subst hx; exact ⟨_, rfl, h⟩
    | succ i => simp at hx; obtain ⟨y, hy, hr⟩ := ih hx; exact ⟨y, by simpa using hy, hr⟩

/-- What a block of the interpreter's memory says of the world. -/
def BlkRel (B0 : Nat) (ι : Ren) (x : Blk) (L : Loc) (w : World) : Prop :=
  match x with
  | .none => True
  | .cells own c => ∃ rc e fr, w.heap[L.block]? = some (.cells rc e fr) ∧ rc.size = L.total ∧ L.base + c.length ≤ L.total ∧
      (∀ i v, c[i]? = some v → ∃ v', rc[L.base + i]? = some v' ∧ VRel ι v v') ∧ (own = true → B0 ≤ L.block ∧ ∀ o, o < L.total → ¬ (fr.1 ≤ o ∧ o < fr.2))
  | .map own es clock => ∃ res, w.heap[L.block]? = some (.map res clock) ∧ ERels ι es res.toList ∧ (own = true → B0 ≤ L.block)
  | .siter s pos => w.heap[L.block]? = some (.stringIter s pos) ∧ L.base = 0 ∧ B0 ≤ L.block

theorem BlkRel.mono {B0 : Nat} {ι ι' : Ren} (hι : ι.le ι') {x : Blk} {L : Loc} {w w' : World} (hw : w'.heap[L.block]? = w.heap[L.block]?) (h : BlkRel B0 ι x L w) : BlkRel B0 ι' x L w' := by
  cases x with
  | none => trivial
  | cells own c =>
    obtain ⟨rc, e, fr, h1, h2, h3, h4, h5⟩ := h
    refine ⟨rc, e, fr, hw.trans h1, h2, h3, fun i v hv => ?_, h5⟩
    obtain ⟨v', hv', hr⟩ := h4 i v hv
    exact ⟨v', hv', hr.mono hι⟩
  | map own es clock => obtain ⟨res, h1, h2, h3⟩ := h; exact ⟨res, hw.trans h1, h2.mono hι, h3⟩
  | siter s pos => exact ⟨hw.trans h.1, h.2⟩

theorem BlkRel.own_floor {B0 : Nat} {ι : Ren} {x : Blk} {L : Loc} {w : World} (h : BlkRel B0 ι x L w) (ho : x.own = true) : B0 ≤ L.block := by
  cases x with
  | none => simp [Blk.own] at ho
  | cells own c => obtain ⟨rc, e, fr, h1, h2, h3, h4, h5⟩ := h; exact (h5 ho).1
  | map own es clock => obtain ⟨res, h1, h2, h3⟩ := h; exact h3 ho
  | siter s pos => exact h.2.2

/-- The interpreter's memory m, as the world w holds it. -/
structure Rel (B0 G : Nat) (ι : Ren) (m : Mem) (w : World) : Prop where
  blk : ∀ b L, b < m.size → ι b = some L → BlkRel B0 ι (m.get b) L w
  inj : ∀ b₁ b₂ L₁ L₂, b₁ < m.size → b₂ < m.size → ι b₁ = some L₁ → ι b₂ = some L₂ → (m.get b₁).live → (m.get b₂).live → B0 ≤ L₁.block → L₁.block = L₂.block → b₁ = b₂
  floor : B0 ≤ w.heap.size
  glob : ∀ g, g < G → ∃ L, ι g = some L ∧ L.block = g ∧ L.base = 0
  top : ∀ b, m.size ≤ b → m.get b = .none

theorem BlkRel.lt {B0 : Nat} {ι : Ren} {x : Blk} {L : Loc} {w : World} (h : BlkRel B0 ι x L w) (hl : x.live) : L.block < w.heap.size := by
  have key : ∀ o : Obj, w.heap[L.block]? = some o → L.block < w.heap.size := fun o ho => (Array.getElem?_eq_some_iff.1 ho).1
  cases x with
  | none => exact hl.elim
  | cells own c => obtain ⟨rc, e, fr, h1, _⟩ := h; exact key _ h1
  | map own es clock => obtain ⟨res, h1, _⟩ := h; exact key _ h1
  | siter s pos => exact key _ h.1
theorem BlkRel.monoL {B0 : Nat} {ι ι' : Ren} (hι : ι.le ι') {x : Blk} {L : Loc} {w w' : World} (hw : x.live → w'.heap[L.block]? = w.heap[L.block]?) (h : BlkRel B0 ι x L w) : BlkRel B0 ι' x L w' := by
  by_cases hl : x.live
  · exact h.mono hι (hw hl)
  · cases x with
    | none => trivial
    | cells own c => exact absurd trivial hl
    | map own es clock => exact absurd trivial hl
    | siter s pos => exact absurd trivial hl
/-- A live block's place is in the world. -/
theorem Rel.old {B0 G : Nat} {ι : Ren} {m : Mem} {w : World} (h : Rel B0 G ι m w) (b : Nat) (L : Loc) (hL : ι b = some L) (hl : (m.get b).live) : L.block < w.heap.size := by
  rcases Nat.lt_or_ge b m.size with hb | hb
  · exact (h.blk b L hb hL).lt hl
  · rw [h.top b hb] at hl; exact hl.elim
theorem own_live {x : Blk} (h : x.own = true) : x.live := by cases x <;> first | trivial | simp [Blk.own] at h

/-- From one state to a later one. -/
structure Stp (ι ι' : Ren) (m m' : Mem) (w w' : World) : Prop where
  ext : ι.le ι'
  out : ∀ b, b < m.size ∨ m'.size ≤ b → ι' b = ι b
  os : w'.os = w.os
  output : w'.output = w.output
  tape : w'.tape = w.tape
  hsize : w.heap.size ≤ w'.heap.size
  frame : ∀ B, B < w.heap.size → (∀ b L, b < m.size → ι b = some L → (m.get b).own = true → L.block ≠ B) → w'.heap[B]? = w.heap[B]?
  new : ∀ b L, m.size ≤ b → b < m'.size → ι' b = some L → w.heap.size ≤ L.block ∨ ∃ b0 L0, b0 < m.size ∧ ι b0 = some L0 ∧ (m.get b0).own = true ∧ L0.block = L.block
  msize : m.size ≤ m'.size
  ownk : ∀ b, b < m.size → (m'.get b).own = true → (m.get b).own = true

theorem Stp.refl (ι : Ren) (m : Mem) (w : World) : Stp ι ι m m w w :=
  ⟨fun _ _ h => h, fun _ _ => rfl, rfl, rfl, rfl, Nat.le_refl _, fun _ _ _ => rfl, fun b L h1 h2 => by omega, Nat.le_refl _, fun _ _ h => h⟩

theorem Stp.trans {ι ι₁ ι₂ : Ren} {m m₁ m₂ : Mem} {w w₁ w₂ : World} (h : Stp ι ι₁ m m₁ w w₁) (k : Stp ι₁ ι₂ m₁ m₂ w₁ w₂) : Stp ι ι₂ m m₂ w w₂ := by
  have hm := h.msize
  have km := k.msize
  refine ⟨fun b L hb => k.ext _ _ (h.ext _ _ hb), fun b hb => ?_, k.os.trans h.os, k.output.trans h.output, k.tape.trans h.tape, Nat.le_trans h.hsize k.hsize, fun B hB hn => ?_, fun b L h1 h2 hb => ?_, Nat.le_trans hm km, fun b hb ho => h.ownk b hb (k.ownk b (by omega) ho)⟩
  · rw [k.out b (by omega), h.out b (by omega)]
  · have e1 := h.frame B hB hn
    rw [k.frame B (Nat.lt_of_lt_of_le hB h.hsize) ?_, e1]
    intro b L hb hL ho
    rcases Nat.lt_or_ge b m.size with hlt | hge
    · rw [h.out b (.inl hlt)] at hL
      exact hn b L hlt hL (h.ownk b hlt ho)
    · rcases h.new b L hge hb hL with h1 | ⟨b0, L0, g1, g2, g3, g4⟩
      · omega
      · rw [← g4]; exact hn b0 L0 g1 g2 g3
  · rcases Nat.lt_or_ge b m₁.size with hlt | hge
    · rw [k.out b (.inl hlt)] at hb
      exact h.new b L h1 hlt hb
    · rcases k.new b L hge h2 hb with g | ⟨b0, L0, g1, g2, g3, g4⟩
      · exact .inl (Nat.le_trans h.hsize g)
      · rcases Nat.lt_or_ge b0 m.size with hlt | hge'
        · rw [h.out b0 (.inl hlt)] at g2
          exact .inr ⟨b0, L0, hlt, g2, h.ownk b0 hlt g3, g4⟩
        · rcases h.new b0 L0 hge' g1 g2 with g | ⟨b1, L1, k1, k2, k3, k4⟩
          · exact .inl (g4 ▸ g)
          · exact .inr ⟨b1, L1, k1, k2, k3, k4.trans g4⟩

/-- Blocks of the world from B0 on alone are written. -/
theorem Stp.below {B0 G : Nat} {ι ι' : Ren} {m m' : Mem} {w w' : World} (h : Stp ι ι' m m' w w') (hr : Rel B0 G ι m w) : ∀ B, B < B0 → w'.heap[B]? = w.heap[B]? :=
  fun B hB => h.frame B (Nat.lt_of_lt_of_le hB hr.floor) fun b L hb hL ho e => by
    have := (hr.blk b L hb hL).own_floor ho
    omega

/-- A frame's slots. -/
def TRel (ι : Ren) (n : Nat) (t : Tmps) (a : Act) : Prop := a.tmps.size = n ∧ ∀ d, VRel ι (t.at d) (a.tmps.getD d undef)

theorem TRel.mono {ι ι' : Ren} (hι : ι.le ι') {n : Nat} {t : Tmps} {a : Act} (h : TRel ι n t a) : TRel ι' n t a := ⟨h.1, fun d => (h.2 d).mono hι⟩

theorem getD_setIfInBounds (a : Array Value) (d e : Nat) (v u : Value) : (a.setIfInBounds d v).getD e u = if e = d ∧ d < a.size then v else a.getD e u := by
  simp only [Array.getD_eq_getD_getElem?, Array.getElem?_setIfInBounds]
  by_cases h : d = e
  · subst h
    by_cases h2 : d < a.size
    · simp [h2]
    · simp [h2]
  · have : ¬ e = d := fun h' => h h'.symm
    simp [h, this]

theorem TRel.put {ι : Ren} {n : Nat} {t : Tmps} {a : Act} (h : TRel ι n t a) {d : Nat} (hd : d < n) {v v' : Value} (hv : VRel ι v v') : TRel ι n (t.set d v) (a.put (some d) v') := by
  refine ⟨by simp [Act.put, h.1], fun e => ?_⟩
  simp only [Act.put, getD_setIfInBounds, Tmps.at_set]
  by_cases he : e = d
  · subst he; simp [h.1, hd, hv]
  · simp [he]; simpa using h.2 e

theorem ev_rel {B0 G : Nat} {ι : Ren} {m : Mem} {w : World} (hr : Rel B0 G ι m w) {n : Nat} {t : Tmps} {a : Act} (h : TRel ι n t a) {x : Operand} {v : Value} (hx : ev G t x = some v) : VRel ι v (a.eval x) := by
  cases x with
  | tmp d => simp [ev] at hx; subst hx; exact h.2 d
  | const c =>
    simp only [ev] at hx
    cases hc : constV c with
    | false => simp [hc] at hx
    | true => simp [hc] at hx; subst hx; exact constV_rel ι hc
  | global g =>
    simp only [ev] at hx
    split at hx
    · rename_i hg
      obtain ⟨L, h1, h2, h3⟩ := hr.glob g hg
      simp at hx; subst hx
      have := VRel.ptr (ι := ι) g 0 L h1
      rw [h2, h3] at this
      exact this
    · simp at hx
  | func f => simp [ev] at hx; subst hx; exact .func _ _ _ _ _ rfl rfl (by intro i x y h; simp at h) (by intro i x y h; simp at h)

theorem evs_rel {B0 G : Nat} {ι : Ren} {m : Mem} {w : World} (hr : Rel B0 G ι m w) {n : Nat} {t : Tmps} {a : Act} (h : TRel ι n t a) : ∀ {l : List Operand} {vs : List Value}, evs G t l = some vs → VRels ι vs (l.map a.eval)
  | [], vs, hx => by simp [evs] at hx; subst hx; exact .nil
  | x :: l, vs, hx => by
    simp only [evs] at hx
    split at hx
    · rename_i v hv
      split at hx
      · rename_i us hus
        simp at hx; subst hx
        exact .cons (ev_rel hr h hv) (evs_rel hr h hus)
      · simp at hx
    · simp at hx
end Go.DI
/-
  DiOps: the interpreter's operations that only compute: on related values they answer related values, and the model answers the same.
-/
namespace Go.DI
section
variable {P : Program} {K : TypeId → Bool} {G : Nat} {w : World}

/-! ### types -/
theorem run_sizeOf' {t : TypeId} {n : Nat} (h : szOf P t = some n) : (Go.sizeOf t).run P w = .ok n w := by
  unfold szOf at h
  simp only [Go.sizeOf, typeInfo, Sem.run_bind, run_program, Result.andThen_ok]
  split at h
  · rename_i i hi; simp at h; simp [hi, h]
  · simp at h
theorem run_typeInfo_bytes {t : TypeId} {n : Nat} (h : bytesOf P t = some n) : ∃ i, (typeInfo t).run P w = .ok i w ∧ i.bytes = n := by
  unfold bytesOf at h
  simp only [typeInfo, Sem.run_bind, run_program, Result.andThen_ok]
  split at h
  · rename_i i hi; simp at h; exact ⟨i, by simp [hi], h⟩
  · simp at h
theorem run_zero' {t : TypeId} {z : Value} (h : zeroOf P t = some z) : (zeroValue t).run P w = .ok z w := by
  unfold zeroOf at h
  simp only [zeroValue, typeInfo, Sem.run_bind, run_program, Result.andThen_ok]
  split at h
  · rename_i i hi; simp [hi, h]
  · simp at h
theorem run_und {t : TypeId} {d : TypeDesc} (h : P.underlying t = some d) : (underlying t).run P w = .ok d w := by
  simp [underlying, h]
theorem run_isAgg' {t : TypeId} {b : Bool} (h : aggB P t = some b) : (isAgg t).run P w = .ok b w := by
  unfold aggB at h
  simp only [isAgg, Sem.run_bind]
  split at h
  · rename_i hu; rw [run_und hu]; simp at h; simp [h]
  · rename_i hu; rw [run_und hu]; simp at h; simp [h]
  · rename_i d h1 h2 hu; rw [run_und hu]; simp at h; subst h
    cases d <;> simp_all
  · simp at h

theorem drop_take_extract (cs : Array Value) (off n : Nat) : ((cs.toList.drop off).take n).toArray = cs.extract off (off + n) := by
  apply Array.ext'
  simp [Array.toList_extract, List.extract]

theorem run_part {t : TypeId} {cs : Array Value} {off : Nat} {v : Value} (h : part P t cs.toList off = some v) : (Go.part t cs off).run P w = .ok v w := by
  unfold part at h
  simp only [Go.part, Sem.run_bind]
  split at h
  · rename_i ha
    rw [run_isAgg' ha]
    split at h
    · rename_i n hn
      simp at h
      simp [run_sizeOf' hn, ← h, ← drop_take_extract]
    · simp at h
  · rename_i ha
    rw [run_isAgg' ha]
    simp at h
    simp [h]
  · simp at h

theorem part_rel {ι : Ren} {t : TypeId} {cs cs' : List Value} (hc : VRels ι cs cs') {off : Nat} {v : Value} (h : part P t cs off = some v) : ∃ v', part P t cs' off = some v' ∧ VRel ι v v' := by
  unfold part at h ⊢
  split at h
  · split at h
    · simp at h; subst h; exact ⟨_, rfl, VRel.agg' ((hc.drop _).take _)⟩
    · simp at h
  · obtain ⟨y, hy, hr⟩ := hc.get h; exact ⟨y, by simp [hy], hr⟩
  · simp at h

/-! ### numbers and strings -/
theorem run_binInt {op : BinOp} {k : IntKind} {x y : Int} {t : TypeId} {v : Value} (h : binInt op k x y = some v) (hs : op ≠ .shl ∧ op ≠ .shr) : (binOp op t (.int k x) (.int k y)).run P w = .ok v w := by
  cases op <;> simp only [binInt] at h <;> (try (split at h)) <;> (try (simp at h; done)) <;> (try (simp at h)) <;> (try subst h) <;>
    simp_all [binOp, Op.intArith, Op.intDiv, Op.intBits, Op.intCmp]

theorem run_shiftD {op : BinOp} {k k' : IntKind} {x y : Int} {t : TypeId} {v : Value} (h : shiftD op k x y = some v) (hs : op = .shl ∨ op = .shr) : (binOp op t (.int k x) (.int k' y)).run P w = .ok v w := by
  unfold shiftD at h
  split at h
  · simp at h
  · rename_i hy
    rcases hs with rfl | rfl <;> simp at h <;> subst h <;> simp [binOp, Op.shift, hy]

theorem run_binStr {op : BinOp} {x y : ByteArray} {t : TypeId} {v : Value} (h : binStr op x y = some v) : (binOp op t (.string x) (.string y)).run P w = .ok v w := by
  cases op <;> simp only [binStr] at h <;> (try (split at h)) <;> (try (simp at h; done)) <;> (try (simp at h)) <;> (try subst h) <;>
    simp_all [binOp, Op.stringOp]

/-! ### equality -/
/-- What the list of comparable types is worth. -/
def Plain (P : Program) (K : TypeId → Bool) : Prop := ∀ t, K t = true → P.stoodInHeld t = false ∧ P.eqGuardType P.depth t = false

theorem run_feqF {d : Nat} {xs ys : Array Value} (ih : ∀ (t : TypeId) (a b : Value) (r : Bool), feq P K d t a b = some r → ∀ d', d ≤ d' → (Op.equalIn d' t a b).run P w = .ok r w) {d' : Nat} (hd : d ≤ d') :
    ∀ (fs : List Field) (r : Bool), feqF (fun u o => match part P u xs.toList o, part P u ys.toList o with | some a, some b => feq P K d u a b | _, _ => none) fs = some r →
      (Op.eqFields d' xs ys fs).run P w = .ok r w
  | [], r, h => by simp [feqF] at h; subst h; simp [Op.eqFields]
  | f :: fs, r, h => by
    simp only [feqF] at h
    split at h
    · simp at h
    · rename_i hn
      simp only [Op.eqFields, ne_eq, hn, not_false_eq_true, if_true, Sem.run_bind]
      split at h
      · rename_i he
        split at he
        · rename_i a b ha hb
          rw [run_part ha]; simp only [Result.andThen_ok]; rw [run_part hb]; simp only [Result.andThen_ok]; rw [ih _ _ _ _ he _ hd]
          simp only [Result.andThen_ok, Bool.not_true, Bool.false_eq_true, if_false]
          exact run_feqF ih hd fs r h
        · simp at he
      · rename_i he
        simp at h; subst h
        split at he
        · rename_i a b ha hb
          rw [run_part ha]; simp only [Result.andThen_ok]; rw [run_part hb]; simp only [Result.andThen_ok]; rw [ih _ _ _ _ he _ hd]
          simp
        · simp at he
      · simp at h

theorem run_feqL {d : Nat} {xs ys : Array Value} {e : TypeId} {n : Nat} (ih : ∀ (t : TypeId) (a b : Value) (r : Bool), feq P K d t a b = some r → ∀ d', d ≤ d' → (Op.equalIn d' t a b).run P w = .ok r w) {d' : Nat} (hd : d ≤ d') :
    ∀ (len i : Nat) (r : Bool), feqL (fun i => match part P e xs.toList (i * n), part P e ys.toList (i * n) with | some a, some b => feq P K d e a b | _, _ => none) len i = some r →
      (Op.eqItems d' e n xs ys (List.range' i len)).run P w = .ok r w
  | 0, i, r, h => by simp [feqL] at h; subst h; simp [Op.eqItems]
  | len + 1, i, r, h => by
    simp only [feqL] at h
    rw [List.range'_succ]
    simp only [Op.eqItems, Sem.run_bind]
    split at h
    · rename_i he
      split at he
      · rename_i a b ha hb
        rw [run_part ha]; simp only [Result.andThen_ok]; rw [run_part hb]; simp only [Result.andThen_ok]; rw [ih _ _ _ _ he _ hd]
        simp only [Result.andThen_ok, Bool.not_true, Bool.false_eq_true, if_false]
        exact run_feqL ih hd len (i + 1) r h
      · simp at he
    · rename_i he
      simp at h; subst h
      split at he
      · rename_i a b ha hb
        rw [run_part ha]; simp only [Result.andThen_ok]; rw [run_part hb]; simp only [Result.andThen_ok]; rw [ih _ _ _ _ he _ hd]
        simp
      · simp at he
    · simp at h

theorem szOf_info {t : TypeId} {n : Nat} (h : szOf P t = some n) : ∃ i, P.info? t = some i ∧ P.cellsOf t = n := by
  unfold szOf at h
  split at h
  · rename_i i hi; simp at h; exact ⟨i, hi, by simp [Program.cellsOf, hi, h]⟩
  · simp at h

theorem run_feq (hK : Plain P K) : ∀ (d : Nat) (t : TypeId) (x y : Value) (r : Bool), feq P K d t x y = some r → ∀ d', d ≤ d' → (Op.equalIn d' t x y).run P w = .ok r w
  | 0, t, x, y, r, h, d', hd => by simp [feq] at h
  | d + 1, t, x, y, r, h, d', hd => by
    obtain ⟨d', rfl⟩ : ∃ k, d' = k + 1 := ⟨d' - 1, by omega⟩
    have hd' : d ≤ d' := by omega
    have ih := run_feq hK d
    unfold feq at h
    split at h
    · rename_i hu
      split at h <;> simp at h
      subst h; simp [Op.equalIn, run_und hu]
    · rename_i hu
      split at h <;> try (simp at h; done)
      split at h <;> simp at h
      rename_i hk; subst hk; subst h; simp [Op.equalIn, run_und hu]
    · rename_i hu
      split at h <;> simp at h
      subst h; simp [Op.equalIn, run_und hu]
    · rename_i hu
      split at h <;> simp at h <;> subst h <;> simp [Op.equalIn, run_und hu]
    · rename_i hu
      split at h <;> simp at h <;> subst h <;> simp [Op.equalIn, run_und hu]
    · rename_i hu
      split at h <;> simp at h <;> subst h <;> simp [Op.equalIn, run_und hu]
    · rename_i hu
      split at h <;> simp at h <;> subst h <;> simp [Op.equalIn, run_und hu]
    · rename_i fields hu
      split at h <;> try (simp at h; done)
      split at h <;> try (simp at h; done)
      rename_i xs ys hk
      have hf : P.fieldsOf t = fields := by simp [Program.fieldsOf, hu]
      rw [run_equalIn_struct w d' t xs ys (by rw [hf]; exact hu) (hK t hk).1, hf]
      exact run_feqF ih hd' fields.toList r h
    · rename_i len elem hu
      split at h <;> try (simp at h; done)
      rename_i xs ys
      split at h <;> try (simp at h; done)
      rename_i n hn
      obtain ⟨i, hi, hc⟩ := szOf_info hn
      rw [run_equalIn_array w d' xs ys hu hi, hc, List.range_eq_range']
      exact run_feqL ih hd' len 0 r h
    · simp at h

/-! ### the same on related values -/
theorem feqF_rel {g g' : TypeId → Nat → Option Bool} (hg : ∀ (t : TypeId) (o : Nat) (r : Bool), g t o = some r → g' t o = some r) : ∀ (fs : List Field) (r : Bool), feqF g fs = some r → feqF g' fs = some r
  | [], r, h => h
  | f :: fs, r, h => by
    simp only [feqF] at h ⊢
    split at h
    · simp at h
    · rename_i hn
      simp only [hn, if_false]
      split at h
      · rename_i he; rw [hg _ _ _ he]; exact feqF_rel hg fs r h
      · rename_i he; rw [hg _ _ _ he]; exact h
      · simp at h

theorem feqL_rel {g g' : Nat → Option Bool} (hg : ∀ (i : Nat) (r : Bool), g i = some r → g' i = some r) : ∀ (n i : Nat) (r : Bool), feqL g n i = some r → feqL g' n i = some r
  | 0, i, r, h => h
  | n + 1, i, r, h => by
    simp only [feqL] at h ⊢
    split at h
    · rename_i he; rw [hg _ _ he]; exact feqL_rel hg n (i + 1) r h
    · rename_i he; rw [hg _ _ he]; exact h
    · simp at h

theorem feq_rel {ι : Ren} : ∀ (d : Nat) (t : TypeId) (x y x' y' : Value) (r : Bool), VRel ι x x' → VRel ι y y' → feq P K d t x y = some r → feq P K d t x' y' = some r
  | 0, t, x, y, x', y', r, _, _, h => by simp [feq] at h
  | d + 1, t, x, y, x', y', r, hx, hy, h => by
    have ih := feq_rel (ι := ι) d
    unfold feq at h ⊢
    split at h
    · split at h <;> simp at h
      cases hx; cases hy; simp [h]
    · split at h <;> try (simp at h; done)
      cases hx; cases hy; exact h
    · split at h <;> simp at h
      cases hx; cases hy; simp [h]
    · split at h <;> simp at h
      · cases hx; cases hy <;> simpa using h
      · cases hy; cases hx; simpa using h
    · split at h <;> simp at h
      · cases hx; cases hy <;> simpa using h
      · cases hy; cases hx <;> simpa using h
    · split at h <;> simp at h
      · cases hx; cases hy <;> simpa using h
      · cases hy; cases hx; simpa using h
    · split at h <;> simp at h
      · cases hx; cases hy; simpa using h
      · cases hx; cases hy; simpa using h
      · cases hx; cases hy; simpa using h
    · split at h <;> try (simp at h; done)
      rename_i xs ys
      split at h <;> try (simp at h; done)
      rename_i hk
      obtain ⟨xs', rfl, hxs⟩ := hx.inv_agg
      obtain ⟨ys', rfl, hys⟩ := hy.inv_agg
      simp only [hk, if_true]
      refine feqF_rel (fun u o r he => ?_) _ _ h
      split at he
      · rename_i a b ha hb
        obtain ⟨a', ha', hra⟩ := part_rel hxs ha
        obtain ⟨b', hb', hrb⟩ := part_rel hys hb
        simp only [ha', hb']
        exact ih _ _ _ _ _ _ hra hrb he
      · simp at he
    · split at h <;> try (simp at h; done)
      rename_i xs ys
      split at h <;> try (simp at h; done)
      rename_i n hn
      obtain ⟨xs', rfl, hxs⟩ := hx.inv_agg
      obtain ⟨ys', rfl, hys⟩ := hy.inv_agg
      refine feqL_rel (fun i r he => ?_) _ _ _ h
      split at he
      · rename_i a b ha hb
        obtain ⟨a', ha', hra⟩ := part_rel hxs ha
        obtain ⟨b', hb', hrb⟩ := part_rel hys hb
        simp only [ha', hb']
        exact ih _ _ _ _ _ _ hra hrb he
      · simp at he
    · simp at h

theorem binD_rel {ι : Ren} {op : BinOp} {t : TypeId} {x y x' y' v : Value} (hx : VRel ι x x') (hy : VRel ι y y') (h : binD P K op t x y = some v) : binD P K op t x' y' = some v ∧ VRel ι v v := by
  have hint : ∀ (op : BinOp) (k : IntKind) (a b : Int) (v : Value), binInt op k a b = some v → VRel ι v v := by
    intro op k a b v h
    cases op <;> simp only [binInt] at h <;> (try (split at h)) <;> (try (simp at h; done)) <;> simp at h <;> subst h <;> constructor
  have hsh : ∀ (op : BinOp) (k : IntKind) (a b : Int) (v : Value), shiftD op k a b = some v → VRel ι v v := by
    intro op k a b v h
    unfold shiftD at h
    split at h
    · simp at h
    · cases op <;> simp at h <;> subst h <;> constructor
  have hst : ∀ (op : BinOp) (a b : ByteArray) (v : Value), binStr op a b = some v → VRel ι v v := by
    intro op a b v h
    cases op <;> simp only [binStr] at h <;> (try (split at h)) <;> (try (simp at h; done)) <;> simp at h <;> subst h <;> constructor
  have heq : ∀ (a b a' b' v : Value), VRel ι a a' → VRel ι b b' → eqD P K op t a b = some v → eqD P K op t a' b' = some v ∧ VRel ι v v := by
    intro a b a' b' v ha hb h
    unfold eqD at h ⊢
    cases op <;> simp at h ⊢
    all_goals
      split at h
      · rename_i r hr
        rw [feq_rel 100 t a b a' b' r ha hb hr]
        simp at h ⊢
        subst h
        exact ⟨rfl, .bool _⟩
      · simp at h
  cases x
  case int k a =>
    cases hx
    simp only [binD] at h ⊢
    split at h
    · cases hy
      simp only []
      cases hb : shiftB op with
      | true => simp [hb] at h ⊢; exact ⟨h, hsh _ _ _ _ _ h⟩
      | false =>
        simp only [hb, cond_false] at h ⊢
        refine ⟨h, ?_⟩
        split at h
        · exact hint _ _ _ _ _ h
        · simp at h
    · simp at h
  case string a =>
    cases hx
    simp only [binD] at h ⊢
    split at h
    · cases hy
      exact ⟨h, hst _ _ _ _ h⟩
    · simp at h
  case agg xs =>
    obtain ⟨xs', rfl, hxs⟩ := hx.inv_agg
    simp only [binD] at h ⊢
    split at h
    · rename_i ys
      obtain ⟨ys', rfl, hys⟩ := hy.inv_agg
      split at h
      · rename_i hk
        simp only [hk, if_true]
        exact heq _ _ _ _ v hx hy h
      · simp at h
    · simp at h
  case bool a => cases hx; exact heq _ _ _ _ v (.bool a) hy h
  case pointer a =>
    have := heq _ _ _ _ v hx hy h
    cases hx <;> exact this
  case slice a n c =>
    have := heq _ _ _ _ v hx hy h
    cases hx <;> exact this
  case map a =>
    have := heq _ _ _ _ v hx hy h
    cases hx <;> exact this
  case func f a b =>
    have := heq _ _ _ _ v hx hy h
    cases hx <;> exact this
  case nilFunc =>
    have := heq _ _ _ _ v hx hy h
    cases hx; exact this
  all_goals (simp [binD] at h; done)

theorem run_eqD (hK : Plain P K) {op : BinOp} {t : TypeId} {x y v : Value} (h : eqD P K op t x y = some v) :
    (match op with | .eql => (do pure (Value.bool (← Op.equal t x y)) : Sem Value) | _ => (do pure (Value.bool (!(← Op.equal t x y))))).run P w = .ok v w ∧ (op = .eql ∨ op = .neq) := by
  unfold eqD at h
  cases op <;> simp at h
  all_goals
    split at h
    · rename_i r hr
      have := run_feq (w := w) hK 100 t x y r hr Op.maxDepth (by decide)
      simp at h; subst h
      simp [Op.equal, this]
    · simp at h

theorem run_binD (hK : Plain P K) {op : BinOp} {t : TypeId} {o1 o2 : Operand} {x y v : Value} (h : binD P K op t x y = some v) :
    (do eqGuard op t o1 o2 x y; binOp op t x y).run P w = .ok v w := by
  cases x
  case int k a =>
    simp only [binD] at h
    split at h
    · rename_i k' b
      have hg : (eqGuard op t o1 o2 (.int k a) (.int k' b)).run P w = .ok () w := by cases op <;> simp [eqGuard]
      simp only [Sem.run_bind, hg, Result.andThen_ok]
      cases hb : shiftB op with
      | true =>
        simp only [hb, cond_true] at h
        exact run_shiftD h (by cases op <;> simp_all [shiftB])
      | false =>
        simp only [hb, cond_false] at h
        split at h
        · rename_i hk; subst hk
          exact run_binInt h (by cases op <;> simp_all [shiftB])
        · simp at h
    · simp at h
  case string a =>
    simp only [binD] at h
    split at h
    · rename_i b
      have hg : (eqGuard op t o1 o2 (.string a) (.string b)).run P w = .ok () w := by cases op <;> simp [eqGuard]
      simp only [Sem.run_bind, hg, Result.andThen_ok]
      exact run_binStr h
    · simp at h
  case agg xs =>
    simp only [binD] at h
    split at h
    · rename_i ys
      split at h
      · rename_i hk
        have hg := run_eqGuard_agg (P := P) w op t o1 o2 xs ys (hK t hk).2
        simp only [Sem.run_bind, hg, Result.andThen_ok]
        obtain ⟨h1, h2⟩ := run_eqD (w := w) hK h
        rcases h2 with rfl | rfl <;> simpa [binOp] using h1
      · simp at h
    · simp at h
  case bool a =>
    obtain ⟨h1, h2⟩ := run_eqD (w := w) hK (show eqD P K op t (.bool a) y = some v from h)
    rcases h2 with rfl | rfl <;> simp only [eqGuard] <;> cases y <;> simp_all [binOp, eqD, feq]
  case nilFunc =>
    obtain ⟨h1, h2⟩ := run_eqD (w := w) hK (show eqD P K op t .nilFunc y = some v from h)
    rcases h2 with rfl | rfl <;> simp only [eqGuard] <;> cases y <;> simp_all [binOp, eqD, feq]
  case func f a b =>
    obtain ⟨h1, h2⟩ := run_eqD (w := w) hK (show eqD P K op t (.func f a b) y = some v from h)
    rcases h2 with rfl | rfl <;> simp only [eqGuard] <;> cases y <;> simp_all [binOp, eqD, feq]
  case map a =>
    obtain ⟨h1, h2⟩ := run_eqD (w := w) hK (show eqD P K op t (.map a) y = some v from h)
    rcases h2 with rfl | rfl <;> simp only [eqGuard] <;> cases y <;> simp_all [binOp, eqD, feq]
  case slice a n c =>
    obtain ⟨h1, h2⟩ := run_eqD (w := w) hK (show eqD P K op t (.slice a n c) y = some v from h)
    rcases h2 with rfl | rfl <;> simp only [eqGuard] <;> cases y <;> simp_all [binOp, eqD, feq]
  case pointer a =>
    obtain ⟨h1, h2⟩ := run_eqD (w := w) hK (show eqD P K op t (.pointer a) y = some v from h)
    rcases h2 with rfl | rfl <;> simp only [eqGuard] <;> cases y <;> simp_all [binOp, eqD, feq]
  all_goals (simp [binD] at h; done)
end
end Go.DI
/-
  DiQuiet: an operation that only computes or reads: the model answers what the interpreter answers, and leaves the world alone.
-/
namespace Go.DI
section
variable {P : Program} {K : TypeId → Bool} {G B0 n : Nat} {ι : Ren} {m : Mem} {w : World} {t : Tmps} {a : Act}

theorem unD_ok {op : UnOp} {x x' v : Value} (hx : VRel ι x x') (h : unD op x = some v) : (Op.unary op x').run P w = .ok v w ∧ VRel ι v v := by
  cases x
  case int k q =>
    cases hx
    cases op <;> simp only [unD] at h
    case neg => simp at h; subst h; exact ⟨by simp [Op.unary, Op.intArith], .int _ _⟩
    case xor => simp [binInt] at h; subst h; exact ⟨by simp [Op.unary, Op.intBits], .int _ _⟩
    all_goals (simp at h)
  case bool b =>
    cases hx
    cases op <;> simp only [unD] at h
    case not => simp at h; subst h; exact ⟨by simp [Op.unary], .bool _⟩
    all_goals (simp at h)
  all_goals (simp [unD] at h)

theorem Addr.add_none (b off k : Nat) : (⟨b, off, none⟩ : Addr).add k = ⟨b, off + k, none⟩ := by
  unfold Addr.add
  split
  · rename_i h; subst h; rfl
  · rfl

theorem fieldAddrD_ok {s : TypeId} {f : Nat} {x x' v : Value} (hx : VRel ι x x') (h : fieldAddrD P s f x = some v) :
    ∃ v', (Instr.fieldAt s x' f).run P w = .ok v' w ∧ VRel ι v v' := by
  unfold fieldAddrD at h
  split at h <;> try (simp at h; done)
  rename_i b off
  split at h <;> try (simp at h; done)
  rename_i fields hu
  split at h <;> try (simp at h; done)
  rename_i fd hf
  split at h <;> try (simp at h; done)
  rename_i sz hs
  split at h <;> simp at h
  rename_i hz
  obtain ⟨L, hL, rfl⟩ := hx.inv_ptr
  subst h
  refine ⟨.pointer (some ⟨L.block, L.base + (off + fd.offset), none⟩), ?_, .ptr _ _ _ hL⟩
  have hf' : fields[f]? = some fd := by simpa using hf
  simp [Instr.fieldAt, run_und hu, hf', Instr.sureAddr, fieldPlace, run_sizeOf' hs, hz, Addr.add_none, Nat.add_assoc]

theorem fieldD_ok {s : TypeId} {f : Nat} {x x' v : Value} (hx : VRel ι x x') (h : fieldD P s f x = some v) :
    ∃ v', (Instr.field s x' f).run P w = .ok v' w ∧ VRel ι v v' := by
  unfold fieldD at h
  split at h <;> try (simp at h; done)
  rename_i cs
  split at h <;> try (simp at h; done)
  rename_i fields hu
  split at h <;> try (simp at h; done)
  rename_i fd hf
  obtain ⟨cs', rfl, hcs⟩ := hx.inv_agg
  obtain ⟨v', hv', hr⟩ := part_rel hcs h
  have hf' : fields[f]? = some fd := by simpa using hf
  exact ⟨v', by simp [Instr.field, run_und hu, hf', asAgg, run_part hv'], hr⟩

theorem indexAddrD_ok {s : TypeId} {x x' i v : Value} (hx : VRel ι x x') (h : indexAddrD P s x i = some v) :
    ∃ v', (Instr.indexAt s x' i).run P w = .ok v' w ∧ VRel ι v v' := by
  unfold indexAddrD at h
  split at h <;> try (simp at h; done)
  rename_i k j
  split at h <;> try (simp at h; done)
  · rename_i len elem hu
    split at h <;> try (simp at h; done)
    rename_i b off
    split at h <;> try (simp at h; done)
    rename_i sz hs
    split at h <;> simp at h
    rename_i hb
    obtain ⟨L, hL, rfl⟩ := hx.inv_ptr
    subst h
    refine ⟨.pointer (some ⟨L.block, L.base + (off + j.toNat * sz), none⟩), ?_, .ptr _ _ _ hL⟩
    simp [Instr.indexAt, asIntOf, run_und hu, Instr.sureAddr, hb, run_sizeOf' hs, Addr.add_none, Nat.add_assoc]
  · rename_i elem hu
    split at h <;> try (simp at h; done)
    rename_i b off sp len cap
    split at h <;> try (simp at h; done)
    rename_i sz hs
    split at h <;> simp at h
    rename_i hb
    subst h
    cases hx with
    | slc _ _ _ _ L hL =>
      refine ⟨.pointer (some ⟨L.block, L.base + (off + j.toNat * sz), none⟩), ?_, .ptr _ _ _ hL⟩
      simp [Instr.indexAt, asIntOf, run_und hu, Instr.sureAddr, hb, run_sizeOf' hs, Addr.add_none, Nat.add_assoc]
    | loose _ _ _ _ _ _ L hL hc htot =>
      refine ⟨.pointer (some ⟨L.block, L.base + (off + j.toNat * sz), none⟩), ?_, .ptr _ _ _ hL⟩
      simp [Instr.indexAt, asIntOf, run_und hu, Instr.sureAddr, hb, run_sizeOf' hs, Addr.add_none, Nat.add_assoc]
    | loose0 _ _ _ _ _ L hL htot => simp at hb; omega
    | empty => simp at hb; omega

theorem indexD_ok {s : TypeId} {x x' i v : Value} (hx : VRel ι x x') (h : indexD P s x i = some v) :
    ∃ v', (Instr.index s x' i).run P w = .ok v' w ∧ VRel ι v v' := by
  unfold indexD at h
  split at h <;> try (simp at h; done)
  rename_i k j
  split at h <;> try (simp at h; done)
  · rename_i len elem hu
    split at h <;> try (simp at h; done)
    rename_i cs
    split at h <;> try (simp at h; done)
    rename_i sz hs
    split at h <;> try (simp at h; done)
    rename_i hb
    obtain ⟨cs', rfl, hcs⟩ := hx.inv_agg
    obtain ⟨v', hv', hr⟩ := part_rel hcs h
    refine ⟨v', ?_, hr⟩
    simp [Instr.index, asIntOf, run_und hu, hb, run_sizeOf' hs, run_part hv']
  · rename_i hu
    split at h <;> try (simp at h; done)
    rename_i q
    split at h <;> try (simp at h; done)
    rename_i hj
    split at h <;> simp at h
    rename_i u hb
    subst h
    cases hx
    refine ⟨_, ?_, .int _ _⟩
    have hb' : q[j.toNat]? = some u := by
      have h1 : q.data[j.toNat]? = some u := by simpa using hb
      rw [← h1]
      simp only [getElem?_def]
      rfl
    simp [Instr.index, asIntOf, run_und hu, hj, hb']

theorem boundD_run {y y' : Nat} (hy : y ≤ y') {x : Value} {d r : Nat} (h : boundD y (some x) d = some r) (code : BoundsCode) : (Instr.sliceBound x y' code).run P w = .ok r w ∧ r ≤ y := by
  cases x <;> simp only [boundD] at h <;> try (simp at h; done)
  split at h <;> simp at h
  rename_i k i hb
  subst h
  have : 0 ≤ i ∧ i ≤ (y' : Int) := by omega
  exact ⟨by simp [Instr.sliceBound, asIntOf, this], by omega⟩

theorem boundsD_run {len cap cap' : Nat} (hc : cap ≤ cap') {lo hi mx : Option Value} {l h' m' : Nat} (h : boundsD len cap lo hi mx = some (l, h', m')) (b : Bool) :
    (Instr.sliceBounds b len cap' lo hi mx).run P w = .ok (l, h', if mx.isSome then m' else cap') w ∧ (mx.isSome = false → m' = cap) ∧ m' ≤ cap ∧ (lo.isSome = false → l = 0) ∧ (lo.isSome = true → l ≤ h') ∧ (hi.isSome = true → h' ≤ m') ∧ (hi.isSome = false → h' = len) := by
  unfold boundsD at h
  split at h
  · simp at h
  · rename_i hne
    split at h <;> try (simp at h; done)
    rename_i m₁ hm
    split at h <;> try (simp at h; done)
    rename_i h₁ hh
    split at h <;> simp at h
    rename_i l₁ hl
    obtain ⟨rfl, rfl, rfl⟩ := h
    cases mx with
    | none =>
      simp [boundD] at hm; subst hm
      cases hi with
      | none =>
        simp [boundD] at hh; subst hh
        cases lo with
        | none => simp [boundD] at hl; subst hl; simp [Instr.sliceBounds]
        | some lo => obtain ⟨e1, e2⟩ := boundD_run (P := P) (w := w) (Nat.le_refl _) hl .sliceB; simp [Instr.sliceBounds, e1, e2]
      | some hi =>
        obtain ⟨e3, e4⟩ := boundD_run (P := P) (w := w) hc hh (if b then .sliceAcap else .sliceAlen)
        cases lo with
        | none => simp [boundD] at hl; subst hl; simp [Instr.sliceBounds, e3, e4]
        | some lo => obtain ⟨e1, e2⟩ := boundD_run (P := P) (w := w) (Nat.le_refl _) hl .sliceB; simp [Instr.sliceBounds, e1, e2, e3, e4]
    | some mx =>
      obtain ⟨e5, e6⟩ := boundD_run (P := P) (w := w) hc hm (if b then .slice3Acap else .slice3Alen)
      cases hi with
      | none => exact absurd rfl (hne mx rfl)
      | some hi =>
        obtain ⟨e3, e4⟩ := boundD_run (P := P) (w := w) (Nat.le_refl _) hh .slice3B
        cases lo with
        | none => simp [boundD] at hl; subst hl; simp [Instr.sliceBounds, e3, e4, e5, e6]
        | some lo => obtain ⟨e1, e2⟩ := boundD_run (P := P) (w := w) (Nat.le_refl _) hl .slice3C; simp [Instr.sliceBounds, e1, e2, e3, e4, e5, e6]


/-- Related or both absent. -/
def ORel (ι : Ren) : Option Value → Option Value → Prop
  | none, none => True
  | some v, some v' => VRel ι v v'
  | _, _ => False

theorem boundD_rel {ι : Ren} {y d : Nat} {x x' : Option Value} (h : ORel ι x x') {r : Nat} (hb : boundD y x d = some r) : boundD y x' d = some r := by
  cases x <;> cases x' <;> simp only [ORel] at h
  · exact hb
  · rename_i v v'
    cases v <;> simp only [boundD] at hb <;> try (simp at hb; done)
    cases h; exact hb

theorem boundsD_rel {ι : Ren} {len cap : Nat} {lo lo' hi hi' mx mx' : Option Value} (h1 : ORel ι lo lo') (h2 : ORel ι hi hi') (h3 : ORel ι mx mx') {r : Nat × Nat × Nat} (h : boundsD len cap lo hi mx = some r) :
    boundsD len cap lo' hi' mx' = some r := by
  unfold boundsD at h ⊢
  split at h
  · simp at h
  · rename_i hne
    split at h <;> try (simp at h; done)
    rename_i m₁ hm
    split at h <;> try (simp at h; done)
    rename_i h₁ hh
    split at h <;> simp at h
    rename_i l₁ hl
    have hne' : ∀ (v : Value), mx' = some v → hi' = none → False := by
      intro v e1 e2
      subst e1 e2
      cases mx <;> cases hi <;> simp_all [ORel]
    split
    · exact (hne' _ rfl rfl).elim
    · simp [boundD_rel h3 hm, boundD_rel h2 hh, boundD_rel h1 hl, h]

theorem sliceD_ok {s : TypeId} {x x' v : Value} {lo lo' hi hi' mx mx' : Option Value} (hx : VRel ι x x') (h1 : ORel ι lo lo') (h2 : ORel ι hi hi') (h3 : ORel ι mx mx') (h : sliceD P s x lo hi mx = some v) :
    ∃ v', (Instr.sliceAt s x' lo' hi' mx').run P w = .ok v' w ∧ VRel ι v v' := by
  have hsome : mx'.isSome = mx.isSome := by cases mx <;> cases mx' <;> simp_all [ORel]
  unfold sliceD at h
  split at h <;> try (simp at h; done)
  · rename_i hu
    split at h <;> try (simp at h; done)
    rename_i q
    split at h <;> try (simp at h; done)
    split at h <;> simp at h
    rename_i l h' m₁ hb
    subst h
    cases hx
    have hb' := boundsD_rel h1 h2 h3 hb
    obtain ⟨e, _⟩ := boundsD_run (P := P) (w := w) (Nat.le_refl _) hb' false
    cases mx' <;> simp [ORel] at h3
    refine ⟨_, ?_, .string _⟩
    simp at e
    simp [Instr.sliceAt, run_und hu, Instr.slice, e]
  · rename_i elem hu
    split at h <;> try (simp at h; done)
    · rename_i len cap
      split at h <;> simp at h
      rename_i l h' m₁ sz hb hsz
      subst h
      cases hx
      have hb' := boundsD_rel h1 h2 h3 hb
      obtain ⟨e, g1, _⟩ := boundsD_run (P := P) (w := w) (Nat.le_refl _) hb' true
      have e2 : (if mx'.isSome = true then m₁ else cap) = m₁ := by
        cases hm : mx'.isSome
        · simp [g1 hm]
        · simp
      rw [e2] at e
      refine ⟨.slice none (h' - l) (m₁ - l), ?_, .slc0 _ _⟩
      simp [Instr.sliceAt, run_und hu, Instr.slice, e, run_sizeOf' hsz]
    · rename_i b off len cap
      split at h <;> simp at h
      rename_i l h' m₁ sz hb hsz
      subst h
      cases hx with
      | slc _ _ _ _ L hL =>
        have hb' := boundsD_rel h1 h2 h3 hb
        obtain ⟨e, g1, _⟩ := boundsD_run (P := P) (w := w) (Nat.le_refl _) hb' true
        have e2 : (if mx'.isSome = true then m₁ else cap) = m₁ := by
          cases hm : mx'.isSome
          · simp [g1 hm]
          · simp
        rw [e2] at e
        by_cases hml : m₁ = l
        · refine ⟨.slice (some ⟨L.block, L.base + off, none⟩) (h' - l) (m₁ - l), ?_, by simp only [hml, if_true]; exact .slc _ _ _ _ _ hL⟩
          simp [Instr.sliceAt, run_und hu, Instr.slice, e, run_sizeOf' hsz, hml]
        · refine ⟨.slice (some ⟨L.block, L.base + (off + l * sz), none⟩) (h' - l) (m₁ - l), ?_, by simp only [hml, if_false]; exact .slc _ _ _ _ _ hL⟩
          simp [Instr.sliceAt, run_und hu, Instr.slice, e, run_sizeOf' hsz, hml, Addr.add_none, Nat.add_assoc]
    · rename_i b off e₀ len cap
      split at h <;> try (simp at h; done)
      rename_i l h' m₁ sz hb hsz
      split at h <;> try (simp at h; done)
      rename_i hc
      obtain ⟨rfl, hlh, hhm⟩ := hc
      have hb' := boundsD_rel h1 h2 h3 hb
      cases hx with
      | loose _ _ _ _ _ cap' L hL hcc htot =>
        obtain ⟨e, g1, g2, _⟩ := boundsD_run (P := P) (w := w) hcc hb' true
        cases hm : mx'.isSome
        · have hm2 : mx.isSome = false := by rw [← hsome, hm]
          have g1' := g1 hm
          rw [hm2] at h
          simp at h
          subst h
          rw [hm] at e
          simp only [Bool.false_eq_true, if_false] at e
          by_cases hml : cap' = l
          · have h0 : h' - l = 0 := by omega
            have h4 : m₁ - l = 0 := by omega
            refine ⟨.slice (some ⟨L.block, L.base + off, none⟩) (h' - l) (cap' - l), ?_, ?_⟩
            · simp [Instr.sliceAt, run_und hu, Instr.slice, e, run_sizeOf' hsz]; simp [hml]
            · rw [h0, h4]; exact .loose0 _ _ _ _ _ L hL (by rw [hml]; simp; omega)
          · refine ⟨.slice (some ⟨L.block, L.base + (off + l * sz), none⟩) (h' - l) (cap' - l), ?_, ?_⟩
            · simp [Instr.sliceAt, run_und hu, Instr.slice, e, run_sizeOf' hsz, hml, Addr.add_none, Nat.add_assoc]
            · refine .loose _ _ _ _ _ _ L hL (by omega) ?_
              have : l * sz + (cap' - l) * sz = cap' * sz := by rw [← Nat.add_mul]; congr 1; omega
              omega
        · have hm2 : mx.isSome = true := by rw [← hsome, hm]
          rw [hm2] at h
          simp only [if_true] at h
          rw [hm] at e
          simp only [if_true] at e
          by_cases hml : m₁ = l
          · simp only [hml, if_true] at h
            simp at h; subst h
            have h0 : h' - l = 0 := by omega
            refine ⟨.slice (some ⟨L.block, L.base + off, none⟩) (h' - l) (m₁ - l), ?_, ?_⟩
            · simp [Instr.sliceAt, run_und hu, Instr.slice, e, run_sizeOf' hsz, hml]
            · rw [h0]; exact .loose0 _ _ _ _ _ L hL (by rw [hml]; simp; omega)
          · simp only [hml, if_false] at h
            simp at h; subst h
            refine ⟨.slice (some ⟨L.block, L.base + (off + l * sz), none⟩) (h' - l) (m₁ - l), ?_, .slc _ _ _ _ _ hL⟩
            simp [Instr.sliceAt, run_und hu, Instr.slice, e, run_sizeOf' hsz, hml, Addr.add_none, Nat.add_assoc]
      | loose0 _ _ _ o' cap' L hL htot =>
        obtain ⟨e, g1, g2, _⟩ := boundsD_run (P := P) (w := w) (Nat.zero_le cap') hb' true
        have z1 : m₁ = 0 := by omega
        have z2 : h' = 0 := by omega
        have z3 : l = 0 := by omega
        subst z1 z2 z3
        cases hm : mx'.isSome
        · have hm2 : mx.isSome = false := by rw [← hsome, hm]
          rw [hm2] at h
          simp at h
          subst h
          rw [hm] at e
          simp only [Bool.false_eq_true, if_false] at e
          refine ⟨.slice (some ⟨L.block, o', none⟩) 0 cap', ?_, .loose0 _ _ _ _ _ L hL htot⟩
          simp [Instr.sliceAt, run_und hu, Instr.slice, e, run_sizeOf' hsz, Addr.add_none]
        · have hm2 : mx.isSome = true := by rw [← hsome, hm]
          rw [hm2] at h
          simp at h
          subst h
          rw [hm] at e
          simp only [if_true] at e
          refine ⟨.slice (some ⟨L.block, o', none⟩) 0 0, ?_, .loose0 _ _ _ _ _ L hL (by simp; omega)⟩
          simp [Instr.sliceAt, run_und hu, Instr.slice, e, run_sizeOf' hsz, Addr.add_none]
      | empty b off e₁ ad =>
        obtain ⟨e, g1, g2, _⟩ := boundsD_run (P := P) (w := w) (Nat.le_refl 0) hb' true
        have z1 : m₁ = 0 := by omega
        have z2 : h' = 0 := by omega
        have z3 : l = 0 := by omega
        subst z1 z2 z3
        cases hm : mx'.isSome
        · have hm2 : mx.isSome = false := by rw [← hsome, hm]
          rw [hm2] at h
          simp at h
          subst h
          rw [hm] at e
          simp only [Bool.false_eq_true, if_false] at e
          refine ⟨.slice (some ad) 0 0, ?_, .empty _ _ _ _⟩
          simp [Instr.sliceAt, run_und hu, Instr.slice, e, run_sizeOf' hsz]
        · have hm2 : mx.isSome = true := by rw [← hsome, hm]
          rw [hm2] at h
          simp at h
          subst h
          rw [hm] at e
          simp only [if_true] at e
          refine ⟨.slice (some ad) 0 0, ?_, .empty _ _ _ _⟩
          simp [Instr.sliceAt, run_und hu, Instr.slice, e, run_sizeOf' hsz]
  · rename_i len elem hu
    split at h <;> try (simp at h; done)
    rename_i b off
    split at h <;> simp at h
    rename_i l h' m₁ sz hb hsz
    subst h
    obtain ⟨L, hL, rfl⟩ := hx.inv_ptr
    have hb' := boundsD_rel h1 h2 h3 hb
    obtain ⟨e, g1, _⟩ := boundsD_run (P := P) (w := w) (Nat.le_refl _) hb' false
    have e2 : (if mx'.isSome = true then m₁ else len) = m₁ := by
      cases hm : mx'.isSome
      · simp [g1 hm]
      · simp
    rw [e2] at e
    by_cases hml : m₁ = l
    · refine ⟨.slice (some ⟨L.block, L.base + off, none⟩) (h' - l) (m₁ - l), ?_, by simp only [hml, if_true]; exact .slc _ _ _ _ _ hL⟩
      simp [Instr.sliceAt, run_und hu, Instr.sureAddr, e, run_sizeOf' hsz, hml]
    · refine ⟨.slice (some ⟨L.block, L.base + (off + l * sz), none⟩) (h' - l) (m₁ - l), ?_, by simp only [hml, if_false]; exact .slc _ _ _ _ _ hL⟩
      simp [Instr.sliceAt, run_und hu, Instr.sureAddr, e, run_sizeOf' hsz, hml, Addr.add_none, Nat.add_assoc]
end
end Go.DI
/-
  DiMem: reading and writing memory.
-/
namespace Go.DI
section
variable {P : Program} {K : TypeId → Bool} {G B0 n : Nat} {ι : Ren} {m : Mem} {w : World} {t : Tmps} {a : Act}

def setBlk (w : World) (b : Nat) (o : Obj) : World := { w with heap := w.heap.setIfInBounds b o }

theorem modify_eq_set {α : Type} (a : Array α) (i : Nat) (f : α → α) (x : α) (h : a[i]? = some x) : a.modify i f = a.setIfInBounds i (f x) := by
  apply Array.ext_getElem?
  intro j
  rw [Array.getElem?_modify, Array.getElem?_setIfInBounds]
  have hi : i < a.size := by
    rcases Nat.lt_or_ge i a.size with h1 | h1
    · exact h1
    · rw [Array.getElem?_eq_none h1] at h; cases h
  by_cases hij : i = j
  · subst hij
    have hx : a[i] = x := by rw [Array.getElem?_eq_getElem hi] at h; exact Option.some.inj h
    simp [hi, hx]
  · simp [hij]

theorem setCell_eq {b o : Nat} {c : Array Value} {e : TypeId} {fr : Nat × Nat} (h : w.heap[b]? = some (.cells c e fr)) (v : Value) :
    w.setCell ⟨b, o, none⟩ v = setBlk w b (.cells (c.setIfInBounds o v) e fr) := by
  simp only [World.setCell, setBlk]
  rw [modify_eq_set _ _ _ _ h]
  simp

theorem setBlk_get (w : World) (b j : Nat) (o : Obj) (hb : b < w.heap.size) : (setBlk w b o).heap[j]? = if j = b then some o else w.heap[j]? := by
  simp only [setBlk, Array.getElem?_setIfInBounds]
  by_cases h : b = j
  · subst h; simp [hb]
  · have : ¬ j = b := fun h' => h h'.symm
    simp [h, this]

theorem setBlk_setBlk (w : World) (b : Nat) (o o' : Obj) : setBlk (setBlk w b o) b o' = setBlk w b o' := by
  simp only [setBlk]
  congr 1
  apply Array.ext_getElem?
  intro j
  simp only [Array.getElem?_setIfInBounds, Array.size_setIfInBounds]
  split <;> simp_all

theorem lt_of_get {b : Nat} {o : Obj} (h : w.heap[b]? = some o) : b < w.heap.size := by
  rcases Nat.lt_or_ge b w.heap.size with h1 | h1
  · exact h1
  · rw [Array.getElem?_eq_none h1] at h; cases h

theorem one_oneCell {v : Value} (h : one v = true) : v.oneCell' = true := by cases v <;> simp_all [one, Value.oneCell']

theorem splice_length (c vs : List Value) (off : Nat) (h : off + vs.length ≤ c.length) : (splice c off vs).length = c.length := by
  simp only [splice, List.length_append, List.length_take, List.length_drop]; omega

theorem splice_get (c vs : List Value) (off i : Nat) (h : off + vs.length ≤ c.length) : (splice c off vs)[i]? = if off ≤ i ∧ i < off + vs.length then vs[i - off]? else c[i]? := by
  unfold splice
  rw [List.getElem?_append, List.length_take]
  have hm : min off c.length = off := by omega
  rw [hm]
  by_cases h1 : i < off
  · have : ¬ (off ≤ i ∧ i < off + vs.length) := by omega
    simp [h1, this, List.getElem?_take]
  · simp only [h1, if_false]
    rw [List.getElem?_append]
    by_cases h2 : i - off < vs.length
    · have : off ≤ i ∧ i < off + vs.length := by omega
      simp [h2, this]
    · have : ¬ (off ≤ i ∧ i < off + vs.length) := by omega
      simp only [h2, if_false, this, List.getElem?_drop]
      congr 1; omega

theorem splice_cons (c vs : List Value) (off : Nat) (v : Value) (h : off + (vs.length + 1) ≤ c.length) : splice (c.set off v) (off + 1) vs = splice c off (v :: vs) := by
  apply List.ext_getElem?
  intro i
  rw [splice_get _ _ _ _ (by simp; omega), splice_get _ _ _ _ (by simpa using h)]
  by_cases h1 : off + 1 ≤ i ∧ i < off + 1 + vs.length
  · have h2 : off ≤ i ∧ i < off + (v :: vs).length := by simp; omega
    rw [if_pos h1, if_pos h2]
    obtain ⟨k, rfl⟩ : ∃ k, i = off + 1 + k := ⟨i - (off + 1), by omega⟩
    have e1 : off + 1 + k - (off + 1) = k := by omega
    have e2 : off + 1 + k - off = k + 1 := by omega
    rw [e1, e2]; rfl
  · rw [if_neg h1, List.getElem?_set]
    by_cases h3 : off = i
    · subst h3
      have h2 : off ≤ off ∧ off < off + (v :: vs).length := by simp
      rw [if_pos h2]
      have : off < c.length := by omega
      simp [this]
    · have h2 : ¬ (off ≤ i ∧ i < off + (v :: vs).length) := by simp; omega
      rw [if_neg h2]
      simp [h3]

theorem run_storeCells' (b : Nat) (e : TypeId) (fr : Nat × Nat) : ∀ (vs : List Value) (o i : Nat) (cur : Array Value) (w : World), w.heap[b]? = some (.cells cur e fr) → o + i + vs.length ≤ cur.size →
    (∀ j, o + i ≤ j → j < o + i + vs.length → ¬ (fr.1 ≤ j ∧ j < fr.2)) → vs.all one = true → (storeCells ⟨b, o, none⟩ vs i).run P w = .ok () (setBlk w b (.cells (splice cur.toList (o + i) vs).toArray e fr))
  | [], o, i, cur, w, hb, hl, hf, h1 => by
    have h0 : setBlk w b (.cells (splice cur.toList (o + i) []).toArray e fr) = w := by
      have : splice cur.toList (o + i) [] = cur.toList := by simp [splice]
      rw [this]
      simp only [setBlk, Array.toArray_toList]
      have : w.heap.setIfInBounds b (.cells cur e fr) = w.heap := by
        apply Array.ext_getElem?
        intro j
        rw [Array.getElem?_setIfInBounds]
        split
        · rename_i hj; subst hj; split
          · exact hb.symm
          · rename_i hn; exact (Array.getElem?_eq_none (by omega)).symm
        · rfl
      rw [this]
    simp [storeCells, h0]
  | v :: vs, o, i, cur, w, hb, hl, hf, h1 => by
    simp only [List.all_cons, Bool.and_eq_true] at h1
    simp only [List.length_cons] at hl hf
    have hlt : o + i < cur.size := by omega
    have hc : w.cell? ⟨b, o + i, none⟩ = some cur[o + i] := by simp [World.cell?, hb, hlt]
    have hz : w.frozen? ⟨b, o + i, none⟩ = false := by
      have := hf (o + i) (Nat.le_refl _) (by omega)
      simp only [World.frozen?, hb]
      simp only [Bool.and_eq_false_iff, decide_eq_false_iff_not]
      omega
    simp only [storeCells, Addr.add_none, Sem.run_bind]
    rw [run_store P w _ _ _ (one_oneCell h1.1), hc]
    simp only [hz, Bool.false_eq_true, if_false, Result.andThen_ok]
    rw [setCell_eq hb]
    have ih := run_storeCells' b e fr vs o (i + 1) (cur.setIfInBounds (o + i) v) (setBlk w b (.cells (cur.setIfInBounds (o + i) v) e fr))
      (by rw [setBlk_get _ _ _ _ (lt_of_get hb)]; simp) (by simp; omega) (fun j g1 g2 => hf j (by omega) (by omega)) h1.2
    rw [ih, setBlk_setBlk]
    have e1 : (cur.setIfInBounds (o + i) v).toList = cur.toList.set (o + i) v := by simp
    rw [e1, show o + (i + 1) = (o + i) + 1 from rfl, splice_cons _ _ _ _ (by simp; omega)]

theorem Rel.get_lt (hr : Rel B0 G ι m w) {b : Nat} (h : m.get b ≠ .none) : b < m.size := by
  rcases Nat.lt_or_ge b m.size with h1 | h1
  · exact h1
  · exact absurd (hr.top b h1) h

/-- A row of cells that is read. -/
theorem loadC_ok (hr : Rel B0 G ι m w) {b off k : Nat} {c : List Value} {L : Loc} (hL : ι b = some L) (h : loadC m b off k = some c) :
    ∃ c', (loadCells ⟨L.block, L.base + off, none⟩ k).run P w = .ok c'.toArray w ∧ VRels ι c c' := by
  unfold loadC at h
  split at h <;> try (simp at h; done)
  rename_i own cs hg
  split at h <;> simp at h
  rename_i hle
  have hlt := hr.get_lt (b := b) (by rw [hg]; simp)
  have hb := hr.blk b L hlt hL
  rw [hg] at hb
  obtain ⟨rc, e, fr, h1, h2, h3, h4, h5⟩ := hb
  have hlen : c.length = k := by rw [← h]; simp; omega
  refine ⟨(rc.toList.drop (L.base + off)).take k, ?_, ?_⟩
  · have hl : ((rc.toList.drop (L.base + off)).take k).length = k := by simp; omega
    have := run_loadCells_list (P := P) w ⟨L.block, L.base + off, none⟩ ((rc.toList.drop (L.base + off)).take k) (fun j v hj => by
      rw [Addr.add_none]
      simp only [World.cell?, h1]
      rw [List.getElem?_take] at hj
      split at hj
      · rw [List.getElem?_drop] at hj; simpa using hj
      · simp at hj)
    rw [hl] at this
    exact this
  · refine LRel.of_get (by rw [hlen]; simp; omega) fun i x y hx hy => ?_
    rw [← h] at hx
    rw [List.getElem?_take] at hx hy
    split at hx
    · rename_i hi
      rw [List.getElem?_drop] at hx
      simp only [hi, if_true, List.getElem?_drop] at hy
      obtain ⟨v', hv', hrel⟩ := h4 _ _ hx
      have e1 : L.base + off + i = L.base + (off + i) := by omega
      rw [e1] at hy
      rw [Array.getElem?_toList, hv'] at hy
      cases hy
      exact hrel
    · simp at hx

theorem loadD_ok (hr : Rel B0 G ι m w) {s : TypeId} {x x' v : Value} (hx : VRel ι x x') (h : loadD P m s x = some v) : ∃ v', (Instr.loadAt s x').run P w = .ok v' w ∧ VRel ι v v' := by
  unfold loadD at h
  split at h <;> try (simp at h; done)
  rename_i b off
  obtain ⟨L, hL, rfl⟩ := hx.inv_ptr
  split at h <;> try (simp at h; done)
  · rename_i ha
    split at h <;> try (simp at h; done)
    rename_i k hk
    split at h <;> simp at h
    rename_i c hc
    subst h
    obtain ⟨c', h1, h2⟩ := loadC_ok (P := P) hr hL hc
    exact ⟨.agg c'.toArray, by simp [Instr.loadAt, Instr.sureAddr, loadVar, run_isAgg' ha, run_sizeOf' hk, h1], VRel.agg' h2⟩
  · rename_i ha
    split at h <;> try (simp at h; done)
    rename_i own c hg
    have hlt := hr.get_lt (b := b) (by rw [hg]; simp)
    have hb := hr.blk b L hlt hL
    rw [hg] at hb
    obtain ⟨rc, e, fr, h1, h2, h3, h4, h5⟩ := hb
    obtain ⟨v', hv', hrel⟩ := h4 _ _ h
    refine ⟨v', ?_, hrel⟩
    have hc : w.cell? ⟨L.block, L.base + off, none⟩ = some v' := by simp [World.cell?, h1, hv']
    simp [Instr.loadAt, Instr.sureAddr, loadVar, run_isAgg' ha, hc]

/-- Writing into a block of one's own: the relation behind it. -/
theorem Rel.set (hr : Rel B0 G ι m w) {b : Nat} {L : Loc} (hL : ι b = some L) (hlt : b < m.size) {x : Blk} (hold : (m.get b).own = true) {o : Obj}
    (hnew : BlkRel B0 ι x L (setBlk w L.block o)) (hlive : x.live → (m.get b).live) (hown : x.own = true → (m.get b).own = true) :
    Rel B0 G ι (m.set b x) (setBlk w L.block o) ∧ Stp ι ι m (m.set b x) w (setBlk w L.block o) := by
  have hs : (setBlk w L.block o).heap.size = w.heap.size := by simp [setBlk]
  have hold' : (m.get b).live := by
    cases hg : m.get b <;> simp_all [Blk.own, Blk.live]
  refine ⟨⟨fun b' L' hb' hL' => ?_, fun b₁ b₂ L₁ L₂ h1 h2 h3 h4 l1 l2 g0 e => ?_, by rw [hs]; exact hr.floor, hr.glob, fun b' hb' => ?_⟩,
    ⟨fun _ _ h => h, fun _ _ => rfl, rfl, rfl, rfl, by rw [hs]; exact Nat.le_refl _, fun B hB hn => ?_, fun b' L' h1 h2 => by simp at h2; omega, Nat.le_refl _, fun b' hb' ho => ?_⟩⟩
  · rw [Mem.get_set]
    by_cases e : b' = b
    · subst e
      rw [hL] at hL'
      cases hL'
      simpa using hnew
    · simp only [e, if_false]
      have hbr := hr.blk b' L' hb' hL'
      by_cases hlv : (m.get b').live
      · refine hbr.mono (fun _ _ h => h) ?_
        rw [setBlk_get _ _ _ _ (hr.old b L hL hold'), if_neg]
        intro e2
        exact e (hr.inj b' b L' L hb' hlt hL' hL hlv hold' (Nat.le_trans ((hr.blk b L hlt hL).own_floor hold) (Nat.le_of_eq e2.symm)) e2)
      · cases hg : m.get b' <;> simp_all [Blk.live, BlkRel]
  · have g1 : (m.get b₁).live := by
      rw [Mem.get_set] at l1
      by_cases e1 : b₁ = b
      · subst e1; simp at l1; exact hlive l1
      · simpa [e1] using l1
    have g2 : (m.get b₂).live := by
      rw [Mem.get_set] at l2
      by_cases e1 : b₂ = b
      · subst e1; simp at l2; exact hlive l2
      · simpa [e1] using l2
    exact hr.inj b₁ b₂ L₁ L₂ h1 h2 h3 h4 g1 g2 g0 e
  · rw [Mem.get_set, if_neg (by simp at hb'; omega)]; exact hr.top b' hb'
  · rw [setBlk_get _ _ _ _ (hr.old b L hL hold'), if_neg]
    intro e
    exact hn b L hlt hL hold e.symm
  · rw [Mem.get_set] at ho
    by_cases e1 : b' = b
    · subst e1; simp at ho; exact hown ho
    · simpa [e1] using ho

theorem storeC_ok (hr : Rel B0 G ι m w) {b off : Nat} {vs vs' : List Value} {L : Loc} (hL : ι b = some L) (hv : VRels ι vs vs') {m' : Mem} (h : storeC m b off vs = some m') :
    ∃ w', (storeCells ⟨L.block, L.base + off, none⟩ vs').run P w = .ok () w' ∧ Rel B0 G ι m' w' ∧ Stp ι ι m m' w w' := by
  unfold storeC at h
  split at h <;> try (simp at h; done)
  rename_i c hg
  split at h <;> try (simp at h; done)
  rename_i hle
  split at h <;> simp at h
  rename_i hone
  subst h
  have hlt := hr.get_lt (b := b) (by rw [hg]; simp)
  have hb := hr.blk b L hlt hL
  rw [hg] at hb
  obtain ⟨rc, e, fr, h1, h2, h3, h4, h5⟩ := hb
  have hlen := hv.length
  have hone' : vs'.all one = true := by rw [← hv.all fun _ _ h => h.one]; simpa using hone
  have hrun := run_storeCells' (P := P) L.block e fr vs' (L.base + off) 0 rc w h1 (by omega) (fun j g1 g2 => (h5 rfl).2 j (by omega)) hone'
  refine ⟨_, hrun, Rel.set hr hL hlt (by rw [hg]; rfl) ?_ (by rw [hg]; simp [Blk.live]) (by rw [hg]; simp [Blk.own])⟩
  have hsl := splice_length c vs off hle
  refine ⟨_, e, fr, by rw [setBlk_get _ _ _ _ (lt_of_get h1)]; simp; rfl, ?_, by rw [hsl]; exact h3, fun i v hv' => ?_, h5⟩
  · rw [List.size_toArray, splice_length _ _ _ (by simp; omega)]; simpa using h2
  · rw [splice_get _ _ _ _ hle] at hv'
    simp only [List.getElem?_toArray, Nat.add_zero]
    rw [splice_get _ _ _ _ (by simp; omega)]
    split at hv'
    · rename_i hi
      obtain ⟨y, hy, hry⟩ := hv.get hv'
      refine ⟨y, ?_, hry⟩
      rw [if_pos (by omega), ← hy]
      congr 1; omega
    · rename_i hi
      obtain ⟨y, hy, hry⟩ := h4 _ _ hv'
      refine ⟨y, ?_, hry⟩
      rw [if_neg (by omega)]
      simpa using hy

theorem storeD_ok (hr : Rel B0 G ι m w) {s : TypeId} {x x' v v' : Value} (hx : VRel ι x x') (hv : VRel ι v v') {m' : Mem} (h : storeD P m s v x = some m') :
    ∃ w', (Instr.storeAt s x' v').run P w = .ok () w' ∧ Rel B0 G ι m' w' ∧ Stp ι ι m m' w w' := by
  unfold storeD at h
  split at h <;> try (simp at h; done)
  rename_i b off
  obtain ⟨L, hL, rfl⟩ := hx.inv_ptr
  split at h <;> try (simp at h; done)
  rename_i k hk
  split at h <;> try (simp at h; done)
  rename_i hsz
  obtain ⟨w', h1, h2⟩ := storeC_ok (P := P) hr hL hv.cells h
  have hsz' : v'.cells.size = k := by
    have := hv.cells.length
    rw [hsz] at this
    simpa using this.symm
  exact ⟨w', by simp [Instr.storeAt, Instr.sureAddr, storeVar, run_sizeOf' hk, hsz', h1], h2⟩
end
end Go.DI
/-
  DiMaps: looking into maps, and writing into them.
-/
namespace Go.DI
section
variable {P : Program} {K : TypeId → Bool} {G B0 n : Nat} {ι : Ren} {m : Mem} {w : World} {t : Tmps} {a : Act}

theorem run_keyOkF {em : Bool} {d' : Nat} {cs : Array Value} {h : TypeId → Value → Bool} (ih : ∀ (t : TypeId) (v : Value), h t v = true → (Instr.checkKey em d' t v).run P w = .ok () w) :
    ∀ (fs : List Field), keyOkF (fun t o => part P t cs.toList o) h fs = true →
      (forIn fs PUnit.unit fun f r => (if f.name ≠ "_" then (do let a ← Go.part f.type cs f.offset; Instr.checkKey em d' f.type a; pure (ForInStep.yield PUnit.unit)) else pure (ForInStep.yield PUnit.unit) : Sem (ForInStep PUnit))).run P w = .ok PUnit.unit w
  | [], _ => by simp
  | f :: fs, hk => by
    simp only [keyOkF, Bool.and_eq_true] at hk
    obtain ⟨h1, h2⟩ := hk
    have ih2 := run_keyOkF ih fs h2
    split at h1 <;> try (simp at h1; done)
    rename_i v hv
    simp only [List.forIn_cons, Sem.run_bind]
    by_cases hn : f.name = "_"
    · simp only [hn, ne_eq, not_true_eq_false, if_false, Sem.run_pure, Result.andThen_ok]
      exact ih2
    · simp only [ne_eq, hn, not_false_eq_true, if_true, Sem.run_bind, run_part hv, Result.andThen_ok, ih _ _ h1, Sem.run_pure]
      exact ih2

theorem run_keyOkL {em : Bool} {d' k : Nat} {cs : Array Value} {e : TypeId} {h : TypeId → Value → Bool} (hs : szOf P e = some k) (ih : ∀ (t : TypeId) (v : Value), h t v = true → (Instr.checkKey em d' t v).run P w = .ok () w) :
    ∀ (len i : Nat), keyOkL (fun i => match part P e cs.toList (i * k) with | some u => h e u | none => false) len i = true →
      (forIn (List.range' i len) PUnit.unit fun i r => (do let s ← Go.sizeOf e; let a ← Go.part e cs (i * s); Instr.checkKey em d' e a; pure (ForInStep.yield PUnit.unit) : Sem (ForInStep PUnit))).run P w = .ok PUnit.unit w
  | 0, i, _ => by simp
  | len + 1, i, hk => by
    simp only [keyOkL, Bool.and_eq_true] at hk
    obtain ⟨h1, h2⟩ := hk
    have ih2 := run_keyOkL hs ih len (i + 1) h2
    split at h1 <;> try (simp at h1; done)
    rename_i v hv
    rw [List.range'_succ]
    simp only [List.forIn_cons, Sem.run_bind, run_sizeOf' hs, Result.andThen_ok, run_part hv, ih _ _ h1, Sem.run_pure]
    exact ih2

theorem run_keyOk (em : Bool) : ∀ (d : Nat) (t : TypeId) (v : Value), keyOk P d t v = true → ∀ d', d ≤ d' → (Instr.checkKey em d' t v).run P w = .ok () w
  | 0, t, v, h, d', hd => by simp [keyOk] at h
  | d + 1, t, v, h, d', hd => by
    obtain ⟨d', rfl⟩ : ∃ k, d' = k + 1 := ⟨d' - 1, by omega⟩
    have hd' : d ≤ d' := by omega
    unfold keyOk at h
    split at h
    · simp at h
    · rename_i len elem hu
      split at h <;> try (simp at h; done)
      rename_i cs
      split at h <;> try (simp at h; done)
      rename_i k hk
      simp only [Instr.checkKey, Sem.run_bind, run_und hu, Result.andThen_ok]
      simp only [Std.Legacy.Range.forIn_eq_forIn_range', Std.Legacy.Range.size, Nat.sub_zero, Nat.add_one_sub_one, Nat.div_one]
      have := run_keyOkL (em := em) (d' := d') (cs := cs) (h := keyOk P d) (w := w) hk (fun t v h => run_keyOk em d t v h d' hd') len 0 h
      simp at this ⊢
      rw [this]
      rfl
    · rename_i fields hu
      split at h <;> try (simp at h; done)
      rename_i cs
      simp only [Instr.checkKey, Sem.run_bind, run_und hu, Result.andThen_ok]
      rw [← Array.forIn_toList]
      have := run_keyOkF (em := em) (d' := d') (cs := cs) (h := keyOk P d) (w := w) (fun t v h => run_keyOk em d t v h d' hd') fields.toList h
      simp at this ⊢
      rw [this]
      rfl
    · rename_i dd hi hA hS hu
      simp only [Instr.checkKey, Sem.run_bind, run_und hu, Result.andThen_ok]
      cases dd <;> first | rfl | exact absurd rfl (hi _) | exact absurd rfl (hA _ _) | exact absurd rfl (hS _)
    · simp at h

theorem keyOkF_rel {g g' : TypeId → Nat → Option Value} {h : TypeId → Value → Bool} (hg : ∀ (t : TypeId) (o : Nat) (v : Value), g t o = some v → ∃ v', g' t o = some v' ∧ VRel ι v v')
    (hh : ∀ (t : TypeId) (v v' : Value), VRel ι v v' → h t v = true → h t v' = true) : ∀ (fs : List Field), keyOkF g h fs = true → keyOkF g' h fs = true
  | [], _ => rfl
  | f :: fs, hk => by
    simp only [keyOkF, Bool.and_eq_true] at hk ⊢
    obtain ⟨h1, h2⟩ := hk
    refine ⟨?_, keyOkF_rel hg hh fs h2⟩
    split at h1 <;> try (simp at h1; done)
    rename_i v hv
    obtain ⟨v', hv', hr⟩ := hg _ _ _ hv
    simp only [hv']
    exact hh _ _ _ hr h1

theorem keyOkL_rel {f f' : Nat → Bool} (hf : ∀ i, f i = true → f' i = true) : ∀ (n i : Nat), keyOkL f n i = true → keyOkL f' n i = true
  | 0, _, _ => rfl
  | n + 1, i, h => by
    simp only [keyOkL, Bool.and_eq_true] at h ⊢
    exact ⟨hf _ h.1, keyOkL_rel hf n (i + 1) h.2⟩

theorem keyOk_rel : ∀ (d : Nat) (t : TypeId) (v v' : Value), VRel ι v v' → keyOk P d t v = true → keyOk P d t v' = true
  | 0, t, v, v', hr, h => by simp [keyOk] at h
  | d + 1, t, v, v', hr, h => by
    unfold keyOk at h ⊢
    split at h
    · simp at h
    · split at h <;> try (simp at h; done)
      rename_i cs
      split at h <;> try (simp at h; done)
      obtain ⟨cs', rfl, hcs⟩ := hr.inv_agg
      refine keyOkL_rel (fun i hi => ?_) _ _ h
      split at hi <;> try (simp at hi; done)
      rename_i u hu
      obtain ⟨u', hu', hru⟩ := part_rel hcs hu
      simp only [hu']
      exact keyOk_rel d _ _ _ hru hi
    · split at h <;> try (simp at h; done)
      rename_i cs
      obtain ⟨cs', rfl, hcs⟩ := hr.inv_agg
      exact keyOkF_rel (fun t o v hv => part_rel hcs hv) (fun t v v' hr h => keyOk_rel d t v v' hr h) _ h
    · rfl
    · simp at h

theorem findNow_eq (hK : Plain P K) {kt : TypeId} {kd : TypeDesc} (hu : P.underlying kt = some kd) {k : Value} : ∀ (es : List MapEntry) (i : Nat) (r r' : Option (Nat × Value)),
    findD P K kt k es i = some r → Instr.findNow kd k es i = some r' → r = r'
  | [], i, r, r', h, h' => by simp [findD] at h; simp [Instr.findNow] at h'; rw [← h, ← h']
  | e :: es, i, r, r', h, h' => by
    simp only [findD] at h
    simp only [Instr.findNow] at h'
    have hsame : ∀ b b', feq P K 100 kt k e.key = some b → Instr.sameNow kd k e.key = some b' → b = b' := by
      intro b b' h1 h2
      rw [show (100 : Nat) = 99 + 1 from rfl] at h1
      unfold feq at h1
      rw [hu] at h1
      unfold Instr.sameNow at h2
      split at h2
      · simp only [] at h1
        split at h1 <;> try (simp at h1; done)
        split at h2 <;> simp_all
      · simp_all
      · simp_all
      · simp at h2
    split at h' <;> try (simp at h'; done)
    · rename_i hs
      split at h <;> try (simp at h; done)
      · simp at h h'; rw [← h, ← h']
      · rename_i hf; exact absurd (hsame _ _ hf hs) (by simp)
    · rename_i hs
      split at h <;> try (simp at h; done)
      · rename_i hf; exact absurd (hsame _ _ hf hs) (by simp)
      · exact findNow_eq hK hu es (i + 1) r r' h h'

theorem run_findAsking (hK : Plain P K) {kt : TypeId} {k : Value} : ∀ (es : List MapEntry) (i : Nat) (r : Option (Nat × Value)), findD P K kt k es i = some r → (Instr.findAsking kt k es i).run P w = .ok r w
  | [], i, r, h => by simp [findD] at h; subst h; simp [Instr.findAsking]
  | e :: es, i, r, h => by
    simp only [findD] at h
    split at h
    · rename_i hf
      have := run_feq (w := w) hK 100 kt k e.key true hf Op.maxDepth (by decide)
      simp at h; subst h
      simp [Instr.findAsking, Op.equal, this]
    · rename_i hf
      have := run_feq (w := w) hK 100 kt k e.key false hf Op.maxDepth (by decide)
      simp only [Instr.findAsking, Op.equal, Sem.run_bind, this, Result.andThen_ok, Bool.false_eq_true, if_false]
      exact run_findAsking hK es (i + 1) r h
    · simp at h

theorem run_findKey (hK : Plain P K) {kt : TypeId} {kd : TypeDesc} (hu : P.underlying kt = some kd) {k : Value} {es : List MapEntry} {r : Option (Nat × Value)} (h : findD P K kt k es 0 = some r) :
    (Instr.findKey kt k es).run P w = .ok r w := by
  simp only [Instr.findKey, Sem.run_bind, run_und hu, Result.andThen_ok]
  split
  · rename_i r' h'
    rw [findNow_eq hK hu es 0 r r' h h']
    rfl
  · exact run_findAsking hK es 0 r h

/-- What a search finds in related entries. -/
def FRel (ι : Ren) : Option (Nat × Value) → Option (Nat × Value) → Prop
  | none, none => True
  | some (i, v), some (j, v') => i = j ∧ VRel ι v v'
  | _, _ => False

theorem findD_rel {kt : TypeId} {k k' : Value} (hk : VRel ι k k') {es es' : List MapEntry} (he : ERels ι es es') : ∀ (i : Nat) (r : Option (Nat × Value)), findD P K kt k es i = some r → ∃ r', findD P K kt k' es' i = some r' ∧ FRel ι r r' := by
  induction he with
  | nil => intro i r h; simp [findD] at h; subst h; exact ⟨none, rfl, trivial⟩
  | cons h0 t ih =>
    intro i r h
    simp only [findD] at h ⊢
    split at h
    · rename_i hf
      rw [feq_rel 100 kt _ _ _ _ _ hk h0.1 hf]
      simp at h; subst h
      exact ⟨_, rfl, rfl, h0.2.1⟩
    · rename_i hf
      rw [feq_rel 100 kt _ _ _ _ _ hk h0.1 hf]
      exact ih _ _ h
    · simp at h

theorem key_desc {kt : TypeId} {d : Nat} {k : Value} (h : keyOk P (d + 1) kt k = true) : ∃ kd, P.underlying kt = some kd := by
  unfold keyOk at h
  cases hu : P.underlying kt with
  | none => simp [hu] at h
  | some kd => exact ⟨kd, rfl⟩

theorem entries_ok (hr : Rel B0 G ι m w) {x x' : Value} (hx : VRel ι x x') {es : List MapEntry} (h : entriesD m x = some es) :
    ∃ es' : Array MapEntry, ERels ι es es'.toList ∧ (x' = .map none ∧ es' = #[] ∨ ∃ r c, x' = .map (some r) ∧ w.heap[r]? = some (.map es' c)) := by
  unfold entriesD at h
  split at h <;> try (simp at h; done)
  · simp at h; subst h; cases hx; exact ⟨#[], .nil, .inl ⟨rfl, rfl⟩⟩
  · rename_i r
    split at h <;> simp at h
    rename_i own es₀ c hg
    subst h
    have hlt := hr.get_lt (b := r) (by rw [hg]; simp)
    cases hx with
    | map _ L hL =>
      have hb := hr.blk r L hlt hL
      rw [hg] at hb
      obtain ⟨res, h1, h2, h3⟩ := hb
      exact ⟨res, h2, .inr ⟨_, _, rfl, h1⟩⟩

theorem lookupD_ok (hK : Plain P K) (hr : Rel B0 G ι m w) {s : TypeId} {x x' k k' v : Value} {ok : Bool} (hx : VRel ι x x') (hk : VRel ι k k') (h : lookupD P K m s x k ok = some v) :
    ∃ v', (Instr.lookup s x' k' ok).run P w = .ok v' w ∧ VRel ι v v' := by
  unfold lookupD at h
  split at h <;> try (simp at h; done)
  rename_i kt et hu
  split at h <;> try (simp at h; done)
  rename_i es hes
  split at h <;> try (simp at h; done)
  rename_i hkey
  obtain ⟨es', he, hcase⟩ := entries_ok hr hx hes
  obtain ⟨kd, hkd⟩ := key_desc hkey
  have hkey' := keyOk_rel 100 kt k k' hk hkey
  have hck := fun em => run_keyOk (P := P) (w := w) em 100 kt k' hkey' 10000 (by decide)
  have hmain : ∀ (r' : Option (Nat × Value)) (v' : Value), findD P K kt k' es'.toList 0 = some r' →
      (match r' with | some (_, u) => v' = cond ok (.tuple #[u, .bool true]) u | none => ∃ z, zeroOf P et = some z ∧ v' = cond ok (.tuple #[z, .bool false]) z) → (Instr.lookup s x' k' ok).run P w = .ok v' w := by
    intro r' v' hf hv
    have hfk := run_findKey (P := P) (w := w) hK hkd hf
    unfold Instr.lookup
    simp only [Sem.run_bind, run_und hu, Result.andThen_ok]
    rcases hcase with ⟨rfl, rfl⟩ | ⟨r, c, rfl, hh⟩
    · simp only [Sem.run_bind, Sem.run_pure, Result.andThen_ok, hck, hfk]
      cases r' with
      | none => obtain ⟨z, hz, rfl⟩ := hv; simp [run_zero' hz]
      | some p => obtain ⟨i, u⟩ := p; simp only [] at hv; subst hv; simp
    · have hgo : (getObj r).run P w = .ok (.map es' c) w := by simp [getObj, Sem.run, hh]
      simp only [Sem.run_bind, Sem.run_pure, Result.andThen_ok, hgo, hck, hfk]
      cases r' with
      | none => obtain ⟨z, hz, rfl⟩ := hv; simp [run_zero' hz]
      | some p => obtain ⟨i, u⟩ := p; simp only [] at hv; subst hv; simp
  split at h <;> try (simp at h; done)
  · rename_i i u hf
    obtain ⟨r', hf', hfr⟩ := findD_rel hk he 0 _ hf
    cases r' with
    | none => simp [FRel] at hfr
    | some p =>
      obtain ⟨j, u'⟩ := p
      cases hsh : shp P et u with
      | false => rw [hsh] at h; simp at h
      | true =>
      rw [hsh] at h
      simp at h; subst h
      refine ⟨_, hmain _ _ hf' rfl, ?_⟩
      cases ok
      · exact hfr.2
      · exact VRel.tuple' (a := [u, .bool true]) (a' := [u', .bool true]) (.cons hfr.2 (.cons (.bool _) .nil))
  · rename_i hf
    obtain ⟨r', hf', hfr⟩ := findD_rel hk he 0 _ hf
    cases r' with
    | some p => simp [FRel] at hfr
    | none =>
      split at h <;> try (simp at h; done)
      rename_i z hz
      split at h <;> simp at h
      rename_i hcz
      subst h
      refine ⟨_, hmain _ _ hf' ⟨z, hz, rfl⟩, ?_⟩
      cases ok
      · exact constV_rel ι hcz
      · exact VRel.tuple' (a := [z, .bool false]) (a' := [z, .bool false]) (.cons (constV_rel ι hcz) (.cons (.bool _) .nil))

theorem sameBits_rel : ∀ (d : Nat) (x y x' y' : Value), VRel ι x x' → VRel ι y y' → Instr.sameBits d x y = true → Instr.sameBits d x' y' = true := by
  intro d
  induction d with
  | zero =>
    intro x y x' y' hx hy h
    cases hx <;> cases hy <;> simp_all [Instr.sameBits]
  | succ d ih =>
    intro x y x' y' hx hy h
    cases x <;> cases y <;> simp only [Instr.sameBits] at h <;> (try (simp at h; done))
    case bool => cases hx; cases hy; simpa [Instr.sameBits] using h
    case int => cases hx; cases hy; simpa [Instr.sameBits] using h
    case float => cases hx; cases hy; simpa [Instr.sameBits] using h
    case complex => cases hx; cases hy; simpa [Instr.sameBits] using h
    case string => cases hx; cases hy; simpa [Instr.sameBits] using h
    case pointer a b =>
      have hab : a = b := by simpa using h
      subst hab
      cases hx with
      | ptr0 => cases hy; rfl
      | ptr b off L hL =>
        cases hy with
        | ptr _ _ L' hL' => rw [hL] at hL'; cases hL'; simp [Instr.sameBits]
    case chan => cases hx
    case iface => cases hx with | iface t v v' h1 => cases hy with | iface u q q' h2 => simp [Instr.sameBits] at h ⊢; exact ⟨h.1, ih _ _ _ _ h1 h2 h.2⟩
    case nilIface => cases hx; cases hy; rfl
    case agg xs ys =>
      obtain ⟨xs', rfl, hxs⟩ := hx.inv_agg
      obtain ⟨ys', rfl, hys⟩ := hy.inv_agg
      simp only [Instr.sameBits, Bool.and_eq_true, beq_iff_eq] at h ⊢
      have hz : ∀ (a a' b b' : List Value), VRels ι a a' → VRels ι b b' → (a.zip b).all (fun (x, y) => Instr.sameBits d x y) = true → (a'.zip b').all (fun (x, y) => Instr.sameBits d x y) = true := by
        intro a a' b b' ha
        induction ha generalizing b b' with
        | nil => intro hb h; simp
        | cons h0 t ih2 =>
          intro hb h
          cases hb with
          | nil => simp
          | cons h0' t' => simp at h ⊢; exact ⟨ih _ _ _ _ h0 h0' h.1, by simpa using ih2 _ _ t' (by simpa using h.2)⟩
      refine ⟨?_, hz _ _ _ _ hxs hys h.2⟩
      have e1 := hxs.length
      have e2 := hys.length
      simp at e1 e2
      omega

theorem modE_eq (es : List MapEntry) (i : Nat) (k v : Value) : ((⟨es⟩ : Array MapEntry).modify i fun e => { e with key := k, val := v }).toList = modE i k v es := by
  have h : ∀ (es : List MapEntry) (i : Nat), es.modify i (fun e => { e with key := k, val := v }) = modE i k v es := by
    intro es
    induction es with
    | nil => intro i; simp [modE]
    | cons e es ih => intro i; cases i with
      | zero => simp [modE]
      | succ i => simp [modE, ih]
  rw [Array.toList_modify]
  exact h es i

theorem modE_rel {es es' : List MapEntry} (he : ERels ι es es') {k k' v v' : Value} (hk : VRel ι k k') (hv : VRel ι v v') : ∀ i, ERels ι (modE i k v es) (modE i k' v' es') := by
  induction he with
  | nil => intro i; simp only [modE]; exact .nil
  | cons h t ih => intro i; cases i with
    | zero => exact .cons ⟨hk, hv, h.2.2⟩ t
    | succ i => exact .cons h (ih i)

theorem run_setObj {r : Nat} {es : Array MapEntry} {c : Nat} (h : w.heap[r]? = some (.map es c)) (o : Obj) : (setObj r o).run P w = .ok () (setBlk w r o) := by
  simp [setObj, Sem.run, h, setBlk]

theorem mapUpdateD_ok (hK : Plain P K) (hr : Rel B0 G ι m w) {s : TypeId} {x x' k k' v v' : Value} (hx : VRel ι x x') (hk : VRel ι k k') (hv : VRel ι v v') {m' : Mem} (h : mapUpdateD P K m s x k v = some m') :
    ∃ w', (Instr.mapUpdate s x' k' v').run P w = .ok () w' ∧ Rel B0 G ι m' w' ∧ Stp ι ι m m' w w' := by
  unfold mapUpdateD at h
  split at h <;> try (simp at h; done)
  rename_i kt et hu
  split at h <;> try (simp at h; done)
  rename_i r
  split at h <;> try (simp at h; done)
  rename_i es clock hg
  split at h <;> try (simp at h; done)
  rename_i hkey
  have hlt := hr.get_lt (b := r) (by rw [hg]; simp)
  obtain ⟨kd, hkd⟩ := key_desc hkey
  have hkey' := keyOk_rel 100 kt k k' hk hkey
  cases hx with
  | map _ L hL =>
    have hb := hr.blk r L hlt hL
    rw [hg] at hb
    obtain ⟨res, h1, h2, h3⟩ := hb
    have hck := run_keyOk (P := P) (w := w) false 100 kt k' hkey' 10000 (by decide)
    have hgo : (getObj L.block).run P w = .ok (.map res clock) w := by simp [getObj, Sem.run, h1]
    split at h <;> try (simp at h; done)
    · rename_i i u hf
      obtain ⟨r', hf', hfr⟩ := findD_rel hk h2 0 _ hf
      split at h <;> try (simp at h; done)
      rename_i e he
      split at h <;> simp at h
      rename_i hsb
      subst h
      cases r' with
      | none => simp [FRel] at hfr
      | some p =>
        obtain ⟨j, u'⟩ := p
        obtain ⟨rfl, hu'⟩ := hfr
        obtain ⟨e', he', hre⟩ := h2.get he
        have hsb' := sameBits_rel 10000 _ _ _ _ hre.1 hk hsb
        have hfk := run_findKey (P := P) (w := w) hK hkd hf'
        have hks : (Instr.keyThatStays e'.key k').run P w = .ok k' w := by simp [Instr.keyThatStays, hsb']
        have he'' : res[i]? = some e' := by simpa using he'
        refine ⟨setBlk w L.block (.map (res.modify i fun e => { e with key := k', val := v' }) clock), ?_, Rel.set hr hL hlt (by rw [hg]; rfl) ?_ (by rw [hg]; simp [Blk.live]) (by rw [hg]; simp [Blk.own])⟩
        · simp only [Instr.mapUpdate, Sem.run_bind, run_und hu, Result.andThen_ok, hgo, hck, hfk, he'', Option.map_some, Option.getD_some, hks]
          exact run_setObj h1 _
        · refine ⟨_, by rw [setBlk_get _ _ _ _ (lt_of_get h1)]; simp; rfl, ?_, h3⟩
          obtain ⟨rl⟩ := res
          rw [modE_eq]
          exact modE_rel h2 hk hv i
    · rename_i hf
      obtain ⟨r', hf', hfr⟩ := findD_rel hk h2 0 _ hf
      simp at h; subst h
      cases r' with
      | some p => simp [FRel] at hfr
      | none =>
        have hfk := run_findKey (P := P) (w := w) hK hkd hf'
        refine ⟨setBlk w L.block (.map (res.push { key := k', val := v', born := clock }) (clock + 1)), ?_, Rel.set hr hL hlt (by rw [hg]; rfl) ?_ (by rw [hg]; simp [Blk.live]) (by rw [hg]; simp [Blk.own])⟩
        · simp only [Instr.mapUpdate, Sem.run_bind, run_und hu, Result.andThen_ok, hgo, hck, hfk]
          exact run_setObj h1 _
        · refine ⟨_, by rw [setBlk_get _ _ _ _ (lt_of_get h1)]; simp; rfl, ?_, h3⟩
          simp only [Array.toList_push]
          exact h2.append (.cons ⟨hk, hv, rfl⟩ .nil)
end
end Go.DI
/-
  DiMake: values that are built, and blocks that are laid.
-/
namespace Go.DI
section
variable {P : Program} {K : TypeId → Bool} {G B0 n : Nat} {ι : Ren} {m : Mem} {w : World} {t : Tmps} {a : Act}

theorem setFold (c : Array Value) (off : Nat) : ∀ (vs : List Value) (k : Nat) (cs : Array Value), off + k + vs.length ≤ cs.size →
    ((vs.zipIdx k).foldl (fun (cs : Array Value) (x : Value × Nat) => cs.setIfInBounds (off + x.2) x.1) cs).toList = splice cs.toList (off + k) vs
  | [], k, cs, h => by simp [splice]
  | v :: vs, k, cs, h => by
    simp only [List.length_cons] at h
    simp only [List.zipIdx_cons, List.foldl_cons]
    rw [setFold c off vs (k + 1) _ (by simp; omega)]
    have e1 : (cs.setIfInBounds (off + k) v).toList = cs.toList.set (off + k) v := by simp
    rw [e1, show off + (k + 1) = (off + k) + 1 from rfl, splice_cons _ _ _ _ (by simp; omega)]

theorem fillD_run {place place' : Nat → Option (Nat × Nat)} (hp : ∀ i r, place i = some r → place' i = some r) : ∀ (parts : List (Nat × Value)) (cells : Array Value) (r : List Value), fillD place cells.toList parts = some r → Instr.fill place' cells parts = some r.toArray
  | [], cells, r, h => by simp [fillD] at h; simp [Instr.fill, ← h]
  | (i, v) :: rest, cells, r, h => by
    simp only [fillD] at h
    split at h <;> try (simp at h; done)
    rename_i off size hpl
    split at h <;> try (simp at h; done)
    rename_i hc
    obtain ⟨h1, h2⟩ := hc
    simp at h1 h2
    have hs := setFold cells off v.cells.toList 0 cells (by simp; omega)
    simp only [Nat.add_zero] at hs
    simp only [Instr.fill, hp _ _ hpl]
    rw [if_neg (by simp; omega)]
    refine fillD_run hp rest _ r ?_
    rw [← h]
    congr 1
    rw [← hs]
    congr 1
    rw [← Array.foldl_toList]
    simp

inductive PRels (ι : Ren) : List (Nat × Value) → List (Nat × Value) → Prop where
  | nil : PRels ι [] []
  | cons {i : Nat} {v v' : Value} {l l' : List (Nat × Value)} (h : VRel ι v v') (t : PRels ι l l') : PRels ι ((i, v) :: l) ((i, v') :: l')

theorem fillD_rel {place : Nat → Option (Nat × Nat)} {ps ps' : List (Nat × Value)} (hp : PRels ι ps ps') : ∀ {cs cs' : List Value}, VRels ι cs cs' → ∀ {r : List Value}, fillD place cs ps = some r → ∃ r', fillD place cs' ps' = some r' ∧ VRels ι r r' := by
  induction hp with
  | nil => intro cs cs' hc r h; simp [fillD] at h; subst h; exact ⟨_, rfl, hc⟩
  | cons hv t ih =>
    intro cs cs' hc r h
    simp only [fillD] at h ⊢
    split at h <;> try (simp at h; done)
    rename_i off size hpl
    split at h <;> try (simp at h; done)
    rename_i hcond
    have e1 := hv.cells.length
    have e2 := hc.length
    rw [if_pos (by omega)]
    exact ih (hc.splice hv.cells off) h

theorem placeS_run {fields : Array Field} (hs : fieldsSized P fields.toList = true) :
    ∃ places : Array (Nat × Nat), (fields.mapM (fun f => (do pure (f.offset, ← Go.sizeOf f.type) : Sem (Nat × Nat)))).run P w = .ok places w ∧ ∀ i r, placeS P fields.toList i = some r → places[i]? = some r := by
  obtain ⟨fl⟩ := fields
  simp only at hs ⊢
  have main : ∀ (fl : List Field), fieldsSized P fl = true → ∃ pl : List (Nat × Nat), (fl.mapM (fun f => (do pure (f.offset, ← Go.sizeOf f.type) : Sem (Nat × Nat)))).run P w = .ok pl w ∧ ∀ i r, placeS P fl i = some r → pl[i]? = some r := by
    intro fl
    induction fl with
    | nil => intro _; exact ⟨[], by simp, by intro i r h; simp [placeS] at h⟩
    | cons f fl ih =>
      intro h
      simp only [fieldsSized, Bool.and_eq_true, Option.isSome_iff_exists] at h
      obtain ⟨⟨sz, hsz⟩, h2⟩ := h
      obtain ⟨pl, h3, h4⟩ := ih h2
      refine ⟨(f.offset, sz) :: pl, ?_, ?_⟩
      · rw [List.mapM_cons]
        simp only [Sem.run_bind, run_sizeOf' hsz, Result.andThen_ok, Sem.run_pure, h3]
      · intro i r hi
        cases i with
        | zero => simp [placeS, hsz] at hi; simp [hi]
        | succ i =>
          have : placeS P fl i = some r := by simpa [placeS] using hi
          simpa using h4 i r this
  obtain ⟨pl, h1, h2⟩ := main fl hs
  refine ⟨pl.toArray, ?_, fun i r h => by simpa using h2 i r h⟩
  rw [Array.mapM_eq_mapM_toList]
  simp only [Sem.run_map, h1, Result.andThen_ok]

theorem buildD_ok {s : TypeId} {ps : List (Nat × Value)} {ps' : Array (Nat × Value)} (hp : PRels ι ps ps'.toList) {v : Value} (h : buildD P s ps = some v) :
    ∃ v', (Instr.build s ps').run P w = .ok v' w ∧ VRel ι v v' := by
  unfold buildD at h
  split at h <;> try (simp at h; done)
  rename_i z hz
  split at h <;> try (simp at h; done)
  rename_i hcz
  have hzr := (constV_rel ι hcz).cells
  split at h <;> try (simp at h; done)
  · rename_i fields hu
    split at h <;> try (simp at h; done)
    rename_i hfs
    split at h <;> simp at h
    rename_i cs hcs
    subst h
    obtain ⟨r', hr', hrr⟩ := fillD_rel hp hzr hcs
    obtain ⟨places, h1, h2⟩ := placeS_run (P := P) (w := w) hfs
    have hf := fillD_run (place' := (places[·]?)) h2 ps'.toList z.cells r' hr'
    refine ⟨.agg r'.toArray, ?_, VRel.agg' hrr⟩
    simp only [Instr.build, Sem.run_bind, run_zero' hz, Result.andThen_ok, run_und hu, h1]
    rw [hf]
    rfl
  · rename_i len elem hu
    split at h <;> try (simp at h; done)
    rename_i sz hsz
    split at h <;> simp at h
    rename_i cs hcs
    subst h
    obtain ⟨r', hr', hrr⟩ := fillD_rel hp hzr hcs
    have hf := fillD_run (place' := fun i => some (i * sz, sz)) (fun i r h => h) ps'.toList z.cells r' hr'
    refine ⟨.agg r'.toArray, ?_, VRel.agg' hrr⟩
    simp only [Instr.build, Sem.run_bind, run_zero' hz, Result.andThen_ok, run_und hu, run_sizeOf' hsz]
    rw [hf]
    rfl

theorem repl_get (z : List Value) (hz : 0 < z.length) : ∀ (k i : Nat), i < k * z.length → (repl z k)[i]? = z[i % z.length]?
  | 0, i, h => by simp at h
  | k + 1, i, h => by
    simp only [repl]
    rw [List.getElem?_append]
    split
    · rename_i hlt; rw [Nat.mod_eq_of_lt hlt]
    · rename_i hge
      rw [repl_get z hz k (i - z.length) (by rw [Nat.add_mul] at h; omega)]
      congr 1
      exact (Nat.mod_eq_sub_mod (by omega)).symm

theorem repl_length (z : List Value) (k : Nat) : (repl z k).length = k * z.length := by
  induction k with
  | zero => simp [repl]
  | succ k ih => simp [repl, ih, Nat.add_mul, Nat.add_comm]

theorem zeros_eq (z : Array Value) (k : Nat) : ((Array.range (k * z.size)).map (fun i => z[i % z.size]!)).toList = repl z.toList k := by
  apply List.ext_getElem?
  intro i
  by_cases hi : i < k * z.size
  · have hz : 0 < z.size := by
      rcases Nat.eq_zero_or_pos z.size with h | h
      · rw [h] at hi; simp at hi
      · exact h
    rw [repl_get z.toList (by simpa using hz) k i (by simpa using hi)]
    have hm : i % z.size < z.size := Nat.mod_lt _ hz
    simp [hi, hm]
  · rw [List.getElem?_eq_none (by simp; omega), List.getElem?_eq_none (by rw [repl_length]; simp; omega)]

/-- A block that is laid anew: the relation behind it. -/
theorem Rel.push (hr : Rel B0 G ι m w) (hn : ι m.size = none) {x : Blk} {o : Obj} {k : Nat}
    (hnew : BlkRel B0 (fun b => if b = m.size then some ⟨w.heap.size, 0, k⟩ else ι b) x ⟨w.heap.size, 0, k⟩ (w.alloc o)) :
    Rel B0 G (fun b => if b = m.size then some ⟨w.heap.size, 0, k⟩ else ι b) (m.push x) (w.alloc o) ∧
    Stp ι (fun b => if b = m.size then some ⟨w.heap.size, 0, k⟩ else ι b) m (m.push x) w (w.alloc o) := by
  have hle : ι.le (fun b => if b = m.size then some ⟨w.heap.size, 0, k⟩ else ι b) := by
    intro b L hb
    have : b ≠ m.size := by intro e; rw [e, hn] at hb; cases hb
    simp [this, hb]
  have hold : ∀ B, B < w.heap.size → (w.alloc o).heap[B]? = w.heap[B]? := fun B hB => by
    show (w.heap.push o)[B]? = _
    rw [Array.getElem?_push, if_neg (by omega)]
  refine ⟨⟨fun b L hb hL => ?_, fun b₁ b₂ L₁ L₂ h1 h2 h3 h4 l1 l2 g0 e => ?_, by simp; have := hr.floor; omega, fun g hg => ?_, fun b hb => ?_⟩,
    ⟨hle, fun b hb => ?_, rfl, rfl, rfl, by simp, fun B hB _ => hold B hB, fun b L h1 h2 hL => ?_, by simp, fun b hb ho => ?_⟩⟩
  · rw [Mem.get_push]
    by_cases e : b = m.size
    · subst e; simp at hL; subst hL; simpa using hnew
    · simp only [e, if_false] at hL ⊢
      simp at hb
      exact (hr.blk b L (by omega) hL).monoL hle (fun hl => hold _ (hr.old b L hL hl))
  · simp at h1 h2
    by_cases e1 : b₁ = m.size
    · by_cases e2 : b₂ = m.size
      · omega
      · simp [e1] at h3; simp [e2] at h4; subst h3
        rw [Mem.get_push_ne _ e2] at l2
        have := hr.old _ _ h4 l2
        simp at e; omega
    · by_cases e2 : b₂ = m.size
      · simp [e1] at h3; simp [e2] at h4; subst h4
        rw [Mem.get_push_ne _ e1] at l1
        have := hr.old _ _ h3 l1
        simp at e; omega
      · simp [e1] at h3; simp [e2] at h4
        rw [Mem.get_push_ne _ e1] at l1
        rw [Mem.get_push_ne _ e2] at l2
        exact hr.inj b₁ b₂ L₁ L₂ (by omega) (by omega) h3 h4 l1 l2 g0 e
  · obtain ⟨L, h1, h2⟩ := hr.glob g hg
    exact ⟨L, hle _ _ h1, h2⟩
  · simp at hb; rw [Mem.get_push_ne _ (by omega)]; exact hr.top b (by omega)
  · have : b ≠ m.size := by simp at hb; omega
    simp [this]
  · simp at h2
    have : b = m.size := by omega
    simp [this] at hL; subst hL; exact .inl (Nat.le_refl _)
  · rw [Mem.get_push_ne _ (by omega)] at ho; exact ho

theorem optEv_rel (hr : Rel B0 G ι m w) (h : TRel ι n t a) {x : Option Operand} {v : Option Value} (hx : optEv G t x = some v) : ORel ι v (x.map a.eval) := by
  cases x with
  | none => simp [optEv] at hx; subst hx; trivial
  | some x =>
    simp only [optEv] at hx
    split at hx <;> simp at hx
    rename_i u hu
    subst hx
    exact ev_rel hr h hu

theorem evParts_rel (hr : Rel B0 G ι m w) (h : TRel ι n t a) : ∀ {l : List (Nat × Operand)} {vs : List (Nat × Value)}, evParts G t l = some vs → PRels ι vs (l.map fun x => (x.1, a.eval x.2))
  | [], vs, hx => by simp [evParts] at hx; subst hx; exact .nil
  | (i, x) :: l, vs, hx => by
    simp only [evParts] at hx
    split at hx <;> try (simp at hx; done)
    rename_i v hv
    split at hx <;> simp at hx
    rename_i us hus
    subst hx
    exact .cons (ev_rel hr h hv) (evParts_rel hr h hus)

/-- The value that tells of a new block, as the world has it. -/
theorem Made.rel {ι : Ren} {b k B : Nat} (h : ι b = some ⟨B, 0, k⟩) (q : Made) : VRel ι (q.val b) (q.val B) := by
  cases q with
  | ptr => have := VRel.ptr b 0 _ h; simpa [Made.val] using this
  | slc len cap => have := VRel.slc b 0 len cap _ h; simpa [Made.val] using this
  | mp => exact VRel.map b _ h
  | ext => have := VRel.ptr b 0 _ h; simpa [Made.val] using this

theorem cells_new {ι' : Ren} {e : TypeId} {c c' : List Value} (hc : VRels ι' c c') (hf : B0 ≤ w.heap.size) : BlkRel B0 ι' (.cells true c) ⟨w.heap.size, 0, c'.length⟩ (w.alloc (.cells c'.toArray e)) := by
  refine ⟨c'.toArray, e, (0, 0), ?_, by simp, by simp [hc.length], fun i v hv => ?_, fun _ => ⟨hf, fun o _ h => by simp at h⟩⟩
  · show (w.heap.push _)[w.heap.size]? = _
    simp
  · obtain ⟨y, hy, hr⟩ := hc.get hv
    exact ⟨y, by simpa using hy, hr⟩

theorem run_newRow (e : TypeId) (c : Array Value) : (newRow e c).run P w = .ok ⟨w.heap.size, 0, none⟩ (w.alloc (.cells c e)) := by
  simp [newRow]

theorem zerosD_run {e : TypeId} {k : Nat} {zs : List Value} (h : zerosD P e k = some zs) :
    ∃ z size, zeroOf P e = some z ∧ szOf P e = some size ∧ z.cells.size = size ∧ zs = repl z.cells.toList k ∧ constV z = true := by
  unfold zerosD at h
  split at h <;> try (simp at h; done)
  rename_i z size hz hs
  split at h <;> simp at h
  rename_i hc
  exact ⟨z, size, hz, hs, by simpa using hc.2, h.symm, hc.1⟩

theorem repl_const {z : List Value} (h : ∀ x ∈ z, VRel ι x x) (k : Nat) : VRels ι (repl z k) (repl z k) := by
  refine LRel.refl _ ?_
  induction k with
  | zero => intro x hx; simp [repl] at hx
  | succ k ih => intro x hx; simp [repl] at hx; rcases hx with hx | hx; exact h x hx; exact ih x hx

theorem const_cells {z : Value} (h : constV z = true) : ∀ x ∈ z.cells.toList, VRel ι x x := by
  intro x hx
  have := (constV_rel ι h).cells
  obtain ⟨i, hi⟩ := List.getElem?_of_mem hx
  obtain ⟨y, hy, hr⟩ := this.get hi
  rw [hi] at hy
  cases hy
  exact hr

theorem allocD_run (hr : Rel B0 G ι m w) (ht : TRel ι n t a) {o : Oper} {x : Blk} {q : Made} (h : allocD P G t o.op = some (x, q)) :
    ∃ ob k, (execOp a.eval o).run P w = .ok (.value (q.val w.heap.size)) (w.alloc ob) ∧ ∀ ι' : Ren, ι.le ι' → BlkRel B0 ι' x ⟨w.heap.size, 0, k⟩ (w.alloc ob) := by
  have fin : ∀ (c c' : List Value) (e : TypeId) (q : Made), VRels ι c c' → (execOp a.eval o).run P w = .ok (.value (q.val w.heap.size)) (w.alloc (.cells c'.toArray e)) →
      ∃ ob k, (execOp a.eval o).run P w = .ok (.value (q.val w.heap.size)) (w.alloc ob) ∧ ∀ ι' : Ren, ι.le ι' → BlkRel B0 ι' (.cells true c) ⟨w.heap.size, 0, k⟩ (w.alloc ob) :=
    fun c c' e q hc hrun => ⟨_, c'.length, hrun, fun ι' hle => cells_new (VRels.mono hle hc) hr.floor⟩
  have finm : (execOp a.eval o).run P w = .ok (.value (Made.val w.heap.size .mp)) (w.alloc (.map #[] 0)) →
      ∃ ob k, (execOp a.eval o).run P w = .ok (.value (Made.val w.heap.size .mp)) (w.alloc ob) ∧ ∀ ι' : Ren, ι.le ι' → BlkRel B0 ι' (.map true [] 0) ⟨w.heap.size, 0, k⟩ (w.alloc ob) :=
    fun hrun => ⟨_, 0, hrun, fun ι' hle => ⟨#[], by show (w.heap.push _)[w.heap.size]? = _; simp, .nil, fun _ => hr.floor⟩⟩
  cases ho : o.op <;> rw [ho] at h <;> simp only [allocD] at h <;> try (simp at h; done)
  case alloc e =>
    split at h <;> try (simp at h; done)
    rename_i z hz
    split at h <;> simp at h
    rename_i hcz
    obtain ⟨rfl, rfl⟩ := h
    refine fin _ _ e .ptr (constV_rel ι hcz).cells ?_
    simp [execOp, ho, Instr.alloc, run_zero' hz, newVar, run_newRow, Made.val]
  case box e x =>
    split at h <;> simp at h
    rename_i v hv
    obtain ⟨rfl, rfl⟩ := h
    refine fin _ _ e .ptr (ev_rel hr ht hv).cells ?_
    simp [execOp, ho, Instr.box, newVar, run_newRow, Made.val]
  case buildSlice ty len parts =>
    split at h <;> try (simp at h; done)
    rename_i e hu
    split at h <;> try (simp at h; done)
    rename_i size hs
    split at h <;> try (simp at h; done)
    rename_i hle'
    split at h <;> try (simp at h; done)
    rename_i zs ps hzs hps
    split at h <;> simp at h
    rename_i cs hcs
    obtain ⟨rfl, rfl⟩ := h
    obtain ⟨z, sz, hz, hs', hsz, rfl, hcz⟩ := zerosD_run hzs
    rw [hs] at hs'; cases hs'
    have hprel := evParts_rel hr ht hps
    obtain ⟨r', hr', hrr⟩ := fillD_rel hprel (repl_const (const_cells (ι := ι) hcz) len) hcs
    refine fin _ r' e (.slc len len) hrr ?_
    have hz0 : ((Array.range (len * size)).map (fun i => z.cells[i % z.cells.size]!)).toList = repl z.cells.toList len := by rw [← hsz]; exact zeros_eq z.cells len
    have hz1 : ∀ zz : Array Value, (len * size = 0 → zz = #[]) → (len * size ≠ 0 → zz = z.cells) → ((Array.range (len * size)).map (fun i => zz[i % zz.size]!)) = (repl z.cells.toList len).toArray := by
      intro zz g1 g2
      apply Array.ext'
      by_cases h0 : len * size = 0
      · rw [← hz0, h0]; simp
      · rw [g2 h0, hz0]
    have hf := fillD_run (place' := fun i => some (i * size, size)) (fun i r h => h) (parts.map fun x => (x.1, a.eval x.2)).toList (repl z.cells.toList len).toArray r' (by simpa using hr')
    simp only [execOp, ho, Instr.buildSlice, Sem.run_bind, run_und hu, Result.andThen_ok, run_sizeOf' hs]
    rw [if_neg (by simp; omega)]
    by_cases h0 : len * size = 0
    · have hq := hz1 #[] (fun _ => rfl) (fun h => absurd h0 h)
      simp only [h0, if_true, Sem.run_bind, Sem.run_pure, Result.andThen_ok]
      rw [h0] at hq
      rw [hq]
      simp only [hf]
      simp [run_newRow, Made.val]
    · have hq := hz1 z.cells (fun h => absurd h h0) (fun _ => rfl)
      simp only [h0, if_false, Sem.run_bind, Sem.run_pure, run_zero' hz, Result.andThen_ok]
      rw [hq]
      simp only [hf]
      simp [run_newRow, Made.val]
  case makeSlice ty l c =>
    split at h <;> try (simp at h; done)
    rename_i e hu
    split at h <;> try (simp at h; done)
    rename_i l c bytes hl hc hby
    split at h <;> try (simp at h; done)
    rename_i hcond
    split at h <;> simp at h
    rename_i zs hzs
    obtain ⟨rfl, rfl⟩ := h
    obtain ⟨z, sz, hz, hs', hsz, rfl, hcz⟩ := zerosD_run hzs
    obtain ⟨i, hi, hib⟩ := run_typeInfo_bytes (w := w) hby
    have el := (ev_rel hr ht hl).inv_int
    have ec := (ev_rel hr ht hc).inv_int
    obtain ⟨g1, g2, g3, g4⟩ := hcond
    refine fin _ _ e (.slc l.toNat c.toNat) (repl_const (const_cells (ι := ι) hcz) c.toNat) ?_
    have wl : IntKind.i64.wrap l = l := by simp [IntKind.wrap, IntKind.signed, IntKind.bits]; omega
    have wc : IntKind.i64.wrap c = c := by simp [IntKind.wrap, IntKind.signed, IntKind.bits]; omega
    have hz0 : ((Array.range (c.toNat * sz)).map (fun i => z.cells[i % z.cells.size]!)).toList = repl z.cells.toList c.toNat := by rw [← hsz]; exact zeros_eq z.cells c.toNat
    simp only [execOp, ho, Instr.makeSlice, Sem.run_bind, run_und hu, Result.andThen_ok, el, ec, asInt, asIntOf, Sem.run_pure, hi, hib, wl, wc]
    have t1 : (decide (c < 0) || decide ((bytes : Int) * c > 2 ^ 48)) = false := by simp; omega
    rw [if_neg (by simp [t1]; omega)]
    simp only [run_askRoom, Sem.run_bind, Result.andThen_ok, run_sizeOf' hs']
    by_cases h0 : c.toNat * sz = 0
    · simp only [h0, if_true, Sem.run_pure, Result.andThen_ok]
      have : repl z.cells.toList c.toNat = [] := by rw [← hz0, h0]; simp
      rw [this]
      have hz2 : Array.map (fun _ : Nat => (default : Value)) (Array.range 0) = #[] := Array.ext' (by simp)
      simp [run_newRow, Made.val, hz2]
    · simp only [h0, if_false, Sem.run_bind, run_zero' hz, Result.andThen_ok, Sem.run_pure]
      have : ((Array.range (c.toNat * sz)).map (fun i => z.cells[i % z.cells.size]!)) = (repl z.cells.toList c.toNat).toArray := Array.ext' (by rw [hz0])
      rw [this]
      simp [run_newRow, Made.val]
  case makeMap ty r =>
    split at h
    · simp at h
      obtain ⟨rfl, rfl⟩ := h
      exact finm (by simp [execOp, ho, Instr.makeMap, Made.val])
    · rename_i x
      split at h <;> simp at h
      rename_i kt et k q hu hq
      obtain ⟨rfl, rfl⟩ := h
      have eq := (ev_rel hr ht hq).inv_int
      exact finm (by simp [execOp, ho, Instr.makeMap, Made.val, run_und hu, eq, asInt, asIntOf])

theorem allocD_ok (hr : Rel B0 G ι m w) (ht : TRel ι n t a) (hn : ι m.size = none) {o : Oper} {x : Blk} {q : Made} (h : allocD P G t o.op = some (x, q)) :
    ∃ ι' v' w', (execOp a.eval o).run P w = .ok (.value v') w' ∧ VRel ι' (q.val m.size) v' ∧ Rel B0 G ι' (m.push x) w' ∧ Stp ι ι' m (m.push x) w w' := by
  obtain ⟨ob, k, hrun, hb⟩ := allocD_run hr ht h
  have hle : ι.le (fun b => if b = m.size then some ⟨w.heap.size, 0, k⟩ else ι b) := by
    intro b L hb
    have : b ≠ m.size := by intro e; rw [e, hn] at hb; cases hb
    simp [this, hb]
  have hp := Rel.push (k := k) (x := x) (o := ob) hr hn (hb _ hle)
  exact ⟨_, _, _, hrun, Made.rel (B := w.heap.size) (k := k) (by simp) q, hp.1, hp.2⟩
end
end Go.DI
