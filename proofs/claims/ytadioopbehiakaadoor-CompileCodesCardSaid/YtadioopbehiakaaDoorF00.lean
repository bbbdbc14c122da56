/-
  DiTree: a finite map by numbers (a trie with buckets): what the deterministic interpreter's memory and frames are made of.
-/
import Derived.Orders
import Derived.Below
import Derived.Laws.Sem
set_option linter.all false
set_option linter.unusedVariables false
set_option linter.unusedSimpArgs false
namespace Go.DI
inductive Tr (α : Type) where
  | nil
  | bucket (l : List (Nat × α))
  | node (l r : Tr α)
def Tr.look {α : Type} (k : Nat) : List (Nat × α) → Option α
  | [] => none
  | (j, v) :: l => cond (Nat.beq j k) (some v) (Tr.look k l)
def Tr.upd {α : Type} (k : Nat) (v : α) : List (Nat × α) → List (Nat × α)
  | [] => [(k, v)]
  | (j, u) :: l => cond (Nat.beq j k) ((k, v) :: l) ((j, u) :: Tr.upd k v l)
def Tr.get {α : Type} : Tr α → Nat → Nat → Option α
  | .nil, _, _ => none
  | .bucket l, _, k => Tr.look k l
  | .node l r, p, k => cond (Nat.beq (p % 2) 0) (Tr.get l (p / 2) k) (Tr.get r (p / 2) k)
def Tr.new {α : Type} : Nat → Nat → Nat → α → Tr α
  | 0, _, k, v => .bucket [(k, v)]
  | d + 1, p, k, v => cond (Nat.beq (p % 2) 0) (.node (Tr.new d (p / 2) k v) .nil) (.node .nil (Tr.new d (p / 2) k v))
def Tr.put {α : Type} : Tr α → Nat → Nat → Nat → α → Tr α
  | .nil, d, p, k, v => Tr.new d p k v
  | .bucket l, _, _, k, v => .bucket (Tr.upd k v l)
  | .node l r, d, p, k, v => cond (Nat.beq (p % 2) 0) (.node (Tr.put l (d - 1) (p / 2) k v) r) (.node l (Tr.put r (d - 1) (p / 2) k v))
theorem beq_ne {a b : Nat} (h : a ≠ b) : Nat.beq a b = false := by
  cases hb : Nat.beq a b with
  | false => rfl
  | true => exact absurd (Nat.eq_of_beq_eq_true hb) h
theorem Tr.look_upd {α : Type} (k j : Nat) (v : α) (l : List (Nat × α)) : Tr.look j (Tr.upd k v l) = if j = k then some v else Tr.look j l := by
  induction l with
  | nil =>
    simp only [Tr.upd, Tr.look]
    by_cases h : j = k
    · subst h; simp
    · simp [beq_ne (Ne.symm h), h]
  | cons x l ih =>
    obtain ⟨i, u⟩ := x
    simp only [Tr.upd]
    cases hb : Nat.beq i k with
    | true =>
      have hik := Nat.eq_of_beq_eq_true hb
      subst hik
      simp only [cond_true, Tr.look]
      by_cases h : j = i
      · subst h; simp
      · simp [beq_ne (Ne.symm h), h]
    | false =>
      simp only [cond_false, Tr.look, ih]
      by_cases h : j = k
      · subst h; simp [hb]
      · simp [h]
theorem Tr.get_new_same {α : Type} (k : Nat) (v : α) : ∀ (d p : Nat), Tr.get (Tr.new d p k v) p k = some v
  | 0, p => by simp [Tr.new, Tr.get, Tr.look]
  | d + 1, p => by
    have ih := Tr.get_new_same k v d (p / 2)
    simp only [Tr.new]
    cases hb : Nat.beq (p % 2) 0 <;> simp only [cond_true, cond_false, Tr.get, hb, ih]
theorem Tr.get_put_same {α : Type} (k : Nat) (v : α) : ∀ (t : Tr α) (d p : Nat), Tr.get (Tr.put t d p k v) p k = some v
  | .nil, d, p => Tr.get_new_same k v d p
  | .bucket l, d, p => by simp [Tr.put, Tr.get, Tr.look_upd]
  | .node l r, d, p => by
    have il := Tr.get_put_same k v l (d - 1) (p / 2)
    have ir := Tr.get_put_same k v r (d - 1) (p / 2)
    simp only [Tr.put]
    cases hb : Nat.beq (p % 2) 0 <;> simp only [cond_true, cond_false, Tr.get, hb, il, ir]
theorem Tr.get_nil {α : Type} (p k : Nat) : Tr.get (.nil : Tr α) p k = none := rfl
theorem Tr.get_new_ne {α : Type} (k j : Nat) (h : j ≠ k) (v : α) : ∀ (d p q : Nat), Tr.get (Tr.new d p k v) q j = none
  | 0, p, q => by simp [Tr.new, Tr.get, Tr.look, beq_ne (Ne.symm h)]
  | d + 1, p, q => by
    have ih := Tr.get_new_ne k j h v d (p / 2) (q / 2)
    simp only [Tr.new]
    cases hb : Nat.beq (p % 2) 0 <;> cases hc : Nat.beq (q % 2) 0 <;> simp only [cond_true, cond_false, Tr.get, hc, ih]
theorem Tr.get_put_ne {α : Type} (k j : Nat) (h : j ≠ k) (v : α) : ∀ (t : Tr α) (d p q : Nat), Tr.get (Tr.put t d p k v) q j = Tr.get t q j
  | .nil, d, p, q => Tr.get_new_ne k j h v d p q
  | .bucket l, d, p, q => by simp [Tr.put, Tr.get, Tr.look_upd, h]
  | .node l r, d, p, q => by
    have il := Tr.get_put_ne k j h v l (d - 1) (p / 2) (q / 2)
    have ir := Tr.get_put_ne k j h v r (d - 1) (p / 2) (q / 2)
    simp only [Tr.put]
    cases hb : Nat.beq (p % 2) 0 <;> cases hc : Nat.beq (q % 2) 0 <;> simp only [cond_true, cond_false, Tr.get, hc, il, ir]
theorem Tr.get_put {α : Type} (k j : Nat) (v : α) (d : Nat) (t : Tr α) : Tr.get (Tr.put t d k k v) j j = if j = k then some v else Tr.get t j j := by
  by_cases h : j = k
  · subst h; simp [Tr.get_put_same]
  · simp [h, Tr.get_put_ne k j h]
abbrev Tmps := Tr Value
def Tmps.at (t : Tmps) (d : Nat) : Value := match Tr.get t d d with | some v => v | none => undef
def Tmps.set (t : Tmps) (d : Nat) (v : Value) : Tmps := Tr.put t 6 d d v
theorem Tmps.at_set (t : Tmps) (d e : Nat) (v : Value) : (t.set d v).at e = if e = d then v else t.at e := by
  simp only [Tmps.at, Tmps.set, Tr.get_put]
  by_cases h : e = d <;> simp [h]
inductive Blk where
  | none
  | cells (own : Bool) (c : List Value)
  | map (own : Bool) (es : List MapEntry) (clock : Nat)
  | siter (s : ByteArray) (pos : Nat)
  deriving Inhabited
structure Mem where
  base : Nat → Blk
  tr : Tr Blk
  size : Nat
def Mem.get (m : Mem) (b : Nat) : Blk := match Tr.get m.tr b b with | some x => x | none => m.base b
def Mem.set (m : Mem) (b : Nat) (x : Blk) : Mem := { base := m.base, tr := Tr.put m.tr 10 b b x, size := m.size }
def Mem.push (m : Mem) (x : Blk) : Mem := { base := m.base, tr := Tr.put m.tr 10 m.size m.size x, size := m.size + 1 }
theorem Mem.get_set (m : Mem) (b j : Nat) (x : Blk) : (m.set b x).get j = if j = b then x else m.get j := by
  simp only [Mem.get, Mem.set, Tr.get_put]
  by_cases h : j = b <;> simp [h]
theorem Mem.get_push (m : Mem) (j : Nat) (x : Blk) : (m.push x).get j = if j = m.size then x else m.get j := by
  simp only [Mem.get, Mem.push, Tr.get_put]
  by_cases h : j = m.size <;> simp [h]
@[simp] theorem Mem.size_set (m : Mem) (b : Nat) (x : Blk) : (m.set b x).size = m.size := rfl
@[simp] theorem Mem.size_push (m : Mem) (x : Blk) : (m.push x).size = m.size + 1 := rfl
theorem Mem.get_set_same (m : Mem) (b : Nat) (x : Blk) : (m.set b x).get b = x := by simp [Mem.get_set]
theorem Mem.get_set_ne (m : Mem) {b j : Nat} (h : j ≠ b) (x : Blk) : (m.set b x).get j = m.get j := by simp [Mem.get_set, h]
theorem Mem.get_push_same (m : Mem) (x : Blk) : (m.push x).get m.size = x := by simp [Mem.get_push]
theorem Mem.get_push_ne (m : Mem) {j : Nat} (h : j ≠ m.size) (x : Blk) : (m.push x).get j = m.get j := by simp [Mem.get_push, h]
end Go.DI
namespace Go.DI
section
variable (P : Program) (K : TypeId → Bool) (G : Nat)
/-! ### types -/
def szOf (t : TypeId) : Option Nat := match P.info? t with | some i => some i.size | none => none
def bytesOf (t : TypeId) : Option Nat := match P.info? t with | some i => some i.bytes | none => none
def zeroOf (t : TypeId) : Option Value := match P.info? t with | some i => i.zero | none => none
def aggB (t : TypeId) : Option Bool := match P.underlying t with | some (.struct _) => some true | some (.array _ _) => some true | some _ => some false | none => none
def bareV : Value → Bool
  | .int .. | .bool _ | .string _ | .pointer none | .slice none 0 0 | .map none | .nilFunc | .nilIface => true
  | _ => false
def constV : Value → Bool
  | .agg cs => cs.toList.all bareV
  | .tuple cs => cs.toList.all bareV
  | v => bareV v
def ev (t : Tmps) : Operand → Option Value
  | .tmp d => some (t.at d)
  | .const v => cond (constV v) (some v) none
  | .global g => if g < G then some (.pointer (some ⟨g, 0, none⟩)) else none
  | .func f => some (.func (.func f) #[] #[])
def evs (t : Tmps) : List Operand → Option (List Value)
  | [] => some []
  | x :: l => match ev G t x with
    | some v => match evs t l with
      | some vs => some (v :: vs)
      | none => none
    | none => none
def part (t : TypeId) (cs : List Value) (off : Nat) : Option Value :=
  match aggB P t with
  | some true => match szOf P t with
    | some n => some (.agg ((cs.drop off).take n).toArray)
    | none => none
  | some false => cs[off]?
  | none => none
def one : Value → Bool
  | .agg _ | .tuple _ => false
  | _ => true
/-! ### memory -/
def loadC (m : Mem) (b off n : Nat) : Option (List Value) :=
  match m.get b with
  | .cells _ c => if off + n ≤ c.length then some ((c.drop off).take n) else none
  | _ => none
def splice (c : List Value) (off : Nat) (vs : List Value) : List Value := c.take off ++ (vs ++ c.drop (off + vs.length))
def storeC (m : Mem) (b off : Nat) (vs : List Value) : Option Mem :=
  match m.get b with
  | .cells true c => if off + vs.length ≤ c.length then (if vs.all one then some (m.set b (.cells true (splice c off vs))) else none) else none
  | _ => none
def loadD (m : Mem) (t : TypeId) : Value → Option Value
  | .pointer (some ⟨b, off, none⟩) => match aggB P t with
    | some true => match szOf P t with
      | some n => match loadC m b off n with
        | some c => some (.agg c.toArray)
        | none => none
      | none => none
    | some false => match m.get b with
      | .cells _ c => c[off]?
      | _ => none
    | none => none
  | _ => none
def shp (t : TypeId) (v : Value) : Bool :=
  match P.underlying t with
  | some (.int k) => (match v with | .int k' _ => decide (k = k') | _ => false)
  | some .bool => (match v with | .bool _ => true | _ => false)
  | some (.struct _) | some (.array _ _) => (match v with | .agg _ => true | _ => false)
  | some (.slice _) => (match v with | .slice _ _ _ => true | _ => false)
  | some (.pointer _) => (match v with | .pointer _ => true | _ => false)
  | _ => true
def shD (t : TypeId) : Option Value → Option Value
  | some v => cond (shp P t v) (some v) none
  | none => none
theorem shD_some {P : Program} {t : TypeId} {o : Option Value} {v : Value} (h : shD P t o = some v) : o = some v := by
  cases o with
  | none => simp [shD] at h
  | some u =>
    simp only [shD] at h
    cases hs : shp P t u <;> simp [hs] at h
    rw [h]
def storeD (m : Mem) (t : TypeId) (x : Value) : Value → Option Mem
  | .pointer (some ⟨b, off, none⟩) =>
    match szOf P t with
    | some n => if x.cells.toList.length = n then storeC m b off x.cells.toList else none
    | none => none
  | _ => none
/-! ### numbers, strings -/
def binInt (op : BinOp) (k : IntKind) (x y : Int) : Option Value :=
  match op with
  | .add => some (.int k (k.wrap (x + y)))
  | .sub => some (.int k (k.wrap (x - y)))
  | .mul => some (.int k (k.wrap (x * y)))
  | .quo => if y = 0 then none else some (.int k (k.wrap (x.tdiv y)))
  | .rem => if y = 0 then none else some (.int k (x.tmod y))
  | .and => some (.int k (k.wrap (BitVec.ofInt k.bits x &&& BitVec.ofInt k.bits y).toNat))
  | .or => some (.int k (k.wrap (BitVec.ofInt k.bits x ||| BitVec.ofInt k.bits y).toNat))
  | .xor => some (.int k (k.wrap (BitVec.ofInt k.bits x ^^^ BitVec.ofInt k.bits y).toNat))
  | .andNot => some (.int k (k.wrap (BitVec.ofInt k.bits x &&& ~~~ BitVec.ofInt k.bits y).toNat))
  | .eql => some (.bool (x == y))
  | .neq => some (.bool (x != y))
  | .lss => some (.bool (x < y))
  | .leq => some (.bool (x ≤ y))
  | .gtr => some (.bool (x > y))
  | .geq => some (.bool (x ≥ y))
  | _ => none
def shiftD (op : BinOp) (k : IntKind) (x y : Int) : Option Value :=
  if y < 0 then none else
  match op with
  | .shl => some (.int k (k.wrap (x * 2 ^ (min y.toNat k.bits))))
  | .shr => some (.int k (x.fdiv (2 ^ (min y.toNat k.bits))))
  | _ => none
def binStr (op : BinOp) (x y : ByteArray) : Option Value :=
  match op with
  | .add => if ((x.size + y.size : Nat) : Int) ≤ 9223372036854775807 then some (.string (x ++ y)) else none
  | .eql => some (.bool (x.toList == y.toList))
  | .neq => some (.bool !(x.toList == y.toList))
  | .lss => some (.bool (Op.bytesLess x.toList y.toList))
  | .leq => some (.bool (Op.bytesLess x.toList y.toList || x.toList == y.toList))
  | .gtr => some (.bool !(Op.bytesLess x.toList y.toList || x.toList == y.toList))
  | .geq => some (.bool !(Op.bytesLess x.toList y.toList))
  | _ => none
/-! ### equality -/
def feqL (f : Nat → Option Bool) : Nat → Nat → Option Bool
  | 0, _ => some true
  | n + 1, i => match f i with
    | some true => feqL f n (i + 1)
    | some false => some false
    | none => none
def feqF (g : TypeId → Nat → Option Bool) : List Field → Option Bool
  | [] => some true
  | f :: l => if f.name = "_" then none else match g f.type f.offset with
    | some true => feqF g l
    | some false => some false
    | none => none
def feq : Nat → TypeId → Value → Value → Option Bool
  | 0, _, _, _ => none
  | d + 1, t, x, y =>
    match P.underlying t with
    | some .bool => match x, y with | .bool a, .bool b => some (a == b) | _, _ => none
    | some (.int _) => match x, y with | .int k a, .int k' b => if k = k' then some (a == b) else none | _, _ => none
    | some .string => match x, y with | .string a, .string b => some (a == b) | _, _ => none
    | some (.pointer _) => match x, y with
      | .pointer none, .pointer b => some b.isNone
      | .pointer (some _), .pointer none => some false
      | _, _ => none
    | some (.slice _) => match x, y with
      | .slice none _ _, .slice b _ _ => some b.isNone
      | .slice (some _) _ _, .slice none _ _ => some false
      | _, _ => none
    | some (.map _ _) => match x, y with
      | .map none, .map b => some b.isNone
      | .map (some _), .map none => some false
      | _, _ => none
    | some (.func _ _ _) => match x, y with
      | .nilFunc, .nilFunc => some true
      | .nilFunc, .func _ _ _ => some false
      | .func _ _ _, .nilFunc => some false
      | _, _ => none
    | some (.struct fields) => match x, y with
      | .agg xs, .agg ys => if K t = true then feqF (fun u o => match part P u xs.toList o, part P u ys.toList o with | some a, some b => feq d u a b | _, _ => none) fields.toList else none
      | _, _ => none
    | some (.array len elem) => match x, y with
      | .agg xs, .agg ys => match szOf P elem with
        | some n => feqL (fun i => match part P elem xs.toList (i * n), part P elem ys.toList (i * n) with | some a, some b => feq d elem a b | _, _ => none) len 0
        | none => none
      | _, _ => none
    | _ => none
def eqD (op : BinOp) (t : TypeId) (x y : Value) : Option Value :=
  match op with
  | .eql => (match feq P K 100 t x y with | some r => some (.bool r) | none => none)
  | .neq => (match feq P K 100 t x y with | some r => some (.bool (!r)) | none => none)
  | _ => none
def shiftB : BinOp → Bool
  | .shl | .shr => true
  | _ => false
def binD (op : BinOp) (t : TypeId) (x y : Value) : Option Value :=
  match x with
  | .int k a => (match y with
    | .int k' b => cond (shiftB op) (shiftD op k a b) (if k = k' then binInt op k a b else none)
    | _ => none)
  | .string a => (match y with
    | .string b => binStr op a b
    | _ => none)
  | .agg xs => (match y with
    | .agg ys => if K t = true then eqD P K op t (.agg xs) (.agg ys) else none
    | _ => none)
  | .bool a => eqD P K op t (.bool a) y
  | .pointer a => eqD P K op t (.pointer a) y
  | .slice a n c => eqD P K op t (.slice a n c) y
  | .map a => eqD P K op t (.map a) y
  | .func f a b => eqD P K op t (.func f a b) y
  | .nilFunc => eqD P K op t .nilFunc y
  | _ => none
def unD (op : UnOp) : Value → Option Value
  | .int k n => match op with
    | .neg => some (.int k (k.wrap (0 - n)))
    | .xor => binInt .xor k (if k.signed then -1 else k.max) n
    | _ => none
  | .bool b => match op with | .not => some (.bool !b) | _ => none
  | _ => none
/-! ### slices -/
def boundD (y : Nat) : Option Value → Nat → Option Nat
  | none, d => some d
  | some (.int _ i), _ => if 0 ≤ i ∧ i ≤ (y : Int) then some i.toNat else none
  | some _, _ => none
def boundsD (len cap : Nat) (lo hi mx : Option Value) : Option (Nat × Nat × Nat) :=
  match mx, hi with
  | some _, none => none
  | _, _ =>
    match boundD cap mx cap with
    | some m => match boundD m hi len with
      | some h => match boundD h lo 0 with
        | some l => some (l, h, m)
        | none => none
      | none => none
    | none => none
def sliceD (t : TypeId) (x : Value) (lo hi mx : Option Value) : Option Value :=
  match P.underlying t with
  | some .string => match x with
    | .string s => match mx with
      | some _ => none
      | none => match boundsD s.size s.size lo hi none with
        | some (l, h, _) => some (.string (s.extract l h))
        | none => none
    | _ => none
  | some (.slice elem) => match x with
    | .slice none len cap => match boundsD len cap lo hi mx, szOf P elem with
      | some (l, h, m), some _ => some (.slice none (h - l) (m - l))
      | _, _ => none
    | .slice (some ⟨b, off, none⟩) len cap => match boundsD len cap lo hi mx, szOf P elem with
      | some (l, h, m), some size => some (.slice (some ⟨b, if m = l then off else off + l * size, none⟩) (h - l) (m - l))
      | _, _ => none
    | .slice (some ⟨b, off, some e⟩) len cap => match boundsD len cap lo hi mx, szOf P elem with
      | some (l, h, m), some size =>
        if size = e ∧ l ≤ h ∧ h ≤ m then
          (if mx.isSome then (if m = l then some (.slice (some ⟨b, off, some e⟩) 0 0) else some (.slice (some ⟨b, off + l * size, none⟩) (h - l) (m - l)))
           else some (.slice (some ⟨b, off + l * size, some e⟩) (h - l) (m - l)))
        else none
      | _, _ => none
    | _ => none
  | some (.array n elem) => match x with
    | .pointer (some ⟨b, off, none⟩) => match boundsD n n lo hi mx, szOf P elem with
      | some (l, h, m), some size => some (.slice (some ⟨b, if m = l then off else off + l * size, none⟩) (h - l) (m - l))
      | _, _ => none
    | _ => none
  | _ => none
def indexAddrD (t : TypeId) (x i : Value) : Option Value :=
  match i with
  | .int _ i => match P.underlying t with
    | some (.array len elem) => match x with
      | .pointer (some ⟨b, off, none⟩) => match szOf P elem with
        | some size => if 0 ≤ i ∧ i < (len : Int) then some (.pointer (some ⟨b, off + i.toNat * size, none⟩)) else none
        | none => none
      | _ => none
    | some (.slice elem) => match x with
      | .slice (some ⟨b, off, _⟩) len _ => match szOf P elem with
        | some size => if 0 ≤ i ∧ i < (len : Int) then some (.pointer (some ⟨b, off + i.toNat * size, none⟩)) else none
        | none => none
      | _ => none
    | _ => none
  | _ => none
def indexD (t : TypeId) (x i : Value) : Option Value :=
  match i with
  | .int _ i => match P.underlying t with
    | some (.array len elem) => match x with
      | .agg cs => match szOf P elem with
        | some size => if 0 ≤ i ∧ i < (len : Int) then part P elem cs.toList (i.toNat * size) else none
        | none => none
      | _ => none
    | some .string => match x with
      | .string s => if 0 ≤ i then (match s.data.toList[i.toNat]? with | some b => some (.int .u8 b.toNat) | none => none) else none
      | _ => none
    | _ => none
  | _ => none
def fieldAddrD (s : TypeId) (f : Nat) : Value → Option Value
  | .pointer (some ⟨b, off, none⟩) => match P.underlying s with
    | some (.struct fields) => match fields.toList[f]? with
      | some fd => match szOf P fd.type with
        | some n => if n = 0 then none else some (.pointer (some ⟨b, off + fd.offset, none⟩))
        | none => none
      | none => none
    | _ => none
  | _ => none
def fieldD (t : TypeId) (f : Nat) : Value → Option Value
  | .agg cs => match P.underlying t with
    | some (.struct fields) => match fields.toList[f]? with
      | some fd => part P fd.type cs.toList fd.offset
      | none => none
    | _ => none
  | _ => none
def lenD (m : Mem) (t : TypeId) (x : Value) : Option Value :=
  match P.underlying t with
  | some .string => match x with | .string s => some (.int .i64 s.size) | _ => none
  | some (.array n _) => some (.int .i64 n)
  | some (.slice _) => match x with | .slice _ n _ => some (.int .i64 n) | _ => none
  | some (.map _ _) => match x with
    | .map none => some (.int .i64 0)
    | .map (some r) => match m.get r with
      | .map _ es _ => some (.int .i64 es.length)
      | _ => none
    | _ => none
  | _ => none
def minD : List Value → Int → Option Int
  | [], a => some a
  | .int _ y :: l, a => minD l (if y < a then y else a)
  | _ :: _, _ => none
def maxD : List Value → Int → Option Int
  | [], a => some a
  | .int _ y :: l, a => maxD l (if y > a then y else a)
  | _ :: _, _ => none
/-! ### maps -/
def keyOkF (g : TypeId → Nat → Option Value) (h : TypeId → Value → Bool) : List Field → Bool
  | [] => true
  | f :: l => (match g f.type f.offset with | some v => h f.type v | none => false) && keyOkF g h l
def keyOkL (f : Nat → Bool) : Nat → Nat → Bool
  | 0, _ => true
  | n + 1, i => f i && keyOkL f n (i + 1)
def keyOk : Nat → TypeId → Value → Bool
  | 0, _, _ => false
  | d + 1, t, v =>
    match P.underlying t with
    | some (.interface _) => false
    | some (.array len elem) => match v with
      | .agg cs => match szOf P elem with
        | some n => keyOkL (fun i => match part P elem cs.toList (i * n) with | some u => keyOk d elem u | none => false) len 0
        | none => false
      | _ => false
    | some (.struct fields) => match v with
      | .agg cs => keyOkF (fun t o => part P t cs.toList o) (keyOk d) fields.toList
      | _ => false
    | some _ => true
    | none => false
def findD (kt : TypeId) (k : Value) : List MapEntry → Nat → Option (Option (Nat × Value))
  | [], _ => some none
  | e :: es, i => match feq P K 100 kt k e.key with
    | some true => some (some (i, e.val))
    | some false => findD kt k es (i + 1)
    | none => none
def entriesD (m : Mem) : Value → Option (List MapEntry)
  | .map none => some []
  | .map (some r) => match m.get r with
    | .map _ es _ => some es
    | _ => none
  | _ => none
def lookupD (m : Mem) (t : TypeId) (x k : Value) (ok : Bool) : Option Value :=
  match P.underlying t with
  | some (.map kt et) => match entriesD m x with
    | some es => if keyOk P 100 kt k = true then
        (match findD P K kt k es 0 with
        | some (some (_, v)) => cond (shp P et v) (some (cond ok (.tuple #[v, .bool true]) v)) none
        | some none => match zeroOf P et with
          | some z => if constV z = true then some (cond ok (.tuple #[z, .bool false]) z) else none
          | none => none
        | none => none) else none
    | none => none
  | _ => none
def modE (i : Nat) (k v : Value) : List MapEntry → List MapEntry
  | [] => []
  | e :: es => match i with
    | 0 => { e with key := k, val := v } :: es
    | i + 1 => e :: modE i k v es
def mapUpdateD (m : Mem) (t : TypeId) (x k v : Value) : Option Mem :=
  match P.underlying t with
  | some (.map kt _) => match x with
    | .map (some r) => match m.get r with
      | .map true es clock => if keyOk P 100 kt k = true then
          (match findD P K kt k es 0 with
          | some (some (i, _)) => match es[i]? with
            | some e => if Instr.sameBits 10000 e.key k = true then some (m.set r (.map true (modE i k v es) clock)) else none
            | none => none
          | some none => some (m.set r (.map true (es ++ [{ key := k, val := v, born := clock }]) (clock + 1)))
          | none => none) else none
      | _ => none
    | _ => none
  | _ => none
/-! ### making -/
def fillD (place : Nat → Option (Nat × Nat)) (cells : List Value) : List (Nat × Value) → Option (List Value)
  | [] => some cells
  | (i, v) :: rest => match place i with
    | none => none
    | some (off, size) => if v.cells.toList.length = size ∧ off + v.cells.toList.length ≤ cells.length then fillD place (splice cells off v.cells.toList) rest else none
def placeS (fields : List Field) (i : Nat) : Option (Nat × Nat) :=
  match fields[i]? with
  | some f => match szOf P f.type with
    | some n => some (f.offset, n)
    | none => none
  | none => none
def fieldsSized : List Field → Bool
  | [] => true
  | f :: l => (szOf P f.type).isSome && fieldsSized l
def buildD (t : TypeId) (parts : List (Nat × Value)) : Option Value :=
  match zeroOf P t with
  | some z => if constV z = true then
    (match P.underlying t with
    | some (.struct fields) => if fieldsSized P fields.toList = true then
        (match fillD (placeS P fields.toList) z.cells.toList parts with
        | some cs => some (.agg cs.toArray)
        | none => none) else none
    | some (.array _ elem) => match szOf P elem with
      | some size => match fillD (fun i => some (i * size, size)) z.cells.toList parts with
        | some cs => some (.agg cs.toArray)
        | none => none
      | none => none
    | _ => none) else none
  | none => none
def repl (z : List Value) : Nat → List Value
  | 0 => []
  | n + 1 => z ++ repl z n
def zerosD (e : TypeId) (n : Nat) : Option (List Value) :=
  match zeroOf P e, szOf P e with
  | some z, some size => if constV z = true ∧ z.cells.toList.length = size then some (repl z.cells.toList n) else none
  | _, _ => none
def evParts (t : Tmps) : List (Nat × Operand) → Option (List (Nat × Value))
  | [] => some []
  | (i, x) :: l => match ev G t x with
    | some v => match evParts t l with
      | some vs => some ((i, v) :: vs)
      | none => none
    | none => none
inductive Made where
  | ptr | slc (len cap : Nat) | mp | ext
def Made.val (b : Nat) : Made → Value
  | .ptr => .pointer (some ⟨b, 0, none⟩)
  | .slc len cap => .slice (some ⟨b, 0, none⟩) len cap
  | .mp => .map (some b)
  | .ext => .pointer (some ⟨b, 0, none⟩)
def allocD (t : Tmps) : Op → Option (Blk × Made)
  | .alloc e => match zeroOf P e with
    | some z => if constV z = true then some (.cells true z.cells.toList, .ptr) else none
    | none => none
  | .box _ x => match ev G t x with
    | some v => some (.cells true v.cells.toList, .ptr)
    | none => none
  | .buildSlice ty len parts => match P.underlying ty with
    | some (.slice e) => match szOf P e with
      | some size => if len * size ≤ 16777216 then
          (match zerosD P e len, evParts G t parts.toList with
          | some zs, some ps => match fillD (fun i => some (i * size, size)) zs ps with
            | some cs => some (.cells true cs, .slc len len)
            | none => none
          | _, _ => none) else none
      | none => none
    | _ => none
  | .makeSlice ty l c => match P.underlying ty with
    | some (.slice e) => match ev G t l, ev G t c, bytesOf P e with
      | some (.int .i64 l), some (.int .i64 c), some bytes =>
        if 0 ≤ l ∧ l ≤ c ∧ (bytes : Int) * c ≤ 281474976710656 ∧ c ≤ 9223372036854775807 then
          (match zerosD P e c.toNat with
          | some zs => some (.cells true zs, .slc l.toNat c.toNat)
          | none => none) else none
      | _, _, _ => none
    | _ => none
  | .makeMap ty r => match r with
    | none => some (.map true [] 0, .mp)
    | some x => match P.underlying ty, ev G t x with
      | some (.map _ _), some (.int _ _) => some (.map true [] 0, .mp)
      | _, _ => none
  | _ => none
def firstC (m : Mem) (size n : Nat) : Value → Option (List Value)
  | .slice (some ⟨b, off, _⟩) _ _ => loadC m b off (n * size)
  | .slice none _ _ => some []
  | .string s => if size = 1 then some ((s.data.toList.take n).map fun b => .int .u8 b.toNat) else none
  | _ => none
def lenOf : Value → Option Nat
  | .slice _ n _ => some n
  | .string s => some s.size
  | _ => none
def storeR (sp : Option Nat) (m : Mem) (b off : Nat) (vs : List Value) : Option Mem := match sp with | none => storeC m b off vs | some _ => none
theorem storeR_some {sp : Option Nat} {m m' : Mem} {b off : Nat} {vs : List Value} (h : storeR sp m b off vs = some m') : storeC m b off vs = some m' := by
  cases sp with
  | none => exact h
  | some _ => simp [storeR] at h
def appendD (m : Mem) (tS tX : TypeId) (s x : Value) : Option (Value × Mem) :=
  match P.underlying tS, P.underlying tX with
  | _, some (.int _) | _, none => none
  | some (.slice e), some _ => match s, szOf P e, bytesOf P e, lenOf x with
    | .slice base sLen sCap, some size, some bytes, some n =>
      if size = 0 then none else
      match firstC m size n x with
      | some new =>
        if sLen + n ≤ sCap then
          (match base with
          | none => if n = 0 then some (.slice none (sLen + n) sCap, m) else none
          | some ⟨b, off, sp⟩ => if n = 0 then some (.slice (some ⟨b, off, sp⟩) (sLen + n) sCap, m) else
            match storeR sp m b (off + sLen * size) new with
            | some m' => some (.slice (some ⟨b, off, sp⟩) (sLen + n) sCap, m')
            | none => none)
        else if (sLen + n) * bytes ≤ 140737488355328 ∧ (sLen + n : Nat) ≤ 4611686018427387904 ∧ 0 < bytes ∧ (zerosD P e 1).isSome = true then
          match firstC m size sLen s with
          | some old =>
            if (new.all one && old.all one) = true ∧ old.length = sLen * size ∧ new.length = n * size then
            (match base with
            | some ⟨b, _, some e'⟩ => if e' = size then
                (match m.get b with
                | .cells true _ => some (.slice (some ⟨m.size, 0, some size⟩) (sLen + n) (sLen + n), (m.push (.cells true (old ++ new))).set b .none)
                | _ => none)
              else none
            | _ => some (.slice (some ⟨m.size, 0, some size⟩) (sLen + n) (sLen + n), m.push (.cells true (old ++ new)))) else none
          | none => none
        else none
      | none => none
    | _, _, _, _ => none
  | _, _ => none
def copyD (m : Mem) (tD : TypeId) (d s : Value) : Option (Value × Mem) :=
  match P.underlying tD with
  | some (.slice e) => match d, szOf P e, lenOf s with
    | .slice base dLen _, some size, some sl =>
      if size = 0 then none else
      match firstC m size (Nat.min sl dLen) s with
      | some new => match base with
        | none => some (.int .i64 (Nat.min sl dLen : Nat), m)
        | some ⟨b, off, _⟩ => if Nat.min sl dLen = 0 then some (.int .i64 (Nat.min sl dLen : Nat), m) else
          match storeC m b off new with
          | some m' => some (.int .i64 (Nat.min sl dLen : Nat), m')
          | none => none
      | none => none
    | _, _, _ => none
  | _ => none
def byteOf : Value → Option UInt8
  | .int .u8 n => some (UInt8.ofNat n.toNat)
  | _ => none
def bytesIn : List Value → Option (List UInt8)
  | [] => some []
  | v :: l => match byteOf v with
    | some b => match bytesIn l with
      | some r => some (b :: r)
      | none => none
    | none => none
def convD (m : Mem) (src dst : TypeId) (x : Value) : Option (Value × Mem) :=
  match P.underlying src, P.underlying dst with
  | some _, some (.int k) => match x with | .int _ n => some (.int k (k.wrap n), m) | _ => none
  | some .string, some .string => match x with | .string s => some (.string s, m) | _ => none
  | some .string, some (.slice e) => match x, P.underlying e with
    | .string s, some (.int .u8) => some (.slice (some ⟨m.size, 0, some 1⟩) s.size s.size, m.push (.cells true (s.data.toList.map fun b => .int .u8 b.toNat)))
    | _, _ => none
  | some (.slice e), some .string => match P.underlying e with
    | some (.int .u8) => match x with
      | .slice none _ _ => some (.string .empty, m)
      | .slice (some ⟨b, off, _⟩) n _ => match loadC m b off n with
        | some c => match bytesIn c with
          | some l => some (.string ⟨l.toArray⟩, m)
          | none => none
        | none => none
      | _ => none
    | _ => none
  | _, _ => none
/-! ### one operation -/
def optEv (t : Tmps) : Option Operand → Option (Option Value)
  | none => some none
  | some x => match ev G t x with | some v => some (some v) | none => none
def quietD (t : Tmps) (m : Mem) : Op → Option Value
  | .move x | .assign x => ev G t x
  | .pick c a b => match ev G t c with
    | some (.bool true) => ev G t a
    | some (.bool false) => ev G t b
    | _ => none
  | .load ty a => match ev G t a with | some v => shD P ty (loadD P m ty v) | none => none
  | .nilCheck x => match ev G t x with
    | some (.pointer (some a)) => some (.pointer (some a))
    | some (.func (.func f) a b) => some (.func (.func f) a b)
    | _ => none
  | .binOp op ty x y _ => match ev G t x, ev G t y with
    | some a, some b => binD P K op ty a b
    | _, _ => none
  | .unOp op _ x => match ev G t x with | some v => unD op v | none => none
  | .makeFunc (.func f) first captured => match evs G t first.toList, evs G t captured.toList with
    | some a, some b => some (.func (.func f) a.toArray b.toArray)
    | _, _ => none
  | .fieldAddr s x f => match ev G t x with | some v => fieldAddrD P s f v | none => none
  | .field ty x f => match ev G t x with | some v => fieldD P ty f v | none => none
  | .indexAddr ty x i => match ev G t x, ev G t i with
    | some v, some i => indexAddrD P ty v i
    | _, _ => none
  | .index ty x i => match ev G t x, ev G t i with
    | some v, some i => indexD P ty v i
    | _, _ => none
  | .lookup ty x k ok => match ev G t x, ev G t k with
    | some v, some k => lookupD P K m ty v k ok
    | _, _ => none
  | .extract x i => match ev G t x with
    | some (.tuple vs) => vs.toList[i]?
    | _ => none
  | .build ty parts => match evParts G t parts.toList with
    | some ps => buildD P ty ps
    | none => none
  | .slice ty x lo hi mx => match ev G t x, optEv G t lo, optEv G t hi, optEv G t mx with
    | some v, some lo, some hi, some mx => sliceD P ty v lo hi mx
    | _, _, _, _ => none
  | .call { callee := .builtin .len, args, argTypes } => match args.toList, argTypes.toList with
    | [x], [ty] => match ev G t x with | some v => lenD P m ty v | none => none
    | _, _ => none
  | .call { callee := .builtin .min, args, argTypes := _ } => match evs G t args.toList with
    | some (.int k a :: l) => match minD l a with | some r => some (.int k r) | none => none
    | _ => none
  | .call { callee := .builtin .max, args, argTypes := _ } => match evs G t args.toList with
    | some (.int k a :: l) => match maxD l a with | some r => some (.int k r) | none => none
    | _ => none
  | _ => none
def heavyD (cf : FuncId → List Value → Mem → Option (Value × Mem)) (t : Tmps) (m : Mem) : Op → Option (Value × Mem)
  | .store ty a x => match ev G t a, ev G t x with
    | some a, some v => match storeD P m ty v a with | some m' => some (undef, m') | none => none
    | _, _ => none
  | .mapUpdate ty x k v => match ev G t x, ev G t k, ev G t v with
    | some x, some k, some v => match mapUpdateD P K m ty x k v with | some m' => some (undef, m') | none => none
    | _, _, _ => none
  | .insert ty x k v => match ev G t x, ev G t k, ev G t v with
    | some x, some k, some v => match mapUpdateD P K m ty x k v with | some m' => some (undef, m') | none => none
    | _, _, _ => none
  | .convert src dst x => match ev G t x with | some v => convD P m src dst v | none => none
  | .call { callee := .builtin .append, args, argTypes } => match args.toList, argTypes.toList with
    | [s, x], [tS, tX] => match ev G t s, ev G t x with
      | some s, some x => appendD P m tS tX s x
      | _, _ => none
    | _, _ => none
  | .call { callee := .builtin .copy, args, argTypes } => match args.toList, argTypes.toList with
    | [s, x], [tS, _] => match ev G t s, ev G t x with
      | some s, some x => copyD P m tS s x
      | _, _ => none
    | _, _ => none
  | .call { callee := .value f, args, argTypes := _ } => match ev G t f, evs G t args.toList with
    | some (.func (.func g) first captured), some vs => cf g (first.toList ++ (vs ++ captured.toList)) m
    | _, _ => none
  | _ => none
def klass : Op → Nat
  | .alloc _ | .box .. | .buildSlice .. | .makeSlice .. | .makeMap .. => 1
  | .store .. | .mapUpdate .. | .insert .. | .convert .. => 2
  | .call { callee := .builtin .len, .. } | .call { callee := .builtin .min, .. } | .call { callee := .builtin .max, .. } => 0
  | .call _ => 2
  | _ => 0
def opD (cf : FuncId → List Value → Mem → Option (Value × Mem)) (t : Tmps) (m : Mem) (o : Op) : Option (Value × Mem) :=
  match klass o with
  | 0 => match quietD P K G t m o with | some v => some (v, m) | none => none
  | 1 => match allocD P G t o with | some (x, k) => some (k.val m.size, m.push x) | none => none
  | _ => heavyD P K G cf t m o
/-! ### regions, code, calls -/
def yieldD (ops : List Oper) (t : Tmps) (j : Nat) : Option Bool :=
  match ops[j]? with
  | some o => match o.dst with
    | some d => match t.at d with
      | .bool b => some b
      | _ => none
    | none => none
  | none => none
def dstOk (n : Nat) : Option Tmp → Bool
  | none => true
  | some d => decide (d < n)
def putD (t : Tmps) (dst : Option Tmp) (v : Value) : Tmps :=
  match dst with
  | none => t
  | some d => t.set d v
def opsD (cf : FuncId → List Value → Mem → Option (Value × Mem)) (n : Nat) (ops : List Oper) : List Oper → Tmps → Mem → Option (Tmps × Mem)
  | [], t, m => some (t, m)
  | o :: l, t, m => if dstOk n o.dst = true then
      (if Region.wanted o (yieldD ops t) = true then
        (match opD P K G cf t m o.op with
        | some (v, m') => opsD cf n ops l (putD t o.dst v) m'
        | none => none)
      else opsD cf n ops l (putD t o.dst undef) m) else none
inductive Ex where
  | normal
  | exit (id : Nat)
  | ret
def loopD (body : Tmps → Mem → Option (Ex × Tmps × Mem)) : Nat → Tmps → Mem → Option (Ex × Tmps × Mem)
  | 0, _, _ => none
  | k + 1, t, m => match body t m with
    | some (.normal, t', m') => loopD body k t' m'
    | r => r
def codeD (cf : FuncId → List Value → Mem → Option (Value × Mem)) (dr : List Oper → Tmps → Mem → Option (Tmps × Mem)) (n k : Nat) : Code → Tmps → Mem → Option (Ex × Tmps × Mem)
  | .skip, t, m => some (.normal, t, m)
  | .label _, t, m => some (.normal, t, m)
  | .region _ ops draw, t, m => match (cond draw (dr ops.toList t m) (opsD P K G cf n ops.toList ops.toList t m)) with
    | some (t', m') => some (.normal, t', m')
    | none => none
  | .seq a b, t, m => match codeD cf dr n k a t m with
    | some (.normal, t', m') => codeD cf dr n k b t' m'
    | r => r
  | .cond c x y, t, m => match ev G t c with
    | some (.bool true) => codeD cf dr n k x t m
    | some (.bool false) => codeD cf dr n k y t m
    | _ => none
  | .block id c, t, m => match codeD cf dr n k c t m with
    | some (.exit id', t', m') => if id' = id then some (.normal, t', m') else some (.exit id', t', m')
    | r => r
  | .loop c, t, m => loopD (codeD cf dr n k c) k t m
  | .exit id, t, m => some (.exit id, t, m)
  | .ret, t, m => some (.ret, t, m)
  | _, _, _ => none
def initT : Nat → List Value → Tmps
  | _, [] => .nil
  | i, v :: l => Tmps.set (initT (i + 1) l) i v
def resD (t : Tmps) (m : Mem) : List ResultVar → Option (List Value)
  | [] => some []
  | .tmp d :: l => match resD t m l with
    | some vs => some (t.at d :: vs)
    | none => none
  | .cell a ty :: l => match loadD P m ty (t.at a) with
    | some v => match resD t m l with
      | some vs => some (v :: vs)
      | none => none
    | none => none
def resV : List Value → Value
  | [v] => v
  | vs => .tuple vs.toArray
end
end Go.DI
namespace Go.DI
structure Loc where
  block : Nat
  base : Nat
  total : Nat
abbrev Ren := Nat → Option Loc
inductive VRel (ι : Ren) : Value → Value → Prop where
  | bool (b : Bool) : VRel ι (.bool b) (.bool b)
  | int (k : IntKind) (n : Int) : VRel ι (.int k n) (.int k n)
  | float (k : FloatKind) (n : Nat) : VRel ι (.float k n) (.float k n)
  | complex (k : FloatKind) (n r : Nat) : VRel ι (.complex k n r) (.complex k n r)
  | string (s : ByteArray) : VRel ι (.string s) (.string s)
  | nilFunc : VRel ι .nilFunc .nilFunc
  | nilIface : VRel ι .nilIface .nilIface
  | ptr0 : VRel ι (.pointer none) (.pointer none)
  | ptr (b off : Nat) (L : Loc) (h : ι b = some L) : VRel ι (.pointer (some ⟨b, off, none⟩)) (.pointer (some ⟨L.block, L.base + off, none⟩))
  | slc0 (n c : Nat) : VRel ι (.slice none n c) (.slice none n c)
  | slc (b off n c : Nat) (L : Loc) (h : ι b = some L) : VRel ι (.slice (some ⟨b, off, none⟩) n c) (.slice (some ⟨L.block, L.base + off, none⟩) n c)
  | loose (b off e n c c' : Nat) (L : Loc) (h : ι b = some L) (hc : c ≤ c') (ht : L.base + off + c' * e ≤ L.total) :
      VRel ι (.slice (some ⟨b, off, some e⟩) n c) (.slice (some ⟨L.block, L.base + off, none⟩) n c')
  | loose0 (b off e o' c' : Nat) (L : Loc) (h : ι b = some L) (ht : o' + c' * e ≤ L.total) :
      VRel ι (.slice (some ⟨b, off, some e⟩) 0 0) (.slice (some ⟨L.block, o', none⟩) 0 c')
  | empty (b off e : Nat) (a : Addr) : VRel ι (.slice (some ⟨b, off, some e⟩) 0 0) (.slice (some a) 0 0)
  | map0 : VRel ι (.map none) (.map none)
  | map (r : Nat) (L : Loc) (h : ι r = some L) : VRel ι (.map (some r)) (.map (some L.block))
  | func (fn : Fn) (a a' b b' : Array Value) (ha : a.size = a'.size) (hb : b.size = b'.size)
      (h : ∀ (i : Nat) (x y : Value), a[i]? = some x → a'[i]? = some y → VRel ι x y) (h' : ∀ (i : Nat) (x y : Value), b[i]? = some x → b'[i]? = some y → VRel ι x y) : VRel ι (.func fn a b) (.func fn a' b')
  | iface (t : TypeId) (v v' : Value) (h : VRel ι v v') : VRel ι (.iface t v) (.iface t v')
  | agg (a a' : Array Value) (ha : a.size = a'.size) (h : ∀ (i : Nat) (x y : Value), a[i]? = some x → a'[i]? = some y → VRel ι x y) : VRel ι (.agg a) (.agg a')
  | tuple (a a' : Array Value) (ha : a.size = a'.size) (h : ∀ (i : Nat) (x y : Value), a[i]? = some x → a'[i]? = some y → VRel ι x y) : VRel ι (.tuple a) (.tuple a')
def Ren.le (ι ι' : Ren) : Prop := ∀ b L, ι b = some L → ι' b = some L
theorem VRel.mono {ι ι' : Ren} (hι : ι.le ι') {v v' : Value} (h : VRel ι v v') : VRel ι' v v' := by
  induction h with
  | bool | int | float | complex | string | nilFunc | nilIface | ptr0 | slc0 | map0 => constructor
  | ptr b off L h => exact .ptr b off L (hι _ _ h)
  | slc b off n c L h => exact .slc b off n c L (hι _ _ h)
  | loose b off e n c c' L h hc ht => exact .loose b off e n c c' L (hι _ _ h) hc ht
  | loose0 b off e o' c' L h ht => exact .loose0 b off e o' c' L (hι _ _ h) ht
  | empty b off e a => exact .empty b off e a
  | map r L h => exact .map r L (hι _ _ h)
  | func fn a a' b b' ha hb h h' ih ih' => exact .func fn a a' b b' ha hb ih ih'
  | iface t v v' h ih => exact .iface t v v' ih
  | agg a a' ha h ih => exact .agg a a' ha ih
  | tuple a a' ha h ih => exact .tuple a a' ha ih
inductive LRel (R : Value → Value → Prop) : List Value → List Value → Prop where
  | nil : LRel R [] []
  | cons {x y : Value} {l l' : List Value} (h : R x y) (t : LRel R l l') : LRel R (x :: l) (y :: l')
theorem LRel.length {R : Value → Value → Prop} {l l' : List Value} (h : LRel R l l') : l.length = l'.length := by
  induction h with
  | nil => rfl
  | cons h t ih => simp [ih]
theorem LRel.get {R : Value → Value → Prop} {l l' : List Value} (h : LRel R l l') : ∀ {i : Nat} {x : Value}, l[i]? = some x → ∃ y, l'[i]? = some y ∧ R x y := by
  induction h with
  | nil => intro i x hx; simp at hx
  | cons h t ih =>
    intro i x hx
    cases i with
    | zero => simp at hx; subst hx; exact ⟨_, rfl, h⟩
    | succ i => simp at hx; obtain ⟨y, hy, hr⟩ := ih hx; exact ⟨y, by simpa using hy, hr⟩
theorem LRel.of_get {R : Value → Value → Prop} : ∀ {l l' : List Value}, l.length = l'.length → (∀ (i : Nat) (x y : Value), l[i]? = some x → l'[i]? = some y → R x y) → LRel R l l'
  | [], [], _, _ => .nil
  | x :: l, y :: l', hl, h => .cons (h 0 x y rfl rfl) (LRel.of_get (by simpa using hl) fun i x y hx hy => h (i + 1) x y (by simpa using hx) (by simpa using hy))
theorem LRel.mono {R R' : Value → Value → Prop} (hr : ∀ (x y : Value), R x y → R' x y) {l l' : List Value} (h : LRel R l l') : LRel R' l l' := by
  induction h with
  | nil => exact .nil
  | cons h t ih => exact .cons (hr _ _ h) ih
theorem LRel.append {R : Value → Value → Prop} {a a' b b' : List Value} (h : LRel R a a') (k : LRel R b b') : LRel R (a ++ b) (a' ++ b') := by
  induction h with
  | nil => exact k
  | cons h t ih => exact .cons h ih
theorem LRel.drop {R : Value → Value → Prop} {a a' : List Value} (h : LRel R a a') : ∀ n, LRel R (a.drop n) (a'.drop n) := by
  induction h with
  | nil => intro n; simp; exact .nil
  | cons h t ih => intro n; cases n with
    | zero => exact .cons h t
    | succ n => simpa using ih n
theorem LRel.take {R : Value → Value → Prop} {a a' : List Value} (h : LRel R a a') : ∀ n, LRel R (a.take n) (a'.take n) := by
  induction h with
  | nil => intro n; simp; exact .nil
  | cons h t ih => intro n; cases n with
    | zero => simp; exact .nil
    | succ n => simpa using .cons h (ih n)
theorem LRel.splice {R : Value → Value → Prop} {c c' v v' : List Value} (h : LRel R c c') (k : LRel R v v') (off : Nat) : LRel R (splice c off v) (splice c' off v') := by
  unfold DI.splice
  rw [k.length]
  exact (h.take _).append (k.append (h.drop _))
theorem LRel.all {R : Value → Value → Prop} {f : Value → Bool} (hf : ∀ (x y : Value), R x y → f x = f y) {l l' : List Value} (h : LRel R l l') : l.all f = l'.all f := by
  induction h with
  | nil => rfl
  | cons h t ih => simp [hf _ _ h, ih]
theorem LRel.refl {R : Value → Value → Prop} : ∀ (l : List Value), (∀ x ∈ l, R x x) → LRel R l l
  | [], _ => .nil
  | x :: l, h => .cons (h x (by simp)) (LRel.refl l fun y hy => h y (by simp [hy]))
abbrev VRels (ι : Ren) := LRel (VRel ι)
theorem VRels.mono {ι ι' : Ren} (hι : ι.le ι') {l l' : List Value} (h : VRels ι l l') : VRels ι' l l' := LRel.mono (fun _ _ h => h.mono hι) h
theorem VRels.of_arr {ι : Ren} {a a' : Array Value} (ha : a.size = a'.size) (h : ∀ (i : Nat) (x y : Value), a[i]? = some x → a'[i]? = some y → VRel ι x y) : VRels ι a.toList a'.toList :=
  LRel.of_get (by simpa using ha) fun i x y hx hy => h i x y (by simpa using hx) (by simpa using hy)
theorem VRels.arr {ι : Ren} {a a' : Array Value} (h : VRels ι a.toList a'.toList) : a.size = a'.size ∧ ∀ (i : Nat) (x y : Value), a[i]? = some x → a'[i]? = some y → VRel ι x y := by
  refine ⟨by simpa using h.length, fun i x y hx hy => ?_⟩
  obtain ⟨z, hz, hr⟩ := h.get (i := i) (x := x) (by simpa using hx)
  have hy' : a'.toList[i]? = some y := by simpa using hy
  rw [hz] at hy'
  cases hy'
  exact hr
theorem VRel.agg' {ι : Ren} {a a' : List Value} (h : VRels ι a a') : VRel ι (.agg a.toArray) (.agg a'.toArray) :=
  .agg _ _ (VRels.arr (a := a.toArray) (a' := a'.toArray) h).1 (VRels.arr (a := a.toArray) (a' := a'.toArray) h).2
theorem VRel.tuple' {ι : Ren} {a a' : List Value} (h : VRels ι a a') : VRel ι (.tuple a.toArray) (.tuple a'.toArray) :=
  .tuple _ _ (VRels.arr (a := a.toArray) (a' := a'.toArray) h).1 (VRels.arr (a := a.toArray) (a' := a'.toArray) h).2
theorem VRel.undef (ι : Ren) : VRel ι undef undef := .tuple _ _ rfl (by intro i x y h; simp at h)
theorem VRel.inv_int {ι : Ren} {k : IntKind} {n : Int} {v : Value} (h : VRel ι (.int k n) v) : v = .int k n := by cases h; rfl
theorem VRel.inv_bool {ι : Ren} {b : Bool} {v : Value} (h : VRel ι (.bool b) v) : v = .bool b := by cases h; rfl
theorem VRel.inv_agg {ι : Ren} {a : Array Value} {v : Value} (h : VRel ι (.agg a) v) : ∃ a', v = .agg a' ∧ VRels ι a.toList a'.toList := by
  cases h with | agg a a' ha h => exact ⟨a', rfl, VRels.of_arr ha h⟩
theorem VRel.inv_tuple {ι : Ren} {a : Array Value} {v : Value} (h : VRel ι (.tuple a) v) : ∃ a', v = .tuple a' ∧ VRels ι a.toList a'.toList := by
  cases h with | tuple a a' ha h => exact ⟨a', rfl, VRels.of_arr ha h⟩
theorem VRel.inv_func {ι : Ren} {fn : Fn} {a b : Array Value} {v : Value} (h : VRel ι (.func fn a b) v) : ∃ a' b', v = .func fn a' b' ∧ VRels ι a.toList a'.toList ∧ VRels ι b.toList b'.toList := by
  cases h with | func fn a a' b b' ha hb h h' => exact ⟨a', b', rfl, VRels.of_arr ha h, VRels.of_arr hb h'⟩
theorem VRel.inv_ptr {ι : Ren} {b off : Nat} {v : Value} (h : VRel ι (.pointer (some ⟨b, off, none⟩)) v) : ∃ L, ι b = some L ∧ v = .pointer (some ⟨L.block, L.base + off, none⟩) := by
  cases h with | ptr _ _ L h => exact ⟨L, h, rfl⟩
theorem bareV_rel (ι : Ren) {v : Value} (h : bareV v = true) : VRel ι v v := by
  unfold bareV at h
  split at h <;> first | constructor | (simp at h)
theorem constV_rel (ι : Ren) {v : Value} (h : constV v = true) : VRel ι v v := by
  unfold constV at h
  split at h
  · rename_i cs
    have := List.all_eq_true.1 h
    have hl : VRels ι cs.toList cs.toList := LRel.refl _ fun x hx => bareV_rel ι (this x hx)
    exact .agg _ _ hl.arr.1 hl.arr.2
  · rename_i cs
    have := List.all_eq_true.1 h
    have hl : VRels ι cs.toList cs.toList := LRel.refl _ fun x hx => bareV_rel ι (this x hx)
    exact .tuple _ _ hl.arr.1 hl.arr.2
  · exact bareV_rel ι h
theorem VRel.cells {ι : Ren} {v v' : Value} (h : VRel ι v v') : VRels ι v.cells.toList v'.cells.toList := by
  cases h <;> first | exact VRels.of_arr ‹_› ‹_› | exact .cons (by first | exact .empty _ _ _ _ | constructor; done | exact .ptr _ _ _ ‹_› | exact .slc _ _ _ _ _ ‹_› | exact .loose _ _ _ _ _ _ _ ‹_› ‹_› ‹_› | exact .loose0 _ _ _ _ _ _ ‹_› ‹_› | exact .map _ _ ‹_› | exact .func _ _ _ _ _ ‹_› ‹_› ‹_› ‹_› | exact .iface _ _ _ ‹_› | exact .tuple _ _ ‹_› ‹_›) .nil
theorem VRel.one {ι : Ren} {v v' : Value} (h : VRel ι v v') : one v = one v' := by cases h <;> rfl
/-! ### blocks -/
def Blk.own : Blk → Bool
  | .cells o _ => o
  | .map o _ _ => o
  | .siter _ _ => true
  | .none => false
def Blk.live : Blk → Prop
  | .none => False
  | _ => True
def ERel (ι : Ren) (e e' : MapEntry) : Prop := VRel ι e.key e'.key ∧ VRel ι e.val e'.val ∧ e.born = e'.born
inductive ERels (ι : Ren) : List MapEntry → List MapEntry → Prop where
  | nil : ERels ι [] []
  | cons {x y : MapEntry} {l l' : List MapEntry} (h : ERel ι x y) (t : ERels ι l l') : ERels ι (x :: l) (y :: l')
theorem ERels.mono {ι ι' : Ren} (hι : ι.le ι') {l l' : List MapEntry} (h : ERels ι l l') : ERels ι' l l' := by
  induction h with
  | nil => exact .nil
  | cons h t ih => exact .cons ⟨h.1.mono hι, h.2.1.mono hι, h.2.2⟩ ih
theorem ERels.length {ι : Ren} {l l' : List MapEntry} (h : ERels ι l l') : l.length = l'.length := by
  induction h with
  | nil => rfl
  | cons h t ih => simp [ih]
theorem ERels.append {ι : Ren} {a a' b b' : List MapEntry} (h : ERels ι a a') (k : ERels ι b b') : ERels ι (a ++ b) (a' ++ b') := by
  induction h with
  | nil => exact k
  | cons h t ih => exact .cons h ih
theorem ERels.get {ι : Ren} {l l' : List MapEntry} (h : ERels ι l l') : ∀ {i : Nat} {x : MapEntry}, l[i]? = some x → ∃ y, l'[i]? = some y ∧ ERel ι x y := by
  induction h with
  | nil => intro i x hx; simp at hx
  | cons h t ih =>
    intro i x hx
    cases i with
    | zero => simp at hx; subst hx; exact ⟨_, rfl, h⟩
    | succ i => simp at hx; obtain ⟨y, hy, hr⟩ := ih hx; exact ⟨y, by simpa using hy, hr⟩
def BlkRel (B0 : Nat) (ι : Ren) (x : Blk) (L : Loc) (w : World) : Prop :=
  match x with
  | .none => True
  | .cells own c => ∃ rc e fr, w.heap[L.block]? = some (.cells rc e fr) ∧ rc.size = L.total ∧ L.base + c.length ≤ L.total ∧
      (∀ i v, c[i]? = some v → ∃ v', rc[L.base + i]? = some v' ∧ VRel ι v v') ∧ (own = true → B0 ≤ L.block ∧ ∀ o, o < L.total → ¬ (fr.1 ≤ o ∧ o < fr.2))
  | .map own es clock => ∃ res, w.heap[L.block]? = some (.map res clock) ∧ ERels ι es res.toList ∧ (own = true → B0 ≤ L.block)
  | .siter s pos => w.heap[L.block]? = some (.stringIter s pos) ∧ L.base = 0 ∧ B0 ≤ L.block
theorem BlkRel.mono {B0 : Nat} {ι ι' : Ren} (hι : ι.le ι') {x : Blk} {L : Loc} {w w' : World} (hw : w'.heap[L.block]? = w.heap[L.block]?) (h : BlkRel B0 ι x L w) : BlkRel B0 ι' x L w' := by
  cases x with
  | none => trivial
  | cells own c =>
    obtain ⟨rc, e, fr, h1, h2, h3, h4, h5⟩ := h
    refine ⟨rc, e, fr, hw.trans h1, h2, h3, fun i v hv => ?_, h5⟩
    obtain ⟨v', hv', hr⟩ := h4 i v hv
    exact ⟨v', hv', hr.mono hι⟩
  | map own es clock => obtain ⟨res, h1, h2, h3⟩ := h; exact ⟨res, hw.trans h1, h2.mono hι, h3⟩
  | siter s pos => exact ⟨hw.trans h.1, h.2⟩
theorem BlkRel.own_floor {B0 : Nat} {ι : Ren} {x : Blk} {L : Loc} {w : World} (h : BlkRel B0 ι x L w) (ho : x.own = true) : B0 ≤ L.block := by
  cases x with
  | none => simp [Blk.own] at ho
  | cells own c => obtain ⟨rc, e, fr, h1, h2, h3, h4, h5⟩ := h; exact (h5 ho).1
  | map own es clock => obtain ⟨res, h1, h2, h3⟩ := h; exact h3 ho
  | siter s pos => exact h.2.2
structure Rel (B0 G : Nat) (ι : Ren) (m : Mem) (w : World) : Prop where
  blk : ∀ b L, b < m.size → ι b = some L → BlkRel B0 ι (m.get b) L w
  inj : ∀ b₁ b₂ L₁ L₂, b₁ < m.size → b₂ < m.size → ι b₁ = some L₁ → ι b₂ = some L₂ → (m.get b₁).live → (m.get b₂).live → B0 ≤ L₁.block → L₁.block = L₂.block → b₁ = b₂
  floor : B0 ≤ w.heap.size
  glob : ∀ g, g < G → ∃ L, ι g = some L ∧ L.block = g ∧ L.base = 0
  top : ∀ b, m.size ≤ b → m.get b = .none
theorem BlkRel.lt {B0 : Nat} {ι : Ren} {x : Blk} {L : Loc} {w : World} (h : BlkRel B0 ι x L w) (hl : x.live) : L.block < w.heap.size := by
  have key : ∀ o : Obj, w.heap[L.block]? = some o → L.block < w.heap.size := fun o ho => (Array.getElem?_eq_some_iff.1 ho).1
  cases x with
  | none => exact hl.elim
  | cells own c => obtain ⟨rc, e, fr, h1, _⟩ := h; exact key _ h1
  | map own es clock => obtain ⟨res, h1, _⟩ := h; exact key _ h1
  | siter s pos => exact key _ h.1
theorem BlkRel.monoL {B0 : Nat} {ι ι' : Ren} (hι : ι.le ι') {x : Blk} {L : Loc} {w w' : World} (hw : x.live → w'.heap[L.block]? = w.heap[L.block]?) (h : BlkRel B0 ι x L w) : BlkRel B0 ι' x L w' := by
  by_cases hl : x.live
  · exact h.mono hι (hw hl)
  · cases x with
    | none => trivial
    | cells own c => exact absurd trivial hl
    | map own es clock => exact absurd trivial hl
    | siter s pos => exact absurd trivial hl
theorem Rel.old {B0 G : Nat} {ι : Ren} {m : Mem} {w : World} (h : Rel B0 G ι m w) (b : Nat) (L : Loc) (hL : ι b = some L) (hl : (m.get b).live) : L.block < w.heap.size := by
  rcases Nat.lt_or_ge b m.size with hb | hb
  · exact (h.blk b L hb hL).lt hl
  · rw [h.top b hb] at hl; exact hl.elim
structure Stp (ι ι' : Ren) (m m' : Mem) (w w' : World) : Prop where
  ext : ι.le ι'
  out : ∀ b, b < m.size ∨ m'.size ≤ b → ι' b = ι b
  os : w'.os = w.os
  output : w'.output = w.output
  tape : w'.tape = w.tape
  hsize : w.heap.size ≤ w'.heap.size
  frame : ∀ B, B < w.heap.size → (∀ b L, b < m.size → ι b = some L → (m.get b).own = true → L.block ≠ B) → w'.heap[B]? = w.heap[B]?
  new : ∀ b L, m.size ≤ b → b < m'.size → ι' b = some L → w.heap.size ≤ L.block ∨ ∃ b0 L0, b0 < m.size ∧ ι b0 = some L0 ∧ (m.get b0).own = true ∧ L0.block = L.block
  msize : m.size ≤ m'.size
  ownk : ∀ b, b < m.size → (m'.get b).own = true → (m.get b).own = true
theorem Stp.refl (ι : Ren) (m : Mem) (w : World) : Stp ι ι m m w w :=
  ⟨fun _ _ h => h, fun _ _ => rfl, rfl, rfl, rfl, Nat.le_refl _, fun _ _ _ => rfl, fun b L h1 h2 => by omega, Nat.le_refl _, fun _ _ h => h⟩
theorem Stp.trans {ι ι₁ ι₂ : Ren} {m m₁ m₂ : Mem} {w w₁ w₂ : World} (h : Stp ι ι₁ m m₁ w w₁) (k : Stp ι₁ ι₂ m₁ m₂ w₁ w₂) : Stp ι ι₂ m m₂ w w₂ := by
  have hm := h.msize
  have km := k.msize
  refine ⟨fun b L hb => k.ext _ _ (h.ext _ _ hb), fun b hb => ?_, k.os.trans h.os, k.output.trans h.output, k.tape.trans h.tape, Nat.le_trans h.hsize k.hsize, fun B hB hn => ?_, fun b L h1 h2 hb => ?_, Nat.le_trans hm km, fun b hb ho => h.ownk b hb (k.ownk b (by omega) ho)⟩
  · rw [k.out b (by omega), h.out b (by omega)]
  · have e1 := h.frame B hB hn
    rw [k.frame B (Nat.lt_of_lt_of_le hB h.hsize) ?_, e1]
    intro b L hb hL ho
    rcases Nat.lt_or_ge b m.size with hlt | hge
    · rw [h.out b (.inl hlt)] at hL
      exact hn b L hlt hL (h.ownk b hlt ho)
    · rcases h.new b L hge hb hL with h1 | ⟨b0, L0, g1, g2, g3, g4⟩
      · omega
      · rw [← g4]; exact hn b0 L0 g1 g2 g3
  · rcases Nat.lt_or_ge b m₁.size with hlt | hge
    · rw [k.out b (.inl hlt)] at hb
      exact h.new b L h1 hlt hb
    · rcases k.new b L hge h2 hb with g | ⟨b0, L0, g1, g2, g3, g4⟩
      · exact .inl (Nat.le_trans h.hsize g)
      · rcases Nat.lt_or_ge b0 m.size with hlt | hge'
        · rw [h.out b0 (.inl hlt)] at g2
          exact .inr ⟨b0, L0, hlt, g2, h.ownk b0 hlt g3, g4⟩
        · rcases h.new b0 L0 hge' g1 g2 with g | ⟨b1, L1, k1, k2, k3, k4⟩
          · exact .inl (g4 ▸ g)
          · exact .inr ⟨b1, L1, k1, k2, k3, k4.trans g4⟩
theorem Stp.below {B0 G : Nat} {ι ι' : Ren} {m m' : Mem} {w w' : World} (h : Stp ι ι' m m' w w') (hr : Rel B0 G ι m w) : ∀ B, B < B0 → w'.heap[B]? = w.heap[B]? :=
  fun B hB => h.frame B (Nat.lt_of_lt_of_le hB hr.floor) fun b L hb hL ho e => by
    have := (hr.blk b L hb hL).own_floor ho
    omega
def TRel (ι : Ren) (n : Nat) (t : Tmps) (a : Act) : Prop := a.tmps.size = n ∧ ∀ d, VRel ι (t.at d) (a.tmps.getD d undef)
theorem TRel.mono {ι ι' : Ren} (hι : ι.le ι') {n : Nat} {t : Tmps} {a : Act} (h : TRel ι n t a) : TRel ι' n t a := ⟨h.1, fun d => (h.2 d).mono hι⟩
theorem getD_setIfInBounds (a : Array Value) (d e : Nat) (v u : Value) : (a.setIfInBounds d v).getD e u = if e = d ∧ d < a.size then v else a.getD e u := by
  simp only [Array.getD_eq_getD_getElem?, Array.getElem?_setIfInBounds]
  by_cases h : d = e
  · subst h
    by_cases h2 : d < a.size
    · simp [h2]
    · simp [h2]
  · have : ¬ e = d := fun h' => h h'.symm
    simp [h, this]
theorem TRel.put {ι : Ren} {n : Nat} {t : Tmps} {a : Act} (h : TRel ι n t a) {d : Nat} (hd : d < n) {v v' : Value} (hv : VRel ι v v') : TRel ι n (t.set d v) (a.put (some d) v') := by
  refine ⟨by simp [Act.put, h.1], fun e => ?_⟩
  simp only [Act.put, getD_setIfInBounds, Tmps.at_set]
  by_cases he : e = d
  · subst he; simp [h.1, hd, hv]
  · simp [he]; simpa using h.2 e
theorem ev_rel {B0 G : Nat} {ι : Ren} {m : Mem} {w : World} (hr : Rel B0 G ι m w) {n : Nat} {t : Tmps} {a : Act} (h : TRel ι n t a) {x : Operand} {v : Value} (hx : ev G t x = some v) : VRel ι v (a.eval x) := by
  cases x with
  | tmp d => simp [ev] at hx; subst hx; exact h.2 d
  | const c =>
    simp only [ev] at hx
    cases hc : constV c with
    | false => simp [hc] at hx
    | true => simp [hc] at hx; subst hx; exact constV_rel ι hc
  | global g =>
    simp only [ev] at hx
    split at hx
    · rename_i hg
      obtain ⟨L, h1, h2, h3⟩ := hr.glob g hg
      simp at hx; subst hx
      have := VRel.ptr (ι := ι) g 0 L h1
      rw [h2, h3] at this
      exact this
    · simp at hx
  | func f => simp [ev] at hx; subst hx; exact .func _ _ _ _ _ rfl rfl (by intro i x y h; simp at h) (by intro i x y h; simp at h)
theorem evs_rel {B0 G : Nat} {ι : Ren} {m : Mem} {w : World} (hr : Rel B0 G ι m w) {n : Nat} {t : Tmps} {a : Act} (h : TRel ι n t a) : ∀ {l : List Operand} {vs : List Value}, evs G t l = some vs → VRels ι vs (l.map a.eval)
  | [], vs, hx => by simp [evs] at hx; subst hx; exact .nil
  | x :: l, vs, hx => by
    simp only [evs] at hx
    split at hx
    · rename_i v hv
      split at hx
      · rename_i us hus
        simp at hx; subst hx
        exact .cons (ev_rel hr h hv) (evs_rel hr h hus)
      · simp at hx
    · simp at hx
end Go.DI
