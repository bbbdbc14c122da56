/-
  DiTree: a finite map by numbers (a trie with buckets): what the deterministic interpreter's memory and frames are made of.
-/
import Derived.Orders
import Derived.Below
import Derived.Laws.Sem
set_option linter.all false
set_option linter.unusedVariables false
set_option linter.unusedSimpArgs false
namespace Go.DI
inductive Tr (α : Type) where
  | nil
  | bucket (l : List (Nat × α))
  | node (l r : Tr α)
def Tr.look {α : Type} (k : Nat) : List (Nat × α) → Option α
  | [] => none
  | (j, v) :: l => cond (Nat.beq j k) (some v) (Tr.look k l)
def Tr.upd {α : Type} (k : Nat) (v : α) : List (Nat × α) → List (Nat × α)
  | [] => [(k, v)]
  | (j, u) :: l => cond (Nat.beq j k) ((k, v) :: l) ((j, u) :: Tr.upd k v l)
def Tr.get {α : Type} : Tr α → Nat → Nat → Option α
  | .nil, _, _ => none
  | .bucket l, _, k => Tr.look k l
  | .node l r, p, k => cond (Nat.beq (p % 2) 0) (Tr.get l (p / 2) k) (Tr.get r (p / 2) k)
def Tr.new {α : Type} : Nat → Nat → Nat → α → Tr α
  | 0, _, k, v => .bucket [(k, v)]
  | d + 1, p, k, v => cond (Nat.beq (p % 2) 0) (.node (Tr.new d (p / 2) k v) .nil) (.node .nil (Tr.new d (p / 2) k v))
def Tr.put {α : Type} : Tr α → Nat → Nat → Nat → α → Tr α
  | .nil, d, p, k, v => Tr.new d p k v
  | .bucket l, _, _, k, v => .bucket (Tr.upd k v l)
  | .node l r, d, p, k, v => cond (Nat.beq (p % 2) 0) (.node (Tr.put l (d - 1) (p / 2) k v) r) (.node l (Tr.put r (d - 1) (p / 2) k v))
theorem beq_ne {a b : Nat} (h : a ≠ b) : Nat.beq a b = false := by
  cases hb : Nat.beq a b with
  | false => rfl
  | true => exact absurd (Nat.eq_of_beq_eq_true hb) h
theorem Tr.look_upd {α : Type} (k j : Nat) (v : α) (l : List (Nat × α)) : Tr.look j (Tr.upd k v l) = if j = k then some v else Tr.look j l := by
  induction l with
  | nil =>
    simp only [Tr.upd, Tr.look]
    by_cases h : j = k
    · subst h; simp
    · simp [beq_ne (Ne.symm h), h]
  | cons x l ih =>
    obtain ⟨i, u⟩ := x
    simp only [Tr.upd]
    cases hb : Nat.beq i k with
    | true =>
      have hik := Nat.eq_of_beq_eq_true hb
      subst hik
      simp only [cond_true, Tr.look]
      by_cases h : j = i
      · subst h; simp
      · simp [beq_ne (Ne.symm h), h]
    | false =>
      simp only [cond_false, Tr.look, ih]
      by_cases h : j = k
      · subst h; simp [hb]
      · simp [h]
theorem Tr.get_new_same {α : Type} (k : Nat) (v : α) : ∀ (d p : Nat), Tr.get (Tr.new d p k v) p k = some v
  | 0, p => by simp [Tr.new, Tr.get, Tr.look]
  | d + 1, p => by
    have ih := Tr.get_new_same k v d (p / 2)
    simp only [Tr.new]
    cases hb : Nat.beq (p % 2) 0 <;> simp only [cond_true, cond_false, Tr.get, hb, ih]
theorem Tr.get_put_same {α : Type} (k : Nat) (v : α) : ∀ (t : Tr α) (d p : Nat), Tr.get (Tr.put t d p k v) p k = some v
  | .nil, d, p => Tr.get_new_same k v d p
  | .bucket l, d, p => by simp [Tr.put, Tr.get, Tr.look_upd]
  | .node l r, d, p => by
    have il := Tr.get_put_same k v l (d - 1) (p / 2)
    have ir := Tr.get_put_same k v r (d - 1) (p / 2)
    simp only [Tr.put]
    cases hb : Nat.beq (p % 2) 0 <;> simp only [cond_true, cond_false, Tr.get, hb, il, ir]
theorem Tr.get_nil {α : Type} (p k : Nat) : Tr.get (.nil : Tr α) p k = none := rfl
theorem Tr.get_new_ne {α : Type} (k j : Nat) (h : j ≠ k) (v : α) : ∀ (d p q : Nat), Tr.get (Tr.new d p k v) q j = none
  | 0, p, q => by simp [Tr.new, Tr.get, Tr.look, beq_ne (Ne.symm h)]
  | d + 1, p, q => by
    have ih := Tr.get_new_ne k j h v d (p / 2) (q / 2)
    simp only [Tr.new]
    cases hb : Nat.beq (p % 2) 0 <;> cases hc : Nat.beq (q % 2) 0 <;> simp only [cond_true, cond_false, Tr.get, hc, ih]
theorem Tr.get_put_ne {α : Type} (k j : Nat) (h : j ≠ k) (v : α) : ∀ (t : Tr α) (d p q : Nat), Tr.get (Tr.put t d p k v) q j = Tr.get t q j
  | .nil, d, p, q => Tr.get_new_ne k j h v d p q
  | .bucket l, d, p, q => by simp [Tr.put, Tr.get, Tr.look_upd, h]
  | .node l r, d, p, q => by
    have il := Tr.get_put_ne k j h v l (d - 1) (p / 2) (q / 2)
    have ir := Tr.get_put_ne k j h v r (d - 1) (p / 2) (q / 2)
    simp only [Tr.put]
    cases hb : Nat.beq (p % 2) 0 <;> cases hc : Nat.beq (q % 2) 0 <;> simp only [cond_true, cond_false, Tr.get, hc, il, ir]
theorem Tr.get_put {α : Type} (k j : Nat) (v : α) (d : Nat) (t : Tr α) : Tr.get (Tr.put t d k k v) j j = if j = k then some v else Tr.get t j j := by
  by_cases h : j = k
  · subst h; simp [Tr.get_put_same]
  · simp [h, Tr.get_put_ne k j h]
abbrev Tmps := Tr Value
def Tmps.at (t : Tmps) (d : Nat) : Value := match Tr.get t d d with | some v => v | none => undef
def Tmps.set (t : Tmps) (d : Nat) (v : Value) : Tmps := Tr.put t 6 d d v
theorem Tmps.at_set (t : Tmps) (d e : Nat) (v : Value) : (t.set d v).at e = if e = d then v else t.at e := by
  simp only [Tmps.at, Tmps.set, Tr.get_put]
  by_cases h : e = d <;> simp [h]
theorem Tmps.at_set_same (t : Tmps) (d : Nat) (v : Value) : (t.set d v).at d = v := by simp [Tmps.at_set]
theorem Tmps.at_set_ne (t : Tmps) {d e : Nat} (h : e ≠ d) (v : Value) : (t.set d v).at e = t.at e := by simp [Tmps.at_set, h]
inductive Blk where
  | none
  | cells (own : Bool) (c : List Value)
  | map (own : Bool) (es : List MapEntry) (clock : Nat)
  | siter (s : ByteArray) (pos : Nat)
  deriving Inhabited
structure Mem where
  base : Nat → Blk
  tr : Tr Blk
  size : Nat
def Mem.get (m : Mem) (b : Nat) : Blk := match Tr.get m.tr b b with | some x => x | none => m.base b
def Mem.set (m : Mem) (b : Nat) (x : Blk) : Mem := { base := m.base, tr := Tr.put m.tr 10 b b x, size := m.size }
def Mem.push (m : Mem) (x : Blk) : Mem := { base := m.base, tr := Tr.put m.tr 10 m.size m.size x, size := m.size + 1 }
theorem Mem.get_set (m : Mem) (b j : Nat) (x : Blk) : (m.set b x).get j = if j = b then x else m.get j := by
  simp only [Mem.get, Mem.set, Tr.get_put]
  by_cases h : j = b <;> simp [h]
theorem Mem.get_push (m : Mem) (j : Nat) (x : Blk) : (m.push x).get j = if j = m.size then x else m.get j := by
  simp only [Mem.get, Mem.push, Tr.get_put]
  by_cases h : j = m.size <;> simp [h]
@[simp] theorem Mem.size_set (m : Mem) (b : Nat) (x : Blk) : (m.set b x).size = m.size := rfl
@[simp] theorem Mem.size_push (m : Mem) (x : Blk) : (m.push x).size = m.size + 1 := rfl
theorem Mem.get_set_same (m : Mem) (b : Nat) (x : Blk) : (m.set b x).get b = x := by simp [Mem.get_set]
theorem Mem.get_set_ne (m : Mem) {b j : Nat} (h : j ≠ b) (x : Blk) : (m.set b x).get j = m.get j := by simp [Mem.get_set, h]
theorem Mem.get_push_same (m : Mem) (x : Blk) : (m.push x).get m.size = x := by simp [Mem.get_push]
theorem Mem.get_push_ne (m : Mem) {j : Nat} (h : j ≠ m.size) (x : Blk) : (m.push x).get j = m.get j := by simp [Mem.get_push, h]
end Go.DI
namespace Go.DI
section
variable (P : Program) (K : TypeId → Bool) (G : Nat)
/-! ### types -/
def szOf (t : TypeId) : Option Nat := match P.info? t with | some i => some i.size | none => none
def bytesOf (t : TypeId) : Option Nat := match P.info? t with | some i => some i.bytes | none => none
def zeroOf (t : TypeId) : Option Value := match P.info? t with | some i => i.zero | none => none
def aggB (t : TypeId) : Option Bool := match P.underlying t with | some (.struct _) => some true | some (.array _ _) => some true | some _ => some false | none => none
def bareV : Value → Bool
  | .int .. | .bool _ | .string _ | .pointer none | .slice none 0 0 | .map none | .nilFunc | .nilIface => true
  | _ => false
def constV : Value → Bool
  | .agg cs => cs.toList.all bareV
  | .tuple cs => cs.toList.all bareV
  | v => bareV v
def ev (t : Tmps) : Operand → Option Value
  | .tmp d => some (t.at d)
  | .const v => cond (constV v) (some v) none
  | .global g => if g < G then some (.pointer (some ⟨g, 0, none⟩)) else none
  | .func f => some (.func (.func f) #[] #[])
def evs (t : Tmps) : List Operand → Option (List Value)
  | [] => some []
  | x :: l => match ev G t x with
    | some v => match evs t l with
      | some vs => some (v :: vs)
      | none => none
    | none => none
def part (t : TypeId) (cs : List Value) (off : Nat) : Option Value :=
  match aggB P t with
  | some true => match szOf P t with
    | some n => some (.agg ((cs.drop off).take n).toArray)
    | none => none
  | some false => cs[off]?
  | none => none
def one : Value → Bool
  | .agg _ | .tuple _ => false
  | _ => true
/-! ### memory -/
def loadC (m : Mem) (b off n : Nat) : Option (List Value) :=
  match m.get b with
  | .cells _ c => if off + n ≤ c.length then some ((c.drop off).take n) else none
  | _ => none
def splice (c : List Value) (off : Nat) (vs : List Value) : List Value := c.take off ++ (vs ++ c.drop (off + vs.length))
def storeC (m : Mem) (b off : Nat) (vs : List Value) : Option Mem :=
  match m.get b with
  | .cells true c => if off + vs.length ≤ c.length then (if vs.all one then some (m.set b (.cells true (splice c off vs))) else none) else none
  | _ => none
def loadD (m : Mem) (t : TypeId) : Value → Option Value
  | .pointer (some ⟨b, off, none⟩) => match aggB P t with
    | some true => match szOf P t with
      | some n => match loadC m b off n with
        | some c => some (.agg c.toArray)
        | none => none
      | none => none
    | some false => match m.get b with
      | .cells _ c => c[off]?
      | _ => none
    | none => none
  | _ => none
def shp (t : TypeId) (v : Value) : Bool :=
  match P.underlying t with
  | some (.int k) => (match v with | .int k' _ => decide (k = k') | _ => false)
  | some .bool => (match v with | .bool _ => true | _ => false)
  | some (.struct _) | some (.array _ _) => (match v with | .agg _ => true | _ => false)
  | _ => true
def shD (t : TypeId) : Option Value → Option Value
  | some v => cond (shp P t v) (some v) none
  | none => none
theorem shD_some {P : Program} {t : TypeId} {o : Option Value} {v : Value} (h : shD P t o = some v) : o = some v := by
  cases o with
  | none => simp [shD] at h
  | some u =>
    simp only [shD] at h
    cases hs : shp P t u <;> simp [hs] at h
    rw [h]
def storeD (m : Mem) (t : TypeId) (x : Value) : Value → Option Mem
  | .pointer (some ⟨b, off, none⟩) =>
    match szOf P t with
    | some n => if x.cells.toList.length = n then storeC m b off x.cells.toList else none
    | none => none
  | _ => none
/-! ### numbers, strings -/
def binInt (op : BinOp) (k : IntKind) (x y : Int) : Option Value :=
  match op with
  | .add => some (.int k (k.wrap (x + y)))
  | .sub => some (.int k (k.wrap (x - y)))
  | .mul => some (.int k (k.wrap (x * y)))
  | .quo => if y = 0 then none else some (.int k (k.wrap (x.tdiv y)))
  | .rem => if y = 0 then none else some (.int k (x.tmod y))
  | .and => some (.int k (k.wrap (BitVec.ofInt k.bits x &&& BitVec.ofInt k.bits y).toNat))
  | .or => some (.int k (k.wrap (BitVec.ofInt k.bits x ||| BitVec.ofInt k.bits y).toNat))
  | .xor => some (.int k (k.wrap (BitVec.ofInt k.bits x ^^^ BitVec.ofInt k.bits y).toNat))
  | .andNot => some (.int k (k.wrap (BitVec.ofInt k.bits x &&& ~~~ BitVec.ofInt k.bits y).toNat))
  | .eql => some (.bool (x == y))
  | .neq => some (.bool (x != y))
  | .lss => some (.bool (x < y))
  | .leq => some (.bool (x ≤ y))
  | .gtr => some (.bool (x > y))
  | .geq => some (.bool (x ≥ y))
  | _ => none
def shiftD (op : BinOp) (k : IntKind) (x y : Int) : Option Value :=
  if y < 0 then none else
  match op with
  | .shl => some (.int k (k.wrap (x * 2 ^ (min y.toNat k.bits))))
  | .shr => some (.int k (x.fdiv (2 ^ (min y.toNat k.bits))))
  | _ => none
def binStr (op : BinOp) (x y : ByteArray) : Option Value :=
  match op with
  | .add => if ((x.size + y.size : Nat) : Int) ≤ 9223372036854775807 then some (.string (x ++ y)) else none
  | .eql => some (.bool (x.toList == y.toList))
  | .neq => some (.bool !(x.toList == y.toList))
  | .lss => some (.bool (Op.bytesLess x.toList y.toList))
  | .leq => some (.bool (Op.bytesLess x.toList y.toList || x.toList == y.toList))
  | .gtr => some (.bool !(Op.bytesLess x.toList y.toList || x.toList == y.toList))
  | .geq => some (.bool !(Op.bytesLess x.toList y.toList))
  | _ => none
/-! ### equality -/
def feqL (f : Nat → Option Bool) : Nat → Nat → Option Bool
  | 0, _ => some true
  | n + 1, i => match f i with
    | some true => feqL f n (i + 1)
    | some false => some false
    | none => none
def feqF (g : TypeId → Nat → Option Bool) : List Field → Option Bool
  | [] => some true
  | f :: l => if f.name = "_" then none else match g f.type f.offset with
    | some true => feqF g l
    | some false => some false
    | none => none
def feq : Nat → TypeId → Value → Value → Option Bool
  | 0, _, _, _ => none
  | d + 1, t, x, y =>
    match P.underlying t with
    | some .bool => match x, y with | .bool a, .bool b => some (a == b) | _, _ => none
    | some (.int _) => match x, y with | .int k a, .int k' b => if k = k' then some (a == b) else none | _, _ => none
    | some .string => match x, y with | .string a, .string b => some (a == b) | _, _ => none
    | some (.pointer _) => match x, y with
      | .pointer none, .pointer b => some b.isNone
      | .pointer (some _), .pointer none => some false
      | _, _ => none
    | some (.slice _) => match x, y with
      | .slice none _ _, .slice b _ _ => some b.isNone
      | .slice (some _) _ _, .slice none _ _ => some false
      | _, _ => none
    | some (.map _ _) => match x, y with
      | .map none, .map b => some b.isNone
      | .map (some _), .map none => some false
      | _, _ => none
    | some (.func _ _ _) => match x, y with
      | .nilFunc, .nilFunc => some true
      | .nilFunc, .func _ _ _ => some false
      | .func _ _ _, .nilFunc => some false
      | _, _ => none
    | some (.struct fields) => match x, y with
      | .agg xs, .agg ys => if K t = true then feqF (fun u o => match part P u xs.toList o, part P u ys.toList o with | some a, some b => feq d u a b | _, _ => none) fields.toList else none
      | _, _ => none
    | some (.array len elem) => match x, y with
      | .agg xs, .agg ys => match szOf P elem with
        | some n => feqL (fun i => match part P elem xs.toList (i * n), part P elem ys.toList (i * n) with | some a, some b => feq d elem a b | _, _ => none) len 0
        | none => none
      | _, _ => none
    | _ => none
def eqD (op : BinOp) (t : TypeId) (x y : Value) : Option Value :=
  match op with
  | .eql => (match feq P K 100 t x y with | some r => some (.bool r) | none => none)
  | .neq => (match feq P K 100 t x y with | some r => some (.bool (!r)) | none => none)
  | _ => none
def shiftB : BinOp → Bool
  | .shl | .shr => true
  | _ => false
def binD (op : BinOp) (t : TypeId) (x y : Value) : Option Value :=
  match x with
  | .int k a => (match y with
    | .int k' b => cond (shiftB op) (shiftD op k a b) (if k = k' then binInt op k a b else none)
    | _ => none)
  | .string a => (match y with
    | .string b => binStr op a b
    | _ => none)
  | .agg xs => (match y with
    | .agg ys => if K t = true then eqD P K op t (.agg xs) (.agg ys) else none
    | _ => none)
  | .bool a => eqD P K op t (.bool a) y
  | .pointer a => eqD P K op t (.pointer a) y
  | .slice a n c => eqD P K op t (.slice a n c) y
  | .map a => eqD P K op t (.map a) y
  | .func f a b => eqD P K op t (.func f a b) y
  | .nilFunc => eqD P K op t .nilFunc y
  | _ => none
def unD (op : UnOp) : Value → Option Value
  | .int k n => match op with
    | .neg => some (.int k (k.wrap (0 - n)))
    | .xor => binInt .xor k (if k.signed then -1 else k.max) n
    | _ => none
  | .bool b => match op with | .not => some (.bool !b) | _ => none
  | _ => none
/-! ### slices -/
def boundD (y : Nat) : Option Value → Nat → Option Nat
  | none, d => some d
  | some (.int _ i), _ => if 0 ≤ i ∧ i ≤ (y : Int) then some i.toNat else none
  | some _, _ => none
def boundsD (len cap : Nat) (lo hi mx : Option Value) : Option (Nat × Nat × Nat) :=
  match mx, hi with
  | some _, none => none
  | _, _ =>
    match boundD cap mx cap with
    | some m => match boundD m hi len with
      | some h => match boundD h lo 0 with
        | some l => some (l, h, m)
        | none => none
      | none => none
    | none => none
def sliceD (t : TypeId) (x : Value) (lo hi mx : Option Value) : Option Value :=
  match P.underlying t with
  | some .string => match x with
    | .string s => match mx with
      | some _ => none
      | none => match boundsD s.size s.size lo hi none with
        | some (l, h, _) => some (.string (s.extract l h))
        | none => none
    | _ => none
  | some (.slice elem) => match x with
    | .slice none len cap => match boundsD len cap lo hi mx, szOf P elem with
      | some (l, h, m), some _ => some (.slice none (h - l) (m - l))
      | _, _ => none
    | .slice (some ⟨b, off, none⟩) len cap => match boundsD len cap lo hi mx, szOf P elem with
      | some (l, h, m), some size => some (.slice (some ⟨b, if m = l then off else off + l * size, none⟩) (h - l) (m - l))
      | _, _ => none
    | .slice (some ⟨b, off, some e⟩) len cap => match boundsD len cap lo hi mx, szOf P elem with
      | some (l, h, m), some size =>
        if size = e ∧ l ≤ h ∧ h ≤ m then
          (if mx.isSome then (if m = l then some (.slice (some ⟨b, off, some e⟩) 0 0) else some (.slice (some ⟨b, off + l * size, none⟩) (h - l) (m - l)))
           else some (.slice (some ⟨b, off + l * size, some e⟩) (h - l) (m - l)))
        else none
      | _, _ => none
    | _ => none
  | some (.array n elem) => match x with
    | .pointer (some ⟨b, off, none⟩) => match boundsD n n lo hi mx, szOf P elem with
      | some (l, h, m), some size => some (.slice (some ⟨b, if m = l then off else off + l * size, none⟩) (h - l) (m - l))
      | _, _ => none
    | _ => none
  | _ => none
def indexAddrD (t : TypeId) (x i : Value) : Option Value :=
  match i with
  | .int _ i => match P.underlying t with
    | some (.array len elem) => match x with
      | .pointer (some ⟨b, off, none⟩) => match szOf P elem with
        | some size => if 0 ≤ i ∧ i < (len : Int) then some (.pointer (some ⟨b, off + i.toNat * size, none⟩)) else none
        | none => none
      | _ => none
    | some (.slice elem) => match x with
      | .slice (some ⟨b, off, _⟩) len _ => match szOf P elem with
        | some size => if 0 ≤ i ∧ i < (len : Int) then some (.pointer (some ⟨b, off + i.toNat * size, none⟩)) else none
        | none => none
      | _ => none
    | _ => none
  | _ => none
def indexD (t : TypeId) (x i : Value) : Option Value :=
  match i with
  | .int _ i => match P.underlying t with
    | some (.array len elem) => match x with
      | .agg cs => match szOf P elem with
        | some size => if 0 ≤ i ∧ i < (len : Int) then part P elem cs.toList (i.toNat * size) else none
        | none => none
      | _ => none
    | some .string => match x with
      | .string s => if 0 ≤ i then (match s.data.toList[i.toNat]? with | some b => some (.int .u8 b.toNat) | none => none) else none
      | _ => none
    | _ => none
  | _ => none
def fieldAddrD (s : TypeId) (f : Nat) : Value → Option Value
  | .pointer (some ⟨b, off, none⟩) => match P.underlying s with
    | some (.struct fields) => match fields.toList[f]? with
      | some fd => match szOf P fd.type with
        | some n => if n = 0 then none else some (.pointer (some ⟨b, off + fd.offset, none⟩))
        | none => none
      | none => none
    | _ => none
  | _ => none
def fieldD (t : TypeId) (f : Nat) : Value → Option Value
  | .agg cs => match P.underlying t with
    | some (.struct fields) => match fields.toList[f]? with
      | some fd => part P fd.type cs.toList fd.offset
      | none => none
    | _ => none
  | _ => none
def lenD (m : Mem) (t : TypeId) (x : Value) : Option Value :=
  match P.underlying t with
  | some .string => match x with | .string s => some (.int .i64 s.size) | _ => none
  | some (.array n _) => some (.int .i64 n)
  | some (.slice _) => match x with | .slice _ n _ => some (.int .i64 n) | _ => none
  | some (.map _ _) => match x with
    | .map none => some (.int .i64 0)
    | .map (some r) => match m.get r with
      | .map _ es _ => some (.int .i64 es.length)
      | _ => none
    | _ => none
  | _ => none
def minD : List Value → Int → Option Int
  | [], a => some a
  | .int _ y :: l, a => minD l (if y < a then y else a)
  | _ :: _, _ => none
def maxD : List Value → Int → Option Int
  | [], a => some a
  | .int _ y :: l, a => maxD l (if y > a then y else a)
  | _ :: _, _ => none
/-! ### maps -/
def keyOkF (g : TypeId → Nat → Option Value) (h : TypeId → Value → Bool) : List Field → Bool
  | [] => true
  | f :: l => (match g f.type f.offset with | some v => h f.type v | none => false) && keyOkF g h l
def keyOkL (f : Nat → Bool) : Nat → Nat → Bool
  | 0, _ => true
  | n + 1, i => f i && keyOkL f n (i + 1)
def keyOk : Nat → TypeId → Value → Bool
  | 0, _, _ => false
  | d + 1, t, v =>
    match P.underlying t with
    | some (.interface _) => false
    | some (.array len elem) => match v with
      | .agg cs => match szOf P elem with
        | some n => keyOkL (fun i => match part P elem cs.toList (i * n) with | some u => keyOk d elem u | none => false) len 0
        | none => false
      | _ => false
    | some (.struct fields) => match v with
      | .agg cs => keyOkF (fun t o => part P t cs.toList o) (keyOk d) fields.toList
      | _ => false
    | some _ => true
    | none => false
def findD (kt : TypeId) (k : Value) : List MapEntry → Nat → Option (Option (Nat × Value))
  | [], _ => some none
  | e :: es, i => match feq P K 100 kt k e.key with
    | some true => some (some (i, e.val))
    | some false => findD kt k es (i + 1)
    | none => none
def entriesD (m : Mem) : Value → Option (List MapEntry)
  | .map none => some []
  | .map (some r) => match m.get r with
    | .map _ es _ => some es
    | _ => none
  | _ => none
def lookupD (m : Mem) (t : TypeId) (x k : Value) (ok : Bool) : Option Value :=
  match P.underlying t with
  | some (.map kt et) => match entriesD m x with
    | some es => if keyOk P 100 kt k = true then
        (match findD P K kt k es 0 with
        | some (some (_, v)) => cond (shp P et v) (some (cond ok (.tuple #[v, .bool true]) v)) none
        | some none => match zeroOf P et with
          | some z => if constV z = true then some (cond ok (.tuple #[z, .bool false]) z) else none
          | none => none
        | none => none) else none
    | none => none
  | _ => none
def modE (i : Nat) (k v : Value) : List MapEntry → List MapEntry
  | [] => []
  | e :: es => match i with
    | 0 => { e with key := k, val := v } :: es
    | i + 1 => e :: modE i k v es
def mapUpdateD (m : Mem) (t : TypeId) (x k v : Value) : Option Mem :=
  match P.underlying t with
  | some (.map kt _) => match x with
    | .map (some r) => match m.get r with
      | .map true es clock => if keyOk P 100 kt k = true then
          (match findD P K kt k es 0 with
          | some (some (i, _)) => match es[i]? with
            | some e => if Instr.sameBits 10000 e.key k = true then some (m.set r (.map true (modE i k v es) clock)) else none
            | none => none
          | some none => some (m.set r (.map true (es ++ [{ key := k, val := v, born := clock }]) (clock + 1)))
          | none => none) else none
      | _ => none
    | _ => none
  | _ => none
/-! ### making -/
def fillD (place : Nat → Option (Nat × Nat)) (cells : List Value) : List (Nat × Value) → Option (List Value)
  | [] => some cells
  | (i, v) :: rest => match place i with
    | none => none
    | some (off, size) => if v.cells.toList.length = size ∧ off + v.cells.toList.length ≤ cells.length then fillD place (splice cells off v.cells.toList) rest else none
def placeS (fields : List Field) (i : Nat) : Option (Nat × Nat) :=
  match fields[i]? with
  | some f => match szOf P f.type with
    | some n => some (f.offset, n)
    | none => none
  | none => none
def fieldsSized : List Field → Bool
  | [] => true
  | f :: l => (szOf P f.type).isSome && fieldsSized l
def buildD (t : TypeId) (parts : List (Nat × Value)) : Option Value :=
  match zeroOf P t with
  | some z => if constV z = true then
    (match P.underlying t with
    | some (.struct fields) => if fieldsSized P fields.toList = true then
        (match fillD (placeS P fields.toList) z.cells.toList parts with
        | some cs => some (.agg cs.toArray)
        | none => none) else none
    | some (.array _ elem) => match szOf P elem with
      | some size => match fillD (fun i => some (i * size, size)) z.cells.toList parts with
        | some cs => some (.agg cs.toArray)
        | none => none
      | none => none
    | _ => none) else none
  | none => none
def repl (z : List Value) : Nat → List Value
  | 0 => []
  | n + 1 => z ++ repl z n
def zerosD (e : TypeId) (n : Nat) : Option (List Value) :=
  match zeroOf P e, szOf P e with
  | some z, some size => if constV z = true ∧ z.cells.toList.length = size then some (repl z.cells.toList n) else none
  | _, _ => none
def evParts (t : Tmps) : List (Nat × Operand) → Option (List (Nat × Value))
  | [] => some []
  | (i, x) :: l => match ev G t x with
    | some v => match evParts t l with
      | some vs => some ((i, v) :: vs)
      | none => none
    | none => none
inductive Made where
  | ptr | slc (len cap : Nat) | mp | ext
def Made.val (b : Nat) : Made → Value
  | .ptr => .pointer (some ⟨b, 0, none⟩)
  | .slc len cap => .slice (some ⟨b, 0, none⟩) len cap
  | .mp => .map (some b)
  | .ext => .pointer (some ⟨b, 0, none⟩)
def allocD (t : Tmps) : Op → Option (Blk × Made)
  | .alloc e => match zeroOf P e with
    | some z => if constV z = true then some (.cells true z.cells.toList, .ptr) else none
    | none => none
  | .box _ x => match ev G t x with
    | some v => some (.cells true v.cells.toList, .ptr)
    | none => none
  | .buildSlice ty len parts => match P.underlying ty with
    | some (.slice e) => match szOf P e with
      | some size => if len * size ≤ 16777216 then
          (match zerosD P e len, evParts G t parts.toList with
          | some zs, some ps => match fillD (fun i => some (i * size, size)) zs ps with
            | some cs => some (.cells true cs, .slc len len)
            | none => none
          | _, _ => none) else none
      | none => none
    | _ => none
  | .makeSlice ty l c => match P.underlying ty with
    | some (.slice e) => match ev G t l, ev G t c, bytesOf P e with
      | some (.int .i64 l), some (.int .i64 c), some bytes =>
        if 0 ≤ l ∧ l ≤ c ∧ (bytes : Int) * c ≤ 281474976710656 ∧ c ≤ 9223372036854775807 then
          (match zerosD P e c.toNat with
          | some zs => some (.cells true zs, .slc l.toNat c.toNat)
          | none => none) else none
      | _, _, _ => none
    | _ => none
  | .makeMap ty r => match r with
    | none => some (.map true [] 0, .mp)
    | some x => match P.underlying ty, ev G t x with
      | some (.map _ _), some (.int _ _) => some (.map true [] 0, .mp)
      | _, _ => none
  | _ => none
def firstC (m : Mem) (size n : Nat) : Value → Option (List Value)
  | .slice (some ⟨b, off, _⟩) _ _ => loadC m b off (n * size)
  | .slice none _ _ => some []
  | .string s => if size = 1 then some ((s.data.toList.take n).map fun b => .int .u8 b.toNat) else none
  | _ => none
def lenOf : Value → Option Nat
  | .slice _ n _ => some n
  | .string s => some s.size
  | _ => none
def storeR (sp : Option Nat) (m : Mem) (b off : Nat) (vs : List Value) : Option Mem := match sp with | none => storeC m b off vs | some _ => none
theorem storeR_some {sp : Option Nat} {m m' : Mem} {b off : Nat} {vs : List Value} (h : storeR sp m b off vs = some m') : storeC m b off vs = some m' := by
  cases sp with
  | none => exact h
  | some _ => simp [storeR] at h
def appendD (m : Mem) (tS tX : TypeId) (s x : Value) : Option (Value × Mem) :=
  match P.underlying tS, P.underlying tX with
  | _, some (.int _) | _, none => none
  | some (.slice e), some _ => match s, szOf P e, bytesOf P e, lenOf x with
    | .slice base sLen sCap, some size, some bytes, some n =>
      if size = 0 then none else
      match firstC m size n x with
      | some new =>
        if sLen + n ≤ sCap then
          (match base with
          | none => if n = 0 then some (.slice none (sLen + n) sCap, m) else none
          | some ⟨b, off, sp⟩ => if n = 0 then some (.slice (some ⟨b, off, sp⟩) (sLen + n) sCap, m) else
            match storeR sp m b (off + sLen * size) new with
            | some m' => some (.slice (some ⟨b, off, sp⟩) (sLen + n) sCap, m')
            | none => none)
        else if (sLen + n) * bytes ≤ 140737488355328 ∧ (sLen + n : Nat) ≤ 4611686018427387904 ∧ 0 < bytes ∧ (zerosD P e 1).isSome = true then
          match firstC m size sLen s with
          | some old =>
            if (new.all one && old.all one) = true ∧ old.length = sLen * size ∧ new.length = n * size then
            (match base with
            | some ⟨b, _, some e'⟩ => if e' = size then
                (match m.get b with
                | .cells true _ => some (.slice (some ⟨m.size, 0, some size⟩) (sLen + n) (sLen + n), (m.push (.cells true (old ++ new))).set b .none)
                | _ => none)
              else none
            | _ => some (.slice (some ⟨m.size, 0, some size⟩) (sLen + n) (sLen + n), m.push (.cells true (old ++ new)))) else none
          | none => none
        else none
      | none => none
    | _, _, _, _ => none
  | _, _ => none
def copyD (m : Mem) (tD : TypeId) (d s : Value) : Option (Value × Mem) :=
  match P.underlying tD with
  | some (.slice e) => match d, szOf P e, lenOf s with
    | .slice base dLen _, some size, some sl =>
      if size = 0 then none else
      match firstC m size (Nat.min sl dLen) s with
      | some new => match base with
        | none => some (.int .i64 (Nat.min sl dLen : Nat), m)
        | some ⟨b, off, _⟩ => if Nat.min sl dLen = 0 then some (.int .i64 (Nat.min sl dLen : Nat), m) else
          match storeC m b off new with
          | some m' => some (.int .i64 (Nat.min sl dLen : Nat), m')
          | none => none
      | none => none
    | _, _, _ => none
  | _ => none
def byteOf : Value → Option UInt8
  | .int .u8 n => some (UInt8.ofNat n.toNat)
  | _ => none
def bytesIn : List Value → Option (List UInt8)
  | [] => some []
  | v :: l => match byteOf v with
    | some b => match bytesIn l with
      | some r => some (b :: r)
      | none => none
    | none => none
def convD (m : Mem) (src dst : TypeId) (x : Value) : Option (Value × Mem) :=
  match P.underlying src, P.underlying dst with
  | some _, some (.int k) => match x with | .int _ n => some (.int k (k.wrap n), m) | _ => none
  | some .string, some .string => match x with | .string s => some (.string s, m) | _ => none
  | some .string, some (.slice e) => match x, P.underlying e with
    | .string s, some (.int .u8) => some (.slice (some ⟨m.size, 0, some 1⟩) s.size s.size, m.push (.cells true (s.data.toList.map fun b => .int .u8 b.toNat)))
    | _, _ => none
  | some (.slice e), some .string => match P.underlying e with
    | some (.int .u8) => match x with
      | .slice none _ _ => some (.string .empty, m)
      | .slice (some ⟨b, off, _⟩) n _ => match loadC m b off n with
        | some c => match bytesIn c with
          | some l => some (.string ⟨l.toArray⟩, m)
          | none => none
        | none => none
      | _ => none
    | _ => none
  | _, _ => none
/-! ### one operation -/
def optEv (t : Tmps) : Option Operand → Option (Option Value)
  | none => some none
  | some x => match ev G t x with | some v => some (some v) | none => none
def quietD (t : Tmps) (m : Mem) : Op → Option Value
  | .move x | .assign x => ev G t x
  | .pick c a b => match ev G t c with
    | some (.bool true) => ev G t a
    | some (.bool false) => ev G t b
    | _ => none
  | .load ty a => match ev G t a with | some v => shD P ty (loadD P m ty v) | none => none
  | .nilCheck x => match ev G t x with
    | some (.pointer (some a)) => some (.pointer (some a))
    | some (.func (.func f) a b) => some (.func (.func f) a b)
    | _ => none
  | .binOp op ty x y _ => match ev G t x, ev G t y with
    | some a, some b => binD P K op ty a b
    | _, _ => none
  | .unOp op _ x => match ev G t x with | some v => unD op v | none => none
  | .makeFunc (.func f) first captured => match evs G t first.toList, evs G t captured.toList with
    | some a, some b => some (.func (.func f) a.toArray b.toArray)
    | _, _ => none
  | .fieldAddr s x f => match ev G t x with | some v => fieldAddrD P s f v | none => none
  | .field ty x f => match ev G t x with | some v => fieldD P ty f v | none => none
  | .indexAddr ty x i => match ev G t x, ev G t i with
    | some v, some i => indexAddrD P ty v i
    | _, _ => none
  | .index ty x i => match ev G t x, ev G t i with
    | some v, some i => indexD P ty v i
    | _, _ => none
  | .lookup ty x k ok => match ev G t x, ev G t k with
    | some v, some k => lookupD P K m ty v k ok
    | _, _ => none
  | .extract x i => match ev G t x with
    | some (.tuple vs) => vs.toList[i]?
    | _ => none
  | .build ty parts => match evParts G t parts.toList with
    | some ps => buildD P ty ps
    | none => none
  | .slice ty x lo hi mx => match ev G t x, optEv G t lo, optEv G t hi, optEv G t mx with
    | some v, some lo, some hi, some mx => sliceD P ty v lo hi mx
    | _, _, _, _ => none
  | .call { callee := .builtin .len, args, argTypes } => match args.toList, argTypes.toList with
    | [x], [ty] => match ev G t x with | some v => lenD P m ty v | none => none
    | _, _ => none
  | .call { callee := .builtin .min, args, argTypes := _ } => match evs G t args.toList with
    | some (.int k a :: l) => match minD l a with | some r => some (.int k r) | none => none
    | _ => none
  | .call { callee := .builtin .max, args, argTypes := _ } => match evs G t args.toList with
    | some (.int k a :: l) => match maxD l a with | some r => some (.int k r) | none => none
    | _ => none
  | _ => none
def heavyD (cf : FuncId → List Value → Mem → Option (Value × Mem)) (t : Tmps) (m : Mem) : Op → Option (Value × Mem)
  | .store ty a x => match ev G t a, ev G t x with
    | some a, some v => match storeD P m ty v a with | some m' => some (undef, m') | none => none
    | _, _ => none
  | .mapUpdate ty x k v => match ev G t x, ev G t k, ev G t v with
    | some x, some k, some v => match mapUpdateD P K m ty x k v with | some m' => some (undef, m') | none => none
    | _, _, _ => none
  | .insert ty x k v => match ev G t x, ev G t k, ev G t v with
    | some x, some k, some v => match mapUpdateD P K m ty x k v with | some m' => some (undef, m') | none => none
    | _, _, _ => none
  | .convert src dst x => match ev G t x with | some v => convD P m src dst v | none => none
  | .call { callee := .builtin .append, args, argTypes } => match args.toList, argTypes.toList with
    | [s, x], [tS, tX] => match ev G t s, ev G t x with
      | some s, some x => appendD P m tS tX s x
      | _, _ => none
    | _, _ => none
  | .call { callee := .builtin .copy, args, argTypes } => match args.toList, argTypes.toList with
    | [s, x], [tS, _] => match ev G t s, ev G t x with
      | some s, some x => copyD P m tS s x
      | _, _ => none
    | _, _ => none
  | .call { callee := .value f, args, argTypes := _ } => match ev G t f, evs G t args.toList with
    | some (.func (.func g) first captured), some vs => cf g (first.toList ++ (vs ++ captured.toList)) m
    | _, _ => none
  | _ => none
def klass : Op → Nat
  | .alloc _ | .box .. | .buildSlice .. | .makeSlice .. | .makeMap .. => 1
  | .store .. | .mapUpdate .. | .insert .. | .convert .. => 2
  | .call { callee := .builtin .len, .. } | .call { callee := .builtin .min, .. } | .call { callee := .builtin .max, .. } => 0
  | .call _ => 2
  | _ => 0
def opD (cf : FuncId → List Value → Mem → Option (Value × Mem)) (t : Tmps) (m : Mem) (o : Op) : Option (Value × Mem) :=
  match klass o with
  | 0 => match quietD P K G t m o with | some v => some (v, m) | none => none
  | 1 => match allocD P G t o with | some (x, k) => some (k.val m.size, m.push x) | none => none
  | _ => heavyD P K G cf t m o
/-! ### regions, code, calls -/
def yieldD (ops : List Oper) (t : Tmps) (j : Nat) : Option Bool :=
  match ops[j]? with
  | some o => match o.dst with
    | some d => match t.at d with
      | .bool b => some b
      | _ => none
    | none => none
  | none => none
def dstOk (n : Nat) : Option Tmp → Bool
  | none => true
  | some d => decide (d < n)
def putD (t : Tmps) (dst : Option Tmp) (v : Value) : Tmps :=
  match dst with
  | none => t
  | some d => t.set d v
def opsD (cf : FuncId → List Value → Mem → Option (Value × Mem)) (n : Nat) (ops : List Oper) : List Oper → Tmps → Mem → Option (Tmps × Mem)
  | [], t, m => some (t, m)
  | o :: l, t, m => if dstOk n o.dst = true then
      (if Region.wanted o (yieldD ops t) = true then
        (match opD P K G cf t m o.op with
        | some (v, m') => opsD cf n ops l (putD t o.dst v) m'
        | none => none)
      else opsD cf n ops l (putD t o.dst undef) m) else none
inductive Ex where
  | normal
  | exit (id : Nat)
  | ret
def loopD (body : Tmps → Mem → Option (Ex × Tmps × Mem)) : Nat → Tmps → Mem → Option (Ex × Tmps × Mem)
  | 0, _, _ => none
  | k + 1, t, m => match body t m with
    | some (.normal, t', m') => loopD body k t' m'
    | r => r
def codeD (cf : FuncId → List Value → Mem → Option (Value × Mem)) (dr : List Oper → Tmps → Mem → Option (Tmps × Mem)) (n k : Nat) : Code → Tmps → Mem → Option (Ex × Tmps × Mem)
  | .skip, t, m => some (.normal, t, m)
  | .label _, t, m => some (.normal, t, m)
  | .region _ ops draw, t, m => match (cond draw (dr ops.toList t m) (opsD P K G cf n ops.toList ops.toList t m)) with
    | some (t', m') => some (.normal, t', m')
    | none => none
  | .seq a b, t, m => match codeD cf dr n k a t m with
    | some (.normal, t', m') => codeD cf dr n k b t' m'
    | r => r
  | .cond c x y, t, m => match ev G t c with
    | some (.bool true) => codeD cf dr n k x t m
    | some (.bool false) => codeD cf dr n k y t m
    | _ => none
  | .block id c, t, m => match codeD cf dr n k c t m with
    | some (.exit id', t', m') => if id' = id then some (.normal, t', m') else some (.exit id', t', m')
    | r => r
  | .loop c, t, m => loopD (codeD cf dr n k c) k t m
  | .exit id, t, m => some (.exit id, t, m)
  | .ret, t, m => some (.ret, t, m)
  | _, _, _ => none
def initT : Nat → List Value → Tmps
  | _, [] => .nil
  | i, v :: l => Tmps.set (initT (i + 1) l) i v
def resD (t : Tmps) (m : Mem) : List ResultVar → Option (List Value)
  | [] => some []
  | .tmp d :: l => match resD t m l with
    | some vs => some (t.at d :: vs)
    | none => none
  | .cell a ty :: l => match loadD P m ty (t.at a) with
    | some v => match resD t m l with
      | some vs => some (v :: vs)
      | none => none
    | none => none
def resV : List Value → Value
  | [v] => v
  | vs => .tuple vs.toArray
end
end Go.DI
