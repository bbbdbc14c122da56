/-
  DiTree: a finite map by numbers (a trie with buckets): what the deterministic interpreter's memory and frames are made of.
-/
import Derived.Orders
import Derived.Below
import Derived.Laws.Sem
namespace Go.DI

inductive Tr (α : Type) where
  | nil
  | bucket (l : List (Nat × α))
  | node (l r : Tr α)

def Tr.look {α : Type} (k : Nat) : List (Nat × α) → Option α
  | [] => none
  | (j, v) :: l => cond (Nat.beq j k) (some v) (Tr.look k l)

def Tr.upd {α : Type} (k : Nat) (v : α) : List (Nat × α) → List (Nat × α)
  | [] => [(k, v)]
  | (j, u) :: l => cond (Nat.beq j k) ((k, v) :: l) ((j, u) :: Tr.upd k v l)

def Tr.get {α : Type} : Tr α → Nat → Nat → Option α
  | .nil, _, _ => none
  | .bucket l, _, k => Tr.look k l
  | .node l r, p, k => cond (Nat.beq (p % 2) 0) (Tr.get l (p / 2) k) (Tr.get r (p / 2) k)

def Tr.new {α : Type} : Nat → Nat → Nat → α → Tr α
  | 0, _, k, v => .bucket [(k, v)]
  | d + 1, p, k, v => cond (Nat.beq (p % 2) 0) (.node (Tr.new d (p / 2) k v) .nil) (.node .nil (Tr.new d (p / 2) k v))

def Tr.put {α : Type} : Tr α → Nat → Nat → Nat → α → Tr α
  | .nil, d, p, k, v => Tr.new d p k v
  | .bucket l, _, _, k, v => .bucket (Tr.upd k v l)
  | .node l r, d, p, k, v => cond (Nat.beq (p % 2) 0) (.node (Tr.put l (d - 1) (p / 2) k v) r) (.node l (Tr.put r (d - 1) (p / 2) k v))

theorem beq_ne {a b : Nat} (h : a ≠ b) : Nat.beq a b = false := by
  cases hb : Nat.beq a b with
  | false => rfl
  | true => exact absurd (Nat.eq_of_beq_eq_true hb) h

theorem Tr.look_upd {α : Type} (k j : Nat) (v : α) (l : List (Nat × α)) : Tr.look j (Tr.upd k v l) = if j = k then some v else Tr.look j l := by
  induction l with
  | nil =>
    simp only [Tr.upd, Tr.look]
    by_cases h : j = k
    · subst h; simp
    · simp [beq_ne (Ne.symm h), h]
  | cons x l ih =>
    obtain ⟨i, u⟩ := x
    simp only [Tr.upd]
    cases hb : Nat.beq i k with
    | true =>
      have hik := Nat.eq_of_beq_eq_true hb
      subst hik
      simp only [cond_true, Tr.look]
      by_cases h : j = i
      · subst h; simp
      · simp [beq_ne (Ne.symm h), h]
    | false =>
      simp only [cond_false, Tr.look, ih]
      by_cases h : j = k
      · subst h; simp [hb]
      · simp [h]

theorem Tr.get_new_same {α : Type} (k : Nat) (v : α) : ∀ (d p : Nat), Tr.get (Tr.new d p k v) p k = some v
  | 0, p => by simp [Tr.new, Tr.get, Tr.look]
  | d + 1, p => by
    have ih := Tr.get_new_same k v d (p / 2)
    simp only [Tr.new]
    cases hb : Nat.beq (p % 2) 0 <;> simp only [cond_true, cond_false, Tr.get, hb, ih]

theorem Tr.get_put_same {α : Type} (k : Nat) (v : α) : ∀ (t : Tr α) (d p : Nat), Tr.get (Tr.put t d p k v) p k = some v
  | .nil, d, p => Tr.get_new_same k v d p
  | .bucket l, d, p => by simp [Tr.put, Tr.get, Tr.look_upd]
  | .node l r, d, p => by
    have il := Tr.get_put_same k v l (d - 1) (p / 2)
    have ir := Tr.get_put_same k v r (d - 1) (p / 2)
    simp only [Tr.put]
    cases hb : Nat.beq (p % 2) 0 <;> simp only [cond_true, cond_false, Tr.get, hb, il, ir]

theorem Tr.get_nil {α : Type} (p k : Nat) : Tr.get (.nil : Tr α) p k = none := rfl

theorem Tr.get_new_ne {α : Type} (k j : Nat) (h : j ≠ k) (v : α) : ∀ (d p q : Nat), Tr.get (Tr.new d p k v) q j = none
  | 0, p, q => by simp [Tr.new, Tr.get, Tr.look, beq_ne (Ne.symm h)]
  | d + 1, p, q => by
    have ih := Tr.get_new_ne k j h v d (p / 2) (q / 2)
    simp only [Tr.new]
    cases hb : Nat.beq (p % 2) 0 <;> cases hc : Nat.beq (q % 2) 0 <;> simp only [cond_true, cond_false, Tr.get, hc, ih]

theorem Tr.get_put_ne {α : Type} (k j : Nat) (h : j ≠ k) (v : α) : ∀ (t : Tr α) (d p q : Nat), Tr.get (Tr.put t d p k v) q j = Tr.get t q j
  | .nil, d, p, q => Tr.get_new_ne k j h v d p q
  | .bucket l, d, p, q => by simp [Tr.put, Tr.get, Tr.look_upd, h]
  | .node l r, d, p, q => by
    have il := Tr.get_put_ne k j h v l (d - 1) (p / 2) (q / 2)
    have ir := Tr.get_put_ne k j h v r (d - 1) (p / 2) (q / 2)
    simp only [Tr.put]
    cases hb : Nat.beq (p % 2) 0 <;> cases hc : Nat.beq (q % 2) 0 <;> simp only [cond_true, cond_false, Tr.get, hc, il, ir]

theorem Tr.get_put {α : Type} (k j : Nat) (v : α) (d : Nat) (t : Tr α) : Tr.get (Tr.put t d k k v) j j = if j = k then some v else Tr.get t j j := by
  by_cases h : j = k
  · subst h; simp [Tr.get_put_same]
  · simp [h, Tr.get_put_ne k j h]

/-- A frame's slots. -/
abbrev Tmps := Tr Value
def Tmps.at (t : Tmps) (d : Nat) : Value := match Tr.get t d d with | some v => v | none => undef
def Tmps.set (t : Tmps) (d : Nat) (v : Value) : Tmps := Tr.put t 6 d d v
theorem Tmps.at_set (t : Tmps) (d e : Nat) (v : Value) : (t.set d v).at e = if e = d then v else t.at e := by
  simp only [Tmps.at, Tmps.set, Tr.get_put]
  by_cases h : e = d <;> simp [h]
theorem Tmps.at_set_same (t : Tmps) (d : Nat) (v : Value) : (t.set d v).at d = v := by simp [Tmps.at_set]
theorem Tmps.at_set_ne (t : Tmps) {d e : Nat} (h : e ≠ d) (v : Value) : (t.set d v).at e = t.at e := by simp [Tmps.at_set, h]

/-- A block of the memory. -/
inductive Blk where
  | none
  | cells (own : Bool) (c : List Value)
  | map (own : Bool) (es : List MapEntry) (clock : Nat)
  | siter (s : ByteArray) (pos : Nat)
  deriving Inhabited

structure Mem where
  base : Nat → Blk
  tr : Tr Blk
  size : Nat

def Mem.get (m : Mem) (b : Nat) : Blk := match Tr.get m.tr b b with | some x => x | none => m.base b
def Mem.set (m : Mem) (b : Nat) (x : Blk) : Mem := { base := m.base, tr := Tr.put m.tr 10 b b x, size := m.size }
def Mem.push (m : Mem) (x : Blk) : Mem := { base := m.base, tr := Tr.put m.tr 10 m.size m.size x, size := m.size + 1 }

theorem Mem.get_set (m : Mem) (b j : Nat) (x : Blk) : (m.set b x).get j = if j = b then x else m.get j := by
  simp only [Mem.get, Mem.set, Tr.get_put]
  by_cases h : j = b <;> simp [h]
theorem Mem.get_push (m : Mem) (j : Nat) (x : Blk) : (m.push x).get j = if j = m.size then x else m.get j := by
  simp only [Mem.get, Mem.push, Tr.get_put]
  by_cases h : j = m.size <;> simp [h]
@[simp] theorem Mem.size_set (m : Mem) (b : Nat) (x : Blk) : (m.set b x).size = m.size := rfl
@[simp] theorem Mem.size_push (m : Mem) (x : Blk) : (m.push x).size = m.size + 1 := rfl
theorem Mem.get_set_same (m : Mem) (b : Nat) (x : Blk) : (m.set b x).get b = x := by simp [Mem.get_set]
theorem Mem.get_set_ne (m : Mem) {b j : Nat} (h : j ≠ b) (x : Blk) : (m.set b x).get j = m.get j := by simp [Mem.get_set, h]
theorem Mem.get_push_same (m : Mem) (x : Blk) : (m.push x).get m.size = x := by simp [Mem.get_push]
theorem Mem.get_push_ne (m : Mem) {j : Nat} (h : j ≠ m.size) (x : Blk) : (m.push x).get j = m.get j := by simp [Mem.get_push, h]

end Go.DI
