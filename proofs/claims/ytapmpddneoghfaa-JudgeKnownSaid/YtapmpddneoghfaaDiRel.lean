/-
  DiRel: HOW THE INTERPRETER'S MEMORY STANDS TO THE MODEL's WORLD: blocks have other numbers there ('Ren'), a slice that an append made may have more room there.
-/
import Derived.Test.YtapmpddneoghfaaDiCore
namespace Go.DI

/-- Where a block lies in the world: its number there, its first cell, how many cells that block has. -/
structure Loc where
  block : Nat
  base : Nat
  total : Nat

abbrev Ren := Nat → Option Loc

inductive VRel (ι : Ren) : Value → Value → Prop where
  | bool (b : Bool) : VRel ι (.bool b) (.bool b)
  | int (k : IntKind) (n : Int) : VRel ι (.int k n) (.int k n)
  | float (k : FloatKind) (n : Nat) : VRel ι (.float k n) (.float k n)
  | complex (k : FloatKind) (n r : Nat) : VRel ι (.complex k n r) (.complex k n r)
  | string (s : ByteArray) : VRel ι (.string s) (.string s)
  | nilFunc : VRel ι .nilFunc .nilFunc
  | nilIface : VRel ι .nilIface .nilIface
  | ptr0 : VRel ι (.pointer none) (.pointer none)
  | ptr (b off : Nat) (L : Loc) (h : ι b = some L) : VRel ι (.pointer (some ⟨b, off, none⟩)) (.pointer (some ⟨L.block, L.base + off, none⟩))
  | slc0 (n c : Nat) : VRel ι (.slice none n c) (.slice none n c)
  | slc (b off n c : Nat) (L : Loc) (h : ι b = some L) : VRel ι (.slice (some ⟨b, off, none⟩) n c) (.slice (some ⟨L.block, L.base + off, none⟩) n c)
  | loose (b off e n c c' : Nat) (L : Loc) (h : ι b = some L) (hc : c ≤ c') (ht : L.base + off + c' * e ≤ L.total) :
      VRel ι (.slice (some ⟨b, off, some e⟩) n c) (.slice (some ⟨L.block, L.base + off, none⟩) n c')
  | loose0 (b off e o' c' : Nat) (L : Loc) (h : ι b = some L) (ht : o' + c' * e ≤ L.total) :
      VRel ι (.slice (some ⟨b, off, some e⟩) 0 0) (.slice (some ⟨L.block, o', none⟩) 0 c')
  | map0 : VRel ι (.map none) (.map none)
  | map (r : Nat) (L : Loc) (h : ι r = some L) : VRel ι (.map (some r)) (.map (some L.block))
  | func (fn : Fn) (a a' b b' : Array Value) (ha : a.size = a'.size) (hb : b.size = b'.size)
      (h : ∀ (i : Nat) (x y : Value), a[i]? = some x → a'[i]? = some y → VRel ι x y) (h' : ∀ (i : Nat) (x y : Value), b[i]? = some x → b'[i]? = some y → VRel ι x y) : VRel ι (.func fn a b) (.func fn a' b')
  | iface (t : TypeId) (v v' : Value) (h : VRel ι v v') : VRel ι (.iface t v) (.iface t v')
  | agg (a a' : Array Value) (ha : a.size = a'.size) (h : ∀ (i : Nat) (x y : Value), a[i]? = some x → a'[i]? = some y → VRel ι x y) : VRel ι (.agg a) (.agg a')
  | tuple (a a' : Array Value) (ha : a.size = a'.size) (h : ∀ (i : Nat) (x y : Value), a[i]? = some x → a'[i]? = some y → VRel ι x y) : VRel ι (.tuple a) (.tuple a')

def Ren.le (ι ι' : Ren) : Prop := ∀ b L, ι b = some L → ι' b = some L

theorem VRel.mono {ι ι' : Ren} (hι : ι.le ι') {v v' : Value} (h : VRel ι v v') : VRel ι' v v' := by
  induction h with
  | bool | int | float | complex | string | nilFunc | nilIface | ptr0 | slc0 | map0 => constructor
  | ptr b off L h => exact .ptr b off L (hι _ _ h)
  | slc b off n c L h => exact .slc b off n c L (hι _ _ h)
  | loose b off e n c c' L h hc ht => exact .loose b off e n c c' L (hι _ _ h) hc ht
  | loose0 b off e o' c' L h ht => exact .loose0 b off e o' c' L (hι _ _ h) ht
  | map r L h => exact .map r L (hι _ _ h)
  | func fn a a' b b' ha hb h h' ih ih' => exact .func fn a a' b b' ha hb ih ih'
  | iface t v v' h ih => exact .iface t v v' ih
  | agg a a' ha h ih => exact .agg a a' ha ih
  | tuple a a' ha h ih => exact .tuple a a' ha ih

/-- Lists of values, one by one. -/
inductive LRel (R : Value → Value → Prop) : List Value → List Value → Prop where
  | nil : LRel R [] []
  | cons {x y : Value} {l l' : List Value} (h : R x y) (t : LRel R l l') : LRel R (x :: l) (y :: l')

theorem LRel.length {R : Value → Value → Prop} {l l' : List Value} (h : LRel R l l') : l.length = l'.length := by
  induction h with
  | nil => rfl
  | cons h t ih => simp [ih]

theorem LRel.get {R : Value → Value → Prop} {l l' : List Value} (h : LRel R l l') : ∀ {i : Nat} {x : Value}, l[i]? = some x → ∃ y, l'[i]? = some y ∧ R x y := by
  induction h with
  | nil => intro i x hx; simp at hx
  | cons h t ih =>
    intro i x hx
    cases i with
    | zero => simp at hx; subst hx; exact ⟨_, rfl, h⟩
    | succ i => simp at hx; obtain ⟨y, hy, hr⟩ := ih hx; exact ⟨y, by simpa using hy, hr⟩

theorem LRel.of_get {R : Value → Value → Prop} : ∀ {l l' : List Value}, l.length = l'.length → (∀ (i : Nat) (x y : Value), l[i]? = some x → l'[i]? = some y → R x y) → LRel R l l'
  | [], [], _, _ => .nil
  | x :: l, y :: l', hl, h => .cons (h 0 x y rfl rfl) (LRel.of_get (by simpa using hl) fun i x y hx hy => h (i + 1) x y (by simpa using hx) (by simpa using hy))

theorem LRel.mono {R R' : Value → Value → Prop} (hr : ∀ (x y : Value), R x y → R' x y) {l l' : List Value} (h : LRel R l l') : LRel R' l l' := by
  induction h with
  | nil => exact .nil
  | cons h t ih => exact .cons (hr _ _ h) ih

theorem LRel.append {R : Value → Value → Prop} {a a' b b' : List Value} (h : LRel R a a') (k : LRel R b b') : LRel R (a ++ b) (a' ++ b') := by
  induction h with
  | nil => exact k
  | cons h t ih => exact .cons h ih

theorem LRel.drop {R : Value → Value → Prop} {a a' : List Value} (h : LRel R a a') : ∀ n, LRel R (a.drop n) (a'.drop n) := by
  induction h with
  | nil => intro n; simp; exact .nil
  | cons h t ih => intro n; cases n with
    | zero => exact .cons h t
    | succ n => simpa using ih n

theorem LRel.take {R : Value → Value → Prop} {a a' : List Value} (h : LRel R a a') : ∀ n, LRel R (a.take n) (a'.take n) := by
  induction h with
  | nil => intro n; simp; exact .nil
  | cons h t ih => intro n; cases n with
    | zero => simp; exact .nil
    | succ n => simpa using .cons h (ih n)

theorem LRel.splice {R : Value → Value → Prop} {c c' v v' : List Value} (h : LRel R c c') (k : LRel R v v') (off : Nat) : LRel R (splice c off v) (splice c' off v') := by
  unfold DI.splice
  rw [k.length]
  exact (h.take _).append (k.append (h.drop _))

theorem LRel.all {R : Value → Value → Prop} {f : Value → Bool} (hf : ∀ (x y : Value), R x y → f x = f y) {l l' : List Value} (h : LRel R l l') : l.all f = l'.all f := by
  induction h with
  | nil => rfl
  | cons h t ih => simp [hf _ _ h, ih]

theorem LRel.refl {R : Value → Value → Prop} : ∀ (l : List Value), (∀ x ∈ l, R x x) → LRel R l l
  | [], _ => .nil
  | x :: l, h => .cons (h x (by simp)) (LRel.refl l fun y hy => h y (by simp [hy]))

abbrev VRels (ι : Ren) := LRel (VRel ι)

theorem VRels.mono {ι ι' : Ren} (hι : ι.le ι') {l l' : List Value} (h : VRels ι l l') : VRels ι' l l' := LRel.mono (fun _ _ h => h.mono hι) h

theorem VRels.of_arr {ι : Ren} {a a' : Array Value} (ha : a.size = a'.size) (h : ∀ (i : Nat) (x y : Value), a[i]? = some x → a'[i]? = some y → VRel ι x y) : VRels ι a.toList a'.toList :=
  LRel.of_get (by simpa using ha) fun i x y hx hy => h i x y (by simpa using hx) (by simpa using hy)

theorem VRels.arr {ι : Ren} {a a' : Array Value} (h : VRels ι a.toList a'.toList) : a.size = a'.size ∧ ∀ (i : Nat) (x y : Value), a[i]? = some x → a'[i]? = some y → VRel ι x y := by
  refine ⟨by simpa using h.length, fun i x y hx hy => ?_⟩
  obtain ⟨z, hz, hr⟩ := h.get (i := i) (x := x) (by simpa using hx)
  have hy' : a'.toList[i]? = some y := by simpa using hy
  rw [hz] at hy'
  cases hy'
  exact hr

theorem VRel.agg' {ι : Ren} {a a' : List Value} (h : VRels ι a a') : VRel ι (.agg a.toArray) (.agg a'.toArray) :=
  .agg _ _ (VRels.arr (a := a.toArray) (a' := a'.toArray) h).1 (VRels.arr (a := a.toArray) (a' := a'.toArray) h).2
theorem VRel.tuple' {ι : Ren} {a a' : List Value} (h : VRels ι a a') : VRel ι (.tuple a.toArray) (.tuple a'.toArray) :=
  .tuple _ _ (VRels.arr (a := a.toArray) (a' := a'.toArray) h).1 (VRels.arr (a := a.toArray) (a' := a'.toArray) h).2
theorem VRel.undef (ι : Ren) : VRel ι undef undef := .tuple _ _ rfl (by intro i x y h; simp at h)

theorem VRel.inv_int {ι : Ren} {k : IntKind} {n : Int} {v : Value} (h : VRel ι (.int k n) v) : v = .int k n := by cases h; rfl
theorem VRel.inv_bool {ι : Ren} {b : Bool} {v : Value} (h : VRel ι (.bool b) v) : v = .bool b := by cases h; rfl
theorem VRel.inv_string {ι : Ren} {s : ByteArray} {v : Value} (h : VRel ι (.string s) v) : v = .string s := by cases h; rfl
theorem VRel.inv_agg {ι : Ren} {a : Array Value} {v : Value} (h : VRel ι (.agg a) v) : ∃ a', v = .agg a' ∧ VRels ι a.toList a'.toList := by
  cases h with | agg a a' ha h => exact ⟨a', rfl, VRels.of_arr ha h⟩
theorem VRel.inv_tuple {ι : Ren} {a : Array Value} {v : Value} (h : VRel ι (.tuple a) v) : ∃ a', v = .tuple a' ∧ VRels ι a.toList a'.toList := by
  cases h with | tuple a a' ha h => exact ⟨a', rfl, VRels.of_arr ha h⟩
theorem VRel.inv_func {ι : Ren} {fn : Fn} {a b : Array Value} {v : Value} (h : VRel ι (.func fn a b) v) : ∃ a' b', v = .func fn a' b' ∧ VRels ι a.toList a'.toList ∧ VRels ι b.toList b'.toList := by
  cases h with | func fn a a' b b' ha hb h h' => exact ⟨a', b', rfl, VRels.of_arr ha h, VRels.of_arr hb h'⟩
theorem VRel.inv_ptr {ι : Ren} {b off : Nat} {v : Value} (h : VRel ι (.pointer (some ⟨b, off, none⟩)) v) : ∃ L, ι b = some L ∧ v = .pointer (some ⟨L.block, L.base + off, none⟩) := by
  cases h with | ptr _ _ L h => exact ⟨L, h, rfl⟩

theorem bareV_rel (ι : Ren) {v : Value} (h : bareV v = true) : VRel ι v v := by
  unfold bareV at h
  split at h <;> first | constructor | (simp at h)

theorem constV_rel (ι : Ren) {v : Value} (h : constV v = true) : VRel ι v v := by
  unfold constV at h
  split at h
  · rename_i cs
    have := List.all_eq_true.1 h
    have hl : VRels ι cs.toList cs.toList := LRel.refl _ fun x hx => bareV_rel ι (this x hx)
    exact .agg _ _ hl.arr.1 hl.arr.2
  · rename_i cs
    have := List.all_eq_true.1 h
    have hl : VRels ι cs.toList cs.toList := LRel.refl _ fun x hx => bareV_rel ι (this x hx)
    exact .tuple _ _ hl.arr.1 hl.arr.2
  · exact bareV_rel ι h

theorem VRel.cells {ι : Ren} {v v' : Value} (h : VRel ι v v') : VRels ι v.cells.toList v'.cells.toList := by
  cases h <;> first | exact VRels.of_arr ‹_› ‹_› | exact .cons (by first | constructor; done | exact .ptr _ _ _ ‹_› | exact .slc _ _ _ _ _ ‹_› | exact .loose _ _ _ _ _ _ _ ‹_› ‹_› ‹_› | exact .loose0 _ _ _ _ _ _ ‹_› ‹_› | exact .map _ _ ‹_› | exact .func _ _ _ _ _ ‹_› ‹_› ‹_› ‹_› | exact .iface _ _ _ ‹_› | exact .tuple _ _ ‹_› ‹_›) .nil

theorem VRel.one {ι : Ren} {v v' : Value} (h : VRel ι v v') : one v = one v' := by cases h <;> rfl

/-! ### blocks -/
def Blk.own : Blk → Bool
  | .cells o _ => o
  | .map o _ _ => o
  | .siter _ _ => true
  | .none => false

def Blk.live : Blk → Prop
  | .none => False
  | _ => True

def ERel (ι : Ren) (e e' : MapEntry) : Prop := VRel ι e.key e'.key ∧ VRel ι e.val e'.val ∧ e.born = e'.born

inductive ERels (ι : Ren) : List MapEntry → List MapEntry → Prop where
  | nil : ERels ι [] []
  | cons {x y : MapEntry} {l l' : List MapEntry} (h : ERel ι x y) (t : ERels ι l l') : ERels ι (x :: l) (y :: l')

theorem ERels.mono {ι ι' : Ren} (hι : ι.le ι') {l l' : List MapEntry} (h : ERels ι l l') : ERels ι' l l' := by
  induction h with
  | nil => exact .nil
  | cons h t ih => exact .cons ⟨h.1.mono hι, h.2.1.mono hι, h.2.2⟩ ih
theorem ERels.length {ι : Ren} {l l' : List MapEntry} (h : ERels ι l l') : l.length = l'.length := by
  induction h with
  | nil => rfl
  | cons h t ih => simp [ih]
theorem ERels.append {ι : Ren} {a a' b b' : List MapEntry} (h : ERels ι a a') (k : ERels ι b b') : ERels ι (a ++ b) (a' ++ b') := by
  induction h with
  | nil => exact k
  | cons h t ih => exact .cons h ih
theorem ERels.get {ι : Ren} {l l' : List MapEntry} (h : ERels ι l l') : ∀ {i : Nat} {x : MapEntry}, l[i]? = some x → ∃ y, l'[i]? = some y ∧ ERel ι x y := by
  induction h with
  | nil => intro i x hx; simp at hx
  | cons h t ih =>
    intro i x hx
    cases i with
    | zero => simp at hx; subst hx; exact ⟨_, rfl, h⟩
    | succ i => simp at hx; obtain ⟨y, hy, hr⟩ := ih hx; exact ⟨y, by simpa using hy, hr⟩

/-- What a block of the interpreter's memory says of the world. -/
def BlkRel (B0 : Nat) (ι : Ren) (x : Blk) (L : Loc) (w : World) : Prop :=
  match x with
  | .none => True
  | .cells own c => ∃ rc e fr, w.heap[L.block]? = some (.cells rc e fr) ∧ rc.size = L.total ∧ L.base + c.length ≤ L.total ∧
      (∀ i v, c[i]? = some v → ∃ v', rc[L.base + i]? = some v' ∧ VRel ι v v') ∧ (own = true → B0 ≤ L.block ∧ ∀ o, o < L.total → ¬ (fr.1 ≤ o ∧ o < fr.2))
  | .map own es clock => ∃ res, w.heap[L.block]? = some (.map res clock) ∧ ERels ι es res.toList ∧ (own = true → B0 ≤ L.block)
  | .siter s pos => w.heap[L.block]? = some (.stringIter s pos) ∧ L.base = 0 ∧ B0 ≤ L.block

theorem BlkRel.mono {B0 : Nat} {ι ι' : Ren} (hι : ι.le ι') {x : Blk} {L : Loc} {w w' : World} (hw : w'.heap[L.block]? = w.heap[L.block]?) (h : BlkRel B0 ι x L w) : BlkRel B0 ι' x L w' := by
  cases x with
  | none => trivial
  | cells own c =>
    obtain ⟨rc, e, fr, h1, h2, h3, h4, h5⟩ := h
    refine ⟨rc, e, fr, hw.trans h1, h2, h3, fun i v hv => ?_, h5⟩
    obtain ⟨v', hv', hr⟩ := h4 i v hv
    exact ⟨v', hv', hr.mono hι⟩
  | map own es clock => obtain ⟨res, h1, h2, h3⟩ := h; exact ⟨res, hw.trans h1, h2.mono hι, h3⟩
  | siter s pos => exact ⟨hw.trans h.1, h.2⟩

theorem BlkRel.own_floor {B0 : Nat} {ι : Ren} {x : Blk} {L : Loc} {w : World} (h : BlkRel B0 ι x L w) (ho : x.own = true) : B0 ≤ L.block := by
  cases x with
  | none => simp [Blk.own] at ho
  | cells own c => obtain ⟨rc, e, fr, h1, h2, h3, h4, h5⟩ := h; exact (h5 ho).1
  | map own es clock => obtain ⟨res, h1, h2, h3⟩ := h; exact h3 ho
  | siter s pos => exact h.2.2

/-- The interpreter's memory m, as the world w holds it. -/
structure Rel (B0 G : Nat) (ι : Ren) (m : Mem) (w : World) : Prop where
  blk : ∀ b L, b < m.size → ι b = some L → BlkRel B0 ι (m.get b) L w
  inj : ∀ b₁ b₂ L₁ L₂, b₁ < m.size → b₂ < m.size → ι b₁ = some L₁ → ι b₂ = some L₂ → (m.get b₁).live → (m.get b₂).live → L₁.block = L₂.block → b₁ = b₂
  old : ∀ b L, ι b = some L → L.block < w.heap.size
  floor : B0 ≤ w.heap.size
  glob : ∀ g, g < G → ∃ L, ι g = some L ∧ L.block = g ∧ L.base = 0
  top : ∀ b, m.size ≤ b → m.get b = .none

/-- From one state to a later one. -/
structure Stp (ι ι' : Ren) (m m' : Mem) (w w' : World) : Prop where
  ext : ι.le ι'
  out : ∀ b, b < m.size ∨ m'.size ≤ b → ι' b = ι b
  os : w'.os = w.os
  output : w'.output = w.output
  tape : w'.tape = w.tape
  hsize : w.heap.size ≤ w'.heap.size
  frame : ∀ B, B < w.heap.size → (∀ b L, b < m.size → ι b = some L → (m.get b).own = true → L.block ≠ B) → w'.heap[B]? = w.heap[B]?
  new : ∀ b L, m.size ≤ b → b < m'.size → ι' b = some L → w.heap.size ≤ L.block ∨ ∃ b0 L0, b0 < m.size ∧ ι b0 = some L0 ∧ (m.get b0).own = true ∧ L0.block = L.block
  msize : m.size ≤ m'.size
  ownk : ∀ b, b < m.size → (m'.get b).own = true → (m.get b).own = true

theorem Stp.refl (ι : Ren) (m : Mem) (w : World) : Stp ι ι m m w w :=
  ⟨fun _ _ h => h, fun _ _ => rfl, rfl, rfl, rfl, Nat.le_refl _, fun _ _ _ => rfl, fun b L h1 h2 => by omega, Nat.le_refl _, fun _ _ h => h⟩

theorem Stp.trans {ι ι₁ ι₂ : Ren} {m m₁ m₂ : Mem} {w w₁ w₂ : World} (h : Stp ι ι₁ m m₁ w w₁) (k : Stp ι₁ ι₂ m₁ m₂ w₁ w₂) : Stp ι ι₂ m m₂ w w₂ := by
  have hm := h.msize
  have km := k.msize
  refine ⟨fun b L hb => k.ext _ _ (h.ext _ _ hb), fun b hb => ?_, k.os.trans h.os, k.output.trans h.output, k.tape.trans h.tape, Nat.le_trans h.hsize k.hsize, fun B hB hn => ?_, fun b L h1 h2 hb => ?_, Nat.le_trans hm km, fun b hb ho => h.ownk b hb (k.ownk b (by omega) ho)⟩
  · rw [k.out b (by omega), h.out b (by omega)]
  · have e1 := h.frame B hB hn
    rw [k.frame B (Nat.lt_of_lt_of_le hB h.hsize) ?_, e1]
    intro b L hb hL ho
    rcases Nat.lt_or_ge b m.size with hlt | hge
    · rw [h.out b (.inl hlt)] at hL
      exact hn b L hlt hL (h.ownk b hlt ho)
    · rcases h.new b L hge hb hL with h1 | ⟨b0, L0, g1, g2, g3, g4⟩
      · omega
      · rw [← g4]; exact hn b0 L0 g1 g2 g3
  · rcases Nat.lt_or_ge b m₁.size with hlt | hge
    · rw [k.out b (.inl hlt)] at hb
      exact h.new b L h1 hlt hb
    · rcases k.new b L hge h2 hb with g | ⟨b0, L0, g1, g2, g3, g4⟩
      · exact .inl (Nat.le_trans h.hsize g)
      · rcases Nat.lt_or_ge b0 m.size with hlt | hge'
        · rw [h.out b0 (.inl hlt)] at g2
          exact .inr ⟨b0, L0, hlt, g2, h.ownk b0 hlt g3, g4⟩
        · rcases h.new b0 L0 hge' g1 g2 with g | ⟨b1, L1, k1, k2, k3, k4⟩
          · exact .inl (g4 ▸ g)
          · exact .inr ⟨b1, L1, k1, k2, k3, k4.trans g4⟩

/-- Blocks of the world from B0 on alone are written. -/
theorem Stp.below {B0 G : Nat} {ι ι' : Ren} {m m' : Mem} {w w' : World} (h : Stp ι ι' m m' w w') (hr : Rel B0 G ι m w) : ∀ B, B < B0 → w'.heap[B]? = w.heap[B]? :=
  fun B hB => h.frame B (Nat.lt_of_lt_of_le hB hr.floor) fun b L hb hL ho e => by
    have := (hr.blk b L hb hL).own_floor ho
    omega

/-- A frame's slots. -/
def TRel (ι : Ren) (n : Nat) (t : Tmps) (a : Act) : Prop := a.tmps.size = n ∧ ∀ d, VRel ι (t.at d) (a.tmps.getD d undef)

theorem TRel.mono {ι ι' : Ren} (hι : ι.le ι') {n : Nat} {t : Tmps} {a : Act} (h : TRel ι n t a) : TRel ι' n t a := ⟨h.1, fun d => (h.2 d).mono hι⟩

theorem getD_setIfInBounds (a : Array Value) (d e : Nat) (v u : Value) : (a.setIfInBounds d v).getD e u = if e = d ∧ d < a.size then v else a.getD e u := by
  simp only [Array.getD_eq_getD_getElem?, Array.getElem?_setIfInBounds]
  by_cases h : d = e
  · subst h
    by_cases h2 : d < a.size
    · simp [h2]
    · simp [h2]
  · have : ¬ e = d := fun h' => h h'.symm
    simp [h, this]

theorem TRel.put {ι : Ren} {n : Nat} {t : Tmps} {a : Act} (h : TRel ι n t a) {d : Nat} (hd : d < n) {v v' : Value} (hv : VRel ι v v') : TRel ι n (t.set d v) (a.put (some d) v') := by
  refine ⟨by simp [Act.put, h.1], fun e => ?_⟩
  simp only [Act.put, getD_setIfInBounds, Tmps.at_set]
  by_cases he : e = d
  · subst he; simp [h.1, hd, hv]
  · simp [he]; simpa using h.2 e

theorem ev_rel {B0 G : Nat} {ι : Ren} {m : Mem} {w : World} (hr : Rel B0 G ι m w) {n : Nat} {t : Tmps} {a : Act} (h : TRel ι n t a) {x : Operand} {v : Value} (hx : ev G t x = some v) : VRel ι v (a.eval x) := by
  cases x with
  | tmp d => simp [ev] at hx; subst hx; exact h.2 d
  | const c =>
    simp only [ev] at hx
    cases hc : constV c with
    | false => simp [hc] at hx
    | true => simp [hc] at hx; subst hx; exact constV_rel ι hc
  | global g =>
    simp only [ev] at hx
    split at hx
    · rename_i hg
      obtain ⟨L, h1, h2, h3⟩ := hr.glob g hg
      simp at hx; subst hx
      have := VRel.ptr (ι := ι) g 0 L h1
      rw [h2, h3] at this
      exact this
    · simp at hx
  | func f => simp [ev] at hx; subst hx; exact .func _ _ _ _ _ rfl rfl (by intro i x y h; simp at h) (by intro i x y h; simp at h)

theorem evs_rel {B0 G : Nat} {ι : Ren} {m : Mem} {w : World} (hr : Rel B0 G ι m w) {n : Nat} {t : Tmps} {a : Act} (h : TRel ι n t a) : ∀ {l : List Operand} {vs : List Value}, evs G t l = some vs → VRels ι vs (l.map a.eval)
  | [], vs, hx => by simp [evs] at hx; subst hx; exact .nil
  | x :: l, vs, hx => by
    simp only [evs] at hx
    split at hx
    · rename_i v hv
      split at hx
      · rename_i us hus
        simp at hx; subst hx
        exact .cons (ev_rel hr h hv) (evs_rel hr h hus)
      · simp at hx
    · simp at hx
end Go.DI
