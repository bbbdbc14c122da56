/-
  DiRel: HOW THE INTERPRETER'S MEMORY STANDS TO THE MODEL's WORLD: blocks have other numbers there ('Ren'), a slice that an append made may have more room there.
-/
import Derived.Test.YtfpbiojnbffkpaaH00
import Derived.Laws.StructEq
import Derived.ChangeKeysEq
set_option linter.all false
set_option linter.unusedVariables false
set_option linter.unusedSimpArgs false
namespace Go.DI
structure Loc where
  block : Nat
  base : Nat
  total : Nat
abbrev Ren := Nat → Option Loc
inductive VRel (ι : Ren) : Value → Value → Prop where
  | bool (b : Bool) : VRel ι (.bool b) (.bool b)
  | int (k : IntKind) (n : Int) : VRel ι (.int k n) (.int k n)
  | float (k : FloatKind) (n : Nat) : VRel ι (.float k n) (.float k n)
  | complex (k : FloatKind) (n r : Nat) : VRel ι (.complex k n r) (.complex k n r)
  | string (s : ByteArray) : VRel ι (.string s) (.string s)
  | nilFunc : VRel ι .nilFunc .nilFunc
  | nilIface : VRel ι .nilIface .nilIface
  | ptr0 : VRel ι (.pointer none) (.pointer none)
  | ptr (b off : Nat) (L : Loc) (h : ι b = some L) : VRel ι (.pointer (some ⟨b, off, none⟩)) (.pointer (some ⟨L.block, L.base + off, none⟩))
  | slc0 (n c : Nat) : VRel ι (.slice none n c) (.slice none n c)
  | slc (b off n c : Nat) (L : Loc) (h : ι b = some L) : VRel ι (.slice (some ⟨b, off, none⟩) n c) (.slice (some ⟨L.block, L.base + off, none⟩) n c)
  | loose (b off e n c c' : Nat) (L : Loc) (h : ι b = some L) (hc : c ≤ c') (ht : L.base + off + c' * e ≤ L.total) :
      VRel ι (.slice (some ⟨b, off, some e⟩) n c) (.slice (some ⟨L.block, L.base + off, none⟩) n c')
  | loose0 (b off e o' c' : Nat) (L : Loc) (h : ι b = some L) (ht : o' + c' * e ≤ L.total) :
      VRel ι (.slice (some ⟨b, off, some e⟩) 0 0) (.slice (some ⟨L.block, o', none⟩) 0 c')
  | empty (b off e : Nat) (a : Addr) : VRel ι (.slice (some ⟨b, off, some e⟩) 0 0) (.slice (some a) 0 0)
  | map0 : VRel ι (.map none) (.map none)
  | map (r : Nat) (L : Loc) (h : ι r = some L) : VRel ι (.map (some r)) (.map (some L.block))
  | func (fn : Fn) (a a' b b' : Array Value) (ha : a.size = a'.size) (hb : b.size = b'.size)
      (h : ∀ (i : Nat) (x y : Value), a[i]? = some x → a'[i]? = some y → VRel ι x y) (h' : ∀ (i : Nat) (x y : Value), b[i]? = some x → b'[i]? = some y → VRel ι x y) : VRel ι (.func fn a b) (.func fn a' b')
  | iface (t : TypeId) (v v' : Value) (h : VRel ι v v') : VRel ι (.iface t v) (.iface t v')
  | agg (a a' : Array Value) (ha : a.size = a'.size) (h : ∀ (i : Nat) (x y : Value), a[i]? = some x → a'[i]? = some y → VRel ι x y) : VRel ι (.agg a) (.agg a')
  | tuple (a a' : Array Value) (ha : a.size = a'.size) (h : ∀ (i : Nat) (x y : Value), a[i]? = some x → a'[i]? = some y → VRel ι x y) : VRel ι (.tuple a) (.tuple a')
def Ren.le (ι ι' : Ren) : Prop := ∀ b L, ι b = some L → ι' b = some L
theorem VRel.mono {ι ι' : Ren} (hι : ι.le ι') {v v' : Value} (h : VRel ι v v') : VRel ι' v v' := by
  induction h with
  | bool | int | float | complex | string | nilFunc | nilIface | ptr0 | slc0 | map0 => constructor
  | ptr b off L h => exact .ptr b off L (hι _ _ h)
  | slc b off n c L h => exact .slc b off n c L (hι _ _ h)
  | loose b off e n c c' L h hc ht => exact .loose b off e n c c' L (hι _ _ h) hc ht
  | loose0 b off e o' c' L h ht => exact .loose0 b off e o' c' L (hι _ _ h) ht
  | empty b off e a => exact .empty b off e a
  | map r L h => exact .map r L (hι _ _ h)
  | func fn a a' b b' ha hb h h' ih ih' => exact .func fn a a' b b' ha hb ih ih'
  | iface t v v' h ih => exact .iface t v v' ih
  | agg a a' ha h ih => exact .agg a a' ha ih
  | tuple a a' ha h ih => exact .tuple a a' ha ih
inductive LRel (R : Value → Value → Prop) : List Value → List Value → Prop where
  | nil : LRel R [] []
  | cons {x y : Value} {l l' : List Value} (h : R x y) (t : LRel R l l') : LRel R (x :: l) (y :: l')
theorem LRel.length {R : Value → Value → Prop} {l l' : List Value} (h : LRel R l l') : l.length = l'.length := by
  induction h with
  | nil => rfl
  | cons h t ih => simp [ih]
theorem LRel.get {R : Value → Value → Prop} {l l' : List Value} (h : LRel R l l') : ∀ {i : Nat} {x : Value}, l[i]? = some x → ∃ y, l'[i]? = some y ∧ R x y := by
  induction h with
  | nil => intro i x hx; simp at hx
  | cons h t ih =>
    intro i x hx
    cases i with
    | zero => simp at hx; subst hx; exact ⟨_, rfl, h⟩
    | succ i => simp at hx; obtain ⟨y, hy, hr⟩ := ih hx; exact ⟨y, by simpa using hy, hr⟩
theorem LRel.of_get {R : Value → Value → Prop} : ∀ {l l' : List Value}, l.length = l'.length → (∀ (i : Nat) (x y : Value), l[i]? = some x → l'[i]? = some y → R x y) → LRel R l l'
  | [], [], _, _ => .nil
  | x :: l, y :: l', hl, h => .cons (h 0 x y rfl rfl) (LRel.of_get (by simpa using hl) fun i x y hx hy => h (i + 1) x y (by simpa using hx) (by simpa using hy))
theorem LRel.mono {R R' : Value → Value → Prop} (hr : ∀ (x y : Value), R x y → R' x y) {l l' : List Value} (h : LRel R l l') : LRel R' l l' := by
  induction h with
  | nil => exact .nil
  | cons h t ih => exact .cons (hr _ _ h) ih
theorem LRel.append {R : Value → Value → Prop} {a a' b b' : List Value} (h : LRel R a a') (k : LRel R b b') : LRel R (a ++ b) (a' ++ b') := by
  induction h with
  | nil => exact k
  | cons h t ih => exact .cons h ih
theorem LRel.drop {R : Value → Value → Prop} {a a' : List Value} (h : LRel R a a') : ∀ n, LRel R (a.drop n) (a'.drop n) := by
  induction h with
  | nil => intro n; simp; exact .nil
  | cons h t ih => intro n; cases n with
    | zero => exact .cons h t
    | succ n => simpa using ih n
theorem LRel.take {R : Value → Value → Prop} {a a' : List Value} (h : LRel R a a') : ∀ n, LRel R (a.take n) (a'.take n) := by
  induction h with
  | nil => intro n; simp; exact .nil
  | cons h t ih => intro n; cases n with
    | zero => simp; exact .nil
    | succ n => simpa using .cons h (ih n)
theorem LRel.splice {R : Value → Value → Prop} {c c' v v' : List Value} (h : LRel R c c') (k : LRel R v v') (off : Nat) : LRel R (splice c off v) (splice c' off v') := by
  unfold DI.splice
  rw [k.length]
  exact (h.take _).append (k.append (h.drop _))
theorem LRel.all {R : Value → Value → Prop} {f : Value → Bool} (hf : ∀ (x y : Value), R x y → f x = f y) {l l' : List Value} (h : LRel R l l') : l.all f = l'.all f := by
  induction h with
  | nil => rfl
  | cons h t ih => simp [hf _ _ h, ih]
theorem LRel.refl {R : Value → Value → Prop} : ∀ (l : List Value), (∀ x ∈ l, R x x) → LRel R l l
  | [], _ => .nil
  | x :: l, h => .cons (h x (by simp)) (LRel.refl l fun y hy => h y (by simp [hy]))
abbrev VRels (ι : Ren) := LRel (VRel ι)
theorem VRels.mono {ι ι' : Ren} (hι : ι.le ι') {l l' : List Value} (h : VRels ι l l') : VRels ι' l l' := LRel.mono (fun _ _ h => h.mono hι) h
theorem VRels.of_arr {ι : Ren} {a a' : Array Value} (ha : a.size = a'.size) (h : ∀ (i : Nat) (x y : Value), a[i]? = some x → a'[i]? = some y → VRel ι x y) : VRels ι a.toList a'.toList :=
  LRel.of_get (by simpa using ha) fun i x y hx hy => h i x y (by simpa using hx) (by simpa using hy)
theorem VRels.arr {ι : Ren} {a a' : Array Value} (h : VRels ι a.toList a'.toList) : a.size = a'.size ∧ ∀ (i : Nat) (x y : Value), a[i]? = some x → a'[i]? = some y → VRel ι x y := by
  refine ⟨by simpa using h.length, fun i x y hx hy => ?_⟩
  obtain ⟨z, hz, hr⟩ := h.get (i := i) (x := x) (by simpa using hx)
  have hy' : a'.toList[i]? = some y := by simpa using hy
  rw [hz] at hy'
  cases hy'
  exact hr
theorem VRel.agg' {ι : Ren} {a a' : List Value} (h : VRels ι a a') : VRel ι (.agg a.toArray) (.agg a'.toArray) :=
  .agg _ _ (VRels.arr (a := a.toArray) (a' := a'.toArray) h).1 (VRels.arr (a := a.toArray) (a' := a'.toArray) h).2
theorem VRel.tuple' {ι : Ren} {a a' : List Value} (h : VRels ι a a') : VRel ι (.tuple a.toArray) (.tuple a'.toArray) :=
  .tuple _ _ (VRels.arr (a := a.toArray) (a' := a'.toArray) h).1 (VRels.arr (a := a.toArray) (a' := a'.toArray) h).2
theorem VRel.undef (ι : Ren) : VRel ι undef undef := .tuple _ _ rfl (by intro i x y h; simp at h)
theorem VRel.inv_int {ι : Ren} {k : IntKind} {n : Int} {v : Value} (h : VRel ι (.int k n) v) : v = .int k n := by cases h; rfl
theorem VRel.inv_bool {ι : Ren} {b : Bool} {v : Value} (h : VRel ι (.bool b) v) : v = .bool b := by cases h; rfl
theorem VRel.inv_string {ι : Ren} {s : ByteArray} {v : Value} (h : VRel ι (.string s) v) : v = .string s := by cases h; rfl
theorem VRel.inv_agg {ι : Ren} {a : Array Value} {v : Value} (h : VRel ι (.agg a) v) : ∃ a', v = .agg a' ∧ VRels ι a.toList a'.toList := by
  cases h with | agg a a' ha h => exact ⟨a', rfl, VRels.of_arr ha h⟩
theorem VRel.inv_tuple {ι : Ren} {a : Array Value} {v : Value} (h : VRel ι (.tuple a) v) : ∃ a', v = .tuple a' ∧ VRels ι a.toList a'.toList := by
  cases h with | tuple a a' ha h => exact ⟨a', rfl, VRels.of_arr ha h⟩
theorem VRel.inv_func {ι : Ren} {fn : Fn} {a b : Array Value} {v : Value} (h : VRel ι (.func fn a b) v) : ∃ a' b', v = .func fn a' b' ∧ VRels ι a.toList a'.toList ∧ VRels ι b.toList b'.toList := by
  cases h with | func fn a a' b b' ha hb h h' => exact ⟨a', b', rfl, VRels.of_arr ha h, VRels.of_arr hb h'⟩
theorem VRel.inv_ptr {ι : Ren} {b off : Nat} {v : Value} (h : VRel ι (.pointer (some ⟨b, off, none⟩)) v) : ∃ L, ι b = some L ∧ v = .pointer (some ⟨L.block, L.base + off, none⟩) := by
  cases h with | ptr _ _ L h => exact ⟨L, h, rfl⟩
theorem bareV_rel (ι : Ren) {v : Value} (h : bareV v = true) : VRel ι v v := by
  unfold bareV at h
  split at h <;> first | constructor | (simp at h)
theorem constV_rel (ι : Ren) {v : Value} (h : constV v = true) : VRel ι v v := by
  unfold constV at h
  split at h
  · rename_i cs
    have := List.all_eq_true.1 h
    have hl : VRels ι cs.toList cs.toList := LRel.refl _ fun x hx => bareV_rel ι (this x hx)
    exact .agg _ _ hl.arr.1 hl.arr.2
  · rename_i cs
    have := List.all_eq_true.1 h
    have hl : VRels ι cs.toList cs.toList := LRel.refl _ fun x hx => bareV_rel ι (this x hx)
    exact .tuple _ _ hl.arr.1 hl.arr.2
  · exact bareV_rel ι h
theorem VRel.cells {ι : Ren} {v v' : Value} (h : VRel ι v v') : VRels ι v.cells.toList v'.cells.toList := by
  cases h <;> first | exact VRels.of_arr ‹_› ‹_› | exact .cons (by first | exact .empty _ _ _ _ | constructor; done | exact .ptr _ _ _ ‹_› | exact .slc _ _ _ _ _ ‹_› | exact .loose _ _ _ _ _ _ _ ‹_› ‹_› ‹_› | exact .loose0 _ _ _ _ _ _ ‹_› ‹_› | exact .map _ _ ‹_› | exact .func _ _ _ _ _ ‹_› ‹_› ‹_› ‹_› | exact .iface _ _ _ ‹_› | exact .tuple _ _ ‹_› ‹_›) .nil
theorem VRel.one {ι : Ren} {v v' : Value} (h : VRel ι v v') : one v = one v' := by cases h <;> rfl
/-! ### blocks -/
def Blk.own : Blk → Bool
  | .cells o _ => o
  | .map o _ _ => o
  | .siter _ _ => true
  | .none => false
def Blk.live : Blk → Prop
  | .none => False
  | _ => True
def ERel (ι : Ren) (e e' : MapEntry) : Prop := VRel ι e.key e'.key ∧ VRel ι e.val e'.val ∧ e.born = e'.born
inductive ERels (ι : Ren) : List MapEntry → List MapEntry → Prop where
  | nil : ERels ι [] []
  | cons {x y : MapEntry} {l l' : List MapEntry} (h : ERel ι x y) (t : ERels ι l l') : ERels ι (x :: l) (y :: l')
theorem ERels.mono {ι ι' : Ren} (hι : ι.le ι') {l l' : List MapEntry} (h : ERels ι l l') : ERels ι' l l' := by
  induction h with
  | nil => exact .nil
  | cons h t ih => exact .cons ⟨h.1.mono hι, h.2.1.mono hι, h.2.2⟩ ih
theorem ERels.length {ι : Ren} {l l' : List MapEntry} (h : ERels ι l l') : l.length = l'.length := by
  induction h with
  | nil => rfl
  | cons h t ih => simp [ih]
theorem ERels.append {ι : Ren} {a a' b b' : List MapEntry} (h : ERels ι a a') (k : ERels ι b b') : ERels ι (a ++ b) (a' ++ b') := by
  induction h with
  | nil => exact k
  | cons h t ih => exact .cons h ih
theorem ERels.get {ι : Ren} {l l' : List MapEntry} (h : ERels ι l l') : ∀ {i : Nat} {x : MapEntry}, l[i]? = some x → ∃ y, l'[i]? = some y ∧ ERel ι x y := by
  induction h with
  | nil => intro i x hx; simp at hx
  | cons h t ih =>
    intro i x hx
    cases i with
    | zero => simp at hx; subst hx; exact ⟨_, rfl, h⟩
    | succ i => simp at hx; obtain ⟨y, hy, hr⟩ := ih hx; exact ⟨y, by simpa using hy, hr⟩
def BlkRel (B0 : Nat) (ι : Ren) (x : Blk) (L : Loc) (w : World) : Prop :=
  match x with
  | .none => True
  | .cells own c => ∃ rc e fr, w.heap[L.block]? = some (.cells rc e fr) ∧ rc.size = L.total ∧ L.base + c.length ≤ L.total ∧
      (∀ i v, c[i]? = some v → ∃ v', rc[L.base + i]? = some v' ∧ VRel ι v v') ∧ (own = true → B0 ≤ L.block ∧ ∀ o, o < L.total → ¬ (fr.1 ≤ o ∧ o < fr.2))
  | .map own es clock => ∃ res, w.heap[L.block]? = some (.map res clock) ∧ ERels ι es res.toList ∧ (own = true → B0 ≤ L.block)
  | .siter s pos => w.heap[L.block]? = some (.stringIter s pos) ∧ L.base = 0 ∧ B0 ≤ L.block
theorem BlkRel.mono {B0 : Nat} {ι ι' : Ren} (hι : ι.le ι') {x : Blk} {L : Loc} {w w' : World} (hw : w'.heap[L.block]? = w.heap[L.block]?) (h : BlkRel B0 ι x L w) : BlkRel B0 ι' x L w' := by
  cases x with
  | none => trivial
  | cells own c =>
    obtain ⟨rc, e, fr, h1, h2, h3, h4, h5⟩ := h
    refine ⟨rc, e, fr, hw.trans h1, h2, h3, fun i v hv => ?_, h5⟩
    obtain ⟨v', hv', hr⟩ := h4 i v hv
    exact ⟨v', hv', hr.mono hι⟩
  | map own es clock => obtain ⟨res, h1, h2, h3⟩ := h; exact ⟨res, hw.trans h1, h2.mono hι, h3⟩
  | siter s pos => exact ⟨hw.trans h.1, h.2⟩
theorem BlkRel.own_floor {B0 : Nat} {ι : Ren} {x : Blk} {L : Loc} {w : World} (h : BlkRel B0 ι x L w) (ho : x.own = true) : B0 ≤ L.block := by
  cases x with
  | none => simp [Blk.own] at ho
  | cells own c => obtain ⟨rc, e, fr, h1, h2, h3, h4, h5⟩ := h; exact (h5 ho).1
  | map own es clock => obtain ⟨res, h1, h2, h3⟩ := h; exact h3 ho
  | siter s pos => exact h.2.2
structure Rel (B0 G : Nat) (ι : Ren) (m : Mem) (w : World) : Prop where
  blk : ∀ b L, b < m.size → ι b = some L → BlkRel B0 ι (m.get b) L w
  inj : ∀ b₁ b₂ L₁ L₂, b₁ < m.size → b₂ < m.size → ι b₁ = some L₁ → ι b₂ = some L₂ → (m.get b₁).live → (m.get b₂).live → B0 ≤ L₁.block → L₁.block = L₂.block → b₁ = b₂
  floor : B0 ≤ w.heap.size
  glob : ∀ g, g < G → ∃ L, ι g = some L ∧ L.block = g ∧ L.base = 0
  top : ∀ b, m.size ≤ b → m.get b = .none
theorem BlkRel.lt {B0 : Nat} {ι : Ren} {x : Blk} {L : Loc} {w : World} (h : BlkRel B0 ι x L w) (hl : x.live) : L.block < w.heap.size := by
  have key : ∀ o : Obj, w.heap[L.block]? = some o → L.block < w.heap.size := fun o ho => (Array.getElem?_eq_some_iff.1 ho).1
  cases x with
  | none => exact hl.elim
  | cells own c => obtain ⟨rc, e, fr, h1, _⟩ := h; exact key _ h1
  | map own es clock => obtain ⟨res, h1, _⟩ := h; exact key _ h1
  | siter s pos => exact key _ h.1
theorem BlkRel.monoL {B0 : Nat} {ι ι' : Ren} (hι : ι.le ι') {x : Blk} {L : Loc} {w w' : World} (hw : x.live → w'.heap[L.block]? = w.heap[L.block]?) (h : BlkRel B0 ι x L w) : BlkRel B0 ι' x L w' := by
  by_cases hl : x.live
  · exact h.mono hι (hw hl)
  · cases x with
    | none => trivial
    | cells own c => exact absurd trivial hl
    | map own es clock => exact absurd trivial hl
    | siter s pos => exact absurd trivial hl
theorem Rel.old {B0 G : Nat} {ι : Ren} {m : Mem} {w : World} (h : Rel B0 G ι m w) (b : Nat) (L : Loc) (hL : ι b = some L) (hl : (m.get b).live) : L.block < w.heap.size := by
  rcases Nat.lt_or_ge b m.size with hb | hb
  · exact (h.blk b L hb hL).lt hl
  · rw [h.top b hb] at hl; exact hl.elim
theorem own_live {x : Blk} (h : x.own = true) : x.live := by cases x <;> first | trivial | simp [Blk.own] at h
structure Stp (ι ι' : Ren) (m m' : Mem) (w w' : World) : Prop where
  ext : ι.le ι'
  out : ∀ b, b < m.size ∨ m'.size ≤ b → ι' b = ι b
  os : w'.os = w.os
  output : w'.output = w.output
  tape : w'.tape = w.tape
  hsize : w.heap.size ≤ w'.heap.size
  frame : ∀ B, B < w.heap.size → (∀ b L, b < m.size → ι b = some L → (m.get b).own = true → L.block ≠ B) → w'.heap[B]? = w.heap[B]?
  new : ∀ b L, m.size ≤ b → b < m'.size → ι' b = some L → w.heap.size ≤ L.block ∨ ∃ b0 L0, b0 < m.size ∧ ι b0 = some L0 ∧ (m.get b0).own = true ∧ L0.block = L.block
  msize : m.size ≤ m'.size
  ownk : ∀ b, b < m.size → (m'.get b).own = true → (m.get b).own = true
theorem Stp.refl (ι : Ren) (m : Mem) (w : World) : Stp ι ι m m w w :=
  ⟨fun _ _ h => h, fun _ _ => rfl, rfl, rfl, rfl, Nat.le_refl _, fun _ _ _ => rfl, fun b L h1 h2 => by omega, Nat.le_refl _, fun _ _ h => h⟩
theorem Stp.trans {ι ι₁ ι₂ : Ren} {m m₁ m₂ : Mem} {w w₁ w₂ : World} (h : Stp ι ι₁ m m₁ w w₁) (k : Stp ι₁ ι₂ m₁ m₂ w₁ w₂) : Stp ι ι₂ m m₂ w w₂ := by
  have hm := h.msize
  have km := k.msize
  refine ⟨fun b L hb => k.ext _ _ (h.ext _ _ hb), fun b hb => ?_, k.os.trans h.os, k.output.trans h.output, k.tape.trans h.tape, Nat.le_trans h.hsize k.hsize, fun B hB hn => ?_, fun b L h1 h2 hb => ?_, Nat.le_trans hm km, fun b hb ho => h.ownk b hb (k.ownk b (by omega) ho)⟩
  · rw [k.out b (by omega), h.out b (by omega)]
  · have e1 := h.frame B hB hn
    rw [k.frame B (Nat.lt_of_lt_of_le hB h.hsize) ?_, e1]
    intro b L hb hL ho
    rcases Nat.lt_or_ge b m.size with hlt | hge
    · rw [h.out b (.inl hlt)] at hL
      exact hn b L hlt hL (h.ownk b hlt ho)
    · rcases h.new b L hge hb hL with h1 | ⟨b0, L0, g1, g2, g3, g4⟩
      · omega
      · rw [← g4]; exact hn b0 L0 g1 g2 g3
  · rcases Nat.lt_or_ge b m₁.size with hlt | hge
    · rw [k.out b (.inl hlt)] at hb
      exact h.new b L h1 hlt hb
    · rcases k.new b L hge h2 hb with g | ⟨b0, L0, g1, g2, g3, g4⟩
      · exact .inl (Nat.le_trans h.hsize g)
      · rcases Nat.lt_or_ge b0 m.size with hlt | hge'
        · rw [h.out b0 (.inl hlt)] at g2
          exact .inr ⟨b0, L0, hlt, g2, h.ownk b0 hlt g3, g4⟩
        · rcases h.new b0 L0 hge' g1 g2 with g | ⟨b1, L1, k1, k2, k3, k4⟩
          · exact .inl (g4 ▸ g)
          · exact .inr ⟨b1, L1, k1, k2, k3, k4.trans g4⟩
theorem Stp.below {B0 G : Nat} {ι ι' : Ren} {m m' : Mem} {w w' : World} (h : Stp ι ι' m m' w w') (hr : Rel B0 G ι m w) : ∀ B, B < B0 → w'.heap[B]? = w.heap[B]? :=
  fun B hB => h.frame B (Nat.lt_of_lt_of_le hB hr.floor) fun b L hb hL ho e => by
    have := (hr.blk b L hb hL).own_floor ho
    omega
def TRel (ι : Ren) (n : Nat) (t : Tmps) (a : Act) : Prop := a.tmps.size = n ∧ ∀ d, VRel ι (t.at d) (a.tmps.getD d undef)
theorem TRel.mono {ι ι' : Ren} (hι : ι.le ι') {n : Nat} {t : Tmps} {a : Act} (h : TRel ι n t a) : TRel ι' n t a := ⟨h.1, fun d => (h.2 d).mono hι⟩
theorem getD_setIfInBounds (a : Array Value) (d e : Nat) (v u : Value) : (a.setIfInBounds d v).getD e u = if e = d ∧ d < a.size then v else a.getD e u := by
  simp only [Array.getD_eq_getD_getElem?, Array.getElem?_setIfInBounds]
  by_cases h : d = e
  · subst h
    by_cases h2 : d < a.size
    · simp [h2]
    · simp [h2]
  · have : ¬ e = d := fun h' => h h'.symm
    simp [h, this]
theorem TRel.put {ι : Ren} {n : Nat} {t : Tmps} {a : Act} (h : TRel ι n t a) {d : Nat} (hd : d < n) {v v' : Value} (hv : VRel ι v v') : TRel ι n (t.set d v) (a.put (some d) v') := by
  refine ⟨by simp [Act.put, h.1], fun e => ?_⟩
  simp only [Act.put, getD_setIfInBounds, Tmps.at_set]
  by_cases he : e = d
  · subst he; simp [h.1, hd, hv]
  · simp [he]; simpa using h.2 e
theorem ev_rel {B0 G : Nat} {ι : Ren} {m : Mem} {w : World} (hr : Rel B0 G ι m w) {n : Nat} {t : Tmps} {a : Act} (h : TRel ι n t a) {x : Operand} {v : Value} (hx : ev G t x = some v) : VRel ι v (a.eval x) := by
  cases x with
  | tmp d => simp [ev] at hx; subst hx; exact h.2 d
  | const c =>
    simp only [ev] at hx
    cases hc : constV c with
    | false => simp [hc] at hx
    | true => simp [hc] at hx; subst hx; exact constV_rel ι hc
  | global g =>
    simp only [ev] at hx
    split at hx
    · rename_i hg
      obtain ⟨L, h1, h2, h3⟩ := hr.glob g hg
      simp at hx; subst hx
      have := VRel.ptr (ι := ι) g 0 L h1
      rw [h2, h3] at this
      exact this
    · simp at hx
  | func f => simp [ev] at hx; subst hx; exact .func _ _ _ _ _ rfl rfl (by intro i x y h; simp at h) (by intro i x y h; simp at h)
theorem evs_rel {B0 G : Nat} {ι : Ren} {m : Mem} {w : World} (hr : Rel B0 G ι m w) {n : Nat} {t : Tmps} {a : Act} (h : TRel ι n t a) : ∀ {l : List Operand} {vs : List Value}, evs G t l = some vs → VRels ι vs (l.map a.eval)
  | [], vs, hx => by simp [evs] at hx; subst hx; exact .nil
  | x :: l, vs, hx => by
    simp only [evs] at hx
    split at hx
    · rename_i v hv
      split at hx
      · rename_i us hus
        simp at hx; subst hx
        exact .cons (ev_rel hr h hv) (evs_rel hr h hus)
      · simp at hx
    · simp at hx
end Go.DI
namespace Go.DI
section
variable {P : Program} {K : TypeId → Bool} {G : Nat} {w : World}
/-! ### types -/
theorem run_sizeOf' {t : TypeId} {n : Nat} (h : szOf P t = some n) : (Go.sizeOf t).run P w = .ok n w := by
  unfold szOf at h
  simp only [Go.sizeOf, typeInfo, Sem.run_bind, run_program, Result.andThen_ok]
  split at h
  · rename_i i hi; simp at h; simp [hi, h]
  · simp at h
theorem run_typeInfo_bytes {t : TypeId} {n : Nat} (h : bytesOf P t = some n) : ∃ i, (typeInfo t).run P w = .ok i w ∧ i.bytes = n := by
  unfold bytesOf at h
  simp only [typeInfo, Sem.run_bind, run_program, Result.andThen_ok]
  split at h
  · rename_i i hi; simp at h; exact ⟨i, by simp [hi], h⟩
  · simp at h
theorem run_zero' {t : TypeId} {z : Value} (h : zeroOf P t = some z) : (zeroValue t).run P w = .ok z w := by
  unfold zeroOf at h
  simp only [zeroValue, typeInfo, Sem.run_bind, run_program, Result.andThen_ok]
  split at h
  · rename_i i hi; simp [hi, h]
  · simp at h
theorem run_und {t : TypeId} {d : TypeDesc} (h : P.underlying t = some d) : (underlying t).run P w = .ok d w := by
  simp [underlying, h]
theorem run_isAgg' {t : TypeId} {b : Bool} (h : aggB P t = some b) : (isAgg t).run P w = .ok b w := by
  unfold aggB at h
  simp only [isAgg, Sem.run_bind]
  split at h
  · rename_i hu; rw [run_und hu]; simp at h; simp [h]
  · rename_i hu; rw [run_und hu]; simp at h; simp [h]
  · rename_i d h1 h2 hu; rw [run_und hu]; simp at h; subst h
    cases d <;> simp_all
  · simp at h
theorem drop_take_extract (cs : Array Value) (off n : Nat) : ((cs.toList.drop off).take n).toArray = cs.extract off (off + n) := by
  apply Array.ext'
  simp [Array.toList_extract, List.extract]
theorem run_part {t : TypeId} {cs : Array Value} {off : Nat} {v : Value} (h : part P t cs.toList off = some v) : (Go.part t cs off).run P w = .ok v w := by
  unfold part at h
  simp only [Go.part, Sem.run_bind]
  split at h
  · rename_i ha
    rw [run_isAgg' ha]
    split at h
    · rename_i n hn
      simp at h
      simp [run_sizeOf' hn, ← h, ← drop_take_extract]
    · simp at h
  · rename_i ha
    rw [run_isAgg' ha]
    simp at h
    simp [h]
  · simp at h
theorem part_rel {ι : Ren} {t : TypeId} {cs cs' : List Value} (hc : VRels ι cs cs') {off : Nat} {v : Value} (h : part P t cs off = some v) : ∃ v', part P t cs' off = some v' ∧ VRel ι v v' := by
  unfold part at h ⊢
  split at h
  · split at h
    · simp at h; subst h; exact ⟨_, rfl, VRel.agg' ((hc.drop _).take _)⟩
    · simp at h
  · obtain ⟨y, hy, hr⟩ := hc.get h; exact ⟨y, by simp [hy], hr⟩
  · simp at h
/-! ### numbers and strings -/
theorem run_binInt {op : BinOp} {k : IntKind} {x y : Int} {t : TypeId} {v : Value} (h : binInt op k x y = some v) (hs : op ≠ .shl ∧ op ≠ .shr) : (binOp op t (.int k x) (.int k y)).run P w = .ok v w := by
  cases op <;> simp only [binInt] at h <;> (try (split at h)) <;> (try (simp at h; done)) <;> (try (simp at h)) <;> (try subst h) <;>
    simp_all [binOp, Op.intArith, Op.intDiv, Op.intBits, Op.intCmp]
theorem run_shiftD {op : BinOp} {k k' : IntKind} {x y : Int} {t : TypeId} {v : Value} (h : shiftD op k x y = some v) (hs : op = .shl ∨ op = .shr) : (binOp op t (.int k x) (.int k' y)).run P w = .ok v w := by
  unfold shiftD at h
  split at h
  · simp at h
  · rename_i hy
    rcases hs with rfl | rfl <;> simp at h <;> subst h <;> simp [binOp, Op.shift, hy]
theorem run_binStr {op : BinOp} {x y : ByteArray} {t : TypeId} {v : Value} (h : binStr op x y = some v) : (binOp op t (.string x) (.string y)).run P w = .ok v w := by
  cases op <;> simp only [binStr] at h <;> (try (split at h)) <;> (try (simp at h; done)) <;> (try (simp at h)) <;> (try subst h) <;>
    simp_all [binOp, Op.stringOp]
/-! ### equality -/
def Plain (P : Program) (K : TypeId → Bool) : Prop := ∀ t, K t = true → P.stoodInHeld t = false ∧ P.eqGuardType P.depth t = false
theorem run_feqF {d : Nat} {xs ys : Array Value} (ih : ∀ (t : TypeId) (a b : Value) (r : Bool), feq P K d t a b = some r → ∀ d', d ≤ d' → (Op.equalIn d' t a b).run P w = .ok r w) {d' : Nat} (hd : d ≤ d') :
    ∀ (fs : List Field) (r : Bool), feqF (fun u o => match part P u xs.toList o, part P u ys.toList o with | some a, some b => feq P K d u a b | _, _ => none) fs = some r →
      (Op.eqFields d' xs ys fs).run P w = .ok r w
  | [], r, h => by simp [feqF] at h; subst h; simp [Op.eqFields]
  | f :: fs, r, h => by
    simp only [feqF] at h
    split at h
    · simp at h
    · rename_i hn
      simp only [Op.eqFields, ne_eq, hn, not_false_eq_true, if_true, Sem.run_bind]
      split at h
      · rename_i he
        split at he
        · rename_i a b ha hb
          rw [run_part ha]; simp only [Result.andThen_ok]; rw [run_part hb]; simp only [Result.andThen_ok]; rw [ih _ _ _ _ he _ hd]
          simp only [Result.andThen_ok, Bool.not_true, Bool.false_eq_true, if_false]
          exact run_feqF ih hd fs r h
        · simp at he
      · rename_i he
        simp at h; subst h
        split at he
        · rename_i a b ha hb
          rw [run_part ha]; simp only [Result.andThen_ok]; rw [run_part hb]; simp only [Result.andThen_ok]; rw [ih _ _ _ _ he _ hd]
          simp
        · simp at he
      · simp at h
theorem run_feqL {d : Nat} {xs ys : Array Value} {e : TypeId} {n : Nat} (ih : ∀ (t : TypeId) (a b : Value) (r : Bool), feq P K d t a b = some r → ∀ d', d ≤ d' → (Op.equalIn d' t a b).run P w = .ok r w) {d' : Nat} (hd : d ≤ d') :
    ∀ (len i : Nat) (r : Bool), feqL (fun i => match part P e xs.toList (i * n), part P e ys.toList (i * n) with | some a, some b => feq P K d e a b | _, _ => none) len i = some r →
      (Op.eqItems d' e n xs ys (List.range' i len)).run P w = .ok r w
  | 0, i, r, h => by simp [feqL] at h; subst h; simp [Op.eqItems]
  | len + 1, i, r, h => by
    simp only [feqL] at h
    rw [List.range'_succ]
    simp only [Op.eqItems, Sem.run_bind]
    split at h
    · rename_i he
      split at he
      · rename_i a b ha hb
        rw [run_part ha]; simp only [Result.andThen_ok]; rw [run_part hb]; simp only [Result.andThen_ok]; rw [ih _ _ _ _ he _ hd]
        simp only [Result.andThen_ok, Bool.not_true, Bool.false_eq_true, if_false]
        exact run_feqL ih hd len (i + 1) r h
      · simp at he
    · rename_i he
      simp at h; subst h
      split at he
      · rename_i a b ha hb
        rw [run_part ha]; simp only [Result.andThen_ok]; rw [run_part hb]; simp only [Result.andThen_ok]; rw [ih _ _ _ _ he _ hd]
        simp
      · simp at he
    · simp at h
theorem szOf_info {t : TypeId} {n : Nat} (h : szOf P t = some n) : ∃ i, P.info? t = some i ∧ P.cellsOf t = n := by
  unfold szOf at h
  split at h
  · rename_i i hi; simp at h; exact ⟨i, hi, by simp [Program.cellsOf, hi, h]⟩
  · simp at h
theorem run_feq (hK : Plain P K) : ∀ (d : Nat) (t : TypeId) (x y : Value) (r : Bool), feq P K d t x y = some r → ∀ d', d ≤ d' → (Op.equalIn d' t x y).run P w = .ok r w
  | 0, t, x, y, r, h, d', hd => by simp [feq] at h
  | d + 1, t, x, y, r, h, d', hd => by
    obtain ⟨d', rfl⟩ : ∃ k, d' = k + 1 := ⟨d' - 1, by omega⟩
    have hd' : d ≤ d' := by omega
    have ih := run_feq hK d
    unfold feq at h
    split at h
    · rename_i hu
      split at h <;> simp at h
      subst h; simp [Op.equalIn, run_und hu]
    · rename_i hu
      split at h <;> try (simp at h; done)
      split at h <;> simp at h
      rename_i hk; subst hk; subst h; simp [Op.equalIn, run_und hu]
    · rename_i hu
      split at h <;> simp at h
      subst h; simp [Op.equalIn, run_und hu]
    · rename_i hu
      split at h <;> simp at h <;> subst h <;> simp [Op.equalIn, run_und hu]
    · rename_i hu
      split at h <;> simp at h <;> subst h <;> simp [Op.equalIn, run_und hu]
    · rename_i hu
      split at h <;> simp at h <;> subst h <;> simp [Op.equalIn, run_und hu]
    · rename_i hu
      split at h <;> simp at h <;> subst h <;> simp [Op.equalIn, run_und hu]
    · rename_i fields hu
      split at h <;> try (simp at h; done)
      split at h <;> try (simp at h; done)
      rename_i xs ys hk
      have hf : P.fieldsOf t = fields := by simp [Program.fieldsOf, hu]
      rw [run_equalIn_struct w d' t xs ys (by rw [hf]; exact hu) (hK t hk).1, hf]
      exact run_feqF ih hd' fields.toList r h
    · rename_i len elem hu
      split at h <;> try (simp at h; done)
      rename_i xs ys
      split at h <;> try (simp at h; done)
      rename_i n hn
      obtain ⟨i, hi, hc⟩ := szOf_info hn
      rw [run_equalIn_array w d' xs ys hu hi, hc, List.range_eq_range']
      exact run_feqL ih hd' len 0 r h
    · simp at h
/-! ### the same on related values -/
theorem feqF_rel {g g' : TypeId → Nat → Option Bool} (hg : ∀ (t : TypeId) (o : Nat) (r : Bool), g t o = some r → g' t o = some r) : ∀ (fs : List Field) (r : Bool), feqF g fs = some r → feqF g' fs = some r
  | [], r, h => h
  | f :: fs, r, h => by
    simp only [feqF] at h ⊢
    split at h
    · simp at h
    · rename_i hn
      simp only [hn, if_false]
      split at h
      · rename_i he; rw [hg _ _ _ he]; exact feqF_rel hg fs r h
      · rename_i he; rw [hg _ _ _ he]; exact h
      · simp at h
theorem feqL_rel {g g' : Nat → Option Bool} (hg : ∀ (i : Nat) (r : Bool), g i = some r → g' i = some r) : ∀ (n i : Nat) (r : Bool), feqL g n i = some r → feqL g' n i = some r
  | 0, i, r, h => h
  | n + 1, i, r, h => by
    simp only [feqL] at h ⊢
    split at h
    · rename_i he; rw [hg _ _ he]; exact feqL_rel hg n (i + 1) r h
    · rename_i he; rw [hg _ _ he]; exact h
    · simp at h
theorem feq_rel {ι : Ren} : ∀ (d : Nat) (t : TypeId) (x y x' y' : Value) (r : Bool), VRel ι x x' → VRel ι y y' → feq P K d t x y = some r → feq P K d t x' y' = some r
  | 0, t, x, y, x', y', r, _, _, h => by simp [feq] at h
  | d + 1, t, x, y, x', y', r, hx, hy, h => by
    have ih := feq_rel (ι := ι) d
    unfold feq at h ⊢
    split at h
    · split at h <;> simp at h
      cases hx; cases hy; simp [h]
    · split at h <;> try (simp at h; done)
      cases hx; cases hy; exact h
    · split at h <;> simp at h
      cases hx; cases hy; simp [h]
    · split at h <;> simp at h
      · cases hx; cases hy <;> simpa using h
      · cases hy; cases hx; simpa using h
    · split at h <;> simp at h
      · cases hx; cases hy <;> simpa using h
      · cases hy; cases hx <;> simpa using h
    · split at h <;> simp at h
      · cases hx; cases hy <;> simpa using h
      · cases hy; cases hx; simpa using h
    · split at h <;> simp at h
      · cases hx; cases hy; simpa using h
      · cases hx; cases hy; simpa using h
      · cases hx; cases hy; simpa using h
    · split at h <;> try (simp at h; done)
      rename_i xs ys
      split at h <;> try (simp at h; done)
      rename_i hk
      obtain ⟨xs', rfl, hxs⟩ := hx.inv_agg
      obtain ⟨ys', rfl, hys⟩ := hy.inv_agg
      simp only [hk, if_true]
      refine feqF_rel (fun u o r he => ?_) _ _ h
      split at he
      · rename_i a b ha hb
        obtain ⟨a', ha', hra⟩ := part_rel hxs ha
        obtain ⟨b', hb', hrb⟩ := part_rel hys hb
        simp only [ha', hb']
        exact ih _ _ _ _ _ _ hra hrb he
      · simp at he
    · split at h <;> try (simp at h; done)
      rename_i xs ys
      split at h <;> try (simp at h; done)
      rename_i n hn
      obtain ⟨xs', rfl, hxs⟩ := hx.inv_agg
      obtain ⟨ys', rfl, hys⟩ := hy.inv_agg
      refine feqL_rel (fun i r he => ?_) _ _ _ h
      split at he
      · rename_i a b ha hb
        obtain ⟨a', ha', hra⟩ := part_rel hxs ha
        obtain ⟨b', hb', hrb⟩ := part_rel hys hb
        simp only [ha', hb']
        exact ih _ _ _ _ _ _ hra hrb he
      · simp at he
    · simp at h
theorem binD_rel {ι : Ren} {op : BinOp} {t : TypeId} {x y x' y' v : Value} (hx : VRel ι x x') (hy : VRel ι y y') (h : binD P K op t x y = some v) : binD P K op t x' y' = some v ∧ VRel ι v v := by
  have hint : ∀ (op : BinOp) (k : IntKind) (a b : Int) (v : Value), binInt op k a b = some v → VRel ι v v := by
    intro op k a b v h
    cases op <;> simp only [binInt] at h <;> (try (split at h)) <;> (try (simp at h; done)) <;> simp at h <;> subst h <;> constructor
  have hsh : ∀ (op : BinOp) (k : IntKind) (a b : Int) (v : Value), shiftD op k a b = some v → VRel ι v v := by
    intro op k a b v h
    unfold shiftD at h
    split at h
    · simp at h
    · cases op <;> simp at h <;> subst h <;> constructor
  have hst : ∀ (op : BinOp) (a b : ByteArray) (v : Value), binStr op a b = some v → VRel ι v v := by
    intro op a b v h
    cases op <;> simp only [binStr] at h <;> (try (split at h)) <;> (try (simp at h; done)) <;> simp at h <;> subst h <;> constructor
  have heq : ∀ (a b a' b' v : Value), VRel ι a a' → VRel ι b b' → eqD P K op t a b = some v → eqD P K op t a' b' = some v ∧ VRel ι v v := by
    intro a b a' b' v ha hb h
    unfold eqD at h ⊢
    cases op <;> simp at h ⊢
    all_goals
      split at h
      · rename_i r hr
        rw [feq_rel 100 t a b a' b' r ha hb hr]
        simp at h ⊢
        subst h
        exact ⟨rfl, .bool _⟩
      · simp at h
  cases x
  case int k a =>
    cases hx
    simp only [binD] at h ⊢
    split at h
    · cases hy
      simp only []
      cases hb : shiftB op with
      | true => simp [hb] at h ⊢; exact ⟨h, hsh _ _ _ _ _ h⟩
      | false =>
        simp only [hb, cond_false] at h ⊢
        refine ⟨h, ?_⟩
        split at h
        · exact hint _ _ _ _ _ h
        · simp at h
    · simp at h
  case string a =>
    cases hx
    simp only [binD] at h ⊢
    split at h
    · cases hy
      exact ⟨h, hst _ _ _ _ h⟩
    · simp at h
  case agg xs =>
    obtain ⟨xs', rfl, hxs⟩ := hx.inv_agg
    simp only [binD] at h ⊢
    split at h
    · rename_i ys
      obtain ⟨ys', rfl, hys⟩ := hy.inv_agg
      split at h
      · rename_i hk
        simp only [hk, if_true]
        exact heq _ _ _ _ v hx hy h
      · simp at h
    · simp at h
  case bool a => cases hx; exact heq _ _ _ _ v (.bool a) hy h
  case pointer a =>
    have := heq _ _ _ _ v hx hy h
    cases hx <;> exact this
  case slice a n c =>
    have := heq _ _ _ _ v hx hy h
    cases hx <;> exact this
  case map a =>
    have := heq _ _ _ _ v hx hy h
    cases hx <;> exact this
  case func f a b =>
    have := heq _ _ _ _ v hx hy h
    cases hx <;> exact this
  case nilFunc =>
    have := heq _ _ _ _ v hx hy h
    cases hx; exact this
  all_goals (simp [binD] at h; done)
theorem run_eqD (hK : Plain P K) {op : BinOp} {t : TypeId} {x y v : Value} (h : eqD P K op t x y = some v) :
    (match op with | .eql => (do pure (Value.bool (← Op.equal t x y)) : Sem Value) | _ => (do pure (Value.bool (!(← Op.equal t x y))))).run P w = .ok v w ∧ (op = .eql ∨ op = .neq) := by
  unfold eqD at h
  cases op <;> simp at h
  all_goals
    split at h
    · rename_i r hr
      have := run_feq (w := w) hK 100 t x y r hr Op.maxDepth (by decide)
      simp at h; subst h
      simp [Op.equal, this]
    · simp at h
theorem run_binD (hK : Plain P K) {op : BinOp} {t : TypeId} {o1 o2 : Operand} {x y v : Value} (h : binD P K op t x y = some v) :
    (do eqGuard op t o1 o2 x y; binOp op t x y).run P w = .ok v w := by
  cases x
  case int k a =>
    simp only [binD] at h
    split at h
    · rename_i k' b
      have hg : (eqGuard op t o1 o2 (.int k a) (.int k' b)).run P w = .ok () w := by cases op <;> simp [eqGuard]
      simp only [Sem.run_bind, hg, Result.andThen_ok]
      cases hb : shiftB op with
      | true =>
        simp only [hb, cond_true] at h
        exact run_shiftD h (by cases op <;> simp_all [shiftB])
      | false =>
        simp only [hb, cond_false] at h
        split at h
        · rename_i hk; subst hk
          exact run_binInt h (by cases op <;> simp_all [shiftB])
        · simp at h
    · simp at h
  case string a =>
    simp only [binD] at h
    split at h
    · rename_i b
      have hg : (eqGuard op t o1 o2 (.string a) (.string b)).run P w = .ok () w := by cases op <;> simp [eqGuard]
      simp only [Sem.run_bind, hg, Result.andThen_ok]
      exact run_binStr h
    · simp at h
  case agg xs =>
    simp only [binD] at h
    split at h
    · rename_i ys
      split at h
      · rename_i hk
        have hg := run_eqGuard_agg (P := P) w op t o1 o2 xs ys (hK t hk).2
        simp only [Sem.run_bind, hg, Result.andThen_ok]
        obtain ⟨h1, h2⟩ := run_eqD (w := w) hK h
        rcases h2 with rfl | rfl <;> simpa [binOp] using h1
      · simp at h
    · simp at h
  case bool a =>
    obtain ⟨h1, h2⟩ := run_eqD (w := w) hK (show eqD P K op t (.bool a) y = some v from h)
    rcases h2 with rfl | rfl <;> simp only [eqGuard] <;> cases y <;> simp_all [binOp, eqD, feq]
  case nilFunc =>
    obtain ⟨h1, h2⟩ := run_eqD (w := w) hK (show eqD P K op t .nilFunc y = some v from h)
    rcases h2 with rfl | rfl <;> simp only [eqGuard] <;> cases y <;> simp_all [binOp, eqD, feq]
  case func f a b =>
    obtain ⟨h1, h2⟩ := run_eqD (w := w) hK (show eqD P K op t (.func f a b) y = some v from h)
    rcases h2 with rfl | rfl <;> simp only [eqGuard] <;> cases y <;> simp_all [binOp, eqD, feq]
  case map a =>
    obtain ⟨h1, h2⟩ := run_eqD (w := w) hK (show eqD P K op t (.map a) y = some v from h)
    rcases h2 with rfl | rfl <;> simp only [eqGuard] <;> cases y <;> simp_all [binOp, eqD, feq]
  case slice a n c =>
    obtain ⟨h1, h2⟩ := run_eqD (w := w) hK (show eqD P K op t (.slice a n c) y = some v from h)
    rcases h2 with rfl | rfl <;> simp only [eqGuard] <;> cases y <;> simp_all [binOp, eqD, feq]
  case pointer a =>
    obtain ⟨h1, h2⟩ := run_eqD (w := w) hK (show eqD P K op t (.pointer a) y = some v from h)
    rcases h2 with rfl | rfl <;> simp only [eqGuard] <;> cases y <;> simp_all [binOp, eqD, feq]
  all_goals (simp [binD] at h; done)
end
end Go.DI
namespace Go.DI
section
variable {P : Program} {K : TypeId → Bool} {G B0 n : Nat} {ι : Ren} {m : Mem} {w : World} {t : Tmps} {a : Act}
theorem unD_ok {op : UnOp} {x x' v : Value} (hx : VRel ι x x') (h : unD op x = some v) : (Op.unary op x').run P w = .ok v w ∧ VRel ι v v := by
  cases x
  case int k q =>
    cases hx
    cases op <;> simp only [unD] at h
    case neg => simp at h; subst h; exact ⟨by simp [Op.unary, Op.intArith], .int _ _⟩
    case xor => simp [binInt] at h; subst h; exact ⟨by simp [Op.unary, Op.intBits], .int _ _⟩
    all_goals (simp at h)
  case bool b =>
    cases hx
    cases op <;> simp only [unD] at h
    case not => simp at h; subst h; exact ⟨by simp [Op.unary], .bool _⟩
    all_goals (simp at h)
  all_goals (simp [unD] at h)
theorem Addr.add_none (b off k : Nat) : (⟨b, off, none⟩ : Addr).add k = ⟨b, off + k, none⟩ := by
  unfold Addr.add
  split
  · rename_i h; subst h; rfl
  · rfl
theorem fieldAddrD_ok {s : TypeId} {f : Nat} {x x' v : Value} (hx : VRel ι x x') (h : fieldAddrD P s f x = some v) :
    ∃ v', (Instr.fieldAt s x' f).run P w = .ok v' w ∧ VRel ι v v' := by
  unfold fieldAddrD at h
  split at h <;> try (simp at h; done)
  rename_i b off
  split at h <;> try (simp at h; done)
  rename_i fields hu
  split at h <;> try (simp at h; done)
  rename_i fd hf
  split at h <;> try (simp at h; done)
  rename_i sz hs
  split at h <;> simp at h
  rename_i hz
  obtain ⟨L, hL, rfl⟩ := hx.inv_ptr
  subst h
  refine ⟨.pointer (some ⟨L.block, L.base + (off + fd.offset), none⟩), ?_, .ptr _ _ _ hL⟩
  have hf' : fields[f]? = some fd := by simpa using hf
  simp [Instr.fieldAt, run_und hu, hf', Instr.sureAddr, fieldPlace, run_sizeOf' hs, hz, Addr.add_none, Nat.add_assoc]
theorem fieldD_ok {s : TypeId} {f : Nat} {x x' v : Value} (hx : VRel ι x x') (h : fieldD P s f x = some v) :
    ∃ v', (Instr.field s x' f).run P w = .ok v' w ∧ VRel ι v v' := by
  unfold fieldD at h
  split at h <;> try (simp at h; done)
  rename_i cs
  split at h <;> try (simp at h; done)
  rename_i fields hu
  split at h <;> try (simp at h; done)
  rename_i fd hf
  obtain ⟨cs', rfl, hcs⟩ := hx.inv_agg
  obtain ⟨v', hv', hr⟩ := part_rel hcs h
  have hf' : fields[f]? = some fd := by simpa using hf
  exact ⟨v', by simp [Instr.field, run_und hu, hf', asAgg, run_part hv'], hr⟩
theorem indexAddrD_ok {s : TypeId} {x x' i v : Value} (hx : VRel ι x x') (h : indexAddrD P s x i = some v) :
    ∃ v', (Instr.indexAt s x' i).run P w = .ok v' w ∧ VRel ι v v' := by
  unfold indexAddrD at h
  split at h <;> try (simp at h; done)
  rename_i k j
  split at h <;> try (simp at h; done)
  · rename_i len elem hu
    split at h <;> try (simp at h; done)
    rename_i b off
    split at h <;> try (simp at h; done)
    rename_i sz hs
    split at h <;> simp at h
    rename_i hb
    obtain ⟨L, hL, rfl⟩ := hx.inv_ptr
    subst h
    refine ⟨.pointer (some ⟨L.block, L.base + (off + j.toNat * sz), none⟩), ?_, .ptr _ _ _ hL⟩
    simp [Instr.indexAt, asIntOf, run_und hu, Instr.sureAddr, hb, run_sizeOf' hs, Addr.add_none, Nat.add_assoc]
  · rename_i elem hu
    split at h <;> try (simp at h; done)
    rename_i b off sp len cap
    split at h <;> try (simp at h; done)
    rename_i sz hs
    split at h <;> simp at h
    rename_i hb
    subst h
    cases hx with
    | slc _ _ _ _ L hL =>
      refine ⟨.pointer (some ⟨L.block, L.base + (off + j.toNat * sz), none⟩), ?_, .ptr _ _ _ hL⟩
      simp [Instr.indexAt, asIntOf, run_und hu, Instr.sureAddr, hb, run_sizeOf' hs, Addr.add_none, Nat.add_assoc]
    | loose _ _ _ _ _ _ L hL hc htot =>
      refine ⟨.pointer (some ⟨L.block, L.base + (off + j.toNat * sz), none⟩), ?_, .ptr _ _ _ hL⟩
      simp [Instr.indexAt, asIntOf, run_und hu, Instr.sureAddr, hb, run_sizeOf' hs, Addr.add_none, Nat.add_assoc]
    | loose0 _ _ _ _ _ L hL htot => simp at hb; omega
    | empty => simp at hb; omega
theorem indexD_ok {s : TypeId} {x x' i v : Value} (hx : VRel ι x x') (h : indexD P s x i = some v) :
    ∃ v', (Instr.index s x' i).run P w = .ok v' w ∧ VRel ι v v' := by
  unfold indexD at h
  split at h <;> try (simp at h; done)
  rename_i k j
  split at h <;> try (simp at h; done)
  · rename_i len elem hu
    split at h <;> try (simp at h; done)
    rename_i cs
    split at h <;> try (simp at h; done)
    rename_i sz hs
    split at h <;> try (simp at h; done)
    rename_i hb
    obtain ⟨cs', rfl, hcs⟩ := hx.inv_agg
    obtain ⟨v', hv', hr⟩ := part_rel hcs h
    refine ⟨v', ?_, hr⟩
    simp [Instr.index, asIntOf, run_und hu, hb, run_sizeOf' hs, run_part hv']
  · rename_i hu
    split at h <;> try (simp at h; done)
    rename_i q
    split at h <;> try (simp at h; done)
    rename_i hj
    split at h <;> simp at h
    rename_i u hb
    subst h
    cases hx
    refine ⟨_, ?_, .int _ _⟩
    have hb' : q[j.toNat]? = some u := by
      have h1 : q.data[j.toNat]? = some u := by simpa using hb
      rw [← h1]
      simp only [getElem?_def]
      rfl
    simp [Instr.index, asIntOf, run_und hu, hj, hb']
theorem boundD_run {y y' : Nat} (hy : y ≤ y') {x : Value} {d r : Nat} (h : boundD y (some x) d = some r) (code : BoundsCode) : (Instr.sliceBound x y' code).run P w = .ok r w ∧ r ≤ y := by
  cases x <;> simp only [boundD] at h <;> try (simp at h; done)
  split at h <;> simp at h
  rename_i k i hb
  subst h
  have : 0 ≤ i ∧ i ≤ (y' : Int) := by omega
  exact ⟨by simp [Instr.sliceBound, asIntOf, this], by omega⟩
theorem boundsD_run {len cap cap' : Nat} (hc : cap ≤ cap') {lo hi mx : Option Value} {l h' m' : Nat} (h : boundsD len cap lo hi mx = some (l, h', m')) (b : Bool) :
    (Instr.sliceBounds b len cap' lo hi mx).run P w = .ok (l, h', if mx.isSome then m' else cap') w ∧ (mx.isSome = false → m' = cap) ∧ m' ≤ cap ∧ (lo.isSome = false → l = 0) ∧ (lo.isSome = true → l ≤ h') ∧ (hi.isSome = true → h' ≤ m') ∧ (hi.isSome = false → h' = len) := by
  unfold boundsD at h
  split at h
  · simp at h
  · rename_i hne
    split at h <;> try (simp at h; done)
    rename_i m₁ hm
    split at h <;> try (simp at h; done)
    rename_i h₁ hh
    split at h <;> simp at h
    rename_i l₁ hl
    obtain ⟨rfl, rfl, rfl⟩ := h
    cases mx with
    | none =>
      simp [boundD] at hm; subst hm
      cases hi with
      | none =>
        simp [boundD] at hh; subst hh
        cases lo with
        | none => simp [boundD] at hl; subst hl; simp [Instr.sliceBounds]
        | some lo => obtain ⟨e1, e2⟩ := boundD_run (P := P) (w := w) (Nat.le_refl _) hl .sliceB; simp [Instr.sliceBounds, e1, e2]
      | some hi =>
        obtain ⟨e3, e4⟩ := boundD_run (P := P) (w := w) hc hh (if b then .sliceAcap else .sliceAlen)
        cases lo with
        | none => simp [boundD] at hl; subst hl; simp [Instr.sliceBounds, e3, e4]
        | some lo => obtain ⟨e1, e2⟩ := boundD_run (P := P) (w := w) (Nat.le_refl _) hl .sliceB; simp [Instr.sliceBounds, e1, e2, e3, e4]
    | some mx =>
      obtain ⟨e5, e6⟩ := boundD_run (P := P) (w := w) hc hm (if b then .slice3Acap else .slice3Alen)
      cases hi with
      | none => exact absurd rfl (hne mx rfl)
      | some hi =>
        obtain ⟨e3, e4⟩ := boundD_run (P := P) (w := w) (Nat.le_refl _) hh .slice3B
        cases lo with
        | none => simp [boundD] at hl; subst hl; simp [Instr.sliceBounds, e3, e4, e5, e6]
        | some lo => obtain ⟨e1, e2⟩ := boundD_run (P := P) (w := w) (Nat.le_refl _) hl .slice3C; simp [Instr.sliceBounds, e1, e2, e3, e4, e5, e6]
theorem bounds_none {ι : Ren} {x x' : Option Value} (h : match x, x' with | none, none => True | some v, some v' => VRel ι v v' | _, _ => False) : x.isSome = x'.isSome := by
  cases x <;> cases x' <;> simp_all
def ORel (ι : Ren) : Option Value → Option Value → Prop
  | none, none => True
  | some v, some v' => VRel ι v v'
  | _, _ => False
theorem boundD_rel {ι : Ren} {y d : Nat} {x x' : Option Value} (h : ORel ι x x') {r : Nat} (hb : boundD y x d = some r) : boundD y x' d = some r := by
  cases x <;> cases x' <;> simp only [ORel] at h
  · exact hb
  · rename_i v v'
    cases v <;> simp only [boundD] at hb <;> try (simp at hb; done)
    cases h; exact hb
theorem boundsD_rel {ι : Ren} {len cap : Nat} {lo lo' hi hi' mx mx' : Option Value} (h1 : ORel ι lo lo') (h2 : ORel ι hi hi') (h3 : ORel ι mx mx') {r : Nat × Nat × Nat} (h : boundsD len cap lo hi mx = some r) :
    boundsD len cap lo' hi' mx' = some r := by
  unfold boundsD at h ⊢
  split at h
  · simp at h
  · rename_i hne
    split at h <;> try (simp at h; done)
    rename_i m₁ hm
    split at h <;> try (simp at h; done)
    rename_i h₁ hh
    split at h <;> simp at h
    rename_i l₁ hl
    have hne' : ∀ (v : Value), mx' = some v → hi' = none → False := by
      intro v e1 e2
      subst e1 e2
      cases mx <;> cases hi <;> simp_all [ORel]
    split
    · exact (hne' _ rfl rfl).elim
    · simp [boundD_rel h3 hm, boundD_rel h2 hh, boundD_rel h1 hl, h]
theorem sliceD_ok {s : TypeId} {x x' v : Value} {lo lo' hi hi' mx mx' : Option Value} (hx : VRel ι x x') (h1 : ORel ι lo lo') (h2 : ORel ι hi hi') (h3 : ORel ι mx mx') (h : sliceD P s x lo hi mx = some v) :
    ∃ v', (Instr.sliceAt s x' lo' hi' mx').run P w = .ok v' w ∧ VRel ι v v' := by
  have hsome : mx'.isSome = mx.isSome := by cases mx <;> cases mx' <;> simp_all [ORel]
  unfold sliceD at h
  split at h <;> try (simp at h; done)
  · rename_i hu
    split at h <;> try (simp at h; done)
    rename_i q
    split at h <;> try (simp at h; done)
    split at h <;> simp at h
    rename_i l h' m₁ hb
    subst h
    cases hx
    have hb' := boundsD_rel h1 h2 h3 hb
    obtain ⟨e, _⟩ := boundsD_run (P := P) (w := w) (Nat.le_refl _) hb' false
    cases mx' <;> simp [ORel] at h3
    refine ⟨_, ?_, .string _⟩
    simp at e
    simp [Instr.sliceAt, run_und hu, Instr.slice, e]
  · rename_i elem hu
    split at h <;> try (simp at h; done)
    · rename_i len cap
      split at h <;> simp at h
      rename_i l h' m₁ sz hb hsz
      subst h
      cases hx
      have hb' := boundsD_rel h1 h2 h3 hb
      obtain ⟨e, g1, _⟩ := boundsD_run (P := P) (w := w) (Nat.le_refl _) hb' true
      have e2 : (if mx'.isSome = true then m₁ else cap) = m₁ := by
        cases hm : mx'.isSome
        · simp [g1 hm]
        · simp
      rw [e2] at e
      refine ⟨.slice none (h' - l) (m₁ - l), ?_, .slc0 _ _⟩
      simp [Instr.sliceAt, run_und hu, Instr.slice, e, run_sizeOf' hsz]
    · rename_i b off len cap
      split at h <;> simp at h
      rename_i l h' m₁ sz hb hsz
      subst h
      cases hx with
      | slc _ _ _ _ L hL =>
        have hb' := boundsD_rel h1 h2 h3 hb
        obtain ⟨e, g1, _⟩ := boundsD_run (P := P) (w := w) (Nat.le_refl _) hb' true
        have e2 : (if mx'.isSome = true then m₁ else cap) = m₁ := by
          cases hm : mx'.isSome
          · simp [g1 hm]
          · simp
        rw [e2] at e
        by_cases hml : m₁ = l
        · refine ⟨.slice (some ⟨L.block, L.base + off, none⟩) (h' - l) (m₁ - l), ?_, by simp only [hml, if_true]; exact .slc _ _ _ _ _ hL⟩
          simp [Instr.sliceAt, run_und hu, Instr.slice, e, run_sizeOf' hsz, hml]
        · refine ⟨.slice (some ⟨L.block, L.base + (off + l * sz), none⟩) (h' - l) (m₁ - l), ?_, by simp only [hml, if_false]; exact .slc _ _ _ _ _ hL⟩
          simp [Instr.sliceAt, run_und hu, Instr.slice, e, run_sizeOf' hsz, hml, Addr.add_none, Nat.add_assoc]
    · rename_i b off e₀ len cap
      split at h <;> try (simp at h; done)
      rename_i l h' m₁ sz hb hsz
      split at h <;> try (simp at h; done)
      rename_i hc
      obtain ⟨rfl, hlh, hhm⟩ := hc
      have hb' := boundsD_rel h1 h2 h3 hb
      cases hx with
      | loose _ _ _ _ _ cap' L hL hcc htot =>
        obtain ⟨e, g1, g2, _⟩ := boundsD_run (P := P) (w := w) hcc hb' true
        cases hm : mx'.isSome
        · have hm2 : mx.isSome = false := by rw [← hsome, hm]
          have g1' := g1 hm
          rw [hm2] at h
          simp at h
          subst h
          rw [hm] at e
          simp only [Bool.false_eq_true, if_false] at e
          by_cases hml : cap' = l
          · have h0 : h' - l = 0 := by omega
            have h4 : m₁ - l = 0 := by omega
            refine ⟨.slice (some ⟨L.block, L.base + off, none⟩) (h' - l) (cap' - l), ?_, ?_⟩
            · simp [Instr.sliceAt, run_und hu, Instr.slice, e, run_sizeOf' hsz]; simp [hml]
            · rw [h0, h4]; exact .loose0 _ _ _ _ _ L hL (by rw [hml]; simp; omega)
          · refine ⟨.slice (some ⟨L.block, L.base + (off + l * sz), none⟩) (h' - l) (cap' - l), ?_, ?_⟩
            · simp [Instr.sliceAt, run_und hu, Instr.slice, e, run_sizeOf' hsz, hml, Addr.add_none, Nat.add_assoc]
            · refine .loose _ _ _ _ _ _ L hL (by omega) ?_
              have : l * sz + (cap' - l) * sz = cap' * sz := by rw [← Nat.add_mul]; congr 1; omega
              omega
        · have hm2 : mx.isSome = true := by rw [← hsome, hm]
          rw [hm2] at h
          simp only [if_true] at h
          rw [hm] at e
          simp only [if_true] at e
          by_cases hml : m₁ = l
          · simp only [hml, if_true] at h
            simp at h; subst h
            have h0 : h' - l = 0 := by omega
            refine ⟨.slice (some ⟨L.block, L.base + off, none⟩) (h' - l) (m₁ - l), ?_, ?_⟩
            · simp [Instr.sliceAt, run_und hu, Instr.slice, e, run_sizeOf' hsz, hml]
            · rw [h0]; exact .loose0 _ _ _ _ _ L hL (by rw [hml]; simp; omega)
          · simp only [hml, if_false] at h
            simp at h; subst h
            refine ⟨.slice (some ⟨L.block, L.base + (off + l * sz), none⟩) (h' - l) (m₁ - l), ?_, .slc _ _ _ _ _ hL⟩
            simp [Instr.sliceAt, run_und hu, Instr.slice, e, run_sizeOf' hsz, hml, Addr.add_none, Nat.add_assoc]
      | loose0 _ _ _ o' cap' L hL htot =>
        obtain ⟨e, g1, g2, _⟩ := boundsD_run (P := P) (w := w) (Nat.zero_le cap') hb' true
        have z1 : m₁ = 0 := by omega
        have z2 : h' = 0 := by omega
        have z3 : l = 0 := by omega
        subst z1 z2 z3
        cases hm : mx'.isSome
        · have hm2 : mx.isSome = false := by rw [← hsome, hm]
          rw [hm2] at h
          simp at h
          subst h
          rw [hm] at e
          simp only [Bool.false_eq_true, if_false] at e
          refine ⟨.slice (some ⟨L.block, o', none⟩) 0 cap', ?_, .loose0 _ _ _ _ _ L hL htot⟩
          simp [Instr.sliceAt, run_und hu, Instr.slice, e, run_sizeOf' hsz, Addr.add_none]
        · have hm2 : mx.isSome = true := by rw [← hsome, hm]
          rw [hm2] at h
          simp at h
          subst h
          rw [hm] at e
          simp only [if_true] at e
          refine ⟨.slice (some ⟨L.block, o', none⟩) 0 0, ?_, .loose0 _ _ _ _ _ L hL (by simp; omega)⟩
          simp [Instr.sliceAt, run_und hu, Instr.slice, e, run_sizeOf' hsz, Addr.add_none]
      | empty b off e₁ ad =>
        obtain ⟨e, g1, g2, _⟩ := boundsD_run (P := P) (w := w) (Nat.le_refl 0) hb' true
        have z1 : m₁ = 0 := by omega
        have z2 : h' = 0 := by omega
        have z3 : l = 0 := by omega
        subst z1 z2 z3
        cases hm : mx'.isSome
        · have hm2 : mx.isSome = false := by rw [← hsome, hm]
          rw [hm2] at h
          simp at h
          subst h
          rw [hm] at e
          simp only [Bool.false_eq_true, if_false] at e
          refine ⟨.slice (some ad) 0 0, ?_, .empty _ _ _ _⟩
          simp [Instr.sliceAt, run_und hu, Instr.slice, e, run_sizeOf' hsz]
        · have hm2 : mx.isSome = true := by rw [← hsome, hm]
          rw [hm2] at h
          simp at h
          subst h
          rw [hm] at e
          simp only [if_true] at e
          refine ⟨.slice (some ad) 0 0, ?_, .empty _ _ _ _⟩
          simp [Instr.sliceAt, run_und hu, Instr.slice, e, run_sizeOf' hsz]
  · rename_i len elem hu
    split at h <;> try (simp at h; done)
    rename_i b off
    split at h <;> simp at h
    rename_i l h' m₁ sz hb hsz
    subst h
    obtain ⟨L, hL, rfl⟩ := hx.inv_ptr
    have hb' := boundsD_rel h1 h2 h3 hb
    obtain ⟨e, g1, _⟩ := boundsD_run (P := P) (w := w) (Nat.le_refl _) hb' false
    have e2 : (if mx'.isSome = true then m₁ else len) = m₁ := by
      cases hm : mx'.isSome
      · simp [g1 hm]
      · simp
    rw [e2] at e
    by_cases hml : m₁ = l
    · refine ⟨.slice (some ⟨L.block, L.base + off, none⟩) (h' - l) (m₁ - l), ?_, by simp only [hml, if_true]; exact .slc _ _ _ _ _ hL⟩
      simp [Instr.sliceAt, run_und hu, Instr.sureAddr, e, run_sizeOf' hsz, hml]
    · refine ⟨.slice (some ⟨L.block, L.base + (off + l * sz), none⟩) (h' - l) (m₁ - l), ?_, by simp only [hml, if_false]; exact .slc _ _ _ _ _ hL⟩
      simp [Instr.sliceAt, run_und hu, Instr.sureAddr, e, run_sizeOf' hsz, hml, Addr.add_none, Nat.add_assoc]
end
end Go.DI
