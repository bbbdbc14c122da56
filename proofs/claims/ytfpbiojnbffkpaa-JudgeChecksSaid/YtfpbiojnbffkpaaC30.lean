/-
  DiData: ARGUMENTS OF PLAIN DATA (bools, integers, strings, slices, structs, arrays of such): what a row's claim hands in ('DataW.trod') laid into the interpreter's memory, one block a slice.
-/
import Derived.Test.YtfpbiojnbffkpaaC10
import Derived.Carry
import Derived.ChangeArms
import Derived.OpenShut
import Derived.ChangeShapes
import Derived.Test.YtfpbiojnbffkpaaC18
import Derived.Test.YtfpbiojnbffkpaaC28
import Derived.Test.YtfpbiojnbffkpaaC29
set_option linter.all false
set_option linter.unusedVariables false
set_option linter.unusedSimpArgs false
namespace Go.DI
open Go.RowKit Go.ChangeShapes Go.WideShapes
inductive Dt where
  | bo (b : Bool)
  | int (k : IntKind) (n : Int)
  | str (s : ByteArray)
  | nil
  | sl (l : List Dt) (cap : Nat)
  | ag (l : List Dt)
mutual
def Rep (m : Mem) : Dt → List Value → Prop
  | .bo b, cs => cs = [.bool b]
  | .int k n, cs => cs = [.int k n]
  | .str s, cs => cs = [.string s]
  | .nil, cs => cs = [.slice none 0 0]
  | .sl l cap, cs => ∃ b sp c, cs = [.slice (some ⟨b, 0, sp⟩) l.length cap] ∧ b < m.size ∧ m.get b = .cells false c ∧ Reps m l c ∧ (sp = none ∨ l = [] ∧ cap = 0)
  | .ag l, cs => Reps m l cs
def Reps (m : Mem) : List Dt → List Value → Prop
  | [], cs => cs = []
  | d :: l, cs => ∃ c1 c2, cs = c1 ++ c2 ∧ Rep m d c1 ∧ Reps m l c2
end
def all2 {α β : Type} (R : α → β → Prop) : List α → List β → Prop
  | [], [] => True
  | a :: l, b :: l' => R a b ∧ all2 R l l'
  | _, _ => False
theorem all2_nil {α β : Type} {R : α → β → Prop} {l' : List β} (h : all2 R [] l') : l' = [] := by cases l' <;> simp_all [all2]
theorem all2_cons {α β : Type} {R : α → β → Prop} {a : α} {l : List α} {l' : List β} (h : all2 R (a :: l) l') : ∃ b t, l' = b :: t ∧ R a b ∧ all2 R l t := by
  cases l' with
  | nil => exact h.elim
  | cons b t => exact ⟨b, t, rfl, h.1, h.2⟩
theorem all2_replicate {α β : Type} {R : α → β → Prop} {a : α} : ∀ {n : Nat} {l : List β}, all2 R (List.replicate n a) l → l.length = n ∧ ∀ x ∈ l, R a x
  | 0, l, h => by rw [List.replicate_zero] at h; rw [all2_nil h]; simp
  | n + 1, l, h => by
    rw [List.replicate_succ] at h
    obtain ⟨b, t, rfl, h1, h2⟩ := all2_cons h
    obtain ⟨g1, g2⟩ := all2_replicate h2
    refine ⟨by simp [g1], fun x hx => ?_⟩
    rcases List.mem_cons.1 hx with rfl | hx
    · exact h1
    · exact g2 x hx
section
variable {P : Program}
def Typed (P : Program) : Nat → TypeId → Dt → Prop
  | 0, _, _ => False
  | n + 1, t, d => match P.underlying t with
    | some .bool => ∃ b, d = .bo b
    | some (.int k) => ∃ x, d = .int k x ∧ (Lit.int k x).wf = true
    | some .string => ∃ s, d = .str s ∧ s.size ≤ maxLen
    | some (.slice e) => d = .nil ∨ ∃ l cap, d = .sl l cap ∧ l.length ≤ cap ∧ cap ≤ maxLen ∧ ∀ x ∈ l, Typed P n e x
    | some (.struct fs) => ∃ l, d = .ag l ∧ all2 (fun f x => Typed P n f x) (fs.toList.map (·.type)) l
    | some (.array k e) => ∃ l, d = .ag l ∧ l.length = k ∧ ∀ x ∈ l, Typed P n e x
    | _ => False
def contig (P : Program) (tot : Nat) : Nat → List Field → Bool
  | off, [] => Nat.beq off tot
  | off, f :: l => Nat.beq f.offset off && contig P tot (off + P.cellsOf f.type) l
def dataT (P : Program) : Nat → TypeId → Bool
  | 0, _ => false
  | n + 1, t => match P.underlying t with
    | some .bool => true
    | some (.int _) => true
    | some .string => true
    | some (.slice e) => Nat.blt 0 (P.cellsOf e) && dataT P n e
    | some (.struct fs) => (fs.toList.all fun f => dataT P n f.type) && contig P (P.cellsOf t) 0 fs.toList
    | some (.array k e) => dataT P n e && Nat.beq (P.cellsOf t) (k * P.cellsOf e)
    | _ => false
structure R0 (B0 : Nat) (ι : Ren) (m : Mem) (w : World) : Prop where
  rel : Rel B0 0 ι m w
  fresh : ∀ b, m.size ≤ b → ι b = none
structure MLe (ι ι' : Ren) (m m' : Mem) : Prop where
  ren : ι.le ι'
  size : m.size ≤ m'.size
  get : ∀ b, b < m.size → m'.get b = m.get b
theorem MLe.refl (ι : Ren) (m : Mem) : MLe ι ι m m := ⟨fun _ _ h => h, Nat.le_refl _, fun _ _ => rfl⟩
theorem MLe.trans {ι ι₁ ι₂ : Ren} {m m₁ m₂ : Mem} (h : MLe ι ι₁ m m₁) (k : MLe ι₁ ι₂ m₁ m₂) : MLe ι ι₂ m m₂ :=
  ⟨fun b L hb => k.ren _ _ (h.ren _ _ hb), Nat.le_trans h.size k.size, fun b hb => (k.get b (Nat.lt_of_lt_of_le hb h.size)).trans (h.get b hb)⟩
mutual
theorem Rep.ext {ι ι' : Ren} {m m' : Mem} (e : MLe ι ι' m m') : ∀ (d : Dt) (cs : List Value), Rep m d cs → Rep m' d cs
  | .bo _, _, h => by simpa only [Rep] using h
  | .int _ _, _, h => by simpa only [Rep] using h
  | .str _, _, h => by simpa only [Rep] using h
  | .nil, _, h => by simpa only [Rep] using h
  | .sl l cap, cs, h => by
    simp only [Rep] at h ⊢
    obtain ⟨b, sp, c, h1, h2, h3, h4, h5⟩ := h
    exact ⟨b, sp, c, h1, Nat.lt_of_lt_of_le h2 e.size, (e.get b h2).trans h3, Reps.ext e l c h4, h5⟩
  | .ag l, cs, h => by
    simp only [Rep] at h ⊢
    exact Reps.ext e l cs h
theorem Reps.ext {ι ι' : Ren} {m m' : Mem} (e : MLe ι ι' m m') : ∀ (l : List Dt) (cs : List Value), Reps m l cs → Reps m' l cs
  | [], _, h => by simpa only [Reps] using h
  | d :: l, cs, h => by
    simp only [Reps] at h ⊢
    obtain ⟨c1, c2, h1, h2, h3⟩ := h
    exact ⟨c1, c2, h1, Rep.ext e d c1 h2, Reps.ext e l c2 h3⟩
end
theorem R0.push {B0 : Nat} {ι : Ren} {m : Mem} {w : World} (h : R0 B0 ι m w) (c : List Value) (L : Loc) (hL : L.block < B0) (hb : BlkRel B0 ι (.cells false c) L w) :
    R0 B0 (fun b => if b = m.size then some L else ι b) (m.push (.cells false c)) w ∧ MLe ι (fun b => if b = m.size then some L else ι b) m (m.push (.cells false c)) := by
  have hn := h.fresh m.size (Nat.le_refl _)
  have hle : ι.le (fun b => if b = m.size then some L else ι b) := by
    intro b L' hb
    have : b ≠ m.size := by intro e; rw [e, hn] at hb; cases hb
    simp [this, hb]
  have hr := h.rel
  refine ⟨⟨⟨fun b L' hb' hL' => ?_, fun b₁ b₂ L₁ L₂ h1 h2 h3 h4 l1 l2 g0 e => ?_, hr.floor, fun g hg => absurd hg (Nat.not_lt_zero _), fun b hb' => ?_⟩, fun b hb' => ?_⟩, ⟨hle, by simp, fun b hb' => Mem.get_push_ne _ (by omega) _⟩⟩
  · rw [Mem.get_push]
    by_cases e : b = m.size
    · subst e; simp at hL'; subst hL'; simpa using hb.mono hle rfl
    · simp only [e, if_false] at hL' ⊢
      simp at hb'
      exact (hr.blk b L' (by omega) hL').mono hle rfl
  · simp at h1 h2
    by_cases e1 : b₁ = m.size
    · simp [e1] at h3; subst h3; omega
    · by_cases e2 : b₂ = m.size
      · simp [e2] at h4; subst h4; omega
      · simp [e1] at h3; simp [e2] at h4
        rw [Mem.get_push_ne _ e1] at l1
        rw [Mem.get_push_ne _ e2] at l2
        exact hr.inj b₁ b₂ L₁ L₂ (by omega) (by omega) h3 h4 l1 l2 g0 e
  · simp at hb'; rw [Mem.get_push_ne _ (by omega)]; exact hr.top b (by omega)
  · simp at hb'
    have : b ≠ m.size := by omega
    simp only [this, if_false]
    exact h.fresh b (by omega)
theorem R0.blank {B0 : Nat} {ι : Ren} {m : Mem} {w : World} (h : R0 B0 ι m w) : R0 B0 ι (m.push (.cells false [])) w ∧ MLe ι ι m (m.push (.cells false [])) := by
  have hn := h.fresh m.size (Nat.le_refl _)
  have hr := h.rel
  refine ⟨⟨⟨fun b L' hb' hL' => ?_, fun b₁ b₂ L₁ L₂ h1 h2 h3 h4 l1 l2 g0 e => ?_, hr.floor, fun g hg => absurd hg (Nat.not_lt_zero _), fun b hb' => ?_⟩, fun b hb' => h.fresh b (by simp at hb'; omega)⟩, ⟨fun _ _ h => h, by simp, fun b hb' => Mem.get_push_ne _ (by omega) _⟩⟩
  · have e : b ≠ m.size := by intro e; rw [e, hn] at hL'; cases hL'
    simp at hb'
    rw [Mem.get_push_ne _ e]
    exact hr.blk b L' (by omega) hL'
  · have e1 : b₁ ≠ m.size := by intro e; rw [e, hn] at h3; cases h3
    have e2 : b₂ ≠ m.size := by intro e; rw [e, hn] at h4; cases h4
    simp at h1 h2
    rw [Mem.get_push_ne _ e1] at l1
    rw [Mem.get_push_ne _ e2] at l2
    exact hr.inj b₁ b₂ L₁ L₂ (by omega) (by omega) h3 h4 l1 l2 g0 e
  · simp at hb'; rw [Mem.get_push_ne _ (by omega)]; exact hr.top b (by omega)
def m00 : Mem := ⟨fun _ => .none, .nil, 0⟩
theorem R0.start (w : World) : R0 w.heap.size (fun _ => none) m00 w := ⟨⟨fun b L h => absurd h (Nat.not_lt_zero _), fun b₁ b₂ L₁ L₂ h1 => absurd h1 (Nat.not_lt_zero _), Nat.le_refl _, fun g hg => absurd hg (Nat.not_lt_zero _), fun _ _ => rfl⟩, fun _ _ => rfl⟩
section
variable {H : Type} {enc : TypeId × Value → H} {w : World} {B0 : Nat}
def Bound (B0 : Nat) (ps : List MemPlace) : Prop := ∀ p ∈ ps, p.block < B0
def Imp (P : Program) (w : World) (B0 n : Nat) (t : TypeId) (cs : List Value) : Prop :=
  ∀ (ι : Ren) (m : Mem), R0 B0 ι m w → ∃ d ι' m' c', Typed P n t d ∧ Rep m' d c' ∧ VRels ι' c' cs ∧ R0 B0 ι' m' w ∧ MLe ι ι' m m'
theorem imp_seq {n : Nat} : ∀ (ts : List TypeId) (css : List (List Value)), all2 (fun t cs => Imp P w B0 n t cs) ts css → ∀ (ι : Ren) (m : Mem), R0 B0 ι m w →
    ∃ l ι' m' c', all2 (fun t d => Typed P n t d) ts l ∧ Reps m' l c' ∧ VRels ι' c' css.flatten ∧ R0 B0 ι' m' w ∧ MLe ι ι' m m'
  | [], css, h, ι, m, hr => by
    rw [all2_nil h]
    exact ⟨[], ι, m, [], trivial, by simp [Reps], .nil, hr, MLe.refl _ _⟩
  | t :: ts, css, h, ι, m, hr => by
    obtain ⟨cs, css', rfl, h1, h2⟩ := all2_cons h
    obtain ⟨d, ι1, m1, c1, k1, k2, k3, k4, k5⟩ := h1 ι m hr
    obtain ⟨l, ι2, m2, c2, g1, g2, g3, g4, g5⟩ := imp_seq ts css' h2 ι1 m1 k4
    refine ⟨d :: l, ι2, m2, c1 ++ c2, ⟨k1, g1⟩, ?_, ?_, g4, k5.trans g5⟩
    · simp only [Reps]; exact ⟨c1, c2, rfl, Rep.ext g5 d c1 k2, g2⟩
    · rw [List.flatten_cons]; exact (VRels.mono g5.ren k3).append g3
def Cells (w : World) (a : Addr) (l : List Value) : Prop := ∀ i, i < l.length → w.cell? (a.add i) = l[i]?
theorem Addr.add_block (a : Addr) (i : Nat) : (a.add i).block = a.block := by unfold Addr.add; split <;> rfl
theorem Addr.add_off (a : Addr) (i : Nat) : (a.add i).off = a.off + i := by
  unfold Addr.add
  split
  · rename_i h; simp [h]
  · rfl
theorem Addr.add_add (a : Addr) (i j : Nat) : (a.add i).add j = a.add (i + j) := by
  unfold Addr.add
  by_cases hi : i = 0
  · subst hi; simp
  · by_cases hj : j = 0
    · subst hj; simp [hi]
    · simp [hi, hj, Nat.add_assoc]
theorem Cells.append {a : Addr} {l l' : List Value} (h : Cells w a l) (k : Cells w (a.add l.length) l') : Cells w a (l ++ l') := by
  intro i hi
  rcases Nat.lt_or_ge i l.length with h1 | h1
  · rw [List.getElem?_append_left h1]; exact h i h1
  · rw [List.getElem?_append_right h1, ← k (i - l.length) (by simp at hi; omega), Addr.add_add, show l.length + (i - l.length) = i by omega]
theorem range_flat {a : Addr} {sz : Nat} (ch : Nat → List Value) : ∀ (n : Nat), (∀ i, i < n → (ch i).length = sz ∧ Cells w (a.add (i * sz)) (ch i)) → ((List.range n).map ch).flatten.length = n * sz ∧ Cells w a ((List.range n).map ch).flatten
  | 0, h => ⟨by simp, fun i hi => by simp at hi⟩
  | n + 1, h => by
    obtain ⟨h1, h2⟩ := range_flat ch n (fun i hi => h i (by omega))
    obtain ⟨h3, h4⟩ := h n (by omega)
    rw [List.range_succ, List.map_append, List.flatten_append]
    refine ⟨by simp [h1, h3, Nat.succ_mul], h2.append ?_⟩
    rw [h1]; simpa using h4
theorem cell_block {a : Addr} {v : Value} (h : w.cell? a = some v) : a.spot = none ∧ ∃ rc e fr, w.heap[a.block]? = some (.cells rc e fr) ∧ rc[a.off]? = some v := by
  unfold World.cell? at h
  split at h
  · rename_i c e fr hc
    split at h
    · cases h
    · rename_i hs
      refine ⟨by simpa using hs, c, e, fr, hc, h⟩
  · cases h
theorem drop_part (l : List Value) (off n tot : Nat) (h : l.length = tot) : (l.drop off).take n ++ l.drop (off + n) = l.drop off := by
  rw [← List.drop_drop, List.take_append_drop]
theorem fields_flat {cs : List Value} : ∀ (fs : List Field) (off : Nat), contig P cs.length off fs = true → off ≤ cs.length → (fs.map fun f => (cs.drop f.offset).take (P.cellsOf f.type)).flatten = cs.drop off
  | [], off, h, _ => by
    have := Nat.eq_of_beq_eq_true h
    subst this
    simp
  | f :: fs, off, h, ho => by
    simp only [contig, Bool.and_eq_true] at h
    have h1 := Nat.eq_of_beq_eq_true h.1
    have hle : off + P.cellsOf f.type ≤ cs.length := by
      clear ho h1
      have : ∀ (l : List Field) (o : Nat), contig P cs.length o l = true → o ≤ cs.length := by
        intro l
        induction l with
        | nil => intro o h; exact Nat.le_of_eq (Nat.eq_of_beq_eq_true h)
        | cons g l ih => intro o h; simp only [contig, Bool.and_eq_true] at h; have := ih _ h.2; omega
      exact this _ _ h.2
    have ih := fields_flat fs (off + P.cellsOf f.type) h.2 hle
    rw [List.map_cons, List.flatten_cons, ih, h1]
    exact drop_part cs off _ _ rfl
theorem chunks_flat {cs : List Value} {sz : Nat} : ∀ (n off : Nat), cs.length = off + n * sz → ((List.range n).map fun i => (cs.drop (off + i * sz)).take sz).flatten = cs.drop off
  | 0, off, h => by simp at h; subst h; simp
  | n + 1, off, h => by
    have ih := chunks_flat (cs := cs) (sz := sz) n (off + sz) (by rw [h, Nat.succ_mul]; omega)
    rw [List.range_succ_eq_map, List.map_cons, List.flatten_cons, List.map_map]
    have e : (List.range n).map ((fun i => (cs.drop (off + i * sz)).take sz) ∘ Nat.succ) = (List.range n).map fun i => (cs.drop (off + sz + i * sz)).take sz := by
      apply List.map_congr_left
      intro i _
      simp only [Function.comp]
      congr 2
      rw [Nat.succ_mul]; omega
    rw [e, ih]
    simp only [Nat.zero_mul, Nat.add_zero]
    exact drop_part cs off _ _ rfl
theorem all2_of_get {α β : Type} {R : α → β → Prop} : ∀ {l : List α} {l' : List β}, l.length = l'.length → (∀ (i : Nat) (a : α) (b : β), l[i]? = some a → l'[i]? = some b → R a b) → all2 R l l'
  | [], [], _, _ => trivial
  | [], _ :: _, h, _ => by simp at h
  | _ :: _, [], h, _ => by simp at h
  | a :: l, b :: l', h, k => ⟨k 0 a b rfl rfl, all2_of_get (by simpa using h) fun i x y hx hy => k (i + 1) x y (by simpa using hx) (by simpa using hy)⟩
set_option maxHeartbeats 1000000 in
theorem imp_trod : ∀ (n : Nat) (t : TypeId), dataT P n t = true → ∀ (fuel : Nat) (cs : List Value) (x : DataW H × List MemPlace), DataW.trod enc P w 0 (fun _ => true) true fuel t cs = some x → Bound B0 x.2 → Imp P w B0 n t cs
  | 0, t, hd, _, _, _, _, _ => by simp [dataT] at hd
  | n + 1, t, hd, fuel, cs, x, h, hB => by
    intro ι m hr
    unfold dataT at hd
    split at hd
    · rename_i ht
      obtain ⟨b, rfl, _⟩ := DataW.trod_bool ht h
      exact ⟨.bo b, ι, m, [.bool b], by simp [Typed, ht], by simp [Rep], .cons (.bool _) .nil, hr, MLe.refl _ _⟩
    · rename_i k ht
      obtain ⟨z, rfl, _, hw⟩ := DataW.trod_int ht h
      exact ⟨.int k z, ι, m, [.int k z], by simp [Typed, ht, hw], by simp [Rep], .cons (.int _ _) .nil, hr, MLe.refl _ _⟩
    · rename_i ht
      obtain ⟨s, rfl, _, hs⟩ := DataW.trod_string ht h
      exact ⟨.str s, ι, m, [.string s], by simp [Typed, ht, hs], by simp [Rep], .cons (.string _) .nil, hr, MLe.refl _ _⟩
    · rename_i e ht
      simp only [Bool.and_eq_true] at hd
      have hpos : 0 < P.cellsOf e := by have := hd.1; simpa [Nat.blt_eq] using this
      rcases DataW.trod_slice ht h with ⟨rfl, _⟩ | ⟨a, len, cap, elems, rest, fu, _, rfl, rfl, _, hl, hm, hlen, hel, hsp, _⟩
      · exact ⟨.nil, ι, m, [.slice none 0 0], by simp [Typed, ht], by simp [Rep], .cons (.slc0 _ _) .nil, hr, MLe.refl _ _⟩
      obtain ⟨hrl, hre⟩ := hsp rfl
      have hcell : ∀ i, i < cap → ∃ y, (w.cells? 0 (a.add (i * P.cellsOf e)) (P.cellsOf e)).bind (DataW.trod enc P w 0 (fun _ => true) true fu e) = some y ∧ y ∈ elems ++ rest := by
        intro i hi
        by_cases h1 : i < len
        · rw [hel i h1]
          have h2 : i < elems.length := by omega
          exact ⟨elems[i], List.getElem?_eq_getElem h2, List.mem_append_left _ (List.getElem_mem h2)⟩
        · have h2 : i - len < rest.length := by omega
          have := hre (i - len) (by omega)
          rw [show len + (i - len) = i by omega] at this
          rw [this]
          exact ⟨rest[i - len], List.getElem?_eq_getElem h2, List.mem_append_right _ (List.getElem_mem h2)⟩
      by_cases hc0 : cap = 0
      · subst hc0
        obtain rfl : len = 0 := by omega
        obtain ⟨g1, g2⟩ := hr.blank
        refine ⟨.sl [] 0, ι, _, [.slice (some ⟨m.size, 0, some 1⟩) 0 0], ?_, ?_, .cons (.empty _ _ _ _) .nil, g1, g2⟩
        · simp only [Typed, ht]; exact .inr ⟨[], 0, rfl, Nat.le_refl _, Nat.zero_le _, fun x hx => by simp at hx⟩
        · simp only [Rep]; exact ⟨m.size, some 1, [], rfl, by simp, Mem.get_push_same _ _, by simp [Reps], .inr (by simp)⟩
      have hab : a.block < B0 := by
        refine hB (.cell a.block (a.off + 0)) ?_
        refine List.mem_append_left _ ?_
        unfold MemPlace.row
        refine List.mem_map.2 ⟨0, List.mem_range.2 ?_, rfl⟩
        exact Nat.mul_pos (by omega) hpos
      have hchunk : ∀ i, i < cap → ∃ ch y, w.cells? 0 (a.add (i * P.cellsOf e)) (P.cellsOf e) = some ch ∧ ch.length = P.cellsOf e ∧ Cells w (a.add (i * P.cellsOf e)) ch ∧ DataW.trod enc P w 0 (fun _ => true) true fu e ch = some y ∧ y ∈ elems ++ rest := by
        intro i hi
        obtain ⟨y, hy, hmem⟩ := hcell i hi
        obtain ⟨ch, h1, h2⟩ := Option.bind_eq_some_iff.1 hy
        obtain ⟨_, h3, h4⟩ := World.cells?_some h1
        exact ⟨ch, y, h1, h3, fun j hj => h4 j (by omega), h2, hmem⟩
      obtain ⟨ch0, y0, _, z2, z3, _⟩ := hchunk 0 (by omega)
      have hfirst : ∃ v, w.cell? a = some v := by
        have := z3 0 (by omega)
        rw [Addr.add_add] at this
        have e0 : a.add (0 * P.cellsOf e + 0) = a := by simp [Addr.add]
        rw [e0] at this
        rw [this]
        exact ⟨ch0[0]'(by omega), List.getElem?_eq_getElem (by omega)⟩
      obtain ⟨v0, hv0⟩ := hfirst
      obtain ⟨hspot, rc, te, fr, hrc, hoff⟩ := cell_block hv0
      let ch : Nat → List Value := fun i => (w.cells? 0 (a.add (i * P.cellsOf e)) (P.cellsOf e)).getD []
      have hch : ∀ i, i < len → (ch i).length = P.cellsOf e ∧ Cells w (a.add (i * P.cellsOf e)) (ch i) := by
        intro i hi
        obtain ⟨c1, y, h1, h2, h3, _⟩ := hchunk i (by omega)
        simp only [ch, h1, Option.getD_some]
        exact ⟨h2, h3⟩
      have himp : all2 (fun t cs => Imp P w B0 n t cs) (List.replicate len e) ((List.range len).map ch) := by
        refine all2_of_get (by simp) fun i t' c1 ht' hc1 => ?_
        have hi : i < len := by
          have := (List.getElem?_eq_some_iff.1 ht').1
          simpa using this
        simp only [List.getElem?_replicate, hi, if_true, Option.some.injEq] at ht'
        subst ht'
        obtain ⟨c2, y, h1, _, _, h4, h5⟩ := hchunk i (by omega)
        simp only [List.getElem?_map, List.getElem?_range hi, Option.map_some, ch, h1, Option.getD_some, Option.some.injEq] at hc1
        subst hc1
        refine imp_trod n e hd.2 fu c2 y h4 fun p hp => hB p ?_
        exact List.mem_append_right _ (List.mem_flatMap.2 ⟨y, h5, hp⟩)
      obtain ⟨l, ι1, m1, c1, g1, g2, g3, g4, g5⟩ := imp_seq _ _ himp ι m hr
      obtain ⟨f1, f2⟩ := range_flat (w := w) (a := a) (sz := P.cellsOf e) ch len hch
      obtain ⟨l1, l2⟩ := all2_replicate g1
      have hlc : c1.length = len * P.cellsOf e := by rw [g3.length, f1]
      have hsz : a.off + len * P.cellsOf e ≤ rc.size := by
        by_cases h0 : len * P.cellsOf e = 0
        · have := (Array.getElem?_eq_some_iff.1 hoff).1
          omega
        · have := f2 (len * P.cellsOf e - 1) (by omega)
          have h3 : len * P.cellsOf e - 1 < ((List.range len).map ch).flatten.length := by omega
          rw [List.getElem?_eq_getElem h3] at this
          obtain ⟨_, rc', _, _, q1, q2⟩ := cell_block this
          have e1 : (a.add (len * P.cellsOf e - 1)).block = a.block := Addr.add_block _ _
          rw [e1, hrc] at q1
          cases q1
          have e2 : (a.add (len * P.cellsOf e - 1)).off = a.off + (len * P.cellsOf e - 1) := Addr.add_off _ _
          rw [e2] at q2
          have := (Array.getElem?_eq_some_iff.1 q2).1
          omega
      have hblk : BlkRel B0 ι1 (.cells false c1) ⟨a.block, a.off, rc.size⟩ w := by
        refine ⟨rc, te, fr, hrc, rfl, by rw [hlc]; exact hsz, fun i v hv => ?_, fun h => by cases h⟩
        obtain ⟨v', hv', hrel⟩ := g3.get hv
        refine ⟨v', ?_, hrel⟩
        have hi : i < ((List.range len).map ch).flatten.length := (List.getElem?_eq_some_iff.1 hv').1
        have := f2 i hi
        rw [hv'] at this
        obtain ⟨_, rc', _, _, q1, q2⟩ := cell_block this
        have e1 : (a.add i).block = a.block := Addr.add_block _ _
        rw [e1, hrc] at q1
        cases q1
        rw [Addr.add_off] at q2
        exact q2
      obtain ⟨k1, k2⟩ := g4.push c1 ⟨a.block, a.off, rc.size⟩ hab hblk
      refine ⟨.sl l cap, _, _, [.slice (some ⟨m1.size, 0, none⟩) len cap], ?_, ?_, .cons ?_ .nil, k1, g5.trans k2⟩
      · simp only [Typed, ht]; exact .inr ⟨l, cap, rfl, by omega, hm, l2⟩
      · simp only [Rep]; exact ⟨m1.size, none, c1, by rw [l1], by simp, Mem.get_push_same _ _, Reps.ext k2 l c1 g2, .inl rfl⟩
      · have := VRel.slc (ι := fun b => if b = m1.size then some ⟨a.block, a.off, rc.size⟩ else ι1 b) m1.size 0 len cap ⟨a.block, a.off, rc.size⟩ (by simp)
        have ea : (⟨a.block, a.off + 0, none⟩ : Addr) = a := by cases a; simp at hspot; simp [hspot]
        rw [ea] at this
        exact this
    · rename_i fs ht
      simp only [Bool.and_eq_true] at hd
      obtain ⟨xs, fu, _, rfl, hlen, hxl, hx⟩ := DataW.trod_struct ht h
      have himp : all2 (fun t cs => Imp P w B0 n t cs) (fs.toList.map (·.type)) (fs.toList.map fun f => (cs.drop f.offset).take (P.cellsOf f.type)) := by
        refine all2_of_get (by simp) fun i t' c1 ht' hc1 => ?_
        rw [List.getElem?_map] at ht' hc1
        obtain ⟨f, hf, rfl⟩ := Option.map_eq_some_iff.1 ht'
        rw [hf] at hc1
        simp only [Option.map_some, Option.some.injEq] at hc1
        subst hc1
        have hf' : fs[i]? = some f := by simpa using hf
        have hi : i < xs.length := by rw [hxl]; exact (Array.getElem?_eq_some_iff.1 hf').1
        have h1 := hx i f hf'
        rw [List.getElem?_eq_getElem hi] at h1
        refine imp_trod n f.type (List.all_eq_true.1 hd.1 f (List.mem_of_getElem? hf)) fu _ xs[i] h1 fun p hp => hB p ?_
        exact List.mem_flatMap.2 ⟨xs[i], List.getElem_mem hi, hp⟩
      obtain ⟨l, ι1, m1, c1, g1, g2, g3, g4, g5⟩ := imp_seq _ _ himp ι m hr
      rw [fields_flat fs.toList 0 (by rw [hlen]; exact hd.2) (Nat.zero_le _), List.drop_zero] at g3
      refine ⟨.ag l, ι1, m1, c1, ?_, ?_, g3, g4, g5⟩
      · simp only [Typed, ht]; exact ⟨l, rfl, g1⟩
      · simp only [Rep]; exact g2
    · rename_i k e ht
      simp only [Bool.and_eq_true] at hd
      obtain ⟨xs, fu, _, rfl, hlen, hxl, hx⟩ := DataW.trod_array ht h
      have himp : all2 (fun t cs => Imp P w B0 n t cs) (List.replicate k e) ((List.range k).map fun i => (cs.drop (0 + i * P.cellsOf e)).take (P.cellsOf e)) := by
        refine all2_of_get (by simp) fun i t' c1 ht' hc1 => ?_
        have hi : i < k := by
          have := (List.getElem?_eq_some_iff.1 ht').1
          simpa using this
        simp only [List.getElem?_replicate, hi, if_true, Option.some.injEq] at ht'
        subst ht'
        simp only [List.getElem?_map, List.getElem?_range hi, Option.map_some, Option.some.injEq, Nat.zero_add] at hc1
        subst hc1
        have h1 := hx i hi
        have hi' : i < xs.length := by omega
        rw [List.getElem?_eq_getElem hi'] at h1
        refine imp_trod n e hd.1 fu _ xs[i] h1 fun p hp => hB p ?_
        exact List.mem_flatMap.2 ⟨xs[i], List.getElem_mem hi', hp⟩
      obtain ⟨l, ι1, m1, c1, g1, g2, g3, g4, g5⟩ := imp_seq _ _ himp ι m hr
      obtain ⟨l1, l2⟩ := all2_replicate g1
      rw [chunks_flat k 0 (by rw [hlen, Nat.eq_of_beq_eq_true hd.2, Nat.zero_add]), List.drop_zero] at g3
      refine ⟨.ag l, ι1, m1, c1, ?_, ?_, g3, g4, g5⟩
      · simp only [Typed, ht]; exact ⟨l, rfl, l1, l2⟩
      · simp only [Rep]; exact g2
    · cases hd
/-! ### arguments -/
def Arg (P : Program) (m : Mem) (t : TypeId) (d : Dt) (v : Value) : Prop :=
  match aggB P t with
  | some true => ∃ c, v = .agg ⟨c⟩ ∧ Rep m d c
  | _ => Rep m d [v]
def Args (P : Program) (n : Nat) (m : Mem) : List TypeId → List Dt → List Value → Prop
  | [], [], [] => True
  | t :: ts, d :: ds, v :: vs => Typed P n t d ∧ Arg P m t d v ∧ Args P n m ts ds vs
  | _, _, _ => False
theorem Arg.ext {ι ι' : Ren} {m m' : Mem} (e : MLe ι ι' m m') {t : TypeId} {d : Dt} {v : Value} (h : Arg P m t d v) : Arg P m' t d v := by
  unfold Arg at h ⊢
  split
  · rename_i ht
    rw [ht] at h
    obtain ⟨c, h1, h2⟩ := h
    exact ⟨c, h1, Rep.ext e d c h2⟩
  · rename_i ht
    split at h
    · rename_i ht'; exact absurd ht' ht
    · exact Rep.ext e d _ h
def shapeOk (P : Program) (t : TypeId) (v : Value) : Prop := match aggB P t with | some true => ∃ cs, v = .agg cs | _ => v.cells.toList = [v]
theorem shape_of {n : Nat} {t : TypeId} {v : Value} {r : Reach} {b : Nat} (hd : dataT P n t = true) (h : Value.okWide P w r b t v) : shapeOk P t v := by
  cases n with
  | zero => simp [dataT] at hd
  | succ n =>
    unfold dataT at hd
    unfold shapeOk aggB
    unfold Value.okWide at h
    split at hd
    all_goals first
      | (rename_i ht; rw [ht] at h ⊢; simp only at h ⊢; obtain ⟨cs, h1, _⟩ := h; exact ⟨cs, h1⟩)
      | (rename_i ht; rw [ht] at h ⊢; simp only [Cell.okWide, ht] at h; cases v <;> simp_all [Cell.ok, Value.cells])
      | cases hd
theorem imp_args {n : Nat} : ∀ (ts : List TypeId) (vs : List Value) (ds : List (DataW H)) (ps : List MemPlace), (ts.all fun t => dataT P n t) = true → DataW.TrodAll enc P w 0 (fun _ => true) true ts vs ds ps →
    (∀ (j : Nat) t v, ts[j]? = some t → vs[j]? = some v → shapeOk P t v) → Bound B0 ps → ∀ (ι : Ren) (m : Mem), R0 B0 ι m w →
    ∃ l ι' m' vs', Args P n m' ts l vs' ∧ VRels ι' vs' vs ∧ R0 B0 ι' m' w ∧ MLe ι ι' m m'
  | [], vs, ds, ps, _, h, _, _, ι, m, hr => by
    obtain ⟨rfl, rfl, rfl⟩ := trodAll_nil h
    exact ⟨[], ι, m, [], trivial, .nil, hr, MLe.refl _ _⟩
  | t :: ts, vs, ds, ps, hd, h, hs, hB, ι, m, hr => by
    obtain ⟨v, vs', d, ds', p, q, rfl, rfl, rfl, ⟨fuel, h1⟩, h2⟩ := trodAll_cons h
    simp only [List.all_cons, Bool.and_eq_true] at hd
    obtain ⟨d1, ι1, m1, c1, k1, k2, k3, k4, k5⟩ := imp_trod n t hd.1 fuel _ _ h1 (fun x hx => hB x (List.mem_append_left _ hx)) ι m hr
    obtain ⟨l, ι2, m2, vs2, g1, g2, g3, g4⟩ := imp_args ts vs' ds' q hd.2 h2 (fun j t v ht hv => hs (j + 1) t v (by simpa using ht) (by simpa using hv)) (fun x hx => hB x (List.mem_append_right _ hx)) ι1 m1 k4
    have hsh := hs 0 t v rfl rfl
    have key : ∃ v1, Arg P m1 t d1 v1 ∧ VRel ι1 v1 v := by
      unfold shapeOk at hsh
      unfold Arg
      split at hsh
      · rename_i ht
        obtain ⟨cs, rfl⟩ := hsh
        refine ⟨.agg ⟨c1⟩, ⟨c1, rfl, k2⟩, ?_⟩
        have := VRel.agg' (ι := ι1) k3
        simpa [Value.cells] using this
      · rename_i ht
        rw [hsh] at k3
        cases k3 with
        | cons k3 k3' =>
          cases k3'
          rename_i v1
          exact ⟨v1, k2, k3⟩
    obtain ⟨v1, q1, q2⟩ := key
    exact ⟨d1 :: l, ι2, m2, v1 :: vs2, ⟨k1, Arg.ext g4 q1, g1⟩, .cons (q2.mono g4.ren) g2, g3, k5.trans g4⟩
theorem calls_data {K : TypeId → Bool} {o : Orc} (hmix : P.follows .mixedOrders = true) (hK : Plain P K) (hng : NoNG P) (ho : CfOK P w.heap.size 0 o) (hog : CfGrw o) {n : Nat} {f : FuncId} {ts : List TypeId} {args : Array Value} {ds : List (DataW H)} {ps : List MemPlace}
    (hd : (ts.all fun t => dataT P n t) = true) (hA : DataW.TrodAll enc P w 0 (fun _ => true) true ts args.toList ds ps) {r : Reach} {b : Nat}
    (hval : ∀ (j : Nat) t v, ts[j]? = some t → args[j]? = some v → Value.okWide P w r b t v) (hB : Bound w.heap.size ps)
    (run : ∀ (m : Mem) (l : List Dt) (vs : List Value), m.top → Args P n m ts l vs → ∃ k m', callN P K 0 o k f vs m = some (.bool true, m')) :
    Calls P f args w fun e w' => e = .returned (.bool true) ∧ Below w.heap.size w w' := by
  obtain ⟨l, ι, m, vs, h1, h2, h3, h4⟩ := imp_args ts args.toList ds ps hd hA (fun j t v ht hv => shape_of (List.all_eq_true.1 hd t (List.mem_of_getElem? ht)) (hval j t v ht (by simpa using hv))) hB _ _ (R0.start w)
  obtain ⟨k, m', hrun⟩ := run m l vs h3.rel.top h1
  have := (callN_ok hmix hK hng ho hog k).ok _ _ _ _ _ hrun ι w args.toList h3.rel (fun b hb _ => h3.fresh b hb) h2
  have ea : args.toList.toArray = args := by simp
  rw [ea] at this
  refine this.mono ?_
  rintro e w' ⟨v', ι', he, hv', hr', hs⟩
  exact ⟨by rw [he, hv'.inv_bool], ⟨hs.os, hs.tape, hs.output, hs.hsize, fun B hB => hs.below h3.rel B hB⟩⟩
theorem trodAll_below (hl : laidOutB P = true) : ∀ {ts : List TypeId} {vs : List Value} {ds : List (DataW H)} {ps : List MemPlace} {W' : World}, (ts.all fun t => P.readableRec t && decide (t < P.types.size)) = true →
    DataW.TrodAll enc P w 0 (fun _ => true) true ts vs ds ps → Below w.heap.size w W' → Bound w.heap.size ps → DataW.TrodAll enc P W' 0 (fun b => decide (b < w.heap.size)) true ts vs ds ps
  | [], vs, ds, ps, W', _, h, _, _ => by
    obtain ⟨rfl, rfl, rfl⟩ := trodAll_nil h
    rfl
  | t :: ts, vs, ds, ps, W', hr, h, hb, hB => by
    obtain ⟨v, vs', d, ds', p, q, rfl, rfl, rfl, h1, h2⟩ := trodAll_cons h
    simp only [List.all_cons, Bool.and_eq_true] at hr
    exact ⟨p, q, Below.trod hl hr.1.1 (of_decide_eq_true hr.1.2) h1 hb (fun x hx => hB x (List.mem_append_left _ hx)),
      trodAll_below hl hr.2 h2 hb (fun x hx => hB x (List.mem_append_right _ hx)), rfl⟩
theorem bound_of : ∀ {ts : List TypeId} {vs : List Value} {ds : List (DataW H)} {ps : List MemPlace}, DataW.TrodAll enc P w 0 (fun _ => true) true ts vs ds ps → Bound w.heap.size ps
  | [], vs, ds, ps, h => by
    obtain ⟨rfl, rfl, rfl⟩ := trodAll_nil h
    intro p hp; simp at hp
  | t :: ts, vs, ds, ps, h => by
    obtain ⟨v, vs', d, ds', p, q, rfl, rfl, rfl, ⟨m, hm⟩, h2⟩ := trodAll_cons h
    intro x hx
    rcases List.mem_append.1 hx with hx | hx
    · exact DataW.trod_lt m _ _ _ hm x hx
    · exact bound_of h2 x hx
end
end
end Go.DI
namespace Go.Proofs.Ytfpbiojnbffkpaa
open Go Go.DI Go.Proofs Go.Jud
noncomputable section
theorem typed_int {P : Program} {n : Nat} {t : TypeId} {k : IntKind} (ht : P.underlying t = some (.int k)) {d : Dt} (h : Typed P (n + 1) t d) : ∃ x, d = .int k x ∧ (Lit.int k x).wf = true := by
  simpa only [Typed, ht] using h
theorem typed_bool {P : Program} {n : Nat} {t : TypeId} (ht : P.underlying t = some .bool) {d : Dt} (h : Typed P (n + 1) t d) : ∃ x, d = .bo x := by
  simpa only [Typed, ht] using h
theorem bytes_fn : ∀ (l : List Dt), (∀ x ∈ l, Typed Try.prog 5 5 x) → ∃ z : List Int, l = z.map (.int .u8) ∧ z.length = l.length
  | [], _ => ⟨[], rfl, rfl⟩
  | d :: l, h => by
    obtain ⟨x, rfl, _⟩ := typed_int Try.underlying5 (h d (by simp))
    obtain ⟨z, rfl, hz⟩ := bytes_fn l (fun x hx => h x (by simp [hx]))
    exact ⟨x :: z, rfl, by simp⟩
theorem reps_ints (m : Mem) (k : IntKind) : ∀ (z : List Int) (cs : List Value), Reps m (z.map (.int k)) cs → cs = z.map (.int k)
  | [], cs, h => by simpa [Reps] using h
  | x :: z, cs, h => by
    simp only [List.map_cons, Reps] at h
    obtain ⟨c1, c2, rfl, h1, h2⟩ := h
    simp only [Rep] at h1
    rw [h1, reps_ints m k z c2 h2]
    rfl
theorem hash_cells (z : List Int) (hz : z.length = 32) : z.map (.int .u8) = hashC (fun i => z.getD i 0) := by
  match z, hz with
  | [a0, a1, a2, a3, a4, a5, a6, a7, a8, a9, a10, a11, a12, a13, a14, a15, a16, a17, a18, a19, a20, a21, a22, a23, a24, a25, a26, a27, a28, a29, a30, a31], _ => rfl
set_option maxHeartbeats 2000000 in
theorem row_typed {d : Dt} (h : Typed Try.prog 7 37 d) : ∃ r : RowT, Rng r ∧ ∀ (m : Mem) (cs : List Value), Rep m d cs → cs = rowR r := by
  unfold Typed at h
  rw [Try.underlying37] at h
  obtain ⟨l, rfl, h⟩ := h
  simp only [List.map_cons, List.map_nil] at h
  obtain ⟨d0, l, rfl, h0, h⟩ := all2_cons h
  obtain ⟨d1, l, rfl, h1, h⟩ := all2_cons h
  obtain ⟨d2, l, rfl, h2, h⟩ := all2_cons h
  obtain ⟨d3, l, rfl, h3, h⟩ := all2_cons h
  obtain ⟨d4, l, rfl, h4, h⟩ := all2_cons h
  obtain ⟨d5, l, rfl, h5, h⟩ := all2_cons h
  obtain ⟨d6, l, rfl, h6, h⟩ := all2_cons h
  obtain ⟨d7, l, rfl, h7, h⟩ := all2_cons h
  obtain ⟨d8, l, rfl, h8, h⟩ := all2_cons h
  obtain ⟨d9, l, rfl, h9, h⟩ := all2_cons h
  obtain ⟨da, l, rfl, ha, h⟩ := all2_cons h
  obtain ⟨db, l, rfl, hb, h⟩ := all2_cons h
  have hnil := all2_nil h
  subst hnil
  obtain ⟨k, rfl, _⟩ := typed_int Try.underlying3 h0
  obtain ⟨w, rfl, _⟩ := typed_int Try.underlying3 h1
  obtain ⟨t, rfl, _⟩ := typed_int Try.underlying3 h2
  obtain ⟨i, rfl, hi⟩ := typed_int Try.underlying3 h3
  obtain ⟨e, rfl, _⟩ := typed_int Try.underlying3 h4
  obtain ⟨s, rfl, _⟩ := typed_int Try.underlying3 h5
  obtain ⟨st, rfl, _⟩ := typed_int Try.underlying3 h6
  obtain ⟨c, rfl, _⟩ := typed_int Try.underlying3 h7
  obtain ⟨tr, rfl, _⟩ := typed_int Try.underlying3 h8
  obtain ⟨y, rfl⟩ := typed_bool Try.underlying4 h9
  obtain ⟨v, rfl, _⟩ := typed_int Try.underlying32 hb
  unfold Typed at ha
  rw [Try.underlying31] at ha
  obtain ⟨lh, rfl, hlen, hl⟩ := ha
  obtain ⟨z, rfl, hz⟩ := bytes_fn lh hl
  refine ⟨⟨k, w, t, i, e, s, st, c, tr, y, fun j => z.getD j 0, v⟩, ?_, fun m cs hc => ?_⟩
  · have : (-9223372036854775808 ≤ i ∧ i ≤ 9223372036854775807) := by
      simp [Lit.wf] at hi
      exact hi
    exact this
  · simp only [Rep, Reps] at hc
    obtain ⟨_, _, rfl, rfl, _, _, rfl, rfl, _, _, rfl, rfl, _, _, rfl, rfl, _, _, rfl, rfl, _, _, rfl, rfl, _, _, rfl, rfl, _, _, rfl, rfl, _, _, rfl, rfl, _, _, rfl, rfl, ch, _, rfl, hh, _, _, rfl, rfl, rfl⟩ := hc
    have := reps_ints m .u8 z ch hh
    rw [hash_cells z (by omega)] at this
    rw [this]
    rfl
theorem rows_typed : ∀ (l : List Dt), (∀ x ∈ l, Typed Try.prog 7 37 x) → ∃ rs : List RowT, rs.length = l.length ∧ (∀ r ∈ rs, Rng r) ∧ ∀ (m : Mem) (cs : List Value), Reps m l cs → cs = rowsC rs
  | [], _ => ⟨[], rfl, fun r hr => by simp at hr, fun m cs h => by simpa [Reps, rowsC] using h⟩
  | d :: l, h => by
    obtain ⟨r, h1, h2⟩ := row_typed (h d (by simp))
    obtain ⟨rs, h3, h4, h5⟩ := rows_typed l (fun x hx => h x (by simp [hx]))
    refine ⟨r :: rs, by simp [h3], fun x hx => ?_, fun m cs hc => ?_⟩
    · rcases List.mem_cons.1 hx with rfl | hx
      · exact h1
      · exact h4 x hx
    · simp only [Reps] at hc
      obtain ⟨c1, c2, rfl, g1, g2⟩ := hc
      rw [h2 m c1 g1, h5 m c2 g2]; rfl
def RowsIn (m : Mem) (v : Value) (rs : List RowT) : Prop := (rs = [] ∧ v = .slice none 0 0) ∨ ∃ b sp cap, v = .slice (some ⟨b, 0, sp⟩) rs.length cap ∧ b < m.size ∧ m.get b = .cells false (rowsC rs) ∧ rs.length ≤ cap ∧ (sp = none ∨ rs = [] ∧ cap = 0)
theorem rows_arg {m : Mem} {d : Dt} {v : Value} (h : Typed Try.prog 8 22 d) (ha : Arg Try.prog m 22 d v) : ∃ rs : List RowT, (∀ r ∈ rs, Rng r) ∧ RowsIn m v rs := by
  have hag : aggB Try.prog 22 = some false := by kernel_rfl
  unfold Arg at ha
  rw [hag] at ha
  simp only at ha
  unfold Typed at h
  rw [Try.underlying22] at h
  rcases h with rfl | ⟨l, cap, rfl, hle, _, hl⟩
  · simp only [Rep] at ha
    have : v = .slice none 0 0 := by simpa using ha
    exact ⟨[], fun r hr => by simp at hr, .inl ⟨rfl, this⟩⟩
  · simp only [Rep] at ha
    obtain ⟨b, sp, c, h1, h2, h3, h4, h5⟩ := ha
    obtain ⟨rs, g1, g2, g3⟩ := rows_typed l hl
    have hv : v = .slice (some ⟨b, 0, sp⟩) l.length cap := by simpa using h1
    exact ⟨rs, g2, .inr ⟨b, sp, cap, by rw [hv, g1], h2, by rw [h3, g3 m c h4], by omega, h5.imp id (fun ⟨e1, e2⟩ => ⟨List.eq_nil_of_length_eq_zero (by rw [g1, e1]; rfl), e2⟩)⟩⟩
theorem int_arg {m : Mem} {d : Dt} {v : Value} (h : Typed Try.prog 8 3 d) (ha : Arg Try.prog m 3 d v) : ∃ n, v = .int .i64 n ∧ -9223372036854775808 ≤ n ∧ n ≤ 9223372036854775807 := by
  have hag : aggB Try.prog 3 = some false := by kernel_rfl
  unfold Arg at ha
  rw [hag] at ha
  simp only at ha
  obtain ⟨n, rfl, hn⟩ := typed_int Try.underlying3 h
  simp only [Rep] at ha
  have hv : v = .int .i64 n := by simpa using ha
  simp [Lit.wf] at hn
  exact ⟨n, hv, hn⟩
theorem args_nil {P : Program} {n : Nat} {m : Mem} {l : List Dt} {vs : List Value} (h : Args P n m [] l vs) : l = [] ∧ vs = [] := by
  cases l <;> cases vs <;> simp_all [Args]
theorem args_cons {P : Program} {n : Nat} {m : Mem} {t : TypeId} {ts : List TypeId} {l : List Dt} {vs : List Value} (h : Args P n m (t :: ts) l vs) : ∃ d l' v vs', l = d :: l' ∧ vs = v :: vs' ∧ Typed P n t d ∧ Arg P m t d v ∧ Args P n m ts l' vs' := by
  cases l with
  | nil => cases vs <;> simp [Args] at h
  | cons d l =>
    cases vs with
    | nil => simp [Args] at h
    | cons v vs => exact ⟨d, l, v, vs, rfl, rfl, h.1, h.2.1, h.2.2⟩
theorem args2 {P : Program} {n : Nat} {m : Mem} {t t' : TypeId} {l : List Dt} {vs : List Value} (h : Args P n m [t, t'] l vs) : ∃ d v d' v', l = [d, d'] ∧ vs = [v, v'] ∧ Typed P n t d ∧ Arg P m t d v ∧ Typed P n t' d' ∧ Arg P m t' d' v' := by
  obtain ⟨d, l, v, vs, rfl, rfl, h1, h2, h⟩ := args_cons h
  obtain ⟨d', l, v', vs, rfl, rfl, h3, h4, h⟩ := args_cons h
  obtain ⟨rfl, rfl⟩ := args_nil h
  exact ⟨d, v, d', v', rfl, rfl, h1, h2, h3, h4⟩
theorem args3 {P : Program} {n : Nat} {m : Mem} {t t' t'' : TypeId} {l : List Dt} {vs : List Value} (h : Args P n m [t, t', t''] l vs) : ∃ d v d' v' d'' v'', l = [d, d', d''] ∧ vs = [v, v', v''] ∧ Typed P n t d ∧ Arg P m t d v ∧ Typed P n t' d' ∧ Arg P m t' d' v' ∧ Typed P n t'' d'' ∧ Arg P m t'' d'' v'' := by
  obtain ⟨d, l, v, vs, rfl, rfl, h1, h2, h⟩ := args_cons h
  obtain ⟨d', l, v', vs, rfl, rfl, h3, h4, h⟩ := args_cons h
  obtain ⟨d'', l, v'', vs, rfl, rfl, h5, h6, h⟩ := args_cons h
  obtain ⟨rfl, rfl⟩ := args_nil h
  exact ⟨d, v, d', v', d'', v'', rfl, rfl, h1, h2, h3, h4, h5, h6⟩
end
end Go.Proofs.Ytfpbiojnbffkpaa
namespace Go.Proofs.Ytfpbiojnbffkpaa
open Go Go.DI Go.Proofs Go.Jud
noncomputable section
def andM (o q : Option Bool) : Option Bool := match o with | some true => q | some false => some false | none => none
theorem andM_t (q : Option Bool) : andM (some true) q = q := rfl
theorem feq_row (r : RowT) : feq Try.prog kp 100 34 (.agg ⟨rowR r⟩) (.agg ⟨rowR r⟩) = some true := by
  have h1 : feq Try.prog kp 100 34 (.agg ⟨rowR r⟩) (.agg ⟨rowR r⟩) = andM (some (r.k == r.k)) (andM (some (r.w == r.w)) (andM (some (r.t == r.t)) (andM (some (r.i == r.i)) (andM (some (r.e == r.e)) (andM (some (r.s == r.s)) (andM (some (r.st == r.st)) (andM (some (r.c == r.c)) (andM (some (r.tr == r.tr)) (andM (some (r.y == r.y)) (andM (chk (hl r.h) (hl r.h)) (andM (some (r.v == r.v)) (some true)))))))))))) := by kernel_rfl
  rw [h1, chk_eq (hl r.h) (hl r.h) rfl]
  simp [andM]
theorem veq_i (k : IntKind) (a : Int) : veq 7 (.int k a) (.int k a) = true := by simp [veq]
theorem veq_b (a : Bool) : veq 7 (.bool a) (.bool a) = true := by simp [veq]
theorem veqL_all : ∀ (l : List Value), (∀ x ∈ l, veq 7 x x = true) → veqL (veq 7) l l = true
  | [], _ => rfl
  | x :: l, h => by
    simp only [veqL, Bool.and_eq_true]
    exact ⟨h x (by simp), veqL_all l fun y hy => h y (by simp [hy])⟩
theorem veq_row (r : RowT) : veqL (veq 7) (rowR r) (rowR r) = true := by
  refine veqL_all _ fun x hx => ?_
  have hh : ∀ x ∈ hashC r.h, veq 7 x x = true := fun x hx => by
    simp only [hashC, List.mem_cons, List.not_mem_nil, or_false] at hx
    rcases hx with h | h | h | h | h | h | h | h | h | h | h | h | h | h | h | h | h | h | h | h | h | h | h | h | h | h | h | h | h | h | h | h <;> (rw [h]; exact veq_i _ _)
  simp only [rowR, rowC, List.cons_append, List.nil_append, List.mem_cons, List.mem_append, List.not_mem_nil, or_false] at hx
  rcases hx with h | h | h | h | h | h | h | h | h | h | h | h
  all_goals first | exact hh _ h | (rw [h]; first | exact veq_i _ _ | exact veq_b _)
theorem asBo_s {α : Type} (a : Option Addr) (n c : Nat) (q : Bool → Option α) (d : Option α) : Y.asBo (.slice a n c) q d = d := rfl
theorem call_w {k : Nat} (hk : 1 ≤ k) (M : Mem) : callN Try.prog kp 0 oA k 7 [] M = some (.bool true, M) := call_wakes k hk M
theorem chkV_trip (n : Int) (l : List RowT) : ∃ a b c, chkV n l = tripV a b c := by
  unfold chkV
  split <;> exact ⟨_, _, _, rfl⟩
theorem asTup_trip {α : Type} (a b c : Int) (q : Array Value → Option α) : Y.asTup (tripV a b c) q = q ⟨[.int .i64 a, .int .i64 b, .int .i64 c]⟩ := rfl
section
variable {b bo i : Nat} {own : Bool} {sp : Option Nat} {cap : Nat} {l : List RowT} {rest : List Value} {m M : Mem}
set_option maxHeartbeats 4000000 in
theorem j3_turn (hm : m.get b = .cells own (rowsC l ++ rest)) (hb : b < m.size) (hmo : m.get bo = .cells true (rowsC l)) (hbo : bo < m.size) (hlen : l.length ≤ 100000) (he : Ext m M) (ht : M.top) (hlt : i < l.length) (k : Nat) (hk : 1 ≤ k) (x : Nat → Value) (n x6 x7 x8 x9 x10 x11 : Int) :
    ∃ M' X, codeD Try.prog kp 0 (callN Try.prog kp 0 oA k) (drawD Try.prog kp 0 (callN Try.prog kp 0 oA k) 65) 65 k (loopN Try.f3 0) (fullN 65 (up x [(0, .int .i64 n), (1, .slice (some ⟨b, 0, sp⟩) l.length cap), (4, .bool false), (5, .slice (some ⟨bo, 0, some 43⟩) l.length l.length), (6, .int .i64 x6), (7, .int .i64 x7), (8, .int .i64 x8), (9, .int .i64 x9), (10, .int .i64 x10), (11, .int .i64 x11), (12, .int .i64 (i : Int))])) M = some (.normal, (fullN 65 (up X [(0, .int .i64 n), (1, .slice (some ⟨b, 0, sp⟩) l.length cap), (4, .bool false), (5, .slice (some ⟨bo, 0, some 43⟩) l.length l.length), (6, .int .i64 x6), (7, .int .i64 x7), (8, .int .i64 x8), (9, .int .i64 x9), (10, .int .i64 x10), (11, .int .i64 x11), (12, .int .i64 ((i + 1 : Nat) : Int))])), M') ∧ Ext m M' ∧ M'.top := by
  have hT := Y.callN_typed Try.prog kp 0 oA k
  have hg : l[i]? = some l[i] := List.getElem?_eq_getElem hlt
  generalize hre : l[i] = r at hg
  obtain ⟨d, c1⟩ := row_call ht r k hk
  have x1 := growM_ext M d
  have hMb : M.get b = .cells own (rowsC l ++ rest) := (he.get b hb).trans hm
  have hMo : M.get bo = .cells true (rowsC l ++ []) := by rw [List.append_nil]; exact (he.get bo hbo).trans hmo
  have hGo : (growM M d).get bo = .cells true (rowsC l ++ []) := (x1.get bo (Nat.lt_of_lt_of_le hbo he.size)).trans hMo
  have hb0 := (Y.step_eq Try.prog kp 0 hT 65 k (loopN Try.f3 0) (fullN 65 (up x [(0, .int .i64 n), (1, .slice (some ⟨b, 0, sp⟩) l.length cap), (4, .bool false), (5, .slice (some ⟨bo, 0, some 43⟩) l.length l.length), (6, .int .i64 x6), (7, .int .i64 x7), (8, .int .i64 x8), (9, .int .i64 x9), (10, .int .i64 x10), (11, .int .i64 x11), (12, .int .i64 (i : Int))])) M).trans (t_j3 ..)
  simp only [lt_len hlt, cond_true, cond_false, onNat_c, blt_t hlt, hMb, hMo, hGo, cells_c, rows_ble hlt, rows_sub hg, cfOf_at, c1, onV, asAgg_a, feq_row, veq_row, Option.elim, wrap_succ (show i ≤ 1000000 by omega)] at hb0
  exact ⟨_, _, hb0, he.trans x1, x1.top ht⟩
theorem j3_loop (hm : m.get b = .cells own (rowsC l ++ rest)) (hb : b < m.size) (hmo : m.get bo = .cells true (rowsC l)) (hbo : bo < m.size) (hlen : l.length ≤ 100000) (k : Nat) (hk : 1 ≤ k) (n x6 x7 x8 x9 x10 x11 : Int) : ∀ (d i : Nat) (M : Mem) (x : Nat → Value) (j : Nat), l.length = i + d → d + 1 ≤ j → Ext m M → M.top →
    ∃ M' X, loopD (codeD Try.prog kp 0 (callN Try.prog kp 0 oA k) (drawD Try.prog kp 0 (callN Try.prog kp 0 oA k) 65) 65 k (loopN Try.f3 0)) j (fullN 65 (up x [(0, .int .i64 n), (1, .slice (some ⟨b, 0, sp⟩) l.length cap), (4, .bool false), (5, .slice (some ⟨bo, 0, some 43⟩) l.length l.length), (6, .int .i64 x6), (7, .int .i64 x7), (8, .int .i64 x8), (9, .int .i64 x9), (10, .int .i64 x10), (11, .int .i64 x11), (12, .int .i64 (i : Int))])) M = some (.exit 0, (fullN 65 (up X [(0, .int .i64 n), (1, .slice (some ⟨b, 0, sp⟩) l.length cap), (4, .bool false), (5, .slice (some ⟨bo, 0, some 43⟩) l.length l.length), (6, .int .i64 x6), (7, .int .i64 x7), (8, .int .i64 x8), (9, .int .i64 x9), (10, .int .i64 x10), (11, .int .i64 x11), (12, .int .i64 (l.length : Int))])), M') ∧ Ext m M' ∧ M'.top
  | 0, i, M, x, j, hi, hj, he, ht => by
    obtain ⟨j, rfl⟩ : ∃ j', j = j' + 1 := ⟨j - 1, by omega⟩
    obtain rfl : i = l.length := by omega
    have hT := Y.callN_typed Try.prog kp 0 oA k
    have hb0 := (Y.step_eq Try.prog kp 0 hT 65 k (loopN Try.f3 0) (fullN 65 (up x [(0, .int .i64 n), (1, .slice (some ⟨b, 0, sp⟩) l.length cap), (4, .bool false), (5, .slice (some ⟨bo, 0, some 43⟩) l.length l.length), (6, .int .i64 x6), (7, .int .i64 x7), (8, .int .i64 x8), (9, .int .i64 x9), (10, .int .i64 x10), (11, .int .i64 x11), (12, .int .i64 (l.length : Int))])) M).trans (t_j3 ..)
    rw [ge_len (Nat.lt_irrefl _)] at hb0
    simp only [cond_false] at hb0
    exact ⟨M, _, loopD_stop j hb0 (by simp), he, ht⟩
  | d + 1, i, M, x, j, hi, hj, he, ht => by
    obtain ⟨j, rfl⟩ : ∃ j', j = j' + 1 := ⟨j - 1, by omega⟩
    obtain ⟨M1, X1, hb1, he1, ht1⟩ := j3_turn (sp := sp) (cap := cap) hm hb hmo hbo hlen he ht (show i < l.length by omega) k hk x n x6 x7 x8 x9 x10 x11
    obtain ⟨M2, X2, hb2, he2, ht2⟩ := j3_loop hm hb hmo hbo hlen k hk n x6 x7 x8 x9 x10 x11 d (i + 1) M1 X1 j (by omega) (by omega) he1 ht1
    exact ⟨M2, X2, (loopD_next j hb1).trans hb2, he2, ht2⟩
theorem j3_end (k : Nat) (hk : 1 ≤ k) (x : Nat → Value) (ta tb tc n : Int) (v1 v5 v12 : Value) (M : Mem) (q : Value → Mem → Option (Value × Mem)) (L : Y.LK (Value × Mem)) :
    Y.kont Try.prog kp 0 (Y.cfT Try.prog (Y.cfOf (callN Try.prog kp 0 oA k))) L 65 k (bodyOf Try.f3) 0 (Y.retF Try.prog Try.f3 q) (.exit 0) (fullN 65 (up x [(0, .int .i64 n), (1, v1), (4, .bool false), (5, v5), (6, .int .i64 ta), (7, .int .i64 tb), (8, .int .i64 tc), (9, .int .i64 ta), (10, .int .i64 tb), (11, .int .i64 tc), (12, v12)])) M = q (.bool true) M := by
  refine (t_j3_o ..).trans ?_
  have hw := fun M => call_wakes k hk M
  rw [eqF_t (rfl : ta = ta), eqF_t (rfl : tb = tb), eqF_t (rfl : tc = tc)]
  simp only [cond_true, cfOf_at, hw, onV, asBo_b]
set_option maxHeartbeats 4000000 in
theorem checks_run (ht : m.top) (hm : m.get b = .cells own (rowsC l ++ rest)) (hf : ∀ x ∈ rest, Free x) (hb : b < m.size) (hcap : l.length ≤ cap) (hr : ∀ r ∈ l, Rng r) (hsp : sp = none ∨ l = [] ∧ cap = 0) (n : Int) (k : Nat) (hk : 300 ≤ k) :
    ∃ m', callN Try.prog kp 0 oA k 3 [.int .i64 n, .slice (some ⟨b, 0, sp⟩) l.length cap] m = some (.bool true, m') := by
  obtain ⟨k, rfl⟩ : ∃ k', k = k' + 1 := ⟨k - 1, by omega⟩
  obtain ⟨j, hj⟩ : ∃ j, k = j + 1 := ⟨k - 1, by omega⟩
  have hT := Y.callN_typed Try.prog kp 0 oA k
  suffices hh : ∃ m', bodyN Try.prog kp 0 (callN Try.prog kp 0 oA k) k 3 [.int .i64 n, .slice (some ⟨b, 0, sp⟩) l.length cap] m = some (.bool true, m') by
    obtain ⟨m', h⟩ := hh
    refine ⟨m', ?_⟩
    simp only [callN, oA_none 3 (by decide)]
    exact (congrArg (filtR Try.prog _) h).trans (filt_b _ _ (by kernel_rfl))
  have hB := (Y.body_eq (k := k) hT (c := bodyOf Try.f3) (fn := Try.f3) 65 Try.func3 (by kernel_rfl) [.int .i64 n, .slice (some ⟨b, 0, sp⟩) l.length cap] (by kernel_rfl) m).trans (t_j3_in ..)
  have hw := fun M => call_wakes k (by omega) M
  by_cases g5 : 250 < l.length
  · rw [ltF_t (show (250 : Int) < Int.ofNat l.length by show (250 : Int) < (l.length : Int); omega)] at hB
    simp only [cond_true, cfOf_at, hw, onV, asBo_b] at hB
    exact ⟨_, hB⟩
  rw [ltF_f (show ¬ (250 : Int) < Int.ofNat l.length by show ¬ (250 : Int) < (l.length : Int); omega)] at hB
  simp only [cond_false] at hB
  obtain ⟨v, M1, c8, x1, t1, ho⟩ := rows_run (sp := sp) (cap := cap) ht hm hb (by omega) k (by omega)
  obtain ⟨ta, tb, tc, hv⟩ := chkV_trip n l
  have hk10 : ∀ M2, Ext m M2 → M2.top → ∃ M3, callN Try.prog kp 0 oA k 10 [.int .i64 n, .slice (some ⟨b, 0, sp⟩) l.length cap] M2 = some (chkV n l, M3) ∧ Ext M2 M3 ∧ M3.top := by
    intro M2 x2 t2
    rcases hsp with rfl | ⟨rfl, rfl⟩
    · exact ref_run (own := own) (rest := rest) t2 ((x2.get b hb).trans hm) hf (Nat.lt_of_lt_of_le hb x2.size) (by omega) hcap hr n k (by omega)
    · cases sp with
      | none => exact ref_run (own := own) (rest := rest) t2 ((x2.get b hb).trans hm) hf (Nat.lt_of_lt_of_le hb x2.size) (by omega) hcap hr n k (by omega)
      | some e => exact ⟨M2, ref_run0 t2 (.inr ⟨b, e, rfl⟩) n k (by omega), Ext.refl _, t2⟩
  rcases ho with ⟨h0, rfl⟩ | ⟨bo, rfl, hbo, hlo, hge, _⟩
  · subst h0
    obtain ⟨M2, c9, x2, t2⟩ := chk_run0 t1 n k (by omega)
    obtain ⟨M3, c10, x3, t3⟩ := hk10 M2 (x1.trans x2) t2
    rw [hv] at c9 c10
    simp only [cfOf_at, c8, onV, asBo_s, c9, asTup_trip, unc_cons, unc_nil, asInt_i, kEq_ii, cond_true, c10] at hB
    rw [Y.lpOf_eq, Y.loopC_body] at hB
    have hA : ∀ x, ∃ X, loopD (codeD Try.prog kp 0 (callN Try.prog kp 0 oA k) (drawD Try.prog kp 0 (callN Try.prog kp 0 oA k) 65) 65 k (loopN Try.f3 0)) k (fullN 65 (up x [(0, .int .i64 n), (1, .slice (some ⟨b, 0, sp⟩) 0 cap), (4, .bool false), (5, .slice none 0 0), (6, .int .i64 ta), (7, .int .i64 tb), (8, .int .i64 tc), (9, .int .i64 ta), (10, .int .i64 tb), (11, .int .i64 tc), (12, .int .i64 0)])) M3 = some (.exit 0, fullN 65 (up X [(0, .int .i64 n), (1, .slice (some ⟨b, 0, sp⟩) 0 cap), (4, .bool false), (5, .slice none 0 0), (6, .int .i64 ta), (7, .int .i64 tb), (8, .int .i64 tc), (9, .int .i64 ta), (10, .int .i64 tb), (11, .int .i64 tc), (12, .int .i64 0)]), M3) := fun x => by
      have hb := (Y.step_eq Try.prog kp 0 hT 65 k (loopN Try.f3 0) _ M3).trans (t_j3_e (x := x) (nodes := n) (v5 := .slice none 0 0) (b := b) (sp := sp) (cap := cap) (x6 := ta) (x7 := tb) (x8 := tc) (x9 := ta) (x10 := tb) (x11 := tc) ..)
      have hb2 := loopD_stop (e := .exit 0) (m' := M3) j hb (by simp)
      rw [← hj] at hb2
      exact ⟨_, hb2⟩
    obtain ⟨X, hA⟩ := hA _
    have hB := hB.trans ((congrArg (fun z => Y.onE z _) hA).trans ((Y.onE_some ..).trans (j3_end k (by omega) ..)))
    exact ⟨_, hB⟩
  · have hbo' : M1.get bo = .cells true (rowsC l ++ []) := by rw [List.append_nil]; exact hbo
    obtain ⟨M2, c9, x2, t2⟩ := chk_run (sp := some 43) (cap := l.length) t1 hbo' hlo (by omega) hr n k (by omega)
    obtain ⟨M3, c10, x3, t3⟩ := hk10 M2 (x1.trans x2) t2
    rw [hv] at c9 c10
    simp only [cfOf_at, c8, onV, asBo_s, c9, asTup_trip, unc_cons, unc_nil, asInt_i, kEq_ii, cond_true, c10] at hB
    rw [Y.lpOf_eq, Y.loopC_body] at hB
    have hb3 := ((x1.trans x2).trans x3)
    have ho3 := x2.trans x3
    obtain ⟨M4, X, hA, _, _⟩ := j3_loop (m := M3) (own := own) (rest := rest) (sp := sp) (cap := cap) ((hb3.get b hb).trans hm) (Nat.lt_of_lt_of_le hb hb3.size) ((ho3.get bo hlo).trans hbo) (Nat.lt_of_lt_of_le hlo ho3.size) (by omega) k (by omega) n ta tb tc ta tb tc l.length 0 M3 _ k (by omega) (by omega) (Ext.refl _) t3
    have hB := hB.trans ((congrArg (fun z => Y.onE z _) hA).trans ((Y.onE_some ..).trans (j3_end k (by omega) ..)))
    exact ⟨_, hB⟩
set_option maxHeartbeats 4000000 in
theorem checks_run0 (ht : m.top) (n : Int) (k : Nat) (hk : 300 ≤ k) :
    ∃ m', callN Try.prog kp 0 oA k 3 [.int .i64 n, .slice none 0 0] m = some (.bool true, m') := by
  obtain ⟨k, rfl⟩ : ∃ k', k = k' + 1 := ⟨k - 1, by omega⟩
  obtain ⟨j, hj⟩ : ∃ j, k = j + 1 := ⟨k - 1, by omega⟩
  have hT := Y.callN_typed Try.prog kp 0 oA k
  suffices hh : ∃ m', bodyN Try.prog kp 0 (callN Try.prog kp 0 oA k) k 3 [.int .i64 n, .slice none 0 0] m = some (.bool true, m') by
    obtain ⟨m', h⟩ := hh
    refine ⟨m', ?_⟩
    simp only [callN, oA_none 3 (by decide)]
    exact (congrArg (filtR Try.prog _) h).trans (filt_b _ _ (by kernel_rfl))
  have hB := (Y.body_eq (k := k) hT (c := bodyOf Try.f3) (fn := Try.f3) 65 Try.func3 (by kernel_rfl) [.int .i64 n, .slice none 0 0] (by kernel_rfl) m).trans (t_j3_in0 ..)
  obtain ⟨ta, tb, tc, hv⟩ := chkV_trip n []
  have c8 := rows_run0 ht k (by omega)
  obtain ⟨M2, c9, x2, t2⟩ := chk_run0 ht n k (by omega)
  have c10 := ref_run0 t2 (.inl rfl) n k (by omega)
  rw [hv] at c9 c10
  simp only [cfOf_at, c8, onV, asBo_s, c9, asTup_trip, unc_cons, unc_nil, asInt_i, kEq_ii, cond_true, c10] at hB
  rw [Y.lpOf_eq, Y.loopC_body] at hB
  have hA : ∀ x, ∃ X, loopD (codeD Try.prog kp 0 (callN Try.prog kp 0 oA k) (drawD Try.prog kp 0 (callN Try.prog kp 0 oA k) 65) 65 k (loopN Try.f3 0)) k (fullN 65 (up x [(0, .int .i64 n), (1, .slice none 0 0), (4, .bool false), (5, .slice none 0 0), (6, .int .i64 ta), (7, .int .i64 tb), (8, .int .i64 tc), (9, .int .i64 ta), (10, .int .i64 tb), (11, .int .i64 tc), (12, .int .i64 0)])) M2 = some (.exit 0, fullN 65 (up X [(0, .int .i64 n), (1, .slice none 0 0), (4, .bool false), (5, .slice none 0 0), (6, .int .i64 ta), (7, .int .i64 tb), (8, .int .i64 tc), (9, .int .i64 ta), (10, .int .i64 tb), (11, .int .i64 tc), (12, .int .i64 0)]), M2) := fun x => by
    have hb := (Y.step_eq Try.prog kp 0 hT 65 k (loopN Try.f3 0) _ M2).trans (t_j3_nil (x := x) (nodes := n) (v5 := .slice none 0 0) (i := 0) (x6 := ta) (x7 := tb) (x8 := tc) (x9 := ta) (x10 := tb) (x11 := tc) ..)
    rw [ltF_f (show ¬ (0 : Int) < 0 by omega)] at hb
    simp only [cond_false] at hb
    have hb2 := loopD_stop (e := .exit 0) (m' := M2) j hb (by simp)
    rw [← hj] at hb2
    exact ⟨_, hb2⟩
  obtain ⟨X, hA⟩ := hA _
  have hB := hB.trans ((congrArg (fun z => Y.onE z _) hA).trans ((Y.onE_some ..).trans (j3_end k (by omega) ..)))
  exact ⟨_, hB⟩
end
theorem judgeChecks_run (m : Mem) (l : List Dt) (vs : List Value) (ht : m.top) (h : Args Try.prog 8 m [3, 22] l vs) : ∃ k m', callN Try.prog kp 0 oA k 3 vs m = some (.bool true, m') := by
  obtain ⟨d, v, d', v', rfl, rfl, h1, h2, h3, h4⟩ := args2 h
  obtain ⟨n, rfl, _⟩ := int_arg h1 h2
  obtain ⟨rs, hr, hin⟩ := rows_arg h3 h4
  rcases hin with ⟨_, rfl⟩ | ⟨b, sp, cap, rfl, hb, hg, hcap, hsp⟩
  · obtain ⟨m', h⟩ := checks_run0 ht n 300 (Nat.le_refl _)
    exact ⟨300, m', h⟩
  · obtain ⟨m', h⟩ := checks_run (rest := []) ht (by rw [List.append_nil]; exact hg) (fun x hx => by simp at hx) hb hcap hr hsp n 300 (Nat.le_refl _)
    exact ⟨300, m', h⟩
end
end Go.Proofs.Ytfpbiojnbffkpaa
