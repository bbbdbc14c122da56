/-
  DiDraw3: the invariant of a region that draws its order, its steps, its end.
-/
import Derived.Test.YtapmpddneoghfaaDiDraw2
namespace Go.DI
section
variable {P : Program} {K : TypeId → Bool} {G B0 n : Nat} {cf : CallF} {ops : Array Oper} {t t' : Tmps} {m m' : Mem} {rs : List Rec}

/-- What stands fast of a region. -/
structure Reg (P : Program) (K : TypeId → Bool) (G B0 n : Nat) (cf : CallF) (ops : Array Oper) (t : Tmps) (m : Mem) (rs : List Rec) (t' : Tmps) (m' : Mem) : Prop where
  hK : Plain P K
  hcf : CfOK P B0 G cf
  run : Run P K G n cf ops.toList t m rs t' m'
  stat : statB ops.toList (tabD ops.toList []) = true
  c1 : (need1 ops.toList (tabD ops.toList [])).all (chk1 P K G ops.toList rs m') = true
  c2 : (need2 ops.toList (tabD ops.toList [])).all (chk2 rs m') = true

theorem Reg.edges (R : Reg P K G B0 n cf ops t m rs t' m') : edgesB ops.toList 0 = true := by
  have := R.stat
  simp only [statB, Bool.and_eq_true] at this
  exact this.1

theorem Reg.pair (R : Reg P K G B0 n cf ops t m rs t' m') {i j : Nat} (hi : i < ops.size) (hj : j < ops.size) : pairB ops.toList (tabD ops.toList []) i j = true := by
  have := R.stat
  simp only [statB, Bool.and_eq_true, List.all_eq_true, List.mem_range] at this
  exact this.2 i (by simpa using hi) j (by simpa using hj)

theorem blt_iff {a b : Nat} : Nat.blt a b = true ↔ a < b := by
  unfold Nat.blt; rw [Nat.ble_eq]; exact Iff.rfl

/-- Who writes a slot that another one looks at, or writes too, is ordered to it. -/
theorem Reg.sep (R : Reg P K G B0 n cf ops t m rs t' m') {i j : Nat} {x y : Oper} {d : Tmp} (hx : ops[i]? = some x) (hy : ops[j]? = some y) (hne : i ≠ j) (hd : x.dst = some d) (h : d ∈ looksL ops.toList y ∨ y.dst = some d) :
    (i < j → befB (tabD ops.toList []) i j = true) ∧ (j < i → befB (tabD ops.toList []) j i = true) := by
  have hi : i < ops.size := (Array.getElem?_eq_some_iff.1 hx).1
  have hj : j < ops.size := (Array.getElem?_eq_some_iff.1 hy).1
  have := R.pair hi hj
  unfold pairB at this
  simp only [Array.getElem?_toList, hx, hy, hd, Bool.and_eq_true, Bool.or_eq_true] at this
  obtain ⟨h1, _⟩ := this
  rcases h1 with (h1 | h1) | h1
  · exact absurd (Nat.eq_of_beq_eq_true h1) hne
  · have hc : ((looksL ops.toList y).contains d || y.dst == some d) = true := by
      rcases h with h | h
      · simp [h]
      · simp [h]
    rw [hc] at h1
    simp at h1
  · refine ⟨fun hlt => ?_, fun hlt => ?_⟩
    · rw [blt_iff.2 hlt] at h1; exact h1
    · have : Nat.blt i j = false := by
        cases hb : Nat.blt i j with
        | false => rfl
        | true => have := blt_iff.1 hb; omega
      rw [this] at h1; exact h1

theorem Reg.heavy (R : Reg P K G B0 n cf ops t m rs t' m') {i j : Nat} (hi : i < ops.size) (hj : j < ops.size) (h1 : klassAt ops.toList i = 2) (h2 : klassAt ops.toList j = 2) (hlt : i < j) : befB (tabD ops.toList []) i j = true := by
  have := R.pair hi hj
  unfold pairB at this
  simp only [klassAt, Array.getElem?_toList, Array.getElem?_eq_getElem hi, Array.getElem?_eq_getElem hj] at h1 h2
  simp only [Array.getElem?_toList, Array.getElem?_eq_getElem hi, Array.getElem?_eq_getElem hj, Bool.and_eq_true, Bool.or_eq_true] at this
  obtain ⟨_, h3⟩ := this
  rcases h3 with h3 | h3
  · rw [h1, h2, blt_iff.2 hlt] at h3
    simp at h3
  · exact h3

/-- The invariant: what X lists has been done. -/
structure Inv (P : Program) (B0 G n : Nat) (ops : Array Oper) (t : Tmps) (m : Mem) (rs : List Rec) (m' : Mem) (ι0 : Ren) (w0 : World) (a0 : Act) (X : Nat → Bool) (ι : Ren) (M : Mem) (s : Nat) (a : Act) (w : World) : Prop where
  tr : TRel ι n (appX ops.toList rs t X ops.size) a
  sN : s ≤ ops.size
  sh : s < ops.size → klassAt ops.toList s = 2 ∧ X s = false
  sb : ∀ h, h < s → klassAt ops.toList h = 2 → X h = true
  msz : M.size = (mAt rs m' ops.size).size
  g1 : ∀ b, b < (mAt rs m' s).size → M.get b = (mAt rs m' s).get b
  g2 : ∀ i, s < i → i < ops.size → klassAt ops.toList i = 1 → wantAt rs i = true → X i = true → M.get (mAt rs m' i).size = (mAt rs m' (i + 1)).get (mAt rs m' i).size
  jn : ∀ i, i < ops.size → X i = false → ∀ b, (mAt rs m' i).size ≤ b → b < (mAt rs m' (i + 1)).size → ι b = none
  rel : Rel B0 G ι M w
  stp : Stp ι0 ι m M w0 w
  dfr : a.defers = a0.defers

/-- What is listed waits for nothing that is not. -/
def Clo (ops : Array Oper) (X : Nat → Bool) : Prop := ∀ (j : Nat) (o : Oper), ops.toList[j]? = some o → X j = true → ∀ e ∈ o.after.toList, Region.binds .any e = true → X e.on = true

def addX (X : Nat → Bool) (i : Nat) : Nat → Bool := fun k => if k = i then true else X k

variable {ι0 ι : Ren} {M : Mem} {w0 w : World} {a0 a : Act} {X : Nat → Bool} {s i : Nat} {o : Oper}

theorem Reg.size_eq (_R : Reg P K G B0 n cf ops t m rs t' m') : ops.toList.length = ops.size := by simp

theorem Reg.ready (R : Reg P K G B0 n cf ops t m rs t' m') (hC : Clo ops X) (ho : ops[i]? = some o) (hr : ∀ e ∈ o.after.toList, Region.binds .any e = true → X e.on = true) : ∀ k, befB (tabD ops.toList []) k i = true → X k = true :=
  bef_in (X := fun k => X k = true) R.edges (fun j o' hj hx e he hb => hC j o' hj hx e he hb) i o (by simpa using ho) hr

theorem Reg.closed (R : Reg P K G B0 n cf ops t m rs t' m') (hC : Clo ops X) {j : Nat} (hj : j < ops.size) (hx : X j = true) : ∀ k, befB (tabD ops.toList []) k j = true → X k = true := by
  have ho : ops[j]? = some ops[j] := Array.getElem?_eq_getElem hj
  exact R.ready hC ho (fun e he hb => hC j _ (by simp) hx e he hb)

/-- What an operation looks at is as in the text's order. -/
theorem Inv.looks (R : Reg P K G B0 n cf ops t m rs t' m') (hC : Clo ops X) (ho : ops[i]? = some o) (hr : ∀ e ∈ o.after.toList, Region.binds .any e = true → X e.on = true) (hx : X i = false) {d : Tmp} (hd : d ∈ looksL ops.toList o) :
    (appX ops.toList rs t X ops.size).at d = (appX ops.toList rs t (fun _ => true) i).at d := by
  have hi : i < ops.size := (Array.getElem?_eq_some_iff.1 ho).1
  refine appX_agree (by omega) (fun k hk hdk => ?_) (fun k hk hkN hdk => ?_)
  · have hko : ops[k]? = some ops[k] := Array.getElem?_eq_getElem (by omega)
    simp only [dstAt, Array.getElem?_toList, hko] at hdk
    exact R.ready hC ho hr k ((R.sep hko ho (by omega) hdk (.inl hd)).1 hk)
  · by_cases e : k = i
    · rw [e]; exact hx
    · have hko : ops[k]? = some ops[k] := Array.getElem?_eq_getElem hkN
      simp only [dstAt, Array.getElem?_toList, hko] at hdk
      have hb := (R.sep hko ho (by omega) hdk (.inl hd)).2 (by omega)
      cases hxk : X k with
      | false => rfl
      | true => have := R.closed hC hkN hxk i hb; rw [hx] at this; cases this

theorem Inv.evs (R : Reg P K G B0 n cf ops t m rs t' m') (hC : Clo ops X) (ho : ops[i]? = some o) (hr : ∀ e ∈ o.after.toList, Region.binds .any e = true → X e.on = true) (hx : X i = false) :
    ∀ x ∈ operL o.op, ev G (appX ops.toList rs t X ops.size) x = ev G (appX ops.toList rs t (fun _ => true) i) x := by
  intro x hxm
  refine ev_congr fun d hd => Inv.looks R hC ho hr hx ?_
  subst hd
  exact List.mem_append_left _ (List.mem_filterMap.2 ⟨.tmp d, hxm, rfl⟩)

theorem Inv.want (R : Reg P K G B0 n cf ops t m rs t' m') (hC : Clo ops X) (hI : Inv P B0 G n ops t m rs m' ι0 w0 a0 X ι M s a w) (ho : ops[i]? = some o) (hr : ∀ e ∈ o.after.toList, Region.binds .any e = true → X e.on = true) (hx : X i = false) :
    Region.wanted o (yielded ops a.tmps) = wantAt rs i := by
  obtain ⟨r, h1, h2, h3, h4, h5, _⟩ := R.run.step (i := i) (o := o) (by simpa using ho)
  rw [← yield_rel hI.tr]
  simp only [wantAt, h1, h5, h2]
  unfold Region.wanted
  cases hg : o.guard with
  | none => rfl
  | some gw =>
    obtain ⟨g, wv⟩ := gw
    have : yieldD ops.toList (appX ops.toList rs t X ops.size) g = yieldD ops.toList (appX ops.toList rs t (fun _ => true) i) g := by
      unfold yieldD
      cases hgo : ops.toList[g]? with
      | none => rfl
      | some og =>
        cases hgd : og.dst with
        | none => simp only [hgd]
        | some d =>
          simp only [hgd]
          rw [Inv.looks R hC ho hr hx (d := d) (by
            refine List.mem_append_right _ ?_
            simp [hg, hgo, hgd])]
    simp only [this]

/-- The slots behind an operation. -/
theorem Inv.slots (R : Reg P K G B0 n cf ops t m rs t' m') (hC : Clo ops X) (hI : Inv P B0 G n ops t m rs m' ι0 w0 a0 X ι M s a w) (ho : ops[i]? = some o) (hx : X i = false) {ι' : Ren} (hle : ι.le ι') {v' : Value} (hv : VRel ι' (valAt rs i) v') :
    TRel ι' n (appX ops.toList rs t (addX X i) ops.size) (a.put o.dst v') := by
  have hi : i < ops.size := (Array.getElem?_eq_some_iff.1 ho).1
  obtain ⟨r, h1, h2, h3, h4, _⟩ := R.run.step (i := i) (o := o) (by simpa using ho)
  have hd : dstAt ops.toList i = o.dst := by simp [dstAt, ho]
  refine TRel.congr (fun d => (appX_set hi hx (by simp [addX]) (fun k hk => by simp [addX, hk]) (fun k d hk hkN hdk hdi => ?_) d).symm) (TRel.putD (hI.tr.mono hle) (dst := dstAt ops.toList i) (by rw [hd]; exact h4) hv |> fun h => by rw [hd] at h ⊢; exact h)
  have hko : ops[k]? = some ops[k] := Array.getElem?_eq_getElem hkN
  rw [hd] at hdi
  have hdk' : ops[k].dst = some d := by simpa [dstAt, hko] using hdk
  have hb := (R.sep hko ho (by omega) hdk' (.inr hdi)).2 hk
  cases hxk : X k with
  | false => rfl
  | true => have := R.closed hC hkN hxk i hb; rw [hx] at this; cases this

theorem Inv.here (R : Reg P K G B0 n cf ops t m rs t' m') (hI : Inv P B0 G n ops t m rs m' ι0 w0 a0 X ι M s a w) : Rel B0 G ι (mAt rs m' s) w := by
  have hs := (R.run.mono hI.sN (by simp)).size
  exact hI.rel.restrict (R.run.topAt (by simp; exact hI.sN)) (by rw [hI.msz]; simpa using hs) hI.g1

/-- Nothing but the slots turns. -/
theorem Inv.quiet (R : Reg P K G B0 n cf ops t m rs t' m') (hC : Clo ops X) (hI : Inv P B0 G n ops t m rs m' ι0 w0 a0 X ι M s a w) (ho : ops[i]? = some o) (hx : X i = false) (hk : klassAt ops.toList i ≠ 2) (hnot : klassAt ops.toList i = 1 → wantAt rs i = false) {v' : Value} (hv : VRel ι (valAt rs i) v') :
    Inv P B0 G n ops t m rs m' ι0 w0 a0 (addX X i) ι M s (a.put o.dst v') w := by
  have hne : s < ops.size → s ≠ i := fun h e => hk (by rw [← e]; exact (hI.sh h).1)
  refine ⟨Inv.slots R hC hI ho hx (fun _ _ h => h) hv, hI.sN, fun h => ⟨(hI.sh h).1, ?_⟩, fun h h1 h2 => ?_, hI.msz, hI.g1, fun j h1 h2 h3 h4 h5 => ?_, fun j hj hxj => hI.jn j hj ?_, hI.rel, hI.stp, (put_defers _ _ _).trans hI.dfr⟩
  · simp [addX, hne h, (hI.sh h).2]
  · unfold addX; split
    · rfl
    · exact hI.sb h h1 h2
  · by_cases e : j = i
    · rw [e] at h3 h4; rw [hnot h3] at h4; cases h4
    · exact hI.g2 j h1 h2 h3 h4 (by simpa [addX, e] using h5)
  · by_cases e : j = i
    · rw [e] at hxj; simp [addX] at hxj
    · simpa [addX, e] using hxj

/-- A block that is laid. -/
theorem Inv.alloc (R : Reg P K G B0 n cf ops t m rs t' m') (hC : Clo ops X) (hI : Inv P B0 G n ops t m rs m' ι0 w0 a0 X ι M s a w) (ho : ops[i]? = some o) (hx : X i = false) (hk : klassAt ops.toList i = 1) {x : Blk} {q : Made}
    (hval : valAt rs i = q.val (mAt rs m' i).size) (hpush : mAt rs m' (i + 1) = (mAt rs m' i).push x) (hw : wantAt rs i = true) {ob : Obj} {k : Nat}
    (hnew : ∀ ι' : Ren, ι.le ι' → BlkRel B0 ι' x ⟨w.heap.size, 0, k⟩ (w.alloc ob)) :
    ∃ ι' M', Inv P B0 G n ops t m rs m' ι0 w0 a0 (addX X i) ι' M' s (a.put o.dst (q.val w.heap.size)) (w.alloc ob) := by
  have hi : i < ops.size := (Array.getElem?_eq_some_iff.1 ho).1
  have hL : ops.toList.length = ops.size := by simp
  have hne : s < ops.size → s ≠ i := fun h e => by have := (hI.sh h).1; rw [e, hk] at this; cases this
  have hsi : s ≠ i := by
    rcases Nat.lt_or_ge s ops.size with h | h
    · exact hne h
    · omega
  obtain ⟨b0, hb0⟩ : ∃ b0, b0 = (mAt rs m' i).size := ⟨_, rfl⟩
  have hsz1 : (mAt rs m' (i + 1)).size = b0 + 1 := by rw [hpush, hb0]; rfl
  have hU : b0 < M.size := by
    have := (R.run.mono (i := i + 1) (j := ops.size) (by omega) (by omega)).size
    rw [hI.msz]; omega
  have hnone : ι b0 = none := hI.jn i hi hx b0 (by omega) (by omega)
  have hgx : (mAt rs m' (i + 1)).get b0 = x := by rw [hpush, hb0, Mem.get_push_same]
  have hle : ι.le (fun b => if b = b0 then some ⟨w.heap.size, 0, k⟩ else ι b) := by
    intro b L hb
    have : b ≠ b0 := by intro e; rw [e, hnone] at hb; cases hb
    simp [this, hb]
  -- where the text's order has laid it already, nobody has touched it
  have hkept : i < s → (mAt rs m' s).get b0 = x := by
    intro his
    have main : ∀ c, i + 1 + c ≤ s → (mAt rs m' (i + 1 + c)).get b0 = x := by
      intro c
      induction c with
      | zero => intro _; exact hgx
      | succ c ih =>
        intro hc
        have ih := ih (by omega)
        have hlt : i + 1 + c < ops.size := by have := hI.sN; omega
        by_cases hh : klassAt ops.toList (i + 1 + c) = 2
        · have hX := hI.sb (i + 1 + c) (by omega) hh
          have hnb : befB (tabD ops.toList []) i (i + 1 + c) = false := by
            cases hb : befB (tabD ops.toList []) i (i + 1 + c) with
            | false => rfl
            | true => have := R.closed hC hlt hX i hb; rw [hx] at this; cases this
          have hmem : (i, i + 1 + c) ∈ need2 ops.toList (tabD ops.toList []) := by
            unfold need2
            refine List.mem_flatMap.2 ⟨i, List.mem_range.2 (by omega), ?_⟩
            rw [show Nat.beq (klassAt ops.toList i) 1 = true by rw [hk]; rfl, cond_true]
            refine List.mem_filterMap.2 ⟨i + 1 + c, List.mem_range.2 (by omega), ?_⟩
            have hbl : Nat.blt i (i + 1 + c) = true := blt_iff.2 (by omega)
            simp only [hbl, hh, hnb, Bool.true_and, Bool.not_false, Bool.and_true]
            rfl
          have := List.all_eq_true.1 R.c2 _ hmem
          unfold chk2 at this
          obtain ⟨r, h1, h2, h3, _⟩ := R.run.step (i := i) (o := o) (by simpa using ho)
          have hwr : r.want = true := by simpa [wantAt, h1] using hw
          simp only [h1, hwr, Bool.not_true, Bool.false_or, h3] at this
          have := blkEq_eq this
          rw [← hb0, hgx] at this
          exact this
        · have := R.run.kept (i := i + 1 + c) (j := i + 1 + c + 1) (by omega) (by omega) (fun h g1 g2 => by rw [show h = i + 1 + c by omega]; exact hh) b0 (by
            have := (R.run.mono (i := i + 1) (j := i + 1 + c) (by omega) (by omega)).size
            omega)
          show (mAt rs m' (i + 1 + c + 1)).get b0 = x
          rw [this]; exact ih
    have := main (s - (i + 1)) (by omega)
    rw [show i + 1 + (s - (i + 1)) = s by omega] at this
    exact this
  let M' : Mem := ⟨fun b => if b = b0 then x else M.get b, .nil, M.size⟩
  have hg' : ∀ b, M'.get b = if b = b0 then x else M.get b := fun b => by simp [M', Mem.get, Tr.get_nil]
  have hrel := Rel.lay (M' := M') hI.rel hU hnone rfl (by rw [hg']; simp) (fun b hb => by rw [hg']; simp [hb]) (hnew _ hle)
  have hdist : ∀ j, j < ops.size → j ≠ i → ∀ b, (mAt rs m' j).size ≤ b → b < (mAt rs m' (j + 1)).size → b ≠ b0 := by
    intro j hj hji b h1 h2 e
    rcases Nat.lt_or_ge j i with hlt | hge
    · have := (R.run.mono (i := j + 1) (j := i) (by omega) (by omega)).size; omega
    · have := (R.run.mono (i := i + 1) (j := j) (by omega) (by omega)).size; omega
  refine ⟨_, M', Inv.slots R hC hI ho hx hle ?_, hI.sN, fun h => ⟨(hI.sh h).1, ?_⟩, fun h h1 h2 => ?_, hI.msz, fun b hb => ?_, fun j h1 h2 h3 h4 h5 => ?_, fun j hj hxj b h1 h2 => ?_, hrel, ?_, (put_defers _ _ _).trans hI.dfr⟩
  · rw [hval, ← hb0]
    exact Made.rel (k := k) (by simp) q
  · simp [addX, hsi, (hI.sh h).2]
  · unfold addX; split
    · rfl
    · exact hI.sb h h1 h2
  · rw [hg']
    by_cases e : b = b0
    · subst e
      have his : i < s := by
        rcases Nat.lt_or_ge i s with h | h
        · exact h
        · have := (R.run.mono (i := s) (j := i) h (by omega)).size; omega
      rw [if_pos rfl, hkept his]
    · rw [if_neg e]; exact hI.g1 b hb
  · by_cases e : j = i
    · subst e
      rw [hg', if_pos hb0.symm, ← hb0, hgx]
    · rcases R.run.light (i := j) (by omega) (by rw [h3]; decide) with ⟨_, g⟩ | ⟨_, _, x', q', _, _, g⟩
      · rw [g h3] at h4; cases h4
      · have hb1 : (mAt rs m' j).size < (mAt rs m' (j + 1)).size := by rw [g]; simp
        rw [hg', if_neg (hdist j h2 e _ (Nat.le_refl _) hb1)]
        exact hI.g2 j h1 h2 h3 h4 (by simpa [addX, e] using h5)
  · have e : j ≠ i := by intro e; rw [e] at hxj; simp [addX] at hxj
    simp only [hdist j hj e b h1 h2, if_false]
    exact hI.jn j hj (by simpa [addX, e] using hxj) b h1 h2
  · have hms : m.size ≤ b0 := by
      have := (R.run.mono (i := 0) (j := i) (Nat.zero_le _) (by omega)).size
      rw [R.run.zero] at this; omega
    refine ⟨fun b L hb => hle _ _ (hI.stp.ext _ _ hb), fun b hb => ?_, hI.stp.os, hI.stp.output, hI.stp.tape, by have := hI.stp.hsize; simp; omega, fun B hB hn => ?_, fun b L h1 h2 hb => ?_, hI.stp.msize, fun b hb hown => ?_⟩
    · have : b ≠ b0 := by
        rcases hb with hb | hb
        · omega
        · have : M'.size = M.size := rfl
          omega
      simp only [this, if_false]
      exact hI.stp.out b hb
    · have := hI.stp.hsize
      rw [show (w.alloc ob).heap[B]? = w.heap[B]? by show (w.heap.push ob)[B]? = _; rw [Array.getElem?_push, if_neg (by omega)]]
      exact hI.stp.frame B hB hn
    · by_cases e : b = b0
      · simp only [e, if_true] at hb
        cases hb
        exact .inl hI.stp.hsize
      · simp only [e, if_false] at hb
        exact hI.stp.new b L h1 h2 hb
    · rw [hg', if_neg (by omega)] at hown
      exact hI.stp.ownk b hb hown

/-- The heavy operation that stands next is done. -/
theorem Inv.advance (R : Reg P K G B0 n cf ops t m rs t' m') (hC : Clo ops X) (hI : Inv P B0 G n ops t m rs m' ι0 w0 a0 X ι M s a w) (ho : ops[s]? = some o) (hx : X s = false) {ι' : Ren} {w' : World} {v' : Value}
    (hrel : Rel B0 G ι' (mAt rs m' (s + 1)) w') (hstp : Stp ι ι' (mAt rs m' s) (mAt rs m' (s + 1)) w w') (hv : VRel ι' (valAt rs s) v') :
    ∃ M' s', Inv P B0 G n ops t m rs m' ι0 w0 a0 (addX X s) ι' M' s' (a.put o.dst v') w' := by
  have hi : s < ops.size := (Array.getElem?_eq_some_iff.1 ho).1
  have hL : ops.toList.length = ops.size := by simp
  have hks := (hI.sh hi).1
  obtain ⟨s', hs1, hs2, hs3, hs4⟩ := next_heavy ops.toList (ops.size - (s + 1)) (s + 1) (by omega)
  have hkept := R.run.kept (i := s + 1) (j := s') hs1 hs2 (fun h g1 g2 => hs4 h g1 g2)
  have z1 := (R.run.mono (i := s) (j := s + 1) (by omega) (by omega)).size
  have z2 := (R.run.mono (i := s + 1) (j := s') hs1 hs2).size
  have z3 := (R.run.mono (i := s') (j := ops.size) (by omega) (by omega)).size
  have z0 := (R.run.mono (i := 0) (j := s) (Nat.zero_le _) (by omega)).size
  rw [R.run.zero] at z0
  have hms := hI.msz
  let M' : Mem := ⟨fun b => if b < (mAt rs m' s').size then (mAt rs m' s').get b else M.get b, .nil, M.size⟩
  have hg' : ∀ b, M'.get b = if b < (mAt rs m' s').size then (mAt rs m' s').get b else M.get b := fun b => by simp [M', Mem.get, Tr.get_nil]
  have hgl : ∀ b, b < (mAt rs m' (s + 1)).size → M'.get b = (mAt rs m' (s + 1)).get b := fun b hb => by
    rw [hg', if_pos (by omega)]; exact hkept b hb
  have hgh : ∀ b L, (mAt rs m' (s + 1)).size ≤ b → b < M.size → ι b = some L → M'.get b = M.get b := by
    intro b L h1 h2 hb
    rw [hg']
    split
    · rename_i hlt
      obtain ⟨j, g1, g2, g3, g4⟩ := R.run.owner (i := s + 1) (s' - (s + 1)) (by omega) b h1 (by rw [show s + 1 + (s' - (s + 1)) = s' by omega]; exact hlt)
      have hjN : j < ops.size := by omega
      have hXj : X j = true := by
        cases hxj : X j with
        | true => rfl
        | false => have := hI.jn j hjN hxj b g3 g4; rw [this] at hb; cases hb
      rcases R.run.light (i := j) (by omega) (hs4 j g1 (by omega)) with ⟨e, _⟩ | ⟨k1, k2, x, q, _, _, e⟩
      · rw [e] at g4; omega
      · have hbj : b = (mAt rs m' j).size := by rw [e] at g4; simp at g4; omega
        have hb2 := hI.g2 j (by omega) hjN k1 k2 hXj
        rw [hbj, hb2]
        exact R.run.kept (i := j + 1) (j := s') (by omega) hs2 (fun h q1 q2 => hs4 h (by omega) q2) _ (by rw [e]; simp)
    · rfl
  have hout : ∀ b, (mAt rs m' (s + 1)).size ≤ b → ι' b = ι b := fun b hb => hstp.out b (.inr hb)
  -- what lies beyond is not touched
  have hfr : ∀ b L, (mAt rs m' (s + 1)).size ≤ b → b < M.size → ι b = some L → (M.get b).live → w'.heap[L.block]? = w.heap[L.block]? := by
    intro b L h1 h2 hb hlv
    refine hstp.frame _ (hI.rel.old b L hb) fun b1 L1 k1 k2 k3 e => ?_
    rw [← hI.g1 b1 k1] at k3
    have l1 : (M.get b1).live := by cases hg : M.get b1 <;> simp_all [Blk.own, Blk.live]
    have := hI.rel.inj b1 b L1 L (by omega) h2 k2 hb l1 hlv e
    omega
  have hrel' : Rel B0 G ι' M' w' := by
    refine ⟨fun b L hb hL => ?_, fun b₁ b₂ L₁ L₂ h1 h2 h3 h4 l1 l2 e => ?_, hrel.old, hrel.floor, hrel.glob, fun b hb => ?_⟩
    · rcases Nat.lt_or_ge b (mAt rs m' (s + 1)).size with hlt | hge
      · rw [hgl b hlt]; exact hrel.blk b L hlt hL
      · rw [hout b hge] at hL
        rw [hgh b L hge hb hL]
        have hbr := hI.rel.blk b L hb hL
        by_cases hlv : (M.get b).live
        · exact hbr.mono hstp.ext (hfr b L hge hb hL hlv)
        · cases hg : M.get b <;> simp_all [Blk.live, BlkRel]
    · have mixed : ∀ b₁ b₂ L₁ L₂, b₁ < (mAt rs m' (s + 1)).size → (mAt rs m' (s + 1)).size ≤ b₂ → b₂ < M.size → ι' b₁ = some L₁ → ι' b₂ = some L₂ → (M'.get b₁).live → (M'.get b₂).live → L₁.block = L₂.block → False := by
        intro b₁ b₂ L₁ L₂ h1 h2 h2' h3 h4 l1 l2 e
        rw [hout b₂ h2] at h4
        rw [hgl b₁ h1] at l1
        rw [hgh b₂ L₂ h2 h2' h4] at l2
        rcases Nat.lt_or_ge b₁ (mAt rs m' s).size with hlt | hge
        · rw [hstp.out b₁ (.inl hlt)] at h3
          have l1' := (R.run.grow1 (i := s) (by omega)).live b₁ hlt l1
          rw [← hI.g1 b₁ hlt] at l1'
          have := hI.rel.inj b₁ b₂ L₁ L₂ (by omega) h2' h3 h4 l1' l2 e
          omega
        · rcases hstp.new b₁ L₁ hge h1 h3 with g | ⟨b0, L0, q1, q2, q3, q4⟩
          · have := hI.rel.old b₂ L₂ h4; omega
          · rw [← hI.g1 b0 q1] at q3
            have l0 : (M.get b0).live := by cases hg : M.get b0 <;> simp_all [Blk.own, Blk.live]
            have := hI.rel.inj b0 b₂ L0 L₂ (by omega) h2' q2 h4 l0 l2 (q4.trans e)
            omega
      rcases Nat.lt_or_ge b₁ (mAt rs m' (s + 1)).size with hlt1 | hge1
      · rcases Nat.lt_or_ge b₂ (mAt rs m' (s + 1)).size with hlt2 | hge2
        · rw [hgl b₁ hlt1] at l1
          rw [hgl b₂ hlt2] at l2
          exact hrel.inj b₁ b₂ L₁ L₂ hlt1 hlt2 h3 h4 l1 l2 e
        · exact (mixed b₁ b₂ L₁ L₂ hlt1 hge2 h2 h3 h4 l1 l2 e).elim
      · rcases Nat.lt_or_ge b₂ (mAt rs m' (s + 1)).size with hlt2 | hge2
        · exact (mixed b₂ b₁ L₂ L₁ hlt2 hge1 h1 h4 h3 l2 l1 e.symm).elim
        · rw [hout b₁ hge1] at h3
          rw [hout b₂ hge2] at h4
          rw [hgh b₁ L₁ hge1 h1 h3] at l1
          rw [hgh b₂ L₂ hge2 h2 h4] at l2
          exact hI.rel.inj b₁ b₂ L₁ L₂ h1 h2 h3 h4 l1 l2 e
    · have hb' : M.size ≤ b := hb
      rw [hg', if_neg (by omega)]
      exact hI.rel.top b hb'
  refine ⟨M', s', Inv.slots R hC hI ho hx hstp.ext hv, by omega, fun h => ⟨hs3 (by omega), ?_⟩, fun h h1 h2 => ?_, hI.msz, fun b hb => by rw [hg', if_pos hb], fun j h1 h2 h3 h4 h5 => ?_, fun j hj hxj b h1 h2 => ?_, hrel', ?_, (put_defers _ _ _).trans hI.dfr⟩
  · have hne : s' ≠ s := by omega
    simp only [addX, hne, if_false]
    cases hxs : X s' with
    | false => rfl
    | true =>
      have := R.closed hC h hxs s (R.heavy hi h hks (hs3 (by omega)) (by omega))
      rw [hx] at this; cases this
  · unfold addX; split
    · rfl
    · rename_i hne
      rcases Nat.lt_or_ge h s with hlt | hge
      · exact hI.sb h hlt h2
      · exact absurd h2 (hs4 h (by omega) h1)
  · have hne : j ≠ s := by omega
    have hz := (R.run.mono (i := s') (j := j) (by omega) (by omega)).size
    rw [hg', if_neg (by omega)]
    exact hI.g2 j (by omega) h2 h3 h4 (by simpa [addX, hne] using h5)
  · have hne : j ≠ s := by intro e; rw [e] at hxj; simp [addX] at hxj
    have hxj' : X j = false := by simpa [addX, hne] using hxj
    rw [hstp.out b ?_]
    · exact hI.jn j hj hxj' b h1 h2
    · rcases Nat.lt_or_ge j s with hlt | hge
      · have := (R.run.mono (i := j + 1) (j := s) (by omega) (by omega)).size
        exact .inl (by omega)
      · have := (R.run.mono (i := s + 1) (j := j) (by omega) (by omega)).size
        exact .inr (by omega)
  · exact Stp.inner hI.stp hstp z0 (by omega) hI.g1 rfl (fun b hb => hgl b (by omega))
end
end Go.DI
