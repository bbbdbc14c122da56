/-
  DiDraw3: the invariant of a region that draws its order, its steps, its end.
-/
import Derived.Test.YtfpbiojnbffkpaaH05
set_option linter.all false
set_option linter.unusedVariables false
set_option linter.unusedSimpArgs false
namespace Go.DI
section
variable {P : Program} {K : TypeId → Bool} {G B0 n : Nat} {cf : CallF} {ops : Array Oper} {t t' : Tmps} {m m' : Mem} {rs : List Rec}
structure Reg (P : Program) (K : TypeId → Bool) (G B0 n : Nat) (cf : CallF) (ops : Array Oper) (t : Tmps) (m : Mem) (rs : List Rec) (t' : Tmps) (m' : Mem) : Prop where
  hK : Plain P K
  hcf : CfOK P B0 G cf
  run : Run P K G n cf ops.toList t m rs t' m'
  stat : statB ops.toList (tabD ops.toList []) = true
  c1 : (need1 ops.toList (tabD ops.toList [])).all (chk1 P K G ops.toList rs m') = true
  c2 : (need2 ops.toList (tabD ops.toList [])).all (chk2 rs m') = true
theorem Reg.edges (R : Reg P K G B0 n cf ops t m rs t' m') : edgesB ops.toList 0 = true := by
  have := R.stat
  simp only [statB, Bool.and_eq_true] at this
  exact this.1
theorem Reg.pair (R : Reg P K G B0 n cf ops t m rs t' m') {i j : Nat} (hi : i < ops.size) (hj : j < ops.size) : pairB ops.toList (tabD ops.toList []) i j = true := by
  have := R.stat
  simp only [statB, Bool.and_eq_true, List.all_eq_true, List.mem_range] at this
  exact this.2 i (by simpa using hi) j (by simpa using hj)
theorem blt_iff {a b : Nat} : Nat.blt a b = true ↔ a < b := by
  unfold Nat.blt; rw [Nat.ble_eq]; exact Iff.rfl
theorem Reg.sep (R : Reg P K G B0 n cf ops t m rs t' m') {i j : Nat} {x y : Oper} {d : Tmp} (hx : ops[i]? = some x) (hy : ops[j]? = some y) (hne : i ≠ j) (hd : x.dst = some d) (h : d ∈ looksL ops.toList y ∨ y.dst = some d) :
    (i < j → befB (tabD ops.toList []) i j = true) ∧ (j < i → befB (tabD ops.toList []) j i = true) := by
  have hi : i < ops.size := (Array.getElem?_eq_some_iff.1 hx).1
  have hj : j < ops.size := (Array.getElem?_eq_some_iff.1 hy).1
  have := R.pair hi hj
  unfold pairB at this
  simp only [Array.getElem?_toList, hx, hy, hd, Bool.and_eq_true, Bool.or_eq_true] at this
  obtain ⟨h1, _⟩ := this
  rcases h1 with (h1 | h1) | h1
  · exact absurd (Nat.eq_of_beq_eq_true h1) hne
  · have hc : ((looksL ops.toList y).contains d || y.dst == some d) = true := by
      rcases h with h | h
      · simp [h]
      · simp [h]
    rw [hc] at h1
    simp at h1
  · refine ⟨fun hlt => ?_, fun hlt => ?_⟩
    · rw [blt_iff.2 hlt] at h1; exact h1
    · have : Nat.blt i j = false := by
        cases hb : Nat.blt i j with
        | false => rfl
        | true => have := blt_iff.1 hb; omega
      rw [this] at h1; exact h1
theorem Reg.heavy (R : Reg P K G B0 n cf ops t m rs t' m') {i j : Nat} (hi : i < ops.size) (hj : j < ops.size) (h1 : klassAt ops.toList i = 2) (h2 : klassAt ops.toList j = 2) (hlt : i < j) : befB (tabD ops.toList []) i j = true := by
  have := R.pair hi hj
  unfold pairB at this
  simp only [klassAt, Array.getElem?_toList, Array.getElem?_eq_getElem hi, Array.getElem?_eq_getElem hj] at h1 h2
  simp only [Array.getElem?_toList, Array.getElem?_eq_getElem hi, Array.getElem?_eq_getElem hj, Bool.and_eq_true, Bool.or_eq_true] at this
  obtain ⟨_, h3⟩ := this
  rcases h3 with h3 | h3
  · rw [h1, h2, blt_iff.2 hlt] at h3
    simp at h3
  · exact h3
structure Inv (P : Program) (B0 G n : Nat) (ops : Array Oper) (t : Tmps) (m : Mem) (rs : List Rec) (m' : Mem) (ι0 : Ren) (w0 : World) (a0 : Act) (X : Nat → Bool) (ι : Ren) (M : Mem) (s : Nat) (a : Act) (w : World) : Prop where
  tr : TRel ι n (appX ops.toList rs t X ops.size) a
  sN : s ≤ ops.size
  sh : s < ops.size → klassAt ops.toList s = 2 ∧ X s = false
  sb : ∀ h, h < s → klassAt ops.toList h = 2 → X h = true
  msz : M.size = (mAt rs m' ops.size).size
  g1 : ∀ b, b < (mAt rs m' s).size → M.get b = (mAt rs m' s).get b
  g2 : ∀ i, s < i → i < ops.size → klassAt ops.toList i = 1 → wantAt rs i = true → X i = true → M.get (mAt rs m' i).size = (mAt rs m' (i + 1)).get (mAt rs m' i).size
  jn : ∀ i, i < ops.size → X i = false → ∀ b, (mAt rs m' i).size ≤ b → b < (mAt rs m' (i + 1)).size → ι b = none
  rel : Rel B0 G ι M w
  stp : Stp ι0 ι m M w0 w
  dfr : a.defers = a0.defers
def Clo (ops : Array Oper) (X : Nat → Bool) : Prop := ∀ (j : Nat) (o : Oper), ops.toList[j]? = some o → X j = true → ∀ e ∈ o.after.toList, Region.binds .any e = true → X e.on = true
def addX (X : Nat → Bool) (i : Nat) : Nat → Bool := fun k => if k = i then true else X k
variable {ι0 ι : Ren} {M : Mem} {w0 w : World} {a0 a : Act} {X : Nat → Bool} {s i : Nat} {o : Oper}
theorem Reg.size_eq (_R : Reg P K G B0 n cf ops t m rs t' m') : ops.toList.length = ops.size := by simp
theorem Reg.ready (R : Reg P K G B0 n cf ops t m rs t' m') (hC : Clo ops X) (ho : ops[i]? = some o) (hr : ∀ e ∈ o.after.toList, Region.binds .any e = true → X e.on = true) : ∀ k, befB (tabD ops.toList []) k i = true → X k = true :=
  bef_in (X := fun k => X k = true) R.edges (fun j o' hj hx e he hb => hC j o' hj hx e he hb) i o (by simpa using ho) hr
theorem Reg.closed (R : Reg P K G B0 n cf ops t m rs t' m') (hC : Clo ops X) {j : Nat} (hj : j < ops.size) (hx : X j = true) : ∀ k, befB (tabD ops.toList []) k j = true → X k = true := by
  have ho : ops[j]? = some ops[j] := Array.getElem?_eq_getElem hj
  exact R.ready hC ho (fun e he hb => hC j _ (by simp) hx e he hb)
theorem Inv.looks (R : Reg P K G B0 n cf ops t m rs t' m') (hC : Clo ops X) (ho : ops[i]? = some o) (hr : ∀ e ∈ o.after.toList, Region.binds .any e = true → X e.on = true) (hx : X i = false) {d : Tmp} (hd : d ∈ looksL ops.toList o) :
    (appX ops.toList rs t X ops.size).at d = (appX ops.toList rs t (fun _ => true) i).at d := by
  have hi : i < ops.size := (Array.getElem?_eq_some_iff.1 ho).1
  refine appX_agree (by omega) (fun k hk hdk => ?_) (fun k hk hkN hdk => ?_)
  · have hko : ops[k]? = some ops[k] := Array.getElem?_eq_getElem (by omega)
    simp only [dstAt, Array.getElem?_toList, hko] at hdk
    exact R.ready hC ho hr k ((R.sep hko ho (by omega) hdk (.inl hd)).1 hk)
  · by_cases e : k = i
    · rw [e]; exact hx
    · have hko : ops[k]? = some ops[k] := Array.getElem?_eq_getElem hkN
      simp only [dstAt, Array.getElem?_toList, hko] at hdk
      have hb := (R.sep hko ho (by omega) hdk (.inl hd)).2 (by omega)
      cases hxk : X k with
      | false => rfl
      | true => have := R.closed hC hkN hxk i hb; rw [hx] at this; cases this
theorem Inv.evs (R : Reg P K G B0 n cf ops t m rs t' m') (hC : Clo ops X) (ho : ops[i]? = some o) (hr : ∀ e ∈ o.after.toList, Region.binds .any e = true → X e.on = true) (hx : X i = false) :
    ∀ x ∈ operL o.op, ev G (appX ops.toList rs t X ops.size) x = ev G (appX ops.toList rs t (fun _ => true) i) x := by
  intro x hxm
  refine ev_congr fun d hd => Inv.looks R hC ho hr hx ?_
  subst hd
  exact List.mem_append_left _ (List.mem_filterMap.2 ⟨.tmp d, hxm, rfl⟩)
theorem Inv.want (R : Reg P K G B0 n cf ops t m rs t' m') (hC : Clo ops X) (hI : Inv P B0 G n ops t m rs m' ι0 w0 a0 X ι M s a w) (ho : ops[i]? = some o) (hr : ∀ e ∈ o.after.toList, Region.binds .any e = true → X e.on = true) (hx : X i = false) :
    Region.wanted o (yielded ops a.tmps) = wantAt rs i := by
  obtain ⟨r, h1, h2, h3, h4, h5, _⟩ := R.run.step (i := i) (o := o) (by simpa using ho)
  rw [← yield_rel hI.tr]
  simp only [wantAt, h1, h5, h2]
  unfold Region.wanted
  cases hg : o.guard with
  | none => rfl
  | some gw =>
    obtain ⟨g, wv⟩ := gw
    have : yieldD ops.toList (appX ops.toList rs t X ops.size) g = yieldD ops.toList (appX ops.toList rs t (fun _ => true) i) g := by
      unfold yieldD
      cases hgo : ops.toList[g]? with
      | none => rfl
      | some og =>
        cases hgd : og.dst with
        | none => simp only [hgd]
        | some d =>
          simp only [hgd]
          rw [Inv.looks R hC ho hr hx (d := d) (by
            refine List.mem_append_right _ ?_
            simp [hg, hgo, hgd])]
    simp only [this]
theorem Inv.slots (R : Reg P K G B0 n cf ops t m rs t' m') (hC : Clo ops X) (hI : Inv P B0 G n ops t m rs m' ι0 w0 a0 X ι M s a w) (ho : ops[i]? = some o) (hx : X i = false) {ι' : Ren} (hle : ι.le ι') {v' : Value} (hv : VRel ι' (valAt rs i) v') :
    TRel ι' n (appX ops.toList rs t (addX X i) ops.size) (a.put o.dst v') := by
  have hi : i < ops.size := (Array.getElem?_eq_some_iff.1 ho).1
  obtain ⟨r, h1, h2, h3, h4, _⟩ := R.run.step (i := i) (o := o) (by simpa using ho)
  have hd : dstAt ops.toList i = o.dst := by simp [dstAt, ho]
  refine TRel.congr (fun d => (appX_set hi hx (by simp [addX]) (fun k hk => by simp [addX, hk]) (fun k d hk hkN hdk hdi => ?_) d).symm) (TRel.putD (hI.tr.mono hle) (dst := dstAt ops.toList i) (by rw [hd]; exact h4) hv |> fun h => by rw [hd] at h ⊢; exact h)
  have hko : ops[k]? = some ops[k] := Array.getElem?_eq_getElem hkN
  rw [hd] at hdi
  have hdk' : ops[k].dst = some d := by simpa [dstAt, hko] using hdk
  have hb := (R.sep hko ho (by omega) hdk' (.inr hdi)).2 hk
  cases hxk : X k with
  | false => rfl
  | true => have := R.closed hC hkN hxk i hb; rw [hx] at this; cases this
theorem Inv.here (R : Reg P K G B0 n cf ops t m rs t' m') (hI : Inv P B0 G n ops t m rs m' ι0 w0 a0 X ι M s a w) : Rel B0 G ι (mAt rs m' s) w := by
  have hs := (R.run.mono hI.sN (by simp)).size
  exact hI.rel.restrict (R.run.topAt (by simp; exact hI.sN)) (by rw [hI.msz]; simpa using hs) hI.g1
theorem Inv.quiet (R : Reg P K G B0 n cf ops t m rs t' m') (hC : Clo ops X) (hI : Inv P B0 G n ops t m rs m' ι0 w0 a0 X ι M s a w) (ho : ops[i]? = some o) (hx : X i = false) (hk : klassAt ops.toList i ≠ 2) (hnot : klassAt ops.toList i = 1 → wantAt rs i = false) {v' : Value} (hv : VRel ι (valAt rs i) v') :
    Inv P B0 G n ops t m rs m' ι0 w0 a0 (addX X i) ι M s (a.put o.dst v') w := by
  have hne : s < ops.size → s ≠ i := fun h e => hk (by rw [← e]; exact (hI.sh h).1)
  refine ⟨Inv.slots R hC hI ho hx (fun _ _ h => h) hv, hI.sN, fun h => ⟨(hI.sh h).1, ?_⟩, fun h h1 h2 => ?_, hI.msz, hI.g1, fun j h1 h2 h3 h4 h5 => ?_, fun j hj hxj => hI.jn j hj ?_, hI.rel, hI.stp, (put_defers _ _ _).trans hI.dfr⟩
  · simp [addX, hne h, (hI.sh h).2]
  · unfold addX; split
    · rfl
    · exact hI.sb h h1 h2
  · by_cases e : j = i
    · rw [e] at h3 h4; rw [hnot h3] at h4; cases h4
    · exact hI.g2 j h1 h2 h3 h4 (by simpa [addX, e] using h5)
  · by_cases e : j = i
    · rw [e] at hxj; simp [addX] at hxj
    · simpa [addX, e] using hxj
theorem Inv.alloc (R : Reg P K G B0 n cf ops t m rs t' m') (hC : Clo ops X) (hI : Inv P B0 G n ops t m rs m' ι0 w0 a0 X ι M s a w) (ho : ops[i]? = some o) (hx : X i = false) (hk : klassAt ops.toList i = 1) {x : Blk} {q : Made}
    (hval : valAt rs i = q.val (mAt rs m' i).size) (hpush : mAt rs m' (i + 1) = (mAt rs m' i).push x) (hw : wantAt rs i = true) {ob : Obj} {k : Nat}
    (hnew : ∀ ι' : Ren, ι.le ι' → BlkRel B0 ι' x ⟨w.heap.size, 0, k⟩ (w.alloc ob)) :
    ∃ ι' M', Inv P B0 G n ops t m rs m' ι0 w0 a0 (addX X i) ι' M' s (a.put o.dst (q.val w.heap.size)) (w.alloc ob) := by
  have hi : i < ops.size := (Array.getElem?_eq_some_iff.1 ho).1
  have hL : ops.toList.length = ops.size := by simp
  have hne : s < ops.size → s ≠ i := fun h e => by have := (hI.sh h).1; rw [e, hk] at this; cases this
  have hsi : s ≠ i := by
    rcases Nat.lt_or_ge s ops.size with h | h
    · exact hne h
    · omega
  obtain ⟨b0, hb0⟩ : ∃ b0, b0 = (mAt rs m' i).size := ⟨_, rfl⟩
  have hsz1 : (mAt rs m' (i + 1)).size = b0 + 1 := by rw [hpush, hb0]; rfl
  have hU : b0 < M.size := by
    have := (R.run.mono (i := i + 1) (j := ops.size) (by omega) (by omega)).size
    rw [hI.msz]; omega
  have hnone : ι b0 = none := hI.jn i hi hx b0 (by omega) (by omega)
  have hgx : (mAt rs m' (i + 1)).get b0 = x := by rw [hpush, hb0, Mem.get_push_same]
  have hle : ι.le (fun b => if b = b0 then some ⟨w.heap.size, 0, k⟩ else ι b) := by
    intro b L hb
    have : b ≠ b0 := by intro e; rw [e, hnone] at hb; cases hb
    simp [this, hb]
  have hkept : i < s → (mAt rs m' s).get b0 = x := by
    intro his
    have main : ∀ c, i + 1 + c ≤ s → (mAt rs m' (i + 1 + c)).get b0 = x := by
      intro c
      induction c with
      | zero => intro _; exact hgx
      | succ c ih =>
        intro hc
        have ih := ih (by omega)
        have hlt : i + 1 + c < ops.size := by have := hI.sN; omega
        by_cases hh : klassAt ops.toList (i + 1 + c) = 2
        · have hX := hI.sb (i + 1 + c) (by omega) hh
          have hnb : befB (tabD ops.toList []) i (i + 1 + c) = false := by
            cases hb : befB (tabD ops.toList []) i (i + 1 + c) with
            | false => rfl
            | true => have := R.closed hC hlt hX i hb; rw [hx] at this; cases this
          have hmem : (i, i + 1 + c) ∈ need2 ops.toList (tabD ops.toList []) := by
            unfold need2
            refine List.mem_flatMap.2 ⟨i, List.mem_range.2 (by omega), ?_⟩
            rw [show Nat.beq (klassAt ops.toList i) 1 = true by rw [hk]; rfl, cond_true]
            refine List.mem_filterMap.2 ⟨i + 1 + c, List.mem_range.2 (by omega), ?_⟩
            have hbl : Nat.blt i (i + 1 + c) = true := blt_iff.2 (by omega)
            simp only [hbl, hh, hnb, Bool.true_and, Bool.not_false, Bool.and_true]
            rfl
          have := List.all_eq_true.1 R.c2 _ hmem
          unfold chk2 at this
          obtain ⟨r, h1, h2, h3, _⟩ := R.run.step (i := i) (o := o) (by simpa using ho)
          have hwr : r.want = true := by simpa [wantAt, h1] using hw
          simp only [h1, hwr, Bool.not_true, Bool.false_or, h3] at this
          have := blkEq_eq this
          rw [← hb0, hgx] at this
          exact this
        · have := R.run.kept (i := i + 1 + c) (j := i + 1 + c + 1) (by omega) (by omega) (fun h g1 g2 => by rw [show h = i + 1 + c by omega]; exact hh) b0 (by
            have := (R.run.mono (i := i + 1) (j := i + 1 + c) (by omega) (by omega)).size
            omega)
          show (mAt rs m' (i + 1 + c + 1)).get b0 = x
          rw [this]; exact ih
    have := main (s - (i + 1)) (by omega)
    rw [show i + 1 + (s - (i + 1)) = s by omega] at this
    exact this
  let M' : Mem := ⟨fun b => if b = b0 then x else M.get b, .nil, M.size⟩
  have hg' : ∀ b, M'.get b = if b = b0 then x else M.get b := fun b => by simp [M', Mem.get, Tr.get_nil]
  have hrel := Rel.lay (M' := M') hI.rel hU hnone rfl (by rw [hg']; simp) (fun b hb => by rw [hg']; simp [hb]) (hnew _ hle)
  have hdist : ∀ j, j < ops.size → j ≠ i → ∀ b, (mAt rs m' j).size ≤ b → b < (mAt rs m' (j + 1)).size → b ≠ b0 := by
    intro j hj hji b h1 h2 e
    rcases Nat.lt_or_ge j i with hlt | hge
    · have := (R.run.mono (i := j + 1) (j := i) (by omega) (by omega)).size; omega
    · have := (R.run.mono (i := i + 1) (j := j) (by omega) (by omega)).size; omega
  refine ⟨_, M', Inv.slots R hC hI ho hx hle ?_, hI.sN, fun h => ⟨(hI.sh h).1, ?_⟩, fun h h1 h2 => ?_, hI.msz, fun b hb => ?_, fun j h1 h2 h3 h4 h5 => ?_, fun j hj hxj b h1 h2 => ?_, hrel, ?_, (put_defers _ _ _).trans hI.dfr⟩
  · rw [hval, ← hb0]
    exact Made.rel (k := k) (by simp) q
  · simp [addX, hsi, (hI.sh h).2]
  · unfold addX; split
    · rfl
    · exact hI.sb h h1 h2
  · rw [hg']
    by_cases e : b = b0
    · subst e
      have his : i < s := by
        rcases Nat.lt_or_ge i s with h | h
        · exact h
        · have := (R.run.mono (i := s) (j := i) h (by omega)).size; omega
      rw [if_pos rfl, hkept his]
    · rw [if_neg e]; exact hI.g1 b hb
  · by_cases e : j = i
    · subst e
      rw [hg', if_pos hb0.symm, ← hb0, hgx]
    · rcases R.run.light (i := j) (by omega) (by rw [h3]; decide) with ⟨_, g⟩ | ⟨_, _, x', q', _, _, g⟩
      · rw [g h3] at h4; cases h4
      · have hb1 : (mAt rs m' j).size < (mAt rs m' (j + 1)).size := by rw [g]; simp
        rw [hg', if_neg (hdist j h2 e _ (Nat.le_refl _) hb1)]
        exact hI.g2 j h1 h2 h3 h4 (by simpa [addX, e] using h5)
  · have e : j ≠ i := by intro e; rw [e] at hxj; simp [addX] at hxj
    simp only [hdist j hj e b h1 h2, if_false]
    exact hI.jn j hj (by simpa [addX, e] using hxj) b h1 h2
  · have hms : m.size ≤ b0 := by
      have := (R.run.mono (i := 0) (j := i) (Nat.zero_le _) (by omega)).size
      rw [R.run.zero] at this; omega
    refine ⟨fun b L hb => hle _ _ (hI.stp.ext _ _ hb), fun b hb => ?_, hI.stp.os, hI.stp.output, hI.stp.tape, by have := hI.stp.hsize; simp; omega, fun B hB hn => ?_, fun b L h1 h2 hb => ?_, hI.stp.msize, fun b hb hown => ?_⟩
    · have : b ≠ b0 := by
        rcases hb with hb | hb
        · omega
        · have : M'.size = M.size := rfl
          omega
      simp only [this, if_false]
      exact hI.stp.out b hb
    · have := hI.stp.hsize
      rw [show (w.alloc ob).heap[B]? = w.heap[B]? by show (w.heap.push ob)[B]? = _; rw [Array.getElem?_push, if_neg (by omega)]]
      exact hI.stp.frame B hB hn
    · by_cases e : b = b0
      · simp only [e, if_true] at hb
        cases hb
        exact .inl hI.stp.hsize
      · simp only [e, if_false] at hb
        exact hI.stp.new b L h1 h2 hb
    · rw [hg', if_neg (by omega)] at hown
      exact hI.stp.ownk b hb hown
theorem Inv.advance (R : Reg P K G B0 n cf ops t m rs t' m') (hC : Clo ops X) (hI : Inv P B0 G n ops t m rs m' ι0 w0 a0 X ι M s a w) (ho : ops[s]? = some o) (hx : X s = false) {ι' : Ren} {w' : World} {v' : Value}
    (hrel : Rel B0 G ι' (mAt rs m' (s + 1)) w') (hstp : Stp ι ι' (mAt rs m' s) (mAt rs m' (s + 1)) w w') (hv : VRel ι' (valAt rs s) v') :
    ∃ M' s', Inv P B0 G n ops t m rs m' ι0 w0 a0 (addX X s) ι' M' s' (a.put o.dst v') w' := by
  have hi : s < ops.size := (Array.getElem?_eq_some_iff.1 ho).1
  have hL : ops.toList.length = ops.size := by simp
  have hks := (hI.sh hi).1
  obtain ⟨s', hs1, hs2, hs3, hs4⟩ := next_heavy ops.toList (ops.size - (s + 1)) (s + 1) (by omega)
  have hkept := R.run.kept (i := s + 1) (j := s') hs1 hs2 (fun h g1 g2 => hs4 h g1 g2)
  have z1 := (R.run.mono (i := s) (j := s + 1) (by omega) (by omega)).size
  have z2 := (R.run.mono (i := s + 1) (j := s') hs1 hs2).size
  have z3 := (R.run.mono (i := s') (j := ops.size) (by omega) (by omega)).size
  have z0 := (R.run.mono (i := 0) (j := s) (Nat.zero_le _) (by omega)).size
  rw [R.run.zero] at z0
  have hms := hI.msz
  let M' : Mem := ⟨fun b => if b < (mAt rs m' s').size then (mAt rs m' s').get b else M.get b, .nil, M.size⟩
  have hg' : ∀ b, M'.get b = if b < (mAt rs m' s').size then (mAt rs m' s').get b else M.get b := fun b => by simp [M', Mem.get, Tr.get_nil]
  have hgl : ∀ b, b < (mAt rs m' (s + 1)).size → M'.get b = (mAt rs m' (s + 1)).get b := fun b hb => by
    rw [hg', if_pos (by omega)]; exact hkept b hb
  have hgh : ∀ b L, (mAt rs m' (s + 1)).size ≤ b → b < M.size → ι b = some L → M'.get b = M.get b := by
    intro b L h1 h2 hb
    rw [hg']
    split
    · rename_i hlt
      obtain ⟨j, g1, g2, g3, g4⟩ := R.run.owner (i := s + 1) (s' - (s + 1)) (by omega) b h1 (by rw [show s + 1 + (s' - (s + 1)) = s' by omega]; exact hlt)
      have hjN : j < ops.size := by omega
      have hXj : X j = true := by
        cases hxj : X j with
        | true => rfl
        | false => have := hI.jn j hjN hxj b g3 g4; rw [this] at hb; cases hb
      rcases R.run.light (i := j) (by omega) (hs4 j g1 (by omega)) with ⟨e, _⟩ | ⟨k1, k2, x, q, _, _, e⟩
      · rw [e] at g4; omega
      · have hbj : b = (mAt rs m' j).size := by rw [e] at g4; simp at g4; omega
        have hb2 := hI.g2 j (by omega) hjN k1 k2 hXj
        rw [hbj, hb2]
        exact R.run.kept (i := j + 1) (j := s') (by omega) hs2 (fun h q1 q2 => hs4 h (by omega) q2) _ (by rw [e]; simp)
    · rfl
  have hout : ∀ b, (mAt rs m' (s + 1)).size ≤ b → ι' b = ι b := fun b hb => hstp.out b (.inr hb)
  have hfr : ∀ b L, (mAt rs m' (s + 1)).size ≤ b → b < M.size → ι b = some L → (M.get b).live → w'.heap[L.block]? = w.heap[L.block]? := by
    intro b L h1 h2 hb hlv
    refine hstp.frame _ (hI.rel.old b L hb hlv) fun b1 L1 k1 k2 k3 e => ?_
    rw [← hI.g1 b1 k1] at k3
    have l1 : (M.get b1).live := by cases hg : M.get b1 <;> simp_all [Blk.own, Blk.live]
    have := hI.rel.inj b1 b L1 L (by omega) h2 k2 hb l1 hlv ((hI.rel.blk b1 L1 (by omega) k2).own_floor k3) e
    omega
  have hrel' : Rel B0 G ι' M' w' := by
    refine ⟨fun b L hb hL => ?_, fun b₁ b₂ L₁ L₂ h1 h2 h3 h4 l1 l2 g0 e => ?_, hrel.floor, hrel.glob, fun b hb => ?_⟩
    · rcases Nat.lt_or_ge b (mAt rs m' (s + 1)).size with hlt | hge
      · rw [hgl b hlt]; exact hrel.blk b L hlt hL
      · rw [hout b hge] at hL
        rw [hgh b L hge hb hL]
        have hbr := hI.rel.blk b L hb hL
        by_cases hlv : (M.get b).live
        · exact hbr.mono hstp.ext (hfr b L hge hb hL hlv)
        · cases hg : M.get b <;> simp_all [Blk.live, BlkRel]
    · have mixed : ∀ b₁ b₂ L₁ L₂, b₁ < (mAt rs m' (s + 1)).size → (mAt rs m' (s + 1)).size ≤ b₂ → b₂ < M.size → ι' b₁ = some L₁ → ι' b₂ = some L₂ → (M'.get b₁).live → (M'.get b₂).live → B0 ≤ L₁.block → L₁.block = L₂.block → False := by
        intro b₁ b₂ L₁ L₂ h1 h2 h2' h3 h4 l1 l2 g0 e
        rw [hout b₂ h2] at h4
        rw [hgl b₁ h1] at l1
        rw [hgh b₂ L₂ h2 h2' h4] at l2
        rcases Nat.lt_or_ge b₁ (mAt rs m' s).size with hlt | hge
        · rw [hstp.out b₁ (.inl hlt)] at h3
          have l1' := (R.run.grow1 (i := s) (by omega)).live b₁ hlt l1
          rw [← hI.g1 b₁ hlt] at l1'
          have := hI.rel.inj b₁ b₂ L₁ L₂ (by omega) h2' h3 h4 l1' l2 g0 e
          omega
        · rcases hstp.new b₁ L₁ hge h1 h3 with g | ⟨b0, L0, q1, q2, q3, q4⟩
          · have := hI.rel.old b₂ L₂ h4 l2; omega
          · rw [← hI.g1 b0 q1] at q3
            have l0 : (M.get b0).live := by cases hg : M.get b0 <;> simp_all [Blk.own, Blk.live]
            have := hI.rel.inj b0 b₂ L0 L₂ (by omega) h2' q2 h4 l0 l2 (Nat.le_trans g0 (Nat.le_of_eq q4.symm)) (q4.trans e)
            omega
      rcases Nat.lt_or_ge b₁ (mAt rs m' (s + 1)).size with hlt1 | hge1
      · rcases Nat.lt_or_ge b₂ (mAt rs m' (s + 1)).size with hlt2 | hge2
        · rw [hgl b₁ hlt1] at l1
          rw [hgl b₂ hlt2] at l2
          exact hrel.inj b₁ b₂ L₁ L₂ hlt1 hlt2 h3 h4 l1 l2 g0 e
        · exact (mixed b₁ b₂ L₁ L₂ hlt1 hge2 h2 h3 h4 l1 l2 g0 e).elim
      · rcases Nat.lt_or_ge b₂ (mAt rs m' (s + 1)).size with hlt2 | hge2
        · exact (mixed b₂ b₁ L₂ L₁ hlt2 hge1 h1 h4 h3 l2 l1 (Nat.le_trans g0 (Nat.le_of_eq e)) e.symm).elim
        · rw [hout b₁ hge1] at h3
          rw [hout b₂ hge2] at h4
          rw [hgh b₁ L₁ hge1 h1 h3] at l1
          rw [hgh b₂ L₂ hge2 h2 h4] at l2
          exact hI.rel.inj b₁ b₂ L₁ L₂ h1 h2 h3 h4 l1 l2 g0 e
    · have hb' : M.size ≤ b := hb
      rw [hg', if_neg (by omega)]
      exact hI.rel.top b hb'
  refine ⟨M', s', Inv.slots R hC hI ho hx hstp.ext hv, by omega, fun h => ⟨hs3 (by omega), ?_⟩, fun h h1 h2 => ?_, hI.msz, fun b hb => by rw [hg', if_pos hb], fun j h1 h2 h3 h4 h5 => ?_, fun j hj hxj b h1 h2 => ?_, hrel', ?_, (put_defers _ _ _).trans hI.dfr⟩
  · have hne : s' ≠ s := by omega
    simp only [addX, hne, if_false]
    cases hxs : X s' with
    | false => rfl
    | true =>
      have := R.closed hC h hxs s (R.heavy hi h hks (hs3 (by omega)) (by omega))
      rw [hx] at this; cases this
  · unfold addX; split
    · rfl
    · rename_i hne
      rcases Nat.lt_or_ge h s with hlt | hge
      · exact hI.sb h hlt h2
      · exact absurd h2 (hs4 h (by omega) h1)
  · have hne : j ≠ s := by omega
    have hz := (R.run.mono (i := s') (j := j) (by omega) (by omega)).size
    rw [hg', if_neg (by omega)]
    exact hI.g2 j (by omega) h2 h3 h4 (by simpa [addX, hne] using h5)
  · have hne : j ≠ s := by intro e; rw [e] at hxj; simp [addX] at hxj
    have hxj' : X j = false := by simpa [addX, hne] using hxj
    rw [hstp.out b ?_]
    · exact hI.jn j hj hxj' b h1 h2
    · rcases Nat.lt_or_ge j s with hlt | hge
      · have := (R.run.mono (i := j + 1) (j := s) (by omega) (by omega)).size
        exact .inl (by omega)
      · have := (R.run.mono (i := s + 1) (j := j) (by omega) (by omega)).size
        exact .inr (by omega)
  · exact Stp.inner hI.stp hstp z0 (by omega) hI.g1 rfl (fun b hb => hgl b (by omega))
end
end Go.DI
namespace Go.DI
section
variable {P : Program} {K : TypeId → Bool} {G B0 n : Nat} {cf : CallF} {ops : Array Oper} {t t' : Tmps} {m m' : Mem} {rs : List Rec}
variable {ι0 ι : Ren} {M : Mem} {w0 w : World} {a0 a : Act} {X : Nat → Bool} {s i : Nat} {o : Oper}
theorem Inv.quietVal (R : Reg P K G B0 n cf ops t m rs t' m') (hC : Clo ops X) (hI : Inv P B0 G n ops t m rs m' ι0 w0 a0 X ι M s a w) (ho : ops[i]? = some o) (hr : ∀ e ∈ o.after.toList, Region.binds .any e = true → X e.on = true) (hx : X i = false)
    (hk : klass o.op = 0) {r : Rec} (h1 : rs[i]? = some r) (hq : quietD P K G r.t r.m o.op = some r.v) (hw : r.want = true) (hrm : r.m = mAt rs m' i) :
    quietD P K G r.t (mAt rs m' s) o.op = some r.v := by
  have hi : i < ops.size := (Array.getElem?_eq_some_iff.1 ho).1
  have hL : ops.toList.length = ops.size := by simp
  cases hrd : readsB o.op with
  | false => rw [quietD_pure hrd (mAt rs m' s)] at hq; exact hq
  | true =>
    cases hnx : nextB ops.toList i s with
    | true =>
      simp only [nextB, Bool.and_eq_true, List.all_eq_true, List.mem_range, Bool.or_eq_true, Bool.not_eq_true'] at hnx
      obtain ⟨g1, g2⟩ := hnx
      have his : i ≤ s := Nat.le_of_ble_eq_true g1
      rw [hrm] at hq
      refine quietD_ext (R.run.topAt (by omega)) (R.run.kept his (by have := hI.sN; omega) fun h k1 k2 e => ?_) hq
      rcases g2 h k2 with g | g
      · rw [e] at g; cases g
      · have := blt_iff.1 g; omega
    | false =>
      have hfe : feasB ops.toList (tabD ops.toList []) i s = true := by
        simp only [feasB, Bool.and_eq_true, Bool.or_eq_true, List.all_eq_true, List.mem_range, Bool.not_eq_true']
        refine ⟨?_, fun h hh => ?_⟩
        · rcases Nat.lt_or_ge s ops.size with hlt | hge
          · right
            refine ⟨by rw [(hI.sh hlt).1]; rfl, ?_⟩
            cases hb : befB (tabD ops.toList []) s i with
            | false => rfl
            | true => have := R.ready hC ho hr s hb; rw [(hI.sh hlt).2] at this; cases this
          · left
            have : s = ops.size := by have := hI.sN; omega
            rw [this, hL]; exact Nat.beq_refl _
        · cases hkh : Nat.beq (klassAt ops.toList h) 2 with
          | false => exact .inl rfl
          | true =>
            right
            have hX := hI.sb h hh (Nat.eq_of_beq_eq_true hkh)
            cases hb : befB (tabD ops.toList []) i h with
            | false => rfl
            | true => have := R.closed hC (by have := hI.sN; omega) hX i hb; rw [hx] at this; cases this
      have hmem : (i, s) ∈ need1 ops.toList (tabD ops.toList []) := by
        unfold need1
        refine List.mem_flatMap.2 ⟨i, List.mem_range.2 (by omega), ?_⟩
        simp only [Array.getElem?_toList, ho, hk, hrd]
        rw [show (Nat.beq 0 0 && true) = true from rfl, cond_true]
        refine List.mem_filterMap.2 ⟨s, List.mem_range.2 (by have := hI.sN; omega), ?_⟩
        rw [hfe, hnx]; rfl
      have := List.all_eq_true.1 R.c1 _ hmem
      unfold chk1 at this
      simp only [h1, Array.getElem?_toList, ho, hw, Bool.not_true, Bool.false_or] at this
      split at this
      · rename_i v hv
        rw [hv, veq_eq 8 _ _ this]
      · cases this
theorem Inv.listed (R : Reg P K G B0 n cf ops t m rs t' m') (hI : Inv P B0 G n ops t m rs m' ι0 w0 a0 X ι M s a w) (hall : ∀ i, i < ops.size → X i = true) (ht' : tAt rs t' ops.size = t') :
    After B0 G n ι0 m w0 a0 t' m' a w := by
  have hL : ops.toList.length = ops.size := by simp
  have hs : s = ops.size := by
    rcases Nat.lt_or_ge s ops.size with h | h
    · have := (hI.sh h).2; rw [hall s h] at this; cases this
    · have := hI.sN; omega
  have hlast : mAt rs m' ops.size = m' := by rw [← hL]; exact R.run.last
  have hg : ∀ b, b < m'.size → M.get b = m'.get b := fun b hb => by have := hI.g1 b; rw [hs, hlast] at this; exact this hb
  have htop : m'.top := by rw [← hlast]; exact R.run.topAt (by omega)
  have hms : M.size = m'.size := by rw [hI.msz, hlast]
  have hrel := hI.rel.restrict htop (by omega) hg
  have happ : ∀ k, k ≤ ops.size → appX ops.toList rs t X k = appX ops.toList rs t (fun _ => true) k := by
    intro k
    induction k with
    | zero => intro _; rfl
    | succ k ih => intro hk; simp only [appX]; rw [ih (by omega)]; simp [hall k (by omega)]
  refine ⟨ι, ?_, hrel, ⟨hI.stp.ext, fun b hb => hI.stp.out b (by omega), hI.stp.os, hI.stp.output, hI.stp.tape, hI.stp.hsize, hI.stp.frame, fun b L h1 h2 hb => hI.stp.new b L h1 (by omega) hb, by have := hI.stp.msize; omega, fun b hb ho => hI.stp.ownk b hb ?_⟩, hI.dfr⟩
  · have htr := hI.tr
    rw [happ _ (Nat.le_refl _)] at htr
    have : appX ops.toList rs t (fun _ => true) ops.size = t' := by
      obtain ⟨g1, g2, g3, g4⟩ := recD_get _ _ _ _ _ _ R.run.eq
      have ht : ∀ k, k ≤ ops.size → tAt rs t' k = appX ops.toList rs t (fun _ => true) k := by
        intro k
        induction k with
        | zero => intro _; exact g2
        | succ k ih =>
          intro hk
          have ih := ih (by omega)
          have ho' : ops.toList[k]? = some ops[k] := by rw [Array.getElem?_toList]; exact Array.getElem?_eq_getElem (by omega)
          obtain ⟨r, h1, h2, h3, h4, _⟩ := g4 k _ ho'
          rw [h4]
          simp only [appX, if_true, dstAt, ho', valAt, h1]
          rw [← ih]
          simp only [tAt, h1]
      rw [← ht _ (Nat.le_refl _), ht']
    rw [this] at htr
    exact htr
  · have hsz := hI.stp.msize
    rw [hg b (by omega)]; exact ho
theorem Inv.step (R : Reg P K G B0 n cf ops t m rs t' m') (hC : Clo ops X) (hI : Inv P B0 G n ops t m rs m' ι0 w0 a0 X ι M s a w) (ho : ops[i]? = some o) (hr : ∀ e ∈ o.after.toList, Region.binds .any e = true → X e.on = true) (hx : X i = false)
    {Q : Exit → Act → World → Prop} {k : Act → World → Prop} (hk : ∀ ι' M' s' a' w', Inv P B0 G n ops t m rs m' ι0 w0 a0 (addX X i) ι' M' s' a' w' → k a' w') : wpOp P ops Q i k a w := by
  have hi : i < ops.size := (Array.getElem?_eq_some_iff.1 ho).1
  have hL : ops.toList.length = ops.size := by simp
  obtain ⟨r, h1, h2, h3, h4, h5, h6, h7⟩ := R.run.step (i := i) (o := o) (by simpa using ho)
  have hka : klassAt ops.toList i = klass o.op := by simp [klassAt, ho]
  have hwa : wantAt rs i = r.want := by simp [wantAt, h1]
  have hva : valAt rs i = r.v := by simp [valAt, h1]
  have hwant := Inv.want R hC hI ho hr hx
  have hev := Inv.evs R hC ho hr hx
  rw [← h2] at hev
  have hhere := Inv.here R hI
  have hheavy : klass o.op = 2 → i = s := by
    intro hk2
    rcases Nat.lt_trichotomy i s with hlt | heq | hgt
    · have := hI.sb i hlt (by rw [hka]; exact hk2); rw [hx] at this; cases this
    · exact heq
    · have hsN : s < ops.size := by omega
      have := R.ready hC ho hr s (R.heavy hsN hi (hI.sh hsN).1 (by rw [hka]; exact hk2) hgt)
      rw [(hI.sh hsN).2] at this; cases this
  unfold wpOp
  simp only [ho]
  cases hw : r.want with
  | false =>
    rw [if_neg (by rw [hwant, hwa, hw]; simp)]
    have hvu : valAt rs i = undef := by rw [hva]; exact (h7 hw).1
    by_cases hk2 : klass o.op = 2
    · obtain rfl := hheavy hk2
      have hmm : mAt rs m' (i + 1) = mAt rs m' i := by rw [(h7 hw).2, h3]
      obtain ⟨M', s', hI'⟩ := Inv.advance R hC hI ho hx (ι' := ι) (w' := w) (v' := undef) (by rw [hmm]; exact hhere) (by rw [hmm]; exact Stp.refl _ _ _) (by rw [hvu]; exact VRel.undef _)
      exact hk _ _ _ _ _ hI'
    · exact hk _ _ _ _ _ (Inv.quiet R hC hI ho hx (by rw [hka]; exact hk2) (fun _ => by rw [hwa, hw]) (by rw [hvu]; exact VRel.undef _))
  | true =>
    rw [if_pos (by rw [hwant, hwa, hw])]
    refine .inl ?_
    have h8 := h6 hw
    unfold opD at h8
    rcases klass_cases o.op with hc | hc | hc
    · rw [hc] at h8
      simp only at h8
      split at h8 <;> simp at h8
      rename_i v hv
      have hv' : quietD P K G r.t r.m o.op = some r.v := by rw [hv, h8.1]
      have hq := Inv.quietVal R hC hI ho hr hx hc h1 hv' hw h3
      rw [← quietD_congr (m := mAt rs m' s) hev] at hq
      obtain ⟨v', g1, g2⟩ := quiet_ok R.hK hhere hI.tr hq
      unfold Oper.wp
      rw [g1]
      exact hk _ _ _ _ _ (Inv.quiet R hC hI ho hx (by rw [hka, hc]; decide) (fun e => by rw [hka, hc] at e; cases e) (by rw [hva]; exact g2))
    · rw [hc] at h8
      simp only at h8
      split at h8 <;> simp at h8
      rename_i x q hxq
      rw [← allocD_congr hev] at hxq
      obtain ⟨ob, kk, g1, g2⟩ := allocD_run (P := P) hI.rel hI.tr hxq
      obtain ⟨ι', M', hI'⟩ := Inv.alloc R hC hI ho hx (by rw [hka]; exact hc) (x := x) (q := q) (by rw [hva, ← h8.1, h3]) (by rw [← h8.2, h3]) (by rw [hwa, hw]) g2
      unfold Oper.wp
      rw [g1]
      exact hk _ _ _ _ _ hI'
    · obtain rfl := hheavy hc
      rw [hc] at h8
      simp only at h8
      rw [← heavyD_congr (cf := cf) (m := r.m) hev, h3] at h8
      refine heavy_wp R.hK R.hcf hhere hI.tr h8 (fun b q1 q2 => hI.jn i hi hx b q1 q2) fun ι' v' w' g1 g2 g3 => ?_
      obtain ⟨M', s', hI'⟩ := Inv.advance R hC hI ho hx g2 g3 (by rw [hva]; exact g1)
      exact hk _ _ _ _ _ hI'
theorem count_set {l : List Bool} {i : Nat} (h : l[i]? = some false) : (l.set i true).count false + 1 = l.count false := by
  induction l generalizing i with
  | nil => simp at h
  | cons b l ih =>
    cases i with
    | zero => simp at h; subst h; simp
    | succ i =>
      simp at h
      have := ih h
      simp only [List.set_cons_succ, List.count_cons]
      omega
theorem region_any (R : Reg P K G B0 n cf ops t m rs t' m') (ht' : tAt rs t' ops.size = t') {Q : Exit → Act → World → Prop} (hQ : ∀ a' w', After B0 G n ι0 m w0 a0 t' m' a' w' → Q .normal a' w') :
    ∀ (fuel : Nat) (listed : Array Bool) (ι : Ren) (M : Mem) (s : Nat) (a : Act) (w : World), listed.size = ops.size → listed.toList.count false = fuel → Clo ops (fun k => listed.getD k false) →
      Inv P B0 G n ops t m rs m' ι0 w0 a0 (fun k => listed.getD k false) ι M s a w → wpAny P .any ops Q fuel listed a w := by
  intro fuel
  have hL : ops.toList.length = ops.size := by simp
  have hdone : ∀ (listed : Array Bool), listed.size = ops.size → Region.ready .any ops listed = [] → ∀ i, i < ops.size → listed.getD i false = true := by
    intro listed hsz hrd i
    induction i using Nat.strongRecOn with
    | _ i ih =>
      intro hi
      cases hl : listed.getD i false with
      | true => rfl
      | false =>
        exfalso
        have : i ∈ Region.ready .any ops listed := by
          rw [mem_ready]
          refine ⟨?_, ops[i], Array.getElem?_eq_getElem hi, fun e he hb => ?_⟩
          · have hi' : i < listed.size := by omega
            simp [hi'] at hl ⊢; exact hl
          · have hlt := edgesB_spec ops.toList 0 R.edges i ops[i] (by rw [Array.getElem?_toList]; exact Array.getElem?_eq_getElem hi) e (by simpa using he) hb
            exact ih e.on (by omega) (by omega)
        rw [hrd] at this
        cases this
  have hstep : ∀ (fuel : Nat) (listed : Array Bool) (ι : Ren) (M : Mem) (s : Nat) (a : Act) (w : World), listed.size = ops.size → listed.toList.count false = fuel + 1 → Clo ops (fun k => listed.getD k false) →
      Inv P B0 G n ops t m rs m' ι0 w0 a0 (fun k => listed.getD k false) ι M s a w →
      (∀ (listed : Array Bool) (ι : Ren) (M : Mem) (s : Nat) (a : Act) (w : World), listed.size = ops.size → listed.toList.count false = fuel → Clo ops (fun k => listed.getD k false) →
        Inv P B0 G n ops t m rs m' ι0 w0 a0 (fun k => listed.getD k false) ι M s a w → wpAny P .any ops Q fuel listed a w) →
      ∀ i ∈ Region.ready .any ops listed, wpOp P ops Q i (wpAny P .any ops Q fuel (listed.setIfInBounds i true)) a w := by
    intro fuel listed ι M s a w hsz hcnt hC hI ih i hi
    rw [mem_ready] at hi
    obtain ⟨h0, o, ho, hall⟩ := hi
    have hiN : i < ops.size := (Array.getElem?_eq_some_iff.1 ho).1
    have hil : i < listed.size := by omega
    have hxf : listed.getD i false = false := by simp [hil] at h0 ⊢; exact h0
    refine Inv.step R hC hI ho (fun e he hb => hall e (by simpa using he) hb) hxf fun ι' M' s' a' w' hI' => ?_
    have hXe : (fun k => (listed.setIfInBounds i true).getD k false) = addX (fun k => listed.getD k false) i := by
      funext k
      unfold addX
      by_cases e : k = i
      · subst e; simp [hil]
      · simp only [e, if_false]
        rw [getD_set_ne false (Ne.symm e)]
    refine ih _ ι' M' s' a' w' (by simp [hsz]) ?_ ?_ (by rw [hXe]; exact hI')
    · have hlf : listed.toList[i]? = some false := by
        rw [Array.getElem?_toList, Array.getElem?_eq_getElem hil]
        simp [hil] at hxf
        rw [hxf]
      have := count_set hlf
      have e1 : (listed.setIfInBounds i true).toList = listed.toList.set i true := by simp
      rw [e1]; omega
    · intro j oj hj hxj e he hb
      by_cases hji : j = i
      · subst hji
        have : oj = o := by
          rw [Array.getElem?_toList, ho] at hj
          exact (Option.some.inj hj).symm
        subst this
        exact getD_set_true (hall e (by simpa using he) hb)
      · refine getD_set_true (hC j oj hj ?_ e he hb)
        have hxj2 : (listed.setIfInBounds i true).getD j false = true := hxj
        rw [getD_set_ne false (Ne.symm hji)] at hxj2
        exact hxj2
  induction fuel with
  | zero =>
    intro listed ι M s a w hsz hcnt hC hI
    have hall : ∀ i, i < ops.size → listed.getD i false = true := by
      intro i hi
      cases hl : listed.getD i false with
      | true => rfl
      | false =>
        exfalso
        have hil : i < listed.size := by omega
        have : false ∈ listed.toList := by
          simp [hil] at hl
          rw [← hl]
          exact Array.getElem_mem_toList hil
        have := List.count_pos_iff.2 this
        omega
    refine ⟨?_, hQ a w (Inv.listed R hI hall ht')⟩
    cases hrd : Region.ready .any ops listed with
    | nil => rfl
    | cons i l =>
      exfalso
      have hi : i ∈ Region.ready .any ops listed := by rw [hrd]; simp
      rw [mem_ready] at hi
      obtain ⟨h0, o, ho, _⟩ := hi
      have hiN : i < ops.size := (Array.getElem?_eq_some_iff.1 ho).1
      have hil : i < listed.size := by omega
      have := hall i hiN
      simp [hil] at h0 this
      rw [h0] at this; cases this
  | succ fuel ih =>
    intro listed ι M s a w hsz hcnt hC hI
    exact ⟨fun hrd => hQ a w (Inv.listed R hI (hdone listed hsz hrd) ht'), hstep fuel listed ι M s a w hsz hcnt hC hI ih⟩
theorem draw_wp (hmix : P.follows .mixedOrders = true) (hK : Plain P K) (hcf : CfOK P B0 G cf) (hg : CfGrw cf) {id : Nat} {Q : Exit → Act → World → Prop} (h : drawD P K G cf n ops.toList t m = some (t', m')) (hr : Rel B0 G ι m w) (ht : TRel ι n t a) (hf : Fresh ι m.size m'.size)
    (hQ : ∀ a' w', After B0 G n ι m w a t' m' a' w' → Q .normal a' w') : (Code.region id ops true).wp P Q a w := by
  unfold drawD at h
  split at h <;> try (simp at h; done)
  rename_i hstat
  split at h <;> try (simp at h; done)
  rename_i rs t₁ m₁ hrec
  split at h <;> try (simp at h; done)
  rename_i hc1
  split at h <;> simp at h
  rename_i hc2
  obtain ⟨rfl, rfl⟩ := h
  have hL : ops.toList.length = ops.size := by simp
  have R : Reg P K G B0 n cf ops t m rs t₁ m₁ := ⟨hK, hcf, ⟨hrec, hg, hr.top⟩, hstat, hc1, hc2⟩
  have hlast : mAt rs m₁ ops.size = m₁ := by rw [← hL]; exact R.run.last
  have htl : tAt rs t₁ ops.size = t₁ := by unfold tAt; rw [List.getElem?_eq_none (by rw [R.run.len]; omega)]
  refine wp_region_any hmix ?_
  have hrd := hr.drew
  obtain ⟨s, hs1, hs2, hs3, hs4⟩ := next_heavy ops.toList ops.size 0 (by omega)
  have hkept := R.run.kept (i := 0) (j := s) (by omega) hs2 (fun h _ g2 => hs4 h (by omega) g2)
  rw [R.run.zero] at hkept
  have z1 := (R.run.mono (i := 0) (j := s) (by omega) hs2).size
  have z2 := (R.run.mono (i := s) (j := ops.size) (by omega) (by omega)).size
  rw [R.run.zero] at z1
  rw [hlast] at z2
  let M : Mem := ⟨fun b => if b < (mAt rs m₁ s).size then (mAt rs m₁ s).get b else .none, .nil, m₁.size⟩
  have hgM : ∀ b, M.get b = if b < (mAt rs m₁ s).size then (mAt rs m₁ s).get b else .none := fun b => by simp [M, Mem.get, Tr.get_nil]
  have hlow : ∀ b L, b < m₁.size → ι b = some L → b < m.size := by
    intro b L h1 h2
    rcases Nat.lt_or_ge b m.size with h3 | h3
    · exact h3
    · rw [hf b h3 h1] at h2; cases h2
  have hgl : ∀ b, b < m.size → M.get b = m.get b := fun b hb => by rw [hgM, if_pos (by omega)]; exact hkept b hb
  have hrelM : Rel B0 G ι M w.drew := by
    refine ⟨fun b L hb hL => ?_, fun b₁ b₂ L₁ L₂ h1 h2 h3 h4 l1 l2 g0 e => ?_, hrd.1.floor, hrd.1.glob, fun b hb => ?_⟩
    · have := hlow b L hb hL
      rw [hgl b this]; exact hrd.1.blk b L this hL
    · have q1 := hlow b₁ L₁ h1 h3
      have q2 := hlow b₂ L₂ h2 h4
      rw [hgl b₁ q1] at l1
      rw [hgl b₂ q2] at l2
      exact hrd.1.inj b₁ b₂ L₁ L₂ q1 q2 h3 h4 l1 l2 g0 e
    · have hb' : m₁.size ≤ b := hb
      rw [hgM]; split
      · omega
      · rfl
  have hdr : ({ w with drawn := w.drawn + 1 } : World) = w.drew := rfl
  rw [hdr]
  have hX0 : ∀ k, (Array.replicate ops.size false).getD k false = false := fun k => by
    rcases Nat.lt_or_ge k ops.size with h | h
    · simp [h]
    · simp [h]
  refine region_any (ι0 := ι) (w0 := w.drew) (a0 := a) R htl (fun a' w' ha => hQ a' w' (After.trans hrd.2 rfl ha)) ops.size (Array.replicate ops.size false) ι M s a w.drew (by simp) (by simp) ?_ ?_
  · intro j o _ hx
    have hx2 : (Array.replicate ops.size false).getD j false = true := hx
    rw [hX0 j] at hx2
    cases hx2
  · have happ : appX ops.toList rs t (fun k => (Array.replicate ops.size false).getD k false) ops.size = t := by
      have : ∀ k, appX ops.toList rs t (fun k => (Array.replicate ops.size false).getD k false) k = t := by
        intro k
        induction k with
        | zero => rfl
        | succ k ih =>
          simp only [appX]
          have h0 := hX0 k
          split
          · rename_i h1; rw [h0] at h1; cases h1
          · exact ih
      exact this _
    refine ⟨by rw [happ]; exact ht, by omega, fun h => ⟨hs3 (by omega), hX0 _⟩, fun h h1 h2 => absurd h2 (hs4 h (by omega) h1), hlast.symm ▸ rfl, fun b hb => by rw [hgM, if_pos hb], fun i _ _ _ _ h5 => (by have h6 : (Array.replicate ops.size false).getD i false = true := h5; rw [hX0] at h6; cases h6), fun i hi _ b h1 h2 => hf b ?_ ?_, hrelM, ?_, rfl⟩
    · have := (R.run.mono (i := 0) (j := i) (by omega) (by omega)).size
      rw [R.run.zero] at this; omega
    · have := (R.run.mono (i := i + 1) (j := ops.size) (by omega) (by omega)).size
      rw [hlast] at this; omega
    · refine ⟨fun _ _ h => h, fun _ _ => rfl, rfl, rfl, rfl, Nat.le_refl _, fun _ _ _ => rfl, fun b L h1 h2 hb => ?_, by show m.size ≤ m₁.size; omega, fun b hb ho => ?_⟩
      · rw [hf b h1 h2] at hb; cases hb
      · rw [hgl b hb] at ho; exact ho
theorem drawD_grw (hg : CfGrw cf) {l : List Oper} (h : drawD P K G cf n l t m = some (t', m')) : Grw m m' := by
  unfold drawD at h
  split at h <;> try (simp at h; done)
  split at h <;> try (simp at h; done)
  rename_i rs t₁ m₁ hrec
  split at h <;> try (simp at h; done)
  split at h <;> simp at h
  obtain ⟨rfl, rfl⟩ := h
  have key : ∀ (ops l : List Oper) (t : Tmps) (m : Mem) (rs : List Rec) (t' : Tmps) (m' : Mem), recD P K G cf n ops l t m = some (rs, t', m') → Grw m m' := by
    intro ops l
    induction l with
    | nil => intro t m rs t' m' h; simp [recD] at h; rw [h.2.2]; exact Grw.refl _
    | cons o l ih =>
      intro t m rs t' m' h
      simp only [recD] at h
      split at h <;> try (simp at h; done)
      split at h
      · split at h <;> try (simp at h; done)
        rename_i v m₂ hv
        split at h <;> simp at h
        rename_i h1
        rw [← h.2.2]
        exact (opD_grw hg hv).trans (ih _ _ _ _ _ h1)
      · split at h <;> simp at h
        rename_i h1
        rw [← h.2.2]
        exact ih _ _ _ _ _ h1
  exact key _ _ _ _ _ _ _ hrec
theorem drawOK (hmix : P.follows .mixedOrders = true) (hK : Plain P K) (hcf : CfOK P B0 G cf) (hg : CfGrw cf) : DrawOK P B0 G n (drawD P K G cf n) :=
  ⟨fun ops t m t' m' h => (drawD_grw hg h).size, fun ops id ι t m w a t' m' Q h hr ht hf hQ => draw_wp hmix hK hcf hg h hr ht hf hQ⟩
/-! ### calls -/
theorem callD_grw : ∀ (k : Nat), CfGrw (callD P K G k)
  | 0, f, args, m, v, m', h => by simp [callD] at h
  | k + 1, f, args, m, v, m', h => by
    have ih := callD_grw k
    simp only [callD] at h
    split at h <;> try (simp at h; done)
    split at h <;> try (simp at h; done)
    split at h <;> try (simp at h; done)
    all_goals
      rename_i hc
      split at h <;> simp at h
      rw [← h.2]
      exact codeD_grw ih (fun _ _ _ _ _ h => drawD_grw ih h) _ _ _ _ _ _ hc
theorem initT_at : ∀ (l : List Value) (i d : Nat), (initT i l).at d = if i ≤ d then (match l[d - i]? with | some v => v | none => undef) else undef
  | [], i, d => by
    have : (initT i [] : Tmps).at d = undef := by simp [initT, Tmps.at, Tr.get_nil]
    rw [this]; simp
  | v :: l, i, d => by
    simp only [initT, Tmps.at_set, initT_at l (i + 1) d]
    by_cases h1 : d = i
    · subst h1; simp
    · simp only [h1, if_false]
      by_cases h2 : i + 1 ≤ d
      · rw [if_pos h2, if_pos (by omega), show d - i = (d - (i + 1)) + 1 by omega]; rfl
      · rw [if_neg h2, if_neg (by omega)]
theorem resD_ok (hr : Rel B0 G ι m w) (ht : TRel ι n t a) : ∀ {l : List ResultVar} {vs : List Value}, resD P t m l = some vs →
    ∃ vs', (l.mapM (fun (q : ResultVar) => (match q with | .tmp t => (pure (a.tmps.getD t undef) : Sem Value) | .cell x t => (do loadVar t (← asAddr (a.tmps.getD x undef)) : Sem Value)))).run P w = .ok vs' w ∧ VRels ι vs vs'
  | [], vs, h => by simp [resD] at h; subst h; exact ⟨[], by simp, .nil⟩
  | .tmp d :: l, vs, h => by
    simp only [resD] at h
    split at h <;> simp at h
    rename_i us hus
    subst h
    obtain ⟨us', h1, h2⟩ := resD_ok hr ht hus
    refine ⟨a.tmps.getD d undef :: us', ?_, .cons (ht.2 d) h2⟩
    rw [List.mapM_cons]
    simp only [Sem.run_bind, Sem.run_pure, Result.andThen_ok, h1]
  | .cell x ty :: l, vs, h => by
    simp only [resD] at h
    split at h <;> try (simp at h; done)
    rename_i v hv
    split at h <;> simp at h
    rename_i us hus
    subst h
    obtain ⟨us', h1, h2⟩ := resD_ok hr ht hus
    obtain ⟨v', g1, g2⟩ := loadD_ok (P := P) hr (ht.2 x) hv
    have hp : ∃ ad, a.tmps.getD x undef = .pointer (some ad) := by
      have := ht.2 x
      unfold loadD at hv
      split at hv <;> try (simp at hv; done)
      rename_i b off hb
      rw [hb] at this
      obtain ⟨L, _, e⟩ := this.inv_ptr
      exact ⟨_, e⟩
    obtain ⟨ad, had⟩ := hp
    refine ⟨v' :: us', ?_, .cons g2 h2⟩
    rw [List.mapM_cons]
    rw [had] at g1
    simp only [Instr.loadAt, Instr.sureAddr, Sem.run_bind, Sem.run_pure, Result.andThen_ok] at g1
    have hA : (asAddr (a.tmps.getD x undef)).run P w = .ok ad w := by rw [had]; rfl
    simp only [Sem.run_bind, Sem.run_pure, Result.andThen_ok, hA, g1, h1]
theorem results_ok (hr : Rel B0 G ι m w) (ht : TRel ι n t a) {fn : Func} {vs : List Value} (h : resD P t m fn.results.toList = some vs) : ∃ v', (results fn a.tmps).run P w = .ok v' w ∧ VRel ι (resV vs) v' := by
  obtain ⟨vs', h1, h2⟩ := resD_ok hr ht h
  have hm : (fn.results.mapM (fun (q : ResultVar) => (match q with | .tmp t => (pure (a.tmps.getD t undef) : Sem Value) | .cell x t => (do loadVar t (← asAddr (a.tmps.getD x undef)) : Sem Value)))).run P w = .ok vs'.toArray w := by
    rw [Array.mapM_eq_mapM_toList]
    simp only [Sem.run_map, h1, Result.andThen_ok]
  refine ⟨if h : vs'.toArray.size = 1 then vs'.toArray[0] else .tuple vs'.toArray, ?_, ?_⟩
  · simp only [results, Sem.run_bind]
    change (((fn.results.mapM (fun (q : ResultVar) => (match q with | .tmp t => (pure (a.tmps.getD t undef) : Sem Value) | .cell x t => (do loadVar t (← asAddr (a.tmps.getD x undef)) : Sem Value)))).run P w).andThen _) = _
    rw [hm]
    rfl
  · cases h2 with
    | nil => exact VRel.tuple' .nil
    | cons h0 t0 =>
      cases t0 with
      | nil => simpa [resV] using h0
      | cons h0' t0' =>
        simp only [resV]
        rw [dif_neg (by simp)]
        exact VRel.tuple' (.cons h0 (.cons h0' t0'))
def NoNG (P : Program) : Prop := ∀ (f : FuncId) (fn : Func), P.funcs[f]? = some fn → fn.body.isNone = false → (fn.name == "runtime.NumGoroutine") = false
theorem callD_ok (hmix : P.follows .mixedOrders = true) (hK : Plain P K) (hng : NoNG P) : ∀ (k : Nat), CfOK P B0 G (callD P K G k)
  | 0 => ⟨fun f args m v m' h => by simp [callD] at h, fun f args m v m' h => by simp [callD] at h, fun f args m v m' h => by simp [callD] at h⟩
  | k + 1 => by
    have ih := callD_ok hmix hK hng k
    refine ⟨fun f args m v m' h => (callD_grw (k + 1) f args m v m' h).size, fun f args m v m' h => ?_, fun f args m v m' h => ?_⟩
    · simp only [callD] at h
      split at h <;> try (simp at h; done)
      rename_i fn hfn
      split at h <;> try (simp at h; done)
      rename_i c hc
      intro ι w args' hr hf hargs
      have hlen := hargs.length
      have ht0 : TRel ι (max args.length fn.ntmps) (initT 0 args) { tmps := args'.toArray ++ Array.replicate (fn.ntmps - args'.toArray.size) undef, defers := [] } := by
        refine ⟨by simp; omega, fun d => ?_⟩
        rw [initT_at]
        simp only [Nat.zero_le, if_true, Nat.sub_zero]
        cases hd : args[d]? with
        | some v =>
          obtain ⟨y, hy, hry⟩ := hargs.get hd
          have hlt : d < args'.length := by
            rcases Nat.lt_or_ge d args'.length with h1 | h1
            · exact h1
            · rw [List.getElem?_eq_none h1] at hy; cases hy
          have : (args'.toArray ++ Array.replicate (fn.ntmps - args'.toArray.size) undef).getD d undef = y := by
            rw [Array.getD_eq_getD_getElem?, Array.getElem?_append_left (by simpa using hlt), List.getElem?_toArray, hy]; rfl
          rw [this]; exact hry
        | none =>
          have hge : args.length ≤ d := List.getElem?_eq_none_iff.1 hd
          have : (args'.toArray ++ Array.replicate (fn.ntmps - args'.toArray.size) undef).getD d undef = undef := by
            rw [Array.getD_eq_getD_getElem?, Array.getElem?_append_right (by simp; omega), Array.getElem?_replicate]
            split <;> rfl
          rw [this]; exact VRel.undef _
      have fin : ∀ (e : Ex) (t' : Tmps) (m₁ : Mem), codeD P K G (callD P K G k) (drawD P K G (callD P K G k) (max args.length fn.ntmps)) (max args.length fn.ntmps) k c (initT 0 args) m = some (e, t', m₁) → (e = .normal ∨ e = .ret) →
          (match resD P t' m₁ fn.results.toList with | some vs => some (resV vs, m₁) | none => none) = some (v, m') →
          Calls P f args'.toArray w fun e w' => ∃ v' ι', e = .returned v' ∧ VRel ι' v v' ∧ Rel B0 G ι' m' w' ∧ Stp ι ι' m m' w w' := by
        intro e t' m₁ hcode he hres
        split at hres <;> simp at hres
        rename_i vs hvs
        obtain ⟨rfl, rfl⟩ := hres
        refine calls_of_wp hfn hc (code_ok hK ih (drawOK hmix hK ih (callD_grw k)) c _ _ _ _ _ hcode ι w _ _ hr ht0 hf fun a' w' ha => ?_)
        obtain ⟨ι', g1, g2, g3, g4⟩ := ha
        obtain ⟨v', q1, q2⟩ := results_ok (P := P) g2 g1 hvs
        rcases he with rfl | rfl
        · exact ⟨g4, v', q1, v', ι', rfl, q2, g2, g3⟩
        · exact ⟨g4, v', q1, v', ι', rfl, q2, g2, g3⟩
      split at h <;> try (simp at h; done)
      · rename_i t' m₁ hcode
        exact fin _ _ _ hcode (.inl rfl) h
      · rename_i t' m₁ hcode
        exact fin _ _ _ hcode (.inr rfl) h
    · simp only [callD] at h
      split at h <;> try (simp at h; done)
      rename_i fn hfn
      split at h <;> try (simp at h; done)
      rename_i c hc
      exact ⟨fn, hfn, by simp [hc], hng f fn hfn (by simp [hc])⟩
theorem callD_calls (hmix : P.follows .mixedOrders = true) (hK : Plain P K) (hng : NoNG P) {k : Nat} {f : FuncId} {args args' : List Value} {v : Value} (h : callD P K G k f args m = some (v, m')) (hr : Rel B0 G ι m w) (hf : Fresh ι m.size m'.size) (ha : VRels ι args args') :
    Calls P f args'.toArray w fun e w' => ∃ v' ι', e = .returned v' ∧ VRel ι' v v' ∧ Rel B0 G ι' m' w' ∧ Stp ι ι' m m' w w' :=
  (callD_ok hmix hK hng k).ok f args m v m' h ι w args' hr hf ha
end
end Go.DI
