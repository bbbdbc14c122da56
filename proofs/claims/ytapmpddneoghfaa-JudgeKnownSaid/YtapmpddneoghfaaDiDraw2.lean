/-
  DiDraw2: a region that draws its order comes, in whatever order, to what the text's order comes to.
-/
import Derived.Test.YtapmpddneoghfaaDiDraw1
namespace Go.DI
section
variable {P : Program} {K : TypeId → Bool} {G B0 n : Nat}

def dstAt (ops : List Oper) (k : Nat) : Option Tmp := match ops[k]? with | some o => o.dst | none => none
def valAt (rs : List Rec) (k : Nat) : Value := match rs[k]? with | some r => r.v | none => undef
def wantAt (rs : List Rec) (k : Nat) : Bool := match rs[k]? with | some r => r.want | none => false

def appX (ops : List Oper) (rs : List Rec) (t : Tmps) (X : Nat → Bool) : Nat → Tmps
  | 0 => t
  | k + 1 => if X k = true then putD (appX ops rs t X k) (dstAt ops k) (valAt rs k) else appX ops rs t X k

theorem putD_at (t : Tmps) (dst : Option Tmp) (v : Value) (d : Tmp) : (putD t dst v).at d = if dst = some d then v else t.at d := by
  cases dst with
  | none => simp [putD]
  | some e =>
    simp only [putD, Tmps.at_set, Option.some.injEq]
    by_cases h : d = e
    · simp [h]
    · have : ¬ e = d := fun h' => h h'.symm
      simp [h, this]

theorem TRel.congr {ι : Ren} {t u : Tmps} {a : Act} (h : ∀ d, t.at d = u.at d) (ht : TRel ι n t a) : TRel ι n u a := ⟨ht.1, fun d => by rw [← h d]; exact ht.2 d⟩

theorem appX_agree {ops : List Oper} {rs : List Rec} {t : Tmps} {X : Nat → Bool} {d : Tmp} {j N : Nat} (hj : j ≤ N) (h1 : ∀ k, k < j → dstAt ops k = some d → X k = true) (h2 : ∀ k, j ≤ k → k < N → dstAt ops k = some d → X k = false) :
    (appX ops rs t X N).at d = (appX ops rs t (fun _ => true) j).at d := by
  have A : ∀ k, k ≤ j → (appX ops rs t X k).at d = (appX ops rs t (fun _ => true) k).at d := by
    intro k
    induction k with
    | zero => intro _; rfl
    | succ k ih =>
      intro hk
      have ih := ih (by omega)
      simp only [appX, if_true]
      rw [putD_at]
      by_cases hd : dstAt ops k = some d
      · rw [if_pos (h1 k (by omega) hd), putD_at, if_pos hd, if_pos hd]
      · rw [if_neg hd]
        split
        · rw [putD_at, if_neg hd]; exact ih
        · exact ih
  have B : ∀ k, j + k ≤ N → (appX ops rs t X (j + k)).at d = (appX ops rs t X j).at d := by
    intro k
    induction k with
    | zero => intro _; rfl
    | succ k ih =>
      intro hk
      rw [← ih (by omega)]
      show (appX ops rs t X ((j + k) + 1)).at d = _
      simp only [appX]
      split
      · rename_i hx
        rw [putD_at]
        split
        · rename_i hd
          rw [h2 (j + k) (by omega) (by omega) hd] at hx
          cases hx
        · rfl
      · rfl
  have := B (N - j) (by omega)
  rw [show j + (N - j) = N by omega] at this
  rw [this, A j (Nat.le_refl _)]

theorem appX_set {ops : List Oper} {rs : List Rec} {t : Tmps} {X X' : Nat → Bool} {i N : Nat} (hi : i < N) (hx : X i = false) (hx' : X' i = true) (hne : ∀ k, k ≠ i → X' k = X k)
    (h : ∀ k d, i < k → k < N → dstAt ops k = some d → dstAt ops i = some d → X k = false) (d : Tmp) : (appX ops rs t X' N).at d = (putD (appX ops rs t X N) (dstAt ops i) (valAt rs i)).at d := by
  have A : ∀ k, k ≤ i → appX ops rs t X' k = appX ops rs t X k := by
    intro k
    induction k with
    | zero => intro _; rfl
    | succ k ih =>
      intro hk
      simp only [appX]
      rw [ih (by omega), hne k (by omega)]
  have B : ∀ k, i + 1 + k ≤ N → (appX ops rs t X' (i + 1 + k)).at d = if dstAt ops i = some d then valAt rs i else (appX ops rs t X (i + 1 + k)).at d := by
    intro k
    induction k with
    | zero =>
      intro _
      simp only [Nat.add_zero, appX, hx', hx, if_true, Bool.false_eq_true, if_false]
      rw [putD_at, A i (Nat.le_refl _)]
    | succ k ih =>
      intro hk
      have ih := ih (by omega)
      show (appX ops rs t X' ((i + 1 + k) + 1)).at d = if dstAt ops i = some d then valAt rs i else (appX ops rs t X ((i + 1 + k) + 1)).at d
      simp only [appX]
      rw [hne (i + 1 + k) (by omega)]
      split
      · rename_i hxk
        rw [putD_at, putD_at, ih]
        by_cases hd : dstAt ops (i + 1 + k) = some d
        · rw [if_pos hd, if_pos hd]
          split
          · rename_i hdi
            rw [h _ d (by omega) (by omega) hd hdi] at hxk
            cases hxk
          · rfl
        · rw [if_neg hd, if_neg hd]
      · exact ih
  have := B (N - (i + 1)) (by omega)
  rw [show i + 1 + (N - (i + 1)) = N by omega] at this
  rw [this, putD_at]

/-- A block that is laid under a number that was kept for it. -/
theorem Rel.lay {ι : Ren} {M M' : Mem} {w : World} {b0 k : Nat} {x : Blk} {ob : Obj} (hr : Rel B0 G ι M w) (hb0 : b0 < M.size) (hn : ι b0 = none) (hsz : M'.size = M.size) (hg0 : M'.get b0 = x) (hg : ∀ b, b ≠ b0 → M'.get b = M.get b)
    (hnew : BlkRel B0 (fun b => if b = b0 then some ⟨w.heap.size, 0, k⟩ else ι b) x ⟨w.heap.size, 0, k⟩ (w.alloc ob)) :
    Rel B0 G (fun b => if b = b0 then some ⟨w.heap.size, 0, k⟩ else ι b) M' (w.alloc ob) := by
  have hle : ι.le (fun b => if b = b0 then some ⟨w.heap.size, 0, k⟩ else ι b) := by
    intro b L hb
    have : b ≠ b0 := by intro e; rw [e, hn] at hb; cases hb
    simp [this, hb]
  have hold : ∀ B, B < w.heap.size → (w.alloc ob).heap[B]? = w.heap[B]? := fun B hB => by
    show (w.heap.push ob)[B]? = _
    rw [Array.getElem?_push, if_neg (by omega)]
  refine ⟨fun b L hb hL => ?_, fun b₁ b₂ L₁ L₂ h1 h2 h3 h4 l1 l2 e => ?_, fun b L hL => ?_, by simp; have := hr.floor; omega, fun g hg' => ?_, fun b hb => ?_⟩
  · by_cases e : b = b0
    · subst e; simp at hL; subst hL; rw [hg0]; exact hnew
    · simp only [e, if_false] at hL
      rw [hg b e]
      exact (hr.blk b L (by omega) hL).mono hle (hold _ (hr.old b L hL))
  · by_cases e1 : b₁ = b0
    · by_cases e2 : b₂ = b0
      · omega
      · simp [e1] at h3; simp [e2] at h4; subst h3
        have := hr.old _ _ h4
        simp at e; omega
    · by_cases e2 : b₂ = b0
      · simp [e1] at h3; simp [e2] at h4; subst h4
        have := hr.old _ _ h3
        simp at e; omega
      · simp [e1] at h3; simp [e2] at h4
        rw [hg _ e1] at l1
        rw [hg _ e2] at l2
        exact hr.inj b₁ b₂ L₁ L₂ (by omega) (by omega) h3 h4 l1 l2 e
  · by_cases e1 : b = b0
    · simp [e1] at hL; subst hL; simp
    · simp [e1] at hL; have := hr.old _ _ hL; simp; omega
  · obtain ⟨L, h1, h2⟩ := hr.glob g hg'
    exact ⟨L, hle _ _ h1, h2⟩
  · rw [hg b (by omega)]; exact hr.top b (by omega)

theorem Stp.inner {ι0 ι ι' : Ren} {m M M' Ms Ms1 : Mem} {w0 w w' : World} (h : Stp ι0 ι m M w0 w) (k : Stp ι ι' Ms Ms1 w w') (h1 : m.size ≤ Ms.size) (h2 : Ms1.size ≤ M.size) (h3 : ∀ b, b < Ms.size → M.get b = Ms.get b) (h4 : M'.size = M.size)
    (h5 : ∀ b, b < m.size → M'.get b = Ms1.get b) : Stp ι0 ι' m M' w0 w' := by
  have kms := k.msize
  refine ⟨fun b L hb => k.ext _ _ (h.ext _ _ hb), fun b hb => ?_, k.os.trans h.os, k.output.trans h.output, k.tape.trans h.tape, Nat.le_trans h.hsize k.hsize, fun B hB hn => ?_, fun b L g1 g2 hb => ?_, by rw [h4]; exact h.msize, fun b hb ho => ?_⟩
  · rw [k.out b (by omega), h.out b (by omega)]
  · rw [k.frame B (Nat.lt_of_lt_of_le hB h.hsize) ?_, h.frame B hB hn]
    intro b L hb hL ho
    rw [← h3 b hb] at ho
    rcases Nat.lt_or_ge b m.size with hlt | hge
    · rw [h.out b (.inl hlt)] at hL
      exact hn b L hlt hL (h.ownk b hlt ho)
    · rcases h.new b L hge (by omega) hL with g | ⟨b0, L0, g1, g2, g3, g4⟩
      · omega
      · rw [← g4]; exact hn b0 L0 g1 g2 g3
  · rw [h4] at g2
    by_cases hc : Ms.size ≤ b ∧ b < Ms1.size
    · rcases k.new b L hc.1 hc.2 hb with g | ⟨b0, L0, q1, q2, q3, q4⟩
      · exact .inl (Nat.le_trans h.hsize g)
      · rw [← h3 b0 q1] at q3
        rcases Nat.lt_or_ge b0 m.size with hlt | hge
        · rw [h.out b0 (.inl hlt)] at q2
          exact .inr ⟨b0, L0, hlt, q2, h.ownk b0 hlt q3, q4⟩
        · rcases h.new b0 L0 hge (by omega) q2 with g | ⟨b1, L1, k1, k2, k3, k4⟩
          · exact .inl (q4 ▸ g)
          · exact .inr ⟨b1, L1, k1, k2, k3, k4.trans q4⟩
    · rw [k.out b (by omega)] at hb
      exact h.new b L g1 g2 hb
  · rw [h5 b hb] at ho
    have := k.ownk b (by omega) ho
    rw [← h3 b (by omega)] at this
    exact h.ownk b hb this

/-! ### a run in the text's order, by places -/
structure Run (P : Program) (K : TypeId → Bool) (G n : Nat) (cf : CallF) (ops : List Oper) (t : Tmps) (m : Mem) (rs : List Rec) (t' : Tmps) (m' : Mem) : Prop where
  eq : recD P K G cf n ops ops t m = some (rs, t', m')
  grw : CfGrw cf
  top : m.top

theorem Run.len {cf : CallF} {ops : List Oper} {t t' : Tmps} {m m' : Mem} {rs : List Rec} (R : Run P K G n cf ops t m rs t' m') : rs.length = ops.length := (recD_get _ _ _ _ _ _ R.eq).1
theorem Run.zero {cf : CallF} {ops : List Oper} {t t' : Tmps} {m m' : Mem} {rs : List Rec} (R : Run P K G n cf ops t m rs t' m') : mAt rs m' 0 = m := (recD_get _ _ _ _ _ _ R.eq).2.2.1
theorem Run.last {cf : CallF} {ops : List Oper} {t t' : Tmps} {m m' : Mem} {rs : List Rec} (R : Run P K G n cf ops t m rs t' m') : mAt rs m' ops.length = m' := by
  unfold mAt; rw [List.getElem?_eq_none (by rw [R.len]; exact Nat.le_refl _)]

theorem Run.step {cf : CallF} {ops : List Oper} {t t' : Tmps} {m m' : Mem} {rs : List Rec} (R : Run P K G n cf ops t m rs t' m') {i : Nat} {o : Oper} (ho : ops[i]? = some o) :
    ∃ r, rs[i]? = some r ∧ r.t = appX ops rs t (fun _ => true) i ∧ r.m = mAt rs m' i ∧ dstOk n o.dst = true ∧ r.want = Region.wanted o (yieldD ops r.t) ∧
      (r.want = true → opD P K G cf r.t r.m o.op = some (r.v, mAt rs m' (i + 1))) ∧ (r.want = false → r.v = undef ∧ mAt rs m' (i + 1) = r.m) := by
  obtain ⟨g1, g2, g3, g4⟩ := recD_get _ _ _ _ _ _ R.eq
  have ht : ∀ k, k ≤ ops.length → tAt rs t' k = appX ops rs t (fun _ => true) k := by
    intro k
    induction k with
    | zero => intro _; exact g2
    | succ k ih =>
      intro hk
      have ih := ih (by omega)
      obtain ⟨o', ho'⟩ : ∃ o', ops[k]? = some o' := ⟨ops[k], by simp⟩
      obtain ⟨r, h1, h2, h3, h4, _⟩ := g4 k o' ho'
      rw [h4]
      simp only [appX, if_true, dstAt, ho', valAt, h1]
      rw [← ih]
      simp only [tAt, h1]
  obtain ⟨r, h1, h2, h3, h4, h5, h6⟩ := g4 i o ho
  have hi : i < ops.length := by
    rcases Nat.lt_or_ge i ops.length with h | h
    · exact h
    · rw [List.getElem?_eq_none h] at ho; cases ho
  refine ⟨r, h1, ?_, ?_, h2, h3, h5, h6⟩
  · rw [← ht i (by omega)]; simp only [tAt, h1]
  · simp only [mAt, h1]

theorem Run.grow1 {cf : CallF} {ops : List Oper} {t t' : Tmps} {m m' : Mem} {rs : List Rec} (R : Run P K G n cf ops t m rs t' m') {i : Nat} (hi : i < ops.length) : Grw (mAt rs m' i) (mAt rs m' (i + 1)) := by
  obtain ⟨r, h1, h2, h3, h4, h5, h6, h7⟩ := R.step (i := i) (o := ops[i]) (by simp)
  rw [← h3]
  cases hw : r.want with
  | true => exact opD_grw R.grw (h6 hw)
  | false => rw [(h7 hw).2]; exact Grw.refl _

theorem Run.grow {cf : CallF} {ops : List Oper} {t t' : Tmps} {m m' : Mem} {rs : List Rec} (R : Run P K G n cf ops t m rs t' m') {i : Nat} : ∀ k, i + k ≤ ops.length → Grw (mAt rs m' i) (mAt rs m' (i + k))
  | 0, _ => Grw.refl _
  | k + 1, h => (R.grow k (by omega)).trans (R.grow1 (by omega))

theorem Run.mono {cf : CallF} {ops : List Oper} {t t' : Tmps} {m m' : Mem} {rs : List Rec} (R : Run P K G n cf ops t m rs t' m') {i j : Nat} (h : i ≤ j) (hj : j ≤ ops.length) : Grw (mAt rs m' i) (mAt rs m' j) := by
  have := R.grow (i := i) (j - i) (by omega)
  rw [show i + (j - i) = j by omega] at this
  exact this

theorem Run.topAt {cf : CallF} {ops : List Oper} {t t' : Tmps} {m m' : Mem} {rs : List Rec} (R : Run P K G n cf ops t m rs t' m') {i : Nat} (h : i ≤ ops.length) : (mAt rs m' i).top := by
  have := (R.mono (Nat.zero_le i) h).top
  rw [R.zero] at this
  exact this R.top

theorem klass_cases (o : Op) : klass o = 0 ∨ klass o = 1 ∨ klass o = 2 := by
  unfold klass; split <;> simp

/-- One light operation of the text's order: what becomes of the memory. -/
theorem Run.light {cf : CallF} {ops : List Oper} {t t' : Tmps} {m m' : Mem} {rs : List Rec} (R : Run P K G n cf ops t m rs t' m') {i : Nat} (hi : i < ops.length) (hk : klassAt ops i ≠ 2) :
    (mAt rs m' (i + 1) = mAt rs m' i ∧ (klassAt ops i = 1 → wantAt rs i = false)) ∨ (klassAt ops i = 1 ∧ wantAt rs i = true ∧ ∃ x q, allocD P G (appX ops rs t (fun _ => true) i) ops[i].op = some (x, q) ∧ valAt rs i = q.val (mAt rs m' i).size ∧ mAt rs m' (i + 1) = (mAt rs m' i).push x) := by
  obtain ⟨r, h1, h2, h3, h4, h5, h6, h7⟩ := R.step (i := i) (o := ops[i]) (by simp)
  have hka : klassAt ops i = klass ops[i].op := by simp [klassAt, hi]
  have hv : valAt rs i = r.v := by simp [valAt, h1]
  have hwt : wantAt rs i = r.want := by simp [wantAt, h1]
  cases hw : r.want with
  | false => exact .inl ⟨by rw [(h7 hw).2, h3], fun _ => by rw [hwt, hw]⟩
  | true =>
    have h8 := h6 hw
    unfold opD at h8
    rw [hka] at hk ⊢
    rcases klass_cases ops[i].op with hc | hc | hc
    · rw [hc] at h8
      simp only at h8
      split at h8 <;> simp at h8
      exact .inl ⟨by rw [← h8.2, h3], fun h => by rw [hc] at h; cases h⟩
    · rw [hc] at h8
      simp only at h8
      split at h8 <;> simp at h8
      rename_i x q hx
      refine .inr ⟨hc, by rw [hwt, hw], x, q, by rw [← h2]; exact hx, by rw [hv, ← h8.1, h3], by rw [← h8.2, h3]⟩
    · exact absurd hc hk

theorem Run.lightGet {cf : CallF} {ops : List Oper} {t t' : Tmps} {m m' : Mem} {rs : List Rec} (R : Run P K G n cf ops t m rs t' m') {i : Nat} : ∀ k, i + k ≤ ops.length → (∀ h, i ≤ h → h < i + k → klassAt ops h ≠ 2) →
    ∀ b, b < (mAt rs m' i).size → (mAt rs m' (i + k)).get b = (mAt rs m' i).get b
  | 0, _, _, b, hb => rfl
  | k + 1, h, hl, b, hb => by
    have ih := R.lightGet k (by omega) (fun h g1 g2 => hl h g1 (by omega)) b hb
    have hsz := (R.mono (i := i) (j := i + k) (by omega) (by omega)).size
    show (mAt rs m' ((i + k) + 1)).get b = _
    rcases R.light (i := i + k) (by omega) (hl _ (by omega) (by omega)) with ⟨e, _⟩ | ⟨_, _, x, q, _, _, e⟩
    · rw [e]; exact ih
    · rw [e, Mem.get_push_ne _ (by omega)]; exact ih

theorem Run.kept {cf : CallF} {ops : List Oper} {t t' : Tmps} {m m' : Mem} {rs : List Rec} (R : Run P K G n cf ops t m rs t' m') {i j : Nat} (hij : i ≤ j) (hj : j ≤ ops.length) (hl : ∀ h, i ≤ h → h < j → klassAt ops h ≠ 2) :
    ∀ b, b < (mAt rs m' i).size → (mAt rs m' j).get b = (mAt rs m' i).get b := by
  have := R.lightGet (i := i) (j - i) (by omega) (fun h g1 g2 => hl h g1 (by omega))
  rw [show i + (j - i) = j by omega] at this
  exact this

theorem next_heavy (ops : List Oper) : ∀ (k i : Nat), i + k = ops.length → ∃ s, i ≤ s ∧ s ≤ ops.length ∧ (s < ops.length → klassAt ops s = 2) ∧ ∀ h, i ≤ h → h < s → klassAt ops h ≠ 2
  | 0, i, h => ⟨i, Nat.le_refl _, by omega, fun h' => by omega, fun h' g1 g2 => by omega⟩
  | k + 1, i, h => by
    by_cases hk : klassAt ops i = 2
    · exact ⟨i, Nat.le_refl _, by omega, fun _ => hk, fun h' g1 g2 => by omega⟩
    · obtain ⟨s, h1, h2, h3, h4⟩ := next_heavy ops k (i + 1) (by omega)
      refine ⟨s, by omega, h2, h3, fun h' g1 g2 => ?_⟩
      by_cases e : h' = i
      · rw [e]; exact hk
      · exact h4 h' (by omega) g2

/-- Whose name is it? -/
theorem Run.owner {cf : CallF} {ops : List Oper} {t t' : Tmps} {m m' : Mem} {rs : List Rec} (R : Run P K G n cf ops t m rs t' m') {i : Nat} : ∀ k, i + k ≤ ops.length → ∀ b, (mAt rs m' i).size ≤ b → b < (mAt rs m' (i + k)).size →
    ∃ j, i ≤ j ∧ j < i + k ∧ (mAt rs m' j).size ≤ b ∧ b < (mAt rs m' (j + 1)).size
  | 0, _, b, h1, h2 => by simp at h2; omega
  | k + 1, h, b, h1, h2 => by
    rcases Nat.lt_or_ge b (mAt rs m' (i + k)).size with hlt | hge
    · obtain ⟨j, g1, g2, g3, g4⟩ := R.owner k (by omega) b h1 hlt
      exact ⟨j, g1, by omega, g3, g4⟩
    · exact ⟨i + k, by omega, by omega, hge, h2⟩
end
end Go.DI
