/-
  DiDraw1: small laws for regions that draw their order.
-/
import Derived.Test.YtapmpddneoghfaaDiGrow
import Derived.Test.YtapmpddneoghfaaDiDef2
namespace Go.DI
section
variable {P : Program} {K : TypeId → Bool} {G B0 n : Nat} {ι : Ren} {m : Mem} {w : World} {t u : Tmps} {a : Act}

theorem ev_congr {x : Operand} (h : ∀ d, x = .tmp d → t.at d = u.at d) : ev G t x = ev G u x := by
  cases x with
  | tmp d => simp only [ev]; rw [h d rfl]
  | const c => rfl
  | global g => rfl
  | func f => rfl

theorem evs_congr : ∀ {l : List Operand}, (∀ x ∈ l, ev G t x = ev G u x) → evs G t l = evs G u l
  | [], _ => rfl
  | x :: l, h => by
    simp only [evs]
    rw [h x (by simp), evs_congr (l := l) fun y hy => h y (by simp [hy])]

theorem evParts_congr : ∀ {l : List (Nat × Operand)}, (∀ x ∈ l.map (·.2), ev G t x = ev G u x) → evParts G t l = evParts G u l
  | [], _ => rfl
  | (i, x) :: l, h => by
    simp only [evParts]
    rw [h x (by simp), evParts_congr (l := l) fun y hy => h y (by simp at hy ⊢; exact .inr hy)]

theorem optEv_congr {x : Option Operand} (h : ∀ y ∈ x.toList, ev G t y = ev G u y) : optEv G t x = optEv G u x := by
  cases x with
  | none => rfl
  | some x => simp only [optEv]; rw [h x (by simp)]

theorem quietD_congr {o : Op} (h : ∀ x ∈ operL o, ev G t x = ev G u x) : quietD P K G t m o = quietD P K G u m o := by
  cases o <;> simp only [operL] at h <;> simp only [quietD]
  case move x => exact h x (by simp)
  case assign x => exact h x (by simp)
  case pick c x y => rw [h c (by simp), h x (by simp), h y (by simp)]
  case load ty x => rw [h x (by simp)]
  case nilCheck x => rw [h x (by simp)]
  case binOp op ty x y yt => rw [h x (by simp), h y (by simp)]
  case unOp op ty x => rw [h x (by simp)]
  case makeFunc fn f c =>
    cases fn <;> simp only [quietD]
    rw [evs_congr fun x hx => h x (by simp [Array.mem_toList_iff.1 hx]), evs_congr (l := c.toList) fun x hx => h x (by simp [Array.mem_toList_iff.1 hx])]
  case fieldAddr s x f => rw [h x (by simp)]
  case field s x f => rw [h x (by simp)]
  case indexAddr s x i => rw [h x (by simp), h i (by simp)]
  case index s x i => rw [h x (by simp), h i (by simp)]
  case lookup s x k ok => rw [h x (by simp), h k (by simp)]
  case extract x i => rw [h x (by simp)]
  case build ty ps => rw [evParts_congr h]
  case slice ty x lo hi mx =>
    rw [h x (by simp), optEv_congr (x := lo) fun y hy => h y (by simp [hy]), optEv_congr (x := hi) fun y hy => h y (by simp [hy]), optEv_congr (x := mx) fun y hy => h y (by simp [hy])]
  case call c =>
    obtain ⟨callee, args, tys⟩ := c
    cases callee with
    | value f => simp only [quietD]
    | invoke r s => simp only [quietD]
    | builtin b =>
      cases b <;> simp only [quietD]
      case len =>
        cases hl : args.toList with
        | nil => rfl
        | cons x l =>
          have := h x (by simp [hl])
          cases l with
          | nil => cases tys.toList with
            | nil => rfl
            | cons y l' => cases l' with
              | nil => simp only [this]
              | cons z l'' => rfl
          | cons y l' => rfl
      case min => rw [evs_congr h]
      case max => rw [evs_congr h]

theorem quietD_pure {o : Op} (h : readsB o = false) (m₂ : Mem) : quietD P K G t m o = quietD P K G t m₂ o := by
  cases o <;> simp only [readsB] at h <;> simp only [quietD] <;> try (simp at h; done)
  case makeFunc fn f c => cases fn <;> simp only [quietD]
  case call c =>
    obtain ⟨callee, args, tys⟩ := c
    cases callee with
    | value f => simp only [quietD]
    | invoke r s => simp only [quietD]
    | builtin b => cases b <;> simp only [readsB] at h <;> simp only [quietD] <;> simp at h

theorem quietD_ext {m₂ : Mem} (ht : m.top) (hg : ∀ b, b < m.size → m₂.get b = m.get b) {o : Op} {v : Value} (h : quietD P K G t m o = some v) : quietD P K G t m₂ o = some v := by
  have hne : ∀ b, m.get b ≠ .none → m₂.get b = m.get b := fun b hb => by
    rcases Nat.lt_or_ge b m.size with h1 | h1
    · exact hg b h1
    · exact absurd (ht b h1) hb
  have hload : ∀ (ty : TypeId) (x v : Value), loadD P m ty x = some v → loadD P m₂ ty x = some v := by
    intro ty x v h
    unfold loadD at h ⊢
    split at h <;> try (simp at h; done)
    rename_i b off
    split at h <;> try (simp at h; done)
    · split at h <;> try (simp at h; done)
      rename_i k _
      have : ∀ c, loadC m b off k = some c → loadC m₂ b off k = some c := by
        intro c hc
        unfold loadC at hc ⊢
        rw [hne b (by intro e; rw [e] at hc; simp at hc)]
        exact hc
      split at h <;> try (simp at h; done)
      rename_i c hc
      simp only [this c hc]
      exact h
    · rename_i hb
      rw [hne b (by intro e; rw [e] at h; simp at h)]
      exact h
  have hent : ∀ (x : Value) (es : List MapEntry), entriesD m x = some es → entriesD m₂ x = some es := by
    intro x es h
    unfold entriesD at h ⊢
    split at h <;> try (simp at h; done)
    · exact h
    · rename_i r
      rw [hne r (by intro e; rw [e] at h; simp at h)]
      exact h
  cases o
  case load ty x =>
    simp only [quietD] at h ⊢
    split at h <;> try (simp at h; done)
    exact hload _ _ _ h
  case lookup s x k ok =>
    simp only [quietD] at h ⊢
    split at h <;> try (simp at h; done)
    unfold lookupD at h ⊢
    split at h <;> try (simp at h; done)
    split at h <;> try (simp at h; done)
    rename_i es hes
    simp only [hent _ _ hes]
    exact h
  case call c =>
    obtain ⟨callee, args, tys⟩ := c
    cases callee with
    | value f => simp only [quietD] at h; simp at h
    | invoke r s => simp only [quietD] at h; simp at h
    | builtin b =>
      cases b <;> simp only [quietD] at h ⊢ <;> try exact h
      case len =>
        split at h <;> try (simp at h; done)
        split at h <;> try (simp at h; done)
        unfold lenD at h ⊢
        split at h <;> try (simp at h; done)
        · exact h
        · exact h
        · exact h
        · split at h <;> try (simp at h; done)
          · exact h
          · rename_i r _
            rw [hne r (by intro e; rw [e] at h; simp at h)]
            exact h
  all_goals (rw [quietD_pure (m₂ := m) rfl]; exact h)

theorem allocD_congr {o : Op} (h : ∀ x ∈ operL o, ev G t x = ev G u x) : allocD P G t o = allocD P G u o := by
  cases o <;> simp only [operL] at h <;> simp only [allocD]
  case box e x => rw [h x (by simp)]
  case buildSlice ty k ps => rw [evParts_congr h]
  case makeSlice ty l c => rw [h l (by simp), h c (by simp)]
  case makeMap ty r =>
    cases r with
    | none => rfl
    | some x => simp only; rw [h x (by simp)]

theorem heavyD_congr {cf : CallF} {o : Op} (h : ∀ x ∈ operL o, ev G t x = ev G u x) : heavyD P K G cf t m o = heavyD P K G cf u m o := by
  cases o <;> simp only [operL] at h <;> simp only [heavyD]
  case store ty x y => rw [h x (by simp), h y (by simp)]
  case mapUpdate ty x k y => rw [h x (by simp), h k (by simp), h y (by simp)]
  case insert ty x k y => rw [h x (by simp), h k (by simp), h y (by simp)]
  case convert s d x => rw [h x (by simp)]
  case call c =>
    obtain ⟨callee, args, tys⟩ := c
    cases callee with
    | value f =>
      simp only [operL] at h
      simp only [heavyD]
      rw [h f (by simp), evs_congr fun x hx => h x (by simp [Array.mem_toList_iff.1 hx])]
    | invoke r s => simp only [heavyD]
    | builtin b =>
      cases b <;> simp only [heavyD]
      all_goals
        cases hl : args.toList with
        | nil => rfl
        | cons x l =>
          have hx := h x (by simp only [operL, hl]; simp)
          cases l with
          | nil => rfl
          | cons y l =>
            have hy := h y (by simp only [operL, hl]; simp)
            cases l <;> cases hT : tys.toList with
            | nil => rfl
            | cons a b => cases b with
              | nil => rfl
              | cons c d => cases d <;> simp only [hx, hy]

theorem Rel.restrict (hr : Rel B0 G ι m w) {m₂ : Mem} (ht : m₂.top) (hs : m₂.size ≤ m.size) (hg : ∀ b, b < m₂.size → m.get b = m₂.get b) : Rel B0 G ι m₂ w := by
  refine ⟨fun b L hb hL => ?_, fun b₁ b₂ L₁ L₂ h1 h2 h3 h4 l1 l2 e => ?_, hr.old, hr.floor, hr.glob, ht⟩
  · rw [← hg b hb]; exact hr.blk b L (by omega) hL
  · rw [← hg b₁ h1] at l1
    rw [← hg b₂ h2] at l2
    exact hr.inj b₁ b₂ L₁ L₂ (by omega) (by omega) h3 h4 l1 l2 e

/-! ### the order of waiting -/
theorem maskD_bit {acc : List Nat} {i : Nat} : ∀ {l : List Edge}, (maskD acc l).testBit i = true → ∃ e ∈ l, Region.binds .any e = true ∧ (e.on = i ∨ (acc.getD e.on 0).testBit i = true)
  | [], h => by simp [maskD] at h
  | e :: l, h => by
    simp only [maskD] at h
    cases hb : Region.binds .any e with
    | false =>
      rw [hb, cond_false] at h
      obtain ⟨e', h1, h2⟩ := maskD_bit h
      exact ⟨e', by simp [h1], h2⟩
    | true =>
      rw [hb, cond_true, Nat.testBit_or, Nat.testBit_or, Bool.or_eq_true, Bool.or_eq_true] at h
      rcases h with h | h | h
      · rw [Nat.testBit_two_pow] at h
        exact ⟨e, by simp, hb, .inl (by simpa using h)⟩
      · exact ⟨e, by simp, hb, .inr h⟩
      · obtain ⟨e', h1, h2⟩ := maskD_bit h
        exact ⟨e', by simp [h1], h2⟩

theorem tabD_spec : ∀ (l : List Oper) (acc : List Nat), ∃ rest, tabD l acc = acc ++ rest ∧ rest.length = l.length ∧ ∀ j o, l[j]? = some o → rest[j]? = some (maskD (acc ++ rest.take j) o.after.toList)
  | [], acc => ⟨[], by simp [tabD], rfl, fun j o h => by simp at h⟩
  | o :: l, acc => by
    obtain ⟨rest, h1, h2, h3⟩ := tabD_spec l (acc ++ [maskD acc o.after.toList])
    refine ⟨maskD acc o.after.toList :: rest, by simp [tabD, h1], by simp [h2], fun j o' hj => ?_⟩
    cases j with
    | zero => simp at hj; subst hj; simp
    | succ j =>
      have := h3 j o' (by simpa using hj)
      simpa using this

theorem edgesB_spec : ∀ (l : List Oper) (i : Nat), edgesB l i = true → ∀ j o, l[j]? = some o → ∀ e ∈ o.after.toList, Region.binds .any e = true → e.on < i + j
  | [], i, h, j, o, hj, _, _, _ => by simp at hj
  | x :: l, i, h, j, o, hj, e, he, hb => by
    simp only [edgesB, Bool.and_eq_true, List.all_eq_true] at h
    cases j with
    | zero =>
      simp at hj; subst hj
      have := h.1 e he
      rw [hb] at this
      simp at this
      have h2 : e.on < i := by simpa [Nat.blt] using this
      omega
    | succ j =>
      have := edgesB_spec l (i + 1) h.2 j o (by simpa using hj) e he hb
      omega

theorem bef_in {ops : List Oper} (hE : edgesB ops 0 = true) {X : Nat → Prop} (D : ∀ j o, ops[j]? = some o → X j → ∀ e ∈ o.after.toList, Region.binds .any e = true → X e.on) :
    ∀ (j : Nat) (o : Oper), ops[j]? = some o → (∀ e ∈ o.after.toList, Region.binds .any e = true → X e.on) → ∀ i, befB (tabD ops []) i j = true → X i := by
  obtain ⟨rest, h1, h2, h3⟩ := tabD_spec ops []
  simp only [List.nil_append] at h1 h3
  intro j
  induction j using Nat.strongRecOn with
  | _ j ih =>
    intro o ho hx i hi
    unfold befB at hi
    rw [h1] at hi
    have h4 := h3 j o ho
    rw [List.getD_eq_getElem?_getD, h4, Option.getD_some] at hi
    obtain ⟨e, he, hb, hcase⟩ := maskD_bit hi
    have hlt := edgesB_spec ops 0 hE j o ho e he hb
    have hxe := hx e he hb
    rcases hcase with h5 | h5
    · rw [← h5]; exact hxe
    · have hej : e.on < j := by omega
      have e1 : (rest.take j).getD e.on 0 = rest.getD e.on 0 := by
        rw [List.getD_eq_getElem?_getD, List.getD_eq_getElem?_getD, List.getElem?_take]
        simp [hej]
      rw [e1] at h5
      have hlen : j < ops.length := by
        rcases Nat.lt_or_ge j ops.length with h6 | h6
        · exact h6
        · rw [List.getElem?_eq_none h6] at ho; cases ho
      obtain ⟨oe, hoe⟩ : ∃ oe, ops[e.on]? = some oe := ⟨ops[e.on], by simp⟩
      exact ih e.on hej oe hoe (D _ _ hoe hxe) i (by unfold befB; rw [h1]; exact h5)

/-! ### the record of a run in the text's order -/
theorem recD_get {cf : CallF} {ops : List Oper} : ∀ (l : List Oper) (t : Tmps) (m : Mem) (rs : List Rec) (t' : Tmps) (m' : Mem), recD P K G cf n ops l t m = some (rs, t', m') →
    rs.length = l.length ∧ tAt rs t' 0 = t ∧ mAt rs m' 0 = m ∧ ∀ i o, l[i]? = some o → ∃ r, rs[i]? = some r ∧ dstOk n o.dst = true ∧ r.want = Region.wanted o (yieldD ops r.t) ∧
      tAt rs t' (i + 1) = putD r.t o.dst r.v ∧ (r.want = true → opD P K G cf r.t r.m o.op = some (r.v, mAt rs m' (i + 1))) ∧ (r.want = false → r.v = undef ∧ mAt rs m' (i + 1) = r.m)
  | [], t, m, rs, t', m', h => by
    simp [recD] at h
    obtain ⟨rfl, rfl, rfl⟩ := h
    exact ⟨rfl, rfl, rfl, fun i o hi => by simp at hi⟩
  | o :: l, t, m, rs, t', m', h => by
    simp only [recD] at h
    split at h <;> try (simp at h; done)
    rename_i hd
    split at h
    · rename_i hw
      split at h <;> try (simp at h; done)
      rename_i v m₁ hv
      split at h <;> simp at h
      rename_i rs₁ t₁ m₂ h1
      obtain ⟨rfl, rfl, rfl⟩ := h
      obtain ⟨g1, g2, g3, g4⟩ := recD_get l _ _ _ _ _ h1
      refine ⟨by simp [g1], rfl, rfl, fun i o' hi => ?_⟩
      cases i with
      | zero =>
        simp at hi; subst hi
        refine ⟨_, rfl, hd, hw.symm, ?_, fun _ => ?_, fun h => by cases h⟩
        · exact g2
        · rw [hv]; congr 2; exact g3.symm
      | succ i => exact g4 i o' (by simpa using hi)
    · rename_i hw
      split at h <;> simp at h
      rename_i rs₁ t₁ m₂ h1
      obtain ⟨rfl, rfl, rfl⟩ := h
      obtain ⟨g1, g2, g3, g4⟩ := recD_get l _ _ _ _ _ h1
      refine ⟨by simp [g1], rfl, rfl, fun i o' hi => ?_⟩
      cases i with
      | zero =>
        simp at hi; subst hi
        refine ⟨_, rfl, hd, ?_, g2, ?_, ?_⟩
        · simpa using hw
        · intro h; cases h
        · intro _; exact ⟨rfl, g3⟩
      | succ i => exact g4 i o' (by simpa using hi)

theorem veqL_eq {f : Value → Value → Bool} (hf : ∀ x y, f x y = true → x = y) : ∀ {l l' : List Value}, veqL f l l' = true → l = l'
  | [], [], _ => rfl
  | x :: l, y :: l', h => by
    simp only [veqL, Bool.and_eq_true] at h
    rw [hf _ _ h.1, veqL_eq hf h.2]
  | [], _ :: _, h => by simp [veqL] at h
  | _ :: _, [], h => by simp [veqL] at h

theorem veq_eq : ∀ (d : Nat) (x y : Value), veq d x y = true → x = y
  | 0, x, y, h => by simp [veq] at h
  | d + 1, x, y, h => by
    have ih := veq_eq d
    cases x <;> cases y <;> simp only [veq] at h <;> try (simp at h; done)
    case bool a b => simp at h; rw [h]
    case int k a k' b => simp at h; rw [h.1, h.2]
    case string a b =>
      obtain ⟨⟨a⟩⟩ := a; obtain ⟨⟨b⟩⟩ := b
      simp at h; rw [h]
    case pointer a b => simp at h; rw [h]
    case slice a k c a' k' c' =>
      simp only [Bool.and_eq_true, decide_eq_true_eq] at h
      rw [h.1.1, Nat.eq_of_beq_eq_true h.1.2, Nat.eq_of_beq_eq_true h.2]
    case map a b => simp at h; rw [h]
    case func f a b f' a' b' =>
      simp only [Bool.and_eq_true, decide_eq_true_eq] at h
      rw [h.1.1, Array.ext' (veqL_eq ih h.1.2), Array.ext' (veqL_eq ih h.2)]
    case nilFunc => rfl
    case nilIface => rfl
    case agg a b => rw [Array.ext' (veqL_eq ih h)]
    case tuple a b => rw [Array.ext' (veqL_eq ih h)]

theorem blkEq_eq {x y : Blk} (h : blkEq x y = true) : x = y := by
  unfold blkEq at h
  split at h
  · simp only [Bool.and_eq_true, beq_iff_eq] at h
    rw [h.1, veqL_eq (veq_eq 8) h.2]
  · simp only [Bool.and_eq_true, beq_iff_eq] at h
    rw [h.1, Nat.eq_of_beq_eq_true h.2]
  · simp at h
end
end Go.DI
