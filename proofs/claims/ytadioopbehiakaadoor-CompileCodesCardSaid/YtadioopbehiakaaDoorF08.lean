/-
  DiStat: the tables of a region that draws, worked out quickly.
-/
import Derived.Test.YtadioopbehiakaaDoorF05
import Derived.Test.YtadioopbehiakaaDoorF07
set_option linter.all false
set_option linter.unusedVariables false
set_option linter.unusedSimpArgs false
namespace Go.DI
/-! ### what waits for what -/
def maskAt (M : Tr Nat) (j : Nat) : Nat := match Tr.get M j j with | some x => x | none => 0
def maskT (acc : Tr Nat) : List Edge → Nat
  | [] => 0
  | e :: l => cond (Region.binds .any e) (2 ^ e.on ||| (maskAt acc e.on ||| maskT acc l)) (maskT acc l)
def tabT : List Oper → Nat → Tr Nat → Tr Nat
  | [], _, acc => acc
  | o :: l, i, acc => tabT l (i + 1) (Tr.put acc 8 i i (maskT acc o.after.toList))
theorem maskT_eq {acc : Tr Nat} {L : List Nat} (h : ∀ j, maskAt acc j = L.getD j 0) : ∀ es : List Edge, maskT acc es = maskD L es
  | [] => rfl
  | e :: es => by simp only [maskT, maskD, h, maskT_eq h es]
theorem tabT_eq : ∀ (l : List Oper) (acc : Tr Nat) (L : List Nat), (∀ j, maskAt acc j = L.getD j 0) → ∀ j, maskAt (tabT l L.length acc) j = (tabD l L).getD j 0
  | [], _, _, h => h
  | o :: l, acc, L, h => by
    intro j
    have := tabT_eq l (Tr.put acc 8 L.length L.length (maskT acc o.after.toList)) (L ++ [maskD L o.after.toList]) (by
      intro j
      simp only [maskAt, Tr.get_put]
      by_cases hj : j = L.length
      · subst hj; simp [maskT_eq h]
      · have h2 := h j
        simp only [maskAt] at h2
        simp only [hj, if_false, h2, List.getD_eq_getElem?_getD]
        by_cases h3 : j < L.length
        · rw [List.getElem?_append_left h3]
        · rw [List.getElem?_eq_none (by omega), List.getElem?_eq_none (by simp; omega)]) j
    simpa [tabT, tabD] using this
def tabF (ops : List Oper) : Tr Nat := tabT ops 0 .nil
theorem tabF_eq (ops : List Oper) (j : Nat) : maskAt (tabF ops) j = (tabD ops []).getD j 0 := tabT_eq ops .nil [] (fun j => by simp [maskAt, Tr.get_nil]) j
/-! ### who lays a slot -/
def defAt (T : Tr (List Nat)) (u : Nat) : List Nat := match Tr.get T u u with | some x => x | none => []
def defsT : List Oper → Nat → Tr (List Nat) → Tr (List Nat)
  | [], _, T => T
  | o :: l, i, T => match o.dst with
    | some d => defsT l (i + 1) (Tr.put T 8 d d (i :: defAt T d))
    | none => defsT l (i + 1) T
theorem defsT_mem (u k : Nat) : ∀ (l : List Oper) (i : Nat) (T : Tr (List Nat)), k ∈ defAt (defsT l i T) u ↔ k ∈ defAt T u ∨ (∃ a o, k = i + a ∧ l[a]? = some o ∧ o.dst = some u)
  | [], i, T => by simp [defsT]
  | o :: l, i, T => by
    have step : (∃ a o', k = i + a ∧ (o :: l)[a]? = some o' ∧ o'.dst = some u) ↔ (k = i ∧ o.dst = some u) ∨ (∃ a o', k = i + 1 + a ∧ l[a]? = some o' ∧ o'.dst = some u) := by
      constructor
      · rintro ⟨a, o', h1, h2, h3⟩
        cases a with
        | zero => simp at h2; subst h2; exact .inl ⟨by omega, h3⟩
        | succ a => exact .inr ⟨a, o', by omega, by simpa using h2, h3⟩
      · rintro (⟨h1, h2⟩ | ⟨a, o', h1, h2, h3⟩)
        · exact ⟨0, o, by omega, by simp, h2⟩
        · exact ⟨a + 1, o', by omega, by simpa using h2, h3⟩
    rw [step]
    simp only [defsT]
    cases hd : o.dst with
    | none =>
      simp only
      rw [defsT_mem u k l (i + 1) T]
      simp
    | some d =>
      simp only
      rw [defsT_mem u k l (i + 1)]
      have : k ∈ defAt (Tr.put T 8 d d (i :: defAt T d)) u ↔ k ∈ defAt T u ∨ (k = i ∧ d = u) := by
        simp only [defAt, Tr.get_put]
        by_cases h : u = d
        · subst h; simp [or_comm]
        · simp [h, Ne.symm h]
      rw [this]
      simp only [Option.some.injEq]
      exact or_assoc
def defsF (ops : List Oper) : Tr (List Nat) := defsT ops 0 .nil
theorem defsF_mem (ops : List Oper) (u k : Nat) : k ∈ defAt (defsF ops) u ↔ ∃ o, ops[k]? = some o ∧ o.dst = some u := by
  have := defsT_mem u k ops 0 .nil
  simp only [defsF]
  rw [this]
  constructor
  · rintro (h | ⟨a, o, h1, h2, h3⟩)
    · simp [defAt, Tr.get_nil] at h
    · exact ⟨o, by simpa [h1] using h2, h3⟩
  · rintro ⟨o, h2, h3⟩
    exact .inr ⟨k, o, by omega, h2, h3⟩
/-! ### the heavy ones -/
def hvL (M : Tr Nat) : List Oper → Nat → List (Nat × Nat)
  | [], _ => []
  | o :: l, i => cond (Nat.beq (klass o.op) 2) ((i, maskAt M i) :: hvL M l (i + 1)) (hvL M l (i + 1))
theorem hvL_mem (M : Tr Nat) (x : Nat × Nat) : ∀ (l : List Oper) (i : Nat), x ∈ hvL M l i ↔ ∃ a o, x.1 = i + a ∧ l[a]? = some o ∧ klass o.op = 2 ∧ x.2 = maskAt M x.1
  | [], i => by simp [hvL]
  | o :: l, i => by
    have ih := hvL_mem M x l (i + 1)
    have step : (∃ a o', x.1 = i + a ∧ (o :: l)[a]? = some o' ∧ klass o'.op = 2 ∧ x.2 = maskAt M x.1) ↔ (x.1 = i ∧ klass o.op = 2 ∧ x.2 = maskAt M x.1) ∨ (∃ a o', x.1 = i + 1 + a ∧ l[a]? = some o' ∧ klass o'.op = 2 ∧ x.2 = maskAt M x.1) := by
      constructor
      · rintro ⟨a, o', h1, h2, h3⟩
        cases a with
        | zero => simp at h2; subst h2; exact .inl ⟨by omega, h3⟩
        | succ a => exact .inr ⟨a, o', by omega, by simpa using h2, h3⟩
      · rintro (⟨h1, h2⟩ | ⟨a, o', h1, h2, h3⟩)
        · exact ⟨0, o, by omega, by simp, h2⟩
        · exact ⟨a + 1, o', by omega, by simpa using h2, h3⟩
    rw [step, ← ih]
    simp only [hvL]
    by_cases hk : klass o.op = 2
    · have : Nat.beq (klass o.op) 2 = true := by rw [hk]; rfl
      rw [this]
      simp only [cond_true, List.mem_cons, hk, true_and]
      constructor
      · rintro (h | h)
        · subst h; exact .inl ⟨rfl, rfl⟩
        · exact .inr h
      · rintro (⟨h1, h2⟩ | h)
        · left; ext
          · exact h1
          · rw [h2, h1]
        · exact .inr h
    · have : Nat.beq (klass o.op) 2 = false := beq_ne hk
      rw [this]
      simp [hk]
theorem hvL_sorted (M : Tr Nat) : ∀ (l : List Oper) (i : Nat), (hvL M l i).Pairwise fun a b => a.1 < b.1
  | [], i => by simp [hvL]
  | o :: l, i => by
    have ih := hvL_sorted M l (i + 1)
    simp only [hvL]
    cases Nat.beq (klass o.op) 2 with
    | false => exact ih
    | true =>
      simp only [cond_true, List.pairwise_cons]
      refine ⟨fun x hx => ?_, ih⟩
      obtain ⟨a, o', h1, _⟩ := (hvL_mem M x l (i + 1)).1 hx
      omega
def hvF (ops : List Oper) : List (Nat × Nat) := hvL (tabF ops) ops 0
theorem hvF_mem (ops : List Oper) (x : Nat × Nat) : x ∈ hvF ops ↔ klassAt ops x.1 = 2 ∧ x.1 < ops.length ∧ x.2 = (tabD ops []).getD x.1 0 := by
  rw [hvF, hvL_mem]
  simp only [Nat.zero_add, tabF_eq, klassAt]
  constructor
  · rintro ⟨a, o, h1, h2, h3, h4⟩
    subst h1
    rw [h2]
    exact ⟨h3, (List.getElem?_eq_some_iff.1 h2).1, h4⟩
  · rintro ⟨h1, h2, h3⟩
    refine ⟨x.1, ops[x.1], rfl, List.getElem?_eq_getElem h2, ?_, h3⟩
    rw [List.getElem?_eq_getElem h2] at h1
    exact h1
def hvOk : List (Nat × Nat) → Bool
  | [] => true
  | x :: l => l.all (fun b => b.2.testBit x.1) && hvOk l
theorem hvOk_iff : ∀ {l : List (Nat × Nat)}, l.Pairwise (fun a b => a.1 < b.1) → (hvOk l = true ↔ ∀ a ∈ l, ∀ b ∈ l, a.1 < b.1 → b.2.testBit a.1 = true)
  | [], _ => by simp [hvOk]
  | x :: l, hs => by
    rw [List.pairwise_cons] at hs
    have ih := hvOk_iff hs.2
    simp only [hvOk, Bool.and_eq_true, List.all_eq_true, ih]
    constructor
    · rintro ⟨h1, h2⟩ a ha b hb hab
      rcases List.mem_cons.1 ha with e | ha'
      · subst e
        rcases List.mem_cons.1 hb with e | hb'
        · subst e; omega
        · exact h1 b hb'
      · rcases List.mem_cons.1 hb with e | hb'
        · subst e; have := hs.1 a ha'; omega
        · exact h2 a ha' b hb' hab
    · intro h
      exact ⟨fun b hb => h x (List.mem_cons_self ..) b (List.mem_cons_of_mem _ hb) (hs.1 b hb), fun a ha b hb => h a (List.mem_cons_of_mem _ ha) b (List.mem_cons_of_mem _ hb)⟩
/-! ### the static check -/
def chkJ (M : Tr Nat) (D : Tr (List Nat)) (j Tj : Nat) (us : List Tmp) : Bool :=
  us.all fun u => (defAt D u).all fun i => Nat.beq i j || cond (Nat.blt i j) (Tj.testBit i) ((maskAt M i).testBit j)
def chkAll (ops : List Oper) (M : Tr Nat) (D : Tr (List Nat)) : List Oper → Nat → Bool
  | [], _ => true
  | o :: l, j => chkJ M D j (maskAt M j) (looksL ops o ++ o.dst.toList) && chkAll ops M D l (j + 1)
theorem chkAll_iff (ops : List Oper) (M : Tr Nat) (D : Tr (List Nat)) : ∀ (l : List Oper) (j : Nat), chkAll ops M D l j = true ↔ ∀ a o, l[a]? = some o → chkJ M D (j + a) (maskAt M (j + a)) (looksL ops o ++ o.dst.toList) = true
  | [], j => by simp [chkAll]
  | o :: l, j => by
    have ih := chkAll_iff ops M D l (j + 1)
    simp only [chkAll, Bool.and_eq_true, ih]
    constructor
    · rintro ⟨h1, h2⟩ a o' h
      cases a with
      | zero => simp at h; subst h; exact h1
      | succ a =>
        have := h2 a o' (by simpa using h)
        have e : j + 1 + a = j + (a + 1) := by omega
        rwa [e] at this
    · intro h
      refine ⟨h 0 o (by simp), fun a o' ho => ?_⟩
      have := h (a + 1) o' (by simpa using ho)
      have e : j + 1 + a = j + (a + 1) := by omega
      rwa [e]
def statT (ops : List Oper) : Bool := edgesB ops 0 && (chkAll ops (tabF ops) (defsF ops) ops 0 && hvOk (hvF ops))
theorem statT_eq (ops : List Oper) : statT ops = statB ops (tabD ops []) := by
  rw [Bool.eq_iff_iff]
  simp only [statT, statB, Bool.and_eq_true, chkAll_iff, hvOk_iff (hvL_sorted _ _ _), hvF, List.all_eq_true, List.mem_range]
  have hv := hvF_mem ops
  simp only [hvF] at hv
  refine and_congr_right fun _ => ?_
  constructor
  · rintro ⟨h1, h2⟩ i hi j hj
    simp only [pairB, List.getElem?_eq_getElem hi, List.getElem?_eq_getElem hj, Bool.and_eq_true]
    refine ⟨?_, ?_⟩
    · cases hd : ops[i].dst with
      | none => rfl
      | some d =>
        simp only [Bool.or_eq_true]
        by_cases hij : i = j
        · subst hij; exact .inl (.inl (by simp))
        · by_cases hu : ((looksL ops ops[j]).contains d || ops[j].dst == some d) = true
          · right
            have hmem : d ∈ looksL ops ops[j] ++ ops[j].dst.toList := by
              simp only [Bool.or_eq_true, List.contains_iff_mem, beq_iff_eq] at hu
              simp only [List.mem_append, Option.mem_toList]
              rcases hu with h | h
              · exact .inl h
              · exact .inr h
            have := h1 j ops[j] (List.getElem?_eq_getElem hj)
            simp only [chkJ, List.all_eq_true, Nat.zero_add] at this
            have := this d hmem i ((defsF_mem ops d i).2 ⟨_, List.getElem?_eq_getElem hi, hd⟩)
            simp only [tabF_eq, Bool.or_eq_true] at this
            rcases this with h | h
            · exact absurd (Nat.eq_of_beq_eq_true h) hij
            · exact h
          · exact .inl (.inr (by simpa using hu))
    · simp only [Bool.or_eq_true]
      by_cases hc : klass ops[i].op = 2 ∧ klass ops[j].op = 2 ∧ i < j
      · right
        have := h2 (i, _) ((hv (i, (tabD ops []).getD i 0)).2 ⟨by simp only [klassAt, List.getElem?_eq_getElem hi]; exact hc.1, hi, rfl⟩) (j, _) ((hv (j, (tabD ops []).getD j 0)).2 ⟨by simp only [klassAt, List.getElem?_eq_getElem hj]; exact hc.2.1, hj, rfl⟩) hc.2.2
        exact this
      · left
        simp only [Bool.not_eq_true']
        cases hb : (Nat.beq (klass ops[i].op) 2 && Nat.beq (klass ops[j].op) 2 && Nat.blt i j) with
        | false => rfl
        | true =>
          simp only [Bool.and_eq_true] at hb
          exact absurd ⟨Nat.eq_of_beq_eq_true hb.1.1, Nat.eq_of_beq_eq_true hb.1.2, by simpa [Nat.blt_eq] using hb.2⟩ hc
  · intro h
    refine ⟨fun j y hy => ?_, ?_⟩
    · obtain ⟨hj, rfl⟩ := List.getElem?_eq_some_iff.1 hy
      simp only [chkJ, List.all_eq_true, Nat.zero_add]
      intro u hu i hi
      obtain ⟨x, hx, hd⟩ := (defsF_mem ops u i).1 hi
      obtain ⟨hi', rfl⟩ := List.getElem?_eq_some_iff.1 hx
      have := h i hi' j hj
      simp only [pairB, List.getElem?_eq_getElem hi', List.getElem?_eq_getElem hj, hd, Bool.and_eq_true] at this
      have h1 := this.1
      simp only [Bool.or_eq_true] at h1
      simp only [tabF_eq, Bool.or_eq_true]
      rcases h1 with (h1 | h1) | h1
      · exact .inl h1
      · exfalso
        simp only [List.mem_append, Option.mem_toList] at hu
        have : ((looksL ops ops[j]).contains u || ops[j].dst == some u) = true := by
          simp only [Bool.or_eq_true, List.contains_iff_mem, beq_iff_eq]
          rcases hu with g | g
          · exact .inl g
          · exact .inr g
        rw [this] at h1
        simp at h1
      · exact .inr h1
    · intro a ha b hb hab
      obtain ⟨a1, a2, a3⟩ := (hv a).1 ha
      obtain ⟨b1, b2, b3⟩ := (hv b).1 hb
      have := h a.1 a2 b.1 b2
      simp only [pairB, List.getElem?_eq_getElem a2, List.getElem?_eq_getElem b2, Bool.and_eq_true] at this
      have h2 := this.2
      simp only [klassAt, List.getElem?_eq_getElem a2] at a1
      simp only [klassAt, List.getElem?_eq_getElem b2] at b1
      rw [a1, b1] at h2
      have hlt : Nat.blt a.1 b.1 = true := by simpa [Nat.blt_eq] using hab
      rw [hlt] at h2
      simp only [befB] at h2
      rw [b3]
      simpa using h2
/-! ### what is to be looked at when the region has run -/
def firstP (p : Nat × Nat → Bool) (hs : List (Nat × Nat)) (n : Nat) : Nat := match hs.find? p with | some h => h.1 | none => n
theorem firstP_iff {p : Nat × Nat → Bool} {hs : List (Nat × Nat)} {n s : Nat} (hp : hs.Pairwise fun a b => a.1 < b.1) (hn : s ≤ n) : s ≤ firstP p hs n ↔ ∀ h ∈ hs, h.1 < s → p h = false := by
  unfold firstP
  cases hf : hs.find? p with
  | none =>
    simp only [hn, true_iff]
    intro h hh _
    have := List.find?_eq_none.1 hf h hh
    simpa using this
  | some x =>
    obtain ⟨hx, l1, l2, rfl, h1⟩ := List.find?_eq_some_iff_append.1 hf
    rw [List.pairwise_append] at hp
    simp only
    constructor
    · intro hs' h hh hlt
      rcases List.mem_append.1 hh with g | g
      · have := h1 h g; simpa using this
      · rcases List.mem_cons.1 g with rfl | g
        · omega
        · have := (List.pairwise_cons.1 hp.2.1).1 h g; omega
    · intro h
      by_cases hlt : x.1 < s
      · have := h x (by simp) hlt
        rw [this] at hx; simp at hx
      · omega
def need1I (hs : List (Nat × Nat)) (n i Ti : Nat) : List (Nat × Nat) :=
  (fun f g => (hs.map (·.1) ++ [n]).filterMap fun s => cond (Nat.ble s f && (Nat.beq s n || !(Ti.testBit s)) && !(Nat.ble i s && Nat.ble s g)) (some (i, s)) none)
    (firstP (fun h => h.2.testBit i) hs n) (firstP (fun h => Nat.ble i h.1) hs n)
def need1L (M : Tr Nat) (hs : List (Nat × Nat)) (n : Nat) : List Oper → Nat → List (Nat × Nat)
  | [], _ => []
  | o :: l, i => cond (Nat.beq (klass o.op) 0 && readsB o.op) (need1I hs n i (maskAt M i) ++ need1L M hs n l (i + 1)) (need1L M hs n l (i + 1))
def need1F (ops : List Oper) : List (Nat × Nat) := need1L (tabF ops) (hvF ops) ops.length ops 0
def need2L (hs : List (Nat × Nat)) : List Oper → Nat → List (Nat × Nat)
  | [], _ => []
  | o :: l, i => cond (Nat.beq (klass o.op) 1) ((hs.filterMap fun h => cond (Nat.blt i h.1 && !(h.2.testBit i)) (some (i, h.1)) none) ++ need2L hs l (i + 1)) (need2L hs l (i + 1))
def need2F (ops : List Oper) : List (Nat × Nat) := need2L (hvF ops) ops 0
theorem need1L_mem (M : Tr Nat) (hs : List (Nat × Nat)) (n : Nat) (x : Nat × Nat) : ∀ (l : List Oper) (i : Nat), x ∈ need1L M hs n l i ↔ ∃ a o, l[a]? = some o ∧ klass o.op = 0 ∧ readsB o.op = true ∧ x ∈ need1I hs n (i + a) (maskAt M (i + a))
  | [], i => by simp [need1L]
  | o :: l, i => by
    have ih := need1L_mem M hs n x l (i + 1)
    have step : (∃ a o', (o :: l)[a]? = some o' ∧ klass o'.op = 0 ∧ readsB o'.op = true ∧ x ∈ need1I hs n (i + a) (maskAt M (i + a))) ↔ (klass o.op = 0 ∧ readsB o.op = true ∧ x ∈ need1I hs n i (maskAt M i)) ∨ (∃ a o', l[a]? = some o' ∧ klass o'.op = 0 ∧ readsB o'.op = true ∧ x ∈ need1I hs n (i + 1 + a) (maskAt M (i + 1 + a))) := by
      constructor
      · rintro ⟨a, o', h2, h3⟩
        cases a with
        | zero => simp at h2; subst h2; exact .inl h3
        | succ a =>
          have e : i + (a + 1) = i + 1 + a := by omega
          rw [e] at h3
          exact .inr ⟨a, o', by simpa using h2, h3⟩
      · rintro (h | ⟨a, o', h2, h3⟩)
        · exact ⟨0, o, by simp, h⟩
        · have e : i + 1 + a = i + (a + 1) := by omega
          rw [e] at h3
          exact ⟨a + 1, o', by simpa using h2, h3⟩
    rw [step, ← ih]
    simp only [need1L]
    by_cases hk : klass o.op = 0 ∧ readsB o.op = true
    · have : (Nat.beq (klass o.op) 0 && readsB o.op) = true := by rw [hk.1, hk.2]; rfl
      rw [this]
      simp [hk.1, hk.2]
    · have : (Nat.beq (klass o.op) 0 && readsB o.op) = false := by
        cases hb : (Nat.beq (klass o.op) 0 && readsB o.op) with
        | false => rfl
        | true =>
          simp only [Bool.and_eq_true] at hb
          exact absurd ⟨Nat.eq_of_beq_eq_true hb.1, hb.2⟩ hk
      rw [this]
      simp only [cond_false]
      constructor
      · exact .inr
      · rintro (⟨h1, h2, _⟩ | h)
        · exact absurd ⟨h1, h2⟩ hk
        · exact h
theorem need2L_mem (hs : List (Nat × Nat)) (x : Nat × Nat) : ∀ (l : List Oper) (i : Nat), x ∈ need2L hs l i ↔ ∃ a o, l[a]? = some o ∧ klass o.op = 1 ∧ x.1 = i + a ∧ ∃ h ∈ hs, i + a < h.1 ∧ h.2.testBit (i + a) = false ∧ x.2 = h.1
  | [], i => by simp [need2L]
  | o :: l, i => by
    have ih := need2L_mem hs x l (i + 1)
    have step : (∃ a o', (o :: l)[a]? = some o' ∧ klass o'.op = 1 ∧ x.1 = i + a ∧ ∃ h ∈ hs, i + a < h.1 ∧ h.2.testBit (i + a) = false ∧ x.2 = h.1) ↔ (klass o.op = 1 ∧ x.1 = i ∧ ∃ h ∈ hs, i < h.1 ∧ h.2.testBit i = false ∧ x.2 = h.1) ∨ (∃ a o', l[a]? = some o' ∧ klass o'.op = 1 ∧ x.1 = i + 1 + a ∧ ∃ h ∈ hs, i + 1 + a < h.1 ∧ h.2.testBit (i + 1 + a) = false ∧ x.2 = h.1) := by
      constructor
      · rintro ⟨a, o', h2, h3⟩
        cases a with
        | zero => simp at h2; subst h2; exact .inl h3
        | succ a =>
          have e : i + (a + 1) = i + 1 + a := by omega
          rw [e] at h3
          exact .inr ⟨a, o', by simpa using h2, h3⟩
      · rintro (h | ⟨a, o', h2, h3⟩)
        · exact ⟨0, o, by simp, h⟩
        · have e : i + 1 + a = i + (a + 1) := by omega
          rw [e] at h3
          exact ⟨a + 1, o', by simpa using h2, h3⟩
    rw [step, ← ih]
    simp only [need2L]
    by_cases hk : klass o.op = 1
    · have : Nat.beq (klass o.op) 1 = true := by rw [hk]; rfl
      rw [this]
      simp only [cond_true, List.mem_append, List.mem_filterMap, hk, true_and]
      refine or_congr_left ?_
      constructor
      · rintro ⟨h, hh, hc⟩
        cases hb : (Nat.blt i h.1 && !(h.2.testBit i)) with
        | false => rw [hb] at hc; simp at hc
        | true =>
          rw [hb] at hc
          simp only [cond_true, Option.some.injEq] at hc
          subst hc
          simp only [Bool.and_eq_true, Bool.not_eq_true'] at hb
          exact ⟨rfl, h, hh, by simpa [Nat.blt_eq] using hb.1, hb.2, rfl⟩
      · rintro ⟨h1, h, hh, h2, h3, h4⟩
        refine ⟨h, hh, ?_⟩
        have : Nat.blt i h.1 = true := by simpa [Nat.blt_eq] using h2
        rw [this, h3]
        simp only [Bool.not_false, Bool.and_true, cond_true, Option.some.injEq]
        ext
        · exact h1.symm
        · exact h4.symm
    · have : Nat.beq (klass o.op) 1 = false := beq_ne hk
      rw [this]
      simp [hk]
theorem need2F_mem (ops : List Oper) (x : Nat × Nat) : x ∈ need2F ops ↔ x ∈ need2 ops (tabD ops []) := by
  rw [need2F, need2L_mem]
  simp only [need2, List.mem_flatMap, List.mem_range, Nat.zero_add]
  constructor
  · rintro ⟨i, o, ho, hk, h1, h, hh, h2, h3, h4⟩
    obtain ⟨hi, rfl⟩ := List.getElem?_eq_some_iff.1 ho
    obtain ⟨g1, g2, g3⟩ := (hvF_mem ops h).1 hh
    refine ⟨i, hi, ?_⟩
    have e1 : klassAt ops i = 1 := by simp only [klassAt, ho]; exact hk
    rw [e1]
    simp only [show Nat.beq 1 1 = true from rfl, cond_true, List.mem_filterMap, List.mem_range]
    refine ⟨h.1, g2, ?_⟩
    have e2 : Nat.blt i h.1 = true := by simpa [Nat.blt_eq] using h2
    have e3 : befB (tabD ops []) i h.1 = false := by simp only [befB, ← g3]; exact h3
    rw [e2, g1, e3]
    simp only [show Nat.beq 2 2 = true from rfl, Bool.and_true, Bool.not_false, cond_true, Option.some.injEq]
    ext
    · exact h1.symm
    · exact h4.symm
  · rintro ⟨i, hi, hx⟩
    cases hk : Nat.beq (klassAt ops i) 1 with
    | false => rw [hk] at hx; simp at hx
    | true =>
      rw [hk] at hx
      simp only [cond_true, List.mem_filterMap, List.mem_range] at hx
      obtain ⟨h, hh, hc⟩ := hx
      cases hb : (Nat.blt i h && Nat.beq (klassAt ops h) 2 && !(befB (tabD ops []) i h)) with
      | false => rw [hb] at hc; simp at hc
      | true =>
        rw [hb] at hc
        simp only [cond_true, Option.some.injEq] at hc
        subst hc
        simp only [Bool.and_eq_true, Bool.not_eq_true'] at hb
        have hk' := Nat.eq_of_beq_eq_true hk
        simp only [klassAt, List.getElem?_eq_getElem hi] at hk'
        refine ⟨i, ops[i], List.getElem?_eq_getElem hi, hk', rfl, (h, (tabD ops []).getD h 0), (hvF_mem ops _).2 ⟨Nat.eq_of_beq_eq_true hb.1.2, hh, rfl⟩, by simpa [Nat.blt_eq] using hb.1.1, ?_, rfl⟩
        have := hb.2
        simpa [befB] using this
theorem need1F_mem (ops : List Oper) (x : Nat × Nat) : x ∈ need1F ops ↔ x ∈ need1 ops (tabD ops []) := by
  rw [need1F, need1L_mem]
  have hsort : (hvF ops).Pairwise (fun a b => a.1 < b.1) := hvL_sorted _ _ _
  have hmem : ∀ s, s ∈ (hvF ops).map (·.1) ↔ klassAt ops s = 2 ∧ s < ops.length := by
    intro s
    simp only [List.mem_map]
    constructor
    · rintro ⟨h, hh, rfl⟩
      obtain ⟨g1, g2, g3⟩ := (hvF_mem ops h).1 hh
      exact ⟨g1, g2⟩
    · rintro ⟨g1, g2⟩
      exact ⟨(s, _), (hvF_mem ops (s, (tabD ops []).getD s 0)).2 ⟨g1, g2, rfl⟩, rfl⟩
  have hfe : ∀ i s, s ≤ ops.length → (s ≤ firstP (fun h => h.2.testBit i) (hvF ops) ops.length ↔ ((List.range s).all fun h => !(Nat.beq (klassAt ops h) 2) || !(befB (tabD ops []) i h)) = true) := by
    intro i s hs
    rw [firstP_iff hsort hs]
    simp only [List.all_eq_true, List.mem_range, Bool.or_eq_true, Bool.not_eq_true']
    constructor
    · intro h q hq
      by_cases hk : klassAt ops q = 2
      · right
        have := h (q, _) ((hvF_mem ops (q, (tabD ops []).getD q 0)).2 ⟨hk, by omega, rfl⟩) hq
        exact this
      · exact .inl (beq_ne hk)
    · intro h q hq hlt
      obtain ⟨g1, g2, g3⟩ := (hvF_mem ops q).1 hq
      rcases h q.1 hlt with g | g
      · rw [g1] at g; simp at g
      · rw [g3]; exact g
  have hne : ∀ i s, s ≤ ops.length → (s ≤ firstP (fun h => Nat.ble i h.1) (hvF ops) ops.length ↔ ((List.range s).all fun h => !(Nat.beq (klassAt ops h) 2) || Nat.blt h i) = true) := by
    intro i s hs
    rw [firstP_iff hsort hs]
    simp only [List.all_eq_true, List.mem_range, Bool.or_eq_true, Bool.not_eq_true']
    constructor
    · intro h q hq
      by_cases hk : klassAt ops q = 2
      · right
        have := h (q, _) ((hvF_mem ops (q, (tabD ops []).getD q 0)).2 ⟨hk, by omega, rfl⟩) hq
        simp only at this
        have h2 : ¬ (i ≤ q) := fun hle => by
          have hb : Nat.ble i q = true := by rw [Nat.ble_eq]; exact hle
          rw [hb] at this
          simp at this
        simp only [Nat.blt_eq]
        omega
      · exact .inl (beq_ne hk)
    · intro h q hq hlt
      obtain ⟨g1, g2, g3⟩ := (hvF_mem ops q).1 hq
      rcases h q.1 hlt with g | g
      · rw [g1] at g; simp at g
      · have h3 : q.1 < i := by simpa [Nat.blt_eq] using g
        cases hb : Nat.ble i q.1 with
        | false => rfl
        | true => have := Nat.le_of_ble_eq_true hb; omega
  have core : ∀ i s, s ≤ ops.length → (((Nat.ble s (firstP (fun h => h.2.testBit i) (hvF ops) ops.length) && (Nat.beq s ops.length || !((maskAt (tabF ops) i).testBit s)) && !(Nat.ble i s && Nat.ble s (firstP (fun h => Nat.ble i h.1) (hvF ops) ops.length))) = true ∧ (s ∈ (hvF ops).map (·.1) ∨ s = ops.length)) ↔ ((feasB ops (tabD ops []) i s && !(nextB ops i s)) = true)) := by
    intro i s hs
    have e1 := hfe i s hs
    have e2 := hne i s hs
    simp only [Bool.and_eq_true, Nat.ble_eq, e1, Bool.not_eq_true', Bool.or_eq_true, feasB, nextB, tabF_eq, befB] at e1 e2 ⊢
    have e3 : (Nat.ble i s && Nat.ble s (firstP (fun h => Nat.ble i h.1) (hvF ops) ops.length)) = (Nat.ble i s && (List.range s).all fun h => !(Nat.beq (klassAt ops h) 2) || Nat.blt h i) := by
      congr 1
      rw [Bool.eq_iff_iff, Nat.ble_eq]
      exact e2
    rw [e3, hmem]
    constructor
    · rintro ⟨⟨⟨h1, h2⟩, h3⟩, h4⟩
      refine ⟨⟨?_, h1⟩, h3⟩
      rcases h4 with h4 | h4
      · rcases h2 with h2 | h2
        · exact .inl h2
        · exact .inr ⟨by rw [h4.1]; rfl, h2⟩
      · left; rw [h4]; exact Nat.beq_refl _
    · rintro ⟨⟨h0, h1⟩, h3⟩
      rcases h0 with h0 | ⟨h0, h2⟩
      · exact ⟨⟨⟨h1, .inl h0⟩, h3⟩, .inr (Nat.eq_of_beq_eq_true h0)⟩
      · by_cases hlt : s < ops.length
        · exact ⟨⟨⟨h1, .inr h2⟩, h3⟩, .inl ⟨Nat.eq_of_beq_eq_true h0, hlt⟩⟩
        · have : s = ops.length := by omega
          exact ⟨⟨⟨h1, .inr h2⟩, h3⟩, .inr this⟩
  simp only [need1, List.mem_flatMap, List.mem_range, Nat.zero_add]
  constructor
  · rintro ⟨i, o, ho, hk, hr, hx⟩
    obtain ⟨hi, rfl⟩ := List.getElem?_eq_some_iff.1 ho
    refine ⟨i, hi, ?_⟩
    rw [ho]
    simp only [hk, hr, show Nat.beq 0 0 = true from rfl, Bool.and_true, cond_true, List.mem_filterMap, List.mem_range]
    simp only [need1I, List.mem_filterMap] at hx
    obtain ⟨s, hs, hc⟩ := hx
    cases hb : (Nat.ble s (firstP (fun h => h.2.testBit i) (hvF ops) ops.length) && (Nat.beq s ops.length || !((maskAt (tabF ops) i).testBit s)) && !(Nat.ble i s && Nat.ble s (firstP (fun h => Nat.ble i h.1) (hvF ops) ops.length))) with
    | false => rw [hb] at hc; simp at hc
    | true =>
      rw [hb] at hc
      have hs' : s ∈ (hvF ops).map (·.1) ∨ s = ops.length := by simpa using hs
      have hle : s ≤ ops.length := by
        rcases hs' with g | g
        · have := (hmem s).1 g; omega
        · omega
      refine ⟨s, by omega, ?_⟩
      rw [(core i s hle).1 ⟨hb, hs'⟩]
      exact hc
  · rintro ⟨i, hi, hx⟩
    rw [List.getElem?_eq_getElem hi] at hx
    simp only at hx
    cases hk : (Nat.beq (klass ops[i].op) 0 && readsB ops[i].op) with
    | false => rw [hk] at hx; simp at hx
    | true =>
      rw [hk] at hx
      simp only [cond_true, List.mem_filterMap, List.mem_range] at hx
      obtain ⟨s, hs, hc⟩ := hx
      simp only [Bool.and_eq_true] at hk
      refine ⟨i, ops[i], List.getElem?_eq_getElem hi, Nat.eq_of_beq_eq_true hk.1, hk.2, ?_⟩
      cases hb : (feasB ops (tabD ops []) i s && !(nextB ops i s)) with
      | false => rw [hb] at hc; simp at hc
      | true =>
        rw [hb] at hc
        obtain ⟨g1, g2⟩ := (core i s (by omega)).2 hb
        simp only [need1I, List.mem_filterMap]
        refine ⟨s, by simpa using g2, ?_⟩
        rw [g1]
        exact hc
theorem all_congr_mem {α : Type} {l l' : List α} (h : ∀ x, x ∈ l ↔ x ∈ l') (p : α → Bool) : l.all p = l'.all p := by
  rw [Bool.eq_iff_iff]
  simp only [List.all_eq_true, h]
end Go.DI
namespace Go.DI.Y
noncomputable section
variable {α : Type}
abbrev CF (α : Type) := FuncId → List Value → Mem → (Value → Mem → Option α) → Option α
abbrev OpK (α : Type) := Program → (TypeId → Bool) → Nat → CF α → Tmps → Mem → (Value → Mem → Option α) → Option α
abbrev DF := FuncId → List Value → Mem → Option (Value × Mem)
theorem onV_ob {r : Option Value} {m : Mem} {q : Value → Mem → Option α} : onV (match r with | some v => some (v, m) | none => none) q = ob r fun v => q v m := by cases r <;> rfl
def layF (r : Option (Blk × Made)) (m : Mem) (q : Value → Mem → Option α) : Option α :=
  Option.rec (motive := fun _ => Option α) none (fun p => Prod.rec (motive := fun _ => Option α) (fun x k =>
    (fun lay : Blk → Option α => Blk.rec (motive := fun _ => Option α) (lay .none) (fun o c => frcL c fun c => lay (.cells o c)) (fun o es c => lay (.map o es c)) (fun s p => lay (.siter s p)) x)
      fun x => frcN m.size fun z => pushMF m x fun m' => q (k.val z) m') p) r
theorem layF_eq (r : Option (Blk × Made)) (m : Mem) (q : Value → Mem → Option α) : layF r m q = onV (match r with | some (x, k) => some (k.val m.size, m.push x) | none => none) q := by
  cases r with
  | none => rfl
  | some p =>
    obtain ⟨x, k⟩ := p
    show (Blk.rec (motive := fun _ => Option α) _ _ _ _ x : Option α) = _
    simp only [frcL_eq, frcN_eq, pushMF_eq, fV_eq]
    cases x <;> rfl
def asNN (v : Value) (q : Value → Option α) : Option α :=
  match v with
  | .pointer (some a) => q (.pointer (some a))
  | .func (.func f) a b => q (.func (.func f) a b)
  | _ => none
section
variable (P : Program)
def storeCF (m : Mem) (b off : Nat) (vs : List Value) (q : Mem → Option α) : Option α :=
  cellsOf (getBF m b) fun o c => Bool.rec (motive := fun _ => Option α) none (spliceF c off vs fun c' => setMF m b (.cells true c') q) o
theorem storeCF_eq (m : Mem) (b off : Nat) (vs : List Value) (q : Mem → Option α) : storeCF m b off vs q = ob (storeC m b off vs) q := by
  simp only [storeCF, storeC, cellsOf_eq, getBF_eq]
  cases m.get b <;> try rfl
  rename_i o c
  cases o with
  | false => rfl
  | true =>
    simp only [spliceF_eq, setMF_eq]
    split
    · split <;> rfl
    · rfl
def storeRF (sp : Option Nat) (m : Mem) (b off : Nat) (vs : List Value) (q : Mem → Option α) : Option α := match sp with | none => storeCF m b off vs q | some _ => none
theorem storeRF_eq (sp : Option Nat) (m : Mem) (b off : Nat) (vs : List Value) (q : Mem → Option α) : storeRF sp m b off vs q = ob (storeR sp m b off vs) q := by
  cases sp with
  | none => exact storeCF_eq _ _ _ _ _
  | some _ => rfl
def appendF (m : Mem) (tS tX : TypeId) (s x : Value) (k : Value → Mem → Option α) : Option α :=
  match P.underlying tS, P.underlying tX with
  | _, some (.int _) | _, none => none
  | some (.slice e), some _ => match s, szOf P e, bytesOf P e, lenOf x with
    | .slice base sLen sCap, some size, some bytes, some n =>
      if size = 0 then none else
      match firstC m size n x with
      | some new =>
        if sLen + n ≤ sCap then
          (match base with
          | none => if n = 0 then k (.slice none (sLen + n) sCap) m else none
          | some ⟨b, off, sp⟩ => if n = 0 then k (.slice (some ⟨b, off, sp⟩) (sLen + n) sCap) m else
            storeRF sp m b (off + sLen * size) new fun m' => frcN (sLen + n) fun q => k (.slice (some ⟨b, off, sp⟩) q sCap) m')
        else if (sLen + n) * bytes ≤ 140737488355328 ∧ (sLen + n : Nat) ≤ 4611686018427387904 ∧ 0 < bytes ∧ (zerosD P e 1).isSome = true then
          match firstC m size sLen s with
          | some old =>
            if (new.all one && old.all one) = true ∧ old.length = sLen * size ∧ new.length = n * size then
            (match base with
            | some ⟨b, _, some e'⟩ => if e' = size then
                (match m.get b with
                | .cells true _ => frcL (old ++ new) fun l => frcN m.size fun z => frcN (sLen + n) fun q => pushMF m (.cells true l) fun m' => setMF m' b .none fun m' => k (.slice (some ⟨z, 0, some size⟩) q q) m'
                | _ => none)
              else none
            | _ => frcL (old ++ new) fun l => frcN m.size fun z => frcN (sLen + n) fun q => pushMF m (.cells true l) fun m' => k (.slice (some ⟨z, 0, some size⟩) q q) m') else none
          | none => none
        else none
      | none => none
    | _, _, _, _ => none
  | _, _ => none
theorem appendF_eq (m : Mem) (tS tX : TypeId) (s x : Value) (k : Value → Mem → Option α) : appendF P m tS tX s x k = onV (appendD P m tS tX s x) k := by
  unfold appendF appendD
  cases P.underlying tX with
  | none => cases P.underlying tS <;> rfl
  | some dX =>
    cases P.underlying tS with
    | none => cases dX <;> rfl
    | some dS =>
      cases dS <;> cases dX <;> try rfl
      all_goals
        simp only
        cases s <;> try rfl
        cases szOf P _ <;> try rfl
        cases bytesOf P _ <;> try rfl
        cases lenOf x <;> try rfl
        simp only
        rename_i base sLen sCap size bytes n
        by_cases h0 : size = 0
        · simp only [h0, if_true]; rfl
        · simp only [h0, if_false]
          cases firstC m size n x with
          | none => rfl
          | some new =>
            simp only
            by_cases h1 : sLen + n ≤ sCap
            · simp only [h1, if_true]
              cases base with
              | none => by_cases h2 : n = 0 <;> simp only [h2, if_true, if_false] <;> rfl
              | some ad =>
                obtain ⟨b, off, sp⟩ := ad
                simp only
                by_cases h2 : n = 0
                · simp only [h2, if_true]; rfl
                · simp only [h2, if_false, storeRF_eq]
                  cases storeR sp m b (off + sLen * size) new <;> simp only [ob_some, ob_none, onV, frcN_eq]
            · simp only [h1, if_false]
              rw [onV_ite]
              refine ite_same fun h2 => ?_
              cases firstC m size sLen _ with
              | none => rfl
              | some old =>
                  simp only
                  by_cases h3 : (new.all one && old.all one) = true ∧ old.length = sLen * size ∧ new.length = n * size
                  · rw [if_pos h3, if_pos h3]
                    cases base with
                    | none => simp only [frcL_eq, pushMF_eq, frcN_eq, onV]
                    | some ad =>
                      obtain ⟨b, off, sp⟩ := ad
                      cases sp with
                      | none => simp only [frcL_eq, pushMF_eq, frcN_eq, onV]
                      | some e' =>
                        simp only
                        by_cases h4 : e' = size
                        · simp only [h4, if_true]
                          cases m.get b with
                          | none => rfl
                          | map => rfl
                          | siter => rfl
                          | cells o c => cases o with
                            | false => rfl
                            | true => simp only [frcL_eq, pushMF_eq, setMF_eq, frcN_eq, onV]
                        · simp only [h4, if_false]; rfl
                  · rw [if_neg h3, if_neg h3]; rfl
end
def callOF (c : Call) : OpK α :=
  Call.rec (motive := fun _ => OpK α) (fun callee args tys => Callee.rec (motive := fun _ => OpK α)
    (fun f P K G cf t m q => evF f G t fun v => asFunc v fun g fs cs => evsF args.toList G t fun vs => appF vs cs fun r => appF fs r fun l => cf g l m q)
    (fun r s P K G cf t m q => onV (opD P K G (fun _ _ _ => none) t m (.call ⟨.invoke r s, args, tys⟩)) q)
    (fun b P K G cf t m q => match b with
      | .len => (match args.toList, tys.toList with
        | [x], [ty] => evF x G t fun v => frcV (lenD P m ty v) fun v => q v m
        | _, _ => none)
      | .append => (match args.toList, tys.toList with
        | [s, x], [tS, tX] => evF s G t fun s => evF x G t fun x => appendF P m tS tX s x q
        | _, _ => none)
      | b => onV (opD P K G (fun _ _ _ => none) t m (.call ⟨.builtin b, args, tys⟩)) q) callee) c
def opF (o : Op) : OpK α :=
  Op.rec (motive := fun _ => OpK α)
    (fun x P K G cf t mm q => evF x G t fun v => q v mm)
    (fun x P K G cf t mm q => evF x G t fun v => q v mm)
    (fun c a b P K G cf t mm q => evF c G t fun v => asBool v (evF a G t fun v => q v mm) (evF b G t fun v => q v mm))
    (fun e P K G cf t mm q => layF (allocD P G t (.alloc e)) mm q)
    (fun e x P K G cf t mm q => layF (allocD P G t (.box e x)) mm q)
    (fun ty ps P K G cf t mm q => onV (opD P K G (fun _ _ _ => none) t mm (.build ty ps)) q)
    (fun ty n ps P K G cf t mm q => onV (opD P K G (fun _ _ _ => none) t mm (.buildSlice ty n ps)) q)
    (fun mt m k v P K G cf t mm q => evF m G t fun x => evF k G t fun k => evF v G t fun v => mapUpdateF P K mm mt x k v fun m => q undef m)
    (fun ty a P K G cf t mm q => evF a G t fun v => loadF P mm ty v fun v => shF P ty v fun v => q v mm)
    (fun ty a x P K G cf t mm q => evF a G t fun a => evF x G t fun v => storeF P mm ty v a fun m => q undef m)
    (fun g P K G cf t mm q => onV (opD P K G (fun _ _ _ => none) t mm (.ready g)) q)
    (fun g P K G cf t mm q => onV (opD P K G (fun _ _ _ => none) t mm (.waits g)) q)
    (fun x P K G cf t mm q => evF x G t fun v => asNN v (fun v => q v mm))
    (fun op ty x y yt P K G cf t mm q => evF x G t fun x => evF y G t fun y => binF P K op ty x y fun v => q v mm)
    (fun op ty x P K G cf t mm q => evF x G t fun x => frcV (unD op x) fun v => q v mm)
    (fun a b x P K G cf t mm q => onV (opD P K G (fun _ _ _ => none) t mm (.convert a b x)) q)
    (fun d x P K G cf t mm q => onV (opD P K G (fun _ _ _ => none) t mm (.sliceToArrayPointer d x)) q)
    (fun ty x P K G cf t mm q => onV (opD P K G (fun _ _ _ => none) t mm (.makeInterface ty x)) q)
    (fun fn a b P K G cf t mm q => onV (opD P K G (fun _ _ _ => none) t mm (.makeFunc fn a b)) q)
    (fun ty r P K G cf t mm q => onV (opD P K G (fun _ _ _ => none) t mm (.makeMap ty r)) q)
    (fun ty s P K G cf t mm q => onV (opD P K G (fun _ _ _ => none) t mm (.makeChan ty s)) q)
    (fun ty l c P K G cf t mm q => onV (opD P K G (fun _ _ _ => none) t mm (.makeSlice ty l c)) q)
    (fun ty x l h mx P K G cf t mm q => onV (opD P K G (fun _ _ _ => none) t mm (.slice ty x l h mx)) q)
    (fun s x f P K G cf t mm q => evF x G t fun v => fieldAddrF P s f v fun v => q v mm)
    (fun s x f P K G cf t mm q => evF x G t fun v => fieldF P s f v fun v => q v mm)
    (fun ty x i P K G cf t mm q => evF x G t fun x => evF i G t fun i => indexAddrF P ty x i fun v => q v mm)
    (fun ty x i P K G cf t mm q => onV (opD P K G (fun _ _ _ => none) t mm (.index ty x i)) q)
    (fun ty x k ok P K G cf t mm q => evF x G t fun x => evF k G t fun k => lookupF P K mm ty x k ok fun v => q v mm)
    (fun mt m k v P K G cf t mm q => evF m G t fun x => evF k G t fun k => evF v G t fun v => mapUpdateF P K mm mt x k v fun m => q undef m)
    (fun mt m k P K G cf t mm q => onV (opD P K G (fun _ _ _ => none) t mm (.mapEntry mt m k)) q)
    (fun mt m s v P K G cf t mm q => onV (opD P K G (fun _ _ _ => none) t mm (.entryStore mt m s v)) q)
    (fun ty x P K G cf t mm q => onV (opD P K G (fun _ _ _ => none) t mm (.range ty x)) q)
    (fun i s P K G cf t mm q => onV (opD P K G (fun _ _ _ => none) t mm (.next i s)) q)
    (fun i P K G cf t mm q => onV (opD P K G (fun _ _ _ => none) t mm (.entry i)) q)
    (fun x a b ok P K G cf t mm q => onV (opD P K G (fun _ _ _ => none) t mm (.typeAssert x a b ok)) q)
    (fun x i P K G cf t mm q => evF x G t fun v => asTup v fun vs => nthF vs.toList i fun v => q v mm)
    (fun c P K G cf t mm q => callOF c P K G cf t mm q)
    (fun c P K G cf t mm q => onV (opD P K G (fun _ _ _ => none) t mm (.go c)) q)
    (fun c P K G cf t mm q => onV (opD P K G (fun _ _ _ => none) t mm (.defer c)) q)
    (fun x P K G cf t mm q => onV (opD P K G (fun _ _ _ => none) t mm (.panic x)) q)
    (fun c x P K G cf t mm q => onV (opD P K G (fun _ _ _ => none) t mm (.send c x)) q)
    (fun ct c ok P K G cf t mm q => onV (opD P K G (fun _ _ _ => none) t mm (.recv ct c ok)) q)
    (fun cs b P K G cf t mm q => onV (opD P K G (fun _ _ _ => none) t mm (.select cs b)) q)
    o
section
variable {P : Program} {K : TypeId → Bool} {G : Nat} {cf : CF α} {df : DF} {t : Tmps} {m : Mem} {q : Value → Mem → Option α}
theorem quiet_on {o : Op} (h : klass o = 0) : onV (opD P K G df t m o) q = ob (quietD P K G t m o) fun v => q v m := by
  simp only [opD, h]; exact onV_ob
theorem alloc_on {o : Op} (h : klass o = 1) : onV (opD P K G df t m o) q = layF (allocD P G t o) m q := by
  simp only [opD, h, layF_eq]
  cases allocD P G t o <;> rfl
theorem heavy_on {o : Op} (h : klass o = 2) : onV (opD P K G df t m o) q = onV (heavyD P K G df t m o) q := by
  simp only [opD, h]
theorem callOF_eq (hcf : ∀ f a m (q : Value → Mem → Option α), cf f a m q = onV (df f a m) q) (c : Call) : callOF c P K G cf t m q = onV (opD P K G df t m (.call c)) q := by
  obtain ⟨callee, args, tys⟩ := c
  cases callee with
  | invoke r s =>
    rfl
  | value f =>
    rw [heavy_on rfl]
    show (evF f G t fun v => asFunc v fun g fs cs => evsF args.toList G t fun vs => appF vs cs fun r => appF fs r fun l => cf g l m q) = _
    simp only [evF_eq, evsF_eq, appF_eq, heavyD]
    cases ev G t f with
    | none => rfl
    | some v =>
      simp only [ob_some]
      cases v <;> try rfl
      rename_i fn a b
      cases fn <;> try rfl
      show ob (evs G t args.toList) _ = _
      simp only [hcf]
      cases evs G t args.toList <;> rfl
  | builtin b =>
    cases b <;> try rfl
    · rw [heavy_on rfl]
      show (match args.toList, tys.toList with | [s, x], [tS, tX] => evF s G t fun s => evF x G t fun x => appendF P m tS tX s x q | _, _ => none) = _
      simp only [heavyD]
      generalize args.toList = A
      generalize tys.toList = T
      rcases A with _ | ⟨s, _ | ⟨x, _ | ⟨y, A⟩⟩⟩ <;> rcases T with _ | ⟨tS, _ | ⟨tX, _ | ⟨c, T⟩⟩⟩ <;> try rfl
      simp only [evF_eq]
      cases ev G t s with
      | none => rfl
      | some s =>
        simp only [ob_some]
        cases ev G t x with
        | none => rfl
        | some x => exact appendF_eq _ _ _ _ _ _ _
    · rw [quiet_on rfl]
      show (match args.toList, tys.toList with | [x], [ty] => evF x G t fun v => frcV (lenD P m ty v) fun v => q v m | _, _ => none) = _
      simp only [quietD]
      generalize args.toList = A
      generalize tys.toList = T
      rcases A with _ | ⟨x, _ | ⟨y, A⟩⟩ <;> rcases T with _ | ⟨ty, _ | ⟨c, T⟩⟩ <;> try rfl
      simp only [evF_eq, frcV_eq]
      cases ev G t x <;> rfl
theorem opF_eq (hcf : ∀ f a m (q : Value → Mem → Option α), cf f a m q = onV (df f a m) q) (o : Op) : opF o P K G cf t m q = onV (opD P K G df t m o) q := by
  cases o <;> try rfl
  case move x => rw [quiet_on rfl]; exact evF_eq _ _ _ _
  case assign x => rw [quiet_on rfl]; exact evF_eq _ _ _ _
  case pick c a b =>
    rw [quiet_on rfl]
    refine (evF_eq _ _ _ _).trans ?_
    simp only [quietD]
    cases ev G t c with
    | none => rfl
    | some v =>
      simp only [ob_some]
      cases v <;> try rfl
      rename_i b'
      cases b'
      · exact evF_eq _ _ _ _
      · exact evF_eq _ _ _ _
  case alloc e => rw [alloc_on rfl]; rfl
  case box e x => rw [alloc_on rfl]; rfl
  case load ty a =>
    rw [quiet_on rfl]
    refine (evF_eq _ _ _ _).trans ?_
    simp only [quietD]
    cases ev G t a with
    | none => rfl
    | some v =>
      simp only [ob_some, loadF_eq, shF_eq]
      cases loadD P m ty v with
      | none => rfl
      | some u => rfl
  case store ty a x =>
    rw [heavy_on rfl]
    refine (evF_eq _ _ _ _).trans ?_
    simp only [heavyD]
    cases ev G t a with
    | none => rfl
    | some a =>
      simp only [ob_some]
      refine (evF_eq _ _ _ _).trans ?_
      cases ev G t x with
      | none => rfl
      | some x =>
        simp only [ob_some]
        refine (storeF_eq _ _ _ _ _ _).trans ?_
        cases storeD P m ty x a <;> rfl
  case nilCheck x =>
    rw [quiet_on rfl]
    refine (evF_eq _ _ _ _).trans ?_
    simp only [quietD]
    cases ev G t x with
    | none => rfl
    | some v =>
      simp only [ob_some]
      cases v <;> try rfl
      · rename_i a; cases a <;> rfl
      · rename_i fn _ _; cases fn <;> rfl
  case binOp op ty x y yt =>
    rw [quiet_on rfl]
    refine (evF_eq _ _ _ _).trans ?_
    simp only [quietD]
    cases ev G t x with
    | none => rfl
    | some x =>
      simp only [ob_some]
      refine (evF_eq _ _ _ _).trans ?_
      cases ev G t y with
      | none => rfl
      | some y => exact binF_eq _ _ _ _ _ _ _
  case unOp op ty x =>
    rw [quiet_on rfl]
    refine (evF_eq _ _ _ _).trans ?_
    simp only [quietD]
    cases ev G t x with
    | none => rfl
    | some x =>
      simp only [ob_some]
      exact frcV_eq _ _
  case fieldAddr s x f =>
    rw [quiet_on rfl]
    refine (evF_eq _ _ _ _).trans ?_
    simp only [quietD]
    cases ev G t x with
    | none => rfl
    | some x =>
      simp only [ob_some]
      exact fieldAddrF_eq _ _ _ _ _
  case field s x f =>
    rw [quiet_on rfl]
    refine (evF_eq _ _ _ _).trans ?_
    simp only [quietD]
    cases ev G t x with
    | none => rfl
    | some x =>
      simp only [ob_some]
      exact fieldF_eq _ _ _ _ _
  case indexAddr ty x i =>
    rw [quiet_on rfl]
    refine (evF_eq _ _ _ _).trans ?_
    simp only [quietD]
    cases ev G t x with
    | none => rfl
    | some x =>
      simp only [ob_some]
      refine (evF_eq _ _ _ _).trans ?_
      cases ev G t i with
      | none => rfl
      | some i => exact indexAddrF_eq _ _ _ _ _
  case extract x i =>
    rw [quiet_on rfl]
    refine (evF_eq _ _ _ _).trans ?_
    simp only [quietD]
    cases ev G t x with
    | none => rfl
    | some v =>
      simp only [ob_some]
      cases v <;> try rfl
      exact nthF_eq _ _ _
  case lookup ty x k ok =>
    rw [quiet_on rfl]
    refine (evF_eq _ _ _ _).trans ?_
    simp only [quietD]
    cases ev G t x with
    | none => rfl
    | some x =>
      simp only [ob_some]
      refine (evF_eq _ _ _ _).trans ?_
      cases ev G t k with
      | none => rfl
      | some k => exact lookupF_eq _ _ _ _ _ _ _ _
  case mapUpdate ty x k y =>
    rw [heavy_on rfl]
    refine (evF_eq _ _ _ _).trans ?_
    simp only [heavyD]
    cases ev G t x with
    | none => rfl
    | some x =>
      simp only [ob_some]
      refine (evF_eq _ _ _ _).trans ?_
      cases ev G t k with
      | none => rfl
      | some k =>
        simp only [ob_some]
        refine (evF_eq _ _ _ _).trans ?_
        cases ev G t y with
        | none => rfl
        | some y =>
          simp only [ob_some]
          refine (mapUpdateF_eq _ _ _ _ _ _ _ _).trans ?_
          cases mapUpdateD P K m ty x k y <;> rfl
  case insert ty x k y =>
    rw [heavy_on rfl]
    refine (evF_eq _ _ _ _).trans ?_
    simp only [heavyD]
    cases ev G t x with
    | none => rfl
    | some x =>
      simp only [ob_some]
      refine (evF_eq _ _ _ _).trans ?_
      cases ev G t k with
      | none => rfl
      | some k =>
        simp only [ob_some]
        refine (evF_eq _ _ _ _).trans ?_
        cases ev G t y with
        | none => rfl
        | some y =>
          simp only [ob_some]
          refine (mapUpdateF_eq _ _ _ _ _ _ _ _).trans ?_
          cases mapUpdateD P K m ty x k y <;> rfl
  case call c => exact callOF_eq hcf c
end
/-! ### regions -/
def dstF (n : Nat) (d : Option Tmp) : Bool := Option.rec (motive := fun _ => Bool) true (fun d => Nat.blt d n) d
theorem dstF_eq (n : Nat) (d : Option Tmp) : dstF n d = dstOk n d := by
  cases d with
  | none => rfl
  | some d =>
    show Nat.blt d n = decide (d < n)
    rw [Bool.eq_iff_iff]; simp [Nat.blt_eq]
def putOF (t : Tmps) (d : Option Tmp) (v : Value) (q : Tmps → Option α) : Option α := Option.rec (motive := fun _ => Option α) (q t) (fun d => setTF t d v q) d
theorem putOF_eq (t : Tmps) (d : Option Tmp) (v : Value) (q : Tmps → Option α) : putOF t d v q = q (putD t d v) := by
  cases d with
  | none => rfl
  | some d => exact setTF_eq _ _ _ _
def nthO (l : List Oper) : Nat → Option Oper :=
  List.rec (motive := fun _ => Nat → Option Oper) (fun _ => none) (fun a _ ih i => Nat.rec (motive := fun _ => Option Oper) (some a) (fun i' _ => ih i') i) l
theorem nthO_eq : ∀ (l : List Oper) (i : Nat), nthO l i = l[i]?
  | [], i => by simp; rfl
  | a :: l, 0 => rfl
  | a :: l, i + 1 => by
    have := nthO_eq l i
    rw [List.getElem?_cons_succ]
    exact this
def boolF (t : Tmps) (d : Nat) (w : Bool) : Bool :=
  (fun v => cond (isB v) (Bool.rec (motive := fun _ => Bool) (not w) w (theB v)) false) (Option.rec (motive := fun _ => Value) undef (fun v => v) (getF t d d))
theorem boolF_eq (t : Tmps) (d : Nat) (w : Bool) : boolF t d w = ((match t.at d with | .bool b => some b | _ => none) == some w) := by
  have e : Option.rec (motive := fun _ => Value) undef (fun v => v) (getF t d d) = t.at d := by
    unfold Tmps.at
    rw [getF_eq]
    cases Tr.get t d d <;> rfl
  unfold boolF
  rw [e]
  cases t.at d <;> try rfl
  rename_i b
  cases b <;> cases w <;> rfl
def wantF (o : Oper) (ops : List Oper) (t : Tmps) : Bool :=
  Option.rec (motive := fun _ => Bool) true (fun g => Prod.rec (motive := fun _ => Bool) (fun j w => Option.rec (motive := fun _ => Bool) false (fun o' => Option.rec (motive := fun _ => Bool) false (fun d => boolF t d w) o'.dst) (nthO ops j)) g) o.guard
theorem wantF_eq (o : Oper) (ops : List Oper) (t : Tmps) : wantF o ops t = Region.wanted o (yieldD ops t) := by
  unfold wantF Region.wanted
  cases h : o.guard with
  | none => rfl
  | some g =>
    obtain ⟨j, w⟩ := g
    simp only [nthO_eq, yieldD]
    cases ops[j]? with
    | none => rfl
    | some o' =>
      simp only
      cases o'.dst with
      | none => rfl
      | some d => exact boolF_eq t d w
abbrev OpsK (α : Type) := Program → (TypeId → Bool) → Nat → CF α → Nat → List Oper → Tmps → Mem → (Tmps → Mem → Option α) → Option α
def opsF (l : List Oper) : OpsK α :=
  List.rec (motive := fun _ => OpsK α) (fun _ _ _ _ _ _ t m q => q t m)
    (fun o _ ih P K G cf n ops t m q => Bool.rec (motive := fun _ => Option α) none (Bool.rec (motive := fun _ => Option α) (putOF t o.dst undef fun t' => ih P K G cf n ops t' m q)
      (opF o.op P K G cf t m fun v m' => putOF t o.dst v fun t' => ih P K G cf n ops t' m' q) (wantF o ops t)) (dstF n o.dst)) l
def onT {β : Type} (r : Option (Tmps × Mem)) (q : Tmps → Mem → Option β) : Option β := match r with | some (t, m) => q t m | none => none
theorem opsF_eq (P : Program) (K : TypeId → Bool) (G : Nat) (cf : CF α) (df : DF) (hcf : ∀ f a m (q : Value → Mem → Option α), cf f a m q = onV (df f a m) q) (n : Nat) (ops : List Oper) (q : Tmps → Mem → Option α) : ∀ (l : List Oper) (t : Tmps) (m : Mem),
    opsF l P K G cf n ops t m q = onT (opsD P K G df n ops l t m) q
  | [], t, m => rfl
  | o :: l, t, m => by
    have ih := opsF_eq P K G cf df hcf n ops q l
    show Bool.rec (motive := fun _ => Option α) none (Bool.rec (motive := fun _ => Option α) (putOF t o.dst undef fun t' => opsF l P K G cf n ops t' m q)
      (opF o.op P K G cf t m fun v m' => putOF t o.dst v fun t' => opsF l P K G cf n ops t' m' q) (wantF o ops t)) (dstF n o.dst) = _
    simp only [putOF_eq, ih, opF_eq hcf, wantF_eq, dstF_eq, opsD]
    cases dstOk n o.dst with
    | false => rfl
    | true =>
      cases Region.wanted o (yieldD ops t) with
      | false => rfl
      | true =>
        simp only [if_true]
        cases opD P K G df t m o.op with
        | none => rfl
        | some r => rfl
abbrev RecK (α : Type) := Program → (TypeId → Bool) → Nat → CF α → Nat → List Oper → Tmps → Mem → (List Rec → Tmps → Mem → Option α) → Option α
def recF (l : List Oper) : RecK α :=
  List.rec (motive := fun _ => RecK α) (fun _ _ _ _ _ _ t m q => q [] t m)
    (fun o _ ih P K G cf n ops t m q => Bool.rec (motive := fun _ => Option α) none (Bool.rec (motive := fun _ => Option α) (putOF t o.dst undef fun t' => ih P K G cf n ops t' m fun rs t' m'' => q (⟨false, undef, t, m⟩ :: rs) t' m'')
      (opF o.op P K G cf t m fun v m' => putOF t o.dst v fun t' => ih P K G cf n ops t' m' fun rs t' m'' => q (⟨true, v, t, m⟩ :: rs) t' m'') (wantF o ops t)) (dstF n o.dst)) l
def onR (r : Option (List Rec × Tmps × Mem)) (q : List Rec → Tmps → Mem → Option α) : Option α := match r with | some (rs, t, m) => q rs t m | none => none
theorem recF_eq (P : Program) (K : TypeId → Bool) (G : Nat) (cf : CF α) (df : DF) (hcf : ∀ f a m (q : Value → Mem → Option α), cf f a m q = onV (df f a m) q) (n : Nat) (ops : List Oper) : ∀ (l : List Oper) (t : Tmps) (m : Mem) (q : List Rec → Tmps → Mem → Option α),
    recF l P K G cf n ops t m q = onR (recD P K G df n ops l t m) q
  | [], t, m, q => rfl
  | o :: l, t, m, q => by
    have ih := recF_eq P K G cf df hcf n ops l
    show Bool.rec (motive := fun _ => Option α) none (Bool.rec (motive := fun _ => Option α) (putOF t o.dst undef fun t' => recF l P K G cf n ops t' m fun rs t' m'' => q (⟨false, undef, t, m⟩ :: rs) t' m'')
      (opF o.op P K G cf t m fun v m' => putOF t o.dst v fun t' => recF l P K G cf n ops t' m' fun rs t' m'' => q (⟨true, v, t, m⟩ :: rs) t' m'') (wantF o ops t)) (dstF n o.dst) = _
    simp only [putOF_eq, ih, opF_eq hcf, wantF_eq, dstF_eq, recD]
    cases dstOk n o.dst with
    | false => rfl
    | true =>
      cases Region.wanted o (yieldD ops t) with
      | false =>
        simp only [if_true]
        cases recD P K G df n ops l (putD t o.dst undef) m <;> rfl
      | true =>
        simp only [if_true]
        cases opD P K G df t m o.op with
        | none => rfl
        | some r =>
          obtain ⟨v, m'⟩ := r
          simp only [onV]
          cases recD P K G df n ops l (putD t o.dst v) m' <;> rfl
def vqK (v' v : Value) (q : Option α) : Option α :=
  (fun g => asInt v' (fun k n => asInt v (fun k' n' => Bool.rec (motive := fun _ => Option α) g (Bool.rec (motive := fun _ => Option α) none q (eqF n n')) (kEq k k')) g) g) (Bool.rec (motive := fun _ => Option α) none q (veq 8 v' v))
theorem cond_rec (b : Bool) (q : Option α) : Bool.rec (motive := fun _ => Option α) none q b = cond b q none := by cases b <;> rfl
theorem vqK_eq (v' v : Value) (q : Option α) : vqK v' v q = cond (veq 8 v' v) q none := by
  unfold vqK
  refine Eq.trans ?_ (cond_rec (veq 8 v' v) q)
  cases v' <;> try rfl
  cases v <;> try rfl
  rename_i k a k' b
  rw [cond_rec (veq 8 (.int k a) (.int k' b)) q]
  show Bool.rec (motive := fun _ => Option α) _ (Bool.rec (motive := fun _ => Option α) none q (eqF a b)) (kEq k k') = _
  rw [kEq_eq, eqF_eq]
  show _ = cond (decide (k = k') && decide (a = b)) q none
  have hab : (a == b) = decide (a = b) := by rw [Bool.eq_iff_iff]; simp
  rw [hab]
  by_cases h : k = k'
  · subst h
    rw [decide_eq_true rfl, Bool.true_and]
    exact cond_rec _ _
  · rw [decide_eq_false h, Bool.false_and]
    have hv : veq 8 (.int k a) (.int k' b) = false := by show (decide (k = k') && decide (a = b)) = false; rw [decide_eq_false h]; rfl
    simp only [hv]
    try rfl
def chkF (P : Program) (K : TypeId → Bool) (G : Nat) (ops : List Oper) (rs : List Rec) (m' : Mem) (x : Nat × Nat) (q : Option α) : Option α :=
  match rs[x.1]?, ops[x.1]? with
  | some r, some o => Bool.rec (motive := fun _ => Option α) q (match o.op with
      | .load ty a => evF a G r.t fun v => loadF P (mAt rs m' x.2) ty v fun v => shF P ty v fun v' => vqK v' r.v q
      | _ => Bool.rec (motive := fun _ => Option α) none q (chk1 P K G ops rs m' x)) r.want
  | _, _ => none
theorem chkF_eq (P : Program) (K : TypeId → Bool) (G : Nat) (ops : List Oper) (rs : List Rec) (m' : Mem) (x : Nat × Nat) (q : Option α) : chkF P K G ops rs m' x q = cond (chk1 P K G ops rs m' x) q none := by
  unfold chkF
  have hc : chk1 P K G ops rs m' x = (match rs[x.1]?, ops[x.1]? with
    | some r, some o => !r.want || (match quietD P K G r.t (mAt rs m' x.2) o.op with | some v => veq 8 v r.v | none => false)
    | _, _ => false) := rfl
  cases hr : rs[x.1]? with
  | none => rw [hr] at hc; rw [hc]; rfl
  | some r =>
    cases ho : ops[x.1]? with
    | none => rw [hr, ho] at hc; rw [hc]; rfl
    | some o =>
      rw [hr, ho] at hc
      simp only at hc ⊢
      cases hw : r.want with
      | false => rw [hc, hw]; rfl
      | true =>
        simp only
        have hg : Bool.rec (motive := fun _ => Option α) none q (chk1 P K G ops rs m' x) = cond (chk1 P K G ops rs m' x) q none := cond_rec _ _
        cases hop : o.op <;> try exact hg
        rename_i ty a
        rw [hc, hw, hop]
        simp only [evF_eq, loadF_eq, shF_eq, vqK_eq, quietD, Bool.not_true, Bool.false_or]
        cases ev G r.t a with
        | none => rfl
        | some v =>
          simp only [ob_some]
          cases loadD P (mAt rs m' x.2) ty v with
          | none => rfl
          | some u =>
            simp only [ob_some, shD]
            cases shp P ty u <;> rfl
def chksF (P : Program) (K : TypeId → Bool) (G : Nat) (ops : List Oper) (rs : List Rec) (m' : Mem) (l : List (Nat × Nat)) (q : Option α) : Option α :=
  List.rec (motive := fun _ => Option α) q (fun x _ ih => chkF P K G ops rs m' x ih) l
theorem chksF_eq (P : Program) (K : TypeId → Bool) (G : Nat) (ops : List Oper) (rs : List Rec) (m' : Mem) : ∀ (l : List (Nat × Nat)) (q : Option α), chksF P K G ops rs m' l q = cond (l.all (chk1 P K G ops rs m')) q none
  | [], q => rfl
  | x :: l, q => by
    have ih := chksF_eq P K G ops rs m' l q
    show chkF P K G ops rs m' x (chksF P K G ops rs m' l q) = _
    rw [chkF_eq, ih, List.all_cons]
    cases chk1 P K G ops rs m' x <;> rfl
def drawF (P : Program) (K : TypeId → Bool) (G : Nat) (cf : CF α) (n : Nat) (ops : List Oper) (t : Tmps) (m : Mem) (q : Tmps → Mem → Option α) : Option α :=
  Bool.rec (motive := fun _ => Option α) none (recF ops P K G cf n ops t m fun rs t' m' => chksF P K G ops rs m' (need1F ops) (Bool.rec (motive := fun _ => Option α) none (q t' m')
    ((need2F ops).all (chk2 rs m')))) (statT ops)
theorem drawF_eq (P : Program) (K : TypeId → Bool) (G : Nat) (cf : CF α) (df : DF) (hcf : ∀ f a m (q : Value → Mem → Option α), cf f a m q = onV (df f a m) q) (n : Nat) (ops : List Oper) (t : Tmps) (m : Mem) (q : Tmps → Mem → Option α) : drawF P K G cf n ops t m q = onT (drawD P K G df n ops t m) q := by
  unfold drawF drawD
  simp only [recF_eq P K G cf df hcf, statT_eq, chksF_eq, all_congr_mem (need1F_mem ops), all_congr_mem (need2F_mem ops)]
  cases statB ops (tabD ops []) with
  | false => rfl
  | true =>
    simp only [if_true]
    cases recD P K G df n ops ops t m with
    | none => rfl
    | some r =>
      obtain ⟨rs, t', m'⟩ := r
      simp only [onR]
      cases (need1 ops (tabD ops [])).all (chk1 P K G ops rs m') with
      | false => rfl
      | true => cases (need2 ops (tabD ops [])).all (chk2 rs m') <;> rfl
/-! ### code -/
abbrev ExK (α : Type) := Ex → Tmps → Mem → Option α
def onE (r : Option (Ex × Tmps × Mem)) (q : ExK α) : Option α := match r with | some (e, t, m) => q e t m | none => none
def loopF (body : Tmps → Mem → ExK α → Option α) (k : Nat) : Tmps → Mem → ExK α → Option α :=
  Nat.rec (motive := fun _ => Tmps → Mem → ExK α → Option α) (fun _ _ _ => none) (fun _ ih t m q => body t m fun e t' m' => Ex.rec (motive := fun _ => Option α) (ih t' m' q) (fun id => q (.exit id) t' m') (q .ret t' m') e) k
theorem loopF_eq {body : Tmps → Mem → ExK α → Option α} {b : Tmps → Mem → Option (Ex × Tmps × Mem)} (hb : ∀ t m q, body t m q = onE (b t m) q) : ∀ (k : Nat) (t : Tmps) (m : Mem) (q : ExK α), loopF body k t m q = onE (loopD b k t m) q
  | 0, t, m, q => rfl
  | k + 1, t, m, q => by
    have ih := loopF_eq hb k
    show (body t m fun e t' m' => Ex.rec (motive := fun _ => Option α) (loopF body k t' m' q) (fun id => q (.exit id) t' m') (q .ret t' m') e) = _
    simp only [hb, ih, loopD]
    cases b t m with
    | none => rfl
    | some r =>
      obtain ⟨e, t', m'⟩ := r
      cases e <;> rfl
abbrev LK (α : Type) := (Tmps → Mem → ExK α → Option α) → Code → Nat → Tmps → Mem → ExK α → Option α
abbrev CodeK (α : Type) := Program → (TypeId → Bool) → Nat → CF α → LK α → Nat → Nat → Tmps → Mem → ExK α → Option α
def codeF (c : Code) : CodeK α :=
  Code.rec (motive := fun _ => CodeK α)
    (fun _ _ _ _ _ _ _ t m q => q .normal t m)
    (fun _ ops draw P K G cf _ n _ t m q => Bool.rec (motive := fun _ => Option α) (opsF ops.toList P K G cf n ops.toList t m fun t m => q .normal t m) (drawF P K G cf n ops.toList t m fun t m => q .normal t m) draw)
    (fun _ _ ia ib P K G cf L n k t m q => ia P K G cf L n k t m fun e t m => Ex.rec (motive := fun _ => Option α) (ib P K G cf L n k t m q) (fun id => q (.exit id) t m) (q .ret t m) e)
    (fun c _ _ ix iy P K G cf L n k t m q => evF c G t fun v => asBool v (ix P K G cf L n k t m q) (iy P K G cf L n k t m q))
    (fun id _ ib P K G cf L n k t m q => ib P K G cf L n k t m fun e t m => Ex.rec (motive := fun _ => Option α) (q .normal t m) (fun id' => Bool.rec (motive := fun _ => Option α) (q (.exit id') t m) (q .normal t m) (Nat.beq id' id)) (q .ret t m) e)
    (fun c ib P K G cf L n k t m q => L (fun t m q => ib P K G cf L n k t m q) c k t m q)
    (fun _ _ _ _ _ _ _ _ _ _ _ _ _ _ _ _ => none)
    (fun id _ _ _ _ _ _ _ t m q => q (.exit id) t m)
    (fun _ _ _ _ _ _ _ _ _ _ _ _ => none)
    (fun _ _ _ _ _ _ _ _ t m q => q .normal t m)
    (fun _ _ _ _ _ _ _ _ _ _ _ => none)
    (fun _ _ _ _ _ _ _ t m q => q .ret t m)
    (fun _ _ _ _ _ _ _ _ _ _ _ => none)
    c
theorem codeF_eq (P : Program) (K : TypeId → Bool) (G : Nat) (cf : CF α) (df : DF) (hcf : ∀ f a m (q : Value → Mem → Option α), cf f a m q = onV (df f a m) q) (L : LK α) (n k : Nat) (hL : ∀ (body : Tmps → Mem → ExK α → Option α) (c : Code) (t : Tmps) (m : Mem) (q : ExK α), (∀ t m q, body t m q = onE (codeD P K G df (drawD P K G df n) n k c t m) q) → L body c k t m q = onE (loopD (codeD P K G df (drawD P K G df n) n k c) k t m) q) : ∀ (c : Code) (t : Tmps) (m : Mem) (q : ExK α), codeF c P K G cf L n k t m q = onE (codeD P K G df (drawD P K G df n) n k c t m) q := by
  intro c
  induction c with
  | skip => intros; rfl
  | label l => intros; rfl
  | region id ops draw =>
    intro t m q
    show Bool.rec (motive := fun _ => Option α) (opsF ops.toList P K G cf n ops.toList t m fun t m => q .normal t m) (drawF P K G cf n ops.toList t m fun t m => q .normal t m) draw = _
    rw [opsF_eq P K G cf df hcf, drawF_eq P K G cf df hcf]
    simp only [codeD]
    cases draw with
    | false =>
      simp only [cond_false]
      cases opsD P K G df n ops.toList ops.toList t m <;> rfl
    | true =>
      simp only [cond_true]
      cases drawD P K G df n ops.toList t m <;> rfl
  | seq a b iha ihb =>
    intro t m q
    refine (iha t m _).trans ?_
    simp only [codeD]
    cases codeD P K G df (drawD P K G df n) n k a t m with
    | none => rfl
    | some r =>
      obtain ⟨e, t', m'⟩ := r
      cases e with
      | normal => exact ihb t' m' q
      | exit id => rfl
      | ret => rfl
  | cond c x y ihx ihy =>
    intro t m q
    refine (evF_eq _ _ _ _).trans ?_
    simp only [codeD]
    cases ev G t c with
    | none => rfl
    | some v =>
      simp only [ob_some]
      cases v <;> try rfl
      rename_i b
      cases b with
      | true => exact ihx t m q
      | false => exact ihy t m q
  | block id c ih =>
    intro t m q
    refine (ih t m _).trans ?_
    simp only [codeD]
    cases codeD P K G df (drawD P K G df n) n k c t m with
    | none => rfl
    | some r =>
      obtain ⟨e, t', m'⟩ := r
      cases e with
      | normal => rfl
      | ret => rfl
      | exit id' =>
        show Bool.rec (motive := fun _ => Option α) (q (.exit id') t' m') (q .normal t' m') (Nat.beq id' id) = _
        rw [beqN]
        simp only
        by_cases h : id' = id
        · rw [decide_eq_true h, if_pos h]; rfl
        · rw [decide_eq_false h, if_neg h]; rfl
  | loop c ih =>
    intro t m q
    exact hL _ c t m q fun t m q => ih t m q
  | exit id => intros; rfl
  | ret => intros; rfl
  | rangeFunc => intros; rfl
  | scope => intros; rfl
  | goto => intros; rfl
  | refuse => intros; rfl
def resF (l : List ResultVar) : Program → Tmps → Mem → (List Value → Option α) → Option α :=
  List.rec (motive := fun _ => Program → Tmps → Mem → (List Value → Option α) → Option α) (fun _ _ _ q => q [])
    (fun r _ ih P t m q => match r with
      | .tmp d => getTF t d fun v => ih P t m fun vs => q (v :: vs)
      | .cell a ty => getTF t a fun a => loadF P m ty a fun v => ih P t m fun vs => q (v :: vs)) l
theorem resF_eq (P : Program) (t : Tmps) (m : Mem) : ∀ (l : List ResultVar) (q : List Value → Option α), resF l P t m q = ob (resD P t m l) q
  | [], q => rfl
  | .tmp d :: l, q => by
    have ih := resF_eq P t m l
    show (getTF t d fun v => resF l P t m fun vs => q (v :: vs)) = _
    simp only [getTF_eq, ih, resD]
    cases resD P t m l <;> rfl
  | .cell a ty :: l, q => by
    have ih := resF_eq P t m l
    show (getTF t a fun a => loadF P m ty a fun v => resF l P t m fun vs => q (v :: vs)) = _
    simp only [getTF_eq, loadF_eq, ih, resD]
    cases loadD P m ty (t.at a) with
    | none => rfl
    | some v =>
      simp only [ob_some]
      cases resD P t m l <;> rfl
def initF (l : List Value) : Nat → (Tmps → Option α) → Option α :=
  List.rec (motive := fun _ => Nat → (Tmps → Option α) → Option α) (fun _ q => q .nil) (fun v _ ih i q => ih (Nat.succ i) fun t => setTF t i v q) l
theorem initF_eq : ∀ (l : List Value) (i : Nat) (q : Tmps → Option α), initF l i q = q (initT i l)
  | [], _, _ => rfl
  | v :: l, i, q => (initF_eq l (i + 1) fun t => setTF t i v q).trans (setTF_eq _ _ _ _)
def runF (P : Program) (K : TypeId → Bool) (G : Nat) (k : Nat) (cf : CF α) (fn : Func) (c : Code) (args : List Value) (m : Mem) (q : Value → Mem → Option α) : Option α :=
  initF args 0 fun t => codeF c P K G cf (fun body _ k t m q => loopF body k t m q) (max args.length fn.ntmps) k t m fun e t' m' => Ex.rec (motive := fun _ => Option α) (resF fn.results.toList P t' m' fun vs => q (resV vs) m') (fun _ => none) (resF fn.results.toList P t' m' fun vs => q (resV vs) m') e
def callK (P : Program) (K : TypeId → Bool) (G : Nat) (k : Nat) : CF α :=
  Nat.rec (motive := fun _ => CF α) (fun _ _ _ _ => none) (fun k ih f args m q => Option.rec (motive := fun _ => Option α) none (fun fn => Option.rec (motive := fun _ => Option α) none (fun c => runF P K G k ih fn c args m q) fn.body) P.funcs[f]?) k
theorem callK_eq (P : Program) (K : TypeId → Bool) (G : Nat) : ∀ (k : Nat) (f : FuncId) (args : List Value) (m : Mem) (q : Value → Mem → Option α), callK P K G k f args m q = onV (callD P K G k f args m) q
  | 0, _, _, _, _ => rfl
  | k + 1, f, args, m, q => by
    have ih := callK_eq P K G k
    simp only [callD]
    show Option.rec (motive := fun _ => Option α) none (fun fn => Option.rec (motive := fun _ => Option α) none (fun c => runF P K G k (callK P K G k) fn c args m q) fn.body) P.funcs[f]? = _
    cases P.funcs[f]? with
    | none => rfl
    | some fn =>
      simp only
      cases hb : fn.body with
      | none => rfl
      | some c =>
        simp only [runF, initF_eq, codeF_eq P K G (callK P K G k) (callD P K G k) ih (fun body _ k t m q => loopF body k t m q) _ k (fun body c t m q hb => loopF_eq hb k t m q), resF_eq]
        cases codeD P K G (callD P K G k) (drawD P K G (callD P K G k) (max args.length fn.ntmps)) (max args.length fn.ntmps) k c (initT 0 args) m with
        | none => rfl
        | some r =>
          obtain ⟨e, t', m'⟩ := r
          cases e with
          | normal =>
            simp only [onE]
            cases resD P t' m' fn.results.toList <;> rfl
          | exit id => rfl
          | ret =>
            simp only [onE]
            cases resD P t' m' fn.results.toList <;> rfl
end
end Go.DI.Y
