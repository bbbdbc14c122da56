/-
  DiDef2: regions that draw their order; calls.
-/
import Derived.Test.YtadioopbehiakaaDoorF00
import Derived.Test.YtadioopbehiakaaDoorF04
set_option linter.all false
set_option linter.unusedVariables false
set_option linter.unusedSimpArgs false
namespace Go.DI
section
variable (P : Program) (K : TypeId → Bool) (G : Nat)
/-! ### a region that draws its order -/
def operL : Op → List Operand
  | .move x | .assign x => [x]
  | .pick c a b => [c, a, b]
  | .alloc _ => []
  | .box _ x => [x]
  | .build _ ps => ps.toList.map (·.2)
  | .buildSlice _ _ ps => ps.toList.map (·.2)
  | .insert _ m k v => [m, k, v]
  | .load _ a => [a]
  | .store _ a v => [a, v]
  | .nilCheck x => [x]
  | .binOp _ _ x y _ => [x, y]
  | .unOp _ _ x => [x]
  | .convert _ _ x => [x]
  | .makeFunc _ f c => f.toList ++ c.toList
  | .makeMap _ r => r.toList
  | .makeSlice _ l c => [l, c]
  | .slice _ x l h m => x :: (l.toList ++ (h.toList ++ m.toList))
  | .fieldAddr _ x _ => [x]
  | .field _ x _ => [x]
  | .indexAddr _ x i => [x, i]
  | .index _ x i => [x, i]
  | .lookup _ x k _ => [x, k]
  | .mapUpdate _ m k v => [m, k, v]
  | .extract x _ => [x]
  | .call { callee := .value f, args, argTypes := _ } => f :: args.toList
  | .call { callee := _, args, argTypes := _ } => args.toList
  | _ => []
def looksL (ops : List Oper) (o : Oper) : List Tmp :=
  ((operL o.op).filterMap fun | .tmp t => some t | _ => none) ++
  (match o.guard with
   | some (g, _) => match ops[g]? with
     | some u => u.dst.toList
     | none => []
   | none => [])
def maskD (acc : List Nat) : List Edge → Nat
  | [] => 0
  | e :: l => cond (Region.binds .any e) (2 ^ e.on ||| (acc.getD e.on 0 ||| maskD acc l)) (maskD acc l)
def tabD : List Oper → List Nat → List Nat
  | [], acc => acc
  | o :: l, acc => tabD l (acc ++ [maskD acc o.after.toList])
def befB (T : List Nat) (i j : Nat) : Bool := (T.getD j 0).testBit i
def klassAt (ops : List Oper) (i : Nat) : Nat := match ops[i]? with | some o => klass o.op | none => 0
def pairB (ops : List Oper) (T : List Nat) (i j : Nat) : Bool :=
  match ops[i]?, ops[j]? with
  | some x, some y =>
    (match x.dst with
     | some d => Nat.beq i j || !((looksL ops y).contains d || y.dst == some d) || cond (Nat.blt i j) (befB T i j) (befB T j i)
     | none => true) &&
    (!(Nat.beq (klass x.op) 2 && Nat.beq (klass y.op) 2 && Nat.blt i j) || befB T i j)
  | _, _ => false
def edgesB : List Oper → Nat → Bool
  | [], _ => true
  | o :: l, j => o.after.toList.all (fun e => !(Region.binds .any e) || Nat.blt e.on j) && edgesB l (j + 1)
def statB (ops : List Oper) (T : List Nat) : Bool :=
  edgesB ops 0 && (List.range ops.length).all fun i => (List.range ops.length).all fun j => pairB ops T i j
def readsB : Op → Bool
  | .load .. | .lookup .. => true
  | .call { callee := .builtin .len, .. } => true
  | _ => false
def feasB (ops : List Oper) (T : List Nat) (i s : Nat) : Bool :=
  (Nat.beq s ops.length || (Nat.beq (klassAt ops s) 2 && !(befB T s i))) && (List.range s).all fun h => !(Nat.beq (klassAt ops h) 2) || !(befB T i h)
def nextB (ops : List Oper) (i s : Nat) : Bool := Nat.ble i s && (List.range s).all fun h => !(Nat.beq (klassAt ops h) 2) || Nat.blt h i
def need1 (ops : List Oper) (T : List Nat) : List (Nat × Nat) :=
  (List.range ops.length).flatMap fun i => match ops[i]? with
    | some o => cond (Nat.beq (klass o.op) 0 && readsB o.op) ((List.range (ops.length + 1)).filterMap fun s => cond (feasB ops T i s && !(nextB ops i s)) (some (i, s)) none) []
    | none => []
def need2 (ops : List Oper) (T : List Nat) : List (Nat × Nat) :=
  (List.range ops.length).flatMap fun i => cond (Nat.beq (klassAt ops i) 1) ((List.range ops.length).filterMap fun h => cond (Nat.blt i h && Nat.beq (klassAt ops h) 2 && !(befB T i h)) (some (i, h)) none) []
structure Rec where
  want : Bool
  v : Value
  t : Tmps
  m : Mem
def recD (cf : FuncId → List Value → Mem → Option (Value × Mem)) (n : Nat) (ops : List Oper) : List Oper → Tmps → Mem → Option (List Rec × Tmps × Mem)
  | [], t, m => some ([], t, m)
  | o :: l, t, m => if dstOk n o.dst = true then
      (if Region.wanted o (yieldD ops t) = true then
        (match opD P K G cf t m o.op with
        | some (v, m') => match recD cf n ops l (putD t o.dst v) m' with
          | some (rs, t', m'') => some (⟨true, v, t, m⟩ :: rs, t', m'')
          | none => none
        | none => none)
      else match recD cf n ops l (putD t o.dst undef) m with
        | some (rs, t', m'') => some (⟨false, undef, t, m⟩ :: rs, t', m'')
        | none => none) else none
def tAt (rs : List Rec) (t' : Tmps) (i : Nat) : Tmps := match rs[i]? with | some r => r.t | none => t'
def mAt (rs : List Rec) (m' : Mem) (i : Nat) : Mem := match rs[i]? with | some r => r.m | none => m'
def veqL (f : Value → Value → Bool) : List Value → List Value → Bool
  | [], [] => true
  | x :: l, y :: l' => f x y && veqL f l l'
  | _, _ => false
def veq : Nat → Value → Value → Bool
  | 0, _, _ => false
  | d + 1, x, y =>
    match x, y with
    | .bool a, .bool b => a == b
    | .int k a, .int k' b => decide (k = k') && decide (a = b)
    | .string a, .string b => a.data.toList == b.data.toList
    | .pointer a, .pointer b => decide (a = b)
    | .slice a n c, .slice a' n' c' => decide (a = a') && Nat.beq n n' && Nat.beq c c'
    | .map a, .map b => decide (a = b)
    | .func f a b, .func f' a' b' => decide (f = f') && veqL (veq d) a.toList a'.toList && veqL (veq d) b.toList b'.toList
    | .nilFunc, .nilFunc => true
    | .nilIface, .nilIface => true
    | .agg a, .agg b => veqL (veq d) a.toList b.toList
    | .tuple a, .tuple b => veqL (veq d) a.toList b.toList
    | _, _ => false
def blkEq : Blk → Blk → Bool
  | .cells o c, .cells o' c' => (o == o') && veqL (veq 8) c c'
  | .map o [] k, .map o' [] k' => (o == o') && Nat.beq k k'
  | _, _ => false
def chk1 (ops : List Oper) (rs : List Rec) (m' : Mem) (x : Nat × Nat) : Bool :=
  match rs[x.1]?, ops[x.1]? with
  | some r, some o => !r.want || (match quietD P K G r.t (mAt rs m' x.2) o.op with
    | some v => veq 8 v r.v
    | none => false)
  | _, _ => false
def chk2 (rs : List Rec) (m' : Mem) (x : Nat × Nat) : Bool :=
  match rs[x.1]? with
  | some r => !r.want || blkEq ((mAt rs m' (x.2 + 1)).get r.m.size) ((mAt rs m' (x.1 + 1)).get r.m.size)
  | none => false
def drawD (cf : FuncId → List Value → Mem → Option (Value × Mem)) (n : Nat) (ops : List Oper) (t : Tmps) (m : Mem) : Option (Tmps × Mem) :=
  if statB ops (tabD ops []) = true then
    match recD P K G cf n ops ops t m with
    | some (rs, t', m') => if (need1 ops (tabD ops [])).all (chk1 P K G ops rs m') = true then (if (need2 ops (tabD ops [])).all (chk2 rs m') = true then some (t', m') else none) else none
    | none => none
  else none
def callD : Nat → FuncId → List Value → Mem → Option (Value × Mem)
  | 0, _, _, _ => none
  | k + 1, f, args, m => match P.funcs[f]? with
    | some fn => match fn.body with
      | some c => match codeD P K G (callD k) (drawD P K G (callD k) (max args.length fn.ntmps)) (max args.length fn.ntmps) k c (initT 0 args) m with
        | some (.normal, t, m') => match resD P t m' fn.results.toList with
          | some vs => some (resV vs, m')
          | none => none
        | some (.ret, t, m') => match resD P t m' fn.results.toList with
          | some vs => some (resV vs, m')
          | none => none
        | _ => none
      | none => none
    | none => none
end
end Go.DI
namespace Go.DI
section
variable {P : Program} {K : TypeId → Bool} {G B0 n : Nat} {ι : Ren} {m : Mem} {w : World} {t u : Tmps} {a : Act}
theorem ev_congr {x : Operand} (h : ∀ d, x = .tmp d → t.at d = u.at d) : ev G t x = ev G u x := by
  cases x with
  | tmp d => simp only [ev]; rw [h d rfl]
  | const c => rfl
  | global g => rfl
  | func f => rfl
theorem evs_congr : ∀ {l : List Operand}, (∀ x ∈ l, ev G t x = ev G u x) → evs G t l = evs G u l
  | [], _ => rfl
  | x :: l, h => by
    simp only [evs]
    rw [h x (by simp), evs_congr (l := l) fun y hy => h y (by simp [hy])]
theorem evParts_congr : ∀ {l : List (Nat × Operand)}, (∀ x ∈ l.map (·.2), ev G t x = ev G u x) → evParts G t l = evParts G u l
  | [], _ => rfl
  | (i, x) :: l, h => by
    simp only [evParts]
    rw [h x (by simp), evParts_congr (l := l) fun y hy => h y (by simp at hy ⊢; exact .inr hy)]
theorem optEv_congr {x : Option Operand} (h : ∀ y ∈ x.toList, ev G t y = ev G u y) : optEv G t x = optEv G u x := by
  cases x with
  | none => rfl
  | some x => simp only [optEv]; rw [h x (by simp)]
theorem quietD_congr {o : Op} (h : ∀ x ∈ operL o, ev G t x = ev G u x) : quietD P K G t m o = quietD P K G u m o := by
  cases o <;> simp only [operL] at h <;> simp only [quietD]
  case move x => exact h x (by simp)
  case assign x => exact h x (by simp)
  case pick c x y => rw [h c (by simp), h x (by simp), h y (by simp)]
  case load ty x => rw [h x (by simp)]
  case nilCheck x => rw [h x (by simp)]
  case binOp op ty x y yt => rw [h x (by simp), h y (by simp)]
  case unOp op ty x => rw [h x (by simp)]
  case makeFunc fn f c =>
    cases fn <;> simp only [quietD]
    rw [evs_congr fun x hx => h x (by simp [Array.mem_toList_iff.1 hx]), evs_congr (l := c.toList) fun x hx => h x (by simp [Array.mem_toList_iff.1 hx])]
  case fieldAddr s x f => rw [h x (by simp)]
  case field s x f => rw [h x (by simp)]
  case indexAddr s x i => rw [h x (by simp), h i (by simp)]
  case index s x i => rw [h x (by simp), h i (by simp)]
  case lookup s x k ok => rw [h x (by simp), h k (by simp)]
  case extract x i => rw [h x (by simp)]
  case build ty ps => rw [evParts_congr h]
  case slice ty x lo hi mx =>
    rw [h x (by simp), optEv_congr (x := lo) fun y hy => h y (by simp [hy]), optEv_congr (x := hi) fun y hy => h y (by simp [hy]), optEv_congr (x := mx) fun y hy => h y (by simp [hy])]
  case call c =>
    obtain ⟨callee, args, tys⟩ := c
    cases callee with
    | value f => simp only [quietD]
    | invoke r s => simp only [quietD]
    | builtin b =>
      cases b <;> simp only [quietD]
      case len =>
        cases hl : args.toList with
        | nil => rfl
        | cons x l =>
          have := h x (by simp [hl])
          cases l with
          | nil => cases tys.toList with
            | nil => rfl
            | cons y l' => cases l' with
              | nil => simp only [this]
              | cons z l'' => rfl
          | cons y l' => rfl
      case min => rw [evs_congr h]
      case max => rw [evs_congr h]
theorem quietD_pure {o : Op} (h : readsB o = false) (m₂ : Mem) : quietD P K G t m o = quietD P K G t m₂ o := by
  cases o <;> simp only [readsB] at h <;> simp only [quietD] <;> try (simp at h; done)
  case makeFunc fn f c => cases fn <;> simp only [quietD]
  case call c =>
    obtain ⟨callee, args, tys⟩ := c
    cases callee with
    | value f => simp only [quietD]
    | invoke r s => simp only [quietD]
    | builtin b => cases b <;> simp only [readsB] at h <;> simp only [quietD] <;> simp at h
theorem quietD_ext {m₂ : Mem} (ht : m.top) (hg : ∀ b, b < m.size → m₂.get b = m.get b) {o : Op} {v : Value} (h : quietD P K G t m o = some v) : quietD P K G t m₂ o = some v := by
  have hne : ∀ b, m.get b ≠ .none → m₂.get b = m.get b := fun b hb => by
    rcases Nat.lt_or_ge b m.size with h1 | h1
    · exact hg b h1
    · exact absurd (ht b h1) hb
  have hload : ∀ (ty : TypeId) (x v : Value), loadD P m ty x = some v → loadD P m₂ ty x = some v := by
    intro ty x v h
    unfold loadD at h ⊢
    split at h <;> try (simp at h; done)
    rename_i b off
    split at h <;> try (simp at h; done)
    · split at h <;> try (simp at h; done)
      rename_i k _
      have : ∀ c, loadC m b off k = some c → loadC m₂ b off k = some c := by
        intro c hc
        unfold loadC at hc ⊢
        rw [hne b (by intro e; rw [e] at hc; simp at hc)]
        exact hc
      split at h <;> try (simp at h; done)
      rename_i c hc
      simp only [this c hc]
      exact h
    · rename_i hb
      rw [hne b (by intro e; rw [e] at h; simp at h)]
      exact h
  have hent : ∀ (x : Value) (es : List MapEntry), entriesD m x = some es → entriesD m₂ x = some es := by
    intro x es h
    unfold entriesD at h ⊢
    split at h <;> try (simp at h; done)
    · exact h
    · rename_i r
      rw [hne r (by intro e; rw [e] at h; simp at h)]
      exact h
  cases o
  case load ty x =>
    simp only [quietD] at h ⊢
    split at h <;> try (simp at h; done)
    rename_i u _
    cases hl : loadD P m ty u with
    | none => rw [hl] at h; simp [shD] at h
    | some z => rw [hload _ _ _ hl]; rw [hl] at h; exact h
  case lookup s x k ok =>
    simp only [quietD] at h ⊢
    split at h <;> try (simp at h; done)
    unfold lookupD at h ⊢
    split at h <;> try (simp at h; done)
    split at h <;> try (simp at h; done)
    rename_i es hes
    simp only [hent _ _ hes]
    exact h
  case call c =>
    obtain ⟨callee, args, tys⟩ := c
    cases callee with
    | value f => simp only [quietD] at h; simp at h
    | invoke r s => simp only [quietD] at h; simp at h
    | builtin b =>
      cases b <;> simp only [quietD] at h ⊢ <;> try exact h
      case len =>
        split at h <;> try (simp at h; done)
        split at h <;> try (simp at h; done)
        unfold lenD at h ⊢
        split at h <;> try (simp at h; done)
        · exact h
        · exact h
        · exact h
        · split at h <;> try (simp at h; done)
          · exact h
          · rename_i r _
            rw [hne r (by intro e; rw [e] at h; simp at h)]
            exact h
  all_goals (rw [quietD_pure (m₂ := m) rfl]; exact h)
theorem allocD_congr {o : Op} (h : ∀ x ∈ operL o, ev G t x = ev G u x) : allocD P G t o = allocD P G u o := by
  cases o <;> simp only [operL] at h <;> simp only [allocD]
  case box e x => rw [h x (by simp)]
  case buildSlice ty k ps => rw [evParts_congr h]
  case makeSlice ty l c => rw [h l (by simp), h c (by simp)]
  case makeMap ty r =>
    cases r with
    | none => rfl
    | some x => simp only; rw [h x (by simp)]
theorem heavyD_congr {cf : CallF} {o : Op} (h : ∀ x ∈ operL o, ev G t x = ev G u x) : heavyD P K G cf t m o = heavyD P K G cf u m o := by
  cases o <;> simp only [operL] at h <;> simp only [heavyD]
  case store ty x y => rw [h x (by simp), h y (by simp)]
  case mapUpdate ty x k y => rw [h x (by simp), h k (by simp), h y (by simp)]
  case insert ty x k y => rw [h x (by simp), h k (by simp), h y (by simp)]
  case convert s d x => rw [h x (by simp)]
  case call c =>
    obtain ⟨callee, args, tys⟩ := c
    cases callee with
    | value f =>
      simp only [operL] at h
      simp only [heavyD]
      rw [h f (by simp), evs_congr fun x hx => h x (by simp [Array.mem_toList_iff.1 hx])]
    | invoke r s => simp only [heavyD]
    | builtin b =>
      cases b <;> simp only [heavyD]
      all_goals
        cases hl : args.toList with
        | nil => rfl
        | cons x l =>
          have hx := h x (by simp only [operL, hl]; simp)
          cases l with
          | nil => rfl
          | cons y l =>
            have hy := h y (by simp only [operL, hl]; simp)
            cases l <;> cases hT : tys.toList with
            | nil => rfl
            | cons a b => cases b with
              | nil => rfl
              | cons c d => cases d <;> simp only [hx, hy]
theorem Rel.restrict (hr : Rel B0 G ι m w) {m₂ : Mem} (ht : m₂.top) (hs : m₂.size ≤ m.size) (hg : ∀ b, b < m₂.size → m.get b = m₂.get b) : Rel B0 G ι m₂ w := by
  refine ⟨fun b L hb hL => ?_, fun b₁ b₂ L₁ L₂ h1 h2 h3 h4 l1 l2 g0 e => ?_, hr.floor, hr.glob, ht⟩
  · rw [← hg b hb]; exact hr.blk b L (by omega) hL
  · rw [← hg b₁ h1] at l1
    rw [← hg b₂ h2] at l2
    exact hr.inj b₁ b₂ L₁ L₂ (by omega) (by omega) h3 h4 l1 l2 g0 e
/-! ### the order of waiting -/
theorem maskD_bit {acc : List Nat} {i : Nat} : ∀ {l : List Edge}, (maskD acc l).testBit i = true → ∃ e ∈ l, Region.binds .any e = true ∧ (e.on = i ∨ (acc.getD e.on 0).testBit i = true)
  | [], h => by simp [maskD] at h
  | e :: l, h => by
    simp only [maskD] at h
    cases hb : Region.binds .any e with
    | false =>
      rw [hb, cond_false] at h
      obtain ⟨e', h1, h2⟩ := maskD_bit h
      exact ⟨e', by simp [h1], h2⟩
    | true =>
      rw [hb, cond_true, Nat.testBit_or, Nat.testBit_or, Bool.or_eq_true, Bool.or_eq_true] at h
      rcases h with h | h | h
      · rw [Nat.testBit_two_pow] at h
        exact ⟨e, by simp, hb, .inl (by simpa using h)⟩
      · exact ⟨e, by simp, hb, .inr h⟩
      · obtain ⟨e', h1, h2⟩ := maskD_bit h
        exact ⟨e', by simp [h1], h2⟩
theorem tabD_spec : ∀ (l : List Oper) (acc : List Nat), ∃ rest, tabD l acc = acc ++ rest ∧ rest.length = l.length ∧ ∀ j o, l[j]? = some o → rest[j]? = some (maskD (acc ++ rest.take j) o.after.toList)
  | [], acc => ⟨[], by simp [tabD], rfl, fun j o h => by simp at h⟩
  | o :: l, acc => by
    obtain ⟨rest, h1, h2, h3⟩ := tabD_spec l (acc ++ [maskD acc o.after.toList])
    refine ⟨maskD acc o.after.toList :: rest, by simp [tabD, h1], by simp [h2], fun j o' hj => ?_⟩
    cases j with
    | zero => simp at hj; subst hj; simp
    | succ j =>
      have := h3 j o' (by simpa using hj)
      simpa using this
theorem edgesB_spec : ∀ (l : List Oper) (i : Nat), edgesB l i = true → ∀ j o, l[j]? = some o → ∀ e ∈ o.after.toList, Region.binds .any e = true → e.on < i + j
  | [], i, h, j, o, hj, _, _, _ => by simp at hj
  | x :: l, i, h, j, o, hj, e, he, hb => by
    simp only [edgesB, Bool.and_eq_true, List.all_eq_true] at h
    cases j with
    | zero =>
      simp at hj; subst hj
      have := h.1 e he
      rw [hb] at this
      simp at this
      have h2 : e.on < i := by simpa [Nat.blt] using this
      omega
    | succ j =>
      have := edgesB_spec l (i + 1) h.2 j o (by simpa using hj) e he hb
      omega
theorem bef_in {ops : List Oper} (hE : edgesB ops 0 = true) {X : Nat → Prop} (D : ∀ j o, ops[j]? = some o → X j → ∀ e ∈ o.after.toList, Region.binds .any e = true → X e.on) :
    ∀ (j : Nat) (o : Oper), ops[j]? = some o → (∀ e ∈ o.after.toList, Region.binds .any e = true → X e.on) → ∀ i, befB (tabD ops []) i j = true → X i := by
  obtain ⟨rest, h1, h2, h3⟩ := tabD_spec ops []
  simp only [List.nil_append] at h1 h3
  intro j
  induction j using Nat.strongRecOn with
  | _ j ih =>
    intro o ho hx i hi
    unfold befB at hi
    rw [h1] at hi
    have h4 := h3 j o ho
    rw [List.getD_eq_getElem?_getD, h4, Option.getD_some] at hi
    obtain ⟨e, he, hb, hcase⟩ := maskD_bit hi
    have hlt := edgesB_spec ops 0 hE j o ho e he hb
    have hxe := hx e he hb
    rcases hcase with h5 | h5
    · rw [← h5]; exact hxe
    · have hej : e.on < j := by omega
      have e1 : (rest.take j).getD e.on 0 = rest.getD e.on 0 := by
        rw [List.getD_eq_getElem?_getD, List.getD_eq_getElem?_getD, List.getElem?_take]
        simp [hej]
      rw [e1] at h5
      have hlen : j < ops.length := by
        rcases Nat.lt_or_ge j ops.length with h6 | h6
        · exact h6
        · rw [List.getElem?_eq_none h6] at ho; cases ho
      obtain ⟨oe, hoe⟩ : ∃ oe, ops[e.on]? = some oe := ⟨ops[e.on], by simp⟩
      exact ih e.on hej oe hoe (D _ _ hoe hxe) i (by unfold befB; rw [h1]; exact h5)
/-! ### the record of a run in the text's order -/
theorem recD_get {cf : CallF} {ops : List Oper} : ∀ (l : List Oper) (t : Tmps) (m : Mem) (rs : List Rec) (t' : Tmps) (m' : Mem), recD P K G cf n ops l t m = some (rs, t', m') →
    rs.length = l.length ∧ tAt rs t' 0 = t ∧ mAt rs m' 0 = m ∧ ∀ i o, l[i]? = some o → ∃ r, rs[i]? = some r ∧ dstOk n o.dst = true ∧ r.want = Region.wanted o (yieldD ops r.t) ∧
      tAt rs t' (i + 1) = putD r.t o.dst r.v ∧ (r.want = true → opD P K G cf r.t r.m o.op = some (r.v, mAt rs m' (i + 1))) ∧ (r.want = false → r.v = undef ∧ mAt rs m' (i + 1) = r.m)
  | [], t, m, rs, t', m', h => by
    simp [recD] at h
    obtain ⟨rfl, rfl, rfl⟩ := h
    exact ⟨rfl, rfl, rfl, fun i o hi => by simp at hi⟩
  | o :: l, t, m, rs, t', m', h => by
    simp only [recD] at h
    split at h <;> try (simp at h; done)
    rename_i hd
    split at h
    · rename_i hw
      split at h <;> try (simp at h; done)
      rename_i v m₁ hv
      split at h <;> simp at h
      rename_i rs₁ t₁ m₂ h1
      obtain ⟨rfl, rfl, rfl⟩ := h
      obtain ⟨g1, g2, g3, g4⟩ := recD_get l _ _ _ _ _ h1
      refine ⟨by simp [g1], rfl, rfl, fun i o' hi => ?_⟩
      cases i with
      | zero =>
        simp at hi; subst hi
        refine ⟨_, rfl, hd, hw.symm, ?_, fun _ => ?_, fun h => by cases h⟩
        · exact g2
        · rw [hv]; congr 2; exact g3.symm
      | succ i => exact g4 i o' (by simpa using hi)
    · rename_i hw
      split at h <;> simp at h
      rename_i rs₁ t₁ m₂ h1
      obtain ⟨rfl, rfl, rfl⟩ := h
      obtain ⟨g1, g2, g3, g4⟩ := recD_get l _ _ _ _ _ h1
      refine ⟨by simp [g1], rfl, rfl, fun i o' hi => ?_⟩
      cases i with
      | zero =>
        simp at hi; subst hi
        refine ⟨_, rfl, hd, ?_, g2, ?_, ?_⟩
        · simpa using hw
        · intro h; cases h
        · intro _; exact ⟨rfl, g3⟩
      | succ i => exact g4 i o' (by simpa using hi)
theorem veqL_eq {f : Value → Value → Bool} (hf : ∀ x y, f x y = true → x = y) : ∀ {l l' : List Value}, veqL f l l' = true → l = l'
  | [], [], _ => rfl
  | x :: l, y :: l', h => by
    simp only [veqL, Bool.and_eq_true] at h
    rw [hf _ _ h.1, veqL_eq hf h.2]
  | [], _ :: _, h => by simp [veqL] at h
  | _ :: _, [], h => by simp [veqL] at h
theorem veq_eq : ∀ (d : Nat) (x y : Value), veq d x y = true → x = y
  | 0, x, y, h => by simp [veq] at h
  | d + 1, x, y, h => by
    have ih := veq_eq d
    cases x <;> cases y <;> simp only [veq] at h <;> try (simp at h; done)
    case bool a b => simp at h; rw [h]
    case int k a k' b => simp at h; rw [h.1, h.2]
    case string a b =>
      obtain ⟨⟨a⟩⟩ := a; obtain ⟨⟨b⟩⟩ := b
      simp at h; rw [h]
    case pointer a b => simp at h; rw [h]
    case slice a k c a' k' c' =>
      simp only [Bool.and_eq_true, decide_eq_true_eq] at h
      rw [h.1.1, Nat.eq_of_beq_eq_true h.1.2, Nat.eq_of_beq_eq_true h.2]
    case map a b => simp at h; rw [h]
    case func f a b f' a' b' =>
      simp only [Bool.and_eq_true, decide_eq_true_eq] at h
      rw [h.1.1, Array.ext' (veqL_eq ih h.1.2), Array.ext' (veqL_eq ih h.2)]
    case nilFunc => rfl
    case nilIface => rfl
    case agg a b => rw [Array.ext' (veqL_eq ih h)]
    case tuple a b => rw [Array.ext' (veqL_eq ih h)]
theorem blkEq_eq {x y : Blk} (h : blkEq x y = true) : x = y := by
  unfold blkEq at h
  split at h
  · simp only [Bool.and_eq_true, beq_iff_eq] at h
    rw [h.1, veqL_eq (veq_eq 8) h.2]
  · simp only [Bool.and_eq_true, beq_iff_eq] at h
    rw [h.1, Nat.eq_of_beq_eq_true h.2]
  · simp at h
end
end Go.DI
namespace Go.DI
section
variable {P : Program} {K : TypeId → Bool} {G B0 n : Nat}
def dstAt (ops : List Oper) (k : Nat) : Option Tmp := match ops[k]? with | some o => o.dst | none => none
def valAt (rs : List Rec) (k : Nat) : Value := match rs[k]? with | some r => r.v | none => undef
def wantAt (rs : List Rec) (k : Nat) : Bool := match rs[k]? with | some r => r.want | none => false
def appX (ops : List Oper) (rs : List Rec) (t : Tmps) (X : Nat → Bool) : Nat → Tmps
  | 0 => t
  | k + 1 => if X k = true then putD (appX ops rs t X k) (dstAt ops k) (valAt rs k) else appX ops rs t X k
theorem putD_at (t : Tmps) (dst : Option Tmp) (v : Value) (d : Tmp) : (putD t dst v).at d = if dst = some d then v else t.at d := by
  cases dst with
  | none => simp [putD]
  | some e =>
    simp only [putD, Tmps.at_set, Option.some.injEq]
    by_cases h : d = e
    · simp [h]
    · have : ¬ e = d := fun h' => h h'.symm
      simp [h, this]
theorem TRel.congr {ι : Ren} {t u : Tmps} {a : Act} (h : ∀ d, t.at d = u.at d) (ht : TRel ι n t a) : TRel ι n u a := ⟨ht.1, fun d => by rw [← h d]; exact ht.2 d⟩
theorem appX_agree {ops : List Oper} {rs : List Rec} {t : Tmps} {X : Nat → Bool} {d : Tmp} {j N : Nat} (hj : j ≤ N) (h1 : ∀ k, k < j → dstAt ops k = some d → X k = true) (h2 : ∀ k, j ≤ k → k < N → dstAt ops k = some d → X k = false) :
    (appX ops rs t X N).at d = (appX ops rs t (fun _ => true) j).at d := by
  have A : ∀ k, k ≤ j → (appX ops rs t X k).at d = (appX ops rs t (fun _ => true) k).at d := by
    intro k
    induction k with
    | zero => intro _; rfl
    | succ k ih =>
      intro hk
      have ih := ih (by omega)
      simp only [appX, if_true]
      rw [putD_at]
      by_cases hd : dstAt ops k = some d
      · rw [if_pos (h1 k (by omega) hd), putD_at, if_pos hd, if_pos hd]
      · rw [if_neg hd]
        split
        · rw [putD_at, if_neg hd]; exact ih
        · exact ih
  have B : ∀ k, j + k ≤ N → (appX ops rs t X (j + k)).at d = (appX ops rs t X j).at d := by
    intro k
    induction k with
    | zero => intro _; rfl
    | succ k ih =>
      intro hk
      rw [← ih (by omega)]
      show (appX ops rs t X ((j + k) + 1)).at d = _
      simp only [appX]
      split
      · rename_i hx
        rw [putD_at]
        split
        · rename_i hd
          rw [h2 (j + k) (by omega) (by omega) hd] at hx
          cases hx
        · rfl
      · rfl
  have := B (N - j) (by omega)
  rw [show j + (N - j) = N by omega] at this
  rw [this, A j (Nat.le_refl _)]
theorem appX_set {ops : List Oper} {rs : List Rec} {t : Tmps} {X X' : Nat → Bool} {i N : Nat} (hi : i < N) (hx : X i = false) (hx' : X' i = true) (hne : ∀ k, k ≠ i → X' k = X k)
    (h : ∀ k d, i < k → k < N → dstAt ops k = some d → dstAt ops i = some d → X k = false) (d : Tmp) : (appX ops rs t X' N).at d = (putD (appX ops rs t X N) (dstAt ops i) (valAt rs i)).at d := by
  have A : ∀ k, k ≤ i → appX ops rs t X' k = appX ops rs t X k := by
    intro k
    induction k with
    | zero => intro _; rfl
    | succ k ih =>
      intro hk
      simp only [appX]
      rw [ih (by omega), hne k (by omega)]
  have B : ∀ k, i + 1 + k ≤ N → (appX ops rs t X' (i + 1 + k)).at d = if dstAt ops i = some d then valAt rs i else (appX ops rs t X (i + 1 + k)).at d := by
    intro k
    induction k with
    | zero =>
      intro _
      simp only [Nat.add_zero, appX, hx', hx, if_true, Bool.false_eq_true, if_false]
      rw [putD_at, A i (Nat.le_refl _)]
    | succ k ih =>
      intro hk
      have ih := ih (by omega)
      show (appX ops rs t X' ((i + 1 + k) + 1)).at d = if dstAt ops i = some d then valAt rs i else (appX ops rs t X ((i + 1 + k) + 1)).at d
      simp only [appX]
      rw [hne (i + 1 + k) (by omega)]
      split
      · rename_i hxk
        rw [putD_at, putD_at, ih]
        by_cases hd : dstAt ops (i + 1 + k) = some d
        · rw [if_pos hd, if_pos hd]
          split
          · rename_i hdi
            rw [h _ d (by omega) (by omega) hd hdi] at hxk
            cases hxk
          · rfl
        · rw [if_neg hd, if_neg hd]
      · exact ih
  have := B (N - (i + 1)) (by omega)
  rw [show i + 1 + (N - (i + 1)) = N by omega] at this
  rw [this, putD_at]
theorem Rel.lay {ι : Ren} {M M' : Mem} {w : World} {b0 k : Nat} {x : Blk} {ob : Obj} (hr : Rel B0 G ι M w) (hb0 : b0 < M.size) (hn : ι b0 = none) (hsz : M'.size = M.size) (hg0 : M'.get b0 = x) (hg : ∀ b, b ≠ b0 → M'.get b = M.get b)
    (hnew : BlkRel B0 (fun b => if b = b0 then some ⟨w.heap.size, 0, k⟩ else ι b) x ⟨w.heap.size, 0, k⟩ (w.alloc ob)) :
    Rel B0 G (fun b => if b = b0 then some ⟨w.heap.size, 0, k⟩ else ι b) M' (w.alloc ob) := by
  have hle : ι.le (fun b => if b = b0 then some ⟨w.heap.size, 0, k⟩ else ι b) := by
    intro b L hb
    have : b ≠ b0 := by intro e; rw [e, hn] at hb; cases hb
    simp [this, hb]
  have hold : ∀ B, B < w.heap.size → (w.alloc ob).heap[B]? = w.heap[B]? := fun B hB => by
    show (w.heap.push ob)[B]? = _
    rw [Array.getElem?_push, if_neg (by omega)]
  refine ⟨fun b L hb hL => ?_, fun b₁ b₂ L₁ L₂ h1 h2 h3 h4 l1 l2 g0 e => ?_, by simp; have := hr.floor; omega, fun g hg' => ?_, fun b hb => ?_⟩
  · by_cases e : b = b0
    · subst e; simp at hL; subst hL; rw [hg0]; exact hnew
    · simp only [e, if_false] at hL
      rw [hg b e]
      exact (hr.blk b L (by omega) hL).monoL hle (fun hl => hold _ (hr.old b L hL hl))
  · by_cases e1 : b₁ = b0
    · by_cases e2 : b₂ = b0
      · omega
      · simp [e1] at h3; simp [e2] at h4; subst h3
        rw [hg _ e2] at l2
        have := hr.old _ _ h4 l2
        simp at e; omega
    · by_cases e2 : b₂ = b0
      · simp [e1] at h3; simp [e2] at h4; subst h4
        rw [hg _ e1] at l1
        have := hr.old _ _ h3 l1
        simp at e; omega
      · simp [e1] at h3; simp [e2] at h4
        rw [hg _ e1] at l1
        rw [hg _ e2] at l2
        exact hr.inj b₁ b₂ L₁ L₂ (by omega) (by omega) h3 h4 l1 l2 g0 e
  · obtain ⟨L, h1, h2⟩ := hr.glob g hg'
    exact ⟨L, hle _ _ h1, h2⟩
  · rw [hg b (by omega)]; exact hr.top b (by omega)
theorem Stp.inner {ι0 ι ι' : Ren} {m M M' Ms Ms1 : Mem} {w0 w w' : World} (h : Stp ι0 ι m M w0 w) (k : Stp ι ι' Ms Ms1 w w') (h1 : m.size ≤ Ms.size) (h2 : Ms1.size ≤ M.size) (h3 : ∀ b, b < Ms.size → M.get b = Ms.get b) (h4 : M'.size = M.size)
    (h5 : ∀ b, b < m.size → M'.get b = Ms1.get b) : Stp ι0 ι' m M' w0 w' := by
  have kms := k.msize
  refine ⟨fun b L hb => k.ext _ _ (h.ext _ _ hb), fun b hb => ?_, k.os.trans h.os, k.output.trans h.output, k.tape.trans h.tape, Nat.le_trans h.hsize k.hsize, fun B hB hn => ?_, fun b L g1 g2 hb => ?_, by rw [h4]; exact h.msize, fun b hb ho => ?_⟩
  · rw [k.out b (by omega), h.out b (by omega)]
  · rw [k.frame B (Nat.lt_of_lt_of_le hB h.hsize) ?_, h.frame B hB hn]
    intro b L hb hL ho
    rw [← h3 b hb] at ho
    rcases Nat.lt_or_ge b m.size with hlt | hge
    · rw [h.out b (.inl hlt)] at hL
      exact hn b L hlt hL (h.ownk b hlt ho)
    · rcases h.new b L hge (by omega) hL with g | ⟨b0, L0, g1, g2, g3, g4⟩
      · omega
      · rw [← g4]; exact hn b0 L0 g1 g2 g3
  · rw [h4] at g2
    by_cases hc : Ms.size ≤ b ∧ b < Ms1.size
    · rcases k.new b L hc.1 hc.2 hb with g | ⟨b0, L0, q1, q2, q3, q4⟩
      · exact .inl (Nat.le_trans h.hsize g)
      · rw [← h3 b0 q1] at q3
        rcases Nat.lt_or_ge b0 m.size with hlt | hge
        · rw [h.out b0 (.inl hlt)] at q2
          exact .inr ⟨b0, L0, hlt, q2, h.ownk b0 hlt q3, q4⟩
        · rcases h.new b0 L0 hge (by omega) q2 with g | ⟨b1, L1, k1, k2, k3, k4⟩
          · exact .inl (q4 ▸ g)
          · exact .inr ⟨b1, L1, k1, k2, k3, k4.trans q4⟩
    · rw [k.out b (by omega)] at hb
      exact h.new b L g1 g2 hb
  · rw [h5 b hb] at ho
    have := k.ownk b (by omega) ho
    rw [← h3 b (by omega)] at this
    exact h.ownk b hb this
/-! ### a run in the text's order, by places -/
structure Run (P : Program) (K : TypeId → Bool) (G n : Nat) (cf : CallF) (ops : List Oper) (t : Tmps) (m : Mem) (rs : List Rec) (t' : Tmps) (m' : Mem) : Prop where
  eq : recD P K G cf n ops ops t m = some (rs, t', m')
  grw : CfGrw cf
  top : m.top
theorem Run.len {cf : CallF} {ops : List Oper} {t t' : Tmps} {m m' : Mem} {rs : List Rec} (R : Run P K G n cf ops t m rs t' m') : rs.length = ops.length := (recD_get _ _ _ _ _ _ R.eq).1
theorem Run.zero {cf : CallF} {ops : List Oper} {t t' : Tmps} {m m' : Mem} {rs : List Rec} (R : Run P K G n cf ops t m rs t' m') : mAt rs m' 0 = m := (recD_get _ _ _ _ _ _ R.eq).2.2.1
theorem Run.last {cf : CallF} {ops : List Oper} {t t' : Tmps} {m m' : Mem} {rs : List Rec} (R : Run P K G n cf ops t m rs t' m') : mAt rs m' ops.length = m' := by
  unfold mAt; rw [List.getElem?_eq_none (by rw [R.len]; exact Nat.le_refl _)]
theorem Run.step {cf : CallF} {ops : List Oper} {t t' : Tmps} {m m' : Mem} {rs : List Rec} (R : Run P K G n cf ops t m rs t' m') {i : Nat} {o : Oper} (ho : ops[i]? = some o) :
    ∃ r, rs[i]? = some r ∧ r.t = appX ops rs t (fun _ => true) i ∧ r.m = mAt rs m' i ∧ dstOk n o.dst = true ∧ r.want = Region.wanted o (yieldD ops r.t) ∧
      (r.want = true → opD P K G cf r.t r.m o.op = some (r.v, mAt rs m' (i + 1))) ∧ (r.want = false → r.v = undef ∧ mAt rs m' (i + 1) = r.m) := by
  obtain ⟨g1, g2, g3, g4⟩ := recD_get _ _ _ _ _ _ R.eq
  have ht : ∀ k, k ≤ ops.length → tAt rs t' k = appX ops rs t (fun _ => true) k := by
    intro k
    induction k with
    | zero => intro _; exact g2
    | succ k ih =>
      intro hk
      have ih := ih (by omega)
      obtain ⟨o', ho'⟩ : ∃ o', ops[k]? = some o' := ⟨ops[k], by simp⟩
      obtain ⟨r, h1, h2, h3, h4, _⟩ := g4 k o' ho'
      rw [h4]
      simp only [appX, if_true, dstAt, ho', valAt, h1]
      rw [← ih]
      simp only [tAt, h1]
  obtain ⟨r, h1, h2, h3, h4, h5, h6⟩ := g4 i o ho
  have hi : i < ops.length := by
    rcases Nat.lt_or_ge i ops.length with h | h
    · exact h
    · rw [List.getElem?_eq_none h] at ho; cases ho
  refine ⟨r, h1, ?_, ?_, h2, h3, h5, h6⟩
  · rw [← ht i (by omega)]; simp only [tAt, h1]
  · simp only [mAt, h1]
theorem Run.grow1 {cf : CallF} {ops : List Oper} {t t' : Tmps} {m m' : Mem} {rs : List Rec} (R : Run P K G n cf ops t m rs t' m') {i : Nat} (hi : i < ops.length) : Grw (mAt rs m' i) (mAt rs m' (i + 1)) := by
  obtain ⟨r, h1, h2, h3, h4, h5, h6, h7⟩ := R.step (i := i) (o := ops[i]) (by simp)
  rw [← h3]
  cases hw : r.want with
  | true => exact opD_grw R.grw (h6 hw)
  | false => rw [(h7 hw).2]; exact Grw.refl _
theorem Run.grow {cf : CallF} {ops : List Oper} {t t' : Tmps} {m m' : Mem} {rs : List Rec} (R : Run P K G n cf ops t m rs t' m') {i : Nat} : ∀ k, i + k ≤ ops.length → Grw (mAt rs m' i) (mAt rs m' (i + k))
  | 0, _ => Grw.refl _
  | k + 1, h => (R.grow k (by omega)).trans (R.grow1 (by omega))
theorem Run.mono {cf : CallF} {ops : List Oper} {t t' : Tmps} {m m' : Mem} {rs : List Rec} (R : Run P K G n cf ops t m rs t' m') {i j : Nat} (h : i ≤ j) (hj : j ≤ ops.length) : Grw (mAt rs m' i) (mAt rs m' j) := by
  have := R.grow (i := i) (j - i) (by omega)
  rw [show i + (j - i) = j by omega] at this
  exact this
theorem Run.topAt {cf : CallF} {ops : List Oper} {t t' : Tmps} {m m' : Mem} {rs : List Rec} (R : Run P K G n cf ops t m rs t' m') {i : Nat} (h : i ≤ ops.length) : (mAt rs m' i).top := by
  have := (R.mono (Nat.zero_le i) h).top
  rw [R.zero] at this
  exact this R.top
theorem klass_cases (o : Op) : klass o = 0 ∨ klass o = 1 ∨ klass o = 2 := by
  unfold klass; split <;> simp
theorem Run.light {cf : CallF} {ops : List Oper} {t t' : Tmps} {m m' : Mem} {rs : List Rec} (R : Run P K G n cf ops t m rs t' m') {i : Nat} (hi : i < ops.length) (hk : klassAt ops i ≠ 2) :
    (mAt rs m' (i + 1) = mAt rs m' i ∧ (klassAt ops i = 1 → wantAt rs i = false)) ∨ (klassAt ops i = 1 ∧ wantAt rs i = true ∧ ∃ x q, allocD P G (appX ops rs t (fun _ => true) i) ops[i].op = some (x, q) ∧ valAt rs i = q.val (mAt rs m' i).size ∧ mAt rs m' (i + 1) = (mAt rs m' i).push x) := by
  obtain ⟨r, h1, h2, h3, h4, h5, h6, h7⟩ := R.step (i := i) (o := ops[i]) (by simp)
  have hka : klassAt ops i = klass ops[i].op := by simp [klassAt, hi]
  have hv : valAt rs i = r.v := by simp [valAt, h1]
  have hwt : wantAt rs i = r.want := by simp [wantAt, h1]
  cases hw : r.want with
  | false => exact .inl ⟨by rw [(h7 hw).2, h3], fun _ => by rw [hwt, hw]⟩
  | true =>
    have h8 := h6 hw
    unfold opD at h8
    rw [hka] at hk ⊢
    rcases klass_cases ops[i].op with hc | hc | hc
    · rw [hc] at h8
      simp only at h8
      split at h8 <;> simp at h8
      exact .inl ⟨by rw [← h8.2, h3], fun h => by rw [hc] at h; cases h⟩
    · rw [hc] at h8
      simp only at h8
      split at h8 <;> simp at h8
      rename_i x q hx
      refine .inr ⟨hc, by rw [hwt, hw], x, q, by rw [← h2]; exact hx, by rw [hv, ← h8.1, h3], by rw [← h8.2, h3]⟩
    · exact absurd hc hk
theorem Run.lightGet {cf : CallF} {ops : List Oper} {t t' : Tmps} {m m' : Mem} {rs : List Rec} (R : Run P K G n cf ops t m rs t' m') {i : Nat} : ∀ k, i + k ≤ ops.length → (∀ h, i ≤ h → h < i + k → klassAt ops h ≠ 2) →
    ∀ b, b < (mAt rs m' i).size → (mAt rs m' (i + k)).get b = (mAt rs m' i).get b
  | 0, _, _, b, hb => rfl
  | k + 1, h, hl, b, hb => by
    have ih := R.lightGet k (by omega) (fun h g1 g2 => hl h g1 (by omega)) b hb
    have hsz := (R.mono (i := i) (j := i + k) (by omega) (by omega)).size
    show (mAt rs m' ((i + k) + 1)).get b = _
    rcases R.light (i := i + k) (by omega) (hl _ (by omega) (by omega)) with ⟨e, _⟩ | ⟨_, _, x, q, _, _, e⟩
    · rw [e]; exact ih
    · rw [e, Mem.get_push_ne _ (by omega)]; exact ih
theorem Run.kept {cf : CallF} {ops : List Oper} {t t' : Tmps} {m m' : Mem} {rs : List Rec} (R : Run P K G n cf ops t m rs t' m') {i j : Nat} (hij : i ≤ j) (hj : j ≤ ops.length) (hl : ∀ h, i ≤ h → h < j → klassAt ops h ≠ 2) :
    ∀ b, b < (mAt rs m' i).size → (mAt rs m' j).get b = (mAt rs m' i).get b := by
  have := R.lightGet (i := i) (j - i) (by omega) (fun h g1 g2 => hl h g1 (by omega))
  rw [show i + (j - i) = j by omega] at this
  exact this
theorem next_heavy (ops : List Oper) : ∀ (k i : Nat), i + k = ops.length → ∃ s, i ≤ s ∧ s ≤ ops.length ∧ (s < ops.length → klassAt ops s = 2) ∧ ∀ h, i ≤ h → h < s → klassAt ops h ≠ 2
  | 0, i, h => ⟨i, Nat.le_refl _, by omega, fun h' => by omega, fun h' g1 g2 => by omega⟩
  | k + 1, i, h => by
    by_cases hk : klassAt ops i = 2
    · exact ⟨i, Nat.le_refl _, by omega, fun _ => hk, fun h' g1 g2 => by omega⟩
    · obtain ⟨s, h1, h2, h3, h4⟩ := next_heavy ops k (i + 1) (by omega)
      refine ⟨s, by omega, h2, h3, fun h' g1 g2 => ?_⟩
      by_cases e : h' = i
      · rw [e]; exact hk
      · exact h4 h' (by omega) g2
theorem Run.owner {cf : CallF} {ops : List Oper} {t t' : Tmps} {m m' : Mem} {rs : List Rec} (R : Run P K G n cf ops t m rs t' m') {i : Nat} : ∀ k, i + k ≤ ops.length → ∀ b, (mAt rs m' i).size ≤ b → b < (mAt rs m' (i + k)).size →
    ∃ j, i ≤ j ∧ j < i + k ∧ (mAt rs m' j).size ≤ b ∧ b < (mAt rs m' (j + 1)).size
  | 0, _, b, h1, h2 => by simp at h2; omega
  | k + 1, h, b, h1, h2 => by
    rcases Nat.lt_or_ge b (mAt rs m' (i + k)).size with hlt | hge
    · obtain ⟨j, g1, g2, g3, g4⟩ := R.owner k (by omega) b h1 hlt
      exact ⟨j, g1, by omega, g3, g4⟩
    · exact ⟨i + k, by omega, by omega, hge, h2⟩
end
end Go.DI
namespace Go.DI
section
variable {P : Program} {K : TypeId → Bool} {G B0 n : Nat} {cf : CallF} {ops : Array Oper} {t t' : Tmps} {m m' : Mem} {rs : List Rec}
structure Reg (P : Program) (K : TypeId → Bool) (G B0 n : Nat) (cf : CallF) (ops : Array Oper) (t : Tmps) (m : Mem) (rs : List Rec) (t' : Tmps) (m' : Mem) : Prop where
  hK : Plain P K
  hcf : CfOK P B0 G cf
  run : Run P K G n cf ops.toList t m rs t' m'
  stat : statB ops.toList (tabD ops.toList []) = true
  c1 : (need1 ops.toList (tabD ops.toList [])).all (chk1 P K G ops.toList rs m') = true
  c2 : (need2 ops.toList (tabD ops.toList [])).all (chk2 rs m') = true
theorem Reg.edges (R : Reg P K G B0 n cf ops t m rs t' m') : edgesB ops.toList 0 = true := by
  have := R.stat
  simp only [statB, Bool.and_eq_true] at this
  exact this.1
theorem Reg.pair (R : Reg P K G B0 n cf ops t m rs t' m') {i j : Nat} (hi : i < ops.size) (hj : j < ops.size) : pairB ops.toList (tabD ops.toList []) i j = true := by
  have := R.stat
  simp only [statB, Bool.and_eq_true, List.all_eq_true, List.mem_range] at this
  exact this.2 i (by simpa using hi) j (by simpa using hj)
theorem blt_iff {a b : Nat} : Nat.blt a b = true ↔ a < b := by
  unfold Nat.blt; rw [Nat.ble_eq]; exact Iff.rfl
theorem Reg.sep (R : Reg P K G B0 n cf ops t m rs t' m') {i j : Nat} {x y : Oper} {d : Tmp} (hx : ops[i]? = some x) (hy : ops[j]? = some y) (hne : i ≠ j) (hd : x.dst = some d) (h : d ∈ looksL ops.toList y ∨ y.dst = some d) :
    (i < j → befB (tabD ops.toList []) i j = true) ∧ (j < i → befB (tabD ops.toList []) j i = true) := by
  have hi : i < ops.size := (Array.getElem?_eq_some_iff.1 hx).1
  have hj : j < ops.size := (Array.getElem?_eq_some_iff.1 hy).1
  have := R.pair hi hj
  unfold pairB at this
  simp only [Array.getElem?_toList, hx, hy, hd, Bool.and_eq_true, Bool.or_eq_true] at this
  obtain ⟨h1, _⟩ := this
  rcases h1 with (h1 | h1) | h1
  · exact absurd (Nat.eq_of_beq_eq_true h1) hne
  · have hc : ((looksL ops.toList y).contains d || y.dst == some d) = true := by
      rcases h with h | h
      · simp [h]
      · simp [h]
    rw [hc] at h1
    simp at h1
  · refine ⟨fun hlt => ?_, fun hlt => ?_⟩
    · rw [blt_iff.2 hlt] at h1; exact h1
    · have : Nat.blt i j = false := by
        cases hb : Nat.blt i j with
        | false => rfl
        | true => have := blt_iff.1 hb; omega
      rw [this] at h1; exact h1
theorem Reg.heavy (R : Reg P K G B0 n cf ops t m rs t' m') {i j : Nat} (hi : i < ops.size) (hj : j < ops.size) (h1 : klassAt ops.toList i = 2) (h2 : klassAt ops.toList j = 2) (hlt : i < j) : befB (tabD ops.toList []) i j = true := by
  have := R.pair hi hj
  unfold pairB at this
  simp only [klassAt, Array.getElem?_toList, Array.getElem?_eq_getElem hi, Array.getElem?_eq_getElem hj] at h1 h2
  simp only [Array.getElem?_toList, Array.getElem?_eq_getElem hi, Array.getElem?_eq_getElem hj, Bool.and_eq_true, Bool.or_eq_true] at this
  obtain ⟨_, h3⟩ := this
  rcases h3 with h3 | h3
  · rw [h1, h2, blt_iff.2 hlt] at h3
    simp at h3
  · exact h3
structure Inv (P : Program) (B0 G n : Nat) (ops : Array Oper) (t : Tmps) (m : Mem) (rs : List Rec) (m' : Mem) (ι0 : Ren) (w0 : World) (a0 : Act) (X : Nat → Bool) (ι : Ren) (M : Mem) (s : Nat) (a : Act) (w : World) : Prop where
  tr : TRel ι n (appX ops.toList rs t X ops.size) a
  sN : s ≤ ops.size
  sh : s < ops.size → klassAt ops.toList s = 2 ∧ X s = false
  sb : ∀ h, h < s → klassAt ops.toList h = 2 → X h = true
  msz : M.size = (mAt rs m' ops.size).size
  g1 : ∀ b, b < (mAt rs m' s).size → M.get b = (mAt rs m' s).get b
  g2 : ∀ i, s < i → i < ops.size → klassAt ops.toList i = 1 → wantAt rs i = true → X i = true → M.get (mAt rs m' i).size = (mAt rs m' (i + 1)).get (mAt rs m' i).size
  jn : ∀ i, i < ops.size → X i = false → ∀ b, (mAt rs m' i).size ≤ b → b < (mAt rs m' (i + 1)).size → ι b = none
  rel : Rel B0 G ι M w
  stp : Stp ι0 ι m M w0 w
  dfr : a.defers = a0.defers
def Clo (ops : Array Oper) (X : Nat → Bool) : Prop := ∀ (j : Nat) (o : Oper), ops.toList[j]? = some o → X j = true → ∀ e ∈ o.after.toList, Region.binds .any e = true → X e.on = true
def addX (X : Nat → Bool) (i : Nat) : Nat → Bool := fun k => if k = i then true else X k
variable {ι0 ι : Ren} {M : Mem} {w0 w : World} {a0 a : Act} {X : Nat → Bool} {s i : Nat} {o : Oper}
theorem Reg.ready (R : Reg P K G B0 n cf ops t m rs t' m') (hC : Clo ops X) (ho : ops[i]? = some o) (hr : ∀ e ∈ o.after.toList, Region.binds .any e = true → X e.on = true) : ∀ k, befB (tabD ops.toList []) k i = true → X k = true :=
  bef_in (X := fun k => X k = true) R.edges (fun j o' hj hx e he hb => hC j o' hj hx e he hb) i o (by simpa using ho) hr
theorem Reg.closed (R : Reg P K G B0 n cf ops t m rs t' m') (hC : Clo ops X) {j : Nat} (hj : j < ops.size) (hx : X j = true) : ∀ k, befB (tabD ops.toList []) k j = true → X k = true := by
  have ho : ops[j]? = some ops[j] := Array.getElem?_eq_getElem hj
  exact R.ready hC ho (fun e he hb => hC j _ (by simp) hx e he hb)
theorem Inv.looks (R : Reg P K G B0 n cf ops t m rs t' m') (hC : Clo ops X) (ho : ops[i]? = some o) (hr : ∀ e ∈ o.after.toList, Region.binds .any e = true → X e.on = true) (hx : X i = false) {d : Tmp} (hd : d ∈ looksL ops.toList o) :
    (appX ops.toList rs t X ops.size).at d = (appX ops.toList rs t (fun _ => true) i).at d := by
  have hi : i < ops.size := (Array.getElem?_eq_some_iff.1 ho).1
  refine appX_agree (by omega) (fun k hk hdk => ?_) (fun k hk hkN hdk => ?_)
  · have hko : ops[k]? = some ops[k] := Array.getElem?_eq_getElem (by omega)
    simp only [dstAt, Array.getElem?_toList, hko] at hdk
    exact R.ready hC ho hr k ((R.sep hko ho (by omega) hdk (.inl hd)).1 hk)
  · by_cases e : k = i
    · rw [e]; exact hx
    · have hko : ops[k]? = some ops[k] := Array.getElem?_eq_getElem hkN
      simp only [dstAt, Array.getElem?_toList, hko] at hdk
      have hb := (R.sep hko ho (by omega) hdk (.inl hd)).2 (by omega)
      cases hxk : X k with
      | false => rfl
      | true => have := R.closed hC hkN hxk i hb; rw [hx] at this; cases this
theorem Inv.evs (R : Reg P K G B0 n cf ops t m rs t' m') (hC : Clo ops X) (ho : ops[i]? = some o) (hr : ∀ e ∈ o.after.toList, Region.binds .any e = true → X e.on = true) (hx : X i = false) :
    ∀ x ∈ operL o.op, ev G (appX ops.toList rs t X ops.size) x = ev G (appX ops.toList rs t (fun _ => true) i) x := by
  intro x hxm
  refine ev_congr fun d hd => Inv.looks R hC ho hr hx ?_
  subst hd
  exact List.mem_append_left _ (List.mem_filterMap.2 ⟨.tmp d, hxm, rfl⟩)
theorem Inv.want (R : Reg P K G B0 n cf ops t m rs t' m') (hC : Clo ops X) (hI : Inv P B0 G n ops t m rs m' ι0 w0 a0 X ι M s a w) (ho : ops[i]? = some o) (hr : ∀ e ∈ o.after.toList, Region.binds .any e = true → X e.on = true) (hx : X i = false) :
    Region.wanted o (yielded ops a.tmps) = wantAt rs i := by
  obtain ⟨r, h1, h2, h3, h4, h5, _⟩ := R.run.step (i := i) (o := o) (by simpa using ho)
  rw [← yield_rel hI.tr]
  simp only [wantAt, h1, h5, h2]
  unfold Region.wanted
  cases hg : o.guard with
  | none => rfl
  | some gw =>
    obtain ⟨g, wv⟩ := gw
    have : yieldD ops.toList (appX ops.toList rs t X ops.size) g = yieldD ops.toList (appX ops.toList rs t (fun _ => true) i) g := by
      unfold yieldD
      cases hgo : ops.toList[g]? with
      | none => rfl
      | some og =>
        cases hgd : og.dst with
        | none => simp only [hgd]
        | some d =>
          simp only [hgd]
          rw [Inv.looks R hC ho hr hx (d := d) (by
            refine List.mem_append_right _ ?_
            simp [hg, hgo, hgd])]
    simp only [this]
theorem Inv.slots (R : Reg P K G B0 n cf ops t m rs t' m') (hC : Clo ops X) (hI : Inv P B0 G n ops t m rs m' ι0 w0 a0 X ι M s a w) (ho : ops[i]? = some o) (hx : X i = false) {ι' : Ren} (hle : ι.le ι') {v' : Value} (hv : VRel ι' (valAt rs i) v') :
    TRel ι' n (appX ops.toList rs t (addX X i) ops.size) (a.put o.dst v') := by
  have hi : i < ops.size := (Array.getElem?_eq_some_iff.1 ho).1
  obtain ⟨r, h1, h2, h3, h4, _⟩ := R.run.step (i := i) (o := o) (by simpa using ho)
  have hd : dstAt ops.toList i = o.dst := by simp [dstAt, ho]
  refine TRel.congr (fun d => (appX_set hi hx (by simp [addX]) (fun k hk => by simp [addX, hk]) (fun k d hk hkN hdk hdi => ?_) d).symm) (TRel.putD (hI.tr.mono hle) (dst := dstAt ops.toList i) (by rw [hd]; exact h4) hv |> fun h => by rw [hd] at h ⊢; exact h)
  have hko : ops[k]? = some ops[k] := Array.getElem?_eq_getElem hkN
  rw [hd] at hdi
  have hdk' : ops[k].dst = some d := by simpa [dstAt, hko] using hdk
  have hb := (R.sep hko ho (by omega) hdk' (.inr hdi)).2 hk
  cases hxk : X k with
  | false => rfl
  | true => have := R.closed hC hkN hxk i hb; rw [hx] at this; cases this
theorem Inv.here (R : Reg P K G B0 n cf ops t m rs t' m') (hI : Inv P B0 G n ops t m rs m' ι0 w0 a0 X ι M s a w) : Rel B0 G ι (mAt rs m' s) w := by
  have hs := (R.run.mono hI.sN (by simp)).size
  exact hI.rel.restrict (R.run.topAt (by simp; exact hI.sN)) (by rw [hI.msz]; simpa using hs) hI.g1
theorem Inv.quiet (R : Reg P K G B0 n cf ops t m rs t' m') (hC : Clo ops X) (hI : Inv P B0 G n ops t m rs m' ι0 w0 a0 X ι M s a w) (ho : ops[i]? = some o) (hx : X i = false) (hk : klassAt ops.toList i ≠ 2) (hnot : klassAt ops.toList i = 1 → wantAt rs i = false) {v' : Value} (hv : VRel ι (valAt rs i) v') :
    Inv P B0 G n ops t m rs m' ι0 w0 a0 (addX X i) ι M s (a.put o.dst v') w := by
  have hne : s < ops.size → s ≠ i := fun h e => hk (by rw [← e]; exact (hI.sh h).1)
  refine ⟨Inv.slots R hC hI ho hx (fun _ _ h => h) hv, hI.sN, fun h => ⟨(hI.sh h).1, ?_⟩, fun h h1 h2 => ?_, hI.msz, hI.g1, fun j h1 h2 h3 h4 h5 => ?_, fun j hj hxj => hI.jn j hj ?_, hI.rel, hI.stp, (put_defers _ _ _).trans hI.dfr⟩
  · simp [addX, hne h, (hI.sh h).2]
  · unfold addX; split
    · rfl
    · exact hI.sb h h1 h2
  · by_cases e : j = i
    · rw [e] at h3 h4; rw [hnot h3] at h4; cases h4
    · exact hI.g2 j h1 h2 h3 h4 (by simpa [addX, e] using h5)
  · by_cases e : j = i
    · rw [e] at hxj; simp [addX] at hxj
    · simpa [addX, e] using hxj
theorem Inv.alloc (R : Reg P K G B0 n cf ops t m rs t' m') (hC : Clo ops X) (hI : Inv P B0 G n ops t m rs m' ι0 w0 a0 X ι M s a w) (ho : ops[i]? = some o) (hx : X i = false) (hk : klassAt ops.toList i = 1) {x : Blk} {q : Made}
    (hval : valAt rs i = q.val (mAt rs m' i).size) (hpush : mAt rs m' (i + 1) = (mAt rs m' i).push x) (hw : wantAt rs i = true) {ob : Obj} {k : Nat}
    (hnew : ∀ ι' : Ren, ι.le ι' → BlkRel B0 ι' x ⟨w.heap.size, 0, k⟩ (w.alloc ob)) :
    ∃ ι' M', Inv P B0 G n ops t m rs m' ι0 w0 a0 (addX X i) ι' M' s (a.put o.dst (q.val w.heap.size)) (w.alloc ob) := by
  have hi : i < ops.size := (Array.getElem?_eq_some_iff.1 ho).1
  have hL : ops.toList.length = ops.size := by simp
  have hne : s < ops.size → s ≠ i := fun h e => by have := (hI.sh h).1; rw [e, hk] at this; cases this
  have hsi : s ≠ i := by
    rcases Nat.lt_or_ge s ops.size with h | h
    · exact hne h
    · omega
  obtain ⟨b0, hb0⟩ : ∃ b0, b0 = (mAt rs m' i).size := ⟨_, rfl⟩
  have hsz1 : (mAt rs m' (i + 1)).size = b0 + 1 := by rw [hpush, hb0]; rfl
  have hU : b0 < M.size := by
    have := (R.run.mono (i := i + 1) (j := ops.size) (by omega) (by omega)).size
    rw [hI.msz]; omega
  have hnone : ι b0 = none := hI.jn i hi hx b0 (by omega) (by omega)
  have hgx : (mAt rs m' (i + 1)).get b0 = x := by rw [hpush, hb0, Mem.get_push_same]
  have hle : ι.le (fun b => if b = b0 then some ⟨w.heap.size, 0, k⟩ else ι b) := by
    intro b L hb
    have : b ≠ b0 := by intro e; rw [e, hnone] at hb; cases hb
    simp [this, hb]
  have hkept : i < s → (mAt rs m' s).get b0 = x := by
    intro his
    have main : ∀ c, i + 1 + c ≤ s → (mAt rs m' (i + 1 + c)).get b0 = x := by
      intro c
      induction c with
      | zero => intro _; exact hgx
      | succ c ih =>
        intro hc
        have ih := ih (by omega)
        have hlt : i + 1 + c < ops.size := by have := hI.sN; omega
        by_cases hh : klassAt ops.toList (i + 1 + c) = 2
        · have hX := hI.sb (i + 1 + c) (by omega) hh
          have hnb : befB (tabD ops.toList []) i (i + 1 + c) = false := by
            cases hb : befB (tabD ops.toList []) i (i + 1 + c) with
            | false => rfl
            | true => have := R.closed hC hlt hX i hb; rw [hx] at this; cases this
          have hmem : (i, i + 1 + c) ∈ need2 ops.toList (tabD ops.toList []) := by
            unfold need2
            refine List.mem_flatMap.2 ⟨i, List.mem_range.2 (by omega), ?_⟩
            rw [show Nat.beq (klassAt ops.toList i) 1 = true by rw [hk]; rfl, cond_true]
            refine List.mem_filterMap.2 ⟨i + 1 + c, List.mem_range.2 (by omega), ?_⟩
            have hbl : Nat.blt i (i + 1 + c) = true := blt_iff.2 (by omega)
            simp only [hbl, hh, hnb, Bool.true_and, Bool.not_false, Bool.and_true]
            rfl
          have := List.all_eq_true.1 R.c2 _ hmem
          unfold chk2 at this
          obtain ⟨r, h1, h2, h3, _⟩ := R.run.step (i := i) (o := o) (by simpa using ho)
          have hwr : r.want = true := by simpa [wantAt, h1] using hw
          simp only [h1, hwr, Bool.not_true, Bool.false_or, h3] at this
          have := blkEq_eq this
          rw [← hb0, hgx] at this
          exact this
        · have := R.run.kept (i := i + 1 + c) (j := i + 1 + c + 1) (by omega) (by omega) (fun h g1 g2 => by rw [show h = i + 1 + c by omega]; exact hh) b0 (by
            have := (R.run.mono (i := i + 1) (j := i + 1 + c) (by omega) (by omega)).size
            omega)
          show (mAt rs m' (i + 1 + c + 1)).get b0 = x
          rw [this]; exact ih
    have := main (s - (i + 1)) (by omega)
    rw [show i + 1 + (s - (i + 1)) = s by omega] at this
    exact this
  let M' : Mem := ⟨fun b => if b = b0 then x else M.get b, .nil, M.size⟩
  have hg' : ∀ b, M'.get b = if b = b0 then x else M.get b := fun b => by simp [M', Mem.get, Tr.get_nil]
  have hrel := Rel.lay (M' := M') hI.rel hU hnone rfl (by rw [hg']; simp) (fun b hb => by rw [hg']; simp [hb]) (hnew _ hle)
  have hdist : ∀ j, j < ops.size → j ≠ i → ∀ b, (mAt rs m' j).size ≤ b → b < (mAt rs m' (j + 1)).size → b ≠ b0 := by
    intro j hj hji b h1 h2 e
    rcases Nat.lt_or_ge j i with hlt | hge
    · have := (R.run.mono (i := j + 1) (j := i) (by omega) (by omega)).size; omega
    · have := (R.run.mono (i := i + 1) (j := j) (by omega) (by omega)).size; omega
  refine ⟨_, M', Inv.slots R hC hI ho hx hle ?_, hI.sN, fun h => ⟨(hI.sh h).1, ?_⟩, fun h h1 h2 => ?_, hI.msz, fun b hb => ?_, fun j h1 h2 h3 h4 h5 => ?_, fun j hj hxj b h1 h2 => ?_, hrel, ?_, (put_defers _ _ _).trans hI.dfr⟩
  · rw [hval, ← hb0]
    exact Made.rel (k := k) (by simp) q
  · simp [addX, hsi, (hI.sh h).2]
  · unfold addX; split
    · rfl
    · exact hI.sb h h1 h2
  · rw [hg']
    by_cases e : b = b0
    · subst e
      have his : i < s := by
        rcases Nat.lt_or_ge i s with h | h
        · exact h
        · have := (R.run.mono (i := s) (j := i) h (by omega)).size; omega
      rw [if_pos rfl, hkept his]
    · rw [if_neg e]; exact hI.g1 b hb
  · by_cases e : j = i
    · subst e
      rw [hg', if_pos hb0.symm, ← hb0, hgx]
    · rcases R.run.light (i := j) (by omega) (by rw [h3]; decide) with ⟨_, g⟩ | ⟨_, _, x', q', _, _, g⟩
      · rw [g h3] at h4; cases h4
      · have hb1 : (mAt rs m' j).size < (mAt rs m' (j + 1)).size := by rw [g]; simp
        rw [hg', if_neg (hdist j h2 e _ (Nat.le_refl _) hb1)]
        exact hI.g2 j h1 h2 h3 h4 (by simpa [addX, e] using h5)
  · have e : j ≠ i := by intro e; rw [e] at hxj; simp [addX] at hxj
    simp only [hdist j hj e b h1 h2, if_false]
    exact hI.jn j hj (by simpa [addX, e] using hxj) b h1 h2
  · have hms : m.size ≤ b0 := by
      have := (R.run.mono (i := 0) (j := i) (Nat.zero_le _) (by omega)).size
      rw [R.run.zero] at this; omega
    refine ⟨fun b L hb => hle _ _ (hI.stp.ext _ _ hb), fun b hb => ?_, hI.stp.os, hI.stp.output, hI.stp.tape, by have := hI.stp.hsize; simp; omega, fun B hB hn => ?_, fun b L h1 h2 hb => ?_, hI.stp.msize, fun b hb hown => ?_⟩
    · have : b ≠ b0 := by
        rcases hb with hb | hb
        · omega
        · have : M'.size = M.size := rfl
          omega
      simp only [this, if_false]
      exact hI.stp.out b hb
    · have := hI.stp.hsize
      rw [show (w.alloc ob).heap[B]? = w.heap[B]? by show (w.heap.push ob)[B]? = _; rw [Array.getElem?_push, if_neg (by omega)]]
      exact hI.stp.frame B hB hn
    · by_cases e : b = b0
      · simp only [e, if_true] at hb
        cases hb
        exact .inl hI.stp.hsize
      · simp only [e, if_false] at hb
        exact hI.stp.new b L h1 h2 hb
    · rw [hg', if_neg (by omega)] at hown
      exact hI.stp.ownk b hb hown
theorem Inv.advance (R : Reg P K G B0 n cf ops t m rs t' m') (hC : Clo ops X) (hI : Inv P B0 G n ops t m rs m' ι0 w0 a0 X ι M s a w) (ho : ops[s]? = some o) (hx : X s = false) {ι' : Ren} {w' : World} {v' : Value}
    (hrel : Rel B0 G ι' (mAt rs m' (s + 1)) w') (hstp : Stp ι ι' (mAt rs m' s) (mAt rs m' (s + 1)) w w') (hv : VRel ι' (valAt rs s) v') :
    ∃ M' s', Inv P B0 G n ops t m rs m' ι0 w0 a0 (addX X s) ι' M' s' (a.put o.dst v') w' := by
  have hi : s < ops.size := (Array.getElem?_eq_some_iff.1 ho).1
  have hL : ops.toList.length = ops.size := by simp
  have hks := (hI.sh hi).1
  obtain ⟨s', hs1, hs2, hs3, hs4⟩ := next_heavy ops.toList (ops.size - (s + 1)) (s + 1) (by omega)
  have hkept := R.run.kept (i := s + 1) (j := s') hs1 hs2 (fun h g1 g2 => hs4 h g1 g2)
  have z1 := (R.run.mono (i := s) (j := s + 1) (by omega) (by omega)).size
  have z2 := (R.run.mono (i := s + 1) (j := s') hs1 hs2).size
  have z3 := (R.run.mono (i := s') (j := ops.size) (by omega) (by omega)).size
  have z0 := (R.run.mono (i := 0) (j := s) (Nat.zero_le _) (by omega)).size
  rw [R.run.zero] at z0
  have hms := hI.msz
  let M' : Mem := ⟨fun b => if b < (mAt rs m' s').size then (mAt rs m' s').get b else M.get b, .nil, M.size⟩
  have hg' : ∀ b, M'.get b = if b < (mAt rs m' s').size then (mAt rs m' s').get b else M.get b := fun b => by simp [M', Mem.get, Tr.get_nil]
  have hgl : ∀ b, b < (mAt rs m' (s + 1)).size → M'.get b = (mAt rs m' (s + 1)).get b := fun b hb => by
    rw [hg', if_pos (by omega)]; exact hkept b hb
  have hgh : ∀ b L, (mAt rs m' (s + 1)).size ≤ b → b < M.size → ι b = some L → M'.get b = M.get b := by
    intro b L h1 h2 hb
    rw [hg']
    split
    · rename_i hlt
      obtain ⟨j, g1, g2, g3, g4⟩ := R.run.owner (i := s + 1) (s' - (s + 1)) (by omega) b h1 (by rw [show s + 1 + (s' - (s + 1)) = s' by omega]; exact hlt)
      have hjN : j < ops.size := by omega
      have hXj : X j = true := by
        cases hxj : X j with
        | true => rfl
        | false => have := hI.jn j hjN hxj b g3 g4; rw [this] at hb; cases hb
      rcases R.run.light (i := j) (by omega) (hs4 j g1 (by omega)) with ⟨e, _⟩ | ⟨k1, k2, x, q, _, _, e⟩
      · rw [e] at g4; omega
      · have hbj : b = (mAt rs m' j).size := by rw [e] at g4; simp at g4; omega
        have hb2 := hI.g2 j (by omega) hjN k1 k2 hXj
        rw [hbj, hb2]
        exact R.run.kept (i := j + 1) (j := s') (by omega) hs2 (fun h q1 q2 => hs4 h (by omega) q2) _ (by rw [e]; simp)
    · rfl
  have hout : ∀ b, (mAt rs m' (s + 1)).size ≤ b → ι' b = ι b := fun b hb => hstp.out b (.inr hb)
  have hfr : ∀ b L, (mAt rs m' (s + 1)).size ≤ b → b < M.size → ι b = some L → (M.get b).live → w'.heap[L.block]? = w.heap[L.block]? := by
    intro b L h1 h2 hb hlv
    refine hstp.frame _ (hI.rel.old b L hb hlv) fun b1 L1 k1 k2 k3 e => ?_
    rw [← hI.g1 b1 k1] at k3
    have l1 : (M.get b1).live := by cases hg : M.get b1 <;> simp_all [Blk.own, Blk.live]
    have := hI.rel.inj b1 b L1 L (by omega) h2 k2 hb l1 hlv ((hI.rel.blk b1 L1 (by omega) k2).own_floor k3) e
    omega
  have hrel' : Rel B0 G ι' M' w' := by
    refine ⟨fun b L hb hL => ?_, fun b₁ b₂ L₁ L₂ h1 h2 h3 h4 l1 l2 g0 e => ?_, hrel.floor, hrel.glob, fun b hb => ?_⟩
    · rcases Nat.lt_or_ge b (mAt rs m' (s + 1)).size with hlt | hge
      · rw [hgl b hlt]; exact hrel.blk b L hlt hL
      · rw [hout b hge] at hL
        rw [hgh b L hge hb hL]
        have hbr := hI.rel.blk b L hb hL
        by_cases hlv : (M.get b).live
        · exact hbr.mono hstp.ext (hfr b L hge hb hL hlv)
        · cases hg : M.get b <;> simp_all [Blk.live, BlkRel]
    · have mixed : ∀ b₁ b₂ L₁ L₂, b₁ < (mAt rs m' (s + 1)).size → (mAt rs m' (s + 1)).size ≤ b₂ → b₂ < M.size → ι' b₁ = some L₁ → ι' b₂ = some L₂ → (M'.get b₁).live → (M'.get b₂).live → B0 ≤ L₁.block → L₁.block = L₂.block → False := by
        intro b₁ b₂ L₁ L₂ h1 h2 h2' h3 h4 l1 l2 g0 e
        rw [hout b₂ h2] at h4
        rw [hgl b₁ h1] at l1
        rw [hgh b₂ L₂ h2 h2' h4] at l2
        rcases Nat.lt_or_ge b₁ (mAt rs m' s).size with hlt | hge
        · rw [hstp.out b₁ (.inl hlt)] at h3
          have l1' := (R.run.grow1 (i := s) (by omega)).live b₁ hlt l1
          rw [← hI.g1 b₁ hlt] at l1'
          have := hI.rel.inj b₁ b₂ L₁ L₂ (by omega) h2' h3 h4 l1' l2 g0 e
          omega
        · rcases hstp.new b₁ L₁ hge h1 h3 with g | ⟨b0, L0, q1, q2, q3, q4⟩
          · have := hI.rel.old b₂ L₂ h4 l2; omega
          · rw [← hI.g1 b0 q1] at q3
            have l0 : (M.get b0).live := by cases hg : M.get b0 <;> simp_all [Blk.own, Blk.live]
            have := hI.rel.inj b0 b₂ L0 L₂ (by omega) h2' q2 h4 l0 l2 (Nat.le_trans g0 (Nat.le_of_eq q4.symm)) (q4.trans e)
            omega
      rcases Nat.lt_or_ge b₁ (mAt rs m' (s + 1)).size with hlt1 | hge1
      · rcases Nat.lt_or_ge b₂ (mAt rs m' (s + 1)).size with hlt2 | hge2
        · rw [hgl b₁ hlt1] at l1
          rw [hgl b₂ hlt2] at l2
          exact hrel.inj b₁ b₂ L₁ L₂ hlt1 hlt2 h3 h4 l1 l2 g0 e
        · exact (mixed b₁ b₂ L₁ L₂ hlt1 hge2 h2 h3 h4 l1 l2 g0 e).elim
      · rcases Nat.lt_or_ge b₂ (mAt rs m' (s + 1)).size with hlt2 | hge2
        · exact (mixed b₂ b₁ L₂ L₁ hlt2 hge1 h1 h4 h3 l2 l1 (Nat.le_trans g0 (Nat.le_of_eq e)) e.symm).elim
        · rw [hout b₁ hge1] at h3
          rw [hout b₂ hge2] at h4
          rw [hgh b₁ L₁ hge1 h1 h3] at l1
          rw [hgh b₂ L₂ hge2 h2 h4] at l2
          exact hI.rel.inj b₁ b₂ L₁ L₂ h1 h2 h3 h4 l1 l2 g0 e
    · have hb' : M.size ≤ b := hb
      rw [hg', if_neg (by omega)]
      exact hI.rel.top b hb'
  refine ⟨M', s', Inv.slots R hC hI ho hx hstp.ext hv, by omega, fun h => ⟨hs3 (by omega), ?_⟩, fun h h1 h2 => ?_, hI.msz, fun b hb => by rw [hg', if_pos hb], fun j h1 h2 h3 h4 h5 => ?_, fun j hj hxj b h1 h2 => ?_, hrel', ?_, (put_defers _ _ _).trans hI.dfr⟩
  · have hne : s' ≠ s := by omega
    simp only [addX, hne, if_false]
    cases hxs : X s' with
    | false => rfl
    | true =>
      have := R.closed hC h hxs s (R.heavy hi h hks (hs3 (by omega)) (by omega))
      rw [hx] at this; cases this
  · unfold addX; split
    · rfl
    · rename_i hne
      rcases Nat.lt_or_ge h s with hlt | hge
      · exact hI.sb h hlt h2
      · exact absurd h2 (hs4 h (by omega) h1)
  · have hne : j ≠ s := by omega
    have hz := (R.run.mono (i := s') (j := j) (by omega) (by omega)).size
    rw [hg', if_neg (by omega)]
    exact hI.g2 j (by omega) h2 h3 h4 (by simpa [addX, hne] using h5)
  · have hne : j ≠ s := by intro e; rw [e] at hxj; simp [addX] at hxj
    have hxj' : X j = false := by simpa [addX, hne] using hxj
    rw [hstp.out b ?_]
    · exact hI.jn j hj hxj' b h1 h2
    · rcases Nat.lt_or_ge j s with hlt | hge
      · have := (R.run.mono (i := j + 1) (j := s) (by omega) (by omega)).size
        exact .inl (by omega)
      · have := (R.run.mono (i := s + 1) (j := j) (by omega) (by omega)).size
        exact .inr (by omega)
  · exact Stp.inner hI.stp hstp z0 (by omega) hI.g1 rfl (fun b hb => hgl b (by omega))
end
end Go.DI
