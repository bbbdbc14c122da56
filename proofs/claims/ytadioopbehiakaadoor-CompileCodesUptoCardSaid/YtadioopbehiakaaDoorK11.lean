/-
  DiHeap: objects of one's own, each a block with a slice in it and the slice's elements in another block; what is done to one leaves the others.
-/
import Derived.Test.YtadioopbehiakaaDoorK10
set_option linter.all false
set_option linter.unusedVariables false
set_option linter.unusedSimpArgs false
namespace Go.DI
namespace Kit
noncomputable section
structure Thing where
  pre : List Value
  post : List Value
  z : Nat
  n : Nat
  c : List Value
def slV (b : Option Nat) (z n : Nat) : Value := match b with | none => .slice none 0 0 | some c => .slice (some ⟨c, 0, some z⟩) n n
def bufOk (M : Mem) (b : Option Nat) (n : Nat) (l : List Value) : Prop := match b with | none => n = 0 ∧ l = [] | some c => M.get c = .cells true l
structure At (M : Mem) (p : Nat) (b : Option Nat) (o : Thing) : Prop where
  cells : M.get p = .cells true (o.pre ++ slV b o.z o.n :: o.post)
  buf : bufOk M b o.n o.c
  len : o.c.length = o.n * o.z
  ones : o.c.all one = true
inductive HpL (M : Mem) : List (Nat × Thing) → List Nat → Prop
  | nil : HpL M [] []
  | cons {p : Nat} {b : Option Nat} {o : Thing} {hs : List (Nat × Thing)} {F : List Nat} : At M p b o → HpL M hs F → HpL M ((p, o) :: hs) (p :: (b.toList ++ F))
abbrev Keep := Nat → Option Blk
def Hp (M : Mem) (K : Keep) (hs : List (Nat × Thing)) : Prop := M.top ∧ (∀ j x, K j = some x → j < M.size ∧ M.get j = x) ∧ ∃ F, HpL M hs F ∧ F.Nodup ∧ ∀ x ∈ F, K x = none ∧ x < M.size
theorem Hp.top {M : Mem} {K : Keep} {hs : List (Nat × Thing)} (h : Hp M K hs) : M.top := h.1
theorem Hp.get {M : Mem} {K : Keep} {hs : List (Nat × Thing)} (h : Hp M K hs) {j : Nat} {x : Blk} (hj : K j = some x) : M.get j = x := (h.2.1 j x hj).2
theorem Hp.lt {M : Mem} {K : Keep} {hs : List (Nat × Thing)} (h : Hp M K hs) {j : Nat} {x : Blk} (hj : K j = some x) : j < M.size := (h.2.1 j x hj).1
theorem At.mono {M M' : Mem} {p : Nat} {b : Option Nat} {o : Thing} (h : At M p b o) (hm : ∀ x ∈ p :: b.toList, M'.get x = M.get x) : At M' p b o := by
  refine ⟨by rw [hm p (List.mem_cons_self ..)]; exact h.cells, ?_, h.len, h.ones⟩
  have := h.buf
  cases b with
  | none => exact this
  | some c => show M'.get c = _; rw [hm c (by simp)]; exact this
theorem HpL.mono {M M' : Mem} {hs : List (Nat × Thing)} {F : List Nat} (h : HpL M hs F) (hm : ∀ x ∈ F, M'.get x = M.get x) : HpL M' hs F := by
  induction h with
  | nil => exact .nil
  | cons hA _ ih => exact .cons (hA.mono fun x hx => hm x (by simp at hx ⊢; rcases hx with h | h <;> simp [h])) (ih fun x hx => hm x (by simp [hx]))
theorem HpL.perm {M : Mem} {hs hs' : List (Nat × Thing)} (hp : hs.Perm hs') : ∀ {F : List Nat}, HpL M hs F → ∃ F', HpL M hs' F' ∧ F.Perm F' := by
  induction hp with
  | nil => intro F h; exact ⟨F, h, .refl _⟩
  | cons x _ ih =>
    intro F h
    cases h with
    | cons hA hL =>
      obtain ⟨F', h1, h2⟩ := ih hL
      exact ⟨_, .cons hA h1, .cons _ (h2.append_left _)⟩
  | swap x y l =>
    intro F h
    cases h with
    | cons hA hL =>
      cases hL with
      | cons hA' hL' =>
        refine ⟨_, .cons hA' (.cons hA hL'), ?_⟩
        rename_i p b o p' b' o' F
        show ((p :: b.toList) ++ ((p' :: b'.toList) ++ F)).Perm ((p' :: b'.toList) ++ ((p :: b.toList) ++ F))
        rw [← List.append_assoc, ← List.append_assoc]
        exact List.perm_append_comm.append_right _
  | trans _ _ ih1 ih2 =>
    intro F h
    obtain ⟨F1, h1, p1⟩ := ih1 h
    obtain ⟨F2, h2, p2⟩ := ih2 h1
    exact ⟨F2, h2, p1.trans p2⟩
theorem Hp.perm {M : Mem} {K : Keep} {hs hs' : List (Nat × Thing)} (h : Hp M K hs) (hp : hs.Perm hs') : Hp M K hs' := by
  obtain ⟨ht, hK, F, h1, h2, h3⟩ := h
  obtain ⟨F', h4, h5⟩ := h1.perm hp
  exact ⟨ht, hK, F', h4, h5.nodup_iff.1 h2, fun x hx => h3 x (h5.mem_iff.2 hx)⟩
theorem Hp.tail {M : Mem} {K : Keep} {x : Nat × Thing} {hs : List (Nat × Thing)} (h : Hp M K (x :: hs)) : Hp M K hs := by
  obtain ⟨ht, hK, F, h1, h2, h3⟩ := h
  cases h1 with
  | cons hA hL =>
    have h2 := (List.nodup_cons.1 h2).2
    exact ⟨ht, hK, _, hL, (List.nodup_append.1 h2).2.1, fun x hx => h3 x (by simp [hx])⟩
theorem Hp.ext {M M' : Mem} {K : Keep} {hs : List (Nat × Thing)} (h : Hp M K hs) (hx : Ext M M') : Hp M' K hs := by
  obtain ⟨ht, hK, F, h1, h2, h3⟩ := h
  exact ⟨hx.top ht, fun j x hj => ⟨Nat.lt_of_lt_of_le (hK j x hj).1 hx.size, (hx.get j (hK j x hj).1).trans (hK j x hj).2⟩, F, h1.mono fun x hx' => hx.get x (h3 x hx').2, h2, fun x hx' => ⟨(h3 x hx').1, Nat.lt_of_lt_of_le (h3 x hx').2 hx.size⟩⟩
theorem Hp.weak {M : Mem} {K K' : Keep} {hs : List (Nat × Thing)} (h : Hp M K' hs) (hw : ∀ j x, K j = some x → K' j = some x) : Hp M K hs := by
  obtain ⟨ht, hK, F, h1, h2, h3⟩ := h
  refine ⟨ht, fun j x hj => hK j x (hw j x hj), F, h1, h2, fun x hx => ⟨?_, (h3 x hx).2⟩⟩
  cases hk : K x with
  | none => rfl
  | some y => have := hw x y hk; rw [(h3 x hx).1] at this; cases this
def keepAll (M : Mem) : Keep := fun j => if j < M.size then some (M.get j) else none
theorem Hp.all {M : Mem} (h : M.top) : Hp M (keepAll M) [] := by
  refine ⟨h, fun j x hj => ?_, [], .nil, List.nodup_nil, fun x hx => by simp at hx⟩
  unfold keepAll at hj
  split at hj
  · rename_i hl; exact ⟨hl, Option.some.inj hj⟩
  · cases hj
def keep1 (K : Keep) (b : Nat) (x : Blk) : Keep := fun j => if j = b then some x else K j
theorem keep1_same (K : Keep) (b : Nat) (x : Blk) : keep1 K b x b = some x := if_pos rfl
theorem keep1_ne {K : Keep} {b j : Nat} {x : Blk} (h : j ≠ b) : keep1 K b x j = K j := if_neg h
theorem Hp.box {M M' : Mem} {K : Keep} {hs : List (Nat × Thing)} (h : Hp M K hs) {b : Nat} {x : Blk} (hx : Ext M M') (h1 : M.size ≤ b) (h2 : b < M'.size) (hb : M'.get b = x) : Hp M' (keep1 K b x) hs ∧ ∀ j y, K j = some y → keep1 K b x j = some y := by
  obtain ⟨ht, hK, F, hL, hn, h3⟩ := h
  refine ⟨⟨hx.top ht, fun j y hj => ?_, F, hL.mono fun x hx' => hx.get x (h3 x hx').2, hn, fun y hy => ?_⟩, fun j y hj => ?_⟩
  · by_cases hjb : j = b
    · subst hjb; rw [keep1_same] at hj; cases hj; exact ⟨h2, hb⟩
    · rw [keep1_ne hjb] at hj
      exact ⟨Nat.lt_of_lt_of_le (hK j y hj).1 hx.size, (hx.get j (hK j y hj).1).trans (hK j y hj).2⟩
  · have := h3 y hy
    rw [keep1_ne (by omega)]
    exact ⟨this.1, Nat.lt_of_lt_of_le this.2 hx.size⟩
  · have := (hK j y hj).1
    rw [keep1_ne (by omega)]; exact hj
theorem Hp.boxP {M : Mem} {K : Keep} {hs : List (Nat × Thing)} (h : Hp M K hs) (x : Blk) : Hp (M.push x) (keep1 K M.size x) hs ∧ ∀ j y, K j = some y → keep1 K M.size x j = some y :=
  h.box (Ext.push _ _) (Nat.le_refl _) (by show M.size < M.size + 1; omega) (Mem.get_push_same _ _)
theorem Hp.push {M : Mem} {K : Keep} {hs : List (Nat × Thing)} (h : Hp M K hs) (pre post : List Value) (z : Nat) : Hp (M.push (.cells true (pre ++ .slice none 0 0 :: post))) K ((M.size, ⟨pre, post, z, 0, []⟩) :: hs) := by
  have h' := h.ext (Ext.push M (.cells true (pre ++ .slice none 0 0 :: post)))
  obtain ⟨ht, hK, F, h1, h2, h3⟩ := h
  obtain ⟨ht', hK', _⟩ := h'
  refine ⟨ht', hK', M.size :: ((none : Option Nat).toList ++ F), .cons ⟨Mem.get_push_same _ _, ⟨rfl, rfl⟩, by simp, rfl⟩ (h1.mono fun x hx => Mem.get_push_ne _ (by have := (h3 x hx).2; omega) _), ?_, fun x hx => ?_⟩
  · simp only [Option.toList_none, List.nil_append]
    exact List.nodup_cons.2 ⟨fun hm => by have := (h3 _ hm).2; omega, h2⟩
  · simp only [Option.toList_none, List.nil_append, List.mem_cons] at hx
    rcases hx with rfl | hx
    · refine ⟨?_, by simp⟩
      cases hk : K M.size with
      | none => rfl
      | some y => have := (hK _ _ hk).1; omega
    · have := h3 x hx
      exact ⟨this.1, by simp; omega⟩
theorem splice_mid (pre post : List Value) (x y : Value) : splice (pre ++ x :: post) pre.length [y] = pre ++ y :: post := by
  unfold splice
  rw [List.take_left, show pre.length + [y].length = pre.length + 1 from rfl]
  simp
theorem keep_set {M : Mem} {K : Keep} {p : Nat} {x : Blk} (hK : ∀ j x, K j = some x → j < M.size ∧ M.get j = x) (hp : K p = none) : ∀ j y, K j = some y → j < (M.set p x).size ∧ (M.set p x).get j = y := by
  intro j y hj
  have hne : j ≠ p := by rintro rfl; rw [hp] at hj; cases hj
  exact ⟨(hK j y hj).1, (Mem.get_set_ne _ hne _).trans (hK j y hj).2⟩
theorem keep_push {M : Mem} {K : Keep} {x : Blk} (hK : ∀ j x, K j = some x → j < M.size ∧ M.get j = x) : ∀ j y, K j = some y → j < (M.push x).size ∧ (M.push x).get j = y := by
  intro j y hj
  have := hK j y hj
  exact ⟨by show j < M.size + 1; omega, (Mem.get_push_ne _ (by omega) _).trans this.2⟩
theorem keep_ext {M M' : Mem} {K : Keep} (hK : ∀ j x, K j = some x → j < M.size ∧ M.get j = x) (hx : Ext M M') : ∀ j y, K j = some y → j < M'.size ∧ M'.get j = y := by
  intro j y hj
  have := hK j y hj
  exact ⟨Nat.lt_of_lt_of_le this.1 hx.size, (hx.get j this.1).trans this.2⟩
theorem top_set {M : Mem} {p : Nat} {x : Blk} (ht : M.top) (hp : p < M.size) : (M.set p x).top := fun j hj => by
  have hj : M.size ≤ j := hj
  rw [Mem.get_set_ne _ (by omega)]; exact ht j hj
theorem top_push {M : Mem} {x : Blk} (ht : M.top) : (M.push x).top := (Ext.push M x).top ht
theorem Hp.set {M : Mem} {K : Keep} {p : Nat} {o : Thing} {hs : List (Nat × Thing)} (h : Hp M K ((p, o) :: hs)) : p < M.size ∧ K p = none ∧ ∃ u, (∃ a, u = .slice a o.n o.n) ∧ M.get p = .cells true (o.pre ++ u :: o.post) ∧
    ∀ pre post, Hp (M.set p (.cells true (pre ++ u :: post))) K ((p, { o with pre := pre, post := post }) :: hs) := by
  obtain ⟨ht, hK, F, h1, h2, h3⟩ := h
  cases h1 with
  | cons hA hL =>
    rename_i b F
    have hp := h3 p (List.mem_cons_self ..)
    have hn := List.nodup_cons.1 h2
    refine ⟨hp.2, hp.1, _, ?_, hA.cells, fun pre post => ⟨top_set ht hp.2, keep_set hK hp.1, _, .cons (b := b) ⟨Mem.get_set_same _ _ _, ?_, hA.len, hA.ones⟩ (hL.mono fun x hx => Mem.get_set_ne _ (by rintro rfl; exact hn.1 (by simp [hx])) _), h2, h3⟩⟩
    · have := hA.buf
      cases b with
      | none => exact ⟨none, by show Value.slice none 0 0 = _; rw [this.1]⟩
      | some c => exact ⟨_, rfl⟩
    · have := hA.buf
      cases b with
      | none => exact this
      | some c =>
        show (M.set p _).get c = _
        rw [Mem.get_set_ne _ (by rintro rfl; exact hn.1 (by simp))]; exact this
theorem Hp.poke {M : Mem} {K : Keep} {p : Nat} {o : Thing} {hs : List (Nat × Thing)} (h : Hp M K ((p, o) :: hs)) (hn0 : 0 < o.n) : ∃ c, M.get p = .cells true (o.pre ++ .slice (some ⟨c, 0, some o.z⟩) o.n o.n :: o.post) ∧ M.get c = .cells true o.c ∧
    ∀ c', c'.length = o.c.length → c'.all one = true → Hp (M.set c (.cells true c')) K ((p, { o with c := c' }) :: hs) := by
  obtain ⟨ht, hK, F, h1, h2, h3⟩ := h
  cases h1 with
  | cons hA hL =>
    rename_i b F
    have hn := List.nodup_cons.1 h2
    cases b with
    | none => have h0 : o.n = 0 := hA.buf.1; omega
    | some c =>
      have hbuf : M.get c = .cells true o.c := hA.buf
      have hc := h3 c (by simp)
      have hcp : p ≠ c := by rintro rfl; exact hn.1 (by simp)
      refine ⟨c, hA.cells, hbuf, fun c' hl h1 => ⟨top_set ht hc.2, keep_set hK hc.1, _, .cons (b := some c) ⟨(Mem.get_set_ne _ hcp _).trans hA.cells, Mem.get_set_same _ _ _, hl.trans hA.len, h1⟩ (hL.mono fun x hx => Mem.get_set_ne _ (by rintro rfl; exact (List.nodup_cons.1 hn.2).1 hx) _), h2, h3⟩⟩
theorem Hp.poke2 {M : Mem} {K : Keep} {p p2 : Nat} {o o2 : Thing} {hs : List (Nat × Thing)} (h : Hp M K ((p, o) :: (p2, o2) :: hs)) (hn0 : 0 < o.n) (hn2 : 0 < o2.n) : ∃ c c2, M.get p = .cells true (o.pre ++ .slice (some ⟨c, 0, some o.z⟩) o.n o.n :: o.post) ∧ M.get c = .cells true o.c ∧
    M.get p2 = .cells true (o2.pre ++ .slice (some ⟨c2, 0, some o2.z⟩) o2.n o2.n :: o2.post) ∧ M.get c2 = .cells true o2.c ∧ p ≠ c ∧ p2 ≠ c ∧ c2 ≠ c ∧
    ∀ c', c'.length = o.c.length → c'.all one = true → Hp (M.set c (.cells true c')) K ((p, { o with c := c' }) :: (p2, o2) :: hs) := by
  obtain ⟨ht, hK, F, h1, h2, h3⟩ := h
  cases h1 with
  | cons hA hL =>
    rename_i b F
    have hn := List.nodup_cons.1 h2
    cases b with
    | none => have h0 : o.n = 0 := hA.buf.1; omega
    | some c =>
      have hbuf : M.get c = .cells true o.c := hA.buf
      have hc := h3 c (by simp)
      have hcp : p ≠ c := by rintro rfl; exact hn.1 (by simp)
      have hcF := (List.nodup_cons.1 hn.2).1
      cases hL with
      | cons hA2 hL2 =>
        rename_i b2 F2
        cases b2 with
        | none => have h0 : o2.n = 0 := hA2.buf.1; omega
        | some c2 =>
          have hp2 : p2 ≠ c := by rintro rfl; exact hcF (by simp)
          have hc2 : c2 ≠ c := by rintro rfl; exact hcF (by simp)
          refine ⟨c, c2, hA.cells, hbuf, hA2.cells, hA2.buf, hcp, hp2, hc2, fun c' hl h1 => ⟨top_set ht hc.2, keep_set hK hc.1, _, .cons (b := some c) ⟨(Mem.get_set_ne _ hcp _).trans hA.cells, Mem.get_set_same _ _ _, hl.trans hA.len, h1⟩ ((HpL.cons hA2 hL2).mono fun x hx => Mem.get_set_ne _ (by rintro rfl; exact hcF hx) _), h2, h3⟩⟩
theorem Hp.freeze {M : Mem} {K : Keep} {p : Nat} {o : Thing} {hs : List (Nat × Thing)} (h : Hp M K ((p, o) :: hs)) : ∃ (K2 : Keep) (a : Option Addr), (∀ j x, K j = some x → K2 j = some x) ∧ K2 p = some (.cells true (o.pre ++ .slice a o.n o.n :: o.post)) ∧
    (0 < o.n → ∃ c, a = some ⟨c, 0, some o.z⟩ ∧ K2 c = some (.cells true o.c) ∧ K c = none) ∧ K p = none ∧ Hp M K2 hs := by
  obtain ⟨ht, hK, F, h1, h2, h3⟩ := h
  cases h1 with
  | cons hA hL =>
    rename_i b F
    have hp := h3 p (List.mem_cons_self ..)
    have hn := List.nodup_cons.1 h2
    have w1 : ∀ x, ∀ j y, K j = some y → keep1 K p x j = some y := fun x j y hj => by
      rw [keep1_ne (by rintro rfl; rw [hp.1] at hj; cases hj)]; exact hj
    cases b with
    | none =>
      have h0 : o.n = 0 := hA.buf.1
      refine ⟨keep1 K p (.cells true (o.pre ++ .slice none o.n o.n :: o.post)), none, w1 _, keep1_same .., fun hn0 => by omega, hp.1, ht, fun j x hj => ?_, F, hL, hn.2, fun x hx => ?_⟩
      · by_cases e : j = p
        · subst e; rw [keep1_same] at hj; cases hj
          refine ⟨hp.2, ?_⟩
          have := hA.cells
          rw [h0] at this ⊢; exact this
        · rw [keep1_ne e] at hj; exact hK j x hj
      · rw [keep1_ne (by rintro rfl; exact hn.1 (by simpa using hx))]
        exact h3 x (by simp [hx])
    | some c =>
      have hc := h3 c (by simp)
      have hcp : c ≠ p := by rintro rfl; exact hn.1 (by simp)
      have hcF := List.nodup_cons.1 hn.2
      refine ⟨keep1 (keep1 K p (.cells true (o.pre ++ .slice (some ⟨c, 0, some o.z⟩) o.n o.n :: o.post))) c (.cells true o.c), some ⟨c, 0, some o.z⟩, fun j y hj => ?_, ?_, fun _ => ⟨c, rfl, keep1_same .., hc.1⟩, hp.1, ht, fun j x hj => ?_, F, hL, hcF.2, fun x hx => ?_⟩
      · rw [keep1_ne (by rintro rfl; rw [hc.1] at hj; cases hj)]; exact w1 _ j y hj
      · rw [keep1_ne (Ne.symm hcp), keep1_same]
      · by_cases e : j = c
        · subst e; rw [keep1_same] at hj; cases hj
          exact ⟨hc.2, hA.buf⟩
        · rw [keep1_ne e] at hj
          by_cases e2 : j = p
          · subst e2; rw [keep1_same] at hj; cases hj
            exact ⟨hp.2, hA.cells⟩
          · rw [keep1_ne e2] at hj; exact hK j x hj
      · rw [keep1_ne (by rintro rfl; exact hcF.1 hx), keep1_ne (by rintro rfl; exact hn.1 (by simp [hx]))]
        exact h3 x (by simp [hx])
theorem Hp.free_set {M : Mem} {K : Keep} {b : Nat} {x : Blk} (h : Hp M K []) (hb : b < M.size) (hk : K b = none) : Hp (M.set b x) K [] := by
  obtain ⟨ht, hK, F, h1, h2, h3⟩ := h
  cases h1
  exact ⟨top_set ht hb, keep_set hK hk, [], .nil, List.nodup_nil, fun x hx => by simp at hx⟩
theorem Hp.no {M : Mem} {K : Keep} {hs : List (Nat × Thing)} (h : Hp M K hs) {j : Nat} (hj : M.size ≤ j) : K j = none := by
  cases hk : K j with
  | none => rfl
  | some y => have := h.lt hk; omega
section
variable {P : Program} {t e : TypeId} {by_ : Nat}
theorem Hp.append {M : Mem} {K : Keep} {p : Nat} {o : Thing} {hs : List (Nat × Thing)} (h : Hp M K ((p, o) :: hs)) (hu : P.underlying t = some (.slice e)) (hst : szOf P t = some 1) (hs_ : szOf P e = some o.z) (hz : o.z ≠ 0) (hb : bytesOf P e = some by_) (hb0 : 0 < by_) (h0 : (zerosD P e 1).isSome = true)
    (hbig : (o.n + 1) * by_ ≤ 140737488355328 ∧ o.n + 1 ≤ 4611686018427387904) : ∃ a, M.get p = .cells true (o.pre ++ .slice a o.n o.n :: o.post) ∧
    ∀ (M1 : Mem) (nb : Nat) (own : Bool) (new : List Value), Ext M M1 → M1.get nb = .cells own new → new.length = o.z → new.all one = true → ∃ a' M2 M3, appendD P M1 t t (.slice a o.n o.n) (.slice (some ⟨nb, 0, none⟩) 1 1) = some (.slice a' (o.n + 1) (o.n + 1), M2) ∧
      storeD P M2 t (.slice a' (o.n + 1) (o.n + 1)) (.pointer (some ⟨p, o.pre.length, none⟩)) = some M3 ∧ Hp M3 K ((p, { o with n := o.n + 1, c := o.c ++ new }) :: hs) ∧ M1.size ≤ M3.size ∧ ∀ j, M.size ≤ j → j < M1.size → M3.get j = M1.get j := by
  obtain ⟨ht, hK, F, h1, h2, h3⟩ := h
  cases h1 with
  | cons hA hL =>
    rename_i b F
    have hp := h3 p (List.mem_cons_self ..)
    have hn := List.nodup_cons.1 h2
    have hst2 : ∀ (M2 : Mem) (u : Value) (a' : Option Addr), M2.get p = .cells true (o.pre ++ u :: o.post) → storeD P M2 t (.slice a' (o.n + 1) (o.n + 1)) (.pointer (some ⟨p, o.pre.length, none⟩)) = some (M2.set p (.cells true (o.pre ++ .slice a' (o.n + 1) (o.n + 1) :: o.post))) := fun M2 u a' hg => by
      rw [storeD_at hst (n := 1) rfl hg (by simp) rfl]
      show some (M2.set p (.cells true (splice (o.pre ++ u :: o.post) o.pre.length [.slice a' (o.n + 1) (o.n + 1)]))) = _
      rw [splice_mid]
    have hlen : ∀ x, lenOf (.slice (some ⟨x, 0, none⟩) 1 1) = some 1 := fun _ => rfl
    have hnone : ∀ M1 : Mem, Ext M M1 → K M1.size = none := fun M1 hx => by
      cases hk : K M1.size with
      | none => rfl
      | some y => have := (hK _ _ hk).1; have := hx.size; omega
    cases b with
    | none =>
      obtain ⟨b1, b2⟩ : o.n = 0 ∧ o.c = [] := hA.buf
      refine ⟨none, by have := hA.cells; rw [b1] at this ⊢; exact this, fun M1 nb own new hx hg hl h1 => ?_⟩
      have hf : firstC M1 o.z 1 (.slice (some ⟨nb, 0, none⟩) 1 1) = some new := loadC_at (rest := []) (by rw [List.append_nil]; exact hg) (by omega)
      have hap := append_nil (m := M1) (x := .slice (some ⟨nb, 0, none⟩) 1 1) hu hs_ hz hb hb0 h0 (hlen nb) (by omega) (by rw [b1] at hbig; simpa using hbig) hf (by omega) h1
      have hgp : (M1.push (.cells true new)).get p = .cells true (o.pre ++ slV none o.z o.n :: o.post) := by
        rw [Mem.get_push_ne _ (by have := hx.size; omega), hx.get p hp.2]; exact hA.cells
      refine ⟨_, _, _, by rw [b1]; exact hap, hst2 _ _ _ hgp, ⟨?_, ?_, p :: ((some M1.size).toList ++ F), .cons ⟨?_, ?_, ?_, ?_⟩ (hL.mono fun x hx' => ?_), ?_, fun x hx' => ?_⟩, ?_, fun j h1 h2 => ?_⟩
      · exact top_set (top_push (hx.top ht)) (by have := hx.size; show p < M1.size + 1; omega)
      · exact keep_set (keep_push (keep_ext hK hx)) hp.1
      · exact Mem.get_set_same _ _ _
      · show (Mem.set _ p _).get M1.size = .cells true (o.c ++ new)
        rw [Mem.get_set_ne _ (by have := hx.size; omega), Mem.get_push_same, b2]; rfl
      · show (o.c ++ new).length = (o.n + 1) * o.z
        rw [List.length_append, hl, hA.len, Nat.add_mul, Nat.one_mul]
      · show (o.c ++ new).all one = true
        rw [List.all_append, hA.ones, h1]; rfl
      · have hxs := (h3 x (by simp [hx'])).2
        have := hx.size
        rw [Mem.get_set_ne _ (by rintro rfl; exact hn.1 (by simp [hx'])), Mem.get_push_ne _ (by omega), hx.get x hxs]
      · have := hx.size
        refine List.nodup_cons.2 ⟨fun hm => ?_, ?_⟩
        · simp only [Option.toList_some, List.cons_append, List.nil_append, List.mem_cons] at hm
          rcases hm with rfl | hm
          · omega
          · exact hn.1 (by simp [hm])
        · simp only [Option.toList_some, List.cons_append, List.nil_append]
          refine List.nodup_cons.2 ⟨fun hm => ?_, (List.nodup_append.1 hn.2).2.1⟩
          have := (h3 M1.size (by simp [hm])).2
          omega
      · have := hx.size
        show K x = none ∧ x < M1.size + 1
        simp only [Option.toList_some, List.cons_append, List.nil_append, List.mem_cons] at hx'
        rcases hx' with rfl | rfl | hx'
        · exact ⟨hp.1, by omega⟩
        · exact ⟨hnone M1 hx, by omega⟩
        · have := h3 x (by simp [hx']); exact ⟨this.1, by omega⟩
      · show M1.size ≤ M1.size + 1; omega
      · rw [Mem.get_set_ne _ (by omega), Mem.get_push_ne _ (by omega)]
    | some c =>
      have hbuf : M.get c = .cells true o.c := hA.buf
      refine ⟨_, hA.cells, fun M1 nb own new hx hg hl h1 => ?_⟩
      have hc := h3 c (by simp)
      have hcp : c ≠ p := by rintro rfl; exact hn.1 (by simp)
      have hf : firstC M1 o.z 1 (.slice (some ⟨nb, 0, none⟩) 1 1) = some new := loadC_at (rest := []) (by rw [List.append_nil]; exact hg) (by omega)
      have hap := append_own (m := M1) (bk := c) (k := o.n) (x := .slice (some ⟨nb, 0, none⟩) 1 1) hu hs_ hz hb hb0 h0 ((hx.get c hc.2).trans hbuf) hA.len hA.ones (hlen nb) (by omega) hbig hf (by omega) h1
      have hgp : ((M1.push (.cells true (o.c ++ new))).set c .none).get p = .cells true (o.pre ++ slV (some c) o.z o.n :: o.post) := by
        rw [Mem.get_set_ne _ (Ne.symm hcp), Mem.get_push_ne _ (by have := hx.size; omega), hx.get p hp.2]; exact hA.cells
      refine ⟨_, _, _, hap, hst2 _ _ _ hgp, ⟨?_, ?_, p :: ((some M1.size).toList ++ F), .cons ⟨?_, ?_, ?_, ?_⟩ (hL.mono fun x hx' => ?_), ?_, fun x hx' => ?_⟩, ?_, fun j h1 h2 => ?_⟩
      · exact top_set (top_set (top_push (hx.top ht)) (by have := hx.size; show c < M1.size + 1; omega)) (by have := hx.size; show p < M1.size + 1; omega)
      · exact keep_set (keep_set (keep_push (keep_ext hK hx)) hc.1) hp.1
      · exact Mem.get_set_same _ _ _
      · show (Mem.set _ p _).get M1.size = .cells true (o.c ++ new)
        rw [Mem.get_set_ne _ (by have := hx.size; omega), Mem.get_set_ne _ (by have := hx.size; omega), Mem.get_push_same]
      · show (o.c ++ new).length = (o.n + 1) * o.z
        rw [List.length_append, hl, hA.len, Nat.add_mul, Nat.one_mul]
      · show (o.c ++ new).all one = true
        rw [List.all_append, hA.ones, h1]; rfl
      · have hxs := (h3 x (by simp [hx'])).2
        have := hx.size
        rw [Mem.get_set_ne _ (by rintro rfl; exact hn.1 (by simp [hx'])), Mem.get_set_ne _ (by rintro rfl; exact (List.nodup_cons.1 hn.2).1 hx'), Mem.get_push_ne _ (by omega), hx.get x hxs]
      · have := hx.size
        refine List.nodup_cons.2 ⟨fun hm => ?_, ?_⟩
        · simp only [Option.toList_some, List.cons_append, List.nil_append, List.mem_cons] at hm
          rcases hm with rfl | hm
          · omega
          · exact hn.1 (by simp [hm])
        · simp only [Option.toList_some, List.cons_append, List.nil_append]
          refine List.nodup_cons.2 ⟨fun hm => ?_, (List.nodup_cons.1 hn.2).2⟩
          have := (h3 M1.size (by simp [hm])).2
          omega
      · have := hx.size
        show K x = none ∧ x < M1.size + 1
        simp only [Option.toList_some, List.cons_append, List.nil_append, List.mem_cons] at hx'
        rcases hx' with rfl | rfl | hx'
        · exact ⟨hp.1, by omega⟩
        · exact ⟨hnone M1 hx, by omega⟩
        · have := h3 x (by simp [hx']); exact ⟨this.1, by omega⟩
      · show M1.size ≤ M1.size + 1; omega
      · rw [Mem.get_set_ne _ (by omega), Mem.get_set_ne _ (by omega), Mem.get_push_ne _ (by omega)]
end
end
end Kit
end Go.DI
namespace Go.Proofs.YtadioopbehiakaaDoor
open Go Go.DI Go.DI.Kit Go.Proofs Go.Cmp
noncomputable section
theorem und28 : Tryd.prog.underlying 28 = some (.slice 42) := by kernel_rfl
theorem sz28 : szOf Tryd.prog 28 = some 1 := by kernel_rfl
theorem sz42 : szOf Tryd.prog 42 = some 5 := by kernel_rfl
theorem by42 : bytesOf Tryd.prog 42 = some 12 := by kernel_rfl
theorem ze42 : (zerosD Tryd.prog 42 1).isSome = true := by kernel_rfl
theorem und63 : Tryd.prog.underlying 63 = some (.slice 3) := by kernel_rfl
theorem sz63 : szOf Tryd.prog 63 = some 1 := by kernel_rfl
theorem sz3 : szOf Tryd.prog 3 = some 1 := by kernel_rfl
theorem by3 : bytesOf Tryd.prog 3 = some 8 := by kernel_rfl
theorem ze3 : (zerosD Tryd.prog 3 1).isSome = true := by kernel_rfl
theorem und73 : Tryd.prog.underlying 73 = some (.slice 81) := by kernel_rfl
theorem sz73 : szOf Tryd.prog 73 = some 1 := by kernel_rfl
theorem sz81 : szOf Tryd.prog 81 = some 7 := by kernel_rfl
theorem by81 : bytesOf Tryd.prog 81 = some 32 := by kernel_rfl
theorem ze81 : (zerosD Tryd.prog 81 1).isSome = true := by kernel_rfl
def mkO (l : List Ins) : Thing := ⟨[], [], 5, l.length, l.flatMap insC⟩
def lbO (a : Int) (js : List Nat) : Thing := ⟨[.int .i64 a], [], 1, js.length, js.map fun (j : Nat) => .int .i64 (j : Int)⟩
def rowC (r : RowS) : List Value := insC r.i ++ [.int .i64 (r.to : Int), .int .i64 (r.here : Int)]
def rkO (l : List RowS) (n : Nat) : Thing := ⟨[], [.int .i64 (n : Int)], 7, l.length, l.flatMap rowC⟩
def ptr (p : Nat) : Value := .pointer (some ⟨p, 0, none⟩)
def whatV (c o s : Int) (w r : Bool) : Value := .agg ⟨[.int .i64 c, .int .i64 o, .int .i64 s, .bool w, .bool r]⟩
def insV (x : Ins) : Value := .agg ⟨insC x⟩
def unitV : Value := .tuple ⟨[]⟩
theorem loop_reg {α : Type} (L : Y.LK α) (body : Tmps → Mem → Y.ExK α → Option α) (c : Code) (h : isReg c = true) (k : Nat) (t : Tmps) (m : Mem) (q : Y.ExK α) : mixL L body c k t m q = body t m q := mixL_reg L body h k t m q
theorem r35a_eq {α : Type} (cf : Y.CF α) (L : Y.LK α) (k : Nat) (t : Tmps) (m : Mem) (q : Y.ExK α) : Y.codeF (Y.loopC c35 0) Tryd.prog kp 1 (Y.cfT Tryd.prog cf) L 24 k t m q = Y.opsF r35a Tryd.prog kp 1 (Y.cfT Tryd.prog cf) 24 r35a t m fun t m => q .normal t m := by kernel_rfl
theorem r35_eq {α : Type} (cf : Y.CF α) (L : Y.LK α) (k : Nat) (t : Tmps) (m : Mem) (q : Y.ExK α) : Y.codeF (Y.loopC c35 1) Tryd.prog kp 1 (Y.cfT Tryd.prog cf) L 24 k t m q = Y.opsF r35 Tryd.prog kp 1 (Y.cfT Tryd.prog cf) 24 r35 t m fun t m => q .normal t m := by kernel_rfl
theorem at35 : Tryd.prog.funcs[35]? = some Tryd.f35 := by kernel_rfl
theorem bd35 : Tryd.f35.body = some (bodyOf Tryd.f35) := by kernel_rfl
theorem nt35 : Tryd.f35.ntmps = 24 := by kernel_rfl
theorem n35 {a b c : Value} : max [a, b, c].length Tryd.f35.ntmps = 24 := by rw [nt35]; rfl
theorem ok35 : okR Tryd.prog 35 unitV = true := by kernel_rfl
def Makes (o : Orc) (k : Nat) (w i : Value) (x : Ins) : Prop := ∀ M, M.top → 1 ≤ M.size → M.get 0 = .cells false gl → ∃ e M', callN Tryd.prog kp 1 o k 52 [w, i] M = some (.tuple ⟨[insV x, .int .i64 e]⟩, M') ∧ Ext M M'
set_option maxHeartbeats 400000 in
theorem put_run {o : Orc} {k : Nat} {K : Keep} {mp : Nat} {M : Mem} {l : List Ins} {hs : List (Nat × Thing)} {wc wo ws : Int} {ww wr : Bool} {i x : Ins} (ho : ∀ a m, o 35 a m = none) (h0 : K 0 = some (.cells false gl))
    (hl : l.length ≤ 1000000000) (h : Hp M K ((mp, mkO l) :: hs)) (hmk : Makes o k (whatV wc wo ws ww wr) (insV i) x) :
    ∃ M', callN Tryd.prog kp 1 o (k + 1) 35 [ptr mp, whatV wc wo ws ww wr, insV i] M = some (unitV, M') ∧ Hp M' K ((mp, mkO (l ++ [x])) :: hs) := by
  obtain ⟨io, id, is, iof, im⟩ := i
  obtain ⟨M2, hM2⟩ : ∃ M2, (M.push (.cells true [.int .i64 wc, .int .i64 wo, .int .i64 ws, .bool ww, .bool wr])).push (.cells true [.int .u8 io, .int .u8 id, .int .u8 is, .int .i16 iof, .int .i32 im]) = M2 := ⟨_, rfl⟩
  have x2 : Ext M M2 := hM2 ▸ (Ext.push _ _).trans (Ext.push _ _)
  have g1 : M2.get M.size = .cells true [.int .i64 wc, .int .i64 wo, .int .i64 ws, .bool ww, .bool wr] := by
    rw [← hM2, Mem.get_push_ne _ (by simp), Mem.get_push_same]
  have g2 : M2.get (Nat.succ M.size) = .cells true [.int .u8 io, .int .u8 id, .int .u8 is, .int .i16 iof, .int .i32 im] := by rw [← hM2]; exact Mem.get_push_same _ _
  obtain ⟨e, M3, c52, x3⟩ := hmk M2 (x2.top h.top) (by have := x2.size; have := h.lt h0; omega) ((x2.get 0 (h.lt h0)).trans (h.get h0))
  obtain ⟨M4, hM4⟩ : ∃ M4, M3.push (.cells true [.int .u8 0, .int .u8 0, .int .u8 0, .int .i16 0, .int .i32 0]) = M4 := ⟨_, rfl⟩
  have hst : storeD Tryd.prog M4 42 (insV x) (.pointer (some ⟨M3.size, 0, none⟩)) = some (M4.set M3.size (.cells true (insC x))) :=
    storeD_at (c := [.int .u8 0, .int .u8 0, .int .u8 0, .int .i16 0, .int .i32 0]) sz42 rfl (by rw [← hM4]; exact Mem.get_push_same _ _) (by decide) rfl
  obtain ⟨M5, hM5⟩ : ∃ M5, M4.set M3.size (.cells true (insC x)) = M5 := ⟨_, rfl⟩
  have g5 : M5.get M3.size = .cells true (insC x) := by rw [← hM5]; exact Mem.get_set_same _ _ _
  rw [hM5] at hst
  have x5 : Ext M M5 := by
    have x3' := x2.trans x3
    subst hM5 hM4
    refine ⟨by have := x3'.size; show M.size ≤ M3.size + 1; omega, fun j hj => ?_, fun t j hj => ?_⟩
    · have := x3'.size
      rw [Mem.get_set_ne _ (by omega), Mem.get_push_ne _ (by omega)]; exact x3'.get j hj
    · have hj : M3.size + 1 ≤ j := hj
      rw [Mem.get_set_ne _ (by omega), Mem.get_push_ne _ (by omega)]; exact x3'.top t j (by omega)
  obtain ⟨M6, hM6⟩ : ∃ M6, M5.push (.cells true (insC x)) = M6 := ⟨_, rfl⟩
  have x6 : Ext M M6 := hM6 ▸ x5.trans (Ext.push _ _)
  obtain ⟨a, gm, happ⟩ := h.append und28 sz28 sz42 (show (5 : Nat) ≠ 0 by decide) by42 (by decide) ze42 (by show (l.length + 1) * 12 ≤ _ ∧ l.length + 1 ≤ _; omega)
  obtain ⟨a', M7, M8, p1, p2, h8, _, _⟩ := happ M6 M5.size true (insC x) x6 (by rw [← hM6]; exact Mem.get_push_same _ _) rfl rfl
  have gm5 : M5.get mp = .cells true [.slice a l.length l.length] := by
    have hlt := h.set.1
    exact (x5.get mp hlt).trans gm
  have hres : Hp M8 K ((mp, mkO (l ++ [x])) :: hs) := by
    have e1 : ({ mkO l with n := (mkO l).n + 1, c := (mkO l).c ++ insC x } : Thing) = mkO (l ++ [x]) := by simp [mkO]
    rw [e1] at h8; exact h8
  refine ⟨M8, call_of 24 (ho _ _) at35 bd35 n35 ?_ ok35, hres⟩
  refine Eq.trans (calm_eq [2] Tryd.prog kp 1 _ _ 24 k (bodyOf Tryd.f35) (by kernel_rfl) _ M _) ?_
  refine Eq.trans (markS_eq [1, 2] Tryd.prog kp 1 _ (Y.lpOf Tryd.prog kp 1 (callN Tryd.prog kp 1 o k) 24) (fun _ _ _ _ _ _ _ => rfl) 24 k (calm [2] (bodyOf Tryd.f35)) (by kernel_rfl) _ M _) ?_
  refine Eq.trans (t_putA ..) ?_
  refine Eq.trans (loop_reg _ _ _ (by kernel_rfl) _ _ _ _) ?_
  refine Eq.trans (r35a_eq ..) ?_
  refine Eq.trans (opsF_cut 7 ..) ?_
  refine Eq.trans (t_putP ..) ?_
  rw [hM2, g1, nCells]
  rw [show Nat.ble 5 (Y.lenLF [Value.int .i64 wc, .int .i64 wo, .int .i64 ws, .bool ww, .bool wr]) = true from rfl, nCondT, g2, nCells]
  rw [show Nat.ble 5 (Y.lenLF [Value.int .u8 io, .int .u8 id, .int .u8 is, .int .i16 iof, .int .i32 im]) = true from rfl, nCondT]
  rw [show Y.subL [Value.int .i64 wc, .int .i64 wo, .int .i64 ws, .bool ww, .bool wr] 0 5 = [Value.int .i64 wc, .int .i64 wo, .int .i64 ws, .bool ww, .bool wr] from rfl]
  rw [show Y.subL [Value.int .u8 io, .int .u8 id, .int .u8 is, .int .i16 iof, .int .i32 im] 0 5 = [Value.int .u8 io, .int .u8 id, .int .u8 is, .int .i16 iof, .int .i32 im] from rfl]
  have c52' : callN Tryd.prog kp 1 o k 52 [.agg ⟨[.int .i64 wc, .int .i64 wo, .int .i64 ws, .bool ww, .bool wr]⟩, .agg ⟨[.int .u8 io, .int .u8 id, .int .u8 is, .int .i16 iof, .int .i32 im]⟩] M2 = some (.tuple ⟨[.agg ⟨insC x⟩, .int .i64 e]⟩, M3) := c52
  simp only [nCf, c52', nOnV, nAsTup, nUncC, nUncN, nAsInt, nAsAgg, nKEq, nCondT]
  rw [hM4]
  refine Eq.trans (t_putS ..) ?_
  rw [Y.storeF_eq, show storeD Tryd.prog M4 42 (.agg ⟨insC x⟩) (.pointer (some ⟨M3.size, 0, none⟩)) = some M5 from hst, Y.ob_some]
  refine Eq.trans (t_putJ ..) ?_
  refine Eq.trans (loop_reg _ _ _ (by kernel_rfl) _ _ _ _) ?_
  refine Eq.trans (r35_eq ..) ?_
  refine Eq.trans (opsF_cut 6 ..) ?_
  refine Eq.trans (t_putB ..) ?_
  rw [gm5, nCells, show Y.nthL [Value.slice a l.length l.length] 0 = some (.slice a l.length l.length) from rfl, nElim, nAsSl, g5, nCells]
  rw [show Nat.ble 5 (Y.lenLF (insC x)) = true from rfl, nCondT, show Y.subL (insC x) 0 5 = insC x from rfl]
  refine Eq.trans (opsF_cut 1 ..) ?_
  refine Eq.trans (t_putB2 ..) ?_
  obtain ⟨xo, xd, xs, xf, xm⟩ := x
  rw [show M5.push (.cells true [.int .u8 xo, .int .u8 xd, .int .u8 xs, .int .i16 xf, .int .i32 xm]) = M6 from hM6]
  rw [show List.drop 1 (List.drop 6 r35) = List.drop 7 r35 by rw [List.drop_drop]]
  refine Eq.trans (t_putC ..) ?_
  rw [Y.appendF_eq, show appendD Tryd.prog M6 28 28 (.slice a l.length l.length) (.slice (some ⟨M5.size, 0, none⟩) 1 1) = _ from p1, nOnV, Y.storeF_eq, show storeD Tryd.prog M7 28 _ (.pointer (some ⟨mp, 0, none⟩)) = _ from p2, Y.ob_some]
  exact t_putK ..
theorem at37 : Tryd.prog.funcs[37]? = some Tryd.f37 := by kernel_rfl
theorem bd37 : Tryd.f37.body = some (bodyOf Tryd.f37) := by kernel_rfl
theorem nt37 : Tryd.f37.ntmps = 26 := by kernel_rfl
theorem n37 {a b c d : Value} : max [a, b, c, d].length Tryd.f37.ntmps = 26 := by rw [nt37]; rfl
theorem ok37 : okR Tryd.prog 37 unitV = true := by kernel_rfl
theorem r37_eq {α : Type} (cf : Y.CF α) (L : Y.LK α) (k : Nat) (t : Tmps) (m : Mem) (q : Y.ExK α) : Y.codeF (Y.loopC c37 0) Tryd.prog kp 1 (Y.cfT Tryd.prog cf) L 26 k t m q = Y.opsF r37 Tryd.prog kp 1 (Y.cfT Tryd.prog cf) 26 r37 t m fun t m => q .normal t m := by kernel_rfl
set_option maxHeartbeats 400000 in
theorem jump_run {o : Orc} {k : Nat} {K : Keep} {mp lp : Nat} {M : Mem} {l : List Ins} {at_ : Int} {js : List Nat} {hs : List (Nat × Thing)} {wc wo ws : Int} {ww wr : Bool} {i x : Ins} (ho : ∀ a m, o 35 a m = none) (ho2 : ∀ a m, o 37 a m = none) (h0 : K 0 = some (.cells false gl))
    (hl : l.length ≤ 1000000000) (hj : js.length ≤ 1000000000) (h : Hp M K ((mp, mkO l) :: (lp, lbO at_ js) :: hs)) (hmk : Makes o k (whatV wc wo ws ww wr) (insV i) x) :
    ∃ M', callN Tryd.prog kp 1 o (k + 2) 37 [ptr mp, whatV wc wo ws ww wr, insV i, ptr lp] M = some (unitV, M') ∧ Hp M' K ((mp, mkO (l ++ [x])) :: (lp, lbO at_ (js ++ [l.length])) :: hs) := by
  obtain ⟨io, id, is, iof, im⟩ := i
  obtain ⟨M2, hM2⟩ : ∃ M2, (M.push (.cells true [.int .i64 wc, .int .i64 wo, .int .i64 ws, .bool ww, .bool wr])).push (.cells true [.int .u8 io, .int .u8 id, .int .u8 is, .int .i16 iof, .int .i32 im]) = M2 := ⟨_, rfl⟩
  have x2 : Ext M M2 := hM2 ▸ (Ext.push _ _).trans (Ext.push _ _)
  have s2 : M2.size = M.size + 2 := by rw [← hM2]; rfl
  have g1 : M2.get M.size = .cells true [.int .i64 wc, .int .i64 wo, .int .i64 ws, .bool ww, .bool wr] := by
    rw [← hM2, Mem.get_push_ne _ (by simp), Mem.get_push_same]
  have g2 : M2.get (Nat.succ M.size) = .cells true [.int .u8 io, .int .u8 id, .int .u8 is, .int .i16 iof, .int .i32 im] := by rw [← hM2]; exact Mem.get_push_same _ _
  have h' := h.perm (List.Perm.swap (lp, lbO at_ js) (mp, mkO l) hs)
  obtain ⟨hmp, _, u, ⟨am, rfl⟩, gm, _⟩ := h.set
  have hlp := h'.set.1
  obtain ⟨a, gl_, happ⟩ := h'.append und63 sz63 sz3 (show (1 : Nat) ≠ 0 by decide) by3 (by decide) ze3 (by show (js.length + 1) * 8 ≤ _ ∧ js.length + 1 ≤ _; omega)
  obtain ⟨M6, hM6⟩ : ∃ M6, M2.push (.cells true [.int .i64 (Int.ofNat l.length)]) = M6 := ⟨_, rfl⟩
  have x6 : Ext M M6 := hM6 ▸ x2.trans (Ext.push _ _)
  have s6 : M6.size = M.size + 3 := by rw [← hM6]; show M2.size + 1 = _; omega
  obtain ⟨a', M7, M8, p1, p2, h8, _, fr⟩ := happ M6 M2.size true [.int .i64 (Int.ofNat l.length)] x6 (by rw [← hM6]; exact Mem.get_push_same _ _) rfl rfl
  have e1 : ({ lbO at_ js with n := (lbO at_ js).n + 1, c := (lbO at_ js).c ++ [.int .i64 (Int.ofNat l.length)] } : Thing) = lbO at_ (js ++ [l.length]) := by simp [lbO]
  rw [e1] at h8
  have gm2 : M2.get mp = .cells true [.slice am l.length l.length] := (x2.get mp hmp).trans gm
  have gl2 : M2.get lp = .cells true [.int .i64 at_, .slice a js.length js.length] := (x2.get lp hlp).trans gl_
  have q1 : M8.get M.size = .cells true [.int .i64 wc, .int .i64 wo, .int .i64 ws, .bool ww, .bool wr] := by
    rw [fr _ (by omega) (by omega), ← hM6, Mem.get_push_ne _ (by omega)]; exact g1
  have q2 : M8.get (Nat.succ M.size) = .cells true [.int .u8 io, .int .u8 id, .int .u8 is, .int .i16 iof, .int .i32 im] := by
    rw [fr _ (by omega) (by omega), ← hM6, Mem.get_push_ne _ (by omega)]; exact g2
  obtain ⟨M9, c35, h9⟩ := put_run (k := k) (hs := (lp, lbO at_ (js ++ [l.length])) :: hs) (i := ⟨io, id, is, iof, im⟩) ho h0 hl (h8.perm (List.Perm.swap (mp, mkO l) (lp, lbO at_ (js ++ [l.length])) hs)) hmk
  refine ⟨M9, call_of 26 (ho2 _ _) at37 bd37 n37 ?_ ok37, h9⟩
  refine Eq.trans (calm_eq [1] Tryd.prog kp 1 _ _ 26 (k + 1) (bodyOf Tryd.f37) (by kernel_rfl) _ M _) ?_
  refine Eq.trans (markS_eq [1] Tryd.prog kp 1 _ (Y.lpOf Tryd.prog kp 1 (callN Tryd.prog kp 1 o (k + 1)) 26) (fun _ _ _ _ _ _ _ => rfl) 26 (k + 1) (calm [1] (bodyOf Tryd.f37)) (by kernel_rfl) _ M _) ?_
  refine Eq.trans (t_jumpA ..) ?_
  rw [hM2]
  refine Eq.trans (loop_reg _ _ _ (by kernel_rfl) _ _ _ _) ?_
  refine Eq.trans (r37_eq ..) ?_
  refine Eq.trans (opsF_cut 11 ..) ?_
  refine Eq.trans (t_jumpB ..) ?_
  rw [gl2, nCells, show Y.nthL [Value.int .i64 at_, Value.slice a js.length js.length] 1 = some (.slice a js.length js.length) from rfl, nElim, nAsSl, gm2, nCells, show Y.nthL [Value.slice am l.length l.length] 0 = some (.slice am l.length l.length) from rfl, nElim, nAsSl, hM6]
  refine Eq.trans (t_jumpC ..) ?_
  rw [Y.appendF_eq, show appendD Tryd.prog M6 63 63 (.slice a js.length js.length) (.slice (some ⟨M2.size, 0, none⟩) 1 1) = _ from p1, nOnV, Y.storeF_eq, show storeD Tryd.prog M7 63 _ (.pointer (some ⟨lp, 1, none⟩)) = _ from p2, Y.ob_some]
  refine Eq.trans (t_jumpK ..) ?_
  rw [q1, nCells]
  rw [show Nat.ble 5 (Y.lenLF [Value.int .i64 wc, .int .i64 wo, .int .i64 ws, .bool ww, .bool wr]) = true from rfl, nCondT, q2, nCells]
  rw [show Nat.ble 5 (Y.lenLF [Value.int .u8 io, .int .u8 id, .int .u8 is, .int .i16 iof, .int .i32 im]) = true from rfl, nCondT]
  rw [show Y.subL [Value.int .i64 wc, .int .i64 wo, .int .i64 ws, .bool ww, .bool wr] 0 5 = [Value.int .i64 wc, .int .i64 wo, .int .i64 ws, .bool ww, .bool wr] from rfl]
  rw [show Y.subL [Value.int .u8 io, .int .u8 id, .int .u8 is, .int .i16 iof, .int .i32 im] 0 5 = [Value.int .u8 io, .int .u8 id, .int .u8 is, .int .i16 iof, .int .i32 im] from rfl]
  rw [nCf, show callN Tryd.prog kp 1 o (k + 1) 35 [.pointer (some ⟨mp, 0, none⟩), .agg ⟨[.int .i64 wc, .int .i64 wo, .int .i64 ws, .bool ww, .bool wr]⟩, .agg ⟨[.int .u8 io, .int .u8 id, .int .u8 is, .int .i16 iof, .int .i32 im]⟩] M8 = some (unitV, M9) from c35, nOnV]
  rfl
end
end Go.Proofs.YtadioopbehiakaaDoor
namespace Go.Proofs.YtadioopbehiakaaDoor
open Go Go.DI Go.DI.Kit Go.Proofs Go.Cmp
noncomputable section
theorem at33 : Tryd.prog.funcs[33]? = some Tryd.f33 := by kernel_rfl
theorem bd33 : Tryd.f33.body = some (bodyOf Tryd.f33) := by kernel_rfl
theorem nt33 : Tryd.f33.ntmps = 15 := by kernel_rfl
theorem n33 {a b : Value} : max [a, b].length Tryd.f33.ntmps = 15 := by rw [nt33]; rfl
theorem ok33 : okR Tryd.prog 33 unitV = true := by kernel_rfl
theorem r33_eq {α : Type} (cf : Y.CF α) (L : Y.LK α) (k : Nat) (t : Tmps) (m : Mem) (q : Y.ExK α) : Y.codeF (Y.loopC c33 0) Tryd.prog kp 1 (Y.cfT Tryd.prog cf) L 15 k t m q = Y.opsF r33 Tryd.prog kp 1 (Y.cfT Tryd.prog cf) 15 r33 t m fun t m => q .normal t m := by kernel_rfl
theorem at42 : Tryd.prog.funcs[42]? = some Tryd.f42 := by kernel_rfl
theorem bd42 : Tryd.f42.body = some (bodyOf Tryd.f42) := by kernel_rfl
theorem nt42 : Tryd.f42.ntmps = 28 := by kernel_rfl
theorem n42 {a b c : Value} : max [a, b, c].length Tryd.f42.ntmps = 28 := by rw [nt42]; rfl
theorem ok42 : okR Tryd.prog 42 unitV = true := by kernel_rfl
theorem r42_eq {α : Type} (cf : Y.CF α) (L : Y.LK α) (k : Nat) (t : Tmps) (m : Mem) (q : Y.ExK α) : Y.codeF (Y.loopC c42 0) Tryd.prog kp 1 (Y.cfT Tryd.prog cf) L 28 k t m q = Y.opsF r42 Tryd.prog kp 1 (Y.cfT Tryd.prog cf) 28 r42 t m fun t m => q .normal t m := by kernel_rfl
theorem at46 : Tryd.prog.funcs[46]? = some Tryd.f46 := by kernel_rfl
theorem bd46 : Tryd.f46.body = some (bodyOf Tryd.f46) := by kernel_rfl
theorem nt46 : Tryd.f46.ntmps = 28 := by kernel_rfl
theorem n46 {a b c d : Value} : max [a, b, c, d].length Tryd.f46.ntmps = 28 := by rw [nt46]; rfl
theorem ok46 : okR Tryd.prog 46 unitV = true := by kernel_rfl
theorem r46_eq {α : Type} (cf : Y.CF α) (L : Y.LK α) (k : Nat) (t : Tmps) (m : Mem) (q : Y.ExK α) : Y.codeF (Y.loopC c46 1) Tryd.prog kp 1 (Y.cfT Tryd.prog cf) L 28 k t m q = Y.opsF r46 Tryd.prog kp 1 (Y.cfT Tryd.prog cf) 28 r46 t m fun t m => q .normal t m := by kernel_rfl
theorem at50 : Tryd.prog.funcs[50]? = some Tryd.f50 := by kernel_rfl
theorem bd50 : Tryd.f50.body = some (bodyOf Tryd.f50) := by kernel_rfl
theorem nt50 : Tryd.f50.ntmps = 27 := by kernel_rfl
theorem n50 {a b : Value} : max [a, b].length Tryd.f50.ntmps = 27 := by rw [nt50]; rfl
theorem ok50 : okR Tryd.prog 50 unitV = true := by kernel_rfl
theorem r50_eq {α : Type} (cf : Y.CF α) (L : Y.LK α) (k : Nat) (t : Tmps) (m : Mem) (q : Y.ExK α) : Y.codeF (Y.loopC c50 0) Tryd.prog kp 1 (Y.cfT Tryd.prog cf) L 27 k t m q = Y.opsF r50 Tryd.prog kp 1 (Y.cfT Tryd.prog cf) 27 r50 t m fun t m => q .normal t m := by kernel_rfl
theorem r46a_eq {α : Type} (cf : Y.CF α) (L : Y.LK α) (k : Nat) (t : Tmps) (m : Mem) (q : Y.ExK α) : Y.codeF (Y.loopC c46 0) Tryd.prog kp 1 (Y.cfT Tryd.prog cf) L 28 k t m q = Y.opsF r46a Tryd.prog kp 1 (Y.cfT Tryd.prog cf) 28 r46a t m fun t m => q .normal t m := by kernel_rfl
def MakesR (o : Orc) (k : Nat) (w i : Value) (x : Ins) : Prop := ∀ M, M.top → 1 ≤ M.size → M.get 0 = .cells false gl → ∃ e M', callN Tryd.prog kp 1 o k 53 [w, i] M = some (.tuple ⟨[insV x, .int .i64 e]⟩, M') ∧ Ext M M'
theorem mk_next (l : List Ins) (x : Ins) : ({ mkO l with n := (mkO l).n + 1, c := (mkO l).c ++ insC x } : Thing) = mkO (l ++ [x]) := by simp [mkO]
theorem rk_next (l : List RowS) (n : Nat) (r : RowS) : ({ rkO l n with n := (rkO l n).n + 1, c := (rkO l n).c ++ rowC r } : Thing) = rkO (l ++ [r]) n := by simp [rkO]
theorem mk_app {K : Keep} {mp : Nat} {M : Mem} {l : List Ins} {hs : List (Nat × Thing)} (hl : l.length ≤ 1000000000) (h : Hp M K ((mp, mkO l) :: hs)) (x : Ins) {M1 : Mem} {nb : Nat} (hx : Ext M M1) (hn : M1.get nb = .cells true (insC x)) :
    ∃ a a' M2 M3, M.get mp = .cells true [.slice a l.length l.length] ∧ appendD Tryd.prog M1 28 28 (.slice a l.length l.length) (.slice (some ⟨nb, 0, none⟩) 1 1) = some (.slice a' (l.length + 1) (l.length + 1), M2) ∧ storeD Tryd.prog M2 28 (.slice a' (l.length + 1) (l.length + 1)) (.pointer (some ⟨mp, 0, none⟩)) = some M3 ∧ Hp M3 K ((mp, mkO (l ++ [x])) :: hs) := by
  obtain ⟨a, gm, happ⟩ := h.append und28 sz28 sz42 (show (5 : Nat) ≠ 0 by decide) by42 (by decide) ze42 (by show (l.length + 1) * 12 ≤ _ ∧ l.length + 1 ≤ _; omega)
  obtain ⟨a', M7, M8, p1, p2, h8, _, _⟩ := happ M1 nb true (insC x) hx hn rfl rfl
  rw [mk_next] at h8
  exact ⟨a, a', M7, M8, gm, p1, p2, h8⟩
theorem rk_app {K : Keep} {mp : Nat} {M : Mem} {l : List RowS} {n : Nat} {hs : List (Nat × Thing)} (hl : l.length ≤ 1000000000) (h : Hp M K ((mp, rkO l n) :: hs)) (r : RowS) {M1 : Mem} {nb : Nat} (hx : Ext M M1) (hn : M1.get nb = .cells true (rowC r)) :
    ∃ a a' M2 M3, M.get mp = .cells true [.slice a l.length l.length, .int .i64 (n : Int)] ∧ appendD Tryd.prog M1 73 73 (.slice a l.length l.length) (.slice (some ⟨nb, 0, none⟩) 1 1) = some (.slice a' (l.length + 1) (l.length + 1), M2) ∧ storeD Tryd.prog M2 73 (.slice a' (l.length + 1) (l.length + 1)) (.pointer (some ⟨mp, 0, none⟩)) = some M3 ∧ Hp M3 K ((mp, rkO (l ++ [r]) n) :: hs) := by
  obtain ⟨a, gm, happ⟩ := h.append und73 sz73 sz81 (show (7 : Nat) ≠ 0 by decide) by81 (by decide) ze81 (by show (l.length + 1) * 32 ≤ _ ∧ l.length + 1 ≤ _; omega)
  obtain ⟨a', M7, M8, p1, p2, h8, _, _⟩ := happ M1 nb true (rowC r) hx hn rfl rfl
  rw [rk_next] at h8
  exact ⟨a, a', M7, M8, gm, p1, p2, h8⟩
set_option maxHeartbeats 400000 in
theorem here_run {o : Orc} {k : Nat} {K : Keep} {mp n : Nat} {M : Mem} {l : List RowS} {hs : List (Nat × Thing)} (lb : Nat) (ho : ∀ a m, o 33 a m = none) (hl : l.length ≤ 1000000000) (h : Hp M K ((mp, rkO l n) :: hs)) :
    ∃ M', callN Tryd.prog kp 1 o (k + 1) 33 [ptr mp, .int .i64 (lb : Int)] M = some (unitV, M') ∧ Hp M' K ((mp, rkO (l ++ [lab lb]) n) :: hs) := by
  obtain ⟨a, a', M7, M8, gm, p1, p2, h8⟩ := rk_app hl h (lab lb) (Ext.push M (.cells true (rowC (lab lb)))) (Mem.get_push_same _ _)
  refine ⟨M8, call_of 15 (ho _ _) at33 bd33 n33 ?_ ok33, h8⟩
  refine Eq.trans (markS_eq [0] Tryd.prog kp 1 _ (Y.lpOf Tryd.prog kp 1 (callN Tryd.prog kp 1 o k) 15) (fun _ _ _ _ _ _ _ => rfl) 15 k (bodyOf Tryd.f33) (by kernel_rfl) _ M _) ?_
  refine Eq.trans (t_HereA ..) ?_
  refine Eq.trans (loop_reg _ _ _ (by kernel_rfl) _ _ _ _) ?_
  refine Eq.trans (r33_eq ..) ?_
  refine Eq.trans (opsF_cut 8 ..) ?_
  refine Eq.trans (t_HereB ..) ?_
  rw [gm, nCells, show Y.nthL [Value.slice a l.length l.length, .int .i64 (n : Int)] 0 = some (.slice a l.length l.length) from rfl, nElim, nAsSl]
  refine Eq.trans (t_HereC ..) ?_
  rw [Y.appendF_eq, show appendD Tryd.prog (M.push (.cells true [.int .u8 0, .int .u8 0, .int .u8 0, .int .i16 0, .int .i32 0, .int .i64 0, .int .i64 (lb : Int)])) 73 73 (.slice a l.length l.length) (.slice (some ⟨M.size, 0, none⟩) 1 1) = _ from p1, nOnV, Y.storeF_eq, show storeD Tryd.prog M7 73 _ (.pointer (some ⟨mp, 0, none⟩)) = _ from p2, Y.ob_some]
  exact t_HereK ..
set_option maxHeartbeats 400000 in
theorem putR_run {o : Orc} {k : Nat} {K : Keep} {mp n : Nat} {M : Mem} {l : List RowS} {hs : List (Nat × Thing)} {wc wo ws : Int} {ww wr : Bool} {i x : Ins} (to : Nat) (ho : ∀ a m, o 46 a m = none) (h0 : K 0 = some (.cells false gl))
    (hl : l.length ≤ 1000000000) (h : Hp M K ((mp, rkO l n) :: hs)) (hmk : MakesR o k (whatV wc wo ws ww wr) (insV i) x) :
    ∃ M', callN Tryd.prog kp 1 o (k + 1) 46 [ptr mp, whatV wc wo ws ww wr, insV i, .int .i64 (to : Int)] M = some (unitV, M') ∧ Hp M' K ((mp, rkO (l ++ [ins x to]) n) :: hs) := by
  obtain ⟨io, id, is, iof, im⟩ := i
  obtain ⟨M2, hM2⟩ : ∃ M2, (M.push (.cells true [.int .i64 wc, .int .i64 wo, .int .i64 ws, .bool ww, .bool wr])).push (.cells true [.int .u8 io, .int .u8 id, .int .u8 is, .int .i16 iof, .int .i32 im]) = M2 := ⟨_, rfl⟩
  have x2 : Ext M M2 := hM2 ▸ (Ext.push _ _).trans (Ext.push _ _)
  have g1 : M2.get M.size = .cells true [.int .i64 wc, .int .i64 wo, .int .i64 ws, .bool ww, .bool wr] := by
    rw [← hM2, Mem.get_push_ne _ (by simp), Mem.get_push_same]
  have g2 : M2.get (Nat.succ M.size) = .cells true [.int .u8 io, .int .u8 id, .int .u8 is, .int .i16 iof, .int .i32 im] := by rw [← hM2]; exact Mem.get_push_same _ _
  obtain ⟨e, M3, c53, x3⟩ := hmk M2 (x2.top h.top) (by have := x2.size; have := h.lt h0; omega) ((x2.get 0 (h.lt h0)).trans (h.get h0))
  obtain ⟨M4, hM4⟩ : ∃ M4, M3.push (.cells true [.int .u8 0, .int .u8 0, .int .u8 0, .int .i16 0, .int .i32 0]) = M4 := ⟨_, rfl⟩
  have hst : storeD Tryd.prog M4 42 (insV x) (.pointer (some ⟨M3.size, 0, none⟩)) = some (M4.set M3.size (.cells true (insC x))) :=
    storeD_at (c := [.int .u8 0, .int .u8 0, .int .u8 0, .int .i16 0, .int .i32 0]) sz42 rfl (by rw [← hM4]; exact Mem.get_push_same _ _) (by decide) rfl
  obtain ⟨M5, hM5⟩ : ∃ M5, M4.set M3.size (.cells true (insC x)) = M5 := ⟨_, rfl⟩
  have g5 : M5.get M3.size = .cells true (insC x) := by rw [← hM5]; exact Mem.get_set_same _ _ _
  rw [hM5] at hst
  have x5 : Ext M M5 := by
    have x3' := x2.trans x3
    subst hM5 hM4
    refine ⟨by have := x3'.size; show M.size ≤ M3.size + 1; omega, fun j hj => ?_, fun t j hj => ?_⟩
    · have := x3'.size
      rw [Mem.get_set_ne _ (by omega), Mem.get_push_ne _ (by omega)]; exact x3'.get j hj
    · have hj : M3.size + 1 ≤ j := hj
      rw [Mem.get_set_ne _ (by omega), Mem.get_push_ne _ (by omega)]; exact x3'.top t j (by omega)
  obtain ⟨M6, hM6⟩ : ∃ M6, M5.push (.cells true (rowC (ins x to))) = M6 := ⟨_, rfl⟩
  have x6 : Ext M M6 := hM6 ▸ x5.trans (Ext.push _ _)
  obtain ⟨a, a', M7, M8, gm, p1, p2, h8⟩ := rk_app hl h (ins x to) x6 (nb := M5.size) (by rw [← hM6]; exact Mem.get_push_same _ _)
  have gm5 : M5.get mp = .cells true [.slice a l.length l.length, .int .i64 (n : Int)] := (x5.get mp h.set.1).trans gm
  refine ⟨M8, call_of 28 (ho _ _) at46 bd46 n46 ?_ ok46, h8⟩
  refine Eq.trans (calm_eq [2] Tryd.prog kp 1 _ _ 28 k (bodyOf Tryd.f46) (by kernel_rfl) _ M _) ?_
  refine Eq.trans (markS_eq [1, 2] Tryd.prog kp 1 _ (Y.lpOf Tryd.prog kp 1 (callN Tryd.prog kp 1 o k) 28) (fun _ _ _ _ _ _ _ => rfl) 28 k (calm [2] (bodyOf Tryd.f46)) (by kernel_rfl) _ M _) ?_
  refine Eq.trans (t_PutA ..) ?_
  refine Eq.trans (loop_reg _ _ _ (by kernel_rfl) _ _ _ _) ?_
  refine Eq.trans (r46a_eq ..) ?_
  refine Eq.trans (opsF_cut 7 ..) ?_
  refine Eq.trans (t_PutP ..) ?_
  rw [hM2, g1, nCells]
  rw [show Nat.ble 5 (Y.lenLF [Value.int .i64 wc, .int .i64 wo, .int .i64 ws, .bool ww, .bool wr]) = true from rfl, nCondT, g2, nCells]
  rw [show Nat.ble 5 (Y.lenLF [Value.int .u8 io, .int .u8 id, .int .u8 is, .int .i16 iof, .int .i32 im]) = true from rfl, nCondT]
  rw [show Y.subL [Value.int .i64 wc, .int .i64 wo, .int .i64 ws, .bool ww, .bool wr] 0 5 = [Value.int .i64 wc, .int .i64 wo, .int .i64 ws, .bool ww, .bool wr] from rfl]
  rw [show Y.subL [Value.int .u8 io, .int .u8 id, .int .u8 is, .int .i16 iof, .int .i32 im] 0 5 = [Value.int .u8 io, .int .u8 id, .int .u8 is, .int .i16 iof, .int .i32 im] from rfl]
  have c53' : callN Tryd.prog kp 1 o k 53 [.agg ⟨[.int .i64 wc, .int .i64 wo, .int .i64 ws, .bool ww, .bool wr]⟩, .agg ⟨[.int .u8 io, .int .u8 id, .int .u8 is, .int .i16 iof, .int .i32 im]⟩] M2 = some (.tuple ⟨[.agg ⟨insC x⟩, .int .i64 e]⟩, M3) := c53
  simp only [nCf, c53', nOnV, nAsTup, nUncC, nUncN, nAsInt, nAsAgg, nKEq, nCondT]
  rw [hM4]
  refine Eq.trans (t_PutS ..) ?_
  rw [Y.storeF_eq, show storeD Tryd.prog M4 42 (.agg ⟨insC x⟩) (.pointer (some ⟨M3.size, 0, none⟩)) = some M5 from hst, Y.ob_some]
  refine Eq.trans (t_PutJ ..) ?_
  refine Eq.trans (loop_reg _ _ _ (by kernel_rfl) _ _ _ _) ?_
  refine Eq.trans (r46_eq ..) ?_
  refine Eq.trans (opsF_cut 7 ..) ?_
  refine Eq.trans (t_PutB ..) ?_
  rw [gm5, nCells, show Y.nthL [Value.slice a l.length l.length, .int .i64 (n : Int)] 0 = some (.slice a l.length l.length) from rfl, nElim, nAsSl, g5, nCells]
  rw [show Nat.ble 5 (Y.lenLF (insC x)) = true from rfl, nCondT, show Y.subL (insC x) 0 5 = insC x from rfl]
  refine Eq.trans (opsF_cut 2 ..) ?_
  refine Eq.trans (t_PutB2 ..) ?_
  obtain ⟨xo, xd, xs, xf, xm⟩ := x
  rw [show M5.push (.cells true [.int .u8 xo, .int .u8 xd, .int .u8 xs, .int .i16 xf, .int .i32 xm, .int .i64 (to : Int), .int .i64 0]) = M6 from hM6]
  rw [show List.drop 2 (List.drop 7 r46) = List.drop 9 r46 by rw [List.drop_drop]]
  refine Eq.trans (t_PutC ..) ?_
  rw [Y.appendF_eq, show appendD Tryd.prog M6 73 73 (.slice a l.length l.length) (.slice (some ⟨M5.size, 0, none⟩) 1 1) = _ from p1, nOnV, Y.storeF_eq, show storeD Tryd.prog M7 73 _ (.pointer (some ⟨mp, 0, none⟩)) = _ from p2, Y.ob_some]
  exact t_PutK ..
def loW (n : Int) : Int := IntKind.wrap .i32 (IntKind.wrap .u32 n)
set_option maxHeartbeats 400000 in
theorem konst_run {o : Orc} {k : Nat} {K : Keep} {mp : Nat} {M : Mem} {l : List Ins} {hs : List (Nat × Thing)} {d n : Int} {x : Ins} (ho : ∀ a m, o 35 a m = none) (ho2 : ∀ a m, o 42 a m = none) (h0 : K 0 = some (.cells false gl))
    (hl : l.length ≤ 100000000) (h : Hp M K ((mp, mkO l) :: hs)) (hmk : Makes o k (whatV 10 0 0 false false) (insV ⟨0, d, 0, 0, loW n⟩) x) :
    ∃ M', callN Tryd.prog kp 1 o (k + 2) 42 [ptr mp, .int .u8 d, .int .u64 n] M = some (unitV, M') ∧ Hp M' K ((mp, mkO (l ++ [x, ⟨0, 0, 0, 0, loW (Int.fdiv n 4294967296)⟩])) :: hs) := by
  obtain ⟨M1, c35, h1⟩ := put_run (k := k) ho h0 (by omega) h hmk
  obtain ⟨a, a', M7, M8, gm, p1, p2, h8⟩ := mk_app (by simp; omega) h1 ⟨0, 0, 0, 0, loW (Int.fdiv n 4294967296)⟩ (Ext.push M1 (.cells true (insC ⟨0, 0, 0, 0, loW (Int.fdiv n 4294967296)⟩))) (Mem.get_push_same _ _)
  rw [List.append_assoc] at h8
  refine ⟨M8, call_of 28 (ho2 _ _) at42 bd42 n42 ?_ ok42, h8⟩
  refine Eq.trans (markS_eq [1] Tryd.prog kp 1 _ (Y.lpOf Tryd.prog kp 1 (callN Tryd.prog kp 1 o (k + 1)) 28) (fun _ _ _ _ _ _ _ => rfl) 28 (k + 1) (bodyOf Tryd.f42) (by kernel_rfl) _ M _) ?_
  refine Eq.trans (t_konA ..) ?_
  rw [nCf, show callN Tryd.prog kp 1 o (k + 1) 35 [.pointer (some ⟨mp, 0, none⟩), .agg ⟨[.int .i64 10, .int .i64 0, .int .i64 0, .bool false, .bool false]⟩, .agg ⟨[.int .u8 0, .int .u8 d, .int .u8 0, .int .i16 0, .int .i32 (IntKind.wrap .i32 (IntKind.wrap .u32 n))]⟩] M = some (unitV, M1) from c35, nOnV]
  refine Eq.trans (loop_reg _ _ _ (by kernel_rfl) _ _ _ _) ?_
  refine Eq.trans (r42_eq ..) ?_
  refine Eq.trans (opsF_cut 11 ..) ?_
  refine Eq.trans (t_konB ..) ?_
  obtain ⟨l1, hl1⟩ : ∃ l1, l ++ [x] = l1 := ⟨_, rfl⟩
  rw [hl1] at gm p1 p2
  rw [gm, nCells, show Y.nthL [Value.slice a l1.length l1.length] 0 = some (.slice a l1.length l1.length) from rfl, nElim, nAsSl]
  refine Eq.trans (t_konC ..) ?_
  rw [Y.appendF_eq, show appendD Tryd.prog (M1.push (.cells true [.int .u8 0, .int .u8 0, .int .u8 0, .int .i16 0, .int .i32 (IntKind.wrap .i32 (IntKind.wrap .u32 (Int.fdiv n 4294967296)))])) 28 28 (.slice a l1.length l1.length) (.slice (some ⟨M1.size, 0, none⟩) 1 1) = _ from p1, nOnV, Y.storeF_eq, show storeD Tryd.prog M7 28 _ (.pointer (some ⟨mp, 0, none⟩)) = _ from p2, Y.ob_some]
  exact t_konK ..
set_option maxHeartbeats 400000 in
theorem const_run {o : Orc} {k : Nat} {K : Keep} {mp nl : Nat} {M : Mem} {l : List RowS} {hs : List (Nat × Thing)} {n : Int} {x : Ins} (ho : ∀ a m, o 46 a m = none) (ho2 : ∀ a m, o 50 a m = none) (h0 : K 0 = some (.cells false gl))
    (hl : l.length ≤ 100000000) (h : Hp M K ((mp, rkO l nl) :: hs)) (hmk : MakesR o k (whatV 10 0 0 false false) (insV ⟨0, 3, 0, 0, loW (Int.tmod n 4294967296)⟩) x) :
    ∃ M', callN Tryd.prog kp 1 o (k + 2) 50 [ptr mp, .int .u64 n] M = some (unitV, M') ∧ Hp M' K ((mp, rkO (l ++ [ins x 0, ins ⟨0, 0, 0, 0, loW (IntKind.wrap .u64 (Int.tdiv n 4294967296))⟩ 0]) nl) :: hs) := by
  obtain ⟨M1, c46, h1⟩ := putR_run (k := k) 0 ho h0 (by omega) h hmk
  obtain ⟨a, a', M7, M8, gm, p1, p2, h8⟩ := rk_app (by simp; omega) h1 (ins ⟨0, 0, 0, 0, loW (IntKind.wrap .u64 (Int.tdiv n 4294967296))⟩ 0) (Ext.push M1 (.cells true (rowC (ins ⟨0, 0, 0, 0, loW (IntKind.wrap .u64 (Int.tdiv n 4294967296))⟩ 0)))) (Mem.get_push_same _ _)
  rw [List.append_assoc] at h8
  refine ⟨M8, call_of 27 (ho2 _ _) at50 bd50 n50 ?_ ok50, h8⟩
  refine Eq.trans (markS_eq [1] Tryd.prog kp 1 _ (Y.lpOf Tryd.prog kp 1 (callN Tryd.prog kp 1 o (k + 1)) 27) (fun _ _ _ _ _ _ _ => rfl) 27 (k + 1) (bodyOf Tryd.f50) (by kernel_rfl) _ M _) ?_
  refine Eq.trans (t_ConA ..) ?_
  rw [nCf, show callN Tryd.prog kp 1 o (k + 1) 46 [.pointer (some ⟨mp, 0, none⟩), .agg ⟨[.int .i64 10, .int .i64 0, .int .i64 0, .bool false, .bool false]⟩, .agg ⟨[.int .u8 0, .int .u8 3, .int .u8 0, .int .i16 0, .int .i32 (IntKind.wrap .i32 (IntKind.wrap .u32 (Int.tmod n 4294967296)))]⟩, .int .i64 0] M = some (unitV, M1) from c46, nOnV]
  refine Eq.trans (loop_reg _ _ _ (by kernel_rfl) _ _ _ _) ?_
  refine Eq.trans (r50_eq ..) ?_
  refine Eq.trans (opsF_cut 12 ..) ?_
  refine Eq.trans (t_ConB ..) ?_
  obtain ⟨l1, hl1⟩ : ∃ l1, l ++ [ins x 0] = l1 := ⟨_, rfl⟩
  rw [hl1] at gm p1 p2
  rw [gm, nCells, show Y.nthL [Value.slice a l1.length l1.length, .int .i64 (nl : Int)] 0 = some (.slice a l1.length l1.length) from rfl, nElim, nAsSl]
  refine Eq.trans (t_ConC ..) ?_
  rw [Y.appendF_eq, show appendD Tryd.prog (M1.push (.cells true [.int .u8 0, .int .u8 0, .int .u8 0, .int .i16 0, .int .i32 (IntKind.wrap .i32 (IntKind.wrap .u32 (IntKind.wrap .u64 (Int.tdiv n 4294967296)))), .int .i64 0, .int .i64 0])) 73 73 (.slice a l1.length l1.length) (.slice (some ⟨M1.size, 0, none⟩) 1 1) = _ from p1, nOnV, Y.storeF_eq, show storeD Tryd.prog M7 73 _ (.pointer (some ⟨mp, 0, none⟩)) = _ from p2, Y.ob_some]
  exact t_ConK ..
end
end Go.Proofs.YtadioopbehiakaaDoor
namespace Go.Cmp
open Go Go.DI
theorem outGo_ins0 (f : Nat → Option Nat) (a : List RowS) (x : Ins) : outGo f (a ++ [ins x 0]) 0 = outGo f a 0 ++ [x] := by
  rw [outGo_append]; simp [outGo, ins, isLab]
theorem outGo_insL {f : Nat → Option Nat} (a : List RowS) (x : Ins) {l : Nat} (hf : f l = none) : outGo f (a ++ [ins x l]) 0 = outGo f a 0 ++ [x] := by
  rw [outGo_append]; simp [outGo, ins, isLab, hf]
theorem outGo_lab (f : Nat → Option Nat) (a : List RowS) {l : Nat} (hl : 0 < l) : outGo f (a ++ [lab l]) 0 = outGo f a 0 := by
  rw [outGo_append]; simp [outGo, lab, isLab, hl]
theorem cnt_le : ∀ a : List RowS, cnt a ≤ a.length
  | [] => Nat.le_refl _
  | r :: a => by
    have := cnt_le a
    simp only [cnt, List.length_cons]
    split <;> omega
theorem jumps_ins (a : List RowS) (x : Ins) (to l : Nat) : jumpsS l (a ++ [ins x to]) 0 = jumpsS l a 0 ++ (if to = l then [cnt a] else []) := by
  rw [jumpsS_append]; simp [jumpsS, ins, isLab]
theorem jumps_lab (a : List RowS) (l : Nat) {l' : Nat} (hl : 0 < l') : jumpsS l (a ++ [lab l']) 0 = jumpsS l a 0 := by
  rw [jumpsS_append]; simp [jumpsS, lab, isLab, hl]
theorem jumps_length (l : Nat) : ∀ (a : List RowS) (n : Nat), (jumpsS l a n).length ≤ cnt a
  | [], n => Nat.le_refl _
  | r :: a, n => by
    have h1 := jumps_length l a n
    have h2 := jumps_length l a (n + 1)
    simp only [jumpsS, cnt]
    split
    · exact h1
    · rw [List.length_append]
      split
      · simp; omega
      · simp; omega
theorem jumps_fresh {l : Nat} : ∀ (a : List RowS) (n : Nat), (∀ r ∈ a, r.to ≠ l) → jumpsS l a n = []
  | [], n, _ => rfl
  | r :: a, n, h => by
    simp only [jumpsS]
    rw [jumps_fresh a n fun r hr => h r (by simp [hr]), jumps_fresh a (n + 1) fun r hr => h r (by simp [hr]), if_neg (h r (by simp))]
    simp
theorem atGo_append : ∀ (a b : List RowS) (n : Nat) (f : Nat → Nat), atGo (a ++ b) n f = atGo b (n + cnt a) (atGo a n f)
  | [], b, n, f => by simp [atGo, cnt]
  | r :: a, b, n, f => by
    simp only [List.cons_append, atGo, cnt]
    split
    · exact atGo_append a b n _
    · rw [atGo_append a b (n + 1) f, show n + 1 + cnt a = n + (cnt a + 1) by omega]
theorem atS_ins (a : List RowS) (x : Ins) (to l : Nat) : atS (a ++ [ins x to]) l = atS a l := by
  unfold atS; rw [atGo_append]; simp [atGo, ins, isLab]
theorem atS_lab (a : List RowS) {l : Nat} (hl : 0 < l) (j : Nat) : atS (a ++ [lab l]) j = if j = l then cnt a else atS a j := by
  unfold atS; rw [atGo_append]; simp [atGo, lab, isLab, hl]
theorem at_fresh {l : Nat} (hl : 0 < l) : ∀ (a : List RowS) (n : Nat) (f : Nat → Nat), (∀ r ∈ a, r.here ≠ l) → atGo a n f l = f l
  | [], n, f, _ => rfl
  | r :: a, n, f, h => by
    simp only [atGo]
    split
    · rw [at_fresh hl a n _ fun r hr => h r (by simp [hr]), if_neg (fun e => h r (by simp) e.symm)]
    · exact at_fresh hl a (n + 1) f fun r hr => h r (by simp [hr])
theorem atS_fresh {l : Nat} (hl : 0 < l) (a : List RowS) (h : ∀ r ∈ a, r.here ≠ l) : atS a l = 0 := at_fresh hl a 0 _ h
theorem atS_le : ∀ (a : List RowS) (n : Nat) (f : Nat → Nat) (c : Nat), n + cnt a ≤ c → (∀ j, f j ≤ c) → ∀ j, atGo a n f j ≤ c
  | [], n, f, c, _, hf, j => hf j
  | r :: a, n, f, c, hc, hf, j => by
    simp only [atGo, cnt] at hc ⊢
    split
    · rename_i h
      rw [if_pos h] at hc
      refine atS_le a n _ c hc (fun j => ?_) j
      split
      · omega
      · exact hf j
    · rename_i h
      rw [if_neg h] at hc
      exact atS_le a (n + 1) f c (by omega) hf j
theorem atS_cnt (a : List RowS) (j : Nat) : atS a j ≤ cnt a := atS_le a 0 _ _ (by omega) (fun _ => Nat.zero_le _) j
theorem outGo_made (f : Nat → Option Nat) (a : List RowS) (hs : ∀ l q, f l = some q → q = atS a l) (hk : ∀ r ∈ a, 0 < r.to → (f r.to).isSome) : outGo f a 0 = madeS a := by
  refine outGo_same f _ a 0 fun r hr _ h0 => ?_
  have h1 := hk r hr h0
  cases h : f r.to with
  | none => rw [h] at h1; cases h1
  | some q => rw [hs _ _ h]
end Go.Cmp
