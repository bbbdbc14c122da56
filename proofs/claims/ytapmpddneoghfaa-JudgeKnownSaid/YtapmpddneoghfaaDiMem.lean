/-
  DiMem: reading and writing memory.
-/
import Derived.Test.YtapmpddneoghfaaDiQuiet
import Derived.Laws.Cells
namespace Go.DI
section
variable {P : Program} {K : TypeId → Bool} {G B0 n : Nat} {ι : Ren} {m : Mem} {w : World} {t : Tmps} {a : Act}

def setBlk (w : World) (b : Nat) (o : Obj) : World := { w with heap := w.heap.setIfInBounds b o }

theorem modify_eq_set {α : Type} (a : Array α) (i : Nat) (f : α → α) (x : α) (h : a[i]? = some x) : a.modify i f = a.setIfInBounds i (f x) := by
  apply Array.ext_getElem?
  intro j
  rw [Array.getElem?_modify, Array.getElem?_setIfInBounds]
  have hi : i < a.size := by
    rcases Nat.lt_or_ge i a.size with h1 | h1
    · exact h1
    · rw [Array.getElem?_eq_none h1] at h; cases h
  by_cases hij : i = j
  · subst hij
    have hx : a[i] = x := by rw [Array.getElem?_eq_getElem hi] at h; exact Option.some.inj h
    simp [hi, hx]
  · simp [hij]

theorem setCell_eq {b o : Nat} {c : Array Value} {e : TypeId} {fr : Nat × Nat} (h : w.heap[b]? = some (.cells c e fr)) (v : Value) :
    w.setCell ⟨b, o, none⟩ v = setBlk w b (.cells (c.setIfInBounds o v) e fr) := by
  simp only [World.setCell, setBlk]
  rw [modify_eq_set _ _ _ _ h]
  simp

theorem setBlk_get (w : World) (b j : Nat) (o : Obj) (hb : b < w.heap.size) : (setBlk w b o).heap[j]? = if j = b then some o else w.heap[j]? := by
  simp only [setBlk, Array.getElem?_setIfInBounds]
  by_cases h : b = j
  · subst h; simp [hb]
  · have : ¬ j = b := fun h' => h h'.symm
    simp [h, this]

theorem setBlk_setBlk (w : World) (b : Nat) (o o' : Obj) : setBlk (setBlk w b o) b o' = setBlk w b o' := by
  simp only [setBlk]
  congr 1
  apply Array.ext_getElem?
  intro j
  simp only [Array.getElem?_setIfInBounds, Array.size_setIfInBounds]
  split <;> simp_all

theorem lt_of_get {b : Nat} {o : Obj} (h : w.heap[b]? = some o) : b < w.heap.size := by
  rcases Nat.lt_or_ge b w.heap.size with h1 | h1
  · exact h1
  · rw [Array.getElem?_eq_none h1] at h; cases h

theorem one_oneCell {v : Value} (h : one v = true) : v.oneCell' = true := by cases v <;> simp_all [one, Value.oneCell']

theorem splice_length (c vs : List Value) (off : Nat) (h : off + vs.length ≤ c.length) : (splice c off vs).length = c.length := by
  simp only [splice, List.length_append, List.length_take, List.length_drop]; omega

theorem splice_get (c vs : List Value) (off i : Nat) (h : off + vs.length ≤ c.length) : (splice c off vs)[i]? = if off ≤ i ∧ i < off + vs.length then vs[i - off]? else c[i]? := by
  unfold splice
  rw [List.getElem?_append, List.length_take]
  have hm : min off c.length = off := by omega
  rw [hm]
  by_cases h1 : i < off
  · have : ¬ (off ≤ i ∧ i < off + vs.length) := by omega
    simp [h1, this, List.getElem?_take]
  · simp only [h1, if_false]
    rw [List.getElem?_append]
    by_cases h2 : i - off < vs.length
    · have : off ≤ i ∧ i < off + vs.length := by omega
      simp [h2, this]
    · have : ¬ (off ≤ i ∧ i < off + vs.length) := by omega
      simp only [h2, if_false, this, List.getElem?_drop]
      congr 1; omega

theorem splice_cons (c vs : List Value) (off : Nat) (v : Value) (h : off + (vs.length + 1) ≤ c.length) : splice (c.set off v) (off + 1) vs = splice c off (v :: vs) := by
  apply List.ext_getElem?
  intro i
  rw [splice_get _ _ _ _ (by simp; omega), splice_get _ _ _ _ (by simpa using h)]
  by_cases h1 : off + 1 ≤ i ∧ i < off + 1 + vs.length
  · have h2 : off ≤ i ∧ i < off + (v :: vs).length := by simp; omega
    rw [if_pos h1, if_pos h2]
    obtain ⟨k, rfl⟩ : ∃ k, i = off + 1 + k := ⟨i - (off + 1), by omega⟩
    have e1 : off + 1 + k - (off + 1) = k := by omega
    have e2 : off + 1 + k - off = k + 1 := by omega
    rw [e1, e2]; rfl
  · rw [if_neg h1, List.getElem?_set]
    by_cases h3 : off = i
    · subst h3
      have h2 : off ≤ off ∧ off < off + (v :: vs).length := by simp
      rw [if_pos h2]
      have : off < c.length := by omega
      simp [this]
    · have h2 : ¬ (off ≤ i ∧ i < off + (v :: vs).length) := by simp; omega
      rw [if_neg h2]
      simp [h3]

theorem run_storeCells' (b : Nat) (e : TypeId) (fr : Nat × Nat) : ∀ (vs : List Value) (o i : Nat) (cur : Array Value) (w : World), w.heap[b]? = some (.cells cur e fr) → o + i + vs.length ≤ cur.size →
    (∀ j, o + i ≤ j → j < o + i + vs.length → ¬ (fr.1 ≤ j ∧ j < fr.2)) → vs.all one = true → (storeCells ⟨b, o, none⟩ vs i).run P w = .ok () (setBlk w b (.cells (splice cur.toList (o + i) vs).toArray e fr))
  | [], o, i, cur, w, hb, hl, hf, h1 => by
    have h0 : setBlk w b (.cells (splice cur.toList (o + i) []).toArray e fr) = w := by
      have : splice cur.toList (o + i) [] = cur.toList := by simp [splice]
      rw [this]
      simp only [setBlk, Array.toArray_toList]
      have : w.heap.setIfInBounds b (.cells cur e fr) = w.heap := by
        apply Array.ext_getElem?
        intro j
        rw [Array.getElem?_setIfInBounds]
        split
        · rename_i hj; subst hj; split
          · exact hb.symm
          · rename_i hn; exact (Array.getElem?_eq_none (by omega)).symm
        · rfl
      rw [this]
    simp [storeCells, h0]
  | v :: vs, o, i, cur, w, hb, hl, hf, h1 => by
    simp only [List.all_cons, Bool.and_eq_true] at h1
    simp only [List.length_cons] at hl hf
    have hlt : o + i < cur.size := by omega
    have hc : w.cell? ⟨b, o + i, none⟩ = some cur[o + i] := by simp [World.cell?, hb, hlt]
    have hz : w.frozen? ⟨b, o + i, none⟩ = false := by
      have := hf (o + i) (Nat.le_refl _) (by omega)
      simp only [World.frozen?, hb]
      simp only [Bool.and_eq_false_iff, decide_eq_false_iff_not]
      omega
    simp only [storeCells, Addr.add_none, Sem.run_bind]
    rw [run_store P w _ _ _ (one_oneCell h1.1), hc]
    simp only [hz, Bool.false_eq_true, if_false, Result.andThen_ok]
    rw [setCell_eq hb]
    have ih := run_storeCells' b e fr vs o (i + 1) (cur.setIfInBounds (o + i) v) (setBlk w b (.cells (cur.setIfInBounds (o + i) v) e fr))
      (by rw [setBlk_get _ _ _ _ (lt_of_get hb)]; simp) (by simp; omega) (fun j g1 g2 => hf j (by omega) (by omega)) h1.2
    rw [ih, setBlk_setBlk]
    have e1 : (cur.setIfInBounds (o + i) v).toList = cur.toList.set (o + i) v := by simp
    rw [e1, show o + (i + 1) = (o + i) + 1 from rfl, splice_cons _ _ _ _ (by simp; omega)]

theorem Rel.get_lt (hr : Rel B0 G ι m w) {b : Nat} (h : m.get b ≠ .none) : b < m.size := by
  rcases Nat.lt_or_ge b m.size with h1 | h1
  · exact h1
  · exact absurd (hr.top b h1) h

/-- A row of cells that is read. -/
theorem loadC_ok (hr : Rel B0 G ι m w) {b off k : Nat} {c : List Value} {L : Loc} (hL : ι b = some L) (h : loadC m b off k = some c) :
    ∃ c', (loadCells ⟨L.block, L.base + off, none⟩ k).run P w = .ok c'.toArray w ∧ VRels ι c c' := by
  unfold loadC at h
  split at h <;> try (simp at h; done)
  rename_i own cs hg
  split at h <;> simp at h
  rename_i hle
  have hlt := hr.get_lt (b := b) (by rw [hg]; simp)
  have hb := hr.blk b L hlt hL
  rw [hg] at hb
  obtain ⟨rc, e, fr, h1, h2, h3, h4, h5⟩ := hb
  have hlen : c.length = k := by rw [← h]; simp; omega
  refine ⟨(rc.toList.drop (L.base + off)).take k, ?_, ?_⟩
  · have hl : ((rc.toList.drop (L.base + off)).take k).length = k := by simp; omega
    have := run_loadCells_list (P := P) w ⟨L.block, L.base + off, none⟩ ((rc.toList.drop (L.base + off)).take k) (fun j v hj => by
      rw [Addr.add_none]
      simp only [World.cell?, h1]
      rw [List.getElem?_take] at hj
      split at hj
      · rw [List.getElem?_drop] at hj; simpa using hj
      · simp at hj)
    rw [hl] at this
    exact this
  · refine LRel.of_get (by rw [hlen]; simp; omega) fun i x y hx hy => ?_
    rw [← h] at hx
    rw [List.getElem?_take] at hx hy
    split at hx
    · rename_i hi
      rw [List.getElem?_drop] at hx
      simp only [hi, if_true, List.getElem?_drop] at hy
      obtain ⟨v', hv', hrel⟩ := h4 _ _ hx
      have e1 : L.base + off + i = L.base + (off + i) := by omega
      rw [e1] at hy
      rw [Array.getElem?_toList, hv'] at hy
      cases hy
      exact hrel
    · simp at hx

theorem loadD_ok (hr : Rel B0 G ι m w) {s : TypeId} {x x' v : Value} (hx : VRel ι x x') (h : loadD P m s x = some v) : ∃ v', (Instr.loadAt s x').run P w = .ok v' w ∧ VRel ι v v' := by
  unfold loadD at h
  split at h <;> try (simp at h; done)
  rename_i b off
  obtain ⟨L, hL, rfl⟩ := hx.inv_ptr
  split at h <;> try (simp at h; done)
  · rename_i ha
    split at h <;> try (simp at h; done)
    rename_i k hk
    split at h <;> simp at h
    rename_i c hc
    subst h
    obtain ⟨c', h1, h2⟩ := loadC_ok (P := P) hr hL hc
    exact ⟨.agg c'.toArray, by simp [Instr.loadAt, Instr.sureAddr, loadVar, run_isAgg' ha, run_sizeOf' hk, h1], VRel.agg' h2⟩
  · rename_i ha
    split at h <;> try (simp at h; done)
    rename_i own c hg
    have hlt := hr.get_lt (b := b) (by rw [hg]; simp)
    have hb := hr.blk b L hlt hL
    rw [hg] at hb
    obtain ⟨rc, e, fr, h1, h2, h3, h4, h5⟩ := hb
    obtain ⟨v', hv', hrel⟩ := h4 _ _ h
    refine ⟨v', ?_, hrel⟩
    have hc : w.cell? ⟨L.block, L.base + off, none⟩ = some v' := by simp [World.cell?, h1, hv']
    simp [Instr.loadAt, Instr.sureAddr, loadVar, run_isAgg' ha, hc]

/-- Writing into a block of one's own: the relation behind it. -/
theorem Rel.set (hr : Rel B0 G ι m w) {b : Nat} {L : Loc} (hL : ι b = some L) (hlt : b < m.size) {x : Blk} (hold : (m.get b).own = true) {o : Obj}
    (hnew : BlkRel B0 ι x L (setBlk w L.block o)) (hlive : x.live → (m.get b).live) (hown : x.own = true → (m.get b).own = true) :
    Rel B0 G ι (m.set b x) (setBlk w L.block o) ∧ Stp ι ι m (m.set b x) w (setBlk w L.block o) := by
  have hs : (setBlk w L.block o).heap.size = w.heap.size := by simp [setBlk]
  have hold' : (m.get b).live := by
    cases hg : m.get b <;> simp_all [Blk.own, Blk.live]
  refine ⟨⟨fun b' L' hb' hL' => ?_, fun b₁ b₂ L₁ L₂ h1 h2 h3 h4 l1 l2 e => ?_, fun b' L' h => by rw [hs]; exact hr.old b' L' h, by rw [hs]; exact hr.floor, hr.glob, fun b' hb' => ?_⟩,
    ⟨fun _ _ h => h, fun _ _ => rfl, rfl, rfl, rfl, by rw [hs]; exact Nat.le_refl _, fun B hB hn => ?_, fun b' L' h1 h2 => by simp at h2; omega, Nat.le_refl _, fun b' hb' ho => ?_⟩⟩
  · rw [Mem.get_set]
    by_cases e : b' = b
    · subst e
      rw [hL] at hL'
      cases hL'
      simpa using hnew
    · simp only [e, if_false]
      have hbr := hr.blk b' L' hb' hL'
      by_cases hlv : (m.get b').live
      · refine hbr.mono (fun _ _ h => h) ?_
        rw [setBlk_get _ _ _ _ (hr.old b L hL), if_neg]
        intro e2
        exact e (hr.inj b' b L' L hb' hlt hL' hL hlv hold' e2)
      · cases hg : m.get b' <;> simp_all [Blk.live, BlkRel]
  · have g1 : (m.get b₁).live := by
      rw [Mem.get_set] at l1
      by_cases e1 : b₁ = b
      · subst e1; simp at l1; exact hlive l1
      · simpa [e1] using l1
    have g2 : (m.get b₂).live := by
      rw [Mem.get_set] at l2
      by_cases e1 : b₂ = b
      · subst e1; simp at l2; exact hlive l2
      · simpa [e1] using l2
    exact hr.inj b₁ b₂ L₁ L₂ h1 h2 h3 h4 g1 g2 e
  · rw [Mem.get_set, if_neg (by simp at hb'; omega)]; exact hr.top b' hb'
  · rw [setBlk_get _ _ _ _ (hr.old b L hL), if_neg]
    intro e
    exact hn b L hlt hL hold e.symm
  · rw [Mem.get_set] at ho
    by_cases e1 : b' = b
    · subst e1; simp at ho; exact hown ho
    · simpa [e1] using ho

theorem storeC_ok (hr : Rel B0 G ι m w) {b off : Nat} {vs vs' : List Value} {L : Loc} (hL : ι b = some L) (hv : VRels ι vs vs') {m' : Mem} (h : storeC m b off vs = some m') :
    ∃ w', (storeCells ⟨L.block, L.base + off, none⟩ vs').run P w = .ok () w' ∧ Rel B0 G ι m' w' ∧ Stp ι ι m m' w w' := by
  unfold storeC at h
  split at h <;> try (simp at h; done)
  rename_i c hg
  split at h <;> try (simp at h; done)
  rename_i hle
  split at h <;> simp at h
  rename_i hone
  subst h
  have hlt := hr.get_lt (b := b) (by rw [hg]; simp)
  have hb := hr.blk b L hlt hL
  rw [hg] at hb
  obtain ⟨rc, e, fr, h1, h2, h3, h4, h5⟩ := hb
  have hlen := hv.length
  have hone' : vs'.all one = true := by rw [← hv.all fun _ _ h => h.one]; simpa using hone
  have hrun := run_storeCells' (P := P) L.block e fr vs' (L.base + off) 0 rc w h1 (by omega) (fun j g1 g2 => (h5 rfl).2 j (by omega)) hone'
  refine ⟨_, hrun, Rel.set hr hL hlt (by rw [hg]; rfl) ?_ (by rw [hg]; simp [Blk.live]) (by rw [hg]; simp [Blk.own])⟩
  have hsl := splice_length c vs off hle
  refine ⟨_, e, fr, by rw [setBlk_get _ _ _ _ (lt_of_get h1)]; simp; rfl, ?_, by rw [hsl]; exact h3, fun i v hv' => ?_, h5⟩
  · rw [List.size_toArray, splice_length _ _ _ (by simp; omega)]; simpa using h2
  · rw [splice_get _ _ _ _ hle] at hv'
    simp only [List.getElem?_toArray, Nat.add_zero]
    rw [splice_get _ _ _ _ (by simp; omega)]
    split at hv'
    · rename_i hi
      obtain ⟨y, hy, hry⟩ := hv.get hv'
      refine ⟨y, ?_, hry⟩
      rw [if_pos (by omega), ← hy]
      congr 1; omega
    · rename_i hi
      obtain ⟨y, hy, hry⟩ := h4 _ _ hv'
      refine ⟨y, ?_, hry⟩
      rw [if_neg (by omega)]
      simpa using hy

theorem storeD_ok (hr : Rel B0 G ι m w) {s : TypeId} {x x' v v' : Value} (hx : VRel ι x x') (hv : VRel ι v v') {m' : Mem} (h : storeD P m s v x = some m') :
    ∃ w', (Instr.storeAt s x' v').run P w = .ok () w' ∧ Rel B0 G ι m' w' ∧ Stp ι ι m m' w w' := by
  unfold storeD at h
  split at h <;> try (simp at h; done)
  rename_i b off
  obtain ⟨L, hL, rfl⟩ := hx.inv_ptr
  split at h <;> try (simp at h; done)
  rename_i k hk
  split at h <;> try (simp at h; done)
  rename_i hsz
  obtain ⟨w', h1, h2⟩ := storeC_ok (P := P) hr hL hv.cells h
  have hsz' : v'.cells.size = k := by
    have := hv.cells.length
    rw [hsz] at this
    simpa using this.symm
  exact ⟨w', by simp [Instr.storeAt, Instr.sureAddr, storeVar, run_sizeOf' hk, hsz', h1], h2⟩
end
end Go.DI
