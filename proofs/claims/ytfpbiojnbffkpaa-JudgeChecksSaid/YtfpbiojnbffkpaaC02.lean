/-
  DiMem: reading and writing memory.
-/
import Derived.Test.YtfpbiojnbffkpaaC01
import Derived.Laws.Cells
set_option linter.all false
set_option linter.unusedVariables false
set_option linter.unusedSimpArgs false
namespace Go.DI
section
variable {P : Program} {K : TypeId → Bool} {G B0 n : Nat} {ι : Ren} {m : Mem} {w : World} {t : Tmps} {a : Act}
def setBlk (w : World) (b : Nat) (o : Obj) : World := { w with heap := w.heap.setIfInBounds b o }
theorem modify_eq_set {α : Type} (a : Array α) (i : Nat) (f : α → α) (x : α) (h : a[i]? = some x) : a.modify i f = a.setIfInBounds i (f x) := by
  apply Array.ext_getElem?
  intro j
  rw [Array.getElem?_modify, Array.getElem?_setIfInBounds]
  have hi : i < a.size := by
    rcases Nat.lt_or_ge i a.size with h1 | h1
    · exact h1
    · rw [Array.getElem?_eq_none h1] at h; cases h
  by_cases hij : i = j
  · subst hij
    have hx : a[i] = x := by rw [Array.getElem?_eq_getElem hi] at h; exact Option.some.inj h
    simp [hi, hx]
  · simp [hij]
theorem setCell_eq {b o : Nat} {c : Array Value} {e : TypeId} {fr : Nat × Nat} (h : w.heap[b]? = some (.cells c e fr)) (v : Value) :
    w.setCell ⟨b, o, none⟩ v = setBlk w b (.cells (c.setIfInBounds o v) e fr) := by
  simp only [World.setCell, setBlk]
  rw [modify_eq_set _ _ _ _ h]
  simp
theorem setBlk_get (w : World) (b j : Nat) (o : Obj) (hb : b < w.heap.size) : (setBlk w b o).heap[j]? = if j = b then some o else w.heap[j]? := by
  simp only [setBlk, Array.getElem?_setIfInBounds]
  by_cases h : b = j
  · subst h; simp [hb]
  · have : ¬ j = b := fun h' => h h'.symm
    simp [h, this]
theorem setBlk_setBlk (w : World) (b : Nat) (o o' : Obj) : setBlk (setBlk w b o) b o' = setBlk w b o' := by
  simp only [setBlk]
  congr 1
  apply Array.ext_getElem?
  intro j
  simp only [Array.getElem?_setIfInBounds, Array.size_setIfInBounds]
  split <;> simp_all
theorem lt_of_get {b : Nat} {o : Obj} (h : w.heap[b]? = some o) : b < w.heap.size := by
  rcases Nat.lt_or_ge b w.heap.size with h1 | h1
  · exact h1
  · rw [Array.getElem?_eq_none h1] at h; cases h
theorem one_oneCell {v : Value} (h : one v = true) : v.oneCell' = true := by cases v <;> simp_all [one, Value.oneCell']
theorem splice_length (c vs : List Value) (off : Nat) (h : off + vs.length ≤ c.length) : (splice c off vs).length = c.length := by
  simp only [splice, List.length_append, List.length_take, List.length_drop]; omega
theorem splice_get (c vs : List Value) (off i : Nat) (h : off + vs.length ≤ c.length) : (splice c off vs)[i]? = if off ≤ i ∧ i < off + vs.length then vs[i - off]? else c[i]? := by
  unfold splice
  rw [List.getElem?_append, List.length_take]
  have hm : min off c.length = off := by omega
  rw [hm]
  by_cases h1 : i < off
  · have : ¬ (off ≤ i ∧ i < off + vs.length) := by omega
    simp [h1, this, List.getElem?_take]
  · simp only [h1, if_false]
    rw [List.getElem?_append]
    by_cases h2 : i - off < vs.length
    · have : off ≤ i ∧ i < off + vs.length := by omega
      simp [h2, this]
    · have : ¬ (off ≤ i ∧ i < off + vs.length) := by omega
      simp only [h2, if_false, this, List.getElem?_drop]
      congr 1; omega
theorem splice_cons (c vs : List Value) (off : Nat) (v : Value) (h : off + (vs.length + 1) ≤ c.length) : splice (c.set off v) (off + 1) vs = splice c off (v :: vs) := by
  apply List.ext_getElem?
  intro i
  rw [splice_get _ _ _ _ (by simp; omega), splice_get _ _ _ _ (by simpa using h)]
  by_cases h1 : off + 1 ≤ i ∧ i < off + 1 + vs.length
  · have h2 : off ≤ i ∧ i < off + (v :: vs).length := by simp; omega
    rw [if_pos h1, if_pos h2]
    obtain ⟨k, rfl⟩ : ∃ k, i = off + 1 + k := ⟨i - (off + 1), by omega⟩
    have e1 : off + 1 + k - (off + 1) = k := by omega
    have e2 : off + 1 + k - off = k + 1 := by omega
    rw [e1, e2]; rfl
  · rw [if_neg h1, List.getElem?_set]
    by_cases h3 : off = i
    · subst h3
      have h2 : off ≤ off ∧ off < off + (v :: vs).length := by simp
      rw [if_pos h2]
      have : off < c.length := by omega
      simp [this]
    · have h2 : ¬ (off ≤ i ∧ i < off + (v :: vs).length) := by simp; omega
      rw [if_neg h2]
      simp [h3]
theorem run_storeCells' (b : Nat) (e : TypeId) (fr : Nat × Nat) : ∀ (vs : List Value) (o i : Nat) (cur : Array Value) (w : World), w.heap[b]? = some (.cells cur e fr) → o + i + vs.length ≤ cur.size →
    (∀ j, o + i ≤ j → j < o + i + vs.length → ¬ (fr.1 ≤ j ∧ j < fr.2)) → vs.all one = true → (storeCells ⟨b, o, none⟩ vs i).run P w = .ok () (setBlk w b (.cells (splice cur.toList (o + i) vs).toArray e fr))
  | [], o, i, cur, w, hb, hl, hf, h1 => by
    have h0 : setBlk w b (.cells (splice cur.toList (o + i) []).toArray e fr) = w := by
      have : splice cur.toList (o + i) [] = cur.toList := by simp [splice]
      rw [this]
      simp only [setBlk, Array.toArray_toList]
      have : w.heap.setIfInBounds b (.cells cur e fr) = w.heap := by
        apply Array.ext_getElem?
        intro j
        rw [Array.getElem?_setIfInBounds]
        split
        · rename_i hj; subst hj; split
          · exact hb.symm
          · rename_i hn; exact (Array.getElem?_eq_none (by omega)).symm
        · rfl
      rw [this]
    simp [storeCells, h0]
  | v :: vs, o, i, cur, w, hb, hl, hf, h1 => by
    simp only [List.all_cons, Bool.and_eq_true] at h1
    simp only [List.length_cons] at hl hf
    have hlt : o + i < cur.size := by omega
    have hc : w.cell? ⟨b, o + i, none⟩ = some cur[o + i] := by simp [World.cell?, hb, hlt]
    have hz : w.frozen? ⟨b, o + i, none⟩ = false := by
      have := hf (o + i) (Nat.le_refl _) (by omega)
      simp only [World.frozen?, hb]
      simp only [Bool.and_eq_false_iff, decide_eq_false_iff_not]
      omega
    simp only [storeCells, Addr.add_none, Sem.run_bind]
    rw [run_store P w _ _ _ (one_oneCell h1.1), hc]
    simp only [hz, Bool.false_eq_true, if_false, Result.andThen_ok]
    rw [setCell_eq hb]
    have ih := run_storeCells' b e fr vs o (i + 1) (cur.setIfInBounds (o + i) v) (setBlk w b (.cells (cur.setIfInBounds (o + i) v) e fr))
      (by rw [setBlk_get _ _ _ _ (lt_of_get hb)]; simp) (by simp; omega) (fun j g1 g2 => hf j (by omega) (by omega)) h1.2
    rw [ih, setBlk_setBlk]
    have e1 : (cur.setIfInBounds (o + i) v).toList = cur.toList.set (o + i) v := by simp
    rw [e1, show o + (i + 1) = (o + i) + 1 from rfl, splice_cons _ _ _ _ (by simp; omega)]
theorem Rel.get_lt (hr : Rel B0 G ι m w) {b : Nat} (h : m.get b ≠ .none) : b < m.size := by
  rcases Nat.lt_or_ge b m.size with h1 | h1
  · exact h1
  · exact absurd (hr.top b h1) h
theorem loadC_ok (hr : Rel B0 G ι m w) {b off k : Nat} {c : List Value} {L : Loc} (hL : ι b = some L) (h : loadC m b off k = some c) :
    ∃ c', (loadCells ⟨L.block, L.base + off, none⟩ k).run P w = .ok c'.toArray w ∧ VRels ι c c' := by
  unfold loadC at h
  split at h <;> try (simp at h; done)
  rename_i own cs hg
  split at h <;> simp at h
  rename_i hle
  have hlt := hr.get_lt (b := b) (by rw [hg]; simp)
  have hb := hr.blk b L hlt hL
  rw [hg] at hb
  obtain ⟨rc, e, fr, h1, h2, h3, h4, h5⟩ := hb
  have hlen : c.length = k := by rw [← h]; simp; omega
  refine ⟨(rc.toList.drop (L.base + off)).take k, ?_, ?_⟩
  · have hl : ((rc.toList.drop (L.base + off)).take k).length = k := by simp; omega
    have := run_loadCells_list (P := P) w ⟨L.block, L.base + off, none⟩ ((rc.toList.drop (L.base + off)).take k) (fun j v hj => by
      rw [Addr.add_none]
      simp only [World.cell?, h1]
      rw [List.getElem?_take] at hj
      split at hj
      · rw [List.getElem?_drop] at hj; simpa using hj
      · simp at hj)
    rw [hl] at this
    exact this
  · refine LRel.of_get (by rw [hlen]; simp; omega) fun i x y hx hy => ?_
    rw [← h] at hx
    rw [List.getElem?_take] at hx hy
    split at hx
    · rename_i hi
      rw [List.getElem?_drop] at hx
      simp only [hi, if_true, List.getElem?_drop] at hy
      obtain ⟨v', hv', hrel⟩ := h4 _ _ hx
      have e1 : L.base + off + i = L.base + (off + i) := by omega
      rw [e1] at hy
      rw [Array.getElem?_toList, hv'] at hy
      cases hy
      exact hrel
    · simp at hx
theorem loadD_ok (hr : Rel B0 G ι m w) {s : TypeId} {x x' v : Value} (hx : VRel ι x x') (h : loadD P m s x = some v) : ∃ v', (Instr.loadAt s x').run P w = .ok v' w ∧ VRel ι v v' := by
  unfold loadD at h
  split at h <;> try (simp at h; done)
  rename_i b off
  obtain ⟨L, hL, rfl⟩ := hx.inv_ptr
  split at h <;> try (simp at h; done)
  · rename_i ha
    split at h <;> try (simp at h; done)
    rename_i k hk
    split at h <;> simp at h
    rename_i c hc
    subst h
    obtain ⟨c', h1, h2⟩ := loadC_ok (P := P) hr hL hc
    exact ⟨.agg c'.toArray, by simp [Instr.loadAt, Instr.sureAddr, loadVar, run_isAgg' ha, run_sizeOf' hk, h1], VRel.agg' h2⟩
  · rename_i ha
    split at h <;> try (simp at h; done)
    rename_i own c hg
    have hlt := hr.get_lt (b := b) (by rw [hg]; simp)
    have hb := hr.blk b L hlt hL
    rw [hg] at hb
    obtain ⟨rc, e, fr, h1, h2, h3, h4, h5⟩ := hb
    obtain ⟨v', hv', hrel⟩ := h4 _ _ h
    refine ⟨v', ?_, hrel⟩
    have hc : w.cell? ⟨L.block, L.base + off, none⟩ = some v' := by simp [World.cell?, h1, hv']
    simp [Instr.loadAt, Instr.sureAddr, loadVar, run_isAgg' ha, hc]
theorem Rel.set (hr : Rel B0 G ι m w) {b : Nat} {L : Loc} (hL : ι b = some L) (hlt : b < m.size) {x : Blk} (hold : (m.get b).own = true) {o : Obj}
    (hnew : BlkRel B0 ι x L (setBlk w L.block o)) (hlive : x.live → (m.get b).live) (hown : x.own = true → (m.get b).own = true) :
    Rel B0 G ι (m.set b x) (setBlk w L.block o) ∧ Stp ι ι m (m.set b x) w (setBlk w L.block o) := by
  have hs : (setBlk w L.block o).heap.size = w.heap.size := by simp [setBlk]
  have hold' : (m.get b).live := by
    cases hg : m.get b <;> simp_all [Blk.own, Blk.live]
  refine ⟨⟨fun b' L' hb' hL' => ?_, fun b₁ b₂ L₁ L₂ h1 h2 h3 h4 l1 l2 g0 e => ?_, by rw [hs]; exact hr.floor, hr.glob, fun b' hb' => ?_⟩,
    ⟨fun _ _ h => h, fun _ _ => rfl, rfl, rfl, rfl, by rw [hs]; exact Nat.le_refl _, fun B hB hn => ?_, fun b' L' h1 h2 => by simp at h2; omega, Nat.le_refl _, fun b' hb' ho => ?_⟩⟩
  · rw [Mem.get_set]
    by_cases e : b' = b
    · subst e
      rw [hL] at hL'
      cases hL'
      simpa using hnew
    · simp only [e, if_false]
      have hbr := hr.blk b' L' hb' hL'
      by_cases hlv : (m.get b').live
      · refine hbr.mono (fun _ _ h => h) ?_
        rw [setBlk_get _ _ _ _ (hr.old b L hL hold'), if_neg]
        intro e2
        exact e (hr.inj b' b L' L hb' hlt hL' hL hlv hold' (Nat.le_trans ((hr.blk b L hlt hL).own_floor hold) (Nat.le_of_eq e2.symm)) e2)
      · cases hg : m.get b' <;> simp_all [Blk.live, BlkRel]
  · have g1 : (m.get b₁).live := by
      rw [Mem.get_set] at l1
      by_cases e1 : b₁ = b
      · subst e1; simp at l1; exact hlive l1
      · simpa [e1] using l1
    have g2 : (m.get b₂).live := by
      rw [Mem.get_set] at l2
      by_cases e1 : b₂ = b
      · subst e1; simp at l2; exact hlive l2
      · simpa [e1] using l2
    exact hr.inj b₁ b₂ L₁ L₂ h1 h2 h3 h4 g1 g2 g0 e
  · rw [Mem.get_set, if_neg (by simp at hb'; omega)]; exact hr.top b' hb'
  · rw [setBlk_get _ _ _ _ (hr.old b L hL hold'), if_neg]
    intro e
    exact hn b L hlt hL hold e.symm
  · rw [Mem.get_set] at ho
    by_cases e1 : b' = b
    · subst e1; simp at ho; exact hown ho
    · simpa [e1] using ho
theorem storeC_ok (hr : Rel B0 G ι m w) {b off : Nat} {vs vs' : List Value} {L : Loc} (hL : ι b = some L) (hv : VRels ι vs vs') {m' : Mem} (h : storeC m b off vs = some m') :
    ∃ w', (storeCells ⟨L.block, L.base + off, none⟩ vs').run P w = .ok () w' ∧ Rel B0 G ι m' w' ∧ Stp ι ι m m' w w' := by
  unfold storeC at h
  split at h <;> try (simp at h; done)
  rename_i c hg
  split at h <;> try (simp at h; done)
  rename_i hle
  split at h <;> simp at h
  rename_i hone
  subst h
  have hlt := hr.get_lt (b := b) (by rw [hg]; simp)
  have hb := hr.blk b L hlt hL
  rw [hg] at hb
  obtain ⟨rc, e, fr, h1, h2, h3, h4, h5⟩ := hb
  have hlen := hv.length
  have hone' : vs'.all one = true := by rw [← hv.all fun _ _ h => h.one]; simpa using hone
  have hrun := run_storeCells' (P := P) L.block e fr vs' (L.base + off) 0 rc w h1 (by omega) (fun j g1 g2 => (h5 rfl).2 j (by omega)) hone'
  refine ⟨_, hrun, Rel.set hr hL hlt (by rw [hg]; rfl) ?_ (by rw [hg]; simp [Blk.live]) (by rw [hg]; simp [Blk.own])⟩
  have hsl := splice_length c vs off hle
  refine ⟨_, e, fr, by rw [setBlk_get _ _ _ _ (lt_of_get h1)]; simp; rfl, ?_, by rw [hsl]; exact h3, fun i v hv' => ?_, h5⟩
  · rw [List.size_toArray, splice_length _ _ _ (by simp; omega)]; simpa using h2
  · rw [splice_get _ _ _ _ hle] at hv'
    simp only [List.getElem?_toArray, Nat.add_zero]
    rw [splice_get _ _ _ _ (by simp; omega)]
    split at hv'
    · rename_i hi
      obtain ⟨y, hy, hry⟩ := hv.get hv'
      refine ⟨y, ?_, hry⟩
      rw [if_pos (by omega), ← hy]
      congr 1; omega
    · rename_i hi
      obtain ⟨y, hy, hry⟩ := h4 _ _ hv'
      refine ⟨y, ?_, hry⟩
      rw [if_neg (by omega)]
      simpa using hy
theorem storeD_ok (hr : Rel B0 G ι m w) {s : TypeId} {x x' v v' : Value} (hx : VRel ι x x') (hv : VRel ι v v') {m' : Mem} (h : storeD P m s v x = some m') :
    ∃ w', (Instr.storeAt s x' v').run P w = .ok () w' ∧ Rel B0 G ι m' w' ∧ Stp ι ι m m' w w' := by
  unfold storeD at h
  split at h <;> try (simp at h; done)
  rename_i b off
  obtain ⟨L, hL, rfl⟩ := hx.inv_ptr
  split at h <;> try (simp at h; done)
  rename_i k hk
  split at h <;> try (simp at h; done)
  rename_i hsz
  obtain ⟨w', h1, h2⟩ := storeC_ok (P := P) hr hL hv.cells h
  have hsz' : v'.cells.size = k := by
    have := hv.cells.length
    rw [hsz] at this
    simpa using this.symm
  exact ⟨w', by simp [Instr.storeAt, Instr.sureAddr, storeVar, run_sizeOf' hk, hsz', h1], h2⟩
end
end Go.DI
namespace Go.DI
section
variable {P : Program} {K : TypeId → Bool} {G B0 n : Nat} {ι : Ren} {m : Mem} {w : World} {t : Tmps} {a : Act}
theorem run_keyOkF {em : Bool} {d' : Nat} {cs : Array Value} {h : TypeId → Value → Bool} (ih : ∀ (t : TypeId) (v : Value), h t v = true → (Instr.checkKey em d' t v).run P w = .ok () w) :
    ∀ (fs : List Field), keyOkF (fun t o => part P t cs.toList o) h fs = true →
      (forIn fs PUnit.unit fun f r => (if f.name ≠ "_" then (do let a ← Go.part f.type cs f.offset; Instr.checkKey em d' f.type a; pure (ForInStep.yield PUnit.unit)) else pure (ForInStep.yield PUnit.unit) : Sem (ForInStep PUnit))).run P w = .ok PUnit.unit w
  | [], _ => by simp
  | f :: fs, hk => by
    simp only [keyOkF, Bool.and_eq_true] at hk
    obtain ⟨h1, h2⟩ := hk
    have ih2 := run_keyOkF ih fs h2
    split at h1 <;> try (simp at h1; done)
    rename_i v hv
    simp only [List.forIn_cons, Sem.run_bind]
    by_cases hn : f.name = "_"
    · simp only [hn, ne_eq, not_true_eq_false, if_false, Sem.run_pure, Result.andThen_ok]
      exact ih2
    · simp only [ne_eq, hn, not_false_eq_true, if_true, Sem.run_bind, run_part hv, Result.andThen_ok, ih _ _ h1, Sem.run_pure]
      exact ih2
theorem run_keyOkL {em : Bool} {d' k : Nat} {cs : Array Value} {e : TypeId} {h : TypeId → Value → Bool} (hs : szOf P e = some k) (ih : ∀ (t : TypeId) (v : Value), h t v = true → (Instr.checkKey em d' t v).run P w = .ok () w) :
    ∀ (len i : Nat), keyOkL (fun i => match part P e cs.toList (i * k) with | some u => h e u | none => false) len i = true →
      (forIn (List.range' i len) PUnit.unit fun i r => (do let s ← Go.sizeOf e; let a ← Go.part e cs (i * s); Instr.checkKey em d' e a; pure (ForInStep.yield PUnit.unit) : Sem (ForInStep PUnit))).run P w = .ok PUnit.unit w
  | 0, i, _ => by simp
  | len + 1, i, hk => by
    simp only [keyOkL, Bool.and_eq_true] at hk
    obtain ⟨h1, h2⟩ := hk
    have ih2 := run_keyOkL hs ih len (i + 1) h2
    split at h1 <;> try (simp at h1; done)
    rename_i v hv
    rw [List.range'_succ]
    simp only [List.forIn_cons, Sem.run_bind, run_sizeOf' hs, Result.andThen_ok, run_part hv, ih _ _ h1, Sem.run_pure]
    exact ih2
theorem run_keyOk (em : Bool) : ∀ (d : Nat) (t : TypeId) (v : Value), keyOk P d t v = true → ∀ d', d ≤ d' → (Instr.checkKey em d' t v).run P w = .ok () w
  | 0, t, v, h, d', hd => by simp [keyOk] at h
  | d + 1, t, v, h, d', hd => by
    obtain ⟨d', rfl⟩ : ∃ k, d' = k + 1 := ⟨d' - 1, by omega⟩
    have hd' : d ≤ d' := by omega
    unfold keyOk at h
    split at h
    · simp at h
    · rename_i len elem hu
      split at h <;> try (simp at h; done)
      rename_i cs
      split at h <;> try (simp at h; done)
      rename_i k hk
      simp only [Instr.checkKey, Sem.run_bind, run_und hu, Result.andThen_ok]
      simp only [Std.Legacy.Range.forIn_eq_forIn_range', Std.Legacy.Range.size, Nat.sub_zero, Nat.add_one_sub_one, Nat.div_one]
      have := run_keyOkL (em := em) (d' := d') (cs := cs) (h := keyOk P d) (w := w) hk (fun t v h => run_keyOk em d t v h d' hd') len 0 h
      simp at this ⊢
      rw [this]
      rfl
    · rename_i fields hu
      split at h <;> try (simp at h; done)
      rename_i cs
      simp only [Instr.checkKey, Sem.run_bind, run_und hu, Result.andThen_ok]
      rw [← Array.forIn_toList]
      have := run_keyOkF (em := em) (d' := d') (cs := cs) (h := keyOk P d) (w := w) (fun t v h => run_keyOk em d t v h d' hd') fields.toList h
      simp at this ⊢
      rw [this]
      rfl
    · rename_i dd hi hA hS hu
      simp only [Instr.checkKey, Sem.run_bind, run_und hu, Result.andThen_ok]
      cases dd <;> first | rfl | exact absurd rfl (hi _) | exact absurd rfl (hA _ _) | exact absurd rfl (hS _)
    · simp at h
theorem keyOkF_rel {g g' : TypeId → Nat → Option Value} {h : TypeId → Value → Bool} (hg : ∀ (t : TypeId) (o : Nat) (v : Value), g t o = some v → ∃ v', g' t o = some v' ∧ VRel ι v v')
    (hh : ∀ (t : TypeId) (v v' : Value), VRel ι v v' → h t v = true → h t v' = true) : ∀ (fs : List Field), keyOkF g h fs = true → keyOkF g' h fs = true
  | [], _ => rfl
  | f :: fs, hk => by
    simp only [keyOkF, Bool.and_eq_true] at hk ⊢
    obtain ⟨h1, h2⟩ := hk
    refine ⟨?_, keyOkF_rel hg hh fs h2⟩
    split at h1 <;> try (simp at h1; done)
    rename_i v hv
    obtain ⟨v', hv', hr⟩ := hg _ _ _ hv
    simp only [hv']
    exact hh _ _ _ hr h1
theorem keyOkL_rel {f f' : Nat → Bool} (hf : ∀ i, f i = true → f' i = true) : ∀ (n i : Nat), keyOkL f n i = true → keyOkL f' n i = true
  | 0, _, _ => rfl
  | n + 1, i, h => by
    simp only [keyOkL, Bool.and_eq_true] at h ⊢
    exact ⟨hf _ h.1, keyOkL_rel hf n (i + 1) h.2⟩
theorem keyOk_rel : ∀ (d : Nat) (t : TypeId) (v v' : Value), VRel ι v v' → keyOk P d t v = true → keyOk P d t v' = true
  | 0, t, v, v', hr, h => by simp [keyOk] at h
  | d + 1, t, v, v', hr, h => by
    unfold keyOk at h ⊢
    split at h
    · simp at h
    · split at h <;> try (simp at h; done)
      rename_i cs
      split at h <;> try (simp at h; done)
      obtain ⟨cs', rfl, hcs⟩ := hr.inv_agg
      refine keyOkL_rel (fun i hi => ?_) _ _ h
      split at hi <;> try (simp at hi; done)
      rename_i u hu
      obtain ⟨u', hu', hru⟩ := part_rel hcs hu
      simp only [hu']
      exact keyOk_rel d _ _ _ hru hi
    · split at h <;> try (simp at h; done)
      rename_i cs
      obtain ⟨cs', rfl, hcs⟩ := hr.inv_agg
      exact keyOkF_rel (fun t o v hv => part_rel hcs hv) (fun t v v' hr h => keyOk_rel d t v v' hr h) _ h
    · rfl
    · simp at h
theorem findNow_eq (hK : Plain P K) {kt : TypeId} {kd : TypeDesc} (hu : P.underlying kt = some kd) {k : Value} : ∀ (es : List MapEntry) (i : Nat) (r r' : Option (Nat × Value)),
    findD P K kt k es i = some r → Instr.findNow kd k es i = some r' → r = r'
  | [], i, r, r', h, h' => by simp [findD] at h; simp [Instr.findNow] at h'; rw [← h, ← h']
  | e :: es, i, r, r', h, h' => by
    simp only [findD] at h
    simp only [Instr.findNow] at h'
    have hsame : ∀ b b', feq P K 100 kt k e.key = some b → Instr.sameNow kd k e.key = some b' → b = b' := by
      intro b b' h1 h2
      rw [show (100 : Nat) = 99 + 1 from rfl] at h1
      unfold feq at h1
      rw [hu] at h1
      unfold Instr.sameNow at h2
      split at h2
      · simp only [] at h1
        split at h1 <;> try (simp at h1; done)
        split at h2 <;> simp_all
      · simp_all
      · simp_all
      · simp at h2
    split at h' <;> try (simp at h'; done)
    · rename_i hs
      split at h <;> try (simp at h; done)
      · simp at h h'; rw [← h, ← h']
      · rename_i hf; exact absurd (hsame _ _ hf hs) (by simp)
    · rename_i hs
      split at h <;> try (simp at h; done)
      · rename_i hf; exact absurd (hsame _ _ hf hs) (by simp)
      · exact findNow_eq hK hu es (i + 1) r r' h h'
theorem run_findAsking (hK : Plain P K) {kt : TypeId} {k : Value} : ∀ (es : List MapEntry) (i : Nat) (r : Option (Nat × Value)), findD P K kt k es i = some r → (Instr.findAsking kt k es i).run P w = .ok r w
  | [], i, r, h => by simp [findD] at h; subst h; simp [Instr.findAsking]
  | e :: es, i, r, h => by
    simp only [findD] at h
    split at h
    · rename_i hf
      have := run_feq (w := w) hK 100 kt k e.key true hf Op.maxDepth (by decide)
      simp at h; subst h
      simp [Instr.findAsking, Op.equal, this]
    · rename_i hf
      have := run_feq (w := w) hK 100 kt k e.key false hf Op.maxDepth (by decide)
      simp only [Instr.findAsking, Op.equal, Sem.run_bind, this, Result.andThen_ok, Bool.false_eq_true, if_false]
      exact run_findAsking hK es (i + 1) r h
    · simp at h
theorem run_findKey (hK : Plain P K) {kt : TypeId} {kd : TypeDesc} (hu : P.underlying kt = some kd) {k : Value} {es : List MapEntry} {r : Option (Nat × Value)} (h : findD P K kt k es 0 = some r) :
    (Instr.findKey kt k es).run P w = .ok r w := by
  simp only [Instr.findKey, Sem.run_bind, run_und hu, Result.andThen_ok]
  split
  · rename_i r' h'
    rw [findNow_eq hK hu es 0 r r' h h']
    rfl
  · exact run_findAsking hK es 0 r h
def FRel (ι : Ren) : Option (Nat × Value) → Option (Nat × Value) → Prop
  | none, none => True
  | some (i, v), some (j, v') => i = j ∧ VRel ι v v'
  | _, _ => False
theorem findD_rel {kt : TypeId} {k k' : Value} (hk : VRel ι k k') {es es' : List MapEntry} (he : ERels ι es es') : ∀ (i : Nat) (r : Option (Nat × Value)), findD P K kt k es i = some r → ∃ r', findD P K kt k' es' i = some r' ∧ FRel ι r r' := by
  induction he with
  | nil => intro i r h; simp [findD] at h; subst h; exact ⟨none, rfl, trivial⟩
  | cons h0 t ih =>
    intro i r h
    simp only [findD] at h ⊢
    split at h
    · rename_i hf
      rw [feq_rel 100 kt _ _ _ _ _ hk h0.1 hf]
      simp at h; subst h
      exact ⟨_, rfl, rfl, h0.2.1⟩
    · rename_i hf
      rw [feq_rel 100 kt _ _ _ _ _ hk h0.1 hf]
      exact ih _ _ h
    · simp at h
theorem key_desc {kt : TypeId} {d : Nat} {k : Value} (h : keyOk P (d + 1) kt k = true) : ∃ kd, P.underlying kt = some kd := by
  unfold keyOk at h
  cases hu : P.underlying kt with
  | none => simp [hu] at h
  | some kd => exact ⟨kd, rfl⟩
theorem entries_ok (hr : Rel B0 G ι m w) {x x' : Value} (hx : VRel ι x x') {es : List MapEntry} (h : entriesD m x = some es) :
    ∃ es' : Array MapEntry, ERels ι es es'.toList ∧ (x' = .map none ∧ es' = #[] ∨ ∃ r c, x' = .map (some r) ∧ w.heap[r]? = some (.map es' c)) := by
  unfold entriesD at h
  split at h <;> try (simp at h; done)
  · simp at h; subst h; cases hx; exact ⟨#[], .nil, .inl ⟨rfl, rfl⟩⟩
  · rename_i r
    split at h <;> simp at h
    rename_i own es₀ c hg
    subst h
    have hlt := hr.get_lt (b := r) (by rw [hg]; simp)
    cases hx with
    | map _ L hL =>
      have hb := hr.blk r L hlt hL
      rw [hg] at hb
      obtain ⟨res, h1, h2, h3⟩ := hb
      exact ⟨res, h2, .inr ⟨_, _, rfl, h1⟩⟩
theorem lookupD_ok (hK : Plain P K) (hr : Rel B0 G ι m w) {s : TypeId} {x x' k k' v : Value} {ok : Bool} (hx : VRel ι x x') (hk : VRel ι k k') (h : lookupD P K m s x k ok = some v) :
    ∃ v', (Instr.lookup s x' k' ok).run P w = .ok v' w ∧ VRel ι v v' := by
  unfold lookupD at h
  split at h <;> try (simp at h; done)
  rename_i kt et hu
  split at h <;> try (simp at h; done)
  rename_i es hes
  split at h <;> try (simp at h; done)
  rename_i hkey
  obtain ⟨es', he, hcase⟩ := entries_ok hr hx hes
  obtain ⟨kd, hkd⟩ := key_desc hkey
  have hkey' := keyOk_rel 100 kt k k' hk hkey
  have hck := fun em => run_keyOk (P := P) (w := w) em 100 kt k' hkey' 10000 (by decide)
  have hmain : ∀ (r' : Option (Nat × Value)) (v' : Value), findD P K kt k' es'.toList 0 = some r' →
      (match r' with | some (_, u) => v' = cond ok (.tuple #[u, .bool true]) u | none => ∃ z, zeroOf P et = some z ∧ v' = cond ok (.tuple #[z, .bool false]) z) → (Instr.lookup s x' k' ok).run P w = .ok v' w := by
    intro r' v' hf hv
    have hfk := run_findKey (P := P) (w := w) hK hkd hf
    unfold Instr.lookup
    simp only [Sem.run_bind, run_und hu, Result.andThen_ok]
    rcases hcase with ⟨rfl, rfl⟩ | ⟨r, c, rfl, hh⟩
    · simp only [Sem.run_bind, Sem.run_pure, Result.andThen_ok, hck, hfk]
      cases r' with
      | none => obtain ⟨z, hz, rfl⟩ := hv; simp [run_zero' hz]
      | some p => obtain ⟨i, u⟩ := p; simp only [] at hv; subst hv; simp
    · have hgo : (getObj r).run P w = .ok (.map es' c) w := by simp [getObj, Sem.run, hh]
      simp only [Sem.run_bind, Sem.run_pure, Result.andThen_ok, hgo, hck, hfk]
      cases r' with
      | none => obtain ⟨z, hz, rfl⟩ := hv; simp [run_zero' hz]
      | some p => obtain ⟨i, u⟩ := p; simp only [] at hv; subst hv; simp
  split at h <;> try (simp at h; done)
  · rename_i i u hf
    obtain ⟨r', hf', hfr⟩ := findD_rel hk he 0 _ hf
    cases r' with
    | none => simp [FRel] at hfr
    | some p =>
      obtain ⟨j, u'⟩ := p
      cases hsh : shp P et u with
      | false => rw [hsh] at h; simp at h
      | true =>
      rw [hsh] at h
      simp at h; subst h
      refine ⟨_, hmain _ _ hf' rfl, ?_⟩
      cases ok
      · exact hfr.2
      · exact VRel.tuple' (a := [u, .bool true]) (a' := [u', .bool true]) (.cons hfr.2 (.cons (.bool _) .nil))
  · rename_i hf
    obtain ⟨r', hf', hfr⟩ := findD_rel hk he 0 _ hf
    cases r' with
    | some p => simp [FRel] at hfr
    | none =>
      split at h <;> try (simp at h; done)
      rename_i z hz
      split at h <;> simp at h
      rename_i hcz
      subst h
      refine ⟨_, hmain _ _ hf' ⟨z, hz, rfl⟩, ?_⟩
      cases ok
      · exact constV_rel ι hcz
      · exact VRel.tuple' (a := [z, .bool false]) (a' := [z, .bool false]) (.cons (constV_rel ι hcz) (.cons (.bool _) .nil))
theorem sameBits_rel : ∀ (d : Nat) (x y x' y' : Value), VRel ι x x' → VRel ι y y' → Instr.sameBits d x y = true → Instr.sameBits d x' y' = true := by
  intro d
  induction d with
  | zero =>
    intro x y x' y' hx hy h
    cases hx <;> cases hy <;> simp_all [Instr.sameBits]
  | succ d ih =>
    intro x y x' y' hx hy h
    cases x <;> cases y <;> simp only [Instr.sameBits] at h <;> (try (simp at h; done))
    case bool => cases hx; cases hy; simpa [Instr.sameBits] using h
    case int => cases hx; cases hy; simpa [Instr.sameBits] using h
    case float => cases hx; cases hy; simpa [Instr.sameBits] using h
    case complex => cases hx; cases hy; simpa [Instr.sameBits] using h
    case string => cases hx; cases hy; simpa [Instr.sameBits] using h
    case pointer a b =>
      have hab : a = b := by simpa using h
      subst hab
      cases hx with
      | ptr0 => cases hy; rfl
      | ptr b off L hL =>
        cases hy with
        | ptr _ _ L' hL' => rw [hL] at hL'; cases hL'; simp [Instr.sameBits]
    case chan => cases hx
    case iface => cases hx with | iface t v v' h1 => cases hy with | iface u q q' h2 => simp [Instr.sameBits] at h ⊢; exact ⟨h.1, ih _ _ _ _ h1 h2 h.2⟩
    case nilIface => cases hx; cases hy; rfl
    case agg xs ys =>
      obtain ⟨xs', rfl, hxs⟩ := hx.inv_agg
      obtain ⟨ys', rfl, hys⟩ := hy.inv_agg
      simp only [Instr.sameBits, Bool.and_eq_true, beq_iff_eq] at h ⊢
      have hz : ∀ (a a' b b' : List Value), VRels ι a a' → VRels ι b b' → (a.zip b).all (fun (x, y) => Instr.sameBits d x y) = true → (a'.zip b').all (fun (x, y) => Instr.sameBits d x y) = true := by
        intro a a' b b' ha
        induction ha generalizing b b' with
        | nil => intro hb h; simp
        | cons h0 t ih2 =>
          intro hb h
          cases hb with
          | nil => simp
          | cons h0' t' => simp at h ⊢; exact ⟨ih _ _ _ _ h0 h0' h.1, by simpa using ih2 _ _ t' (by simpa using h.2)⟩
      refine ⟨?_, hz _ _ _ _ hxs hys h.2⟩
      have e1 := hxs.length
      have e2 := hys.length
      simp at e1 e2
      omega
theorem modE_eq (es : List MapEntry) (i : Nat) (k v : Value) : ((⟨es⟩ : Array MapEntry).modify i fun e => { e with key := k, val := v }).toList = modE i k v es := by
  have h : ∀ (es : List MapEntry) (i : Nat), es.modify i (fun e => { e with key := k, val := v }) = modE i k v es := by
    intro es
    induction es with
    | nil => intro i; simp [modE]
    | cons e es ih => intro i; cases i with
      | zero => simp [modE]
      | succ i => simp [modE, ih]
  rw [Array.toList_modify]
  exact h es i
theorem modE_rel {es es' : List MapEntry} (he : ERels ι es es') {k k' v v' : Value} (hk : VRel ι k k') (hv : VRel ι v v') : ∀ i, ERels ι (modE i k v es) (modE i k' v' es') := by
  induction he with
  | nil => intro i; simp only [modE]; exact .nil
  | cons h t ih => intro i; cases i with
    | zero => exact .cons ⟨hk, hv, h.2.2⟩ t
    | succ i => exact .cons h (ih i)
theorem run_setObj {r : Nat} {es : Array MapEntry} {c : Nat} (h : w.heap[r]? = some (.map es c)) (o : Obj) : (setObj r o).run P w = .ok () (setBlk w r o) := by
  simp [setObj, Sem.run, h, setBlk]
theorem mapUpdateD_ok (hK : Plain P K) (hr : Rel B0 G ι m w) {s : TypeId} {x x' k k' v v' : Value} (hx : VRel ι x x') (hk : VRel ι k k') (hv : VRel ι v v') {m' : Mem} (h : mapUpdateD P K m s x k v = some m') :
    ∃ w', (Instr.mapUpdate s x' k' v').run P w = .ok () w' ∧ Rel B0 G ι m' w' ∧ Stp ι ι m m' w w' := by
  unfold mapUpdateD at h
  split at h <;> try (simp at h; done)
  rename_i kt et hu
  split at h <;> try (simp at h; done)
  rename_i r
  split at h <;> try (simp at h; done)
  rename_i es clock hg
  split at h <;> try (simp at h; done)
  rename_i hkey
  have hlt := hr.get_lt (b := r) (by rw [hg]; simp)
  obtain ⟨kd, hkd⟩ := key_desc hkey
  have hkey' := keyOk_rel 100 kt k k' hk hkey
  cases hx with
  | map _ L hL =>
    have hb := hr.blk r L hlt hL
    rw [hg] at hb
    obtain ⟨res, h1, h2, h3⟩ := hb
    have hck := run_keyOk (P := P) (w := w) false 100 kt k' hkey' 10000 (by decide)
    have hgo : (getObj L.block).run P w = .ok (.map res clock) w := by simp [getObj, Sem.run, h1]
    split at h <;> try (simp at h; done)
    · rename_i i u hf
      obtain ⟨r', hf', hfr⟩ := findD_rel hk h2 0 _ hf
      split at h <;> try (simp at h; done)
      rename_i e he
      split at h <;> simp at h
      rename_i hsb
      subst h
      cases r' with
      | none => simp [FRel] at hfr
      | some p =>
        obtain ⟨j, u'⟩ := p
        obtain ⟨rfl, hu'⟩ := hfr
        obtain ⟨e', he', hre⟩ := h2.get he
        have hsb' := sameBits_rel 10000 _ _ _ _ hre.1 hk hsb
        have hfk := run_findKey (P := P) (w := w) hK hkd hf'
        have hks : (Instr.keyThatStays e'.key k').run P w = .ok k' w := by simp [Instr.keyThatStays, hsb']
        have he'' : res[i]? = some e' := by simpa using he'
        refine ⟨setBlk w L.block (.map (res.modify i fun e => { e with key := k', val := v' }) clock), ?_, Rel.set hr hL hlt (by rw [hg]; rfl) ?_ (by rw [hg]; simp [Blk.live]) (by rw [hg]; simp [Blk.own])⟩
        · simp only [Instr.mapUpdate, Sem.run_bind, run_und hu, Result.andThen_ok, hgo, hck, hfk, he'', Option.map_some, Option.getD_some, hks]
          exact run_setObj h1 _
        · refine ⟨_, by rw [setBlk_get _ _ _ _ (lt_of_get h1)]; simp; rfl, ?_, h3⟩
          obtain ⟨rl⟩ := res
          rw [modE_eq]
          exact modE_rel h2 hk hv i
    · rename_i hf
      obtain ⟨r', hf', hfr⟩ := findD_rel hk h2 0 _ hf
      simp at h; subst h
      cases r' with
      | some p => simp [FRel] at hfr
      | none =>
        have hfk := run_findKey (P := P) (w := w) hK hkd hf'
        refine ⟨setBlk w L.block (.map (res.push { key := k', val := v', born := clock }) (clock + 1)), ?_, Rel.set hr hL hlt (by rw [hg]; rfl) ?_ (by rw [hg]; simp [Blk.live]) (by rw [hg]; simp [Blk.own])⟩
        · simp only [Instr.mapUpdate, Sem.run_bind, run_und hu, Result.andThen_ok, hgo, hck, hfk]
          exact run_setObj h1 _
        · refine ⟨_, by rw [setBlk_get _ _ _ _ (lt_of_get h1)]; simp; rfl, ?_, h3⟩
          simp only [Array.toList_push]
          exact h2.append (.cons ⟨hk, hv, rfl⟩ .nil)
end
end Go.DI
namespace Go.DI
section
variable {P : Program} {K : TypeId → Bool} {G B0 n : Nat} {ι : Ren} {m : Mem} {w : World} {t : Tmps} {a : Act}
theorem setFold (c : Array Value) (off : Nat) : ∀ (vs : List Value) (k : Nat) (cs : Array Value), off + k + vs.length ≤ cs.size →
    ((vs.zipIdx k).foldl (fun (cs : Array Value) (x : Value × Nat) => cs.setIfInBounds (off + x.2) x.1) cs).toList = splice cs.toList (off + k) vs
  | [], k, cs, h => by simp [splice]
  | v :: vs, k, cs, h => by
    simp only [List.length_cons] at h
    simp only [List.zipIdx_cons, List.foldl_cons]
    rw [setFold c off vs (k + 1) _ (by simp; omega)]
    have e1 : (cs.setIfInBounds (off + k) v).toList = cs.toList.set (off + k) v := by simp
    rw [e1, show off + (k + 1) = (off + k) + 1 from rfl, splice_cons _ _ _ _ (by simp; omega)]
theorem fillD_run {place place' : Nat → Option (Nat × Nat)} (hp : ∀ i r, place i = some r → place' i = some r) : ∀ (parts : List (Nat × Value)) (cells : Array Value) (r : List Value), fillD place cells.toList parts = some r → Instr.fill place' cells parts = some r.toArray
  | [], cells, r, h => by simp [fillD] at h; simp [Instr.fill, ← h]
  | (i, v) :: rest, cells, r, h => by
    simp only [fillD] at h
    split at h <;> try (simp at h; done)
    rename_i off size hpl
    split at h <;> try (simp at h; done)
    rename_i hc
    obtain ⟨h1, h2⟩ := hc
    simp at h1 h2
    have hs := setFold cells off v.cells.toList 0 cells (by simp; omega)
    simp only [Nat.add_zero] at hs
    simp only [Instr.fill, hp _ _ hpl]
    rw [if_neg (by simp; omega)]
    refine fillD_run hp rest _ r ?_
    rw [← h]
    congr 1
    rw [← hs]
    congr 1
    rw [← Array.foldl_toList]
    simp
inductive PRels (ι : Ren) : List (Nat × Value) → List (Nat × Value) → Prop where
  | nil : PRels ι [] []
  | cons {i : Nat} {v v' : Value} {l l' : List (Nat × Value)} (h : VRel ι v v') (t : PRels ι l l') : PRels ι ((i, v) :: l) ((i, v') :: l')
theorem fillD_rel {place : Nat → Option (Nat × Nat)} {ps ps' : List (Nat × Value)} (hp : PRels ι ps ps') : ∀ {cs cs' : List Value}, VRels ι cs cs' → ∀ {r : List Value}, fillD place cs ps = some r → ∃ r', fillD place cs' ps' = some r' ∧ VRels ι r r' := by
  induction hp with
  | nil => intro cs cs' hc r h; simp [fillD] at h; subst h; exact ⟨_, rfl, hc⟩
  | cons hv t ih =>
    intro cs cs' hc r h
    simp only [fillD] at h ⊢
    split at h <;> try (simp at h; done)
    rename_i off size hpl
    split at h <;> try (simp at h; done)
    rename_i hcond
    have e1 := hv.cells.length
    have e2 := hc.length
    rw [if_pos (by omega)]
    exact ih (hc.splice hv.cells off) h
theorem placeS_run {fields : Array Field} (hs : fieldsSized P fields.toList = true) :
    ∃ places : Array (Nat × Nat), (fields.mapM (fun f => (do pure (f.offset, ← Go.sizeOf f.type) : Sem (Nat × Nat)))).run P w = .ok places w ∧ ∀ i r, placeS P fields.toList i = some r → places[i]? = some r := by
  obtain ⟨fl⟩ := fields
  simp only at hs ⊢
  have main : ∀ (fl : List Field), fieldsSized P fl = true → ∃ pl : List (Nat × Nat), (fl.mapM (fun f => (do pure (f.offset, ← Go.sizeOf f.type) : Sem (Nat × Nat)))).run P w = .ok pl w ∧ ∀ i r, placeS P fl i = some r → pl[i]? = some r := by
    intro fl
    induction fl with
    | nil => intro _; exact ⟨[], by simp, by intro i r h; simp [placeS] at h⟩
    | cons f fl ih =>
      intro h
      simp only [fieldsSized, Bool.and_eq_true, Option.isSome_iff_exists] at h
      obtain ⟨⟨sz, hsz⟩, h2⟩ := h
      obtain ⟨pl, h3, h4⟩ := ih h2
      refine ⟨(f.offset, sz) :: pl, ?_, ?_⟩
      · rw [List.mapM_cons]
        simp only [Sem.run_bind, run_sizeOf' hsz, Result.andThen_ok, Sem.run_pure, h3]
      · intro i r hi
        cases i with
        | zero => simp [placeS, hsz] at hi; simp [hi]
        | succ i =>
          have : placeS P fl i = some r := by simpa [placeS] using hi
          simpa using h4 i r this
  obtain ⟨pl, h1, h2⟩ := main fl hs
  refine ⟨pl.toArray, ?_, fun i r h => by simpa using h2 i r h⟩
  rw [Array.mapM_eq_mapM_toList]
  simp only [Sem.run_map, h1, Result.andThen_ok]
theorem buildD_ok {s : TypeId} {ps : List (Nat × Value)} {ps' : Array (Nat × Value)} (hp : PRels ι ps ps'.toList) {v : Value} (h : buildD P s ps = some v) :
    ∃ v', (Instr.build s ps').run P w = .ok v' w ∧ VRel ι v v' := by
  unfold buildD at h
  split at h <;> try (simp at h; done)
  rename_i z hz
  split at h <;> try (simp at h; done)
  rename_i hcz
  have hzr := (constV_rel ι hcz).cells
  split at h <;> try (simp at h; done)
  · rename_i fields hu
    split at h <;> try (simp at h; done)
    rename_i hfs
    split at h <;> simp at h
    rename_i cs hcs
    subst h
    obtain ⟨r', hr', hrr⟩ := fillD_rel hp hzr hcs
    obtain ⟨places, h1, h2⟩ := placeS_run (P := P) (w := w) hfs
    have hf := fillD_run (place' := (places[·]?)) h2 ps'.toList z.cells r' hr'
    refine ⟨.agg r'.toArray, ?_, VRel.agg' hrr⟩
    simp only [Instr.build, Sem.run_bind, run_zero' hz, Result.andThen_ok, run_und hu, h1]
    rw [hf]
    rfl
  · rename_i len elem hu
    split at h <;> try (simp at h; done)
    rename_i sz hsz
    split at h <;> simp at h
    rename_i cs hcs
    subst h
    obtain ⟨r', hr', hrr⟩ := fillD_rel hp hzr hcs
    have hf := fillD_run (place' := fun i => some (i * sz, sz)) (fun i r h => h) ps'.toList z.cells r' hr'
    refine ⟨.agg r'.toArray, ?_, VRel.agg' hrr⟩
    simp only [Instr.build, Sem.run_bind, run_zero' hz, Result.andThen_ok, run_und hu, run_sizeOf' hsz]
    rw [hf]
    rfl
theorem repl_get (z : List Value) (hz : 0 < z.length) : ∀ (k i : Nat), i < k * z.length → (repl z k)[i]? = z[i % z.length]?
  | 0, i, h => by simp at h
  | k + 1, i, h => by
    simp only [repl]
    rw [List.getElem?_append]
    split
    · rename_i hlt; rw [Nat.mod_eq_of_lt hlt]
    · rename_i hge
      rw [repl_get z hz k (i - z.length) (by rw [Nat.add_mul] at h; omega)]
      congr 1
      exact (Nat.mod_eq_sub_mod (by omega)).symm
theorem repl_length (z : List Value) (k : Nat) : (repl z k).length = k * z.length := by
  induction k with
  | zero => simp [repl]
  | succ k ih => simp [repl, ih, Nat.add_mul, Nat.add_comm]
theorem zeros_eq (z : Array Value) (k : Nat) : ((Array.range (k * z.size)).map (fun i => z[i % z.size]!)).toList = repl z.toList k := by
  apply List.ext_getElem?
  intro i
  by_cases hi : i < k * z.size
  · have hz : 0 < z.size := by
      rcases Nat.eq_zero_or_pos z.size with h | h
      · rw [h] at hi; simp at hi
      · exact h
    rw [repl_get z.toList (by simpa using hz) k i (by simpa using hi)]
    have hm : i % z.size < z.size := Nat.mod_lt _ hz
    simp [hi, hm]
  · rw [List.getElem?_eq_none (by simp; omega), List.getElem?_eq_none (by rw [repl_length]; simp; omega)]
theorem Rel.push (hr : Rel B0 G ι m w) (hn : ι m.size = none) {x : Blk} {o : Obj} {k : Nat}
    (hnew : BlkRel B0 (fun b => if b = m.size then some ⟨w.heap.size, 0, k⟩ else ι b) x ⟨w.heap.size, 0, k⟩ (w.alloc o)) :
    Rel B0 G (fun b => if b = m.size then some ⟨w.heap.size, 0, k⟩ else ι b) (m.push x) (w.alloc o) ∧
    Stp ι (fun b => if b = m.size then some ⟨w.heap.size, 0, k⟩ else ι b) m (m.push x) w (w.alloc o) := by
  have hle : ι.le (fun b => if b = m.size then some ⟨w.heap.size, 0, k⟩ else ι b) := by
    intro b L hb
    have : b ≠ m.size := by intro e; rw [e, hn] at hb; cases hb
    simp [this, hb]
  have hold : ∀ B, B < w.heap.size → (w.alloc o).heap[B]? = w.heap[B]? := fun B hB => by
    show (w.heap.push o)[B]? = _
    rw [Array.getElem?_push, if_neg (by omega)]
  refine ⟨⟨fun b L hb hL => ?_, fun b₁ b₂ L₁ L₂ h1 h2 h3 h4 l1 l2 g0 e => ?_, by simp; have := hr.floor; omega, fun g hg => ?_, fun b hb => ?_⟩,
    ⟨hle, fun b hb => ?_, rfl, rfl, rfl, by simp, fun B hB _ => hold B hB, fun b L h1 h2 hL => ?_, by simp, fun b hb ho => ?_⟩⟩
  · rw [Mem.get_push]
    by_cases e : b = m.size
    · subst e; simp at hL; subst hL; simpa using hnew
    · simp only [e, if_false] at hL ⊢
      simp at hb
      exact (hr.blk b L (by omega) hL).monoL hle (fun hl => hold _ (hr.old b L hL hl))
  · simp at h1 h2
    by_cases e1 : b₁ = m.size
    · by_cases e2 : b₂ = m.size
      · omega
      · simp [e1] at h3; simp [e2] at h4; subst h3
        rw [Mem.get_push_ne _ e2] at l2
        have := hr.old _ _ h4 l2
        simp at e; omega
    · by_cases e2 : b₂ = m.size
      · simp [e1] at h3; simp [e2] at h4; subst h4
        rw [Mem.get_push_ne _ e1] at l1
        have := hr.old _ _ h3 l1
        simp at e; omega
      · simp [e1] at h3; simp [e2] at h4
        rw [Mem.get_push_ne _ e1] at l1
        rw [Mem.get_push_ne _ e2] at l2
        exact hr.inj b₁ b₂ L₁ L₂ (by omega) (by omega) h3 h4 l1 l2 g0 e
  · obtain ⟨L, h1, h2⟩ := hr.glob g hg
    exact ⟨L, hle _ _ h1, h2⟩
  · simp at hb; rw [Mem.get_push_ne _ (by omega)]; exact hr.top b (by omega)
  · have : b ≠ m.size := by simp at hb; omega
    simp [this]
  · simp at h2
    have : b = m.size := by omega
    simp [this] at hL; subst hL; exact .inl (Nat.le_refl _)
  · rw [Mem.get_push_ne _ (by omega)] at ho; exact ho
theorem optEv_rel (hr : Rel B0 G ι m w) (h : TRel ι n t a) {x : Option Operand} {v : Option Value} (hx : optEv G t x = some v) : ORel ι v (x.map a.eval) := by
  cases x with
  | none => simp [optEv] at hx; subst hx; trivial
  | some x =>
    simp only [optEv] at hx
    split at hx <;> simp at hx
    rename_i u hu
    subst hx
    exact ev_rel hr h hu
theorem evParts_rel (hr : Rel B0 G ι m w) (h : TRel ι n t a) : ∀ {l : List (Nat × Operand)} {vs : List (Nat × Value)}, evParts G t l = some vs → PRels ι vs (l.map fun x => (x.1, a.eval x.2))
  | [], vs, hx => by simp [evParts] at hx; subst hx; exact .nil
  | (i, x) :: l, vs, hx => by
    simp only [evParts] at hx
    split at hx <;> try (simp at hx; done)
    rename_i v hv
    split at hx <;> simp at hx
    rename_i us hus
    subst hx
    exact .cons (ev_rel hr h hv) (evParts_rel hr h hus)
theorem Made.rel {ι : Ren} {b k B : Nat} (h : ι b = some ⟨B, 0, k⟩) (q : Made) : VRel ι (q.val b) (q.val B) := by
  cases q with
  | ptr => have := VRel.ptr b 0 _ h; simpa [Made.val] using this
  | slc len cap => have := VRel.slc b 0 len cap _ h; simpa [Made.val] using this
  | mp => exact VRel.map b _ h
  | ext => have := VRel.ptr b 0 _ h; simpa [Made.val] using this
theorem cells_new {ι' : Ren} {e : TypeId} {c c' : List Value} (hc : VRels ι' c c') (hf : B0 ≤ w.heap.size) : BlkRel B0 ι' (.cells true c) ⟨w.heap.size, 0, c'.length⟩ (w.alloc (.cells c'.toArray e)) := by
  refine ⟨c'.toArray, e, (0, 0), ?_, by simp, by simp [hc.length], fun i v hv => ?_, fun _ => ⟨hf, fun o _ h => by simp at h⟩⟩
  · show (w.heap.push _)[w.heap.size]? = _
    simp
  · obtain ⟨y, hy, hr⟩ := hc.get hv
    exact ⟨y, by simpa using hy, hr⟩
theorem run_newRow (e : TypeId) (c : Array Value) : (newRow e c).run P w = .ok ⟨w.heap.size, 0, none⟩ (w.alloc (.cells c e)) := by
  simp [newRow]
theorem zerosD_run {e : TypeId} {k : Nat} {zs : List Value} (h : zerosD P e k = some zs) :
    ∃ z size, zeroOf P e = some z ∧ szOf P e = some size ∧ z.cells.size = size ∧ zs = repl z.cells.toList k ∧ constV z = true := by
  unfold zerosD at h
  split at h <;> try (simp at h; done)
  rename_i z size hz hs
  split at h <;> simp at h
  rename_i hc
  exact ⟨z, size, hz, hs, by simpa using hc.2, h.symm, hc.1⟩
theorem repl_const {z : List Value} (h : ∀ x ∈ z, VRel ι x x) (k : Nat) : VRels ι (repl z k) (repl z k) := by
  refine LRel.refl _ ?_
  induction k with
  | zero => intro x hx; simp [repl] at hx
  | succ k ih => intro x hx; simp [repl] at hx; rcases hx with hx | hx; exact h x hx; exact ih x hx
theorem const_cells {z : Value} (h : constV z = true) : ∀ x ∈ z.cells.toList, VRel ι x x := by
  intro x hx
  have := (constV_rel ι h).cells
  obtain ⟨i, hi⟩ := List.getElem?_of_mem hx
  obtain ⟨y, hy, hr⟩ := this.get hi
  rw [hi] at hy
  cases hy
  exact hr
theorem allocD_run (hr : Rel B0 G ι m w) (ht : TRel ι n t a) {o : Oper} {x : Blk} {q : Made} (h : allocD P G t o.op = some (x, q)) :
    ∃ ob k, (execOp a.eval o).run P w = .ok (.value (q.val w.heap.size)) (w.alloc ob) ∧ ∀ ι' : Ren, ι.le ι' → BlkRel B0 ι' x ⟨w.heap.size, 0, k⟩ (w.alloc ob) := by
  have fin : ∀ (c c' : List Value) (e : TypeId) (q : Made), VRels ι c c' → (execOp a.eval o).run P w = .ok (.value (q.val w.heap.size)) (w.alloc (.cells c'.toArray e)) →
      ∃ ob k, (execOp a.eval o).run P w = .ok (.value (q.val w.heap.size)) (w.alloc ob) ∧ ∀ ι' : Ren, ι.le ι' → BlkRel B0 ι' (.cells true c) ⟨w.heap.size, 0, k⟩ (w.alloc ob) :=
    fun c c' e q hc hrun => ⟨_, c'.length, hrun, fun ι' hle => cells_new (VRels.mono hle hc) hr.floor⟩
  have finm : (execOp a.eval o).run P w = .ok (.value (Made.val w.heap.size .mp)) (w.alloc (.map #[] 0)) →
      ∃ ob k, (execOp a.eval o).run P w = .ok (.value (Made.val w.heap.size .mp)) (w.alloc ob) ∧ ∀ ι' : Ren, ι.le ι' → BlkRel B0 ι' (.map true [] 0) ⟨w.heap.size, 0, k⟩ (w.alloc ob) :=
    fun hrun => ⟨_, 0, hrun, fun ι' hle => ⟨#[], by show (w.heap.push _)[w.heap.size]? = _; simp, .nil, fun _ => hr.floor⟩⟩
  cases ho : o.op <;> rw [ho] at h <;> simp only [allocD] at h <;> try (simp at h; done)
  case alloc e =>
    split at h <;> try (simp at h; done)
    rename_i z hz
    split at h <;> simp at h
    rename_i hcz
    obtain ⟨rfl, rfl⟩ := h
    refine fin _ _ e .ptr (constV_rel ι hcz).cells ?_
    simp [execOp, ho, Instr.alloc, run_zero' hz, newVar, run_newRow, Made.val]
  case box e x =>
    split at h <;> simp at h
    rename_i v hv
    obtain ⟨rfl, rfl⟩ := h
    refine fin _ _ e .ptr (ev_rel hr ht hv).cells ?_
    simp [execOp, ho, Instr.box, newVar, run_newRow, Made.val]
  case buildSlice ty len parts =>
    split at h <;> try (simp at h; done)
    rename_i e hu
    split at h <;> try (simp at h; done)
    rename_i size hs
    split at h <;> try (simp at h; done)
    rename_i hle'
    split at h <;> try (simp at h; done)
    rename_i zs ps hzs hps
    split at h <;> simp at h
    rename_i cs hcs
    obtain ⟨rfl, rfl⟩ := h
    obtain ⟨z, sz, hz, hs', hsz, rfl, hcz⟩ := zerosD_run hzs
    rw [hs] at hs'; cases hs'
    have hprel := evParts_rel hr ht hps
    obtain ⟨r', hr', hrr⟩ := fillD_rel hprel (repl_const (const_cells (ι := ι) hcz) len) hcs
    refine fin _ r' e (.slc len len) hrr ?_
    have hz0 : ((Array.range (len * size)).map (fun i => z.cells[i % z.cells.size]!)).toList = repl z.cells.toList len := by rw [← hsz]; exact zeros_eq z.cells len
    have hz1 : ∀ zz : Array Value, (len * size = 0 → zz = #[]) → (len * size ≠ 0 → zz = z.cells) → ((Array.range (len * size)).map (fun i => zz[i % zz.size]!)) = (repl z.cells.toList len).toArray := by
      intro zz g1 g2
      apply Array.ext'
      by_cases h0 : len * size = 0
      · rw [← hz0, h0]; simp
      · rw [g2 h0, hz0]
    have hf := fillD_run (place' := fun i => some (i * size, size)) (fun i r h => h) (parts.map fun x => (x.1, a.eval x.2)).toList (repl z.cells.toList len).toArray r' (by simpa using hr')
    simp only [execOp, ho, Instr.buildSlice, Sem.run_bind, run_und hu, Result.andThen_ok, run_sizeOf' hs]
    rw [if_neg (by simp; omega)]
    by_cases h0 : len * size = 0
    · have hq := hz1 #[] (fun _ => rfl) (fun h => absurd h0 h)
      simp only [h0, if_true, Sem.run_bind, Sem.run_pure, Result.andThen_ok]
      rw [h0] at hq
      rw [hq]
      simp only [hf]
      simp [run_newRow, Made.val]
    · have hq := hz1 z.cells (fun h => absurd h h0) (fun _ => rfl)
      simp only [h0, if_false, Sem.run_bind, Sem.run_pure, run_zero' hz, Result.andThen_ok]
      rw [hq]
      simp only [hf]
      simp [run_newRow, Made.val]
  case makeSlice ty l c =>
    split at h <;> try (simp at h; done)
    rename_i e hu
    split at h <;> try (simp at h; done)
    rename_i l c bytes hl hc hby
    split at h <;> try (simp at h; done)
    rename_i hcond
    split at h <;> simp at h
    rename_i zs hzs
    obtain ⟨rfl, rfl⟩ := h
    obtain ⟨z, sz, hz, hs', hsz, rfl, hcz⟩ := zerosD_run hzs
    obtain ⟨i, hi, hib⟩ := run_typeInfo_bytes (w := w) hby
    have el := (ev_rel hr ht hl).inv_int
    have ec := (ev_rel hr ht hc).inv_int
    obtain ⟨g1, g2, g3, g4⟩ := hcond
    refine fin _ _ e (.slc l.toNat c.toNat) (repl_const (const_cells (ι := ι) hcz) c.toNat) ?_
    have wl : IntKind.i64.wrap l = l := by simp [IntKind.wrap, IntKind.signed, IntKind.bits]; omega
    have wc : IntKind.i64.wrap c = c := by simp [IntKind.wrap, IntKind.signed, IntKind.bits]; omega
    have hz0 : ((Array.range (c.toNat * sz)).map (fun i => z.cells[i % z.cells.size]!)).toList = repl z.cells.toList c.toNat := by rw [← hsz]; exact zeros_eq z.cells c.toNat
    simp only [execOp, ho, Instr.makeSlice, Sem.run_bind, run_und hu, Result.andThen_ok, el, ec, asInt, asIntOf, Sem.run_pure, hi, hib, wl, wc]
    have t1 : (decide (c < 0) || decide ((bytes : Int) * c > 2 ^ 48)) = false := by simp; omega
    rw [if_neg (by simp [t1]; omega)]
    simp only [run_askRoom, Sem.run_bind, Result.andThen_ok, run_sizeOf' hs']
    by_cases h0 : c.toNat * sz = 0
    · simp only [h0, if_true, Sem.run_pure, Result.andThen_ok]
      have : repl z.cells.toList c.toNat = [] := by rw [← hz0, h0]; simp
      rw [this]
      have hz2 : Array.map (fun _ : Nat => (default : Value)) (Array.range 0) = #[] := Array.ext' (by simp)
      simp [run_newRow, Made.val, hz2]
    · simp only [h0, if_false, Sem.run_bind, run_zero' hz, Result.andThen_ok, Sem.run_pure]
      have : ((Array.range (c.toNat * sz)).map (fun i => z.cells[i % z.cells.size]!)) = (repl z.cells.toList c.toNat).toArray := Array.ext' (by rw [hz0])
      rw [this]
      simp [run_newRow, Made.val]
  case makeMap ty r =>
    split at h
    · simp at h
      obtain ⟨rfl, rfl⟩ := h
      exact finm (by simp [execOp, ho, Instr.makeMap, Made.val])
    · rename_i x
      split at h <;> simp at h
      rename_i kt et k q hu hq
      obtain ⟨rfl, rfl⟩ := h
      have eq := (ev_rel hr ht hq).inv_int
      exact finm (by simp [execOp, ho, Instr.makeMap, Made.val, run_und hu, eq, asInt, asIntOf])
theorem allocD_ok (hr : Rel B0 G ι m w) (ht : TRel ι n t a) (hn : ι m.size = none) {o : Oper} {x : Blk} {q : Made} (h : allocD P G t o.op = some (x, q)) :
    ∃ ι' v' w', (execOp a.eval o).run P w = .ok (.value v') w' ∧ VRel ι' (q.val m.size) v' ∧ Rel B0 G ι' (m.push x) w' ∧ Stp ι ι' m (m.push x) w w' := by
  obtain ⟨ob, k, hrun, hb⟩ := allocD_run hr ht h
  have hle : ι.le (fun b => if b = m.size then some ⟨w.heap.size, 0, k⟩ else ι b) := by
    intro b L hb
    have : b ≠ m.size := by intro e; rw [e, hn] at hb; cases hb
    simp [this, hb]
  have hp := Rel.push (k := k) (x := x) (o := ob) hr hn (hb _ hle)
  exact ⟨_, _, _, hrun, Made.rel (B := w.heap.size) (k := k) (by simp) q, hp.1, hp.2⟩
end
end Go.DI
