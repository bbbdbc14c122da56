/- The law FlowKnown, a closed one: the interpreter, shape.Check's contracts, the run. -/
import Derived.Test.YtipdeijgaabobaaGreatDoorK01
import Derived.LoopN
import Derived.Scope
import Derived.Test.YtipdeijgaabobaaGreatDoorK00
set_option linter.all false
set_option linter.unusedVariables false
set_option linter.unusedSimpArgs false
/-
  DiApp: append, copy, and what turns strings into bytes and back.
-/
namespace Go.DI
section
variable {P : Program} {K : TypeId → Bool} {G B0 n : Nat} {ι : Ren} {m : Mem} {w : World} {t : Tmps} {a : Act}

theorem blk_new {ι' : Ren} {e : TypeId} {c c' rest : List Value} {T : Nat} (hc : VRels ι' c c') (hT : (c' ++ rest).length = T) (hf : B0 ≤ w.heap.size) :
    BlkRel B0 ι' (.cells true c) ⟨w.heap.size, 0, T⟩ (w.alloc (.cells (c' ++ rest).toArray e)) := by
  refine ⟨(c' ++ rest).toArray, e, (0, 0), ?_, by simpa using hT, ?_, fun i v hv => ?_, fun _ => ⟨hf, fun o _ h => by simp at h⟩⟩
  · show (w.heap.push _)[w.heap.size]? = _
    simp
  · have := hc.length
    simp only [List.length_append] at hT
    simp only
    omega
  · obtain ⟨y, hy, hr⟩ := hc.get hv
    refine ⟨y, ?_, hr⟩
    simp only [List.getElem?_toArray, Nat.zero_add]
    rw [List.getElem?_append_left]
    · exact hy
    · rcases Nat.lt_or_ge i c'.length with h1 | h1
      · exact h1
      · rw [List.getElem?_eq_none h1] at hy; cases hy

/-- In place: the new cells behind the old ones. -/
theorem inplace_ok (hr : Rel B0 G ι m w) (hn : ι m.size = none) {b : Nat} {L : Loc} (hL : ι b = some L) {cb : List Value} (hg : m.get b = .cells true cb) {o' k : Nat} {old new new' : List Value} (hnr : VRels ι new new')
    (hone : new.all one = true) (hol : old.length = k) (hfit : o' + k + new.length ≤ L.total)
    (hold : ∀ rc e fr, w.heap[L.block]? = some (.cells rc e fr) → ∀ (i : Nat) (v : Value), old[i]? = some v → ∃ v', rc[o' + i]? = some v' ∧ VRel ι v v') :
    ∃ w', (storeCells ⟨L.block, o' + k, none⟩ new').run P w = .ok () w' ∧ Rel B0 G (fun q => if q = m.size then some ⟨L.block, o', L.total⟩ else ι q) ((m.push (.cells true (old ++ new))).set b .none) w' ∧
      Stp ι (fun q => if q = m.size then some ⟨L.block, o', L.total⟩ else ι q) m ((m.push (.cells true (old ++ new))).set b .none) w w' := by
  have hlt := hr.get_lt (b := b) (by rw [hg]; simp)
  have hb := hr.blk b L hlt hL
  rw [hg] at hb
  obtain ⟨rc, e, fr, h1, h2, h3, h4, h5⟩ := hb
  have hlen := hnr.length
  have hone' : new'.all one = true := by rw [← hnr.all fun _ _ h => h.one]; exact hone
  have hrun := run_storeCells' (P := P) L.block e fr new' (o' + k) 0 rc w h1 (by omega) (fun j g1 g2 => (h5 rfl).2 j (by omega)) hone'
  have hle : ι.le (fun q => if q = m.size then some ⟨L.block, o', L.total⟩ else ι q) := by
    intro q L' hq
    have : q ≠ m.size := by intro e; rw [e, hn] at hq; cases hq
    simp [this, hq]
  refine ⟨_, hrun, Rel.inplace hr hn hL hlt (by rw [hg]; rfl) ?_⟩
  refine ⟨_, e, fr, by rw [setBlk_get _ _ _ _ (lt_of_get h1)]; simp; rfl, ?_, ?_, fun i v hv => ?_, fun _ => h5 rfl⟩
  · rw [List.size_toArray, splice_length _ _ _ (by simp; omega)]; simpa using h2
  · simp only [List.length_append]; omega
  · simp only [List.getElem?_toArray, Nat.add_zero]
    rw [splice_get _ _ _ _ (by simp; omega)]
    rw [List.getElem?_append] at hv
    split at hv
    · rename_i hi
      obtain ⟨v', hv', hrv⟩ := hold rc e fr h1 i v hv
      refine ⟨v', ?_, hrv.mono hle⟩
      rw [if_neg (by omega)]
      simpa using hv'
    · rename_i hi
      obtain ⟨v', hv', hrv⟩ := hnr.get hv
      refine ⟨v', ?_, hrv.mono hle⟩
      have hi' : i - old.length < new'.length := by
        rcases Nat.lt_or_ge (i - old.length) new'.length with h6 | h6
        · exact h6
        · rw [List.getElem?_eq_none h6] at hv'; cases hv'
      rw [if_pos (by omega), ← hv']
      congr 1; omega

set_option maxHeartbeats 1000000 in
theorem appendD_ok (hr : Rel B0 G ι m w) {tS tX ty : TypeId} {s s' x x' v : Value} (hs : VRel ι s s') (hx : VRel ι x x') {m' : Mem} (hn : m.size < m'.size → ι m.size = none) (h : appendD P m tS tX s x = some (v, m')) :
    ∃ ι' v' w', (Builtin.append_ #[tS, tX] ty #[s', x']).run P w = .ok v' w' ∧ VRel ι' v v' ∧ Rel B0 G ι' m' w' ∧ Stp ι ι' m m' w w' := by
  unfold appendD at h
  split at h <;> try (simp at h; done)
  rename_i e dX hX0 hu huX
  have hX : ∀ (k : IntKind), dX ≠ .int k := fun k e1 => hX0 k e1
  split at h <;> try (simp at h; done)
  rename_i base sLen sCap size bytes k hsz hby hlen
  split at h <;> try (simp at h; done)
  rename_i hsz0
  split at h <;> try (simp at h; done)
  rename_i new hnew
  obtain ⟨new', hf, hnr⟩ := firstC_ok (P := P) hr hx hnew hlen (Nat.le_refl _)
  have hlen' := lenOf_ok (P := P) (w := w) hx hlen
  split at h
  · rename_i hroom
    split at h
    · split at h <;> simp at h
      rename_i hk0
      obtain ⟨rfl, rfl⟩ := h
      cases hs
      refine ⟨ι, _, w, ?_, .slc0 _ _, hr, Stp.refl _ _ _⟩
      rw [run_append_room hu huX hX hsz hlen' hroom hf]
    · rename_i b off sp
      split at h
      · rename_i hk0
        subst hk0
        simp at h
        obtain ⟨rfl, rfl⟩ := h
        have hnil : new' = [] := by
          have h0 := hnr.length
          have : new = [] := by
            unfold firstC at hnew
            split at hnew <;> try (simp at hnew; done)
            · unfold loadC at hnew
              split at hnew <;> try (simp at hnew; done)
              split at hnew <;> simp at hnew
              exact hnew
            · simpa using hnew
            · split at hnew <;> simp at hnew
              exact hnew
          rw [this] at h0
          exact List.eq_nil_of_length_eq_zero (by simpa using h0.symm)
        subst hnil
        obtain ⟨base', sCap', rfl, hcap⟩ := hs.len0
        refine ⟨ι, .slice base' (sLen + 0) sCap', w, ?_, by simpa using hs, hr, Stp.refl _ _ _⟩
        rw [run_append_room hu huX hX hsz hlen' (Nat.le_trans hroom hcap) hf]
        cases base' <;> simp [storeCells]
      · rename_i hk0
        split at h <;> simp at h
        rename_i m₁ hstR
        obtain ⟨rfl, rfl⟩ := h
        cases hs with
        | slc _ _ _ _ L hL =>
          obtain ⟨w', h1, h2, h3⟩ := storeC_ok (P := P) hr hL hnr (storeR_some hstR)
          refine ⟨ι, _, w', ?_, .slc _ _ _ _ _ hL, h2, h3⟩
          rw [run_append_room hu huX hX hsz hlen' hroom hf]
          simp only [Addr.add_none, Nat.add_assoc]
          rw [h1]; rfl
        | loose _ _ _ _ _ c' L hL hc htot =>
          simp [storeR] at hstR
        | loose0 => omega
        | empty => omega
  · rename_i hroom
    split at h <;> try (simp at h; done)
    rename_i hcond
    obtain ⟨hb1, hb2, hb3, hz1⟩ := hcond
    rw [Option.isSome_iff_exists] at hz1
    obtain ⟨zs, hzs⟩ := hz1
    obtain ⟨z, sz, hz, hs'', hzsz, _, _⟩ := zerosD_run hzs
    rw [hsz] at hs''; cases hs''
    split at h <;> try (simp at h; done)
    rename_i old hold
    split at h <;> try (simp at h; done)
    rename_i hall
    obtain ⟨hall, hol, hnl⟩ := hall
    simp only [Bool.and_eq_true] at hall
    obtain ⟨base', sCap', rfl, hcap⟩ := hs.len0
    replace hn := hn (by
      split at h
      · split at h <;> try (simp at h; done)
        split at h <;> simp at h
        rw [← h.2]; simp
      · simp at h; rw [← h.2]; simp)
    have hrd := hr.drew
    obtain ⟨old', hfo, hor⟩ := firstC_ok (P := P) hrd.1 hs hold (ln := sLen) rfl (Nat.le_refl _)
    obtain ⟨new'', hfd, hndr⟩ := firstC_ok (P := P) hrd.1 hx hnew hlen (Nat.le_refl _)
    have hol' := hor.length
    have hnl' := hndr.length
    have realloc : ¬ sLen + k ≤ sCap' → ∃ ι' v' w', (Builtin.append_ #[tS, tX] ty #[.slice base' sLen sCap', x']).run P w = .ok v' w' ∧ VRel ι' (.slice (some ⟨m.size, 0, some size⟩) (sLen + k) (sLen + k)) v' ∧
        Rel B0 G ι' (m.push (.cells true (old ++ new))) w' ∧ Stp ι ι' m (m.push (.cells true (old ++ new))) w w' := by
      intro hneed
      obtain ⟨cap', hcap', hrun⟩ := run_append_new (ty := ty) hu huX hX hsz hby hz hzsz hlen' hneed hb1 hb2 hb3 hfo hfd
      have hle : ι.le (fun q => if q = m.size then some ⟨w.heap.size, 0, cap' * size⟩ else ι q) := by
        intro q L' hq
        have : q ≠ m.size := by intro e; rw [e, hn] at hq; cases hq
        simp [this, hq]
      have htot : ((old' ++ new'') ++ (Builtin.zeroCells z.cells (cap' - (sLen + k))).toList).length = cap' * size := by
        simp only [List.length_append, Array.length_toList, size_zeroCells, hzsz, ← hol', ← hnl', hol, hnl, ← Nat.add_mul]
        congr 1
        omega
      have hp := Rel.push (k := cap' * size) (x := .cells true (old ++ new)) (o := .cells ((old' ++ new'') ++ (Builtin.zeroCells z.cells (cap' - (sLen + k))).toList).toArray e) hrd.1 hn
        (blk_new (VRels.mono hle (hor.append hndr)) htot hr.floor)
      refine ⟨_, _, _, hrun, ?_, hp.1, hrd.2.trans hp.2⟩
      have := VRel.loose (ι := fun q => if q = m.size then some ⟨w.heap.size, 0, cap' * size⟩ else ι q) m.size 0 size (sLen + k) (sLen + k) cap' ⟨w.heap.size, 0, cap' * size⟩ (by simp) hcap' (by simp)
      simpa using this
    cases hs with
    | slc0 =>
      simp at h
      obtain ⟨rfl, rfl⟩ := h
      exact realloc hroom
    | slc b off _ _ L hL =>
      simp at h
      obtain ⟨rfl, rfl⟩ := h
      exact realloc hroom
    | loose b off e' _ _ _ L hL hc htot =>
      simp only at h
      split at h <;> try (simp at h; done)
      rename_i he
      subst he
      split at h <;> simp at h
      rename_i cb hg
      obtain ⟨rfl, rfl⟩ := h
      have hlt := hr.get_lt (b := b) (by rw [hg]; simp)
      by_cases hneed : sLen + k ≤ sCap'
      · have hnb : (sLen + k) * e' ≤ sCap' * e' := Nat.mul_le_mul_right _ hneed
        rw [Nat.add_mul] at hnb
        obtain ⟨w', h1, h2, h3⟩ := inplace_ok (P := P) (o' := L.base + off) (k := sLen * e') hr hn hL hg hnr hall.1 hol (by rw [hnl]; omega) (fun rc e₁ fr hrc i v hv => by
          have hb := hr.blk b L hlt hL
          rw [hg] at hb
          obtain ⟨rc', e₂, fr', g1, g2, g3, g4, g5⟩ := hb
          rw [hrc] at g1
          cases g1
          simp only [firstC, loadC, hg] at hold
          split at hold <;> simp at hold
          rw [← hold, List.getElem?_take] at hv
          split at hv
          · rw [List.getElem?_drop] at hv
            obtain ⟨v', hv', hrv⟩ := g4 _ _ hv
            exact ⟨v', by rw [← hv']; congr 1; omega, hrv⟩
          · simp at hv)
        refine ⟨_, .slice (some ⟨L.block, L.base + off, none⟩) (sLen + k) sCap', w', ?_, ?_, h2, h3⟩
        · rw [run_append_room hu huX hX hsz hlen' hneed hf]
          simp only [Addr.add_none]
          rw [h1]; rfl
        · have := VRel.loose (ι := fun q => if q = m.size then some ⟨L.block, L.base + off, L.total⟩ else ι q) m.size 0 e' (sLen + k) (sLen + k) sCap' ⟨L.block, L.base + off, L.total⟩ (by simp) hneed (by simpa using htot)
          simpa using this
      · obtain ⟨ι', v', w', h1, h2, h3, h4⟩ := realloc hneed
        have hk := Rel.kill h3 (b := b) (by simp; omega)
        exact ⟨ι', v', w', h1, h2, hk.1, h4.trans hk.2⟩
    | loose0 b off e' o' _ L hL htot =>
      simp only at h
      split at h <;> try (simp at h; done)
      rename_i he
      subst he
      split at h <;> simp at h
      rename_i cb hg
      obtain ⟨rfl, rfl⟩ := h
      have hlt := hr.get_lt (b := b) (by rw [hg]; simp)
      by_cases hneed : 0 + k ≤ sCap'
      · have hnb : (0 + k) * e' ≤ sCap' * e' := Nat.mul_le_mul_right _ hneed
        rw [Nat.zero_add] at hnb
        have hold0 : old = [] := List.eq_nil_of_length_eq_zero (by simpa using hol)
        subst hold0
        obtain ⟨w', h1, h2, h3⟩ := inplace_ok (P := P) (o' := o') (k := 0) (old := []) hr hn hL hg hnr hall.1 rfl (by rw [hnl]; omega) (fun rc e₁ fr hrc i v hv => by simp at hv)
        refine ⟨_, .slice (some ⟨L.block, o', none⟩) (0 + k) sCap', w', ?_, ?_, h2, h3⟩
        · rw [run_append_room hu huX hX hsz hlen' hneed hf]
          simp only [Addr.add_none, Nat.zero_mul]
          rw [h1]; rfl
        · have := VRel.loose (ι := fun q => if q = m.size then some ⟨L.block, o', L.total⟩ else ι q) m.size 0 e' (0 + k) (0 + k) sCap' ⟨L.block, o', L.total⟩ (by simp) hneed (by simpa using htot)
          simpa using this
      · obtain ⟨ι', v', w', h1, h2, h3, h4⟩ := realloc hneed
        have hk := Rel.kill h3 (b := b) (by simp; omega)
        exact ⟨ι', v', w', h1, by simpa using h2, hk.1, h4.trans hk.2⟩
    | empty b off e' a =>
      simp only at h
      split at h <;> try (simp at h; done)
      split at h <;> simp at h
      rename_i cb hg
      obtain ⟨rfl, rfl⟩ := h
      have hlt := hr.get_lt (b := b) (by rw [hg]; simp)
      obtain ⟨ι', v', w', h1, h2, h3, h4⟩ := realloc hroom
      have hk := Rel.kill h3 (b := b) (by simp; omega)
      exact ⟨ι', v', w', h1, by simpa using h2, hk.1, h4.trans hk.2⟩

theorem copyD_ok (hr : Rel B0 G ι m w) {tD tX ty : TypeId} {s s' x x' v : Value} (hs : VRel ι s s') (hx : VRel ι x x') {m' : Mem} (h : copyD P m tD s x = some (v, m')) :
    ∃ v' w', (Builtin.copy_ #[tD, tX] ty #[s', x']).run P w = .ok v' w' ∧ VRel ι v v' ∧ Rel B0 G ι m' w' ∧ Stp ι ι m m' w w' := by
  unfold copyD at h
  split at h <;> try (simp at h; done)
  rename_i e hu
  split at h <;> try (simp at h; done)
  rename_i base dLen cp size sl hsz hlen
  split at h <;> try (simp at h; done)
  rename_i hsz0
  split at h <;> try (simp at h; done)
  rename_i new hnew
  obtain ⟨new', hf, hnr⟩ := firstC_ok (P := P) hr hx hnew hlen (Nat.min_le_left _ _)
  have hlen' := lenOf_ok (P := P) (w := w) hx hlen
  obtain ⟨base', sCap', rfl, hcap⟩ := hs.len0
  have hrun : (Builtin.copy_ #[tD, tX] ty #[.slice base' dLen sCap', x']).run P w = match base' with
      | some a => ((storeCells a new').run P w).andThen fun _ w' => .ok (.int .i64 (Nat.min sl dLen : Nat)) w'
      | none => .ok (.int .i64 (Nat.min sl dLen : Nat)) w := by
    cases base' <;> simp [Builtin.copy_, run_und hu, hlen', run_sizeOf' hsz, hf, goInt]
  split at h
  · simp at h
    obtain ⟨rfl, rfl⟩ := h
    cases hs
    exact ⟨_, w, hrun, .int _ _, hr, Stp.refl _ _ _⟩
  · rename_i b off sp
    split at h
    · rename_i h0
      simp at h
      obtain ⟨rfl, rfl⟩ := h
      have hnil : new' = [] := by
        have hl0 := hnr.length
        have : new = [] := by
          rw [h0] at hnew
          unfold firstC at hnew
          split at hnew <;> try (simp at hnew; done)
          · unfold loadC at hnew
            split at hnew <;> try (simp at hnew; done)
            split at hnew <;> simp at hnew
            exact hnew
          · simpa using hnew
          · split at hnew <;> simp at hnew
            exact hnew
        rw [this] at hl0
        exact List.eq_nil_of_length_eq_zero (by simpa using hl0.symm)
      subst hnil
      refine ⟨_, w, ?_, .int _ _, hr, Stp.refl _ _ _⟩
      rw [hrun]
      cases base' <;> simp [storeCells]
    · rename_i h0
      split at h <;> simp at h
      rename_i m₁ hst
      obtain ⟨rfl, rfl⟩ := h
      cases hs with
      | slc _ _ _ _ L hL =>
        obtain ⟨w', h1, h2, h3⟩ := storeC_ok (P := P) hr hL hnr hst
        exact ⟨_, w', by rw [hrun]; simp only [h1]; rfl, .int _ _, h2, h3⟩
      | loose _ _ _ _ _ c' L hL hc htot =>
        obtain ⟨w', h1, h2, h3⟩ := storeC_ok (P := P) hr hL hnr hst
        exact ⟨_, w', by rw [hrun]; simp only [h1]; rfl, .int _ _, h2, h3⟩
      | loose0 => exact absurd (Nat.min_zero _) h0
      | empty => exact absurd (Nat.min_zero _) h0

theorem byteOf_inv {v : Value} {b : UInt8} (h : byteOf v = some b) : ∃ n : Int, v = .int .u8 n ∧ b = UInt8.ofNat n.toNat := by
  unfold byteOf at h
  split at h <;> simp at h
  exact ⟨_, rfl, h.symm⟩

theorem bytesIn_run : ∀ (c : List Value) (l : List UInt8), bytesIn c = some l → ∀ (s : ByteArray), (forIn c s fun (c : Value) (r : ByteArray) => (match c with
      | .int .u8 n => (pure (ForInStep.yield (r.push (UInt8.ofNat n.toNat))) : Sem (ForInStep ByteArray))
      | _ => do
        stuck (α := PUnit) "bytesToString: byte expected"
        pure (ForInStep.yield r))).run P w = .ok ⟨(s.data.toList ++ l).toArray⟩ w
  | [], l, h, s => by simp [bytesIn] at h; subst h; simp
  | v :: c, l, h, s => by
    simp only [bytesIn] at h
    split at h <;> try (simp at h; done)
    rename_i b hb
    split at h <;> simp at h
    rename_i r hr
    subst h
    obtain ⟨n, rfl, rfl⟩ := byteOf_inv hb
    rw [List.forIn_cons]
    simp only [Sem.run_bind, Sem.run_pure, Result.andThen_ok]
    rw [bytesIn_run c r hr]
    congr 2
    simp [ByteArray.push]

theorem bytesIn_rel {c c' : List Value} (h : VRels ι c c') : ∀ {l : List UInt8}, bytesIn c = some l → bytesIn c' = some l := by
  induction h with
  | nil => intro l h; exact h
  | cons h0 t ih =>
    intro l h
    simp only [bytesIn] at h ⊢
    split at h <;> try (simp at h; done)
    rename_i b hb
    split at h <;> simp at h
    rename_i r hr
    obtain ⟨n, rfl, rfl⟩ := byteOf_inv hb
    cases h0
    simp only [byteOf, ih hr, h]

theorem heap_new (W : World) (o : Obj) : (W.alloc o).heap[W.heap.size]? = some o := by
  show (W.heap.push o)[W.heap.size]? = _
  simp

theorem shape_new (W : World) (C : Array Value) (e : TypeId) : (W.alloc (.cells C e)).shape? W.heap.size = some (e, C.size) := by
  simp only [World.shape?, heap_new]

theorem freeze_new (W : World) (C : Array Value) (e : TypeId) : (W.alloc (.cells C e)).freeze ⟨W.heap.size, C.size, none⟩ 1 = W.alloc (.cells C e (C.size, C.size + 1)) := by
  simp only [World.freeze, World.alloc]
  rw [if_neg (by decide)]
  congr 1
  apply Array.ext_getElem?
  intro j
  rw [Array.getElem?_modify]
  simp only [Array.getElem?_push]
  by_cases hj : W.heap.size = j
  · subst hj; simp
  · have : ¬ j = W.heap.size := fun h => hj h.symm
    simp [hj, this]

theorem convD_ok (hr : Rel B0 G ι m w) {src dst : TypeId} {x x' v : Value} (hx : VRel ι x x') {m' : Mem} (hn : m.size < m'.size → ι m.size = none) (h : convD P m src dst x = some (v, m')) :
    ∃ ι' v' w', (convert src dst x').run P w = .ok v' w' ∧ VRel ι' v v' ∧ Rel B0 G ι' m' w' ∧ Stp ι ι' m m' w w' := by
  unfold convD at h
  split at h <;> try (simp at h; done)
  · rename_i d k hs hd
    split at h <;> simp at h
    obtain ⟨rfl, rfl⟩ := h
    cases hx
    exact ⟨ι, _, w, by simp [convert, run_und hs, run_und hd, Conv.intToInt], .int _ _, hr, Stp.refl _ _ _⟩
  · rename_i hs hd
    split at h <;> simp at h
    obtain ⟨rfl, rfl⟩ := h
    cases hx
    exact ⟨ι, _, w, by simp [convert, run_und hs, run_und hd], .string _, hr, Stp.refl _ _ _⟩
  · rename_i e hs hd
    split at h <;> simp at h
    rename_i q hq
    obtain ⟨rfl, rfl⟩ := h
    cases hx
    replace hn := hn (by simp)
    have hrd := hr.drew
    have hcap : q.size ≤ (Question.appendCap q.size 0 e).cut (w.tape w.drawn (.appendCap q.size 0 e)) := by simp [Question.cut]
    generalize hcp : (Question.appendCap q.size 0 e).cut (w.tape w.drawn (.appendCap q.size 0 e)) = cp at hcap
    have hC : (q.data.map (fun (b : UInt8) => Value.int .u8 (b.toNat : Int)) ++ Array.replicate (cp - q.size) (Value.int .u8 0)).size = cp := by
      simp only [Array.size_append, Array.size_map, Array.size_replicate]
      have : q.data.size = q.size := rfl
      omega
    have hlc : (q.data.toList.map fun (b : UInt8) => Value.int .u8 (b.toNat : Int)).length = q.size := by simp
    generalize hCC : (q.data.map (fun (b : UInt8) => Value.int .u8 (b.toNat : Int)) ++ Array.replicate (cp - q.size) (Value.int .u8 0)) = C at hC
    have hCl : C.toList = (q.data.toList.map fun (b : UInt8) => Value.int .u8 (b.toNat : Int)) ++ List.replicate (cp - q.size) (Value.int .u8 0) := by rw [← hCC]; simp
    have hfz := freeze_new w.drew C e
    have hp := Rel.push (k := cp) (x := .cells true (q.data.toList.map fun (b : UInt8) => Value.int .u8 (b.toNat : Int))) (o := .cells C e (C.size, C.size + 1)) hrd.1 hn
      ⟨C, e, (C.size, C.size + 1), heap_new w.drew _, hC, by rw [hlc]; simpa using hcap, fun i v hv => by
        refine ⟨v, ?_, ?_⟩
        · rw [Nat.zero_add, ← Array.getElem?_toList, hCl, List.getElem?_append_left]
          · exact hv
          · rcases Nat.lt_or_ge i (q.data.toList.map fun (b : UInt8) => Value.int .u8 (b.toNat : Int)).length with h1 | h1
            · exact h1
            · rw [List.getElem?_eq_none h1] at hv; cases hv
        · have := List.mem_of_getElem? hv
          obtain ⟨u, _, rfl⟩ := List.mem_map.1 this
          exact .int _ _, fun _ => ⟨hr.floor, fun o ho h => by simp only at ho h; omega⟩⟩
    refine ⟨_, .slice (some ⟨w.drew.heap.size, 0, none⟩) q.size cp, _, ?_, ?_, hp.1, hrd.2.trans hp.2⟩
    · have e1 : (Question.appendCap q.size 0 e).forced = false := rfl
      simp only [convert, Sem.run_bind, run_und hs, run_und hd, run_und hq, Result.andThen_ok, Conv.stringToBytes, run_choose, e1, Bool.false_eq_true, if_false, hcp, World.drew_eq, hCC, run_newRow, markStringish, run_shape]
      have hsh := shape_new w.drew C e
      simp only [hsh, run_freeze, hfz]
      rfl
    · have := VRel.loose (ι := fun b => if b = m.size then some ⟨w.drew.heap.size, 0, cp⟩ else ι b) m.size 0 1 q.size q.size cp ⟨w.drew.heap.size, 0, cp⟩ (by simp) hcap (by simp)
      simpa using this
  · rename_i e hs hd
    split at h <;> try (simp at h; done)
    rename_i he
    split at h <;> try (simp at h; done)
    · simp at h
      obtain ⟨rfl, rfl⟩ := h
      cases hx
      exact ⟨ι, _, w, by simp [convert, run_und hs, run_und hd, run_und he, Conv.bytesToString], .string _, hr, Stp.refl _ _ _⟩
    · rename_i b off sp n cp
      split at h <;> try (simp at h; done)
      rename_i c hc
      split at h <;> simp at h
      rename_i l hl
      obtain ⟨rfl, rfl⟩ := h
      have key : ∀ (a : Addr) (c' : List Value), (loadCells a n).run P w = .ok c'.toArray w → VRels ι c c' → ∀ cp', (convert src dst (.slice (some a) n cp')).run P w = .ok (.string ⟨l.toArray⟩) w := by
        intro a c' hlc hcr cp'
        have := bytesIn_run (P := P) (w := w) c' l (bytesIn_rel hcr hl) ByteArray.empty
        simp only [convert, Sem.run_bind, run_und hs, run_und hd, run_und he, Result.andThen_ok, Conv.bytesToString, hlc]
        rw [← Array.forIn_toList]
        have ht : c'.toArray.toList = c' := by simp
        rw [ht]
        have he2 : (⟨(ByteArray.empty.data.toList ++ l).toArray⟩ : ByteArray) = ⟨l.toArray⟩ := rfl
        rw [he2] at this
        first | rw [this]; rfl | (simp only [this]; rfl) | (erw [this]; rfl)
      cases hx with
      | slc _ _ _ _ L hL =>
        obtain ⟨c', h1, h2⟩ := loadC_ok (P := P) hr hL hc
        exact ⟨ι, _, w, key _ _ h1 h2 _, .string _, hr, Stp.refl _ _ _⟩
      | loose _ _ _ _ _ c₂ L hL hcc htot =>
        obtain ⟨c', h1, h2⟩ := loadC_ok (P := P) hr hL hc
        exact ⟨ι, _, w, key _ _ h1 h2 _, .string _, hr, Stp.refl _ _ _⟩
      | loose0 _ _ _ o' c₂ L hL htot =>
        have : c = [] := by
          unfold loadC at hc
          split at hc <;> try (simp at hc; done)
          split at hc <;> simp at hc
          exact hc
        subst this
        exact ⟨ι, _, w, key _ [] (by simp [loadCells, loadCellsFrom]) .nil _, .string _, hr, Stp.refl _ _ _⟩
      | empty _ _ _ a =>
        have : c = [] := by
          unfold loadC at hc
          split at hc <;> try (simp at hc; done)
          split at hc <;> simp at hc
          exact hc
        subst this
        exact ⟨ι, _, w, key _ [] (by simp [loadCells, loadCellsFrom]) .nil _, .string _, hr, Stp.refl _ _ _⟩
theorem convQ_ok (hr : Rel B0 G ι m w) {src dst : TypeId} {x x' v : Value} (hx : VRel ι x x') (h : convQ P m src dst x = some v) :
    ∃ v', (convert src dst x').run P w = .ok v' w ∧ VRel ι v v' := by
  unfold convQ at h
  split at h <;> try (simp at h; done)
  · rename_i d k hs hd
    split at h <;> simp at h
    subst h
    cases hx
    exact ⟨_, by simp [convert, run_und hs, run_und hd, Conv.intToInt], .int _ _⟩
  · rename_i hs hd
    split at h <;> simp at h
    subst h
    cases hx
    exact ⟨_, by simp [convert, run_und hs, run_und hd], .string _⟩
  · rename_i e hs hd
    split at h <;> try (simp at h; done)
    rename_i he
    split at h <;> try (simp at h; done)
    · simp at h
      subst h
      cases hx
      exact ⟨_, by simp [convert, run_und hs, run_und hd, run_und he, Conv.bytesToString], .string _⟩
    · rename_i b off sp n cp
      split at h <;> try (simp at h; done)
      rename_i c hc
      split at h <;> simp at h
      rename_i l hl
      subst h
      have key : ∀ (a : Addr) (c' : List Value), (loadCells a n).run P w = .ok c'.toArray w → VRels ι c c' → ∀ cp', (convert src dst (.slice (some a) n cp')).run P w = .ok (.string ⟨l.toArray⟩) w := by
        intro a c' hlc hcr cp'
        have := bytesIn_run (P := P) (w := w) c' l (bytesIn_rel hcr hl) ByteArray.empty
        simp only [convert, Sem.run_bind, run_und hs, run_und hd, run_und he, Result.andThen_ok, Conv.bytesToString, hlc]
        rw [← Array.forIn_toList]
        have ht : c'.toArray.toList = c' := by simp
        rw [ht]
        have he2 : (⟨(ByteArray.empty.data.toList ++ l).toArray⟩ : ByteArray) = ⟨l.toArray⟩ := rfl
        rw [he2] at this
        first | rw [this]; rfl | (simp only [this]; rfl) | (erw [this]; rfl)
      cases hx with
      | slc _ _ _ _ L hL =>
        obtain ⟨c', h1, h2⟩ := loadC_ok (P := P) hr hL hc
        exact ⟨_, key _ _ h1 h2 _, .string _⟩
      | loose _ _ _ _ _ c₂ L hL hcc htot =>
        obtain ⟨c', h1, h2⟩ := loadC_ok (P := P) hr hL hc
        exact ⟨_, key _ _ h1 h2 _, .string _⟩
      | loose0 _ _ _ o' c₂ L hL htot =>
        have : c = [] := by
          unfold loadC at hc
          split at hc <;> try (simp at hc; done)
          split at hc <;> simp at hc
          exact hc
        subst this
        exact ⟨_, key _ [] (by simp [loadCells, loadCellsFrom]) .nil _, .string _⟩
      | empty _ _ _ a =>
        have : c = [] := by
          unfold loadC at hc
          split at hc <;> try (simp at hc; done)
          split at hc <;> simp at hc
          exact hc
        subst this
        exact ⟨_, key _ [] (by simp [loadCells, loadCellsFrom]) .nil _, .string _⟩
end
end Go.DI
/-
  DiRun: what the interpreter answers, the model answers: operations, regions, code.
-/
namespace Go.DI
section
variable {P : Program} {K : TypeId → Bool} {G B0 n : Nat} {ι : Ren} {m : Mem} {w : World} {t : Tmps} {a : Act}

/-- No name from a on below b is used. -/
def Fresh (ι : Ren) (x y : Nat) : Prop := ∀ b, x ≤ b → b < y → ι b = none

theorem Fresh.sub {x y x' y' : Nat} (h : Fresh ι x y) (h1 : x ≤ x') (h2 : y' ≤ y) : Fresh ι x' y' := fun b g1 g2 => h b (by omega) (by omega)
theorem Fresh.stp {ι' : Ren} {m m' : Mem} {w w' : World} {x y : Nat} (h : Fresh ι x y) (s : Stp ι ι' m m' w w') (h1 : m'.size ≤ x) : Fresh ι' x y := fun b g1 g2 => by
  rw [s.out b (.inr (by omega))]
  exact h b g1 g2

theorem minD_ok : ∀ {l l' : List Value} {k : IntKind} {x r : Int}, VRels ι l l' → minD l x = some r → (l'.foldlM Builtin.min2 (.int k x)).run P w = .ok (.int k r) w
  | [], _, k, x, r, hl, h => by cases hl; simp [minD] at h; subst h; simp
  | v :: l, _, k, x, r, hl, h => by
    cases hl with
    | cons h0 t0 =>
      cases v <;> simp only [minD] at h <;> try (simp at h; done)
      cases h0
      simp only [List.foldlM_cons, Sem.run_bind, Builtin.min2, Sem.run_pure, Result.andThen_ok]
      exact minD_ok t0 h
theorem maxD_ok : ∀ {l l' : List Value} {k : IntKind} {x r : Int}, VRels ι l l' → maxD l x = some r → (l'.foldlM Builtin.max2 (.int k x)).run P w = .ok (.int k r) w
  | [], _, k, x, r, hl, h => by cases hl; simp [maxD] at h; subst h; simp
  | v :: l, _, k, x, r, hl, h => by
    cases hl with
    | cons h0 t0 =>
      cases v <;> simp only [maxD] at h <;> try (simp at h; done)
      cases h0
      simp only [List.foldlM_cons, Sem.run_bind, Builtin.max2, Sem.run_pure, Result.andThen_ok]
      exact maxD_ok t0 h

theorem lenD_ok (hr : Rel B0 G ι m w) {s ty : TypeId} {x x' v : Value} (hx : VRel ι x x') (h : lenD P m s x = some v) : (Builtin.len_ #[s] ty #[x']).run P w = .ok v w ∧ VRel ι v v := by
  unfold lenD at h
  split at h <;> try (simp at h; done)
  · rename_i hu
    split at h <;> simp at h
    subst h; cases hx
    exact ⟨by simp [Builtin.len_, run_und hu, goInt], .int _ _⟩
  · rename_i hu
    simp at h
    subst h
    refine ⟨?_, .int _ _⟩
    simp only [Builtin.len_, Sem.run_bind, run_und hu, Result.andThen_ok, List.getElem?_toArray, List.getElem?_cons_zero]
    cases x' <;> simp [goInt]
  · rename_i hu
    split at h <;> simp at h
    subst h
    refine ⟨?_, .int _ _⟩
    cases hx <;> simp [Builtin.len_, run_und hu, goInt]
  · rename_i hu
    split at h <;> try (simp at h; done)
    · simp at h; subst h; cases hx
      exact ⟨by simp [Builtin.len_, run_und hu, goInt], .int _ _⟩
    · rename_i r
      split at h <;> simp at h
      rename_i own es c hg
      subst h
      have hlt := hr.get_lt (b := r) (by rw [hg]; simp)
      cases hx with
      | map _ L hL =>
        have hb := hr.blk r L hlt hL
        rw [hg] at hb
        obtain ⟨res, h1, h2, h3⟩ := hb
        have hgo : (getObj L.block).run P w = .ok (.map res c) w := by simp [getObj, Sem.run, h1]
        have := h2.length
        exact ⟨by simp [Builtin.len_, run_und hu, goInt, hgo, this], .int _ _⟩

theorem quiet_ok (hK : Plain P K) (hr : Rel B0 G ι m w) (ht : TRel ι n t a) {o : Oper} {v : Value} (h : quietD P K G t m o.op = some v) :
    ∃ v', (execOp a.eval o).run P w = .ok (.value v') w ∧ VRel ι v v' := by
  unfold quietD at h
  split at h <;> try (simp at h; done)
  · rename_i x ho; exact ⟨_, by simp [execOp, ho], ev_rel hr ht h⟩
  · rename_i x ho; exact ⟨_, by simp [execOp, ho], ev_rel hr ht h⟩
  · rename_i c x y ho
    split at h <;> try (simp at h; done)
    · rename_i hc; have := (ev_rel hr ht hc).inv_bool; exact ⟨_, by simp [execOp, ho, this, asBool], ev_rel hr ht h⟩
    · rename_i hc; have := (ev_rel hr ht hc).inv_bool; exact ⟨_, by simp [execOp, ho, this, asBool], ev_rel hr ht h⟩
  · rename_i ty x ho
    split at h <;> try (simp at h; done)
    rename_i u hu
    obtain ⟨v', h1, h2⟩ := loadD_ok (P := P) hr (ev_rel hr ht hu) (shD_some h)
    exact ⟨v', by simp [execOp, ho, h1], h2⟩
  · rename_i x ho
    split at h <;> simp at h
    · rename_i ad hx
      subst h
      have := ev_rel hr ht hx
      refine ⟨a.eval x, ?_, this⟩
      simp only [execOp, ho]
      revert this
      cases a.eval x <;> intro this <;> cases this <;> rfl
    · rename_i f fs cs hx
      subst h
      have := ev_rel hr ht hx
      obtain ⟨a', b', e1, _, _⟩ := this.inv_func
      rw [e1] at this
      refine ⟨_, ?_, this⟩
      simp [execOp, ho, e1]
  · rename_i op ty x y yt ho
    split at h <;> try (simp at h; done)
    rename_i u1 u2 h1 h2
    obtain ⟨g1, g2⟩ := binD_rel (ev_rel hr ht h1) (ev_rel hr ht h2) h
    have := run_binD (w := w) (o1 := x) (o2 := y) hK g1
    refine ⟨v, ?_, g2⟩
    simp only [execOp, ho]
    rw [Sem.run_bind, this]
    rfl
  · rename_i op ty x ho
    split at h <;> try (simp at h; done)
    rename_i u hu
    obtain ⟨g1, g2⟩ := unD_ok (P := P) (w := w) (ev_rel hr ht hu) h
    exact ⟨v, by simp [execOp, ho, g1], g2⟩
  · rename_i f fs cs ho
    split at h <;> simp at h
    rename_i l1 l2 h1 h2
    subst h
    refine ⟨.func (.func f) (fs.map a.eval) (cs.map a.eval), by simp [execOp, ho, Instr.makeFunc], ?_⟩
    have g1 := evs_rel hr ht h1
    have g2 := evs_rel hr ht h2
    have e1 : (fs.map a.eval).toList = fs.toList.map a.eval := by simp
    have e2 : (cs.map a.eval).toList = cs.toList.map a.eval := by simp
    have k1 := VRels.arr (a := l1.toArray) (a' := fs.map a.eval) (ι := ι) (by rw [e1]; exact g1)
    have k2 := VRels.arr (a := l2.toArray) (a' := cs.map a.eval) (ι := ι) (by rw [e2]; exact g2)
    exact .func _ _ _ _ _ k1.1 k2.1 k1.2 k2.2
  · rename_i s x f ho
    split at h <;> try (simp at h; done)
    rename_i u hu
    obtain ⟨v', h1, h2⟩ := fieldAddrD_ok (P := P) (w := w) (ev_rel hr ht hu) h
    exact ⟨v', by simp [execOp, ho, h1], h2⟩
  · rename_i s x f ho
    split at h <;> try (simp at h; done)
    rename_i u hu
    obtain ⟨v', h1, h2⟩ := fieldD_ok (P := P) (w := w) (ev_rel hr ht hu) h
    exact ⟨v', by simp [execOp, ho, h1], h2⟩
  · rename_i s x i ho
    split at h <;> try (simp at h; done)
    rename_i u1 u2 h1 h2
    obtain ⟨v', g1, g2⟩ := indexAddrD_ok (P := P) (w := w) (ev_rel hr ht h1) h
    have hi : a.eval i = u2 := by
      have := ev_rel hr ht h2
      unfold indexAddrD at h
      split at h <;> try (simp at h; done)
      exact this.inv_int
    exact ⟨v', by simp [execOp, ho, hi, g1], g2⟩
  · rename_i s x i ho
    split at h <;> try (simp at h; done)
    rename_i u1 u2 h1 h2
    obtain ⟨v', g1, g2⟩ := indexD_ok (P := P) (w := w) (ev_rel hr ht h1) h
    have hi : a.eval i = u2 := by
      have := ev_rel hr ht h2
      unfold indexD at h
      split at h <;> try (simp at h; done)
      exact this.inv_int
    exact ⟨v', by simp [execOp, ho, hi, g1], g2⟩
  · rename_i s x k ok ho
    split at h <;> try (simp at h; done)
    rename_i u1 u2 h1 h2
    obtain ⟨v', g1, g2⟩ := lookupD_ok (P := P) (w := w) hK hr (ev_rel hr ht h1) (ev_rel hr ht h2) h
    exact ⟨v', by simp [execOp, ho, g1], g2⟩
  · rename_i x i ho
    split at h <;> try (simp at h; done)
    rename_i vs hx
    obtain ⟨vs', e1, hvs⟩ := (ev_rel hr ht hx).inv_tuple
    obtain ⟨y, hy, hry⟩ := hvs.get h
    have hy' : vs'[i]? = some y := by simpa using hy
    exact ⟨y, by simp [execOp, ho, e1, Instr.extract, hy'], hry⟩
  · rename_i ty parts ho
    split at h <;> try (simp at h; done)
    rename_i ps hps
    have hp := evParts_rel hr ht hps
    obtain ⟨v', g1, g2⟩ := buildD_ok (P := P) (w := w) (ps' := parts.map fun x => (x.1, a.eval x.2)) (by simpa using hp) h
    exact ⟨v', by simp [execOp, ho, g1], g2⟩
  · rename_i ty x lo hi mx ho
    split at h <;> try (simp at h; done)
    rename_i u l1 l2 l3 hu h1 h2 h3
    obtain ⟨v', g1, g2⟩ := sliceD_ok (P := P) (w := w) (ev_rel hr ht hu) (optEv_rel hr ht h1) (optEv_rel hr ht h2) (optEv_rel hr ht h3) h
    exact ⟨v', by simp [execOp, ho, g1], g2⟩
  · rename_i s d x ho
    split at h <;> try (simp at h; done)
    rename_i u hu
    obtain ⟨v', g1, g2⟩ := convQ_ok (P := P) hr (ev_rel hr ht hu) h
    exact ⟨v', by simp only [execOp, ho, Sem.run_bind, g1, Result.andThen_ok, Sem.run_pure], g2⟩
  · rename_i args tys ho
    split at h <;> try (simp at h; done)
    rename_i x ty hx ht'
    split at h <;> try (simp at h; done)
    rename_i u hu
    have e1 : args = #[x] := Array.ext' (by simpa using hx)
    have e2 : tys = #[ty] := Array.ext' (by simpa using ht')
    subst e1 e2
    obtain ⟨g1, g2⟩ := lenD_ok (P := P) (ty := o.type) hr (ev_rel hr ht hu) h
    exact ⟨v, by simp [execOp, ho, resolve, invoke, builtin, g1], g2⟩
  · rename_i args tys ho
    split at h <;> try (simp at h; done)
    rename_i k x l hx
    split at h <;> simp at h
    rename_i r hm
    subst h
    have hv := evs_rel hr ht hx
    generalize hq : args.toList.map a.eval = q at hv
    cases hv with
    | cons h0 t0 =>
      cases h0
      have e1 : (args.map a.eval).toList = args.toList.map a.eval := by simp
      refine ⟨_, ?_, .int _ _⟩
      simp only [execOp, ho, resolve, Sem.run_bind, Sem.run_pure, Result.andThen_ok, invoke, builtin, Builtin.min_, e1, hq]
      rw [minD_ok t0 hm]
      rfl
  · rename_i args tys ho
    split at h <;> try (simp at h; done)
    rename_i k x l hx
    split at h <;> simp at h
    rename_i r hm
    subst h
    have hv := evs_rel hr ht hx
    generalize hq : args.toList.map a.eval = q at hv
    cases hv with
    | cons h0 t0 =>
      cases h0
      have e1 : (args.map a.eval).toList = args.toList.map a.eval := by simp
      refine ⟨_, ?_, .int _ _⟩
      simp only [execOp, ho, resolve, Sem.run_bind, Sem.run_pure, Result.andThen_ok, invoke, builtin, Builtin.max_, e1, hq]
      rw [maxD_ok t0 hm]
      rfl
end
end Go.DI
/-
  DiCode: what the interpreter answers of code, the model answers.
-/
namespace Go.DI
section
variable {P : Program} {K : TypeId → Bool} {G B0 n : Nat} {ι : Ren} {m : Mem} {w : World} {t : Tmps} {a : Act}

abbrev CallF := FuncId → List Value → Mem → Option (Value × Mem)

/-- What a call's answer is worth. -/
def CallOK (P : Program) (B0 G : Nat) (f : FuncId) (args : List Value) (m : Mem) (v : Value) (m' : Mem) : Prop :=
  ∀ (ι : Ren) (w : World) (args' : List Value), Rel B0 G ι m w → Fresh ι m.size m'.size → VRels ι args args' →
    Calls P f args'.toArray w fun e w' => ∃ v' ι', e = .returned v' ∧ VRel ι' v v' ∧ Rel B0 G ι' m' w' ∧ Stp ι ι' m m' w w'

structure CfOK (P : Program) (B0 G : Nat) (cf : CallF) : Prop where
  size : ∀ f args m v m', cf f args m = some (v, m') → m.size ≤ m'.size
  ok : ∀ f args m v m', cf f args m = some (v, m') → CallOK P B0 G f args m v m'
  body : ∀ f args m v m', cf f args m = some (v, m') → ∃ fn, P.funcs[f]? = some fn ∧ fn.body.isNone = false ∧ (fn.name == "runtime.NumGoroutine") = false

theorem storeC_size {b off : Nat} {vs : List Value} {m' : Mem} (h : storeC m b off vs = some m') : m'.size = m.size := by
  unfold storeC at h
  split at h <;> try (simp at h; done)
  split at h <;> try (simp at h; done)
  split at h <;> simp at h
  subst h; rfl
theorem storeD_size {s : TypeId} {x v : Value} {m' : Mem} (h : storeD P m s v x = some m') : m'.size = m.size := by
  unfold storeD at h
  split at h <;> try (simp at h; done)
  split at h <;> try (simp at h; done)
  split at h <;> try (simp at h; done)
  exact storeC_size h
theorem mapUpdateD_size {s : TypeId} {x k v : Value} {m' : Mem} (h : mapUpdateD P K m s x k v = some m') : m'.size = m.size := by
  unfold mapUpdateD at h
  split at h <;> try (simp at h; done)
  split at h <;> try (simp at h; done)
  split at h <;> try (simp at h; done)
  split at h <;> try (simp at h; done)
  split at h <;> try (simp at h; done)
  · split at h <;> try (simp at h; done)
    split at h <;> simp at h
    subst h; rfl
  · simp at h; subst h; rfl
theorem appendD_size {tS tX : TypeId} {s x v : Value} {m' : Mem} (h : appendD P m tS tX s x = some (v, m')) : m.size ≤ m'.size := by
  unfold appendD at h
  split at h <;> try (simp at h; done)
  split at h <;> try (simp at h; done)
  split at h <;> try (simp at h; done)
  split at h <;> try (simp at h; done)
  split at h
  · split at h
    · split at h <;> simp at h
      rw [h.2]; exact Nat.le_refl _
    · split at h
      · simp at h; rw [h.2]; exact Nat.le_refl _
      · split at h <;> simp at h
        rename_i hst
        have hst := storeR_some hst
        rw [← h.2, storeC_size hst]; exact Nat.le_refl _
  · split at h <;> try (simp at h; done)
    split at h <;> try (simp at h; done)
    split at h <;> try (simp at h; done)
    split at h
    · split at h <;> try (simp at h; done)
      split at h <;> simp at h
      rw [← h.2]; simp
    · simp at h; rw [← h.2]; simp
theorem copyD_size {tD : TypeId} {s x v : Value} {m' : Mem} (h : copyD P m tD s x = some (v, m')) : m.size ≤ m'.size := by
  unfold copyD at h
  split at h <;> try (simp at h; done)
  split at h <;> try (simp at h; done)
  split at h <;> try (simp at h; done)
  split at h <;> try (simp at h; done)
  split at h
  · simp at h; rw [h.2]; exact Nat.le_refl _
  · split at h
    · simp at h; rw [h.2]; exact Nat.le_refl _
    · split at h <;> simp at h
      rename_i hst
      rw [← h.2, storeC_size hst]; exact Nat.le_refl _
theorem convD_size {s d : TypeId} {x v : Value} {m' : Mem} (h : convD P m s d x = some (v, m')) : m.size ≤ m'.size := by
  unfold convD at h
  split at h <;> try (simp at h; done)
  · split at h <;> simp at h
    rw [h.2]; exact Nat.le_refl _
  · split at h <;> simp at h
    rw [h.2]; exact Nat.le_refl _
  · split at h <;> simp at h
    rw [← h.2]; simp
  · split at h <;> try (simp at h; done)
    split at h <;> try (simp at h; done)
    · simp at h; rw [h.2]; exact Nat.le_refl _
    · split at h <;> try (simp at h; done)
      split at h <;> simp at h
      rw [h.2]; exact Nat.le_refl _

theorem heavyD_size {cf : CallF} (hcf : ∀ f args m v m', cf f args m = some (v, m') → m.size ≤ m'.size) {o : Op} {v : Value} {m' : Mem} (h : heavyD P K G cf t m o = some (v, m')) : m.size ≤ m'.size := by
  unfold heavyD at h
  split at h <;> try (simp at h; done)
  · split at h <;> try (simp at h; done)
    split at h <;> simp at h
    rename_i hs
    rw [← h.2, storeD_size hs]; exact Nat.le_refl _
  · split at h <;> try (simp at h; done)
    split at h <;> simp at h
    rename_i hs
    rw [← h.2, mapUpdateD_size hs]; exact Nat.le_refl _
  · split at h <;> try (simp at h; done)
    split at h <;> simp at h
    rename_i hs
    rw [← h.2, mapUpdateD_size hs]; exact Nat.le_refl _
  · split at h <;> try (simp at h; done)
    exact convD_size h
  · split at h <;> try (simp at h; done)
    split at h <;> try (simp at h; done)
    exact appendD_size h
  · split at h <;> try (simp at h; done)
    split at h <;> try (simp at h; done)
    exact copyD_size h
  · split at h <;> try (simp at h; done)
    exact hcf _ _ _ _ _ h

theorem opD_size {cf : CallF} (hcf : ∀ f args m v m', cf f args m = some (v, m') → m.size ≤ m'.size) {o : Op} {v : Value} {m' : Mem} (h : opD P K G cf t m o = some (v, m')) : m.size ≤ m'.size := by
  unfold opD at h
  split at h
  · split at h <;> simp at h
    rw [h.2]; exact Nat.le_refl _
  · split at h <;> simp at h
    rw [← h.2]; simp
  · exact heavyD_size hcf h

/-- A heavy operation, in the walk's own words. -/
theorem heavy_wp (hK : Plain P K) {cf : CallF} (hcf : CfOK P B0 G cf) (hr : Rel B0 G ι m w) (ht : TRel ι n t a) {o : Oper} {v : Value} {m' : Mem} (h : heavyD P K G cf t m o.op = some (v, m')) (hf : Fresh ι m.size m'.size)
    {next : Act → World → Prop} {Q : Exit → Act → World → Prop} (hnext : ∀ ι' v' w', VRel ι' v v' → Rel B0 G ι' m' w' → Stp ι ι' m m' w w' → next (a.put o.dst v') w') : o.wp P a w next Q := by
  have hn : m.size < m'.size → ι m.size = none := fun h => hf _ (Nat.le_refl _) h
  unfold Oper.wp
  unfold heavyD at h
  split at h <;> try (simp at h; done)
  · rename_i ty x y ho
    split at h <;> try (simp at h; done)
    rename_i u1 u2 h1 h2
    split at h <;> simp at h
    rename_i m₁ hs
    obtain ⟨rfl, rfl⟩ := h
    obtain ⟨w', g1, g2, g3⟩ := storeD_ok (P := P) hr (ev_rel hr ht h1) (ev_rel hr ht h2) hs
    simp only [execOp, ho, Sem.run_bind, g1, Result.andThen_ok, Sem.run_pure]
    exact hnext ι _ w' (VRel.undef _) g2 g3
  · rename_i ty x k y ho
    split at h <;> try (simp at h; done)
    rename_i u1 u2 u3 h1 h2 h3
    split at h <;> simp at h
    rename_i m₁ hs
    obtain ⟨rfl, rfl⟩ := h
    obtain ⟨w', g1, g2, g3⟩ := mapUpdateD_ok (P := P) hK hr (ev_rel hr ht h1) (ev_rel hr ht h2) (ev_rel hr ht h3) hs
    simp only [execOp, ho, Sem.run_bind, g1, Result.andThen_ok, Sem.run_pure]
    exact hnext ι _ w' (VRel.undef _) g2 g3
  · rename_i ty x k y ho
    split at h <;> try (simp at h; done)
    rename_i u1 u2 u3 h1 h2 h3
    split at h <;> simp at h
    rename_i m₁ hs
    obtain ⟨rfl, rfl⟩ := h
    obtain ⟨w', g1, g2, g3⟩ := mapUpdateD_ok (P := P) hK hr (ev_rel hr ht h1) (ev_rel hr ht h2) (ev_rel hr ht h3) hs
    simp only [execOp, ho, Sem.run_bind, g1, Result.andThen_ok, Sem.run_pure]
    exact hnext ι _ w' (VRel.undef _) g2 g3
  · rename_i s d x ho
    split at h <;> try (simp at h; done)
    rename_i u hu
    obtain ⟨ι', v', w', g1, g2, g3, g4⟩ := convD_ok (P := P) hr (ev_rel hr ht hu) hn h
    simp only [execOp, ho, Sem.run_bind, g1, Result.andThen_ok, Sem.run_pure]
    exact hnext ι' v' w' g2 g3 g4
  · rename_i args tys ho
    split at h <;> try (simp at h; done)
    rename_i x y tS tX hx ht'
    split at h <;> try (simp at h; done)
    rename_i u1 u2 h1 h2
    have e1 : args = #[x, y] := Array.ext' (by simpa using hx)
    have e2 : tys = #[tS, tX] := Array.ext' (by simpa using ht')
    subst e1 e2
    obtain ⟨ι', v', w', g1, g2, g3, g4⟩ := appendD_ok (P := P) (ty := o.type) hr (ev_rel hr ht h1) (ev_rel hr ht h2) hn h
    simp only [execOp, ho, resolve, Sem.run_bind, Sem.run_pure, Result.andThen_ok, invoke, builtin, List.map_toArray, List.map_cons, List.map_nil, g1]
    exact hnext ι' v' w' g2 g3 g4
  · rename_i args tys ho
    split at h <;> try (simp at h; done)
    rename_i x y tS tX hx ht'
    split at h <;> try (simp at h; done)
    rename_i u1 u2 h1 h2
    have e1 : args = #[x, y] := Array.ext' (by simpa using hx)
    have e2 : tys = #[tS, tX] := Array.ext' (by simpa using ht')
    subst e1 e2
    obtain ⟨v', w', g1, g2, g3, g4⟩ := copyD_ok (P := P) (tX := tX) (ty := o.type) hr (ev_rel hr ht h1) (ev_rel hr ht h2) h
    simp only [execOp, ho, resolve, Sem.run_bind, Sem.run_pure, Result.andThen_ok, invoke, builtin, List.map_toArray, List.map_cons, List.map_nil, g1]
    exact hnext ι v' w' g2 g3 g4
  · rename_i f args tys ho
    split at h <;> try (simp at h; done)
    rename_i g first captured vs h1 h2
    obtain ⟨fn, hfn, hbody, hname⟩ := hcf.body _ _ _ _ _ h
    obtain ⟨a', b', e1, g1, g2⟩ := (ev_rel hr ht h1).inv_func
    have g3 := evs_rel hr ht h2
    have hcall := hcf.ok _ _ _ _ _ h ι w (a'.toList ++ (args.toList.map a.eval ++ b'.toList)) hr hf (g1.append (g3.append g2))
    have earr : (a'.toList ++ (args.toList.map a.eval ++ b'.toList)).toArray = a' ++ args.map a.eval ++ b' := by apply Array.ext'; simp
    rw [earr] at hcall
    simp only [execOp, ho, resolve, e1, Deferred.ofValue, Sem.run_bind, Sem.run_pure, Result.andThen_ok, invoke, callFunc, run_program, hfn, hname, hbody, Bool.false_eq_true, if_false]
    refine Calls.mono hcall fun e w' he => ?_
    obtain ⟨v', ι', rfl, g4, g5, g6⟩ := he
    exact hnext ι' v' w' g4 g5 g6

theorem op_wp (hK : Plain P K) {cf : CallF} (hcf : CfOK P B0 G cf) (hr : Rel B0 G ι m w) (ht : TRel ι n t a) {o : Oper} {v : Value} {m' : Mem} (h : opD P K G cf t m o.op = some (v, m')) (hf : Fresh ι m.size m'.size)
    {next : Act → World → Prop} {Q : Exit → Act → World → Prop} (hnext : ∀ ι' v' w', VRel ι' v v' → Rel B0 G ι' m' w' → Stp ι ι' m m' w w' → next (a.put o.dst v') w') : o.wp P a w next Q := by
  unfold opD at h
  split at h
  · split at h <;> simp at h
    rename_i u hu
    obtain ⟨rfl, rfl⟩ := h
    obtain ⟨v', g1, g2⟩ := quiet_ok hK hr ht hu
    unfold Oper.wp
    rw [g1]
    exact hnext ι v' w g2 hr (Stp.refl _ _ _)
  · split at h <;> simp at h
    rename_i x q hx
    obtain ⟨rfl, rfl⟩ := h
    obtain ⟨ι', v', w', g1, g2, g3, g4⟩ := allocD_ok (P := P) hr ht (hf _ (Nat.le_refl _) (by simp)) hx
    unfold Oper.wp
    rw [g1]
    exact hnext ι' v' w' g2 g3 g4
  · exact heavy_wp hK hcf hr ht h hf hnext

theorem TRel.putD (ht : TRel ι n t a) {dst : Option Tmp} (hd : dstOk n dst = true) {v v' : Value} (hv : VRel ι v v') : TRel ι n (putD t dst v) (a.put dst v') := by
  cases dst with
  | none => exact ht
  | some d => exact ht.put (by simpa [dstOk] using hd) hv

theorem yield_rel (ht : TRel ι n t a) (ops : Array Oper) : yieldD ops.toList t = yielded ops a.tmps := by
  funext j
  unfold yieldD yielded
  rw [Array.getElem?_toList]
  cases hj : ops[j]? with
  | none => rfl
  | some o =>
    simp only [Option.bind_some]
    cases hd : o.dst with
    | none => rfl
    | some d =>
      simp only [Option.bind_some]
      have h := ht.2 d
      rw [Array.getD_eq_getD_getElem?] at h
      cases hg : a.tmps[d]? with
      | none =>
        rw [hg] at h
        simp only [Option.getD_none] at h
        generalize t.at d = q at h
        cases h <;> rfl
      | some u =>
        rw [hg] at h
        simp only [Option.getD_some] at h
        generalize t.at d = q at h
        cases h <;> rfl

theorem opsD_size {cf : CallF} (hcf : ∀ f args m v m', cf f args m = some (v, m') → m.size ≤ m'.size) {ops : List Oper} : ∀ (l : List Oper) (t : Tmps) (m : Mem) (t' : Tmps) (m' : Mem), opsD P K G cf n ops l t m = some (t', m') → m.size ≤ m'.size
  | [], t, m, t', m', h => by simp [opsD] at h; rw [h.2]; exact Nat.le_refl _
  | o :: l, t, m, t', m', h => by
    simp only [opsD] at h
    split at h <;> try (simp at h; done)
    split at h
    · split at h <;> try (simp at h; done)
      rename_i v m₁ hv
      exact Nat.le_trans (opD_size hcf hv) (opsD_size hcf l _ _ _ _ h)
    · exact opsD_size hcf l _ _ _ _ h

/-- What comes of a piece of code. -/
def After (B0 G n : Nat) (ι : Ren) (m : Mem) (w : World) (a : Act) (t' : Tmps) (m' : Mem) (a' : Act) (w' : World) : Prop :=
  ∃ ι', TRel ι' n t' a' ∧ Rel B0 G ι' m' w' ∧ Stp ι ι' m m' w w' ∧ a'.defers = a.defers

theorem After.trans {ι₁ : Ren} {m₁ m₂ : Mem} {w₁ w₂ : World} {a₁ a₂ : Act} {t₂ : Tmps} (s : Stp ι ι₁ m m₁ w w₁) (hd : a₁.defers = a.defers) (h : After B0 G n ι₁ m₁ w₁ a₁ t₂ m₂ a₂ w₂) : After B0 G n ι m w a t₂ m₂ a₂ w₂ := by
  obtain ⟨ι', g1, g2, g3, g4⟩ := h
  exact ⟨ι', g1, g2, s.trans g3, g4.trans hd⟩

theorem put_defers (a : Act) (d : Option Tmp) (v : Value) : (a.put d v).defers = a.defers := by cases d <;> rfl

theorem ops_wp (hK : Plain P K) {cf : CallF} (hcf : CfOK P B0 G cf) {ops : Array Oper} {Q : Exit → Act → World → Prop} : ∀ (l : List Oper) (i : Nat), (∀ j, l[j]? = ops[i + j]?) → ∀ (ι : Ren) (t : Tmps) (m : Mem) (w : World) (a : Act) (t' : Tmps) (m' : Mem),
    opsD P K G cf n ops.toList l t m = some (t', m') → Rel B0 G ι m w → TRel ι n t a → Fresh ι m.size m'.size →
    (∀ a' w', After B0 G n ι m w a t' m' a' w' → Q .normal a' w') → wpOps P ops Q (List.range' i l.length) a w
  | [], i, hl, ι, t, m, w, a, t', m', h, hr, ht, hf, hQ => by
    simp [opsD] at h
    obtain ⟨rfl, rfl⟩ := h
    simp only [List.length_nil, List.range'_zero, wpOps]
    exact hQ a w ⟨ι, ht, hr, Stp.refl _ _ _, rfl⟩
  | o :: l, i, hl, ι, t, m, w, a, t', m', h, hr, ht, hf, hQ => by
    simp only [opsD] at h
    split at h <;> try (simp at h; done)
    rename_i hd
    have ho : ops[i]? = some o := by have := hl 0; simpa using this.symm
    have hl' : ∀ j, l[j]? = ops[i + 1 + j]? := fun j => by have := hl (j + 1); simp at this; rw [this]; congr 1; omega
    rw [List.length_cons, List.range'_succ]
    simp only [wpOps, ho]
    rw [yield_rel ht] at h
    split at h
    · rename_i hw
      rw [if_pos hw]
      split at h <;> try (simp at h; done)
      rename_i v m₁ hv
      have s1 := opD_size hcf.size hv
      have s2 := opsD_size hcf.size _ _ _ _ _ h
      refine .inl (op_wp hK hcf hr ht hv (hf.sub (Nat.le_refl _) s2) fun ι' v' w' g1 g2 g3 => ?_)
      refine ops_wp hK hcf l (i + 1) hl' ι' _ m₁ w' _ t' m' h g2 ((ht.mono g3.ext).putD hd g1) ((hf.sub s1 (Nat.le_refl _)).stp g3 (Nat.le_refl _)) fun a' w'' ha => hQ a' w'' ?_
      exact After.trans g3 (put_defers _ _ _) ha
    · rename_i hw
      rw [if_neg hw]
      refine ops_wp hK hcf l (i + 1) hl' ι _ m w _ t' m' h hr (ht.putD hd (VRel.undef _)) hf fun a' w'' ha => hQ a' w'' ?_
      exact After.trans (Stp.refl _ _ _) (put_defers _ _ _) ha

theorem region_wp (hK : Plain P K) {cf : CallF} (hcf : CfOK P B0 G cf) {ops : Array Oper} {id : Nat} {Q : Exit → Act → World → Prop} {t' : Tmps} {m' : Mem}
    (h : opsD P K G cf n ops.toList ops.toList t m = some (t', m')) (hr : Rel B0 G ι m w) (ht : TRel ι n t a) (hf : Fresh ι m.size m'.size)
    (hQ : ∀ a' w', After B0 G n ι m w a t' m' a' w' → Q .normal a' w') : (Code.region id ops false).wp P Q a w := by
  refine wp_region ?_
  have := ops_wp (Q := Q) hK hcf (ops := ops) ops.toList 0 (fun j => by simp) ι t m w a t' m' h hr ht hf hQ
  rw [List.range_eq_range']
  simpa using this

/-- A region that draws its order. -/
def DrawOK (P : Program) (B0 G n : Nat) (dr : List Oper → Tmps → Mem → Option (Tmps × Mem)) : Prop :=
  (∀ ops t m t' m', dr ops t m = some (t', m') → m.size ≤ m'.size) ∧
  ∀ (ops : Array Oper) (id : Nat) (ι : Ren) (t : Tmps) (m : Mem) (w : World) (a : Act) (t' : Tmps) (m' : Mem) (Q : Exit → Act → World → Prop),
    dr ops.toList t m = some (t', m') → Rel B0 G ι m w → TRel ι n t a → Fresh ι m.size m'.size →
    (∀ a' w', After B0 G n ι m w a t' m' a' w' → Q .normal a' w') → (Code.region id ops true).wp P Q a w

def Ex.to : Ex → Exit
  | .normal => .normal
  | .exit id => .exit id
  | .ret => .ret

theorem loopD_size {body : Tmps → Mem → Option (Ex × Tmps × Mem)} (hb : ∀ t m e t' m', body t m = some (e, t', m') → m.size ≤ m'.size) : ∀ (k : Nat) (t : Tmps) (m : Mem) (e : Ex) (t' : Tmps) (m' : Mem), loopD body k t m = some (e, t', m') → m.size ≤ m'.size
  | 0, t, m, e, t', m', h => by simp [loopD] at h
  | k + 1, t, m, e, t', m', h => by
    simp only [loopD] at h
    split at h
    · rename_i t₁ m₁ h1
      exact Nat.le_trans (hb _ _ _ _ _ h1) (loopD_size hb k _ _ _ _ _ h)
    · exact hb _ _ _ _ _ h

theorem codeD_size {cf : CallF} (hcf : ∀ f args m v m', cf f args m = some (v, m') → m.size ≤ m'.size) {dr : List Oper → Tmps → Mem → Option (Tmps × Mem)} (hdr : ∀ ops t m t' m', dr ops t m = some (t', m') → m.size ≤ m'.size) {k : Nat} :
    ∀ (c : Code) (t : Tmps) (m : Mem) (e : Ex) (t' : Tmps) (m' : Mem), codeD P K G cf dr n k c t m = some (e, t', m') → m.size ≤ m'.size := by
  intro c
  induction c with
  | skip => intro t m e t' m' h; simp [codeD] at h; rw [h.2.2]; exact Nat.le_refl _
  | label l => intro t m e t' m' h; simp [codeD] at h; rw [h.2.2]; exact Nat.le_refl _
  | region id ops draw =>
    intro t m e t' m' h
    simp only [codeD] at h
    split at h <;> simp at h
    rename_i t₁ m₁ h1
    rw [← h.2.2]
    cases draw
    · exact opsD_size hcf _ _ _ _ _ h1
    · exact hdr _ _ _ _ _ h1
  | seq x y ihx ihy =>
    intro t m e t' m' h
    simp only [codeD] at h
    split at h
    · rename_i t₁ m₁ h1
      exact Nat.le_trans (ihx _ _ _ _ _ h1) (ihy _ _ _ _ _ h)
    · exact ihx _ _ _ _ _ h
  | cond c x y ihx ihy =>
    intro t m e t' m' h
    simp only [codeD] at h
    split at h <;> try (simp at h; done)
    · exact ihx _ _ _ _ _ h
    · exact ihy _ _ _ _ _ h
  | block id c ih =>
    intro t m e t' m' h
    simp only [codeD] at h
    split at h
    · rename_i id' t₁ m₁ h1
      split at h <;> simp at h <;> rw [← h.2.2] <;> exact ih _ _ _ _ _ h1
    · exact ih _ _ _ _ _ h
  | loop c ih => intro t m e t' m' h; simp only [codeD] at h; exact loopD_size (fun t m e t' m' h => ih t m e t' m' h) _ _ _ _ _ _ h
  | exit id => intro t m e t' m' h; simp [codeD] at h; rw [h.2.2]; exact Nat.le_refl _
  | ret => intro t m e t' m' h; simp [codeD] at h; rw [h.2.2]; exact Nat.le_refl _
  | rangeFunc => intro t m e t' m' h; simp [codeD] at h
  | scope c ih => intro t m e t' m' h; simp only [codeD] at h; exact ih _ _ _ _ _ h
  | goto => intro t m e t' m' h; simp [codeD] at h
  | refuse => intro t m e t' m' h; simp [codeD] at h

/-- What is claimed of a piece of code. -/
def CodeOK (P : Program) (B0 G n : Nat) (c : Code) (t : Tmps) (m : Mem) (e : Ex) (t' : Tmps) (m' : Mem) : Prop :=
  ∀ (ι : Ren) (w : World) (a : Act) (Q : Exit → Act → World → Prop), Rel B0 G ι m w → TRel ι n t a → Fresh ι m.size m'.size → (∀ a' w', After B0 G n ι m w a t' m' a' w' → Q e.to a' w') → c.wp P Q a w

theorem code_ok (hK : Plain P K) {cf : CallF} (hcf : CfOK P B0 G cf) {dr : List Oper → Tmps → Mem → Option (Tmps × Mem)} (hdr : DrawOK P B0 G n dr) {k : Nat} :
    ∀ (c : Code) (t : Tmps) (m : Mem) (e : Ex) (t' : Tmps) (m' : Mem), codeD P K G cf dr n k c t m = some (e, t', m') → CodeOK P B0 G n c t m e t' m' := by
  intro c
  have hsz := fun c => codeD_size (P := P) (K := K) (G := G) (n := n) (k := k) hcf.size hdr.1 c
  induction c with
  | skip => intro t m e t' m' h; simp [codeD] at h; obtain ⟨rfl, rfl, rfl⟩ := h; intro ι w a Q hr ht hf hQ; exact wp_skip (hQ a w ⟨ι, ht, hr, Stp.refl _ _ _, rfl⟩)
  | label l => intro t m e t' m' h; simp [codeD] at h; obtain ⟨rfl, rfl, rfl⟩ := h; intro ι w a Q hr ht hf hQ; exact wp_label (hQ a w ⟨ι, ht, hr, Stp.refl _ _ _, rfl⟩)
  | region id ops draw =>
    intro t m e t' m' h
    simp only [codeD] at h
    split at h <;> simp at h
    rename_i t₁ m₁ h1
    obtain ⟨rfl, rfl, rfl⟩ := h
    intro ι w a Q hr ht hf hQ
    cases draw
    · exact region_wp hK hcf h1 hr ht hf hQ
    · exact hdr.2 ops id ι t m w a _ _ Q h1 hr ht hf hQ
  | seq x y ihx ihy =>
    intro t m e t' m' h
    simp only [codeD] at h
    intro ι w a Q hr ht hf hQ
    split at h
    · rename_i t₁ m₁ h1
      have s1 := hsz x _ _ _ _ _ h1
      have s2 := hsz y _ _ _ _ _ h
      refine wp_seq (ihx _ _ _ _ _ h1 ι w a _ hr ht (hf.sub (Nat.le_refl _) s2) fun a₁ w₁ ha => ?_)
      obtain ⟨ι₁, g1, g2, g3, g4⟩ := ha
      simp only [Ex.to, Exit.then]
      exact ihy _ _ _ _ _ h ι₁ w₁ a₁ Q g2 g1 ((hf.sub s1 (Nat.le_refl _)).stp g3 (Nat.le_refl _)) fun a₂ w₂ ha₂ => hQ a₂ w₂ (After.trans g3 g4 ha₂)
    · rename_i hne
      refine wp_seq (ihx _ _ _ _ _ h ι w a _ hr ht hf fun a₁ w₁ ha => ?_)
      have := hQ a₁ w₁ ha
      cases e with
      | normal => exact absurd h (hne _ _)
      | exit id => exact this
      | ret => exact this
  | cond c x y ihx ihy =>
    intro t m e t' m' h
    simp only [codeD] at h
    intro ι w a Q hr ht hf hQ
    split at h <;> try (simp at h; done)
    · rename_i hc
      exact wp_cond_true (ev_rel hr ht hc).inv_bool (ihx _ _ _ _ _ h ι w a Q hr ht hf hQ)
    · rename_i hc
      exact wp_cond_false (ev_rel hr ht hc).inv_bool (ihy _ _ _ _ _ h ι w a Q hr ht hf hQ)
  | block id c ih =>
    intro t m e t' m' h
    simp only [codeD] at h
    intro ι w a Q hr ht hf hQ
    split at h
    · rename_i id' t₁ m₁ h1
      split at h <;> simp at h
      · rename_i he
        obtain ⟨rfl, rfl, rfl⟩ := h
        refine wp_block (ih _ _ _ _ _ h1 ι w a _ hr ht hf fun a₁ w₁ ha => ?_)
        simp only [Ex.to, Exit.inBlock, he, if_true]
        exact hQ a₁ w₁ ha
      · rename_i he
        obtain ⟨rfl, rfl, rfl⟩ := h
        refine wp_block (ih _ _ _ _ _ h1 ι w a _ hr ht hf fun a₁ w₁ ha => ?_)
        simp only [Ex.to, Exit.inBlock, he, if_false]
        exact hQ a₁ w₁ ha
    · rename_i hne
      refine wp_block (ih _ _ _ _ _ h ι w a _ hr ht hf fun a₁ w₁ ha => ?_)
      have := hQ a₁ w₁ ha
      cases e with
      | normal => exact this
      | exit id => exact absurd h (hne _ _ _)
      | ret => exact this
  | loop c ih =>
    intro t m e t' m' h
    simp only [codeD] at h
    intro ι w a Q hr ht hf hQ
    refine wp_loop_rounds k ?_
    have key : ∀ (k' : Nat) (t : Tmps) (m : Mem) (ι : Ren) (w : World) (a : Act) (Q : Exit → Act → World → Prop), loopD (codeD P K G cf dr n k c) k' t m = some (e, t', m') → Rel B0 G ι m w → TRel ι n t a → Fresh ι m.size m'.size →
        (∀ a' w', After B0 G n ι m w a t' m' a' w' → Q e.to a' w') → e.to ≠ .normal → Code.rounds P c Q k' a w := by
      intro k'
      induction k' with
      | zero => intro t m ι w a Q h; simp [loopD] at h
      | succ k' ih2 =>
        intro t m ι w a Q h hr ht hf hQ hne'
        simp only [loopD] at h
        rw [rounds_succ]
        split at h
        · rename_i t₁ m₁ h1
          have s1 := hsz c _ _ _ _ _ h1
          have s2 := loopD_size (fun t m e t' m' h => hsz c t m e t' m' h) _ _ _ _ _ _ h
          refine ih _ _ _ _ _ h1 ι w a _ hr ht (hf.sub (Nat.le_refl _) s2) fun a₁ w₁ ha => ?_
          obtain ⟨ι₁, g1, g2, g3, g4⟩ := ha
          simp only [Ex.to, Exit.then]
          exact ih2 t₁ m₁ ι₁ w₁ a₁ Q h g2 g1 ((hf.sub s1 (Nat.le_refl _)).stp g3 (Nat.le_refl _)) (fun a₂ w₂ ha₂ => hQ a₂ w₂ (After.trans g3 g4 ha₂)) hne'
        · rename_i hne
          refine ih _ _ _ _ _ h ι w a _ hr ht hf fun a₁ w₁ ha => ?_
          have := hQ a₁ w₁ ha
          cases e with
          | normal => exact absurd h (hne _ _)
          | exit id => exact this
          | ret => exact this
    have hne' : e.to ≠ .normal := by
      have : ∀ (k' : Nat) (t : Tmps) (m : Mem), loopD (codeD P K G cf dr n k c) k' t m = some (e, t', m') → e.to ≠ .normal := by
        intro k'
        induction k' with
        | zero => intro t m h; simp [loopD] at h
        | succ k' ih2 =>
          intro t m h
          simp only [loopD] at h
          split at h
          · exact ih2 _ _ h
          · rename_i hne
            cases e with
            | normal => exact absurd h (hne _ _)
            | exit id => simp [Ex.to]
            | ret => simp [Ex.to]
      exact this k t m h
    exact key k t m ι w a Q h hr ht hf hQ hne'
  | exit id => intro t m e t' m' h; simp [codeD] at h; obtain ⟨rfl, rfl, rfl⟩ := h; intro ι w a Q hr ht hf hQ; exact wp_exit (hQ a w ⟨ι, ht, hr, Stp.refl _ _ _, rfl⟩)
  | ret => intro t m e t' m' h; simp [codeD] at h; obtain ⟨rfl, rfl, rfl⟩ := h; intro ι w a Q hr ht hf hQ; exact wp_ret (hQ a w ⟨ι, ht, hr, Stp.refl _ _ _, rfl⟩)
  | rangeFunc => intro t m e t' m' h; simp [codeD] at h
  | scope c ih =>
    intro t m e t' m' h
    simp only [codeD] at h
    intro ι w a Q hr ht hf hQ
    refine wp_scope_straight (ih _ _ _ _ _ h ι w a _ hr ht hf fun a₁ w₁ ha => ?_)
    have := hQ a₁ w₁ ha
    cases e <;> exact this
  | goto => intro t m e t' m' h; simp [codeD] at h
  | refuse => intro t m e t' m' h; simp [codeD] at h
end
end Go.DI
/-
  DiGrow: what a run of the interpreter does to its own memory, whatever the world is: numbers are given in order, none comes back.
-/
namespace Go.DI
section
variable {P : Program} {K : TypeId → Bool} {G B0 n : Nat} {ι : Ren} {m : Mem} {w : World} {t : Tmps} {a : Act}

def Mem.top (m : Mem) : Prop := ∀ b, m.size ≤ b → m.get b = .none

structure Grw (m m' : Mem) : Prop where
  size : m.size ≤ m'.size
  top : m.top → m'.top
  live : ∀ b, b < m.size → (m'.get b).live → (m.get b).live
  own : ∀ b, b < m.size → (m'.get b).own = true → (m.get b).own = true

theorem Grw.refl (m : Mem) : Grw m m := ⟨Nat.le_refl _, id, fun _ _ => id, fun _ _ => id⟩
theorem Grw.trans {m m₁ m₂ : Mem} (h : Grw m m₁) (k : Grw m₁ m₂) : Grw m m₂ :=
  ⟨Nat.le_trans h.size k.size, fun q => k.top (h.top q), fun b hb q => h.live b hb (k.live b (Nat.lt_of_lt_of_le hb h.size) q), fun b hb q => h.own b hb (k.own b (Nat.lt_of_lt_of_le hb h.size) q)⟩

theorem Grw.set {b : Nat} {x : Blk} (hl : (m.get b).live) (h1 : x.own = true → (m.get b).own = true) : Grw m (m.set b x) := by
  refine ⟨Nat.le_refl _, fun q c hc => ?_, fun c hc q => ?_, fun c hc q => ?_⟩
  · rw [Mem.get_set]
    split
    · rename_i e; subst e
      rw [q c hc] at hl; exact hl.elim
    · exact q c hc
  · rw [Mem.get_set] at q
    split at q
    · rename_i e; subst e; exact hl
    · exact q
  · rw [Mem.get_set] at q
    split at q
    · rename_i e; subst e; exact h1 q
    · exact q

theorem Grw.push (m : Mem) (x : Blk) : Grw m (m.push x) := by
  refine ⟨by simp, fun q c hc => ?_, fun c hc q => ?_, fun c hc q => ?_⟩
  · simp at hc; rw [Mem.get_push_ne _ (by omega)]; exact q c (by omega)
  · rw [Mem.get_push_ne _ (by omega)] at q; exact q
  · rw [Mem.get_push_ne _ (by omega)] at q; exact q

theorem storeC_grw {b off : Nat} {vs : List Value} {m' : Mem} (h : storeC m b off vs = some m') : Grw m m' := by
  unfold storeC at h
  split at h <;> try (simp at h; done)
  rename_i hg
  split at h <;> try (simp at h; done)
  split at h <;> simp at h
  subst h
  exact Grw.set (by rw [hg]; trivial) (by rw [hg]; simp [Blk.own])
theorem storeD_grw {s : TypeId} {x v : Value} {m' : Mem} (h : storeD P m s v x = some m') : Grw m m' := by
  unfold storeD at h
  split at h <;> try (simp at h; done)
  split at h <;> try (simp at h; done)
  split at h <;> try (simp at h; done)
  exact storeC_grw h
theorem mapUpdateD_grw {s : TypeId} {x k v : Value} {m' : Mem} (h : mapUpdateD P K m s x k v = some m') : Grw m m' := by
  unfold mapUpdateD at h
  split at h <;> try (simp at h; done)
  split at h <;> try (simp at h; done)
  split at h <;> try (simp at h; done)
  rename_i hg
  split at h <;> try (simp at h; done)
  split at h <;> try (simp at h; done)
  · split at h <;> try (simp at h; done)
    split at h <;> simp at h
    subst h; exact Grw.set (by rw [hg]; trivial) (by rw [hg]; simp [Blk.own])
  · simp at h; subst h; exact Grw.set (by rw [hg]; trivial) (by rw [hg]; simp [Blk.own])
theorem appendD_grw {tS tX : TypeId} {s x v : Value} {m' : Mem} (h : appendD P m tS tX s x = some (v, m')) : Grw m m' := by
  unfold appendD at h
  split at h <;> try (simp at h; done)
  split at h <;> try (simp at h; done)
  split at h <;> try (simp at h; done)
  split at h <;> try (simp at h; done)
  split at h
  · split at h
    · split at h <;> simp at h
      rw [h.2]; exact Grw.refl _
    · split at h
      · simp at h; rw [h.2]; exact Grw.refl _
      · split at h <;> simp at h
        rename_i hst
        rw [← h.2]; exact storeC_grw (storeR_some hst)
  · split at h <;> try (simp at h; done)
    split at h <;> try (simp at h; done)
    split at h <;> try (simp at h; done)
    split at h
    · rename_i b off e'
      split at h <;> try (simp at h; done)
      split at h <;> simp at h
      rename_i cb hg
      rw [← h.2]
      refine ⟨by simp, fun q c hc => ?_, fun c hc q => ?_, fun c hc q => ?_⟩
      · simp at hc
        rw [Mem.get_set]
        split
        · rfl
        · rw [Mem.get_push_ne _ (by omega)]; exact q c (by omega)
      · rw [Mem.get_set] at q
        split at q
        · exact q.elim
        · rw [Mem.get_push_ne _ (by omega)] at q; exact q
      · rw [Mem.get_set] at q
        split at q
        · simp [Blk.own] at q
        · rw [Mem.get_push_ne _ (by omega)] at q; exact q
    · simp at h; rw [← h.2]; exact Grw.push _ _
theorem copyD_grw {tD : TypeId} {s x v : Value} {m' : Mem} (h : copyD P m tD s x = some (v, m')) : Grw m m' := by
  unfold copyD at h
  split at h <;> try (simp at h; done)
  split at h <;> try (simp at h; done)
  split at h <;> try (simp at h; done)
  split at h <;> try (simp at h; done)
  split at h
  · simp at h; rw [h.2]; exact Grw.refl _
  · split at h
    · simp at h; rw [h.2]; exact Grw.refl _
    · split at h <;> simp at h
      rename_i hst
      rw [← h.2]; exact storeC_grw hst
theorem convD_grw {s d : TypeId} {x v : Value} {m' : Mem} (h : convD P m s d x = some (v, m')) : Grw m m' := by
  unfold convD at h
  split at h <;> try (simp at h; done)
  · split at h <;> simp at h
    rw [h.2]; exact Grw.refl _
  · split at h <;> simp at h
    rw [h.2]; exact Grw.refl _
  · split at h <;> simp at h
    rw [← h.2]; exact Grw.push _ _
  · split at h <;> try (simp at h; done)
    split at h <;> try (simp at h; done)
    · simp at h; rw [h.2]; exact Grw.refl _
    · split at h <;> try (simp at h; done)
      split at h <;> simp at h
      rw [h.2]; exact Grw.refl _

def CfGrw (cf : CallF) : Prop := ∀ f args m v m', cf f args m = some (v, m') → Grw m m'

theorem heavyD_grw {cf : CallF} (hcf : CfGrw cf) {o : Op} {v : Value} {m' : Mem} (h : heavyD P K G cf t m o = some (v, m')) : Grw m m' := by
  unfold heavyD at h
  split at h <;> try (simp at h; done)
  · split at h <;> try (simp at h; done)
    split at h <;> simp at h
    rename_i hs
    rw [← h.2]; exact storeD_grw hs
  · split at h <;> try (simp at h; done)
    split at h <;> simp at h
    rename_i hs
    rw [← h.2]; exact mapUpdateD_grw hs
  · split at h <;> try (simp at h; done)
    split at h <;> simp at h
    rename_i hs
    rw [← h.2]; exact mapUpdateD_grw hs
  · split at h <;> try (simp at h; done)
    exact convD_grw h
  · split at h <;> try (simp at h; done)
    split at h <;> try (simp at h; done)
    exact appendD_grw h
  · split at h <;> try (simp at h; done)
    split at h <;> try (simp at h; done)
    exact copyD_grw h
  · split at h <;> try (simp at h; done)
    exact hcf _ _ _ _ _ h

theorem opD_grw {cf : CallF} (hcf : CfGrw cf) {o : Op} {v : Value} {m' : Mem} (h : opD P K G cf t m o = some (v, m')) : Grw m m' := by
  unfold opD at h
  split at h
  · split at h <;> simp at h
    rw [h.2]; exact Grw.refl _
  · split at h <;> simp at h
    rw [← h.2]; exact Grw.push _ _
  · exact heavyD_grw hcf h

theorem opsD_grw {cf : CallF} (hcf : CfGrw cf) {ops : List Oper} : ∀ (l : List Oper) (t : Tmps) (m : Mem) (t' : Tmps) (m' : Mem), opsD P K G cf n ops l t m = some (t', m') → Grw m m'
  | [], t, m, t', m', h => by simp [opsD] at h; rw [h.2]; exact Grw.refl _
  | o :: l, t, m, t', m', h => by
    simp only [opsD] at h
    split at h <;> try (simp at h; done)
    split at h
    · split at h <;> try (simp at h; done)
      rename_i v m₁ hv
      exact (opD_grw hcf hv).trans (opsD_grw hcf l _ _ _ _ h)
    · exact opsD_grw hcf l _ _ _ _ h

theorem loopD_grw {body : Tmps → Mem → Option (Ex × Tmps × Mem)} (hb : ∀ t m e t' m', body t m = some (e, t', m') → Grw m m') : ∀ (k : Nat) (t : Tmps) (m : Mem) (e : Ex) (t' : Tmps) (m' : Mem), loopD body k t m = some (e, t', m') → Grw m m'
  | 0, t, m, e, t', m', h => by simp [loopD] at h
  | k + 1, t, m, e, t', m', h => by
    simp only [loopD] at h
    split at h
    · rename_i t₁ m₁ h1
      exact (hb _ _ _ _ _ h1).trans (loopD_grw hb k _ _ _ _ _ h)
    · exact hb _ _ _ _ _ h

theorem codeD_grw {cf : CallF} (hcf : CfGrw cf) {dr : List Oper → Tmps → Mem → Option (Tmps × Mem)} (hdr : ∀ ops t m t' m', dr ops t m = some (t', m') → Grw m m') {k : Nat} :
    ∀ (c : Code) (t : Tmps) (m : Mem) (e : Ex) (t' : Tmps) (m' : Mem), codeD P K G cf dr n k c t m = some (e, t', m') → Grw m m' := by
  intro c
  induction c with
  | skip => intro t m e t' m' h; simp [codeD] at h; rw [h.2.2]; exact Grw.refl _
  | label l => intro t m e t' m' h; simp [codeD] at h; rw [h.2.2]; exact Grw.refl _
  | region id ops draw =>
    intro t m e t' m' h
    simp only [codeD] at h
    split at h <;> simp at h
    rename_i t₁ m₁ h1
    rw [← h.2.2]
    cases draw
    · exact opsD_grw hcf _ _ _ _ _ h1
    · exact hdr _ _ _ _ _ h1
  | seq x y ihx ihy =>
    intro t m e t' m' h
    simp only [codeD] at h
    split at h
    · rename_i t₁ m₁ h1
      exact (ihx _ _ _ _ _ h1).trans (ihy _ _ _ _ _ h)
    · exact ihx _ _ _ _ _ h
  | cond c x y ihx ihy =>
    intro t m e t' m' h
    simp only [codeD] at h
    split at h <;> try (simp at h; done)
    · exact ihx _ _ _ _ _ h
    · exact ihy _ _ _ _ _ h
  | block id c ih =>
    intro t m e t' m' h
    simp only [codeD] at h
    split at h
    · rename_i id' t₁ m₁ h1
      split at h <;> simp at h <;> rw [← h.2.2] <;> exact ih _ _ _ _ _ h1
    · exact ih _ _ _ _ _ h
  | loop c ih => intro t m e t' m' h; simp only [codeD] at h; exact loopD_grw (fun t m e t' m' h => ih t m e t' m' h) _ _ _ _ _ _ h
  | exit id => intro t m e t' m' h; simp [codeD] at h; rw [h.2.2]; exact Grw.refl _
  | ret => intro t m e t' m' h; simp [codeD] at h; rw [h.2.2]; exact Grw.refl _
  | rangeFunc => intro t m e t' m' h; simp [codeD] at h
  | scope c ih => intro t m e t' m' h; simp only [codeD] at h; exact ih _ _ _ _ _ h
  | goto => intro t m e t' m' h; simp [codeD] at h
  | refuse => intro t m e t' m' h; simp [codeD] at h
end
end Go.DI
/-
  DiDef2: regions that draw their order; calls.
-/
namespace Go.DI
section
variable (P : Program) (K : TypeId → Bool) (G : Nat)

/-! ### a region that draws its order -/
def operL : Op → List Operand
  | .move x | .assign x => [x]
  | .pick c a b => [c, a, b]
  | .alloc _ => []
  | .box _ x => [x]
  | .build _ ps => ps.toList.map (·.2)
  | .buildSlice _ _ ps => ps.toList.map (·.2)
  | .insert _ m k v => [m, k, v]
  | .load _ a => [a]
  | .store _ a v => [a, v]
  | .nilCheck x => [x]
  | .binOp _ _ x y _ => [x, y]
  | .unOp _ _ x => [x]
  | .convert _ _ x => [x]
  | .makeFunc _ f c => f.toList ++ c.toList
  | .makeMap _ r => r.toList
  | .makeSlice _ l c => [l, c]
  | .slice _ x l h m => x :: (l.toList ++ (h.toList ++ m.toList))
  | .fieldAddr _ x _ => [x]
  | .field _ x _ => [x]
  | .indexAddr _ x i => [x, i]
  | .index _ x i => [x, i]
  | .lookup _ x k _ => [x, k]
  | .mapUpdate _ m k v => [m, k, v]
  | .extract x _ => [x]
  | .call { callee := .value f, args, argTypes := _ } => f :: args.toList
  | .call { callee := _, args, argTypes := _ } => args.toList
  | _ => []

def looksL (ops : List Oper) (o : Oper) : List Tmp :=
  ((operL o.op).filterMap fun | .tmp t => some t | _ => none) ++
  (match o.guard with
   | some (g, _) => match ops[g]? with
     | some u => u.dst.toList
     | none => []
   | none => [])

def maskD (acc : List Nat) : List Edge → Nat
  | [] => 0
  | e :: l => cond (Region.binds .any e) (2 ^ e.on ||| (acc.getD e.on 0 ||| maskD acc l)) (maskD acc l)

def tabD : List Oper → List Nat → List Nat
  | [], acc => acc
  | o :: l, acc => tabD l (acc ++ [maskD acc o.after.toList])

/-- Does operation j wait for operation i? -/
def befB (T : List Nat) (i j : Nat) : Bool := (T.getD j 0).testBit i

def klassAt (ops : List Oper) (i : Nat) : Nat := match ops[i]? with | some o => klass o.op | none => 0

def pairB (ops : List Oper) (T : List Nat) (i j : Nat) : Bool :=
  match ops[i]?, ops[j]? with
  | some x, some y =>
    (match x.dst with
     | some d => Nat.beq i j || !((looksL ops y).contains d || y.dst == some d) || cond (Nat.blt i j) (befB T i j) (befB T j i)
     | none => true) &&
    (!(Nat.beq (klass x.op) 2 && Nat.beq (klass y.op) 2 && Nat.blt i j) || befB T i j)
  | _, _ => false

def edgesB : List Oper → Nat → Bool
  | [], _ => true
  | o :: l, j => o.after.toList.all (fun e => !(Region.binds .any e) || Nat.blt e.on j) && edgesB l (j + 1)

def statB (ops : List Oper) (T : List Nat) : Bool :=
  edgesB ops 0 && (List.range ops.length).all fun i => (List.range ops.length).all fun j => pairB ops T i j

def readsB : Op → Bool
  | .load .. | .lookup .. | .convert .. => true
  | .call { callee := .builtin .len, .. } => true
  | _ => false

/-- May operation i be done where the next heavy one is s (s = N: there is none left)? -/
def feasB (ops : List Oper) (T : List Nat) (i s : Nat) : Bool :=
  (Nat.beq s ops.length || (Nat.beq (klassAt ops s) 2 && !(befB T s i))) && (List.range s).all fun h => !(Nat.beq (klassAt ops h) 2) || !(befB T i h)

/-- Is s the next heavy operation in the text's order? -/
def nextB (ops : List Oper) (i s : Nat) : Bool := Nat.ble i s && (List.range s).all fun h => !(Nat.beq (klassAt ops h) 2) || Nat.blt h i

def need1 (ops : List Oper) (T : List Nat) : List (Nat × Nat) :=
  (List.range ops.length).flatMap fun i => match ops[i]? with
    | some o => cond (Nat.beq (klass o.op) 0 && readsB o.op) ((List.range (ops.length + 1)).filterMap fun s => cond (feasB ops T i s && !(nextB ops i s)) (some (i, s)) none) []
    | none => []

def need2 (ops : List Oper) (T : List Nat) : List (Nat × Nat) :=
  (List.range ops.length).flatMap fun i => cond (Nat.beq (klassAt ops i) 1) ((List.range ops.length).filterMap fun h => cond (Nat.blt i h && Nat.beq (klassAt ops h) 2 && !(befB T i h)) (some (i, h)) none) []

structure Rec where
  want : Bool
  v : Value
  t : Tmps
  m : Mem

def recD (cf : FuncId → List Value → Mem → Option (Value × Mem)) (n : Nat) (ops : List Oper) : List Oper → Tmps → Mem → Option (List Rec × Tmps × Mem)
  | [], t, m => some ([], t, m)
  | o :: l, t, m => if dstOk n o.dst = true then
      (if Region.wanted o (yieldD ops t) = true then
        (match opD P K G cf t m o.op with
        | some (v, m') => match recD cf n ops l (putD t o.dst v) m' with
          | some (rs, t', m'') => some (⟨true, v, t, m⟩ :: rs, t', m'')
          | none => none
        | none => none)
      else match recD cf n ops l (putD t o.dst undef) m with
        | some (rs, t', m'') => some (⟨false, undef, t, m⟩ :: rs, t', m'')
        | none => none) else none

def tAt (rs : List Rec) (t' : Tmps) (i : Nat) : Tmps := match rs[i]? with | some r => r.t | none => t'
def mAt (rs : List Rec) (m' : Mem) (i : Nat) : Mem := match rs[i]? with | some r => r.m | none => m'

def veqL (f : Value → Value → Bool) : List Value → List Value → Bool
  | [], [] => true
  | x :: l, y :: l' => f x y && veqL f l l'
  | _, _ => false

/-- Surely the same value. -/
def veq : Nat → Value → Value → Bool
  | 0, _, _ => false
  | d + 1, x, y =>
    match x, y with
    | .bool a, .bool b => a == b
    | .int k a, .int k' b => decide (k = k') && decide (a = b)
    | .string a, .string b => a.data.toList == b.data.toList
    | .pointer a, .pointer b => decide (a = b)
    | .slice a n c, .slice a' n' c' => decide (a = a') && Nat.beq n n' && Nat.beq c c'
    | .map a, .map b => decide (a = b)
    | .func f a b, .func f' a' b' => decide (f = f') && veqL (veq d) a.toList a'.toList && veqL (veq d) b.toList b'.toList
    | .nilFunc, .nilFunc => true
    | .nilIface, .nilIface => true
    | .agg a, .agg b => veqL (veq d) a.toList b.toList
    | .tuple a, .tuple b => veqL (veq d) a.toList b.toList
    | _, _ => false

def blkEq : Blk → Blk → Bool
  | .cells o c, .cells o' c' => (o == o') && veqL (veq 8) c c'
  | .map o [] k, .map o' [] k' => (o == o') && Nat.beq k k'
  | _, _ => false

def chk1 (ops : List Oper) (rs : List Rec) (m' : Mem) (x : Nat × Nat) : Bool :=
  match rs[x.1]?, ops[x.1]? with
  | some r, some o => !r.want || (match quietD P K G r.t (mAt rs m' x.2) o.op with
    | some v => veq 8 v r.v
    | none => false)
  | _, _ => false

def chk2 (rs : List Rec) (m' : Mem) (x : Nat × Nat) : Bool :=
  match rs[x.1]? with
  | some r => !r.want || blkEq ((mAt rs m' (x.2 + 1)).get r.m.size) ((mAt rs m' (x.1 + 1)).get r.m.size)
  | none => false

def drawD (cf : FuncId → List Value → Mem → Option (Value × Mem)) (n : Nat) (ops : List Oper) (t : Tmps) (m : Mem) : Option (Tmps × Mem) :=
  if statB ops (tabD ops []) = true then
    match recD P K G cf n ops ops t m with
    | some (rs, t', m') => if (need1 ops (tabD ops [])).all (chk1 P K G ops rs m') = true then (if (need2 ops (tabD ops [])).all (chk2 rs m') = true then some (t', m') else none) else none
    | none => none
  else none

def callD : Nat → FuncId → List Value → Mem → Option (Value × Mem)
  | 0, _, _, _ => none
  | k + 1, f, args, m => match P.funcs[f]? with
    | some fn => match fn.body with
      | some c => match codeD P K G (callD k) (drawD P K G (callD k) (max args.length fn.ntmps)) (max args.length fn.ntmps) k c (initT 0 args) m with
        | some (.normal, t, m') => match resD P t m' fn.results.toList with
          | some vs => some (resV vs, m')
          | none => none
        | some (.ret, t, m') => match resD P t m' fn.results.toList with
          | some vs => some (resV vs, m')
          | none => none
        | _ => none
      | none => none
    | none => none
end
end Go.DI
/-
  DiDraw1: small laws for regions that draw their order.
-/
namespace Go.DI
section
variable {P : Program} {K : TypeId → Bool} {G B0 n : Nat} {ι : Ren} {m : Mem} {w : World} {t u : Tmps} {a : Act}

theorem ev_congr {x : Operand} (h : ∀ d, x = .tmp d → t.at d = u.at d) : ev G t x = ev G u x := by
  cases x with
  | tmp d => simp only [ev]; rw [h d rfl]
  | const c => rfl
  | global g => rfl
  | func f => rfl

theorem evs_congr : ∀ {l : List Operand}, (∀ x ∈ l, ev G t x = ev G u x) → evs G t l = evs G u l
  | [], _ => rfl
  | x :: l, h => by
    simp only [evs]
    rw [h x (by simp), evs_congr (l := l) fun y hy => h y (by simp [hy])]

theorem evParts_congr : ∀ {l : List (Nat × Operand)}, (∀ x ∈ l.map (·.2), ev G t x = ev G u x) → evParts G t l = evParts G u l
  | [], _ => rfl
  | (i, x) :: l, h => by
    simp only [evParts]
    rw [h x (by simp), evParts_congr (l := l) fun y hy => h y (by simp at hy ⊢; exact .inr hy)]

theorem optEv_congr {x : Option Operand} (h : ∀ y ∈ x.toList, ev G t y = ev G u y) : optEv G t x = optEv G u x := by
  cases x with
  | none => rfl
  | some x => simp only [optEv]; rw [h x (by simp)]

theorem quietD_congr {o : Op} (h : ∀ x ∈ operL o, ev G t x = ev G u x) : quietD P K G t m o = quietD P K G u m o := by
  cases o <;> simp only [operL] at h <;> simp only [quietD]
  case move x => exact h x (by simp)
  case assign x => exact h x (by simp)
  case pick c x y => rw [h c (by simp), h x (by simp), h y (by simp)]
  case load ty x => rw [h x (by simp)]
  case nilCheck x => rw [h x (by simp)]
  case binOp op ty x y yt => rw [h x (by simp), h y (by simp)]
  case unOp op ty x => rw [h x (by simp)]
  case makeFunc fn f c =>
    cases fn <;> simp only [quietD]
    rw [evs_congr fun x hx => h x (by simp [Array.mem_toList_iff.1 hx]), evs_congr (l := c.toList) fun x hx => h x (by simp [Array.mem_toList_iff.1 hx])]
  case fieldAddr s x f => rw [h x (by simp)]
  case field s x f => rw [h x (by simp)]
  case indexAddr s x i => rw [h x (by simp), h i (by simp)]
  case index s x i => rw [h x (by simp), h i (by simp)]
  case lookup s x k ok => rw [h x (by simp), h k (by simp)]
  case extract x i => rw [h x (by simp)]
  case convert s d x => rw [h x (by simp)]
  case build ty ps => rw [evParts_congr h]
  case slice ty x lo hi mx =>
    rw [h x (by simp), optEv_congr (x := lo) fun y hy => h y (by simp [hy]), optEv_congr (x := hi) fun y hy => h y (by simp [hy]), optEv_congr (x := mx) fun y hy => h y (by simp [hy])]
  case call c =>
    obtain ⟨callee, args, tys⟩ := c
    cases callee with
    | value f => simp only [quietD]
    | invoke r s => simp only [quietD]
    | builtin b =>
      cases b <;> simp only [quietD]
      case len =>
        cases hl : args.toList with
        | nil => rfl
        | cons x l =>
          have := h x (by simp [hl])
          cases l with
          | nil => cases tys.toList with
            | nil => rfl
            | cons y l' => cases l' with
              | nil => simp only [this]
              | cons z l'' => rfl
          | cons y l' => rfl
      case min => rw [evs_congr h]
      case max => rw [evs_congr h]

theorem quietD_pure {o : Op} (h : readsB o = false) (m₂ : Mem) : quietD P K G t m o = quietD P K G t m₂ o := by
  cases o <;> simp only [readsB] at h <;> simp only [quietD] <;> try (simp at h; done)
  case makeFunc fn f c => cases fn <;> simp only [quietD]
  case call c =>
    obtain ⟨callee, args, tys⟩ := c
    cases callee with
    | value f => simp only [quietD]
    | invoke r s => simp only [quietD]
    | builtin b => cases b <;> simp only [readsB] at h <;> simp only [quietD] <;> simp at h

theorem quietD_ext {m₂ : Mem} (ht : m.top) (hg : ∀ b, b < m.size → m₂.get b = m.get b) {o : Op} {v : Value} (h : quietD P K G t m o = some v) : quietD P K G t m₂ o = some v := by
  have hne : ∀ b, m.get b ≠ .none → m₂.get b = m.get b := fun b hb => by
    rcases Nat.lt_or_ge b m.size with h1 | h1
    · exact hg b h1
    · exact absurd (ht b h1) hb
  have hload : ∀ (ty : TypeId) (x v : Value), loadD P m ty x = some v → loadD P m₂ ty x = some v := by
    intro ty x v h
    unfold loadD at h ⊢
    split at h <;> try (simp at h; done)
    rename_i b off
    split at h <;> try (simp at h; done)
    · split at h <;> try (simp at h; done)
      rename_i k _
      have : ∀ c, loadC m b off k = some c → loadC m₂ b off k = some c := by
        intro c hc
        unfold loadC at hc ⊢
        rw [hne b (by intro e; rw [e] at hc; simp at hc)]
        exact hc
      split at h <;> try (simp at h; done)
      rename_i c hc
      simp only [this c hc]
      exact h
    · rename_i hb
      rw [hne b (by intro e; rw [e] at h; simp at h)]
      exact h
  have hent : ∀ (x : Value) (es : List MapEntry), entriesD m x = some es → entriesD m₂ x = some es := by
    intro x es h
    unfold entriesD at h ⊢
    split at h <;> try (simp at h; done)
    · exact h
    · rename_i r
      rw [hne r (by intro e; rw [e] at h; simp at h)]
      exact h
  cases o
  case load ty x =>
    simp only [quietD] at h ⊢
    split at h <;> try (simp at h; done)
    rename_i u _
    cases hl : loadD P m ty u with
    | none => rw [hl] at h; simp [shD] at h
    | some z => rw [hload _ _ _ hl]; rw [hl] at h; exact h
  case lookup s x k ok =>
    simp only [quietD] at h ⊢
    split at h <;> try (simp at h; done)
    unfold lookupD at h ⊢
    split at h <;> try (simp at h; done)
    split at h <;> try (simp at h; done)
    rename_i es hes
    simp only [hent _ _ hes]
    exact h
  case convert s d x =>
    simp only [quietD] at h ⊢
    split at h <;> try (simp at h; done)
    have hlc : ∀ b off k c, loadC m b off k = some c → loadC m₂ b off k = some c := by
      intro b off k c hc
      unfold loadC at hc ⊢
      rw [hne b (by intro e; rw [e] at hc; simp at hc)]
      exact hc
    unfold convQ at h ⊢
    split at h <;> try (simp at h; done)
    · exact h
    · exact h
    · split at h <;> try (simp at h; done)
      split at h <;> try (simp at h; done)
      · exact h
      · split at h <;> try (simp at h; done)
        rename_i c hc
        simp only [hlc _ _ _ _ hc]
        exact h
  case call c =>
    obtain ⟨callee, args, tys⟩ := c
    cases callee with
    | value f => simp only [quietD] at h; simp at h
    | invoke r s => simp only [quietD] at h; simp at h
    | builtin b =>
      cases b <;> simp only [quietD] at h ⊢ <;> try exact h
      case len =>
        split at h <;> try (simp at h; done)
        split at h <;> try (simp at h; done)
        unfold lenD at h ⊢
        split at h <;> try (simp at h; done)
        · exact h
        · exact h
        · exact h
        · split at h <;> try (simp at h; done)
          · exact h
          · rename_i r _
            rw [hne r (by intro e; rw [e] at h; simp at h)]
            exact h
  all_goals (rw [quietD_pure (m₂ := m) rfl]; exact h)

theorem allocD_congr {o : Op} (h : ∀ x ∈ operL o, ev G t x = ev G u x) : allocD P G t o = allocD P G u o := by
  cases o <;> simp only [operL] at h <;> simp only [allocD]
  case box e x => rw [h x (by simp)]
  case buildSlice ty k ps => rw [evParts_congr h]
  case makeSlice ty l c => rw [h l (by simp), h c (by simp)]
  case makeMap ty r =>
    cases r with
    | none => rfl
    | some x => simp only; rw [h x (by simp)]

theorem heavyD_congr {cf : CallF} {o : Op} (h : ∀ x ∈ operL o, ev G t x = ev G u x) : heavyD P K G cf t m o = heavyD P K G cf u m o := by
  cases o <;> simp only [operL] at h <;> simp only [heavyD]
  case store ty x y => rw [h x (by simp), h y (by simp)]
  case mapUpdate ty x k y => rw [h x (by simp), h k (by simp), h y (by simp)]
  case insert ty x k y => rw [h x (by simp), h k (by simp), h y (by simp)]
  case convert s d x => rw [h x (by simp)]
  case call c =>
    obtain ⟨callee, args, tys⟩ := c
    cases callee with
    | value f =>
      simp only [operL] at h
      simp only [heavyD]
      rw [h f (by simp), evs_congr fun x hx => h x (by simp [Array.mem_toList_iff.1 hx])]
    | invoke r s => simp only [heavyD]
    | builtin b =>
      cases b <;> simp only [heavyD]
      all_goals
        cases hl : args.toList with
        | nil => rfl
        | cons x l =>
          have hx := h x (by simp only [operL, hl]; simp)
          cases l with
          | nil => rfl
          | cons y l =>
            have hy := h y (by simp only [operL, hl]; simp)
            cases l <;> cases hT : tys.toList with
            | nil => rfl
            | cons a b => cases b with
              | nil => rfl
              | cons c d => cases d <;> simp only [hx, hy]

theorem Rel.restrict (hr : Rel B0 G ι m w) {m₂ : Mem} (ht : m₂.top) (hs : m₂.size ≤ m.size) (hg : ∀ b, b < m₂.size → m.get b = m₂.get b) : Rel B0 G ι m₂ w := by
  refine ⟨fun b L hb hL => ?_, fun b₁ b₂ L₁ L₂ h1 h2 h3 h4 l1 l2 g0 e => ?_, hr.floor, hr.glob, ht⟩
  · rw [← hg b hb]; exact hr.blk b L (by omega) hL
  · rw [← hg b₁ h1] at l1
    rw [← hg b₂ h2] at l2
    exact hr.inj b₁ b₂ L₁ L₂ (by omega) (by omega) h3 h4 l1 l2 g0 e

/-! ### the order of waiting -/
theorem maskD_bit {acc : List Nat} {i : Nat} : ∀ {l : List Edge}, (maskD acc l).testBit i = true → ∃ e ∈ l, Region.binds .any e = true ∧ (e.on = i ∨ (acc.getD e.on 0).testBit i = true)
  | [], h => by simp [maskD] at h
  | e :: l, h => by
    simp only [maskD] at h
    cases hb : Region.binds .any e with
    | false =>
      rw [hb, cond_false] at h
      obtain ⟨e', h1, h2⟩ := maskD_bit h
      exact ⟨e', by simp [h1], h2⟩
    | true =>
      rw [hb, cond_true, Nat.testBit_or, Nat.testBit_or, Bool.or_eq_true, Bool.or_eq_true] at h
      rcases h with h | h | h
      · rw [Nat.testBit_two_pow] at h
        exact ⟨e, by simp, hb, .inl (by simpa using h)⟩
      · exact ⟨e, by simp, hb, .inr h⟩
      · obtain ⟨e', h1, h2⟩ := maskD_bit h
        exact ⟨e', by simp [h1], h2⟩

theorem tabD_spec : ∀ (l : List Oper) (acc : List Nat), ∃ rest, tabD l acc = acc ++ rest ∧ rest.length = l.length ∧ ∀ j o, l[j]? = some o → rest[j]? = some (maskD (acc ++ rest.take j) o.after.toList)
  | [], acc => ⟨[], by simp [tabD], rfl, fun j o h => by simp at h⟩
  | o :: l, acc => by
    obtain ⟨rest, h1, h2, h3⟩ := tabD_spec l (acc ++ [maskD acc o.after.toList])
    refine ⟨maskD acc o.after.toList :: rest, by simp [tabD, h1], by simp [h2], fun j o' hj => ?_⟩
    cases j with
    | zero => simp at hj; subst hj; simp
    | succ j =>
      have := h3 j o' (by simpa using hj)
      simpa using this

theorem edgesB_spec : ∀ (l : List Oper) (i : Nat), edgesB l i = true → ∀ j o, l[j]? = some o → ∀ e ∈ o.after.toList, Region.binds .any e = true → e.on < i + j
  | [], i, h, j, o, hj, _, _, _ => by simp at hj
  | x :: l, i, h, j, o, hj, e, he, hb => by
    simp only [edgesB, Bool.and_eq_true, List.all_eq_true] at h
    cases j with
    | zero =>
      simp at hj; subst hj
      have := h.1 e he
      rw [hb] at this
      simp at this
      have h2 : e.on < i := by simpa [Nat.blt] using this
      omega
    | succ j =>
      have := edgesB_spec l (i + 1) h.2 j o (by simpa using hj) e he hb
      omega

theorem bef_in {ops : List Oper} (hE : edgesB ops 0 = true) {X : Nat → Prop} (D : ∀ j o, ops[j]? = some o → X j → ∀ e ∈ o.after.toList, Region.binds .any e = true → X e.on) :
    ∀ (j : Nat) (o : Oper), ops[j]? = some o → (∀ e ∈ o.after.toList, Region.binds .any e = true → X e.on) → ∀ i, befB (tabD ops []) i j = true → X i := by
  obtain ⟨rest, h1, h2, h3⟩ := tabD_spec ops []
  simp only [List.nil_append] at h1 h3
  intro j
  induction j using Nat.strongRecOn with
  | _ j ih =>
    intro o ho hx i hi
    unfold befB at hi
    rw [h1] at hi
    have h4 := h3 j o ho
    rw [List.getD_eq_getElem?_getD, h4, Option.getD_some] at hi
    obtain ⟨e, he, hb, hcase⟩ := maskD_bit hi
    have hlt := edgesB_spec ops 0 hE j o ho e he hb
    have hxe := hx e he hb
    rcases hcase with h5 | h5
    · rw [← h5]; exact hxe
    · have hej : e.on < j := by omega
      have e1 : (rest.take j).getD e.on 0 = rest.getD e.on 0 := by
        rw [List.getD_eq_getElem?_getD, List.getD_eq_getElem?_getD, List.getElem?_take]
        simp [hej]
      rw [e1] at h5
      have hlen : j < ops.length := by
        rcases Nat.lt_or_ge j ops.length with h6 | h6
        · exact h6
        · rw [List.getElem?_eq_none h6] at ho; cases ho
      obtain ⟨oe, hoe⟩ : ∃ oe, ops[e.on]? = some oe := ⟨ops[e.on], by simp⟩
      exact ih e.on hej oe hoe (D _ _ hoe hxe) i (by unfold befB; rw [h1]; exact h5)

/-! ### the record of a run in the text's order -/
theorem recD_get {cf : CallF} {ops : List Oper} : ∀ (l : List Oper) (t : Tmps) (m : Mem) (rs : List Rec) (t' : Tmps) (m' : Mem), recD P K G cf n ops l t m = some (rs, t', m') →
    rs.length = l.length ∧ tAt rs t' 0 = t ∧ mAt rs m' 0 = m ∧ ∀ i o, l[i]? = some o → ∃ r, rs[i]? = some r ∧ dstOk n o.dst = true ∧ r.want = Region.wanted o (yieldD ops r.t) ∧
      tAt rs t' (i + 1) = putD r.t o.dst r.v ∧ (r.want = true → opD P K G cf r.t r.m o.op = some (r.v, mAt rs m' (i + 1))) ∧ (r.want = false → r.v = undef ∧ mAt rs m' (i + 1) = r.m)
  | [], t, m, rs, t', m', h => by
    simp [recD] at h
    obtain ⟨rfl, rfl, rfl⟩ := h
    exact ⟨rfl, rfl, rfl, fun i o hi => by simp at hi⟩
  | o :: l, t, m, rs, t', m', h => by
    simp only [recD] at h
    split at h <;> try (simp at h; done)
    rename_i hd
    split at h
    · rename_i hw
      split at h <;> try (simp at h; done)
      rename_i v m₁ hv
      split at h <;> simp at h
      rename_i rs₁ t₁ m₂ h1
      obtain ⟨rfl, rfl, rfl⟩ := h
      obtain ⟨g1, g2, g3, g4⟩ := recD_get l _ _ _ _ _ h1
      refine ⟨by simp [g1], rfl, rfl, fun i o' hi => ?_⟩
      cases i with
      | zero =>
        simp at hi; subst hi
        refine ⟨_, rfl, hd, hw.symm, ?_, fun _ => ?_, fun h => by cases h⟩
        · exact g2
        · rw [hv]; congr 2; exact g3.symm
      | succ i => exact g4 i o' (by simpa using hi)
    · rename_i hw
      split at h <;> simp at h
      rename_i rs₁ t₁ m₂ h1
      obtain ⟨rfl, rfl, rfl⟩ := h
      obtain ⟨g1, g2, g3, g4⟩ := recD_get l _ _ _ _ _ h1
      refine ⟨by simp [g1], rfl, rfl, fun i o' hi => ?_⟩
      cases i with
      | zero =>
        simp at hi; subst hi
        refine ⟨_, rfl, hd, ?_, g2, ?_, ?_⟩
        · simpa using hw
        · intro h; cases h
        · intro _; exact ⟨rfl, g3⟩
      | succ i => exact g4 i o' (by simpa using hi)

theorem veqL_eq {f : Value → Value → Bool} (hf : ∀ x y, f x y = true → x = y) : ∀ {l l' : List Value}, veqL f l l' = true → l = l'
  | [], [], _ => rfl
  | x :: l, y :: l', h => by
    simp only [veqL, Bool.and_eq_true] at h
    rw [hf _ _ h.1, veqL_eq hf h.2]
  | [], _ :: _, h => by simp [veqL] at h
  | _ :: _, [], h => by simp [veqL] at h

theorem veq_eq : ∀ (d : Nat) (x y : Value), veq d x y = true → x = y
  | 0, x, y, h => by simp [veq] at h
  | d + 1, x, y, h => by
    have ih := veq_eq d
    cases x <;> cases y <;> simp only [veq] at h <;> try (simp at h; done)
    case bool a b => simp at h; rw [h]
    case int k a k' b => simp at h; rw [h.1, h.2]
    case string a b =>
      obtain ⟨⟨a⟩⟩ := a; obtain ⟨⟨b⟩⟩ := b
      simp at h; rw [h]
    case pointer a b => simp at h; rw [h]
    case slice a k c a' k' c' =>
      simp only [Bool.and_eq_true, decide_eq_true_eq] at h
      rw [h.1.1, Nat.eq_of_beq_eq_true h.1.2, Nat.eq_of_beq_eq_true h.2]
    case map a b => simp at h; rw [h]
    case func f a b f' a' b' =>
      simp only [Bool.and_eq_true, decide_eq_true_eq] at h
      rw [h.1.1, Array.ext' (veqL_eq ih h.1.2), Array.ext' (veqL_eq ih h.2)]
    case nilFunc => rfl
    case nilIface => rfl
    case agg a b => rw [Array.ext' (veqL_eq ih h)]
    case tuple a b => rw [Array.ext' (veqL_eq ih h)]

theorem blkEq_eq {x y : Blk} (h : blkEq x y = true) : x = y := by
  unfold blkEq at h
  split at h
  · simp only [Bool.and_eq_true, beq_iff_eq] at h
    rw [h.1, veqL_eq (veq_eq 8) h.2]
  · simp only [Bool.and_eq_true, beq_iff_eq] at h
    rw [h.1, Nat.eq_of_beq_eq_true h.2]
  · simp at h
end
end Go.DI
/-
  DiDraw2: a region that draws its order comes, in whatever order, to what the text's order comes to.
-/
namespace Go.DI
section
variable {P : Program} {K : TypeId → Bool} {G B0 n : Nat}

def dstAt (ops : List Oper) (k : Nat) : Option Tmp := match ops[k]? with | some o => o.dst | none => none
def valAt (rs : List Rec) (k : Nat) : Value := match rs[k]? with | some r => r.v | none => undef
def wantAt (rs : List Rec) (k : Nat) : Bool := match rs[k]? with | some r => r.want | none => false

def appX (ops : List Oper) (rs : List Rec) (t : Tmps) (X : Nat → Bool) : Nat → Tmps
  | 0 => t
  | k + 1 => if X k = true then putD (appX ops rs t X k) (dstAt ops k) (valAt rs k) else appX ops rs t X k

theorem putD_at (t : Tmps) (dst : Option Tmp) (v : Value) (d : Tmp) : (putD t dst v).at d = if dst = some d then v else t.at d := by
  cases dst with
  | none => simp [putD]
  | some e =>
    simp only [putD, Tmps.at_set, Option.some.injEq]
    by_cases h : d = e
    · simp [h]
    · have : ¬ e = d := fun h' => h h'.symm
      simp [h, this]

theorem TRel.congr {ι : Ren} {t u : Tmps} {a : Act} (h : ∀ d, t.at d = u.at d) (ht : TRel ι n t a) : TRel ι n u a := ⟨ht.1, fun d => by rw [← h d]; exact ht.2 d⟩

theorem appX_agree {ops : List Oper} {rs : List Rec} {t : Tmps} {X : Nat → Bool} {d : Tmp} {j N : Nat} (hj : j ≤ N) (h1 : ∀ k, k < j → dstAt ops k = some d → X k = true) (h2 : ∀ k, j ≤ k → k < N → dstAt ops k = some d → X k = false) :
    (appX ops rs t X N).at d = (appX ops rs t (fun _ => true) j).at d := by
  have A : ∀ k, k ≤ j → (appX ops rs t X k).at d = (appX ops rs t (fun _ => true) k).at d := by
    intro k
    induction k with
    | zero => intro _; rfl
    | succ k ih =>
      intro hk
      have ih := ih (by omega)
      simp only [appX, if_true]
      rw [putD_at]
      by_cases hd : dstAt ops k = some d
      · rw [if_pos (h1 k (by omega) hd), putD_at, if_pos hd, if_pos hd]
      · rw [if_neg hd]
        split
        · rw [putD_at, if_neg hd]; exact ih
        · exact ih
  have B : ∀ k, j + k ≤ N → (appX ops rs t X (j + k)).at d = (appX ops rs t X j).at d := by
    intro k
    induction k with
    | zero => intro _; rfl
    | succ k ih =>
      intro hk
      rw [← ih (by omega)]
      show (appX ops rs t X ((j + k) + 1)).at d = _
      simp only [appX]
      split
      · rename_i hx
        rw [putD_at]
        split
        · rename_i hd
          rw [h2 (j + k) (by omega) (by omega) hd] at hx
          cases hx
        · rfl
      · rfl
  have := B (N - j) (by omega)
  rw [show j + (N - j) = N by omega] at this
  rw [this, A j (Nat.le_refl _)]

theorem appX_set {ops : List Oper} {rs : List Rec} {t : Tmps} {X X' : Nat → Bool} {i N : Nat} (hi : i < N) (hx : X i = false) (hx' : X' i = true) (hne : ∀ k, k ≠ i → X' k = X k)
    (h : ∀ k d, i < k → k < N → dstAt ops k = some d → dstAt ops i = some d → X k = false) (d : Tmp) : (appX ops rs t X' N).at d = (putD (appX ops rs t X N) (dstAt ops i) (valAt rs i)).at d := by
  have A : ∀ k, k ≤ i → appX ops rs t X' k = appX ops rs t X k := by
    intro k
    induction k with
    | zero => intro _; rfl
    | succ k ih =>
      intro hk
      simp only [appX]
      rw [ih (by omega), hne k (by omega)]
  have B : ∀ k, i + 1 + k ≤ N → (appX ops rs t X' (i + 1 + k)).at d = if dstAt ops i = some d then valAt rs i else (appX ops rs t X (i + 1 + k)).at d := by
    intro k
    induction k with
    | zero =>
      intro _
      simp only [Nat.add_zero, appX, hx', hx, if_true, Bool.false_eq_true, if_false]
      rw [putD_at, A i (Nat.le_refl _)]
    | succ k ih =>
      intro hk
      have ih := ih (by omega)
      show (appX ops rs t X' ((i + 1 + k) + 1)).at d = if dstAt ops i = some d then valAt rs i else (appX ops rs t X ((i + 1 + k) + 1)).at d
      simp only [appX]
      rw [hne (i + 1 + k) (by omega)]
      split
      · rename_i hxk
        rw [putD_at, putD_at, ih]
        by_cases hd : dstAt ops (i + 1 + k) = some d
        · rw [if_pos hd, if_pos hd]
          split
          · rename_i hdi
            rw [h _ d (by omega) (by omega) hd hdi] at hxk
            cases hxk
          · rfl
        · rw [if_neg hd, if_neg hd]
      · exact ih
  have := B (N - (i + 1)) (by omega)
  rw [show i + 1 + (N - (i + 1)) = N by omega] at this
  rw [this, putD_at]

/-- A block that is laid under a number that was kept for it. -/
theorem Rel.lay {ι : Ren} {M M' : Mem} {w : World} {b0 k : Nat} {x : Blk} {ob : Obj} (hr : Rel B0 G ι M w) (hb0 : b0 < M.size) (hn : ι b0 = none) (hsz : M'.size = M.size) (hg0 : M'.get b0 = x) (hg : ∀ b, b ≠ b0 → M'.get b = M.get b)
    (hnew : BlkRel B0 (fun b => if b = b0 then some ⟨w.heap.size, 0, k⟩ else ι b) x ⟨w.heap.size, 0, k⟩ (w.alloc ob)) :
    Rel B0 G (fun b => if b = b0 then some ⟨w.heap.size, 0, k⟩ else ι b) M' (w.alloc ob) := by
  have hle : ι.le (fun b => if b = b0 then some ⟨w.heap.size, 0, k⟩ else ι b) := by
    intro b L hb
    have : b ≠ b0 := by intro e; rw [e, hn] at hb; cases hb
    simp [this, hb]
  have hold : ∀ B, B < w.heap.size → (w.alloc ob).heap[B]? = w.heap[B]? := fun B hB => by
    show (w.heap.push ob)[B]? = _
    rw [Array.getElem?_push, if_neg (by omega)]
  refine ⟨fun b L hb hL => ?_, fun b₁ b₂ L₁ L₂ h1 h2 h3 h4 l1 l2 g0 e => ?_, by simp; have := hr.floor; omega, fun g hg' => ?_, fun b hb => ?_⟩
  · by_cases e : b = b0
    · subst e; simp at hL; subst hL; rw [hg0]; exact hnew
    · simp only [e, if_false] at hL
      rw [hg b e]
      exact (hr.blk b L (by omega) hL).monoL hle (fun hl => hold _ (hr.old b L hL hl))
  · by_cases e1 : b₁ = b0
    · by_cases e2 : b₂ = b0
      · omega
      · simp [e1] at h3; simp [e2] at h4; subst h3
        rw [hg _ e2] at l2
        have := hr.old _ _ h4 l2
        simp at e; omega
    · by_cases e2 : b₂ = b0
      · simp [e1] at h3; simp [e2] at h4; subst h4
        rw [hg _ e1] at l1
        have := hr.old _ _ h3 l1
        simp at e; omega
      · simp [e1] at h3; simp [e2] at h4
        rw [hg _ e1] at l1
        rw [hg _ e2] at l2
        exact hr.inj b₁ b₂ L₁ L₂ (by omega) (by omega) h3 h4 l1 l2 g0 e
  · obtain ⟨L, h1, h2⟩ := hr.glob g hg'
    exact ⟨L, hle _ _ h1, h2⟩
  · rw [hg b (by omega)]; exact hr.top b (by omega)

theorem Stp.inner {ι0 ι ι' : Ren} {m M M' Ms Ms1 : Mem} {w0 w w' : World} (h : Stp ι0 ι m M w0 w) (k : Stp ι ι' Ms Ms1 w w') (h1 : m.size ≤ Ms.size) (h2 : Ms1.size ≤ M.size) (h3 : ∀ b, b < Ms.size → M.get b = Ms.get b) (h4 : M'.size = M.size)
    (h5 : ∀ b, b < m.size → M'.get b = Ms1.get b) : Stp ι0 ι' m M' w0 w' := by
  have kms := k.msize
  refine ⟨fun b L hb => k.ext _ _ (h.ext _ _ hb), fun b hb => ?_, k.os.trans h.os, k.output.trans h.output, k.tape.trans h.tape, Nat.le_trans h.hsize k.hsize, fun B hB hn => ?_, fun b L g1 g2 hb => ?_, by rw [h4]; exact h.msize, fun b hb ho => ?_⟩
  · rw [k.out b (by omega), h.out b (by omega)]
  · rw [k.frame B (Nat.lt_of_lt_of_le hB h.hsize) ?_, h.frame B hB hn]
    intro b L hb hL ho
    rw [← h3 b hb] at ho
    rcases Nat.lt_or_ge b m.size with hlt | hge
    · rw [h.out b (.inl hlt)] at hL
      exact hn b L hlt hL (h.ownk b hlt ho)
    · rcases h.new b L hge (by omega) hL with g | ⟨b0, L0, g1, g2, g3, g4⟩
      · omega
      · rw [← g4]; exact hn b0 L0 g1 g2 g3
  · rw [h4] at g2
    by_cases hc : Ms.size ≤ b ∧ b < Ms1.size
    · rcases k.new b L hc.1 hc.2 hb with g | ⟨b0, L0, q1, q2, q3, q4⟩
      · exact .inl (Nat.le_trans h.hsize g)
      · rw [← h3 b0 q1] at q3
        rcases Nat.lt_or_ge b0 m.size with hlt | hge
        · rw [h.out b0 (.inl hlt)] at q2
          exact .inr ⟨b0, L0, hlt, q2, h.ownk b0 hlt q3, q4⟩
        · rcases h.new b0 L0 hge (by omega) q2 with g | ⟨b1, L1, k1, k2, k3, k4⟩
          · exact .inl (q4 ▸ g)
          · exact .inr ⟨b1, L1, k1, k2, k3, k4.trans q4⟩
    · rw [k.out b (by omega)] at hb
      exact h.new b L g1 g2 hb
  · rw [h5 b hb] at ho
    have := k.ownk b (by omega) ho
    rw [← h3 b (by omega)] at this
    exact h.ownk b hb this

/-! ### a run in the text's order, by places -/
structure Run (P : Program) (K : TypeId → Bool) (G n : Nat) (cf : CallF) (ops : List Oper) (t : Tmps) (m : Mem) (rs : List Rec) (t' : Tmps) (m' : Mem) : Prop where
  eq : recD P K G cf n ops ops t m = some (rs, t', m')
  grw : CfGrw cf
  top : m.top

theorem Run.len {cf : CallF} {ops : List Oper} {t t' : Tmps} {m m' : Mem} {rs : List Rec} (R : Run P K G n cf ops t m rs t' m') : rs.length = ops.length := (recD_get _ _ _ _ _ _ R.eq).1
theorem Run.zero {cf : CallF} {ops : List Oper} {t t' : Tmps} {m m' : Mem} {rs : List Rec} (R : Run P K G n cf ops t m rs t' m') : mAt rs m' 0 = m := (recD_get _ _ _ _ _ _ R.eq).2.2.1
theorem Run.last {cf : CallF} {ops : List Oper} {t t' : Tmps} {m m' : Mem} {rs : List Rec} (R : Run P K G n cf ops t m rs t' m') : mAt rs m' ops.length = m' := by
  unfold mAt; rw [List.getElem?_eq_none (by rw [R.len]; exact Nat.le_refl _)]

theorem Run.step {cf : CallF} {ops : List Oper} {t t' : Tmps} {m m' : Mem} {rs : List Rec} (R : Run P K G n cf ops t m rs t' m') {i : Nat} {o : Oper} (ho : ops[i]? = some o) :
    ∃ r, rs[i]? = some r ∧ r.t = appX ops rs t (fun _ => true) i ∧ r.m = mAt rs m' i ∧ dstOk n o.dst = true ∧ r.want = Region.wanted o (yieldD ops r.t) ∧
      (r.want = true → opD P K G cf r.t r.m o.op = some (r.v, mAt rs m' (i + 1))) ∧ (r.want = false → r.v = undef ∧ mAt rs m' (i + 1) = r.m) := by
  obtain ⟨g1, g2, g3, g4⟩ := recD_get _ _ _ _ _ _ R.eq
  have ht : ∀ k, k ≤ ops.length → tAt rs t' k = appX ops rs t (fun _ => true) k := by
    intro k
    induction k with
    | zero => intro _; exact g2
    | succ k ih =>
      intro hk
      have ih := ih (by omega)
      obtain ⟨o', ho'⟩ : ∃ o', ops[k]? = some o' := ⟨ops[k], by simp⟩
      obtain ⟨r, h1, h2, h3, h4, _⟩ := g4 k o' ho'
      rw [h4]
      simp only [appX, if_true, dstAt, ho', valAt, h1]
      rw [← ih]
      simp only [tAt, h1]
  obtain ⟨r, h1, h2, h3, h4, h5, h6⟩ := g4 i o ho
  have hi : i < ops.length := by
    rcases Nat.lt_or_ge i ops.length with h | h
    · exact h
    · rw [List.getElem?_eq_none h] at ho; cases ho
  refine ⟨r, h1, ?_, ?_, h2, h3, h5, h6⟩
  · rw [← ht i (by omega)]; simp only [tAt, h1]
  · simp only [mAt, h1]

theorem Run.grow1 {cf : CallF} {ops : List Oper} {t t' : Tmps} {m m' : Mem} {rs : List Rec} (R : Run P K G n cf ops t m rs t' m') {i : Nat} (hi : i < ops.length) : Grw (mAt rs m' i) (mAt rs m' (i + 1)) := by
  obtain ⟨r, h1, h2, h3, h4, h5, h6, h7⟩ := R.step (i := i) (o := ops[i]) (by simp)
  rw [← h3]
  cases hw : r.want with
  | true => exact opD_grw R.grw (h6 hw)
  | false => rw [(h7 hw).2]; exact Grw.refl _

theorem Run.grow {cf : CallF} {ops : List Oper} {t t' : Tmps} {m m' : Mem} {rs : List Rec} (R : Run P K G n cf ops t m rs t' m') {i : Nat} : ∀ k, i + k ≤ ops.length → Grw (mAt rs m' i) (mAt rs m' (i + k))
  | 0, _ => Grw.refl _
  | k + 1, h => (R.grow k (by omega)).trans (R.grow1 (by omega))

theorem Run.mono {cf : CallF} {ops : List Oper} {t t' : Tmps} {m m' : Mem} {rs : List Rec} (R : Run P K G n cf ops t m rs t' m') {i j : Nat} (h : i ≤ j) (hj : j ≤ ops.length) : Grw (mAt rs m' i) (mAt rs m' j) := by
  have := R.grow (i := i) (j - i) (by omega)
  rw [show i + (j - i) = j by omega] at this
  exact this

theorem Run.topAt {cf : CallF} {ops : List Oper} {t t' : Tmps} {m m' : Mem} {rs : List Rec} (R : Run P K G n cf ops t m rs t' m') {i : Nat} (h : i ≤ ops.length) : (mAt rs m' i).top := by
  have := (R.mono (Nat.zero_le i) h).top
  rw [R.zero] at this
  exact this R.top

theorem klass_cases (o : Op) : klass o = 0 ∨ klass o = 1 ∨ klass o = 2 := by
  unfold klass; split <;> simp

/-- One light operation of the text's order: what becomes of the memory. -/
theorem Run.light {cf : CallF} {ops : List Oper} {t t' : Tmps} {m m' : Mem} {rs : List Rec} (R : Run P K G n cf ops t m rs t' m') {i : Nat} (hi : i < ops.length) (hk : klassAt ops i ≠ 2) :
    (mAt rs m' (i + 1) = mAt rs m' i ∧ (klassAt ops i = 1 → wantAt rs i = false)) ∨ (klassAt ops i = 1 ∧ wantAt rs i = true ∧ ∃ x q, allocD P G (appX ops rs t (fun _ => true) i) ops[i].op = some (x, q) ∧ valAt rs i = q.val (mAt rs m' i).size ∧ mAt rs m' (i + 1) = (mAt rs m' i).push x) := by
  obtain ⟨r, h1, h2, h3, h4, h5, h6, h7⟩ := R.step (i := i) (o := ops[i]) (by simp)
  have hka : klassAt ops i = klass ops[i].op := by simp [klassAt, hi]
  have hv : valAt rs i = r.v := by simp [valAt, h1]
  have hwt : wantAt rs i = r.want := by simp [wantAt, h1]
  cases hw : r.want with
  | false => exact .inl ⟨by rw [(h7 hw).2, h3], fun _ => by rw [hwt, hw]⟩
  | true =>
    have h8 := h6 hw
    unfold opD at h8
    rw [hka] at hk ⊢
    rcases klass_cases ops[i].op with hc | hc | hc
    · rw [hc] at h8
      simp only at h8
      split at h8 <;> simp at h8
      exact .inl ⟨by rw [← h8.2, h3], fun h => by rw [hc] at h; cases h⟩
    · rw [hc] at h8
      simp only at h8
      split at h8 <;> simp at h8
      rename_i x q hx
      refine .inr ⟨hc, by rw [hwt, hw], x, q, by rw [← h2]; exact hx, by rw [hv, ← h8.1, h3], by rw [← h8.2, h3]⟩
    · exact absurd hc hk

theorem Run.lightGet {cf : CallF} {ops : List Oper} {t t' : Tmps} {m m' : Mem} {rs : List Rec} (R : Run P K G n cf ops t m rs t' m') {i : Nat} : ∀ k, i + k ≤ ops.length → (∀ h, i ≤ h → h < i + k → klassAt ops h ≠ 2) →
    ∀ b, b < (mAt rs m' i).size → (mAt rs m' (i + k)).get b = (mAt rs m' i).get b
  | 0, _, _, b, hb => rfl
  | k + 1, h, hl, b, hb => by
    have ih := R.lightGet k (by omega) (fun h g1 g2 => hl h g1 (by omega)) b hb
    have hsz := (R.mono (i := i) (j := i + k) (by omega) (by omega)).size
    show (mAt rs m' ((i + k) + 1)).get b = _
    rcases R.light (i := i + k) (by omega) (hl _ (by omega) (by omega)) with ⟨e, _⟩ | ⟨_, _, x, q, _, _, e⟩
    · rw [e]; exact ih
    · rw [e, Mem.get_push_ne _ (by omega)]; exact ih

theorem Run.kept {cf : CallF} {ops : List Oper} {t t' : Tmps} {m m' : Mem} {rs : List Rec} (R : Run P K G n cf ops t m rs t' m') {i j : Nat} (hij : i ≤ j) (hj : j ≤ ops.length) (hl : ∀ h, i ≤ h → h < j → klassAt ops h ≠ 2) :
    ∀ b, b < (mAt rs m' i).size → (mAt rs m' j).get b = (mAt rs m' i).get b := by
  have := R.lightGet (i := i) (j - i) (by omega) (fun h g1 g2 => hl h g1 (by omega))
  rw [show i + (j - i) = j by omega] at this
  exact this

theorem next_heavy (ops : List Oper) : ∀ (k i : Nat), i + k = ops.length → ∃ s, i ≤ s ∧ s ≤ ops.length ∧ (s < ops.length → klassAt ops s = 2) ∧ ∀ h, i ≤ h → h < s → klassAt ops h ≠ 2
  | 0, i, h => ⟨i, Nat.le_refl _, by omega, fun h' => by omega, fun h' g1 g2 => by omega⟩
  | k + 1, i, h => by
    by_cases hk : klassAt ops i = 2
    · exact ⟨i, Nat.le_refl _, by omega, fun _ => hk, fun h' g1 g2 => by omega⟩
    · obtain ⟨s, h1, h2, h3, h4⟩ := next_heavy ops k (i + 1) (by omega)
      refine ⟨s, by omega, h2, h3, fun h' g1 g2 => ?_⟩
      by_cases e : h' = i
      · rw [e]; exact hk
      · exact h4 h' (by omega) g2

/-- Whose name is it? -/
theorem Run.owner {cf : CallF} {ops : List Oper} {t t' : Tmps} {m m' : Mem} {rs : List Rec} (R : Run P K G n cf ops t m rs t' m') {i : Nat} : ∀ k, i + k ≤ ops.length → ∀ b, (mAt rs m' i).size ≤ b → b < (mAt rs m' (i + k)).size →
    ∃ j, i ≤ j ∧ j < i + k ∧ (mAt rs m' j).size ≤ b ∧ b < (mAt rs m' (j + 1)).size
  | 0, _, b, h1, h2 => by simp at h2; omega
  | k + 1, h, b, h1, h2 => by
    rcases Nat.lt_or_ge b (mAt rs m' (i + k)).size with hlt | hge
    · obtain ⟨j, g1, g2, g3, g4⟩ := R.owner k (by omega) b h1 hlt
      exact ⟨j, g1, by omega, g3, g4⟩
    · exact ⟨i + k, by omega, by omega, hge, h2⟩
end
end Go.DI
/-
  DiDraw3: the invariant of a region that draws its order, its steps, its end.
-/
namespace Go.DI
section
variable {P : Program} {K : TypeId → Bool} {G B0 n : Nat} {cf : CallF} {ops : Array Oper} {t t' : Tmps} {m m' : Mem} {rs : List Rec}

/-- What stands fast of a region. -/
structure Reg (P : Program) (K : TypeId → Bool) (G B0 n : Nat) (cf : CallF) (ops : Array Oper) (t : Tmps) (m : Mem) (rs : List Rec) (t' : Tmps) (m' : Mem) : Prop where
  hK : Plain P K
  hcf : CfOK P B0 G cf
  run : Run P K G n cf ops.toList t m rs t' m'
  stat : statB ops.toList (tabD ops.toList []) = true
  c1 : (need1 ops.toList (tabD ops.toList [])).all (chk1 P K G ops.toList rs m') = true
  c2 : (need2 ops.toList (tabD ops.toList [])).all (chk2 rs m') = true

theorem Reg.edges (R : Reg P K G B0 n cf ops t m rs t' m') : edgesB ops.toList 0 = true := by
  have := R.stat
  simp only [statB, Bool.and_eq_true] at this
  exact this.1

theorem Reg.pair (R : Reg P K G B0 n cf ops t m rs t' m') {i j : Nat} (hi : i < ops.size) (hj : j < ops.size) : pairB ops.toList (tabD ops.toList []) i j = true := by
  have := R.stat
  simp only [statB, Bool.and_eq_true, List.all_eq_true, List.mem_range] at this
  exact this.2 i (by simpa using hi) j (by simpa using hj)

theorem blt_iff {a b : Nat} : Nat.blt a b = true ↔ a < b := by
  unfold Nat.blt; rw [Nat.ble_eq]; exact Iff.rfl

/-- Who writes a slot that another one looks at, or writes too, is ordered to it. -/
theorem Reg.sep (R : Reg P K G B0 n cf ops t m rs t' m') {i j : Nat} {x y : Oper} {d : Tmp} (hx : ops[i]? = some x) (hy : ops[j]? = some y) (hne : i ≠ j) (hd : x.dst = some d) (h : d ∈ looksL ops.toList y ∨ y.dst = some d) :
    (i < j → befB (tabD ops.toList []) i j = true) ∧ (j < i → befB (tabD ops.toList []) j i = true) := by
  have hi : i < ops.size := (Array.getElem?_eq_some_iff.1 hx).1
  have hj : j < ops.size := (Array.getElem?_eq_some_iff.1 hy).1
  have := R.pair hi hj
  unfold pairB at this
  simp only [Array.getElem?_toList, hx, hy, hd, Bool.and_eq_true, Bool.or_eq_true] at this
  obtain ⟨h1, _⟩ := this
  rcases h1 with (h1 | h1) | h1
  · exact absurd (Nat.eq_of_beq_eq_true h1) hne
  · have hc : ((looksL ops.toList y).contains d || y.dst == some d) = true := by
      rcases h with h | h
      · simp [h]
      · simp [h]
    rw [hc] at h1
    simp at h1
  · refine ⟨fun hlt => ?_, fun hlt => ?_⟩
    · rw [blt_iff.2 hlt] at h1; exact h1
    · have : Nat.blt i j = false := by
        cases hb : Nat.blt i j with
        | false => rfl
        | true => have := blt_iff.1 hb; omega
      rw [this] at h1; exact h1

theorem Reg.heavy (R : Reg P K G B0 n cf ops t m rs t' m') {i j : Nat} (hi : i < ops.size) (hj : j < ops.size) (h1 : klassAt ops.toList i = 2) (h2 : klassAt ops.toList j = 2) (hlt : i < j) : befB (tabD ops.toList []) i j = true := by
  have := R.pair hi hj
  unfold pairB at this
  simp only [klassAt, Array.getElem?_toList, Array.getElem?_eq_getElem hi, Array.getElem?_eq_getElem hj] at h1 h2
  simp only [Array.getElem?_toList, Array.getElem?_eq_getElem hi, Array.getElem?_eq_getElem hj, Bool.and_eq_true, Bool.or_eq_true] at this
  obtain ⟨_, h3⟩ := this
  rcases h3 with h3 | h3
  · rw [h1, h2, blt_iff.2 hlt] at h3
    simp at h3
  · exact h3

/-- The invariant: what X lists has been done. -/
structure Inv (P : Program) (B0 G n : Nat) (ops : Array Oper) (t : Tmps) (m : Mem) (rs : List Rec) (m' : Mem) (ι0 : Ren) (w0 : World) (a0 : Act) (X : Nat → Bool) (ι : Ren) (M : Mem) (s : Nat) (a : Act) (w : World) : Prop where
  tr : TRel ι n (appX ops.toList rs t X ops.size) a
  sN : s ≤ ops.size
  sh : s < ops.size → klassAt ops.toList s = 2 ∧ X s = false
  sb : ∀ h, h < s → klassAt ops.toList h = 2 → X h = true
  msz : M.size = (mAt rs m' ops.size).size
  g1 : ∀ b, b < (mAt rs m' s).size → M.get b = (mAt rs m' s).get b
  g2 : ∀ i, s < i → i < ops.size → klassAt ops.toList i = 1 → wantAt rs i = true → X i = true → M.get (mAt rs m' i).size = (mAt rs m' (i + 1)).get (mAt rs m' i).size
  jn : ∀ i, i < ops.size → X i = false → ∀ b, (mAt rs m' i).size ≤ b → b < (mAt rs m' (i + 1)).size → ι b = none
  rel : Rel B0 G ι M w
  stp : Stp ι0 ι m M w0 w
  dfr : a.defers = a0.defers

/-- What is listed waits for nothing that is not. -/
def Clo (ops : Array Oper) (X : Nat → Bool) : Prop := ∀ (j : Nat) (o : Oper), ops.toList[j]? = some o → X j = true → ∀ e ∈ o.after.toList, Region.binds .any e = true → X e.on = true

def addX (X : Nat → Bool) (i : Nat) : Nat → Bool := fun k => if k = i then true else X k

variable {ι0 ι : Ren} {M : Mem} {w0 w : World} {a0 a : Act} {X : Nat → Bool} {s i : Nat} {o : Oper}


theorem Reg.ready (R : Reg P K G B0 n cf ops t m rs t' m') (hC : Clo ops X) (ho : ops[i]? = some o) (hr : ∀ e ∈ o.after.toList, Region.binds .any e = true → X e.on = true) : ∀ k, befB (tabD ops.toList []) k i = true → X k = true :=
  bef_in (X := fun k => X k = true) R.edges (fun j o' hj hx e he hb => hC j o' hj hx e he hb) i o (by simpa using ho) hr

theorem Reg.closed (R : Reg P K G B0 n cf ops t m rs t' m') (hC : Clo ops X) {j : Nat} (hj : j < ops.size) (hx : X j = true) : ∀ k, befB (tabD ops.toList []) k j = true → X k = true := by
  have ho : ops[j]? = some ops[j] := Array.getElem?_eq_getElem hj
  exact R.ready hC ho (fun e he hb => hC j _ (by simp) hx e he hb)

/-- What an operation looks at is as in the text's order. -/
theorem Inv.looks (R : Reg P K G B0 n cf ops t m rs t' m') (hC : Clo ops X) (ho : ops[i]? = some o) (hr : ∀ e ∈ o.after.toList, Region.binds .any e = true → X e.on = true) (hx : X i = false) {d : Tmp} (hd : d ∈ looksL ops.toList o) :
    (appX ops.toList rs t X ops.size).at d = (appX ops.toList rs t (fun _ => true) i).at d := by
  have hi : i < ops.size := (Array.getElem?_eq_some_iff.1 ho).1
  refine appX_agree (by omega) (fun k hk hdk => ?_) (fun k hk hkN hdk => ?_)
  · have hko : ops[k]? = some ops[k] := Array.getElem?_eq_getElem (by omega)
    simp only [dstAt, Array.getElem?_toList, hko] at hdk
    exact R.ready hC ho hr k ((R.sep hko ho (by omega) hdk (.inl hd)).1 hk)
  · by_cases e : k = i
    · rw [e]; exact hx
    · have hko : ops[k]? = some ops[k] := Array.getElem?_eq_getElem hkN
      simp only [dstAt, Array.getElem?_toList, hko] at hdk
      have hb := (R.sep hko ho (by omega) hdk (.inl hd)).2 (by omega)
      cases hxk : X k with
      | false => rfl
      | true => have := R.closed hC hkN hxk i hb; rw [hx] at this; cases this

theorem Inv.evs (R : Reg P K G B0 n cf ops t m rs t' m') (hC : Clo ops X) (ho : ops[i]? = some o) (hr : ∀ e ∈ o.after.toList, Region.binds .any e = true → X e.on = true) (hx : X i = false) :
    ∀ x ∈ operL o.op, ev G (appX ops.toList rs t X ops.size) x = ev G (appX ops.toList rs t (fun _ => true) i) x := by
  intro x hxm
  refine ev_congr fun d hd => Inv.looks R hC ho hr hx ?_
  subst hd
  exact List.mem_append_left _ (List.mem_filterMap.2 ⟨.tmp d, hxm, rfl⟩)

theorem Inv.want (R : Reg P K G B0 n cf ops t m rs t' m') (hC : Clo ops X) (hI : Inv P B0 G n ops t m rs m' ι0 w0 a0 X ι M s a w) (ho : ops[i]? = some o) (hr : ∀ e ∈ o.after.toList, Region.binds .any e = true → X e.on = true) (hx : X i = false) :
    Region.wanted o (yielded ops a.tmps) = wantAt rs i := by
  obtain ⟨r, h1, h2, h3, h4, h5, _⟩ := R.run.step (i := i) (o := o) (by simpa using ho)
  rw [← yield_rel hI.tr]
  simp only [wantAt, h1, h5, h2]
  unfold Region.wanted
  cases hg : o.guard with
  | none => rfl
  | some gw =>
    obtain ⟨g, wv⟩ := gw
    have : yieldD ops.toList (appX ops.toList rs t X ops.size) g = yieldD ops.toList (appX ops.toList rs t (fun _ => true) i) g := by
      unfold yieldD
      cases hgo : ops.toList[g]? with
      | none => rfl
      | some og =>
        cases hgd : og.dst with
        | none => simp only [hgd]
        | some d =>
          simp only [hgd]
          rw [Inv.looks R hC ho hr hx (d := d) (by
            refine List.mem_append_right _ ?_
            simp [hg, hgo, hgd])]
    simp only [this]

/-- The slots behind an operation. -/
theorem Inv.slots (R : Reg P K G B0 n cf ops t m rs t' m') (hC : Clo ops X) (hI : Inv P B0 G n ops t m rs m' ι0 w0 a0 X ι M s a w) (ho : ops[i]? = some o) (hx : X i = false) {ι' : Ren} (hle : ι.le ι') {v' : Value} (hv : VRel ι' (valAt rs i) v') :
    TRel ι' n (appX ops.toList rs t (addX X i) ops.size) (a.put o.dst v') := by
  have hi : i < ops.size := (Array.getElem?_eq_some_iff.1 ho).1
  obtain ⟨r, h1, h2, h3, h4, _⟩ := R.run.step (i := i) (o := o) (by simpa using ho)
  have hd : dstAt ops.toList i = o.dst := by simp [dstAt, ho]
  refine TRel.congr (fun d => (appX_set hi hx (by simp [addX]) (fun k hk => by simp [addX, hk]) (fun k d hk hkN hdk hdi => ?_) d).symm) (TRel.putD (hI.tr.mono hle) (dst := dstAt ops.toList i) (by rw [hd]; exact h4) hv |> fun h => by rw [hd] at h ⊢; exact h)
  have hko : ops[k]? = some ops[k] := Array.getElem?_eq_getElem hkN
  rw [hd] at hdi
  have hdk' : ops[k].dst = some d := by simpa [dstAt, hko] using hdk
  have hb := (R.sep hko ho (by omega) hdk' (.inr hdi)).2 hk
  cases hxk : X k with
  | false => rfl
  | true => have := R.closed hC hkN hxk i hb; rw [hx] at this; cases this

theorem Inv.here (R : Reg P K G B0 n cf ops t m rs t' m') (hI : Inv P B0 G n ops t m rs m' ι0 w0 a0 X ι M s a w) : Rel B0 G ι (mAt rs m' s) w := by
  have hs := (R.run.mono hI.sN (by simp)).size
  exact hI.rel.restrict (R.run.topAt (by simp; exact hI.sN)) (by rw [hI.msz]; simpa using hs) hI.g1

/-- Nothing but the slots turns. -/
theorem Inv.quiet (R : Reg P K G B0 n cf ops t m rs t' m') (hC : Clo ops X) (hI : Inv P B0 G n ops t m rs m' ι0 w0 a0 X ι M s a w) (ho : ops[i]? = some o) (hx : X i = false) (hk : klassAt ops.toList i ≠ 2) (hnot : klassAt ops.toList i = 1 → wantAt rs i = false) {v' : Value} (hv : VRel ι (valAt rs i) v') :
    Inv P B0 G n ops t m rs m' ι0 w0 a0 (addX X i) ι M s (a.put o.dst v') w := by
  have hne : s < ops.size → s ≠ i := fun h e => hk (by rw [← e]; exact (hI.sh h).1)
  refine ⟨Inv.slots R hC hI ho hx (fun _ _ h => h) hv, hI.sN, fun h => ⟨(hI.sh h).1, ?_⟩, fun h h1 h2 => ?_, hI.msz, hI.g1, fun j h1 h2 h3 h4 h5 => ?_, fun j hj hxj => hI.jn j hj ?_, hI.rel, hI.stp, (put_defers _ _ _).trans hI.dfr⟩
  · simp [addX, hne h, (hI.sh h).2]
  · unfold addX; split
    · rfl
    · exact hI.sb h h1 h2
  · by_cases e : j = i
    · rw [e] at h3 h4; rw [hnot h3] at h4; cases h4
    · exact hI.g2 j h1 h2 h3 h4 (by simpa [addX, e] using h5)
  · by_cases e : j = i
    · rw [e] at hxj; simp [addX] at hxj
    · simpa [addX, e] using hxj

/-- A block that is laid. -/
theorem Inv.alloc (R : Reg P K G B0 n cf ops t m rs t' m') (hC : Clo ops X) (hI : Inv P B0 G n ops t m rs m' ι0 w0 a0 X ι M s a w) (ho : ops[i]? = some o) (hx : X i = false) (hk : klassAt ops.toList i = 1) {x : Blk} {q : Made}
    (hval : valAt rs i = q.val (mAt rs m' i).size) (hpush : mAt rs m' (i + 1) = (mAt rs m' i).push x) (hw : wantAt rs i = true) {ob : Obj} {k : Nat}
    (hnew : ∀ ι' : Ren, ι.le ι' → BlkRel B0 ι' x ⟨w.heap.size, 0, k⟩ (w.alloc ob)) :
    ∃ ι' M', Inv P B0 G n ops t m rs m' ι0 w0 a0 (addX X i) ι' M' s (a.put o.dst (q.val w.heap.size)) (w.alloc ob) := by
  have hi : i < ops.size := (Array.getElem?_eq_some_iff.1 ho).1
  have hL : ops.toList.length = ops.size := by simp
  have hne : s < ops.size → s ≠ i := fun h e => by have := (hI.sh h).1; rw [e, hk] at this; cases this
  have hsi : s ≠ i := by
    rcases Nat.lt_or_ge s ops.size with h | h
    · exact hne h
    · omega
  obtain ⟨b0, hb0⟩ : ∃ b0, b0 = (mAt rs m' i).size := ⟨_, rfl⟩
  have hsz1 : (mAt rs m' (i + 1)).size = b0 + 1 := by rw [hpush, hb0]; rfl
  have hU : b0 < M.size := by
    have := (R.run.mono (i := i + 1) (j := ops.size) (by omega) (by omega)).size
    rw [hI.msz]; omega
  have hnone : ι b0 = none := hI.jn i hi hx b0 (by omega) (by omega)
  have hgx : (mAt rs m' (i + 1)).get b0 = x := by rw [hpush, hb0, Mem.get_push_same]
  have hle : ι.le (fun b => if b = b0 then some ⟨w.heap.size, 0, k⟩ else ι b) := by
    intro b L hb
    have : b ≠ b0 := by intro e; rw [e, hnone] at hb; cases hb
    simp [this, hb]
  -- where the text's order has laid it already, nobody has touched it
  have hkept : i < s → (mAt rs m' s).get b0 = x := by
    intro his
    have main : ∀ c, i + 1 + c ≤ s → (mAt rs m' (i + 1 + c)).get b0 = x := by
      intro c
      induction c with
      | zero => intro _; exact hgx
      | succ c ih =>
        intro hc
        have ih := ih (by omega)
        have hlt : i + 1 + c < ops.size := by have := hI.sN; omega
        by_cases hh : klassAt ops.toList (i + 1 + c) = 2
        · have hX := hI.sb (i + 1 + c) (by omega) hh
          have hnb : befB (tabD ops.toList []) i (i + 1 + c) = false := by
            cases hb : befB (tabD ops.toList []) i (i + 1 + c) with
            | false => rfl
            | true => have := R.closed hC hlt hX i hb; rw [hx] at this; cases this
          have hmem : (i, i + 1 + c) ∈ need2 ops.toList (tabD ops.toList []) := by
            unfold need2
            refine List.mem_flatMap.2 ⟨i, List.mem_range.2 (by omega), ?_⟩
            rw [show Nat.beq (klassAt ops.toList i) 1 = true by rw [hk]; rfl, cond_true]
            refine List.mem_filterMap.2 ⟨i + 1 + c, List.mem_range.2 (by omega), ?_⟩
            have hbl : Nat.blt i (i + 1 + c) = true := blt_iff.2 (by omega)
            simp only [hbl, hh, hnb, Bool.true_and, Bool.not_false, Bool.and_true]
            rfl
          have := List.all_eq_true.1 R.c2 _ hmem
          unfold chk2 at this
          obtain ⟨r, h1, h2, h3, _⟩ := R.run.step (i := i) (o := o) (by simpa using ho)
          have hwr : r.want = true := by simpa [wantAt, h1] using hw
          simp only [h1, hwr, Bool.not_true, Bool.false_or, h3] at this
          have := blkEq_eq this
          rw [← hb0, hgx] at this
          exact this
        · have := R.run.kept (i := i + 1 + c) (j := i + 1 + c + 1) (by omega) (by omega) (fun h g1 g2 => by rw [show h = i + 1 + c by omega]; exact hh) b0 (by
            have := (R.run.mono (i := i + 1) (j := i + 1 + c) (by omega) (by omega)).size
            omega)
          show (mAt rs m' (i + 1 + c + 1)).get b0 = x
          rw [this]; exact ih
    have := main (s - (i + 1)) (by omega)
    rw [show i + 1 + (s - (i + 1)) = s by omega] at this
    exact this
  let M' : Mem := ⟨fun b => if b = b0 then x else M.get b, .nil, M.size⟩
  have hg' : ∀ b, M'.get b = if b = b0 then x else M.get b := fun b => by simp [M', Mem.get, Tr.get_nil]
  have hrel := Rel.lay (M' := M') hI.rel hU hnone rfl (by rw [hg']; simp) (fun b hb => by rw [hg']; simp [hb]) (hnew _ hle)
  have hdist : ∀ j, j < ops.size → j ≠ i → ∀ b, (mAt rs m' j).size ≤ b → b < (mAt rs m' (j + 1)).size → b ≠ b0 := by
    intro j hj hji b h1 h2 e
    rcases Nat.lt_or_ge j i with hlt | hge
    · have := (R.run.mono (i := j + 1) (j := i) (by omega) (by omega)).size; omega
    · have := (R.run.mono (i := i + 1) (j := j) (by omega) (by omega)).size; omega
  refine ⟨_, M', Inv.slots R hC hI ho hx hle ?_, hI.sN, fun h => ⟨(hI.sh h).1, ?_⟩, fun h h1 h2 => ?_, hI.msz, fun b hb => ?_, fun j h1 h2 h3 h4 h5 => ?_, fun j hj hxj b h1 h2 => ?_, hrel, ?_, (put_defers _ _ _).trans hI.dfr⟩
  · rw [hval, ← hb0]
    exact Made.rel (k := k) (by simp) q
  · simp [addX, hsi, (hI.sh h).2]
  · unfold addX; split
    · rfl
    · exact hI.sb h h1 h2
  · rw [hg']
    by_cases e : b = b0
    · subst e
      have his : i < s := by
        rcases Nat.lt_or_ge i s with h | h
        · exact h
        · have := (R.run.mono (i := s) (j := i) h (by omega)).size; omega
      rw [if_pos rfl, hkept his]
    · rw [if_neg e]; exact hI.g1 b hb
  · by_cases e : j = i
    · subst e
      rw [hg', if_pos hb0.symm, ← hb0, hgx]
    · rcases R.run.light (i := j) (by omega) (by rw [h3]; decide) with ⟨_, g⟩ | ⟨_, _, x', q', _, _, g⟩
      · rw [g h3] at h4; cases h4
      · have hb1 : (mAt rs m' j).size < (mAt rs m' (j + 1)).size := by rw [g]; simp
        rw [hg', if_neg (hdist j h2 e _ (Nat.le_refl _) hb1)]
        exact hI.g2 j h1 h2 h3 h4 (by simpa [addX, e] using h5)
  · have e : j ≠ i := by intro e; rw [e] at hxj; simp [addX] at hxj
    simp only [hdist j hj e b h1 h2, if_false]
    exact hI.jn j hj (by simpa [addX, e] using hxj) b h1 h2
  · have hms : m.size ≤ b0 := by
      have := (R.run.mono (i := 0) (j := i) (Nat.zero_le _) (by omega)).size
      rw [R.run.zero] at this; omega
    refine ⟨fun b L hb => hle _ _ (hI.stp.ext _ _ hb), fun b hb => ?_, hI.stp.os, hI.stp.output, hI.stp.tape, by have := hI.stp.hsize; simp; omega, fun B hB hn => ?_, fun b L h1 h2 hb => ?_, hI.stp.msize, fun b hb hown => ?_⟩
    · have : b ≠ b0 := by
        rcases hb with hb | hb
        · omega
        · have : M'.size = M.size := rfl
          omega
      simp only [this, if_false]
      exact hI.stp.out b hb
    · have := hI.stp.hsize
      rw [show (w.alloc ob).heap[B]? = w.heap[B]? by show (w.heap.push ob)[B]? = _; rw [Array.getElem?_push, if_neg (by omega)]]
      exact hI.stp.frame B hB hn
    · by_cases e : b = b0
      · simp only [e, if_true] at hb
        cases hb
        exact .inl hI.stp.hsize
      · simp only [e, if_false] at hb
        exact hI.stp.new b L h1 h2 hb
    · rw [hg', if_neg (by omega)] at hown
      exact hI.stp.ownk b hb hown

/-- The heavy operation that stands next is done. -/
theorem Inv.advance (R : Reg P K G B0 n cf ops t m rs t' m') (hC : Clo ops X) (hI : Inv P B0 G n ops t m rs m' ι0 w0 a0 X ι M s a w) (ho : ops[s]? = some o) (hx : X s = false) {ι' : Ren} {w' : World} {v' : Value}
    (hrel : Rel B0 G ι' (mAt rs m' (s + 1)) w') (hstp : Stp ι ι' (mAt rs m' s) (mAt rs m' (s + 1)) w w') (hv : VRel ι' (valAt rs s) v') :
    ∃ M' s', Inv P B0 G n ops t m rs m' ι0 w0 a0 (addX X s) ι' M' s' (a.put o.dst v') w' := by
  have hi : s < ops.size := (Array.getElem?_eq_some_iff.1 ho).1
  have hL : ops.toList.length = ops.size := by simp
  have hks := (hI.sh hi).1
  obtain ⟨s', hs1, hs2, hs3, hs4⟩ := next_heavy ops.toList (ops.size - (s + 1)) (s + 1) (by omega)
  have hkept := R.run.kept (i := s + 1) (j := s') hs1 hs2 (fun h g1 g2 => hs4 h g1 g2)
  have z1 := (R.run.mono (i := s) (j := s + 1) (by omega) (by omega)).size
  have z2 := (R.run.mono (i := s + 1) (j := s') hs1 hs2).size
  have z3 := (R.run.mono (i := s') (j := ops.size) (by omega) (by omega)).size
  have z0 := (R.run.mono (i := 0) (j := s) (Nat.zero_le _) (by omega)).size
  rw [R.run.zero] at z0
  have hms := hI.msz
  let M' : Mem := ⟨fun b => if b < (mAt rs m' s').size then (mAt rs m' s').get b else M.get b, .nil, M.size⟩
  have hg' : ∀ b, M'.get b = if b < (mAt rs m' s').size then (mAt rs m' s').get b else M.get b := fun b => by simp [M', Mem.get, Tr.get_nil]
  have hgl : ∀ b, b < (mAt rs m' (s + 1)).size → M'.get b = (mAt rs m' (s + 1)).get b := fun b hb => by
    rw [hg', if_pos (by omega)]; exact hkept b hb
  have hgh : ∀ b L, (mAt rs m' (s + 1)).size ≤ b → b < M.size → ι b = some L → M'.get b = M.get b := by
    intro b L h1 h2 hb
    rw [hg']
    split
    · rename_i hlt
      obtain ⟨j, g1, g2, g3, g4⟩ := R.run.owner (i := s + 1) (s' - (s + 1)) (by omega) b h1 (by rw [show s + 1 + (s' - (s + 1)) = s' by omega]; exact hlt)
      have hjN : j < ops.size := by omega
      have hXj : X j = true := by
        cases hxj : X j with
        | true => rfl
        | false => have := hI.jn j hjN hxj b g3 g4; rw [this] at hb; cases hb
      rcases R.run.light (i := j) (by omega) (hs4 j g1 (by omega)) with ⟨e, _⟩ | ⟨k1, k2, x, q, _, _, e⟩
      · rw [e] at g4; omega
      · have hbj : b = (mAt rs m' j).size := by rw [e] at g4; simp at g4; omega
        have hb2 := hI.g2 j (by omega) hjN k1 k2 hXj
        rw [hbj, hb2]
        exact R.run.kept (i := j + 1) (j := s') (by omega) hs2 (fun h q1 q2 => hs4 h (by omega) q2) _ (by rw [e]; simp)
    · rfl
  have hout : ∀ b, (mAt rs m' (s + 1)).size ≤ b → ι' b = ι b := fun b hb => hstp.out b (.inr hb)
  -- what lies beyond is not touched
  have hfr : ∀ b L, (mAt rs m' (s + 1)).size ≤ b → b < M.size → ι b = some L → (M.get b).live → w'.heap[L.block]? = w.heap[L.block]? := by
    intro b L h1 h2 hb hlv
    refine hstp.frame _ (hI.rel.old b L hb hlv) fun b1 L1 k1 k2 k3 e => ?_
    rw [← hI.g1 b1 k1] at k3
    have l1 : (M.get b1).live := by cases hg : M.get b1 <;> simp_all [Blk.own, Blk.live]
    have := hI.rel.inj b1 b L1 L (by omega) h2 k2 hb l1 hlv ((hI.rel.blk b1 L1 (by omega) k2).own_floor k3) e
    omega
  have hrel' : Rel B0 G ι' M' w' := by
    refine ⟨fun b L hb hL => ?_, fun b₁ b₂ L₁ L₂ h1 h2 h3 h4 l1 l2 g0 e => ?_, hrel.floor, hrel.glob, fun b hb => ?_⟩
    · rcases Nat.lt_or_ge b (mAt rs m' (s + 1)).size with hlt | hge
      · rw [hgl b hlt]; exact hrel.blk b L hlt hL
      · rw [hout b hge] at hL
        rw [hgh b L hge hb hL]
        have hbr := hI.rel.blk b L hb hL
        by_cases hlv : (M.get b).live
        · exact hbr.mono hstp.ext (hfr b L hge hb hL hlv)
        · cases hg : M.get b <;> simp_all [Blk.live, BlkRel]
    · have mixed : ∀ b₁ b₂ L₁ L₂, b₁ < (mAt rs m' (s + 1)).size → (mAt rs m' (s + 1)).size ≤ b₂ → b₂ < M.size → ι' b₁ = some L₁ → ι' b₂ = some L₂ → (M'.get b₁).live → (M'.get b₂).live → B0 ≤ L₁.block → L₁.block = L₂.block → False := by
        intro b₁ b₂ L₁ L₂ h1 h2 h2' h3 h4 l1 l2 g0 e
        rw [hout b₂ h2] at h4
        rw [hgl b₁ h1] at l1
        rw [hgh b₂ L₂ h2 h2' h4] at l2
        rcases Nat.lt_or_ge b₁ (mAt rs m' s).size with hlt | hge
        · rw [hstp.out b₁ (.inl hlt)] at h3
          have l1' := (R.run.grow1 (i := s) (by omega)).live b₁ hlt l1
          rw [← hI.g1 b₁ hlt] at l1'
          have := hI.rel.inj b₁ b₂ L₁ L₂ (by omega) h2' h3 h4 l1' l2 g0 e
          omega
        · rcases hstp.new b₁ L₁ hge h1 h3 with g | ⟨b0, L0, q1, q2, q3, q4⟩
          · have := hI.rel.old b₂ L₂ h4 l2; omega
          · rw [← hI.g1 b0 q1] at q3
            have l0 : (M.get b0).live := by cases hg : M.get b0 <;> simp_all [Blk.own, Blk.live]
            have := hI.rel.inj b0 b₂ L0 L₂ (by omega) h2' q2 h4 l0 l2 (Nat.le_trans g0 (Nat.le_of_eq q4.symm)) (q4.trans e)
            omega
      rcases Nat.lt_or_ge b₁ (mAt rs m' (s + 1)).size with hlt1 | hge1
      · rcases Nat.lt_or_ge b₂ (mAt rs m' (s + 1)).size with hlt2 | hge2
        · rw [hgl b₁ hlt1] at l1
          rw [hgl b₂ hlt2] at l2
          exact hrel.inj b₁ b₂ L₁ L₂ hlt1 hlt2 h3 h4 l1 l2 g0 e
        · exact (mixed b₁ b₂ L₁ L₂ hlt1 hge2 h2 h3 h4 l1 l2 g0 e).elim
      · rcases Nat.lt_or_ge b₂ (mAt rs m' (s + 1)).size with hlt2 | hge2
        · exact (mixed b₂ b₁ L₂ L₁ hlt2 hge1 h1 h4 h3 l2 l1 (Nat.le_trans g0 (Nat.le_of_eq e)) e.symm).elim
        · rw [hout b₁ hge1] at h3
          rw [hout b₂ hge2] at h4
          rw [hgh b₁ L₁ hge1 h1 h3] at l1
          rw [hgh b₂ L₂ hge2 h2 h4] at l2
          exact hI.rel.inj b₁ b₂ L₁ L₂ h1 h2 h3 h4 l1 l2 g0 e
    · have hb' : M.size ≤ b := hb
      rw [hg', if_neg (by omega)]
      exact hI.rel.top b hb'
  refine ⟨M', s', Inv.slots R hC hI ho hx hstp.ext hv, by omega, fun h => ⟨hs3 (by omega), ?_⟩, fun h h1 h2 => ?_, hI.msz, fun b hb => by rw [hg', if_pos hb], fun j h1 h2 h3 h4 h5 => ?_, fun j hj hxj b h1 h2 => ?_, hrel', ?_, (put_defers _ _ _).trans hI.dfr⟩
  · have hne : s' ≠ s := by omega
    simp only [addX, hne, if_false]
    cases hxs : X s' with
    | false => rfl
    | true =>
      have := R.closed hC h hxs s (R.heavy hi h hks (hs3 (by omega)) (by omega))
      rw [hx] at this; cases this
  · unfold addX; split
    · rfl
    · rename_i hne
      rcases Nat.lt_or_ge h s with hlt | hge
      · exact hI.sb h hlt h2
      · exact absurd h2 (hs4 h (by omega) h1)
  · have hne : j ≠ s := by omega
    have hz := (R.run.mono (i := s') (j := j) (by omega) (by omega)).size
    rw [hg', if_neg (by omega)]
    exact hI.g2 j (by omega) h2 h3 h4 (by simpa [addX, hne] using h5)
  · have hne : j ≠ s := by intro e; rw [e] at hxj; simp [addX] at hxj
    have hxj' : X j = false := by simpa [addX, hne] using hxj
    rw [hstp.out b ?_]
    · exact hI.jn j hj hxj' b h1 h2
    · rcases Nat.lt_or_ge j s with hlt | hge
      · have := (R.run.mono (i := j + 1) (j := s) (by omega) (by omega)).size
        exact .inl (by omega)
      · have := (R.run.mono (i := s + 1) (j := j) (by omega) (by omega)).size
        exact .inr (by omega)
  · exact Stp.inner hI.stp hstp z0 (by omega) hI.g1 rfl (fun b hb => hgl b (by omega))
end
end Go.DI
/-
  DiDraw4: the whole of a region that draws its order; calls.
-/
namespace Go.DI
section
variable {P : Program} {K : TypeId → Bool} {G B0 n : Nat} {cf : CallF} {ops : Array Oper} {t t' : Tmps} {m m' : Mem} {rs : List Rec}
variable {ι0 ι : Ren} {M : Mem} {w0 w : World} {a0 a : Act} {X : Nat → Bool} {s i : Nat} {o : Oper}

/-- What an operation that only computes or reads answers, wherever its turn comes. -/
theorem Inv.quietVal (R : Reg P K G B0 n cf ops t m rs t' m') (hC : Clo ops X) (hI : Inv P B0 G n ops t m rs m' ι0 w0 a0 X ι M s a w) (ho : ops[i]? = some o) (hr : ∀ e ∈ o.after.toList, Region.binds .any e = true → X e.on = true) (hx : X i = false)
    (hk : klass o.op = 0) {r : Rec} (h1 : rs[i]? = some r) (hq : quietD P K G r.t r.m o.op = some r.v) (hw : r.want = true) (hrm : r.m = mAt rs m' i) :
    quietD P K G r.t (mAt rs m' s) o.op = some r.v := by
  have hi : i < ops.size := (Array.getElem?_eq_some_iff.1 ho).1
  have hL : ops.toList.length = ops.size := by simp
  cases hrd : readsB o.op with
  | false => rw [quietD_pure hrd (mAt rs m' s)] at hq; exact hq
  | true =>
    cases hnx : nextB ops.toList i s with
    | true =>
      simp only [nextB, Bool.and_eq_true, List.all_eq_true, List.mem_range, Bool.or_eq_true, Bool.not_eq_true'] at hnx
      obtain ⟨g1, g2⟩ := hnx
      have his : i ≤ s := Nat.le_of_ble_eq_true g1
      rw [hrm] at hq
      refine quietD_ext (R.run.topAt (by omega)) (R.run.kept his (by have := hI.sN; omega) fun h k1 k2 e => ?_) hq
      rcases g2 h k2 with g | g
      · rw [e] at g; cases g
      · have := blt_iff.1 g; omega
    | false =>
      have hfe : feasB ops.toList (tabD ops.toList []) i s = true := by
        simp only [feasB, Bool.and_eq_true, Bool.or_eq_true, List.all_eq_true, List.mem_range, Bool.not_eq_true']
        refine ⟨?_, fun h hh => ?_⟩
        · rcases Nat.lt_or_ge s ops.size with hlt | hge
          · right
            refine ⟨by rw [(hI.sh hlt).1]; rfl, ?_⟩
            cases hb : befB (tabD ops.toList []) s i with
            | false => rfl
            | true => have := R.ready hC ho hr s hb; rw [(hI.sh hlt).2] at this; cases this
          · left
            have : s = ops.size := by have := hI.sN; omega
            rw [this, hL]; exact Nat.beq_refl _
        · cases hkh : Nat.beq (klassAt ops.toList h) 2 with
          | false => exact .inl rfl
          | true =>
            right
            have hX := hI.sb h hh (Nat.eq_of_beq_eq_true hkh)
            cases hb : befB (tabD ops.toList []) i h with
            | false => rfl
            | true => have := R.closed hC (by have := hI.sN; omega) hX i hb; rw [hx] at this; cases this
      have hmem : (i, s) ∈ need1 ops.toList (tabD ops.toList []) := by
        unfold need1
        refine List.mem_flatMap.2 ⟨i, List.mem_range.2 (by omega), ?_⟩
        simp only [Array.getElem?_toList, ho, hk, hrd]
        rw [show (Nat.beq 0 0 && true) = true from rfl, cond_true]
        refine List.mem_filterMap.2 ⟨s, List.mem_range.2 (by have := hI.sN; omega), ?_⟩
        rw [hfe, hnx]; rfl
      have := List.all_eq_true.1 R.c1 _ hmem
      unfold chk1 at this
      simp only [h1, Array.getElem?_toList, ho, hw, Bool.not_true, Bool.false_or] at this
      split at this
      · rename_i v hv
        rw [hv, veq_eq 8 _ _ this]
      · cases this

theorem Inv.listed (R : Reg P K G B0 n cf ops t m rs t' m') (hI : Inv P B0 G n ops t m rs m' ι0 w0 a0 X ι M s a w) (hall : ∀ i, i < ops.size → X i = true) (ht' : tAt rs t' ops.size = t') :
    After B0 G n ι0 m w0 a0 t' m' a w := by
  have hL : ops.toList.length = ops.size := by simp
  have hs : s = ops.size := by
    rcases Nat.lt_or_ge s ops.size with h | h
    · have := (hI.sh h).2; rw [hall s h] at this; cases this
    · have := hI.sN; omega
  have hlast : mAt rs m' ops.size = m' := by rw [← hL]; exact R.run.last
  have hg : ∀ b, b < m'.size → M.get b = m'.get b := fun b hb => by have := hI.g1 b; rw [hs, hlast] at this; exact this hb
  have htop : m'.top := by rw [← hlast]; exact R.run.topAt (by omega)
  have hms : M.size = m'.size := by rw [hI.msz, hlast]
  have hrel := hI.rel.restrict htop (by omega) hg
  have happ : ∀ k, k ≤ ops.size → appX ops.toList rs t X k = appX ops.toList rs t (fun _ => true) k := by
    intro k
    induction k with
    | zero => intro _; rfl
    | succ k ih => intro hk; simp only [appX]; rw [ih (by omega)]; simp [hall k (by omega)]
  refine ⟨ι, ?_, hrel, ⟨hI.stp.ext, fun b hb => hI.stp.out b (by omega), hI.stp.os, hI.stp.output, hI.stp.tape, hI.stp.hsize, hI.stp.frame, fun b L h1 h2 hb => hI.stp.new b L h1 (by omega) hb, by have := hI.stp.msize; omega, fun b hb ho => hI.stp.ownk b hb ?_⟩, hI.dfr⟩
  · have htr := hI.tr
    rw [happ _ (Nat.le_refl _)] at htr
    have : appX ops.toList rs t (fun _ => true) ops.size = t' := by
      obtain ⟨g1, g2, g3, g4⟩ := recD_get _ _ _ _ _ _ R.run.eq
      have ht : ∀ k, k ≤ ops.size → tAt rs t' k = appX ops.toList rs t (fun _ => true) k := by
        intro k
        induction k with
        | zero => intro _; exact g2
        | succ k ih =>
          intro hk
          have ih := ih (by omega)
          have ho' : ops.toList[k]? = some ops[k] := by rw [Array.getElem?_toList]; exact Array.getElem?_eq_getElem (by omega)
          obtain ⟨r, h1, h2, h3, h4, _⟩ := g4 k _ ho'
          rw [h4]
          simp only [appX, if_true, dstAt, ho', valAt, h1]
          rw [← ih]
          simp only [tAt, h1]
      rw [← ht _ (Nat.le_refl _), ht']
    rw [this] at htr
    exact htr
  · have hsz := hI.stp.msize
    rw [hg b (by omega)]; exact ho

/-- One operation, whichever is ready. -/
theorem Inv.step (R : Reg P K G B0 n cf ops t m rs t' m') (hC : Clo ops X) (hI : Inv P B0 G n ops t m rs m' ι0 w0 a0 X ι M s a w) (ho : ops[i]? = some o) (hr : ∀ e ∈ o.after.toList, Region.binds .any e = true → X e.on = true) (hx : X i = false)
    {Q : Exit → Act → World → Prop} {k : Act → World → Prop} (hk : ∀ ι' M' s' a' w', Inv P B0 G n ops t m rs m' ι0 w0 a0 (addX X i) ι' M' s' a' w' → k a' w') : wpOp P ops Q i k a w := by
  have hi : i < ops.size := (Array.getElem?_eq_some_iff.1 ho).1
  have hL : ops.toList.length = ops.size := by simp
  obtain ⟨r, h1, h2, h3, h4, h5, h6, h7⟩ := R.run.step (i := i) (o := o) (by simpa using ho)
  have hka : klassAt ops.toList i = klass o.op := by simp [klassAt, ho]
  have hwa : wantAt rs i = r.want := by simp [wantAt, h1]
  have hva : valAt rs i = r.v := by simp [valAt, h1]
  have hwant := Inv.want R hC hI ho hr hx
  have hev := Inv.evs R hC ho hr hx
  rw [← h2] at hev
  have hhere := Inv.here R hI
  have hheavy : klass o.op = 2 → i = s := by
    intro hk2
    rcases Nat.lt_trichotomy i s with hlt | heq | hgt
    · have := hI.sb i hlt (by rw [hka]; exact hk2); rw [hx] at this; cases this
    · exact heq
    · have hsN : s < ops.size := by omega
      have := R.ready hC ho hr s (R.heavy hsN hi (hI.sh hsN).1 (by rw [hka]; exact hk2) hgt)
      rw [(hI.sh hsN).2] at this; cases this
  unfold wpOp
  simp only [ho]
  cases hw : r.want with
  | false =>
    rw [if_neg (by rw [hwant, hwa, hw]; simp)]
    have hvu : valAt rs i = undef := by rw [hva]; exact (h7 hw).1
    by_cases hk2 : klass o.op = 2
    · obtain rfl := hheavy hk2
      have hmm : mAt rs m' (i + 1) = mAt rs m' i := by rw [(h7 hw).2, h3]
      obtain ⟨M', s', hI'⟩ := Inv.advance R hC hI ho hx (ι' := ι) (w' := w) (v' := undef) (by rw [hmm]; exact hhere) (by rw [hmm]; exact Stp.refl _ _ _) (by rw [hvu]; exact VRel.undef _)
      exact hk _ _ _ _ _ hI'
    · exact hk _ _ _ _ _ (Inv.quiet R hC hI ho hx (by rw [hka]; exact hk2) (fun _ => by rw [hwa, hw]) (by rw [hvu]; exact VRel.undef _))
  | true =>
    rw [if_pos (by rw [hwant, hwa, hw])]
    refine .inl ?_
    have h8 := h6 hw
    unfold opD at h8
    rcases klass_cases o.op with hc | hc | hc
    · rw [hc] at h8
      simp only at h8
      split at h8 <;> simp at h8
      rename_i v hv
      have hv' : quietD P K G r.t r.m o.op = some r.v := by rw [hv, h8.1]
      have hq := Inv.quietVal R hC hI ho hr hx hc h1 hv' hw h3
      rw [← quietD_congr (m := mAt rs m' s) hev] at hq
      obtain ⟨v', g1, g2⟩ := quiet_ok R.hK hhere hI.tr hq
      unfold Oper.wp
      rw [g1]
      exact hk _ _ _ _ _ (Inv.quiet R hC hI ho hx (by rw [hka, hc]; decide) (fun e => by rw [hka, hc] at e; cases e) (by rw [hva]; exact g2))
    · rw [hc] at h8
      simp only at h8
      split at h8 <;> simp at h8
      rename_i x q hxq
      rw [← allocD_congr hev] at hxq
      obtain ⟨ob, kk, g1, g2⟩ := allocD_run (P := P) hI.rel hI.tr hxq
      obtain ⟨ι', M', hI'⟩ := Inv.alloc R hC hI ho hx (by rw [hka]; exact hc) (x := x) (q := q) (by rw [hva, ← h8.1, h3]) (by rw [← h8.2, h3]) (by rw [hwa, hw]) g2
      unfold Oper.wp
      rw [g1]
      exact hk _ _ _ _ _ hI'
    · obtain rfl := hheavy hc
      rw [hc] at h8
      simp only at h8
      rw [← heavyD_congr (cf := cf) (m := r.m) hev, h3] at h8
      refine heavy_wp R.hK R.hcf hhere hI.tr h8 (fun b q1 q2 => hI.jn i hi hx b q1 q2) fun ι' v' w' g1 g2 g3 => ?_
      obtain ⟨M', s', hI'⟩ := Inv.advance R hC hI ho hx g2 g3 (by rw [hva]; exact g1)
      exact hk _ _ _ _ _ hI'

theorem count_set {l : List Bool} {i : Nat} (h : l[i]? = some false) : (l.set i true).count false + 1 = l.count false := by
  induction l generalizing i with
  | nil => simp at h
  | cons b l ih =>
    cases i with
    | zero => simp at h; subst h; simp
    | succ i =>
      simp at h
      have := ih h
      simp only [List.set_cons_succ, List.count_cons]
      omega

theorem region_any (R : Reg P K G B0 n cf ops t m rs t' m') (ht' : tAt rs t' ops.size = t') {Q : Exit → Act → World → Prop} (hQ : ∀ a' w', After B0 G n ι0 m w0 a0 t' m' a' w' → Q .normal a' w') :
    ∀ (fuel : Nat) (listed : Array Bool) (ι : Ren) (M : Mem) (s : Nat) (a : Act) (w : World), listed.size = ops.size → listed.toList.count false = fuel → Clo ops (fun k => listed.getD k false) →
      Inv P B0 G n ops t m rs m' ι0 w0 a0 (fun k => listed.getD k false) ι M s a w → wpAny P .any ops Q fuel listed a w := by
  intro fuel
  have hL : ops.toList.length = ops.size := by simp
  have hdone : ∀ (listed : Array Bool), listed.size = ops.size → Region.ready .any ops listed = [] → ∀ i, i < ops.size → listed.getD i false = true := by
    intro listed hsz hrd i
    induction i using Nat.strongRecOn with
    | _ i ih =>
      intro hi
      cases hl : listed.getD i false with
      | true => rfl
      | false =>
        exfalso
        have : i ∈ Region.ready .any ops listed := by
          rw [mem_ready]
          refine ⟨?_, ops[i], Array.getElem?_eq_getElem hi, fun e he hb => ?_⟩
          · have hi' : i < listed.size := by omega
            simp [hi'] at hl ⊢; exact hl
          · have hlt := edgesB_spec ops.toList 0 R.edges i ops[i] (by rw [Array.getElem?_toList]; exact Array.getElem?_eq_getElem hi) e (by simpa using he) hb
            exact ih e.on (by omega) (by omega)
        rw [hrd] at this
        cases this
  have hstep : ∀ (fuel : Nat) (listed : Array Bool) (ι : Ren) (M : Mem) (s : Nat) (a : Act) (w : World), listed.size = ops.size → listed.toList.count false = fuel + 1 → Clo ops (fun k => listed.getD k false) →
      Inv P B0 G n ops t m rs m' ι0 w0 a0 (fun k => listed.getD k false) ι M s a w →
      (∀ (listed : Array Bool) (ι : Ren) (M : Mem) (s : Nat) (a : Act) (w : World), listed.size = ops.size → listed.toList.count false = fuel → Clo ops (fun k => listed.getD k false) →
        Inv P B0 G n ops t m rs m' ι0 w0 a0 (fun k => listed.getD k false) ι M s a w → wpAny P .any ops Q fuel listed a w) →
      ∀ i ∈ Region.ready .any ops listed, wpOp P ops Q i (wpAny P .any ops Q fuel (listed.setIfInBounds i true)) a w := by
    intro fuel listed ι M s a w hsz hcnt hC hI ih i hi
    rw [mem_ready] at hi
    obtain ⟨h0, o, ho, hall⟩ := hi
    have hiN : i < ops.size := (Array.getElem?_eq_some_iff.1 ho).1
    have hil : i < listed.size := by omega
    have hxf : listed.getD i false = false := by simp [hil] at h0 ⊢; exact h0
    refine Inv.step R hC hI ho (fun e he hb => hall e (by simpa using he) hb) hxf fun ι' M' s' a' w' hI' => ?_
    have hXe : (fun k => (listed.setIfInBounds i true).getD k false) = addX (fun k => listed.getD k false) i := by
      funext k
      unfold addX
      by_cases e : k = i
      · subst e; simp [hil]
      · simp only [e, if_false]
        rw [getD_set_ne false (Ne.symm e)]
    refine ih _ ι' M' s' a' w' (by simp [hsz]) ?_ ?_ (by rw [hXe]; exact hI')
    · have hlf : listed.toList[i]? = some false := by
        rw [Array.getElem?_toList, Array.getElem?_eq_getElem hil]
        simp [hil] at hxf
        rw [hxf]
      have := count_set hlf
      have e1 : (listed.setIfInBounds i true).toList = listed.toList.set i true := by simp
      rw [e1]; omega
    · intro j oj hj hxj e he hb
      by_cases hji : j = i
      · subst hji
        have : oj = o := by
          rw [Array.getElem?_toList, ho] at hj
          exact (Option.some.inj hj).symm
        subst this
        exact getD_set_true (hall e (by simpa using he) hb)
      · refine getD_set_true (hC j oj hj ?_ e he hb)
        have hxj2 : (listed.setIfInBounds i true).getD j false = true := hxj
        rw [getD_set_ne false (Ne.symm hji)] at hxj2
        exact hxj2
  induction fuel with
  | zero =>
    intro listed ι M s a w hsz hcnt hC hI
    have hall : ∀ i, i < ops.size → listed.getD i false = true := by
      intro i hi
      cases hl : listed.getD i false with
      | true => rfl
      | false =>
        exfalso
        have hil : i < listed.size := by omega
        have : false ∈ listed.toList := by
          simp [hil] at hl
          rw [← hl]
          exact Array.getElem_mem_toList hil
        have := List.count_pos_iff.2 this
        omega
    refine ⟨?_, hQ a w (Inv.listed R hI hall ht')⟩
    cases hrd : Region.ready .any ops listed with
    | nil => rfl
    | cons i l =>
      exfalso
      have hi : i ∈ Region.ready .any ops listed := by rw [hrd]; simp
      rw [mem_ready] at hi
      obtain ⟨h0, o, ho, _⟩ := hi
      have hiN : i < ops.size := (Array.getElem?_eq_some_iff.1 ho).1
      have hil : i < listed.size := by omega
      have := hall i hiN
      simp [hil] at h0 this
      rw [h0] at this; cases this
  | succ fuel ih =>
    intro listed ι M s a w hsz hcnt hC hI
    exact ⟨fun hrd => hQ a w (Inv.listed R hI (hdone listed hsz hrd) ht'), hstep fuel listed ι M s a w hsz hcnt hC hI ih⟩

theorem draw_any (hK : Plain P K) (hcf : CfOK P B0 G cf) (hg : CfGrw cf) {Q : Exit → Act → World → Prop} (h : drawD P K G cf n ops.toList t m = some (t', m')) (hr : Rel B0 G ι m w) (ht : TRel ι n t a) (hf : Fresh ι m.size m'.size)
    (hQ : ∀ a' w', After B0 G n ι m w a t' m' a' w' → Q .normal a' w') : wpAny P .any ops Q ops.size (Array.replicate ops.size false) a { w with drawn := w.drawn + 1 } := by
  unfold drawD at h
  split at h <;> try (simp at h; done)
  rename_i hstat
  split at h <;> try (simp at h; done)
  rename_i rs t₁ m₁ hrec
  split at h <;> try (simp at h; done)
  rename_i hc1
  split at h <;> simp at h
  rename_i hc2
  obtain ⟨rfl, rfl⟩ := h
  have hL : ops.toList.length = ops.size := by simp
  have R : Reg P K G B0 n cf ops t m rs t₁ m₁ := ⟨hK, hcf, ⟨hrec, hg, hr.top⟩, hstat, hc1, hc2⟩
  have hlast : mAt rs m₁ ops.size = m₁ := by rw [← hL]; exact R.run.last
  have htl : tAt rs t₁ ops.size = t₁ := by unfold tAt; rw [List.getElem?_eq_none (by rw [R.run.len]; omega)]
  have hrd := hr.drew
  obtain ⟨s, hs1, hs2, hs3, hs4⟩ := next_heavy ops.toList ops.size 0 (by omega)
  have hkept := R.run.kept (i := 0) (j := s) (by omega) hs2 (fun h _ g2 => hs4 h (by omega) g2)
  rw [R.run.zero] at hkept
  have z1 := (R.run.mono (i := 0) (j := s) (by omega) hs2).size
  have z2 := (R.run.mono (i := s) (j := ops.size) (by omega) (by omega)).size
  rw [R.run.zero] at z1
  rw [hlast] at z2
  let M : Mem := ⟨fun b => if b < (mAt rs m₁ s).size then (mAt rs m₁ s).get b else .none, .nil, m₁.size⟩
  have hgM : ∀ b, M.get b = if b < (mAt rs m₁ s).size then (mAt rs m₁ s).get b else .none := fun b => by simp [M, Mem.get, Tr.get_nil]
  have hlow : ∀ b L, b < m₁.size → ι b = some L → b < m.size := by
    intro b L h1 h2
    rcases Nat.lt_or_ge b m.size with h3 | h3
    · exact h3
    · rw [hf b h3 h1] at h2; cases h2
  have hgl : ∀ b, b < m.size → M.get b = m.get b := fun b hb => by rw [hgM, if_pos (by omega)]; exact hkept b hb
  have hrelM : Rel B0 G ι M w.drew := by
    refine ⟨fun b L hb hL => ?_, fun b₁ b₂ L₁ L₂ h1 h2 h3 h4 l1 l2 g0 e => ?_, hrd.1.floor, hrd.1.glob, fun b hb => ?_⟩
    · have := hlow b L hb hL
      rw [hgl b this]; exact hrd.1.blk b L this hL
    · have q1 := hlow b₁ L₁ h1 h3
      have q2 := hlow b₂ L₂ h2 h4
      rw [hgl b₁ q1] at l1
      rw [hgl b₂ q2] at l2
      exact hrd.1.inj b₁ b₂ L₁ L₂ q1 q2 h3 h4 l1 l2 g0 e
    · have hb' : m₁.size ≤ b := hb
      rw [hgM]; split
      · omega
      · rfl
  have hdr : ({ w with drawn := w.drawn + 1 } : World) = w.drew := rfl
  rw [hdr]
  have hX0 : ∀ k, (Array.replicate ops.size false).getD k false = false := fun k => by
    rcases Nat.lt_or_ge k ops.size with h | h
    · simp [h]
    · simp [h]
  refine region_any (ι0 := ι) (w0 := w.drew) (a0 := a) R htl (fun a' w' ha => hQ a' w' (After.trans hrd.2 rfl ha)) ops.size (Array.replicate ops.size false) ι M s a w.drew (by simp) (by simp) ?_ ?_
  · intro j o _ hx
    have hx2 : (Array.replicate ops.size false).getD j false = true := hx
    rw [hX0 j] at hx2
    cases hx2
  · have happ : appX ops.toList rs t (fun k => (Array.replicate ops.size false).getD k false) ops.size = t := by
      have : ∀ k, appX ops.toList rs t (fun k => (Array.replicate ops.size false).getD k false) k = t := by
        intro k
        induction k with
        | zero => rfl
        | succ k ih =>
          simp only [appX]
          have h0 := hX0 k
          split
          · rename_i h1; rw [h0] at h1; cases h1
          · exact ih
      exact this _
    refine ⟨by rw [happ]; exact ht, by omega, fun h => ⟨hs3 (by omega), hX0 _⟩, fun h h1 h2 => absurd h2 (hs4 h (by omega) h1), hlast.symm ▸ rfl, fun b hb => by rw [hgM, if_pos hb], fun i _ _ _ _ h5 => (by have h6 : (Array.replicate ops.size false).getD i false = true := h5; rw [hX0] at h6; cases h6), fun i hi _ b h1 h2 => hf b ?_ ?_, hrelM, ?_, rfl⟩
    · have := (R.run.mono (i := 0) (j := i) (by omega) (by omega)).size
      rw [R.run.zero] at this; omega
    · have := (R.run.mono (i := i + 1) (j := ops.size) (by omega) (by omega)).size
      rw [hlast] at this; omega
    · refine ⟨fun _ _ h => h, fun _ _ => rfl, rfl, rfl, rfl, Nat.le_refl _, fun _ _ _ => rfl, fun b L h1 h2 hb => ?_, by show m.size ≤ m₁.size; omega, fun b hb ho => ?_⟩
      · rw [hf b h1 h2] at hb; cases hb
      · rw [hgl b hb] at ho; exact ho

theorem draw_wp (hmix : P.follows .mixedOrders = true) (hK : Plain P K) (hcf : CfOK P B0 G cf) (hg : CfGrw cf) {id : Nat} {Q : Exit → Act → World → Prop} (h : drawD P K G cf n ops.toList t m = some (t', m')) (hr : Rel B0 G ι m w) (ht : TRel ι n t a) (hf : Fresh ι m.size m'.size)
    (hQ : ∀ a' w', After B0 G n ι m w a t' m' a' w' → Q .normal a' w') : (Code.region id ops true).wp P Q a w := wp_region_any hmix (draw_any hK hcf hg h hr ht hf hQ)
theorem drawD_grw (hg : CfGrw cf) {l : List Oper} (h : drawD P K G cf n l t m = some (t', m')) : Grw m m' := by
  unfold drawD at h
  split at h <;> try (simp at h; done)
  split at h <;> try (simp at h; done)
  rename_i rs t₁ m₁ hrec
  split at h <;> try (simp at h; done)
  split at h <;> simp at h
  obtain ⟨rfl, rfl⟩ := h
  have key : ∀ (ops l : List Oper) (t : Tmps) (m : Mem) (rs : List Rec) (t' : Tmps) (m' : Mem), recD P K G cf n ops l t m = some (rs, t', m') → Grw m m' := by
    intro ops l
    induction l with
    | nil => intro t m rs t' m' h; simp [recD] at h; rw [h.2.2]; exact Grw.refl _
    | cons o l ih =>
      intro t m rs t' m' h
      simp only [recD] at h
      split at h <;> try (simp at h; done)
      split at h
      · split at h <;> try (simp at h; done)
        rename_i v m₂ hv
        split at h <;> simp at h
        rename_i h1
        rw [← h.2.2]
        exact (opD_grw hg hv).trans (ih _ _ _ _ _ h1)
      · split at h <;> simp at h
        rename_i h1
        rw [← h.2.2]
        exact ih _ _ _ _ _ h1
  exact key _ _ _ _ _ _ _ hrec

theorem drawOK (hmix : P.follows .mixedOrders = true) (hK : Plain P K) (hcf : CfOK P B0 G cf) (hg : CfGrw cf) : DrawOK P B0 G n (drawD P K G cf n) :=
  ⟨fun ops t m t' m' h => (drawD_grw hg h).size, fun ops id ι t m w a t' m' Q h hr ht hf hQ => draw_wp hmix hK hcf hg h hr ht hf hQ⟩

/-! ### calls -/

theorem initT_at : ∀ (l : List Value) (i d : Nat), (initT i l).at d = if i ≤ d then (match l[d - i]? with | some v => v | none => undef) else undef
  | [], i, d => by
    have : (initT i [] : Tmps).at d = undef := by simp [initT, Tmps.at, Tr.get_nil]
    rw [this]; simp
  | v :: l, i, d => by
    simp only [initT, Tmps.at_set, initT_at l (i + 1) d]
    by_cases h1 : d = i
    · subst h1; simp
    · simp only [h1, if_false]
      by_cases h2 : i + 1 ≤ d
      · rw [if_pos h2, if_pos (by omega), show d - i = (d - (i + 1)) + 1 by omega]; rfl
      · rw [if_neg h2, if_neg (by omega)]

theorem resD_ok (hr : Rel B0 G ι m w) (ht : TRel ι n t a) : ∀ {l : List ResultVar} {vs : List Value}, resD P t m l = some vs →
    ∃ vs', (l.mapM (fun (q : ResultVar) => (match q with | .tmp t => (pure (a.tmps.getD t undef) : Sem Value) | .cell x t => (do loadVar t (← asAddr (a.tmps.getD x undef)) : Sem Value)))).run P w = .ok vs' w ∧ VRels ι vs vs'
  | [], vs, h => by simp [resD] at h; subst h; exact ⟨[], by simp, .nil⟩
  | .tmp d :: l, vs, h => by
    simp only [resD] at h
    split at h <;> simp at h
    rename_i us hus
    subst h
    obtain ⟨us', h1, h2⟩ := resD_ok hr ht hus
    refine ⟨a.tmps.getD d undef :: us', ?_, .cons (ht.2 d) h2⟩
    rw [List.mapM_cons]
    simp only [Sem.run_bind, Sem.run_pure, Result.andThen_ok, h1]
  | .cell x ty :: l, vs, h => by
    simp only [resD] at h
    split at h <;> try (simp at h; done)
    rename_i v hv
    split at h <;> simp at h
    rename_i us hus
    subst h
    obtain ⟨us', h1, h2⟩ := resD_ok hr ht hus
    obtain ⟨v', g1, g2⟩ := loadD_ok (P := P) hr (ht.2 x) hv
    have hp : ∃ ad, a.tmps.getD x undef = .pointer (some ad) := by
      have := ht.2 x
      unfold loadD at hv
      split at hv <;> try (simp at hv; done)
      rename_i b off hb
      rw [hb] at this
      obtain ⟨L, _, e⟩ := this.inv_ptr
      exact ⟨_, e⟩
    obtain ⟨ad, had⟩ := hp
    refine ⟨v' :: us', ?_, .cons g2 h2⟩
    rw [List.mapM_cons]
    rw [had] at g1
    simp only [Instr.loadAt, Instr.sureAddr, Sem.run_bind, Sem.run_pure, Result.andThen_ok] at g1
    have hA : (asAddr (a.tmps.getD x undef)).run P w = .ok ad w := by rw [had]; rfl
    simp only [Sem.run_bind, Sem.run_pure, Result.andThen_ok, hA, g1, h1]

theorem results_ok (hr : Rel B0 G ι m w) (ht : TRel ι n t a) {fn : Func} {vs : List Value} (h : resD P t m fn.results.toList = some vs) : ∃ v', (results fn a.tmps).run P w = .ok v' w ∧ VRel ι (resV vs) v' := by
  obtain ⟨vs', h1, h2⟩ := resD_ok hr ht h
  have hm : (fn.results.mapM (fun (q : ResultVar) => (match q with | .tmp t => (pure (a.tmps.getD t undef) : Sem Value) | .cell x t => (do loadVar t (← asAddr (a.tmps.getD x undef)) : Sem Value)))).run P w = .ok vs'.toArray w := by
    rw [Array.mapM_eq_mapM_toList]
    simp only [Sem.run_map, h1, Result.andThen_ok]
  refine ⟨if h : vs'.toArray.size = 1 then vs'.toArray[0] else .tuple vs'.toArray, ?_, ?_⟩
  · simp only [results, Sem.run_bind]
    change (((fn.results.mapM (fun (q : ResultVar) => (match q with | .tmp t => (pure (a.tmps.getD t undef) : Sem Value) | .cell x t => (do loadVar t (← asAddr (a.tmps.getD x undef)) : Sem Value)))).run P w).andThen _) = _
    rw [hm]
    rfl
  · cases h2 with
    | nil => exact VRel.tuple' .nil
    | cons h0 t0 =>
      cases t0 with
      | nil => simpa [resV] using h0
      | cons h0' t0' =>
        simp only [resV]
        rw [dif_neg (by simp)]
        exact VRel.tuple' (.cons h0 (.cons h0' t0'))

/-- No function with a body has that name. -/
def NoNG (P : Program) : Prop := ∀ (f : FuncId) (fn : Func), P.funcs[f]? = some fn → fn.body.isNone = false → (fn.name == "runtime.NumGoroutine") = false


end
end Go.DI
/-
  DiStrict: the same interpreter, told so that the kernel works everything out at once ('callS'); it is the same function (callS_eq).
-/
namespace Go.DI
section
variable {α : Type}















/-- What is done with an answer. -/
def onV (r : Option (Value × Mem)) (k : Value → Mem → Option α) : Option α := match r with | some (v, m) => k v m | none => none

theorem onV_ite {c : Prop} [Decidable c] (a : Option (Value × Mem)) (k : Value → Mem → Option α) : onV (if c then a else none) k = if c then onV a k else none := by split <;> rfl
theorem ite_same {c : Prop} [Decidable c] {a b x : Option α} (h : c → a = b) : (if c then a else x) = (if c then b else x) := by
  split
  · exact h ‹_›
  · rfl


section
variable (P : Program) (K : TypeId → Bool) (G : Nat)








/-! the tables of a drawing region, worked out once -/



end
end
end Go.DI
/-
  (by symify.py, out of DiFast1: any answer type, nothing forced.) DiFast: the same interpreter again, told by recursors alone and with continuations: the kernel works it out some ten times quicker than 'callD'.
-/
namespace Go.DI.Y
noncomputable section
variable {α : Type}
def ob {β : Type} (r : Option β) (q : β → Option α) : Option α := match r with | some v => q v | none => none
@[simp] theorem ob_some {β : Type} (v : β) (q : β → Option α) : ob (some v) q = q v := rfl
@[simp] theorem ob_none {β : Type} (q : β → Option α) : ob none q = none := rfl

/-! ### tries -/
section
variable {β : Type}
def lookF (l : List (Nat × β)) : Nat → Option β :=
  List.rec (motive := fun _ => Nat → Option β) (fun _ => none) (fun x _ ih k => Prod.rec (motive := fun _ => Option β) (fun j v => Bool.rec (motive := fun _ => Option β) (ih k) (some v) (Nat.beq j k)) x) l
theorem lookF_eq (k : Nat) : ∀ l : List (Nat × β), lookF l k = Tr.look k l
  | [] => rfl
  | (j, v) :: l => by
    have ih := lookF_eq k l
    simp only [Tr.look]
    rw [← ih]
    show Bool.rec (motive := fun _ => Option β) _ _ (Nat.beq j k) = _
    cases Nat.beq j k <;> rfl

def getF (t : Tr β) : Nat → Nat → Option β :=
  Tr.rec (motive := fun _ => Nat → Nat → Option β) (fun _ _ => none)
    (fun l _ k => lookF l k)
    (fun _ _ il ir p k => Nat.rec (motive := fun _ => Option β) (il (Nat.div p 2) k) (fun _ _ => ir (Nat.div p 2) k) (Nat.mod p 2)) t

theorem bit_cases (p : Nat) : (Nat.mod p 2 = 0 ∧ Nat.beq (p % 2) 0 = true) ∨ (Nat.mod p 2 = 1 ∧ Nat.beq (p % 2) 0 = false) := by
  have : p % 2 = 0 ∨ p % 2 = 1 := by omega
  rcases this with h | h
  · exact .inl ⟨h, by rw [h]; rfl⟩
  · exact .inr ⟨h, by rw [h]; rfl⟩

theorem getF_eq (k : Nat) : ∀ (t : Tr β) (p : Nat), getF t p k = Tr.get t p k
  | .nil, p => rfl
  | .bucket l, p => lookF_eq k l
  | .node l r, p => by
      have il := getF_eq k l (p / 2)
      have ir := getF_eq k r (p / 2)
      simp only [Tr.get]
      rw [← il, ← ir]
      show Nat.rec (motive := fun _ => Option β) _ _ (Nat.mod p 2) = _
      rcases bit_cases p with ⟨h1, h2⟩ | ⟨h1, h2⟩ <;> rw [h1, h2] <;> rfl

def updF (key : Nat) (v : β) (l : List (Nat × β)) : (List (Nat × β) → Option α) → Option α :=
  List.rec (motive := fun _ => (List (Nat × β) → Option α) → Option α) (fun q => q [(key, v)])
    (fun x l ih q => Prod.rec (motive := fun _ => Option α) (fun j u => Bool.rec (motive := fun _ => Option α) (ih fun r => q ((j, u) :: r)) (q ((key, v) :: l)) (Nat.beq j key)) x) l
theorem updF_eq (key : Nat) (v : β) : ∀ (l : List (Nat × β)) (q : List (Nat × β) → Option α), updF key v l q = q (Tr.upd key v l)
  | [], q => rfl
  | (j, u) :: l, q => by
    have ih := updF_eq key v l fun r => q ((j, u) :: r)
    simp only [Tr.upd]
    show Bool.rec (motive := fun _ => Option α) (updF key v l fun r => q ((j, u) :: r)) _ (Nat.beq j key) = _
    rw [ih]
    cases Nat.beq j key <;> rfl

def putN (d : Nat) : Nat → Nat → β → (Tr β → Option α) → Option α :=
  Nat.rec (motive := fun _ => Nat → Nat → β → (Tr β → Option α) → Option α) (fun _ key v q => q (.bucket [(key, v)]))
    (fun _ ih p key v q => Nat.rec (motive := fun _ => Option α) (ih (Nat.div p 2) key v fun l => q (.node l .nil)) (fun _ _ => ih (Nat.div p 2) key v fun r => q (.node .nil r)) (Nat.mod p 2)) d
theorem putN_eq (key : Nat) (v : β) : ∀ (d p : Nat) (q : Tr β → Option α), putN d p key v q = q (Tr.new d p key v)
  | 0, p, q => rfl
  | d + 1, p, q => by
    have ih := putN_eq key v d (p / 2)
    simp only [Tr.new]
    show Nat.rec (motive := fun _ => Option α) (putN d (p / 2) key v fun l => q (.node l .nil)) (fun _ _ => putN d (p / 2) key v fun r => q (.node .nil r)) (Nat.mod p 2) = _
    rw [ih, ih]
    rcases bit_cases p with ⟨h1, h2⟩ | ⟨h1, h2⟩ <;> rw [h1, h2] <;> rfl

def putF (t : Tr β) : Nat → Nat → Nat → β → (Tr β → Option α) → Option α :=
  Tr.rec (motive := fun _ => Nat → Nat → Nat → β → (Tr β → Option α) → Option α)
    (fun d p key v q => putN d p key v q)
    (fun l _ _ key v q => updF key v l fun l => q (.bucket l))
    (fun l r il ir d p key v q => Nat.rec (motive := fun _ => Option α) (il (Nat.sub d 1) (Nat.div p 2) key v fun l => q (.node l r)) (fun _ _ => ir (Nat.sub d 1) (Nat.div p 2) key v fun r => q (.node l r)) (Nat.mod p 2)) t
theorem putF_eq (key : Nat) (v : β) : ∀ (t : Tr β) (d p : Nat) (q : Tr β → Option α), putF t d p key v q = q (Tr.put t d p key v)
  | .nil, d, p, q => putN_eq key v d p q
  | .bucket l, d, p, q => updF_eq key v l _
  | .node l r, d, p, q => by
      have il := fun q => putF_eq key v l (d - 1) (p / 2) q
      have ir := fun q => putF_eq key v r (d - 1) (p / 2) q
      simp only [Tr.put]
      show Nat.rec (motive := fun _ => Option α) (putF l (d - 1) (p / 2) key v fun l => q (.node l r)) (fun _ _ => putF r (d - 1) (p / 2) key v fun r => q (.node l r)) (Nat.mod p 2) = _
      rw [il, ir]
      rcases bit_cases p with ⟨h1, h2⟩ | ⟨h1, h2⟩ <;> rw [h1, h2] <;> rfl
end

def setTF (t : Tmps) (d : Nat) (v : Value) (q : Tmps → Option α) : Option α := putF t 6 d d v q
theorem setTF_eq (t : Tmps) (d : Nat) (v : Value) (q : Tmps → Option α) : setTF t d v q = q (t.set d v) := putF_eq _ _ _ _ _ _
def setMF (m : Mem) (b : Nat) (x : Blk) (q : Mem → Option α) : Option α := q (m.set b x)
theorem setMF_eq (m : Mem) (b : Nat) (x : Blk) (q : Mem → Option α) : setMF m b x q = q (m.set b x) := rfl
def frcN (n : Nat) (q : Nat → Option α) : Option α := q n
theorem frcN_eq (n : Nat) (q : Nat → Option α) : frcN n q = q n := rfl
def pushMF (m : Mem) (x : Blk) (q : Mem → Option α) : Option α := q (m.push x)
theorem pushMF_eq (m : Mem) (x : Blk) (q : Mem → Option α) : pushMF m x q = q (m.push x) := rfl
def getTF (t : Tmps) (d : Nat) (q : Value → Option α) : Option α := Option.rec (motive := fun _ => Option α) (q undef) (fun v => q v) (getF t d d)
theorem getTF_eq (t : Tmps) (d : Nat) (q : Value → Option α) : getTF t d q = q (t.at d) := by
  unfold getTF Tmps.at
  rw [getF_eq]
  cases Tr.get t d d <;> rfl
def getBF (m : Mem) (b : Nat) : Blk := m.get b
theorem getBF_eq (m : Mem) (b : Nat) : getBF m b = m.get b := rfl
def cellsOf (x : Blk) : (Bool → List Value → Option α) → Option α := Blk.rec (motive := fun _ => (Bool → List Value → Option α) → Option α) (fun _ => none) (fun o c q => q o c) (fun _ _ _ _ => none) (fun _ _ _ => none) x

/-! ### values -/
def asPtr (v : Value) : (Nat → Nat → Option α) → Option α :=
  Value.rec (motive_1 := fun _ => (Nat → Nat → Option α) → Option α) (motive_2 := fun _ => Unit) (motive_3 := fun _ => Unit)
    (fun _ _ => none)
    (fun _ _ _ => none)
    (fun _ _ _ => none)
    (fun _ _ _ _ => none)
    (fun _ _ => none)
    (fun a q => Option.rec (motive := fun _ => Option α) none (fun ad => Addr.rec (motive := fun _ => Option α) (fun b off sp => Option.rec (motive := fun _ => Option α) (q b off) (fun _ => none) sp) ad) a)
    (fun _ _ _ _ => none)
    (fun _ _ => none)
    (fun _ _ => none)
    (fun _ _ _ _ _ _ => none)
    (fun  _ => none)
    (fun _ _ _ _ => none)
    (fun  _ => none)
    (fun _ _ _ => none)
    (fun _ _ _ => none)
    (fun _ _ => ()) () (fun _ _ _ _ => ()) v
def asSlc (v : Value) : (Nat → Nat → Nat → Option α) → Option α :=
  Value.rec (motive_1 := fun _ => (Nat → Nat → Nat → Option α) → Option α) (motive_2 := fun _ => Unit) (motive_3 := fun _ => Unit)
    (fun _ _ => none)
    (fun _ _ _ => none)
    (fun _ _ _ => none)
    (fun _ _ _ _ => none)
    (fun _ _ => none)
    (fun _ _ => none)
    (fun a n _ q => Option.rec (motive := fun _ => Option α) none (fun ad => Addr.rec (motive := fun _ => Option α) (fun b off _ => q b off n) ad) a)
    (fun _ _ => none)
    (fun _ _ => none)
    (fun _ _ _ _ _ _ => none)
    (fun  _ => none)
    (fun _ _ _ _ => none)
    (fun  _ => none)
    (fun _ _ _ => none)
    (fun _ _ _ => none)
    (fun _ _ => ()) () (fun _ _ _ _ => ()) v
def asAgg (v : Value) : (Array Value → Option α) → Option α → Option α :=
  Value.rec (motive_1 := fun _ => (Array Value → Option α) → Option α → Option α) (motive_2 := fun _ => Unit) (motive_3 := fun _ => Unit)
    (fun _ _ d => d)
    (fun _ _ _ d => d)
    (fun _ _ _ d => d)
    (fun _ _ _ _ d => d)
    (fun _ _ d => d)
    (fun _ _ d => d)
    (fun _ _ _ _ d => d)
    (fun _ _ d => d)
    (fun _ _ d => d)
    (fun _ _ _ _ _ _ d => d)
    (fun  _ d => d)
    (fun _ _ _ _ d => d)
    (fun  _ d => d)
    (fun cs _ q _ => q cs)
    (fun _ _ _ d => d)
    (fun _ _ => ()) () (fun _ _ _ _ => ()) v
def asSl (v : Value) : (Option Addr → Nat → Nat → Option α) → Option α → Option α :=
  Value.rec (motive_1 := fun _ => (Option Addr → Nat → Nat → Option α) → Option α → Option α) (motive_2 := fun _ => Unit) (motive_3 := fun _ => Unit)
    (fun _ _ d => d)
    (fun _ _ _ d => d)
    (fun _ _ _ d => d)
    (fun _ _ _ _ d => d)
    (fun _ _ d => d)
    (fun _ _ d => d)
    (fun a n c q _ => q a n c)
    (fun _ _ d => d)
    (fun _ _ d => d)
    (fun _ _ _ _ _ _ d => d)
    (fun  _ d => d)
    (fun _ _ _ _ d => d)
    (fun  _ d => d)
    (fun _ _ _ d => d)
    (fun _ _ _ d => d)
    (fun _ _ => ()) () (fun _ _ _ _ => ()) v
def asPt (v : Value) : (Option Addr → Option α) → Option α → Option α :=
  Value.rec (motive_1 := fun _ => (Option Addr → Option α) → Option α → Option α) (motive_2 := fun _ => Unit) (motive_3 := fun _ => Unit)
    (fun _ _ d => d)
    (fun _ _ _ d => d)
    (fun _ _ _ d => d)
    (fun _ _ _ _ d => d)
    (fun _ _ d => d)
    (fun a q _ => q a)
    (fun _ _ _ _ d => d)
    (fun _ _ d => d)
    (fun _ _ d => d)
    (fun _ _ _ _ _ _ d => d)
    (fun  _ d => d)
    (fun _ _ _ _ d => d)
    (fun  _ d => d)
    (fun _ _ _ d => d)
    (fun _ _ _ d => d)
    (fun _ _ => ()) () (fun _ _ _ _ => ()) v
def asTup (v : Value) : (Array Value → Option α) → Option α :=
  Value.rec (motive_1 := fun _ => (Array Value → Option α) → Option α) (motive_2 := fun _ => Unit) (motive_3 := fun _ => Unit)
    (fun _ _ => none)
    (fun _ _ _ => none)
    (fun _ _ _ => none)
    (fun _ _ _ _ => none)
    (fun _ _ => none)
    (fun _ _ => none)
    (fun _ _ _ _ => none)
    (fun _ _ => none)
    (fun _ _ => none)
    (fun _ _ _ _ _ _ => none)
    (fun  _ => none)
    (fun _ _ _ _ => none)
    (fun  _ => none)
    (fun _ _ _ => none)
    (fun cs _ q => q cs)
    (fun _ _ => ()) () (fun _ _ _ _ => ()) v
def asInt (v : Value) : (IntKind → Int → Option α) → Option α → Option α :=
  Value.rec (motive_1 := fun _ => (IntKind → Int → Option α) → Option α → Option α) (motive_2 := fun _ => Unit) (motive_3 := fun _ => Unit)
    (fun _ _ d => d)
    (fun k n q _ => q k n)
    (fun _ _ _ d => d)
    (fun _ _ _ _ d => d)
    (fun _ _ d => d)
    (fun _ _ d => d)
    (fun _ _ _ _ d => d)
    (fun _ _ d => d)
    (fun _ _ d => d)
    (fun _ _ _ _ _ _ d => d)
    (fun  _ d => d)
    (fun _ _ _ _ d => d)
    (fun  _ d => d)
    (fun _ _ _ d => d)
    (fun _ _ _ d => d)
    (fun _ _ => ()) () (fun _ _ _ _ => ()) v
def asBool (v : Value) : Option α → Option α → Option α :=
  Value.rec (motive_1 := fun _ => Option α → Option α → Option α) (motive_2 := fun _ => Unit) (motive_3 := fun _ => Unit)
    (fun b x y => Bool.rec (motive := fun _ => Option α) y x b)
    (fun _ _ _ _ => none)
    (fun _ _ _ _ => none)
    (fun _ _ _ _ _ => none)
    (fun _ _ _ => none)
    (fun _ _ _ => none)
    (fun _ _ _ _ _ => none)
    (fun _ _ _ => none)
    (fun _ _ _ => none)
    (fun _ _ _ _ _ _ _ => none)
    (fun  _ _ => none)
    (fun _ _ _ _ _ => none)
    (fun  _ _ => none)
    (fun _ _ _ _ => none)
    (fun _ _ _ _ => none)
    (fun _ _ => ()) () (fun _ _ _ _ => ()) v
def asBo (v : Value) : (Bool → Option α) → Option α → Option α :=
  Value.rec (motive_1 := fun _ => (Bool → Option α) → Option α → Option α) (motive_2 := fun _ => Unit) (motive_3 := fun _ => Unit)
    (fun b q _ => q b)
    (fun _ _ _ d => d)
    (fun _ _ _ d => d)
    (fun _ _ _ _ d => d)
    (fun _ _ d => d)
    (fun _ _ d => d)
    (fun _ _ _ _ d => d)
    (fun _ _ d => d)
    (fun _ _ d => d)
    (fun _ _ _ _ _ _ d => d)
    (fun _ d => d)
    (fun _ _ _ _ d => d)
    (fun _ d => d)
    (fun _ _ _ d => d)
    (fun _ _ _ d => d)
    (fun _ _ => ()) () (fun _ _ _ _ => ()) v
def asFunc (v : Value) : (FuncId → List Value → List Value → Option α) → Option α :=
  Value.rec (motive_1 := fun _ => (FuncId → List Value → List Value → Option α) → Option α) (motive_2 := fun _ => Unit) (motive_3 := fun _ => Unit)
    (fun _ _ => none)
    (fun _ _ _ => none)
    (fun _ _ _ => none)
    (fun _ _ _ _ => none)
    (fun _ _ => none)
    (fun _ _ => none)
    (fun _ _ _ _ => none)
    (fun _ _ => none)
    (fun _ _ => none)
    (fun fn a b _ _ q => match fn with | .func f => q f a.toList b.toList | _ => none)
    (fun  _ => none)
    (fun _ _ _ _ => none)
    (fun  _ => none)
    (fun _ _ _ => none)
    (fun _ _ _ => none)
    (fun _ _ => ()) () (fun _ _ _ _ => ()) v
def oneF (v : Value) : Bool :=
  Value.rec (motive_1 := fun _ => Bool) (motive_2 := fun _ => Unit) (motive_3 := fun _ => Unit)
    (fun _  => true)
    (fun _ _  => true)
    (fun _ _  => true)
    (fun _ _ _  => true)
    (fun _  => true)
    (fun _  => true)
    (fun _ _ _  => true)
    (fun _  => true)
    (fun _  => true)
    (fun _ _ _ _ _  => true)
    true
    (fun _ _ _  => true)
    true
    (fun _ _ => false)
    (fun _ _ => false)
    (fun _ _ => ()) () (fun _ _ _ _ => ()) v
def isB (v : Value) : Bool :=
  Value.rec (motive_1 := fun _ => Bool) (motive_2 := fun _ => Unit) (motive_3 := fun _ => Unit)
    (fun _ => true)
    (fun _ _  => false)
    (fun _ _  => false)
    (fun _ _ _  => false)
    (fun _  => false)
    (fun _  => false)
    (fun _ _ _  => false)
    (fun _  => false)
    (fun _  => false)
    (fun _ _ _ _ _  => false)
    false
    (fun _ _ _  => false)
    false
    (fun _ _  => false)
    (fun _ _  => false)
    (fun _ _ => ()) () (fun _ _ _ _ => ()) v
def theB (v : Value) : Bool :=
  Value.rec (motive_1 := fun _ => Bool) (motive_2 := fun _ => Unit) (motive_3 := fun _ => Unit)
    (fun b => b)
    (fun _ _  => false)
    (fun _ _  => false)
    (fun _ _ _  => false)
    (fun _  => false)
    (fun _  => false)
    (fun _ _ _  => false)
    (fun _  => false)
    (fun _  => false)
    (fun _ _ _ _ _  => false)
    false
    (fun _ _ _  => false)
    false
    (fun _ _  => false)
    (fun _ _  => false)
    (fun _ _ => ()) () (fun _ _ _ _ => ()) v

theorem asPtr_eq (v : Value) (q : Nat → Nat → Option α) : asPtr v q = match v with | .pointer (some ⟨b, off, none⟩) => q b off | _ => none := by
  cases v <;> try rfl
  rename_i a
  cases a with
  | none => rfl
  | some a => obtain ⟨b, off, sp⟩ := a; cases sp <;> rfl
theorem asSlc_eq (v : Value) (q : Nat → Nat → Nat → Option α) : asSlc v q = match v with | .slice (some ⟨b, off, _⟩) n _ => q b off n | _ => none := by
  cases v <;> try rfl
  rename_i a _ _
  cases a <;> rfl
theorem oneF_eq (v : Value) : oneF v = one v := by cases v <;> rfl

def cellsF (v : Value) (q : List Value → Option α) : Option α := asAgg v (fun cs => q cs.toList) (q [v])
theorem cellsF_eq (v : Value) (q : List Value → Option α) : cellsF v q = q v.cells.toList := by cases v <;> rfl

/-! ### lists -/
def nthL (c : List Value) : Nat → Option Value :=
  List.rec (motive := fun _ => Nat → Option Value) (fun _ => none) (fun a _ ih i => Nat.rec (motive := fun _ => Option Value) (some a) (fun i' _ => ih i') i) c
theorem nthL_eq : ∀ (c : List Value) (i : Nat), nthL c i = c[i]?
  | [], i => by simp; rfl
  | a :: c, 0 => rfl
  | a :: c, i + 1 => by
    have := nthL_eq c i
    rw [List.getElem?_cons_succ]
    exact this
def nthF (c : List Value) (i : Nat) (q : Value → Option α) : Option α := Option.rec (motive := fun _ => Option α) none (fun v => q v) (nthL c i)
theorem nthF_eq (q : Value → Option α) (c : List Value) (i : Nat) : nthF c i q = ob c[i]? q := by
  unfold nthF
  rw [nthL_eq]
  cases c[i]? <;> rfl
def lenLF (l : List Value) : Nat := List.rec (motive := fun _ => Nat) Nat.zero (fun _ _ ih => Nat.succ ih) l
theorem lenLF_eq : ∀ l : List Value, lenLF l = l.length
  | [] => rfl
  | a :: l => by
    have := lenLF_eq l
    show Nat.succ (lenLF l) = _
    rw [this]; rfl
def dropL (c : List Value) (n : Nat) : List Value :=
  Nat.rec (motive := fun _ => List Value → List Value) (fun c => c) (fun _ ih c => List.rec (motive := fun _ => List Value) [] (fun _ c' _ => ih c') c) n c
theorem dropL_eq : ∀ (c : List Value) (i : Nat), dropL c i = c.drop i
  | c, 0 => rfl
  | [], i + 1 => rfl
  | a :: c, i + 1 => by
    rw [List.drop_succ_cons]
    exact dropL_eq c i
def takeL (c : List Value) : Nat → List Value :=
  List.rec (motive := fun _ => Nat → List Value) (fun _ => []) (fun a _ ih i => Nat.rec (motive := fun _ => List Value) [] (fun i' _ => a :: ih i') i) c
theorem takeL_eq : ∀ (c : List Value) (i : Nat), takeL c i = c.take i
  | [], i => by simp; rfl
  | a :: c, 0 => rfl
  | a :: c, i + 1 => by
    rw [List.take_succ_cons, ← takeL_eq c i]
    rfl
def subL (c : List Value) (off n : Nat) : List Value := takeL (dropL c off) n
theorem subL_eq (c : List Value) (off n : Nat) : subL c off n = (c.drop off).take n := by rw [subL, takeL_eq, dropL_eq]
def subF (c : List Value) (off n : Nat) (q : List Value → Option α) : Option α := Bool.rec (motive := fun _ => Option α) none (q (subL c off n)) (Nat.ble (Nat.add off n) (lenLF c))
theorem subF_eq (n : Nat) (q : List Value → Option α) (c : List Value) (off : Nat) : subF c off n q = if off + n ≤ c.length then q ((c.drop off).take n) else none := by
  unfold subF
  rw [lenLF_eq, subL_eq]
  show Bool.rec (motive := fun _ => Option α) none _ (Nat.ble (off + n) c.length) = _
  by_cases h : off + n ≤ c.length
  · rw [if_pos h, Nat.ble_eq_true_of_le h]
  · rw [if_neg h, show Nat.ble (off + n) c.length = false from Bool.eq_false_iff.2 fun g => h (Nat.le_of_ble_eq_true g)]
def overF (vs : List Value) : List Value → (List Value → Option α) → Option α :=
  List.rec (motive := fun _ => List Value → (List Value → Option α) → Option α) (fun c q => q c)
    (fun v _ ih c q => List.rec (motive := fun _ => Option α) none (fun _ c' _ => Bool.rec (motive := fun _ => Option α) none (ih c' fun r => q (v :: r)) (oneF v)) c) vs
theorem overF_eq : ∀ (vs c : List Value) (q : List Value → Option α), overF vs c q = if vs.length ≤ c.length ∧ vs.all one = true then q (vs ++ c.drop vs.length) else none
  | [], c, q => by simp; rfl
  | v :: vs, [], q => by simp; rfl
  | v :: vs, a :: c, q => by
    have ih := overF_eq vs c fun r => q (v :: r)
    show Bool.rec (motive := fun _ => Option α) none (overF vs c fun r => q (v :: r)) (oneF v) = _
    rw [ih, oneF_eq]
    cases h : one v <;> simp [h]
def spliceF (c : List Value) : Nat → List Value → (List Value → Option α) → Option α :=
  List.rec (motive := fun _ => Nat → List Value → (List Value → Option α) → Option α) (fun off vs q => Nat.rec (motive := fun _ => Option α) (overF vs [] q) (fun _ _ => none) off)
    (fun a c ih off vs q => Nat.rec (motive := fun _ => Option α) (overF vs (a :: c) q) (fun off' _ => ih off' vs fun r => q (a :: r)) off) c
theorem spliceF_eq (vs : List Value) : ∀ (c : List Value) (off : Nat) (q : List Value → Option α), spliceF c off vs q = if off + vs.length ≤ c.length then (if vs.all one = true then q (splice c off vs) else none) else none
  | [], 0, q => by
    have := overF_eq vs [] q
    simp only [splice, Nat.zero_add, List.take_zero, List.nil_append]
    refine Eq.trans this ?_
    by_cases h1 : vs.length ≤ ([] : List Value).length <;> by_cases h2 : vs.all one = true <;> simp only [h1, h2, and_true, and_false, if_true, if_false, true_and, false_and]
  | [], off + 1, q => by rw [if_neg (by simp)]; rfl
  | a :: c, 0, q => by
    have := overF_eq vs (a :: c) q
    simp only [splice, Nat.zero_add, List.take_zero, List.nil_append]
    refine Eq.trans this ?_
    by_cases h1 : vs.length ≤ (a :: c).length <;> by_cases h2 : vs.all one = true <;> simp only [h1, h2, and_true, and_false, if_true, if_false, true_and, false_and]
  | a :: c, off + 1, q => by
    have ih := spliceF_eq vs c off fun r => q (a :: r)
    have e : (off + 1 + vs.length ≤ (a :: c).length) = (off + vs.length ≤ c.length) := by simp; omega
    have e2 : splice (a :: c) (off + 1) vs = a :: splice c off vs := by
      have : off + 1 + vs.length = (off + vs.length) + 1 := by omega
      simp [splice, this]
    simp only [e, e2]
    exact ih
def appF (a : List Value) : List Value → (List Value → Option α) → Option α :=
  List.rec (motive := fun _ => List Value → (List Value → Option α) → Option α) (fun b q => q b) (fun x _ ih b q => ih b fun r => q (x :: r)) a
theorem appF_eq : ∀ (a b : List Value) (q : List Value → Option α), appF a b q = q (a ++ b)
  | [], b, q => rfl
  | x :: a, b, q => appF_eq a b fun r => q (x :: r)

/-! ### operands -/
def evF (x : Operand) : Nat → Tmps → (Value → Option α) → Option α :=
  Operand.rec (motive := fun _ => Nat → Tmps → (Value → Option α) → Option α) (fun d _ t q => getTF t d q) (fun v _ _ q => Bool.rec (motive := fun _ => Option α) none (q v) (constV v))
    (fun g G _ q => Bool.rec (motive := fun _ => Option α) none (q (.pointer (some ⟨g, 0, none⟩))) (Nat.blt g G)) (fun f _ _ q => q (.func (.func f) #[] #[])) x
theorem evF_eq (x : Operand) (G : Nat) (t : Tmps) (q : Value → Option α) : evF x G t q = ob (ev G t x) q := by
  cases x with
  | tmp d => exact getTF_eq t d q
  | const v =>
    show Bool.rec (motive := fun _ => Option α) none (q v) (constV v) = _
    simp only [ev]
    cases constV v <;> rfl
  | global g =>
    show Bool.rec (motive := fun _ => Option α) none (q (.pointer (some ⟨g, 0, none⟩))) (Nat.blt g G) = _
    simp only [ev]
    by_cases h : g < G
    · have : Nat.blt g G = true := by simpa [Nat.blt_eq] using h
      rw [this, if_pos h]; rfl
    · have : Nat.blt g G = false := by
        cases hb : Nat.blt g G with
        | false => rfl
        | true => exact absurd (by simpa [Nat.blt_eq] using hb) h
      rw [this, if_neg h]; rfl
  | func f => rfl
def evsF (l : List Operand) : Nat → Tmps → (List Value → Option α) → Option α :=
  List.rec (motive := fun _ => Nat → Tmps → (List Value → Option α) → Option α) (fun _ _ q => q []) (fun x _ ih G t q => evF x G t fun v => ih G t fun vs => q (v :: vs)) l
theorem evsF_eq (G : Nat) (t : Tmps) : ∀ (l : List Operand) (q : List Value → Option α), evsF l G t q = ob (evs G t l) q
  | [], q => rfl
  | x :: l, q => by
    have ih := evsF_eq G t l
    show (evF x G t fun v => evsF l G t fun vs => q (v :: vs)) = _
    rw [evF_eq]
    simp only [evs]
    cases ev G t x with
    | none => rfl
    | some v =>
      simp only [ob_some, ih]
      cases evs G t l <;> rfl
end
end Go.DI.Y
/-
  (by symify.py, out of DiFast2: any answer type, nothing forced.) DiFast2: operations, quickly.
-/
namespace Go.DI.Y
noncomputable section
variable {α : Type}

theorem beqN (a b : Nat) : Nat.beq a b = decide (a = b) := by
  rw [Bool.eq_iff_iff]; simp [Nat.beq_eq]
/-! ### numbers -/
def kNo (k : IntKind) : Nat := IntKind.rec (motive := fun _ => Nat) 0 1 2 3 4 5 6 7 k
def kEq (k k' : IntKind) : Bool := Nat.beq (kNo k) (kNo k')
theorem kEq_eq (k k' : IntKind) : kEq k k' = decide (k = k') := by cases k <;> cases k' <;> rfl
def wrapF (k : IntKind) (n : Int) (q : Int → Option α) : Option α := q (k.wrap n)
def blF (b : Bool) (q : Value → Option α) : Option α := Bool.rec (motive := fun _ => Option α) (q (.bool false)) (q (.bool true)) b
theorem blF_eq (b : Bool) (q : Value → Option α) : blF b q = q (.bool b) := by cases b <;> rfl
def ltF (x y : Int) : Bool := Int.rec (motive := fun _ => Bool) (fun a => Int.rec (motive := fun _ => Bool) (fun b => Nat.blt a b) (fun _ => false) y) (fun a => Int.rec (motive := fun _ => Bool) (fun _ => true) (fun b => Nat.blt b a) y) x
theorem ltF_eq (x y : Int) : ltF x y = decide (x < y) := by
  cases x <;> cases y
  · rename_i a b
    show Nat.blt a b = _
    rw [Bool.eq_iff_iff]; simp [Nat.blt_eq]
  · show false = _
    symm
    rw [decide_eq_false_iff_not]
    simp only [Int.ofNat_eq_natCast]; omega
  · show true = _
    symm
    rw [decide_eq_true_iff]
    simp only [Int.ofNat_eq_natCast]; omega
  · rename_i a b
    show Nat.blt b a = _
    rw [Bool.eq_iff_iff]
    simp only [Nat.blt_eq, decide_eq_true_eq]
    omega
def eqF (x y : Int) : Bool := Int.rec (motive := fun _ => Bool) (fun a => Int.rec (motive := fun _ => Bool) (fun b => Nat.beq a b) (fun _ => false) y) (fun a => Int.rec (motive := fun _ => Bool) (fun _ => false) (fun b => Nat.beq a b) y) x
theorem eqF_eq (x y : Int) : eqF x y = (x == y) := by
  have hb : (x == y) = decide (x = y) := by rw [Bool.eq_iff_iff]; simp
  rw [hb]
  cases x <;> cases y
  · rename_i a b
    show Nat.beq a b = _
    rw [beqN]; simp; omega
  · show false = _
    symm; rw [decide_eq_false_iff_not]; simp only [Int.ofNat_eq_natCast]; omega
  · show false = _
    symm; rw [decide_eq_false_iff_not]; simp only [Int.ofNat_eq_natCast]; omega
  · rename_i a b
    show Nat.beq a b = _
    rw [beqN]; simp

def binIF (op : BinOp) : IntKind → Int → Int → (Value → Option α) → Option α → Option α :=
  BinOp.rec (motive := fun _ => IntKind → Int → Int → (Value → Option α) → Option α → Option α)
    (fun k x y q _ => wrapF k (Int.add x y) fun n => q (.int k n))
    (fun k x y q _ => wrapF k (Int.sub x y) fun n => q (.int k n))
    (fun k x y q _ => wrapF k (Int.mul x y) fun n => q (.int k n))
    (fun _ _ _ _ g => g) (fun _ _ _ _ g => g) (fun _ _ _ _ g => g) (fun _ _ _ _ g => g) (fun _ _ _ _ g => g) (fun _ _ _ _ g => g) (fun _ _ _ _ g => g) (fun _ _ _ _ g => g)
    (fun _ x y q _ => blF (eqF x y) q)
    (fun _ x y q _ => blF (not (eqF x y)) q)
    (fun _ x y q _ => blF (ltF x y) q)
    (fun _ x y q _ => blF (not (ltF y x)) q)
    (fun _ x y q _ => blF (ltF y x) q)
    (fun _ x y q _ => blF (not (ltF x y)) q) op
theorem binIF_eq {op : BinOp} {k : IntKind} {x y : Int} {q : Value → Option α} {g : Option α} (hg : g = ob (cond (shiftB op) (shiftD op k x y) (binInt op k x y)) q) : binIF op k x y q g = g := by
  cases op <;> try rfl
  all_goals simp only [shiftB, cond_false, binInt, ob_some] at hg; subst hg
  · rfl
  · rfl
  · rfl
  · refine (blF_eq _ _).trans ?_; rw [eqF_eq]
  · refine (blF_eq _ _).trans ?_; rw [eqF_eq]; try rfl
  · refine (blF_eq _ _).trans ?_; rw [ltF_eq]
  · refine (blF_eq _ _).trans ?_
    rw [ltF_eq]
    congr 2
    rw [Bool.eq_iff_iff]; simp
  · refine (blF_eq _ _).trans ?_; rw [ltF_eq]; try rfl
  · refine (blF_eq _ _).trans ?_
    rw [ltF_eq]
    congr 2
    rw [Bool.eq_iff_iff]; simp

section
variable (P : Program) (K : TypeId → Bool)
def frcV (r : Option Value) (q : Value → Option α) : Option α := ob r q
theorem frcV_eq (r : Option Value) (q : Value → Option α) : frcV r q = ob r q := rfl

def bkF (op : BinOp) (ty : TypeId) (x y : Value) (q : Value → Option α) : Option α :=
  match x with
  | .agg xs => (match y with
    | .agg ys => (match K ty with
      | true => (match op with
        | .eql => Option.rec (motive := fun _ => Option α) none (fun r => blF r q) (feq P K 100 ty (.agg xs) (.agg ys))
        | .neq => Option.rec (motive := fun _ => Option α) none (fun r => blF (not r) q) (feq P K 100 ty (.agg xs) (.agg ys))
        | _ => none)
      | false => none)
    | _ => none)
  | x => ob (binD P K op ty x y) q
theorem bkF_eq (op : BinOp) (ty : TypeId) (x y : Value) (q : Value → Option α) : bkF P K op ty x y q = ob (binD P K op ty x y) q := by
  unfold bkF
  cases x <;> try rfl
  cases y <;> try rfl
  simp only [binD]
  cases K ty with
  | false => rfl
  | true =>
    cases op <;> try rfl
    all_goals
      simp only [if_true, eqD]
      cases feq P K 100 ty _ _ with
      | none => rfl
      | some r => exact blF_eq _ _
def binF (op : BinOp) (ty : TypeId) (x y : Value) (q : Value → Option α) : Option α :=
  (fun g => asInt x (fun k a => asInt y (fun k' b => Bool.rec (motive := fun _ => Option α) g (binIF op k a b q g) (kEq k k')) g) g) (bkF P K op ty x y q)
theorem binF_eq (op : BinOp) (ty : TypeId) (x y : Value) (q : Value → Option α) : binF P K op ty x y q = ob (binD P K op ty x y) q := by
  unfold binF
  rw [bkF_eq]
  cases x <;> try rfl
  rename_i k a
  cases y <;> try rfl
  rename_i k' b
  show Bool.rec (motive := fun _ => Option α) _ (binIF op k a b q _) (kEq k k') = _
  rw [kEq_eq]
  by_cases h : k = k'
  · subst h
    rw [decide_eq_true rfl]
    refine binIF_eq ?_
    simp [binD]
  · rw [decide_eq_false h]

/-! ### memory -/
def loadF (m : Mem) (ty : TypeId) (v : Value) (q : Value → Option α) : Option α :=
  asPtr v fun b off => Option.rec (motive := fun _ => Option α) none (fun agg => Bool.rec (motive := fun _ => Option α) (cellsOf (getBF m b) fun _ c => nthF c off q)
    (Option.rec (motive := fun _ => Option α) none (fun n => cellsOf (getBF m b) fun _ c => subF c off n fun l => q (.agg ⟨l⟩)) (szOf P ty)) agg) (aggB P ty)
theorem cellsOf_eq (x : Blk) (q : Bool → List Value → Option α) : cellsOf x q = match x with | .cells o c => q o c | _ => none := by cases x <;> rfl
theorem loadF_eq (m : Mem) (ty : TypeId) (v : Value) (q : Value → Option α) : loadF P m ty v q = ob (loadD P m ty v) q := by
  unfold loadF
  rw [asPtr_eq]
  unfold loadD
  cases v <;> try rfl
  rename_i a
  cases a with
  | none => rfl
  | some a =>
    obtain ⟨b, off, sp⟩ := a
    cases sp with
    | some _ => rfl
    | none =>
      simp only [getBF_eq]
      cases aggB P ty with
      | none => rfl
      | some g =>
        cases g with
        | false =>
          simp only [cellsOf_eq]
          cases m.get b <;> try rfl
          exact nthF_eq _ _ _
        | true =>
          simp only
          cases szOf P ty with
          | none => rfl
          | some n =>
            simp only [cellsOf_eq, loadC]
            cases m.get b <;> try rfl
            simp only [subF_eq]
            split <;> rfl

def allOneF (l : List Value) : Bool := List.rec (motive := fun _ => Bool) true (fun v _ ih => Bool.rec (motive := fun _ => Bool) false ih (oneF v)) l
theorem allOneF_eq : ∀ l : List Value, allOneF l = l.all one
  | [] => rfl
  | v :: l => by
    have ih := allOneF_eq l
    show Bool.rec (motive := fun _ => Bool) false (allOneF l) (oneF v) = _
    rw [ih, oneF_eq, List.all_cons]
    cases one v <;> rfl
/-- The whole of a block is written. -/
def wholeF (c : List Value) (off n : Nat) : Bool := Bool.rec (motive := fun _ => Bool) false (Nat.beq (lenLF c) n) (Nat.beq off 0)
def putCF (m : Mem) (b : Nat) (c : List Value) (off n : Nat) (l : List Value) (q : Mem → Option α) : Option α :=
  Bool.rec (motive := fun _ => Option α) (spliceF c off l fun c' => setMF m b (.cells true c') q) (Bool.rec (motive := fun _ => Option α) none (setMF m b (.cells true l) q) (allOneF l)) (wholeF c off n)
theorem putCF_eq (m : Mem) (b : Nat) (c : List Value) (off n : Nat) (l : List Value) (hl : l.length = n) (q : Mem → Option α) : putCF m b c off n l q = spliceF c off l fun c' => setMF m b (.cells true c') q := by
  unfold putCF wholeF
  rw [lenLF_eq, allOneF_eq, beqN, beqN]
  by_cases h1 : off = 0
  · by_cases h2 : c.length = n
    · subst h1 h2
      rw [decide_eq_true rfl, decide_eq_true rfl, spliceF_eq]
      have h3 : 0 + l.length ≤ c.length := by omega
      have h4 : splice c 0 l = l := by simp [splice, List.drop_of_length_le (show c.length ≤ l.length by omega)]
      rw [if_pos h3, h4]
      cases l.all one <;> simp [setMF]
    · subst h1
      rw [decide_eq_true rfl, decide_eq_false h2]
  · rw [decide_eq_false h1]
def storeF (m : Mem) (ty : TypeId) (v a : Value) (q : Mem → Option α) : Option α :=
  asPtr a fun b off => Option.rec (motive := fun _ => Option α) none (fun n => cellsF v fun l => Bool.rec (motive := fun _ => Option α) none
    (cellsOf (getBF m b) fun o c => Bool.rec (motive := fun _ => Option α) none (putCF m b c off n l q) o) (Nat.beq (lenLF l) n)) (szOf P ty)
theorem storeF_eq (m : Mem) (ty : TypeId) (v a : Value) (q : Mem → Option α) : storeF P m ty v a q = ob (storeD P m ty v a) q := by
  unfold storeF
  rw [asPtr_eq]
  unfold storeD
  cases a <;> try rfl
  rename_i a
  cases a with
  | none => rfl
  | some a =>
    obtain ⟨b, off, sp⟩ := a
    cases sp with
    | some _ => rfl
    | none =>
      simp only [cellsF_eq, getBF_eq, cellsOf_eq, lenLF_eq]
      cases szOf P ty with
      | none => rfl
      | some n =>
        simp only [beqN]
        by_cases h : v.cells.toList.length = n
        · rw [decide_eq_true h, if_pos h]
          simp only [storeC]
          cases m.get b <;> try rfl
          rename_i o c
          cases o with
          | false => rfl
          | true =>
            simp only [putCF_eq _ _ _ _ _ _ h, spliceF_eq, setMF_eq]
            split
            · split <;> rfl
            · rfl
        · rw [decide_eq_false h, if_neg h]; rfl

def shF (ty : TypeId) (v : Value) (q : Value → Option α) : Option α :=
  match P.underlying ty with
  | some (.int k) => asInt v (fun k' n => Bool.rec (motive := fun _ => Option α) none (q (.int k n)) (kEq k k')) none
  | some .bool => asBo v (fun b => q (.bool b)) none
  | some (.struct _) => asAgg v (fun cs => q (.agg cs)) none
  | some (.array _ _) => asAgg v (fun cs => q (.agg cs)) none
  | some (.slice _) => asSl v (fun a n c => q (.slice a n c)) none
  | some (.pointer _) => asPt v (fun a => q (.pointer a)) none
  | _ => q v
theorem shF_eq (ty : TypeId) (v : Value) (q : Value → Option α) : shF P ty v q = ob (shD P ty (some v)) q := by
  unfold shF shD shp
  cases P.underlying ty with
  | none => rfl
  | some d =>
    cases d <;> try rfl
    all_goals
      simp only
      cases v <;> try rfl
      try
        rename_i k k' n
        show Bool.rec (motive := fun _ => Option α) _ _ (kEq k k') = _
        simp only [kEq_eq]
        by_cases h : k = k'
        · subst h
          simp [ob_some]
        · simp [h, ob_none]

/-! ### places -/
def foD (s : TypeId) (f : Nat) : Option Nat :=
  match P.underlying s with
  | some (.struct fields) => match fields.toList[f]? with
    | some fd => match szOf P fd.type with
      | some n => if n = 0 then none else some fd.offset
      | none => none
    | none => none
  | _ => none
def fieldAddrF (s : TypeId) (f : Nat) (v : Value) (q : Value → Option α) : Option α :=
  asPtr v fun b off => Option.rec (motive := fun _ => Option α) none (fun o => frcN (Nat.add off o) fun off' => q (.pointer (some ⟨b, off', none⟩))) (foD P s f)
theorem fieldAddrF_eq (s : TypeId) (f : Nat) (v : Value) (q : Value → Option α) : fieldAddrF P s f v q = ob (fieldAddrD P s f v) q := by
  unfold fieldAddrF
  rw [asPtr_eq]
  unfold fieldAddrD foD
  cases v <;> try rfl
  rename_i a
  cases a with
  | none => rfl
  | some a =>
    obtain ⟨b, off, sp⟩ := a
    cases sp with
    | some _ => rfl
    | none =>
      simp only [frcN_eq]
      cases P.underlying s with
      | none => rfl
      | some d =>
        cases d <;> try rfl
        rename_i fields
        simp only
        cases fields.toList[f]? with
        | none => rfl
        | some fd =>
          simp only
          cases szOf P fd.type with
          | none => rfl
          | some n => by_cases h : n = 0 <;> simp only [h, if_true, if_false] <;> rfl

/-- What is indexed: an array of so many (or a slice), and the size of an element. -/
def ixD (t : TypeId) : Option (Option Nat × Nat) :=
  match P.underlying t with
  | some (.array len elem) => match szOf P elem with | some size => some (some len, size) | none => none
  | some (.slice elem) => match szOf P elem with | some size => some (none, size) | none => none
  | _ => none
def ixAt (b off size len : Nat) (i : Int) (q : Value → Option α) : Option α :=
  Int.rec (motive := fun _ => Option α) (fun i => Bool.rec (motive := fun _ => Option α) none (frcN (Nat.add off (Nat.mul i size)) fun off' => q (.pointer (some ⟨b, off', none⟩))) (Nat.blt i len)) (fun _ => none) i
theorem ixAt_eq (b off size len : Nat) (i : Int) (q : Value → Option α) : ixAt b off size len i q = ob (if 0 ≤ i ∧ i < (len : Int) then some (.pointer (some ⟨b, off + i.toNat * size, none⟩)) else none) q := by
  cases i with
  | negSucc a => rw [if_neg (by omega)]; rfl
  | ofNat a =>
    show Bool.rec (motive := fun _ => Option α) none (frcN (Nat.add off (Nat.mul a size)) fun off' => q (.pointer (some ⟨b, off', none⟩))) (Nat.blt a len) = _
    by_cases h : a < len
    · have hb : Nat.blt a len = true := by simpa [Nat.blt_eq] using h
      rw [hb, if_pos ⟨by simp, by simpa using h⟩]
      exact frcN_eq _ _
    · have hb : Nat.blt a len = false := by
        cases hb : Nat.blt a len with
        | false => rfl
        | true => exact absurd (by simpa [Nat.blt_eq] using hb) h
      rw [hb, if_neg (by simp only [Int.ofNat_eq_natCast]; omega)]; rfl
def indexAddrF (t : TypeId) (x i : Value) (q : Value → Option α) : Option α :=
  asInt i (fun _ i => Option.rec (motive := fun _ => Option α) none (fun p => Prod.rec (motive := fun _ => Option α) (fun a size =>
    Option.rec (motive := fun _ => Option α) (asSlc x fun b off len => ixAt b off size len i q) (fun len => asPtr x fun b off => ixAt b off size len i q) a) p) (ixD P t)) none
theorem indexAddrF_eq (t : TypeId) (x i : Value) (q : Value → Option α) : indexAddrF P t x i q = ob (indexAddrD P t x i) q := by
  unfold indexAddrF indexAddrD ixD
  cases i <;> try rfl
  rename_i ik i
  show Option.rec (motive := fun _ => Option α) none _ _ = _
  cases P.underlying t with
  | none => rfl
  | some d =>
    cases d <;> try rfl
    · rename_i elem
      simp only
      cases szOf P elem with
      | none => simp only; cases x <;> try rfl
                rename_i a _ _; cases a <;> rfl
      | some size =>
        simp only [asSlc_eq]
        cases x <;> try rfl
        rename_i a n c
        cases a with
        | none => rfl
        | some a => exact ixAt_eq _ _ _ _ _ _
    · rename_i len elem
      simp only
      cases szOf P elem with
      | none => simp only; cases x <;> try rfl
                rename_i a; cases a with
                | none => rfl
                | some a => obtain ⟨b, off, sp⟩ := a; cases sp <;> rfl
      | some size =>
        simp only [asPtr_eq]
        cases x <;> try rfl
        rename_i a
        cases a with
        | none => rfl
        | some a =>
          obtain ⟨b, off, sp⟩ := a
          cases sp with
          | some _ => rfl
          | none => exact ixAt_eq _ _ _ _ _ _
def pfD (t : TypeId) (f : Nat) : Option (TypeId × Nat) :=
  match P.underlying t with
  | some (.struct fields) => match fields.toList[f]? with
    | some fd => some (fd.type, fd.offset)
    | none => none
  | _ => none
/-- part, but sure of its length: 'none' where the list is too short for an aggregate is not what 'part' says, so the list is cut as it is. -/
def frcL (l : List Value) (q : List Value → Option α) : Option α := q l
theorem frcL_eq (l : List Value) (q : List Value → Option α) : frcL l q = q l := rfl
def partF (t : TypeId) (cs : List Value) (off : Nat) (q : Value → Option α) : Option α :=
  Option.rec (motive := fun _ => Option α) none (fun agg => Bool.rec (motive := fun _ => Option α) (nthF cs off q) (Option.rec (motive := fun _ => Option α) none (fun n => frcL (subL cs off n) fun l => q (.agg ⟨l⟩)) (szOf P t)) agg) (aggB P t)
theorem partF_eq (t : TypeId) (cs : List Value) (off : Nat) (q : Value → Option α) : partF P t cs off q = ob (part P t cs off) q := by
  unfold partF part
  cases aggB P t with
  | none => rfl
  | some g =>
    cases g with
    | false => exact nthF_eq _ _ _
    | true =>
      simp only
      cases szOf P t with
      | none => rfl
      | some n => simp only [subL_eq]; exact frcL_eq _ _
def fieldF (t : TypeId) (f : Nat) (v : Value) (q : Value → Option α) : Option α :=
  asAgg v (fun cs => Option.rec (motive := fun _ => Option α) none (fun p => Prod.rec (motive := fun _ => Option α) (fun u o => partF P u cs.toList o q) p) (pfD P t f)) none
theorem fieldF_eq (t : TypeId) (f : Nat) (v : Value) (q : Value → Option α) : fieldF P t f v q = ob (fieldD P t f v) q := by
  unfold fieldF fieldD pfD
  cases v <;> try rfl
  rename_i cs
  show Option.rec (motive := fun _ => Option α) none _ _ = _
  cases P.underlying t with
  | none => rfl
  | some d =>
    cases d <;> try rfl
    rename_i fields
    simp only
    cases fields.toList[f]? with
    | none => rfl
    | some fd => exact partF_eq _ _ _ _ _

/-! ### maps -/
def missF (et : TypeId) (ok : Bool) (q : Value → Option α) : Option α :=
  Option.rec (motive := fun _ => Option α) none (fun z => Bool.rec (motive := fun _ => Option α) none (q (cond ok (.tuple #[z, .bool false]) z)) (constV z)) (zeroOf P et)
def lookupIn (kt et : TypeId) (k : Value) (ok : Bool) (es : List MapEntry) (q : Value → Option α) : Option α :=
  Bool.rec (motive := fun _ => Option α) none (Option.rec (motive := fun _ => Option α) none (fun r => Option.rec (motive := fun _ => Option α) (missF P et ok q) (fun p => Prod.rec (motive := fun _ => Option α) (fun _ v => shF P et v fun v => q (cond ok (.tuple #[v, .bool true]) v)) p) r) (findD P K kt k es 0)) (keyOk P 100 kt k)
def lookupF (m : Mem) (t : TypeId) (x k : Value) (ok : Bool) (q : Value → Option α) : Option α :=
  match P.underlying t with
  | some (.map kt et) => match entriesD m x with
    | some es => lookupIn P K kt et k ok es q
    | none => none
  | _ => none
theorem lookupF_eq (m : Mem) (t : TypeId) (x k : Value) (ok : Bool) (q : Value → Option α) : lookupF P K m t x k ok q = ob (lookupD P K m t x k ok) q := by
  unfold lookupF lookupD
  cases P.underlying t with
  | none => rfl
  | some d =>
    cases d <;> try rfl
    rename_i kt et
    simp only
    cases entriesD m x with
    | none => rfl
    | some es =>
      simp only [lookupIn]
      cases keyOk P 100 kt k with
      | false => rfl
      | true =>
        simp only [if_true]
        cases findD P K kt k es 0 with
        | none => rfl
        | some r =>
          cases r with
          | some p =>
            obtain ⟨i, v⟩ := p
            simp only [shF_eq, shD]
            cases shp P et v <;> rfl
          | none =>
            simp only [missF]
            cases zeroOf P et with
            | none => rfl
            | some z =>
              simp only
              cases constV z <;> rfl
def updIn (kt : TypeId) (m : Mem) (r : Nat) (k v : Value) (es : List MapEntry) (clock : Nat) (q : Mem → Option α) : Option α :=
  Bool.rec (motive := fun _ => Option α) none (Option.rec (motive := fun _ => Option α) none (fun x => Option.rec (motive := fun _ => Option α) (setMF m r (.map true (es ++ [{ key := k, val := v, born := clock }]) (clock + 1)) q)
    (fun p => Prod.rec (motive := fun _ => Option α) (fun i _ => Option.rec (motive := fun _ => Option α) none (fun e => Bool.rec (motive := fun _ => Option α) none (setMF m r (.map true (modE i k v es) clock) q) (Instr.sameBits 10000 e.key k)) es[i]?) p) x) (findD P K kt k es 0)) (keyOk P 100 kt k)
def mapUpdateF (m : Mem) (t : TypeId) (x k v : Value) (q : Mem → Option α) : Option α :=
  match P.underlying t with
  | some (.map kt _) => match x with
    | .map (some r) => match getBF m r with
      | .map true es clock => updIn P K kt m r k v es clock q
      | _ => none
    | _ => none
  | _ => none
theorem mapUpdateF_eq (m : Mem) (t : TypeId) (x k v : Value) (q : Mem → Option α) : mapUpdateF P K m t x k v q = ob (mapUpdateD P K m t x k v) q := by
  unfold mapUpdateF mapUpdateD
  cases P.underlying t with
  | none => rfl
  | some d =>
    cases d <;> try rfl
    rename_i kt et
    simp only
    cases x <;> try rfl
    rename_i r
    cases r with
    | none => rfl
    | some r =>
      simp only [getBF_eq]
      cases m.get r with
      | none => rfl
      | cells => rfl
      | siter => rfl
      | map o es clock =>
        cases o with
        | false => rfl
        | true =>
          simp only [updIn, setMF_eq]
          cases keyOk P 100 kt k with
          | false => rfl
          | true =>
            simp only [if_true]
            cases findD P K kt k es 0 with
            | none => rfl
            | some x =>
              cases x with
              | none => rfl
              | some p =>
                obtain ⟨i, u⟩ := p
                simp only
                cases es[i]? with
                | none => rfl
                | some e =>
                  simp only
                  cases Instr.sameBits 10000 e.key k <;> rfl
end
end
end Go.DI.Y
/-
  DiStat: the tables of a region that draws, worked out quickly.
-/
namespace Go.DI

/-! ### what waits for what -/
def maskAt (M : Tr Nat) (j : Nat) : Nat := match Tr.get M j j with | some x => x | none => 0
def maskT (acc : Tr Nat) : List Edge → Nat
  | [] => 0
  | e :: l => cond (Region.binds .any e) (2 ^ e.on ||| (maskAt acc e.on ||| maskT acc l)) (maskT acc l)
def tabT : List Oper → Nat → Tr Nat → Tr Nat
  | [], _, acc => acc
  | o :: l, i, acc => tabT l (i + 1) (Tr.put acc 8 i i (maskT acc o.after.toList))
theorem maskT_eq {acc : Tr Nat} {L : List Nat} (h : ∀ j, maskAt acc j = L.getD j 0) : ∀ es : List Edge, maskT acc es = maskD L es
  | [] => rfl
  | e :: es => by simp only [maskT, maskD, h, maskT_eq h es]
theorem tabT_eq : ∀ (l : List Oper) (acc : Tr Nat) (L : List Nat), (∀ j, maskAt acc j = L.getD j 0) → ∀ j, maskAt (tabT l L.length acc) j = (tabD l L).getD j 0
  | [], _, _, h => h
  | o :: l, acc, L, h => by
    intro j
    have := tabT_eq l (Tr.put acc 8 L.length L.length (maskT acc o.after.toList)) (L ++ [maskD L o.after.toList]) (by
      intro j
      simp only [maskAt, Tr.get_put]
      by_cases hj : j = L.length
      · subst hj; simp [maskT_eq h]
      · have h2 := h j
        simp only [maskAt] at h2
        simp only [hj, if_false, h2, List.getD_eq_getElem?_getD]
        by_cases h3 : j < L.length
        · rw [List.getElem?_append_left h3]
        · rw [List.getElem?_eq_none (by omega), List.getElem?_eq_none (by simp; omega)]) j
    simpa [tabT, tabD] using this
def tabF (ops : List Oper) : Tr Nat := tabT ops 0 .nil
theorem tabF_eq (ops : List Oper) (j : Nat) : maskAt (tabF ops) j = (tabD ops []).getD j 0 := tabT_eq ops .nil [] (fun j => by simp [maskAt, Tr.get_nil]) j

/-! ### who lays a slot -/
def defAt (T : Tr (List Nat)) (u : Nat) : List Nat := match Tr.get T u u with | some x => x | none => []
def defsT : List Oper → Nat → Tr (List Nat) → Tr (List Nat)
  | [], _, T => T
  | o :: l, i, T => match o.dst with
    | some d => defsT l (i + 1) (Tr.put T 8 d d (i :: defAt T d))
    | none => defsT l (i + 1) T
theorem defsT_mem (u k : Nat) : ∀ (l : List Oper) (i : Nat) (T : Tr (List Nat)), k ∈ defAt (defsT l i T) u ↔ k ∈ defAt T u ∨ (∃ a o, k = i + a ∧ l[a]? = some o ∧ o.dst = some u)
  | [], i, T => by simp [defsT]
  | o :: l, i, T => by
    have step : (∃ a o', k = i + a ∧ (o :: l)[a]? = some o' ∧ o'.dst = some u) ↔ (k = i ∧ o.dst = some u) ∨ (∃ a o', k = i + 1 + a ∧ l[a]? = some o' ∧ o'.dst = some u) := by
      constructor
      · rintro ⟨a, o', h1, h2, h3⟩
        cases a with
        | zero => simp at h2; subst h2; exact .inl ⟨by omega, h3⟩
        | succ a => exact .inr ⟨a, o', by omega, by simpa using h2, h3⟩
      · rintro (⟨h1, h2⟩ | ⟨a, o', h1, h2, h3⟩)
        · exact ⟨0, o, by omega, by simp, h2⟩
        · exact ⟨a + 1, o', by omega, by simpa using h2, h3⟩
    rw [step]
    simp only [defsT]
    cases hd : o.dst with
    | none =>
      simp only
      rw [defsT_mem u k l (i + 1) T]
      simp
    | some d =>
      simp only
      rw [defsT_mem u k l (i + 1)]
      have : k ∈ defAt (Tr.put T 8 d d (i :: defAt T d)) u ↔ k ∈ defAt T u ∨ (k = i ∧ d = u) := by
        simp only [defAt, Tr.get_put]
        by_cases h : u = d
        · subst h; simp [or_comm]
        · simp [h, Ne.symm h]
      rw [this]
      simp only [Option.some.injEq]
      exact or_assoc
def defsF (ops : List Oper) : Tr (List Nat) := defsT ops 0 .nil
theorem defsF_mem (ops : List Oper) (u k : Nat) : k ∈ defAt (defsF ops) u ↔ ∃ o, ops[k]? = some o ∧ o.dst = some u := by
  have := defsT_mem u k ops 0 .nil
  simp only [defsF]
  rw [this]
  constructor
  · rintro (h | ⟨a, o, h1, h2, h3⟩)
    · simp [defAt, Tr.get_nil] at h
    · exact ⟨o, by simpa [h1] using h2, h3⟩
  · rintro ⟨o, h2, h3⟩
    exact .inr ⟨k, o, by omega, h2, h3⟩

/-! ### the heavy ones -/
def hvL (M : Tr Nat) : List Oper → Nat → List (Nat × Nat)
  | [], _ => []
  | o :: l, i => cond (Nat.beq (klass o.op) 2) ((i, maskAt M i) :: hvL M l (i + 1)) (hvL M l (i + 1))
theorem hvL_mem (M : Tr Nat) (x : Nat × Nat) : ∀ (l : List Oper) (i : Nat), x ∈ hvL M l i ↔ ∃ a o, x.1 = i + a ∧ l[a]? = some o ∧ klass o.op = 2 ∧ x.2 = maskAt M x.1
  | [], i => by simp [hvL]
  | o :: l, i => by
    have ih := hvL_mem M x l (i + 1)
    have step : (∃ a o', x.1 = i + a ∧ (o :: l)[a]? = some o' ∧ klass o'.op = 2 ∧ x.2 = maskAt M x.1) ↔ (x.1 = i ∧ klass o.op = 2 ∧ x.2 = maskAt M x.1) ∨ (∃ a o', x.1 = i + 1 + a ∧ l[a]? = some o' ∧ klass o'.op = 2 ∧ x.2 = maskAt M x.1) := by
      constructor
      · rintro ⟨a, o', h1, h2, h3⟩
        cases a with
        | zero => simp at h2; subst h2; exact .inl ⟨by omega, h3⟩
        | succ a => exact .inr ⟨a, o', by omega, by simpa using h2, h3⟩
      · rintro (⟨h1, h2⟩ | ⟨a, o', h1, h2, h3⟩)
        · exact ⟨0, o, by omega, by simp, h2⟩
        · exact ⟨a + 1, o', by omega, by simpa using h2, h3⟩
    rw [step, ← ih]
    simp only [hvL]
    by_cases hk : klass o.op = 2
    · have : Nat.beq (klass o.op) 2 = true := by rw [hk]; rfl
      rw [this]
      simp only [cond_true, List.mem_cons, hk, true_and]
      constructor
      · rintro (h | h)
        · subst h; exact .inl ⟨rfl, rfl⟩
        · exact .inr h
      · rintro (⟨h1, h2⟩ | h)
        · left; ext
          · exact h1
          · rw [h2, h1]
        · exact .inr h
    · have : Nat.beq (klass o.op) 2 = false := beq_ne hk
      rw [this]
      simp [hk]
theorem hvL_sorted (M : Tr Nat) : ∀ (l : List Oper) (i : Nat), (hvL M l i).Pairwise fun a b => a.1 < b.1
  | [], i => by simp [hvL]
  | o :: l, i => by
    have ih := hvL_sorted M l (i + 1)
    simp only [hvL]
    cases Nat.beq (klass o.op) 2 with
    | false => exact ih
    | true =>
      simp only [cond_true, List.pairwise_cons]
      refine ⟨fun x hx => ?_, ih⟩
      obtain ⟨a, o', h1, _⟩ := (hvL_mem M x l (i + 1)).1 hx
      omega
def hvF (ops : List Oper) : List (Nat × Nat) := hvL (tabF ops) ops 0
theorem hvF_mem (ops : List Oper) (x : Nat × Nat) : x ∈ hvF ops ↔ klassAt ops x.1 = 2 ∧ x.1 < ops.length ∧ x.2 = (tabD ops []).getD x.1 0 := by
  rw [hvF, hvL_mem]
  simp only [Nat.zero_add, tabF_eq, klassAt]
  constructor
  · rintro ⟨a, o, h1, h2, h3, h4⟩
    subst h1
    rw [h2]
    exact ⟨h3, (List.getElem?_eq_some_iff.1 h2).1, h4⟩
  · rintro ⟨h1, h2, h3⟩
    refine ⟨x.1, ops[x.1], rfl, List.getElem?_eq_getElem h2, ?_, h3⟩
    rw [List.getElem?_eq_getElem h2] at h1
    exact h1

def hvOk : List (Nat × Nat) → Bool
  | [] => true
  | x :: l => l.all (fun b => b.2.testBit x.1) && hvOk l
theorem hvOk_iff : ∀ {l : List (Nat × Nat)}, l.Pairwise (fun a b => a.1 < b.1) → (hvOk l = true ↔ ∀ a ∈ l, ∀ b ∈ l, a.1 < b.1 → b.2.testBit a.1 = true)
  | [], _ => by simp [hvOk]
  | x :: l, hs => by
    rw [List.pairwise_cons] at hs
    have ih := hvOk_iff hs.2
    simp only [hvOk, Bool.and_eq_true, List.all_eq_true, ih]
    constructor
    · rintro ⟨h1, h2⟩ a ha b hb hab
      rcases List.mem_cons.1 ha with e | ha'
      · subst e
        rcases List.mem_cons.1 hb with e | hb'
        · subst e; omega
        · exact h1 b hb'
      · rcases List.mem_cons.1 hb with e | hb'
        · subst e; have := hs.1 a ha'; omega
        · exact h2 a ha' b hb' hab
    · intro h
      exact ⟨fun b hb => h x (List.mem_cons_self ..) b (List.mem_cons_of_mem _ hb) (hs.1 b hb), fun a ha b hb => h a (List.mem_cons_of_mem _ ha) b (List.mem_cons_of_mem _ hb)⟩

/-! ### the static check -/
def chkJ (M : Tr Nat) (D : Tr (List Nat)) (j Tj : Nat) (us : List Tmp) : Bool :=
  us.all fun u => (defAt D u).all fun i => Nat.beq i j || cond (Nat.blt i j) (Tj.testBit i) ((maskAt M i).testBit j)
def chkAll (ops : List Oper) (M : Tr Nat) (D : Tr (List Nat)) : List Oper → Nat → Bool
  | [], _ => true
  | o :: l, j => chkJ M D j (maskAt M j) (looksL ops o ++ o.dst.toList) && chkAll ops M D l (j + 1)
theorem chkAll_iff (ops : List Oper) (M : Tr Nat) (D : Tr (List Nat)) : ∀ (l : List Oper) (j : Nat), chkAll ops M D l j = true ↔ ∀ a o, l[a]? = some o → chkJ M D (j + a) (maskAt M (j + a)) (looksL ops o ++ o.dst.toList) = true
  | [], j => by simp [chkAll]
  | o :: l, j => by
    have ih := chkAll_iff ops M D l (j + 1)
    simp only [chkAll, Bool.and_eq_true, ih]
    constructor
    · rintro ⟨h1, h2⟩ a o' h
      cases a with
      | zero => simp at h; subst h; exact h1
      | succ a =>
        have := h2 a o' (by simpa using h)
        have e : j + 1 + a = j + (a + 1) := by omega
        rwa [e] at this
    · intro h
      refine ⟨h 0 o (by simp), fun a o' ho => ?_⟩
      have := h (a + 1) o' (by simpa using ho)
      have e : j + 1 + a = j + (a + 1) := by omega
      rwa [e]
def statT (ops : List Oper) : Bool := edgesB ops 0 && (chkAll ops (tabF ops) (defsF ops) ops 0 && hvOk (hvF ops))

theorem statT_eq (ops : List Oper) : statT ops = statB ops (tabD ops []) := by
  rw [Bool.eq_iff_iff]
  simp only [statT, statB, Bool.and_eq_true, chkAll_iff, hvOk_iff (hvL_sorted _ _ _), hvF, List.all_eq_true, List.mem_range]
  have hv := hvF_mem ops
  simp only [hvF] at hv
  refine and_congr_right fun _ => ?_
  constructor
  · rintro ⟨h1, h2⟩ i hi j hj
    simp only [pairB, List.getElem?_eq_getElem hi, List.getElem?_eq_getElem hj, Bool.and_eq_true]
    refine ⟨?_, ?_⟩
    · cases hd : ops[i].dst with
      | none => rfl
      | some d =>
        simp only [Bool.or_eq_true]
        by_cases hij : i = j
        · subst hij; exact .inl (.inl (by simp))
        · by_cases hu : ((looksL ops ops[j]).contains d || ops[j].dst == some d) = true
          · right
            have hmem : d ∈ looksL ops ops[j] ++ ops[j].dst.toList := by
              simp only [Bool.or_eq_true, List.contains_iff_mem, beq_iff_eq] at hu
              simp only [List.mem_append, Option.mem_toList]
              rcases hu with h | h
              · exact .inl h
              · exact .inr h
            have := h1 j ops[j] (List.getElem?_eq_getElem hj)
            simp only [chkJ, List.all_eq_true, Nat.zero_add] at this
            have := this d hmem i ((defsF_mem ops d i).2 ⟨_, List.getElem?_eq_getElem hi, hd⟩)
            simp only [tabF_eq, Bool.or_eq_true] at this
            rcases this with h | h
            · exact absurd (Nat.eq_of_beq_eq_true h) hij
            · exact h
          · exact .inl (.inr (by simpa using hu))
    · simp only [Bool.or_eq_true]
      by_cases hc : klass ops[i].op = 2 ∧ klass ops[j].op = 2 ∧ i < j
      · right
        have := h2 (i, _) ((hv (i, (tabD ops []).getD i 0)).2 ⟨by simp only [klassAt, List.getElem?_eq_getElem hi]; exact hc.1, hi, rfl⟩) (j, _) ((hv (j, (tabD ops []).getD j 0)).2 ⟨by simp only [klassAt, List.getElem?_eq_getElem hj]; exact hc.2.1, hj, rfl⟩) hc.2.2
        exact this
      · left
        simp only [Bool.not_eq_true']
        cases hb : (Nat.beq (klass ops[i].op) 2 && Nat.beq (klass ops[j].op) 2 && Nat.blt i j) with
        | false => rfl
        | true =>
          simp only [Bool.and_eq_true] at hb
          exact absurd ⟨Nat.eq_of_beq_eq_true hb.1.1, Nat.eq_of_beq_eq_true hb.1.2, by simpa [Nat.blt_eq] using hb.2⟩ hc
  · intro h
    refine ⟨fun j y hy => ?_, ?_⟩
    · obtain ⟨hj, rfl⟩ := List.getElem?_eq_some_iff.1 hy
      simp only [chkJ, List.all_eq_true, Nat.zero_add]
      intro u hu i hi
      obtain ⟨x, hx, hd⟩ := (defsF_mem ops u i).1 hi
      obtain ⟨hi', rfl⟩ := List.getElem?_eq_some_iff.1 hx
      have := h i hi' j hj
      simp only [pairB, List.getElem?_eq_getElem hi', List.getElem?_eq_getElem hj, hd, Bool.and_eq_true] at this
      have h1 := this.1
      simp only [Bool.or_eq_true] at h1
      simp only [tabF_eq, Bool.or_eq_true]
      rcases h1 with (h1 | h1) | h1
      · exact .inl h1
      · exfalso
        simp only [List.mem_append, Option.mem_toList] at hu
        have : ((looksL ops ops[j]).contains u || ops[j].dst == some u) = true := by
          simp only [Bool.or_eq_true, List.contains_iff_mem, beq_iff_eq]
          rcases hu with g | g
          · exact .inl g
          · exact .inr g
        rw [this] at h1
        simp at h1
      · exact .inr h1
    · intro a ha b hb hab
      obtain ⟨a1, a2, a3⟩ := (hv a).1 ha
      obtain ⟨b1, b2, b3⟩ := (hv b).1 hb
      have := h a.1 a2 b.1 b2
      simp only [pairB, List.getElem?_eq_getElem a2, List.getElem?_eq_getElem b2, Bool.and_eq_true] at this
      have h2 := this.2
      simp only [klassAt, List.getElem?_eq_getElem a2] at a1
      simp only [klassAt, List.getElem?_eq_getElem b2] at b1
      rw [a1, b1] at h2
      have hlt : Nat.blt a.1 b.1 = true := by simpa [Nat.blt_eq] using hab
      rw [hlt] at h2
      simp only [befB] at h2
      rw [b3]
      simpa using h2

/-! ### what is to be looked at when the region has run -/
def firstP (p : Nat × Nat → Bool) (hs : List (Nat × Nat)) (n : Nat) : Nat := match hs.find? p with | some h => h.1 | none => n
theorem firstP_iff {p : Nat × Nat → Bool} {hs : List (Nat × Nat)} {n s : Nat} (hp : hs.Pairwise fun a b => a.1 < b.1) (hn : s ≤ n) : s ≤ firstP p hs n ↔ ∀ h ∈ hs, h.1 < s → p h = false := by
  unfold firstP
  cases hf : hs.find? p with
  | none =>
    simp only [hn, true_iff]
    intro h hh _
    have := List.find?_eq_none.1 hf h hh
    simpa using this
  | some x =>
    obtain ⟨hx, l1, l2, rfl, h1⟩ := List.find?_eq_some_iff_append.1 hf
    rw [List.pairwise_append] at hp
    simp only
    constructor
    · intro hs' h hh hlt
      rcases List.mem_append.1 hh with g | g
      · have := h1 h g; simpa using this
      · rcases List.mem_cons.1 g with rfl | g
        · omega
        · have := (List.pairwise_cons.1 hp.2.1).1 h g; omega
    · intro h
      by_cases hlt : x.1 < s
      · have := h x (by simp) hlt
        rw [this] at hx; simp at hx
      · omega
def need1I (hs : List (Nat × Nat)) (n i Ti : Nat) : List (Nat × Nat) :=
  (fun f g => (hs.map (·.1) ++ [n]).filterMap fun s => cond (Nat.ble s f && (Nat.beq s n || !(Ti.testBit s)) && !(Nat.ble i s && Nat.ble s g)) (some (i, s)) none)
    (firstP (fun h => h.2.testBit i) hs n) (firstP (fun h => Nat.ble i h.1) hs n)
def need1L (M : Tr Nat) (hs : List (Nat × Nat)) (n : Nat) : List Oper → Nat → List (Nat × Nat)
  | [], _ => []
  | o :: l, i => cond (Nat.beq (klass o.op) 0 && readsB o.op) (need1I hs n i (maskAt M i) ++ need1L M hs n l (i + 1)) (need1L M hs n l (i + 1))
def need1F (ops : List Oper) : List (Nat × Nat) := need1L (tabF ops) (hvF ops) ops.length ops 0
def need2L (hs : List (Nat × Nat)) : List Oper → Nat → List (Nat × Nat)
  | [], _ => []
  | o :: l, i => cond (Nat.beq (klass o.op) 1) ((hs.filterMap fun h => cond (Nat.blt i h.1 && !(h.2.testBit i)) (some (i, h.1)) none) ++ need2L hs l (i + 1)) (need2L hs l (i + 1))
def need2F (ops : List Oper) : List (Nat × Nat) := need2L (hvF ops) ops 0

theorem need1L_mem (M : Tr Nat) (hs : List (Nat × Nat)) (n : Nat) (x : Nat × Nat) : ∀ (l : List Oper) (i : Nat), x ∈ need1L M hs n l i ↔ ∃ a o, l[a]? = some o ∧ klass o.op = 0 ∧ readsB o.op = true ∧ x ∈ need1I hs n (i + a) (maskAt M (i + a))
  | [], i => by simp [need1L]
  | o :: l, i => by
    have ih := need1L_mem M hs n x l (i + 1)
    have step : (∃ a o', (o :: l)[a]? = some o' ∧ klass o'.op = 0 ∧ readsB o'.op = true ∧ x ∈ need1I hs n (i + a) (maskAt M (i + a))) ↔ (klass o.op = 0 ∧ readsB o.op = true ∧ x ∈ need1I hs n i (maskAt M i)) ∨ (∃ a o', l[a]? = some o' ∧ klass o'.op = 0 ∧ readsB o'.op = true ∧ x ∈ need1I hs n (i + 1 + a) (maskAt M (i + 1 + a))) := by
      constructor
      · rintro ⟨a, o', h2, h3⟩
        cases a with
        | zero => simp at h2; subst h2; exact .inl h3
        | succ a =>
          have e : i + (a + 1) = i + 1 + a := by omega
          rw [e] at h3
          exact .inr ⟨a, o', by simpa using h2, h3⟩
      · rintro (h | ⟨a, o', h2, h3⟩)
        · exact ⟨0, o, by simp, h⟩
        · have e : i + 1 + a = i + (a + 1) := by omega
          rw [e] at h3
          exact ⟨a + 1, o', by simpa using h2, h3⟩
    rw [step, ← ih]
    simp only [need1L]
    by_cases hk : klass o.op = 0 ∧ readsB o.op = true
    · have : (Nat.beq (klass o.op) 0 && readsB o.op) = true := by rw [hk.1, hk.2]; rfl
      rw [this]
      simp [hk.1, hk.2]
    · have : (Nat.beq (klass o.op) 0 && readsB o.op) = false := by
        cases hb : (Nat.beq (klass o.op) 0 && readsB o.op) with
        | false => rfl
        | true =>
          simp only [Bool.and_eq_true] at hb
          exact absurd ⟨Nat.eq_of_beq_eq_true hb.1, hb.2⟩ hk
      rw [this]
      simp only [cond_false]
      constructor
      · exact .inr
      · rintro (⟨h1, h2, _⟩ | h)
        · exact absurd ⟨h1, h2⟩ hk
        · exact h
theorem need2L_mem (hs : List (Nat × Nat)) (x : Nat × Nat) : ∀ (l : List Oper) (i : Nat), x ∈ need2L hs l i ↔ ∃ a o, l[a]? = some o ∧ klass o.op = 1 ∧ x.1 = i + a ∧ ∃ h ∈ hs, i + a < h.1 ∧ h.2.testBit (i + a) = false ∧ x.2 = h.1
  | [], i => by simp [need2L]
  | o :: l, i => by
    have ih := need2L_mem hs x l (i + 1)
    have step : (∃ a o', (o :: l)[a]? = some o' ∧ klass o'.op = 1 ∧ x.1 = i + a ∧ ∃ h ∈ hs, i + a < h.1 ∧ h.2.testBit (i + a) = false ∧ x.2 = h.1) ↔ (klass o.op = 1 ∧ x.1 = i ∧ ∃ h ∈ hs, i < h.1 ∧ h.2.testBit i = false ∧ x.2 = h.1) ∨ (∃ a o', l[a]? = some o' ∧ klass o'.op = 1 ∧ x.1 = i + 1 + a ∧ ∃ h ∈ hs, i + 1 + a < h.1 ∧ h.2.testBit (i + 1 + a) = false ∧ x.2 = h.1) := by
      constructor
      · rintro ⟨a, o', h2, h3⟩
        cases a with
        | zero => simp at h2; subst h2; exact .inl h3
        | succ a =>
          have e : i + (a + 1) = i + 1 + a := by omega
          rw [e] at h3
          exact .inr ⟨a, o', by simpa using h2, h3⟩
      · rintro (h | ⟨a, o', h2, h3⟩)
        · exact ⟨0, o, by simp, h⟩
        · have e : i + 1 + a = i + (a + 1) := by omega
          rw [e] at h3
          exact ⟨a + 1, o', by simpa using h2, h3⟩
    rw [step, ← ih]
    simp only [need2L]
    by_cases hk : klass o.op = 1
    · have : Nat.beq (klass o.op) 1 = true := by rw [hk]; rfl
      rw [this]
      simp only [cond_true, List.mem_append, List.mem_filterMap, hk, true_and]
      refine or_congr_left ?_
      constructor
      · rintro ⟨h, hh, hc⟩
        cases hb : (Nat.blt i h.1 && !(h.2.testBit i)) with
        | false => rw [hb] at hc; simp at hc
        | true =>
          rw [hb] at hc
          simp only [cond_true, Option.some.injEq] at hc
          subst hc
          simp only [Bool.and_eq_true, Bool.not_eq_true'] at hb
          exact ⟨rfl, h, hh, by simpa [Nat.blt_eq] using hb.1, hb.2, rfl⟩
      · rintro ⟨h1, h, hh, h2, h3, h4⟩
        refine ⟨h, hh, ?_⟩
        have : Nat.blt i h.1 = true := by simpa [Nat.blt_eq] using h2
        rw [this, h3]
        simp only [Bool.not_false, Bool.and_true, cond_true, Option.some.injEq]
        ext
        · exact h1.symm
        · exact h4.symm
    · have : Nat.beq (klass o.op) 1 = false := beq_ne hk
      rw [this]
      simp [hk]

theorem need2F_mem (ops : List Oper) (x : Nat × Nat) : x ∈ need2F ops ↔ x ∈ need2 ops (tabD ops []) := by
  rw [need2F, need2L_mem]
  simp only [need2, List.mem_flatMap, List.mem_range, Nat.zero_add]
  constructor
  · rintro ⟨i, o, ho, hk, h1, h, hh, h2, h3, h4⟩
    obtain ⟨hi, rfl⟩ := List.getElem?_eq_some_iff.1 ho
    obtain ⟨g1, g2, g3⟩ := (hvF_mem ops h).1 hh
    refine ⟨i, hi, ?_⟩
    have e1 : klassAt ops i = 1 := by simp only [klassAt, ho]; exact hk
    rw [e1]
    simp only [show Nat.beq 1 1 = true from rfl, cond_true, List.mem_filterMap, List.mem_range]
    refine ⟨h.1, g2, ?_⟩
    have e2 : Nat.blt i h.1 = true := by simpa [Nat.blt_eq] using h2
    have e3 : befB (tabD ops []) i h.1 = false := by simp only [befB, ← g3]; exact h3
    rw [e2, g1, e3]
    simp only [show Nat.beq 2 2 = true from rfl, Bool.and_true, Bool.not_false, cond_true, Option.some.injEq]
    ext
    · exact h1.symm
    · exact h4.symm
  · rintro ⟨i, hi, hx⟩
    cases hk : Nat.beq (klassAt ops i) 1 with
    | false => rw [hk] at hx; simp at hx
    | true =>
      rw [hk] at hx
      simp only [cond_true, List.mem_filterMap, List.mem_range] at hx
      obtain ⟨h, hh, hc⟩ := hx
      cases hb : (Nat.blt i h && Nat.beq (klassAt ops h) 2 && !(befB (tabD ops []) i h)) with
      | false => rw [hb] at hc; simp at hc
      | true =>
        rw [hb] at hc
        simp only [cond_true, Option.some.injEq] at hc
        subst hc
        simp only [Bool.and_eq_true, Bool.not_eq_true'] at hb
        have hk' := Nat.eq_of_beq_eq_true hk
        simp only [klassAt, List.getElem?_eq_getElem hi] at hk'
        refine ⟨i, ops[i], List.getElem?_eq_getElem hi, hk', rfl, (h, (tabD ops []).getD h 0), (hvF_mem ops _).2 ⟨Nat.eq_of_beq_eq_true hb.1.2, hh, rfl⟩, by simpa [Nat.blt_eq] using hb.1.1, ?_, rfl⟩
        have := hb.2
        simpa [befB] using this

theorem need1F_mem (ops : List Oper) (x : Nat × Nat) : x ∈ need1F ops ↔ x ∈ need1 ops (tabD ops []) := by
  rw [need1F, need1L_mem]
  have hsort : (hvF ops).Pairwise (fun a b => a.1 < b.1) := hvL_sorted _ _ _
  have hmem : ∀ s, s ∈ (hvF ops).map (·.1) ↔ klassAt ops s = 2 ∧ s < ops.length := by
    intro s
    simp only [List.mem_map]
    constructor
    · rintro ⟨h, hh, rfl⟩
      obtain ⟨g1, g2, g3⟩ := (hvF_mem ops h).1 hh
      exact ⟨g1, g2⟩
    · rintro ⟨g1, g2⟩
      exact ⟨(s, _), (hvF_mem ops (s, (tabD ops []).getD s 0)).2 ⟨g1, g2, rfl⟩, rfl⟩
  have hfe : ∀ i s, s ≤ ops.length → (s ≤ firstP (fun h => h.2.testBit i) (hvF ops) ops.length ↔ ((List.range s).all fun h => !(Nat.beq (klassAt ops h) 2) || !(befB (tabD ops []) i h)) = true) := by
    intro i s hs
    rw [firstP_iff hsort hs]
    simp only [List.all_eq_true, List.mem_range, Bool.or_eq_true, Bool.not_eq_true']
    constructor
    · intro h q hq
      by_cases hk : klassAt ops q = 2
      · right
        have := h (q, _) ((hvF_mem ops (q, (tabD ops []).getD q 0)).2 ⟨hk, by omega, rfl⟩) hq
        exact this
      · exact .inl (beq_ne hk)
    · intro h q hq hlt
      obtain ⟨g1, g2, g3⟩ := (hvF_mem ops q).1 hq
      rcases h q.1 hlt with g | g
      · rw [g1] at g; simp at g
      · rw [g3]; exact g
  have hne : ∀ i s, s ≤ ops.length → (s ≤ firstP (fun h => Nat.ble i h.1) (hvF ops) ops.length ↔ ((List.range s).all fun h => !(Nat.beq (klassAt ops h) 2) || Nat.blt h i) = true) := by
    intro i s hs
    rw [firstP_iff hsort hs]
    simp only [List.all_eq_true, List.mem_range, Bool.or_eq_true, Bool.not_eq_true']
    constructor
    · intro h q hq
      by_cases hk : klassAt ops q = 2
      · right
        have := h (q, _) ((hvF_mem ops (q, (tabD ops []).getD q 0)).2 ⟨hk, by omega, rfl⟩) hq
        simp only at this
        have h2 : ¬ (i ≤ q) := fun hle => by
          have hb : Nat.ble i q = true := by rw [Nat.ble_eq]; exact hle
          rw [hb] at this
          simp at this
        simp only [Nat.blt_eq]
        omega
      · exact .inl (beq_ne hk)
    · intro h q hq hlt
      obtain ⟨g1, g2, g3⟩ := (hvF_mem ops q).1 hq
      rcases h q.1 hlt with g | g
      · rw [g1] at g; simp at g
      · have h3 : q.1 < i := by simpa [Nat.blt_eq] using g
        cases hb : Nat.ble i q.1 with
        | false => rfl
        | true => have := Nat.le_of_ble_eq_true hb; omega
  have core : ∀ i s, s ≤ ops.length → (((Nat.ble s (firstP (fun h => h.2.testBit i) (hvF ops) ops.length) && (Nat.beq s ops.length || !((maskAt (tabF ops) i).testBit s)) && !(Nat.ble i s && Nat.ble s (firstP (fun h => Nat.ble i h.1) (hvF ops) ops.length))) = true ∧ (s ∈ (hvF ops).map (·.1) ∨ s = ops.length)) ↔ ((feasB ops (tabD ops []) i s && !(nextB ops i s)) = true)) := by
    intro i s hs
    have e1 := hfe i s hs
    have e2 := hne i s hs
    simp only [Bool.and_eq_true, Nat.ble_eq, e1, Bool.not_eq_true', Bool.or_eq_true, feasB, nextB, tabF_eq, befB] at e1 e2 ⊢
    have e3 : (Nat.ble i s && Nat.ble s (firstP (fun h => Nat.ble i h.1) (hvF ops) ops.length)) = (Nat.ble i s && (List.range s).all fun h => !(Nat.beq (klassAt ops h) 2) || Nat.blt h i) := by
      congr 1
      rw [Bool.eq_iff_iff, Nat.ble_eq]
      exact e2
    rw [e3, hmem]
    constructor
    · rintro ⟨⟨⟨h1, h2⟩, h3⟩, h4⟩
      refine ⟨⟨?_, h1⟩, h3⟩
      rcases h4 with h4 | h4
      · rcases h2 with h2 | h2
        · exact .inl h2
        · exact .inr ⟨by rw [h4.1]; rfl, h2⟩
      · left; rw [h4]; exact Nat.beq_refl _
    · rintro ⟨⟨h0, h1⟩, h3⟩
      rcases h0 with h0 | ⟨h0, h2⟩
      · exact ⟨⟨⟨h1, .inl h0⟩, h3⟩, .inr (Nat.eq_of_beq_eq_true h0)⟩
      · by_cases hlt : s < ops.length
        · exact ⟨⟨⟨h1, .inr h2⟩, h3⟩, .inl ⟨Nat.eq_of_beq_eq_true h0, hlt⟩⟩
        · have : s = ops.length := by omega
          exact ⟨⟨⟨h1, .inr h2⟩, h3⟩, .inr this⟩
  simp only [need1, List.mem_flatMap, List.mem_range, Nat.zero_add]
  constructor
  · rintro ⟨i, o, ho, hk, hr, hx⟩
    obtain ⟨hi, rfl⟩ := List.getElem?_eq_some_iff.1 ho
    refine ⟨i, hi, ?_⟩
    rw [ho]
    simp only [hk, hr, show Nat.beq 0 0 = true from rfl, Bool.and_true, cond_true, List.mem_filterMap, List.mem_range]
    simp only [need1I, List.mem_filterMap] at hx
    obtain ⟨s, hs, hc⟩ := hx
    cases hb : (Nat.ble s (firstP (fun h => h.2.testBit i) (hvF ops) ops.length) && (Nat.beq s ops.length || !((maskAt (tabF ops) i).testBit s)) && !(Nat.ble i s && Nat.ble s (firstP (fun h => Nat.ble i h.1) (hvF ops) ops.length))) with
    | false => rw [hb] at hc; simp at hc
    | true =>
      rw [hb] at hc
      have hs' : s ∈ (hvF ops).map (·.1) ∨ s = ops.length := by simpa using hs
      have hle : s ≤ ops.length := by
        rcases hs' with g | g
        · have := (hmem s).1 g; omega
        · omega
      refine ⟨s, by omega, ?_⟩
      rw [(core i s hle).1 ⟨hb, hs'⟩]
      exact hc
  · rintro ⟨i, hi, hx⟩
    rw [List.getElem?_eq_getElem hi] at hx
    simp only at hx
    cases hk : (Nat.beq (klass ops[i].op) 0 && readsB ops[i].op) with
    | false => rw [hk] at hx; simp at hx
    | true =>
      rw [hk] at hx
      simp only [cond_true, List.mem_filterMap, List.mem_range] at hx
      obtain ⟨s, hs, hc⟩ := hx
      simp only [Bool.and_eq_true] at hk
      refine ⟨i, ops[i], List.getElem?_eq_getElem hi, Nat.eq_of_beq_eq_true hk.1, hk.2, ?_⟩
      cases hb : (feasB ops (tabD ops []) i s && !(nextB ops i s)) with
      | false => rw [hb] at hc; simp at hc
      | true =>
        rw [hb] at hc
        obtain ⟨g1, g2⟩ := (core i s (by omega)).2 hb
        simp only [need1I, List.mem_filterMap]
        refine ⟨s, by simpa using g2, ?_⟩
        rw [g1]
        exact hc

theorem all_congr_mem {α : Type} {l l' : List α} (h : ∀ x, x ∈ l ↔ x ∈ l') (p : α → Bool) : l.all p = l'.all p := by
  rw [Bool.eq_iff_iff]
  simp only [List.all_eq_true, h]
end Go.DI
