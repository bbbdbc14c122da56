/-
  DiApp: append, copy, and what turns strings into bytes and back.
-/
import Derived.Test.YtapmpddneoghfaaDiHeavy
namespace Go.DI
section
variable {P : Program} {K : TypeId → Bool} {G B0 n : Nat} {ι : Ren} {m : Mem} {w : World} {t : Tmps} {a : Act}

theorem blk_new {ι' : Ren} {e : TypeId} {c c' rest : List Value} {T : Nat} (hc : VRels ι' c c') (hT : (c' ++ rest).length = T) (hf : B0 ≤ w.heap.size) :
    BlkRel B0 ι' (.cells true c) ⟨w.heap.size, 0, T⟩ (w.alloc (.cells (c' ++ rest).toArray e)) := by
  refine ⟨(c' ++ rest).toArray, e, (0, 0), ?_, by simpa using hT, ?_, fun i v hv => ?_, fun _ => ⟨hf, fun o _ h => by simp at h⟩⟩
  · show (w.heap.push _)[w.heap.size]? = _
    simp
  · have := hc.length
    simp only [List.length_append] at hT
    simp only
    omega
  · obtain ⟨y, hy, hr⟩ := hc.get hv
    refine ⟨y, ?_, hr⟩
    simp only [List.getElem?_toArray, Nat.zero_add]
    rw [List.getElem?_append_left]
    · exact hy
    · rcases Nat.lt_or_ge i c'.length with h1 | h1
      · exact h1
      · rw [List.getElem?_eq_none h1] at hy; cases hy

/-- In place: the new cells behind the old ones. -/
theorem inplace_ok (hr : Rel B0 G ι m w) (hn : ι m.size = none) {b : Nat} {L : Loc} (hL : ι b = some L) {cb : List Value} (hg : m.get b = .cells true cb) {o' k : Nat} {old new new' : List Value} (hnr : VRels ι new new')
    (hone : new.all one = true) (hol : old.length = k) (hfit : o' + k + new.length ≤ L.total)
    (hold : ∀ rc e fr, w.heap[L.block]? = some (.cells rc e fr) → ∀ (i : Nat) (v : Value), old[i]? = some v → ∃ v', rc[o' + i]? = some v' ∧ VRel ι v v') :
    ∃ w', (storeCells ⟨L.block, o' + k, none⟩ new').run P w = .ok () w' ∧ Rel B0 G (fun q => if q = m.size then some ⟨L.block, o', L.total⟩ else ι q) ((m.push (.cells true (old ++ new))).set b .none) w' ∧
      Stp ι (fun q => if q = m.size then some ⟨L.block, o', L.total⟩ else ι q) m ((m.push (.cells true (old ++ new))).set b .none) w w' := by
  have hlt := hr.get_lt (b := b) (by rw [hg]; simp)
  have hb := hr.blk b L hlt hL
  rw [hg] at hb
  obtain ⟨rc, e, fr, h1, h2, h3, h4, h5⟩ := hb
  have hlen := hnr.length
  have hone' : new'.all one = true := by rw [← hnr.all fun _ _ h => h.one]; exact hone
  have hrun := run_storeCells' (P := P) L.block e fr new' (o' + k) 0 rc w h1 (by omega) (fun j g1 g2 => (h5 rfl).2 j (by omega)) hone'
  have hle : ι.le (fun q => if q = m.size then some ⟨L.block, o', L.total⟩ else ι q) := by
    intro q L' hq
    have : q ≠ m.size := by intro e; rw [e, hn] at hq; cases hq
    simp [this, hq]
  refine ⟨_, hrun, Rel.inplace hr hn hL hlt (by rw [hg]; rfl) ?_⟩
  refine ⟨_, e, fr, by rw [setBlk_get _ _ _ _ (lt_of_get h1)]; simp; rfl, ?_, ?_, fun i v hv => ?_, fun _ => h5 rfl⟩
  · rw [List.size_toArray, splice_length _ _ _ (by simp; omega)]; simpa using h2
  · simp only [List.length_append]; omega
  · simp only [List.getElem?_toArray, Nat.add_zero]
    rw [splice_get _ _ _ _ (by simp; omega)]
    rw [List.getElem?_append] at hv
    split at hv
    · rename_i hi
      obtain ⟨v', hv', hrv⟩ := hold rc e fr h1 i v hv
      refine ⟨v', ?_, hrv.mono hle⟩
      rw [if_neg (by omega)]
      simpa using hv'
    · rename_i hi
      obtain ⟨v', hv', hrv⟩ := hnr.get hv
      refine ⟨v', ?_, hrv.mono hle⟩
      have hi' : i - old.length < new'.length := by
        rcases Nat.lt_or_ge (i - old.length) new'.length with h6 | h6
        · exact h6
        · rw [List.getElem?_eq_none h6] at hv'; cases hv'
      rw [if_pos (by omega), ← hv']
      congr 1; omega

set_option maxHeartbeats 1000000 in
theorem appendD_ok (hr : Rel B0 G ι m w) {tS tX ty : TypeId} {s s' x x' v : Value} (hs : VRel ι s s') (hx : VRel ι x x') {m' : Mem} (hn : m.size < m'.size → ι m.size = none) (h : appendD P m tS tX s x = some (v, m')) :
    ∃ ι' v' w', (Builtin.append_ #[tS, tX] ty #[s', x']).run P w = .ok v' w' ∧ VRel ι' v v' ∧ Rel B0 G ι' m' w' ∧ Stp ι ι' m m' w w' := by
  unfold appendD at h
  split at h <;> try (simp at h; done)
  rename_i e dX hX0 hu huX
  have hX : ∀ (k : IntKind), dX ≠ .int k := fun k e1 => hX0 k e1
  split at h <;> try (simp at h; done)
  rename_i base sLen sCap size bytes k hsz hby hlen
  split at h <;> try (simp at h; done)
  rename_i hsz0
  split at h <;> try (simp at h; done)
  rename_i new hnew
  obtain ⟨new', hf, hnr⟩ := firstC_ok (P := P) hr hx hnew hlen (Nat.le_refl _)
  have hlen' := lenOf_ok (P := P) (w := w) hx hlen
  split at h
  · rename_i hroom
    split at h
    · split at h <;> simp at h
      rename_i hk0
      obtain ⟨rfl, rfl⟩ := h
      cases hs
      refine ⟨ι, _, w, ?_, .slc0 _ _, hr, Stp.refl _ _ _⟩
      rw [run_append_room hu huX hX hsz hlen' hroom hf]
    · rename_i b off sp
      split at h
      · rename_i hk0
        subst hk0
        simp at h
        obtain ⟨rfl, rfl⟩ := h
        have hnil : new' = [] := by
          have h0 := hnr.length
          have : new = [] := by
            unfold firstC at hnew
            split at hnew <;> try (simp at hnew; done)
            · unfold loadC at hnew
              split at hnew <;> try (simp at hnew; done)
              split at hnew <;> simp at hnew
              exact hnew
            · simpa using hnew
            · split at hnew <;> simp at hnew
              exact hnew
          rw [this] at h0
          exact List.eq_nil_of_length_eq_zero (by simpa using h0.symm)
        subst hnil
        obtain ⟨base', sCap', rfl, hcap⟩ := hs.len0
        refine ⟨ι, .slice base' (sLen + 0) sCap', w, ?_, by simpa using hs, hr, Stp.refl _ _ _⟩
        rw [run_append_room hu huX hX hsz hlen' (Nat.le_trans hroom hcap) hf]
        cases base' <;> simp [storeCells]
      · rename_i hk0
        split at h <;> simp at h
        rename_i m₁ hst
        obtain ⟨rfl, rfl⟩ := h
        cases hs with
        | slc _ _ _ _ L hL =>
          obtain ⟨w', h1, h2, h3⟩ := storeC_ok (P := P) hr hL hnr hst
          refine ⟨ι, _, w', ?_, .slc _ _ _ _ _ hL, h2, h3⟩
          rw [run_append_room hu huX hX hsz hlen' hroom hf]
          simp only [Addr.add_none, Nat.add_assoc]
          rw [h1]; rfl
        | loose _ _ _ _ _ c' L hL hc htot =>
          obtain ⟨w', h1, h2, h3⟩ := storeC_ok (P := P) hr hL hnr hst
          refine ⟨ι, _, w', ?_, .loose _ _ _ _ _ c' _ hL hc htot, h2, h3⟩
          rw [run_append_room hu huX hX hsz hlen' (Nat.le_trans hroom hc) hf]
          simp only [Addr.add_none, Nat.add_assoc]
          rw [h1]; rfl
        | loose0 => omega
  · rename_i hroom
    split at h <;> try (simp at h; done)
    rename_i hcond
    obtain ⟨hb1, hb2, hb3, hz1⟩ := hcond
    rw [Option.isSome_iff_exists] at hz1
    obtain ⟨zs, hzs⟩ := hz1
    obtain ⟨z, sz, hz, hs'', hzsz, _, _⟩ := zerosD_run hzs
    rw [hsz] at hs''; cases hs''
    split at h <;> try (simp at h; done)
    rename_i old hold
    split at h <;> try (simp at h; done)
    rename_i hall
    obtain ⟨hall, hol, hnl⟩ := hall
    simp only [Bool.and_eq_true] at hall
    obtain ⟨base', sCap', rfl, hcap⟩ := hs.len0
    replace hn := hn (by
      split at h
      · split at h <;> try (simp at h; done)
        split at h <;> simp at h
        rw [← h.2]; simp
      · simp at h; rw [← h.2]; simp)
    have hrd := hr.drew
    obtain ⟨old', hfo, hor⟩ := firstC_ok (P := P) hrd.1 hs hold (ln := sLen) rfl (Nat.le_refl _)
    obtain ⟨new'', hfd, hndr⟩ := firstC_ok (P := P) hrd.1 hx hnew hlen (Nat.le_refl _)
    have hol' := hor.length
    have hnl' := hndr.length
    have realloc : ¬ sLen + k ≤ sCap' → ∃ ι' v' w', (Builtin.append_ #[tS, tX] ty #[.slice base' sLen sCap', x']).run P w = .ok v' w' ∧ VRel ι' (.slice (some ⟨m.size, 0, some size⟩) (sLen + k) (sLen + k)) v' ∧
        Rel B0 G ι' (m.push (.cells true (old ++ new))) w' ∧ Stp ι ι' m (m.push (.cells true (old ++ new))) w w' := by
      intro hneed
      obtain ⟨cap', hcap', hrun⟩ := run_append_new (ty := ty) hu huX hX hsz hby hz hzsz hlen' hneed hb1 hb2 hb3 hfo hfd
      have hle : ι.le (fun q => if q = m.size then some ⟨w.heap.size, 0, cap' * size⟩ else ι q) := by
        intro q L' hq
        have : q ≠ m.size := by intro e; rw [e, hn] at hq; cases hq
        simp [this, hq]
      have htot : ((old' ++ new'') ++ (Builtin.zeroCells z.cells (cap' - (sLen + k))).toList).length = cap' * size := by
        simp only [List.length_append, Array.length_toList, size_zeroCells, hzsz, ← hol', ← hnl', hol, hnl, ← Nat.add_mul]
        congr 1
        omega
      have hp := Rel.push (k := cap' * size) (x := .cells true (old ++ new)) (o := .cells ((old' ++ new'') ++ (Builtin.zeroCells z.cells (cap' - (sLen + k))).toList).toArray e) hrd.1 hn
        (blk_new (VRels.mono hle (hor.append hndr)) htot hr.floor)
      refine ⟨_, _, _, hrun, ?_, hp.1, hrd.2.trans hp.2⟩
      have := VRel.loose (ι := fun q => if q = m.size then some ⟨w.heap.size, 0, cap' * size⟩ else ι q) m.size 0 size (sLen + k) (sLen + k) cap' ⟨w.heap.size, 0, cap' * size⟩ (by simp) hcap' (by simp)
      simpa using this
    cases hs with
    | slc0 =>
      simp at h
      obtain ⟨rfl, rfl⟩ := h
      exact realloc hroom
    | slc b off _ _ L hL =>
      simp at h
      obtain ⟨rfl, rfl⟩ := h
      exact realloc hroom
    | loose b off e' _ _ _ L hL hc htot =>
      simp only at h
      split at h <;> try (simp at h; done)
      rename_i he
      subst he
      split at h <;> simp at h
      rename_i cb hg
      obtain ⟨rfl, rfl⟩ := h
      have hlt := hr.get_lt (b := b) (by rw [hg]; simp)
      by_cases hneed : sLen + k ≤ sCap'
      · have hnb : (sLen + k) * e' ≤ sCap' * e' := Nat.mul_le_mul_right _ hneed
        rw [Nat.add_mul] at hnb
        obtain ⟨w', h1, h2, h3⟩ := inplace_ok (P := P) (o' := L.base + off) (k := sLen * e') hr hn hL hg hnr hall.1 hol (by rw [hnl]; omega) (fun rc e₁ fr hrc i v hv => by
          have hb := hr.blk b L hlt hL
          rw [hg] at hb
          obtain ⟨rc', e₂, fr', g1, g2, g3, g4, g5⟩ := hb
          rw [hrc] at g1
          cases g1
          simp only [firstC, loadC, hg] at hold
          split at hold <;> simp at hold
          rw [← hold, List.getElem?_take] at hv
          split at hv
          · rw [List.getElem?_drop] at hv
            obtain ⟨v', hv', hrv⟩ := g4 _ _ hv
            exact ⟨v', by rw [← hv']; congr 1; omega, hrv⟩
          · simp at hv)
        refine ⟨_, .slice (some ⟨L.block, L.base + off, none⟩) (sLen + k) sCap', w', ?_, ?_, h2, h3⟩
        · rw [run_append_room hu huX hX hsz hlen' hneed hf]
          simp only [Addr.add_none]
          rw [h1]; rfl
        · have := VRel.loose (ι := fun q => if q = m.size then some ⟨L.block, L.base + off, L.total⟩ else ι q) m.size 0 e' (sLen + k) (sLen + k) sCap' ⟨L.block, L.base + off, L.total⟩ (by simp) hneed (by simpa using htot)
          simpa using this
      · obtain ⟨ι', v', w', h1, h2, h3, h4⟩ := realloc hneed
        have hk := Rel.kill h3 (b := b) (by simp; omega)
        exact ⟨ι', v', w', h1, h2, hk.1, h4.trans hk.2⟩
    | loose0 b off e' o' _ L hL htot =>
      simp only at h
      split at h <;> try (simp at h; done)
      rename_i he
      subst he
      split at h <;> simp at h
      rename_i cb hg
      obtain ⟨rfl, rfl⟩ := h
      have hlt := hr.get_lt (b := b) (by rw [hg]; simp)
      by_cases hneed : 0 + k ≤ sCap'
      · have hnb : (0 + k) * e' ≤ sCap' * e' := Nat.mul_le_mul_right _ hneed
        rw [Nat.zero_add] at hnb
        have hold0 : old = [] := List.eq_nil_of_length_eq_zero (by simpa using hol)
        subst hold0
        obtain ⟨w', h1, h2, h3⟩ := inplace_ok (P := P) (o' := o') (k := 0) (old := []) hr hn hL hg hnr hall.1 rfl (by rw [hnl]; omega) (fun rc e₁ fr hrc i v hv => by simp at hv)
        refine ⟨_, .slice (some ⟨L.block, o', none⟩) (0 + k) sCap', w', ?_, ?_, h2, h3⟩
        · rw [run_append_room hu huX hX hsz hlen' hneed hf]
          simp only [Addr.add_none, Nat.zero_mul]
          rw [h1]; rfl
        · have := VRel.loose (ι := fun q => if q = m.size then some ⟨L.block, o', L.total⟩ else ι q) m.size 0 e' (0 + k) (0 + k) sCap' ⟨L.block, o', L.total⟩ (by simp) hneed (by simpa using htot)
          simpa using this
      · obtain ⟨ι', v', w', h1, h2, h3, h4⟩ := realloc hneed
        have hk := Rel.kill h3 (b := b) (by simp; omega)
        exact ⟨ι', v', w', h1, by simpa using h2, hk.1, h4.trans hk.2⟩

theorem copyD_ok (hr : Rel B0 G ι m w) {tD tX ty : TypeId} {s s' x x' v : Value} (hs : VRel ι s s') (hx : VRel ι x x') {m' : Mem} (h : copyD P m tD s x = some (v, m')) :
    ∃ v' w', (Builtin.copy_ #[tD, tX] ty #[s', x']).run P w = .ok v' w' ∧ VRel ι v v' ∧ Rel B0 G ι m' w' ∧ Stp ι ι m m' w w' := by
  unfold copyD at h
  split at h <;> try (simp at h; done)
  rename_i e hu
  split at h <;> try (simp at h; done)
  rename_i base dLen cp size sl hsz hlen
  split at h <;> try (simp at h; done)
  rename_i hsz0
  split at h <;> try (simp at h; done)
  rename_i new hnew
  obtain ⟨new', hf, hnr⟩ := firstC_ok (P := P) hr hx hnew hlen (Nat.min_le_left _ _)
  have hlen' := lenOf_ok (P := P) (w := w) hx hlen
  obtain ⟨base', sCap', rfl, hcap⟩ := hs.len0
  have hrun : (Builtin.copy_ #[tD, tX] ty #[.slice base' dLen sCap', x']).run P w = match base' with
      | some a => ((storeCells a new').run P w).andThen fun _ w' => .ok (.int .i64 (Nat.min sl dLen : Nat)) w'
      | none => .ok (.int .i64 (Nat.min sl dLen : Nat)) w := by
    cases base' <;> simp [Builtin.copy_, run_und hu, hlen', run_sizeOf' hsz, hf, goInt]
  split at h
  · simp at h
    obtain ⟨rfl, rfl⟩ := h
    cases hs
    exact ⟨_, w, hrun, .int _ _, hr, Stp.refl _ _ _⟩
  · rename_i b off sp
    split at h
    · rename_i h0
      simp at h
      obtain ⟨rfl, rfl⟩ := h
      have hnil : new' = [] := by
        have hl0 := hnr.length
        have : new = [] := by
          rw [h0] at hnew
          unfold firstC at hnew
          split at hnew <;> try (simp at hnew; done)
          · unfold loadC at hnew
            split at hnew <;> try (simp at hnew; done)
            split at hnew <;> simp at hnew
            exact hnew
          · simpa using hnew
          · split at hnew <;> simp at hnew
            exact hnew
        rw [this] at hl0
        exact List.eq_nil_of_length_eq_zero (by simpa using hl0.symm)
      subst hnil
      refine ⟨_, w, ?_, .int _ _, hr, Stp.refl _ _ _⟩
      rw [hrun]
      cases base' <;> simp [storeCells]
    · rename_i h0
      split at h <;> simp at h
      rename_i m₁ hst
      obtain ⟨rfl, rfl⟩ := h
      cases hs with
      | slc _ _ _ _ L hL =>
        obtain ⟨w', h1, h2, h3⟩ := storeC_ok (P := P) hr hL hnr hst
        exact ⟨_, w', by rw [hrun]; simp only [h1]; rfl, .int _ _, h2, h3⟩
      | loose _ _ _ _ _ c' L hL hc htot =>
        obtain ⟨w', h1, h2, h3⟩ := storeC_ok (P := P) hr hL hnr hst
        exact ⟨_, w', by rw [hrun]; simp only [h1]; rfl, .int _ _, h2, h3⟩
      | loose0 => exact absurd (Nat.min_zero _) h0

theorem byteOf_inv {v : Value} {b : UInt8} (h : byteOf v = some b) : ∃ n : Int, v = .int .u8 n ∧ b = UInt8.ofNat n.toNat := by
  unfold byteOf at h
  split at h <;> simp at h
  exact ⟨_, rfl, h.symm⟩

theorem bytesIn_run : ∀ (c : List Value) (l : List UInt8), bytesIn c = some l → ∀ (s : ByteArray), (forIn c s fun (c : Value) (r : ByteArray) => (match c with
      | .int .u8 n => (pure (ForInStep.yield (r.push (UInt8.ofNat n.toNat))) : Sem (ForInStep ByteArray))
      | _ => do
        stuck (α := PUnit) "bytesToString: byte expected"
        pure (ForInStep.yield r))).run P w = .ok ⟨(s.data.toList ++ l).toArray⟩ w
  | [], l, h, s => by simp [bytesIn] at h; subst h; simp
  | v :: c, l, h, s => by
    simp only [bytesIn] at h
    split at h <;> try (simp at h; done)
    rename_i b hb
    split at h <;> simp at h
    rename_i r hr
    subst h
    obtain ⟨n, rfl, rfl⟩ := byteOf_inv hb
    rw [List.forIn_cons]
    simp only [Sem.run_bind, Sem.run_pure, Result.andThen_ok]
    rw [bytesIn_run c r hr]
    congr 2
    simp [ByteArray.push]

theorem bytesIn_rel {c c' : List Value} (h : VRels ι c c') : ∀ {l : List UInt8}, bytesIn c = some l → bytesIn c' = some l := by
  induction h with
  | nil => intro l h; exact h
  | cons h0 t ih =>
    intro l h
    simp only [bytesIn] at h ⊢
    split at h <;> try (simp at h; done)
    rename_i b hb
    split at h <;> simp at h
    rename_i r hr
    obtain ⟨n, rfl, rfl⟩ := byteOf_inv hb
    cases h0
    simp only [byteOf, ih hr, h]

theorem heap_new (W : World) (o : Obj) : (W.alloc o).heap[W.heap.size]? = some o := by
  show (W.heap.push o)[W.heap.size]? = _
  simp

theorem shape_new (W : World) (C : Array Value) (e : TypeId) : (W.alloc (.cells C e)).shape? W.heap.size = some (e, C.size) := by
  simp only [World.shape?, heap_new]

theorem freeze_new (W : World) (C : Array Value) (e : TypeId) : (W.alloc (.cells C e)).freeze ⟨W.heap.size, C.size, none⟩ 1 = W.alloc (.cells C e (C.size, C.size + 1)) := by
  simp only [World.freeze, World.alloc]
  rw [if_neg (by decide)]
  congr 1
  apply Array.ext_getElem?
  intro j
  rw [Array.getElem?_modify]
  simp only [Array.getElem?_push]
  by_cases hj : W.heap.size = j
  · subst hj; simp
  · have : ¬ j = W.heap.size := fun h => hj h.symm
    simp [hj, this]

theorem convD_ok (hr : Rel B0 G ι m w) {src dst : TypeId} {x x' v : Value} (hx : VRel ι x x') {m' : Mem} (hn : m.size < m'.size → ι m.size = none) (h : convD P m src dst x = some (v, m')) :
    ∃ ι' v' w', (convert src dst x').run P w = .ok v' w' ∧ VRel ι' v v' ∧ Rel B0 G ι' m' w' ∧ Stp ι ι' m m' w w' := by
  unfold convD at h
  split at h <;> try (simp at h; done)
  · rename_i d k hs hd
    split at h <;> simp at h
    obtain ⟨rfl, rfl⟩ := h
    cases hx
    exact ⟨ι, _, w, by simp [convert, run_und hs, run_und hd, Conv.intToInt], .int _ _, hr, Stp.refl _ _ _⟩
  · rename_i hs hd
    split at h <;> simp at h
    obtain ⟨rfl, rfl⟩ := h
    cases hx
    exact ⟨ι, _, w, by simp [convert, run_und hs, run_und hd], .string _, hr, Stp.refl _ _ _⟩
  · rename_i e hs hd
    split at h <;> simp at h
    rename_i q hq
    obtain ⟨rfl, rfl⟩ := h
    cases hx
    replace hn := hn (by simp)
    have hrd := hr.drew
    have hcap : q.size ≤ (Question.appendCap q.size 0 e).cut (w.tape w.drawn (.appendCap q.size 0 e)) := by simp [Question.cut]
    generalize hcp : (Question.appendCap q.size 0 e).cut (w.tape w.drawn (.appendCap q.size 0 e)) = cp at hcap
    have hC : (q.data.map (fun (b : UInt8) => Value.int .u8 (b.toNat : Int)) ++ Array.replicate (cp - q.size) (Value.int .u8 0)).size = cp := by
      simp only [Array.size_append, Array.size_map, Array.size_replicate]
      have : q.data.size = q.size := rfl
      omega
    have hlc : (q.data.toList.map fun (b : UInt8) => Value.int .u8 (b.toNat : Int)).length = q.size := by simp
    generalize hCC : (q.data.map (fun (b : UInt8) => Value.int .u8 (b.toNat : Int)) ++ Array.replicate (cp - q.size) (Value.int .u8 0)) = C at hC
    have hCl : C.toList = (q.data.toList.map fun (b : UInt8) => Value.int .u8 (b.toNat : Int)) ++ List.replicate (cp - q.size) (Value.int .u8 0) := by rw [← hCC]; simp
    have hfz := freeze_new w.drew C e
    have hp := Rel.push (k := cp) (x := .cells true (q.data.toList.map fun (b : UInt8) => Value.int .u8 (b.toNat : Int))) (o := .cells C e (C.size, C.size + 1)) hrd.1 hn
      ⟨C, e, (C.size, C.size + 1), heap_new w.drew _, hC, by rw [hlc]; simpa using hcap, fun i v hv => by
        refine ⟨v, ?_, ?_⟩
        · rw [Nat.zero_add, ← Array.getElem?_toList, hCl, List.getElem?_append_left]
          · exact hv
          · rcases Nat.lt_or_ge i (q.data.toList.map fun (b : UInt8) => Value.int .u8 (b.toNat : Int)).length with h1 | h1
            · exact h1
            · rw [List.getElem?_eq_none h1] at hv; cases hv
        · have := List.mem_of_getElem? hv
          obtain ⟨u, _, rfl⟩ := List.mem_map.1 this
          exact .int _ _, fun _ => ⟨hr.floor, fun o ho h => by simp only at ho h; omega⟩⟩
    refine ⟨_, .slice (some ⟨w.drew.heap.size, 0, none⟩) q.size cp, _, ?_, ?_, hp.1, hrd.2.trans hp.2⟩
    · have e1 : (Question.appendCap q.size 0 e).forced = false := rfl
      simp only [convert, Sem.run_bind, run_und hs, run_und hd, run_und hq, Result.andThen_ok, Conv.stringToBytes, run_choose, e1, Bool.false_eq_true, if_false, hcp, World.drew_eq, hCC, run_newRow, markStringish, run_shape]
      have hsh := shape_new w.drew C e
      simp only [hsh, run_freeze, hfz]
      rfl
    · have := VRel.loose (ι := fun b => if b = m.size then some ⟨w.drew.heap.size, 0, cp⟩ else ι b) m.size 0 1 q.size q.size cp ⟨w.drew.heap.size, 0, cp⟩ (by simp) hcap (by simp)
      simpa using this
  · rename_i e hs hd
    split at h <;> try (simp at h; done)
    rename_i he
    split at h <;> try (simp at h; done)
    · simp at h
      obtain ⟨rfl, rfl⟩ := h
      cases hx
      exact ⟨ι, _, w, by simp [convert, run_und hs, run_und hd, run_und he, Conv.bytesToString], .string _, hr, Stp.refl _ _ _⟩
    · rename_i b off sp n cp
      split at h <;> try (simp at h; done)
      rename_i c hc
      split at h <;> simp at h
      rename_i l hl
      obtain ⟨rfl, rfl⟩ := h
      have key : ∀ (a : Addr) (c' : List Value), (loadCells a n).run P w = .ok c'.toArray w → VRels ι c c' → ∀ cp', (convert src dst (.slice (some a) n cp')).run P w = .ok (.string ⟨l.toArray⟩) w := by
        intro a c' hlc hcr cp'
        have := bytesIn_run (P := P) (w := w) c' l (bytesIn_rel hcr hl) ByteArray.empty
        simp only [convert, Sem.run_bind, run_und hs, run_und hd, run_und he, Result.andThen_ok, Conv.bytesToString, hlc]
        rw [← Array.forIn_toList]
        have ht : c'.toArray.toList = c' := by simp
        rw [ht]
        have he2 : (⟨(ByteArray.empty.data.toList ++ l).toArray⟩ : ByteArray) = ⟨l.toArray⟩ := rfl
        rw [he2] at this
        first | rw [this]; rfl | (simp only [this]; rfl) | (erw [this]; rfl)
      cases hx with
      | slc _ _ _ _ L hL =>
        obtain ⟨c', h1, h2⟩ := loadC_ok (P := P) hr hL hc
        exact ⟨ι, _, w, key _ _ h1 h2 _, .string _, hr, Stp.refl _ _ _⟩
      | loose _ _ _ _ _ c₂ L hL hcc htot =>
        obtain ⟨c', h1, h2⟩ := loadC_ok (P := P) hr hL hc
        exact ⟨ι, _, w, key _ _ h1 h2 _, .string _, hr, Stp.refl _ _ _⟩
      | loose0 _ _ _ o' c₂ L hL htot =>
        have : c = [] := by
          unfold loadC at hc
          split at hc <;> try (simp at hc; done)
          split at hc <;> simp at hc
          exact hc
        subst this
        exact ⟨ι, _, w, key _ [] (by simp [loadCells, loadCellsFrom]) .nil _, .string _, hr, Stp.refl _ _ _⟩
end
end Go.DI
