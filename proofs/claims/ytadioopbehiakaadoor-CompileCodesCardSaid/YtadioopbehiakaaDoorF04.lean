/-
  DiApp: append, copy, and what turns strings into bytes and back.
-/
import Derived.Test.YtadioopbehiakaaDoorF03
import Derived.LoopN
set_option linter.all false
set_option linter.unusedVariables false
set_option linter.unusedSimpArgs false
namespace Go.DI
section
variable {P : Program} {K : TypeId → Bool} {G B0 n : Nat} {ι : Ren} {m : Mem} {w : World} {t : Tmps} {a : Act}
theorem blk_new {ι' : Ren} {e : TypeId} {c c' rest : List Value} {T : Nat} (hc : VRels ι' c c') (hT : (c' ++ rest).length = T) (hf : B0 ≤ w.heap.size) :
    BlkRel B0 ι' (.cells true c) ⟨w.heap.size, 0, T⟩ (w.alloc (.cells (c' ++ rest).toArray e)) := by
  refine ⟨(c' ++ rest).toArray, e, (0, 0), ?_, by simpa using hT, ?_, fun i v hv => ?_, fun _ => ⟨hf, fun o _ h => by simp at h⟩⟩
  · show (w.heap.push _)[w.heap.size]? = _
    simp
  · have := hc.length
    simp only [List.length_append] at hT
    simp only
    omega
  · obtain ⟨y, hy, hr⟩ := hc.get hv
    refine ⟨y, ?_, hr⟩
    simp only [List.getElem?_toArray, Nat.zero_add]
    rw [List.getElem?_append_left]
    · exact hy
    · rcases Nat.lt_or_ge i c'.length with h1 | h1
      · exact h1
      · rw [List.getElem?_eq_none h1] at hy; cases hy
theorem inplace_ok (hr : Rel B0 G ι m w) (hn : ι m.size = none) {b : Nat} {L : Loc} (hL : ι b = some L) {cb : List Value} (hg : m.get b = .cells true cb) {o' k : Nat} {old new new' : List Value} (hnr : VRels ι new new')
    (hone : new.all one = true) (hol : old.length = k) (hfit : o' + k + new.length ≤ L.total)
    (hold : ∀ rc e fr, w.heap[L.block]? = some (.cells rc e fr) → ∀ (i : Nat) (v : Value), old[i]? = some v → ∃ v', rc[o' + i]? = some v' ∧ VRel ι v v') :
    ∃ w', (storeCells ⟨L.block, o' + k, none⟩ new').run P w = .ok () w' ∧ Rel B0 G (fun q => if q = m.size then some ⟨L.block, o', L.total⟩ else ι q) ((m.push (.cells true (old ++ new))).set b .none) w' ∧
      Stp ι (fun q => if q = m.size then some ⟨L.block, o', L.total⟩ else ι q) m ((m.push (.cells true (old ++ new))).set b .none) w w' := by
  have hlt := hr.get_lt (b := b) (by rw [hg]; simp)
  have hb := hr.blk b L hlt hL
  rw [hg] at hb
  obtain ⟨rc, e, fr, h1, h2, h3, h4, h5⟩ := hb
  have hlen := hnr.length
  have hone' : new'.all one = true := by rw [← hnr.all fun _ _ h => h.one]; exact hone
  have hrun := run_storeCells' (P := P) L.block e fr new' (o' + k) 0 rc w h1 (by omega) (fun j g1 g2 => (h5 rfl).2 j (by omega)) hone'
  have hle : ι.le (fun q => if q = m.size then some ⟨L.block, o', L.total⟩ else ι q) := by
    intro q L' hq
    have : q ≠ m.size := by intro e; rw [e, hn] at hq; cases hq
    simp [this, hq]
  refine ⟨_, hrun, Rel.inplace hr hn hL hlt (by rw [hg]; rfl) ?_⟩
  refine ⟨_, e, fr, by rw [setBlk_get _ _ _ _ (lt_of_get h1)]; simp; rfl, ?_, ?_, fun i v hv => ?_, fun _ => h5 rfl⟩
  · rw [List.size_toArray, splice_length _ _ _ (by simp; omega)]; simpa using h2
  · simp only [List.length_append]; omega
  · simp only [List.getElem?_toArray, Nat.add_zero]
    rw [splice_get _ _ _ _ (by simp; omega)]
    rw [List.getElem?_append] at hv
    split at hv
    · rename_i hi
      obtain ⟨v', hv', hrv⟩ := hold rc e fr h1 i v hv
      refine ⟨v', ?_, hrv.mono hle⟩
      rw [if_neg (by omega)]
      simpa using hv'
    · rename_i hi
      obtain ⟨v', hv', hrv⟩ := hnr.get hv
      refine ⟨v', ?_, hrv.mono hle⟩
      have hi' : i - old.length < new'.length := by
        rcases Nat.lt_or_ge (i - old.length) new'.length with h6 | h6
        · exact h6
        · rw [List.getElem?_eq_none h6] at hv'; cases hv'
      rw [if_pos (by omega), ← hv']
      congr 1; omega
set_option maxHeartbeats 1000000 in
theorem appendD_ok (hr : Rel B0 G ι m w) {tS tX ty : TypeId} {s s' x x' v : Value} (hs : VRel ι s s') (hx : VRel ι x x') {m' : Mem} (hn : m.size < m'.size → ι m.size = none) (h : appendD P m tS tX s x = some (v, m')) :
    ∃ ι' v' w', (Builtin.append_ #[tS, tX] ty #[s', x']).run P w = .ok v' w' ∧ VRel ι' v v' ∧ Rel B0 G ι' m' w' ∧ Stp ι ι' m m' w w' := by
  unfold appendD at h
  split at h <;> try (simp at h; done)
  rename_i e dX hX0 hu huX
  have hX : ∀ (k : IntKind), dX ≠ .int k := fun k e1 => hX0 k e1
  split at h <;> try (simp at h; done)
  rename_i base sLen sCap size bytes k hsz hby hlen
  split at h <;> try (simp at h; done)
  rename_i hsz0
  split at h <;> try (simp at h; done)
  rename_i new hnew
  obtain ⟨new', hf, hnr⟩ := firstC_ok (P := P) hr hx hnew hlen (Nat.le_refl _)
  have hlen' := lenOf_ok (P := P) (w := w) hx hlen
  split at h
  · rename_i hroom
    split at h
    · split at h <;> simp at h
      rename_i hk0
      obtain ⟨rfl, rfl⟩ := h
      cases hs
      refine ⟨ι, _, w, ?_, .slc0 _ _, hr, Stp.refl _ _ _⟩
      rw [run_append_room hu huX hX hsz hlen' hroom hf]
    · rename_i b off sp
      split at h
      · rename_i hk0
        subst hk0
        simp at h
        obtain ⟨rfl, rfl⟩ := h
        have hnil : new' = [] := by
          have h0 := hnr.length
          have : new = [] := by
            unfold firstC at hnew
            split at hnew <;> try (simp at hnew; done)
            · unfold loadC at hnew
              split at hnew <;> try (simp at hnew; done)
              split at hnew <;> simp at hnew
              exact hnew
            · simpa using hnew
            · split at hnew <;> simp at hnew
              exact hnew
          rw [this] at h0
          exact List.eq_nil_of_length_eq_zero (by simpa using h0.symm)
        subst hnil
        obtain ⟨base', sCap', rfl, hcap⟩ := hs.len0
        refine ⟨ι, .slice base' (sLen + 0) sCap', w, ?_, by simpa using hs, hr, Stp.refl _ _ _⟩
        rw [run_append_room hu huX hX hsz hlen' (Nat.le_trans hroom hcap) hf]
        cases base' <;> simp [storeCells]
      · rename_i hk0
        split at h <;> simp at h
        rename_i m₁ hstR
        obtain ⟨rfl, rfl⟩ := h
        cases hs with
        | slc _ _ _ _ L hL =>
          obtain ⟨w', h1, h2, h3⟩ := storeC_ok (P := P) hr hL hnr (storeR_some hstR)
          refine ⟨ι, _, w', ?_, .slc _ _ _ _ _ hL, h2, h3⟩
          rw [run_append_room hu huX hX hsz hlen' hroom hf]
          simp only [Addr.add_none, Nat.add_assoc]
          rw [h1]; rfl
        | loose _ _ _ _ _ c' L hL hc htot =>
          simp [storeR] at hstR
        | loose0 => omega
        | empty => omega
  · rename_i hroom
    split at h <;> try (simp at h; done)
    rename_i hcond
    obtain ⟨hb1, hb2, hb3, hz1⟩ := hcond
    rw [Option.isSome_iff_exists] at hz1
    obtain ⟨zs, hzs⟩ := hz1
    obtain ⟨z, sz, hz, hs'', hzsz, _, _⟩ := zerosD_run hzs
    rw [hsz] at hs''; cases hs''
    split at h <;> try (simp at h; done)
    rename_i old hold
    split at h <;> try (simp at h; done)
    rename_i hall
    obtain ⟨hall, hol, hnl⟩ := hall
    simp only [Bool.and_eq_true] at hall
    obtain ⟨base', sCap', rfl, hcap⟩ := hs.len0
    replace hn := hn (by
      split at h
      · split at h <;> try (simp at h; done)
        split at h <;> simp at h
        rw [← h.2]; simp
      · simp at h; rw [← h.2]; simp)
    have hrd := hr.drew
    obtain ⟨old', hfo, hor⟩ := firstC_ok (P := P) hrd.1 hs hold (ln := sLen) rfl (Nat.le_refl _)
    obtain ⟨new'', hfd, hndr⟩ := firstC_ok (P := P) hrd.1 hx hnew hlen (Nat.le_refl _)
    have hol' := hor.length
    have hnl' := hndr.length
    have realloc : ¬ sLen + k ≤ sCap' → ∃ ι' v' w', (Builtin.append_ #[tS, tX] ty #[.slice base' sLen sCap', x']).run P w = .ok v' w' ∧ VRel ι' (.slice (some ⟨m.size, 0, some size⟩) (sLen + k) (sLen + k)) v' ∧
        Rel B0 G ι' (m.push (.cells true (old ++ new))) w' ∧ Stp ι ι' m (m.push (.cells true (old ++ new))) w w' := by
      intro hneed
      obtain ⟨cap', hcap', hrun⟩ := run_append_new (ty := ty) hu huX hX hsz hby hz hzsz hlen' hneed hb1 hb2 hb3 hfo hfd
      have hle : ι.le (fun q => if q = m.size then some ⟨w.heap.size, 0, cap' * size⟩ else ι q) := by
        intro q L' hq
        have : q ≠ m.size := by intro e; rw [e, hn] at hq; cases hq
        simp [this, hq]
      have htot : ((old' ++ new'') ++ (Builtin.zeroCells z.cells (cap' - (sLen + k))).toList).length = cap' * size := by
        simp only [List.length_append, Array.length_toList, size_zeroCells, hzsz, ← hol', ← hnl', hol, hnl, ← Nat.add_mul]
        congr 1
        omega
      have hp := Rel.push (k := cap' * size) (x := .cells true (old ++ new)) (o := .cells ((old' ++ new'') ++ (Builtin.zeroCells z.cells (cap' - (sLen + k))).toList).toArray e) hrd.1 hn
        (blk_new (VRels.mono hle (hor.append hndr)) htot hr.floor)
      refine ⟨_, _, _, hrun, ?_, hp.1, hrd.2.trans hp.2⟩
      have := VRel.loose (ι := fun q => if q = m.size then some ⟨w.heap.size, 0, cap' * size⟩ else ι q) m.size 0 size (sLen + k) (sLen + k) cap' ⟨w.heap.size, 0, cap' * size⟩ (by simp) hcap' (by simp)
      simpa using this
    cases hs with
    | slc0 =>
      simp at h
      obtain ⟨rfl, rfl⟩ := h
      exact realloc hroom
    | slc b off _ _ L hL =>
      simp at h
      obtain ⟨rfl, rfl⟩ := h
      exact realloc hroom
    | loose b off e' _ _ _ L hL hc htot =>
      simp only at h
      split at h <;> try (simp at h; done)
      rename_i he
      subst he
      split at h <;> simp at h
      rename_i cb hg
      obtain ⟨rfl, rfl⟩ := h
      have hlt := hr.get_lt (b := b) (by rw [hg]; simp)
      by_cases hneed : sLen + k ≤ sCap'
      · have hnb : (sLen + k) * e' ≤ sCap' * e' := Nat.mul_le_mul_right _ hneed
        rw [Nat.add_mul] at hnb
        obtain ⟨w', h1, h2, h3⟩ := inplace_ok (P := P) (o' := L.base + off) (k := sLen * e') hr hn hL hg hnr hall.1 hol (by rw [hnl]; omega) (fun rc e₁ fr hrc i v hv => by
          have hb := hr.blk b L hlt hL
          rw [hg] at hb
          obtain ⟨rc', e₂, fr', g1, g2, g3, g4, g5⟩ := hb
          rw [hrc] at g1
          cases g1
          simp only [firstC, loadC, hg] at hold
          split at hold <;> simp at hold
          rw [← hold, List.getElem?_take] at hv
          split at hv
          · rw [List.getElem?_drop] at hv
            obtain ⟨v', hv', hrv⟩ := g4 _ _ hv
            exact ⟨v', by rw [← hv']; congr 1; omega, hrv⟩
          · simp at hv)
        refine ⟨_, .slice (some ⟨L.block, L.base + off, none⟩) (sLen + k) sCap', w', ?_, ?_, h2, h3⟩
        · rw [run_append_room hu huX hX hsz hlen' hneed hf]
          simp only [Addr.add_none]
          rw [h1]; rfl
        · have := VRel.loose (ι := fun q => if q = m.size then some ⟨L.block, L.base + off, L.total⟩ else ι q) m.size 0 e' (sLen + k) (sLen + k) sCap' ⟨L.block, L.base + off, L.total⟩ (by simp) hneed (by simpa using htot)
          simpa using this
      · obtain ⟨ι', v', w', h1, h2, h3, h4⟩ := realloc hneed
        have hk := Rel.kill h3 (b := b) (by simp; omega)
        exact ⟨ι', v', w', h1, h2, hk.1, h4.trans hk.2⟩
    | loose0 b off e' o' _ L hL htot =>
      simp only at h
      split at h <;> try (simp at h; done)
      rename_i he
      subst he
      split at h <;> simp at h
      rename_i cb hg
      obtain ⟨rfl, rfl⟩ := h
      have hlt := hr.get_lt (b := b) (by rw [hg]; simp)
      by_cases hneed : 0 + k ≤ sCap'
      · have hnb : (0 + k) * e' ≤ sCap' * e' := Nat.mul_le_mul_right _ hneed
        rw [Nat.zero_add] at hnb
        have hold0 : old = [] := List.eq_nil_of_length_eq_zero (by simpa using hol)
        subst hold0
        obtain ⟨w', h1, h2, h3⟩ := inplace_ok (P := P) (o' := o') (k := 0) (old := []) hr hn hL hg hnr hall.1 rfl (by rw [hnl]; omega) (fun rc e₁ fr hrc i v hv => by simp at hv)
        refine ⟨_, .slice (some ⟨L.block, o', none⟩) (0 + k) sCap', w', ?_, ?_, h2, h3⟩
        · rw [run_append_room hu huX hX hsz hlen' hneed hf]
          simp only [Addr.add_none, Nat.zero_mul]
          rw [h1]; rfl
        · have := VRel.loose (ι := fun q => if q = m.size then some ⟨L.block, o', L.total⟩ else ι q) m.size 0 e' (0 + k) (0 + k) sCap' ⟨L.block, o', L.total⟩ (by simp) hneed (by simpa using htot)
          simpa using this
      · obtain ⟨ι', v', w', h1, h2, h3, h4⟩ := realloc hneed
        have hk := Rel.kill h3 (b := b) (by simp; omega)
        exact ⟨ι', v', w', h1, by simpa using h2, hk.1, h4.trans hk.2⟩
    | empty b off e' a =>
      simp only at h
      split at h <;> try (simp at h; done)
      split at h <;> simp at h
      rename_i cb hg
      obtain ⟨rfl, rfl⟩ := h
      have hlt := hr.get_lt (b := b) (by rw [hg]; simp)
      obtain ⟨ι', v', w', h1, h2, h3, h4⟩ := realloc hroom
      have hk := Rel.kill h3 (b := b) (by simp; omega)
      exact ⟨ι', v', w', h1, by simpa using h2, hk.1, h4.trans hk.2⟩
theorem copyD_ok (hr : Rel B0 G ι m w) {tD tX ty : TypeId} {s s' x x' v : Value} (hs : VRel ι s s') (hx : VRel ι x x') {m' : Mem} (h : copyD P m tD s x = some (v, m')) :
    ∃ v' w', (Builtin.copy_ #[tD, tX] ty #[s', x']).run P w = .ok v' w' ∧ VRel ι v v' ∧ Rel B0 G ι m' w' ∧ Stp ι ι m m' w w' := by
  unfold copyD at h
  split at h <;> try (simp at h; done)
  rename_i e hu
  split at h <;> try (simp at h; done)
  rename_i base dLen cp size sl hsz hlen
  split at h <;> try (simp at h; done)
  rename_i hsz0
  split at h <;> try (simp at h; done)
  rename_i new hnew
  obtain ⟨new', hf, hnr⟩ := firstC_ok (P := P) hr hx hnew hlen (Nat.min_le_left _ _)
  have hlen' := lenOf_ok (P := P) (w := w) hx hlen
  obtain ⟨base', sCap', rfl, hcap⟩ := hs.len0
  have hrun : (Builtin.copy_ #[tD, tX] ty #[.slice base' dLen sCap', x']).run P w = match base' with
      | some a => ((storeCells a new').run P w).andThen fun _ w' => .ok (.int .i64 (Nat.min sl dLen : Nat)) w'
      | none => .ok (.int .i64 (Nat.min sl dLen : Nat)) w := by
    cases base' <;> simp [Builtin.copy_, run_und hu, hlen', run_sizeOf' hsz, hf, goInt]
  split at h
  · simp at h
    obtain ⟨rfl, rfl⟩ := h
    cases hs
    exact ⟨_, w, hrun, .int _ _, hr, Stp.refl _ _ _⟩
  · rename_i b off sp
    split at h
    · rename_i h0
      simp at h
      obtain ⟨rfl, rfl⟩ := h
      have hnil : new' = [] := by
        have hl0 := hnr.length
        have : new = [] := by
          rw [h0] at hnew
          unfold firstC at hnew
          split at hnew <;> try (simp at hnew; done)
          · unfold loadC at hnew
            split at hnew <;> try (simp at hnew; done)
            split at hnew <;> simp at hnew
            exact hnew
          · simpa using hnew
          · split at hnew <;> simp at hnew
            exact hnew
        rw [this] at hl0
        exact List.eq_nil_of_length_eq_zero (by simpa using hl0.symm)
      subst hnil
      refine ⟨_, w, ?_, .int _ _, hr, Stp.refl _ _ _⟩
      rw [hrun]
      cases base' <;> simp [storeCells]
    · rename_i h0
      split at h <;> simp at h
      rename_i m₁ hst
      obtain ⟨rfl, rfl⟩ := h
      cases hs with
      | slc _ _ _ _ L hL =>
        obtain ⟨w', h1, h2, h3⟩ := storeC_ok (P := P) hr hL hnr hst
        exact ⟨_, w', by rw [hrun]; simp only [h1]; rfl, .int _ _, h2, h3⟩
      | loose _ _ _ _ _ c' L hL hc htot =>
        obtain ⟨w', h1, h2, h3⟩ := storeC_ok (P := P) hr hL hnr hst
        exact ⟨_, w', by rw [hrun]; simp only [h1]; rfl, .int _ _, h2, h3⟩
      | loose0 => exact absurd (Nat.min_zero _) h0
      | empty => exact absurd (Nat.min_zero _) h0
theorem byteOf_inv {v : Value} {b : UInt8} (h : byteOf v = some b) : ∃ n : Int, v = .int .u8 n ∧ b = UInt8.ofNat n.toNat := by
  unfold byteOf at h
  split at h <;> simp at h
  exact ⟨_, rfl, h.symm⟩
theorem bytesIn_run : ∀ (c : List Value) (l : List UInt8), bytesIn c = some l → ∀ (s : ByteArray), (forIn c s fun (c : Value) (r : ByteArray) => (match c with
      | .int .u8 n => (pure (ForInStep.yield (r.push (UInt8.ofNat n.toNat))) : Sem (ForInStep ByteArray))
      | _ => do
        stuck (α := PUnit) "bytesToString: byte expected"
        pure (ForInStep.yield r))).run P w = .ok ⟨(s.data.toList ++ l).toArray⟩ w
  | [], l, h, s => by simp [bytesIn] at h; subst h; simp
  | v :: c, l, h, s => by
    simp only [bytesIn] at h
    split at h <;> try (simp at h; done)
    rename_i b hb
    split at h <;> simp at h
    rename_i r hr
    subst h
    obtain ⟨n, rfl, rfl⟩ := byteOf_inv hb
    rw [List.forIn_cons]
    simp only [Sem.run_bind, Sem.run_pure, Result.andThen_ok]
    rw [bytesIn_run c r hr]
    congr 2
    simp [ByteArray.push]
theorem bytesIn_rel {c c' : List Value} (h : VRels ι c c') : ∀ {l : List UInt8}, bytesIn c = some l → bytesIn c' = some l := by
  induction h with
  | nil => intro l h; exact h
  | cons h0 t ih =>
    intro l h
    simp only [bytesIn] at h ⊢
    split at h <;> try (simp at h; done)
    rename_i b hb
    split at h <;> simp at h
    rename_i r hr
    obtain ⟨n, rfl, rfl⟩ := byteOf_inv hb
    cases h0
    simp only [byteOf, ih hr, h]
theorem heap_new (W : World) (o : Obj) : (W.alloc o).heap[W.heap.size]? = some o := by
  show (W.heap.push o)[W.heap.size]? = _
  simp
theorem shape_new (W : World) (C : Array Value) (e : TypeId) : (W.alloc (.cells C e)).shape? W.heap.size = some (e, C.size) := by
  simp only [World.shape?, heap_new]
theorem freeze_new (W : World) (C : Array Value) (e : TypeId) : (W.alloc (.cells C e)).freeze ⟨W.heap.size, C.size, none⟩ 1 = W.alloc (.cells C e (C.size, C.size + 1)) := by
  simp only [World.freeze, World.alloc]
  rw [if_neg (by decide)]
  congr 1
  apply Array.ext_getElem?
  intro j
  rw [Array.getElem?_modify]
  simp only [Array.getElem?_push]
  by_cases hj : W.heap.size = j
  · subst hj; simp
  · have : ¬ j = W.heap.size := fun h => hj h.symm
    simp [hj, this]
theorem convD_ok (hr : Rel B0 G ι m w) {src dst : TypeId} {x x' v : Value} (hx : VRel ι x x') {m' : Mem} (hn : m.size < m'.size → ι m.size = none) (h : convD P m src dst x = some (v, m')) :
    ∃ ι' v' w', (convert src dst x').run P w = .ok v' w' ∧ VRel ι' v v' ∧ Rel B0 G ι' m' w' ∧ Stp ι ι' m m' w w' := by
  unfold convD at h
  split at h <;> try (simp at h; done)
  · rename_i d k hs hd
    split at h <;> simp at h
    obtain ⟨rfl, rfl⟩ := h
    cases hx
    exact ⟨ι, _, w, by simp [convert, run_und hs, run_und hd, Conv.intToInt], .int _ _, hr, Stp.refl _ _ _⟩
  · rename_i hs hd
    split at h <;> simp at h
    obtain ⟨rfl, rfl⟩ := h
    cases hx
    exact ⟨ι, _, w, by simp [convert, run_und hs, run_und hd], .string _, hr, Stp.refl _ _ _⟩
  · rename_i e hs hd
    split at h <;> simp at h
    rename_i q hq
    obtain ⟨rfl, rfl⟩ := h
    cases hx
    replace hn := hn (by simp)
    have hrd := hr.drew
    have hcap : q.size ≤ (Question.appendCap q.size 0 e).cut (w.tape w.drawn (.appendCap q.size 0 e)) := by simp [Question.cut]
    generalize hcp : (Question.appendCap q.size 0 e).cut (w.tape w.drawn (.appendCap q.size 0 e)) = cp at hcap
    have hC : (q.data.map (fun (b : UInt8) => Value.int .u8 (b.toNat : Int)) ++ Array.replicate (cp - q.size) (Value.int .u8 0)).size = cp := by
      simp only [Array.size_append, Array.size_map, Array.size_replicate]
      have : q.data.size = q.size := rfl
      omega
    have hlc : (q.data.toList.map fun (b : UInt8) => Value.int .u8 (b.toNat : Int)).length = q.size := by simp
    generalize hCC : (q.data.map (fun (b : UInt8) => Value.int .u8 (b.toNat : Int)) ++ Array.replicate (cp - q.size) (Value.int .u8 0)) = C at hC
    have hCl : C.toList = (q.data.toList.map fun (b : UInt8) => Value.int .u8 (b.toNat : Int)) ++ List.replicate (cp - q.size) (Value.int .u8 0) := by rw [← hCC]; simp
    have hfz := freeze_new w.drew C e
    have hp := Rel.push (k := cp) (x := .cells true (q.data.toList.map fun (b : UInt8) => Value.int .u8 (b.toNat : Int))) (o := .cells C e (C.size, C.size + 1)) hrd.1 hn
      ⟨C, e, (C.size, C.size + 1), heap_new w.drew _, hC, by rw [hlc]; simpa using hcap, fun i v hv => by
        refine ⟨v, ?_, ?_⟩
        · rw [Nat.zero_add, ← Array.getElem?_toList, hCl, List.getElem?_append_left]
          · exact hv
          · rcases Nat.lt_or_ge i (q.data.toList.map fun (b : UInt8) => Value.int .u8 (b.toNat : Int)).length with h1 | h1
            · exact h1
            · rw [List.getElem?_eq_none h1] at hv; cases hv
        · have := List.mem_of_getElem? hv
          obtain ⟨u, _, rfl⟩ := List.mem_map.1 this
          exact .int _ _, fun _ => ⟨hr.floor, fun o ho h => by simp only at ho h; omega⟩⟩
    refine ⟨_, .slice (some ⟨w.drew.heap.size, 0, none⟩) q.size cp, _, ?_, ?_, hp.1, hrd.2.trans hp.2⟩
    · have e1 : (Question.appendCap q.size 0 e).forced = false := rfl
      simp only [convert, Sem.run_bind, run_und hs, run_und hd, run_und hq, Result.andThen_ok, Conv.stringToBytes, run_choose, e1, Bool.false_eq_true, if_false, hcp, World.drew_eq, hCC, run_newRow, markStringish, run_shape]
      have hsh := shape_new w.drew C e
      simp only [hsh, run_freeze, hfz]
      rfl
    · have := VRel.loose (ι := fun b => if b = m.size then some ⟨w.drew.heap.size, 0, cp⟩ else ι b) m.size 0 1 q.size q.size cp ⟨w.drew.heap.size, 0, cp⟩ (by simp) hcap (by simp)
      simpa using this
  · rename_i e hs hd
    split at h <;> try (simp at h; done)
    rename_i he
    split at h <;> try (simp at h; done)
    · simp at h
      obtain ⟨rfl, rfl⟩ := h
      cases hx
      exact ⟨ι, _, w, by simp [convert, run_und hs, run_und hd, run_und he, Conv.bytesToString], .string _, hr, Stp.refl _ _ _⟩
    · rename_i b off sp n cp
      split at h <;> try (simp at h; done)
      rename_i c hc
      split at h <;> simp at h
      rename_i l hl
      obtain ⟨rfl, rfl⟩ := h
      have key : ∀ (a : Addr) (c' : List Value), (loadCells a n).run P w = .ok c'.toArray w → VRels ι c c' → ∀ cp', (convert src dst (.slice (some a) n cp')).run P w = .ok (.string ⟨l.toArray⟩) w := by
        intro a c' hlc hcr cp'
        have := bytesIn_run (P := P) (w := w) c' l (bytesIn_rel hcr hl) ByteArray.empty
        simp only [convert, Sem.run_bind, run_und hs, run_und hd, run_und he, Result.andThen_ok, Conv.bytesToString, hlc]
        rw [← Array.forIn_toList]
        have ht : c'.toArray.toList = c' := by simp
        rw [ht]
        have he2 : (⟨(ByteArray.empty.data.toList ++ l).toArray⟩ : ByteArray) = ⟨l.toArray⟩ := rfl
        rw [he2] at this
        first | rw [this]; rfl | (simp only [this]; rfl) | (erw [this]; rfl)
      cases hx with
      | slc _ _ _ _ L hL =>
        obtain ⟨c', h1, h2⟩ := loadC_ok (P := P) hr hL hc
        exact ⟨ι, _, w, key _ _ h1 h2 _, .string _, hr, Stp.refl _ _ _⟩
      | loose _ _ _ _ _ c₂ L hL hcc htot =>
        obtain ⟨c', h1, h2⟩ := loadC_ok (P := P) hr hL hc
        exact ⟨ι, _, w, key _ _ h1 h2 _, .string _, hr, Stp.refl _ _ _⟩
      | loose0 _ _ _ o' c₂ L hL htot =>
        have : c = [] := by
          unfold loadC at hc
          split at hc <;> try (simp at hc; done)
          split at hc <;> simp at hc
          exact hc
        subst this
        exact ⟨ι, _, w, key _ [] (by simp [loadCells, loadCellsFrom]) .nil _, .string _, hr, Stp.refl _ _ _⟩
      | empty _ _ _ a =>
        have : c = [] := by
          unfold loadC at hc
          split at hc <;> try (simp at hc; done)
          split at hc <;> simp at hc
          exact hc
        subst this
        exact ⟨ι, _, w, key _ [] (by simp [loadCells, loadCellsFrom]) .nil _, .string _, hr, Stp.refl _ _ _⟩
end
end Go.DI
namespace Go.DI
section
variable {P : Program} {K : TypeId → Bool} {G B0 n : Nat} {ι : Ren} {m : Mem} {w : World} {t : Tmps} {a : Act}
def Fresh (ι : Ren) (x y : Nat) : Prop := ∀ b, x ≤ b → b < y → ι b = none
theorem Fresh.sub {x y x' y' : Nat} (h : Fresh ι x y) (h1 : x ≤ x') (h2 : y' ≤ y) : Fresh ι x' y' := fun b g1 g2 => h b (by omega) (by omega)
theorem Fresh.stp {ι' : Ren} {m m' : Mem} {w w' : World} {x y : Nat} (h : Fresh ι x y) (s : Stp ι ι' m m' w w') (h1 : m'.size ≤ x) : Fresh ι' x y := fun b g1 g2 => by
  rw [s.out b (.inr (by omega))]
  exact h b g1 g2
theorem minD_ok : ∀ {l l' : List Value} {k : IntKind} {x r : Int}, VRels ι l l' → minD l x = some r → (l'.foldlM Builtin.min2 (.int k x)).run P w = .ok (.int k r) w
  | [], _, k, x, r, hl, h => by cases hl; simp [minD] at h; subst h; simp
  | v :: l, _, k, x, r, hl, h => by
    cases hl with
    | cons h0 t0 =>
      cases v <;> simp only [minD] at h <;> try (simp at h; done)
      cases h0
      simp only [List.foldlM_cons, Sem.run_bind, Builtin.min2, Sem.run_pure, Result.andThen_ok]
      exact minD_ok t0 h
theorem maxD_ok : ∀ {l l' : List Value} {k : IntKind} {x r : Int}, VRels ι l l' → maxD l x = some r → (l'.foldlM Builtin.max2 (.int k x)).run P w = .ok (.int k r) w
  | [], _, k, x, r, hl, h => by cases hl; simp [maxD] at h; subst h; simp
  | v :: l, _, k, x, r, hl, h => by
    cases hl with
    | cons h0 t0 =>
      cases v <;> simp only [maxD] at h <;> try (simp at h; done)
      cases h0
      simp only [List.foldlM_cons, Sem.run_bind, Builtin.max2, Sem.run_pure, Result.andThen_ok]
      exact maxD_ok t0 h
theorem lenD_ok (hr : Rel B0 G ι m w) {s ty : TypeId} {x x' v : Value} (hx : VRel ι x x') (h : lenD P m s x = some v) : (Builtin.len_ #[s] ty #[x']).run P w = .ok v w ∧ VRel ι v v := by
  unfold lenD at h
  split at h <;> try (simp at h; done)
  · rename_i hu
    split at h <;> simp at h
    subst h; cases hx
    exact ⟨by simp [Builtin.len_, run_und hu, goInt], .int _ _⟩
  · rename_i hu
    simp at h
    subst h
    refine ⟨?_, .int _ _⟩
    simp only [Builtin.len_, Sem.run_bind, run_und hu, Result.andThen_ok, List.getElem?_toArray, List.getElem?_cons_zero]
    cases x' <;> simp [goInt]
  · rename_i hu
    split at h <;> simp at h
    subst h
    refine ⟨?_, .int _ _⟩
    cases hx <;> simp [Builtin.len_, run_und hu, goInt]
  · rename_i hu
    split at h <;> try (simp at h; done)
    · simp at h; subst h; cases hx
      exact ⟨by simp [Builtin.len_, run_und hu, goInt], .int _ _⟩
    · rename_i r
      split at h <;> simp at h
      rename_i own es c hg
      subst h
      have hlt := hr.get_lt (b := r) (by rw [hg]; simp)
      cases hx with
      | map _ L hL =>
        have hb := hr.blk r L hlt hL
        rw [hg] at hb
        obtain ⟨res, h1, h2, h3⟩ := hb
        have hgo : (getObj L.block).run P w = .ok (.map res c) w := by simp [getObj, Sem.run, h1]
        have := h2.length
        exact ⟨by simp [Builtin.len_, run_und hu, goInt, hgo, this], .int _ _⟩
theorem quiet_ok (hK : Plain P K) (hr : Rel B0 G ι m w) (ht : TRel ι n t a) {o : Oper} {v : Value} (h : quietD P K G t m o.op = some v) :
    ∃ v', (execOp a.eval o).run P w = .ok (.value v') w ∧ VRel ι v v' := by
  unfold quietD at h
  split at h <;> try (simp at h; done)
  · rename_i x ho; exact ⟨_, by simp [execOp, ho], ev_rel hr ht h⟩
  · rename_i x ho; exact ⟨_, by simp [execOp, ho], ev_rel hr ht h⟩
  · rename_i c x y ho
    split at h <;> try (simp at h; done)
    · rename_i hc; have := (ev_rel hr ht hc).inv_bool; exact ⟨_, by simp [execOp, ho, this, asBool], ev_rel hr ht h⟩
    · rename_i hc; have := (ev_rel hr ht hc).inv_bool; exact ⟨_, by simp [execOp, ho, this, asBool], ev_rel hr ht h⟩
  · rename_i ty x ho
    split at h <;> try (simp at h; done)
    rename_i u hu
    obtain ⟨v', h1, h2⟩ := loadD_ok (P := P) hr (ev_rel hr ht hu) (shD_some h)
    exact ⟨v', by simp [execOp, ho, h1], h2⟩
  · rename_i x ho
    split at h <;> simp at h
    · rename_i ad hx
      subst h
      have := ev_rel hr ht hx
      refine ⟨a.eval x, ?_, this⟩
      simp only [execOp, ho]
      revert this
      cases a.eval x <;> intro this <;> cases this <;> rfl
    · rename_i f fs cs hx
      subst h
      have := ev_rel hr ht hx
      obtain ⟨a', b', e1, _, _⟩ := this.inv_func
      rw [e1] at this
      refine ⟨_, ?_, this⟩
      simp [execOp, ho, e1]
  · rename_i op ty x y yt ho
    split at h <;> try (simp at h; done)
    rename_i u1 u2 h1 h2
    obtain ⟨g1, g2⟩ := binD_rel (ev_rel hr ht h1) (ev_rel hr ht h2) h
    have := run_binD (w := w) (o1 := x) (o2 := y) hK g1
    refine ⟨v, ?_, g2⟩
    simp only [execOp, ho]
    rw [Sem.run_bind, this]
    rfl
  · rename_i op ty x ho
    split at h <;> try (simp at h; done)
    rename_i u hu
    obtain ⟨g1, g2⟩ := unD_ok (P := P) (w := w) (ev_rel hr ht hu) h
    exact ⟨v, by simp [execOp, ho, g1], g2⟩
  · rename_i f fs cs ho
    split at h <;> simp at h
    rename_i l1 l2 h1 h2
    subst h
    refine ⟨.func (.func f) (fs.map a.eval) (cs.map a.eval), by simp [execOp, ho, Instr.makeFunc], ?_⟩
    have g1 := evs_rel hr ht h1
    have g2 := evs_rel hr ht h2
    have e1 : (fs.map a.eval).toList = fs.toList.map a.eval := by simp
    have e2 : (cs.map a.eval).toList = cs.toList.map a.eval := by simp
    have k1 := VRels.arr (a := l1.toArray) (a' := fs.map a.eval) (ι := ι) (by rw [e1]; exact g1)
    have k2 := VRels.arr (a := l2.toArray) (a' := cs.map a.eval) (ι := ι) (by rw [e2]; exact g2)
    exact .func _ _ _ _ _ k1.1 k2.1 k1.2 k2.2
  · rename_i s x f ho
    split at h <;> try (simp at h; done)
    rename_i u hu
    obtain ⟨v', h1, h2⟩ := fieldAddrD_ok (P := P) (w := w) (ev_rel hr ht hu) h
    exact ⟨v', by simp [execOp, ho, h1], h2⟩
  · rename_i s x f ho
    split at h <;> try (simp at h; done)
    rename_i u hu
    obtain ⟨v', h1, h2⟩ := fieldD_ok (P := P) (w := w) (ev_rel hr ht hu) h
    exact ⟨v', by simp [execOp, ho, h1], h2⟩
  · rename_i s x i ho
    split at h <;> try (simp at h; done)
    rename_i u1 u2 h1 h2
    obtain ⟨v', g1, g2⟩ := indexAddrD_ok (P := P) (w := w) (ev_rel hr ht h1) h
    have hi : a.eval i = u2 := by
      have := ev_rel hr ht h2
      unfold indexAddrD at h
      split at h <;> try (simp at h; done)
      exact this.inv_int
    exact ⟨v', by simp [execOp, ho, hi, g1], g2⟩
  · rename_i s x i ho
    split at h <;> try (simp at h; done)
    rename_i u1 u2 h1 h2
    obtain ⟨v', g1, g2⟩ := indexD_ok (P := P) (w := w) (ev_rel hr ht h1) h
    have hi : a.eval i = u2 := by
      have := ev_rel hr ht h2
      unfold indexD at h
      split at h <;> try (simp at h; done)
      exact this.inv_int
    exact ⟨v', by simp [execOp, ho, hi, g1], g2⟩
  · rename_i s x k ok ho
    split at h <;> try (simp at h; done)
    rename_i u1 u2 h1 h2
    obtain ⟨v', g1, g2⟩ := lookupD_ok (P := P) (w := w) hK hr (ev_rel hr ht h1) (ev_rel hr ht h2) h
    exact ⟨v', by simp [execOp, ho, g1], g2⟩
  · rename_i x i ho
    split at h <;> try (simp at h; done)
    rename_i vs hx
    obtain ⟨vs', e1, hvs⟩ := (ev_rel hr ht hx).inv_tuple
    obtain ⟨y, hy, hry⟩ := hvs.get h
    have hy' : vs'[i]? = some y := by simpa using hy
    exact ⟨y, by simp [execOp, ho, e1, Instr.extract, hy'], hry⟩
  · rename_i ty parts ho
    split at h <;> try (simp at h; done)
    rename_i ps hps
    have hp := evParts_rel hr ht hps
    obtain ⟨v', g1, g2⟩ := buildD_ok (P := P) (w := w) (ps' := parts.map fun x => (x.1, a.eval x.2)) (by simpa using hp) h
    exact ⟨v', by simp [execOp, ho, g1], g2⟩
  · rename_i ty x lo hi mx ho
    split at h <;> try (simp at h; done)
    rename_i u l1 l2 l3 hu h1 h2 h3
    obtain ⟨v', g1, g2⟩ := sliceD_ok (P := P) (w := w) (ev_rel hr ht hu) (optEv_rel hr ht h1) (optEv_rel hr ht h2) (optEv_rel hr ht h3) h
    exact ⟨v', by simp [execOp, ho, g1], g2⟩
  · rename_i args tys ho
    split at h <;> try (simp at h; done)
    rename_i x ty hx ht'
    split at h <;> try (simp at h; done)
    rename_i u hu
    have e1 : args = #[x] := Array.ext' (by simpa using hx)
    have e2 : tys = #[ty] := Array.ext' (by simpa using ht')
    subst e1 e2
    obtain ⟨g1, g2⟩ := lenD_ok (P := P) (ty := o.type) hr (ev_rel hr ht hu) h
    exact ⟨v, by simp [execOp, ho, resolve, invoke, builtin, g1], g2⟩
  · rename_i args tys ho
    split at h <;> try (simp at h; done)
    rename_i k x l hx
    split at h <;> simp at h
    rename_i r hm
    subst h
    have hv := evs_rel hr ht hx
    generalize hq : args.toList.map a.eval = q at hv
    cases hv with
    | cons h0 t0 =>
      cases h0
      have e1 : (args.map a.eval).toList = args.toList.map a.eval := by simp
      refine ⟨_, ?_, .int _ _⟩
      simp only [execOp, ho, resolve, Sem.run_bind, Sem.run_pure, Result.andThen_ok, invoke, builtin, Builtin.min_, e1, hq]
      rw [minD_ok t0 hm]
      rfl
  · rename_i args tys ho
    split at h <;> try (simp at h; done)
    rename_i k x l hx
    split at h <;> simp at h
    rename_i r hm
    subst h
    have hv := evs_rel hr ht hx
    generalize hq : args.toList.map a.eval = q at hv
    cases hv with
    | cons h0 t0 =>
      cases h0
      have e1 : (args.map a.eval).toList = args.toList.map a.eval := by simp
      refine ⟨_, ?_, .int _ _⟩
      simp only [execOp, ho, resolve, Sem.run_bind, Sem.run_pure, Result.andThen_ok, invoke, builtin, Builtin.max_, e1, hq]
      rw [maxD_ok t0 hm]
      rfl
end
end Go.DI
namespace Go.DI
section
variable {P : Program} {K : TypeId → Bool} {G B0 n : Nat} {ι : Ren} {m : Mem} {w : World} {t : Tmps} {a : Act}
abbrev CallF := FuncId → List Value → Mem → Option (Value × Mem)
def CallOK (P : Program) (B0 G : Nat) (f : FuncId) (args : List Value) (m : Mem) (v : Value) (m' : Mem) : Prop :=
  ∀ (ι : Ren) (w : World) (args' : List Value), Rel B0 G ι m w → Fresh ι m.size m'.size → VRels ι args args' →
    Calls P f args'.toArray w fun e w' => ∃ v' ι', e = .returned v' ∧ VRel ι' v v' ∧ Rel B0 G ι' m' w' ∧ Stp ι ι' m m' w w'
structure CfOK (P : Program) (B0 G : Nat) (cf : CallF) : Prop where
  size : ∀ f args m v m', cf f args m = some (v, m') → m.size ≤ m'.size
  ok : ∀ f args m v m', cf f args m = some (v, m') → CallOK P B0 G f args m v m'
  body : ∀ f args m v m', cf f args m = some (v, m') → ∃ fn, P.funcs[f]? = some fn ∧ fn.body.isNone = false ∧ (fn.name == "runtime.NumGoroutine") = false
theorem storeC_size {b off : Nat} {vs : List Value} {m' : Mem} (h : storeC m b off vs = some m') : m'.size = m.size := by
  unfold storeC at h
  split at h <;> try (simp at h; done)
  split at h <;> try (simp at h; done)
  split at h <;> simp at h
  subst h; rfl
theorem storeD_size {s : TypeId} {x v : Value} {m' : Mem} (h : storeD P m s v x = some m') : m'.size = m.size := by
  unfold storeD at h
  split at h <;> try (simp at h; done)
  split at h <;> try (simp at h; done)
  split at h <;> try (simp at h; done)
  exact storeC_size h
theorem mapUpdateD_size {s : TypeId} {x k v : Value} {m' : Mem} (h : mapUpdateD P K m s x k v = some m') : m'.size = m.size := by
  unfold mapUpdateD at h
  split at h <;> try (simp at h; done)
  split at h <;> try (simp at h; done)
  split at h <;> try (simp at h; done)
  split at h <;> try (simp at h; done)
  split at h <;> try (simp at h; done)
  · split at h <;> try (simp at h; done)
    split at h <;> simp at h
    subst h; rfl
  · simp at h; subst h; rfl
theorem appendD_size {tS tX : TypeId} {s x v : Value} {m' : Mem} (h : appendD P m tS tX s x = some (v, m')) : m.size ≤ m'.size := by
  unfold appendD at h
  split at h <;> try (simp at h; done)
  split at h <;> try (simp at h; done)
  split at h <;> try (simp at h; done)
  split at h <;> try (simp at h; done)
  split at h
  · split at h
    · split at h <;> simp at h
      rw [h.2]; exact Nat.le_refl _
    · split at h
      · simp at h; rw [h.2]; exact Nat.le_refl _
      · split at h <;> simp at h
        rename_i hst
        have hst := storeR_some hst
        rw [← h.2, storeC_size hst]; exact Nat.le_refl _
  · split at h <;> try (simp at h; done)
    split at h <;> try (simp at h; done)
    split at h <;> try (simp at h; done)
    split at h
    · split at h <;> try (simp at h; done)
      split at h <;> simp at h
      rw [← h.2]; simp
    · simp at h; rw [← h.2]; simp
theorem copyD_size {tD : TypeId} {s x v : Value} {m' : Mem} (h : copyD P m tD s x = some (v, m')) : m.size ≤ m'.size := by
  unfold copyD at h
  split at h <;> try (simp at h; done)
  split at h <;> try (simp at h; done)
  split at h <;> try (simp at h; done)
  split at h <;> try (simp at h; done)
  split at h
  · simp at h; rw [h.2]; exact Nat.le_refl _
  · split at h
    · simp at h; rw [h.2]; exact Nat.le_refl _
    · split at h <;> simp at h
      rename_i hst
      rw [← h.2, storeC_size hst]; exact Nat.le_refl _
theorem convD_size {s d : TypeId} {x v : Value} {m' : Mem} (h : convD P m s d x = some (v, m')) : m.size ≤ m'.size := by
  unfold convD at h
  split at h <;> try (simp at h; done)
  · split at h <;> simp at h
    rw [h.2]; exact Nat.le_refl _
  · split at h <;> simp at h
    rw [h.2]; exact Nat.le_refl _
  · split at h <;> simp at h
    rw [← h.2]; simp
  · split at h <;> try (simp at h; done)
    split at h <;> try (simp at h; done)
    · simp at h; rw [h.2]; exact Nat.le_refl _
    · split at h <;> try (simp at h; done)
      split at h <;> simp at h
      rw [h.2]; exact Nat.le_refl _
theorem heavyD_size {cf : CallF} (hcf : ∀ f args m v m', cf f args m = some (v, m') → m.size ≤ m'.size) {o : Op} {v : Value} {m' : Mem} (h : heavyD P K G cf t m o = some (v, m')) : m.size ≤ m'.size := by
  unfold heavyD at h
  split at h <;> try (simp at h; done)
  · split at h <;> try (simp at h; done)
    split at h <;> simp at h
    rename_i hs
    rw [← h.2, storeD_size hs]; exact Nat.le_refl _
  · split at h <;> try (simp at h; done)
    split at h <;> simp at h
    rename_i hs
    rw [← h.2, mapUpdateD_size hs]; exact Nat.le_refl _
  · split at h <;> try (simp at h; done)
    split at h <;> simp at h
    rename_i hs
    rw [← h.2, mapUpdateD_size hs]; exact Nat.le_refl _
  · split at h <;> try (simp at h; done)
    exact convD_size h
  · split at h <;> try (simp at h; done)
    split at h <;> try (simp at h; done)
    exact appendD_size h
  · split at h <;> try (simp at h; done)
    split at h <;> try (simp at h; done)
    exact copyD_size h
  · split at h <;> try (simp at h; done)
    exact hcf _ _ _ _ _ h
theorem opD_size {cf : CallF} (hcf : ∀ f args m v m', cf f args m = some (v, m') → m.size ≤ m'.size) {o : Op} {v : Value} {m' : Mem} (h : opD P K G cf t m o = some (v, m')) : m.size ≤ m'.size := by
  unfold opD at h
  split at h
  · split at h <;> simp at h
    rw [h.2]; exact Nat.le_refl _
  · split at h <;> simp at h
    rw [← h.2]; simp
  · exact heavyD_size hcf h
theorem heavy_wp (hK : Plain P K) {cf : CallF} (hcf : CfOK P B0 G cf) (hr : Rel B0 G ι m w) (ht : TRel ι n t a) {o : Oper} {v : Value} {m' : Mem} (h : heavyD P K G cf t m o.op = some (v, m')) (hf : Fresh ι m.size m'.size)
    {next : Act → World → Prop} {Q : Exit → Act → World → Prop} (hnext : ∀ ι' v' w', VRel ι' v v' → Rel B0 G ι' m' w' → Stp ι ι' m m' w w' → next (a.put o.dst v') w') : o.wp P a w next Q := by
  have hn : m.size < m'.size → ι m.size = none := fun h => hf _ (Nat.le_refl _) h
  unfold Oper.wp
  unfold heavyD at h
  split at h <;> try (simp at h; done)
  · rename_i ty x y ho
    split at h <;> try (simp at h; done)
    rename_i u1 u2 h1 h2
    split at h <;> simp at h
    rename_i m₁ hs
    obtain ⟨rfl, rfl⟩ := h
    obtain ⟨w', g1, g2, g3⟩ := storeD_ok (P := P) hr (ev_rel hr ht h1) (ev_rel hr ht h2) hs
    simp only [execOp, ho, Sem.run_bind, g1, Result.andThen_ok, Sem.run_pure]
    exact hnext ι _ w' (VRel.undef _) g2 g3
  · rename_i ty x k y ho
    split at h <;> try (simp at h; done)
    rename_i u1 u2 u3 h1 h2 h3
    split at h <;> simp at h
    rename_i m₁ hs
    obtain ⟨rfl, rfl⟩ := h
    obtain ⟨w', g1, g2, g3⟩ := mapUpdateD_ok (P := P) hK hr (ev_rel hr ht h1) (ev_rel hr ht h2) (ev_rel hr ht h3) hs
    simp only [execOp, ho, Sem.run_bind, g1, Result.andThen_ok, Sem.run_pure]
    exact hnext ι _ w' (VRel.undef _) g2 g3
  · rename_i ty x k y ho
    split at h <;> try (simp at h; done)
    rename_i u1 u2 u3 h1 h2 h3
    split at h <;> simp at h
    rename_i m₁ hs
    obtain ⟨rfl, rfl⟩ := h
    obtain ⟨w', g1, g2, g3⟩ := mapUpdateD_ok (P := P) hK hr (ev_rel hr ht h1) (ev_rel hr ht h2) (ev_rel hr ht h3) hs
    simp only [execOp, ho, Sem.run_bind, g1, Result.andThen_ok, Sem.run_pure]
    exact hnext ι _ w' (VRel.undef _) g2 g3
  · rename_i s d x ho
    split at h <;> try (simp at h; done)
    rename_i u hu
    obtain ⟨ι', v', w', g1, g2, g3, g4⟩ := convD_ok (P := P) hr (ev_rel hr ht hu) hn h
    simp only [execOp, ho, Sem.run_bind, g1, Result.andThen_ok, Sem.run_pure]
    exact hnext ι' v' w' g2 g3 g4
  · rename_i args tys ho
    split at h <;> try (simp at h; done)
    rename_i x y tS tX hx ht'
    split at h <;> try (simp at h; done)
    rename_i u1 u2 h1 h2
    have e1 : args = #[x, y] := Array.ext' (by simpa using hx)
    have e2 : tys = #[tS, tX] := Array.ext' (by simpa using ht')
    subst e1 e2
    obtain ⟨ι', v', w', g1, g2, g3, g4⟩ := appendD_ok (P := P) (ty := o.type) hr (ev_rel hr ht h1) (ev_rel hr ht h2) hn h
    simp only [execOp, ho, resolve, Sem.run_bind, Sem.run_pure, Result.andThen_ok, invoke, builtin, List.map_toArray, List.map_cons, List.map_nil, g1]
    exact hnext ι' v' w' g2 g3 g4
  · rename_i args tys ho
    split at h <;> try (simp at h; done)
    rename_i x y tS tX hx ht'
    split at h <;> try (simp at h; done)
    rename_i u1 u2 h1 h2
    have e1 : args = #[x, y] := Array.ext' (by simpa using hx)
    have e2 : tys = #[tS, tX] := Array.ext' (by simpa using ht')
    subst e1 e2
    obtain ⟨v', w', g1, g2, g3, g4⟩ := copyD_ok (P := P) (tX := tX) (ty := o.type) hr (ev_rel hr ht h1) (ev_rel hr ht h2) h
    simp only [execOp, ho, resolve, Sem.run_bind, Sem.run_pure, Result.andThen_ok, invoke, builtin, List.map_toArray, List.map_cons, List.map_nil, g1]
    exact hnext ι v' w' g2 g3 g4
  · rename_i f args tys ho
    split at h <;> try (simp at h; done)
    rename_i g first captured vs h1 h2
    obtain ⟨fn, hfn, hbody, hname⟩ := hcf.body _ _ _ _ _ h
    obtain ⟨a', b', e1, g1, g2⟩ := (ev_rel hr ht h1).inv_func
    have g3 := evs_rel hr ht h2
    have hcall := hcf.ok _ _ _ _ _ h ι w (a'.toList ++ (args.toList.map a.eval ++ b'.toList)) hr hf (g1.append (g3.append g2))
    have earr : (a'.toList ++ (args.toList.map a.eval ++ b'.toList)).toArray = a' ++ args.map a.eval ++ b' := by apply Array.ext'; simp
    rw [earr] at hcall
    simp only [execOp, ho, resolve, e1, Deferred.ofValue, Sem.run_bind, Sem.run_pure, Result.andThen_ok, invoke, callFunc, run_program, hfn, hname, hbody, Bool.false_eq_true, if_false]
    refine Calls.mono hcall fun e w' he => ?_
    obtain ⟨v', ι', rfl, g4, g5, g6⟩ := he
    exact hnext ι' v' w' g4 g5 g6
theorem op_wp (hK : Plain P K) {cf : CallF} (hcf : CfOK P B0 G cf) (hr : Rel B0 G ι m w) (ht : TRel ι n t a) {o : Oper} {v : Value} {m' : Mem} (h : opD P K G cf t m o.op = some (v, m')) (hf : Fresh ι m.size m'.size)
    {next : Act → World → Prop} {Q : Exit → Act → World → Prop} (hnext : ∀ ι' v' w', VRel ι' v v' → Rel B0 G ι' m' w' → Stp ι ι' m m' w w' → next (a.put o.dst v') w') : o.wp P a w next Q := by
  unfold opD at h
  split at h
  · split at h <;> simp at h
    rename_i u hu
    obtain ⟨rfl, rfl⟩ := h
    obtain ⟨v', g1, g2⟩ := quiet_ok hK hr ht hu
    unfold Oper.wp
    rw [g1]
    exact hnext ι v' w g2 hr (Stp.refl _ _ _)
  · split at h <;> simp at h
    rename_i x q hx
    obtain ⟨rfl, rfl⟩ := h
    obtain ⟨ι', v', w', g1, g2, g3, g4⟩ := allocD_ok (P := P) hr ht (hf _ (Nat.le_refl _) (by simp)) hx
    unfold Oper.wp
    rw [g1]
    exact hnext ι' v' w' g2 g3 g4
  · exact heavy_wp hK hcf hr ht h hf hnext
theorem TRel.putD (ht : TRel ι n t a) {dst : Option Tmp} (hd : dstOk n dst = true) {v v' : Value} (hv : VRel ι v v') : TRel ι n (putD t dst v) (a.put dst v') := by
  cases dst with
  | none => exact ht
  | some d => exact ht.put (by simpa [dstOk] using hd) hv
theorem yield_rel (ht : TRel ι n t a) (ops : Array Oper) : yieldD ops.toList t = yielded ops a.tmps := by
  funext j
  unfold yieldD yielded
  rw [Array.getElem?_toList]
  cases hj : ops[j]? with
  | none => rfl
  | some o =>
    simp only [Option.bind_some]
    cases hd : o.dst with
    | none => rfl
    | some d =>
      simp only [Option.bind_some]
      have h := ht.2 d
      rw [Array.getD_eq_getD_getElem?] at h
      cases hg : a.tmps[d]? with
      | none =>
        rw [hg] at h
        simp only [Option.getD_none] at h
        generalize t.at d = q at h
        cases h <;> rfl
      | some u =>
        rw [hg] at h
        simp only [Option.getD_some] at h
        generalize t.at d = q at h
        cases h <;> rfl
theorem opsD_size {cf : CallF} (hcf : ∀ f args m v m', cf f args m = some (v, m') → m.size ≤ m'.size) {ops : List Oper} : ∀ (l : List Oper) (t : Tmps) (m : Mem) (t' : Tmps) (m' : Mem), opsD P K G cf n ops l t m = some (t', m') → m.size ≤ m'.size
  | [], t, m, t', m', h => by simp [opsD] at h; rw [h.2]; exact Nat.le_refl _
  | o :: l, t, m, t', m', h => by
    simp only [opsD] at h
    split at h <;> try (simp at h; done)
    split at h
    · split at h <;> try (simp at h; done)
      rename_i v m₁ hv
      exact Nat.le_trans (opD_size hcf hv) (opsD_size hcf l _ _ _ _ h)
    · exact opsD_size hcf l _ _ _ _ h
def After (B0 G n : Nat) (ι : Ren) (m : Mem) (w : World) (a : Act) (t' : Tmps) (m' : Mem) (a' : Act) (w' : World) : Prop :=
  ∃ ι', TRel ι' n t' a' ∧ Rel B0 G ι' m' w' ∧ Stp ι ι' m m' w w' ∧ a'.defers = a.defers
theorem After.trans {ι₁ : Ren} {m₁ m₂ : Mem} {w₁ w₂ : World} {a₁ a₂ : Act} {t₂ : Tmps} (s : Stp ι ι₁ m m₁ w w₁) (hd : a₁.defers = a.defers) (h : After B0 G n ι₁ m₁ w₁ a₁ t₂ m₂ a₂ w₂) : After B0 G n ι m w a t₂ m₂ a₂ w₂ := by
  obtain ⟨ι', g1, g2, g3, g4⟩ := h
  exact ⟨ι', g1, g2, s.trans g3, g4.trans hd⟩
theorem put_defers (a : Act) (d : Option Tmp) (v : Value) : (a.put d v).defers = a.defers := by cases d <;> rfl
theorem ops_wp (hK : Plain P K) {cf : CallF} (hcf : CfOK P B0 G cf) {ops : Array Oper} {Q : Exit → Act → World → Prop} : ∀ (l : List Oper) (i : Nat), (∀ j, l[j]? = ops[i + j]?) → ∀ (ι : Ren) (t : Tmps) (m : Mem) (w : World) (a : Act) (t' : Tmps) (m' : Mem),
    opsD P K G cf n ops.toList l t m = some (t', m') → Rel B0 G ι m w → TRel ι n t a → Fresh ι m.size m'.size →
    (∀ a' w', After B0 G n ι m w a t' m' a' w' → Q .normal a' w') → wpOps P ops Q (List.range' i l.length) a w
  | [], i, hl, ι, t, m, w, a, t', m', h, hr, ht, hf, hQ => by
    simp [opsD] at h
    obtain ⟨rfl, rfl⟩ := h
    simp only [List.length_nil, List.range'_zero, wpOps]
    exact hQ a w ⟨ι, ht, hr, Stp.refl _ _ _, rfl⟩
  | o :: l, i, hl, ι, t, m, w, a, t', m', h, hr, ht, hf, hQ => by
    simp only [opsD] at h
    split at h <;> try (simp at h; done)
    rename_i hd
    have ho : ops[i]? = some o := by have := hl 0; simpa using this.symm
    have hl' : ∀ j, l[j]? = ops[i + 1 + j]? := fun j => by have := hl (j + 1); simp at this; rw [this]; congr 1; omega
    rw [List.length_cons, List.range'_succ]
    simp only [wpOps, ho]
    rw [yield_rel ht] at h
    split at h
    · rename_i hw
      rw [if_pos hw]
      split at h <;> try (simp at h; done)
      rename_i v m₁ hv
      have s1 := opD_size hcf.size hv
      have s2 := opsD_size hcf.size _ _ _ _ _ h
      refine .inl (op_wp hK hcf hr ht hv (hf.sub (Nat.le_refl _) s2) fun ι' v' w' g1 g2 g3 => ?_)
      refine ops_wp hK hcf l (i + 1) hl' ι' _ m₁ w' _ t' m' h g2 ((ht.mono g3.ext).putD hd g1) ((hf.sub s1 (Nat.le_refl _)).stp g3 (Nat.le_refl _)) fun a' w'' ha => hQ a' w'' ?_
      exact After.trans g3 (put_defers _ _ _) ha
    · rename_i hw
      rw [if_neg hw]
      refine ops_wp hK hcf l (i + 1) hl' ι _ m w _ t' m' h hr (ht.putD hd (VRel.undef _)) hf fun a' w'' ha => hQ a' w'' ?_
      exact After.trans (Stp.refl _ _ _) (put_defers _ _ _) ha
theorem region_wp (hK : Plain P K) {cf : CallF} (hcf : CfOK P B0 G cf) {ops : Array Oper} {id : Nat} {Q : Exit → Act → World → Prop} {t' : Tmps} {m' : Mem}
    (h : opsD P K G cf n ops.toList ops.toList t m = some (t', m')) (hr : Rel B0 G ι m w) (ht : TRel ι n t a) (hf : Fresh ι m.size m'.size)
    (hQ : ∀ a' w', After B0 G n ι m w a t' m' a' w' → Q .normal a' w') : (Code.region id ops false).wp P Q a w := by
  refine wp_region ?_
  have := ops_wp (Q := Q) hK hcf (ops := ops) ops.toList 0 (fun j => by simp) ι t m w a t' m' h hr ht hf hQ
  rw [List.range_eq_range']
  simpa using this
def DrawOK (P : Program) (B0 G n : Nat) (dr : List Oper → Tmps → Mem → Option (Tmps × Mem)) : Prop :=
  (∀ ops t m t' m', dr ops t m = some (t', m') → m.size ≤ m'.size) ∧
  ∀ (ops : Array Oper) (id : Nat) (ι : Ren) (t : Tmps) (m : Mem) (w : World) (a : Act) (t' : Tmps) (m' : Mem) (Q : Exit → Act → World → Prop),
    dr ops.toList t m = some (t', m') → Rel B0 G ι m w → TRel ι n t a → Fresh ι m.size m'.size →
    (∀ a' w', After B0 G n ι m w a t' m' a' w' → Q .normal a' w') → (Code.region id ops true).wp P Q a w
def Ex.to : Ex → Exit
  | .normal => .normal
  | .exit id => .exit id
  | .ret => .ret
theorem loopD_size {body : Tmps → Mem → Option (Ex × Tmps × Mem)} (hb : ∀ t m e t' m', body t m = some (e, t', m') → m.size ≤ m'.size) : ∀ (k : Nat) (t : Tmps) (m : Mem) (e : Ex) (t' : Tmps) (m' : Mem), loopD body k t m = some (e, t', m') → m.size ≤ m'.size
  | 0, t, m, e, t', m', h => by simp [loopD] at h
  | k + 1, t, m, e, t', m', h => by
    simp only [loopD] at h
    split at h
    · rename_i t₁ m₁ h1
      exact Nat.le_trans (hb _ _ _ _ _ h1) (loopD_size hb k _ _ _ _ _ h)
    · exact hb _ _ _ _ _ h
theorem codeD_size {cf : CallF} (hcf : ∀ f args m v m', cf f args m = some (v, m') → m.size ≤ m'.size) {dr : List Oper → Tmps → Mem → Option (Tmps × Mem)} (hdr : ∀ ops t m t' m', dr ops t m = some (t', m') → m.size ≤ m'.size) {k : Nat} :
    ∀ (c : Code) (t : Tmps) (m : Mem) (e : Ex) (t' : Tmps) (m' : Mem), codeD P K G cf dr n k c t m = some (e, t', m') → m.size ≤ m'.size := by
  intro c
  induction c with
  | skip => intro t m e t' m' h; simp [codeD] at h; rw [h.2.2]; exact Nat.le_refl _
  | label l => intro t m e t' m' h; simp [codeD] at h; rw [h.2.2]; exact Nat.le_refl _
  | region id ops draw =>
    intro t m e t' m' h
    simp only [codeD] at h
    split at h <;> simp at h
    rename_i t₁ m₁ h1
    rw [← h.2.2]
    cases draw
    · exact opsD_size hcf _ _ _ _ _ h1
    · exact hdr _ _ _ _ _ h1
  | seq x y ihx ihy =>
    intro t m e t' m' h
    simp only [codeD] at h
    split at h
    · rename_i t₁ m₁ h1
      exact Nat.le_trans (ihx _ _ _ _ _ h1) (ihy _ _ _ _ _ h)
    · exact ihx _ _ _ _ _ h
  | cond c x y ihx ihy =>
    intro t m e t' m' h
    simp only [codeD] at h
    split at h <;> try (simp at h; done)
    · exact ihx _ _ _ _ _ h
    · exact ihy _ _ _ _ _ h
  | block id c ih =>
    intro t m e t' m' h
    simp only [codeD] at h
    split at h
    · rename_i id' t₁ m₁ h1
      split at h <;> simp at h <;> rw [← h.2.2] <;> exact ih _ _ _ _ _ h1
    · exact ih _ _ _ _ _ h
  | loop c ih => intro t m e t' m' h; simp only [codeD] at h; exact loopD_size (fun t m e t' m' h => ih t m e t' m' h) _ _ _ _ _ _ h
  | exit id => intro t m e t' m' h; simp [codeD] at h; rw [h.2.2]; exact Nat.le_refl _
  | ret => intro t m e t' m' h; simp [codeD] at h; rw [h.2.2]; exact Nat.le_refl _
  | rangeFunc => intro t m e t' m' h; simp [codeD] at h
  | scope => intro t m e t' m' h; simp [codeD] at h
  | goto => intro t m e t' m' h; simp [codeD] at h
  | refuse => intro t m e t' m' h; simp [codeD] at h
def CodeOK (P : Program) (B0 G n : Nat) (c : Code) (t : Tmps) (m : Mem) (e : Ex) (t' : Tmps) (m' : Mem) : Prop :=
  ∀ (ι : Ren) (w : World) (a : Act) (Q : Exit → Act → World → Prop), Rel B0 G ι m w → TRel ι n t a → Fresh ι m.size m'.size → (∀ a' w', After B0 G n ι m w a t' m' a' w' → Q e.to a' w') → c.wp P Q a w
theorem code_ok (hK : Plain P K) {cf : CallF} (hcf : CfOK P B0 G cf) {dr : List Oper → Tmps → Mem → Option (Tmps × Mem)} (hdr : DrawOK P B0 G n dr) {k : Nat} :
    ∀ (c : Code) (t : Tmps) (m : Mem) (e : Ex) (t' : Tmps) (m' : Mem), codeD P K G cf dr n k c t m = some (e, t', m') → CodeOK P B0 G n c t m e t' m' := by
  intro c
  have hsz := fun c => codeD_size (P := P) (K := K) (G := G) (n := n) (k := k) hcf.size hdr.1 c
  induction c with
  | skip => intro t m e t' m' h; simp [codeD] at h; obtain ⟨rfl, rfl, rfl⟩ := h; intro ι w a Q hr ht hf hQ; exact wp_skip (hQ a w ⟨ι, ht, hr, Stp.refl _ _ _, rfl⟩)
  | label l => intro t m e t' m' h; simp [codeD] at h; obtain ⟨rfl, rfl, rfl⟩ := h; intro ι w a Q hr ht hf hQ; exact wp_label (hQ a w ⟨ι, ht, hr, Stp.refl _ _ _, rfl⟩)
  | region id ops draw =>
    intro t m e t' m' h
    simp only [codeD] at h
    split at h <;> simp at h
    rename_i t₁ m₁ h1
    obtain ⟨rfl, rfl, rfl⟩ := h
    intro ι w a Q hr ht hf hQ
    cases draw
    · exact region_wp hK hcf h1 hr ht hf hQ
    · exact hdr.2 ops id ι t m w a _ _ Q h1 hr ht hf hQ
  | seq x y ihx ihy =>
    intro t m e t' m' h
    simp only [codeD] at h
    intro ι w a Q hr ht hf hQ
    split at h
    · rename_i t₁ m₁ h1
      have s1 := hsz x _ _ _ _ _ h1
      have s2 := hsz y _ _ _ _ _ h
      refine wp_seq (ihx _ _ _ _ _ h1 ι w a _ hr ht (hf.sub (Nat.le_refl _) s2) fun a₁ w₁ ha => ?_)
      obtain ⟨ι₁, g1, g2, g3, g4⟩ := ha
      simp only [Ex.to, Exit.then]
      exact ihy _ _ _ _ _ h ι₁ w₁ a₁ Q g2 g1 ((hf.sub s1 (Nat.le_refl _)).stp g3 (Nat.le_refl _)) fun a₂ w₂ ha₂ => hQ a₂ w₂ (After.trans g3 g4 ha₂)
    · rename_i hne
      refine wp_seq (ihx _ _ _ _ _ h ι w a _ hr ht hf fun a₁ w₁ ha => ?_)
      have := hQ a₁ w₁ ha
      cases e with
      | normal => exact absurd h (hne _ _)
      | exit id => exact this
      | ret => exact this
  | cond c x y ihx ihy =>
    intro t m e t' m' h
    simp only [codeD] at h
    intro ι w a Q hr ht hf hQ
    split at h <;> try (simp at h; done)
    · rename_i hc
      exact wp_cond_true (ev_rel hr ht hc).inv_bool (ihx _ _ _ _ _ h ι w a Q hr ht hf hQ)
    · rename_i hc
      exact wp_cond_false (ev_rel hr ht hc).inv_bool (ihy _ _ _ _ _ h ι w a Q hr ht hf hQ)
  | block id c ih =>
    intro t m e t' m' h
    simp only [codeD] at h
    intro ι w a Q hr ht hf hQ
    split at h
    · rename_i id' t₁ m₁ h1
      split at h <;> simp at h
      · rename_i he
        obtain ⟨rfl, rfl, rfl⟩ := h
        refine wp_block (ih _ _ _ _ _ h1 ι w a _ hr ht hf fun a₁ w₁ ha => ?_)
        simp only [Ex.to, Exit.inBlock, he, if_true]
        exact hQ a₁ w₁ ha
      · rename_i he
        obtain ⟨rfl, rfl, rfl⟩ := h
        refine wp_block (ih _ _ _ _ _ h1 ι w a _ hr ht hf fun a₁ w₁ ha => ?_)
        simp only [Ex.to, Exit.inBlock, he, if_false]
        exact hQ a₁ w₁ ha
    · rename_i hne
      refine wp_block (ih _ _ _ _ _ h ι w a _ hr ht hf fun a₁ w₁ ha => ?_)
      have := hQ a₁ w₁ ha
      cases e with
      | normal => exact this
      | exit id => exact absurd h (hne _ _ _)
      | ret => exact this
  | loop c ih =>
    intro t m e t' m' h
    simp only [codeD] at h
    intro ι w a Q hr ht hf hQ
    refine wp_loop_rounds k ?_
    have key : ∀ (k' : Nat) (t : Tmps) (m : Mem) (ι : Ren) (w : World) (a : Act) (Q : Exit → Act → World → Prop), loopD (codeD P K G cf dr n k c) k' t m = some (e, t', m') → Rel B0 G ι m w → TRel ι n t a → Fresh ι m.size m'.size →
        (∀ a' w', After B0 G n ι m w a t' m' a' w' → Q e.to a' w') → e.to ≠ .normal → Code.rounds P c Q k' a w := by
      intro k'
      induction k' with
      | zero => intro t m ι w a Q h; simp [loopD] at h
      | succ k' ih2 =>
        intro t m ι w a Q h hr ht hf hQ hne'
        simp only [loopD] at h
        rw [rounds_succ]
        split at h
        · rename_i t₁ m₁ h1
          have s1 := hsz c _ _ _ _ _ h1
          have s2 := loopD_size (fun t m e t' m' h => hsz c t m e t' m' h) _ _ _ _ _ _ h
          refine ih _ _ _ _ _ h1 ι w a _ hr ht (hf.sub (Nat.le_refl _) s2) fun a₁ w₁ ha => ?_
          obtain ⟨ι₁, g1, g2, g3, g4⟩ := ha
          simp only [Ex.to, Exit.then]
          exact ih2 t₁ m₁ ι₁ w₁ a₁ Q h g2 g1 ((hf.sub s1 (Nat.le_refl _)).stp g3 (Nat.le_refl _)) (fun a₂ w₂ ha₂ => hQ a₂ w₂ (After.trans g3 g4 ha₂)) hne'
        · rename_i hne
          refine ih _ _ _ _ _ h ι w a _ hr ht hf fun a₁ w₁ ha => ?_
          have := hQ a₁ w₁ ha
          cases e with
          | normal => exact absurd h (hne _ _)
          | exit id => exact this
          | ret => exact this
    have hne' : e.to ≠ .normal := by
      have : ∀ (k' : Nat) (t : Tmps) (m : Mem), loopD (codeD P K G cf dr n k c) k' t m = some (e, t', m') → e.to ≠ .normal := by
        intro k'
        induction k' with
        | zero => intro t m h; simp [loopD] at h
        | succ k' ih2 =>
          intro t m h
          simp only [loopD] at h
          split at h
          · exact ih2 _ _ h
          · rename_i hne
            cases e with
            | normal => exact absurd h (hne _ _)
            | exit id => simp [Ex.to]
            | ret => simp [Ex.to]
      exact this k t m h
    exact key k t m ι w a Q h hr ht hf hQ hne'
  | exit id => intro t m e t' m' h; simp [codeD] at h; obtain ⟨rfl, rfl, rfl⟩ := h; intro ι w a Q hr ht hf hQ; exact wp_exit (hQ a w ⟨ι, ht, hr, Stp.refl _ _ _, rfl⟩)
  | ret => intro t m e t' m' h; simp [codeD] at h; obtain ⟨rfl, rfl, rfl⟩ := h; intro ι w a Q hr ht hf hQ; exact wp_ret (hQ a w ⟨ι, ht, hr, Stp.refl _ _ _, rfl⟩)
  | rangeFunc => intro t m e t' m' h; simp [codeD] at h
  | scope => intro t m e t' m' h; simp [codeD] at h
  | goto => intro t m e t' m' h; simp [codeD] at h
  | refuse => intro t m e t' m' h; simp [codeD] at h
end
end Go.DI
namespace Go.DI
section
variable {P : Program} {K : TypeId → Bool} {G B0 n : Nat} {ι : Ren} {m : Mem} {w : World} {t : Tmps} {a : Act}
def Mem.top (m : Mem) : Prop := ∀ b, m.size ≤ b → m.get b = .none
structure Grw (m m' : Mem) : Prop where
  size : m.size ≤ m'.size
  top : m.top → m'.top
  live : ∀ b, b < m.size → (m'.get b).live → (m.get b).live
  own : ∀ b, b < m.size → (m'.get b).own = true → (m.get b).own = true
theorem Grw.refl (m : Mem) : Grw m m := ⟨Nat.le_refl _, id, fun _ _ => id, fun _ _ => id⟩
theorem Grw.trans {m m₁ m₂ : Mem} (h : Grw m m₁) (k : Grw m₁ m₂) : Grw m m₂ :=
  ⟨Nat.le_trans h.size k.size, fun q => k.top (h.top q), fun b hb q => h.live b hb (k.live b (Nat.lt_of_lt_of_le hb h.size) q), fun b hb q => h.own b hb (k.own b (Nat.lt_of_lt_of_le hb h.size) q)⟩
theorem Grw.set {b : Nat} {x : Blk} (hl : (m.get b).live) (h1 : x.own = true → (m.get b).own = true) : Grw m (m.set b x) := by
  refine ⟨Nat.le_refl _, fun q c hc => ?_, fun c hc q => ?_, fun c hc q => ?_⟩
  · rw [Mem.get_set]
    split
    · rename_i e; subst e
      rw [q c hc] at hl; exact hl.elim
    · exact q c hc
  · rw [Mem.get_set] at q
    split at q
    · rename_i e; subst e; exact hl
    · exact q
  · rw [Mem.get_set] at q
    split at q
    · rename_i e; subst e; exact h1 q
    · exact q
theorem Grw.push (m : Mem) (x : Blk) : Grw m (m.push x) := by
  refine ⟨by simp, fun q c hc => ?_, fun c hc q => ?_, fun c hc q => ?_⟩
  · simp at hc; rw [Mem.get_push_ne _ (by omega)]; exact q c (by omega)
  · rw [Mem.get_push_ne _ (by omega)] at q; exact q
  · rw [Mem.get_push_ne _ (by omega)] at q; exact q
theorem storeC_grw {b off : Nat} {vs : List Value} {m' : Mem} (h : storeC m b off vs = some m') : Grw m m' := by
  unfold storeC at h
  split at h <;> try (simp at h; done)
  rename_i hg
  split at h <;> try (simp at h; done)
  split at h <;> simp at h
  subst h
  exact Grw.set (by rw [hg]; trivial) (by rw [hg]; simp [Blk.own])
theorem storeD_grw {s : TypeId} {x v : Value} {m' : Mem} (h : storeD P m s v x = some m') : Grw m m' := by
  unfold storeD at h
  split at h <;> try (simp at h; done)
  split at h <;> try (simp at h; done)
  split at h <;> try (simp at h; done)
  exact storeC_grw h
theorem mapUpdateD_grw {s : TypeId} {x k v : Value} {m' : Mem} (h : mapUpdateD P K m s x k v = some m') : Grw m m' := by
  unfold mapUpdateD at h
  split at h <;> try (simp at h; done)
  split at h <;> try (simp at h; done)
  split at h <;> try (simp at h; done)
  rename_i hg
  split at h <;> try (simp at h; done)
  split at h <;> try (simp at h; done)
  · split at h <;> try (simp at h; done)
    split at h <;> simp at h
    subst h; exact Grw.set (by rw [hg]; trivial) (by rw [hg]; simp [Blk.own])
  · simp at h; subst h; exact Grw.set (by rw [hg]; trivial) (by rw [hg]; simp [Blk.own])
theorem appendD_grw {tS tX : TypeId} {s x v : Value} {m' : Mem} (h : appendD P m tS tX s x = some (v, m')) : Grw m m' := by
  unfold appendD at h
  split at h <;> try (simp at h; done)
  split at h <;> try (simp at h; done)
  split at h <;> try (simp at h; done)
  split at h <;> try (simp at h; done)
  split at h
  · split at h
    · split at h <;> simp at h
      rw [h.2]; exact Grw.refl _
    · split at h
      · simp at h; rw [h.2]; exact Grw.refl _
      · split at h <;> simp at h
        rename_i hst
        rw [← h.2]; exact storeC_grw (storeR_some hst)
  · split at h <;> try (simp at h; done)
    split at h <;> try (simp at h; done)
    split at h <;> try (simp at h; done)
    split at h
    · rename_i b off e'
      split at h <;> try (simp at h; done)
      split at h <;> simp at h
      rename_i cb hg
      rw [← h.2]
      refine ⟨by simp, fun q c hc => ?_, fun c hc q => ?_, fun c hc q => ?_⟩
      · simp at hc
        rw [Mem.get_set]
        split
        · rfl
        · rw [Mem.get_push_ne _ (by omega)]; exact q c (by omega)
      · rw [Mem.get_set] at q
        split at q
        · exact q.elim
        · rw [Mem.get_push_ne _ (by omega)] at q; exact q
      · rw [Mem.get_set] at q
        split at q
        · simp [Blk.own] at q
        · rw [Mem.get_push_ne _ (by omega)] at q; exact q
    · simp at h; rw [← h.2]; exact Grw.push _ _
theorem copyD_grw {tD : TypeId} {s x v : Value} {m' : Mem} (h : copyD P m tD s x = some (v, m')) : Grw m m' := by
  unfold copyD at h
  split at h <;> try (simp at h; done)
  split at h <;> try (simp at h; done)
  split at h <;> try (simp at h; done)
  split at h <;> try (simp at h; done)
  split at h
  · simp at h; rw [h.2]; exact Grw.refl _
  · split at h
    · simp at h; rw [h.2]; exact Grw.refl _
    · split at h <;> simp at h
      rename_i hst
      rw [← h.2]; exact storeC_grw hst
theorem convD_grw {s d : TypeId} {x v : Value} {m' : Mem} (h : convD P m s d x = some (v, m')) : Grw m m' := by
  unfold convD at h
  split at h <;> try (simp at h; done)
  · split at h <;> simp at h
    rw [h.2]; exact Grw.refl _
  · split at h <;> simp at h
    rw [h.2]; exact Grw.refl _
  · split at h <;> simp at h
    rw [← h.2]; exact Grw.push _ _
  · split at h <;> try (simp at h; done)
    split at h <;> try (simp at h; done)
    · simp at h; rw [h.2]; exact Grw.refl _
    · split at h <;> try (simp at h; done)
      split at h <;> simp at h
      rw [h.2]; exact Grw.refl _
def CfGrw (cf : CallF) : Prop := ∀ f args m v m', cf f args m = some (v, m') → Grw m m'
theorem heavyD_grw {cf : CallF} (hcf : CfGrw cf) {o : Op} {v : Value} {m' : Mem} (h : heavyD P K G cf t m o = some (v, m')) : Grw m m' := by
  unfold heavyD at h
  split at h <;> try (simp at h; done)
  · split at h <;> try (simp at h; done)
    split at h <;> simp at h
    rename_i hs
    rw [← h.2]; exact storeD_grw hs
  · split at h <;> try (simp at h; done)
    split at h <;> simp at h
    rename_i hs
    rw [← h.2]; exact mapUpdateD_grw hs
  · split at h <;> try (simp at h; done)
    split at h <;> simp at h
    rename_i hs
    rw [← h.2]; exact mapUpdateD_grw hs
  · split at h <;> try (simp at h; done)
    exact convD_grw h
  · split at h <;> try (simp at h; done)
    split at h <;> try (simp at h; done)
    exact appendD_grw h
  · split at h <;> try (simp at h; done)
    split at h <;> try (simp at h; done)
    exact copyD_grw h
  · split at h <;> try (simp at h; done)
    exact hcf _ _ _ _ _ h
theorem opD_grw {cf : CallF} (hcf : CfGrw cf) {o : Op} {v : Value} {m' : Mem} (h : opD P K G cf t m o = some (v, m')) : Grw m m' := by
  unfold opD at h
  split at h
  · split at h <;> simp at h
    rw [h.2]; exact Grw.refl _
  · split at h <;> simp at h
    rw [← h.2]; exact Grw.push _ _
  · exact heavyD_grw hcf h
theorem opsD_grw {cf : CallF} (hcf : CfGrw cf) {ops : List Oper} : ∀ (l : List Oper) (t : Tmps) (m : Mem) (t' : Tmps) (m' : Mem), opsD P K G cf n ops l t m = some (t', m') → Grw m m'
  | [], t, m, t', m', h => by simp [opsD] at h; rw [h.2]; exact Grw.refl _
  | o :: l, t, m, t', m', h => by
    simp only [opsD] at h
    split at h <;> try (simp at h; done)
    split at h
    · split at h <;> try (simp at h; done)
      rename_i v m₁ hv
      exact (opD_grw hcf hv).trans (opsD_grw hcf l _ _ _ _ h)
    · exact opsD_grw hcf l _ _ _ _ h
theorem loopD_grw {body : Tmps → Mem → Option (Ex × Tmps × Mem)} (hb : ∀ t m e t' m', body t m = some (e, t', m') → Grw m m') : ∀ (k : Nat) (t : Tmps) (m : Mem) (e : Ex) (t' : Tmps) (m' : Mem), loopD body k t m = some (e, t', m') → Grw m m'
  | 0, t, m, e, t', m', h => by simp [loopD] at h
  | k + 1, t, m, e, t', m', h => by
    simp only [loopD] at h
    split at h
    · rename_i t₁ m₁ h1
      exact (hb _ _ _ _ _ h1).trans (loopD_grw hb k _ _ _ _ _ h)
    · exact hb _ _ _ _ _ h
theorem codeD_grw {cf : CallF} (hcf : CfGrw cf) {dr : List Oper → Tmps → Mem → Option (Tmps × Mem)} (hdr : ∀ ops t m t' m', dr ops t m = some (t', m') → Grw m m') {k : Nat} :
    ∀ (c : Code) (t : Tmps) (m : Mem) (e : Ex) (t' : Tmps) (m' : Mem), codeD P K G cf dr n k c t m = some (e, t', m') → Grw m m' := by
  intro c
  induction c with
  | skip => intro t m e t' m' h; simp [codeD] at h; rw [h.2.2]; exact Grw.refl _
  | label l => intro t m e t' m' h; simp [codeD] at h; rw [h.2.2]; exact Grw.refl _
  | region id ops draw =>
    intro t m e t' m' h
    simp only [codeD] at h
    split at h <;> simp at h
    rename_i t₁ m₁ h1
    rw [← h.2.2]
    cases draw
    · exact opsD_grw hcf _ _ _ _ _ h1
    · exact hdr _ _ _ _ _ h1
  | seq x y ihx ihy =>
    intro t m e t' m' h
    simp only [codeD] at h
    split at h
    · rename_i t₁ m₁ h1
      exact (ihx _ _ _ _ _ h1).trans (ihy _ _ _ _ _ h)
    · exact ihx _ _ _ _ _ h
  | cond c x y ihx ihy =>
    intro t m e t' m' h
    simp only [codeD] at h
    split at h <;> try (simp at h; done)
    · exact ihx _ _ _ _ _ h
    · exact ihy _ _ _ _ _ h
  | block id c ih =>
    intro t m e t' m' h
    simp only [codeD] at h
    split at h
    · rename_i id' t₁ m₁ h1
      split at h <;> simp at h <;> rw [← h.2.2] <;> exact ih _ _ _ _ _ h1
    · exact ih _ _ _ _ _ h
  | loop c ih => intro t m e t' m' h; simp only [codeD] at h; exact loopD_grw (fun t m e t' m' h => ih t m e t' m' h) _ _ _ _ _ _ h
  | exit id => intro t m e t' m' h; simp [codeD] at h; rw [h.2.2]; exact Grw.refl _
  | ret => intro t m e t' m' h; simp [codeD] at h; rw [h.2.2]; exact Grw.refl _
  | rangeFunc => intro t m e t' m' h; simp [codeD] at h
  | scope => intro t m e t' m' h; simp [codeD] at h
  | goto => intro t m e t' m' h; simp [codeD] at h
  | refuse => intro t m e t' m' h; simp [codeD] at h
end
end Go.DI
