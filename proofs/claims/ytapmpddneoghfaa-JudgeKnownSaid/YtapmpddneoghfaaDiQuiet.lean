/-
  DiQuiet: an operation that only computes or reads: the model answers what the interpreter answers, and leaves the world alone.
-/
import Derived.Test.YtapmpddneoghfaaDiOps
namespace Go.DI
section
variable {P : Program} {K : TypeId → Bool} {G B0 n : Nat} {ι : Ren} {m : Mem} {w : World} {t : Tmps} {a : Act}

theorem unD_ok {op : UnOp} {x x' v : Value} (hx : VRel ι x x') (h : unD op x = some v) : (Op.unary op x').run P w = .ok v w ∧ VRel ι v v := by
  cases x
  case int k q =>
    cases hx
    cases op <;> simp only [unD] at h
    case neg => simp at h; subst h; exact ⟨by simp [Op.unary, Op.intArith], .int _ _⟩
    case xor => simp [binInt] at h; subst h; exact ⟨by simp [Op.unary, Op.intBits], .int _ _⟩
    all_goals (simp at h)
  case bool b =>
    cases hx
    cases op <;> simp only [unD] at h
    case not => simp at h; subst h; exact ⟨by simp [Op.unary], .bool _⟩
    all_goals (simp at h)
  all_goals (simp [unD] at h)

theorem Addr.add_none (b off k : Nat) : (⟨b, off, none⟩ : Addr).add k = ⟨b, off + k, none⟩ := by
  unfold Addr.add
  split
  · rename_i h; subst h; rfl
  · rfl

theorem fieldAddrD_ok {s : TypeId} {f : Nat} {x x' v : Value} (hx : VRel ι x x') (h : fieldAddrD P s f x = some v) :
    ∃ v', (Instr.fieldAt s x' f).run P w = .ok v' w ∧ VRel ι v v' := by
  unfold fieldAddrD at h
  split at h <;> try (simp at h; done)
  rename_i b off
  split at h <;> try (simp at h; done)
  rename_i fields hu
  split at h <;> try (simp at h; done)
  rename_i fd hf
  split at h <;> try (simp at h; done)
  rename_i sz hs
  split at h <;> simp at h
  rename_i hz
  obtain ⟨L, hL, rfl⟩ := hx.inv_ptr
  subst h
  refine ⟨.pointer (some ⟨L.block, L.base + (off + fd.offset), none⟩), ?_, .ptr _ _ _ hL⟩
  have hf' : fields[f]? = some fd := by simpa using hf
  simp [Instr.fieldAt, run_und hu, hf', Instr.sureAddr, fieldPlace, run_sizeOf' hs, hz, Addr.add_none, Nat.add_assoc]

theorem fieldD_ok {s : TypeId} {f : Nat} {x x' v : Value} (hx : VRel ι x x') (h : fieldD P s f x = some v) :
    ∃ v', (Instr.field s x' f).run P w = .ok v' w ∧ VRel ι v v' := by
  unfold fieldD at h
  split at h <;> try (simp at h; done)
  rename_i cs
  split at h <;> try (simp at h; done)
  rename_i fields hu
  split at h <;> try (simp at h; done)
  rename_i fd hf
  obtain ⟨cs', rfl, hcs⟩ := hx.inv_agg
  obtain ⟨v', hv', hr⟩ := part_rel hcs h
  have hf' : fields[f]? = some fd := by simpa using hf
  exact ⟨v', by simp [Instr.field, run_und hu, hf', asAgg, run_part hv'], hr⟩

theorem indexAddrD_ok {s : TypeId} {x x' i v : Value} (hx : VRel ι x x') (h : indexAddrD P s x i = some v) :
    ∃ v', (Instr.indexAt s x' i).run P w = .ok v' w ∧ VRel ι v v' := by
  unfold indexAddrD at h
  split at h <;> try (simp at h; done)
  rename_i k j
  split at h <;> try (simp at h; done)
  · rename_i len elem hu
    split at h <;> try (simp at h; done)
    rename_i b off
    split at h <;> try (simp at h; done)
    rename_i sz hs
    split at h <;> simp at h
    rename_i hb
    obtain ⟨L, hL, rfl⟩ := hx.inv_ptr
    subst h
    refine ⟨.pointer (some ⟨L.block, L.base + (off + j.toNat * sz), none⟩), ?_, .ptr _ _ _ hL⟩
    simp [Instr.indexAt, asIntOf, run_und hu, Instr.sureAddr, hb, run_sizeOf' hs, Addr.add_none, Nat.add_assoc]
  · rename_i elem hu
    split at h <;> try (simp at h; done)
    rename_i b off sp len cap
    split at h <;> try (simp at h; done)
    rename_i sz hs
    split at h <;> simp at h
    rename_i hb
    subst h
    cases hx with
    | slc _ _ _ _ L hL =>
      refine ⟨.pointer (some ⟨L.block, L.base + (off + j.toNat * sz), none⟩), ?_, .ptr _ _ _ hL⟩
      simp [Instr.indexAt, asIntOf, run_und hu, Instr.sureAddr, hb, run_sizeOf' hs, Addr.add_none, Nat.add_assoc]
    | loose _ _ _ _ _ _ L hL hc htot =>
      refine ⟨.pointer (some ⟨L.block, L.base + (off + j.toNat * sz), none⟩), ?_, .ptr _ _ _ hL⟩
      simp [Instr.indexAt, asIntOf, run_und hu, Instr.sureAddr, hb, run_sizeOf' hs, Addr.add_none, Nat.add_assoc]
    | loose0 _ _ _ _ _ L hL htot => simp at hb; omega

theorem indexD_ok {s : TypeId} {x x' i v : Value} (hx : VRel ι x x') (h : indexD P s x i = some v) :
    ∃ v', (Instr.index s x' i).run P w = .ok v' w ∧ VRel ι v v' := by
  unfold indexD at h
  split at h <;> try (simp at h; done)
  rename_i k j
  split at h <;> try (simp at h; done)
  · rename_i len elem hu
    split at h <;> try (simp at h; done)
    rename_i cs
    split at h <;> try (simp at h; done)
    rename_i sz hs
    split at h <;> try (simp at h; done)
    rename_i hb
    obtain ⟨cs', rfl, hcs⟩ := hx.inv_agg
    obtain ⟨v', hv', hr⟩ := part_rel hcs h
    refine ⟨v', ?_, hr⟩
    simp [Instr.index, asIntOf, run_und hu, hb, run_sizeOf' hs, run_part hv']
  · rename_i hu
    split at h <;> try (simp at h; done)
    rename_i q
    split at h <;> try (simp at h; done)
    rename_i hj
    split at h <;> simp at h
    rename_i u hb
    subst h
    cases hx
    refine ⟨_, ?_, .int _ _⟩
    have hb' : q[j.toNat]? = some u := by
      have h1 : q.data[j.toNat]? = some u := by simpa using hb
      rw [← h1]
      simp only [getElem?_def]
      rfl
    simp [Instr.index, asIntOf, run_und hu, hj, hb']

theorem boundD_run {y y' : Nat} (hy : y ≤ y') {x : Value} {d r : Nat} (h : boundD y (some x) d = some r) (code : BoundsCode) : (Instr.sliceBound x y' code).run P w = .ok r w ∧ r ≤ y := by
  cases x <;> simp only [boundD] at h <;> try (simp at h; done)
  split at h <;> simp at h
  rename_i k i hb
  subst h
  have : 0 ≤ i ∧ i ≤ (y' : Int) := by omega
  exact ⟨by simp [Instr.sliceBound, asIntOf, this], by omega⟩

theorem boundsD_run {len cap cap' : Nat} (hc : cap ≤ cap') {lo hi mx : Option Value} {l h' m' : Nat} (h : boundsD len cap lo hi mx = some (l, h', m')) (b : Bool) :
    (Instr.sliceBounds b len cap' lo hi mx).run P w = .ok (l, h', if mx.isSome then m' else cap') w ∧ (mx.isSome = false → m' = cap) ∧ m' ≤ cap ∧ (lo.isSome = false → l = 0) ∧ (lo.isSome = true → l ≤ h') ∧ (hi.isSome = true → h' ≤ m') ∧ (hi.isSome = false → h' = len) := by
  unfold boundsD at h
  split at h
  · simp at h
  · rename_i hne
    split at h <;> try (simp at h; done)
    rename_i m₁ hm
    split at h <;> try (simp at h; done)
    rename_i h₁ hh
    split at h <;> simp at h
    rename_i l₁ hl
    obtain ⟨rfl, rfl, rfl⟩ := h
    cases mx with
    | none =>
      simp [boundD] at hm; subst hm
      cases hi with
      | none =>
        simp [boundD] at hh; subst hh
        cases lo with
        | none => simp [boundD] at hl; subst hl; simp [Instr.sliceBounds]
        | some lo => obtain ⟨e1, e2⟩ := boundD_run (P := P) (w := w) (Nat.le_refl _) hl .sliceB; simp [Instr.sliceBounds, e1, e2]
      | some hi =>
        obtain ⟨e3, e4⟩ := boundD_run (P := P) (w := w) hc hh (if b then .sliceAcap else .sliceAlen)
        cases lo with
        | none => simp [boundD] at hl; subst hl; simp [Instr.sliceBounds, e3, e4]
        | some lo => obtain ⟨e1, e2⟩ := boundD_run (P := P) (w := w) (Nat.le_refl _) hl .sliceB; simp [Instr.sliceBounds, e1, e2, e3, e4]
    | some mx =>
      obtain ⟨e5, e6⟩ := boundD_run (P := P) (w := w) hc hm (if b then .slice3Acap else .slice3Alen)
      cases hi with
      | none => exact absurd rfl (hne mx rfl)
      | some hi =>
        obtain ⟨e3, e4⟩ := boundD_run (P := P) (w := w) (Nat.le_refl _) hh .slice3B
        cases lo with
        | none => simp [boundD] at hl; subst hl; simp [Instr.sliceBounds, e3, e4, e5, e6]
        | some lo => obtain ⟨e1, e2⟩ := boundD_run (P := P) (w := w) (Nat.le_refl _) hl .slice3C; simp [Instr.sliceBounds, e1, e2, e3, e4, e5, e6]

theorem bounds_none {ι : Ren} {x x' : Option Value} (h : match x, x' with | none, none => True | some v, some v' => VRel ι v v' | _, _ => False) : x.isSome = x'.isSome := by
  cases x <;> cases x' <;> simp_all

/-- Related or both absent. -/
def ORel (ι : Ren) : Option Value → Option Value → Prop
  | none, none => True
  | some v, some v' => VRel ι v v'
  | _, _ => False

theorem boundD_rel {ι : Ren} {y d : Nat} {x x' : Option Value} (h : ORel ι x x') {r : Nat} (hb : boundD y x d = some r) : boundD y x' d = some r := by
  cases x <;> cases x' <;> simp only [ORel] at h
  · exact hb
  · rename_i v v'
    cases v <;> simp only [boundD] at hb <;> try (simp at hb; done)
    cases h; exact hb

theorem boundsD_rel {ι : Ren} {len cap : Nat} {lo lo' hi hi' mx mx' : Option Value} (h1 : ORel ι lo lo') (h2 : ORel ι hi hi') (h3 : ORel ι mx mx') {r : Nat × Nat × Nat} (h : boundsD len cap lo hi mx = some r) :
    boundsD len cap lo' hi' mx' = some r := by
  unfold boundsD at h ⊢
  split at h
  · simp at h
  · rename_i hne
    split at h <;> try (simp at h; done)
    rename_i m₁ hm
    split at h <;> try (simp at h; done)
    rename_i h₁ hh
    split at h <;> simp at h
    rename_i l₁ hl
    have hne' : ∀ (v : Value), mx' = some v → hi' = none → False := by
      intro v e1 e2
      subst e1 e2
      cases mx <;> cases hi <;> simp_all [ORel]
    split
    · exact (hne' _ rfl rfl).elim
    · simp [boundD_rel h3 hm, boundD_rel h2 hh, boundD_rel h1 hl, h]

theorem sliceD_ok {s : TypeId} {x x' v : Value} {lo lo' hi hi' mx mx' : Option Value} (hx : VRel ι x x') (h1 : ORel ι lo lo') (h2 : ORel ι hi hi') (h3 : ORel ι mx mx') (h : sliceD P s x lo hi mx = some v) :
    ∃ v', (Instr.sliceAt s x' lo' hi' mx').run P w = .ok v' w ∧ VRel ι v v' := by
  have hsome : mx'.isSome = mx.isSome := by cases mx <;> cases mx' <;> simp_all [ORel]
  unfold sliceD at h
  split at h <;> try (simp at h; done)
  · rename_i hu
    split at h <;> try (simp at h; done)
    rename_i q
    split at h <;> try (simp at h; done)
    split at h <;> simp at h
    rename_i l h' m₁ hb
    subst h
    cases hx
    have hb' := boundsD_rel h1 h2 h3 hb
    obtain ⟨e, _⟩ := boundsD_run (P := P) (w := w) (Nat.le_refl _) hb' false
    cases mx' <;> simp [ORel] at h3
    refine ⟨_, ?_, .string _⟩
    simp at e
    simp [Instr.sliceAt, run_und hu, Instr.slice, e]
  · rename_i elem hu
    split at h <;> try (simp at h; done)
    · rename_i len cap
      split at h <;> simp at h
      rename_i l h' m₁ sz hb hsz
      subst h
      cases hx
      have hb' := boundsD_rel h1 h2 h3 hb
      obtain ⟨e, g1, _⟩ := boundsD_run (P := P) (w := w) (Nat.le_refl _) hb' true
      have e2 : (if mx'.isSome = true then m₁ else cap) = m₁ := by
        cases hm : mx'.isSome
        · simp [g1 hm]
        · simp
      rw [e2] at e
      refine ⟨.slice none (h' - l) (m₁ - l), ?_, .slc0 _ _⟩
      simp [Instr.sliceAt, run_und hu, Instr.slice, e, run_sizeOf' hsz]
    · rename_i b off len cap
      split at h <;> simp at h
      rename_i l h' m₁ sz hb hsz
      subst h
      cases hx with
      | slc _ _ _ _ L hL =>
        have hb' := boundsD_rel h1 h2 h3 hb
        obtain ⟨e, g1, _⟩ := boundsD_run (P := P) (w := w) (Nat.le_refl _) hb' true
        have e2 : (if mx'.isSome = true then m₁ else cap) = m₁ := by
          cases hm : mx'.isSome
          · simp [g1 hm]
          · simp
        rw [e2] at e
        by_cases hml : m₁ = l
        · refine ⟨.slice (some ⟨L.block, L.base + off, none⟩) (h' - l) (m₁ - l), ?_, by simp only [hml, if_true]; exact .slc _ _ _ _ _ hL⟩
          simp [Instr.sliceAt, run_und hu, Instr.slice, e, run_sizeOf' hsz, hml]
        · refine ⟨.slice (some ⟨L.block, L.base + (off + l * sz), none⟩) (h' - l) (m₁ - l), ?_, by simp only [hml, if_false]; exact .slc _ _ _ _ _ hL⟩
          simp [Instr.sliceAt, run_und hu, Instr.slice, e, run_sizeOf' hsz, hml, Addr.add_none, Nat.add_assoc]
    · rename_i b off e₀ len cap
      split at h <;> try (simp at h; done)
      rename_i l h' m₁ sz hb hsz
      split at h <;> try (simp at h; done)
      rename_i hc
      obtain ⟨rfl, hlh, hhm⟩ := hc
      have hb' := boundsD_rel h1 h2 h3 hb
      cases hx with
      | loose _ _ _ _ _ cap' L hL hcc htot =>
        obtain ⟨e, g1, g2, _⟩ := boundsD_run (P := P) (w := w) hcc hb' true
        cases hm : mx'.isSome
        · have hm2 : mx.isSome = false := by rw [← hsome, hm]
          have g1' := g1 hm
          rw [hm2] at h
          simp at h
          subst h
          rw [hm] at e
          simp only [Bool.false_eq_true, if_false] at e
          by_cases hml : cap' = l
          · have h0 : h' - l = 0 := by omega
            have h4 : m₁ - l = 0 := by omega
            refine ⟨.slice (some ⟨L.block, L.base + off, none⟩) (h' - l) (cap' - l), ?_, ?_⟩
            · simp [Instr.sliceAt, run_und hu, Instr.slice, e, run_sizeOf' hsz]; simp [hml]
            · rw [h0, h4]; exact .loose0 _ _ _ _ _ L hL (by rw [hml]; simp; omega)
          · refine ⟨.slice (some ⟨L.block, L.base + (off + l * sz), none⟩) (h' - l) (cap' - l), ?_, ?_⟩
            · simp [Instr.sliceAt, run_und hu, Instr.slice, e, run_sizeOf' hsz, hml, Addr.add_none, Nat.add_assoc]
            · refine .loose _ _ _ _ _ _ L hL (by omega) ?_
              have : l * sz + (cap' - l) * sz = cap' * sz := by rw [← Nat.add_mul]; congr 1; omega
              omega
        · have hm2 : mx.isSome = true := by rw [← hsome, hm]
          rw [hm2] at h
          simp only [if_true] at h
          rw [hm] at e
          simp only [if_true] at e
          by_cases hml : m₁ = l
          · simp only [hml, if_true] at h
            simp at h; subst h
            have h0 : h' - l = 0 := by omega
            refine ⟨.slice (some ⟨L.block, L.base + off, none⟩) (h' - l) (m₁ - l), ?_, ?_⟩
            · simp [Instr.sliceAt, run_und hu, Instr.slice, e, run_sizeOf' hsz, hml]
            · rw [h0]; exact .loose0 _ _ _ _ _ L hL (by rw [hml]; simp; omega)
          · simp only [hml, if_false] at h
            simp at h; subst h
            refine ⟨.slice (some ⟨L.block, L.base + (off + l * sz), none⟩) (h' - l) (m₁ - l), ?_, .slc _ _ _ _ _ hL⟩
            simp [Instr.sliceAt, run_und hu, Instr.slice, e, run_sizeOf' hsz, hml, Addr.add_none, Nat.add_assoc]
      | loose0 _ _ _ o' cap' L hL htot =>
        obtain ⟨e, g1, g2, _⟩ := boundsD_run (P := P) (w := w) (Nat.zero_le cap') hb' true
        have z1 : m₁ = 0 := by omega
        have z2 : h' = 0 := by omega
        have z3 : l = 0 := by omega
        subst z1 z2 z3
        cases hm : mx'.isSome
        · have hm2 : mx.isSome = false := by rw [← hsome, hm]
          rw [hm2] at h
          simp at h
          subst h
          rw [hm] at e
          simp only [Bool.false_eq_true, if_false] at e
          refine ⟨.slice (some ⟨L.block, o', none⟩) 0 cap', ?_, .loose0 _ _ _ _ _ L hL htot⟩
          simp [Instr.sliceAt, run_und hu, Instr.slice, e, run_sizeOf' hsz, Addr.add_none]
        · have hm2 : mx.isSome = true := by rw [← hsome, hm]
          rw [hm2] at h
          simp at h
          subst h
          rw [hm] at e
          simp only [if_true] at e
          refine ⟨.slice (some ⟨L.block, o', none⟩) 0 0, ?_, .loose0 _ _ _ _ _ L hL (by simp; omega)⟩
          simp [Instr.sliceAt, run_und hu, Instr.slice, e, run_sizeOf' hsz, Addr.add_none]
  · rename_i len elem hu
    split at h <;> try (simp at h; done)
    rename_i b off
    split at h <;> simp at h
    rename_i l h' m₁ sz hb hsz
    subst h
    obtain ⟨L, hL, rfl⟩ := hx.inv_ptr
    have hb' := boundsD_rel h1 h2 h3 hb
    obtain ⟨e, g1, _⟩ := boundsD_run (P := P) (w := w) (Nat.le_refl _) hb' false
    have e2 : (if mx'.isSome = true then m₁ else len) = m₁ := by
      cases hm : mx'.isSome
      · simp [g1 hm]
      · simp
    rw [e2] at e
    by_cases hml : m₁ = l
    · refine ⟨.slice (some ⟨L.block, L.base + off, none⟩) (h' - l) (m₁ - l), ?_, by simp only [hml, if_true]; exact .slc _ _ _ _ _ hL⟩
      simp [Instr.sliceAt, run_und hu, Instr.sureAddr, e, run_sizeOf' hsz, hml]
    · refine ⟨.slice (some ⟨L.block, L.base + (off + l * sz), none⟩) (h' - l) (m₁ - l), ?_, by simp only [hml, if_false]; exact .slc _ _ _ _ _ hL⟩
      simp [Instr.sliceAt, run_und hu, Instr.sureAddr, e, run_sizeOf' hsz, hml, Addr.add_none, Nat.add_assoc]
end
end Go.DI
