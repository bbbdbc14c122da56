/-
  DiMaps: looking into maps, and writing into them.
-/
import Derived.Test.YtapmpddneoghfaaDiMem
namespace Go.DI
section
variable {P : Program} {K : TypeId → Bool} {G B0 n : Nat} {ι : Ren} {m : Mem} {w : World} {t : Tmps} {a : Act}

theorem run_keyOkF {em : Bool} {d' : Nat} {cs : Array Value} {h : TypeId → Value → Bool} (ih : ∀ (t : TypeId) (v : Value), h t v = true → (Instr.checkKey em d' t v).run P w = .ok () w) :
    ∀ (fs : List Field), keyOkF (fun t o => part P t cs.toList o) h fs = true →
      (forIn fs PUnit.unit fun f r => (if f.name ≠ "_" then (do let a ← Go.part f.type cs f.offset; Instr.checkKey em d' f.type a; pure (ForInStep.yield PUnit.unit)) else pure (ForInStep.yield PUnit.unit) : Sem (ForInStep PUnit))).run P w = .ok PUnit.unit w
  | [], _ => by simp
  | f :: fs, hk => by
    simp only [keyOkF, Bool.and_eq_true] at hk
    obtain ⟨h1, h2⟩ := hk
    have ih2 := run_keyOkF ih fs h2
    split at h1 <;> try (simp at h1; done)
    rename_i v hv
    simp only [List.forIn_cons, Sem.run_bind]
    by_cases hn : f.name = "_"
    · simp only [hn, ne_eq, not_true_eq_false, if_false, Sem.run_pure, Result.andThen_ok]
      exact ih2
    · simp only [ne_eq, hn, not_false_eq_true, if_true, Sem.run_bind, run_part hv, Result.andThen_ok, ih _ _ h1, Sem.run_pure]
      exact ih2

theorem run_keyOkL {em : Bool} {d' k : Nat} {cs : Array Value} {e : TypeId} {h : TypeId → Value → Bool} (hs : szOf P e = some k) (ih : ∀ (t : TypeId) (v : Value), h t v = true → (Instr.checkKey em d' t v).run P w = .ok () w) :
    ∀ (len i : Nat), keyOkL (fun i => match part P e cs.toList (i * k) with | some u => h e u | none => false) len i = true →
      (forIn (List.range' i len) PUnit.unit fun i r => (do let s ← Go.sizeOf e; let a ← Go.part e cs (i * s); Instr.checkKey em d' e a; pure (ForInStep.yield PUnit.unit) : Sem (ForInStep PUnit))).run P w = .ok PUnit.unit w
  | 0, i, _ => by simp
  | len + 1, i, hk => by
    simp only [keyOkL, Bool.and_eq_true] at hk
    obtain ⟨h1, h2⟩ := hk
    have ih2 := run_keyOkL hs ih len (i + 1) h2
    split at h1 <;> try (simp at h1; done)
    rename_i v hv
    rw [List.range'_succ]
    simp only [List.forIn_cons, Sem.run_bind, run_sizeOf' hs, Result.andThen_ok, run_part hv, ih _ _ h1, Sem.run_pure]
    exact ih2

theorem run_keyOk (em : Bool) : ∀ (d : Nat) (t : TypeId) (v : Value), keyOk P d t v = true → ∀ d', d ≤ d' → (Instr.checkKey em d' t v).run P w = .ok () w
  | 0, t, v, h, d', hd => by simp [keyOk] at h
  | d + 1, t, v, h, d', hd => by
    obtain ⟨d', rfl⟩ : ∃ k, d' = k + 1 := ⟨d' - 1, by omega⟩
    have hd' : d ≤ d' := by omega
    unfold keyOk at h
    split at h
    · simp at h
    · rename_i len elem hu
      split at h <;> try (simp at h; done)
      rename_i cs
      split at h <;> try (simp at h; done)
      rename_i k hk
      simp only [Instr.checkKey, Sem.run_bind, run_und hu, Result.andThen_ok]
      simp only [Std.Legacy.Range.forIn_eq_forIn_range', Std.Legacy.Range.size, Nat.sub_zero, Nat.add_one_sub_one, Nat.div_one]
      have := run_keyOkL (em := em) (d' := d') (cs := cs) (h := keyOk P d) (w := w) hk (fun t v h => run_keyOk em d t v h d' hd') len 0 h
      simp at this ⊢
      rw [this]
      rfl
    · rename_i fields hu
      split at h <;> try (simp at h; done)
      rename_i cs
      simp only [Instr.checkKey, Sem.run_bind, run_und hu, Result.andThen_ok]
      rw [← Array.forIn_toList]
      have := run_keyOkF (em := em) (d' := d') (cs := cs) (h := keyOk P d) (w := w) (fun t v h => run_keyOk em d t v h d' hd') fields.toList h
      simp at this ⊢
      rw [this]
      rfl
    · rename_i dd hi hA hS hu
      simp only [Instr.checkKey, Sem.run_bind, run_und hu, Result.andThen_ok]
      cases dd <;> first | rfl | exact absurd rfl (hi _) | exact absurd rfl (hA _ _) | exact absurd rfl (hS _)
    · simp at h

theorem keyOkF_rel {g g' : TypeId → Nat → Option Value} {h : TypeId → Value → Bool} (hg : ∀ (t : TypeId) (o : Nat) (v : Value), g t o = some v → ∃ v', g' t o = some v' ∧ VRel ι v v')
    (hh : ∀ (t : TypeId) (v v' : Value), VRel ι v v' → h t v = true → h t v' = true) : ∀ (fs : List Field), keyOkF g h fs = true → keyOkF g' h fs = true
  | [], _ => rfl
  | f :: fs, hk => by
    simp only [keyOkF, Bool.and_eq_true] at hk ⊢
    obtain ⟨h1, h2⟩ := hk
    refine ⟨?_, keyOkF_rel hg hh fs h2⟩
    split at h1 <;> try (simp at h1; done)
    rename_i v hv
    obtain ⟨v', hv', hr⟩ := hg _ _ _ hv
    simp only [hv']
    exact hh _ _ _ hr h1

theorem keyOkL_rel {f f' : Nat → Bool} (hf : ∀ i, f i = true → f' i = true) : ∀ (n i : Nat), keyOkL f n i = true → keyOkL f' n i = true
  | 0, _, _ => rfl
  | n + 1, i, h => by
    simp only [keyOkL, Bool.and_eq_true] at h ⊢
    exact ⟨hf _ h.1, keyOkL_rel hf n (i + 1) h.2⟩

theorem keyOk_rel : ∀ (d : Nat) (t : TypeId) (v v' : Value), VRel ι v v' → keyOk P d t v = true → keyOk P d t v' = true
  | 0, t, v, v', hr, h => by simp [keyOk] at h
  | d + 1, t, v, v', hr, h => by
    unfold keyOk at h ⊢
    split at h
    · simp at h
    · split at h <;> try (simp at h; done)
      rename_i cs
      split at h <;> try (simp at h; done)
      obtain ⟨cs', rfl, hcs⟩ := hr.inv_agg
      refine keyOkL_rel (fun i hi => ?_) _ _ h
      split at hi <;> try (simp at hi; done)
      rename_i u hu
      obtain ⟨u', hu', hru⟩ := part_rel hcs hu
      simp only [hu']
      exact keyOk_rel d _ _ _ hru hi
    · split at h <;> try (simp at h; done)
      rename_i cs
      obtain ⟨cs', rfl, hcs⟩ := hr.inv_agg
      exact keyOkF_rel (fun t o v hv => part_rel hcs hv) (fun t v v' hr h => keyOk_rel d t v v' hr h) _ h
    · rfl
    · simp at h

theorem findNow_eq (hK : Plain P K) {kt : TypeId} {kd : TypeDesc} (hu : P.underlying kt = some kd) {k : Value} : ∀ (es : List MapEntry) (i : Nat) (r r' : Option (Nat × Value)),
    findD P K kt k es i = some r → Instr.findNow kd k es i = some r' → r = r'
  | [], i, r, r', h, h' => by simp [findD] at h; simp [Instr.findNow] at h'; rw [← h, ← h']
  | e :: es, i, r, r', h, h' => by
    simp only [findD] at h
    simp only [Instr.findNow] at h'
    have hsame : ∀ b b', feq P K 100 kt k e.key = some b → Instr.sameNow kd k e.key = some b' → b = b' := by
      intro b b' h1 h2
      rw [show (100 : Nat) = 99 + 1 from rfl] at h1
      unfold feq at h1
      rw [hu] at h1
      unfold Instr.sameNow at h2
      split at h2
      · simp only [] at h1
        split at h1 <;> try (simp at h1; done)
        split at h2 <;> simp_all
      · simp_all
      · simp_all
      · simp at h2
    split at h' <;> try (simp at h'; done)
    · rename_i hs
      split at h <;> try (simp at h; done)
      · simp at h h'; rw [← h, ← h']
      · rename_i hf; exact absurd (hsame _ _ hf hs) (by simp)
    · rename_i hs
      split at h <;> try (simp at h; done)
      · rename_i hf; exact absurd (hsame _ _ hf hs) (by simp)
      · exact findNow_eq hK hu es (i + 1) r r' h h'

theorem run_findAsking (hK : Plain P K) {kt : TypeId} {k : Value} : ∀ (es : List MapEntry) (i : Nat) (r : Option (Nat × Value)), findD P K kt k es i = some r → (Instr.findAsking kt k es i).run P w = .ok r w
  | [], i, r, h => by simp [findD] at h; subst h; simp [Instr.findAsking]
  | e :: es, i, r, h => by
    simp only [findD] at h
    split at h
    · rename_i hf
      have := run_feq (w := w) hK 100 kt k e.key true hf Op.maxDepth (by decide)
      simp at h; subst h
      simp [Instr.findAsking, Op.equal, this]
    · rename_i hf
      have := run_feq (w := w) hK 100 kt k e.key false hf Op.maxDepth (by decide)
      simp only [Instr.findAsking, Op.equal, Sem.run_bind, this, Result.andThen_ok, Bool.false_eq_true, if_false]
      exact run_findAsking hK es (i + 1) r h
    · simp at h

theorem run_findKey (hK : Plain P K) {kt : TypeId} {kd : TypeDesc} (hu : P.underlying kt = some kd) {k : Value} {es : List MapEntry} {r : Option (Nat × Value)} (h : findD P K kt k es 0 = some r) :
    (Instr.findKey kt k es).run P w = .ok r w := by
  simp only [Instr.findKey, Sem.run_bind, run_und hu, Result.andThen_ok]
  split
  · rename_i r' h'
    rw [findNow_eq hK hu es 0 r r' h h']
    rfl
  · exact run_findAsking hK es 0 r h

/-- What a search finds in related entries. -/
def FRel (ι : Ren) : Option (Nat × Value) → Option (Nat × Value) → Prop
  | none, none => True
  | some (i, v), some (j, v') => i = j ∧ VRel ι v v'
  | _, _ => False

theorem findD_rel {kt : TypeId} {k k' : Value} (hk : VRel ι k k') {es es' : List MapEntry} (he : ERels ι es es') : ∀ (i : Nat) (r : Option (Nat × Value)), findD P K kt k es i = some r → ∃ r', findD P K kt k' es' i = some r' ∧ FRel ι r r' := by
  induction he with
  | nil => intro i r h; simp [findD] at h; subst h; exact ⟨none, rfl, trivial⟩
  | cons h0 t ih =>
    intro i r h
    simp only [findD] at h ⊢
    split at h
    · rename_i hf
      rw [feq_rel 100 kt _ _ _ _ _ hk h0.1 hf]
      simp at h; subst h
      exact ⟨_, rfl, rfl, h0.2.1⟩
    · rename_i hf
      rw [feq_rel 100 kt _ _ _ _ _ hk h0.1 hf]
      exact ih _ _ h
    · simp at h

theorem key_desc {kt : TypeId} {d : Nat} {k : Value} (h : keyOk P (d + 1) kt k = true) : ∃ kd, P.underlying kt = some kd := by
  unfold keyOk at h
  cases hu : P.underlying kt with
  | none => simp [hu] at h
  | some kd => exact ⟨kd, rfl⟩

theorem entries_ok (hr : Rel B0 G ι m w) {x x' : Value} (hx : VRel ι x x') {es : List MapEntry} (h : entriesD m x = some es) :
    ∃ es' : Array MapEntry, ERels ι es es'.toList ∧ (x' = .map none ∧ es' = #[] ∨ ∃ r c, x' = .map (some r) ∧ w.heap[r]? = some (.map es' c)) := by
  unfold entriesD at h
  split at h <;> try (simp at h; done)
  · simp at h; subst h; cases hx; exact ⟨#[], .nil, .inl ⟨rfl, rfl⟩⟩
  · rename_i r
    split at h <;> simp at h
    rename_i own es₀ c hg
    subst h
    have hlt := hr.get_lt (b := r) (by rw [hg]; simp)
    cases hx with
    | map _ L hL =>
      have hb := hr.blk r L hlt hL
      rw [hg] at hb
      obtain ⟨res, h1, h2, h3⟩ := hb
      exact ⟨res, h2, .inr ⟨_, _, rfl, h1⟩⟩

theorem lookupD_ok (hK : Plain P K) (hr : Rel B0 G ι m w) {s : TypeId} {x x' k k' v : Value} {ok : Bool} (hx : VRel ι x x') (hk : VRel ι k k') (h : lookupD P K m s x k ok = some v) :
    ∃ v', (Instr.lookup s x' k' ok).run P w = .ok v' w ∧ VRel ι v v' := by
  unfold lookupD at h
  split at h <;> try (simp at h; done)
  rename_i kt et hu
  split at h <;> try (simp at h; done)
  rename_i es hes
  split at h <;> try (simp at h; done)
  rename_i hkey
  obtain ⟨es', he, hcase⟩ := entries_ok hr hx hes
  obtain ⟨kd, hkd⟩ := key_desc hkey
  have hkey' := keyOk_rel 100 kt k k' hk hkey
  have hck := fun em => run_keyOk (P := P) (w := w) em 100 kt k' hkey' 10000 (by decide)
  have hmain : ∀ (r' : Option (Nat × Value)) (v' : Value), findD P K kt k' es'.toList 0 = some r' →
      (match r' with | some (_, u) => v' = cond ok (.tuple #[u, .bool true]) u | none => ∃ z, zeroOf P et = some z ∧ v' = cond ok (.tuple #[z, .bool false]) z) → (Instr.lookup s x' k' ok).run P w = .ok v' w := by
    intro r' v' hf hv
    have hfk := run_findKey (P := P) (w := w) hK hkd hf
    unfold Instr.lookup
    simp only [Sem.run_bind, run_und hu, Result.andThen_ok]
    rcases hcase with ⟨rfl, rfl⟩ | ⟨r, c, rfl, hh⟩
    · simp only [Sem.run_bind, Sem.run_pure, Result.andThen_ok, hck, hfk]
      cases r' with
      | none => obtain ⟨z, hz, rfl⟩ := hv; simp [run_zero' hz]
      | some p => obtain ⟨i, u⟩ := p; simp only [] at hv; subst hv; simp
    · have hgo : (getObj r).run P w = .ok (.map es' c) w := by simp [getObj, Sem.run, hh]
      simp only [Sem.run_bind, Sem.run_pure, Result.andThen_ok, hgo, hck, hfk]
      cases r' with
      | none => obtain ⟨z, hz, rfl⟩ := hv; simp [run_zero' hz]
      | some p => obtain ⟨i, u⟩ := p; simp only [] at hv; subst hv; simp
  split at h <;> try (simp at h; done)
  · rename_i i u hf
    obtain ⟨r', hf', hfr⟩ := findD_rel hk he 0 _ hf
    cases r' with
    | none => simp [FRel] at hfr
    | some p =>
      obtain ⟨j, u'⟩ := p
      simp at h; subst h
      refine ⟨_, hmain _ _ hf' rfl, ?_⟩
      cases ok
      · exact hfr.2
      · exact VRel.tuple' (a := [u, .bool true]) (a' := [u', .bool true]) (.cons hfr.2 (.cons (.bool _) .nil))
  · rename_i hf
    obtain ⟨r', hf', hfr⟩ := findD_rel hk he 0 _ hf
    cases r' with
    | some p => simp [FRel] at hfr
    | none =>
      split at h <;> try (simp at h; done)
      rename_i z hz
      split at h <;> simp at h
      rename_i hcz
      subst h
      refine ⟨_, hmain _ _ hf' ⟨z, hz, rfl⟩, ?_⟩
      cases ok
      · exact constV_rel ι hcz
      · exact VRel.tuple' (a := [z, .bool false]) (a' := [z, .bool false]) (.cons (constV_rel ι hcz) (.cons (.bool _) .nil))

theorem sameBits_rel : ∀ (d : Nat) (x y x' y' : Value), VRel ι x x' → VRel ι y y' → Instr.sameBits d x y = true → Instr.sameBits d x' y' = true := by
  intro d
  induction d with
  | zero =>
    intro x y x' y' hx hy h
    cases hx <;> cases hy <;> simp_all [Instr.sameBits]
  | succ d ih =>
    intro x y x' y' hx hy h
    cases x <;> cases y <;> simp only [Instr.sameBits] at h <;> (try (simp at h; done))
    case bool => cases hx; cases hy; simpa [Instr.sameBits] using h
    case int => cases hx; cases hy; simpa [Instr.sameBits] using h
    case float => cases hx; cases hy; simpa [Instr.sameBits] using h
    case complex => cases hx; cases hy; simpa [Instr.sameBits] using h
    case string => cases hx; cases hy; simpa [Instr.sameBits] using h
    case pointer a b =>
      have hab : a = b := by simpa using h
      subst hab
      cases hx with
      | ptr0 => cases hy; rfl
      | ptr b off L hL =>
        cases hy with
        | ptr _ _ L' hL' => rw [hL] at hL'; cases hL'; simp [Instr.sameBits]
    case chan => cases hx
    case iface => cases hx with | iface t v v' h1 => cases hy with | iface u q q' h2 => simp [Instr.sameBits] at h ⊢; exact ⟨h.1, ih _ _ _ _ h1 h2 h.2⟩
    case nilIface => cases hx; cases hy; rfl
    case agg xs ys =>
      obtain ⟨xs', rfl, hxs⟩ := hx.inv_agg
      obtain ⟨ys', rfl, hys⟩ := hy.inv_agg
      simp only [Instr.sameBits, Bool.and_eq_true, beq_iff_eq] at h ⊢
      have hz : ∀ (a a' b b' : List Value), VRels ι a a' → VRels ι b b' → (a.zip b).all (fun (x, y) => Instr.sameBits d x y) = true → (a'.zip b').all (fun (x, y) => Instr.sameBits d x y) = true := by
        intro a a' b b' ha
        induction ha generalizing b b' with
        | nil => intro hb h; simp
        | cons h0 t ih2 =>
          intro hb h
          cases hb with
          | nil => simp
          | cons h0' t' => simp at h ⊢; exact ⟨ih _ _ _ _ h0 h0' h.1, by simpa using ih2 _ _ t' (by simpa using h.2)⟩
      refine ⟨?_, hz _ _ _ _ hxs hys h.2⟩
      have e1 := hxs.length
      have e2 := hys.length
      simp at e1 e2
      omega

theorem modE_eq (es : List MapEntry) (i : Nat) (k v : Value) : ((⟨es⟩ : Array MapEntry).modify i fun e => { e with key := k, val := v }).toList = modE i k v es := by
  have h : ∀ (es : List MapEntry) (i : Nat), es.modify i (fun e => { e with key := k, val := v }) = modE i k v es := by
    intro es
    induction es with
    | nil => intro i; simp [modE]
    | cons e es ih => intro i; cases i with
      | zero => simp [modE]
      | succ i => simp [modE, ih]
  rw [Array.toList_modify]
  exact h es i

theorem modE_rel {es es' : List MapEntry} (he : ERels ι es es') {k k' v v' : Value} (hk : VRel ι k k') (hv : VRel ι v v') : ∀ i, ERels ι (modE i k v es) (modE i k' v' es') := by
  induction he with
  | nil => intro i; simp only [modE]; exact .nil
  | cons h t ih => intro i; cases i with
    | zero => exact .cons ⟨hk, hv, h.2.2⟩ t
    | succ i => exact .cons h (ih i)

theorem run_setObj {r : Nat} {es : Array MapEntry} {c : Nat} (h : w.heap[r]? = some (.map es c)) (o : Obj) : (setObj r o).run P w = .ok () (setBlk w r o) := by
  simp [setObj, Sem.run, h, setBlk]

theorem mapUpdateD_ok (hK : Plain P K) (hr : Rel B0 G ι m w) {s : TypeId} {x x' k k' v v' : Value} (hx : VRel ι x x') (hk : VRel ι k k') (hv : VRel ι v v') {m' : Mem} (h : mapUpdateD P K m s x k v = some m') :
    ∃ w', (Instr.mapUpdate s x' k' v').run P w = .ok () w' ∧ Rel B0 G ι m' w' ∧ Stp ι ι m m' w w' := by
  unfold mapUpdateD at h
  split at h <;> try (simp at h; done)
  rename_i kt et hu
  split at h <;> try (simp at h; done)
  rename_i r
  split at h <;> try (simp at h; done)
  rename_i es clock hg
  split at h <;> try (simp at h; done)
  rename_i hkey
  have hlt := hr.get_lt (b := r) (by rw [hg]; simp)
  obtain ⟨kd, hkd⟩ := key_desc hkey
  have hkey' := keyOk_rel 100 kt k k' hk hkey
  cases hx with
  | map _ L hL =>
    have hb := hr.blk r L hlt hL
    rw [hg] at hb
    obtain ⟨res, h1, h2, h3⟩ := hb
    have hck := run_keyOk (P := P) (w := w) false 100 kt k' hkey' 10000 (by decide)
    have hgo : (getObj L.block).run P w = .ok (.map res clock) w := by simp [getObj, Sem.run, h1]
    split at h <;> try (simp at h; done)
    · rename_i i u hf
      obtain ⟨r', hf', hfr⟩ := findD_rel hk h2 0 _ hf
      split at h <;> try (simp at h; done)
      rename_i e he
      split at h <;> simp at h
      rename_i hsb
      subst h
      cases r' with
      | none => simp [FRel] at hfr
      | some p =>
        obtain ⟨j, u'⟩ := p
        obtain ⟨rfl, hu'⟩ := hfr
        obtain ⟨e', he', hre⟩ := h2.get he
        have hsb' := sameBits_rel 10000 _ _ _ _ hre.1 hk hsb
        have hfk := run_findKey (P := P) (w := w) hK hkd hf'
        have hks : (Instr.keyThatStays e'.key k').run P w = .ok k' w := by simp [Instr.keyThatStays, hsb']
        have he'' : res[i]? = some e' := by simpa using he'
        refine ⟨setBlk w L.block (.map (res.modify i fun e => { e with key := k', val := v' }) clock), ?_, Rel.set hr hL hlt (by rw [hg]; rfl) ?_ (by rw [hg]; simp [Blk.live]) (by rw [hg]; simp [Blk.own])⟩
        · simp only [Instr.mapUpdate, Sem.run_bind, run_und hu, Result.andThen_ok, hgo, hck, hfk, he'', Option.map_some, Option.getD_some, hks]
          exact run_setObj h1 _
        · refine ⟨_, by rw [setBlk_get _ _ _ _ (lt_of_get h1)]; simp; rfl, ?_, h3⟩
          obtain ⟨rl⟩ := res
          rw [modE_eq]
          exact modE_rel h2 hk hv i
    · rename_i hf
      obtain ⟨r', hf', hfr⟩ := findD_rel hk h2 0 _ hf
      simp at h; subst h
      cases r' with
      | some p => simp [FRel] at hfr
      | none =>
        have hfk := run_findKey (P := P) (w := w) hK hkd hf'
        refine ⟨setBlk w L.block (.map (res.push { key := k', val := v', born := clock }) (clock + 1)), ?_, Rel.set hr hL hlt (by rw [hg]; rfl) ?_ (by rw [hg]; simp [Blk.live]) (by rw [hg]; simp [Blk.own])⟩
        · simp only [Instr.mapUpdate, Sem.run_bind, run_und hu, Result.andThen_ok, hgo, hck, hfk]
          exact run_setObj h1 _
        · refine ⟨_, by rw [setBlk_get _ _ _ _ (lt_of_get h1)]; simp; rfl, ?_, h3⟩
          simp only [Array.toList_push]
          exact h2.append (.cons ⟨hk, hv, rfl⟩ .nil)
end
end Go.DI
