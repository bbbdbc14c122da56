/-
  DiMake: values that are built, and blocks that are laid.
-/
import Derived.Test.YtadioopbehiakaaDoorF01
set_option linter.all false
set_option linter.unusedVariables false
set_option linter.unusedSimpArgs false
namespace Go.DI
section
variable {P : Program} {K : TypeId → Bool} {G B0 n : Nat} {ι : Ren} {m : Mem} {w : World} {t : Tmps} {a : Act}
theorem setFold (c : Array Value) (off : Nat) : ∀ (vs : List Value) (k : Nat) (cs : Array Value), off + k + vs.length ≤ cs.size →
    ((vs.zipIdx k).foldl (fun (cs : Array Value) (x : Value × Nat) => cs.setIfInBounds (off + x.2) x.1) cs).toList = splice cs.toList (off + k) vs
  | [], k, cs, h => by simp [splice]
  | v :: vs, k, cs, h => by
    simp only [List.length_cons] at h
    simp only [List.zipIdx_cons, List.foldl_cons]
    rw [setFold c off vs (k + 1) _ (by simp; omega)]
    have e1 : (cs.setIfInBounds (off + k) v).toList = cs.toList.set (off + k) v := by simp
    rw [e1, show off + (k + 1) = (off + k) + 1 from rfl, splice_cons _ _ _ _ (by simp; omega)]
theorem fillD_run {place place' : Nat → Option (Nat × Nat)} (hp : ∀ i r, place i = some r → place' i = some r) : ∀ (parts : List (Nat × Value)) (cells : Array Value) (r : List Value), fillD place cells.toList parts = some r → Instr.fill place' cells parts = some r.toArray
  | [], cells, r, h => by simp [fillD] at h; simp [Instr.fill, ← h]
  | (i, v) :: rest, cells, r, h => by
    simp only [fillD] at h
    split at h <;> try (simp at h; done)
    rename_i off size hpl
    split at h <;> try (simp at h; done)
    rename_i hc
    obtain ⟨h1, h2⟩ := hc
    simp at h1 h2
    have hs := setFold cells off v.cells.toList 0 cells (by simp; omega)
    simp only [Nat.add_zero] at hs
    simp only [Instr.fill, hp _ _ hpl]
    rw [if_neg (by simp; omega)]
    refine fillD_run hp rest _ r ?_
    rw [← h]
    congr 1
    rw [← hs]
    congr 1
    rw [← Array.foldl_toList]
    simp
inductive PRels (ι : Ren) : List (Nat × Value) → List (Nat × Value) → Prop where
  | nil : PRels ι [] []
  | cons {i : Nat} {v v' : Value} {l l' : List (Nat × Value)} (h : VRel ι v v') (t : PRels ι l l') : PRels ι ((i, v) :: l) ((i, v') :: l')
theorem fillD_rel {place : Nat → Option (Nat × Nat)} {ps ps' : List (Nat × Value)} (hp : PRels ι ps ps') : ∀ {cs cs' : List Value}, VRels ι cs cs' → ∀ {r : List Value}, fillD place cs ps = some r → ∃ r', fillD place cs' ps' = some r' ∧ VRels ι r r' := by
  induction hp with
  | nil => intro cs cs' hc r h; simp [fillD] at h; subst h; exact ⟨_, rfl, hc⟩
  | cons hv t ih =>
    intro cs cs' hc r h
    simp only [fillD] at h ⊢
    split at h <;> try (simp at h; done)
    rename_i off size hpl
    split at h <;> try (simp at h; done)
    rename_i hcond
    have e1 := hv.cells.length
    have e2 := hc.length
    rw [if_pos (by omega)]
    exact ih (hc.splice hv.cells off) h
theorem placeS_run {fields : Array Field} (hs : fieldsSized P fields.toList = true) :
    ∃ places : Array (Nat × Nat), (fields.mapM (fun f => (do pure (f.offset, ← Go.sizeOf f.type) : Sem (Nat × Nat)))).run P w = .ok places w ∧ ∀ i r, placeS P fields.toList i = some r → places[i]? = some r := by
  obtain ⟨fl⟩ := fields
  simp only at hs ⊢
  have main : ∀ (fl : List Field), fieldsSized P fl = true → ∃ pl : List (Nat × Nat), (fl.mapM (fun f => (do pure (f.offset, ← Go.sizeOf f.type) : Sem (Nat × Nat)))).run P w = .ok pl w ∧ ∀ i r, placeS P fl i = some r → pl[i]? = some r := by
    intro fl
    induction fl with
    | nil => intro _; exact ⟨[], by simp, by intro i r h; simp [placeS] at h⟩
    | cons f fl ih =>
      intro h
      simp only [fieldsSized, Bool.and_eq_true, Option.isSome_iff_exists] at h
      obtain ⟨⟨sz, hsz⟩, h2⟩ := h
      obtain ⟨pl, h3, h4⟩ := ih h2
      refine ⟨(f.offset, sz) :: pl, ?_, ?_⟩
      · rw [List.mapM_cons]
        simp only [Sem.run_bind, run_sizeOf' hsz, Result.andThen_ok, Sem.run_pure, h3]
      · intro i r hi
        cases i with
        | zero => simp [placeS, hsz] at hi; simp [hi]
        | succ i =>
          have : placeS P fl i = some r := by simpa [placeS] using hi
          simpa using h4 i r this
  obtain ⟨pl, h1, h2⟩ := main fl hs
  refine ⟨pl.toArray, ?_, fun i r h => by simpa using h2 i r h⟩
  rw [Array.mapM_eq_mapM_toList]
  simp only [Sem.run_map, h1, Result.andThen_ok]
theorem buildD_ok {s : TypeId} {ps : List (Nat × Value)} {ps' : Array (Nat × Value)} (hp : PRels ι ps ps'.toList) {v : Value} (h : buildD P s ps = some v) :
    ∃ v', (Instr.build s ps').run P w = .ok v' w ∧ VRel ι v v' := by
  unfold buildD at h
  split at h <;> try (simp at h; done)
  rename_i z hz
  split at h <;> try (simp at h; done)
  rename_i hcz
  have hzr := (constV_rel ι hcz).cells
  split at h <;> try (simp at h; done)
  · rename_i fields hu
    split at h <;> try (simp at h; done)
    rename_i hfs
    split at h <;> simp at h
    rename_i cs hcs
    subst h
    obtain ⟨r', hr', hrr⟩ := fillD_rel hp hzr hcs
    obtain ⟨places, h1, h2⟩ := placeS_run (P := P) (w := w) hfs
    have hf := fillD_run (place' := (places[·]?)) h2 ps'.toList z.cells r' hr'
    refine ⟨.agg r'.toArray, ?_, VRel.agg' hrr⟩
    simp only [Instr.build, Sem.run_bind, run_zero' hz, Result.andThen_ok, run_und hu, h1]
    rw [hf]
    rfl
  · rename_i len elem hu
    split at h <;> try (simp at h; done)
    rename_i sz hsz
    split at h <;> simp at h
    rename_i cs hcs
    subst h
    obtain ⟨r', hr', hrr⟩ := fillD_rel hp hzr hcs
    have hf := fillD_run (place' := fun i => some (i * sz, sz)) (fun i r h => h) ps'.toList z.cells r' hr'
    refine ⟨.agg r'.toArray, ?_, VRel.agg' hrr⟩
    simp only [Instr.build, Sem.run_bind, run_zero' hz, Result.andThen_ok, run_und hu, run_sizeOf' hsz]
    rw [hf]
    rfl
theorem repl_get (z : List Value) (hz : 0 < z.length) : ∀ (k i : Nat), i < k * z.length → (repl z k)[i]? = z[i % z.length]?
  | 0, i, h => by simp at h
  | k + 1, i, h => by
    simp only [repl]
    rw [List.getElem?_append]
    split
    · rename_i hlt; rw [Nat.mod_eq_of_lt hlt]
    · rename_i hge
      rw [repl_get z hz k (i - z.length) (by rw [Nat.add_mul] at h; omega)]
      congr 1
      exact (Nat.mod_eq_sub_mod (by omega)).symm
theorem repl_length (z : List Value) (k : Nat) : (repl z k).length = k * z.length := by
  induction k with
  | zero => simp [repl]
  | succ k ih => simp [repl, ih, Nat.add_mul, Nat.add_comm]
theorem zeros_eq (z : Array Value) (k : Nat) : ((Array.range (k * z.size)).map (fun i => z[i % z.size]!)).toList = repl z.toList k := by
  apply List.ext_getElem?
  intro i
  by_cases hi : i < k * z.size
  · have hz : 0 < z.size := by
      rcases Nat.eq_zero_or_pos z.size with h | h
      · rw [h] at hi; simp at hi
      · exact h
    rw [repl_get z.toList (by simpa using hz) k i (by simpa using hi)]
    have hm : i % z.size < z.size := Nat.mod_lt _ hz
    simp [hi, hm]
  · rw [List.getElem?_eq_none (by simp; omega), List.getElem?_eq_none (by rw [repl_length]; simp; omega)]
theorem Rel.push (hr : Rel B0 G ι m w) (hn : ι m.size = none) {x : Blk} {o : Obj} {k : Nat}
    (hnew : BlkRel B0 (fun b => if b = m.size then some ⟨w.heap.size, 0, k⟩ else ι b) x ⟨w.heap.size, 0, k⟩ (w.alloc o)) :
    Rel B0 G (fun b => if b = m.size then some ⟨w.heap.size, 0, k⟩ else ι b) (m.push x) (w.alloc o) ∧
    Stp ι (fun b => if b = m.size then some ⟨w.heap.size, 0, k⟩ else ι b) m (m.push x) w (w.alloc o) := by
  have hle : ι.le (fun b => if b = m.size then some ⟨w.heap.size, 0, k⟩ else ι b) := by
    intro b L hb
    have : b ≠ m.size := by intro e; rw [e, hn] at hb; cases hb
    simp [this, hb]
  have hold : ∀ B, B < w.heap.size → (w.alloc o).heap[B]? = w.heap[B]? := fun B hB => by
    show (w.heap.push o)[B]? = _
    rw [Array.getElem?_push, if_neg (by omega)]
  refine ⟨⟨fun b L hb hL => ?_, fun b₁ b₂ L₁ L₂ h1 h2 h3 h4 l1 l2 g0 e => ?_, by simp; have := hr.floor; omega, fun g hg => ?_, fun b hb => ?_⟩,
    ⟨hle, fun b hb => ?_, rfl, rfl, rfl, by simp, fun B hB _ => hold B hB, fun b L h1 h2 hL => ?_, by simp, fun b hb ho => ?_⟩⟩
  · rw [Mem.get_push]
    by_cases e : b = m.size
    · subst e; simp at hL; subst hL; simpa using hnew
    · simp only [e, if_false] at hL ⊢
      simp at hb
      exact (hr.blk b L (by omega) hL).monoL hle (fun hl => hold _ (hr.old b L hL hl))
  · simp at h1 h2
    by_cases e1 : b₁ = m.size
    · by_cases e2 : b₂ = m.size
      · omega
      · simp [e1] at h3; simp [e2] at h4; subst h3
        rw [Mem.get_push_ne _ e2] at l2
        have := hr.old _ _ h4 l2
        simp at e; omega
    · by_cases e2 : b₂ = m.size
      · simp [e1] at h3; simp [e2] at h4; subst h4
        rw [Mem.get_push_ne _ e1] at l1
        have := hr.old _ _ h3 l1
        simp at e; omega
      · simp [e1] at h3; simp [e2] at h4
        rw [Mem.get_push_ne _ e1] at l1
        rw [Mem.get_push_ne _ e2] at l2
        exact hr.inj b₁ b₂ L₁ L₂ (by omega) (by omega) h3 h4 l1 l2 g0 e
  · obtain ⟨L, h1, h2⟩ := hr.glob g hg
    exact ⟨L, hle _ _ h1, h2⟩
  · simp at hb; rw [Mem.get_push_ne _ (by omega)]; exact hr.top b (by omega)
  · have : b ≠ m.size := by simp at hb; omega
    simp [this]
  · simp at h2
    have : b = m.size := by omega
    simp [this] at hL; subst hL; exact .inl (Nat.le_refl _)
  · rw [Mem.get_push_ne _ (by omega)] at ho; exact ho
theorem optEv_rel (hr : Rel B0 G ι m w) (h : TRel ι n t a) {x : Option Operand} {v : Option Value} (hx : optEv G t x = some v) : ORel ι v (x.map a.eval) := by
  cases x with
  | none => simp [optEv] at hx; subst hx; trivial
  | some x =>
    simp only [optEv] at hx
    split at hx <;> simp at hx
    rename_i u hu
    subst hx
    exact ev_rel hr h hu
theorem evParts_rel (hr : Rel B0 G ι m w) (h : TRel ι n t a) : ∀ {l : List (Nat × Operand)} {vs : List (Nat × Value)}, evParts G t l = some vs → PRels ι vs (l.map fun x => (x.1, a.eval x.2))
  | [], vs, hx => by simp [evParts] at hx; subst hx; exact .nil
  | (i, x) :: l, vs, hx => by
    simp only [evParts] at hx
    split at hx <;> try (simp at hx; done)
    rename_i v hv
    split at hx <;> simp at hx
    rename_i us hus
    subst hx
    exact .cons (ev_rel hr h hv) (evParts_rel hr h hus)
theorem Made.rel {ι : Ren} {b k B : Nat} (h : ι b = some ⟨B, 0, k⟩) (q : Made) : VRel ι (q.val b) (q.val B) := by
  cases q with
  | ptr => have := VRel.ptr b 0 _ h; simpa [Made.val] using this
  | slc len cap => have := VRel.slc b 0 len cap _ h; simpa [Made.val] using this
  | mp => exact VRel.map b _ h
  | ext => have := VRel.ptr b 0 _ h; simpa [Made.val] using this
theorem cells_new {ι' : Ren} {e : TypeId} {c c' : List Value} (hc : VRels ι' c c') (hf : B0 ≤ w.heap.size) : BlkRel B0 ι' (.cells true c) ⟨w.heap.size, 0, c'.length⟩ (w.alloc (.cells c'.toArray e)) := by
  refine ⟨c'.toArray, e, (0, 0), ?_, by simp, by simp [hc.length], fun i v hv => ?_, fun _ => ⟨hf, fun o _ h => by simp at h⟩⟩
  · show (w.heap.push _)[w.heap.size]? = _
    simp
  · obtain ⟨y, hy, hr⟩ := hc.get hv
    exact ⟨y, by simpa using hy, hr⟩
theorem run_newRow (e : TypeId) (c : Array Value) : (newRow e c).run P w = .ok ⟨w.heap.size, 0, none⟩ (w.alloc (.cells c e)) := by
  simp [newRow]
theorem zerosD_run {e : TypeId} {k : Nat} {zs : List Value} (h : zerosD P e k = some zs) :
    ∃ z size, zeroOf P e = some z ∧ szOf P e = some size ∧ z.cells.size = size ∧ zs = repl z.cells.toList k ∧ constV z = true := by
  unfold zerosD at h
  split at h <;> try (simp at h; done)
  rename_i z size hz hs
  split at h <;> simp at h
  rename_i hc
  exact ⟨z, size, hz, hs, by simpa using hc.2, h.symm, hc.1⟩
theorem repl_const {z : List Value} (h : ∀ x ∈ z, VRel ι x x) (k : Nat) : VRels ι (repl z k) (repl z k) := by
  refine LRel.refl _ ?_
  induction k with
  | zero => intro x hx; simp [repl] at hx
  | succ k ih => intro x hx; simp [repl] at hx; rcases hx with hx | hx; exact h x hx; exact ih x hx
theorem const_cells {z : Value} (h : constV z = true) : ∀ x ∈ z.cells.toList, VRel ι x x := by
  intro x hx
  have := (constV_rel ι h).cells
  obtain ⟨i, hi⟩ := List.getElem?_of_mem hx
  obtain ⟨y, hy, hr⟩ := this.get hi
  rw [hi] at hy
  cases hy
  exact hr
theorem allocD_run (hr : Rel B0 G ι m w) (ht : TRel ι n t a) {o : Oper} {x : Blk} {q : Made} (h : allocD P G t o.op = some (x, q)) :
    ∃ ob k, (execOp a.eval o).run P w = .ok (.value (q.val w.heap.size)) (w.alloc ob) ∧ ∀ ι' : Ren, ι.le ι' → BlkRel B0 ι' x ⟨w.heap.size, 0, k⟩ (w.alloc ob) := by
  have fin : ∀ (c c' : List Value) (e : TypeId) (q : Made), VRels ι c c' → (execOp a.eval o).run P w = .ok (.value (q.val w.heap.size)) (w.alloc (.cells c'.toArray e)) →
      ∃ ob k, (execOp a.eval o).run P w = .ok (.value (q.val w.heap.size)) (w.alloc ob) ∧ ∀ ι' : Ren, ι.le ι' → BlkRel B0 ι' (.cells true c) ⟨w.heap.size, 0, k⟩ (w.alloc ob) :=
    fun c c' e q hc hrun => ⟨_, c'.length, hrun, fun ι' hle => cells_new (VRels.mono hle hc) hr.floor⟩
  have finm : (execOp a.eval o).run P w = .ok (.value (Made.val w.heap.size .mp)) (w.alloc (.map #[] 0)) →
      ∃ ob k, (execOp a.eval o).run P w = .ok (.value (Made.val w.heap.size .mp)) (w.alloc ob) ∧ ∀ ι' : Ren, ι.le ι' → BlkRel B0 ι' (.map true [] 0) ⟨w.heap.size, 0, k⟩ (w.alloc ob) :=
    fun hrun => ⟨_, 0, hrun, fun ι' hle => ⟨#[], by show (w.heap.push _)[w.heap.size]? = _; simp, .nil, fun _ => hr.floor⟩⟩
  cases ho : o.op <;> rw [ho] at h <;> simp only [allocD] at h <;> try (simp at h; done)
  case alloc e =>
    split at h <;> try (simp at h; done)
    rename_i z hz
    split at h <;> simp at h
    rename_i hcz
    obtain ⟨rfl, rfl⟩ := h
    refine fin _ _ e .ptr (constV_rel ι hcz).cells ?_
    simp [execOp, ho, Instr.alloc, run_zero' hz, newVar, run_newRow, Made.val]
  case box e x =>
    split at h <;> simp at h
    rename_i v hv
    obtain ⟨rfl, rfl⟩ := h
    refine fin _ _ e .ptr (ev_rel hr ht hv).cells ?_
    simp [execOp, ho, Instr.box, newVar, run_newRow, Made.val]
  case buildSlice ty len parts =>
    split at h <;> try (simp at h; done)
    rename_i e hu
    split at h <;> try (simp at h; done)
    rename_i size hs
    split at h <;> try (simp at h; done)
    rename_i hle'
    split at h <;> try (simp at h; done)
    rename_i zs ps hzs hps
    split at h <;> simp at h
    rename_i cs hcs
    obtain ⟨rfl, rfl⟩ := h
    obtain ⟨z, sz, hz, hs', hsz, rfl, hcz⟩ := zerosD_run hzs
    rw [hs] at hs'; cases hs'
    have hprel := evParts_rel hr ht hps
    obtain ⟨r', hr', hrr⟩ := fillD_rel hprel (repl_const (const_cells (ι := ι) hcz) len) hcs
    refine fin _ r' e (.slc len len) hrr ?_
    have hz0 : ((Array.range (len * size)).map (fun i => z.cells[i % z.cells.size]!)).toList = repl z.cells.toList len := by rw [← hsz]; exact zeros_eq z.cells len
    have hz1 : ∀ zz : Array Value, (len * size = 0 → zz = #[]) → (len * size ≠ 0 → zz = z.cells) → ((Array.range (len * size)).map (fun i => zz[i % zz.size]!)) = (repl z.cells.toList len).toArray := by
      intro zz g1 g2
      apply Array.ext'
      by_cases h0 : len * size = 0
      · rw [← hz0, h0]; simp
      · rw [g2 h0, hz0]
    have hf := fillD_run (place' := fun i => some (i * size, size)) (fun i r h => h) (parts.map fun x => (x.1, a.eval x.2)).toList (repl z.cells.toList len).toArray r' (by simpa using hr')
    simp only [execOp, ho, Instr.buildSlice, Sem.run_bind, run_und hu, Result.andThen_ok, run_sizeOf' hs]
    rw [if_neg (by simp; omega)]
    by_cases h0 : len * size = 0
    · have hq := hz1 #[] (fun _ => rfl) (fun h => absurd h0 h)
      simp only [h0, if_true, Sem.run_bind, Sem.run_pure, Result.andThen_ok]
      rw [h0] at hq
      rw [hq]
      simp only [hf]
      simp [run_newRow, Made.val]
    · have hq := hz1 z.cells (fun h => absurd h h0) (fun _ => rfl)
      simp only [h0, if_false, Sem.run_bind, Sem.run_pure, run_zero' hz, Result.andThen_ok]
      rw [hq]
      simp only [hf]
      simp [run_newRow, Made.val]
  case makeSlice ty l c =>
    split at h <;> try (simp at h; done)
    rename_i e hu
    split at h <;> try (simp at h; done)
    rename_i l c bytes hl hc hby
    split at h <;> try (simp at h; done)
    rename_i hcond
    split at h <;> simp at h
    rename_i zs hzs
    obtain ⟨rfl, rfl⟩ := h
    obtain ⟨z, sz, hz, hs', hsz, rfl, hcz⟩ := zerosD_run hzs
    obtain ⟨i, hi, hib⟩ := run_typeInfo_bytes (w := w) hby
    have el := (ev_rel hr ht hl).inv_int
    have ec := (ev_rel hr ht hc).inv_int
    obtain ⟨g1, g2, g3, g4⟩ := hcond
    refine fin _ _ e (.slc l.toNat c.toNat) (repl_const (const_cells (ι := ι) hcz) c.toNat) ?_
    have wl : IntKind.i64.wrap l = l := by simp [IntKind.wrap, IntKind.signed, IntKind.bits]; omega
    have wc : IntKind.i64.wrap c = c := by simp [IntKind.wrap, IntKind.signed, IntKind.bits]; omega
    have hz0 : ((Array.range (c.toNat * sz)).map (fun i => z.cells[i % z.cells.size]!)).toList = repl z.cells.toList c.toNat := by rw [← hsz]; exact zeros_eq z.cells c.toNat
    simp only [execOp, ho, Instr.makeSlice, Sem.run_bind, run_und hu, Result.andThen_ok, el, ec, asInt, asIntOf, Sem.run_pure, hi, hib, wl, wc]
    have t1 : (decide (c < 0) || decide ((bytes : Int) * c > 2 ^ 48)) = false := by simp; omega
    rw [if_neg (by simp [t1]; omega)]
    simp only [run_askRoom, Sem.run_bind, Result.andThen_ok, run_sizeOf' hs']
    by_cases h0 : c.toNat * sz = 0
    · simp only [h0, if_true, Sem.run_pure, Result.andThen_ok]
      have : repl z.cells.toList c.toNat = [] := by rw [← hz0, h0]; simp
      rw [this]
      have hz2 : Array.map (fun _ : Nat => (default : Value)) (Array.range 0) = #[] := Array.ext' (by simp)
      simp [run_newRow, Made.val, hz2]
    · simp only [h0, if_false, Sem.run_bind, run_zero' hz, Result.andThen_ok, Sem.run_pure]
      have : ((Array.range (c.toNat * sz)).map (fun i => z.cells[i % z.cells.size]!)) = (repl z.cells.toList c.toNat).toArray := Array.ext' (by rw [hz0])
      rw [this]
      simp [run_newRow, Made.val]
  case makeMap ty r =>
    split at h
    · simp at h
      obtain ⟨rfl, rfl⟩ := h
      exact finm (by simp [execOp, ho, Instr.makeMap, Made.val])
    · rename_i x
      split at h <;> simp at h
      rename_i kt et k q hu hq
      obtain ⟨rfl, rfl⟩ := h
      have eq := (ev_rel hr ht hq).inv_int
      exact finm (by simp [execOp, ho, Instr.makeMap, Made.val, run_und hu, eq, asInt, asIntOf])
theorem allocD_ok (hr : Rel B0 G ι m w) (ht : TRel ι n t a) (hn : ι m.size = none) {o : Oper} {x : Blk} {q : Made} (h : allocD P G t o.op = some (x, q)) :
    ∃ ι' v' w', (execOp a.eval o).run P w = .ok (.value v') w' ∧ VRel ι' (q.val m.size) v' ∧ Rel B0 G ι' (m.push x) w' ∧ Stp ι ι' m (m.push x) w w' := by
  obtain ⟨ob, k, hrun, hb⟩ := allocD_run hr ht h
  have hle : ι.le (fun b => if b = m.size then some ⟨w.heap.size, 0, k⟩ else ι b) := by
    intro b L hb
    have : b ≠ m.size := by intro e; rw [e, hn] at hb; cases hb
    simp [this, hb]
  have hp := Rel.push (k := k) (x := x) (o := ob) hr hn (hb _ hle)
  exact ⟨_, _, _, hrun, Made.rel (B := w.heap.size) (k := k) (by simp) q, hp.1, hp.2⟩
end
end Go.DI
