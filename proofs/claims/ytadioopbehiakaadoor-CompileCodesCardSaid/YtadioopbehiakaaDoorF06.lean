/-
  DiDraw4: the whole of a region that draws its order; calls.
-/
import Derived.Test.YtadioopbehiakaaDoorF05
set_option linter.all false
set_option linter.unusedVariables false
set_option linter.unusedSimpArgs false
namespace Go.DI
section
variable {P : Program} {K : TypeId → Bool} {G B0 n : Nat} {cf : CallF} {ops : Array Oper} {t t' : Tmps} {m m' : Mem} {rs : List Rec}
variable {ι0 ι : Ren} {M : Mem} {w0 w : World} {a0 a : Act} {X : Nat → Bool} {s i : Nat} {o : Oper}
theorem Inv.quietVal (R : Reg P K G B0 n cf ops t m rs t' m') (hC : Clo ops X) (hI : Inv P B0 G n ops t m rs m' ι0 w0 a0 X ι M s a w) (ho : ops[i]? = some o) (hr : ∀ e ∈ o.after.toList, Region.binds .any e = true → X e.on = true) (hx : X i = false)
    (hk : klass o.op = 0) {r : Rec} (h1 : rs[i]? = some r) (hq : quietD P K G r.t r.m o.op = some r.v) (hw : r.want = true) (hrm : r.m = mAt rs m' i) :
    quietD P K G r.t (mAt rs m' s) o.op = some r.v := by
  have hi : i < ops.size := (Array.getElem?_eq_some_iff.1 ho).1
  have hL : ops.toList.length = ops.size := by simp
  cases hrd : readsB o.op with
  | false => rw [quietD_pure hrd (mAt rs m' s)] at hq; exact hq
  | true =>
    cases hnx : nextB ops.toList i s with
    | true =>
      simp only [nextB, Bool.and_eq_true, List.all_eq_true, List.mem_range, Bool.or_eq_true, Bool.not_eq_true'] at hnx
      obtain ⟨g1, g2⟩ := hnx
      have his : i ≤ s := Nat.le_of_ble_eq_true g1
      rw [hrm] at hq
      refine quietD_ext (R.run.topAt (by omega)) (R.run.kept his (by have := hI.sN; omega) fun h k1 k2 e => ?_) hq
      rcases g2 h k2 with g | g
      · rw [e] at g; cases g
      · have := blt_iff.1 g; omega
    | false =>
      have hfe : feasB ops.toList (tabD ops.toList []) i s = true := by
        simp only [feasB, Bool.and_eq_true, Bool.or_eq_true, List.all_eq_true, List.mem_range, Bool.not_eq_true']
        refine ⟨?_, fun h hh => ?_⟩
        · rcases Nat.lt_or_ge s ops.size with hlt | hge
          · right
            refine ⟨by rw [(hI.sh hlt).1]; rfl, ?_⟩
            cases hb : befB (tabD ops.toList []) s i with
            | false => rfl
            | true => have := R.ready hC ho hr s hb; rw [(hI.sh hlt).2] at this; cases this
          · left
            have : s = ops.size := by have := hI.sN; omega
            rw [this, hL]; exact Nat.beq_refl _
        · cases hkh : Nat.beq (klassAt ops.toList h) 2 with
          | false => exact .inl rfl
          | true =>
            right
            have hX := hI.sb h hh (Nat.eq_of_beq_eq_true hkh)
            cases hb : befB (tabD ops.toList []) i h with
            | false => rfl
            | true => have := R.closed hC (by have := hI.sN; omega) hX i hb; rw [hx] at this; cases this
      have hmem : (i, s) ∈ need1 ops.toList (tabD ops.toList []) := by
        unfold need1
        refine List.mem_flatMap.2 ⟨i, List.mem_range.2 (by omega), ?_⟩
        simp only [Array.getElem?_toList, ho, hk, hrd]
        rw [show (Nat.beq 0 0 && true) = true from rfl, cond_true]
        refine List.mem_filterMap.2 ⟨s, List.mem_range.2 (by have := hI.sN; omega), ?_⟩
        rw [hfe, hnx]; rfl
      have := List.all_eq_true.1 R.c1 _ hmem
      unfold chk1 at this
      simp only [h1, Array.getElem?_toList, ho, hw, Bool.not_true, Bool.false_or] at this
      split at this
      · rename_i v hv
        rw [hv, veq_eq 8 _ _ this]
      · cases this
theorem Inv.listed (R : Reg P K G B0 n cf ops t m rs t' m') (hI : Inv P B0 G n ops t m rs m' ι0 w0 a0 X ι M s a w) (hall : ∀ i, i < ops.size → X i = true) (ht' : tAt rs t' ops.size = t') :
    After B0 G n ι0 m w0 a0 t' m' a w := by
  have hL : ops.toList.length = ops.size := by simp
  have hs : s = ops.size := by
    rcases Nat.lt_or_ge s ops.size with h | h
    · have := (hI.sh h).2; rw [hall s h] at this; cases this
    · have := hI.sN; omega
  have hlast : mAt rs m' ops.size = m' := by rw [← hL]; exact R.run.last
  have hg : ∀ b, b < m'.size → M.get b = m'.get b := fun b hb => by have := hI.g1 b; rw [hs, hlast] at this; exact this hb
  have htop : m'.top := by rw [← hlast]; exact R.run.topAt (by omega)
  have hms : M.size = m'.size := by rw [hI.msz, hlast]
  have hrel := hI.rel.restrict htop (by omega) hg
  have happ : ∀ k, k ≤ ops.size → appX ops.toList rs t X k = appX ops.toList rs t (fun _ => true) k := by
    intro k
    induction k with
    | zero => intro _; rfl
    | succ k ih => intro hk; simp only [appX]; rw [ih (by omega)]; simp [hall k (by omega)]
  refine ⟨ι, ?_, hrel, ⟨hI.stp.ext, fun b hb => hI.stp.out b (by omega), hI.stp.os, hI.stp.output, hI.stp.tape, hI.stp.hsize, hI.stp.frame, fun b L h1 h2 hb => hI.stp.new b L h1 (by omega) hb, by have := hI.stp.msize; omega, fun b hb ho => hI.stp.ownk b hb ?_⟩, hI.dfr⟩
  · have htr := hI.tr
    rw [happ _ (Nat.le_refl _)] at htr
    have : appX ops.toList rs t (fun _ => true) ops.size = t' := by
      obtain ⟨g1, g2, g3, g4⟩ := recD_get _ _ _ _ _ _ R.run.eq
      have ht : ∀ k, k ≤ ops.size → tAt rs t' k = appX ops.toList rs t (fun _ => true) k := by
        intro k
        induction k with
        | zero => intro _; exact g2
        | succ k ih =>
          intro hk
          have ih := ih (by omega)
          have ho' : ops.toList[k]? = some ops[k] := by rw [Array.getElem?_toList]; exact Array.getElem?_eq_getElem (by omega)
          obtain ⟨r, h1, h2, h3, h4, _⟩ := g4 k _ ho'
          rw [h4]
          simp only [appX, if_true, dstAt, ho', valAt, h1]
          rw [← ih]
          simp only [tAt, h1]
      rw [← ht _ (Nat.le_refl _), ht']
    rw [this] at htr
    exact htr
  · have hsz := hI.stp.msize
    rw [hg b (by omega)]; exact ho
theorem Inv.step (R : Reg P K G B0 n cf ops t m rs t' m') (hC : Clo ops X) (hI : Inv P B0 G n ops t m rs m' ι0 w0 a0 X ι M s a w) (ho : ops[i]? = some o) (hr : ∀ e ∈ o.after.toList, Region.binds .any e = true → X e.on = true) (hx : X i = false)
    {Q : Exit → Act → World → Prop} {k : Act → World → Prop} (hk : ∀ ι' M' s' a' w', Inv P B0 G n ops t m rs m' ι0 w0 a0 (addX X i) ι' M' s' a' w' → k a' w') : wpOp P ops Q i k a w := by
  have hi : i < ops.size := (Array.getElem?_eq_some_iff.1 ho).1
  have hL : ops.toList.length = ops.size := by simp
  obtain ⟨r, h1, h2, h3, h4, h5, h6, h7⟩ := R.run.step (i := i) (o := o) (by simpa using ho)
  have hka : klassAt ops.toList i = klass o.op := by simp [klassAt, ho]
  have hwa : wantAt rs i = r.want := by simp [wantAt, h1]
  have hva : valAt rs i = r.v := by simp [valAt, h1]
  have hwant := Inv.want R hC hI ho hr hx
  have hev := Inv.evs R hC ho hr hx
  rw [← h2] at hev
  have hhere := Inv.here R hI
  have hheavy : klass o.op = 2 → i = s := by
    intro hk2
    rcases Nat.lt_trichotomy i s with hlt | heq | hgt
    · have := hI.sb i hlt (by rw [hka]; exact hk2); rw [hx] at this; cases this
    · exact heq
    · have hsN : s < ops.size := by omega
      have := R.ready hC ho hr s (R.heavy hsN hi (hI.sh hsN).1 (by rw [hka]; exact hk2) hgt)
      rw [(hI.sh hsN).2] at this; cases this
  unfold wpOp
  simp only [ho]
  cases hw : r.want with
  | false =>
    rw [if_neg (by rw [hwant, hwa, hw]; simp)]
    have hvu : valAt rs i = undef := by rw [hva]; exact (h7 hw).1
    by_cases hk2 : klass o.op = 2
    · obtain rfl := hheavy hk2
      have hmm : mAt rs m' (i + 1) = mAt rs m' i := by rw [(h7 hw).2, h3]
      obtain ⟨M', s', hI'⟩ := Inv.advance R hC hI ho hx (ι' := ι) (w' := w) (v' := undef) (by rw [hmm]; exact hhere) (by rw [hmm]; exact Stp.refl _ _ _) (by rw [hvu]; exact VRel.undef _)
      exact hk _ _ _ _ _ hI'
    · exact hk _ _ _ _ _ (Inv.quiet R hC hI ho hx (by rw [hka]; exact hk2) (fun _ => by rw [hwa, hw]) (by rw [hvu]; exact VRel.undef _))
  | true =>
    rw [if_pos (by rw [hwant, hwa, hw])]
    refine .inl ?_
    have h8 := h6 hw
    unfold opD at h8
    rcases klass_cases o.op with hc | hc | hc
    · rw [hc] at h8
      simp only at h8
      split at h8 <;> simp at h8
      rename_i v hv
      have hv' : quietD P K G r.t r.m o.op = some r.v := by rw [hv, h8.1]
      have hq := Inv.quietVal R hC hI ho hr hx hc h1 hv' hw h3
      rw [← quietD_congr (m := mAt rs m' s) hev] at hq
      obtain ⟨v', g1, g2⟩ := quiet_ok R.hK hhere hI.tr hq
      unfold Oper.wp
      rw [g1]
      exact hk _ _ _ _ _ (Inv.quiet R hC hI ho hx (by rw [hka, hc]; decide) (fun e => by rw [hka, hc] at e; cases e) (by rw [hva]; exact g2))
    · rw [hc] at h8
      simp only at h8
      split at h8 <;> simp at h8
      rename_i x q hxq
      rw [← allocD_congr hev] at hxq
      obtain ⟨ob, kk, g1, g2⟩ := allocD_run (P := P) hI.rel hI.tr hxq
      obtain ⟨ι', M', hI'⟩ := Inv.alloc R hC hI ho hx (by rw [hka]; exact hc) (x := x) (q := q) (by rw [hva, ← h8.1, h3]) (by rw [← h8.2, h3]) (by rw [hwa, hw]) g2
      unfold Oper.wp
      rw [g1]
      exact hk _ _ _ _ _ hI'
    · obtain rfl := hheavy hc
      rw [hc] at h8
      simp only at h8
      rw [← heavyD_congr (cf := cf) (m := r.m) hev, h3] at h8
      refine heavy_wp R.hK R.hcf hhere hI.tr h8 (fun b q1 q2 => hI.jn i hi hx b q1 q2) fun ι' v' w' g1 g2 g3 => ?_
      obtain ⟨M', s', hI'⟩ := Inv.advance R hC hI ho hx g2 g3 (by rw [hva]; exact g1)
      exact hk _ _ _ _ _ hI'
theorem count_set {l : List Bool} {i : Nat} (h : l[i]? = some false) : (l.set i true).count false + 1 = l.count false := by
  induction l generalizing i with
  | nil => simp at h
  | cons b l ih =>
    cases i with
    | zero => simp at h; subst h; simp
    | succ i =>
      simp at h
      have := ih h
      simp only [List.set_cons_succ, List.count_cons]
      omega
theorem region_any (R : Reg P K G B0 n cf ops t m rs t' m') (ht' : tAt rs t' ops.size = t') {Q : Exit → Act → World → Prop} (hQ : ∀ a' w', After B0 G n ι0 m w0 a0 t' m' a' w' → Q .normal a' w') :
    ∀ (fuel : Nat) (listed : Array Bool) (ι : Ren) (M : Mem) (s : Nat) (a : Act) (w : World), listed.size = ops.size → listed.toList.count false = fuel → Clo ops (fun k => listed.getD k false) →
      Inv P B0 G n ops t m rs m' ι0 w0 a0 (fun k => listed.getD k false) ι M s a w → wpAny P .any ops Q fuel listed a w := by
  intro fuel
  have hL : ops.toList.length = ops.size := by simp
  have hdone : ∀ (listed : Array Bool), listed.size = ops.size → Region.ready .any ops listed = [] → ∀ i, i < ops.size → listed.getD i false = true := by
    intro listed hsz hrd i
    induction i using Nat.strongRecOn with
    | _ i ih =>
      intro hi
      cases hl : listed.getD i false with
      | true => rfl
      | false =>
        exfalso
        have : i ∈ Region.ready .any ops listed := by
          rw [mem_ready]
          refine ⟨?_, ops[i], Array.getElem?_eq_getElem hi, fun e he hb => ?_⟩
          · have hi' : i < listed.size := by omega
            simp [hi'] at hl ⊢; exact hl
          · have hlt := edgesB_spec ops.toList 0 R.edges i ops[i] (by rw [Array.getElem?_toList]; exact Array.getElem?_eq_getElem hi) e (by simpa using he) hb
            exact ih e.on (by omega) (by omega)
        rw [hrd] at this
        cases this
  have hstep : ∀ (fuel : Nat) (listed : Array Bool) (ι : Ren) (M : Mem) (s : Nat) (a : Act) (w : World), listed.size = ops.size → listed.toList.count false = fuel + 1 → Clo ops (fun k => listed.getD k false) →
      Inv P B0 G n ops t m rs m' ι0 w0 a0 (fun k => listed.getD k false) ι M s a w →
      (∀ (listed : Array Bool) (ι : Ren) (M : Mem) (s : Nat) (a : Act) (w : World), listed.size = ops.size → listed.toList.count false = fuel → Clo ops (fun k => listed.getD k false) →
        Inv P B0 G n ops t m rs m' ι0 w0 a0 (fun k => listed.getD k false) ι M s a w → wpAny P .any ops Q fuel listed a w) →
      ∀ i ∈ Region.ready .any ops listed, wpOp P ops Q i (wpAny P .any ops Q fuel (listed.setIfInBounds i true)) a w := by
    intro fuel listed ι M s a w hsz hcnt hC hI ih i hi
    rw [mem_ready] at hi
    obtain ⟨h0, o, ho, hall⟩ := hi
    have hiN : i < ops.size := (Array.getElem?_eq_some_iff.1 ho).1
    have hil : i < listed.size := by omega
    have hxf : listed.getD i false = false := by simp [hil] at h0 ⊢; exact h0
    refine Inv.step R hC hI ho (fun e he hb => hall e (by simpa using he) hb) hxf fun ι' M' s' a' w' hI' => ?_
    have hXe : (fun k => (listed.setIfInBounds i true).getD k false) = addX (fun k => listed.getD k false) i := by
      funext k
      unfold addX
      by_cases e : k = i
      · subst e; simp [hil]
      · simp only [e, if_false]
        rw [getD_set_ne false (Ne.symm e)]
    refine ih _ ι' M' s' a' w' (by simp [hsz]) ?_ ?_ (by rw [hXe]; exact hI')
    · have hlf : listed.toList[i]? = some false := by
        rw [Array.getElem?_toList, Array.getElem?_eq_getElem hil]
        simp [hil] at hxf
        rw [hxf]
      have := count_set hlf
      have e1 : (listed.setIfInBounds i true).toList = listed.toList.set i true := by simp
      rw [e1]; omega
    · intro j oj hj hxj e he hb
      by_cases hji : j = i
      · subst hji
        have : oj = o := by
          rw [Array.getElem?_toList, ho] at hj
          exact (Option.some.inj hj).symm
        subst this
        exact getD_set_true (hall e (by simpa using he) hb)
      · refine getD_set_true (hC j oj hj ?_ e he hb)
        have hxj2 : (listed.setIfInBounds i true).getD j false = true := hxj
        rw [getD_set_ne false (Ne.symm hji)] at hxj2
        exact hxj2
  induction fuel with
  | zero =>
    intro listed ι M s a w hsz hcnt hC hI
    have hall : ∀ i, i < ops.size → listed.getD i false = true := by
      intro i hi
      cases hl : listed.getD i false with
      | true => rfl
      | false =>
        exfalso
        have hil : i < listed.size := by omega
        have : false ∈ listed.toList := by
          simp [hil] at hl
          rw [← hl]
          exact Array.getElem_mem_toList hil
        have := List.count_pos_iff.2 this
        omega
    refine ⟨?_, hQ a w (Inv.listed R hI hall ht')⟩
    cases hrd : Region.ready .any ops listed with
    | nil => rfl
    | cons i l =>
      exfalso
      have hi : i ∈ Region.ready .any ops listed := by rw [hrd]; simp
      rw [mem_ready] at hi
      obtain ⟨h0, o, ho, _⟩ := hi
      have hiN : i < ops.size := (Array.getElem?_eq_some_iff.1 ho).1
      have hil : i < listed.size := by omega
      have := hall i hiN
      simp [hil] at h0 this
      rw [h0] at this; cases this
  | succ fuel ih =>
    intro listed ι M s a w hsz hcnt hC hI
    exact ⟨fun hrd => hQ a w (Inv.listed R hI (hdone listed hsz hrd) ht'), hstep fuel listed ι M s a w hsz hcnt hC hI ih⟩
theorem draw_wp (hmix : P.follows .mixedOrders = true) (hK : Plain P K) (hcf : CfOK P B0 G cf) (hg : CfGrw cf) {id : Nat} {Q : Exit → Act → World → Prop} (h : drawD P K G cf n ops.toList t m = some (t', m')) (hr : Rel B0 G ι m w) (ht : TRel ι n t a) (hf : Fresh ι m.size m'.size)
    (hQ : ∀ a' w', After B0 G n ι m w a t' m' a' w' → Q .normal a' w') : (Code.region id ops true).wp P Q a w := by
  unfold drawD at h
  split at h <;> try (simp at h; done)
  rename_i hstat
  split at h <;> try (simp at h; done)
  rename_i rs t₁ m₁ hrec
  split at h <;> try (simp at h; done)
  rename_i hc1
  split at h <;> simp at h
  rename_i hc2
  obtain ⟨rfl, rfl⟩ := h
  have hL : ops.toList.length = ops.size := by simp
  have R : Reg P K G B0 n cf ops t m rs t₁ m₁ := ⟨hK, hcf, ⟨hrec, hg, hr.top⟩, hstat, hc1, hc2⟩
  have hlast : mAt rs m₁ ops.size = m₁ := by rw [← hL]; exact R.run.last
  have htl : tAt rs t₁ ops.size = t₁ := by unfold tAt; rw [List.getElem?_eq_none (by rw [R.run.len]; omega)]
  refine wp_region_any hmix ?_
  have hrd := hr.drew
  obtain ⟨s, hs1, hs2, hs3, hs4⟩ := next_heavy ops.toList ops.size 0 (by omega)
  have hkept := R.run.kept (i := 0) (j := s) (by omega) hs2 (fun h _ g2 => hs4 h (by omega) g2)
  rw [R.run.zero] at hkept
  have z1 := (R.run.mono (i := 0) (j := s) (by omega) hs2).size
  have z2 := (R.run.mono (i := s) (j := ops.size) (by omega) (by omega)).size
  rw [R.run.zero] at z1
  rw [hlast] at z2
  let M : Mem := ⟨fun b => if b < (mAt rs m₁ s).size then (mAt rs m₁ s).get b else .none, .nil, m₁.size⟩
  have hgM : ∀ b, M.get b = if b < (mAt rs m₁ s).size then (mAt rs m₁ s).get b else .none := fun b => by simp [M, Mem.get, Tr.get_nil]
  have hlow : ∀ b L, b < m₁.size → ι b = some L → b < m.size := by
    intro b L h1 h2
    rcases Nat.lt_or_ge b m.size with h3 | h3
    · exact h3
    · rw [hf b h3 h1] at h2; cases h2
  have hgl : ∀ b, b < m.size → M.get b = m.get b := fun b hb => by rw [hgM, if_pos (by omega)]; exact hkept b hb
  have hrelM : Rel B0 G ι M w.drew := by
    refine ⟨fun b L hb hL => ?_, fun b₁ b₂ L₁ L₂ h1 h2 h3 h4 l1 l2 g0 e => ?_, hrd.1.floor, hrd.1.glob, fun b hb => ?_⟩
    · have := hlow b L hb hL
      rw [hgl b this]; exact hrd.1.blk b L this hL
    · have q1 := hlow b₁ L₁ h1 h3
      have q2 := hlow b₂ L₂ h2 h4
      rw [hgl b₁ q1] at l1
      rw [hgl b₂ q2] at l2
      exact hrd.1.inj b₁ b₂ L₁ L₂ q1 q2 h3 h4 l1 l2 g0 e
    · have hb' : m₁.size ≤ b := hb
      rw [hgM]; split
      · omega
      · rfl
  have hdr : ({ w with drawn := w.drawn + 1 } : World) = w.drew := rfl
  rw [hdr]
  have hX0 : ∀ k, (Array.replicate ops.size false).getD k false = false := fun k => by
    rcases Nat.lt_or_ge k ops.size with h | h
    · simp [h]
    · simp [h]
  refine region_any (ι0 := ι) (w0 := w.drew) (a0 := a) R htl (fun a' w' ha => hQ a' w' (After.trans hrd.2 rfl ha)) ops.size (Array.replicate ops.size false) ι M s a w.drew (by simp) (by simp) ?_ ?_
  · intro j o _ hx
    have hx2 : (Array.replicate ops.size false).getD j false = true := hx
    rw [hX0 j] at hx2
    cases hx2
  · have happ : appX ops.toList rs t (fun k => (Array.replicate ops.size false).getD k false) ops.size = t := by
      have : ∀ k, appX ops.toList rs t (fun k => (Array.replicate ops.size false).getD k false) k = t := by
        intro k
        induction k with
        | zero => rfl
        | succ k ih =>
          simp only [appX]
          have h0 := hX0 k
          split
          · rename_i h1; rw [h0] at h1; cases h1
          · exact ih
      exact this _
    refine ⟨by rw [happ]; exact ht, by omega, fun h => ⟨hs3 (by omega), hX0 _⟩, fun h h1 h2 => absurd h2 (hs4 h (by omega) h1), hlast.symm ▸ rfl, fun b hb => by rw [hgM, if_pos hb], fun i _ _ _ _ h5 => (by have h6 : (Array.replicate ops.size false).getD i false = true := h5; rw [hX0] at h6; cases h6), fun i hi _ b h1 h2 => hf b ?_ ?_, hrelM, ?_, rfl⟩
    · have := (R.run.mono (i := 0) (j := i) (by omega) (by omega)).size
      rw [R.run.zero] at this; omega
    · have := (R.run.mono (i := i + 1) (j := ops.size) (by omega) (by omega)).size
      rw [hlast] at this; omega
    · refine ⟨fun _ _ h => h, fun _ _ => rfl, rfl, rfl, rfl, Nat.le_refl _, fun _ _ _ => rfl, fun b L h1 h2 hb => ?_, by show m.size ≤ m₁.size; omega, fun b hb ho => ?_⟩
      · rw [hf b h1 h2] at hb; cases hb
      · rw [hgl b hb] at ho; exact ho
theorem drawD_grw (hg : CfGrw cf) {l : List Oper} (h : drawD P K G cf n l t m = some (t', m')) : Grw m m' := by
  unfold drawD at h
  split at h <;> try (simp at h; done)
  split at h <;> try (simp at h; done)
  rename_i rs t₁ m₁ hrec
  split at h <;> try (simp at h; done)
  split at h <;> simp at h
  obtain ⟨rfl, rfl⟩ := h
  have key : ∀ (ops l : List Oper) (t : Tmps) (m : Mem) (rs : List Rec) (t' : Tmps) (m' : Mem), recD P K G cf n ops l t m = some (rs, t', m') → Grw m m' := by
    intro ops l
    induction l with
    | nil => intro t m rs t' m' h; simp [recD] at h; rw [h.2.2]; exact Grw.refl _
    | cons o l ih =>
      intro t m rs t' m' h
      simp only [recD] at h
      split at h <;> try (simp at h; done)
      split at h
      · split at h <;> try (simp at h; done)
        rename_i v m₂ hv
        split at h <;> simp at h
        rename_i h1
        rw [← h.2.2]
        exact (opD_grw hg hv).trans (ih _ _ _ _ _ h1)
      · split at h <;> simp at h
        rename_i h1
        rw [← h.2.2]
        exact ih _ _ _ _ _ h1
  exact key _ _ _ _ _ _ _ hrec
theorem drawOK (hmix : P.follows .mixedOrders = true) (hK : Plain P K) (hcf : CfOK P B0 G cf) (hg : CfGrw cf) : DrawOK P B0 G n (drawD P K G cf n) :=
  ⟨fun ops t m t' m' h => (drawD_grw hg h).size, fun ops id ι t m w a t' m' Q h hr ht hf hQ => draw_wp hmix hK hcf hg h hr ht hf hQ⟩
/-! ### calls -/
theorem callD_grw : ∀ (k : Nat), CfGrw (callD P K G k)
  | 0, f, args, m, v, m', h => by simp [callD] at h
  | k + 1, f, args, m, v, m', h => by
    have ih := callD_grw k
    simp only [callD] at h
    split at h <;> try (simp at h; done)
    split at h <;> try (simp at h; done)
    split at h <;> try (simp at h; done)
    all_goals
      rename_i hc
      split at h <;> simp at h
      rw [← h.2]
      exact codeD_grw ih (fun _ _ _ _ _ h => drawD_grw ih h) _ _ _ _ _ _ hc
theorem initT_at : ∀ (l : List Value) (i d : Nat), (initT i l).at d = if i ≤ d then (match l[d - i]? with | some v => v | none => undef) else undef
  | [], i, d => by
    have : (initT i [] : Tmps).at d = undef := by simp [initT, Tmps.at, Tr.get_nil]
    rw [this]; simp
  | v :: l, i, d => by
    simp only [initT, Tmps.at_set, initT_at l (i + 1) d]
    by_cases h1 : d = i
    · subst h1; simp
    · simp only [h1, if_false]
      by_cases h2 : i + 1 ≤ d
      · rw [if_pos h2, if_pos (by omega), show d - i = (d - (i + 1)) + 1 by omega]; rfl
      · rw [if_neg h2, if_neg (by omega)]
theorem resD_ok (hr : Rel B0 G ι m w) (ht : TRel ι n t a) : ∀ {l : List ResultVar} {vs : List Value}, resD P t m l = some vs →
    ∃ vs', (l.mapM (fun (q : ResultVar) => (match q with | .tmp t => (pure (a.tmps.getD t undef) : Sem Value) | .cell x t => (do loadVar t (← asAddr (a.tmps.getD x undef)) : Sem Value)))).run P w = .ok vs' w ∧ VRels ι vs vs'
  | [], vs, h => by simp [resD] at h; subst h; exact ⟨[], by simp, .nil⟩
  | .tmp d :: l, vs, h => by
    simp only [resD] at h
    split at h <;> simp at h
    rename_i us hus
    subst h
    obtain ⟨us', h1, h2⟩ := resD_ok hr ht hus
    refine ⟨a.tmps.getD d undef :: us', ?_, .cons (ht.2 d) h2⟩
    rw [List.mapM_cons]
    simp only [Sem.run_bind, Sem.run_pure, Result.andThen_ok, h1]
  | .cell x ty :: l, vs, h => by
    simp only [resD] at h
    split at h <;> try (simp at h; done)
    rename_i v hv
    split at h <;> simp at h
    rename_i us hus
    subst h
    obtain ⟨us', h1, h2⟩ := resD_ok hr ht hus
    obtain ⟨v', g1, g2⟩ := loadD_ok (P := P) hr (ht.2 x) hv
    have hp : ∃ ad, a.tmps.getD x undef = .pointer (some ad) := by
      have := ht.2 x
      unfold loadD at hv
      split at hv <;> try (simp at hv; done)
      rename_i b off hb
      rw [hb] at this
      obtain ⟨L, _, e⟩ := this.inv_ptr
      exact ⟨_, e⟩
    obtain ⟨ad, had⟩ := hp
    refine ⟨v' :: us', ?_, .cons g2 h2⟩
    rw [List.mapM_cons]
    rw [had] at g1
    simp only [Instr.loadAt, Instr.sureAddr, Sem.run_bind, Sem.run_pure, Result.andThen_ok] at g1
    have hA : (asAddr (a.tmps.getD x undef)).run P w = .ok ad w := by rw [had]; rfl
    simp only [Sem.run_bind, Sem.run_pure, Result.andThen_ok, hA, g1, h1]
theorem results_ok (hr : Rel B0 G ι m w) (ht : TRel ι n t a) {fn : Func} {vs : List Value} (h : resD P t m fn.results.toList = some vs) : ∃ v', (results fn a.tmps).run P w = .ok v' w ∧ VRel ι (resV vs) v' := by
  obtain ⟨vs', h1, h2⟩ := resD_ok hr ht h
  have hm : (fn.results.mapM (fun (q : ResultVar) => (match q with | .tmp t => (pure (a.tmps.getD t undef) : Sem Value) | .cell x t => (do loadVar t (← asAddr (a.tmps.getD x undef)) : Sem Value)))).run P w = .ok vs'.toArray w := by
    rw [Array.mapM_eq_mapM_toList]
    simp only [Sem.run_map, h1, Result.andThen_ok]
  refine ⟨if h : vs'.toArray.size = 1 then vs'.toArray[0] else .tuple vs'.toArray, ?_, ?_⟩
  · simp only [results, Sem.run_bind]
    change (((fn.results.mapM (fun (q : ResultVar) => (match q with | .tmp t => (pure (a.tmps.getD t undef) : Sem Value) | .cell x t => (do loadVar t (← asAddr (a.tmps.getD x undef)) : Sem Value)))).run P w).andThen _) = _
    rw [hm]
    rfl
  · cases h2 with
    | nil => exact VRel.tuple' .nil
    | cons h0 t0 =>
      cases t0 with
      | nil => simpa [resV] using h0
      | cons h0' t0' =>
        simp only [resV]
        rw [dif_neg (by simp)]
        exact VRel.tuple' (.cons h0 (.cons h0' t0'))
def NoNG (P : Program) : Prop := ∀ (f : FuncId) (fn : Func), P.funcs[f]? = some fn → fn.body.isNone = false → (fn.name == "runtime.NumGoroutine") = false
theorem callD_ok (hmix : P.follows .mixedOrders = true) (hK : Plain P K) (hng : NoNG P) : ∀ (k : Nat), CfOK P B0 G (callD P K G k)
  | 0 => ⟨fun f args m v m' h => by simp [callD] at h, fun f args m v m' h => by simp [callD] at h, fun f args m v m' h => by simp [callD] at h⟩
  | k + 1 => by
    have ih := callD_ok hmix hK hng k
    refine ⟨fun f args m v m' h => (callD_grw (k + 1) f args m v m' h).size, fun f args m v m' h => ?_, fun f args m v m' h => ?_⟩
    · simp only [callD] at h
      split at h <;> try (simp at h; done)
      rename_i fn hfn
      split at h <;> try (simp at h; done)
      rename_i c hc
      intro ι w args' hr hf hargs
      have hlen := hargs.length
      have ht0 : TRel ι (max args.length fn.ntmps) (initT 0 args) { tmps := args'.toArray ++ Array.replicate (fn.ntmps - args'.toArray.size) undef, defers := [] } := by
        refine ⟨by simp; omega, fun d => ?_⟩
        rw [initT_at]
        simp only [Nat.zero_le, if_true, Nat.sub_zero]
        cases hd : args[d]? with
        | some v =>
          obtain ⟨y, hy, hry⟩ := hargs.get hd
          have hlt : d < args'.length := by
            rcases Nat.lt_or_ge d args'.length with h1 | h1
            · exact h1
            · rw [List.getElem?_eq_none h1] at hy; cases hy
          have : (args'.toArray ++ Array.replicate (fn.ntmps - args'.toArray.size) undef).getD d undef = y := by
            rw [Array.getD_eq_getD_getElem?, Array.getElem?_append_left (by simpa using hlt), List.getElem?_toArray, hy]; rfl
          rw [this]; exact hry
        | none =>
          have hge : args.length ≤ d := List.getElem?_eq_none_iff.1 hd
          have : (args'.toArray ++ Array.replicate (fn.ntmps - args'.toArray.size) undef).getD d undef = undef := by
            rw [Array.getD_eq_getD_getElem?, Array.getElem?_append_right (by simp; omega), Array.getElem?_replicate]
            split <;> rfl
          rw [this]; exact VRel.undef _
      have fin : ∀ (e : Ex) (t' : Tmps) (m₁ : Mem), codeD P K G (callD P K G k) (drawD P K G (callD P K G k) (max args.length fn.ntmps)) (max args.length fn.ntmps) k c (initT 0 args) m = some (e, t', m₁) → (e = .normal ∨ e = .ret) →
          (match resD P t' m₁ fn.results.toList with | some vs => some (resV vs, m₁) | none => none) = some (v, m') →
          Calls P f args'.toArray w fun e w' => ∃ v' ι', e = .returned v' ∧ VRel ι' v v' ∧ Rel B0 G ι' m' w' ∧ Stp ι ι' m m' w w' := by
        intro e t' m₁ hcode he hres
        split at hres <;> simp at hres
        rename_i vs hvs
        obtain ⟨rfl, rfl⟩ := hres
        refine calls_of_wp hfn hc (code_ok hK ih (drawOK hmix hK ih (callD_grw k)) c _ _ _ _ _ hcode ι w _ _ hr ht0 hf fun a' w' ha => ?_)
        obtain ⟨ι', g1, g2, g3, g4⟩ := ha
        obtain ⟨v', q1, q2⟩ := results_ok (P := P) g2 g1 hvs
        rcases he with rfl | rfl
        · exact ⟨g4, v', q1, v', ι', rfl, q2, g2, g3⟩
        · exact ⟨g4, v', q1, v', ι', rfl, q2, g2, g3⟩
      split at h <;> try (simp at h; done)
      · rename_i t' m₁ hcode
        exact fin _ _ _ hcode (.inl rfl) h
      · rename_i t' m₁ hcode
        exact fin _ _ _ hcode (.inr rfl) h
    · simp only [callD] at h
      split at h <;> try (simp at h; done)
      rename_i fn hfn
      split at h <;> try (simp at h; done)
      rename_i c hc
      exact ⟨fn, hfn, by simp [hc], hng f fn hfn (by simp [hc])⟩
end
end Go.DI
namespace Go.DI
section
variable {α : Type}
def fNat (n : Nat) (k : Nat → α) : α := match n with | 0 => k 0 | m + 1 => k (Nat.succ m)
theorem fNat_eq (n : Nat) (k : Nat → α) : fNat n k = k n := by cases n <;> rfl
def fInt (n : Int) (k : Int → α) : α := match n with | .ofNat m => fNat m fun m => k (.ofNat m) | .negSucc m => fNat m fun m => k (.negSucc m)
theorem fInt_eq (n : Int) (k : Int → α) : fInt n k = k n := by cases n <;> simp [fInt, fNat_eq]
def fL (f : Value → (Value → α) → α) : List Value → (List Value → α) → α
  | [], k => k []
  | x :: l, k => f x fun x => fL f l fun l => k (x :: l)
theorem fL_eq {f : Value → (Value → α) → α} (hf : ∀ v k, f v k = k v) : ∀ (l : List Value) (k : List Value → α), fL f l k = k l
  | [], k => rfl
  | x :: l, k => by simp only [fL, hf, fL_eq hf l]
def fSp : List Value → (List Value → α) → α := fL fun v k => k v
theorem fSp_eq (l : List Value) (k : List Value → α) : fSp l k = k l := fL_eq (fun _ _ => rfl) l k
def fA (a : Option Addr) (k : Option Addr → α) : α :=
  match a with
  | none => k none
  | some ⟨b, o, none⟩ => fNat b fun b => fNat o fun o => k (some ⟨b, o, none⟩)
  | some ⟨b, o, some e⟩ => fNat b fun b => fNat o fun o => fNat e fun e => k (some ⟨b, o, some e⟩)
theorem fA_eq (a : Option Addr) (k : Option Addr → α) : fA a k = k a := by
  unfold fA
  split <;> simp [fNat_eq]
def fV : Nat → Value → (Value → α) → α
  | 0, v, k => k v
  | d + 1, v, k =>
    match v with
    | .bool b => (match b with | true => k (.bool true) | false => k (.bool false))
    | .int q n => fInt n fun n => k (.int q n)
    | .pointer a => fA a fun a => k (.pointer a)
    | .slice a n c => fA a fun a => fNat n fun n => fNat c fun c => k (.slice a n c)
    | .map (some r) => fNat r fun r => k (.map (some r))
    | .agg ⟨l⟩ => fL (fV d) l fun l => k (.agg ⟨l⟩)
    | .tuple ⟨l⟩ => fL (fV d) l fun l => k (.tuple ⟨l⟩)
    | .func f ⟨a⟩ ⟨b⟩ => fL (fV d) a fun a => fL (fV d) b fun b => k (.func f ⟨a⟩ ⟨b⟩)
    | v => k v
theorem fV_eq : ∀ (d : Nat) (v : Value) (k : Value → α), fV d v k = k v
  | 0, v, k => rfl
  | d + 1, v, k => by
    have ih := fun v k => fV_eq d v k
    unfold fV
    split <;> (try simp only [fInt_eq, fA_eq, fNat_eq, fL_eq ih])
    split <;> rfl
def fE : List MapEntry → (List MapEntry → α) → α
  | [], k => k []
  | ⟨key, val, born⟩ :: l, k => fV 6 key fun key => fV 6 val fun val => fE l fun l => k (⟨key, val, born⟩ :: l)
theorem fE_eq : ∀ (l : List MapEntry) (k : List MapEntry → α), fE l k = k l
  | [], k => rfl
  | ⟨key, val, born⟩ :: l, k => by simp only [fE, fV_eq, fE_eq l]
def fB (x : Blk) (k : Blk → α) : α :=
  match x with
  | .cells o c => fL (fV 6) c fun c => k (.cells o c)
  | .map o es c => fE es fun es => fNat c fun c => k (.map o es c)
  | x => k x
theorem fB_eq (x : Blk) (k : Blk → α) : fB x k = k x := by
  unfold fB
  split <;> simp only [fL_eq (fV_eq 6), fE_eq, fNat_eq]
def Tr.putK {β : Type} (d : Nat) (t : Tr β) (p key : Nat) (v : β) (k : Tr β → α) : α := k (Tr.put t d p key v)
theorem Tr.putK_eq {β : Type} (d : Nat) (t : Tr β) (p key : Nat) (v : β) (k : Tr β → α) : Tr.putK d t p key v k = k (Tr.put t d p key v) := rfl
def setT (t : Tmps) (d : Nat) (v : Value) (k : Tmps → α) : α := Tr.putK 6 t d d v k
theorem setT_eq (t : Tmps) (d : Nat) (v : Value) (k : Tmps → α) : setT t d v k = k (t.set d v) := Tr.putK_eq _ _ _ _ _ _
def setM (m : Mem) (b : Nat) (x : Blk) (k : Mem → α) : α := match m with | ⟨base, tr, size⟩ => Tr.putK 10 tr b b x fun tr => k ⟨base, tr, size⟩
theorem setM_eq (m : Mem) (b : Nat) (x : Blk) (k : Mem → α) : setM m b x k = k (m.set b x) := by simp only [setM, Tr.putK_eq]; rfl
def pushM (m : Mem) (x : Blk) (k : Mem → α) : α := match m with | ⟨base, tr, size⟩ => Tr.putK 10 tr size size x fun tr => fNat (size + 1) fun s => k ⟨base, tr, s⟩
theorem pushM_eq (m : Mem) (x : Blk) (k : Mem → α) : pushM m x k = k (m.push x) := by simp only [pushM, Tr.putK_eq, fNat_eq]; rfl
def putS (t : Tmps) (dst : Option Tmp) (v : Value) (k : Tmps → α) : α := match dst with | none => k t | some d => setT t d v k
theorem putS_eq (t : Tmps) (dst : Option Tmp) (v : Value) (k : Tmps → α) : putS t dst v k = k (putD t dst v) := by
  cases dst <;> simp only [putS, putD, setT_eq]
def initS : Nat → List Value → (Tmps → α) → α
  | _, [], k => k .nil
  | i, v :: l, k => initS (i + 1) l fun t => setT t i v k
theorem initS_eq : ∀ (l : List Value) (i : Nat) (k : Tmps → α), initS i l k = k (initT i l)
  | [], _, _ => rfl
  | v :: l, i, k => by simp only [initS, initT, initS_eq l, setT_eq]
def onV (r : Option (Value × Mem)) (k : Value → Mem → Option α) : Option α := match r with | some (v, m) => k v m | none => none
def onM (r : Option Mem) (k : Mem → Option α) : Option α := match r with | some m => k m | none => none
theorem onV_ite {c : Prop} [Decidable c] (a : Option (Value × Mem)) (k : Value → Mem → Option α) : onV (if c then a else none) k = if c then onV a k else none := by split <;> rfl
theorem onM_ite {c : Prop} [Decidable c] (a : Option Mem) (k : Mem → Option α) : onM (if c then a else none) k = if c then onM a k else none := by split <;> rfl
theorem ite_same {c : Prop} [Decidable c] {a b x : Option α} (h : c → a = b) : (if c then a else x) = (if c then b else x) := by
  split
  · exact h ‹_›
  · rfl
def storeCS (m : Mem) (b off : Nat) (vs : List Value) (k : Mem → Option α) : Option α :=
  match m.get b with
  | .cells true c => if off + vs.length ≤ c.length then (if vs.all one then fB (.cells true (splice c off vs)) fun x => setM m b x k else none) else none
  | _ => none
theorem storeCS_eq (m : Mem) (b off : Nat) (vs : List Value) (k : Mem → Option α) : storeCS m b off vs k = onM (storeC m b off vs) k := by
  unfold storeCS storeC
  cases m.get b with
  | none => rfl
  | map => rfl
  | siter => rfl
  | cells o c =>
    cases o with
    | false => rfl
    | true =>
      simp only
      by_cases h1 : off + vs.length ≤ c.length
      · by_cases h2 : vs.all one = true
        · simp only [h1, h2, if_true, fB_eq, setM_eq, onM]
        · simp only [h1, h2, if_true, if_false, onM]; rfl
      · simp only [h1, if_false, onM]
section
variable (P : Program) (K : TypeId → Bool) (G : Nat)
def storeDS (m : Mem) (t : TypeId) (x : Value) (k : Mem → Option α) : Value → Option α
  | .pointer (some ⟨b, off, none⟩) =>
    match szOf P t with
    | some n => if x.cells.toList.length = n then storeCS m b off x.cells.toList k else none
    | none => none
  | _ => none
theorem storeDS_eq (m : Mem) (t : TypeId) (x : Value) (k : Mem → Option α) (a : Value) : storeDS P m t x k a = onM (storeD P m t x a) k := by
  unfold storeDS storeD
  cases a <;> try rfl
  rename_i ad
  cases ad with
  | none => rfl
  | some ad =>
    obtain ⟨b, off, sp⟩ := ad
    cases sp with
    | some e => rfl
    | none =>
      simp only
      cases szOf P t with
      | none => rfl
      | some n =>
        simp only
        by_cases h : x.cells.toList.length = n
        · simp only [h, if_true]; exact storeCS_eq _ _ _ _ _
        · simp only [h, if_false]; rfl
def mapUpdateS (m : Mem) (t : TypeId) (x k v : Value) (q : Mem → Option α) : Option α :=
  match P.underlying t with
  | some (.map kt _) => match x with
    | .map (some r) => match m.get r with
      | .map true es clock => if keyOk P 100 kt k = true then
          (match findD P K kt k es 0 with
          | some (some (i, _)) => match es[i]? with
            | some e => if Instr.sameBits 10000 e.key k = true then fB (.map true (modE i k v es) clock) fun x => setM m r x q else none
            | none => none
          | some none => fB (.map true (es ++ [{ key := k, val := v, born := clock }]) (clock + 1)) fun x => setM m r x q
          | none => none) else none
      | _ => none
    | _ => none
  | _ => none
theorem mapUpdateS_eq (m : Mem) (t : TypeId) (x k v : Value) (q : Mem → Option α) : mapUpdateS P K m t x k v q = onM (mapUpdateD P K m t x k v) q := by
  unfold mapUpdateS mapUpdateD
  cases P.underlying t with
  | none => rfl
  | some d =>
    cases d <;> try rfl
    cases x <;> try rfl
    rename_i r
    cases r with
    | none => rfl
    | some r =>
      simp only
      cases m.get r with
      | none => rfl
      | cells => rfl
      | siter => rfl
      | map o es clock =>
        cases o with
        | false => rfl
        | true =>
          simp only
          rw [onM_ite]
          refine ite_same fun hk => ?_
          cases findD P K _ k es 0 with
          | none => rfl
          | some r =>
              cases r with
              | none => simp only [fB_eq, setM_eq, onM]
              | some p =>
                obtain ⟨i, u⟩ := p
                simp only
                cases es[i]? with
                | none => rfl
                | some e =>
                  simp only
                  by_cases hs : Instr.sameBits 10000 e.key k = true
                  · simp only [hs, if_true, fB_eq, setM_eq, onM]
                  · simp only [hs, if_false]; rfl
def storeRS (sp : Option Nat) (m : Mem) (b off : Nat) (vs : List Value) (q : Mem → Option α) : Option α := match sp with | none => storeCS m b off vs q | some _ => none
theorem storeRS_eq (sp : Option Nat) (m : Mem) (b off : Nat) (vs : List Value) (q : Mem → Option α) : storeRS sp m b off vs q = onM (storeR sp m b off vs) q := by
  cases sp with
  | none => exact storeCS_eq _ _ _ _ _
  | some _ => rfl
def appendS (m : Mem) (tS tX : TypeId) (s x : Value) (k : Value → Mem → Option α) : Option α :=
  match P.underlying tS, P.underlying tX with
  | _, some (.int _) | _, none => none
  | some (.slice e), some _ => match s, szOf P e, bytesOf P e, lenOf x with
    | .slice base sLen sCap, some size, some bytes, some n =>
      if size = 0 then none else
      match firstC m size n x with
      | some new =>
        if sLen + n ≤ sCap then
          (match base with
          | none => if n = 0 then k (.slice none (sLen + n) sCap) m else none
          | some ⟨b, off, sp⟩ => if n = 0 then k (.slice (some ⟨b, off, sp⟩) (sLen + n) sCap) m else
            storeRS sp m b (off + sLen * size) new fun m' => fNat (sLen + n) fun q => k (.slice (some ⟨b, off, sp⟩) q sCap) m')
        else if (sLen + n) * bytes ≤ 140737488355328 ∧ (sLen + n : Nat) ≤ 4611686018427387904 ∧ 0 < bytes ∧ (zerosD P e 1).isSome = true then
          match firstC m size sLen s with
          | some old =>
            if (new.all one && old.all one) = true ∧ old.length = sLen * size ∧ new.length = n * size then
            (match base with
            | some ⟨b, _, some e'⟩ => if e' = size then
                (match m.get b with
                | .cells true _ => fB (.cells true (old ++ new)) fun x => fNat m.size fun z => fNat (sLen + n) fun q => pushM m x fun m' => setM m' b .none fun m' => k (.slice (some ⟨z, 0, some size⟩) q q) m'
                | _ => none)
              else none
            | _ => fB (.cells true (old ++ new)) fun x => fNat m.size fun z => fNat (sLen + n) fun q => pushM m x fun m' => k (.slice (some ⟨z, 0, some size⟩) q q) m') else none
          | none => none
        else none
      | none => none
    | _, _, _, _ => none
  | _, _ => none
theorem appendS_eq (m : Mem) (tS tX : TypeId) (s x : Value) (k : Value → Mem → Option α) : appendS P m tS tX s x k = onV (appendD P m tS tX s x) k := by
  unfold appendS appendD
  cases P.underlying tX with
  | none => cases P.underlying tS <;> rfl
  | some dX =>
    cases P.underlying tS with
    | none => cases dX <;> rfl
    | some dS =>
      cases dS <;> cases dX <;> try rfl
      all_goals
        simp only
        cases s <;> try rfl
        cases szOf P _ <;> try rfl
        cases bytesOf P _ <;> try rfl
        cases lenOf x <;> try rfl
        simp only
        rename_i base sLen sCap size bytes n
        by_cases h0 : size = 0
        · simp only [h0, if_true]; rfl
        · simp only [h0, if_false]
          cases firstC m size n x with
          | none => rfl
          | some new =>
            simp only
            by_cases h1 : sLen + n ≤ sCap
            · simp only [h1, if_true]
              cases base with
              | none => by_cases h2 : n = 0 <;> simp only [h2, if_true, if_false] <;> rfl
              | some ad =>
                obtain ⟨b, off, sp⟩ := ad
                simp only
                by_cases h2 : n = 0
                · simp only [h2, if_true]; rfl
                · simp only [h2, if_false, storeRS_eq]
                  cases storeR sp m b (off + sLen * size) new <;> simp only [onM, onV, fNat_eq]
            · simp only [h1, if_false]
              rw [onV_ite]
              refine ite_same fun h2 => ?_
              cases firstC m size sLen _ with
              | none => rfl
              | some old =>
                  simp only
                  by_cases h3 : (new.all one && old.all one) = true ∧ old.length = sLen * size ∧ new.length = n * size
                  · rw [if_pos h3, if_pos h3]
                    cases base with
                    | none => simp only [fB_eq, pushM_eq, fNat_eq, onV]
                    | some ad =>
                      obtain ⟨b, off, sp⟩ := ad
                      cases sp with
                      | none => simp only [fB_eq, pushM_eq, fNat_eq, onV]
                      | some e' =>
                        simp only
                        by_cases h4 : e' = size
                        · simp only [h4, if_true]
                          cases m.get b with
                          | none => rfl
                          | map => rfl
                          | siter => rfl
                          | cells o c => cases o with
                            | false => rfl
                            | true => simp only [fB_eq, pushM_eq, setM_eq, fNat_eq, onV]
                        · simp only [h4, if_false]; rfl
                  · rw [if_neg h3, if_neg h3]; rfl
def heavyS (cf : FuncId → List Value → Mem → Option (Value × Mem)) (t : Tmps) (m : Mem) (o : Op) (q : Value → Mem → Option α) : Option α :=
  match o with
  | .store ty a x => match ev G t a, ev G t x with
    | some a, some v => storeDS P m ty v (fun m' => q undef m') a
    | _, _ => none
  | .mapUpdate ty x k v => match ev G t x, ev G t k, ev G t v with
    | some x, some k, some v => mapUpdateS P K m ty x k v fun m' => q undef m'
    | _, _, _ => none
  | .insert ty x k v => match ev G t x, ev G t k, ev G t v with
    | some x, some k, some v => mapUpdateS P K m ty x k v fun m' => q undef m'
    | _, _, _ => none
  | .call { callee := .builtin .append, args, argTypes } => match args.toList, argTypes.toList with
    | [s, x], [tS, tX] => match ev G t s, ev G t x with
      | some s, some x => appendS P m tS tX s x q
      | _, _ => none
    | _, _ => none
  | .call { callee := .value f, args, argTypes := _ } => match ev G t f, evs G t args.toList with
    | some (.func (.func g) first captured), some vs => fSp (first.toList ++ (vs ++ captured.toList)) fun l => onV (cf g l m) q
    | _, _ => none
  | o => onV (heavyD P K G cf t m o) fun v m' => fV 6 v fun v => q v m'
theorem heavyS_eq (cf : FuncId → List Value → Mem → Option (Value × Mem)) (t : Tmps) (m : Mem) (o : Op) (q : Value → Mem → Option α) : heavyS P K G cf t m o q = onV (heavyD P K G cf t m o) q := by
  have hfv : ∀ r : Option (Value × Mem), (onV r fun v m' => fV 6 v fun v => q v m') = onV r q := by
    intro r; cases r with
    | none => rfl
    | some r => simp only [onV, fV_eq]
  cases o <;> try (unfold heavyS; exact hfv _)
  case store ty a x =>
    simp only [heavyS, heavyD]
    cases ev G t a with
    | none => rfl
    | some a =>
      cases ev G t x with
      | none => rfl
      | some v =>
        simp only [storeDS_eq]
        cases storeD P m ty v a <;> rfl
  case mapUpdate ty x k y =>
    simp only [heavyS, heavyD]
    cases ev G t x with
    | none => rfl
    | some x =>
      cases ev G t k with
      | none => rfl
      | some k =>
        cases ev G t y with
        | none => rfl
        | some y =>
          simp only [mapUpdateS_eq]
          cases mapUpdateD P K m ty x k y <;> rfl
  case insert ty x k y =>
    simp only [heavyS, heavyD]
    cases ev G t x with
    | none => rfl
    | some x =>
      cases ev G t k with
      | none => rfl
      | some k =>
        cases ev G t y with
        | none => rfl
        | some y =>
          simp only [mapUpdateS_eq]
          cases mapUpdateD P K m ty x k y <;> rfl
  case call c =>
    obtain ⟨callee, args, tys⟩ := c
    cases callee with
    | invoke r s => unfold heavyS; exact hfv _
    | builtin b =>
      cases b <;> try (unfold heavyS; exact hfv _)
      simp only [heavyS, heavyD]
      cases args.toList with
      | nil => rfl
      | cons s l =>
        cases l with
        | nil => rfl
        | cons x l =>
          cases l with
          | cons y l => rfl
          | nil =>
            cases tys.toList with
            | nil => rfl
            | cons a l => cases l with
              | nil => rfl
              | cons b l => cases l with
                | cons c l => rfl
                | nil =>
                  simp only
                  cases ev G t s with
                  | none => rfl
                  | some s =>
                    cases ev G t x with
                    | none => rfl
                    | some x => exact appendS_eq P m a b s x q
    | value f =>
      simp only [heavyS, heavyD]
      cases ev G t f with
      | none => rfl
      | some v =>
        cases v <;> try rfl
        rename_i fn first captured
        cases fn <;> try rfl
        cases evs G t args.toList with
        | none => rfl
        | some vs => simp only [fSp_eq]
def opS (cf : FuncId → List Value → Mem → Option (Value × Mem)) (t : Tmps) (m : Mem) (o : Op) (q : Value → Mem → Option α) : Option α :=
  match klass o with
  | 0 => match quietD P K G t m o with | some v => fV 6 v fun v => q v m | none => none
  | 1 => match allocD P G t o with | some (x, k) => fB x fun x => fNat m.size fun z => pushM m x fun m' => fV 6 (k.val z) fun v => q v m' | none => none
  | _ => heavyS P K G cf t m o q
theorem opS_eq (cf : FuncId → List Value → Mem → Option (Value × Mem)) (t : Tmps) (m : Mem) (o : Op) (q : Value → Mem → Option α) : opS P K G cf t m o q = onV (opD P K G cf t m o) q := by
  unfold opS opD
  rcases klass_cases o with h | h | h
  · simp only [h]
    cases quietD P K G t m o with
    | none => rfl
    | some v => simp only [fV_eq, onV]
  · simp only [h]
    cases allocD P G t o with
    | none => rfl
    | some x => obtain ⟨x, k⟩ := x; simp only [fB_eq, fNat_eq, pushM_eq, fV_eq, onV]
  · simp only [h]
    exact heavyS_eq P K G cf t m o q
def opsS (cf : FuncId → List Value → Mem → Option (Value × Mem)) (n : Nat) (ops : List Oper) : List Oper → Tmps → Mem → Option (Tmps × Mem)
  | [], t, m => some (t, m)
  | o :: l, t, m => if dstOk n o.dst = true then
      (if Region.wanted o (yieldD ops t) = true then opS P K G cf t m o.op fun v m' => putS t o.dst v fun t' => opsS cf n ops l t' m'
      else putS t o.dst undef fun t' => opsS cf n ops l t' m) else none
theorem opsS_eq (cf : FuncId → List Value → Mem → Option (Value × Mem)) (n : Nat) (ops : List Oper) : ∀ (l : List Oper) (t : Tmps) (m : Mem), opsS P K G cf n ops l t m = opsD P K G cf n ops l t m
  | [], t, m => rfl
  | o :: l, t, m => by
    simp only [opsS, opsD, opS_eq, putS_eq]
    split
    · split
      · cases opD P K G cf t m o.op with
        | none => rfl
        | some r => obtain ⟨v, m'⟩ := r; simp only [onV]; exact opsS_eq cf n ops l _ _
      · exact opsS_eq cf n ops l _ _
    · rfl
def recS (cf : FuncId → List Value → Mem → Option (Value × Mem)) (n : Nat) (ops : List Oper) : List Oper → Tmps → Mem → Option (List Rec × Tmps × Mem)
  | [], t, m => some ([], t, m)
  | o :: l, t, m => if dstOk n o.dst = true then
      (if Region.wanted o (yieldD ops t) = true then opS P K G cf t m o.op fun v m' => putS t o.dst v fun t₁ => (match recS cf n ops l t₁ m' with
          | some (rs, t', m'') => some (⟨true, v, t, m⟩ :: rs, t', m'')
          | none => none)
      else putS t o.dst undef fun t₁ => match recS cf n ops l t₁ m with
        | some (rs, t', m'') => some (⟨false, undef, t, m⟩ :: rs, t', m'')
        | none => none) else none
theorem recS_eq (cf : FuncId → List Value → Mem → Option (Value × Mem)) (n : Nat) (ops : List Oper) : ∀ (l : List Oper) (t : Tmps) (m : Mem), recS P K G cf n ops l t m = recD P K G cf n ops l t m
  | [], t, m => rfl
  | o :: l, t, m => by
    simp only [recS, recD, opS_eq, putS_eq, recS_eq cf n ops l]
    split
    · split
      · cases opD P K G cf t m o.op with
        | none => rfl
        | some r => obtain ⟨v, m'⟩ := r; rfl
      · rfl
    · rfl
/-! the tables of a drawing region, worked out once -/
def drawS (cf : FuncId → List Value → Mem → Option (Value × Mem)) (n : Nat) (ops : List Oper) (t : Tmps) (m : Mem) : Option (Tmps × Mem) :=
  match statB ops (tabD ops []) with
  | true => match recS P K G cf n ops ops t m with
    | some (rs, t', m') => (match (need1 ops (tabD ops [])).all (chk1 P K G ops rs m') with
      | true => (match (need2 ops (tabD ops [])).all (chk2 rs m') with
        | true => some (t', m')
        | false => none)
      | false => none)
    | none => none
  | false => none
theorem drawS_eq (cf : FuncId → List Value → Mem → Option (Value × Mem)) (n : Nat) (ops : List Oper) (t : Tmps) (m : Mem) : drawS P K G cf n ops t m = drawD P K G cf n ops t m := by
  unfold drawS drawD
  rw [recS_eq]
  cases statB ops (tabD ops []) with
  | false => rfl
  | true =>
    simp only [if_true]
    cases recD P K G cf n ops ops t m with
    | none => rfl
    | some r =>
      obtain ⟨rs, t', m'⟩ := r
      simp only
      cases (need1 ops (tabD ops [])).all (chk1 P K G ops rs m') with
      | false => rfl
      | true =>
        cases (need2 ops (tabD ops [])).all (chk2 rs m') <;> rfl
def codeS (cf : FuncId → List Value → Mem → Option (Value × Mem)) (n k : Nat) : Code → Tmps → Mem → Option (Ex × Tmps × Mem)
  | .skip, t, m => some (.normal, t, m)
  | .label _, t, m => some (.normal, t, m)
  | .region _ ops draw, t, m => match (match draw with | true => drawS P K G cf n ops.toList t m | false => opsS P K G cf n ops.toList ops.toList t m) with
    | some (t', m') => some (.normal, t', m')
    | none => none
  | .seq a b, t, m => match codeS cf n k a t m with
    | some (.normal, t', m') => codeS cf n k b t' m'
    | r => r
  | .cond c x y, t, m => match ev G t c with
    | some (.bool true) => codeS cf n k x t m
    | some (.bool false) => codeS cf n k y t m
    | _ => none
  | .block id c, t, m => match codeS cf n k c t m with
    | some (.exit id', t', m') => if id' = id then some (.normal, t', m') else some (.exit id', t', m')
    | r => r
  | .loop c, t, m => loopD (codeS cf n k c) k t m
  | .exit id, t, m => some (.exit id, t, m)
  | .ret, t, m => some (.ret, t, m)
  | _, _, _ => none
theorem codeS_eq (cf : FuncId → List Value → Mem → Option (Value × Mem)) (n k : Nat) : ∀ (c : Code), codeS P K G cf n k c = codeD P K G cf (drawD P K G cf n) n k c := by
  intro c
  induction c with
  | skip => rfl
  | label l => rfl
  | region id ops draw =>
    funext t m
    simp only [codeS, codeD]
    cases draw <;> simp only [opsS_eq, drawS_eq, cond_true, cond_false] <;> rfl
  | seq a b iha ihb => funext t m; simp only [codeS, codeD, iha, ihb]; rfl
  | cond c x y ihx ihy => funext t m; simp only [codeS, codeD, ihx, ihy]; rfl
  | block id c ih => funext t m; simp only [codeS, codeD, ih]; rfl
  | loop c ih => funext t m; simp only [codeS, codeD, ih]
  | exit id => rfl
  | ret => rfl
  | rangeFunc => rfl
  | scope => rfl
  | goto => rfl
  | refuse => rfl
def endS (m : Mem) : Option (List Value) → Option (Value × Mem)
  | some vs => fV 6 (resV vs) fun v => some (v, m)
  | none => none
def callS : Nat → FuncId → List Value → Mem → Option (Value × Mem)
  | 0, _, _, _ => none
  | k + 1, f, args, m => match P.funcs[f]? with
    | some fn => match fn.body with
      | some c => initS 0 args fun t => match codeS P K G (callS k) (max args.length fn.ntmps) k c t m with
        | some (.normal, t', m') => endS m' (resD P t' m' fn.results.toList)
        | some (.ret, t', m') => endS m' (resD P t' m' fn.results.toList)
        | _ => none
      | none => none
    | none => none
theorem callS_eq : ∀ (k : Nat), callS P K G k = callD P K G k
  | 0 => rfl
  | k + 1 => by
    funext f args m
    simp only [callS, callD, initS_eq, callS_eq k, codeS_eq]
    have he : ∀ (m : Mem) (r : Option (List Value)), endS m r = (match r with | some vs => some (resV vs, m) | none => none) := by
      intro m r; cases r <;> simp [endS, fV_eq]
    simp only [he]
    rfl
end
end
end Go.DI
