/- The law FlowKnown, a closed one: the interpreter, shape.Check's contracts, the run. -/
import Derived.Test.YtipdeijgaabobaaGreatDoorK03
import Derived.Test.YtipdeijgaabobaaGreatDoorChecked
set_option linter.all false
set_option linter.unusedVariables false
set_option linter.unusedSimpArgs false
/-
  DiFull: a frame keeps its shape.
-/
namespace Go.DI
noncomputable section
def IsFull (n : Nat) (t : Tmps) : Prop := ∃ x, t = fullN n x
def SetLaw (n : Nat) : Prop := ∀ (x : Nat → Value) (d : Nat) (v : Value), d < n → ∃ x', Tmps.set (fullN n x) d v = fullN n x'
section
variable {P : Program} {K : TypeId → Bool} {G n k : Nat} {cf : DFun}
theorem putD_full (hs : SetLaw n) {t : Tmps} {dst : Option Tmp} {v : Value} (h : IsFull n t) (hd : dstOk n dst = true) : IsFull n (putD t dst v) := by
  cases dst with
  | none => exact h
  | some d =>
    obtain ⟨x, rfl⟩ := h
    exact hs x d v (by simpa [dstOk] using hd)
theorem opsD_full (hs : SetLaw n) {ops : List Oper} : ∀ (l : List Oper) (t : Tmps) (m : Mem) (t' : Tmps) (m' : Mem), opsD P K G cf n ops l t m = some (t', m') → IsFull n t → IsFull n t'
  | [], t, m, t', m', h, ht => by simp [opsD] at h; rw [← h.1]; exact ht
  | o :: l, t, m, t', m', h, ht => by
    simp only [opsD] at h
    split at h <;> try (simp at h; done)
    rename_i hd
    split at h
    · split at h <;> try (simp at h; done)
      exact opsD_full hs l _ _ _ _ h (putD_full hs ht hd)
    · exact opsD_full hs l _ _ _ _ h (putD_full hs ht hd)
theorem recD_full (hs : SetLaw n) {ops : List Oper} : ∀ (l : List Oper) (t : Tmps) (m : Mem) (rs : List Rec) (t' : Tmps) (m' : Mem), recD P K G cf n ops l t m = some (rs, t', m') → IsFull n t → IsFull n t'
  | [], t, m, rs, t', m', h, ht => by simp [recD] at h; rw [← h.2.1]; exact ht
  | o :: l, t, m, rs, t', m', h, ht => by
    simp only [recD] at h
    split at h <;> try (simp at h; done)
    rename_i hd
    split at h
    · split at h <;> try (simp at h; done)
      split at h <;> simp at h
      rename_i h1
      rw [← h.2.1]
      exact recD_full hs l _ _ _ _ _ h1 (putD_full hs ht hd)
    · split at h <;> simp at h
      rename_i h1
      rw [← h.2.1]
      exact recD_full hs l _ _ _ _ _ h1 (putD_full hs ht hd)
theorem drawD_full (hs : SetLaw n) {l : List Oper} {t t' : Tmps} {m m' : Mem} (h : drawD P K G cf n l t m = some (t', m')) (ht : IsFull n t) : IsFull n t' := by
  unfold drawD at h
  split at h <;> try (simp at h; done)
  split at h <;> try (simp at h; done)
  rename_i rs t₁ m₁ hrec
  split at h <;> try (simp at h; done)
  split at h <;> simp at h
  rw [← h.1]
  exact recD_full hs _ _ _ _ _ _ hrec ht
theorem loopD_full {b : Tmps → Mem → Option (Ex × Tmps × Mem)} (hb : ∀ t m e t' m', b t m = some (e, t', m') → IsFull n t → IsFull n t') : ∀ (k : Nat) (t : Tmps) (m : Mem) (e : Ex) (t' : Tmps) (m' : Mem), loopD b k t m = some (e, t', m') → IsFull n t → IsFull n t'
  | 0, t, m, e, t', m', h, _ => by simp [loopD] at h
  | k + 1, t, m, e, t', m', h, ht => by
    simp only [loopD] at h
    split at h
    · rename_i h1
      exact loopD_full hb k _ _ _ _ _ h (hb _ _ _ _ _ h1 ht)
    · exact hb _ _ _ _ _ h ht
theorem codeD_full (hs : SetLaw n) : ∀ (c : Code) (t : Tmps) (m : Mem) (e : Ex) (t' : Tmps) (m' : Mem), codeD P K G cf (drawD P K G cf n) n k c t m = some (e, t', m') → IsFull n t → IsFull n t' := by
  intro c
  induction c with
  | skip => intro t m e t' m' h ht; simp [codeD] at h; rw [← h.2.1]; exact ht
  | label l => intro t m e t' m' h ht; simp [codeD] at h; rw [← h.2.1]; exact ht
  | region id ops draw =>
    intro t m e t' m' h ht
    simp only [codeD] at h
    split at h <;> simp at h
    rename_i h1
    rw [← h.2.1]
    cases draw
    · exact opsD_full hs _ _ _ _ _ h1 ht
    · exact drawD_full hs h1 ht
  | seq x y ihx ihy =>
    intro t m e t' m' h ht
    simp only [codeD] at h
    split at h
    · rename_i h1
      exact ihy _ _ _ _ _ h (ihx _ _ _ _ _ h1 ht)
    · exact ihx _ _ _ _ _ h ht
  | cond c x y ihx ihy =>
    intro t m e t' m' h ht
    simp only [codeD] at h
    split at h <;> try (simp at h; done)
    · exact ihx _ _ _ _ _ h ht
    · exact ihy _ _ _ _ _ h ht
  | block id c ih =>
    intro t m e t' m' h ht
    simp only [codeD] at h
    split at h
    · rename_i h1
      split at h <;> simp at h <;> rw [← h.2.1] <;> exact ih _ _ _ _ _ h1 ht
    · exact ih _ _ _ _ _ h ht
  | loop c ih => intro t m e t' m' h ht; simp only [codeD] at h; exact loopD_full (fun t m e t' m' h => ih t m e t' m' h) _ _ _ _ _ _ h ht
  | exit id => intro t m e t' m' h ht; simp [codeD] at h; rw [← h.2.1]; exact ht
  | ret => intro t m e t' m' h ht; simp [codeD] at h; rw [← h.2.1]; exact ht
  | rangeFunc => intro t m e t' m' h; simp [codeD] at h
  | scope c ih => intro t m e t' m' h ht; simp only [codeD] at h; exact ih _ _ _ _ _ h ht
  | goto => intro t m e t' m' h; simp [codeD] at h
  | refuse => intro t m e t' m' h; simp [codeD] at h
end
end
end Go.DI
/-
  DiRF5: a piece of code on a full frame: what is known of the frame behind it.
-/
namespace Go.DI
open Go.DI.Kit
noncomputable section
section
variable {P : Program} {K : TypeId → Bool} {M M' : Mem} {h : H.Hint} {o : Orc} {N k : Nat} {c : Code} {ds : List Nat} {vs : List Value} {qs : List Prop} {e : Ex} {x : Nat → Value}
theorem zip_at {t : Tmps} : ∀ {ds : List Nat} {p : Nat × Value}, p ∈ ds.zip (ds.map t.at) → p.1 ∈ ds ∧ t.at p.1 = p.2
  | [], p, h => by simp at h
  | d :: ds, p, h => by
    rw [List.map_cons, List.zip_cons_cons] at h
    rcases List.mem_cons.1 h with rfl | h
    · exact ⟨List.mem_cons_self .., rfl⟩
    · have := zip_at h
      exact ⟨List.mem_cons_of_mem _ this.1, this.2⟩
variable {G : Nat} {cf : DFun} {t t' : Tmps} {m m' : Mem}
/-- A code that ends among the first of its statements. -/
theorem codeD_cutE (i : Nat) (c : Code) (he : e ≠ .normal) (h : codeD P K G cf (drawD P K G cf N) N k (seqL ((items c).take i)) t m = some (e, t', m')) :
    codeD P K G cf (drawD P K G cf N) N k c t m = some (e, t', m') := by
  rw [codeD_items c, ← List.take_append_drop i (items c), runLD_app, ← codeD_seqL, h]
  cases e with
  | normal => exact absurd rfl he
  | exit id => rfl
  | ret => rfl
theorem loopD_next {b : Tmps → Mem → Option (Ex × Tmps × Mem)} {t1 : Tmps} {m1 : Mem} {r : Option (Ex × Tmps × Mem)} (h1 : b t m = some (.normal, t1, m1)) (h2 : loopD b k t1 m1 = r) : loopD b (k + 1) t m = r := by
  simp only [loopD, h1, h2]
theorem loopD_stop {b : Tmps → Mem → Option (Ex × Tmps × Mem)} (h1 : b t m = some (e, t', m')) (he : e ≠ .normal) : loopD b (k + 1) t m = some (e, t', m') := by
  simp only [loopD, h1]
  cases e with
  | normal => exact absurd rfl he
  | exit j => rfl
  | ret => rfl
/-- A code with a loop among its statements: the loop is left by its own exit. -/
theorem code_loop (i : Nat) (c : Code) {id : Nat} {lb : Code} {rest : List Code} {t1 t2 : Tmps} {M0 M1 M2 : Mem} (hd : (items c).drop i = .block id (.loop lb) :: rest) (h1 : codeD P K G cf (drawD P K G cf N) N k (seqL ((items c).take i)) t M0 = some (.normal, t1, M1))
    (h2 : loopD (codeD P K G cf (drawD P K G cf N) N k lb) k t1 M1 = some (.exit id, t2, M2)) : codeD P K G cf (drawD P K G cf N) N k c t M0 = codeD P K G cf (drawD P K G cf N) N k (seqL rest) t2 M2 := by
  rw [codeD_cut i c h1, codeD_seqL, hd]
  have hb : codeD P K G cf (drawD P K G cf N) N k (.block id (.loop lb)) t1 M1 = some (.normal, t2, M2) := by
    simp only [codeD, h2, if_true]
  simp only [runLD, hb, codeD_seqL]
/-- .. by another one. -/
theorem code_loopE (i : Nat) (c : Code) {id : Nat} {lb : Code} {rest : List Code} {t1 t2 : Tmps} {M0 M1 M2 : Mem} (hd : (items c).drop i = .block id (.loop lb) :: rest) (h1 : codeD P K G cf (drawD P K G cf N) N k (seqL ((items c).take i)) t M0 = some (.normal, t1, M1))
    (h2 : loopD (codeD P K G cf (drawD P K G cf N) N k lb) k t1 M1 = some (e, t2, M2)) (he : e ≠ .normal) (hi : e ≠ .exit id) : codeD P K G cf (drawD P K G cf N) N k c t M0 = some (e, t2, M2) := by
  rw [codeD_cut i c h1, codeD_seqL, hd]
  have hb : codeD P K G cf (drawD P K G cf N) N k (.block id (.loop lb)) t1 M1 = some (e, t2, M2) := by
    simp only [codeD, h2]
    cases e with
    | normal => exact absurd rfl he
    | exit j => exact if_neg fun h => hi (by rw [h])
    | ret => rfl
  simp only [runLD, hb]
  cases e with
  | normal => exact absurd rfl he
  | exit j => rfl
  | ret => rfl
/-- A call by its body. -/
theorem bodyN_of {f : FuncId} {fn : Func} {args vs : List Value} {M0 M1 : Mem} (hf : P.funcs[f]? = some fn) (hc : fn.body = some c) (hn : max args.length fn.ntmps = N)
    (h : codeD P K G cf (drawD P K G cf N) N k c (fullN N (argX args)) M0 = some (.ret, t, M1)) (hr : resD P t M1 fn.results.toList = some vs) : bodyN P K G cf k f args M0 = some (resV vs, M1) := by
  unfold bodyN
  rw [hf]
  simp only
  rw [hc]
  simp only
  rw [hn, h]
  simp only [endD, hr]
end
end
end Go.DI
/-
  FPre: codes of instructions, and what a check of them looks at, in plain Lean.
-/
namespace Go.Cmp
open Go Go.DI
structure Ins where
  op : Int
  dst : Int
  src : Int
  off : Int
  imm : Int
  deriving DecidableEq
def Ins.zero : Ins := ⟨0, 0, 0, 0, 0⟩
def insC (x : Ins) : List Value := [.int .u8 x.op, .int .u8 x.dst, .int .u8 x.src, .int .i16 x.off, .int .i32 x.imm]
/-- An instruction (and the label to which it goes, 0: none), or a label (above 0) that stands here. -/
structure RowS where
  i : Ins
  to : Nat
  here : Nat
def ins (x : Ins) (to : Nat) : RowS := ⟨x, to, 0⟩
def lab (l : Nat) : RowS := ⟨.zero, 0, l⟩
def w16 (n : Int) : Int := IntKind.wrap .i16 n
def w32 (n : Int) : Int := IntKind.wrap .i32 n
def iNum (op r n : Int) : Ins := ⟨16 * op + 7, r, 0, 0, n⟩
def iRegs (op r s : Int) : Ins := ⟨16 * op + 15, r, s, 0, 0⟩
def iLow (n : Int) : Ins := ⟨180, 0, 0, 0, n⟩
def iExit : Ins := ⟨149, 0, 0, 0, 0⟩
def iConst (n : Int) : Ins := ⟨24, 3, 0, 0, w32 (n % 4294967296)⟩
def iHigh (n : Int) : Ins := ⟨0, 0, 0, 0, w32 (n / 4294967296)⟩
def sizeK (size : Int) : Int := if size = 4 then 0 else if size = 2 then 1 else if size = 1 then 2 else 3
def iLoad (size r s off : Int) : Ins := ⟨97 + 8 * sizeK size, r, s, w16 off, 0⟩
def iIf (op r n : Int) : Ins := ⟨16 * op + 5, r, 0, 0, n⟩
def iIfR (op : Int) : Ins := ⟨16 * op + 13, 2, 3, 0, 0⟩
def iGoto : Ins := ⟨5, 0, 0, 0, 0⟩
def iSwap (size : Int) : Ins := ⟨215, 2, 0, 0, 8 * size⟩
def codeC (c : List Ins) : List Value := c.flatMap insC
def sz4 (z : Int) : Prop := z = 1 ∨ z = 2 ∨ z = 4 ∨ z = 8
def op4 (op : Int) : Prop := op = 3 ∨ op = 5 ∨ op = 10 ∨ op = 2 ∨ op = 1
def reg10 (d : Int) : Prop := 0 ≤ d ∧ d ≤ 9
/-- A jump's instruction, its distance set. -/
def offS (x : Ins) (o : Int) : Ins := { x with off := o }
/-- Instructions that stand alone; no jumps. -/
inductive OkI : Ins → Prop
  | movI {d n : Int} : reg10 d → OkI (iNum 11 d n)
  | andI {d n : Int} : reg10 d → OkI (iNum 5 d n)
  | movR {d s : Int} : reg10 d → reg10 s → OkI (iRegs 11 d s)
  | andR {d s : Int} : reg10 d → reg10 s → OkI (iRegs 5 d s)
  | low {n : Int} : OkI (iLow n)
  | exit : OkI iExit
  | load {z d s o : Int} : sz4 z → reg10 d → reg10 s → OkI (iLoad z d s o)
  | swap {z : Int} : sz4 z → 1 < z → OkI (iSwap z)
/-- Jumps, their distance open. -/
inductive OkJ : Ins → Prop
  | jif {op d n : Int} : op4 op → reg10 d → OkJ (iIf op d n)
  | jifR {op : Int} : op = 10 ∨ op = 2 → OkJ (iIfR op)
  | goto : OkJ iGoto
/-- Rows in their units. -/
inductive Un : List RowS → Prop
  | nil : Un []
  | lab {l : Nat} {s : List RowS} : Un s → Un (lab (l + 1) :: s)
  | one {x : Ins} {s : List RowS} : OkI x → Un s → Un (ins x 0 :: s)
  | jump {x : Ins} {l : Nat} {s : List RowS} : OkJ x → Un s → Un (ins x (l + 1) :: s)
  | two {n : Int} {s : List RowS} : Un s → Un (ins (iConst n) 0 :: ins (iHigh n) 0 :: s)
def plI (x : Ins) : Nat := if x.op = 24 then 2 else 1
def startsGo (c : List Ins) : Nat → Nat → List Nat
  | 0, _ => []
  | k + 1, p => match c[p]? with | some x => p :: startsGo c k (p + plI x) | none => []
def startsL (c : List Ins) : List Nat := startsGo c c.length 0
/-- What a check finds at a place at which an instruction begins. -/
def Found (c : List Ins) (p : Nat) : Prop :=
  (∃ x, OkI x ∧ c[p]? = some x) ∨ (∃ x o, ∃ q ∈ startsL c, OkJ x ∧ c[p]? = some (offS x o) ∧ -32768 ≤ o ∧ o ≤ 32767 ∧ (q : Int) = (p : Int) + 1 + o) ∨ (∃ n, c[p]? = some (iConst n) ∧ c[p + 1]? = some (iHigh n))
end Go.Cmp
/-
  FBase: the seat's program; the package variable 'sizes'; small lemmas.
-/
namespace Go.Proofs.YtipdeijgaabobaaGreatDoor
open Go Go.DI Go.DI.Kit Go.Proofs Go.Cmp
noncomputable section
def kp : TypeId → Bool := among [24, 35, 37, 39, 41, 44, 47, 51, 53, 62, 85]
theorem hK : Plain Tryz.prog kp := plain_among (by kernel_rfl)
theorem hng : NoNG Tryz.prog := noNG_of (by kernel_rfl)
def gl : List Value := [.int .i64 4, .int .i64 2, .int .i64 1, .int .i64 8]
section
variable {K K' : Keep} {mp : Nat} {rows : List RowS} {labs : List (Nat × Nat)} {fr : Nat → Prop} {M M' : Mem}
variable {o : Orc} {k : Nat}
theorem Ext.fresh {m : Mem} {x y : Blk} : Ext m ((m.push x).set m.size y) := by
  refine ⟨by show m.size ≤ m.size + 1; omega, fun j hj => ?_, fun t j hj => ?_⟩
  · rw [Mem.get_set_ne _ (by omega), Mem.get_push_ne _ (by omega)]
  · have hj : m.size + 1 ≤ j := hj
    rw [Mem.get_set_ne _ (by omega), Mem.get_push_ne _ (by omega)]; exact t j (by omega)
end
noncomputable def ansX {A : Type} (r : Option (H.TT A)) : Option (A × List Prop) := r.map fun x => (x.1, x.2.2)
noncomputable def evenX {A : Type} (r : Option (H.TT A)) : Prop := (r.map fun x => x.2.1.map Prod.fst) = (r.map fun x => x.2.1.map Prod.snd)
noncomputable def ptrV (p o : Nat) : Value := .pointer (some ⟨p, o, none⟩)
section
variable {l : List Ins} {pk : List Int} {port v : Int} {o1 o2 : Bool}
theorem top_mS (ss : List Blk) : (mS gl ss).top := fun j hj => by
  have e : (mS gl ss).size = 1 + ss.length := by unfold mS; rw [foldl_push_size, mG_size]
  rw [e] at hj
  have := foldl_push_get ss (mG gl) j
  unfold mS
  rw [this, mG_size, if_neg (by omega), List.getElem?_eq_none (by omega)]
  exact mG_top gl j (by rw [mG_size]; omega)
end
theorem free_gl : ∀ x ∈ gl, Free x := by
  intro x hx
  simp only [gl, List.mem_cons, List.not_mem_nil, or_false] at hx
  rcases hx with h | h | h | h <;> (rw [h]; exact free_int _ _)
theorem hasB {f : FuncId} (h : (match Tryz.prog.funcs[f]? with | some fn => !fn.body.isNone | none => false) = true) : ∃ fn, Tryz.prog.funcs[f]? = some fn ∧ fn.body.isNone = false ∧ (fn.name == "runtime.NumGoroutine") = false := by
  cases hf : Tryz.prog.funcs[f]? with
  | none => rw [hf] at h; cases h
  | some fn =>
    rw [hf] at h
    simp only [Bool.not_eq_true'] at h
    exact ⟨fn, rfl, h, hng f fn hf h⟩
abbrev p1 : List Value := [.pointer (some ⟨1, 0, none⟩)]
def plainV : Value → Bool
  | .int _ _ => true
  | .bool _ => true
  | _ => false
theorem ren_plain {ρ : Nat → Nat} {v : Value} (h : plainV v = true) : renV ρ v = v := by cases v <;> simp [plainV] at h <;> rfl
theorem ren_plains {ρ : Nat → Nat} : ∀ {l : List Value}, l.all plainV = true → l.map (renV ρ) = l
  | [], _ => rfl
  | v :: l, h => by
    simp only [List.all_cons, Bool.and_eq_true] at h
    rw [List.map_cons, ren_plain h.1, ren_plains h.2]
theorem plain_ok {v : Value} (h : plainV v = true) : okV v = true := by cases v <;> simp [plainV] at h <;> rfl
theorem plain_seen {v : Value} {n : Nat} (h : plainV v = true) : Go.DI.Kit.seenV n v = true := by cases v <;> simp [plainV] at h <;> rfl
theorem codeC_plain (l : List Ins) : (codeC l).all plainV = true := by
  unfold codeC
  rw [List.all_flatMap, List.all_eq_true]
  intro x _
  rfl
/-- What a check of the image looks at. -/
structure ShapeOk (l : List Ins) : Prop where
  pos : l ≠ []
  most : l.length ≤ 512
  found : ∀ p ∈ startsL l, Go.Cmp.Found l p
  last : ∃ init p, startsL l = init ++ [p] ∧ l[p]? = some iExit
def sliceN (b : Nat) (n : Nat) : Value := .slice (some ⟨b, 0, none⟩) n n
def imgV (v : Value) : Value := .agg ⟨[.slice none 0 0, v]⟩
section
variable {M : Mem} {K : Keep} {c k : Nat} {l : List Ins} {pk : List Int} {port : Int} {o1 o2 : Bool}
theorem fits1 (hM : M.top) (h0 : M.get 0 = .cells false gl) (h1 : 1 ≤ M.size) (hc : c < M.size) (hc0 : c ≠ 0) (gc : M.get c = .cells o1 (codeC l)) : Fits gl [c] [M.get c] M := by
  refine ⟨hM, h0, h1, rfl, fun b hb => ?_, ?_, ?_, fun i b s hi hs => ?_, fun s hs => ?_⟩
  · obtain rfl := List.mem_singleton.1 hb; exact hc
  · simp only [List.mem_cons, List.not_mem_nil, or_false]
    exact fun h => hc0 h.symm
  · simp
  · rcases i with _ | i
    · cases hi; cases hs
      rw [gc]
      show _ = Blk.cells o1 _
      rw [ren_plains (codeC_plain l)]
    · cases hi
  · obtain rfl := List.mem_singleton.1 hs
    rw [gc]
    exact ⟨fun v hv => plain_ok (List.all_eq_true.1 (codeC_plain l) v hv), fun v hv => plain_seen (List.all_eq_true.1 (codeC_plain l) v hv)⟩
end
theorem wrap_i64 {x : Int} (h : -9223372036854775808 ≤ x ∧ x ≤ 9223372036854775807) : IntKind.wrap .i64 x = x := IntWalk.i64_in _ h
theorem hmix : Tryz.prog.follows .mixedOrders = true := by kernel_rfl
section
variable {X : Type} {g : X → List Value} {z : Nat}
theorem chunk_len (hz : ∀ x, (g x).length = z) : ∀ l : List X, (l.flatMap g).length = l.length * z
  | [] => by simp
  | x :: l => by
    have ih := chunk_len hz l
    simp only [List.flatMap_cons, List.length_append, ih, hz, List.length_cons]
    rw [Nat.add_mul, Nat.one_mul]; omega
theorem chunk_drop (hz : ∀ x, (g x).length = z) : ∀ (l : List X) (j : Nat) (x : X), l[j]? = some x → ∃ r, (l.flatMap g).drop (j * z) = g x ++ r
  | [], j, x, h => by simp at h
  | y :: l, 0, x, h => by simp at h; subst h; exact ⟨l.flatMap g, by simp⟩
  | y :: l, j + 1, x, h => by
    obtain ⟨r, hr⟩ := chunk_drop hz l j x (by simpa using h)
    refine ⟨r, ?_⟩
    have e : (j + 1) * z = (g y).length + j * z := by rw [hz, Nat.add_mul, Nat.one_mul]; omega
    rw [e, List.flatMap_cons, ← List.drop_drop, List.drop_left]
    exact hr
end
theorem insC_len (x : Ins) : (insC x).length = 5 := rfl
def pIx (at_ : Int) (n : Nat) : Prop := 0 ≤ at_ ∧ at_ < (n : Int)
def pLd (L : List Value) (at_ : Int) (x : List Value) : Prop := H.ldOk (.cells true L) (Nat.add 0 (Nat.mul at_.toNat 5)) true 5 (.agg ⟨x⟩)
theorem props2 {l : List Ins} {p : Nat} {x : Ins} (hx : l[p]? = some x) : pIx (p : Int) l.length ∧ pLd (codeC l) (p : Int) (insC x) := by
  have hp := (List.getElem?_eq_some_iff.1 hx).1
  refine ⟨⟨by omega, by omega⟩, insC x, ?_, rfl⟩
  have e : Nat.add 0 (Nat.mul ((p : Int)).toNat 5) = p * 5 := by show 0 + (p : Int).toNat * 5 = _; omega
  rw [e]
  show (if p * 5 + 5 ≤ (codeC l).length then some (((codeC l).drop (p * 5)).take 5) else none) = _
  have hl : (codeC l).length = l.length * 5 := chunk_len insC_len l
  rw [if_pos (by rw [hl]; omega)]
  obtain ⟨r, hr⟩ := chunk_drop insC_len l p x hx
  unfold codeC
  rw [hr]
  rfl
noncomputable def never : List Value → Mem → Value → Prop := fun _ _ _ => False
noncomputable def imgC (v : Value) : List Value := [.slice none 0 0, v]
end
end Go.Proofs.YtipdeijgaabobaaGreatDoor
/-
  DiRF6: a part of a region's operations, by a run with hints.
-/
namespace Go.DI
open Go.DI.Kit
noncomputable section
section
variable {P : Program} {K : TypeId → Bool} {M M' : Mem} {h : H.Hint} {o : Orc} {N k : Nat} {ops l : List Oper} {ds : List Nat} {vs : List Value} {qs : List Prop} {x : Nat → Value}
noncomputable def pcO (h : H.Hint) (P : Program) (K : TypeId → Bool) (ops l : List Oper) (N : Nat) (ds : List Nat) (t : Tmps) (M : Mem) : Option (H.TT (List Value × Mem)) :=
  H.opsH h l P K 1 (H.callT h P K 1 20) N ops t M fun t m => some ((ds.map t.at, m), [], [])
variable {G : Nat} {cf : DFun} {t t' t2 : Tmps} {m m' m2 : Mem}
variable {c : Code} {e : Ex} {M0 M1 M2 : Mem} {t1 : Tmps}
theorem codeL_cut (i : Nat) (l : List Code) (h : codeD P K G cf (drawD P K G cf N) N k (seqL (l.take i)) t m = some (.normal, t', m')) : codeD P K G cf (drawD P K G cf N) N k (seqL l) t m = codeD P K G cf (drawD P K G cf N) N k (seqL (l.drop i)) t' m' := by
  rw [codeD_seqL, ← List.take_append_drop i l, runLD_app, ← codeD_seqL, h]
  simp only [List.take_append_drop]
  rw [codeD_seqL]
theorem codeL_cutE (i : Nat) (l : List Code) (he : e ≠ .normal) (h : codeD P K G cf (drawD P K G cf N) N k (seqL (l.take i)) t m = some (e, t', m')) : codeD P K G cf (drawD P K G cf N) N k (seqL l) t m = some (e, t', m') := by
  rw [codeD_seqL, ← List.take_append_drop i l, runLD_app, ← codeD_seqL, h]
  cases e with
  | normal => exact absurd rfl he
  | exit id => rfl
  | ret => rfl
end
end
end Go.DI
/-
  DiX: a closed run in the symbolic form, some calls told by an oracle that the kernel works out.
-/
namespace Go.DI.H
open Go.DI.Y
noncomputable section
variable {β : Type}
def callX (H : Hint) (R : Orc) (P : Program) (K : TypeId → Bool) (G : Nat) (k : Nat) : CF (TT β) :=
  Nat.rec (motive := fun _ => CF (TT β)) (fun _ _ _ _ => none) (fun k ih f args m q => Option.rec (motive := fun _ => Option (TT β)) (Option.rec (motive := fun _ => Option (TT β)) none (fun fn => Option.rec (motive := fun _ => Option (TT β)) none (fun c => runT H P K G k ih fn c args m q) fn.body) P.funcs[f]?)
    (fun r => q r.1 r.2) (R f args m)) k
theorem callX_fac (H : Hint) (P : Program) (K : TypeId → Bool) (G : Nat) (o : Orc) : ∀ (k : Nat) (f : FuncId) (args : List Value) (m : Mem), FacV (callX H o P K G k f args m : (Value → Mem → Option (TT β)) → Option (TT β)) (callO P K G o k f args m)
  | 0, f, args, m => fun q b ps hq => by cases hq
  | k + 1, f, args, m => fun q b ps hq hg => by
    have ih : ∀ f args m, FacV (callX H o P K G k f args m : (Value → Mem → Option (TT β)) → Option (TT β)) (callO P K G o k f args m) := callX_fac H P K G o k
    have hq : Option.rec (motive := fun _ => Option (TT β)) (Option.rec (motive := fun _ => Option (TT β)) none (fun fn => Option.rec (motive := fun _ => Option (TT β)) none (fun c => runT H P K G k (callX H o P K G k) fn c args m fun v m => q (v, m)) fn.body) P.funcs[f]?)
      (fun r => q (r.1, r.2)) (o f args m) = some (b, ps) := hq
    simp only [callO]
    cases hc : o f args m with
    | some r =>
      rw [hc] at hq
      exact ⟨r, rfl, ps, hq, hg⟩
    | none =>
    rw [hc] at hq
    simp only [bodyD]
    cases hf : P.funcs[f]? with
    | none => rw [hf] at hq; cases hq
    | some fn =>
      rw [hf] at hq
      simp only at hq ⊢
      cases hb : fn.body with
      | none => rw [hb] at hq; cases hq
      | some c =>
        rw [hb] at hq
        simp only [runT, initF_eq, resF_eq] at hq ⊢
        obtain ⟨⟨e, t', m'⟩, h1, ps1, h2, g2⟩ := code_fac H ih (max args.length fn.ntmps) k c (initT 0 args) m (fun p => Ex.rec (motive := fun _ => Option (TT β)) (ob (resD P p.2.1 p.2.2 fn.results.toList) fun vs => q (resV vs, p.2.2)) (fun _ => none) (ob (resD P p.2.1 p.2.2 fn.results.toList) fun vs => q (resV vs, p.2.2)) p.1) b ps hq hg
        rw [h1]
        cases e with
        | exit id => cases h2
        | normal =>
          have h2 : (ob (resD P t' m' fn.results.toList) fun vs => q (resV vs, m')) = some (b, ps1) := h2
          simp only
          cases hr : resD P t' m' fn.results.toList with
          | none => rw [hr] at h2; cases h2
          | some vs => rw [hr] at h2; exact ⟨_, rfl, ps1, h2, g2⟩
        | ret =>
          have h2 : (ob (resD P t' m' fn.results.toList) fun vs => q (resV vs, m')) = some (b, ps1) := h2
          simp only
          cases hr : resD P t' m' fn.results.toList with
          | none => rw [hr] at h2; cases h2
          | some vs => rw [hr] at h2; exact ⟨_, rfl, ps1, h2, g2⟩
def noHint : Hint where
  ix _ := false
  ld _ _ _ := none
  cmp _ _ := none
  ap _ := none
  call _ := none
  spec _ _ _ _ := False
  blk := 0
/-- A call, by a run with an oracle; nothing is asked. -/
theorem callX_run {P : Program} {K : TypeId → Bool} {G : Nat} {o : Orc} {k : Nat} {f : FuncId} {args : List Value} {m : Mem} {g : Value → Mem → β} {b : β}
    (hr : ((callX noHint o P K G k f args m fun v m => some (g v m, [], [])).map fun x => (x.1, x.2.2)) = some (b, []))
    (hp : ((callX noHint o P K G k f args m fun v m => some (g v m, [], [])).map fun x => x.2.1.map Prod.fst) = ((callX noHint o P K G k f args m fun v m => some (g v m, [], [])).map fun x => x.2.1.map Prod.snd)) :
    ∃ v m', callO P K G o k f args m = some (v, m') ∧ g v m' = b := by
  cases hx : callX noHint o P K G k f args m fun v m => some (g v m, [], []) with
  | none => rw [hx] at hr; cases hr
  | some r =>
    obtain ⟨b', ps, qs'⟩ := r
    rw [hx] at hr hp
    have hr : some (b', qs') = some (b, []) := hr
    simp only [Option.some.injEq, Prod.mk.injEq] at hr
    obtain ⟨rfl, rfl⟩ := hr
    have hp : some (ps.map Prod.fst) = some (ps.map Prod.snd) := hp
    obtain ⟨⟨v, m'⟩, q1, ps', q2, _⟩ := callX_fac noHint P K G o k f args m (fun p => some (g p.1 p.2, [], [])) b' (ps, []) hx (good_of (Option.some.inj hp) (by simp))
    simp only [Option.some.injEq, Prod.mk.injEq] at q2
    exact ⟨v, m', q1, q2.1⟩
end
end Go.DI.H
/-
  DiZ: a body by a run with hints, its calls told one by one; functions that change nothing, told by what they answer on the empty memory.
-/
namespace Go.DI
open Go.DI.Kit
noncomputable section
abbrev Tab := FuncId → List Value → Option Value
/-- What a table tells is so. -/
def Tells (T : Tab) (o : Orc) : Prop := ∀ f a v M, T f a = some v → o f a M = some (v, M)
section
variable {β : Type}
def callZ (A T : Tab) (Q o : Orc) : Y.CF (H.TT β) := fun f args m q => Option.rec (motive := fun _ => Option (H.TT β)) (Option.rec (motive := fun _ => Option (H.TT β)) none (fun r => H.needs (o f args m = some r) (q r.1 r.2)) (Q f args m)) (fun v => H.needs (T f args = some v) (q v m)) (A f args)
theorem callZ_fac {A T : Tab} (Q : Orc) {o : Orc} (hT : Tells T o) (f : FuncId) (args : List Value) (m : Mem) : H.FacV (callZ A T Q o f args m : (Value → Mem → Option (H.TT β)) → Option (H.TT β)) (o f args m) := fun q b ps hq hg => by
  have hq : Option.rec (motive := fun _ => Option (H.TT β)) (Option.rec (motive := fun _ => Option (H.TT β)) none (fun r => H.needs (o f args m = some r) (q (r.1, r.2))) (Q f args m)) (fun v => H.needs (T f args = some v) (q (v, m))) (A f args) = some (b, ps) := hq
  cases ha : A f args with
  | some v =>
    rw [ha] at hq
    obtain ⟨h1, ps1, h2, g2⟩ := H.needs_some hq hg
    exact ⟨(v, m), hT _ _ _ _ h1, ps1, h2, g2⟩
  | none =>
    rw [ha] at hq
    simp only at hq
    cases hr : Q f args m with
    | none => rw [hr] at hq; cases hq
    | some r =>
      rw [hr] at hq
      obtain ⟨h1, ps1, h2, g2⟩ := H.needs_some hq hg
      exact ⟨r, h1, ps1, h2, g2⟩
end
section
variable {P : Program} {K : TypeId → Bool} {G : Nat} {M M' : Mem} {h : H.Hint} {A T : Tab} {Q o : Orc} {N k : Nat} {c : Code} {ds : List Nat} {vs : List Value} {qs : List Prop} {e : Ex} {x : Nat → Value}
noncomputable def pcZ (h : H.Hint) (A T : Tab) (Q o : Orc) (P : Program) (K : TypeId → Bool) (G k : Nat) (c : Code) (N : Nat) (ds : List Nat) (t : Tmps) (M : Mem) : Option (H.TT (Ex × List Value × Mem)) :=
  H.codeT h c P K G (callZ A T Q o) (fun body _ k t m q => Y.loopF body k t m q) N k t M fun e t m => some ((e, ds.map t.at, m), [], [])
theorem pcZ_full (hT : Tells T o) (hs : SetLaw N) (hd : ds.all (fun d => Nat.blt d N) = true)
    (hr : (pcZ h A T Q o P K G k c N ds (fullN N x) M).map (fun x => (x.1, x.2.2)) = some ((e, vs, M'), qs)) (hp : ((pcZ h A T Q o P K G k c N ds (fullN N x) M).map fun x => x.2.1.map Prod.fst) = ((pcZ h A T Q o P K G k c N ds (fullN N x) M).map fun x => x.2.1.map Prod.snd)) (hq : ∀ q ∈ qs, q) :
    ∃ x', codeD P K G o (drawD P K G o N) N k c (fullN N x) M = some (e, fullN N (up x' (ds.zip vs)), M') := by
  cases hx : pcZ h A T Q o P K G k c N ds (fullN N x) M with
  | none => rw [hx] at hr; cases hr
  | some r =>
    obtain ⟨b', ps, qs'⟩ := r
    rw [hx] at hr hp
    have hr : some (b', qs') = some ((e, vs, M'), qs) := hr
    simp only [Option.some.injEq, Prod.mk.injEq] at hr
    obtain ⟨rfl, rfl⟩ := hr
    have hp : some (ps.map Prod.fst) = some (ps.map Prod.snd) := hp
    obtain ⟨⟨e', t', m'⟩, q1, ps', q2, _⟩ := H.code_fac h (callZ_fac Q hT) N k c (fullN N x) M (fun p => some ((p.1, ds.map p.2.1.at, p.2.2), [], [])) (e, vs, M') (ps, qs') hx (H.good_of (Option.some.inj hp) hq)
    simp only [Option.some.injEq, Prod.mk.injEq] at q2
    obtain ⟨⟨q3, q4, q5⟩, _⟩ := q2
    subst q3 q5
    obtain ⟨y, rfl⟩ := codeD_full hs _ _ _ _ _ _ q1 ⟨x, rfl⟩
    refine ⟨y, ?_⟩
    rw [q1, up_self y (ds.zip vs) fun p hp => ?_]
    rw [← q4] at hp
    have h3 := zip_at hp
    have h4 : p.1 < N := Nat.blt_eq ▸ (List.all_eq_true.1 hd p.1 h3.1)
    rw [fullN_at, if_pos h4] at h3
    exact h3.2
variable {β : Type}
noncomputable def fnZ (h : H.Hint) (A T : Tab) (Q o : Orc) (P : Program) (K : TypeId → Bool) (G k : Nat) (fn : Func) (c : Code) (N : Nat) (args : List Value) (M : Mem) (g : Value → Mem → β) : Option (H.TT β) :=
  H.codeT h c P K G (callZ A T Q o) (fun body _ k t m q => Y.loopF body k t m q) N k (fullN N (argX args)) M fun e t m => Ex.rec (motive := fun _ => Option (H.TT β)) (Y.resF fn.results.toList P t m fun vs => some (g (resV vs) m, [], [])) (fun _ => none) (Y.resF fn.results.toList P t m fun vs => some (g (resV vs) m, [], [])) e
theorem fnZ_run {f : FuncId} {fn : Func} {args : List Value} {g : Value → Mem → β} {b : β} (hT : Tells T o) (hf : P.funcs[f]? = some fn) (hc : fn.body = some c) (hn : max args.length fn.ntmps = N)
    (hr : (fnZ h A T Q o P K G k fn c N args M g).map (fun x => (x.1, x.2.2)) = some (b, qs)) (hp : ((fnZ h A T Q o P K G k fn c N args M g).map fun x => x.2.1.map Prod.fst) = ((fnZ h A T Q o P K G k fn c N args M g).map fun x => x.2.1.map Prod.snd)) (hq : ∀ q ∈ qs, q) :
    ∃ v m', bodyN P K G o k f args M = some (v, m') ∧ g v m' = b := by
  cases hx : fnZ h A T Q o P K G k fn c N args M g with
  | none => rw [hx] at hr; cases hr
  | some r =>
    obtain ⟨b', ps, qs'⟩ := r
    rw [hx] at hr hp
    have hr : some (b', qs') = some (b, qs) := hr
    simp only [Option.some.injEq, Prod.mk.injEq] at hr
    obtain ⟨rfl, rfl⟩ := hr
    have hp : some (ps.map Prod.fst) = some (ps.map Prod.snd) := hp
    unfold fnZ at hx
    simp only [Y.resF_eq] at hx
    obtain ⟨⟨e', t', m'⟩, q1, ps', q2, _⟩ := H.code_fac h (callZ_fac Q hT) N k c (fullN N (argX args)) M (fun p => Ex.rec (motive := fun _ => Option (H.TT β)) (Y.ob (resD P p.2.1 p.2.2 fn.results.toList) fun vs => some (g (resV vs) p.2.2, [], [])) (fun _ => none) (Y.ob (resD P p.2.1 p.2.2 fn.results.toList) fun vs => some (g (resV vs) p.2.2, [], [])) p.1) b' (ps, qs') hx (H.good_of (Option.some.inj hp) hq)
    unfold bodyN
    rw [hf]
    simp only
    rw [hc]
    simp only
    rw [hn, q1]
    cases e' with
    | exit id => cases q2
    | normal =>
      have q2 : (Y.ob (resD P t' m' fn.results.toList) fun vs => some (g (resV vs) m', [], [])) = some (b', ps') := q2
      simp only [endD]
      cases hrs : resD P t' m' fn.results.toList with
      | none => rw [hrs] at q2; cases q2
      | some vs =>
        rw [hrs] at q2
        simp only [Y.ob_some, Option.some.injEq, Prod.mk.injEq] at q2
        exact ⟨_, _, rfl, q2.1⟩
    | ret =>
      have q2 : (Y.ob (resD P t' m' fn.results.toList) fun vs => some (g (resV vs) m', [], [])) = some (b', ps') := q2
      simp only [endD]
      cases hrs : resD P t' m' fn.results.toList with
      | none => rw [hrs] at q2; cases q2
      | some vs =>
        rw [hrs] at q2
        simp only [Y.ob_some, Option.some.injEq, Prod.mk.injEq] at q2
        exact ⟨_, _, rfl, q2.1⟩
end
/-! ### functions that change nothing and look at no variable -/
def oTab (T : Tab) : Orc := fun f a M => Option.rec (motive := fun _ => Option (Value × Mem)) none (fun v => some (v, M)) (T f a)
def TabOK (P : Program) (T : Tab) : Prop := ∀ f a v, T f a = some v → a.all plain1 = true ∧ plain2 v = true ∧ ∃ (R : Orc) (m : Mem), (∀ B0, CfOK P B0 0 R) ∧ CfGrw R ∧ R f a m0 = some (v, m)
theorem oTab_some {T : Tab} {f : FuncId} {a : List Value} {M M' : Mem} {v : Value} (h : oTab T f a M = some (v, M')) : T f a = some v ∧ M' = M := by
  unfold oTab at h
  cases hT : T f a with
  | none => rw [hT] at h; cases h
  | some u =>
    rw [hT] at h
    have h : some (u, M) = some (v, M') := h
    simp only [Option.some.injEq, Prod.mk.injEq] at h
    exact ⟨by rw [h.1], h.2.symm⟩
theorem oTab_of {T : Tab} {f : FuncId} {a : List Value} {v : Value} (M : Mem) (h : T f a = some v) : oTab T f a M = some (v, M) := by
  unfold oTab; rw [h]
theorem tells_tab (T : Tab) : Tells T (oTab T) := fun _ _ _ M h => oTab_of M h
theorem sims_plain (ρ : Nat → Nat) (k : Nat → Bool) : ∀ {a : List Value}, a.all plain1 = true → VSims ρ k a a
  | [], _ => .nil
  | v :: l, h => by
    simp only [List.all_cons, Bool.and_eq_true] at h
    exact .cons ((plain1_free h.1).sim ρ k) (sims_plain ρ k h.2)
theorem m0_top : m0.top := fun _ _ => rfl
theorem pure_ok {P : Program} {B0 G : Nat} {R : Orc} (hR : ∀ B0, CfOK P B0 0 R) (hRg : CfGrw R) {f : FuncId} {a : List Value} {v : Value} {m : Mem} (ha : a.all plain1 = true) (hv : plain2 v = true) (h : R f a m0 = some (v, m)) (M : Mem) : CallOK P B0 G f a M v M := by
  intro ι w args' hr
  have hl : LocalN id (fun _ => false) m0 m M M := ⟨fun _ h => (by cases h), hRg _ _ _ _ _ h, m0_top, hr.top, fun _ h => (by cases h), fun _ _ h => (by cases h), rfl, fun _ h => (by cases h), fun _ h => (by cases h), fun _ _ _ => rfl⟩
  exact embedN 0 (fun g hg => by omega) ((hR B0).ok _ _ _ _ _ h) hl (sims_plain _ _ ha) ((plain2_free hv).embA _ _) ι w args' hr
theorem oTab_grw (T : Tab) : CfGrw (oTab T) := fun f a M v M' h => by
  obtain ⟨_, rfl⟩ := oTab_some h
  exact Grw.refl _
theorem oTab_ok {P : Program} {T : Tab} (hT : TabOK P T) (B0 G : Nat) : CfOK P B0 G (oTab T) :=
  ⟨fun f a M v M' h => (oTab_grw T f a M v M' h).size, fun f a M v M' h => by
    obtain ⟨h1, rfl⟩ := oTab_some h
    obtain ⟨h2, h3, R, m, h4, h5, h6⟩ := hT f a v h1
    exact pure_ok h4 h5 h2 h3 h6 M', fun f a M v M' h => by
    obtain ⟨h1, rfl⟩ := oTab_some h
    obtain ⟨_, _, R, m, h4, _, h6⟩ := hT f a v h1
    exact (h4 B0).body _ _ _ _ _ h6⟩
/-- Two tables. -/
def tAlt (T T' : Tab) : Tab := fun f a => match T f a with
  | some v => some v
  | none => T' f a
theorem tAlt_ok {P : Program} {T T' : Tab} (h : TabOK P T) (h' : TabOK P T') : TabOK P (tAlt T T') := fun f a v g => by
  unfold tAlt at g
  cases hq : T f a with
  | some u => rw [hq] at g; simp only [Option.some.injEq] at g; subst g; exact h _ _ _ hq
  | none => rw [hq] at g; exact h' _ _ _ g
/-- A hint that tells by the names of what is set. -/
def lkN (l : List (Nat × Value)) (n : Nat) : Option Value := List.rec (motive := fun _ => Option Value) none (fun p _ ih => cond (Nat.beq p.1 n) (some p.2) ih) l
def lkB (l : List (Nat × Bool)) (n : Nat) : Option Value := List.rec (motive := fun _ => Option Value) none (fun p _ ih => cond (Nat.beq p.1 n) (some (.bool p.2)) ih) l
def hAt (f : Tmp → Option Value) : H.Hint where
  ix _ := false
  ld _ _ _ := none
  cmp _ _ := none
  ap _ := none
  call _ := none
  spec _ _ _ _ := False
  blk := 0
  at_ := f
def noQ : Orc := fun _ _ _ => none
def noAt : Tmp → Option Value := fun _ => none
def noA : Tab := fun _ _ => none
def ansB (T : Tab) (f : FuncId) (a : List Value) : Bool := match T f a with
  | some (.bool b) => b
  | _ => false
theorem ansB_of {T : Tab} {f : FuncId} {a : List Value} {b : Bool} (h : T f a = some (.bool b)) : ansB T f a = b := by unfold ansB; rw [h]
theorem said_B {T : Tab} {f : FuncId} {a : List Value} {b : Bool} (h : T f a = some (.bool b)) : T f a = some (.bool (ansB T f a)) := by rw [ansB_of h, h]
theorem val_B {T : Tab} {f : FuncId} {a : List Value} {b : Bool} (h : T f a = some (.bool b)) : Value.bool (ansB T f a) = .bool b := by rw [ansB_of h]
theorem not_B {T : Tab} {f : FuncId} {a : List Value} {b : Bool} (h : T f a = some (.bool b)) : unD .not (.bool (ansB T f a)) = some (.bool (!b)) := by rw [ansB_of h]; rfl
/-- Questions: of some functions whether; of others what, told beforehand. -/
def qA (T : Tab) (bs : List FuncId) (vs : List (Nat × Value)) : Tab := fun f a => cond (bs.any (Nat.beq f)) (some (.bool (ansB T f a))) (lkN vs f)
theorem cons_p {p : Prop} {l : List Prop} (h : p) (hl : ∀ q ∈ l, q) : ∀ q ∈ p :: l, q := fun q hq => by
  rcases List.mem_cons.1 hq with rfl | hq
  · exact h
  · exact hl q hq
theorem nil_p : ∀ q ∈ ([] : List Prop), q := fun q hq => by cases hq
theorem if_p {b : Bool} {l r : List Prop} (h : b = true → ∀ q ∈ l, q) (h' : b = false → ∀ q ∈ r, q) : ∀ q ∈ cond b l r, q := by
  cases b
  · exact h' rfl
  · exact h rfl
end
end Go.DI
/-
  PState: what is known of a register, a slot, a state, in plain Lean: which may be, which is in which.
-/
namespace Go.Crt
open Go Go.DI
abbrev U := BitVec 64
/-! ### numbers: bits and spans -/
def fitV (v any : U) : U := v &&& ~~~any
def lenN (n : Nat) : Nat := if n = 0 then 0 else Nat.log2 n + 1
def lenU (x : U) : Nat := lenN x.toNat
def rngM (lo hi : U) : U := if lenU (lo ^^^ hi) = 64 then BitVec.allOnes 64 else (1#64 <<< lenU (lo ^^^ hi)) - 1
def rngV (lo hi : U) : U := fitV lo (rngM lo hi)
def meetOk (v m v' m' : U) : Bool := (v &&& m == 0) && (v' &&& m' == 0) && ((v ^^^ v') &&& ~~~(m ||| m') == 0)
def meetM (m m' : U) : U := m &&& m'
def meetV (v m v' m' : U) : U := fitV (v ||| v') (m &&& m')
def spMay (lo hi : U) : Bool := decide ((lo.toNat : Int) ≤ hi.toNat)
def maxU (a b : U) : U := if a.toNat < b.toNat then b else a
def minU (a b : U) : U := if b.toNat < a.toNat then b else a
/-- One number: what is known of it. -/
structure Sc where
  V : U
  M : U
  lo : U
  hi : U
  deriving DecidableEq
def Sc.all : Sc := ⟨0, BitVec.allOnes 64, 0, BitVec.allOnes 64⟩
def Sc.of (n : U) : Sc := ⟨n, 0, n, n⟩
/-- May it be: it is what it settles to. -/
def mayS (s : Sc) : Bool :=
  (s.V &&& s.M == 0) && (spMay s.lo s.hi) && (maxU s.lo s.V == s.lo && minU s.hi (s.V ||| s.M) == s.hi) &&
  (meetOk s.V s.M (rngV s.lo s.hi) (rngM s.lo s.hi) && (meetV s.V s.M (rngV s.lo s.hi) (rngM s.lo s.hi) == s.V && meetM s.M (rngM s.lo s.hi) == s.M))
def inT (v m v' m' : U) : Bool := (v &&& m == 0) && ((v' &&& m' == 0) && (v &&& ~~~m' == v')) && (m &&& ~~~m' == 0)
def inSp (lo hi lo' hi' : U) : Bool := spMay lo hi && spMay lo' lo && spMay hi hi'
def inS (a b : Sc) : Bool := mayS a && mayS b && inT a.V a.M b.V b.M && inSp a.lo a.hi b.lo b.hi
/-! ### registers -/
structure Rg where
  kind : Int
  len : Bool
  map : Int
  s : Sc
  a : Int
  b : Int
  deriving DecidableEq
def Sc.zero : Sc := ⟨0, 0, 0, 0⟩
def Rg.zero : Rg := ⟨0, false, 0, .zero, 0, 0⟩
def far (r : Rg) : Bool := decide (-1048576 ≤ r.a) && decide (r.a ≤ r.b) && decide (r.b ≤ 1048576)
def mayR (r : Rg) : Bool :=
  if r.kind = 1 then mayS r.s && (!r.len || decide (r.s.hi.toNat ≤ 65535)) && decide (r = ⟨1, r.len, 0, r.s, 0, 0⟩)
  else if r.kind = 3 ∨ r.kind = 4 then far r && decide (r = ⟨r.kind, false, 0, .zero, r.a, r.b⟩)
  else if r.kind = 6 then far r && decide (0 ≤ r.map) && decide (r = ⟨6, false, r.map, .zero, r.a, r.b⟩)
  else if r.kind = 5 ∨ r.kind = 7 then decide (0 ≤ r.map) && decide (r = ⟨r.kind, false, r.map, .zero, 0, 0⟩)
  else if r.kind = 0 ∨ r.kind = 2 then decide (r = ⟨r.kind, false, 0, .zero, 0, 0⟩)
  else false
def nought (r : Rg) : Bool := decide (r.kind = 1) && decide (r.s.hi = 0)
def first (r : Rg) : Bool := decide (r.kind = 6) && decide (r.a = 0) && decide (r.b = 0)
def inR (a b : Rg) : Bool :=
  if b.kind = 0 then true
  else if b.kind = 7 ∧ a.kind ≠ 7 then nought a || first a && decide (a.map = b.map)
  else if a.kind ≠ b.kind ∨ a.map ≠ b.map then false
  else if a.kind = 1 then inS a.s b.s && (a.len || !b.len)
  else decide (b.a ≤ a.a) && decide (a.b ≤ b.b)
/-! ### slots -/
structure Sl where
  hav : BitVec 8
  r : Rg
  deriving DecidableEq
def maySl (x : Sl) : Bool := mayR x.r && (decide (x.r.kind = 0) || decide (x.hav = 255))
def sure (x : Sl) : BitVec 8 := if x.r.kind = 0 then x.hav else if x.r.kind = 1 then 255 else 0
def inSl (a b : Sl) : Bool :=
  if b.r.kind = 0 then sure a &&& b.hav == b.hav
  else if a.r.kind = 0 then decide (a.hav = 255) && decide (b.r = ⟨1, false, 0, .all, 0, 0⟩)
  else inR a.r b.r
/-! ### states -/
structure Stt where
  regs : List Rg
  stack : List Sl
  pkt : Int
  deriving DecidableEq
structure Stt.Ok (s : Stt) : Prop where
  regs : s.regs.length = 11
  stack : s.stack.length = 64
def maySt (s : Stt) : Bool := s.regs.all mayR && s.stack.all maySl && (decide (0 ≤ s.pkt) && decide (s.pkt ≤ 65535))
def allZ {A B : Type} (f : A → B → Bool) : List A → List B → Bool
  | a :: l, b :: m => f a b && allZ f l m
  | _, _ => true
def inSt (a b : Stt) : Bool := (maySt a && maySt b && !decide (a.pkt < b.pkt)) && allZ inR a.regs b.regs && allZ inSl a.stack b.stack
/-- A place, and what is known there. -/
structure Pt where
  at_ : Int
  s : Stt
  deriving DecidableEq
def covers (a b : Pt) : Bool := decide (a.at_ = b.at_) && inSt b.s a.s
/-! ### cells -/
def scC (s : Sc) : List Value := [.int .u64 (s.V.toNat : Int), .int .u64 (s.M.toNat : Int), .int .u64 (s.lo.toNat : Int), .int .u64 (s.hi.toNat : Int)]
def rgC (r : Rg) : List Value := [.int .u8 r.kind, .bool r.len, .int .i64 r.map, .int .u64 (r.s.V.toNat : Int), .int .u64 (r.s.M.toNat : Int), .int .u64 (r.s.lo.toNat : Int), .int .u64 (r.s.hi.toNat : Int), .int .i64 r.a, .int .i64 r.b]
def slC (x : Sl) : List Value := .int .u8 (x.hav.toNat : Int) :: rgC x.r
def stC (s : Stt) : List Value := s.regs.flatMap rgC ++ (s.stack.flatMap slC ++ [.int .i64 s.pkt])
def ptC (p : Pt) : List Value := .int .i64 p.at_ :: stC p.s
/-! ### out of cells -/
def isU (n : Int) : Bool := match n with | .ofNat n => Nat.blt n 18446744073709551616 | .negSucc _ => false
def isB (n : Int) : Bool := match n with | .ofNat n => Nat.blt n 256 | .negSucc _ => false
def rgD {A : Type} (l : List Value) (q : Rg → List Value → Option A) : Option A := match l with
  | .int .u8 k :: .bool le :: .int .i64 m :: .int .u64 v :: .int .u64 t :: .int .u64 lo :: .int .u64 hi :: .int .i64 a :: .int .i64 b :: r =>
    cond (isU v && (isU t && (isU lo && isU hi))) (q ⟨k, le, m, ⟨.ofNat 64 v.toNat, .ofNat 64 t.toNat, .ofNat 64 lo.toNat, .ofNat 64 hi.toNat⟩, a, b⟩ r) none
  | _ => none
def slD {A : Type} (l : List Value) (q : Sl → List Value → Option A) : Option A := match l with
  | .int .u8 h :: l => cond (isB h) (rgD l fun r l => q ⟨.ofNat 8 h.toNat, r⟩ l) none
  | _ => none
def rgsD {A : Type} : Nat → List Value → (List Rg → List Value → Option A) → Option A
  | 0, l, q => q [] l
  | n + 1, l, q => rgD l fun r l => rgsD n l fun rs l => q (r :: rs) l
def slsD {A : Type} : Nat → List Value → (List Sl → List Value → Option A) → Option A
  | 0, l, q => q [] l
  | n + 1, l, q => slD l fun r l => slsD n l fun rs l => q (r :: rs) l
def stD {A : Type} (l : List Value) (q : Stt → Option A) : Option A := rgsD 11 l fun rs l => slsD 64 l fun xs l => match l with
  | [.int .i64 p] => q ⟨rs, xs, p⟩
  | _ => none
/-- The two questions, asked of values. -/
def askMay (args : List Value) : Option Value := match args with
  | [.agg ⟨l⟩] => stD l fun s => some (.bool (maySt s))
  | _ => none
def askIn (args : List Value) : Option Value := match args with
  | [.agg ⟨l⟩, .agg ⟨l'⟩] => stD l fun s => stD l' fun s' => some (.bool (inSt s s'))
  | _ => none
end Go.Crt
/-
  FTab: the small functions of bits and spans, by what they answer.
-/
namespace Go.Proofs.YtipdeijgaabobaaGreatDoor
open Go Go.DI Go.DI.Kit Go.Proofs Go.Crt
noncomputable section
/-! ### out of values -/
abbrev u (x : U) : Value := .int .u64 (x.toNat : Int)
def u1 {A : Type} (v : Value) (q : U → Option A) : Option A := match v with
  | .int .u64 n => cond (isU n) (q (.ofNat 64 n.toNat)) none
  | _ => none
def u2 {A : Type} (v : Value) (q : U → U → Option A) : Option A := match v with
  | .agg ⟨[a, b]⟩ => u1 a fun a => u1 b fun b => q a b
  | _ => none
def u4 {A : Type} (v : Value) (q : U → U → U → U → Option A) : Option A := match v with
  | .agg ⟨[a, b, c, d]⟩ => u1 a fun a => u1 b fun b => u1 c fun c => u1 d fun d => q a b c d
  | _ => none
theorem isU_nat (x : U) : isU (x.toNat : Int) = true := by
  show Nat.blt x.toNat 18446744073709551616 = true
  rw [Nat.blt_eq]; exact x.isLt
theorem ofNat_u (x : U) : BitVec.ofNat 64 ((x.toNat : Int)).toNat = x := by
  rw [Int.toNat_natCast]; exact BitVec.ofNat_toNat 64 x ▸ (by simp)
section
variable {A : Type}
theorem u1_at (x : U) (q : U → Option A) : u1 (u x) q = q x := by
  show cond (isU (x.toNat : Int)) (q (.ofNat 64 ((x.toNat : Int)).toNat)) none = _
  rw [isU_nat, ofNat_u]; rfl
theorem u2_at (x y : U) (q : U → U → Option A) : u2 (.agg ⟨[u x, u y]⟩) q = q x y := by
  show u1 (u x) (fun a => u1 (u y) fun b => q a b) = _
  rw [u1_at, u1_at]
theorem u4_at (x y z w : U) (q : U → U → U → U → Option A) : u4 (.agg ⟨[u x, u y, u z, u w]⟩) q = q x y z w := by
  show u1 (u x) (fun a => u1 (u y) fun b => u1 (u z) fun c => u1 (u w) fun d => q a b c d) = _
  rw [u1_at, u1_at, u1_at, u1_at]
theorem isU_some {n : Int} (h : isU n = true) : n = ((BitVec.ofNat 64 n.toNat).toNat : Int) := by
  unfold isU at h
  split at h
  · rename_i n
    have h : n < 18446744073709551616 := Nat.blt_eq ▸ h
    show (n : Int) = _
    rw [show Int.toNat (Int.ofNat n) = n from rfl, BitVec.toNat_ofNat, Nat.mod_eq_of_lt h]
  · cases h
theorem u1_some {v : Value} {q : U → Option A} {r : A} (h : u1 v q = some r) : ∃ x, v = u x ∧ q x = some r := by
  unfold u1 at h
  split at h
  · rename_i n
    cases hn : isU n with
    | false => rw [hn] at h; cases h
    | true =>
      rw [hn] at h
      exact ⟨_, congrArg (Value.int .u64) (isU_some hn), h⟩
  · cases h
theorem u2_some {v : Value} {q : U → U → Option A} {r : A} (h : u2 v q = some r) : ∃ x y, v = .agg ⟨[u x, u y]⟩ ∧ q x y = some r := by
  unfold u2 at h
  split at h
  · obtain ⟨x, rfl, h1⟩ := u1_some h
    obtain ⟨y, rfl, h2⟩ := u1_some h1
    exact ⟨x, y, rfl, h2⟩
  · cases h
theorem u4_some {v : Value} {q : U → U → U → U → Option A} {r : A} (h : u4 v q = some r) : ∃ x y z w, v = .agg ⟨[u x, u y, u z, u w]⟩ ∧ q x y z w = some r := by
  unfold u4 at h
  split at h
  · obtain ⟨x, rfl, h1⟩ := u1_some h
    obtain ⟨y, rfl, h2⟩ := u1_some h1
    obtain ⟨z, rfl, h3⟩ := u1_some h2
    obtain ⟨w, rfl, h4⟩ := u1_some h3
    exact ⟨x, y, z, w, rfl, h4⟩
  · cases h
end
/-! ### operations on numbers -/
theorem ofInt_u (x : U) : BitVec.ofInt 64 (x.toNat : Int) = x := by
  apply BitVec.eq_of_toNat_eq
  rw [BitVec.toNat_ofInt]
  have := x.isLt
  show ((x.toNat : Int) % 18446744073709551616).toNat = _
  omega
theorem wrap_u (x : U) : IntKind.wrap .u64 (x.toNat : Int) = (x.toNat : Int) := IntWalk.u64_in _ ⟨by omega, by have := x.isLt; omega⟩
section
variable {P : Program} {K : TypeId → Bool} {t : TypeId}
theorem bin_and (x y : U) : binD P K .and t (u x) (u y) = some (u (x &&& y)) := by
  show some (Value.int .u64 (IntKind.wrap .u64 ((BitVec.ofInt 64 (x.toNat : Int) &&& BitVec.ofInt 64 (y.toNat : Int)).toNat : Int))) = _
  rw [ofInt_u, ofInt_u, wrap_u]
theorem bin_or (x y : U) : binD P K .or t (u x) (u y) = some (u (x ||| y)) := by
  show some (Value.int .u64 (IntKind.wrap .u64 ((BitVec.ofInt 64 (x.toNat : Int) ||| BitVec.ofInt 64 (y.toNat : Int)).toNat : Int))) = _
  rw [ofInt_u, ofInt_u, wrap_u]
theorem bin_xor (x y : U) : binD P K .xor t (u x) (u y) = some (u (x ^^^ y)) := by
  show some (Value.int .u64 (IntKind.wrap .u64 ((BitVec.ofInt 64 (x.toNat : Int) ^^^ BitVec.ofInt 64 (y.toNat : Int)).toNat : Int))) = _
  rw [ofInt_u, ofInt_u, wrap_u]
theorem bin_andNot (x y : U) : binD P K .andNot t (u x) (u y) = some (u (x &&& ~~~y)) := by
  show some (Value.int .u64 (IntKind.wrap .u64 ((BitVec.ofInt 64 (x.toNat : Int) &&& ~~~ BitVec.ofInt 64 (y.toNat : Int)).toNat : Int))) = _
  rw [ofInt_u, ofInt_u, wrap_u]
theorem bin_eqI (k : IntKind) (x y : Int) : binD P K .eql t (.int k x) (.int k y) = some (.bool (decide (x = y))) := by
  simp only [binD, binInt, shiftB, cond_false, if_true]
  congr 2
theorem bin_neI (k : IntKind) (x y : Int) : binD P K .neq t (.int k x) (.int k y) = some (.bool (!decide (x = y))) := by
  simp only [binD, binInt, shiftB, cond_false, if_true]
  congr 2
theorem bin_leI (k : IntKind) (x y : Int) : binD P K .leq t (.int k x) (.int k y) = some (.bool (decide (x ≤ y))) := by
  simp only [binD, binInt, shiftB, cond_false, if_true]
theorem bin_ltI (k : IntKind) (x y : Int) : binD P K .lss t (.int k x) (.int k y) = some (.bool (decide (x < y))) := by
  simp only [binD, binInt, shiftB, cond_false, if_true]
theorem bin_gtI (k : IntKind) (x y : Int) : binD P K .gtr t (.int k x) (.int k y) = some (.bool (decide (y < x))) := by
  simp only [binD, binInt, shiftB, cond_false, if_true]
theorem bin_geI (k : IntKind) (x y : Int) : binD P K .geq t (.int k x) (.int k y) = some (.bool (decide (y ≤ x))) := by
  simp only [binD, binInt, shiftB, cond_false, if_true]
theorem u_inj {x y : U} : (x.toNat : Int) = (y.toNat : Int) ↔ x = y := ⟨fun h => BitVec.eq_of_toNat_eq (by omega), fun h => by rw [h]⟩
theorem bin_eqU (x y : U) : binD P K .eql t (u x) (u y) = some (.bool (x == y)) := by
  rw [bin_eqI, decide_eq_decide.2 u_inj]; rfl
theorem bin_neU (x y : U) : binD P K .neq t (u x) (u y) = some (.bool (!(x == y))) := by
  rw [bin_neI, decide_eq_decide.2 u_inj]; rfl
theorem bin_gtU (x y : U) : binD P K .gtr t (u x) (u y) = some (.bool (decide (y.toNat < x.toNat))) := by
  rw [bin_gtI, decide_eq_decide.2 Int.ofNat_lt]
end
/-! ### what a body answers -/
theorem told {A T : Tab} (hT : TabOK Tryz.prog T) {h : H.Hint} {Q : Orc} {k : Nat} {f : FuncId} {fn : Func} {c : Code} {N : Nat} {args : List Value} {v : Value} {qs : List Prop} (hf : Tryz.prog.funcs[f]? = some fn) (hc : fn.body = some c) (hn : max args.length fn.ntmps = N)
    (ht : ansX (fnZ h A T Q (oTab T) Tryz.prog kp 0 k fn c N args m0 fun v _ => v) = some (v, qs) ∧ evenX (fnZ h A T Q (oTab T) Tryz.prog kp 0 k fn c N args m0 fun v _ => v)) (hq : ∀ p ∈ qs, p) :
    ∃ (R : Orc) (m : Mem), (∀ B0, CfOK Tryz.prog B0 0 R) ∧ CfGrw R ∧ R f args m0 = some (v, m) := by
  obtain ⟨v', m, h1, rfl⟩ := fnZ_run (tells_tab T) hf hc hn ht.1 ht.2 hq
  exact ⟨bodyN Tryz.prog kp 0 (oTab T) k, m, fun B0 => bodyN_ok hmix hK hng (oTab_ok hT B0 0) (oTab_grw T) k, bodyN_grw (oTab_grw T) k, h1⟩
end
end Go.Proofs.YtipdeijgaabobaaGreatDoor
/-
  FTab2: tnum.May, span.May, fit, All, Has, Meet.
-/
namespace Go.Proofs.YtipdeijgaabobaaGreatDoor
open Go Go.DI Go.DI.Kit Go.Proofs Go.Crt
noncomputable section
def tabL (l : List (FuncId × (List Value → Option Value))) : Tab := fun f a => List.rec (motive := fun _ => Option Value) none (fun p _ ih => cond (Nat.beq p.1 f) (p.2 a) ih) l
theorem tabL_nil (P : Program) : TabOK P (tabL []) := fun _ _ _ h => by cases h
theorem tabL_cons {P : Program} {g : FuncId} {d : List Value → Option Value} {l : List (FuncId × (List Value → Option Value))} (h1 : ∀ a v, d a = some v → a.all plain1 = true ∧ plain2 v = true ∧ ∃ (R : Orc) (m : Mem), (∀ B0, CfOK P B0 0 R) ∧ CfGrw R ∧ R g a m0 = some (v, m)) (h2 : TabOK P (tabL l)) : TabOK P (tabL ((g, d) :: l)) := fun f a v h => by
  have h : cond (Nat.beq g f) (d a) (tabL l f a) = some v := h
  cases e : Nat.beq g f with
  | true =>
    rw [e] at h
    have e := Nat.eq_of_beq_eq_true e
    subst e
    exact h1 a v h
  | false => rw [e] at h; exact h2 f a v h
abbrev rz (l : List (Nat × Value)) (A T : Tab) (fn : Func) (N : Nat) (a : List Value) := fnZ (hAt (lkN l)) A T noQ (oTab T) Tryz.prog kp 0 20 fn (bodyOf fn) N a m0 fun v _ => v
def a1 (q : Value → Option Value) : List Value → Option Value
  | [a] => q a
  | _ => none
def a2 (q : Value → Value → Option Value) : List Value → Option Value
  | [a, b] => q a b
  | _ => none
def a0 (q : Option Value) : List Value → Option Value
  | [] => q
  | _ => none
theorem a1_some {q : Value → Option Value} {a : List Value} {v : Value} (h : a1 q a = some v) : ∃ x, a = [x] ∧ q x = some v := by
  unfold a1 at h
  split at h
  · exact ⟨_, rfl, h⟩
  · cases h
theorem a2_some {q : Value → Value → Option Value} {a : List Value} {v : Value} (h : a2 q a = some v) : ∃ x y, a = [x, y] ∧ q x y = some v := by
  unfold a2 at h
  split at h
  · exact ⟨_, _, rfl, h⟩
  · cases h
theorem a0_some {q : Option Value} {a : List Value} {v : Value} (h : a0 q a = some v) : a = [] ∧ q = some v := by
  unfold a0 at h
  split at h
  · exact ⟨rfl, h⟩
  · cases h
abbrev pr (x y : U) : Value := .agg ⟨[u x, u y]⟩
abbrev bn (o : BinOp) (t : TypeId) (x y v : Value) : Prop := binD Tryz.prog kp o t x y = some v
abbrev nt (x y : Bool) : Prop := unD .not (.bool x) = some (.bool y)
/-! ### the smallest ones -/
def tn0 : Tab := tabL []
theorem t111 (x y z : U) (b : Bool) : ansX (rz [(7, u z), (8, .bool b)] noA tn0 Tryz.f111 9 [pr x y]) = some (.bool b, [bn .and 33 (u x) (u y) (u z), bn .eql 33 (u z) (u 0) (.bool b)]) ∧ evenX (rz [(7, u z), (8, .bool b)] noA tn0 Tryz.f111 9 [pr x y]) := ⟨by kernel_rfl, by unfold evenX; kernel_rfl⟩
theorem t112 (x y : U) (b : Bool) : ansX (rz [(7, .bool b)] noA tn0 Tryz.f112 8 [pr x y]) = some (.bool b, [bn .leq 33 (u x) (u y) (.bool b)]) ∧ evenX (rz [(7, .bool b)] noA tn0 Tryz.f112 8 [pr x y]) := ⟨by kernel_rfl, by unfold evenX; kernel_rfl⟩
theorem t160 (x y z : U) : ansX (rz [(7, u z)] noA tn0 Tryz.f160 10 [u x, u y]) = some (pr z y, [bn .andNot 33 (u x) (u y) (u z)]) ∧ evenX (rz [(7, u z)] noA tn0 Tryz.f160 10 [u x, u y]) := ⟨by kernel_rfl, by unfold evenX; kernel_rfl⟩
theorem t79 : ansX (rz [] noA tn0 Tryz.f79 2 []) = some (pr 0 (BitVec.allOnes 64), []) ∧ evenX (rz [] noA tn0 Tryz.f79 2 []) := ⟨by kernel_rfl, by unfold evenX; kernel_rfl⟩
theorem t123 : ansX (rz [] noA tn0 Tryz.f123 2 []) = some (pr 0 (BitVec.allOnes 64), []) ∧ evenX (rz [] noA tn0 Tryz.f123 2 []) := ⟨by kernel_rfl, by unfold evenX; kernel_rfl⟩
def tn1 : Tab := tabL [(111, a1 fun a => u2 a fun x y => some (.bool (x &&& y == 0))), (112, a1 fun a => u2 a fun x y => some (.bool (spMay x y))),
  (160, a2 fun a b => u1 a fun x => u1 b fun y => some (pr (fitV x y) y)), (79, a0 (some (pr 0 (BitVec.allOnes 64)))), (123, a0 (some (pr 0 (BitVec.allOnes 64))))]
theorem fnE (f : FuncId) (fn : Func) (h : Tryz.prog.funcs[f]? = some fn := by kernel_rfl) : Tryz.prog.funcs[f]? = some fn := h
theorem tn0_ok : TabOK Tryz.prog tn0 := tabL_nil _
theorem tn1_ok : TabOK Tryz.prog tn1 := by
  refine tabL_cons (fun a v h => ?_) (tabL_cons (fun a v h => ?_) (tabL_cons (fun a v h => ?_) (tabL_cons (fun a v h => ?_) (tabL_cons (fun a v h => ?_) (tabL_nil _)))))
  · obtain ⟨w, rfl, h1⟩ := a1_some h
    obtain ⟨x, y, rfl, h2⟩ := u2_some h1
    cases h2
    exact ⟨rfl, rfl, told tn0_ok (fnE 111 Tryz.f111) (by kernel_rfl) (by kernel_rfl) (t111 x y (x &&& y) _) (cons_p (bin_and x y) (cons_p (bin_eqU _ _) nil_p))⟩
  · obtain ⟨w, rfl, h1⟩ := a1_some h
    obtain ⟨x, y, rfl, h2⟩ := u2_some h1
    cases h2
    exact ⟨rfl, rfl, told tn0_ok (fnE 112 Tryz.f112) (by kernel_rfl) (by kernel_rfl) (t112 x y _) (cons_p (bin_leI _ _ _) nil_p)⟩
  · obtain ⟨w, w2, rfl, h1⟩ := a2_some h
    obtain ⟨x, rfl, h2⟩ := u1_some h1
    obtain ⟨y, rfl, h3⟩ := u1_some h2
    cases h3
    exact ⟨rfl, rfl, told tn0_ok (fnE 160 Tryz.f160) (by kernel_rfl) (by kernel_rfl) (t160 x y _) (cons_p (bin_andNot _ _) nil_p)⟩
  · obtain ⟨rfl, h1⟩ := a0_some h
    cases h1
    exact ⟨rfl, rfl, told tn0_ok (fnE 79 Tryz.f79) (by kernel_rfl) (by kernel_rfl) t79 nil_p⟩
  · obtain ⟨rfl, h1⟩ := a0_some h
    cases h1
    exact ⟨rfl, rfl, told tn0_ok (fnE 123 Tryz.f123) (by kernel_rfl) (by kernel_rfl) t123 nil_p⟩
theorem tn1_111 (x y : U) : tn1 111 [pr x y] = some (.bool (x &&& y == 0)) := u2_at x y fun x y => some (Value.bool (x &&& y == 0))
theorem tn1_112 (x y : U) : tn1 112 [pr x y] = some (.bool (spMay x y)) := u2_at x y fun x y => some (Value.bool (spMay x y))
theorem tn1_160 (x y : U) : tn1 160 [u x, u y] = some (pr (fitV x y) y) := (u1_at x fun x => u1 (u y) fun y => some (pr (fitV x y) y)).trans (u1_at y fun y => some (pr (fitV x y) y))
end
end Go.Proofs.YtipdeijgaabobaaGreatDoor
/-
  FTab3: Has, span.Meet, tnum.Meet, Len64, Range, scalar.All, tnum.In, span.In.
-/
namespace Go.Proofs.YtipdeijgaabobaaGreatDoor
open Go Go.DI Go.DI.Kit Go.Proofs Go.Crt
noncomputable section
abbrev ldZ (c : List Value) (n : Nat) (v : Value) : Prop := H.ldOk (.cells true c) 0 true n v
abbrev qB1 : Tab := qA tn1 [111, 112] []
abbrev B1 (f : FuncId) (a : List Value) : Bool := ansB tn1 f a
abbrev sB1 (f : FuncId) (a : List Value) : Prop := tn1 f a = some (.bool (B1 f a))
/-! ### Has -/
theorem t188 (V M n z : U) (b1 b2 : Bool) : ansX (rz [(7, .bool b1), (11, u z), (14, .bool b2)] qB1 tn1 Tryz.f188 16 [pr V M, u n]) =
    some (.bool (b1 && b2), sB1 111 [pr V M] :: (Value.bool (B1 111 [pr V M]) = .bool b1) :: cond b1 [bn .andNot 33 (u n) (u M) (u z), bn .eql 33 (u z) (u V) (.bool b2)] []) ∧ evenX (rz [(7, .bool b1), (11, u z), (14, .bool b2)] qB1 tn1 Tryz.f188 16 [pr V M, u n]) := by
  cases b1 <;> exact ⟨by kernel_rfl, by unfold evenX; kernel_rfl⟩
/-! ### Meet -/
abbrev mxI (x y : U) : Int := if (y.toNat : Int) > (x.toNat : Int) then (y.toNat : Int) else (x.toNat : Int)
abbrev mnI (x y : U) : Int := if (y.toNat : Int) < (x.toNat : Int) then (y.toNat : Int) else (x.toNat : Int)
theorem mxI_eq (x y : U) : mxI x y = ((maxU x y).toNat : Int) := by
  unfold mxI maxU
  by_cases h : x.toNat < y.toNat
  · rw [if_pos (by omega), if_pos h]
  · rw [if_neg (by omega), if_neg h]
theorem mnI_eq (x y : U) : mnI x y = ((minU x y).toNat : Int) := by
  unfold mnI minU
  by_cases h : y.toNat < x.toNat
  · rw [if_pos (by omega), if_pos h]
  · rw [if_neg (by omega), if_neg h]
abbrev h113 (n1 n2 n3 : Bool) (x y : U) : List (Nat × Value) := [(20, .bool n1), (24, .bool n2), (27, pr x y), (29, .bool n3), (32, pr x y)]
theorem t113 (a b c d x y : U) (n1 n2 n3 : Bool) : ansX (rz (h113 n1 n2 n3 x y) qB1 tn1 Tryz.f113 33 [pr a b, pr c d]) =
    some (cond (n1 || (n2 || n3)) (.tuple ⟨[pr 0 0, .bool false]⟩) (.tuple ⟨[pr x y, .bool true]⟩), sB1 112 [pr a b] :: nt (B1 112 [pr a b]) n1 :: cond n1 [] (sB1 112 [pr c d] :: nt (B1 112 [pr c d]) n2 :: cond n2 [] (ldZ [.int .u64 (mxI a c), .int .u64 (mnI b d)] 2 (pr x y) :: sB1 112 [pr x y] :: nt (B1 112 [pr x y]) n3 :: cond n3 [] [ldZ [.int .u64 (mxI a c), .int .u64 (mnI b d)] 2 (pr x y)]))) ∧
    evenX (rz (h113 n1 n2 n3 x y) qB1 tn1 Tryz.f113 33 [pr a b, pr c d]) := by
  cases n1 <;> cases n2 <;> cases n3 <;> exact ⟨by kernel_rfl, by unfold evenX; kernel_rfl⟩
abbrev h115 (n1 n2 n4 : Bool) (z1 z2 z3 z4 z5 : U) : List (Nat × Value) := [(8, .bool n1), (12, .bool n2), (19, u z1), (24, u z2), (25, u z3), (26, .bool n4), (33, u z4), (38, u z5)]
theorem t115 (v m v' m' z1 z2 z3 z4 z5 z6 : U) (n1 n2 n4 : Bool) : ansX (rz (h115 n1 n2 n4 z1 z2 z3 z4 z5) (qA tn1 [111, 112] [(160, pr z6 z5)]) tn1 Tryz.f115 40 [pr v m, pr v' m']) =
    some (cond (n1 || (n2 || n4)) (.tuple ⟨[pr 0 0, .bool false]⟩) (.tuple ⟨[pr z6 z5, .bool true]⟩), sB1 111 [pr v m] :: nt (B1 111 [pr v m]) n1 :: cond n1 [] (sB1 111 [pr v' m'] :: nt (B1 111 [pr v' m']) n2 :: cond n2 [] (bn .xor 33 (u v) (u v') (u z1) :: bn .or 33 (u m) (u m') (u z2) :: bn .andNot 33 (u z1) (u z2) (u z3) :: bn .neq 33 (u z3) (u 0) (.bool n4) :: cond n4 [] [bn .or 33 (u v) (u v') (u z4), bn .and 33 (u m) (u m') (u z5), tn1 160 [u z4, u z5] = some (pr z6 z5)]))) ∧
    evenX (rz (h115 n1 n2 n4 z1 z2 z3 z4 z5) (qA tn1 [111, 112] [(160, pr z6 z5)]) tn1 Tryz.f115 40 [pr v m, pr v' m']) := by
  cases n1 <;> cases n2 <;> cases n4 <;> exact ⟨by kernel_rfl, by unfold evenX; kernel_rfl⟩
/-! ### Len64 -/
noncomputable def tabS : Value := match ((regOps 10 (bodyOf Tryz.f159))[3]?).map Oper.op with
  | some (.index _ (.const v) _) => v
  | _ => undef
def hCv (l : List (Nat × Value)) (a b c : Value) : H.Hint := { hAt (lkN l) with cv := fun x y => cond (Nat.beq x 33) (some a) (cond (Nat.beq x 5) (some b) (some c)) }
abbrev rc (l : List (Nat × Value)) (a b c : Value) (A T : Tab) (fn : Func) (N : Nat) (s : List Value) := fnZ (hCv l a b c) A T noQ (oTab T) Tryz.prog kp 0 20 fn (bodyOf fn) N s m0 fun v _ => v
abbrev h159 (b1 b2 b3 : Bool) (x1 x2 x3 : U) (l n : Int) : List (Nat × Value) := [(4, .bool b1), (6, u x1), (8, .bool b2), (10, u x2), (14, .bool b3), (16, u x3), (22, .int .u8 l), (24, .int .i64 n)]
abbrev p1n (b : Bool) (x y : U) : U := cond b y x
abbrev k32 (b1 b2 b3 : Bool) : Int := cond b1 32 0 + (cond b2 16 0 + cond b3 8 0)
theorem t159 (x x1 x2 x3 : U) (b1 b2 b3 : Bool) (i l n : Int) : ansX (rc (h159 b1 b2 b3 x1 x2 x3 l n) (.int .u8 i) (.int .i64 l) undef noA tn1 Tryz.f159 25 [u x]) =
    some (.int .i64 n, bn .geq 33 (u x) (.int .u64 4294967296) (.bool b1) :: (cond b1 [bn .shr 33 (u x) (.int .i64 32) (u x1)] [] ++ (bn .geq 33 (u (p1n b1 x x1)) (.int .u64 65536) (.bool b2) :: (cond b2 [bn .shr 33 (u (p1n b1 x x1)) (.int .i64 16) (u x2)] [] ++
      (bn .geq 33 (u (p1n b2 (p1n b1 x x1) x2)) (.int .u64 256) (.bool b3) :: (cond b3 [bn .shr 33 (u (p1n b2 (p1n b1 x x1) x2)) (.int .i64 8) (u x3)] [] ++
      [H.cvOk Tryz.prog .none 33 5 (u (p1n b3 (p1n b2 (p1n b1 x x1) x2) x3)) (.int .u8 i), indexD Tryz.prog 9 tabS (.int .u8 i) = some (.int .u8 l), H.cvOk Tryz.prog .none 5 3 (.int .u8 l) (.int .i64 l), bn .add 3 (.int .i64 (k32 b1 b2 b3)) (.int .i64 l) (.int .i64 n)])))))) ∧
    evenX (rc (h159 b1 b2 b3 x1 x2 x3 l n) (.int .u8 i) (.int .i64 l) undef noA tn1 Tryz.f159 25 [u x]) := by
  cases b1 <;> cases b2 <;> cases b3 <;> exact ⟨by kernel_rfl, by unfold evenX; kernel_rfl⟩
theorem tab_all : ((List.range 256).all fun i => match indexD Tryz.prog 9 tabS (.int .u8 (i : Int)) with | some (.int .u8 n) => decide (n = (lenN i : Int)) | _ => false) = true := by kernel_rfl
end
end Go.Proofs.YtipdeijgaabobaaGreatDoor
/-
  FTab4: the second table: Has, Meet, Len64.
-/
namespace Go.Crt
theorem lenN_lt {n : Nat} (k : Nat) (h : 2 ^ k ≤ n) : lenN n = k + lenN (n / 2 ^ k) := by
  have hp : 0 < 2 ^ k := Nat.two_pow_pos k
  have h0 : n ≠ 0 := by omega
  have h1 : n / 2 ^ k ≠ 0 := by
    have := Nat.div_pos h hp
    omega
  unfold lenN
  rw [if_neg h0, if_neg h1]
  have e : Nat.log2 n = k + Nat.log2 (n / 2 ^ k) := by
    have a1 := (Nat.log2_eq_iff h1 (k := Nat.log2 (n / 2 ^ k))).1 rfl
    refine (Nat.log2_eq_iff h0).2 ⟨?_, ?_⟩
    · rw [Nat.pow_add, Nat.mul_comm]
      exact Nat.le_trans (Nat.mul_le_mul_right _ a1.1) (Nat.div_mul_le_self n (2 ^ k))
    · have := Nat.lt_mul_of_div_lt a1.2 hp
      rw [Nat.add_assoc, Nat.pow_add, Nat.mul_comm]
      rwa [Nat.mul_comm] at this ⊢
  omega
end Go.Crt
namespace Go.Proofs.YtipdeijgaabobaaGreatDoor
open Go Go.DI Go.DI.Kit Go.Proofs Go.Crt
noncomputable section
section
variable {P : Program} {K : TypeId → Bool} {t : TypeId}
theorem bin_shr (x : U) (k : Nat) (hk : k ≤ 64) : binD P K .shr t (u x) (.int .i64 (k : Int)) = some (u (x >>> k)) := by
  have e : (x.toNat : Int).fdiv (2 ^ (min ((k : Int)).toNat 64)) = ((x >>> k).toNat : Int) := by
    rw [Int.toNat_natCast, Nat.min_eq_left hk, BitVec.toNat_ushiftRight, Nat.shiftRight_eq_div_pow, Int.fdiv_eq_ediv_of_nonneg _ (by exact Int.pow_nonneg (by decide))]
    push_cast
    rfl
  show (if (k : Int) < 0 then none else some (Value.int .u64 ((x.toNat : Int).fdiv (2 ^ (min ((k : Int)).toNat 64))))) = _
  rw [if_neg (by omega), e]
end
theorem und3 : Tryz.prog.underlying 3 = some (.int .i64) := by kernel_rfl
theorem und5 : Tryz.prog.underlying 5 = some (.int .u8) := by kernel_rfl
theorem und33 : Tryz.prog.underlying 33 = some (.int .u64) := by kernel_rfl
theorem und95 : Tryz.prog.underlying 95 = some (.int .u64) := by kernel_rfl
theorem cv_335 (x : U) (h : x.toNat < 256) (B : Blk) : H.cvOk Tryz.prog B 33 5 (u x) (.int .u8 (x.toNat : Int)) := fun m _ => by
  unfold convQ
  simp only [und33, und5]
  rw [IntWalk.u8_in _ ⟨by omega, by omega⟩]
theorem cv_53 (n : Nat) (h : n < 256) (B : Blk) : H.cvOk Tryz.prog B 5 3 (.int .u8 (n : Int)) (.int .i64 (n : Int)) := fun m _ => by
  unfold convQ
  simp only [und3, und5]
  rw [wrap_i64 ⟨by omega, by omega⟩]
theorem cv_395 (n : Nat) (h : n < 256) (B : Blk) : H.cvOk Tryz.prog B 3 95 (.int .i64 (n : Int)) (.int .u64 (n : Int)) := fun m _ => by
  unfold convQ
  simp only [und3, und95]
  rw [IntWalk.u64_in _ ⟨by omega, by omega⟩]
theorem tab_at {n : Nat} (h : n < 256) : indexD Tryz.prog 9 tabS (.int .u8 (n : Int)) = some (.int .u8 (lenN n : Int)) := by
  have h1 := List.all_eq_true.1 tab_all n (List.mem_range.2 h)
  split at h1
  · rename_i m hm
    rw [hm, of_decide_eq_true h1]
  · cases h1
theorem add_i64 {a b : Int} (h : -9223372036854775808 ≤ a + b ∧ a + b ≤ 9223372036854775807) : bn .add 3 (.int .i64 a) (.int .i64 b) (.int .i64 (a + b)) := by
  show some (Value.int .i64 (IntKind.wrap .i64 (a + b))) = _
  rw [wrap_i64 h]
theorem len_lt {n : Nat} (h : n < 256) : lenN n ≤ 8 := by
  unfold lenN
  split
  · omega
  · rename_i h0
    have := (Nat.log2_lt h0 (k := 8)).2 h
    omega
theorem app_p {l r : List Prop} (h : ∀ q ∈ l, q) (h' : ∀ q ∈ r, q) : ∀ q ∈ l ++ r, q := fun q hq => by
  rcases List.mem_append.1 hq with h1 | h1
  · exact h q h1
  · exact h' q h1
theorem one_p {p : Prop} (h : p) : ∀ q ∈ [p], q := cons_p h nil_p
theorem shr_nat (x : U) (k : Nat) : (x >>> k).toNat = x.toNat / 2 ^ k := by rw [BitVec.toNat_ushiftRight, Nat.shiftRight_eq_div_pow]
/-- Shift by a power, if there is as much. -/
def stepU (k : Nat) (x : U) : U := if 2 ^ k ≤ x.toNat then x >>> k else x
theorem step_len (k : Nat) (x : U) : lenU x = (if 2 ^ k ≤ x.toNat then k else 0) + lenU (stepU k x) := by
  unfold lenU stepU
  by_cases h : 2 ^ k ≤ x.toNat
  · rw [if_pos h, if_pos h, lenN_lt k h, shr_nat]
  · rw [if_neg h, if_neg h, Nat.zero_add]
theorem p1n_step (k : Nat) (x : U) : p1n (decide (2 ^ k ≤ x.toNat)) x (x >>> k) = stepU k x := by
  unfold p1n stepU
  by_cases h : 2 ^ k ≤ x.toNat
  · rw [decide_eq_true h, if_pos h]; rfl
  · rw [decide_eq_false h, if_neg h]; rfl
theorem ge_pow (x : U) (k : Nat) (n : Int) (h : n = ((2 ^ k : Nat) : Int)) : bn .geq 33 (u x) (.int .u64 n) (.bool (decide (2 ^ k ≤ x.toNat))) := by
  show binD _ _ _ _ _ _ = _
  rw [bin_geI, h, decide_eq_decide.2 Int.ofNat_le]
theorem step_small {k : Nat} {x : U} (h : x.toNat < 2 ^ (k + k)) : (stepU k x).toNat < 2 ^ k := by
  unfold stepU
  by_cases hx : 2 ^ k ≤ x.toNat
  · rw [if_pos hx, shr_nat]
    exact Nat.div_lt_of_lt_mul (by rwa [← Nat.pow_add])
  · rw [if_neg hx]; omega
theorem len_run (x : U) : ∃ (R : Orc) (m : Mem), (∀ B0, CfOK Tryz.prog B0 0 R) ∧ CfGrw R ∧ R 159 [u x] m0 = some (.int .i64 (lenU x : Int), m) := by
  have s1 := step_len 32 x
  have s2 := step_len 16 (stepU 32 x)
  have s3 := step_len 8 (stepU 16 (stepU 32 x))
  have m1 : (stepU 32 x).toNat < 2 ^ 32 := step_small x.isLt
  have m2 : (stepU 16 (stepU 32 x)).toNat < 2 ^ 16 := step_small m1
  have m3 : (stepU 8 (stepU 16 (stepU 32 x))).toNat < 256 := step_small m2
  have hl := len_lt m3
  obtain ⟨y3, e3⟩ : ∃ y, stepU 8 (stepU 16 (stepU 32 x)) = y := ⟨_, rfl⟩
  have hsum : (lenU x : Int) = k32 (decide (2 ^ 32 ≤ x.toNat)) (decide (2 ^ 16 ≤ (stepU 32 x).toNat)) (decide (2 ^ 8 ≤ (stepU 16 (stepU 32 x)).toNat)) + (lenN y3.toNat : Int) := by
    rw [s1, s2, s3, e3]
    unfold k32 lenU
    by_cases h1 : 2 ^ 32 ≤ x.toNat <;> by_cases h2 : 2 ^ 16 ≤ (stepU 32 x).toNat <;> by_cases h3 : 2 ^ 8 ≤ (stepU 16 (stepU 32 x)).toNat <;> simp only [h1, h2, h3, if_true, if_false, decide_true, decide_false, cond_true, cond_false] <;> omega
  have hk : 0 ≤ k32 (decide (2 ^ 32 ≤ x.toNat)) (decide (2 ^ 16 ≤ (stepU 32 x).toNat)) (decide (2 ^ 8 ≤ (stepU 16 (stepU 32 x)).toNat)) ∧ k32 (decide (2 ^ 32 ≤ x.toNat)) (decide (2 ^ 16 ≤ (stepU 32 x).toNat)) (decide (2 ^ 8 ≤ (stepU 16 (stepU 32 x)).toNat)) ≤ 56 := by
    unfold k32
    constructor <;> (cases decide (2 ^ 32 ≤ x.toNat) <;> cases decide (2 ^ 16 ≤ (stepU 32 x).toNat) <;> cases decide (2 ^ 8 ≤ (stepU 16 (stepU 32 x)).toNat) <;> decide)
  rw [e3] at m3 hl
  refine told tn1_ok (fnE 159 Tryz.f159) (by kernel_rfl) (by kernel_rfl) (t159 x (x >>> 32) (stepU 32 x >>> 16) (stepU 16 (stepU 32 x) >>> 8) (decide (2 ^ 32 ≤ x.toNat)) (decide (2 ^ 16 ≤ (stepU 32 x).toNat)) (decide (2 ^ 8 ≤ (stepU 16 (stepU 32 x)).toNat)) (y3.toNat : Int) (lenN y3.toNat : Int) (lenU x : Int)) ?_
  rw [p1n_step, p1n_step, p1n_step, e3]
  refine cons_p (ge_pow x 32 _ rfl) (app_p (if_p (fun _ => one_p (bin_shr x 32 (by decide))) fun _ => nil_p) ?_)
  refine cons_p (ge_pow _ 16 _ rfl) (app_p (if_p (fun _ => one_p (bin_shr _ 16 (by decide))) fun _ => nil_p) ?_)
  refine cons_p (ge_pow _ 8 _ rfl) (app_p (if_p (fun _ => one_p (bin_shr _ 8 (by decide))) fun _ => nil_p) ?_)
  refine cons_p (cv_335 _ m3 _) (cons_p (tab_at m3) (cons_p (cv_53 _ (by omega) _) (one_p ?_)))
  rw [hsum]
  exact add_i64 (by omega)
end
end Go.Proofs.YtipdeijgaabobaaGreatDoor
/-
  PSettle: what a scalar settles to; in plain Lean.
-/
namespace Go.Crt
open Go Go.DI
def spOk (a b c d : U) : Bool := spMay a b && (spMay c d && spMay (maxU a c) (minU b d))
/-- One round: the span, then the bits. -/
def eLo (V lo : U) : U := maxU lo V
def eHi (V m hi : U) : U := minU hi (V ||| m)
def wV (V m lo hi : U) : U := meetV V m (rngV (eLo V lo) (eHi V m hi)) (rngM (eLo V lo) (eHi V m hi))
def wM (V m lo hi : U) : U := meetM m (rngM (eLo V lo) (eHi V m hi))
def ok1 (V m lo hi : U) : Bool := spOk lo hi V (V ||| m)
def ok2 (V m lo hi : U) : Bool := meetOk V m (rngV (eLo V lo) (eHi V m hi)) (rngM (eLo V lo) (eHi V m hi))
def same (V m lo hi : U) : Bool := (eLo V lo == lo && eHi V m hi == hi) && (wV V m lo hi == V && wM V m lo hi == m)
def settleN : Nat → U → U → U → U → Bool × Sc
  | 0, _, _, _, _ => (false, .zero)
  | n + 1, V, m, lo, hi => cond (ok1 V m lo hi) (cond (ok2 V m lo hi) (cond (same V m lo hi) (true, ⟨V, m, lo, hi⟩) (settleN n (wV V m lo hi) (wM V m lo hi) (eLo V lo) (eHi V m hi))) (false, .zero)) (false, .zero)
def mu (m lo hi : U) : Nat := (hi.toNat - lo.toNat) + m.toNat
def settleS (V m lo hi : U) : Bool × Sc := cond ((V &&& m == 0) && spMay lo hi) (settleN (mu m lo hi + 1) V m lo hi) (false, .zero)
theorem maxU_ge (a b : U) : a.toNat ≤ (maxU a b).toNat := by unfold maxU; split <;> omega
theorem minU_le (a b : U) : (minU a b).toNat ≤ a.toNat := by unfold minU; split <;> omega
theorem and_le (a b : U) : (a &&& b).toNat ≤ a.toNat := by rw [BitVec.toNat_and]; exact Nat.and_le_left
theorem spMay_iff {a b : U} : spMay a b = true ↔ a.toNat ≤ b.toNat := by unfold spMay; simp
theorem fit_and (v a : U) : fitV v a &&& a = 0 := by
  unfold fitV
  apply BitVec.eq_of_getLsbD_eq
  intro i hi
  simp
/-- If the bits that may be any stay, the others do. -/
theorem stay {V m v' m' : U} (h0 : V &&& m = 0) (h1 : v' &&& m' = 0) (hk : meetOk V m v' m' = true) (hm : meetM m m' = m) : meetV V m v' m' = V := by
  unfold meetOk at hk
  simp only [Bool.and_eq_true, beq_iff_eq] at hk
  have hk := hk.2
  unfold meetM at hm
  unfold meetV fitV
  rw [hm]
  apply BitVec.eq_of_getLsbD_eq
  intro i hi
  have a0 := congrArg (fun x : U => x.getLsbD i) h0
  have a1 := congrArg (fun x : U => x.getLsbD i) h1
  have a2 := congrArg (fun x : U => x.getLsbD i) hk
  have a3 := congrArg (fun x : U => x.getLsbD i) hm
  simp only [BitVec.getLsbD_and, BitVec.getLsbD_or, BitVec.getLsbD_xor, BitVec.getLsbD_not, BitVec.getLsbD_zero] at a0 a1 a2 a3 ⊢
  simp only [hi, decide_true, Bool.true_and] at a2 ⊢
  revert a0 a1 a2 a3
  cases V.getLsbD i <;> cases m.getLsbD i <;> cases v'.getLsbD i <;> cases m'.getLsbD i <;> simp
/-- Each round takes something away. -/
theorem mu_lt {V m lo hi : U} (h0 : V &&& m = 0) (h1 : ok1 V m lo hi = true) (h2 : ok2 V m lo hi = true) (hs : same V m lo hi = false) : mu (wM V m lo hi) (eLo V lo) (eHi V m hi) < mu m lo hi := by
  have a1 := maxU_ge lo V
  have a2 := minU_le hi (V ||| m)
  have a3 := and_le m (rngM (eLo V lo) (eHi V m hi))
  unfold ok1 spOk at h1
  simp only [Bool.and_eq_true] at h1
  have a4 := spMay_iff.1 h1.1
  have a5 := spMay_iff.1 h1.2.2
  have ele : (eLo V lo).toNat = (maxU lo V).toNat := rfl
  have ehe : (eHi V m hi).toNat = (minU hi (V ||| m)).toNat := rfl
  have ewm : (wM V m lo hi).toNat = (m &&& rngM (eLo V lo) (eHi V m hi)).toNat := rfl
  unfold mu
  by_cases c1 : eLo V lo = lo ∧ eHi V m hi = hi
  · have c2 : wM V m lo hi ≠ m := fun hm => by
      have hv : wV V m lo hi = V := stay h0 (by
        show fitV _ _ &&& _ = 0
        exact fit_and _ _) h2 hm
      unfold same at hs
      rw [c1.1, c1.2, hv, hm] at hs
      simp at hs
    have c3 : (wM V m lo hi).toNat ≠ m.toNat := fun e => c2 (BitVec.eq_of_toNat_eq e)
    rw [c1.1, c1.2]
    omega
  · have c3 : ¬ ((eLo V lo).toNat = lo.toNat ∧ (eHi V m hi).toNat = hi.toNat) := fun e => c1 ⟨BitVec.eq_of_toNat_eq e.1, BitVec.eq_of_toNat_eq e.2⟩
    omega
theorem round_good {V m lo hi : U} (h1 : ok1 V m lo hi = true) : wV V m lo hi &&& wM V m lo hi = 0 ∧ spMay (eLo V lo) (eHi V m hi) = true := by
  unfold ok1 spOk at h1
  simp only [Bool.and_eq_true] at h1
  exact ⟨fit_and _ _, h1.2.2⟩
/-- What is settled holds no more than what was there; less, unless it was settled. -/
theorem settleN_mu : ∀ (n : Nat) {V m lo hi : U}, V &&& m = 0 → (settleN n V m lo hi).1 = true → (same V m lo hi = true ∧ (settleN n V m lo hi).2 = ⟨V, m, lo, hi⟩) ∨ (mu (settleN n V m lo hi).2.M (settleN n V m lo hi).2.lo (settleN n V m lo hi).2.hi < mu m lo hi)
  | 0, V, m, lo, hi, _, h => by cases h
  | n + 1, V, m, lo, hi, h0, h => by
    simp only [settleN] at h ⊢
    cases h1 : ok1 V m lo hi with
    | false => rw [h1] at h; cases h
    | true =>
      cases h2 : ok2 V m lo hi with
      | false => rw [h1, h2] at h; cases h
      | true =>
        cases h3 : same V m lo hi with
        | true => exact .inl ⟨rfl, rfl⟩
        | false =>
          rw [h1, h2, h3] at h
          simp only [cond_true, cond_false] at h ⊢
          have hg := round_good h1
          have hl := mu_lt h0 h1 h2 h3
          rcases settleN_mu n hg.1 h with ⟨_, e⟩ | e
          · right; rw [e]; exact hl
          · right; exact Nat.lt_trans e hl
theorem mayS_eq (s : Sc) : mayS s = ((settleS s.V s.M s.lo s.hi).1 && decide ((settleS s.V s.M s.lo s.hi).2 = s)) := by
  obtain ⟨V, m, lo, hi⟩ := s
  simp only
  unfold settleS mayS
  simp only
  cases g : ((V &&& m == 0) && spMay lo hi) with
  | false => simp only [Bool.false_and, cond_false]
  | true =>
    simp only [Bool.true_and, cond_true]
    have g0 : V &&& m = 0 := by simp only [Bool.and_eq_true, beq_iff_eq] at g; exact g.1
    have g1 : spMay lo hi = true := by simp only [Bool.and_eq_true] at g; exact g.2
    have key : same V m lo hi = true → (maxU lo V == lo && minU hi (V ||| m) == hi) = true ∧ (meetV V m (rngV lo hi) (rngM lo hi) == V && meetM m (rngM lo hi) == m) = true ∧ ok2 V m lo hi = meetOk V m (rngV lo hi) (rngM lo hi) := fun h => by
      unfold same at h
      simp only [Bool.and_eq_true, beq_iff_eq] at h
      have a1 : maxU lo V = lo := h.1.1
      have a2 : minU hi (V ||| m) = hi := h.1.2
      have b1 := h.2.1
      have b2 := h.2.2
      unfold wV wM at *
      rw [h.1.1, h.1.2] at b1 b2
      refine ⟨by rw [a1, a2]; simp, by rw [b1, b2]; simp, ?_⟩
      unfold ok2
      rw [h.1.1, h.1.2]
    cases hs : (maxU lo V == lo && minU hi (V ||| m) == hi) && (meetOk V m (rngV lo hi) (rngM lo hi) && (meetV V m (rngV lo hi) (rngM lo hi) == V && meetM m (rngM lo hi) == m)) with
    | true =>
      simp only [Bool.and_eq_true, beq_iff_eq] at hs
      have e1 : eLo V lo = lo := hs.1.1
      have e2 : eHi V m hi = hi := hs.1.2
      have o1 : ok1 V m lo hi = true := by
        unfold ok1 spOk
        have q1 : maxU lo V = lo := hs.1.1
        have q2 : minU hi (V ||| m) = hi := hs.1.2
        rw [q1, q2, g1]
        have : spMay V (V ||| m) = true := spMay_iff.2 (by rw [BitVec.toNat_or]; exact Nat.left_le_or)
        rw [this]; rfl
      have o2 : ok2 V m lo hi = true := by unfold ok2; rw [e1, e2]; exact hs.2.1
      have o3 : same V m lo hi = true := by
        unfold same wV wM
        rw [e1, e2, hs.2.2.1, hs.2.2.2]; simp
      simp only [settleN, o1, o2, o3, cond_true, decide_true, Bool.and_self]
    | false =>
      cases ho : (settleN (mu m lo hi + 1) V m lo hi).1 with
      | false => rfl
      | true =>
        rcases settleN_mu _ g0 ho with ⟨h, _⟩ | h
        · obtain ⟨k1, k2, k3⟩ := key h
          rw [k1, k2] at hs
          have : ok2 V m lo hi = true := by
            simp only [settleN] at ho
            cases h1 : ok1 V m lo hi with
            | false => rw [h1] at ho; cases ho
            | true =>
              cases h2 : ok2 V m lo hi with
              | false => rw [h1, h2] at ho; cases ho
              | true => rfl
          rw [k3] at this
          rw [this] at hs
          cases hs
        · rw [decide_eq_false fun e => by rw [e] at h; exact absurd h (Nat.lt_irrefl _)]; rfl
end Go.Crt
/-
  FTab5: the second and the third table: Has, Meet, Len64; Range, All, In.
-/
namespace Go.Proofs.YtipdeijgaabobaaGreatDoor
open Go Go.DI Go.DI.Kit Go.Proofs Go.Crt
noncomputable section
abbrev tup (v : Value) (b : Bool) : Value := .tuple ⟨[v, .bool b]⟩
def meetSp (a b c d : U) : Value := cond (spOk a b c d) (tup (pr (maxU a c) (minU b d)) true) (tup (pr 0 0) false)
def meetTn (v m v' m' : U) : Value := cond (meetOk v m v' m') (tup (pr (meetV v m v' m') (meetM m m')) true) (tup (pr 0 0) false)
def hasT (v m n : U) : Bool := (v &&& m == 0) && (n &&& ~~~m == v)
def tn2l : Tab := tabL [(188, a2 fun a b => u2 a fun v m => u1 b fun n => some (.bool (hasT v m n))), (113, a2 fun a b => u2 a fun x y => u2 b fun z w => some (meetSp x y z w)),
  (115, a2 fun a b => u2 a fun x y => u2 b fun z w => some (meetTn x y z w)), (159, a1 fun a => u1 a fun x => some (.int .i64 (lenU x : Int)))]
def tn2 : Tab := tAlt tn2l tn1
theorem ld_2 (x y : U) {i j : Int} (hi : i = (x.toNat : Int)) (hj : j = (y.toNat : Int)) : ldZ [.int .u64 i, .int .u64 j] 2 (pr x y) := by
  subst hi hj
  exact ⟨[u x, u y], rfl, rfl⟩
theorem tn2l_ok : TabOK Tryz.prog tn2l := by
  refine tabL_cons (fun a v h => ?_) (tabL_cons (fun a v h => ?_) (tabL_cons (fun a v h => ?_) (tabL_cons (fun a v h => ?_) (tabL_nil _))))
  · obtain ⟨w, w2, rfl, h1⟩ := a2_some h
    obtain ⟨x, y, rfl, h2⟩ := u2_some h1
    obtain ⟨n, rfl, h3⟩ := u1_some h2
    cases h3
    refine ⟨rfl, rfl, told tn1_ok (fnE 188 Tryz.f188) (by kernel_rfl) (by kernel_rfl) (t188 x y n (n &&& ~~~y) (x &&& y == 0) (n &&& ~~~y == x)) ?_⟩
    exact cons_p (said_B (tn1_111 x y)) (cons_p (val_B (tn1_111 x y)) (if_p (fun _ => cons_p (bin_andNot _ _) (one_p (bin_eqU _ _))) fun _ => nil_p))
  · obtain ⟨w, w2, rfl, h1⟩ := a2_some h
    obtain ⟨a, b, rfl, h2⟩ := u2_some h1
    obtain ⟨c, d, rfl, h3⟩ := u2_some h2
    cases h3
    have key := told tn1_ok (fnE 113 Tryz.f113) (by kernel_rfl) (by kernel_rfl) (t113 a b c d (maxU a c) (minU b d) (!spMay a b) (!spMay c d) (!spMay (maxU a c) (minU b d)))
      (cons_p (said_B (tn1_112 a b)) (cons_p (not_B (tn1_112 a b)) (if_p (fun _ => nil_p) fun _ => cons_p (said_B (tn1_112 c d)) (cons_p (not_B (tn1_112 c d)) (if_p (fun _ => nil_p) fun _ => cons_p (ld_2 _ _ (mxI_eq a c) (mnI_eq b d)) (cons_p (said_B (tn1_112 _ _)) (cons_p (not_B (tn1_112 _ _)) (if_p (fun _ => nil_p) fun _ => one_p (ld_2 _ _ (mxI_eq a c) (mnI_eq b d))))))))))
    have e : (cond (!spMay a b || (!spMay c d || !spMay (maxU a c) (minU b d))) (.tuple ⟨[pr 0 0, .bool false]⟩) (.tuple ⟨[pr (maxU a c) (minU b d), .bool true]⟩) : Value) = meetSp a b c d := by
      unfold meetSp spOk
      cases spMay a b <;> cases spMay c d <;> cases spMay (maxU a c) (minU b d) <;> rfl
    rw [e] at key
    refine ⟨rfl, ?_, key⟩
    unfold meetSp
    cases spOk a b c d <;> rfl
  · obtain ⟨w, w2, rfl, h1⟩ := a2_some h
    obtain ⟨v, m, rfl, h2⟩ := u2_some h1
    obtain ⟨v', m', rfl, h3⟩ := u2_some h2
    cases h3
    have key := told tn1_ok (fnE 115 Tryz.f115) (by kernel_rfl) (by kernel_rfl) (t115 v m v' m' (v ^^^ v') (m ||| m') ((v ^^^ v') &&& ~~~(m ||| m')) (v ||| v') (m &&& m') (meetV v m v' m') (!(v &&& m == 0)) (!(v' &&& m' == 0)) (!((v ^^^ v') &&& ~~~(m ||| m') == 0)))
      (cons_p (said_B (tn1_111 v m)) (cons_p (not_B (tn1_111 v m)) (if_p (fun _ => nil_p) fun _ => cons_p (said_B (tn1_111 v' m')) (cons_p (not_B (tn1_111 v' m')) (if_p (fun _ => nil_p) fun _ => cons_p (bin_xor _ _) (cons_p (bin_or _ _) (cons_p (bin_andNot _ _) (cons_p (bin_neU _ _) (if_p (fun _ => nil_p) fun _ => cons_p (bin_or _ _) (cons_p (bin_and _ _) (one_p (tn1_160 _ _))))))))))))
    have e : (cond (!(v &&& m == 0) || (!(v' &&& m' == 0) || !((v ^^^ v') &&& ~~~(m ||| m') == 0))) (.tuple ⟨[pr 0 0, .bool false]⟩) (.tuple ⟨[pr (meetV v m v' m') (m &&& m'), .bool true]⟩) : Value) = meetTn v m v' m' := by
      unfold meetTn meetOk
      cases (v &&& m == 0) <;> cases (v' &&& m' == 0) <;> cases ((v ^^^ v') &&& ~~~(m ||| m') == 0) <;> rfl
    rw [e] at key
    refine ⟨rfl, ?_, key⟩
    unfold meetTn
    cases meetOk v m v' m' <;> rfl
  · obtain ⟨w, rfl, h1⟩ := a1_some h
    obtain ⟨x, rfl, h2⟩ := u1_some h1
    cases h2
    exact ⟨rfl, rfl, len_run x⟩
theorem tn2_ok : TabOK Tryz.prog tn2 := tAlt_ok tn2l_ok tn1_ok
theorem tn2_188 (v m n : U) : tn2 188 [pr v m, u n] = some (.bool (hasT v m n)) := by
  have e : tn2l 188 [pr v m, u n] = some (.bool (hasT v m n)) := (u2_at v m fun v m => u1 (u n) fun n => some (Value.bool (hasT v m n))).trans (u1_at n fun n => some (Value.bool (hasT v m n)))
  unfold tn2 tAlt; rw [e]
theorem tn2_113 (a b c d : U) : tn2 113 [pr a b, pr c d] = some (meetSp a b c d) := by
  have e : tn2l 113 [pr a b, pr c d] = some (meetSp a b c d) := (u2_at a b fun a b => u2 (pr c d) fun c d => some (meetSp a b c d)).trans (u2_at c d fun c d => some (meetSp a b c d))
  unfold tn2 tAlt; rw [e]
theorem tn2_115 (a b c d : U) : tn2 115 [pr a b, pr c d] = some (meetTn a b c d) := by
  have e : tn2l 115 [pr a b, pr c d] = some (meetTn a b c d) := (u2_at a b fun a b => u2 (pr c d) fun c d => some (meetTn a b c d)).trans (u2_at c d fun c d => some (meetTn a b c d))
  unfold tn2 tAlt; rw [e]
theorem tn2_159 (x : U) : tn2 159 [u x] = some (.int .i64 (lenU x : Int)) := by
  have e : tn2l 159 [u x] = some (.int .i64 (lenU x : Int)) := u1_at x fun x => some (Value.int .i64 (lenU x : Int))
  unfold tn2 tAlt; rw [e]
theorem tn2_111 (x y : U) : tn2 111 [pr x y] = some (.bool (x &&& y == 0)) := (show tn2 111 [pr x y] = tn1 111 [pr x y] from rfl).trans (tn1_111 x y)
theorem tn2_112 (x y : U) : tn2 112 [pr x y] = some (.bool (spMay x y)) := (show tn2 112 [pr x y] = tn1 112 [pr x y] from rfl).trans (tn1_112 x y)
theorem tn2_160 (x y : U) : tn2 160 [u x, u y] = some (pr (fitV x y) y) := (show tn2 160 [u x, u y] = tn1 160 [u x, u y] from rfl).trans (tn1_160 x y)
theorem tn2_79 : tn2 79 [] = some (pr 0 (BitVec.allOnes 64)) := rfl
theorem tn2_123 : tn2 123 [] = some (pr 0 (BitVec.allOnes 64)) := rfl
/-! ### the third one -/
abbrev B2 (f : FuncId) (a : List Value) : Bool := ansB tn2 f a
abbrev sB2 (f : FuncId) (a : List Value) : Prop := tn2 f a = some (.bool (B2 f a))
abbrev h114 (b1 b2 : Bool) (z w m : U) : List (Nat × Value) := [(9, .bool b1), (13, u z), (16, .bool b2), (21, u w), (22, u m)]
theorem t114 (lo hi z w m f : U) (n : Int) (b1 b2 : Bool) : ansX (rc (h114 b1 b2 z w m) undef undef (.int .u64 n) (qA tn2 [] [(159, .int .i64 n), (160, pr f m), (79, pr 0 (BitVec.allOnes 64))]) tn2 Tryz.f114 24 [u lo, u hi]) =
    some (cond b1 (.tuple ⟨[pr 0 0, .int .i64 1]⟩) (cond b2 (.tuple ⟨[pr 0 (BitVec.allOnes 64), .int .i64 0]⟩) (.tuple ⟨[pr f m, .int .i64 0]⟩)),
      bn .gtr 33 (u lo) (u hi) (.bool b1) :: cond b1 [] (bn .xor 33 (u lo) (u hi) (u z) :: (tn2 159 [u z] = some (.int .i64 n)) :: bn .eql 3 (.int .i64 n) (.int .i64 64) (.bool b2) :: cond b2 [tn2 79 [] = some (pr 0 (BitVec.allOnes 64))] [H.cvOk Tryz.prog (.cells true [u 0, u 0]) 3 95 (.int .i64 n) (.int .u64 n), bn .shl 33 (u 1) (.int .u64 n) (u w), bn .sub 33 (u w) (u 1) (u m), tn2 160 [u lo, u m] = some (pr f m)])) ∧
    evenX (rc (h114 b1 b2 z w m) undef undef (.int .u64 n) (qA tn2 [] [(159, .int .i64 n), (160, pr f m), (79, pr 0 (BitVec.allOnes 64))]) tn2 Tryz.f114 24 [u lo, u hi]) := by
  cases b1 <;> cases b2 <;> exact ⟨by kernel_rfl, by unfold evenX; kernel_rfl⟩
theorem t86 : ansX (rz [] (qA tn2 [] [(79, pr 0 (BitVec.allOnes 64)), (123, pr 0 (BitVec.allOnes 64))]) tn2 Tryz.f86 4 []) = some (.agg ⟨scC .all⟩, [tn2 79 [] = some (pr 0 (BitVec.allOnes 64)), tn2 123 [] = some (pr 0 (BitVec.allOnes 64))]) ∧ evenX (rz [] (qA tn2 [] [(79, pr 0 (BitVec.allOnes 64)), (123, pr 0 (BitVec.allOnes 64))]) tn2 Tryz.f86 4 []) := ⟨by kernel_rfl, by unfold evenX; kernel_rfl⟩
theorem t163 (v m v' m' z : U) (b1 b2 b3 : Bool) : ansX (rz [(7, .bool b1), (13, .bool (b1 && b2)), (18, u z), (19, .bool b3)] (qA tn2 [111, 188] []) tn2 Tryz.f163 21 [pr v m, pr v' m']) =
    some (.bool ((b1 && b2) && b3), sB2 111 [pr v m] :: (Value.bool (B2 111 [pr v m]) = .bool b1) :: (cond b1 [sB2 188 [pr v' m', u v]] [] ++ ((Value.bool (cond b1 (B2 188 [pr v' m', u v]) false) = .bool (b1 && b2)) :: cond (b1 && b2) [bn .andNot 33 (u m) (u m') (u z), bn .eql 33 (u z) (u 0) (.bool b3)] []))) ∧
    evenX (rz [(7, .bool b1), (13, .bool (b1 && b2)), (18, u z), (19, .bool b3)] (qA tn2 [111, 188] []) tn2 Tryz.f163 21 [pr v m, pr v' m']) := by
  cases b1 <;> cases b2 <;> exact ⟨by kernel_rfl, by unfold evenX; kernel_rfl⟩
theorem t164 (lo hi lo' hi' : U) (b1 b2 b3 : Bool) : ansX (rz [(7, .bool b1), (12, .bool b2), (19, .bool b3)] (qA tn2 [112] []) tn2 Tryz.f164 21 [pr lo hi, pr lo' hi']) =
    some (.bool ((b1 && b2) && b3), sB2 112 [pr lo hi] :: (Value.bool (B2 112 [pr lo hi]) = .bool b1) :: cond b1 (bn .leq 33 (u lo') (u lo) (.bool b2) :: cond b2 [bn .leq 33 (u hi) (u hi') (.bool b3)] []) []) ∧
    evenX (rz [(7, .bool b1), (12, .bool b2), (19, .bool b3)] (qA tn2 [112] []) tn2 Tryz.f164 21 [pr lo hi, pr lo' hi']) := by
  cases b1 <;> cases b2 <;> exact ⟨by kernel_rfl, by unfold evenX; kernel_rfl⟩
end
end Go.Proofs.YtipdeijgaabobaaGreatDoor
/-
  FTab6: the third table: Range, All, In.
-/
namespace Go.Proofs.YtipdeijgaabobaaGreatDoor
open Go Go.DI Go.DI.Kit Go.Proofs Go.Crt
noncomputable section
section
variable {P : Program} {K : TypeId → Bool} {t : TypeId}
theorem bin_shl1 (n : Nat) (hn : n < 64) : binD P K .shl t (u 1) (.int .u64 (n : Int)) = some (u (1#64 <<< n)) := by
  have h2 : 2 ^ n < 18446744073709551616 := Nat.pow_lt_pow_right (a := 2) (by decide) hn
  have e : (1#64 <<< n).toNat = 2 ^ n := by
    rw [BitVec.toNat_shiftLeft]
    show 1 <<< n % 18446744073709551616 = _
    rw [Nat.one_shiftLeft, Nat.mod_eq_of_lt h2]
  have e1 : ((1 : U).toNat : Int) * 2 ^ (min ((n : Int)).toNat 64) = ((2 ^ n : Nat) : Int) := by
    rw [Int.toNat_natCast, Nat.min_eq_left (by omega)]
    push_cast
    exact Int.one_mul _
  show (if (n : Int) < 0 then none else some (Value.int .u64 (IntKind.wrap .u64 (((1 : U).toNat : Int) * 2 ^ (min ((n : Int)).toNat 64))))) = _
  rw [if_neg (by omega), e1, IntWalk.u64_in _ ⟨by omega, by omega⟩]
  show _ = some (Value.int .u64 ((1#64 <<< n).toNat : Int))
  rw [e]
theorem bin_subU (x y : U) (h : y.toNat ≤ x.toNat) : binD P K .sub t (u x) (u y) = some (u (x - y)) := by
  have e : (x - y).toNat = x.toNat - y.toNat := BitVec.toNat_sub_of_le (by rw [BitVec.le_def]; exact h)
  have := x.isLt
  show some (Value.int .u64 (IntKind.wrap .u64 ((x.toNat : Int) - (y.toNat : Int)))) = _
  rw [IntWalk.u64_in _ ⟨by omega, by omega⟩]
  show _ = some (Value.int .u64 ((x - y).toNat : Int))
  rw [e]
  congr 2
  omega
end
def rngT (lo hi : U) : Value := cond (decide (hi.toNat < lo.toNat)) (.tuple ⟨[pr 0 0, .int .i64 1]⟩) (.tuple ⟨[pr (rngV lo hi) (rngM lo hi), .int .i64 0]⟩)
theorem lenU_le (x : U) : lenU x ≤ 64 := by
  unfold lenU lenN
  split
  · omega
  · rename_i h0
    have := (Nat.log2_lt h0 (k := 64)).2 x.isLt
    omega
theorem rng_run (lo hi : U) : ∃ (R : Orc) (m : Mem), (∀ B0, CfOK Tryz.prog B0 0 R) ∧ CfGrw R ∧ R 114 [u lo, u hi] m0 = some (rngT lo hi, m) := by
  have hl := lenU_le (lo ^^^ hi)
  by_cases h1 : hi.toNat < lo.toNat
  · have e : rngT lo hi = .tuple ⟨[pr 0 0, .int .i64 1]⟩ := by unfold rngT; rw [decide_eq_true h1]; rfl
    rw [e]
    refine told tn2_ok (fnE 114 Tryz.f114) (by kernel_rfl) (by kernel_rfl) (t114 lo hi 0 0 0 0 0 true true) (cons_p ?_ nil_p)
    show binD _ _ _ _ _ _ = _
    rw [bin_gtU, decide_eq_true h1]
  · by_cases h2 : lenU (lo ^^^ hi) = 64
    · have e : rngT lo hi = .tuple ⟨[pr 0 (BitVec.allOnes 64), .int .i64 0]⟩ := by
        unfold rngT rngV rngM fitV
        rw [decide_eq_false h1, if_pos h2]
        simp
      rw [e]
      refine told tn2_ok (fnE 114 Tryz.f114) (by kernel_rfl) (by kernel_rfl) (t114 lo hi (lo ^^^ hi) 0 0 0 (lenU (lo ^^^ hi) : Int) false true) (cons_p ?_ (cons_p (bin_xor _ _) (cons_p (tn2_159 _) (cons_p ?_ (one_p tn2_79)))))
      · show binD _ _ _ _ _ _ = _
        rw [bin_gtU, decide_eq_false h1]
      · show binD _ _ _ _ _ _ = _
        rw [bin_eqI, h2]
        rfl
    · have e : rngT lo hi = .tuple ⟨[pr (rngV lo hi) (rngM lo hi), .int .i64 0]⟩ := by unfold rngT; rw [decide_eq_false h1]; rfl
      have em : rngM lo hi = (1#64 <<< lenU (lo ^^^ hi)) - 1 := by unfold rngM; rw [if_neg h2]
      rw [e]
      refine told tn2_ok (fnE 114 Tryz.f114) (by kernel_rfl) (by kernel_rfl) (t114 lo hi (lo ^^^ hi) (1#64 <<< lenU (lo ^^^ hi)) (rngM lo hi) (rngV lo hi) (lenU (lo ^^^ hi) : Int) false false)
        (cons_p ?_ (cons_p (bin_xor _ _) (cons_p (tn2_159 _) (cons_p ?_ (cons_p (cv_395 _ (by omega) _) (cons_p (bin_shl1 _ (by omega)) (cons_p ?_ (one_p (tn2_160 _ _)))))))))
      · show binD _ _ _ _ _ _ = _
        rw [bin_gtU, decide_eq_false h1]
      · show binD _ _ _ _ _ _ = _
        rw [bin_eqI, decide_eq_false (by omega)]
      · show binD _ _ _ _ _ _ = _
        rw [em]
        refine bin_subU _ _ ?_
        rw [BitVec.toNat_shiftLeft]
        have h3 : 2 ^ lenU (lo ^^^ hi) < 18446744073709551616 := Nat.pow_lt_pow_right (a := 2) (by decide) (by omega : lenU (lo ^^^ hi) < 64)
        show 1 ≤ 1 <<< lenU (lo ^^^ hi) % 18446744073709551616
        rw [Nat.one_shiftLeft, Nat.mod_eq_of_lt h3]
        exact Nat.one_le_two_pow
def tn3l : Tab := tabL [(114, a2 fun a b => u1 a fun lo => u1 b fun hi => some (rngT lo hi)), (86, a0 (some (.agg ⟨scC .all⟩))),
  (163, a2 fun a b => u2 a fun v m => u2 b fun v' m' => some (.bool (inT v m v' m'))), (164, a2 fun a b => u2 a fun lo hi => u2 b fun lo' hi' => some (.bool (inSp lo hi lo' hi')))]
def tn3 : Tab := tAlt tn3l tn2
theorem tn3l_ok : TabOK Tryz.prog tn3l := by
  refine tabL_cons (fun a v h => ?_) (tabL_cons (fun a v h => ?_) (tabL_cons (fun a v h => ?_) (tabL_cons (fun a v h => ?_) (tabL_nil _))))
  · obtain ⟨w, w2, rfl, h1⟩ := a2_some h
    obtain ⟨x, rfl, h2⟩ := u1_some h1
    obtain ⟨y, rfl, h3⟩ := u1_some h2
    cases h3
    refine ⟨rfl, ?_, rng_run x y⟩
    unfold rngT
    cases decide (y.toNat < x.toNat) <;> rfl
  · obtain ⟨rfl, h1⟩ := a0_some h
    cases h1
    exact ⟨rfl, rfl, told tn2_ok (fnE 86 Tryz.f86) (by kernel_rfl) (by kernel_rfl) t86 (cons_p tn2_79 (one_p tn2_123))⟩
  · obtain ⟨w, w2, rfl, h1⟩ := a2_some h
    obtain ⟨v, m, rfl, h2⟩ := u2_some h1
    obtain ⟨v', m', rfl, h3⟩ := u2_some h2
    cases h3
    have e188 : hasT v' m' v = ((v' &&& m' == 0) && (v &&& ~~~m' == v')) := rfl
    refine ⟨rfl, rfl, told tn2_ok (fnE 163 Tryz.f163) (by kernel_rfl) (by kernel_rfl) (t163 v m v' m' (m &&& ~~~m') (v &&& m == 0) (hasT v' m' v) (m &&& ~~~m' == 0))
      (cons_p (said_B (tn2_111 v m)) (cons_p (val_B (tn2_111 v m)) (app_p (if_p (fun _ => one_p (said_B (tn2_188 v' m' v))) fun _ => nil_p) (cons_p ?_ (if_p (fun _ => cons_p (bin_andNot _ _) (one_p (bin_eqU _ _))) fun _ => nil_p)))))⟩
    rw [show B2 188 [pr v' m', u v] = hasT v' m' v from ansB_of (tn2_188 v' m' v)]
    cases (v &&& m == 0) <;> rfl
  · obtain ⟨w, w2, rfl, h1⟩ := a2_some h
    obtain ⟨x, y, rfl, h2⟩ := u2_some h1
    obtain ⟨x', y', rfl, h3⟩ := u2_some h2
    cases h3
    exact ⟨rfl, rfl, told tn2_ok (fnE 164 Tryz.f164) (by kernel_rfl) (by kernel_rfl) (t164 x y x' y' (spMay x y) (spMay x' x) (spMay y y'))
      (cons_p (said_B (tn2_112 x y)) (cons_p (val_B (tn2_112 x y)) (if_p (fun _ => cons_p (bin_leI _ _ _) (if_p (fun _ => one_p (bin_leI _ _ _)) fun _ => nil_p)) fun _ => nil_p)))⟩
theorem tn3_ok : TabOK Tryz.prog tn3 := tAlt_ok tn3l_ok tn2_ok
theorem tAlt_l {T T' : Tab} {f : FuncId} {a : List Value} {v : Value} (h : T f a = some v) : tAlt T T' f a = some v := by unfold tAlt; rw [h]
theorem tn3_114 (x y : U) : tn3 114 [u x, u y] = some (rngT x y) := tAlt_l ((u1_at x fun lo => u1 (u y) fun hi => some (rngT lo hi)).trans (u1_at y fun hi => some (rngT x hi)))
theorem tn3_163 (v m v' m' : U) : tn3 163 [pr v m, pr v' m'] = some (.bool (inT v m v' m')) := tAlt_l ((u2_at v m fun v m => u2 (pr v' m') fun v' m' => some (Value.bool (inT v m v' m'))).trans (u2_at v' m' fun v' m' => some (Value.bool (inT v m v' m'))))
theorem tn3_164 (v m v' m' : U) : tn3 164 [pr v m, pr v' m'] = some (.bool (inSp v m v' m')) := tAlt_l ((u2_at v m fun v m => u2 (pr v' m') fun v' m' => some (Value.bool (inSp v m v' m'))).trans (u2_at v' m' fun v' m' => some (Value.bool (inSp v m v' m'))))
theorem tn3_86 : tn3 86 [] = some (.agg ⟨scC .all⟩) := tAlt_l rfl
theorem tn3_111 (x y : U) : tn3 111 [pr x y] = some (.bool (x &&& y == 0)) := (show tn3 111 [pr x y] = tn2 111 [pr x y] from rfl).trans (tn2_111 x y)
theorem tn3_112 (x y : U) : tn3 112 [pr x y] = some (.bool (spMay x y)) := (show tn3 112 [pr x y] = tn2 112 [pr x y] from rfl).trans (tn2_112 x y)
theorem tn3_113 (a b c d : U) : tn3 113 [pr a b, pr c d] = some (meetSp a b c d) := (show tn3 113 [pr a b, pr c d] = tn2 113 [pr a b, pr c d] from rfl).trans (tn2_113 ..)
theorem tn3_115 (a b c d : U) : tn3 115 [pr a b, pr c d] = some (meetTn a b c d) := (show tn3 115 [pr a b, pr c d] = tn2 115 [pr a b, pr c d] from rfl).trans (tn2_115 ..)
end
end Go.Proofs.YtipdeijgaabobaaGreatDoor
/-
  FSet1: scalar.Settle: one round.
-/
namespace Go.Proofs.YtipdeijgaabobaaGreatDoor
open Go Go.DI Go.DI.Kit Go.Proofs Go.Crt
noncomputable section
abbrev bk (x y : U) : Blk := .cells true [u x, u y]
abbrev sM1 (M : Mem) : Mem := M.push (bk 0 0)
abbrev sM2 (M : Mem) (e1 e2 : U) : Mem := (sM1 M).set M.size (bk e1 e2)
abbrev sM3 (M : Mem) (e1 e2 : U) : Mem := (sM2 M e1 e2).push (bk 0 0)
abbrev sM4 (M : Mem) (e1 e2 r1 r2 : U) : Mem := (sM3 M e1 e2).set (M.size + 1) (bk r1 r2)
abbrev sM5 (M : Mem) (e1 e2 r1 r2 w1 w2 : U) : Mem := (sM4 M e1 e2 r1 r2).set (M.size + 1) (bk w1 w2)
abbrev sM6 (M : Mem) (e1 e2 r1 r2 w1 w2 : U) : Mem := (sM5 M e1 e2 r1 r2 w1 w2).set 0 (bk w1 w2)
abbrev sM7 (M : Mem) (e1 e2 r1 r2 w1 w2 : U) : Mem := (sM6 M e1 e2 r1 r2 w1 w2).set 1 (bk e1 e2)
abbrev pt (b : Nat) : Value := .pointer (some ⟨b, 0, none⟩)
abbrev sc4 (a b c d : U) : Value := .agg ⟨[u a, u b, u c, u d]⟩
abbrev b4 (a b c d : U) : Blk := .cells true [u a, u b, u c, u d]
noncomputable def lb78 : Code := loopN Tryz.f78 0
noncomputable def ds78 : List Nat := [2, 3, 4, 5]
noncomputable def at78 (V m lo hi vm e1 e2 r1 r2 w1 w2 : U) (b1 b2 : Bool) : List (Nat × Value) :=
  [(20, pr lo hi), (22, u V), (24, u V), (26, u m), (27, u vm), (37, u e1), (39, u e2), (44, pr V m), (45, pr r1 r2), (52, pr e1 e2), (53, pr lo hi), (54, .bool b1), (56, pr w1 w2), (57, pr V m), (58, .bool b2), (60, pr V m), (61, pr lo hi), (63, pr w1 w2), (64, pr e1 e2)]
noncomputable def st78 (V m lo hi e1 e2 r1 r2 w1 w2 : U) (a x : Operand) : Option Blk := match a, x with
  | .tmp 6, .tmp 30 => some (bk e1 e2)
  | .tmp 8, .tmp 41 => some (bk r1 r2)
  | .tmp 8, .tmp 47 => some (bk w1 w2)
  | .tmp 4, .tmp 62 => some (b4 V m lo hi)
  | .tmp 4, _ => some (b4 0 0 0 0)
  | .tmp 2, _ => some (bk w1 w2)
  | .tmp 3, _ => some (bk e1 e2)
  | _, _ => none
noncomputable def h78 (V m lo hi vm e1 e2 r1 r2 w1 w2 : U) (b1 b2 : Bool) : H.Hint := { hAt (lkN (at78 V m lo hi vm e1 e2 r1 r2 w1 w2 b1 b2)) with stO := st78 V m lo hi e1 e2 r1 r2 w1 w2 }
noncomputable def q78 (e1 e2 r1 r2 w1 w2 : U) (ok1 ok2 : Bool) : Tab := qA tn3 [] [(113, tup (pr e1 e2) ok1), (114, .tuple ⟨[pr r1 r2, .int .i64 0]⟩), (115, tup (pr w1 w2) ok2)]
abbrev z78 (k : Nat) (V m lo hi vm e1 e2 r1 r2 w1 w2 : U) (b1 b2 ok1 ok2 : Bool) (x : Nat → Value) (M : Mem) :=
  pcZ (h78 V m lo hi vm e1 e2 r1 r2 w1 w2 b1 b2) (q78 e1 e2 r1 r2 w1 w2 ok1 ok2) tn3 noQ (oTab tn3) Tryz.prog kp 0 k lb78 65 ds78 (fullN 65 (up x (ds78.zip [pt 0, pt 1, pt 2, .bool false]))) M
abbrev ld2 (B : Blk) (x y : U) : Prop := H.ldOk B 0 true 2 (pr x y)
abbrev ld1 (B : Blk) (off : Nat) (x : U) : Prop := H.ldOk B off false 1 (u x)
abbrev so (B : Blk) (t : TypeId) (v : Value) (y : Blk) : Prop := H.stOk Tryz.prog B t 0 v y
def ex78 (ok1 ok2 b1 b2 : Bool) : Ex := cond ok1 (cond ok2 (cond (b1 && b2) .ret .normal) .ret) .ret
def mem78 (M : Mem) (V m lo hi e1 e2 r1 r2 w1 w2 : U) (ok1 ok2 b1 b2 : Bool) : Mem := cond ok1 (cond ok2 (cond (b1 && b2) ((sM5 M e1 e2 r1 r2 w1 w2).set 2 (b4 V m lo hi)) (sM7 M e1 e2 r1 r2 w1 w2)) ((sM5 M e1 e2 r1 r2 w1 w2).set 2 (b4 0 0 0 0))) ((sM2 M e1 e2).set 2 (b4 0 0 0 0))
theorem t78 (k : Nat) (V m lo hi vm e1 e2 r1 r2 w1 w2 : U) (b1 b2 ok1 ok2 : Bool) (x : Nat → Value) (M : Mem) :
    ansX (z78 k V m lo hi vm e1 e2 r1 r2 w1 w2 b1 b2 ok1 ok2 x M) = some ((ex78 ok1 ok2 b1 b2, [pt 0, pt 1, pt 2, .bool (ok1 && (ok2 && (b1 && b2)))], mem78 M V m lo hi e1 e2 r1 r2 w1 w2 ok1 ok2 b1 b2),
      ld2 (M.get 1) lo hi :: ld1 (M.get 0) 0 V :: ld1 (M.get 0) 0 V :: ld1 (M.get 0) 1 m :: bn .or 33 (u V) (u m) (u vm) :: (tn3 113 [pr lo hi, pr V vm] = some (tup (pr e1 e2) ok1)) :: so ((sM1 M).get M.size) 37 (pr e1 e2) (bk e1 e2) ::
      cond ok1 (ld1 ((sM2 M e1 e2).get M.size) 0 e1 :: ld1 ((sM2 M e1 e2).get M.size) 1 e2 :: (tn3 114 [u e1, u e2] = some (.tuple ⟨[pr r1 r2, .int .i64 0]⟩)) :: so ((sM3 M e1 e2).get (M.size + 1)) 35 (pr r1 r2) (bk r1 r2) ::
        ld2 ((sM4 M e1 e2 r1 r2).get 0) V m :: ld2 ((sM4 M e1 e2 r1 r2).get (M.size + 1)) r1 r2 :: (tn3 115 [pr V m, pr r1 r2] = some (tup (pr w1 w2) ok2)) :: so ((sM4 M e1 e2 r1 r2).get (M.size + 1)) 35 (pr w1 w2) (bk w1 w2) ::
        cond ok2 (ld2 ((sM5 M e1 e2 r1 r2 w1 w2).get M.size) e1 e2 :: ld2 ((sM5 M e1 e2 r1 r2 w1 w2).get 1) lo hi :: bn .eql 37 (pr e1 e2) (pr lo hi) (.bool b1) ::
          (cond b1 [ld2 ((sM5 M e1 e2 r1 r2 w1 w2).get (M.size + 1)) w1 w2, ld2 ((sM5 M e1 e2 r1 r2 w1 w2).get 0) V m, bn .eql 35 (pr w1 w2) (pr V m) (.bool b2)] [] ++
          cond (b1 && b2) [ld2 ((sM5 M e1 e2 r1 r2 w1 w2).get 0) V m, ld2 ((sM5 M e1 e2 r1 r2 w1 w2).get 1) lo hi, so ((sM5 M e1 e2 r1 r2 w1 w2).get 2) 39 (sc4 V m lo hi) (b4 V m lo hi)]
            [ld2 ((sM5 M e1 e2 r1 r2 w1 w2).get (M.size + 1)) w1 w2, ld2 ((sM5 M e1 e2 r1 r2 w1 w2).get M.size) e1 e2, so ((sM5 M e1 e2 r1 r2 w1 w2).get 0) 35 (pr w1 w2) (bk w1 w2), so ((sM6 M e1 e2 r1 r2 w1 w2).get 1) 37 (pr e1 e2) (bk e1 e2), ld2 ((sM6 M e1 e2 r1 r2 w1 w2).get M.size) e1 e2]))
          [so ((sM5 M e1 e2 r1 r2 w1 w2).get 2) 39 (sc4 0 0 0 0) (b4 0 0 0 0)])
        [so ((sM2 M e1 e2).get 2) 39 (sc4 0 0 0 0) (b4 0 0 0 0)]) ∧
    evenX (z78 k V m lo hi vm e1 e2 r1 r2 w1 w2 b1 b2 ok1 ok2 x M) := by
  cases ok1
  · exact ⟨by kernel_rfl, by unfold evenX; kernel_rfl⟩
  · cases ok2
    · exact ⟨by kernel_rfl, by unfold evenX; kernel_rfl⟩
    · cases b1 <;> cases b2 <;> exact ⟨by kernel_rfl, by unfold evenX; kernel_rfl⟩
end
end Go.Proofs.YtipdeijgaabobaaGreatDoor
/-
  FSet2: scalar.Settle: its rounds, one after the other.
-/
namespace Go.Proofs.YtipdeijgaabobaaGreatDoor
open Go Go.DI Go.DI.Kit Go.Proofs Go.Crt
noncomputable section
abbrev tw (p : Bool) (q : Option Bool) : Option Bool := Bool.rec (motive := fun _ => Option Bool) (some false) q p
theorem tw_eq (p : Bool) (q : Bool) : tw p (some q) = some (p && q) := by cases p <;> rfl
abbrev iq (x y : U) : Bool := (x.toNat : Int) == (y.toNat : Int)
theorem iq_eq (x y : U) : iq x y = (x == y) := by
  unfold iq
  by_cases h : x = y
  · subst h; simp
  · rw [beq_eq_false_iff_ne.2 h, beq_eq_false_iff_ne.2 fun e => h (u_inj.1 e)]
theorem feq37 (a b c d : U) : feq Tryz.prog kp 100 37 (pr a b) (pr c d) = tw (iq a c) (tw (iq b d) (some true)) := by kernel_rfl
theorem feq35 (a b c d : U) : feq Tryz.prog kp 100 35 (pr a b) (pr c d) = tw (iq a c) (tw (iq b d) (some true)) := by kernel_rfl
/-- Both, one after the other. -/
abbrev an (p q : Option Bool) : Option Bool := match p with
  | some true => q
  | some false => some false
  | none => none
theorem an_eq (p q : Bool) : an (some p) (some q) = some (p && q) := by cases p <;> rfl
theorem feq39 (a b c d a' b' c' d' : U) : feq Tryz.prog kp 100 39 (sc4 a b c d) (sc4 a' b' c' d') = an (tw (iq a a') (tw (iq b b') (some true))) (an (tw (iq c c') (tw (iq d d') (some true))) (some true)) := by kernel_rfl
theorem kp37 : kp 37 = true := by kernel_rfl
theorem kp35 : kp 35 = true := by kernel_rfl
theorem kp39 : kp 39 = true := by kernel_rfl
theorem eqS {t : TypeId} {xs ys : Array Value} {b : Bool} (hk : kp t = true) (h : feq Tryz.prog kp 100 t (.agg xs) (.agg ys) = some b) : binD Tryz.prog kp .eql t (.agg xs) (.agg ys) = some (.bool b) := by
  simp only [binD]
  rw [if_pos hk]
  simp only [eqD]
  rw [h]
theorem eq37 (a b c d : U) : bn .eql 37 (pr a b) (pr c d) (.bool (a == c && b == d)) := eqS kp37 (by rw [feq37, tw_eq, tw_eq, iq_eq, iq_eq, Bool.and_true])
theorem eq35 (a b c d : U) : bn .eql 35 (pr a b) (pr c d) (.bool (a == c && b == d)) := eqS kp35 (by rw [feq35, tw_eq, tw_eq, iq_eq, iq_eq, Bool.and_true])
theorem eq39 (a b c d a' b' c' d' : U) : bn .eql 39 (sc4 a b c d) (sc4 a' b' c' d') (.bool ((a == a' && b == b') && (c == c' && d == d'))) := eqS kp39 (by
  rw [feq39, tw_eq, tw_eq, tw_eq, tw_eq, iq_eq, iq_eq, iq_eq, iq_eq, Bool.and_true, Bool.and_true]
  exact (congrArg _ (an_eq _ true)).trans ((an_eq _ _).trans (by rw [Bool.and_true])))
/-! ### the rounds -/
theorem ld2_of {x y : U} {B : Blk} (h : B = bk x y) : ld2 B x y := by
  subst h; exact ⟨[u x, u y], rfl, rfl⟩
theorem ld1_0 {x y : U} {B : Blk} (h : B = bk x y) : ld1 B 0 x := by subst h; rfl
theorem ld1_1 {x y : U} {B : Blk} (h : B = bk x y) : ld1 B 1 y := by subst h; rfl
theorem sz35 : szOf Tryz.prog 35 = some 2 := by kernel_rfl
theorem sz37 : szOf Tryz.prog 37 = some 2 := by kernel_rfl
theorem sz39 : szOf Tryz.prog 39 = some 4 := by kernel_rfl
theorem so_all {t : TypeId} {n : Nat} (hs : szOf Tryz.prog t = some n) {c v : List Value} (hc : c.length = n) (hv : v.length = n) (h1 : v.all one = true) : so (.cells true c) t (.agg ⟨v⟩) (.cells true v) := fun m b hg => by
  have e : splice c 0 v = v := by
    unfold splice
    rw [List.take_zero, List.nil_append, List.drop_eq_nil_of_le (by omega), List.append_nil]
  have h2 := storeD_at (v := .agg ⟨v⟩) (n := n) (off := 0) hs hv hg (by omega) h1
  have h3 : (Value.agg ⟨v⟩).cells.toList = v := rfl
  rw [h3, e] at h2
  exact h2
theorem so2 {t : TypeId} (hs : szOf Tryz.prog t = some 2) {B : Blk} {x y z w : U} (h : B = bk z w) : so B t (pr x y) (bk x y) := by
  subst h; exact so_all hs rfl rfl rfl
theorem so4 {B : Blk} {a b c d x y z w : U} (h : B = b4 a b c d) : so B 39 (sc4 x y z w) (b4 x y z w) := by
  subst h; exact so_all sz39 rfl rfl rfl
abbrev z4 : Blk := b4 0 0 0 0
/-- The memory while it settles. -/
structure SetM (M : Mem) (V m lo hi : U) : Prop where
  size : 3 ≤ M.size
  g0 : M.get 0 = bk V m
  g1 : M.get 1 = bk lo hi
  g2 : M.get 2 = z4
abbrev fr78 (x : Nat → Value) (b : Bool) : Tmps := fullN 65 (up x (ds78.zip [pt 0, pt 1, pt 2, .bool b]))
abbrev cd78 (kk : Nat) : Tmps → Mem → Option (Ex × Tmps × Mem) := codeD Tryz.prog kp 0 (oTab tn3) (drawD Tryz.prog kp 0 (oTab tn3) 65) 65 kk lb78
theorem set65 : SetLaw 65 := by
  intro x d v hd
  refine ⟨up x [(d, v)], ?_⟩
  iterate 65 (rcases d with _ | d; · kernel_rfl)
  omega
section
variable {M : Mem} {V m lo hi e1 e2 r1 r2 w1 w2 : U}
theorem sM2_at {j : Nat} (h : j < M.size) : (sM2 M e1 e2).get j = M.get j := by
  rw [Mem.get_set_ne _ (by omega), Mem.get_push_ne _ (by omega)]
theorem sM2_e : (sM2 M e1 e2).get M.size = bk e1 e2 := Mem.get_set_same ..
theorem sM2_size : (sM2 M e1 e2).size = M.size + 1 := rfl
theorem sM4_at {j : Nat} (h : j ≤ M.size) : (sM4 M e1 e2 r1 r2).get j = (sM2 M e1 e2).get j := by
  rw [Mem.get_set_ne _ (by omega), Mem.get_push_ne _ (by rw [sM2_size]; omega)]
theorem sM4_r : (sM4 M e1 e2 r1 r2).get (M.size + 1) = bk r1 r2 := Mem.get_set_same ..
theorem sM5_at {j : Nat} (h : j ≤ M.size) : (sM5 M e1 e2 r1 r2 w1 w2).get j = (sM2 M e1 e2).get j := by
  rw [Mem.get_set_ne _ (by omega), sM4_at h]
theorem sM5_w : (sM5 M e1 e2 r1 r2 w1 w2).get (M.size + 1) = bk w1 w2 := Mem.get_set_same ..
theorem meetSp_t {a b c d : U} (h : spOk a b c d = true) : meetSp a b c d = tup (pr (maxU a c) (minU b d)) true := by unfold meetSp; rw [h]; rfl
theorem meetSp_f {a b c d : U} (h : spOk a b c d = false) : meetSp a b c d = tup (pr 0 0) false := by unfold meetSp; rw [h]; rfl
theorem meetTn_t {a b c d : U} (h : meetOk a b c d = true) : meetTn a b c d = tup (pr (meetV a b c d) (meetM b d)) true := by unfold meetTn; rw [h]; rfl
theorem meetTn_f {a b c d : U} (h : meetOk a b c d = false) : meetTn a b c d = tup (pr 0 0) false := by unfold meetTn; rw [h]; rfl
theorem rngT_t {a b : U} (h : spMay a b = true) : rngT a b = .tuple ⟨[pr (rngV a b) (rngM a b), .int .i64 0]⟩ := by
  unfold rngT
  have := spMay_iff.1 h
  rw [decide_eq_false (by omega)]; rfl
/-- Nothing is left. -/
theorem turn_1 (hM : SetM M V m lo hi) (h1 : ok1 V m lo hi = false) (kk : Nat) (x : Nat → Value) : ∃ x' M', cd78 kk (fr78 x false) M = some (.ret, fr78 x' false, M') ∧ M'.get 2 = z4 := by
  have hs := hM.size
  obtain ⟨x', h⟩ := pcZ_full (tells_tab tn3) set65 rfl (t78 kk V m lo hi (V ||| m) 0 0 0 0 0 0 false false false false x M).1 (t78 kk V m lo hi (V ||| m) 0 0 0 0 0 0 false false false false x M).2 (by
    refine cons_p (ld2_of hM.g1) ?_
    refine cons_p (ld1_0 hM.g0) ?_
    refine cons_p (ld1_0 hM.g0) ?_
    refine cons_p (ld1_1 hM.g0) ?_
    refine cons_p (bin_or _ _) ?_
    refine cons_p ((tn3_113 ..).trans (congrArg some (meetSp_f h1))) ?_
    refine cons_p (so2 sz37 (Mem.get_push_same ..)) ?_
    exact one_p (so4 (by rw [sM2_at (by omega)]; exact hM.g2)))
  exact ⟨x', _, h, Mem.get_set_same ..⟩
theorem turn_2 (hM : SetM M V m lo hi) (h1 : ok1 V m lo hi = true) (h2 : ok2 V m lo hi = false) (kk : Nat) (x : Nat → Value) : ∃ x' M', cd78 kk (fr78 x false) M = some (.ret, fr78 x' false, M') ∧ M'.get 2 = z4 := by
  have hs := hM.size
  have hg := (round_good h1).2
  obtain ⟨x', h⟩ := pcZ_full (tells_tab tn3) set65 rfl (t78 kk V m lo hi (V ||| m) (eLo V lo) (eHi V m hi) (rngV (eLo V lo) (eHi V m hi)) (rngM (eLo V lo) (eHi V m hi)) 0 0 false false true false x M).1 (t78 kk V m lo hi (V ||| m) (eLo V lo) (eHi V m hi) (rngV (eLo V lo) (eHi V m hi)) (rngM (eLo V lo) (eHi V m hi)) 0 0 false false true false x M).2 (by
    refine cons_p (ld2_of hM.g1) ?_
    refine cons_p (ld1_0 hM.g0) ?_
    refine cons_p (ld1_0 hM.g0) ?_
    refine cons_p (ld1_1 hM.g0) ?_
    refine cons_p (bin_or _ _) ?_
    refine cons_p ((tn3_113 ..).trans (congrArg some (meetSp_t h1))) ?_
    refine cons_p (so2 sz37 (Mem.get_push_same ..)) ?_
    refine cons_p (ld1_0 sM2_e) ?_
    refine cons_p (ld1_1 sM2_e) ?_
    refine cons_p ((tn3_114 ..).trans (congrArg some (rngT_t hg))) ?_
    refine cons_p (so2 sz35 (Mem.get_push_same ..)) ?_
    refine cons_p (ld2_of (by rw [sM4_at (by omega), sM2_at (by omega)]; exact hM.g0)) ?_
    refine cons_p (ld2_of sM4_r) ?_
    refine cons_p ((tn3_115 ..).trans (congrArg some (meetTn_f h2))) ?_
    refine cons_p (so2 sz35 sM4_r) ?_
    exact one_p (so4 (by rw [sM5_at (by omega), sM2_at (by omega)]; exact hM.g2)))
  exact ⟨x', _, h, Mem.get_set_same ..⟩
/-- A round that is not the last one, or the last one. -/
theorem turn_3 (hM : SetM M V m lo hi) (h1 : ok1 V m lo hi = true) (h2 : ok2 V m lo hi = true) (kk : Nat) (x : Nat → Value) :
    (same V m lo hi = true ∧ ∃ x' M', cd78 kk (fr78 x false) M = some (.ret, fr78 x' true, M') ∧ M'.get 2 = b4 V m lo hi) ∨
    (same V m lo hi = false ∧ ∃ x' M', cd78 kk (fr78 x false) M = some (.normal, fr78 x' false, M') ∧ SetM M' (wV V m lo hi) (wM V m lo hi) (eLo V lo) (eHi V m hi)) := by
  have hs := hM.size
  have hg := (round_good h1).2
  obtain ⟨b1, hb1⟩ : ∃ b, (eLo V lo == lo && eHi V m hi == hi) = b := ⟨_, rfl⟩
  obtain ⟨b2, hb2⟩ : ∃ b, (wV V m lo hi == V && wM V m lo hi == m) = b := ⟨_, rfl⟩
  have hsm : same V m lo hi = (b1 && b2) := by unfold same; rw [hb1, hb2]
  have hq1 := eq37 (eLo V lo) (eHi V m hi) lo hi
  rw [hb1] at hq1
  have hq2 := eq35 (wV V m lo hi) (wM V m lo hi) V m
  rw [hb2] at hq2
  have g0 : ∀ {w1 w2 : U}, (sM5 M (eLo V lo) (eHi V m hi) (rngV (eLo V lo) (eHi V m hi)) (rngM (eLo V lo) (eHi V m hi)) w1 w2).get 0 = bk V m := by intro w1 w2; rw [sM5_at (by omega), sM2_at (by omega)]; exact hM.g0
  have g1 : ∀ {w1 w2 : U}, (sM5 M (eLo V lo) (eHi V m hi) (rngV (eLo V lo) (eHi V m hi)) (rngM (eLo V lo) (eHi V m hi)) w1 w2).get 1 = bk lo hi := by intro w1 w2; rw [sM5_at (by omega), sM2_at (by omega)]; exact hM.g1
  have g2 : ∀ {w1 w2 : U}, (sM5 M (eLo V lo) (eHi V m hi) (rngV (eLo V lo) (eHi V m hi)) (rngM (eLo V lo) (eHi V m hi)) w1 w2).get 2 = z4 := by intro w1 w2; rw [sM5_at (by omega), sM2_at (by omega)]; exact hM.g2
  have ge : ∀ {w1 w2 : U}, (sM5 M (eLo V lo) (eHi V m hi) (rngV (eLo V lo) (eHi V m hi)) (rngM (eLo V lo) (eHi V m hi)) w1 w2).get M.size = bk (eLo V lo) (eHi V m hi) := by intro w1 w2; rw [sM5_at (Nat.le_refl _)]; exact sM2_e
  have tail : ∀ q ∈ (cond b1 [ld2 ((sM5 M (eLo V lo) (eHi V m hi) (rngV (eLo V lo) (eHi V m hi)) (rngM (eLo V lo) (eHi V m hi)) (wV V m lo hi) (wM V m lo hi)).get (M.size + 1)) (wV V m lo hi) (wM V m lo hi), ld2 ((sM5 M (eLo V lo) (eHi V m hi) (rngV (eLo V lo) (eHi V m hi)) (rngM (eLo V lo) (eHi V m hi)) (wV V m lo hi) (wM V m lo hi)).get 0) V m, bn .eql 35 (pr (wV V m lo hi) (wM V m lo hi)) (pr V m) (.bool b2)] [] : List Prop), q :=
    if_p (fun _ => cons_p (ld2_of sM5_w) (cons_p (ld2_of g0) (one_p hq2))) fun _ => nil_p
  obtain ⟨x', h⟩ := pcZ_full (tells_tab tn3) set65 rfl (t78 kk V m lo hi (V ||| m) (eLo V lo) (eHi V m hi) (rngV (eLo V lo) (eHi V m hi)) (rngM (eLo V lo) (eHi V m hi)) (wV V m lo hi) (wM V m lo hi) b1 b2 true true x M).1 (t78 kk V m lo hi (V ||| m) (eLo V lo) (eHi V m hi) (rngV (eLo V lo) (eHi V m hi)) (rngM (eLo V lo) (eHi V m hi)) (wV V m lo hi) (wM V m lo hi) b1 b2 true true x M).2 (by
    refine cons_p (ld2_of hM.g1) ?_
    refine cons_p (ld1_0 hM.g0) ?_
    refine cons_p (ld1_0 hM.g0) ?_
    refine cons_p (ld1_1 hM.g0) ?_
    refine cons_p (bin_or _ _) ?_
    refine cons_p ((tn3_113 ..).trans (congrArg some (meetSp_t h1))) ?_
    refine cons_p (so2 sz37 (Mem.get_push_same ..)) ?_
    refine cons_p (ld1_0 sM2_e) ?_
    refine cons_p (ld1_1 sM2_e) ?_
    refine cons_p ((tn3_114 ..).trans (congrArg some (rngT_t hg))) ?_
    refine cons_p (so2 sz35 (Mem.get_push_same ..)) ?_
    refine cons_p (ld2_of (by rw [sM4_at (by omega), sM2_at (by omega)]; exact hM.g0)) ?_
    refine cons_p (ld2_of sM4_r) ?_
    refine cons_p ((tn3_115 ..).trans (congrArg some (meetTn_t h2))) ?_
    refine cons_p (so2 sz35 sM4_r) ?_
    refine cons_p (ld2_of ge) ?_
    refine cons_p (ld2_of g1) ?_
    refine cons_p hq1 ?_
    refine app_p tail ?_
    exact if_p (fun _ => cons_p (ld2_of g0) (cons_p (ld2_of g1) (one_p (so4 g2)))) fun _ => cons_p (ld2_of sM5_w) (cons_p (ld2_of ge) (cons_p (so2 sz35 g0) (cons_p (so2 sz37 (by rw [Mem.get_set_ne _ (by decide)]; exact g1)) (one_p (ld2_of (by rw [Mem.get_set_ne _ (by omega)]; exact ge)))))))
  cases hb : (b1 && b2) with
  | true =>
    left
    refine ⟨by rw [hsm, hb], x', (sM5 M (eLo V lo) (eHi V m hi) (rngV (eLo V lo) (eHi V m hi)) (rngM (eLo V lo) (eHi V m hi)) (wV V m lo hi) (wM V m lo hi)).set 2 (b4 V m lo hi), ?_, ?_⟩
    · rw [show ex78 true true b1 b2 = .ret by unfold ex78; rw [hb]; rfl, show mem78 M V m lo hi (eLo V lo) (eHi V m hi) (rngV (eLo V lo) (eHi V m hi)) (rngM (eLo V lo) (eHi V m hi)) (wV V m lo hi) (wM V m lo hi) true true b1 b2 = (sM5 M (eLo V lo) (eHi V m hi) (rngV (eLo V lo) (eHi V m hi)) (rngM (eLo V lo) (eHi V m hi)) (wV V m lo hi) (wM V m lo hi)).set 2 (b4 V m lo hi) by unfold mem78; rw [hb]; rfl, show (true && (true && (b1 && b2))) = true by rw [hb]; rfl] at h
      exact h
    · exact Mem.get_set_same ..
  | false =>
    right
    refine ⟨by rw [hsm, hb], x', sM7 M (eLo V lo) (eHi V m hi) (rngV (eLo V lo) (eHi V m hi)) (rngM (eLo V lo) (eHi V m hi)) (wV V m lo hi) (wM V m lo hi), ?_, ?_⟩
    · rw [show ex78 true true b1 b2 = .normal by unfold ex78; rw [hb]; rfl, show mem78 M V m lo hi (eLo V lo) (eHi V m hi) (rngV (eLo V lo) (eHi V m hi)) (rngM (eLo V lo) (eHi V m hi)) (wV V m lo hi) (wM V m lo hi) true true b1 b2 = sM7 M (eLo V lo) (eHi V m hi) (rngV (eLo V lo) (eHi V m hi)) (rngM (eLo V lo) (eHi V m hi)) (wV V m lo hi) (wM V m lo hi) by unfold mem78; rw [hb]; rfl, show (true && (true && (b1 && b2))) = false by rw [hb]; rfl] at h
      exact h
    · refine ⟨by show 3 ≤ M.size + 1 + 1; omega, ?_, Mem.get_set_same .., ?_⟩
      · rw [Mem.get_set_ne _ (by decide)]; exact Mem.get_set_same ..
      · rw [Mem.get_set_ne _ (by decide), Mem.get_set_ne _ (by decide)]; exact g2
/-- All rounds. -/
theorem set_loop (kk : Nat) : ∀ (n j : Nat) (V m lo hi : U) (M : Mem) (x : Nat → Value), V &&& m = 0 → mu m lo hi < n → n ≤ j → SetM M V m lo hi →
    ∃ x' M', loopD (cd78 kk) j (fr78 x false) M = some (.ret, fr78 x' (settleN n V m lo hi).1, M') ∧ M'.get 2 = b4 (settleN n V m lo hi).2.V (settleN n V m lo hi).2.M (settleN n V m lo hi).2.lo (settleN n V m lo hi).2.hi
  | 0, j, V, m, lo, hi, M, x, _, h, _, _ => by omega
  | n + 1, j, V, m, lo, hi, M, x, h0, hmu, hj, hM => by
    obtain ⟨j, rfl⟩ : ∃ j', j = j' + 1 := ⟨j - 1, by omega⟩
    simp only [settleN]
    cases h1 : ok1 V m lo hi with
    | false =>
      obtain ⟨x', M', a, b⟩ := turn_1 hM h1 kk x
      exact ⟨x', M', loopD_stop a (by simp), b⟩
    | true =>
      cases h2 : ok2 V m lo hi with
      | false =>
        obtain ⟨x', M', a, b⟩ := turn_2 hM h1 h2 kk x
        exact ⟨x', M', loopD_stop a (by simp), b⟩
      | true =>
        rcases turn_3 hM h1 h2 kk x with ⟨h3, x', M', a, b⟩ | ⟨h3, x', M', a, b⟩
        · rw [h3]; exact ⟨x', M', loopD_stop a (by simp), b⟩
        · rw [h3]
          have hl := mu_lt h0 h1 h2 h3
          obtain ⟨x2, M2, a2, b2⟩ := set_loop kk n j _ _ _ _ M' x' (round_good h1).1 (by omega) (by omega) b
          exact ⟨x2, M2, loopD_next a a2, b2⟩
end
end
end Go.Proofs.YtipdeijgaabobaaGreatDoor
/-
  FSet3: scalar.Settle, scalar.May, scalar.In.
-/
namespace Go.Proofs.YtipdeijgaabobaaGreatDoor
open Go Go.DI Go.DI.Kit Go.Proofs Go.Crt
noncomputable section
theorem loadD_at {M : Mem} {t : TypeId} {n b : Nat} {own : Bool} {c : List Value} (ha : aggB Tryz.prog t = some true) (hs : szOf Tryz.prog t = some n) (hg : M.get b = .cells own c) (hl : c.length = n) : loadD Tryz.prog M t (pt b) = some (.agg ⟨c⟩) := by
  simp only [loadD, ha, hs]
  have h := loadC_at (m := M) (b := b) (n := n) (own := own) (c := c) (rest := []) (by rw [List.append_nil]; exact hg) hl
  rw [h]
noncomputable def c78 : Code := seqL ((items (bodyOf Tryz.f78)).take 3)
theorem c78_drop : (items (bodyOf Tryz.f78)).drop 3 = [.block 0 (.loop lb78)] := by kernel_rfl
abbrev mI (V m lo hi : U) : Mem := ((m0.push (bk V m)).push (bk lo hi)).push z4
abbrev B3 (f : FuncId) (a : List Value) : Bool := ansB tn3 f a
abbrev sB3 (f : FuncId) (a : List Value) : Prop := tn3 f a = some (.bool (B3 f a))
abbrev zp78 (k : Nat) (V m lo hi : U) (n1 n2 : Bool) := pcZ (hAt (lkN [(12, .bool n1), (16, .bool n2)])) (qA tn3 [111, 112] []) tn3 noQ (oTab tn3) Tryz.prog kp 0 k c78 65 ds78 (fullN 65 (argX [pr V m, pr lo hi])) m0
theorem t78i (k : Nat) (V m lo hi : U) (n1 n2 : Bool) : ansX (zp78 k V m lo hi n1 n2) = some ((cond (n1 || n2) .ret .normal, [pt 0, pt 1, pt 2, .bool false], cond (n1 || n2) ((mI V m lo hi).set 2 z4) (mI V m lo hi)), sB3 111 [pr V m] :: nt (B3 111 [pr V m]) n1 :: cond n1 [] [sB3 112 [pr lo hi], nt (B3 112 [pr lo hi]) n2]) ∧ evenX (zp78 k V m lo hi n1 n2) := by
  cases n1 <;> cases n2 <;> exact ⟨by kernel_rfl, by unfold evenX; kernel_rfl⟩
theorem res78_r : Tryz.f78.results.toList = [.cell 4 39, .tmp 5] := by kernel_rfl
theorem fr78_4 (x : Nat → Value) (b : Bool) : (fr78 x b).at 4 = pt 2 := by kernel_rfl
theorem fr78_5 (x : Nat → Value) (b : Bool) : (fr78 x b).at 5 = .bool b := by kernel_rfl
theorem agg39 : aggB Tryz.prog 39 = some true := by kernel_rfl
theorem res78 (x : Nat → Value) (b : Bool) {M : Mem} {p q r s : U} (h : M.get 2 = b4 p q r s) : resD Tryz.prog (fr78 x b) M Tryz.f78.results.toList = some [sc4 p q r s, .bool b] := by
  rw [res78_r]
  have h1 := loadD_at agg39 sz39 h rfl
  simp only [resD, fr78_4, fr78_5, h1]
abbrev scV (s : Sc) : Value := .agg ⟨scC s⟩
theorem settle_run (V m lo hi : U) : ∃ (R : Orc) (M : Mem), (∀ B0, CfOK Tryz.prog B0 0 R) ∧ CfGrw R ∧ R 78 [pr V m, pr lo hi] m0 = some (tup (scV (settleS V m lo hi).2) (settleS V m lo hi).1, M) := by
  obtain ⟨k, hk⟩ : ∃ k, mu m lo hi + 2 = k := ⟨_, rfl⟩
  have pack : ∀ {M : Mem}, bodyN Tryz.prog kp 0 (oTab tn3) k 78 [pr V m, pr lo hi] m0 = some (tup (scV (settleS V m lo hi).2) (settleS V m lo hi).1, M) → ∃ (R : Orc) (M : Mem), (∀ B0, CfOK Tryz.prog B0 0 R) ∧ CfGrw R ∧ R 78 [pr V m, pr lo hi] m0 = some (tup (scV (settleS V m lo hi).2) (settleS V m lo hi).1, M) := fun h =>
    ⟨_, _, fun B0 => bodyN_ok hmix hK hng (oTab_ok tn3_ok B0 0) (oTab_grw tn3) k, bodyN_grw (oTab_grw tn3) k, h⟩
  have fin : ∀ {M : Mem} {x : Nat → Value} {b : Bool} {s : Sc}, codeD Tryz.prog kp 0 (oTab tn3) (drawD Tryz.prog kp 0 (oTab tn3) 65) 65 k (bodyOf Tryz.f78) (fullN 65 (argX [pr V m, pr lo hi])) m0 = some (.ret, fr78 x b, M) → M.get 2 = b4 s.V s.M s.lo s.hi → bodyN Tryz.prog kp 0 (oTab tn3) k 78 [pr V m, pr lo hi] m0 = some (tup (scV s) b, M) := fun h hg =>
    bodyN_of (fnE 78 Tryz.f78) (by kernel_rfl) (by kernel_rfl) h (res78 _ _ hg)
  have hhint := t78i k V m lo hi (!(V &&& m == 0)) (!spMay lo hi)
  obtain ⟨x1, h1⟩ := pcZ_full (tells_tab tn3) set65 rfl hhint.1 hhint.2 (by
    refine cons_p (said_B (tn3_111 V m)) (cons_p (not_B (tn3_111 V m)) (if_p (fun _ => nil_p) fun _ => ?_))
    exact cons_p (said_B (tn3_112 lo hi)) (one_p (not_B (tn3_112 lo hi))))
  cases hg : ((V &&& m == 0) && spMay lo hi) with
  | false =>
    have e : (!(V &&& m == 0) || !spMay lo hi) = true := by
      revert hg; cases (V &&& m == 0) <;> cases spMay lo hi <;> simp
    rw [e] at h1
    simp only [cond_true] at h1
    have h2 := codeD_cutE 3 (bodyOf Tryz.f78) (by simp) h1
    have hs : settleS V m lo hi = (false, .zero) := by unfold settleS; rw [hg]; rfl
    rw [hs] at pack ⊢
    exact pack (fin (s := .zero) h2 (Mem.get_set_same ..))
  | true =>
    have e : (!(V &&& m == 0) || !spMay lo hi) = false := by
      revert hg; cases (V &&& m == 0) <;> cases spMay lo hi <;> simp
    rw [e] at h1
    simp only [cond_false] at h1
    have h0 : V &&& m = 0 := by simp only [Bool.and_eq_true, beq_iff_eq] at hg; exact hg.1
    obtain ⟨x2, M2, h2, g2⟩ := set_loop k (mu m lo hi + 1) k V m lo hi (mI V m lo hi) x1 h0 (by omega) (by omega) ⟨Nat.le_refl 3, by kernel_rfl, by kernel_rfl, by kernel_rfl⟩
    have h3 := code_loopE 3 (bodyOf Tryz.f78) c78_drop h1 h2 (by simp) (by simp)
    have hs : settleS V m lo hi = settleN (mu m lo hi + 1) V m lo hi := by unfold settleS; rw [hg]; rfl
    rw [hs] at pack ⊢
    exact pack (fin h3 g2)
def tn4l : Tab := tabL [(78, a2 fun a b => u2 a fun V m => u2 b fun lo hi => some (tup (scV (settleS V m lo hi).2) (settleS V m lo hi).1))]
def tn4 : Tab := tAlt tn4l tn3
theorem tn4_ok : TabOK Tryz.prog tn4 := tAlt_ok (tabL_cons (fun a v h => by
  obtain ⟨w, w2, rfl, h1⟩ := a2_some h
  obtain ⟨x, y, rfl, h2⟩ := u2_some h1
  obtain ⟨z, w, rfl, h3⟩ := u2_some h2
  cases h3
  exact ⟨rfl, rfl, settle_run x y z w⟩) (tabL_nil _)) tn3_ok
theorem tn4_78 (V m lo hi : U) : tn4 78 [pr V m, pr lo hi] = some (tup (scV (settleS V m lo hi).2) (settleS V m lo hi).1) :=
  tAlt_l ((u2_at V m fun V m => u2 (pr lo hi) fun lo hi => some (tup (scV (settleS V m lo hi).2) (settleS V m lo hi).1)).trans (u2_at lo hi fun lo hi => some (tup (scV (settleS V m lo hi).2) (settleS V m lo hi).1)))
/-! ### May -/
theorem t94 (s t : Sc) (ok b : Bool) : ansX (rz [(17, .bool b)] (qA tn4 [] [(78, tup (scV t) ok)]) tn4 Tryz.f94 19 [scV s]) = some (.bool (ok && b), (tn4 78 [pr s.V s.M, pr s.lo s.hi] = some (tup (scV t) ok)) :: cond ok [bn .eql 39 (scV t) (scV s) (.bool b)] []) ∧ evenX (rz [(17, .bool b)] (qA tn4 [] [(78, tup (scV t) ok)]) tn4 Tryz.f94 19 [scV s]) := by
  cases ok <;> exact ⟨by kernel_rfl, by unfold evenX; kernel_rfl⟩
theorem sc_eq (s t : Sc) : ((t.V == s.V && t.M == s.M) && (t.lo == s.lo && t.hi == s.hi)) = decide (t = s) := by
  obtain ⟨a, b, c, d⟩ := s
  obtain ⟨a', b', c', d'⟩ := t
  by_cases h : (⟨a', b', c', d'⟩ : Sc) = ⟨a, b, c, d⟩
  · rw [decide_eq_true h]
    cases h
    simp
  · rw [decide_eq_false h]
    cases e : ((a' == a && b' == b) && (c' == c && d' == d)) with
    | false => rfl
    | true =>
      simp only [Bool.and_eq_true, beq_iff_eq] at e
      exact absurd (by rw [e.1.1, e.1.2, e.2.1, e.2.2]) h
def tn5l : Tab := tabL [(94, a1 fun a => u4 a fun V m lo hi => some (.bool (mayS ⟨V, m, lo, hi⟩)))]
def tn5 : Tab := tAlt tn5l tn4
theorem tn5_ok : TabOK Tryz.prog tn5 := tAlt_ok (tabL_cons (fun a v h => by
  obtain ⟨w, rfl, h1⟩ := a1_some h
  obtain ⟨x, y, z, w, rfl, h2⟩ := u4_some h1
  cases h2
  refine ⟨rfl, rfl, ?_⟩
  rw [mayS_eq]
  refine told tn4_ok (fnE 94 Tryz.f94) (by kernel_rfl) (by kernel_rfl) (t94 ⟨x, y, z, w⟩ (settleS x y z w).2 (settleS x y z w).1 _) (cons_p (tn4_78 x y z w) (if_p (fun _ => one_p ?_) fun _ => nil_p))
  rw [← sc_eq]
  exact eq39 ..) (tabL_nil _)) tn4_ok
theorem tn5_94 (s : Sc) : tn5 94 [scV s] = some (.bool (mayS s)) := tAlt_l (u4_at s.V s.M s.lo s.hi fun V m lo hi => some (Value.bool (mayS ⟨V, m, lo, hi⟩)))
/-! ### In -/
abbrev B5 (f : FuncId) (a : List Value) : Bool := ansB tn5 f a
abbrev sB5 (f : FuncId) (a : List Value) : Prop := tn5 f a = some (.bool (B5 f a))
theorem t126 (s t : Sc) (b1 b2 b3 : Bool) : ansX (rz [(7, .bool b1), (11, .bool (b1 && b2)), (18, .bool ((b1 && b2) && b3))] (qA tn5 [94, 163, 164] []) tn5 Tryz.f126 25 [scV s, scV t]) =
    some (.bool (cond ((b1 && b2) && b3) (B5 164 [pr s.lo s.hi, pr t.lo t.hi]) false), sB5 94 [scV s] :: (Value.bool (B5 94 [scV s]) = .bool b1) :: (cond b1 [sB5 94 [scV t]] [] ++ ((Value.bool (cond b1 (B5 94 [scV t]) false) = .bool (b1 && b2)) :: (cond (b1 && b2) [sB5 163 [pr s.V s.M, pr t.V t.M]] [] ++
      ((Value.bool (cond (b1 && b2) (B5 163 [pr s.V s.M, pr t.V t.M]) false) = .bool ((b1 && b2) && b3)) :: cond ((b1 && b2) && b3) [sB5 164 [pr s.lo s.hi, pr t.lo t.hi]] []))))) ∧
    evenX (rz [(7, .bool b1), (11, .bool (b1 && b2)), (18, .bool ((b1 && b2) && b3))] (qA tn5 [94, 163, 164] []) tn5 Tryz.f126 25 [scV s, scV t]) := by
  cases b1 <;> cases b2 <;> cases b3 <;> exact ⟨by kernel_rfl, by unfold evenX; kernel_rfl⟩
theorem tn5_163 (v m v' m' : U) : tn5 163 [pr v m, pr v' m'] = some (.bool (inT v m v' m')) := (show tn5 163 [pr v m, pr v' m'] = tn3 163 [pr v m, pr v' m'] from rfl).trans (tn3_163 ..)
theorem tn5_164 (v m v' m' : U) : tn5 164 [pr v m, pr v' m'] = some (.bool (inSp v m v' m')) := (show tn5 164 [pr v m, pr v' m'] = tn3 164 [pr v m, pr v' m'] from rfl).trans (tn3_164 ..)
def tn6l : Tab := tabL [(126, a2 fun a b => u4 a fun V m lo hi => u4 b fun V' m' lo' hi' => some (.bool (inS ⟨V, m, lo, hi⟩ ⟨V', m', lo', hi'⟩)))]
def tn6 : Tab := tAlt tn6l tn5
theorem tn6_ok : TabOK Tryz.prog tn6 := tAlt_ok (tabL_cons (fun a v h => by
  obtain ⟨w, w2, rfl, h1⟩ := a2_some h
  obtain ⟨x, y, z, w, rfl, h2⟩ := u4_some h1
  obtain ⟨x', y', z', w', rfl, h3⟩ := u4_some h2
  cases h3
  refine ⟨rfl, rfl, ?_⟩
  have key := told tn5_ok (fnE 126 Tryz.f126) (by kernel_rfl) (by kernel_rfl) (t126 ⟨x, y, z, w⟩ ⟨x', y', z', w'⟩ (mayS ⟨x, y, z, w⟩) (mayS ⟨x', y', z', w'⟩) (inT x y x' y')) (by
    refine cons_p (said_B (tn5_94 _)) (cons_p (val_B (tn5_94 _)) (app_p (if_p (fun _ => one_p (said_B (tn5_94 _))) fun _ => nil_p) (cons_p ?_ (app_p (if_p (fun _ => one_p (said_B (tn5_163 ..))) fun _ => nil_p) (cons_p ?_ (if_p (fun _ => one_p (said_B (tn5_164 ..))) fun _ => nil_p))))))
    · rw [show B5 94 [scV ⟨x', y', z', w'⟩] = _ from ansB_of (tn5_94 _)]
      cases mayS ⟨x, y, z, w⟩ <;> rfl
    · rw [show B5 163 [pr x y, pr x' y'] = _ from ansB_of (tn5_163 ..)]
      cases (mayS ⟨x, y, z, w⟩ && mayS ⟨x', y', z', w'⟩) <;> rfl)
  have e : (cond ((mayS ⟨x, y, z, w⟩ && mayS ⟨x', y', z', w'⟩) && inT x y x' y') (B5 164 [pr z w, pr z' w']) false) = inS ⟨x, y, z, w⟩ ⟨x', y', z', w'⟩ := by
    rw [show B5 164 [pr z w, pr z' w'] = _ from ansB_of (tn5_164 ..)]
    unfold inS
    cases ((mayS ⟨x, y, z, w⟩ && mayS ⟨x', y', z', w'⟩) && inT x y x' y') <;> rfl
  rw [e] at key
  exact key) (tabL_nil _)) tn5_ok
theorem tn6_126 (s t : Sc) : tn6 126 [scV s, scV t] = some (.bool (inS s t)) := tAlt_l ((u4_at s.V s.M s.lo s.hi fun V m lo hi => u4 (scV t) fun V' m' lo' hi' => some (Value.bool (inS ⟨V, m, lo, hi⟩ ⟨V', m', lo', hi'⟩))).trans (u4_at t.V t.M t.lo t.hi fun V' m' lo' hi' => some (Value.bool (inS s ⟨V', m', lo', hi'⟩))))
theorem tn6_94 (s : Sc) : tn6 94 [scV s] = some (.bool (mayS s)) := (show tn6 94 [scV s] = tn5 94 [scV s] from rfl).trans (tn5_94 s)
theorem tn6_86 : tn6 86 [] = some (scV .all) := (show tn6 86 [] = tn3 86 [] from rfl).trans tn3_86
end
end Go.Proofs.YtipdeijgaabobaaGreatDoor
/-
  FReg: what may be known of a register.
-/
namespace Go.Proofs.YtipdeijgaabobaaGreatDoor
open Go Go.DI Go.DI.Kit Go.Proofs Go.Crt
noncomputable section
abbrev rgV (r : Rg) : Value := .agg ⟨rgC r⟩
def r1 {A : Type} (v : Value) (q : Rg → Option A) : Option A := match v with
  | .agg ⟨[.int .u8 k, .bool le, .int .i64 m, a, b, c, d, .int .i64 x, .int .i64 y]⟩ => u1 a fun a => u1 b fun b => u1 c fun c => u1 d fun d => q ⟨k, le, m, ⟨a, b, c, d⟩, x, y⟩
  | _ => none
theorem r1_at {A : Type} (r : Rg) (q : Rg → Option A) : r1 (rgV r) q = q r := by
  obtain ⟨k, le, m, ⟨a, b, c, d⟩, x, y⟩ := r
  show u1 (u a) (fun a => u1 (u b) fun b => u1 (u c) fun c => u1 (u d) fun d => q ⟨k, le, m, ⟨a, b, c, d⟩, x, y⟩) = _
  rw [u1_at, u1_at, u1_at, u1_at]
theorem r1_some {A : Type} {v : Value} {q : Rg → Option A} {z : A} (h : r1 v q = some z) : ∃ r, v = rgV r ∧ q r = some z := by
  unfold r1 at h
  split at h
  · rename_i k le m a b c d x y
    obtain ⟨a', e1, h1⟩ := u1_some h
    obtain ⟨b', e2, h2⟩ := u1_some h1
    obtain ⟨c', e3, h3⟩ := u1_some h2
    obtain ⟨d', e4, h4⟩ := u1_some h3
    subst e1 e2 e3 e4
    exact ⟨⟨k, le, m, ⟨a', b', c', d'⟩, x, y⟩, rfl, h4⟩
  · cases h
theorem kp41 : kp 41 = true := by kernel_rfl
abbrev ti (x y : Int) : Bool := x == y
theorem feq41 (k m x y k' m' x' y' : Int) (le le' : Bool) (a b c d a' b' c' d' : U) : feq Tryz.prog kp 100 41 (rgV ⟨k, le, m, ⟨a, b, c, d⟩, x, y⟩) (rgV ⟨k', le', m', ⟨a', b', c', d'⟩, x', y'⟩) =
    tw (ti k k') (tw (le == le') (tw (ti m m') (an (an (tw (iq a a') (tw (iq b b') (some true))) (an (tw (iq c c') (tw (iq d d') (some true))) (some true))) (tw (ti x x') (tw (ti y y') (some true)))))) := by kernel_rfl
theorem rg_ext (r r' : Rg) : (decide (r.kind = r'.kind) && ((r.len == r'.len) && (decide (r.map = r'.map) && ((((r.s.V == r'.s.V) && (r.s.M == r'.s.M)) && ((r.s.lo == r'.s.lo) && (r.s.hi == r'.s.hi))) && (decide (r.a = r'.a) && decide (r.b = r'.b)))))) = decide (r = r') := by
  obtain ⟨k, le, m, s, x, y⟩ := r
  obtain ⟨k', le', m', s', x', y'⟩ := r'
  rw [sc_eq s' s]
  by_cases h : (⟨k, le, m, s, x, y⟩ : Rg) = ⟨k', le', m', s', x', y'⟩
  · rw [decide_eq_true h]
    cases h
    simp
  · rw [decide_eq_false h]
    cases e : (decide (k = k') && ((le == le') && (decide (m = m') && (decide (s = s') && (decide (x = x') && decide (y = y')))))) with
    | false => rfl
    | true =>
      simp only [Bool.and_eq_true, beq_iff_eq, decide_eq_true_eq] at e
      exact absurd (by rw [e.1, e.2.1, e.2.2.1, e.2.2.2.1, e.2.2.2.2.1, e.2.2.2.2.2]) h
theorem eq41 (r r' : Rg) : bn .eql 41 (rgV r) (rgV r') (.bool (decide (r = r'))) := by
  rw [← rg_ext]
  obtain ⟨k, le, m, ⟨a, b, c, d⟩, x, y⟩ := r
  obtain ⟨k', le', m', ⟨a', b', c', d'⟩, x', y'⟩ := r'
  refine eqS kp41 ?_
  have hS : an (tw (iq a a') (tw (iq b b') (some true))) (an (tw (iq c c') (tw (iq d d') (some true))) (some true)) = some ((a == a' && b == b') && (c == c' && d == d')) := by
    rw [tw_eq, tw_eq, tw_eq, tw_eq, iq_eq, iq_eq, iq_eq, iq_eq, Bool.and_true, Bool.and_true]
    exact (congrArg _ (an_eq _ true)).trans ((an_eq _ _).trans (by rw [Bool.and_true]))
  rw [feq41, hS, tw_eq (ti y y') true, tw_eq (ti x x'), an_eq, tw_eq (ti m m'), tw_eq (le == le'), tw_eq (ti k k'), Bool.and_true]
  rfl
/-! ### may -/
abbrev q6 (bs : List FuncId) : Tab := qA tn6 bs []
abbrev B6 (f : FuncId) (a : List Value) : Bool := ansB tn6 f a
abbrev sB6 (f : FuncId) (a : List Value) : Prop := tn6 f a = some (.bool (B6 f a))
abbrev ki (n : Int) : Value := .int .u8 n
abbrev i3 (n : Int) : Value := .int .i64 n
theorem t95 (r : Rg) (b1 b2 b3 : Bool) : ansX (rz [(5, .bool b1), (11, .bool b2), (16, .bool b3)] noA tn6 Tryz.f95 18 [rgV r]) =
    some (.bool ((b1 && b2) && b3), bn .leq 2 (i3 (-1048576)) (i3 r.a) (.bool b1) :: cond b1 (bn .leq 2 (i3 r.a) (i3 r.b) (.bool b2) :: cond b2 [bn .leq 2 (i3 r.b) (i3 1048576) (.bool b3)] []) []) ∧ evenX (rz [(5, .bool b1), (11, .bool b2), (16, .bool b3)] noA tn6 Tryz.f95 18 [rgV r]) := by
  cases b1 <;> cases b2 <;> exact ⟨by kernel_rfl, by unfold evenX; kernel_rfl⟩
def tn7l : Tab := tabL [(95, a1 fun a => r1 a fun r => some (.bool (far r)))]
def tn7 : Tab := tAlt tn7l tn6
theorem tn7_ok : TabOK Tryz.prog tn7 := tAlt_ok (tabL_cons (fun a v h => by
  obtain ⟨w, rfl, h1⟩ := a1_some h
  obtain ⟨r, rfl, h2⟩ := r1_some h1
  cases h2
  exact ⟨rfl, rfl, told tn6_ok (fnE 95 Tryz.f95) (by kernel_rfl) (by kernel_rfl) (t95 r (decide (-1048576 ≤ r.a)) (decide (r.a ≤ r.b)) (decide (r.b ≤ 1048576))) (cons_p (bin_leI _ _ _) (if_p (fun _ => cons_p (bin_leI _ _ _) (if_p (fun _ => one_p (bin_leI _ _ _)) fun _ => nil_p)) fun _ => nil_p))⟩) (tabL_nil _)) tn6_ok
theorem tn7_95 (r : Rg) : tn7 95 [rgV r] = some (.bool (far r)) := tAlt_l (r1_at r fun r => some (Value.bool (far r)))
theorem tn7_94 (s : Sc) : tn7 94 [scV s] = some (.bool (mayS s)) := (show tn7 94 [scV s] = tn6 94 [scV s] from rfl).trans (tn6_94 s)
theorem tn7_126 (s t : Sc) : tn7 126 [scV s, scV t] = some (.bool (inS s t)) := (show tn7 126 [scV s, scV t] = tn6 126 [scV s, scV t] from rfl).trans (tn6_126 s t)
theorem tn7_86 : tn7 86 [] = some (scV .all) := (show tn7 86 [] = tn6 86 [] from rfl).trans tn6_86
abbrev q7 (bs : List FuncId) : Tab := qA tn7 bs []
abbrev B7 (f : FuncId) (a : List Value) : Bool := ansB tn7 f a
abbrev sB7 (f : FuncId) (a : List Value) : Prop := tn7 f a = some (.bool (B7 f a))
abbrev ek (r : Rg) (n : Int) (b : Bool) : Prop := bn .eql 5 (ki r.kind) (ki n) (.bool b)
theorem t50a (r : Rg) (b1 b2 b3 b4 : Bool) : ansX (rz [(6, .bool true), (10, .bool b1), (14, .bool b2), (19, .bool b3), (22, .bool (b1 && (b2 || b3))), (29, .bool b4)] (q7 [94, 95]) tn7 Tryz.f50 90 [rgV r]) =
    some (.bool ((b1 && (b2 || b3)) && b4), ek r 1 true :: sB7 94 [scV r.s] :: (Value.bool (B7 94 [scV r.s]) = .bool b1) :: (cond b1 ((Value.bool (!r.len) = .bool b2) :: cond b2 [] [bn .leq 33 (u r.s.hi) (.int .u64 65535) (.bool b3)]) [] ++
      ((Value.bool (b1 && (b2 || b3)) = .bool (b1 && (b2 || b3))) :: cond (b1 && (b2 || b3)) [bn .eql 41 (rgV r) (rgV ⟨1, r.len, 0, r.s, 0, 0⟩) (.bool b4)] []))) ∧
    evenX (rz [(6, .bool true), (10, .bool b1), (14, .bool b2), (19, .bool b3), (22, .bool (b1 && (b2 || b3))), (29, .bool b4)] (q7 [94, 95]) tn7 Tryz.f50 90 [rgV r]) := by
  cases b1 <;> cases b2 <;> cases b3 <;> exact ⟨by kernel_rfl, by unfold evenX; kernel_rfl⟩
theorem t50b (r : Rg) (c b1 b2 : Bool) : ansX (rz [(6, .bool false), (32, .bool c), (33, .bool true), (36, .bool b1), (45, .bool b2)] (q7 [94, 95]) tn7 Tryz.f50 90 [rgV r]) =
    some (.bool (b1 && b2), ek r 1 false :: ek r 3 c :: (cond c [] [ek r 4 true] ++ (sB7 95 [rgV r] :: (Value.bool (B7 95 [rgV r]) = .bool b1) :: cond b1 [bn .eql 41 (rgV r) (rgV ⟨r.kind, false, 0, .zero, r.a, r.b⟩) (.bool b2)] []))) ∧
    evenX (rz [(6, .bool false), (32, .bool c), (33, .bool true), (36, .bool b1), (45, .bool b2)] (q7 [94, 95]) tn7 Tryz.f50 90 [rgV r]) := by
  cases c <;> cases b1 <;> exact ⟨by kernel_rfl, by unfold evenX; kernel_rfl⟩
theorem t50c (r : Rg) (b1 b2 b3 : Bool) : ansX (rz [(6, .bool false), (32, .bool false), (33, .bool false), (48, .bool true), (51, .bool b1), (54, .bool b2), (56, .bool (b1 && b2)), (65, .bool b3)] (q7 [94, 95]) tn7 Tryz.f50 90 [rgV r]) =
    some (.bool ((b1 && b2) && b3), ek r 1 false :: ek r 3 false :: ek r 4 false :: ek r 6 true :: sB7 95 [rgV r] :: (Value.bool (B7 95 [rgV r]) = .bool b1) :: (cond b1 [bn .geq 3 (i3 r.map) (i3 0) (.bool b2)] [] ++
      ((Value.bool (b1 && b2) = .bool (b1 && b2)) :: cond (b1 && b2) [bn .eql 41 (rgV r) (rgV ⟨6, false, r.map, .zero, r.a, r.b⟩) (.bool b3)] []))) ∧
    evenX (rz [(6, .bool false), (32, .bool false), (33, .bool false), (48, .bool true), (51, .bool b1), (54, .bool b2), (56, .bool (b1 && b2)), (65, .bool b3)] (q7 [94, 95]) tn7 Tryz.f50 90 [rgV r]) := by
  cases b1 <;> cases b2 <;> exact ⟨by kernel_rfl, by unfold evenX; kernel_rfl⟩
theorem t50d (r : Rg) (c b1 b2 : Bool) : ansX (rz [(6, .bool false), (32, .bool false), (33, .bool false), (48, .bool false), (68, .bool c), (69, .bool true), (72, .bool b1), (80, .bool b2)] (q7 [94, 95]) tn7 Tryz.f50 90 [rgV r]) =
    some (.bool (b1 && b2), ek r 1 false :: ek r 3 false :: ek r 4 false :: ek r 6 false :: ek r 5 c :: (cond c [] [ek r 7 true] ++ (bn .geq 3 (i3 r.map) (i3 0) (.bool b1) :: cond b1 [bn .eql 41 (rgV r) (rgV ⟨r.kind, false, r.map, .zero, 0, 0⟩) (.bool b2)] []))) ∧
    evenX (rz [(6, .bool false), (32, .bool false), (33, .bool false), (48, .bool false), (68, .bool c), (69, .bool true), (72, .bool b1), (80, .bool b2)] (q7 [94, 95]) tn7 Tryz.f50 90 [rgV r]) := by
  cases c <;> cases b1 <;> exact ⟨by kernel_rfl, by unfold evenX; kernel_rfl⟩
theorem t50e (r : Rg) (c b1 : Bool) : ansX (rz [(6, .bool false), (32, .bool false), (33, .bool false), (48, .bool false), (68, .bool false), (69, .bool false), (83, .bool c), (84, .bool true), (89, .bool b1)] (q7 [94, 95]) tn7 Tryz.f50 90 [rgV r]) =
    some (.bool b1, ek r 1 false :: ek r 3 false :: ek r 4 false :: ek r 6 false :: ek r 5 false :: ek r 7 false :: ek r 0 c :: (cond c [] [ek r 2 true] ++ [bn .eql 41 (rgV r) (rgV ⟨r.kind, false, 0, .zero, 0, 0⟩) (.bool b1)])) ∧
    evenX (rz [(6, .bool false), (32, .bool false), (33, .bool false), (48, .bool false), (68, .bool false), (69, .bool false), (83, .bool c), (84, .bool true), (89, .bool b1)] (q7 [94, 95]) tn7 Tryz.f50 90 [rgV r]) := by
  cases c <;> exact ⟨by kernel_rfl, by unfold evenX; kernel_rfl⟩
theorem t50f (r : Rg) : ansX (rz [(6, .bool false), (32, .bool false), (33, .bool false), (48, .bool false), (68, .bool false), (69, .bool false), (83, .bool false), (84, .bool false)] (q7 [94, 95]) tn7 Tryz.f50 90 [rgV r]) =
    some (.bool false, [ek r 1 false, ek r 3 false, ek r 4 false, ek r 6 false, ek r 5 false, ek r 7 false, ek r 0 false, ek r 2 false]) ∧
    evenX (rz [(6, .bool false), (32, .bool false), (33, .bool false), (48, .bool false), (68, .bool false), (69, .bool false), (83, .bool false), (84, .bool false)] (q7 [94, 95]) tn7 Tryz.f50 90 [rgV r]) := ⟨by kernel_rfl, by unfold evenX; kernel_rfl⟩
theorem ek_t {r : Rg} {n : Int} (h : r.kind = n) : ek r n true := by
  show binD _ _ _ _ _ _ = _
  rw [bin_eqI, decide_eq_true h]
theorem ek_f {r : Rg} {n : Int} (h : r.kind ≠ n) : ek r n false := by
  show binD _ _ _ _ _ _ = _
  rw [bin_eqI, decide_eq_false h]
theorem ek_b {r : Rg} {n : Int} : ek r n (decide (r.kind = n)) := bin_eqI ..
theorem may_run (r : Rg) : ∃ (R : Orc) (m : Mem), (∀ B0, CfOK Tryz.prog B0 0 R) ∧ CfGrw R ∧ R 50 [rgV r] m0 = some (.bool (mayR r), m) := by
  have tl : ∀ {h : H.Hint} {b : Bool} {qs : List Prop}, ansX (fnZ h (q7 [94, 95]) tn7 noQ (oTab tn7) Tryz.prog kp 0 20 Tryz.f50 (bodyOf Tryz.f50) 90 [rgV r] m0 fun v _ => v) = some (.bool b, qs) ∧ evenX (fnZ h (q7 [94, 95]) tn7 noQ (oTab tn7) Tryz.prog kp 0 20 Tryz.f50 (bodyOf Tryz.f50) 90 [rgV r] m0 fun v _ => v) → (∀ q ∈ qs, q) → b = mayR r → ∃ (R : Orc) (m : Mem), (∀ B0, CfOK Tryz.prog B0 0 R) ∧ CfGrw R ∧ R 50 [rgV r] m0 = some (.bool (mayR r), m) := fun t hq e => by
    rw [← e]; exact told tn7_ok (fnE 50 Tryz.f50) (by kernel_rfl) (by kernel_rfl) t hq
  by_cases k1 : r.kind = 1
  · refine tl (t50a r (mayS r.s) (!r.len) (decide (r.s.hi.toNat ≤ 65535)) (decide (r = ⟨1, r.len, 0, r.s, 0, 0⟩))) ?_ ?_
    · refine cons_p (ek_t k1) (cons_p (said_B (tn7_94 _)) (cons_p (val_B (tn7_94 _)) (app_p (if_p (fun _ => cons_p rfl (if_p (fun _ => nil_p) fun _ => one_p ?_)) fun _ => nil_p) (cons_p rfl (if_p (fun _ => one_p (eq41 _ _)) fun _ => nil_p)))))
      show binD _ _ _ _ _ _ = _
      rw [bin_leI]
      congr 2
      exact decide_eq_decide.2 (by omega)
    · unfold mayR; rw [if_pos k1]
  · by_cases k3 : r.kind = 3 ∨ r.kind = 4
    · refine tl (t50b r (decide (r.kind = 3)) (far r) (decide (r = ⟨r.kind, false, 0, .zero, r.a, r.b⟩))) ?_ ?_
      · refine cons_p (ek_f k1) (cons_p ek_b (app_p (if_p (fun _ => nil_p) fun h => one_p (ek_t ?_)) (cons_p (said_B (tn7_95 _)) (cons_p (val_B (tn7_95 _)) (if_p (fun _ => one_p (eq41 _ _)) fun _ => nil_p)))))
        have := of_decide_eq_false h
        omega
      · unfold mayR; rw [if_neg k1, if_pos k3]
    · by_cases k6 : r.kind = 6
      · refine tl (t50c r (far r) (decide (0 ≤ r.map)) (decide (r = ⟨6, false, r.map, .zero, r.a, r.b⟩))) ?_ ?_
        · exact cons_p (ek_f k1) (cons_p (ek_f (by omega)) (cons_p (ek_f (by omega)) (cons_p (ek_t k6) (cons_p (said_B (tn7_95 _)) (cons_p (val_B (tn7_95 _)) (app_p (if_p (fun _ => one_p (bin_geI _ _ _)) fun _ => nil_p) (cons_p rfl (if_p (fun _ => one_p (eq41 _ _)) fun _ => nil_p))))))))
        · unfold mayR; rw [if_neg k1, if_neg k3, if_pos k6]
      · by_cases k5 : r.kind = 5 ∨ r.kind = 7
        · refine tl (t50d r (decide (r.kind = 5)) (decide (0 ≤ r.map)) (decide (r = ⟨r.kind, false, r.map, .zero, 0, 0⟩))) ?_ ?_
          · refine cons_p (ek_f k1) (cons_p (ek_f (by omega)) (cons_p (ek_f (by omega)) (cons_p (ek_f k6) (cons_p ek_b (app_p (if_p (fun _ => nil_p) fun h => one_p (ek_t ?_)) (cons_p (bin_geI _ _ _) (if_p (fun _ => one_p (eq41 _ _)) fun _ => nil_p)))))))
            have := of_decide_eq_false h
            omega
          · unfold mayR; rw [if_neg k1, if_neg k3, if_neg k6, if_pos k5]
        · by_cases k0 : r.kind = 0 ∨ r.kind = 2
          · refine tl (t50e r (decide (r.kind = 0)) (decide (r = ⟨r.kind, false, 0, .zero, 0, 0⟩))) ?_ ?_
            · refine cons_p (ek_f k1) (cons_p (ek_f (by omega)) (cons_p (ek_f (by omega)) (cons_p (ek_f k6) (cons_p (ek_f (by omega)) (cons_p (ek_f (by omega)) (cons_p ek_b (app_p (if_p (fun _ => nil_p) fun h => one_p (ek_t ?_)) (one_p (eq41 _ _)))))))))
              have := of_decide_eq_false h
              omega
            · unfold mayR; rw [if_neg k1, if_neg k3, if_neg k6, if_neg k5, if_pos k0]
          · refine tl (t50f r) (cons_p (ek_f k1) (cons_p (ek_f (by omega)) (cons_p (ek_f (by omega)) (cons_p (ek_f k6) (cons_p (ek_f (by omega)) (cons_p (ek_f (by omega)) (cons_p (ek_f (by omega)) (one_p (ek_f (by omega)))))))))) ?_
            unfold mayR; rw [if_neg k1, if_neg k3, if_neg k6, if_neg k5, if_neg k0]
def tn8l : Tab := tabL [(50, a1 fun a => r1 a fun r => some (.bool (mayR r)))]
def tn8 : Tab := tAlt tn8l tn7
theorem tn8_ok : TabOK Tryz.prog tn8 := tAlt_ok (tabL_cons (fun a v h => by
  obtain ⟨w, rfl, h1⟩ := a1_some h
  obtain ⟨r, rfl, h2⟩ := r1_some h1
  cases h2
  exact ⟨rfl, rfl, may_run r⟩) (tabL_nil _)) tn7_ok
theorem tn8_50 (r : Rg) : tn8 50 [rgV r] = some (.bool (mayR r)) := tAlt_l (r1_at r fun r => some (Value.bool (mayR r)))
end
end Go.Proofs.YtipdeijgaabobaaGreatDoor
/-
  FSlot: what may be known of a slot; which register's knowledge, which slot's is in which.
-/
namespace Go.Proofs.YtipdeijgaabobaaGreatDoor
open Go Go.DI Go.DI.Kit Go.Proofs Go.Crt
noncomputable section
abbrev slV (x : Sl) : Value := .agg ⟨slC x⟩
abbrev u8 (x : BitVec 8) : Value := .int .u8 (x.toNat : Int)
def s1 {A : Type} (v : Value) (q : Sl → Option A) : Option A := match v with
  | .agg ⟨.int .u8 h :: l⟩ => cond (isB h) (r1 (.agg ⟨l⟩) fun r => q ⟨.ofNat 8 h.toNat, r⟩) none
  | _ => none
theorem isB_nat (x : BitVec 8) : isB (x.toNat : Int) = true := by
  show Nat.blt x.toNat 256 = true
  rw [Nat.blt_eq]; exact x.isLt
theorem isB_some {n : Int} (h : isB n = true) : n = ((BitVec.ofNat 8 n.toNat).toNat : Int) := by
  unfold isB at h
  split at h
  · rename_i n
    have h : n < 256 := Nat.blt_eq ▸ h
    show (n : Int) = _
    rw [show Int.toNat (Int.ofNat n) = n from rfl, BitVec.toNat_ofNat, Nat.mod_eq_of_lt h]
  · cases h
theorem s1_at {A : Type} (x : Sl) (q : Sl → Option A) : s1 (slV x) q = q x := by
  obtain ⟨h, r⟩ := x
  show cond (isB (h.toNat : Int)) (r1 (rgV r) fun r => q ⟨.ofNat 8 ((h.toNat : Int)).toNat, r⟩) none = _
  have e : BitVec.ofNat 8 ((h.toNat : Int)).toNat = h := by rw [Int.toNat_natCast]; exact BitVec.ofNat_toNat 8 h ▸ (by simp)
  rw [isB_nat, cond_true, r1_at, e]
theorem s1_some {A : Type} {v : Value} {q : Sl → Option A} {z : A} (h : s1 v q = some z) : ∃ x, v = slV x ∧ q x = some z := by
  unfold s1 at h
  split at h
  · rename_i n l
    cases hn : isB n with
    | false => rw [hn] at h; cases h
    | true =>
      rw [hn, cond_true] at h
      obtain ⟨r, e, h1⟩ := r1_some h
      have e : l = rgC r := by
        have := Value.agg.inj e
        exact congrArg Array.toList this
      refine ⟨⟨_, r⟩, ?_, h1⟩
      rw [e]
      exact congrArg (fun n => Value.agg ⟨Value.int .u8 n :: rgC r⟩) (isB_some hn)
  · cases h
abbrev q8 (bs : List FuncId) : Tab := qA tn8 bs []
abbrev B8 (f : FuncId) (a : List Value) : Bool := ansB tn8 f a
abbrev sB8 (f : FuncId) (a : List Value) : Prop := tn8 f a = some (.bool (B8 f a))
theorem t51 (x : Sl) (b1 b2 b3 : Bool) : ansX (rz [(6, .bool b1), (10, .bool b2), (14, .bool b3)] (q8 [50]) tn8 Tryz.f51 17 [slV x]) =
    some (.bool (b1 && (b2 || b3)), sB8 50 [rgV x.r] :: (Value.bool (B8 50 [rgV x.r]) = .bool b1) :: cond b1 (ek x.r 0 b2 :: cond b2 [] [bn .eql 5 (u8 x.hav) (u8 255) (.bool b3)]) []) ∧ evenX (rz [(6, .bool b1), (10, .bool b2), (14, .bool b3)] (q8 [50]) tn8 Tryz.f51 17 [slV x]) := by
  cases b1 <;> cases b2 <;> exact ⟨by kernel_rfl, by unfold evenX; kernel_rfl⟩
theorem t124 (r : Rg) (b1 b2 : Bool) : ansX (rz [(5, .bool b1), (11, .bool b2)] noA tn8 Tryz.f124 13 [rgV r]) = some (.bool (b1 && b2), ek r 1 b1 :: cond b1 [bn .eql 33 (u r.s.hi) (u 0) (.bool b2)] []) ∧ evenX (rz [(5, .bool b1), (11, .bool b2)] noA tn8 Tryz.f124 13 [rgV r]) := by
  cases b1 <;> exact ⟨by kernel_rfl, by unfold evenX; kernel_rfl⟩
theorem t125 (r : Rg) (b1 b2 b3 : Bool) : ansX (rz [(5, .bool b1), (9, .bool b2), (14, .bool b3)] noA tn8 Tryz.f125 16 [rgV r]) = some (.bool ((b1 && b2) && b3), ek r 6 b1 :: cond b1 (bn .eql 2 (i3 r.a) (i3 0) (.bool b2) :: cond b2 [bn .eql 2 (i3 r.b) (i3 0) (.bool b3)] []) []) ∧ evenX (rz [(5, .bool b1), (9, .bool b2), (14, .bool b3)] noA tn8 Tryz.f125 16 [rgV r]) := by
  cases b1 <;> cases b2 <;> exact ⟨by kernel_rfl, by unfold evenX; kernel_rfl⟩
theorem t127 (x : Sl) (b1 b2 : Bool) : ansX (rz [(7, .bool b1), (11, .bool b2)] noA tn8 Tryz.f127 12 [slV x]) = some (cond b1 (u8 x.hav) (cond b2 (u8 255) (u8 0)), ek x.r 0 b1 :: cond b1 [] [ek x.r 1 b2]) ∧ evenX (rz [(7, .bool b1), (11, .bool b2)] noA tn8 Tryz.f127 12 [slV x]) := by
  cases b1 <;> cases b2 <;> exact ⟨by kernel_rfl, by unfold evenX; kernel_rfl⟩
theorem eq8 {P : Program} {K : TypeId → Bool} {t : TypeId} (x y : BitVec 8) : binD P K .eql t (u8 x) (u8 y) = some (.bool (decide (x = y))) := by
  rw [bin_eqI]
  congr 2
  exact decide_eq_decide.2 ⟨fun h => BitVec.eq_of_toNat_eq (by omega), fun h => by rw [h]⟩
theorem bin_and8 {P : Program} {K : TypeId → Bool} {t : TypeId} (x y : BitVec 8) : binD P K .and t (u8 x) (u8 y) = some (u8 (x &&& y)) := by
  have e : ∀ z : BitVec 8, BitVec.ofInt 8 (z.toNat : Int) = z := fun z => by
    apply BitVec.eq_of_toNat_eq
    rw [BitVec.toNat_ofInt]
    have := z.isLt
    show ((z.toNat : Int) % 256).toNat = _
    omega
  show some (Value.int .u8 (IntKind.wrap .u8 ((BitVec.ofInt 8 (x.toNat : Int) &&& BitVec.ofInt 8 (y.toNat : Int)).toNat : Int))) = _
  rw [e, e, IntWalk.u8_in _ ⟨by omega, by have := (x &&& y).isLt; omega⟩]
def tn9l : Tab := tabL [(51, a1 fun a => s1 a fun x => some (.bool (maySl x))), (124, a1 fun a => r1 a fun r => some (.bool (nought r))), (125, a1 fun a => r1 a fun r => some (.bool (first r))), (127, a1 fun a => s1 a fun x => some (u8 (sure x)))]
def tn9 : Tab := tAlt tn9l tn8
theorem tn9_ok : TabOK Tryz.prog tn9 := by
  refine tAlt_ok (tabL_cons (fun a v h => ?_) (tabL_cons (fun a v h => ?_) (tabL_cons (fun a v h => ?_) (tabL_cons (fun a v h => ?_) (tabL_nil _))))) tn8_ok
  · obtain ⟨w, rfl, h1⟩ := a1_some h
    obtain ⟨x, rfl, h2⟩ := s1_some h1
    cases h2
    exact ⟨rfl, rfl, told tn8_ok (fnE 51 Tryz.f51) (by kernel_rfl) (by kernel_rfl) (t51 x (mayR x.r) (decide (x.r.kind = 0)) (decide (x.hav = 255))) (cons_p (said_B (tn8_50 _)) (cons_p (val_B (tn8_50 _)) (if_p (fun _ => cons_p ek_b (if_p (fun _ => nil_p) fun _ => one_p (eq8 _ _))) fun _ => nil_p)))⟩
  · obtain ⟨w, rfl, h1⟩ := a1_some h
    obtain ⟨r, rfl, h2⟩ := r1_some h1
    cases h2
    refine ⟨rfl, rfl, told tn8_ok (fnE 124 Tryz.f124) (by kernel_rfl) (by kernel_rfl) (t124 r (decide (r.kind = 1)) (decide (r.s.hi = 0))) (cons_p ek_b (if_p (fun _ => one_p ?_) fun _ => nil_p))⟩
    show binD _ _ _ _ _ _ = _
    rw [bin_eqI, decide_eq_decide.2 u_inj]
  · obtain ⟨w, rfl, h1⟩ := a1_some h
    obtain ⟨r, rfl, h2⟩ := r1_some h1
    cases h2
    exact ⟨rfl, rfl, told tn8_ok (fnE 125 Tryz.f125) (by kernel_rfl) (by kernel_rfl) (t125 r (decide (r.kind = 6)) (decide (r.a = 0)) (decide (r.b = 0))) (cons_p ek_b (if_p (fun _ => cons_p (bin_eqI _ _ _) (if_p (fun _ => one_p (bin_eqI _ _ _)) fun _ => nil_p)) fun _ => nil_p))⟩
  · obtain ⟨w, rfl, h1⟩ := a1_some h
    obtain ⟨x, rfl, h2⟩ := s1_some h1
    cases h2
    have key := told tn8_ok (fnE 127 Tryz.f127) (by kernel_rfl) (by kernel_rfl) (t127 x (decide (x.r.kind = 0)) (decide (x.r.kind = 1))) (cons_p ek_b (if_p (fun _ => nil_p) fun _ => one_p ek_b))
    have e : (cond (decide (x.r.kind = 0)) (u8 x.hav) (cond (decide (x.r.kind = 1)) (u8 255) (u8 0)) : Value) = u8 (sure x) := by
      unfold sure
      by_cases h0 : x.r.kind = 0
      · rw [decide_eq_true h0, if_pos h0]; rfl
      · by_cases h1 : x.r.kind = 1
        · rw [decide_eq_false h0, if_neg h0, decide_eq_true h1, if_pos h1]; rfl
        · rw [decide_eq_false h0, if_neg h0, decide_eq_false h1, if_neg h1]; rfl
    rw [e] at key
    exact ⟨rfl, rfl, key⟩
theorem tn9_51 (x : Sl) : tn9 51 [slV x] = some (.bool (maySl x)) := tAlt_l (s1_at x fun x => some (Value.bool (maySl x)))
theorem tn9_124 (r : Rg) : tn9 124 [rgV r] = some (.bool (nought r)) := tAlt_l (r1_at r fun r => some (Value.bool (nought r)))
theorem tn9_125 (r : Rg) : tn9 125 [rgV r] = some (.bool (first r)) := tAlt_l (r1_at r fun r => some (Value.bool (first r)))
theorem tn9_127 (x : Sl) : tn9 127 [slV x] = some (u8 (sure x)) := tAlt_l (s1_at x fun x => some (u8 (sure x)))
theorem tn9_50 (r : Rg) : tn9 50 [rgV r] = some (.bool (mayR r)) := (show tn9 50 [rgV r] = tn8 50 [rgV r] from rfl).trans (tn8_50 r)
theorem tn9_126 (s t : Sc) : tn9 126 [scV s, scV t] = some (.bool (inS s t)) := (show tn9 126 [scV s, scV t] = tn7 126 [scV s, scV t] from rfl).trans (tn7_126 s t)
theorem tn9_86 : tn9 86 [] = some (scV .all) := (show tn9 86 [] = tn7 86 [] from rfl).trans tn7_86
/-! ### within -/
abbrev B9 (f : FuncId) (a : List Value) : Bool := ansB tn9 f a
abbrev sB9 (f : FuncId) (a : List Value) : Prop := tn9 f a = some (.bool (B9 f a))
abbrev h90 (c0 c7 m7 b1 b2 b3 d1 d2 e1 f1 f2 : Bool) : List (Nat × Value) := [(8, .bool c0), (12, .bool c7), (16, .bool m7), (20, .bool b1), (23, .bool b2), (28, .bool b3), (36, .bool d1), (42, .bool d2), (47, .bool e1), (53, .bool f1), (56, .bool f2), (66, .bool f1), (72, .bool f2)]
abbrev z90 (c0 c7 m7 b1 b2 b3 d1 d2 e1 f1 f2 : Bool) (a b : Rg) := rz (h90 c0 c7 m7 b1 b2 b3 d1 d2 e1 f1 f2) (qA tn9 [124, 125, 126] []) tn9 Tryz.f90 74 [rgV a, rgV b]
theorem t90 (c0 c7 m7 b1 b2 b3 d1 d2 e1 f1 f2 : Bool) (a b : Rg) : ansX (z90 c0 c7 m7 b1 b2 b3 d1 d2 e1 f1 f2 a b) =
    some (.bool (cond c0 true (cond (c7 && m7) (b1 || (b2 && b3)) (cond (d1 || d2) false (cond e1 (cond f1 (cond f2 true (!b.len)) false) (f1 && f2))))),
      ek b 0 c0 :: cond c0 [] (ek b 7 c7 :: (cond c7 [bn .neq 5 (ki a.kind) (ki 7) (.bool m7)] [] ++
        cond (c7 && m7) (sB9 124 [rgV a] :: (Value.bool (B9 124 [rgV a]) = .bool b1) :: cond b1 [] (sB9 125 [rgV a] :: (Value.bool (B9 125 [rgV a]) = .bool b2) :: cond b2 [bn .eql 3 (i3 a.map) (i3 b.map) (.bool b3)] []))
          (bn .neq 5 (ki a.kind) (ki b.kind) (.bool d1) :: (cond d1 [] [bn .neq 3 (i3 a.map) (i3 b.map) (.bool d2)] ++
            cond (d1 || d2) [] (ek a 1 e1 :: cond e1 (sB9 126 [scV a.s, scV b.s] :: (Value.bool (B9 126 [scV a.s, scV b.s]) = .bool f1) :: cond f1 [(Value.bool a.len = .bool f2)] [])
              (bn .leq 2 (i3 b.a) (i3 a.a) (.bool f1) :: cond f1 [bn .leq 2 (i3 a.b) (i3 b.b) (.bool f2)] []))))))) ∧
    evenX (z90 c0 c7 m7 b1 b2 b3 d1 d2 e1 f1 f2 a b) := by
  cases c0
  · cases c7
    · cases m7 <;> cases d1 <;> cases d2 <;> cases e1 <;> cases f1 <;> cases f2 <;> exact ⟨by kernel_rfl, by unfold evenX; kernel_rfl⟩
    · cases m7
      · cases d1 <;> cases d2 <;> cases e1 <;> cases f1 <;> cases f2 <;> exact ⟨by kernel_rfl, by unfold evenX; kernel_rfl⟩
      · cases b1 <;> cases b2 <;> exact ⟨by kernel_rfl, by unfold evenX; kernel_rfl⟩
  · exact ⟨by kernel_rfl, by unfold evenX; kernel_rfl⟩
end
end Go.Proofs.YtipdeijgaabobaaGreatDoor
/-
  FSlot2: within and covers.
-/
namespace Go.Proofs.YtipdeijgaabobaaGreatDoor
open Go Go.DI Go.DI.Kit Go.Proofs Go.Crt
noncomputable section
def tn10l : Tab := tabL [(90, a2 fun a b => r1 a fun a => r1 b fun b => some (.bool (inR a b)))]
def tn10 : Tab := tAlt tn10l tn9
theorem nek (a : Rg) (n : Int) : bn .neq 5 (ki a.kind) (ki n) (.bool (!decide (a.kind = n))) := bin_neI ..
theorem inR_run (a b : Rg) : ∃ (R : Orc) (m : Mem), (∀ B0, CfOK Tryz.prog B0 0 R) ∧ CfGrw R ∧ R 90 [rgV a, rgV b] m0 = some (.bool (inR a b), m) := by
  have tl : ∀ {h : H.Hint} {z : Bool} {qs : List Prop}, ansX (fnZ h (qA tn9 [124, 125, 126] []) tn9 noQ (oTab tn9) Tryz.prog kp 0 20 Tryz.f90 (bodyOf Tryz.f90) 74 [rgV a, rgV b] m0 fun v _ => v) = some (.bool z, qs) ∧ evenX (fnZ h (qA tn9 [124, 125, 126] []) tn9 noQ (oTab tn9) Tryz.prog kp 0 20 Tryz.f90 (bodyOf Tryz.f90) 74 [rgV a, rgV b] m0 fun v _ => v) → (∀ q ∈ qs, q) → z = inR a b → ∃ (R : Orc) (m : Mem), (∀ B0, CfOK Tryz.prog B0 0 R) ∧ CfGrw R ∧ R 90 [rgV a, rgV b] m0 = some (.bool (inR a b), m) := fun t hq e => by
    rw [← e]; exact told tn9_ok (fnE 90 Tryz.f90) (by kernel_rfl) (by kernel_rfl) t hq
  by_cases k0 : b.kind = 0
  · refine tl (t90 true false false false false false false false false false false a b) (cons_p (ek_t k0) nil_p) ?_
    unfold inR; rw [if_pos k0]; rfl
  · by_cases k7 : b.kind = 7 ∧ a.kind ≠ 7
    · refine tl (t90 false true true (nought a) (first a) (decide (a.map = b.map)) false false false false false a b) ?_ ?_
      · refine cons_p (ek_f k0) (cons_p (ek_t k7.1) (app_p (one_p ?_) (cons_p (said_B (tn9_124 _)) (cons_p (val_B (tn9_124 _)) (if_p (fun _ => nil_p) fun _ => cons_p (said_B (tn9_125 _)) (cons_p (val_B (tn9_125 _)) (if_p (fun _ => one_p (bin_eqI _ _ _)) fun _ => nil_p)))))))
        have := nek a 7
        rw [decide_eq_false k7.2] at this
        exact this
      · unfold inR; rw [if_neg k0, if_pos k7]; rfl
    · refine tl (t90 false (decide (b.kind = 7)) (!decide (a.kind = 7)) false false false (!decide (a.kind = b.kind)) (!decide (a.map = b.map)) (decide (a.kind = 1))
        (if a.kind = 1 then inS a.s b.s else decide (b.a ≤ a.a)) (if a.kind = 1 then a.len else decide (a.b ≤ b.b)) a b) ?_ ?_
      · have e7 : (decide (b.kind = 7) && !decide (a.kind = 7)) = false := by
          by_cases h1 : b.kind = 7
          · have h2 : a.kind = 7 := Classical.byContradiction fun h => k7 ⟨h1, h⟩
            rw [decide_eq_true h1, decide_eq_true h2]; rfl
          · rw [decide_eq_false h1]; rfl
        refine cons_p (ek_f k0) (cons_p ek_b (app_p (if_p (fun _ => one_p (nek a 7)) fun _ => nil_p) ?_))
        rw [e7]
        refine cons_p (bin_neI ..) (app_p (if_p (fun _ => nil_p) fun _ => one_p (bin_neI ..)) (if_p (fun _ => nil_p) fun _ => cons_p ek_b (if_p (fun h => ?_) fun h => ?_)))
        · rw [if_pos (of_decide_eq_true h), if_pos (of_decide_eq_true h)]
          exact cons_p (said_B (tn9_126 _ _)) (cons_p (val_B (tn9_126 _ _)) (if_p (fun _ => one_p rfl) fun _ => nil_p))
        · rw [if_neg (of_decide_eq_false h), if_neg (of_decide_eq_false h)]
          exact cons_p (bin_leI ..) (if_p (fun _ => one_p (bin_leI ..)) fun _ => nil_p)
      · unfold inR
        rw [if_neg k0, if_neg k7]
        have e7 : (decide (b.kind = 7) && !decide (a.kind = 7)) = false := by
          by_cases h1 : b.kind = 7
          · have h2 : a.kind = 7 := Classical.byContradiction fun h => k7 ⟨h1, h⟩
            rw [decide_eq_true h1, decide_eq_true h2]; rfl
          · rw [decide_eq_false h1]; rfl
        rw [e7]
        simp only [cond_false]
        by_cases d : a.kind ≠ b.kind ∨ a.map ≠ b.map
        · rw [if_pos d]
          have : (!decide (a.kind = b.kind) || !decide (a.map = b.map)) = true := by
            rcases d with d | d
            · rw [decide_eq_false d]; rfl
            · rw [decide_eq_false d]; simp
          rw [this]; rfl
        · rw [if_neg d]
          have d1 : a.kind = b.kind := Classical.byContradiction fun h => d (.inl h)
          have d2 : a.map = b.map := Classical.byContradiction fun h => d (.inr h)
          rw [decide_eq_true d1, decide_eq_true d2]
          by_cases e1 : a.kind = 1
          · rw [decide_eq_true e1, if_pos e1, if_pos e1, if_pos e1]
            show cond (inS a.s b.s) (cond a.len true (!b.len)) false = _
            cases inS a.s b.s <;> cases a.len <;> rfl
          · rw [decide_eq_false e1, if_neg e1, if_neg e1, if_neg e1]; rfl
theorem tn10_ok : TabOK Tryz.prog tn10 := tAlt_ok (tabL_cons (fun a v h => by
  obtain ⟨w, w2, rfl, h1⟩ := a2_some h
  obtain ⟨r, rfl, h2⟩ := r1_some h1
  obtain ⟨r', rfl, h3⟩ := r1_some h2
  cases h3
  exact ⟨rfl, rfl, inR_run r r'⟩) (tabL_nil _)) tn9_ok
theorem tn10_90 (a b : Rg) : tn10 90 [rgV a, rgV b] = some (.bool (inR a b)) := tAlt_l ((r1_at a fun a => r1 (rgV b) fun b => some (Value.bool (inR a b))).trans (r1_at b fun b => some (Value.bool (inR a b))))
theorem tn10_51 (x : Sl) : tn10 51 [slV x] = some (.bool (maySl x)) := (show tn10 51 [slV x] = tn9 51 [slV x] from rfl).trans (tn9_51 x)
theorem tn10_127 (x : Sl) : tn10 127 [slV x] = some (u8 (sure x)) := (show tn10 127 [slV x] = tn9 127 [slV x] from rfl).trans (tn9_127 x)
theorem tn10_50 (r : Rg) : tn10 50 [rgV r] = some (.bool (mayR r)) := (show tn10 50 [rgV r] = tn9 50 [rgV r] from rfl).trans (tn9_50 r)
theorem tn10_86 : tn10 86 [] = some (scV .all) := (show tn10 86 [] = tn9 86 [] from rfl).trans tn9_86
/-! ### covers -/
abbrev B10 (f : FuncId) (a : List Value) : Bool := ansB tn10 f a
abbrev z91 (c0 c1 b1 b2 : Bool) (s z : BitVec 8) (a b : Sl) := rz [(9, .bool c0), (14, u8 z), (17, .bool b1), (22, .bool c1), (25, .bool b1), (31, .bool b2)] (qA tn10 [90] [(127, u8 s), (86, scV .all)]) tn10 Tryz.f91 38 [slV a, slV b]
theorem t91 (c0 c1 b1 b2 : Bool) (s z : BitVec 8) (a b : Sl) : ansX (z91 c0 c1 b1 b2 s z a b) =
    some (.bool (cond c0 b1 (cond c1 (b1 && b2) (B10 90 [rgV a.r, rgV b.r]))), ek b.r 0 c0 :: cond c0 [tn10 127 [slV a] = some (u8 s), bn .and 5 (u8 s) (u8 b.hav) (u8 z), bn .eql 5 (u8 z) (u8 b.hav) (.bool b1)]
      (ek a.r 0 c1 :: cond c1 (bn .eql 5 (u8 a.hav) (u8 255) (.bool b1) :: cond b1 [tn10 86 [] = some (scV .all), bn .eql 41 (rgV b.r) (rgV ⟨1, false, 0, .all, 0, 0⟩) (.bool b2)] []) [tn10 90 [rgV a.r, rgV b.r] = some (.bool (B10 90 [rgV a.r, rgV b.r]))])) ∧
    evenX (z91 c0 c1 b1 b2 s z a b) := by
  cases c0 <;> cases c1 <;> cases b1 <;> exact ⟨by kernel_rfl, by unfold evenX; kernel_rfl⟩
def tn11l : Tab := tabL [(91, a2 fun a b => s1 a fun a => s1 b fun b => some (.bool (inSl a b)))]
def tn11 : Tab := tAlt tn11l tn10
theorem inSl_run (a b : Sl) : ∃ (R : Orc) (m : Mem), (∀ B0, CfOK Tryz.prog B0 0 R) ∧ CfGrw R ∧ R 91 [slV a, slV b] m0 = some (.bool (inSl a b), m) := by
  have tl : ∀ {h : H.Hint} {s : BitVec 8} {z : Bool} {qs : List Prop}, ansX (fnZ h (qA tn10 [90] [(127, u8 s), (86, scV .all)]) tn10 noQ (oTab tn10) Tryz.prog kp 0 20 Tryz.f91 (bodyOf Tryz.f91) 38 [slV a, slV b] m0 fun v _ => v) = some (.bool z, qs) ∧ evenX (fnZ h (qA tn10 [90] [(127, u8 s), (86, scV .all)]) tn10 noQ (oTab tn10) Tryz.prog kp 0 20 Tryz.f91 (bodyOf Tryz.f91) 38 [slV a, slV b] m0 fun v _ => v) → (∀ q ∈ qs, q) → z = inSl a b → ∃ (R : Orc) (m : Mem), (∀ B0, CfOK Tryz.prog B0 0 R) ∧ CfGrw R ∧ R 91 [slV a, slV b] m0 = some (.bool (inSl a b), m) := fun t hq e => by
    rw [← e]; exact told tn10_ok (fnE 91 Tryz.f91) (by kernel_rfl) (by kernel_rfl) t hq
  by_cases k0 : b.r.kind = 0
  · refine tl (t91 true false (decide (sure a &&& b.hav = b.hav)) false (sure a) (sure a &&& b.hav) a b) (cons_p (ek_t k0) (cons_p (tn10_127 a) (cons_p (bin_and8 _ _) (one_p (eq8 _ _))))) ?_
    unfold inSl; rw [if_pos k0]; rfl
  · by_cases k1 : a.r.kind = 0
    · refine tl (t91 false true (decide (a.hav = 255)) (decide (b.r = ⟨1, false, 0, .all, 0, 0⟩)) 0 0 a b) (cons_p (ek_f k0) (cons_p (ek_t k1) (cons_p (eq8 _ _) (if_p (fun _ => cons_p tn10_86 (one_p (eq41 _ _))) fun _ => nil_p)))) ?_
      unfold inSl; rw [if_neg k0, if_pos k1]; rfl
    · refine tl (t91 false false false false 0 0 a b) (cons_p (ek_f k0) (cons_p (ek_f k1) (one_p (said_B (tn10_90 _ _))))) ?_
      unfold inSl; rw [if_neg k0, if_neg k1]
      exact ansB_of (tn10_90 _ _)
theorem tn11_ok : TabOK Tryz.prog tn11 := tAlt_ok (tabL_cons (fun a v h => by
  obtain ⟨w, w2, rfl, h1⟩ := a2_some h
  obtain ⟨r, rfl, h2⟩ := s1_some h1
  obtain ⟨r', rfl, h3⟩ := s1_some h2
  cases h3
  exact ⟨rfl, rfl, inSl_run r r'⟩) (tabL_nil _)) tn10_ok
theorem tn11_91 (a b : Sl) : tn11 91 [slV a, slV b] = some (.bool (inSl a b)) := tAlt_l ((s1_at a fun a => s1 (slV b) fun b => some (Value.bool (inSl a b))).trans (s1_at b fun b => some (Value.bool (inSl a b))))
theorem tn11_90 (a b : Rg) : tn11 90 [rgV a, rgV b] = some (.bool (inR a b)) := (show tn11 90 [rgV a, rgV b] = tn10 90 [rgV a, rgV b] from rfl).trans (tn10_90 a b)
theorem tn11_51 (x : Sl) : tn11 51 [slV x] = some (.bool (maySl x)) := (show tn11 51 [slV x] = tn10 51 [slV x] from rfl).trans (tn10_51 x)
theorem tn11_50 (r : Rg) : tn11 50 [rgV r] = some (.bool (mayR r)) := (show tn11 50 [rgV r] = tn10 50 [rgV r] from rfl).trans (tn10_50 r)
end
end Go.Proofs.YtipdeijgaabobaaGreatDoor
/-
  FMay: state.May.
-/
namespace Go.Proofs.YtipdeijgaabobaaGreatDoor
open Go Go.DI Go.DI.Kit Go.Proofs Go.Crt
noncomputable section
/-! ### a loop over a list -/
theorem list_loop {X : Type} (l : List X) (p : X → Bool) {body : Tmps → Mem → Option (Ex × Tmps × Mem)} (fr : Nat → (Nat → Value) → Tmps) (fo : (Nat → Value) → Tmps) (Inv : Mem → Prop) (id : Nat)
    (turn : ∀ (i : Nat) (x : X) (y : Nat → Value) (M : Mem), l[i]? = some x → Inv M → ∃ y' M', Inv M' ∧ body (fr i y) M = cond (p x) (some (.normal, fr (i + 1) y', M')) (some (.ret, fo y', M')))
    (stop : ∀ (y : Nat → Value) (M : Mem), Inv M → ∃ y', body (fr l.length y) M = some (.exit id, fr l.length y', M)) :
    ∀ (d i : Nat) (y : Nat → Value) (M : Mem) (j : Nat), i + d = l.length → d + 1 ≤ j → Inv M → ∃ y' M', Inv M' ∧ loopD body j (fr i y) M = cond ((l.drop i).all p) (some (.exit id, fr l.length y', M')) (some (.ret, fo y', M'))
  | 0, i, y, M, j, hi, hj, hM => by
    obtain ⟨j, rfl⟩ : ∃ j', j = j' + 1 := ⟨j - 1, by omega⟩
    obtain rfl : i = l.length := by omega
    obtain ⟨y', h⟩ := stop y M hM
    refine ⟨y', M, hM, ?_⟩
    rw [List.drop_length]
    exact loopD_stop h (by simp)
  | d + 1, i, y, M, j, hi, hj, hM => by
    obtain ⟨j, rfl⟩ : ∃ j', j = j' + 1 := ⟨j - 1, by omega⟩
    have hlt : i < l.length := by omega
    obtain ⟨y1, M1, hM1, h1⟩ := turn i l[i] y M (List.getElem?_eq_getElem hlt) hM
    have hd : l.drop i = l[i] :: l.drop (i + 1) := List.drop_eq_getElem_cons hlt
    cases hp : p l[i] with
    | true =>
      rw [hp] at h1
      obtain ⟨y2, M2, hM2, h2⟩ := list_loop l p fr fo Inv id turn stop d (i + 1) y1 M1 j (by omega) (by omega) hM1
      refine ⟨y2, M2, hM2, ?_⟩
      rw [hd, List.all_cons, hp, Bool.true_and]
      exact loopD_next h1 h2
    | false =>
      rw [hp] at h1
      refine ⟨y1, M1, hM1, ?_⟩
      rw [hd, List.all_cons, hp, Bool.false_and]
      exact loopD_stop h1 (by simp)
/-! ### parts of flat values -/
theorem und42 : Tryz.prog.underlying 42 = some (.array 11 41) := by kernel_rfl
theorem und45 : Tryz.prog.underlying 45 = some (.array 64 44) := by kernel_rfl
theorem sz41 : szOf Tryz.prog 41 = some 9 := by kernel_rfl
theorem sz44 : szOf Tryz.prog 44 = some 10 := by kernel_rfl
theorem agg41 : aggB Tryz.prog 41 = some true := by kernel_rfl
theorem agg44 : aggB Tryz.prog 44 = some true := by kernel_rfl
theorem rgC_len (r : Rg) : (rgC r).length = 9 := rfl
theorem slC_len (x : Sl) : (slC x).length = 10 := rfl
theorem rgC_one (r : Rg) : (rgC r).all one = true := rfl
theorem slC_one (x : Sl) : (slC x).all one = true := rfl
theorem chunk_take {X : Type} {g : X → List Value} {z : Nat} (hz : ∀ x, (g x).length = z) {l : List X} {i : Nat} {x : X} (h : l[i]? = some x) : (((l.flatMap g).drop (i * z)).take z) = g x := by
  obtain ⟨r, hr⟩ := chunk_drop hz l i x h
  rw [hr, List.take_append_of_le_length (by rw [hz]; exact Nat.le_refl _), List.take_of_length_le (by rw [hz]; exact Nat.le_refl _)]
theorem part_agg {t : TypeId} {n : Nat} (ha : aggB Tryz.prog t = some true) (hs : szOf Tryz.prog t = some n) {cs : List Value} {off : Nat} (h : off + n ≤ cs.length) : DI.part Tryz.prog t cs off = some (.agg ⟨(cs.drop off).take n⟩) := by
  unfold DI.part
  simp only [ha, hs]
theorem ix42 {l : List Rg} (hl : l.length = 11) {i : Nat} {r : Rg} (h : l[i]? = some r) : indexD Tryz.prog 42 (.agg ⟨l.flatMap rgC⟩) (i3 (i : Int)) = some (rgV r) := by
  have hi := (List.getElem?_eq_some_iff.1 h).1
  have hlen : (l.flatMap rgC).length = 99 := by rw [chunk_len rgC_len, hl]
  simp only [indexD, und42, sz41]
  rw [if_pos (by omega), Int.toNat_natCast]
  rw [part_agg agg41 sz41 (by rw [hlen]; omega), chunk_take rgC_len h]
theorem ix45 {l : List Sl} (hl : l.length = 64) {i : Nat} {r : Sl} (h : l[i]? = some r) : indexD Tryz.prog 45 (.agg ⟨l.flatMap slC⟩) (i3 (i : Int)) = some (slV r) := by
  have hi := (List.getElem?_eq_some_iff.1 h).1
  have hlen : (l.flatMap slC).length = 640 := by rw [chunk_len slC_len, hl]
  simp only [indexD, und45, sz44]
  rw [if_pos (by omega), Int.toNat_natCast]
  rw [part_agg agg44 sz44 (by rw [hlen]; omega), chunk_take slC_len h]
theorem ld_whole {c : List Value} {n : Nat} {own : Bool} {B : Blk} (hB : B = .cells own c) (h : c.length = n) : H.ldOk B 0 true n (.agg ⟨c⟩) := by
  subst hB
  refine ⟨c, ?_, rfl⟩
  show (if 0 + n ≤ c.length then some ((c.drop 0).take n) else none) = _
  rw [if_pos (by omega), List.drop_zero, List.take_of_length_le (by omega)]
theorem ld_mid {a b c : List Value} {n : Nat} {own : Bool} {B : Blk} (hB : B = .cells own (a ++ (b ++ c))) (h : b.length = n) {off : Nat} (ho : a.length = off) : H.ldOk B off true n (.agg ⟨b⟩) := by
  subst hB ho h
  refine ⟨b, ?_, rfl⟩
  show (if a.length + b.length ≤ (a ++ (b ++ c)).length then some (((a ++ (b ++ c)).drop a.length).take b.length) else none) = _
  rw [if_pos (by simp only [List.length_append]; omega), List.drop_left, List.take_left]
theorem ld_cell {a c : List Value} {v : Value} {own : Bool} {B : Blk} (hB : B = .cells own (a ++ (v :: c))) {off : Nat} (ho : a.length = off) : H.ldOk B off false 1 v := by
  subst hB ho
  show (a ++ (v :: c))[a.length]? = some v
  rw [List.getElem?_append_right (Nat.le_refl _), Nat.sub_self]; rfl
/-! ### May -/
abbrev stV (s : Stt) : Value := .agg ⟨stC s⟩
abbrev B11 (f : FuncId) (a : List Value) : Bool := ansB tn11 f a
abbrev sB11 (f : FuncId) (a : List Value) : Prop := tn11 f a = some (.bool (B11 f a))
noncomputable def lb20a : Code := loopN Tryz.f20 0
noncomputable def lb20b : Code := loopN Tryz.f20 1
def hSt (l : List (Nat × Value)) (f : Operand → Operand → Option Blk) : H.Hint := { hAt (lkN l) with stO := f }
abbrev mR (M : Mem) (z c : List Value) : Mem := (M.push (.cells true z)).set M.size (.cells true c)
abbrev zR : List Value := rgC .zero
abbrev zS : List Value := slC ⟨0, .zero⟩
abbrev dsA : List Nat := [1, 2, 8, 9]
abbrev dsB : List Nat := [1, 2, 17, 18]
abbrev zA (k : Nat) (L : List Value) (r : Rg) (i : Int) (lt nb : Bool) (x : Nat → Value) (M : Mem) :=
  pcZ (hSt [(10, .bool lt), (11, rgV r), (12, rgV r), (14, .bool nb), (15, i3 (i + 1))] fun _ _ => some (.cells true (rgC r))) (qA tn11 [50] []) tn11 noQ (oTab tn11) Tryz.prog kp 0 k lb20a 33 dsA (fullN 33 (up x (dsA.zip [pt 0, .bool false, .agg ⟨L⟩, i3 i]))) M
theorem t20a (k : Nat) (L : List Value) (r : Rg) (i : Int) (lt nb : Bool) (x : Nat → Value) (M : Mem) : ansX (zA k L r i lt nb x M) =
    some ((cond lt (cond nb .ret .normal) (.exit 0), [pt 0, .bool false, .agg ⟨L⟩, i3 (cond (lt && !nb) (i + 1) i)], cond lt (mR M zR (rgC r)) M),
      bn .lss 3 (i3 i) (i3 11) (.bool lt) :: cond lt ((indexD Tryz.prog 42 (.agg ⟨L⟩) (i3 i) = some (rgV r)) :: H.stOk Tryz.prog ((M.push (.cells true zR)).get M.size) 41 0 (rgV r) (.cells true (rgC r)) :: H.ldOk ((mR M zR (rgC r)).get M.size) 0 true 9 (rgV r) :: sB11 50 [rgV r] :: nt (B11 50 [rgV r]) nb :: cond nb [] [bn .add 3 (i3 i) (i3 1) (i3 (i + 1))]) []) ∧
    evenX (zA k L r i lt nb x M) := by
  cases lt <;> cases nb <;> exact ⟨by kernel_rfl, by unfold evenX; kernel_rfl⟩
abbrev zB (k : Nat) (L : List Value) (r : Sl) (i : Int) (lt nb : Bool) (x : Nat → Value) (M : Mem) :=
  pcZ (hSt [(19, .bool lt), (20, slV r), (21, slV r), (23, .bool nb), (24, i3 (i + 1))] fun _ _ => some (.cells true (slC r))) (qA tn11 [51] []) tn11 noQ (oTab tn11) Tryz.prog kp 0 k lb20b 33 dsB (fullN 33 (up x (dsB.zip [pt 0, .bool false, .agg ⟨L⟩, i3 i]))) M
theorem t20b (k : Nat) (L : List Value) (r : Sl) (i : Int) (lt nb : Bool) (x : Nat → Value) (M : Mem) : ansX (zB k L r i lt nb x M) =
    some ((cond lt (cond nb .ret .normal) (.exit 2), [pt 0, .bool false, .agg ⟨L⟩, i3 (cond (lt && !nb) (i + 1) i)], cond lt (mR M zS (slC r)) M),
      bn .lss 3 (i3 i) (i3 64) (.bool lt) :: cond lt ((indexD Tryz.prog 45 (.agg ⟨L⟩) (i3 i) = some (slV r)) :: H.stOk Tryz.prog ((M.push (.cells true zS)).get M.size) 44 0 (slV r) (.cells true (slC r)) :: H.ldOk ((mR M zS (slC r)).get M.size) 0 true 10 (slV r) :: sB11 51 [slV r] :: nt (B11 51 [slV r]) nb :: cond nb [] [bn .add 3 (i3 i) (i3 1) (i3 (i + 1))]) []) ∧
    evenX (zB k L r i lt nb x M) := by
  cases lt <;> cases nb <;> exact ⟨by kernel_rfl, by unfold evenX; kernel_rfl⟩
theorem set33 : SetLaw 33 := by
  intro x d v hd
  refine ⟨up x [(d, v)], ?_⟩
  iterate 33 (rcases d with _ | d; · kernel_rfl)
  omega
noncomputable abbrev pA20 : Code := seqL ((items (bodyOf Tryz.f20)).take 2)
abbrev zI (k : Nat) (s L : List Value) := pcZ (hAt (lkN [(8, .agg ⟨L⟩)])) noA tn11 noQ (oTab tn11) Tryz.prog kp 0 k pA20 33 dsA (fullN 33 (argX [.agg ⟨s⟩])) m0
theorem t20i (k : Nat) (s L : List Value) : ansX (zI k s L) = some ((.normal, [pt 0, .bool false, .agg ⟨L⟩, i3 0], m0.push (.cells true s)), [H.ldOk (.cells true s) 0 true 99 (.agg ⟨L⟩)]) ∧ evenX (zI k s L) := ⟨by kernel_rfl, by unfold evenX; kernel_rfl⟩
end
end Go.Proofs.YtipdeijgaabobaaGreatDoor
/-
  FMay2: state.May, whole.
-/
namespace Go.Crt
open Go Go.DI
theorem rgD_at {A : Type} (r : Rg) (l : List Value) (q : Rg → List Value → Option A) : rgD (rgC r ++ l) q = q r l := by
  obtain ⟨k, le, m, ⟨a, b, c, d⟩, x, y⟩ := r
  show cond (isU (a.toNat : Int) && (isU (b.toNat : Int) && (isU (c.toNat : Int) && isU (d.toNat : Int)))) (q ⟨k, le, m, ⟨.ofNat 64 ((a.toNat : Int)).toNat, .ofNat 64 ((b.toNat : Int)).toNat, .ofNat 64 ((c.toNat : Int)).toNat, .ofNat 64 ((d.toNat : Int)).toNat⟩, x, y⟩ l) none = _
  have hu : ∀ x : U, isU (x.toNat : Int) = true := fun x => by
    show Nat.blt x.toNat 18446744073709551616 = true
    rw [Nat.blt_eq]; exact x.isLt
  have ho : ∀ x : U, BitVec.ofNat 64 ((x.toNat : Int)).toNat = x := fun x => by rw [Int.toNat_natCast]; exact BitVec.ofNat_toNat 64 x ▸ (by simp)
  rw [hu, hu, hu, hu, ho, ho, ho, ho]; rfl
theorem rgD_some {A : Type} {l : List Value} {q : Rg → List Value → Option A} {z : A} (h : rgD l q = some z) : ∃ r l', l = rgC r ++ l' ∧ q r l' = some z := by
  unfold rgD at h
  split at h
  · rename_i k le m v t lo hi a b r
    cases hc : (isU v && (isU t && (isU lo && isU hi))) with
    | false => rw [hc] at h; cases h
    | true =>
      rw [hc, cond_true] at h
      simp only [Bool.and_eq_true] at hc
      have hs : ∀ {n : Int}, isU n = true → n = ((BitVec.ofNat 64 n.toNat).toNat : Int) := fun {n} h => by
        unfold isU at h
        split at h
        · rename_i n
          have h : n < 18446744073709551616 := Nat.blt_eq ▸ h
          show (n : Int) = _
          rw [show Int.toNat (Int.ofNat n) = n from rfl, BitVec.toNat_ofNat, Nat.mod_eq_of_lt h]
        · cases h
      have ho : ∀ x : U, BitVec.ofNat 64 ((x.toNat : Int)).toNat = x := fun x => by rw [Int.toNat_natCast]; exact BitVec.ofNat_toNat 64 x ▸ (by simp)
      obtain ⟨v', hv⟩ : ∃ x : U, v = (x.toNat : Int) := ⟨_, hs hc.1⟩
      obtain ⟨t', ht⟩ : ∃ x : U, t = (x.toNat : Int) := ⟨_, hs hc.2.1⟩
      obtain ⟨l', hl⟩ : ∃ x : U, lo = (x.toNat : Int) := ⟨_, hs hc.2.2.1⟩
      obtain ⟨h', hh⟩ : ∃ x : U, hi = (x.toNat : Int) := ⟨_, hs hc.2.2.2⟩
      subst hv ht hl hh
      rw [ho, ho, ho, ho] at h
      exact ⟨⟨k, le, m, ⟨v', t', l', h'⟩, a, b⟩, r, rfl, h⟩
  · cases h
theorem slD_at {A : Type} (x : Sl) (l : List Value) (q : Sl → List Value → Option A) : slD (slC x ++ l) q = q x l := by
  obtain ⟨h, r⟩ := x
  have e : slD (slC ⟨h, r⟩ ++ l) q = cond (isB (h.toNat : Int)) (rgD (rgC r ++ l) fun r l => q ⟨.ofNat 8 ((h.toNat : Int)).toNat, r⟩ l) none := rfl
  have hb : isB (h.toNat : Int) = true := by
    show Nat.blt h.toNat 256 = true
    rw [Nat.blt_eq]; exact h.isLt
  have ho : BitVec.ofNat 8 ((h.toNat : Int)).toNat = h := by rw [Int.toNat_natCast]; exact BitVec.ofNat_toNat 8 h ▸ (by simp)
  rw [e, hb, cond_true, rgD_at, ho]
theorem slD_some {A : Type} {l : List Value} {q : Sl → List Value → Option A} {z : A} (h : slD l q = some z) : ∃ r l', l = slC r ++ l' ∧ q r l' = some z := by
  unfold slD at h
  split at h
  · rename_i n l
    cases hc : isB n with
    | false => rw [hc] at h; cases h
    | true =>
      rw [hc, cond_true] at h
      obtain ⟨r, l', rfl, h1⟩ := rgD_some h
      have hs : n = ((BitVec.ofNat 8 n.toNat).toNat : Int) := by
        unfold isB at hc
        split at hc
        · rename_i n
          have h : n < 256 := Nat.blt_eq ▸ hc
          show (n : Int) = _
          rw [show Int.toNat (Int.ofNat n) = n from rfl, BitVec.toNat_ofNat, Nat.mod_eq_of_lt h]
        · cases hc
      refine ⟨_, l', ?_, h1⟩
      show _ = _ :: _
      rw [← hs]
      rfl
  · cases h
theorem rgsD_at {A : Type} : ∀ (rs : List Rg) (l : List Value) (q : List Rg → List Value → Option A), rgsD rs.length (rs.flatMap rgC ++ l) q = q rs l
  | [], l, q => rfl
  | r :: rs, l, q => by
    simp only [List.length_cons, rgsD, List.flatMap_cons, List.append_assoc]
    rw [rgD_at, rgsD_at rs]
theorem slsD_at {A : Type} : ∀ (rs : List Sl) (l : List Value) (q : List Sl → List Value → Option A), slsD rs.length (rs.flatMap slC ++ l) q = q rs l
  | [], l, q => rfl
  | r :: rs, l, q => by
    simp only [List.length_cons, slsD, List.flatMap_cons, List.append_assoc]
    rw [slD_at, slsD_at rs]
theorem rgsD_some {A : Type} : ∀ (n : Nat) {l : List Value} {q : List Rg → List Value → Option A} {z : A}, rgsD n l q = some z → ∃ rs l', rs.length = n ∧ l = rs.flatMap rgC ++ l' ∧ q rs l' = some z
  | 0, l, q, z, h => ⟨[], l, rfl, rfl, h⟩
  | n + 1, l, q, z, h => by
    obtain ⟨r, l1, rfl, h1⟩ := rgD_some h
    obtain ⟨rs, l2, rfl, rfl, h2⟩ := rgsD_some n h1
    exact ⟨r :: rs, l2, rfl, by simp only [List.flatMap_cons, List.append_assoc], h2⟩
theorem slsD_some {A : Type} : ∀ (n : Nat) {l : List Value} {q : List Sl → List Value → Option A} {z : A}, slsD n l q = some z → ∃ rs l', rs.length = n ∧ l = rs.flatMap slC ++ l' ∧ q rs l' = some z
  | 0, l, q, z, h => ⟨[], l, rfl, rfl, h⟩
  | n + 1, l, q, z, h => by
    obtain ⟨r, l1, rfl, h1⟩ := slD_some h
    obtain ⟨rs, l2, rfl, rfl, h2⟩ := slsD_some n h1
    exact ⟨r :: rs, l2, rfl, by simp only [List.flatMap_cons, List.append_assoc], h2⟩
theorem stD_at {A : Type} {s : Stt} (hs : s.Ok) (q : Stt → Option A) : stD (stC s) q = q s := by
  unfold stD stC
  have h1 := rgsD_at (A := A) s.regs (s.stack.flatMap slC ++ [.int .i64 s.pkt])
  rw [hs.regs] at h1
  rw [h1]
  have h2 := slsD_at (A := A) s.stack [.int .i64 s.pkt]
  rw [hs.stack] at h2
  rw [h2]
theorem stD_some {A : Type} {l : List Value} {q : Stt → Option A} {z : A} (h : stD l q = some z) : ∃ s, s.Ok ∧ l = stC s ∧ q s = some z := by
  unfold stD at h
  obtain ⟨rs, l1, h1, rfl, h2⟩ := rgsD_some 11 h
  obtain ⟨xs, l2, h3, rfl, h4⟩ := slsD_some 64 h2
  split at h4
  · exact ⟨⟨rs, xs, _⟩, ⟨h1, h3⟩, rfl, h4⟩
  · cases h4
theorem regs_len {s : Stt} (hs : s.Ok) : (s.regs.flatMap rgC).length = 99 := by
  have : ∀ l : List Rg, (l.flatMap rgC).length = l.length * 9 := fun l => by
    induction l with
    | nil => rfl
    | cons r l ih => simp only [List.flatMap_cons, List.length_append, ih, List.length_cons]; show 9 + _ = _; omega
  rw [this, hs.regs]
theorem slots_len {s : Stt} (hs : s.Ok) : (s.stack.flatMap slC).length = 640 := by
  have : ∀ l : List Sl, (l.flatMap slC).length = l.length * 10 := fun l => by
    induction l with
    | nil => rfl
    | cons r l ih => simp only [List.flatMap_cons, List.length_append, ih, List.length_cons]; show 10 + _ = _; omega
  rw [this, hs.stack]
theorem stC_len {s : Stt} (hs : s.Ok) : (stC s).length = 740 := by
  unfold stC
  rw [List.length_append, List.length_append, regs_len hs, slots_len hs]; rfl
end Go.Crt
namespace Go.Proofs.YtipdeijgaabobaaGreatDoor
open Go Go.DI Go.DI.Kit Go.Proofs Go.Crt
noncomputable section
theorem lt3 (i n : Int) : bn .lss 3 (i3 i) (i3 n) (.bool (decide (i < n))) := bin_ltI ..
theorem add3 {i : Nat} (h : i < 1000000000) : bn .add 3 (i3 (i : Int)) (i3 1) (i3 ((i : Int) + 1)) := add_i64 ⟨by omega, by omega⟩
theorem so_z {t : TypeId} {n : Nat} (hs : szOf Tryz.prog t = some n) {B : Blk} {c v : List Value} (hB : B = .cells true c) (hc : c.length = n) (hv : v.length = n) (h1 : v.all one = true) : H.stOk Tryz.prog B t 0 (.agg ⟨v⟩) (.cells true v) := by
  subst hB; exact so_all hs hc hv h1
theorem mR_ext (M : Mem) (z c : List Value) : Ext M (mR M z c) := Ext.fresh
theorem mR_get (M : Mem) (z c : List Value) : (mR M z c).get M.size = .cells true c := Mem.get_set_same ..
abbrev frA (L : List Value) (i : Nat) (x : Nat → Value) : Tmps := fullN 33 (up x (dsA.zip [pt 0, .bool false, .agg ⟨L⟩, i3 (i : Int)]))
abbrev frB (L : List Value) (i : Nat) (x : Nat → Value) : Tmps := fullN 33 (up x (dsB.zip [pt 0, .bool false, .agg ⟨L⟩, i3 (i : Int)]))
/-- The memory of state.May: the state in block 0. -/
structure MayM (M : Mem) (s : Stt) : Prop where
  size : 1 ≤ M.size
  g0 : M.get 0 = .cells true (stC s)
theorem MayM.ext {M M' : Mem} {s : Stt} (h : MayM M s) (x : Ext M M') : MayM M' s := ⟨Nat.le_trans h.size x.size, (x.get 0 h.size).trans h.g0⟩
theorem foA (L : List Value) (i : Nat) (x : Nat → Value) : frA L i x = fullN 33 (up (up x (dsA.zip [pt 0, .bool false, .agg ⟨L⟩, i3 (i : Int)])) [(1, pt 0), (2, .bool false)]) := by
  rw [up_self _ [(1, pt 0), (2, .bool false)]]
  intro p hp
  rcases List.mem_cons.1 hp with rfl | hp
  · rfl
  · rcases List.mem_cons.1 hp with rfl | hp
    · rfl
    · cases hp
theorem turnA {s : Stt} (hs : s.Ok) (k : Nat) {i : Nat} {r : Rg} (y : Nat → Value) {M : Mem} (hi : s.regs[i]? = some r) (hM : MayM M s) :
    ∃ y' M', MayM M' s ∧ codeD Tryz.prog kp 0 (oTab tn11) (drawD Tryz.prog kp 0 (oTab tn11) 33) 33 k lb20a (frA (s.regs.flatMap rgC) i y) M = cond (mayR r) (some (.normal, frA (s.regs.flatMap rgC) (i + 1) y', M')) (some (.ret, fullN 33 (up y' [(1, pt 0), (2, .bool false)]), M')) := by
  have hlt := (List.getElem?_eq_some_iff.1 hi).1
  rw [hs.regs] at hlt
  have hl := lt3 (i : Int) 11
  rw [decide_eq_true (show (i : Int) < 11 by omega)] at hl
  obtain ⟨y', h⟩ := pcZ_full (tells_tab tn11) set33 rfl (t20a k (s.regs.flatMap rgC) r (i : Int) true (!mayR r) y M).1 (t20a k (s.regs.flatMap rgC) r (i : Int) true (!mayR r) y M).2
    (cons_p hl (cons_p (ix42 hs.regs hi) (cons_p (so_z sz41 (Mem.get_push_same ..) rfl rfl (rgC_one r)) (cons_p (ld_whole (mR_get ..) rfl) (cons_p (said_B (tn11_50 r)) (cons_p (not_B (tn11_50 r)) (if_p (fun _ => nil_p) fun _ => one_p (add3 (by omega)))))))))
  cases hp : mayR r with
  | true =>
    rw [hp] at h
    exact ⟨y', mR M zR (rgC r), hM.ext (mR_ext _ _ _), h⟩
  | false =>
    rw [hp] at h
    exact ⟨_, mR M zR (rgC r), hM.ext (mR_ext _ _ _), h.trans (congrArg (fun f => some (Ex.ret, f, mR M zR (rgC r))) (foA _ i y'))⟩
theorem stopA {s : Stt} (k : Nat) (y : Nat → Value) (M : Mem) (L : List Value) : ∃ y', codeD Tryz.prog kp 0 (oTab tn11) (drawD Tryz.prog kp 0 (oTab tn11) 33) 33 k lb20a (frA L 11 y) M = some (.exit 0, frA L 11 y', M) := by
  have hl := lt3 ((11 : Nat) : Int) 11
  rw [decide_eq_false (by decide)] at hl
  exact pcZ_full (tells_tab tn11) set33 rfl (t20a k L .zero ((11 : Nat) : Int) false false y M).1 (t20a k L .zero ((11 : Nat) : Int) false false y M).2 (one_p hl)
theorem mayA_loop {s : Stt} (hs : s.Ok) (k j : Nat) (hj : 12 ≤ j) (x : Nat → Value) {M : Mem} (hM : MayM M s) :
    ∃ x' M', MayM M' s ∧ loopD (codeD Tryz.prog kp 0 (oTab tn11) (drawD Tryz.prog kp 0 (oTab tn11) 33) 33 k lb20a) j (frA (s.regs.flatMap rgC) 0 x) M = cond (s.regs.all mayR) (some (.exit 0, frA (s.regs.flatMap rgC) 11 x', M')) (some (.ret, fullN 33 (up x' [(1, pt 0), (2, .bool false)]), M')) := by
  have h := list_loop s.regs mayR (body := codeD Tryz.prog kp 0 (oTab tn11) (drawD Tryz.prog kp 0 (oTab tn11) 33) 33 k lb20a) (frA (s.regs.flatMap rgC)) (fun y => fullN 33 (up y [(1, pt 0), (2, .bool false)])) (fun M => MayM M s) 0
    (fun i r y M hi hM => turnA hs k y hi hM) (fun y M _ => by rw [hs.regs]; exact stopA (s := s) k y M _) 11 0 x M j (by rw [hs.regs]) (by omega) hM
  rw [List.drop_zero, hs.regs] at h
  exact h
theorem foB (L : List Value) (i : Nat) (x : Nat → Value) : frB L i x = fullN 33 (up (up x (dsB.zip [pt 0, .bool false, .agg ⟨L⟩, i3 (i : Int)])) [(1, pt 0), (2, .bool false)]) := by
  rw [up_self _ [(1, pt 0), (2, .bool false)]]
  intro p hp
  rcases List.mem_cons.1 hp with rfl | hp
  · rfl
  · rcases List.mem_cons.1 hp with rfl | hp
    · rfl
    · cases hp
theorem turnB {s : Stt} (hs : s.Ok) (k : Nat) {i : Nat} {r : Sl} (y : Nat → Value) {M : Mem} (hi : s.stack[i]? = some r) (hM : MayM M s) :
    ∃ y' M', MayM M' s ∧ codeD Tryz.prog kp 0 (oTab tn11) (drawD Tryz.prog kp 0 (oTab tn11) 33) 33 k lb20b (frB (s.stack.flatMap slC) i y) M = cond (maySl r) (some (.normal, frB (s.stack.flatMap slC) (i + 1) y', M')) (some (.ret, fullN 33 (up y' [(1, pt 0), (2, .bool false)]), M')) := by
  have hlt := (List.getElem?_eq_some_iff.1 hi).1
  rw [hs.stack] at hlt
  have hl := lt3 (i : Int) 64
  rw [decide_eq_true (show (i : Int) < 64 by omega)] at hl
  obtain ⟨y', h⟩ := pcZ_full (tells_tab tn11) set33 rfl (t20b k (s.stack.flatMap slC) r (i : Int) true (!maySl r) y M).1 (t20b k (s.stack.flatMap slC) r (i : Int) true (!maySl r) y M).2
    (cons_p hl (cons_p (ix45 hs.stack hi) (cons_p (so_z sz44 (Mem.get_push_same ..) rfl rfl (slC_one r)) (cons_p (ld_whole (mR_get ..) rfl) (cons_p (said_B (tn11_51 r)) (cons_p (not_B (tn11_51 r)) (if_p (fun _ => nil_p) fun _ => one_p (add3 (by omega)))))))))
  cases hp : maySl r with
  | true =>
    rw [hp] at h
    exact ⟨y', mR M zS (slC r), hM.ext (mR_ext _ _ _), h⟩
  | false =>
    rw [hp] at h
    exact ⟨_, mR M zS (slC r), hM.ext (mR_ext _ _ _), h.trans (congrArg (fun f => some (Ex.ret, f, mR M zS (slC r))) (foB _ i y'))⟩
theorem stopB {s : Stt} (k : Nat) (y : Nat → Value) (M : Mem) (L : List Value) : ∃ y', codeD Tryz.prog kp 0 (oTab tn11) (drawD Tryz.prog kp 0 (oTab tn11) 33) 33 k lb20b (frB L 64 y) M = some (.exit 2, frB L 64 y', M) := by
  have hl := lt3 ((64 : Nat) : Int) 64
  rw [decide_eq_false (by decide)] at hl
  exact pcZ_full (tells_tab tn11) set33 rfl (t20b k L ⟨0, .zero⟩ ((64 : Nat) : Int) false false y M).1 (t20b k L ⟨0, .zero⟩ ((64 : Nat) : Int) false false y M).2 (one_p hl)
theorem mayB_loop {s : Stt} (hs : s.Ok) (k j : Nat) (hj : 65 ≤ j) (x : Nat → Value) {M : Mem} (hM : MayM M s) :
    ∃ x' M', MayM M' s ∧ loopD (codeD Tryz.prog kp 0 (oTab tn11) (drawD Tryz.prog kp 0 (oTab tn11) 33) 33 k lb20b) j (frB (s.stack.flatMap slC) 0 x) M = cond (s.stack.all maySl) (some (.exit 2, frB (s.stack.flatMap slC) 64 x', M')) (some (.ret, fullN 33 (up x' [(1, pt 0), (2, .bool false)]), M')) := by
  have h := list_loop s.stack maySl (body := codeD Tryz.prog kp 0 (oTab tn11) (drawD Tryz.prog kp 0 (oTab tn11) 33) 33 k lb20b) (frB (s.stack.flatMap slC)) (fun y => fullN 33 (up y [(1, pt 0), (2, .bool false)])) (fun M => MayM M s) 2
    (fun i r y M hi hM => turnB hs k y hi hM) (fun y M _ => by rw [hs.stack]; exact stopB (s := s) k y M _) 64 0 x M j (by rw [hs.stack]) (by omega) hM
  rw [List.drop_zero, hs.stack] at h
  exact h

/-! ### the whole -/
noncomputable abbrev pB20 : Code := .region 7 (regA (bodyOf Tryz.f20) 7) false
noncomputable abbrev pC20 : Code := seqL [.region 13 (regA (bodyOf Tryz.f20) 13) false, .ret]
theorem drop20_2 : (items (bodyOf Tryz.f20)).drop 2 = [.block 0 (.loop lb20a), pB20, .block 2 (.loop lb20b), .region 13 (regA (bodyOf Tryz.f20) 13) false, .ret] := by kernel_rfl
abbrev zJ (k : Nat) (L L' : List Value) (i : Int) (x : Nat → Value) (M : Mem) := pcZ (hAt (lkN [(17, .agg ⟨L'⟩)])) noA tn11 noQ (oTab tn11) Tryz.prog kp 0 k pB20 33 dsB (fullN 33 (up x (dsA.zip [pt 0, .bool false, .agg ⟨L⟩, i3 i]))) M
theorem t20j (k : Nat) (L L' : List Value) (i : Int) (x : Nat → Value) (M : Mem) : ansX (zJ k L L' i x M) = some ((.normal, [pt 0, .bool false, .agg ⟨L'⟩, i3 0], M), [H.ldOk (M.get 0) 99 true 640 (.agg ⟨L'⟩)]) ∧ evenX (zJ k L L' i x M) := ⟨by kernel_rfl, by unfold evenX; kernel_rfl⟩
abbrev zK (k : Nat) (L : List Value) (i p : Int) (b1 b2 : Bool) (x : Nat → Value) (M : Mem) := pcZ (hAt (lkN [(26, i3 p), (27, .bool b1), (30, i3 p), (31, .bool b2)])) noA tn11 noQ (oTab tn11) Tryz.prog kp 0 k pC20 33 [1, 2] (fullN 33 (up x (dsB.zip [pt 0, .bool false, .agg ⟨L⟩, i3 i]))) M
theorem t20k (k : Nat) (L : List Value) (i p : Int) (b1 b2 : Bool) (x : Nat → Value) (M : Mem) : ansX (zK k L i p b1 b2 x M) = some ((.ret, [pt 0, .bool (b1 && b2)], M), H.ldOk (M.get 0) 739 false 1 (i3 p) :: bn .geq 3 (i3 p) (i3 0) (.bool b1) :: cond b1 [H.ldOk (M.get 0) 739 false 1 (i3 p), bn .leq 3 (i3 p) (i3 65535) (.bool b2)] []) ∧ evenX (zK k L i p b1 b2 x M) := by
  cases b1 <;> exact ⟨by kernel_rfl, by unfold evenX; kernel_rfl⟩
theorem res20_r : Tryz.f20.results.toList = [.tmp 2] := by kernel_rfl
theorem fr20_2 (x : Nat → Value) (b : Bool) : (fullN 33 (up x [(1, pt 0), (2, .bool b)])).at 2 = .bool b := by kernel_rfl
theorem res20 (x : Nat → Value) (b : Bool) (M : Mem) : resD Tryz.prog (fullN 33 (up x [(1, pt 0), (2, .bool b)])) M Tryz.f20.results.toList = some [.bool b] := by
  rw [res20_r]; simp only [resD, fr20_2]
theorem maySt_run {s : Stt} (hs : s.Ok) : ∃ (R : Orc) (M : Mem), (∀ B0, CfOK Tryz.prog B0 0 R) ∧ CfGrw R ∧ R 20 [stV s] m0 = some (.bool (maySt s), M) := by
  have pack : ∀ {M : Mem}, bodyN Tryz.prog kp 0 (oTab tn11) 100 20 [stV s] m0 = some (.bool (maySt s), M) → ∃ (R : Orc) (M : Mem), (∀ B0, CfOK Tryz.prog B0 0 R) ∧ CfGrw R ∧ R 20 [stV s] m0 = some (.bool (maySt s), M) := fun h =>
    ⟨_, _, fun B0 => bodyN_ok hmix hK hng (oTab_ok tn11_ok B0 0) (oTab_grw tn11) 100, bodyN_grw (oTab_grw tn11) 100, h⟩
  have fin : ∀ {M : Mem} {x : Nat → Value} {b : Bool}, codeD Tryz.prog kp 0 (oTab tn11) (drawD Tryz.prog kp 0 (oTab tn11) 33) 33 100 (bodyOf Tryz.f20) (fullN 33 (argX [stV s])) m0 = some (.ret, fullN 33 (up x [(1, pt 0), (2, .bool b)]), M) → bodyN Tryz.prog kp 0 (oTab tn11) 100 20 [stV s] m0 = some (.bool b, M) := fun h =>
    bodyN_of (fnE 20 Tryz.f20) (by kernel_rfl) (by kernel_rfl) h (res20 _ _ _)
  obtain ⟨x1, h1⟩ := pcZ_full (tells_tab tn11) set33 rfl (t20i 100 (stC s) (s.regs.flatMap rgC)).1 (t20i 100 (stC s) (s.regs.flatMap rgC)).2 (one_p (ld_mid (a := []) rfl (regs_len hs) rfl))
  have hM1 : MayM (m0.push (.cells true (stC s))) s := ⟨Nat.le_refl 1, by kernel_rfl⟩
  obtain ⟨x2, M2, hM2, h2⟩ := mayA_loop hs 100 100 (by decide) x1 hM1
  cases hA : s.regs.all mayR with
  | false =>
    rw [hA] at h2
    have h3 := code_loopE 2 (bodyOf Tryz.f20) drop20_2 h1 h2 (by simp) (by simp)
    have e : maySt s = false := by unfold maySt; rw [hA]; rfl
    rw [e] at pack ⊢
    exact pack (fin h3)
  | true =>
    rw [hA] at h2
    have h3 := code_loop 2 (bodyOf Tryz.f20) drop20_2 h1 h2
    obtain ⟨x4, h4⟩ := pcZ_full (tells_tab tn11) set33 rfl (t20j 100 (s.regs.flatMap rgC) (s.stack.flatMap slC) 11 x2 M2).1 (t20j 100 (s.regs.flatMap rgC) (s.stack.flatMap slC) 11 x2 M2).2 (one_p (ld_mid hM2.g0 (slots_len hs) (regs_len hs)))
    obtain ⟨x5, M5, hM5, h5⟩ := mayB_loop hs 100 100 (by decide) x4 hM2
    have hcut := codeL_cut (P := Tryz.prog) (K := kp) (G := 0) (cf := oTab tn11) (N := 33) (k := 100) 1 [pB20, .block 2 (.loop lb20b), .region 13 (regA (bodyOf Tryz.f20) 13) false, .ret] h4
    cases hB : s.stack.all maySl with
    | false =>
      rw [hB] at h5
      have h6 : codeD Tryz.prog kp 0 (oTab tn11) (drawD Tryz.prog kp 0 (oTab tn11) 33) 33 100 (.block 2 (.loop lb20b)) (frB (s.stack.flatMap slC) 0 x4) M2 = some (.ret, fullN 33 (up x5 [(1, pt 0), (2, .bool false)]), M5) := by
        have h5' : codeD Tryz.prog kp 0 (oTab tn11) (drawD Tryz.prog kp 0 (oTab tn11) 33) 33 100 (.loop lb20b) (frB (s.stack.flatMap slC) 0 x4) M2 = some (.ret, fullN 33 (up x5 [(1, pt 0), (2, .bool false)]), M5) := h5
        rw [codeD, h5']
      have h7 := codeL_cutE (P := Tryz.prog) (K := kp) (G := 0) (cf := oTab tn11) (N := 33) (k := 100) (e := .ret) 1 [.block 2 (.loop lb20b), .region 13 (regA (bodyOf Tryz.f20) 13) false, .ret] (by simp) h6
      have e : maySt s = false := by unfold maySt; rw [hA, hB]; rfl
      rw [e] at pack ⊢
      exact pack (fin (h3.trans (hcut.trans h7)))
    | true =>
      rw [hB] at h5
      have h6 : codeD Tryz.prog kp 0 (oTab tn11) (drawD Tryz.prog kp 0 (oTab tn11) 33) 33 100 (.block 2 (.loop lb20b)) (frB (s.stack.flatMap slC) 0 x4) M2 = some (.normal, frB (s.stack.flatMap slC) 64 x5, M5) := by
        have h5' : codeD Tryz.prog kp 0 (oTab tn11) (drawD Tryz.prog kp 0 (oTab tn11) 33) 33 100 (.loop lb20b) (frB (s.stack.flatMap slC) 0 x4) M2 = some (.exit 2, frB (s.stack.flatMap slC) 64 x5, M5) := h5
        rw [codeD, h5']
        rfl
      have h7 := codeL_cut (P := Tryz.prog) (K := kp) (G := 0) (cf := oTab tn11) (N := 33) (k := 100) 1 [.block 2 (.loop lb20b), .region 13 (regA (bodyOf Tryz.f20) 13) false, .ret] h6
      have hp : H.ldOk (M5.get 0) 739 false 1 (i3 s.pkt) := ld_cell (a := s.regs.flatMap rgC ++ s.stack.flatMap slC) (c := []) (by rw [hM5.g0]; unfold stC; rw [List.append_assoc]) (by rw [List.length_append, regs_len hs, slots_len hs])
      obtain ⟨x8, h8⟩ := pcZ_full (tells_tab tn11) set33 rfl (t20k 100 (s.stack.flatMap slC) 64 s.pkt (decide (0 ≤ s.pkt)) (decide (s.pkt ≤ 65535)) x5 M5).1 (t20k 100 (s.stack.flatMap slC) 64 s.pkt (decide (0 ≤ s.pkt)) (decide (s.pkt ≤ 65535)) x5 M5).2
        (cons_p hp (cons_p (bin_geI ..) (if_p (fun _ => cons_p hp (one_p (bin_leI ..))) fun _ => nil_p)))
      have e : maySt s = (decide (0 ≤ s.pkt) && decide (s.pkt ≤ 65535)) := by unfold maySt; rw [hA, hB]; rfl
      rw [e] at pack ⊢
      exact pack (fin (h3.trans (hcut.trans (h7.trans h8))))
def tn12l : Tab := tabL [(20, askMay)]
def tn12 : Tab := tAlt tn12l tn11
theorem regs_plain (l : List Rg) : (l.flatMap rgC).all plain0 = true := by
  rw [List.all_flatMap, List.all_eq_true]; intro r _; rfl
theorem slots_plain (l : List Sl) : (l.flatMap slC).all plain0 = true := by
  rw [List.all_flatMap, List.all_eq_true]; intro r _; rfl
theorem st_plain (s : Stt) : (stC s).all plain0 = true := by
  unfold stC
  rw [List.all_append, List.all_append, regs_plain, slots_plain]; rfl
theorem tn12_ok : TabOK Tryz.prog tn12 := tAlt_ok (tabL_cons (fun a v h => by
  unfold askMay at h
  split at h
  · obtain ⟨s, hs, rfl, h1⟩ := stD_some h
    cases h1
    refine ⟨?_, rfl, maySt_run hs⟩
    show (plain1 (stV s) && true) = true
    rw [Bool.and_true]; exact st_plain s
  · cases h) (tabL_nil _)) tn11_ok
theorem tn12_20 {s : Stt} (hs : s.Ok) : tn12 20 [stV s] = some (.bool (maySt s)) := tAlt_l (stD_at hs fun s => some (Value.bool (maySt s)))
theorem tn12_91 (a b : Sl) : tn12 91 [slV a, slV b] = some (.bool (inSl a b)) := (show tn12 91 [slV a, slV b] = tn11 91 [slV a, slV b] from rfl).trans (tn11_91 a b)
theorem tn12_90 (a b : Rg) : tn12 90 [rgV a, rgV b] = some (.bool (inR a b)) := (show tn12 90 [rgV a, rgV b] = tn11 90 [rgV a, rgV b] from rfl).trans (tn11_90 a b)
end
end Go.Proofs.YtipdeijgaabobaaGreatDoor
/-
  FIn: state.In.
-/
namespace Go.Proofs.YtipdeijgaabobaaGreatDoor
open Go Go.DI Go.DI.Kit Go.Proofs Go.Crt
noncomputable section
abbrev B12 (f : FuncId) (a : List Value) : Bool := ansB tn12 f a
abbrev sB12 (f : FuncId) (a : List Value) : Prop := tn12 f a = some (.bool (B12 f a))
noncomputable def lb48a : Code := loopN Tryz.f48 0
noncomputable def lb48b : Code := loopN Tryz.f48 1
abbrev ds4a : List Nat := [2, 3, 4, 22]
abbrev ds4b : List Nat := [2, 3, 4, 36]
abbrev po (b o : Nat) : Value := .pointer (some ⟨b, o, none⟩)
abbrev z48a (k : Nat) (r r' : Rg) (o : Nat) (i : Int) (lt nb : Bool) (x : Nat → Value) (M : Mem) :=
  pcZ (hAt (lkN [(23, .bool lt), (27, po 0 o), (28, rgV r), (31, po 1 o), (32, rgV r'), (34, .bool nb), (35, i3 (i + 1))])) (qA tn12 [90] []) tn12 noQ (oTab tn12) Tryz.prog kp 0 k lb48a 50 ds4a (fullN 50 (up x (ds4a.zip [pt 0, pt 1, .bool false, i3 i]))) M
theorem t48a (k : Nat) (r r' : Rg) (o : Nat) (i : Int) (lt nb : Bool) (x : Nat → Value) (M : Mem) : ansX (z48a k r r' o i lt nb x M) =
    some ((cond lt (cond nb .ret .normal) (.exit 0), [pt 0, pt 1, .bool false, i3 (cond (lt && !nb) (i + 1) i)], M),
      bn .lss 3 (i3 i) (i3 11) (.bool lt) :: cond lt ((indexAddrD Tryz.prog 42 (po 0 0) (i3 i) = some (po 0 o)) :: H.ldOk (M.get 0) o true 9 (rgV r) :: (indexAddrD Tryz.prog 42 (po 1 0) (i3 i) = some (po 1 o)) :: H.ldOk (M.get 1) o true 9 (rgV r') :: sB12 90 [rgV r, rgV r'] :: nt (B12 90 [rgV r, rgV r']) nb :: cond nb [] [bn .add 3 (i3 i) (i3 1) (i3 (i + 1))]) []) ∧
    evenX (z48a k r r' o i lt nb x M) := by
  cases lt <;> cases nb <;> exact ⟨by kernel_rfl, by unfold evenX; kernel_rfl⟩
abbrev z48b (k : Nat) (r r' : Sl) (o : Nat) (i : Int) (lt nb : Bool) (x : Nat → Value) (M : Mem) :=
  pcZ (hAt (lkN [(37, .bool lt), (41, po 0 o), (42, slV r), (45, po 1 o), (46, slV r'), (48, .bool nb), (49, i3 (i + 1))])) (qA tn12 [91] []) tn12 noQ (oTab tn12) Tryz.prog kp 0 k lb48b 50 ds4b (fullN 50 (up x (ds4b.zip [pt 0, pt 1, .bool false, i3 i]))) M
theorem t48b (k : Nat) (r r' : Sl) (o : Nat) (i : Int) (lt nb : Bool) (x : Nat → Value) (M : Mem) : ansX (z48b k r r' o i lt nb x M) =
    some ((cond lt (cond nb .ret .normal) (.exit 2), [pt 0, pt 1, .bool false, i3 (cond (lt && !nb) (i + 1) i)], M),
      bn .lss 3 (i3 i) (i3 64) (.bool lt) :: cond lt ((indexAddrD Tryz.prog 45 (po 0 99) (i3 i) = some (po 0 o)) :: H.ldOk (M.get 0) o true 10 (slV r) :: (indexAddrD Tryz.prog 45 (po 1 99) (i3 i) = some (po 1 o)) :: H.ldOk (M.get 1) o true 10 (slV r') :: sB12 91 [slV r, slV r'] :: nt (B12 91 [slV r, slV r']) nb :: cond nb [] [bn .add 3 (i3 i) (i3 1) (i3 (i + 1))]) []) ∧
    evenX (z48b k r r' o i lt nb x M) := by
  cases lt <;> cases nb <;> exact ⟨by kernel_rfl, by unfold evenX; kernel_rfl⟩
theorem set50 : SetLaw 50 := by
  intro x d v hd
  refine ⟨up x [(d, v)], ?_⟩
  iterate 50 (rcases d with _ | d; · kernel_rfl)
  omega
noncomputable abbrev pA48 : Code := seqL ((items (bodyOf Tryz.f48)).take 4)
abbrev mI2 (s s' : List Value) : Mem := (m0.push (.cells true s)).push (.cells true s')
abbrev z48i (k : Nat) (s s' : List Value) (p p' : Int) (n1 n2 n3 : Bool) := pcZ (hAt (lkN [(7, .agg ⟨s⟩), (9, .bool n1), (11, .agg ⟨s'⟩), (13, .bool n2), (17, i3 p), (19, i3 p'), (20, .bool n3)])) (qA tn12 [20] []) tn12 noQ (oTab tn12) Tryz.prog kp 0 k pA48 50 ds4a (fullN 50 (argX [.agg ⟨s⟩, .agg ⟨s'⟩])) m0
theorem t48i (k : Nat) (s s' : List Value) (p p' : Int) (n1 n2 n3 : Bool) : ansX (z48i k s s' p p' n1 n2 n3) = some ((cond (n1 || (n2 || n3)) .ret .normal, [pt 0, pt 1, .bool false, cond (n1 || (n2 || n3)) undef (i3 0)], mI2 s s'),
    H.ldOk (.cells true s) 0 true 740 (.agg ⟨s⟩) :: sB12 20 [.agg ⟨s⟩] :: nt (B12 20 [.agg ⟨s⟩]) n1 :: cond n1 [] (H.ldOk (.cells true s') 0 true 740 (.agg ⟨s'⟩) :: sB12 20 [.agg ⟨s'⟩] :: nt (B12 20 [.agg ⟨s'⟩]) n2 :: cond n2 [] [H.ldOk (.cells true s) 739 false 1 (i3 p), H.ldOk (.cells true s') 739 false 1 (i3 p'), bn .lss 3 (i3 p) (i3 p') (.bool n3)])) ∧
    evenX (z48i k s s' p p' n1 n2 n3) := by
  cases n1 <;> cases n2 <;> cases n3 <;> exact ⟨by kernel_rfl, by unfold evenX; kernel_rfl⟩
noncomputable abbrev r48_9 : Code := .region 9 (regA (bodyOf Tryz.f48) 9) false
noncomputable abbrev r48_15 : Code := .region 15 (regA (bodyOf Tryz.f48) 15) false
theorem drop48_4 : (items (bodyOf Tryz.f48)).drop 4 = [.block 0 (.loop lb48a), r48_9, .block 2 (.loop lb48b), r48_15, .ret] := by kernel_rfl
theorem t48j (k : Nat) (i : Int) (x : Nat → Value) (M : Mem) : ansX (pcZ (hAt noAt) noA tn12 noQ (oTab tn12) Tryz.prog kp 0 k r48_9 50 ds4b (fullN 50 (up x (ds4a.zip [pt 0, pt 1, .bool false, i3 i]))) M) = some ((.normal, [pt 0, pt 1, .bool false, i3 0], M), []) ∧ evenX (pcZ (hAt noAt) noA tn12 noQ (oTab tn12) Tryz.prog kp 0 k r48_9 50 ds4b (fullN 50 (up x (ds4a.zip [pt 0, pt 1, .bool false, i3 i]))) M) := ⟨by kernel_rfl, by unfold evenX; kernel_rfl⟩
theorem t48k (k : Nat) (i : Int) (x : Nat → Value) (M : Mem) : ansX (pcZ (hAt noAt) noA tn12 noQ (oTab tn12) Tryz.prog kp 0 k (seqL [r48_15, .ret]) 50 [2, 4] (fullN 50 (up x (ds4b.zip [pt 0, pt 1, .bool false, i3 i]))) M) = some ((.ret, [pt 0, .bool true], M), []) ∧ evenX (pcZ (hAt noAt) noA tn12 noQ (oTab tn12) Tryz.prog kp 0 k (seqL [r48_15, .ret]) 50 [2, 4] (fullN 50 (up x (ds4b.zip [pt 0, pt 1, .bool false, i3 i]))) M) := ⟨by kernel_rfl, by unfold evenX; kernel_rfl⟩
end
end Go.Proofs.YtipdeijgaabobaaGreatDoor
/-
  FIn2: state.In, whole.
-/
namespace Go.Crt
open Go Go.DI
theorem allZ_zip {A B : Type} (f : A → B → Bool) : ∀ (l : List A) (m : List B), allZ f l m = (l.zip m).all fun p => f p.1 p.2
  | [], m => by cases m <;> rfl
  | a :: l, [] => rfl
  | a :: l, b :: m => by
    show (f a b && allZ f l m) = _
    rw [allZ_zip f l m, List.zip_cons_cons, List.all_cons]
end Go.Crt
namespace Go.Proofs.YtipdeijgaabobaaGreatDoor
open Go Go.DI Go.DI.Kit Go.Proofs Go.Crt
noncomputable section
abbrev fr4a (i : Nat) (x : Nat → Value) : Tmps := fullN 50 (up x (ds4a.zip [pt 0, pt 1, .bool false, i3 (i : Int)]))
abbrev fr4b (i : Nat) (x : Nat → Value) : Tmps := fullN 50 (up x (ds4b.zip [pt 0, pt 1, .bool false, i3 (i : Int)]))
theorem up_two {x : Nat → Value} {kn : List (Nat × Value)} {a b : Nat × Value} (h1 : up x kn a.1 = a.2) (h2 : up x kn b.1 = b.2) : up (up x kn) [a, b] = up x kn := up_self _ _ fun p hp => by
  rcases List.mem_cons.1 hp with rfl | hp
  · exact h1
  · rcases List.mem_cons.1 hp with rfl | hp
    · exact h2
    · cases hp
theorem fo4a (i : Nat) (x : Nat → Value) : fr4a i x = fullN 50 (up (up x (ds4a.zip [pt 0, pt 1, .bool false, i3 (i : Int)])) [(2, pt 0), (4, .bool false)]) := by
  rw [up_two rfl rfl]
theorem fo4b (i : Nat) (x : Nat → Value) : fr4b i x = fullN 50 (up (up x (ds4b.zip [pt 0, pt 1, .bool false, i3 (i : Int)])) [(2, pt 0), (4, .bool false)]) := by
  rw [up_two rfl rfl]
structure InM (M : Mem) (a b : Stt) : Prop where
  g0 : M.get 0 = .cells true (stC a)
  g1 : M.get 1 = .cells true (stC b)
theorem ia42 {b off i : Nat} (h : i < 11) : indexAddrD Tryz.prog 42 (po b off) (i3 (i : Int)) = some (po b (off + i * 9)) := by
  simp only [indexAddrD, und42, sz41]
  rw [if_pos (by omega), Int.toNat_natCast]
theorem ia45 {b off i : Nat} (h : i < 64) : indexAddrD Tryz.prog 45 (po b off) (i3 (i : Int)) = some (po b (off + i * 10)) := by
  simp only [indexAddrD, und45, sz44]
  rw [if_pos (by omega), Int.toNat_natCast]
theorem ld_ch {X : Type} {g : X → List Value} {z : Nat} (hz : ∀ x, (g x).length = z) {l : List X} {i : Nat} {x : X} (h : l[i]? = some x) {pre post : List Value} {own : Bool} {B : Blk} (hB : B = .cells own (pre ++ (l.flatMap g ++ post))) {off : Nat} (ho : off = pre.length + i * z) : H.ldOk B off true z (.agg ⟨g x⟩) := by
  subst hB ho
  have hi := (List.getElem?_eq_some_iff.1 h).1
  have hlen : (l.flatMap g).length = l.length * z := chunk_len hz l
  have hle : i * z + z ≤ l.length * z := by
    have : (i + 1) * z ≤ l.length * z := Nat.mul_le_mul_right z hi
    rw [Nat.add_mul, Nat.one_mul] at this
    exact this
  refine ⟨g x, ?_, rfl⟩
  show (if pre.length + i * z + z ≤ (pre ++ (l.flatMap g ++ post)).length then some (((pre ++ (l.flatMap g ++ post)).drop (pre.length + i * z)).take z) else none) = _
  rw [if_pos (by simp only [List.length_append, hlen]; omega), ← List.drop_drop, List.drop_left, List.drop_append_of_le_length (by rw [hlen]; omega), List.take_append_of_le_length (by rw [List.length_drop, hlen]; omega)]
  rw [chunk_take hz h]
theorem zip_get {A B : Type} {l : List A} {m : List B} {i : Nat} {p : A × B} (h : (l.zip m)[i]? = some p) : l[i]? = some p.1 ∧ m[i]? = some p.2 := by
  obtain ⟨a, b⟩ := p
  rw [List.getElem?_zip_eq_some] at h
  exact h
theorem turn4a {a b : Stt} (ha : a.Ok) (hb : b.Ok) (k : Nat) {i : Nat} {p : Rg × Rg} (y : Nat → Value) {M : Mem} (hi : (a.regs.zip b.regs)[i]? = some p) (hM : InM M a b) :
    ∃ y' M', M' = M ∧ codeD Tryz.prog kp 0 (oTab tn12) (drawD Tryz.prog kp 0 (oTab tn12) 50) 50 k lb48a (fr4a i y) M = cond (inR p.1 p.2) (some (.normal, fr4a (i + 1) y', M')) (some (.ret, fullN 50 (up y' [(2, pt 0), (4, .bool false)]), M')) := by
  obtain ⟨h1, h2⟩ := zip_get hi
  have hlt := (List.getElem?_eq_some_iff.1 h1).1
  rw [ha.regs] at hlt
  have hl := lt3 (i : Int) 11
  rw [decide_eq_true (show (i : Int) < 11 by omega)] at hl
  obtain ⟨y', h⟩ := pcZ_full (tells_tab tn12) set50 rfl (t48a k p.1 p.2 (0 + i * 9) (i : Int) true (!inR p.1 p.2) y M).1 (t48a k p.1 p.2 (0 + i * 9) (i : Int) true (!inR p.1 p.2) y M).2
    (cons_p hl (cons_p (ia42 hlt) (cons_p (ld_ch (pre := []) rgC_len h1 hM.g0 rfl) (cons_p (ia42 hlt) (cons_p (ld_ch (pre := []) rgC_len h2 hM.g1 rfl) (cons_p (said_B (tn12_90 _ _)) (cons_p (not_B (tn12_90 _ _)) (if_p (fun _ => nil_p) fun _ => one_p (add3 (by omega))))))))))
  cases hp : inR p.1 p.2 with
  | true =>
    rw [hp] at h
    exact ⟨y', M, rfl, h⟩
  | false =>
    rw [hp] at h
    exact ⟨_, M, rfl, h.trans (congrArg (fun f => some (Ex.ret, f, M)) (fo4a i y'))⟩
theorem turn4b {a b : Stt} (ha : a.Ok) (hb : b.Ok) (k : Nat) {i : Nat} {p : Sl × Sl} (y : Nat → Value) {M : Mem} (hi : (a.stack.zip b.stack)[i]? = some p) (hM : InM M a b) :
    ∃ y' M', M' = M ∧ codeD Tryz.prog kp 0 (oTab tn12) (drawD Tryz.prog kp 0 (oTab tn12) 50) 50 k lb48b (fr4b i y) M = cond (inSl p.1 p.2) (some (.normal, fr4b (i + 1) y', M')) (some (.ret, fullN 50 (up y' [(2, pt 0), (4, .bool false)]), M')) := by
  obtain ⟨h1, h2⟩ := zip_get hi
  have hlt := (List.getElem?_eq_some_iff.1 h1).1
  rw [ha.stack] at hlt
  have hl := lt3 (i : Int) 64
  rw [decide_eq_true (show (i : Int) < 64 by omega)] at hl
  obtain ⟨y', h⟩ := pcZ_full (tells_tab tn12) set50 rfl (t48b k p.1 p.2 (99 + i * 10) (i : Int) true (!inSl p.1 p.2) y M).1 (t48b k p.1 p.2 (99 + i * 10) (i : Int) true (!inSl p.1 p.2) y M).2
    (cons_p hl (cons_p (ia45 hlt) (cons_p (ld_ch slC_len h1 hM.g0 (by rw [regs_len ha])) (cons_p (ia45 hlt) (cons_p (ld_ch slC_len h2 hM.g1 (by rw [regs_len hb])) (cons_p (said_B (tn12_91 _ _)) (cons_p (not_B (tn12_91 _ _)) (if_p (fun _ => nil_p) fun _ => one_p (add3 (by omega))))))))))
  cases hp : inSl p.1 p.2 with
  | true =>
    rw [hp] at h
    exact ⟨y', M, rfl, h⟩
  | false =>
    rw [hp] at h
    exact ⟨_, M, rfl, h.trans (congrArg (fun f => some (Ex.ret, f, M)) (fo4b i y'))⟩
theorem stop4a (k : Nat) (y : Nat → Value) (M : Mem) : ∃ y', codeD Tryz.prog kp 0 (oTab tn12) (drawD Tryz.prog kp 0 (oTab tn12) 50) 50 k lb48a (fr4a 11 y) M = some (.exit 0, fr4a 11 y', M) := by
  have hl := lt3 ((11 : Nat) : Int) 11
  rw [decide_eq_false (by decide)] at hl
  exact pcZ_full (tells_tab tn12) set50 rfl (t48a k .zero .zero 0 ((11 : Nat) : Int) false false y M).1 (t48a k .zero .zero 0 ((11 : Nat) : Int) false false y M).2 (one_p hl)
theorem stop4b (k : Nat) (y : Nat → Value) (M : Mem) : ∃ y', codeD Tryz.prog kp 0 (oTab tn12) (drawD Tryz.prog kp 0 (oTab tn12) 50) 50 k lb48b (fr4b 64 y) M = some (.exit 2, fr4b 64 y', M) := by
  have hl := lt3 ((64 : Nat) : Int) 64
  rw [decide_eq_false (by decide)] at hl
  exact pcZ_full (tells_tab tn12) set50 rfl (t48b k ⟨0, .zero⟩ ⟨0, .zero⟩ 0 ((64 : Nat) : Int) false false y M).1 (t48b k ⟨0, .zero⟩ ⟨0, .zero⟩ 0 ((64 : Nat) : Int) false false y M).2 (one_p hl)
theorem zip_len {A B : Type} {l : List A} {m : List B} {n : Nat} (h1 : l.length = n) (h2 : m.length = n) : (l.zip m).length = n := by rw [List.length_zip, h1, h2, Nat.min_self]
theorem loop4a {a b : Stt} (ha : a.Ok) (hb : b.Ok) (k j : Nat) (hj : 12 ≤ j) (x : Nat → Value) {M : Mem} (hM : InM M a b) :
    ∃ x', loopD (codeD Tryz.prog kp 0 (oTab tn12) (drawD Tryz.prog kp 0 (oTab tn12) 50) 50 k lb48a) j (fr4a 0 x) M = cond (allZ inR a.regs b.regs) (some (.exit 0, fr4a 11 x', M)) (some (.ret, fullN 50 (up x' [(2, pt 0), (4, .bool false)]), M)) := by
  have hz := zip_len ha.regs hb.regs
  obtain ⟨x', M', rfl, h⟩ := list_loop (a.regs.zip b.regs) (fun p => inR p.1 p.2) (body := codeD Tryz.prog kp 0 (oTab tn12) (drawD Tryz.prog kp 0 (oTab tn12) 50) 50 k lb48a) fr4a (fun y => fullN 50 (up y [(2, pt 0), (4, .bool false)])) (fun M' => M' = M) 0
    (fun i r y M' hi hM' => by subst hM'; exact turn4a ha hb k y hi hM) (fun y M' _ => by rw [hz]; exact stop4a k y M') 11 0 x M j (by rw [hz]) (by omega) rfl
  rw [List.drop_zero, hz, ← allZ_zip] at h
  exact ⟨x', h⟩
theorem loop4b {a b : Stt} (ha : a.Ok) (hb : b.Ok) (k j : Nat) (hj : 65 ≤ j) (x : Nat → Value) {M : Mem} (hM : InM M a b) :
    ∃ x', loopD (codeD Tryz.prog kp 0 (oTab tn12) (drawD Tryz.prog kp 0 (oTab tn12) 50) 50 k lb48b) j (fr4b 0 x) M = cond (allZ inSl a.stack b.stack) (some (.exit 2, fr4b 64 x', M)) (some (.ret, fullN 50 (up x' [(2, pt 0), (4, .bool false)]), M)) := by
  have hz := zip_len ha.stack hb.stack
  obtain ⟨x', M', rfl, h⟩ := list_loop (a.stack.zip b.stack) (fun p => inSl p.1 p.2) (body := codeD Tryz.prog kp 0 (oTab tn12) (drawD Tryz.prog kp 0 (oTab tn12) 50) 50 k lb48b) fr4b (fun y => fullN 50 (up y [(2, pt 0), (4, .bool false)])) (fun M' => M' = M) 2
    (fun i r y M' hi hM' => by subst hM'; exact turn4b ha hb k y hi hM) (fun y M' _ => by rw [hz]; exact stop4b k y M') 64 0 x M j (by rw [hz]) (by omega) rfl
  rw [List.drop_zero, hz, ← allZ_zip] at h
  exact ⟨x', h⟩
theorem res48_r : Tryz.f48.results.toList = [.tmp 4] := by kernel_rfl
theorem fr48_4 (x : Nat → Value) (b : Bool) : (fullN 50 (up x [(2, pt 0), (4, .bool b)])).at 4 = .bool b := by kernel_rfl
theorem res48 (x : Nat → Value) (b : Bool) (M : Mem) : resD Tryz.prog (fullN 50 (up x [(2, pt 0), (4, .bool b)])) M Tryz.f48.results.toList = some [.bool b] := by
  rw [res48_r]; simp only [resD, fr48_4]
theorem fo4u (v : Value) (x : Nat → Value) : fullN 50 (up x (ds4a.zip [pt 0, pt 1, .bool false, v])) = fullN 50 (up (up x (ds4a.zip [pt 0, pt 1, .bool false, v])) [(2, pt 0), (4, .bool false)]) := by
  rw [up_two rfl rfl]
theorem inSt_run {a b : Stt} (ha : a.Ok) (hb : b.Ok) : ∃ (R : Orc) (M : Mem), (∀ B0, CfOK Tryz.prog B0 0 R) ∧ CfGrw R ∧ R 48 [stV a, stV b] m0 = some (.bool (inSt a b), M) := by
  have pack : ∀ {M : Mem}, bodyN Tryz.prog kp 0 (oTab tn12) 100 48 [stV a, stV b] m0 = some (.bool (inSt a b), M) → ∃ (R : Orc) (M : Mem), (∀ B0, CfOK Tryz.prog B0 0 R) ∧ CfGrw R ∧ R 48 [stV a, stV b] m0 = some (.bool (inSt a b), M) := fun h =>
    ⟨_, _, fun B0 => bodyN_ok hmix hK hng (oTab_ok tn12_ok B0 0) (oTab_grw tn12) 100, bodyN_grw (oTab_grw tn12) 100, h⟩
  have fin : ∀ {M : Mem} {x : Nat → Value} {z : Bool}, codeD Tryz.prog kp 0 (oTab tn12) (drawD Tryz.prog kp 0 (oTab tn12) 50) 50 100 (bodyOf Tryz.f48) (fullN 50 (argX [stV a, stV b])) m0 = some (.ret, fullN 50 (up x [(2, pt 0), (4, .bool z)]), M) → bodyN Tryz.prog kp 0 (oTab tn12) 100 48 [stV a, stV b] m0 = some (.bool z, M) := fun h =>
    bodyN_of (fnE 48 Tryz.f48) (by kernel_rfl) (by kernel_rfl) h (res48 _ _ _)
  have pk : ∀ {s : Stt}, s.Ok → H.ldOk (.cells true (stC s)) 739 false 1 (i3 s.pkt) := fun {s} hs => ld_cell (a := s.regs.flatMap rgC ++ s.stack.flatMap slC) (c := []) (by unfold stC; rw [List.append_assoc]) (by rw [List.length_append, regs_len hs, slots_len hs])
  obtain ⟨x1, h1⟩ := pcZ_full (tells_tab tn12) set50 rfl (t48i 100 (stC a) (stC b) a.pkt b.pkt (!maySt a) (!maySt b) (decide (a.pkt < b.pkt))).1 (t48i 100 (stC a) (stC b) a.pkt b.pkt (!maySt a) (!maySt b) (decide (a.pkt < b.pkt))).2
    (cons_p (ld_whole rfl (stC_len ha)) (cons_p (said_B (tn12_20 ha)) (cons_p (not_B (tn12_20 ha)) (if_p (fun _ => nil_p) fun _ => cons_p (ld_whole rfl (stC_len hb)) (cons_p (said_B (tn12_20 hb)) (cons_p (not_B (tn12_20 hb)) (if_p (fun _ => nil_p) fun _ => cons_p (pk ha) (cons_p (pk hb) (one_p (bin_ltI ..))))))))))
  have hM : InM (mI2 (stC a) (stC b)) a b := ⟨by kernel_rfl, by kernel_rfl⟩
  cases hc : (maySt a && maySt b && !decide (a.pkt < b.pkt)) with
  | false =>
    have e : (!maySt a || (!maySt b || decide (a.pkt < b.pkt))) = true := by
      revert hc; cases maySt a <;> cases maySt b <;> cases decide (a.pkt < b.pkt) <;> simp
    rw [e] at h1
    have h2 := codeD_cutE 4 (bodyOf Tryz.f48) (by simp) h1
    have e2 : inSt a b = false := by unfold inSt; rw [hc]; rfl
    rw [e2] at pack ⊢
    exact pack (fin (h2.trans (congrArg (fun f => some (Ex.ret, f, mI2 (stC a) (stC b))) (fo4u undef x1))))
  | true =>
    have e : (!maySt a || (!maySt b || decide (a.pkt < b.pkt))) = false := by
      revert hc; cases maySt a <;> cases maySt b <;> cases decide (a.pkt < b.pkt) <;> simp
    rw [e] at h1
    obtain ⟨x2, h2⟩ := loop4a ha hb 100 100 (by decide) x1 hM
    cases hA : allZ inR a.regs b.regs with
    | false =>
      rw [hA] at h2
      have h3 := code_loopE 4 (bodyOf Tryz.f48) drop48_4 h1 h2 (by simp) (by simp)
      have e2 : inSt a b = false := by unfold inSt; rw [hc, hA]; rfl
      rw [e2] at pack ⊢
      exact pack (fin h3)
    | true =>
      rw [hA] at h2
      have h3 := code_loop 4 (bodyOf Tryz.f48) drop48_4 h1 h2
      obtain ⟨x4, h4⟩ := pcZ_full (tells_tab tn12) set50 rfl (t48j 100 11 x2 (mI2 (stC a) (stC b))).1 (t48j 100 11 x2 (mI2 (stC a) (stC b))).2 nil_p
      obtain ⟨x5, h5⟩ := loop4b ha hb 100 100 (by decide) x4 hM
      have hcut := codeL_cut (P := Tryz.prog) (K := kp) (G := 0) (cf := oTab tn12) (N := 50) (k := 100) 1 [r48_9, .block 2 (.loop lb48b), r48_15, .ret] h4
      cases hB : allZ inSl a.stack b.stack with
      | false =>
        rw [hB] at h5
        have h6 : codeD Tryz.prog kp 0 (oTab tn12) (drawD Tryz.prog kp 0 (oTab tn12) 50) 50 100 (.block 2 (.loop lb48b)) (fr4b 0 x4) (mI2 (stC a) (stC b)) = some (.ret, fullN 50 (up x5 [(2, pt 0), (4, .bool false)]), mI2 (stC a) (stC b)) := by
          have h5' : codeD Tryz.prog kp 0 (oTab tn12) (drawD Tryz.prog kp 0 (oTab tn12) 50) 50 100 (.loop lb48b) (fr4b 0 x4) (mI2 (stC a) (stC b)) = some (.ret, fullN 50 (up x5 [(2, pt 0), (4, .bool false)]), mI2 (stC a) (stC b)) := h5
          rw [codeD, h5']
        have h7 := codeL_cutE (P := Tryz.prog) (K := kp) (G := 0) (cf := oTab tn12) (N := 50) (k := 100) (e := .ret) 1 [.block 2 (.loop lb48b), r48_15, .ret] (by simp) h6
        have e2 : inSt a b = false := by unfold inSt; rw [hc, hA, hB]; rfl
        rw [e2] at pack ⊢
        exact pack (fin (h3.trans (hcut.trans h7)))
      | true =>
        rw [hB] at h5
        have h6 : codeD Tryz.prog kp 0 (oTab tn12) (drawD Tryz.prog kp 0 (oTab tn12) 50) 50 100 (.block 2 (.loop lb48b)) (fr4b 0 x4) (mI2 (stC a) (stC b)) = some (.normal, fr4b 64 x5, mI2 (stC a) (stC b)) := by
          have h5' : codeD Tryz.prog kp 0 (oTab tn12) (drawD Tryz.prog kp 0 (oTab tn12) 50) 50 100 (.loop lb48b) (fr4b 0 x4) (mI2 (stC a) (stC b)) = some (.exit 2, fr4b 64 x5, mI2 (stC a) (stC b)) := h5
          rw [codeD, h5']
          rfl
        have h7 := codeL_cut (P := Tryz.prog) (K := kp) (G := 0) (cf := oTab tn12) (N := 50) (k := 100) 1 [.block 2 (.loop lb48b), r48_15, .ret] h6
        obtain ⟨x8, h8⟩ := pcZ_full (tells_tab tn12) set50 rfl (t48k 100 64 x5 (mI2 (stC a) (stC b))).1 (t48k 100 64 x5 (mI2 (stC a) (stC b))).2 nil_p
        have e2 : inSt a b = true := by unfold inSt; rw [hc, hA, hB]; rfl
        rw [e2] at pack ⊢
        exact pack (fin (h3.trans (hcut.trans (h7.trans h8))))
def tn13l : Tab := tabL [(48, askIn)]
def tn13 : Tab := tAlt tn13l tn12
theorem tn13_ok : TabOK Tryz.prog tn13 := tAlt_ok (tabL_cons (fun a v h => by
  unfold askIn at h
  split at h
  · obtain ⟨s, hs, rfl, h1⟩ := stD_some h
    obtain ⟨s', hs', rfl, h2⟩ := stD_some h1
    cases h2
    refine ⟨?_, rfl, inSt_run hs hs'⟩
    show (plain1 (stV s) && (plain1 (stV s') && true)) = true
    rw [Bool.and_true, show plain1 (stV s) = true from st_plain s, show plain1 (stV s') = true from st_plain s']; rfl
  · cases h) (tabL_nil _)) tn12_ok
end
end Go.Proofs.YtipdeijgaabobaaGreatDoor
/-
  VShape1: insn.Of, insn.Places and shape.alone on the forms of a table's code (printed by mkcheck.py).
-/
namespace Go.Proofs.YtipdeijgaabobaaGreatDoor
open Go Go.DI Go.DI.Kit Go.Proofs Go.Cmp
noncomputable section
noncomputable def gtr5 (x : Int) : Prop := binD Tryz.prog kp .gtr 5 (.int .u8 x) (.int .u8 10) = some (.bool false)
noncomputable def eql5 (x : Int) : Prop := binD Tryz.prog kp .eql 5 (.int .u8 x) (.int .u8 10) = some (.bool false)
noncomputable def hO (x y : List Value) : H.Hint where
  ix t := Nat.beq t 25
  ld _ _ _ := none
  cmp op t := cond (Nat.beq t 5) (BinOp.rec (motive := fun _ => Option Bool) none none none none none none none none none none none none none none none (some false) none op) none
  ap _ := none
  call _ := none
  spec _ _ _ _ := False
  blk := 0
  cmpY op t v := cond (Nat.beq t 5) (BinOp.rec (motive := fun _ => Option Bool) none none none none none none none none none none none (match v with | .int _ n => cond (Nat.beq n.toNat 10) (some false) none | _ => none) none none none none none op) none
  ldA a t := cond (Nat.beq t 24) (match a with | .tmp 13 => some (.agg ⟨x⟩) | .tmp 40 => some (.agg ⟨y⟩) | _ => none) none
  cmpO op t a := cond (Nat.beq t 3) (BinOp.rec (motive := fun _ => Option Bool) none none none none none none none none none none none (match a with | .tmp 33 => some false | _ => none) none none none none none op) none
noncomputable def ofR (f : FuncId) (x : List Value) : Option (H.TT (Value × Blk)) := H.callT (hO [] []) Tryz.prog kp 1 20 f [.agg ⟨x⟩] (mS gl []) fun v m => some ((v, m.get 0), [], [])
noncomputable def alR (own : Bool) (L x y : List Value) (k : Nat) (p : Int) : Option (H.TT (Value × Blk × Blk)) := H.callT (hO x y) Tryz.prog kp 1 20 67 [imgV (sliceN 1 k), .int .i64 p] (mS gl [.cells own L]) fun v m => some ((v, m.get 0, m.get 1), [], [])
noncomputable def ixP (p : Int) (k : Nat) : Prop := 0 ≤ p ∧ p < (k : Int)
noncomputable def ldP (L : List Value) (p : Int) (x : List Value) : Prop := H.ldOk (.cells true L) (Nat.add 0 (Nat.mul p.toNat 5)) true 5 (.agg ⟨x⟩)
noncomputable def eqNP (p : Int) (k : Nat) : Prop := binD Tryz.prog kp .eql 3 (.int .i64 (IntKind.wrap .i64 (Int.add p 1))) (.int .i64 (Int.ofNat k)) = some (.bool false)
theorem of_movI (d n : Int) : ansX (ofR 31 [.int .u8 183, .int .u8 d, .int .u8 0, .int .i16 0, .int .i32 n]) = some ((.tuple ⟨[.agg ⟨[.int .i64 1, .int .i64 11, .int .i64 0, .bool true, .bool false]⟩, .int .i64 0]⟩, .cells false gl), [gtr5 d, eql5 d]) ∧ evenX (ofR 31 [.int .u8 183, .int .u8 d, .int .u8 0, .int .i16 0, .int .i32 n]) := ⟨by kernel_rfl, by unfold evenX; kernel_rfl⟩
theorem pl_movI (d n : Int) : ansX (ofR 32 [.int .u8 183, .int .u8 d, .int .u8 0, .int .i16 0, .int .i32 n]) = some ((.int .i64 1, .cells false gl), [gtr5 d, eql5 d]) ∧ evenX (ofR 32 [.int .u8 183, .int .u8 d, .int .u8 0, .int .i16 0, .int .i32 n]) := ⟨by kernel_rfl, by unfold evenX; kernel_rfl⟩
theorem al_movI (d n : Int) (own : Bool) (L : List Value) (k : Nat) (p : Int) : ansX (alR own L [.int .u8 183, .int .u8 d, .int .u8 0, .int .i16 0, .int .i32 n] [] k p) = some ((.tuple ⟨[.agg ⟨[.int .i64 1, .int .i64 11, .int .i64 0, .bool true, .bool false]⟩, .int .i64 0]⟩, .cells false gl, .cells own L), ixP p k :: ldP L p [.int .u8 183, .int .u8 d, .int .u8 0, .int .i16 0, .int .i32 n] :: [gtr5 d, eql5 d]) ∧ evenX (alR own L [.int .u8 183, .int .u8 d, .int .u8 0, .int .i16 0, .int .i32 n] [] k p) := ⟨by kernel_rfl, by unfold evenX; kernel_rfl⟩
theorem of_andI (d n : Int) : ansX (ofR 31 [.int .u8 87, .int .u8 d, .int .u8 0, .int .i16 0, .int .i32 n]) = some ((.tuple ⟨[.agg ⟨[.int .i64 1, .int .i64 5, .int .i64 0, .bool true, .bool false]⟩, .int .i64 0]⟩, .cells false gl), [gtr5 d, eql5 d]) ∧ evenX (ofR 31 [.int .u8 87, .int .u8 d, .int .u8 0, .int .i16 0, .int .i32 n]) := ⟨by kernel_rfl, by unfold evenX; kernel_rfl⟩
theorem pl_andI (d n : Int) : ansX (ofR 32 [.int .u8 87, .int .u8 d, .int .u8 0, .int .i16 0, .int .i32 n]) = some ((.int .i64 1, .cells false gl), [gtr5 d, eql5 d]) ∧ evenX (ofR 32 [.int .u8 87, .int .u8 d, .int .u8 0, .int .i16 0, .int .i32 n]) := ⟨by kernel_rfl, by unfold evenX; kernel_rfl⟩
theorem al_andI (d n : Int) (own : Bool) (L : List Value) (k : Nat) (p : Int) : ansX (alR own L [.int .u8 87, .int .u8 d, .int .u8 0, .int .i16 0, .int .i32 n] [] k p) = some ((.tuple ⟨[.agg ⟨[.int .i64 1, .int .i64 5, .int .i64 0, .bool true, .bool false]⟩, .int .i64 0]⟩, .cells false gl, .cells own L), ixP p k :: ldP L p [.int .u8 87, .int .u8 d, .int .u8 0, .int .i16 0, .int .i32 n] :: [gtr5 d, eql5 d]) ∧ evenX (alR own L [.int .u8 87, .int .u8 d, .int .u8 0, .int .i16 0, .int .i32 n] [] k p) := ⟨by kernel_rfl, by unfold evenX; kernel_rfl⟩
theorem of_movR (d s : Int) : ansX (ofR 31 [.int .u8 191, .int .u8 d, .int .u8 s, .int .i16 0, .int .i32 0]) = some ((.tuple ⟨[.agg ⟨[.int .i64 1, .int .i64 11, .int .i64 0, .bool true, .bool true]⟩, .int .i64 0]⟩, .cells false gl), [gtr5 d, eql5 d, gtr5 s]) ∧ evenX (ofR 31 [.int .u8 191, .int .u8 d, .int .u8 s, .int .i16 0, .int .i32 0]) := ⟨by kernel_rfl, by unfold evenX; kernel_rfl⟩
theorem pl_movR (d s : Int) : ansX (ofR 32 [.int .u8 191, .int .u8 d, .int .u8 s, .int .i16 0, .int .i32 0]) = some ((.int .i64 1, .cells false gl), [gtr5 d, eql5 d, gtr5 s]) ∧ evenX (ofR 32 [.int .u8 191, .int .u8 d, .int .u8 s, .int .i16 0, .int .i32 0]) := ⟨by kernel_rfl, by unfold evenX; kernel_rfl⟩
theorem al_movR (d s : Int) (own : Bool) (L : List Value) (k : Nat) (p : Int) : ansX (alR own L [.int .u8 191, .int .u8 d, .int .u8 s, .int .i16 0, .int .i32 0] [] k p) = some ((.tuple ⟨[.agg ⟨[.int .i64 1, .int .i64 11, .int .i64 0, .bool true, .bool true]⟩, .int .i64 0]⟩, .cells false gl, .cells own L), ixP p k :: ldP L p [.int .u8 191, .int .u8 d, .int .u8 s, .int .i16 0, .int .i32 0] :: [gtr5 d, eql5 d, gtr5 s]) ∧ evenX (alR own L [.int .u8 191, .int .u8 d, .int .u8 s, .int .i16 0, .int .i32 0] [] k p) := ⟨by kernel_rfl, by unfold evenX; kernel_rfl⟩
theorem of_andR (d s : Int) : ansX (ofR 31 [.int .u8 95, .int .u8 d, .int .u8 s, .int .i16 0, .int .i32 0]) = some ((.tuple ⟨[.agg ⟨[.int .i64 1, .int .i64 5, .int .i64 0, .bool true, .bool true]⟩, .int .i64 0]⟩, .cells false gl), [gtr5 d, eql5 d, gtr5 s]) ∧ evenX (ofR 31 [.int .u8 95, .int .u8 d, .int .u8 s, .int .i16 0, .int .i32 0]) := ⟨by kernel_rfl, by unfold evenX; kernel_rfl⟩
theorem pl_andR (d s : Int) : ansX (ofR 32 [.int .u8 95, .int .u8 d, .int .u8 s, .int .i16 0, .int .i32 0]) = some ((.int .i64 1, .cells false gl), [gtr5 d, eql5 d, gtr5 s]) ∧ evenX (ofR 32 [.int .u8 95, .int .u8 d, .int .u8 s, .int .i16 0, .int .i32 0]) := ⟨by kernel_rfl, by unfold evenX; kernel_rfl⟩
theorem al_andR (d s : Int) (own : Bool) (L : List Value) (k : Nat) (p : Int) : ansX (alR own L [.int .u8 95, .int .u8 d, .int .u8 s, .int .i16 0, .int .i32 0] [] k p) = some ((.tuple ⟨[.agg ⟨[.int .i64 1, .int .i64 5, .int .i64 0, .bool true, .bool true]⟩, .int .i64 0]⟩, .cells false gl, .cells own L), ixP p k :: ldP L p [.int .u8 95, .int .u8 d, .int .u8 s, .int .i16 0, .int .i32 0] :: [gtr5 d, eql5 d, gtr5 s]) ∧ evenX (alR own L [.int .u8 95, .int .u8 d, .int .u8 s, .int .i16 0, .int .i32 0] [] k p) := ⟨by kernel_rfl, by unfold evenX; kernel_rfl⟩
theorem of_low (n : Int) : ansX (ofR 31 [.int .u8 180, .int .u8 0, .int .u8 0, .int .i16 0, .int .i32 n]) = some ((.tuple ⟨[.agg ⟨[.int .i64 1, .int .i64 11, .int .i64 0, .bool false, .bool false]⟩, .int .i64 0]⟩, .cells false gl), [gtr5 0, eql5 0]) ∧ evenX (ofR 31 [.int .u8 180, .int .u8 0, .int .u8 0, .int .i16 0, .int .i32 n]) := ⟨by kernel_rfl, by unfold evenX; kernel_rfl⟩
theorem pl_low (n : Int) : ansX (ofR 32 [.int .u8 180, .int .u8 0, .int .u8 0, .int .i16 0, .int .i32 n]) = some ((.int .i64 1, .cells false gl), [gtr5 0, eql5 0]) ∧ evenX (ofR 32 [.int .u8 180, .int .u8 0, .int .u8 0, .int .i16 0, .int .i32 n]) := ⟨by kernel_rfl, by unfold evenX; kernel_rfl⟩
theorem al_low (n : Int) (own : Bool) (L : List Value) (k : Nat) (p : Int) : ansX (alR own L [.int .u8 180, .int .u8 0, .int .u8 0, .int .i16 0, .int .i32 n] [] k p) = some ((.tuple ⟨[.agg ⟨[.int .i64 1, .int .i64 11, .int .i64 0, .bool false, .bool false]⟩, .int .i64 0]⟩, .cells false gl, .cells own L), ixP p k :: ldP L p [.int .u8 180, .int .u8 0, .int .u8 0, .int .i16 0, .int .i32 n] :: [gtr5 0, eql5 0]) ∧ evenX (alR own L [.int .u8 180, .int .u8 0, .int .u8 0, .int .i16 0, .int .i32 n] [] k p) := ⟨by kernel_rfl, by unfold evenX; kernel_rfl⟩
theorem of_exit  : ansX (ofR 31 [.int .u8 149, .int .u8 0, .int .u8 0, .int .i16 0, .int .i32 0]) = some ((.tuple ⟨[.agg ⟨[.int .i64 9, .int .i64 0, .int .i64 0, .bool false, .bool false]⟩, .int .i64 0]⟩, .cells false gl), []) ∧ evenX (ofR 31 [.int .u8 149, .int .u8 0, .int .u8 0, .int .i16 0, .int .i32 0]) := ⟨by kernel_rfl, by unfold evenX; kernel_rfl⟩
theorem pl_exit  : ansX (ofR 32 [.int .u8 149, .int .u8 0, .int .u8 0, .int .i16 0, .int .i32 0]) = some ((.int .i64 1, .cells false gl), []) ∧ evenX (ofR 32 [.int .u8 149, .int .u8 0, .int .u8 0, .int .i16 0, .int .i32 0]) := ⟨by kernel_rfl, by unfold evenX; kernel_rfl⟩
theorem al_exit  (own : Bool) (L : List Value) (k : Nat) (p : Int) : ansX (alR own L [.int .u8 149, .int .u8 0, .int .u8 0, .int .i16 0, .int .i32 0] [] k p) = some ((.tuple ⟨[.agg ⟨[.int .i64 9, .int .i64 0, .int .i64 0, .bool false, .bool false]⟩, .int .i64 0]⟩, .cells false gl, .cells own L), ixP p k :: ldP L p [.int .u8 149, .int .u8 0, .int .u8 0, .int .i16 0, .int .i32 0] :: []) ∧ evenX (alR own L [.int .u8 149, .int .u8 0, .int .u8 0, .int .i16 0, .int .i32 0] [] k p) := ⟨by kernel_rfl, by unfold evenX; kernel_rfl⟩
theorem of_load1 (d s o : Int) : ansX (ofR 31 [.int .u8 113, .int .u8 d, .int .u8 s, .int .i16 o, .int .i32 0]) = some ((.tuple ⟨[.agg ⟨[.int .i64 3, .int .i64 0, .int .i64 1, .bool false, .bool false]⟩, .int .i64 0]⟩, .cells false gl), [gtr5 d, eql5 d, gtr5 s]) ∧ evenX (ofR 31 [.int .u8 113, .int .u8 d, .int .u8 s, .int .i16 o, .int .i32 0]) := ⟨by kernel_rfl, by unfold evenX; kernel_rfl⟩
theorem pl_load1 (d s o : Int) : ansX (ofR 32 [.int .u8 113, .int .u8 d, .int .u8 s, .int .i16 o, .int .i32 0]) = some ((.int .i64 1, .cells false gl), [gtr5 d, eql5 d, gtr5 s]) ∧ evenX (ofR 32 [.int .u8 113, .int .u8 d, .int .u8 s, .int .i16 o, .int .i32 0]) := ⟨by kernel_rfl, by unfold evenX; kernel_rfl⟩
theorem al_load1 (d s o : Int) (own : Bool) (L : List Value) (k : Nat) (p : Int) : ansX (alR own L [.int .u8 113, .int .u8 d, .int .u8 s, .int .i16 o, .int .i32 0] [] k p) = some ((.tuple ⟨[.agg ⟨[.int .i64 3, .int .i64 0, .int .i64 1, .bool false, .bool false]⟩, .int .i64 0]⟩, .cells false gl, .cells own L), ixP p k :: ldP L p [.int .u8 113, .int .u8 d, .int .u8 s, .int .i16 o, .int .i32 0] :: [gtr5 d, eql5 d, gtr5 s]) ∧ evenX (alR own L [.int .u8 113, .int .u8 d, .int .u8 s, .int .i16 o, .int .i32 0] [] k p) := ⟨by kernel_rfl, by unfold evenX; kernel_rfl⟩
theorem of_load2 (d s o : Int) : ansX (ofR 31 [.int .u8 105, .int .u8 d, .int .u8 s, .int .i16 o, .int .i32 0]) = some ((.tuple ⟨[.agg ⟨[.int .i64 3, .int .i64 0, .int .i64 2, .bool false, .bool false]⟩, .int .i64 0]⟩, .cells false gl), [gtr5 d, eql5 d, gtr5 s]) ∧ evenX (ofR 31 [.int .u8 105, .int .u8 d, .int .u8 s, .int .i16 o, .int .i32 0]) := ⟨by kernel_rfl, by unfold evenX; kernel_rfl⟩
theorem pl_load2 (d s o : Int) : ansX (ofR 32 [.int .u8 105, .int .u8 d, .int .u8 s, .int .i16 o, .int .i32 0]) = some ((.int .i64 1, .cells false gl), [gtr5 d, eql5 d, gtr5 s]) ∧ evenX (ofR 32 [.int .u8 105, .int .u8 d, .int .u8 s, .int .i16 o, .int .i32 0]) := ⟨by kernel_rfl, by unfold evenX; kernel_rfl⟩
theorem al_load2 (d s o : Int) (own : Bool) (L : List Value) (k : Nat) (p : Int) : ansX (alR own L [.int .u8 105, .int .u8 d, .int .u8 s, .int .i16 o, .int .i32 0] [] k p) = some ((.tuple ⟨[.agg ⟨[.int .i64 3, .int .i64 0, .int .i64 2, .bool false, .bool false]⟩, .int .i64 0]⟩, .cells false gl, .cells own L), ixP p k :: ldP L p [.int .u8 105, .int .u8 d, .int .u8 s, .int .i16 o, .int .i32 0] :: [gtr5 d, eql5 d, gtr5 s]) ∧ evenX (alR own L [.int .u8 105, .int .u8 d, .int .u8 s, .int .i16 o, .int .i32 0] [] k p) := ⟨by kernel_rfl, by unfold evenX; kernel_rfl⟩
theorem of_load4 (d s o : Int) : ansX (ofR 31 [.int .u8 97, .int .u8 d, .int .u8 s, .int .i16 o, .int .i32 0]) = some ((.tuple ⟨[.agg ⟨[.int .i64 3, .int .i64 0, .int .i64 4, .bool false, .bool false]⟩, .int .i64 0]⟩, .cells false gl), [gtr5 d, eql5 d, gtr5 s]) ∧ evenX (ofR 31 [.int .u8 97, .int .u8 d, .int .u8 s, .int .i16 o, .int .i32 0]) := ⟨by kernel_rfl, by unfold evenX; kernel_rfl⟩
theorem pl_load4 (d s o : Int) : ansX (ofR 32 [.int .u8 97, .int .u8 d, .int .u8 s, .int .i16 o, .int .i32 0]) = some ((.int .i64 1, .cells false gl), [gtr5 d, eql5 d, gtr5 s]) ∧ evenX (ofR 32 [.int .u8 97, .int .u8 d, .int .u8 s, .int .i16 o, .int .i32 0]) := ⟨by kernel_rfl, by unfold evenX; kernel_rfl⟩
theorem al_load4 (d s o : Int) (own : Bool) (L : List Value) (k : Nat) (p : Int) : ansX (alR own L [.int .u8 97, .int .u8 d, .int .u8 s, .int .i16 o, .int .i32 0] [] k p) = some ((.tuple ⟨[.agg ⟨[.int .i64 3, .int .i64 0, .int .i64 4, .bool false, .bool false]⟩, .int .i64 0]⟩, .cells false gl, .cells own L), ixP p k :: ldP L p [.int .u8 97, .int .u8 d, .int .u8 s, .int .i16 o, .int .i32 0] :: [gtr5 d, eql5 d, gtr5 s]) ∧ evenX (alR own L [.int .u8 97, .int .u8 d, .int .u8 s, .int .i16 o, .int .i32 0] [] k p) := ⟨by kernel_rfl, by unfold evenX; kernel_rfl⟩
theorem of_load8 (d s o : Int) : ansX (ofR 31 [.int .u8 121, .int .u8 d, .int .u8 s, .int .i16 o, .int .i32 0]) = some ((.tuple ⟨[.agg ⟨[.int .i64 3, .int .i64 0, .int .i64 8, .bool false, .bool false]⟩, .int .i64 0]⟩, .cells false gl), [gtr5 d, eql5 d, gtr5 s]) ∧ evenX (ofR 31 [.int .u8 121, .int .u8 d, .int .u8 s, .int .i16 o, .int .i32 0]) := ⟨by kernel_rfl, by unfold evenX; kernel_rfl⟩
theorem pl_load8 (d s o : Int) : ansX (ofR 32 [.int .u8 121, .int .u8 d, .int .u8 s, .int .i16 o, .int .i32 0]) = some ((.int .i64 1, .cells false gl), [gtr5 d, eql5 d, gtr5 s]) ∧ evenX (ofR 32 [.int .u8 121, .int .u8 d, .int .u8 s, .int .i16 o, .int .i32 0]) := ⟨by kernel_rfl, by unfold evenX; kernel_rfl⟩
theorem al_load8 (d s o : Int) (own : Bool) (L : List Value) (k : Nat) (p : Int) : ansX (alR own L [.int .u8 121, .int .u8 d, .int .u8 s, .int .i16 o, .int .i32 0] [] k p) = some ((.tuple ⟨[.agg ⟨[.int .i64 3, .int .i64 0, .int .i64 8, .bool false, .bool false]⟩, .int .i64 0]⟩, .cells false gl, .cells own L), ixP p k :: ldP L p [.int .u8 121, .int .u8 d, .int .u8 s, .int .i16 o, .int .i32 0] :: [gtr5 d, eql5 d, gtr5 s]) ∧ evenX (alR own L [.int .u8 121, .int .u8 d, .int .u8 s, .int .i16 o, .int .i32 0] [] k p) := ⟨by kernel_rfl, by unfold evenX; kernel_rfl⟩
theorem of_swap2  : ansX (ofR 31 [.int .u8 215, .int .u8 2, .int .u8 0, .int .i16 0, .int .i32 16]) = some ((.tuple ⟨[.agg ⟨[.int .i64 2, .int .i64 0, .int .i64 2, .bool false, .bool false]⟩, .int .i64 0]⟩, .cells false gl), [gtr5 2, eql5 2]) ∧ evenX (ofR 31 [.int .u8 215, .int .u8 2, .int .u8 0, .int .i16 0, .int .i32 16]) := ⟨by kernel_rfl, by unfold evenX; kernel_rfl⟩
theorem pl_swap2  : ansX (ofR 32 [.int .u8 215, .int .u8 2, .int .u8 0, .int .i16 0, .int .i32 16]) = some ((.int .i64 1, .cells false gl), [gtr5 2, eql5 2]) ∧ evenX (ofR 32 [.int .u8 215, .int .u8 2, .int .u8 0, .int .i16 0, .int .i32 16]) := ⟨by kernel_rfl, by unfold evenX; kernel_rfl⟩
theorem al_swap2  (own : Bool) (L : List Value) (k : Nat) (p : Int) : ansX (alR own L [.int .u8 215, .int .u8 2, .int .u8 0, .int .i16 0, .int .i32 16] [] k p) = some ((.tuple ⟨[.agg ⟨[.int .i64 2, .int .i64 0, .int .i64 2, .bool false, .bool false]⟩, .int .i64 0]⟩, .cells false gl, .cells own L), ixP p k :: ldP L p [.int .u8 215, .int .u8 2, .int .u8 0, .int .i16 0, .int .i32 16] :: [gtr5 2, eql5 2]) ∧ evenX (alR own L [.int .u8 215, .int .u8 2, .int .u8 0, .int .i16 0, .int .i32 16] [] k p) := ⟨by kernel_rfl, by unfold evenX; kernel_rfl⟩
theorem of_swap4  : ansX (ofR 31 [.int .u8 215, .int .u8 2, .int .u8 0, .int .i16 0, .int .i32 32]) = some ((.tuple ⟨[.agg ⟨[.int .i64 2, .int .i64 0, .int .i64 4, .bool false, .bool false]⟩, .int .i64 0]⟩, .cells false gl), [gtr5 2, eql5 2]) ∧ evenX (ofR 31 [.int .u8 215, .int .u8 2, .int .u8 0, .int .i16 0, .int .i32 32]) := ⟨by kernel_rfl, by unfold evenX; kernel_rfl⟩
theorem pl_swap4  : ansX (ofR 32 [.int .u8 215, .int .u8 2, .int .u8 0, .int .i16 0, .int .i32 32]) = some ((.int .i64 1, .cells false gl), [gtr5 2, eql5 2]) ∧ evenX (ofR 32 [.int .u8 215, .int .u8 2, .int .u8 0, .int .i16 0, .int .i32 32]) := ⟨by kernel_rfl, by unfold evenX; kernel_rfl⟩
theorem al_swap4  (own : Bool) (L : List Value) (k : Nat) (p : Int) : ansX (alR own L [.int .u8 215, .int .u8 2, .int .u8 0, .int .i16 0, .int .i32 32] [] k p) = some ((.tuple ⟨[.agg ⟨[.int .i64 2, .int .i64 0, .int .i64 4, .bool false, .bool false]⟩, .int .i64 0]⟩, .cells false gl, .cells own L), ixP p k :: ldP L p [.int .u8 215, .int .u8 2, .int .u8 0, .int .i16 0, .int .i32 32] :: [gtr5 2, eql5 2]) ∧ evenX (alR own L [.int .u8 215, .int .u8 2, .int .u8 0, .int .i16 0, .int .i32 32] [] k p) := ⟨by kernel_rfl, by unfold evenX; kernel_rfl⟩
theorem of_swap8  : ansX (ofR 31 [.int .u8 215, .int .u8 2, .int .u8 0, .int .i16 0, .int .i32 64]) = some ((.tuple ⟨[.agg ⟨[.int .i64 2, .int .i64 0, .int .i64 8, .bool false, .bool false]⟩, .int .i64 0]⟩, .cells false gl), [gtr5 2, eql5 2]) ∧ evenX (ofR 31 [.int .u8 215, .int .u8 2, .int .u8 0, .int .i16 0, .int .i32 64]) := ⟨by kernel_rfl, by unfold evenX; kernel_rfl⟩
theorem pl_swap8  : ansX (ofR 32 [.int .u8 215, .int .u8 2, .int .u8 0, .int .i16 0, .int .i32 64]) = some ((.int .i64 1, .cells false gl), [gtr5 2, eql5 2]) ∧ evenX (ofR 32 [.int .u8 215, .int .u8 2, .int .u8 0, .int .i16 0, .int .i32 64]) := ⟨by kernel_rfl, by unfold evenX; kernel_rfl⟩
theorem al_swap8  (own : Bool) (L : List Value) (k : Nat) (p : Int) : ansX (alR own L [.int .u8 215, .int .u8 2, .int .u8 0, .int .i16 0, .int .i32 64] [] k p) = some ((.tuple ⟨[.agg ⟨[.int .i64 2, .int .i64 0, .int .i64 8, .bool false, .bool false]⟩, .int .i64 0]⟩, .cells false gl, .cells own L), ixP p k :: ldP L p [.int .u8 215, .int .u8 2, .int .u8 0, .int .i16 0, .int .i32 64] :: [gtr5 2, eql5 2]) ∧ evenX (alR own L [.int .u8 215, .int .u8 2, .int .u8 0, .int .i16 0, .int .i32 64] [] k p) := ⟨by kernel_rfl, by unfold evenX; kernel_rfl⟩
theorem of_jif3 (d o n : Int) : ansX (ofR 31 [.int .u8 53, .int .u8 d, .int .u8 0, .int .i16 o, .int .i32 n]) = some ((.tuple ⟨[.agg ⟨[.int .i64 6, .int .i64 3, .int .i64 0, .bool true, .bool false]⟩, .int .i64 0]⟩, .cells false gl), [gtr5 d]) ∧ evenX (ofR 31 [.int .u8 53, .int .u8 d, .int .u8 0, .int .i16 o, .int .i32 n]) := ⟨by kernel_rfl, by unfold evenX; kernel_rfl⟩
theorem pl_jif3 (d o n : Int) : ansX (ofR 32 [.int .u8 53, .int .u8 d, .int .u8 0, .int .i16 o, .int .i32 n]) = some ((.int .i64 1, .cells false gl), [gtr5 d]) ∧ evenX (ofR 32 [.int .u8 53, .int .u8 d, .int .u8 0, .int .i16 o, .int .i32 n]) := ⟨by kernel_rfl, by unfold evenX; kernel_rfl⟩
theorem al_jif3 (d o n : Int) (own : Bool) (L : List Value) (k : Nat) (p : Int) : ansX (alR own L [.int .u8 53, .int .u8 d, .int .u8 0, .int .i16 o, .int .i32 n] [] k p) = some ((.tuple ⟨[.agg ⟨[.int .i64 6, .int .i64 3, .int .i64 0, .bool true, .bool false]⟩, .int .i64 0]⟩, .cells false gl, .cells own L), ixP p k :: ldP L p [.int .u8 53, .int .u8 d, .int .u8 0, .int .i16 o, .int .i32 n] :: [gtr5 d]) ∧ evenX (alR own L [.int .u8 53, .int .u8 d, .int .u8 0, .int .i16 o, .int .i32 n] [] k p) := ⟨by kernel_rfl, by unfold evenX; kernel_rfl⟩
theorem of_jif5 (d o n : Int) : ansX (ofR 31 [.int .u8 85, .int .u8 d, .int .u8 0, .int .i16 o, .int .i32 n]) = some ((.tuple ⟨[.agg ⟨[.int .i64 6, .int .i64 5, .int .i64 0, .bool true, .bool false]⟩, .int .i64 0]⟩, .cells false gl), [gtr5 d]) ∧ evenX (ofR 31 [.int .u8 85, .int .u8 d, .int .u8 0, .int .i16 o, .int .i32 n]) := ⟨by kernel_rfl, by unfold evenX; kernel_rfl⟩
theorem pl_jif5 (d o n : Int) : ansX (ofR 32 [.int .u8 85, .int .u8 d, .int .u8 0, .int .i16 o, .int .i32 n]) = some ((.int .i64 1, .cells false gl), [gtr5 d]) ∧ evenX (ofR 32 [.int .u8 85, .int .u8 d, .int .u8 0, .int .i16 o, .int .i32 n]) := ⟨by kernel_rfl, by unfold evenX; kernel_rfl⟩
theorem al_jif5 (d o n : Int) (own : Bool) (L : List Value) (k : Nat) (p : Int) : ansX (alR own L [.int .u8 85, .int .u8 d, .int .u8 0, .int .i16 o, .int .i32 n] [] k p) = some ((.tuple ⟨[.agg ⟨[.int .i64 6, .int .i64 5, .int .i64 0, .bool true, .bool false]⟩, .int .i64 0]⟩, .cells false gl, .cells own L), ixP p k :: ldP L p [.int .u8 85, .int .u8 d, .int .u8 0, .int .i16 o, .int .i32 n] :: [gtr5 d]) ∧ evenX (alR own L [.int .u8 85, .int .u8 d, .int .u8 0, .int .i16 o, .int .i32 n] [] k p) := ⟨by kernel_rfl, by unfold evenX; kernel_rfl⟩
theorem of_jif10 (d o n : Int) : ansX (ofR 31 [.int .u8 165, .int .u8 d, .int .u8 0, .int .i16 o, .int .i32 n]) = some ((.tuple ⟨[.agg ⟨[.int .i64 6, .int .i64 10, .int .i64 0, .bool true, .bool false]⟩, .int .i64 0]⟩, .cells false gl), [gtr5 d]) ∧ evenX (ofR 31 [.int .u8 165, .int .u8 d, .int .u8 0, .int .i16 o, .int .i32 n]) := ⟨by kernel_rfl, by unfold evenX; kernel_rfl⟩
theorem pl_jif10 (d o n : Int) : ansX (ofR 32 [.int .u8 165, .int .u8 d, .int .u8 0, .int .i16 o, .int .i32 n]) = some ((.int .i64 1, .cells false gl), [gtr5 d]) ∧ evenX (ofR 32 [.int .u8 165, .int .u8 d, .int .u8 0, .int .i16 o, .int .i32 n]) := ⟨by kernel_rfl, by unfold evenX; kernel_rfl⟩
theorem al_jif10 (d o n : Int) (own : Bool) (L : List Value) (k : Nat) (p : Int) : ansX (alR own L [.int .u8 165, .int .u8 d, .int .u8 0, .int .i16 o, .int .i32 n] [] k p) = some ((.tuple ⟨[.agg ⟨[.int .i64 6, .int .i64 10, .int .i64 0, .bool true, .bool false]⟩, .int .i64 0]⟩, .cells false gl, .cells own L), ixP p k :: ldP L p [.int .u8 165, .int .u8 d, .int .u8 0, .int .i16 o, .int .i32 n] :: [gtr5 d]) ∧ evenX (alR own L [.int .u8 165, .int .u8 d, .int .u8 0, .int .i16 o, .int .i32 n] [] k p) := ⟨by kernel_rfl, by unfold evenX; kernel_rfl⟩
theorem of_jif2 (d o n : Int) : ansX (ofR 31 [.int .u8 37, .int .u8 d, .int .u8 0, .int .i16 o, .int .i32 n]) = some ((.tuple ⟨[.agg ⟨[.int .i64 6, .int .i64 2, .int .i64 0, .bool true, .bool false]⟩, .int .i64 0]⟩, .cells false gl), [gtr5 d]) ∧ evenX (ofR 31 [.int .u8 37, .int .u8 d, .int .u8 0, .int .i16 o, .int .i32 n]) := ⟨by kernel_rfl, by unfold evenX; kernel_rfl⟩
theorem pl_jif2 (d o n : Int) : ansX (ofR 32 [.int .u8 37, .int .u8 d, .int .u8 0, .int .i16 o, .int .i32 n]) = some ((.int .i64 1, .cells false gl), [gtr5 d]) ∧ evenX (ofR 32 [.int .u8 37, .int .u8 d, .int .u8 0, .int .i16 o, .int .i32 n]) := ⟨by kernel_rfl, by unfold evenX; kernel_rfl⟩
theorem al_jif2 (d o n : Int) (own : Bool) (L : List Value) (k : Nat) (p : Int) : ansX (alR own L [.int .u8 37, .int .u8 d, .int .u8 0, .int .i16 o, .int .i32 n] [] k p) = some ((.tuple ⟨[.agg ⟨[.int .i64 6, .int .i64 2, .int .i64 0, .bool true, .bool false]⟩, .int .i64 0]⟩, .cells false gl, .cells own L), ixP p k :: ldP L p [.int .u8 37, .int .u8 d, .int .u8 0, .int .i16 o, .int .i32 n] :: [gtr5 d]) ∧ evenX (alR own L [.int .u8 37, .int .u8 d, .int .u8 0, .int .i16 o, .int .i32 n] [] k p) := ⟨by kernel_rfl, by unfold evenX; kernel_rfl⟩
theorem of_jif1 (d o n : Int) : ansX (ofR 31 [.int .u8 21, .int .u8 d, .int .u8 0, .int .i16 o, .int .i32 n]) = some ((.tuple ⟨[.agg ⟨[.int .i64 6, .int .i64 1, .int .i64 0, .bool true, .bool false]⟩, .int .i64 0]⟩, .cells false gl), [gtr5 d]) ∧ evenX (ofR 31 [.int .u8 21, .int .u8 d, .int .u8 0, .int .i16 o, .int .i32 n]) := ⟨by kernel_rfl, by unfold evenX; kernel_rfl⟩
theorem pl_jif1 (d o n : Int) : ansX (ofR 32 [.int .u8 21, .int .u8 d, .int .u8 0, .int .i16 o, .int .i32 n]) = some ((.int .i64 1, .cells false gl), [gtr5 d]) ∧ evenX (ofR 32 [.int .u8 21, .int .u8 d, .int .u8 0, .int .i16 o, .int .i32 n]) := ⟨by kernel_rfl, by unfold evenX; kernel_rfl⟩
theorem al_jif1 (d o n : Int) (own : Bool) (L : List Value) (k : Nat) (p : Int) : ansX (alR own L [.int .u8 21, .int .u8 d, .int .u8 0, .int .i16 o, .int .i32 n] [] k p) = some ((.tuple ⟨[.agg ⟨[.int .i64 6, .int .i64 1, .int .i64 0, .bool true, .bool false]⟩, .int .i64 0]⟩, .cells false gl, .cells own L), ixP p k :: ldP L p [.int .u8 21, .int .u8 d, .int .u8 0, .int .i16 o, .int .i32 n] :: [gtr5 d]) ∧ evenX (alR own L [.int .u8 21, .int .u8 d, .int .u8 0, .int .i16 o, .int .i32 n] [] k p) := ⟨by kernel_rfl, by unfold evenX; kernel_rfl⟩
theorem of_jifR10 (o : Int) : ansX (ofR 31 [.int .u8 173, .int .u8 2, .int .u8 3, .int .i16 o, .int .i32 0]) = some ((.tuple ⟨[.agg ⟨[.int .i64 6, .int .i64 10, .int .i64 0, .bool true, .bool true]⟩, .int .i64 0]⟩, .cells false gl), [gtr5 2, gtr5 3]) ∧ evenX (ofR 31 [.int .u8 173, .int .u8 2, .int .u8 3, .int .i16 o, .int .i32 0]) := ⟨by kernel_rfl, by unfold evenX; kernel_rfl⟩
theorem pl_jifR10 (o : Int) : ansX (ofR 32 [.int .u8 173, .int .u8 2, .int .u8 3, .int .i16 o, .int .i32 0]) = some ((.int .i64 1, .cells false gl), [gtr5 2, gtr5 3]) ∧ evenX (ofR 32 [.int .u8 173, .int .u8 2, .int .u8 3, .int .i16 o, .int .i32 0]) := ⟨by kernel_rfl, by unfold evenX; kernel_rfl⟩
theorem al_jifR10 (o : Int) (own : Bool) (L : List Value) (k : Nat) (p : Int) : ansX (alR own L [.int .u8 173, .int .u8 2, .int .u8 3, .int .i16 o, .int .i32 0] [] k p) = some ((.tuple ⟨[.agg ⟨[.int .i64 6, .int .i64 10, .int .i64 0, .bool true, .bool true]⟩, .int .i64 0]⟩, .cells false gl, .cells own L), ixP p k :: ldP L p [.int .u8 173, .int .u8 2, .int .u8 3, .int .i16 o, .int .i32 0] :: [gtr5 2, gtr5 3]) ∧ evenX (alR own L [.int .u8 173, .int .u8 2, .int .u8 3, .int .i16 o, .int .i32 0] [] k p) := ⟨by kernel_rfl, by unfold evenX; kernel_rfl⟩
theorem of_jifR2 (o : Int) : ansX (ofR 31 [.int .u8 45, .int .u8 2, .int .u8 3, .int .i16 o, .int .i32 0]) = some ((.tuple ⟨[.agg ⟨[.int .i64 6, .int .i64 2, .int .i64 0, .bool true, .bool true]⟩, .int .i64 0]⟩, .cells false gl), [gtr5 2, gtr5 3]) ∧ evenX (ofR 31 [.int .u8 45, .int .u8 2, .int .u8 3, .int .i16 o, .int .i32 0]) := ⟨by kernel_rfl, by unfold evenX; kernel_rfl⟩
theorem pl_jifR2 (o : Int) : ansX (ofR 32 [.int .u8 45, .int .u8 2, .int .u8 3, .int .i16 o, .int .i32 0]) = some ((.int .i64 1, .cells false gl), [gtr5 2, gtr5 3]) ∧ evenX (ofR 32 [.int .u8 45, .int .u8 2, .int .u8 3, .int .i16 o, .int .i32 0]) := ⟨by kernel_rfl, by unfold evenX; kernel_rfl⟩
theorem al_jifR2 (o : Int) (own : Bool) (L : List Value) (k : Nat) (p : Int) : ansX (alR own L [.int .u8 45, .int .u8 2, .int .u8 3, .int .i16 o, .int .i32 0] [] k p) = some ((.tuple ⟨[.agg ⟨[.int .i64 6, .int .i64 2, .int .i64 0, .bool true, .bool true]⟩, .int .i64 0]⟩, .cells false gl, .cells own L), ixP p k :: ldP L p [.int .u8 45, .int .u8 2, .int .u8 3, .int .i16 o, .int .i32 0] :: [gtr5 2, gtr5 3]) ∧ evenX (alR own L [.int .u8 45, .int .u8 2, .int .u8 3, .int .i16 o, .int .i32 0] [] k p) := ⟨by kernel_rfl, by unfold evenX; kernel_rfl⟩
theorem of_goto (o : Int) : ansX (ofR 31 [.int .u8 5, .int .u8 0, .int .u8 0, .int .i16 o, .int .i32 0]) = some ((.tuple ⟨[.agg ⟨[.int .i64 7, .int .i64 0, .int .i64 0, .bool false, .bool false]⟩, .int .i64 0]⟩, .cells false gl), []) ∧ evenX (ofR 31 [.int .u8 5, .int .u8 0, .int .u8 0, .int .i16 o, .int .i32 0]) := ⟨by kernel_rfl, by unfold evenX; kernel_rfl⟩
theorem pl_goto (o : Int) : ansX (ofR 32 [.int .u8 5, .int .u8 0, .int .u8 0, .int .i16 o, .int .i32 0]) = some ((.int .i64 1, .cells false gl), []) ∧ evenX (ofR 32 [.int .u8 5, .int .u8 0, .int .u8 0, .int .i16 o, .int .i32 0]) := ⟨by kernel_rfl, by unfold evenX; kernel_rfl⟩
theorem al_goto (o : Int) (own : Bool) (L : List Value) (k : Nat) (p : Int) : ansX (alR own L [.int .u8 5, .int .u8 0, .int .u8 0, .int .i16 o, .int .i32 0] [] k p) = some ((.tuple ⟨[.agg ⟨[.int .i64 7, .int .i64 0, .int .i64 0, .bool false, .bool false]⟩, .int .i64 0]⟩, .cells false gl, .cells own L), ixP p k :: ldP L p [.int .u8 5, .int .u8 0, .int .u8 0, .int .i16 o, .int .i32 0] :: []) ∧ evenX (alR own L [.int .u8 5, .int .u8 0, .int .u8 0, .int .i16 o, .int .i32 0] [] k p) := ⟨by kernel_rfl, by unfold evenX; kernel_rfl⟩
theorem of_const (n : Int) : ansX (ofR 31 [.int .u8 24, .int .u8 3, .int .u8 0, .int .i16 0, .int .i32 n]) = some ((.tuple ⟨[.agg ⟨[.int .i64 10, .int .i64 0, .int .i64 0, .bool false, .bool false]⟩, .int .i64 0]⟩, .cells false gl), [gtr5 3, eql5 3]) ∧ evenX (ofR 31 [.int .u8 24, .int .u8 3, .int .u8 0, .int .i16 0, .int .i32 n]) := ⟨by kernel_rfl, by unfold evenX; kernel_rfl⟩
theorem pl_const (n : Int) : ansX (ofR 32 [.int .u8 24, .int .u8 3, .int .u8 0, .int .i16 0, .int .i32 n]) = some ((.int .i64 2, .cells false gl), [gtr5 3, eql5 3]) ∧ evenX (ofR 32 [.int .u8 24, .int .u8 3, .int .u8 0, .int .i16 0, .int .i32 n]) := ⟨by kernel_rfl, by unfold evenX; kernel_rfl⟩
theorem al_const (n : Int) (h : Int) (own : Bool) (L : List Value) (k : Nat) (p : Int) : ansX (alR own L [.int .u8 24, .int .u8 3, .int .u8 0, .int .i16 0, .int .i32 n] [.int .u8 0, .int .u8 0, .int .u8 0, .int .i16 0, .int .i32 h] k p) = some ((.tuple ⟨[.agg ⟨[.int .i64 10, .int .i64 0, .int .i64 0, .bool false, .bool false]⟩, .int .i64 0]⟩, .cells false gl, .cells own L), ixP p k :: ldP L p [.int .u8 24, .int .u8 3, .int .u8 0, .int .i16 0, .int .i32 n] :: ([gtr5 3, eql5 3] ++ [eqNP p k, ixP (IntKind.wrap .i64 (Int.add p 1)) k, ldP L (IntKind.wrap .i64 (Int.add p 1)) [.int .u8 0, .int .u8 0, .int .u8 0, .int .i16 0, .int .i32 h]])) ∧ evenX (alR own L [.int .u8 24, .int .u8 3, .int .u8 0, .int .i16 0, .int .i32 n] [.int .u8 0, .int .u8 0, .int .u8 0, .int .i16 0, .int .i32 h] k p) := ⟨by kernel_rfl, by unfold evenX; kernel_rfl⟩
end
end Go.Proofs.YtipdeijgaabobaaGreatDoor
