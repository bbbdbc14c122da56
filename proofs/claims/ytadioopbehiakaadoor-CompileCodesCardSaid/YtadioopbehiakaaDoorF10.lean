/-
  CSpec2: the program's way of settling: the jumps to a label, one by one.
-/
import Derived.Test.YtadioopbehiakaaDoorF09
import Derived.Test.YtadioopbehiakaaDoorChecked
set_option linter.all false
set_option linter.unusedVariables false
set_option linter.unusedSimpArgs false
namespace Go.Cmp
open Go Go.DI
def modA (c : List Ins) (p : Nat) (f : Ins → Ins) : List Ins := match c, p with
  | [], _ => []
  | x :: c, 0 => f x :: c
  | x :: c, p + 1 => x :: modA c p f
theorem modA_length (f : Ins → Ins) : ∀ (c : List Ins) (p : Nat), (modA c p f).length = c.length
  | [], _ => rfl
  | x :: c, 0 => rfl
  | x :: c, p + 1 => by simp [modA, modA_length f c p]
def settleS (q n : Nat) : List Nat → List Ins → List Ins
  | [], c => c
  | p :: J, c => settleS q n J (modA c (p - n) (goS q p))
theorem settleS_tail (q n : Nat) (x : Ins) : ∀ (J : List Nat) (c : List Ins), (∀ p ∈ J, n + 1 ≤ p) → settleS q n J (x :: c) = x :: settleS q (n + 1) J c
  | [], c, _ => rfl
  | p :: J, c, h => by
    have hp := h p (by simp)
    simp only [settleS]
    obtain ⟨d, hd⟩ : ∃ d, p - n = d + 1 := ⟨p - n - 1, by omega⟩
    rw [hd, show p - (n + 1) = d by omega]
    simp only [modA]
    exact settleS_tail q n x J _ fun p hp => h p (by simp [hp])
theorem jumpsS_ge (l : Nat) : ∀ (a : List RowS) (n : Nat), ∀ p ∈ jumpsS l a n, n ≤ p
  | [], n, p, h => by simp [jumpsS] at h
  | r :: a, n, p, h => by
    simp only [jumpsS] at h
    split at h
    · exact jumpsS_ge l a n p h
    · rcases List.mem_append.1 h with h | h
      · split at h
        · simp at h; omega
        · simp at h
      · have := jumpsS_ge l a (n + 1) p h; omega
theorem jumpsS_lt (l : Nat) : ∀ (a : List RowS) (n : Nat), ∀ p ∈ jumpsS l a n, p < n + cnt a
  | [], n, p, h => by simp [jumpsS] at h
  | r :: a, n, p, h => by
    simp only [jumpsS] at h
    simp only [cnt]
    split at h
    · rename_i hl
      rw [if_pos hl]
      exact jumpsS_lt l a n p h
    · rename_i hl
      rw [if_neg hl]
      rcases List.mem_append.1 h with h | h
      · split at h
        · simp at h; omega
        · simp at h
      · have := jumpsS_lt l a (n + 1) p h; omega
def setF (f : Nat → Option Nat) (l q : Nat) : Nat → Option Nat := fun j => if j = l then some q else f j
theorem settle_all (f : Nat → Option Nat) (l q : Nat) (hl : 0 < l) : ∀ (a : List RowS) (n : Nat), settleS q n (jumpsS l a n) (outGo f a n) = outGo (setF f l q) a n
  | [], n => rfl
  | r :: a, n => by
    simp only [jumpsS, outGo]
    split
    · exact settle_all f l q hl a n
    · have ih := settle_all f l q hl a (n + 1)
      have hge := jumpsS_ge l a (n + 1)
      by_cases ht : r.to = l
      · rw [if_pos ht]
        simp only [List.cons_append, List.nil_append, settleS, Nat.sub_self, modA]
        rw [settleS_tail q n _ _ _ hge, ih]
        congr 1
        have h0 : 0 < r.to := by omega
        simp only [h0, if_true, setF, ht, hl]
        cases f l <;> rfl
      · rw [if_neg ht]
        simp only [List.nil_append]
        rw [settleS_tail q n _ _ _ hge, ih]
        congr 1
        by_cases h0 : 0 < r.to
        · simp [h0, setF, ht]
        · simp [h0]
theorem outGo_same (f g : Nat → Option Nat) : ∀ (a : List RowS) (n : Nat), (∀ r ∈ a, isLab r = false → 0 < r.to → f r.to = g r.to) → outGo f a n = outGo g a n
  | [], n, _ => rfl
  | r :: a, n, h => by
    simp only [outGo]
    split
    · exact outGo_same f g a n fun r hr => h r (by simp [hr])
    · rename_i hl
      rw [outGo_same f g a (n + 1) fun r hr => h r (by simp [hr])]
      congr 2
      by_cases h0 : 0 < r.to
      · rw [if_pos h0, if_pos h0, h r (by simp) (by simpa using hl) h0]
      · rw [if_neg h0, if_neg h0]
/-! ### cells -/
def codeC (c : List Ins) : List Value := c.flatMap insC
theorem insC_len (x : Ins) : (insC x).length = 5 := rfl
theorem insC_one (x : Ins) : (insC x).all one = true := rfl
theorem codeC_len : ∀ c : List Ins, (codeC c).length = c.length * 5
  | [] => rfl
  | x :: c => by
    have ih := codeC_len c
    simp only [codeC] at ih
    simp only [codeC, List.flatMap_cons, List.length_append, ih, insC_len, List.length_cons]
    omega
theorem codeC_one : ∀ c : List Ins, (codeC c).all one = true
  | [] => rfl
  | x :: c => by
    show (insC x ++ codeC c).all one = true
    rw [List.all_append, insC_one, codeC_one c]; rfl
theorem codeC_append (a b : List Ins) : codeC (a ++ b) = codeC a ++ codeC b := by unfold codeC; rw [List.flatMap_append]
theorem codeC_mod (q : Nat) : ∀ (c : List Ins) (p n : Nat), p < c.length → splice (codeC c) (p * 5 + 3) [.int .i16 (w16 ((q : Int) - n - 1))] = codeC (modA c p (goS q n))
  | [], p, n, h => by simp at h
  | x :: c, 0, n, h => by
    show splice (insC x ++ codeC c) 3 _ = insC (goS q n x) ++ codeC c
    rfl
  | x :: c, p + 1, n, h => by
    have ih := codeC_mod q c p n (by simpa using h)
    have e : (p + 1) * 5 + 3 = (insC x).length + (p * 5 + 3) := by rw [insC_len]; omega
    show splice (insC x ++ codeC c) _ _ = insC x ++ codeC (modA c p (goS q n))
    rw [← ih, e]
    unfold splice
    rw [List.take_length_add_append, show (insC x).length + (p * 5 + 3) + [Value.int .i16 (w16 ((q : Int) - n - 1))].length = (insC x).length + (p * 5 + 3 + [Value.int .i16 (w16 ((q : Int) - n - 1))].length) by omega, List.drop_length_add_append, List.append_assoc]
end Go.Cmp
namespace Go.Proofs.YtadioopbehiakaaDoor
open Go Go.DI Go.DI.Kit Go.Proofs Go.Cmp
noncomputable section
def kp : TypeId → Bool := among [41, 42, 84, 85, 95]
theorem hmix : Tryd.prog.follows .mixedOrders = true := by kernel_rfl
theorem hK : Plain Tryd.prog kp := plain_among (by kernel_rfl)
theorem hng : NoNG Tryd.prog := noNG_of (by kernel_rfl)
def gl : List Value := [.int .i64 4, .int .i64 2, .int .i64 1, .int .i64 8]
theorem free_gl : ∀ x ∈ gl, Free x := by
  intro x hx
  simp only [gl, List.mem_cons, List.not_mem_nil, or_false] at hx
  rcases hx with h | h | h | h <;> (rw [h]; exact free_int _ _)
def testC (t : TestT) : List Value := [.bool t.neg, .int .i64 t.kind, .int .i64 t.pos, .int .i64 t.size, .int .u64 t.mask, .int .u64 t.lo, .int .u64 t.hi]
end
end Go.Proofs.YtadioopbehiakaaDoor
namespace Go.DI
namespace Kit
noncomputable section
variable {α : Type}
def callKo (is : FuncId → List Value → Bool) (oc : Y.CF α) (P : Program) (K : TypeId → Bool) (G : Nat) (k : Nat) : Y.CF α :=
  Nat.rec (motive := fun _ => Y.CF α) (fun _ _ _ _ => none) (fun k ih f args m q => cond (is f args) (oc f args m q) (Option.rec (motive := fun _ => Option α) none (fun fn => Option.rec (motive := fun _ => Option α) none (fun c => Y.runF P K G k ih fn c args m q) fn.body) P.funcs[f]?)) k
theorem callKo_eq (is : FuncId → List Value → Bool) (oc : Y.CF α) (o : Orc) (h1 : ∀ f a m (q : Value → Mem → Option α), is f a = true → (∃ r, o f a m = some r) ∧ oc f a m q = onV (o f a m) q) (h2 : ∀ f a m, is f a = false → o f a m = none) (P : Program) (K : TypeId → Bool) (G : Nat) :
    ∀ (k : Nat) (f : FuncId) (args : List Value) (m : Mem) (q : Value → Mem → Option α), callKo is oc P K G k f args m q = onV (callO P K G o k f args m) q
  | 0, _, _, _, _ => rfl
  | k + 1, f, args, m, q => by
    have ih := callKo_eq is oc o h1 h2 P K G k
    simp only [callO]
    show cond (is f args) (oc f args m q) (Option.rec (motive := fun _ => Option α) none (fun fn => Option.rec (motive := fun _ => Option α) none (fun c => Y.runF P K G k (callKo is oc P K G k) fn c args m q) fn.body) P.funcs[f]?) = _
    cases hi : is f args with
    | true =>
      obtain ⟨⟨r, hr⟩, ho⟩ := h1 f args m q hi
      simp only [cond_true]
      rw [ho, hr]
    | false =>
      rw [h2 f args m hi]
      simp only [cond_false, bodyD]
      cases P.funcs[f]? with
      | none => rfl
      | some fn =>
        simp only
        cases hb : fn.body with
        | none => rfl
        | some c =>
          simp only [Y.runF, Y.initF_eq, Y.codeF_eq P K G (callKo is oc P K G k) (callO P K G o k) ih (fun body _ k t m q => Y.loopF body k t m q) _ k (fun body c t m q hb => Y.loopF_eq hb k t m q), Y.resF_eq]
          cases codeD P K G (callO P K G o k) (drawD P K G (callO P K G o k) (max args.length fn.ntmps)) (max args.length fn.ntmps) k c (initT 0 args) m with
          | none => rfl
          | some r =>
            obtain ⟨e, t', m'⟩ := r
            cases e with
            | normal =>
              simp only [Y.onE]
              cases resD P t' m' fn.results.toList <;> rfl
            | exit id => rfl
            | ret =>
              simp only [Y.onE]
              cases resD P t' m' fn.results.toList <;> rfl
end
end Kit
end Go.DI
namespace Go.DI
namespace Kit
noncomputable section
section
variable {P : Program} {K : TypeId → Bool} {gl : List Value}
end
end
end Kit
end Go.DI
namespace Go.DI
namespace Kit
noncomputable section
variable {α : Type}
def regOps (id : Nat) : Code → List Oper
  | .region i ops _ => cond (Nat.beq i id) ops.toList []
  | .seq a b => match regOps id a with | [] => regOps id b | l => l
  | .cond _ a b => match regOps id a with | [] => regOps id b | l => l
  | .block _ c => regOps id c
  | .loop c => regOps id c
  | _ => []
theorem recF_opsF (P : Program) (K : TypeId → Bool) (G : Nat) (cf : Y.CF α) (n : Nat) (ops : List Oper) (q : Tmps → Mem → Option α) : ∀ (l : List Oper) (t : Tmps) (m : Mem) (q' : List Rec → Tmps → Mem → Option α), (∀ rs t m, q' rs t m = q t m) → Y.recF l P K G cf n ops t m q' = Y.opsF l P K G cf n ops t m q
  | [], t, m, q', h => h [] t m
  | o :: l, t, m, q', h => by
    have ih := recF_opsF P K G cf n ops q l
    show Bool.rec (motive := fun _ => Option α) none (Bool.rec (motive := fun _ => Option α) (Y.putOF t o.dst undef fun t' => Y.recF l P K G cf n ops t' m fun rs t' m'' => q' (⟨false, undef, t, m⟩ :: rs) t' m'')
      (Y.opF o.op P K G cf t m fun v m' => Y.putOF t o.dst v fun t' => Y.recF l P K G cf n ops t' m' fun rs t' m'' => q' (⟨true, v, t, m⟩ :: rs) t' m'') (Y.wantF o ops t)) (Y.dstF n o.dst)
      = Bool.rec (motive := fun _ => Option α) none (Bool.rec (motive := fun _ => Option α) (Y.putOF t o.dst undef fun t' => Y.opsF l P K G cf n ops t' m q)
      (Y.opF o.op P K G cf t m fun v m' => Y.putOF t o.dst v fun t' => Y.opsF l P K G cf n ops t' m' q) (Y.wantF o ops t)) (Y.dstF n o.dst)
    have e1 : (fun t' => Y.recF l P K G cf n ops t' m fun rs t' m'' => q' (⟨false, undef, t, m⟩ :: rs) t' m'') = fun t' => Y.opsF l P K G cf n ops t' m q := funext fun t' => ih _ _ _ fun rs t m => h _ t m
    have e2 : (fun v m' => Y.putOF t o.dst v fun t' => Y.recF l P K G cf n ops t' m' fun rs t' m'' => q' (⟨true, v, t, m⟩ :: rs) t' m'') = fun v m' => Y.putOF t o.dst v fun t' => Y.opsF l P K G cf n ops t' m' q := by
      funext v m'
      congr 1
      funext t'
      exact ih _ _ _ fun rs t m => h _ t m
    rw [e1, e2]
def calmB (ops : List Oper) : Bool := statT ops && (need1F ops).isEmpty && (need2F ops).isEmpty
theorem drawF_plain {P : Program} {K : TypeId → Bool} {G : Nat} {cf : Y.CF α} {n : Nat} {ops : List Oper} (h : calmB ops = true) (t : Tmps) (m : Mem) (q : Tmps → Mem → Option α) : Y.drawF P K G cf n ops t m q = Y.opsF ops P K G cf n ops t m q := by
  simp only [calmB, Bool.and_eq_true, List.isEmpty_iff] at h
  obtain ⟨⟨h1, h2⟩, h3⟩ := h
  unfold Y.drawF
  rw [h1, h2, h3]
  exact recF_opsF P K G cf n ops q ops t m _ fun _ _ _ => rfl
def calm (s : List Nat) : Code → Code
  | .region i ops d => cond (s.any (Nat.beq i) && calmB ops.toList) (.region i ops false) (.region i ops d)
  | .seq a b => .seq (calm s a) (calm s b)
  | .cond c a b => .cond c (calm s a) (calm s b)
  | .block j c => .block j (calm s c)
  | c => c
def fitC : Code → Bool
  | .region _ _ _ => true
  | .seq a b => fitC a && fitC b
  | .cond _ a b => fitC a && fitC b
  | .block _ c => fitC c
  | .loop _ => true
  | .skip => true
  | .exit _ => true
  | .ret => true
  | _ => false
theorem calm_eq (s : List Nat) (P : Program) (K : TypeId → Bool) (G : Nat) (cf : Y.CF α) (L : Y.LK α) (n k : Nat) : ∀ (c : Code), fitC c = true → ∀ (t : Tmps) (m : Mem) (q : Y.ExK α), Y.codeF c P K G cf L n k t m q = Y.codeF (calm s c) P K G cf L n k t m q := by
  intro c
  induction c with
  | skip => intros; rfl
  | exit => intros; rfl
  | ret => intros; rfl
  | region i ops d =>
    intro _ t m q
    unfold calm
    cases hb : s.any (Nat.beq i) && calmB ops.toList with
    | false => rfl
    | true =>
      simp only [Bool.and_eq_true] at hb
      cases d with
      | false => rfl
      | true => exact drawF_plain hb.2 t m _
  | seq a b ia ib =>
    intro h t m q
    simp only [fitC, Bool.and_eq_true] at h
    refine (ia h.1 ..).trans ?_
    show _ = Y.codeF (calm s a) P K G cf L n k t m fun e t m => Ex.rec (motive := fun _ => Option α) (Y.codeF (calm s b) P K G cf L n k t m q) (fun id => q (.exit id) t m) (q .ret t m) e
    congr 1
    funext e t m
    cases e with
    | normal => exact ib h.2 ..
    | exit => rfl
    | ret => rfl
  | cond c a b ia ib =>
    intro h t m q
    simp only [fitC, Bool.and_eq_true] at h
    show Y.evF c G t (fun v => Y.asBool v (Y.codeF a P K G cf L n k t m q) (Y.codeF b P K G cf L n k t m q)) = Y.evF c G t (fun v => Y.asBool v (Y.codeF (calm s a) P K G cf L n k t m q) (Y.codeF (calm s b) P K G cf L n k t m q))
    rw [ia h.1, ib h.2]
  | block j c ic =>
    intro h t m q
    simp only [fitC] at h
    exact ic h ..
  | loop c ic => intros; rfl
  | _ => intro h; cases h
end
end Kit
end Go.DI
namespace Go.Proofs.YtadioopbehiakaaDoor
open Go Go.DI Go.DI.Kit Go.Proofs Go.Cmp
noncomputable section
end
end Go.Proofs.YtadioopbehiakaaDoor
namespace Go.Proofs.YtadioopbehiakaaDoor
open Go Go.DI Go.DI.Kit Go.Proofs Go.Cmp
noncomputable section
set_option maxHeartbeats 4000000
variable {α : Type} (x : Nat → Value) (cf : Y.CF α) (L : Y.LK α) (k : Nat) (m : Mem)
def c35 : Code := markS [1, 2] (calm [2] (bodyOf Tryd.f35))
def r35 : List Oper := regOps 2 (bodyOf Tryd.f35)
def r35a : List Oper := regOps 1 (bodyOf Tryd.f35)
def c37 : Code := markS [1] (calm [1] (bodyOf Tryd.f37))
def r37 : List Oper := regOps 1 (bodyOf Tryd.f37)
def c42 : Code := markS [1] (bodyOf Tryd.f42)
def r42 : List Oper := regOps 1 (bodyOf Tryd.f42)
def c46 : Code := markS [1, 2] (calm [2] (bodyOf Tryd.f46))
def r46 : List Oper := regOps 2 (bodyOf Tryd.f46)
def r46a : List Oper := regOps 1 (bodyOf Tryd.f46)
def c50 : Code := markS [1] (bodyOf Tryd.f50)
def r50 : List Oper := regOps 1 (bodyOf Tryd.f50)
def c33 : Code := markS [0] (bodyOf Tryd.f33)
def r33 : List Oper := regOps 0 (bodyOf Tryd.f33)
theorem t_putA (mp : Nat) (wc wo ws : Int) (ww wr : Bool) (io id is iof im : Int) (q : Value → Mem → Option α) : Y.codeF c35 Tryd.prog kp 1 (Y.cfT Tryd.prog cf) L 24 k (fullN 24 (argX [.pointer (some ⟨mp,0,none⟩),.agg ⟨[.int .i64 wc,.int .i64 wo,.int .i64 ws,.bool ww,.bool wr]⟩,.agg ⟨[.int .u8 io,.int .u8 id,.int .u8 is,.int .i16 iof,.int .i32 im]⟩])) m (Y.retF Tryd.prog Tryd.f35 q) =
  (L (Y.codeF (Y.loopC c35 0) Tryd.prog kp 1 (Y.cfT Tryd.prog cf) L 24 k) (Y.loopC c35 0) k (fullN 24 (up (up Go.DI.x0 [(2,(.agg ⟨[(.int .u8 io),(.int .u8 id),(.int .u8 is),(.int Go.IntKind.i16 iof),(.int Go.IntKind.i32 im)]⟩)),(1,(.agg ⟨[(.int .i64 wc),(.int .i64 wo),(.int .i64 ws),(.bool ww),(.bool wr)]⟩))]) [(0,(.pointer (some (Addr.mk mp 0 none)))),(4,(.pointer (some (Addr.mk (Mem.size m) 0 none)))),(5,(.pointer (some (Addr.mk (Nat.succ (Mem.size m)) 0 none))))])) (Mem.push (Mem.push m (.cells true [(.int .i64 wc),(.int .i64 wo),(.int .i64 ws),(.bool ww),(.bool wr)])) (.cells true [(.int .u8 io),(.int .u8 id),(.int .u8 is),(.int Go.IntKind.i16 iof),(.int Go.IntKind.i32 im)])) (Y.kont Tryd.prog kp 1 (Y.cfT Tryd.prog cf) L 24 k c35 0 (Y.retF Tryd.prog Tryd.f35 q))):=by kernel_rfl
theorem t_putP (mp b4 b5 : Nat) (q : Tmps → Mem → Option α) : Y.opsF (List.take 7 r35a) Tryd.prog kp 1 (Y.cfT Tryd.prog cf) 24 r35a (fullN 24 (up x [(0,.pointer (some ⟨mp,0,none⟩)),(4,.pointer (some ⟨b4,0,none⟩)),(5,.pointer (some ⟨b5,0,none⟩))])) m q =
  (Y.cellsOf (Mem.get m b4) (fun _ c_9=>(cond (Nat.ble 5 (Y.lenLF c_9)) (Y.cellsOf (Mem.get m b5) (fun _ c_11=>(cond (Nat.ble 5 (Y.lenLF c_11)) (cf 52 [(.agg ⟨(Y.subL c_9 0 5)⟩),(.agg ⟨(Y.subL c_11 0 5)⟩)] m (fun v_12 m'_13=>(Y.asTup v_12 (fun cs_14=>(Y.unc (Array.toList cs_14) (fun a l=>(Y.asAgg a (fun cs_18=>(Y.unc l (fun a_10 l_11=>(Y.asInt a_10 (fun k'_22 n_23=>(cond (Y.kEq .i64 k'_22) (Y.unc l_11 (fun a_14 l_15=>none) (q (fullN 24 (up (up x [(8,(.tuple ⟨[(.agg cs_18),(.int .i64 n_23)]⟩)),(4,(.pointer (some (Addr.mk b4 0 none)))),(10,(.agg ⟨(Y.subL c_11 0 5)⟩)),(9,(.agg ⟨(Y.subL c_9 0 5)⟩)),(5,(.pointer (some (Addr.mk b5 0 none)))),(11,(.tuple ⟨[(.agg cs_18),(.int .i64 n_23)]⟩))]) [(0,(.pointer (some (Addr.mk mp 0 none)))),(6,(.pointer (some (Addr.mk (Mem.size m'_13) 0 none)))),(12,(.agg cs_18)),(13,(.int .i64 n_23))])) (Mem.push m'_13 (.cells true [(.int .u8 (0:Int)),(.int .u8 (0:Int)),(.int .u8 (0:Int)),(.int Go.IntKind.i16 (0:Int)),(.int Go.IntKind.i32 (0:Int))])))) none)) none)) none)) none)) none))))) none))) none))):=by kernel_rfl
theorem t_putJ (mp b6 : Nat) (q : Value → Mem → Option α) : Y.kont Tryd.prog kp 1 (Y.cfT Tryd.prog cf) L 24 k c35 0 (Y.retF Tryd.prog Tryd.f35 q) .normal (fullN 24 (up x [(0,.pointer (some ⟨mp,0,none⟩)),(6,.pointer (some ⟨b6,0,none⟩))])) m =
  (L (Y.codeF (Y.loopC c35 1) Tryd.prog kp 1 (Y.cfT Tryd.prog cf) L 24 k) (Y.loopC c35 1) k (fullN 24 (up x [(0,(.pointer (some (Addr.mk mp 0 none)))),(6,(.pointer (some (Addr.mk b6 0 none))))])) m (Y.kont Tryd.prog kp 1 (Y.cfT Tryd.prog cf) L 24 k c35 1 (Y.retF Tryd.prog Tryd.f35 q))):=by kernel_rfl
theorem t_putB (mp b6 : Nat) (q : Tmps → Mem → Option α) : Y.opsF (List.take 6 r35) Tryd.prog kp 1 (Y.cfT Tryd.prog cf) 24 r35 (fullN 24 (up x [(0,.pointer (some ⟨mp,0,none⟩)),(6,.pointer (some ⟨b6,0,none⟩))])) m q =
  (Y.cellsOf (Mem.get m mp) (fun _ c_8=>(Option.elim (Y.nthL c_8 0) none (fun o9=>(Y.asSl o9 (fun a_10 n_11 c_12=>(Y.cellsOf (Mem.get m b6) (fun _ c_14=>(cond (Nat.ble 5 (Y.lenLF c_14)) (q (fullN 24 (up (up x [(16,(.pointer (some (Addr.mk mp 0 none)))),(6,(.pointer (some (Addr.mk b6 0 none)))),(17,(.pointer (some (Addr.mk mp 0 none)))),(15,(.pointer (some (Addr.mk mp 0 none))))]) [(0,(.pointer (some (Addr.mk mp 0 none)))),(14,(.pointer (some (Addr.mk mp 0 none)))),(18,(.slice a_10 n_11 c_12)),(19,(.agg ⟨(Y.subL c_14 0 5)⟩))])) m) none)))) none))))):=by kernel_rfl
theorem t_putB2 (mp : Nat) (v18 : Value) (io id is iof im : Int) (q : Tmps → Mem → Option α) : Y.opsF (List.take 1 (List.drop 6 r35)) Tryd.prog kp 1 (Y.cfT Tryd.prog cf) 24 r35 (fullN 24 (up x [(0,.pointer (some ⟨mp,0,none⟩)),(14,.pointer (some ⟨mp,0,none⟩)),(18,v18),(19,.agg ⟨[.int .u8 io,.int .u8 id,.int .u8 is,.int .i16 iof,.int .i32 im]⟩)])) m q =
  (q (fullN 24 (up (up x [(19,(.agg ⟨[(.int .u8 io),(.int .u8 id),(.int .u8 is),(.int Go.IntKind.i16 iof),(.int Go.IntKind.i32 im)]⟩))]) [(0,(.pointer (some (Addr.mk mp 0 none)))),(14,(.pointer (some (Addr.mk mp 0 none)))),(18,v18),(20,(.slice (some (Addr.mk (Mem.size m) 0 none)) 1 1))])) (Mem.push m (.cells true [(.int .u8 io),(.int .u8 id),(.int .u8 is),(.int Go.IntKind.i16 iof),(.int Go.IntKind.i32 im)]))):=by kernel_rfl
theorem t_putK (v0 : Value) (q : Value → Mem → Option α) : Y.kont Tryd.prog kp 1 (Y.cfT Tryd.prog cf) L 24 k c35 1 (Y.retF Tryd.prog Tryd.f35 q) .normal (fullN 24 (up x [(0,v0)])) m =
  (q (.tuple ⟨[]⟩) m):=by kernel_rfl
theorem t_jumpA (mp lp : Nat) (wc wo ws : Int) (ww wr : Bool) (io id is iof im : Int) (q : Value → Mem → Option α) : Y.codeF c37 Tryd.prog kp 1 (Y.cfT Tryd.prog cf) L 26 k (fullN 26 (argX [.pointer (some ⟨mp,0,none⟩),.agg ⟨[.int .i64 wc,.int .i64 wo,.int .i64 ws,.bool ww,.bool wr]⟩,.agg ⟨[.int .u8 io,.int .u8 id,.int .u8 is,.int .i16 iof,.int .i32 im]⟩,.pointer (some ⟨lp,0,none⟩)])) m (Y.retF Tryd.prog Tryd.f37 q) =
  (L (Y.codeF (Y.loopC c37 0) Tryd.prog kp 1 (Y.cfT Tryd.prog cf) L 26 k) (Y.loopC c37 0) k (fullN 26 (up (up Go.DI.x0 [(2,(.agg ⟨[(.int .u8 io),(.int .u8 id),(.int .u8 is),(.int Go.IntKind.i16 iof),(.int Go.IntKind.i32 im)]⟩)),(1,(.agg ⟨[(.int .i64 wc),(.int .i64 wo),(.int .i64 ws),(.bool ww),(.bool wr)]⟩))]) [(0,(.pointer (some (Addr.mk mp 0 none)))),(3,(.pointer (some (Addr.mk lp 0 none)))),(5,(.pointer (some (Addr.mk (Mem.size m) 0 none)))),(6,(.pointer (some (Addr.mk (Nat.succ (Mem.size m)) 0 none))))])) (Mem.push (Mem.push m (.cells true [(.int .i64 wc),(.int .i64 wo),(.int .i64 ws),(.bool ww),(.bool wr)])) (.cells true [(.int .u8 io),(.int .u8 id),(.int .u8 is),(.int Go.IntKind.i16 iof),(.int Go.IntKind.i32 im)])) (Y.kont Tryd.prog kp 1 (Y.cfT Tryd.prog cf) L 26 k c37 0 (Y.retF Tryd.prog Tryd.f37 q))):=by kernel_rfl
theorem t_jumpB (mp lp b5 b6 : Nat) (q : Tmps → Mem → Option α) : Y.opsF (List.take 11 r37) Tryd.prog kp 1 (Y.cfT Tryd.prog cf) 26 r37 (fullN 26 (up x [(0,.pointer (some ⟨mp,0,none⟩)),(3,.pointer (some ⟨lp,0,none⟩)),(5,.pointer (some ⟨b5,0,none⟩)),(6,.pointer (some ⟨b6,0,none⟩))])) m q =
  (Y.cellsOf (Mem.get m lp) (fun _ c_10=>(Option.elim (Y.nthL c_10 1) none (fun o11=>(Y.asSl o11 (fun a_12 n_13 c_14=>(Y.cellsOf (Mem.get m mp) (fun _ c_16=>(Option.elim (Y.nthL c_16 0) none (fun o17=>(Y.asSl o17 (fun a_18 n_19 c_20=>(q (fullN 26 (up (up x [(16,(.slice a_18 n_19 c_20)),(10,(.pointer (some (Addr.mk lp 0 none)))),(14,(.pointer (some (Addr.mk mp 0 none)))),(17,(.int .i64 (Int.ofNat n_19))),(9,(.pointer (some (Addr.mk lp 0 none)))),(13,(.pointer (some (Addr.mk mp 0 none)))),(3,(.pointer (some (Addr.mk lp 0 none)))),(11,(.pointer (some (Addr.mk lp 1 none)))),(15,(.pointer (some (Addr.mk mp 0 none))))]) [(0,(.pointer (some (Addr.mk mp 0 none)))),(5,(.pointer (some (Addr.mk b5 0 none)))),(6,(.pointer (some (Addr.mk b6 0 none)))),(8,(.pointer (some (Addr.mk lp 0 none)))),(12,(.slice a_12 n_13 c_14)),(18,(.slice (some (Addr.mk (Mem.size m) 0 none)) 1 1))])) (Mem.push m (.cells true [(.int .i64 (Int.ofNat n_19))])))) none)))))) none))))):=by kernel_rfl
theorem t_jumpK (mp b5 b6 : Nat) (q : Value → Mem → Option α) : Y.kont Tryd.prog kp 1 (Y.cfT Tryd.prog cf) L 26 k c37 0 (Y.retF Tryd.prog Tryd.f37 q) .normal (fullN 26 (up x [(0,.pointer (some ⟨mp,0,none⟩)),(5,.pointer (some ⟨b5,0,none⟩)),(6,.pointer (some ⟨b6,0,none⟩))])) m =
  (Y.cellsOf (Mem.get m b5) (fun _ c_11=>(cond (Nat.ble 5 (Y.lenLF c_11)) (Y.cellsOf (Mem.get m b6) (fun _ c_13=>(cond (Nat.ble 5 (Y.lenLF c_13)) (cf 35 [(.pointer (some (Addr.mk mp 0 none))),(.agg ⟨(Y.subL c_11 0 5)⟩),(.agg ⟨(Y.subL c_13 0 5)⟩)] m (fun v_14 m'_15=>(q (.tuple ⟨[]⟩) m'_15))) none))) none))):=by kernel_rfl
theorem t_konA (mp : Nat) (d n : Int) (q : Value → Mem → Option α) : Y.codeF c42 Tryd.prog kp 1 (Y.cfT Tryd.prog cf) L 28 k (fullN 28 (argX [.pointer (some ⟨mp,0,none⟩),.int .u8 d,.int .u64 n])) m (Y.retF Tryd.prog Tryd.f42 q) =
  (cf 35 [(.pointer (some (Addr.mk mp 0 none))),(.agg ⟨[(.int .i64 (10 : Int)),(.int .i64 (0:Int)),(.int .i64 (0:Int)),(.bool false),(.bool false)]⟩),(.agg ⟨[(.int .u8 (0:Int)),(.int .u8 d),(.int .u8 (0:Int)),(.int Go.IntKind.i16 (0:Int)),(.int Go.IntKind.i32 (IntKind.wrap Go.IntKind.i32 (IntKind.wrap Go.IntKind.u32 n)))]⟩)] m (fun v_9 m'_10=>(L (Y.codeF (Y.loopC c42 0) Tryd.prog kp 1 (Y.cfT Tryd.prog cf) L 28 k) (Y.loopC c42 0) k (fullN 28 (up (up Go.DI.x0 [(8,(.int .u8 d)),(12,(.agg ⟨[(.int .u8 (0:Int)),(.int .u8 d),(.int .u8 (0:Int)),(.int Go.IntKind.i16 (0:Int)),(.int Go.IntKind.i32 (IntKind.wrap Go.IntKind.i32 (IntKind.wrap Go.IntKind.u32 n)))]⟩)),(10,(.int Go.IntKind.u32 (IntKind.wrap Go.IntKind.u32 n))),(6,(.pointer (some (Addr.mk mp 0 none)))),(1,(.int .u8 d)),(9,(.int .u64 n)),(13,v_9),(11,(.int Go.IntKind.i32 (IntKind.wrap Go.IntKind.i32 (IntKind.wrap Go.IntKind.u32 n)))),(7,(.agg ⟨[(.int .i64 (10 : Int)),(.int .i64 (0:Int)),(.int .i64 (0:Int)),(.bool false),(.bool false)]⟩))]) [(0,(.pointer (some (Addr.mk mp 0 none)))),(2,(.int .u64 n))])) m'_10 (Y.kont Tryd.prog kp 1 (Y.cfT Tryd.prog cf) L 28 k c42 0 (Y.retF Tryd.prog Tryd.f42 q))))):=by kernel_rfl
theorem t_konB (mp : Nat) (n : Int) (q : Tmps → Mem → Option α) : Y.opsF (List.take 11 r42) Tryd.prog kp 1 (Y.cfT Tryd.prog cf) 28 r42 (fullN 28 (up x [(0,.pointer (some ⟨mp,0,none⟩)),(2,.int .u64 n)])) m q =
  (Y.cellsOf (Mem.get m mp) (fun _ c_8=>(Option.elim (Y.nthL c_8 0) none (fun o9=>(Y.asSl o9 (fun a_10 n_11 c_12=>(q (fullN 28 (up (up x [(16,(.pointer (some (Addr.mk mp 0 none)))),(20,(.int .u64 (Int.fdiv n 4294967296))),(2,(.int .u64 n)),(22,(.int Go.IntKind.i32 (IntKind.wrap Go.IntKind.i32 (IntKind.wrap Go.IntKind.u32 (Int.fdiv n 4294967296))))),(17,(.pointer (some (Addr.mk mp 0 none)))),(21,(.int Go.IntKind.u32 (IntKind.wrap Go.IntKind.u32 (Int.fdiv n 4294967296)))),(19,(.int .u64 n)),(23,(.agg ⟨[(.int .u8 (0:Int)),(.int .u8 (0:Int)),(.int .u8 (0:Int)),(.int Go.IntKind.i16 (0:Int)),(.int Go.IntKind.i32 (IntKind.wrap Go.IntKind.i32 (IntKind.wrap Go.IntKind.u32 (Int.fdiv n 4294967296))))]⟩)),(15,(.pointer (some (Addr.mk mp 0 none))))]) [(0,(.pointer (some (Addr.mk mp 0 none)))),(14,(.pointer (some (Addr.mk mp 0 none)))),(18,(.slice a_10 n_11 c_12)),(24,(.slice (some (Addr.mk (Mem.size m) 0 none)) 1 1))])) (Mem.push m (.cells true [(.int .u8 (0:Int)),(.int .u8 (0:Int)),(.int .u8 (0:Int)),(.int Go.IntKind.i16 (0:Int)),(.int Go.IntKind.i32 (IntKind.wrap Go.IntKind.i32 (IntKind.wrap Go.IntKind.u32 (Int.fdiv n 4294967296))))])))) none))))):=by kernel_rfl
theorem t_konK (v0 : Value) (q : Value → Mem → Option α) : Y.kont Tryd.prog kp 1 (Y.cfT Tryd.prog cf) L 28 k c42 0 (Y.retF Tryd.prog Tryd.f42 q) .normal (fullN 28 (up x [(0,v0)])) m =
  (q (.tuple ⟨[]⟩) m):=by kernel_rfl
theorem t_PutA (mp : Nat) (wc wo ws : Int) (ww wr : Bool) (io id is iof im : Int) (to : Int) (q : Value → Mem → Option α) : Y.codeF c46 Tryd.prog kp 1 (Y.cfT Tryd.prog cf) L 28 k (fullN 28 (argX [.pointer (some ⟨mp,0,none⟩),.agg ⟨[.int .i64 wc,.int .i64 wo,.int .i64 ws,.bool ww,.bool wr]⟩,.agg ⟨[.int .u8 io,.int .u8 id,.int .u8 is,.int .i16 iof,.int .i32 im]⟩,.int .i64 to])) m (Y.retF Tryd.prog Tryd.f46 q) =
  (L (Y.codeF (Y.loopC c46 0) Tryd.prog kp 1 (Y.cfT Tryd.prog cf) L 28 k) (Y.loopC c46 0) k (fullN 28 (up (up Go.DI.x0 [(2,(.agg ⟨[(.int .u8 io),(.int .u8 id),(.int .u8 is),(.int Go.IntKind.i16 iof),(.int Go.IntKind.i32 im)]⟩)),(1,(.agg ⟨[(.int .i64 wc),(.int .i64 wo),(.int .i64 ws),(.bool ww),(.bool wr)]⟩))]) [(0,(.pointer (some (Addr.mk mp 0 none)))),(3,(.int .i64 to)),(5,(.pointer (some (Addr.mk (Mem.size m) 0 none)))),(6,(.pointer (some (Addr.mk (Nat.succ (Mem.size m)) 0 none))))])) (Mem.push (Mem.push m (.cells true [(.int .i64 wc),(.int .i64 wo),(.int .i64 ws),(.bool ww),(.bool wr)])) (.cells true [(.int .u8 io),(.int .u8 id),(.int .u8 is),(.int Go.IntKind.i16 iof),(.int Go.IntKind.i32 im)])) (Y.kont Tryd.prog kp 1 (Y.cfT Tryd.prog cf) L 28 k c46 0 (Y.retF Tryd.prog Tryd.f46 q))):=by kernel_rfl
theorem t_PutP (mp b5 b6 : Nat) (to : Int) (q : Tmps → Mem → Option α) : Y.opsF (List.take 7 r46a) Tryd.prog kp 1 (Y.cfT Tryd.prog cf) 28 r46a (fullN 28 (up x [(0,.pointer (some ⟨mp,0,none⟩)),(3,.int .i64 to),(5,.pointer (some ⟨b5,0,none⟩)),(6,.pointer (some ⟨b6,0,none⟩))])) m q =
  (Y.cellsOf (Mem.get m b5) (fun _ c_10=>(cond (Nat.ble 5 (Y.lenLF c_10)) (Y.cellsOf (Mem.get m b6) (fun _ c_12=>(cond (Nat.ble 5 (Y.lenLF c_12)) (cf 53 [(.agg ⟨(Y.subL c_10 0 5)⟩),(.agg ⟨(Y.subL c_12 0 5)⟩)] m (fun v_13 m'_14=>(Y.asTup v_13 (fun cs_15=>(Y.unc (Array.toList cs_15) (fun a l=>(Y.asAgg a (fun cs_19=>(Y.unc l (fun a_10 l_11=>(Y.asInt a_10 (fun k'_23 n_24=>(cond (Y.kEq .i64 k'_23) (Y.unc l_11 (fun a_14 l_15=>none) (q (fullN 28 (up (up x [(12,(.agg ⟨(Y.subL c_12 0 5)⟩)),(10,(.tuple ⟨[(.agg cs_19),(.int .i64 n_24)]⟩)),(6,(.pointer (some (Addr.mk b6 0 none)))),(5,(.pointer (some (Addr.mk b5 0 none)))),(13,(.tuple ⟨[(.agg cs_19),(.int .i64 n_24)]⟩)),(11,(.agg ⟨(Y.subL c_10 0 5)⟩))]) [(0,(.pointer (some (Addr.mk mp 0 none)))),(3,(.int .i64 to)),(8,(.pointer (some (Addr.mk (Mem.size m'_14) 0 none)))),(14,(.agg cs_19)),(15,(.int .i64 n_24))])) (Mem.push m'_14 (.cells true [(.int .u8 (0:Int)),(.int .u8 (0:Int)),(.int .u8 (0:Int)),(.int Go.IntKind.i16 (0:Int)),(.int Go.IntKind.i32 (0:Int))])))) none)) none)) none)) none)) none))))) none))) none))):=by kernel_rfl
theorem t_PutJ (mp b8 : Nat) (to : Int) (q : Value → Mem → Option α) : Y.kont Tryd.prog kp 1 (Y.cfT Tryd.prog cf) L 28 k c46 0 (Y.retF Tryd.prog Tryd.f46 q) .normal (fullN 28 (up x [(0,.pointer (some ⟨mp,0,none⟩)),(3,.int .i64 to),(8,.pointer (some ⟨b8,0,none⟩))])) m =
  (L (Y.codeF (Y.loopC c46 1) Tryd.prog kp 1 (Y.cfT Tryd.prog cf) L 28 k) (Y.loopC c46 1) k (fullN 28 (up x [(0,(.pointer (some (Addr.mk mp 0 none)))),(3,(.int .i64 to)),(8,(.pointer (some (Addr.mk b8 0 none))))])) m (Y.kont Tryd.prog kp 1 (Y.cfT Tryd.prog cf) L 28 k c46 1 (Y.retF Tryd.prog Tryd.f46 q))):=by kernel_rfl
theorem t_PutB (mp b8 : Nat) (to : Int) (q : Tmps → Mem → Option α) : Y.opsF (List.take 7 r46) Tryd.prog kp 1 (Y.cfT Tryd.prog cf) 28 r46 (fullN 28 (up x [(0,.pointer (some ⟨mp,0,none⟩)),(3,.int .i64 to),(8,.pointer (some ⟨b8,0,none⟩))])) m q =
  (Y.cellsOf (Mem.get m mp) (fun _ c_9=>(Option.elim (Y.nthL c_9 0) none (fun o10=>(Y.asSl o10 (fun a_11 n_12 c_13=>(Y.cellsOf (Mem.get m b8) (fun _ c_15=>(cond (Nat.ble 5 (Y.lenLF c_15)) (q (fullN 28 (up (up x [(8,(.pointer (some (Addr.mk b8 0 none)))),(18,(.pointer (some (Addr.mk mp 0 none)))),(17,(.pointer (some (Addr.mk mp 0 none)))),(3,(.int .i64 to)),(19,(.pointer (some (Addr.mk mp 0 none))))]) [(0,(.pointer (some (Addr.mk mp 0 none)))),(16,(.pointer (some (Addr.mk mp 0 none)))),(20,(.slice a_11 n_12 c_13)),(21,(.agg ⟨(Y.subL c_15 0 5)⟩)),(22,(.int .i64 to))])) m) none)))) none))))):=by kernel_rfl
theorem t_PutB2 (mp : Nat) (v20 : Value) (io id is iof im : Int) (to : Int) (q : Tmps → Mem → Option α) : Y.opsF (List.take 2 (List.drop 7 r46)) Tryd.prog kp 1 (Y.cfT Tryd.prog cf) 28 r46 (fullN 28 (up x [(0,.pointer (some ⟨mp,0,none⟩)),(16,.pointer (some ⟨mp,0,none⟩)),(20,v20),(21,.agg ⟨[.int .u8 io,.int .u8 id,.int .u8 is,.int .i16 iof,.int .i32 im]⟩),(22,.int .i64 to)])) m q =
  (q (fullN 28 (up (up x [(22,(.int .i64 to)),(21,(.agg ⟨[(.int .u8 io),(.int .u8 id),(.int .u8 is),(.int Go.IntKind.i16 iof),(.int Go.IntKind.i32 im)]⟩)),(23,(.agg ⟨[(.int .u8 io),(.int .u8 id),(.int .u8 is),(.int Go.IntKind.i16 iof),(.int Go.IntKind.i32 im),(.int .i64 to),(.int .i64 (0:Int))]⟩))]) [(0,(.pointer (some (Addr.mk mp 0 none)))),(16,(.pointer (some (Addr.mk mp 0 none)))),(20,v20),(24,(.slice (some (Addr.mk (Mem.size m) 0 none)) 1 1))])) (Mem.push m (.cells true [(.int .u8 io),(.int .u8 id),(.int .u8 is),(.int Go.IntKind.i16 iof),(.int Go.IntKind.i32 im),(.int .i64 to),(.int .i64 (0:Int))]))):=by kernel_rfl
theorem t_PutK (v0 : Value) (q : Value → Mem → Option α) : Y.kont Tryd.prog kp 1 (Y.cfT Tryd.prog cf) L 28 k c46 1 (Y.retF Tryd.prog Tryd.f46 q) .normal (fullN 28 (up x [(0,v0)])) m =
  (q (.tuple ⟨[]⟩) m):=by kernel_rfl
theorem t_ConA (mp : Nat) (n : Int) (q : Value → Mem → Option α) : Y.codeF c50 Tryd.prog kp 1 (Y.cfT Tryd.prog cf) L 27 k (fullN 27 (argX [.pointer (some ⟨mp,0,none⟩),.int .u64 n])) m (Y.retF Tryd.prog Tryd.f50 q) =
  (cf 46 [(.pointer (some (Addr.mk mp 0 none))),(.agg ⟨[(.int .i64 (10 : Int)),(.int .i64 (0:Int)),(.int .i64 (0:Int)),(.bool false),(.bool false)]⟩),(.agg ⟨[(.int .u8 (0:Int)),(.int .u8 (3 : Int)),(.int .u8 (0:Int)),(.int Go.IntKind.i16 (0:Int)),(.int Go.IntKind.i32 (IntKind.wrap Go.IntKind.i32 (IntKind.wrap Go.IntKind.u32 (Int.tmod n (4294967296 : Int)))))]⟩),(.int .i64 (0:Int))] m (fun v_8 m'_9=>(L (Y.codeF (Y.loopC c50 0) Tryd.prog kp 1 (Y.cfT Tryd.prog cf) L 27 k) (Y.loopC c50 0) k (fullN 27 (up (up Go.DI.x0 [(8,(.int Go.IntKind.u32 (IntKind.wrap Go.IntKind.u32 (Int.tmod n (4294967296 : Int))))),(4,(.pointer (some (Addr.mk mp 0 none)))),(10,(.agg ⟨[(.int .u8 (0:Int)),(.int .u8 (3 : Int)),(.int .u8 (0:Int)),(.int Go.IntKind.i16 (0:Int)),(.int Go.IntKind.i32 (IntKind.wrap Go.IntKind.i32 (IntKind.wrap Go.IntKind.u32 (Int.tmod n (4294967296 : Int)))))]⟩)),(6,(.int .u64 n)),(9,(.int Go.IntKind.i32 (IntKind.wrap Go.IntKind.i32 (IntKind.wrap Go.IntKind.u32 (Int.tmod n (4294967296 : Int)))))),(5,(.agg ⟨[(.int .i64 (10 : Int)),(.int .i64 (0:Int)),(.int .i64 (0:Int)),(.bool false),(.bool false)]⟩)),(11,v_8),(7,(.int .u64 (Int.tmod n (4294967296 : Int))))]) [(0,(.pointer (some (Addr.mk mp 0 none)))),(1,(.int .u64 n))])) m'_9 (Y.kont Tryd.prog kp 1 (Y.cfT Tryd.prog cf) L 27 k c50 0 (Y.retF Tryd.prog Tryd.f50 q))))):=by kernel_rfl
theorem t_ConB (mp : Nat) (n : Int) (q : Tmps → Mem → Option α) : Y.opsF (List.take 12 r50) Tryd.prog kp 1 (Y.cfT Tryd.prog cf) 27 r50 (fullN 27 (up x [(0,.pointer (some ⟨mp,0,none⟩)),(1,.int .u64 n)])) m q =
  (Y.cellsOf (Mem.get m mp) (fun _ c_8=>(Option.elim (Y.nthL c_8 0) none (fun o9=>(Y.asSl o9 (fun a_10 n_11 c_12=>(q (fullN 27 (up (up x [(20,(.int Go.IntKind.i32 (IntKind.wrap Go.IntKind.i32 (IntKind.wrap Go.IntKind.u32 (IntKind.wrap .u64 (Int.tdiv n (4294967296 : Int))))))),(18,(.int .u64 (IntKind.wrap .u64 (Int.tdiv n (4294967296 : Int))))),(22,(.agg ⟨[(.int .u8 (0:Int)),(.int .u8 (0:Int)),(.int .u8 (0:Int)),(.int Go.IntKind.i16 (0:Int)),(.int Go.IntKind.i32 (IntKind.wrap Go.IntKind.i32 (IntKind.wrap Go.IntKind.u32 (IntKind.wrap .u64 (Int.tdiv n (4294967296 : Int)))))),(.int .i64 (0:Int)),(.int .i64 (0:Int))]⟩)),(14,(.pointer (some (Addr.mk mp 0 none)))),(1,(.int .u64 n)),(17,(.int .u64 n)),(21,(.agg ⟨[(.int .u8 (0:Int)),(.int .u8 (0:Int)),(.int .u8 (0:Int)),(.int Go.IntKind.i16 (0:Int)),(.int Go.IntKind.i32 (IntKind.wrap Go.IntKind.i32 (IntKind.wrap Go.IntKind.u32 (IntKind.wrap .u64 (Int.tdiv n (4294967296 : Int))))))]⟩)),(13,(.pointer (some (Addr.mk mp 0 none)))),(19,(.int Go.IntKind.u32 (IntKind.wrap Go.IntKind.u32 (IntKind.wrap .u64 (Int.tdiv n (4294967296 : Int)))))),(15,(.pointer (some (Addr.mk mp 0 none))))]) [(0,(.pointer (some (Addr.mk mp 0 none)))),(12,(.pointer (some (Addr.mk mp 0 none)))),(16,(.slice a_10 n_11 c_12)),(23,(.slice (some (Addr.mk (Mem.size m) 0 none)) 1 1))])) (Mem.push m (.cells true [(.int .u8 (0:Int)),(.int .u8 (0:Int)),(.int .u8 (0:Int)),(.int Go.IntKind.i16 (0:Int)),(.int Go.IntKind.i32 (IntKind.wrap Go.IntKind.i32 (IntKind.wrap Go.IntKind.u32 (IntKind.wrap .u64 (Int.tdiv n (4294967296 : Int)))))),(.int .i64 (0:Int)),(.int .i64 (0:Int))])))) none))))):=by kernel_rfl
theorem t_ConK (v0 : Value) (q : Value → Mem → Option α) : Y.kont Tryd.prog kp 1 (Y.cfT Tryd.prog cf) L 27 k c50 0 (Y.retF Tryd.prog Tryd.f50 q) .normal (fullN 27 (up x [(0,v0)])) m =
  (q (.tuple ⟨[]⟩) m):=by kernel_rfl
theorem t_HereA (mp : Nat) (l : Int) (q : Value → Mem → Option α) : Y.codeF c33 Tryd.prog kp 1 (Y.cfT Tryd.prog cf) L 15 k (fullN 15 (argX [.pointer (some ⟨mp,0,none⟩),.int .i64 l])) m (Y.retF Tryd.prog Tryd.f33 q) =
  (L (Y.codeF (Y.loopC c33 0) Tryd.prog kp 1 (Y.cfT Tryd.prog cf) L 15 k) (Y.loopC c33 0) k (fullN 15 (up Go.DI.x0 [(0,(.pointer (some (Addr.mk mp 0 none)))),(1,(.int .i64 l))])) m (Y.kont Tryd.prog kp 1 (Y.cfT Tryd.prog cf) L 15 k c33 0 (Y.retF Tryd.prog Tryd.f33 q))):=by kernel_rfl
theorem t_HereB (mp : Nat) (l : Int) (q : Tmps → Mem → Option α) : Y.opsF (List.take 8 r33) Tryd.prog kp 1 (Y.cfT Tryd.prog cf) 15 r33 (fullN 15 (up x [(0,.pointer (some ⟨mp,0,none⟩)),(1,.int .i64 l)])) m q =
  (Y.cellsOf (Mem.get m mp) (fun _ c_8=>(Option.elim (Y.nthL c_8 0) none (fun o9=>(Y.asSl o9 (fun a_10 n_11 c_12=>(q (fullN 15 (up (up x [(10,(.agg ⟨[(.int .u8 (0:Int)),(.int .u8 (0:Int)),(.int .u8 (0:Int)),(.int Go.IntKind.i16 (0:Int)),(.int Go.IntKind.i32 (0:Int)),(.int .i64 (0:Int)),(.int .i64 l)]⟩)),(6,(.pointer (some (Addr.mk mp 0 none)))),(1,(.int .i64 l)),(9,(.int .i64 l)),(5,(.pointer (some (Addr.mk mp 0 none)))),(7,(.pointer (some (Addr.mk mp 0 none))))]) [(0,(.pointer (some (Addr.mk mp 0 none)))),(4,(.pointer (some (Addr.mk mp 0 none)))),(8,(.slice a_10 n_11 c_12)),(11,(.slice (some (Addr.mk (Mem.size m) 0 none)) 1 1))])) (Mem.push m (.cells true [(.int .u8 (0:Int)),(.int .u8 (0:Int)),(.int .u8 (0:Int)),(.int Go.IntKind.i16 (0:Int)),(.int Go.IntKind.i32 (0:Int)),(.int .i64 (0:Int)),(.int .i64 l)])))) none))))):=by kernel_rfl
theorem t_HereK (v0 : Value) (q : Value → Mem → Option α) : Y.kont Tryd.prog kp 1 (Y.cfT Tryd.prog cf) L 15 k c33 0 (Y.retF Tryd.prog Tryd.f33 q) .normal (fullN 15 (up x [(0,v0)])) m =
  (q (.tuple ⟨[]⟩) m):=by kernel_rfl
end
end Go.Proofs.YtadioopbehiakaaDoor
namespace Go.Proofs.YtadioopbehiakaaDoor
open Go Go.DI Go.DI.Kit Go.Proofs Go.Cmp
noncomputable section
set_option maxHeartbeats 4000000
variable {α : Type} (x : Nat → Value) (cf : Y.CF α) (L : Y.LK α) (k : Nat) (m : Mem)
theorem t_putC (mp : Nat) (w0 u v : Value) (q : Tmps → Mem → Option α) : Y.opsF (List.drop 7 r35) Tryd.prog kp 1 (Y.cfT Tryd.prog cf) 24 r35 (fullN 24 (up x [(0,w0),(14,.pointer (some ⟨mp,0,none⟩)),(18,u),(20,v)])) m q =
  Y.appendF Tryd.prog m 28 28 u v fun a m' => Y.storeF Tryd.prog m' 28 a (.pointer (some ⟨mp, 0, none⟩)) fun m'' => q (fullN 24 (up (up x [(14, .pointer (some ⟨mp, 0, none⟩)), (18, u), (20, v), (21, a), (22, .pointer (some ⟨mp, 0, none⟩)), (23, .pointer (some ⟨mp, 0, none⟩))]) [(0, w0)])) m'' := by kernel_rfl
theorem t_jumpC (mp : Nat) (w0 w5 w6 u v : Value) (q : Tmps → Mem → Option α) : Y.opsF (List.drop 11 r37) Tryd.prog kp 1 (Y.cfT Tryd.prog cf) 26 r37 (fullN 26 (up x [(0,w0),(5,w5),(6,w6),(8,.pointer (some ⟨mp,0,none⟩)),(12,u),(18,v)])) m q =
  Y.appendF Tryd.prog m 63 63 u v fun a m' => Y.storeF Tryd.prog m' 63 a (.pointer (some ⟨mp, 1, none⟩)) fun m'' => q (fullN 26 (up (up x [(8, .pointer (some ⟨mp, 0, none⟩)), (12, u), (18, v), (19, a), (20, .pointer (some ⟨mp, 0, none⟩)), (21, .pointer (some ⟨mp, 1, none⟩))]) [(0, w0), (5, w5), (6, w6)])) m'' := by kernel_rfl
theorem t_konC (mp : Nat) (w0 u v : Value) (q : Tmps → Mem → Option α) : Y.opsF (List.drop 11 r42) Tryd.prog kp 1 (Y.cfT Tryd.prog cf) 28 r42 (fullN 28 (up x [(0,w0),(14,.pointer (some ⟨mp,0,none⟩)),(18,u),(24,v)])) m q =
  Y.appendF Tryd.prog m 28 28 u v fun a m' => Y.storeF Tryd.prog m' 28 a (.pointer (some ⟨mp, 0, none⟩)) fun m'' => q (fullN 28 (up (up x [(14, .pointer (some ⟨mp, 0, none⟩)), (18, u), (24, v), (25, a), (26, .pointer (some ⟨mp, 0, none⟩)), (27, .pointer (some ⟨mp, 0, none⟩))]) [(0, w0)])) m'' := by kernel_rfl
theorem t_PutC (mp : Nat) (w0 u v : Value) (q : Tmps → Mem → Option α) : Y.opsF (List.drop 9 r46) Tryd.prog kp 1 (Y.cfT Tryd.prog cf) 28 r46 (fullN 28 (up x [(0,w0),(16,.pointer (some ⟨mp,0,none⟩)),(20,u),(24,v)])) m q =
  Y.appendF Tryd.prog m 73 73 u v fun a m' => Y.storeF Tryd.prog m' 73 a (.pointer (some ⟨mp, 0, none⟩)) fun m'' => q (fullN 28 (up (up x [(16, .pointer (some ⟨mp, 0, none⟩)), (20, u), (24, v), (25, a), (26, .pointer (some ⟨mp, 0, none⟩)), (27, .pointer (some ⟨mp, 0, none⟩))]) [(0, w0)])) m'' := by kernel_rfl
theorem t_ConC (mp : Nat) (w0 u v : Value) (q : Tmps → Mem → Option α) : Y.opsF (List.drop 12 r50) Tryd.prog kp 1 (Y.cfT Tryd.prog cf) 27 r50 (fullN 27 (up x [(0,w0),(12,.pointer (some ⟨mp,0,none⟩)),(16,u),(23,v)])) m q =
  Y.appendF Tryd.prog m 73 73 u v fun a m' => Y.storeF Tryd.prog m' 73 a (.pointer (some ⟨mp, 0, none⟩)) fun m'' => q (fullN 27 (up (up x [(12, .pointer (some ⟨mp, 0, none⟩)), (16, u), (23, v), (24, a), (25, .pointer (some ⟨mp, 0, none⟩)), (26, .pointer (some ⟨mp, 0, none⟩))]) [(0, w0)])) m'' := by kernel_rfl
theorem t_HereC (mp : Nat) (w0 u v : Value) (q : Tmps → Mem → Option α) : Y.opsF (List.drop 8 r33) Tryd.prog kp 1 (Y.cfT Tryd.prog cf) 15 r33 (fullN 15 (up x [(0,w0),(4,.pointer (some ⟨mp,0,none⟩)),(8,u),(11,v)])) m q =
  Y.appendF Tryd.prog m 73 73 u v fun a m' => Y.storeF Tryd.prog m' 73 a (.pointer (some ⟨mp, 0, none⟩)) fun m'' => q (fullN 15 (up (up x [(4, .pointer (some ⟨mp, 0, none⟩)), (8, u), (11, v), (12, a), (13, .pointer (some ⟨mp, 0, none⟩)), (14, .pointer (some ⟨mp, 0, none⟩))]) [(0, w0)])) m'' := by kernel_rfl
theorem t_putS (b : Nat) (w0 u v : Value) (q : Tmps → Mem → Option α) : Y.opsF (List.drop 7 r35a) Tryd.prog kp 1 (Y.cfT Tryd.prog cf) 24 r35a (fullN 24 (up x [(0,w0),(6,.pointer (some ⟨b,0,none⟩)),(12,u),(13,v)])) m q =
  Y.storeF Tryd.prog m 42 u (.pointer (some ⟨b, 0, none⟩)) fun m' => q (fullN 24 (up (up x [(12, u), (13, v), (7, v)]) [(0, w0), (6, .pointer (some ⟨b, 0, none⟩))])) m' := by kernel_rfl
theorem t_PutS (b : Nat) (w0 w3 u v : Value) (q : Tmps → Mem → Option α) : Y.opsF (List.drop 7 r46a) Tryd.prog kp 1 (Y.cfT Tryd.prog cf) 28 r46a (fullN 28 (up x [(0,w0),(3,w3),(8,.pointer (some ⟨b,0,none⟩)),(14,u),(15,v)])) m q =
  Y.storeF Tryd.prog m 42 u (.pointer (some ⟨b, 0, none⟩)) fun m' => q (fullN 28 (up (up x [(14, u), (15, v), (9, v)]) [(0, w0), (3, w3), (8, .pointer (some ⟨b, 0, none⟩))])) m' := by kernel_rfl
theorem t_Label (mp : Nat) (q : Value → Mem → Option α) : Y.codeF (bodyOf Tryd.f28) Tryd.prog kp 1 (Y.cfT Tryd.prog cf) L 14 k (fullN 14 (argX [.pointer (some ⟨mp,0,none⟩)])) m (Y.retF Tryd.prog Tryd.f28 q) =
  Y.loadF Tryd.prog m 3 (.pointer (some ⟨mp, 1, none⟩)) fun v => Y.asInt v (fun k' n => cond (Y.kEq .i64 k') (Y.storeF Tryd.prog m 3 (.int .i64 (IntKind.wrap .i64 (Int.add n 1))) (.pointer (some ⟨mp, 1, none⟩)) fun m' => Y.loadF Tryd.prog m' 3 (.pointer (some ⟨mp, 1, none⟩)) fun v => Y.asInt v (fun k' n => cond (Y.kEq .i64 k') (q (.int .i64 n) m') none) none) none) none := by kernel_rfl
end
end Go.Proofs.YtadioopbehiakaaDoor
namespace Go.DI
namespace Kit
noncomputable section
structure Thing where
  pre : List Value
  post : List Value
  z : Nat
  n : Nat
  c : List Value
def slV (b : Option Nat) (z n : Nat) : Value := match b with | none => .slice none 0 0 | some c => .slice (some ⟨c, 0, some z⟩) n n
def bufOk (M : Mem) (b : Option Nat) (n : Nat) (l : List Value) : Prop := match b with | none => n = 0 ∧ l = [] | some c => M.get c = .cells true l
structure At (M : Mem) (p : Nat) (b : Option Nat) (o : Thing) : Prop where
  cells : M.get p = .cells true (o.pre ++ slV b o.z o.n :: o.post)
  buf : bufOk M b o.n o.c
  len : o.c.length = o.n * o.z
  ones : o.c.all one = true
inductive HpL (M : Mem) : List (Nat × Thing) → List Nat → Prop
  | nil : HpL M [] []
  | cons {p : Nat} {b : Option Nat} {o : Thing} {hs : List (Nat × Thing)} {F : List Nat} : At M p b o → HpL M hs F → HpL M ((p, o) :: hs) (p :: (b.toList ++ F))
abbrev Keep := Nat → Option Blk
def Hp (M : Mem) (K : Keep) (hs : List (Nat × Thing)) : Prop := M.top ∧ (∀ j x, K j = some x → j < M.size ∧ M.get j = x) ∧ ∃ F, HpL M hs F ∧ F.Nodup ∧ ∀ x ∈ F, K x = none ∧ x < M.size
theorem Hp.top {M : Mem} {K : Keep} {hs : List (Nat × Thing)} (h : Hp M K hs) : M.top := h.1
theorem Hp.get {M : Mem} {K : Keep} {hs : List (Nat × Thing)} (h : Hp M K hs) {j : Nat} {x : Blk} (hj : K j = some x) : M.get j = x := (h.2.1 j x hj).2
theorem Hp.lt {M : Mem} {K : Keep} {hs : List (Nat × Thing)} (h : Hp M K hs) {j : Nat} {x : Blk} (hj : K j = some x) : j < M.size := (h.2.1 j x hj).1
theorem At.mono {M M' : Mem} {p : Nat} {b : Option Nat} {o : Thing} (h : At M p b o) (hm : ∀ x ∈ p :: b.toList, M'.get x = M.get x) : At M' p b o := by
  refine ⟨by rw [hm p (List.mem_cons_self ..)]; exact h.cells, ?_, h.len, h.ones⟩
  have := h.buf
  cases b with
  | none => exact this
  | some c => show M'.get c = _; rw [hm c (by simp)]; exact this
theorem HpL.mono {M M' : Mem} {hs : List (Nat × Thing)} {F : List Nat} (h : HpL M hs F) (hm : ∀ x ∈ F, M'.get x = M.get x) : HpL M' hs F := by
  induction h with
  | nil => exact .nil
  | cons hA _ ih => exact .cons (hA.mono fun x hx => hm x (by simp at hx ⊢; rcases hx with h | h <;> simp [h])) (ih fun x hx => hm x (by simp [hx]))
theorem HpL.perm {M : Mem} {hs hs' : List (Nat × Thing)} (hp : hs.Perm hs') : ∀ {F : List Nat}, HpL M hs F → ∃ F', HpL M hs' F' ∧ F.Perm F' := by
  induction hp with
  | nil => intro F h; exact ⟨F, h, .refl _⟩
  | cons x _ ih =>
    intro F h
    cases h with
    | cons hA hL =>
      obtain ⟨F', h1, h2⟩ := ih hL
      exact ⟨_, .cons hA h1, .cons _ (h2.append_left _)⟩
  | swap x y l =>
    intro F h
    cases h with
    | cons hA hL =>
      cases hL with
      | cons hA' hL' =>
        refine ⟨_, .cons hA' (.cons hA hL'), ?_⟩
        rename_i p b o p' b' o' F
        show ((p :: b.toList) ++ ((p' :: b'.toList) ++ F)).Perm ((p' :: b'.toList) ++ ((p :: b.toList) ++ F))
        rw [← List.append_assoc, ← List.append_assoc]
        exact List.perm_append_comm.append_right _
  | trans _ _ ih1 ih2 =>
    intro F h
    obtain ⟨F1, h1, p1⟩ := ih1 h
    obtain ⟨F2, h2, p2⟩ := ih2 h1
    exact ⟨F2, h2, p1.trans p2⟩
theorem Hp.perm {M : Mem} {K : Keep} {hs hs' : List (Nat × Thing)} (h : Hp M K hs) (hp : hs.Perm hs') : Hp M K hs' := by
  obtain ⟨ht, hK, F, h1, h2, h3⟩ := h
  obtain ⟨F', h4, h5⟩ := h1.perm hp
  exact ⟨ht, hK, F', h4, h5.nodup_iff.1 h2, fun x hx => h3 x (h5.mem_iff.2 hx)⟩
theorem Hp.tail {M : Mem} {K : Keep} {x : Nat × Thing} {hs : List (Nat × Thing)} (h : Hp M K (x :: hs)) : Hp M K hs := by
  obtain ⟨ht, hK, F, h1, h2, h3⟩ := h
  cases h1 with
  | cons hA hL =>
    have h2 := (List.nodup_cons.1 h2).2
    exact ⟨ht, hK, _, hL, (List.nodup_append.1 h2).2.1, fun x hx => h3 x (by simp [hx])⟩
theorem Hp.ext {M M' : Mem} {K : Keep} {hs : List (Nat × Thing)} (h : Hp M K hs) (hx : Ext M M') : Hp M' K hs := by
  obtain ⟨ht, hK, F, h1, h2, h3⟩ := h
  exact ⟨hx.top ht, fun j x hj => ⟨Nat.lt_of_lt_of_le (hK j x hj).1 hx.size, (hx.get j (hK j x hj).1).trans (hK j x hj).2⟩, F, h1.mono fun x hx' => hx.get x (h3 x hx').2, h2, fun x hx' => ⟨(h3 x hx').1, Nat.lt_of_lt_of_le (h3 x hx').2 hx.size⟩⟩
theorem Hp.weak {M : Mem} {K K' : Keep} {hs : List (Nat × Thing)} (h : Hp M K' hs) (hw : ∀ j x, K j = some x → K' j = some x) : Hp M K hs := by
  obtain ⟨ht, hK, F, h1, h2, h3⟩ := h
  refine ⟨ht, fun j x hj => hK j x (hw j x hj), F, h1, h2, fun x hx => ⟨?_, (h3 x hx).2⟩⟩
  cases hk : K x with
  | none => rfl
  | some y => have := hw x y hk; rw [(h3 x hx).1] at this; cases this
def keepAll (M : Mem) : Keep := fun j => if j < M.size then some (M.get j) else none
theorem Hp.all {M : Mem} (h : M.top) : Hp M (keepAll M) [] := by
  refine ⟨h, fun j x hj => ?_, [], .nil, List.nodup_nil, fun x hx => by simp at hx⟩
  unfold keepAll at hj
  split at hj
  · rename_i hl; exact ⟨hl, Option.some.inj hj⟩
  · cases hj
def keep1 (K : Keep) (b : Nat) (x : Blk) : Keep := fun j => if j = b then some x else K j
theorem keep1_same (K : Keep) (b : Nat) (x : Blk) : keep1 K b x b = some x := if_pos rfl
theorem keep1_ne {K : Keep} {b j : Nat} {x : Blk} (h : j ≠ b) : keep1 K b x j = K j := if_neg h
theorem Hp.box {M M' : Mem} {K : Keep} {hs : List (Nat × Thing)} (h : Hp M K hs) {b : Nat} {x : Blk} (hx : Ext M M') (h1 : M.size ≤ b) (h2 : b < M'.size) (hb : M'.get b = x) : Hp M' (keep1 K b x) hs ∧ ∀ j y, K j = some y → keep1 K b x j = some y := by
  obtain ⟨ht, hK, F, hL, hn, h3⟩ := h
  refine ⟨⟨hx.top ht, fun j y hj => ?_, F, hL.mono fun x hx' => hx.get x (h3 x hx').2, hn, fun y hy => ?_⟩, fun j y hj => ?_⟩
  · by_cases hjb : j = b
    · subst hjb; rw [keep1_same] at hj; cases hj; exact ⟨h2, hb⟩
    · rw [keep1_ne hjb] at hj
      exact ⟨Nat.lt_of_lt_of_le (hK j y hj).1 hx.size, (hx.get j (hK j y hj).1).trans (hK j y hj).2⟩
  · have := h3 y hy
    rw [keep1_ne (by omega)]
    exact ⟨this.1, Nat.lt_of_lt_of_le this.2 hx.size⟩
  · have := (hK j y hj).1
    rw [keep1_ne (by omega)]; exact hj
theorem Hp.boxP {M : Mem} {K : Keep} {hs : List (Nat × Thing)} (h : Hp M K hs) (x : Blk) : Hp (M.push x) (keep1 K M.size x) hs ∧ ∀ j y, K j = some y → keep1 K M.size x j = some y :=
  h.box (Ext.push _ _) (Nat.le_refl _) (by show M.size < M.size + 1; omega) (Mem.get_push_same _ _)
theorem Hp.push {M : Mem} {K : Keep} {hs : List (Nat × Thing)} (h : Hp M K hs) (pre post : List Value) (z : Nat) : Hp (M.push (.cells true (pre ++ .slice none 0 0 :: post))) K ((M.size, ⟨pre, post, z, 0, []⟩) :: hs) := by
  have h' := h.ext (Ext.push M (.cells true (pre ++ .slice none 0 0 :: post)))
  obtain ⟨ht, hK, F, h1, h2, h3⟩ := h
  obtain ⟨ht', hK', _⟩ := h'
  refine ⟨ht', hK', M.size :: ((none : Option Nat).toList ++ F), .cons ⟨Mem.get_push_same _ _, ⟨rfl, rfl⟩, by simp, rfl⟩ (h1.mono fun x hx => Mem.get_push_ne _ (by have := (h3 x hx).2; omega) _), ?_, fun x hx => ?_⟩
  · simp only [Option.toList_none, List.nil_append]
    exact List.nodup_cons.2 ⟨fun hm => by have := (h3 _ hm).2; omega, h2⟩
  · simp only [Option.toList_none, List.nil_append, List.mem_cons] at hx
    rcases hx with rfl | hx
    · refine ⟨?_, by simp⟩
      cases hk : K M.size with
      | none => rfl
      | some y => have := (hK _ _ hk).1; omega
    · have := h3 x hx
      exact ⟨this.1, by simp; omega⟩
theorem splice_mid (pre post : List Value) (x y : Value) : splice (pre ++ x :: post) pre.length [y] = pre ++ y :: post := by
  unfold splice
  rw [List.take_left, show pre.length + [y].length = pre.length + 1 from rfl]
  simp
theorem keep_set {M : Mem} {K : Keep} {p : Nat} {x : Blk} (hK : ∀ j x, K j = some x → j < M.size ∧ M.get j = x) (hp : K p = none) : ∀ j y, K j = some y → j < (M.set p x).size ∧ (M.set p x).get j = y := by
  intro j y hj
  have hne : j ≠ p := by rintro rfl; rw [hp] at hj; cases hj
  exact ⟨(hK j y hj).1, (Mem.get_set_ne _ hne _).trans (hK j y hj).2⟩
theorem keep_push {M : Mem} {K : Keep} {x : Blk} (hK : ∀ j x, K j = some x → j < M.size ∧ M.get j = x) : ∀ j y, K j = some y → j < (M.push x).size ∧ (M.push x).get j = y := by
  intro j y hj
  have := hK j y hj
  exact ⟨by show j < M.size + 1; omega, (Mem.get_push_ne _ (by omega) _).trans this.2⟩
theorem keep_ext {M M' : Mem} {K : Keep} (hK : ∀ j x, K j = some x → j < M.size ∧ M.get j = x) (hx : Ext M M') : ∀ j y, K j = some y → j < M'.size ∧ M'.get j = y := by
  intro j y hj
  have := hK j y hj
  exact ⟨Nat.lt_of_lt_of_le this.1 hx.size, (hx.get j this.1).trans this.2⟩
theorem top_set {M : Mem} {p : Nat} {x : Blk} (ht : M.top) (hp : p < M.size) : (M.set p x).top := fun j hj => by
  have hj : M.size ≤ j := hj
  rw [Mem.get_set_ne _ (by omega)]; exact ht j hj
theorem top_push {M : Mem} {x : Blk} (ht : M.top) : (M.push x).top := (Ext.push M x).top ht
theorem Hp.set {M : Mem} {K : Keep} {p : Nat} {o : Thing} {hs : List (Nat × Thing)} (h : Hp M K ((p, o) :: hs)) : p < M.size ∧ K p = none ∧ ∃ u, (∃ a, u = .slice a o.n o.n) ∧ M.get p = .cells true (o.pre ++ u :: o.post) ∧
    ∀ pre post, Hp (M.set p (.cells true (pre ++ u :: post))) K ((p, { o with pre := pre, post := post }) :: hs) := by
  obtain ⟨ht, hK, F, h1, h2, h3⟩ := h
  cases h1 with
  | cons hA hL =>
    rename_i b F
    have hp := h3 p (List.mem_cons_self ..)
    have hn := List.nodup_cons.1 h2
    refine ⟨hp.2, hp.1, _, ?_, hA.cells, fun pre post => ⟨top_set ht hp.2, keep_set hK hp.1, _, .cons (b := b) ⟨Mem.get_set_same _ _ _, ?_, hA.len, hA.ones⟩ (hL.mono fun x hx => Mem.get_set_ne _ (by rintro rfl; exact hn.1 (by simp [hx])) _), h2, h3⟩⟩
    · have := hA.buf
      cases b with
      | none => exact ⟨none, by show Value.slice none 0 0 = _; rw [this.1]⟩
      | some c => exact ⟨_, rfl⟩
    · have := hA.buf
      cases b with
      | none => exact this
      | some c =>
        show (M.set p _).get c = _
        rw [Mem.get_set_ne _ (by rintro rfl; exact hn.1 (by simp))]; exact this
theorem Hp.poke {M : Mem} {K : Keep} {p : Nat} {o : Thing} {hs : List (Nat × Thing)} (h : Hp M K ((p, o) :: hs)) (hn0 : 0 < o.n) : ∃ c, M.get p = .cells true (o.pre ++ .slice (some ⟨c, 0, some o.z⟩) o.n o.n :: o.post) ∧ M.get c = .cells true o.c ∧
    ∀ c', c'.length = o.c.length → c'.all one = true → Hp (M.set c (.cells true c')) K ((p, { o with c := c' }) :: hs) := by
  obtain ⟨ht, hK, F, h1, h2, h3⟩ := h
  cases h1 with
  | cons hA hL =>
    rename_i b F
    have hn := List.nodup_cons.1 h2
    cases b with
    | none => have h0 : o.n = 0 := hA.buf.1; omega
    | some c =>
      have hbuf : M.get c = .cells true o.c := hA.buf
      have hc := h3 c (by simp)
      have hcp : p ≠ c := by rintro rfl; exact hn.1 (by simp)
      refine ⟨c, hA.cells, hbuf, fun c' hl h1 => ⟨top_set ht hc.2, keep_set hK hc.1, _, .cons (b := some c) ⟨(Mem.get_set_ne _ hcp _).trans hA.cells, Mem.get_set_same _ _ _, hl.trans hA.len, h1⟩ (hL.mono fun x hx => Mem.get_set_ne _ (by rintro rfl; exact (List.nodup_cons.1 hn.2).1 hx) _), h2, h3⟩⟩
theorem Hp.poke2 {M : Mem} {K : Keep} {p p2 : Nat} {o o2 : Thing} {hs : List (Nat × Thing)} (h : Hp M K ((p, o) :: (p2, o2) :: hs)) (hn0 : 0 < o.n) (hn2 : 0 < o2.n) : ∃ c c2, M.get p = .cells true (o.pre ++ .slice (some ⟨c, 0, some o.z⟩) o.n o.n :: o.post) ∧ M.get c = .cells true o.c ∧
    M.get p2 = .cells true (o2.pre ++ .slice (some ⟨c2, 0, some o2.z⟩) o2.n o2.n :: o2.post) ∧ M.get c2 = .cells true o2.c ∧ p ≠ c ∧ p2 ≠ c ∧ c2 ≠ c ∧
    ∀ c', c'.length = o.c.length → c'.all one = true → Hp (M.set c (.cells true c')) K ((p, { o with c := c' }) :: (p2, o2) :: hs) := by
  obtain ⟨ht, hK, F, h1, h2, h3⟩ := h
  cases h1 with
  | cons hA hL =>
    rename_i b F
    have hn := List.nodup_cons.1 h2
    cases b with
    | none => have h0 : o.n = 0 := hA.buf.1; omega
    | some c =>
      have hbuf : M.get c = .cells true o.c := hA.buf
      have hc := h3 c (by simp)
      have hcp : p ≠ c := by rintro rfl; exact hn.1 (by simp)
      have hcF := (List.nodup_cons.1 hn.2).1
      cases hL with
      | cons hA2 hL2 =>
        rename_i b2 F2
        cases b2 with
        | none => have h0 : o2.n = 0 := hA2.buf.1; omega
        | some c2 =>
          have hp2 : p2 ≠ c := by rintro rfl; exact hcF (by simp)
          have hc2 : c2 ≠ c := by rintro rfl; exact hcF (by simp)
          refine ⟨c, c2, hA.cells, hbuf, hA2.cells, hA2.buf, hcp, hp2, hc2, fun c' hl h1 => ⟨top_set ht hc.2, keep_set hK hc.1, _, .cons (b := some c) ⟨(Mem.get_set_ne _ hcp _).trans hA.cells, Mem.get_set_same _ _ _, hl.trans hA.len, h1⟩ ((HpL.cons hA2 hL2).mono fun x hx => Mem.get_set_ne _ (by rintro rfl; exact hcF hx) _), h2, h3⟩⟩
theorem Hp.freeze {M : Mem} {K : Keep} {p : Nat} {o : Thing} {hs : List (Nat × Thing)} (h : Hp M K ((p, o) :: hs)) : ∃ (K2 : Keep) (a : Option Addr), (∀ j x, K j = some x → K2 j = some x) ∧ K2 p = some (.cells true (o.pre ++ .slice a o.n o.n :: o.post)) ∧
    (0 < o.n → ∃ c, a = some ⟨c, 0, some o.z⟩ ∧ K2 c = some (.cells true o.c) ∧ K c = none) ∧ K p = none ∧ Hp M K2 hs := by
  obtain ⟨ht, hK, F, h1, h2, h3⟩ := h
  cases h1 with
  | cons hA hL =>
    rename_i b F
    have hp := h3 p (List.mem_cons_self ..)
    have hn := List.nodup_cons.1 h2
    have w1 : ∀ x, ∀ j y, K j = some y → keep1 K p x j = some y := fun x j y hj => by
      rw [keep1_ne (by rintro rfl; rw [hp.1] at hj; cases hj)]; exact hj
    cases b with
    | none =>
      have h0 : o.n = 0 := hA.buf.1
      refine ⟨keep1 K p (.cells true (o.pre ++ .slice none o.n o.n :: o.post)), none, w1 _, keep1_same .., fun hn0 => by omega, hp.1, ht, fun j x hj => ?_, F, hL, hn.2, fun x hx => ?_⟩
      · by_cases e : j = p
        · subst e; rw [keep1_same] at hj; cases hj
          refine ⟨hp.2, ?_⟩
          have := hA.cells
          rw [h0] at this ⊢; exact this
        · rw [keep1_ne e] at hj; exact hK j x hj
      · rw [keep1_ne (by rintro rfl; exact hn.1 (by simpa using hx))]
        exact h3 x (by simp [hx])
    | some c =>
      have hc := h3 c (by simp)
      have hcp : c ≠ p := by rintro rfl; exact hn.1 (by simp)
      have hcF := List.nodup_cons.1 hn.2
      refine ⟨keep1 (keep1 K p (.cells true (o.pre ++ .slice (some ⟨c, 0, some o.z⟩) o.n o.n :: o.post))) c (.cells true o.c), some ⟨c, 0, some o.z⟩, fun j y hj => ?_, ?_, fun _ => ⟨c, rfl, keep1_same .., hc.1⟩, hp.1, ht, fun j x hj => ?_, F, hL, hcF.2, fun x hx => ?_⟩
      · rw [keep1_ne (by rintro rfl; rw [hc.1] at hj; cases hj)]; exact w1 _ j y hj
      · rw [keep1_ne (Ne.symm hcp), keep1_same]
      · by_cases e : j = c
        · subst e; rw [keep1_same] at hj; cases hj
          exact ⟨hc.2, hA.buf⟩
        · rw [keep1_ne e] at hj
          by_cases e2 : j = p
          · subst e2; rw [keep1_same] at hj; cases hj
            exact ⟨hp.2, hA.cells⟩
          · rw [keep1_ne e2] at hj; exact hK j x hj
      · rw [keep1_ne (by rintro rfl; exact hcF.1 hx), keep1_ne (by rintro rfl; exact hn.1 (by simp [hx]))]
        exact h3 x (by simp [hx])
theorem Hp.free_set {M : Mem} {K : Keep} {b : Nat} {x : Blk} (h : Hp M K []) (hb : b < M.size) (hk : K b = none) : Hp (M.set b x) K [] := by
  obtain ⟨ht, hK, F, h1, h2, h3⟩ := h
  cases h1
  exact ⟨top_set ht hb, keep_set hK hk, [], .nil, List.nodup_nil, fun x hx => by simp at hx⟩
theorem Hp.no {M : Mem} {K : Keep} {hs : List (Nat × Thing)} (h : Hp M K hs) {j : Nat} (hj : M.size ≤ j) : K j = none := by
  cases hk : K j with
  | none => rfl
  | some y => have := h.lt hk; omega
section
variable {P : Program} {t e : TypeId} {by_ : Nat}
theorem Hp.append {M : Mem} {K : Keep} {p : Nat} {o : Thing} {hs : List (Nat × Thing)} (h : Hp M K ((p, o) :: hs)) (hu : P.underlying t = some (.slice e)) (hst : szOf P t = some 1) (hs_ : szOf P e = some o.z) (hz : o.z ≠ 0) (hb : bytesOf P e = some by_) (hb0 : 0 < by_) (h0 : (zerosD P e 1).isSome = true)
    (hbig : (o.n + 1) * by_ ≤ 140737488355328 ∧ o.n + 1 ≤ 4611686018427387904) : ∃ a, M.get p = .cells true (o.pre ++ .slice a o.n o.n :: o.post) ∧
    ∀ (M1 : Mem) (nb : Nat) (own : Bool) (new : List Value), Ext M M1 → M1.get nb = .cells own new → new.length = o.z → new.all one = true → ∃ a' M2 M3, appendD P M1 t t (.slice a o.n o.n) (.slice (some ⟨nb, 0, none⟩) 1 1) = some (.slice a' (o.n + 1) (o.n + 1), M2) ∧
      storeD P M2 t (.slice a' (o.n + 1) (o.n + 1)) (.pointer (some ⟨p, o.pre.length, none⟩)) = some M3 ∧ Hp M3 K ((p, { o with n := o.n + 1, c := o.c ++ new }) :: hs) ∧ M1.size ≤ M3.size ∧ ∀ j, M.size ≤ j → j < M1.size → M3.get j = M1.get j := by
  obtain ⟨ht, hK, F, h1, h2, h3⟩ := h
  cases h1 with
  | cons hA hL =>
    rename_i b F
    have hp := h3 p (List.mem_cons_self ..)
    have hn := List.nodup_cons.1 h2
    have hst2 : ∀ (M2 : Mem) (u : Value) (a' : Option Addr), M2.get p = .cells true (o.pre ++ u :: o.post) → storeD P M2 t (.slice a' (o.n + 1) (o.n + 1)) (.pointer (some ⟨p, o.pre.length, none⟩)) = some (M2.set p (.cells true (o.pre ++ .slice a' (o.n + 1) (o.n + 1) :: o.post))) := fun M2 u a' hg => by
      rw [storeD_at hst (n := 1) rfl hg (by simp) rfl]
      show some (M2.set p (.cells true (splice (o.pre ++ u :: o.post) o.pre.length [.slice a' (o.n + 1) (o.n + 1)]))) = _
      rw [splice_mid]
    have hlen : ∀ x, lenOf (.slice (some ⟨x, 0, none⟩) 1 1) = some 1 := fun _ => rfl
    have hnone : ∀ M1 : Mem, Ext M M1 → K M1.size = none := fun M1 hx => by
      cases hk : K M1.size with
      | none => rfl
      | some y => have := (hK _ _ hk).1; have := hx.size; omega
    cases b with
    | none =>
      obtain ⟨b1, b2⟩ : o.n = 0 ∧ o.c = [] := hA.buf
      refine ⟨none, by have := hA.cells; rw [b1] at this ⊢; exact this, fun M1 nb own new hx hg hl h1 => ?_⟩
      have hf : firstC M1 o.z 1 (.slice (some ⟨nb, 0, none⟩) 1 1) = some new := loadC_at (rest := []) (by rw [List.append_nil]; exact hg) (by omega)
      have hap := append_nil (m := M1) (x := .slice (some ⟨nb, 0, none⟩) 1 1) hu hs_ hz hb hb0 h0 (hlen nb) (by omega) (by rw [b1] at hbig; simpa using hbig) hf (by omega) h1
      have hgp : (M1.push (.cells true new)).get p = .cells true (o.pre ++ slV none o.z o.n :: o.post) := by
        rw [Mem.get_push_ne _ (by have := hx.size; omega), hx.get p hp.2]; exact hA.cells
      refine ⟨_, _, _, by rw [b1]; exact hap, hst2 _ _ _ hgp, ⟨?_, ?_, p :: ((some M1.size).toList ++ F), .cons ⟨?_, ?_, ?_, ?_⟩ (hL.mono fun x hx' => ?_), ?_, fun x hx' => ?_⟩, ?_, fun j h1 h2 => ?_⟩
      · exact top_set (top_push (hx.top ht)) (by have := hx.size; show p < M1.size + 1; omega)
      · exact keep_set (keep_push (keep_ext hK hx)) hp.1
      · exact Mem.get_set_same _ _ _
      · show (Mem.set _ p _).get M1.size = .cells true (o.c ++ new)
        rw [Mem.get_set_ne _ (by have := hx.size; omega), Mem.get_push_same, b2]; rfl
      · show (o.c ++ new).length = (o.n + 1) * o.z
        rw [List.length_append, hl, hA.len, Nat.add_mul, Nat.one_mul]
      · show (o.c ++ new).all one = true
        rw [List.all_append, hA.ones, h1]; rfl
      · have hxs := (h3 x (by simp [hx'])).2
        have := hx.size
        rw [Mem.get_set_ne _ (by rintro rfl; exact hn.1 (by simp [hx'])), Mem.get_push_ne _ (by omega), hx.get x hxs]
      · have := hx.size
        refine List.nodup_cons.2 ⟨fun hm => ?_, ?_⟩
        · simp only [Option.toList_some, List.cons_append, List.nil_append, List.mem_cons] at hm
          rcases hm with rfl | hm
          · omega
          · exact hn.1 (by simp [hm])
        · simp only [Option.toList_some, List.cons_append, List.nil_append]
          refine List.nodup_cons.2 ⟨fun hm => ?_, (List.nodup_append.1 hn.2).2.1⟩
          have := (h3 M1.size (by simp [hm])).2
          omega
      · have := hx.size
        show K x = none ∧ x < M1.size + 1
        simp only [Option.toList_some, List.cons_append, List.nil_append, List.mem_cons] at hx'
        rcases hx' with rfl | rfl | hx'
        · exact ⟨hp.1, by omega⟩
        · exact ⟨hnone M1 hx, by omega⟩
        · have := h3 x (by simp [hx']); exact ⟨this.1, by omega⟩
      · show M1.size ≤ M1.size + 1; omega
      · rw [Mem.get_set_ne _ (by omega), Mem.get_push_ne _ (by omega)]
    | some c =>
      have hbuf : M.get c = .cells true o.c := hA.buf
      refine ⟨_, hA.cells, fun M1 nb own new hx hg hl h1 => ?_⟩
      have hc := h3 c (by simp)
      have hcp : c ≠ p := by rintro rfl; exact hn.1 (by simp)
      have hf : firstC M1 o.z 1 (.slice (some ⟨nb, 0, none⟩) 1 1) = some new := loadC_at (rest := []) (by rw [List.append_nil]; exact hg) (by omega)
      have hap := append_own (m := M1) (bk := c) (k := o.n) (x := .slice (some ⟨nb, 0, none⟩) 1 1) hu hs_ hz hb hb0 h0 ((hx.get c hc.2).trans hbuf) hA.len hA.ones (hlen nb) (by omega) hbig hf (by omega) h1
      have hgp : ((M1.push (.cells true (o.c ++ new))).set c .none).get p = .cells true (o.pre ++ slV (some c) o.z o.n :: o.post) := by
        rw [Mem.get_set_ne _ (Ne.symm hcp), Mem.get_push_ne _ (by have := hx.size; omega), hx.get p hp.2]; exact hA.cells
      refine ⟨_, _, _, hap, hst2 _ _ _ hgp, ⟨?_, ?_, p :: ((some M1.size).toList ++ F), .cons ⟨?_, ?_, ?_, ?_⟩ (hL.mono fun x hx' => ?_), ?_, fun x hx' => ?_⟩, ?_, fun j h1 h2 => ?_⟩
      · exact top_set (top_set (top_push (hx.top ht)) (by have := hx.size; show c < M1.size + 1; omega)) (by have := hx.size; show p < M1.size + 1; omega)
      · exact keep_set (keep_set (keep_push (keep_ext hK hx)) hc.1) hp.1
      · exact Mem.get_set_same _ _ _
      · show (Mem.set _ p _).get M1.size = .cells true (o.c ++ new)
        rw [Mem.get_set_ne _ (by have := hx.size; omega), Mem.get_set_ne _ (by have := hx.size; omega), Mem.get_push_same]
      · show (o.c ++ new).length = (o.n + 1) * o.z
        rw [List.length_append, hl, hA.len, Nat.add_mul, Nat.one_mul]
      · show (o.c ++ new).all one = true
        rw [List.all_append, hA.ones, h1]; rfl
      · have hxs := (h3 x (by simp [hx'])).2
        have := hx.size
        rw [Mem.get_set_ne _ (by rintro rfl; exact hn.1 (by simp [hx'])), Mem.get_set_ne _ (by rintro rfl; exact (List.nodup_cons.1 hn.2).1 hx'), Mem.get_push_ne _ (by omega), hx.get x hxs]
      · have := hx.size
        refine List.nodup_cons.2 ⟨fun hm => ?_, ?_⟩
        · simp only [Option.toList_some, List.cons_append, List.nil_append, List.mem_cons] at hm
          rcases hm with rfl | hm
          · omega
          · exact hn.1 (by simp [hm])
        · simp only [Option.toList_some, List.cons_append, List.nil_append]
          refine List.nodup_cons.2 ⟨fun hm => ?_, (List.nodup_cons.1 hn.2).2⟩
          have := (h3 M1.size (by simp [hm])).2
          omega
      · have := hx.size
        show K x = none ∧ x < M1.size + 1
        simp only [Option.toList_some, List.cons_append, List.nil_append, List.mem_cons] at hx'
        rcases hx' with rfl | rfl | hx'
        · exact ⟨hp.1, by omega⟩
        · exact ⟨hnone M1 hx, by omega⟩
        · have := h3 x (by simp [hx']); exact ⟨this.1, by omega⟩
      · show M1.size ≤ M1.size + 1; omega
      · rw [Mem.get_set_ne _ (by omega), Mem.get_set_ne _ (by omega), Mem.get_push_ne _ (by omega)]
end
end
end Kit
end Go.DI
