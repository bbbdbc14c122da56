/-
  CSpec: what the code of a table is, in plain Lean: rows with labels, as the reference puts them, and the labels settled.
-/
import Derived.Test.YtadioopbehiakaaDoorK09
import Derived.Test.YtadioopbehiakaaDoorChecked
set_option linter.all false
set_option linter.unusedVariables false
set_option linter.unusedSimpArgs false
namespace Go.Cmp
open Go Go.DI
structure Ins where
  op : Int
  dst : Int
  src : Int
  off : Int
  imm : Int
  deriving DecidableEq
def Ins.zero : Ins := ⟨0, 0, 0, 0, 0⟩
def insC (x : Ins) : List Value := [.int .u8 x.op, .int .u8 x.dst, .int .u8 x.src, .int .i16 x.off, .int .i32 x.imm]
structure TestT where
  neg : Bool
  kind : Int
  pos : Int
  size : Int
  mask : Int
  lo : Int
  hi : Int
structure RuleT where
  tests : List TestT
  verdict : Int
structure RowS where
  i : Ins
  to : Nat
  here : Nat
def ins (x : Ins) (to : Nat) : RowS := ⟨x, to, 0⟩
def lab (l : Nat) : RowS := ⟨.zero, 0, l⟩
def w16 (n : Int) : Int := IntKind.wrap .i16 n
def w32 (n : Int) : Int := IntKind.wrap .i32 n
/-! ### instructions -/
def iNum (op r n : Int) : Ins := ⟨16 * op + 7, r, 0, 0, n⟩
def iRegs (op r s : Int) : Ins := ⟨16 * op + 15, r, s, 0, 0⟩
def iLow (n : Int) : Ins := ⟨180, 0, 0, 0, n⟩
def iExit : Ins := ⟨149, 0, 0, 0, 0⟩
def iConst (n : Int) : Ins := ⟨24, 3, 0, 0, w32 (n % 4294967296)⟩
def iHigh (n : Int) : Ins := ⟨0, 0, 0, 0, w32 (n / 4294967296)⟩
def sizeK (size : Int) : Int := if size = 4 then 0 else if size = 2 then 1 else if size = 1 then 2 else 3
def iLoad (size r s off : Int) : Ins := ⟨97 + 8 * sizeK size, r, s, w16 off, 0⟩
def iIf (op r n : Int) : Ins := ⟨16 * op + 5, r, 0, 0, n⟩
def iIfR (op : Int) : Ins := ⟨16 * op + 13, 2, 3, 0, 0⟩
def iGoto : Ins := ⟨5, 0, 0, 0, 0⟩
def iSwap (size : Int) : Ins := ⟨215, 2, 0, 0, 8 * size⟩
/-! ### rows; n: how many labels there were -/
def afreshS : List RowS := [ins (iNum 11 2 0) 0, ins (iNum 11 3 0) 0, ins (iLoad 4 8 6 0) 0]
def toldS (a : Nat) (n : Int) (out : Nat) : List RowS := [ins (iIf 3 8 (w32 n)) a, ins iGoto out, lab a]
def heldS (op n : Int) (out : Nat) : List RowS := if n < 2147483648 then [ins (iIf op 2 n) out] else [ins (iConst n) 0, ins (iHigh n) 0, ins (iIfR op) out]
def pastK (t : TestT) (out d : Nat) : Nat → Nat → Nat → List RowS
  | 0, _, _ => []
  | m + 1, k, n =>
    [ins (iIf 5 2 k) (if k = 15 then out else n + 1)] ++ toldS (n + 2) (14 + 4 * (k : Int) + t.pos + t.size) out ++ [ins (iLoad t.size 2 7 (14 + 4 * (k : Int) + t.pos)) 0, ins iGoto d, lab (n + 1)] ++ pastK t out d m (k + 1) (n + 2)
def fullS (size : Int) : Int := if size = 8 then 18446744073709551615 else if size = 4 then 4294967295 else if size = 2 then 65535 else 255
def isBytes (t : TestT) : Bool := decide (t.kind = 3) || decide (t.kind = 4)
def askS (t : TestT) (n : Nat) : List RowS :=
  if t.kind = 1 then [ins (iRegs 11 2 8) 0]
  else if t.kind = 2 then [ins (iLoad 4 2 6 4) 0]
  else if t.kind = 3 then toldS (n + 3) (t.pos + t.size) (n + 1) ++ [ins (iLoad t.size 2 7 t.pos) 0]
  else toldS (n + 4) 15 (n + 1) ++ [ins (iLoad 1 2 7 14) 0, ins (iNum 5 2 15) 0] ++ pastK t (n + 1) (n + 3) 16 0 (n + 4) ++ [lab (n + 3)]
def askN (t : TestT) (n : Nat) : Nat := if t.kind = 1 ∨ t.kind = 2 then n + 2 else if t.kind = 3 then n + 3 else n + 4 + 32
def maskS (t : TestT) : List RowS :=
  if isBytes t = true then
    (if 1 < t.size then [ins (iSwap t.size) 0] else []) ++
    (if t.mask = fullS t.size then [] else if t.mask < 2147483648 then [ins (iNum 5 2 t.mask) 0] else [ins (iConst t.mask) 0, ins (iHigh t.mask) 0, ins (iRegs 5 2 3) 0])
  else []
def boundS (t : TestT) (out : Nat) : List RowS :=
  (if 0 < t.lo then heldS 10 t.lo out else []) ++ (if isBytes t = false ∨ t.hi ≠ fullS t.size then heldS 2 t.hi out else [])
def endS (t : TestT) (out good fail : Nat) : List RowS :=
  if t.neg = true then afreshS ++ [ins iGoto fail, lab out, lab good] else [ins iGoto good, lab out] ++ afreshS ++ [ins iGoto fail, lab good]
def testS (t : TestT) (fail n : Nat) : List RowS := afreshS ++ askS t n ++ maskS t ++ boundS t (n + 1) ++ endS t (n + 1) (n + 2) fail
def testsS (fail : Nat) : List TestT → Nat → List RowS
  | [], _ => []
  | t :: l, n => testS t fail n ++ testsS fail l (askN t n)
def testsN : List TestT → Nat → Nat
  | [], n => n
  | t :: l, n => testsN l (askN t n)
def lowS (v : Int) : List RowS := [ins (iLow (w32 v)) 0, ins iExit 0]
def ruleS (r : RuleT) (n : Nat) : List RowS := afreshS ++ (if r.tests = [] then [ins (iIf 5 2 0) (n + 1)] else []) ++ testsS (n + 1) r.tests (n + 1) ++ lowS r.verdict ++ [lab (n + 1)]
def rulesS : List RuleT → Nat → List RowS
  | [], _ => []
  | r :: l, n => ruleS r n ++ rulesS l (testsN r.tests (n + 1))
def rulesN : List RuleT → Nat → Nat
  | [], n => n
  | r :: l, n => rulesN l (testsN r.tests (n + 1))
def tableS (l : List RuleT) : List RowS := [ins (iRegs 11 6 1) 0, ins (iLoad 8 7 1 8) 0] ++ rulesS l 0 ++ afreshS ++ lowS 0
/-! ### labels settled -/
def isLab (r : RowS) : Bool := decide (0 < r.here)
def cnt : List RowS → Nat
  | [] => 0
  | r :: l => if isLab r = true then cnt l else cnt l + 1
theorem cnt_append : ∀ (a b : List RowS), cnt (a ++ b) = cnt a + cnt b
  | [], b => by simp [cnt]
  | r :: a, b => by
    simp only [List.cons_append, cnt, cnt_append a b]
    split <;> omega
def atGo : List RowS → Nat → (Nat → Nat) → Nat → Nat
  | [], _, f => f
  | r :: l, n, f => if isLab r = true then atGo l n (fun j => if j = r.here then n else f j) else atGo l (n + 1) f
def atS (l : List RowS) : Nat → Nat := atGo l 0 fun _ => 0
def goS (q n : Nat) (x : Ins) : Ins := { x with off := w16 ((q : Int) - n - 1) }
def outGo (f : Nat → Option Nat) : List RowS → Nat → List Ins
  | [], _ => []
  | r :: l, n => if isLab r = true then outGo f l n else (match (if 0 < r.to then f r.to else none) with | some q => goS q n r.i | none => r.i) :: outGo f l (n + 1)
def madeS (l : List RowS) : List Ins := outGo (fun j => some (atS l j)) l 0
theorem outGo_append (f : Nat → Option Nat) : ∀ (a b : List RowS) (n : Nat), outGo f (a ++ b) n = outGo f a n ++ outGo f b (n + cnt a)
  | [], b, n => by simp [outGo, cnt]
  | r :: a, b, n => by
    simp only [List.cons_append, outGo, cnt]
    split
    · exact outGo_append f a b n
    · rw [outGo_append f a b (n + 1), List.cons_append]
      congr 2
      rw [show n + 1 + cnt a = n + (cnt a + 1) by omega]
theorem outGo_length (f : Nat → Option Nat) : ∀ (a : List RowS) (n : Nat), (outGo f a n).length = cnt a
  | [], n => rfl
  | r :: a, n => by
    simp only [outGo, cnt]
    split
    · exact outGo_length f a n
    · simp [outGo_length f a (n + 1)]
def jumpsS (l : Nat) : List RowS → Nat → List Nat
  | [], _ => []
  | r :: a, n => if isLab r = true then jumpsS l a n else (if r.to = l then [n] else []) ++ jumpsS l a (n + 1)
theorem jumpsS_append (l : Nat) : ∀ (a b : List RowS) (n : Nat), jumpsS l (a ++ b) n = jumpsS l a n ++ jumpsS l b (n + cnt a)
  | [], b, n => by simp [jumpsS, cnt]
  | r :: a, b, n => by
    simp only [List.cons_append, jumpsS, cnt]
    split
    · exact jumpsS_append l a b n
    · rw [jumpsS_append l a b (n + 1), List.append_assoc, show n + 1 + cnt a = n + (cnt a + 1) by omega]
end Go.Cmp
namespace Go.Cmp
open Go Go.DI
def modA (c : List Ins) (p : Nat) (f : Ins → Ins) : List Ins := match c, p with
  | [], _ => []
  | x :: c, 0 => f x :: c
  | x :: c, p + 1 => x :: modA c p f
theorem modA_length (f : Ins → Ins) : ∀ (c : List Ins) (p : Nat), (modA c p f).length = c.length
  | [], _ => rfl
  | x :: c, 0 => rfl
  | x :: c, p + 1 => by simp [modA, modA_length f c p]
def settleS (q n : Nat) : List Nat → List Ins → List Ins
  | [], c => c
  | p :: J, c => settleS q n J (modA c (p - n) (goS q p))
theorem settleS_tail (q n : Nat) (x : Ins) : ∀ (J : List Nat) (c : List Ins), (∀ p ∈ J, n + 1 ≤ p) → settleS q n J (x :: c) = x :: settleS q (n + 1) J c
  | [], c, _ => rfl
  | p :: J, c, h => by
    have hp := h p (by simp)
    simp only [settleS]
    obtain ⟨d, hd⟩ : ∃ d, p - n = d + 1 := ⟨p - n - 1, by omega⟩
    rw [hd, show p - (n + 1) = d by omega]
    simp only [modA]
    exact settleS_tail q n x J _ fun p hp => h p (by simp [hp])
theorem jumpsS_ge (l : Nat) : ∀ (a : List RowS) (n : Nat), ∀ p ∈ jumpsS l a n, n ≤ p
  | [], n, p, h => by simp [jumpsS] at h
  | r :: a, n, p, h => by
    simp only [jumpsS] at h
    split at h
    · exact jumpsS_ge l a n p h
    · rcases List.mem_append.1 h with h | h
      · split at h
        · simp at h; omega
        · simp at h
      · have := jumpsS_ge l a (n + 1) p h; omega
theorem jumpsS_lt (l : Nat) : ∀ (a : List RowS) (n : Nat), ∀ p ∈ jumpsS l a n, p < n + cnt a
  | [], n, p, h => by simp [jumpsS] at h
  | r :: a, n, p, h => by
    simp only [jumpsS] at h
    simp only [cnt]
    split at h
    · rename_i hl
      rw [if_pos hl]
      exact jumpsS_lt l a n p h
    · rename_i hl
      rw [if_neg hl]
      rcases List.mem_append.1 h with h | h
      · split at h
        · simp at h; omega
        · simp at h
      · have := jumpsS_lt l a (n + 1) p h; omega
def setF (f : Nat → Option Nat) (l q : Nat) : Nat → Option Nat := fun j => if j = l then some q else f j
theorem settle_all (f : Nat → Option Nat) (l q : Nat) (hl : 0 < l) : ∀ (a : List RowS) (n : Nat), settleS q n (jumpsS l a n) (outGo f a n) = outGo (setF f l q) a n
  | [], n => rfl
  | r :: a, n => by
    simp only [jumpsS, outGo]
    split
    · exact settle_all f l q hl a n
    · have ih := settle_all f l q hl a (n + 1)
      have hge := jumpsS_ge l a (n + 1)
      by_cases ht : r.to = l
      · rw [if_pos ht]
        simp only [List.cons_append, List.nil_append, settleS, Nat.sub_self, modA]
        rw [settleS_tail q n _ _ _ hge, ih]
        congr 1
        have h0 : 0 < r.to := by omega
        simp only [h0, if_true, setF, ht, hl]
        cases f l <;> rfl
      · rw [if_neg ht]
        simp only [List.nil_append]
        rw [settleS_tail q n _ _ _ hge, ih]
        congr 1
        by_cases h0 : 0 < r.to
        · simp [h0, setF, ht]
        · simp [h0]
theorem outGo_same (f g : Nat → Option Nat) : ∀ (a : List RowS) (n : Nat), (∀ r ∈ a, isLab r = false → 0 < r.to → f r.to = g r.to) → outGo f a n = outGo g a n
  | [], n, _ => rfl
  | r :: a, n, h => by
    simp only [outGo]
    split
    · exact outGo_same f g a n fun r hr => h r (by simp [hr])
    · rename_i hl
      rw [outGo_same f g a (n + 1) fun r hr => h r (by simp [hr])]
      congr 2
      by_cases h0 : 0 < r.to
      · rw [if_pos h0, if_pos h0, h r (by simp) (by simpa using hl) h0]
      · rw [if_neg h0, if_neg h0]
/-! ### cells -/
def codeC (c : List Ins) : List Value := c.flatMap insC
theorem insC_len (x : Ins) : (insC x).length = 5 := rfl
theorem insC_one (x : Ins) : (insC x).all one = true := rfl
theorem codeC_len : ∀ c : List Ins, (codeC c).length = c.length * 5
  | [] => rfl
  | x :: c => by
    have ih := codeC_len c
    simp only [codeC] at ih
    simp only [codeC, List.flatMap_cons, List.length_append, ih, insC_len, List.length_cons]
    omega
theorem codeC_one : ∀ c : List Ins, (codeC c).all one = true
  | [] => rfl
  | x :: c => by
    show (insC x ++ codeC c).all one = true
    rw [List.all_append, insC_one, codeC_one c]; rfl
theorem codeC_append (a b : List Ins) : codeC (a ++ b) = codeC a ++ codeC b := by unfold codeC; rw [List.flatMap_append]
theorem codeC_mod (q : Nat) : ∀ (c : List Ins) (p n : Nat), p < c.length → splice (codeC c) (p * 5 + 3) [.int .i16 (w16 ((q : Int) - n - 1))] = codeC (modA c p (goS q n))
  | [], p, n, h => by simp at h
  | x :: c, 0, n, h => by
    show splice (insC x ++ codeC c) 3 _ = insC (goS q n x) ++ codeC c
    rfl
  | x :: c, p + 1, n, h => by
    have ih := codeC_mod q c p n (by simpa using h)
    have e : (p + 1) * 5 + 3 = (insC x).length + (p * 5 + 3) := by rw [insC_len]; omega
    show splice (insC x ++ codeC c) _ _ = insC x ++ codeC (modA c p (goS q n))
    rw [← ih, e]
    unfold splice
    rw [List.take_length_add_append, show (insC x).length + (p * 5 + 3) + [Value.int .i16 (w16 ((q : Int) - n - 1))].length = (insC x).length + (p * 5 + 3 + [Value.int .i16 (w16 ((q : Int) - n - 1))].length) by omega, List.drop_length_add_append, List.append_assoc]
end Go.Cmp
namespace Go.Proofs.YtadioopbehiakaaDoor
open Go Go.DI Go.DI.Kit Go.Proofs Go.Cmp
noncomputable section
def kp : TypeId → Bool := among [41, 42, 84, 85, 95]
theorem hmix : Tryd.prog.follows .mixedOrders = true := by kernel_rfl
theorem hK : Plain Tryd.prog kp := plain_among (by kernel_rfl)
theorem hng : NoNG Tryd.prog := noNG_of (by kernel_rfl)
def gl : List Value := [.int .i64 4, .int .i64 2, .int .i64 1, .int .i64 8]
theorem free_gl : ∀ x ∈ gl, Free x := by
  intro x hx
  simp only [gl, List.mem_cons, List.not_mem_nil, or_false] at hx
  rcases hx with h | h | h | h <;> (rw [h]; exact free_int _ _)
def testC (t : TestT) : List Value := [.bool t.neg, .int .i64 t.kind, .int .i64 t.pos, .int .i64 t.size, .int .u64 t.mask, .int .u64 t.lo, .int .u64 t.hi]
end
end Go.Proofs.YtadioopbehiakaaDoor
namespace Go.DI
namespace Kit
noncomputable section
variable {α : Type}
def callKo (is : FuncId → List Value → Bool) (oc : Y.CF α) (P : Program) (K : TypeId → Bool) (G : Nat) (k : Nat) : Y.CF α :=
  Nat.rec (motive := fun _ => Y.CF α) (fun _ _ _ _ => none) (fun k ih f args m q => cond (is f args) (oc f args m q) (Option.rec (motive := fun _ => Option α) none (fun fn => Option.rec (motive := fun _ => Option α) none (fun c => Y.runF P K G k ih fn c args m q) fn.body) P.funcs[f]?)) k
theorem callKo_eq (is : FuncId → List Value → Bool) (oc : Y.CF α) (o : Orc) (h1 : ∀ f a m (q : Value → Mem → Option α), is f a = true → (∃ r, o f a m = some r) ∧ oc f a m q = onV (o f a m) q) (h2 : ∀ f a m, is f a = false → o f a m = none) (P : Program) (K : TypeId → Bool) (G : Nat) :
    ∀ (k : Nat) (f : FuncId) (args : List Value) (m : Mem) (q : Value → Mem → Option α), callKo is oc P K G k f args m q = onV (callO P K G o k f args m) q
  | 0, _, _, _, _ => rfl
  | k + 1, f, args, m, q => by
    have ih := callKo_eq is oc o h1 h2 P K G k
    simp only [callO]
    show cond (is f args) (oc f args m q) (Option.rec (motive := fun _ => Option α) none (fun fn => Option.rec (motive := fun _ => Option α) none (fun c => Y.runF P K G k (callKo is oc P K G k) fn c args m q) fn.body) P.funcs[f]?) = _
    cases hi : is f args with
    | true =>
      obtain ⟨⟨r, hr⟩, ho⟩ := h1 f args m q hi
      simp only [cond_true]
      rw [ho, hr]
    | false =>
      rw [h2 f args m hi]
      simp only [cond_false, bodyD]
      cases P.funcs[f]? with
      | none => rfl
      | some fn =>
        simp only
        cases hb : fn.body with
        | none => rfl
        | some c =>
          simp only [Y.runF, Y.initF_eq, Y.codeF_eq P K G (callKo is oc P K G k) (callO P K G o k) ih (fun body _ k t m q => Y.loopF body k t m q) _ k (fun body c t m q hb => Y.loopF_eq hb k t m q), Y.resF_eq]
          cases codeD P K G (callO P K G o k) (drawD P K G (callO P K G o k) (max args.length fn.ntmps)) (max args.length fn.ntmps) k c (initT 0 args) m with
          | none => rfl
          | some r =>
            obtain ⟨e, t', m'⟩ := r
            cases e with
            | normal =>
              simp only [Y.onE]
              cases resD P t' m' fn.results.toList <;> rfl
            | exit id => rfl
            | ret =>
              simp only [Y.onE]
              cases resD P t' m' fn.results.toList <;> rfl
end
end Kit
end Go.DI

namespace Go.DI
namespace Kit
noncomputable section
variable {α : Type}
def regOps (id : Nat) : Code → List Oper
  | .region i ops _ => cond (Nat.beq i id) ops.toList []
  | .seq a b => match regOps id a with | [] => regOps id b | l => l
  | .cond _ a b => match regOps id a with | [] => regOps id b | l => l
  | .block _ c => regOps id c
  | .loop c => regOps id c
  | _ => []
theorem recF_opsF (P : Program) (K : TypeId → Bool) (G : Nat) (cf : Y.CF α) (n : Nat) (ops : List Oper) (q : Tmps → Mem → Option α) : ∀ (l : List Oper) (t : Tmps) (m : Mem) (q' : List Rec → Tmps → Mem → Option α), (∀ rs t m, q' rs t m = q t m) → Y.recF l P K G cf n ops t m q' = Y.opsF l P K G cf n ops t m q
  | [], t, m, q', h => h [] t m
  | o :: l, t, m, q', h => by
    have ih := recF_opsF P K G cf n ops q l
    show Bool.rec (motive := fun _ => Option α) none (Bool.rec (motive := fun _ => Option α) (Y.putOF t o.dst undef fun t' => Y.recF l P K G cf n ops t' m fun rs t' m'' => q' (⟨false, undef, t, m⟩ :: rs) t' m'')
      (Y.opF o.op P K G cf t m fun v m' => Y.putOF t o.dst v fun t' => Y.recF l P K G cf n ops t' m' fun rs t' m'' => q' (⟨true, v, t, m⟩ :: rs) t' m'') (Y.wantF o ops t)) (Y.dstF n o.dst)
      = Bool.rec (motive := fun _ => Option α) none (Bool.rec (motive := fun _ => Option α) (Y.putOF t o.dst undef fun t' => Y.opsF l P K G cf n ops t' m q)
      (Y.opF o.op P K G cf t m fun v m' => Y.putOF t o.dst v fun t' => Y.opsF l P K G cf n ops t' m' q) (Y.wantF o ops t)) (Y.dstF n o.dst)
    have e1 : (fun t' => Y.recF l P K G cf n ops t' m fun rs t' m'' => q' (⟨false, undef, t, m⟩ :: rs) t' m'') = fun t' => Y.opsF l P K G cf n ops t' m q := funext fun t' => ih _ _ _ fun rs t m => h _ t m
    have e2 : (fun v m' => Y.putOF t o.dst v fun t' => Y.recF l P K G cf n ops t' m' fun rs t' m'' => q' (⟨true, v, t, m⟩ :: rs) t' m'') = fun v m' => Y.putOF t o.dst v fun t' => Y.opsF l P K G cf n ops t' m' q := by
      funext v m'
      congr 1
      funext t'
      exact ih _ _ _ fun rs t m => h _ t m
    rw [e1, e2]
def calmB (ops : List Oper) : Bool := statT ops && (need1F ops).isEmpty && (need2F ops).isEmpty
theorem drawF_plain {P : Program} {K : TypeId → Bool} {G : Nat} {cf : Y.CF α} {n : Nat} {ops : List Oper} (h : calmB ops = true) (t : Tmps) (m : Mem) (q : Tmps → Mem → Option α) : Y.drawF P K G cf n ops t m q = Y.opsF ops P K G cf n ops t m q := by
  simp only [calmB, Bool.and_eq_true, List.isEmpty_iff] at h
  obtain ⟨⟨h1, h2⟩, h3⟩ := h
  unfold Y.drawF
  rw [h1, h2, h3]
  exact recF_opsF P K G cf n ops q ops t m _ fun _ _ _ => rfl
def calm (s : List Nat) : Code → Code
  | .region i ops d => cond (s.any (Nat.beq i) && calmB ops.toList) (.region i ops false) (.region i ops d)
  | .seq a b => .seq (calm s a) (calm s b)
  | .cond c a b => .cond c (calm s a) (calm s b)
  | .block j c => .block j (calm s c)
  | c => c
def fitC : Code → Bool
  | .region _ _ _ => true
  | .seq a b => fitC a && fitC b
  | .cond _ a b => fitC a && fitC b
  | .block _ c => fitC c
  | .loop _ => true
  | .skip => true
  | .exit _ => true
  | .ret => true
  | _ => false
theorem calm_eq (s : List Nat) (P : Program) (K : TypeId → Bool) (G : Nat) (cf : Y.CF α) (L : Y.LK α) (n k : Nat) : ∀ (c : Code), fitC c = true → ∀ (t : Tmps) (m : Mem) (q : Y.ExK α), Y.codeF c P K G cf L n k t m q = Y.codeF (calm s c) P K G cf L n k t m q := by
  intro c
  induction c with
  | skip => intros; rfl
  | exit => intros; rfl
  | ret => intros; rfl
  | region i ops d =>
    intro _ t m q
    unfold calm
    cases hb : s.any (Nat.beq i) && calmB ops.toList with
    | false => rfl
    | true =>
      simp only [Bool.and_eq_true] at hb
      cases d with
      | false => rfl
      | true => exact drawF_plain hb.2 t m _
  | seq a b ia ib =>
    intro h t m q
    simp only [fitC, Bool.and_eq_true] at h
    refine (ia h.1 ..).trans ?_
    show _ = Y.codeF (calm s a) P K G cf L n k t m fun e t m => Ex.rec (motive := fun _ => Option α) (Y.codeF (calm s b) P K G cf L n k t m q) (fun id => q (.exit id) t m) (q .ret t m) e
    congr 1
    funext e t m
    cases e with
    | normal => exact ib h.2 ..
    | exit => rfl
    | ret => rfl
  | cond c a b ia ib =>
    intro h t m q
    simp only [fitC, Bool.and_eq_true] at h
    show Y.evF c G t (fun v => Y.asBool v (Y.codeF a P K G cf L n k t m q) (Y.codeF b P K G cf L n k t m q)) = Y.evF c G t (fun v => Y.asBool v (Y.codeF (calm s a) P K G cf L n k t m q) (Y.codeF (calm s b) P K G cf L n k t m q))
    rw [ia h.1, ib h.2]
  | block j c ic =>
    intro h t m q
    simp only [fitC] at h
    exact ic h ..
  | loop c ic => intros; rfl
  | _ => intro h; cases h
end
end Kit
end Go.DI

namespace Go.Proofs.YtadioopbehiakaaDoor
open Go Go.DI Go.DI.Kit Go.Proofs Go.Cmp
noncomputable section
set_option maxHeartbeats 4000000
variable {α : Type} (x : Nat → Value) (cf : Y.CF α) (L : Y.LK α) (k : Nat) (m : Mem)
def c35 : Code := markS [1, 2] (calm [2] (bodyOf Tryd.f35))
def r35 : List Oper := regOps 2 (bodyOf Tryd.f35)
def r35a : List Oper := regOps 1 (bodyOf Tryd.f35)
def c37 : Code := markS [1] (calm [1] (bodyOf Tryd.f37))
def r37 : List Oper := regOps 1 (bodyOf Tryd.f37)
def c42 : Code := markS [1] (bodyOf Tryd.f42)
def r42 : List Oper := regOps 1 (bodyOf Tryd.f42)
def c46 : Code := markS [1, 2] (calm [2] (bodyOf Tryd.f46))
def r46 : List Oper := regOps 2 (bodyOf Tryd.f46)
def r46a : List Oper := regOps 1 (bodyOf Tryd.f46)
def c50 : Code := markS [1] (bodyOf Tryd.f50)
def r50 : List Oper := regOps 1 (bodyOf Tryd.f50)
def c33 : Code := markS [0] (bodyOf Tryd.f33)
def r33 : List Oper := regOps 0 (bodyOf Tryd.f33)
theorem t_putA (mp : Nat) (wc wo ws : Int) (ww wr : Bool) (io id is iof im : Int) (q : Value → Mem → Option α) : Y.codeF c35 Tryd.prog kp 1 (Y.cfT Tryd.prog cf) L 24 k (fullN 24 (argX [.pointer (some ⟨mp,0,none⟩),.agg ⟨[.int .i64 wc,.int .i64 wo,.int .i64 ws,.bool ww,.bool wr]⟩,.agg ⟨[.int .u8 io,.int .u8 id,.int .u8 is,.int .i16 iof,.int .i32 im]⟩])) m (Y.retF Tryd.prog Tryd.f35 q) =
  (L (Y.codeF (Y.loopC c35 0) Tryd.prog kp 1 (Y.cfT Tryd.prog cf) L 24 k) (Y.loopC c35 0) k (fullN 24 (up (up Go.DI.x0 [(2,(.agg ⟨[(.int .u8 io),(.int .u8 id),(.int .u8 is),(.int Go.IntKind.i16 iof),(.int Go.IntKind.i32 im)]⟩)),(1,(.agg ⟨[(.int .i64 wc),(.int .i64 wo),(.int .i64 ws),(.bool ww),(.bool wr)]⟩))]) [(0,(.pointer (some (Addr.mk mp 0 none)))),(4,(.pointer (some (Addr.mk (Mem.size m) 0 none)))),(5,(.pointer (some (Addr.mk (Nat.succ (Mem.size m)) 0 none))))])) (Mem.push (Mem.push m (.cells true [(.int .i64 wc),(.int .i64 wo),(.int .i64 ws),(.bool ww),(.bool wr)])) (.cells true [(.int .u8 io),(.int .u8 id),(.int .u8 is),(.int Go.IntKind.i16 iof),(.int Go.IntKind.i32 im)])) (Y.kont Tryd.prog kp 1 (Y.cfT Tryd.prog cf) L 24 k c35 0 (Y.retF Tryd.prog Tryd.f35 q))):=by kernel_rfl
theorem t_putP (mp b4 b5 : Nat) (q : Tmps → Mem → Option α) : Y.opsF (List.take 7 r35a) Tryd.prog kp 1 (Y.cfT Tryd.prog cf) 24 r35a (fullN 24 (up x [(0,.pointer (some ⟨mp,0,none⟩)),(4,.pointer (some ⟨b4,0,none⟩)),(5,.pointer (some ⟨b5,0,none⟩))])) m q =
  (Y.cellsOf (Mem.get m b4) (fun _ c_9=>(cond (Nat.ble 5 (Y.lenLF c_9)) (Y.cellsOf (Mem.get m b5) (fun _ c_11=>(cond (Nat.ble 5 (Y.lenLF c_11)) (cf 52 [(.agg ⟨(Y.subL c_9 0 5)⟩),(.agg ⟨(Y.subL c_11 0 5)⟩)] m (fun v_12 m'_13=>(Y.asTup v_12 (fun cs_14=>(Y.unc (Array.toList cs_14) (fun a l=>(Y.asAgg a (fun cs_18=>(Y.unc l (fun a_10 l_11=>(Y.asInt a_10 (fun k'_22 n_23=>(cond (Y.kEq .i64 k'_22) (Y.unc l_11 (fun a_14 l_15=>none) (q (fullN 24 (up (up x [(8,(.tuple ⟨[(.agg cs_18),(.int .i64 n_23)]⟩)),(4,(.pointer (some (Addr.mk b4 0 none)))),(10,(.agg ⟨(Y.subL c_11 0 5)⟩)),(9,(.agg ⟨(Y.subL c_9 0 5)⟩)),(5,(.pointer (some (Addr.mk b5 0 none)))),(11,(.tuple ⟨[(.agg cs_18),(.int .i64 n_23)]⟩))]) [(0,(.pointer (some (Addr.mk mp 0 none)))),(6,(.pointer (some (Addr.mk (Mem.size m'_13) 0 none)))),(12,(.agg cs_18)),(13,(.int .i64 n_23))])) (Mem.push m'_13 (.cells true [(.int .u8 (0:Int)),(.int .u8 (0:Int)),(.int .u8 (0:Int)),(.int Go.IntKind.i16 (0:Int)),(.int Go.IntKind.i32 (0:Int))])))) none)) none)) none)) none)) none))))) none))) none))):=by kernel_rfl
theorem t_putJ (mp b6 : Nat) (q : Value → Mem → Option α) : Y.kont Tryd.prog kp 1 (Y.cfT Tryd.prog cf) L 24 k c35 0 (Y.retF Tryd.prog Tryd.f35 q) .normal (fullN 24 (up x [(0,.pointer (some ⟨mp,0,none⟩)),(6,.pointer (some ⟨b6,0,none⟩))])) m =
  (L (Y.codeF (Y.loopC c35 1) Tryd.prog kp 1 (Y.cfT Tryd.prog cf) L 24 k) (Y.loopC c35 1) k (fullN 24 (up x [(0,(.pointer (some (Addr.mk mp 0 none)))),(6,(.pointer (some (Addr.mk b6 0 none))))])) m (Y.kont Tryd.prog kp 1 (Y.cfT Tryd.prog cf) L 24 k c35 1 (Y.retF Tryd.prog Tryd.f35 q))):=by kernel_rfl
theorem t_putB (mp b6 : Nat) (q : Tmps → Mem → Option α) : Y.opsF (List.take 6 r35) Tryd.prog kp 1 (Y.cfT Tryd.prog cf) 24 r35 (fullN 24 (up x [(0,.pointer (some ⟨mp,0,none⟩)),(6,.pointer (some ⟨b6,0,none⟩))])) m q =
  (Y.cellsOf (Mem.get m mp) (fun _ c_8=>(Option.elim (Y.nthL c_8 0) none (fun o9=>(Y.asSl o9 (fun a_10 n_11 c_12=>(Y.cellsOf (Mem.get m b6) (fun _ c_14=>(cond (Nat.ble 5 (Y.lenLF c_14)) (q (fullN 24 (up (up x [(16,(.pointer (some (Addr.mk mp 0 none)))),(6,(.pointer (some (Addr.mk b6 0 none)))),(17,(.pointer (some (Addr.mk mp 0 none)))),(15,(.pointer (some (Addr.mk mp 0 none))))]) [(0,(.pointer (some (Addr.mk mp 0 none)))),(14,(.pointer (some (Addr.mk mp 0 none)))),(18,(.slice a_10 n_11 c_12)),(19,(.agg ⟨(Y.subL c_14 0 5)⟩))])) m) none)))) none))))):=by kernel_rfl
theorem t_putB2 (mp : Nat) (v18 : Value) (io id is iof im : Int) (q : Tmps → Mem → Option α) : Y.opsF (List.take 1 (List.drop 6 r35)) Tryd.prog kp 1 (Y.cfT Tryd.prog cf) 24 r35 (fullN 24 (up x [(0,.pointer (some ⟨mp,0,none⟩)),(14,.pointer (some ⟨mp,0,none⟩)),(18,v18),(19,.agg ⟨[.int .u8 io,.int .u8 id,.int .u8 is,.int .i16 iof,.int .i32 im]⟩)])) m q =
  (q (fullN 24 (up (up x [(19,(.agg ⟨[(.int .u8 io),(.int .u8 id),(.int .u8 is),(.int Go.IntKind.i16 iof),(.int Go.IntKind.i32 im)]⟩))]) [(0,(.pointer (some (Addr.mk mp 0 none)))),(14,(.pointer (some (Addr.mk mp 0 none)))),(18,v18),(20,(.slice (some (Addr.mk (Mem.size m) 0 none)) 1 1))])) (Mem.push m (.cells true [(.int .u8 io),(.int .u8 id),(.int .u8 is),(.int Go.IntKind.i16 iof),(.int Go.IntKind.i32 im)]))):=by kernel_rfl
theorem t_putK (v0 : Value) (q : Value → Mem → Option α) : Y.kont Tryd.prog kp 1 (Y.cfT Tryd.prog cf) L 24 k c35 1 (Y.retF Tryd.prog Tryd.f35 q) .normal (fullN 24 (up x [(0,v0)])) m =
  (q (.tuple ⟨[]⟩) m):=by kernel_rfl
theorem t_jumpA (mp lp : Nat) (wc wo ws : Int) (ww wr : Bool) (io id is iof im : Int) (q : Value → Mem → Option α) : Y.codeF c37 Tryd.prog kp 1 (Y.cfT Tryd.prog cf) L 26 k (fullN 26 (argX [.pointer (some ⟨mp,0,none⟩),.agg ⟨[.int .i64 wc,.int .i64 wo,.int .i64 ws,.bool ww,.bool wr]⟩,.agg ⟨[.int .u8 io,.int .u8 id,.int .u8 is,.int .i16 iof,.int .i32 im]⟩,.pointer (some ⟨lp,0,none⟩)])) m (Y.retF Tryd.prog Tryd.f37 q) =
  (L (Y.codeF (Y.loopC c37 0) Tryd.prog kp 1 (Y.cfT Tryd.prog cf) L 26 k) (Y.loopC c37 0) k (fullN 26 (up (up Go.DI.x0 [(2,(.agg ⟨[(.int .u8 io),(.int .u8 id),(.int .u8 is),(.int Go.IntKind.i16 iof),(.int Go.IntKind.i32 im)]⟩)),(1,(.agg ⟨[(.int .i64 wc),(.int .i64 wo),(.int .i64 ws),(.bool ww),(.bool wr)]⟩))]) [(0,(.pointer (some (Addr.mk mp 0 none)))),(3,(.pointer (some (Addr.mk lp 0 none)))),(5,(.pointer (some (Addr.mk (Mem.size m) 0 none)))),(6,(.pointer (some (Addr.mk (Nat.succ (Mem.size m)) 0 none))))])) (Mem.push (Mem.push m (.cells true [(.int .i64 wc),(.int .i64 wo),(.int .i64 ws),(.bool ww),(.bool wr)])) (.cells true [(.int .u8 io),(.int .u8 id),(.int .u8 is),(.int Go.IntKind.i16 iof),(.int Go.IntKind.i32 im)])) (Y.kont Tryd.prog kp 1 (Y.cfT Tryd.prog cf) L 26 k c37 0 (Y.retF Tryd.prog Tryd.f37 q))):=by kernel_rfl
theorem t_jumpB (mp lp b5 b6 : Nat) (q : Tmps → Mem → Option α) : Y.opsF (List.take 11 r37) Tryd.prog kp 1 (Y.cfT Tryd.prog cf) 26 r37 (fullN 26 (up x [(0,.pointer (some ⟨mp,0,none⟩)),(3,.pointer (some ⟨lp,0,none⟩)),(5,.pointer (some ⟨b5,0,none⟩)),(6,.pointer (some ⟨b6,0,none⟩))])) m q =
  (Y.cellsOf (Mem.get m lp) (fun _ c_10=>(Option.elim (Y.nthL c_10 1) none (fun o11=>(Y.asSl o11 (fun a_12 n_13 c_14=>(Y.cellsOf (Mem.get m mp) (fun _ c_16=>(Option.elim (Y.nthL c_16 0) none (fun o17=>(Y.asSl o17 (fun a_18 n_19 c_20=>(q (fullN 26 (up (up x [(16,(.slice a_18 n_19 c_20)),(10,(.pointer (some (Addr.mk lp 0 none)))),(14,(.pointer (some (Addr.mk mp 0 none)))),(17,(.int .i64 (Int.ofNat n_19))),(9,(.pointer (some (Addr.mk lp 0 none)))),(13,(.pointer (some (Addr.mk mp 0 none)))),(3,(.pointer (some (Addr.mk lp 0 none)))),(11,(.pointer (some (Addr.mk lp 1 none)))),(15,(.pointer (some (Addr.mk mp 0 none))))]) [(0,(.pointer (some (Addr.mk mp 0 none)))),(5,(.pointer (some (Addr.mk b5 0 none)))),(6,(.pointer (some (Addr.mk b6 0 none)))),(8,(.pointer (some (Addr.mk lp 0 none)))),(12,(.slice a_12 n_13 c_14)),(18,(.slice (some (Addr.mk (Mem.size m) 0 none)) 1 1))])) (Mem.push m (.cells true [(.int .i64 (Int.ofNat n_19))])))) none)))))) none))))):=by kernel_rfl
theorem t_jumpK (mp b5 b6 : Nat) (q : Value → Mem → Option α) : Y.kont Tryd.prog kp 1 (Y.cfT Tryd.prog cf) L 26 k c37 0 (Y.retF Tryd.prog Tryd.f37 q) .normal (fullN 26 (up x [(0,.pointer (some ⟨mp,0,none⟩)),(5,.pointer (some ⟨b5,0,none⟩)),(6,.pointer (some ⟨b6,0,none⟩))])) m =
  (Y.cellsOf (Mem.get m b5) (fun _ c_11=>(cond (Nat.ble 5 (Y.lenLF c_11)) (Y.cellsOf (Mem.get m b6) (fun _ c_13=>(cond (Nat.ble 5 (Y.lenLF c_13)) (cf 35 [(.pointer (some (Addr.mk mp 0 none))),(.agg ⟨(Y.subL c_11 0 5)⟩),(.agg ⟨(Y.subL c_13 0 5)⟩)] m (fun v_14 m'_15=>(q (.tuple ⟨[]⟩) m'_15))) none))) none))):=by kernel_rfl
theorem t_konA (mp : Nat) (d n : Int) (q : Value → Mem → Option α) : Y.codeF c42 Tryd.prog kp 1 (Y.cfT Tryd.prog cf) L 28 k (fullN 28 (argX [.pointer (some ⟨mp,0,none⟩),.int .u8 d,.int .u64 n])) m (Y.retF Tryd.prog Tryd.f42 q) =
  (cf 35 [(.pointer (some (Addr.mk mp 0 none))),(.agg ⟨[(.int .i64 (10 : Int)),(.int .i64 (0:Int)),(.int .i64 (0:Int)),(.bool false),(.bool false)]⟩),(.agg ⟨[(.int .u8 (0:Int)),(.int .u8 d),(.int .u8 (0:Int)),(.int Go.IntKind.i16 (0:Int)),(.int Go.IntKind.i32 (IntKind.wrap Go.IntKind.i32 (IntKind.wrap Go.IntKind.u32 n)))]⟩)] m (fun v_9 m'_10=>(L (Y.codeF (Y.loopC c42 0) Tryd.prog kp 1 (Y.cfT Tryd.prog cf) L 28 k) (Y.loopC c42 0) k (fullN 28 (up (up Go.DI.x0 [(8,(.int .u8 d)),(12,(.agg ⟨[(.int .u8 (0:Int)),(.int .u8 d),(.int .u8 (0:Int)),(.int Go.IntKind.i16 (0:Int)),(.int Go.IntKind.i32 (IntKind.wrap Go.IntKind.i32 (IntKind.wrap Go.IntKind.u32 n)))]⟩)),(10,(.int Go.IntKind.u32 (IntKind.wrap Go.IntKind.u32 n))),(6,(.pointer (some (Addr.mk mp 0 none)))),(1,(.int .u8 d)),(9,(.int .u64 n)),(13,v_9),(11,(.int Go.IntKind.i32 (IntKind.wrap Go.IntKind.i32 (IntKind.wrap Go.IntKind.u32 n)))),(7,(.agg ⟨[(.int .i64 (10 : Int)),(.int .i64 (0:Int)),(.int .i64 (0:Int)),(.bool false),(.bool false)]⟩))]) [(0,(.pointer (some (Addr.mk mp 0 none)))),(2,(.int .u64 n))])) m'_10 (Y.kont Tryd.prog kp 1 (Y.cfT Tryd.prog cf) L 28 k c42 0 (Y.retF Tryd.prog Tryd.f42 q))))):=by kernel_rfl
theorem t_konB (mp : Nat) (n : Int) (q : Tmps → Mem → Option α) : Y.opsF (List.take 11 r42) Tryd.prog kp 1 (Y.cfT Tryd.prog cf) 28 r42 (fullN 28 (up x [(0,.pointer (some ⟨mp,0,none⟩)),(2,.int .u64 n)])) m q =
  (Y.cellsOf (Mem.get m mp) (fun _ c_8=>(Option.elim (Y.nthL c_8 0) none (fun o9=>(Y.asSl o9 (fun a_10 n_11 c_12=>(q (fullN 28 (up (up x [(16,(.pointer (some (Addr.mk mp 0 none)))),(20,(.int .u64 (Int.fdiv n 4294967296))),(2,(.int .u64 n)),(22,(.int Go.IntKind.i32 (IntKind.wrap Go.IntKind.i32 (IntKind.wrap Go.IntKind.u32 (Int.fdiv n 4294967296))))),(17,(.pointer (some (Addr.mk mp 0 none)))),(21,(.int Go.IntKind.u32 (IntKind.wrap Go.IntKind.u32 (Int.fdiv n 4294967296)))),(19,(.int .u64 n)),(23,(.agg ⟨[(.int .u8 (0:Int)),(.int .u8 (0:Int)),(.int .u8 (0:Int)),(.int Go.IntKind.i16 (0:Int)),(.int Go.IntKind.i32 (IntKind.wrap Go.IntKind.i32 (IntKind.wrap Go.IntKind.u32 (Int.fdiv n 4294967296))))]⟩)),(15,(.pointer (some (Addr.mk mp 0 none))))]) [(0,(.pointer (some (Addr.mk mp 0 none)))),(14,(.pointer (some (Addr.mk mp 0 none)))),(18,(.slice a_10 n_11 c_12)),(24,(.slice (some (Addr.mk (Mem.size m) 0 none)) 1 1))])) (Mem.push m (.cells true [(.int .u8 (0:Int)),(.int .u8 (0:Int)),(.int .u8 (0:Int)),(.int Go.IntKind.i16 (0:Int)),(.int Go.IntKind.i32 (IntKind.wrap Go.IntKind.i32 (IntKind.wrap Go.IntKind.u32 (Int.fdiv n 4294967296))))])))) none))))):=by kernel_rfl
theorem t_konK (v0 : Value) (q : Value → Mem → Option α) : Y.kont Tryd.prog kp 1 (Y.cfT Tryd.prog cf) L 28 k c42 0 (Y.retF Tryd.prog Tryd.f42 q) .normal (fullN 28 (up x [(0,v0)])) m =
  (q (.tuple ⟨[]⟩) m):=by kernel_rfl
theorem t_PutA (mp : Nat) (wc wo ws : Int) (ww wr : Bool) (io id is iof im : Int) (to : Int) (q : Value → Mem → Option α) : Y.codeF c46 Tryd.prog kp 1 (Y.cfT Tryd.prog cf) L 28 k (fullN 28 (argX [.pointer (some ⟨mp,0,none⟩),.agg ⟨[.int .i64 wc,.int .i64 wo,.int .i64 ws,.bool ww,.bool wr]⟩,.agg ⟨[.int .u8 io,.int .u8 id,.int .u8 is,.int .i16 iof,.int .i32 im]⟩,.int .i64 to])) m (Y.retF Tryd.prog Tryd.f46 q) =
  (L (Y.codeF (Y.loopC c46 0) Tryd.prog kp 1 (Y.cfT Tryd.prog cf) L 28 k) (Y.loopC c46 0) k (fullN 28 (up (up Go.DI.x0 [(2,(.agg ⟨[(.int .u8 io),(.int .u8 id),(.int .u8 is),(.int Go.IntKind.i16 iof),(.int Go.IntKind.i32 im)]⟩)),(1,(.agg ⟨[(.int .i64 wc),(.int .i64 wo),(.int .i64 ws),(.bool ww),(.bool wr)]⟩))]) [(0,(.pointer (some (Addr.mk mp 0 none)))),(3,(.int .i64 to)),(5,(.pointer (some (Addr.mk (Mem.size m) 0 none)))),(6,(.pointer (some (Addr.mk (Nat.succ (Mem.size m)) 0 none))))])) (Mem.push (Mem.push m (.cells true [(.int .i64 wc),(.int .i64 wo),(.int .i64 ws),(.bool ww),(.bool wr)])) (.cells true [(.int .u8 io),(.int .u8 id),(.int .u8 is),(.int Go.IntKind.i16 iof),(.int Go.IntKind.i32 im)])) (Y.kont Tryd.prog kp 1 (Y.cfT Tryd.prog cf) L 28 k c46 0 (Y.retF Tryd.prog Tryd.f46 q))):=by kernel_rfl
theorem t_PutP (mp b5 b6 : Nat) (to : Int) (q : Tmps → Mem → Option α) : Y.opsF (List.take 7 r46a) Tryd.prog kp 1 (Y.cfT Tryd.prog cf) 28 r46a (fullN 28 (up x [(0,.pointer (some ⟨mp,0,none⟩)),(3,.int .i64 to),(5,.pointer (some ⟨b5,0,none⟩)),(6,.pointer (some ⟨b6,0,none⟩))])) m q =
  (Y.cellsOf (Mem.get m b5) (fun _ c_10=>(cond (Nat.ble 5 (Y.lenLF c_10)) (Y.cellsOf (Mem.get m b6) (fun _ c_12=>(cond (Nat.ble 5 (Y.lenLF c_12)) (cf 53 [(.agg ⟨(Y.subL c_10 0 5)⟩),(.agg ⟨(Y.subL c_12 0 5)⟩)] m (fun v_13 m'_14=>(Y.asTup v_13 (fun cs_15=>(Y.unc (Array.toList cs_15) (fun a l=>(Y.asAgg a (fun cs_19=>(Y.unc l (fun a_10 l_11=>(Y.asInt a_10 (fun k'_23 n_24=>(cond (Y.kEq .i64 k'_23) (Y.unc l_11 (fun a_14 l_15=>none) (q (fullN 28 (up (up x [(12,(.agg ⟨(Y.subL c_12 0 5)⟩)),(10,(.tuple ⟨[(.agg cs_19),(.int .i64 n_24)]⟩)),(6,(.pointer (some (Addr.mk b6 0 none)))),(5,(.pointer (some (Addr.mk b5 0 none)))),(13,(.tuple ⟨[(.agg cs_19),(.int .i64 n_24)]⟩)),(11,(.agg ⟨(Y.subL c_10 0 5)⟩))]) [(0,(.pointer (some (Addr.mk mp 0 none)))),(3,(.int .i64 to)),(8,(.pointer (some (Addr.mk (Mem.size m'_14) 0 none)))),(14,(.agg cs_19)),(15,(.int .i64 n_24))])) (Mem.push m'_14 (.cells true [(.int .u8 (0:Int)),(.int .u8 (0:Int)),(.int .u8 (0:Int)),(.int Go.IntKind.i16 (0:Int)),(.int Go.IntKind.i32 (0:Int))])))) none)) none)) none)) none)) none))))) none))) none))):=by kernel_rfl
theorem t_PutJ (mp b8 : Nat) (to : Int) (q : Value → Mem → Option α) : Y.kont Tryd.prog kp 1 (Y.cfT Tryd.prog cf) L 28 k c46 0 (Y.retF Tryd.prog Tryd.f46 q) .normal (fullN 28 (up x [(0,.pointer (some ⟨mp,0,none⟩)),(3,.int .i64 to),(8,.pointer (some ⟨b8,0,none⟩))])) m =
  (L (Y.codeF (Y.loopC c46 1) Tryd.prog kp 1 (Y.cfT Tryd.prog cf) L 28 k) (Y.loopC c46 1) k (fullN 28 (up x [(0,(.pointer (some (Addr.mk mp 0 none)))),(3,(.int .i64 to)),(8,(.pointer (some (Addr.mk b8 0 none))))])) m (Y.kont Tryd.prog kp 1 (Y.cfT Tryd.prog cf) L 28 k c46 1 (Y.retF Tryd.prog Tryd.f46 q))):=by kernel_rfl
theorem t_PutB (mp b8 : Nat) (to : Int) (q : Tmps → Mem → Option α) : Y.opsF (List.take 7 r46) Tryd.prog kp 1 (Y.cfT Tryd.prog cf) 28 r46 (fullN 28 (up x [(0,.pointer (some ⟨mp,0,none⟩)),(3,.int .i64 to),(8,.pointer (some ⟨b8,0,none⟩))])) m q =
  (Y.cellsOf (Mem.get m mp) (fun _ c_9=>(Option.elim (Y.nthL c_9 0) none (fun o10=>(Y.asSl o10 (fun a_11 n_12 c_13=>(Y.cellsOf (Mem.get m b8) (fun _ c_15=>(cond (Nat.ble 5 (Y.lenLF c_15)) (q (fullN 28 (up (up x [(8,(.pointer (some (Addr.mk b8 0 none)))),(18,(.pointer (some (Addr.mk mp 0 none)))),(17,(.pointer (some (Addr.mk mp 0 none)))),(3,(.int .i64 to)),(19,(.pointer (some (Addr.mk mp 0 none))))]) [(0,(.pointer (some (Addr.mk mp 0 none)))),(16,(.pointer (some (Addr.mk mp 0 none)))),(20,(.slice a_11 n_12 c_13)),(21,(.agg ⟨(Y.subL c_15 0 5)⟩)),(22,(.int .i64 to))])) m) none)))) none))))):=by kernel_rfl
theorem t_PutB2 (mp : Nat) (v20 : Value) (io id is iof im : Int) (to : Int) (q : Tmps → Mem → Option α) : Y.opsF (List.take 2 (List.drop 7 r46)) Tryd.prog kp 1 (Y.cfT Tryd.prog cf) 28 r46 (fullN 28 (up x [(0,.pointer (some ⟨mp,0,none⟩)),(16,.pointer (some ⟨mp,0,none⟩)),(20,v20),(21,.agg ⟨[.int .u8 io,.int .u8 id,.int .u8 is,.int .i16 iof,.int .i32 im]⟩),(22,.int .i64 to)])) m q =
  (q (fullN 28 (up (up x [(22,(.int .i64 to)),(21,(.agg ⟨[(.int .u8 io),(.int .u8 id),(.int .u8 is),(.int Go.IntKind.i16 iof),(.int Go.IntKind.i32 im)]⟩)),(23,(.agg ⟨[(.int .u8 io),(.int .u8 id),(.int .u8 is),(.int Go.IntKind.i16 iof),(.int Go.IntKind.i32 im),(.int .i64 to),(.int .i64 (0:Int))]⟩))]) [(0,(.pointer (some (Addr.mk mp 0 none)))),(16,(.pointer (some (Addr.mk mp 0 none)))),(20,v20),(24,(.slice (some (Addr.mk (Mem.size m) 0 none)) 1 1))])) (Mem.push m (.cells true [(.int .u8 io),(.int .u8 id),(.int .u8 is),(.int Go.IntKind.i16 iof),(.int Go.IntKind.i32 im),(.int .i64 to),(.int .i64 (0:Int))]))):=by kernel_rfl
theorem t_PutK (v0 : Value) (q : Value → Mem → Option α) : Y.kont Tryd.prog kp 1 (Y.cfT Tryd.prog cf) L 28 k c46 1 (Y.retF Tryd.prog Tryd.f46 q) .normal (fullN 28 (up x [(0,v0)])) m =
  (q (.tuple ⟨[]⟩) m):=by kernel_rfl
theorem t_ConA (mp : Nat) (n : Int) (q : Value → Mem → Option α) : Y.codeF c50 Tryd.prog kp 1 (Y.cfT Tryd.prog cf) L 27 k (fullN 27 (argX [.pointer (some ⟨mp,0,none⟩),.int .u64 n])) m (Y.retF Tryd.prog Tryd.f50 q) =
  (cf 46 [(.pointer (some (Addr.mk mp 0 none))),(.agg ⟨[(.int .i64 (10 : Int)),(.int .i64 (0:Int)),(.int .i64 (0:Int)),(.bool false),(.bool false)]⟩),(.agg ⟨[(.int .u8 (0:Int)),(.int .u8 (3 : Int)),(.int .u8 (0:Int)),(.int Go.IntKind.i16 (0:Int)),(.int Go.IntKind.i32 (IntKind.wrap Go.IntKind.i32 (IntKind.wrap Go.IntKind.u32 (Int.tmod n (4294967296 : Int)))))]⟩),(.int .i64 (0:Int))] m (fun v_8 m'_9=>(L (Y.codeF (Y.loopC c50 0) Tryd.prog kp 1 (Y.cfT Tryd.prog cf) L 27 k) (Y.loopC c50 0) k (fullN 27 (up (up Go.DI.x0 [(8,(.int Go.IntKind.u32 (IntKind.wrap Go.IntKind.u32 (Int.tmod n (4294967296 : Int))))),(4,(.pointer (some (Addr.mk mp 0 none)))),(10,(.agg ⟨[(.int .u8 (0:Int)),(.int .u8 (3 : Int)),(.int .u8 (0:Int)),(.int Go.IntKind.i16 (0:Int)),(.int Go.IntKind.i32 (IntKind.wrap Go.IntKind.i32 (IntKind.wrap Go.IntKind.u32 (Int.tmod n (4294967296 : Int)))))]⟩)),(6,(.int .u64 n)),(9,(.int Go.IntKind.i32 (IntKind.wrap Go.IntKind.i32 (IntKind.wrap Go.IntKind.u32 (Int.tmod n (4294967296 : Int)))))),(5,(.agg ⟨[(.int .i64 (10 : Int)),(.int .i64 (0:Int)),(.int .i64 (0:Int)),(.bool false),(.bool false)]⟩)),(11,v_8),(7,(.int .u64 (Int.tmod n (4294967296 : Int))))]) [(0,(.pointer (some (Addr.mk mp 0 none)))),(1,(.int .u64 n))])) m'_9 (Y.kont Tryd.prog kp 1 (Y.cfT Tryd.prog cf) L 27 k c50 0 (Y.retF Tryd.prog Tryd.f50 q))))):=by kernel_rfl
theorem t_ConB (mp : Nat) (n : Int) (q : Tmps → Mem → Option α) : Y.opsF (List.take 12 r50) Tryd.prog kp 1 (Y.cfT Tryd.prog cf) 27 r50 (fullN 27 (up x [(0,.pointer (some ⟨mp,0,none⟩)),(1,.int .u64 n)])) m q =
  (Y.cellsOf (Mem.get m mp) (fun _ c_8=>(Option.elim (Y.nthL c_8 0) none (fun o9=>(Y.asSl o9 (fun a_10 n_11 c_12=>(q (fullN 27 (up (up x [(20,(.int Go.IntKind.i32 (IntKind.wrap Go.IntKind.i32 (IntKind.wrap Go.IntKind.u32 (IntKind.wrap .u64 (Int.tdiv n (4294967296 : Int))))))),(18,(.int .u64 (IntKind.wrap .u64 (Int.tdiv n (4294967296 : Int))))),(22,(.agg ⟨[(.int .u8 (0:Int)),(.int .u8 (0:Int)),(.int .u8 (0:Int)),(.int Go.IntKind.i16 (0:Int)),(.int Go.IntKind.i32 (IntKind.wrap Go.IntKind.i32 (IntKind.wrap Go.IntKind.u32 (IntKind.wrap .u64 (Int.tdiv n (4294967296 : Int)))))),(.int .i64 (0:Int)),(.int .i64 (0:Int))]⟩)),(14,(.pointer (some (Addr.mk mp 0 none)))),(1,(.int .u64 n)),(17,(.int .u64 n)),(21,(.agg ⟨[(.int .u8 (0:Int)),(.int .u8 (0:Int)),(.int .u8 (0:Int)),(.int Go.IntKind.i16 (0:Int)),(.int Go.IntKind.i32 (IntKind.wrap Go.IntKind.i32 (IntKind.wrap Go.IntKind.u32 (IntKind.wrap .u64 (Int.tdiv n (4294967296 : Int))))))]⟩)),(13,(.pointer (some (Addr.mk mp 0 none)))),(19,(.int Go.IntKind.u32 (IntKind.wrap Go.IntKind.u32 (IntKind.wrap .u64 (Int.tdiv n (4294967296 : Int)))))),(15,(.pointer (some (Addr.mk mp 0 none))))]) [(0,(.pointer (some (Addr.mk mp 0 none)))),(12,(.pointer (some (Addr.mk mp 0 none)))),(16,(.slice a_10 n_11 c_12)),(23,(.slice (some (Addr.mk (Mem.size m) 0 none)) 1 1))])) (Mem.push m (.cells true [(.int .u8 (0:Int)),(.int .u8 (0:Int)),(.int .u8 (0:Int)),(.int Go.IntKind.i16 (0:Int)),(.int Go.IntKind.i32 (IntKind.wrap Go.IntKind.i32 (IntKind.wrap Go.IntKind.u32 (IntKind.wrap .u64 (Int.tdiv n (4294967296 : Int)))))),(.int .i64 (0:Int)),(.int .i64 (0:Int))])))) none))))):=by kernel_rfl
theorem t_ConK (v0 : Value) (q : Value → Mem → Option α) : Y.kont Tryd.prog kp 1 (Y.cfT Tryd.prog cf) L 27 k c50 0 (Y.retF Tryd.prog Tryd.f50 q) .normal (fullN 27 (up x [(0,v0)])) m =
  (q (.tuple ⟨[]⟩) m):=by kernel_rfl
theorem t_HereA (mp : Nat) (l : Int) (q : Value → Mem → Option α) : Y.codeF c33 Tryd.prog kp 1 (Y.cfT Tryd.prog cf) L 15 k (fullN 15 (argX [.pointer (some ⟨mp,0,none⟩),.int .i64 l])) m (Y.retF Tryd.prog Tryd.f33 q) =
  (L (Y.codeF (Y.loopC c33 0) Tryd.prog kp 1 (Y.cfT Tryd.prog cf) L 15 k) (Y.loopC c33 0) k (fullN 15 (up Go.DI.x0 [(0,(.pointer (some (Addr.mk mp 0 none)))),(1,(.int .i64 l))])) m (Y.kont Tryd.prog kp 1 (Y.cfT Tryd.prog cf) L 15 k c33 0 (Y.retF Tryd.prog Tryd.f33 q))):=by kernel_rfl
theorem t_HereB (mp : Nat) (l : Int) (q : Tmps → Mem → Option α) : Y.opsF (List.take 8 r33) Tryd.prog kp 1 (Y.cfT Tryd.prog cf) 15 r33 (fullN 15 (up x [(0,.pointer (some ⟨mp,0,none⟩)),(1,.int .i64 l)])) m q =
  (Y.cellsOf (Mem.get m mp) (fun _ c_8=>(Option.elim (Y.nthL c_8 0) none (fun o9=>(Y.asSl o9 (fun a_10 n_11 c_12=>(q (fullN 15 (up (up x [(10,(.agg ⟨[(.int .u8 (0:Int)),(.int .u8 (0:Int)),(.int .u8 (0:Int)),(.int Go.IntKind.i16 (0:Int)),(.int Go.IntKind.i32 (0:Int)),(.int .i64 (0:Int)),(.int .i64 l)]⟩)),(6,(.pointer (some (Addr.mk mp 0 none)))),(1,(.int .i64 l)),(9,(.int .i64 l)),(5,(.pointer (some (Addr.mk mp 0 none)))),(7,(.pointer (some (Addr.mk mp 0 none))))]) [(0,(.pointer (some (Addr.mk mp 0 none)))),(4,(.pointer (some (Addr.mk mp 0 none)))),(8,(.slice a_10 n_11 c_12)),(11,(.slice (some (Addr.mk (Mem.size m) 0 none)) 1 1))])) (Mem.push m (.cells true [(.int .u8 (0:Int)),(.int .u8 (0:Int)),(.int .u8 (0:Int)),(.int Go.IntKind.i16 (0:Int)),(.int Go.IntKind.i32 (0:Int)),(.int .i64 (0:Int)),(.int .i64 l)])))) none))))):=by kernel_rfl
theorem t_HereK (v0 : Value) (q : Value → Mem → Option α) : Y.kont Tryd.prog kp 1 (Y.cfT Tryd.prog cf) L 15 k c33 0 (Y.retF Tryd.prog Tryd.f33 q) .normal (fullN 15 (up x [(0,v0)])) m =
  (q (.tuple ⟨[]⟩) m):=by kernel_rfl
end
end Go.Proofs.YtadioopbehiakaaDoor
namespace Go.Proofs.YtadioopbehiakaaDoor
open Go Go.DI Go.DI.Kit Go.Proofs Go.Cmp
noncomputable section
set_option maxHeartbeats 4000000
variable {α : Type} (x : Nat → Value) (cf : Y.CF α) (L : Y.LK α) (k : Nat) (m : Mem)
theorem t_putC (mp : Nat) (w0 u v : Value) (q : Tmps → Mem → Option α) : Y.opsF (List.drop 7 r35) Tryd.prog kp 1 (Y.cfT Tryd.prog cf) 24 r35 (fullN 24 (up x [(0,w0),(14,.pointer (some ⟨mp,0,none⟩)),(18,u),(20,v)])) m q =
  Y.appendF Tryd.prog m 28 28 u v fun a m' => Y.storeF Tryd.prog m' 28 a (.pointer (some ⟨mp, 0, none⟩)) fun m'' => q (fullN 24 (up (up x [(14, .pointer (some ⟨mp, 0, none⟩)), (18, u), (20, v), (21, a), (22, .pointer (some ⟨mp, 0, none⟩)), (23, .pointer (some ⟨mp, 0, none⟩))]) [(0, w0)])) m'' := by kernel_rfl
theorem t_jumpC (mp : Nat) (w0 w5 w6 u v : Value) (q : Tmps → Mem → Option α) : Y.opsF (List.drop 11 r37) Tryd.prog kp 1 (Y.cfT Tryd.prog cf) 26 r37 (fullN 26 (up x [(0,w0),(5,w5),(6,w6),(8,.pointer (some ⟨mp,0,none⟩)),(12,u),(18,v)])) m q =
  Y.appendF Tryd.prog m 63 63 u v fun a m' => Y.storeF Tryd.prog m' 63 a (.pointer (some ⟨mp, 1, none⟩)) fun m'' => q (fullN 26 (up (up x [(8, .pointer (some ⟨mp, 0, none⟩)), (12, u), (18, v), (19, a), (20, .pointer (some ⟨mp, 0, none⟩)), (21, .pointer (some ⟨mp, 1, none⟩))]) [(0, w0), (5, w5), (6, w6)])) m'' := by kernel_rfl
theorem t_konC (mp : Nat) (w0 u v : Value) (q : Tmps → Mem → Option α) : Y.opsF (List.drop 11 r42) Tryd.prog kp 1 (Y.cfT Tryd.prog cf) 28 r42 (fullN 28 (up x [(0,w0),(14,.pointer (some ⟨mp,0,none⟩)),(18,u),(24,v)])) m q =
  Y.appendF Tryd.prog m 28 28 u v fun a m' => Y.storeF Tryd.prog m' 28 a (.pointer (some ⟨mp, 0, none⟩)) fun m'' => q (fullN 28 (up (up x [(14, .pointer (some ⟨mp, 0, none⟩)), (18, u), (24, v), (25, a), (26, .pointer (some ⟨mp, 0, none⟩)), (27, .pointer (some ⟨mp, 0, none⟩))]) [(0, w0)])) m'' := by kernel_rfl
theorem t_PutC (mp : Nat) (w0 u v : Value) (q : Tmps → Mem → Option α) : Y.opsF (List.drop 9 r46) Tryd.prog kp 1 (Y.cfT Tryd.prog cf) 28 r46 (fullN 28 (up x [(0,w0),(16,.pointer (some ⟨mp,0,none⟩)),(20,u),(24,v)])) m q =
  Y.appendF Tryd.prog m 73 73 u v fun a m' => Y.storeF Tryd.prog m' 73 a (.pointer (some ⟨mp, 0, none⟩)) fun m'' => q (fullN 28 (up (up x [(16, .pointer (some ⟨mp, 0, none⟩)), (20, u), (24, v), (25, a), (26, .pointer (some ⟨mp, 0, none⟩)), (27, .pointer (some ⟨mp, 0, none⟩))]) [(0, w0)])) m'' := by kernel_rfl
theorem t_ConC (mp : Nat) (w0 u v : Value) (q : Tmps → Mem → Option α) : Y.opsF (List.drop 12 r50) Tryd.prog kp 1 (Y.cfT Tryd.prog cf) 27 r50 (fullN 27 (up x [(0,w0),(12,.pointer (some ⟨mp,0,none⟩)),(16,u),(23,v)])) m q =
  Y.appendF Tryd.prog m 73 73 u v fun a m' => Y.storeF Tryd.prog m' 73 a (.pointer (some ⟨mp, 0, none⟩)) fun m'' => q (fullN 27 (up (up x [(12, .pointer (some ⟨mp, 0, none⟩)), (16, u), (23, v), (24, a), (25, .pointer (some ⟨mp, 0, none⟩)), (26, .pointer (some ⟨mp, 0, none⟩))]) [(0, w0)])) m'' := by kernel_rfl
theorem t_HereC (mp : Nat) (w0 u v : Value) (q : Tmps → Mem → Option α) : Y.opsF (List.drop 8 r33) Tryd.prog kp 1 (Y.cfT Tryd.prog cf) 15 r33 (fullN 15 (up x [(0,w0),(4,.pointer (some ⟨mp,0,none⟩)),(8,u),(11,v)])) m q =
  Y.appendF Tryd.prog m 73 73 u v fun a m' => Y.storeF Tryd.prog m' 73 a (.pointer (some ⟨mp, 0, none⟩)) fun m'' => q (fullN 15 (up (up x [(4, .pointer (some ⟨mp, 0, none⟩)), (8, u), (11, v), (12, a), (13, .pointer (some ⟨mp, 0, none⟩)), (14, .pointer (some ⟨mp, 0, none⟩))]) [(0, w0)])) m'' := by kernel_rfl
theorem t_putS (b : Nat) (w0 u v : Value) (q : Tmps → Mem → Option α) : Y.opsF (List.drop 7 r35a) Tryd.prog kp 1 (Y.cfT Tryd.prog cf) 24 r35a (fullN 24 (up x [(0,w0),(6,.pointer (some ⟨b,0,none⟩)),(12,u),(13,v)])) m q =
  Y.storeF Tryd.prog m 42 u (.pointer (some ⟨b, 0, none⟩)) fun m' => q (fullN 24 (up (up x [(12, u), (13, v), (7, v)]) [(0, w0), (6, .pointer (some ⟨b, 0, none⟩))])) m' := by kernel_rfl
theorem t_PutS (b : Nat) (w0 w3 u v : Value) (q : Tmps → Mem → Option α) : Y.opsF (List.drop 7 r46a) Tryd.prog kp 1 (Y.cfT Tryd.prog cf) 28 r46a (fullN 28 (up x [(0,w0),(3,w3),(8,.pointer (some ⟨b,0,none⟩)),(14,u),(15,v)])) m q =
  Y.storeF Tryd.prog m 42 u (.pointer (some ⟨b, 0, none⟩)) fun m' => q (fullN 28 (up (up x [(14, u), (15, v), (9, v)]) [(0, w0), (3, w3), (8, .pointer (some ⟨b, 0, none⟩))])) m' := by kernel_rfl
theorem t_Label (mp : Nat) (q : Value → Mem → Option α) : Y.codeF (bodyOf Tryd.f28) Tryd.prog kp 1 (Y.cfT Tryd.prog cf) L 14 k (fullN 14 (argX [.pointer (some ⟨mp,0,none⟩)])) m (Y.retF Tryd.prog Tryd.f28 q) =
  Y.loadF Tryd.prog m 3 (.pointer (some ⟨mp, 1, none⟩)) fun v => Y.asInt v (fun k' n => cond (Y.kEq .i64 k') (Y.storeF Tryd.prog m 3 (.int .i64 (IntKind.wrap .i64 (Int.add n 1))) (.pointer (some ⟨mp, 1, none⟩)) fun m' => Y.loadF Tryd.prog m' 3 (.pointer (some ⟨mp, 1, none⟩)) fun v => Y.asInt v (fun k' n => cond (Y.kEq .i64 k') (q (.int .i64 n) m') none) none) none) none := by kernel_rfl
end
end Go.Proofs.YtadioopbehiakaaDoor
