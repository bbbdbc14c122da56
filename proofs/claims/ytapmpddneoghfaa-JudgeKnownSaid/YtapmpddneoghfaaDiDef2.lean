/-
  DiDef2: regions that draw their order; calls.
-/
import Derived.Test.YtapmpddneoghfaaDiCore
namespace Go.DI
section
variable (P : Program) (K : TypeId → Bool) (G : Nat)

/-! ### a region that draws its order -/
def operL : Op → List Operand
  | .move x | .assign x => [x]
  | .pick c a b => [c, a, b]
  | .alloc _ => []
  | .box _ x => [x]
  | .build _ ps => ps.toList.map (·.2)
  | .buildSlice _ _ ps => ps.toList.map (·.2)
  | .insert _ m k v => [m, k, v]
  | .load _ a => [a]
  | .store _ a v => [a, v]
  | .nilCheck x => [x]
  | .binOp _ _ x y _ => [x, y]
  | .unOp _ _ x => [x]
  | .convert _ _ x => [x]
  | .makeFunc _ f c => f.toList ++ c.toList
  | .makeMap _ r => r.toList
  | .makeSlice _ l c => [l, c]
  | .slice _ x l h m => x :: (l.toList ++ (h.toList ++ m.toList))
  | .fieldAddr _ x _ => [x]
  | .field _ x _ => [x]
  | .indexAddr _ x i => [x, i]
  | .index _ x i => [x, i]
  | .lookup _ x k _ => [x, k]
  | .mapUpdate _ m k v => [m, k, v]
  | .extract x _ => [x]
  | .call { callee := .value f, args, argTypes := _ } => f :: args.toList
  | .call { callee := _, args, argTypes := _ } => args.toList
  | _ => []

def looksL (ops : List Oper) (o : Oper) : List Tmp :=
  ((operL o.op).filterMap fun | .tmp t => some t | _ => none) ++
  (match o.guard with
   | some (g, _) => match ops[g]? with
     | some u => u.dst.toList
     | none => []
   | none => [])

def maskD (acc : List Nat) : List Edge → Nat
  | [] => 0
  | e :: l => cond (Region.binds .any e) (2 ^ e.on ||| (acc.getD e.on 0 ||| maskD acc l)) (maskD acc l)

def tabD : List Oper → List Nat → List Nat
  | [], acc => acc
  | o :: l, acc => tabD l (acc ++ [maskD acc o.after.toList])

/-- Does operation j wait for operation i? -/
def befB (T : List Nat) (i j : Nat) : Bool := (T.getD j 0).testBit i

def klassAt (ops : List Oper) (i : Nat) : Nat := match ops[i]? with | some o => klass o.op | none => 0

def pairB (ops : List Oper) (T : List Nat) (i j : Nat) : Bool :=
  match ops[i]?, ops[j]? with
  | some x, some y =>
    (match x.dst with
     | some d => Nat.beq i j || !((looksL ops y).contains d || y.dst == some d) || cond (Nat.blt i j) (befB T i j) (befB T j i)
     | none => true) &&
    (!(Nat.beq (klass x.op) 2 && Nat.beq (klass y.op) 2 && Nat.blt i j) || befB T i j)
  | _, _ => false

def edgesB : List Oper → Nat → Bool
  | [], _ => true
  | o :: l, j => o.after.toList.all (fun e => !(Region.binds .any e) || Nat.blt e.on j) && edgesB l (j + 1)

def statB (ops : List Oper) (T : List Nat) : Bool :=
  edgesB ops 0 && (List.range ops.length).all fun i => (List.range ops.length).all fun j => pairB ops T i j

def readsB : Op → Bool
  | .load .. | .lookup .. => true
  | .call { callee := .builtin .len, .. } => true
  | _ => false

/-- May operation i be done where the next heavy one is s (s = N: there is none left)? -/
def feasB (ops : List Oper) (T : List Nat) (i s : Nat) : Bool :=
  (Nat.beq s ops.length || (Nat.beq (klassAt ops s) 2 && !(befB T s i))) && (List.range s).all fun h => !(Nat.beq (klassAt ops h) 2) || !(befB T i h)

/-- Is s the next heavy operation in the text's order? -/
def nextB (ops : List Oper) (i s : Nat) : Bool := Nat.ble i s && (List.range s).all fun h => !(Nat.beq (klassAt ops h) 2) || Nat.blt h i

def need1 (ops : List Oper) (T : List Nat) : List (Nat × Nat) :=
  (List.range ops.length).flatMap fun i => match ops[i]? with
    | some o => cond (Nat.beq (klass o.op) 0 && readsB o.op) ((List.range (ops.length + 1)).filterMap fun s => cond (feasB ops T i s && !(nextB ops i s)) (some (i, s)) none) []
    | none => []

def need2 (ops : List Oper) (T : List Nat) : List (Nat × Nat) :=
  (List.range ops.length).flatMap fun i => cond (Nat.beq (klassAt ops i) 1) ((List.range ops.length).filterMap fun h => cond (Nat.blt i h && Nat.beq (klassAt ops h) 2 && !(befB T i h)) (some (i, h)) none) []

structure Rec where
  want : Bool
  v : Value
  t : Tmps
  m : Mem

def recD (cf : FuncId → List Value → Mem → Option (Value × Mem)) (n : Nat) (ops : List Oper) : List Oper → Tmps → Mem → Option (List Rec × Tmps × Mem)
  | [], t, m => some ([], t, m)
  | o :: l, t, m => if dstOk n o.dst = true then
      (if Region.wanted o (yieldD ops t) = true then
        (match opD P K G cf t m o.op with
        | some (v, m') => match recD cf n ops l (putD t o.dst v) m' with
          | some (rs, t', m'') => some (⟨true, v, t, m⟩ :: rs, t', m'')
          | none => none
        | none => none)
      else match recD cf n ops l (putD t o.dst undef) m with
        | some (rs, t', m'') => some (⟨false, undef, t, m⟩ :: rs, t', m'')
        | none => none) else none

def tAt (rs : List Rec) (t' : Tmps) (i : Nat) : Tmps := match rs[i]? with | some r => r.t | none => t'
def mAt (rs : List Rec) (m' : Mem) (i : Nat) : Mem := match rs[i]? with | some r => r.m | none => m'

def veqL (f : Value → Value → Bool) : List Value → List Value → Bool
  | [], [] => true
  | x :: l, y :: l' => f x y && veqL f l l'
  | _, _ => false

/-- Surely the same value. -/
def veq : Nat → Value → Value → Bool
  | 0, _, _ => false
  | d + 1, x, y =>
    match x, y with
    | .bool a, .bool b => a == b
    | .int k a, .int k' b => decide (k = k') && decide (a = b)
    | .string a, .string b => a.data.toList == b.data.toList
    | .pointer a, .pointer b => decide (a = b)
    | .slice a n c, .slice a' n' c' => decide (a = a') && Nat.beq n n' && Nat.beq c c'
    | .map a, .map b => decide (a = b)
    | .func f a b, .func f' a' b' => decide (f = f') && veqL (veq d) a.toList a'.toList && veqL (veq d) b.toList b'.toList
    | .nilFunc, .nilFunc => true
    | .nilIface, .nilIface => true
    | .agg a, .agg b => veqL (veq d) a.toList b.toList
    | .tuple a, .tuple b => veqL (veq d) a.toList b.toList
    | _, _ => false

def blkEq : Blk → Blk → Bool
  | .cells o c, .cells o' c' => (o == o') && veqL (veq 8) c c'
  | .map o [] k, .map o' [] k' => (o == o') && Nat.beq k k'
  | _, _ => false

def chk1 (ops : List Oper) (rs : List Rec) (m' : Mem) (x : Nat × Nat) : Bool :=
  match rs[x.1]?, ops[x.1]? with
  | some r, some o => !r.want || (match quietD P K G r.t (mAt rs m' x.2) o.op with
    | some v => veq 8 v r.v
    | none => false)
  | _, _ => false

def chk2 (rs : List Rec) (m' : Mem) (x : Nat × Nat) : Bool :=
  match rs[x.1]? with
  | some r => !r.want || blkEq ((mAt rs m' (x.2 + 1)).get r.m.size) ((mAt rs m' (x.1 + 1)).get r.m.size)
  | none => false

def drawD (cf : FuncId → List Value → Mem → Option (Value × Mem)) (n : Nat) (ops : List Oper) (t : Tmps) (m : Mem) : Option (Tmps × Mem) :=
  if statB ops (tabD ops []) = true then
    match recD P K G cf n ops ops t m with
    | some (rs, t', m') => if (need1 ops (tabD ops [])).all (chk1 P K G ops rs m') = true then (if (need2 ops (tabD ops [])).all (chk2 rs m') = true then some (t', m') else none) else none
    | none => none
  else none

def callD : Nat → FuncId → List Value → Mem → Option (Value × Mem)
  | 0, _, _, _ => none
  | k + 1, f, args, m => match P.funcs[f]? with
    | some fn => match fn.body with
      | some c => match codeD P K G (callD k) (drawD P K G (callD k) (max args.length fn.ntmps)) (max args.length fn.ntmps) k c (initT 0 args) m with
        | some (.normal, t, m') => match resD P t m' fn.results.toList with
          | some vs => some (resV vs, m')
          | none => none
        | some (.ret, t, m') => match resD P t m' fn.results.toList with
          | some vs => some (resV vs, m')
          | none => none
        | _ => none
      | none => none
    | none => none
end
end Go.DI
