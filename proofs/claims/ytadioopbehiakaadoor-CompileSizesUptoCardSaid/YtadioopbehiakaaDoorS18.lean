/-
  CTree14: ours, turn by turn (printed by gt.py).
-/
import Derived.Test.YtadioopbehiakaaDoorS10
import Derived.Test.YtadioopbehiakaaDoorS17
set_option linter.all false
set_option linter.unusedVariables false
set_option linter.unusedSimpArgs false
namespace Go.Proofs.YtadioopbehiakaaDoor
open Go Go.DI Go.DI.Kit Go.Proofs Go.Cmp
noncomputable section
set_option maxHeartbeats 4000000
variable {α : Type} (x : Nat → Value) (cf : Y.CF α) (L : Y.LK α) (k : Nat) (m : Mem)
def c7 : Code := markS [4, 5, 6, 11] (loopN Tryd.f7 0)
def r7_4 : List Oper := regOps 4 (bodyOf Tryd.f7)
def r7_5 : List Oper := regOps 5 (bodyOf Tryd.f7)
def r7_6 : List Oper := regOps 6 (bodyOf Tryd.f7)
def r7_11 : List Oper := regOps 11 (bodyOf Tryd.f7)
def c7i : Code := markS [8, 9] (loopN Tryd.f7 1)
def r7_8 : List Oper := regOps 8 (bodyOf Tryd.f7)
def r7_9 : List Oper := regOps 9 (bodyOf Tryd.f7)
theorem t_Our_in (ra : Option Addr) (rn rc : Nat) (q : Value → Mem → Option α) : Y.codeF (bodyOf Tryd.f7) Tryd.prog kp 1 (Y.cfT Tryd.prog cf) L 52 k (fullN 52 (argX [.slice ra rn rc])) m (Y.retF Tryd.prog Tryd.f7 q) =
  (L (fun t m q=>Y.codeF (Y.loopC (bodyOf Tryd.f7) 0) Tryd.prog kp 1 (Y.cfT Tryd.prog cf) L 52 k t m q) (Y.loopC (bodyOf Tryd.f7) 0) k (fullN 52 (up (up Go.DI.x0 [(0,(.slice ra rn rc)),(2,(.slice none 0 0))]) [(3,(.slice none 0 0)),(9,(.slice ra rn rc)),(10,(.int .i64 (Int.ofNat rn))),(11,(.int .i64 (0:Int)))])) m (Y.kont Tryd.prog kp 1 (Y.cfT Tryd.prog cf) L 52 k (bodyOf Tryd.f7) 0 (Y.retF Tryd.prog Tryd.f7 q))):=by kernel_rfl
theorem t_OurA (oa : Option Addr) (on : Nat) (rb : Nat) (rp : Option Nat) (rn rc : Nat) (i : Int) (q : Y.ExK α) : Y.codeF c7 Tryd.prog kp 1 (Y.cfT Tryd.prog cf) L 52 k (fullN 52 (up x [(3,.slice oa on on),(9,.slice (some ⟨rb,0,rp⟩) rn rc),(10,.int .i64 rn),(11,.int .i64 i)])) m q =
  (cond (Y.ltF i (Int.ofNat rn)) (L (Y.codeF (Y.loopC c7 0) Tryd.prog kp 1 (Y.cfT Tryd.prog cf) L 52 k) (Y.loopC c7 0) k (fullN 52 (up (up x [(12,(.bool true))]) [(3,(.slice oa on on)),(9,(.slice (some (Addr.mk rb 0 rp)) rn rc)),(10,(.int .i64 (Int.ofNat rn))),(11,(.int .i64 i))])) m (Y.kont Tryd.prog kp 1 (Y.cfT Tryd.prog cf) L 52 k c7 0 q)) (q (Ex.exit 0) (fullN 52 (up (up x [(12,(.bool false))]) [(3,(.slice oa on on)),(9,(.slice (some (Addr.mk rb 0 rp)) rn rc)),(10,(.int .i64 (Int.ofNat rn))),(11,(.int .i64 i))])) m)):=by kernel_rfl
theorem t_OurR (oa : Option Addr) (on : Nat) (rb : Nat) (rp : Option Nat) (rn rc : Nat) (i : Int) (q : Tmps → Mem → Option α) : Y.opsF (List.take 3 r7_4) Tryd.prog kp 1 (Y.cfT Tryd.prog cf) 52 r7_4 (fullN 52 (up x [(3,.slice oa on on),(9,.slice (some ⟨rb,0,rp⟩) rn rc),(10,.int .i64 rn),(11,.int .i64 i)])) m q =
  (Y.onNat i (fun i_12=>(cond (Nat.blt i_12 rn) (Y.cellsOf (Mem.get m rb) (fun _ c_14=>(cond (Nat.ble (Nat.add (Nat.add 0 (Nat.mul i_12 2)) 2) (Y.lenLF c_14)) (q (fullN 52 (up (up x [(13,(.pointer (some (Addr.mk rb (Nat.add 0 (Nat.mul i_12 2)) none))))]) [(3,(.slice oa on on)),(5,(.pointer (some (Addr.mk (Mem.size m) 0 none)))),(9,(.slice (some (Addr.mk rb 0 rp)) rn rc)),(10,(.int .i64 (Int.ofNat rn))),(11,(.int .i64 i)),(14,(.agg ⟨(Y.subL c_14 (Nat.add 0 (Nat.mul i_12 2)) 2)⟩))])) (Mem.push m (.cells true [(.slice none 0 0),(.int Go.IntKind.u32 (0:Int))]))) none))) none))):=by kernel_rfl
theorem t_OurB (oa : Option Addr) (on : Nat) (rb : Nat) (rp : Option Nat) (rn rc : Nat) (i : Int) (xb : Nat) (q : Y.ExK α) : Y.kont Tryd.prog kp 1 (Y.cfT Tryd.prog cf) L 52 k c7 0 q .normal (fullN 52 (up x [(3,.slice oa on on),(5,.pointer (some ⟨xb,0,none⟩)),(9,.slice (some ⟨rb,0,rp⟩) rn rc),(10,.int .i64 rn),(11,.int .i64 i)])) m =
  (L (Y.codeF (Y.loopC c7 1) Tryd.prog kp 1 (Y.cfT Tryd.prog cf) L 52 k) (Y.loopC c7 1) k (fullN 52 (up x [(3,(.slice oa on on)),(5,(.pointer (some (Addr.mk xb 0 none)))),(9,(.slice (some (Addr.mk rb 0 rp)) rn rc)),(10,(.int .i64 (Int.ofNat rn))),(11,(.int .i64 i))])) m (Y.kont Tryd.prog kp 1 (Y.cfT Tryd.prog cf) L 52 k c7 1 q)):=by kernel_rfl
theorem t_Our5 (oa : Option Addr) (on : Nat) (rb : Nat) (rp : Option Nat) (rn rc : Nat) (i : Int) (xb : Nat) (q : Tmps → Mem → Option α) : Y.opsF (List.take 4 r7_5) Tryd.prog kp 1 (Y.cfT Tryd.prog cf) 52 r7_5 (fullN 52 (up x [(3,.slice oa on on),(5,.pointer (some ⟨xb,0,none⟩)),(9,.slice (some ⟨rb,0,rp⟩) rn rc),(10,.int .i64 rn),(11,.int .i64 i)])) m q =
  (Y.cellsOf (Mem.get m xb) (fun _ c_14=>(Option.elim (Y.nthL c_14 1) none (fun o15=>(Y.asInt o15 (fun k'_16 n_17=>(cond (Y.kEq Go.IntKind.u32 k'_16) (q (fullN 52 (up (up x [(16,(.int Go.IntKind.u32 n_17)),(15,(.pointer (some (Addr.mk xb 1 none))))]) [(3,(.slice oa on on)),(5,(.pointer (some (Addr.mk xb 0 none)))),(6,(.pointer (some (Addr.mk (Mem.size m) 0 none)))),(9,(.slice (some (Addr.mk rb 0 rp)) rn rc)),(10,(.int .i64 (Int.ofNat rn))),(11,(.int .i64 i)),(17,(.agg ⟨[(.slice none 0 0),(.int Go.IntKind.u32 n_17)]⟩))])) (Mem.push m (.cells true [(.slice none 0 0),(.int Go.IntKind.u32 (0:Int))]))) none)) none))))):=by kernel_rfl
theorem t_OurC (oa : Option Addr) (on : Nat) (rb : Nat) (rp : Option Nat) (rn rc : Nat) (i : Int) (xb : Nat) (yb : Nat) (q : Y.ExK α) : Y.kont Tryd.prog kp 1 (Y.cfT Tryd.prog cf) L 52 k c7 1 q .normal (fullN 52 (up x [(3,.slice oa on on),(5,.pointer (some ⟨xb,0,none⟩)),(6,.pointer (some ⟨yb,0,none⟩)),(9,.slice (some ⟨rb,0,rp⟩) rn rc),(10,.int .i64 rn),(11,.int .i64 i)])) m =
  (L (Y.codeF (Y.loopC c7 2) Tryd.prog kp 1 (Y.cfT Tryd.prog cf) L 52 k) (Y.loopC c7 2) k (fullN 52 (up x [(3,(.slice oa on on)),(5,(.pointer (some (Addr.mk xb 0 none)))),(6,(.pointer (some (Addr.mk yb 0 none)))),(9,(.slice (some (Addr.mk rb 0 rp)) rn rc)),(10,(.int .i64 (Int.ofNat rn))),(11,(.int .i64 i))])) m (Y.kont Tryd.prog kp 1 (Y.cfT Tryd.prog cf) L 52 k c7 2 q)):=by kernel_rfl
theorem t_Our6 (oa : Option Addr) (on : Nat) (rb : Nat) (rp : Option Nat) (rn rc : Nat) (i : Int) (xb : Nat) (yb : Nat) (q : Tmps → Mem → Option α) : Y.opsF (r7_6) Tryd.prog kp 1 (Y.cfT Tryd.prog cf) 52 r7_6 (fullN 52 (up x [(3,.slice oa on on),(5,.pointer (some ⟨xb,0,none⟩)),(6,.pointer (some ⟨yb,0,none⟩)),(9,.slice (some ⟨rb,0,rp⟩) rn rc),(10,.int .i64 rn),(11,.int .i64 i)])) m q =
  (Y.cellsOf (Mem.get m xb) (fun _ c_15=>(Option.elim (Y.nthL c_15 0) none (fun o16=>(Y.asSl o16 (fun a_17 n_18 c_19=>(q (fullN 52 (up (up x [(18,(.pointer (some (Addr.mk xb 0 none)))),(5,(.pointer (some (Addr.mk xb 0 none))))]) [(3,(.slice oa on on)),(6,(.pointer (some (Addr.mk yb 0 none)))),(9,(.slice (some (Addr.mk rb 0 rp)) rn rc)),(10,(.int .i64 (Int.ofNat rn))),(11,(.int .i64 i)),(19,(.slice a_17 n_18 c_19)),(20,(.int .i64 (Int.ofNat n_18))),(21,(.int .i64 (0:Int)))])) m)) none))))):=by kernel_rfl
theorem t_OurD (oa : Option Addr) (on : Nat) (rb : Nat) (rp : Option Nat) (rn rc : Nat) (i : Int) (yb : Nat) (ta : Option Addr) (tn tc : Nat) (j : Int) (q : Y.ExK α) : Y.kont Tryd.prog kp 1 (Y.cfT Tryd.prog cf) L 52 k c7 2 q .normal (fullN 52 (up x [(3,.slice oa on on),(6,.pointer (some ⟨yb,0,none⟩)),(9,.slice (some ⟨rb,0,rp⟩) rn rc),(10,.int .i64 rn),(11,.int .i64 i),(19,.slice ta tn tc),(20,.int .i64 tn),(21,.int .i64 j)])) m =
  (L (Y.codeF (Y.loopC c7 3) Tryd.prog kp 1 (Y.cfT Tryd.prog cf) L 52 k) (Y.loopC c7 3) k (fullN 52 (up x [(3,(.slice oa on on)),(6,(.pointer (some (Addr.mk yb 0 none)))),(9,(.slice (some (Addr.mk rb 0 rp)) rn rc)),(10,(.int .i64 (Int.ofNat rn))),(11,(.int .i64 i)),(19,(.slice ta tn tc)),(20,(.int .i64 (Int.ofNat tn))),(21,(.int .i64 j))])) m (Y.kont Tryd.prog kp 1 (Y.cfT Tryd.prog cf) L 52 k c7 3 q)):=by kernel_rfl
theorem t_OurE (oa : Option Addr) (on : Nat) (rb : Nat) (rp : Option Nat) (rn rc : Nat) (i : Int) (yb : Nat) (ta : Option Addr) (tn tc : Nat) (j : Int) (q : Y.ExK α) : Y.kont Tryd.prog kp 1 (Y.cfT Tryd.prog cf) L 52 k c7 3 q (.exit 2) (fullN 52 (up x [(3,.slice oa on on),(6,.pointer (some ⟨yb,0,none⟩)),(9,.slice (some ⟨rb,0,rp⟩) rn rc),(10,.int .i64 rn),(11,.int .i64 i),(19,.slice ta tn tc),(20,.int .i64 tn),(21,.int .i64 j)])) m =
  (L (Y.codeF (Y.loopC c7 4) Tryd.prog kp 1 (Y.cfT Tryd.prog cf) L 52 k) (Y.loopC c7 4) k (fullN 52 (up (up x [(20,(.int .i64 (Int.ofNat tn))),(21,(.int .i64 j)),(19,(.slice ta tn tc))]) [(3,(.slice oa on on)),(6,(.pointer (some (Addr.mk yb 0 none)))),(9,(.slice (some (Addr.mk rb 0 rp)) rn rc)),(10,(.int .i64 (Int.ofNat rn))),(11,(.int .i64 i))])) m (Y.kont Tryd.prog kp 1 (Y.cfT Tryd.prog cf) L 52 k c7 4 q)):=by kernel_rfl
theorem t_Our11 (oa : Option Addr) (on : Nat) (rb : Nat) (rp : Option Nat) (rn rc : Nat) (i : Int) (yb : Nat) (q : Tmps → Mem → Option α) : Y.opsF (List.take 2 r7_11) Tryd.prog kp 1 (Y.cfT Tryd.prog cf) 52 r7_11 (fullN 52 (up x [(3,.slice oa on on),(6,.pointer (some ⟨yb,0,none⟩)),(9,.slice (some ⟨rb,0,rp⟩) rn rc),(10,.int .i64 rn),(11,.int .i64 i)])) m q =
  (Y.cellsOf (Mem.get m yb) (fun _ c_14=>(cond (Nat.ble 2 (Y.lenLF c_14)) (q (fullN 52 (up (up x [(6,(.pointer (some (Addr.mk yb 0 none)))),(3,(.slice oa on on))]) [(9,(.slice (some (Addr.mk rb 0 rp)) rn rc)),(10,(.int .i64 (Int.ofNat rn))),(11,(.int .i64 i)),(46,(.slice oa on on)),(47,(.agg ⟨(Y.subL c_14 0 2)⟩))])) m) none))):=by kernel_rfl
theorem t_Our11b (w9 w10 w11 : Value) (oa ya : Option Addr) (on yn yc : Nat) (ve : Int) (q : Tmps → Mem → Option α) : Y.opsF (List.take 1 (List.drop 2 r7_11)) Tryd.prog kp 1 (Y.cfT Tryd.prog cf) 52 r7_11 (fullN 52 (up x [(9,w9),(10,w10),(11,w11),(46,.slice oa on on),(47,.agg ⟨[.slice ya yn yc,.int .u32 ve]⟩)])) m q =
  (q (fullN 52 (up (up x [(47,(.agg ⟨[(.slice ya yn yc),(.int Go.IntKind.u32 ve)]⟩))]) [(9,w9),(10,w10),(11,w11),(46,(.slice oa on on)),(48,(.slice (some (Addr.mk (Mem.size m) 0 none)) 1 1))])) (Mem.push m (.cells true [(.slice ya yn yc),(.int Go.IntKind.u32 ve)]))):=by kernel_rfl
theorem t_OurF (oa : Option Addr) (on : Nat) (rb : Nat) (rp : Option Nat) (rn rc : Nat) (i : Int) (q : Y.ExK α) : Y.kont Tryd.prog kp 1 (Y.cfT Tryd.prog cf) L 52 k c7 4 q .normal (fullN 52 (up x [(3,.slice oa on on),(9,.slice (some ⟨rb,0,rp⟩) rn rc),(10,.int .i64 rn),(11,.int .i64 i)])) m =
  (q .normal (fullN 52 (up (up x [(50,(.int .i64 (IntKind.wrap .i64 (Int.add i (1:Int)))))]) [(3,(.slice oa on on)),(9,(.slice (some (Addr.mk rb 0 rp)) rn rc)),(10,(.int .i64 (Int.ofNat rn))),(11,(.int .i64 (IntKind.wrap .i64 (Int.add i (1:Int)))))])) m):=by kernel_rfl
theorem t_OurI (oa : Option Addr) (on : Nat) (rb : Nat) (rp : Option Nat) (rn rc : Nat) (i : Int) (yb tb : Nat) (tp : Option Nat) (tn tc : Nat) (j : Int) (q : Y.ExK α) : Y.codeF c7i Tryd.prog kp 1 (Y.cfT Tryd.prog cf) L 52 k (fullN 52 (up x [(3,.slice oa on on),(6,.pointer (some ⟨yb,0,none⟩)),(9,.slice (some ⟨rb,0,rp⟩) rn rc),(10,.int .i64 rn),(11,.int .i64 i),(19,.slice (some ⟨tb,0,tp⟩) tn tc),(20,.int .i64 tn),(21,.int .i64 j)])) m q =
  (cond (Y.ltF j (Int.ofNat tn)) (L (Y.codeF (Y.loopC c7i 0) Tryd.prog kp 1 (Y.cfT Tryd.prog cf) L 52 k) (Y.loopC c7i 0) k (fullN 52 (up (up x [(22,(.bool true))]) [(3,(.slice oa on on)),(6,(.pointer (some (Addr.mk yb 0 none)))),(9,(.slice (some (Addr.mk rb 0 rp)) rn rc)),(10,(.int .i64 (Int.ofNat rn))),(11,(.int .i64 i)),(19,(.slice (some (Addr.mk tb 0 tp)) tn tc)),(20,(.int .i64 (Int.ofNat tn))),(21,(.int .i64 j))])) m (Y.kont Tryd.prog kp 1 (Y.cfT Tryd.prog cf) L 52 k c7i 0 q)) (q (Ex.exit 2) (fullN 52 (up (up x [(22,(.bool false))]) [(3,(.slice oa on on)),(6,(.pointer (some (Addr.mk yb 0 none)))),(9,(.slice (some (Addr.mk rb 0 rp)) rn rc)),(10,(.int .i64 (Int.ofNat rn))),(11,(.int .i64 i)),(19,(.slice (some (Addr.mk tb 0 tp)) tn tc)),(20,(.int .i64 (Int.ofNat tn))),(21,(.int .i64 j))])) m)):=by kernel_rfl
theorem t_OurJ (oa : Option Addr) (on : Nat) (rb : Nat) (rp : Option Nat) (rn rc : Nat) (i : Int) (yb tb : Nat) (tp : Option Nat) (tn tc : Nat) (j : Int) (q : Tmps → Mem → Option α) : Y.opsF (List.take 3 r7_8) Tryd.prog kp 1 (Y.cfT Tryd.prog cf) 52 r7_8 (fullN 52 (up x [(3,.slice oa on on),(6,.pointer (some ⟨yb,0,none⟩)),(9,.slice (some ⟨rb,0,rp⟩) rn rc),(10,.int .i64 rn),(11,.int .i64 i),(19,.slice (some ⟨tb,0,tp⟩) tn tc),(20,.int .i64 tn),(21,.int .i64 j)])) m q =
  (Y.onNat j (fun i_18=>(cond (Nat.blt i_18 tn) (Y.cellsOf (Mem.get m tb) (fun _ c_20=>(cond (Nat.ble (Nat.add (Nat.add 0 (Nat.mul i_18 7)) 7) (Y.lenLF c_20)) (q (fullN 52 (up (up x [(23,(.pointer (some (Addr.mk tb (Nat.add 0 (Nat.mul i_18 7)) none))))]) [(3,(.slice oa on on)),(6,(.pointer (some (Addr.mk yb 0 none)))),(8,(.pointer (some (Addr.mk (Mem.size m) 0 none)))),(9,(.slice (some (Addr.mk rb 0 rp)) rn rc)),(10,(.int .i64 (Int.ofNat rn))),(11,(.int .i64 i)),(19,(.slice (some (Addr.mk tb 0 tp)) tn tc)),(20,(.int .i64 (Int.ofNat tn))),(21,(.int .i64 j)),(24,(.agg ⟨(Y.subL c_20 (Nat.add 0 (Nat.mul i_18 7)) 7)⟩))])) (Mem.push m (.cells true [(.bool false),(.int .i64 (0:Int)),(.int .i64 (0:Int)),(.int .i64 (0:Int)),(.int .u64 (0:Int)),(.int .u64 (0:Int)),(.int .u64 (0:Int))]))) none))) none))):=by kernel_rfl
theorem t_OurK (oa : Option Addr) (on : Nat) (rb : Nat) (rp : Option Nat) (rn rc : Nat) (i : Int) (yb tb : Nat) (tp : Option Nat) (tn tc : Nat) (j : Int) (zb : Nat) (q : Y.ExK α) : Y.kont Tryd.prog kp 1 (Y.cfT Tryd.prog cf) L 52 k c7i 0 q .normal (fullN 52 (up x [(3,.slice oa on on),(6,.pointer (some ⟨yb,0,none⟩)),(8,.pointer (some ⟨zb,0,none⟩)),(9,.slice (some ⟨rb,0,rp⟩) rn rc),(10,.int .i64 rn),(11,.int .i64 i),(19,.slice (some ⟨tb,0,tp⟩) tn tc),(20,.int .i64 tn),(21,.int .i64 j)])) m =
  (L (Y.codeF (Y.loopC c7i 1) Tryd.prog kp 1 (Y.cfT Tryd.prog cf) L 52 k) (Y.loopC c7i 1) k (fullN 52 (up x [(3,(.slice oa on on)),(6,(.pointer (some (Addr.mk yb 0 none)))),(8,(.pointer (some (Addr.mk zb 0 none)))),(9,(.slice (some (Addr.mk rb 0 rp)) rn rc)),(10,(.int .i64 (Int.ofNat rn))),(11,(.int .i64 i)),(19,(.slice (some (Addr.mk tb 0 tp)) tn tc)),(20,(.int .i64 (Int.ofNat tn))),(21,(.int .i64 j))])) m (Y.kont Tryd.prog kp 1 (Y.cfT Tryd.prog cf) L 52 k c7i 1 q)):=by kernel_rfl
theorem t_OurL (oa : Option Addr) (on : Nat) (rb : Nat) (rp : Option Nat) (rn rc : Nat) (i : Int) (yb tb : Nat) (tp : Option Nat) (tn tc : Nat) (j : Int) (zb : Nat) (q : Tmps → Mem → Option α) : Y.opsF (List.take 17 r7_9) Tryd.prog kp 1 (Y.cfT Tryd.prog cf) 52 r7_9 (fullN 52 (up x [(3,.slice oa on on),(6,.pointer (some ⟨yb,0,none⟩)),(8,.pointer (some ⟨zb,0,none⟩)),(9,.slice (some ⟨rb,0,rp⟩) rn rc),(10,.int .i64 rn),(11,.int .i64 i),(19,.slice (some ⟨tb,0,tp⟩) tn tc),(20,.int .i64 tn),(21,.int .i64 j)])) m q =
  (Y.cellsOf (Mem.get m yb) (fun _ c_20=>(Option.elim (Y.nthL c_20 0) none (fun o21=>(Y.asSl o21 (fun a_22 n_23 c_24=>(Y.cellsOf (Mem.get m zb) (fun _ c_26=>(Option.elim (Y.nthL c_26 0) none (fun o27=>(Y.asBo o27 (fun b_28=>(Y.cellsOf (Mem.get m zb) (fun _ c_30=>(Option.elim (Y.nthL c_30 1) none (fun o31=>(Y.asInt o31 (fun k'_32 n_33=>(cond (Y.kEq .i64 k'_32) (Y.cellsOf (Mem.get m zb) (fun _ c_35=>(Option.elim (Y.nthL c_35 2) none (fun o36=>(Y.asInt o36 (fun k'_37 n_38=>(cond (Y.kEq .i64 k'_37) (Y.cellsOf (Mem.get m zb) (fun _ c_40=>(Option.elim (Y.nthL c_40 3) none (fun o41=>(Y.asInt o41 (fun k'_42 n_43=>(cond (Y.kEq .i64 k'_42) (Y.cellsOf (Mem.get m zb) (fun _ c_45=>(Option.elim (Y.nthL c_45 4) none (fun o46=>(Y.asInt o46 (fun k'_47 n_48=>(cond (Y.kEq .u64 k'_47) (Y.cellsOf (Mem.get m zb) (fun _ c_50=>(Option.elim (Y.nthL c_50 5) none (fun o51=>(Y.asInt o51 (fun k'_52 n_53=>(cond (Y.kEq .u64 k'_52) (Y.cellsOf (Mem.get m zb) (fun _ c_55=>(Option.elim (Y.nthL c_55 6) none (fun o56=>(Y.asInt o56 (fun k'_57 n_58=>(cond (Y.kEq .u64 k'_57) (q (fullN 52 (up (up x [(32,(.int .i64 n_38)),(8,(.pointer (some (Addr.mk zb 0 none)))),(40,(.int .u64 n_58)),(36,(.int .u64 n_48)),(28,(.bool b_28)),(34,(.int .i64 n_43)),(38,(.int .u64 n_53)),(30,(.int .i64 n_33)),(33,(.pointer (some (Addr.mk zb 3 none)))),(25,(.pointer (some (Addr.mk yb 0 none)))),(37,(.pointer (some (Addr.mk zb 5 none)))),(29,(.pointer (some (Addr.mk zb 1 none)))),(35,(.pointer (some (Addr.mk zb 4 none)))),(27,(.pointer (some (Addr.mk zb 0 none)))),(39,(.pointer (some (Addr.mk zb 6 none)))),(31,(.pointer (some (Addr.mk zb 2 none))))]) [(3,(.slice oa on on)),(6,(.pointer (some (Addr.mk yb 0 none)))),(9,(.slice (some (Addr.mk rb 0 rp)) rn rc)),(10,(.int .i64 (Int.ofNat rn))),(11,(.int .i64 i)),(19,(.slice (some (Addr.mk tb 0 tp)) tn tc)),(20,(.int .i64 (Int.ofNat tn))),(21,(.int .i64 j)),(26,(.slice a_22 n_23 c_24)),(41,(.agg ⟨[(.bool b_28),(.int .i64 n_33),(.int .i64 n_38),(.int .i64 n_43),(.int .u64 n_48),(.int .u64 n_53),(.int .u64 n_58)]⟩))])) m) none)) none))))) none)) none))))) none)) none))))) none)) none))))) none)) none))))) none)) none)))))) none)))))) none))))):=by kernel_rfl
theorem t_OurLb (oa : Option Addr) (on : Nat) (rb : Nat) (rp : Option Nat) (rn rc : Nat) (i : Int) (yb tb : Nat) (tp : Option Nat) (tn tc : Nat) (j : Int) (w26 : Value) (g : Bool) (ki p s ma lo hi : Int) (q : Tmps → Mem → Option α) : Y.opsF (List.take 1 (List.drop 17 r7_9)) Tryd.prog kp 1 (Y.cfT Tryd.prog cf) 52 r7_9 (fullN 52 (up x [(3,.slice oa on on),(6,.pointer (some ⟨yb,0,none⟩)),(9,.slice (some ⟨rb,0,rp⟩) rn rc),(10,.int .i64 rn),(11,.int .i64 i),(19,.slice (some ⟨tb,0,tp⟩) tn tc),(20,.int .i64 tn),(21,.int .i64 j),(26,w26),(41,.agg ⟨[.bool g,.int .i64 ki,.int .i64 p,.int .i64 s,.int .u64 ma,.int .u64 lo,.int .u64 hi]⟩)])) m q =
  (q (fullN 52 (up (up x [(41,(.agg ⟨[(.bool g),(.int .i64 ki),(.int .i64 p),(.int .i64 s),(.int .u64 ma),(.int .u64 lo),(.int .u64 hi)]⟩))]) [(3,(.slice oa on on)),(6,(.pointer (some (Addr.mk yb 0 none)))),(9,(.slice (some (Addr.mk rb 0 rp)) rn rc)),(10,(.int .i64 (Int.ofNat rn))),(11,(.int .i64 i)),(19,(.slice (some (Addr.mk tb 0 tp)) tn tc)),(20,(.int .i64 (Int.ofNat tn))),(21,(.int .i64 j)),(26,w26),(42,(.slice (some (Addr.mk (Mem.size m) 0 none)) 1 1))])) (Mem.push m (.cells true [(.bool g),(.int .i64 ki),(.int .i64 p),(.int .i64 s),(.int .u64 ma),(.int .u64 lo),(.int .u64 hi)]))):=by kernel_rfl
theorem t_OurM (oa : Option Addr) (on : Nat) (rb : Nat) (rp : Option Nat) (rn rc : Nat) (i : Int) (yb tb : Nat) (tp : Option Nat) (tn tc : Nat) (j : Int) (q : Y.ExK α) : Y.kont Tryd.prog kp 1 (Y.cfT Tryd.prog cf) L 52 k c7i 1 q .normal (fullN 52 (up x [(3,.slice oa on on),(6,.pointer (some ⟨yb,0,none⟩)),(9,.slice (some ⟨rb,0,rp⟩) rn rc),(10,.int .i64 rn),(11,.int .i64 i),(19,.slice (some ⟨tb,0,tp⟩) tn tc),(20,.int .i64 tn),(21,.int .i64 j)])) m =
  (q .normal (fullN 52 (up (up x [(45,(.int .i64 (IntKind.wrap .i64 (Int.add j (1:Int)))))]) [(3,(.slice oa on on)),(6,(.pointer (some (Addr.mk yb 0 none)))),(9,(.slice (some (Addr.mk rb 0 rp)) rn rc)),(10,(.int .i64 (Int.ofNat rn))),(11,(.int .i64 i)),(19,(.slice (some (Addr.mk tb 0 tp)) tn tc)),(20,(.int .i64 (Int.ofNat tn))),(21,(.int .i64 (IntKind.wrap .i64 (Int.add j (1:Int)))))])) m):=by kernel_rfl
theorem t_Our_out (oa : Option Addr) (on : Nat) (w9 w10 w11 : Value) (q : Value → Mem → Option α) : Y.kont Tryd.prog kp 1 (Y.cfT Tryd.prog cf) L 52 k (bodyOf Tryd.f7) 0 (Y.retF Tryd.prog Tryd.f7 q) (.exit 0) (fullN 52 (up x [(3,.slice oa on on),(9,w9),(10,w10),(11,w11)])) m =
  (q (.slice oa on on) m):=by kernel_rfl
end
end Go.Proofs.YtadioopbehiakaaDoor
namespace Go.Proofs.YtadioopbehiakaaDoor
open Go Go.DI Go.DI.Kit Go.Proofs Go.Cmp
noncomputable section
theorem at7 : Tryd.prog.funcs[7]? = some Tryd.f7 := by kernel_rfl
theorem bd7 : Tryd.f7.body = some (bodyOf Tryd.f7) := by kernel_rfl
theorem nt7 : Tryd.f7.ntmps = 52 := by kernel_rfl
theorem n7 {a : Value} : max [a].length Tryd.f7.ntmps = 52 := by rw [nt7]; rfl
theorem okSl7 {a : Option Addr} {n c : Nat} : okR Tryd.prog 7 (.slice a n c) = true := by kernel_rfl
theorem und43 : Tryd.prog.underlying 43 = some (.slice 53) := by kernel_rfl
theorem sz43 : szOf Tryd.prog 43 = some 1 := by kernel_rfl
theorem by53 : bytesOf Tryd.prog 53 = some 56 := by kernel_rfl
theorem ze53 : (zerosD Tryd.prog 53 1).isSome = true := by kernel_rfl
theorem und25 : Tryd.prog.underlying 25 = some (.slice 46) := by kernel_rfl
theorem by46 : bytesOf Tryd.prog 46 = some 32 := by kernel_rfl
theorem ze46 : (zerosD Tryd.prog 46 1).isSome = true := by kernel_rfl
theorem sz54 : szOf Tryd.prog 54 = some 7 := by kernel_rfl
section
variable {α : Type} (x : Nat → Value) (cf : Y.CF α) (L : Y.LK α) (k : Nat) (m : Mem)
theorem r7_4_eq (t : Tmps) (q : Y.ExK α) : Y.codeF (Y.loopC c7 0) Tryd.prog kp 1 (Y.cfT Tryd.prog cf) L 52 k t m q = Y.opsF r7_4 Tryd.prog kp 1 (Y.cfT Tryd.prog cf) 52 r7_4 t m fun t m => q .normal t m := by kernel_rfl
theorem r7_5_eq (t : Tmps) (q : Y.ExK α) : Y.codeF (Y.loopC c7 1) Tryd.prog kp 1 (Y.cfT Tryd.prog cf) L 52 k t m q = Y.opsF r7_5 Tryd.prog kp 1 (Y.cfT Tryd.prog cf) 52 r7_5 t m fun t m => q .normal t m := by kernel_rfl
theorem r7_6_eq (t : Tmps) (q : Y.ExK α) : Y.codeF (Y.loopC c7 2) Tryd.prog kp 1 (Y.cfT Tryd.prog cf) L 52 k t m q = Y.opsF r7_6 Tryd.prog kp 1 (Y.cfT Tryd.prog cf) 52 r7_6 t m fun t m => q .normal t m := by kernel_rfl
theorem r7_11_eq (t : Tmps) (q : Y.ExK α) : Y.codeF (Y.loopC c7 4) Tryd.prog kp 1 (Y.cfT Tryd.prog cf) L 52 k t m q = Y.opsF r7_11 Tryd.prog kp 1 (Y.cfT Tryd.prog cf) 52 r7_11 t m fun t m => q .normal t m := by kernel_rfl
theorem r7_8_eq (t : Tmps) (q : Y.ExK α) : Y.codeF (Y.loopC c7i 0) Tryd.prog kp 1 (Y.cfT Tryd.prog cf) L 52 k t m q = Y.opsF r7_8 Tryd.prog kp 1 (Y.cfT Tryd.prog cf) 52 r7_8 t m fun t m => q .normal t m := by kernel_rfl
theorem r7_9_eq (t : Tmps) (q : Y.ExK α) : Y.codeF (Y.loopC c7i 1) Tryd.prog kp 1 (Y.cfT Tryd.prog cf) L 52 k t m q = Y.opsF r7_9 Tryd.prog kp 1 (Y.cfT Tryd.prog cf) 52 r7_9 t m fun t m => q .normal t m := by kernel_rfl
theorem t_OurRS (b : Nat) (w3 w9 w10 w11 u : Value) (q : Tmps → Mem → Option α) : Y.opsF (List.drop 3 r7_4) Tryd.prog kp 1 (Y.cfT Tryd.prog cf) 52 r7_4 (fullN 52 (up x [(3, w3), (5, .pointer (some ⟨b, 0, none⟩)), (9, w9), (10, w10), (11, w11), (14, u)])) m q =
  Y.storeF Tryd.prog m 49 u (.pointer (some ⟨b, 0, none⟩)) fun m' => q (fullN 52 (up (up x [(14, u)]) [(3, w3), (5, .pointer (some ⟨b, 0, none⟩)), (9, w9), (10, w10), (11, w11)])) m' := by kernel_rfl
theorem t_Our5S (b : Nat) (w3 w5 w9 w10 w11 u : Value) (q : Tmps → Mem → Option α) : Y.opsF (List.drop 4 r7_5) Tryd.prog kp 1 (Y.cfT Tryd.prog cf) 52 r7_5 (fullN 52 (up x [(3, w3), (5, w5), (6, .pointer (some ⟨b, 0, none⟩)), (9, w9), (10, w10), (11, w11), (17, u)])) m q =
  Y.storeF Tryd.prog m 46 u (.pointer (some ⟨b, 0, none⟩)) fun m' => q (fullN 52 (up (up x [(17, u)]) [(3, w3), (5, w5), (6, .pointer (some ⟨b, 0, none⟩)), (9, w9), (10, w10), (11, w11)])) m' := by kernel_rfl
theorem t_OurJS (b : Nat) (w3 w6 w9 w10 w11 w19 w20 w21 u : Value) (q : Tmps → Mem → Option α) : Y.opsF (List.drop 3 r7_8) Tryd.prog kp 1 (Y.cfT Tryd.prog cf) 52 r7_8 (fullN 52 (up x [(3, w3), (6, w6), (8, .pointer (some ⟨b, 0, none⟩)), (9, w9), (10, w10), (11, w11), (19, w19), (20, w20), (21, w21), (24, u)])) m q =
  Y.storeF Tryd.prog m 54 u (.pointer (some ⟨b, 0, none⟩)) fun m' => q (fullN 52 (up (up x [(24, u)]) [(3, w3), (6, w6), (8, .pointer (some ⟨b, 0, none⟩)), (9, w9), (10, w10), (11, w11), (19, w19), (20, w20), (21, w21)])) m' := by kernel_rfl
theorem t_OurLc (b : Nat) (w3 w9 w10 w11 w19 w20 w21 u v : Value) (q : Tmps → Mem → Option α) : Y.opsF (List.drop 18 r7_9) Tryd.prog kp 1 (Y.cfT Tryd.prog cf) 52 r7_9 (fullN 52 (up x [(3, w3), (6, .pointer (some ⟨b, 0, none⟩)), (9, w9), (10, w10), (11, w11), (19, w19), (20, w20), (21, w21), (26, u), (42, v)])) m q =
  Y.appendF Tryd.prog m 43 43 u v fun a m' => Y.storeF Tryd.prog m' 43 a (.pointer (some ⟨b, 0, none⟩)) fun m'' => q (fullN 52 (up (up x [(26, u), (42, v), (43, a), (44, .pointer (some ⟨b, 0, none⟩))]) [(3, w3), (6, .pointer (some ⟨b, 0, none⟩)), (9, w9), (10, w10), (11, w11), (19, w19), (20, w20), (21, w21)])) m'' := by kernel_rfl
theorem t_Our11c (w9 w10 w11 u v : Value) (q : Tmps → Mem → Option α) : Y.opsF (List.drop 3 r7_11) Tryd.prog kp 1 (Y.cfT Tryd.prog cf) 52 r7_11 (fullN 52 (up x [(9, w9), (10, w10), (11, w11), (46, u), (48, v)])) m q =
  Y.appendF Tryd.prog m 25 25 u v fun a m' => q (fullN 52 (up (up x [(46, u), (48, v), (49, a)]) [(3, a), (9, w9), (10, w10), (11, w11)])) m' := by kernel_rfl
theorem t_OurI0 (w3 w6 w9 w10 w11 w19 : Value) (q : Y.ExK α) : Y.codeF (loopN Tryd.f7 1) Tryd.prog kp 1 (Y.cfT Tryd.prog cf) L 52 k (fullN 52 (up x [(3, w3), (6, w6), (9, w9), (10, w10), (11, w11), (19, w19), (20, .int .i64 (0 : Nat)), (21, .int .i64 (0 : Int))])) m q =
  q (.exit 2) (fullN 52 (up (up x [(22, .bool false)]) [(3, w3), (6, w6), (9, w9), (10, w10), (11, w11), (19, w19), (20, .int .i64 (0 : Nat)), (21, .int .i64 (0 : Int))])) m := by kernel_rfl
theorem t_OurA0 (w3 w9 : Value) (q : Y.ExK α) : Y.codeF (loopN Tryd.f7 0) Tryd.prog kp 1 (Y.cfT Tryd.prog cf) L 52 k (fullN 52 (up x [(3, w3), (9, w9), (10, .int .i64 (0 : Nat)), (11, .int .i64 (0 : Int))])) m q =
  q (.exit 0) (fullN 52 (up (up x [(12, .bool false)]) [(3, w3), (9, w9), (10, .int .i64 (0 : Nat)), (11, .int .i64 (0 : Int))])) m := by kernel_rfl
end
theorem lc7 : Y.loopC c7 3 = loopN Tryd.f7 1 := by kernel_rfl
theorem Hp.learn {M : Mem} {K : Keep} {c : Nat} {x : Blk} (h : Hp M K []) (hc : c < M.size) (hg : M.get c = x) (hk : K c = none) : Hp M (keep1 K c x) [] ∧ ∀ j y, K j = some y → keep1 K c x j = some y := by
  obtain ⟨ht, hK, F, q1, q2, q3⟩ := h
  cases q1
  refine ⟨⟨ht, fun j y hj => ?_, [], .nil, List.nodup_nil, fun x hx => by simp at hx⟩, fun j y hj => ?_⟩
  · by_cases e : j = c
    · subst e; rw [keep1_same] at hj; cases hj
      exact ⟨hc, hg⟩
    · rw [keep1_ne e] at hj; exact hK j y hj
  · rw [keep1_ne (by rintro rfl; rw [hk] at hj; cases hj)]; exact hj
def xO (ve : Int) (ts : List TestT) : Thing := ⟨[], [.int .u32 ve], 7, ts.length, ts.flatMap testC⟩
theorem xO_next (ve : Int) (ts : List TestT) (t : TestT) : ({ xO ve ts with n := (xO ve ts).n + 1, c := (xO ve ts).c ++ testC t } : Thing) = xO ve (ts ++ [t]) := by simp [xO]
section
variable {K : Keep} {M : Mem} {o : Orc} {k : Nat}
theorem OurT_loop {ts : List TestT} {rest : List Value} {own : Bool} {ve : Int} {tb tc yb rb rn rc i on : Nat} {tp rp : Option Nat} {oa : Option Addr} (hn : ts.length ≤ 100000) (htb : K tb = some (.cells own (ts.flatMap testC ++ rest))) :
    ∀ (d j : Nat), ts.length = j + d → ∀ (jj : Nat) (M : Mem), d + 1 ≤ jj → Hp M K [(yb, xO ve (ts.take j))] →
    ∃ M', (∀ x, Lands 52 [(3, .slice oa on on), (6, .pointer (some ⟨yb, 0, none⟩)), (9, .slice (some ⟨rb, 0, rp⟩) rn rc), (10, .int .i64 (rn : Int)), (11, .int .i64 (i : Int)), (19, .slice (some ⟨tb, 0, tp⟩) ts.length tc), (20, .int .i64 (ts.length : Int)), (21, .int .i64 (ts.length : Int))] (.exit 2) M' (loopD (codeD Tryd.prog kp 1 (callN Tryd.prog kp 1 o k) (drawD Tryd.prog kp 1 (callN Tryd.prog kp 1 o k) 52) 52 k (loopN Tryd.f7 1)) jj (fullN 52 (up x [(3, .slice oa on on), (6, .pointer (some ⟨yb, 0, none⟩)), (9, .slice (some ⟨rb, 0, rp⟩) rn rc), (10, .int .i64 (rn : Int)), (11, .int .i64 (i : Int)), (19, .slice (some ⟨tb, 0, tp⟩) ts.length tc), (20, .int .i64 (ts.length : Int)), (21, .int .i64 (j : Int))])) M)) ∧ Hp M' K [(yb, xO ve ts)]
  | 0, j, hj, jj, M, hjj, h => by
    obtain ⟨jj, rfl⟩ : ∃ j', jj = j' + 1 := ⟨jj - 1, by omega⟩
    obtain rfl : j = ts.length := by omega
    rw [List.take_length] at h
    refine ⟨M, fun x => Lands.stop (Lands.turn ?_) (by simp), h⟩
    refine Lands.via (markS_eq [8, 9] Tryd.prog kp 1 _ (Y.lpOf Tryd.prog kp 1 (callN Tryd.prog kp 1 o k) 52) (fun _ _ _ _ _ _ _ => rfl) 52 k (loopN Tryd.f7 1) (by kernel_rfl) _ M _) ?_
    refine Lands.via (t_OurI ..) ?_
    rw [ge_len (by omega), nCondF]
    exact Lands.here _
  | d + 1, j, hj, jj, M, hjj, h => by
    obtain ⟨jj, rfl⟩ : ∃ j', jj = j' + 1 := ⟨jj - 1, by omega⟩
    have hlt : j < ts.length := by omega
    obtain ⟨t, ht⟩ : ∃ t, ts[j]? = some t := ⟨_, List.getElem?_eq_getElem hlt⟩
    have htk : ts.take (j + 1) = ts.take j ++ [t] := by rw [List.take_add_one, ht]; rfl
    have gb := h.get htb
    obtain ⟨M1, hM1⟩ : ∃ M1, (M.push (.cells true [(.bool false), (.int .i64 (0 : Int)), (.int .i64 (0 : Int)), (.int .i64 (0 : Int)), (.int .u64 (0 : Int)), (.int .u64 (0 : Int)), (.int .u64 (0 : Int))])).set M.size (.cells true (testC t)) = M1 := ⟨_, rfl⟩
    have x1 : Ext M M1 := hM1 ▸ Ext.fresh
    have gz : M1.get M.size = .cells true (testC t) := by rw [← hM1]; exact Mem.get_set_same _ _ _
    have hst : storeD Tryd.prog (M.push (.cells true [(.bool false), (.int .i64 (0 : Int)), (.int .i64 (0 : Int)), (.int .i64 (0 : Int)), (.int .u64 (0 : Int)), (.int .u64 (0 : Int)), (.int .u64 (0 : Int))])) 54 (.agg ⟨testC t⟩) (.pointer (some ⟨M.size, 0, none⟩)) = some M1 := by
      rw [storeD_at (n := 7) sz54 rfl (Mem.get_push_same _ _) (by simp) rfl, ← hM1]
      rfl
    have x2 : Ext M (M1.push (.cells true (testC t))) := x1.trans (Ext.push _ _)
    have hlj : (ts.take j).length = j := by rw [List.length_take]; omega
    obtain ⟨a, gm, happ⟩ := h.append und43 sz43 sz53 (show (7 : Nat) ≠ 0 by decide) by53 (by decide) ze53 (by show ((ts.take j).length + 1) * 56 ≤ _ ∧ (ts.take j).length + 1 ≤ _; omega)
    obtain ⟨a', M7, M8, p1, p2, h8, _, _⟩ := happ _ M1.size true (testC t) x2 (Mem.get_push_same _ _) rfl rfl
    rw [xO_next, ← htk] at h8
    have gy : M1.get yb = .cells true [.slice a (ts.take j).length (ts.take j).length, .int .u32 ve] := (x1.get yb h.set.1).trans gm
    obtain ⟨M3, h3, h4⟩ := OurT_loop (rb := rb) (rn := rn) (rc := rc) (i := i) (on := on) (tp := tp) (rp := rp) (oa := oa) (tc := tc) hn htb d (j + 1) (by omega) jj M8 (by omega) h8
    refine ⟨M3, fun x => Lands.next (Lands.turn ?_) h3, h4⟩
    refine Lands.via (markS_eq [8, 9] Tryd.prog kp 1 _ (Y.lpOf Tryd.prog kp 1 (callN Tryd.prog kp 1 o k) 52) (fun _ _ _ _ _ _ _ => rfl) 52 k (loopN Tryd.f7 1) (by kernel_rfl) _ M _) ?_
    refine Lands.via (t_OurI ..) ?_
    rw [lt_len hlt, nCondT]
    refine Lands.via (loop_reg _ _ _ (by kernel_rfl) _ _ _ _) ?_
    refine Lands.via (r7_8_eq ..) ?_
    refine Lands.via (opsF_cut 3 ..) ?_
    refine Lands.via (t_OurJ ..) ?_
    rw [nOnNat, blt_t hlt, nCondT, gb, nCells, chunk_ble testC_len hlt, nCondT, chunk_sub testC_len ht]
    refine Lands.via (t_OurJS ..) ?_
    rw [Y.storeF_eq, hst, Y.ob_some]
    refine Lands.via (t_OurK ..) ?_
    refine Lands.via (loop_reg _ _ _ (by kernel_rfl) _ _ _ _) ?_
    refine Lands.via (r7_9_eq ..) ?_
    refine Lands.via (opsF_cut 17 ..) ?_
    refine Lands.via (t_OurL ..) ?_
    rw [gy, nCells, show Y.nthL [Value.slice a (ts.take j).length (ts.take j).length, .int .u32 ve] 0 = some (.slice a (ts.take j).length (ts.take j).length) from rfl, nElim, nAsSl]
    simp only [gz, nCells, tn0, tn1, tn2, tn3, tn4, tn5, tn6, nElim, nAsInt, nAsBoB, nKEq, nCondT]
    refine Lands.via (opsF_cut 1 ..) ?_
    refine Lands.via (t_OurLb ..) ?_
    rw [show List.drop 1 (List.drop 17 r7_9) = List.drop 18 r7_9 by rw [List.drop_drop]]
    refine Lands.via (t_OurLc ..) ?_
    rw [Y.appendF_eq, show appendD Tryd.prog (M1.push (.cells true [.bool t.neg, .int .i64 t.kind, .int .i64 t.pos, .int .i64 t.size, .int .u64 t.mask, .int .u64 t.lo, .int .u64 t.hi])) 43 43 (.slice a (ts.take j).length (ts.take j).length) (.slice (some ⟨M1.size, 0, none⟩) 1 1) = _ from p1, nOnV, Y.storeF_eq, show storeD Tryd.prog M7 43 _ (.pointer (some ⟨yb, 0, none⟩)) = _ from p2, Y.ob_some]
    refine Lands.via (t_OurM ..) ?_
    rw [wrap_succ (by omega)]
    exact Lands.here _
theorem OurT_run {ts : List TestT} {v : Value} {ve : Int} {yb rb rn rc i on : Nat} {rp : Option Nat} {oa : Option Addr} (hk : ts.length + 2 ≤ k) (hn : ts.length ≤ 100000) (hv : tstsAt K v ts) (h : Hp M K [(yb, xO ve [])]) :
    ∃ ta tc M', v = .slice ta ts.length tc ∧ (∀ x, Lands 52 [(3, .slice oa on on), (6, .pointer (some ⟨yb, 0, none⟩)), (9, .slice (some ⟨rb, 0, rp⟩) rn rc), (10, .int .i64 (rn : Int)), (11, .int .i64 (i : Int)), (19, .slice ta ts.length tc), (20, .int .i64 (ts.length : Int)), (21, .int .i64 (ts.length : Int))] (.exit 2) M' (loopD (codeD Tryd.prog kp 1 (callN Tryd.prog kp 1 o k) (drawD Tryd.prog kp 1 (callN Tryd.prog kp 1 o k) 52) 52 k (loopN Tryd.f7 1)) k (fullN 52 (up x [(3, .slice oa on on), (6, .pointer (some ⟨yb, 0, none⟩)), (9, .slice (some ⟨rb, 0, rp⟩) rn rc), (10, .int .i64 (rn : Int)), (11, .int .i64 (i : Int)), (19, .slice ta ts.length tc), (20, .int .i64 (ts.length : Int)), (21, .int .i64 (0 : Int))])) M)) ∧ Hp M' K [(yb, xO ve ts)] := by
  obtain ⟨ta, tc, rfl, hv⟩ := hv
  by_cases e : ts = []
  · subst e
    obtain ⟨k, rfl⟩ : ∃ k', k = k' + 1 := ⟨k - 1, by omega⟩
    exact ⟨ta, tc, M, rfl, fun x => Lands.stop (Lands.turn (Lands.via (t_OurI0 ..) (Lands.here _))) (by simp), h⟩
  · obtain ⟨tb, tp, own, rest, rfl, htb⟩ := hv e
    obtain ⟨M', h1, h2⟩ := OurT_loop (o := o) (rb := rb) (rn := rn) (rc := rc) (i := i) (on := on) (tp := tp) (rp := rp) (oa := oa) (tc := tc) hn htb ts.length 0 (by omega) k M (by omega) h
    exact ⟨_, tc, M', rfl, h1, h2⟩
def OutR (M : Mem) (K : Keep) (vr : List (Value × RuleT)) (oa : Option Addr) : Prop := (vr = [] ∧ oa = none) ∨ ∃ c, oa = some ⟨c, 0, some 2⟩ ∧ c < M.size ∧ K c = none ∧ M.get c = .cells true (vr.flatMap ruleC)
def sliceV (v : Value) : Prop := ∃ a n c, v = .slice a n c
theorem rules_one : ∀ {vr : List (Value × RuleT)}, (∀ x ∈ vr, sliceV x.1) → (vr.flatMap ruleC).all one = true
  | [], _ => rfl
  | x :: vr, h => by
    obtain ⟨v, r⟩ := x
    obtain ⟨a, n, c, rfl⟩ := h (v, r) (List.mem_cons_self ..)
    show (ruleC (.slice a n c, r) ++ vr.flatMap ruleC).all one = true
    rw [List.all_append, rules_one fun x hx => h x (List.mem_cons_of_mem _ hx)]
    rfl
theorem outR_app {M2 : Mem} {vr : List (Value × RuleT)} {oa : Option Addr} {nb : Nat} {own : Bool} {x : Value × RuleT} (hs : ∀ y ∈ vr, sliceV y.1) (hx1 : sliceV x.1) (ho : OutR M2 K vr oa) (hn : M2.get nb = .cells own (ruleC x)) (hl : vr.length ≤ 1000000) (h : Hp M2 K []) :
    ∃ oa' M3, appendD Tryd.prog M2 25 25 (.slice oa vr.length vr.length) (.slice (some ⟨nb, 0, none⟩) 1 1) = some (.slice oa' (vr.length + 1) (vr.length + 1), M3) ∧ Hp M3 K [] ∧ OutR M3 K (vr ++ [x]) oa' := by
  have hf : firstC M2 2 1 (.slice (some ⟨nb, 0, none⟩) 1 1) = some (ruleC x) := loadC_at (rest := []) (by rw [List.append_nil]; exact hn) rfl
  have h1 : (ruleC x).all one = true := by
    have := rules_one (vr := [x]) fun y hy => by obtain rfl := List.mem_singleton.1 hy; exact hx1
    simpa using this
  rcases ho with ⟨rfl, rfl⟩ | ⟨c, rfl, h2, h3, h4⟩
  · refine ⟨_, _, append_nil und25 sz46 (by decide) by46 (by decide) ze46 (n := 1) rfl (by decide) (by decide) hf rfl h1, h.ext (Ext.push _ _), .inr ⟨_, rfl, ?_, h.no (Nat.le_refl _), ?_⟩⟩
    · show M2.size < M2.size + 1; omega
    · rw [Mem.get_push_same]; simp
  · refine ⟨_, _, append_own und25 sz46 (by decide) by46 (by decide) ze46 h4 (chunk_len ruleC_len vr) (rules_one hs) (n := 1) rfl (by decide) (by omega) hf rfl h1, ?_, .inr ⟨_, rfl, ?_, h.no (Nat.le_refl _), ?_⟩⟩
    · exact (h.ext (Ext.push _ _)).free_set (by show c < M2.size + 1; omega) h3
    · show M2.size < M2.size + 1; omega
    · rw [Mem.get_set_ne _ (by omega), Mem.get_push_same, List.flatMap_append]; simp
def dropK (K : Keep) (c : Nat) : Keep := fun j => if j = c then none else K j
theorem dropK_le {K : Keep} {c : Nat} : ∀ j x, dropK K c j = some x → K j = some x := by
  intro j x h
  unfold dropK at h
  split at h
  · cases h
  · exact h
theorem dropK_ne {K : Keep} {c j : Nat} (h : j ≠ c) : dropK K c j = K j := if_neg h
theorem tstsAt.slice {v : Value} {ts : List TestT} (h : tstsAt K v ts) : sliceV v := by
  obtain ⟨a, c, rfl, _⟩ := h
  exact ⟨_, _, _, rfl⟩
theorem Our_turn {r : RuleT} {v : Value} {rest : List Value} {sr vr : List (Value × RuleT)} {own : Bool} {rb rc i : Nat} {rp : Option Nat} {oa : Option Addr} (hk : 100000 + 80 ≤ k) (hn : r.tests.length ≤ 10000) (hi32 : i ≤ 10000)
    (hrb : K rb = some (.cells own (sr.flatMap ruleC ++ rest))) (hi : sr[i]? = some (v, r)) (hv : tstsAt K v r.tests) (hs : ∀ y ∈ vr, sliceV y.1) (hvl : vr.length = i) (h : Hp M K []) (ho : OutR M K vr oa) :
    ∃ K' M' oa' v', (∀ x, Lands 52 [(3, .slice oa' (i + 1) (i + 1)), (9, .slice (some ⟨rb, 0, rp⟩) sr.length rc), (10, .int .i64 (sr.length : Int)), (11, .int .i64 ((i + 1 : Nat) : Int))] .normal M' (codeD Tryd.prog kp 1 (callN Tryd.prog kp 1 o k) (drawD Tryd.prog kp 1 (callN Tryd.prog kp 1 o k) 52) 52 k (loopN Tryd.f7 0) (fullN 52 (up x [(3, .slice oa i i), (9, .slice (some ⟨rb, 0, rp⟩) sr.length rc), (10, .int .i64 (sr.length : Int)), (11, .int .i64 (i : Int))])) M)) ∧
      (∀ j x, K j = some x → K' j = some x) ∧ Hp M' K' [] ∧ OutR M' K' (vr ++ [(v', r)]) oa' ∧ tstsAt K' v' r.tests := by
  have hlt : i < sr.length := (List.getElem?_eq_some_iff.1 hi).1
  have gb := h.get hrb
  have hvs := hv.slice
  obtain ⟨K1, hK1, hw1, hback⟩ : ∃ K1, Hp M K1 [] ∧ (∀ j x, K j = some x → K1 j = some x) ∧ ((vr = [] ∧ oa = none ∧ K1 = K) ∨ ∃ c, oa = some ⟨c, 0, some 2⟩ ∧ K c = none ∧ K1 = keep1 K c (.cells true (vr.flatMap ruleC))) := by
    rcases ho with ⟨q1, q2⟩ | ⟨c, q1, q2, q3, q4⟩
    · exact ⟨K, h, fun _ _ h => h, .inl ⟨q1, q2, rfl⟩⟩
    · have := Hp.learn h q2 q4 q3
      exact ⟨_, this.1, this.2, .inr ⟨c, q1, q3, rfl⟩⟩
  obtain ⟨M1, hM1⟩ : ∃ M1, (M.push (.cells true [(.slice none 0 0), (.int Go.IntKind.u32 (0 : Int))])).set M.size (.cells true (ruleC (v, r))) = M1 := ⟨_, rfl⟩
  have gx : M1.get M.size = .cells true (ruleC (v, r)) := by rw [← hM1]; exact Mem.get_set_same _ _ _
  have s1 : M1.size = M.size + 1 := by rw [← hM1]; rfl
  have h1 : Hp M1 K1 [] := hK1.ext (hM1 ▸ Ext.fresh)
  have hst : storeD Tryd.prog (M.push (.cells true [(.slice none 0 0), (.int Go.IntKind.u32 (0 : Int))])) 49 (.agg ⟨ruleC (v, r)⟩) (.pointer (some ⟨M.size, 0, none⟩)) = some M1 := by
    obtain ⟨ta, n, tc, rfl⟩ := hvs
    rw [storeD_at (n := 2) sz49 rfl (Mem.get_push_same _ _) (by simp) rfl, ← hM1]
    rfl
  have hx0 := h1.push [] [.int .u32 (0 : Int)] 7
  obtain ⟨_, _, _, ⟨u, rfl⟩, gx0, hx1⟩ := hx0.set
  have hx1 := hx1 [] [.int .u32 r.verdict]
  obtain ⟨M2, hM2⟩ : ∃ M2, (M1.push (.cells true [(.slice none 0 0), (.int Go.IntKind.u32 (0 : Int))])).set M1.size (.cells true [.slice none 0 0, .int .u32 r.verdict]) = M2 := ⟨_, rfl⟩
  have hu : u = none := by
    have : (M1.push (.cells true ([] ++ Value.slice none 0 0 :: [.int .u32 (0 : Int)]))).get M1.size = .cells true ([] ++ Value.slice none 0 0 :: [.int .u32 (0 : Int)]) := Mem.get_push_same _ _
    rw [this] at gx0
    simp at gx0
    exact gx0.symm
  subst hu
  have h2 : Hp M2 K1 [(M1.size, xO r.verdict [])] := hM2 ▸ hx1
  have hst2 : storeD Tryd.prog (M1.push (.cells true [(.slice none 0 0), (.int Go.IntKind.u32 (0 : Int))])) 46 (.agg ⟨[.slice none 0 0, .int .u32 r.verdict]⟩) (.pointer (some ⟨M1.size, 0, none⟩)) = some M2 := by
    rw [storeD_at (n := 2) sz46 rfl (Mem.get_push_same _ _) (by simp) rfl, ← hM2]
    rfl
  have gx2 : M2.get M.size = .cells true (ruleC (v, r)) := by
    rw [← hM2, Mem.get_set_ne _ (by omega), Mem.get_push_ne _ (by omega)]; exact gx
  obtain ⟨ta, tc, M3, hve, hloop, h3⟩ := OurT_run (o := o) (k := k) (yb := M1.size) (rb := rb) (rn := sr.length) (rc := rc) (i := i) (on := i) (rp := rp) (oa := oa) (by omega) (by omega) (hv.mono hw1) h2
  obtain ⟨K2, a, hw2, hK2y, hbuf, hyn, h4⟩ := h3.freeze
  have gy : M3.get M1.size = .cells true [.slice a r.tests.length r.tests.length, .int .u32 r.verdict] := h4.get hK2y
  have h5 := h4.ext (Ext.push M3 (.cells true (ruleC (.slice a r.tests.length r.tests.length, r))))
  have hsx : sliceV (Value.slice a r.tests.length r.tests.length) := ⟨_, _, _, rfl⟩
  obtain ⟨K3, hK3, hw3, ho3, ht3⟩ : ∃ K3, Hp (M3.push (.cells true (ruleC (.slice a r.tests.length r.tests.length, r)))) K3 [] ∧ (∀ j x, K j = some x → K3 j = some x) ∧ OutR (M3.push (.cells true (ruleC (.slice a r.tests.length r.tests.length, r)))) K3 vr oa ∧ tstsAt K3 (.slice a r.tests.length r.tests.length) r.tests := by
    rcases hback with ⟨q1, q2, rfl⟩ | ⟨c, q1, q2, rfl⟩
    · refine ⟨K2, h5, hw2, .inl ⟨q1, q2⟩, a, _, rfl, fun h0 => ?_⟩
      obtain ⟨c', e1, e2, _⟩ := hbuf (List.length_pos_iff.2 h0)
      exact ⟨c', some 7, true, [], e1, by rw [e2, List.append_nil]; rfl⟩
    · have hc2 := hw2 c _ (keep1_same ..)
      refine ⟨dropK K2 c, h5.weak dropK_le, fun j x hj => ?_, .inr ⟨c, q1, h5.lt hc2, if_pos rfl, h5.get hc2⟩, a, _, rfl, fun h0 => ?_⟩
      · have hne : j ≠ c := by rintro rfl; rw [q2] at hj; cases hj
        rw [dropK_ne hne]
        exact hw2 j x (by rw [keep1_ne hne]; exact hj)
      · obtain ⟨c', e1, e2, e3⟩ := hbuf (List.length_pos_iff.2 h0)
        have hne : c' ≠ c := by rintro rfl; rw [keep1_same] at e3; cases e3
        exact ⟨c', some 7, true, [], e1, by rw [dropK_ne hne, e2, List.append_nil]; rfl⟩
  obtain ⟨oa', M4, hap, h6, ho6⟩ := outR_app hs hsx ho3 (nb := M3.size) (own := true) (x := (.slice a r.tests.length r.tests.length, r)) (Mem.get_push_same _ _) (by omega) hK3
  rw [hvl] at hap
  refine ⟨K3, M4, oa', .slice a r.tests.length r.tests.length, fun x => Lands.turn ?_, hw3, h6, ho6, ht3⟩
  refine Lands.via (markS_eq [4, 5, 6, 11] Tryd.prog kp 1 _ (Y.lpOf Tryd.prog kp 1 (callN Tryd.prog kp 1 o k) 52) (fun _ _ _ _ _ _ _ => rfl) 52 k (loopN Tryd.f7 0) (by kernel_rfl) _ M _) ?_
  refine Lands.via (t_OurA ..) ?_
  rw [lt_len hlt, nCondT]
  refine Lands.via (loop_reg _ _ _ (by kernel_rfl) _ _ _ _) ?_
  refine Lands.via (r7_4_eq ..) ?_
  refine Lands.via (opsF_cut 3 ..) ?_
  refine Lands.via (t_OurR ..) ?_
  rw [nOnNat, blt_t hlt, nCondT, gb, nCells, chunk_ble ruleC_len hlt, nCondT, chunk_sub ruleC_len hi]
  refine Lands.via (t_OurRS ..) ?_
  rw [Y.storeF_eq, hst, Y.ob_some]
  refine Lands.via (t_OurB ..) ?_
  refine Lands.via (loop_reg _ _ _ (by kernel_rfl) _ _ _ _) ?_
  refine Lands.via (r7_5_eq ..) ?_
  refine Lands.via (opsF_cut 4 ..) ?_
  refine Lands.via (t_Our5 ..) ?_
  rw [gx, nCells, show Y.nthL (ruleC (v, r)) 1 = some (.int .u32 r.verdict) from rfl, nElim, nAsInt, nKEq, nCondT]
  refine Lands.via (t_Our5S ..) ?_
  rw [Y.storeF_eq, hst2, Y.ob_some]
  refine Lands.via (t_OurC ..) ?_
  refine Lands.via (loop_reg _ _ _ (by kernel_rfl) _ _ _ _) ?_
  refine Lands.via (r7_6_eq ..) ?_
  refine Lands.via (t_Our6 ..) ?_
  rw [gx2, nCells, show Y.nthL (ruleC (v, r)) 0 = some v from rfl, nElim, hve, nAsSl]
  refine Lands.via (t_OurD ..) ?_
  refine Lands.via (mixL_loop _ _ (by kernel_rfl) _ _ _ _) ?_
  rw [Y.lpOf_eq, lc7]
  simp only [Int.ofNat_eq_natCast]
  refine Lands.loop (hloop _) fun x' => ?_
  refine Lands.via (t_OurE ..) ?_
  refine Lands.via (loop_reg _ _ _ (by kernel_rfl) _ _ _ _) ?_
  refine Lands.via (r7_11_eq ..) ?_
  refine Lands.via (opsF_cut 2 ..) ?_
  refine Lands.via (t_Our11 ..) ?_
  rw [gy, nCells, show Nat.ble 2 (Y.lenLF [Value.slice a r.tests.length r.tests.length, .int .u32 r.verdict]) = true from rfl, nCondT, show Y.subL [Value.slice a r.tests.length r.tests.length, .int .u32 r.verdict] 0 2 = [Value.slice a r.tests.length r.tests.length, .int .u32 r.verdict] from rfl]
  refine Lands.via (opsF_cut 1 ..) ?_
  refine Lands.via (t_Our11b ..) ?_
  rw [show List.drop 1 (List.drop 2 r7_11) = List.drop 3 r7_11 by rw [List.drop_drop]]
  refine Lands.via (t_Our11c ..) ?_
  rw [Y.appendF_eq, show appendD Tryd.prog (M3.push (.cells true [.slice a r.tests.length r.tests.length, .int .u32 r.verdict])) 25 25 (.slice oa i i) (.slice (some ⟨M3.size, 0, none⟩) 1 1) = _ from hap, nOnV]
  refine Lands.via (t_OurF ..) ?_
  rw [wrap_succ (by omega)]
  exact Lands.here _
theorem Our_loop {rest : List Value} {sr : List (Value × RuleT)} {own : Bool} {rb rc : Nat} {rp : Option Nat} (hk : 100000 + 80 ≤ k) (hsr : sr.length ≤ 10000) (hn : ∀ x ∈ sr, x.2.tests.length ≤ 10000) :
    ∀ (d i : Nat), sr.length = i + d → ∀ (jj : Nat) (K : Keep) (M : Mem) (vr : List (Value × RuleT)) (oa : Option Addr), d + 1 ≤ jj → K rb = some (.cells own (sr.flatMap ruleC ++ rest)) → (∀ x ∈ sr, tstsAt K x.1 x.2.tests) → (∀ x ∈ vr, tstsAt K x.1 x.2.tests) → vr.map (·.2) = (sr.take i).map (·.2) → Hp M K [] → OutR M K vr oa →
    ∃ K' M' oa' vr', (∀ x, Lands 52 [(3, .slice oa' sr.length sr.length), (9, .slice (some ⟨rb, 0, rp⟩) sr.length rc), (10, .int .i64 (sr.length : Int)), (11, .int .i64 (sr.length : Int))] (.exit 0) M' (loopD (codeD Tryd.prog kp 1 (callN Tryd.prog kp 1 o k) (drawD Tryd.prog kp 1 (callN Tryd.prog kp 1 o k) 52) 52 k (loopN Tryd.f7 0)) jj (fullN 52 (up x [(3, .slice oa i i), (9, .slice (some ⟨rb, 0, rp⟩) sr.length rc), (10, .int .i64 (sr.length : Int)), (11, .int .i64 (i : Int))])) M)) ∧ (∀ j x, K j = some x → K' j = some x) ∧ Hp M' K' [] ∧ OutR M' K' vr' oa' ∧ (∀ x ∈ vr', tstsAt K' x.1 x.2.tests) ∧ vr'.map (·.2) = sr.map (·.2)
  | 0, i, hi, jj, K, M, vr, oa, hjj, hrb, hv, hvr, hm, h, ho => by
    obtain ⟨jj, rfl⟩ : ∃ j', jj = j' + 1 := ⟨jj - 1, by omega⟩
    obtain rfl : i = sr.length := by omega
    refine ⟨K, M, oa, vr, fun x => Lands.stop (Lands.turn ?_) (by simp), fun _ _ h => h, h, ho, hvr, by rw [hm, List.take_length]⟩
    refine Lands.via (markS_eq [4, 5, 6, 11] Tryd.prog kp 1 _ (Y.lpOf Tryd.prog kp 1 (callN Tryd.prog kp 1 o k) 52) (fun _ _ _ _ _ _ _ => rfl) 52 k (loopN Tryd.f7 0) (by kernel_rfl) _ M _) ?_
    refine Lands.via (t_OurA ..) ?_
    rw [ge_len (by omega), nCondF]
    exact Lands.here _
  | d + 1, i, hi, jj, K, M, vr, oa, hjj, hrb, hv, hvr, hm, h, ho => by
    obtain ⟨jj, rfl⟩ : ∃ j', jj = j' + 1 := ⟨jj - 1, by omega⟩
    have hlt : i < sr.length := by omega
    obtain ⟨p, hp⟩ : ∃ p, sr[i]? = some p := ⟨_, List.getElem?_eq_getElem hlt⟩
    obtain ⟨v, r⟩ := p
    have hpm : (v, r) ∈ sr := List.mem_of_getElem? hp
    have hvl : vr.length = i := by
      have := congrArg List.length hm
      rw [List.length_map, List.length_map, List.length_take] at this
      omega
    obtain ⟨K1, M1, oa1, v1, h1, hw1, hp1, ho1, ht1⟩ := Our_turn (o := o) (k := k) (rc := rc) (rp := rp) hk (hn _ hpm) (by omega) hrb hp (hv _ hpm) (fun y hy => (hvr y hy).slice) hvl h ho
    obtain ⟨K2, M2, oa2, vr2, h2, hw2, hp2, ho2, ht2, hm2⟩ := Our_loop (rc := rc) (rp := rp) hk hsr hn d (i + 1) (by omega) jj K1 M1 (vr ++ [(v1, r)]) oa1 (by omega) (hw1 _ _ hrb) (fun x hx => (hv x hx).mono hw1) (fun x hx => by
      rcases List.mem_append.1 hx with hx | hx
      · exact (hvr x hx).mono hw1
      · obtain rfl := List.mem_singleton.1 hx; exact ht1) (by rw [List.map_append, hm, List.take_add_one, hp, Option.toList_some, List.map_append]; rfl) hp1 ho1
    exact ⟨K2, M2, oa2, vr2, fun x => Lands.next (h1 x) h2, fun j x hj => hw2 j x (hw1 j x hj), hp2, ho2, ht2, hm2⟩
theorem ours_do {rs : List RuleT} {v : Value} (hO : Orq o) (hk : 100000 + 100 ≤ k) (hl : rs.length ≤ 10000) (hn : ∀ r ∈ rs, r.tests.length ≤ 10000) (hv : rulesAt K v rs) (h : Hp M K []) :
    ∃ K' v' M', callN Tryd.prog kp 1 o k 7 [v] M = some (v', M') ∧ (∀ j x, K j = some x → K' j = some x) ∧ Hp M' K' [] ∧ rulesAt K' v' rs := by
  obtain ⟨k, rfl⟩ : ∃ k', k = k' + 1 := ⟨k - 1, by omega⟩
  obtain ⟨ra, rc, rfl, hv⟩ := hv
  obtain ⟨K1, M1, oa, vr, hloop, hw1, h1, ho1, ht1, hm1⟩ : ∃ K' M' oa' vr', (∀ x, Lands 52 [(3, .slice oa' rs.length rs.length), (9, .slice ra rs.length rc), (10, .int .i64 (rs.length : Int)), (11, .int .i64 (rs.length : Int))] (.exit 0) M' (loopD (codeD Tryd.prog kp 1 (callN Tryd.prog kp 1 o k) (drawD Tryd.prog kp 1 (callN Tryd.prog kp 1 o k) 52) 52 k (loopN Tryd.f7 0)) k (fullN 52 (up x [(3, .slice none 0 0), (9, .slice ra rs.length rc), (10, .int .i64 (rs.length : Int)), (11, .int .i64 (0 : Int))])) M)) ∧ (∀ j x, K j = some x → K' j = some x) ∧ Hp M' K' [] ∧ OutR M' K' vr' oa' ∧ (∀ x ∈ vr', tstsAt K' x.1 x.2.tests) ∧ vr'.map (·.2) = rs := by
    by_cases e : rs = []
    · subst e
      obtain ⟨k, rfl⟩ : ∃ k', k = k' + 1 := ⟨k - 1, by omega⟩
      exact ⟨K, M, none, [], fun x => Lands.stop (Lands.turn (Lands.via (t_OurA0 ..) (Lands.here _))) (by simp), fun _ _ h => h, h, .inl ⟨rfl, rfl⟩, fun x hx => by simp at hx, rfl⟩
    · obtain ⟨rb, rp, own, rest, sr, rfl, hrs, hrb, hvt⟩ := hv e
      have hl2 : rs.length = sr.length := by rw [← hrs, List.length_map]
      obtain ⟨K', M', oa', vr', q1, q2, q3, q4, q5, q6⟩ := Our_loop (o := o) (k := k) (rc := rc) (rp := rp) (by omega) (by omega) (fun x hx => hn _ (by rw [← hrs]; exact List.mem_map.2 ⟨x, hx, rfl⟩)) sr.length 0 (by omega) k K M [] none (by omega) hrb hvt (fun x hx => by simp at hx) (by simp) h (.inl ⟨rfl, rfl⟩)
      rw [hl2]
      exact ⟨K', M', oa', vr', q1, q2, q3, q4, q5, q6.trans hrs⟩
  have hvl : vr.length = rs.length := by rw [← hm1, List.length_map]
  have hrun : callN Tryd.prog kp 1 o (k + 1) 7 [.slice ra rs.length rc] M = some (.slice oa rs.length rs.length, M1) := by
    refine call_of 52 (hO.off 7 (by decide) _ _) at7 bd7 n7 ?_ okSl7
    refine Eq.trans (t_Our_in ..) ?_
    rw [Y.lpOf_eq, Y.loopC_body]
    simp only [Int.ofNat_eq_natCast]
    refine onE_land (hloop _) fun x' => ?_
    exact t_Our_out ..
  rcases ho1 with ⟨q1, q2⟩ | ⟨c, q1, q2, q3, q4⟩
  · have e : rs = [] := by rw [← hm1, q1]; rfl
    exact ⟨K1, _, M1, hrun, hw1, h1, oa, _, rfl, fun hne => absurd e hne⟩
  · have hlearn := Hp.learn h1 q2 q4 q3
    refine ⟨keep1 K1 c (.cells true (vr.flatMap ruleC)), _, M1, hrun, fun j x hj => hlearn.2 _ _ (hw1 j x hj), hlearn.1, oa, _, rfl, fun hne => ⟨c, some 2, true, [], vr, q1, hm1, by rw [keep1_same, List.append_nil], fun x hx => (ht1 x hx).mono hlearn.2⟩⟩
end
end
end Go.Proofs.YtadioopbehiakaaDoor
namespace Go.Proofs.YtadioopbehiakaaDoor
open Go Go.DI Go.DI.Kit Go.Proofs Go.Cmp
noncomputable section
variable {α : Type}
def c3 : Code := markS [6, 7, 25] (bodyOf Tryd.f3)
end
end Go.Proofs.YtadioopbehiakaaDoor
namespace Go.Cmp
open Go Go.DI
def Ins.setImm (v : Int) (x : Ins) : Ins := { x with imm := v }
def setI (l : List Ins) (i : Nat) (v : Int) : List Ins := l.modify i (Ins.setImm v)
end Go.Cmp
namespace Go.Proofs.YtadioopbehiakaaDoor
open Go Go.DI Go.DI.Kit Go.Proofs Go.Cmp
noncomputable section
theorem nt3 : Tryd.f3.ntmps = 160 := by kernel_rfl
theorem n3 {a : Value} : max [a].length Tryd.f3.ntmps = 160 := by rw [nt3]; rfl
section
variable {α : Type}
end
def ImgK (K : Keep) (l : List Ins) (a : Option Addr) : Prop := l ≠ [] → ∃ c, a = some ⟨c, 0, some 5⟩ ∧ K c = some (.cells true (codeC l))
theorem ImgK.mono {K K' : Keep} {l : List Ins} {a : Option Addr} (h : ImgK K l a) (hw : ∀ j x, K j = some x → K' j = some x) : ImgK K' l a := fun h0 => by
  obtain ⟨c, h1, h2⟩ := h h0
  exact ⟨c, h1, hw _ _ h2⟩
section
variable {K : Keep} {M : Mem} {o : Orc} {k : Nat}
theorem learn_code {l : List Ins} {v : Value} (h : Hp M K []) (hc : CodeAt M K l v) :
    ∃ K1 a M1, v = .slice a l.length l.length ∧ storeD Tryd.prog (M.push (.cells true [.slice none 0 0, .slice none 0 0])) 30 (.agg ⟨[.slice none 0 0, v]⟩) (.pointer (some ⟨M.size, 0, none⟩)) = some M1 ∧
      (∀ j x, K j = some x → K1 j = some x) ∧ Hp M1 K1 [] ∧ K M.size = none ∧ K1 M.size = some (.cells true [.slice none 0 0, .slice a l.length l.length]) ∧ ImgK K1 l a ∧ ∀ c, a = some ⟨c, 0, some 5⟩ → l ≠ [] → K c = none ∧ c ≠ M.size := by
  obtain ⟨a, rfl, hcode⟩ := hc
  obtain ⟨M1, hM1⟩ : ∃ M1, (M.push (.cells true [.slice none 0 0, .slice none 0 0])).set M.size (.cells true [.slice none 0 0, .slice a l.length l.length]) = M1 := ⟨_, rfl⟩
  have x1 : Ext M M1 := hM1 ▸ Ext.fresh
  have s1 : M1.size = M.size + 1 := by rw [← hM1]; rfl
  have gz : M1.get M.size = .cells true [.slice none 0 0, .slice a l.length l.length] := by rw [← hM1]; exact Mem.get_set_same _ _ _
  have hKM := h.no (Nat.le_refl M.size)
  have hst : storeD Tryd.prog (M.push (.cells true [.slice none 0 0, .slice none 0 0])) 30 (.agg ⟨[.slice none 0 0, .slice a l.length l.length]⟩) (.pointer (some ⟨M.size, 0, none⟩)) = some M1 := by
    rw [agg2_store (Mem.get_push_same _ _), hM1]
  obtain ⟨hb, hbw⟩ := h.box x1 (Nat.le_refl _) (by omega) gz
  by_cases e : l = []
  · subst e
    exact ⟨_, a, M1, rfl, hst, hbw, hb, hKM, keep1_same .., fun h0 => absurd rfl h0, fun c hc h0 => absurd rfl h0⟩
  · obtain ⟨c, rfl, q2, q3, q4⟩ := hcode e
    have hne : c ≠ M.size := by omega
    have g1 : M1.get c = .cells true (codeC l) := (x1.get c q2).trans q4
    obtain ⟨hl, hlw⟩ := Hp.learn hb (by omega) g1 (by rw [keep1_ne hne]; exact q3)
    refine ⟨_, _, M1, rfl, hst, fun j x hj => hlw _ _ (hbw _ _ hj), hl, hKM, hlw _ _ (keep1_same ..), fun _ => ⟨c, rfl, keep1_same ..⟩, fun c' hc' _ => ?_⟩
    cases hc'
    exact ⟨q3, hne⟩
theorem len_le {l : List RuleT} {r : RuleT} (h : r ∈ l) : r.tests.length ≤ (l.map fun r => r.tests.length).sum := by
  induction l with
  | nil => simp at h
  | cons x l ih =>
    rw [List.map_cons, List.sum_cons]
    rcases List.mem_cons.1 h with rfl | h
    · omega
    · have := ih h; omega
end
end
end Go.Proofs.YtadioopbehiakaaDoor
namespace Go.Proofs.YtadioopbehiakaaDoor
open Go Go.DI Go.DI.Kit Go.Proofs Go.Cmp
noncomputable section
set_option maxHeartbeats 4000000
variable {α : Type} (x : Nat → Value) (cf : Y.CF α) (L : Y.LK α) (k : Nat) (m : Mem)
def c4 : Code := markS [7, 9] (bodyOf Tryd.f4)
def r4_7 : List Oper := regOps 7 (bodyOf Tryd.f4)
def r4_9 : List Oper := regOps 9 (bodyOf Tryd.f4)
theorem t_Cs_in (ra wa : Option Addr) (rn rc wn wc : Nat) (q : Value → Mem → Option α) : Y.codeF c4 Tryd.prog kp 1 (Y.cfT Tryd.prog cf) L 111 k (fullN 111 (argX [.slice ra rn rc,.slice wa wn wc])) m (Y.retF Tryd.prog Tryd.f4 q) =
  (cf 5 [] m (fun v_12 m'_13=>(Y.asBo v_12 (fun b_14=>(cond b_14 (cf 6 [(.slice ra rn rc)] m'_13 (fun v_15 m'_16=>(Y.asBo v_15 (fun b_17=>(cond b_17 (q (.bool true) m'_16) (cf 6 [(.slice wa wn wc)] m'_16 (fun v_18 m'_19=>(Y.asBo v_18 (fun b_20=>(cond b_20 (q (.bool true) m'_19) (cf 7 [(.slice ra rn rc)] m'_19 (fun v_21 m'_22=>(Y.asSl v_21 (fun a_23 n_24 c_25=>(cf 10 [(.slice a_23 n_24 c_25)] m'_22 (fun v_26 m'_27=>(Y.asTup v_26 (fun cs_28=>(Y.unc (Array.toList cs_28) (fun a l=>(Y.asInt a (fun k'_32 n_33=>(cond (Y.kEq .i64 k'_32) (Y.unc l (fun a_21 l_22=>(Y.asInt a_21 (fun k'_37 n_38=>(cond (Y.kEq .i64 k'_37) (Y.unc l_22 (fun a_25 l_26=>none) (cf 7 [(.slice wa wn wc)] m'_27 (fun v_39 m'_40=>(Y.asSl v_39 (fun a_41 n_42 c_43=>(cf 10 [(.slice a_41 n_42 c_43)] m'_40 (fun v_44 m'_45=>(Y.asTup v_44 (fun cs_46=>(Y.unc (Array.toList cs_46) (fun a_33 l_34=>(Y.asInt a_33 (fun k'_50 n_51=>(cond (Y.kEq .i64 k'_50) (Y.unc l_34 (fun a_37 l_38=>(Y.asInt a_37 (fun k'_55 n_56=>(cond (Y.kEq .i64 k'_55) (Y.unc l_38 (fun a_41 l_42=>none) (L (Y.codeF (Y.loopC c4 0) Tryd.prog kp 1 (Y.cfT Tryd.prog cf) L 111 k) (Y.loopC c4 0) k (fullN 111 (up (up Go.DI.x0 [(32,(.int .i64 n_51)),(16,(.slice ra rn rc)),(24,(.slice a_23 n_24 c_25)),(4,(.bool false)),(20,(.bool false)),(28,(.tuple ⟨[(.int .i64 n_51),(.int .i64 n_56)]⟩)),(18,(.bool false)),(26,(.int .i64 n_33)),(22,(.tuple ⟨[(.int .i64 n_33),(.int .i64 n_38)]⟩)),(14,(.bool true)),(30,(.slice a_41 n_42 c_43)),(33,(.int .i64 n_56)),(17,(.bool false)),(25,(.tuple ⟨[(.int .i64 n_33),(.int .i64 n_38)]⟩)),(21,(.bool false)),(29,(.slice wa wn wc)),(19,(.slice wa wn wc)),(27,(.int .i64 n_38)),(23,(.slice ra rn rc)),(15,(.bool false)),(31,(.tuple ⟨[(.int .i64 n_51),(.int .i64 n_56)]⟩))]) [(0,(.slice ra rn rc)),(1,(.slice wa wn wc)),(5,(.int .i64 n_33)),(6,(.int .i64 n_38)),(7,(.int .i64 n_51)),(8,(.int .i64 n_56))])) m'_45 (Y.kont Tryd.prog kp 1 (Y.cfT Tryd.prog cf) L 111 k c4 0 (Y.retF Tryd.prog Tryd.f4 q)))) none)) none)) none) none)) none)) none)))))) none)))) none)) none)) none) none)) none)) none)))))) none))))) none))))) none))) (q (.bool false) m'_13))) none))):=by kernel_rfl
theorem t_CsB (ra wa oa : Option Addr) (rn rc wn wc on oc : Nat) (sa ca sb cb : Int) (q : Value → Mem → Option α) : Y.kont Tryd.prog kp 1 (Y.cfT Tryd.prog cf) L 111 k c4 0 (Y.retF Tryd.prog Tryd.f4 q) .normal (fullN 111 (up x [(0,.slice ra rn rc),(1,.slice wa wn wc),(5,.int .i64 sa),(6,.int .i64 ca),(7,.int .i64 sb),(8,.int .i64 cb),(9,.slice oa on oc)])) m =
  (cf 7 [(.slice oa on oc)] m (fun v_20 m'_21=>(Y.asSl v_20 (fun a_22 n_23 c_24=>(cf 10 [(.slice a_22 n_23 c_24)] m'_21 (fun v_25 m'_26=>(Y.asTup v_25 (fun cs_27=>(Y.unc (Array.toList cs_27) (fun a l=>(Y.asInt a (fun k'_31 n_32=>(cond (Y.kEq .i64 k'_31) (Y.unc l (fun a_12 l_13=>(Y.asInt a_12 (fun k'_36 n_37=>(cond (Y.kEq .i64 k'_36) (Y.unc l_13 (fun a_16 l_17=>none) (L (Y.codeF (Y.loopC c4 1) Tryd.prog kp 1 (Y.cfT Tryd.prog cf) L 111 k) (Y.loopC c4 1) k (fullN 111 (up (up x [(40,(.slice oa on oc)),(44,(.int .i64 n_37)),(42,(.tuple ⟨[(.int .i64 n_32),(.int .i64 n_37)]⟩)),(1,(.slice wa wn wc)),(41,(.slice a_22 n_23 c_24)),(43,(.int .i64 n_32)),(39,(.tuple ⟨[(.int .i64 n_32),(.int .i64 n_37)]⟩))]) [(0,(.slice ra rn rc)),(5,(.int .i64 sa)),(6,(.int .i64 ca)),(7,(.int .i64 sb)),(8,(.int .i64 cb)),(9,(.slice oa on oc)),(10,(.int .i64 n_32)),(11,(.int .i64 n_37))])) m'_26 (Y.kont Tryd.prog kp 1 (Y.cfT Tryd.prog cf) L 111 k c4 1 (Y.retF Tryd.prog Tryd.f4 q)))) none)) none)) none) none)) none)) none)))))) none))):=by kernel_rfl
theorem t_Cs9 (ra oa : Option Addr) (rn rc on oc : Nat) (sc cc : Int) (sa ca sb cb : Int) (q : Tmps → Mem → Option α) : Y.opsF (List.take 7 r4_9) Tryd.prog kp 1 (Y.cfT Tryd.prog cf) 111 r4_9 (fullN 111 (up x [(0,.slice ra rn rc),(5,.int .i64 sa),(6,.int .i64 ca),(7,.int .i64 sb),(8,.int .i64 cb),(9,.slice oa on oc),(10,.int .i64 sc),(11,.int .i64 cc)])) m q =
  (cf 7 [(.slice ra rn rc)] m (fun v_17 m'_18=>(Y.asSl v_17 (fun a_19 n_20 c_21=>(cf 8 [(.slice a_19 n_20 c_21)] m'_18 (fun v_22 m'_23=>(Y.asTup v_22 (fun cs_24=>(Y.unc (Array.toList cs_24) (fun a l=>(Y.asAgg a (fun cs_28=>(Y.unc l (fun a_11 l_12=>(Y.asInt a_11 (fun k'_32 n_33=>(cond (Y.kEq .i64 k'_32) (Y.unc l_12 (fun a_15 l_16=>none) (q (fullN 111 (up (up x [(0,(.slice ra rn rc)),(48,(.tuple ⟨[(.agg cs_28),(.int .i64 n_33)]⟩)),(46,(.slice ra rn rc)),(45,(.tuple ⟨[(.agg cs_28),(.int .i64 n_33)]⟩)),(47,(.slice a_19 n_20 c_21))]) [(5,(.int .i64 sa)),(6,(.int .i64 ca)),(7,(.int .i64 sb)),(8,(.int .i64 cb)),(9,(.slice oa on oc)),(10,(.int .i64 sc)),(11,(.int .i64 cc)),(12,(.pointer (some (Addr.mk (Mem.size m'_23) 0 none)))),(49,(.agg cs_28)),(50,(.int .i64 n_33))])) (Mem.push m'_23 (.cells true [(.slice none 0 0),(.slice none 0 0)])))) none)) none)) none)) none)) none)))))) none))):=by kernel_rfl
theorem t_CsC (oa : Option Addr) (on oc db : Nat) (sc cc e : Int) (sa ca sb cb : Int) (q : Value → Mem → Option α) : Y.kont Tryd.prog kp 1 (Y.cfT Tryd.prog cf) L 111 k c4 1 (Y.retF Tryd.prog Tryd.f4 q) .normal (fullN 111 (up x [(5,.int .i64 sa),(6,.int .i64 ca),(7,.int .i64 sb),(8,.int .i64 cb),(9,.slice oa on oc),(10,.int .i64 sc),(11,.int .i64 cc),(12,.pointer (some ⟨db,0,none⟩)),(13,.int .i64 e)])) m =
  (cond (cond (Y.eqF ca (0:Int)) false true) (cond (Y.eqF ca (0:Int)) (cond (Y.eqF cb (0:Int)) (cond (Y.eqF ca (0:Int)) (q (.bool true) m) (cond (Y.eqF e ca) (cond (Y.eqF sa (0:Int)) (q (.bool true) m) (q (.bool false) m)) (q (.bool false) m))) (cond (cond (Y.eqF cc (0:Int)) false true) (cond (Y.eqF ca (0:Int)) (q (.bool true) m) (cond (Y.eqF e ca) (cond (Y.eqF sa (0:Int)) (q (.bool true) m) (q (.bool false) m)) (q (.bool false) m))) (q (.bool false) m))) (cond (cond (Y.eqF cc (0:Int)) false true) (cond (Y.eqF ca (0:Int)) (q (.bool true) m) (cond (Y.eqF e ca) (cond (Y.eqF sa (0:Int)) (q (.bool true) m) (q (.bool false) m)) (q (.bool false) m))) (q (.bool false) m))) (cond (cond (Y.eqF cb (0:Int)) false true) (cond (Y.eqF ca (0:Int)) (cond (Y.eqF cb (0:Int)) (cond (Y.eqF ca (0:Int)) (q (.bool true) m) (cond (Y.eqF e ca) (cond (Y.eqF sa (0:Int)) (q (.bool true) m) (q (.bool false) m)) (q (.bool false) m))) (cond (cond (Y.eqF cc (0:Int)) false true) (cond (Y.eqF ca (0:Int)) (q (.bool true) m) (cond (Y.eqF e ca) (cond (Y.eqF sa (0:Int)) (q (.bool true) m) (q (.bool false) m)) (q (.bool false) m))) (q (.bool false) m))) (cond (cond (Y.eqF cc (0:Int)) false true) (cond (Y.eqF ca (0:Int)) (q (.bool true) m) (cond (Y.eqF e ca) (cond (Y.eqF sa (0:Int)) (q (.bool true) m) (q (.bool false) m)) (q (.bool false) m))) (q (.bool false) m))) (cond (Y.ltF (32 : Int) (Int.ofNat on)) (cond (Y.eqF ca (0:Int)) (cond (Y.eqF cb (0:Int)) (cond (Y.eqF ca (0:Int)) (q (.bool true) m) (cond (Y.eqF e ca) (cond (Y.eqF sa (0:Int)) (q (.bool true) m) (q (.bool false) m)) (q (.bool false) m))) (cond (cond (Y.eqF cc (0:Int)) false true) (cond (Y.eqF ca (0:Int)) (q (.bool true) m) (cond (Y.eqF e ca) (cond (Y.eqF sa (0:Int)) (q (.bool true) m) (q (.bool false) m)) (q (.bool false) m))) (q (.bool false) m))) (cond (cond (Y.eqF cc (0:Int)) false true) (cond (Y.eqF ca (0:Int)) (q (.bool true) m) (cond (Y.eqF e ca) (cond (Y.eqF sa (0:Int)) (q (.bool true) m) (q (.bool false) m)) (q (.bool false) m))) (q (.bool false) m))) (cond (Y.ltF (512 : Int) sa) (cond (Y.eqF e (3 : Int)) (cond (Y.eqF e (0:Int)) (Y.cellsOf (Mem.get m db) (fun _ c_19=>(Option.elim (Y.nthL c_19 1) none (fun o20=>(Y.asSl o20 (fun a_21 n_22 c_23=>(cond (cond (Y.eqF (Int.ofNat n_22) sa) false true) (q (.bool false) m) (cond (Y.eqF cc (0:Int)) (cond (Y.eqF sc (IntKind.wrap .i64 (Int.sub (IntKind.wrap .i64 (Int.add sa sb)) (7 : Int)))) (q (.bool true) m) (q (.bool false) m)) (q (.bool false) m)))) none))))) (cond (Y.eqF cc (0:Int)) (cond (Y.eqF sc (IntKind.wrap .i64 (Int.sub (IntKind.wrap .i64 (Int.add sa sb)) (7 : Int)))) (q (.bool true) m) (q (.bool false) m)) (q (.bool false) m))) (q (.bool false) m)) (cond (Y.eqF e (3 : Int)) (q (.bool false) m) (cond (Y.eqF e (0:Int)) (Y.cellsOf (Mem.get m db) (fun _ c_19=>(Option.elim (Y.nthL c_19 1) none (fun o20=>(Y.asSl o20 (fun a_21 n_22 c_23=>(cond (cond (Y.eqF (Int.ofNat n_22) sa) false true) (q (.bool false) m) (cond (Y.eqF cc (0:Int)) (cond (Y.eqF sc (IntKind.wrap .i64 (Int.sub (IntKind.wrap .i64 (Int.add sa sb)) (7 : Int)))) (q (.bool true) m) (q (.bool false) m)) (q (.bool false) m)))) none))))) (cond (Y.eqF cc (0:Int)) (cond (Y.eqF sc (IntKind.wrap .i64 (Int.sub (IntKind.wrap .i64 (Int.add sa sb)) (7 : Int)))) (q (.bool true) m) (q (.bool false) m)) (q (.bool false) m)))))))):=by kernel_rfl
end
end Go.Proofs.YtadioopbehiakaaDoor
