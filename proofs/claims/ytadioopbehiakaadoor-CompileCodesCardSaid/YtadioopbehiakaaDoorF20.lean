/-
  CTree11: the reference's Made, in pieces (printed by gt.py).
-/
import Derived.Test.YtadioopbehiakaaDoorF10
import Derived.Test.YtadioopbehiakaaDoorF19
import Derived.Test.YtadioopbehiakaaDoorF16
set_option linter.all false
set_option linter.unusedVariables false
set_option linter.unusedSimpArgs false
namespace Go.Proofs.YtadioopbehiakaaDoor
open Go Go.DI Go.DI.Kit Go.Proofs Go.Cmp
noncomputable section
set_option maxHeartbeats 4000000
variable {α : Type} (x : Nat → Value) (cf : Y.CF α) (L : Y.LK α) (k : Nat) (m : Mem)
def c15w : Code := markS [19] (bodyOf Tryd.f15)
def c15 : Code := markS [11] (loopN Tryd.f15 0)
def r15_11 : List Oper := regOps 11 (bodyOf Tryd.f15)
def r15_19 : List Oper := regOps 19 (bodyOf Tryd.f15)
def c15l : Code := markS [25] (loopN Tryd.f15 2)
def r15_25 : List Oper := regOps 25 (bodyOf Tryd.f15)
def c15o : Code := markS [31, 33, 34, 35] (loopN Tryd.f15 3)
def r15_31 : List Oper := regOps 31 (bodyOf Tryd.f15)
def r15_33 : List Oper := regOps 33 (bodyOf Tryd.f15)
def r15_34 : List Oper := regOps 34 (bodyOf Tryd.f15)
def r15_35 : List Oper := regOps 35 (bodyOf Tryd.f15)
theorem t_Made_in (ra : Option Addr) (rn rc : Nat) (q : Value → Mem → Option α) : Y.codeF c15w Tryd.prog kp 1 (Y.cfT Tryd.prog cf) L 151 k (fullN 151 (argX [.slice ra rn rc])) m (Y.retF Tryd.prog Tryd.f15 q) =
  (cf 26 [(.pointer (some (Addr.mk (Mem.size m) 0 none))),(.int .i64 (11 : Int)),(.int .u8 (6 : Int)),(.int .u8 (1:Int))] (Mem.push m (.cells true [(.slice none 0 0),(.int .i64 (0:Int))])) (fun v_9 m'_10=>(cf 27 [(.pointer (some (Addr.mk (Mem.size m) 0 none))),(.int .i64 (8 : Int)),(.int .u8 (7 : Int)),(.int .u8 (1:Int)),(.int .i64 (8 : Int))] m'_10 (fun v_11 m'_12=>(L (Y.codeF (Y.loopC c15w 0) Tryd.prog kp 1 (Y.cfT Tryd.prog cf) L 151 k) (Y.loopC c15w 0) k (fullN 151 (up (up Go.DI.x0 [(16,v_9),(2,(.slice none 0 0)),(18,v_11),(14,(.pointer (some (Addr.mk (Mem.size m) 0 none)))),(17,(.pointer (some (Addr.mk (Mem.size m) 0 none)))),(13,(.agg ⟨[(.slice none 0 0),(.int .i64 (0:Int))]⟩)),(15,(.pointer (some (Addr.mk (Mem.size m) 0 none))))]) [(0,(.slice ra rn rc)),(3,(.pointer (some (Addr.mk (Mem.size m) 0 none)))),(4,(.int .i64 (0:Int)))])) m'_12 (Y.kont Tryd.prog kp 1 (Y.cfT Tryd.prog cf) L 151 k c15w 0 (Y.retF Tryd.prog Tryd.f15 q))))))):=by kernel_rfl
theorem t_MadA (mp rb : Nat) (rp : Option Nat) (rn rc : Nat) (i : Int) (q : Y.ExK α) : Y.codeF c15 Tryd.prog kp 1 (Y.cfT Tryd.prog cf) L 151 k (fullN 151 (up x [(0,.slice (some ⟨rb,0,rp⟩) rn rc),(3,.pointer (some ⟨mp,0,none⟩)),(4,.int .i64 i)])) m q =
  (cond (Y.ltF i (Int.ofNat rn)) (cf 28 [(.pointer (some (Addr.mk mp 0 none)))] m (fun v_13 m'_14=>(Y.asInt v_13 (fun k'_15 n_16=>(cond (Y.kEq .i64 k'_15) (cf 29 [(.pointer (some (Addr.mk mp 0 none)))] m'_14 (fun v_17 m'_18=>(Y.onNat i (fun i_19=>(cond (Nat.blt i_19 rn) (Y.cellsOf (Mem.get m'_18 rb) (fun _ c_21=>(Option.elim (Y.nthL c_21 (Nat.add (Nat.add 0 (Nat.mul i_19 2)) 0)) none (fun o22=>(Y.asSl o22 (fun a_23 n_24 c_25=>(cond (Y.eqF (Int.ofNat n_24) (0:Int)) (cf 30 [(.pointer (some (Addr.mk mp 0 none))),(.int .i64 (5 : Int)),(.int .u8 (2 : Int)),(.int .i64 (0:Int)),(.int .i64 n_16)] m'_18 (fun v_26 m'_27=>(L (Y.codeF (Y.loopC c15 0) Tryd.prog kp 1 (Y.cfT Tryd.prog cf) L 151 k) (Y.loopC c15 0) k (fullN 151 (up (up x [(32,(.pointer (some (Addr.mk rb (Nat.add (Nat.add 0 (Nat.mul i_19 2)) 0) none)))),(36,(.pointer (some (Addr.mk mp 0 none)))),(20,(.slice (some (Addr.mk rb 0 rp)) rn rc)),(28,v_17),(34,(.int .i64 (Int.ofNat n_24))),(26,(.int .i64 n_16)),(38,v_26),(22,(.bool true)),(30,(.int .i64 i)),(33,(.slice a_23 n_24 c_25)),(25,(.pointer (some (Addr.mk mp 0 none)))),(37,(.int .i64 n_16)),(21,(.int .i64 (Int.ofNat rn))),(29,(.slice (some (Addr.mk rb 0 rp)) rn rc)),(35,(.bool true)),(19,(.int .i64 i)),(27,(.pointer (some (Addr.mk mp 0 none)))),(31,(.pointer (some (Addr.mk rb (Nat.add 0 (Nat.mul i_19 2)) none))))]) [(0,(.slice (some (Addr.mk rb 0 rp)) rn rc)),(3,(.pointer (some (Addr.mk mp 0 none)))),(4,(.int .i64 i)),(5,(.int .i64 n_16))])) m'_27 (Y.kont Tryd.prog kp 1 (Y.cfT Tryd.prog cf) L 151 k c15 0 q)))) (L (Y.codeF (Y.loopC c15 0) Tryd.prog kp 1 (Y.cfT Tryd.prog cf) L 151 k) (Y.loopC c15 0) k (fullN 151 (up (up x [(32,(.pointer (some (Addr.mk rb (Nat.add (Nat.add 0 (Nat.mul i_19 2)) 0) none)))),(20,(.slice (some (Addr.mk rb 0 rp)) rn rc)),(28,v_17),(34,(.int .i64 (Int.ofNat n_24))),(26,(.int .i64 n_16)),(22,(.bool true)),(30,(.int .i64 i)),(33,(.slice a_23 n_24 c_25)),(25,(.pointer (some (Addr.mk mp 0 none)))),(21,(.int .i64 (Int.ofNat rn))),(29,(.slice (some (Addr.mk rb 0 rp)) rn rc)),(35,(.bool false)),(19,(.int .i64 i)),(27,(.pointer (some (Addr.mk mp 0 none)))),(31,(.pointer (some (Addr.mk rb (Nat.add 0 (Nat.mul i_19 2)) none))))]) [(0,(.slice (some (Addr.mk rb 0 rp)) rn rc)),(3,(.pointer (some (Addr.mk mp 0 none)))),(4,(.int .i64 i)),(5,(.int .i64 n_16))])) m'_18 (Y.kont Tryd.prog kp 1 (Y.cfT Tryd.prog cf) L 151 k c15 0 q)))) none))))) none))))) none)) none))) (q (Ex.exit 0) (fullN 151 (up (up x [(20,(.slice (some (Addr.mk rb 0 rp)) rn rc)),(22,(.bool false)),(21,(.int .i64 (Int.ofNat rn))),(19,(.int .i64 i))]) [(0,(.slice (some (Addr.mk rb 0 rp)) rn rc)),(3,(.pointer (some (Addr.mk mp 0 none)))),(4,(.int .i64 i)),(5,(x 5))])) m)):=by kernel_rfl
theorem t_MadS (mp rb : Nat) (rp : Option Nat) (rn rc : Nat) (i : Int) (nx : Int) (q : Tmps → Mem → Option α) : Y.opsF (r15_11) Tryd.prog kp 1 (Y.cfT Tryd.prog cf) 151 r15_11 (fullN 151 (up x [(0,.slice (some ⟨rb,0,rp⟩) rn rc),(3,.pointer (some ⟨mp,0,none⟩)),(4,.int .i64 i),(5,.int .i64 nx)])) m q =
  (q (fullN 151 (up x [(0,(.slice (some (Addr.mk rb 0 rp)) rn rc)),(3,(.pointer (some (Addr.mk mp 0 none)))),(4,(.int .i64 i)),(5,(.int .i64 nx)),(6,(.int .i64 (0:Int)))])) m):=by kernel_rfl
theorem t_MadC (mp rb : Nat) (rp : Option Nat) (rn rc : Nat) (i : Int) (nx : Int) (j : Int) (q : Y.ExK α) : Y.kont Tryd.prog kp 1 (Y.cfT Tryd.prog cf) L 151 k c15 0 q .normal (fullN 151 (up x [(0,.slice (some ⟨rb,0,rp⟩) rn rc),(3,.pointer (some ⟨mp,0,none⟩)),(4,.int .i64 i),(5,.int .i64 nx),(6,.int .i64 j)])) m =
  (L (Y.codeF (Y.loopC c15 1) Tryd.prog kp 1 (Y.cfT Tryd.prog cf) L 151 k) (Y.loopC c15 1) k (fullN 151 (up x [(0,(.slice (some (Addr.mk rb 0 rp)) rn rc)),(3,(.pointer (some (Addr.mk mp 0 none)))),(4,(.int .i64 i)),(5,(.int .i64 nx)),(6,(.int .i64 j))])) m (Y.kont Tryd.prog kp 1 (Y.cfT Tryd.prog cf) L 151 k c15 1 q)):=by kernel_rfl
theorem t_MadD (mp rb : Nat) (rp : Option Nat) (rn rc : Nat) (i : Int) (nx : Int) (j : Int) (q : Y.ExK α) : Y.kont Tryd.prog kp 1 (Y.cfT Tryd.prog cf) L 151 k c15 1 q (.exit 2) (fullN 151 (up x [(0,.slice (some ⟨rb,0,rp⟩) rn rc),(3,.pointer (some ⟨mp,0,none⟩)),(4,.int .i64 i),(5,.int .i64 nx),(6,.int .i64 j)])) m =
  (Y.onNat i (fun i_15=>(cond (Nat.blt i_15 rn) (Y.cellsOf (Mem.get m rb) (fun _ c_17=>(Option.elim (Y.nthL c_17 (Nat.add (Nat.add 0 (Nat.mul i_15 2)) 1)) none (fun o18=>(Y.asInt o18 (fun k'_19 n_20=>(cond (Y.kEq Go.IntKind.u32 k'_19) (cf 32 [(.pointer (some (Addr.mk mp 0 none))),(.int Go.IntKind.u32 n_20)] m (fun v_21 m'_22=>(cf 33 [(.pointer (some (Addr.mk mp 0 none))),(.int .i64 nx)] m'_22 (fun v_23 m'_24=>(q .normal (fullN 151 (up (up x [(64,(.pointer (some (Addr.mk rb (Nat.add (Nat.add 0 (Nat.mul i_15 2)) 1) none)))),(24,(.int .i64 (IntKind.wrap .i64 (Int.add i (1:Int))))),(68,(.int .i64 nx)),(60,(.pointer (some (Addr.mk mp 0 none)))),(66,v_21),(6,(.int .i64 j)),(62,(.int .i64 i)),(65,(.int Go.IntKind.u32 n_20)),(5,(.int .i64 nx)),(69,v_23),(61,(.slice (some (Addr.mk rb 0 rp)) rn rc)),(67,(.pointer (some (Addr.mk mp 0 none)))),(23,(.int .i64 i)),(63,(.pointer (some (Addr.mk rb (Nat.add 0 (Nat.mul i_15 2)) none))))]) [(0,(.slice (some (Addr.mk rb 0 rp)) rn rc)),(3,(.pointer (some (Addr.mk mp 0 none)))),(4,(.int .i64 (IntKind.wrap .i64 (Int.add i (1:Int)))))])) m'_24))))) none)) none))))) none))):=by kernel_rfl
theorem t_MadI (mp rb : Nat) (rp : Option Nat) (rn rc : Nat) (i : Int) (nx : Int) (j : Int) (q : Y.ExK α) : Y.codeF (loopN Tryd.f15 1) Tryd.prog kp 1 (Y.cfT Tryd.prog cf) L 151 k (fullN 151 (up x [(0,.slice (some ⟨rb,0,rp⟩) rn rc),(3,.pointer (some ⟨mp,0,none⟩)),(4,.int .i64 i),(5,.int .i64 nx),(6,.int .i64 j)])) m q =
  (Y.onNat i (fun i_15=>(cond (Nat.blt i_15 rn) (Y.cellsOf (Mem.get m rb) (fun _ c_17=>(Option.elim (Y.nthL c_17 (Nat.add (Nat.add 0 (Nat.mul i_15 2)) 0)) none (fun o18=>(Y.asSl o18 (fun a_19 n_20 c_21=>(cond (Y.ltF j (Int.ofNat n_20)) (Y.onNat i (fun i_22=>(cond (Nat.blt i_22 rn) (Y.cellsOf (Mem.get m rb) (fun _ c_24=>(Option.elim (Y.nthL c_24 (Nat.add (Nat.add 0 (Nat.mul i_22 2)) 0)) none (fun o25=>(Y.asSl o25 (fun a_26 n_27 c_28=>(Option.elim a_26 none (fun o29=>(Y.onNat j (fun i_30=>(cond (Nat.blt i_30 n_27) (Y.cellsOf (Mem.get m o29.1) (fun _ c_32=>(cond (Nat.ble (Nat.add (Nat.add o29.2 (Nat.mul i_30 7)) 7) (Y.lenLF c_32)) (cf 31 [(.pointer (some (Addr.mk mp 0 none))),(.agg ⟨(Y.subL c_32 (Nat.add o29.2 (Nat.mul i_30 7)) 7)⟩),(.int .i64 nx)] m (fun v_33 m'_34=>(q .normal (fullN 151 (up (up x [(48,(.int .i64 (IntKind.wrap .i64 (Int.add j (1:Int))))),(40,(.slice (some (Addr.mk rb 0 rp)) rn rc)),(56,(.pointer (some (Addr.mk o29.1 (Nat.add o29.2 (Nat.mul i_30 7)) none)))),(52,(.pointer (some (Addr.mk rb (Nat.add 0 (Nat.mul i_22 2)) none)))),(44,(.slice a_19 n_20 c_21)),(50,(.slice (some (Addr.mk rb 0 rp)) rn rc)),(42,(.pointer (some (Addr.mk rb (Nat.add 0 (Nat.mul i_15 2)) none)))),(58,(.int .i64 nx)),(54,(.slice a_26 n_27 c_28)),(46,(.bool true)),(49,(.pointer (some (Addr.mk mp 0 none)))),(41,(.int .i64 i)),(57,(.agg ⟨(Y.subL c_32 (Nat.add o29.2 (Nat.mul i_30 7)) 7)⟩)),(53,(.pointer (some (Addr.mk rb (Nat.add (Nat.add 0 (Nat.mul i_22 2)) 0) none)))),(45,(.int .i64 (Int.ofNat n_20))),(51,(.int .i64 i)),(43,(.pointer (some (Addr.mk rb (Nat.add (Nat.add 0 (Nat.mul i_15 2)) 0) none)))),(59,v_33),(39,(.int .i64 j)),(55,(.int .i64 j)),(47,(.int .i64 j))]) [(0,(.slice (some (Addr.mk rb 0 rp)) rn rc)),(3,(.pointer (some (Addr.mk mp 0 none)))),(4,(.int .i64 i)),(5,(.int .i64 nx)),(6,(.int .i64 (IntKind.wrap .i64 (Int.add j (1:Int)))))])) m'_34))) none))) none)))))) none))))) none))) (q (Ex.exit 2) (fullN 151 (up (up x [(40,(.slice (some (Addr.mk rb 0 rp)) rn rc)),(44,(.slice a_19 n_20 c_21)),(42,(.pointer (some (Addr.mk rb (Nat.add 0 (Nat.mul i_15 2)) none)))),(46,(.bool false)),(41,(.int .i64 i)),(45,(.int .i64 (Int.ofNat n_20))),(43,(.pointer (some (Addr.mk rb (Nat.add (Nat.add 0 (Nat.mul i_15 2)) 0) none)))),(39,(.int .i64 j))]) [(0,(.slice (some (Addr.mk rb 0 rp)) rn rc)),(3,(.pointer (some (Addr.mk mp 0 none)))),(4,(.int .i64 i)),(5,(.int .i64 nx)),(6,(.int .i64 j))])) m))) none))))) none))):=by kernel_rfl
theorem t_Made2 (mp : Nat) (w0 w4 : Value) (q : Value → Mem → Option α) : Y.kont Tryd.prog kp 1 (Y.cfT Tryd.prog cf) L 151 k c15w 0 (Y.retF Tryd.prog Tryd.f15 q) (.exit 0) (fullN 151 (up x [(0,w0),(3,.pointer (some ⟨mp,0,none⟩)),(4,w4)])) m =
  (cf 29 [(.pointer (some (Addr.mk mp 0 none)))] m (fun v_10 m'_11=>(cf 32 [(.pointer (some (Addr.mk mp 0 none))),(.int Go.IntKind.u32 (0:Int))] m'_11 (fun v_12 m'_13=>(L (Y.codeF (Y.loopC c15w 2) Tryd.prog kp 1 (Y.cfT Tryd.prog cf) L 151 k) (Y.loopC c15w 2) k (fullN 151 (up (up x [(0,w0),(72,(.pointer (some (Addr.mk mp 0 none)))),(4,w4),(70,(.pointer (some (Addr.mk mp 0 none)))),(73,v_12),(71,v_10)]) [(3,(.pointer (some (Addr.mk mp 0 none))))])) m'_13 (Y.kont Tryd.prog kp 1 (Y.cfT Tryd.prog cf) L 151 k c15w 2 (Y.retF Tryd.prog Tryd.f15 q))))))):=by kernel_rfl
theorem t_Made19 (mp : Nat) (q : Tmps → Mem → Option α) : Y.opsF (List.take 5 r15_19) Tryd.prog kp 1 (Y.cfT Tryd.prog cf) 151 r15_19 (fullN 151 (up x [(3,.pointer (some ⟨mp,0,none⟩))])) m q =
  (Y.cellsOf (Mem.get m mp) (fun _ c_7=>(Option.elim (Y.nthL c_7 1) none (fun o8=>(Y.asInt o8 (fun k'_9 n_10=>(cond (Y.kEq .i64 k'_9) (q (fullN 151 (up (up x [(76,(.pointer (some (Addr.mk mp 1 none)))),(74,(.pointer (some (Addr.mk mp 0 none)))),(77,(.int .i64 n_10)),(75,(.pointer (some (Addr.mk mp 0 none))))]) [(3,(.pointer (some (Addr.mk mp 0 none)))),(78,(.int .i64 (IntKind.wrap .i64 (Int.add n_10 (1:Int)))))])) m) none)) none))))):=by kernel_rfl
theorem t_Made3 (mp ab an : Nat) (az : Option Nat) (q : Value → Mem → Option α) : Y.kont Tryd.prog kp 1 (Y.cfT Tryd.prog cf) L 151 k c15w 2 (Y.retF Tryd.prog Tryd.f15 q) .normal (fullN 151 (up x [(3,.pointer (some ⟨mp,0,none⟩)),(7,.slice (some ⟨ab,0,az⟩) an an)])) m =
  (L (Y.codeF (Y.loopC c15w 3) Tryd.prog kp 1 (Y.cfT Tryd.prog cf) L 151 k) (Y.loopC c15w 3) k (fullN 151 (up x [(3,(.pointer (some (Addr.mk mp 0 none)))),(7,(.slice (some (Addr.mk ab 0 az)) an an)),(8,(.int .i64 (0:Int))),(9,(.int .i64 (0:Int)))])) m (Y.kont Tryd.prog kp 1 (Y.cfT Tryd.prog cf) L 151 k c15w 3 (Y.retF Tryd.prog Tryd.f15 q))):=by kernel_rfl
theorem t_AtA (mp ab an : Nat) (az : Option Nat) (c i : Int) (q : Y.ExK α) : Y.codeF c15l Tryd.prog kp 1 (Y.cfT Tryd.prog cf) L 151 k (fullN 151 (up x [(3,.pointer (some ⟨mp,0,none⟩)),(7,.slice (some ⟨ab,0,az⟩) an an),(8,.int .i64 c),(9,.int .i64 i)])) m q =
  (Y.cellsOf (Mem.get m mp) (fun _ c_14=>(Option.elim (Y.nthL c_14 0) none (fun o15=>(Y.asSl o15 (fun a_16 n_17 c_18=>(cond (Y.ltF i (Int.ofNat n_17)) (Y.cellsOf (Mem.get m mp) (fun _ c_20=>(Option.elim (Y.nthL c_20 0) none (fun o21=>(Y.asSl o21 (fun a_22 n_23 c_24=>(Option.elim a_22 none (fun o25=>(Y.onNat i (fun i_26=>(cond (Nat.blt i_26 n_23) (Y.cellsOf (Mem.get m o25.1) (fun _ c_28=>(Option.elim (Y.nthL c_28 (Nat.add (Nat.add o25.2 (Nat.mul i_26 7)) 6)) none (fun o29=>(Y.asInt o29 (fun k'_30 n_31=>(cond (Y.kEq .i64 k'_30) (cond (Y.ltF (0:Int) n_31) (L (Y.codeF (Y.loopC c15l 0) Tryd.prog kp 1 (Y.cfT Tryd.prog cf) L 151 k) (Y.loopC c15l 0) k (fullN 151 (up (up x [(96,(.int .i64 n_31)),(80,(.int .i64 i)),(84,(.slice a_16 n_17 c_18)),(92,(.slice a_22 n_23 c_24)),(82,(.pointer (some (Addr.mk mp 0 none)))),(90,(.pointer (some (Addr.mk mp 0 none)))),(86,(.bool true)),(94,(.pointer (some (Addr.mk o25.1 (Nat.add o25.2 (Nat.mul i_26 7)) none)))),(97,(.bool true)),(81,(.pointer (some (Addr.mk mp 0 none)))),(89,(.pointer (some (Addr.mk mp 0 none)))),(85,(.int .i64 (Int.ofNat n_17))),(93,(.int .i64 i)),(83,(.pointer (some (Addr.mk mp 0 none)))),(91,(.pointer (some (Addr.mk mp 0 none)))),(95,(.pointer (some (Addr.mk o25.1 (Nat.add (Nat.add o25.2 (Nat.mul i_26 7)) 6) none))))]) [(3,(.pointer (some (Addr.mk mp 0 none)))),(7,(.slice (some (Addr.mk ab 0 az)) an an)),(8,(.int .i64 c)),(9,(.int .i64 i))])) m (Y.kont Tryd.prog kp 1 (Y.cfT Tryd.prog cf) L 151 k c15l 0 q)) (q .normal (fullN 151 (up (up x [(96,(.int .i64 n_31)),(80,(.int .i64 i)),(88,(.int .i64 (IntKind.wrap .i64 (Int.add i (1:Int))))),(84,(.slice a_16 n_17 c_18)),(92,(.slice a_22 n_23 c_24)),(82,(.pointer (some (Addr.mk mp 0 none)))),(90,(.pointer (some (Addr.mk mp 0 none)))),(86,(.bool true)),(110,(.int .i64 (IntKind.wrap .i64 (Int.add c (1:Int))))),(94,(.pointer (some (Addr.mk o25.1 (Nat.add o25.2 (Nat.mul i_26 7)) none)))),(97,(.bool false)),(81,(.pointer (some (Addr.mk mp 0 none)))),(89,(.pointer (some (Addr.mk mp 0 none)))),(85,(.int .i64 (Int.ofNat n_17))),(109,(.int .i64 c)),(93,(.int .i64 i)),(83,(.pointer (some (Addr.mk mp 0 none)))),(91,(.pointer (some (Addr.mk mp 0 none)))),(87,(.int .i64 i)),(95,(.pointer (some (Addr.mk o25.1 (Nat.add (Nat.add o25.2 (Nat.mul i_26 7)) 6) none))))]) [(3,(.pointer (some (Addr.mk mp 0 none)))),(7,(.slice (some (Addr.mk ab 0 az)) an an)),(8,(.int .i64 (IntKind.wrap .i64 (Int.add c (1:Int))))),(9,(.int .i64 (IntKind.wrap .i64 (Int.add i (1:Int)))))])) m)) none)) none))))) none)))))) none))))) (q (Ex.exit 4) (fullN 151 (up (up x [(80,(.int .i64 i)),(84,(.slice a_16 n_17 c_18)),(82,(.pointer (some (Addr.mk mp 0 none)))),(86,(.bool false)),(81,(.pointer (some (Addr.mk mp 0 none)))),(85,(.int .i64 (Int.ofNat n_17))),(83,(.pointer (some (Addr.mk mp 0 none))))]) [(3,(.pointer (some (Addr.mk mp 0 none)))),(7,(.slice (some (Addr.mk ab 0 az)) an an)),(8,(.int .i64 c)),(9,(.int .i64 i))])) m))) none))))):=by kernel_rfl
theorem t_AtR (mp ab an : Nat) (az : Option Nat) (c i : Int) (q : Tmps → Mem → Option α) : Y.opsF (List.take 11 r15_25) Tryd.prog kp 1 (Y.cfT Tryd.prog cf) 151 r15_25 (fullN 151 (up x [(3,.pointer (some ⟨mp,0,none⟩)),(7,.slice (some ⟨ab,0,az⟩) an an),(8,.int .i64 c),(9,.int .i64 i)])) m q =
  (Y.cellsOf (Mem.get m mp) (fun _ c_12=>(Option.elim (Y.nthL c_12 0) none (fun o13=>(Y.asSl o13 (fun a_14 n_15 c_16=>(Option.elim a_14 none (fun o17=>(Y.onNat i (fun i_18=>(cond (Nat.blt i_18 n_15) (Y.cellsOf (Mem.get m o17.1) (fun _ c_20=>(Option.elim (Y.nthL c_20 (Nat.add (Nat.add o17.2 (Nat.mul i_18 7)) 6)) none (fun o21=>(Y.asInt o21 (fun k'_22 n_23=>(cond (Y.kEq .i64 k'_22) (Y.onNat n_23 (fun i_24=>(cond (Nat.blt i_24 an) (q (fullN 151 (up (up x [(104,(.pointer (some (Addr.mk o17.1 (Nat.add o17.2 (Nat.mul i_18 7)) none)))),(100,(.pointer (some (Addr.mk mp 0 none)))),(98,(.slice (some (Addr.mk ab 0 az)) an an)),(106,(.int .i64 n_23)),(102,(.slice a_14 n_15 c_16)),(105,(.pointer (some (Addr.mk o17.1 (Nat.add (Nat.add o17.2 (Nat.mul i_18 7)) 6) none)))),(101,(.pointer (some (Addr.mk mp 0 none)))),(99,(.pointer (some (Addr.mk mp 0 none)))),(103,(.int .i64 i))]) [(3,(.pointer (some (Addr.mk mp 0 none)))),(7,(.slice (some (Addr.mk ab 0 az)) an an)),(8,(.int .i64 c)),(9,(.int .i64 i)),(107,(.int .i64 c)),(108,(.pointer (some (Addr.mk ab (Nat.add 0 (Nat.mul i_24 1)) none))))])) m) none))) none)) none))))) none)))))) none))))):=by kernel_rfl
theorem t_AtK (mp ab an : Nat) (az : Option Nat) (c i : Int) (q : Y.ExK α) : Y.kont Tryd.prog kp 1 (Y.cfT Tryd.prog cf) L 151 k c15l 0 q .normal (fullN 151 (up x [(3,.pointer (some ⟨mp,0,none⟩)),(7,.slice (some ⟨ab,0,az⟩) an an),(8,.int .i64 c),(9,.int .i64 i)])) m =
  (q .normal (fullN 151 (up (up x [(88,(.int .i64 (IntKind.wrap .i64 (Int.add i (1:Int))))),(87,(.int .i64 i))]) [(3,(.pointer (some (Addr.mk mp 0 none)))),(7,(.slice (some (Addr.mk ab 0 az)) an an)),(8,(.int .i64 c)),(9,(.int .i64 (IntKind.wrap .i64 (Int.add i (1:Int)))))])) m):=by kernel_rfl
theorem t_Made4 (mp ab an : Nat) (az : Option Nat) (c i : Int) (q : Value → Mem → Option α) : Y.kont Tryd.prog kp 1 (Y.cfT Tryd.prog cf) L 151 k c15w 3 (Y.retF Tryd.prog Tryd.f15 q) (.exit 4) (fullN 151 (up x [(3,.pointer (some ⟨mp,0,none⟩)),(7,.slice (some ⟨ab,0,az⟩) an an),(8,.int .i64 c),(9,.int .i64 i)])) m =
  (L (Y.codeF (Y.loopC c15w 4) Tryd.prog kp 1 (Y.cfT Tryd.prog cf) L 151 k) (Y.loopC c15w 4) k (fullN 151 (up (up x [(8,(.int .i64 c)),(9,(.int .i64 i))]) [(3,(.pointer (some (Addr.mk mp 0 none)))),(7,(.slice (some (Addr.mk ab 0 az)) an an)),(10,(.slice none 0 0)),(11,(.int .i64 (0:Int)))])) m (Y.kont Tryd.prog kp 1 (Y.cfT Tryd.prog cf) L 151 k c15w 4 (Y.retF Tryd.prog Tryd.f15 q))):=by kernel_rfl
theorem t_OutA (mp ab an : Nat) (az : Option Nat) (oa : Option Addr) (on : Nat) (i : Int) (q : Y.ExK α) : Y.codeF c15o Tryd.prog kp 1 (Y.cfT Tryd.prog cf) L 151 k (fullN 151 (up x [(3,.pointer (some ⟨mp,0,none⟩)),(7,.slice (some ⟨ab,0,az⟩) an an),(10,.slice oa on on),(11,.int .i64 i)])) m q =
  (Y.cellsOf (Mem.get m mp) (fun _ c_15=>(Option.elim (Y.nthL c_15 0) none (fun o16=>(Y.asSl o16 (fun a_17 n_18 c_19=>(cond (Y.ltF i (Int.ofNat n_18)) (L (Y.codeF (Y.loopC c15o 0) Tryd.prog kp 1 (Y.cfT Tryd.prog cf) L 151 k) (Y.loopC c15o 0) k (fullN 151 (up (up x [(112,(.pointer (some (Addr.mk mp 0 none)))),(116,(.int .i64 (Int.ofNat n_18))),(114,(.pointer (some (Addr.mk mp 0 none)))),(113,(.pointer (some (Addr.mk mp 0 none)))),(117,(.bool true)),(115,(.slice a_17 n_18 c_19)),(111,(.int .i64 i))]) [(3,(.pointer (some (Addr.mk mp 0 none)))),(7,(.slice (some (Addr.mk ab 0 az)) an an)),(10,(.slice oa on on)),(11,(.int .i64 i))])) m (Y.kont Tryd.prog kp 1 (Y.cfT Tryd.prog cf) L 151 k c15o 0 q)) (q (Ex.exit 6) (fullN 151 (up (up x [(112,(.pointer (some (Addr.mk mp 0 none)))),(116,(.int .i64 (Int.ofNat n_18))),(114,(.pointer (some (Addr.mk mp 0 none)))),(113,(.pointer (some (Addr.mk mp 0 none)))),(117,(.bool false)),(115,(.slice a_17 n_18 c_19)),(111,(.int .i64 i))]) [(3,(.pointer (some (Addr.mk mp 0 none)))),(7,(.slice (some (Addr.mk ab 0 az)) an an)),(10,(.slice oa on on)),(11,(.int .i64 i))])) m))) none))))):=by kernel_rfl
theorem t_OutR (mp ab an : Nat) (az : Option Nat) (oa : Option Addr) (on : Nat) (i : Int) (q : Tmps → Mem → Option α) : Y.opsF (List.take 8 r15_31) Tryd.prog kp 1 (Y.cfT Tryd.prog cf) 151 r15_31 (fullN 151 (up x [(3,.pointer (some ⟨mp,0,none⟩)),(7,.slice (some ⟨ab,0,az⟩) an an),(10,.slice oa on on),(11,.int .i64 i)])) m q =
  (Y.cellsOf (Mem.get m mp) (fun _ c_13=>(Option.elim (Y.nthL c_13 0) none (fun o14=>(Y.asSl o14 (fun a_15 n_16 c_17=>(Option.elim a_15 none (fun o18=>(Y.onNat i (fun i_19=>(cond (Nat.blt i_19 n_16) (Y.cellsOf (Mem.get m o18.1) (fun _ c_21=>(cond (Nat.ble (Nat.add (Nat.add o18.2 (Nat.mul i_19 7)) 7) (Y.lenLF c_21)) (q (fullN 151 (up (up x [(120,(.pointer (some (Addr.mk mp 0 none)))),(124,(.int .i64 i)),(122,(.pointer (some (Addr.mk mp 0 none)))),(121,(.pointer (some (Addr.mk mp 0 none)))),(125,(.pointer (some (Addr.mk o18.1 (Nat.add o18.2 (Nat.mul i_19 7)) none)))),(123,(.slice a_15 n_16 c_17))]) [(3,(.pointer (some (Addr.mk mp 0 none)))),(7,(.slice (some (Addr.mk ab 0 az)) an an)),(10,(.slice oa on on)),(11,(.int .i64 i)),(12,(.pointer (some (Addr.mk (Mem.size m) 0 none)))),(126,(.agg ⟨(Y.subL c_21 (Nat.add o18.2 (Nat.mul i_19 7)) 7)⟩))])) (Mem.push m (.cells true [(.int .u8 (0:Int)),(.int .u8 (0:Int)),(.int .u8 (0:Int)),(.int Go.IntKind.i16 (0:Int)),(.int Go.IntKind.i32 (0:Int)),(.int .i64 (0:Int)),(.int .i64 (0:Int))]))) none))) none)))))) none))))):=by kernel_rfl
theorem t_OutB (mp ab an : Nat) (az : Option Nat) (oa : Option Addr) (on : Nat) (i : Int) (xb : Nat) (q : Y.ExK α) : Y.kont Tryd.prog kp 1 (Y.cfT Tryd.prog cf) L 151 k c15o 0 q .normal (fullN 151 (up x [(3,.pointer (some ⟨mp,0,none⟩)),(7,.slice (some ⟨ab,0,az⟩) an an),(10,.slice oa on on),(11,.int .i64 i),(12,.pointer (some ⟨xb,0,none⟩))])) m =
  (Y.cellsOf (Mem.get m xb) (fun _ c_16=>(Option.elim (Y.nthL c_16 6) none (fun o17=>(Y.asInt o17 (fun k'_18 n_19=>(cond (Y.kEq .i64 k'_18) (cond (Y.ltF (0:Int) n_19) (q .normal (fullN 151 (up (up x [(128,(.int .i64 n_19)),(118,(.int .i64 i)),(129,(.bool true)),(119,(.int .i64 (IntKind.wrap .i64 (Int.add i (1:Int))))),(127,(.pointer (some (Addr.mk xb 6 none))))]) [(3,(.pointer (some (Addr.mk mp 0 none)))),(7,(.slice (some (Addr.mk ab 0 az)) an an)),(10,(.slice oa on on)),(11,(.int .i64 (IntKind.wrap .i64 (Int.add i (1:Int))))),(12,(.pointer (some (Addr.mk xb 0 none))))])) m) (L (Y.codeF (Y.loopC c15o 1) Tryd.prog kp 1 (Y.cfT Tryd.prog cf) L 151 k) (Y.loopC c15o 1) k (fullN 151 (up (up x [(128,(.int .i64 n_19)),(129,(.bool false)),(127,(.pointer (some (Addr.mk xb 6 none))))]) [(3,(.pointer (some (Addr.mk mp 0 none)))),(7,(.slice (some (Addr.mk ab 0 az)) an an)),(10,(.slice oa on on)),(11,(.int .i64 i)),(12,(.pointer (some (Addr.mk xb 0 none))))])) m (Y.kont Tryd.prog kp 1 (Y.cfT Tryd.prog cf) L 151 k c15o 1 q))) none)) none))))):=by kernel_rfl
theorem t_Out33 (mp ab an : Nat) (az : Option Nat) (oa : Option Addr) (on : Nat) (i : Int) (xb : Nat) (q : Tmps → Mem → Option α) : Y.opsF (r15_33) Tryd.prog kp 1 (Y.cfT Tryd.prog cf) 151 r15_33 (fullN 151 (up x [(3,.pointer (some ⟨mp,0,none⟩)),(7,.slice (some ⟨ab,0,az⟩) an an),(10,.slice oa on on),(11,.int .i64 i),(12,.pointer (some ⟨xb,0,none⟩))])) m q =
  (Y.cellsOf (Mem.get m xb) (fun _ c_14=>(Option.elim (Y.nthL c_14 5) none (fun o15=>(Y.asInt o15 (fun k'_16 n_17=>(cond (Y.kEq .i64 k'_16) (cond (Y.ltF (0:Int) n_17) (q (fullN 151 (up (up x [(130,(.pointer (some (Addr.mk xb 5 none)))),(131,(.int .i64 n_17))]) [(3,(.pointer (some (Addr.mk mp 0 none)))),(7,(.slice (some (Addr.mk ab 0 az)) an an)),(10,(.slice oa on on)),(11,(.int .i64 i)),(12,(.pointer (some (Addr.mk xb 0 none)))),(132,(.bool true))])) m) (q (fullN 151 (up (up x [(130,(.pointer (some (Addr.mk xb 5 none)))),(131,(.int .i64 n_17))]) [(3,(.pointer (some (Addr.mk mp 0 none)))),(7,(.slice (some (Addr.mk ab 0 az)) an an)),(10,(.slice oa on on)),(11,(.int .i64 i)),(12,(.pointer (some (Addr.mk xb 0 none)))),(132,(.bool false))])) m)) none)) none))))):=by kernel_rfl
theorem t_OutC (mp ab an : Nat) (az : Option Nat) (oa : Option Addr) (on : Nat) (i : Int) (xb : Nat) (bb : Bool) (q : Y.ExK α) : Y.kont Tryd.prog kp 1 (Y.cfT Tryd.prog cf) L 151 k c15o 1 q .normal (fullN 151 (up x [(3,.pointer (some ⟨mp,0,none⟩)),(7,.slice (some ⟨ab,0,az⟩) an an),(10,.slice oa on on),(11,.int .i64 i),(12,.pointer (some ⟨xb,0,none⟩)),(132,.bool bb)])) m =
  (cond bb (L (Y.codeF (Y.loopC c15o 2) Tryd.prog kp 1 (Y.cfT Tryd.prog cf) L 151 k) (Y.loopC c15o 2) k (fullN 151 (up (up x [(132,(.bool bb))]) [(3,(.pointer (some (Addr.mk mp 0 none)))),(7,(.slice (some (Addr.mk ab 0 az)) an an)),(10,(.slice oa on on)),(11,(.int .i64 i)),(12,(.pointer (some (Addr.mk xb 0 none))))])) m (Y.kont Tryd.prog kp 1 (Y.cfT Tryd.prog cf) L 151 k c15o 2 q)) (L (Y.codeF (Y.loopC c15o 3) Tryd.prog kp 1 (Y.cfT Tryd.prog cf) L 151 k) (Y.loopC c15o 3) k (fullN 151 (up (up x [(132,(.bool bb))]) [(3,(.pointer (some (Addr.mk mp 0 none)))),(7,(.slice (some (Addr.mk ab 0 az)) an an)),(10,(.slice oa on on)),(11,(.int .i64 i)),(12,(.pointer (some (Addr.mk xb 0 none))))])) m (Y.kont Tryd.prog kp 1 (Y.cfT Tryd.prog cf) L 151 k c15o 3 q))):=by kernel_rfl
theorem t_Out34 (mp ab an : Nat) (az : Option Nat) (oa : Option Addr) (on : Nat) (i : Int) (xb : Nat) (q : Tmps → Mem → Option α) : Y.opsF (List.take 12 r15_34) Tryd.prog kp 1 (Y.cfT Tryd.prog cf) 151 r15_34 (fullN 151 (up x [(3,.pointer (some ⟨mp,0,none⟩)),(7,.slice (some ⟨ab,0,az⟩) an an),(10,.slice oa on on),(11,.int .i64 i),(12,.pointer (some ⟨xb,0,none⟩))])) m q =
  (Y.cellsOf (Mem.get m xb) (fun _ c_14=>(Option.elim (Y.nthL c_14 5) none (fun o15=>(Y.asInt o15 (fun k'_16 n_17=>(cond (Y.kEq .i64 k'_16) (Y.onNat n_17 (fun i_18=>(cond (Nat.blt i_18 an) (Y.cellsOf (Mem.get m ab) (fun _ c_20=>(Option.elim (Y.nthL c_20 (Nat.add 0 (Nat.mul i_18 1))) none (fun o21=>(Y.asInt o21 (fun k'_22 n_23=>(cond (Y.kEq .i64 k'_22) (q (fullN 151 (up (up x [(136,(.pointer (some (Addr.mk ab (Nat.add 0 (Nat.mul i_18 1)) none)))),(140,(.int .i64 (IntKind.wrap .i64 (Int.sub n_23 (Int.ofNat on))))),(138,(.slice oa on on)),(134,(.pointer (some (Addr.mk xb 5 none)))),(137,(.int .i64 n_23)),(133,(.slice (some (Addr.mk ab 0 az)) an an)),(141,(.int .i64 (IntKind.wrap .i64 (Int.sub (IntKind.wrap .i64 (Int.sub n_23 (Int.ofNat on))) (1:Int))))),(139,(.int .i64 (Int.ofNat on))),(135,(.int .i64 n_17)),(143,(.pointer (some (Addr.mk xb 0 none))))]) [(3,(.pointer (some (Addr.mk mp 0 none)))),(7,(.slice (some (Addr.mk ab 0 az)) an an)),(10,(.slice oa on on)),(11,(.int .i64 i)),(12,(.pointer (some (Addr.mk xb 0 none)))),(142,(.int Go.IntKind.i16 (IntKind.wrap Go.IntKind.i16 (IntKind.wrap .i64 (Int.sub (IntKind.wrap .i64 (Int.sub n_23 (Int.ofNat on))) (1:Int)))))),(144,(.pointer (some (Addr.mk xb 3 none))))])) m) none)) none))))) none))) none)) none))))):=by kernel_rfl
theorem t_OutD (mp ab an : Nat) (az : Option Nat) (oa : Option Addr) (on : Nat) (i : Int) (xb : Nat) (q : Y.ExK α) : Y.kont Tryd.prog kp 1 (Y.cfT Tryd.prog cf) L 151 k c15o 2 q .normal (fullN 151 (up x [(3,.pointer (some ⟨mp,0,none⟩)),(7,.slice (some ⟨ab,0,az⟩) an an),(10,.slice oa on on),(11,.int .i64 i),(12,.pointer (some ⟨xb,0,none⟩))])) m =
  (L (Y.codeF (Y.loopC c15o 3) Tryd.prog kp 1 (Y.cfT Tryd.prog cf) L 151 k) (Y.loopC c15o 3) k (fullN 151 (up x [(3,(.pointer (some (Addr.mk mp 0 none)))),(7,(.slice (some (Addr.mk ab 0 az)) an an)),(10,(.slice oa on on)),(11,(.int .i64 i)),(12,(.pointer (some (Addr.mk xb 0 none))))])) m (Y.kont Tryd.prog kp 1 (Y.cfT Tryd.prog cf) L 151 k c15o 3 q)):=by kernel_rfl
theorem t_Out35 (mp ab an : Nat) (az : Option Nat) (oa : Option Addr) (on : Nat) (i : Int) (xb : Nat) (q : Tmps → Mem → Option α) : Y.opsF (List.take 3 r15_35) Tryd.prog kp 1 (Y.cfT Tryd.prog cf) 151 r15_35 (fullN 151 (up x [(3,.pointer (some ⟨mp,0,none⟩)),(7,.slice (some ⟨ab,0,az⟩) an an),(10,.slice oa on on),(11,.int .i64 i),(12,.pointer (some ⟨xb,0,none⟩))])) m q =
  (Y.cellsOf (Mem.get m xb) (fun _ c_14=>(cond (Nat.ble 5 (Y.lenLF c_14)) (q (fullN 151 (up (up x [(146,(.pointer (some (Addr.mk xb 0 none))))]) [(3,(.pointer (some (Addr.mk mp 0 none)))),(7,(.slice (some (Addr.mk ab 0 az)) an an)),(10,(.slice oa on on)),(11,(.int .i64 i)),(12,(.pointer (some (Addr.mk xb 0 none)))),(145,(.slice oa on on)),(147,(.agg ⟨(Y.subL c_14 0 5)⟩))])) m) none))):=by kernel_rfl
theorem t_Out35b (mp ab an : Nat) (az : Option Nat) (oa : Option Addr) (on : Nat) (i : Int) (xb : Nat) (io id is iof im : Int) (q : Tmps → Mem → Option α) : Y.opsF (List.take 1 (List.drop 3 r15_35)) Tryd.prog kp 1 (Y.cfT Tryd.prog cf) 151 r15_35 (fullN 151 (up x [(3,.pointer (some ⟨mp,0,none⟩)),(7,.slice (some ⟨ab,0,az⟩) an an),(10,.slice oa on on),(11,.int .i64 i),(12,.pointer (some ⟨xb,0,none⟩)),(145,.slice oa on on),(147,.agg ⟨[.int .u8 io,.int .u8 id,.int .u8 is,.int .i16 iof,.int .i32 im]⟩)])) m q =
  (q (fullN 151 (up (up x [(10,(.slice oa on on)),(147,(.agg ⟨[(.int .u8 io),(.int .u8 id),(.int .u8 is),(.int Go.IntKind.i16 iof),(.int Go.IntKind.i32 im)]⟩))]) [(3,(.pointer (some (Addr.mk mp 0 none)))),(7,(.slice (some (Addr.mk ab 0 az)) an an)),(11,(.int .i64 i)),(12,(.pointer (some (Addr.mk xb 0 none)))),(145,(.slice oa on on)),(148,(.slice (some (Addr.mk (Mem.size m) 0 none)) 1 1))])) (Mem.push m (.cells true [(.int .u8 io),(.int .u8 id),(.int .u8 is),(.int Go.IntKind.i16 iof),(.int Go.IntKind.i32 im)]))):=by kernel_rfl
theorem t_OutE (mp : Nat) (w7 w10 w12 : Value) (i : Int) (q : Y.ExK α) : Y.kont Tryd.prog kp 1 (Y.cfT Tryd.prog cf) L 151 k c15o 3 q .normal (fullN 151 (up x [(3,.pointer (some ⟨mp,0,none⟩)),(7,w7),(10,w10),(11,.int .i64 i),(12,w12)])) m =
  (q .normal (fullN 151 (up (up x [(12,w12),(118,(.int .i64 i)),(119,(.int .i64 (IntKind.wrap .i64 (Int.add i (1:Int)))))]) [(3,(.pointer (some (Addr.mk mp 0 none)))),(7,w7),(10,w10),(11,(.int .i64 (IntKind.wrap .i64 (Int.add i (1:Int)))))])) m):=by kernel_rfl
theorem t_Made5 (mp : Nat) (w7 w11 : Value) (oa : Option Addr) (on : Nat) (q : Value → Mem → Option α) : Y.kont Tryd.prog kp 1 (Y.cfT Tryd.prog cf) L 151 k c15w 4 (Y.retF Tryd.prog Tryd.f15 q) (.exit 6) (fullN 151 (up x [(3,.pointer (some ⟨mp,0,none⟩)),(7,w7),(10,.slice oa on on),(11,w11)])) m =
  (q (.slice oa on on) m):=by kernel_rfl
end
end Go.Proofs.YtadioopbehiakaaDoor
namespace Go.Proofs.YtadioopbehiakaaDoor
open Go Go.DI Go.DI.Kit Go.Proofs Go.Cmp
noncomputable section
theorem at15 : Tryd.prog.funcs[15]? = some Tryd.f15 := by kernel_rfl
theorem bd15 : Tryd.f15.body = some (bodyOf Tryd.f15) := by kernel_rfl
theorem nt15 : Tryd.f15.ntmps = 151 := by kernel_rfl
theorem n15 {a : Value} : max [a].length Tryd.f15.ntmps = 151 := by rw [nt15]; rfl
theorem okSl15 {a : Option Addr} {n c : Nat} : okR Tryd.prog 15 (.slice a n c) = true := by kernel_rfl
section
variable {α : Type} (x : Nat → Value) (cf : Y.CF α) (L : Y.LK α) (k : Nat) (m : Mem)
theorem r15_11_eq (t : Tmps) (q : Y.ExK α) : Y.codeF (Y.loopC c15 0) Tryd.prog kp 1 (Y.cfT Tryd.prog cf) L 151 k t m q = Y.opsF r15_11 Tryd.prog kp 1 (Y.cfT Tryd.prog cf) 151 r15_11 t m fun t m => q .normal t m := by kernel_rfl
theorem up_5 (x : Nat → Value) (a b c : Value) : fullN 151 (up x [(0, a), (3, b), (4, c), (5, x 5)]) = fullN 151 (up x [(0, a), (3, b), (4, c)]) := by kernel_rfl
theorem t_MadA0 (w3 : Value) (ra : Option Addr) (rc : Nat) (q : Y.ExK α) : Y.codeF (loopN Tryd.f15 0) Tryd.prog kp 1 (Y.cfT Tryd.prog cf) L 151 k (fullN 151 (up x [(0, .slice ra 0 rc), (3, w3), (4, .int .i64 (0 : Int))])) m q =
  q (.exit 0) (fullN 151 (up (up x [(20, .slice ra 0 rc), (22, .bool false), (21, .int .i64 (0 : Int)), (19, .int .i64 (0 : Int))]) [(0, .slice ra 0 rc), (3, w3), (4, .int .i64 (0 : Int))])) m := by kernel_rfl
end
theorem lc15 : Y.loopC c15 1 = loopN Tryd.f15 1 := by kernel_rfl
section
variable {K : Keep} {mp N : Nat} {rows : List RowS} {M : Mem}
variable {o : Orc} {k : Nat}
theorem askN_le (t : TestT) (n : Nat) : n ≤ askN t n ∧ askN t n ≤ n + 36 := by unfold askN; (repeat' split) <;> omega
theorem testsN_le : ∀ (ts : List TestT) (n : Nat), n ≤ testsN ts n ∧ testsN ts n ≤ n + 36 * ts.length
  | [], n => by simp [testsN]
  | t :: ts, n => by
    have h1 := askN_le t n
    have h2 := testsN_le ts (askN t n)
    simp only [testsN, List.length_cons]
    omega
theorem TestsR_loop {r : RuleT} {v : Value} {rest : List Value} {vr : List (Value × RuleT)} {own : Bool} {rb rc i l : Nat} {rp : Option Nat} (hO : Orq o) (hk : 100000 + 70 ≤ k) (hn : r.tests.length ≤ 8) (hts : ∀ t ∈ r.tests, TestOk t)
    (hrb : K rb = some (.cells own (vr.flatMap ruleC ++ rest))) (hi : vr[i]? = some (v, r)) (hv : tstsAt K v r.tests) :
    ∀ (d j : Nat), r.tests.length = j + d → ∀ (jj n : Nat) (rows : List RowS) (M : Mem), d + 1 ≤ jj → rows.length + 150 * d + 300 ≤ 100000 → n + 36 * d ≤ 600000 → RS K mp rows n M →
    ∃ M', (∀ x, Lands 151 [(0, .slice (some ⟨rb, 0, rp⟩) vr.length rc), (3, .pointer (some ⟨mp, 0, none⟩)), (4, .int .i64 (i : Int)), (5, .int .i64 (l : Int)), (6, .int .i64 (r.tests.length : Int))] (.exit 2) M' (loopD (codeD Tryd.prog kp 1 (callN Tryd.prog kp 1 o k) (drawD Tryd.prog kp 1 (callN Tryd.prog kp 1 o k) 151) 151 k (loopN Tryd.f15 1)) jj (fullN 151 (up x [(0, .slice (some ⟨rb, 0, rp⟩) vr.length rc), (3, .pointer (some ⟨mp, 0, none⟩)), (4, .int .i64 (i : Int)), (5, .int .i64 (l : Int)), (6, .int .i64 (j : Int))])) M)) ∧ RS K mp (rows ++ testsS l (r.tests.drop j) n) (testsN (r.tests.drop j) n) M'
  | 0, j, hj, jj, n, rows, M, hjj, _, _, h => by
    obtain ⟨jj, rfl⟩ : ∃ j', jj = j' + 1 := ⟨jj - 1, by omega⟩
    obtain rfl : j = r.tests.length := by omega
    have hlt : i < vr.length := (List.getElem?_eq_some_iff.1 hi).1
    have gb := h.get hrb
    obtain ⟨a, cap, rfl, _⟩ := hv
    refine ⟨M, fun x => Lands.stop (Lands.turn ?_) (by simp), ?_⟩
    · refine Lands.via (t_MadI ..) ?_
      rw [nOnNat, blt_t hlt, nCondT, gb, nCells, chunk_nth ruleC_len hi (by omega), show (ruleC (Value.slice a r.tests.length cap, r))[0]? = some (.slice a r.tests.length cap) from rfl, nElim, nAsSl, ge_len (by omega), nCondF]
      exact Lands.here _
    · rw [List.drop_length, show testsS l [] n = [] from rfl, List.append_nil]
      exact h
  | d + 1, j, hj, jj, n, rows, M, hjj, hl, hN, h => by
    obtain ⟨jj, rfl⟩ : ∃ j', jj = j' + 1 := ⟨jj - 1, by omega⟩
    have hlt : i < vr.length := (List.getElem?_eq_some_iff.1 hi).1
    have gb := h.get hrb
    have hjl : j < r.tests.length := by omega
    obtain ⟨t, ht⟩ : ∃ t, r.tests[j]? = some t := ⟨_, List.getElem?_eq_getElem hjl⟩
    have htm : t ∈ r.tests := List.mem_of_getElem? ht
    have hd : r.tests.drop j = t :: r.tests.drop (j + 1) := by
      rw [List.drop_eq_getElem_cons hjl]
      congr 1
      rw [List.getElem?_eq_getElem hjl] at ht
      exact Option.some.inj ht
    obtain ⟨M1, c1, h1⟩ := Test_do (k := k) (lf := l) hO (by omega) (hts t htm) (by omega) (by omega) h
    have htl := testS_len t l n
    have hnn := askN_le t n
    obtain ⟨M2, h2, h3⟩ := TestsR_loop (rc := rc) (rp := rp) (l := l) hO hk hn hts hrb hi hv d (j + 1) (by omega) jj (askN t n) _ M1 (by omega) (by rw [List.length_append]; omega) (by omega) h1
    obtain ⟨a, cap, rfl, hv⟩ := hv
    obtain ⟨tb, tp, own2, rest2, rfl, htb⟩ := hv (by rintro e; rw [e] at hjl; simp at hjl)
    have gt := h.get htb
    refine ⟨M2, fun x => Lands.next (Lands.turn ?_) h2, ?_⟩
    · refine Lands.via (t_MadI ..) ?_
      rw [nOnNat, blt_t hlt, nCondT, gb, nCells, chunk_nth ruleC_len hi (by omega), show (ruleC (Value.slice (some ⟨tb, 0, tp⟩) r.tests.length cap, r))[0]? = some (.slice (some ⟨tb, 0, tp⟩) r.tests.length cap) from rfl, nElim, nAsSl, lt_len hjl, nCondT,
        nOnNat, blt_t hlt, nCondT, nCells, chunk_nth ruleC_len hi (by omega), show (ruleC (Value.slice (some ⟨tb, 0, tp⟩) r.tests.length cap, r))[0]? = some (.slice (some ⟨tb, 0, tp⟩) r.tests.length cap) from rfl, nElim, nAsSl, nElim, nOnNat, blt_t hjl, nCondT]
      dsimp only
      rw [gt, nCells, chunk_ble testC_len hjl, nCondT, chunk_sub testC_len ht]
      refine Lands.step c1 ?_
      rw [wrap_succ (by omega)]
      exact Lands.here _
    · rw [hd, testsS, testsN, ← List.append_assoc]
      exact h3
theorem RuleR_turn {r : RuleT} {v : Value} {rest : List Value} {vr : List (Value × RuleT)} {own : Bool} {rb rc i n : Nat} {rp : Option Nat} (hO : Orq o) (hk : 100000 + 80 ≤ k) (hn : r.tests.length ≤ 8) (hts : ∀ t ∈ r.tests, TestOk t) (hi32 : i ≤ 32)
    (hrb : K rb = some (.cells own (vr.flatMap ruleC ++ rest))) (hi : vr[i]? = some (v, r)) (hv : tstsAt K v r.tests) (hl : rows.length + 2000 ≤ 100000) (hN : n ≤ 500000) (h : RS K mp rows n M) :
    ∃ M', (∀ x, Lands 151 [(0, .slice (some ⟨rb, 0, rp⟩) vr.length rc), (3, .pointer (some ⟨mp, 0, none⟩)), (4, .int .i64 ((i + 1 : Nat) : Int))] .normal M' (codeD Tryd.prog kp 1 (callN Tryd.prog kp 1 o k) (drawD Tryd.prog kp 1 (callN Tryd.prog kp 1 o k) 151) 151 k (loopN Tryd.f15 0) (fullN 151 (up x [(0, .slice (some ⟨rb, 0, rp⟩) vr.length rc), (3, .pointer (some ⟨mp, 0, none⟩)), (4, .int .i64 (i : Int))])) M)) ∧ RS K mp (rows ++ ruleS r n) (testsN r.tests (n + 1)) M' := by
  have hlt : i < vr.length := (List.getElem?_eq_some_iff.1 hi).1
  obtain ⟨M1, c1, h1⟩ := Label_do (k := k) hO (by omega) (by omega) h
  obtain ⟨M2, c2, h2⟩ := Afresh_do (k := k) hO (by omega) (by omega) h1
  have g2 := h2.get hrb
  have hl3 : (if r.tests = [] then [ins (iIf 5 2 0) (n + 1)] else []).length ≤ 1 := by split <;> simp
  obtain ⟨M3, q1, q2, h3⟩ : ∃ M3, (r.tests = [] → callN Tryd.prog kp 1 o k 30 [ptr mp, .int .i64 5, .int .u8 2, .int .i64 0, .int .i64 ((n + 1 : Nat) : Int)] M2 = some (unitV, M3)) ∧ (r.tests ≠ [] → M3 = M2) ∧
      RS K mp (rows ++ afreshS ++ if r.tests = [] then [ins (iIf 5 2 0) (n + 1)] else []) (n + 1) M3 := by
    by_cases e : r.tests = []
    · obtain ⟨M3, c3, h3⟩ := If_do (k := k) (op := 5) (d := 2) (m := 0) (to := n + 1) hO (by omega) (by simp [afreshS]; omega) (by simp) h2
      refine ⟨M3, fun _ => c3, fun hn => absurd e hn, ?_⟩
      rw [if_pos e]; exact h3
    · refine ⟨M2, fun hn => absurd hn e, fun _ => rfl, ?_⟩
      rw [if_neg e, List.append_nil]; exact h2
  obtain ⟨M4, hloop, h4⟩ := TestsR_loop (rc := rc) (rp := rp) (l := n + 1) (k := k) hO (by omega) hn hts hrb hi hv r.tests.length 0 (by omega) k (n + 1) _ M3 (by omega) (by simp only [List.length_append, afreshS, List.length_cons, List.length_nil]; omega) (by omega) h3
  rw [List.drop_zero] at h4
  have htl := testsS_len (n + 1) r.tests (n + 1)
  have g4 := h4.get hrb
  obtain ⟨M5, c5, h5⟩ := Low_do (k := k) (v := r.verdict) hO (by omega) (by simp only [List.length_append, afreshS, List.length_cons, List.length_nil]; omega) h4
  obtain ⟨M6, c6, h6⟩ := Here_do (k := k) (l := n + 1) hO (by omega) (by simp only [List.length_append, lowS, afreshS, List.length_cons, List.length_nil]; omega) h5
  refine ⟨M6, fun x => Lands.turn ?_, by unfold ruleS; simpa only [List.append_assoc] using h6⟩
  obtain ⟨a, cap, rfl, _⟩ := hv
  refine Lands.via (markS_eq [11] Tryd.prog kp 1 _ (Y.lpOf Tryd.prog kp 1 (callN Tryd.prog kp 1 o k) 151) (fun _ _ _ _ _ _ _ => rfl) 151 k (loopN Tryd.f15 0) (by kernel_rfl) _ M _) ?_
  refine Lands.via (t_MadA ..) ?_
  rw [lt_len hlt, nCondT]
  refine Lands.step c1 ?_
  rw [nAsInt, nKEq, nCondT]
  refine Lands.step c2 ?_
  rw [nOnNat, blt_t hlt, nCondT, g2, nCells, chunk_nth ruleC_len hi (by omega), show (ruleC (Value.slice a r.tests.length cap, r))[0]? = some (.slice a r.tests.length cap) from rfl, nElim, nAsSl]
  by_cases e : r.tests = []
  · rw [eqF_t (show Int.ofNat r.tests.length = 0 by rw [e]; rfl), nCondT]
    refine Lands.step (q1 e) ?_
    refine Lands.via (loop_reg _ _ _ (by kernel_rfl) _ _ _ _) ?_
    refine Lands.via (r15_11_eq ..) ?_
    refine Lands.via (t_MadS ..) ?_
    refine Lands.via (t_MadC ..) ?_
    refine Lands.via (mixL_loop _ _ (by kernel_rfl) _ _ _ _) ?_
    rw [Y.lpOf_eq, lc15]
    refine Lands.loop (hloop _) fun x' => ?_
    refine Lands.via (t_MadD ..) ?_
    rw [nOnNat, blt_t hlt, nCondT, g4, nCells, chunk_nth ruleC_len hi (by omega), show (ruleC (Value.slice a r.tests.length cap, r))[1]? = some (.int .u32 r.verdict) from rfl, nElim, nAsInt, nKEq, nCondT]
    refine Lands.step c5 ?_
    refine Lands.step c6 ?_
    rw [wrap_succ (by omega)]
    exact Lands.here _
  · obtain rfl := q2 e
    rw [eqF_f (show Int.ofNat r.tests.length ≠ 0 by intro h; exact e (List.eq_nil_of_length_eq_zero (by simpa using h))), nCondF]
    refine Lands.via (loop_reg _ _ _ (by kernel_rfl) _ _ _ _) ?_
    refine Lands.via (r15_11_eq ..) ?_
    refine Lands.via (t_MadS ..) ?_
    refine Lands.via (t_MadC ..) ?_
    refine Lands.via (mixL_loop _ _ (by kernel_rfl) _ _ _ _) ?_
    rw [Y.lpOf_eq, lc15]
    refine Lands.loop (hloop _) fun x' => ?_
    refine Lands.via (t_MadD ..) ?_
    rw [nOnNat, blt_t hlt, nCondT, g4, nCells, chunk_nth ruleC_len hi (by omega), show (ruleC (Value.slice a r.tests.length cap, r))[1]? = some (.int .u32 r.verdict) from rfl, nElim, nAsInt, nKEq, nCondT]
    refine Lands.step c5 ?_
    refine Lands.step c6 ?_
    rw [wrap_succ (by omega)]
    exact Lands.here _
theorem RulesR_loop {rs : List RuleT} {rest : List Value} {vr : List (Value × RuleT)} {own : Bool} {rb rc : Nat} {rp : Option Nat} (hO : Orq o) (hk : 100000 + 80 ≤ k) (hT : TableOk rs) (hrs : vr.map (·.2) = rs) (hrb : K rb = some (.cells own (vr.flatMap ruleC ++ rest))) (hv : ∀ x ∈ vr, tstsAt K x.1 x.2.tests) :
    ∀ (d i : Nat), vr.length = i + d → ∀ (jj n : Nat) (rows : List RowS) (M : Mem), d + 1 ≤ jj → rows.length + 1210 * d + 2000 ≤ 100000 → n + 300 * d ≤ 12000 → RS K mp rows n M →
    ∃ M', (∀ x, Lands 151 [(0, .slice (some ⟨rb, 0, rp⟩) vr.length rc), (3, .pointer (some ⟨mp, 0, none⟩)), (4, .int .i64 (vr.length : Int))] (.exit 0) M' (loopD (codeD Tryd.prog kp 1 (callN Tryd.prog kp 1 o k) (drawD Tryd.prog kp 1 (callN Tryd.prog kp 1 o k) 151) 151 k (loopN Tryd.f15 0)) jj (fullN 151 (up x [(0, .slice (some ⟨rb, 0, rp⟩) vr.length rc), (3, .pointer (some ⟨mp, 0, none⟩)), (4, .int .i64 (i : Int))])) M)) ∧ RS K mp (rows ++ rulesS (rs.drop i) n) (rulesN (rs.drop i) n) M'
  | 0, i, hi, jj, n, rows, M, hjj, _, _, h => by
    obtain ⟨jj, rfl⟩ : ∃ j', jj = j' + 1 := ⟨jj - 1, by omega⟩
    obtain rfl : i = vr.length := by omega
    have hlen : rs.length = vr.length := by rw [← hrs, List.length_map]
    refine ⟨M, fun x => Lands.stop (Lands.turn ?_) (by simp), ?_⟩
    · refine Lands.via (markS_eq [11] Tryd.prog kp 1 _ (Y.lpOf Tryd.prog kp 1 (callN Tryd.prog kp 1 o k) 151) (fun _ _ _ _ _ _ _ => rfl) 151 k (loopN Tryd.f15 0) (by kernel_rfl) _ M _) ?_
      refine Lands.via (t_MadA ..) ?_
      rw [ge_len (by omega), nCondF]
      refine Lands.via (congrArg (fun t => Y.q0 (.exit 0) t M) (up_5 ..)) ?_
      exact Lands.here _
    · rw [← hlen, List.drop_length, show rulesS [] n = [] from rfl, List.append_nil]
      exact h
  | d + 1, i, hi, jj, n, rows, M, hjj, hl, hN, h => by
    obtain ⟨jj, rfl⟩ : ∃ j', jj = j' + 1 := ⟨jj - 1, by omega⟩
    have hlen : rs.length = vr.length := by rw [← hrs, List.length_map]
    have h32 := hT.len
    have hlt : i < vr.length := by omega
    have hi32 : i ≤ 32 := by omega
    have hN1 : n + 300 * d + 300 ≤ 12000 := by rw [Nat.mul_succ, ← Nat.add_assoc] at hN; exact hN
    clear hN
    obtain ⟨p, hp⟩ : ∃ p, vr[i]? = some p := ⟨_, List.getElem?_eq_getElem hlt⟩
    obtain ⟨v, r⟩ := p
    have hpm : (v, r) ∈ vr := List.mem_of_getElem? hp
    have hrm : r ∈ rs := by rw [← hrs]; exact List.mem_map.2 ⟨_, hpm, rfl⟩
    have hri : rs[i]? = some r := by rw [← hrs, List.getElem?_map, hp]; rfl
    have hd : rs.drop i = r :: rs.drop (i + 1) := by
      rw [List.drop_eq_getElem_cons (by omega)]
      congr 1
      rw [List.getElem?_eq_getElem (by omega)] at hri
      exact Option.some.inj hri
    obtain ⟨M2, h1, h2⟩ := RuleR_turn (k := k) (rc := rc) (rp := rp) hO hk (hT.tests r hrm) (hT.ok r hrm) hi32 hrb hp (hv _ hpm) (by omega) (by omega) h
    have htl := ruleS_len r n (hT.tests r hrm)
    have hnn := testsN_le r.tests (n + 1)
    have ht8 := hT.tests r hrm
    obtain ⟨M3, h3, h4⟩ := RulesR_loop (rc := rc) (rp := rp) hO hk hT hrs hrb hv d (i + 1) (by omega) jj (testsN r.tests (n + 1)) _ M2 (by omega) (by rw [List.length_append]; omega) (by omega) h2
    refine ⟨M3, fun x => Lands.next (h1 x) h3, ?_⟩
    rw [hd, rulesS, rulesN, ← List.append_assoc]
    exact h4
end
end
end Go.Proofs.YtadioopbehiakaaDoor
namespace Go.Cmp
open Go Go.DI
def LB (N : Nat) (rows : List RowS) : Prop := ∀ r ∈ rows, r.to ≤ N ∧ r.here ≤ N
section
variable {N : Nat}
theorem LB.app {a b : List RowS} (h1 : LB N a) (h2 : LB N b) : LB N (a ++ b) := fun r hr => (List.mem_append.1 hr).elim (h1 r) (h2 r)
theorem LB.nil : LB N [] := fun r hr => by simp at hr
theorem LB.cons {r : RowS} {a : List RowS} (h1 : r.to ≤ N ∧ r.here ≤ N) (h2 : LB N a) : LB N (r :: a) := fun x hx => (List.mem_cons.1 hx).elim (fun e => e ▸ h1) (h2 x)
theorem LB.ins {x : Ins} {to : Nat} {a : List RowS} (h1 : to ≤ N) (h2 : LB N a) : LB N (Cmp.ins x to :: a) := LB.cons ⟨h1, Nat.zero_le _⟩ h2
theorem LB.lab {l : Nat} {a : List RowS} (h1 : l ≤ N) (h2 : LB N a) : LB N (Cmp.lab l :: a) := LB.cons ⟨Nat.zero_le _, h1⟩ h2
theorem LB.afresh : LB N afreshS := .ins (Nat.zero_le _) (.ins (Nat.zero_le _) (.ins (Nat.zero_le _) .nil))
theorem LB.told {a out : Nat} {m : Int} (h1 : a ≤ N) (h2 : out ≤ N) : LB N (toldS a m out) := .ins h1 (.ins h2 (.lab h1 .nil))
theorem LB.held {op m : Int} {out : Nat} (h : out ≤ N) : LB N (heldS op m out) := by
  unfold heldS
  split
  · exact .ins h .nil
  · exact .ins (Nat.zero_le _) (.ins (Nat.zero_le _) (.ins h .nil))
theorem LB.past {t : TestT} {out d : Nat} (h1 : out ≤ N) (h2 : d ≤ N) : ∀ (m k n : Nat), n + 2 * m ≤ N → LB N (pastK t out d m k n)
  | 0, k, n, _ => .nil
  | m + 1, k, n, h => by
    rw [pastK]
    exact .app (.app (.app (.ins (by split <;> omega) .nil) (.told (by omega) h1)) (.ins (Nat.zero_le _) (.ins h2 (.lab (by omega) .nil)))) (LB.past h1 h2 m (k + 1) (n + 2) (by omega))
theorem LB.ask {t : TestT} {n : Nat} (h : askN t n ≤ N) : LB N (askS t n) := by
  unfold askS
  unfold askN at h
  split
  · exact .ins (Nat.zero_le _) .nil
  · rename_i h1
    split
    · exact .ins (Nat.zero_le _) .nil
    · rename_i h2
      rw [if_neg (by simp [h1, h2])] at h
      split
      · rename_i h3
        rw [if_pos h3] at h
        exact .app (.told (by omega) (by omega)) (.ins (Nat.zero_le _) .nil)
      · rename_i h3
        rw [if_neg h3] at h
        exact .app (.app (.app (.told (by omega) (by omega)) (.ins (Nat.zero_le _) (.ins (Nat.zero_le _) .nil))) (.past (by omega) (by omega) _ _ _ (by omega))) (.lab (by omega) .nil)
theorem LB.mask {t : TestT} : LB N (maskS t) := by
  unfold maskS
  split
  · refine .app ?_ ?_
    · split
      · exact .ins (Nat.zero_le _) .nil
      · exact .nil
    · split
      · exact .nil
      · split
        · exact .ins (Nat.zero_le _) .nil
        · exact .ins (Nat.zero_le _) (.ins (Nat.zero_le _) (.ins (Nat.zero_le _) .nil))
  · exact .nil
theorem LB.bound {t : TestT} {out : Nat} (h : out ≤ N) : LB N (boundS t out) := by
  unfold boundS
  refine .app ?_ ?_
  · split
    · exact .held h
    · exact .nil
  · split
    · exact .held h
    · exact .nil
theorem LB.end {t : TestT} {out good fail : Nat} (h1 : out ≤ N) (h2 : good ≤ N) (h3 : fail ≤ N) : LB N (Cmp.endS t out good fail) := by
  unfold Cmp.endS
  split
  · exact .app .afresh (.ins h3 (.lab h1 (.lab h2 .nil)))
  · exact .app (.app (.ins h2 (.lab h1 .nil)) .afresh) (.ins h3 (.lab h2 .nil))
theorem LB.test {t : TestT} {lf n : Nat} (h1 : lf ≤ N) (h2 : askN t n ≤ N) : LB N (testS t lf n) := by
  have h : n + 2 ≤ askN t n := by unfold askN; (repeat' split) <;> omega
  exact .app (.app (.app (.app .afresh (.ask h2)) .mask) (.bound (by omega))) (.end (by omega) (by omega) h1)
theorem LB.tests {lf : Nat} (h1 : lf ≤ N) : ∀ (ts : List TestT) (n : Nat), testsN ts n ≤ N → LB N (testsS lf ts n)
  | [], n, _ => .nil
  | t :: ts, n, h => by
    have h2 : ∀ (ts : List TestT) (n : Nat), n ≤ testsN ts n := by
      intro ts
      induction ts with
      | nil => intro n; exact Nat.le_refl _
      | cons t ts ih => intro n; have := ih (askN t n); have h : n ≤ askN t n := by (unfold askN; (repeat' split) <;> omega)
                        simp only [testsN]; omega
    exact .app (.test h1 (Nat.le_trans (h2 ts _) h)) (LB.tests h1 ts _ h)
theorem testsN_ge (ts : List TestT) : ∀ n : Nat, n ≤ testsN ts n := by
  induction ts with
  | nil => intro n; exact Nat.le_refl _
  | cons t ts ih => intro n; have := ih (askN t n); have h : n ≤ askN t n := by (unfold askN; (repeat' split) <;> omega)
                    simp only [testsN]; omega
theorem rulesN_ge (rs : List RuleT) : ∀ n : Nat, n ≤ rulesN rs n := by
  induction rs with
  | nil => intro n; exact Nat.le_refl _
  | cons r rs ih => intro n; have := ih (testsN r.tests (n + 1)); have := testsN_ge r.tests (n + 1); simp only [rulesN]; omega
theorem LB.rule {r : RuleT} {n : Nat} (h : testsN r.tests (n + 1) ≤ N) : LB N (ruleS r n) := by
  have := testsN_ge r.tests (n + 1)
  unfold ruleS
  refine .app (.app (.app (.app .afresh ?_) (.tests (by omega) _ _ h)) (.ins (Nat.zero_le _) (.ins (Nat.zero_le _) .nil))) (.lab (by omega) .nil)
  split
  · exact .ins (by omega) .nil
  · exact .nil
theorem LB.rules : ∀ (rs : List RuleT) (n : Nat), rulesN rs n ≤ N → LB N (rulesS rs n)
  | [], n, _ => .nil
  | r :: rs, n, h => .app (.rule (Nat.le_trans (rulesN_ge rs _) h)) (LB.rules rs _ h)
theorem LB.table (rs : List RuleT) : LB (rulesN rs 0) (tableS rs) :=
  .app (.app (.app (.ins (Nat.zero_le _) (.ins (Nat.zero_le _) .nil)) (.rules rs 0 (Nat.le_refl _))) .afresh) (.ins (Nat.zero_le _) (.ins (Nat.zero_le _) .nil))
end
/-! ### the labels' places, as cells -/
def atC (N : Nat) (f : Nat → Nat) : List Value := (List.range (N + 1)).map fun j => .int .i64 ((f j : Nat) : Int)
theorem atC_len (N : Nat) (f : Nat → Nat) : (atC N f).length = N + 1 := by simp [atC]
theorem atC_nth {N : Nat} (f : Nat → Nat) {l : Nat} (h : l ≤ N) : Y.nthL (atC N f) (Nat.add 0 (Nat.mul l 1)) = some (.int .i64 ((f l : Nat) : Int)) := by
  rw [show Nat.add 0 (Nat.mul l 1) = l from by show 0 + l * 1 = l; omega, Y.nthL_eq, atC, List.getElem?_map, List.getElem?_range (by omega)]; rfl
theorem splice_set (c : List Value) (i : Nat) (v : Value) (h : i < c.length) : splice c i [v] = c.set i v := by
  rw [List.set_eq_take_append_cons_drop, if_pos h]
  rfl
theorem atC_set {N : Nat} (f : Nat → Nat) {l : Nat} (h : l ≤ N) (q : Nat) : splice (atC N f) (Nat.add 0 (Nat.mul l 1)) [.int .i64 (q : Int)] = atC N (fun j => if j = l then q else f j) := by
  rw [show Nat.add 0 (Nat.mul l 1) = l from by show 0 + l * 1 = l; omega, splice_set _ _ _ (by rw [atC_len]; omega)]
  refine List.ext_getElem? fun i => ?_
  rw [List.getElem?_set]
  unfold atC
  by_cases hi : i < N + 1
  · rw [List.getElem?_map, List.getElem?_map, List.getElem?_range hi]
    by_cases e : l = i
    · subst e; simp; omega
    · rw [if_neg e]
      simp [Ne.symm e]
  · rw [List.getElem?_eq_none (by simp; omega)]
    by_cases e : l = i
    · omega
    · rw [if_neg e, List.getElem?_eq_none (by simp; omega)]
theorem atC_repl (N : Nat) : repl [Value.int .i64 0] (N + 1) = atC N fun _ => 0 := by
  have h : ∀ n : Nat, repl [Value.int .i64 0] n = List.replicate n (.int .i64 0) := by
    intro n
    induction n with
    | zero => rfl
    | succ n ih => rw [repl, ih, List.replicate_succ]; rfl
  rw [h, atC, List.map_const', List.length_range]
  rfl
theorem atGo_take {rows : List RowS} {i : Nat} {r : RowS} (h : rows[i]? = some r) (f : Nat → Nat) : atGo (rows.take (i + 1)) 0 f = if isLab r = true then (fun j => if j = r.here then cnt (rows.take i) else atGo (rows.take i) 0 f j) else atGo (rows.take i) 0 f := by
  rw [List.take_add_one, h, Option.toList_some, atGo_append, Nat.zero_add]
  by_cases hl : isLab r = true
  · rw [if_pos hl]; simp only [atGo, if_pos hl]
  · rw [if_neg hl]; simp only [atGo, if_neg hl]
theorem cnt_take {rows : List RowS} {i : Nat} {r : RowS} (h : rows[i]? = some r) : cnt (rows.take (i + 1)) = if isLab r = true then cnt (rows.take i) else cnt (rows.take i) + 1 := by
  rw [List.take_add_one, h, Option.toList_some, cnt_append]
  by_cases hl : isLab r = true
  · simp [cnt, hl]
  · simp [cnt, hl]
theorem cnt_take_le (rows : List RowS) (i : Nat) : cnt (rows.take i) ≤ rows.length := by
  have := cnt_le (rows.take i)
  rw [List.length_take] at this
  omega
end Go.Cmp
namespace Go.Proofs.YtadioopbehiakaaDoor
open Go Go.DI Go.DI.Kit Go.Proofs Go.Cmp
noncomputable section
section
variable {α : Type} (x : Nat → Value) (cf : Y.CF α) (L : Y.LK α) (k : Nat) (m : Mem)
theorem t_AtRS (b : Nat) (off : Nat) (w3 w7 w8 w9 u : Value) (q : Tmps → Mem → Option α) : Y.opsF (List.drop 11 r15_25) Tryd.prog kp 1 (Y.cfT Tryd.prog cf) 151 r15_25 (fullN 151 (up x [(3, w3), (7, w7), (8, w8), (9, w9), (107, u), (108, .pointer (some ⟨b, off, none⟩))])) m q =
  Y.storeF Tryd.prog m 3 u (.pointer (some ⟨b, off, none⟩)) fun m' => q (fullN 151 (up (up x [(107, u), (108, .pointer (some ⟨b, off, none⟩))]) [(3, w3), (7, w7), (8, w8), (9, w9)])) m' := by kernel_rfl
theorem t_Out31S (b : Nat) (w3 w7 w10 w11 u : Value) (q : Tmps → Mem → Option α) : Y.opsF (List.drop 8 r15_31) Tryd.prog kp 1 (Y.cfT Tryd.prog cf) 151 r15_31 (fullN 151 (up x [(3, w3), (7, w7), (10, w10), (11, w11), (12, .pointer (some ⟨b, 0, none⟩)), (126, u)])) m q =
  Y.storeF Tryd.prog m 81 u (.pointer (some ⟨b, 0, none⟩)) fun m' => q (fullN 151 (up (up x [(126, u), (12, .pointer (some ⟨b, 0, none⟩))]) [(3, w3), (7, w7), (10, w10), (11, w11), (12, .pointer (some ⟨b, 0, none⟩))])) m' := by kernel_rfl
theorem t_Out34S (b : Nat) (w3 w7 w10 w11 w12 u : Value) (q : Tmps → Mem → Option α) : Y.opsF (List.drop 12 r15_34) Tryd.prog kp 1 (Y.cfT Tryd.prog cf) 151 r15_34 (fullN 151 (up x [(3, w3), (7, w7), (10, w10), (11, w11), (12, w12), (142, u), (144, .pointer (some ⟨b, 3, none⟩))])) m q =
  Y.storeF Tryd.prog m 40 u (.pointer (some ⟨b, 3, none⟩)) fun m' => q (fullN 151 (up (up x [(142, u), (144, .pointer (some ⟨b, 3, none⟩))]) [(3, w3), (7, w7), (10, w10), (11, w11), (12, w12)])) m' := by kernel_rfl
theorem r15_19_eq (t : Tmps) (q : Y.ExK α) : Y.codeF (Y.loopC c15w 2) Tryd.prog kp 1 (Y.cfT Tryd.prog cf) L 151 k t m q = Y.opsF r15_19 Tryd.prog kp 1 (Y.cfT Tryd.prog cf) 151 r15_19 t m fun t m => q .normal t m := by kernel_rfl
theorem r15_25_eq (t : Tmps) (q : Y.ExK α) : Y.codeF (Y.loopC c15l 0) Tryd.prog kp 1 (Y.cfT Tryd.prog cf) L 151 k t m q = Y.opsF r15_25 Tryd.prog kp 1 (Y.cfT Tryd.prog cf) 151 r15_25 t m fun t m => q .normal t m := by kernel_rfl
theorem r15_31_eq (t : Tmps) (q : Y.ExK α) : Y.codeF (Y.loopC c15o 0) Tryd.prog kp 1 (Y.cfT Tryd.prog cf) L 151 k t m q = Y.opsF r15_31 Tryd.prog kp 1 (Y.cfT Tryd.prog cf) 151 r15_31 t m fun t m => q .normal t m := by kernel_rfl
theorem r15_33_eq (t : Tmps) (q : Y.ExK α) : Y.codeF (Y.loopC c15o 1) Tryd.prog kp 1 (Y.cfT Tryd.prog cf) L 151 k t m q = Y.opsF r15_33 Tryd.prog kp 1 (Y.cfT Tryd.prog cf) 151 r15_33 t m fun t m => q .normal t m := by kernel_rfl
theorem r15_34_eq (t : Tmps) (q : Y.ExK α) : Y.codeF (Y.loopC c15o 2) Tryd.prog kp 1 (Y.cfT Tryd.prog cf) L 151 k t m q = Y.opsF r15_34 Tryd.prog kp 1 (Y.cfT Tryd.prog cf) 151 r15_34 t m fun t m => q .normal t m := by kernel_rfl
theorem r15_35_eq (t : Tmps) (q : Y.ExK α) : Y.codeF (Y.loopC c15o 3) Tryd.prog kp 1 (Y.cfT Tryd.prog cf) L 151 k t m q = Y.opsF r15_35 Tryd.prog kp 1 (Y.cfT Tryd.prog cf) 151 r15_35 t m fun t m => q .normal t m := by kernel_rfl
theorem t_Out35c (w3 w7 w11 w12 u v : Value) (q : Tmps → Mem → Option α) : Y.opsF (List.drop 4 r15_35) Tryd.prog kp 1 (Y.cfT Tryd.prog cf) 151 r15_35 (fullN 151 (up x [(3, w3), (7, w7), (11, w11), (12, w12), (145, u), (148, v)])) m q =
  Y.appendF Tryd.prog m 28 28 u v fun a m' => q (fullN 151 (up (up x [(145, u), (148, v), (149, a)]) [(3, w3), (7, w7), (10, a), (11, w11), (12, w12)])) m' := by kernel_rfl
theorem t_Made19b (w3 : Value) (n : Int) (q : Tmps → Mem → Option α) : Y.opsF (List.drop 5 r15_19) Tryd.prog kp 1 (Y.cfT Tryd.prog cf) 151 r15_19 (fullN 151 (up x [(3, w3), (78, .int .i64 n)])) m q =
  onV (opD Tryd.prog kp 1 (fun _ _ _ => none) (fullN 151 (up x [(3, w3), (78, .int .i64 n)])) m (.makeSlice 63 (.tmp 78) (.tmp 78))) fun v m' => q (fullN 151 (up (up x [(78, .int .i64 n), (79, v)]) [(3, w3), (7, v)])) m' := by kernel_rfl
theorem ev78 (x : Nat → Value) (w3 : Value) (n : Int) : ev 1 (fullN 151 (up x [(3, w3), (78, .int .i64 n)])) (.tmp 78) = some (.int .i64 n) := by kernel_rfl
end
theorem zer3 (n : Nat) : zerosD Tryd.prog 3 n = some (repl [.int .i64 0] n) := by kernel_rfl
theorem ms63 {t : Tmps} {n : Nat} (h : ev 1 t (.tmp 78) = some (.int .i64 (n : Int))) (hn : n ≤ 1000000) : allocD Tryd.prog 1 t (.makeSlice 63 (.tmp 78) (.tmp 78)) = some (.cells true (repl [.int .i64 0] n), .slc n n) := by
  simp only [allocD, und63, h, by3, Int.toNat_natCast, zer3]
  rw [if_pos ⟨by omega, by omega, by omega, by omega⟩]
theorem lc15l : Y.loopC c15w 3 = loopN Tryd.f15 2 := by kernel_rfl
theorem lc15o : Y.loopC c15w 4 = loopN Tryd.f15 3 := by kernel_rfl
theorem lc15z : Y.loopC c15w 0 = loopN Tryd.f15 0 := by kernel_rfl
theorem rowC_len (r : RowS) : (rowC r).length = 7 := rfl
structure RF (K : Keep) (mp rb : Nat) (rows : List RowS) (N : Nat) : Prop where
  head : K mp = some (.cells true [.slice (some ⟨rb, 0, some 7⟩) rows.length rows.length, .int .i64 (N : Int)])
  body : K rb = some (.cells true (rows.flatMap rowC))
  lb : LB N rows
  len : rows.length ≤ 100000
section
variable {K : Keep} {mp rb N : Nat} {rows : List RowS} {M : Mem}
variable {o : Orc} {k : Nat}
theorem row_nth {i f : Nat} {r : RowS} (h : rows[i]? = some r) (hf : f < 7) : Y.nthL (rows.flatMap rowC) (Nat.add (Nat.add 0 (Nat.mul i 7)) f) = (rowC r)[f]? := by
  have := chunk_nth rowC_len h hf []
  rwa [List.append_nil] at this
theorem row_sub {i : Nat} {r : RowS} (h : rows[i]? = some r) : Y.subL (rows.flatMap rowC) (Nat.add 0 (Nat.mul i 7)) 7 = rowC r := by
  have := chunk_sub rowC_len h []
  rwa [List.append_nil] at this
theorem row_ble {i : Nat} (h : i < rows.length) : Nat.ble (Nat.add (Nat.add 0 (Nat.mul i 7)) 7) (Y.lenLF (rows.flatMap rowC)) = true := by
  have := chunk_ble rowC_len h []
  rwa [List.append_nil] at this
theorem head_nth {a b : Value} : Y.nthL [a, b] 0 = some a := rfl
theorem At_loop {ab : Nat} (hF : RF K mp rb rows N) (hKa : K ab = none) (hN : N ≤ 100000) :
    ∀ (d i : Nat), rows.length = i + d → ∀ (jj : Nat) (M : Mem), d + 1 ≤ jj → Hp M K [] → ab < M.size → M.get ab = .cells true (atC N (atGo (rows.take i) 0 fun _ => 0)) →
    ∃ M', (∀ x, Lands 151 [(3, .pointer (some ⟨mp, 0, none⟩)), (7, .slice (some ⟨ab, 0, none⟩) (N + 1) (N + 1)), (8, .int .i64 (cnt rows : Int)), (9, .int .i64 (rows.length : Int))] (.exit 4) M' (loopD (codeD Tryd.prog kp 1 (callN Tryd.prog kp 1 o k) (drawD Tryd.prog kp 1 (callN Tryd.prog kp 1 o k) 151) 151 k (loopN Tryd.f15 2)) jj (fullN 151 (up x [(3, .pointer (some ⟨mp, 0, none⟩)), (7, .slice (some ⟨ab, 0, none⟩) (N + 1) (N + 1)), (8, .int .i64 (cnt (rows.take i) : Int)), (9, .int .i64 (i : Int))])) M)) ∧ Hp M' K [] ∧ M.size ≤ M'.size ∧ M'.get ab = .cells true (atC N (atS rows))
  | 0, i, hi, jj, M, hjj, h, ha, hg => by
    obtain ⟨jj, rfl⟩ : ∃ j', jj = j' + 1 := ⟨jj - 1, by omega⟩
    obtain rfl : i = rows.length := by omega
    have gm := h.get hF.head
    refine ⟨M, fun x => Lands.stop (Lands.turn ?_) (by simp), h, Nat.le_refl _, by rw [List.take_length] at hg; exact hg⟩
    refine Lands.via (markS_eq [25] Tryd.prog kp 1 _ (Y.lpOf Tryd.prog kp 1 (callN Tryd.prog kp 1 o k) 151) (fun _ _ _ _ _ _ _ => rfl) 151 k (loopN Tryd.f15 2) (by kernel_rfl) _ M _) ?_
    refine Lands.via (t_AtA ..) ?_
    rw [gm, nCells, head_nth, nElim, nAsSl, ge_len (by omega), nCondF]
    rw [List.take_length]
    exact Lands.here _
  | d + 1, i, hi, jj, M, hjj, h, ha, hg => by
    obtain ⟨jj, rfl⟩ : ∃ j', jj = j' + 1 := ⟨jj - 1, by omega⟩
    have hlt : i < rows.length := by omega
    have hlen := hF.len
    have gm := h.get hF.head
    have gr := h.get hF.body
    obtain ⟨r, hr⟩ : ∃ r, rows[i]? = some r := ⟨_, List.getElem?_eq_getElem hlt⟩
    have hrm : r ∈ rows := List.mem_of_getElem? hr
    have hlb := hF.lb r hrm
    have hct := cnt_take_le rows i
    by_cases hl : isLab r = true
    · have hpos : 0 < r.here := by simpa [isLab] using hl
      obtain ⟨M1, hM1⟩ : ∃ M1, M.set ab (.cells true (atC N (atGo (rows.take (i + 1)) 0 fun _ => 0))) = M1 := ⟨_, rfl⟩
      have hs : storeD Tryd.prog M 3 (.int .i64 (cnt (rows.take i) : Int)) (.pointer (some ⟨ab, Nat.add 0 (Nat.mul r.here 1), none⟩)) = some M1 := by
        rw [storeD_at (n := 1) sz3 rfl hg (by rw [atC_len]; show 0 + r.here * 1 + 1 ≤ _; omega) rfl, ← hM1]
        congr 3
        rw [atGo_take hr, if_pos hl]
        exact atC_set _ hlb.2 _
      have h1 : Hp M1 K [] := hM1 ▸ h.free_set ha hKa
      have s1 : M1.size = M.size := by rw [← hM1]; rfl
      obtain ⟨M2, h2, h3, h4, h5⟩ := At_loop hF hKa hN d (i + 1) (by omega) jj M1 (by omega) h1 (by omega) (by rw [← hM1]; exact Mem.get_set_same _ _ _)
      refine ⟨M2, fun x => Lands.next (Lands.turn ?_) h2, h3, by omega, h5⟩
      rw [cnt_take hr, if_pos hl]
      refine Lands.via (markS_eq [25] Tryd.prog kp 1 _ (Y.lpOf Tryd.prog kp 1 (callN Tryd.prog kp 1 o k) 151) (fun _ _ _ _ _ _ _ => rfl) 151 k (loopN Tryd.f15 2) (by kernel_rfl) _ M _) ?_
      refine Lands.via (t_AtA ..) ?_
      rw [gm, nCells, head_nth, nElim, nAsSl, lt_len hlt, nCondT, nCells, head_nth, nElim, nAsSl, nElim, nOnNat, blt_t hlt, nCondT]
      dsimp only
      rw [gr, nCells, row_nth hr (by omega), show (rowC r)[6]? = some (.int .i64 (r.here : Int)) from rfl, nElim, nAsInt, nKEq, nCondT, ltF_t (by omega), nCondT]
      refine Lands.via (loop_reg _ _ _ (by kernel_rfl) _ _ _ _) ?_
      refine Lands.via (r15_25_eq ..) ?_
      refine Lands.via (opsF_cut 11 ..) ?_
      refine Lands.via (t_AtR ..) ?_
      rw [gm, nCells, head_nth, nElim, nAsSl, nElim, nOnNat, blt_t hlt, nCondT]
      dsimp only
      rw [gr, nCells, row_nth hr (by omega), show (rowC r)[6]? = some (.int .i64 (r.here : Int)) from rfl, nElim, nAsInt, nKEq, nCondT, nOnNat, blt_t (show r.here < N + 1 by omega), nCondT]
      refine Lands.via (t_AtRS ..) ?_
      rw [Y.storeF_eq, hs, Y.ob_some]
      refine Lands.via (t_AtK ..) ?_
      rw [wrap_succ (by omega)]
      exact Lands.here _
    · have h0 : r.here = 0 := by
        have : ¬ 0 < r.here := by simpa [isLab] using hl
        omega
      obtain ⟨M2, h2, h3, h4, h5⟩ := At_loop hF hKa hN d (i + 1) (by omega) jj M (by omega) h ha (by rw [atGo_take hr, if_neg hl]; exact hg)
      refine ⟨M2, fun x => Lands.next (Lands.turn ?_) h2, h3, h4, h5⟩
      rw [cnt_take hr, if_neg hl]
      refine Lands.via (markS_eq [25] Tryd.prog kp 1 _ (Y.lpOf Tryd.prog kp 1 (callN Tryd.prog kp 1 o k) 151) (fun _ _ _ _ _ _ _ => rfl) 151 k (loopN Tryd.f15 2) (by kernel_rfl) _ M _) ?_
      refine Lands.via (t_AtA ..) ?_
      rw [gm, nCells, head_nth, nElim, nAsSl, lt_len hlt, nCondT, nCells, head_nth, nElim, nAsSl, nElim, nOnNat, blt_t hlt, nCondT]
      dsimp only
      rw [gr, nCells, row_nth hr (by omega), show (rowC r)[6]? = some (.int .i64 (r.here : Int)) from rfl, nElim, nAsInt, nKEq, nCondT, ltF_f (by omega), nCondF, wrap_succ (by omega), wrap_succ (by omega)]
      exact Lands.here _
end
end
end Go.Proofs.YtadioopbehiakaaDoor
