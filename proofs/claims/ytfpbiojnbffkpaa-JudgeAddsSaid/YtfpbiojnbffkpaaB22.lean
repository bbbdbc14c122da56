/-
  JLoop10: the law of JudgeAdds: its two loops, one turn each, ways out (printed by gt.py).
-/
import Derived.Test.YtfpbiojnbffkpaaB21
set_option linter.all false
set_option linter.unusedVariables false
set_option linter.unusedSimpArgs false
namespace Go.Proofs.Ytfpbiojnbffkpaa
open Go Go.DI Go.Proofs Go.Jud
noncomputable section
variable {α : Type}
noncomputable def jaX : Code := markC 14 (loopN Try.f5 0)
noncomputable def r14 : List Oper := opsC (Y.loopC jaX 0)
set_option maxHeartbeats 4000000 in
theorem t_jaA_k0 (x : Nat → Value) (cf : Y.CF α) (L : Y.LK α) (k : Nat) (b : Nat) (sp : Option Nat) (len cap : Nat) (i : Int) (jb : Nat) (m : Mem) (nodes : Int) (v8 v9 v10 v11 : Value) (q : Y.ExK α) : Y.codeF jaX Try.prog kp 0 (Y.cfT Try.prog cf) L 103 k (fullN 103 (up x [(0, .int .i64 nodes), (1, .slice (some ⟨b, 0, sp⟩) len cap), (4, .bool false), (5, .pointer (some ⟨jb, 0, none⟩)), (7, .slice none 0 0), (8, .int .i64 i), (9, v9), (10, v10), (11, v11)])) m q =
  (cond (Y.ltF i (Int.ofNat len)) (Y.onNat i (fun i_18 => (cond (Nat.blt i_18 len) (Y.cellsOf (Mem.get m b) (fun x_19 c_20 => (cond (Nat.ble (Nat.add (Nat.add 0 (Nat.mul i_18 43)) 43) (Y.lenLF c_20)) (cf 11 [(.agg ⟨(Y.subL c_20 (Nat.add 0 (Nat.mul i_18 43)) 43)⟩)] m (fun v_21 m'_22 => (Y.asAgg v_21 (fun cs_23 => (cf 13 [(.pointer (some (Addr.mk jb 0 none))), (.agg cs_23)] m'_22 (fun v_24 m'_25 => (Y.asInt v_24 (fun k'_26 n_27 => (cond (Y.kEq .i64 k'_26) (Y.onNat i (fun i_28 => (cond (Nat.blt i_28 len) (Y.cellsOf (Mem.get m'_25 b) (fun x_29 c_30 => (cond (Nat.ble (Nat.add (Nat.add 0 (Nat.mul i_28 43)) 43) (Y.lenLF c_30)) (cf 14 [(.int .i64 nodes), (.slice none 0 0), (.agg ⟨(Y.subL c_30 (Nat.add 0 (Nat.mul i_28 43)) 43)⟩)] m'_25 (fun v_31 m'_32 => (Y.asInt v_31 (fun k'_33 n_34 => (cond (Y.kEq .i64 k'_33) (cond (cond (Y.eqF n_27 n_34) false true) (q .ret (fullN 103 (up (up x [(64, (.int .i64 n_27)), (72, (.int .i64 n_34)), (68, (.slice (some (Addr.mk b 0 sp)) len cap)), (52, (.int .i64 i)), (60, (.int .i64 i)), (66, (.int .i64 nodes)), (58, (.pointer (some (Addr.mk jb 0 none)))), (70, (.pointer (some (Addr.mk b (Nat.add 0 (Nat.mul i_28 43)) none)))), (54, (.int .i64 (Int.ofNat len))), (62, (.agg ⟨(Y.subL c_20 (Nat.add 0 (Nat.mul i_18 43)) 43)⟩)), (65, (.int .i64 n_27)), (73, (.bool true)), (69, (.int .i64 i)), (53, (.slice (some (Addr.mk b 0 sp)) len cap)), (61, (.pointer (some (Addr.mk b (Nat.add 0 (Nat.mul i_18 43)) none)))), (67, (.slice none 0 0)), (59, (.slice (some (Addr.mk b 0 sp)) len cap)), (71, (.agg ⟨(Y.subL c_30 (Nat.add 0 (Nat.mul i_28 43)) 43)⟩)), (55, (.bool true)), (63, (.agg cs_23))]) [(0, (.int .i64 nodes)), (1, (.slice (some (Addr.mk b 0 sp)) len cap)), (4, (.bool false)), (5, (.pointer (some (Addr.mk jb 0 none)))), (7, (.slice none 0 0)), (8, (.int .i64 i)), (9, (.int .i64 n_27)), (10, v10), (11, v11)])) m'_32) (cond (Y.eqF n_27 (0 : Int)) (L (fun t m q => Y.codeF (Y.loopC jaX 0) Try.prog kp 0 (Y.cfT Try.prog cf) L 103 k t m q) (Y.loopC jaX 0) k (fullN 103 (up (up x [(64, (.int .i64 n_27)), (72, (.int .i64 n_34)), (68, (.slice (some (Addr.mk b 0 sp)) len cap)), (52, (.int .i64 i)), (60, (.int .i64 i)), (66, (.int .i64 nodes)), (74, (.int .i64 n_27)), (58, (.pointer (some (Addr.mk jb 0 none)))), (70, (.pointer (some (Addr.mk b (Nat.add 0 (Nat.mul i_28 43)) none)))), (54, (.int .i64 (Int.ofNat len))), (62, (.agg ⟨(Y.subL c_20 (Nat.add 0 (Nat.mul i_18 43)) 43)⟩)), (65, (.int .i64 n_27)), (73, (.bool false)), (69, (.int .i64 i)), (53, (.slice (some (Addr.mk b 0 sp)) len cap)), (61, (.pointer (some (Addr.mk b (Nat.add 0 (Nat.mul i_18 43)) none)))), (67, (.slice none 0 0)), (75, (.bool true)), (59, (.slice (some (Addr.mk b 0 sp)) len cap)), (71, (.agg ⟨(Y.subL c_30 (Nat.add 0 (Nat.mul i_28 43)) 43)⟩)), (55, (.bool true)), (63, (.agg cs_23))]) [(0, (.int .i64 nodes)), (1, (.slice (some (Addr.mk b 0 sp)) len cap)), (4, (.bool false)), (5, (.pointer (some (Addr.mk jb 0 none)))), (7, (.slice none 0 0)), (8, (.int .i64 i)), (9, (.int .i64 n_27)), (10, v10), (11, v11)])) m'_32 (Y.kont Try.prog kp 0 (Y.cfT Try.prog cf) L 103 k jaX 0 q)) (q .normal (fullN 103 (up (up x [(64, (.int .i64 n_27)), (72, (.int .i64 n_34)), (56, (.int .i64 i)), (68, (.slice (some (Addr.mk b 0 sp)) len cap)), (52, (.int .i64 i)), (60, (.int .i64 i)), (66, (.int .i64 nodes)), (74, (.int .i64 n_27)), (58, (.pointer (some (Addr.mk jb 0 none)))), (70, (.pointer (some (Addr.mk b (Nat.add 0 (Nat.mul i_28 43)) none)))), (54, (.int .i64 (Int.ofNat len))), (62, (.agg ⟨(Y.subL c_20 (Nat.add 0 (Nat.mul i_18 43)) 43)⟩)), (65, (.int .i64 n_27)), (73, (.bool false)), (57, (.int .i64 (IntKind.wrap .i64 (Int.add i (1 : Int))))), (69, (.int .i64 i)), (53, (.slice (some (Addr.mk b 0 sp)) len cap)), (61, (.pointer (some (Addr.mk b (Nat.add 0 (Nat.mul i_18 43)) none)))), (67, (.slice none 0 0)), (75, (.bool false)), (59, (.slice (some (Addr.mk b 0 sp)) len cap)), (71, (.agg ⟨(Y.subL c_30 (Nat.add 0 (Nat.mul i_28 43)) 43)⟩)), (55, (.bool true)), (63, (.agg cs_23))]) [(0, (.int .i64 nodes)), (1, (.slice (some (Addr.mk b 0 sp)) len cap)), (4, (.bool false)), (5, (.pointer (some (Addr.mk jb 0 none)))), (7, (.slice none 0 0)), (8, (.int .i64 (IntKind.wrap .i64 (Int.add i (1 : Int))))), (9, (.int .i64 n_27)), (10, v10), (11, v11)])) m'_32))) none)) none))) none))) none))) none)) none)))) none))) none))) none))) (q (Ex.exit 0) (fullN 103 (up (up x [(52, (.int .i64 i)), (54, (.int .i64 (Int.ofNat len))), (53, (.slice (some (Addr.mk b 0 sp)) len cap)), (55, (.bool false))]) [(0, (.int .i64 nodes)), (1, (.slice (some (Addr.mk b 0 sp)) len cap)), (4, (.bool false)), (5, (.pointer (some (Addr.mk jb 0 none)))), (7, (.slice none 0 0)), (8, (.int .i64 i)), (9, v9), (10, v10), (11, v11)])) m)) := by kernel_rfl
set_option maxHeartbeats 4000000 in
theorem t_jaP_k0 (x : Nat → Value) (cf : Y.CF α) (b : Nat) (sp : Option Nat) (len cap : Nat) (i : Int) (jb : Nat) (m : Mem) (nodes : Int) (v8 v9 v10 v11 : Value) (q : Tmps → Mem → Option α) : Y.opsF (List.take 5 r14) Try.prog kp 0 (Y.cfT Try.prog cf) 103 r14 (fullN 103 (up x [(0, .int .i64 nodes), (1, .slice (some ⟨b, 0, sp⟩) len cap), (4, .bool false), (5, .pointer (some ⟨jb, 0, none⟩)), (7, .slice none 0 0), (8, .int .i64 i), (9, v9), (10, v10), (11, v11)])) m q =
  (Y.onNat i (fun i_16 => (cond (Nat.blt i_16 len) (Y.cellsOf (Mem.get m b) (fun x_17 c_18 => (cond (Nat.ble (Nat.add (Nat.add 0 (Nat.mul i_16 43)) 43) (Y.lenLF c_18)) (q (fullN 103 (up (up x [(78, (.int .i64 i)), (77, (.slice (some (Addr.mk b 0 sp)) len cap)), (79, (.pointer (some (Addr.mk b (Nat.add 0 (Nat.mul i_16 43)) none))))]) [(0, (.int .i64 nodes)), (1, (.slice (some (Addr.mk b 0 sp)) len cap)), (4, (.bool false)), (5, (.pointer (some (Addr.mk jb 0 none)))), (7, (.slice none 0 0)), (8, (.int .i64 i)), (9, v9), (10, v10), (11, v11), (76, (.slice none 0 0)), (80, (.agg ⟨(Y.subL c_18 (Nat.add 0 (Nat.mul i_16 43)) 43)⟩))])) m) none))) none))) := by kernel_rfl
set_option maxHeartbeats 4000000 in
theorem t_jaA_k1 (x : Nat → Value) (cf : Y.CF α) (L : Y.LK α) (k : Nat) (b : Nat) (sp : Option Nat) (len cap : Nat) (bk kl : Nat) (i : Int) (jb : Nat) (m : Mem) (nodes : Int) (v8 v9 v10 v11 : Value) (q : Y.ExK α) : Y.codeF jaX Try.prog kp 0 (Y.cfT Try.prog cf) L 103 k (fullN 103 (up x [(0, .int .i64 nodes), (1, .slice (some ⟨b, 0, sp⟩) len cap), (4, .bool false), (5, .pointer (some ⟨jb, 0, none⟩)), (7, .slice (some ⟨bk, 0, some 43⟩) kl kl), (8, .int .i64 i), (9, v9), (10, v10), (11, v11)])) m q =
  (cond (Y.ltF i (Int.ofNat len)) (Y.onNat i (fun i_20 => (cond (Nat.blt i_20 len) (Y.cellsOf (Mem.get m b) (fun x_21 c_22 => (cond (Nat.ble (Nat.add (Nat.add 0 (Nat.mul i_20 43)) 43) (Y.lenLF c_22)) (cf 11 [(.agg ⟨(Y.subL c_22 (Nat.add 0 (Nat.mul i_20 43)) 43)⟩)] m (fun v_23 m'_24 => (Y.asAgg v_23 (fun cs_25 => (cf 13 [(.pointer (some (Addr.mk jb 0 none))), (.agg cs_25)] m'_24 (fun v_26 m'_27 => (Y.asInt v_26 (fun k'_28 n_29 => (cond (Y.kEq .i64 k'_28) (Y.onNat i (fun i_30 => (cond (Nat.blt i_30 len) (Y.cellsOf (Mem.get m'_27 b) (fun x_31 c_32 => (cond (Nat.ble (Nat.add (Nat.add 0 (Nat.mul i_30 43)) 43) (Y.lenLF c_32)) (cf 14 [(.int .i64 nodes), (.slice (some (Addr.mk bk 0 (some 43))) kl kl), (.agg ⟨(Y.subL c_32 (Nat.add 0 (Nat.mul i_30 43)) 43)⟩)] m'_27 (fun v_33 m'_34 => (Y.asInt v_33 (fun k'_35 n_36 => (cond (Y.kEq .i64 k'_35) (cond (cond (Y.eqF n_29 n_36) false true) (q .ret (fullN 103 (up (up x [(64, (.int .i64 n_29)), (72, (.int .i64 n_36)), (68, (.slice (some (Addr.mk b 0 sp)) len cap)), (52, (.int .i64 i)), (60, (.int .i64 i)), (66, (.int .i64 nodes)), (58, (.pointer (some (Addr.mk jb 0 none)))), (70, (.pointer (some (Addr.mk b (Nat.add 0 (Nat.mul i_30 43)) none)))), (54, (.int .i64 (Int.ofNat len))), (62, (.agg ⟨(Y.subL c_22 (Nat.add 0 (Nat.mul i_20 43)) 43)⟩)), (65, (.int .i64 n_29)), (73, (.bool true)), (69, (.int .i64 i)), (53, (.slice (some (Addr.mk b 0 sp)) len cap)), (61, (.pointer (some (Addr.mk b (Nat.add 0 (Nat.mul i_20 43)) none)))), (67, (.slice (some (Addr.mk bk 0 (some 43))) kl kl)), (59, (.slice (some (Addr.mk b 0 sp)) len cap)), (71, (.agg ⟨(Y.subL c_32 (Nat.add 0 (Nat.mul i_30 43)) 43)⟩)), (55, (.bool true)), (63, (.agg cs_25))]) [(0, (.int .i64 nodes)), (1, (.slice (some (Addr.mk b 0 sp)) len cap)), (4, (.bool false)), (5, (.pointer (some (Addr.mk jb 0 none)))), (7, (.slice (some (Addr.mk bk 0 (some 43))) kl kl)), (8, (.int .i64 i)), (9, (.int .i64 n_29)), (10, v10), (11, v11)])) m'_34) (cond (Y.eqF n_29 (0 : Int)) (L (fun t m q => Y.codeF (Y.loopC jaX 0) Try.prog kp 0 (Y.cfT Try.prog cf) L 103 k t m q) (Y.loopC jaX 0) k (fullN 103 (up (up x [(64, (.int .i64 n_29)), (72, (.int .i64 n_36)), (68, (.slice (some (Addr.mk b 0 sp)) len cap)), (52, (.int .i64 i)), (60, (.int .i64 i)), (66, (.int .i64 nodes)), (74, (.int .i64 n_29)), (58, (.pointer (some (Addr.mk jb 0 none)))), (70, (.pointer (some (Addr.mk b (Nat.add 0 (Nat.mul i_30 43)) none)))), (54, (.int .i64 (Int.ofNat len))), (62, (.agg ⟨(Y.subL c_22 (Nat.add 0 (Nat.mul i_20 43)) 43)⟩)), (65, (.int .i64 n_29)), (73, (.bool false)), (69, (.int .i64 i)), (53, (.slice (some (Addr.mk b 0 sp)) len cap)), (61, (.pointer (some (Addr.mk b (Nat.add 0 (Nat.mul i_20 43)) none)))), (67, (.slice (some (Addr.mk bk 0 (some 43))) kl kl)), (75, (.bool true)), (59, (.slice (some (Addr.mk b 0 sp)) len cap)), (71, (.agg ⟨(Y.subL c_32 (Nat.add 0 (Nat.mul i_30 43)) 43)⟩)), (55, (.bool true)), (63, (.agg cs_25))]) [(0, (.int .i64 nodes)), (1, (.slice (some (Addr.mk b 0 sp)) len cap)), (4, (.bool false)), (5, (.pointer (some (Addr.mk jb 0 none)))), (7, (.slice (some (Addr.mk bk 0 (some 43))) kl kl)), (8, (.int .i64 i)), (9, (.int .i64 n_29)), (10, v10), (11, v11)])) m'_34 (Y.kont Try.prog kp 0 (Y.cfT Try.prog cf) L 103 k jaX 0 q)) (q .normal (fullN 103 (up (up x [(64, (.int .i64 n_29)), (72, (.int .i64 n_36)), (56, (.int .i64 i)), (68, (.slice (some (Addr.mk b 0 sp)) len cap)), (52, (.int .i64 i)), (60, (.int .i64 i)), (66, (.int .i64 nodes)), (74, (.int .i64 n_29)), (58, (.pointer (some (Addr.mk jb 0 none)))), (70, (.pointer (some (Addr.mk b (Nat.add 0 (Nat.mul i_30 43)) none)))), (54, (.int .i64 (Int.ofNat len))), (62, (.agg ⟨(Y.subL c_22 (Nat.add 0 (Nat.mul i_20 43)) 43)⟩)), (65, (.int .i64 n_29)), (73, (.bool false)), (57, (.int .i64 (IntKind.wrap .i64 (Int.add i (1 : Int))))), (69, (.int .i64 i)), (53, (.slice (some (Addr.mk b 0 sp)) len cap)), (61, (.pointer (some (Addr.mk b (Nat.add 0 (Nat.mul i_20 43)) none)))), (67, (.slice (some (Addr.mk bk 0 (some 43))) kl kl)), (75, (.bool false)), (59, (.slice (some (Addr.mk b 0 sp)) len cap)), (71, (.agg ⟨(Y.subL c_32 (Nat.add 0 (Nat.mul i_30 43)) 43)⟩)), (55, (.bool true)), (63, (.agg cs_25))]) [(0, (.int .i64 nodes)), (1, (.slice (some (Addr.mk b 0 sp)) len cap)), (4, (.bool false)), (5, (.pointer (some (Addr.mk jb 0 none)))), (7, (.slice (some (Addr.mk bk 0 (some 43))) kl kl)), (8, (.int .i64 (IntKind.wrap .i64 (Int.add i (1 : Int))))), (9, (.int .i64 n_29)), (10, v10), (11, v11)])) m'_34))) none)) none))) none))) none))) none)) none)))) none))) none))) none))) (q (Ex.exit 0) (fullN 103 (up (up x [(52, (.int .i64 i)), (54, (.int .i64 (Int.ofNat len))), (53, (.slice (some (Addr.mk b 0 sp)) len cap)), (55, (.bool false))]) [(0, (.int .i64 nodes)), (1, (.slice (some (Addr.mk b 0 sp)) len cap)), (4, (.bool false)), (5, (.pointer (some (Addr.mk jb 0 none)))), (7, (.slice (some (Addr.mk bk 0 (some 43))) kl kl)), (8, (.int .i64 i)), (9, v9), (10, v10), (11, v11)])) m)) := by kernel_rfl
set_option maxHeartbeats 4000000 in
theorem t_jaP_k1 (x : Nat → Value) (cf : Y.CF α) (b : Nat) (sp : Option Nat) (len cap : Nat) (bk kl : Nat) (i : Int) (jb : Nat) (m : Mem) (nodes : Int) (v8 v9 v10 v11 : Value) (q : Tmps → Mem → Option α) : Y.opsF (List.take 5 r14) Try.prog kp 0 (Y.cfT Try.prog cf) 103 r14 (fullN 103 (up x [(0, .int .i64 nodes), (1, .slice (some ⟨b, 0, sp⟩) len cap), (4, .bool false), (5, .pointer (some ⟨jb, 0, none⟩)), (7, .slice (some ⟨bk, 0, some 43⟩) kl kl), (8, .int .i64 i), (9, v9), (10, v10), (11, v11)])) m q =
  (Y.onNat i (fun i_18 => (cond (Nat.blt i_18 len) (Y.cellsOf (Mem.get m b) (fun x_19 c_20 => (cond (Nat.ble (Nat.add (Nat.add 0 (Nat.mul i_18 43)) 43) (Y.lenLF c_20)) (q (fullN 103 (up (up x [(78, (.int .i64 i)), (77, (.slice (some (Addr.mk b 0 sp)) len cap)), (79, (.pointer (some (Addr.mk b (Nat.add 0 (Nat.mul i_18 43)) none))))]) [(0, (.int .i64 nodes)), (1, (.slice (some (Addr.mk b 0 sp)) len cap)), (4, (.bool false)), (5, (.pointer (some (Addr.mk jb 0 none)))), (7, (.slice (some (Addr.mk bk 0 (some 43))) kl kl)), (8, (.int .i64 i)), (9, v9), (10, v10), (11, v11), (76, (.slice (some (Addr.mk bk 0 (some 43))) kl kl)), (80, (.agg ⟨(Y.subL c_20 (Nat.add 0 (Nat.mul i_18 43)) 43)⟩))])) m) none))) none))) := by kernel_rfl
set_option maxHeartbeats 4000000 in
theorem t_jaK (x : Nat → Value) (cf : Y.CF α) (L : Y.LK α) (k : Nat) (v1 v7 : Value) (i : Int) (jb : Nat) (m : Mem) (nodes : Int) (v8 v9 v10 v11 : Value) (q : Y.ExK α) : Y.kont Try.prog kp 0 (Y.cfT Try.prog cf) L 103 k jaX 0 q .normal (fullN 103 (up x [(0, .int .i64 nodes), (1, v1), (4, .bool false), (5, .pointer (some ⟨jb, 0, none⟩)), (7, v7), (8, .int .i64 i), (9, v9), (10, v10), (11, v11)])) m =
  (q .normal (fullN 103 (up (up x [(56, (.int .i64 i)), (57, (.int .i64 (IntKind.wrap .i64 (Int.add i (1 : Int)))))]) [(0, (.int .i64 nodes)), (1, v1), (4, (.bool false)), (5, (.pointer (some (Addr.mk jb 0 none)))), (7, v7), (8, (.int .i64 (IntKind.wrap .i64 (Int.add i (1 : Int))))), (9, v9), (10, v10), (11, v11)])) m) := by kernel_rfl
set_option maxHeartbeats 4000000 in
theorem t_jaA_nil (x : Nat → Value) (cf : Y.CF α) (L : Y.LK α) (k : Nat) (i : Int) (jb : Nat) (m : Mem) (nodes : Int) (v8 v9 v10 v11 : Value) (q : Y.ExK α) : Y.codeF (loopN Try.f5 0) Try.prog kp 0 (Y.cfT Try.prog cf) L 103 k (fullN 103 (up x [(0, .int .i64 nodes), (1, .slice none 0 0), (4, .bool false), (5, .pointer (some ⟨jb, 0, none⟩)), (7, .slice none 0 0), (8, .int .i64 i), (9, v9), (10, v10), (11, v11)])) m q =
  (cond (Y.ltF i (0 : Int)) none (q (Ex.exit 0) (fullN 103 (up (up x [(52, (.int .i64 i)), (54, (.int .i64 (0 : Int))), (53, (.slice none 0 0)), (55, (.bool false))]) [(0, (.int .i64 nodes)), (1, (.slice none 0 0)), (4, (.bool false)), (5, (.pointer (some (Addr.mk jb 0 none)))), (7, (.slice none 0 0)), (8, (.int .i64 i)), (9, v9), (10, v10), (11, v11)])) m)) := by kernel_rfl
set_option maxHeartbeats 4000000 in
theorem t_jaB_k0 (x : Nat → Value) (cf : Y.CF α) (L : Y.LK α) (k : Nat) (v1 : Value) (n : Int) (jb : Nat) (m : Mem) (nodes : Int) (v8 v9 v10 v11 : Value) (q : Y.ExK α) : Y.codeF (loopN Try.f5 1) Try.prog kp 0 (Y.cfT Try.prog cf) L 103 k (fullN 103 (up x [(0, .int .i64 nodes), (1, v1), (4, .bool false), (5, .pointer (some ⟨jb, 0, none⟩)), (7, .slice none 0 0), (8, v8), (9, v9), (10, .int .i64 n), (11, v11)])) m q =
  (cond (cond (Y.ltF (6 : Int) n) false true) (cond (cond (Y.ltF n (1 : Int)) false true) (cond (cond (Y.ltF nodes n) false true) (cf 15 [(.slice none 0 0), (.int .i64 n)] m (fun v_15 m'_16 => (Y.asInt v_15 (fun k'_17 n_18 => (cond (Y.kEq .i64 k'_17) (cf 16 [(.pointer (some (Addr.mk jb 0 none))), (.int .i64 n)] m'_16 (fun v_19 m'_20 => (Y.asInt v_19 (fun k'_21 n_22 => (cond (Y.kEq .i64 k'_21) (cond (cond (Y.eqF n_22 n_18) false true) (q .ret (fullN 103 (up (up x [(96, (.int .i64 n_18)), (88, (.bool true)), (100, (.int .i64 n_18)), (84, (.bool true)), (92, (.bool true)), (98, (.int .i64 n)), (90, (.int .i64 n)), (94, (.slice none 0 0)), (97, (.pointer (some (Addr.mk jb 0 none)))), (89, (.bool true)), (101, (.bool true)), (93, (.bool true)), (99, (.int .i64 n_22)), (83, (.int .i64 n)), (91, (.int .i64 nodes)), (87, (.int .i64 n)), (95, (.int .i64 n))]) [(0, (.int .i64 nodes)), (1, v1), (4, (.bool false)), (5, (.pointer (some (Addr.mk jb 0 none)))), (7, (.slice none 0 0)), (8, v8), (9, v9), (10, (.int .i64 n)), (11, (.int .i64 n_18))])) m'_20) (q .normal (fullN 103 (up (up x [(96, (.int .i64 n_18)), (88, (.bool true)), (100, (.int .i64 n_18)), (84, (.bool true)), (92, (.bool true)), (98, (.int .i64 n)), (90, (.int .i64 n)), (86, (.int .i64 (IntKind.wrap .i64 (Int.add n (1 : Int))))), (94, (.slice none 0 0)), (97, (.pointer (some (Addr.mk jb 0 none)))), (89, (.bool true)), (101, (.bool false)), (85, (.int .i64 n)), (93, (.bool true)), (99, (.int .i64 n_22)), (83, (.int .i64 n)), (91, (.int .i64 nodes)), (87, (.int .i64 n)), (95, (.int .i64 n))]) [(0, (.int .i64 nodes)), (1, v1), (4, (.bool false)), (5, (.pointer (some (Addr.mk jb 0 none)))), (7, (.slice none 0 0)), (8, v8), (9, v9), (10, (.int .i64 (IntKind.wrap .i64 (Int.add n (1 : Int))))), (11, (.int .i64 n_18))])) m'_20)) none)) none))) none)) none))) (cf 16 [(.pointer (some (Addr.mk jb 0 none))), (.int .i64 n)] m (fun v_15 m'_16 => (Y.asInt v_15 (fun k'_17 n_18 => (cond (Y.kEq .i64 k'_17) (cond (cond (Y.eqF n_18 (0 : Int)) false true) (q .ret (fullN 103 (up (up x [(88, (.bool true)), (100, (.int .i64 (0 : Int))), (84, (.bool true)), (92, (.bool false)), (98, (.int .i64 n)), (90, (.int .i64 n)), (97, (.pointer (some (Addr.mk jb 0 none)))), (89, (.bool true)), (101, (.bool true)), (93, (.bool false)), (99, (.int .i64 n_18)), (83, (.int .i64 n)), (91, (.int .i64 nodes)), (87, (.int .i64 n))]) [(0, (.int .i64 nodes)), (1, v1), (4, (.bool false)), (5, (.pointer (some (Addr.mk jb 0 none)))), (7, (.slice none 0 0)), (8, v8), (9, v9), (10, (.int .i64 n)), (11, (.int .i64 (0 : Int)))])) m'_16) (q .normal (fullN 103 (up (up x [(88, (.bool true)), (100, (.int .i64 (0 : Int))), (84, (.bool true)), (92, (.bool false)), (98, (.int .i64 n)), (90, (.int .i64 n)), (86, (.int .i64 (IntKind.wrap .i64 (Int.add n (1 : Int))))), (97, (.pointer (some (Addr.mk jb 0 none)))), (89, (.bool true)), (101, (.bool false)), (85, (.int .i64 n)), (93, (.bool false)), (99, (.int .i64 n_18)), (83, (.int .i64 n)), (91, (.int .i64 nodes)), (87, (.int .i64 n))]) [(0, (.int .i64 nodes)), (1, v1), (4, (.bool false)), (5, (.pointer (some (Addr.mk jb 0 none)))), (7, (.slice none 0 0)), (8, v8), (9, v9), (10, (.int .i64 (IntKind.wrap .i64 (Int.add n (1 : Int))))), (11, (.int .i64 (0 : Int)))])) m'_16)) none)) none)))) (cf 16 [(.pointer (some (Addr.mk jb 0 none))), (.int .i64 n)] m (fun v_15 m'_16 => (Y.asInt v_15 (fun k'_17 n_18 => (cond (Y.kEq .i64 k'_17) (cond (cond (Y.eqF n_18 (0 : Int)) false true) (q .ret (fullN 103 (up (up x [(88, (.bool false)), (100, (.int .i64 (0 : Int))), (84, (.bool true)), (92, (.tuple ⟨[]⟩)), (98, (.int .i64 n)), (90, (.tuple ⟨[]⟩)), (97, (.pointer (some (Addr.mk jb 0 none)))), (89, (.bool false)), (101, (.bool true)), (93, (.bool false)), (99, (.int .i64 n_18)), (83, (.int .i64 n)), (91, (.tuple ⟨[]⟩)), (87, (.int .i64 n))]) [(0, (.int .i64 nodes)), (1, v1), (4, (.bool false)), (5, (.pointer (some (Addr.mk jb 0 none)))), (7, (.slice none 0 0)), (8, v8), (9, v9), (10, (.int .i64 n)), (11, (.int .i64 (0 : Int)))])) m'_16) (q .normal (fullN 103 (up (up x [(88, (.bool false)), (100, (.int .i64 (0 : Int))), (84, (.bool true)), (92, (.tuple ⟨[]⟩)), (98, (.int .i64 n)), (90, (.tuple ⟨[]⟩)), (86, (.int .i64 (IntKind.wrap .i64 (Int.add n (1 : Int))))), (97, (.pointer (some (Addr.mk jb 0 none)))), (89, (.bool false)), (101, (.bool false)), (85, (.int .i64 n)), (93, (.bool false)), (99, (.int .i64 n_18)), (83, (.int .i64 n)), (91, (.tuple ⟨[]⟩)), (87, (.int .i64 n))]) [(0, (.int .i64 nodes)), (1, v1), (4, (.bool false)), (5, (.pointer (some (Addr.mk jb 0 none)))), (7, (.slice none 0 0)), (8, v8), (9, v9), (10, (.int .i64 (IntKind.wrap .i64 (Int.add n (1 : Int))))), (11, (.int .i64 (0 : Int)))])) m'_16)) none)) none)))) (q (Ex.exit 2) (fullN 103 (up (up x [(84, (.bool false)), (83, (.int .i64 n))]) [(0, (.int .i64 nodes)), (1, v1), (4, (.bool false)), (5, (.pointer (some (Addr.mk jb 0 none)))), (7, (.slice none 0 0)), (8, v8), (9, v9), (10, (.int .i64 n)), (11, v11)])) m)) := by kernel_rfl
set_option maxHeartbeats 4000000 in
theorem t_jaB_k1 (x : Nat → Value) (cf : Y.CF α) (L : Y.LK α) (k : Nat) (v1 : Value) (bk kl : Nat) (n : Int) (jb : Nat) (m : Mem) (nodes : Int) (v8 v9 v10 v11 : Value) (q : Y.ExK α) : Y.codeF (loopN Try.f5 1) Try.prog kp 0 (Y.cfT Try.prog cf) L 103 k (fullN 103 (up x [(0, .int .i64 nodes), (1, v1), (4, .bool false), (5, .pointer (some ⟨jb, 0, none⟩)), (7, .slice (some ⟨bk, 0, some 43⟩) kl kl), (8, v8), (9, v9), (10, .int .i64 n), (11, v11)])) m q =
  (cond (cond (Y.ltF (6 : Int) n) false true) (cond (cond (Y.ltF n (1 : Int)) false true) (cond (cond (Y.ltF nodes n) false true) (cf 15 [(.slice (some (Addr.mk bk 0 (some 43))) kl kl), (.int .i64 n)] m (fun v_17 m'_18 => (Y.asInt v_17 (fun k'_19 n_20 => (cond (Y.kEq .i64 k'_19) (cf 16 [(.pointer (some (Addr.mk jb 0 none))), (.int .i64 n)] m'_18 (fun v_21 m'_22 => (Y.asInt v_21 (fun k'_23 n_24 => (cond (Y.kEq .i64 k'_23) (cond (cond (Y.eqF n_24 n_20) false true) (q .ret (fullN 103 (up (up x [(96, (.int .i64 n_20)), (88, (.bool true)), (100, (.int .i64 n_20)), (84, (.bool true)), (92, (.bool true)), (98, (.int .i64 n)), (90, (.int .i64 n)), (94, (.slice (some (Addr.mk bk 0 (some 43))) kl kl)), (97, (.pointer (some (Addr.mk jb 0 none)))), (89, (.bool true)), (101, (.bool true)), (93, (.bool true)), (99, (.int .i64 n_24)), (83, (.int .i64 n)), (91, (.int .i64 nodes)), (87, (.int .i64 n)), (95, (.int .i64 n))]) [(0, (.int .i64 nodes)), (1, v1), (4, (.bool false)), (5, (.pointer (some (Addr.mk jb 0 none)))), (7, (.slice (some (Addr.mk bk 0 (some 43))) kl kl)), (8, v8), (9, v9), (10, (.int .i64 n)), (11, (.int .i64 n_20))])) m'_22) (q .normal (fullN 103 (up (up x [(96, (.int .i64 n_20)), (88, (.bool true)), (100, (.int .i64 n_20)), (84, (.bool true)), (92, (.bool true)), (98, (.int .i64 n)), (90, (.int .i64 n)), (86, (.int .i64 (IntKind.wrap .i64 (Int.add n (1 : Int))))), (94, (.slice (some (Addr.mk bk 0 (some 43))) kl kl)), (97, (.pointer (some (Addr.mk jb 0 none)))), (89, (.bool true)), (101, (.bool false)), (85, (.int .i64 n)), (93, (.bool true)), (99, (.int .i64 n_24)), (83, (.int .i64 n)), (91, (.int .i64 nodes)), (87, (.int .i64 n)), (95, (.int .i64 n))]) [(0, (.int .i64 nodes)), (1, v1), (4, (.bool false)), (5, (.pointer (some (Addr.mk jb 0 none)))), (7, (.slice (some (Addr.mk bk 0 (some 43))) kl kl)), (8, v8), (9, v9), (10, (.int .i64 (IntKind.wrap .i64 (Int.add n (1 : Int))))), (11, (.int .i64 n_20))])) m'_22)) none)) none))) none)) none))) (cf 16 [(.pointer (some (Addr.mk jb 0 none))), (.int .i64 n)] m (fun v_17 m'_18 => (Y.asInt v_17 (fun k'_19 n_20 => (cond (Y.kEq .i64 k'_19) (cond (cond (Y.eqF n_20 (0 : Int)) false true) (q .ret (fullN 103 (up (up x [(88, (.bool true)), (100, (.int .i64 (0 : Int))), (84, (.bool true)), (92, (.bool false)), (98, (.int .i64 n)), (90, (.int .i64 n)), (97, (.pointer (some (Addr.mk jb 0 none)))), (89, (.bool true)), (101, (.bool true)), (93, (.bool false)), (99, (.int .i64 n_20)), (83, (.int .i64 n)), (91, (.int .i64 nodes)), (87, (.int .i64 n))]) [(0, (.int .i64 nodes)), (1, v1), (4, (.bool false)), (5, (.pointer (some (Addr.mk jb 0 none)))), (7, (.slice (some (Addr.mk bk 0 (some 43))) kl kl)), (8, v8), (9, v9), (10, (.int .i64 n)), (11, (.int .i64 (0 : Int)))])) m'_18) (q .normal (fullN 103 (up (up x [(88, (.bool true)), (100, (.int .i64 (0 : Int))), (84, (.bool true)), (92, (.bool false)), (98, (.int .i64 n)), (90, (.int .i64 n)), (86, (.int .i64 (IntKind.wrap .i64 (Int.add n (1 : Int))))), (97, (.pointer (some (Addr.mk jb 0 none)))), (89, (.bool true)), (101, (.bool false)), (85, (.int .i64 n)), (93, (.bool false)), (99, (.int .i64 n_20)), (83, (.int .i64 n)), (91, (.int .i64 nodes)), (87, (.int .i64 n))]) [(0, (.int .i64 nodes)), (1, v1), (4, (.bool false)), (5, (.pointer (some (Addr.mk jb 0 none)))), (7, (.slice (some (Addr.mk bk 0 (some 43))) kl kl)), (8, v8), (9, v9), (10, (.int .i64 (IntKind.wrap .i64 (Int.add n (1 : Int))))), (11, (.int .i64 (0 : Int)))])) m'_18)) none)) none)))) (cf 16 [(.pointer (some (Addr.mk jb 0 none))), (.int .i64 n)] m (fun v_17 m'_18 => (Y.asInt v_17 (fun k'_19 n_20 => (cond (Y.kEq .i64 k'_19) (cond (cond (Y.eqF n_20 (0 : Int)) false true) (q .ret (fullN 103 (up (up x [(88, (.bool false)), (100, (.int .i64 (0 : Int))), (84, (.bool true)), (92, (.tuple ⟨[]⟩)), (98, (.int .i64 n)), (90, (.tuple ⟨[]⟩)), (97, (.pointer (some (Addr.mk jb 0 none)))), (89, (.bool false)), (101, (.bool true)), (93, (.bool false)), (99, (.int .i64 n_20)), (83, (.int .i64 n)), (91, (.tuple ⟨[]⟩)), (87, (.int .i64 n))]) [(0, (.int .i64 nodes)), (1, v1), (4, (.bool false)), (5, (.pointer (some (Addr.mk jb 0 none)))), (7, (.slice (some (Addr.mk bk 0 (some 43))) kl kl)), (8, v8), (9, v9), (10, (.int .i64 n)), (11, (.int .i64 (0 : Int)))])) m'_18) (q .normal (fullN 103 (up (up x [(88, (.bool false)), (100, (.int .i64 (0 : Int))), (84, (.bool true)), (92, (.tuple ⟨[]⟩)), (98, (.int .i64 n)), (90, (.tuple ⟨[]⟩)), (86, (.int .i64 (IntKind.wrap .i64 (Int.add n (1 : Int))))), (97, (.pointer (some (Addr.mk jb 0 none)))), (89, (.bool false)), (101, (.bool false)), (85, (.int .i64 n)), (93, (.bool false)), (99, (.int .i64 n_20)), (83, (.int .i64 n)), (91, (.tuple ⟨[]⟩)), (87, (.int .i64 n))]) [(0, (.int .i64 nodes)), (1, v1), (4, (.bool false)), (5, (.pointer (some (Addr.mk jb 0 none)))), (7, (.slice (some (Addr.mk bk 0 (some 43))) kl kl)), (8, v8), (9, v9), (10, (.int .i64 (IntKind.wrap .i64 (Int.add n (1 : Int))))), (11, (.int .i64 (0 : Int)))])) m'_18)) none)) none)))) (q (Ex.exit 2) (fullN 103 (up (up x [(84, (.bool false)), (83, (.int .i64 n))]) [(0, (.int .i64 nodes)), (1, v1), (4, (.bool false)), (5, (.pointer (some (Addr.mk jb 0 none)))), (7, (.slice (some (Addr.mk bk 0 (some 43))) kl kl)), (8, v8), (9, v9), (10, (.int .i64 n)), (11, v11)])) m)) := by kernel_rfl
end
end Go.Proofs.Ytfpbiojnbffkpaa
/-
  JAppB: a row appended to rows.
-/
namespace Go.Proofs.Ytfpbiojnbffkpaa
open Go Go.DI Go.Proofs Go.Jud
noncomputable section
theorem loadC_at {m : Mem} {b n : Nat} {own : Bool} {c rest : List Value} (hm : m.get b = .cells own (c ++ rest)) (hn : c.length = n) : loadC m b 0 n = some c := by
  subst hn
  unfold loadC
  rw [hm]
  simp
theorem append_first {t e : TypeId} (hu : Try.prog.underlying t = some (.slice e)) (hs : szOf Try.prog e = some 43) (hb : bytesOf Try.prog e = some 120) (hz : (zerosD Try.prog e 1).isSome = true) {m : Mem} {z : Nat} {own : Bool} {l : List Value} (hm : m.get z = .cells own l) (hl : l.length = 43) (h1 : l.all one = true) :
    appendD Try.prog m t t (.slice none 0 0) (.slice (some ⟨z, 0, none⟩) 1 1) = some (.slice (some ⟨m.size, 0, some 43⟩) 1 1, m.push (.cells true l)) := by
  have hf : firstC m 43 1 (.slice (some ⟨z, 0, none⟩) 1 1) = some l := loadC_at (rest := []) (by rw [List.append_nil]; exact hm) (by omega)
  have hf0 : firstC m 43 0 (.slice none 0 0) = some [] := rfl
  have hlen : lenOf (.slice (some ⟨z, 0, none⟩) 1 1) = some 1 := rfl
  unfold appendD
  simp only [hu, hs, hb, hlen, hf, hf0]
  simp [hz, hl]
  rw [List.all_eq_true] at h1
  exact h1
theorem append_more {t e : TypeId} (hu : Try.prog.underlying t = some (.slice e)) (hs : szOf Try.prog e = some 43) (hb : bytesOf Try.prog e = some 120) (hz : (zerosD Try.prog e 1).isSome = true) {m : Mem} {z bk kl : Nat} {own : Bool} {l old : List Value} (hm : m.get z = .cells own l) (hl : l.length = 43) (h1 : l.all one = true)
    (hk : m.get bk = .cells true old) (hkl : old.length = kl * 43) (h2 : old.all one = true) (hbig : kl ≤ 100000) :
    appendD Try.prog m t t (.slice (some ⟨bk, 0, some 43⟩) kl kl) (.slice (some ⟨z, 0, none⟩) 1 1) = some (.slice (some ⟨m.size, 0, some 43⟩) (kl + 1) (kl + 1), (m.push (.cells true (old ++ l))).set bk .none) := by
  have hf : firstC m 43 1 (.slice (some ⟨z, 0, none⟩) 1 1) = some l := loadC_at (rest := []) (by rw [List.append_nil]; exact hm) (by omega)
  have hf0 : firstC m 43 kl (.slice (some ⟨bk, 0, some 43⟩) kl kl) = some old := loadC_at (rest := []) (by rw [List.append_nil]; exact hk) hkl
  have hlen : lenOf (.slice (some ⟨z, 0, none⟩) 1 1) = some 1 := rfl
  unfold appendD
  simp only [hu, hs, hb, hlen, hf, hf0]
  rw [if_neg (by decide), if_neg (by omega), if_pos ⟨by omega, by omega, by omega, hz⟩, if_pos ⟨by rw [h1, h2]; rfl, hkl, by omega⟩, if_pos trivial]
  simp only [hk]
end
end Go.Proofs.Ytfpbiojnbffkpaa
/-
  JApp: a row appended to the rows that are kept.
-/
namespace Go.Proofs.Ytfpbiojnbffkpaa
open Go Go.DI Go.Proofs Go.Jud
noncomputable section
variable {α : Type}
set_option maxHeartbeats 4000000 in
theorem t_jaQ (x : Nat → Value) (cf : Y.CF α) (v1 kv : Value) (kk w t ix e s st c tr : Int) (y : Bool) (h : Nat → Int) (v : Int) (jb : Nat) (m : Mem) (nodes : Int) (v8 v9 v10 v11 : Value) (q : Tmps → Mem → Option α) : Y.opsF (List.drop 5 r14) Try.prog kp 0 (Y.cfT Try.prog cf) 103 r14 (fullN 103 (up x [(0, .int .i64 nodes), (1, v1), (4, .bool false), (5, .pointer (some ⟨jb, 0, none⟩)), (7, kv), (8, v8), (9, v9), (10, v10), (11, v11), (76, kv), (80, .agg ⟨rowC kk w t ix e s st c tr y h v⟩)])) m q =
  Y.appendF Try.prog (m.push (.cells true (rowC kk w t ix e s st c tr y h v))) 22 22 kv (.slice (some ⟨m.size, 0, none⟩) 1 1) fun a m' => q (fullN 103 (up (up x [(80, .agg ⟨rowC kk w t ix e s st c tr y h v⟩), (76, kv), (82, a), (81, .slice (some ⟨m.size, 0, none⟩) 1 1)]) [(0, .int .i64 nodes), (1, v1), (4, .bool false), (5, .pointer (some ⟨jb, 0, none⟩)), (7, a), (8, v8), (9, v9), (10, v10), (11, v11)])) m' := by kernel_rfl
end
end Go.Proofs.Ytfpbiojnbffkpaa
/-
  JLaw: the plain law: what a judge says of a row is what the reference says behind the rows that were taken in.
-/
namespace Go.Proofs.Ytfpbiojnbffkpaa
open Go Go.DI Go.Proofs Go.Jud
noncomputable section
def badH (r x : RowT) : Prop := x.k = 3 ∧ x.e = r.e ∧ hl x.h ≠ hl r.h
def saysYes (e n : Int) (x : RowT) : Prop := x.k = 4 ∧ x.w = n ∧ x.e = e ∧ x.y = true
open Classical in
def swappedR (nodes : Int) (l : List RowT) (r : RowT) : Int :=
  if r.e ≤ epochR l r.w 0 then 5 else
  if ∃ x ∈ l, badH r x then 6 else
  if ∃ n : Int, 1 ≤ n ∧ n ≤ nodes ∧ ¬ ∃ x ∈ l, saysYes r.e n x then 7 else
  if ∃ x ∈ l, x.k = 3 ∧ x.e = r.e then (if r.e ≠ topR l 0 then 8 else 0) else
  if ∃ n : Int, 1 ≤ n ∧ n ≤ nodes ∧ epochR l n 0 ≠ topR l 0 then 8 else
  if r.e ≤ topR l 0 then 8 else 0
open Classical in
def wrongR (nodes : Int) (l : List RowT) (r : RowT) : Int :=
  if (r.k < 1 ∨ 7 < r.k) ∨ ofNode r ∧ (r.w < 1 ∨ nodes < r.w) then 1 else
  if (r.k = 3 ∨ r.k = 4) ∧ r.e < 1 then 1 else
  if r.k = 1 then (if ∃ x ∈ l, x.k = 1 ∧ x.t = r.t ∧ x.w ≠ r.w then 2 else 0) else
  if r.k = 2 then sureR l r else
  if r.k = 3 then swappedR nodes l r else
  if r.k = 4 then (if r.e ≤ epochR l r.w 0 then 9 else if ∃ x ∈ l, x.k = 4 ∧ x.e = r.e ∧ x.y ≠ r.y then 9 else 0) else
  if r.k = 5 then toldR l r else
  if r.k = 6 then (if r.e ≠ epochR l r.w 0 then 12 else if r.c = 0 ∧ (r.e = 0 ∨ r.tr ≠ 0) ∨ r.c = 6 ∧ r.e ≠ 0 then 12 else 0) else 0

/-- The last place of a server, by the rows. -/
def lastR (l : List RowT) (w : Int) : Int := l.foldl (fun n x => if x.k = 2 ∧ x.w = w then x.i else n) 0
structure JInv (nn : Int) (l : List RowT) (S : JS) : Prop where
  nodes : S.n = nn
  led1 : ∀ x ∈ l, x.k = 1 → S.led.get x.t = some x.w
  led2 : ∀ t u, S.led.get t = some u → ∃ x ∈ l, x.k = 1 ∧ x.t = t ∧ x.w = u
  ep : ∀ w : Int, 1 ≤ w → w ≤ nn → S.ep w.toNat = epochR l w 0
  top : S.top = topR l 0
  img1 : ∀ x ∈ l, x.k = 3 → ∃ h, S.images.get x.e = some h ∧ hl h = hl x.h
  img2 : ∀ e h, S.images.get e = some h → ∃ x ∈ l, x.k = 3 ∧ x.e = e ∧ hl h = hl x.h
  yes : ∀ w e, S.yes.get (w, e) ≠ none ↔ ∃ x ∈ l, saysYes e w x
  word1 : ∀ x ∈ l, x.k = 4 → S.word.get x.e = some (wordJ x)
  word2 : ∀ e u, S.word.get e = some u → ∃ x ∈ l, x.k = 4 ∧ x.e = e ∧ u = wordJ x
  ans1 : ∀ x ∈ l, countsR x = true → ∃ a, S.answers.get (x.w, x.s) = some a ∧ a.1 = x.c ∧ a.2.1 = x.e ∧ hl a.2.2 = hl x.h
  ans2 : ∀ q a, S.answers.get q = some a → ∃ x ∈ l, countsR x = true ∧ (x.w, x.s) = q ∧ a.1 = x.c ∧ a.2.1 = x.e ∧ hl a.2.2 = hl x.h
  ask1 : ∀ x ∈ l, countsR x = true → x.c = 0 → 0 < x.e → S.askers.get x.e = some (x.w, x.s)
  ask2 : ∀ e q, S.askers.get e = some q → ∃ x ∈ l, countsR x = true ∧ x.c = 0 ∧ 0 < x.e ∧ x.e = e ∧ (x.w, x.s) = q
  last : ∀ w, (S.last.get w).getD 0 = lastR l w
  last2 : ∀ w v, S.last.get w = some v → 1 ≤ v ∧ v ≤ (S.log.length : Int)
  log1 : ∀ x ∈ l, x.k = 2 → 1 ≤ x.i ∧ ∃ y, S.log[(x.i - 1).toNat]? = some y ∧ y.1 = x.t ∧ hl y.2 = hl x.h
  log2 : ∀ (j : Nat) y, S.log[j]? = some y → ∃ x ∈ l, x.k = 2 ∧ x.i = (j : Int) + 1 ∧ y.1 = x.t ∧ hl y.2 = hl x.h
theorem inv_new (n : Int) : JInv n [] (JS.new n) where
  nodes := rfl
  led1 := fun x h => by simp at h
  led2 := fun t u h => by cases h
  ep := fun _ _ _ => rfl
  top := rfl
  img1 := fun x h => by simp at h
  img2 := fun t u h => by cases h
  yes := fun w e => ⟨fun h => absurd rfl h, fun ⟨x, h, _⟩ => by simp at h⟩
  word1 := fun x h => by simp at h
  word2 := fun t u h => by cases h
  ans1 := fun x h => by simp at h
  ans2 := fun t u h => by cases h
  ask1 := fun x h => by simp at h
  ask2 := fun t u h => by cases h
  last := fun w => rfl
  last2 := fun t u h => by cases h
  log1 := fun x h => by simp at h
  log2 := fun j y h => by simp [JS.new] at h
theorem epochR_snoc (l : List RowT) (x : RowT) (w n : Int) : epochR (l ++ [x]) w n = if x.k = 3 ∧ x.w = w then x.e else epochR l w n := by simp [epochR]
theorem topR_snoc (l : List RowT) (x : RowT) (n : Int) : topR (l ++ [x]) n = if x.k = 3 ∧ topR l n < x.e then x.e else topR l n := by
  unfold topR; rw [List.foldl_append]; rfl
theorem lastR_snoc (l : List RowT) (x : RowT) (w : Int) : lastR (l ++ [x]) w = if x.k = 2 ∧ x.w = w then x.i else lastR l w := by simp [lastR]
/-- A row that turns nothing of what is asked. -/
theorem ex_snoc {l : List RowT} {r : RowT} {p : RowT → Prop} : (∃ x ∈ l ++ [r], p x) ↔ (∃ x ∈ l, p x) ∨ p r := by
  constructor
  · rintro ⟨x, hx, hp⟩
    rcases List.mem_append.1 hx with h | h
    · exact .inl ⟨x, h, hp⟩
    · simp at h; subst h; exact .inr hp
  · rintro (⟨x, hx, hp⟩ | hp)
    · exact ⟨x, List.mem_append_left _ hx, hp⟩
    · exact ⟨r, by simp, hp⟩
def o10 (S : JS) (r : RowT) : Bool := match S.answers.get (r.w, r.s) with | some x => !(decide (x.1 = r.c) && (decide (x.2.1 = r.e) && decide (hl x.2.2 = hl r.h))) | none => false
def o11 (S : JS) (r : RowT) : Bool := match S.askers.get r.e with | some x => !decide (x = (r.w, r.s)) | none => false
section
variable {n : Int} {l : List RowT} {S : JS} {r : RowT} (h : JInv n l S)
include h
open Classical in
theorem led_law (hk : r.k = 1) : (ledJ S r).1 = (if ∃ x ∈ l, x.k = 1 ∧ x.t = r.t ∧ x.w ≠ r.w then 2 else 0) := by
  unfold ledJ
  cases hg : S.led.get r.t with
  | none =>
    rw [if_neg]
    rintro ⟨x, hx, h1, h2, _⟩
    have := h.led1 x hx h1
    rw [h2, hg] at this; cases this
  | some u =>
    by_cases hu : u = r.w
    · simp only [hu, ne_eq, not_true_eq_false, if_false]
      rw [if_neg]
      rintro ⟨x, hx, h1, h2, h3⟩
      have := h.led1 x hx h1
      rw [h2, hg] at this
      cases this
      exact h3 hu
    · simp only [ne_eq, hu, not_false_eq_true, if_true]
      obtain ⟨x, hx, h1, h2, h3⟩ := h.led2 _ _ hg
      rw [if_pos ⟨x, hx, h1, h2, by rw [h3]; exact hu⟩]
open Classical in
theorem ack_law (hw : 1 ≤ r.w ∧ r.w ≤ n) : (ackJ S r).1 = (if r.e ≤ epochR l r.w 0 then 9 else if ∃ x ∈ l, x.k = 4 ∧ x.e = r.e ∧ x.y ≠ r.y then 9 else 0) := by
  unfold ackJ
  rw [h.ep r.w hw.1 hw.2]
  by_cases g : r.e ≤ epochR l r.w 0
  · rw [if_pos g, if_pos g]
  rw [if_neg g, if_neg g]
  have wne : ∀ x : RowT, wordJ x ≠ 0 := fun x => by unfold wordJ; split <;> omega
  have weq : ∀ x : RowT, wordJ x = wordJ r ↔ x.y = r.y := fun x => by
    unfold wordJ
    cases x.y <;> cases r.y <;> simp
  cases hg : S.word.get r.e with
  | none =>
    have hn : ¬ ∃ x ∈ l, x.k = 4 ∧ x.e = r.e ∧ x.y ≠ r.y := by
      rintro ⟨x, hx, h1, h2, _⟩
      have := h.word1 x hx h1
      rw [h2, hg] at this; cases this
    rw [if_neg (by simp), if_neg hn]
  | some u =>
    obtain ⟨x, hx, h1, h2, rfl⟩ := h.word2 _ _ hg
    by_cases hy : x.y = r.y
    · have hn : ¬ ∃ x ∈ l, x.k = 4 ∧ x.e = r.e ∧ x.y ≠ r.y := by
        rintro ⟨z, hz, g1, g2, g3⟩
        have := h.word1 z hz g1
        rw [g2, hg] at this
        have e := (weq z).1 ((Option.some.inj this).symm.trans ((weq x).2 hy))
        exact g3 e
      rw [if_neg (by simp [(weq x).2 hy]), if_neg hn]
    · have : wordJ x ≠ wordJ r := fun e => hy ((weq x).1 e)
      rw [if_pos (by simp [wne x, this]), if_pos ⟨x, hx, h1, h2, hy⟩]
theorem jud_law (hw : 1 ≤ r.w ∧ r.w ≤ n) : (judJ S r).1 = (if r.e ≠ epochR l r.w 0 then 12 else if r.c = 0 ∧ (r.e = 0 ∨ r.tr ≠ 0) ∨ r.c = 6 ∧ r.e ≠ 0 then 12 else 0) := by
  unfold judJ
  rw [h.ep r.w hw.1 hw.2]
  by_cases g : r.e ≠ epochR l r.w 0
  · rw [if_pos (.inl g), if_pos g]
  · rw [if_neg g]
    by_cases g2 : r.c = 0 ∧ (r.e = 0 ∨ r.tr ≠ 0) ∨ r.c = 6 ∧ r.e ≠ 0
    · rw [if_pos (.inr g2), if_pos g2]
    · rw [if_neg (fun e => e.elim g g2), if_neg g2]
omit h in
theorem toldJ_eq : toldJ S r = (if r.y = false ∨ r.c = 61 then (0, S) else if o10 S r = true then (10, S) else if (propJ r && o11 S r) = true then (11, S) else
  (0, { S with answers := S.answers.put (r.w, r.s) (r.c, r.e, r.h), askers := if propJ r = true then S.askers.put r.e (r.w, r.s) else S.askers })) := rfl
open Classical in
theorem told_law (hk : r.k = 5) : (toldJ S r).1 = toldR l r := by
  have hcr : countsR r = (r.y && decide (r.c ≠ 61)) := by unfold countsR; rw [decide_eq_true hk]; rfl
  rw [toldJ_eq]
  unfold toldR
  by_cases h0 : r.y = false ∨ r.c = 61
  · rw [if_pos h0, if_pos]
    rw [hcr]
    rcases h0 with h0 | h0
    · rw [h0]; rfl
    · rw [decide_eq_false (fun g => g h0)]; cases r.y <;> rfl
  have hc : countsR r ≠ false := by
    rw [hcr]
    have h1 : r.y = true := by cases hy : r.y with | true => rfl | false => exact absurd (.inl hy) h0
    rw [h1, decide_eq_true (show r.c ≠ 61 from fun g => h0 (.inr g))]; simp
  rw [if_neg h0, if_neg hc]
  -- rule 10
  have k10 : (o10 S r = true) ↔ ∃ x ∈ l, clash1 r x := by
    unfold o10
    cases hg : S.answers.get (r.w, r.s) with
    | none =>
      refine ⟨fun e => (by cases e), ?_⟩
      rintro ⟨x, hx, c1, c2, c3, _⟩
      obtain ⟨a, ha, _⟩ := h.ans1 x hx c1
      rw [c2, c3, hg] at ha; cases ha
    | some a =>
      obtain ⟨x, hx, c1, c2, a1, a2, a3⟩ := h.ans2 _ _ hg
      have c2' : x.w = r.w ∧ x.s = r.s := by simpa using c2
      constructor
      · intro e
        refine ⟨x, hx, c1, c2'.1, c2'.2, ?_⟩
        by_cases e1 : x.c = r.c
        · by_cases e2 : x.e = r.e
          · by_cases e3 : hl x.h = hl r.h
            · simp [a1, a2, a3, e1, e2, e3] at e
            · exact .inr (.inr e3)
          · exact .inr (.inl e2)
        · exact .inl e1
      · rintro ⟨z, hz, d1, d2, d3, d4⟩
        obtain ⟨a', ha', b1, b2, b3⟩ := h.ans1 z hz d1
        rw [d2, d3, hg] at ha'
        cases ha'
        rcases d4 with g | g | g
        · have : ¬ a.1 = r.c := fun e => g (b1.symm.trans e)
          simp [this]
        · have : ¬ a.2.1 = r.e := fun e => g (b2.symm.trans e)
          simp [this]
        · have : ¬ hl a.2.2 = hl r.h := fun e => g (b3.symm.trans e)
          simp [this]
  by_cases g10 : ∃ x ∈ l, clash1 r x
  · rw [if_pos (k10.2 g10), if_pos g10]
  rw [if_neg (fun e => g10 (k10.1 e)), if_neg g10]
  have k11 : ((propJ r && o11 S r) = true) ↔ ∃ x ∈ l, clash2 r x := by
    unfold o11
    by_cases hp : r.c = 0 ∧ 0 < r.e
    · have hp' : propJ r = true := by unfold propJ; rw [decide_eq_true hp.1, decide_eq_true hp.2]; rfl
      rw [hp', Bool.true_and]
      cases hg : S.askers.get r.e with
      | none =>
        refine ⟨fun e => (by cases e), ?_⟩
        rintro ⟨x, hx, c1, c2, c3, c4, c5, _⟩
        have := h.ask1 x hx c1 c3 (by rw [c5]; exact c4)
        rw [c5, hg] at this; cases this
      | some q =>
        obtain ⟨x, hx, c1, c2, c3, c4, c5⟩ := h.ask2 _ _ hg
        constructor
        · intro e
          refine ⟨x, hx, c1, hp.1, c2, hp.2, c4, ?_⟩
          have e' : ¬ q = (r.w, r.s) := by simpa using e
          rw [← c5] at e'
          by_cases e1 : x.w = r.w
          · right; intro e2; exact e' (by rw [e1, e2])
          · exact .inl e1
        · rintro ⟨z, hz, d1, d2, d3, d4, d5, d6⟩
          have := h.ask1 z hz d1 d3 (by rw [d5]; exact d4)
          rw [d5, hg] at this
          cases this
          have : ¬ (z.w, z.s) = (r.w, r.s) := fun e => by
            have e' : z.w = r.w ∧ z.s = r.s := by simpa using e
            exact d6.elim (fun g => g e'.1) (fun g => g e'.2)
          simp [this]
    · have hp' : propJ r = false := by
        unfold propJ
        by_cases h1 : r.c = 0
        · rw [decide_eq_true h1, decide_eq_false (fun g => hp ⟨h1, g⟩)]; rfl
        · rw [decide_eq_false h1]; rfl
      rw [hp', Bool.false_and]
      refine ⟨fun e => (by cases e), ?_⟩
      rintro ⟨z, hz, d1, d2, d3, d4, d5, d6⟩
      exact absurd ⟨d2, d4⟩ hp
  by_cases g11 : ∃ x ∈ l, clash2 r x
  · rw [if_pos (k11.2 g11), if_pos g11]
  · rw [if_neg (fun e => g11 (k11.1 e)), if_neg g11]
omit h in
theorem yeses_iff (S : JS) (e : Int) : ∀ m : Nat, yesesJ S e m = true ↔ ∀ j : Nat, j < m → S.yes.get ((j : Int) + 1, e) ≠ none
  | 0 => ⟨fun _ j hj => absurd hj (Nat.not_lt_zero _), fun _ => rfl⟩
  | m + 1 => by
    have ih := yeses_iff S e m
    simp only [yesesJ, Bool.and_eq_true, ih]
    constructor
    · rintro ⟨h1, h2⟩ j hj
      by_cases e1 : j = m
      · subst e1; intro g; rw [g] at h2; cases h2
      · exact h1 j (by omega)
    · intro h1
      refine ⟨fun j hj => h1 j (by omega), ?_⟩
      have := h1 m (by omega)
      cases hg : S.yes.get ((m : Int) + 1, e) with
      | none => exact absurd hg this
      | some _ => rfl
omit h in
theorem even_iff (S : JS) : ∀ m : Nat, evenJ S m = true ↔ ∀ j : Nat, j < m → S.ep (j + 1) = S.top
  | 0 => ⟨fun _ j hj => absurd hj (Nat.not_lt_zero _), fun _ => rfl⟩
  | m + 1 => by
    have ih := even_iff S m
    simp only [evenJ, Bool.and_eq_true, ih, decide_eq_true_eq]
    constructor
    · rintro ⟨h1, h2⟩ j hj
      by_cases e1 : j = m
      · subst e1; exact h2
      · exact h1 j (by omega)
    · exact fun h1 => ⟨fun j hj => h1 j (by omega), h1 m (by omega)⟩
def o6 (S : JS) (r : RowT) : Bool := match S.images.get r.e with | some h => !decide (hl h = hl r.h) | none => false
def o8 (S : JS) (r : RowT) : Bool := match S.images.get r.e with | some _ => !decide (r.e = S.top) | none => !evenJ S S.n.toNat || decide (r.e ≤ S.top)
omit h in
theorem swapJ_eq : swapJ S r = (if r.e ≤ S.ep r.w.toNat then (5, S) else if o6 S r = true then (6, S) else if yesesJ S r.e S.n.toNat = false then (7, S) else if o8 S r = true then (8, S) else
  (0, { S with ep := fun j => if j = r.w.toNat then r.e else S.ep j, images := S.images.put r.e r.h, top := if r.e > S.top then r.e else S.top })) := rfl
open Classical in
theorem swap_law (hn : 1 ≤ n) (hw : 1 ≤ r.w ∧ r.w ≤ n) : (swapJ S r).1 = swappedR n l r := by
  rw [swapJ_eq]
  unfold swappedR
  rw [h.ep r.w hw.1 hw.2]
  by_cases g5 : r.e ≤ epochR l r.w 0
  · rw [if_pos g5, if_pos g5]
  rw [if_neg g5, if_neg g5]
  have k6 : o6 S r = true ↔ ∃ x ∈ l, badH r x := by
    unfold o6
    cases hg : S.images.get r.e with
    | none =>
      refine ⟨fun e => (by cases e), ?_⟩
      rintro ⟨x, hx, c1, c2, _⟩
      obtain ⟨a, ha, _⟩ := h.img1 x hx c1
      rw [c2, hg] at ha; cases ha
    | some a =>
      obtain ⟨x, hx, c1, c2, c3⟩ := h.img2 _ _ hg
      constructor
      · intro e
        have e' : ¬ hl a = hl r.h := by simpa using e
        exact ⟨x, hx, c1, c2, by rw [← c3]; exact e'⟩
      · rintro ⟨z, hz, d1, d2, d3⟩
        obtain ⟨a', ha', b1⟩ := h.img1 z hz d1
        rw [d2, hg] at ha'
        cases ha'
        show (!decide (hl a = hl r.h)) = true
        rw [b1]
        simpa using d3
  by_cases g6 : ∃ x ∈ l, badH r x
  · rw [if_pos (k6.2 g6), if_pos g6]
  rw [if_neg (fun e => g6 (k6.1 e)), if_neg g6]
  have hnn := h.nodes
  have k7 : yesesJ S r.e S.n.toNat = false ↔ ∃ n' : Int, 1 ≤ n' ∧ n' ≤ n ∧ ¬ ∃ x ∈ l, saysYes r.e n' x := by
    constructor
    · intro e
      have hne : ¬ ∀ j : Nat, j < S.n.toNat → S.yes.get ((j : Int) + 1, r.e) ≠ none := fun g => by
        rw [(yeses_iff S r.e S.n.toNat).2 g] at e; cases e
      by_cases g : ∃ j : Nat, j < S.n.toNat ∧ S.yes.get ((j : Int) + 1, r.e) = none
      · obtain ⟨j, hj, hg⟩ := g
        exact ⟨(j : Int) + 1, by omega, by omega, fun hx => (h.yes _ _).2 hx hg⟩
      · exact absurd (fun j hj e' => g ⟨j, hj, e'⟩) hne
    · rintro ⟨n', h1, h2, h3⟩
      cases hy : yesesJ S r.e S.n.toNat with
      | false => rfl
      | true =>
        have := (yeses_iff S r.e S.n.toNat).1 hy (n' - 1).toNat (by omega)
        rw [show (((n' - 1).toNat : Nat) : Int) + 1 = n' by omega] at this
        exact absurd ((h.yes _ _).1 this) h3
  by_cases g7 : ∃ n' : Int, 1 ≤ n' ∧ n' ≤ n ∧ ¬ ∃ x ∈ l, saysYes r.e n' x
  · rw [if_pos (k7.2 g7), if_pos g7]
  rw [if_neg (fun e => g7 (k7.1 e)), if_neg g7]
  have kk : (∃ x ∈ l, x.k = 3 ∧ x.e = r.e) ↔ S.images.get r.e ≠ none := by
    constructor
    · rintro ⟨x, hx, c1, c2⟩ e
      obtain ⟨a, ha, _⟩ := h.img1 x hx c1
      rw [c2, e] at ha; cases ha
    · intro e
      cases hg : S.images.get r.e with
      | none => exact absurd hg e
      | some a =>
        obtain ⟨x, hx, c1, c2, _⟩ := h.img2 _ _ hg
        exact ⟨x, hx, c1, c2⟩
  unfold o8
  rw [h.top]
  cases hg : S.images.get r.e with
  | some a =>
    rw [if_pos (kk.2 (by rw [hg]; simp))]
    simp only
    by_cases e1 : r.e = topR l 0
    · rw [decide_eq_true e1, if_neg (by simp), if_neg (show ¬ (r.e ≠ topR l 0) from fun g => g e1)]
    · rw [decide_eq_false e1, if_pos (by simp), if_pos e1]
  | none =>
    rw [if_neg (fun g => kk.1 g hg)]
    simp only
    have k8 : evenJ S S.n.toNat = true ↔ ¬ ∃ n' : Int, 1 ≤ n' ∧ n' ≤ n ∧ epochR l n' 0 ≠ topR l 0 := by
      rw [even_iff]
      constructor
      · rintro g ⟨n', h1, h2, h3⟩
        have := g (n' - 1).toNat (by omega)
        rw [show (n' - 1).toNat + 1 = n'.toNat by omega, h.ep n' h1 h2, h.top] at this
        exact h3 this
      · intro g j hj
        have := h.ep ((j : Int) + 1) (by omega) (by omega)
        rw [show ((j : Int) + 1).toNat = j + 1 by omega] at this
        rw [this, h.top]
        by_cases e1 : epochR l ((j : Int) + 1) 0 = topR l 0
        · exact e1
        · exact absurd ⟨(j : Int) + 1, by omega, by omega, e1⟩ g
    by_cases g8 : ∃ n' : Int, 1 ≤ n' ∧ n' ≤ n ∧ epochR l n' 0 ≠ topR l 0
    · have : evenJ S S.n.toNat = false := by
        cases hev : evenJ S S.n.toNat with
        | false => rfl
        | true => exact absurd g8 (k8.1 hev)
      rw [this, if_pos (show (!false || decide (r.e ≤ topR l 0)) = true from rfl), if_pos g8]
    · rw [k8.2 g8, if_neg g8]
      by_cases e1 : r.e ≤ topR l 0
      · rw [decide_eq_true e1, if_pos (by simp), if_pos e1]
      · rw [decide_eq_false e1, if_neg (by simp), if_neg e1]
/-- What the reference's loop over the rows that are sure finds. -/
def badS (r x : RowT) : Prop := x.k = 2 ∧ x.i = r.i ∧ (x.t ≠ r.t ∨ hl x.h ≠ hl r.h)
def fallS (r x : RowT) : Prop := x.k = 2 ∧ 1 < r.i ∧ x.i = r.i - 1 ∧ r.t < x.t
omit h in
theorem sureS_none (r x : RowT) (st : Int × Bool) : sureS r st x = none ↔ badS r x := by
  unfold sureS badS
  by_cases h1 : x.k = 2
  · rw [if_pos h1]
    by_cases h2 : x.i = r.i ∧ (x.t ≠ r.t ∨ hl x.h ≠ hl r.h)
    · rw [if_pos h2]; exact ⟨fun _ => ⟨h1, h2⟩, fun _ => rfl⟩
    · rw [if_neg h2]; exact ⟨fun e => (by cases e), fun e => absurd e.2 h2⟩
  · rw [if_neg h1]; exact ⟨fun e => (by cases e), fun e => absurd e.1 h1⟩
omit h in
open Classical in
theorem sureS_some {r x : RowT} (hb : ¬ badS r x) (st : Int × Bool) : sureS r st x = some (if x.k = 2 ∧ x.w = r.w then x.i else st.1, if fallS r x then true else st.2) := by
  unfold sureS
  by_cases h1 : x.k = 2
  · rw [if_pos h1, if_neg (fun g => hb ⟨h1, g⟩)]
    congr 2
    · by_cases h2 : x.w = r.w
      · rw [if_pos h2, if_pos ⟨h1, h2⟩]
      · rw [if_neg h2, if_neg (fun g => h2 g.2)]
    · by_cases h2 : 1 < r.i ∧ x.i = r.i - 1 ∧ r.t < x.t
      · rw [if_pos h2, if_pos (show fallS r x from ⟨h1, h2⟩)]
      · rw [if_neg h2, if_neg (show ¬ fallS r x from fun g => h2 g.2)]
  · rw [if_neg h1, if_neg (fun g => h1 g.1), if_neg (show ¬ fallS r x from fun g => h1 g.1)]
omit h in
open Classical in
theorem sureF_eq (r : RowT) : ∀ (l : List RowT) (st : Int × Bool), sureF r st l = if ∃ x ∈ l, badS r x then none else some (l.foldl (fun n x => if x.k = 2 ∧ x.w = r.w then x.i else n) st.1, if ∃ x ∈ l, fallS r x then true else st.2)
  | [], st => by
    rw [if_neg (by rintro ⟨x, hx, _⟩; simp at hx), if_neg (by rintro ⟨x, hx, _⟩; simp at hx)]
    rfl
  | x :: l, st => by
    simp only [sureF]
    by_cases hb : badS r x
    · rw [(sureS_none r x st).2 hb, if_pos ⟨x, by simp, hb⟩]
    · rw [sureS_some hb]
      simp only
      rw [sureF_eq r l]
      have hE : ∀ (p : RowT → Prop), ¬ p x → ((∃ y ∈ x :: l, p y) ↔ ∃ y ∈ l, p y) := fun p hp => by
        constructor
        · rintro ⟨y, hy, hpy⟩
          rcases List.mem_cons.1 hy with rfl | hy
          · exact absurd hpy hp
          · exact ⟨y, hy, hpy⟩
        · rintro ⟨y, hy, hpy⟩; exact ⟨y, List.mem_cons_of_mem _ hy, hpy⟩
      by_cases hbl : ∃ y ∈ l, badS r y
      · rw [if_pos hbl, if_pos ((hE _ hb).2 hbl)]
      · rw [if_neg hbl, if_neg (fun g => hbl ((hE _ hb).1 g))]
        congr 2
        by_cases hf : fallS r x
        · rw [if_pos hf, if_pos (show ∃ y ∈ x :: l, fallS r y from ⟨x, by simp, hf⟩)]
          split <;> rfl
        · rw [if_neg hf]
          by_cases hfl : ∃ y ∈ l, fallS r y
          · rw [if_pos hfl, if_pos ((hE _ hf).2 hfl)]
          · rw [if_neg hfl, if_neg (fun g => hfl ((hE _ hf).1 g))]
open Classical in
theorem sure_law (hlog : S.log.length ≤ 1000000) (hi : -9223372036854775808 ≤ r.i ∧ r.i ≤ 9223372036854775807) : (sureJ S r).1 = sureR l r := by
  unfold sureR sureJ
  rw [sureF_eq]
  have k3 : (thereJ S r && otherJ S r) = true ↔ ∃ x ∈ l, badS r x := by
    unfold thereJ otherJ
    constructor
    · intro e
      simp only [Bool.and_eq_true, decide_eq_true_eq] at e
      obtain ⟨⟨e1, e2⟩, e3⟩ := e
      cases hg : S.log[(r.i - 1).toNat]? with
      | none => rw [hg] at e3; cases e3
      | some y =>
        rw [hg] at e3
        obtain ⟨x, hx, c1, c2, c3, c4⟩ := h.log2 _ _ hg
        refine ⟨x, hx, c1, by omega, ?_⟩
        by_cases d1 : x.t = r.t
        · by_cases d2 : hl x.h = hl r.h
          · simp [c3, c4, d1, d2] at e3
          · exact .inr d2
        · exact .inl d1
    · rintro ⟨x, hx, c1, c2, c3⟩
      obtain ⟨b1, y, hy, y1, y2⟩ := h.log1 x hx c1
      rw [c2] at b1 hy
      have hlt := (List.getElem?_eq_some_iff.1 hy).1
      have t1 : decide (1 ≤ r.i) = true := decide_eq_true b1
      have t2 : decide (r.i ≤ (S.log.length : Int)) = true := decide_eq_true (by omega)
      rw [t1, t2, hy]
      rcases c3 with c3 | c3
      · have : ¬ y.1 = r.t := fun e => c3 (y1.symm.trans e)
        simp [this]
      · have : ¬ hl y.2 = hl r.h := fun e => c3 (y2.symm.trans e)
        simp [this]
  by_cases g3 : ∃ x ∈ l, badS r x
  · rw [if_pos (k3.2 g3), if_pos g3]
  rw [if_neg (fun e => g3 (k3.1 e)), if_neg g3]
  have hlast : (l.foldl (fun n x => if x.k = 2 ∧ x.w = r.w then x.i else n) (0 : Int)) = (S.last.get r.w).getD 0 := (h.last r.w).symm
  simp only [hlast]
  have hr : 0 ≤ (S.last.get r.w).getD 0 ∧ (S.last.get r.w).getD 0 ≤ (S.log.length : Int) := by
    cases hg : S.last.get r.w with
    | none => simp
    | some v => have := h.last2 _ _ hg; simp; omega
  have hw : IntKind.wrap .i64 ((S.last.get r.w).getD 0 + 1) = (S.last.get r.w).getD 0 + 1 := IntWalk.i64_in _ (by omega)
  rw [hw]
  by_cases g4 : r.i ≠ 1 ∧ r.i - 1 ≠ (S.last.get r.w).getD 0
  · rw [if_pos g4, if_pos (.inl ⟨g4.1, .inr (by omega)⟩)]
  rw [if_neg g4]
  by_cases g5 : r.i < 1
  · rw [if_pos g5, if_pos (.inl ⟨by omega, .inl g5⟩)]
  rw [if_neg g5]
  have kf : (1 < r.i ∧ fallsJ S r = true) ↔ ∃ x ∈ l, fallS r x := by
    unfold fallsJ
    constructor
    · rintro ⟨e1, e2⟩
      cases hg : S.log[(r.i - 2).toNat]? with
      | none => rw [hg] at e2; cases e2
      | some y =>
        rw [hg] at e2
        obtain ⟨x, hx, c1, c2, c3, c4⟩ := h.log2 _ _ hg
        exact ⟨x, hx, c1, e1, by omega, by rw [← c3]; simpa using e2⟩
    · rintro ⟨x, hx, c1, c2, c3, c4⟩
      obtain ⟨b1, y, hy, y1, y2⟩ := h.log1 x hx c1
      rw [show x.i - 1 = r.i - 2 by omega] at hy
      rw [hy]
      exact ⟨c2, show decide (r.t < y.1) = true by rw [y1]; exact decide_eq_true c4⟩
  by_cases gf : ∃ x ∈ l, fallS r x
  · rw [if_pos (kf.2 gf), if_pos gf, if_pos (.inr rfl)]
  · have hneg : ¬ (r.i ≠ 1 ∧ (r.i < 1 ∨ r.i ≠ (S.last.get r.w).getD 0 + 1) ∨ false = true) := by
      rintro (⟨e1, e2 | e2⟩ | e)
      · exact g5 e2
      · exact g4 ⟨e1, fun e => e2 (by omega)⟩
      · cases e
    rw [if_neg (fun e => gf (kf.1 e)), if_neg gf, if_neg hneg]
end
end
end Go.Proofs.Ytfpbiojnbffkpaa
