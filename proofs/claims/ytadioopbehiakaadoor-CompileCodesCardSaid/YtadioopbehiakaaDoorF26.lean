/-
  CTree1: runs of functions that hang on their arguments alone (printed by gt.py).
-/
import Derived.Test.YtadioopbehiakaaDoorF10
set_option linter.all false
set_option linter.unusedVariables false
set_option linter.unusedSimpArgs false
namespace Go.Proofs.YtadioopbehiakaaDoor
open Go Go.DI Go.DI.Kit Go.Proofs Go.Cmp
noncomputable section
set_option maxHeartbeats 4000000
variable {α : Type}
theorem t_most1  : Y.callK Tryd.prog kp 1 20 40 [.int .i64 1] (mG gl) (fun v m=>some (v,m.get 0)) =
  (some ((.int .u64 (255 : Int)),(.cells false gl))):=by kernel_rfl
theorem t_full1  : Y.callK Tryd.prog kp 1 20 34 [.int .i64 1] (mG gl) (fun v m=>some (v,m.get 0)) =
  (some ((.int .u64 (255 : Int)),(.cells false gl))):=by kernel_rfl
theorem t_Full1  : Y.callK Tryd.prog kp 1 20 45 [.int .i64 1] (mG gl) (fun v m=>some (v,m.get 0)) =
  (some ((.int .u64 (255 : Int)),(.cells false gl))):=by kernel_rfl
theorem t_most2  : Y.callK Tryd.prog kp 1 20 40 [.int .i64 2] (mG gl) (fun v m=>some (v,m.get 0)) =
  (some ((.int .u64 (65535 : Int)),(.cells false gl))):=by kernel_rfl
theorem t_full2  : Y.callK Tryd.prog kp 1 20 34 [.int .i64 2] (mG gl) (fun v m=>some (v,m.get 0)) =
  (some ((.int .u64 (65535 : Int)),(.cells false gl))):=by kernel_rfl
theorem t_Full2  : Y.callK Tryd.prog kp 1 20 45 [.int .i64 2] (mG gl) (fun v m=>some (v,m.get 0)) =
  (some ((.int .u64 (65535 : Int)),(.cells false gl))):=by kernel_rfl
theorem t_most4  : Y.callK Tryd.prog kp 1 20 40 [.int .i64 4] (mG gl) (fun v m=>some (v,m.get 0)) =
  (some ((.int .u64 (4294967295 : Int)),(.cells false gl))):=by kernel_rfl
theorem t_full4  : Y.callK Tryd.prog kp 1 20 34 [.int .i64 4] (mG gl) (fun v m=>some (v,m.get 0)) =
  (some ((.int .u64 (4294967295 : Int)),(.cells false gl))):=by kernel_rfl
theorem t_Full4  : Y.callK Tryd.prog kp 1 20 45 [.int .i64 4] (mG gl) (fun v m=>some (v,m.get 0)) =
  (some ((.int .u64 (4294967295 : Int)),(.cells false gl))):=by kernel_rfl
theorem t_most8  : Y.callK Tryd.prog kp 1 20 40 [.int .i64 8] (mG gl) (fun v m=>some (v,m.get 0)) =
  (some ((.int .u64 (18446744073709551615 : Int)),(.cells false gl))):=by kernel_rfl
theorem t_full8  : Y.callK Tryd.prog kp 1 20 34 [.int .i64 8] (mG gl) (fun v m=>some (v,m.get 0)) =
  (some ((.int .u64 (18446744073709551615 : Int)),(.cells false gl))):=by kernel_rfl
theorem t_Full8  : Y.callK Tryd.prog kp 1 20 45 [.int .i64 8] (mG gl) (fun v m=>some (v,m.get 0)) =
  (some ((.int .u64 (18446744073709551615 : Int)),(.cells false gl))):=by kernel_rfl
theorem t_small (n : Int) : Y.callK Tryd.prog kp 1 20 41 [.int .u64 n] (mG gl) (fun v m=>some (v,m.get 0)) =
  (cond (Y.ltF n (2147483648 : Int)) (some ((.bool true),(.cells false gl))) (some ((.bool false),(.cells false gl)))):=by kernel_rfl
theorem t_mkNum11 (im : Int) : Y.callK Tryd.prog kp 1 20 52 [.agg ⟨[.int .i64 1,.int .i64 11,.int .i64 0,.bool true,.bool false]⟩,.agg ⟨[.int .u8 0,.int .u8 2,.int .u8 0,.int .i16 0,.int .i32 im]⟩] (mG gl) (fun v m=>some (v,m.get 0)) =
  (some ((.tuple ⟨[(.agg ⟨[(.int .u8 (183 : Int)),(.int .u8 (2 : Int)),(.int .u8 (0:Int)),(.int Go.IntKind.i16 (0:Int)),(.int Go.IntKind.i32 im)]⟩),(.int .i64 (0:Int))]⟩),(.cells false gl))):=by kernel_rfl
theorem t_mkNum11_3 (im : Int) : Y.callK Tryd.prog kp 1 20 52 [.agg ⟨[.int .i64 1,.int .i64 11,.int .i64 0,.bool true,.bool false]⟩,.agg ⟨[.int .u8 0,.int .u8 3,.int .u8 0,.int .i16 0,.int .i32 im]⟩] (mG gl) (fun v m=>some (v,m.get 0)) =
  (some ((.tuple ⟨[(.agg ⟨[(.int .u8 (183 : Int)),(.int .u8 (3 : Int)),(.int .u8 (0:Int)),(.int Go.IntKind.i16 (0:Int)),(.int Go.IntKind.i32 im)]⟩),(.int .i64 (0:Int))]⟩),(.cells false gl))):=by kernel_rfl
theorem t_mkNum5 (im : Int) : Y.callK Tryd.prog kp 1 20 52 [.agg ⟨[.int .i64 1,.int .i64 5,.int .i64 0,.bool true,.bool false]⟩,.agg ⟨[.int .u8 0,.int .u8 2,.int .u8 0,.int .i16 0,.int .i32 im]⟩] (mG gl) (fun v m=>some (v,m.get 0)) =
  (some ((.tuple ⟨[(.agg ⟨[(.int .u8 (87 : Int)),(.int .u8 (2 : Int)),(.int .u8 (0:Int)),(.int Go.IntKind.i16 (0:Int)),(.int Go.IntKind.i32 im)]⟩),(.int .i64 (0:Int))]⟩),(.cells false gl))):=by kernel_rfl
theorem t_mkRegs11a  : Y.callK Tryd.prog kp 1 20 52 [.agg ⟨[.int .i64 1,.int .i64 11,.int .i64 0,.bool true,.bool true]⟩,.agg ⟨[.int .u8 0,.int .u8 6,.int .u8 1,.int .i16 0,.int .i32 0]⟩] (mG gl) (fun v m=>some (v,m.get 0)) =
  (some ((.tuple ⟨[(.agg ⟨[(.int .u8 (191 : Int)),(.int .u8 (6 : Int)),(.int .u8 (1:Int)),(.int Go.IntKind.i16 (0:Int)),(.int Go.IntKind.i32 (0:Int))]⟩),(.int .i64 (0:Int))]⟩),(.cells false gl))):=by kernel_rfl
theorem t_mkRegs11b  : Y.callK Tryd.prog kp 1 20 52 [.agg ⟨[.int .i64 1,.int .i64 11,.int .i64 0,.bool true,.bool true]⟩,.agg ⟨[.int .u8 0,.int .u8 2,.int .u8 8,.int .i16 0,.int .i32 0]⟩] (mG gl) (fun v m=>some (v,m.get 0)) =
  (some ((.tuple ⟨[(.agg ⟨[(.int .u8 (191 : Int)),(.int .u8 (2 : Int)),(.int .u8 (8 : Int)),(.int Go.IntKind.i16 (0:Int)),(.int Go.IntKind.i32 (0:Int))]⟩),(.int .i64 (0:Int))]⟩),(.cells false gl))):=by kernel_rfl
theorem t_mkRegs5  : Y.callK Tryd.prog kp 1 20 52 [.agg ⟨[.int .i64 1,.int .i64 5,.int .i64 0,.bool true,.bool true]⟩,.agg ⟨[.int .u8 0,.int .u8 2,.int .u8 3,.int .i16 0,.int .i32 0]⟩] (mG gl) (fun v m=>some (v,m.get 0)) =
  (some ((.tuple ⟨[(.agg ⟨[(.int .u8 (95 : Int)),(.int .u8 (2 : Int)),(.int .u8 (3 : Int)),(.int Go.IntKind.i16 (0:Int)),(.int Go.IntKind.i32 (0:Int))]⟩),(.int .i64 (0:Int))]⟩),(.cells false gl))):=by kernel_rfl
theorem t_mkLow (im : Int) : Y.callK Tryd.prog kp 1 20 52 [.agg ⟨[.int .i64 1,.int .i64 11,.int .i64 0,.bool false,.bool false]⟩,.agg ⟨[.int .u8 0,.int .u8 0,.int .u8 0,.int .i16 0,.int .i32 im]⟩] (mG gl) (fun v m=>some (v,m.get 0)) =
  (some ((.tuple ⟨[(.agg ⟨[(.int .u8 (180 : Int)),(.int .u8 (0:Int)),(.int .u8 (0:Int)),(.int Go.IntKind.i16 (0:Int)),(.int Go.IntKind.i32 im)]⟩),(.int .i64 (0:Int))]⟩),(.cells false gl))):=by kernel_rfl
theorem t_mkExit  : Y.callK Tryd.prog kp 1 20 52 [.agg ⟨[.int .i64 9,.int .i64 0,.int .i64 0,.bool false,.bool false]⟩,.agg ⟨[.int .u8 0,.int .u8 0,.int .u8 0,.int .i16 0,.int .i32 0]⟩] (mG gl) (fun v m=>some (v,m.get 0)) =
  (some ((.tuple ⟨[(.agg ⟨[(.int .u8 (149 : Int)),(.int .u8 (0:Int)),(.int .u8 (0:Int)),(.int Go.IntKind.i16 (0:Int)),(.int Go.IntKind.i32 (0:Int))]⟩),(.int .i64 (0:Int))]⟩),(.cells false gl))):=by kernel_rfl
theorem t_mkConst (im : Int) : Y.callK Tryd.prog kp 1 20 52 [.agg ⟨[.int .i64 10,.int .i64 0,.int .i64 0,.bool false,.bool false]⟩,.agg ⟨[.int .u8 0,.int .u8 3,.int .u8 0,.int .i16 0,.int .i32 im]⟩] (mG gl) (fun v m=>some (v,m.get 0)) =
  (some ((.tuple ⟨[(.agg ⟨[(.int .u8 (24 : Int)),(.int .u8 (3 : Int)),(.int .u8 (0:Int)),(.int Go.IntKind.i16 (0:Int)),(.int Go.IntKind.i32 im)]⟩),(.int .i64 (0:Int))]⟩),(.cells false gl))):=by kernel_rfl
theorem t_mkLd4a (of : Int) : Y.callK Tryd.prog kp 1 20 52 [.agg ⟨[.int .i64 3,.int .i64 0,.int .i64 4,.bool false,.bool false]⟩,.agg ⟨[.int .u8 0,.int .u8 8,.int .u8 6,.int .i16 of,.int .i32 0]⟩] (mG gl) (fun v m=>some (v,m.get 0)) =
  (some ((.tuple ⟨[(.agg ⟨[(.int .u8 (97 : Int)),(.int .u8 (8 : Int)),(.int .u8 (6 : Int)),(.int Go.IntKind.i16 of),(.int Go.IntKind.i32 (0:Int))]⟩),(.int .i64 (0:Int))]⟩),(.cells false gl))):=by kernel_rfl
theorem t_mkLd4b (of : Int) : Y.callK Tryd.prog kp 1 20 52 [.agg ⟨[.int .i64 3,.int .i64 0,.int .i64 4,.bool false,.bool false]⟩,.agg ⟨[.int .u8 0,.int .u8 2,.int .u8 6,.int .i16 of,.int .i32 0]⟩] (mG gl) (fun v m=>some (v,m.get 0)) =
  (some ((.tuple ⟨[(.agg ⟨[(.int .u8 (97 : Int)),(.int .u8 (2 : Int)),(.int .u8 (6 : Int)),(.int Go.IntKind.i16 of),(.int Go.IntKind.i32 (0:Int))]⟩),(.int .i64 (0:Int))]⟩),(.cells false gl))):=by kernel_rfl
theorem t_mkLd8 (of : Int) : Y.callK Tryd.prog kp 1 20 52 [.agg ⟨[.int .i64 3,.int .i64 0,.int .i64 8,.bool false,.bool false]⟩,.agg ⟨[.int .u8 0,.int .u8 7,.int .u8 1,.int .i16 of,.int .i32 0]⟩] (mG gl) (fun v m=>some (v,m.get 0)) =
  (some ((.tuple ⟨[(.agg ⟨[(.int .u8 (121 : Int)),(.int .u8 (7 : Int)),(.int .u8 (1:Int)),(.int Go.IntKind.i16 of),(.int Go.IntKind.i32 (0:Int))]⟩),(.int .i64 (0:Int))]⟩),(.cells false gl))):=by kernel_rfl
theorem t_mkLd7_1 (of : Int) : Y.callK Tryd.prog kp 1 20 52 [.agg ⟨[.int .i64 3,.int .i64 0,.int .i64 1,.bool false,.bool false]⟩,.agg ⟨[.int .u8 0,.int .u8 2,.int .u8 7,.int .i16 of,.int .i32 0]⟩] (mG gl) (fun v m=>some (v,m.get 0)) =
  (some ((.tuple ⟨[(.agg ⟨[(.int .u8 (113 : Int)),(.int .u8 (2 : Int)),(.int .u8 (7 : Int)),(.int Go.IntKind.i16 of),(.int Go.IntKind.i32 (0:Int))]⟩),(.int .i64 (0:Int))]⟩),(.cells false gl))):=by kernel_rfl
theorem t_mkLd7_2 (of : Int) : Y.callK Tryd.prog kp 1 20 52 [.agg ⟨[.int .i64 3,.int .i64 0,.int .i64 2,.bool false,.bool false]⟩,.agg ⟨[.int .u8 0,.int .u8 2,.int .u8 7,.int .i16 of,.int .i32 0]⟩] (mG gl) (fun v m=>some (v,m.get 0)) =
  (some ((.tuple ⟨[(.agg ⟨[(.int .u8 (105 : Int)),(.int .u8 (2 : Int)),(.int .u8 (7 : Int)),(.int Go.IntKind.i16 of),(.int Go.IntKind.i32 (0:Int))]⟩),(.int .i64 (0:Int))]⟩),(.cells false gl))):=by kernel_rfl
theorem t_mkLd7_4 (of : Int) : Y.callK Tryd.prog kp 1 20 52 [.agg ⟨[.int .i64 3,.int .i64 0,.int .i64 4,.bool false,.bool false]⟩,.agg ⟨[.int .u8 0,.int .u8 2,.int .u8 7,.int .i16 of,.int .i32 0]⟩] (mG gl) (fun v m=>some (v,m.get 0)) =
  (some ((.tuple ⟨[(.agg ⟨[(.int .u8 (97 : Int)),(.int .u8 (2 : Int)),(.int .u8 (7 : Int)),(.int Go.IntKind.i16 of),(.int Go.IntKind.i32 (0:Int))]⟩),(.int .i64 (0:Int))]⟩),(.cells false gl))):=by kernel_rfl
theorem t_mkLd7_8 (of : Int) : Y.callK Tryd.prog kp 1 20 52 [.agg ⟨[.int .i64 3,.int .i64 0,.int .i64 8,.bool false,.bool false]⟩,.agg ⟨[.int .u8 0,.int .u8 2,.int .u8 7,.int .i16 of,.int .i32 0]⟩] (mG gl) (fun v m=>some (v,m.get 0)) =
  (some ((.tuple ⟨[(.agg ⟨[(.int .u8 (121 : Int)),(.int .u8 (2 : Int)),(.int .u8 (7 : Int)),(.int Go.IntKind.i16 of),(.int Go.IntKind.i32 (0:Int))]⟩),(.int .i64 (0:Int))]⟩),(.cells false gl))):=by kernel_rfl
theorem t_mkIf3 (im : Int) : Y.callK Tryd.prog kp 1 20 52 [.agg ⟨[.int .i64 6,.int .i64 3,.int .i64 0,.bool true,.bool false]⟩,.agg ⟨[.int .u8 0,.int .u8 8,.int .u8 0,.int .i16 0,.int .i32 im]⟩] (mG gl) (fun v m=>some (v,m.get 0)) =
  (some ((.tuple ⟨[(.agg ⟨[(.int .u8 (53 : Int)),(.int .u8 (8 : Int)),(.int .u8 (0:Int)),(.int Go.IntKind.i16 (0:Int)),(.int Go.IntKind.i32 im)]⟩),(.int .i64 (0:Int))]⟩),(.cells false gl))):=by kernel_rfl
theorem t_mkIf5 (im : Int) : Y.callK Tryd.prog kp 1 20 52 [.agg ⟨[.int .i64 6,.int .i64 5,.int .i64 0,.bool true,.bool false]⟩,.agg ⟨[.int .u8 0,.int .u8 2,.int .u8 0,.int .i16 0,.int .i32 im]⟩] (mG gl) (fun v m=>some (v,m.get 0)) =
  (some ((.tuple ⟨[(.agg ⟨[(.int .u8 (85 : Int)),(.int .u8 (2 : Int)),(.int .u8 (0:Int)),(.int Go.IntKind.i16 (0:Int)),(.int Go.IntKind.i32 im)]⟩),(.int .i64 (0:Int))]⟩),(.cells false gl))):=by kernel_rfl
theorem t_mkIf10 (im : Int) : Y.callK Tryd.prog kp 1 20 52 [.agg ⟨[.int .i64 6,.int .i64 10,.int .i64 0,.bool true,.bool false]⟩,.agg ⟨[.int .u8 0,.int .u8 2,.int .u8 0,.int .i16 0,.int .i32 im]⟩] (mG gl) (fun v m=>some (v,m.get 0)) =
  (some ((.tuple ⟨[(.agg ⟨[(.int .u8 (165 : Int)),(.int .u8 (2 : Int)),(.int .u8 (0:Int)),(.int Go.IntKind.i16 (0:Int)),(.int Go.IntKind.i32 im)]⟩),(.int .i64 (0:Int))]⟩),(.cells false gl))):=by kernel_rfl
theorem t_mkIf2 (im : Int) : Y.callK Tryd.prog kp 1 20 52 [.agg ⟨[.int .i64 6,.int .i64 2,.int .i64 0,.bool true,.bool false]⟩,.agg ⟨[.int .u8 0,.int .u8 2,.int .u8 0,.int .i16 0,.int .i32 im]⟩] (mG gl) (fun v m=>some (v,m.get 0)) =
  (some ((.tuple ⟨[(.agg ⟨[(.int .u8 (37 : Int)),(.int .u8 (2 : Int)),(.int .u8 (0:Int)),(.int Go.IntKind.i16 (0:Int)),(.int Go.IntKind.i32 im)]⟩),(.int .i64 (0:Int))]⟩),(.cells false gl))):=by kernel_rfl
theorem t_mkIfR10  : Y.callK Tryd.prog kp 1 20 52 [.agg ⟨[.int .i64 6,.int .i64 10,.int .i64 0,.bool true,.bool true]⟩,.agg ⟨[.int .u8 0,.int .u8 2,.int .u8 3,.int .i16 0,.int .i32 0]⟩] (mG gl) (fun v m=>some (v,m.get 0)) =
  (some ((.tuple ⟨[(.agg ⟨[(.int .u8 (173 : Int)),(.int .u8 (2 : Int)),(.int .u8 (3 : Int)),(.int Go.IntKind.i16 (0:Int)),(.int Go.IntKind.i32 (0:Int))]⟩),(.int .i64 (0:Int))]⟩),(.cells false gl))):=by kernel_rfl
theorem t_mkIfR2  : Y.callK Tryd.prog kp 1 20 52 [.agg ⟨[.int .i64 6,.int .i64 2,.int .i64 0,.bool true,.bool true]⟩,.agg ⟨[.int .u8 0,.int .u8 2,.int .u8 3,.int .i16 0,.int .i32 0]⟩] (mG gl) (fun v m=>some (v,m.get 0)) =
  (some ((.tuple ⟨[(.agg ⟨[(.int .u8 (45 : Int)),(.int .u8 (2 : Int)),(.int .u8 (3 : Int)),(.int Go.IntKind.i16 (0:Int)),(.int Go.IntKind.i32 (0:Int))]⟩),(.int .i64 (0:Int))]⟩),(.cells false gl))):=by kernel_rfl
theorem t_mkGoto  : Y.callK Tryd.prog kp 1 20 52 [.agg ⟨[.int .i64 7,.int .i64 0,.int .i64 0,.bool false,.bool false]⟩,.agg ⟨[.int .u8 0,.int .u8 0,.int .u8 0,.int .i16 0,.int .i32 0]⟩] (mG gl) (fun v m=>some (v,m.get 0)) =
  (some ((.tuple ⟨[(.agg ⟨[(.int .u8 (5 : Int)),(.int .u8 (0:Int)),(.int .u8 (0:Int)),(.int Go.IntKind.i16 (0:Int)),(.int Go.IntKind.i32 (0:Int))]⟩),(.int .i64 (0:Int))]⟩),(.cells false gl))):=by kernel_rfl
theorem t_mkSw2  : Y.callK Tryd.prog kp 1 20 52 [.agg ⟨[.int .i64 2,.int .i64 0,.int .i64 2,.bool false,.bool false]⟩,.agg ⟨[.int .u8 0,.int .u8 2,.int .u8 0,.int .i16 0,.int .i32 0]⟩] (mG gl) (fun v m=>some (v,m.get 0)) =
  (some ((.tuple ⟨[(.agg ⟨[(.int .u8 (215 : Int)),(.int .u8 (2 : Int)),(.int .u8 (0:Int)),(.int Go.IntKind.i16 (0:Int)),(.int Go.IntKind.i32 (16 : Int))]⟩),(.int .i64 (0:Int))]⟩),(.cells false gl))):=by kernel_rfl
theorem t_mkSw4  : Y.callK Tryd.prog kp 1 20 52 [.agg ⟨[.int .i64 2,.int .i64 0,.int .i64 4,.bool false,.bool false]⟩,.agg ⟨[.int .u8 0,.int .u8 2,.int .u8 0,.int .i16 0,.int .i32 0]⟩] (mG gl) (fun v m=>some (v,m.get 0)) =
  (some ((.tuple ⟨[(.agg ⟨[(.int .u8 (215 : Int)),(.int .u8 (2 : Int)),(.int .u8 (0:Int)),(.int Go.IntKind.i16 (0:Int)),(.int Go.IntKind.i32 (32 : Int))]⟩),(.int .i64 (0:Int))]⟩),(.cells false gl))):=by kernel_rfl
theorem t_mkSw8  : Y.callK Tryd.prog kp 1 20 52 [.agg ⟨[.int .i64 2,.int .i64 0,.int .i64 8,.bool false,.bool false]⟩,.agg ⟨[.int .u8 0,.int .u8 2,.int .u8 0,.int .i16 0,.int .i32 0]⟩] (mG gl) (fun v m=>some (v,m.get 0)) =
  (some ((.tuple ⟨[(.agg ⟨[(.int .u8 (215 : Int)),(.int .u8 (2 : Int)),(.int .u8 (0:Int)),(.int Go.IntKind.i16 (0:Int)),(.int Go.IntKind.i32 (64 : Int))]⟩),(.int .i64 (0:Int))]⟩),(.cells false gl))):=by kernel_rfl
end
end Go.Proofs.YtadioopbehiakaaDoor
