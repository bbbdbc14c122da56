/-
  CTree3: runs of Make of the reference (printed by gt.py).
-/
import Derived.Test.YtadioopbehiakaaDoorF27
set_option linter.all false
set_option linter.unusedVariables false
set_option linter.unusedSimpArgs false
namespace Go.Proofs.YtadioopbehiakaaDoor
open Go Go.DI Go.DI.Kit Go.Proofs Go.Cmp
noncomputable section
set_option maxHeartbeats 4000000
variable {α : Type}
theorem t_rkNum11 (im : Int) : callKo isR ocR Tryd.prog kp 1 200 53 [.agg ⟨[.int .i64 1,.int .i64 11,.int .i64 0,.bool true,.bool false]⟩,.agg ⟨[.int .u8 0,.int .u8 2,.int .u8 0,.int .i16 0,.int .i32 im]⟩] (mG gl) (fun v m=>some (v,m.get 0)) =
  (some ((.tuple ⟨[(.agg ⟨[(.int .u8 (183 : Int)),(.int .u8 (2 : Int)),(.int .u8 (0:Int)),(.int Go.IntKind.i16 (0:Int)),(.int Go.IntKind.i32 im)]⟩),(.int .i64 (0:Int))]⟩),(.cells false gl))):=by kernel_rfl
theorem t_rkNum11_3 (im : Int) : callKo isR ocR Tryd.prog kp 1 200 53 [.agg ⟨[.int .i64 1,.int .i64 11,.int .i64 0,.bool true,.bool false]⟩,.agg ⟨[.int .u8 0,.int .u8 3,.int .u8 0,.int .i16 0,.int .i32 im]⟩] (mG gl) (fun v m=>some (v,m.get 0)) =
  (some ((.tuple ⟨[(.agg ⟨[(.int .u8 (183 : Int)),(.int .u8 (3 : Int)),(.int .u8 (0:Int)),(.int Go.IntKind.i16 (0:Int)),(.int Go.IntKind.i32 im)]⟩),(.int .i64 (0:Int))]⟩),(.cells false gl))):=by kernel_rfl
theorem t_rkNum5 (im : Int) : callKo isR ocR Tryd.prog kp 1 200 53 [.agg ⟨[.int .i64 1,.int .i64 5,.int .i64 0,.bool true,.bool false]⟩,.agg ⟨[.int .u8 0,.int .u8 2,.int .u8 0,.int .i16 0,.int .i32 im]⟩] (mG gl) (fun v m=>some (v,m.get 0)) =
  (some ((.tuple ⟨[(.agg ⟨[(.int .u8 (87 : Int)),(.int .u8 (2 : Int)),(.int .u8 (0:Int)),(.int Go.IntKind.i16 (0:Int)),(.int Go.IntKind.i32 im)]⟩),(.int .i64 (0:Int))]⟩),(.cells false gl))):=by kernel_rfl
theorem t_rkRegs11a  : callKo isR ocR Tryd.prog kp 1 200 53 [.agg ⟨[.int .i64 1,.int .i64 11,.int .i64 0,.bool true,.bool true]⟩,.agg ⟨[.int .u8 0,.int .u8 6,.int .u8 1,.int .i16 0,.int .i32 0]⟩] (mG gl) (fun v m=>some (v,m.get 0)) =
  (some ((.tuple ⟨[(.agg ⟨[(.int .u8 (191 : Int)),(.int .u8 (6 : Int)),(.int .u8 (1:Int)),(.int Go.IntKind.i16 (0:Int)),(.int Go.IntKind.i32 (0:Int))]⟩),(.int .i64 (0:Int))]⟩),(.cells false gl))):=by kernel_rfl
theorem t_rkRegs11b  : callKo isR ocR Tryd.prog kp 1 200 53 [.agg ⟨[.int .i64 1,.int .i64 11,.int .i64 0,.bool true,.bool true]⟩,.agg ⟨[.int .u8 0,.int .u8 2,.int .u8 8,.int .i16 0,.int .i32 0]⟩] (mG gl) (fun v m=>some (v,m.get 0)) =
  (some ((.tuple ⟨[(.agg ⟨[(.int .u8 (191 : Int)),(.int .u8 (2 : Int)),(.int .u8 (8 : Int)),(.int Go.IntKind.i16 (0:Int)),(.int Go.IntKind.i32 (0:Int))]⟩),(.int .i64 (0:Int))]⟩),(.cells false gl))):=by kernel_rfl
theorem t_rkRegs5  : callKo isR ocR Tryd.prog kp 1 200 53 [.agg ⟨[.int .i64 1,.int .i64 5,.int .i64 0,.bool true,.bool true]⟩,.agg ⟨[.int .u8 0,.int .u8 2,.int .u8 3,.int .i16 0,.int .i32 0]⟩] (mG gl) (fun v m=>some (v,m.get 0)) =
  (some ((.tuple ⟨[(.agg ⟨[(.int .u8 (95 : Int)),(.int .u8 (2 : Int)),(.int .u8 (3 : Int)),(.int Go.IntKind.i16 (0:Int)),(.int Go.IntKind.i32 (0:Int))]⟩),(.int .i64 (0:Int))]⟩),(.cells false gl))):=by kernel_rfl
theorem t_rkLow (im : Int) : callKo isR ocR Tryd.prog kp 1 200 53 [.agg ⟨[.int .i64 1,.int .i64 11,.int .i64 0,.bool false,.bool false]⟩,.agg ⟨[.int .u8 0,.int .u8 0,.int .u8 0,.int .i16 0,.int .i32 im]⟩] (mG gl) (fun v m=>some (v,m.get 0)) =
  (some ((.tuple ⟨[(.agg ⟨[(.int .u8 (180 : Int)),(.int .u8 (0:Int)),(.int .u8 (0:Int)),(.int Go.IntKind.i16 (0:Int)),(.int Go.IntKind.i32 im)]⟩),(.int .i64 (0:Int))]⟩),(.cells false gl))):=by kernel_rfl
theorem t_rkExit  : callKo isR ocR Tryd.prog kp 1 200 53 [.agg ⟨[.int .i64 9,.int .i64 0,.int .i64 0,.bool false,.bool false]⟩,.agg ⟨[.int .u8 0,.int .u8 0,.int .u8 0,.int .i16 0,.int .i32 0]⟩] (mG gl) (fun v m=>some (v,m.get 0)) =
  (some ((.tuple ⟨[(.agg ⟨[(.int .u8 (149 : Int)),(.int .u8 (0:Int)),(.int .u8 (0:Int)),(.int Go.IntKind.i16 (0:Int)),(.int Go.IntKind.i32 (0:Int))]⟩),(.int .i64 (0:Int))]⟩),(.cells false gl))):=by kernel_rfl
theorem t_rkConst (im : Int) : callKo isR ocR Tryd.prog kp 1 200 53 [.agg ⟨[.int .i64 10,.int .i64 0,.int .i64 0,.bool false,.bool false]⟩,.agg ⟨[.int .u8 0,.int .u8 3,.int .u8 0,.int .i16 0,.int .i32 im]⟩] (mG gl) (fun v m=>some (v,m.get 0)) =
  (some ((.tuple ⟨[(.agg ⟨[(.int .u8 (24 : Int)),(.int .u8 (3 : Int)),(.int .u8 (0:Int)),(.int Go.IntKind.i16 (0:Int)),(.int Go.IntKind.i32 im)]⟩),(.int .i64 (0:Int))]⟩),(.cells false gl))):=by kernel_rfl
theorem t_rkLd4a (of : Int) : callKo isR ocR Tryd.prog kp 1 200 53 [.agg ⟨[.int .i64 3,.int .i64 0,.int .i64 4,.bool false,.bool false]⟩,.agg ⟨[.int .u8 0,.int .u8 8,.int .u8 6,.int .i16 of,.int .i32 0]⟩] (mG gl) (fun v m=>some (v,m.get 0)) =
  (some ((.tuple ⟨[(.agg ⟨[(.int .u8 (97 : Int)),(.int .u8 (8 : Int)),(.int .u8 (6 : Int)),(.int Go.IntKind.i16 of),(.int Go.IntKind.i32 (0:Int))]⟩),(.int .i64 (0:Int))]⟩),(.cells false gl))):=by kernel_rfl
theorem t_rkLd4b (of : Int) : callKo isR ocR Tryd.prog kp 1 200 53 [.agg ⟨[.int .i64 3,.int .i64 0,.int .i64 4,.bool false,.bool false]⟩,.agg ⟨[.int .u8 0,.int .u8 2,.int .u8 6,.int .i16 of,.int .i32 0]⟩] (mG gl) (fun v m=>some (v,m.get 0)) =
  (some ((.tuple ⟨[(.agg ⟨[(.int .u8 (97 : Int)),(.int .u8 (2 : Int)),(.int .u8 (6 : Int)),(.int Go.IntKind.i16 of),(.int Go.IntKind.i32 (0:Int))]⟩),(.int .i64 (0:Int))]⟩),(.cells false gl))):=by kernel_rfl
theorem t_rkLd8 (of : Int) : callKo isR ocR Tryd.prog kp 1 200 53 [.agg ⟨[.int .i64 3,.int .i64 0,.int .i64 8,.bool false,.bool false]⟩,.agg ⟨[.int .u8 0,.int .u8 7,.int .u8 1,.int .i16 of,.int .i32 0]⟩] (mG gl) (fun v m=>some (v,m.get 0)) =
  (some ((.tuple ⟨[(.agg ⟨[(.int .u8 (121 : Int)),(.int .u8 (7 : Int)),(.int .u8 (1:Int)),(.int Go.IntKind.i16 of),(.int Go.IntKind.i32 (0:Int))]⟩),(.int .i64 (0:Int))]⟩),(.cells false gl))):=by kernel_rfl
theorem t_rkLd7_1 (of : Int) : callKo isR ocR Tryd.prog kp 1 200 53 [.agg ⟨[.int .i64 3,.int .i64 0,.int .i64 1,.bool false,.bool false]⟩,.agg ⟨[.int .u8 0,.int .u8 2,.int .u8 7,.int .i16 of,.int .i32 0]⟩] (mG gl) (fun v m=>some (v,m.get 0)) =
  (some ((.tuple ⟨[(.agg ⟨[(.int .u8 (113 : Int)),(.int .u8 (2 : Int)),(.int .u8 (7 : Int)),(.int Go.IntKind.i16 of),(.int Go.IntKind.i32 (0:Int))]⟩),(.int .i64 (0:Int))]⟩),(.cells false gl))):=by kernel_rfl
theorem t_rkLd7_2 (of : Int) : callKo isR ocR Tryd.prog kp 1 200 53 [.agg ⟨[.int .i64 3,.int .i64 0,.int .i64 2,.bool false,.bool false]⟩,.agg ⟨[.int .u8 0,.int .u8 2,.int .u8 7,.int .i16 of,.int .i32 0]⟩] (mG gl) (fun v m=>some (v,m.get 0)) =
  (some ((.tuple ⟨[(.agg ⟨[(.int .u8 (105 : Int)),(.int .u8 (2 : Int)),(.int .u8 (7 : Int)),(.int Go.IntKind.i16 of),(.int Go.IntKind.i32 (0:Int))]⟩),(.int .i64 (0:Int))]⟩),(.cells false gl))):=by kernel_rfl
theorem t_rkLd7_4 (of : Int) : callKo isR ocR Tryd.prog kp 1 200 53 [.agg ⟨[.int .i64 3,.int .i64 0,.int .i64 4,.bool false,.bool false]⟩,.agg ⟨[.int .u8 0,.int .u8 2,.int .u8 7,.int .i16 of,.int .i32 0]⟩] (mG gl) (fun v m=>some (v,m.get 0)) =
  (some ((.tuple ⟨[(.agg ⟨[(.int .u8 (97 : Int)),(.int .u8 (2 : Int)),(.int .u8 (7 : Int)),(.int Go.IntKind.i16 of),(.int Go.IntKind.i32 (0:Int))]⟩),(.int .i64 (0:Int))]⟩),(.cells false gl))):=by kernel_rfl
theorem t_rkLd7_8 (of : Int) : callKo isR ocR Tryd.prog kp 1 200 53 [.agg ⟨[.int .i64 3,.int .i64 0,.int .i64 8,.bool false,.bool false]⟩,.agg ⟨[.int .u8 0,.int .u8 2,.int .u8 7,.int .i16 of,.int .i32 0]⟩] (mG gl) (fun v m=>some (v,m.get 0)) =
  (some ((.tuple ⟨[(.agg ⟨[(.int .u8 (121 : Int)),(.int .u8 (2 : Int)),(.int .u8 (7 : Int)),(.int Go.IntKind.i16 of),(.int Go.IntKind.i32 (0:Int))]⟩),(.int .i64 (0:Int))]⟩),(.cells false gl))):=by kernel_rfl
theorem t_rkIf3 (im : Int) : callKo isR ocR Tryd.prog kp 1 200 53 [.agg ⟨[.int .i64 6,.int .i64 3,.int .i64 0,.bool true,.bool false]⟩,.agg ⟨[.int .u8 0,.int .u8 8,.int .u8 0,.int .i16 0,.int .i32 im]⟩] (mG gl) (fun v m=>some (v,m.get 0)) =
  (some ((.tuple ⟨[(.agg ⟨[(.int .u8 (53 : Int)),(.int .u8 (8 : Int)),(.int .u8 (0:Int)),(.int Go.IntKind.i16 (0:Int)),(.int Go.IntKind.i32 im)]⟩),(.int .i64 (0:Int))]⟩),(.cells false gl))):=by kernel_rfl
theorem t_rkIf5 (im : Int) : callKo isR ocR Tryd.prog kp 1 200 53 [.agg ⟨[.int .i64 6,.int .i64 5,.int .i64 0,.bool true,.bool false]⟩,.agg ⟨[.int .u8 0,.int .u8 2,.int .u8 0,.int .i16 0,.int .i32 im]⟩] (mG gl) (fun v m=>some (v,m.get 0)) =
  (some ((.tuple ⟨[(.agg ⟨[(.int .u8 (85 : Int)),(.int .u8 (2 : Int)),(.int .u8 (0:Int)),(.int Go.IntKind.i16 (0:Int)),(.int Go.IntKind.i32 im)]⟩),(.int .i64 (0:Int))]⟩),(.cells false gl))):=by kernel_rfl
theorem t_rkIf10 (im : Int) : callKo isR ocR Tryd.prog kp 1 200 53 [.agg ⟨[.int .i64 6,.int .i64 10,.int .i64 0,.bool true,.bool false]⟩,.agg ⟨[.int .u8 0,.int .u8 2,.int .u8 0,.int .i16 0,.int .i32 im]⟩] (mG gl) (fun v m=>some (v,m.get 0)) =
  (some ((.tuple ⟨[(.agg ⟨[(.int .u8 (165 : Int)),(.int .u8 (2 : Int)),(.int .u8 (0:Int)),(.int Go.IntKind.i16 (0:Int)),(.int Go.IntKind.i32 im)]⟩),(.int .i64 (0:Int))]⟩),(.cells false gl))):=by kernel_rfl
theorem t_rkIf2 (im : Int) : callKo isR ocR Tryd.prog kp 1 200 53 [.agg ⟨[.int .i64 6,.int .i64 2,.int .i64 0,.bool true,.bool false]⟩,.agg ⟨[.int .u8 0,.int .u8 2,.int .u8 0,.int .i16 0,.int .i32 im]⟩] (mG gl) (fun v m=>some (v,m.get 0)) =
  (some ((.tuple ⟨[(.agg ⟨[(.int .u8 (37 : Int)),(.int .u8 (2 : Int)),(.int .u8 (0:Int)),(.int Go.IntKind.i16 (0:Int)),(.int Go.IntKind.i32 im)]⟩),(.int .i64 (0:Int))]⟩),(.cells false gl))):=by kernel_rfl
theorem t_rkIfR10  : callKo isR ocR Tryd.prog kp 1 200 53 [.agg ⟨[.int .i64 6,.int .i64 10,.int .i64 0,.bool true,.bool true]⟩,.agg ⟨[.int .u8 0,.int .u8 2,.int .u8 3,.int .i16 0,.int .i32 0]⟩] (mG gl) (fun v m=>some (v,m.get 0)) =
  (some ((.tuple ⟨[(.agg ⟨[(.int .u8 (173 : Int)),(.int .u8 (2 : Int)),(.int .u8 (3 : Int)),(.int Go.IntKind.i16 (0:Int)),(.int Go.IntKind.i32 (0:Int))]⟩),(.int .i64 (0:Int))]⟩),(.cells false gl))):=by kernel_rfl
theorem t_rkIfR2  : callKo isR ocR Tryd.prog kp 1 200 53 [.agg ⟨[.int .i64 6,.int .i64 2,.int .i64 0,.bool true,.bool true]⟩,.agg ⟨[.int .u8 0,.int .u8 2,.int .u8 3,.int .i16 0,.int .i32 0]⟩] (mG gl) (fun v m=>some (v,m.get 0)) =
  (some ((.tuple ⟨[(.agg ⟨[(.int .u8 (45 : Int)),(.int .u8 (2 : Int)),(.int .u8 (3 : Int)),(.int Go.IntKind.i16 (0:Int)),(.int Go.IntKind.i32 (0:Int))]⟩),(.int .i64 (0:Int))]⟩),(.cells false gl))):=by kernel_rfl
theorem t_rkGoto  : callKo isR ocR Tryd.prog kp 1 200 53 [.agg ⟨[.int .i64 7,.int .i64 0,.int .i64 0,.bool false,.bool false]⟩,.agg ⟨[.int .u8 0,.int .u8 0,.int .u8 0,.int .i16 0,.int .i32 0]⟩] (mG gl) (fun v m=>some (v,m.get 0)) =
  (some ((.tuple ⟨[(.agg ⟨[(.int .u8 (5 : Int)),(.int .u8 (0:Int)),(.int .u8 (0:Int)),(.int Go.IntKind.i16 (0:Int)),(.int Go.IntKind.i32 (0:Int))]⟩),(.int .i64 (0:Int))]⟩),(.cells false gl))):=by kernel_rfl
theorem t_rkSw2  : callKo isR ocR Tryd.prog kp 1 200 53 [.agg ⟨[.int .i64 2,.int .i64 0,.int .i64 2,.bool false,.bool false]⟩,.agg ⟨[.int .u8 0,.int .u8 2,.int .u8 0,.int .i16 0,.int .i32 0]⟩] (mG gl) (fun v m=>some (v,m.get 0)) =
  (some ((.tuple ⟨[(.agg ⟨[(.int .u8 (215 : Int)),(.int .u8 (2 : Int)),(.int .u8 (0:Int)),(.int Go.IntKind.i16 (0:Int)),(.int Go.IntKind.i32 (16 : Int))]⟩),(.int .i64 (0:Int))]⟩),(.cells false gl))):=by kernel_rfl
theorem t_rkSw4  : callKo isR ocR Tryd.prog kp 1 200 53 [.agg ⟨[.int .i64 2,.int .i64 0,.int .i64 4,.bool false,.bool false]⟩,.agg ⟨[.int .u8 0,.int .u8 2,.int .u8 0,.int .i16 0,.int .i32 0]⟩] (mG gl) (fun v m=>some (v,m.get 0)) =
  (some ((.tuple ⟨[(.agg ⟨[(.int .u8 (215 : Int)),(.int .u8 (2 : Int)),(.int .u8 (0:Int)),(.int Go.IntKind.i16 (0:Int)),(.int Go.IntKind.i32 (32 : Int))]⟩),(.int .i64 (0:Int))]⟩),(.cells false gl))):=by kernel_rfl
theorem t_rkSw8  : callKo isR ocR Tryd.prog kp 1 200 53 [.agg ⟨[.int .i64 2,.int .i64 0,.int .i64 8,.bool false,.bool false]⟩,.agg ⟨[.int .u8 0,.int .u8 2,.int .u8 0,.int .i16 0,.int .i32 0]⟩] (mG gl) (fun v m=>some (v,m.get 0)) =
  (some ((.tuple ⟨[(.agg ⟨[(.int .u8 (215 : Int)),(.int .u8 (2 : Int)),(.int .u8 (0:Int)),(.int Go.IntKind.i16 (0:Int)),(.int Go.IntKind.i32 (64 : Int))]⟩),(.int .i64 (0:Int))]⟩),(.cells false gl))):=by kernel_rfl
end
end Go.Proofs.YtadioopbehiakaaDoor
