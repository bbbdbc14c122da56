/-
  CAwake: 'awake' answers true.
-/
import Derived.Test.YtadioopbehiakaaDoorF10
set_option linter.all false
set_option linter.unusedVariables false
set_option linter.unusedSimpArgs false
namespace Go.Proofs.YtadioopbehiakaaDoor
open Go Go.DI Go.DI.Kit Go.Proofs Go.Cmp
noncomputable section
theorem awake_true : Y.callK Tryd.prog kp 1 200 5 [] (mG gl) (fun v m => some (v, m.get 0)) = some (.bool true, .cells false gl) := by kernel_rfl
end
end Go.Proofs.YtadioopbehiakaaDoor
