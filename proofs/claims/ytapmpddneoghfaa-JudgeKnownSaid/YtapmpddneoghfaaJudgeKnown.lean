/-
  JudgeKnown answers true. Conditions: none. The kernel works the call out by a deterministic interpreter over the model's own code (the Di texts), which is proved sound for every run of the model.
-/
import Derived.Test.YtapmpddneoghfaaRows
import Derived.Test.YtapmpddneoghfaaChecked
import Derived.Test.YtapmpddneoghfaaDiClosed
import Derived.WalkKit
import Derived.ProofKit
import Derived.OpenShut
import Derived.ShutString
namespace Go.Proofs.Ytapmpddneoghfaa.judgeKnown
open Go.ChangeShapes Go.WideShapes Go.ChangeAt Go.RowKit Go.DI

theorem own : ownKnob Try.prog.godebug = none := by kernel_rfl

def kp : TypeId → Bool := among [30, 31, 33, 34, 36, 37, 66, 67, 69, 71, 72, 73]
theorem plain : Plain Try.prog kp := plain_among (by kernel_rfl)
theorem noNG : NoNG Try.prog := noNG_of (by kernel_rfl)
theorem mixed : Try.prog.follows .mixedOrders = true := by kernel_rfl
theorem run : isT (callF Try.prog kp 0 200 6 [] m0) = true := by kernel_rfl

theorem walk (w : World) : Calls Try.prog 6 #[] w fun e w' => e = .returned (.bool true) ∧ Below w.heap.size w w' :=
  calls_true mixed plain noNG run w

set_option maxRecDepth 100000 in
theorem lifted (os : Os) (started : os.Started) (H : Type) (enc : TypeId × Value → H) :
    ReturnsInHanded {} Try.checked os 6 .any (Rows.judgeKnownSpec.pre6 enc Try.prog Try.f6 Rows.judgeKnownRow.domain false) (Rows.judgeKnownSpec.post enc Try.prog Try.f6 false true false false) := by
  refine returnsInHanded_of_change (C := Try.checked) own started (by kernel_rfl) Try.func6
    (ChangeSpec.witness6 (enc := enc) (C := Try.checked) false ⟨#[], #[], []⟩ 8 (by kernel_rfl) (by kernel_rfl) (by kernel_rfl) (by kernel_rfl)) ?_
  intro W base args ds gs before hval0 hW hcnd _
  have hW' := hW
  obtain ⟨p, q, hA0, hV, rfl, hfz, hnd⟩ := hW
  have hA : DataW.TrodAll enc Try.prog W 0 (fun _ => true) true Try.f6.params.toList args.toList ds p := hA0
  rw [Try.params6] at hA
  obtain ⟨rfl, rfl, rfl⟩ := trodAll_none hA
  obtain ⟨rfl, rfl⟩ := trodVars_none hV
  clear hA0 hval0
  simp only [List.append_nil] at hW'
  refine (walk W).mono fun e W' ⟨he, hg⟩ => ?_
  subst he
  exact ⟨_, rfl, post_below (pa := []) (pv := []) hW' (fun _ _ _ => (trodAll_cons_mk (shut_bool Try.underlying4 _) trodAll_mk0)) (fun sp _ => rfl) (fun _ _ => rfl) rfl
    hg (ok_one (by kernel_rfl) rfl (okWide_bool_mk Try.underlying4 _))⟩

theorem over : Rows.judgeKnownRow.holds Try.pinned (OpenSpec.ofChange Rows.judgeKnownSpec) :=
  OpenClaim.holds_of_wide 6 Try.f6 rfl rfl rfl rfl rfl rfl rfl ⟨rfl, rfl, rfl, rfl, rfl⟩ rfl rfl rfl rfl rfl (by kernel_rfl) Try.func6 (by kernel_rfl)
    (of_decide_eq_true (by kernel_rfl)) (by unfold Func.isWrapper; first | (rw [if_pos (by decide +kernel)]; kernel_rfl) | (rw [if_neg (by decide +kernel)]; exact ⟨rfl, rfl⟩))
    (fun os started H enc _ => lifted os started H enc)

theorem proved : Rows.JudgeKnownSaid :=
  over
#print axioms proved
end Go.Proofs.Ytapmpddneoghfaa.judgeKnown
