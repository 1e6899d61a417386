/- For every input the law FnExactChaseTime returns true and its argument reads as before; no condition. -/
import Derived.Test.YtmeglfoapdkhdaaVS3
import Derived.Test.YtmeglfoapdkhdaaVRow
import Derived.Test.YtmeglfoapdkhdaaRows
import Derived.WalkKit
import Derived.ProofKit
import Derived.OpenShut
import Derived.ChangeOld
import Derived.Below
import Derived.SizedLaws
namespace Go.Proofs.Ytmeglfoapdkhdaa.V12
open Go.ChangeShapes Go.WideShapes Go.ChangeAt Go.RowKit Go.V Go.V.W
set_option linter.unusedVariables false
theorem own : ownKnob Try.prog.godebug = none := by kernel_rfl
theorem laidOut : laidOutB Try.prog = true := by kernel_rfl
set_option maxRecDepth 100000 in
theorem lifted (os : Os) (started : os.Started) (H : Type) (enc : TypeId × Value → H) :
    ReturnsInHanded {} Try.checked os 12 .any (Rows.fnExactChaseTimeSpec.pre6 enc Try.prog Try.f12 Rows.fnExactChaseTimeRow.domain false) (Rows.fnExactChaseTimeSpec.post enc Try.prog Try.f12 false true false false) := by
  refine returnsInHanded_of_change_sized (C := Try.checked) own started (by kernel_rfl) Try.func12
    (ChangeSpec.witness6 (enc := enc) (C := Try.checked) false ⟨#[], #[.agg #[.int .i64 0, .slice none 0 0, .int .i64 0, .int .i64 0, .slice none 0 0, .int .i64 0]], []⟩ 8 (by kernel_rfl) (by kernel_rfl) (by kernel_rfl) (by kernel_rfl)) ?_
  intro W base args ds gs before hval hW _ _ _
  exact law_calls tab laidOut Try.func12 (by kernel_rfl) (by kernel_rfl) rfl (rt := 4) (by kernel_rfl) Try.underlying4 (ps := [(K_PPiSPiiqqiiSiiq, false)]) (by simp) (by kernel_rfl) (by kernel_rfl) (fun ds h => by
    match ds, h with
    | [d], _ => rfl) C_laws_FnExactChaseTime law11 hval hW
theorem over : Rows.fnExactChaseTimeRow.holds Try.pinned (OpenSpec.ofChange Rows.fnExactChaseTimeSpec) :=
  OpenClaim.holds_of_wide 12 Try.f12 rfl rfl rfl rfl rfl rfl rfl ⟨rfl, rfl, rfl, rfl, rfl⟩ rfl rfl rfl rfl rfl (by kernel_rfl) Try.func12 (by kernel_rfl)
    (of_decide_eq_true (by kernel_rfl)) (by unfold Func.isWrapper; first | (rw [if_pos (by decide +kernel)]; kernel_rfl) | (rw [if_neg (by decide +kernel)]; exact ⟨rfl, rfl⟩))
    (fun os started H enc _ => lifted os started H enc)
theorem proved : Rows.FnExactChaseTimeSaid := over
#print axioms proved
end Go.Proofs.Ytmeglfoapdkhdaa.V12
