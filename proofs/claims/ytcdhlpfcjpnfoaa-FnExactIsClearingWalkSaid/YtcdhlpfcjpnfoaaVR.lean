/- For every input the law FnExactIsClearingWalk returns true and its arguments read as before; no condition. -/
import Derived.Test.YtcdhlpfcjpnfoaaVE
import Derived.Test.YtcdhlpfcjpnfoaaRows
import Derived.WalkKit
import Derived.ProofKit
import Derived.OpenShut
import Derived.ChangeOld
import Derived.Below
import Derived.SizedLaws
import Derived.HandedShaped
namespace Go.Proofs.Ytcdhlpfcjpnfoaa.V5
open Go.ChangeShapes Go.WideShapes Go.ChangeAt Go.RowKit Go.V Go.V.W
set_option linter.unusedVariables false
theorem own : ownKnob Try.prog.godebug = none := by kernel_rfl
theorem laidOut : laidOutB Try.prog = true := by kernel_rfl
theorem glob {W : World} (hs : W.ShapedOpen Try.prog) : Gl Try.prog W (fun _ => none) :=
  gl_none (by kernel_rfl) (by kernel_rfl)
set_option maxRecDepth 100000 in
theorem lifted (os : Os) (started : os.Started) (H : Type) (enc : TypeId × Value → H) :
    ReturnsInHanded {} Try.checked os 5 .any (Rows.fnExactIsClearingWalkSpec.pre6 enc Try.prog Try.f5 Rows.fnExactIsClearingWalkRow.domain false) (Rows.fnExactIsClearingWalkSpec.post enc Try.prog Try.f5 false true false false) := by
  refine returnsInHanded_of_change_shaped (C := Try.checked) own started (by kernel_rfl) Try.func5
    (ChangeSpec.witness6 (enc := enc) (C := Try.checked) false ⟨#[], #[.agg #[.int .i64 0, .slice none 0 0], .slice none 0 0], []⟩ 8 (by kernel_rfl) (by kernel_rfl) (by kernel_rfl) (by kernel_rfl)) ?_
  intro W base args ds gs before hval hW _ _ hs _
  exact law_calls tab laidOut Try.func5 (by kernel_rfl) (by kernel_rfl) rfl (rt := 4) (by kernel_rfl) Try.underlying4 (ps := [(K_PiSPiiqq, false), (K_SSi, false)]) (by simp) (by kernel_rfl) (by kernel_rfl) (fun ds h => by
    match ds, h with
    | [d0, d1], _ => rfl) C_laws_FnExactIsClearingWalk law37 (glob hs) hval hW
theorem over : Rows.fnExactIsClearingWalkRow.holds Try.pinned (OpenSpec.ofChange Rows.fnExactIsClearingWalkSpec) :=
  OpenClaim.holds_of_wide 5 Try.f5 rfl rfl rfl rfl rfl rfl rfl ⟨rfl, rfl, rfl, rfl, rfl⟩ rfl rfl rfl rfl rfl (by kernel_rfl) Try.func5 (by kernel_rfl)
    (of_decide_eq_true (by kernel_rfl)) (by unfold Func.isWrapper; first | (rw [if_pos (by decide +kernel)]; kernel_rfl) | (rw [if_neg (by decide +kernel)]; exact ⟨rfl, rfl⟩))
    (fun os started H enc _ => lifted os started H enc)
theorem proved : Rows.FnExactIsClearingWalkSaid := over
#print axioms proved
end Go.Proofs.Ytcdhlpfcjpnfoaa.V5
