/- For every input the law FnTimetables returns true and its arguments read as before; no condition. -/
import Derived.Test.YtjniohefdfbeoaaVF
import Derived.Test.YtjniohefdfbeoaaRows
import Derived.WalkKit
import Derived.ProofKit
import Derived.OpenShut
import Derived.ChangeOld
import Derived.Below
import Derived.SizedLaws
import Derived.HandedShaped
namespace Go.Proofs.Ytjniohefdfbeoaa.V3
open Go.ChangeShapes Go.WideShapes Go.ChangeAt Go.RowKit Go.V Go.V.W
set_option linter.unusedVariables false
theorem own : ownKnob Try.prog.godebug = none := by kernel_rfl
theorem laidOut : laidOutB Try.prog = true := by kernel_rfl
theorem glob {W : World} (hs : W.ShapedOpen Try.prog) : Gl Try.prog W (fun _ => none) :=
  gl_none (by kernel_rfl) (by kernel_rfl)
set_option maxRecDepth 100000 in
theorem lifted (os : Os) (started : os.Started) (H : Type) (enc : TypeId × Value → H) :
    ReturnsInHanded {} Try.checked os 3 .any (Rows.fnTimetablesSpec.pre6 enc Try.prog Try.f3 Rows.fnTimetablesRow.domain false) (Rows.fnTimetablesSpec.post enc Try.prog Try.f3 false true false false) := by
  refine returnsInHanded_of_change_shaped (C := Try.checked) own started (by kernel_rfl) Try.func3
    (ChangeSpec.witness6 (enc := enc) (C := Try.checked) false ⟨#[], #[.slice none 0 0], []⟩ 8 (by kernel_rfl) (by kernel_rfl) (by kernel_rfl) (by kernel_rfl)) ?_
  intro W base args ds gs before hval hW _ _ hs _
  exact law_calls tab laidOut Try.func3 (by kernel_rfl) (by kernel_rfl) rfl (rt := 4) (by kernel_rfl) Try.underlying4 (ps := [(K_Su8, false)]) (by simp) (by kernel_rfl) (by kernel_rfl) (fun ds h => by
    match ds, h with
    | [d0], _ => rfl) C_laws_FnTimetables law54 (glob hs) hval hW
theorem over : Rows.fnTimetablesRow.holds Try.pinned (OpenSpec.ofChange Rows.fnTimetablesSpec) :=
  OpenClaim.holds_of_wide 3 Try.f3 rfl rfl rfl rfl rfl rfl rfl ⟨rfl, rfl, rfl, rfl, rfl⟩ rfl rfl rfl rfl rfl (by kernel_rfl) Try.func3 (by kernel_rfl)
    (of_decide_eq_true (by kernel_rfl)) (by unfold Func.isWrapper; first | (rw [if_pos (by decide +kernel)]; kernel_rfl) | (rw [if_neg (by decide +kernel)]; exact ⟨rfl, rfl⟩))
    (fun os started H enc _ => lifted os started H enc)
theorem proved : Rows.FnTimetablesSaid := over
#print axioms proved
end Go.Proofs.Ytjniohefdfbeoaa.V3
