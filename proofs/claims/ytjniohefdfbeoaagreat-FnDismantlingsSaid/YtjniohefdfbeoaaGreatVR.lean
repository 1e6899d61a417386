/- For every input the law FnDismantlings returns true and its arguments read as before; no condition. -/
import Derived.Test.YtjniohefdfbeoaaGreatVH
import Derived.Test.YtjniohefdfbeoaaGreatRows
import Derived.WalkKit
import Derived.ProofKit
import Derived.OpenShut
import Derived.ChangeOld
import Derived.Below
import Derived.SizedLaws
import Derived.HandedShaped
namespace Go.Proofs.YtjniohefdfbeoaaGreat.V6
open Go.ChangeShapes Go.WideShapes Go.ChangeAt Go.RowKit Go.V Go.V.W
set_option linter.unusedVariables false
theorem own : ownKnob Tryz.prog.godebug = none := by kernel_rfl
theorem laidOut : laidOutB Tryz.prog = true := by kernel_rfl
theorem glob {W : World} (hs : W.ShapedOpen Tryz.prog) : Gl Tryz.prog W (fun _ => none) :=
  gl_none (by kernel_rfl) (by kernel_rfl)
set_option maxRecDepth 100000 in
theorem lifted (os : Os) (started : os.Started) (H : Type) (enc : TypeId × Value → H) :
    ReturnsInHanded {} Tryz.checked os 6 .any (Rows.fnDismantlingsSpec.pre6 enc Tryz.prog Tryz.f6 Rows.fnDismantlingsRow.domain false) (Rows.fnDismantlingsSpec.post enc Tryz.prog Tryz.f6 false true false false) := by
  refine returnsInHanded_of_change_shaped (C := Tryz.checked) own started (by kernel_rfl) Tryz.func6
    (ChangeSpec.witness6 (enc := enc) (C := Tryz.checked) false ⟨#[], #[.slice none 0 0], []⟩ 8 (by kernel_rfl) (by kernel_rfl) (by kernel_rfl) (by kernel_rfl)) ?_
  intro W base args ds gs before hval hW _ _ hs _
  exact law_calls tab laidOut Tryz.func6 (by kernel_rfl) (by kernel_rfl) rfl (rt := 4) (by kernel_rfl) Tryz.underlying4 (ps := [(K_Su8, false)]) (by simp) (by kernel_rfl) (by kernel_rfl) (fun ds h => by
    match ds, h with
    | [d0], _ => rfl) C_laws_FnDismantlings law54 (glob hs) hval hW
theorem over : Rows.fnDismantlingsRow.holds Tryz.pinned (OpenSpec.ofChange Rows.fnDismantlingsSpec) :=
  OpenClaim.holds_of_wide 6 Tryz.f6 rfl rfl rfl rfl rfl rfl rfl ⟨rfl, rfl, rfl, rfl, rfl⟩ rfl rfl rfl rfl rfl (by kernel_rfl) Tryz.func6 (by kernel_rfl)
    (of_decide_eq_true (by kernel_rfl)) (by unfold Func.isWrapper; first | (rw [if_pos (by decide +kernel)]; kernel_rfl) | (rw [if_neg (by decide +kernel)]; exact ⟨rfl, rfl⟩))
    (fun os started H enc _ => lifted os started H enc)
theorem proved : Rows.FnDismantlingsSaid := over
#print axioms proved
end Go.Proofs.YtjniohefdfbeoaaGreat.V6
