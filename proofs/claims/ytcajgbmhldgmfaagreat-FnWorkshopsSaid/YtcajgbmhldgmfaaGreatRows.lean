/-
  No cell of these rows narrows 'for every input' (looked for: loops, veiled, ifaces, maps, wideKeys, modest, calm, conditions, laid).
  DERIVED. THE GIVEN ROWS OF THIS SEAT. 5 by the template 'for every input the law returns true; each argument reads behind the call as it read before'; 0 by the template 'total and deterministic' (their statements: YtcajgbmhldgmfaaGreatTotals.lean).
  GIVEN WITH THE SEED: the statements are not yours to turn. If you find one false, say at which input.
  Laid BY PROGRAM, IN A SANDBOX (cutbox-rows.mjs): the forced cells as the released guide's own fill.sh prints them over the translation 6e48d1a012a14089… (all of the seat's roots in one cut). By AI agents, Wed Nov 11 2026. No macro, syntax, notation, axiom, sorry.
-/
import Derived.Test.YtcajgbmhldgmfaaGreatChecked
import GoSem.Claim
import GoSem.ClaimJoined
import GoSem.ClaimMapViews
import Derived.JoinedTies
import Derived.KernelRfl
namespace Go.Proofs.YtcajgbmhldgmfaaGreat
/- THE CELL 'sum', in the pinned program and in every row, IS THE sha256 OF THE DUMP (.gsa) THAT YtcajgbmhldgmfaaGreatProg.lean LOADS. Nothing in Lean hashes anything: it is a label: what it is worth is what the hold of that sum in a sandbox is worth. -/
noncomputable def Tryz.pinned : Pinned := { name := "ytcajgbmhldgmfaagreat", sum := "6e48d1a012a140893849bf01e66ba816fb6337069bf6539008a34cfd34c5b8b0", checked := Tryz.checked }
namespace Rows
def none {H : Type} : Left H := { results := [], args := [] }

/-- 'laws.FnExactDoWork': WHATEVER THE INPUT: true; the input reads as it did. -/
def fnExactDoWorkSpec : ChangeSpec := { name := "fnExactDoWork", fn := fun _ => fun
  | [d1, d2] => { results := [.lit (.bool true)], args := [d1, d2] }
  | _ => none }
def fnExactDoWorkRow : OpenClaim := { program := "ytcajgbmhldgmfaagreat", sum := "6e48d1a012a140893849bf01e66ba816fb6337069bf6539008a34cfd34c5b8b0", func := "loop.example/g01109/laws.FnExactDoWork", spec := "fnExactDoWork", unfollowed := true, recurses := true, apart := false }
def FnExactDoWorkSaid : Prop := fnExactDoWorkRow.holds Tryz.pinned (OpenSpec.ofChange fnExactDoWorkSpec)

/-- ITS FALSE NEIGHBOUR: 'it returns false'. Refute it at one input. -/
def fnExactDoWorkWrong : ChangeSpec := { name := "fnExactDoWork", fn := fun _ => fun
  | [d1, d2] => { results := [.lit (.bool false)], args := [d1, d2] }
  | _ => none }
def FnExactDoWorkWrongFalsely : Prop := fnExactDoWorkRow.holds Tryz.pinned (OpenSpec.ofChange fnExactDoWorkWrong)

/-- 'laws.FnExactFinishChase': WHATEVER THE INPUT: true; the input reads as it did. -/
def fnExactFinishChaseSpec : ChangeSpec := { name := "fnExactFinishChase", fn := fun _ => fun
  | [d] => { results := [.lit (.bool true)], args := [d] }
  | _ => none }
def fnExactFinishChaseRow : OpenClaim := { program := "ytcajgbmhldgmfaagreat", sum := "6e48d1a012a140893849bf01e66ba816fb6337069bf6539008a34cfd34c5b8b0", func := "loop.example/g01109/laws.FnExactFinishChase", spec := "fnExactFinishChase", unfollowed := true, recurses := true, apart := false }
def FnExactFinishChaseSaid : Prop := fnExactFinishChaseRow.holds Tryz.pinned (OpenSpec.ofChange fnExactFinishChaseSpec)

/-- ITS FALSE NEIGHBOUR: 'it returns false'. Refute it at one input. -/
def fnExactFinishChaseWrong : ChangeSpec := { name := "fnExactFinishChase", fn := fun _ => fun
  | [d] => { results := [.lit (.bool false)], args := [d] }
  | _ => none }
def FnExactFinishChaseWrongFalsely : Prop := fnExactFinishChaseRow.holds Tryz.pinned (OpenSpec.ofChange fnExactFinishChaseWrong)

/-- 'laws.FnWorkshops': WHATEVER THE INPUT: true; the input reads as it did. -/
def fnWorkshopsSpec : ChangeSpec := { name := "fnWorkshops", fn := fun _ => fun
  | [d] => { results := [.lit (.bool true)], args := [d] }
  | _ => none }
def fnWorkshopsRow : OpenClaim := { program := "ytcajgbmhldgmfaagreat", sum := "6e48d1a012a140893849bf01e66ba816fb6337069bf6539008a34cfd34c5b8b0", func := "loop.example/g01109/laws.FnWorkshops", spec := "fnWorkshops", unfollowed := true, recurses := true, apart := false }
def FnWorkshopsSaid : Prop := fnWorkshopsRow.holds Tryz.pinned (OpenSpec.ofChange fnWorkshopsSpec)

/-- ITS FALSE NEIGHBOUR: 'it returns false'. Refute it at one input. -/
def fnWorkshopsWrong : ChangeSpec := { name := "fnWorkshops", fn := fun _ => fun
  | [d] => { results := [.lit (.bool false)], args := [d] }
  | _ => none }
def FnWorkshopsWrongFalsely : Prop := fnWorkshopsRow.holds Tryz.pinned (OpenSpec.ofChange fnWorkshopsWrong)

/-- 'laws.FnChases': WHATEVER THE INPUT: true; the input reads as it did. -/
def fnChasesSpec : ChangeSpec := { name := "fnChases", fn := fun _ => fun
  | [d] => { results := [.lit (.bool true)], args := [d] }
  | _ => none }
def fnChasesRow : OpenClaim := { program := "ytcajgbmhldgmfaagreat", sum := "6e48d1a012a140893849bf01e66ba816fb6337069bf6539008a34cfd34c5b8b0", func := "loop.example/g01109/laws.FnChases", spec := "fnChases", unfollowed := true, recurses := true, apart := false }
def FnChasesSaid : Prop := fnChasesRow.holds Tryz.pinned (OpenSpec.ofChange fnChasesSpec)

/-- ITS FALSE NEIGHBOUR: 'it returns false'. Refute it at one input. -/
def fnChasesWrong : ChangeSpec := { name := "fnChases", fn := fun _ => fun
  | [d] => { results := [.lit (.bool false)], args := [d] }
  | _ => none }
def FnChasesWrongFalsely : Prop := fnChasesRow.holds Tryz.pinned (OpenSpec.ofChange fnChasesWrong)

/-- 'laws.FnExactDoWorks': WHATEVER THE INPUT: true; the input reads as it did. -/
def fnExactDoWorksSpec : ChangeSpec := { name := "fnExactDoWorks", fn := fun _ => fun
  | [d1, d2] => { results := [.lit (.bool true)], args := [d1, d2] }
  | _ => none }
def fnExactDoWorksRow : OpenClaim := { program := "ytcajgbmhldgmfaagreat", sum := "6e48d1a012a140893849bf01e66ba816fb6337069bf6539008a34cfd34c5b8b0", func := "loop.example/g01109/laws.FnExactDoWorks", spec := "fnExactDoWorks", unfollowed := true, recurses := true, apart := false }
def FnExactDoWorksSaid : Prop := fnExactDoWorksRow.holds Tryz.pinned (OpenSpec.ofChange fnExactDoWorksSpec)

/-- ITS FALSE NEIGHBOUR: 'it returns false'. Refute it at one input. -/
def fnExactDoWorksWrong : ChangeSpec := { name := "fnExactDoWorks", fn := fun _ => fun
  | [d1, d2] => { results := [.lit (.bool false)], args := [d1, d2] }
  | _ => none }
def FnExactDoWorksWrongFalsely : Prop := fnExactDoWorksRow.holds Tryz.pinned (OpenSpec.ofChange fnExactDoWorksWrong)

/- THE SECOND FORM. 'bulk': how many values and letters a reading holds, each counted each time it is reached (what is shared counts as often as it is met; a slice's spare places count too). A statement '..UptoSaid' is the law's where the arguments, and the package variables that the reading takes, are together of bulk at most 1048576: NARROWER than '..Said'. Prove '..Said' where nothing that the law and all that it calls make is longer than what came in: it says more and counts as full. Else prove '..UptoSaid'. A law counts once. -/
mutual
def uptoBulk {H : Type} : DataW H → Nat
  | .lit (.string bytes) => bytes.length + 1
  | .lit _ => 1
  | .nil => 1
  | .ptr d => uptoBulk d + 1
  | .slice elems spare => uptoBulkAll elems + uptoBulkAll spare + 1
  | .agg parts => uptoBulkAll parts + 1
  | .iface _ d => uptoBulk d + 1
  | .map entries => uptoBulkEntries entries + 1
  | .held _ => 1
def uptoBulkAll {H : Type} : List (DataW H) → Nat
  | [] => 0
  | d :: r => uptoBulk d + uptoBulkAll r
def uptoBulkEntries {H : Type} : List (Lit × DataW H) → Nat
  | [] => 0
  | x :: r => uptoBulkEntry x + uptoBulkEntries r
def uptoBulkEntry {H : Type} : Lit × DataW H → Nat
  | (.string bytes, d) => bytes.length + uptoBulk d + 1
  | (_, d) => uptoBulk d + 1
 end
def uptoSmall : (H : Type) → List (DataW H) → Bool := fun _ ds => decide (uptoBulkAll ds ≤ 1048576)
def OpenSpec.upto (s : _root_.Go.ChangeSpec) : _root_.Go.OpenSpec := { _root_.Go.OpenSpec.ofChange s with cond := some uptoSmall }

/-- 'laws.FnExactDoWork', WHERE WHAT IT READS IS OF BULK AT MOST 1048576: true; the input reads as it did. -/
def fnExactDoWorkUptoRow : OpenClaim := { program := "ytcajgbmhldgmfaagreat", sum := "6e48d1a012a140893849bf01e66ba816fb6337069bf6539008a34cfd34c5b8b0", func := "loop.example/g01109/laws.FnExactDoWork", spec := "fnExactDoWork", unfollowed := true, recurses := true, apart := false, narrowed := true }
def FnExactDoWorkUptoSaid : Prop := fnExactDoWorkUptoRow.holds Tryz.pinned (OpenSpec.upto fnExactDoWorkSpec)

/-- 'laws.FnExactFinishChase', WHERE WHAT IT READS IS OF BULK AT MOST 1048576: true; the input reads as it did. -/
def fnExactFinishChaseUptoRow : OpenClaim := { program := "ytcajgbmhldgmfaagreat", sum := "6e48d1a012a140893849bf01e66ba816fb6337069bf6539008a34cfd34c5b8b0", func := "loop.example/g01109/laws.FnExactFinishChase", spec := "fnExactFinishChase", unfollowed := true, recurses := true, apart := false, narrowed := true }
def FnExactFinishChaseUptoSaid : Prop := fnExactFinishChaseUptoRow.holds Tryz.pinned (OpenSpec.upto fnExactFinishChaseSpec)

/-- 'laws.FnWorkshops', WHERE WHAT IT READS IS OF BULK AT MOST 1048576: true; the input reads as it did. -/
def fnWorkshopsUptoRow : OpenClaim := { program := "ytcajgbmhldgmfaagreat", sum := "6e48d1a012a140893849bf01e66ba816fb6337069bf6539008a34cfd34c5b8b0", func := "loop.example/g01109/laws.FnWorkshops", spec := "fnWorkshops", unfollowed := true, recurses := true, apart := false, narrowed := true }
def FnWorkshopsUptoSaid : Prop := fnWorkshopsUptoRow.holds Tryz.pinned (OpenSpec.upto fnWorkshopsSpec)

/-- 'laws.FnChases', WHERE WHAT IT READS IS OF BULK AT MOST 1048576: true; the input reads as it did. -/
def fnChasesUptoRow : OpenClaim := { program := "ytcajgbmhldgmfaagreat", sum := "6e48d1a012a140893849bf01e66ba816fb6337069bf6539008a34cfd34c5b8b0", func := "loop.example/g01109/laws.FnChases", spec := "fnChases", unfollowed := true, recurses := true, apart := false, narrowed := true }
def FnChasesUptoSaid : Prop := fnChasesUptoRow.holds Tryz.pinned (OpenSpec.upto fnChasesSpec)

/-- 'laws.FnExactDoWorks', WHERE WHAT IT READS IS OF BULK AT MOST 1048576: true; the input reads as it did. -/
def fnExactDoWorksUptoRow : OpenClaim := { program := "ytcajgbmhldgmfaagreat", sum := "6e48d1a012a140893849bf01e66ba816fb6337069bf6539008a34cfd34c5b8b0", func := "loop.example/g01109/laws.FnExactDoWorks", spec := "fnExactDoWorks", unfollowed := true, recurses := true, apart := false, narrowed := true }
def FnExactDoWorksUptoSaid : Prop := fnExactDoWorksUptoRow.holds Tryz.pinned (OpenSpec.upto fnExactDoWorksSpec)

end Rows
end Go.Proofs.YtcajgbmhldgmfaaGreat
