/-
  No cell of these rows narrows 'for every input' (looked for: loops, veiled, ifaces, maps, wideKeys, modest, calm, conditions, laid).
  DERIVED. THE GIVEN ROWS OF THIS SEAT. 9 by the template 'for every input the law returns true; each argument reads behind the call as it read before'; 0 by the template 'total and deterministic' (their statements: YtcdhlpfcjpnfoaaGreatTotals.lean).
  GIVEN WITH THE SEED: the statements are not yours to turn. If you find one false, say at which input.
  Laid BY PROGRAM, IN A SANDBOX (cutbox-rows.mjs): the forced cells as the released guide's own fill.sh prints them over the translation 986ff1baa71a8535… (all of the seat's roots in one cut). By AI agents, Wed Nov 11 2026. No macro, syntax, notation, axiom, sorry.
-/
import Derived.Test.YtcdhlpfcjpnfoaaGreatChecked
import GoSem.Claim
import GoSem.ClaimJoined
import GoSem.ClaimMapViews
import Derived.JoinedTies
import Derived.KernelRfl
namespace Go.Proofs.YtcdhlpfcjpnfoaaGreat
/- THE CELL 'sum', in the pinned program and in every row, IS THE sha256 OF THE DUMP (.gsa) THAT YtcdhlpfcjpnfoaaGreatProg.lean LOADS. Nothing in Lean hashes anything: it is a label: what it is worth is what the hold of that sum in a sandbox is worth. -/
noncomputable def Tryz.pinned : Pinned := { name := "ytcdhlpfcjpnfoaagreat", sum := "986ff1baa71a8535790f827e8902d6bb3e79f27c535a5e022cf904d8bb0bb3b3", checked := Tryz.checked }
namespace Rows
def none {H : Type} : Left H := { results := [], args := [] }

/-- 'laws.FnExactUnsafeAlong': WHATEVER THE INPUT: true; the input reads as it did. -/
def fnExactUnsafeAlongSpec : ChangeSpec := { name := "fnExactUnsafeAlong", fn := fun _ => fun
  | [d1, d2] => { results := [.lit (.bool true)], args := [d1, d2] }
  | _ => none }
def fnExactUnsafeAlongRow : OpenClaim := { program := "ytcdhlpfcjpnfoaagreat", sum := "986ff1baa71a8535790f827e8902d6bb3e79f27c535a5e022cf904d8bb0bb3b3", func := "loop.example/g01109/laws.FnExactUnsafeAlong", spec := "fnExactUnsafeAlong", unfollowed := true, recurses := true, apart := false }
def FnExactUnsafeAlongSaid : Prop := fnExactUnsafeAlongRow.holds Tryz.pinned (OpenSpec.ofChange fnExactUnsafeAlongSpec)

/-- ITS FALSE NEIGHBOUR: 'it returns false'. Refute it at one input. -/
def fnExactUnsafeAlongWrong : ChangeSpec := { name := "fnExactUnsafeAlong", fn := fun _ => fun
  | [d1, d2] => { results := [.lit (.bool false)], args := [d1, d2] }
  | _ => none }
def FnExactUnsafeAlongWrongFalsely : Prop := fnExactUnsafeAlongRow.holds Tryz.pinned (OpenSpec.ofChange fnExactUnsafeAlongWrong)

/-- 'laws.FnExactEscapeOf': WHATEVER THE INPUT: true; the input reads as it did. -/
def fnExactEscapeOfSpec : ChangeSpec := { name := "fnExactEscapeOf", fn := fun _ => fun
  | [d1, d2] => { results := [.lit (.bool true)], args := [d1, d2] }
  | _ => none }
def fnExactEscapeOfRow : OpenClaim := { program := "ytcdhlpfcjpnfoaagreat", sum := "986ff1baa71a8535790f827e8902d6bb3e79f27c535a5e022cf904d8bb0bb3b3", func := "loop.example/g01109/laws.FnExactEscapeOf", spec := "fnExactEscapeOf", unfollowed := true, recurses := true, apart := false }
def FnExactEscapeOfSaid : Prop := fnExactEscapeOfRow.holds Tryz.pinned (OpenSpec.ofChange fnExactEscapeOfSpec)

/-- ITS FALSE NEIGHBOUR: 'it returns false'. Refute it at one input. -/
def fnExactEscapeOfWrong : ChangeSpec := { name := "fnExactEscapeOf", fn := fun _ => fun
  | [d1, d2] => { results := [.lit (.bool false)], args := [d1, d2] }
  | _ => none }
def FnExactEscapeOfWrongFalsely : Prop := fnExactEscapeOfRow.holds Tryz.pinned (OpenSpec.ofChange fnExactEscapeOfWrong)

/-- 'laws.FnExactCaptureTimes': WHATEVER THE INPUT: true; the input reads as it did. -/
def fnExactCaptureTimesSpec : ChangeSpec := { name := "fnExactCaptureTimes", fn := fun _ => fun
  | [d1, d2] => { results := [.lit (.bool true)], args := [d1, d2] }
  | _ => none }
def fnExactCaptureTimesRow : OpenClaim := { program := "ytcdhlpfcjpnfoaagreat", sum := "986ff1baa71a8535790f827e8902d6bb3e79f27c535a5e022cf904d8bb0bb3b3", func := "loop.example/g01109/laws.FnExactCaptureTimes", spec := "fnExactCaptureTimes", unfollowed := true, recurses := true, apart := false }
def FnExactCaptureTimesSaid : Prop := fnExactCaptureTimesRow.holds Tryz.pinned (OpenSpec.ofChange fnExactCaptureTimesSpec)

/-- ITS FALSE NEIGHBOUR: 'it returns false'. Refute it at one input. -/
def fnExactCaptureTimesWrong : ChangeSpec := { name := "fnExactCaptureTimes", fn := fun _ => fun
  | [d1, d2] => { results := [.lit (.bool false)], args := [d1, d2] }
  | _ => none }
def FnExactCaptureTimesWrongFalsely : Prop := fnExactCaptureTimesRow.holds Tryz.pinned (OpenSpec.ofChange fnExactCaptureTimesWrong)

/-- 'laws.FnExactRobberReply': WHATEVER THE INPUT: true; the input reads as it did. -/
def fnExactRobberReplySpec : ChangeSpec := { name := "fnExactRobberReply", fn := fun _ => fun
  | [d1, d2, d3] => { results := [.lit (.bool true)], args := [d1, d2, d3] }
  | _ => none }
def fnExactRobberReplyRow : OpenClaim := { program := "ytcdhlpfcjpnfoaagreat", sum := "986ff1baa71a8535790f827e8902d6bb3e79f27c535a5e022cf904d8bb0bb3b3", func := "loop.example/g01109/laws.FnExactRobberReply", spec := "fnExactRobberReply", unfollowed := true, recurses := true, apart := false }
def FnExactRobberReplySaid : Prop := fnExactRobberReplyRow.holds Tryz.pinned (OpenSpec.ofChange fnExactRobberReplySpec)

/-- ITS FALSE NEIGHBOUR: 'it returns false'. Refute it at one input. -/
def fnExactRobberReplyWrong : ChangeSpec := { name := "fnExactRobberReply", fn := fun _ => fun
  | [d1, d2, d3] => { results := [.lit (.bool false)], args := [d1, d2, d3] }
  | _ => none }
def FnExactRobberReplyWrongFalsely : Prop := fnExactRobberReplyRow.holds Tryz.pinned (OpenSpec.ofChange fnExactRobberReplyWrong)

/-- 'laws.FnExactBestCops': WHATEVER THE INPUT: true; the input reads as it did. -/
def fnExactBestCopsSpec : ChangeSpec := { name := "fnExactBestCops", fn := fun _ => fun
  | [d1, d2] => { results := [.lit (.bool true)], args := [d1, d2] }
  | _ => none }
def fnExactBestCopsRow : OpenClaim := { program := "ytcdhlpfcjpnfoaagreat", sum := "986ff1baa71a8535790f827e8902d6bb3e79f27c535a5e022cf904d8bb0bb3b3", func := "loop.example/g01109/laws.FnExactBestCops", spec := "fnExactBestCops", unfollowed := true, recurses := true, apart := false }
def FnExactBestCopsSaid : Prop := fnExactBestCopsRow.holds Tryz.pinned (OpenSpec.ofChange fnExactBestCopsSpec)

/-- ITS FALSE NEIGHBOUR: 'it returns false'. Refute it at one input. -/
def fnExactBestCopsWrong : ChangeSpec := { name := "fnExactBestCops", fn := fun _ => fun
  | [d1, d2] => { results := [.lit (.bool false)], args := [d1, d2] }
  | _ => none }
def FnExactBestCopsWrongFalsely : Prop := fnExactBestCopsRow.holds Tryz.pinned (OpenSpec.ofChange fnExactBestCopsWrong)

/-- 'laws.FnExactSafeSets': WHATEVER THE INPUT: true; the input reads as it did. -/
def fnExactSafeSetsSpec : ChangeSpec := { name := "fnExactSafeSets", fn := fun _ => fun
  | [d1, d2] => { results := [.lit (.bool true)], args := [d1, d2] }
  | _ => none }
def fnExactSafeSetsRow : OpenClaim := { program := "ytcdhlpfcjpnfoaagreat", sum := "986ff1baa71a8535790f827e8902d6bb3e79f27c535a5e022cf904d8bb0bb3b3", func := "loop.example/g01109/laws.FnExactSafeSets", spec := "fnExactSafeSets", unfollowed := true, recurses := true, apart := false }
def FnExactSafeSetsSaid : Prop := fnExactSafeSetsRow.holds Tryz.pinned (OpenSpec.ofChange fnExactSafeSetsSpec)

/-- ITS FALSE NEIGHBOUR: 'it returns false'. Refute it at one input. -/
def fnExactSafeSetsWrong : ChangeSpec := { name := "fnExactSafeSets", fn := fun _ => fun
  | [d1, d2] => { results := [.lit (.bool false)], args := [d1, d2] }
  | _ => none }
def FnExactSafeSetsWrongFalsely : Prop := fnExactSafeSetsRow.holds Tryz.pinned (OpenSpec.ofChange fnExactSafeSetsWrong)

/-- 'laws.FnExactTrapsOf': WHATEVER THE INPUT: true; the input reads as it did. -/
def fnExactTrapsOfSpec : ChangeSpec := { name := "fnExactTrapsOf", fn := fun _ => fun
  | [d1, d2] => { results := [.lit (.bool true)], args := [d1, d2] }
  | _ => none }
def fnExactTrapsOfRow : OpenClaim := { program := "ytcdhlpfcjpnfoaagreat", sum := "986ff1baa71a8535790f827e8902d6bb3e79f27c535a5e022cf904d8bb0bb3b3", func := "loop.example/g01109/laws.FnExactTrapsOf", spec := "fnExactTrapsOf", unfollowed := true, recurses := true, apart := false }
def FnExactTrapsOfSaid : Prop := fnExactTrapsOfRow.holds Tryz.pinned (OpenSpec.ofChange fnExactTrapsOfSpec)

/-- ITS FALSE NEIGHBOUR: 'it returns false'. Refute it at one input. -/
def fnExactTrapsOfWrong : ChangeSpec := { name := "fnExactTrapsOf", fn := fun _ => fun
  | [d1, d2] => { results := [.lit (.bool false)], args := [d1, d2] }
  | _ => none }
def FnExactTrapsOfWrongFalsely : Prop := fnExactTrapsOfRow.holds Tryz.pinned (OpenSpec.ofChange fnExactTrapsOfWrong)

/-- 'laws.FnExactCopReply': WHATEVER THE INPUT: true; the input reads as it did. -/
def fnExactCopReplySpec : ChangeSpec := { name := "fnExactCopReply", fn := fun _ => fun
  | [d1, d2, d3] => { results := [.lit (.bool true)], args := [d1, d2, d3] }
  | _ => none }
def fnExactCopReplyRow : OpenClaim := { program := "ytcdhlpfcjpnfoaagreat", sum := "986ff1baa71a8535790f827e8902d6bb3e79f27c535a5e022cf904d8bb0bb3b3", func := "loop.example/g01109/laws.FnExactCopReply", spec := "fnExactCopReply", unfollowed := true, recurses := true, apart := false }
def FnExactCopReplySaid : Prop := fnExactCopReplyRow.holds Tryz.pinned (OpenSpec.ofChange fnExactCopReplySpec)

/-- ITS FALSE NEIGHBOUR: 'it returns false'. Refute it at one input. -/
def fnExactCopReplyWrong : ChangeSpec := { name := "fnExactCopReply", fn := fun _ => fun
  | [d1, d2, d3] => { results := [.lit (.bool false)], args := [d1, d2, d3] }
  | _ => none }
def FnExactCopReplyWrongFalsely : Prop := fnExactCopReplyRow.holds Tryz.pinned (OpenSpec.ofChange fnExactCopReplyWrong)

/-- 'laws.FnExactPlayCops': WHATEVER THE INPUT: true; the input reads as it did. -/
def fnExactPlayCopsSpec : ChangeSpec := { name := "fnExactPlayCops", fn := fun _ => fun
  | [d1, d2, d3, d4] => { results := [.lit (.bool true)], args := [d1, d2, d3, d4] }
  | _ => none }
def fnExactPlayCopsRow : OpenClaim := { program := "ytcdhlpfcjpnfoaagreat", sum := "986ff1baa71a8535790f827e8902d6bb3e79f27c535a5e022cf904d8bb0bb3b3", func := "loop.example/g01109/laws.FnExactPlayCops", spec := "fnExactPlayCops", unfollowed := true, recurses := true, apart := false }
def FnExactPlayCopsSaid : Prop := fnExactPlayCopsRow.holds Tryz.pinned (OpenSpec.ofChange fnExactPlayCopsSpec)

/-- ITS FALSE NEIGHBOUR: 'it returns false'. Refute it at one input. -/
def fnExactPlayCopsWrong : ChangeSpec := { name := "fnExactPlayCops", fn := fun _ => fun
  | [d1, d2, d3, d4] => { results := [.lit (.bool false)], args := [d1, d2, d3, d4] }
  | _ => none }
def FnExactPlayCopsWrongFalsely : Prop := fnExactPlayCopsRow.holds Tryz.pinned (OpenSpec.ofChange fnExactPlayCopsWrong)

/- THE SECOND FORM. 'bulk': how many values and letters a reading holds, each counted each time it is reached (what is shared counts as often as it is met; a slice's spare places count too). A statement '..UptoSaid' is the law's where the arguments, and the package variables that the reading takes, are together of bulk at most 1048576: NARROWER than '..Said'. Prove '..Said' where nothing that the law and all that it calls make is longer than what came in: it says more and counts as full. Else prove '..UptoSaid'. A law counts once. -/
mutual
def uptoBulk {H : Type} : DataW H → Nat
  | .lit (.string bytes) => bytes.length + 1
  | .lit _ => 1
  | .nil => 1
  | .ptr d => uptoBulk d + 1
  | .slice elems spare => uptoBulkAll elems + uptoBulkAll spare + 1
  | .agg parts => uptoBulkAll parts + 1
  | .iface _ d => uptoBulk d + 1
  | .map entries => uptoBulkEntries entries + 1
  | .held _ => 1
def uptoBulkAll {H : Type} : List (DataW H) → Nat
  | [] => 0
  | d :: r => uptoBulk d + uptoBulkAll r
def uptoBulkEntries {H : Type} : List (Lit × DataW H) → Nat
  | [] => 0
  | x :: r => uptoBulkEntry x + uptoBulkEntries r
def uptoBulkEntry {H : Type} : Lit × DataW H → Nat
  | (.string bytes, d) => bytes.length + uptoBulk d + 1
  | (_, d) => uptoBulk d + 1
 end
def uptoSmall : (H : Type) → List (DataW H) → Bool := fun _ ds => decide (uptoBulkAll ds ≤ 1048576)
def OpenSpec.upto (s : _root_.Go.ChangeSpec) : _root_.Go.OpenSpec := { _root_.Go.OpenSpec.ofChange s with cond := some uptoSmall }

/-- 'laws.FnExactUnsafeAlong', WHERE WHAT IT READS IS OF BULK AT MOST 1048576: true; the input reads as it did. -/
def fnExactUnsafeAlongUptoRow : OpenClaim := { program := "ytcdhlpfcjpnfoaagreat", sum := "986ff1baa71a8535790f827e8902d6bb3e79f27c535a5e022cf904d8bb0bb3b3", func := "loop.example/g01109/laws.FnExactUnsafeAlong", spec := "fnExactUnsafeAlong", unfollowed := true, recurses := true, apart := false, narrowed := true }
def FnExactUnsafeAlongUptoSaid : Prop := fnExactUnsafeAlongUptoRow.holds Tryz.pinned (OpenSpec.upto fnExactUnsafeAlongSpec)

/-- 'laws.FnExactEscapeOf', WHERE WHAT IT READS IS OF BULK AT MOST 1048576: true; the input reads as it did. -/
def fnExactEscapeOfUptoRow : OpenClaim := { program := "ytcdhlpfcjpnfoaagreat", sum := "986ff1baa71a8535790f827e8902d6bb3e79f27c535a5e022cf904d8bb0bb3b3", func := "loop.example/g01109/laws.FnExactEscapeOf", spec := "fnExactEscapeOf", unfollowed := true, recurses := true, apart := false, narrowed := true }
def FnExactEscapeOfUptoSaid : Prop := fnExactEscapeOfUptoRow.holds Tryz.pinned (OpenSpec.upto fnExactEscapeOfSpec)

/-- 'laws.FnExactCaptureTimes', WHERE WHAT IT READS IS OF BULK AT MOST 1048576: true; the input reads as it did. -/
def fnExactCaptureTimesUptoRow : OpenClaim := { program := "ytcdhlpfcjpnfoaagreat", sum := "986ff1baa71a8535790f827e8902d6bb3e79f27c535a5e022cf904d8bb0bb3b3", func := "loop.example/g01109/laws.FnExactCaptureTimes", spec := "fnExactCaptureTimes", unfollowed := true, recurses := true, apart := false, narrowed := true }
def FnExactCaptureTimesUptoSaid : Prop := fnExactCaptureTimesUptoRow.holds Tryz.pinned (OpenSpec.upto fnExactCaptureTimesSpec)

/-- 'laws.FnExactRobberReply', WHERE WHAT IT READS IS OF BULK AT MOST 1048576: true; the input reads as it did. -/
def fnExactRobberReplyUptoRow : OpenClaim := { program := "ytcdhlpfcjpnfoaagreat", sum := "986ff1baa71a8535790f827e8902d6bb3e79f27c535a5e022cf904d8bb0bb3b3", func := "loop.example/g01109/laws.FnExactRobberReply", spec := "fnExactRobberReply", unfollowed := true, recurses := true, apart := false, narrowed := true }
def FnExactRobberReplyUptoSaid : Prop := fnExactRobberReplyUptoRow.holds Tryz.pinned (OpenSpec.upto fnExactRobberReplySpec)

/-- 'laws.FnExactBestCops', WHERE WHAT IT READS IS OF BULK AT MOST 1048576: true; the input reads as it did. -/
def fnExactBestCopsUptoRow : OpenClaim := { program := "ytcdhlpfcjpnfoaagreat", sum := "986ff1baa71a8535790f827e8902d6bb3e79f27c535a5e022cf904d8bb0bb3b3", func := "loop.example/g01109/laws.FnExactBestCops", spec := "fnExactBestCops", unfollowed := true, recurses := true, apart := false, narrowed := true }
def FnExactBestCopsUptoSaid : Prop := fnExactBestCopsUptoRow.holds Tryz.pinned (OpenSpec.upto fnExactBestCopsSpec)

/-- 'laws.FnExactSafeSets', WHERE WHAT IT READS IS OF BULK AT MOST 1048576: true; the input reads as it did. -/
def fnExactSafeSetsUptoRow : OpenClaim := { program := "ytcdhlpfcjpnfoaagreat", sum := "986ff1baa71a8535790f827e8902d6bb3e79f27c535a5e022cf904d8bb0bb3b3", func := "loop.example/g01109/laws.FnExactSafeSets", spec := "fnExactSafeSets", unfollowed := true, recurses := true, apart := false, narrowed := true }
def FnExactSafeSetsUptoSaid : Prop := fnExactSafeSetsUptoRow.holds Tryz.pinned (OpenSpec.upto fnExactSafeSetsSpec)

/-- 'laws.FnExactTrapsOf', WHERE WHAT IT READS IS OF BULK AT MOST 1048576: true; the input reads as it did. -/
def fnExactTrapsOfUptoRow : OpenClaim := { program := "ytcdhlpfcjpnfoaagreat", sum := "986ff1baa71a8535790f827e8902d6bb3e79f27c535a5e022cf904d8bb0bb3b3", func := "loop.example/g01109/laws.FnExactTrapsOf", spec := "fnExactTrapsOf", unfollowed := true, recurses := true, apart := false, narrowed := true }
def FnExactTrapsOfUptoSaid : Prop := fnExactTrapsOfUptoRow.holds Tryz.pinned (OpenSpec.upto fnExactTrapsOfSpec)

/-- 'laws.FnExactCopReply', WHERE WHAT IT READS IS OF BULK AT MOST 1048576: true; the input reads as it did. -/
def fnExactCopReplyUptoRow : OpenClaim := { program := "ytcdhlpfcjpnfoaagreat", sum := "986ff1baa71a8535790f827e8902d6bb3e79f27c535a5e022cf904d8bb0bb3b3", func := "loop.example/g01109/laws.FnExactCopReply", spec := "fnExactCopReply", unfollowed := true, recurses := true, apart := false, narrowed := true }
def FnExactCopReplyUptoSaid : Prop := fnExactCopReplyUptoRow.holds Tryz.pinned (OpenSpec.upto fnExactCopReplySpec)

/-- 'laws.FnExactPlayCops', WHERE WHAT IT READS IS OF BULK AT MOST 1048576: true; the input reads as it did. -/
def fnExactPlayCopsUptoRow : OpenClaim := { program := "ytcdhlpfcjpnfoaagreat", sum := "986ff1baa71a8535790f827e8902d6bb3e79f27c535a5e022cf904d8bb0bb3b3", func := "loop.example/g01109/laws.FnExactPlayCops", spec := "fnExactPlayCops", unfollowed := true, recurses := true, apart := false, narrowed := true }
def FnExactPlayCopsUptoSaid : Prop := fnExactPlayCopsUptoRow.holds Tryz.pinned (OpenSpec.upto fnExactPlayCopsSpec)

end Rows
end Go.Proofs.YtcdhlpfcjpnfoaaGreat
