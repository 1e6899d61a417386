/-
  No cell of these rows narrows 'for every input' (looked for: loops, veiled, ifaces, maps, wideKeys, modest, calm, conditions, laid).
  DERIVED. THE GIVEN ROWS OF THIS SEAT. 4 by the template 'for every input the law returns true; each argument reads behind the call as it read before'; 0 by the template 'total and deterministic' (their statements: YtjniohefdfbeoaaGreatTotals.lean).
  GIVEN WITH THE SEED: the statements are not yours to turn. If you find one false, say at which input.
  Laid BY PROGRAM, IN A SANDBOX (cutbox-rows.mjs): the forced cells as the released guide's own fill.sh prints them over the translation da829a23c34f7faa… (all of the seat's roots in one cut). By AI agents, Wed Nov 11 2026. No macro, syntax, notation, axiom, sorry.
-/
import Derived.Test.YtjniohefdfbeoaaGreatChecked
import GoSem.Claim
import GoSem.ClaimJoined
import GoSem.ClaimMapViews
import Derived.JoinedTies
import Derived.KernelRfl
namespace Go.Proofs.YtjniohefdfbeoaaGreat
/- THE CELL 'sum', in the pinned program and in every row, IS THE sha256 OF THE DUMP (.gsa) THAT YtjniohefdfbeoaaGreatProg.lean LOADS. Nothing in Lean hashes anything: it is a label: what it is worth is what the hold of that sum in a sandbox is worth. -/
noncomputable def Tryz.pinned : Pinned := { name := "ytjniohefdfbeoaagreat", sum := "da829a23c34f7faa4879e6a1ad4aeac8746c8c7bb8375ee165cdbf05a9ad1cdc", checked := Tryz.checked }
namespace Rows
def none {H : Type} : Left H := { results := [], args := [] }

/-- 'laws.FnExactShortestClearing': WHATEVER THE INPUT: true; the input reads as it did. -/
def fnExactShortestClearingSpec : ChangeSpec := { name := "fnExactShortestClearing", fn := fun _ => fun
  | [d1, d2] => { results := [.lit (.bool true)], args := [d1, d2] }
  | _ => none }
def fnExactShortestClearingRow : OpenClaim := { program := "ytjniohefdfbeoaagreat", sum := "da829a23c34f7faa4879e6a1ad4aeac8746c8c7bb8375ee165cdbf05a9ad1cdc", func := "loop.example/g01109/laws.FnExactShortestClearing", spec := "fnExactShortestClearing", unfollowed := true, recurses := true, plainKeys := false, apart := false }
def FnExactShortestClearingSaid : Prop := fnExactShortestClearingRow.holds Tryz.pinned (OpenSpec.ofChange fnExactShortestClearingSpec)

/-- ITS FALSE NEIGHBOUR: 'it returns false'. Refute it at one input. -/
def fnExactShortestClearingWrong : ChangeSpec := { name := "fnExactShortestClearing", fn := fun _ => fun
  | [d1, d2] => { results := [.lit (.bool false)], args := [d1, d2] }
  | _ => none }
def FnExactShortestClearingWrongFalsely : Prop := fnExactShortestClearingRow.holds Tryz.pinned (OpenSpec.ofChange fnExactShortestClearingWrong)

/-- 'laws.FnCopNumbers': WHATEVER THE INPUT: true; the input reads as it did. -/
def fnCopNumbersSpec : ChangeSpec := { name := "fnCopNumbers", fn := fun _ => fun
  | [d] => { results := [.lit (.bool true)], args := [d] }
  | _ => none }
def fnCopNumbersRow : OpenClaim := { program := "ytjniohefdfbeoaagreat", sum := "da829a23c34f7faa4879e6a1ad4aeac8746c8c7bb8375ee165cdbf05a9ad1cdc", func := "loop.example/g01109/laws.FnCopNumbers", spec := "fnCopNumbers", unfollowed := true, recurses := true, plainKeys := false, apart := false }
def FnCopNumbersSaid : Prop := fnCopNumbersRow.holds Tryz.pinned (OpenSpec.ofChange fnCopNumbersSpec)

/-- ITS FALSE NEIGHBOUR: 'it returns false'. Refute it at one input. -/
def fnCopNumbersWrong : ChangeSpec := { name := "fnCopNumbers", fn := fun _ => fun
  | [d] => { results := [.lit (.bool false)], args := [d] }
  | _ => none }
def FnCopNumbersWrongFalsely : Prop := fnCopNumbersRow.holds Tryz.pinned (OpenSpec.ofChange fnCopNumbersWrong)

/-- 'laws.FnBlindNumbers': WHATEVER THE INPUT: true; the input reads as it did. -/
def fnBlindNumbersSpec : ChangeSpec := { name := "fnBlindNumbers", fn := fun _ => fun
  | [d] => { results := [.lit (.bool true)], args := [d] }
  | _ => none }
def fnBlindNumbersRow : OpenClaim := { program := "ytjniohefdfbeoaagreat", sum := "da829a23c34f7faa4879e6a1ad4aeac8746c8c7bb8375ee165cdbf05a9ad1cdc", func := "loop.example/g01109/laws.FnBlindNumbers", spec := "fnBlindNumbers", unfollowed := true, recurses := true, plainKeys := false, apart := false }
def FnBlindNumbersSaid : Prop := fnBlindNumbersRow.holds Tryz.pinned (OpenSpec.ofChange fnBlindNumbersSpec)

/-- ITS FALSE NEIGHBOUR: 'it returns false'. Refute it at one input. -/
def fnBlindNumbersWrong : ChangeSpec := { name := "fnBlindNumbers", fn := fun _ => fun
  | [d] => { results := [.lit (.bool false)], args := [d] }
  | _ => none }
def FnBlindNumbersWrongFalsely : Prop := fnBlindNumbersRow.holds Tryz.pinned (OpenSpec.ofChange fnBlindNumbersWrong)

/-- 'laws.FnDismantlings': WHATEVER THE INPUT: true; the input reads as it did. -/
def fnDismantlingsSpec : ChangeSpec := { name := "fnDismantlings", fn := fun _ => fun
  | [d] => { results := [.lit (.bool true)], args := [d] }
  | _ => none }
def fnDismantlingsRow : OpenClaim := { program := "ytjniohefdfbeoaagreat", sum := "da829a23c34f7faa4879e6a1ad4aeac8746c8c7bb8375ee165cdbf05a9ad1cdc", func := "loop.example/g01109/laws.FnDismantlings", spec := "fnDismantlings", unfollowed := true, recurses := true, plainKeys := false, apart := false }
def FnDismantlingsSaid : Prop := fnDismantlingsRow.holds Tryz.pinned (OpenSpec.ofChange fnDismantlingsSpec)

/-- ITS FALSE NEIGHBOUR: 'it returns false'. Refute it at one input. -/
def fnDismantlingsWrong : ChangeSpec := { name := "fnDismantlings", fn := fun _ => fun
  | [d] => { results := [.lit (.bool false)], args := [d] }
  | _ => none }
def FnDismantlingsWrongFalsely : Prop := fnDismantlingsRow.holds Tryz.pinned (OpenSpec.ofChange fnDismantlingsWrong)

/- THE SECOND FORM. 'bulk': how many values and letters a reading holds, each counted each time it is reached (what is shared counts as often as it is met; a slice's spare places count too). A statement '..UptoSaid' is the law's where the arguments, and the package variables that the reading takes, are together of bulk at most 1048576: NARROWER than '..Said'. Prove '..Said' where nothing that the law and all that it calls make is longer than what came in: it says more and counts as full. Else prove '..UptoSaid'. A law counts once. -/
mutual
def uptoBulk {H : Type} : DataW H → Nat
  | .lit (.string bytes) => bytes.length + 1
  | .lit _ => 1
  | .nil => 1
  | .ptr d => uptoBulk d + 1
  | .slice elems spare => uptoBulkAll elems + uptoBulkAll spare + 1
  | .agg parts => uptoBulkAll parts + 1
  | .iface _ d => uptoBulk d + 1
  | .map entries => uptoBulkEntries entries + 1
  | .held _ => 1
def uptoBulkAll {H : Type} : List (DataW H) → Nat
  | [] => 0
  | d :: r => uptoBulk d + uptoBulkAll r
def uptoBulkEntries {H : Type} : List (Lit × DataW H) → Nat
  | [] => 0
  | x :: r => uptoBulkEntry x + uptoBulkEntries r
def uptoBulkEntry {H : Type} : Lit × DataW H → Nat
  | (.string bytes, d) => bytes.length + uptoBulk d + 1
  | (_, d) => uptoBulk d + 1
 end
def uptoSmall : (H : Type) → List (DataW H) → Bool := fun _ ds => decide (uptoBulkAll ds ≤ 1048576)
def OpenSpec.upto (s : _root_.Go.ChangeSpec) : _root_.Go.OpenSpec := { _root_.Go.OpenSpec.ofChange s with cond := some uptoSmall }

/-- 'laws.FnExactShortestClearing', WHERE WHAT IT READS IS OF BULK AT MOST 1048576: true; the input reads as it did. -/
def fnExactShortestClearingUptoRow : OpenClaim := { program := "ytjniohefdfbeoaagreat", sum := "da829a23c34f7faa4879e6a1ad4aeac8746c8c7bb8375ee165cdbf05a9ad1cdc", func := "loop.example/g01109/laws.FnExactShortestClearing", spec := "fnExactShortestClearing", unfollowed := true, recurses := true, plainKeys := false, apart := false, narrowed := true }
def FnExactShortestClearingUptoSaid : Prop := fnExactShortestClearingUptoRow.holds Tryz.pinned (OpenSpec.upto fnExactShortestClearingSpec)

/-- 'laws.FnCopNumbers', WHERE WHAT IT READS IS OF BULK AT MOST 1048576: true; the input reads as it did. -/
def fnCopNumbersUptoRow : OpenClaim := { program := "ytjniohefdfbeoaagreat", sum := "da829a23c34f7faa4879e6a1ad4aeac8746c8c7bb8375ee165cdbf05a9ad1cdc", func := "loop.example/g01109/laws.FnCopNumbers", spec := "fnCopNumbers", unfollowed := true, recurses := true, plainKeys := false, apart := false, narrowed := true }
def FnCopNumbersUptoSaid : Prop := fnCopNumbersUptoRow.holds Tryz.pinned (OpenSpec.upto fnCopNumbersSpec)

/-- 'laws.FnBlindNumbers', WHERE WHAT IT READS IS OF BULK AT MOST 1048576: true; the input reads as it did. -/
def fnBlindNumbersUptoRow : OpenClaim := { program := "ytjniohefdfbeoaagreat", sum := "da829a23c34f7faa4879e6a1ad4aeac8746c8c7bb8375ee165cdbf05a9ad1cdc", func := "loop.example/g01109/laws.FnBlindNumbers", spec := "fnBlindNumbers", unfollowed := true, recurses := true, plainKeys := false, apart := false, narrowed := true }
def FnBlindNumbersUptoSaid : Prop := fnBlindNumbersUptoRow.holds Tryz.pinned (OpenSpec.upto fnBlindNumbersSpec)

/-- 'laws.FnDismantlings', WHERE WHAT IT READS IS OF BULK AT MOST 1048576: true; the input reads as it did. -/
def fnDismantlingsUptoRow : OpenClaim := { program := "ytjniohefdfbeoaagreat", sum := "da829a23c34f7faa4879e6a1ad4aeac8746c8c7bb8375ee165cdbf05a9ad1cdc", func := "loop.example/g01109/laws.FnDismantlings", spec := "fnDismantlings", unfollowed := true, recurses := true, plainKeys := false, apart := false, narrowed := true }
def FnDismantlingsUptoSaid : Prop := fnDismantlingsUptoRow.holds Tryz.pinned (OpenSpec.upto fnDismantlingsSpec)

end Rows
end Go.Proofs.YtjniohefdfbeoaaGreat
