/-
  No cell of these rows narrows 'for every input' (looked for: loops, veiled, ifaces, maps, wideKeys, modest, calm, conditions, laid).
  DERIVED. THE GIVEN ROWS OF THIS SEAT. 2 by the template 'for every input the law returns true; each argument reads behind the call as it read before'; 0 by the template 'total and deterministic' (their statements: YtjniohefdfbeoaaTotals.lean).
  GIVEN WITH THE SEED: the statements are not yours to turn. If you find one false, say at which input.
  Laid BY PROGRAM, IN A SANDBOX (cutbox-rows.mjs): the forced cells as the released guide's own fill.sh prints them over the translation df2312ce9e1e457e… (all of the seat's roots in one cut). By AI agents, Wed Nov 11 2026. No macro, syntax, notation, axiom, sorry.
-/
import Derived.Test.YtjniohefdfbeoaaChecked
import GoSem.Claim
import GoSem.ClaimJoined
import GoSem.ClaimMapViews
import Derived.JoinedTies
import Derived.KernelRfl
namespace Go.Proofs.Ytjniohefdfbeoaa
/- THE CELL 'sum', in the pinned program and in every row, IS THE sha256 OF THE DUMP (.gsa) THAT YtjniohefdfbeoaaProg.lean LOADS. Nothing in Lean hashes anything: it is a label: what it is worth is what the hold of that sum in a sandbox is worth. -/
noncomputable def Try.pinned : Pinned := { name := "ytjniohefdfbeoaa", sum := "df2312ce9e1e457e359dce5c2b08da61f00f968356d9c97e1afa72472012602c", checked := Try.checked }
namespace Rows
def none {H : Type} : Left H := { results := [], args := [] }

/-- 'laws.FnTimetables': WHATEVER THE INPUT: true; the input reads as it did. -/
def fnTimetablesSpec : ChangeSpec := { name := "fnTimetables", fn := fun _ => fun
  | [d] => { results := [.lit (.bool true)], args := [d] }
  | _ => none }
def fnTimetablesRow : OpenClaim := { program := "ytjniohefdfbeoaa", sum := "df2312ce9e1e457e359dce5c2b08da61f00f968356d9c97e1afa72472012602c", func := "loop.example/g01109/laws.FnTimetables", spec := "fnTimetables", unfollowed := true, recurses := true, plainKeys := false, apart := false }
def FnTimetablesSaid : Prop := fnTimetablesRow.holds Try.pinned (OpenSpec.ofChange fnTimetablesSpec)

/-- ITS FALSE NEIGHBOUR: 'it returns false'. Refute it at one input. -/
def fnTimetablesWrong : ChangeSpec := { name := "fnTimetables", fn := fun _ => fun
  | [d] => { results := [.lit (.bool false)], args := [d] }
  | _ => none }
def FnTimetablesWrongFalsely : Prop := fnTimetablesRow.holds Try.pinned (OpenSpec.ofChange fnTimetablesWrong)

/-- 'laws.FnExactBlindNumber': WHATEVER THE INPUT: true; the input reads as it did. -/
def fnExactBlindNumberSpec : ChangeSpec := { name := "fnExactBlindNumber", fn := fun _ => fun
  | [d] => { results := [.lit (.bool true)], args := [d] }
  | _ => none }
def fnExactBlindNumberRow : OpenClaim := { program := "ytjniohefdfbeoaa", sum := "df2312ce9e1e457e359dce5c2b08da61f00f968356d9c97e1afa72472012602c", func := "loop.example/g01109/laws.FnExactBlindNumber", spec := "fnExactBlindNumber", unfollowed := true, recurses := true, plainKeys := false, apart := false }
def FnExactBlindNumberSaid : Prop := fnExactBlindNumberRow.holds Try.pinned (OpenSpec.ofChange fnExactBlindNumberSpec)

/-- ITS FALSE NEIGHBOUR: 'it returns false'. Refute it at one input. -/
def fnExactBlindNumberWrong : ChangeSpec := { name := "fnExactBlindNumber", fn := fun _ => fun
  | [d] => { results := [.lit (.bool false)], args := [d] }
  | _ => none }
def FnExactBlindNumberWrongFalsely : Prop := fnExactBlindNumberRow.holds Try.pinned (OpenSpec.ofChange fnExactBlindNumberWrong)

/- THE SECOND FORM. 'bulk': how many values and letters a reading holds, each counted each time it is reached (what is shared counts as often as it is met; a slice's spare places count too). A statement '..UptoSaid' is the law's where the arguments, and the package variables that the reading takes, are together of bulk at most 1048576: NARROWER than '..Said'. Prove '..Said' where nothing that the law and all that it calls make is longer than what came in: it says more and counts as full. Else prove '..UptoSaid'. A law counts once. -/
mutual
def uptoBulk {H : Type} : DataW H → Nat
  | .lit (.string bytes) => bytes.length + 1
  | .lit _ => 1
  | .nil => 1
  | .ptr d => uptoBulk d + 1
  | .slice elems spare => uptoBulkAll elems + uptoBulkAll spare + 1
  | .agg parts => uptoBulkAll parts + 1
  | .iface _ d => uptoBulk d + 1
  | .map entries => uptoBulkEntries entries + 1
  | .held _ => 1
def uptoBulkAll {H : Type} : List (DataW H) → Nat
  | [] => 0
  | d :: r => uptoBulk d + uptoBulkAll r
def uptoBulkEntries {H : Type} : List (Lit × DataW H) → Nat
  | [] => 0
  | x :: r => uptoBulkEntry x + uptoBulkEntries r
def uptoBulkEntry {H : Type} : Lit × DataW H → Nat
  | (.string bytes, d) => bytes.length + uptoBulk d + 1
  | (_, d) => uptoBulk d + 1
 end
def uptoSmall : (H : Type) → List (DataW H) → Bool := fun _ ds => decide (uptoBulkAll ds ≤ 1048576)
def OpenSpec.upto (s : _root_.Go.ChangeSpec) : _root_.Go.OpenSpec := { _root_.Go.OpenSpec.ofChange s with cond := some uptoSmall }

/-- 'laws.FnTimetables', WHERE WHAT IT READS IS OF BULK AT MOST 1048576: true; the input reads as it did. -/
def fnTimetablesUptoRow : OpenClaim := { program := "ytjniohefdfbeoaa", sum := "df2312ce9e1e457e359dce5c2b08da61f00f968356d9c97e1afa72472012602c", func := "loop.example/g01109/laws.FnTimetables", spec := "fnTimetables", unfollowed := true, recurses := true, plainKeys := false, apart := false, narrowed := true }
def FnTimetablesUptoSaid : Prop := fnTimetablesUptoRow.holds Try.pinned (OpenSpec.upto fnTimetablesSpec)

/-- 'laws.FnExactBlindNumber', WHERE WHAT IT READS IS OF BULK AT MOST 1048576: true; the input reads as it did. -/
def fnExactBlindNumberUptoRow : OpenClaim := { program := "ytjniohefdfbeoaa", sum := "df2312ce9e1e457e359dce5c2b08da61f00f968356d9c97e1afa72472012602c", func := "loop.example/g01109/laws.FnExactBlindNumber", spec := "fnExactBlindNumber", unfollowed := true, recurses := true, plainKeys := false, apart := false, narrowed := true }
def FnExactBlindNumberUptoSaid : Prop := fnExactBlindNumberUptoRow.holds Try.pinned (OpenSpec.upto fnExactBlindNumberSpec)

end Rows
end Go.Proofs.Ytjniohefdfbeoaa
