/-
  No cell of these rows narrows 'for every input' (looked for: loops, veiled, ifaces, maps, wideKeys, modest, calm, conditions, laid).
  DERIVED. THE GIVEN ROWS OF THIS SEAT. 12 by the template 'for every input the law returns true; each argument reads behind the call as it read before'; 0 by the template 'total and deterministic' (their statements: YtmeglfoapdkhdaaTotals.lean).
  GIVEN WITH THE SEED: the statements are not yours to turn. If you find one false, say at which input.
  Laid BY PROGRAM, IN A SANDBOX (cutbox-rows.mjs): the forced cells as the released guide's own fill.sh prints them over the translation f1dcf6c48af16792… (all of the seat's roots in one cut). By AI agents, Wed Nov 11 2026. No macro, syntax, notation, axiom, sorry.
-/
import Derived.Test.YtmeglfoapdkhdaaChecked
import GoSem.Claim
import GoSem.ClaimJoined
import GoSem.ClaimMapViews
import Derived.JoinedTies
import Derived.KernelRfl
namespace Go.Proofs.Ytmeglfoapdkhdaa
/- THE CELL 'sum', in the pinned program and in every row, IS THE sha256 OF THE DUMP (.gsa) THAT YtmeglfoapdkhdaaProg.lean LOADS. Nothing in Lean hashes anything: it is a label: what it is worth is what the hold of that sum in a sandbox is worth. -/
noncomputable def Try.pinned : Pinned := { name := "ytmeglfoapdkhdaa", sum := "f1dcf6c48af16792437e83708b46fe47594092025208e71f88922515d818cd8b", checked := Try.checked }
namespace Rows
def none {H : Type} : Left H := { results := [], args := [] }

/-- 'laws.FnExactIsValidRecord': WHATEVER THE INPUT: true; the input reads as it did. -/
def fnExactIsValidRecordSpec : ChangeSpec := { name := "fnExactIsValidRecord", fn := fun _ => fun
  | [d] => { results := [.lit (.bool true)], args := [d] }
  | _ => none }
def fnExactIsValidRecordRow : OpenClaim := { program := "ytmeglfoapdkhdaa", sum := "f1dcf6c48af16792437e83708b46fe47594092025208e71f88922515d818cd8b", func := "loop.example/g01109/laws.FnExactIsValidRecord", spec := "fnExactIsValidRecord", inPlace := ["internal/bytealg.IndexByteString", "internal/bytealg.IndexString"], named := ["internal/bytealg.MaxLen"], apart := false }
def FnExactIsValidRecordSaid : Prop := fnExactIsValidRecordRow.holds Try.pinned (OpenSpec.ofChange fnExactIsValidRecordSpec)

/-- ITS FALSE NEIGHBOUR: 'it returns false'. Refute it at one input. -/
def fnExactIsValidRecordWrong : ChangeSpec := { name := "fnExactIsValidRecord", fn := fun _ => fun
  | [d] => { results := [.lit (.bool false)], args := [d] }
  | _ => none }
def FnExactIsValidRecordWrongFalsely : Prop := fnExactIsValidRecordRow.holds Try.pinned (OpenSpec.ofChange fnExactIsValidRecordWrong)

/-- 'laws.FnExactIsWorkshop': WHATEVER THE INPUT: true; the input reads as it did. -/
def fnExactIsWorkshopSpec : ChangeSpec := { name := "fnExactIsWorkshop", fn := fun _ => fun
  | [d] => { results := [.lit (.bool true)], args := [d] }
  | _ => none }
def fnExactIsWorkshopRow : OpenClaim := { program := "ytmeglfoapdkhdaa", sum := "f1dcf6c48af16792437e83708b46fe47594092025208e71f88922515d818cd8b", func := "loop.example/g01109/laws.FnExactIsWorkshop", spec := "fnExactIsWorkshop", apart := false }
def FnExactIsWorkshopSaid : Prop := fnExactIsWorkshopRow.holds Try.pinned (OpenSpec.ofChange fnExactIsWorkshopSpec)

/-- ITS FALSE NEIGHBOUR: 'it returns false'. Refute it at one input. -/
def fnExactIsWorkshopWrong : ChangeSpec := { name := "fnExactIsWorkshop", fn := fun _ => fun
  | [d] => { results := [.lit (.bool false)], args := [d] }
  | _ => none }
def FnExactIsWorkshopWrongFalsely : Prop := fnExactIsWorkshopRow.holds Try.pinned (OpenSpec.ofChange fnExactIsWorkshopWrong)

/-- 'laws.FnExactNewWorkshop': WHATEVER THE INPUT: true; the input reads as it did. -/
def fnExactNewWorkshopSpec : ChangeSpec := { name := "fnExactNewWorkshop", fn := fun _ => fun
  | [d] => { results := [.lit (.bool true)], args := [d] }
  | _ => none }
def fnExactNewWorkshopRow : OpenClaim := { program := "ytmeglfoapdkhdaa", sum := "f1dcf6c48af16792437e83708b46fe47594092025208e71f88922515d818cd8b", func := "loop.example/g01109/laws.FnExactNewWorkshop", spec := "fnExactNewWorkshop", apart := false }
def FnExactNewWorkshopSaid : Prop := fnExactNewWorkshopRow.holds Try.pinned (OpenSpec.ofChange fnExactNewWorkshopSpec)

/-- ITS FALSE NEIGHBOUR: 'it returns false'. Refute it at one input. -/
def fnExactNewWorkshopWrong : ChangeSpec := { name := "fnExactNewWorkshop", fn := fun _ => fun
  | [d] => { results := [.lit (.bool false)], args := [d] }
  | _ => none }
def FnExactNewWorkshopWrongFalsely : Prop := fnExactNewWorkshopRow.holds Try.pinned (OpenSpec.ofChange fnExactNewWorkshopWrong)

/-- 'laws.FnExactIsTimetable': WHATEVER THE INPUT: true; the input reads as it did. -/
def fnExactIsTimetableSpec : ChangeSpec := { name := "fnExactIsTimetable", fn := fun _ => fun
  | [d] => { results := [.lit (.bool true)], args := [d] }
  | _ => none }
def fnExactIsTimetableRow : OpenClaim := { program := "ytmeglfoapdkhdaa", sum := "f1dcf6c48af16792437e83708b46fe47594092025208e71f88922515d818cd8b", func := "loop.example/g01109/laws.FnExactIsTimetable", spec := "fnExactIsTimetable", unfollowed := true, recurses := true, apart := false }
def FnExactIsTimetableSaid : Prop := fnExactIsTimetableRow.holds Try.pinned (OpenSpec.ofChange fnExactIsTimetableSpec)

/-- ITS FALSE NEIGHBOUR: 'it returns false'. Refute it at one input. -/
def fnExactIsTimetableWrong : ChangeSpec := { name := "fnExactIsTimetable", fn := fun _ => fun
  | [d] => { results := [.lit (.bool false)], args := [d] }
  | _ => none }
def FnExactIsTimetableWrongFalsely : Prop := fnExactIsTimetableRow.holds Try.pinned (OpenSpec.ofChange fnExactIsTimetableWrong)

/-- 'laws.FnExactStaticTimetable': WHATEVER THE INPUT: true; the input reads as it did. -/
def fnExactStaticTimetableSpec : ChangeSpec := { name := "fnExactStaticTimetable", fn := fun _ => fun
  | [d] => { results := [.lit (.bool true)], args := [d] }
  | _ => none }
def fnExactStaticTimetableRow : OpenClaim := { program := "ytmeglfoapdkhdaa", sum := "f1dcf6c48af16792437e83708b46fe47594092025208e71f88922515d818cd8b", func := "loop.example/g01109/laws.FnExactStaticTimetable", spec := "fnExactStaticTimetable", apart := false }
def FnExactStaticTimetableSaid : Prop := fnExactStaticTimetableRow.holds Try.pinned (OpenSpec.ofChange fnExactStaticTimetableSpec)

/-- ITS FALSE NEIGHBOUR: 'it returns false'. Refute it at one input. -/
def fnExactStaticTimetableWrong : ChangeSpec := { name := "fnExactStaticTimetable", fn := fun _ => fun
  | [d] => { results := [.lit (.bool false)], args := [d] }
  | _ => none }
def FnExactStaticTimetableWrongFalsely : Prop := fnExactStaticTimetableRow.holds Try.pinned (OpenSpec.ofChange fnExactStaticTimetableWrong)

/-- 'laws.FnExactNewConsole': WHATEVER THE INPUT: true; the input reads as it did. -/
def fnExactNewConsoleSpec : ChangeSpec := { name := "fnExactNewConsole", fn := fun _ => fun
  | [d] => { results := [.lit (.bool true)], args := [d] }
  | _ => none }
def fnExactNewConsoleRow : OpenClaim := { program := "ytmeglfoapdkhdaa", sum := "f1dcf6c48af16792437e83708b46fe47594092025208e71f88922515d818cd8b", func := "loop.example/g01109/laws.FnExactNewConsole", spec := "fnExactNewConsole", apart := false }
def FnExactNewConsoleSaid : Prop := fnExactNewConsoleRow.holds Try.pinned (OpenSpec.ofChange fnExactNewConsoleSpec)

/-- ITS FALSE NEIGHBOUR: 'it returns false'. Refute it at one input. -/
def fnExactNewConsoleWrong : ChangeSpec := { name := "fnExactNewConsole", fn := fun _ => fun
  | [d] => { results := [.lit (.bool false)], args := [d] }
  | _ => none }
def FnExactNewConsoleWrongFalsely : Prop := fnExactNewConsoleRow.holds Try.pinned (OpenSpec.ofChange fnExactNewConsoleWrong)

/-- 'laws.FnExactOpenGraph': WHATEVER THE INPUT: true; the input reads as it did. -/
def fnExactOpenGraphSpec : ChangeSpec := { name := "fnExactOpenGraph", fn := fun _ => fun
  | [d1, d2] => { results := [.lit (.bool true)], args := [d1, d2] }
  | _ => none }
def fnExactOpenGraphRow : OpenClaim := { program := "ytmeglfoapdkhdaa", sum := "f1dcf6c48af16792437e83708b46fe47594092025208e71f88922515d818cd8b", func := "loop.example/g01109/laws.FnExactOpenGraph", spec := "fnExactOpenGraph", unfollowed := true, recurses := true, apart := false }
def FnExactOpenGraphSaid : Prop := fnExactOpenGraphRow.holds Try.pinned (OpenSpec.ofChange fnExactOpenGraphSpec)

/-- ITS FALSE NEIGHBOUR: 'it returns false'. Refute it at one input. -/
def fnExactOpenGraphWrong : ChangeSpec := { name := "fnExactOpenGraph", fn := fun _ => fun
  | [d1, d2] => { results := [.lit (.bool false)], args := [d1, d2] }
  | _ => none }
def FnExactOpenGraphWrongFalsely : Prop := fnExactOpenGraphRow.holds Try.pinned (OpenSpec.ofChange fnExactOpenGraphWrong)

/-- 'laws.FnExactEarliestArrival': WHATEVER THE INPUT: true; the input reads as it did. -/
def fnExactEarliestArrivalSpec : ChangeSpec := { name := "fnExactEarliestArrival", fn := fun _ => fun
  | [d1, d2, d3, d4] => { results := [.lit (.bool true)], args := [d1, d2, d3, d4] }
  | _ => none }
def fnExactEarliestArrivalRow : OpenClaim := { program := "ytmeglfoapdkhdaa", sum := "f1dcf6c48af16792437e83708b46fe47594092025208e71f88922515d818cd8b", func := "loop.example/g01109/laws.FnExactEarliestArrival", spec := "fnExactEarliestArrival", unfollowed := true, recurses := true, apart := false }
def FnExactEarliestArrivalSaid : Prop := fnExactEarliestArrivalRow.holds Try.pinned (OpenSpec.ofChange fnExactEarliestArrivalSpec)

/-- ITS FALSE NEIGHBOUR: 'it returns false'. Refute it at one input. -/
def fnExactEarliestArrivalWrong : ChangeSpec := { name := "fnExactEarliestArrival", fn := fun _ => fun
  | [d1, d2, d3, d4] => { results := [.lit (.bool false)], args := [d1, d2, d3, d4] }
  | _ => none }
def FnExactEarliestArrivalWrongFalsely : Prop := fnExactEarliestArrivalRow.holds Try.pinned (OpenSpec.ofChange fnExactEarliestArrivalWrong)

/-- 'laws.FnExactReachedBy': WHATEVER THE INPUT: true; the input reads as it did. -/
def fnExactReachedBySpec : ChangeSpec := { name := "fnExactReachedBy", fn := fun _ => fun
  | [d1, d2, d3, d4] => { results := [.lit (.bool true)], args := [d1, d2, d3, d4] }
  | _ => none }
def fnExactReachedByRow : OpenClaim := { program := "ytmeglfoapdkhdaa", sum := "f1dcf6c48af16792437e83708b46fe47594092025208e71f88922515d818cd8b", func := "loop.example/g01109/laws.FnExactReachedBy", spec := "fnExactReachedBy", unfollowed := true, recurses := true, apart := false }
def FnExactReachedBySaid : Prop := fnExactReachedByRow.holds Try.pinned (OpenSpec.ofChange fnExactReachedBySpec)

/-- ITS FALSE NEIGHBOUR: 'it returns false'. Refute it at one input. -/
def fnExactReachedByWrong : ChangeSpec := { name := "fnExactReachedBy", fn := fun _ => fun
  | [d1, d2, d3, d4] => { results := [.lit (.bool false)], args := [d1, d2, d3, d4] }
  | _ => none }
def FnExactReachedByWrongFalsely : Prop := fnExactReachedByRow.holds Try.pinned (OpenSpec.ofChange fnExactReachedByWrong)

/-- 'laws.FnExactChaseTime': WHATEVER THE INPUT: true; the input reads as it did. -/
def fnExactChaseTimeSpec : ChangeSpec := { name := "fnExactChaseTime", fn := fun _ => fun
  | [d] => { results := [.lit (.bool true)], args := [d] }
  | _ => none }
def fnExactChaseTimeRow : OpenClaim := { program := "ytmeglfoapdkhdaa", sum := "f1dcf6c48af16792437e83708b46fe47594092025208e71f88922515d818cd8b", func := "loop.example/g01109/laws.FnExactChaseTime", spec := "fnExactChaseTime", unfollowed := true, recurses := true, apart := false }
def FnExactChaseTimeSaid : Prop := fnExactChaseTimeRow.holds Try.pinned (OpenSpec.ofChange fnExactChaseTimeSpec)

/-- ITS FALSE NEIGHBOUR: 'it returns false'. Refute it at one input. -/
def fnExactChaseTimeWrong : ChangeSpec := { name := "fnExactChaseTime", fn := fun _ => fun
  | [d] => { results := [.lit (.bool false)], args := [d] }
  | _ => none }
def FnExactChaseTimeWrongFalsely : Prop := fnExactChaseTimeRow.holds Try.pinned (OpenSpec.ofChange fnExactChaseTimeWrong)

/-- 'laws.FnExactEarliestTrip': WHATEVER THE INPUT: true; the input reads as it did. -/
def fnExactEarliestTripSpec : ChangeSpec := { name := "fnExactEarliestTrip", fn := fun _ => fun
  | [d1, d2, d3, d4] => { results := [.lit (.bool true)], args := [d1, d2, d3, d4] }
  | _ => none }
def fnExactEarliestTripRow : OpenClaim := { program := "ytmeglfoapdkhdaa", sum := "f1dcf6c48af16792437e83708b46fe47594092025208e71f88922515d818cd8b", func := "loop.example/g01109/laws.FnExactEarliestTrip", spec := "fnExactEarliestTrip", unfollowed := true, recurses := true, apart := false }
def FnExactEarliestTripSaid : Prop := fnExactEarliestTripRow.holds Try.pinned (OpenSpec.ofChange fnExactEarliestTripSpec)

/-- ITS FALSE NEIGHBOUR: 'it returns false'. Refute it at one input. -/
def fnExactEarliestTripWrong : ChangeSpec := { name := "fnExactEarliestTrip", fn := fun _ => fun
  | [d1, d2, d3, d4] => { results := [.lit (.bool false)], args := [d1, d2, d3, d4] }
  | _ => none }
def FnExactEarliestTripWrongFalsely : Prop := fnExactEarliestTripRow.holds Try.pinned (OpenSpec.ofChange fnExactEarliestTripWrong)

/-- 'laws.FnExactIsTimedProof': WHATEVER THE INPUT: true; the input reads as it did. -/
def fnExactIsTimedProofSpec : ChangeSpec := { name := "fnExactIsTimedProof", fn := fun _ => fun
  | [d1, d2] => { results := [.lit (.bool true)], args := [d1, d2] }
  | _ => none }
def fnExactIsTimedProofRow : OpenClaim := { program := "ytmeglfoapdkhdaa", sum := "f1dcf6c48af16792437e83708b46fe47594092025208e71f88922515d818cd8b", func := "loop.example/g01109/laws.FnExactIsTimedProof", spec := "fnExactIsTimedProof", unfollowed := true, recurses := true, apart := false }
def FnExactIsTimedProofSaid : Prop := fnExactIsTimedProofRow.holds Try.pinned (OpenSpec.ofChange fnExactIsTimedProofSpec)

/-- ITS FALSE NEIGHBOUR: 'it returns false'. Refute it at one input. -/
def fnExactIsTimedProofWrong : ChangeSpec := { name := "fnExactIsTimedProof", fn := fun _ => fun
  | [d1, d2] => { results := [.lit (.bool false)], args := [d1, d2] }
  | _ => none }
def FnExactIsTimedProofWrongFalsely : Prop := fnExactIsTimedProofRow.holds Try.pinned (OpenSpec.ofChange fnExactIsTimedProofWrong)

/- THE SECOND FORM. 'bulk': how many values and letters a reading holds, each counted each time it is reached (what is shared counts as often as it is met; a slice's spare places count too). A statement '..UptoSaid' is the law's where the arguments, and the package variables that the reading takes, are together of bulk at most 1048576: NARROWER than '..Said'. Prove '..Said' where nothing that the law and all that it calls make is longer than what came in: it says more and counts as full. Else prove '..UptoSaid'. A law counts once. -/
mutual
def uptoBulk {H : Type} : DataW H → Nat
  | .lit (.string bytes) => bytes.length + 1
  | .lit _ => 1
  | .nil => 1
  | .ptr d => uptoBulk d + 1
  | .slice elems spare => uptoBulkAll elems + uptoBulkAll spare + 1
  | .agg parts => uptoBulkAll parts + 1
  | .iface _ d => uptoBulk d + 1
  | .map entries => uptoBulkEntries entries + 1
  | .held _ => 1
def uptoBulkAll {H : Type} : List (DataW H) → Nat
  | [] => 0
  | d :: r => uptoBulk d + uptoBulkAll r
def uptoBulkEntries {H : Type} : List (Lit × DataW H) → Nat
  | [] => 0
  | x :: r => uptoBulkEntry x + uptoBulkEntries r
def uptoBulkEntry {H : Type} : Lit × DataW H → Nat
  | (.string bytes, d) => bytes.length + uptoBulk d + 1
  | (_, d) => uptoBulk d + 1
 end
def uptoSmall : (H : Type) → List (DataW H) → Bool := fun _ ds => decide (uptoBulkAll ds ≤ 1048576)
def OpenSpec.upto (s : _root_.Go.ChangeSpec) : _root_.Go.OpenSpec := { _root_.Go.OpenSpec.ofChange s with cond := some uptoSmall }

/-- 'laws.FnExactIsValidRecord', WHERE WHAT IT READS IS OF BULK AT MOST 1048576: true; the input reads as it did. -/
def fnExactIsValidRecordUptoRow : OpenClaim := { program := "ytmeglfoapdkhdaa", sum := "f1dcf6c48af16792437e83708b46fe47594092025208e71f88922515d818cd8b", func := "loop.example/g01109/laws.FnExactIsValidRecord", spec := "fnExactIsValidRecord", inPlace := ["internal/bytealg.IndexByteString", "internal/bytealg.IndexString"], named := ["internal/bytealg.MaxLen"], apart := false, narrowed := true }
def FnExactIsValidRecordUptoSaid : Prop := fnExactIsValidRecordUptoRow.holds Try.pinned (OpenSpec.upto fnExactIsValidRecordSpec)

/-- 'laws.FnExactIsWorkshop', WHERE WHAT IT READS IS OF BULK AT MOST 1048576: true; the input reads as it did. -/
def fnExactIsWorkshopUptoRow : OpenClaim := { program := "ytmeglfoapdkhdaa", sum := "f1dcf6c48af16792437e83708b46fe47594092025208e71f88922515d818cd8b", func := "loop.example/g01109/laws.FnExactIsWorkshop", spec := "fnExactIsWorkshop", apart := false, narrowed := true }
def FnExactIsWorkshopUptoSaid : Prop := fnExactIsWorkshopUptoRow.holds Try.pinned (OpenSpec.upto fnExactIsWorkshopSpec)

/-- 'laws.FnExactNewWorkshop', WHERE WHAT IT READS IS OF BULK AT MOST 1048576: true; the input reads as it did. -/
def fnExactNewWorkshopUptoRow : OpenClaim := { program := "ytmeglfoapdkhdaa", sum := "f1dcf6c48af16792437e83708b46fe47594092025208e71f88922515d818cd8b", func := "loop.example/g01109/laws.FnExactNewWorkshop", spec := "fnExactNewWorkshop", apart := false, narrowed := true }
def FnExactNewWorkshopUptoSaid : Prop := fnExactNewWorkshopUptoRow.holds Try.pinned (OpenSpec.upto fnExactNewWorkshopSpec)

/-- 'laws.FnExactIsTimetable', WHERE WHAT IT READS IS OF BULK AT MOST 1048576: true; the input reads as it did. -/
def fnExactIsTimetableUptoRow : OpenClaim := { program := "ytmeglfoapdkhdaa", sum := "f1dcf6c48af16792437e83708b46fe47594092025208e71f88922515d818cd8b", func := "loop.example/g01109/laws.FnExactIsTimetable", spec := "fnExactIsTimetable", unfollowed := true, recurses := true, apart := false, narrowed := true }
def FnExactIsTimetableUptoSaid : Prop := fnExactIsTimetableUptoRow.holds Try.pinned (OpenSpec.upto fnExactIsTimetableSpec)

/-- 'laws.FnExactStaticTimetable', WHERE WHAT IT READS IS OF BULK AT MOST 1048576: true; the input reads as it did. -/
def fnExactStaticTimetableUptoRow : OpenClaim := { program := "ytmeglfoapdkhdaa", sum := "f1dcf6c48af16792437e83708b46fe47594092025208e71f88922515d818cd8b", func := "loop.example/g01109/laws.FnExactStaticTimetable", spec := "fnExactStaticTimetable", apart := false, narrowed := true }
def FnExactStaticTimetableUptoSaid : Prop := fnExactStaticTimetableUptoRow.holds Try.pinned (OpenSpec.upto fnExactStaticTimetableSpec)

/-- 'laws.FnExactNewConsole', WHERE WHAT IT READS IS OF BULK AT MOST 1048576: true; the input reads as it did. -/
def fnExactNewConsoleUptoRow : OpenClaim := { program := "ytmeglfoapdkhdaa", sum := "f1dcf6c48af16792437e83708b46fe47594092025208e71f88922515d818cd8b", func := "loop.example/g01109/laws.FnExactNewConsole", spec := "fnExactNewConsole", apart := false, narrowed := true }
def FnExactNewConsoleUptoSaid : Prop := fnExactNewConsoleUptoRow.holds Try.pinned (OpenSpec.upto fnExactNewConsoleSpec)

/-- 'laws.FnExactOpenGraph', WHERE WHAT IT READS IS OF BULK AT MOST 1048576: true; the input reads as it did. -/
def fnExactOpenGraphUptoRow : OpenClaim := { program := "ytmeglfoapdkhdaa", sum := "f1dcf6c48af16792437e83708b46fe47594092025208e71f88922515d818cd8b", func := "loop.example/g01109/laws.FnExactOpenGraph", spec := "fnExactOpenGraph", unfollowed := true, recurses := true, apart := false, narrowed := true }
def FnExactOpenGraphUptoSaid : Prop := fnExactOpenGraphUptoRow.holds Try.pinned (OpenSpec.upto fnExactOpenGraphSpec)

/-- 'laws.FnExactEarliestArrival', WHERE WHAT IT READS IS OF BULK AT MOST 1048576: true; the input reads as it did. -/
def fnExactEarliestArrivalUptoRow : OpenClaim := { program := "ytmeglfoapdkhdaa", sum := "f1dcf6c48af16792437e83708b46fe47594092025208e71f88922515d818cd8b", func := "loop.example/g01109/laws.FnExactEarliestArrival", spec := "fnExactEarliestArrival", unfollowed := true, recurses := true, apart := false, narrowed := true }
def FnExactEarliestArrivalUptoSaid : Prop := fnExactEarliestArrivalUptoRow.holds Try.pinned (OpenSpec.upto fnExactEarliestArrivalSpec)

/-- 'laws.FnExactReachedBy', WHERE WHAT IT READS IS OF BULK AT MOST 1048576: true; the input reads as it did. -/
def fnExactReachedByUptoRow : OpenClaim := { program := "ytmeglfoapdkhdaa", sum := "f1dcf6c48af16792437e83708b46fe47594092025208e71f88922515d818cd8b", func := "loop.example/g01109/laws.FnExactReachedBy", spec := "fnExactReachedBy", unfollowed := true, recurses := true, apart := false, narrowed := true }
def FnExactReachedByUptoSaid : Prop := fnExactReachedByUptoRow.holds Try.pinned (OpenSpec.upto fnExactReachedBySpec)

/-- 'laws.FnExactChaseTime', WHERE WHAT IT READS IS OF BULK AT MOST 1048576: true; the input reads as it did. -/
def fnExactChaseTimeUptoRow : OpenClaim := { program := "ytmeglfoapdkhdaa", sum := "f1dcf6c48af16792437e83708b46fe47594092025208e71f88922515d818cd8b", func := "loop.example/g01109/laws.FnExactChaseTime", spec := "fnExactChaseTime", unfollowed := true, recurses := true, apart := false, narrowed := true }
def FnExactChaseTimeUptoSaid : Prop := fnExactChaseTimeUptoRow.holds Try.pinned (OpenSpec.upto fnExactChaseTimeSpec)

/-- 'laws.FnExactEarliestTrip', WHERE WHAT IT READS IS OF BULK AT MOST 1048576: true; the input reads as it did. -/
def fnExactEarliestTripUptoRow : OpenClaim := { program := "ytmeglfoapdkhdaa", sum := "f1dcf6c48af16792437e83708b46fe47594092025208e71f88922515d818cd8b", func := "loop.example/g01109/laws.FnExactEarliestTrip", spec := "fnExactEarliestTrip", unfollowed := true, recurses := true, apart := false, narrowed := true }
def FnExactEarliestTripUptoSaid : Prop := fnExactEarliestTripUptoRow.holds Try.pinned (OpenSpec.upto fnExactEarliestTripSpec)

/-- 'laws.FnExactIsTimedProof', WHERE WHAT IT READS IS OF BULK AT MOST 1048576: true; the input reads as it did. -/
def fnExactIsTimedProofUptoRow : OpenClaim := { program := "ytmeglfoapdkhdaa", sum := "f1dcf6c48af16792437e83708b46fe47594092025208e71f88922515d818cd8b", func := "loop.example/g01109/laws.FnExactIsTimedProof", spec := "fnExactIsTimedProof", unfollowed := true, recurses := true, apart := false, narrowed := true }
def FnExactIsTimedProofUptoSaid : Prop := fnExactIsTimedProofUptoRow.holds Try.pinned (OpenSpec.upto fnExactIsTimedProofSpec)

end Rows
end Go.Proofs.Ytmeglfoapdkhdaa
