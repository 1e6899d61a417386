/-
  No cell of these rows narrows 'for every input' (looked for: loops, veiled, ifaces, maps, wideKeys, modest, calm, conditions, laid).
  DERIVED. THE GIVEN ROWS OF THIS SEAT. 6 by the template 'for every input the law returns true; each argument reads behind the call as it read before'; 0 by the template 'total and deterministic' (their statements: YtnieoolfkakmdaaGreatTotals.lean).
  GIVEN WITH THE SEED: the statements are not yours to turn. If you find one false, say at which input.
  Laid BY PROGRAM, IN A SANDBOX (cutbox-rows.mjs): the forced cells as the released guide's own fill.sh prints them over the translation 2553fb6013fa403d… (all of the seat's roots in one cut). By AI agents, Wed Nov 11 2026. No macro, syntax, notation, axiom, sorry.
-/
import Derived.Test.YtnieoolfkakmdaaGreatChecked
import GoSem.Claim
import GoSem.ClaimJoined
import GoSem.ClaimMapViews
import Derived.JoinedTies
import Derived.KernelRfl
namespace Go.Proofs.YtnieoolfkakmdaaGreat
/- THE CELL 'sum', in the pinned program and in every row, IS THE sha256 OF THE DUMP (.gsa) THAT YtnieoolfkakmdaaGreatProg.lean LOADS. Nothing in Lean hashes anything: it is a label: what it is worth is what the hold of that sum in a sandbox is worth. -/
noncomputable def Tryz.pinned : Pinned := { name := "ytnieoolfkakmdaagreat", sum := "2553fb6013fa403d94c43c38cf09c701b290411cad5d1bc07dc29b661a86f597", checked := Tryz.checked }
namespace Rows
def none {H : Type} : Left H := { results := [], args := [] }

/-- 'laws.FnEvasions': WHATEVER THE INPUT: true; the input reads as it did. -/
def fnEvasionsSpec : ChangeSpec := { name := "fnEvasions", fn := fun _ => fun
  | [d] => { results := [.lit (.bool true)], args := [d] }
  | _ => none }
def fnEvasionsRow : OpenClaim := { program := "ytnieoolfkakmdaagreat", sum := "2553fb6013fa403d94c43c38cf09c701b290411cad5d1bc07dc29b661a86f597", func := "loop.example/g01109/laws.FnEvasions", spec := "fnEvasions", unfollowed := true, recurses := true, apart := false }
def FnEvasionsSaid : Prop := fnEvasionsRow.holds Tryz.pinned (OpenSpec.ofChange fnEvasionsSpec)

/-- ITS FALSE NEIGHBOUR: 'it returns false'. Refute it at one input. -/
def fnEvasionsWrong : ChangeSpec := { name := "fnEvasions", fn := fun _ => fun
  | [d] => { results := [.lit (.bool false)], args := [d] }
  | _ => none }
def FnEvasionsWrongFalsely : Prop := fnEvasionsRow.holds Tryz.pinned (OpenSpec.ofChange fnEvasionsWrong)

/-- 'laws.FnOneCop': WHATEVER THE INPUT: true; the input reads as it did. -/
def fnOneCopSpec : ChangeSpec := { name := "fnOneCop", fn := fun _ => fun
  | [d] => { results := [.lit (.bool true)], args := [d] }
  | _ => none }
def fnOneCopRow : OpenClaim := { program := "ytnieoolfkakmdaagreat", sum := "2553fb6013fa403d94c43c38cf09c701b290411cad5d1bc07dc29b661a86f597", func := "loop.example/g01109/laws.FnOneCop", spec := "fnOneCop", unfollowed := true, recurses := true, apart := false }
def FnOneCopSaid : Prop := fnOneCopRow.holds Tryz.pinned (OpenSpec.ofChange fnOneCopSpec)

/-- ITS FALSE NEIGHBOUR: 'it returns false'. Refute it at one input. -/
def fnOneCopWrong : ChangeSpec := { name := "fnOneCop", fn := fun _ => fun
  | [d] => { results := [.lit (.bool false)], args := [d] }
  | _ => none }
def FnOneCopWrongFalsely : Prop := fnOneCopRow.holds Tryz.pinned (OpenSpec.ofChange fnOneCopWrong)

/-- 'laws.FnBlindWalks': WHATEVER THE INPUT: true; the input reads as it did. -/
def fnBlindWalksSpec : ChangeSpec := { name := "fnBlindWalks", fn := fun _ => fun
  | [d] => { results := [.lit (.bool true)], args := [d] }
  | _ => none }
def fnBlindWalksRow : OpenClaim := { program := "ytnieoolfkakmdaagreat", sum := "2553fb6013fa403d94c43c38cf09c701b290411cad5d1bc07dc29b661a86f597", func := "loop.example/g01109/laws.FnBlindWalks", spec := "fnBlindWalks", unfollowed := true, recurses := true, apart := false }
def FnBlindWalksSaid : Prop := fnBlindWalksRow.holds Tryz.pinned (OpenSpec.ofChange fnBlindWalksSpec)

/-- ITS FALSE NEIGHBOUR: 'it returns false'. Refute it at one input. -/
def fnBlindWalksWrong : ChangeSpec := { name := "fnBlindWalks", fn := fun _ => fun
  | [d] => { results := [.lit (.bool false)], args := [d] }
  | _ => none }
def FnBlindWalksWrongFalsely : Prop := fnBlindWalksRow.holds Tryz.pinned (OpenSpec.ofChange fnBlindWalksWrong)

/-- 'laws.FnCapture': WHATEVER THE INPUT: true; the input reads as it did. -/
def fnCaptureSpec : ChangeSpec := { name := "fnCapture", fn := fun _ => fun
  | [d] => { results := [.lit (.bool true)], args := [d] }
  | _ => none }
def fnCaptureRow : OpenClaim := { program := "ytnieoolfkakmdaagreat", sum := "2553fb6013fa403d94c43c38cf09c701b290411cad5d1bc07dc29b661a86f597", func := "loop.example/g01109/laws.FnCapture", spec := "fnCapture", unfollowed := true, recurses := true, apart := false }
def FnCaptureSaid : Prop := fnCaptureRow.holds Tryz.pinned (OpenSpec.ofChange fnCaptureSpec)

/-- ITS FALSE NEIGHBOUR: 'it returns false'. Refute it at one input. -/
def fnCaptureWrong : ChangeSpec := { name := "fnCapture", fn := fun _ => fun
  | [d] => { results := [.lit (.bool false)], args := [d] }
  | _ => none }
def FnCaptureWrongFalsely : Prop := fnCaptureRow.holds Tryz.pinned (OpenSpec.ofChange fnCaptureWrong)

/-- 'laws.FnCopPlay': WHATEVER THE INPUT: true; the input reads as it did. -/
def fnCopPlaySpec : ChangeSpec := { name := "fnCopPlay", fn := fun _ => fun
  | [d] => { results := [.lit (.bool true)], args := [d] }
  | _ => none }
def fnCopPlayRow : OpenClaim := { program := "ytnieoolfkakmdaagreat", sum := "2553fb6013fa403d94c43c38cf09c701b290411cad5d1bc07dc29b661a86f597", func := "loop.example/g01109/laws.FnCopPlay", spec := "fnCopPlay", unfollowed := true, recurses := true, apart := false }
def FnCopPlaySaid : Prop := fnCopPlayRow.holds Tryz.pinned (OpenSpec.ofChange fnCopPlaySpec)

/-- ITS FALSE NEIGHBOUR: 'it returns false'. Refute it at one input. -/
def fnCopPlayWrong : ChangeSpec := { name := "fnCopPlay", fn := fun _ => fun
  | [d] => { results := [.lit (.bool false)], args := [d] }
  | _ => none }
def FnCopPlayWrongFalsely : Prop := fnCopPlayRow.holds Tryz.pinned (OpenSpec.ofChange fnCopPlayWrong)

/-- 'laws.FnTimedGame': WHATEVER THE INPUT: true; the input reads as it did. -/
def fnTimedGameSpec : ChangeSpec := { name := "fnTimedGame", fn := fun _ => fun
  | [d] => { results := [.lit (.bool true)], args := [d] }
  | _ => none }
def fnTimedGameRow : OpenClaim := { program := "ytnieoolfkakmdaagreat", sum := "2553fb6013fa403d94c43c38cf09c701b290411cad5d1bc07dc29b661a86f597", func := "loop.example/g01109/laws.FnTimedGame", spec := "fnTimedGame", unfollowed := true, recurses := true, apart := false }
def FnTimedGameSaid : Prop := fnTimedGameRow.holds Tryz.pinned (OpenSpec.ofChange fnTimedGameSpec)

/-- ITS FALSE NEIGHBOUR: 'it returns false'. Refute it at one input. -/
def fnTimedGameWrong : ChangeSpec := { name := "fnTimedGame", fn := fun _ => fun
  | [d] => { results := [.lit (.bool false)], args := [d] }
  | _ => none }
def FnTimedGameWrongFalsely : Prop := fnTimedGameRow.holds Tryz.pinned (OpenSpec.ofChange fnTimedGameWrong)

/- THE SECOND FORM. 'bulk': how many values and letters a reading holds, each counted each time it is reached (what is shared counts as often as it is met; a slice's spare places count too). A statement '..UptoSaid' is the law's where the arguments, and the package variables that the reading takes, are together of bulk at most 1048576: NARROWER than '..Said'. Prove '..Said' where nothing that the law and all that it calls make is longer than what came in: it says more and counts as full. Else prove '..UptoSaid'. A law counts once. -/
mutual
def uptoBulk {H : Type} : DataW H → Nat
  | .lit (.string bytes) => bytes.length + 1
  | .lit _ => 1
  | .nil => 1
  | .ptr d => uptoBulk d + 1
  | .slice elems spare => uptoBulkAll elems + uptoBulkAll spare + 1
  | .agg parts => uptoBulkAll parts + 1
  | .iface _ d => uptoBulk d + 1
  | .map entries => uptoBulkEntries entries + 1
  | .held _ => 1
def uptoBulkAll {H : Type} : List (DataW H) → Nat
  | [] => 0
  | d :: r => uptoBulk d + uptoBulkAll r
def uptoBulkEntries {H : Type} : List (Lit × DataW H) → Nat
  | [] => 0
  | x :: r => uptoBulkEntry x + uptoBulkEntries r
def uptoBulkEntry {H : Type} : Lit × DataW H → Nat
  | (.string bytes, d) => bytes.length + uptoBulk d + 1
  | (_, d) => uptoBulk d + 1
 end
def uptoSmall : (H : Type) → List (DataW H) → Bool := fun _ ds => decide (uptoBulkAll ds ≤ 1048576)
def OpenSpec.upto (s : _root_.Go.ChangeSpec) : _root_.Go.OpenSpec := { _root_.Go.OpenSpec.ofChange s with cond := some uptoSmall }

/-- 'laws.FnEvasions', WHERE WHAT IT READS IS OF BULK AT MOST 1048576: true; the input reads as it did. -/
def fnEvasionsUptoRow : OpenClaim := { program := "ytnieoolfkakmdaagreat", sum := "2553fb6013fa403d94c43c38cf09c701b290411cad5d1bc07dc29b661a86f597", func := "loop.example/g01109/laws.FnEvasions", spec := "fnEvasions", unfollowed := true, recurses := true, apart := false, narrowed := true }
def FnEvasionsUptoSaid : Prop := fnEvasionsUptoRow.holds Tryz.pinned (OpenSpec.upto fnEvasionsSpec)

/-- 'laws.FnOneCop', WHERE WHAT IT READS IS OF BULK AT MOST 1048576: true; the input reads as it did. -/
def fnOneCopUptoRow : OpenClaim := { program := "ytnieoolfkakmdaagreat", sum := "2553fb6013fa403d94c43c38cf09c701b290411cad5d1bc07dc29b661a86f597", func := "loop.example/g01109/laws.FnOneCop", spec := "fnOneCop", unfollowed := true, recurses := true, apart := false, narrowed := true }
def FnOneCopUptoSaid : Prop := fnOneCopUptoRow.holds Tryz.pinned (OpenSpec.upto fnOneCopSpec)

/-- 'laws.FnBlindWalks', WHERE WHAT IT READS IS OF BULK AT MOST 1048576: true; the input reads as it did. -/
def fnBlindWalksUptoRow : OpenClaim := { program := "ytnieoolfkakmdaagreat", sum := "2553fb6013fa403d94c43c38cf09c701b290411cad5d1bc07dc29b661a86f597", func := "loop.example/g01109/laws.FnBlindWalks", spec := "fnBlindWalks", unfollowed := true, recurses := true, apart := false, narrowed := true }
def FnBlindWalksUptoSaid : Prop := fnBlindWalksUptoRow.holds Tryz.pinned (OpenSpec.upto fnBlindWalksSpec)

/-- 'laws.FnCapture', WHERE WHAT IT READS IS OF BULK AT MOST 1048576: true; the input reads as it did. -/
def fnCaptureUptoRow : OpenClaim := { program := "ytnieoolfkakmdaagreat", sum := "2553fb6013fa403d94c43c38cf09c701b290411cad5d1bc07dc29b661a86f597", func := "loop.example/g01109/laws.FnCapture", spec := "fnCapture", unfollowed := true, recurses := true, apart := false, narrowed := true }
def FnCaptureUptoSaid : Prop := fnCaptureUptoRow.holds Tryz.pinned (OpenSpec.upto fnCaptureSpec)

/-- 'laws.FnCopPlay', WHERE WHAT IT READS IS OF BULK AT MOST 1048576: true; the input reads as it did. -/
def fnCopPlayUptoRow : OpenClaim := { program := "ytnieoolfkakmdaagreat", sum := "2553fb6013fa403d94c43c38cf09c701b290411cad5d1bc07dc29b661a86f597", func := "loop.example/g01109/laws.FnCopPlay", spec := "fnCopPlay", unfollowed := true, recurses := true, apart := false, narrowed := true }
def FnCopPlayUptoSaid : Prop := fnCopPlayUptoRow.holds Tryz.pinned (OpenSpec.upto fnCopPlaySpec)

/-- 'laws.FnTimedGame', WHERE WHAT IT READS IS OF BULK AT MOST 1048576: true; the input reads as it did. -/
def fnTimedGameUptoRow : OpenClaim := { program := "ytnieoolfkakmdaagreat", sum := "2553fb6013fa403d94c43c38cf09c701b290411cad5d1bc07dc29b661a86f597", func := "loop.example/g01109/laws.FnTimedGame", spec := "fnTimedGame", unfollowed := true, recurses := true, apart := false, narrowed := true }
def FnTimedGameUptoSaid : Prop := fnTimedGameUptoRow.holds Tryz.pinned (OpenSpec.upto fnTimedGameSpec)

end Rows
end Go.Proofs.YtnieoolfkakmdaaGreat
