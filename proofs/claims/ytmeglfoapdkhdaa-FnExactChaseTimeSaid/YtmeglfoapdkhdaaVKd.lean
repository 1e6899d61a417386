/- The kinds of Go data that the pure interpreter speaks of, and the interpreter itself (definitions alone). -/
import Derived.WalkKit
import Derived.KernelRfl
namespace Go.V

/-- A kind of data. -/
inductive Kd
  | int (k : IntKind) | bool | str | slice (e : Kd) | unit | pair (a b : Kd)
  /-- a pointer to memory that is not written; a function value: what is bound first, what is captured -/
  | bx (k : Kd) | clo (f : Nat) (a b : Kd)
  deriving DecidableEq

@[reducible] def Kd.den : Kd → Type
  | .int _ => Int
  | .bool => Bool
  | .str => ByteArray
  | .slice e => List e.den
  | .unit => Unit
  | .pair a b => a.den × b.den
  | .bx k => k.den
  | .clo _ a b => a.den × b.den

/-- How many cells a value takes. -/
def Kd.size : Kd → Nat
  | .unit => 0
  | .pair a b => a.size + b.size
  | _ => 1

def Kd.agg : Kd → Bool
  | .unit | .pair .. => true
  | _ => false

/-- No slice inside. -/
def Kd.flat : Kd → Bool
  | .slice _ | .bx _ | .clo .. => false
  | .pair a b => a.flat && b.flat
  | _ => true

/-- How deep slices are nested. -/
def Kd.lev : Kd → Nat
  | .slice e | .bx e => e.lev + 1
  | .pair a b | .clo _ a b => max a.lev b.lev
  | _ => 0

def Kd.zero : (k : Kd) → k.den
  | .int _ => (0 : Int)
  | .bool => false
  | .str => ByteArray.empty
  | .slice _ => []
  | .unit => ()
  | .pair a b => (a.zero, b.zero)
  | .bx k => k.zero
  | .clo _ a b => (a.zero, b.zero)

/-- A kind that Go's types have. -/
def Kd.pure : Kd → Bool
  | .slice e => e.pure
  | .pair a b => a.pure && b.pure
  | .bx _ | .clo .. => false
  | _ => true

def Kd.tuple : List Kd → Kd
  | [] => .unit
  | k :: r => .pair k (Kd.tuple r)

/-- A step to a part of a value. -/
inductive St
  | l | r | i (n : Nat)
  deriving DecidableEq
abbrev Path := List St

def noIdx : Path → Bool
  | [] => true
  | .i _ :: _ => false
  | _ :: p => noIdx p

/-- How many steps into slices. -/
def lev : Path → Nat
  | [] => 0
  | .i _ :: p => lev p + 1
  | _ :: p => lev p

/-- A value with its kind. -/
structure V where
  k : Kd
  d : k.den

/-- The list's element, or the kind's zero. -/
def at_ (e : Kd) (l : List e.den) (n : Nat) : e.den := l.getD n e.zero

def getP : Path → (k : Kd) → k.den → Option V
  | [], k, d => some ⟨k, d⟩
  | .l :: p, .pair a _, d => getP p a d.1
  | .r :: p, .pair _ b, d => getP p b d.2
  | .i n :: p, .slice e, d => getP p e (at_ e d n)
  | _, _, _ => none

def cast? (k : Kd) (v : V) : Option k.den := if h : v.k = k then some (h ▸ v.d) else none

def setP : Path → (k : Kd) → k.den → V → Option k.den
  | [], k, _, x => cast? k x
  | .l :: p, .pair a _, d, x => (setP p a d.1 x).map fun y => (y, d.2)
  | .r :: p, .pair _ b, d, x => (setP p b d.2 x).map fun y => (d.1, y)
  | .i n :: p, .slice e, d, x => (setP p e (at_ e d n) x).map fun y => List.set d n y
  | _, _, _, _ => none

/-- A function's outside: the parameters' kinds (true: it is the call's own while the call runs, and comes back changed), the results' kinds, whether what is handed back is new and unshared, and what it computes (the results, then what became of the own parameters). -/
structure FSig where
  ps : List (Kd × Bool)
  rs : List Kd
  own : Bool
  F : (Kd.tuple (ps.map (·.1))).den → Option (Kd.tuple (rs ++ (ps.filter (·.2)).map (·.1))).den

inductive Cell
  | none
  | dead
  | undf
  | nlq (z : Bool)
  | fal (r : Nat)
  | apd (r : Nat) (p : Path) (ver : Nat) (e : Kd) (l : List e.den)
  | tap (r j : Nat) (ks : List Kd) (x : (Kd.tuple ks).den)
  | val (k : Kd) (d : k.den)
  | cst (k : Kd) (d : k.den)
  | al (r : Nat) (p : Path) (ver : Nat)
  | tal (r : Nat)
  | ptr (r : Nat) (p : Path) (ver : Nat)
  | sptr (k : Kd) (d : k.den)
  | fn (f : FuncId)
  | root (k : Kd) (d : k.den) (dep : Nat) (box frz : Bool) (ver : Nat)

/-- What an operation does: it reads places, asks, calls; at the end it says what it writes. -/
inductive Rd (α : Type) : Type 1
  | ret (a : α)
  | rd (loc : Nat) (k : Cell → Rd α)
  | ite (c : Bool) (a b : Rd α)
  | call {β : Type} (o : Option β) (k : β → Rd α)
  | fail

namespace Rd
def bind {α β : Type} : Rd α → (α → Rd β) → Rd β
  | .ret a, f => f a
  | .rd l k, f => .rd l fun c => (k c).bind f
  | .ite c a b, f => .ite c (a.bind f) (b.bind f)
  | .call o k, f => .call o fun b => (k b).bind f
  | .fail, _ => .fail
instance : Monad Rd where
  pure := Rd.ret
  bind := Rd.bind
def opt {α : Type} : Option α → Rd α
  | some a => .ret a
  | Option.none => .fail
def guard (c : Bool) : Rd Unit := .ite c (.ret ()) .fail
end Rd

abbrev State := Nat → Cell
def sl (t : Nat) : Nat := 2 * t
def rt (r : Nat) : Nat := 2 * r + 1
def State.set (s : State) (l : Nat) (c : Cell) : State := fun x => bif Nat.beq x l then c else s x
abbrev Writes := List (Nat × Cell)
def State.put (s : State) : Writes → State
  | [] => s
  | (l, c) :: r => (s.set l c).put r

/-- The run of a reading, what comes then being given: the form that the kernel evaluates. -/
def Rd.runK {α R : Type} : Rd α → State → List Nat → (α → List Nat → Option R) → Option R
  | .ret a, _, tr, K => K a tr
  | .rd l k, s, tr, K => (k (s l)).runK s (l :: tr) K
  | .ite c a b, s, tr, K => if c = true then a.runK s tr K else b.runK s tr K
  | .call o k, s, tr, K => o.bind fun b => (k b).runK s tr K
  | .fail, _, _, _ => none

end Go.V
