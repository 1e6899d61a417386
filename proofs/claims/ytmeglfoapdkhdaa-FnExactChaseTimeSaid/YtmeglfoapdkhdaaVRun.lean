/- The interpreter: regions, code, loops by what is told of them (definitions alone). -/
import Derived.Test.YtmeglfoapdkhdaaVOp
namespace Go.V

/-- What an operation has read (false) and written (true): for regions that draw their order. -/
abbrev Log := List (Nat × Nat × Bool)

def clash (bj : Nat) (loc : Nat) (wr : Bool) : Log → Bool
  | [] => false
  | (i, l, w) :: r => (Nat.beq l loc && (w || wr) && !Nat.testBit bj i) || clash bj loc wr r
def clashAny (bj : Nat) (log : Log) : List (Nat × Bool) → Bool
  | [] => false
  | (l, w) :: r => clash bj l w log || clashAny bj log r
/-- Whether an operation keeps its place behind all those before it that touch what it touches. -/
def fits (bj : Nat) (j : Nat) (log : Log) (tr : List Nat) (ws : Writes) : Option Log :=
  let ts := tr.map (fun l => (l, false)) ++ ws.map (fun x => (x.1, true))
  bif clashAny bj log ts then none else some (ts.map (fun x => (j, x.1, x.2)) ++ log)

/-- The edges that bind lead back in the text. -/
def edgesOk (j : Nat) (o : Oper) : Bool := o.after.toList.all fun e => !(Region.binds .any e) || Nat.blt e.on j
/-- The operations before one by the edges that bind. -/
def beforeOf (bs : List Nat) (o : Oper) : Nat :=
  o.after.toList.foldl (fun s e => bif Region.binds .any e then s ||| 2 ^ e.on ||| bs.getD e.on 0 else s) 0

def dstOf (o : Oper) : Nat := o.dst.getD 4095
/-- An operation without a slot writes roots alone. -/
def dstOk (o : Oper) (ws : Writes) : Bool := o.dst.isSome || ws.all fun x => Nat.beq (x.1 % 2) 1

/-- The operations of a region in the text's order. -/
def opsK {R : Type} (Γ : Ctx) (all : List Oper) (draw : Bool) (clk : Nat) : List Oper → Nat → List Nat → State → Log → (State → Option R) → Option R
  | [], _, _, s, _, K => K s
  | o :: rest, j, bs, s, log, K =>
    let bj := bif draw then beforeOf bs o else 0
    let next (tr : List Nat) (s : State) (ws : Writes) : Option R :=
      bif draw then
        bif edgesOk j o then
        match fits bj j log tr ws with
        | some log' => opsK Γ all draw clk rest (j + 1) (bs ++ [bj]) (s.put ws) log' K
        | none => none
        else none
      else opsK Γ all draw clk rest (j + 1) [] (s.put ws) [] K
    let run (tr : List Nat) (s : State) : Option R := (opD Γ (clk * 4096 + dstOf o) o).runK s tr fun ws tr => bif dstOk o ws then next tr s ws else none
    let skip (tr : List Nat) (s : State) : Option R := next tr s (match o.dst with | some d => [(sl d, .undf)] | none => [])
    match o.guard with
    | none => run [] s
    | some (g, want) =>
      match (all[g]?).bind Oper.dst with
      | none => none
      | some t =>
        match s (sl t) with
        | .val .bool z =>
          if z = true then bif want then run [sl t] (s.set (sl t) (.val .bool true)) else skip [sl t] (s.set (sl t) (.val .bool true))
          else bif want then skip [sl t] (s.set (sl t) (.val .bool false)) else run [sl t] (s.set (sl t) (.val .bool false))
        | .undf => skip [sl t] s
        | _ => none

inductive Ex
  | normal | exit (id : Nat) | goto (l : Nat) | ret
  deriving DecidableEq

/-- What is known of a slot at a loop's head or behind it. -/
inductive Slot
  | v (k : Kd)
  | own (k : Kd) (dep : Nat)
  | box (k : Kd) (dep : Nat)
  | sp (k : Kd)
  | same (j : Nat) (p : Path)
  deriving DecidableEq
/-- A state's form: slots, each with what is known of it. -/
abbrev Form := List (Nat × Slot)

def Slot.kd : Slot → Kd
  | .v k | .own k _ | .box k _ | .sp k => k
  | .same .. => .unit
def Form.kds (f : Form) : List Kd := f.map (·.2.kd)
abbrev Form.den (f : Form) : Type := (Kd.tuple f.kds).den

/-- A state's data, if it has the form. used: the roots that stand already, the newest first. -/
def norm (s : State) : (f : Form) → List (Nat × Nat) → Option f.den
  | [], _ => some ()
  | (i, .v k) :: f, u =>
    match s (sl i) with
    | .val k' d => match cast? k ⟨k', d⟩, norm s f u with
      | some x, some r => some (x, r)
      | _, _ => none
    | .cst k' d => match cast? k ⟨k', d⟩, norm s f u with
      | some x, some r => some (x, r)
      | _, _ => none
    | .al r p ver => match s (rt r) with
      | .root k' d 0 box _ ver' => bif Nat.beq ver ver' || (!box && p.isEmpty) then
          match getP p k' d with
          | some v => match cast? k v, norm s f u with
            | some x, some r => some (x, r)
            | _, _ => none
          | none => none
        else none
      | _ => none
    | _ => none
  | (i, .own k dep) :: f, u =>
    match s (sl i) with
    | .al r p _ => match s (rt r) with
      | .root k' d dep' box _ _ => bif p.isEmpty && !box && decide (dep ≤ dep') && !(u.map (·.2)).contains r then
          match cast? k ⟨k', d⟩, norm s f ((i, r) :: u) with
          | some x, some r => some (x, r)
          | _, _ => none
        else none
      | _ => none
    | .cst k' d => match cast? k ⟨k', d⟩, norm s f u with
      | some x, some r => some (x, r)
      | _, _ => none
    | _ => none
  | (i, .box k dep) :: f, u =>
    match s (sl i) with
    | .ptr r p _ => match s (rt r) with
      | .root k' d dep' true false _ => bif p.isEmpty && decide (dep ≤ dep') && !(u.map (·.2)).contains r then
          match cast? k ⟨k', d⟩, norm s f ((i, r) :: u) with
          | some x, some r => some (x, r)
          | _, _ => none
        else none
      | _ => none
    | _ => none
  | (i, .sp k) :: f, u =>
    match s (sl i) with
    | .sptr k' d => match cast? k ⟨k', d⟩, norm s f u with
      | some x, some r => some (x, r)
      | _, _ => none
    | _ => none
  | (i, .same j p) :: f, u =>
    match s (sl i) with
    | .al r q ver => match s (rt r) with
      | .root _ _ _ box _ ver' => bif u.contains (j, r) && decide (p = q) && (Nat.beq ver ver' || (!box && p.isEmpty)) then
          match norm s f u with
          | some r => some ((), r)
          | none => none
        else none
      | _ => none
    | _ => none

/-- The state of a form, out of its data. -/
def build : (f : Form) → f.den → Writes
  | [], _ => []
  | (i, .v k) :: f, d => (sl i, .val k d.1) :: build f d.2
  | (i, .own k dep) :: f, d => (rt i, .root k d.1 dep false false 0) :: (sl i, .al i [] 0) :: build f d.2
  | (i, .box k dep) :: f, d => (rt i, .root k d.1 dep true false 0) :: (sl i, .ptr i [] 0) :: build f d.2
  | (i, .sp k) :: f, d => (sl i, .sptr k d.1) :: build f d.2
  | (i, .same j p) :: f, d => (sl i, .al j p 0) :: build f d.2
def State.empty : State := fun _ => .none
def Form.state (f : Form) (d : f.den) : State := State.empty.put (build f d)

/-- The ways out of a piece of code, each with the form of the state there. -/
abbrev Outs := List (Ex × Form)
@[reducible] def Outs.den : Outs → Type
  | [] => Empty
  | (_, f) :: r => f.den ⊕ Outs.den r
def Outs.take (s : State) (e : Ex) : (o : Outs) → Option o.den
  | [] => none
  | (e', f) :: r => bif decide (e = e') then (norm s f []).map .inl else (Outs.take s e r).map .inr
def Outs.give {R : Type} (K : Ex → State → Option R) : (o : Outs) → o.den → Option R
  | [], x => nomatch x
  | (e, f) :: r, x => match x with
    | .inl d => K e (f.state d)
    | .inr d => Outs.give K r d

/-- What is told of a piece of code (a loop, a block): its head's form, its ways out, what it computes. -/
structure Piece where
  head : Form
  outs : Outs
  run : head.den → Option outs.den

/-- Both, if they are one. -/
noncomputable def both {R : Type} (x y : Option R) : Option R := open Classical in if x = y then x else none

/-- The interpreter. -/
noncomputable def pi {R : Type} (Γ : Ctx) (Pc : Nat → Option Piece) : Code → Nat → State → (Ex → Nat → State → Option R) → Option R
  | .skip, c, s, K => K .normal c s
  | .region _ ops draw, c, s, K => opsK Γ ops.toList draw c ops.toList 0 [] s [] fun s' => K .normal (c + 1) s'
  | .seq a b, c, s, K => pi Γ Pc a c s fun e c' s' => match e with
    | .normal => pi Γ Pc b c' s' K
    | e => K e c' s'
  | .cond (.tmp t) a b, c, s, K =>
    match s (sl t) with
    | .val .bool z =>
      if z = true then pi Γ Pc a c (s.set (sl t) (.val .bool true)) K else pi Γ Pc b c (s.set (sl t) (.val .bool false)) K
    | .nlq z => if z = true then both (pi Γ Pc a c s K) (pi Γ Pc b c s K) else pi Γ Pc b c s K
    | _ => none
  | .cond (.const (.bool z)) a b, c, s, K => bif z then pi Γ Pc a c s K else pi Γ Pc b c s K
  | .block id b, c, s, K =>
    match Pc id with
    | some o => match norm s o.head [] with
      | some d => (o.run d).bind fun x => Outs.give (fun e s' => K e (c + 1000) s') o.outs x
      | none => none
    | none => pi Γ Pc b c s fun e c' s' => match e with
      | .exit j => bif Nat.beq j id then K .normal c' s' else K (.exit j) c' s'
      | e => K e c' s'
  | .exit id, c, s, K => K (.exit id) c s
  | .label _, c, s, K => K .normal c s
  | .goto l, c, s, K => K (.goto l) c s
  | .ret, c, s, K => K .ret c s
  | _, _, _, _ => none

/-- The root behind a value handed out, if it is not shared; whether it may be handed out. -/
def takeR (own : Bool) (x : V) (ro : Option (Nat × Nat)) (free : Bool) (u : List Nat) : Option (List Nat) :=
  bif x.k.flat || free then some u else
  match ro with
  | none => bif own then none else some u
  | some (r, dep) => bif u.any (Nat.beq r) then none else bif own then (bif decide (x.k.lev ≤ dep) then some (r :: u) else none) else some u
/-- One result at a function's end: its data, the root that it is the whole of, whether nothing lies behind it. -/
def oneV (Γ : Ctx) (s : State) : ResultVar → Option (V × Option (Nat × Nat) × Bool)
  | .tmp t => match s (sl t) with
    | .val k d => some (⟨k, d⟩, none, false)
    | .cst k d => some (⟨k, d⟩, none, true)
    | .al r p ver => match s (rt r) with
      | .root k d dep box _ ver' => bif Nat.beq ver ver' || (!box && p.isEmpty) then
          match getP p k d with
          | some x => some (x, some (r, bif p.isEmpty then dep else 0), false)
          | none => none
        else none
      | _ => none
    | _ => none
  | .cell a t => match s (sl a) with
    | .ptr r p _ => match s (rt r) with
      | .root k d dep true _ _ => bif p.isEmpty && decide (Γ.tk t = some k) then some (⟨k, d⟩, some (r, dep), false) else none
      | _ => none
    | _ => none
/-- A function's results at its end. u: the roots that are spoken for. -/
def resV (Γ : Ctx) (own : Bool) (s : State) : (rs : List Kd) → List ResultVar → List Nat → Option (Kd.tuple rs).den
  | [], [], _ => some ()
  | k :: ks, v :: vs, u =>
    match oneV Γ s v with
    | none => none
    | some x =>
      match takeR own x.1 x.2.1 x.2.2 u with
      | none => none
      | some u' => match cast? k x.1, resV Γ own s ks vs u' with
        | some y, some z => some (y, z)
        | _, _ => none
  | _, _, _ => none
/-- What the lent parameters have become at the end; the roots where they stand. -/
def ioV (s : State) : Nat → (ps : List (Kd × Bool)) → List Nat → Option ((Kd.tuple ((ps.filter (·.2)).map (·.1))).den × List Nat)
  | _, [], u => some ((), u)
  | i, (_, false) :: ps, u => ioV s (i + 1) ps u
  | i, (k, true) :: ps, u =>
    match s (sl i) with
    | .al r p _ => match s (rt r) with
      | .root k' d dep box _ _ => bif p.isEmpty && !box && decide (k.lev ≤ dep) && !(u.any (Nat.beq r)) then
          match cast? k ⟨k', d⟩, ioV s (i + 1) ps (r :: u) with
          | some x, some z => some ((x, z.1), z.2)
          | _, _ => none
        else none
      | _ => none
    | .fal r => match s (rt r) with
      | .root k' d dep true true _ => bif decide (k.lev ≤ dep) && !(u.any (Nat.beq r)) then
          match cast? k ⟨k', d⟩, ioV s (i + 1) ps (r :: u) with
          | some x, some z => some ((x, z.1), z.2)
          | _, _ => none
        else none
      | _ => none
    | _ => none
def joinT : (a b : List Kd) → (Kd.tuple a).den → (Kd.tuple b).den → (Kd.tuple (a ++ b)).den
  | [], _, _, y => y
  | _ :: a, b, x, y => (x.1, joinT a b x.2 y)

/-- The state at a function's begin: parameter i in slot i. -/
def start : Nat → (ps : List (Kd × Bool)) → (Kd.tuple (ps.map (·.1))).den → Writes
  | _, [], _ => []
  | i, (k, false) :: ps, d => (sl i, .val k d.1) :: start (i + 1) ps d.2
  | i, (k, true) :: ps, d => (rt i, .root k d.1 k.lev false false 0) :: (sl i, .al i [] 0) :: start (i + 1) ps d.2

def ending (Γ : Ctx) (own : Bool) (ps : List (Kd × Bool)) (rs : List Kd) (vs : List ResultVar) (e : Ex) (s : State) : Option (Kd.tuple (rs ++ (ps.filter (·.2)).map (·.1))).den :=
  match e with
  | .normal | .ret => match ioV s 0 ps [] with
    | some y => match resV Γ own s rs vs y.2 with
      | some x => some (joinT rs _ x y.1)
      | none => none
    | none => none
  | _ => none

/-- A whole function. -/
noncomputable def fnR (Γ : Ctx) (Pc : Nat → Option Piece) (own : Bool) (ps : List (Kd × Bool)) (rs : List Kd) (vs : List ResultVar) (body : Code) (d : (Kd.tuple (ps.map (·.1))).den) :
    Option (Kd.tuple (rs ++ (ps.filter (·.2)).map (·.1))).den :=
  pi Γ Pc body 1 (State.empty.put (start 0 ps d)) fun e _ s => ending Γ own ps rs vs e s
/-- One round of a loop: back at the head, or out. -/
noncomputable def roundR (Γ : Ctx) (Pc : Nat → Option Piece) (id : Nat) (head : Form) (outs : Outs) (body : Code) (back : head.den → Option outs.den) (d : head.den) : Option outs.den :=
  pi Γ Pc body 1 (head.state d) fun e _ s => match e with
    | .normal => (norm s head []).bind back
    | .exit j => bif Nat.beq j id then Outs.take s .normal outs else Outs.take s (.exit j) outs
    | e => Outs.take s e outs
end Go.V
namespace Go.V
/-- The body of the loop in a block. -/
def findLoop (id : Nat) : Code → Option Code
  | .seq a b | .cond _ a b => (findLoop id a).or (findLoop id b)
  | .block j (.loop b) => bif Nat.beq j id then some b else findLoop id b
  | .block _ b | .scope b | .loop b => findLoop id b
  | _ => none
def bodyOf (f : Func) : Code := f.body.getD .skip
def loopOf (f : Func) (id : Nat) : Code := (findLoop id (bodyOf f)).getD .skip
end Go.V
