/- What each operation does to the interpreter's state (definitions alone). -/
import Derived.Test.YtmeglfoapdkhdaaVKd
namespace Go.V
open Rd

/-- What the interpreter knows of a program: the types' kinds, the functions' outsides. -/
structure Ctx where
  tk : TypeId → Option Kd
  /-- which types are arrays, and of what -/
  ar : TypeId → Option TypeId
  fs : FuncId → Option FSig
  /-- slots of temporaries whose value stays readable when it is put into another one -/
  keep : Nat → Bool := fun _ => false
  /-- slots whose value is counted as shared from the begin -/
  dm : Nat → Bool := fun _ => false
  /-- slots of lent parameters: a box of one is never written itself, and the slot stays its name -/
  lent : Nat → Bool := fun _ => false
  /-- function values' outsides, by their functions: the last parameter is the value itself -/
  cs : FuncId → Option FSig := fun _ => none
  /-- slots of boxes that are never written once they are made -/
  fz : Nat → Bool := fun _ => false

/-- A constant's cells as data (no memory behind it). -/
def decL : (k : Kd) → List Value → Option (k.den × List Value)
  | .int ik, .int ik' n :: r => if ik = ik' then some (n, r) else none
  | .bool, .bool b :: r => some (b, r)
  | .str, .string s :: r => some (s, r)
  | .slice _, .slice none 0 0 :: r => some ([], r)
  | .unit, r => some ((), r)
  | .pair a b, c => match decL a c with
    | some (x, r) => match decL b r with
      | some (y, r') => some ((x, y), r')
      | none => none
    | none => none
  | _, _ => none
def isAggV : Value → Bool
  | .agg _ => true
  | _ => false
def dec (k : Kd) (v : Value) : Option k.den :=
  bif isAggV v == k.agg then
    match decL k v.cells.toList with
    | some (d, []) => some d
    | _ => none
  else none

def kindOf (Γ : Ctx) (t : TypeId) : Rd Kd := Rd.opt (Γ.tk t)

def rdOp (Γ : Ctx) (t : TypeId) : Operand → Rd Cell
  | .tmp x => .rd (sl x) .ret
  | .const v => (kindOf Γ t).bind fun k => (Rd.opt (dec k v)).bind fun d => .ret (.cst k d)
  | .func f => .ret (.fn f)
  | .global _ => .fail
/-- A pointer that came in. -/
def unbx : Cell → Cell
  | .val (.bx k) d => .sptr k d
  | c => c
/-- An operand of a basic kind: the type is told by the constant. -/
def rdB : Operand → Rd Cell
  | .tmp x => .rd (sl x) fun c => .ret (unbx c)
  | .const (.int ik n) => .ret (.cst (.int ik) n)
  | .const (.bool b) => .ret (.cst .bool b)
  | .const (.string s) => .ret (.cst .str s)
  | .func f => .ret (.fn f)
  | _ => .fail

/-- The data behind a cell, for reading. -/
def look : Cell → Rd V
  | .val k d | .cst k d => .ret ⟨k, d⟩
  | .al r p ver => .rd (rt r) fun
    | .root k d _ box _ ver' => bif Nat.beq ver ver' || (!box && p.isEmpty) then Rd.opt (getP p k d) else .fail
    | _ => .fail
  | _ => .fail
def rdV (o : Operand) : Rd V := (rdB o).bind look
def rdVt (Γ : Ctx) (t : TypeId) (o : Operand) : Rd V := (rdOp Γ t o).bind look
def asInt : V → Rd (IntKind × Int)
  | ⟨.int ik, n⟩ => .ret (ik, n)
  | _ => .fail
def asB : V → Rd Bool
  | ⟨.bool, b⟩ => .ret b
  | _ => .fail

/-- Shared data under a cell: flat data has no memory behind it. -/
def vcell (v : V) : Cell := .val v.k v.d

def cmpI (op : BinOp) (x y : Int) : Option Bool :=
  match op with
  | .eql => some (x == y) | .neq => some (x != y)
  | .lss => some (decide (x < y)) | .leq => some (decide (x ≤ y))
  | .gtr => some (decide (x > y)) | .geq => some (decide (x ≥ y))
  | _ => none
def bitI (op : BinOp) (k : IntKind) (x y : Int) : Option Int :=
  let a := BitVec.ofInt k.bits x
  let b := BitVec.ofInt k.bits y
  match op with
  | .and => some (k.wrap (a &&& b).toNat)
  | .or => some (k.wrap (a ||| b).toNat)
  | .xor => some (k.wrap (a ^^^ b).toNat)
  | .andNot => some (k.wrap (a &&& ~~~b).toNat)
  | _ => none
def shl (k : IntKind) (x y : Int) : Int := k.wrap (x * 2 ^ (min y.toNat k.bits))
def shr (k : IntKind) (x y : Int) : Int := x.fdiv (2 ^ (min y.toNat k.bits))
def bits (op : BinOp) (k : IntKind) (x y : Int) : Int := (bitI op k x y).getD 0
def seq_ (a b : ByteArray) : Bool := a.toList == b.toList
def slt (a b : ByteArray) : Bool := Op.bytesLess a.toList b.toList

/-- Equality of data without slices. -/
def eqD : (k : Kd) → k.den → k.den → Option Bool
  | .int _, a, b => some (a == b)
  | .bool, a, b => some (a == b)
  | .str, a, b => some (a.toList == b.toList)
  | .slice _, _, _ | .bx _, _, _ | .clo .., _, _ => none
  | .unit, _, _ => some true
  | .pair k .unit, a, b => eqD k a.1 b.1
  | .pair k k', a, b => match eqD k a.1 b.1, eqD k' a.2 b.2 with
    | some x, some y => some (x && y)
    | _, _ => none

def binR (t : Option Kd) (op : BinOp) (a b : V) : Rd V :=
  match a, b with
  | ⟨.int k, x⟩, ⟨.int k', y⟩ =>
    match op with
    | .shl => .ite (decide (0 ≤ y)) (.ret ⟨.int k, shl k x y⟩) .fail
    | .shr => .ite (decide (0 ≤ y)) (.ret ⟨.int k, shr k x y⟩) .fail
    | op => bif decide (k = k') then
      match op with
      | .add => .ret ⟨.int k, k.wrap (x + y)⟩
      | .sub => .ret ⟨.int k, k.wrap (x - y)⟩
      | .mul => .ret ⟨.int k, k.wrap (x * y)⟩
      | .quo => .ite (y != 0) (.ret ⟨.int k, k.wrap (x.tdiv y)⟩) .fail
      | .rem => .ite (y != 0) (.ret ⟨.int k, x.tmod y⟩) .fail
      | .and | .or | .xor | .andNot => .ret ⟨.int k, bits op k x y⟩
      | .shl | .shr => .fail
      | op => (Rd.opt (cmpI op x y)).bind fun z => .ret ⟨.bool, z⟩
      else .fail
  | ⟨.str, x⟩, ⟨.str, y⟩ =>
    match op with
    | .add => .ite (decide (x.size + y.size ≤ maxLen)) (.ret ⟨.str, x ++ y⟩) .fail
    | .eql => .ret ⟨.bool, seq_ x y⟩
    | .neq => .ret ⟨.bool, !seq_ x y⟩
    | .lss => .ret ⟨.bool, slt x y⟩
    | .leq => .ret ⟨.bool, slt x y || seq_ x y⟩
    | .gtr => .ret ⟨.bool, !(slt x y || seq_ x y)⟩
    | .geq => .ret ⟨.bool, !slt x y⟩
    | _ => .fail
  | ⟨.bool, x⟩, ⟨.bool, y⟩ => bif decide (t = some .bool) then
    match op with
    | .eql => .ret ⟨.bool, x == y⟩
    | .neq => .ret ⟨.bool, !(x == y)⟩
    | _ => .fail
    else .fail
  | _, _ => .fail
def unR (op : UnOp) (a : V) : Rd V :=
  match op, a with
  | .neg, ⟨.int k, x⟩ => .ret ⟨.int k, k.wrap (0 - x)⟩
  | .xor, ⟨.int k, x⟩ => .ret ⟨.int k, bits .xor k (if k.signed then -1 else k.max) x⟩
  | .not, ⟨.bool, b⟩ => .ret ⟨.bool, !b⟩
  | _, _ => .fail

/-- The path to a struct's j-th field, an array's j-th element. -/
def fld : Nat → Path
  | 0 => [.l]
  | j + 1 => .r :: fld j

/-- Levels of memory behind a value that is put elsewhere: how deep it is the owner's own (99: all), and what becomes of where it was. -/
structure Got where
  v : V
  dp : Nat
  /-- the root that it was, and its cell -/
  from_ : Option (Nat × Cell)

def got (Γ : Ctx) (o : Operand) (c : Cell) : Rd Got :=
  match c with
  | .cst k d => .ret ⟨⟨k, d⟩, 99, none⟩
  | .val k d => .ret ⟨⟨k, d⟩, bif k.flat then 99 else 0, none⟩
  | .al r p ver => .rd (rt r) fun
    | .root k d dep box frz ver' =>
      bif Nat.beq ver ver' || (!box && p.isEmpty) then
        (Rd.opt (getP p k d)).bind fun v =>
        bif v.k.flat then .ret ⟨v, 99, none⟩ else
        bif p.isEmpty && !box then .ret ⟨v, (match o with | .tmp t => bif Γ.keep t then 0 else dep | _ => 0), some (r, .root k d 0 box frz ver')⟩
        else bif p.isEmpty && !frz then .ret ⟨v, (match o with | .tmp t => bif Γ.keep t then 0 else dep | _ => 0), some (r, .root k d 0 box frz ver')⟩
        else .ret ⟨v, 0, some (r, .root k d 0 box frz ver')⟩
      else .fail
    | _ => .fail
  | _ => .fail
/-- What becomes of the places that gave: taken whole where the new value owns it, shared else. -/
def leave (own : Bool) (g : Got) : Writes :=
  match g.from_ with
  | none => []
  | some (r, c) => [(rt r, bif own && !Nat.beq g.dp 0 then .dead else c)]

/-- Where a value is put that an operation has made: flat data and shared data into the slot itself, what is the call's own into a new root. -/
def made (id d : Nat) (v : V) (dep : Nat) : Writes :=
  bif v.k.flat || Nat.beq dep 0 then [(sl d, .val v.k v.d)] else [(rt id, .root v.k v.d dep false false 0), (sl d, .al id [] 0)]

def lentOf (Γ : Ctx) (d : Nat) : Operand → Option Nat
  | .tmp t => bif Γ.lent t && !Nat.beq t d then some t else none
  | _ => none
def isNilEq : BinOp → Operand → Bool
  | .eql, .const (.slice none 0 0) => true
  | _, _ => false
def newAt (id : Nat) (ws : Writes) : Rd Writes := .rd (rt id) fun | .none => .ret ws | _ => .fail

def lim : Nat := 1099511627776

/-- Elements of a list at given places. -/
def place (e : Kd) (l : List e.den) : List (Nat × V) → Option (List e.den)
  | [] => some l
  | (i, x) :: r => match cast? e x with
    | some y => place e (l.set i y) r
    | none => none
def placeF : (k : Kd) → k.den → List (Nat × V) → Option k.den
  | _, d, [] => some d
  | k, d, (i, x) :: r => match setP (fld i) k d x with
    | some d' => placeF k d' r
    | none => none

def rdK (k : Option Kd) : Operand → Rd Cell
  | .tmp x => .rd (sl x) .ret
  | .const v => (Rd.opt k).bind fun k => (Rd.opt (dec k v)).bind fun d => .ret (.cst k d)
  | .func f => .ret (.fn f)
  | .global _ => .fail
def partK (k : Kd) (j : Nat) : Option Kd := (getP (fld j) k k.zero).map V.k
def gotAll (Γ : Ctx) (ty : Nat → Option Kd) : List (Nat × Operand) → Rd (List (Nat × Got))
  | [] => .ret []
  | (i, o) :: r => (rdK (ty i) o).bind fun c => (got Γ o c).bind fun g => (gotAll Γ ty r).bind fun gs => .ret ((i, g) :: gs)
/-- A root gives once. -/
def fromIs (g : Got) (r : Nat) : Bool :=
  match g.from_ with
  | some (r', _) => Nat.beq r r'
  | none => false
def distinctFrom : List (Nat × Got) → Bool
  | [] => true
  | (_, g) :: r => (match g.from_ with | some (q, _) => !(r.any fun x => fromIs x.2 q) | none => true) && distinctFrom r
def minDp : List (Nat × Got) → Nat
  | [] => 99
  | (_, g) :: r => min g.dp (minDp r)

def isPair : Kd → Bool
  | .pair .. => true
  | _ => false

/-- An array's elements as a list. -/
def arrList : (k : Kd) → (e : Kd) → k.den → Option (List e.den)
  | .unit, _, _ => some []
  | .pair a b, e, d => match cast? e ⟨a, d.1⟩, arrList b e d.2 with
    | some x, some r => some (x :: r)
    | _, _ => none
  | _, _, _ => none
def arrLen : Kd → Nat
  | .pair _ b => arrLen b + 1
  | _ => 0

/-- One of an array's places, the index being known or asked for. -/
def pickIx {α : Type} (n : Nat) (i : Int) (f : Nat → Rd α) : Nat → Rd α
  | 0 => .fail
  | m + 1 => .ite (i == ((n - (m + 1) : Nat) : Int)) (f (n - (m + 1))) (pickIx n i f m)
def constIx : Operand → Option Nat
  | .const (.int _ n) => bif decide (0 ≤ n) then some n.toNat else none
  | _ => none
def atArr {α : Type} (n : Nat) (o : Operand) (f : Nat → Rd α) : Rd α :=
  match constIx o with
  | some j => bif decide (j < n) then f j else .fail
  | none => (rdV o).bind fun v => (asInt v).bind fun x => pickIx n x.2 f n

def kindIs (Γ : Ctx) (t : TypeId) (k : Kd) : Rd Unit := bif decide (Γ.tk t = some k) then .ret () else .fail

/-- A slice held against nil: what is empty may be nil. -/
def nilR (Γ : Ctx) (d : Nat) (t : TypeId) : V → Rd Writes
  | ⟨.slice e, l⟩ => (kindIs Γ t (.slice e)).bind fun _ => .ret [(sl d, .nlq (decide (List.length l = 0)))]
  | _ => .fail
/-- The address of a part of what has the kind k. -/
def stepAddr (k : Kd) (q : Path) : Cell → Rd Cell
  | .ptr r p ver => .rd (rt r) fun
    | .root k0 d0 _ box _ ver' => bif Nat.beq ver ver' || (box && noIdx p) then
        (Rd.opt (getP p k0 d0)).bind fun v => bif decide (v.k = k) && (getP q v.k v.d).isSome then .ret (.ptr r (p ++ q) ver') else .fail
      else .fail
    | _ => .fail
  | .sptr k' d => bif decide (k' = k) then (Rd.opt (getP q k' d)).bind fun v => .ret (.sptr v.k v.d) else .fail
  | _ => .fail

def idxIn (i : Int) (n : Nat) : Bool := decide (0 ≤ i) && decide (i < (n : Int))

def optI (o : Option Operand) (z : Int) : Rd Int :=
  match o with
  | none => .ret z
  | some o => (rdV o).bind fun v => (asInt v).bind fun x => .ret x.2

def sub_ {α : Type} (l : List α) (lo hi : Int) : List α := (l.take hi.toNat).drop lo.toNat
def subS (s : ByteArray) (lo hi : Int) : ByteArray := s.extract lo.toNat hi.toNat

def sliceR (Γ : Ctx) (t : TypeId) (x : Operand) (lo hi : Option Operand) : Rd (Cell × Writes) :=
  (rdOp Γ t x).bind fun c =>
  match c with
  | .ptr r p _ => .rd (rt r) fun
    | .root k d dep true _ ver' => bif p.isEmpty && k.flat && lo.isNone && hi.isNone then
        match k with
        | .pair a b => (kindIs Γ t (.pair a b)).bind fun _ => bif (Γ.ar t).isSome then (Rd.opt (arrList (.pair a b) a d)).bind fun l => .ret (.val (.slice a) l, [(rt r, .root (.pair a b) d dep true true (ver' + 1))]) else .fail
        | _ => .fail
      else .fail
    | _ => .fail
  | .sptr (.pair a b) d => (kindIs Γ t (.pair a b)).bind fun _ => bif lo.isNone && hi.isNone && (Γ.ar t).isSome then (Rd.opt (arrList (.pair a b) a d)).bind fun l => .ret (.val (.slice a) l, []) else .fail
  | c => (look c).bind fun v => (kindIs Γ t v.k).bind fun _ =>
    match v with
    | ⟨.str, s⟩ => (optI lo 0).bind fun l => (optI hi s.size).bind fun h =>
        .ite (decide (0 ≤ l) && decide (l ≤ h) && decide (h ≤ (s.size : Int))) (.ret (.val .str (subS s l h), [])) .fail
    | ⟨.slice e, d⟩ => (got Γ x c).bind fun g => (optI lo 0).bind fun l => (optI hi (List.length d)).bind fun h =>
        .ite (decide (0 ≤ l) && decide (l ≤ h) && decide (h ≤ (List.length d : Int))) (.ret (.val (.slice e) (sub_ d l h), leave false g)) .fail
    | _ => .fail

/-- A root lent to a callee: the parameter, the root, the part of it. -/
structure Lent where
  i : Nat
  r : Nat
  p : Path

/-- One argument: its data; the root that is shared for it; what is lent; what is read. -/
def argR (Γ : Ctx) (share : Bool) (i : Nat) (k : Kd) (io : Bool) (t : TypeId) (o : Operand) : Rd (k.den × Writes × List Lent × List Nat) :=
  (rdOp Γ t o).bind fun c =>
  match io with
  | false => (look c).bind fun v => (Rd.opt (cast? k v)).bind fun d =>
    match c with
    | .al r _ _ => bif k.flat then .ret (d, [], [], []) else bif share then
        .rd (rt r) fun | .root k' d' _ box frz ver' => .ret (d, [(rt r, .root k' d' 0 box frz ver')], [], [r]) | _ => .fail
        else .ret (d, [], [], [r])
    | _ => .ret (d, [], [], [])
  | true =>
    match c with
    | .al r p ver => .rd (rt r) fun
      | .root k' d' dep box _ ver' => bif (Nat.beq ver ver' || (!box && p.isEmpty)) && decide (lev p + k.lev ≤ dep) then
          (Rd.opt (getP p k' d')).bind fun v => (Rd.opt (cast? k v)).bind fun d => .ret (d, [], [⟨i, r, p⟩], [])
        else .fail
      | _ => .fail
    | _ => .fail

/-- A call's arguments as one tuple; what is the callee's for the while must be ours, as deep as it goes. -/
def argsR (Γ : Ctx) (share : Bool) : Nat → (ps : List (Kd × Bool)) → List (Operand × TypeId) → Rd ((Kd.tuple (ps.map (·.1))).den × Writes × List Lent × List Nat)
  | _, [], [] => .ret ((), [], [], [])
  | i, (k, io) :: ps, (o, t) :: os =>
    (argR Γ share i k io t o).bind fun x => (argsR Γ share (i + 1) ps os).bind fun y =>
    .ret ((x.1, y.1), x.2.1 ++ y.2.1, x.2.2.1 ++ y.2.2.1, x.2.2.2 ++ y.2.2.2)
  | _, _, _ => .fail

/-- Each root is lent once, and not read besides. -/
def lentsOk : List Lent → List Nat → Bool
  | [], _ => true
  | l :: ls, us => !(us.any (Nat.beq l.r)) && !(ls.any fun x => Nat.beq l.r x.r) && lentsOk ls us

/-- What the lent roots have become. -/
def backR : List Lent → (ks : List Kd) → (Kd.tuple ks).den → Rd Writes
  | [], [], _ => .ret []
  | ⟨_, r, p⟩ :: ls, k :: ks, d => .rd (rt r) fun
    | .root k' d' dep box frz ver' => (Rd.opt (setP p k' d' ⟨k, d.1⟩)).bind fun d'' =>
        (backR ls ks d.2).bind fun w => .ret ((rt r, .root k' d'' dep box frz (ver' + 1)) :: w)
    | _ => .fail
  | _, _, _ => .fail

def splitT : (a b : List Kd) → (Kd.tuple (a ++ b)).den → (Kd.tuple a).den × (Kd.tuple b).den
  | [], _, d => ((), d)
  | _ :: a, b, d => let x := splitT a b d.2; ((d.1, x.1), x.2)

def slotW : Option Nat → Cell → Writes
  | some d, c => [(sl d, c)]
  | none, _ => []
/-- The one result that has memory behind it. -/
def soleNF : List Kd → Nat → Option Nat
  | [], _ => none
  | k :: ks, j => bif k.flat then soleNF ks (j + 1) else bif ks.all Kd.flat then some j else none
/-- Where a call's results are put. -/
def resW (dst : Option Nat) (id : Nat) (own : Bool) (rs : List Kd) (x : (Kd.tuple rs).den) : Writes :=
  match dst with
  | none => []
  | some d =>
    match rs, x with
    | [], _ => [(sl d, .none)]
    | [k], x => made id d ⟨k, x.1⟩ (bif own then max k.lev 99 else 0)
    | k :: k' :: ks, x =>
      match (bif own then soleNF (k :: k' :: ks) 0 else none) with
      | none => [(rt id, .root (Kd.tuple (k :: k' :: ks)) x (bif own then max (Kd.tuple (k :: k' :: ks)).lev 99 else 0) false false 0), (sl d, .tal id)]
      | some j => match getP (fld j) (Kd.tuple (k :: k' :: ks)) x with
        | none => [(rt id, .root (Kd.tuple (k :: k' :: ks)) x (bif own then max (Kd.tuple (k :: k' :: ks)).lev 99 else 0) false false 0), (sl d, .tal id)]
        | some v => [(rt id, .root v.k v.d (max v.k.lev 99) false false 0), (sl d, .tap id j (k :: k' :: ks) x)]

def callR (Γ : Ctx) (dst : Option Nat) (id : Nat) (g : FSig) (os : List (Operand × TypeId)) : Rd Writes :=
  (argsR Γ (!g.own && !g.rs.all Kd.flat) 0 g.ps os).bind fun a =>
  bif lentsOk a.2.2.1 a.2.2.2 then
    Rd.call (g.F a.1) fun out =>
    let x := splitT g.rs _ out
    (backR a.2.2.1 _ x.2).bind fun w => newAt id (a.2.1 ++ w ++ resW dst id g.own g.rs x.1)
  else .fail

def elemK : Kd → Option Kd
  | .slice e => some e
  | _ => none

def appendR (Γ : Ctx) (id d : Nat) (t : TypeId) (s x : Operand) : Rd Writes :=
  (rdOp Γ t s).bind fun cs => (look cs).bind fun vs => (kindIs Γ t vs.k).bind fun _ =>
  match vs with
  | ⟨.slice e, l⟩ =>
    bif e.flat then
      (rdVt Γ t x).bind fun vx => (Rd.opt (cast? (.slice e) vx)).bind fun m =>
      .ite (decide (List.length l + List.length m ≤ lim)) (
        match cs with
        | .cst _ _ => newAt id [(rt id, .root (.slice e) (l ++ m) 99 false false 0), (sl d, .al id [] 0)]
        | .al r p _ => .rd (rt r) fun
          | .root k0 d0 dep true false ver' => bif noIdx p && decide (1 ≤ dep) then .ret [(rt r, .root k0 d0 dep true false (ver' + 1)), (sl d, .apd r p (ver' + 1) e (l ++ m))] else .fail
          | .root _ _ dep false false _ => bif p.isEmpty && decide (1 ≤ dep) then newAt id [(rt r, .dead), (rt id, .root (.slice e) (l ++ m) dep false false 0), (sl d, .al id [] 0)] else .fail
          | _ => .fail
        | _ => .fail) .fail
    else
      (rdOp Γ t x).bind fun cx => (got Γ x cx).bind fun gx => (Rd.opt (cast? (.slice e) gx.v)).bind fun m =>
      .ite (decide (List.length l + List.length m ≤ lim)) (
        match cs with
        | .cst _ _ => let dp := max gx.dp 1
          newAt id (leave (decide (2 ≤ dp)) gx ++ [(rt id, .root (.slice e) (l ++ m) dp false false 0), (sl d, .al id [] 0)])
        | .al r p _ => .rd (rt r) fun
          | .root k0 d0 dep true false ver' => bif noIdx p && decide (1 ≤ dep) && !fromIs gx r && decide (dep ≤ gx.dp) then .ret (leave true gx ++ [(rt r, .root k0 d0 dep true false (ver' + 1)), (sl d, .apd r p (ver' + 1) e (l ++ m))]) else .fail
          | .root _ _ dep false false _ => bif p.isEmpty && decide (1 ≤ dep) && !fromIs gx r then
              let dp := min dep (max gx.dp 1)
              newAt id (leave (decide (2 ≤ dp)) gx ++ [(rt r, .dead), (rt id, .root (.slice e) (l ++ m) dp false false 0), (sl d, .al id [] 0)])
            else .fail
          | _ => .fail
        | _ => .fail) .fail
  | _ => .fail

/-- What a function value takes along. -/
def capOne : Operand → Rd V
  | .tmp x => .rd (sl x) fun
    | .sptr k d => .ret ⟨.bx k, d⟩
    | .val k d => .ret ⟨k, d⟩
    | .cst k d => .ret ⟨k, d⟩
    | _ => .fail
  | _ => .fail
def capsR : List Operand → Rd V
  | [] => .ret ⟨.unit, ()⟩
  | x :: r => (capOne x).bind fun v => (capsR r).bind fun u => .ret ⟨.pair v.k u.k, (v.d, u.d)⟩

/-- The operations. id: the number of the root that this operation may lay; d: the slot that it writes. -/
def opD (Γ : Ctx) (id : Nat) (o : Oper) : Rd Writes :=
  let d := o.dst.getD 4095
  match o.op with
  | .move x | .assign x =>
    bif Γ.dm d then (rdOp Γ o.type x).bind fun c => (got Γ x c).bind fun g => .ret (leave false g ++ [(sl d, .val g.v.k g.v.d)]) else
    (rdOp Γ o.type x).bind fun
    | .none | .dead | .root .. => .fail
    | c => .ret [(sl d, c)]
  | .pick c a b => (rdV c).bind fun v => (asB v).bind fun z =>
      .ite z ((rdOp Γ o.type a).bind fun | .val k x => .ret [(sl d, .val k x)] | .cst k x => .ret [(sl d, .val k x)] | _ => .fail)
        ((rdOp Γ o.type b).bind fun | .val k x => .ret [(sl d, .val k x)] | .cst k x => .ret [(sl d, .val k x)] | _ => .fail)
  | .binOp op t x y t' => bif isNilEq op y then (rdVt Γ t x).bind (nilR Γ d t) else (rdVt Γ t x).bind fun a => (rdVt Γ t' y).bind fun b => (binR (Γ.tk t) op a b).bind fun v => .ret [(sl d, vcell v)]
  | .unOp op t x => (rdVt Γ t x).bind fun a => (unR op a).bind fun v => .ret [(sl d, vcell v)]
  | .convert s t x => (rdVt Γ s x).bind fun a => (kindIs Γ s a.k).bind fun _ => (kindOf Γ t).bind fun k =>
      match a, k with
      | ⟨.int _, n⟩, .int k' => .ret [(sl d, .val (.int k') (k'.wrap n))]
      | ⟨.str, s⟩, .str => .ret [(sl d, .val .str s)]
      | _, _ => .fail
  | .alloc t => (kindOf Γ t).bind fun k => newAt id [(rt id, .root k k.zero 99 true false 0), (sl d, .ptr id [] 0)]
  | .box t x => (kindOf Γ t).bind fun k => (rdOp Γ t x).bind fun c => (got Γ x c).bind fun g => (Rd.opt (cast? k g.v)).bind fun v =>
      bif Γ.fz d then newAt id (leave false g ++ [(rt id, .dead), (sl d, .sptr k v)]) else
      match lentOf Γ d x with
      | none => newAt id (leave true g ++ [(rt id, .root k v g.dp true false 0), (sl d, .ptr id [] 0)])
      | some t => newAt id (leave true g ++ [(rt id, .root k v g.dp true true 0), (sl d, .ptr id [] 0)] ++ [(sl t, .fal id)])
  | .load t a => (rdB a).bind fun
      | .ptr r p ver => .rd (rt r) fun
        | .root k x dep box _ ver' => bif Nat.beq ver ver' || (box && noIdx p) then
            (Rd.opt (getP p k x)).bind fun v => (kindIs Γ t v.k).bind fun _ =>
            bif v.k.flat || Nat.beq dep 0 then .ret [(sl d, .val v.k v.d)] else .ret [(sl d, .al r p ver')]
          else .fail
        | _ => .fail
      | .sptr k x => (kindIs Γ t k).bind fun _ => .ret [(sl d, .val k x)]
      | _ => .fail
  | .store t a x => (rdB a).bind fun
      | .ptr r p ver => (rdOp Γ t x).bind fun c => match c with
        | .apd r' p' ver1 e l => bif Nat.beq r r' && decide (p = p') then (kindIs Γ t (.slice e)).bind fun _ => .rd (rt r) fun
            | .root k y dep true false ver' => bif Nat.beq ver1 ver' && noIdx p then (Rd.opt (setP p k y ⟨.slice e, l⟩)).bind fun y' => .ret ([(rt r, .root k y' dep true false (ver' + 1))] ++ slotW o.dst .none) else .fail
            | _ => .fail
          else .fail
        | c => (got Γ x c).bind fun g => (kindIs Γ t g.v.k).bind fun _ => .rd (rt r) fun
        | .root k y dep box frz ver' =>
          let m := lev p
          bif (Nat.beq ver ver' || (box && noIdx p)) && !frz && decide (m ≤ dep) && (box || decide (1 ≤ m)) && !fromIs g r then
            (Rd.opt (setP p k y g.v)).bind fun y' =>
            let dep' := bif g.v.k.flat then dep else min dep (m + g.dp)
            .ret (leave true g ++ [(rt r, .root k y' dep' box frz (ver' + 1))] ++ slotW o.dst .none)
          else .fail
        | _ => .fail
      | _ => .fail
  | .fieldAddr t x j => bif (Γ.ar t).isNone then (kindOf Γ t).bind fun k => (rdB x).bind fun c => (stepAddr k (fld j) c).bind fun c' => .ret [(sl d, c')] else .fail
  | .field t x j => bif (Γ.ar t).isNone then (rdVt Γ t x).bind fun v => (kindIs Γ t v.k).bind fun _ => (Rd.opt (getP (fld j) v.k v.d)).bind fun y => bif y.k.flat then .ret [(sl d, vcell y)] else .fail else .fail
  | .indexAddr t x i => (kindOf Γ t).bind fun
      | .slice e => (rdOp Γ t x).bind fun c => (look c).bind fun v => (Rd.opt (cast? (.slice e) v)).bind fun l =>
          (rdV i).bind fun iv => (asInt iv).bind fun n =>
          .ite (idxIn n.2 (List.length l)) (
            match c with
            | .al r p _ => .rd (rt r) fun
              | .root _ _ dep _ _ ver' => bif Nat.beq dep 0 then .ret [(sl d, .sptr e (at_ e l n.2.toNat))] else .ret [(sl d, .ptr r (p ++ [.i n.2.toNat]) ver')]
              | _ => .fail
            | .val .. => .ret [(sl d, .sptr e (at_ e l n.2.toNat))]
            | _ => .fail) .fail
      | k => bif (Γ.ar t).isSome then (rdB x).bind fun c => atArr (arrLen k) i fun j => (stepAddr k (fld j) c).bind fun c' => .ret [(sl d, c')] else .fail
  | .index t x i => (kindOf Γ t).bind fun
      | .str => (rdVt Γ t x).bind fun v => match v with
        | ⟨.str, s⟩ => (rdV i).bind fun iv => (asInt iv).bind fun n =>
            .ite (idxIn n.2 s.size) (.ret [(sl d, .val (.int .u8) ((s.data.getD n.2.toNat 0).toNat : Int))]) .fail
        | _ => .fail
      | k => bif (Γ.ar t).isSome then (rdVt Γ t x).bind fun v => (kindIs Γ t v.k).bind fun _ => atArr (arrLen k) i fun j => (Rd.opt (getP (fld j) v.k v.d)).bind fun y => bif y.k.flat then .ret [(sl d, vcell y)] else .fail else .fail
  | .slice t x lo hi none => (sliceR Γ t x lo hi).bind fun r => .ret (r.2 ++ [(sl d, r.1)])
  | .makeSlice t n c => (kindOf Γ t).bind fun
      | .slice e => (rdV n).bind fun nv => (asInt nv).bind fun x => (rdV c).bind fun cv => (asInt cv).bind fun y =>
          .ite (decide (0 ≤ x.2) && decide (x.2 ≤ y.2) && decide (y.2 ≤ (lim : Int)))
            (newAt id [(rt id, .root (.slice e) (List.replicate x.2.toNat e.zero) 99 false false 0), (sl d, .al id [] 0)]) .fail
      | _ => .fail
  | .build t ps => (kindOf Γ t).bind fun k =>
      bif isPair k then
      (gotAll Γ (partK k) ps.toList).bind fun gs =>
      (Rd.opt (placeF k k.zero (gs.map fun g => (g.1, g.2.v)))).bind fun v =>
      let dep := minDp gs
      bif distinctFrom gs then newAt id ((gs.flatMap fun g => leave (!Nat.beq dep 0) g.2) ++ made id d ⟨k, v⟩ dep) else .fail
      else .fail
  | .buildSlice t n ps => (kindOf Γ t).bind fun
      | .slice e => (gotAll Γ (fun _ => some e) ps.toList).bind fun gs =>
        (Rd.opt (place e (List.replicate n e.zero) (gs.map fun g => (g.1, g.2.v)))).bind fun l =>
        let dep := bif e.flat then 99 else minDp gs + 1
        bif (distinctFrom gs && gs.all fun g => decide (g.1 < n)) && decide (n * e.size ≤ 16777216) then newAt id ((gs.flatMap fun g => leave (decide (2 ≤ dep)) g.2) ++ [(rt id, .root (.slice e) l dep false false 0), (sl d, .al id [] 0)]) else .fail
      | _ => .fail
  | .extract x j => (rdB x).bind fun
      | .tal r => .rd (rt r) fun
        | .root k y dep _ _ ver => (Rd.opt (getP (fld j) k y)).bind fun v =>
            bif v.k.flat || Nat.beq dep 0 then .ret [(sl d, .val v.k v.d)] else .ret [(sl d, .al r (fld j) ver)]
        | _ => .fail
      | .tap r i ks y => (Rd.opt (getP (fld j) (Kd.tuple ks) y)).bind fun v =>
        bif v.k.flat then .ret [(sl d, .val v.k v.d)] else
        bif Nat.beq i j then .rd (rt r) fun
          | .root _ _ _ _ _ ver => .ret [(sl d, .al r [] ver)]
          | _ => .fail
        else .fail
      | _ => .fail
  | .call { callee := .builtin .len, args := as, argTypes := ts } =>
      match as.toList, ts.toList with
      | [x], [t] => (kindOf Γ t).bind fun k => match k with
        | .pair .. | .unit => bif (Γ.ar t).isSome then .ret [(sl d, .val (.int .i64) (arrLen k : Int))] else .fail
        | _ => (rdOp Γ t x).bind fun c => (look c).bind fun v => (kindIs Γ t v.k).bind fun _ => match v with
          | ⟨.slice _, l⟩ => .ret [(sl d, .val (.int .i64) (List.length l : Int))]
          | ⟨.str, s⟩ => .ret [(sl d, .val (.int .i64) (s.size : Int))]
          | _ => .fail
      | _, _ => .fail
  | .call { callee := .builtin .append, args := as, argTypes := ts } =>
      match as.toList, ts.toList with
      | [s, x], [t, t'] => bif Nat.beq t t' then appendR Γ id d t s x else .fail
      | _, _ => .fail
  | .call { callee := .builtin .max, args := as, argTypes := ts } =>
      match as.toList with
      | [x, y] => (rdB x).bind fun cx => (look cx).bind fun vx => (asInt vx).bind fun m => (rdB y).bind fun cy => (look cy).bind fun vy => (asInt vy).bind fun n =>
          bif decide (m.1 = n.1) then .ret [(sl d, .val (.int m.1) (if m.2 < n.2 then n.2 else m.2))] else .fail
      | _ => .fail
  | .call { callee := .value (.func f), args := as, argTypes := ts } =>
      bif Nat.beq as.size ts.size then (Rd.opt (Γ.fs f)).bind fun g => callR Γ o.dst id g (as.toList.zip ts.toList) else .fail
  | .call { callee := .value (.tmp x), args := as, argTypes := ts } =>
      bif Nat.beq as.size ts.size then .rd (sl x) fun
        | .val (.clo f _ _) _ => (Rd.opt (Γ.cs f)).bind fun g => callR Γ o.dst id g (as.toList.zip ts.toList ++ [(.tmp x, 0)])
        | _ => .fail
      else .fail
  | .makeFunc (.func f) xs ys => (capsR xs.toList).bind fun u => (capsR ys.toList).bind fun v => .ret [(sl d, .val (.clo f u.k v.k) (u.d, v.d))]
  | _ => .fail
end Go.V
