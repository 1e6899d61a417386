/- What the library's and the program's looping functions compute, as plain functions. -/
import Derived.Test.YtmeglfoapdkhdaaVLoop
import Derived.Lib.IndexAny
namespace Go.V.W
abbrev E := Int × Int × Unit
abbrev Gr := Int × List E × Unit
def okL {α : Type} (l : List α) : Bool := decide (l.length ≤ lim)
/-! strings -/
def asciiB (s : ByteArray) : Bool := s.data.toList.all fun b => decide (b.toNat < 128)
def smallB (s : ByteArray) : Bool := decide (s.size < 4294967281)
def okS (s : ByteArray) : Bool := decide (s.size ≤ maxLen)
def G_containsAny (d : ByteArray × ByteArray × Unit) : Option (Bool × Unit) :=
  if (asciiB d.1 && asciiB d.2.1 && smallB d.1 && smallB d.2.1) = true then some (Lib.containsAny d.1.data.toList d.2.1.data.toList, ()) else none
def printed1 (b : UInt8) : Bool := decide (32 ≤ b.toNat) && decide (b.toNat ≤ 126)
def printedB (s : ByteArray) : Bool := s.data.toList.all printed1
def G_isPrinted (d : ByteArray × ByteArray × Unit) : Option (Bool × Unit) :=
  if (asciiB d.2.1 && smallB d.1 && smallB d.2.1) = true then some (printedB d.1 && !Lib.containsAny d.1.data.toList d.2.1.data.toList, ()) else none
def G_l12Bytes (d : ByteArray × Int × Unit) : Option (Bool × Unit) :=
  if okS d.1 = true then some (d.1.data.toList.all (fun b => printed1 b && !(b.toNat == 35)) && decide ((d.1.size : Int) ≤ d.2.1), ()) else none
def G_l1Stands (d : ByteArray × Int × Unit) : Option (Bool × Unit) :=
  if okS d.1 = true then some (d.1.data.toList.any (fun b => ((b.toNat : Int) == d.2.1)), ()) else none
/-! copies -/
def G_toIntA2 (d : E × Unit) : Option (E × Unit) := some (d.1, ())
def G_toIntA2S (d : List E × Unit) : Option (List E × Unit) := if okL d.1 = true then some (d.1, ()) else none
def G_toIntS (d : List Int × Unit) : Option (List Int × Unit) := if okL d.1 = true then some (d.1, ()) else none
/-! equality -/
def G_eqIntA2 (d : E × E × Unit) : Option (Bool × Unit) := some (decide (d.1 = d.2.1), ())
def G_eqIntA2S (d : List E × List E × Unit) : Option (Bool × Unit) := if okL d.1 = true then some (decide (d.1 = d.2.1), ()) else none
def G_eqIntS (d : List Int × List Int × Unit) : Option (Bool × Unit) := if okL d.1 = true then some (decide (d.1 = d.2.1), ()) else none
/-! sets -/
/-- Strictly rising. -/
def risingB : List Int → Bool
  | [] => true
  | [_] => true
  | a :: b :: l => decide (a < b) && risingB (b :: l)
def inB (lo hi : Int) (x : Int) : Bool := decide (lo ≤ x) && decide (x ≤ hi)
def G_l1Rising (d : List Int × Int × Int × Unit) : Option (Bool × Unit) := if okL d.1 = true then some (d.1.all (inB d.2.1 d.2.2.1) && risingB d.1, ()) else none
def G_increasing (d : List Int × Unit) : Option (Bool × Unit) := if okL d.1 = true then some (risingB d.1, ()) else none
def G_allWithin (d : List Int × Int × Int × Unit) : Option (Bool × Unit) := if okL d.1 = true then some (d.1.all (inB d.2.1 d.2.2.1), ()) else none
/-- Lists compared from the front. -/
def cmpL : List Int → List Int → Int
  | [], [] => 0
  | [], _ :: _ => -1
  | _ :: _, [] => 1
  | a :: l, b :: m => if a < b then -1 else if b < a then 1 else cmpL l m
def G_compare (d : List Int × List Int × Unit) : Option (Int × Unit) := if (okL d.1 && okL d.2.1) = true then some (cmpL d.1 d.2.1, ()) else none
/-! graphs -/
def lessE (a b : E) : Bool := decide (a.1 < b.1) || (decide (a.1 = b.1) && decide (a.2.1 < b.2.1))
def risingE : List E → Bool
  | [] => true
  | [_] => true
  | a :: b :: l => lessE a b && risingE (b :: l)
def edgeB (n : Int) (e : E) : Bool := decide (0 ≤ e.1) && decide (e.1 < e.2.1) && decide (e.2.1 < n)
def graphB (g : Gr) : Bool := decide (0 ≤ g.1) && decide (g.1 ≤ 8) && g.2.1.all (edgeB g.1) && risingE g.2.1
def G_graph (d : Gr × Unit) : Option (Bool × Unit) := if okL d.1.2.1 = true then some (graphB d.1, ()) else none
/-! marks -/
def okK (k : Int) : Bool := decide (0 ≤ k) && decide (k ≤ 4398046511104)
def markL : Int → List Int → List Int
  | _, [] => []
  | k, _ :: l => k :: markL (k + 1) l
def markA : Int → List E → List E
  | _, [] => []
  | k, _ :: l => (k, k + 1, ()) :: markA (k + 2) l
def heldL : Int → List Int → Int
  | k, [] => k
  | k, x :: l => if x = k then heldL (k + 1) l else -1
def heldA : Int → List E → Int
  | k, [] => k
  | k, x :: l => if x.1 = k then (if x.2.1 = k + 1 then heldA (k + 2) l else -1) else -1
def G_markIntS (d : List Int × Int × Unit) : Option (Int × List Int × Unit) := if (okL d.1 && okK d.2.1) = true then some (d.2.1 + (d.1.length : Int), markL d.2.1 d.1, ()) else none
def G_markIntA2S (d : List E × Int × Unit) : Option (Int × List E × Unit) := if (okL d.1 && okK d.2.1) = true then some (d.2.1 + 2 * (d.1.length : Int), markA d.2.1 d.1, ()) else none
def G_heldIntS (d : List Int × Int × Unit) : Option (Int × Unit) := if (okL d.1 && okK d.2.1) = true then some (heldL d.2.1 d.1, ()) else none
def G_heldIntA2S (d : List E × Int × Unit) : Option (Int × Unit) := if (okL d.1 && okK d.2.1) = true then some (heldA d.2.1 d.1, ()) else none
/-! lists of lists -/
def okLL (l : List (List Int)) : Bool := okL l && l.all okL
def szStep (a : Int) (n : Nat) : Int := if a - (n : Int) < 0 then -1 else a - (n : Int)
def szFold : Int → List (List Int) → Int
  | a, [] => a
  | a, x :: l => if szStep a x.length < 0 then -1 else szFold (szStep a x.length) l
def okMx (n : Nat) : Bool := decide (n ≤ maxLen)
def G_szIntSS (d : List (List Int) × Int × Unit) : Option (Int × Unit) :=
  if (okMx d.1.length && d.1.all (fun x => okMx x.length) && decide (0 ≤ d.2.1) && decide (d.2.1 ≤ 1048576)) = true then some (if szStep d.2.1 d.1.length < 0 then -1 else szFold (szStep d.2.1 d.1.length) d.1, ()) else none
def G_toIntSS (d : List (List Int) × Unit) : Option (List (List Int) × Unit) := if okLL d.1 = true then some (d.1, ()) else none
def G_eqIntSS (d : List (List Int) × List (List Int) × Unit) : Option (Bool × Unit) := if okLL d.1 = true then some (decide (d.1 = d.2.1), ()) else none
/-! timetables -/
abbrev Tt := Gr × Int × List (List Int) × Unit
def badT (t : Tt) (x : List Int) : Bool := !risingB x || !x.all (inB 0 (IntKind.wrap .i64 (t.2.1 - 1)))
def timeB (t : Tt) : Bool := graphB t.1 && decide (t.1.1 > 0) && inB 1 4 t.2.1 && decide (t.2.2.1.length = t.1.2.1.length) && !t.2.2.1.any (badT t)
def okT (t : Tt) : Bool := okL t.1.2.1 && okLL t.2.2.1
def G_l11Good (d : Tt × Unit) : Option (Bool × Unit) := if okT d.1 = true then some (timeB d.1, ()) else none
/-- The first place where something is so. -/
def idxN {α : Type} (q : α → Bool) : List α → Nat → Option Nat
  | [], _ => none
  | x :: l, i => if q x = true then some i else idxN q l (i + 1)
def idxI (o : Option Nat) : Int := match o with | some i => (i : Int) | none => -1
def G_index84 (d : List (List Int) × (Unit × Tt × Unit) × Unit) : Option (Int × Unit) := if okLL d.1 = true then some (idxI (idxN (badT d.2.1.2.1) d.1 0), ()) else none
/-! static timetables -/
def staticT (g : Gr) : Tt × Bool × Unit := if (graphB g && decide (g.1 > 0)) = true then (((g.1, g.2.1, ()), 1, List.replicate g.2.1.length [0], ()), true, ()) else (((0, [], ()), 0, [], ()), false, ())
def G_static (d : Gr × Unit) : Option (Tt × Bool × Unit) := if okL d.1.2.1 = true then some (staticT d.1) else none
def sumL : List (List Int) → Int
  | [] => 0
  | x :: l => (x.length : Int) + sumL l
def markLL : Int → List (List Int) → List (List Int)
  | _, [] => []
  | k, x :: l => markL k x :: markLL (k + x.length) l
def heldLL : Int → List (List Int) → Int
  | k, [] => k
  | k, x :: l => if heldL k x < 0 then -1 else heldLL (heldL k x) l
def G_markIntSS (d : List (List Int) × Int × Unit) : Option (Int × List (List Int) × Unit) := if (okLL d.1 && okK d.2.1 && okK (d.2.1 + sumL d.1)) = true then some (d.2.1 + sumL d.1, markLL d.2.1 d.1, ()) else none
def G_heldIntSS (d : List (List Int) × Int × Unit) : Option (Int × Unit) := if (okLL d.1 && okK d.2.1 && okK (d.2.1 + sumL d.1)) = true then some (heldLL d.2.1 d.1, ()) else none
/-! nets -/
def orN (ms : List Nat) (x y : Nat) : List Nat := ms.set x (ms.getD x 0 ||| 2 ^ y)
def addN (ms : List Nat) (e : E) : List Nat := orN (orN ms e.1.toNat e.2.1.toNat) e.2.1.toNat e.1.toNat
def netN (n : Nat) (es : List E) : List Nat := es.foldl addN (List.replicate n 0)
def toI (ms : List Nat) : List Int := ms.map fun m : Nat => (m : Int)
abbrev Nt := List Int × Unit
def G_netOf (d : Gr × Unit) : Option (Nt × Unit) := if (decide (0 ≤ d.1.1) && decide (d.1.1 ≤ 8) && okL d.1.2.1 && d.1.2.1.all (edgeB d.1.1)) = true then some ((toI (netN d.1.1.toNat d.1.2.1), ()), ()) else none
def G_l1Has (d : List Int × Int × Unit) : Option (Bool × Unit) := if okL d.1 = true then some (d.1.any (fun y => y == d.2.1), ()) else none
def G_index (d : List Int × Int × Unit) : Option (Int × Unit) := if okL d.1 = true then some (idxI (idxN (fun y => d.2.1 == y) d.1 0), ()) else none
/-- The edges that are open at a remainder. -/
def selE : List E → List (List Int) → Int → List E
  | e :: es, t :: ts, r => if t.any (fun y => y == r) = true then e :: selE es ts r else selE es ts r
  | _, _, _ => []
def openE (t : Tt) (r : Int) : List E := selE t.1.2.1 t.2.2.1 r
def G_l11Open (d : Tt × Int × Unit) : Option (Gr × Unit) := if (timeB d.1 && okT d.1 && decide (0 ≤ d.2.1) && decide (d.2.1 ≤ 5000)) = true then some ((d.1.1.1, openE d.1 (d.2.1.tmod d.1.2.1), ()), ()) else none
def netsL (t : Tt) : List Nt := (List.range t.2.1.toNat).map fun r : Nat => (toI (netN t.1.1.toNat (openE t (r : Int))), ())
def G_openNets (d : Tt × Unit) : Option (List Nt × Unit) := if (timeB d.1 && okT d.1) = true then some (netsL d.1, ()) else none
/-- The pairs of nodes in order. -/
def rowE (p : Nat → Nat → Bool) (x : Nat) : Nat → Nat → List E
  | 0, _ => []
  | m + 1, y => if p x y = true then ((x : Int), (y : Int), ()) :: rowE p x m (y + 1) else rowE p x m (y + 1)
def allE (p : Nat → Nat → Bool) (n : Nat) : Nat → Nat → List E
  | 0, _ => []
  | m + 1, x => rowE p x (n - (x + 1)) (x + 1) ++ allE p n m (x + 1)
def hasN (ms : List Nat) (x y : Nat) : Bool := (ms.getD x 0).testBit y
def fromI (l : List Int) : List Nat := l.map Int.toNat
def smallN (l : List Int) : Bool := decide (l.length ≤ 8) && l.all fun m => decide (0 ≤ m) && decide (m < 256)
def G_graphBy135 (d : Int × ((Nt × Unit) × Unit) × Unit) : Option (Gr × Unit) := if (smallN d.2.1.1.1.1 && decide (d.1 = (d.2.1.1.1.1.length : Int))) = true then some ((d.1, allE (hasN (fromI d.2.1.1.1.1)) d.1.toNat d.1.toNat 0, ()), ()) else none
/-! reaching -/
/-- The numbers from x on, k of them, for which p holds. -/
def setF (p : Nat → Bool) : Nat → Nat → List Int
  | 0, _ => []
  | k + 1, x => if p x = true then (x : Int) :: setF p k (x + 1) else setF p k (x + 1)
def nearI (es : List E) (a b : Int) : Bool := es.any fun e => (e.1 == a && e.2.1 == b) || (e.1 == b && e.2.1 == a)
def G_l2Near (d : Gr × Int × Int × Unit) : Option (Bool × Unit) := if okL d.1.2.1 = true then some (nearI d.1.2.1 d.2.1 d.2.2.1, ()) else none
def G_l2Neighbors (d : Gr × Int × Unit) : Option (List Int × Unit) := if (okL d.1.2.1 && decide (0 ≤ d.1.1) && decide (d.1.1 ≤ 8)) = true then some (setF (fun y => nearI d.1.2.1 d.2.1 (y : Int)) d.1.1.toNat 0, ()) else none
def putL (x : Int) : List Int → List Int
  | [] => [x]
  | a :: l => if a < x then a :: putL x l else if a = x then a :: l else x :: a :: l
def okS1 (l : List Int) : Bool := decide (l.length ≤ 1000)
def G_l1Put (d : List Int × Int × Unit) : Option (List Int × Unit) := if okS1 d.1 = true then some (putL d.2.1 d.1, ()) else none
def putAll (o bs : List Int) : List Int := bs.foldl (fun o z => putL z o) o
def ballL (n : Nat) (es : List E) (x : Int) : List Int := putL x (setF (fun y => nearI es x (y : Int)) n 0)
def reachL (n : Nat) (es : List E) (set : List Int) : List Int := set.foldl (fun o x => putAll o (ballL n es x)) []
def okSet (n : Int) (l : List Int) : Bool := decide (l.length ≤ 8) && l.all (inB 0 (n - 1))
def G_l11Reached (d : Tt × List Int × Int × Unit) : Option (List Int × Unit) := if (timeB d.1 && okT d.1 && decide (0 ≤ d.2.2.1) && decide (d.2.2.1 ≤ 5000) && okSet d.1.1.1 d.2.1) = true then some (reachL d.1.1.1.toNat (openE d.1 (d.2.2.1.tmod d.1.2.1)) d.2.1, ()) else none
def arN (ms : List Nat) (s : Nat) : Nat → Nat → Nat → Nat
  | 0, _, o => o
  | k + 1, x, o => arN ms s k (x + 1) (if s.testBit x = true then o ||| ms.getD x 0 else o)
def G_around (d : Nt × Int × Unit) : Option (Int × Unit) := if (smallN d.1.1 && decide (0 ≤ d.2.1) && decide (d.2.1 < 256)) = true then some (((arN (fromI d.1.1) d.2.1.toNat d.1.1.length 0 d.2.1.toNat : Nat) : Int), ()) else none
def G_setOf (d : Int × Unit) : Option (List Int × Unit) := if (decide (0 ≤ d.1) && decide (d.1 < 256)) = true then some (setF (fun y => d.1.toNat.testBit y) 8 0, ()) else none
def stepP (es : List E) (n : Nat) (p : Nat → Bool) (y : Nat) : Bool := p y || (List.range n).any fun x => p x && nearI es (x : Int) (y : Int)
def iterP (t : Tt) (c : Int) (x : Int) : Nat → Nat → Bool
  | 0, y => decide ((y : Int) = x)
  | k + 1, y => stepP (openE t ((c + (k : Int)).tmod t.2.1)) t.1.1.toNat (iterP t c x k) y
def rbB (t : Tt) (x c s : Int) : List Int × Bool × Unit := if (timeB t && inB 0 (t.1.1 - 1) x && inB 0 1000 c && inB 0 1000 s) = true then (setF (iterP t c x s.toNat) t.1.1.toNat 0, true, ()) else ([], false, ())
def G_reachedBy (d : Tt × Int × Int × Int × Unit) : Option (List Int × Bool × Unit) := if okT d.1 = true then some (rbB d.1 d.2.1 d.2.2.1 d.2.2.2.1) else none
/-! arriving -/
def findF (q : Nat → Bool) : Nat → Nat → Int
  | 0, _ => -1
  | k + 1, i => if q i = true then (i : Int) else findF q k (i + 1)
def arrI (t : Tt) (c x y : Int) : Int := findF (fun i => iterP t c x i y.toNat) 33 0
def endsB (t : Tt) (x y : Int) : Bool := timeB t && inB 0 (t.1.1 - 1) x && inB 0 (t.1.1 - 1) y
def G_l11Arrive (d : Tt × Int × Int × Int × Unit) : Option (Int × Unit) := if (okT d.1 && endsB d.1 d.2.1 d.2.2.1 && inB 0 2000 d.2.2.2.1) = true then some (arrI d.1 d.2.2.2.1 d.2.1 d.2.2.1, ()) else none
def eaB (t : Tt) (x y c : Int) : Int × Bool × Unit := if arrI t c x y < 0 then (0, false, ()) else (arrI t c x y, true, ())
def G_earliestArrival (d : Tt × Int × Int × Int × Unit) : Option (Int × Bool × Unit) := if (okT d.1 && endsB d.1 d.2.1 d.2.2.1 && inB 0 1000 d.2.2.2.1) = true then some (eaB d.1 d.2.1 d.2.2.1 d.2.2.2.1) else none
/-- The first number from x on, among k, for which p holds. -/
def firstF (p : Nat → Bool) : Nat → Nat → Nat
  | 0, x => x
  | k + 1, x => if p x = true then x else firstF p k (x + 1)
def tripL (t : Tt) (y : Int) : Nat → Int → Nat → List Int
  | 0, _, _ => []
  | k + 1, c, z =>
    let w := firstF (fun w => (nearI (openE t (c.tmod t.2.1)) (z : Int) (w : Int) || decide (w = z)) && iterP t (c + 1) (w : Int) k y.toNat) t.1.1.toNat 0
    (w : Int) :: tripL t y k (c + 1) w
def tripB (t : Tt) (x y c : Int) : List Int × Bool × Unit := if (endsB t x y && inB 0 1000 c && decide (0 ≤ arrI t c x y)) = true then (x :: tripL t y (arrI t c x y).toNat c x.toNat, true, ()) else ([], false, ())
def G_earliestTrip (d : Tt × Int × Int × Int × Unit) : Option (List Int × Bool × Unit) := if okT d.1 = true then some (tripB d.1 d.2.1 d.2.2.1 d.2.2.2.1) else none
/-! copies of one number -/
def G_repeat (d : List Int × Int × Unit) : Option (List Int × Unit) := if (decide (d.1.length = 1) && decide (1 ≤ d.2.1) && decide (d.2.1 ≤ 8)) = true then some (List.replicate d.2.1.toNat (d.1.headD 0), ()) else none
/-! times of the game of one cop -/
abbrev Tab := List (List Int)
def tab2 (T : Tab) (c r : Int) : Int := (T.getD c.toNat []).getD r.toNat 0
def worstL (row : Int → Int) : List Int → Int → Int
  | [], m => m
  | b :: bs, m => if row b < 0 then -1 else worstL row bs (if m < row b then row b else m)
def bestL (after : Int → Int) : List Int → Int → Int
  | [], b => b
  | x :: xs, b => if after x ≥ 0 ∧ (b < 0 ∨ after x < b) then bestL after xs (after x) else bestL after xs b
/-- The closed neighborhoods, by edges and by bits. -/
def ballF (n : Nat) (es : List E) (x : Int) : List Int := setF (fun y => nearI es x (y : Int) || decide ((y : Int) = x)) n 0
def ballM (l : List Int) (x : Int) : List Int := setF (fun y => (((fromI l).getD x.toNat 0) ||| 2 ^ x.toNat).testBit y) 8 0
def afterT (ball : Int → List Int) (T : Tab) (b r : Int) : Int := if b = r then 0 else worstL (tab2 T b) (ball r) 0
def sqL (n : Nat) (T : Tab) : Bool := decide (T.length = n) && T.all fun row => decide (row.length = n)
def sqB (n : Nat) (T : Tab) : Bool := sqL n T && T.all fun row => row.all fun v => decide (-1 ≤ v) && decide (v ≤ 1000)
def grB (g : Gr) : Bool := okL g.2.1 && decide (0 ≤ g.1) && decide (g.1 ≤ 8) && g.2.1.all (edgeB g.1)
def G_l3Worst (d : Gr × Tab × Int × Int × Unit) : Option (Int × Unit) := if (grB d.1 && sqB d.1.1.toNat d.2.1 && inB 0 (d.1.1 - 1) d.2.2.1 && inB 0 (d.1.1 - 1) d.2.2.2.1) = true then some (worstL (tab2 d.2.1 d.2.2.1) (ballF d.1.1.toNat d.1.2.1 d.2.2.2.1) 0, ()) else none
def G_l3Best (d : Gr × Tab × Int × Int × Unit) : Option (Int × Unit) := if (grB d.1 && sqB d.1.1.toNat d.2.1 && inB 0 (d.1.1 - 1) d.2.2.1 && inB 0 (d.1.1 - 1) d.2.2.2.1) = true then some (bestL (fun b => afterT (ballF d.1.1.toNat d.1.2.1) d.2.1 b d.2.2.2.1) (ballF d.1.1.toNat d.1.2.1 d.2.2.1) (-1), ()) else none
/-- The times, as a function. -/
def tabL (n : Nat) (f : Nat → Nat → Int) : Tab := (List.range n).map fun c => (List.range n).map fun r => f c r
def canF (n : Nat) (ball : Int → List Int) (f : Nat → Nat → Int) (c r : Nat) : Bool := decide (f c r < 0) && (ball (c : Int)).any fun b => decide (0 ≤ afterT ball (tabL n f) b (r : Int))
def stepF (n : Nat) (ball : Int → List Int) (t : Int) (f : Nat → Nat → Int) (c r : Nat) : Int := if canF n ball f c r = true then t else f c r
def anyF (n : Nat) (p : Nat → Nat → Bool) : Bool := (List.range n).any fun c => (List.range n).any fun r => p c r
def timesF (n : Nat) (ball : Int → List Int) : Nat → Int → (Nat → Nat → Int) → (Nat → Nat → Int)
  | 0, _, f => f
  | k + 1, t, f => if anyF n (canF n ball f) = true then timesF n ball k (t + 1) (stepF n ball t f) else f
def startF (c r : Nat) : Int := if c = r then 0 else -1
def timesT (n : Nat) (ball : Int → List Int) : Tab := tabL n (timesF n ball 65 1 startF)
def G_l3Times (d : Gr × Unit) : Option (Tab × Unit) := if grB d.1 = true then some (timesT d.1.1.toNat (ballF d.1.1.toNat d.1.2.1), ()) else none
def netB (l : List Int) : Bool := smallN l && l.all fun m => decide (m < ((2 ^ l.length : Nat) : Int))
def G_timeAfter (d : Nt × List Int × Int × Unit) : Option (Int × Unit) := if (netB d.1.1 && decide (d.2.1.length = d.1.1.length) && inB 0 ((d.1.1.length : Int) - 1) d.2.2.1) = true then some (worstL (fun z => d.2.1.getD z.toNat 0) (ballM d.1.1 d.2.2.1) 0, ()) else none
def G_index154 (d : List Int × (Unit × Int × Nt × Tab × Unit) × Unit) : Option (Int × Unit) := if (netB d.2.1.2.2.1.1 && sqL d.2.1.2.2.1.1.length d.2.1.2.2.2.1 && inB 0 ((d.2.1.2.2.1.1.length : Int) - 1) d.2.1.2.1 && d.1.all (inB 0 ((d.2.1.2.2.1.1.length : Int) - 1)) && okS1 d.1) = true then some (idxI (idxN (fun b => decide (0 ≤ afterT (ballM d.2.1.2.2.1.1) d.2.1.2.2.2.1 b d.2.1.2.1)) d.1 0), ()) else none
def G_copTimes (d : Nt × Unit) : Option (Tab × Unit) := if netB d.1.1 = true then some (timesT d.1.1.length (ballM d.1.1), ()) else none
end Go.V.W
