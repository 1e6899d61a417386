/- What the library and the program's scanning functions compute, as plain functions. -/
import Derived.Test.YtmeglfoapdkhdaaVGen
import Derived.Lib.IndexAny
namespace Go.V.W
def asciiB (s : ByteArray) : Bool := s.data.toList.all fun b => decide (b.toNat < 128)
def smallB (s : ByteArray) : Bool := decide (s.size < 4294967281)
def okS (s : ByteArray) : Bool := decide (s.size ≤ maxLen)
def G_containsAny (d : ByteArray × ByteArray × Unit) : Option (Bool × Unit) :=
  if (asciiB d.1 && asciiB d.2.1 && smallB d.1 && smallB d.2.1) = true then some (Lib.containsAny d.1.data.toList d.2.1.data.toList, ()) else none
def printed1 (b : UInt8) : Bool := decide (32 ≤ b.toNat) && decide (b.toNat ≤ 126)
def printedB (s : ByteArray) : Bool := s.data.toList.all printed1
def G_isPrinted (d : ByteArray × ByteArray × Unit) : Option (Bool × Unit) :=
  if (asciiB d.2.1 && smallB d.1 && smallB d.2.1) = true then some (printedB d.1 && !Lib.containsAny d.1.data.toList d.2.1.data.toList, ()) else none
def G_l12Bytes (d : ByteArray × Int × Unit) : Option (Bool × Unit) :=
  if okS d.1 = true then some (d.1.data.toList.all (fun b => printed1 b && !(b.toNat == 35)) && decide ((d.1.size : Int) ≤ d.2.1), ()) else none
def G_l1Stands (d : ByteArray × Int × Unit) : Option (Bool × Unit) :=
  if okS d.1 = true then some (d.1.data.toList.any (fun b => ((b.toNat : Int) == d.2.1)), ()) else none
end Go.V.W
