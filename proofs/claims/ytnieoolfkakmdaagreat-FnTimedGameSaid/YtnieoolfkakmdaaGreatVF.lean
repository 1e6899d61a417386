/- What the law FnTimedGame leans on, part 6: an interpreter of the model as plain data, its soundness, the functions as it tells them, and their laws. -/
import Derived.Test.YtnieoolfkakmdaaGreatProg
import Derived.Laws.CopyOwn
import Derived.Deep.OwnRows
import Derived.WalkKit
import Derived.LoopN
import Derived.Deep.DeepFit
import Derived.Shelf.Lays
import Derived.IntWalk
import Derived.Lib.Builder
import Derived.Test.YtnieoolfkakmdaaGreatVE
set_option linter.unusedVariables false
set_option linter.unusedSimpArgs false
set_option maxRecDepth 100000
noncomputable section
namespace Go.V.W
open Go.Proofs
def Kq (N:Nat):Nat->Mo->Option Ma
 | 0,_=>none
 | k+1,d=>Jg N (Kq N k) d
abbrev PX:=(List (List Int×Unit))×Int×List (Tab)×Int×Bool×Unit
abbrev OR:=(List (Tab)×Unit)⊕Empty
def Alp:AP:=[(0,.v AU),(3,.v I),(4,.own An 99),(8,.v I),(9,.v .bool)]
def Aoc:AJ:=[(.normal,[(4,.own An 99)])]
def QD (N:Nat) (back:PX->Option OR) (d:PX):Option OR:=
 let s0:=d.1
 let s3:=d.2.1
 let s4:=d.2.2.1
 let s8:=d.2.2.2.1
 let s9:=d.2.2.2.2.1
 if (s9)=true then
  (MP N N ((s0,(s3,(s4,(s8,(false,(([]:List (Int×Int×Int×Unit)),(s0,((List.length s0:Int),((0:Int),()))))))))))).bind fun o58=>match o58 with
  | .inl d59=>
   (Kq N N ((d59.1,(d59.2.1,(d59.2.2.1,(d59.2.2.2.1,(d59.2.2.2.2.1,(d59.2.2.2.2.2.1,((List.length d59.2.2.2.2.2.1:Int),((0:Int),())))))))))).bind fun o62=>match o62 with
   | .inl d63=>
    let x64:=IntKind.wrap .i64 (d63.2.2.2.1+(1:Int))
    back ((d63.1,(d63.2.1,(d63.2.2.1,(x64,(d63.2.2.2.2.1,()))))))
 else
  some (.inl (s4,()))
def NO (N:Nat):Nat->PX->Option OR
 | 0,_=>none
 | k+1,d=>QD N (NO N k) d
def Xk (N:Nat) (d:(List (List Int×Unit))×Unit):Option (List (Tab)×Unit):=
 let a0:=d.1
 if (Af (0:Int) (List.length a0))=true then
 let r1:=E8 (at_ AA a0 (0:Int).toNat,())
 if ((decide (0<=(List.length a0:Int))&&decide ((List.length a0:Int)<=(List.length a0:Int))&&decide ((List.length a0:Int)<=(lim:Int))))=true then
 let x2:=List.replicate (List.length a0:Int).toNat ([]:Tab)
 (NJ N N ((a0,(r1.1,(x2,((List.length x2:Int),((0:Int),()))))))).bind fun o10=>match o10 with
 | .inl d11=>
  (NO N N ((d11.1,(d11.2.1,(d11.2.2.1,((1:Int),(true,()))))))).bind fun o32=>match o32 with
  | .inl d33=>
   some (d33.1,())
 else none
 else none
def XP:FSig:=⟨[(AU,false)],[An],true,(CJ)⟩
def Ayj:Ctx:={ tk:=Ac tks,ar:=Ac ars,fs:=Ac [(76,L8),(162,Pv),(170,XP)] }
def Jq (N:Nat) (d:(Gr×Int×Tab×Unit)×Unit):Option (List (Tab)×Bool×Unit):=
 let a0:=d.1
 ((Hk 0) (a0,())).bind fun r1=>
 if (!r1.1)=true then
  some ((([]:List (Tab)),(false,())))
 else
  (Co (a0,())).bind fun r2=>
  (CJ (r2.1,())).bind fun r3=>
  some ((r3.1,(true,())))
def Apy:FSig:=⟨[(Ae,false)],[An,.bool],true,(Jq 0)⟩
def UR:Ctx:={ tk:=Ac tks,ar:=Ac ars,fs:=Ac [] }
abbrev F7:=List Int×List Int×Int×Unit
abbrev FO:=(Bool×Unit)⊕Unit⊕Empty
def RF:AP:=[(0,.v Ai),(1,.v Ai),(5,.v I)]
def Ru:AJ:=[(.ret,[(4,.v .bool)]),(.normal,[])]
def Dv (N:Nat) (back:F7->Option FO) (d:F7):Option FO:=
 let s0:=d.1
 let s1:=d.2.1
 let s5:=d.2.2.1
 if (decide (s5<(List.length s0:Int)))=true then
  if (Af s5 (List.length s0))=true then
  if (Af s5 (List.length s1))=true then
  if (at_ I s0 s5.toNat != at_ I s1 s5.toNat)=true then
   some (.inl (false,()))
  else
   let x5:=IntKind.wrap .i64 (s5+(1:Int))
   back ((s0,(s1,(x5,()))))
  else none
  else none
 else
  some (.inr (.inl ()))
def Dz (N:Nat):Nat->F7->Option FO
 | 0,_=>none
 | k+1,d=>Dv N (Dz N k) d
def Gt (N:Nat) (d:List Int×List Int×Unit):Option (Bool×Unit):=
 let a0:=d.1
 let a1:=d.2.1
 if ((List.length a0:Int) != (List.length a1:Int))=true then
  some (false,())
 else
  (Dz N N ((a0,(a1,((0:Int),()))))).bind fun o2=>match o2 with
  | .inl d3=>
   some (d3.1,())
  | .inr (.inl d4)=>
   some (true,())
def NP:FSig:=⟨[(Ai,false),(Ai,false)],[.bool],true,(NH)⟩
def Ask:Ctx:={ tk:=Ac tks,ar:=Ac ars,fs:=Ac [(38,NP)] }
abbrev L3:=Tab×Tab×Int×Unit
abbrev LR:=(Bool×Unit)⊕Unit⊕Empty
def Ade:AP:=[(0,.v Ag),(1,.v Ag),(5,.v I)]
def Adg:AJ:=[(.ret,[(4,.v .bool)]),(.normal,[])]
def GX (N:Nat) (back:L3->Option LR) (d:L3):Option LR:=
 let s0:=d.1
 let s1:=d.2.1
 let s5:=d.2.2.1
 if (decide (s5<(List.length s0:Int)))=true then
  if (Af s5 (List.length s0))=true then
  if (Af s5 (List.length s1))=true then
  (NH ((at_ Ai s0 s5.toNat,(at_ Ai s1 s5.toNat,())))).bind fun r6=>
  if (!r6.1)=true then
   some (.inl (false,()))
  else
   let x7:=IntKind.wrap .i64 (s5+(1:Int))
   back ((s0,(s1,(x7,()))))
  else none
  else none
 else
  some (.inr (.inl ()))
def Im (N:Nat):Nat->L3->Option LR
 | 0,_=>none
 | k+1,d=>GX N (Im N k) d
def Sa (N:Nat) (d:Tab×Tab×Unit):Option (Bool×Unit):=
 let a0:=d.1
 let a1:=d.2.1
 if ((List.length a0:Int) != (List.length a1:Int))=true then
  some (false,())
 else
  (Im N N ((a0,(a1,((0:Int),()))))).bind fun o3=>match o3 with
  | .inl d4=>
   some (d4.1,())
  | .inr (.inl d5)=>
   some (true,())
def Wy:FSig:=⟨[(Ag,false),(Ag,false)],[.bool],true,(FJ)⟩
def UF:Ctx:={ tk:=Ac tks,ar:=Ac ars,fs:=Ac [(43,Wy)] }
abbrev F9:=List (Tab)×List (Tab)×Int×Unit
abbrev Em:=(Bool×Unit)⊕Unit⊕Empty
def RA:AP:=[(0,.v An),(1,.v An),(5,.v I)]
def Rv:AJ:=[(.ret,[(4,.v .bool)]),(.normal,[])]
def Ds (N:Nat) (back:F9->Option Em) (d:F9):Option Em:=
 let s0:=d.1
 let s1:=d.2.1
 let s5:=d.2.2.1
 if (decide (s5<(List.length s0:Int)))=true then
  if (Af s5 (List.length s0))=true then
  if (Af s5 (List.length s1))=true then
  (FJ ((at_ Ag s0 s5.toNat,(at_ Ag s1 s5.toNat,())))).bind fun r6=>
  if (!r6.1)=true then
   some (.inl (false,()))
  else
   let x7:=IntKind.wrap .i64 (s5+(1:Int))
   back ((s0,(s1,(x7,()))))
  else none
  else none
 else
  some (.inr (.inl ()))
def Dy (N:Nat):Nat->F9->Option Em
 | 0,_=>none
 | k+1,d=>Ds N (Dy N k) d
def Gf (N:Nat) (d:List (Tab)×List (Tab)×Unit):Option (Bool×Unit):=
 let a0:=d.1
 let a1:=d.2.1
 if ((List.length a0:Int) != (List.length a1:Int))=true then
  some (false,())
 else
  (Dy N N ((a0,(a1,((0:Int),()))))).bind fun o3=>match o3 with
  | .inl d4=>
   some (d4.1,())
  | .inr (.inl d5)=>
   some (true,())
def NM:FSig:=⟨[(An,false),(An,false)],[.bool],true,(Dh)⟩
def Axj:Ctx:={ tk:=Ac tks,ar:=Ac ars,fs:=Ac [] }
def W8 (N:Nat) (d:(List (Int×Int×Unit))×Unit):Option ((List (Int×Int×Unit))×Unit):=
 let a0:=d.1
 if (decide (List.length a0=0))=true then
  Ab8 (
    some ((([]:List (Int×Int×Unit)),()))) (
    if (decide (List.length ([]:List (Int×Int×Unit))+List.length a0<=lim))=true then
    let x1:=([]:List (Int×Int×Unit))++a0
    some (x1,())
    else none)
 else
  if (decide (List.length ([]:List (Int×Int×Unit))+List.length a0<=lim))=true then
  let x2:=([]:List (Int×Int×Unit))++a0
  some (x2,())
  else none
def Ase:FSig:=⟨[(Cb,false)],[Cb],true,(GP)⟩
def Ayp:Ctx:={ tk:=Ac tks,ar:=Ac ars,fs:=Ac [(114,SH),(172,Ase)] }
abbrev QI:=(Gr×Int×Tab×Unit)×(Gr×Int×Tab×Unit)×Int×Int×Unit
abbrev QE:=((Gr×Int×Tab×Unit)×(Gr×Int×Tab×Unit)×Unit)⊕Empty
def Ais:AP:=[(2,.box Ae 99),(4,.box Ae 99),(23,.v I),(24,.v I)]
def Am1:AJ:=[(.normal,[(2,.box Ae 99),(4,.box Ae 99)])]
def HF (N:Nat) (back:QI->Option QE) (d:QI):Option QE:=
 let s2:=d.1
 let s4:=d.2.1
 let s23:=d.2.2.1
 let s24:=d.2.2.2.1
 if (decide (s24<s23))=true then
  if (decide (List.length s4.2.2.1+List.length ([[(0:Int)]])<=lim))=true then
  let x6:=IntKind.wrap .i64 (s24+(1:Int))
  back ((s2,((s4.1,(s4.2.1,(s4.2.2.1++([[(0:Int)]]),s4.2.2.2))),(s23,(x6,())))))
  else none
 else
  some (.inl ((s2,(s4,()))))
def IQ (N:Nat):Nat->QI->Option QE
 | 0,_=>none
 | k+1,d=>HF N (IQ N k) d
def V4 (N:Nat) (d:Gr×Unit):Option ((Gr×Int×Tab×Unit)×Bool×Unit):=
 let a0:=d.1
 (C2 (a0,())).bind fun r1=>
 if (!r1.1)=true then
  some (((((0:Int),(([]:List (Int×Int×Unit)),())),((0:Int),(([]:Tab),()))),(false,())))
 else
  if (a0.1==(0:Int))=true then
   some (((((0:Int),(([]:List (Int×Int×Unit)),())),((0:Int),(([]:Tab),()))),(false,())))
  else
   (GP (a0.2.1,())).bind fun r2=>
   (IQ N N (((((0:Int),(([]:List (Int×Int×Unit)),())),((0:Int),(([]:Tab),()))),(((a0.1,(r2.1,())),((1:Int),(([]:Tab),()))),((List.length a0.2.1:Int),((0:Int),())))))).bind fun o4=>match o4 with
   | .inl d5=>
    some ((d5.2.1,(true,())))
def Ara:FSig:=⟨[(Aj,false)],[Ae,.bool],true,(Iu)⟩
def Av5:Ctx:={ tk:=Ac tks,ar:=Ac ars,fs:=Ac [(114,SH),(143,KE)] }
def Tv (N:Nat) (d:Gr×Int×Unit):Option (Bool×Unit):=
 let a0:=d.1
 let a1:=d.2.1
 (C2 (a0,())).bind fun r1=>
 if (r1.1)=true then
  if (decide (a0.1>(0:Int)))=true then
   let r2:=ET ((a1,((1:Int),((3:Int),()))))
   some (r2.1,())
  else
   some (false,())
 else
  some (false,())
def Ap1:FSig:=⟨[(Aj,false),(I,false)],[.bool],true,(Tv 0)⟩
def Awo:Ctx:={ tk:=Ac tks,ar:=Ac ars,fs:=Ac [] }
def XM (N:Nat) (d:List Int×Unit):Option (List Int×Unit):=
 let a0:=d.1
 if (decide (List.length a0=0))=true then
  Ab8 (
    some (([]:List Int),())) (
    if (decide (List.length ([]:List Int)+List.length a0<=lim))=true then
    some (([]:List Int)++a0,())
    else none)
 else
  if (decide (List.length ([]:List Int)+List.length a0<=lim))=true then
  some (([]:List Int)++a0,())
  else none
def Aek:FSig:=⟨[(Ai,false)],[Ai],true,(FE)⟩
def Azf:Ctx:={ tk:=Ac tks,ar:=Ac ars,fs:=Ac [(146,Aek)],dm:=fun t=>Nat.beq t 8||Nat.beq t 15,cs:=Ac [] }
abbrev QJ:=Int×Tab×List Int×Int×Int×Int×Tab×Int×Int×Unit
abbrev Pm:=(Int×Tab×Int×Int×Tab×Int×Int×Unit)⊕Empty
def Am6:AP:=[(0,.v I),(6,.own Ag 99),(8,.v Ai),(10,.v I),(12,.v I),(13,.v I),(15,.v Ag),(16,.v I),(17,.v I)]
def Alx:AJ:=[(.normal,[(0,.v I),(6,.own Ag 99),(12,.v I),(13,.v I),(15,.v Ag),(16,.v I),(17,.v I)])]
def Ik (N:Nat) (back:QJ->Option Pm) (d:QJ):Option Pm:=
 let s0:=d.1
 let s6:=d.2.1
 let s8:=d.2.2.1
 let s10:=d.2.2.2.1
 let s12:=d.2.2.2.2.1
 let s13:=d.2.2.2.2.2.1
 let s15:=d.2.2.2.2.2.2.1
 let s16:=d.2.2.2.2.2.2.2.1
 let s17:=d.2.2.2.2.2.2.2.2.1
 if (decide (s10<s0))=true then
  (FE (s8,())).bind fun r48=>
  if (decide (List.length r48.1+List.length ([s10])<=lim))=true then
  if (decide (List.length s6+List.length ([r48.1++([s10])])<=lim))=true then
  let x49:=IntKind.wrap .i64 (s10+(1:Int))
  back ((s0,(s6++([r48.1++([s10])]),(s8,(x49,(s12,(s13,(s15,(s16,(s17,()))))))))))
  else none
  else none
 else
  some (.inl ((s0,(s6,(s12,(s13,(s15,(s16,(s17,())))))))))
def Ng (N:Nat):Nat->QJ->Option Pm
 | 0,_=>none
 | k+1,d=>Ik N (Ng N k) d
abbrev N8:=Int×Tab×Int×Int×Tab×Int×Int×Unit
abbrev PU:=(Int×Tab×Int×Int×Unit)⊕Empty
def Ajl:AP:=[(0,.v I),(6,.own Ag 99),(12,.v I),(13,.v I),(15,.v Ag),(16,.v I),(17,.v I)]
def Ao0:AJ:=[(.normal,[(0,.v I),(6,.own Ag 99),(12,.v I),(13,.v I)])]
def Hw (N:Nat) (back:N8->Option PU) (d:N8):Option PU:=
 let s0:=d.1
 let s6:=d.2.1
 let s12:=d.2.2.1
 let s13:=d.2.2.2.1
 let s15:=d.2.2.2.2.1
 let s16:=d.2.2.2.2.2.1
 let s17:=d.2.2.2.2.2.2.1
 if (decide (s17<s16))=true then
  if (Af s17 (List.length s15))=true then
  if (decide ((List.length (at_ Ai s15 s17.toNat):Int)>(0:Int)))=true then
   let x39:=IntKind.wrap .i64 ((List.length (at_ Ai s15 s17.toNat):Int)-(1:Int))
   if (Af x39 (List.length (at_ Ai s15 s17.toNat)))=true then
   (Ng N N ((s0,(s6,(at_ Ai s15 s17.toNat,(at_ I (at_ Ai s15 s17.toNat) x39.toNat,(s12,(s13,(s15,(s16,(s17,()))))))))))).bind fun o42=>match o42 with
   | .inl d43=>
    let x44:=IntKind.wrap .i64 (d43.2.2.2.2.2.2.1+(1:Int))
    back ((d43.1,(d43.2.1,(d43.2.2.1,(d43.2.2.2.1,(d43.2.2.2.2.1,(d43.2.2.2.2.2.1,(x44,()))))))))
   else none
  else
   (Ng N N ((s0,(s6,(at_ Ai s15 s17.toNat,((0:Int),(s12,(s13,(s15,(s16,(s17,()))))))))))).bind fun o45=>match o45 with
   | .inl d46=>
    let x47:=IntKind.wrap .i64 (d46.2.2.2.2.2.2.1+(1:Int))
    back ((d46.1,(d46.2.1,(d46.2.2.1,(d46.2.2.2.1,(d46.2.2.2.2.1,(d46.2.2.2.2.2.1,(x47,()))))))))
  else none
 else
  some (.inl ((s0,(s6,(s12,(s13,()))))))
def Sz (N:Nat):Nat->N8->Option PU
 | 0,_=>none
 | k+1,d=>Hw N (Sz N k) d
abbrev O1:=Int×Tab×Int×Int×Unit
abbrev PO:=(Tab×Unit)⊕Empty
def An3:AP:=[(0,.v I),(5,.own Ag 99),(12,.v I),(13,.v I)]
def Amz:AJ:=[(.normal,[(5,.own Ag 99)])]
def Hr (N:Nat) (back:O1->Option PO) (d:O1):Option PO:=
 let s0:=d.1
 let s5:=d.2.1
 let s12:=d.2.2.1
 let s13:=d.2.2.2.1
 if (decide (s13<s12))=true then
  (Sz N N ((s0,(([]:Tab),(s12,(s13,(s5,((List.length s5:Int),((0:Int),()))))))))).bind fun o36=>match o36 with
  | .inl d37=>
   let x38:=IntKind.wrap .i64 (d37.2.2.2.1+(1:Int))
   back ((d37.1,(d37.2.1,(d37.2.2.1,(x38,())))))
 else
  some (.inl (s5,()))
def SC (N:Nat):Nat->O1->Option PO
 | 0,_=>none
 | k+1,d=>Hr N (SC N k) d
def WS (N:Nat) (d:Int×Int×Unit):Option (Tab×Unit):=
 let a0:=d.1
 let a1:=d.2.1
 (SC N N ((a0,([([]:List Int)],(a1,((0:Int),())))))).bind fun o25=>match o25 with
 | .inl d26=>
  some (d26.1,())
def Ap2:FSig:=⟨[(I,false),(I,false)],[Ag],true,(E9)⟩
def Apw:FSig:=⟨[(Ai,true)],[],true,Jm⟩
def Az0:FSig:=⟨[(Ag,true),(EJ,false)],[],true,Jl⟩
def Azw:FSig:=⟨[(Ag,true),(FP,false)],[Ag],true,Fo⟩
def Awz:Ctx:={ tk:=Ac tks,ar:=Ac ars,fs:=Ac [(127,Dp),(130,Oc),(146,Aek),(221,Apw),(222,Az0)],dm:=fun t=>Nat.beq t 10||Nat.beq t 22,cs:=Ac [],gs:=Ac [(223,(Azw,{ gone:=[0],deep:=[] }))],eqt:=inL [],md:=md0 }
abbrev Qb:=(List Int×Unit)×Int×Tab×List Int×List Int×Int×Int×Tab×Int×Int×List Int×Int×Int×Unit
abbrev QO:=((List Int×Unit)×Int×Tab×List Int×Int×Int×Tab×Int×Int×Unit)⊕Empty
def Akl:AP:=[(2,.box AA 0),(7,.v I),(8,.own Ag 99),(10,.v Ai),(16,.v Ai),(17,.v I),(18,.v I),(22,.v Ag),(23,.v I),(24,.v I),(31,.own Ai 99),(32,.v I),(33,.v I)]
def Aoo:AJ:=[(.normal,[(2,.box AA 0),(7,.v I),(8,.own Ag 99),(16,.v Ai),(17,.v I),(18,.v I),(22,.v Ag),(23,.v I),(24,.v I)])]
def Hu (N:Nat) (back:Qb->Option QO) (d:Qb):Option QO:=
 let s2:=d.1
 let s7:=d.2.1
 let s8:=d.2.2.1
 let s10:=d.2.2.2.1
 let s16:=d.2.2.2.2.1
 let s17:=d.2.2.2.2.2.1
 let s18:=d.2.2.2.2.2.2.1
 let s22:=d.2.2.2.2.2.2.2.1
 let s23:=d.2.2.2.2.2.2.2.2.1
 let s24:=d.2.2.2.2.2.2.2.2.2.1
 let s31:=d.2.2.2.2.2.2.2.2.2.2.1
 let s32:=d.2.2.2.2.2.2.2.2.2.2.2.1
 let s33:=d.2.2.2.2.2.2.2.2.2.2.2.2.1
 if (decide (s33<s32))=true then
  if (Af s33 (List.length s31))=true then
  (FE (s10,())).bind fun r50=>
  if (decide (List.length r50.1+List.length ([at_ I s31 s33.toNat])<=lim))=true then
  let x51:=r50.1++([at_ I s31 s33.toNat])
  if (decide (List.length s8+List.length ([x51])<=lim))=true then
  let x52:=IntKind.wrap .i64 (s33+(1:Int))
  back ((s2,(s7,(s8++([x51]),(s10,(s16,(s17,(s18,(s22,(s23,(s24,(s31,(s32,(x52,()))))))))))))))
  else none
  else none
  else none
 else
  some (.inl ((s2,(s7,(s8,(s16,(s17,(s18,(s22,(s23,(s24,())))))))))))
def Sq (N:Nat):Nat->Qb->Option QO
 | 0,_=>none
 | k+1,d=>Hu N (Sq N k) d
abbrev OT:=(List Int×Unit)×Int×Tab×List Int×Int×Int×Tab×Int×Int×Unit
abbrev Qz:=((List Int×Unit)×Tab×List Int×Int×Int×Unit)⊕Empty
def Aof:AP:=[(2,.box AA 0),(7,.v I),(8,.own Ag 99),(16,.v Ai),(17,.v I),(18,.v I),(22,.v Ag),(23,.v I),(24,.v I)]
def Apa:AJ:=[(.normal,[(2,.box AA 0),(8,.own Ag 99),(16,.v Ai),(17,.v I),(18,.v I)])]
def H0 (N:Nat) (back:OT->Option Qz) (d:OT):Option Qz:=
 let s2:=d.1
 let s7:=d.2.1
 let s8:=d.2.2.1
 let s16:=d.2.2.2.1
 let s17:=d.2.2.2.2.1
 let s18:=d.2.2.2.2.2.1
 let s22:=d.2.2.2.2.2.2.1
 let s23:=d.2.2.2.2.2.2.2.1
 let s24:=d.2.2.2.2.2.2.2.2.1
 if (decide (s24<s23))=true then
  if (Af s24 (List.length s22))=true then
  ((IS 0) ((s2,(s7,())))).bind fun r42=>
  (D8 (r42.1,())).bind fun r43=>
  (Sq N N ((s2,(s7,(s8,(at_ Ai s22 s24.toNat,(s16,(s17,(s18,(s22,(s23,(s24,(r43.1,((List.length r43.1:Int),((0:Int),()))))))))))))))).bind fun o47=>match o47 with
  | .inl d48=>
   let x49:=IntKind.wrap .i64 (d48.2.2.2.2.2.2.2.2.1+(1:Int))
   back ((d48.1,(d48.2.1,(d48.2.2.1,(d48.2.2.2.1,(d48.2.2.2.2.1,(d48.2.2.2.2.2.1,(d48.2.2.2.2.2.2.1,(d48.2.2.2.2.2.2.2.1,(x49,()))))))))))
  else none
 else
  some (.inl ((s2,(s8,(s16,(s17,(s18,())))))))
def Sy (N:Nat):Nat->OT->Option Qz
 | 0,_=>none
 | k+1,d=>H0 N (Sy N k) d
abbrev O3:=(List Int×Unit)×Tab×List Int×Int×Int×Unit
abbrev Of:=(Tab×Unit)⊕Empty
def Aod:AP:=[(2,.box AA 0),(5,.own Ag 99),(16,.v Ai),(17,.v I),(18,.v I)]
def Amr:AJ:=[(.normal,[(5,.own Ag 99)])]
def Iv (N:Nat) (back:O3->Option Of) (d:O3):Option Of:=
 let s2:=d.1
 let s5:=d.2.1
 let s16:=d.2.2.1
 let s17:=d.2.2.2.1
 let s18:=d.2.2.2.2.1
 if (decide (s18<s17))=true then
  if (Af s18 (List.length s16))=true then
  (Sy N N ((s2,(at_ I s16 s18.toNat,(([]:Tab),(s16,(s17,(s18,(s5,((List.length s5:Int),((0:Int),()))))))))))).bind fun o39=>match o39 with
  | .inl d40=>
   let x41:=IntKind.wrap .i64 (d40.2.2.2.2.1+(1:Int))
   back ((d40.1,(d40.2.1,(d40.2.2.1,(d40.2.2.2.1,(x41,()))))))
  else none
 else
  some (.inl (s5,()))
def SB (N:Nat):Nat->O3->Option Of
 | 0,_=>none
 | k+1,d=>Iv N (SB N k) d
abbrev Oy:=Tab×Unit×Int×Int×Unit
abbrev PN:=(Tab×Unit)⊕Empty
def Aos:AP:=[(5,.own Ag 99),(49,.same 5 []),(50,.v I),(51,.v I)]
def Ak7:AJ:=[(.normal,[(5,.own Ag 99)])]
def Id (N:Nat) (back:Oy->Option PN) (d:Oy):Option PN:=
 let s5:=d.1
 let s49:=d.2.1
 let s50:=d.2.2.1
 let s51:=d.2.2.2.1
 if (decide (s51<s50))=true then
  if (Af s51 (List.length s5))=true then
  (Jm (at_ Ai s5 s51.toNat,())).bind fun r53=>
  let x54:=IntKind.wrap .i64 (s51+(1:Int))
  back ((List.set s5 s51.toNat r53.1,((),(s50,(x54,())))))
  else none
 else
  some (.inl (s5,()))
def Sd (N:Nat):Nat->Oy->Option PN
 | 0,_=>none
 | k+1,d=>Id N (Sd N k) d
def Xx (N:Nat) (d:(List Int×Unit)×List Int×Unit):Option (Tab×Unit):=
 let a0:=d.1
 let a1:=d.2.1
 (SB N N ((a0,([([]:List Int)],(a1,((List.length a1:Int),((0:Int),()))))))).bind fun o23=>match o23 with
 | .inl d24=>
  (Sd N N ((d24.1,((),((List.length d24.1:Int),((0:Int),())))))).bind fun o27=>match o27 with
  | .inl d28=>
   (Jl ((d28.1,(((),()),())))).bind fun r29=>
   (Fo ((r29.1,(((),()),())))).bind fun r30=>
   some (r30.1,())
def Apn:FSig:=⟨[(AA,false),(Ai,false)],[Ag],true,(Fi)⟩
def Jb (d:List Int×List Int×(Unit×Unit)×Unit):Option (Int×Unit):=Ew (d.1,d.2.1,d.2.2.1.2)
def Ah4:FSig:=⟨[(Ai,false),(Ai,false),(EJ,false)],[I],true,Jb⟩
def AAu:Ctx:={ tk:=Ac tks,ar:=Ac ars,fs:=Ac [],cs:=Ac [(199,Ah4)] }
abbrev Uf:=Tab×List Int×(Unit×Unit)×Int×Int×Int×Unit
abbrev Tl:=(Tab×List Int×(Unit×Unit)×Int×Int×Unit)⊕Empty
def At8:AP:=[(0,.v Ag),(1,.v Ai),(2,.v EJ),(8,.v I),(9,.v I),(10,.v I)]
def Arc:AJ:=[(.normal,[(0,.v Ag),(1,.v Ai),(2,.v EJ),(8,.v I),(9,.v I)])]
def J5 (N:Nat) (back:Uf->Option Tl) (d:Uf):Option Tl:=
 let s0:=d.1
 let s1:=d.2.1
 let s2:=d.2.2.1
 let s8:=d.2.2.2.1
 let s9:=d.2.2.2.2.1
 let s10:=d.2.2.2.2.2.1
 if (decide (s9<s10))=true then
  let x8:=IntKind.wrap .u64 (IntKind.wrap .i64 (s9+s10))
  if (decide (0<=(1:Int)))=true then
  let x9:=IntKind.wrap .i64 (shr .u64 x8 (1:Int))
  if (Af x9 (List.length s0))=true then
  (Jb ((at_ Ai s0 x9.toNat,(s1,(s2,()))))).bind fun r10=>
  if (decide (r10.1<(0:Int)))=true then
   let x11:=IntKind.wrap .i64 (x9+(1:Int))
   back ((s0,(s1,(s2,(s8,(x11,(s10,())))))))
  else
   back ((s0,(s1,(s2,(s8,(s9,(x9,())))))))
  else none
  else none
 else
  some (.inl ((s0,(s1,(s2,(s8,(s9,())))))))
def XR (N:Nat):Nat->Uf->Option Tl
 | 0,_=>none
 | k+1,d=>J5 N (XR N k) d
def Ah5 (N:Nat) (d:Tab×List Int×(Unit×Unit)×Unit):Option (Int×Bool×Unit):=
 let a0:=d.1
 let a1:=d.2.1
 let a2:=d.2.2.1
 (XR N N ((a0,(a1,(a2,((List.length a0:Int),((0:Int),((List.length a0:Int),())))))))).bind fun o5=>match o5 with
 | .inl d6=>
  if (decide (d6.2.2.2.2.1<d6.2.2.2.1))=true then
   if (Af d6.2.2.2.2.1 (List.length d6.1))=true then
   (Jb ((at_ Ai d6.1 d6.2.2.2.2.1.toNat,(d6.2.1,(d6.2.2.1,()))))).bind fun r7=>
   some ((d6.2.2.2.2.1,(r7.1==(0:Int),())))
   else none
  else
   some ((d6.2.2.2.2.1,(false,())))
def Azi:FSig:=⟨[(Ag,false),(Ai,false),(EJ,false)],[I,.bool],true,(Z4)⟩
def Ayu:Ctx:={ tk:=Ac tks,ar:=Ac ars,fs:=Ac [(219,Azi)] }
def T6 (N:Nat) (d:((List Int×Unit)×Tab×Tab×Tab×Unit)×List Int×Unit):Option (Int×Unit):=
 let a0:=d.1
 let a1:=d.2.1
 (Z4 ((a0.2.1,(a1,(((),()),()))))).bind fun r1=>
 some (r1.1,())
def Aub:FSig:=⟨[(Bh,false),(Ai,false)],[I],true,(T6 0)⟩
def Au7:Ctx:={ tk:=Ac tks,ar:=Ac ars,fs:=Ac [(144,Aub),(153,Apn),(158,Ap2),(188,Qa)] }
abbrev P9:=(List Int×Unit)×((List Int×Unit)×Tab×Tab×Tab×Unit)×List Int×Tab×Int×Int×Tab×Int×Int×Unit
abbrev PJ:=((List Int×Unit)×((List Int×Unit)×Tab×Tab×Tab×Unit)×List Int×Tab×Int×Int×Unit)⊕Empty
def Ao3:AP:=[(2,.box AA 0),(5,.box AE 99),(8,.own Ai 99),(21,.v Ag),(22,.v I),(23,.v I),(29,.own Ag 99),(30,.v I),(31,.v I)]
def Amy:AJ:=[(.normal,[(2,.box AA 0),(5,.box AE 99),(8,.own Ai 99),(21,.v Ag),(22,.v I),(23,.v I)])]
def If (N:Nat) (back:P9->Option PJ) (d:P9):Option PJ:=
 let s2:=d.1
 let s5:=d.2.1
 let s8:=d.2.2.1
 let s21:=d.2.2.2.1
 let s22:=d.2.2.2.2.1
 let s23:=d.2.2.2.2.2.1
 let s29:=d.2.2.2.2.2.2.1
 let s30:=d.2.2.2.2.2.2.2.1
 let s31:=d.2.2.2.2.2.2.2.2.1
 if (decide (s31<s30))=true then
  if (Af s31 (List.length s29))=true then
  ((T6 0) ((s5,(at_ Ai s29 s31.toNat,())))).bind fun r18=>
  if (decide (List.length s8+List.length ([r18.1])<=lim))=true then
  let x19:=IntKind.wrap .i64 (s31+(1:Int))
  back ((s2,(s5,(s8++([r18.1]),(s21,(s22,(s23,(s29,(s30,(x19,()))))))))))
  else none
  else none
 else
  some (.inl ((s2,(s5,(s8,(s21,(s22,(s23,()))))))))
def R2 (N:Nat):Nat->P9->Option PJ
 | 0,_=>none
 | k+1,d=>If N (R2 N k) d
abbrev Qc:=(List Int×Unit)×((List Int×Unit)×Tab×Tab×Tab×Unit)×Tab×Int×Int×Unit
abbrev OU:=(((List Int×Unit)×Tab×Tab×Tab×Unit)×Unit)⊕Empty
def Alk:AP:=[(2,.box AA 0),(5,.box AE 99),(21,.v Ag),(22,.v I),(23,.v I)]
def Akp:AJ:=[(.normal,[(5,.box AE 99)])]
def HI (N:Nat) (back:Qc->Option OU) (d:Qc):Option OU:=
 let s2:=d.1
 let s5:=d.2.1
 let s21:=d.2.2.1
 let s22:=d.2.2.2.1
 let s23:=d.2.2.2.2.1
 if (decide (s23<s22))=true then
  if (Af s23 (List.length s21))=true then
  (Fi ((s2,(at_ Ai s21 s23.toNat,())))).bind fun r11=>
  (R2 N N ((s2,(s5,(([]:List Int),(s21,(s22,(s23,(r11.1,((List.length r11.1:Int),((0:Int),()))))))))))).bind fun o14=>match o14 with
  | .inl d15=>
   if (decide (List.length d15.2.1.2.2.1+List.length ([d15.2.2.1])<=lim))=true then
   let x16:=d15.2.1.2.2.1++([d15.2.2.1])
   let x17:=IntKind.wrap .i64 (d15.2.2.2.2.2.1+(1:Int))
   back ((d15.1,((d15.2.1.1,(d15.2.1.2.1,(x16,d15.2.1.2.2.2))),(d15.2.2.2.1,(d15.2.2.2.2.1,(x17,()))))))
   else none
  else none
 else
  some (.inl (s5,()))
def RO (N:Nat):Nat->Qc->Option OU
 | 0,_=>none
 | k+1,d=>HI N (RO N k) d
def WI (N:Nat) (d:(List Int×Unit)×Int×Unit):Option (((List Int×Unit)×Tab×Tab×Tab×Unit)×Unit):=
 let a0:=d.1
 let a1:=d.2.1
 let r1:=E8 (a0,())
 (E9 ((r1.1,(a1,())))).bind fun r2=>
 (RO N N ((a0,((a0,(r2.1,(([]:Tab),(([]:Tab),())))),(r2.1,((List.length r2.1:Int),((0:Int),()))))))).bind fun o9=>match o9 with
 | .inl d10=>
  some (d10.1,())
def Aqs:FSig:=⟨[(AA,false),(I,false)],[Bh],true,(Fk)⟩
def Avq:Ctx:={ tk:=Ac tks,ar:=Ac ars,fs:=Ac [(129,X0),(179,Tk)],cs:=Ac [],w1:=inL [105] }
def WE (N:Nat) (d:Int×((List Int×Unit)×Tab×Tab×Tab×Unit)×Int×Unit):Option (Bool×Unit):=
 let a0:=d.1
 let a1:=d.2.1
 let a2:=d.2.2.1
 if (Af a0 (List.length a1.2.1))=true then
 ((Jn 0) ((at_ Ai a1.2.1 a0.toNat,(a2,())))).bind fun r1=>
 if (r1.1)=true then
  some (true,())
 else
  if (Af a0 (List.length a1.2.2.2.1))=true then
  (BG ((a1.1,(at_ Ai a1.2.2.2.1 a0.toNat,(a2,()))))).bind fun r2=>
  some ((decide (r2.1>=(0:Int)),()))
  else none
 else none
def ABk:FSig:=⟨[(I,false),(Ed,false),(OZ,false)],[.bool],true,(WE 0)⟩
def SA (d:Int×(Unit×((List Int×Unit)×Tab×Tab×Tab×Unit)×Int×Unit)×Unit):Option (Bool×Unit):=(WE 0) (d.1,d.2.1.2)
def Ahv:FSig:=⟨[(I,false),(A4,false)],[.bool],true,SA⟩
def Ay5:Ctx:={ tk:=Ac tks,ar:=Ac ars,fs:=Ac [],cs:=Ac [(243,Ahv)] }
abbrev Qx:=List Int×(Unit×((List Int×Unit)×Tab×Tab×Tab×Unit)×Int×Unit)×Int×Int×Unit
abbrev N4:=(Int×Unit)⊕Unit⊕Empty
def Aj1:AP:=[(0,.v Ai),(1,.v A4),(7,.v I),(8,.v I)]
def Anr:AJ:=[(.ret,[(4,.v I)]),(.normal,[])]
def KL (N:Nat) (back:Qx->Option N4) (d:Qx):Option N4:=
 let s0:=d.1
 let s1:=d.2.1
 let s7:=d.2.2.1
 let s8:=d.2.2.2.1
 if (decide (s8<s7))=true then
  if (Af s8 (List.length s0))=true then
  (SA ((at_ I s0 s8.toNat,(s1,())))).bind fun r6=>
  if (r6.1)=true then
   some (.inl (s8,()))
  else
   let x7:=IntKind.wrap .i64 (s8+(1:Int))
   back ((s0,(s1,(s7,(x7,())))))
  else none
 else
  some (.inr (.inl ()))
def RW (N:Nat):Nat->Qx->Option N4
 | 0,_=>none
 | k+1,d=>KL N (RW N k) d
def VT (N:Nat) (d:List Int×(Unit×((List Int×Unit)×Tab×Tab×Tab×Unit)×Int×Unit)×Unit):Option (Int×Unit):=
 let a0:=d.1
 let a1:=d.2.1
 (RW N N ((a0,(a1,((List.length a0:Int),((0:Int),())))))).bind fun o3=>match o3 with
 | .inl d4=>
  some (d4.1,())
 | .inr (.inl d5)=>
  some ((-1:Int),())
def Ar1:FSig:=⟨[(Ai,false),(A4,false)],[I],true,(Ie)⟩
def Awi:Ctx:={ tk:=Ac tks,ar:=Ac ars,fs:=Ac [(248,Ar1)] }
def Xp (N:Nat) (d:List Int×(Unit×((List Int×Unit)×Tab×Tab×Tab×Unit)×Int×Unit)×Unit):Option (Bool×Unit):=
 let a0:=d.1
 let a1:=d.2.1
 (Ie ((a0,(a1,())))).bind fun r1=>
 some ((decide (r1.1>=(0:Int)),()))
def Aqp:FSig:=⟨[(Ai,false),(A4,false)],[.bool],true,(Xp 0)⟩
def Aw4:Ctx:={ tk:=Ac tks,ar:=Ac ars,fs:=Ac [(214,Aqp)],cs:=Ac [],w1:=inL [105],fz:=fun t=>Nat.beq t 3||Nat.beq t 5 }
def Up (N:Nat) (d:((List Int×Unit)×Tab×Tab×Tab×Unit)×Int×Int×Unit):Option (Bool×Unit):=
 let a0:=d.1
 let a1:=d.2.1
 let a2:=d.2.2.1
 if (Af a1 (List.length a0.2.2.1))=true then
 ((Xp 0) ((at_ Ai a0.2.2.1 a1.toNat,(((),(a0,(a2,()))),())))).bind fun r1=>
 some (r1.1,())
 else none
def Arg:FSig:=⟨[(Bh,false),(I,false),(I,false)],[.bool],true,(Up 0)⟩
def Ayn:Ctx:={ tk:=Ac tks,ar:=Ac ars,fs:=Ac [(188,Qa),(191,Ad9),(192,Arg)],cs:=Ac [],gs:=Ac [(96,(Aqs,md0))],eqt:=inL [],md:=md0 }
abbrev O0:=(List Int×Unit)×((List Int×Unit)×Tab×Tab×Tab×Unit)×List Int×Tab×Int×Int×List Int×Int×Int×Unit
abbrev ON:=((List Int×Unit)×((List Int×Unit)×Tab×Tab×Tab×Unit)×List Int×Tab×Int×Int×Unit)⊕Empty
def Ao2:AP:=[(2,.box AA 0),(5,.box AE 99),(8,.own Ai 99),(26,.v Ag),(27,.v I),(28,.v I),(36,.v Ai),(37,.v I),(38,.v I)]
def Ald:AJ:=[(.normal,[(2,.box AA 0),(5,.box AE 99),(8,.own Ai 99),(26,.v Ag),(27,.v I),(28,.v I)])]
def Ih (N:Nat) (back:O0->Option ON) (d:O0):Option ON:=
 let s2:=d.1
 let s5:=d.2.1
 let s8:=d.2.2.1
 let s26:=d.2.2.2.1
 let s27:=d.2.2.2.2.1
 let s28:=d.2.2.2.2.2.1
 let s36:=d.2.2.2.2.2.2.1
 let s37:=d.2.2.2.2.2.2.2.1
 let s38:=d.2.2.2.2.2.2.2.2.1
 if (decide (s38<s37))=true then
  if (Af s38 (List.length s36))=true then
  if (Af (at_ I s36 s38.toNat) (List.length s8))=true then
  let x35:=List.set s8 (at_ I s36 s38.toNat).toNat (0:Int)
  let x36:=IntKind.wrap .i64 (s38+(1:Int))
  back ((s2,(s5,(x35,(s26,(s27,(s28,(s36,(s37,(x36,()))))))))))
  else none
  else none
 else
  some (.inl ((s2,(s5,(s8,(s26,(s27,(s28,()))))))))
def RP (N:Nat):Nat->O0->Option ON
 | 0,_=>none
 | k+1,d=>Ih N (RP N k) d
abbrev Pf:=(List Int×Unit)×((List Int×Unit)×Tab×Tab×Tab×Unit)×Tab×Int×Int×Unit
abbrev Qd:=(((List Int×Unit)×Tab×Tab×Tab×Unit)×Unit)⊕Empty
def Aox:AP:=[(2,.box AA 0),(5,.box AE 99),(26,.v Ag),(27,.v I),(28,.v I)]
def Ajn:AJ:=[(.normal,[(5,.box AE 99)])]
def H6 (N:Nat) (back:Pf->Option Qd) (d:Pf):Option Qd:=
 let s2:=d.1
 let s5:=d.2.1
 let s26:=d.2.2.1
 let s27:=d.2.2.2.1
 let s28:=d.2.2.2.2.1
 if (decide (s28<s27))=true then
  if (Af s28 (List.length s26))=true then
  let r27:=E8 (s2,())
  (DP (([(-1:Int)],(r27.1,())))).bind fun r28=>
  (RP N N ((s2,(s5,(r28.1,(s26,(s27,(s28,(at_ Ai s26 s28.toNat,((List.length (at_ Ai s26 s28.toNat):Int),((0:Int),()))))))))))).bind fun o31=>match o31 with
  | .inl d32=>
   if (decide (List.length d32.2.1.2.2.2.1+List.length ([d32.2.2.1])<=lim))=true then
   let x33:=d32.2.1.2.2.2.1++([d32.2.2.1])
   let x34:=IntKind.wrap .i64 (d32.2.2.2.2.2.1+(1:Int))
   back ((d32.1,((d32.2.1.1,(d32.2.1.2.1,(d32.2.1.2.2.1,(x33,d32.2.1.2.2.2.2)))),(d32.2.2.2.1,(d32.2.2.2.2.1,(x34,()))))))
   else none
  else none
 else
  some (.inl (s5,()))
def RR (N:Nat):Nat->Pf->Option Qd
 | 0,_=>none
 | k+1,d=>H6 N (RR N k) d
abbrev P0:=((List Int×Unit)×Tab×Tab×Tab×Unit)×Int×Bool×(List (Int×Int×Unit))×Int×Int×Int×Int×Int×Unit×Int×Unit
abbrev Oi:=(((List Int×Unit)×Tab×Tab×Tab×Unit)×Int×Bool×(List (Int×Int×Unit))×Int×Int×Unit×Unit)⊕Empty
def Am9:AP:=[(5,.box AE 99),(11,.v I),(12,.v .bool),(13,.own Cb 99),(14,.v I),(64,.v I),(65,.v I),(71,.v I),(72,.v I),(63,.same 5 [.r,.r,.r,.l]),(70,.hole 5 [.r,.r,.r,.l] [])]
def Ank:AJ:=[(.normal,[(5,.box AE 99),(11,.v I),(12,.v .bool),(13,.own Cb 99),(64,.v I),(65,.v I),(63,.same 5 [.r,.r,.r,.l])])]
def H3 (N:Nat) (back:P0->Option Oi) (d:P0):Option Oi:=
 let s5:=d.1
 let s11:=d.2.1
 let s12:=d.2.2.1
 let s13:=d.2.2.2.1
 let s14:=d.2.2.2.2.1
 let s64:=d.2.2.2.2.2.1
 let s65:=d.2.2.2.2.2.2.1
 let s71:=d.2.2.2.2.2.2.2.1
 let s72:=d.2.2.2.2.2.2.2.2.1
 let s63:=d.2.2.2.2.2.2.2.2.2.1
 let s70:=d.2.2.2.2.2.2.2.2.2.2.1
 if (decide (s72<s71))=true then
  if (Af s72 (List.length (at_ Ai s5.2.2.2.1 (Int.toNat s70))))=true then
  if (decide (at_ I (at_ Ai s5.2.2.2.1 (Int.toNat s70)) s72.toNat<(0:Int)))=true then
   ((Up 0) ((s5,(s14,(s72,()))))).bind fun r57=>
   if (r57.1)=true then
    if (decide (List.length s13+List.length ([(s14,(s72,()))])<=lim))=true then
    let x58:=IntKind.wrap .i64 (s72+(1:Int))
    back ((s5,(s11,(s12,(s13++([(s14,(s72,()))]),(s14,(s64,(s65,(s71,(x58,((),((((Int.toNat s70):Nat):Int),()))))))))))))
    else none
   else
    let x59:=IntKind.wrap .i64 (s72+(1:Int))
    back ((s5,(s11,(s12,(s13,(s14,(s64,(s65,(s71,(x59,((),((((Int.toNat s70):Nat):Int),()))))))))))))
  else
   let x60:=IntKind.wrap .i64 (s72+(1:Int))
   back ((s5,(s11,(s12,(s13,(s14,(s64,(s65,(s71,(x60,((),((((Int.toNat s70):Nat):Int),()))))))))))))
  else none
 else
  some (.inl ((s5,(s11,(s12,(s13,(s64,(s65,((),())))))))))
def Sp (N:Nat):Nat->P0->Option Oi
 | 0,_=>none
 | k+1,d=>H3 N (Sp N k) d
abbrev Og:=((List Int×Unit)×Tab×Tab×Tab×Unit)×Int×Bool×(List (Int×Int×Unit))×Int×Int×Unit×Unit
abbrev PC:=(((List Int×Unit)×Tab×Tab×Tab×Unit)×Int×Bool×(List (Int×Int×Unit))×Unit)⊕Empty
def Aon:AP:=[(5,.box AE 99),(11,.v I),(12,.v .bool),(13,.own Cb 99),(64,.v I),(65,.v I),(63,.same 5 [.r,.r,.r,.l])]
def Ajy:AJ:=[(.normal,[(5,.box AE 99),(11,.v I),(12,.v .bool),(13,.own Cb 99)])]
def Ir (N:Nat) (back:Og->Option PC) (d:Og):Option PC:=
 let s5:=d.1
 let s11:=d.2.1
 let s12:=d.2.2.1
 let s13:=d.2.2.2.1
 let s64:=d.2.2.2.2.1
 let s65:=d.2.2.2.2.2.1
 let s63:=d.2.2.2.2.2.2.1
 if (decide (s65<s64))=true then
  if (Af s65 (List.length s5.2.2.2.1))=true then
  (Sp N N ((s5,(s11,(s12,(s13,(s65,(s64,(s65,((List.length (at_ Ai s5.2.2.2.1 s65.toNat):Int),((0:Int),((),(((s65.toNat:Nat):Int),()))))))))))))).bind fun o54=>match o54 with
  | .inl d55=>
   let x56:=IntKind.wrap .i64 (d55.2.2.2.2.2.1+(1:Int))
   back ((d55.1,(d55.2.1,(d55.2.2.1,(d55.2.2.2.1,(d55.2.2.2.2.1,(x56,((),()))))))))
  else none
 else
  some (.inl ((s5,(s11,(s12,(s13,()))))))
def So (N:Nat):Nat->Og->Option PC
 | 0,_=>none
 | k+1,d=>Ir N (So N k) d
abbrev ME:=((List Int×Unit)×Tab×Tab×Tab×Unit)×Int×Bool×(List (Int×Int×Unit))×Int×Int×Unit
abbrev MI:=(((List Int×Unit)×Tab×Tab×Tab×Unit)×Int×Bool×Unit)⊕Empty
def Ac7:AP:=[(5,.box AE 99),(11,.v I),(12,.v .bool),(93,.own Cb 99),(94,.v I),(95,.v I)]
def Acv:AJ:=[(.normal,[(5,.box AE 99),(11,.v I),(12,.v .bool)])]
def GL (N:Nat) (back:ME->Option MI) (d:ME):Option MI:=
 let s5:=d.1
 let s11:=d.2.1
 let s12:=d.2.2.1
 let s93:=d.2.2.2.1
 let s94:=d.2.2.2.2.1
 let s95:=d.2.2.2.2.2.1
 if (decide (s95<s94))=true then
  if (Af s95 (List.length s93))=true then
  if (Af (at_ Am s93 s95.toNat).1 (List.length s5.2.2.2.1))=true then
  if (Af (at_ Am s93 s95.toNat).2.1 (List.length (at_ Ai s5.2.2.2.1 (at_ Am s93 s95.toNat).1.toNat)))=true then
  let x61:=IntKind.wrap .i64 (s95+(1:Int))
  back (((s5.1,(s5.2.1,(s5.2.2.1,(List.set s5.2.2.2.1 (at_ Am s93 s95.toNat).1.toNat (List.set (at_ Ai s5.2.2.2.1 (at_ Am s93 s95.toNat).1.toNat) (at_ Am s93 s95.toNat).2.1.toNat s11),s5.2.2.2.2)))),(s11,(true,(s93,(s94,(x61,())))))))
  else none
  else none
  else none
 else
  some (.inl ((s5,(s11,(s12,())))))
def MO (N:Nat):Nat->ME->Option MI
 | 0,_=>none
 | k+1,d=>GL N (MO N k) d
abbrev N9:=((List Int×Unit)×Tab×Tab×Tab×Unit)×Int×Bool×Unit
abbrev OK:=(((List Int×Unit)×Tab×Tab×Tab×Unit)×Unit)⊕Empty
def Aml:AP:=[(5,.box AE 99),(11,.v I),(12,.v .bool)]
def Anu:AJ:=[(.normal,[(5,.box AE 99)])]
def N7 (N:Nat) (back:N9->Option OK) (d:N9):Option OK:=
 let s5:=d.1
 let s11:=d.2.1
 let s12:=d.2.2.1
 if (s12)=true then
  (So N N ((s5,(s11,(false,(([]:List (Int×Int×Unit)),((List.length s5.2.2.2.1:Int),((0:Int),((),()))))))))).bind fun o44=>match o44 with
  | .inl d45=>
   (MO N N ((d45.1,(d45.2.1,(d45.2.2.1,(d45.2.2.2.1,((List.length d45.2.2.2.1:Int),((0:Int),())))))))).bind fun o47=>match o47 with
   | .inl d48=>
    let x49:=IntKind.wrap .i64 (d48.2.1+(1:Int))
    back ((d48.1,(x49,(d48.2.2.1,()))))
 else
  some (.inl (s5,()))
def Sb (N:Nat):Nat->N9->Option OK
 | 0,_=>none
 | k+1,d=>N7 N (Sb N k) d
def Xq (N:Nat) (d:(List Int×Unit)×Int×Unit):Option (((List Int×Unit)×Tab×Tab×Tab×Unit)×Unit):=
 let a0:=d.1
 let a1:=d.2.1
 (Fk ((a0,(a1,())))).bind fun r1=>
 (RR N N ((a0,(r1.1,(r1.1.2.1,((List.length r1.1.2.1:Int),((0:Int),()))))))).bind fun o10=>match o10 with
 | .inl d11=>
  (Sb N N ((d11.1,((1:Int),(true,()))))).bind fun o25=>match o25 with
  | .inl d26=>
   some (d26.1,())
def As1:FSig:=⟨[(AA,false),(I,false)],[Bh],true,(Gz)⟩
def Ayo:Ctx:={ tk:=Ac tks,ar:=Ac ars,fs:=Ac [(94,Ap1),(95,Gv)],cs:=Ac [],gs:=Ac [(103,(As1,md0))],eqt:=inL [],md:=md0,mv:=fun t=>Nat.beq t 16 }
def P7 (N:Nat) (d:Gr×Int×Unit):Option (Tab×Bool×Unit):=
 let a0:=d.1
 let a1:=d.2.1
 ((Tv 0) ((a0,(a1,())))).bind fun r1=>
 if (!r1.1)=true then
  some ((([]:Tab),(false,())))
 else
  (Ft (a0,())).bind fun r2=>
  (Gz ((r2.1,(a1,())))).bind fun r3=>
  some ((r3.1.2.2.2.1,(true,())))
def Ap4:FSig:=⟨[(Aj,false),(I,false)],[Ag,.bool],true,(P7 0)⟩
def Ax0:Ctx:={ tk:=Ac tks,ar:=Ac ars,fs:=Ac [(133,L2)],lent:=fun t=>Nat.beq t 0 }
def PB (N:Nat) (d:(List Int×Int×Int×Unit)×Unit):Option (Int×(List Int×Int×Int×Unit)×Unit):=
 let a0:=d.1
 ((CD 0) ((a0,([(0:Int),(1:Int),(2:Int),(3:Int),(5:Int),(10:Int),(999:Int),(1000:Int),(1001:Int),(-1:Int),(0:Int),(1:Int)],())))).bind fun r1=>
 some ((r1.1,(r1.2.1,())))
def Ach:FSig:=⟨[(AZ,true)],[I],true,(PB 0)⟩
def Ay6:Ctx:={ tk:=Ac tks,ar:=Ac ars,fs:=Ac [(160,Xb),(177,Ach)] }
def Tu (N:Nat) (d:List Int×Unit):Option ((Gr×Int×Tab×Unit)×Int×Unit):=
 let a0:=d.1
 ((CW Js G8) (((a0,((0:Int),((0:Int),()))),()))).bind fun r3=>
 ((PB 0) (r3.2.1,())).bind fun r4=>
 some ((r3.1,(r4.1,())))
def Asp:FSig:=⟨[(K_Su8,false)],[Ae,I],false,(Tu 0)⟩
def Axt:Ctx:={ tk:=Ac tks,ar:=Ac ars,fs:=Ac [(173,Asp)] }
def IK (N:Nat) (d:List Int×Unit):Option ((Gr×Int×Tab×Unit)×Int×Unit):=
 let a0:=d.1
 ((Tu 0) (a0,())).bind fun r2=>
 some ((r2.1,(r2.2.1,())))
def Arr:FSig:=⟨[(K_Su8,false)],[Ae,I],false,(IK 0)⟩
def Avr:Ctx:={ tk:=Ac tks,ar:=Ac ars,fs:=Ac [(143,KE)] }
def WX (N:Nat) (d:Int×Unit):Option (Bool×Unit):=
 let a0:=d.1
 let r1:=ET ((a0,((0:Int),((1000:Int),()))))
 some (r1.1,())
def Kb (d:Int×Unit):Bool×Unit:=
 let a0:=d.1
 let r1:=ET ((a0,((0:Int),((1000:Int),()))))
 (r1.1,())
theorem Adc (N:Nat) (d):WX N d=some (Kb d):=by
 unfold WX Kb
 first
  | rfl
  | (dsimp only; (repeat' split)<;>rfl)
def Xz:FSig:=⟨[(I,false)],[.bool],true,(fun d=>some (Kb d))⟩
def Axe:Ctx:={ tk:=Ac tks,ar:=Ac ars,fs:=Ac [] }
abbrev OA:=List Int×Int×Int×Unit
abbrev P1:=(Int×Unit)⊕Empty
def Am7:AP:=[(0,.v Ai),(3,.v I),(4,.v I)]
def Akt:AJ:=[(.normal,[(3,.v I)])]
def KD (N:Nat) (back:OA->Option P1) (d:OA):Option P1:=
 let s0:=d.1
 let s3:=d.2.1
 let s4:=d.2.2.1
 if (decide (s4<(List.length s0:Int)))=true then
  if (Af s4 (List.length s0))=true then
  let x5:=if s3<at_ I s0 s4.toNat then at_ I s0 s4.toNat else s3
  let x6:=IntKind.wrap .i64 (s4+(1:Int))
  back ((s0,(x5,(x6,()))))
  else none
 else
  some (.inl (s3,()))
def Lq (N:Nat):Nat->OA->Option P1
 | 0,_=>none
 | k+1,d=>KD N (Lq N k) d
def Wa (N:Nat) (d:List Int×Unit):Option (Int×Unit):=
 let a0:=d.1
 if (decide ((List.length a0:Int)<(1:Int)))=true then
  none
 else
  if (Af (0:Int) (List.length a0))=true then
  (Lq N N ((a0,(at_ I a0 (0:Int).toNat,((1:Int),()))))).bind fun o3=>match o3 with
  | .inl d4=>
   some (d4.1,())
  else none
def At6:FSig:=⟨[(Ai,false)],[I],true,(ST)⟩
def Avn:Ctx:={ tk:=Ac tks,ar:=Ac ars,fs:=Ac [(76,L8),(129,X0),(162,Pv),(170,XP),(174,Xz),(175,At6)],dm:=fun t=>Nat.beq t 29,cs:=Ac [] }
abbrev QR:=Int×Int×Bool×Tab×Int×Int×Unit
abbrev OQ:=(Int×Int×Bool×Unit)⊕Empty
def Anp:AP:=[(7,.v I),(8,.v I),(9,.v .bool),(29,.v Ag),(30,.v I),(31,.v I)]
def Ani:AJ:=[(.normal,[(7,.v I),(8,.v I),(9,.v .bool)])]
def Ia (N:Nat) (back:QR->Option OQ) (d:QR):Option OQ:=
 let s7:=d.1
 let s8:=d.2.1
 let s9:=d.2.2.1
 let s29:=d.2.2.2.1
 let s30:=d.2.2.2.2.1
 let s31:=d.2.2.2.2.2.1
 if (decide (s31<s30))=true then
  if (Af s31 (List.length s29))=true then
  ((Jn 0) ((at_ Ai s29 s31.toNat,((-1:Int),())))).bind fun r13=>
  if (r13.1)=true then
   let x14:=IntKind.wrap .i64 (s31+(1:Int))
   back ((s7,(s8,(s9,(s29,(s30,(x14,())))))))
  else
   (ST (at_ Ai s29 s31.toNat,())).bind fun r15=>
   if (!s9)=true then
    let x16:=IntKind.wrap .i64 (s31+(1:Int))
    back ((s31,(r15.1,(true,(s29,(s30,(x16,())))))))
   else
    if (decide (r15.1<s8))=true then
     let x17:=IntKind.wrap .i64 (s31+(1:Int))
     back ((s31,(r15.1,(true,(s29,(s30,(x17,())))))))
    else
     let x18:=IntKind.wrap .i64 (s31+(1:Int))
     back ((s7,(s8,(s9,(s29,(s30,(x18,())))))))
  else none
 else
  some (.inl ((s7,(s8,(s9,())))))
def IJ (N:Nat):Nat->QR->Option OQ
 | 0,_=>none
 | k+1,d=>Ia N (IJ N k) d
def XY (N:Nat) (d:(Gr×Int×Tab×Unit)×Int×Unit):Option (Int×Int×Bool×Unit):=
 let a0:=d.1
 let a1:=d.2.1
 ((Hk 0) (a0,())).bind fun r1=>
 if (!r1.1)=true then
  some (((0:Int),((0:Int),(false,()))))
 else
  let r2:=Kb (a1,())
  if (!r2.1)=true then
   some (((0:Int),((0:Int),(false,()))))
  else
   (Co (a0,())).bind fun r3=>
   (CJ (r3.1,())).bind fun r4=>
   if (a0.2.1 != 0)=true then
   if (Af (a1.tmod a0.2.1) (List.length r4.1))=true then
   (IJ N N (((0:Int),((0:Int),(false,(at_ Ag r4.1 (a1.tmod a0.2.1).toNat,((List.length (at_ Ag r4.1 (a1.tmod a0.2.1).toNat):Int),((0:Int),())))))))).bind fun o11=>match o11 with
   | .inl d12=>
    some ((d12.1,(d12.2.1,(d12.2.2.1,()))))
   else none
   else none
def Atg:FSig:=⟨[(Ae,false),(I,false)],[I,I,.bool],true,(BO)⟩
def Avk:Ctx:={ tk:=Ac tks,ar:=Ac ars,fs:=Ac [(148,Df)] }
def X2 (N:Nat) (d:Int×Unit):Option (Bool×Unit):=
 let a0:=d.1
 let r1:=Bl ((a0,((0:Int),((1000:Int),()))))
 some (r1.1,())
def Mk (d:Int×Unit):Bool×Unit:=
 let a0:=d.1
 let r1:=Bl ((a0,((0:Int),((1000:Int),()))))
 (r1.1,())
theorem Adj (N:Nat) (d):X2 N d=some (Mk d):=by
 unfold X2 Mk
 first
  | rfl
  | (dsimp only; (repeat' split)<;>rfl)
def Aeg:FSig:=⟨[(I,false)],[.bool],true,(fun d=>some (Mk d))⟩
def Azh:Ctx:={ tk:=Ac tks,ar:=Ac ars,fs:=Ac [(201,RQ)] }
abbrev PT:=List Int×Int×Int×Unit
abbrev O5:=(Int×Unit)⊕(Int×Unit)⊕Empty
def An9:AP:=[(0,.v Ai),(3,.v I),(4,.v I)]
def Aiv:AJ:=[(.ret,[(2,.v I)]),(.normal,[(3,.v I)])]
def KS (N:Nat) (back:PT->Option O5) (d:PT):Option O5:=
 let s0:=d.1
 let s3:=d.2.1
 let s4:=d.2.2.1
 if (decide (s4<(List.length s0:Int)))=true then
  if (Af s4 (List.length s0))=true then
  if (decide (at_ I s0 s4.toNat<(0:Int)))=true then
   some (.inl ((-1:Int),()))
  else
   if (Af s4 (List.length s0))=true then
   let r6:=Hc ((s3,(at_ I s0 s4.toNat,())))
   let x7:=IntKind.wrap .i64 (s4+(1:Int))
   back ((s0,(r6.1,(x7,()))))
   else none
  else none
 else
  some (.inr (.inl (s3,())))
def Gm (N:Nat):Nat->PT->Option O5
 | 0,_=>none
 | k+1,d=>KS N (Gm N k) d
def XN (N:Nat) (d:List Int×Unit):Option (Int×Unit):=
 let a0:=d.1
 (Gm N N ((a0,((0:Int),((0:Int),()))))).bind fun o3=>match o3 with
 | .inl d4=>
  some (d4.1,())
 | .inr (.inl d5)=>
  some (d5.1,())
def Ate:FSig:=⟨[(Ai,false)],[I],true,(EE)⟩
def Axr:Ctx:={ tk:=Ac tks,ar:=Ac ars,fs:=Ac [(137,Ate),(163,Tn),(171,Xo),(176,Aeg)],dm:=fun t=>Nat.beq t 7,cs:=Ac [] }
abbrev Qg:=Tab×Int×Int×Unit
abbrev Ox:=(Tab×Int×Unit)⊕Empty
def Amc:AP:=[(7,.v Ag),(8,.v I),(9,.v I)]
def Akn:AJ:=[(.normal,[(7,.v Ag),(8,.v I)])]
def HT (N:Nat) (back:Qg->Option Ox) (d:Qg):Option Ox:=
 let s7:=d.1
 let s8:=d.2.1
 let s9:=d.2.2.1
 if (decide (s9<(List.length s7:Int)))=true then
  if (Af s9 (List.length s7))=true then
  (EE (at_ Ai s7 s9.toNat,())).bind fun r13=>
  if (decide (r13.1>=(0:Int)))=true then
   if (decide (s8<(0:Int)))=true then
    let x14:=IntKind.wrap .i64 (s9+(1:Int))
    back ((s7,(s9,(x14,()))))
   else
    if (Af s8 (List.length s7))=true then
    (EE (at_ Ai s7 s8.toNat,())).bind fun r15=>
    if (decide (r13.1<r15.1))=true then
     let x16:=IntKind.wrap .i64 (s9+(1:Int))
     back ((s7,(s9,(x16,()))))
    else
     let x17:=IntKind.wrap .i64 (s9+(1:Int))
     back ((s7,(s8,(x17,()))))
    else none
  else
   let x18:=IntKind.wrap .i64 (s9+(1:Int))
   back ((s7,(s8,(x18,()))))
  else none
 else
  some (.inl ((s7,(s8,()))))
def KT (N:Nat):Nat->Qg->Option Ox
 | 0,_=>none
 | k+1,d=>HT N (KT N k) d
def WT (N:Nat) (d:(Gr×Int×Tab×Unit)×Int×Unit):Option (Int×Int×Bool×Unit):=
 let a0:=d.1
 let a1:=d.2.1
 (C7 (a0,())).bind fun r1=>
 if (!r1.1)=true then
  some (((0:Int),((0:Int),(false,()))))
 else
  let r2:=Mk (a1,())
  if (!r2.1)=true then
   some (((0:Int),((0:Int),(false,()))))
  else
   (Dl (a0,())).bind fun r3=>
   if (a0.2.1 != 0)=true then
   if (Af (a1.tmod a0.2.1) (List.length r3.1))=true then
   (KT N N ((at_ Ag r3.1 (a1.tmod a0.2.1).toNat,((-1:Int),((0:Int),()))))).bind fun o10=>match o10 with
   | .inl d11=>
    if (decide (d11.2.1<(0:Int)))=true then
     some (((0:Int),((0:Int),(false,()))))
    else
     if (Af d11.2.1 (List.length d11.1))=true then
     (EE (at_ Ai d11.1 d11.2.1.toNat,())).bind fun r12=>
     some ((d11.2.1,(r12.1,(true,()))))
     else none
   else none
   else none
def Aqw:FSig:=⟨[(Ae,false),(I,false)],[I,I,.bool],true,(BO)⟩
def Ayw:Ctx:={ tk:=Ac tks,ar:=Ac ars,fs:=Ac [(89,V9),(91,Ko),(133,L2)],lent:=fun t=>Nat.beq t 0 }
def Qp (N:Nat) (d:(List Int×Int×Int×Unit)×Gr×Unit):Option (Int×(List Int×Int×Int×Unit)×Unit):=
 let a0:=d.1
 let a1:=d.2.1
 if (decide (a1.1<(1:Int)))=true then
  ((CD 0) ((a0,([(-1:Int),(0:Int),(8:Int),(4611686018427387904:Int)],())))).bind fun r1=>
  some ((r1.1,(r1.2.1,())))
 else
  if (decide (a1.1>(8:Int)))=true then
   ((CD 0) ((a0,([(-1:Int),(0:Int),(8:Int),(4611686018427387904:Int)],())))).bind fun r2=>
   some ((r2.1,(r2.2.1,())))
  else
   ((F4 0) ((a0,((24:Int),())))).bind fun r3=>
   if (r3.1)=true then
    ((CD 0) ((r3.2.1,([(-1:Int),(0:Int),(8:Int),(4611686018427387904:Int)],())))).bind fun r4=>
    some ((r4.1,(r4.2.1,())))
   else
    ((BU 0) ((r3.2.1,(a1.1,())))).bind fun r5=>
    some ((r5.1,(r5.2.1,())))
def Auk:FSig:=⟨[(AZ,true),(Aj,false)],[I],true,(Qp 0)⟩
def Awx:Ctx:={ tk:=Ac tks,ar:=Ac ars,fs:=Ac [(93,Auk),(160,Xb),(177,Ach)] }
def I7 (N:Nat) (d:List Int×Unit):Option ((Gr×Int×Tab×Unit)×Int×Int×Int×Unit):=
 let a0:=d.1
 ((CW Js G8) (((a0,((0:Int),((0:Int),()))),()))).bind fun r5=>
 ((PB 0) (r5.2.1,())).bind fun r6=>
 ((Qp 0) ((r6.2.1,(r5.1.1,())))).bind fun r7=>
 ((Qp 0) ((r7.2.1,(r5.1.1,())))).bind fun r8=>
 some ((r5.1,(r6.1,(r7.1,(r8.1,())))))
def Ats:FSig:=⟨[(K_Su8,false)],[Ae,I,I,I],false,(I7 0)⟩
def Ay9:Ctx:={ tk:=Ac tks,ar:=Ac ars,fs:=Ac [(76,L8),(128,V3),(174,Xz)] }
def TL (N:Nat) (d:(Gr×Int×Tab×Unit)×Int×List Int×Unit):Option (Bool×Unit):=
 let a0:=d.1
 let a1:=d.2.1
 let a2:=d.2.2.1
 ((Hk 0) (a0,())).bind fun r1=>
 if (r1.1)=true then
  let r2:=Kb (a1,())
  if (r2.1)=true then
   let x3:=IntKind.wrap .i64 (a0.1.1-(1:Int))
   (CO ((a2,((0:Int),(x3,()))))).bind fun r4=>
   some (r4.1,())
  else
   some (false,())
 else
  some (false,())
def Arx:FSig:=⟨[(Ae,false),(I,false),(Ai,false)],[.bool],true,(TL 0)⟩
def Avy:Ctx:={ tk:=Ac tks,ar:=Ac ars,fs:=Ac [(127,Dp),(130,Oc),(162,Pv),(170,XP),(178,Arx),(179,Tk)] }
abbrev Pl:=Int×Int×(Gr×Int×Tab×Unit)×(List (List Int×Unit))×List (Tab)×Int×Int×List Int×Int×Int×Unit
abbrev Qo:=(Int×Unit)⊕Empty
def Aj9:AP:=[(1,.v I),(3,.v I),(4,.box Ae 0),(10,.own AU 99),(11,.own An 99),(12,.v I),(13,.v I),(49,.own Ai 99),(50,.v I),(51,.v I)]
def Ai1:AJ:=[(.normal,[(12,.v I)])]
def HD (N:Nat) (back:Pl->Option Qo) (d:Pl):Option Qo:=
 let s1:=d.1
 let s3:=d.2.1
 let s4:=d.2.2.1
 let s10:=d.2.2.2.1
 let s11:=d.2.2.2.2.1
 let s12:=d.2.2.2.2.2.1
 let s13:=d.2.2.2.2.2.2.1
 let s49:=d.2.2.2.2.2.2.2.1
 let s50:=d.2.2.2.2.2.2.2.2.1
 let s51:=d.2.2.2.2.2.2.2.2.2.1
 if (decide (s51<s50))=true then
  if (Af s51 (List.length s49))=true then
  if (at_ I s49 s51.toNat != s3)=true then
   if (Af s1 (List.length s10))=true then
   let x18:=IntKind.wrap .i64 (s1+(1:Int))
   if (s4.2.1 != 0)=true then
   if (Af (x18.tmod s4.2.1) (List.length s11))=true then
   if (Af (at_ I s49 s51.toNat) (List.length (at_ Ag s11 (x18.tmod s4.2.1).toNat)))=true then
   (BG ((at_ AA s10 s1.toNat,(at_ Ai (at_ Ag s11 (x18.tmod s4.2.1).toNat) (at_ I s49 s51.toNat).toNat,(s3,()))))).bind fun r19=>
   if (decide (r19.1>=(0:Int)))=true then
    if (decide (s12<(0:Int)))=true then
     let x20:=IntKind.wrap .i64 (s51+(1:Int))
     back ((s1,(s3,(s4,(s10,(s11,(at_ I s49 s51.toNat,(r19.1,(s49,(s50,(x20,())))))))))))
    else
     if (decide (r19.1<s13))=true then
      let x21:=IntKind.wrap .i64 (s51+(1:Int))
      back ((s1,(s3,(s4,(s10,(s11,(at_ I s49 s51.toNat,(r19.1,(s49,(s50,(x21,())))))))))))
     else
      let x22:=IntKind.wrap .i64 (s51+(1:Int))
      back ((s1,(s3,(s4,(s10,(s11,(s12,(s13,(s49,(s50,(x22,())))))))))))
   else
    let x23:=IntKind.wrap .i64 (s51+(1:Int))
    back ((s1,(s3,(s4,(s10,(s11,(s12,(s13,(s49,(s50,(x23,())))))))))))
   else none
   else none
   else none
   else none
  else
   if (decide ((0:Int)>=(0:Int)))=true then
    if (decide (s12<(0:Int)))=true then
     let x24:=IntKind.wrap .i64 (s51+(1:Int))
     back ((s1,(s3,(s4,(s10,(s11,(at_ I s49 s51.toNat,((0:Int),(s49,(s50,(x24,())))))))))))
    else
     if (decide ((0:Int)<s13))=true then
      let x25:=IntKind.wrap .i64 (s51+(1:Int))
      back ((s1,(s3,(s4,(s10,(s11,(at_ I s49 s51.toNat,((0:Int),(s49,(s50,(x25,())))))))))))
     else
      let x26:=IntKind.wrap .i64 (s51+(1:Int))
      back ((s1,(s3,(s4,(s10,(s11,(s12,(s13,(s49,(s50,(x26,())))))))))))
   else
    let x27:=IntKind.wrap .i64 (s51+(1:Int))
    back ((s1,(s3,(s4,(s10,(s11,(s12,(s13,(s49,(s50,(x27,())))))))))))
  else none
 else
  some (.inl (s12,()))
def KW (N:Nat):Nat->Pl->Option Qo
 | 0,_=>none
 | k+1,d=>HD N (KW N k) d
def W4 (N:Nat) (d:(Gr×Int×Tab×Unit)×Int×Int×Int×Unit):Option (Int×Bool×Unit):=
 let a0:=d.1
 let a1:=d.2.1
 let a2:=d.2.2.1
 let a3:=d.2.2.2.1
 ((TL 0) ((a0,(a1,([a2,a3],()))))).bind fun r1=>
 if (!r1.1)=true then
  some (((0:Int),(false,())))
 else
  (Co (a0,())).bind fun r2=>
  (CJ (r2.1,())).bind fun r3=>
  if (a0.2.1 != 0)=true then
  if (Af (a1.tmod a0.2.1) (List.length r3.1))=true then
  if (Af a2 (List.length (at_ Ag r3.1 (a1.tmod a0.2.1).toNat)))=true then
  if (Af a3 (List.length (at_ Ai (at_ Ag r3.1 (a1.tmod a0.2.1).toNat) a2.toNat)))=true then
  if (decide (at_ I (at_ Ai (at_ Ag r3.1 (a1.tmod a0.2.1).toNat) a2.toNat) a3.toNat<(1:Int)))=true then
   some (((0:Int),(false,())))
  else
   if (Af (a1.tmod a0.2.1) (List.length r2.1))=true then
   ((IS 0) ((at_ AA r2.1 (a1.tmod a0.2.1).toNat,(a2,())))).bind fun r4=>
   (D8 (r4.1,())).bind fun r5=>
   (KW N N ((a1.tmod a0.2.1,(a3,(a0,(r2.1,(r3.1,((-1:Int),((0:Int),(r5.1,((List.length r5.1:Int),((0:Int),())))))))))))).bind fun o16=>match o16 with
   | .inl d17=>
    some ((d17.1,(true,())))
   else none
  else none
  else none
  else none
  else none
def Aqb:FSig:=⟨[(Ae,false),(I,false),(I,false),(I,false)],[I,.bool],true,(Bo)⟩
def Auu:Ctx:={ tk:=Ac tks,ar:=Ac ars,fs:=Ac [(148,Df)] }
def R6 (N:Nat) (d:Gr×Int×Unit):Option (Bool×Unit):=
 let a0:=d.1
 let a1:=d.2.1
 let x1:=IntKind.wrap .i64 (a0.1-(1:Int))
 let r2:=Bl ((a1,((0:Int),(x1,()))))
 some (r2.1,())
def Jt (d:Gr×Int×Unit):Bool×Unit:=
 let a0:=d.1
 let a1:=d.2.1
 let x1:=IntKind.wrap .i64 (a0.1-(1:Int))
 let r2:=Bl ((a1,((0:Int),(x1,()))))
 (r2.1,())
theorem Zm (N:Nat) (d):R6 N d=some (Jt d):=by
 unfold R6 Jt
 first
  | rfl
  | (dsimp only; (repeat' split)<;>rfl)
def Aif:FSig:=⟨[(Aj,false),(I,false)],[.bool],true,(fun d=>some (Jt d))⟩
def Aw8:Ctx:={ tk:=Ac tks,ar:=Ac ars,fs:=Ac [(132,Aif),(163,Tn),(165,Xr),(171,Xo),(176,Aeg),(180,Xf)] }
abbrev Qn:=Int×Int×List (Tab)×List (Tab)×Int×Int×Int×Int×Unit
abbrev Om:=(Int×Unit)⊕Empty
def Alz:AP:=[(2,.v I),(3,.v I),(10,.own An 99),(11,.own An 99),(12,.v I),(13,.v I),(14,.v I),(15,.v I)]
def Aiw:AJ:=[(.normal,[(13,.v I)])]
def HE (N:Nat) (back:Qn->Option Om) (d:Qn):Option Om:=
 let s2:=d.1
 let s3:=d.2.1
 let s10:=d.2.2.1
 let s11:=d.2.2.2.1
 let s12:=d.2.2.2.2.1
 let s13:=d.2.2.2.2.2.1
 let s14:=d.2.2.2.2.2.2.1
 let s15:=d.2.2.2.2.2.2.2.1
 if (Af s12 (List.length s10))=true then
 if (Af s2 (List.length (at_ Ag s10 s12.toNat)))=true then
 if (decide (s15<(List.length (at_ Ai (at_ Ag s10 s12.toNat) s2.toNat):Int)))=true then
  if (Af s12 (List.length s10))=true then
  if (Af s2 (List.length (at_ Ag s10 s12.toNat)))=true then
  if (Af s15 (List.length (at_ Ai (at_ Ag s10 s12.toNat) s2.toNat)))=true then
  (CU ((s10,(s11,(s12,(at_ I (at_ Ai (at_ Ag s10 s12.toNat) s2.toNat) s15.toNat,(s3,()))))))).bind fun r14=>
  if (decide (r14.1>=(0:Int)))=true then
   if (decide (s13<(0:Int)))=true then
    if (Af s12 (List.length s10))=true then
    if (Af s2 (List.length (at_ Ag s10 s12.toNat)))=true then
    if (Af s15 (List.length (at_ Ai (at_ Ag s10 s12.toNat) s2.toNat)))=true then
    let x15:=IntKind.wrap .i64 (s15+(1:Int))
    back ((s2,(s3,(s10,(s11,(s12,(at_ I (at_ Ai (at_ Ag s10 s12.toNat) s2.toNat) s15.toNat,(r14.1,(x15,())))))))))
    else none
    else none
    else none
   else
    if (decide (r14.1<s14))=true then
     if (Af s12 (List.length s10))=true then
     if (Af s2 (List.length (at_ Ag s10 s12.toNat)))=true then
     if (Af s15 (List.length (at_ Ai (at_ Ag s10 s12.toNat) s2.toNat)))=true then
     let x16:=IntKind.wrap .i64 (s15+(1:Int))
     back ((s2,(s3,(s10,(s11,(s12,(at_ I (at_ Ai (at_ Ag s10 s12.toNat) s2.toNat) s15.toNat,(r14.1,(x16,())))))))))
     else none
     else none
     else none
    else
     let x17:=IntKind.wrap .i64 (s15+(1:Int))
     back ((s2,(s3,(s10,(s11,(s12,(s13,(s14,(x17,())))))))))
  else
   let x18:=IntKind.wrap .i64 (s15+(1:Int))
   back ((s2,(s3,(s10,(s11,(s12,(s13,(s14,(x18,())))))))))
  else none
  else none
  else none
 else
  some (.inl (s13,()))
 else none
 else none
def KQ (N:Nat):Nat->Qn->Option Om
 | 0,_=>none
 | k+1,d=>HE N (KQ N k) d
def Wf (N:Nat) (d:(Gr×Int×Tab×Unit)×Int×Int×Int×Unit):Option (Int×Bool×Unit):=
 let a0:=d.1
 let a1:=d.2.1
 let a2:=d.2.2.1
 let a3:=d.2.2.2.1
 (C7 (a0,())).bind fun r1=>
 if (!r1.1)=true then
  some (((0:Int),(false,())))
 else
  let r2:=Mk (a1,())
  if (!r2.1)=true then
   some (((0:Int),(false,())))
  else
   let r3:=Jt ((a0.1,(a2,())))
   if (!r3.1)=true then
    some (((0:Int),(false,())))
   else
    let r4:=Jt ((a0.1,(a3,())))
    if (!r4.1)=true then
     some (((0:Int),(false,())))
    else
     if (a2==a3)=true then
      some (((0:Int),(false,())))
     else
      (Dg (a0,())).bind fun r5=>
      (Dl (a0,())).bind fun r6=>
      if (a0.2.1 != 0)=true then
      (KQ N N ((a2,(a3,(r5.1,(r6.1,(a1.tmod a0.2.1,((-1:Int),((0:Int),((0:Int),())))))))))).bind fun o12=>match o12 with
      | .inl d13=>
       if (decide (d13.1<(0:Int)))=true then
        some (((0:Int),(false,())))
       else
        some ((d13.1,(true,())))
      else none
def Ar4:FSig:=⟨[(Ae,false),(I,false),(I,false),(I,false)],[I,.bool],true,(Bo)⟩
def Ays:Ctx:={ tk:=Ac tks,ar:=Ac ars,fs:=Ac [] }
def Xu (N:Nat) (d:(List Int×Unit)×Int×Int×Unit):Option (Bool×Unit):=
 let a0:=d.1
 let a1:=d.2.1
 let a2:=d.2.2.1
 if (Af a1 (List.length a0.1))=true then
 if (decide (0<=a2))=true then
 let x1:=shr .i64 (at_ I a0.1 a1.toNat) a2
 some (bits .and .i64 x1 (1:Int)==(1:Int),())
 else none
 else none
def AA2:FSig:=⟨[(AA,false),(I,false),(I,false)],[.bool],true,(Xu 0)⟩
def RV (d:Int×Int×(((List Int×Unit)×Unit)×Unit)×Unit):Option (Bool×Unit):=(Xu 0) (d.2.2.1.1.1,d.1,d.2.1,d.2.2.1.2)
def Ag6:FSig:=⟨[(I,false),(I,false),(Cz,false)],[.bool],true,RV⟩
def Ayc:Ctx:={ tk:=Ac tks,ar:=Ac ars,fs:=Ac [],cs:=Ac [(237,Ag6)] }
abbrev OP:=Int×(((List Int×Unit)×Unit)×Unit)×Gr×Gr×Int×Int×Int×Int×Unit
abbrev OI:=(Int×(((List Int×Unit)×Unit)×Unit)×Gr×Gr×Int×Int×Unit)⊕Empty
def Al6:AP:=[(0,.v I),(1,.v Cz),(4,.box Aj 99),(5,.box Aj 99),(6,.v I),(7,.v I),(10,.v I),(11,.v I)]
def Aoz:AJ:=[(.normal,[(0,.v I),(1,.v Cz),(4,.box Aj 99),(5,.box Aj 99),(10,.v I),(11,.v I)])]
def KJ (N:Nat) (back:OP->Option OI) (d:OP):Option OI:=
 let s0:=d.1
 let s1:=d.2.1
 let s4:=d.2.2.1
 let s5:=d.2.2.2.1
 let s6:=d.2.2.2.2.1
 let s7:=d.2.2.2.2.2.1
 let s10:=d.2.2.2.2.2.2.1
 let s11:=d.2.2.2.2.2.2.2.1
 if (decide (s7<s0))=true then
  (RV ((s6,(s7,(s1,()))))).bind fun r17=>
  if (r17.1)=true then
   if (decide (List.length s5.2.1+List.length ([(s6,(s7,()))])<=lim))=true then
   let x18:=IntKind.wrap .i64 (s7+(1:Int))
   back ((s0,(s1,(s4,((s5.1,(s5.2.1++([(s6,(s7,()))]),s5.2.2)),(s6,(x18,(s10,(s11,())))))))))
   else none
  else
   let x19:=IntKind.wrap .i64 (s7+(1:Int))
   back ((s0,(s1,(s4,(s5,(s6,(x19,(s10,(s11,())))))))))
 else
  some (.inl ((s0,(s1,(s4,(s5,(s10,(s11,()))))))))
def K7 (N:Nat):Nat->OP->Option OI
 | 0,_=>none
 | k+1,d=>KJ N (K7 N k) d
abbrev O4:=Int×(((List Int×Unit)×Unit)×Unit)×Gr×Gr×Int×Int×Unit
abbrev Pg:=(Gr×Gr×Unit)⊕Empty
def An8:AP:=[(0,.v I),(1,.v Cz),(4,.box Aj 99),(5,.box Aj 99),(10,.v I),(11,.v I)]
def Ak4:AJ:=[(.normal,[(4,.box Aj 99),(5,.box Aj 99)])]
def Lv (N:Nat) (back:O4->Option Pg) (d:O4):Option Pg:=
 let s0:=d.1
 let s1:=d.2.1
 let s4:=d.2.2.1
 let s5:=d.2.2.2.1
 let s10:=d.2.2.2.2.1
 let s11:=d.2.2.2.2.2.1
 if (decide (s11<s10))=true then
  let x10:=IntKind.wrap .i64 (s11+(1:Int))
  (K7 N N ((s0,(s1,(s4,(s5,(s11,(x10,(s10,(s11,())))))))))).bind fun o14=>match o14 with
  | .inl d15=>
   let x16:=IntKind.wrap .i64 (d15.2.2.2.2.2.1+(1:Int))
   back ((d15.1,(d15.2.1,(d15.2.2.1,(d15.2.2.2.1,(d15.2.2.2.2.1,(x16,())))))))
 else
  some (.inl ((s4,(s5,()))))
def KN (N:Nat):Nat->O4->Option Pg
 | 0,_=>none
 | k+1,d=>Lv N (KN N k) d
def Wg (N:Nat) (d:Int×(((List Int×Unit)×Unit)×Unit)×Unit):Option (Gr×Unit):=
 let a0:=d.1
 let a1:=d.2.1
 (KN N N ((a0,(a1,(((0:Int),(([]:List (Int×Int×Unit)),())),((a0,(([]:List (Int×Int×Unit)),())),(a0,((0:Int),())))))))).bind fun o8=>match o8 with
 | .inl d9=>
  some (d9.2.1,())
def Auf:FSig:=⟨[(I,false),(Cz,false)],[Aj],true,(E3)⟩
def Ayg:Ctx:={ tk:=Ac tks,ar:=Ac ars,fs:=Ac [(188,Qa),(236,Auf)] }
def Tx (N:Nat) (d:(List Int×Unit)×Unit):Option (Gr×Unit):=
 let a0:=d.1
 let r1:=E8 (a0,())
 (E3 ((r1.1,(((a0,()),()),())))).bind fun r2=>
 some (r2.1,())
def Auz:FSig:=⟨[(AA,false)],[Aj],true,(Tx 0)⟩
def Ayb:Ctx:={ tk:=Ac tks,ar:=Ac ars,fs:=Ac [(76,L8),(162,Pv),(174,Xz),(181,Auz)] }
def J1 (N:Nat) (d:(Gr×Int×Tab×Unit)×Int×Unit):Option (Gr×Bool×Unit):=
 let a0:=d.1
 let a1:=d.2.1
 ((Hk 0) (a0,())).bind fun r1=>
 if (!r1.1)=true then
  some ((((0:Int),(([]:List (Int×Int×Unit)),())),(false,())))
 else
  let r2:=Kb (a1,())
  if (!r2.1)=true then
   some ((((0:Int),(([]:List (Int×Int×Unit)),())),(false,())))
  else
   (Co (a0,())).bind fun r3=>
   if (a0.2.1 != 0)=true then
   if (Af (a1.tmod a0.2.1) (List.length r3.1))=true then
   ((Tx 0) (at_ AA r3.1 (a1.tmod a0.2.1).toNat,())).bind fun r4=>
   some ((r4.1,(true,())))
   else none
   else none
def Aqk:FSig:=⟨[(Ae,false),(I,false)],[Aj,.bool],true,(J1 0)⟩
def Awp:Ctx:={ tk:=Ac tks,ar:=Ac ars,fs:=Ac [(114,SH),(128,V3)] }
def T5 (N:Nat) (d:Gr×List Int×Unit):Option (Bool×Unit):=
 let a0:=d.1
 let a1:=d.2.1
 (C2 (a0,())).bind fun r1=>
 if (r1.1)=true then
  let x2:=IntKind.wrap .i64 (a0.1-(1:Int))
  (CO ((a1,((0:Int),(x2,()))))).bind fun r3=>
  some (r3.1,())
 else
  some (false,())
def Aqy:FSig:=⟨[(Aj,false),(Ai,false)],[.bool],true,(T5 0)⟩
def Ax6:Ctx:={ tk:=Ac tks,ar:=Ac ars,fs:=Ac [(95,Gv),(106,Aqy),(127,Dp)] }
def MM (N:Nat) (d:Gr×Int×Unit):Option (List Int×Bool×Unit):=
 let a0:=d.1
 let a1:=d.2.1
 ((T5 0) ((a0,([a1],())))).bind fun r1=>
 if (!r1.1)=true then
  some ((([]:List Int),(false,())))
 else
  (Ft (a0,())).bind fun r2=>
  if (Af a1 (List.length r2.1.1))=true then
  (D8 (at_ I r2.1.1 a1.toNat,())).bind fun r3=>
  some ((r3.1,(true,())))
  else none
def Aps:FSig:=⟨[(Aj,false),(I,false)],[Ai,.bool],true,(MM 0)⟩
def LE:Ctx:={ tk:=Ac tks,ar:=Ac ars,fs:=Ac [(9,Q4),(30,Ap4),(43,Wy),(72,Aps),(73,Aut),(74,Atb),(75,Arw),(76,L8),(77,Apy),(78,Afh),(79,NM),(80,Ara),(81,Arr),(82,Atg),(83,Aqw),(84,Ats),(85,Aqb),(86,Ar4),(87,Aqk)],dm:=fun t=>Nat.beq t 49,cs:=Ac [] }
abbrev DH:=List Int×(Gr×Int×Tab×Unit)×List (Tab)×Bool×List (Tab)×Int×Int×Int×Unit
abbrev DJ:=(Bool×Unit)⊕(List Int×(Gr×Int×Tab×Unit)×List (Tab)×Bool×List (Tab)×Int×Int×Unit)⊕Empty
def JB:AP:=[(0,.v K_Su8),(3,.box Ae 0),(4,.v An),(5,.v .bool),(9,.own An 99),(15,.v I),(16,.v I),(17,.v I)]
def JJ:AJ:=[(.ret,[(2,.v .bool)]),(.normal,[(0,.v K_Su8),(3,.box Ae 0),(4,.v An),(5,.v .bool),(9,.own An 99),(15,.v I),(16,.v I)])]
def BZ (N:Nat) (back:DH->Option DJ) (d:DH):Option DJ:=
 let s0:=d.1
 let s3:=d.2.1
 let s4:=d.2.2.1
 let s5:=d.2.2.2.1
 let s9:=d.2.2.2.2.1
 let s15:=d.2.2.2.2.2.1
 let s16:=d.2.2.2.2.2.2.1
 let s17:=d.2.2.2.2.2.2.2.1
 if (Af s15 (List.length s4))=true then
 if (Af s16 (List.length (at_ Ag s4 s15.toNat)))=true then
 if (decide (s17<(List.length (at_ Ai (at_ Ag s4 s15.toNat) s16.toNat):Int)))=true then
  if (Af s15 (List.length s4))=true then
  if (Af s16 (List.length (at_ Ag s4 s15.toNat)))=true then
  if (Af s17 (List.length (at_ Ai (at_ Ag s4 s15.toNat) s16.toNat)))=true then
  if (decide (at_ I (at_ Ai (at_ Ag s4 s15.toNat) s16.toNat) s17.toNat>=(0:Int)))=true then
   if (Af s15 (List.length s9))=true then
   if (Af s16 (List.length (at_ Ag s9 s15.toNat)))=true then
   if (Af s17 (List.length (at_ Ai (at_ Ag s9 s15.toNat) s16.toNat)))=true then
   if (decide (at_ I (at_ Ai (at_ Ag s9 s15.toNat) s16.toNat) s17.toNat<(0:Int)))=true then
    some (.inl (false,()))
   else
    if (Af s15 (List.length s9))=true then
    if (Af s16 (List.length (at_ Ag s9 s15.toNat)))=true then
    if (Af s17 (List.length (at_ Ai (at_ Ag s9 s15.toNat) s16.toNat)))=true then
    if (decide (at_ I (at_ Ai (at_ Ag s9 s15.toNat) s16.toNat) s17.toNat>at_ I (at_ Ai (at_ Ag s4 s15.toNat) s16.toNat) s17.toNat))=true then
     some (.inl (false,()))
    else
     let x77:=IntKind.wrap .i64 (s17+(1:Int))
     back ((s0,(s3,(s4,(s5,(s9,(s15,(s16,(x77,())))))))))
    else none
    else none
    else none
   else none
   else none
   else none
  else
   let x78:=IntKind.wrap .i64 (s17+(1:Int))
   back ((s0,(s3,(s4,(s5,(s9,(s15,(s16,(x78,())))))))))
  else none
  else none
  else none
 else
  some (.inr (.inl ((s0,(s3,(s4,(s5,(s9,(s15,(s16,()))))))))))
 else none
 else none
def C1 (N:Nat):Nat->DH->Option DJ
 | 0,_=>none
 | k+1,d=>BZ N (C1 N k) d
abbrev DL:=List Int×(Gr×Int×Tab×Unit)×List (Tab)×Bool×List (Tab)×Int×Int×Unit
abbrev DF:=(Bool×Unit)⊕(List Int×(Gr×Int×Tab×Unit)×List (Tab)×Bool×List (Tab)×Int×Unit)⊕Empty
def JD:AP:=[(0,.v K_Su8),(3,.box Ae 0),(4,.v An),(5,.v .bool),(9,.own An 99),(15,.v I),(16,.v I)]
def JL:AJ:=[(.ret,[(2,.v .bool)]),(.normal,[(0,.v K_Su8),(3,.box Ae 0),(4,.v An),(5,.v .bool),(9,.own An 99),(15,.v I)])]
def B4 (N:Nat) (back:DL->Option DF) (d:DL):Option DF:=
 let s0:=d.1
 let s3:=d.2.1
 let s4:=d.2.2.1
 let s5:=d.2.2.2.1
 let s9:=d.2.2.2.2.1
 let s15:=d.2.2.2.2.2.1
 let s16:=d.2.2.2.2.2.2.1
 if (Af s15 (List.length s4))=true then
 if (decide (s16<(List.length (at_ Ag s4 s15.toNat):Int)))=true then
  (C1 N N ((s0,(s3,(s4,(s5,(s9,(s15,(s16,((0:Int),())))))))))).bind fun o73=>match o73 with
  | .inl d74=>
   some (.inl (d74.1,()))
  | .inr (.inl d75)=>
   let x76:=IntKind.wrap .i64 (d75.2.2.2.2.2.2.1+(1:Int))
   back ((d75.1,(d75.2.1,(d75.2.2.1,(d75.2.2.2.1,(d75.2.2.2.2.1,(d75.2.2.2.2.2.1,(x76,()))))))))
 else
  some (.inr (.inl ((s0,(s3,(s4,(s5,(s9,(s15,())))))))))
 else none
def CZ (N:Nat):Nat->DL->Option DF
 | 0,_=>none
 | k+1,d=>B4 N (CZ N k) d
abbrev DE:=List Int×(Gr×Int×Tab×Unit)×List (Tab)×Bool×List (Tab)×Int×Unit
abbrev DK:=(Bool×Unit)⊕(List Int×(Gr×Int×Tab×Unit)×Unit)⊕Empty
def JK:AP:=[(0,.v K_Su8),(3,.box Ae 0),(4,.v An),(5,.v .bool),(9,.own An 99),(15,.v I)]
def JI:AJ:=[(.ret,[(2,.v .bool)]),(.normal,[(0,.v K_Su8),(3,.box Ae 0)])]
def Bn (N:Nat) (back:DE->Option DK) (d:DE):Option DK:=
 let s0:=d.1
 let s3:=d.2.1
 let s4:=d.2.2.1
 let s5:=d.2.2.2.1
 let s9:=d.2.2.2.2.1
 let s15:=d.2.2.2.2.2.1
 if (s5)=true then
  if (decide (s15<(List.length s4:Int)))=true then
   (CZ N N ((s0,(s3,(s4,(s5,(s9,(s15,((0:Int),()))))))))).bind fun o67=>match o67 with
   | .inl d68=>
    some (.inl (d68.1,()))
   | .inr (.inl d69)=>
    let x70:=IntKind.wrap .i64 (d69.2.2.2.2.2.1+(1:Int))
    back ((d69.1,(d69.2.1,(d69.2.2.1,(d69.2.2.2.1,(d69.2.2.2.2.1,(x70,())))))))
  else
   some (.inr (.inl ((s0,(s3,())))))
 else
  some (.inr (.inl ((s0,(s3,())))))
def C4 (N:Nat):Nat->DE->Option DK
 | 0,_=>none
 | k+1,d=>Bn N (C4 N k) d
abbrev DG:=(Gr×Int×Tab×Unit)×Int×Int×Int×List (Tab)×List Int×List Int×Int×Int×Unit
abbrev DI:=(Bool×Unit)⊕((Gr×Int×Tab×Unit)×Int×Int×Int×List (Tab)×List Int×Int×Unit)⊕Empty
def JH:AP:=[(33,.box Ae 0),(34,.v I),(35,.v I),(36,.v I),(41,.v An),(47,.own Ai 99),(49,.v Ai),(50,.v I),(51,.v I)]
def JG:AJ:=[(.ret,[(2,.v .bool)]),(.normal,[(33,.box Ae 0),(34,.v I),(35,.v I),(36,.v I),(41,.v An),(49,.v Ai),(50,.v I)])]
def BY (N:Nat) (back:DG->Option DI) (d:DG):Option DI:=
 let s33:=d.1
 let s34:=d.2.1
 let s35:=d.2.2.1
 let s36:=d.2.2.2.1
 let s41:=d.2.2.2.2.1
 let s47:=d.2.2.2.2.2.1
 let s49:=d.2.2.2.2.2.2.1
 let s50:=d.2.2.2.2.2.2.2.1
 let s51:=d.2.2.2.2.2.2.2.2.1
 if (decide (s51<(List.length s47:Int)))=true then
  if (Af s51 (List.length s47))=true then
  if (Af (at_ I s47 s51.toNat) (List.length s49))=true then
  if (decide (at_ I s49 (at_ I s47 s51.toNat).toNat<(0:Int)))=true then
   some (.inl (false,()))
  else
   if (Af s51 (List.length s47))=true then
   if (Af (at_ I s47 s51.toNat) (List.length s49))=true then
   if (decide (at_ I s49 (at_ I s47 s51.toNat).toNat>s50))=true then
    if (Af s51 (List.length s47))=true then
    if (Af (at_ I s47 s51.toNat) (List.length s49))=true then
    let x79:=IntKind.wrap .i64 (s51+(1:Int))
    back ((s33,(s34,(s35,(s36,(s41,(s47,(s49,(at_ I s49 (at_ I s47 s51.toNat).toNat,(x79,()))))))))))
    else none
    else none
   else
    let x80:=IntKind.wrap .i64 (s51+(1:Int))
    back ((s33,(s34,(s35,(s36,(s41,(s47,(s49,(s50,(x80,()))))))))))
   else none
   else none
  else none
  else none
 else
  some (.inr (.inl ((s33,(s34,(s35,(s36,(s41,(s49,(s50,()))))))))))
def BQ (N:Nat):Nat->DG->Option DI
 | 0,_=>none
 | k+1,d=>BY N (BQ N k) d
def B5 (N:Nat) (d:List Int×Unit):Option (Bool×Unit):=
 let a0:=d.1
 let r1:=EQ (a0,())
 if (r1.1)=true then
  some (true,())
 else
  ((Ql 0) (a0,())).bind fun r2=>
  ((PZ 0) ((r2.1,(r2.2.1,())))).bind fun r3=>
  (D5 ((r2.1,(r2.2.1,())))).bind fun r4=>
  if (!(r3.1==r4.1))=true then
   some (false,())
  else
   if (!(r3.2.1==r4.2.1))=true then
    some (false,())
   else
    ((Hk 0) (r2.1,())).bind fun r5=>
    if (!(r3.2.1==r5.1))=true then
     some (false,())
    else
     ((Jq 0) (r2.1,())).bind fun r6=>
     ((Jr 0) (r2.1,())).bind fun r7=>
     if (!(r6.2.1==r7.2.1))=true then
      some (false,())
     else
      if (!(r6.2.1==r3.2.1))=true then
       some (false,())
      else
       (Dh ((r6.1,(r7.1,())))).bind fun r8=>
       if (!r8.1)=true then
        some (false,())
       else
        if (r3.2.1)=true then
         ((PZ 0) ((r2.1,(r6.1,())))).bind fun r9=>
         if (!r9.2.1)=true then
          some (false,())
         else
          if (!r9.1)=true then
           some (false,())
          else
           (C4 N N ((a0,(r2.1,(r2.2.1,(r3.1,(r6.1,((0:Int),())))))))).bind fun o20=>match o20 with
           | .inl d21=>
            some (d21.1,())
           | .inr (.inl d22)=>
            (Iu (d22.2.1.1,())).bind fun r23=>
            ((Jq 0) (r23.1,())).bind fun r24=>
            ((P7 0) ((d22.2.1.1,((1:Int),())))).bind fun r25=>
            if (!r23.2.1)=true then
             some (false,())
            else
             if (!r24.2.1)=true then
              some (false,())
             else
              if (!r25.2.1)=true then
               some (false,())
              else
               if ((List.length r24.1:Int) != (1:Int))=true then
                some (false,())
               else
                if (Af (0:Int) (List.length r24.1))=true then
                (FJ ((at_ Ag r24.1 (0:Int).toNat,(r25.1,())))).bind fun r26=>
                if (!r26.1)=true then
                 some (false,())
                else
                 ((IK 0) (d22.1,())).bind fun r27=>
                 (BO ((r27.1,(r27.2.1,())))).bind fun r28=>
                 (BO ((r27.1,(r27.2.1,())))).bind fun r29=>
                 if (!(r28.2.2.1==r29.2.2.1))=true then
                  some (false,())
                 else
                  if (r28.1 != r29.1)=true then
                   some (false,())
                  else
                   if (r28.2.1 != r29.2.1)=true then
                    some (false,())
                   else
                    ((I7 0) (d22.1,())).bind fun r30=>
                    (Bo ((r30.1,(r30.2.1,(r30.2.2.1,(r30.2.2.2.1,())))))).bind fun r31=>
                    (Bo ((r30.1,(r30.2.1,(r30.2.2.1,(r30.2.2.2.1,())))))).bind fun r32=>
                    if (r31.1 != r32.1)=true then
                     some (false,())
                    else
                     if (!(r31.2.1==r32.2.1))=true then
                      some (false,())
                     else
                      if (!r31.2.1)=true then
                       some (true,())
                      else
                       ((Jq 0) (r30.1,())).bind fun r33=>
                       ((Jr 0) (r30.1,())).bind fun r34=>
                       if (!r33.2.1)=true then
                        some (false,())
                       else
                        if (!r34.2.1)=true then
                         some (false,())
                        else
                         (Dh ((r33.1,(r34.1,())))).bind fun r35=>
                         if (!r35.1)=true then
                          some (false,())
                         else
                          if (r31.1==r30.2.2.2.1)=true then
                           if (r30.1.2.1 != 0)=true then
                           if (Af (r30.2.1.tmod r30.1.2.1) (List.length r33.1))=true then
                           if (Af r30.2.2.1 (List.length (at_ Ag r33.1 (r30.2.1.tmod r30.1.2.1).toNat)))=true then
                           if (Af r30.2.2.2.1 (List.length (at_ Ai (at_ Ag r33.1 (r30.2.1.tmod r30.1.2.1).toNat) r30.2.2.1.toNat)))=true then
                           some ((at_ I (at_ Ai (at_ Ag r33.1 (r30.2.1.tmod r30.1.2.1).toNat) r30.2.2.1.toNat) r30.2.2.2.1.toNat==(1:Int),()))
                           else none
                           else none
                           else none
                           else none
                          else
                           ((J1 0) ((r30.1,(r30.2.1,())))).bind fun r36=>
                           ((MM 0) ((r36.1,(r30.2.2.2.1,())))).bind fun r37=>
                           if (!r36.2.1)=true then
                            some (false,())
                           else
                            if (!r37.2.1)=true then
                             some (false,())
                            else
                             let x38:=IntKind.wrap .i64 (r30.2.1+(1:Int))
                             if (r30.1.2.1 != 0)=true then
                             if (Af (x38.tmod r30.1.2.1) (List.length r33.1))=true then
                             if (Af r31.1 (List.length (at_ Ag r33.1 (x38.tmod r30.1.2.1).toNat)))=true then
                             if (Af r30.2.2.2.1 (List.length (at_ Ai (at_ Ag r33.1 (x38.tmod r30.1.2.1).toNat) r31.1.toNat)))=true then
                             (BQ N N ((r30.1,(r30.2.1,(r30.2.2.1,(r30.2.2.2.1,(r33.1,(r37.1,(at_ Ai (at_ Ag r33.1 (x38.tmod r30.1.2.1).toNat) r31.1.toNat,(at_ I (at_ Ai (at_ Ag r33.1 (x38.tmod r30.1.2.1).toNat) r31.1.toNat) r30.2.2.2.1.toNat,((0:Int),()))))))))))).bind fun o41=>match o41 with
                             | .inl d42=>
                              some (d42.1,())
                             | .inr (.inl d43)=>
                              if (Af d43.2.2.2.1 (List.length d43.2.2.2.2.2.1))=true then
                              if (decide (at_ I d43.2.2.2.2.2.1 d43.2.2.2.1.toNat>=(0:Int)))=true then
                               if (d43.1.2.1 != 0)=true then
                               if (Af (d43.2.1.tmod d43.1.2.1) (List.length d43.2.2.2.2.1))=true then
                               if (Af d43.2.2.1 (List.length (at_ Ag d43.2.2.2.2.1 (d43.2.1.tmod d43.1.2.1).toNat)))=true then
                               if (Af d43.2.2.2.1 (List.length (at_ Ai (at_ Ag d43.2.2.2.2.1 (d43.2.1.tmod d43.1.2.1).toNat) d43.2.2.1.toNat)))=true then
                               let x44:=IntKind.wrap .i64 (d43.2.2.2.2.2.2.1+(1:Int))
                               some ((at_ I (at_ Ai (at_ Ag d43.2.2.2.2.1 (d43.2.1.tmod d43.1.2.1).toNat) d43.2.2.1.toNat) d43.2.2.2.1.toNat==x44,()))
                               else none
                               else none
                               else none
                               else none
                              else
                               some (false,())
                              else none
                             else none
                             else none
                             else none
                             else none
                else none
        else
         ((IK 0) (a0,())).bind fun r45=>
         (BO ((r45.1,(r45.2.1,())))).bind fun r46=>
         (BO ((r45.1,(r45.2.1,())))).bind fun r47=>
         if (!(r46.2.2.1==r47.2.2.1))=true then
          some (false,())
         else
          if (r46.1 != r47.1)=true then
           some (false,())
          else
           if (r46.2.1 != r47.2.1)=true then
            some (false,())
           else
            ((I7 0) (a0,())).bind fun r48=>
            (Bo ((r48.1,(r48.2.1,(r48.2.2.1,(r48.2.2.2.1,())))))).bind fun r49=>
            (Bo ((r48.1,(r48.2.1,(r48.2.2.1,(r48.2.2.2.1,())))))).bind fun r50=>
            if (r49.1 != r50.1)=true then
             some (false,())
            else
             if (!(r49.2.1==r50.2.1))=true then
              some (false,())
             else
              if (!r49.2.1)=true then
               some (true,())
              else
               ((Jq 0) (r48.1,())).bind fun r51=>
               ((Jr 0) (r48.1,())).bind fun r52=>
               if (!r51.2.1)=true then
                some (false,())
               else
                if (!r52.2.1)=true then
                 some (false,())
                else
                 (Dh ((r51.1,(r52.1,())))).bind fun r53=>
                 if (!r53.1)=true then
                  some (false,())
                 else
                  if (r49.1==r48.2.2.2.1)=true then
                   if (r48.1.2.1 != 0)=true then
                   if (Af (r48.2.1.tmod r48.1.2.1) (List.length r51.1))=true then
                   if (Af r48.2.2.1 (List.length (at_ Ag r51.1 (r48.2.1.tmod r48.1.2.1).toNat)))=true then
                   if (Af r48.2.2.2.1 (List.length (at_ Ai (at_ Ag r51.1 (r48.2.1.tmod r48.1.2.1).toNat) r48.2.2.1.toNat)))=true then
                   some ((at_ I (at_ Ai (at_ Ag r51.1 (r48.2.1.tmod r48.1.2.1).toNat) r48.2.2.1.toNat) r48.2.2.2.1.toNat==(1:Int),()))
                   else none
                   else none
                   else none
                   else none
                  else
                   ((J1 0) ((r48.1,(r48.2.1,())))).bind fun r54=>
                   ((MM 0) ((r54.1,(r48.2.2.2.1,())))).bind fun r55=>
                   if (!r54.2.1)=true then
                    some (false,())
                   else
                    if (!r55.2.1)=true then
                     some (false,())
                    else
                     let x56:=IntKind.wrap .i64 (r48.2.1+(1:Int))
                     if (r48.1.2.1 != 0)=true then
                     if (Af (x56.tmod r48.1.2.1) (List.length r51.1))=true then
                     if (Af r49.1 (List.length (at_ Ag r51.1 (x56.tmod r48.1.2.1).toNat)))=true then
                     if (Af r48.2.2.2.1 (List.length (at_ Ai (at_ Ag r51.1 (x56.tmod r48.1.2.1).toNat) r49.1.toNat)))=true then
                     (BQ N N ((r48.1,(r48.2.1,(r48.2.2.1,(r48.2.2.2.1,(r51.1,(r55.1,(at_ Ai (at_ Ag r51.1 (x56.tmod r48.1.2.1).toNat) r49.1.toNat,(at_ I (at_ Ai (at_ Ag r51.1 (x56.tmod r48.1.2.1).toNat) r49.1.toNat) r48.2.2.2.1.toNat,((0:Int),()))))))))))).bind fun o57=>match o57 with
                     | .inl d58=>
                      some (d58.1,())
                     | .inr (.inl d59)=>
                      if (Af d59.2.2.2.1 (List.length d59.2.2.2.2.2.1))=true then
                      if (decide (at_ I d59.2.2.2.2.2.1 d59.2.2.2.1.toNat>=(0:Int)))=true then
                       if (d59.1.2.1 != 0)=true then
                       if (Af (d59.2.1.tmod d59.1.2.1) (List.length d59.2.2.2.2.1))=true then
                       if (Af d59.2.2.1 (List.length (at_ Ag d59.2.2.2.2.1 (d59.2.1.tmod d59.1.2.1).toNat)))=true then
                       if (Af d59.2.2.2.1 (List.length (at_ Ai (at_ Ag d59.2.2.2.2.1 (d59.2.1.tmod d59.1.2.1).toNat) d59.2.2.1.toNat)))=true then
                       let x60:=IntKind.wrap .i64 (d59.2.2.2.2.2.2.1+(1:Int))
                       some ((at_ I (at_ Ai (at_ Ag d59.2.2.2.2.1 (d59.2.1.tmod d59.1.2.1).toNat) d59.2.2.1.toNat) d59.2.2.2.1.toNat==x60,()))
                       else none
                       else none
                       else none
                       else none
                      else
                       some (false,())
                      else none
                     else none
                     else none
                     else none
                     else none
def Mm:FSig:=⟨[(K_Su8,false)],[.bool],true,(ZL)⟩
theorem Yy {m:Nat} (h:m<9223372036854775808):IntKind.wrap .i64 (m:Int)=(m:Int):=Go.IntWalk.i64_in _ (by omega)
theorem KK (m:Nat):BitVec.ofInt 64 (m:Int)=BitVec.ofNat 64 m:=by simp
theorem MZ {a b:Nat} (ha:a<256) (hb:b<256):bits .or .i64 (a:Int) (b:Int)=((a|||b:Nat):Int):=by
 have hab:a|||b<256:=Nat.or_lt_two_pow (n:=8) ha hb
 have e:(BitVec.ofInt IntKind.i64.bits (a:Int)|||BitVec.ofInt IntKind.i64.bits (b:Int)).toNat=a|||b:=by
  show (BitVec.ofInt 64 (a:Int)|||BitVec.ofInt 64 (b:Int)).toNat=a|||b
  rw [KK,KK,BitVec.toNat_or,BitVec.toNat_ofNat,BitVec.toNat_ofNat,Nat.mod_eq_of_lt (by omega),Nat.mod_eq_of_lt (by omega)]
 unfold bits ZD
 simp only [Option.getD_some]
 rw [e]
 exact Yy (by omega)
theorem Asy {a b:Nat} (ha:a<256) (hb:b<256):bits .and .i64 (a:Int) (b:Int)=((a&&&b:Nat):Int):=by
 have hab:a&&&b<=a:=Nat.and_le_left
 have e:(BitVec.ofInt IntKind.i64.bits (a:Int)&&&BitVec.ofInt IntKind.i64.bits (b:Int)).toNat=a&&&b:=by
  show (BitVec.ofInt 64 (a:Int)&&&BitVec.ofInt 64 (b:Int)).toNat=a&&&b
  rw [KK,KK,BitVec.toNat_and,BitVec.toNat_ofNat,BitVec.toNat_ofNat,Nat.mod_eq_of_lt (by omega),Nat.mod_eq_of_lt (by omega)]
 unfold bits ZD
 simp only [Option.getD_some]
 rw [e]
 exact Yy (by omega)
theorem Nz {y:Nat} (h:y<8):shl .i64 1 (y:Int)=((2 ^ y:Nat):Int):=by
 have:y=0\/y=1\/y=2\/y=3\/y=4\/y=5\/y=6\/y=7:=by omega
 rcases this with rfl | rfl | rfl | rfl | rfl | rfl | rfl | rfl<;>decide
theorem Ey {y:Nat} (h:y<8):2 ^ y<256:=by
 have:y=0\/y=1\/y=2\/y=3\/y=4\/y=5\/y=6\/y=7:=by omega
 rcases this with rfl | rfl | rfl | rfl | rfl | rfl | rfl | rfl<;>decide
theorem Xv {m y:Nat} (h:y<8):shr .i64 (m:Int) (y:Int)=((m>>>y:Nat):Int):=by
 unfold shr
 have e:min (y:Int).toNat IntKind.i64.bits=y:=by
  show min (y:Int).toNat 64=y
  rw [Int.toNat_natCast]
  omega
 rw [e,Nat.shiftRight_eq_div_pow,Int.fdiv_eq_ediv_of_nonneg _ (by
  have:=Nat.two_pow_pos y
  exact_mod_cast Nat.zero_le (2 ^ y))]
 norm_cast
theorem VV {m y:Nat} (hm:m<256) (h:y<8):(bits .and .i64 (shr .i64 (m:Int) (y:Int)) 1==(1:Int))=m.testBit y:=by
 have h1:m>>>y<256:=by
  rw [Nat.shiftRight_eq_div_pow]
  exact Nat.lt_of_le_of_lt (Nat.div_le_self _ _) hm
 rw [Xv h]
 have:=Asy h1 (show 1<256 by omega)
 rw [show ((1:Nat):Int)=1 from rfl] at this
 rw [this,Nat.testBit_eq_decide_div_mod_eq,Nat.shiftRight_eq_div_pow,Nat.and_one_is_mod]
 have:m / 2 ^ y % 2=0\/m / 2 ^ y % 2=1:=by omega
 rcases this with h | h<;>simp [h]
def okN (n:Nat) (ms:List Nat):Prop:=ms.length=n /\ ∀x,ms.getD x 0<256
theorem NK (n:Nat):okN n (List.replicate n 0):=by
 refine ⟨by simp,fun x => ?_⟩
 simp only [AGm,List.getElem?_replicate]
 split<;>simp
theorem G0 (ms:List Nat) (a x v:Nat) (h:a<ms.length):(ms.set a v).getD x 0=if x=a then v else ms.getD x 0:=by
 simp only [AGm,List.getElem?_set]
 by_cases e:x=a
 ·subst e;simp [h]
 ·simp [e,Ne.symm e]
theorem TH {n:Nat} {ms:List Nat} (h:okN n ms) {a b:Nat} (ha:a<n) (hb:b<8):okN n (orN ms a b):=by
 refine ⟨by simp [orN,h.1],fun x => ?_⟩
 unfold orN
 rw [G0 _ _ _ _ (by rw [h.1];exact ha)]
 split
 ·exact Nat.or_lt_two_pow (n:=8) (h.2 a) (Ey hb)
 ·exact h.2 x
theorem Aib {n:Nat} {ms:List Nat} (h:okN n ms) {a b:Nat} (ha:a<n) (x y:Nat):((orN ms a b).getD x 0).testBit y=((ms.getD x 0).testBit y||(decide (x=a)&&decide (y=b))):=by
 unfold orN
 rw [G0 _ _ _ _ (by rw [h.1];exact ha)]
 by_cases e:x=a
 ·subst e
  simp only [if_true,Nat.testBit_or,Nat.testBit_two_pow,decide_true,Bool.true_and]
  congr 1
  by_cases e:y=b
  ·simp [e]
  ·simp [e,Ne.symm e]
 ·simp [e]
theorem EF {n:Nat} {e:E} (h:BD (n:Int) e=true):e.1.toNat<e.2.1.toNat/\e.2.1.toNat<n/\e.1=(e.1.toNat:Int)/\e.2.1=(e.2.1.toNat:Int):=by
 unfold BD at h
 simp only [AGc,decide_eq_true_eq] at h
 omega
theorem Ws {n:Nat} {ms:List Nat} (hn:n<=8) (h:okN n ms) {e:E} (he:BD (n:Int) e=true):okN n (Rz ms e):=by
 obtain ⟨h1,h2,_,_⟩:=EF he
 exact TH (TH h (by omega) (by omega)) h2 (by omega)
def isE (e:E) (x y:Nat):Bool:=(decide (x=e.1.toNat)&&decide (y=e.2.1.toNat))||(decide (x=e.2.1.toNat)&&decide (y=e.1.toNat))
theorem Yl {n:Nat} (hn:n<=8):∀(es:List E) (ms:List Nat),okN n ms->es.all (BD (n:Int))=true->okN n (es.foldl Rz ms) /\ ∀x y,((es.foldl Rz ms).getD x 0).testBit y=((ms.getD x 0).testBit y||es.any (fun e=>isE e x y)):=by
 intro es
 induction es with
 | nil=>intro ms h _;exact ⟨h,fun x y=>by simp⟩
 | cons e es ih=>
  intro ms h he
  simp only [List.all_cons,AGc] at he
  obtain ⟨h1,h2,_,_⟩:=EF he.1
  obtain ⟨k1,k2⟩:=ih (Rz ms e) (Ws hn h he.1) he.2
  refine ⟨k1,fun x y => ?_⟩
  rw [List.foldl_cons,k2 x y]
  unfold Rz
  rw [Aib (TH h (show e.1.toNat<n by omega) (by omega)) h2,Aib h (show e.1.toNat<n by omega)]
  simp only [List.any_cons,isE,Bool.or_assoc]
theorem SF {n:Nat} (hn:n<=8) {es:List E} (h:es.all (BD (n:Int))=true):okN n (Er n es):=(Yl hn es _ (NK n) h).1
theorem Kr {n:Nat} (hn:n<=8) {es:List E} (h:es.all (BD (n:Int))=true) (x y:Nat):Rk (Er n es) x y=es.any (fun e=>isE e x y):=by
 unfold Rk Er
 rw [(Yl hn es _ (NK n) h).2 x y]
 have:((List.replicate n 0).getD x 0).testBit y=false:=by
  simp only [AGm,List.getElem?_replicate]
  split<;>simp
 rw [this,Bool.false_or]
theorem Q0 {a b c:E} (h1:Ch a b=true) (h2:Ch b c=true):Ch a c=true:=by
 simp only [Ch,Bool.or_eq_true,AGc,decide_eq_true_eq] at h1 h2 |-
 omega
theorem Qs (a:E):Ch a a=false:=by simp [Ch]
theorem YO:∀{l:List E},C0 l=true->l.Pairwise fun a b=>Ch a b=true:=by
 intro l
 induction l with
 | nil=>intro _;exact .nil
 | cons a l ih=>
  intro h
  cases l with
  | nil=>simp
  | cons b l=>
   simp only [C0,AGc] at h
   have:=ih h.2
   rw [List.pairwise_cons] at this |-
   refine ⟨fun c hc => ?_,by rw [List.pairwise_cons];exact this⟩
   rcases List.mem_cons.1 hc with rfl | hc
   ·exact h.1
   ·exact Q0 h.1 (this.1 c hc)
theorem Age:∀{l m:List E},(l.Pairwise fun a b=>Ch a b=true)->(m.Pairwise fun a b=>Ch a b=true)->(∀x,x∈l↔x∈m)->l=m:=by
 intro l
 induction l with
 | nil=>
  intro m _ _ h
  cases m with
  | nil=>rfl
  | cons b m=>exact absurd ((h b).2 (by simp)) (by simp)
 | cons a l ih=>
  intro m hl hm h
  cases m with
  | nil=>exact absurd ((h a).1 (by simp)) (by simp)
  | cons b m=>
   rw [List.pairwise_cons] at hl hm
   have e:a=b:=by
    rcases List.mem_cons.1 ((h a).1 (by simp)) with e | ha
    ·exact e
    rcases List.mem_cons.1 ((h b).2 (by simp)) with e | hb
    ·exact e.symm
    have:=Q0 (hl.1 b hb) (hm.1 a ha)
    rw [Qs] at this
    cases this
   subst e
   congr 1
   refine ih hl.2 hm.2 fun x=>⟨fun hx => ?_,fun hx => ?_⟩
   ·rcases List.mem_cons.1 ((h x).1 (by simp [hx])) with e | hx'
    ·subst e
     have:=hl.1 x hx
     rw [Qs] at this
     cases this
    ·exact hx'
   ·rcases List.mem_cons.1 ((h x).2 (by simp [hx])) with e | hx'
    ·subst e
     have:=hm.1 x hx
     rw [Qs] at this
     cases this
    ·exact hx'
theorem Te {p:Nat->Nat->Bool} {x:Nat}:∀{m y:Nat} {e:E},e∈Ho p x m y ↔ ∃z,y<=z/\z<y+m/\p x z=true/\e=((x:Int),(z:Int),()):=by
 intro m
 induction m with
 | zero=>intro y e;simp only [Ho,List.not_mem_nil,false_iff];rintro ⟨z,h1,h2,_⟩;omega
 | succ m ih=>
  intro y e
  unfold Ho
  by_cases h:p x y=true
  ·simp only [h,if_true,List.mem_cons,ih]
   constructor
   ·rintro (rfl | ⟨z,h1,h2,h3,h4⟩)
    ·exact ⟨y,AGf _,by omega,h,rfl⟩
    ·exact ⟨z,by omega,by omega,h3,h4⟩
   ·rintro ⟨z,h1,h2,h3,h4⟩
    by_cases e:z=y
    ·subst e;exact .inl h4
    ·exact .inr ⟨z,by omega,by omega,h3,h4⟩
  ·rw [if_neg h,ih]
   constructor
   ·rintro ⟨z,h1,h2,h3,h4⟩
    exact ⟨z,by omega,by omega,h3,h4⟩
   ·rintro ⟨z,h1,h2,h3,h4⟩
    by_cases e:z=y
    ·subst e;exact absurd h3 h
    ·exact ⟨z,by omega,by omega,h3,h4⟩
theorem Al2 {p:Nat->Nat->Bool} {x:Nat}:∀{m y:Nat},(Ho p x m y).Pairwise fun a b=>Ch a b=true:=by
 intro m
 induction m with
 | zero=>intro y;exact .nil
 | succ m ih=>
  intro y
  unfold Ho
  split
  ·rw [List.pairwise_cons]
   refine ⟨fun b hb => ?_,ih⟩
   obtain ⟨z,h1,h2,h3,rfl⟩:=Te.1 hb
   simp [Ch]
   omega
  ·exact ih
theorem Y6 {p:Nat->Nat->Bool} {n:Nat}:∀{m x:Nat} {e:E},e∈S8 p n m x ↔ ∃u z,x<=u/\u<x+m/\u<z/\z<n/\p u z=true/\e=((u:Int),(z:Int),()):=by
 intro m
 induction m with
 | zero=>intro x e;simp only [S8,List.not_mem_nil,false_iff];rintro ⟨u,z,h1,h2,_⟩;omega
 | succ m ih=>
  intro x e
  simp only [S8,List.mem_append,Te,ih]
  constructor
  ·rintro (⟨z,h1,h2,h3,h4⟩ | ⟨u,z,h1,h2,h3,h4,h5,h6⟩)
   ·exact ⟨x,z,AGf _,by omega,by omega,by omega,h3,h4⟩
   ·exact ⟨u,z,by omega,by omega,h3,h4,h5,h6⟩
  ·rintro ⟨u,z,h1,h2,h3,h4,h5,h6⟩
   by_cases e:u=x
   ·subst e;exact .inl ⟨z,by omega,by omega,h5,h6⟩
   ·exact .inr ⟨u,z,by omega,by omega,h3,h4,h5,h6⟩
theorem Ao5 {p:Nat->Nat->Bool} {n:Nat}:∀{m x:Nat},(S8 p n m x).Pairwise fun a b=>Ch a b=true:=by
 intro m
 induction m with
 | zero=>intro x;exact .nil
 | succ m ih=>
  intro x
  simp only [S8]
  rw [List.pairwise_append]
  refine ⟨Al2,ih,fun a ha b hb => ?_⟩
  obtain ⟨z,_,_,_,rfl⟩:=Te.1 ha
  obtain ⟨u,z',h1,_,_,_,_,rfl⟩:=Y6.1 hb
  simp [Ch]
  omega
theorem Are {n:Nat} (hn:n<=8) {es:List E} (h:es.all (BD (n:Int))=true) (hp:es.Pairwise fun a b=>Ch a b=true):S8 (Rk (Er n es)) n n 0=es:=by
 refine Age Ao5 hp fun e => ?_
 rw [Y6]
 constructor
 ·rintro ⟨u,z,_,h2,h3,h4,h5,rfl⟩
  rw [Kr hn h] at h5
  obtain ⟨e,he,h6⟩:=List.any_eq_true.1 h5
  obtain ⟨k1,k2,k3,k4⟩:=EF (List.all_eq_true.1 h e he)
  simp only [isE,Bool.or_eq_true,AGc,decide_eq_true_eq] at h6
  rcases h6 with ⟨rfl,rfl⟩ | ⟨h6,h7⟩
  ·rw [<- k3,<- k4]
   exact he
  ·omega
 ·intro he
  obtain ⟨k1,k2,k3,k4⟩:=EF (List.all_eq_true.1 h e he)
  refine ⟨e.1.toNat,e.2.1.toNat,Nat.zero_le _,by omega,k1,k2,?_,by rw [<- k3,<- k4]⟩
  rw [Kr hn h]
  exact List.any_eq_true.2 ⟨e,he,by simp [isE]⟩
theorem YZ:∀(es:List E) (ts:List (List Int)) (r:Int),(Hz es ts r).Sublist es:=by
 intro es
 induction es with
 | nil=>intro ts r;cases ts<;>simp [Hz]
 | cons e es ih=>
  intro ts r
  cases ts with
  | nil=>simp [Hz]
  | cons t ts=>
   simp only [Hz]
   split
   ·exact (ih ts r).cons_cons e
   ·exact (ih ts r).cons e
theorem YR (ms:List Nat):DS (toI ms)=ms:=by
 unfold DS toI
 rw [List.map_map]
 exact List.map_id' _
theorem VI (ms:List Nat) (x:Nat):at_ (.int .i64) (toI ms) x=((ms.getD x 0:Nat):Int):=by
 unfold at_ toI
 simp only [AGm,List.getElem?_map]
 cases ms[x]?<;>rfl
theorem Se (ms:List Nat) (x v:Nat):List.set (toI ms) x (v:Int)=toI (ms.set x v):=by
 simp [toI,List.map_set]
theorem Ha (ms:List Nat):(toI ms).length=ms.length:=by simp [toI]
end Go.V.W
namespace Go.V
/-- Every order is good if each operation, when it may come up, keeps what is held of the listed ones. -/
theorem Ajp {P:Program} {Q:Exit->Act->World->Prop} {ops:Array Oper} {Φ:(Nat->Bool)->Act->World->Prop} (back:∀(i:Nat) o,ops[i]? = some o -> ∀e∈o.after,Region.binds .any e=true->e.on<i)
    (hdone:∀L a w,(∀i,i<ops.size->L i=true)->Φ L a w->Q .normal a w)
    (hstep:∀L a w j o,ops[j]? = some o->L j=false->JZ ops L->(∀e∈o.after,Region.binds .any e=true->L e.on=true)->Φ L a w->o.guard=none /\ ∀K:Act->World->Prop,(∀a' w',Φ (fun i=>L i||decide (i=j)) a' w'->K a' w')->o.wp P a w K Q) :
    ∀(fuel:Nat) (listed:Array Bool) (a:Act) (w:World),listed.size=ops.size->listed.toList.count false=fuel->JZ ops (fun i=>listed.getD i false)->Φ (fun i=>listed.getD i false) a w->wpAny P .any ops Q fuel listed a w:=by
  have hready:∀(listed:Array Bool),listed.size=ops.size->Region.ready .any ops listed=[] -> ∀i,i<ops.size->listed.getD i false=true:=by
    intro listed hsz hr
    have key:∀m i,i<m->i<ops.size->listed.getD i false=true:=by
      intro m
      induction m with
      | zero=>intro i hi;omega
      | succ m ih=>
        intro i hi hlt
        by_cases him:i<m
        · exact ih i him hlt
        · cases hl:listed.getD i false with
          | true=>rfl
          | false=>
            exfalso
            have ho':ops[i]? = some ops[i]:=by simp [hlt]
            have:i∈Region.ready .any ops listed:=by
              rw [mem_ready]
              have hl2:i<listed.size:=by omega
              refine ⟨?_,_,ho',fun e he hb=>ih e.on ?_ ?_⟩
              · simp only [Array.getD,hl2,dif_pos] at hl |-;exact hl
              · have:=back i _ ho' e he hb;omega
              · have:=back i _ ho' e he hb;omega
            rw [hr] at this
            simp at this
    exact fun i hi=>key (i+1) i (by omega) hi
  intro fuel
  induction fuel with
  | zero=>
    intro listed a w hsz hc hL hi
    have hall:∀i,i<ops.size->listed.getD i false=true:=by
      intro i hlt
      have hlt':i<listed.size:=by omega
      rw [List.count_eq_zero] at hc
      cases hb:listed.getD i false with
      | true=>rfl
      | false=>
        exfalso
        apply hc
        simp only [Array.getD,hlt',dif_pos] at hb
        rw [<- hb]
        exact Array.getElem_mem_toList hlt'
    refine ⟨?_,hdone _ a w hall hi⟩
    apply List.eq_nil_iff_forall_not_mem.2
    intro i hm
    rw [mem_ready] at hm
    obtain ⟨h1,o,h2,_⟩:=hm
    have hlt:=(Array.getElem?_eq_some_iff.1 h2).1
    have:=hall i hlt
    have hlt':i<listed.size:=by omega
    simp only [Array.getD,hlt',dif_pos] at h1 this
    rw [this] at h1
    cases h1
  | succ fuel ih=>
    intro listed a w hsz hc hL hi
    refine ⟨fun hr=>hdone _ a w (hready listed hsz hr) hi,fun j hj => ?_⟩
    rw [mem_ready] at hj
    obtain ⟨h1,o,ho,hr⟩:=hj
    have hlt:=(Array.getElem?_eq_some_iff.1 ho).1
    have hlt':j<listed.size:=by omega
    have hjf:listed.getD j false=false:=by simp only [Array.getD,hlt',dif_pos] at h1 |-;exact h1
    obtain ⟨hg,hs⟩:=hstep _ a w j o ho hjf hL hr hi
    unfold wpOp
    rw [ho]
    simp only [Region.wanted,hg,if_true]
    refine .inl (hs _ fun a' w' hi'=>ih (listed.setIfInBounds j true) a' w' (by simpa using hsz) ?_ ?_ ?_)
    · have hlj:listed[j]=false:=by simp only [Array.getD,hlt',dif_pos] at hjf;exact hjf
      rw [Array.toList_setIfInBounds,List.count_set (by simpa using hlt')]
      simp [hlj,hc]
    · intro i o' ho' hli e he hb
      simp only [G0 hlt',Bool.or_eq_true,decide_eq_true_eq] at hli |-
      rcases hli with hli | hli
      · exact .inl (hL i o' ho' hli e he hb)
      · subst hli
        rw [ho] at ho'
        injection ho' with ho'
        subst ho'
        exact .inl (hr e he hb)
    · have e:(fun i=>(listed.setIfInBounds j true).getD i false)=fun i=>listed.getD i false||decide (i=j):=by
        funext i
        exact G0 hlt'
      rw [e]
      exact hi'
theorem ZS {P:Program} {Q:Exit->Act->World->Prop} {ops:Array Oper} {rid:Nat} {a:Act} {w:World} (Φ:(Nat->Bool)->Act->World->Prop) (hm:P.follows .mixedOrders=true) (back:∀(i:Nat) o,ops[i]? = some o -> ∀e∈o.after,Region.binds .any e=true->e.on<i)
    (hdone:∀L a w,(∀i,i<ops.size->L i=true)->Φ L a w->Q .normal a w)
    (hstep:∀L a w j o,ops[j]? = some o->L j=false->JZ ops L->(∀e∈o.after,Region.binds .any e=true->L e.on=true)->Φ L a w->o.guard=none /\ ∀K:Act->World->Prop,(∀a' w',Φ (fun i=>L i||decide (i=j)) a' w'->K a' w')->o.wp P a w K Q)
    (h0:Φ (fun _=>false) a { w with drawn:=w.drawn+1 }):(Code.region rid ops true).wp P Q a w:=by
  refine wp_region_any hm ?_
  have e2:(fun i=>(Array.replicate ops.size false).getD i false)=fun _=>false:=by
    funext i
    simp only [Array.getD_eq_getD_getElem?]
    by_cases hj:i<ops.size
    · simp [hj]
    · simp [hj]
  refine Ajp back hdone hstep ops.size _ a _ (by simp) (by simp) (fun j o ho hl => ?_) (by rw [e2];exact h0)
  rw [e2] at hl
  cases hl
end Go.V
namespace Go.V.W
open Go.Proofs Go.RowKit
def Rc (id:Nat):Code->Option (Array Oper)
  | .region i ops _=>if i=id then some ops else none
  | .seq a b=>(Rc id a).or (Rc id b)
  | .cond _ a b=>(Rc id a).or (Rc id b)
  | .block _ c=>Rc id c
  | .loop c=>Rc id c
  | .scope c=>Rc id c
  | _=>none
def NI:Array Oper:=(Rc 9 (Ap Tryz.f191)).getD #[]
def dof (j:Nat):Option (Option Tmp×Op×Option (Nat×Bool)):=(NI[j]?).map fun o=>(o.dst,o.op,o.guard)
theorem AGa:dof 0=some (some 38,.move (.tmp 8),none):=by kernel_rfl
theorem AF3:dof 1=some (some 39,.move (.tmp 7),none):=by kernel_rfl
theorem AFx:dof 2=some (some 40,.move (.tmp 8),none):=by kernel_rfl
theorem AFt:dof 3=some (some 41,.slice 36 (.tmp 39) (some (.tmp 40)) none none,none):=by kernel_rfl
theorem AF0:dof 4=some (some 42,.move (.tmp 7),none):=by kernel_rfl
theorem AFw:dof 5=some (some 43,.move (.tmp 8),none):=by kernel_rfl
theorem AFm:dof 6=some (some 44,.slice 36 (.tmp 42) none (some (.tmp 43)) none,none):=by kernel_rfl
theorem AF7:dof 7=some (some 45,.call { callee:=.builtin .copy,args := #[.tmp 41,.tmp 44],argTypes := #[36,36] },none):=by kernel_rfl
theorem AFu:dof 8=some (some 46,.binOp .add 3 (.tmp 38) (.tmp 45) 3,none):=by kernel_rfl
theorem AFv:dof 9=some (some 8,.assign (.tmp 46),none):=by kernel_rfl
theorem Ahn:NI.size=10:=by kernel_rfl
def Azk (ops:Array Oper):Bool:=(List.range ops.size).all fun i=>((ops[i]?).map fun o=>o.after.toList.all fun e => !Region.binds .any e||decide (e.on<i)).getD true
theorem AAk:Azk NI=true:=by kernel_rfl
theorem AEw:∀(i:Nat) o,NI[i]? = some o -> ∀e∈o.after,Region.binds .any e=true->e.on<i:=by
  intro i o ho e he hb
  have h:=AAk
  unfold Azk at h
  rw [List.all_eq_true] at h
  have hi:=(Array.getElem?_eq_some_iff.1 ho).1
  have h1:=h i (List.mem_range.2 hi)
  rw [ho] at h1
  simp only [Option.map_some,Option.getD_some,List.all_eq_true] at h1
  have h2:=h1 e (Array.mem_toList_iff.2 he)
  rw [hb] at h2
  simpa using h2
def Awm (i j:Nat):Bool:=((NI[i]?).map fun o=>o.after.toList.any fun e=>Region.binds .any e&&e.on==j).getD false
theorem Aim {i j:Nat} (h:Awm i j=true) {o:Oper} (ho:NI[i]? = some o):∃e∈o.after,Region.binds .any e=true/\e.on=j:=by
  unfold Awm at h
  rw [ho] at h
  simp only [Option.map_some,Option.getD_some,List.any_eq_true,AGc,beq_iff_eq] at h
  obtain ⟨e,he,h1,h2⟩:=h
  exact ⟨e,Array.mem_toList_iff.1 he,h1,h2⟩
theorem Ags {L:Nat->Bool} (hL:JZ NI L) {i j:Nat} (h:Awm i j=true) (hi:i<10) (h1:L i=true):L j=true:=by
  have hs:=Ahn
  have hlt:i<NI.size:=by omega
  have ho:NI[i]? = some NI[i]:=Array.getElem?_eq_getElem hlt
  obtain ⟨e,he,hb,rfl⟩:=Aim h ho
  exact hL i _ ho h1 e he hb
theorem rdy {L:Nat->Bool} {i j:Nat} {o:Oper} (h:Awm i j=true) (ho:NI[i]? = some o) (hr:∀e∈o.after,Region.binds .any e=true->L e.on=true):L j=true:=by
  obtain ⟨e,he,hb,rfl⟩:=Aim h ho
  exact hr e he hb
def val (a0 F:Nat->Value) (L:Nat->Bool) (t:Nat):Value:=if t=8 then (if L 9=true then F 9 else a0 8) else if 38<=t/\t<=46 then (if L (t-38)=true then F (t-38) else a0 t) else a0 t
def Asl (j:Nat):Nat:=if j=9 then 8 else 38+j
theorem App (a0 F:Nat->Value) (L:Nat->Bool) {j:Nat} (hj:j<=9) (t:Nat):(if t=Asl j then F j else val a0 F L t)=val a0 F (fun i=>L i||decide (i=j)) t:=by
  unfold val Asl
  by_cases e9:j=9
  · subst e9
    simp only [if_true]
    by_cases et:t=8
    · simp [et]
    · simp only [et,if_false]
      by_cases er:38<=t/\t<=46
      · have:¬t-38=9:=by omega
        simp [er,this]
      · simp [er]
  · simp only [e9,if_false]
    by_cases et:t=8
    · subst et
      have h1:¬8=38+j:=by omega
      have h2:¬(9=j):=fun h=>e9 h.symm
      simp [h1,h2]
    · simp only [et,if_false]
      by_cases er:38<=t/\t<=46
      · simp only [er,and_self,if_true]
        by_cases ej:t=38+j
        · subst ej
          simp
        · have:¬t-38=j:=by omega
          simp [ej,this]
      · have:¬t=38+j:=by omega
        simp [er,this]
def NC (n m:Nat) (x z:Value):List Value:=List.replicate m x++List.replicate (n-m) z
theorem YG {n m c:Nat} {x z:Value} (h:m+c<=n):(NC n m x z).take m++List.replicate c x++(NC n m x z).drop (m+c)=NC n (m+c) x z:=by
  unfold NC
  have e1:(List.replicate m x++List.replicate (n-m) z).take m=List.replicate m x:=by simp
  have e2:(List.replicate m x++List.replicate (n-m) z).drop (m+c)=List.replicate (n-(m+c)) z:=by
    rw [List.drop_append]
    simp
    omega
  rw [e1,e2,<- List.replicate_append_replicate]
theorem Awf {w:World} {g:Nat} {L:List Value} {T:TypeId} (h:w.heap[g]? = some (.cells L.toArray T (0,0))):∀j v,L[j]? = some v->w.cell? ((⟨g,0,none⟩:Addr).add j)=some v:=by
  intro j v hj
  by_cases e:j=0
  · subst e
    simp [World.cell?,Addr.add,h,hj]
  · simp [World.cell?,Addr.add,h,hj,e]
theorem Eg (a:Act) (t:Nat):a.eval (.tmp t)=a.tmps.getD t undef:=rfl
theorem Asg {a:Act} {d t:Nat} {v:Value} (hd:d<a.tmps.size):(a.put (some d) v).tmps.getD t undef=if t=d then v else a.tmps.getD t undef:=by
  unfold Act.put
  by_cases e:t=d
  · subst e
    simp [Array.getD_eq_getD_getElem?,hd]
  · have e':d≠t:=fun h=>e h.symm
    simp [Array.getD_eq_getD_getElem?,Array.getElem?_setIfInBounds_ne e',e]
/-- What is held of the listed operations. -/
structure Phi (a0 F:Nat->Value) (df:List Deferred) (sz g n m c B:Nat) (x z:Value) (T:TypeId) (w0:World) (L:Nat->Bool) (a:Act) (w:World):Prop where
  size:a.tmps.size=sz
  defers:a.defers=df
  tmps:∀t,a.tmps.getD t undef=val a0 F L t
  row:w.heap[g]? = some (.cells (NC n (if L 7=true then m+c else m) x z).toArray T (0,0))
  below:Below B w0 w
theorem Hj {j:Nat} {d:Option Tmp} {p:Op} {gd:Option (Nat×Bool)} (h:dof j=some (d,p,gd)) {o:Oper} (ho:NI[j]? = some o):o.dst=d/\o.op=p/\o.guard=gd:=by
  unfold dof at h
  rw [ho] at h
  simp only [Option.map_some,AGd,Prod.mk.injEq] at h
  exact h
theorem Phi.fin {P:Program} {Q:Exit->Act->World->Prop} {a0 F:Nat->Value} {df:List Deferred} {g n m c B:Nat} {x z:Value} {T:TypeId} {w0 w w':World} {L:Nat->Bool} {a:Act} (h:Phi a0 F df 48 g n m c B x z T w0 L a w) {j:Nat} (hj:j<=9) {o:Oper} (hd:o.dst=some (Asl j))
    (hrun:(execOp a.eval o).run P w=.ok (.value (F j)) w') (hrow:w'.heap[g]? = some (.cells (NC n (if (L 7||decide (7=j))=true then m+c else m) x z).toArray T (0,0))) (hB:Below B w0 w')
    (K:Act->World->Prop) (hK:∀a' w',Phi a0 F df 48 g n m c B x z T w0 (fun i=>L i||decide (i=j)) a' w'->K a' w'):o.wp P a w K Q:=by
  refine Kv hrun (hK _ _ ⟨?_,?_,fun t => ?_,hrow,hB⟩)
  · rw [hd]
    simp [Act.put,h.size]
  · rw [hd]
    exact h.defers
  · rw [hd,Asg (by rw [h.size];unfold Asl;split<;>omega),h.tmps t]
    exact App a0 F L hj t
theorem Phi.fin0 {P:Program} {Q:Exit->Act->World->Prop} {a0 F:Nat->Value} {df:List Deferred} {g n m c B:Nat} {x z:Value} {T:TypeId} {w0 w:World} {L:Nat->Bool} {a:Act} (h:Phi a0 F df 48 g n m c B x z T w0 L a w) {j:Nat} (hj:j<=9) (hj7:7≠j) {o:Oper} (hd:o.dst=some (Asl j))
    (hrun:(execOp a.eval o).run P w=.ok (.value (F j)) w)
    (K:Act->World->Prop) (hK:∀a' w',Phi a0 F df 48 g n m c B x z T w0 (fun i=>L i||decide (i=j)) a' w'->K a' w'):o.wp P a w K Q:=by
  refine h.fin hj hd hrun ?_ h.below K hK
  have:(L 7||decide (7=j))=L 7:=by simp [hj7]
  rw [this]
  exact h.row
def Fv (g n m c:Nat):Nat->Value
  | 0=>.int .i64 (m:Int)
  | 1=>.slice (some ⟨g,0,none⟩) n n
  | 2=>.int .i64 (m:Int)
  | 3=>.slice (some ⟨g,m,none⟩) (n-m) (n-m)
  | 4=>.slice (some ⟨g,0,none⟩) n n
  | 5=>.int .i64 (m:Int)
  | 6=>.slice (some ⟨g,0,none⟩) m n
  | 7=>.int .i64 (c:Int)
  | 8=>.int .i64 ((m+c:Nat):Int)
  | _=>.int .i64 ((m+c:Nat):Int)
theorem ACw {a0 F:Nat->Value} {L:Nat->Bool} (h:L 9=false):val a0 F L 8=a0 8:=by simp [val,h]
theorem AFb {a0 F:Nat->Value} {L:Nat->Bool}:val a0 F L 7=a0 7:=by simp [val]
theorem VP {a0 F:Nat->Value} {L:Nat->Bool} {j:Nat} (hj:j<=8) (h:L j=true):val a0 F L (38+j)=F j:=by
  unfold val
  have h1:¬38+j=8:=by omega
  have h2:38<=38+j/\38+j<=46:=by omega
  have h3:38+j-38=j:=by omega
  simp only [h1,if_false,h2,and_self,if_true,h3,h]
theorem sz3:(Tryz.prog.info? 3).map (·.size)=some 1:=by kernel_rfl
theorem Asf:Tryz.prog.elem 36=3:=by kernel_rfl
theorem Aii:Tryz.prog.underlying 36=some (.slice (Tryz.prog.elem 36)):=by kernel_rfl
theorem Auq {n m g:Nat} (w:World) (hmn:m<n):(Instr.sliceAt 36 (.slice (some ⟨g,0,none⟩) n n) (some (.int .i64 (m:Int))) none none).run Tryz.prog w=.ok (.slice (some ⟨g,m,none⟩) (n-m) (n-m)) w:=by
  have hs:=Tryz.sizeOf3 w
  have hne:¬n=m:=by omega
  rw [run_sliceAt_slice w 36 _ _ _ _ Aii,run_slice_l w 36 _ n n Aii .i64 (m:Int) (by omega) (by omega),Asf,hs]
  simp only [Result.andThen,sliced,Int.toNat_natCast,hne,if_false,Option.map_some,Addr.add,Nat.mul_one,Nat.zero_add]
  by_cases h0:m=0
  · subst h0
    simp
  · simp [h0]
theorem Aug {n m g:Nat} (w:World) (hmn:m<n):(Instr.sliceAt 36 (.slice (some ⟨g,0,none⟩) n n) none (some (.int .i64 (m:Int))) none).run Tryz.prog w=.ok (.slice (some ⟨g,0,none⟩) m n) w:=by
  have hs:=Tryz.sizeOf3 w
  have hne:¬n=0:=by omega
  rw [run_sliceAt_slice w 36 _ _ _ _ Aii,run_slice_h w 36 _ n n Aii .i64 (m:Int) (by omega) (by omega),Asf,hs]
  simp [Result.andThen,sliced,Addr.add]
theorem AF6 {Q:Exit->Act->World->Prop} {rid:Nat} {a:Act} {w w0:World} {g n m c B:Nat} {xi zi:Int} {T:TypeId} {a0:Nat->Value} (hsz:a.tmps.size=48) (ha0:∀t,a.tmps.getD t undef=a0 t) (h7:a0 7=.slice (some ⟨g,0,none⟩) n n) (h8:a0 8=.int .i64 (m:Int))
    (hm:1<=m) (hmn:m<n) (hn:n<=8) (hc:c=min m (n-m)) (hg:w.heap[g]? = some (.cells (NC n m (.int .i64 xi) (.int .i64 zi)).toArray T (0,0))) (hB:Below B w0 w) (hBg:B<=g)
    (hQ:∀a' w',Phi a0 (Fv g n m c) a.defers 48 g n m c B (.int .i64 xi) (.int .i64 zi) T w0 (fun _=>true) a' w'->Q .normal a' w'):(Code.region rid NI true).wp Tryz.prog Q a w:=by
  have h0:Phi a0 (Fv g n m c) a.defers 48 g n m c B (.int .i64 xi) (.int .i64 zi) T w0 (fun _=>false) a { w with drawn:=w.drawn+1 }:=
    ⟨hsz,rfl,fun t=>by rw [ha0 t];unfold val;by_cases e:t=8<;>simp [e],hg,⟨hB.os,hB.tape,hB.output,hB.size,hB.block⟩⟩
  refine ZS (Phi a0 (Fv g n m c) a.defers 48 g n m c B (.int .i64 xi) (.int .i64 zi) T w0) (by kernel_rfl) AEw (fun L a' w' hL h => ?_) (fun L a1 w1 j o ho hj hL hr h => ?_) h0
  · refine hQ a' w' ⟨h.size,h.defers,fun t => ?_,?_,h.below⟩
    · rw [h.tmps t]
      unfold val
      have:=Ahn
      have e9:L 9=true:=hL 9 (by omega)
      by_cases et:t=8
      · simp [et,e9]
      · by_cases er:38<=t/\t<=46
        · have:L (t-38)=true:=hL _ (by omega)
          simp [et,er,this]
        · simp [et,er]
    · have e7:L 7=true:=hL 7 (by have:=Ahn;omega)
      have:=h.row
      rw [e7] at this
      exact this
  · have hj10:j<10:=by
      have:=(Array.getElem?_eq_some_iff.1 ho).1
      have:=Ahn
      omega
    have l98:L 9=true->L 8=true:=Ags hL (by kernel_rfl) (by omega)
    have l80:L 8=true->L 0=true:=Ags hL (by kernel_rfl) (by omega)
    have l87:L 8=true->L 7=true:=Ags hL (by kernel_rfl) (by omega)
    have l73:L 7=true->L 3=true:=Ags hL (by kernel_rfl) (by omega)
    have l76:L 7=true->L 6=true:=Ags hL (by kernel_rfl) (by omega)
    have l32:L 3=true->L 2=true:=Ags hL (by kernel_rfl) (by omega)
    have l65:L 6=true->L 5=true:=Ags hL (by kernel_rfl) (by omega)
    have no9:(j=0\/j=2\/j=5)->L 9=false:=by
      intro hh
      cases h9:L 9 with
      | false=>rfl
      | true=>
        have e8:=l98 h9
        have e7:=l87 e8
        rcases hh with rfl | rfl | rfl
        · rw [l80 e8] at hj;cases hj
        · rw [l32 (l73 e7)] at hj;cases hj
        · rw [l65 (l76 e7)] at hj;cases hj
    have hcases:j=0\/j=1\/j=2\/j=3\/j=4\/j=5\/j=6\/j=7\/j=8\/j=9:=by omega
    rcases hcases with rfl | rfl | rfl | rfl | rfl | rfl | rfl | rfl | rfl | rfl
    · obtain ⟨d1,d2,d3⟩:=Hj AGa ho
      refine ⟨d3,h.fin0 (by omega) (by omega) d1 ?_⟩
      unfold execOp
      rw [d2]
      simp [Eg,h.tmps,ACw (no9 (by omega)),h8,Fv]
    · obtain ⟨d1,d2,d3⟩:=Hj AF3 ho
      refine ⟨d3,h.fin0 (by omega) (by omega) d1 ?_⟩
      unfold execOp
      rw [d2]
      simp [Eg,h.tmps,AFb,h7,Fv]
    · obtain ⟨d1,d2,d3⟩:=Hj AFx ho
      refine ⟨d3,h.fin0 (by omega) (by omega) d1 ?_⟩
      unfold execOp
      rw [d2]
      simp [Eg,h.tmps,ACw (no9 (by omega)),h8,Fv]
    · obtain ⟨d1,d2,d3⟩:=Hj AFt ho
      refine ⟨d3,h.fin0 (by omega) (by omega) d1 ?_⟩
      have r1:L 1=true:=rdy (by kernel_rfl) ho hr
      have r2:L 2=true:=rdy (by kernel_rfl) ho hr
      have e1:=VP (a0:=a0) (F:=Fv g n m c) (show 1<=8 by omega) r1
      have e2:=VP (a0:=a0) (F:=Fv g n m c) (show 2<=8 by omega) r2
      unfold execOp
      rw [d2]
      simp [Eg,h.tmps,e1,e2,Fv,Auq w1 hmn]
    · obtain ⟨d1,d2,d3⟩:=Hj AF0 ho
      refine ⟨d3,h.fin0 (by omega) (by omega) d1 ?_⟩
      unfold execOp
      rw [d2]
      simp [Eg,h.tmps,AFb,h7,Fv]
    · obtain ⟨d1,d2,d3⟩:=Hj AFw ho
      refine ⟨d3,h.fin0 (by omega) (by omega) d1 ?_⟩
      unfold execOp
      rw [d2]
      simp [Eg,h.tmps,ACw (no9 (by omega)),h8,Fv]
    · obtain ⟨d1,d2,d3⟩:=Hj AFm ho
      refine ⟨d3,h.fin0 (by omega) (by omega) d1 ?_⟩
      have r1:L 4=true:=rdy (by kernel_rfl) ho hr
      have r2:L 5=true:=rdy (by kernel_rfl) ho hr
      have e1:=VP (a0:=a0) (F:=Fv g n m c) (show 4<=8 by omega) r1
      have e2:=VP (a0:=a0) (F:=Fv g n m c) (show 5<=8 by omega) r2
      unfold execOp
      rw [d2]
      simp [Eg,h.tmps,e1,e2,Fv,Aug w1 hmn]
    · obtain ⟨d1,d2,d3⟩:=Hj AF7 ho
      refine ⟨d3,?_⟩
      have r1:L 3=true:=rdy (by kernel_rfl) ho hr
      have r2:L 6=true:=rdy (by kernel_rfl) ho hr
      have e1:=VP (a0:=a0) (F:=Fv g n m c) (show 3<=8 by omega) r1
      have e2:=VP (a0:=a0) (F:=Fv g n m c) (show 6<=8 by omega) r2
      have hrw:=h.row
      rw [hj] at hrw
      simp only [AGb,if_false] at hrw
      have hlen:(NC n m (.int .i64 xi) (.int .i64 zi)).length=n:=by unfold NC;simp;omega
      have hrun:=run_copy_row (P:=Tryz.prog) w1 36 36 o.type 3 g m (n-m) (n-m) ⟨g,0,none⟩ m n (NC n m (.int .i64 xi) (.int .i64 zi)).toArray T (List.replicate c (.int .i64 xi)) Tryz.underlying36 sz3 hrw (by simp only [List.length_replicate];exact hc) (fun j v hv=>by
        refine Awf hrw j v ?_
        have hjc:j<c:=by
          rcases Nat.lt_or_ge j c with h' | h'
          · exact h'
          · rw [List.getElem?_eq_none (by simpa using h')] at hv;cases hv
        unfold NC
        rw [List.getElem?_append_left (by simp;omega)]
        rw [List.getElem?_replicate] at hv |-
        rw [if_pos hjc] at hv
        rw [if_pos (by omega)]
        exact hv) (by simp [hlen];omega) (by intro v hv;rw [List.eq_of_mem_replicate hv];rfl)
      simp only [List.length_replicate,YG (show m+c<=n by omega)] at hrun
      refine h.fin (by omega) d1 (w':=w1.setRow g (NC n (m+c) (.int .i64 xi) (.int .i64 zi)).toArray) ?_ ?_ (below_setRow h.below hBg _)
      · unfold execOp
        rw [d2]
        simp only [resolve,invoke,builtin,Sem.run_bind,Sem.run_pure,Result.andThen_ok,List.map_toArray,List.map_cons,List.map_nil,Eg,h.tmps,e1,e2]
        show (Result.andThen (Sem.run Tryz.prog (Builtin.copy_ #[36,36] o.type #[.slice (some ⟨g,m,none⟩) (n-m) (n-m),.slice (some ⟨g,0,none⟩) m n]) w1) _)=_
        rw [hrun]
        rfl
      · simp only [decide_true,Bool.or_true,if_true]
        exact setRow_heap w1 g _ _ T _ hrw
    · obtain ⟨d1,d2,d3⟩:=Hj AFu ho
      refine ⟨d3,h.fin0 (by omega) (by omega) d1 ?_⟩
      have r1:L 0=true:=rdy (by kernel_rfl) ho hr
      have r2:L 7=true:=rdy (by kernel_rfl) ho hr
      have e1:=VP (a0:=a0) (F:=Fv g n m c) (show 0<=8 by omega) r1
      have e2:=VP (a0:=a0) (F:=Fv g n m c) (show 7<=8 by omega) r2
      unfold execOp
      rw [d2]
      have hw:IntKind.wrap .i64 ((m:Int)+(c:Int))=((m+c:Nat):Int):=by
        rw [Go.IntWalk.i64_in _ (by omega)]
        omega
      have hw':IntKind.wrap .i64 ((m:Int)+(c:Int))=(m:Int)+(c:Int):=by
        rw [hw]
        omega
      simp [Eg,h.tmps,e1,e2,Fv,binOp,Op.intArith,A9,hw']
    · obtain ⟨d1,d2,d3⟩:=Hj AFv ho
      refine ⟨d3,h.fin0 (by omega) (by omega) d1 ?_⟩
      have r1:L 8=true:=rdy (by kernel_rfl) ho hr
      have e1:=VP (a0:=a0) (F:=Fv g n m c) (show 8<=8 by omega) r1
      unfold execOp
      rw [d2]
      simp [Eg,h.tmps,e1,Fv]
theorem AEl {A:Array Value} (h:A.size=48) {f:Nat->Value} (hf:∀t,A.getD t undef=f t):A = #[f 0,f 1,f 2,f 3,f 4,f 5,f 6,f 7,f 8,f 9,f 10,f 11,f 12,f 13,f 14,f 15,f 16,f 17,f 18,f 19,f 20,f 21,f 22,f 23,f 24,f 25,f 26,f 27,f 28,f 29,f 30,f 31,f 32,f 33,f 34,f 35,f 36,f 37,f 38,f 39,f 40,f 41,f 42,f 43,f 44,f 45,f 46,f 47]:=by
  apply Array.ext
  · simp [h]
  · intro i h1 h2
    have e:=hf i
    rw [Array.getD_eq_getD_getElem?,Array.getElem?_eq_getElem h1] at e
    simp only [Option.getD_some] at e
    rw [e]
    simp only [List.size_toArray,List.length_cons,List.length_nil] at h2
    match i,h2 with
    | 0,_=>rfl
    | 1,_=>rfl
    | 2,_=>rfl
    | 3,_=>rfl
    | 4,_=>rfl
    | 5,_=>rfl
    | 6,_=>rfl
    | 7,_=>rfl
    | 8,_=>rfl
    | 9,_=>rfl
    | 10,_=>rfl
    | 11,_=>rfl
    | 12,_=>rfl
    | 13,_=>rfl
    | 14,_=>rfl
    | 15,_=>rfl
    | 16,_=>rfl
    | 17,_=>rfl
    | 18,_=>rfl
    | 19,_=>rfl
    | 20,_=>rfl
    | 21,_=>rfl
    | 22,_=>rfl
    | 23,_=>rfl
    | 24,_=>rfl
    | 25,_=>rfl
    | 26,_=>rfl
    | 27,_=>rfl
    | 28,_=>rfl
    | 29,_=>rfl
    | 30,_=>rfl
    | 31,_=>rfl
    | 32,_=>rfl
    | 33,_=>rfl
    | 34,_=>rfl
    | 35,_=>rfl
    | 36,_=>rfl
    | 37,_=>rfl
    | 38,_=>rfl
    | 39,_=>rfl
    | 40,_=>rfl
    | 41,_=>rfl
    | 42,_=>rfl
    | 43,_=>rfl
    | 44,_=>rfl
    | 45,_=>rfl
    | 46,_=>rfl
    | 47,_=>rfl
    | k+48,h2=>exact absurd h2 (by simp)
theorem FD {Q:Exit->Act->World->Prop} {rid:Nat} {ops:Array Oper} (hops:ops=NI) {A:Array Value} {df:List Deferred} {w w0:World} {g n m c B:Nat} {xi zi:Int} {T:TypeId} {L L':List Value} (a0:Nat->Value) (hsz:A.size=48) (ha0:∀t,A.getD t undef=a0 t) (h7:a0 7=.slice (some ⟨g,0,none⟩) n n) (h8:a0 8=.int .i64 (m:Int))
    (hm:1<=m) (hmn:m<n) (hn:n<=8) (hc:c=min m (n-m)) (hL:L=NC n m (.int .i64 xi) (.int .i64 zi)) (hL':L'=NC n (m+c) (.int .i64 xi) (.int .i64 zi)) (hg:w.heap[g]? = some (.cells L.toArray T (0,0))) (hB:Below B w0 w) (hBg:B<=g) {A':Array Value} (hA':A' = #[val a0 (Fv g n m c) (fun _=>true) 0,val a0 (Fv g n m c) (fun _=>true) 1,val a0 (Fv g n m c) (fun _=>true) 2,val a0 (Fv g n m c) (fun _=>true) 3,val a0 (Fv g n m c) (fun _=>true) 4,val a0 (Fv g n m c) (fun _=>true) 5,val a0 (Fv g n m c) (fun _=>true) 6,val a0 (Fv g n m c) (fun _=>true) 7,val a0 (Fv g n m c) (fun _=>true) 8,val a0 (Fv g n m c) (fun _=>true) 9,val a0 (Fv g n m c) (fun _=>true) 10,val a0 (Fv g n m c) (fun _=>true) 11,val a0 (Fv g n m c) (fun _=>true) 12,val a0 (Fv g n m c) (fun _=>true) 13,val a0 (Fv g n m c) (fun _=>true) 14,val a0 (Fv g n m c) (fun _=>true) 15,val a0 (Fv g n m c) (fun _=>true) 16,val a0 (Fv g n m c) (fun _=>true) 17,val a0 (Fv g n m c) (fun _=>true) 18,val a0 (Fv g n m c) (fun _=>true) 19,val a0 (Fv g n m c) (fun _=>true) 20,val a0 (Fv g n m c) (fun _=>true) 21,val a0 (Fv g n m c) (fun _=>true) 22,val a0 (Fv g n m c) (fun _=>true) 23,val a0 (Fv g n m c) (fun _=>true) 24,val a0 (Fv g n m c) (fun _=>true) 25,val a0 (Fv g n m c) (fun _=>true) 26,val a0 (Fv g n m c) (fun _=>true) 27,val a0 (Fv g n m c) (fun _=>true) 28,val a0 (Fv g n m c) (fun _=>true) 29,val a0 (Fv g n m c) (fun _=>true) 30,val a0 (Fv g n m c) (fun _=>true) 31,val a0 (Fv g n m c) (fun _=>true) 32,val a0 (Fv g n m c) (fun _=>true) 33,val a0 (Fv g n m c) (fun _=>true) 34,val a0 (Fv g n m c) (fun _=>true) 35,val a0 (Fv g n m c) (fun _=>true) 36,val a0 (Fv g n m c) (fun _=>true) 37,val a0 (Fv g n m c) (fun _=>true) 38,val a0 (Fv g n m c) (fun _=>true) 39,val a0 (Fv g n m c) (fun _=>true) 40,val a0 (Fv g n m c) (fun _=>true) 41,val a0 (Fv g n m c) (fun _=>true) 42,val a0 (Fv g n m c) (fun _=>true) 43,val a0 (Fv g n m c) (fun _=>true) 44,val a0 (Fv g n m c) (fun _=>true) 45,val a0 (Fv g n m c) (fun _=>true) 46,val a0 (Fv g n m c) (fun _=>true) 47])
    (hQ:∀w',Hid (w'.heap[g]? = some (.cells L'.toArray T (0,0)))->Below B w0 w'->Q .normal ⟨A',df⟩ w'):(Code.region rid ops true).wp Tryz.prog Q ⟨A,df⟩ w:=by
  subst hops hL hL' hA'
  refine AF6 (a:=⟨A,df⟩) hsz ha0 h7 h8 hm hmn hn hc hg hB hBg fun a' w' h => ?_
  have e:=AEl h.size h.tmps
  have e2:a'=⟨a'.tmps,a'.defers⟩:=rfl
  rw [e2,e,h.defers]
  refine hQ w' ?_ h.below
  have:=h.row
  exact this
end Go.V.W
namespace Go.V.W
open Go.Proofs Go.RowKit
set_option maxRecDepth 1000000 in
theorem AD3 (n:Nat) (hn:n<=8) (w:World):Calls Tryz.prog 257 #[.int .u64 1,.int .u64 n] w fun e w'=>e=.returned (.tuple #[.int .u64 0,.int .u64 n])/\w'=w:=by
  have:n=0\/n=1\/n=2\/n=3\/n=4\/n=5\/n=6\/n=7\/n=8:=by omega
  rcases this with rfl | rfl | rfl | rfl | rfl | rfl | rfl | rfl | rfl <;>
  (go_enter Tryz.func257,Tryz.ntmps257
   go_wp2
   go_ret2
   exact ⟨rfl,rfl⟩)
set_option maxRecDepth 1000000 in
theorem JW (n:Nat) (hn:n<=8) (w:World):Calls Tryz.prog 242 #[.int .u64 1,.int .u64 n] w fun e w'=>e=.returned (.tuple #[.int .u64 0,.int .u64 n])/\w'=w:=by
  have hm:=AD3 n hn w
  go_enter Tryz.func242,Tryz.ntmps242
  go_wp2_with (go_at_call 257;go_fit hm;rintro e w' ⟨rfl,hw⟩;rw [hw])
  go_ret2
  exact ⟨rfl,rfl⟩
theorem ADx (z:Value) (n:Nat):madeCells #[z] n=(List.replicate n z).toArray:=by
  apply Array.ext
  · simp [madeCells]
  · intro i h1 h2
    simp [madeCells,Nat.mod_one]
theorem ADv:(Tryz.prog.info? 3).map (fun i=>(i.zero,i.size,i.bytes))=some (some (.int .i64 0),1,8):=by kernel_rfl
theorem mk3 (n:Nat) (hn:n<=8) (w:World):(Instr.makeSlice 36 (.int .i64 (n:Int)) (.int .i64 (n:Int))).run Tryz.prog w=.ok (.slice (some ⟨w.heap.size,0,none⟩) n n) (w.alloc (.cells (List.replicate n (.int .i64 0)).toArray 3)):=by
  rw [<- ADx]
  exact run_make_row' 36 3 (.int .i64 0) 8 Tryz.underlying36 ADv rfl .i64 .i64 n (by omega) (by omega) w
theorem Yc {w:World} {a:Addr} {v:Value} (h:w.cell? a=some v):∀j u,[v][j]? = some u->w.cell? (a.add j)=some u:=by
  intro j u hj
  match j with
  | 0=>
    simp only [List.length_cons,List.length_nil,Nat.zero_add,Nat.lt_add_one,AGn,List.getElem_cons_zero,AGd] at hj
    subst hj
    exact h
  | j+1=>simp at hj
theorem DX {w:World} {a:Addr} {v:Value} (h:w.cell? a=some v) (o:Obj):(w.alloc o).cell? a=some v:=by
  have hlt:a.block<w.heap.size:=by
    unfold World.cell? at h
    cases hb:w.heap[a.block]? with
    | none=>rw [hb] at h;cases h
    | some x=>exact (Array.getElem?_eq_some_iff.1 hb).1
  unfold World.cell? at h |-
  rw [Below.heap_alloc w o a.block hlt]
  exact h
set_option maxRecDepth 1000000 in
set_option maxHeartbeats 4000000 in
theorem AFp (x:Int) (w:World) (b off cap:Nat) (hx:w.cell? ⟨b,off,none⟩=some (.int .i64 x)):Calls Tryz.prog 191 #[.slice (some ⟨b,off,none⟩) 1 cap,.int .i64 1] w fun e w' => ∃g T,e=.returned (.slice (some ⟨g,0,none⟩) 1 1)/\w.heap.size<=g/\w'.heap[g]? = some (.cells (List.replicate 1 (.int .i64 x)).toArray T (0,0))/\Below w.heap.size w w':=by
  have hm:=JW 1 (by omega) w
  obtain ⟨W1,hW1⟩:∃W1,W1=w.alloc (.cells (List.replicate 1 (.int .i64 0)).toArray 3):=⟨_,rfl⟩
  have hk:(Instr.makeSlice 36 (.int .i64 1) (.int .i64 1)).run Tryz.prog w=.ok (.slice (some ⟨w.heap.size,0,none⟩) 1 1) W1:=by
    rw [hW1]
    exact mk3 1 (by omega) w
  have hB0:Hid (Below w.heap.size w W1):=hW1▸(Below.refl _ w).alloc (AGf _) _
  have hG0:Hid (W1.heap[w.heap.size]? = some (.cells ([.int .i64 0]:List Value).toArray 3 (0,0))):=by
    subst hW1
    show _=_
    exact heap_alloc_new w _
  have hs0:Hid (∀j v,[Value.int .i64 x][j]? = some v->W1.cell? ((⟨b,off,none⟩:Addr).add j)=some v):=Yc (hW1▸DX hx _)
  clear hW1
  go_enter Tryz.func191,Tryz.ntmps191
  go_wp2_with (first
    | (go_at_call 242;go_fit hm;rintro e w' ⟨rfl,hw⟩;rw [hw])
    | (refine wpList_copy_splice (o:=⟨some 33,_,_,_,_,_⟩) rfl (.tmp 31) (.tmp 32) 36 36 rfl 3 Tryz.underlying36 sz3 (some ⟨w.heap.size,0,none⟩) (some ⟨b,off,none⟩) 1 1 1 cap rfl rfl w.heap.size 0 [.int .i64 0] 3 hG0.out [.int .i64 x] rfl (fun _=>⟨rfl,_,rfl,hs0.out⟩) (by simp) (by simp [Value.oneCell']) w.heap.size w hB0.out (AGf _) ?_;intro w2 HG2 hB2))
  have hG:Hid (w2.heap[w.heap.size]? = some (.cells ([.int .i64 x]:List Value).toArray 3 (0,0))):=HG2.out
  clear HG2 hk hs0 hG0 hB0 hm
  refine wp_loop_rounds 1 ?_
  rw [rounds_succ]
  go_wp2_with (fail)
  go_ret
  first
    | exact ⟨_,_,rfl,AGf _,hG.out,hB2⟩
    | exact ⟨_,rfl,AGf _,⟨_,hG.out⟩,hB2⟩
set_option maxRecDepth 1000000 in
set_option maxHeartbeats 4000000 in
theorem AF4 (x:Int) (w:World) (b off cap:Nat) (hx:w.cell? ⟨b,off,none⟩=some (.int .i64 x)):Calls Tryz.prog 191 #[.slice (some ⟨b,off,none⟩) 1 cap,.int .i64 2] w fun e w' => ∃g T,e=.returned (.slice (some ⟨g,0,none⟩) 2 2)/\w.heap.size<=g/\w'.heap[g]? = some (.cells (List.replicate 2 (.int .i64 x)).toArray T (0,0))/\Below w.heap.size w w':=by
  have hm:=JW 2 (by omega) w
  obtain ⟨W1,hW1⟩:∃W1,W1=w.alloc (.cells (List.replicate 2 (.int .i64 0)).toArray 3):=⟨_,rfl⟩
  have hk:(Instr.makeSlice 36 (.int .i64 2) (.int .i64 2)).run Tryz.prog w=.ok (.slice (some ⟨w.heap.size,0,none⟩) 2 2) W1:=by
    rw [hW1]
    exact mk3 2 (by omega) w
  have hB0:Hid (Below w.heap.size w W1):=hW1▸(Below.refl _ w).alloc (AGf _) _
  have hG0:Hid (W1.heap[w.heap.size]? = some (.cells ([.int .i64 0,.int .i64 0]:List Value).toArray 3 (0,0))):=by
    subst hW1
    show _=_
    exact heap_alloc_new w _
  have hs0:Hid (∀j v,[Value.int .i64 x][j]? = some v->W1.cell? ((⟨b,off,none⟩:Addr).add j)=some v):=Yc (hW1▸DX hx _)
  clear hW1
  go_enter Tryz.func191,Tryz.ntmps191
  go_wp2_with (first
    | (go_at_call 242;go_fit hm;rintro e w' ⟨rfl,hw⟩;rw [hw])
    | (refine wpList_copy_splice (o:=⟨some 33,_,_,_,_,_⟩) rfl (.tmp 31) (.tmp 32) 36 36 rfl 3 Tryz.underlying36 sz3 (some ⟨w.heap.size,0,none⟩) (some ⟨b,off,none⟩) 2 2 1 cap rfl rfl w.heap.size 0 [.int .i64 0,.int .i64 0] 3 hG0.out [.int .i64 x] rfl (fun _=>⟨rfl,_,rfl,hs0.out⟩) (by simp) (by simp [Value.oneCell']) w.heap.size w hB0.out (AGf _) ?_;intro w2 HG2 hB2))
  have hG:Hid (w2.heap[w.heap.size]? = some (.cells ([.int .i64 x,.int .i64 0]:List Value).toArray 3 (0,0))):=HG2.out
  clear HG2 hk hs0 hG0 hB0 hm
  refine wp_loop_rounds 2 ?_
  rw [rounds_succ]
  go_wp2_with (fail)
  refine FD (by kernel_rfl) (g:=w.heap.size) (n:=2) (m:=1) (c:=1) (xi:=x) (zi:=0) (T:=3) (L:=[.int .i64 x,.int .i64 0]) (L':=[.int .i64 x,.int .i64 x]) _ rfl (fun _=>rfl) rfl rfl (by omega) (by omega) (by omega) rfl rfl rfl hG.out hB2 (AGf _) rfl ?_
  intro w3 hG3 hB3
  clear hG hB2
  have hG:=hG3
  have hB2:=hB3
  clear hG3 hB3
  simp only [Exit.inBlock,Exit.then,rounds_succ,val,Fv]
  go_wp2_with (fail)
  go_ret
  first
    | exact ⟨_,_,rfl,AGf _,hG.out,hB2⟩
    | exact ⟨_,rfl,AGf _,⟨_,hG.out⟩,hB2⟩
set_option maxRecDepth 1000000 in
set_option maxHeartbeats 4000000 in
theorem AF8 (x:Int) (w:World) (b off cap:Nat) (hx:w.cell? ⟨b,off,none⟩=some (.int .i64 x)):Calls Tryz.prog 191 #[.slice (some ⟨b,off,none⟩) 1 cap,.int .i64 3] w fun e w' => ∃g T,e=.returned (.slice (some ⟨g,0,none⟩) 3 3)/\w.heap.size<=g/\w'.heap[g]? = some (.cells (List.replicate 3 (.int .i64 x)).toArray T (0,0))/\Below w.heap.size w w':=by
  have hm:=JW 3 (by omega) w
  obtain ⟨W1,hW1⟩:∃W1,W1=w.alloc (.cells (List.replicate 3 (.int .i64 0)).toArray 3):=⟨_,rfl⟩
  have hk:(Instr.makeSlice 36 (.int .i64 3) (.int .i64 3)).run Tryz.prog w=.ok (.slice (some ⟨w.heap.size,0,none⟩) 3 3) W1:=by
    rw [hW1]
    exact mk3 3 (by omega) w
  have hB0:Hid (Below w.heap.size w W1):=hW1▸(Below.refl _ w).alloc (AGf _) _
  have hG0:Hid (W1.heap[w.heap.size]? = some (.cells ([.int .i64 0,.int .i64 0,.int .i64 0]:List Value).toArray 3 (0,0))):=by
    subst hW1
    show _=_
    exact heap_alloc_new w _
  have hs0:Hid (∀j v,[Value.int .i64 x][j]? = some v->W1.cell? ((⟨b,off,none⟩:Addr).add j)=some v):=Yc (hW1▸DX hx _)
  clear hW1
  go_enter Tryz.func191,Tryz.ntmps191
  go_wp2_with (first
    | (go_at_call 242;go_fit hm;rintro e w' ⟨rfl,hw⟩;rw [hw])
    | (refine wpList_copy_splice (o:=⟨some 33,_,_,_,_,_⟩) rfl (.tmp 31) (.tmp 32) 36 36 rfl 3 Tryz.underlying36 sz3 (some ⟨w.heap.size,0,none⟩) (some ⟨b,off,none⟩) 3 3 1 cap rfl rfl w.heap.size 0 [.int .i64 0,.int .i64 0,.int .i64 0] 3 hG0.out [.int .i64 x] rfl (fun _=>⟨rfl,_,rfl,hs0.out⟩) (by simp) (by simp [Value.oneCell']) w.heap.size w hB0.out (AGf _) ?_;intro w2 HG2 hB2))
  have hG:Hid (w2.heap[w.heap.size]? = some (.cells ([.int .i64 x,.int .i64 0,.int .i64 0]:List Value).toArray 3 (0,0))):=HG2.out
  clear HG2 hk hs0 hG0 hB0 hm
  refine wp_loop_rounds 3 ?_
  rw [rounds_succ]
  go_wp2_with (fail)
  refine FD (by kernel_rfl) (g:=w.heap.size) (n:=3) (m:=1) (c:=1) (xi:=x) (zi:=0) (T:=3) (L:=[.int .i64 x,.int .i64 0,.int .i64 0]) (L':=[.int .i64 x,.int .i64 x,.int .i64 0]) _ rfl (fun _=>rfl) rfl rfl (by omega) (by omega) (by omega) rfl rfl rfl hG.out hB2 (AGf _) rfl ?_
  intro w3 hG3 hB3
  clear hG hB2
  have hG:=hG3
  have hB2:=hB3
  clear hG3 hB3
  simp only [Exit.inBlock,Exit.then,rounds_succ,val,Fv]
  go_wp2_with (fail)
  refine FD (by kernel_rfl) (g:=w.heap.size) (n:=3) (m:=2) (c:=1) (xi:=x) (zi:=0) (T:=3) (L:=[.int .i64 x,.int .i64 x,.int .i64 0]) (L':=[.int .i64 x,.int .i64 x,.int .i64 x]) _ rfl (fun _=>rfl) rfl rfl (by omega) (by omega) (by omega) rfl rfl rfl hG.out hB2 (AGf _) rfl ?_
  intro w3 hG3 hB3
  clear hG hB2
  have hG:=hG3
  have hB2:=hB3
  clear hG3 hB3
  simp only [Exit.inBlock,Exit.then,rounds_succ,val,Fv]
  go_wp2_with (fail)
  go_ret
  first
    | exact ⟨_,_,rfl,AGf _,hG.out,hB2⟩
    | exact ⟨_,rfl,AGf _,⟨_,hG.out⟩,hB2⟩
set_option maxRecDepth 1000000 in
set_option maxHeartbeats 4000000 in
theorem AFo (x:Int) (w:World) (b off cap:Nat) (hx:w.cell? ⟨b,off,none⟩=some (.int .i64 x)):Calls Tryz.prog 191 #[.slice (some ⟨b,off,none⟩) 1 cap,.int .i64 4] w fun e w' => ∃g T,e=.returned (.slice (some ⟨g,0,none⟩) 4 4)/\w.heap.size<=g/\w'.heap[g]? = some (.cells (List.replicate 4 (.int .i64 x)).toArray T (0,0))/\Below w.heap.size w w':=by
  have hm:=JW 4 (by omega) w
  obtain ⟨W1,hW1⟩:∃W1,W1=w.alloc (.cells (List.replicate 4 (.int .i64 0)).toArray 3):=⟨_,rfl⟩
  have hk:(Instr.makeSlice 36 (.int .i64 4) (.int .i64 4)).run Tryz.prog w=.ok (.slice (some ⟨w.heap.size,0,none⟩) 4 4) W1:=by
    rw [hW1]
    exact mk3 4 (by omega) w
  have hB0:Hid (Below w.heap.size w W1):=hW1▸(Below.refl _ w).alloc (AGf _) _
  have hG0:Hid (W1.heap[w.heap.size]? = some (.cells ([.int .i64 0,.int .i64 0,.int .i64 0,.int .i64 0]:List Value).toArray 3 (0,0))):=by
    subst hW1
    show _=_
    exact heap_alloc_new w _
  have hs0:Hid (∀j v,[Value.int .i64 x][j]? = some v->W1.cell? ((⟨b,off,none⟩:Addr).add j)=some v):=Yc (hW1▸DX hx _)
  clear hW1
  go_enter Tryz.func191,Tryz.ntmps191
  go_wp2_with (first
    | (go_at_call 242;go_fit hm;rintro e w' ⟨rfl,hw⟩;rw [hw])
    | (refine wpList_copy_splice (o:=⟨some 33,_,_,_,_,_⟩) rfl (.tmp 31) (.tmp 32) 36 36 rfl 3 Tryz.underlying36 sz3 (some ⟨w.heap.size,0,none⟩) (some ⟨b,off,none⟩) 4 4 1 cap rfl rfl w.heap.size 0 [.int .i64 0,.int .i64 0,.int .i64 0,.int .i64 0] 3 hG0.out [.int .i64 x] rfl (fun _=>⟨rfl,_,rfl,hs0.out⟩) (by simp) (by simp [Value.oneCell']) w.heap.size w hB0.out (AGf _) ?_;intro w2 HG2 hB2))
  have hG:Hid (w2.heap[w.heap.size]? = some (.cells ([.int .i64 x,.int .i64 0,.int .i64 0,.int .i64 0]:List Value).toArray 3 (0,0))):=HG2.out
  clear HG2 hk hs0 hG0 hB0 hm
  refine wp_loop_rounds 3 ?_
  rw [rounds_succ]
  go_wp2_with (fail)
  refine FD (by kernel_rfl) (g:=w.heap.size) (n:=4) (m:=1) (c:=1) (xi:=x) (zi:=0) (T:=3) (L:=[.int .i64 x,.int .i64 0,.int .i64 0,.int .i64 0]) (L':=[.int .i64 x,.int .i64 x,.int .i64 0,.int .i64 0]) _ rfl (fun _=>rfl) rfl rfl (by omega) (by omega) (by omega) rfl rfl rfl hG.out hB2 (AGf _) rfl ?_
  intro w3 hG3 hB3
  clear hG hB2
  have hG:=hG3
  have hB2:=hB3
  clear hG3 hB3
  simp only [Exit.inBlock,Exit.then,rounds_succ,val,Fv]
  go_wp2_with (fail)
  refine FD (by kernel_rfl) (g:=w.heap.size) (n:=4) (m:=2) (c:=2) (xi:=x) (zi:=0) (T:=3) (L:=[.int .i64 x,.int .i64 x,.int .i64 0,.int .i64 0]) (L':=[.int .i64 x,.int .i64 x,.int .i64 x,.int .i64 x]) _ rfl (fun _=>rfl) rfl rfl (by omega) (by omega) (by omega) rfl rfl rfl hG.out hB2 (AGf _) rfl ?_
  intro w3 hG3 hB3
  clear hG hB2
  have hG:=hG3
  have hB2:=hB3
  clear hG3 hB3
  simp only [Exit.inBlock,Exit.then,rounds_succ,val,Fv]
  go_wp2_with (fail)
  go_ret
  first
    | exact ⟨_,_,rfl,AGf _,hG.out,hB2⟩
    | exact ⟨_,rfl,AGf _,⟨_,hG.out⟩,hB2⟩
set_option maxRecDepth 1000000 in
set_option maxHeartbeats 4000000 in
theorem AF2 (x:Int) (w:World) (b off cap:Nat) (hx:w.cell? ⟨b,off,none⟩=some (.int .i64 x)):Calls Tryz.prog 191 #[.slice (some ⟨b,off,none⟩) 1 cap,.int .i64 5] w fun e w' => ∃g T,e=.returned (.slice (some ⟨g,0,none⟩) 5 5)/\w.heap.size<=g/\w'.heap[g]? = some (.cells (List.replicate 5 (.int .i64 x)).toArray T (0,0))/\Below w.heap.size w w':=by
  have hm:=JW 5 (by omega) w
  obtain ⟨W1,hW1⟩:∃W1,W1=w.alloc (.cells (List.replicate 5 (.int .i64 0)).toArray 3):=⟨_,rfl⟩
  have hk:(Instr.makeSlice 36 (.int .i64 5) (.int .i64 5)).run Tryz.prog w=.ok (.slice (some ⟨w.heap.size,0,none⟩) 5 5) W1:=by
    rw [hW1]
    exact mk3 5 (by omega) w
  have hB0:Hid (Below w.heap.size w W1):=hW1▸(Below.refl _ w).alloc (AGf _) _
  have hG0:Hid (W1.heap[w.heap.size]? = some (.cells ([.int .i64 0,.int .i64 0,.int .i64 0,.int .i64 0,.int .i64 0]:List Value).toArray 3 (0,0))):=by
    subst hW1
    show _=_
    exact heap_alloc_new w _
  have hs0:Hid (∀j v,[Value.int .i64 x][j]? = some v->W1.cell? ((⟨b,off,none⟩:Addr).add j)=some v):=Yc (hW1▸DX hx _)
  clear hW1
  go_enter Tryz.func191,Tryz.ntmps191
  go_wp2_with (first
    | (go_at_call 242;go_fit hm;rintro e w' ⟨rfl,hw⟩;rw [hw])
    | (refine wpList_copy_splice (o:=⟨some 33,_,_,_,_,_⟩) rfl (.tmp 31) (.tmp 32) 36 36 rfl 3 Tryz.underlying36 sz3 (some ⟨w.heap.size,0,none⟩) (some ⟨b,off,none⟩) 5 5 1 cap rfl rfl w.heap.size 0 [.int .i64 0,.int .i64 0,.int .i64 0,.int .i64 0,.int .i64 0] 3 hG0.out [.int .i64 x] rfl (fun _=>⟨rfl,_,rfl,hs0.out⟩) (by simp) (by simp [Value.oneCell']) w.heap.size w hB0.out (AGf _) ?_;intro w2 HG2 hB2))
  have hG:Hid (w2.heap[w.heap.size]? = some (.cells ([.int .i64 x,.int .i64 0,.int .i64 0,.int .i64 0,.int .i64 0]:List Value).toArray 3 (0,0))):=HG2.out
  clear HG2 hk hs0 hG0 hB0 hm
  refine wp_loop_rounds 4 ?_
  rw [rounds_succ]
  go_wp2_with (fail)
  refine FD (by kernel_rfl) (g:=w.heap.size) (n:=5) (m:=1) (c:=1) (xi:=x) (zi:=0) (T:=3) (L:=[.int .i64 x,.int .i64 0,.int .i64 0,.int .i64 0,.int .i64 0]) (L':=[.int .i64 x,.int .i64 x,.int .i64 0,.int .i64 0,.int .i64 0]) _ rfl (fun _=>rfl) rfl rfl (by omega) (by omega) (by omega) rfl rfl rfl hG.out hB2 (AGf _) rfl ?_
  intro w3 hG3 hB3
  clear hG hB2
  have hG:=hG3
  have hB2:=hB3
  clear hG3 hB3
  simp only [Exit.inBlock,Exit.then,rounds_succ,val,Fv]
  go_wp2_with (fail)
  refine FD (by kernel_rfl) (g:=w.heap.size) (n:=5) (m:=2) (c:=2) (xi:=x) (zi:=0) (T:=3) (L:=[.int .i64 x,.int .i64 x,.int .i64 0,.int .i64 0,.int .i64 0]) (L':=[.int .i64 x,.int .i64 x,.int .i64 x,.int .i64 x,.int .i64 0]) _ rfl (fun _=>rfl) rfl rfl (by omega) (by omega) (by omega) rfl rfl rfl hG.out hB2 (AGf _) rfl ?_
  intro w3 hG3 hB3
  clear hG hB2
  have hG:=hG3
  have hB2:=hB3
  clear hG3 hB3
  simp only [Exit.inBlock,Exit.then,rounds_succ,val,Fv]
  go_wp2_with (fail)
  refine FD (by kernel_rfl) (g:=w.heap.size) (n:=5) (m:=4) (c:=1) (xi:=x) (zi:=0) (T:=3) (L:=[.int .i64 x,.int .i64 x,.int .i64 x,.int .i64 x,.int .i64 0]) (L':=[.int .i64 x,.int .i64 x,.int .i64 x,.int .i64 x,.int .i64 x]) _ rfl (fun _=>rfl) rfl rfl (by omega) (by omega) (by omega) rfl rfl rfl hG.out hB2 (AGf _) rfl ?_
  intro w3 hG3 hB3
  clear hG hB2
  have hG:=hG3
  have hB2:=hB3
  clear hG3 hB3
  simp only [Exit.inBlock,Exit.then,rounds_succ,val,Fv]
  go_wp2_with (fail)
  go_ret
  first
    | exact ⟨_,_,rfl,AGf _,hG.out,hB2⟩
    | exact ⟨_,rfl,AGf _,⟨_,hG.out⟩,hB2⟩
set_option maxRecDepth 1000000 in
set_option maxHeartbeats 4000000 in
theorem AFy (x:Int) (w:World) (b off cap:Nat) (hx:w.cell? ⟨b,off,none⟩=some (.int .i64 x)):Calls Tryz.prog 191 #[.slice (some ⟨b,off,none⟩) 1 cap,.int .i64 6] w fun e w' => ∃g T,e=.returned (.slice (some ⟨g,0,none⟩) 6 6)/\w.heap.size<=g/\w'.heap[g]? = some (.cells (List.replicate 6 (.int .i64 x)).toArray T (0,0))/\Below w.heap.size w w':=by
  have hm:=JW 6 (by omega) w
  obtain ⟨W1,hW1⟩:∃W1,W1=w.alloc (.cells (List.replicate 6 (.int .i64 0)).toArray 3):=⟨_,rfl⟩
  have hk:(Instr.makeSlice 36 (.int .i64 6) (.int .i64 6)).run Tryz.prog w=.ok (.slice (some ⟨w.heap.size,0,none⟩) 6 6) W1:=by
    rw [hW1]
    exact mk3 6 (by omega) w
  have hB0:Hid (Below w.heap.size w W1):=hW1▸(Below.refl _ w).alloc (AGf _) _
  have hG0:Hid (W1.heap[w.heap.size]? = some (.cells ([.int .i64 0,.int .i64 0,.int .i64 0,.int .i64 0,.int .i64 0,.int .i64 0]:List Value).toArray 3 (0,0))):=by
    subst hW1
    show _=_
    exact heap_alloc_new w _
  have hs0:Hid (∀j v,[Value.int .i64 x][j]? = some v->W1.cell? ((⟨b,off,none⟩:Addr).add j)=some v):=Yc (hW1▸DX hx _)
  clear hW1
  go_enter Tryz.func191,Tryz.ntmps191
  go_wp2_with (first
    | (go_at_call 242;go_fit hm;rintro e w' ⟨rfl,hw⟩;rw [hw])
    | (refine wpList_copy_splice (o:=⟨some 33,_,_,_,_,_⟩) rfl (.tmp 31) (.tmp 32) 36 36 rfl 3 Tryz.underlying36 sz3 (some ⟨w.heap.size,0,none⟩) (some ⟨b,off,none⟩) 6 6 1 cap rfl rfl w.heap.size 0 [.int .i64 0,.int .i64 0,.int .i64 0,.int .i64 0,.int .i64 0,.int .i64 0] 3 hG0.out [.int .i64 x] rfl (fun _=>⟨rfl,_,rfl,hs0.out⟩) (by simp) (by simp [Value.oneCell']) w.heap.size w hB0.out (AGf _) ?_;intro w2 HG2 hB2))
  have hG:Hid (w2.heap[w.heap.size]? = some (.cells ([.int .i64 x,.int .i64 0,.int .i64 0,.int .i64 0,.int .i64 0,.int .i64 0]:List Value).toArray 3 (0,0))):=HG2.out
  clear HG2 hk hs0 hG0 hB0 hm
  refine wp_loop_rounds 4 ?_
  rw [rounds_succ]
  go_wp2_with (fail)
  refine FD (by kernel_rfl) (g:=w.heap.size) (n:=6) (m:=1) (c:=1) (xi:=x) (zi:=0) (T:=3) (L:=[.int .i64 x,.int .i64 0,.int .i64 0,.int .i64 0,.int .i64 0,.int .i64 0]) (L':=[.int .i64 x,.int .i64 x,.int .i64 0,.int .i64 0,.int .i64 0,.int .i64 0]) _ rfl (fun _=>rfl) rfl rfl (by omega) (by omega) (by omega) rfl rfl rfl hG.out hB2 (AGf _) rfl ?_
  intro w3 hG3 hB3
  clear hG hB2
  have hG:=hG3
  have hB2:=hB3
  clear hG3 hB3
  simp only [Exit.inBlock,Exit.then,rounds_succ,val,Fv]
  go_wp2_with (fail)
  refine FD (by kernel_rfl) (g:=w.heap.size) (n:=6) (m:=2) (c:=2) (xi:=x) (zi:=0) (T:=3) (L:=[.int .i64 x,.int .i64 x,.int .i64 0,.int .i64 0,.int .i64 0,.int .i64 0]) (L':=[.int .i64 x,.int .i64 x,.int .i64 x,.int .i64 x,.int .i64 0,.int .i64 0]) _ rfl (fun _=>rfl) rfl rfl (by omega) (by omega) (by omega) rfl rfl rfl hG.out hB2 (AGf _) rfl ?_
  intro w3 hG3 hB3
  clear hG hB2
  have hG:=hG3
  have hB2:=hB3
  clear hG3 hB3
  simp only [Exit.inBlock,Exit.then,rounds_succ,val,Fv]
  go_wp2_with (fail)
  refine FD (by kernel_rfl) (g:=w.heap.size) (n:=6) (m:=4) (c:=2) (xi:=x) (zi:=0) (T:=3) (L:=[.int .i64 x,.int .i64 x,.int .i64 x,.int .i64 x,.int .i64 0,.int .i64 0]) (L':=[.int .i64 x,.int .i64 x,.int .i64 x,.int .i64 x,.int .i64 x,.int .i64 x]) _ rfl (fun _=>rfl) rfl rfl (by omega) (by omega) (by omega) rfl rfl rfl hG.out hB2 (AGf _) rfl ?_
  intro w3 hG3 hB3
  clear hG hB2
  have hG:=hG3
  have hB2:=hB3
  clear hG3 hB3
  simp only [Exit.inBlock,Exit.then,rounds_succ,val,Fv]
  go_wp2_with (fail)
  go_ret
  first
    | exact ⟨_,_,rfl,AGf _,hG.out,hB2⟩
    | exact ⟨_,rfl,AGf _,⟨_,hG.out⟩,hB2⟩
set_option maxRecDepth 1000000 in
set_option maxHeartbeats 4000000 in
theorem AFr (x:Int) (w:World) (b off cap:Nat) (hx:w.cell? ⟨b,off,none⟩=some (.int .i64 x)):Calls Tryz.prog 191 #[.slice (some ⟨b,off,none⟩) 1 cap,.int .i64 7] w fun e w' => ∃g T,e=.returned (.slice (some ⟨g,0,none⟩) 7 7)/\w.heap.size<=g/\w'.heap[g]? = some (.cells (List.replicate 7 (.int .i64 x)).toArray T (0,0))/\Below w.heap.size w w':=by
  have hm:=JW 7 (by omega) w
  obtain ⟨W1,hW1⟩:∃W1,W1=w.alloc (.cells (List.replicate 7 (.int .i64 0)).toArray 3):=⟨_,rfl⟩
  have hk:(Instr.makeSlice 36 (.int .i64 7) (.int .i64 7)).run Tryz.prog w=.ok (.slice (some ⟨w.heap.size,0,none⟩) 7 7) W1:=by
    rw [hW1]
    exact mk3 7 (by omega) w
  have hB0:Hid (Below w.heap.size w W1):=hW1▸(Below.refl _ w).alloc (AGf _) _
  have hG0:Hid (W1.heap[w.heap.size]? = some (.cells ([.int .i64 0,.int .i64 0,.int .i64 0,.int .i64 0,.int .i64 0,.int .i64 0,.int .i64 0]:List Value).toArray 3 (0,0))):=by
    subst hW1
    show _=_
    exact heap_alloc_new w _
  have hs0:Hid (∀j v,[Value.int .i64 x][j]? = some v->W1.cell? ((⟨b,off,none⟩:Addr).add j)=some v):=Yc (hW1▸DX hx _)
  clear hW1
  go_enter Tryz.func191,Tryz.ntmps191
  go_wp2_with (first
    | (go_at_call 242;go_fit hm;rintro e w' ⟨rfl,hw⟩;rw [hw])
    | (refine wpList_copy_splice (o:=⟨some 33,_,_,_,_,_⟩) rfl (.tmp 31) (.tmp 32) 36 36 rfl 3 Tryz.underlying36 sz3 (some ⟨w.heap.size,0,none⟩) (some ⟨b,off,none⟩) 7 7 1 cap rfl rfl w.heap.size 0 [.int .i64 0,.int .i64 0,.int .i64 0,.int .i64 0,.int .i64 0,.int .i64 0,.int .i64 0] 3 hG0.out [.int .i64 x] rfl (fun _=>⟨rfl,_,rfl,hs0.out⟩) (by simp) (by simp [Value.oneCell']) w.heap.size w hB0.out (AGf _) ?_;intro w2 HG2 hB2))
  have hG:Hid (w2.heap[w.heap.size]? = some (.cells ([.int .i64 x,.int .i64 0,.int .i64 0,.int .i64 0,.int .i64 0,.int .i64 0,.int .i64 0]:List Value).toArray 3 (0,0))):=HG2.out
  clear HG2 hk hs0 hG0 hB0 hm
  refine wp_loop_rounds 4 ?_
  rw [rounds_succ]
  go_wp2_with (fail)
  refine FD (by kernel_rfl) (g:=w.heap.size) (n:=7) (m:=1) (c:=1) (xi:=x) (zi:=0) (T:=3) (L:=[.int .i64 x,.int .i64 0,.int .i64 0,.int .i64 0,.int .i64 0,.int .i64 0,.int .i64 0]) (L':=[.int .i64 x,.int .i64 x,.int .i64 0,.int .i64 0,.int .i64 0,.int .i64 0,.int .i64 0]) _ rfl (fun _=>rfl) rfl rfl (by omega) (by omega) (by omega) rfl rfl rfl hG.out hB2 (AGf _) rfl ?_
  intro w3 hG3 hB3
  clear hG hB2
  have hG:=hG3
  have hB2:=hB3
  clear hG3 hB3
  simp only [Exit.inBlock,Exit.then,rounds_succ,val,Fv]
  go_wp2_with (fail)
  refine FD (by kernel_rfl) (g:=w.heap.size) (n:=7) (m:=2) (c:=2) (xi:=x) (zi:=0) (T:=3) (L:=[.int .i64 x,.int .i64 x,.int .i64 0,.int .i64 0,.int .i64 0,.int .i64 0,.int .i64 0]) (L':=[.int .i64 x,.int .i64 x,.int .i64 x,.int .i64 x,.int .i64 0,.int .i64 0,.int .i64 0]) _ rfl (fun _=>rfl) rfl rfl (by omega) (by omega) (by omega) rfl rfl rfl hG.out hB2 (AGf _) rfl ?_
  intro w3 hG3 hB3
  clear hG hB2
  have hG:=hG3
  have hB2:=hB3
  clear hG3 hB3
  simp only [Exit.inBlock,Exit.then,rounds_succ,val,Fv]
  go_wp2_with (fail)
  refine FD (by kernel_rfl) (g:=w.heap.size) (n:=7) (m:=4) (c:=3) (xi:=x) (zi:=0) (T:=3) (L:=[.int .i64 x,.int .i64 x,.int .i64 x,.int .i64 x,.int .i64 0,.int .i64 0,.int .i64 0]) (L':=[.int .i64 x,.int .i64 x,.int .i64 x,.int .i64 x,.int .i64 x,.int .i64 x,.int .i64 x]) _ rfl (fun _=>rfl) rfl rfl (by omega) (by omega) (by omega) rfl rfl rfl hG.out hB2 (AGf _) rfl ?_
  intro w3 hG3 hB3
  clear hG hB2
  have hG:=hG3
  have hB2:=hB3
  clear hG3 hB3
  simp only [Exit.inBlock,Exit.then,rounds_succ,val,Fv]
  go_wp2_with (fail)
  go_ret
  first
    | exact ⟨_,_,rfl,AGf _,hG.out,hB2⟩
    | exact ⟨_,rfl,AGf _,⟨_,hG.out⟩,hB2⟩
set_option maxRecDepth 1000000 in
set_option maxHeartbeats 4000000 in
theorem AFl (x:Int) (w:World) (b off cap:Nat) (hx:w.cell? ⟨b,off,none⟩=some (.int .i64 x)):Calls Tryz.prog 191 #[.slice (some ⟨b,off,none⟩) 1 cap,.int .i64 8] w fun e w' => ∃g T,e=.returned (.slice (some ⟨g,0,none⟩) 8 8)/\w.heap.size<=g/\w'.heap[g]? = some (.cells (List.replicate 8 (.int .i64 x)).toArray T (0,0))/\Below w.heap.size w w':=by
  have hm:=JW 8 (by omega) w
  obtain ⟨W1,hW1⟩:∃W1,W1=w.alloc (.cells (List.replicate 8 (.int .i64 0)).toArray 3):=⟨_,rfl⟩
  have hk:(Instr.makeSlice 36 (.int .i64 8) (.int .i64 8)).run Tryz.prog w=.ok (.slice (some ⟨w.heap.size,0,none⟩) 8 8) W1:=by
    rw [hW1]
    exact mk3 8 (by omega) w
  have hB0:Hid (Below w.heap.size w W1):=hW1▸(Below.refl _ w).alloc (AGf _) _
  have hG0:Hid (W1.heap[w.heap.size]? = some (.cells ([.int .i64 0,.int .i64 0,.int .i64 0,.int .i64 0,.int .i64 0,.int .i64 0,.int .i64 0,.int .i64 0]:List Value).toArray 3 (0,0))):=by
    subst hW1
    show _=_
    exact heap_alloc_new w _
  have hs0:Hid (∀j v,[Value.int .i64 x][j]? = some v->W1.cell? ((⟨b,off,none⟩:Addr).add j)=some v):=Yc (hW1▸DX hx _)
  clear hW1
  go_enter Tryz.func191,Tryz.ntmps191
  go_wp2_with (first
    | (go_at_call 242;go_fit hm;rintro e w' ⟨rfl,hw⟩;rw [hw])
    | (refine wpList_copy_splice (o:=⟨some 33,_,_,_,_,_⟩) rfl (.tmp 31) (.tmp 32) 36 36 rfl 3 Tryz.underlying36 sz3 (some ⟨w.heap.size,0,none⟩) (some ⟨b,off,none⟩) 8 8 1 cap rfl rfl w.heap.size 0 [.int .i64 0,.int .i64 0,.int .i64 0,.int .i64 0,.int .i64 0,.int .i64 0,.int .i64 0,.int .i64 0] 3 hG0.out [.int .i64 x] rfl (fun _=>⟨rfl,_,rfl,hs0.out⟩) (by simp) (by simp [Value.oneCell']) w.heap.size w hB0.out (AGf _) ?_;intro w2 HG2 hB2))
  have hG:Hid (w2.heap[w.heap.size]? = some (.cells ([.int .i64 x,.int .i64 0,.int .i64 0,.int .i64 0,.int .i64 0,.int .i64 0,.int .i64 0,.int .i64 0]:List Value).toArray 3 (0,0))):=HG2.out
  clear HG2 hk hs0 hG0 hB0 hm
  refine wp_loop_rounds 4 ?_
  rw [rounds_succ]
  go_wp2_with (fail)
  refine FD (by kernel_rfl) (g:=w.heap.size) (n:=8) (m:=1) (c:=1) (xi:=x) (zi:=0) (T:=3) (L:=[.int .i64 x,.int .i64 0,.int .i64 0,.int .i64 0,.int .i64 0,.int .i64 0,.int .i64 0,.int .i64 0]) (L':=[.int .i64 x,.int .i64 x,.int .i64 0,.int .i64 0,.int .i64 0,.int .i64 0,.int .i64 0,.int .i64 0]) _ rfl (fun _=>rfl) rfl rfl (by omega) (by omega) (by omega) rfl rfl rfl hG.out hB2 (AGf _) rfl ?_
  intro w3 hG3 hB3
  clear hG hB2
  have hG:=hG3
  have hB2:=hB3
  clear hG3 hB3
  simp only [Exit.inBlock,Exit.then,rounds_succ,val,Fv]
  go_wp2_with (fail)
  refine FD (by kernel_rfl) (g:=w.heap.size) (n:=8) (m:=2) (c:=2) (xi:=x) (zi:=0) (T:=3) (L:=[.int .i64 x,.int .i64 x,.int .i64 0,.int .i64 0,.int .i64 0,.int .i64 0,.int .i64 0,.int .i64 0]) (L':=[.int .i64 x,.int .i64 x,.int .i64 x,.int .i64 x,.int .i64 0,.int .i64 0,.int .i64 0,.int .i64 0]) _ rfl (fun _=>rfl) rfl rfl (by omega) (by omega) (by omega) rfl rfl rfl hG.out hB2 (AGf _) rfl ?_
  intro w3 hG3 hB3
  clear hG hB2
  have hG:=hG3
  have hB2:=hB3
  clear hG3 hB3
  simp only [Exit.inBlock,Exit.then,rounds_succ,val,Fv]
  go_wp2_with (fail)
  refine FD (by kernel_rfl) (g:=w.heap.size) (n:=8) (m:=4) (c:=4) (xi:=x) (zi:=0) (T:=3) (L:=[.int .i64 x,.int .i64 x,.int .i64 x,.int .i64 x,.int .i64 0,.int .i64 0,.int .i64 0,.int .i64 0]) (L':=[.int .i64 x,.int .i64 x,.int .i64 x,.int .i64 x,.int .i64 x,.int .i64 x,.int .i64 x,.int .i64 x]) _ rfl (fun _=>rfl) rfl rfl (by omega) (by omega) (by omega) rfl rfl rfl hG.out hB2 (AGf _) rfl ?_
  intro w3 hG3 hB3
  clear hG hB2
  have hG:=hG3
  have hB2:=hB3
  clear hG3 hB3
  simp only [Exit.inBlock,Exit.then,rounds_succ,val,Fv]
  go_wp2_with (fail)
  go_ret
  first
    | exact ⟨_,_,rfl,AGf _,hG.out,hB2⟩
    | exact ⟨_,rfl,AGf _,⟨_,hG.out⟩,hB2⟩
end Go.V.W
namespace Go.V.W
open Go.Proofs Go.RowKit Go.Shelf
theorem An1 (x:Int) (n:Nat) (h1:1<=n) (h8:n<=8) (w:World) (b off cap:Nat) (hx:w.cell? ⟨b,off,none⟩=some (.int .i64 x)):Calls Tryz.prog 191 #[.slice (some ⟨b,off,none⟩) 1 cap,.int .i64 (n:Int)] w fun e w' => ∃g T,e=.returned (.slice (some ⟨g,0,none⟩) n n)/\w.heap.size<=g/\w'.heap[g]? = some (.cells (List.replicate n (.int .i64 x)).toArray T (0,0))/\Below w.heap.size w w':=by
  have:n=1\/n=2\/n=3\/n=4\/n=5\/n=6\/n=7\/n=8:=by omega
  rcases this with rfl | rfl | rfl | rfl | rfl | rfl | rfl | rfl
  · exact AFp x w b off cap hx
  · exact AF4 x w b off cap hx
  · exact AF8 x w b off cap hx
  · exact AFo x w b off cap hx
  · exact AF2 x w b off cap hx
  · exact AFy x w b off cap hx
  · exact AFr x w b off cap hx
  · exact AFl x w b off cap hx
theorem Ado {P:Program} {f:FuncId} (he:∀(args:Array Value) (w:World),(callFunc f args).run P w=.ok (.enter f args) w)
    (h:∀(x:Int) (n:Nat),1<=n->n<=8 -> ∀(w:World) (b off cap:Nat),w.cell? ⟨b,off,none⟩=some (.int .i64 x)->Calls P f #[.slice (some ⟨b,off,none⟩) 1 cap,.int .i64 (n:Int)] w fun e w' => ∃g T,e=.returned (.slice (some ⟨g,0,none⟩) n n)/\w.heap.size<=g/\w'.heap[g]? = some (.cells (List.replicate n (.int .i64 x)).toArray T (0,0))/\Below w.heap.size w w') :
    Aa P f ⟨[(.slice (.int .i64),false),(.int .i64,false)],[.slice (.int .i64)],true,DP⟩:=by
  intro w ψ U vs d out hargs hU hψ hgl ho
  obtain ⟨l,n,u⟩:=d
  have ho:DP (l,n,u)=some out:=ho
  unfold DP at ho
  split at ho
  · rename_i hc
    simp only [AGc,decide_eq_true_eq] at hc
    obtain ⟨⟨hl,h1⟩,h8⟩:=hc
    have h1:1<=n:=h1
    have h8:n<=8:=h8
    have ho:=AGg ho
    subst ho
    obtain ⟨c1,r1,rfl,k2,c2,r2,rfl,k4,k5⟩:=hargs
    have k5:r2=[]:=k5
    subst k5
    have k4:c2=[.int .i64 n]:=k4
    subst k4
    obtain ⟨x,rfl⟩:∃x:Int,l=[x]:=by
      match l,hl with
      | [x],_=>exact ⟨x,rfl⟩
    simp only [Rep] at k2
    rcases k2 with ⟨_,k2⟩ | ⟨b,off,cap,rfl,kc,kS,kb,ke⟩
    · cases k2
    · have kx:=ke 0 (by simp)
      simp only [Rep,Nat.zero_mul,Nat.add_zero,List.get_eq_getElem,List.getElem_cons_zero,Kd.size] at kx
      have hcell:w.cell? ⟨b,off,none⟩=some (.int .i64 x):=by
        unfold Al at kx
        split at kx
        · rename_i cs T fr hb
          simp only [World.cell?,hb]
          have h0:((cs.toList.drop off).take 1)[0]? = some (.int .i64 x):=by rw [kx];rfl
          rw [List.getElem?_take,List.getElem?_drop] at h0
          simpa using h0
        · cases kx
      have hn : @Eq Int n ((Int.toNat n:Nat):Int):=by omega
      have hcalls:=h x n.toNat (by omega) (by omega) w b off cap hcell
      rw [<- hn] at hcalls
      unfold BV
      show match (callFunc f #[.slice (some ⟨b,off,none⟩) 1 cap,.int .i64 n]).run P w with
        | .ok (.value v) w'=>_
        | .ok (.enter f args) w'=>_
        | .ok (.row row args) w'=>_
        | _=>False
      rw [he]
      refine Calls.mono hcalls fun e w' hh => ?_
      obtain ⟨g,T,rfl,hg,hrow,bel⟩:=hh
      refine ⟨fun b=>if b=g then some (.res [.l]) else none,⟨bel.os,bel.tape,bel.output,bel.size,fun b hb _=>bel.block b hb,fun b z h => ?_,⟨[.slice (some ⟨g,0,none⟩) n.toNat n.toNat],rfl,?_⟩,trivial⟩⟩
      · split at h
        · rename_i e
          subst e
          exact ⟨.inl hg,Dr.of hrow⟩
        · cases h
      · refine ⟨?_,rfl⟩
        have hlen:(List.replicate n.toNat x).length=n.toNat:=by simp
        refine .inr ⟨g,0,n.toNat,?_,?_,?_,⟨_,_,_,hrow,?_⟩,fun i hi => ?_⟩
        · show [Value.slice (some ⟨g,0,none⟩) n.toNat n.toNat]=[Value.slice (some ⟨g,0,none⟩) (List.replicate n.toNat x).length n.toNat]
          rw [hlen]
        · show (List.replicate n.toNat x).length<=n.toNat
          rw [hlen]
          exact AGf _
        · show (if g=g then some (Lab.res [.l]) else none)=some (.res ([]++[.l]))
          simp
        · simp [Kd.size]
        · have hi:i<(List.replicate n.toNat x).length:=hi
          show Al w' g (0+i*1) 1=[.int .i64 ((List.replicate n.toNat x).get ⟨i,hi⟩)]
          rw [hlen] at hi
          unfold Al
          rw [hrow]
          simp only [List.get_eq_getElem,List.getElem_replicate,List.drop_replicate,List.take_replicate]
          rw [show min 1 (n.toNat-(0+i*1))=1 by omega]
          rfl
  · cases ho
theorem Apt:Aa Tryz.prog 191 ⟨[(.slice (.int .i64),false),(.int .i64,false)],[.slice (.int .i64)],true,DP⟩:=
  Ado (enters_of Tryz.func191 (by kernel_rfl) rfl) An1
end Go.V.W
namespace Go.V.W
open Go.Proofs
theorem Aqn:Aa Tryz.prog 191 Ad9:=Apt
open Go.Proofs
theorem Jz (c:List UInt8):∀l:List UInt8,Lib.containsAny l c=l.any fun b=>c.contains b:=by
 intro l
 induction l with
 | nil=>simp [Lib.containsAny,Lib.indexAny]
 | cons b l ih=>
  unfold Lib.containsAny at ih |-
  unfold Lib.indexAny
  rw [List.any_cons,<- ih]
  by_cases hb:c.contains b=true
  ·have hb':b∈c:=by simpa using hb
   simp [hb']
  ·simp only [Bool.not_eq_true] at hb
   rw [hb]
   simp only [AGb,if_false,Bool.false_or]
   have:=Lib.indexAny_ge c l
   by_cases he:Lib.indexAny l c = -1
   ·simp [he]
   ·have e1:(Lib.indexAny l c == -1)=false:=by simpa using he
    rw [e1]
    simp only [AGb,if_false]
    have e2:(0<=Lib.indexAny l c):=by omega
    have e3:(0<=Lib.indexAny l c+1):=by omega
    simp [e2,e3]
open Go.Proofs
def Azn (a b:ByteArray):Bool := !Zi a (⟨#[]⟩:ByteArray)&&((a.data.toList.all (fun b=>Kc b && !(b.toNat==35))&&decide ((a.size:Int)<=160))&&(!(a.data.toList.any (fun b=>((b.toNat:Int)==64)))&&(b.data.toList.all (fun b=>Kc b && !(b.toNat==35))&&decide ((b.size:Int)<=200))))
def Azv (a b:ByteArray):Bool:=((decide ((a.size:Int)>=1)&&decide ((a.size:Int)<=160))&&(Tf a && !Lib.containsAny a.data.toList [35,64]))&&(decide ((b.size:Int)<=200)&&(Tf b && !Lib.containsAny b.data.toList [35]))
theorem Ain (l:List UInt8) (p q:UInt8->Bool):l.all (fun b=>p b && !q b)=(l.all p && !l.any q):=by
 induction l with
 | nil=>rfl
 | cons b l ih=>
  simp only [List.all_cons,List.any_cons,ih]
  cases p b<;>cases q b<;>cases l.all p<;>cases l.any q<;>rfl
theorem AAy (l:List UInt8) (p q:UInt8->Bool):l.any (fun b=>p b||q b)=(l.any p||l.any q):=by
 induction l with
 | nil=>rfl
 | cons b l ih=>
  simp only [List.any_cons,ih]
  cases p b<;>cases q b<;>cases l.any p<;>cases l.any q<;>rfl
theorem AEt (l:List UInt8):Lib.containsAny l [35]=l.any (fun b=>b.toNat==35):=by
 rw [Jz]
 congr 1
 funext b
 simp only [List.contains_cons,List.contains_nil,Bool.or_false]
 rw [Bool.eq_iff_iff]
 simp only [beq_iff_eq]
 exact ⟨fun h=>by rw [h];rfl,fun h=>UInt8.toNat_inj.1 h⟩
theorem Au3 (l:List UInt8):Lib.containsAny l [35,64]=(l.any (fun b=>b.toNat==35)||l.any (fun b=>((b.toNat:Int)==64))):=by
 rw [Jz,<- AAy]
 congr 1
 funext b
 simp only [List.contains_cons,List.contains_nil,Bool.or_false]
 rw [Bool.eq_iff_iff]
 simp only [Bool.or_eq_true,beq_iff_eq]
 constructor
 ·rintro (h | h)
  ·left;rw [h];rfl
  ·right;rw [h];rfl
 ·rintro (h | h)
  ·left;exact UInt8.toNat_inj.1 h
  ·right
   have h64:b.toNat=64:=by omega
   exact UInt8.toNat_inj.1 (by rw [h64];rfl)
theorem Adf (a:ByteArray):Zi a (⟨#[]⟩:ByteArray) = !decide ((a.size:Int)>=1):=by
 unfold Zi
 have h1:a.toList=a.data.toList:=Lib.toList_data a
 have h2:(⟨#[]⟩:ByteArray).toList=[]:=Lib.toList_data _
 have h3:a.data.toList.length=a.size:=by simp
 rw [h1,h2]
 cases hl:a.data.toList with
 | nil=>
  rw [hl] at h3
  simp only [List.length_nil] at h3
  simp [<- h3]
 | cons x l=>
  rw [hl] at h3
  simp only [List.length_cons] at h3
  have:decide ((a.size:Int)>=1)=true:=by simp;omega
  rw [this]
  rfl
theorem same (a b:ByteArray):Azn a b=Azv a b:=by
 unfold Azn Azv
 rw [Adf,Ain,Ain,AEt,Au3]
 unfold Tf
 cases decide ((a.size:Int)>=1)<;>cases a.data.toList.all Kc<;>cases a.data.toList.any (fun b=>b.toNat==35)<;>cases a.data.toList.any (fun b=>((b.toNat:Int)==64))<;>cases decide ((a.size:Int)<=160)<;>cases decide ((b.size:Int)<=200)<;>cases b.data.toList.all Kc<;>cases b.data.toList.any (fun b=>b.toNat==35)<;>rfl
open Go.Proofs
theorem BH {n:Nat} (h:n<=lim):n<=maxLen:=by unfold lim at h;unfold maxLen;omega
open Go.Proofs
def Tg (p:Nat->Bool):Nat->Nat->Bool
 | 0,_=>true
 | m+1,i=>p i&&Tg p m (i+1)
theorem HL {p:Nat->Bool}:∀{m i:Nat},Tg p m i=true ↔ ∀j,i<=j->j<i+m->p j=true:=by
 intro m
 induction m with
 | zero=>intro i;simp only [Tg,true_iff];intro j h1 h2;omega
 | succ m ih=>
  intro i
  simp only [Tg,AGc,ih]
  constructor
  ·rintro ⟨h1,h2⟩ j h3 h4
   by_cases e:j=i
   ·subst e;exact h1
   ·exact h2 j (by omega) (by omega)
  ·intro h
   exact ⟨h i (AGf _) (by omega),fun j h1 h2=>h j (by omega) (by omega)⟩
theorem HA {H O:Type} {L:Nat->H->Option O} {r:(H->Option O)->H->Option O} (hL:∀k d,L (k+1) d=r (L k) d) {n:Nat} {mk:Nat->H} {p:Nat->Bool} {o f:O}
  (hr:∀back i,i<n->r back (mk i)=if p i=true then back (mk (i+1)) else some o) (hf:∀back,r back (mk n)=some f) :
  ∀k i,i<=n->n<=i+k->L (k+1) (mk i)=some (if Tg p (n-i) i=true then f else o):=by
 intro k
 induction k with
 | zero=>
  intro i h1 h2
  have e:i=n:=by omega
  subst e
  rw [hL,hf,Nat.sub_self]
  rfl
 | succ k ih=>
  intro i h1 h2
  by_cases h:i<n
  ·rw [hL,hr _ i h,show n-i=(n-(i+1))+1 by omega]
   simp only [Tg]
   by_cases hp:p i=true
   ·simp only [hp,if_true,Bool.true_and]
    exact ih (i+1) (by omega) (by omega)
   ·simp only [Bool.not_eq_true] at hp
    simp only [hp,AGb,if_false,Bool.false_and]
  ·have e:i=n:=by omega
   subst e
   rw [hL,hf,Nat.sub_self]
   rfl
theorem Iy {i:Nat} (h:0<i) (hn:i<=maxLen):IntKind.wrap .i64 ((i:Int)-1)=((i-1:Nat):Int):=by
 unfold maxLen at hn
 rw [Go.IntWalk.i64_in _ (by omega)]
 omega
theorem Az {i n:Nat} (h:i<n):decide ((i:Int)<(n:Int))=true:=by simp;omega
theorem AL (n:Nat):decide ((n:Int)<(n:Int))=false:=by simp
theorem WC {i:Nat}:decide ((i:Int)>(0:Int))=decide (0<i):=by simp
theorem De {a b:Bool} (h:a=true↔b=true):a=b:=by cases a<;>cases b<;>simp_all
theorem V7 {e:Kd} (l:List e.den) (q:e.den->Bool):Tg (fun i=>q (at_ e l i)) l.length 0=l.all q:=by
 apply De
 rw [HL,List.all_eq_true]
 constructor
 ·intro h x hx
  obtain ⟨i,hi,rfl⟩:=List.getElem_of_mem hx
  have:=h i (by omega) (by omega)
  rw [AM hi] at this
  exact this
 ·intro h j _ hj
  have hj:j<l.length:=by omega
  rw [AM hj]
  exact h _ (AGk hj)
theorem Q2:∀l:List Int,DM l=true ↔ ∀j,0<j->j<l.length->at_ I l (j-1)<at_ I l j:=by
 intro l
 induction l with
 | nil=>simp only [DM,true_iff];intro j _ h;exact absurd h (by simp)
 | cons a l ih=>
  cases l with
  | nil=>simp only [DM,true_iff];intro j h1 h2;simp only [List.length_cons,List.length_nil] at h2;omega
  | cons b l=>
   simp only [DM,AGc,ih,decide_eq_true_eq]
   constructor
   ·rintro ⟨h1,h2⟩ j h3 h4
    by_cases e:j=1
    ·subst e;exact h1
    ·have:=h2 (j-1) (by omega) (by simp only [List.length_cons] at h4 |-;omega)
     obtain ⟨k,rfl⟩:∃k,j=k+2:=⟨j-2,by omega⟩
     exact this
   ·intro h
    refine ⟨h 1 (by omega) (by simp),fun j h1 h2 => ?_⟩
    have:=h (j+1) (by omega) (by simp only [List.length_cons] at h2 |-;omega)
    obtain ⟨k,rfl⟩:∃k,j=k+1:=⟨j-1,by omega⟩
    exact this
theorem Y5:∀l:List E,C0 l=true ↔ ∀j,0<j->j<l.length->Ch (at_ Am l (j-1)) (at_ Am l j)=true:=by
 intro l
 induction l with
 | nil=>simp only [C0,true_iff];intro j _ h;exact absurd h (by simp)
 | cons a l ih=>
  cases l with
  | nil=>simp only [C0,true_iff];intro j h1 h2;simp only [List.length_cons,List.length_nil] at h2;omega
  | cons b l=>
   simp only [C0,AGc,ih]
   constructor
   ·rintro ⟨h1,h2⟩ j h3 h4
    by_cases e:j=1
    ·subst e;exact h1
    ·have:=h2 (j-1) (by omega) (by simp only [List.length_cons] at h4 |-;omega)
     obtain ⟨k,rfl⟩:∃k,j=k+2:=⟨j-2,by omega⟩
     exact this
   ·intro h
    refine ⟨h 1 (by omega) (by simp),fun j h1 h2 => ?_⟩
    have:=h (j+1) (by omega) (by simp only [List.length_cons] at h2 |-;omega)
    obtain ⟨k,rfl⟩:∃k,j=k+1:=⟨j-1,by omega⟩
    exact this
theorem Gg (x lo hi:Int) (u:Unit):Bl (x,lo,hi,u)=(inB lo hi x,()):=by
 unfold Bl inB
 by_cases h:lo<=x<;>simp [h]
theorem Ip (x lo hi:Int) (u:Unit):ET (x,lo,hi,u)=(inB lo hi x,()):=by
 unfold ET inB
 by_cases h:lo<=x<;>simp [h]
theorem Z1 (a b:E) (u:Unit):IA (a,b,u)=(Ch a b,()):=by
 obtain ⟨a1,a2,_⟩:=a
 obtain ⟨b1,b2,_⟩:=b
 unfold IA Ch
 by_cases h:a1<b1
 ·simp [h]
 ·by_cases h2:a1=b1<;>simp [h,h2]
theorem Axq (a b:Int) (u:Unit):Oj (a,b,u)=(if a<b then -1 else if b<a then 1 else 0,()):=by
 unfold Oj JU
 by_cases h:a<b
 ·simp [h]
 ·by_cases h2:b<a<;>simp [h,h2]
theorem Wi (d) (r) (h:GO d=some r):∃N,VK N d=some r:=by
 obtain ⟨l,lo,hi,_⟩:=d
 unfold GO at h
 split at h
 ·rename_i hl
  have hl:l.length<=lim:=of_decide_eq_true hl
  have hmx:=BH hl
  have h:=AGg h
  subst h
  refine ⟨l.length+1,?_⟩
  unfold VK
  have:=HA (L:=Sx (l.length+1)) (r:=KZ (l.length+1)) (fun _ _=>rfl) (n:=l.length) (mk:=fun i=>(l,lo,hi,(i:Int),())) (p:=fun i=>inB lo hi (at_ I l i)&&(!decide (0<i)||decide (at_ I l (i-1)<at_ I l i))) (o:=.inl (false,())) (f:=.inr (.inl ()))
   (by
    intro back i hi'
    unfold KZ
    simp only [Az hi',if_true,Ad hi',Int.toNat_natCast,A1 hi' hmx,Gg,WC]
    cases hb:inB lo hi (at_ I l i) with
    | false=>simp only [Bool.not_false,if_true,Bool.false_and,AGb,if_false]
    | true=>
     simp only [Bool.not_true,AGb,if_false,Bool.true_and]
     by_cases h0:0<i
     ·have h1:i-1<l.length:=by omega
      simp only [h0,decide_true,if_true,Iy h0 (show i<=maxLen by omega),Ad h1,Int.toNat_natCast,Bool.not_true,Bool.false_or]
      by_cases hc:at_ I l (i-1)<at_ I l i
      ·have hc':¬(at_ I l (i-1)>=at_ I l i):=Int.not_le.2 hc
       simp only [hc,hc',decide_true,decide_false,if_true,AGb,if_false]
      ·have hc':(at_ I l (i-1)>=at_ I l i):=Int.not_lt.1 hc
       simp only [hc,hc',decide_true,decide_false,if_true,AGb,if_false]
     ·simp only [h0,decide_false,AGb,if_false,Bool.not_false,Bool.true_or,if_true])
   (by intro back;unfold KZ;simp only [AL,AGb,if_false]) l.length 0 (by omega) (by omega)
  simp only [Int.natCast_zero] at this
  simp only [this,Nat.sub_zero]
  have e:Tg (fun i=>inB lo hi (at_ I l i)&&(!decide (0<i)||decide (at_ I l (i-1)<at_ I l i))) l.length 0=(l.all (inB lo hi)&&DM l):=by
   rw [<- V7 (e:=I) l (inB lo hi)]
   apply De
   rw [AGc,HL,HL,Q2]
   simp only [AGc,Bool.or_eq_true,Bool.not_eq_true',decide_eq_true_eq,decide_eq_false_iff_not]
   constructor
   ·intro h
    exact ⟨fun j h1 h2=>(h j h1 h2).1,fun j h1 h2=>((h j (by omega) (by omega)).2).resolve_left (by omega)⟩
   ·rintro ⟨h1,h2⟩ j h3 h4
    refine ⟨h1 j h3 h4,?_⟩
    by_cases h0:0<j
    ·exact .inr (h2 j h0 (by omega))
    ·exact .inl h0
  simp only [e]
  cases (l.all (inB lo hi)&&DM l)<;>rfl
 ·cases h
theorem S9 (d) (r) (h:EV d=some r):∃N,Wn N d=some r:=by
 obtain ⟨l,_⟩:=d
 unfold EV at h
 split at h
 ·rename_i hl
  have hl:l.length<=lim:=of_decide_eq_true hl
  have hmx:=BH hl
  have h:=AGg h
  subst h
  refine ⟨l.length+1,?_⟩
  unfold Wn
  by_cases hz:l.length=0
  ·have:l=[]:=List.length_eq_zero_iff.1 hz
   subst this
   rfl
  ·have:=HA (L:=fun k d=>R3 (l.length+1) k d) (r:=KO (l.length+1)) (fun _ _=>rfl) (n:=l.length-1) (mk:=fun i=>(l,((i+1:Nat):Int),())) (p:=fun i=>decide (at_ I l i<at_ I l (i+1))) (o:=.inl (false,())) (f:=.inr (.inl ()))
    (by
     intro back i hi
     have h1:i+1<l.length:=by omega
     have h2:i<l.length:=by omega
     unfold KO
     simp only [Az h1,if_true,Iy (show 0<i+1 by omega) (show i+1<=maxLen by omega),Ad h1,A1 h1 hmx,Nat.add_sub_cancel,Ad h2,Int.toNat_natCast]
     by_cases hc:at_ I l i<at_ I l (i+1)
     ·have hc':¬(at_ I l i>=at_ I l (i+1)):=Int.not_le.2 hc
      simp only [hc,hc',decide_true,decide_false,if_true,AGb,if_false]
     ·have hc':(at_ I l i>=at_ I l (i+1)):=Int.not_lt.1 hc
      simp only [hc,hc',decide_true,decide_false,if_true,AGb,if_false])
    (by
     intro back
     unfold KO
     have e:l.length-1+1=l.length:=by omega
     simp only [e,AL,AGb,if_false]) l.length 0 (by omega) (by omega)
   simp only [Nat.zero_add,Int.natCast_one] at this
   simp only [this,Nat.sub_zero]
   have e:Tg (fun i=>decide (at_ I l i<at_ I l (i+1))) (l.length-1) 0=DM l:=by
    apply De
    rw [HL,Q2]
    simp only [decide_eq_true_eq]
    constructor
    ·intro h j h1 h2
     have:=h (j-1) (by omega) (by omega)
     rwa [Nat.sub_add_cancel h1] at this
    ·intro h j h1 h2
     exact h (j+1) (by omega) (by omega)
   simp only [e]
   cases DM l<;>rfl
 ·cases h
theorem UB (d) (r) (h:CO d=some r):∃N,V6 N d=some r:=by
 obtain ⟨l,lo,hi,_⟩:=d
 unfold CO at h
 split at h
 ·rename_i hl
  have hl:l.length<=lim:=of_decide_eq_true hl
  have hmx:=BH hl
  have h:=AGg h
  subst h
  refine ⟨l.length+1,?_⟩
  unfold V6
  have:=HA (L:=R4 (l.length+1)) (r:=K8 (l.length+1)) (fun _ _=>rfl) (n:=l.length) (mk:=fun i=>(lo,hi,l,(l.length:Int),(i:Int),())) (p:=fun i=>inB lo hi (at_ I l i)) (o:=.inl (false,())) (f:=.inr (.inl ()))
   (by
    intro back i hi'
    unfold K8
    simp only [Az hi',if_true,Ad hi',Int.toNat_natCast,A1 hi' hmx,Ip]
    cases hb:inB lo hi (at_ I l i)<;>rfl)
   (by intro back;unfold K8;simp only [AL,AGb,if_false]) l.length 0 (by omega) (by omega)
  simp only [Int.natCast_zero] at this
  simp only [this,Nat.sub_zero,V7 (e:=I) l (inB lo hi)]
  cases (l.all (inB lo hi))<;>rfl
 ·cases h
def Ur:List Int->List Int->Option Int
 | [],_=>none
 | _::_,[]=>some 1
 | a::l,b::m=>if a<b then some (-1) else if b<a then some 1 else Ur l m
theorem ABt:∀l m:List Int,B6 l m=match Ur l m with
  | some r=>r
  | none=>if l.length<m.length then -1 else 0:=by
 intro l
 induction l with
 | nil=>intro m;cases m<;>simp [B6,Ur]
 | cons a l ih=>
  intro m
  cases m with
  | nil=>simp [B6,Ur]
  | cons b m=>
   simp only [B6,Ur]
   by_cases ha:a<b
   ·simp [ha]
   ·by_cases hb:b<a
    ·simp [ha,hb]
    ·simp only [ha,hb,if_false,ih m,List.length_cons,Nat.add_lt_add_iff_right]
theorem Adr (N:Nat) (l m:List Int) (hl:l.length<=lim) (hm:m.length<=lim):∀n i,l.length<=i+n->i<=l.length->i<=m.length->IL N (n+1) (l,m,l,(l.length:Int),(i:Int),()) = 
  match Ur (l.drop i) (m.drop i) with
  | some r=>some (.inl (r,()))
  | none=>some (.inr (.inl (l,m,()))):=by
 have hmx:=BH hl
 intro n
 induction n with
 | zero=>
  intro i h1 h2 h3
  have e:i=l.length:=by omega
  subst e
  rw [AGi (AGf l.length)]
  simp [IL,In,Ur]
 | succ n ih=>
  intro i h1 h2 h3
  by_cases hi:i<l.length
  ·show In N (IL N (n+1)) (l,m,l,(l.length:Int),(i:Int),())=_
   unfold In
   simp only [Az hi,if_true,Ad hi,Int.toNat_natCast,A1 hi hmx]
   rw [AGj hi]
   by_cases hi':i<m.length
   ·have hge:decide ((i:Int)>=(m.length:Int))=false:=by simp;omega
    rw [AGj hi']
    simp only [hge,AGb,if_false,Ad hi',if_true,Axq,AM (e:=I) hi,AM (e:=I) (l:=m) hi',List.get_eq_getElem,Ur]
    by_cases ha:l[i]<m[i]
    ·simp [ha]
    ·by_cases hb:m[i]<l[i]
     ·simp [ha,hb]
     ·simp only [ha,hb,if_false,bne_self_eq_false,AGb]
      exact ih (i+1) (by omega) (by omega) (by omega)
   ·have hge:decide ((i:Int)>=(m.length:Int))=true:=by simp;omega
    rw [AGi (Nat.le_of_not_lt hi')]
    simp only [hge,if_true,Ur]
  ·have e:i=l.length:=by omega
   subst e
   rw [AGi (AGf l.length)]
   simp [IL,In,Ur]
theorem Zw (d) (r) (h:Ew d=some r):∃N,Wz N d=some r:=by
 obtain ⟨l,m,_⟩:=d
 unfold Ew at h
 split at h
 ·rename_i hl
  simp only [AGc] at hl
  have hm:m.length<=lim:=of_decide_eq_true hl.2
  have hl:l.length<=lim:=of_decide_eq_true hl.1
  have h:=AGg h
  subst h
  refine ⟨l.length+1,?_⟩
  unfold Wz
  have:=Adr (l.length+1) l m hl hm l.length 0 (by omega) (by omega) (by omega)
  simp only [Int.natCast_zero,List.drop_zero] at this
  simp only [this,ABt]
  cases Ur l m with
  | some r=>rfl
  | none=>
   by_cases hlt:l.length<m.length
   ·have:decide ((l.length:Int)<(m.length:Int))=true:=by simp;omega
    simp only [Option.bind_some,this,if_true,hlt]
   ·have:decide ((l.length:Int)<(m.length:Int))=false:=by simp;omega
    simp only [Option.bind_some,this,AGb,if_false,hlt]
 ·cases h
theorem TW (n:Int) (l:List E):Tg (fun i=>BD n (at_ Am l i)&&(!decide (0<i)||Ch (at_ Am l (i-1)) (at_ Am l i))) l.length 0=(l.all (BD n)&&C0 l):=by
 rw [<- V7 (e:=Am) l (BD n)]
 apply De
 rw [AGc,HL,HL,Y5]
 simp only [AGc,Bool.or_eq_true,Bool.not_eq_true',decide_eq_false_iff_not]
 constructor
 ·intro h
  exact ⟨fun j h1 h2=>(h j h1 h2).1,fun j h1 h2=>((h j (by omega) (by omega)).2).resolve_left (by omega)⟩
 ·rintro ⟨h1,h2⟩ j h3 h4
  refine ⟨h1 j h3 h4,?_⟩
  by_cases h0:0<j
  ·exact .inr (h2 j h0 (by omega))
  ·exact .inl h0
theorem AF1 (a b:E):decide (B6 [a.1,a.2.1] [b.1,b.2.1]>=0) = !Ch a b:=by
 obtain ⟨a1,a2,_⟩:=a
 obtain ⟨b1,b2,_⟩:=b
 simp only [B6,Ch]
 by_cases h1:a1<b1
 ·simp [h1]
 ·by_cases h2:b1<a1
  ·have:¬a1=b1:=by omega
   simp [h1,h2,this]
  ·have e:a1=b1:=by omega
   subst e
   by_cases h3:a2<b2
   ·simp [h3]
   ·by_cases h4:b2<a2<;>simp [h3,h4]
theorem Axi (n a b:Int):(inB 0 (n-1) a&&inB 0 (n-1) b&&decide (a<b))=(decide (0<=a)&&decide (a<b)&&decide (b<n)):=by
 apply De
 simp only [inB,AGc,decide_eq_true_eq]
 omega
theorem AFq (a b:Int):okL [a,b]=true:=decide_eq_true (show 2<=lim by unfold lim;omega)
theorem Zj (d) (r) (h:C2 d=some r):∃N,Ww N d=some r:=by
 obtain ⟨⟨n,l,u⟩,_⟩:=d
 unfold C2 at h
 split at h
 ·rename_i hl
  have hl:l.length<=lim:=of_decide_eq_true hl
  have hmx:=BH hl
  have h:=AGg h
  subst h
  refine ⟨l.length+1,?_⟩
  unfold Ww
  simp only [Ip,BI]
  cases hn:inB 0 8 n with
  | false=>
   simp only [inB] at hn
   simp only [Bool.not_false,if_true,hn,Bool.false_and]
  | true=>
   have hn':=hn
   simp only [inB] at hn'
   simp only [Bool.not_true,AGb,if_false,hn',Bool.true_and]
   have:=HA (L:=Sc (l.length+1)) (r:=K1 (l.length+1)) (fun _ _=>rfl) (n:=l.length) (mk:=fun i=>((n,l,u),l,(l.length:Int),(i:Int),())) (p:=fun i=>BD n (at_ Am l i)&&(!decide (0<i)||Ch (at_ Am l (i-1)) (at_ Am l i))) (o:=.inl (false,())) (f:=.inr (.inl ()))
    (by
     intro back i hi
     unfold K1
     simp only [Az hi,if_true,Ad hi,Int.toNat_natCast,A1 hi hmx,WC]
     by_cases c1:(at_ Am l i).1<0
     ·have c1':¬(0<=(at_ Am l i).1):=Int.not_le.2 c1
      simp only [c1,decide_true,if_true,BD,c1',decide_false,Bool.false_and,AGb,if_false]
     ·have c1':(0<=(at_ Am l i).1):=Int.not_lt.1 c1
      by_cases c2:(at_ Am l i).1<(at_ Am l i).2.1
      ·have c2':¬((at_ Am l i).1>=(at_ Am l i).2.1):=Int.not_le.2 c2
       by_cases c3:(at_ Am l i).2.1<n
       ·have c3':¬((at_ Am l i).2.1>=n):=Int.not_le.2 c3
        by_cases h0:0<i
        ·have h1:i-1<l.length:=by omega
         simp only [c1,c1',c2,c2',c3,c3',BD,decide_true,decide_false,if_true,if_false,AGb,Bool.true_and,h0,Iy h0 (show i<=maxLen by omega),Ad h1,Int.toNat_natCast,Bool.not_true,Bool.false_or,Ew,AFq,Option.bind_some,AF1]
         cases Ch (at_ Am l (i-1)) (at_ Am l i)<;>rfl
        ·simp only [c1,c1',c2,c2',c3,c3',BD,decide_true,decide_false,if_true,if_false,AGb,Bool.true_and,h0,Bool.not_false,Bool.true_or]
       ·have c3':((at_ Am l i).2.1>=n):=Int.not_lt.1 c3
        simp only [c1,c1',c2,c2',c3,c3',BD,decide_true,decide_false,if_true,if_false,AGb,Bool.and_false,Bool.false_and]
      ·have c2':((at_ Am l i).1>=(at_ Am l i).2.1):=Int.not_lt.1 c2
       simp only [c1,c1',c2,c2',BD,decide_true,decide_false,if_true,if_false,AGb,Bool.and_false,Bool.false_and])
    (by intro back;unfold K1;simp only [AL,AGb,if_false]) l.length 0 (by omega) (by omega)
   simp only [Int.natCast_zero] at this
   simp only [this,Nat.sub_zero,TW]
   cases (l.all (BD n)&&C0 l)<;>rfl
 ·cases h
theorem Afp (d) (r) (h:C2 d=some r):∃N,Sm N d=some r:=by
 obtain ⟨⟨n,l,u⟩,_⟩:=d
 unfold C2 at h
 split at h
 ·rename_i hl
  have hl:l.length<=lim:=of_decide_eq_true hl
  have hmx:=BH hl
  have h:=AGg h
  subst h
  refine ⟨l.length+1,?_⟩
  unfold Sm
  have:=HA (L:=NE (l.length+1)) (r:=IH (l.length+1)) (fun _ _=>rfl) (n:=l.length) (mk:=fun i=>((n,l,u),(i:Int),())) (p:=fun i=>(inB 0 (IntKind.wrap .i64 (n-1)) (at_ Am l i).1&&inB 0 (IntKind.wrap .i64 (n-1)) (at_ Am l i).2.1&&decide ((at_ Am l i).1<(at_ Am l i).2.1))&&(!decide (0<i)||Ch (at_ Am l (i-1)) (at_ Am l i))) (o:=.inl (false,())) (f:=.inr (.inl ((n,l,u),())))
    (by
     intro back i hi
     unfold IH
     simp only [Az hi,if_true,Ad hi,Int.toNat_natCast,A1 hi hmx,WC,Gg,Z1]
     cases c1:inB 0 (IntKind.wrap .i64 (n-1)) (at_ Am l i).1 with
     | false=>rfl
     | true=>
      cases c2:inB 0 (IntKind.wrap .i64 (n-1)) (at_ Am l i).2.1 with
      | false=>rfl
      | true=>
       by_cases c3:(at_ Am l i).1<(at_ Am l i).2.1
       ·have c3':¬((at_ Am l i).1>=(at_ Am l i).2.1):=Int.not_le.2 c3
        by_cases h0:0<i
        ·have h1:i-1<l.length:=by omega
         simp only [c3,c3',decide_true,decide_false,if_true,if_false,AGb,Bool.true_and,h0,Iy h0 (show i<=maxLen by omega),Ad h1,Int.toNat_natCast,Bool.not_true,Bool.false_or]
         cases Ch (at_ Am l (i-1)) (at_ Am l i)<;>rfl
        ·simp only [c3,c3',decide_true,decide_false,if_true,if_false,AGb,Bool.true_and,h0,Bool.not_false,Bool.true_or,Bool.not_true]
       ·have c3':((at_ Am l i).1>=(at_ Am l i).2.1):=Int.not_lt.1 c3
        simp only [c3,c3',decide_true,decide_false,if_true,if_false,AGb,Bool.true_and,Bool.false_and,Bool.not_true])
    (by intro back;unfold IH;simp only [AL,AGb,if_false]) l.length 0 (by omega) (by omega)
  simp only [Int.natCast_zero] at this
  simp only [this,Nat.sub_zero,BI]
  cases hn:inB 0 8 n with
  | false=>
   have hn':=hn
   simp only [inB] at hn'
   simp only [hn',Bool.false_and]
   split<;>simp [Gg,hn]
  | true=>
   have hn':=hn
   simp only [inB] at hn'
   simp only [hn',Bool.true_and]
   simp only [AGc,decide_eq_true_eq] at hn'
   have hw:IntKind.wrap .i64 (n-1)=n-1:=Bj _ (by omega) (by omega)
   have hp:(fun i=>(inB 0 (IntKind.wrap .i64 (n-1)) (at_ Am l i).1&&inB 0 (IntKind.wrap .i64 (n-1)) (at_ Am l i).2.1&&decide ((at_ Am l i).1<(at_ Am l i).2.1))&&(!decide (0<i)||Ch (at_ Am l (i-1)) (at_ Am l i)))=(fun i=>BD n (at_ Am l i)&&(!decide (0<i)||Ch (at_ Am l (i-1)) (at_ Am l i))):=by
    funext i
    congr 1
    rw [hw]
    exact Axi n _ _
   simp only [hp,TW]
   cases (l.all (BD n)&&C0 l)<;>simp [Gg,hn]
 ·cases h
open Go.Proofs
theorem Fp {α:Type} {l:List α} (h:l.length<=1048576):okL l=true:=decide_eq_true (by unfold lim;omega)
theorem DZ {n:Int} {l:List E} {u:Unit} (h:BI (n,l,u)=true):0<=n/\n<=8:=by
 unfold BI at h
 simp only [AGc,decide_eq_true_eq] at h
 exact ⟨h.1.1.1,h.1.1.2⟩
open Go.Proofs
theorem ZB (d) (r) (h:GP d=some r):∃N,W8 N d=some r:=by
 obtain ⟨l,_⟩:=d
 unfold GP at h
 split at h
 ·rename_i hl
  have hl:l.length<=lim:=of_decide_eq_true hl
  have h:=AGg h
  subst h
  refine ⟨0,?_⟩
  unfold W8
  have h1:decide (List.length ([]:List E)+l.length<=lim)=true:=by simp [hl]
  simp only [h1,if_true,List.nil_append]
  split
  ·rename_i h0
   have:l=[]:=List.length_eq_zero_iff.1 (of_decide_eq_true h0)
   subst this
   simp [Ab8]
  ·rfl
 ·cases h
open Go.Proofs
theorem Awt {α:Type}:okL ([]:List α)=true:=decide_eq_true (by simp)
theorem Ci {α:Type} {l:List α} (h:okL l=true):l.length<=lim:=of_decide_eq_true h
open Go.Proofs
theorem Fc {e:Kd} {l:List e.den} {q:e.den->Bool} (h:l.all q=true) {i:Nat} (hi:i<l.length):q (at_ e l i)=true:=by
 rw [AM hi]
 exact List.all_eq_true.1 h _ (List.get_mem l ⟨i,hi⟩)
theorem E4 {H O:Type} {L:Nat->H->Option O} {r:(H->Option O)->H->Option O} (hL:∀k d,L (k+1) d=r (L k) d) {e:Kd} (l:List e.den) {mk:Nat->H} {q:e.den->Bool} {o:Nat->O} {f:O}
  (hr:∀back i,i<l.length->r back (mk i)=if q (at_ e l i)=true then some (o i) else back (mk (i+1))) (hf:∀back,r back (mk l.length)=some f) :
  ∀k i,i<=l.length->l.length<=i+k->L (k+1) (mk i)=some (match Gs q (l.drop i) i with | some j=>o j | none=>f):=by
 intro k
 induction k with
 | zero=>
  intro i h1 h2
  have e:i=l.length:=by omega
  subst e
  rw [hL,hf,AGi (AGf _)]
  rfl
 | succ k ih=>
  intro i h1 h2
  by_cases h:i<l.length
  ·rw [hL,hr _ i h,AGj h]
   simp only [Gs]
   have e:at_ e l i=l[i]:=AM h
   rw [e]
   by_cases hq:q l[i]=true
   ·simp only [hq,if_true]
   ·simp only [hq,if_false]
    exact ih (i+1) (by omega) (by omega)
  ·have e:i=l.length:=by omega
   subst e
   rw [hL,hf,AGi (AGf _)]
   rfl
theorem FA {α:Type} (q:α->Bool):∀(l:List α) (i:Nat),decide (Qt (Gs q l i)>=0)=l.any q:=by
 intro l
 induction l with
 | nil=>intro i;rfl
 | cons x l ih=>
  intro i
  simp only [Gs,List.any_cons]
  by_cases h:q x=true
  ·simp [h,Qt]
  ·have h':q x=false:=by simpa using h
   simp only [h,if_false,h',Bool.false_or,ih]
   exact ih (i+1)
theorem II {l:List (List Int)} (h:DV l=true):okL l=true/\l.all okL=true:=by
 unfold DV at h
 simpa only [AGc] using h
theorem ZU (d) (r) (h:HB d=some r):∃N,PV N d=some r:=by
 obtain ⟨l,⟨u,t,v⟩,w⟩:=d
 unfold HB at h
 split at h
 ·rename_i hll
  obtain ⟨hl1,ha⟩:=II hll
  have hl:l.length<=lim:=Ci hl1
  have hmx:=BH hl
  have h:=AGg h
  subst h
  refine ⟨l.length+1,?_⟩
  unfold PV
  have:=E4 (L:=RX (l.length+1)) (r:=K9 (l.length+1)) (fun _ _=>rfl) (e:=Ai) l (mk:=fun i=>(l,(u,t,v),(l.length:Int),(i:Int),())) (q:=MY t) (o:=fun i=>.inl ((i:Int),())) (f:=.inr (.inl ()))
   (by
    intro back i hi
    have hx:okL (at_ Ai l i)=true:=Fc (e:=Ai) ha hi
    unfold K9 WZ VF
    simp only [Az hi,if_true,Ad hi,Int.toNat_natCast,A1 hi hmx,EV,CO,hx,Option.bind_some,MY]
    rcases Bool.eq_false_or_eq_true (DM (at_ Ai l i)) with hr | hr<;>rcases Bool.eq_false_or_eq_true (List.all (at_ Ai l i) (inB 0 (IntKind.wrap .i64 (t.2.1-1)))) with hq | hq<;>simp [hr,hq])
   (by intro back;unfold K9;simp only [AL,AGb,if_false]) l.length 0 (by omega) (by omega)
  simp only [Int.natCast_zero,List.drop_zero] at this
  simp only [this,Option.bind_some]
  cases Gs (MY t) l 0<;>rfl
 ·cases h
theorem Aga (l:List (List Int)) (u:Unit) (t:Tt) (v w:Unit) (h:DV l=true):ZQ 0 (l,(u,t,v),w)=some (l.any (MY t),()):=by
 unfold ZQ
 have e:PV=PV:=rfl
 simp only [HB,h,if_true,Option.bind_some,FA]
theorem Afz (g:Gr) (u:Unit) (h:okL g.2.1=true):SP 0 (g,1,u)=some (BI g&&decide (g.1>0),()):=by
 unfold SP C2
 simp only [h,if_true,Option.bind_some,Gg]
 cases BI g with
 | false=>rfl
 | true=>
  by_cases c:g.1>0
  ·simp only [c,decide_true,if_true]
   rfl
  ·simp only [c,decide_false,if_true,if_false,AGb,Bool.and_false]
theorem Yh (d) (r) (h:C7 d=some r):∃N,V2 N d=some r:=by
 obtain ⟨⟨g,p,l,u⟩,w⟩:=d
 unfold C7 at h
 split at h
 ·rename_i hc
  simp only [okT,AGc] at hc
  obtain ⟨hg,hll⟩:=hc
  obtain ⟨hl1,ha⟩:=II hll
  have hl:l.length<=lim:=Ci hl1
  have hmx:=BH hl
  have h:=AGg h
  subst h
  refine ⟨l.length+1,?_⟩
  unfold V2
  have:=HA (L:=RS (l.length+1)) (r:=Le (l.length+1)) (fun _ _=>rfl) (n:=l.length) (mk:=fun i=>((g,p,l,u),(i:Int),())) (p:=fun i => !MY (g,p,l,u) (at_ Ai l i)) (o:=.inl (false,())) (f:=.inr (.inl ((g,p,l,u),())))
   (by
    intro back i hi
    have hx:okL (at_ Ai l i)=true:=Fc (e:=Ai) ha hi
    unfold Le
    simp only [Az hi,if_true,Ad hi,Int.toNat_natCast,A1 hi hmx,GO,hx,Option.bind_some,MY]
    rcases Bool.eq_false_or_eq_true (DM (at_ Ai l i)) with hr | hr<;>rcases Bool.eq_false_or_eq_true (List.all (at_ Ai l i) (inB 0 (IntKind.wrap .i64 (p-1)))) with hq | hq<;>simp [hr,hq])
   (by intro back;unfold Le;simp only [AL,AGb,if_false]) l.length 0 (by omega) (by omega)
  simp only [Int.natCast_zero] at this
  have e:Tg (fun i => !MY (g,p,l,u) (at_ Ai l i)) l.length 0 = !l.any (MY (g,p,l,u)):=by
   rw [V7 (e:=Ai) l (fun x => !MY (g,p,l,u) x)]
   simp only [List.all_eq_not_any_not,Bool.not_not]
  simp only [this,Nat.sub_zero,e,AV]
  cases l.any (MY (g,p,l,u)) with
  | true=>simp
  | false=>
   simp only [Bool.not_false,if_true,Option.bind_some,Afz g _ hg,Gg,Bool.and_true]
   cases (BI g&&decide (g.1>0)) with
   | false=>rfl
   | true=>
    cases inB 1 4 p with
    | false=>rfl
    | true=>
     simp only [if_true,Bool.true_and,AGd,Prod.mk.injEq,and_true]
     by_cases hc:l.length=g.2.1.length
     ·simp [hc]
     ·have:¬(l.length:Int)=(g.2.1.length:Int):=by omega
      simp [hc,this]
 ·cases h
theorem U5 (t:Tt) (w:Unit) (h:okT t=true):Hk 0 (t,w)=some (AV t,()):=by
 obtain ⟨⟨n,es,v⟩,p,l,u⟩:=t
 simp only [okT,AGc] at h
 unfold Hk C2
 simp only [h.1,if_true,Option.bind_some,Ip,AV]
 cases hg:BI (n,es,v) with
 | false=>rfl
 | true=>
  have:=DZ hg
  by_cases c:n=0
  ·have c':¬n>0:=by omega
   have c2:(n==(0:Int))=true:=by simp [c]
   simp only [c2,c',Bool.not_true,AGb,if_false,if_true,decide_false,Bool.and_false,Bool.false_and]
  ·have c':n>0:=by omega
   have c2:(n==(0:Int))=false:=by simp [c]
   simp only [c2,c',Bool.not_true,AGb,if_false,decide_true,Bool.true_and]
   cases inB 1 4 p with
   | false=>rfl
   | true=>
    simp only [Bool.not_true,AGb,if_false,Bool.true_and]
    by_cases hc:l.length=es.length
    ·have:((l.length:Int) != (es.length:Int))=false:=by simp [hc]
     simp only [this,AGb,if_false,Aga l () ((n,es,v),p,l,u) () () h.2,Option.bind_some,hc,decide_true,Bool.true_and,bne_self_eq_false]
    ·have:((l.length:Int) != (es.length:Int))=true:=by simp;omega
     simp only [this,if_true,hc,decide_false,Bool.false_and]
theorem IU {l:List (List Int)} (h1:l.length<=1048576) (h2:l.all (fun x=>decide (x.length<=1048576))=true):DV l=true:=by
 unfold DV
 rw [AGc]
 exact ⟨Fp h1,List.all_eq_true.2 fun x hx=>Fp (of_decide_eq_true (List.all_eq_true.1 h2 x hx))⟩
open Go.Proofs
theorem Aqz (m:Nat):List.replicate m ([0]:List Int)++[[0]]=List.replicate (m+1) [0]:=by
 rw [List.replicate_succ']
theorem UP (N:Nat) (m:Nat) (x:Tt) (y:Gr) (p:Int) (hl:m<=lim):∀n i,m<=i+n->i<=m ->
  IQ N (n+1) (x,(y,p,List.replicate i [0],()),(m:Int),(i:Int),())=some (.inl (x,(y,p,List.replicate m [0],()),())):=by
 intro n
 induction n with
 | zero=>
  intro i h1 h2
  have e:i=m:=by omega
  subst e
  simp [IQ,HF]
 | succ n ih=>
  intro i h1 h2
  by_cases hi:i<m
  ·show HF N (IQ N (n+1)) (x,(y,p,List.replicate i [0],()),(m:Int),(i:Int),())=_
   unfold HF
   have hle:decide ((List.replicate i ([0]:List Int)).length+List.length [[(0:Int)]]<=lim)=true:=by simp;omega
   simp only [Az hi,if_true,hle,A1 hi (BH hl),Aqz]
   exact ih (i+1) (by omega) (by omega)
  ·have e:i=m:=by omega
   subst e
   simp [IQ,HF]
theorem Uk (d) (r) (h:Iu d=some r):∃N,V4 N d=some r:=by
 obtain ⟨⟨n,l,u⟩,w⟩:=d
 unfold Iu at h
 split at h
 ·rename_i ho
  have ho:okL l=true:=ho
  have hl:l.length<=lim:=Ci ho
  have h:=AGg h
  subst h
  refine ⟨l.length+1,?_⟩
  unfold V4 We C2 GP
  have:=UP (l.length+1) l.length ((0,[],()),0,[],()) (n,l,()) 1 hl l.length 0 (by simp) (by omega)
  simp only [Int.natCast_zero,List.replicate_zero] at this
  simp only [ho,if_true,Option.bind_some,this]
  cases hg:BI (n,l,u) with
  | false=>rfl
  | true=>
   have:=DZ hg
   by_cases c:n=0
   ·have c':¬n>0:=by omega
    have c2:(n==(0:Int))=true:=by simp [c]
    simp only [c2,c',Bool.not_true,AGb,if_false,if_true,decide_false,Bool.and_false]
   ·have c':n>0:=by omega
    have c2:(n==(0:Int))=false:=by simp [c]
    simp only [c2,c',Bool.not_true,AGb,if_false,if_true,decide_true,Bool.and_true]
 ·cases h
end Go.V.W
end
