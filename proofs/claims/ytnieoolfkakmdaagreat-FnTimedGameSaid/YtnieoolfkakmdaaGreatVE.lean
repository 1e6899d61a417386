/- What the law FnTimedGame leans on, part 5: an interpreter of the model as plain data, its soundness, the functions as it tells them, and their laws. -/
import Derived.Test.YtnieoolfkakmdaaGreatProg
import Derived.Test.YtnieoolfkakmdaaGreatVD
set_option linter.unusedVariables false
set_option linter.unusedSimpArgs false
set_option maxRecDepth 100000
noncomputable section
namespace Go.V.W
open Go.Proofs
abbrev I:Kd:=.int .i64
abbrev K_Su8:Kd:=.slice (.int .u8)
abbrev Ays:Kd:=.pair (.int .u64) .unit
abbrev At5:Kd:=.pair I Ays
abbrev CM:Kd:=.pair K_Su8 At5
abbrev AY:Kd:=.bx CM
abbrev Ai:Kd:=.slice I
abbrev AEa:Kd:=.pair I .unit
abbrev Am:Kd:=.pair I AEa
abbrev Cb:Kd:=.slice Am
abbrev Akl:Kd:=.pair Cb .unit
abbrev Aj:Kd:=.pair I Akl
abbrev Axc:Kd:=.ssl Am
abbrev Ang:Kd:=.pair Axc .unit
abbrev Agb:Kd:=.pair I Ang
abbrev Ag:Kd:=.slice Ai
abbrev Ag3:Kd:=.pair Ag .unit
abbrev YU:Kd:=.pair I Ag3
abbrev B5:Kd:=.pair Agb YU
abbrev Ae:Kd:=.pair Aj YU
abbrev An:Kd:=.slice Ag
abbrev EV:Kd:=.bx Ae
abbrev LA:Kd:=.pair EV .unit
abbrev Bc:Kd:=.clo 168 .unit LA
abbrev AA:Kd:=.pair Ai .unit
abbrev AU:Kd:=.slice AA
abbrev EQ:Kd:=.clo 228 .unit .unit
abbrev OQ:Kd:=.bx I
abbrev Ael:Kd:=.pair OQ .unit
abbrev Db:Kd:=.clo 227 .unit Ael
abbrev EX:Kd:=.clo 230 .unit Ael
abbrev Lt:Kd:=.bx AA
abbrev QI:Kd:=.bx Ag
abbrev FU:Kd:=.bx EX
abbrev Nn:Kd:=.pair FU .unit
abbrev Jz:Kd:=.pair QI Nn
abbrev G0:Kd:=.pair Lt Jz
abbrev FZ:Kd:=.pair OQ G0
abbrev AB:Kd:=.clo 255 .unit FZ
abbrev Hb:Kd:=.clo 233 .unit .unit
abbrev IO:Kd:=.bx Hb
abbrev SN:Kd:=.pair IO .unit
abbrev LU:Kd:=.pair QI SN
abbrev If:Kd:=.pair Lt LU
abbrev G3:Kd:=.pair OQ If
abbrev AC:Kd:=.clo 255 .unit G3
abbrev Dk:Kd:=.pair I Am
abbrev FF:Kd:=.slice Dk
abbrev EE:Kd:=.clo 199 .unit .unit
abbrev F5:Kd:=.clo 204 .unit .unit
abbrev AF2:Kd:=.ssl I
abbrev ADa:Kd:=.pair AF2 .unit
abbrev AEt:Kd:=.ssl Ai
abbrev Afm:Kd:=.pair Ag Ag3
abbrev Uw:Kd:=.pair AEt Afm
abbrev AE:Kd:=.pair ADa Uw
abbrev Bg:Kd:=.bx AE
abbrev Ec:Kd:=.bx Bg
abbrev HI:Kd:=.pair Ec Ael
abbrev A4:Kd:=.clo 243 .unit HI
abbrev Aqj:Kd:=.pair AA .unit
abbrev Ch:Kd:=.clo 237 Aqj .unit
def tks:List (Nat×Kd):=[(3,I),(4,.bool),(5,(.int .u8)),(22,K_Su8),(24,Cb),(26,Aj),(27,Ag),(36,Ai),(52,Am),(74,Ae),(75,An),(94,(.int .u64)),(96,CM),(107,AA),(118,AE),(151,AU),(187,FF),(188,Dk),(192,(.int .u64))]
def ars:List (Nat×Nat):=[(52,3),(188,3)]
def Xc:Ctx:={ tk:=Ac tks,ar:=Ac ars,fs:=Ac [] }
def Hc (N:Nat) (d:List Int×Unit):Option (Bool×Unit):=
 let a0:=d.1
 some ((decide ((List.length a0:Int)>(65536:Int)),()))
def EC (d:List Int×Unit):Bool×Unit:=
 let a0:=d.1
 ((decide ((List.length a0:Int)>(65536:Int)),()))
theorem RE (N:Nat) (d):Hc N d=some (EC d):=by
 unfold Hc EC
 first
  | rfl
  | (dsimp only; (repeat' split)<;>rfl)
def Q4:FSig:=⟨[(K_Su8,false)],[.bool],true,(fun d=>some (EC d))⟩
def Axq:Ctx:={ tk:=Ac tks,ar:=Ac ars,fs:=Ac [],lent:=fun t=>Nat.beq t 0 }
def OH (N:Nat) (d:(List Int×Int×Int×Unit)×Unit):Option (Int×(List Int×Int×Int×Unit)×Unit):=
 let a0:=d.1
 if (decide (a0.2.1<(List.length a0.1:Int)))=true then
  if (Af a0.2.1 (List.length a0.1))=true then
  let x1:=IntKind.wrap .i64 (at_ (.int .u8) a0.1 a0.2.1.toNat)
  let x2:=IntKind.wrap .i64 (a0.2.1+(1:Int))
  let x3:=IntKind.wrap .u64 (a0.2.2.1*(6364136223846793005:Int))
  let x4:=IntKind.wrap .u64 (x3+IntKind.wrap .u64 x1)
  let x5:=IntKind.wrap .u64 (x4+(462197:Int))
  if (decide (x2<=(List.length a0.1:Int)))=true then
   some ((x1,((a0.1,(x2,(x5,a0.2.2.2))),())))
  else
   if (decide (0<=(40:Int)))=true then
   let x6:=bits .and .u64 (shr .u64 x5 (40:Int)) (255:Int)
   some ((IntKind.wrap .i64 x6,((a0.1,(x2,(x5,a0.2.2.2))),())))
   else none
  else none
 else
  let x7:=IntKind.wrap .i64 (a0.2.1+(1:Int))
  let x8:=IntKind.wrap .u64 (a0.2.2.1*(6364136223846793005:Int))
  let x9:=IntKind.wrap .u64 (x8+IntKind.wrap .u64 (0:Int))
  let x10:=IntKind.wrap .u64 (x9+(462197:Int))
  if (decide (x7<=(List.length a0.1:Int)))=true then
   some (((0:Int),((a0.1,(x7,(x10,a0.2.2.2))),())))
  else
   if (decide (0<=(40:Int)))=true then
   let x11:=bits .and .u64 (shr .u64 x10 (40:Int)) (255:Int)
   some ((IntKind.wrap .i64 x11,((a0.1,(x7,(x10,a0.2.2.2))),())))
   else none
def As1:FSig:=⟨[(AY,true)],[I],true,(OH 0)⟩
def Axk:Ctx:={ tk:=Ac tks,ar:=Ac ars,fs:=Ac [(187,As1)],lent:=fun t=>Nat.beq t 0 }
def BU (N:Nat) (d:(List Int×Int×Int×Unit)×Int×Unit):Option (Int×(List Int×Int×Int×Unit)×Unit):=
 let a0:=d.1
 let a1:=d.2.1
 if (decide (a1<=(1:Int)))=true then
  some (((0:Int),(a0,())))
 else
  ((OH 0) (a0,())).bind fun r1=>
  if (decide (a1>(200:Int)))=true then
   let x2:=IntKind.wrap .i64 (r1.1*(256:Int))
   ((OH 0) (r1.2.1,())).bind fun r3=>
   let x4:=IntKind.wrap .i64 (x2+r3.1)
   if (a1 != 0)=true then
   some ((x4.tmod a1,(r3.2.1,())))
   else none
  else
   if (a1 != 0)=true then
   some ((r1.1.tmod a1,(r1.2.1,())))
   else none
def JL:FSig:=⟨[(AY,true),(I,false)],[I],true,(BU 0)⟩
def Awj:Ctx:={ tk:=Ac tks,ar:=Ac ars,fs:=Ac [(91,JL)],lent:=fun t=>Nat.beq t 0 }
def CA (N:Nat) (d:(List Int×Int×Int×Unit)×List Int×Unit):Option (Int×(List Int×Int×Int×Unit)×Unit):=
 let a0:=d.1
 let a1:=d.2.1
 ((BU 0) ((a0,((List.length a1:Int),())))).bind fun r1=>
 if (Af r1.1 (List.length a1))=true then
 some ((at_ I a1 r1.1.toNat,(r1.2.1,())))
 else none
def Mz:FSig:=⟨[(AY,true),(Ai,false)],[I],true,(CA 0)⟩
def Aza:Ctx:={ tk:=Ac tks,ar:=Ac ars,fs:=Ac [(91,JL)],lent:=fun t=>Nat.beq t 0 }
def F2 (N:Nat) (d:(List Int×Int×Int×Unit)×Int×Unit):Option (Bool×(List Int×Int×Int×Unit)×Unit):=
 let a0:=d.1
 let a1:=d.2.1
 ((BU 0) ((a0,(a1,())))).bind fun r1=>
 some ((r1.1==(0:Int),(r1.2.1,())))
def VG:FSig:=⟨[(AY,true),(I,false)],[.bool],true,(F2 0)⟩
def Aw7:Ctx:={ tk:=Ac tks,ar:=Ac ars,fs:=Ac [] }
def XL (N:Nat) (d:Int×Int×Unit):Option (Int×Unit):=
 let a0:=d.1
 let a1:=d.2.1
 if (decide (a0<a1))=true then
  some (a0,())
 else
  some (a1,())
def J1 (d:Int×Int×Unit):Int×Unit:=
 let a0:=d.1
 let a1:=d.2.1
 if (decide (a0<a1))=true then
  (a0,())
 else
  (a1,())
theorem Aba (N:Nat) (d):XL N d=some (J1 d):=by
 unfold XL J1
 first
  | rfl
  | (dsimp only; (repeat' split)<;>rfl)
def Apn:FSig:=⟨[(I,false),(I,false)],[I],true,(fun d=>some (J1 d))⟩
def Aru:Ctx:={ tk:=Ac tks,ar:=Ac ars,fs:=Ac [] }
abbrev MD:=Int×Gr×Gr×Int×Unit
abbrev Mp:=(Gr×Gr×Unit)⊕Empty
def Adf:AP:=[(0,.v I),(2,.box Aj 99),(3,.box Aj 99),(4,.v I)]
def Aey:AJ:=[(.normal,[(2,.box Aj 99),(3,.box Aj 99)])]
def Eu (N:Nat) (back:MD->Option Mp) (d:MD):Option Mp:=
 let s0:=d.1
 let s2:=d.2.1
 let s3:=d.2.2.1
 let s4:=d.2.2.2.1
 let x6:=IntKind.wrap .i64 (s4+(1:Int))
 if (decide (x6<s0))=true then
  let x7:=IntKind.wrap .i64 (s4+(1:Int))
  if (decide (List.length s3.2.1+List.length ([(s4,(x7,()))])<=lim))=true then
  let x8:=IntKind.wrap .i64 (s4+(1:Int))
  back ((s0,(s2,((s3.1,(s3.2.1++([(s4,(x7,()))]),s3.2.2)),(x8,())))))
  else none
 else
  some (.inl ((s2,(s3,()))))
def Nl (N:Nat):Nat->MD->Option Mp
 | 0,_=>none
 | k+1,d=>Eu N (Nl N k) d
def Fs (N:Nat) (d:Int×Unit):Option (Gr×Unit):=
 let a0:=d.1
 (Nl N N ((a0,(((0:Int),(([]:List (Int×Int×Unit)),())),((a0,(([]:List (Int×Int×Unit)),())),((0:Int),())))))).bind fun o4=>match o4 with
 | .inl d5=>
  some (d5.2.1,())
def Xu:FSig:=⟨[(I,false)],[Aj],true,(CX Fs Ep)⟩
def Awg:Ctx:={ tk:=Ac tks,ar:=Ac ars,fs:=Ac [] }
def We (N:Nat) (d:(Int×Int×Unit)×(Int×Int×Unit)×Unit):Option (Bool×Unit):=
 let a0:=d.1
 let a1:=d.2.1
 if (decide (a0.1<a1.1))=true then
  some (true,())
 else
  if (a0.1==a1.1)=true then
   some (decide (a0.2.1<a1.2.1),())
  else
   some (false,())
def IB (d:(Int×Int×Unit)×(Int×Int×Unit)×Unit):Bool×Unit:=
 let a0:=d.1
 let a1:=d.2.1
 if (decide (a0.1<a1.1))=true then
  (true,())
 else
  if (a0.1==a1.1)=true then
   (decide (a0.2.1<a1.2.1),())
  else
   (false,())
theorem Aca (N:Nat) (d):We N d=some (IB d):=by
 unfold We IB
 first
  | rfl
  | (dsimp only; (repeat' split)<;>rfl)
def Abk:FSig:=⟨[(Am,false),(Am,false)],[.bool],true,(fun d=>some (IB d))⟩
def UF:Ctx:={ tk:=Ac tks,ar:=Ac ars,fs:=Ac [(200,Abk)] }
abbrev F3:=(List (Int×Int×Unit))×(Int×Int×Unit)×Int×Unit
abbrev FY:=((List (Int×Int×Unit))×(Int×Int×Unit)×Int×Unit)⊕Empty
def Rt:AP:=[(0,.v Cb),(3,.box Am 99),(5,.v I)]
def Rv:AJ:=[(.normal,[(0,.v Cb),(3,.box Am 99),(5,.v I)])]
def Ds (N:Nat) (back:F3->Option FY) (d:F3):Option FY:=
 let s0:=d.1
 let s3:=d.2.1
 let s5:=d.2.2.1
 if (decide (s5<(List.length s0:Int)))=true then
  if (Af s5 (List.length s0))=true then
  let r7:=IB ((at_ Am s0 s5.toNat,(s3,())))
  if (r7.1)=true then
   let x8:=IntKind.wrap .i64 (s5+(1:Int))
   back ((s0,(s3,(x8,()))))
  else
   some (.inl ((s0,(s3,(s5,())))))
  else none
 else
  some (.inl ((s0,(s3,(s5,())))))
def Fx (N:Nat):Nat->F3->Option FY
 | 0,_=>none
 | k+1,d=>Ds N (Fx N k) d
def Gw (N:Nat) (d:(List (Int×Int×Unit))×(Int×Int×Unit)×Unit):Option ((List (Int×Int×Unit))×Unit):=
 let a0:=d.1
 let a1:=d.2.1
 (Fx N N ((a0,(a1,((0:Int),()))))).bind fun o3=>match o3 with
 | .inl d4=>
  if ((decide (0<=(0:Int))&&decide ((0:Int)<=d4.2.2.1)&&decide (d4.2.2.1<=(List.length d4.1:Int))))=true then
  if (decide (List.length ([]:List (Int×Int×Unit))+List.length (CY d4.1 (0:Int) d4.2.2.1)<=lim))=true then
  let x5:=([]:List (Int×Int×Unit))++(CY d4.1 (0:Int) d4.2.2.1)
  if (decide (List.length x5+List.length ([d4.2.1])<=lim))=true then
  if ((decide (0<=d4.2.2.1)&&decide (d4.2.2.1<=(List.length d4.1:Int))&&decide ((List.length d4.1:Int)<=(List.length d4.1:Int))))=true then
  let x6:=CY d4.1 d4.2.2.1 (List.length d4.1:Int)
  if (decide (List.length (x5++([d4.2.1]))+List.length x6<=lim))=true then
  some (((x5++([d4.2.1]))++x6,()))
  else none
  else none
  else none
  else none
  else none
def I9:FSig:=⟨[(Cb,false),(Am,false)],[Cb],true,(Ha)⟩
def Axa:Ctx:={ tk:=Ac tks,ar:=Ac ars,fs:=Ac [(185,Xu),(186,I9)] }
def JO (N:Nat) (d:Int×Unit):Option (Gr×Unit):=
 let a0:=d.1
 ((CX Fs Ep) (a0,())).bind fun r1=>
 let x2:=IntKind.wrap .i64 (a0-(1:Int))
 (Ha ((r1.1.2.1,(((0:Int),(x2,())),())))).bind fun r3=>
 some (((r1.1.1,(r3.1,r1.1.2.2)),()))
def Ar1:FSig:=⟨[(I,false)],[Aj],true,(JO 0)⟩
def Ax5:Ctx:={ tk:=Ac tks,ar:=Ac ars,fs:=Ac [] }
abbrev OV:=Int×Gr×Gr×Int×Int×Unit
abbrev Qh:=(Int×Gr×Gr×Int×Unit)⊕Empty
def Aiw:AP:=[(0,.v I),(2,.box Aj 99),(3,.box Aj 99),(4,.v I),(5,.v I)]
def Ans:AJ:=[(.normal,[(0,.v I),(2,.box Aj 99),(3,.box Aj 99),(4,.v I)])]
def H5 (N:Nat) (back:OV->Option Qh) (d:OV):Option Qh:=
 let s0:=d.1
 let s2:=d.2.1
 let s3:=d.2.2.1
 let s4:=d.2.2.2.1
 let s5:=d.2.2.2.2.1
 if (decide (s5<s0))=true then
  if (decide (List.length s3.2.1+List.length ([(s4,(s5,()))])<=lim))=true then
  let x13:=IntKind.wrap .i64 (s5+(1:Int))
  back ((s0,(s2,((s3.1,(s3.2.1++([(s4,(s5,()))]),s3.2.2)),(s4,(x13,()))))))
  else none
 else
  some (.inl ((s0,(s2,(s3,(s4,()))))))
def Sy (N:Nat):Nat->OV->Option Qh
 | 0,_=>none
 | k+1,d=>H5 N (Sy N k) d
abbrev Qb:=Int×Gr×Gr×Int×Unit
abbrev NX:=(Gr×Gr×Unit)⊕Empty
def Akw:AP:=[(0,.v I),(2,.box Aj 99),(3,.box Aj 99),(4,.v I)]
def Alg:AJ:=[(.normal,[(2,.box Aj 99),(3,.box Aj 99)])]
def Hu (N:Nat) (back:Qb->Option NX) (d:Qb):Option NX:=
 let s0:=d.1
 let s2:=d.2.1
 let s3:=d.2.2.1
 let s4:=d.2.2.2.1
 if (decide (s4<s0))=true then
  let x8:=IntKind.wrap .i64 (s4+(1:Int))
  (Sy N N ((s0,(s2,(s3,(s4,(x8,()))))))).bind fun o10=>match o10 with
  | .inl d11=>
   let x12:=IntKind.wrap .i64 (d11.2.2.2.1+(1:Int))
   back ((d11.1,(d11.2.1,(d11.2.2.1,(x12,())))))
 else
  some (.inl ((s2,(s3,()))))
def Sz (N:Nat):Nat->Qb->Option NX
 | 0,_=>none
 | k+1,d=>Hu N (Sz N k) d
def IH (N:Nat) (d:Int×Unit):Option (Gr×Unit):=
 let a0:=d.1
 (Sz N N ((a0,(((0:Int),(([]:List (Int×Int×Unit)),())),((a0,(([]:List (Int×Int×Unit)),())),((0:Int),())))))).bind fun o6=>match o6 with
 | .inl d7=>
  some (d7.2.1,())
def Ata:FSig:=⟨[(I,false)],[Aj],true,(CX IH Ep)⟩
def Aqs:Ctx:={ tk:=Ac tks,ar:=Ac ars,fs:=Ac [] }
def SD (N:Nat) (d:Int×Int×Unit):Option (Int×Unit):=
 let a0:=d.1
 let a1:=d.2.1
 if (decide (a0>a1))=true then
  some (a0,())
 else
  some (a1,())
def G7 (d:Int×Int×Unit):Int×Unit:=
 let a0:=d.1
 let a1:=d.2.1
 if (decide (a0>a1))=true then
  (a0,())
 else
  (a1,())
theorem Yu (N:Nat) (d):SD N d=some (G7 d):=by
 unfold SD G7
 first
  | rfl
  | (dsimp only; (repeat' split)<;>rfl)
def RT:FSig:=⟨[(I,false),(I,false)],[I],true,(fun d=>some (G7 d))⟩
def Au2:Ctx:={ tk:=Ac tks,ar:=Ac ars,fs:=Ac [] }
abbrev Mc:=Int×Int×Gr×Int×Unit
abbrev Mr:=(Bool×Unit)⊕Unit⊕Empty
def Abj:AP:=[(1,.v I),(2,.v I),(3,.box Aj 0),(7,.v I)]
def Ae5:AJ:=[(.ret,[(6,.v .bool)]),(.normal,[])]
def I0 (N:Nat) (back:Mc->Option Mr) (d:Mc):Option Mr:=
 let s1:=d.1
 let s2:=d.2.1
 let s3:=d.2.2.1
 let s7:=d.2.2.2.1
 if (decide (s7<(List.length s3.2.1:Int)))=true then
  if (Af s7 (List.length s3.2.1))=true then
  if ((at_ Am s3.2.1 s7.toNat).1==s1)=true then
   if ((at_ Am s3.2.1 s7.toNat).2.1==s2)=true then
    some (.inl (true,()))
   else
    if ((at_ Am s3.2.1 s7.toNat).1==s2)=true then
     if ((at_ Am s3.2.1 s7.toNat).2.1==s1)=true then
      some (.inl (true,()))
     else
      let x8:=IntKind.wrap .i64 (s7+(1:Int))
      back ((s1,(s2,(s3,(x8,())))))
    else
     let x9:=IntKind.wrap .i64 (s7+(1:Int))
     back ((s1,(s2,(s3,(x9,())))))
  else
   if ((at_ Am s3.2.1 s7.toNat).1==s2)=true then
    if ((at_ Am s3.2.1 s7.toNat).2.1==s1)=true then
     some (.inl (true,()))
    else
     let x10:=IntKind.wrap .i64 (s7+(1:Int))
     back ((s1,(s2,(s3,(x10,())))))
   else
    let x11:=IntKind.wrap .i64 (s7+(1:Int))
    back ((s1,(s2,(s3,(x11,())))))
  else none
 else
  some (.inr (.inl ()))
def Nf (N:Nat):Nat->Mc->Option Mr
 | 0,_=>none
 | k+1,d=>I0 N (Nf N k) d
def Sg (N:Nat) (d:Gr×Int×Int×Unit):Option (Bool×Unit):=
 let a0:=d.1
 let a1:=d.2.1
 let a2:=d.2.2.1
 (Nf N N ((a1,(a2,(a0,((0:Int),())))))).bind fun o5=>match o5 with
 | .inl d6=>
  some (d6.1,())
 | .inr (.inl d7)=>
  some (false,())
def Xd:FSig:=⟨[(Aj,false),(I,false),(I,false)],[.bool],true,(FE)⟩
def Av4:Ctx:={ tk:=Ac tks,ar:=Ac ars,fs:=Ac [(91,JL),(133,Mz)],lent:=fun t=>Nat.beq t 0,cs:=Ac [],gs:=Ac [],eqt:=inL [],md:={ gone:=[1],deep:=[] } }
def Cp (N:Nat) (d:(List Int×Int×Int×Unit)×Gr×Unit):Option (Gr×(List Int×Int×Int×Unit)×Gr×Unit):=
 let a0:=d.1
 let a1:=d.2.1
 ((BU 0) ((a0,((50:Int),())))).bind fun r1=>
 if (r1.1==(0:Int))=true then
  ((CA 0) ((r1.2.1,([(-1:Int),(8:Int),(9:Int),(0:Int),(4611686018427387904:Int)],())))).bind fun r2=>
  some (((r2.1,a1.2),(r2.2.1,(((0:Int),(([]:List (Int×Int×Unit)),())),()))))
 else
  if (r1.1==(1:Int))=true then
   ((BU 0) ((r1.2.1,((4:Int),())))).bind fun r3=>
   ((BU 0) ((r3.2.1,((9:Int),())))).bind fun r4=>
   let x5:=IntKind.wrap .i64 (r4.1-(1:Int))
   if (decide (List.length a1.2.1+List.length ([(r3.1,(x5,()))])<=lim))=true then
   let x6:=a1.2.1++([(r3.1,(x5,()))])
   some (((a1.1,(x6,a1.2.2)),(r4.2.1,(((0:Int),(([]:List (Int×Int×Unit)),())),()))))
   else none
  else
   if (r1.1==(2:Int))=true then
    if (decide ((List.length a1.2.1:Int)>(0:Int)))=true then
     ((BU 0) ((r1.2.1,((List.length a1.2.1:Int),())))).bind fun r7=>
     if (Af r7.1 (List.length a1.2.1))=true then
     if (decide (List.length a1.2.1+List.length ([at_ Am a1.2.1 r7.1.toNat])<=lim))=true then
     let x8:=a1.2.1++([at_ Am a1.2.1 r7.1.toNat])
     some (((a1.1,(x8,a1.2.2)),(r7.2.1,(((0:Int),(([]:List (Int×Int×Unit)),())),()))))
     else none
     else none
    else
     some ((a1,(r1.2.1,(((0:Int),(([]:List (Int×Int×Unit)),())),()))))
   else
    some ((a1,(r1.2.1,(((0:Int),(([]:List (Int×Int×Unit)),())),()))))
def Ast:FSig:=⟨[(AY,true),(Aj,true)],[Aj],true,(Cp 0)⟩
def Ayf:Ctx:={ tk:=Ac tks,ar:=Ac ars,fs:=Ac [(89,VG),(90,Ar1),(91,JL),(133,Mz),(185,Xu),(186,I9),(201,RT),(238,Apn),(239,Ata),(240,Xd)],lent:=fun t=>Nat.beq t 0,cs:=Ac [],gs:=Ac [(241,(Ast,{ gone:=[1],deep:=[] }))],eqt:=inL [],md:=md0 }
abbrev O4:=(List Int×Int×Int×Unit)×Gr×Int×Gr×Int×Bool×Int×Int×Unit
abbrev QN:=((List Int×Int×Int×Unit)×Gr×Int×Gr×Int×Bool×Int×Unit)⊕Empty
def Akc:AP:=[(0,.box CM 0),(4,.box Aj 99),(5,.v I),(6,.box Aj 99),(7,.v I),(8,.v .bool),(9,.v I),(10,.v I)]
def Ami:AJ:=[(.normal,[(0,.box CM 0),(4,.box Aj 99),(5,.v I),(6,.box Aj 99),(7,.v I),(8,.v .bool),(9,.v I)])]
def In (N:Nat) (back:O4->Option QN) (d:O4):Option QN:=
 let s0:=d.1
 let s4:=d.2.1
 let s5:=d.2.2.1
 let s6:=d.2.2.2.1
 let s7:=d.2.2.2.2.1
 let s8:=d.2.2.2.2.2.1
 let s9:=d.2.2.2.2.2.2.1
 let s10:=d.2.2.2.2.2.2.2.1
 if (decide (s10<s5))=true then
  ((BU 0) ((s0,(s7,())))).bind fun r77=>
  if (r77.1==(0:Int))=true then
   (Ha ((s6.2.1,((s9,(s10,())),())))).bind fun r78=>
   let x79:=IntKind.wrap .i64 (s10+(1:Int))
   back ((r77.2.1,(s4,(s5,((s6.1,(r78.1,s6.2.2)),(s7,(s8,(s9,(x79,())))))))))
  else
   let x80:=IntKind.wrap .i64 (s10+(1:Int))
   back ((r77.2.1,(s4,(s5,(s6,(s7,(s8,(s9,(x80,())))))))))
 else
  some (.inl ((s0,(s4,(s5,(s6,(s7,(s8,(s9,())))))))))
def RL (N:Nat):Nat->O4->Option QN
 | 0,_=>none
 | k+1,d=>In N (RL N k) d
abbrev Qq:=(List Int×Int×Int×Unit)×Gr×Int×Gr×Int×Bool×Int×Unit
abbrev N0:=((List Int×Int×Int×Unit)×Gr×Gr×Unit)⊕Empty
def Aj6:AP:=[(0,.box CM 0),(4,.box Aj 99),(5,.v I),(6,.box Aj 99),(7,.v I),(8,.v .bool),(9,.v I)]
def Ak5:AJ:=[(.normal,[(0,.box CM 0),(4,.box Aj 99),(6,.box Aj 99)])]
def Hw (N:Nat) (back:Qq->Option N0) (d:Qq):Option N0:=
 let s0:=d.1
 let s4:=d.2.1
 let s5:=d.2.2.1
 let s6:=d.2.2.2.1
 let s7:=d.2.2.2.2.1
 let s8:=d.2.2.2.2.2.1
 let s9:=d.2.2.2.2.2.2.1
 if (decide (s9<s5))=true then
  let x62:=IntKind.wrap .i64 (s9+(1:Int))
  (RL N N ((s0,(s4,(s5,(s6,(s7,(s8,(s9,(x62,())))))))))).bind fun o67=>match o67 with
  | .inl d68=>
   let r69:=G7 ((d68.2.2.2.2.2.2.1,((1:Int),())))
   ((BU 0) ((d68.1,(r69.1,())))).bind fun r70=>
   if (decide (d68.2.2.2.2.2.2.1>(0:Int)))=true then
    if (!d68.2.2.2.2.2.1)=true then
     (FE ((d68.2.2.2.1,(d68.2.2.2.2.2.2.1,(r70.1,()))))).bind fun r71=>
     if (!r71.1)=true then
      (Ha ((d68.2.2.2.1.2.1,((r70.1,(d68.2.2.2.2.2.2.1,())),())))).bind fun r72=>
      let x73:=IntKind.wrap .i64 (d68.2.2.2.2.2.2.1+(1:Int))
      back ((r70.2.1,(d68.2.1,(d68.2.2.1,((d68.2.2.2.1.1,(r72.1,d68.2.2.2.1.2.2)),(d68.2.2.2.2.1,(d68.2.2.2.2.2.1,(x73,()))))))))
     else
      let x74:=IntKind.wrap .i64 (d68.2.2.2.2.2.2.1+(1:Int))
      back ((r70.2.1,(d68.2.1,(d68.2.2.1,(d68.2.2.2.1,(d68.2.2.2.2.1,(d68.2.2.2.2.2.1,(x74,()))))))))
    else
     let x75:=IntKind.wrap .i64 (d68.2.2.2.2.2.2.1+(1:Int))
     back ((r70.2.1,(d68.2.1,(d68.2.2.1,(d68.2.2.2.1,(d68.2.2.2.2.1,(d68.2.2.2.2.2.1,(x75,()))))))))
   else
    let x76:=IntKind.wrap .i64 (d68.2.2.2.2.2.2.1+(1:Int))
    back ((r70.2.1,(d68.2.1,(d68.2.2.1,(d68.2.2.2.1,(d68.2.2.2.2.1,(d68.2.2.2.2.2.1,(x76,()))))))))
 else
  some (.inl ((s0,(s4,(s6,())))))
def Hg (N:Nat):Nat->Qq->Option N0
 | 0,_=>none
 | k+1,d=>Hw N (Hg N k) d
def MC (N:Nat) (d:(List Int×Int×Int×Unit)×Int×Unit):Option (Gr×(List Int×Int×Int×Unit)×Unit):=
 let a0:=d.1
 let a1:=d.2.1
 ((CA 0) ((a0,([(4:Int),(5:Int),(3:Int),(6:Int),(2:Int),(1:Int),(0:Int)],())))).bind fun r1=>
 if (decide (a1>(6:Int)))=true then
  ((F2 0) ((r1.2.1,((4:Int),())))).bind fun r2=>
  if (r2.1)=true then
   ((BU 0) ((r2.2.1,((2:Int),())))).bind fun r3=>
   let x4:=IntKind.wrap .i64 ((7:Int)+r3.1)
   let r5:=J1 ((x4,(a1,())))
   ((BU 0) ((r3.2.1,((8:Int),())))).bind fun r6=>
   if (r6.1==(0:Int))=true then
    ((CX Fs Ep) (r5.1,())).bind fun r7=>
    ((Cp 0) ((r6.2.1,(r7.1,())))).bind fun r8=>
    some ((r8.1,(r8.2.1,())))
   else
    if (r6.1==(1:Int))=true then
     if (decide (r5.1>(2:Int)))=true then
      ((JO 0) (r5.1,())).bind fun r9=>
      ((Cp 0) ((r6.2.1,(r9.1,())))).bind fun r10=>
      some ((r10.1,(r10.2.1,())))
     else
      ((Cp 0) ((r6.2.1,((r5.1,(([]:List (Int×Int×Unit)),())),())))).bind fun r11=>
      some ((r11.1,(r11.2.1,())))
    else
     if (r6.1==(2:Int))=true then
      ((CX IH Ep) (r5.1,())).bind fun r12=>
      ((Cp 0) ((r6.2.1,(r12.1,())))).bind fun r13=>
      some ((r13.1,(r13.2.1,())))
     else
      ((CA 0) ((r6.2.1,([(3:Int),(4:Int),(6:Int)],())))).bind fun r14=>
      ((F2 0) ((r14.2.1,((6:Int),())))).bind fun r15=>
      (Hg N N ((r15.2.1,(((0:Int),(([]:List (Int×Int×Unit)),())),(r5.1,((r5.1,(([]:List (Int×Int×Unit)),())),(r14.1,(r15.1,((0:Int),()))))))))).bind fun o31=>match o31 with
      | .inl d32=>
       ((Cp 0) ((d32.1,(d32.2.2.1,())))).bind fun r33=>
       some ((r33.1,(r33.2.1,())))
  else
   let r34:=J1 ((r1.1,(a1,())))
   ((BU 0) ((r2.2.1,((8:Int),())))).bind fun r35=>
   if (r35.1==(0:Int))=true then
    ((CX Fs Ep) (r34.1,())).bind fun r36=>
    ((Cp 0) ((r35.2.1,(r36.1,())))).bind fun r37=>
    some ((r37.1,(r37.2.1,())))
   else
    if (r35.1==(1:Int))=true then
     if (decide (r34.1>(2:Int)))=true then
      ((JO 0) (r34.1,())).bind fun r38=>
      ((Cp 0) ((r35.2.1,(r38.1,())))).bind fun r39=>
      some ((r39.1,(r39.2.1,())))
     else
      ((Cp 0) ((r35.2.1,((r34.1,(([]:List (Int×Int×Unit)),())),())))).bind fun r40=>
      some ((r40.1,(r40.2.1,())))
    else
     if (r35.1==(2:Int))=true then
      ((CX IH Ep) (r34.1,())).bind fun r41=>
      ((Cp 0) ((r35.2.1,(r41.1,())))).bind fun r42=>
      some ((r42.1,(r42.2.1,())))
     else
      ((CA 0) ((r35.2.1,([(3:Int),(4:Int),(6:Int)],())))).bind fun r43=>
      ((F2 0) ((r43.2.1,((6:Int),())))).bind fun r44=>
      (Hg N N ((r44.2.1,(((0:Int),(([]:List (Int×Int×Unit)),())),(r34.1,((r34.1,(([]:List (Int×Int×Unit)),())),(r43.1,(r44.1,((0:Int),()))))))))).bind fun o45=>match o45 with
      | .inl d46=>
       ((Cp 0) ((d46.1,(d46.2.2.1,())))).bind fun r47=>
       some ((r47.1,(r47.2.1,())))
 else
  let r48:=J1 ((r1.1,(a1,())))
  ((BU 0) ((r1.2.1,((8:Int),())))).bind fun r49=>
  if (r49.1==(0:Int))=true then
   ((CX Fs Ep) (r48.1,())).bind fun r50=>
   ((Cp 0) ((r49.2.1,(r50.1,())))).bind fun r51=>
   some ((r51.1,(r51.2.1,())))
  else
   if (r49.1==(1:Int))=true then
    if (decide (r48.1>(2:Int)))=true then
     ((JO 0) (r48.1,())).bind fun r52=>
     ((Cp 0) ((r49.2.1,(r52.1,())))).bind fun r53=>
     some ((r53.1,(r53.2.1,())))
    else
     ((Cp 0) ((r49.2.1,((r48.1,(([]:List (Int×Int×Unit)),())),())))).bind fun r54=>
     some ((r54.1,(r54.2.1,())))
   else
    if (r49.1==(2:Int))=true then
     ((CX IH Ep) (r48.1,())).bind fun r55=>
     ((Cp 0) ((r49.2.1,(r55.1,())))).bind fun r56=>
     some ((r56.1,(r56.2.1,())))
    else
     ((CA 0) ((r49.2.1,([(3:Int),(4:Int),(6:Int)],())))).bind fun r57=>
     ((F2 0) ((r57.2.1,((6:Int),())))).bind fun r58=>
     (Hg N N ((r58.2.1,(((0:Int),(([]:List (Int×Int×Unit)),())),(r48.1,((r48.1,(([]:List (Int×Int×Unit)),())),(r57.1,(r58.1,((0:Int),()))))))))).bind fun o59=>match o59 with
     | .inl d60=>
      ((Cp 0) ((d60.1,(d60.2.2.1,())))).bind fun r61=>
      some ((r61.1,(r61.2.1,())))
def Ae0:FSig:=⟨[(AY,true),(I,false)],[Aj],true,(CX MC Ls)⟩
def Aya:Ctx:={ tk:=Ac tks,ar:=Ac ars,fs:=Ac [(183,Ae0)],lent:=fun t=>Nat.beq t 0 }
def Tk (N:Nat) (d:(List Int×Int×Int×Unit)×Unit):Option (Gr×(List Int×Int×Int×Unit)×Unit):=
 let a0:=d.1
 ((CX MC Ls) ((a0,((8:Int),())))).bind fun r1=>
 some ((r1.1,(r1.2.1,())))
def Asu:FSig:=⟨[(AY,true)],[Aj],true,(Tk 0)⟩
def As5:Ctx:={ tk:=Ac tks,ar:=Ac ars,fs:=Ac [] }
abbrev MF:=Int×Int×List Int×Int×Unit
abbrev Mg:=(List Int×Unit)⊕Empty
def Adq:AP:=[(0,.v I),(1,.v I),(5,.own Ai 99),(6,.v I)]
def Adp:AJ:=[(.normal,[(5,.own Ai 99)])]
def Jh (N:Nat) (back:MF->Option Mg) (d:MF):Option Mg:=
 let s0:=d.1
 let s1:=d.2.1
 let s5:=d.2.2.1
 let s6:=d.2.2.2.1
 if (decide (s6<s0))=true then
  if (decide (0<=s6))=true then
  let x6:=bits .and .i64 (shr .i64 s1 s6) (1:Int)
  if (x6==(1:Int))=true then
   if (decide (List.length s5+List.length ([s6])<=lim))=true then
   let x7:=IntKind.wrap .i64 (s6+(1:Int))
   back ((s0,(s1,(s5++([s6]),(x7,())))))
   else none
  else
   let x8:=IntKind.wrap .i64 (s6+(1:Int))
   back ((s0,(s1,(s5,(x8,())))))
  else none
 else
  some (.inl (s5,()))
def Ns (N:Nat):Nat->MF->Option Mg
 | 0,_=>none
 | k+1,d=>Jh N (Ns N k) d
def Se (N:Nat) (d:Int×Int×Unit):Option (List Int×Unit):=
 let a0:=d.1
 let a1:=d.2.1
 (Ns N N ((a0,(a1,(([]:List Int),((0:Int),())))))).bind fun o4=>match o4 with
 | .inl d5=>
  some (d5.1,())
def Aie:FSig:=⟨[(I,false),(I,false)],[Ai],true,(HZ)⟩
def Azu:List (Nat×Kd):=[(3,I),(4,.bool),(5,(.int .u8)),(22,K_Su8),(24,Cb),(26,Aj),(27,Ag),(36,Ai),(52,Am),(74,B5),(94,(.int .u64)),(96,CM),(192,(.int .u64))]
def Azp:List (Nat×Nat):=[(52,3)]
def Ayp:Ctx:={ tk:=Ac Azu,ar:=Ac Azp,fs:=Ac [(89,VG),(91,JL),(133,Mz),(182,Asu),(183,Ae0),(226,Aie)],lent:=fun t=>Nat.beq t 0 }
abbrev Qz:=(List Int×Int×Int×Unit)×(Gr×Int×Tab×Unit)×Gr×(Gr×Int×Tab×Unit)×Int×Unit
abbrev P9:=((List Int×Int×Int×Unit)×(Gr×Int×Tab×Unit)×(Gr×Int×Tab×Unit)×Unit)⊕Empty
def Alk:AP:=[(0,.box CM 0),(2,.box B5 99),(3,.box Aj 0),(4,.box B5 99),(5,.v I)]
def Akf:AJ:=[(.normal,[(0,.box CM 0),(2,.box B5 99),(4,.box B5 99)])]
def HE (N:Nat) (back:Qz->Option P9) (d:Qz):Option P9:=
 let s0:=d.1
 let s2:=d.2.1
 let s3:=d.2.2.1
 let s4:=d.2.2.2.1
 let s5:=d.2.2.2.2.1
 if (decide (s5<(List.length s3.2.1:Int)))=true then
  ((BU 0) ((s0,((15:Int),())))).bind fun r29=>
  let x30:=IntKind.wrap .i64 ((1:Int)+r29.1)
  (HZ ((s4.2.1,(x30,())))).bind fun r31=>
  if ((List.length r31.1:Int)==(0:Int))=true then
   ((F2 0) ((r29.2.1,((4:Int),())))).bind fun r32=>
   if (!r32.1)=true then
    if (decide (List.length s4.2.2.1+List.length ([[(0:Int)]])<=lim))=true then
    let x33:=IntKind.wrap .i64 (s5+(1:Int))
    back ((r32.2.1,(s2,(s3,((s4.1,(s4.2.1,(s4.2.2.1++([[(0:Int)]]),s4.2.2.2))),(x33,()))))))
    else none
   else
    if (decide (List.length s4.2.2.1+List.length ([r31.1])<=lim))=true then
    let x34:=IntKind.wrap .i64 (s5+(1:Int))
    back ((r32.2.1,(s2,(s3,((s4.1,(s4.2.1,(s4.2.2.1++([r31.1]),s4.2.2.2))),(x34,()))))))
    else none
  else
   if (decide (List.length s4.2.2.1+List.length ([r31.1])<=lim))=true then
   let x35:=IntKind.wrap .i64 (s5+(1:Int))
   back ((r29.2.1,(s2,(s3,((s4.1,(s4.2.1,(s4.2.2.1++([r31.1]),s4.2.2.2))),(x35,()))))))
   else none
 else
  some (.inl ((s0,(s2,(s4,())))))
def Jf (N:Nat):Nat->Qz->Option P9
 | 0,_=>none
 | k+1,d=>HE N (Jf N k) d
def IU (N:Nat) (d:(List Int×Int×Int×Unit)×Unit):Option ((Gr×Int×Tab×Unit)×(List Int×Int×Int×Unit)×Unit):=
 let a0:=d.1
 ((CX MC Ls) ((a0,((6:Int),())))).bind fun r1=>
 ((F2 0) ((r1.2.1,((8:Int),())))).bind fun r2=>
 if (r2.1)=true then
  ((Tk 0) (r2.2.1,())).bind fun r3=>
  ((BU 0) ((r3.2.1,((4:Int),())))).bind fun r4=>
  let x5:=IntKind.wrap .i64 ((1:Int)+r4.1)
  (Jf N N ((r4.2.1,((((0:Int),(([]:List (Int×Int×Unit)),())),((0:Int),(([]:Tab),()))),(r3.1,((r3.1,(x5,(([]:Tab),()))),((0:Int),()))))))).bind fun o13=>match o13 with
  | .inl d14=>
   ((BU 0) ((d14.1,((30:Int),())))).bind fun r15=>
   if (r15.1==(0:Int))=true then
    ((CA 0) ((r15.2.1,([(0:Int),(5:Int),(-1:Int)],())))).bind fun r16=>
    some (((d14.2.2.1.1,(r16.1,d14.2.2.1.2.2)),(r16.2.1,())))
   else
    if (r15.1==(1:Int))=true then
     if (decide (List.length d14.2.2.1.2.2.1+List.length ([[(0:Int)]])<=lim))=true then
     let x17:=d14.2.2.1.2.2.1++([[(0:Int)]])
     some (((d14.2.2.1.1,(d14.2.2.1.2.1,(x17,d14.2.2.1.2.2.2))),(r15.2.1,())))
     else none
    else
     if (r15.1==(2:Int))=true then
      if (decide ((List.length d14.2.2.1.2.2.1:Int)>(0:Int)))=true then
       if (Af (0:Int) (List.length d14.2.2.1.2.2.1))=true then
       ((CA 0) ((r15.2.1,([(4:Int),(0:Int),(-1:Int)],())))).bind fun r18=>
       if (decide (List.length (at_ Ai d14.2.2.1.2.2.1 (0:Int).toNat)+List.length ([r18.1])<=lim))=true then
       let x19:=(at_ Ai d14.2.2.1.2.2.1 (0:Int).toNat)++([r18.1])
       if (Af (0:Int) (List.length d14.2.2.1.2.2.1))=true then
       if (((Nat.beq (0:Int).toNat (0:Int).toNat)&&true))=true then
       some (((d14.2.2.1.1,(d14.2.2.1.2.1,(List.set d14.2.2.1.2.2.1 (0:Int).toNat x19,d14.2.2.1.2.2.2))),(r18.2.1,())))
       else none
       else none
       else none
       else none
      else
       some ((d14.2.2.1,(r15.2.1,())))
     else
      some ((d14.2.2.1,(r15.2.1,())))
 else
  ((BU 0) ((r2.2.1,((4:Int),())))).bind fun r20=>
  let x21:=IntKind.wrap .i64 ((1:Int)+r20.1)
  (Jf N N ((r20.2.1,((((0:Int),(([]:List (Int×Int×Unit)),())),((0:Int),(([]:Tab),()))),(r1.1,((r1.1,(x21,(([]:Tab),()))),((0:Int),()))))))).bind fun o22=>match o22 with
  | .inl d23=>
   ((BU 0) ((d23.1,((30:Int),())))).bind fun r24=>
   if (r24.1==(0:Int))=true then
    ((CA 0) ((r24.2.1,([(0:Int),(5:Int),(-1:Int)],())))).bind fun r25=>
    some (((d23.2.2.1.1,(r25.1,d23.2.2.1.2.2)),(r25.2.1,())))
   else
    if (r24.1==(1:Int))=true then
     if (decide (List.length d23.2.2.1.2.2.1+List.length ([[(0:Int)]])<=lim))=true then
     let x26:=d23.2.2.1.2.2.1++([[(0:Int)]])
     some (((d23.2.2.1.1,(d23.2.2.1.2.1,(x26,d23.2.2.1.2.2.2))),(r24.2.1,())))
     else none
    else
     if (r24.1==(2:Int))=true then
      if (decide ((List.length d23.2.2.1.2.2.1:Int)>(0:Int)))=true then
       if (Af (0:Int) (List.length d23.2.2.1.2.2.1))=true then
       ((CA 0) ((r24.2.1,([(4:Int),(0:Int),(-1:Int)],())))).bind fun r27=>
       if (decide (List.length (at_ Ai d23.2.2.1.2.2.1 (0:Int).toNat)+List.length ([r27.1])<=lim))=true then
       let x28:=(at_ Ai d23.2.2.1.2.2.1 (0:Int).toNat)++([r27.1])
       if (Af (0:Int) (List.length d23.2.2.1.2.2.1))=true then
       if (((Nat.beq (0:Int).toNat (0:Int).toNat)&&true))=true then
       some (((d23.2.2.1.1,(d23.2.2.1.2.1,(List.set d23.2.2.1.2.2.1 (0:Int).toNat x28,d23.2.2.1.2.2.2))),(r27.2.1,())))
       else none
       else none
       else none
       else none
      else
       some ((d23.2.2.1,(r24.2.1,())))
     else
      some ((d23.2.2.1,(r24.2.1,())))
def WV:FSig:=⟨[(AY,true)],[Ae],false,(CX IU Hf)⟩
def WL:Ctx:={ tk:=Ac tks,ar:=Ac ars,fs:=Ac [] }
def G8 (N:Nat) (d:Int×Int×Int×Unit):Option (Bool×Unit):=
 let a0:=d.1
 let a1:=d.2.1
 let a2:=d.2.2.1
 if (decide (a0>=a1))=true then
  some (decide (a0<=a2),())
 else
  some (false,())
def Bm (d:Int×Int×Int×Unit):Bool×Unit:=
 let a0:=d.1
 let a1:=d.2.1
 let a2:=d.2.2.1
 if (decide (a0>=a1))=true then
  (decide (a0<=a2),())
 else
  (false,())
theorem Rq (N:Nat) (d):G8 N d=some (Bm d):=by
 unfold G8 Bm
 first
  | rfl
  | (dsimp only; (repeat' split)<;>rfl)
def Df:FSig:=⟨[(I,false),(I,false),(I,false)],[.bool],true,(fun d=>some (Bm d))⟩
def Av1:Ctx:={ tk:=Ac tks,ar:=Ac ars,fs:=Ac [(148,Df)] }
abbrev PF:=List Int×Int×Int×Int×Unit
abbrev Pl:=(Bool×Unit)⊕Unit⊕Empty
def Aj9:AP:=[(0,.v Ai),(1,.v I),(2,.v I),(7,.v I)]
def Ane:AJ:=[(.ret,[(6,.v .bool)]),(.normal,[])]
def Kz (N:Nat) (back:PF->Option Pl) (d:PF):Option Pl:=
 let s0:=d.1
 let s1:=d.2.1
 let s2:=d.2.2.1
 let s7:=d.2.2.2.1
 if (decide (s7<(List.length s0:Int)))=true then
  if (Af s7 (List.length s0))=true then
  let r8:=Bm ((at_ I s0 s7.toNat,(s1,(s2,()))))
  if (!r8.1)=true then
   some (.inl (false,()))
  else
   if (decide (s7>(0:Int)))=true then
    let x9:=IntKind.wrap .i64 (s7-(1:Int))
    if (Af x9 (List.length s0))=true then
    if (Af s7 (List.length s0))=true then
    if (decide (at_ I s0 x9.toNat>=at_ I s0 s7.toNat))=true then
     some (.inl (false,()))
    else
     let x10:=IntKind.wrap .i64 (s7+(1:Int))
     back ((s0,(s1,(s2,(x10,())))))
    else none
    else none
   else
    let x11:=IntKind.wrap .i64 (s7+(1:Int))
    back ((s0,(s1,(s2,(x11,())))))
  else none
 else
  some (.inr (.inl ()))
def RM (N:Nat):Nat->PF->Option Pl
 | 0,_=>none
 | k+1,d=>Kz N (RM N k) d
def Xi (N:Nat) (d:List Int×Int×Int×Unit):Option (Bool×Unit):=
 let a0:=d.1
 let a1:=d.2.1
 let a2:=d.2.2.1
 (RM N N ((a0,(a1,(a2,((0:Int),())))))).bind fun o5=>match o5 with
 | .inl d6=>
  some (d6.1,())
 | .inr (.inl d7)=>
  some (true,())
def Aqb:FSig:=⟨[(Ai,false),(I,false),(I,false)],[.bool],true,(GB)⟩
def Asz:Ctx:={ tk:=Ac tks,ar:=Ac ars,fs:=Ac [(148,Df),(200,Abk)] }
abbrev Ml:=Gr×Int×Unit
abbrev Mu:=(Bool×Unit)⊕(Gr×Unit)⊕Empty
def Afh:AP:=[(1,.box Aj 0),(3,.v I)]
def Acn:AJ:=[(.ret,[(2,.v .bool)]),(.normal,[(1,.box Aj 0)])]
def IJ (N:Nat) (back:Ml->Option Mu) (d:Ml):Option Mu:=
 let s1:=d.1
 let s3:=d.2.1
 if (decide (s3<(List.length s1.2.1:Int)))=true then
  if (Af s3 (List.length s1.2.1))=true then
  let x13:=IntKind.wrap .i64 (s1.1-(1:Int))
  let r14:=Bm (((at_ Am s1.2.1 s3.toNat).1,((0:Int),(x13,()))))
  if (!r14.1)=true then
   some (.inl (false,()))
  else
   let x15:=IntKind.wrap .i64 (s1.1-(1:Int))
   let r16:=Bm (((at_ Am s1.2.1 s3.toNat).2.1,((0:Int),(x15,()))))
   if (!r16.1)=true then
    some (.inl (false,()))
   else
    if (decide ((at_ Am s1.2.1 s3.toNat).1>=(at_ Am s1.2.1 s3.toNat).2.1))=true then
     some (.inl (false,()))
    else
     if (decide (s3>(0:Int)))=true then
      let x17:=IntKind.wrap .i64 (s3-(1:Int))
      if (Af x17 (List.length s1.2.1))=true then
      let r18:=IB ((at_ Am s1.2.1 x17.toNat,(at_ Am s1.2.1 s3.toNat,())))
      if (!r18.1)=true then
       some (.inl (false,()))
      else
       let x19:=IntKind.wrap .i64 (s3+(1:Int))
       back ((s1,(x19,())))
      else none
     else
      let x20:=IntKind.wrap .i64 (s3+(1:Int))
      back ((s1,(x20,())))
  else none
 else
  some (.inr (.inl (s1,())))
def MH (N:Nat):Nat->Ml->Option Mu
 | 0,_=>none
 | k+1,d=>IJ N (MH N k) d
def Sa (N:Nat) (d:Gr×Unit):Option (Bool×Unit):=
 let a0:=d.1
 (MH N N ((a0,((0:Int),())))).bind fun o9=>match o9 with
 | .inl d10=>
  some (d10.1,())
 | .inr (.inl d11)=>
  let r12:=Bm ((d11.1.1,((0:Int),((8:Int),()))))
  some (r12.1,())
def Ah8:FSig:=⟨[(Aj,false)],[.bool],true,(C2)⟩
def Ay6:Ctx:={ tk:=Ac tks,ar:=Ac ars,fs:=Ac [(115,Ah8),(148,Df)] }
def Un (N:Nat) (d:Gr×Int×Unit):Option (Bool×Unit):=
 let a0:=d.1
 let a1:=d.2.1
 (C2 (a0,())).bind fun r1=>
 if (r1.1)=true then
  if (decide (a0.1>(0:Int)))=true then
   let r2:=Bm ((a1,((1:Int),((3:Int),()))))
   some (r2.1,())
  else
   some (false,())
 else
  some (false,())
def Atk:FSig:=⟨[(Aj,false),(I,false)],[.bool],true,(Un 0)⟩
def Awq:Ctx:={ tk:=Ac tks,ar:=Ac ars,fs:=Ac [(98,Atk),(148,Df),(190,Aqb)] }
abbrev Oe:=(Gr×Int×Tab×Unit)×Int×Unit
abbrev QO:=(Bool×Unit)⊕((Gr×Int×Tab×Unit)×Unit)⊕Empty
def Air:AP:=[(1,.box Ae 0),(3,.v I)]
def Ala:AJ:=[(.ret,[(2,.v .bool)]),(.normal,[(1,.box Ae 0)])]
def KS (N:Nat) (back:Oe->Option QO) (d:Oe):Option QO:=
 let s1:=d.1
 let s3:=d.2.1
 if (decide (s3<(List.length s1.2.2.1:Int)))=true then
  if (Af s3 (List.length s1.2.2.1))=true then
  let x9:=IntKind.wrap .i64 (s1.2.1-(1:Int))
  (GB ((at_ Ai s1.2.2.1 s3.toNat,((0:Int),(x9,()))))).bind fun r10=>
  if (!r10.1)=true then
   some (.inl (false,()))
  else
   let x11:=IntKind.wrap .i64 (s3+(1:Int))
   back ((s1,(x11,())))
  else none
 else
  some (.inr (.inl (s1,())))
def RZ (N:Nat):Nat->Oe->Option QO
 | 0,_=>none
 | k+1,d=>KS N (RZ N k) d
def VK (N:Nat) (d:(Gr×Int×Tab×Unit)×Unit):Option (Bool×Unit):=
 let a0:=d.1
 (RZ N N ((a0,((0:Int),())))).bind fun o4=>match o4 with
 | .inl d5=>
  some (d5.1,())
 | .inr (.inl d6)=>
  ((Un 0) ((d6.1.1,((1:Int),())))).bind fun r7=>
  if (r7.1)=true then
   let r8:=Bm ((d6.1.2.1,((1:Int),((4:Int),()))))
   if (r8.1)=true then
    some ((List.length d6.1.2.2.1:Int)==(List.length d6.1.1.2.1:Int),())
   else
    some (false,())
  else
   some (false,())
def TY:FSig:=⟨[(Ae,false)],[.bool],true,(C6)⟩
def Uu:Ctx:={ tk:=Ac tks,ar:=Ac ars,fs:=Ac [] }
abbrev F1:=List Int×Int×Int×Unit
abbrev FW:=(Bool×Unit)⊕Unit⊕Empty
def Rz:AP:=[(0,.v Ai),(1,.v I),(5,.v I)]
def RD:AJ:=[(.ret,[(4,.v .bool)]),(.normal,[])]
def El (N:Nat) (back:F1->Option FW) (d:F1):Option FW:=
 let s0:=d.1
 let s1:=d.2.1
 let s5:=d.2.2.1
 if (decide (s5<(List.length s0:Int)))=true then
  if (Af s5 (List.length s0))=true then
  if (at_ I s0 s5.toNat==s1)=true then
   some (.inl (true,()))
  else
   let x5:=IntKind.wrap .i64 (s5+(1:Int))
   back ((s0,(s1,(x5,()))))
  else none
 else
  some (.inr (.inl ()))
def Fw (N:Nat):Nat->F1->Option FW
 | 0,_=>none
 | k+1,d=>El N (Fw N k) d
def Gg (N:Nat) (d:List Int×Int×Unit):Option (Bool×Unit):=
 let a0:=d.1
 let a1:=d.2.1
 (Fw N N ((a0,(a1,((0:Int),()))))).bind fun o2=>match o2 with
 | .inl d3=>
  some (d3.1,())
 | .inr (.inl d4)=>
  some (false,())
def MI:FSig:=⟨[(Ai,false),(I,false)],[.bool],true,(MJ)⟩
def Aws:Ctx:={ tk:=Ac tks,ar:=Ac ars,fs:=Ac [(101,MI)] }
abbrev Pn:=Int×(Gr×Int×Tab×Unit)×Gr×Gr×Int×Unit
abbrev P2:=(Gr×Gr×Unit)⊕Empty
def Ako:AP:=[(1,.v I),(2,.box Ae 0),(4,.box Aj 99),(5,.box Aj 99),(6,.v I)]
def Aip:AJ:=[(.normal,[(4,.box Aj 99),(5,.box Aj 99)])]
def Ie (N:Nat) (back:Pn->Option P2) (d:Pn):Option P2:=
 let s1:=d.1
 let s2:=d.2.1
 let s4:=d.2.2.1
 let s5:=d.2.2.2.1
 let s6:=d.2.2.2.2.1
 if (decide (s6<(List.length s2.1.2.1:Int)))=true then
  if (Af s6 (List.length s2.2.2.1))=true then
  if (s2.2.1 != 0)=true then
  (MJ ((at_ Ai s2.2.2.1 s6.toNat,(s1.tmod s2.2.1,())))).bind fun r7=>
  if (r7.1)=true then
   if (Af s6 (List.length s2.1.2.1))=true then
   if (decide (List.length s5.2.1+List.length ([at_ Am s2.1.2.1 s6.toNat])<=lim))=true then
   let x8:=s5.2.1++([at_ Am s2.1.2.1 s6.toNat])
   let x9:=IntKind.wrap .i64 (s6+(1:Int))
   back ((s1,(s2,(s4,((s5.1,(x8,s5.2.2)),(x9,()))))))
   else none
   else none
  else
   let x10:=IntKind.wrap .i64 (s6+(1:Int))
   back ((s1,(s2,(s4,(s5,(x10,()))))))
  else none
  else none
 else
  some (.inl ((s4,(s5,()))))
def Jd (N:Nat):Nat->Pn->Option P2
 | 0,_=>none
 | k+1,d=>Ie N (Jd N k) d
def VQ (N:Nat) (d:(Gr×Int×Tab×Unit)×Int×Unit):Option (Gr×Unit):=
 let a0:=d.1
 let a1:=d.2.1
 (Jd N N ((a1,(a0,(((0:Int),(([]:List (Int×Int×Unit)),())),((a0.1.1,(([]:List (Int×Int×Unit)),())),((0:Int),()))))))).bind fun o5=>match o5 with
 | .inl d6=>
  some (d6.2.1,())
def Ar6:FSig:=⟨[(Ae,false),(I,false)],[Aj],true,(Gy)⟩
def Avu:Ctx:={ tk:=Ac tks,ar:=Ac ars,fs:=Ac [(240,Xd)] }
abbrev NZ:=Int×Gr×List Int×Int×Unit
abbrev QV:=(List Int×Unit)⊕Empty
def Ams:AP:=[(1,.v I),(2,.box Aj 0),(5,.own Ai 99),(6,.v I)]
def Amj:AJ:=[(.normal,[(5,.own Ai 99)])]
def Kx (N:Nat) (back:NZ->Option QV) (d:NZ):Option QV:=
 let s1:=d.1
 let s2:=d.2.1
 let s5:=d.2.2.1
 let s6:=d.2.2.2.1
 if (decide (s6<s2.1))=true then
  (FE ((s2,(s1,(s6,()))))).bind fun r6=>
  if (r6.1)=true then
   if (decide (List.length s5+List.length ([s6])<=lim))=true then
   let x7:=IntKind.wrap .i64 (s6+(1:Int))
   back ((s1,(s2,(s5++([s6]),(x7,())))))
   else none
  else
   let x8:=IntKind.wrap .i64 (s6+(1:Int))
   back ((s1,(s2,(s5,(x8,())))))
 else
  some (.inl (s5,()))
def Lu (N:Nat):Nat->NZ->Option QV
 | 0,_=>none
 | k+1,d=>Kx N (Lu N k) d
def Wr (N:Nat) (d:Gr×Int×Unit):Option (List Int×Unit):=
 let a0:=d.1
 let a1:=d.2.1
 (Lu N N ((a1,(a0,(([]:List Int),((0:Int),())))))).bind fun o4=>match o4 with
 | .inl d5=>
  some (d5.1,())
def Arx:FSig:=⟨[(Aj,false),(I,false)],[Ai],true,(Dz)⟩
def Avv:Ctx:={ tk:=Ac tks,ar:=Ac ars,fs:=Ac [],cs:=Ac [],gs:=Ac [],eqt:=inL [],md:={ gone:=[0],deep:=[] },cut:=fun t=>bif Nat.beq t 33 then 1 else 0 }
abbrev P8:=List Int×Int×Int×Unit
abbrev Qf:=(List Int×Int×Int×Unit)⊕Empty
def Am8:AP:=[(0,.own Ai 1),(1,.v I),(5,.v I)]
def Alz:AJ:=[(.normal,[(0,.own Ai 1),(1,.v I),(5,.v I)])]
def Ly (N:Nat) (back:P8->Option Qf) (d:P8):Option Qf:=
 let s0:=d.1
 let s1:=d.2.1
 let s5:=d.2.2.1
 if (decide (s5<(List.length s0:Int)))=true then
  if (Af s5 (List.length s0))=true then
  if (decide (at_ I s0 s5.toNat<s1))=true then
   let x8:=IntKind.wrap .i64 (s5+(1:Int))
   back ((s0,(s1,(x8,()))))
  else
   some (.inl ((s0,(s1,(s5,())))))
  else none
 else
  some (.inl ((s0,(s1,(s5,())))))
def K7 (N:Nat):Nat->P8->Option Qf
 | 0,_=>none
 | k+1,d=>Ly N (K7 N k) d
def V4 (N:Nat) (d:List Int×Int×Unit):Option (List Int×List Int×Unit):=
 let a0:=d.1
 let a1:=d.2.1
 (K7 N N ((a0,(a1,((0:Int),()))))).bind fun o2=>match o2 with
 | .inl d3=>
  if (decide (d3.2.2.1<(List.length d3.1:Int)))=true then
   if (Af d3.2.2.1 (List.length d3.1))=true then
   if (at_ I d3.1 d3.2.2.1.toNat==d3.2.1)=true then
    some ((d3.1,(([]:List Int),())))
   else
    if ((decide (0<=(0:Int))&&decide ((0:Int)<=d3.2.2.1)&&decide (d3.2.2.1<=(List.length d3.1:Int))))=true then
    if (decide (List.length ([]:List Int)+List.length (CY d3.1 (0:Int) d3.2.2.1)<=lim))=true then
    let x4:=([]:List Int)++(CY d3.1 (0:Int) d3.2.2.1)
    if (decide (List.length x4+List.length ([d3.2.1])<=lim))=true then
    if ((decide (0<=d3.2.2.1)&&decide (d3.2.2.1<=(List.length d3.1:Int))&&decide ((List.length d3.1:Int)<=(List.length d3.1:Int))))=true then
    let x5:=CY d3.1 d3.2.2.1 (List.length d3.1:Int)
    if (decide (List.length (x4++([d3.2.1]))+List.length x5<=lim))=true then
    some (((x4++([d3.2.1]))++x5,(([]:List Int),())))
    else none
    else none
    else none
    else none
    else none
   else none
  else
   if ((decide (0<=(0:Int))&&decide ((0:Int)<=d3.2.2.1)&&decide (d3.2.2.1<=(List.length d3.1:Int))))=true then
   if (decide (List.length ([]:List Int)+List.length (CY d3.1 (0:Int) d3.2.2.1)<=lim))=true then
   let x6:=([]:List Int)++(CY d3.1 (0:Int) d3.2.2.1)
   if (decide (List.length x6+List.length ([d3.2.1])<=lim))=true then
   if ((decide (0<=d3.2.2.1)&&decide (d3.2.2.1<=(List.length d3.1:Int))&&decide ((List.length d3.1:Int)<=(List.length d3.1:Int))))=true then
   let x7:=CY d3.1 d3.2.2.1 (List.length d3.1:Int)
   if (decide (List.length (x6++([d3.2.1]))+List.length x7<=lim))=true then
   some (((x6++([d3.2.1]))++x7,(([]:List Int),())))
   else none
   else none
   else none
   else none
   else none
def Asx:FSig:=⟨[(Ai,true),(I,false)],[Ai],true,(Ke)⟩
def Aqg:Ctx:={ tk:=Ac tks,ar:=Ac ars,fs:=Ac [(208,Arx)],cs:=Ac [],gs:=Ac [(92,(Asx,{ gone:=[0],deep:=[] }))],eqt:=inL [],md:=md0 }
def I7 (N:Nat) (d:Gr×Int×Unit):Option (List Int×Unit):=
 let a0:=d.1
 let a1:=d.2.1
 (Dz ((a0,(a1,())))).bind fun r1=>
 (Ke ((r1.1,(a1,())))).bind fun r2=>
 some (r2.1,())
def Agz:FSig:=⟨[(Aj,false),(I,false)],[Ai],true,(I7 0)⟩
def Au8:Ctx:={ tk:=Ac tks,ar:=Ac ars,fs:=Ac [(124,Agz),(231,Ar6)] }
abbrev N4:=(Gr×Int×Tab×Unit)×List (Tab)×Int×Gr×Tab×Int×Unit
abbrev QW:=((Gr×Int×Tab×Unit)×List (Tab)×Int×Tab×Unit)⊕Empty
def Ajb:AP:=[(1,.box Ae 0),(3,.own An 100),(4,.v I),(5,.box Aj 99),(6,.own Ag 100),(7,.v I)]
def Akm:AJ:=[(.normal,[(1,.box Ae 0),(3,.own An 100),(4,.v I),(6,.own Ag 100)])]
def Lq (N:Nat) (back:N4->Option QW) (d:N4):Option QW:=
 let s1:=d.1
 let s3:=d.2.1
 let s4:=d.2.2.1
 let s5:=d.2.2.2.1
 let s6:=d.2.2.2.2.1
 let s7:=d.2.2.2.2.2.1
 if (decide (s7<s5.1))=true then
  ((I7 0) ((s5,(s7,())))).bind fun r15=>
  if (decide (List.length s6+List.length ([r15.1])<=lim))=true then
  let x16:=IntKind.wrap .i64 (s7+(1:Int))
  back ((s1,(s3,(s4,(s5,(s6++([r15.1]),(x16,())))))))
  else none
 else
  some (.inl ((s1,(s3,(s4,(s6,()))))))
def MY (N:Nat):Nat->N4->Option QW
 | 0,_=>none
 | k+1,d=>Lq N (MY N k) d
abbrev P6:=(Gr×Int×Tab×Unit)×List (Tab)×Int×Unit
abbrev Qt:=(List (Tab)×Unit)⊕Empty
def Ak2:AP:=[(1,.box Ae 0),(3,.own An 100),(4,.v I)]
def Ai4:AJ:=[(.normal,[(3,.own An 100)])]
def Ld (N:Nat) (back:P6->Option Qt) (d:P6):Option Qt:=
 let s1:=d.1
 let s3:=d.2.1
 let s4:=d.2.2.1
 if (decide (s4<s1.2.1))=true then
  (Gy ((s1,(s4,())))).bind fun r9=>
  (MY N N ((s1,(s3,(s4,(r9.1,(([]:Tab),((0:Int),())))))))).bind fun o12=>match o12 with
  | .inl d13=>
   if (decide (List.length d13.2.1+List.length ([d13.2.2.2.1])<=lim))=true then
   let x14:=IntKind.wrap .i64 (d13.2.2.1+(1:Int))
   back ((d13.1,(d13.2.1++([d13.2.2.2.1]),(x14,()))))
   else none
 else
  some (.inl (s3,()))
def RX (N:Nat):Nat->P6->Option Qt
 | 0,_=>none
 | k+1,d=>Ld N (RX N k) d
def WX (N:Nat) (d:(Gr×Int×Tab×Unit)×Unit):Option (List (Tab)×Unit):=
 let a0:=d.1
 (RX N N ((a0,(([]:List (Tab)),((0:Int),()))))).bind fun o7=>match o7 with
 | .inl d8=>
  some (d8.1,())
def WS:FSig:=⟨[(Ae,false)],[An],true,(Dm)⟩
def Axu:Ctx:={ tk:=Ac tks,ar:=Ac ars,fs:=Ac [] }
abbrev Pm:=Int×Int×List (Tab)×Int×Tab×Int×List Int×Int×Unit
abbrev Ol:=(Int×Int×List (Tab)×Int×Tab×Int×List Int×Unit)⊕Empty
def Amg:AP:=[(0,.v I),(1,.v I),(5,.own An 100),(6,.v I),(7,.own Ag 100),(8,.v I),(9,.own Ai 99),(10,.v I)]
def Amw:AJ:=[(.normal,[(0,.v I),(1,.v I),(5,.own An 100),(6,.v I),(7,.own Ag 100),(8,.v I),(9,.own Ai 99)])]
def KZ (N:Nat) (back:Pm->Option Ol) (d:Pm):Option Ol:=
 let s0:=d.1
 let s1:=d.2.1
 let s5:=d.2.2.1
 let s6:=d.2.2.2.1
 let s7:=d.2.2.2.2.1
 let s8:=d.2.2.2.2.2.1
 let s9:=d.2.2.2.2.2.2.1
 let s10:=d.2.2.2.2.2.2.2.1
 if (decide (s10<s1))=true then
  if (s8==s10)=true then
   if (decide (List.length s9+List.length ([(0:Int)])<=lim))=true then
   let x28:=IntKind.wrap .i64 (s10+(1:Int))
   back ((s0,(s1,(s5,(s6,(s7,(s8,(s9++([(0:Int)]),(x28,())))))))))
   else none
  else
   if (decide (List.length s9+List.length ([(-1:Int)])<=lim))=true then
   let x29:=IntKind.wrap .i64 (s10+(1:Int))
   back ((s0,(s1,(s5,(s6,(s7,(s8,(s9++([(-1:Int)]),(x29,())))))))))
   else none
 else
  some (.inl ((s0,(s1,(s5,(s6,(s7,(s8,(s9,())))))))))
def MO (N:Nat):Nat->Pm->Option Ol
 | 0,_=>none
 | k+1,d=>KZ N (MO N k) d
abbrev Ob:=Int×Int×List (Tab)×Int×Tab×Int×Unit
abbrev NO:=(Int×Int×List (Tab)×Int×Tab×Unit)⊕Empty
def Anx:AP:=[(0,.v I),(1,.v I),(5,.own An 100),(6,.v I),(7,.own Ag 100),(8,.v I)]
def Ai1:AJ:=[(.normal,[(0,.v I),(1,.v I),(5,.own An 100),(6,.v I),(7,.own Ag 100)])]
def Ln (N:Nat) (back:Ob->Option NO) (d:Ob):Option NO:=
 let s0:=d.1
 let s1:=d.2.1
 let s5:=d.2.2.1
 let s6:=d.2.2.2.1
 let s7:=d.2.2.2.2.1
 let s8:=d.2.2.2.2.2.1
 if (decide (s8<s1))=true then
  (MO N N ((s0,(s1,(s5,(s6,(s7,(s8,(([]:List Int),((0:Int),())))))))))).bind fun o24=>match o24 with
  | .inl d25=>
   if (decide (List.length d25.2.2.2.2.1+List.length ([d25.2.2.2.2.2.2.1])<=lim))=true then
   let x26:=d25.2.2.2.2.1++([d25.2.2.2.2.2.2.1])
   let x27:=IntKind.wrap .i64 (d25.2.2.2.2.2.1+(1:Int))
   back ((d25.1,(d25.2.1,(d25.2.2.1,(d25.2.2.2.1,(x26,(x27,())))))))
   else none
 else
  some (.inl ((s0,(s1,(s5,(s6,(s7,())))))))
def Nr (N:Nat):Nat->Ob->Option NO
 | 0,_=>none
 | k+1,d=>Ln N (Nr N k) d
abbrev QM:=Int×Int×List (Tab)×Int×Unit
abbrev Oi:=(List (Tab)×Unit)⊕Empty
def Al6:AP:=[(0,.v I),(1,.v I),(5,.own An 100),(6,.v I)]
def Aob:AJ:=[(.normal,[(5,.own An 100)])]
def Lo (N:Nat) (back:QM->Option Oi) (d:QM):Option Oi:=
 let s0:=d.1
 let s1:=d.2.1
 let s5:=d.2.2.1
 let s6:=d.2.2.2.1
 if (decide (s6<s0))=true then
  (Nr N N ((s0,(s1,(s5,(s6,(([]:Tab),((0:Int),())))))))).bind fun o18=>match o18 with
  | .inl d19=>
   if (decide (List.length d19.2.2.1+List.length ([d19.2.2.2.2.1])<=lim))=true then
   let x20:=d19.2.2.1++([d19.2.2.2.2.1])
   let x21:=IntKind.wrap .i64 (d19.2.2.2.1+(1:Int))
   back ((d19.1,(d19.2.1,(x20,(x21,())))))
   else none
 else
  some (.inl (s5,()))
def Si (N:Nat):Nat->QM->Option Oi
 | 0,_=>none
 | k+1,d=>Lo N (Si N k) d
def VP (N:Nat) (d:Int×Int×Unit):Option (List (Tab)×Unit):=
 let a0:=d.1
 let a1:=d.2.1
 (Si N N ((a0,(a1,(([]:List (Tab)),((0:Int),())))))).bind fun o10=>match o10 with
 | .inl d11=>
  some (d11.1,())
def Asd:FSig:=⟨[(I,false),(I,false)],[An],true,(Ev)⟩
def Ayr:Ctx:={ tk:=Ac tks,ar:=Ac ars,fs:=Ac [(201,RT)] }
abbrev PB:=List (Tab)×Int×Int×Int×List Int×Int×Unit
abbrev Oy:=(Int×Unit)⊕(Int×Unit)⊕Empty
def Ak4:AP:=[(0,.v An),(2,.v I),(4,.v I),(11,.v I),(12,.v Ai),(13,.v I)]
def Ao3:AJ:=[(.ret,[(10,.v I)]),(.normal,[(11,.v I)])]
def HS (N:Nat) (back:PB->Option Oy) (d:PB):Option Oy:=
 let s0:=d.1
 let s2:=d.2.1
 let s4:=d.2.2.1
 let s11:=d.2.2.2.1
 let s12:=d.2.2.2.2.1
 let s13:=d.2.2.2.2.2.1
 if (Af s2 (List.length s0))=true then
 if (Af s4 (List.length (at_ Ag s0 s2.toNat)))=true then
 if (decide (s13<(List.length (at_ Ai (at_ Ag s0 s2.toNat) s4.toNat):Int)))=true then
  if (Af s2 (List.length s0))=true then
  if (Af s4 (List.length (at_ Ag s0 s2.toNat)))=true then
  if (Af s13 (List.length (at_ Ai (at_ Ag s0 s2.toNat) s4.toNat)))=true then
  if (Af (at_ I (at_ Ai (at_ Ag s0 s2.toNat) s4.toNat) s13.toNat) (List.length s12))=true then
  if (decide (at_ I s12 (at_ I (at_ Ai (at_ Ag s0 s2.toNat) s4.toNat) s13.toNat).toNat<(0:Int)))=true then
   some (.inl ((-1:Int),()))
  else
   let r8:=G7 ((s11,(at_ I s12 (at_ I (at_ Ai (at_ Ag s0 s2.toNat) s4.toNat) s13.toNat).toNat,())))
   let x9:=IntKind.wrap .i64 (s13+(1:Int))
   back ((s0,(s2,(s4,(r8.1,(s12,(x9,())))))))
  else none
  else none
  else none
  else none
 else
  some (.inr (.inl (s11,())))
 else none
 else none
def Gi (N:Nat):Nat->PB->Option Oy
 | 0,_=>none
 | k+1,d=>HS N (Gi N k) d
def Wq (N:Nat) (d:List (Tab)×List (Tab)×Int×Int×Int×Unit):Option (Int×Unit):=
 let a0:=d.1
 let a1:=d.2.1
 let a2:=d.2.2.1
 let a3:=d.2.2.2.1
 let a4:=d.2.2.2.2.1
 if (a3==a4)=true then
  some ((0:Int),())
 else
  let x1:=IntKind.wrap .i64 (a2+(1:Int))
  if ((List.length a0:Int) != 0)=true then
  let x2:=x1.tmod (List.length a0:Int)
  if (Af x2 (List.length a1))=true then
  if (Af a3 (List.length (at_ Ag a1 x2.toNat)))=true then
  (Gi N N ((a0,(a2,(a4,((0:Int),(at_ Ai (at_ Ag a1 x2.toNat) a3.toNat,((0:Int),())))))))).bind fun o5=>match o5 with
  | .inl d6=>
   some (d6.1,())
  | .inr (.inl d7)=>
   some (d7.1,())
  else none
  else none
  else none
def V3:FSig:=⟨[(An,false),(An,false),(I,false),(I,false),(I,false)],[I],true,(CQ)⟩
def Aqx:Ctx:={ tk:=Ac tks,ar:=Ac ars,fs:=Ac [(180,V3)] }
abbrev LZ:=List (Tab)×List (Tab)×Int×Int×Int×Int×Unit
abbrev L3:=(Bool×Unit)⊕Unit⊕Empty
def Ab8:AP:=[(0,.v An),(1,.v An),(2,.v I),(3,.v I),(4,.v I),(11,.v I)]
def Acb:AJ:=[(.ret,[(10,.v .bool)]),(.normal,[])]
def I6 (N:Nat) (back:LZ->Option L3) (d:LZ):Option L3:=
 let s0:=d.1
 let s1:=d.2.1
 let s2:=d.2.2.1
 let s3:=d.2.2.2.1
 let s4:=d.2.2.2.2.1
 let s11:=d.2.2.2.2.2.1
 if (Af s2 (List.length s0))=true then
 if (Af s3 (List.length (at_ Ag s0 s2.toNat)))=true then
 if (decide (s11<(List.length (at_ Ai (at_ Ag s0 s2.toNat) s3.toNat):Int)))=true then
  if (Af s2 (List.length s0))=true then
  if (Af s3 (List.length (at_ Ag s0 s2.toNat)))=true then
  if (Af s11 (List.length (at_ Ai (at_ Ag s0 s2.toNat) s3.toNat)))=true then
  (CQ ((s0,(s1,(s2,(at_ I (at_ Ai (at_ Ag s0 s2.toNat) s3.toNat) s11.toNat,(s4,()))))))).bind fun r6=>
  if (decide (r6.1>=(0:Int)))=true then
   some (.inl (true,()))
  else
   let x7:=IntKind.wrap .i64 (s11+(1:Int))
   back ((s0,(s1,(s2,(s3,(s4,(x7,())))))))
  else none
  else none
  else none
 else
  some (.inr (.inl ()))
 else none
 else none
def ML (N:Nat):Nat->LZ->Option L3
 | 0,_=>none
 | k+1,d=>I6 N (ML N k) d
def SF (N:Nat) (d:List (Tab)×List (Tab)×Int×Int×Int×Unit):Option (Bool×Unit):=
 let a0:=d.1
 let a1:=d.2.1
 let a2:=d.2.2.1
 let a3:=d.2.2.2.1
 let a4:=d.2.2.2.2.1
 (ML N N ((a0,(a1,(a2,(a3,(a4,((0:Int),())))))))).bind fun o3=>match o3 with
 | .inl d4=>
  some (d4.1,())
 | .inr (.inl d5)=>
  some (false,())
def Agw:FSig:=⟨[(An,false),(An,false),(I,false),(I,false),(I,false)],[.bool],true,(Id)⟩
def Azd:Ctx:={ tk:=Ac tks,ar:=Ac ars,fs:=Ac [(165,WS),(234,Asd),(235,Agw)] }
abbrev Or:=(Gr×Int×Tab×Unit)×List (Tab)×List (Tab)×Int×List (Tab)×Bool×Int×Int×Int×Unit
abbrev Od:=((Gr×Int×Tab×Unit)×List (Tab)×List (Tab)×Int×List (Tab)×Bool×Int×Int×Unit)⊕Empty
def Akr:AP:=[(1,.box Ae 0),(3,.own An 99),(4,.own An 99),(5,.v I),(6,.own An 99),(7,.v .bool),(8,.v I),(9,.v I),(10,.v I)]
def Aky:AJ:=[(.normal,[(1,.box Ae 0),(3,.own An 99),(4,.own An 99),(5,.v I),(6,.own An 99),(7,.v .bool),(8,.v I),(9,.v I)])]
def KP (N:Nat) (back:Or->Option Od) (d:Or):Option Od:=
 let s1:=d.1
 let s3:=d.2.1
 let s4:=d.2.2.1
 let s5:=d.2.2.2.1
 let s6:=d.2.2.2.2.1
 let s7:=d.2.2.2.2.2.1
 let s8:=d.2.2.2.2.2.2.1
 let s9:=d.2.2.2.2.2.2.2.1
 let s10:=d.2.2.2.2.2.2.2.2.1
 if (decide (s10<s1.1.1))=true then
  if (Af s8 (List.length s6))=true then
  if (Af s9 (List.length (at_ Ag s6 s8.toNat)))=true then
  if (Af s8 (List.length s4))=true then
  if (Af s9 (List.length (at_ Ag s4 s8.toNat)))=true then
  if (Af s10 (List.length (at_ Ai (at_ Ag s4 s8.toNat) s9.toNat)))=true then
  if (Af s10 (List.length (at_ Ai (at_ Ag s6 s8.toNat) s9.toNat)))=true then
  let x58:=List.set s6 s8.toNat (List.set (at_ Ag s6 s8.toNat) s9.toNat (List.set (at_ Ai (at_ Ag s6 s8.toNat) s9.toNat) s10.toNat (at_ I (at_ Ai (at_ Ag s4 s8.toNat) s9.toNat) s10.toNat)))
  if (Af s8 (List.length s4))=true then
  if (Af s9 (List.length (at_ Ag s4 s8.toNat)))=true then
  if (Af s10 (List.length (at_ Ai (at_ Ag s4 s8.toNat) s9.toNat)))=true then
  if (decide (at_ I (at_ Ai (at_ Ag s4 s8.toNat) s9.toNat) s10.toNat<(0:Int)))=true then
   (Id ((s3,(s4,(s8,(s9,(s10,()))))))).bind fun r59=>
   if (r59.1)=true then
    if (Af s8 (List.length x58))=true then
    if (Af s9 (List.length (at_ Ag x58 s8.toNat)))=true then
    if (Af s10 (List.length (at_ Ai (at_ Ag x58 s8.toNat) s9.toNat)))=true then
    let x60:=List.set x58 s8.toNat (List.set (at_ Ag x58 s8.toNat) s9.toNat (List.set (at_ Ai (at_ Ag x58 s8.toNat) s9.toNat) s10.toNat s5))
    let x61:=IntKind.wrap .i64 (s10+(1:Int))
    back ((s1,(s3,(s4,(s5,(x60,(true,(s8,(s9,(x61,()))))))))))
    else none
    else none
    else none
   else
    let x62:=IntKind.wrap .i64 (s10+(1:Int))
    back ((s1,(s3,(s4,(s5,(x58,(s7,(s8,(s9,(x62,()))))))))))
  else
   let x63:=IntKind.wrap .i64 (s10+(1:Int))
   back ((s1,(s3,(s4,(s5,(x58,(s7,(s8,(s9,(x63,()))))))))))
  else none
  else none
  else none
  else none
  else none
  else none
  else none
  else none
  else none
 else
  some (.inl ((s1,(s3,(s4,(s5,(s6,(s7,(s8,(s9,()))))))))))
def NI (N:Nat):Nat->Or->Option Od
 | 0,_=>none
 | k+1,d=>KP N (NI N k) d
abbrev PS:=(Gr×Int×Tab×Unit)×List (Tab)×List (Tab)×Int×List (Tab)×Bool×Int×Int×Unit
abbrev OT:=((Gr×Int×Tab×Unit)×List (Tab)×List (Tab)×Int×List (Tab)×Bool×Int×Unit)⊕Empty
def Apb:AP:=[(1,.box Ae 0),(3,.own An 99),(4,.own An 99),(5,.v I),(6,.own An 99),(7,.v .bool),(8,.v I),(9,.v I)]
def An9:AJ:=[(.normal,[(1,.box Ae 0),(3,.own An 99),(4,.own An 99),(5,.v I),(6,.own An 99),(7,.v .bool),(8,.v I)])]
def KL (N:Nat) (back:PS->Option OT) (d:PS):Option OT:=
 let s1:=d.1
 let s3:=d.2.1
 let s4:=d.2.2.1
 let s5:=d.2.2.2.1
 let s6:=d.2.2.2.2.1
 let s7:=d.2.2.2.2.2.1
 let s8:=d.2.2.2.2.2.2.1
 let s9:=d.2.2.2.2.2.2.2.1
 if (decide (s9<s1.1.1))=true then
  (NI N N ((s1,(s3,(s4,(s5,(s6,(s7,(s8,(s9,((0:Int),()))))))))))).bind fun o55=>match o55 with
  | .inl d56=>
   let x57:=IntKind.wrap .i64 (d56.2.2.2.2.2.2.2.1+(1:Int))
   back ((d56.1,(d56.2.1,(d56.2.2.1,(d56.2.2.2.1,(d56.2.2.2.2.1,(d56.2.2.2.2.2.1,(d56.2.2.2.2.2.2.1,(x57,())))))))))
 else
  some (.inl ((s1,(s3,(s4,(s5,(s6,(s7,(s8,())))))))))
def MN (N:Nat):Nat->PS->Option OT
 | 0,_=>none
 | k+1,d=>KL N (MN N k) d
abbrev QU:=(Gr×Int×Tab×Unit)×List (Tab)×List (Tab)×Int×List (Tab)×Bool×Int×Unit
abbrev PK:=((Gr×Int×Tab×Unit)×List (Tab)×Int×List (Tab)×Bool×Unit)⊕Empty
def Ai0:AP:=[(1,.box Ae 0),(3,.own An 99),(4,.own An 99),(5,.v I),(6,.own An 99),(7,.v .bool),(8,.v I)]
def Am5:AJ:=[(.normal,[(1,.box Ae 0),(3,.own An 99),(5,.v I),(6,.own An 99),(7,.v .bool)])]
def Lw (N:Nat) (back:QU->Option PK) (d:QU):Option PK:=
 let s1:=d.1
 let s3:=d.2.1
 let s4:=d.2.2.1
 let s5:=d.2.2.2.1
 let s6:=d.2.2.2.2.1
 let s7:=d.2.2.2.2.2.1
 let s8:=d.2.2.2.2.2.2.1
 if (decide (s8<s1.2.1))=true then
  (MN N N ((s1,(s3,(s4,(s5,(s6,(s7,(s8,((0:Int),())))))))))).bind fun o46=>match o46 with
  | .inl d47=>
   let x48:=IntKind.wrap .i64 (d47.2.2.2.2.2.2.1+(1:Int))
   back ((d47.1,(d47.2.1,(d47.2.2.1,(d47.2.2.2.1,(d47.2.2.2.2.1,(d47.2.2.2.2.2.1,(x48,()))))))))
 else
  some (.inl ((s1,(s3,(s5,(s6,(s7,())))))))
def NC (N:Nat):Nat->QU->Option PK
 | 0,_=>none
 | k+1,d=>Lw N (NC N k) d
abbrev PT:=(Gr×Int×Tab×Unit)×List (Tab)×List (Tab)×Int×Unit
abbrev Pd:=(List (Tab)×Unit)⊕Empty
def Ak9:AP:=[(1,.box Ae 0),(3,.own An 99),(4,.own An 99),(5,.v I)]
def Amh:AJ:=[(.ret,[(2,.own An 99)])]
def QS (N:Nat) (back:PT->Option Pd) (d:PT):Option Pd:=
 let s1:=d.1
 let s3:=d.2.1
 let s4:=d.2.2.1
 let s5:=d.2.2.2.1
 (Ev ((s1.2.1,(s1.1.1,())))).bind fun r21=>
 (NC N N ((s1,(s3,(s4,(s5,(r21.1,(false,((0:Int),()))))))))).bind fun o34=>match o34 with
 | .inl d35=>
  if (!d35.2.2.2.2.1)=true then
   some (.inl (d35.2.2.2.1,()))
  else
   let x36:=IntKind.wrap .i64 (d35.2.2.1+(1:Int))
   back ((d35.1,(d35.2.1,(d35.2.2.2.1,(x36,())))))
def NB (N:Nat):Nat->PT->Option Pd
 | 0,_=>none
 | k+1,d=>QS N (NB N k) d
def XE (N:Nat) (d:(Gr×Int×Tab×Unit)×Unit):Option (List (Tab)×Unit):=
 let a0:=d.1
 (Dm (a0,())).bind fun r1=>
 (Ev ((a0.2.1,(a0.1.1,())))).bind fun r2=>
 (NB N N ((a0,(r1.1,(r2.1,((1:Int),())))))).bind fun o19=>match o19 with
 | .inl d20=>
  some (d20.1,())
def Xg:FSig:=⟨[(Ae,false)],[An],true,(Do)⟩
def Ax2:Ctx:={ tk:=Ac tks,ar:=Ac ars,fs:=Ac [(163,TY),(171,Xg)] }
def Jq (N:Nat) (d:(Gr×Int×Tab×Unit)×Unit):Option (List (Tab)×Bool×Unit):=
 let a0:=d.1
 (C6 (a0,())).bind fun r1=>
 if (!r1.1)=true then
  some ((([]:List (Tab)),(false,())))
 else
  (Do (a0,())).bind fun r2=>
  some ((r2.1,(true,())))
def Abs:FSig:=⟨[(Ae,false)],[An,.bool],true,(Jq 0)⟩
def Axg:Ctx:={ tk:=Ac tks,ar:=Ac ars,fs:=Ac [(78,Abs),(91,JL),(133,Mz),(160,WV)],dm:=fun t=>Nat.beq t 97,cs:=Ac [],gs:=Ac [],eqt:=inL [],md:=md0,thin:=fun t=>Nat.beq t 97 }
def NR (N:Nat) (d:List Int×Unit):Option ((Gr×Int×Tab×Unit)×List (Tab)×Unit):=
 let a0:=d.1
 ((CX IU Hf) (((a0,((0:Int),((0:Int),()))),()))).bind fun r10=>
 ((Jq 0) (r10.1,())).bind fun r11=>
 if (decide ((List.length r11.1:Int)>(0:Int)))=true then
  ((BU 0) ((r10.2.1,((List.length r11.1:Int),())))).bind fun r12=>
  if (Af r12.1 (List.length r11.1))=true then
  ((BU 0) ((r12.2.1,((List.length (at_ Ag r11.1 r12.1.toNat):Int),())))).bind fun r13=>
  if (Af r12.1 (List.length r11.1))=true then
  if (Af r13.1 (List.length (at_ Ag r11.1 r12.1.toNat)))=true then
  ((BU 0) ((r13.2.1,((List.length (at_ Ai (at_ Ag r11.1 r12.1.toNat) r13.1.toNat):Int),())))).bind fun r14=>
  ((BU 0) ((r14.2.1,((8:Int),())))).bind fun r15=>
  if (r15.1==(0:Int))=true then
   if (Af r12.1 (List.length r11.1))=true then
   if (Af r13.1 (List.length (at_ Ag r11.1 r12.1.toNat)))=true then
   if (Af r12.1 (List.length r11.1))=true then
   if (Af r13.1 (List.length (at_ Ag r11.1 r12.1.toNat)))=true then
   if (Af r14.1 (List.length (at_ Ai (at_ Ag r11.1 r12.1.toNat) r13.1.toNat)))=true then
   ((CA 0) ((r15.2.1,([(1:Int),(-1:Int),(2:Int)],())))).bind fun r16=>
   let x17:=IntKind.wrap .i64 (at_ I (at_ Ai (at_ Ag r11.1 r12.1.toNat) r13.1.toNat) r14.1.toNat+r16.1)
   if (Af r14.1 (List.length (at_ Ai (at_ Ag r11.1 r12.1.toNat) r13.1.toNat)))=true then
   let x18:=List.set r11.1 r12.1.toNat (List.set (at_ Ag r11.1 r12.1.toNat) r13.1.toNat (List.set (at_ Ai (at_ Ag r11.1 r12.1.toNat) r13.1.toNat) r14.1.toNat x17))
   some ((r10.1,(x18,())))
   else none
   else none
   else none
   else none
   else none
   else none
  else
   if (r15.1==(1:Int))=true then
    if (Af r12.1 (List.length r11.1))=true then
    if (Af r13.1 (List.length (at_ Ag r11.1 r12.1.toNat)))=true then
    ((CA 0) ((r15.2.1,([(-2:Int),(-1:Int),(0:Int),(4611686018427387904:Int)],())))).bind fun r19=>
    if (Af r14.1 (List.length (at_ Ai (at_ Ag r11.1 r12.1.toNat) r13.1.toNat)))=true then
    let x20:=List.set r11.1 r12.1.toNat (List.set (at_ Ag r11.1 r12.1.toNat) r13.1.toNat (List.set (at_ Ai (at_ Ag r11.1 r12.1.toNat) r13.1.toNat) r14.1.toNat r19.1))
    some ((r10.1,(x20,())))
    else none
    else none
    else none
   else
    if (r15.1==(2:Int))=true then
     if ((decide (0<=(1:Int))&&decide ((1:Int)<=(List.length r11.1:Int))&&decide ((List.length r11.1:Int)<=(List.length r11.1:Int))))=true then
     let x21:=CY r11.1 (1:Int) (List.length r11.1:Int)
     some ((r10.1,(x21,())))
     else none
    else
     if (r15.1==(3:Int))=true then
      if (Af r12.1 (List.length r11.1))=true then
      if ((decide (0<=(1:Int))&&decide ((1:Int)<=(List.length (at_ Ag r11.1 r12.1.toNat):Int))&&decide ((List.length (at_ Ag r11.1 r12.1.toNat):Int)<=(List.length (at_ Ag r11.1 r12.1.toNat):Int))))=true then
      let x22:=CY (at_ Ag r11.1 r12.1.toNat) (1:Int) (List.length (at_ Ag r11.1 r12.1.toNat):Int)
      if (Af r12.1 (List.length r11.1))=true then
      let x23:=List.set r11.1 r12.1.toNat x22
      some ((r10.1,(x23,())))
      else none
      else none
      else none
     else
      some ((r10.1,(r11.1,())))
  else none
  else none
  else none
 else
  some ((r10.1,(r11.1,())))
def Aq0:FSig:=⟨[(K_Su8,false)],[Ae,An],false,(NR 0)⟩
def Apk:Ctx:={ tk:=Ac tks,ar:=Ac ars,fs:=Ac [] }
def RP (N:Nat) (d:Int×Int×Int×Unit):Option (Bool×Unit):=
 let a0:=d.1
 let a1:=d.2.1
 let a2:=d.2.2.1
 if (decide (a0>=a1))=true then
  some (decide (a0<=a2),())
 else
  some (false,())
def E4 (d:Int×Int×Int×Unit):Bool×Unit:=
 let a0:=d.1
 let a1:=d.2.1
 let a2:=d.2.2.1
 if (decide (a0>=a1))=true then
  (decide (a0<=a2),())
 else
  (false,())
theorem ZV (N:Nat) (d):RP N d=some (E4 d):=by
 unfold RP E4
 first
  | rfl
  | (dsimp only; (repeat' split)<;>rfl)
def Lg:FSig:=⟨[(I,false),(I,false),(I,false)],[.bool],true,(fun d=>some (E4 d))⟩
def Awr:Ctx:={ tk:=Ac tks,ar:=Ac ars,fs:=Ac [] }
def Xo (N:Nat) (d:Int×Unit):Option (Bool×Unit):=
 let a0:=d.1
 some (a0 != a0,())
def Kk (d:Int×Unit):Bool×Unit:=
 let a0:=d.1
 (a0 != a0,())
theorem Afz (N:Nat) (d):Xo N d=some (Kk d):=by
 unfold Xo Kk
 first
  | rfl
  | (dsimp only; (repeat' split)<;>rfl)
def Auu:FSig:=⟨[(I,false)],[.bool],true,(fun d=>some (Kk d))⟩
def Av2:Ctx:={ tk:=Ac tks,ar:=Ac ars,fs:=Ac [(258,Auu)] }
def W4 (N:Nat) (d:Int×Int×Unit):Option (Int×Unit):=
 let a0:=d.1
 let a1:=d.2.1
 let r1:=Kk (a0,())
 let r2:=Kk (a1,())
 if (r1.1)=true then
  if (r2.1)=true then
   some ((0:Int),())
  else
   some ((-1:Int),())
 else
  if (r2.1)=true then
   some ((1:Int),())
  else
   if (decide (a0<a1))=true then
    some ((-1:Int),())
   else
    if (decide (a0>a1))=true then
     some ((1:Int),())
    else
     some ((0:Int),())
def OG (d:Int×Int×Unit):Int×Unit:=
 let a0:=d.1
 let a1:=d.2.1
 let r1:=Kk (a0,())
 let r2:=Kk (a1,())
 if (r1.1)=true then
  if (r2.1)=true then
   ((0:Int),())
  else
   ((-1:Int),())
 else
  if (r2.1)=true then
   ((1:Int),())
  else
   if (decide (a0<a1))=true then
    ((-1:Int),())
   else
    if (decide (a0>a1))=true then
     ((1:Int),())
    else
     ((0:Int),())
theorem Ab2 (N:Nat) (d):W4 N d=some (OG d):=by
 unfold W4 OG
 first
  | rfl
  | (dsimp only; (repeat' split)<;>rfl)
def Arg:FSig:=⟨[(I,false),(I,false)],[I],true,(fun d=>some (OG d))⟩
def Ay4:Ctx:={ tk:=Ac tks,ar:=Ac ars,fs:=Ac [(246,Arg)] }
abbrev Of:=List Int×List Int×List Int×Int×Int×Unit
abbrev NU:=(Int×Unit)⊕(List Int×List Int×Unit)⊕Empty
def Ao0:AP:=[(0,.v Ai),(1,.v Ai),(9,.v Ai),(10,.v I),(11,.v I)]
def Aop:AJ:=[(.ret,[(4,.v I)]),(.normal,[(0,.v Ai),(1,.v Ai)])]
def HB (N:Nat) (back:Of->Option NU) (d:Of):Option NU:=
 let s0:=d.1
 let s1:=d.2.1
 let s9:=d.2.2.1
 let s10:=d.2.2.2.1
 let s11:=d.2.2.2.2.1
 if (decide (s11<s10))=true then
  if (Af s11 (List.length s9))=true then
  if (decide (s11>=(List.length s1:Int)))=true then
   some (.inl ((1:Int),()))
  else
   if (Af s11 (List.length s1))=true then
   let r6:=OG ((at_ I s9 s11.toNat,(at_ I s1 s11.toNat,())))
   if (r6.1 != (0:Int))=true then
    some (.inl (r6.1,()))
   else
    let x7:=IntKind.wrap .i64 (s11+(1:Int))
    back ((s0,(s1,(s9,(s10,(x7,()))))))
   else none
  else none
 else
  some (.inr (.inl ((s0,(s1,())))))
def IP (N:Nat):Nat->Of->Option NU
 | 0,_=>none
 | k+1,d=>HB N (IP N k) d
def Wp (N:Nat) (d:List Int×List Int×Unit):Option (Int×Unit):=
 let a0:=d.1
 let a1:=d.2.1
 (IP N N ((a0,(a1,(a0,((List.length a0:Int),((0:Int),()))))))).bind fun o3=>match o3 with
 | .inl d4=>
  some (d4.1,())
 | .inr (.inl d5)=>
  if (decide ((List.length d5.1:Int)<(List.length d5.2.1:Int)))=true then
   some ((-1:Int),())
  else
   some ((0:Int),())
def Atz:FSig:=⟨[(Ai,false),(Ai,false)],[I],true,(Ew)⟩
def Avt:Ctx:={ tk:=Ac tks,ar:=Ac ars,fs:=Ac [(143,Lg),(199,Atz)] }
abbrev O1:=Gr×(List (Int×Int×Unit))×Int×Int×Unit
abbrev O8:=(Bool×Unit)⊕Unit⊕Empty
def Ank:AP:=[(1,.box Aj 0),(10,.v Cb),(11,.v I),(12,.v I)]
def Aja:AJ:=[(.ret,[(2,.v .bool)]),(.normal,[])]
def K8 (N:Nat) (back:O1->Option O8) (d:O1):Option O8:=
 let s1:=d.1
 let s10:=d.2.1
 let s11:=d.2.2.1
 let s12:=d.2.2.2.1
 if (decide (s12<s11))=true then
  if (Af s12 (List.length s10))=true then
  if (decide ((at_ Am s10 s12.toNat).1<(0:Int)))=true then
   some (.inl (false,()))
  else
   if (decide ((at_ Am s10 s12.toNat).1>=(at_ Am s10 s12.toNat).2.1))=true then
    some (.inl (false,()))
   else
    if (decide ((at_ Am s10 s12.toNat).2.1>=s1.1))=true then
     some (.inl (false,()))
    else
     if (decide (s12>(0:Int)))=true then
      let x9:=IntKind.wrap .i64 (s12-(1:Int))
      if (Af x9 (List.length s1.2.1))=true then
      (Ew (([(at_ Am s1.2.1 x9.toNat).1,(at_ Am s1.2.1 x9.toNat).2.1],([(at_ Am s10 s12.toNat).1,(at_ Am s10 s12.toNat).2.1],())))).bind fun r10=>
      if (decide (r10.1>=(0:Int)))=true then
       some (.inl (false,()))
      else
       let x11:=IntKind.wrap .i64 (s12+(1:Int))
       back ((s1,(s10,(s11,(x11,())))))
      else none
     else
      let x12:=IntKind.wrap .i64 (s12+(1:Int))
      back ((s1,(s10,(s11,(x12,())))))
  else none
 else
  some (.inr (.inl ()))
def Sj (N:Nat):Nat->O1->Option O8
 | 0,_=>none
 | k+1,d=>K8 N (Sj N k) d
def WQ (N:Nat) (d:Gr×Unit):Option (Bool×Unit):=
 let a0:=d.1
 let r1:=E4 ((a0.1,((0:Int),((8:Int),()))))
 if (!r1.1)=true then
  some (false,())
 else
  (Sj N N ((a0,(a0.2.1,((List.length a0.2.1:Int),((0:Int),())))))).bind fun o6=>match o6 with
  | .inl d7=>
   some (d7.1,())
  | .inr (.inl d8)=>
   some (true,())
def TR:FSig:=⟨[(Aj,false)],[.bool],true,(C2)⟩
def Awh:Ctx:={ tk:=Ac tks,ar:=Ac ars,fs:=Ac [] }
abbrev PN:=List Int×Int×Unit
abbrev O6:=(Bool×Unit)⊕Unit⊕Empty
def Api:AP:=[(0,.v Ai),(3,.v I)]
def Am1:AJ:=[(.ret,[(2,.v .bool)]),(.normal,[])]
def K2 (N:Nat) (back:PN->Option O6) (d:PN):Option O6:=
 let s0:=d.1
 let s3:=d.2.1
 if (decide (s3<(List.length s0:Int)))=true then
  let x6:=IntKind.wrap .i64 (s3-(1:Int))
  if (Af x6 (List.length s0))=true then
  if (Af s3 (List.length s0))=true then
  if (decide (at_ I s0 x6.toNat>=at_ I s0 s3.toNat))=true then
   some (.inl (false,()))
  else
   let x7:=IntKind.wrap .i64 (s3+(1:Int))
   back ((s0,(x7,())))
  else none
  else none
 else
  some (.inr (.inl ()))
def R3 (N:Nat):Nat->PN->Option O6
 | 0,_=>none
 | k+1,d=>K2 N (R3 N k) d
def WK (N:Nat) (d:List Int×Unit):Option (Bool×Unit):=
 let a0:=d.1
 (R3 N N ((a0,((1:Int),())))).bind fun o3=>match o3 with
 | .inl d4=>
  some (d4.1,())
 | .inr (.inl d5)=>
  some (true,())
def At1:FSig:=⟨[(Ai,false)],[.bool],true,(EU)⟩
def Av0:Ctx:={ tk:=Ac tks,ar:=Ac ars,fs:=Ac [(143,Lg)] }
abbrev O9:=Int×Int×List Int×Int×Int×Unit
abbrev NN:=(Bool×Unit)⊕Unit⊕Empty
def Aj1:AP:=[(1,.v I),(2,.v I),(9,.v Ai),(10,.v I),(11,.v I)]
def Ajr:AJ:=[(.ret,[(6,.v .bool)]),(.normal,[])]
def KM (N:Nat) (back:O9->Option NN) (d:O9):Option NN:=
 let s1:=d.1
 let s2:=d.2.1
 let s9:=d.2.2.1
 let s10:=d.2.2.2.1
 let s11:=d.2.2.2.2.1
 if (decide (s11<s10))=true then
  if (Af s11 (List.length s9))=true then
  let r6:=E4 ((at_ I s9 s11.toNat,(s1,(s2,()))))
  if (!r6.1)=true then
   some (.inl (false,()))
  else
   let x7:=IntKind.wrap .i64 (s11+(1:Int))
   back ((s1,(s2,(s9,(s10,(x7,()))))))
  else none
 else
  some (.inr (.inl ()))
def Sm (N:Nat):Nat->O9->Option NN
 | 0,_=>none
 | k+1,d=>KM N (Sm N k) d
def WY (N:Nat) (d:List Int×Int×Int×Unit):Option (Bool×Unit):=
 let a0:=d.1
 let a1:=d.2.1
 let a2:=d.2.2.1
 (Sm N N ((a1,(a2,(a0,((List.length a0:Int),((0:Int),()))))))).bind fun o3=>match o3 with
 | .inl d4=>
  some (d4.1,())
 | .inr (.inl d5)=>
  some (true,())
def Wl:FSig:=⟨[(Ai,false),(I,false),(I,false)],[.bool],true,(CK)⟩
def Axs:Ctx:={ tk:=Ac tks,ar:=Ac ars,fs:=Ac [(128,Wl),(169,At1)] }
def VW (N:Nat) (d:List Int×(Gr×Int×Tab×Unit)×Unit):Option (Bool×Unit):=
 let a0:=d.1
 let a1:=d.2.1
 (EU (a0,())).bind fun r1=>
 if (!r1.1)=true then
  some (true,())
 else
  let x2:=IntKind.wrap .i64 (a1.2.1-(1:Int))
  (CK ((a0,((0:Int),(x2,()))))).bind fun r3=>
  some (!r3.1,())
def ACo:FSig:=⟨[(Ai,false),(EV,false)],[.bool],true,(VW 0)⟩
def WE (d:List Int×(Unit×(Gr×Int×Tab×Unit)×Unit)×Unit):Option (Bool×Unit):=(VW 0) (d.1,d.2.1.2)
def Ahp:FSig:=⟨[(Ai,false),(Bc,false)],[.bool],true,WE⟩
def Azf:Ctx:={ tk:=Ac tks,ar:=Ac ars,fs:=Ac [],cs:=Ac [(168,Ahp)] }
abbrev QX:=Tab×(Unit×(Gr×Int×Tab×Unit)×Unit)×Int×Int×Unit
abbrev OM:=(Int×Unit)⊕Unit⊕Empty
def Akz:AP:=[(0,.v Ag),(1,.v Bc),(7,.v I),(8,.v I)]
def Aoa:AJ:=[(.ret,[(4,.v I)]),(.normal,[])]
def KV (N:Nat) (back:QX->Option OM) (d:QX):Option OM:=
 let s0:=d.1
 let s1:=d.2.1
 let s7:=d.2.2.1
 let s8:=d.2.2.2.1
 if (decide (s8<s7))=true then
  if (Af s8 (List.length s0))=true then
  (WE ((at_ Ai s0 s8.toNat,(s1,())))).bind fun r6=>
  if (r6.1)=true then
   some (.inl (s8,()))
  else
   let x7:=IntKind.wrap .i64 (s8+(1:Int))
   back ((s0,(s1,(s7,(x7,())))))
  else none
 else
  some (.inr (.inl ()))
def RN (N:Nat):Nat->QX->Option OM
 | 0,_=>none
 | k+1,d=>KV N (RN N k) d
def Pu (N:Nat) (d:Tab×(Unit×(Gr×Int×Tab×Unit)×Unit)×Unit):Option (Int×Unit):=
 let a0:=d.1
 let a1:=d.2.1
 (RN N N ((a0,(a1,((List.length a0:Int),((0:Int),())))))).bind fun o3=>match o3 with
 | .inl d4=>
  some (d4.1,())
 | .inr (.inl d5)=>
  some ((-1:Int),())
def Atl:FSig:=⟨[(Ag,false),(Bc,false)],[I],true,(Ht)⟩
def AAg:Ctx:={ tk:=Ac tks,ar:=Ac ars,fs:=Ac [(232,Atl)] }
def Yk (N:Nat) (d:Tab×(Unit×(Gr×Int×Tab×Unit)×Unit)×Unit):Option (Bool×Unit):=
 let a0:=d.1
 let a1:=d.2.1
 (Ht ((a0,(a1,())))).bind fun r1=>
 some ((decide (r1.1>=(0:Int)),()))
def Azs:FSig:=⟨[(Ag,false),(Bc,false)],[.bool],true,(Yk 0)⟩
def Azh:Ctx:={ tk:=Ac tks,ar:=Ac ars,fs:=Ac [(114,TR),(143,Lg),(167,Azs)],cs:=Ac [],fz:=fun t=>Nat.beq t 1 }
def Hn (N:Nat) (d:(Gr×Int×Tab×Unit)×Unit):Option (Bool×Unit):=
 let a0:=d.1
 (C2 (a0.1,())).bind fun r1=>
 if (!r1.1)=true then
  some (false,())
 else
  if (a0.1.1==(0:Int))=true then
   some (false,())
  else
   let r2:=E4 ((a0.2.1,((1:Int),((4:Int),()))))
   if (!r2.1)=true then
    some (false,())
   else
    if ((List.length a0.2.2.1:Int) != (List.length a0.1.2.1:Int))=true then
     some (false,())
    else
     ((Yk 0) ((a0.2.2.1,(((),(a0,())),())))).bind fun r3=>
     some (!r3.1,())
def Mx:FSig:=⟨[(Ae,false)],[.bool],true,(Hn 0)⟩
def UC:Ctx:={ tk:=Ac tks,ar:=Ac ars,fs:=Ac [] }
abbrev FR:=(List Int×Unit)×(List Int×Unit)×(List (Int×Int×Unit))×Int×Int×Unit
abbrev FP:=((List Int×Unit)×(List Int×Unit)×Unit)⊕Empty
def Rr:AP:=[(2,.box AA 99),(3,.box AA 99),(11,.v Cb),(12,.v I),(13,.v I)]
def RG:AJ:=[(.normal,[(2,.box AA 99),(3,.box AA 99)])]
def Dr (N:Nat) (back:FR->Option FP) (d:FR):Option FP:=
 let s2:=d.1
 let s3:=d.2.1
 let s11:=d.2.2.1
 let s12:=d.2.2.2.1
 let s13:=d.2.2.2.2.1
 if (decide (s13<s12))=true then
  if (Af s13 (List.length s11))=true then
  if (Af (at_ Am s11 s13.toNat).1 (List.length s3.1))=true then
  if (decide (0<=(at_ Am s11 s13.toNat).2.1))=true then
  let x9:=shl .i64 (1:Int) (at_ Am s11 s13.toNat).2.1
  let x10:=bits .or .i64 (at_ I s3.1 (at_ Am s11 s13.toNat).1.toNat) x9
  if (Af (at_ Am s11 s13.toNat).1 (List.length s3.1))=true then
  if (Af (at_ Am s11 s13.toNat).2.1 (List.length (List.set s3.1 (at_ Am s11 s13.toNat).1.toNat x10)))=true then
  if (decide (0<=(at_ Am s11 s13.toNat).1))=true then
  let x11:=shl .i64 (1:Int) (at_ Am s11 s13.toNat).1
  let x12:=bits .or .i64 (at_ I (List.set s3.1 (at_ Am s11 s13.toNat).1.toNat x10) (at_ Am s11 s13.toNat).2.1.toNat) x11
  if (Af (at_ Am s11 s13.toNat).2.1 (List.length (List.set s3.1 (at_ Am s11 s13.toNat).1.toNat x10)))=true then
  let x13:=IntKind.wrap .i64 (s13+(1:Int))
  back ((s2,((List.set (List.set s3.1 (at_ Am s11 s13.toNat).1.toNat x10) (at_ Am s11 s13.toNat).2.1.toNat x12,s3.2),(s11,(s12,(x13,()))))))
  else none
  else none
  else none
  else none
  else none
  else none
  else none
 else
  some (.inl ((s2,(s3,()))))
def CR (N:Nat):Nat->FR->Option FP
 | 0,_=>none
 | k+1,d=>Dr N (CR N k) d
def Gu (N:Nat) (d:Gr×Unit):Option ((List Int×Unit)×Unit):=
 let a0:=d.1
 if ((decide (0<=a0.1)&&decide (a0.1<=a0.1)&&decide (a0.1<=(lim:Int))))=true then
 let x1:=List.replicate a0.1.toNat (0:Int)
 (CR N N (((([]:List Int),()),((x1,()),(a0.2.1,((List.length a0.2.1:Int),((0:Int),()))))))).bind fun o7=>match o7 with
 | .inl d8=>
  some (d8.2.1,())
 else none
def Gf:FSig:=⟨[(Aj,false)],[AA],true,(Fu)⟩
def Avd:Ctx:={ tk:=Ac tks,ar:=Ac ars,fs:=Ac [] }
abbrev QL:=List Int×Int×Int×Int×Unit
abbrev QE:=(Int×Unit)⊕Unit⊕Empty
def Ajf:AP:=[(0,.v Ai),(1,.v I),(7,.v I),(8,.v I)]
def Am0:AJ:=[(.ret,[(4,.v I)]),(.normal,[])]
def KX (N:Nat) (back:QL->Option QE) (d:QL):Option QE:=
 let s0:=d.1
 let s1:=d.2.1
 let s7:=d.2.2.1
 let s8:=d.2.2.2.1
 if (decide (s8<s7))=true then
  if (Af s8 (List.length s0))=true then
  if (s1==at_ I s0 s8.toNat)=true then
   some (.inl (s8,()))
  else
   let x5:=IntKind.wrap .i64 (s8+(1:Int))
   back ((s0,(s1,(s7,(x5,())))))
  else none
 else
  some (.inr (.inl ()))
def RU (N:Nat):Nat->QL->Option QE
 | 0,_=>none
 | k+1,d=>KX N (RU N k) d
def W8 (N:Nat) (d:List Int×Int×Unit):Option (Int×Unit):=
 let a0:=d.1
 let a1:=d.2.1
 (RU N N ((a0,(a1,((List.length a0:Int),((0:Int),())))))).bind fun o2=>match o2 with
 | .inl d3=>
  some (d3.1,())
 | .inr (.inl d4)=>
  some ((-1:Int),())
def Aty:FSig:=⟨[(Ai,false),(I,false)],[I],true,(KF)⟩
def Aw3:Ctx:={ tk:=Ac tks,ar:=Ac ars,fs:=Ac [(211,Aty)] }
def Jk (N:Nat) (d:List Int×Int×Unit):Option (Bool×Unit):=
 let a0:=d.1
 let a1:=d.2.1
 (KF ((a0,(a1,())))).bind fun r1=>
 some ((decide (r1.1>=(0:Int)),()))
def VE:FSig:=⟨[(Ai,false),(I,false)],[.bool],true,(Jk 0)⟩
def Ayt:Ctx:={ tk:=Ac tks,ar:=Ac ars,fs:=Ac [(95,Gf),(129,VE)] }
abbrev Pg:=(Gr×Int×Tab×Unit)×(List (List Int×Unit))×Int×Int×Int×(List (Int×Int×Unit))×Int×Int×Unit
abbrev NV:=((Gr×Int×Tab×Unit)×(List (List Int×Unit))×Int×Int×Unit)⊕Empty
def Am7:AP:=[(1,.box Ae 0),(3,.own AU 99),(4,.v I),(11,.v I),(12,.v I),(25,.v Cb),(26,.v I),(27,.v I)]
def Alv:AJ:=[(.normal,[(1,.box Ae 0),(3,.own AU 99),(11,.v I),(12,.v I)])]
def HA (N:Nat) (back:Pg->Option NV) (d:Pg):Option NV:=
 let s1:=d.1
 let s3:=d.2.1
 let s4:=d.2.2.1
 let s11:=d.2.2.2.1
 let s12:=d.2.2.2.2.1
 let s25:=d.2.2.2.2.2.1
 let s26:=d.2.2.2.2.2.2.1
 let s27:=d.2.2.2.2.2.2.2.1
 if (decide (s27<s26))=true then
  if (Af s27 (List.length s25))=true then
  if (Af s27 (List.length s1.2.2.1))=true then
  ((Jk 0) ((at_ Ai s1.2.2.1 s27.toNat,(s4,())))).bind fun r30=>
  if (r30.1)=true then
   if (Af s4 (List.length s3))=true then
   if (Af (at_ Am s25 s27.toNat).1 (List.length (at_ AA s3 s4.toNat).1))=true then
   if (decide (0<=(at_ Am s25 s27.toNat).2.1))=true then
   let x31:=shl .i64 (1:Int) (at_ Am s25 s27.toNat).2.1
   let x32:=bits .or .i64 (at_ I (at_ AA s3 s4.toNat).1 (at_ Am s25 s27.toNat).1.toNat) x31
   if (Af (at_ Am s25 s27.toNat).1 (List.length (at_ AA s3 s4.toNat).1))=true then
   let x33:=List.set s3 s4.toNat (List.set (at_ AA s3 s4.toNat).1 (at_ Am s25 s27.toNat).1.toNat x32,(at_ AA s3 s4.toNat).2)
   if (Af s4 (List.length x33))=true then
   if (Af (at_ Am s25 s27.toNat).2.1 (List.length (at_ AA x33 s4.toNat).1))=true then
   if (decide (0<=(at_ Am s25 s27.toNat).1))=true then
   let x34:=shl .i64 (1:Int) (at_ Am s25 s27.toNat).1
   let x35:=bits .or .i64 (at_ I (at_ AA x33 s4.toNat).1 (at_ Am s25 s27.toNat).2.1.toNat) x34
   if (Af (at_ Am s25 s27.toNat).2.1 (List.length (at_ AA x33 s4.toNat).1))=true then
   let x36:=List.set x33 s4.toNat (List.set (at_ AA x33 s4.toNat).1 (at_ Am s25 s27.toNat).2.1.toNat x35,(at_ AA x33 s4.toNat).2)
   let x37:=IntKind.wrap .i64 (s27+(1:Int))
   back ((s1,(x36,(s4,(s11,(s12,(s25,(s26,(x37,())))))))))
   else none
   else none
   else none
   else none
   else none
   else none
   else none
   else none
  else
   let x38:=IntKind.wrap .i64 (s27+(1:Int))
   back ((s1,(s3,(s4,(s11,(s12,(s25,(s26,(x38,())))))))))
  else none
  else none
 else
  some (.inl ((s1,(s3,(s11,(s12,()))))))
def Jo (N:Nat):Nat->Pg->Option NV
 | 0,_=>none
 | k+1,d=>HA N (Jo N k) d
abbrev Ql:=(Gr×Int×Tab×Unit)×(List (List Int×Unit))×Int×Int×Unit
abbrev PM:=((List (List Int×Unit))×Unit)⊕Empty
def Ai8:AP:=[(1,.box Ae 0),(3,.own AU 99),(11,.v I),(12,.v I)]
def Ama:AJ:=[(.normal,[(3,.own AU 99)])]
def Lk (N:Nat) (back:Ql->Option PM) (d:Ql):Option PM:=
 let s1:=d.1
 let s3:=d.2.1
 let s11:=d.2.2.1
 let s12:=d.2.2.2.1
 if (decide (s12<s11))=true then
  (Fu (((s1.1.1,(([]:List (Int×Int×Unit)),())),()))).bind fun r17=>
  if (Af s12 (List.length s3))=true then
  (Jo N N ((s1,(List.set s3 s12.toNat r17.1,(s12,(s11,(s12,(s1.1.2.1,((List.length s1.1.2.1:Int),((0:Int),())))))))))).bind fun o27=>match o27 with
  | .inl d28=>
   let x29:=IntKind.wrap .i64 (d28.2.2.2.1+(1:Int))
   back ((d28.1,(d28.2.1,(d28.2.2.1,(x29,())))))
  else none
 else
  some (.inl (s3,()))
def Lc (N:Nat):Nat->Ql->Option PM
 | 0,_=>none
 | k+1,d=>Lk N (Lc N k) d
def V0 (N:Nat) (d:(Gr×Int×Tab×Unit)×Unit):Option ((List (List Int×Unit))×Unit):=
 let a0:=d.1
 if ((decide (0<=a0.2.1)&&decide (a0.2.1<=a0.2.1)&&decide (a0.2.1<=(lim:Int))))=true then
 let x1:=List.replicate a0.2.1.toNat (([]:List Int),())
 (Lc N N ((a0,(x1,((List.length x1:Int),((0:Int),())))))).bind fun o15=>match o15 with
 | .inl d16=>
  some (d16.1,())
 else none
def ON:FSig:=⟨[(Ae,false)],[AU],true,(Cq)⟩
def Awp:Ctx:={ tk:=Ac tks,ar:=Ac ars,fs:=Ac [] }
def Xt (N:Nat) (d:(List Int×Unit)×Unit):Option (Int×Unit):=
 let a0:=d.1
 some ((List.length a0.1:Int),())
def Fo (d:(List Int×Unit)×Unit):Int×Unit:=
 let a0:=d.1
 ((List.length a0.1:Int),())
theorem Abe (N:Nat) (d):Xt N d=some (Fo d):=by
 unfold Xt Fo
 first
  | rfl
  | (dsimp only; (repeat' split)<;>rfl)
def PC:FSig:=⟨[(AA,false)],[I],true,(fun d=>some (Fo d))⟩
def Awd:Ctx:={ tk:=Ac tks,ar:=Ac ars,fs:=Ac [] }
def XH (N:Nat) (d:Int×Unit):Option (Bool×Unit):=
 let a0:=d.1
 some ((decide (a0<(-1:Int)),()))
def S6 (d:Int×Unit):Bool×Unit:=
 let a0:=d.1
 ((decide (a0<(-1:Int)),()))
theorem Agh (N:Nat) (d):XH N d=some (S6 d):=by
 unfold XH S6
 first
  | rfl
  | (dsimp only; (repeat' split)<;>rfl)
def ADo:FSig:=⟨[(I,false)],[.bool],true,(fun d=>some (S6 d))⟩
def Avw:Ctx:={ tk:=Ac tks,ar:=Ac ars,fs:=Ac [] }
def IL (N:Nat) (d:(List Int×Unit)×Int×Unit):Option (Int×Unit):=
 let a0:=d.1
 let a1:=d.2.1
 if (Af a1 (List.length a0.1))=true then
 if (decide (0<=a1))=true then
 let x1:=bits .or .i64 (at_ I a0.1 a1.toNat) (shl .i64 (1:Int) a1)
 some (x1,())
 else none
 else none
def Oc:FSig:=⟨[(AA,false),(I,false)],[I],true,(IL 0)⟩
def UI:Ctx:={ tk:=Ac tks,ar:=Ac ars,fs:=Ac [] }
abbrev FV:=Int×List Int×Int×Unit
abbrev F6:=(List Int×Unit)⊕Empty
def Rp:AP:=[(0,.v I),(3,.own Ai 99),(4,.v I)]
def RF:AJ:=[(.normal,[(3,.own Ai 99)])]
def Dv (N:Nat) (back:FV->Option F6) (d:FV):Option F6:=
 let s0:=d.1
 let s3:=d.2.1
 let s4:=d.2.2.1
 if (decide (0<=s4))=true then
 if (shr .i64 s0 s4 != (0:Int))=true then
  if (decide (0<=s4))=true then
  let x6:=bits .and .i64 (shr .i64 s0 s4) (1:Int)
  if (x6==(1:Int))=true then
   if (decide (List.length s3+List.length ([s4])<=lim))=true then
   let x7:=IntKind.wrap .i64 (s4+(1:Int))
   back ((s0,(s3++([s4]),(x7,()))))
   else none
  else
   let x8:=IntKind.wrap .i64 (s4+(1:Int))
   back ((s0,(s3,(x8,()))))
  else none
 else
  some (.inl (s3,()))
 else none
def DB (N:Nat):Nat->FV->Option F6
 | 0,_=>none
 | k+1,d=>Dv N (DB N k) d
def Gj (N:Nat) (d:Int×Unit):Option (List Int×Unit):=
 let a0:=d.1
 (DB N N ((a0,(([]:List Int),((0:Int),()))))).bind fun o4=>match o4 with
 | .inl d5=>
  some (d5.1,())
def Dg:FSig:=⟨[(I,false)],[Ai],true,(D8)⟩
def Ayj:Ctx:={ tk:=Ac tks,ar:=Ac ars,fs:=Ac [(127,Dg),(130,Oc)] }
abbrev OI:=List Int×Int×List Int×Int×Int×Unit
abbrev Pi:=(Int×Unit)⊕(Int×Unit)⊕Empty
def Aji:AP:=[(1,.v Ai),(7,.v I),(13,.own Ai 99),(14,.v I),(15,.v I)]
def Alt:AJ:=[(.ret,[(6,.v I)]),(.normal,[(7,.v I)])]
def Lx (N:Nat) (back:OI->Option Pi) (d:OI):Option Pi:=
 let s1:=d.1
 let s7:=d.2.1
 let s13:=d.2.2.1
 let s14:=d.2.2.2.1
 let s15:=d.2.2.2.2.1
 if (decide (s15<s14))=true then
  if (Af s15 (List.length s13))=true then
  if (Af (at_ I s13 s15.toNat) (List.length s1))=true then
  if (decide (at_ I s1 (at_ I s13 s15.toNat).toNat<(0:Int)))=true then
   some (.inl ((-1:Int),()))
  else
   if (Af (at_ I s13 s15.toNat) (List.length s1))=true then
   let x8:=if s7<at_ I s1 (at_ I s13 s15.toNat).toNat then at_ I s1 (at_ I s13 s15.toNat).toNat else s7
   let x9:=IntKind.wrap .i64 (s15+(1:Int))
   back ((s1,(x8,(s13,(s14,(x9,()))))))
   else none
  else none
  else none
 else
  some (.inr (.inl (s7,())))
def Gn (N:Nat):Nat->OI->Option Pi
 | 0,_=>none
 | k+1,d=>Lx N (Gn N k) d
def WC (N:Nat) (d:(List Int×Unit)×List Int×Int×Unit):Option (Int×Unit):=
 let a0:=d.1
 let a1:=d.2.1
 let a2:=d.2.2.1
 ((IL 0) ((a0,(a2,())))).bind fun r1=>
 (D8 (r1.1,())).bind fun r2=>
 (Gn N N ((a1,((0:Int),(r2.1,((List.length r2.1:Int),((0:Int),()))))))).bind fun o5=>match o5 with
 | .inl d6=>
  some (d6.1,())
 | .inr (.inl d7)=>
  some (d7.1,())
def Uo:FSig:=⟨[(AA,false),(Ai,false),(I,false)],[I],true,(BG)⟩
def XJ (d:Int×(Unit×Unit)×Unit):Option (Bool×Unit):=(fun d=>some (S6 d)) (d.1,d.2.1.2)
def Ahz:FSig:=⟨[(I,false),(EQ,false)],[.bool],true,XJ⟩
def Avq:Ctx:={ tk:=Ac tks,ar:=Ac ars,fs:=Ac [],cs:=Ac [(228,Ahz)] }
abbrev Pt:=List Int×(Unit×Unit)×Int×Int×Unit
abbrev Oh:=(Int×Unit)⊕Unit⊕Empty
def Anw:AP:=[(0,.v Ai),(1,.v EQ),(7,.v I),(8,.v I)]
def Ajc:AJ:=[(.ret,[(4,.v I)]),(.normal,[])]
def KC (N:Nat) (back:Pt->Option Oh) (d:Pt):Option Oh:=
 let s0:=d.1
 let s1:=d.2.1
 let s7:=d.2.2.1
 let s8:=d.2.2.2.1
 if (decide (s8<s7))=true then
  if (Af s8 (List.length s0))=true then
  (XJ ((at_ I s0 s8.toNat,(s1,())))).bind fun r6=>
  if (r6.1)=true then
   some (.inl (s8,()))
  else
   let x7:=IntKind.wrap .i64 (s8+(1:Int))
   back ((s0,(s1,(s7,(x7,())))))
  else none
 else
  some (.inr (.inl ()))
def RH (N:Nat):Nat->Pt->Option Oh
 | 0,_=>none
 | k+1,d=>KC N (RH N k) d
def Wu (N:Nat) (d:List Int×(Unit×Unit)×Unit):Option (Int×Unit):=
 let a0:=d.1
 let a1:=d.2.1
 (RH N N ((a0,(a1,((List.length a0:Int),((0:Int),())))))).bind fun o3=>match o3 with
 | .inl d4=>
  some (d4.1,())
 | .inr (.inl d5)=>
  some ((-1:Int),())
def At8:FSig:=⟨[(Ai,false),(EQ,false)],[I],true,(GM)⟩
def ACj:Ctx:={ tk:=Ac tks,ar:=Ac ars,fs:=Ac [(248,At8)] }
def Ahf (N:Nat) (d:List Int×(Unit×Unit)×Unit):Option (Bool×Unit):=
 let a0:=d.1
 let a1:=d.2.1
 (GM ((a0,(a1,())))).bind fun r1=>
 some ((decide (r1.1>=(0:Int)),()))
def Az0:FSig:=⟨[(Ai,false),(EQ,false)],[.bool],true,(Ahf 0)⟩
def Av3:Ctx:={ tk:=Ac tks,ar:=Ac ars,fs:=Ac [(214,Az0)] }
def Wx (N:Nat) (d:List Int×Int×Unit):Option (Bool×Unit):=
 let a0:=d.1
 let a1:=d.2.1
 if ((List.length a0:Int) != a1)=true then
  some (true,())
 else
  ((Ahf 0) ((a0,(((),()),())))).bind fun r1=>
  some (r1.1,())
def AAt:FSig:=⟨[(Ai,false),(OQ,false)],[.bool],true,(Wx 0)⟩
def Sq (d:List Int×(Unit×Int×Unit)×Unit):Option (Bool×Unit):=(Wx 0) (d.1,d.2.1.2)
def Aia:FSig:=⟨[(Ai,false),(Db,false)],[.bool],true,Sq⟩
def Aw5:Ctx:={ tk:=Ac tks,ar:=Ac ars,fs:=Ac [],cs:=Ac [(227,Aia)] }
abbrev PE:=Tab×(Unit×Int×Unit)×Int×Int×Unit
abbrev Ph:=(Int×Unit)⊕Unit⊕Empty
def An6:AP:=[(0,.v Ag),(1,.v Db),(7,.v I),(8,.v I)]
def Alr:AJ:=[(.ret,[(4,.v I)]),(.normal,[])]
def KN (N:Nat) (back:PE->Option Ph) (d:PE):Option Ph:=
 let s0:=d.1
 let s1:=d.2.1
 let s7:=d.2.2.1
 let s8:=d.2.2.2.1
 if (decide (s8<s7))=true then
  if (Af s8 (List.length s0))=true then
  (Sq ((at_ Ai s0 s8.toNat,(s1,())))).bind fun r6=>
  if (r6.1)=true then
   some (.inl (s8,()))
  else
   let x7:=IntKind.wrap .i64 (s8+(1:Int))
   back ((s0,(s1,(s7,(x7,())))))
  else none
 else
  some (.inr (.inl ()))
def Sk (N:Nat):Nat->PE->Option Ph
 | 0,_=>none
 | k+1,d=>KN N (Sk N k) d
def XP (N:Nat) (d:Tab×(Unit×Int×Unit)×Unit):Option (Int×Unit):=
 let a0:=d.1
 let a1:=d.2.1
 (Sk N N ((a0,(a1,((List.length a0:Int),((0:Int),())))))).bind fun o3=>match o3 with
 | .inl d4=>
  some (d4.1,())
 | .inr (.inl d5)=>
  some ((-1:Int),())
def Apt:FSig:=⟨[(Ag,false),(Db,false)],[I],true,(GF)⟩
def AA3:Ctx:={ tk:=Ac tks,ar:=Ac ars,fs:=Ac [(232,Apt)] }
def Aic (N:Nat) (d:Tab×(Unit×Int×Unit)×Unit):Option (Bool×Unit):=
 let a0:=d.1
 let a1:=d.2.1
 (GF ((a0,(a1,())))).bind fun r1=>
 some ((decide (r1.1>=(0:Int)),()))
def Azq:FSig:=⟨[(Ag,false),(Db,false)],[.bool],true,(Aic 0)⟩
def Axw:Ctx:={ tk:=Ac tks,ar:=Ac ars,fs:=Ac [] }
def VN (N:Nat) (d:Int×Int×Unit):Option (Bool×Unit):=
 let a0:=d.1
 let a1:=d.2.1
 some (decide (a0<a1),())
def Tl (d:Int×Int×Unit):Bool×Unit:=
 let a0:=d.1
 let a1:=d.2.1
 (decide (a0<a1),())
theorem Agg (N:Nat) (d):VN N d=some (Tl d):=by
 unfold VN Tl
 first
  | rfl
  | (dsimp only; (repeat' split)<;>rfl)
def ACy:FSig:=⟨[(I,false),(OQ,false)],[.bool],true,(fun d=>some (Tl d))⟩
def Wa (d:Int×(Unit×Int×Unit)×Unit):Option (Bool×Unit):=(fun d=>some (Tl d)) (d.1,d.2.1.2)
def Aij:FSig:=⟨[(I,false),(EX,false)],[.bool],true,Wa⟩
def Ax7:Ctx:={ tk:=Ac tks,ar:=Ac ars,fs:=Ac [(179,Uo)],cs:=Ac [(230,Aij)],w1:=inL [99] }
def W9 (N:Nat) (d:Int×Int×(List Int×Unit)×Tab×(Unit×Int×Unit)×Unit):Option (Bool×Unit):=
 let a0:=d.1
 let a1:=d.2.1
 let a2:=d.2.2.1
 let a3:=d.2.2.2.1
 let a4:=d.2.2.2.2.1
 if (a0==a1)=true then
  some (true,())
 else
  if (Af a0 (List.length a3))=true then
  (BG ((a2,(at_ Ai a3 a0.toNat,(a1,()))))).bind fun r1=>
  if (decide (r1.1>=(0:Int)))=true then
   (Wa ((r1.1,(a4,())))).bind fun r2=>
   some (r2.1,())
  else
   some (false,())
  else none
def AC0:FSig:=⟨[(I,false),(OQ,false),(Lt,false),(QI,false),(FU,false)],[.bool],true,(W9 0)⟩
def R6 (d:Int×(Unit×Int×(List Int×Unit)×Tab×(Unit×Int×Unit)×Unit)×Unit):Option (Bool×Unit):=(W9 0) (d.1,d.2.1.2)
def Ahy:FSig:=⟨[(I,false),(AB,false)],[.bool],true,R6⟩
def AB1:Ctx:={ tk:=Ac tks,ar:=Ac ars,fs:=Ac [],cs:=Ac [(255,Ahy)] }
abbrev S7:=List Int×(Unit×Int×(List Int×Unit)×Tab×(Unit×Int×Unit)×Unit)×Int×Int×Unit
abbrev Tx:=(Int×Unit)⊕Unit⊕Empty
def Ati:AP:=[(0,.v Ai),(1,.v AB),(7,.v I),(8,.v I)]
def Atr:AJ:=[(.ret,[(4,.v I)]),(.normal,[])]
def NJ (N:Nat) (back:S7->Option Tx) (d:S7):Option Tx:=
 let s0:=d.1
 let s1:=d.2.1
 let s7:=d.2.2.1
 let s8:=d.2.2.2.1
 if (decide (s8<s7))=true then
  if (Af s8 (List.length s0))=true then
  (R6 ((at_ I s0 s8.toNat,(s1,())))).bind fun r6=>
  if (r6.1)=true then
   some (.inl (s8,()))
  else
   let x7:=IntKind.wrap .i64 (s8+(1:Int))
   back ((s0,(s1,(s7,(x7,())))))
  else none
 else
  some (.inr (.inl ()))
def WR (N:Nat):Nat->S7->Option Tx
 | 0,_=>none
 | k+1,d=>NJ N (WR N k) d
def Ag6 (N:Nat) (d:List Int×(Unit×Int×(List Int×Unit)×Tab×(Unit×Int×Unit)×Unit)×Unit):Option (Int×Unit):=
 let a0:=d.1
 let a1:=d.2.1
 (WR N N ((a0,(a1,((List.length a0:Int),((0:Int),())))))).bind fun o3=>match o3 with
 | .inl d4=>
  some (d4.1,())
 | .inr (.inl d5)=>
  some ((-1:Int),())
def Az1:FSig:=⟨[(Ai,false),(AB,false)],[I],true,(GJ)⟩
def ABm:Ctx:={ tk:=Ac tks,ar:=Ac ars,fs:=Ac [(248,Az1)] }
def Aha (N:Nat) (d:List Int×(Unit×Int×(List Int×Unit)×Tab×(Unit×Int×Unit)×Unit)×Unit):Option (Bool×Unit):=
 let a0:=d.1
 let a1:=d.2.1
 (GJ ((a0,(a1,())))).bind fun r1=>
 some ((decide (r1.1>=(0:Int)),()))
def Azv:FSig:=⟨[(Ai,false),(AB,false)],[.bool],true,(Aha 0)⟩
def Aze:Ctx:={ tk:=Ac tks,ar:=Ac ars,fs:=Ac [(127,Dg),(130,Oc),(214,Azv)],cs:=Ac [],fz:=fun t=>Nat.beq t 5||Nat.beq t 6||Nat.beq t 8||Nat.beq t 9 }
def OD (N:Nat) (d:(List Int×Unit)×Tab×Int×Int×(Unit×Int×Unit)×Unit):Option (Bool×Unit):=
 let a0:=d.1
 let a1:=d.2.1
 let a2:=d.2.2.1
 let a3:=d.2.2.2.1
 let a4:=d.2.2.2.2.1
 ((IL 0) ((a0,(a2,())))).bind fun r1=>
 (D8 (r1.1,())).bind fun r2=>
 ((Aha 0) ((r2.1,(((),(a3,(a0,(a1,(a4,()))))),())))).bind fun r3=>
 some (r3.1,())
def Asg:FSig:=⟨[(AA,false),(Ag,false),(I,false),(I,false),(EX,false)],[.bool],true,(OD 0)⟩
def Axl:Ctx:={ tk:=Ac tks,ar:=Ac ars,fs:=Ac [(167,Azq),(188,PC),(229,Asg)],cs:=Ac [],fz:=fun t=>Nat.beq t 5||Nat.beq t 12 }
abbrev PI:=(List (List Int×Unit))×List (Tab)×Int×List (Tab)×Int×Int×Unit
abbrev PJ:=(Bool×Unit)⊕((List (List Int×Unit))×List (Tab)×Int×Unit)⊕Empty
def Amu:AP:=[(0,.v AU),(1,.v An),(5,.sp I),(23,.v An),(24,.v I),(25,.v I)]
def Apc:AJ:=[(.ret,[(4,.v .bool)]),(.normal,[(0,.v AU),(1,.v An),(5,.sp I)])]
def K0 (N:Nat) (back:PI->Option PJ) (d:PI):Option PJ:=
 let s0:=d.1
 let s1:=d.2.1
 let s5:=d.2.2.1
 let s23:=d.2.2.2.1
 let s24:=d.2.2.2.2.1
 let s25:=d.2.2.2.2.2.1
 if (decide (s25<s24))=true then
  if (Af s25 (List.length s23))=true then
  if ((List.length (at_ Ag s23 s25.toNat):Int) != s5)=true then
   some (.inl (false,()))
  else
   ((Aic 0) ((at_ Ag s23 s25.toNat,(((),(s5,())),())))).bind fun r26=>
   if (r26.1)=true then
    some (.inl (false,()))
   else
    let x27:=IntKind.wrap .i64 (s25+(1:Int))
    back ((s0,(s1,(s5,(s23,(s24,(x27,())))))))
  else none
 else
  some (.inr (.inl ((s0,(s1,(s5,()))))))
def R8 (N:Nat):Nat->PI->Option PJ
 | 0,_=>none
 | k+1,d=>K0 N (R8 N k) d
abbrev OS:=(List (List Int×Unit))×List (Tab)×Int×Int×(List Int×Unit)×Int×(List (List Int×Unit))×Int×Int×Int×Int×List Int×Int×Int×Unit
abbrev Qc:=(Bool×Unit)⊕((List (List Int×Unit))×List (Tab)×Int×Int×(List Int×Unit)×(List (List Int×Unit))×Int×Int×Int×Int×Unit)⊕Empty
def Anf:AP:=[(0,.v AU),(1,.v An),(5,.sp I),(8,.v I),(9,.box AA 0),(10,.v I),(39,.v AU),(40,.v I),(41,.v I),(46,.v I),(47,.v I),(56,.v Ai),(57,.v I),(58,.v I)]
def Anb:AJ:=[(.ret,[(4,.v .bool)]),(.normal,[(0,.v AU),(1,.v An),(5,.sp I),(8,.v I),(9,.box AA 0),(39,.v AU),(40,.v I),(41,.v I),(46,.v I),(47,.v I)])]
def Lp (N:Nat) (back:OS->Option Qc) (d:OS):Option Qc:=
 let s0:=d.1
 let s1:=d.2.1
 let s5:=d.2.2.1
 let s8:=d.2.2.2.1
 let s9:=d.2.2.2.2.1
 let s10:=d.2.2.2.2.2.1
 let s39:=d.2.2.2.2.2.2.1
 let s40:=d.2.2.2.2.2.2.2.1
 let s41:=d.2.2.2.2.2.2.2.2.1
 let s46:=d.2.2.2.2.2.2.2.2.2.1
 let s47:=d.2.2.2.2.2.2.2.2.2.2.1
 let s56:=d.2.2.2.2.2.2.2.2.2.2.2.1
 let s57:=d.2.2.2.2.2.2.2.2.2.2.2.2.1
 let s58:=d.2.2.2.2.2.2.2.2.2.2.2.2.2.1
 if (decide (s58<s57))=true then
  if (Af s58 (List.length s56))=true then
  let x56:=IntKind.wrap .i64 (s8+(1:Int))
  if ((List.length s0:Int) != 0)=true then
  let x57:=x56.tmod (List.length s0:Int)
  if (Af x57 (List.length s1))=true then
  if (at_ I s56 s58.toNat==(0:Int))=true then
   if (s10 != s58)=true then
    some (.inl (false,()))
   else
    if (decide (at_ I s56 s58.toNat>(0:Int)))=true then
     ((OD 0) ((s9,(at_ Ag s1 x57.toNat,(s10,(s58,(((),(at_ I s56 s58.toNat,())),()))))))).bind fun r58=>
     if (!r58.1)=true then
      some (.inl (false,()))
     else
      let x59:=IntKind.wrap .i64 (s58+(1:Int))
      back ((s0,(s1,(s5,(s8,(s9,(s10,(s39,(s40,(s41,(s46,(s47,(s56,(s57,(x59,())))))))))))))))
    else
     let x60:=IntKind.wrap .i64 (s58+(1:Int))
     back ((s0,(s1,(s5,(s8,(s9,(s10,(s39,(s40,(s41,(s46,(s47,(s56,(s57,(x60,())))))))))))))))
  else
   if (decide (at_ I s56 s58.toNat>(0:Int)))=true then
    ((OD 0) ((s9,(at_ Ag s1 x57.toNat,(s10,(s58,(((),(at_ I s56 s58.toNat,())),()))))))).bind fun r61=>
    if (!r61.1)=true then
     some (.inl (false,()))
    else
     let x62:=IntKind.wrap .i64 (s58+(1:Int))
     back ((s0,(s1,(s5,(s8,(s9,(s10,(s39,(s40,(s41,(s46,(s47,(s56,(s57,(x62,())))))))))))))))
   else
    let x63:=IntKind.wrap .i64 (s58+(1:Int))
    back ((s0,(s1,(s5,(s8,(s9,(s10,(s39,(s40,(s41,(s46,(s47,(s56,(s57,(x63,())))))))))))))))
  else none
  else none
  else none
 else
  some (.inr (.inl ((s0,(s1,(s5,(s8,(s9,(s39,(s40,(s41,(s46,(s47,())))))))))))))
def NA (N:Nat):Nat->OS->Option Qc
 | 0,_=>none
 | k+1,d=>Lp N (NA N k) d
abbrev QB:=(List (List Int×Unit))×List (Tab)×Int×Int×(List Int×Unit)×(List (List Int×Unit))×Int×Int×Int×Int×Unit
abbrev OE:=(Bool×Unit)⊕((List (List Int×Unit))×List (Tab)×Int×(List (List Int×Unit))×Int×Int×Unit)⊕Empty
def Ajz:AP:=[(0,.v AU),(1,.v An),(5,.sp I),(8,.v I),(9,.box AA 0),(39,.v AU),(40,.v I),(41,.v I),(46,.v I),(47,.v I)]
def Ald:AJ:=[(.ret,[(4,.v .bool)]),(.normal,[(0,.v AU),(1,.v An),(5,.sp I),(39,.v AU),(40,.v I),(41,.v I)])]
def Lb (N:Nat) (back:QB->Option OE) (d:QB):Option OE:=
 let s0:=d.1
 let s1:=d.2.1
 let s5:=d.2.2.1
 let s8:=d.2.2.2.1
 let s9:=d.2.2.2.2.1
 let s39:=d.2.2.2.2.2.1
 let s40:=d.2.2.2.2.2.2.1
 let s41:=d.2.2.2.2.2.2.2.1
 let s46:=d.2.2.2.2.2.2.2.2.1
 let s47:=d.2.2.2.2.2.2.2.2.2.1
 if (decide (s47<s46))=true then
  if (Af s8 (List.length s1))=true then
  if (Af s47 (List.length (at_ Ag s1 s8.toNat)))=true then
  (NA N N ((s0,(s1,(s5,(s8,(s9,(s47,(s39,(s40,(s41,(s46,(s47,(at_ Ai (at_ Ag s1 s8.toNat) s47.toNat,((List.length (at_ Ai (at_ Ag s1 s8.toNat) s47.toNat):Int),((0:Int),())))))))))))))))).bind fun o52=>match o52 with
  | .inl d53=>
   some (.inl (d53.1,()))
  | .inr (.inl d54)=>
   let x55:=IntKind.wrap .i64 (d54.2.2.2.2.2.2.2.2.2.1+(1:Int))
   back ((d54.1,(d54.2.1,(d54.2.2.1,(d54.2.2.2.1,(d54.2.2.2.2.1,(d54.2.2.2.2.2.1,(d54.2.2.2.2.2.2.1,(d54.2.2.2.2.2.2.2.1,(d54.2.2.2.2.2.2.2.2.1,(x55,())))))))))))
  else none
  else none
 else
  some (.inr (.inl ((s0,(s1,(s5,(s39,(s40,(s41,())))))))))
def MK (N:Nat):Nat->QB->Option OE
 | 0,_=>none
 | k+1,d=>Lb N (MK N k) d
abbrev QG:=(List (List Int×Unit))×List (Tab)×Int×(List (List Int×Unit))×Int×Int×Unit
abbrev On:=(Bool×Unit)⊕Unit⊕Empty
def Aju:AP:=[(0,.v AU),(1,.v An),(5,.sp I),(39,.v AU),(40,.v I),(41,.v I)]
def Aiy:AJ:=[(.ret,[(4,.v .bool)]),(.normal,[])]
def KU (N:Nat) (back:QG->Option On) (d:QG):Option On:=
 let s0:=d.1
 let s1:=d.2.1
 let s5:=d.2.2.1
 let s39:=d.2.2.2.1
 let s40:=d.2.2.2.2.1
 let s41:=d.2.2.2.2.2.1
 if (decide (s41<s40))=true then
  if (Af s41 (List.length s39))=true then
  (MK N N ((s0,(s1,(s5,(s41,(at_ AA s39 s41.toNat,(s39,(s40,(s41,(s5,((0:Int),())))))))))))).bind fun o40=>match o40 with
  | .inl d41=>
   some (.inl (d41.1,()))
  | .inr (.inl d42)=>
   let x43:=IntKind.wrap .i64 (d42.2.2.2.2.2.1+(1:Int))
   back ((d42.1,(d42.2.1,(d42.2.2.1,(d42.2.2.2.1,(d42.2.2.2.2.1,(x43,())))))))
  else none
 else
  some (.inr (.inl ()))
def No (N:Nat):Nat->QG->Option On
 | 0,_=>none
 | k+1,d=>KU N (No N k) d
def VF (N:Nat) (d:(List (List Int×Unit))×List (Tab)×Unit):Option (Bool×Unit):=
 let a0:=d.1
 let a1:=d.2.1
 if (Af (0:Int) (List.length a0))=true then
 let r1:=Fo (at_ AA a0 (0:Int).toNat,())
 if ((List.length a1:Int) != (List.length a0:Int))=true then
  some (false,())
 else
  (R8 N N ((a0,(a1,(r1.1,(a1,((List.length a1:Int),((0:Int),())))))))).bind fun o4=>match o4 with
  | .inl d5=>
   some (d5.1,())
  | .inr (.inl d6)=>
   (No N N ((d6.1,(d6.2.1,(d6.2.2.1,(d6.1,((List.length d6.1:Int),((0:Int),())))))))).bind fun o23=>match o23 with
   | .inl d24=>
    some (d24.1,())
   | .inr (.inl d25)=>
    some (true,())
 else none
def Aue:FSig:=⟨[(AU,false),(An,false)],[.bool],true,(DS)⟩
def Avj:Ctx:={ tk:=Ac tks,ar:=Ac ars,fs:=Ac [(76,Mx),(161,Aue),(162,ON)] }
def Qw (N:Nat) (d:(Gr×Int×Tab×Unit)×List (Tab)×Unit):Option (Bool×Bool×Unit):=
 let a0:=d.1
 let a1:=d.2.1
 ((Hn 0) (a0,())).bind fun r1=>
 if (!r1.1)=true then
  some ((false,(false,())))
 else
  (Cq (a0,())).bind fun r2=>
  (DS ((r2.1,(a1,())))).bind fun r3=>
  some ((r3.1,(true,())))
def Asw:FSig:=⟨[(Ae,false),(An,false)],[.bool,.bool],true,(Qw 0)⟩
def Ayl:Ctx:={ tk:=Ac tks,ar:=Ac ars,fs:=Ac [] }
abbrev NW:=List (Tab)×(Gr×Int×Tab×Unit)×Int×Int×Int×Unit
abbrev QQ:=(Bool×Unit)⊕(List (Tab)×(Gr×Int×Tab×Unit)×Int×Int×Unit)⊕Empty
def Amd:AP:=[(1,.v An),(2,.box Ae 0),(5,.v I),(6,.v I),(7,.v I)]
def Ajv:AJ:=[(.ret,[(4,.v .bool)]),(.normal,[(1,.v An),(2,.box Ae 0),(5,.v I),(6,.v I)])]
def Lf (N:Nat) (back:NW->Option QQ) (d:NW):Option QQ:=
 let s1:=d.1
 let s2:=d.2.1
 let s5:=d.2.2.1
 let s6:=d.2.2.2.1
 let s7:=d.2.2.2.2.1
 if (Af s5 (List.length s1))=true then
 if (Af s6 (List.length (at_ Ag s1 s5.toNat)))=true then
 if (decide (s7<(List.length (at_ Ai (at_ Ag s1 s5.toNat) s6.toNat):Int)))=true then
  if (Af s5 (List.length s1))=true then
  if (Af s6 (List.length (at_ Ag s1 s5.toNat)))=true then
  if (Af s7 (List.length (at_ Ai (at_ Ag s1 s5.toNat) s6.toNat)))=true then
  if (decide (at_ I (at_ Ai (at_ Ag s1 s5.toNat) s6.toNat) s7.toNat<(-1:Int)))=true then
   some (.inl (false,()))
  else
   let x27:=IntKind.wrap .i64 (s7+(1:Int))
   back ((s1,(s2,(s5,(s6,(x27,()))))))
  else none
  else none
  else none
 else
  some (.inr (.inl ((s1,(s2,(s5,(s6,())))))))
 else none
 else none
def MX (N:Nat):Nat->NW->Option QQ
 | 0,_=>none
 | k+1,d=>Lf N (MX N k) d
abbrev N6:=List (Tab)×(Gr×Int×Tab×Unit)×Int×Int×Unit
abbrev O7:=(Bool×Unit)⊕(List (Tab)×(Gr×Int×Tab×Unit)×Int×Unit)⊕Empty
def Ali:AP:=[(1,.v An),(2,.box Ae 0),(5,.v I),(6,.v I)]
def Ame:AJ:=[(.ret,[(4,.v .bool)]),(.normal,[(1,.v An),(2,.box Ae 0),(5,.v I)])]
def KR (N:Nat) (back:N6->Option O7) (d:N6):Option O7:=
 let s1:=d.1
 let s2:=d.2.1
 let s5:=d.2.2.1
 let s6:=d.2.2.2.1
 if (Af s5 (List.length s1))=true then
 if (decide (s6<(List.length (at_ Ag s1 s5.toNat):Int)))=true then
  if (Af s5 (List.length s1))=true then
  if (Af s6 (List.length (at_ Ag s1 s5.toNat)))=true then
  if ((List.length (at_ Ai (at_ Ag s1 s5.toNat) s6.toNat):Int) != s2.1.1)=true then
   some (.inl (false,()))
  else
   (MX N N ((s1,(s2,(s5,(s6,((0:Int),()))))))).bind fun o23=>match o23 with
   | .inl d24=>
    some (.inl (d24.1,()))
   | .inr (.inl d25)=>
    let x26:=IntKind.wrap .i64 (d25.2.2.2.1+(1:Int))
    back ((d25.1,(d25.2.1,(d25.2.2.1,(x26,())))))
  else none
  else none
 else
  some (.inr (.inl ((s1,(s2,(s5,()))))))
 else none
def MU (N:Nat):Nat->N6->Option O7
 | 0,_=>none
 | k+1,d=>KR N (MU N k) d
abbrev QA:=List (Tab)×(Gr×Int×Tab×Unit)×Int×Unit
abbrev Px:=(Bool×Unit)⊕(List (Tab)×(Gr×Int×Tab×Unit)×Unit)⊕Empty
def Apf:AP:=[(1,.v An),(2,.box Ae 0),(5,.v I)]
def Akg:AJ:=[(.ret,[(4,.v .bool)]),(.normal,[(1,.v An),(2,.box Ae 0)])]
def K4 (N:Nat) (back:QA->Option Px) (d:QA):Option Px:=
 let s1:=d.1
 let s2:=d.2.1
 let s5:=d.2.2.1
 if (decide (s5<(List.length s1:Int)))=true then
  if (Af s5 (List.length s1))=true then
  if ((List.length (at_ Ag s1 s5.toNat):Int) != s2.1.1)=true then
   some (.inl (false,()))
  else
   (MU N N ((s1,(s2,(s5,((0:Int),())))))).bind fun o18=>match o18 with
   | .inl d19=>
    some (.inl (d19.1,()))
   | .inr (.inl d20)=>
    let x21:=IntKind.wrap .i64 (d20.2.2.1+(1:Int))
    back ((d20.1,(d20.2.1,(x21,()))))
  else none
 else
  some (.inr (.inl ((s1,(s2,())))))
def RV (N:Nat):Nat->QA->Option Px
 | 0,_=>none
 | k+1,d=>K4 N (RV N k) d
def XK (N:Nat) (d:(Gr×Int×Tab×Unit)×List (Tab)×Unit):Option (Bool×Unit):=
 let a0:=d.1
 let a1:=d.2.1
 (RV N N ((a1,(a0,((0:Int),()))))).bind fun o10=>match o10 with
 | .inl d11=>
  some (d11.1,())
 | .inr (.inl d12)=>
  some ((List.length d12.1:Int)==d12.2.1.2.1,())
def Ap9:FSig:=⟨[(Ae,false),(An,false)],[.bool],true,(Ip)⟩
def Awv:Ctx:={ tk:=Ac tks,ar:=Ac ars,fs:=Ac [(148,Df),(180,V3)] }
abbrev Pq:=List (Tab)×List (Tab)×Int×Int×Int×Int×Int×Unit
abbrev Qa:=(Bool×Unit)⊕Unit⊕Empty
def Ao8:AP:=[(0,.v An),(1,.v An),(2,.v I),(3,.v I),(4,.v I),(11,.v I),(12,.v I)]
def All:AJ:=[(.ret,[(10,.v .bool)]),(.normal,[])]
def Kt (N:Nat) (back:Pq->Option Qa) (d:Pq):Option Qa:=
 let s0:=d.1
 let s1:=d.2.1
 let s2:=d.2.2.1
 let s3:=d.2.2.2.1
 let s4:=d.2.2.2.2.1
 let s11:=d.2.2.2.2.2.1
 let s12:=d.2.2.2.2.2.2.1
 if (Af s2 (List.length s0))=true then
 if (Af s3 (List.length (at_ Ag s0 s2.toNat)))=true then
 if (decide (s12<(List.length (at_ Ai (at_ Ag s0 s2.toNat) s3.toNat):Int)))=true then
  if (Af s2 (List.length s0))=true then
  if (Af s3 (List.length (at_ Ag s0 s2.toNat)))=true then
  if (Af s12 (List.length (at_ Ai (at_ Ag s0 s2.toNat) s3.toNat)))=true then
  (CQ ((s0,(s1,(s2,(at_ I (at_ Ai (at_ Ag s0 s2.toNat) s3.toNat) s12.toNat,(s4,()))))))).bind fun r8=>
  let x9:=IntKind.wrap .i64 (s11-(1:Int))
  let r10:=Bm ((r8.1,((0:Int),(x9,()))))
  if (r10.1)=true then
   some (.inl (true,()))
  else
   let x11:=IntKind.wrap .i64 (s12+(1:Int))
   back ((s0,(s1,(s2,(s3,(s4,(s11,(x11,()))))))))
  else none
  else none
  else none
 else
  some (.inr (.inl ()))
 else none
 else none
def RK (N:Nat):Nat->Pq->Option Qa
 | 0,_=>none
 | k+1,d=>Kt N (RK N k) d
def VJ (N:Nat) (d:List (Tab)×List (Tab)×Int×Int×Int×Unit):Option (Bool×Unit):=
 let a0:=d.1
 let a1:=d.2.1
 let a2:=d.2.2.1
 let a3:=d.2.2.2.1
 let a4:=d.2.2.2.2.1
 if (Af a2 (List.length a1))=true then
 if (Af a3 (List.length (at_ Ag a1 a2.toNat)))=true then
 if (Af a4 (List.length (at_ Ai (at_ Ag a1 a2.toNat) a3.toNat)))=true then
 if (decide (at_ I (at_ Ai (at_ Ag a1 a2.toNat) a3.toNat) a4.toNat<=(0:Int)))=true then
  if (decide (at_ I (at_ Ai (at_ Ag a1 a2.toNat) a3.toNat) a4.toNat<(0:Int)))=true then
   some (true,())
  else
   some (a3==a4,())
 else
  (RK N N ((a0,(a1,(a2,(a3,(a4,(at_ I (at_ Ai (at_ Ag a1 a2.toNat) a3.toNat) a4.toNat,((0:Int),()))))))))).bind fun o5=>match o5 with
  | .inl d6=>
   some (d6.1,())
  | .inr (.inl d7)=>
   some (false,())
 else none
 else none
 else none
def Atc:FSig:=⟨[(An,false),(An,false),(I,false),(I,false),(I,false)],[.bool],true,(ED)⟩
def Awf:Ctx:={ tk:=Ac tks,ar:=Ac ars,fs:=Ac [(163,TY),(164,Ap9),(165,WS),(166,Atc)] }
abbrev PR:=List (Tab)×List (Tab)×Int×Int×Int×Unit
abbrev N7:=(Bool×Bool×Unit)⊕(List (Tab)×List (Tab)×Int×Int×Unit)⊕Empty
def Ani:AP:=[(1,.v An),(6,.own An 99),(7,.v I),(8,.v I),(9,.v I)]
def Alw:AJ:=[(.ret,[(4,.v .bool),(5,.v .bool)]),(.normal,[(1,.v An),(6,.own An 99),(7,.v I),(8,.v I)])]
def KK (N:Nat) (back:PR->Option N7) (d:PR):Option N7:=
 let s1:=d.1
 let s6:=d.2.1
 let s7:=d.2.2.1
 let s8:=d.2.2.2.1
 let s9:=d.2.2.2.2.1
 if (Af s7 (List.length s1))=true then
 if (Af s8 (List.length (at_ Ag s1 s7.toNat)))=true then
 if (decide (s9<(List.length (at_ Ai (at_ Ag s1 s7.toNat) s8.toNat):Int)))=true then
  (ED ((s6,(s1,(s7,(s8,(s9,()))))))).bind fun r33=>
  if (!r33.1)=true then
   some (.inl ((false,(true,()))))
  else
   let x34:=IntKind.wrap .i64 (s9+(1:Int))
   back ((s1,(s6,(s7,(s8,(x34,()))))))
 else
  some (.inr (.inl ((s1,(s6,(s7,(s8,())))))))
 else none
 else none
def Nb (N:Nat):Nat->PR->Option N7
 | 0,_=>none
 | k+1,d=>KK N (Nb N k) d
abbrev OJ:=List (Tab)×List (Tab)×Int×Int×Unit
abbrev Og:=(Bool×Bool×Unit)⊕(List (Tab)×List (Tab)×Int×Unit)⊕Empty
def Am2:AP:=[(1,.v An),(6,.own An 99),(7,.v I),(8,.v I)]
def Aks:AJ:=[(.ret,[(4,.v .bool),(5,.v .bool)]),(.normal,[(1,.v An),(6,.own An 99),(7,.v I)])]
def Lz (N:Nat) (back:OJ->Option Og) (d:OJ):Option Og:=
 let s1:=d.1
 let s6:=d.2.1
 let s7:=d.2.2.1
 let s8:=d.2.2.2.1
 if (Af s7 (List.length s1))=true then
 if (decide (s8<(List.length (at_ Ag s1 s7.toNat):Int)))=true then
  (Nb N N ((s1,(s6,(s7,(s8,((0:Int),()))))))).bind fun o29=>match o29 with
  | .inl d30=>
   some (.inl ((d30.1,(d30.2.1,()))))
  | .inr (.inl d31)=>
   let x32:=IntKind.wrap .i64 (d31.2.2.2.1+(1:Int))
   back ((d31.1,(d31.2.1,(d31.2.2.1,(x32,())))))
 else
  some (.inr (.inl ((s1,(s6,(s7,()))))))
 else none
def Nq (N:Nat):Nat->OJ->Option Og
 | 0,_=>none
 | k+1,d=>Lz N (Nq N k) d
abbrev Pk:=List (Tab)×List (Tab)×Int×Unit
abbrev Qd:=(Bool×Bool×Unit)⊕Unit⊕Empty
def Amr:AP:=[(1,.v An),(6,.own An 99),(7,.v I)]
def Aly:AJ:=[(.ret,[(4,.v .bool),(5,.v .bool)]),(.normal,[])]
def Lh (N:Nat) (back:Pk->Option Qd) (d:Pk):Option Qd:=
 let s1:=d.1
 let s6:=d.2.1
 let s7:=d.2.2.1
 if (decide (s7<(List.length s1:Int)))=true then
  (Nq N N ((s1,(s6,(s7,((0:Int),())))))).bind fun o23=>match o23 with
  | .inl d24=>
   some (.inl ((d24.1,(d24.2.1,()))))
  | .inr (.inl d25)=>
   let x26:=IntKind.wrap .i64 (d25.2.2.1+(1:Int))
   back ((d25.1,(d25.2.1,(x26,()))))
 else
  some (.inr (.inl ()))
def RY (N:Nat):Nat->Pk->Option Qd
 | 0,_=>none
 | k+1,d=>Lh N (RY N k) d
def V1 (N:Nat) (d:(Gr×Int×Tab×Unit)×List (Tab)×Unit):Option (Bool×Bool×Unit):=
 let a0:=d.1
 let a1:=d.2.1
 (C6 (a0,())).bind fun r1=>
 if (!r1.1)=true then
  some ((false,(false,())))
 else
  (Ip ((a0,(a1,())))).bind fun r2=>
  if (!r2.1)=true then
   some ((false,(true,())))
  else
   (Dm (a0,())).bind fun r3=>
   (RY N N ((a1,(r3.1,((0:Int),()))))).bind fun o14=>match o14 with
   | .inl d15=>
    some ((d15.1,(d15.2.1,())))
   | .inr (.inl d16)=>
    some ((true,(true,())))
def Ari:FSig:=⟨[(Ae,false),(An,false)],[.bool,.bool],true,(D3)⟩
def Ach:FSig:=⟨[(Ai,false),(I,false)],[Ai],true,DP⟩
def Ax0:Ctx:={ tk:=Ac tks,ar:=Ac ars,fs:=Ac [] }
def XQ (N:Nat) (d:Int×Unit):Option (Bool×Unit):=
 let a0:=d.1
 some (true,())
def SU (d:Int×Unit):Bool×Unit:=
 let a0:=d.1
 (true,())
theorem Aa8 (N:Nat) (d):XQ N d=some (SU d):=by
 unfold XQ SU
 first
  | rfl
  | (dsimp only; (repeat' split)<;>rfl)
def ACv:FSig:=⟨[(I,false)],[.bool],true,(fun d=>some (SU d))⟩
def Wv (d:Int×(Unit×Unit)×Unit):Option (Bool×Unit):=(fun d=>some (SU d)) (d.1,d.2.1.2)
def Agr:FSig:=⟨[(I,false),(Hb,false)],[.bool],true,Wv⟩
def Awi:Ctx:={ tk:=Ac tks,ar:=Ac ars,fs:=Ac [(179,Uo)],cs:=Ac [(233,Agr)],w1:=inL [99] }
def Xq (N:Nat) (d:Int×Int×(List Int×Unit)×Tab×(Unit×Unit)×Unit):Option (Bool×Unit):=
 let a0:=d.1
 let a1:=d.2.1
 let a2:=d.2.2.1
 let a3:=d.2.2.2.1
 let a4:=d.2.2.2.2.1
 if (a0==a1)=true then
  some (true,())
 else
  if (Af a0 (List.length a3))=true then
  (BG ((a2,(at_ Ai a3 a0.toNat,(a1,()))))).bind fun r1=>
  if (decide (r1.1>=(0:Int)))=true then
   (Wv ((r1.1,(a4,())))).bind fun r2=>
   some (r2.1,())
  else
   some (false,())
  else none
def ADj:FSig:=⟨[(I,false),(OQ,false),(Lt,false),(QI,false),(IO,false)],[.bool],true,(Xq 0)⟩
def Sr (d:Int×(Unit×Int×(List Int×Unit)×Tab×(Unit×Unit)×Unit)×Unit):Option (Bool×Unit):=(Xq 0) (d.1,d.2.1.2)
def Aih:FSig:=⟨[(I,false),(AC,false)],[.bool],true,Sr⟩
def ACn:Ctx:={ tk:=Ac tks,ar:=Ac ars,fs:=Ac [],cs:=Ac [(255,Aih)] }
abbrev TU:=List Int×(Unit×Int×(List Int×Unit)×Tab×(Unit×Unit)×Unit)×Int×Int×Unit
abbrev TA:=(Int×Unit)⊕Unit⊕Empty
def Ash:AP:=[(0,.v Ai),(1,.v AC),(7,.v I),(8,.v I)]
def Ask:AJ:=[(.ret,[(4,.v I)]),(.normal,[])]
def NM (N:Nat) (back:TU->Option TA) (d:TU):Option TA:=
 let s0:=d.1
 let s1:=d.2.1
 let s7:=d.2.2.1
 let s8:=d.2.2.2.1
 if (decide (s8<s7))=true then
  if (Af s8 (List.length s0))=true then
  (Sr ((at_ I s0 s8.toNat,(s1,())))).bind fun r6=>
  if (r6.1)=true then
   some (.inl (s8,()))
  else
   let x7:=IntKind.wrap .i64 (s8+(1:Int))
   back ((s0,(s1,(s7,(x7,())))))
  else none
 else
  some (.inr (.inl ()))
def Xn (N:Nat):Nat->TU->Option TA
 | 0,_=>none
 | k+1,d=>NM N (Xn N k) d
def Ahv (N:Nat) (d:List Int×(Unit×Int×(List Int×Unit)×Tab×(Unit×Unit)×Unit)×Unit):Option (Int×Unit):=
 let a0:=d.1
 let a1:=d.2.1
 (Xn N N ((a0,(a1,((List.length a0:Int),((0:Int),())))))).bind fun o3=>match o3 with
 | .inl d4=>
  some (d4.1,())
 | .inr (.inl d5)=>
  some ((-1:Int),())
def Azk:FSig:=⟨[(Ai,false),(AC,false)],[I],true,(HC)⟩
def AAh:Ctx:={ tk:=Ac tks,ar:=Ac ars,fs:=Ac [(248,Azk)] }
def Ag9 (N:Nat) (d:List Int×(Unit×Int×(List Int×Unit)×Tab×(Unit×Unit)×Unit)×Unit):Option (Bool×Unit):=
 let a0:=d.1
 let a1:=d.2.1
 (HC ((a0,(a1,())))).bind fun r1=>
 some ((decide (r1.1>=(0:Int)),()))
def Azr:FSig:=⟨[(Ai,false),(AC,false)],[.bool],true,(Ag9 0)⟩
def Azc:Ctx:={ tk:=Ac tks,ar:=Ac ars,fs:=Ac [(127,Dg),(130,Oc),(214,Azr)],cs:=Ac [],fz:=fun t=>Nat.beq t 5||Nat.beq t 6||Nat.beq t 8||Nat.beq t 9 }
def ST (N:Nat) (d:(List Int×Unit)×Tab×Int×Int×(Unit×Unit)×Unit):Option (Bool×Unit):=
 let a0:=d.1
 let a1:=d.2.1
 let a2:=d.2.2.1
 let a3:=d.2.2.2.1
 let a4:=d.2.2.2.2.1
 ((IL 0) ((a0,(a2,())))).bind fun r1=>
 (D8 (r1.1,())).bind fun r2=>
 ((Ag9 0) ((r2.1,(((),(a3,(a0,(a1,(a4,()))))),())))).bind fun r3=>
 some (r3.1,())
def Aqt:FSig:=⟨[(AA,false),(Ag,false),(I,false),(I,false),(Hb,false)],[.bool],true,(ST 0)⟩
def Axd:Ctx:={ tk:=Ac tks,ar:=Ac ars,fs:=Ac [(188,PC),(191,Ach),(229,Aqt)] }
abbrev P3:=(List (List Int×Unit))×Int×List (Tab)×Int×Int×Int×Int×Int×Unit
abbrev Qs:=((List (List Int×Unit))×Int×List (Tab)×Int×Int×Unit)⊕Empty
def Akh:AP:=[(0,.v AU),(3,.v I),(4,.own An 99),(5,.v I),(25,.v I),(26,.v I),(29,.v I),(30,.v I)]
def An1:AJ:=[(.normal,[(0,.v AU),(3,.v I),(4,.own An 99),(25,.v I),(26,.v I)])]
def La (N:Nat) (back:P3->Option Qs) (d:P3):Option Qs:=
 let s0:=d.1
 let s3:=d.2.1
 let s4:=d.2.2.1
 let s5:=d.2.2.2.1
 let s25:=d.2.2.2.2.1
 let s26:=d.2.2.2.2.2.1
 let s29:=d.2.2.2.2.2.2.1
 let s30:=d.2.2.2.2.2.2.2.1
 if (decide (s30<s29))=true then
  (DP (([(-1:Int)],(s3,())))).bind fun r41=>
  if (Af s30 (List.length r41.1))=true then
  let x42:=List.set r41.1 s30.toNat (0:Int)
  if (Af s5 (List.length s4))=true then
  if (decide (List.length (at_ Ag s4 s5.toNat)+List.length ([x42])<=lim))=true then
  let x43:=(at_ Ag s4 s5.toNat)++([x42])
  if (Af s5 (List.length s4))=true then
  if (((Nat.beq s5.toNat s5.toNat)&&true))=true then
  let x44:=IntKind.wrap .i64 (s30+(1:Int))
  back ((s0,(s3,(List.set s4 s5.toNat x43,(s5,(s25,(s26,(s29,(x44,())))))))))
  else none
  else none
  else none
  else none
  else none
 else
  some (.inl ((s0,(s3,(s4,(s25,(s26,())))))))
def Ny (N:Nat):Nat->P3->Option Qs
 | 0,_=>none
 | k+1,d=>La N (Ny N k) d
abbrev P1:=(List (List Int×Unit))×Int×List (Tab)×Int×Int×Unit
abbrev Qo:=((List (List Int×Unit))×Int×List (Tab)×Unit)⊕Empty
def Apa:AP:=[(0,.v AU),(3,.v I),(4,.own An 99),(25,.v I),(26,.v I)]
def Ake:AJ:=[(.normal,[(0,.v AU),(3,.v I),(4,.own An 99)])]
def Lv (N:Nat) (back:P1->Option Qo) (d:P1):Option Qo:=
 let s0:=d.1
 let s3:=d.2.1
 let s4:=d.2.2.1
 let s25:=d.2.2.2.1
 let s26:=d.2.2.2.2.1
 if (decide (s26<s25))=true then
  (Ny N N ((s0,(s3,(s4,(s26,(s25,(s26,(s3,((0:Int),())))))))))).bind fun o38=>match o38 with
  | .inl d39=>
   let x40:=IntKind.wrap .i64 (d39.2.2.2.2.1+(1:Int))
   back ((d39.1,(d39.2.1,(d39.2.2.1,(d39.2.2.2.1,(x40,()))))))
 else
  some (.inl ((s0,(s3,(s4,())))))
def M0 (N:Nat):Nat->P1->Option Qo
 | 0,_=>none
 | k+1,d=>Lv N (M0 N k) d
abbrev LY:=(List (List Int×Unit))×Int×List (Tab)×Int×Bool×(List (Int×Int×Int×Unit))×Int×(List Int×Unit)×Int×(List (List Int×Unit))×Int×Int×Int×Int×Int×Int×Unit
abbrev Mf:=((List (List Int×Unit))×Int×List (Tab)×Int×Bool×(List (Int×Int×Int×Unit))×Int×(List Int×Unit)×(List (List Int×Unit))×Int×Int×Int×Int×Unit)⊕Empty
def Afd:AP:=[(0,.v AU),(3,.v I),(4,.own An 99),(8,.v I),(9,.v .bool),(10,.own FF 99),(11,.v I),(12,.box AA 0),(13,.v I),(54,.v AU),(55,.v I),(56,.v I),(61,.v I),(62,.v I),(65,.v I),(66,.v I)]
def Af6:AJ:=[(.normal,[(0,.v AU),(3,.v I),(4,.own An 99),(8,.v I),(9,.v .bool),(10,.own FF 99),(11,.v I),(12,.box AA 0),(54,.v AU),(55,.v I),(56,.v I),(61,.v I),(62,.v I)])]
def IK (N:Nat) (back:LY->Option Mf) (d:LY):Option Mf:=
 let s0:=d.1
 let s3:=d.2.1
 let s4:=d.2.2.1
 let s8:=d.2.2.2.1
 let s9:=d.2.2.2.2.1
 let s10:=d.2.2.2.2.2.1
 let s11:=d.2.2.2.2.2.2.1
 let s12:=d.2.2.2.2.2.2.2.1
 let s13:=d.2.2.2.2.2.2.2.2.1
 let s54:=d.2.2.2.2.2.2.2.2.2.1
 let s55:=d.2.2.2.2.2.2.2.2.2.2.1
 let s56:=d.2.2.2.2.2.2.2.2.2.2.2.1
 let s61:=d.2.2.2.2.2.2.2.2.2.2.2.2.1
 let s62:=d.2.2.2.2.2.2.2.2.2.2.2.2.2.1
 let s65:=d.2.2.2.2.2.2.2.2.2.2.2.2.2.2.1
 let s66:=d.2.2.2.2.2.2.2.2.2.2.2.2.2.2.2.1
 if (decide (s66<s65))=true then
  if (Af s11 (List.length s4))=true then
  if (Af s13 (List.length (at_ Ag s4 s11.toNat)))=true then
  if (Af s66 (List.length (at_ Ai (at_ Ag s4 s11.toNat) s13.toNat)))=true then
  if (decide (at_ I (at_ Ai (at_ Ag s4 s11.toNat) s13.toNat) s66.toNat<(0:Int)))=true then
   let x88:=IntKind.wrap .i64 (s11+(1:Int))
   if ((List.length s0:Int) != 0)=true then
   let x89:=x88.tmod (List.length s0:Int)
   if (Af x89 (List.length s4))=true then
   ((ST 0) ((s12,(at_ Ag s4 x89.toNat,(s13,(s66,(((),()),()))))))).bind fun r90=>
   if (r90.1)=true then
    if (decide (List.length s10+List.length ([(s11,(s13,(s66,())))])<=lim))=true then
    let x91:=s10++([(s11,(s13,(s66,())))])
    let x92:=IntKind.wrap .i64 (s66+(1:Int))
    back ((s0,(s3,(s4,(s8,(s9,(x91,(s11,(s12,(s13,(s54,(s55,(s56,(s61,(s62,(s65,(x92,())))))))))))))))))
    else none
   else
    let x93:=IntKind.wrap .i64 (s66+(1:Int))
    back ((s0,(s3,(s4,(s8,(s9,(s10,(s11,(s12,(s13,(s54,(s55,(s56,(s61,(s62,(s65,(x93,())))))))))))))))))
   else none
   else none
  else
   let x94:=IntKind.wrap .i64 (s66+(1:Int))
   back ((s0,(s3,(s4,(s8,(s9,(s10,(s11,(s12,(s13,(s54,(s55,(s56,(s61,(s62,(s65,(x94,())))))))))))))))))
  else none
  else none
  else none
 else
  some (.inl ((s0,(s3,(s4,(s8,(s9,(s10,(s11,(s12,(s54,(s55,(s56,(s61,(s62,())))))))))))))))
def Kn (N:Nat):Nat->LY->Option Mf
 | 0,_=>none
 | k+1,d=>IK N (Kn N k) d
abbrev PQ:=(List (List Int×Unit))×Int×List (Tab)×Int×Bool×(List (Int×Int×Int×Unit))×Int×(List Int×Unit)×(List (List Int×Unit))×Int×Int×Int×Int×Unit
abbrev Ox:=((List (List Int×Unit))×Int×List (Tab)×Int×Bool×(List (Int×Int×Int×Unit))×(List (List Int×Unit))×Int×Int×Unit)⊕Empty
def Ai5:AP:=[(0,.v AU),(3,.v I),(4,.own An 99),(8,.v I),(9,.v .bool),(10,.own FF 99),(11,.v I),(12,.box AA 0),(54,.v AU),(55,.v I),(56,.v I),(61,.v I),(62,.v I)]
def Al4:AJ:=[(.normal,[(0,.v AU),(3,.v I),(4,.own An 99),(8,.v I),(9,.v .bool),(10,.own FF 99),(54,.v AU),(55,.v I),(56,.v I)])]
def Ll (N:Nat) (back:PQ->Option Ox) (d:PQ):Option Ox:=
 let s0:=d.1
 let s3:=d.2.1
 let s4:=d.2.2.1
 let s8:=d.2.2.2.1
 let s9:=d.2.2.2.2.1
 let s10:=d.2.2.2.2.2.1
 let s11:=d.2.2.2.2.2.2.1
 let s12:=d.2.2.2.2.2.2.2.1
 let s54:=d.2.2.2.2.2.2.2.2.1
 let s55:=d.2.2.2.2.2.2.2.2.2.1
 let s56:=d.2.2.2.2.2.2.2.2.2.2.1
 let s61:=d.2.2.2.2.2.2.2.2.2.2.2.1
 let s62:=d.2.2.2.2.2.2.2.2.2.2.2.2.1
 if (decide (s62<s61))=true then
  (Kn N N ((s0,(s3,(s4,(s8,(s9,(s10,(s11,(s12,(s62,(s54,(s55,(s56,(s61,(s62,(s3,((0:Int),())))))))))))))))))).bind fun o85=>match o85 with
  | .inl d86=>
   let x87:=IntKind.wrap .i64 (d86.2.2.2.2.2.2.2.2.2.2.2.2.1+(1:Int))
   back ((d86.1,(d86.2.1,(d86.2.2.1,(d86.2.2.2.1,(d86.2.2.2.2.1,(d86.2.2.2.2.2.1,(d86.2.2.2.2.2.2.1,(d86.2.2.2.2.2.2.2.1,(d86.2.2.2.2.2.2.2.2.1,(d86.2.2.2.2.2.2.2.2.2.1,(d86.2.2.2.2.2.2.2.2.2.2.1,(d86.2.2.2.2.2.2.2.2.2.2.2.1,(x87,()))))))))))))))
 else
  some (.inl ((s0,(s3,(s4,(s8,(s9,(s10,(s54,(s55,(s56,())))))))))))
def MZ (N:Nat):Nat->PQ->Option Ox
 | 0,_=>none
 | k+1,d=>Ll N (MZ N k) d
abbrev NY:=(List (List Int×Unit))×Int×List (Tab)×Int×Bool×(List (Int×Int×Int×Unit))×(List (List Int×Unit))×Int×Int×Unit
abbrev PU:=((List (List Int×Unit))×Int×List (Tab)×Int×Bool×(List (Int×Int×Int×Unit))×Unit)⊕Empty
def Aok:AP:=[(0,.v AU),(3,.v I),(4,.own An 99),(8,.v I),(9,.v .bool),(10,.own FF 99),(54,.v AU),(55,.v I),(56,.v I)]
def Aj4:AJ:=[(.normal,[(0,.v AU),(3,.v I),(4,.own An 99),(8,.v I),(9,.v .bool),(10,.own FF 99)])]
def K5 (N:Nat) (back:NY->Option PU) (d:NY):Option PU:=
 let s0:=d.1
 let s3:=d.2.1
 let s4:=d.2.2.1
 let s8:=d.2.2.2.1
 let s9:=d.2.2.2.2.1
 let s10:=d.2.2.2.2.2.1
 let s54:=d.2.2.2.2.2.2.1
 let s55:=d.2.2.2.2.2.2.2.1
 let s56:=d.2.2.2.2.2.2.2.2.1
 if (decide (s56<s55))=true then
  if (Af s56 (List.length s54))=true then
  (MZ N N ((s0,(s3,(s4,(s8,(s9,(s10,(s56,(at_ AA s54 s56.toNat,(s54,(s55,(s56,(s3,((0:Int),()))))))))))))))).bind fun o75=>match o75 with
  | .inl d76=>
   let x77:=IntKind.wrap .i64 (d76.2.2.2.2.2.2.2.2.1+(1:Int))
   back ((d76.1,(d76.2.1,(d76.2.2.1,(d76.2.2.2.1,(d76.2.2.2.2.1,(d76.2.2.2.2.2.1,(d76.2.2.2.2.2.2.1,(d76.2.2.2.2.2.2.2.1,(x77,()))))))))))
  else none
 else
  some (.inl ((s0,(s3,(s4,(s8,(s9,(s10,()))))))))
def NG (N:Nat):Nat->NY->Option PU
 | 0,_=>none
 | k+1,d=>K5 N (NG N k) d
abbrev MG:=(List (List Int×Unit))×Int×List (Tab)×Int×Bool×(List (Int×Int×Int×Unit))×Int×Int×Unit
abbrev Mw:=((List (List Int×Unit))×Int×List (Tab)×Int×Bool×Unit)⊕Empty
def Aci:AP:=[(0,.v AU),(3,.v I),(4,.own An 99),(8,.v I),(9,.v .bool),(104,.own FF 99),(105,.v I),(106,.v I)]
def Aar:AJ:=[(.normal,[(0,.v AU),(3,.v I),(4,.own An 99),(8,.v I),(9,.v .bool)])]
def I8 (N:Nat) (back:MG->Option Mw) (d:MG):Option Mw:=
 let s0:=d.1
 let s3:=d.2.1
 let s4:=d.2.2.1
 let s8:=d.2.2.2.1
 let s9:=d.2.2.2.2.1
 let s104:=d.2.2.2.2.2.1
 let s105:=d.2.2.2.2.2.2.1
 let s106:=d.2.2.2.2.2.2.2.1
 if (decide (s106<s105))=true then
  if (Af s106 (List.length s104))=true then
  if (Af (at_ Dk s104 s106.toNat).1 (List.length s4))=true then
  if (Af (at_ Dk s104 s106.toNat).2.1 (List.length (at_ Ag s4 (at_ Dk s104 s106.toNat).1.toNat)))=true then
  if (Af (at_ Dk s104 s106.toNat).2.2.1 (List.length (at_ Ai (at_ Ag s4 (at_ Dk s104 s106.toNat).1.toNat) (at_ Dk s104 s106.toNat).2.1.toNat)))=true then
  let x95:=List.set s4 (at_ Dk s104 s106.toNat).1.toNat (List.set (at_ Ag s4 (at_ Dk s104 s106.toNat).1.toNat) (at_ Dk s104 s106.toNat).2.1.toNat (List.set (at_ Ai (at_ Ag s4 (at_ Dk s104 s106.toNat).1.toNat) (at_ Dk s104 s106.toNat).2.1.toNat) (at_ Dk s104 s106.toNat).2.2.1.toNat s8))
  let x96:=IntKind.wrap .i64 (s106+(1:Int))
  back ((s0,(s3,(x95,(s8,(true,(s104,(s105,(x96,())))))))))
  else none
  else none
  else none
  else none
 else
  some (.inl ((s0,(s3,(s4,(s8,(s9,())))))))
end Go.V.W
end
