/- What the law FnTimedGame leans on, part 5: an interpreter of the model as plain data, its soundness, the functions as it tells them, and their laws. -/
import Derived.Test.YtnieoolfkakmdaaGreatProg
import Derived.Test.YtnieoolfkakmdaaGreatVD
set_option linter.unusedVariables false
set_option linter.unusedSimpArgs false
set_option maxRecDepth 100000
noncomputable section
namespace Go.V.W
open Go.Proofs
abbrev I:Kd:=.int .i64
abbrev K_Su8:Kd:=.slice (.int .u8)
abbrev Avv:Kd:=.pair (.int .u64) .unit
abbrev Ap3:Kd:=.pair I Avv
abbrev CH:Kd:=.pair K_Su8 Ap3
abbrev AZ:Kd:=.bx CH
abbrev Ai:Kd:=.slice I
abbrev AEf:Kd:=.pair I .unit
abbrev Am:Kd:=.pair I AEf
abbrev Cb:Kd:=.slice Am
abbrev Apg:Kd:=.pair Cb .unit
abbrev Aj:Kd:=.pair I Apg
abbrev Avj:Kd:=.ssl Am
abbrev An6:Kd:=.pair Avj .unit
abbrev Aex:Kd:=.pair I An6
abbrev Ag:Kd:=.slice Ai
abbrev Ah9:Kd:=.pair Ag .unit
abbrev Zv:Kd:=.pair I Ah9
abbrev B9:Kd:=.pair Aex Zv
abbrev Ae:Kd:=.pair Aj Zv
abbrev An:Kd:=.slice Ag
abbrev E5:Kd:=.bx Ae
abbrev LD:Kd:=.pair E5 .unit
abbrev Bc:Kd:=.clo 168 .unit LD
abbrev AA:Kd:=.pair Ai .unit
abbrev AU:Kd:=.slice AA
abbrev EM:Kd:=.clo 228 .unit .unit
abbrev OZ:Kd:=.bx I
abbrev Aey:Kd:=.pair OZ .unit
abbrev C5:Kd:=.clo 227 .unit Aey
abbrev E0:Kd:=.clo 230 .unit Aey
abbrev KX:Kd:=.bx AA
abbrev QT:Kd:=.bx Ag
abbrev F5:Kd:=.bx E0
abbrev MS:Kd:=.pair F5 .unit
abbrev JE:Kd:=.pair QT MS
abbrev GU:Kd:=.pair KX JE
abbrev FU:Kd:=.pair OZ GU
abbrev AB:Kd:=.clo 255 .unit FU
abbrev Hh:Kd:=.clo 233 .unit .unit
abbrev I4:Kd:=.bx Hh
abbrev SI:Kd:=.pair I4 .unit
abbrev MH:Kd:=.pair QT SI
abbrev HP:Kd:=.pair KX MH
abbrev G4:Kd:=.pair OZ HP
abbrev AC:Kd:=.clo 255 .unit G4
abbrev Do:Kd:=.pair I Am
abbrev FL:Kd:=.slice Do
abbrev EJ:Kd:=.clo 199 .unit .unit
abbrev FP:Kd:=.clo 204 .unit .unit
abbrev AF9:Kd:=.ssl I
abbrev AAz:Kd:=.pair AF9 .unit
abbrev AEg:Kd:=.ssl Ai
abbrev Aet:Kd:=.pair Ag Ah9
abbrev UE:Kd:=.pair AEg Aet
abbrev AE:Kd:=.pair AAz UE
abbrev Bh:Kd:=.bx AE
abbrev Ed:Kd:=.bx Bh
abbrev Ic:Kd:=.pair Ed Aey
abbrev A4:Kd:=.clo 243 .unit Ic
abbrev At9:Kd:=.pair AA .unit
abbrev Cz:Kd:=.clo 237 At9 .unit
def tks:List (Nat×Kd):=[(3,I),(4,.bool),(5,(.int .u8)),(22,K_Su8),(24,Cb),(26,Aj),(27,Ag),(36,Ai),(52,Am),(74,Ae),(75,An),(94,(.int .u64)),(96,CH),(107,AA),(118,AE),(151,AU),(187,FL),(188,Do),(192,(.int .u64))]
def ars:List (Nat×Nat):=[(52,3),(188,3)]
def X1:Ctx:={ tk:=Ac tks,ar:=Ac ars,fs:=Ac [] }
def G6 (N:Nat) (d:List Int×Unit):Option (Bool×Unit):=
 let a0:=d.1
 some ((decide ((List.length a0:Int)>(65536:Int)),()))
def EQ (d:List Int×Unit):Bool×Unit:=
 let a0:=d.1
 ((decide ((List.length a0:Int)>(65536:Int)),()))
theorem RC (N:Nat) (d):G6 N d=some (EQ d):=by
 unfold G6 EQ
 first
  | rfl
  | (dsimp only; (repeat' split)<;>rfl)
def Q4:FSig:=⟨[(K_Su8,false)],[.bool],true,(fun d=>some (EQ d))⟩
def Avz:Ctx:={ tk:=Ac tks,ar:=Ac ars,fs:=Ac [],lent:=fun t=>Nat.beq t 0 }
def P6 (N:Nat) (d:(List Int×Int×Int×Unit)×Unit):Option (Int×(List Int×Int×Int×Unit)×Unit):=
 let a0:=d.1
 if (decide (a0.2.1<(List.length a0.1:Int)))=true then
  if (Af a0.2.1 (List.length a0.1))=true then
  let x1:=IntKind.wrap .i64 (at_ (.int .u8) a0.1 a0.2.1.toNat)
  let x2:=IntKind.wrap .i64 (a0.2.1+(1:Int))
  let x3:=IntKind.wrap .u64 (a0.2.2.1*(6364136223846793005:Int))
  let x4:=IntKind.wrap .u64 (x3+IntKind.wrap .u64 x1)
  let x5:=IntKind.wrap .u64 (x4+(462197:Int))
  if (decide (x2<=(List.length a0.1:Int)))=true then
   some ((x1,((a0.1,(x2,(x5,a0.2.2.2))),())))
  else
   if (decide (0<=(40:Int)))=true then
   let x6:=bits .and .u64 (shr .u64 x5 (40:Int)) (255:Int)
   some ((IntKind.wrap .i64 x6,((a0.1,(x2,(x5,a0.2.2.2))),())))
   else none
  else none
 else
  let x7:=IntKind.wrap .i64 (a0.2.1+(1:Int))
  let x8:=IntKind.wrap .u64 (a0.2.2.1*(6364136223846793005:Int))
  let x9:=IntKind.wrap .u64 (x8+IntKind.wrap .u64 (0:Int))
  let x10:=IntKind.wrap .u64 (x9+(462197:Int))
  if (decide (x7<=(List.length a0.1:Int)))=true then
   some (((0:Int),((a0.1,(x7,(x10,a0.2.2.2))),())))
  else
   if (decide (0<=(40:Int)))=true then
   let x11:=bits .and .u64 (shr .u64 x10 (40:Int)) (255:Int)
   some ((IntKind.wrap .i64 x11,((a0.1,(x7,(x10,a0.2.2.2))),())))
   else none
def Atc:FSig:=⟨[(AZ,true)],[I],true,(P6 0)⟩
def Av4:Ctx:={ tk:=Ac tks,ar:=Ac ars,fs:=Ac [(187,Atc)],lent:=fun t=>Nat.beq t 0 }
def BU (N:Nat) (d:(List Int×Int×Int×Unit)×Int×Unit):Option (Int×(List Int×Int×Int×Unit)×Unit):=
 let a0:=d.1
 let a1:=d.2.1
 if (decide (a1<=(1:Int)))=true then
  some (((0:Int),(a0,())))
 else
  ((P6 0) (a0,())).bind fun r1=>
  if (decide (a1>(200:Int)))=true then
   let x2:=IntKind.wrap .i64 (r1.1*(256:Int))
   ((P6 0) (r1.2.1,())).bind fun r3=>
   let x4:=IntKind.wrap .i64 (x2+r3.1)
   if (a1 != 0)=true then
   some ((x4.tmod a1,(r3.2.1,())))
   else none
  else
   if (a1 != 0)=true then
   some ((r1.1.tmod a1,(r1.2.1,())))
   else none
def Ko:FSig:=⟨[(AZ,true),(I,false)],[I],true,(BU 0)⟩
def Ayi:Ctx:={ tk:=Ac tks,ar:=Ac ars,fs:=Ac [(91,Ko)],lent:=fun t=>Nat.beq t 0 }
def CD (N:Nat) (d:(List Int×Int×Int×Unit)×List Int×Unit):Option (Int×(List Int×Int×Int×Unit)×Unit):=
 let a0:=d.1
 let a1:=d.2.1
 ((BU 0) ((a0,((List.length a1:Int),())))).bind fun r1=>
 if (Af r1.1 (List.length a1))=true then
 some ((at_ I a1 r1.1.toNat,(r1.2.1,())))
 else none
def L2:FSig:=⟨[(AZ,true),(Ai,false)],[I],true,(CD 0)⟩
def Ayh:Ctx:={ tk:=Ac tks,ar:=Ac ars,fs:=Ac [(91,Ko)],lent:=fun t=>Nat.beq t 0 }
def F4 (N:Nat) (d:(List Int×Int×Int×Unit)×Int×Unit):Option (Bool×(List Int×Int×Int×Unit)×Unit):=
 let a0:=d.1
 let a1:=d.2.1
 ((BU 0) ((a0,(a1,())))).bind fun r1=>
 some ((r1.1==(0:Int),(r1.2.1,())))
def V9:FSig:=⟨[(AZ,true),(I,false)],[.bool],true,(F4 0)⟩
def Asb:Ctx:={ tk:=Ac tks,ar:=Ac ars,fs:=Ac [] }
def RN (N:Nat) (d:Int×Int×Unit):Option (Int×Unit):=
 let a0:=d.1
 let a1:=d.2.1
 if (decide (a0<a1))=true then
  some (a0,())
 else
  some (a1,())
def He (d:Int×Int×Unit):Int×Unit:=
 let a0:=d.1
 let a1:=d.2.1
 if (decide (a0<a1))=true then
  (a0,())
 else
  (a1,())
theorem Zd (N:Nat) (d):RN N d=some (He d):=by
 unfold RN He
 first
  | rfl
  | (dsimp only; (repeat' split)<;>rfl)
def Aie:FSig:=⟨[(I,false),(I,false)],[I],true,(fun d=>some (He d))⟩
def Ata:Ctx:={ tk:=Ac tks,ar:=Ac ars,fs:=Ac [] }
abbrev LS:=Int×Gr×Gr×Int×Unit
abbrev Me:=(Gr×Gr×Unit)⊕Empty
def Aer:AP:=[(0,.v I),(2,.box Aj 99),(3,.box Aj 99),(4,.v I)]
def Aai:AJ:=[(.normal,[(2,.box Aj 99),(3,.box Aj 99)])]
def Et (N:Nat) (back:LS->Option Me) (d:LS):Option Me:=
 let s0:=d.1
 let s2:=d.2.1
 let s3:=d.2.2.1
 let s4:=d.2.2.2.1
 let x6:=IntKind.wrap .i64 (s4+(1:Int))
 if (decide (x6<s0))=true then
  let x7:=IntKind.wrap .i64 (s4+(1:Int))
  if (decide (List.length s3.2.1+List.length ([(s4,(x7,()))])<=lim))=true then
  let x8:=IntKind.wrap .i64 (s4+(1:Int))
  back ((s0,(s2,((s3.1,(s3.2.1++([(s4,(x7,()))]),s3.2.2)),(x8,())))))
  else none
 else
  some (.inl ((s2,(s3,()))))
def Nj (N:Nat):Nat->LS->Option Me
 | 0,_=>none
 | k+1,d=>Et N (Nj N k) d
def Fu (N:Nat) (d:Int×Unit):Option (Gr×Unit):=
 let a0:=d.1
 (Nj N N ((a0,(((0:Int),(([]:List (Int×Int×Unit)),())),((a0,(([]:List (Int×Int×Unit)),())),((0:Int),())))))).bind fun o4=>match o4 with
 | .inl d5=>
  some (d5.2.1,())
def Xl:FSig:=⟨[(I,false)],[Aj],true,(CW Fu Ev)⟩
def Ay4:Ctx:={ tk:=Ac tks,ar:=Ac ars,fs:=Ac [] }
def WP (N:Nat) (d:(Int×Int×Unit)×(Int×Int×Unit)×Unit):Option (Bool×Unit):=
 let a0:=d.1
 let a1:=d.2.1
 if (decide (a0.1<a1.1))=true then
  some (true,())
 else
  if (a0.1==a1.1)=true then
   some (decide (a0.2.1<a1.2.1),())
  else
   some (false,())
def IA (d:(Int×Int×Unit)×(Int×Int×Unit)×Unit):Bool×Unit:=
 let a0:=d.1
 let a1:=d.2.1
 if (decide (a0.1<a1.1))=true then
  (true,())
 else
  if (a0.1==a1.1)=true then
   (decide (a0.2.1<a1.2.1),())
  else
   (false,())
theorem Abn (N:Nat) (d):WP N d=some (IA d):=by
 unfold WP IA
 first
  | rfl
  | (dsimp only; (repeat' split)<;>rfl)
def Afq:FSig:=⟨[(Am,false),(Am,false)],[.bool],true,(fun d=>some (IA d))⟩
def UC:Ctx:={ tk:=Ac tks,ar:=Ac ars,fs:=Ac [(200,Afq)] }
abbrev FY:=(List (Int×Int×Unit))×(Int×Int×Unit)×Int×Unit
abbrev F6:=((List (Int×Int×Unit))×(Int×Int×Unit)×Int×Unit)⊕Empty
def Rs:AP:=[(0,.v Cb),(3,.box Am 99),(5,.v I)]
def Ry:AJ:=[(.normal,[(0,.v Cb),(3,.box Am 99),(5,.v I)])]
def Du (N:Nat) (back:FY->Option F6) (d:FY):Option F6:=
 let s0:=d.1
 let s3:=d.2.1
 let s5:=d.2.2.1
 if (decide (s5<(List.length s0:Int)))=true then
  if (Af s5 (List.length s0))=true then
  let r7:=IA ((at_ Am s0 s5.toNat,(s3,())))
  if (r7.1)=true then
   let x8:=IntKind.wrap .i64 (s5+(1:Int))
   back ((s0,(s3,(x8,()))))
  else
   some (.inl ((s0,(s3,(s5,())))))
  else none
 else
  some (.inl ((s0,(s3,(s5,())))))
def Fs (N:Nat):Nat->FY->Option F6
 | 0,_=>none
 | k+1,d=>Du N (Fs N k) d
def Gq (N:Nat) (d:(List (Int×Int×Unit))×(Int×Int×Unit)×Unit):Option ((List (Int×Int×Unit))×Unit):=
 let a0:=d.1
 let a1:=d.2.1
 (Fs N N ((a0,(a1,((0:Int),()))))).bind fun o3=>match o3 with
 | .inl d4=>
  if ((decide (0<=(0:Int))&&decide ((0:Int)<=d4.2.2.1)&&decide (d4.2.2.1<=(List.length d4.1:Int))))=true then
  if (decide (List.length ([]:List (Int×Int×Unit))+List.length (CY d4.1 (0:Int) d4.2.2.1)<=lim))=true then
  let x5:=([]:List (Int×Int×Unit))++(CY d4.1 (0:Int) d4.2.2.1)
  if (decide (List.length x5+List.length ([d4.2.1])<=lim))=true then
  if ((decide (0<=d4.2.2.1)&&decide (d4.2.2.1<=(List.length d4.1:Int))&&decide ((List.length d4.1:Int)<=(List.length d4.1:Int))))=true then
  let x6:=CY d4.1 d4.2.2.1 (List.length d4.1:Int)
  if (decide (List.length (x5++([d4.2.1]))+List.length x6<=lim))=true then
  some (((x5++([d4.2.1]))++x6,()))
  else none
  else none
  else none
  else none
  else none
def I6:FSig:=⟨[(Cb,false),(Am,false)],[Cb],true,(Hf)⟩
def Aw2:Ctx:={ tk:=Ac tks,ar:=Ac ars,fs:=Ac [(185,Xl),(186,I6)] }
def J7 (N:Nat) (d:Int×Unit):Option (Gr×Unit):=
 let a0:=d.1
 ((CW Fu Ev) (a0,())).bind fun r1=>
 let x2:=IntKind.wrap .i64 (a0-(1:Int))
 (Hf ((r1.1.2.1,(((0:Int),(x2,())),())))).bind fun r3=>
 some (((r1.1.1,(r3.1,r1.1.2.2)),()))
def Aur:FSig:=⟨[(I,false)],[Aj],true,(J7 0)⟩
def Axk:Ctx:={ tk:=Ac tks,ar:=Ac ars,fs:=Ac [] }
abbrev O6:=Int×Gr×Gr×Int×Int×Unit
abbrev Oo:=(Int×Gr×Gr×Int×Unit)⊕Empty
def Aks:AP:=[(0,.v I),(2,.box Aj 99),(3,.box Aj 99),(4,.v I),(5,.v I)]
def Aom:AJ:=[(.normal,[(0,.v I),(2,.box Aj 99),(3,.box Aj 99),(4,.v I)])]
def H4 (N:Nat) (back:O6->Option Oo) (d:O6):Option Oo:=
 let s0:=d.1
 let s2:=d.2.1
 let s3:=d.2.2.1
 let s4:=d.2.2.2.1
 let s5:=d.2.2.2.2.1
 if (decide (s5<s0))=true then
  if (decide (List.length s3.2.1+List.length ([(s4,(s5,()))])<=lim))=true then
  let x13:=IntKind.wrap .i64 (s5+(1:Int))
  back ((s0,(s2,((s3.1,(s3.2.1++([(s4,(s5,()))]),s3.2.2)),(s4,(x13,()))))))
  else none
 else
  some (.inl ((s0,(s2,(s3,(s4,()))))))
def SD (N:Nat):Nat->O6->Option Oo
 | 0,_=>none
 | k+1,d=>H4 N (SD N k) d
abbrev Ot:=Int×Gr×Gr×Int×Unit
abbrev OC:=(Gr×Gr×Unit)⊕Empty
def Ajw:AP:=[(0,.v I),(2,.box Aj 99),(3,.box Aj 99),(4,.v I)]
def Air:AJ:=[(.normal,[(2,.box Aj 99),(3,.box Aj 99)])]
def HU (N:Nat) (back:Ot->Option OC) (d:Ot):Option OC:=
 let s0:=d.1
 let s2:=d.2.1
 let s3:=d.2.2.1
 let s4:=d.2.2.2.1
 if (decide (s4<s0))=true then
  let x8:=IntKind.wrap .i64 (s4+(1:Int))
  (SD N N ((s0,(s2,(s3,(s4,(x8,()))))))).bind fun o10=>match o10 with
  | .inl d11=>
   let x12:=IntKind.wrap .i64 (d11.2.2.2.1+(1:Int))
   back ((d11.1,(d11.2.1,(d11.2.2.1,(x12,())))))
 else
  some (.inl ((s2,(s3,()))))
def Sl (N:Nat):Nat->Ot->Option OC
 | 0,_=>none
 | k+1,d=>HU N (Sl N k) d
def Je (N:Nat) (d:Int×Unit):Option (Gr×Unit):=
 let a0:=d.1
 (Sl N N ((a0,(((0:Int),(([]:List (Int×Int×Unit)),())),((a0,(([]:List (Int×Int×Unit)),())),((0:Int),())))))).bind fun o6=>match o6 with
 | .inl d7=>
  some (d7.2.1,())
def Asd:FSig:=⟨[(I,false)],[Aj],true,(CW Je Ev)⟩
def Aq0:Ctx:={ tk:=Ac tks,ar:=Ac ars,fs:=Ac [] }
def Ss (N:Nat) (d:Int×Int×Unit):Option (Int×Unit):=
 let a0:=d.1
 let a1:=d.2.1
 if (decide (a0>a1))=true then
  some (a0,())
 else
  some (a1,())
def Hc (d:Int×Int×Unit):Int×Unit:=
 let a0:=d.1
 let a1:=d.2.1
 if (decide (a0>a1))=true then
  (a0,())
 else
  (a1,())
theorem Zr (N:Nat) (d):Ss N d=some (Hc d):=by
 unfold Ss Hc
 first
  | rfl
  | (dsimp only; (repeat' split)<;>rfl)
def RQ:FSig:=⟨[(I,false),(I,false)],[I],true,(fun d=>some (Hc d))⟩
def Ap7:Ctx:={ tk:=Ac tks,ar:=Ac ars,fs:=Ac [] }
abbrev Mx:=Int×Int×Gr×Int×Unit
abbrev Mh:=(Bool×Unit)⊕Unit⊕Empty
def Aaq:AP:=[(1,.v I),(2,.v I),(3,.box Aj 0),(7,.v I)]
def Aaj:AJ:=[(.ret,[(6,.v .bool)]),(.normal,[])]
def IE (N:Nat) (back:Mx->Option Mh) (d:Mx):Option Mh:=
 let s1:=d.1
 let s2:=d.2.1
 let s3:=d.2.2.1
 let s7:=d.2.2.2.1
 if (decide (s7<(List.length s3.2.1:Int)))=true then
  if (Af s7 (List.length s3.2.1))=true then
  if ((at_ Am s3.2.1 s7.toNat).1==s1)=true then
   if ((at_ Am s3.2.1 s7.toNat).2.1==s2)=true then
    some (.inl (true,()))
   else
    if ((at_ Am s3.2.1 s7.toNat).1==s2)=true then
     if ((at_ Am s3.2.1 s7.toNat).2.1==s1)=true then
      some (.inl (true,()))
     else
      let x8:=IntKind.wrap .i64 (s7+(1:Int))
      back ((s1,(s2,(s3,(x8,())))))
    else
     let x9:=IntKind.wrap .i64 (s7+(1:Int))
     back ((s1,(s2,(s3,(x9,())))))
  else
   if ((at_ Am s3.2.1 s7.toNat).1==s2)=true then
    if ((at_ Am s3.2.1 s7.toNat).2.1==s1)=true then
     some (.inl (true,()))
    else
     let x10:=IntKind.wrap .i64 (s7+(1:Int))
     back ((s1,(s2,(s3,(x10,())))))
   else
    let x11:=IntKind.wrap .i64 (s7+(1:Int))
    back ((s1,(s2,(s3,(x11,())))))
  else none
 else
  some (.inr (.inl ()))
def NL (N:Nat):Nat->Mx->Option Mh
 | 0,_=>none
 | k+1,d=>IE N (NL N k) d
def Si (N:Nat) (d:Gr×Int×Int×Unit):Option (Bool×Unit):=
 let a0:=d.1
 let a1:=d.2.1
 let a2:=d.2.2.1
 (NL N N ((a1,(a2,(a0,((0:Int),())))))).bind fun o5=>match o5 with
 | .inl d6=>
  some (d6.1,())
 | .inr (.inl d7)=>
  some (false,())
def Xi:FSig:=⟨[(Aj,false),(I,false),(I,false)],[.bool],true,(FI)⟩
def Aya:Ctx:={ tk:=Ac tks,ar:=Ac ars,fs:=Ac [(91,Ko),(133,L2)],lent:=fun t=>Nat.beq t 0,cs:=Ac [],gs:=Ac [],eqt:=inL [],md:={ gone:=[1],deep:=[] } }
def Cm (N:Nat) (d:(List Int×Int×Int×Unit)×Gr×Unit):Option (Gr×(List Int×Int×Int×Unit)×Gr×Unit):=
 let a0:=d.1
 let a1:=d.2.1
 ((BU 0) ((a0,((50:Int),())))).bind fun r1=>
 if (r1.1==(0:Int))=true then
  ((CD 0) ((r1.2.1,([(-1:Int),(8:Int),(9:Int),(0:Int),(4611686018427387904:Int)],())))).bind fun r2=>
  some (((r2.1,a1.2),(r2.2.1,(((0:Int),(([]:List (Int×Int×Unit)),())),()))))
 else
  if (r1.1==(1:Int))=true then
   ((BU 0) ((r1.2.1,((4:Int),())))).bind fun r3=>
   ((BU 0) ((r3.2.1,((9:Int),())))).bind fun r4=>
   let x5:=IntKind.wrap .i64 (r4.1-(1:Int))
   if (decide (List.length a1.2.1+List.length ([(r3.1,(x5,()))])<=lim))=true then
   let x6:=a1.2.1++([(r3.1,(x5,()))])
   some (((a1.1,(x6,a1.2.2)),(r4.2.1,(((0:Int),(([]:List (Int×Int×Unit)),())),()))))
   else none
  else
   if (r1.1==(2:Int))=true then
    if (decide ((List.length a1.2.1:Int)>(0:Int)))=true then
     ((BU 0) ((r1.2.1,((List.length a1.2.1:Int),())))).bind fun r7=>
     if (Af r7.1 (List.length a1.2.1))=true then
     if (decide (List.length a1.2.1+List.length ([at_ Am a1.2.1 r7.1.toNat])<=lim))=true then
     let x8:=a1.2.1++([at_ Am a1.2.1 r7.1.toNat])
     some (((a1.1,(x8,a1.2.2)),(r7.2.1,(((0:Int),(([]:List (Int×Int×Unit)),())),()))))
     else none
     else none
    else
     some ((a1,(r1.2.1,(((0:Int),(([]:List (Int×Int×Unit)),())),()))))
   else
    some ((a1,(r1.2.1,(((0:Int),(([]:List (Int×Int×Unit)),())),()))))
def Aq4:FSig:=⟨[(AZ,true),(Aj,true)],[Aj],true,(Cm 0)⟩
def Ax7:Ctx:={ tk:=Ac tks,ar:=Ac ars,fs:=Ac [(89,V9),(90,Aur),(91,Ko),(133,L2),(185,Xl),(186,I6),(201,RQ),(238,Aie),(239,Asd),(240,Xi)],lent:=fun t=>Nat.beq t 0,cs:=Ac [],gs:=Ac [(241,(Aq4,{ gone:=[1],deep:=[] }))],eqt:=inL [],md:=md0 }
abbrev Qr:=(List Int×Int×Int×Unit)×Gr×Int×Gr×Int×Bool×Int×Int×Unit
abbrev Pi:=((List Int×Int×Int×Unit)×Gr×Int×Gr×Int×Bool×Int×Unit)⊕Empty
def Aj8:AP:=[(0,.box CH 0),(4,.box Aj 99),(5,.v I),(6,.box Aj 99),(7,.v I),(8,.v .bool),(9,.v I),(10,.v I)]
def Aoj:AJ:=[(.normal,[(0,.box CH 0),(4,.box Aj 99),(5,.v I),(6,.box Aj 99),(7,.v I),(8,.v .bool),(9,.v I)])]
def HV (N:Nat) (back:Qr->Option Pi) (d:Qr):Option Pi:=
 let s0:=d.1
 let s4:=d.2.1
 let s5:=d.2.2.1
 let s6:=d.2.2.2.1
 let s7:=d.2.2.2.2.1
 let s8:=d.2.2.2.2.2.1
 let s9:=d.2.2.2.2.2.2.1
 let s10:=d.2.2.2.2.2.2.2.1
 if (decide (s10<s5))=true then
  ((BU 0) ((s0,(s7,())))).bind fun r77=>
  if (r77.1==(0:Int))=true then
   (Hf ((s6.2.1,((s9,(s10,())),())))).bind fun r78=>
   let x79:=IntKind.wrap .i64 (s10+(1:Int))
   back ((r77.2.1,(s4,(s5,((s6.1,(r78.1,s6.2.2)),(s7,(s8,(s9,(x79,())))))))))
  else
   let x80:=IntKind.wrap .i64 (s10+(1:Int))
   back ((r77.2.1,(s4,(s5,(s6,(s7,(s8,(s9,(x80,())))))))))
 else
  some (.inl ((s0,(s4,(s5,(s6,(s7,(s8,(s9,())))))))))
def Sr (N:Nat):Nat->Qr->Option Pi
 | 0,_=>none
 | k+1,d=>HV N (Sr N k) d
abbrev N0:=(List Int×Int×Int×Unit)×Gr×Int×Gr×Int×Bool×Int×Unit
abbrev QF:=((List Int×Int×Int×Unit)×Gr×Gr×Unit)⊕Empty
def Aj0:AP:=[(0,.box CH 0),(4,.box Aj 99),(5,.v I),(6,.box Aj 99),(7,.v I),(8,.v .bool),(9,.v I)]
def Akv:AJ:=[(.normal,[(0,.box CH 0),(4,.box Aj 99),(6,.box Aj 99)])]
def Hy (N:Nat) (back:N0->Option QF) (d:N0):Option QF:=
 let s0:=d.1
 let s4:=d.2.1
 let s5:=d.2.2.1
 let s6:=d.2.2.2.1
 let s7:=d.2.2.2.2.1
 let s8:=d.2.2.2.2.2.1
 let s9:=d.2.2.2.2.2.2.1
 if (decide (s9<s5))=true then
  let x62:=IntKind.wrap .i64 (s9+(1:Int))
  (Sr N N ((s0,(s4,(s5,(s6,(s7,(s8,(s9,(x62,())))))))))).bind fun o67=>match o67 with
  | .inl d68=>
   let r69:=Hc ((d68.2.2.2.2.2.2.1,((1:Int),())))
   ((BU 0) ((d68.1,(r69.1,())))).bind fun r70=>
   if (decide (d68.2.2.2.2.2.2.1>(0:Int)))=true then
    if (!d68.2.2.2.2.2.1)=true then
     (FI ((d68.2.2.2.1,(d68.2.2.2.2.2.2.1,(r70.1,()))))).bind fun r71=>
     if (!r71.1)=true then
      (Hf ((d68.2.2.2.1.2.1,((r70.1,(d68.2.2.2.2.2.2.1,())),())))).bind fun r72=>
      let x73:=IntKind.wrap .i64 (d68.2.2.2.2.2.2.1+(1:Int))
      back ((r70.2.1,(d68.2.1,(d68.2.2.1,((d68.2.2.2.1.1,(r72.1,d68.2.2.2.1.2.2)),(d68.2.2.2.2.1,(d68.2.2.2.2.2.1,(x73,()))))))))
     else
      let x74:=IntKind.wrap .i64 (d68.2.2.2.2.2.2.1+(1:Int))
      back ((r70.2.1,(d68.2.1,(d68.2.2.1,(d68.2.2.2.1,(d68.2.2.2.2.1,(d68.2.2.2.2.2.1,(x74,()))))))))
    else
     let x75:=IntKind.wrap .i64 (d68.2.2.2.2.2.2.1+(1:Int))
     back ((r70.2.1,(d68.2.1,(d68.2.2.1,(d68.2.2.2.1,(d68.2.2.2.2.1,(d68.2.2.2.2.2.1,(x75,()))))))))
   else
    let x76:=IntKind.wrap .i64 (d68.2.2.2.2.2.2.1+(1:Int))
    back ((r70.2.1,(d68.2.1,(d68.2.2.1,(d68.2.2.2.1,(d68.2.2.2.2.1,(d68.2.2.2.2.2.1,(x76,()))))))))
 else
  some (.inl ((s0,(s4,(s6,())))))
def G5 (N:Nat):Nat->N0->Option QF
 | 0,_=>none
 | k+1,d=>Hy N (G5 N k) d
def MB (N:Nat) (d:(List Int×Int×Int×Unit)×Int×Unit):Option (Gr×(List Int×Int×Int×Unit)×Unit):=
 let a0:=d.1
 let a1:=d.2.1
 ((CD 0) ((a0,([(4:Int),(5:Int),(3:Int),(6:Int),(2:Int),(1:Int),(0:Int)],())))).bind fun r1=>
 if (decide (a1>(6:Int)))=true then
  ((F4 0) ((r1.2.1,((4:Int),())))).bind fun r2=>
  if (r2.1)=true then
   ((BU 0) ((r2.2.1,((2:Int),())))).bind fun r3=>
   let x4:=IntKind.wrap .i64 ((7:Int)+r3.1)
   let r5:=He ((x4,(a1,())))
   ((BU 0) ((r3.2.1,((8:Int),())))).bind fun r6=>
   if (r6.1==(0:Int))=true then
    ((CW Fu Ev) (r5.1,())).bind fun r7=>
    ((Cm 0) ((r6.2.1,(r7.1,())))).bind fun r8=>
    some ((r8.1,(r8.2.1,())))
   else
    if (r6.1==(1:Int))=true then
     if (decide (r5.1>(2:Int)))=true then
      ((J7 0) (r5.1,())).bind fun r9=>
      ((Cm 0) ((r6.2.1,(r9.1,())))).bind fun r10=>
      some ((r10.1,(r10.2.1,())))
     else
      ((Cm 0) ((r6.2.1,((r5.1,(([]:List (Int×Int×Unit)),())),())))).bind fun r11=>
      some ((r11.1,(r11.2.1,())))
    else
     if (r6.1==(2:Int))=true then
      ((CW Je Ev) (r5.1,())).bind fun r12=>
      ((Cm 0) ((r6.2.1,(r12.1,())))).bind fun r13=>
      some ((r13.1,(r13.2.1,())))
     else
      ((CD 0) ((r6.2.1,([(3:Int),(4:Int),(6:Int)],())))).bind fun r14=>
      ((F4 0) ((r14.2.1,((6:Int),())))).bind fun r15=>
      (G5 N N ((r15.2.1,(((0:Int),(([]:List (Int×Int×Unit)),())),(r5.1,((r5.1,(([]:List (Int×Int×Unit)),())),(r14.1,(r15.1,((0:Int),()))))))))).bind fun o31=>match o31 with
      | .inl d32=>
       ((Cm 0) ((d32.1,(d32.2.2.1,())))).bind fun r33=>
       some ((r33.1,(r33.2.1,())))
  else
   let r34:=He ((r1.1,(a1,())))
   ((BU 0) ((r2.2.1,((8:Int),())))).bind fun r35=>
   if (r35.1==(0:Int))=true then
    ((CW Fu Ev) (r34.1,())).bind fun r36=>
    ((Cm 0) ((r35.2.1,(r36.1,())))).bind fun r37=>
    some ((r37.1,(r37.2.1,())))
   else
    if (r35.1==(1:Int))=true then
     if (decide (r34.1>(2:Int)))=true then
      ((J7 0) (r34.1,())).bind fun r38=>
      ((Cm 0) ((r35.2.1,(r38.1,())))).bind fun r39=>
      some ((r39.1,(r39.2.1,())))
     else
      ((Cm 0) ((r35.2.1,((r34.1,(([]:List (Int×Int×Unit)),())),())))).bind fun r40=>
      some ((r40.1,(r40.2.1,())))
    else
     if (r35.1==(2:Int))=true then
      ((CW Je Ev) (r34.1,())).bind fun r41=>
      ((Cm 0) ((r35.2.1,(r41.1,())))).bind fun r42=>
      some ((r42.1,(r42.2.1,())))
     else
      ((CD 0) ((r35.2.1,([(3:Int),(4:Int),(6:Int)],())))).bind fun r43=>
      ((F4 0) ((r43.2.1,((6:Int),())))).bind fun r44=>
      (G5 N N ((r44.2.1,(((0:Int),(([]:List (Int×Int×Unit)),())),(r34.1,((r34.1,(([]:List (Int×Int×Unit)),())),(r43.1,(r44.1,((0:Int),()))))))))).bind fun o45=>match o45 with
      | .inl d46=>
       ((Cm 0) ((d46.1,(d46.2.2.1,())))).bind fun r47=>
       some ((r47.1,(r47.2.1,())))
 else
  let r48:=He ((r1.1,(a1,())))
  ((BU 0) ((r1.2.1,((8:Int),())))).bind fun r49=>
  if (r49.1==(0:Int))=true then
   ((CW Fu Ev) (r48.1,())).bind fun r50=>
   ((Cm 0) ((r49.2.1,(r50.1,())))).bind fun r51=>
   some ((r51.1,(r51.2.1,())))
  else
   if (r49.1==(1:Int))=true then
    if (decide (r48.1>(2:Int)))=true then
     ((J7 0) (r48.1,())).bind fun r52=>
     ((Cm 0) ((r49.2.1,(r52.1,())))).bind fun r53=>
     some ((r53.1,(r53.2.1,())))
    else
     ((Cm 0) ((r49.2.1,((r48.1,(([]:List (Int×Int×Unit)),())),())))).bind fun r54=>
     some ((r54.1,(r54.2.1,())))
   else
    if (r49.1==(2:Int))=true then
     ((CW Je Ev) (r48.1,())).bind fun r55=>
     ((Cm 0) ((r49.2.1,(r55.1,())))).bind fun r56=>
     some ((r56.1,(r56.2.1,())))
    else
     ((CD 0) ((r49.2.1,([(3:Int),(4:Int),(6:Int)],())))).bind fun r57=>
     ((F4 0) ((r57.2.1,((6:Int),())))).bind fun r58=>
     (G5 N N ((r58.2.1,(((0:Int),(([]:List (Int×Int×Unit)),())),(r48.1,((r48.1,(([]:List (Int×Int×Unit)),())),(r57.1,(r58.1,((0:Int),()))))))))).bind fun o59=>match o59 with
     | .inl d60=>
      ((Cm 0) ((d60.1,(d60.2.2.1,())))).bind fun r61=>
      some ((r61.1,(r61.2.1,())))
def Afl:FSig:=⟨[(AZ,true),(I,false)],[Aj],true,(CW MB KM)⟩
def Awv:Ctx:={ tk:=Ac tks,ar:=Ac ars,fs:=Ac [(183,Afl)],lent:=fun t=>Nat.beq t 0 }
def Td (N:Nat) (d:(List Int×Int×Int×Unit)×Unit):Option (Gr×(List Int×Int×Int×Unit)×Unit):=
 let a0:=d.1
 ((CW MB KM) ((a0,((8:Int),())))).bind fun r1=>
 some ((r1.1,(r1.2.1,())))
def Arz:FSig:=⟨[(AZ,true)],[Aj],true,(Td 0)⟩
def Au0:Ctx:={ tk:=Ac tks,ar:=Ac ars,fs:=Ac [] }
abbrev L4:=Int×Int×List Int×Int×Unit
abbrev MJ:=(List Int×Unit)⊕Empty
def Aba:AP:=[(0,.v I),(1,.v I),(5,.own Ai 99),(6,.v I)]
def Af1:AJ:=[(.normal,[(5,.own Ai 99)])]
def Jj (N:Nat) (back:L4->Option MJ) (d:L4):Option MJ:=
 let s0:=d.1
 let s1:=d.2.1
 let s5:=d.2.2.1
 let s6:=d.2.2.2.1
 if (decide (s6<s0))=true then
  if (decide (0<=s6))=true then
  let x6:=bits .and .i64 (shr .i64 s1 s6) (1:Int)
  if (x6==(1:Int))=true then
   if (decide (List.length s5+List.length ([s6])<=lim))=true then
   let x7:=IntKind.wrap .i64 (s6+(1:Int))
   back ((s0,(s1,(s5++([s6]),(x7,())))))
   else none
  else
   let x8:=IntKind.wrap .i64 (s6+(1:Int))
   back ((s0,(s1,(s5,(x8,())))))
  else none
 else
  some (.inl (s5,()))
def Na (N:Nat):Nat->L4->Option MJ
 | 0,_=>none
 | k+1,d=>Jj N (Na N k) d
def R8 (N:Nat) (d:Int×Int×Unit):Option (List Int×Unit):=
 let a0:=d.1
 let a1:=d.2.1
 (Na N N ((a0,(a1,(([]:List Int),((0:Int),())))))).bind fun o4=>match o4 with
 | .inl d5=>
  some (d5.1,())
def Ahu:FSig:=⟨[(I,false),(I,false)],[Ai],true,(Is)⟩
def Azp:List (Nat×Kd):=[(3,I),(4,.bool),(5,(.int .u8)),(22,K_Su8),(24,Cb),(26,Aj),(27,Ag),(36,Ai),(52,Am),(74,B9),(94,(.int .u64)),(96,CH),(192,(.int .u64))]
def Azx:List (Nat×Nat):=[(52,3)]
def Axs:Ctx:={ tk:=Ac Azp,ar:=Ac Azx,fs:=Ac [(89,V9),(91,Ko),(133,L2),(182,Arz),(183,Afl),(226,Ahu)],lent:=fun t=>Nat.beq t 0 }
abbrev OB:=(List Int×Int×Int×Unit)×(Gr×Int×Tab×Unit)×Gr×(Gr×Int×Tab×Unit)×Int×Unit
abbrev Pu:=((List Int×Int×Int×Unit)×(Gr×Int×Tab×Unit)×(Gr×Int×Tab×Unit)×Unit)⊕Empty
def An4:AP:=[(0,.box CH 0),(2,.box B9 99),(3,.box Aj 0),(4,.box B9 99),(5,.v I)]
def Ak8:AJ:=[(.normal,[(0,.box CH 0),(2,.box B9 99),(4,.box B9 99)])]
def Hs (N:Nat) (back:OB->Option Pu) (d:OB):Option Pu:=
 let s0:=d.1
 let s2:=d.2.1
 let s3:=d.2.2.1
 let s4:=d.2.2.2.1
 let s5:=d.2.2.2.2.1
 if (decide (s5<(List.length s3.2.1:Int)))=true then
  ((BU 0) ((s0,((15:Int),())))).bind fun r29=>
  let x30:=IntKind.wrap .i64 ((1:Int)+r29.1)
  (Is ((s4.2.1,(x30,())))).bind fun r31=>
  if ((List.length r31.1:Int)==(0:Int))=true then
   ((F4 0) ((r29.2.1,((4:Int),())))).bind fun r32=>
   if (!r32.1)=true then
    if (decide (List.length s4.2.2.1+List.length ([[(0:Int)]])<=lim))=true then
    let x33:=IntKind.wrap .i64 (s5+(1:Int))
    back ((r32.2.1,(s2,(s3,((s4.1,(s4.2.1,(s4.2.2.1++([[(0:Int)]]),s4.2.2.2))),(x33,()))))))
    else none
   else
    if (decide (List.length s4.2.2.1+List.length ([r31.1])<=lim))=true then
    let x34:=IntKind.wrap .i64 (s5+(1:Int))
    back ((r32.2.1,(s2,(s3,((s4.1,(s4.2.1,(s4.2.2.1++([r31.1]),s4.2.2.2))),(x34,()))))))
    else none
  else
   if (decide (List.length s4.2.2.1+List.length ([r31.1])<=lim))=true then
   let x35:=IntKind.wrap .i64 (s5+(1:Int))
   back ((r29.2.1,(s2,(s3,((s4.1,(s4.2.1,(s4.2.2.1++([r31.1]),s4.2.2.2))),(x35,()))))))
   else none
 else
  some (.inl ((s0,(s2,(s4,())))))
def I9 (N:Nat):Nat->OB->Option Pu
 | 0,_=>none
 | k+1,d=>Hs N (I9 N k) d
def Js (N:Nat) (d:(List Int×Int×Int×Unit)×Unit):Option ((Gr×Int×Tab×Unit)×(List Int×Int×Int×Unit)×Unit):=
 let a0:=d.1
 ((CW MB KM) ((a0,((6:Int),())))).bind fun r1=>
 ((F4 0) ((r1.2.1,((8:Int),())))).bind fun r2=>
 if (r2.1)=true then
  ((Td 0) (r2.2.1,())).bind fun r3=>
  ((BU 0) ((r3.2.1,((4:Int),())))).bind fun r4=>
  let x5:=IntKind.wrap .i64 ((1:Int)+r4.1)
  (I9 N N ((r4.2.1,((((0:Int),(([]:List (Int×Int×Unit)),())),((0:Int),(([]:Tab),()))),(r3.1,((r3.1,(x5,(([]:Tab),()))),((0:Int),()))))))).bind fun o13=>match o13 with
  | .inl d14=>
   ((BU 0) ((d14.1,((30:Int),())))).bind fun r15=>
   if (r15.1==(0:Int))=true then
    ((CD 0) ((r15.2.1,([(0:Int),(5:Int),(-1:Int)],())))).bind fun r16=>
    some (((d14.2.2.1.1,(r16.1,d14.2.2.1.2.2)),(r16.2.1,())))
   else
    if (r15.1==(1:Int))=true then
     if (decide (List.length d14.2.2.1.2.2.1+List.length ([[(0:Int)]])<=lim))=true then
     let x17:=d14.2.2.1.2.2.1++([[(0:Int)]])
     some (((d14.2.2.1.1,(d14.2.2.1.2.1,(x17,d14.2.2.1.2.2.2))),(r15.2.1,())))
     else none
    else
     if (r15.1==(2:Int))=true then
      if (decide ((List.length d14.2.2.1.2.2.1:Int)>(0:Int)))=true then
       if (Af (0:Int) (List.length d14.2.2.1.2.2.1))=true then
       ((CD 0) ((r15.2.1,([(4:Int),(0:Int),(-1:Int)],())))).bind fun r18=>
       if (decide (List.length (at_ Ai d14.2.2.1.2.2.1 (0:Int).toNat)+List.length ([r18.1])<=lim))=true then
       let x19:=(at_ Ai d14.2.2.1.2.2.1 (0:Int).toNat)++([r18.1])
       if (Af (0:Int) (List.length d14.2.2.1.2.2.1))=true then
       if (((Nat.beq (0:Int).toNat (0:Int).toNat)&&true))=true then
       some (((d14.2.2.1.1,(d14.2.2.1.2.1,(List.set d14.2.2.1.2.2.1 (0:Int).toNat x19,d14.2.2.1.2.2.2))),(r18.2.1,())))
       else none
       else none
       else none
       else none
      else
       some ((d14.2.2.1,(r15.2.1,())))
     else
      some ((d14.2.2.1,(r15.2.1,())))
 else
  ((BU 0) ((r2.2.1,((4:Int),())))).bind fun r20=>
  let x21:=IntKind.wrap .i64 ((1:Int)+r20.1)
  (I9 N N ((r20.2.1,((((0:Int),(([]:List (Int×Int×Unit)),())),((0:Int),(([]:Tab),()))),(r1.1,((r1.1,(x21,(([]:Tab),()))),((0:Int),()))))))).bind fun o22=>match o22 with
  | .inl d23=>
   ((BU 0) ((d23.1,((30:Int),())))).bind fun r24=>
   if (r24.1==(0:Int))=true then
    ((CD 0) ((r24.2.1,([(0:Int),(5:Int),(-1:Int)],())))).bind fun r25=>
    some (((d23.2.2.1.1,(r25.1,d23.2.2.1.2.2)),(r25.2.1,())))
   else
    if (r24.1==(1:Int))=true then
     if (decide (List.length d23.2.2.1.2.2.1+List.length ([[(0:Int)]])<=lim))=true then
     let x26:=d23.2.2.1.2.2.1++([[(0:Int)]])
     some (((d23.2.2.1.1,(d23.2.2.1.2.1,(x26,d23.2.2.1.2.2.2))),(r24.2.1,())))
     else none
    else
     if (r24.1==(2:Int))=true then
      if (decide ((List.length d23.2.2.1.2.2.1:Int)>(0:Int)))=true then
       if (Af (0:Int) (List.length d23.2.2.1.2.2.1))=true then
       ((CD 0) ((r24.2.1,([(4:Int),(0:Int),(-1:Int)],())))).bind fun r27=>
       if (decide (List.length (at_ Ai d23.2.2.1.2.2.1 (0:Int).toNat)+List.length ([r27.1])<=lim))=true then
       let x28:=(at_ Ai d23.2.2.1.2.2.1 (0:Int).toNat)++([r27.1])
       if (Af (0:Int) (List.length d23.2.2.1.2.2.1))=true then
       if (((Nat.beq (0:Int).toNat (0:Int).toNat)&&true))=true then
       some (((d23.2.2.1.1,(d23.2.2.1.2.1,(List.set d23.2.2.1.2.2.1 (0:Int).toNat x28,d23.2.2.1.2.2.2))),(r27.2.1,())))
       else none
       else none
       else none
       else none
      else
       some ((d23.2.2.1,(r24.2.1,())))
     else
      some ((d23.2.2.1,(r24.2.1,())))
def Xb:FSig:=⟨[(AZ,true)],[Ae],false,(CW Js G8)⟩
def Xj:Ctx:={ tk:=Ac tks,ar:=Ac ars,fs:=Ac [] }
def G7 (N:Nat) (d:Int×Int×Int×Unit):Option (Bool×Unit):=
 let a0:=d.1
 let a1:=d.2.1
 let a2:=d.2.2.1
 if (decide (a0>=a1))=true then
  some (decide (a0<=a2),())
 else
  some (false,())
def Bl (d:Int×Int×Int×Unit):Bool×Unit:=
 let a0:=d.1
 let a1:=d.2.1
 let a2:=d.2.2.1
 if (decide (a0>=a1))=true then
  (decide (a0<=a2),())
 else
  (false,())
theorem RG (N:Nat) (d):G7 N d=some (Bl d):=by
 unfold G7 Bl
 first
  | rfl
  | (dsimp only; (repeat' split)<;>rfl)
def Df:FSig:=⟨[(I,false),(I,false),(I,false)],[.bool],true,(fun d=>some (Bl d))⟩
def Axv:Ctx:={ tk:=Ac tks,ar:=Ac ars,fs:=Ac [(148,Df)] }
abbrev Py:=List Int×Int×Int×Int×Unit
abbrev QP:=(Bool×Unit)⊕Unit⊕Empty
def Alw:AP:=[(0,.v Ai),(1,.v I),(2,.v I),(7,.v I)]
def Als:AJ:=[(.ret,[(6,.v .bool)]),(.normal,[])]
def KZ (N:Nat) (back:Py->Option QP) (d:Py):Option QP:=
 let s0:=d.1
 let s1:=d.2.1
 let s2:=d.2.2.1
 let s7:=d.2.2.2.1
 if (decide (s7<(List.length s0:Int)))=true then
  if (Af s7 (List.length s0))=true then
  let r8:=Bl ((at_ I s0 s7.toNat,(s1,(s2,()))))
  if (!r8.1)=true then
   some (.inl (false,()))
  else
   if (decide (s7>(0:Int)))=true then
    let x9:=IntKind.wrap .i64 (s7-(1:Int))
    if (Af x9 (List.length s0))=true then
    if (Af s7 (List.length s0))=true then
    if (decide (at_ I s0 x9.toNat>=at_ I s0 s7.toNat))=true then
     some (.inl (false,()))
    else
     let x10:=IntKind.wrap .i64 (s7+(1:Int))
     back ((s0,(s1,(s2,(x10,())))))
    else none
    else none
   else
    let x11:=IntKind.wrap .i64 (s7+(1:Int))
    back ((s0,(s1,(s2,(x11,())))))
  else none
 else
  some (.inr (.inl ()))
def Sx (N:Nat):Nat->Py->Option QP
 | 0,_=>none
 | k+1,d=>KZ N (Sx N k) d
def VK (N:Nat) (d:List Int×Int×Int×Unit):Option (Bool×Unit):=
 let a0:=d.1
 let a1:=d.2.1
 let a2:=d.2.2.1
 (Sx N N ((a0,(a1,(a2,((0:Int),())))))).bind fun o5=>match o5 with
 | .inl d6=>
  some (d6.1,())
 | .inr (.inl d7)=>
  some (true,())
def Ar0:FSig:=⟨[(Ai,false),(I,false),(I,false)],[.bool],true,(GO)⟩
def Ap6:Ctx:={ tk:=Ac tks,ar:=Ac ars,fs:=Ac [(148,Df),(200,Afq)] }
abbrev ML:=Gr×Int×Unit
abbrev LZ:=(Bool×Unit)⊕(Gr×Unit)⊕Empty
def Agt:AP:=[(1,.box Aj 0),(3,.v I)]
def Acs:AJ:=[(.ret,[(2,.v .bool)]),(.normal,[(1,.box Aj 0)])]
def IH (N:Nat) (back:ML->Option LZ) (d:ML):Option LZ:=
 let s1:=d.1
 let s3:=d.2.1
 if (decide (s3<(List.length s1.2.1:Int)))=true then
  if (Af s3 (List.length s1.2.1))=true then
  let x13:=IntKind.wrap .i64 (s1.1-(1:Int))
  let r14:=Bl (((at_ Am s1.2.1 s3.toNat).1,((0:Int),(x13,()))))
  if (!r14.1)=true then
   some (.inl (false,()))
  else
   let x15:=IntKind.wrap .i64 (s1.1-(1:Int))
   let r16:=Bl (((at_ Am s1.2.1 s3.toNat).2.1,((0:Int),(x15,()))))
   if (!r16.1)=true then
    some (.inl (false,()))
   else
    if (decide ((at_ Am s1.2.1 s3.toNat).1>=(at_ Am s1.2.1 s3.toNat).2.1))=true then
     some (.inl (false,()))
    else
     if (decide (s3>(0:Int)))=true then
      let x17:=IntKind.wrap .i64 (s3-(1:Int))
      if (Af x17 (List.length s1.2.1))=true then
      let r18:=IA ((at_ Am s1.2.1 x17.toNat,(at_ Am s1.2.1 s3.toNat,())))
      if (!r18.1)=true then
       some (.inl (false,()))
      else
       let x19:=IntKind.wrap .i64 (s3+(1:Int))
       back ((s1,(x19,())))
      else none
     else
      let x20:=IntKind.wrap .i64 (s3+(1:Int))
      back ((s1,(x20,())))
  else none
 else
  some (.inr (.inl (s1,())))
def NE (N:Nat):Nat->ML->Option LZ
 | 0,_=>none
 | k+1,d=>IH N (NE N k) d
def Sm (N:Nat) (d:Gr×Unit):Option (Bool×Unit):=
 let a0:=d.1
 (NE N N ((a0,((0:Int),())))).bind fun o9=>match o9 with
 | .inl d10=>
  some (d10.1,())
 | .inr (.inl d11)=>
  let r12:=Bl ((d11.1.1,((0:Int),((8:Int),()))))
  some (r12.1,())
def Ahd:FSig:=⟨[(Aj,false)],[.bool],true,(C2)⟩
def Axx:Ctx:={ tk:=Ac tks,ar:=Ac ars,fs:=Ac [(115,Ahd),(148,Df)] }
def SP (N:Nat) (d:Gr×Int×Unit):Option (Bool×Unit):=
 let a0:=d.1
 let a1:=d.2.1
 (C2 (a0,())).bind fun r1=>
 if (r1.1)=true then
  if (decide (a0.1>(0:Int)))=true then
   let r2:=Bl ((a1,((1:Int),((3:Int),()))))
   some (r2.1,())
  else
   some (false,())
 else
  some (false,())
def Aua:FSig:=⟨[(Aj,false),(I,false)],[.bool],true,(SP 0)⟩
def Au8:Ctx:={ tk:=Ac tks,ar:=Ac ars,fs:=Ac [(98,Aua),(148,Df),(190,Ar0)] }
abbrev NU:=(Gr×Int×Tab×Unit)×Int×Unit
abbrev Px:=(Bool×Unit)⊕((Gr×Int×Tab×Unit)×Unit)⊕Empty
def Ak6:AP:=[(1,.box Ae 0),(3,.v I)]
def An5:AJ:=[(.ret,[(2,.v .bool)]),(.normal,[(1,.box Ae 0)])]
def Le (N:Nat) (back:NU->Option Px) (d:NU):Option Px:=
 let s1:=d.1
 let s3:=d.2.1
 if (decide (s3<(List.length s1.2.2.1:Int)))=true then
  if (Af s3 (List.length s1.2.2.1))=true then
  let x9:=IntKind.wrap .i64 (s1.2.1-(1:Int))
  (GO ((at_ Ai s1.2.2.1 s3.toNat,((0:Int),(x9,()))))).bind fun r10=>
  if (!r10.1)=true then
   some (.inl (false,()))
  else
   let x11:=IntKind.wrap .i64 (s3+(1:Int))
   back ((s1,(x11,())))
  else none
 else
  some (.inr (.inl (s1,())))
def RS (N:Nat):Nat->NU->Option Px
 | 0,_=>none
 | k+1,d=>Le N (RS N k) d
def V2 (N:Nat) (d:(Gr×Int×Tab×Unit)×Unit):Option (Bool×Unit):=
 let a0:=d.1
 (RS N N ((a0,((0:Int),())))).bind fun o4=>match o4 with
 | .inl d5=>
  some (d5.1,())
 | .inr (.inl d6)=>
  ((SP 0) ((d6.1.1,((1:Int),())))).bind fun r7=>
  if (r7.1)=true then
   let r8:=Bl ((d6.1.2.1,((1:Int),((4:Int),()))))
   if (r8.1)=true then
    some ((List.length d6.1.2.2.1:Int)==(List.length d6.1.1.2.1:Int),())
   else
    some (false,())
  else
   some (false,())
def Tn:FSig:=⟨[(Ae,false)],[.bool],true,(C7)⟩
def Uy:Ctx:={ tk:=Ac tks,ar:=Ac ars,fs:=Ac [] }
abbrev F2:=List Int×Int×Int×Unit
abbrev F8:=(Bool×Unit)⊕Unit⊕Empty
def RB:AP:=[(0,.v Ai),(1,.v I),(5,.v I)]
def Rm:AJ:=[(.ret,[(4,.v .bool)]),(.normal,[])]
def En (N:Nat) (back:F2->Option F8) (d:F2):Option F8:=
 let s0:=d.1
 let s1:=d.2.1
 let s5:=d.2.2.1
 if (decide (s5<(List.length s0:Int)))=true then
  if (Af s5 (List.length s0))=true then
  if (at_ I s0 s5.toNat==s1)=true then
   some (.inl (true,()))
  else
   let x5:=IntKind.wrap .i64 (s5+(1:Int))
   back ((s0,(s1,(x5,()))))
  else none
 else
  some (.inr (.inl ()))
def Fw (N:Nat):Nat->F2->Option F8
 | 0,_=>none
 | k+1,d=>En N (Fw N k) d
def Gk (N:Nat) (d:List Int×Int×Unit):Option (Bool×Unit):=
 let a0:=d.1
 let a1:=d.2.1
 (Fw N N ((a0,(a1,((0:Int),()))))).bind fun o2=>match o2 with
 | .inl d3=>
  some (d3.1,())
 | .inr (.inl d4)=>
  some (false,())
def Nf:FSig:=⟨[(Ai,false),(I,false)],[.bool],true,(Nm)⟩
def Axa:Ctx:={ tk:=Ac tks,ar:=Ac ars,fs:=Ac [(101,Nf)] }
abbrev PK:=Int×(Gr×Int×Tab×Unit)×Gr×Gr×Int×Unit
abbrev Qv:=(Gr×Gr×Unit)⊕Empty
def Aog:AP:=[(1,.v I),(2,.box Ae 0),(4,.box Aj 99),(5,.box Aj 99),(6,.v I)]
def Ao7:AJ:=[(.normal,[(4,.box Aj 99),(5,.box Aj 99)])]
def Iz (N:Nat) (back:PK->Option Qv) (d:PK):Option Qv:=
 let s1:=d.1
 let s2:=d.2.1
 let s4:=d.2.2.1
 let s5:=d.2.2.2.1
 let s6:=d.2.2.2.2.1
 if (decide (s6<(List.length s2.1.2.1:Int)))=true then
  if (Af s6 (List.length s2.2.2.1))=true then
  if (s2.2.1 != 0)=true then
  (Nm ((at_ Ai s2.2.2.1 s6.toNat,(s1.tmod s2.2.1,())))).bind fun r7=>
  if (r7.1)=true then
   if (Af s6 (List.length s2.1.2.1))=true then
   if (decide (List.length s5.2.1+List.length ([at_ Am s2.1.2.1 s6.toNat])<=lim))=true then
   let x8:=s5.2.1++([at_ Am s2.1.2.1 s6.toNat])
   let x9:=IntKind.wrap .i64 (s6+(1:Int))
   back ((s1,(s2,(s4,((s5.1,(x8,s5.2.2)),(x9,()))))))
   else none
   else none
  else
   let x10:=IntKind.wrap .i64 (s6+(1:Int))
   back ((s1,(s2,(s4,(s5,(x10,()))))))
  else none
  else none
 else
  some (.inl ((s4,(s5,()))))
def IB (N:Nat):Nat->PK->Option Qv
 | 0,_=>none
 | k+1,d=>Iz N (IB N k) d
def WJ (N:Nat) (d:(Gr×Int×Tab×Unit)×Int×Unit):Option (Gr×Unit):=
 let a0:=d.1
 let a1:=d.2.1
 (IB N N ((a1,(a0,(((0:Int),(([]:List (Int×Int×Unit)),())),((a0.1.1,(([]:List (Int×Int×Unit)),())),((0:Int),()))))))).bind fun o5=>match o5 with
 | .inl d6=>
  some (d6.2.1,())
def Arp:FSig:=⟨[(Ae,false),(I,false)],[Aj],true,(GA)⟩
def Aze:Ctx:={ tk:=Ac tks,ar:=Ac ars,fs:=Ac [(240,Xi)] }
abbrev OH:=Int×Gr×List Int×Int×Unit
abbrev OV:=(List Int×Unit)⊕Empty
def Aov:AP:=[(1,.v I),(2,.box Aj 0),(5,.own Ai 99),(6,.v I)]
def Anj:AJ:=[(.normal,[(5,.own Ai 99)])]
def KR (N:Nat) (back:OH->Option OV) (d:OH):Option OV:=
 let s1:=d.1
 let s2:=d.2.1
 let s5:=d.2.2.1
 let s6:=d.2.2.2.1
 if (decide (s6<s2.1))=true then
  (FI ((s2,(s1,(s6,()))))).bind fun r6=>
  if (r6.1)=true then
   if (decide (List.length s5+List.length ([s6])<=lim))=true then
   let x7:=IntKind.wrap .i64 (s6+(1:Int))
   back ((s1,(s2,(s5++([s6]),(x7,())))))
   else none
  else
   let x8:=IntKind.wrap .i64 (s6+(1:Int))
   back ((s1,(s2,(s5,(x8,())))))
 else
  some (.inl (s5,()))
def Lh (N:Nat):Nat->OH->Option OV
 | 0,_=>none
 | k+1,d=>KR N (Lh N k) d
def X3 (N:Nat) (d:Gr×Int×Unit):Option (List Int×Unit):=
 let a0:=d.1
 let a1:=d.2.1
 (Lh N N ((a1,(a0,(([]:List Int),((0:Int),())))))).bind fun o4=>match o4 with
 | .inl d5=>
  some (d5.1,())
def Aul:FSig:=⟨[(Aj,false),(I,false)],[Ai],true,(DD)⟩
def Azc:Ctx:={ tk:=Ac tks,ar:=Ac ars,fs:=Ac [],cs:=Ac [],gs:=Ac [],eqt:=inL [],md:={ gone:=[0],deep:=[] },cut:=fun t=>bif Nat.beq t 33 then 1 else 0 }
abbrev OY:=List Int×Int×Int×Unit
abbrev OM:=(List Int×Int×Int×Unit)⊕Empty
def Ajf:AP:=[(0,.own Ai 1),(1,.v I),(5,.v I)]
def Aku:AJ:=[(.normal,[(0,.own Ai 1),(1,.v I),(5,.v I)])]
def KV (N:Nat) (back:OY->Option OM) (d:OY):Option OM:=
 let s0:=d.1
 let s1:=d.2.1
 let s5:=d.2.2.1
 if (decide (s5<(List.length s0:Int)))=true then
  if (Af s5 (List.length s0))=true then
  if (decide (at_ I s0 s5.toNat<s1))=true then
   let x8:=IntKind.wrap .i64 (s5+(1:Int))
   back ((s0,(s1,(x8,()))))
  else
   some (.inl ((s0,(s1,(s5,())))))
  else none
 else
  some (.inl ((s0,(s1,(s5,())))))
def Kx (N:Nat):Nat->OY->Option OM
 | 0,_=>none
 | k+1,d=>KV N (Kx N k) d
def Wo (N:Nat) (d:List Int×Int×Unit):Option (List Int×List Int×Unit):=
 let a0:=d.1
 let a1:=d.2.1
 (Kx N N ((a0,(a1,((0:Int),()))))).bind fun o2=>match o2 with
 | .inl d3=>
  if (decide (d3.2.2.1<(List.length d3.1:Int)))=true then
   if (Af d3.2.2.1 (List.length d3.1))=true then
   if (at_ I d3.1 d3.2.2.1.toNat==d3.2.1)=true then
    some ((d3.1,(([]:List Int),())))
   else
    if ((decide (0<=(0:Int))&&decide ((0:Int)<=d3.2.2.1)&&decide (d3.2.2.1<=(List.length d3.1:Int))))=true then
    if (decide (List.length ([]:List Int)+List.length (CY d3.1 (0:Int) d3.2.2.1)<=lim))=true then
    let x4:=([]:List Int)++(CY d3.1 (0:Int) d3.2.2.1)
    if (decide (List.length x4+List.length ([d3.2.1])<=lim))=true then
    if ((decide (0<=d3.2.2.1)&&decide (d3.2.2.1<=(List.length d3.1:Int))&&decide ((List.length d3.1:Int)<=(List.length d3.1:Int))))=true then
    let x5:=CY d3.1 d3.2.2.1 (List.length d3.1:Int)
    if (decide (List.length (x4++([d3.2.1]))+List.length x5<=lim))=true then
    some (((x4++([d3.2.1]))++x5,(([]:List Int),())))
    else none
    else none
    else none
    else none
    else none
   else none
  else
   if ((decide (0<=(0:Int))&&decide ((0:Int)<=d3.2.2.1)&&decide (d3.2.2.1<=(List.length d3.1:Int))))=true then
   if (decide (List.length ([]:List Int)+List.length (CY d3.1 (0:Int) d3.2.2.1)<=lim))=true then
   let x6:=([]:List Int)++(CY d3.1 (0:Int) d3.2.2.1)
   if (decide (List.length x6+List.length ([d3.2.1])<=lim))=true then
   if ((decide (0<=d3.2.2.1)&&decide (d3.2.2.1<=(List.length d3.1:Int))&&decide ((List.length d3.1:Int)<=(List.length d3.1:Int))))=true then
   let x7:=CY d3.1 d3.2.2.1 (List.length d3.1:Int)
   if (decide (List.length (x6++([d3.2.1]))+List.length x7<=lim))=true then
   some (((x6++([d3.2.1]))++x7,(([]:List Int),())))
   else none
   else none
   else none
   else none
   else none
def Aqa:FSig:=⟨[(Ai,true),(I,false)],[Ai],true,(Ki)⟩
def Atu:Ctx:={ tk:=Ac tks,ar:=Ac ars,fs:=Ac [(208,Aul)],cs:=Ac [],gs:=Ac [(92,(Aqa,{ gone:=[0],deep:=[] }))],eqt:=inL [],md:=md0 }
def IG (N:Nat) (d:Gr×Int×Unit):Option (List Int×Unit):=
 let a0:=d.1
 let a1:=d.2.1
 (DD ((a0,(a1,())))).bind fun r1=>
 (Ki ((r1.1,(a1,())))).bind fun r2=>
 some (r2.1,())
def Ahp:FSig:=⟨[(Aj,false),(I,false)],[Ai],true,(IG 0)⟩
def Au4:Ctx:={ tk:=Ac tks,ar:=Ac ars,fs:=Ac [(124,Ahp),(231,Arp)] }
abbrev QN:=(Gr×Int×Tab×Unit)×List (Tab)×Int×Gr×Tab×Int×Unit
abbrev QG:=((Gr×Int×Tab×Unit)×List (Tab)×Int×Tab×Unit)⊕Empty
def Am4:AP:=[(1,.box Ae 0),(3,.own An 100),(4,.v I),(5,.box Aj 99),(6,.own Ag 100),(7,.v I)]
def Amt:AJ:=[(.normal,[(1,.box Ae 0),(3,.own An 100),(4,.v I),(6,.own Ag 100)])]
def Lx (N:Nat) (back:QN->Option QG) (d:QN):Option QG:=
 let s1:=d.1
 let s3:=d.2.1
 let s4:=d.2.2.1
 let s5:=d.2.2.2.1
 let s6:=d.2.2.2.2.1
 let s7:=d.2.2.2.2.2.1
 if (decide (s7<s5.1))=true then
  ((IG 0) ((s5,(s7,())))).bind fun r15=>
  if (decide (List.length s6+List.length ([r15.1])<=lim))=true then
  let x16:=IntKind.wrap .i64 (s7+(1:Int))
  back ((s1,(s3,(s4,(s5,(s6++([r15.1]),(x16,())))))))
  else none
 else
  some (.inl ((s1,(s3,(s4,(s6,()))))))
def Nv (N:Nat):Nat->QN->Option QG
 | 0,_=>none
 | k+1,d=>Lx N (Nv N k) d
abbrev O9:=(Gr×Int×Tab×Unit)×List (Tab)×Int×Unit
abbrev QK:=(List (Tab)×Unit)⊕Empty
def Aor:AP:=[(1,.box Ae 0),(3,.own An 100),(4,.v I)]
def Anz:AJ:=[(.normal,[(3,.own An 100)])]
def K6 (N:Nat) (back:O9->Option QK) (d:O9):Option QK:=
 let s1:=d.1
 let s3:=d.2.1
 let s4:=d.2.2.1
 if (decide (s4<s1.2.1))=true then
  (GA ((s1,(s4,())))).bind fun r9=>
  (Nv N N ((s1,(s3,(s4,(r9.1,(([]:Tab),((0:Int),())))))))).bind fun o12=>match o12 with
  | .inl d13=>
   if (decide (List.length d13.2.1+List.length ([d13.2.2.2.1])<=lim))=true then
   let x14:=IntKind.wrap .i64 (d13.2.2.1+(1:Int))
   back ((d13.1,(d13.2.1++([d13.2.2.2.1]),(x14,()))))
   else none
 else
  some (.inl (s3,()))
def R9 (N:Nat):Nat->O9->Option QK
 | 0,_=>none
 | k+1,d=>K6 N (R9 N k) d
def W7 (N:Nat) (d:(Gr×Int×Tab×Unit)×Unit):Option (List (Tab)×Unit):=
 let a0:=d.1
 (R9 N N ((a0,(([]:List (Tab)),((0:Int),()))))).bind fun o7=>match o7 with
 | .inl d8=>
  some (d8.1,())
def Xr:FSig:=⟨[(Ae,false)],[An],true,(Dg)⟩
def Awr:Ctx:={ tk:=Ac tks,ar:=Ac ars,fs:=Ac [] }
abbrev OW:=Int×Int×List (Tab)×Int×Tab×Int×List Int×Int×Unit
abbrev Or:=(Int×Int×List (Tab)×Int×Tab×Int×List Int×Unit)⊕Empty
def Al7:AP:=[(0,.v I),(1,.v I),(5,.own An 100),(6,.v I),(7,.own Ag 100),(8,.v I),(9,.own Ai 99),(10,.v I)]
def Amh:AJ:=[(.normal,[(0,.v I),(1,.v I),(5,.own An 100),(6,.v I),(7,.own Ag 100),(8,.v I),(9,.own Ai 99)])]
def Lc (N:Nat) (back:OW->Option Or) (d:OW):Option Or:=
 let s0:=d.1
 let s1:=d.2.1
 let s5:=d.2.2.1
 let s6:=d.2.2.2.1
 let s7:=d.2.2.2.2.1
 let s8:=d.2.2.2.2.2.1
 let s9:=d.2.2.2.2.2.2.1
 let s10:=d.2.2.2.2.2.2.2.1
 if (decide (s10<s1))=true then
  if (s8==s10)=true then
   if (decide (List.length s9+List.length ([(0:Int)])<=lim))=true then
   let x28:=IntKind.wrap .i64 (s10+(1:Int))
   back ((s0,(s1,(s5,(s6,(s7,(s8,(s9++([(0:Int)]),(x28,())))))))))
   else none
  else
   if (decide (List.length s9+List.length ([(-1:Int)])<=lim))=true then
   let x29:=IntKind.wrap .i64 (s10+(1:Int))
   back ((s0,(s1,(s5,(s6,(s7,(s8,(s9++([(-1:Int)]),(x29,())))))))))
   else none
 else
  some (.inl ((s0,(s1,(s5,(s6,(s7,(s8,(s9,())))))))))
def NR (N:Nat):Nat->OW->Option Or
 | 0,_=>none
 | k+1,d=>Lc N (NR N k) d
abbrev OS:=Int×Int×List (Tab)×Int×Tab×Int×Unit
abbrev Oa:=(Int×Int×List (Tab)×Int×Tab×Unit)⊕Empty
def Amu:AP:=[(0,.v I),(1,.v I),(5,.own An 100),(6,.v I),(7,.own Ag 100),(8,.v I)]
def Ajh:AJ:=[(.normal,[(0,.v I),(1,.v I),(5,.own An 100),(6,.v I),(7,.own Ag 100)])]
def KA (N:Nat) (back:OS->Option Oa) (d:OS):Option Oa:=
 let s0:=d.1
 let s1:=d.2.1
 let s5:=d.2.2.1
 let s6:=d.2.2.2.1
 let s7:=d.2.2.2.2.1
 let s8:=d.2.2.2.2.2.1
 if (decide (s8<s1))=true then
  (NR N N ((s0,(s1,(s5,(s6,(s7,(s8,(([]:List Int),((0:Int),())))))))))).bind fun o24=>match o24 with
  | .inl d25=>
   if (decide (List.length d25.2.2.2.2.1+List.length ([d25.2.2.2.2.2.2.1])<=lim))=true then
   let x26:=d25.2.2.2.2.1++([d25.2.2.2.2.2.2.1])
   let x27:=IntKind.wrap .i64 (d25.2.2.2.2.2.1+(1:Int))
   back ((d25.1,(d25.2.1,(d25.2.2.1,(d25.2.2.2.1,(x26,(x27,())))))))
   else none
 else
  some (.inl ((s0,(s1,(s5,(s6,(s7,())))))))
def NQ (N:Nat):Nat->OS->Option Oa
 | 0,_=>none
 | k+1,d=>KA N (NQ N k) d
abbrev Oe:=Int×Int×List (Tab)×Int×Unit
abbrev Qq:=(List (Tab)×Unit)⊕Empty
def Ak2:AP:=[(0,.v I),(1,.v I),(5,.own An 100),(6,.v I)]
def Apf:AJ:=[(.normal,[(5,.own An 100)])]
def KF (N:Nat) (back:Oe->Option Qq) (d:Oe):Option Qq:=
 let s0:=d.1
 let s1:=d.2.1
 let s5:=d.2.2.1
 let s6:=d.2.2.2.1
 if (decide (s6<s0))=true then
  (NQ N N ((s0,(s1,(s5,(s6,(([]:Tab),((0:Int),())))))))).bind fun o18=>match o18 with
  | .inl d19=>
   if (decide (List.length d19.2.2.1+List.length ([d19.2.2.2.2.1])<=lim))=true then
   let x20:=d19.2.2.1++([d19.2.2.2.2.1])
   let x21:=IntKind.wrap .i64 (d19.2.2.2.1+(1:Int))
   back ((d19.1,(d19.2.1,(x20,(x21,())))))
   else none
 else
  some (.inl (s5,()))
def SG (N:Nat):Nat->Oe->Option Qq
 | 0,_=>none
 | k+1,d=>KF N (SG N k) d
def XZ (N:Nat) (d:Int×Int×Unit):Option (List (Tab)×Unit):=
 let a0:=d.1
 let a1:=d.2.1
 (SG N N ((a0,(a1,(([]:List (Tab)),((0:Int),())))))).bind fun o10=>match o10 with
 | .inl d11=>
  some (d11.1,())
def Aq9:FSig:=⟨[(I,false),(I,false)],[An],true,(Es)⟩
def Axm:Ctx:={ tk:=Ac tks,ar:=Ac ars,fs:=Ac [(201,RQ)] }
abbrev QV:=List (Tab)×Int×Int×Int×List Int×Int×Unit
abbrev P8:=(Int×Unit)⊕(Int×Unit)⊕Empty
def Aoi:AP:=[(0,.v An),(2,.v I),(4,.v I),(11,.v I),(12,.v Ai),(13,.v I)]
def Aob:AJ:=[(.ret,[(10,.v I)]),(.normal,[(11,.v I)])]
def Il (N:Nat) (back:QV->Option P8) (d:QV):Option P8:=
 let s0:=d.1
 let s2:=d.2.1
 let s4:=d.2.2.1
 let s11:=d.2.2.2.1
 let s12:=d.2.2.2.2.1
 let s13:=d.2.2.2.2.2.1
 if (Af s2 (List.length s0))=true then
 if (Af s4 (List.length (at_ Ag s0 s2.toNat)))=true then
 if (decide (s13<(List.length (at_ Ai (at_ Ag s0 s2.toNat) s4.toNat):Int)))=true then
  if (Af s2 (List.length s0))=true then
  if (Af s4 (List.length (at_ Ag s0 s2.toNat)))=true then
  if (Af s13 (List.length (at_ Ai (at_ Ag s0 s2.toNat) s4.toNat)))=true then
  if (Af (at_ I (at_ Ai (at_ Ag s0 s2.toNat) s4.toNat) s13.toNat) (List.length s12))=true then
  if (decide (at_ I s12 (at_ I (at_ Ai (at_ Ag s0 s2.toNat) s4.toNat) s13.toNat).toNat<(0:Int)))=true then
   some (.inl ((-1:Int),()))
  else
   let r8:=Hc ((s11,(at_ I s12 (at_ I (at_ Ai (at_ Ag s0 s2.toNat) s4.toNat) s13.toNat).toNat,())))
   let x9:=IntKind.wrap .i64 (s13+(1:Int))
   back ((s0,(s2,(s4,(r8.1,(s12,(x9,())))))))
  else none
  else none
  else none
  else none
 else
  some (.inr (.inl (s11,())))
 else none
 else none
def Gj (N:Nat):Nat->QV->Option P8
 | 0,_=>none
 | k+1,d=>Il N (Gj N k) d
def Xc (N:Nat) (d:List (Tab)×List (Tab)×Int×Int×Int×Unit):Option (Int×Unit):=
 let a0:=d.1
 let a1:=d.2.1
 let a2:=d.2.2.1
 let a3:=d.2.2.2.1
 let a4:=d.2.2.2.2.1
 if (a3==a4)=true then
  some ((0:Int),())
 else
  let x1:=IntKind.wrap .i64 (a2+(1:Int))
  if ((List.length a0:Int) != 0)=true then
  let x2:=x1.tmod (List.length a0:Int)
  if (Af x2 (List.length a1))=true then
  if (Af a3 (List.length (at_ Ag a1 x2.toNat)))=true then
  (Gj N N ((a0,(a2,(a4,((0:Int),(at_ Ai (at_ Ag a1 x2.toNat) a3.toNat,((0:Int),())))))))).bind fun o5=>match o5 with
  | .inl d6=>
   some (d6.1,())
  | .inr (.inl d7)=>
   some (d7.1,())
  else none
  else none
  else none
def Xf:FSig:=⟨[(An,false),(An,false),(I,false),(I,false),(I,false)],[I],true,(CU)⟩
def Asw:Ctx:={ tk:=Ac tks,ar:=Ac ars,fs:=Ac [(180,Xf)] }
abbrev MD:=List (Tab)×List (Tab)×Int×Int×Int×Int×Unit
abbrev L6:=(Bool×Unit)⊕Unit⊕Empty
def Ad8:AP:=[(0,.v An),(1,.v An),(2,.v I),(3,.v I),(4,.v I),(11,.v I)]
def Aao:AJ:=[(.ret,[(10,.v .bool)]),(.normal,[])]
def IO (N:Nat) (back:MD->Option L6) (d:MD):Option L6:=
 let s0:=d.1
 let s1:=d.2.1
 let s2:=d.2.2.1
 let s3:=d.2.2.2.1
 let s4:=d.2.2.2.2.1
 let s11:=d.2.2.2.2.2.1
 if (Af s2 (List.length s0))=true then
 if (Af s3 (List.length (at_ Ag s0 s2.toNat)))=true then
 if (decide (s11<(List.length (at_ Ai (at_ Ag s0 s2.toNat) s3.toNat):Int)))=true then
  if (Af s2 (List.length s0))=true then
  if (Af s3 (List.length (at_ Ag s0 s2.toNat)))=true then
  if (Af s11 (List.length (at_ Ai (at_ Ag s0 s2.toNat) s3.toNat)))=true then
  (CU ((s0,(s1,(s2,(at_ I (at_ Ai (at_ Ag s0 s2.toNat) s3.toNat) s11.toNat,(s4,()))))))).bind fun r6=>
  if (decide (r6.1>=(0:Int)))=true then
   some (.inl (true,()))
  else
   let x7:=IntKind.wrap .i64 (s11+(1:Int))
   back ((s0,(s1,(s2,(s3,(s4,(x7,())))))))
  else none
  else none
  else none
 else
  some (.inr (.inl ()))
 else none
 else none
def NA (N:Nat):Nat->MD->Option L6
 | 0,_=>none
 | k+1,d=>IO N (NA N k) d
def SE (N:Nat) (d:List (Tab)×List (Tab)×Int×Int×Int×Unit):Option (Bool×Unit):=
 let a0:=d.1
 let a1:=d.2.1
 let a2:=d.2.2.1
 let a3:=d.2.2.2.1
 let a4:=d.2.2.2.2.1
 (NA N N ((a0,(a1,(a2,(a3,(a4,((0:Int),())))))))).bind fun o3=>match o3 with
 | .inl d4=>
  some (d4.1,())
 | .inr (.inl d5)=>
  some (false,())
def Ag2:FSig:=⟨[(An,false),(An,false),(I,false),(I,false),(I,false)],[.bool],true,(Ii)⟩
def Axg:Ctx:={ tk:=Ac tks,ar:=Ac ars,fs:=Ac [(165,Xr),(234,Aq9),(235,Ag2)] }
abbrev OG:=(Gr×Int×Tab×Unit)×List (Tab)×List (Tab)×Int×List (Tab)×Bool×Int×Int×Int×Unit
abbrev QL:=((Gr×Int×Tab×Unit)×List (Tab)×List (Tab)×Int×List (Tab)×Bool×Int×Int×Unit)⊕Empty
def Ajo:AP:=[(1,.box Ae 0),(3,.own An 99),(4,.own An 99),(5,.v I),(6,.own An 99),(7,.v .bool),(8,.v I),(9,.v I),(10,.v I)]
def Amv:AJ:=[(.normal,[(1,.box Ae 0),(3,.own An 99),(4,.own An 99),(5,.v I),(6,.own An 99),(7,.v .bool),(8,.v I),(9,.v I)])]
def Lf (N:Nat) (back:OG->Option QL) (d:OG):Option QL:=
 let s1:=d.1
 let s3:=d.2.1
 let s4:=d.2.2.1
 let s5:=d.2.2.2.1
 let s6:=d.2.2.2.2.1
 let s7:=d.2.2.2.2.2.1
 let s8:=d.2.2.2.2.2.2.1
 let s9:=d.2.2.2.2.2.2.2.1
 let s10:=d.2.2.2.2.2.2.2.2.1
 if (decide (s10<s1.1.1))=true then
  if (Af s8 (List.length s6))=true then
  if (Af s9 (List.length (at_ Ag s6 s8.toNat)))=true then
  if (Af s8 (List.length s4))=true then
  if (Af s9 (List.length (at_ Ag s4 s8.toNat)))=true then
  if (Af s10 (List.length (at_ Ai (at_ Ag s4 s8.toNat) s9.toNat)))=true then
  if (Af s10 (List.length (at_ Ai (at_ Ag s6 s8.toNat) s9.toNat)))=true then
  let x58:=List.set s6 s8.toNat (List.set (at_ Ag s6 s8.toNat) s9.toNat (List.set (at_ Ai (at_ Ag s6 s8.toNat) s9.toNat) s10.toNat (at_ I (at_ Ai (at_ Ag s4 s8.toNat) s9.toNat) s10.toNat)))
  if (Af s8 (List.length s4))=true then
  if (Af s9 (List.length (at_ Ag s4 s8.toNat)))=true then
  if (Af s10 (List.length (at_ Ai (at_ Ag s4 s8.toNat) s9.toNat)))=true then
  if (decide (at_ I (at_ Ai (at_ Ag s4 s8.toNat) s9.toNat) s10.toNat<(0:Int)))=true then
   (Ii ((s3,(s4,(s8,(s9,(s10,()))))))).bind fun r59=>
   if (r59.1)=true then
    if (Af s8 (List.length x58))=true then
    if (Af s9 (List.length (at_ Ag x58 s8.toNat)))=true then
    if (Af s10 (List.length (at_ Ai (at_ Ag x58 s8.toNat) s9.toNat)))=true then
    let x60:=List.set x58 s8.toNat (List.set (at_ Ag x58 s8.toNat) s9.toNat (List.set (at_ Ai (at_ Ag x58 s8.toNat) s9.toNat) s10.toNat s5))
    let x61:=IntKind.wrap .i64 (s10+(1:Int))
    back ((s1,(s3,(s4,(s5,(x60,(true,(s8,(s9,(x61,()))))))))))
    else none
    else none
    else none
   else
    let x62:=IntKind.wrap .i64 (s10+(1:Int))
    back ((s1,(s3,(s4,(s5,(x58,(s7,(s8,(s9,(x62,()))))))))))
  else
   let x63:=IntKind.wrap .i64 (s10+(1:Int))
   back ((s1,(s3,(s4,(s5,(x58,(s7,(s8,(s9,(x63,()))))))))))
  else none
  else none
  else none
  else none
  else none
  else none
  else none
  else none
  else none
 else
  some (.inl ((s1,(s3,(s4,(s5,(s6,(s7,(s8,(s9,()))))))))))
def Nn (N:Nat):Nat->OG->Option QL
 | 0,_=>none
 | k+1,d=>Lf N (Nn N k) d
abbrev O7:=(Gr×Int×Tab×Unit)×List (Tab)×List (Tab)×Int×List (Tab)×Bool×Int×Int×Unit
abbrev OF:=((Gr×Int×Tab×Unit)×List (Tab)×List (Tab)×Int×List (Tab)×Bool×Int×Unit)⊕Empty
def Aj6:AP:=[(1,.box Ae 0),(3,.own An 99),(4,.own An 99),(5,.v I),(6,.own An 99),(7,.v .bool),(8,.v I),(9,.v I)]
def Ams:AJ:=[(.normal,[(1,.box Ae 0),(3,.own An 99),(4,.own An 99),(5,.v I),(6,.own An 99),(7,.v .bool),(8,.v I)])]
def Ls (N:Nat) (back:O7->Option OF) (d:O7):Option OF:=
 let s1:=d.1
 let s3:=d.2.1
 let s4:=d.2.2.1
 let s5:=d.2.2.2.1
 let s6:=d.2.2.2.2.1
 let s7:=d.2.2.2.2.2.1
 let s8:=d.2.2.2.2.2.2.1
 let s9:=d.2.2.2.2.2.2.2.1
 if (decide (s9<s1.1.1))=true then
  (Nn N N ((s1,(s3,(s4,(s5,(s6,(s7,(s8,(s9,((0:Int),()))))))))))).bind fun o55=>match o55 with
  | .inl d56=>
   let x57:=IntKind.wrap .i64 (d56.2.2.2.2.2.2.2.1+(1:Int))
   back ((d56.1,(d56.2.1,(d56.2.2.1,(d56.2.2.2.1,(d56.2.2.2.2.1,(d56.2.2.2.2.2.1,(d56.2.2.2.2.2.2.1,(x57,())))))))))
 else
  some (.inl ((s1,(s3,(s4,(s5,(s6,(s7,(s8,())))))))))
def MT (N:Nat):Nat->O7->Option OF
 | 0,_=>none
 | k+1,d=>Ls N (MT N k) d
abbrev QC:=(Gr×Int×Tab×Unit)×List (Tab)×List (Tab)×Int×List (Tab)×Bool×Int×Unit
abbrev Oh:=((Gr×Int×Tab×Unit)×List (Tab)×Int×List (Tab)×Bool×Unit)⊕Empty
def Anv:AP:=[(1,.box Ae 0),(3,.own An 99),(4,.own An 99),(5,.v I),(6,.own An 99),(7,.v .bool),(8,.v I)]
def Akf:AJ:=[(.normal,[(1,.box Ae 0),(3,.own An 99),(5,.v I),(6,.own An 99),(7,.v .bool)])]
def K5 (N:Nat) (back:QC->Option Oh) (d:QC):Option Oh:=
 let s1:=d.1
 let s3:=d.2.1
 let s4:=d.2.2.1
 let s5:=d.2.2.2.1
 let s6:=d.2.2.2.2.1
 let s7:=d.2.2.2.2.2.1
 let s8:=d.2.2.2.2.2.2.1
 if (decide (s8<s1.2.1))=true then
  (MT N N ((s1,(s3,(s4,(s5,(s6,(s7,(s8,((0:Int),())))))))))).bind fun o46=>match o46 with
  | .inl d47=>
   let x48:=IntKind.wrap .i64 (d47.2.2.2.2.2.2.1+(1:Int))
   back ((d47.1,(d47.2.1,(d47.2.2.1,(d47.2.2.2.1,(d47.2.2.2.2.1,(d47.2.2.2.2.2.1,(x48,()))))))))
 else
  some (.inl ((s1,(s3,(s5,(s6,(s7,())))))))
def No (N:Nat):Nat->QC->Option Oh
 | 0,_=>none
 | k+1,d=>K5 N (No N k) d
abbrev P5:=(Gr×Int×Tab×Unit)×List (Tab)×List (Tab)×Int×Unit
abbrev N5:=(List (Tab)×Unit)⊕Empty
def Akw:AP:=[(1,.box Ae 0),(3,.own An 99),(4,.own An 99),(5,.v I)]
def Akk:AJ:=[(.ret,[(2,.own An 99)])]
def Pw (N:Nat) (back:P5->Option N5) (d:P5):Option N5:=
 let s1:=d.1
 let s3:=d.2.1
 let s4:=d.2.2.1
 let s5:=d.2.2.2.1
 (Es ((s1.2.1,(s1.1.1,())))).bind fun r21=>
 (No N N ((s1,(s3,(s4,(s5,(r21.1,(false,((0:Int),()))))))))).bind fun o34=>match o34 with
 | .inl d35=>
  if (!d35.2.2.2.2.1)=true then
   some (.inl (d35.2.2.2.1,()))
  else
   let x36:=IntKind.wrap .i64 (d35.2.2.1+(1:Int))
   back ((d35.1,(d35.2.1,(d35.2.2.2.1,(x36,())))))
def Ni (N:Nat):Nat->P5->Option N5
 | 0,_=>none
 | k+1,d=>Pw N (Ni N k) d
def XI (N:Nat) (d:(Gr×Int×Tab×Unit)×Unit):Option (List (Tab)×Unit):=
 let a0:=d.1
 (Dg (a0,())).bind fun r1=>
 (Es ((a0.2.1,(a0.1.1,())))).bind fun r2=>
 (Ni N N ((a0,(r1.1,(r2.1,((1:Int),())))))).bind fun o19=>match o19 with
 | .inl d20=>
  some (d20.1,())
def Xo:FSig:=⟨[(Ae,false)],[An],true,(Dl)⟩
def Azd:Ctx:={ tk:=Ac tks,ar:=Ac ars,fs:=Ac [(163,Tn),(171,Xo)] }
def Jr (N:Nat) (d:(Gr×Int×Tab×Unit)×Unit):Option (List (Tab)×Bool×Unit):=
 let a0:=d.1
 (C7 (a0,())).bind fun r1=>
 if (!r1.1)=true then
  some ((([]:List (Tab)),(false,())))
 else
  (Dl (a0,())).bind fun r2=>
  some ((r2.1,(true,())))
def Afh:FSig:=⟨[(Ae,false)],[An,.bool],true,(Jr 0)⟩
def Ayl:Ctx:={ tk:=Ac tks,ar:=Ac ars,fs:=Ac [(78,Afh),(91,Ko),(133,L2),(160,Xb)],dm:=fun t=>Nat.beq t 97,cs:=Ac [],gs:=Ac [],eqt:=inL [],md:=md0,thin:=fun t=>Nat.beq t 97 }
def Ql (N:Nat) (d:List Int×Unit):Option ((Gr×Int×Tab×Unit)×List (Tab)×Unit):=
 let a0:=d.1
 ((CW Js G8) (((a0,((0:Int),((0:Int),()))),()))).bind fun r10=>
 ((Jr 0) (r10.1,())).bind fun r11=>
 if (decide ((List.length r11.1:Int)>(0:Int)))=true then
  ((BU 0) ((r10.2.1,((List.length r11.1:Int),())))).bind fun r12=>
  if (Af r12.1 (List.length r11.1))=true then
  ((BU 0) ((r12.2.1,((List.length (at_ Ag r11.1 r12.1.toNat):Int),())))).bind fun r13=>
  if (Af r12.1 (List.length r11.1))=true then
  if (Af r13.1 (List.length (at_ Ag r11.1 r12.1.toNat)))=true then
  ((BU 0) ((r13.2.1,((List.length (at_ Ai (at_ Ag r11.1 r12.1.toNat) r13.1.toNat):Int),())))).bind fun r14=>
  ((BU 0) ((r14.2.1,((8:Int),())))).bind fun r15=>
  if (r15.1==(0:Int))=true then
   if (Af r12.1 (List.length r11.1))=true then
   if (Af r13.1 (List.length (at_ Ag r11.1 r12.1.toNat)))=true then
   if (Af r12.1 (List.length r11.1))=true then
   if (Af r13.1 (List.length (at_ Ag r11.1 r12.1.toNat)))=true then
   if (Af r14.1 (List.length (at_ Ai (at_ Ag r11.1 r12.1.toNat) r13.1.toNat)))=true then
   ((CD 0) ((r15.2.1,([(1:Int),(-1:Int),(2:Int)],())))).bind fun r16=>
   let x17:=IntKind.wrap .i64 (at_ I (at_ Ai (at_ Ag r11.1 r12.1.toNat) r13.1.toNat) r14.1.toNat+r16.1)
   if (Af r14.1 (List.length (at_ Ai (at_ Ag r11.1 r12.1.toNat) r13.1.toNat)))=true then
   let x18:=List.set r11.1 r12.1.toNat (List.set (at_ Ag r11.1 r12.1.toNat) r13.1.toNat (List.set (at_ Ai (at_ Ag r11.1 r12.1.toNat) r13.1.toNat) r14.1.toNat x17))
   some ((r10.1,(x18,())))
   else none
   else none
   else none
   else none
   else none
   else none
  else
   if (r15.1==(1:Int))=true then
    if (Af r12.1 (List.length r11.1))=true then
    if (Af r13.1 (List.length (at_ Ag r11.1 r12.1.toNat)))=true then
    ((CD 0) ((r15.2.1,([(-2:Int),(-1:Int),(0:Int),(4611686018427387904:Int)],())))).bind fun r19=>
    if (Af r14.1 (List.length (at_ Ai (at_ Ag r11.1 r12.1.toNat) r13.1.toNat)))=true then
    let x20:=List.set r11.1 r12.1.toNat (List.set (at_ Ag r11.1 r12.1.toNat) r13.1.toNat (List.set (at_ Ai (at_ Ag r11.1 r12.1.toNat) r13.1.toNat) r14.1.toNat r19.1))
    some ((r10.1,(x20,())))
    else none
    else none
    else none
   else
    if (r15.1==(2:Int))=true then
     if ((decide (0<=(1:Int))&&decide ((1:Int)<=(List.length r11.1:Int))&&decide ((List.length r11.1:Int)<=(List.length r11.1:Int))))=true then
     let x21:=CY r11.1 (1:Int) (List.length r11.1:Int)
     some ((r10.1,(x21,())))
     else none
    else
     if (r15.1==(3:Int))=true then
      if (Af r12.1 (List.length r11.1))=true then
      if ((decide (0<=(1:Int))&&decide ((1:Int)<=(List.length (at_ Ag r11.1 r12.1.toNat):Int))&&decide ((List.length (at_ Ag r11.1 r12.1.toNat):Int)<=(List.length (at_ Ag r11.1 r12.1.toNat):Int))))=true then
      let x22:=CY (at_ Ag r11.1 r12.1.toNat) (1:Int) (List.length (at_ Ag r11.1 r12.1.toNat):Int)
      if (Af r12.1 (List.length r11.1))=true then
      let x23:=List.set r11.1 r12.1.toNat x22
      some ((r10.1,(x23,())))
      else none
      else none
      else none
     else
      some ((r10.1,(r11.1,())))
  else none
  else none
  else none
 else
  some ((r10.1,(r11.1,())))
def Aut:FSig:=⟨[(K_Su8,false)],[Ae,An],false,(Ql 0)⟩
def Arf:Ctx:={ tk:=Ac tks,ar:=Ac ars,fs:=Ac [] }
def R1 (N:Nat) (d:Int×Int×Int×Unit):Option (Bool×Unit):=
 let a0:=d.1
 let a1:=d.2.1
 let a2:=d.2.2.1
 if (decide (a0>=a1))=true then
  some (decide (a0<=a2),())
 else
  some (false,())
def ET (d:Int×Int×Int×Unit):Bool×Unit:=
 let a0:=d.1
 let a1:=d.2.1
 let a2:=d.2.2.1
 if (decide (a0>=a1))=true then
  (decide (a0<=a2),())
 else
  (false,())
theorem Yi (N:Nat) (d):R1 N d=some (ET d):=by
 unfold R1 ET
 first
  | rfl
  | (dsimp only; (repeat' split)<;>rfl)
def KE:FSig:=⟨[(I,false),(I,false),(I,false)],[.bool],true,(fun d=>some (ET d))⟩
def Aw6:Ctx:={ tk:=Ac tks,ar:=Ac ars,fs:=Ac [] }
def VD (N:Nat) (d:Int×Unit):Option (Bool×Unit):=
 let a0:=d.1
 some (a0 != a0,())
def JU (d:Int×Unit):Bool×Unit:=
 let a0:=d.1
 (a0 != a0,())
theorem Adu (N:Nat) (d):VD N d=some (JU d):=by
 unfold VD JU
 first
  | rfl
  | (dsimp only; (repeat' split)<;>rfl)
def Ap8:FSig:=⟨[(I,false)],[.bool],true,(fun d=>some (JU d))⟩
def Avt:Ctx:={ tk:=Ac tks,ar:=Ac ars,fs:=Ac [(258,Ap8)] }
def Xy (N:Nat) (d:Int×Int×Unit):Option (Int×Unit):=
 let a0:=d.1
 let a1:=d.2.1
 let r1:=JU (a0,())
 let r2:=JU (a1,())
 if (r1.1)=true then
  if (r2.1)=true then
   some ((0:Int),())
  else
   some ((-1:Int),())
 else
  if (r2.1)=true then
   some ((1:Int),())
  else
   if (decide (a0<a1))=true then
    some ((-1:Int),())
   else
    if (decide (a0>a1))=true then
     some ((1:Int),())
    else
     some ((0:Int),())
def Oj (d:Int×Int×Unit):Int×Unit:=
 let a0:=d.1
 let a1:=d.2.1
 let r1:=JU (a0,())
 let r2:=JU (a1,())
 if (r1.1)=true then
  if (r2.1)=true then
   ((0:Int),())
  else
   ((-1:Int),())
 else
  if (r2.1)=true then
   ((1:Int),())
  else
   if (decide (a0<a1))=true then
    ((-1:Int),())
   else
    if (decide (a0>a1))=true then
     ((1:Int),())
    else
     ((0:Int),())
theorem Abe (N:Nat) (d):Xy N d=some (Oj d):=by
 unfold Xy Oj
 first
  | rfl
  | (dsimp only; (repeat' split)<;>rfl)
def Auv:FSig:=⟨[(I,false),(I,false)],[I],true,(fun d=>some (Oj d))⟩
def Axz:Ctx:={ tk:=Ac tks,ar:=Ac ars,fs:=Ac [(246,Auv)] }
abbrev Pp:=List Int×List Int×List Int×Int×Int×Unit
abbrev PP:=(Int×Unit)⊕(List Int×List Int×Unit)⊕Empty
def Ape:AP:=[(0,.v Ai),(1,.v Ai),(9,.v Ai),(10,.v I),(11,.v I)]
def Am5:AJ:=[(.ret,[(4,.v I)]),(.normal,[(0,.v Ai),(1,.v Ai)])]
def In (N:Nat) (back:Pp->Option PP) (d:Pp):Option PP:=
 let s0:=d.1
 let s1:=d.2.1
 let s9:=d.2.2.1
 let s10:=d.2.2.2.1
 let s11:=d.2.2.2.2.1
 if (decide (s11<s10))=true then
  if (Af s11 (List.length s9))=true then
  if (decide (s11>=(List.length s1:Int)))=true then
   some (.inl ((1:Int),()))
  else
   if (Af s11 (List.length s1))=true then
   let r6:=Oj ((at_ I s9 s11.toNat,(at_ I s1 s11.toNat,())))
   if (r6.1 != (0:Int))=true then
    some (.inl (r6.1,()))
   else
    let x7:=IntKind.wrap .i64 (s11+(1:Int))
    back ((s0,(s1,(s9,(s10,(x7,()))))))
   else none
  else none
 else
  some (.inr (.inl ((s0,(s1,())))))
def IL (N:Nat):Nat->Pp->Option PP
 | 0,_=>none
 | k+1,d=>In N (IL N k) d
def Wz (N:Nat) (d:List Int×List Int×Unit):Option (Int×Unit):=
 let a0:=d.1
 let a1:=d.2.1
 (IL N N ((a0,(a1,(a0,((List.length a0:Int),((0:Int),()))))))).bind fun o3=>match o3 with
 | .inl d4=>
  some (d4.1,())
 | .inr (.inl d5)=>
  if (decide ((List.length d5.1:Int)<(List.length d5.2.1:Int)))=true then
   some ((-1:Int),())
  else
   some ((0:Int),())
def Aro:FSig:=⟨[(Ai,false),(Ai,false)],[I],true,(Ew)⟩
def Ayq:Ctx:={ tk:=Ac tks,ar:=Ac ars,fs:=Ac [(143,KE),(199,Aro)] }
abbrev QM:=Gr×(List (Int×Int×Unit))×Int×Int×Unit
abbrev Qm:=(Bool×Unit)⊕Unit⊕Empty
def Anx:AP:=[(1,.box Aj 0),(10,.v Cb),(11,.v I),(12,.v I)]
def Aiu:AJ:=[(.ret,[(2,.v .bool)]),(.normal,[])]
def K1 (N:Nat) (back:QM->Option Qm) (d:QM):Option Qm:=
 let s1:=d.1
 let s10:=d.2.1
 let s11:=d.2.2.1
 let s12:=d.2.2.2.1
 if (decide (s12<s11))=true then
  if (Af s12 (List.length s10))=true then
  if (decide ((at_ Am s10 s12.toNat).1<(0:Int)))=true then
   some (.inl (false,()))
  else
   if (decide ((at_ Am s10 s12.toNat).1>=(at_ Am s10 s12.toNat).2.1))=true then
    some (.inl (false,()))
   else
    if (decide ((at_ Am s10 s12.toNat).2.1>=s1.1))=true then
     some (.inl (false,()))
    else
     if (decide (s12>(0:Int)))=true then
      let x9:=IntKind.wrap .i64 (s12-(1:Int))
      if (Af x9 (List.length s1.2.1))=true then
      (Ew (([(at_ Am s1.2.1 x9.toNat).1,(at_ Am s1.2.1 x9.toNat).2.1],([(at_ Am s10 s12.toNat).1,(at_ Am s10 s12.toNat).2.1],())))).bind fun r10=>
      if (decide (r10.1>=(0:Int)))=true then
       some (.inl (false,()))
      else
       let x11:=IntKind.wrap .i64 (s12+(1:Int))
       back ((s1,(s10,(s11,(x11,())))))
      else none
     else
      let x12:=IntKind.wrap .i64 (s12+(1:Int))
      back ((s1,(s10,(s11,(x12,())))))
  else none
 else
  some (.inr (.inl ()))
def Sc (N:Nat):Nat->QM->Option Qm
 | 0,_=>none
 | k+1,d=>K1 N (Sc N k) d
def Ww (N:Nat) (d:Gr×Unit):Option (Bool×Unit):=
 let a0:=d.1
 let r1:=ET ((a0.1,((0:Int),((8:Int),()))))
 if (!r1.1)=true then
  some (false,())
 else
  (Sc N N ((a0,(a0.2.1,((List.length a0.2.1:Int),((0:Int),())))))).bind fun o6=>match o6 with
  | .inl d7=>
   some (d7.1,())
  | .inr (.inl d8)=>
   some (true,())
def SH:FSig:=⟨[(Aj,false)],[.bool],true,(C2)⟩
def Awq:Ctx:={ tk:=Ac tks,ar:=Ac ars,fs:=Ac [] }
abbrev QW:=List Int×Int×Unit
abbrev Pb:=(Bool×Unit)⊕Unit⊕Empty
def Ake:AP:=[(0,.v Ai),(3,.v I)]
def Anl:AJ:=[(.ret,[(2,.v .bool)]),(.normal,[])]
def KO (N:Nat) (back:QW->Option Pb) (d:QW):Option Pb:=
 let s0:=d.1
 let s3:=d.2.1
 if (decide (s3<(List.length s0:Int)))=true then
  let x6:=IntKind.wrap .i64 (s3-(1:Int))
  if (Af x6 (List.length s0))=true then
  if (Af s3 (List.length s0))=true then
  if (decide (at_ I s0 x6.toNat>=at_ I s0 s3.toNat))=true then
   some (.inl (false,()))
  else
   let x7:=IntKind.wrap .i64 (s3+(1:Int))
   back ((s0,(x7,())))
  else none
  else none
 else
  some (.inr (.inl ()))
def R3 (N:Nat):Nat->QW->Option Pb
 | 0,_=>none
 | k+1,d=>KO N (R3 N k) d
def Wn (N:Nat) (d:List Int×Unit):Option (Bool×Unit):=
 let a0:=d.1
 (R3 N N ((a0,((1:Int),())))).bind fun o3=>match o3 with
 | .inl d4=>
  some (d4.1,())
 | .inr (.inl d5)=>
  some (true,())
def Aq6:FSig:=⟨[(Ai,false)],[.bool],true,(EV)⟩
def Azb:Ctx:={ tk:=Ac tks,ar:=Ac ars,fs:=Ac [(143,KE)] }
abbrev Od:=Int×Int×List Int×Int×Int×Unit
abbrev Pj:=(Bool×Unit)⊕Unit⊕Empty
def Al3:AP:=[(1,.v I),(2,.v I),(9,.v Ai),(10,.v I),(11,.v I)]
def Aly:AJ:=[(.ret,[(6,.v .bool)]),(.normal,[])]
def K8 (N:Nat) (back:Od->Option Pj) (d:Od):Option Pj:=
 let s1:=d.1
 let s2:=d.2.1
 let s9:=d.2.2.1
 let s10:=d.2.2.2.1
 let s11:=d.2.2.2.2.1
 if (decide (s11<s10))=true then
  if (Af s11 (List.length s9))=true then
  let r6:=ET ((at_ I s9 s11.toNat,(s1,(s2,()))))
  if (!r6.1)=true then
   some (.inl (false,()))
  else
   let x7:=IntKind.wrap .i64 (s11+(1:Int))
   back ((s1,(s2,(s9,(s10,(x7,()))))))
  else none
 else
  some (.inr (.inl ()))
def R4 (N:Nat):Nat->Od->Option Pj
 | 0,_=>none
 | k+1,d=>K8 N (R4 N k) d
def V6 (N:Nat) (d:List Int×Int×Int×Unit):Option (Bool×Unit):=
 let a0:=d.1
 let a1:=d.2.1
 let a2:=d.2.2.1
 (R4 N N ((a1,(a2,(a0,((List.length a0:Int),((0:Int),()))))))).bind fun o3=>match o3 with
 | .inl d4=>
  some (d4.1,())
 | .inr (.inl d5)=>
  some (true,())
def V3:FSig:=⟨[(Ai,false),(I,false),(I,false)],[.bool],true,(CO)⟩
def Ayt:Ctx:={ tk:=Ac tks,ar:=Ac ars,fs:=Ac [(128,V3),(169,Aq6)] }
def VF (N:Nat) (d:List Int×(Gr×Int×Tab×Unit)×Unit):Option (Bool×Unit):=
 let a0:=d.1
 let a1:=d.2.1
 (EV (a0,())).bind fun r1=>
 if (!r1.1)=true then
  some (true,())
 else
  let x2:=IntKind.wrap .i64 (a1.2.1-(1:Int))
  (CO ((a0,((0:Int),(x2,()))))).bind fun r3=>
  some (!r3.1,())
def ACh:FSig:=⟨[(Ai,false),(E5,false)],[.bool],true,(VF 0)⟩
def WZ (d:List Int×(Unit×(Gr×Int×Tab×Unit)×Unit)×Unit):Option (Bool×Unit):=(VF 0) (d.1,d.2.1.2)
def Agw:FSig:=⟨[(Ai,false),(Bc,false)],[.bool],true,WZ⟩
def Awn:Ctx:={ tk:=Ac tks,ar:=Ac ars,fs:=Ac [],cs:=Ac [(168,Agw)] }
abbrev OX:=Tab×(Unit×(Gr×Int×Tab×Unit)×Unit)×Int×Int×Unit
abbrev Qe:=(Int×Unit)⊕Unit⊕Empty
def Aou:AP:=[(0,.v Ag),(1,.v Bc),(7,.v I),(8,.v I)]
def Amd:AJ:=[(.ret,[(4,.v I)]),(.normal,[])]
def K9 (N:Nat) (back:OX->Option Qe) (d:OX):Option Qe:=
 let s0:=d.1
 let s1:=d.2.1
 let s7:=d.2.2.1
 let s8:=d.2.2.2.1
 if (decide (s8<s7))=true then
  if (Af s8 (List.length s0))=true then
  (WZ ((at_ Ai s0 s8.toNat,(s1,())))).bind fun r6=>
  if (r6.1)=true then
   some (.inl (s8,()))
  else
   let x7:=IntKind.wrap .i64 (s8+(1:Int))
   back ((s0,(s1,(s7,(x7,())))))
  else none
 else
  some (.inr (.inl ()))
def RX (N:Nat):Nat->OX->Option Qe
 | 0,_=>none
 | k+1,d=>K9 N (RX N k) d
def PV (N:Nat) (d:Tab×(Unit×(Gr×Int×Tab×Unit)×Unit)×Unit):Option (Int×Unit):=
 let a0:=d.1
 let a1:=d.2.1
 (RX N N ((a0,(a1,((List.length a0:Int),((0:Int),())))))).bind fun o3=>match o3 with
 | .inl d4=>
  some (d4.1,())
 | .inr (.inl d5)=>
  some ((-1:Int),())
def Art:FSig:=⟨[(Ag,false),(Bc,false)],[I],true,(HB)⟩
def ACe:Ctx:={ tk:=Ac tks,ar:=Ac ars,fs:=Ac [(232,Art)] }
def ZQ (N:Nat) (d:Tab×(Unit×(Gr×Int×Tab×Unit)×Unit)×Unit):Option (Bool×Unit):=
 let a0:=d.1
 let a1:=d.2.1
 (HB ((a0,(a1,())))).bind fun r1=>
 some ((decide (r1.1>=(0:Int)),()))
def Azj:FSig:=⟨[(Ag,false),(Bc,false)],[.bool],true,(ZQ 0)⟩
def Awc:Ctx:={ tk:=Ac tks,ar:=Ac ars,fs:=Ac [(114,SH),(143,KE),(167,Azj)],cs:=Ac [],fz:=fun t=>Nat.beq t 1 }
def Hk (N:Nat) (d:(Gr×Int×Tab×Unit)×Unit):Option (Bool×Unit):=
 let a0:=d.1
 (C2 (a0.1,())).bind fun r1=>
 if (!r1.1)=true then
  some (false,())
 else
  if (a0.1.1==(0:Int))=true then
   some (false,())
  else
   let r2:=ET ((a0.2.1,((1:Int),((4:Int),()))))
   if (!r2.1)=true then
    some (false,())
   else
    if ((List.length a0.2.2.1:Int) != (List.length a0.1.2.1:Int))=true then
     some (false,())
    else
     ((ZQ 0) ((a0.2.2.1,(((),(a0,())),())))).bind fun r3=>
     some (!r3.1,())
def L8:FSig:=⟨[(Ae,false)],[.bool],true,(Hk 0)⟩
def UN:Ctx:={ tk:=Ac tks,ar:=Ac ars,fs:=Ac [] }
abbrev FW:=(List Int×Unit)×(List Int×Unit)×(List (Int×Int×Unit))×Int×Int×Unit
abbrev FV:=((List Int×Unit)×(List Int×Unit)×Unit)⊕Empty
def RD:AP:=[(2,.box AA 99),(3,.box AA 99),(11,.v Cb),(12,.v I),(13,.v I)]
def Rj:AJ:=[(.normal,[(2,.box AA 99),(3,.box AA 99)])]
def Dt (N:Nat) (back:FW->Option FV) (d:FW):Option FV:=
 let s2:=d.1
 let s3:=d.2.1
 let s11:=d.2.2.1
 let s12:=d.2.2.2.1
 let s13:=d.2.2.2.2.1
 if (decide (s13<s12))=true then
  if (Af s13 (List.length s11))=true then
  if (Af (at_ Am s11 s13.toNat).1 (List.length s3.1))=true then
  if (decide (0<=(at_ Am s11 s13.toNat).2.1))=true then
  let x9:=shl .i64 (1:Int) (at_ Am s11 s13.toNat).2.1
  let x10:=bits .or .i64 (at_ I s3.1 (at_ Am s11 s13.toNat).1.toNat) x9
  if (Af (at_ Am s11 s13.toNat).1 (List.length s3.1))=true then
  if (Af (at_ Am s11 s13.toNat).2.1 (List.length (List.set s3.1 (at_ Am s11 s13.toNat).1.toNat x10)))=true then
  if (decide (0<=(at_ Am s11 s13.toNat).1))=true then
  let x11:=shl .i64 (1:Int) (at_ Am s11 s13.toNat).1
  let x12:=bits .or .i64 (at_ I (List.set s3.1 (at_ Am s11 s13.toNat).1.toNat x10) (at_ Am s11 s13.toNat).2.1.toNat) x11
  if (Af (at_ Am s11 s13.toNat).2.1 (List.length (List.set s3.1 (at_ Am s11 s13.toNat).1.toNat x10)))=true then
  let x13:=IntKind.wrap .i64 (s13+(1:Int))
  back ((s2,((List.set (List.set s3.1 (at_ Am s11 s13.toNat).1.toNat x10) (at_ Am s11 s13.toNat).2.1.toNat x12,s3.2),(s11,(s12,(x13,()))))))
  else none
  else none
  else none
  else none
  else none
  else none
  else none
 else
  some (.inl ((s2,(s3,()))))
def CV (N:Nat):Nat->FW->Option FV
 | 0,_=>none
 | k+1,d=>Dt N (CV N k) d
def Gy (N:Nat) (d:Gr×Unit):Option ((List Int×Unit)×Unit):=
 let a0:=d.1
 if ((decide (0<=a0.1)&&decide (a0.1<=a0.1)&&decide (a0.1<=(lim:Int))))=true then
 let x1:=List.replicate a0.1.toNat (0:Int)
 (CV N N (((([]:List Int),()),((x1,()),(a0.2.1,((List.length a0.2.1:Int),((0:Int),()))))))).bind fun o7=>match o7 with
 | .inl d8=>
  some (d8.2.1,())
 else none
def Gv:FSig:=⟨[(Aj,false)],[AA],true,(Ft)⟩
def Avh:Ctx:={ tk:=Ac tks,ar:=Ac ars,fs:=Ac [] }
abbrev NZ:=List Int×Int×Int×Int×Unit
abbrev Pz:=(Int×Unit)⊕Unit⊕Empty
def Ak5:AP:=[(0,.v Ai),(1,.v I),(7,.v I),(8,.v I)]
def Amq:AJ:=[(.ret,[(4,.v I)]),(.normal,[])]
def Lz (N:Nat) (back:NZ->Option Pz) (d:NZ):Option Pz:=
 let s0:=d.1
 let s1:=d.2.1
 let s7:=d.2.2.1
 let s8:=d.2.2.2.1
 if (decide (s8<s7))=true then
  if (Af s8 (List.length s0))=true then
  if (s1==at_ I s0 s8.toNat)=true then
   some (.inl (s8,()))
  else
   let x5:=IntKind.wrap .i64 (s8+(1:Int))
   back ((s0,(s1,(s7,(x5,())))))
  else none
 else
  some (.inr (.inl ()))
def Sv (N:Nat):Nat->NZ->Option Pz
 | 0,_=>none
 | k+1,d=>Lz N (Sv N k) d
def VJ (N:Nat) (d:List Int×Int×Unit):Option (Int×Unit):=
 let a0:=d.1
 let a1:=d.2.1
 (Sv N N ((a0,(a1,((List.length a0:Int),((0:Int),())))))).bind fun o2=>match o2 with
 | .inl d3=>
  some (d3.1,())
 | .inr (.inl d4)=>
  some ((-1:Int),())
def Aq8:FSig:=⟨[(Ai,false),(I,false)],[I],true,(Lo)⟩
def Ay0:Ctx:={ tk:=Ac tks,ar:=Ac ars,fs:=Ac [(211,Aq8)] }
def Jn (N:Nat) (d:List Int×Int×Unit):Option (Bool×Unit):=
 let a0:=d.1
 let a1:=d.2.1
 (Lo ((a0,(a1,())))).bind fun r1=>
 some ((decide (r1.1>=(0:Int)),()))
def X0:FSig:=⟨[(Ai,false),(I,false)],[.bool],true,(Jn 0)⟩
def Av9:Ctx:={ tk:=Ac tks,ar:=Ac ars,fs:=Ac [(95,Gv),(129,X0)] }
abbrev NT:=(Gr×Int×Tab×Unit)×(List (List Int×Unit))×Int×Int×Int×(List (Int×Int×Unit))×Int×Int×Unit
abbrev O2:=((Gr×Int×Tab×Unit)×(List (List Int×Unit))×Int×Int×Unit)⊕Empty
def Ait:AP:=[(1,.box Ae 0),(3,.own AU 99),(4,.v I),(11,.v I),(12,.v I),(25,.v Cb),(26,.v I),(27,.v I)]
def Akr:AJ:=[(.normal,[(1,.box Ae 0),(3,.own AU 99),(11,.v I),(12,.v I)])]
def H9 (N:Nat) (back:NT->Option O2) (d:NT):Option O2:=
 let s1:=d.1
 let s3:=d.2.1
 let s4:=d.2.2.1
 let s11:=d.2.2.2.1
 let s12:=d.2.2.2.2.1
 let s25:=d.2.2.2.2.2.1
 let s26:=d.2.2.2.2.2.2.1
 let s27:=d.2.2.2.2.2.2.2.1
 if (decide (s27<s26))=true then
  if (Af s27 (List.length s25))=true then
  if (Af s27 (List.length s1.2.2.1))=true then
  ((Jn 0) ((at_ Ai s1.2.2.1 s27.toNat,(s4,())))).bind fun r30=>
  if (r30.1)=true then
   if (Af s4 (List.length s3))=true then
   if (Af (at_ Am s25 s27.toNat).1 (List.length (at_ AA s3 s4.toNat).1))=true then
   if (decide (0<=(at_ Am s25 s27.toNat).2.1))=true then
   let x31:=shl .i64 (1:Int) (at_ Am s25 s27.toNat).2.1
   let x32:=bits .or .i64 (at_ I (at_ AA s3 s4.toNat).1 (at_ Am s25 s27.toNat).1.toNat) x31
   if (Af (at_ Am s25 s27.toNat).1 (List.length (at_ AA s3 s4.toNat).1))=true then
   let x33:=List.set s3 s4.toNat (List.set (at_ AA s3 s4.toNat).1 (at_ Am s25 s27.toNat).1.toNat x32,(at_ AA s3 s4.toNat).2)
   if (Af s4 (List.length x33))=true then
   if (Af (at_ Am s25 s27.toNat).2.1 (List.length (at_ AA x33 s4.toNat).1))=true then
   if (decide (0<=(at_ Am s25 s27.toNat).1))=true then
   let x34:=shl .i64 (1:Int) (at_ Am s25 s27.toNat).1
   let x35:=bits .or .i64 (at_ I (at_ AA x33 s4.toNat).1 (at_ Am s25 s27.toNat).2.1.toNat) x34
   if (Af (at_ Am s25 s27.toNat).2.1 (List.length (at_ AA x33 s4.toNat).1))=true then
   let x36:=List.set x33 s4.toNat (List.set (at_ AA x33 s4.toNat).1 (at_ Am s25 s27.toNat).2.1.toNat x35,(at_ AA x33 s4.toNat).2)
   let x37:=IntKind.wrap .i64 (s27+(1:Int))
   back ((s1,(x36,(s4,(s11,(s12,(s25,(s26,(x37,())))))))))
   else none
   else none
   else none
   else none
   else none
   else none
   else none
   else none
  else
   let x38:=IntKind.wrap .i64 (s27+(1:Int))
   back ((s1,(s3,(s4,(s11,(s12,(s25,(s26,(x38,())))))))))
  else none
  else none
 else
  some (.inl ((s1,(s3,(s11,(s12,()))))))
def Jf (N:Nat):Nat->NT->Option O2
 | 0,_=>none
 | k+1,d=>H9 N (Jf N k) d
abbrev P4:=(Gr×Int×Tab×Unit)×(List (List Int×Unit))×Int×Int×Unit
abbrev OJ:=((List (List Int×Unit))×Unit)⊕Empty
def Aix:AP:=[(1,.box Ae 0),(3,.own AU 99),(11,.v I),(12,.v I)]
def Apk:AJ:=[(.normal,[(3,.own AU 99)])]
def La (N:Nat) (back:P4->Option OJ) (d:P4):Option OJ:=
 let s1:=d.1
 let s3:=d.2.1
 let s11:=d.2.2.1
 let s12:=d.2.2.2.1
 if (decide (s12<s11))=true then
  (Ft (((s1.1.1,(([]:List (Int×Int×Unit)),())),()))).bind fun r17=>
  if (Af s12 (List.length s3))=true then
  (Jf N N ((s1,(List.set s3 s12.toNat r17.1,(s12,(s11,(s12,(s1.1.2.1,((List.length s1.1.2.1:Int),((0:Int),())))))))))).bind fun o27=>match o27 with
  | .inl d28=>
   let x29:=IntKind.wrap .i64 (d28.2.2.2.1+(1:Int))
   back ((d28.1,(d28.2.1,(d28.2.2.1,(x29,())))))
  else none
 else
  some (.inl (s3,()))
def Ky (N:Nat):Nat->P4->Option OJ
 | 0,_=>none
 | k+1,d=>La N (Ky N k) d
def V1 (N:Nat) (d:(Gr×Int×Tab×Unit)×Unit):Option ((List (List Int×Unit))×Unit):=
 let a0:=d.1
 if ((decide (0<=a0.2.1)&&decide (a0.2.1<=a0.2.1)&&decide (a0.2.1<=(lim:Int))))=true then
 let x1:=List.replicate a0.2.1.toNat (([]:List Int),())
 (Ky N N ((a0,(x1,((List.length x1:Int),((0:Int),())))))).bind fun o15=>match o15 with
 | .inl d16=>
  some (d16.1,())
 else none
def Pv:FSig:=⟨[(Ae,false)],[AU],true,(Co)⟩
def Ava:Ctx:={ tk:=Ac tks,ar:=Ac ars,fs:=Ac [] }
def X4 (N:Nat) (d:(List Int×Unit)×Unit):Option (Int×Unit):=
 let a0:=d.1
 some ((List.length a0.1:Int),())
def E8 (d:(List Int×Unit)×Unit):Int×Unit:=
 let a0:=d.1
 ((List.length a0.1:Int),())
theorem Aa0 (N:Nat) (d):X4 N d=some (E8 d):=by
 unfold X4 E8
 first
  | rfl
  | (dsimp only; (repeat' split)<;>rfl)
def Qa:FSig:=⟨[(AA,false)],[I],true,(fun d=>some (E8 d))⟩
def Axw:Ctx:={ tk:=Ac tks,ar:=Ac ars,fs:=Ac [] }
def Wt (N:Nat) (d:Int×Unit):Option (Bool×Unit):=
 let a0:=d.1
 some ((decide (a0<(-1:Int)),()))
def S3 (d:Int×Unit):Bool×Unit:=
 let a0:=d.1
 ((decide (a0<(-1:Int)),()))
theorem Aes (N:Nat) (d):Wt N d=some (S3 d):=by
 unfold Wt S3
 first
  | rfl
  | (dsimp only; (repeat' split)<;>rfl)
def AA5:FSig:=⟨[(I,false)],[.bool],true,(fun d=>some (S3 d))⟩
def Ax8:Ctx:={ tk:=Ac tks,ar:=Ac ars,fs:=Ac [] }
def IS (N:Nat) (d:(List Int×Unit)×Int×Unit):Option (Int×Unit):=
 let a0:=d.1
 let a1:=d.2.1
 if (Af a1 (List.length a0.1))=true then
 if (decide (0<=a1))=true then
 let x1:=bits .or .i64 (at_ I a0.1 a1.toNat) (shl .i64 (1:Int) a1)
 some (x1,())
 else none
 else none
def Oc:FSig:=⟨[(AA,false),(I,false)],[I],true,(IS 0)⟩
def UI:Ctx:={ tk:=Ac tks,ar:=Ac ars,fs:=Ac [] }
abbrev FX:=Int×List Int×Int×Unit
abbrev FQ:=(List Int×Unit)⊕Empty
def Rr:AP:=[(0,.v I),(3,.own Ai 99),(4,.v I)]
def Rn:AJ:=[(.normal,[(3,.own Ai 99)])]
def Dx (N:Nat) (back:FX->Option FQ) (d:FX):Option FQ:=
 let s0:=d.1
 let s3:=d.2.1
 let s4:=d.2.2.1
 if (decide (0<=s4))=true then
 if (shr .i64 s0 s4 != (0:Int))=true then
  if (decide (0<=s4))=true then
  let x6:=bits .and .i64 (shr .i64 s0 s4) (1:Int)
  if (x6==(1:Int))=true then
   if (decide (List.length s3+List.length ([s4])<=lim))=true then
   let x7:=IntKind.wrap .i64 (s4+(1:Int))
   back ((s0,(s3++([s4]),(x7,()))))
   else none
  else
   let x8:=IntKind.wrap .i64 (s4+(1:Int))
   back ((s0,(s3,(x8,()))))
  else none
 else
  some (.inl (s3,()))
 else none
def DC (N:Nat):Nat->FX->Option FQ
 | 0,_=>none
 | k+1,d=>Dx N (DC N k) d
def Gn (N:Nat) (d:Int×Unit):Option (List Int×Unit):=
 let a0:=d.1
 (DC N N ((a0,(([]:List Int),((0:Int),()))))).bind fun o4=>match o4 with
 | .inl d5=>
  some (d5.1,())
def Dp:FSig:=⟨[(I,false)],[Ai],true,(D8)⟩
def Avx:Ctx:={ tk:=Ac tks,ar:=Ac ars,fs:=Ac [(127,Dp),(130,Oc)] }
abbrev QH:=List Int×Int×List Int×Int×Int×Unit
abbrev Pk:=(Int×Unit)⊕(Int×Unit)⊕Empty
def Amg:AP:=[(1,.v Ai),(7,.v I),(13,.own Ai 99),(14,.v I),(15,.v I)]
def Alu:AJ:=[(.ret,[(6,.v I)]),(.normal,[(7,.v I)])]
def Ly (N:Nat) (back:QH->Option Pk) (d:QH):Option Pk:=
 let s1:=d.1
 let s7:=d.2.1
 let s13:=d.2.2.1
 let s14:=d.2.2.2.1
 let s15:=d.2.2.2.2.1
 if (decide (s15<s14))=true then
  if (Af s15 (List.length s13))=true then
  if (Af (at_ I s13 s15.toNat) (List.length s1))=true then
  if (decide (at_ I s1 (at_ I s13 s15.toNat).toNat<(0:Int)))=true then
   some (.inl ((-1:Int),()))
  else
   if (Af (at_ I s13 s15.toNat) (List.length s1))=true then
   let x8:=if s7<at_ I s1 (at_ I s13 s15.toNat).toNat then at_ I s1 (at_ I s13 s15.toNat).toNat else s7
   let x9:=IntKind.wrap .i64 (s15+(1:Int))
   back ((s1,(x8,(s13,(s14,(x9,()))))))
   else none
  else none
  else none
 else
  some (.inr (.inl (s7,())))
def Gw (N:Nat):Nat->QH->Option Pk
 | 0,_=>none
 | k+1,d=>Ly N (Gw N k) d
def VM (N:Nat) (d:(List Int×Unit)×List Int×Int×Unit):Option (Int×Unit):=
 let a0:=d.1
 let a1:=d.2.1
 let a2:=d.2.2.1
 ((IS 0) ((a0,(a2,())))).bind fun r1=>
 (D8 (r1.1,())).bind fun r2=>
 (Gw N N ((a1,((0:Int),(r2.1,((List.length r2.1:Int),((0:Int),()))))))).bind fun o5=>match o5 with
 | .inl d6=>
  some (d6.1,())
 | .inr (.inl d7)=>
  some (d7.1,())
def Tk:FSig:=⟨[(AA,false),(Ai,false),(I,false)],[I],true,(BG)⟩
def WF (d:Int×(Unit×Unit)×Unit):Option (Bool×Unit):=(fun d=>some (S3 d)) (d.1,d.2.1.2)
def Ahb:FSig:=⟨[(I,false),(EM,false)],[.bool],true,WF⟩
def Azg:Ctx:={ tk:=Ac tks,ar:=Ac ars,fs:=Ac [],cs:=Ac [(228,Ahb)] }
abbrev Pt:=List Int×(Unit×Unit)×Int×Int×Unit
abbrev QB:=(Int×Unit)⊕Unit⊕Empty
def Aki:AP:=[(0,.v Ai),(1,.v EM),(7,.v I),(8,.v I)]
def Am2:AJ:=[(.ret,[(4,.v I)]),(.normal,[])]
def KG (N:Nat) (back:Pt->Option QB) (d:Pt):Option QB:=
 let s0:=d.1
 let s1:=d.2.1
 let s7:=d.2.2.1
 let s8:=d.2.2.2.1
 if (decide (s8<s7))=true then
  if (Af s8 (List.length s0))=true then
  (WF ((at_ I s0 s8.toNat,(s1,())))).bind fun r6=>
  if (r6.1)=true then
   some (.inl (s8,()))
  else
   let x7:=IntKind.wrap .i64 (s8+(1:Int))
   back ((s0,(s1,(s7,(x7,())))))
  else none
 else
  some (.inr (.inl ()))
def RI (N:Nat):Nat->Pt->Option QB
 | 0,_=>none
 | k+1,d=>KG N (RI N k) d
def Wl (N:Nat) (d:List Int×(Unit×Unit)×Unit):Option (Int×Unit):=
 let a0:=d.1
 let a1:=d.2.1
 (RI N N ((a0,(a1,((List.length a0:Int),((0:Int),())))))).bind fun o3=>match o3 with
 | .inl d4=>
  some (d4.1,())
 | .inr (.inl d5)=>
  some ((-1:Int),())
def Aqv:FSig:=⟨[(Ai,false),(EM,false)],[I],true,(GJ)⟩
def AAv:Ctx:={ tk:=Ac tks,ar:=Ac ars,fs:=Ac [(248,Aqv)] }
def Ag4 (N:Nat) (d:List Int×(Unit×Unit)×Unit):Option (Bool×Unit):=
 let a0:=d.1
 let a1:=d.2.1
 (GJ ((a0,(a1,())))).bind fun r1=>
 some ((decide (r1.1>=(0:Int)),()))
def Azl:FSig:=⟨[(Ai,false),(EM,false)],[.bool],true,(Ag4 0)⟩
def Ay2:Ctx:={ tk:=Ac tks,ar:=Ac ars,fs:=Ac [(214,Azl)] }
def Xe (N:Nat) (d:List Int×Int×Unit):Option (Bool×Unit):=
 let a0:=d.1
 let a1:=d.2.1
 if ((List.length a0:Int) != a1)=true then
  some (true,())
 else
  ((Ag4 0) ((a0,(((),()),())))).bind fun r1=>
  some (r1.1,())
def ACk:FSig:=⟨[(Ai,false),(OZ,false)],[.bool],true,(Xe 0)⟩
def R0 (d:List Int×(Unit×Int×Unit)×Unit):Option (Bool×Unit):=(Xe 0) (d.1,d.2.1.2)
def Ah0:FSig:=⟨[(Ai,false),(C5,false)],[.bool],true,R0⟩
def Avs:Ctx:={ tk:=Ac tks,ar:=Ac ars,fs:=Ac [],cs:=Ac [(227,Ah0)] }
abbrev Ou:=Tab×(Unit×Int×Unit)×Int×Int×Unit
abbrev P3:=(Int×Unit)⊕Unit⊕Empty
def Ale:AP:=[(0,.v Ag),(1,.v C5),(7,.v I),(8,.v I)]
def Ans:AJ:=[(.ret,[(4,.v I)]),(.normal,[])]
def KH (N:Nat) (back:Ou->Option P3) (d:Ou):Option P3:=
 let s0:=d.1
 let s1:=d.2.1
 let s7:=d.2.2.1
 let s8:=d.2.2.2.1
 if (decide (s8<s7))=true then
  if (Af s8 (List.length s0))=true then
  (R0 ((at_ Ai s0 s8.toNat,(s1,())))).bind fun r6=>
  if (r6.1)=true then
   some (.inl (s8,()))
  else
   let x7:=IntKind.wrap .i64 (s8+(1:Int))
   back ((s0,(s1,(s7,(x7,())))))
  else none
 else
  some (.inr (.inl ()))
def Sh (N:Nat):Nat->Ou->Option P3
 | 0,_=>none
 | k+1,d=>KH N (Sh N k) d
def WH (N:Nat) (d:Tab×(Unit×Int×Unit)×Unit):Option (Int×Unit):=
 let a0:=d.1
 let a1:=d.2.1
 (Sh N N ((a0,(a1,((List.length a0:Int),((0:Int),())))))).bind fun o3=>match o3 with
 | .inl d4=>
  some (d4.1,())
 | .inr (.inl d5)=>
  some ((-1:Int),())
def Aql:FSig:=⟨[(Ag,false),(C5,false)],[I],true,(GK)⟩
def ADo:Ctx:={ tk:=Ac tks,ar:=Ac ars,fs:=Ac [(232,Aql)] }
def Aiq (N:Nat) (d:Tab×(Unit×Int×Unit)×Unit):Option (Bool×Unit):=
 let a0:=d.1
 let a1:=d.2.1
 (GK ((a0,(a1,())))).bind fun r1=>
 some ((decide (r1.1>=(0:Int)),()))
def Azr:FSig:=⟨[(Ag,false),(C5,false)],[.bool],true,(Aiq 0)⟩
def Axp:Ctx:={ tk:=Ac tks,ar:=Ac ars,fs:=Ac [] }
def VU (N:Nat) (d:Int×Int×Unit):Option (Bool×Unit):=
 let a0:=d.1
 let a1:=d.2.1
 some (decide (a0<a1),())
def Us (d:Int×Int×Unit):Bool×Unit:=
 let a0:=d.1
 let a1:=d.2.1
 (decide (a0<a1),())
theorem Aff (N:Nat) (d):VU N d=some (Us d):=by
 unfold VU Us
 first
  | rfl
  | (dsimp only; (repeat' split)<;>rfl)
def ACp:FSig:=⟨[(I,false),(OZ,false)],[.bool],true,(fun d=>some (Us d))⟩
def VR (d:Int×(Unit×Int×Unit)×Unit):Option (Bool×Unit):=(fun d=>some (Us d)) (d.1,d.2.1.2)
def Aid:FSig:=⟨[(I,false),(E0,false)],[.bool],true,VR⟩
def Avm:Ctx:={ tk:=Ac tks,ar:=Ac ars,fs:=Ac [(179,Tk)],cs:=Ac [(230,Aid)],w1:=inL [99] }
def XF (N:Nat) (d:Int×Int×(List Int×Unit)×Tab×(Unit×Int×Unit)×Unit):Option (Bool×Unit):=
 let a0:=d.1
 let a1:=d.2.1
 let a2:=d.2.2.1
 let a3:=d.2.2.2.1
 let a4:=d.2.2.2.2.1
 if (a0==a1)=true then
  some (true,())
 else
  if (Af a0 (List.length a3))=true then
  (BG ((a2,(at_ Ai a3 a0.toNat,(a1,()))))).bind fun r1=>
  if (decide (r1.1>=(0:Int)))=true then
   (VR ((r1.1,(a4,())))).bind fun r2=>
   some (r2.1,())
  else
   some (false,())
  else none
def ACl:FSig:=⟨[(I,false),(OZ,false),(KX,false),(QT,false),(F5,false)],[.bool],true,(XF 0)⟩
def Sw (d:Int×(Unit×Int×(List Int×Unit)×Tab×(Unit×Int×Unit)×Unit)×Unit):Option (Bool×Unit):=(XF 0) (d.1,d.2.1.2)
def Aij:FSig:=⟨[(I,false),(AB,false)],[.bool],true,Sw⟩
def ACi:Ctx:={ tk:=Ac tks,ar:=Ac ars,fs:=Ac [],cs:=Ac [(255,Aij)] }
abbrev Tp:=List Int×(Unit×Int×(List Int×Unit)×Tab×(Unit×Int×Unit)×Unit)×Int×Int×Unit
abbrev Um:=(Int×Unit)⊕Unit⊕Empty
def Aq2:AP:=[(0,.v Ai),(1,.v AB),(7,.v I),(8,.v I)]
def Asr:AJ:=[(.ret,[(4,.v I)]),(.normal,[])]
def M1 (N:Nat) (back:Tp->Option Um) (d:Tp):Option Um:=
 let s0:=d.1
 let s1:=d.2.1
 let s7:=d.2.2.1
 let s8:=d.2.2.2.1
 if (decide (s8<s7))=true then
  if (Af s8 (List.length s0))=true then
  (Sw ((at_ I s0 s8.toNat,(s1,())))).bind fun r6=>
  if (r6.1)=true then
   some (.inl (s8,()))
  else
   let x7:=IntKind.wrap .i64 (s8+(1:Int))
   back ((s0,(s1,(s7,(x7,())))))
  else none
 else
  some (.inr (.inl ()))
def WA (N:Nat):Nat->Tp->Option Um
 | 0,_=>none
 | k+1,d=>M1 N (WA N k) d
def Ag9 (N:Nat) (d:List Int×(Unit×Int×(List Int×Unit)×Tab×(Unit×Int×Unit)×Unit)×Unit):Option (Int×Unit):=
 let a0:=d.1
 let a1:=d.2.1
 (WA N N ((a0,(a1,((List.length a0:Int),((0:Int),())))))).bind fun o3=>match o3 with
 | .inl d4=>
  some (d4.1,())
 | .inr (.inl d5)=>
  some ((-1:Int),())
def Azt:FSig:=⟨[(Ai,false),(AB,false)],[I],true,(GY)⟩
def AB1:Ctx:={ tk:=Ac tks,ar:=Ac ars,fs:=Ac [(248,Azt)] }
def Aho (N:Nat) (d:List Int×(Unit×Int×(List Int×Unit)×Tab×(Unit×Int×Unit)×Unit)×Unit):Option (Bool×Unit):=
 let a0:=d.1
 let a1:=d.2.1
 (GY ((a0,(a1,())))).bind fun r1=>
 some ((decide (r1.1>=(0:Int)),()))
def Azo:FSig:=⟨[(Ai,false),(AB,false)],[.bool],true,(Aho 0)⟩
def Aw0:Ctx:={ tk:=Ac tks,ar:=Ac ars,fs:=Ac [(127,Dp),(130,Oc),(214,Azo)],cs:=Ac [],fz:=fun t=>Nat.beq t 5||Nat.beq t 6||Nat.beq t 8||Nat.beq t 9 }
def O8 (N:Nat) (d:(List Int×Unit)×Tab×Int×Int×(Unit×Int×Unit)×Unit):Option (Bool×Unit):=
 let a0:=d.1
 let a1:=d.2.1
 let a2:=d.2.2.1
 let a3:=d.2.2.2.1
 let a4:=d.2.2.2.2.1
 ((IS 0) ((a0,(a2,())))).bind fun r1=>
 (D8 (r1.1,())).bind fun r2=>
 ((Aho 0) ((r2.1,(((),(a3,(a0,(a1,(a4,()))))),())))).bind fun r3=>
 some (r3.1,())
def Aux:FSig:=⟨[(AA,false),(Ag,false),(I,false),(I,false),(E0,false)],[.bool],true,(O8 0)⟩
def Avc:Ctx:={ tk:=Ac tks,ar:=Ac ars,fs:=Ac [(167,Azr),(188,Qa),(229,Aux)],cs:=Ac [],fz:=fun t=>Nat.beq t 5||Nat.beq t 12 }
abbrev N6:=(List (List Int×Unit))×List (Tab)×Int×List (Tab)×Int×Int×Unit
abbrev P2:=(Bool×Unit)⊕((List (List Int×Unit))×List (Tab)×Int×Unit)⊕Empty
def Ali:AP:=[(0,.v AU),(1,.v An),(5,.sp I),(23,.v An),(24,.v I),(25,.v I)]
def Ai6:AJ:=[(.ret,[(4,.v .bool)]),(.normal,[(0,.v AU),(1,.v An),(5,.sp I)])]
def KP (N:Nat) (back:N6->Option P2) (d:N6):Option P2:=
 let s0:=d.1
 let s1:=d.2.1
 let s5:=d.2.2.1
 let s23:=d.2.2.2.1
 let s24:=d.2.2.2.2.1
 let s25:=d.2.2.2.2.2.1
 if (decide (s25<s24))=true then
  if (Af s25 (List.length s23))=true then
  if ((List.length (at_ Ag s23 s25.toNat):Int) != s5)=true then
   some (.inl (false,()))
  else
   ((Aiq 0) ((at_ Ag s23 s25.toNat,(((),(s5,())),())))).bind fun r26=>
   if (r26.1)=true then
    some (.inl (false,()))
   else
    let x27:=IntKind.wrap .i64 (s25+(1:Int))
    back ((s0,(s1,(s5,(s23,(s24,(x27,())))))))
  else none
 else
  some (.inr (.inl ((s0,(s1,(s5,()))))))
def R7 (N:Nat):Nat->N6->Option P2
 | 0,_=>none
 | k+1,d=>KP N (R7 N k) d
abbrev NX:=(List (List Int×Unit))×List (Tab)×Int×Int×(List Int×Unit)×Int×(List (List Int×Unit))×Int×Int×Int×Int×List Int×Int×Int×Unit
abbrev QQ:=(Bool×Unit)⊕((List (List Int×Unit))×List (Tab)×Int×Int×(List Int×Unit)×(List (List Int×Unit))×Int×Int×Int×Int×Unit)⊕Empty
def Al1:AP:=[(0,.v AU),(1,.v An),(5,.sp I),(8,.v I),(9,.box AA 0),(10,.v I),(39,.v AU),(40,.v I),(41,.v I),(46,.v I),(47,.v I),(56,.v Ai),(57,.v I),(58,.v I)]
def Ann:AJ:=[(.ret,[(4,.v .bool)]),(.normal,[(0,.v AU),(1,.v An),(5,.sp I),(8,.v I),(9,.box AA 0),(39,.v AU),(40,.v I),(41,.v I),(46,.v I),(47,.v I)])]
def KC (N:Nat) (back:NX->Option QQ) (d:NX):Option QQ:=
 let s0:=d.1
 let s1:=d.2.1
 let s5:=d.2.2.1
 let s8:=d.2.2.2.1
 let s9:=d.2.2.2.2.1
 let s10:=d.2.2.2.2.2.1
 let s39:=d.2.2.2.2.2.2.1
 let s40:=d.2.2.2.2.2.2.2.1
 let s41:=d.2.2.2.2.2.2.2.2.1
 let s46:=d.2.2.2.2.2.2.2.2.2.1
 let s47:=d.2.2.2.2.2.2.2.2.2.2.1
 let s56:=d.2.2.2.2.2.2.2.2.2.2.2.1
 let s57:=d.2.2.2.2.2.2.2.2.2.2.2.2.1
 let s58:=d.2.2.2.2.2.2.2.2.2.2.2.2.2.1
 if (decide (s58<s57))=true then
  if (Af s58 (List.length s56))=true then
  let x56:=IntKind.wrap .i64 (s8+(1:Int))
  if ((List.length s0:Int) != 0)=true then
  let x57:=x56.tmod (List.length s0:Int)
  if (Af x57 (List.length s1))=true then
  if (at_ I s56 s58.toNat==(0:Int))=true then
   if (s10 != s58)=true then
    some (.inl (false,()))
   else
    if (decide (at_ I s56 s58.toNat>(0:Int)))=true then
     ((O8 0) ((s9,(at_ Ag s1 x57.toNat,(s10,(s58,(((),(at_ I s56 s58.toNat,())),()))))))).bind fun r58=>
     if (!r58.1)=true then
      some (.inl (false,()))
     else
      let x59:=IntKind.wrap .i64 (s58+(1:Int))
      back ((s0,(s1,(s5,(s8,(s9,(s10,(s39,(s40,(s41,(s46,(s47,(s56,(s57,(x59,())))))))))))))))
    else
     let x60:=IntKind.wrap .i64 (s58+(1:Int))
     back ((s0,(s1,(s5,(s8,(s9,(s10,(s39,(s40,(s41,(s46,(s47,(s56,(s57,(x60,())))))))))))))))
  else
   if (decide (at_ I s56 s58.toNat>(0:Int)))=true then
    ((O8 0) ((s9,(at_ Ag s1 x57.toNat,(s10,(s58,(((),(at_ I s56 s58.toNat,())),()))))))).bind fun r61=>
    if (!r61.1)=true then
     some (.inl (false,()))
    else
     let x62:=IntKind.wrap .i64 (s58+(1:Int))
     back ((s0,(s1,(s5,(s8,(s9,(s10,(s39,(s40,(s41,(s46,(s47,(s56,(s57,(x62,())))))))))))))))
   else
    let x63:=IntKind.wrap .i64 (s58+(1:Int))
    back ((s0,(s1,(s5,(s8,(s9,(s10,(s39,(s40,(s41,(s46,(s47,(s56,(s57,(x63,())))))))))))))))
  else none
  else none
  else none
 else
  some (.inr (.inl ((s0,(s1,(s5,(s8,(s9,(s39,(s40,(s41,(s46,(s47,())))))))))))))
def Ny (N:Nat):Nat->NX->Option QQ
 | 0,_=>none
 | k+1,d=>KC N (Ny N k) d
abbrev PI:=(List (List Int×Unit))×List (Tab)×Int×Int×(List Int×Unit)×(List (List Int×Unit))×Int×Int×Int×Int×Unit
abbrev PM:=(Bool×Unit)⊕((List (List Int×Unit))×List (Tab)×Int×(List (List Int×Unit))×Int×Int×Unit)⊕Empty
def Akj:AP:=[(0,.v AU),(1,.v An),(5,.sp I),(8,.v I),(9,.box AA 0),(39,.v AU),(40,.v I),(41,.v I),(46,.v I),(47,.v I)]
def Akc:AJ:=[(.ret,[(4,.v .bool)]),(.normal,[(0,.v AU),(1,.v An),(5,.sp I),(39,.v AU),(40,.v I),(41,.v I)])]
def K4 (N:Nat) (back:PI->Option PM) (d:PI):Option PM:=
 let s0:=d.1
 let s1:=d.2.1
 let s5:=d.2.2.1
 let s8:=d.2.2.2.1
 let s9:=d.2.2.2.2.1
 let s39:=d.2.2.2.2.2.1
 let s40:=d.2.2.2.2.2.2.1
 let s41:=d.2.2.2.2.2.2.2.1
 let s46:=d.2.2.2.2.2.2.2.2.1
 let s47:=d.2.2.2.2.2.2.2.2.2.1
 if (decide (s47<s46))=true then
  if (Af s8 (List.length s1))=true then
  if (Af s47 (List.length (at_ Ag s1 s8.toNat)))=true then
  (Ny N N ((s0,(s1,(s5,(s8,(s9,(s47,(s39,(s40,(s41,(s46,(s47,(at_ Ai (at_ Ag s1 s8.toNat) s47.toNat,((List.length (at_ Ai (at_ Ag s1 s8.toNat) s47.toNat):Int),((0:Int),())))))))))))))))).bind fun o52=>match o52 with
  | .inl d53=>
   some (.inl (d53.1,()))
  | .inr (.inl d54)=>
   let x55:=IntKind.wrap .i64 (d54.2.2.2.2.2.2.2.2.2.1+(1:Int))
   back ((d54.1,(d54.2.1,(d54.2.2.1,(d54.2.2.2.1,(d54.2.2.2.2.1,(d54.2.2.2.2.2.1,(d54.2.2.2.2.2.2.1,(d54.2.2.2.2.2.2.2.1,(d54.2.2.2.2.2.2.2.2.1,(x55,())))))))))))
  else none
  else none
 else
  some (.inr (.inl ((s0,(s1,(s5,(s39,(s40,(s41,())))))))))
def M4 (N:Nat):Nat->PI->Option PM
 | 0,_=>none
 | k+1,d=>K4 N (M4 N k) d
abbrev Qh:=(List (List Int×Unit))×List (Tab)×Int×(List (List Int×Unit))×Int×Int×Unit
abbrev OL:=(Bool×Unit)⊕Unit⊕Empty
def Ai3:AP:=[(0,.v AU),(1,.v An),(5,.sp I),(39,.v AU),(40,.v I),(41,.v I)]
def Alt:AJ:=[(.ret,[(4,.v .bool)]),(.normal,[])]
def KB (N:Nat) (back:Qh->Option OL) (d:Qh):Option OL:=
 let s0:=d.1
 let s1:=d.2.1
 let s5:=d.2.2.1
 let s39:=d.2.2.2.1
 let s40:=d.2.2.2.2.1
 let s41:=d.2.2.2.2.2.1
 if (decide (s41<s40))=true then
  if (Af s41 (List.length s39))=true then
  (M4 N N ((s0,(s1,(s5,(s41,(at_ AA s39 s41.toNat,(s39,(s40,(s41,(s5,((0:Int),())))))))))))).bind fun o40=>match o40 with
  | .inl d41=>
   some (.inl (d41.1,()))
  | .inr (.inl d42)=>
   let x43:=IntKind.wrap .i64 (d42.2.2.2.2.2.1+(1:Int))
   back ((d42.1,(d42.2.1,(d42.2.2.1,(d42.2.2.2.1,(d42.2.2.2.2.1,(x43,())))))))
  else none
 else
  some (.inr (.inl ()))
def M7 (N:Nat):Nat->Qh->Option OL
 | 0,_=>none
 | k+1,d=>KB N (M7 N k) d
def VQ (N:Nat) (d:(List (List Int×Unit))×List (Tab)×Unit):Option (Bool×Unit):=
 let a0:=d.1
 let a1:=d.2.1
 if (Af (0:Int) (List.length a0))=true then
 let r1:=E8 (at_ AA a0 (0:Int).toNat,())
 if ((List.length a1:Int) != (List.length a0:Int))=true then
  some (false,())
 else
  (R7 N N ((a0,(a1,(r1.1,(a1,((List.length a1:Int),((0:Int),())))))))).bind fun o4=>match o4 with
  | .inl d5=>
   some (d5.1,())
  | .inr (.inl d6)=>
   (M7 N N ((d6.1,(d6.2.1,(d6.2.2.1,(d6.1,((List.length d6.1:Int),((0:Int),())))))))).bind fun o23=>match o23 with
   | .inl d24=>
    some (d24.1,())
   | .inr (.inl d25)=>
    some (true,())
 else none
def Atx:FSig:=⟨[(AU,false),(An,false)],[.bool],true,(DY)⟩
def Ax9:Ctx:={ tk:=Ac tks,ar:=Ac ars,fs:=Ac [(76,L8),(161,Atx),(162,Pv)] }
def PZ (N:Nat) (d:(Gr×Int×Tab×Unit)×List (Tab)×Unit):Option (Bool×Bool×Unit):=
 let a0:=d.1
 let a1:=d.2.1
 ((Hk 0) (a0,())).bind fun r1=>
 if (!r1.1)=true then
  some ((false,(false,())))
 else
  (Co (a0,())).bind fun r2=>
  (DY ((r2.1,(a1,())))).bind fun r3=>
  some ((r3.1,(true,())))
def Atb:FSig:=⟨[(Ae,false),(An,false)],[.bool,.bool],true,(PZ 0)⟩
def Aqe:Ctx:={ tk:=Ac tks,ar:=Ac ars,fs:=Ac [] }
abbrev Mc:=List (Tab)×(Gr×Int×Tab×Unit)×Int×Int×Int×Unit
abbrev Mb:=(Bool×Unit)⊕(List (Tab)×(Gr×Int×Tab×Unit)×Int×Int×Unit)⊕Empty
def Agm:AP:=[(1,.v An),(2,.box Ae 0),(5,.v I),(6,.v I),(7,.v I)]
def Acd:AJ:=[(.ret,[(4,.v .bool)]),(.normal,[(1,.v An),(2,.box Ae 0),(5,.v I),(6,.v I)])]
def Jd (N:Nat) (back:Mc->Option Mb) (d:Mc):Option Mb:=
 let s1:=d.1
 let s2:=d.2.1
 let s5:=d.2.2.1
 let s6:=d.2.2.2.1
 let s7:=d.2.2.2.2.1
 if (Af s5 (List.length s1))=true then
 if (Af s6 (List.length (at_ Ag s1 s5.toNat)))=true then
 if (decide (s7<(List.length (at_ Ai (at_ Ag s1 s5.toNat) s6.toNat):Int)))=true then
  if (Af s5 (List.length s1))=true then
  if (Af s6 (List.length (at_ Ag s1 s5.toNat)))=true then
  if (Af s7 (List.length (at_ Ai (at_ Ag s1 s5.toNat) s6.toNat)))=true then
  if (decide (at_ I (at_ Ai (at_ Ag s1 s5.toNat) s6.toNat) s7.toNat<(-1:Int)))=true then
   some (.inl (false,()))
  else
   let x27:=IntKind.wrap .i64 (s7+(1:Int))
   back ((s1,(s2,(s5,(s6,(x27,()))))))
  else none
  else none
  else none
 else
  some (.inr (.inl ((s1,(s2,(s5,(s6,())))))))
 else none
 else none
def JV (N:Nat):Nat->Mc->Option Mb
 | 0,_=>none
 | k+1,d=>Jd N (JV N k) d
abbrev Mj:=List (Tab)×(Gr×Int×Tab×Unit)×Int×Int×Unit
abbrev MF:=(Bool×Unit)⊕(List (Tab)×(Gr×Int×Tab×Unit)×Int×Unit)⊕Empty
def Abv:AP:=[(1,.v An),(2,.box Ae 0),(5,.v I),(6,.v I)]
def Aeo:AJ:=[(.ret,[(4,.v .bool)]),(.normal,[(1,.v An),(2,.box Ae 0),(5,.v I)])]
def IY (N:Nat) (back:Mj->Option MF) (d:Mj):Option MF:=
 let s1:=d.1
 let s2:=d.2.1
 let s5:=d.2.2.1
 let s6:=d.2.2.2.1
 if (Af s5 (List.length s1))=true then
 if (decide (s6<(List.length (at_ Ag s1 s5.toNat):Int)))=true then
  if (Af s5 (List.length s1))=true then
  if (Af s6 (List.length (at_ Ag s1 s5.toNat)))=true then
  if ((List.length (at_ Ai (at_ Ag s1 s5.toNat) s6.toNat):Int) != s2.1.1)=true then
   some (.inl (false,()))
  else
   (JV N N ((s1,(s2,(s5,(s6,((0:Int),()))))))).bind fun o23=>match o23 with
   | .inl d24=>
    some (.inl (d24.1,()))
   | .inr (.inl d25)=>
    let x26:=IntKind.wrap .i64 (d25.2.2.2.1+(1:Int))
    back ((d25.1,(d25.2.1,(d25.2.2.1,(x26,())))))
  else none
  else none
 else
  some (.inr (.inl ((s1,(s2,(s5,()))))))
 else none
def Ku (N:Nat):Nat->Mj->Option MF
 | 0,_=>none
 | k+1,d=>IY N (Ku N k) d
abbrev L7:=List (Tab)×(Gr×Int×Tab×Unit)×Int×Unit
abbrev My:=(Bool×Unit)⊕(List (Tab)×(Gr×Int×Tab×Unit)×Unit)⊕Empty
def Aax:AP:=[(1,.v An),(2,.box Ae 0),(5,.v I)]
def Af9:AJ:=[(.ret,[(4,.v .bool)]),(.normal,[(1,.v An),(2,.box Ae 0)])]
def IR (N:Nat) (back:L7->Option My) (d:L7):Option My:=
 let s1:=d.1
 let s2:=d.2.1
 let s5:=d.2.2.1
 if (decide (s5<(List.length s1:Int)))=true then
  if (Af s5 (List.length s1))=true then
  if ((List.length (at_ Ag s1 s5.toNat):Int) != s2.1.1)=true then
   some (.inl (false,()))
  else
   (Ku N N ((s1,(s2,(s5,((0:Int),())))))).bind fun o18=>match o18 with
   | .inl d19=>
    some (.inl (d19.1,()))
   | .inr (.inl d20)=>
    let x21:=IntKind.wrap .i64 (d20.2.2.1+(1:Int))
    back ((d20.1,(d20.2.1,(x21,()))))
  else none
 else
  some (.inr (.inl ((s1,(s2,())))))
def MX (N:Nat):Nat->L7->Option My
 | 0,_=>none
 | k+1,d=>IR N (MX N k) d
def Su (N:Nat) (d:(Gr×Int×Tab×Unit)×List (Tab)×Unit):Option (Bool×Unit):=
 let a0:=d.1
 let a1:=d.2.1
 (MX N N ((a1,(a0,((0:Int),()))))).bind fun o10=>match o10 with
 | .inl d11=>
  some (d11.1,())
 | .inr (.inl d12)=>
  some ((List.length d12.1:Int)==d12.2.1.2.1,())
def Ahe:FSig:=⟨[(Ae,false),(An,false)],[.bool],true,(Iq)⟩
def Axu:Ctx:={ tk:=Ac tks,ar:=Ac ars,fs:=Ac [(148,Df),(180,Xf)] }
abbrev Ol:=List (Tab)×List (Tab)×Int×Int×Int×Int×Int×Unit
abbrev PH:=(Bool×Unit)⊕Unit⊕Empty
def Amw:AP:=[(0,.v An),(1,.v An),(2,.v I),(3,.v I),(4,.v I),(11,.v I),(12,.v I)]
def Aji:AJ:=[(.ret,[(10,.v .bool)]),(.normal,[])]
def Lm (N:Nat) (back:Ol->Option PH) (d:Ol):Option PH:=
 let s0:=d.1
 let s1:=d.2.1
 let s2:=d.2.2.1
 let s3:=d.2.2.2.1
 let s4:=d.2.2.2.2.1
 let s11:=d.2.2.2.2.2.1
 let s12:=d.2.2.2.2.2.2.1
 if (Af s2 (List.length s0))=true then
 if (Af s3 (List.length (at_ Ag s0 s2.toNat)))=true then
 if (decide (s12<(List.length (at_ Ai (at_ Ag s0 s2.toNat) s3.toNat):Int)))=true then
  if (Af s2 (List.length s0))=true then
  if (Af s3 (List.length (at_ Ag s0 s2.toNat)))=true then
  if (Af s12 (List.length (at_ Ai (at_ Ag s0 s2.toNat) s3.toNat)))=true then
  (CU ((s0,(s1,(s2,(at_ I (at_ Ai (at_ Ag s0 s2.toNat) s3.toNat) s12.toNat,(s4,()))))))).bind fun r8=>
  let x9:=IntKind.wrap .i64 (s11-(1:Int))
  let r10:=Bl ((r8.1,((0:Int),(x9,()))))
  if (r10.1)=true then
   some (.inl (true,()))
  else
   let x11:=IntKind.wrap .i64 (s12+(1:Int))
   back ((s0,(s1,(s2,(s3,(s4,(s11,(x11,()))))))))
  else none
  else none
  else none
 else
  some (.inr (.inl ()))
 else none
 else none
def R5 (N:Nat):Nat->Ol->Option PH
 | 0,_=>none
 | k+1,d=>Lm N (R5 N k) d
def VG (N:Nat) (d:List (Tab)×List (Tab)×Int×Int×Int×Unit):Option (Bool×Unit):=
 let a0:=d.1
 let a1:=d.2.1
 let a2:=d.2.2.1
 let a3:=d.2.2.2.1
 let a4:=d.2.2.2.2.1
 if (Af a2 (List.length a1))=true then
 if (Af a3 (List.length (at_ Ag a1 a2.toNat)))=true then
 if (Af a4 (List.length (at_ Ai (at_ Ag a1 a2.toNat) a3.toNat)))=true then
 if (decide (at_ I (at_ Ai (at_ Ag a1 a2.toNat) a3.toNat) a4.toNat<=(0:Int)))=true then
  if (decide (at_ I (at_ Ai (at_ Ag a1 a2.toNat) a3.toNat) a4.toNat<(0:Int)))=true then
   some (true,())
  else
   some (a3==a4,())
 else
  (R5 N N ((a0,(a1,(a2,(a3,(a4,(at_ I (at_ Ai (at_ Ag a1 a2.toNat) a3.toNat) a4.toNat,((0:Int),()))))))))).bind fun o5=>match o5 with
  | .inl d6=>
   some (d6.1,())
  | .inr (.inl d7)=>
   some (false,())
 else none
 else none
 else none
def Apu:FSig:=⟨[(An,false),(An,false),(I,false),(I,false),(I,false)],[.bool],true,(EC)⟩
def Ax1:Ctx:={ tk:=Ac tks,ar:=Ac ars,fs:=Ac [(163,Tn),(164,Ahe),(165,Xr),(166,Apu)] }
abbrev PR:=List (Tab)×List (Tab)×Int×Int×Int×Unit
abbrev OD:=(Bool×Bool×Unit)⊕(List (Tab)×List (Tab)×Int×Int×Unit)⊕Empty
def Alo:AP:=[(1,.v An),(6,.own An 99),(7,.v I),(8,.v I),(9,.v I)]
def Ajt:AJ:=[(.ret,[(4,.v .bool),(5,.v .bool)]),(.normal,[(1,.v An),(6,.own An 99),(7,.v I),(8,.v I)])]
def K2 (N:Nat) (back:PR->Option OD) (d:PR):Option OD:=
 let s1:=d.1
 let s6:=d.2.1
 let s7:=d.2.2.1
 let s8:=d.2.2.2.1
 let s9:=d.2.2.2.2.1
 if (Af s7 (List.length s1))=true then
 if (Af s8 (List.length (at_ Ag s1 s7.toNat)))=true then
 if (decide (s9<(List.length (at_ Ai (at_ Ag s1 s7.toNat) s8.toNat):Int)))=true then
  (EC ((s6,(s1,(s7,(s8,(s9,()))))))).bind fun r33=>
  if (!r33.1)=true then
   some (.inl ((false,(true,()))))
  else
   let x34:=IntKind.wrap .i64 (s9+(1:Int))
   back ((s1,(s6,(s7,(s8,(x34,()))))))
 else
  some (.inr (.inl ((s1,(s6,(s7,(s8,())))))))
 else none
 else none
def MV (N:Nat):Nat->PR->Option OD
 | 0,_=>none
 | k+1,d=>K2 N (MV N k) d
abbrev NW:=List (Tab)×List (Tab)×Int×Int×Unit
abbrev On:=(Bool×Bool×Unit)⊕(List (Tab)×List (Tab)×Int×Unit)⊕Empty
def Amp:AP:=[(1,.v An),(6,.own An 99),(7,.v I),(8,.v I)]
def Ajz:AJ:=[(.ret,[(4,.v .bool),(5,.v .bool)]),(.normal,[(1,.v An),(6,.own An 99),(7,.v I)])]
def Lb (N:Nat) (back:NW->Option On) (d:NW):Option On:=
 let s1:=d.1
 let s6:=d.2.1
 let s7:=d.2.2.1
 let s8:=d.2.2.2.1
 if (Af s7 (List.length s1))=true then
 if (decide (s8<(List.length (at_ Ag s1 s7.toNat):Int)))=true then
  (MV N N ((s1,(s6,(s7,(s8,((0:Int),()))))))).bind fun o29=>match o29 with
  | .inl d30=>
   some (.inl ((d30.1,(d30.2.1,()))))
  | .inr (.inl d31)=>
   let x32:=IntKind.wrap .i64 (d31.2.2.2.1+(1:Int))
   back ((d31.1,(d31.2.1,(d31.2.2.1,(x32,())))))
 else
  some (.inr (.inl ((s1,(s6,(s7,()))))))
 else none
def ND (N:Nat):Nat->NW->Option On
 | 0,_=>none
 | k+1,d=>Lb N (ND N k) d
abbrev Ow:=List (Tab)×List (Tab)×Int×Unit
abbrev PD:=(Bool×Bool×Unit)⊕Unit⊕Empty
def Ak9:AP:=[(1,.v An),(6,.own An 99),(7,.v I)]
def Ant:AJ:=[(.ret,[(4,.v .bool),(5,.v .bool)]),(.normal,[])]
def LB (N:Nat) (back:Ow->Option PD) (d:Ow):Option PD:=
 let s1:=d.1
 let s6:=d.2.1
 let s7:=d.2.2.1
 if (decide (s7<(List.length s1:Int)))=true then
  (ND N N ((s1,(s6,(s7,((0:Int),())))))).bind fun o23=>match o23 with
  | .inl d24=>
   some (.inl ((d24.1,(d24.2.1,()))))
  | .inr (.inl d25)=>
   let x26:=IntKind.wrap .i64 (d25.2.2.1+(1:Int))
   back ((d25.1,(d25.2.1,(x26,()))))
 else
  some (.inr (.inl ()))
def RT (N:Nat):Nat->Ow->Option PD
 | 0,_=>none
 | k+1,d=>LB N (RT N k) d
def WN (N:Nat) (d:(Gr×Int×Tab×Unit)×List (Tab)×Unit):Option (Bool×Bool×Unit):=
 let a0:=d.1
 let a1:=d.2.1
 (C7 (a0,())).bind fun r1=>
 if (!r1.1)=true then
  some ((false,(false,())))
 else
  (Iq ((a0,(a1,())))).bind fun r2=>
  if (!r2.1)=true then
   some ((false,(true,())))
  else
   (Dg (a0,())).bind fun r3=>
   (RT N N ((a1,(r3.1,((0:Int),()))))).bind fun o14=>match o14 with
   | .inl d15=>
    some ((d15.1,(d15.2.1,())))
   | .inr (.inl d16)=>
    some ((true,(true,())))
def Arw:FSig:=⟨[(Ae,false),(An,false)],[.bool,.bool],true,(D5)⟩
def Ad9:FSig:=⟨[(Ai,false),(I,false)],[Ai],true,DP⟩
def Awl:Ctx:={ tk:=Ac tks,ar:=Ac ars,fs:=Ac [] }
def W5 (N:Nat) (d:Int×Unit):Option (Bool×Unit):=
 let a0:=d.1
 some (true,())
def Tq (d:Int×Unit):Bool×Unit:=
 let a0:=d.1
 (true,())
theorem Ad5 (N:Nat) (d):W5 N d=some (Tq d):=by
 unfold W5 Tq
 first
  | rfl
  | (dsimp only; (repeat' split)<;>rfl)
def AB2:FSig:=⟨[(I,false)],[.bool],true,(fun d=>some (Tq d))⟩
def WQ (d:Int×(Unit×Unit)×Unit):Option (Bool×Unit):=(fun d=>some (Tq d)) (d.1,d.2.1.2)
def Ah1:FSig:=⟨[(I,false),(Hh,false)],[.bool],true,WQ⟩
def Aym:Ctx:={ tk:=Ac tks,ar:=Ac ars,fs:=Ac [(179,Tk)],cs:=Ac [(233,Ah1)],w1:=inL [99] }
def W3 (N:Nat) (d:Int×Int×(List Int×Unit)×Tab×(Unit×Unit)×Unit):Option (Bool×Unit):=
 let a0:=d.1
 let a1:=d.2.1
 let a2:=d.2.2.1
 let a3:=d.2.2.2.1
 let a4:=d.2.2.2.2.1
 if (a0==a1)=true then
  some (true,())
 else
  if (Af a0 (List.length a3))=true then
  (BG ((a2,(at_ Ai a3 a0.toNat,(a1,()))))).bind fun r1=>
  if (decide (r1.1>=(0:Int)))=true then
   (WQ ((r1.1,(a4,())))).bind fun r2=>
   some (r2.1,())
  else
   some (false,())
  else none
def ABj:FSig:=⟨[(I,false),(OZ,false),(KX,false),(QT,false),(I4,false)],[.bool],true,(W3 0)⟩
def RU (d:Int×(Unit×Int×(List Int×Unit)×Tab×(Unit×Unit)×Unit)×Unit):Option (Bool×Unit):=(W3 0) (d.1,d.2.1.2)
def Ahf:FSig:=⟨[(I,false),(AC,false)],[.bool],true,RU⟩
def AC6:Ctx:={ tk:=Ac tks,ar:=Ac ars,fs:=Ac [],cs:=Ac [(255,Ahf)] }
abbrev Ty:=List Int×(Unit×Int×(List Int×Unit)×Tab×(Unit×Unit)×Unit)×Int×Int×Unit
abbrev Tm:=(Int×Unit)⊕Unit⊕Empty
def Aqq:AP:=[(0,.v Ai),(1,.v AC),(7,.v I),(8,.v I)]
def Aq3:AJ:=[(.ret,[(4,.v I)]),(.normal,[])]
def Nq (N:Nat) (back:Ty->Option Tm) (d:Ty):Option Tm:=
 let s0:=d.1
 let s1:=d.2.1
 let s7:=d.2.2.1
 let s8:=d.2.2.2.1
 if (decide (s8<s7))=true then
  if (Af s8 (List.length s0))=true then
  (RU ((at_ I s0 s8.toNat,(s1,())))).bind fun r6=>
  if (r6.1)=true then
   some (.inl (s8,()))
  else
   let x7:=IntKind.wrap .i64 (s8+(1:Int))
   back ((s0,(s1,(s7,(x7,())))))
  else none
 else
  some (.inr (.inl ()))
def XL (N:Nat):Nat->Ty->Option Tm
 | 0,_=>none
 | k+1,d=>Nq N (XL N k) d
def Ah2 (N:Nat) (d:List Int×(Unit×Int×(List Int×Unit)×Tab×(Unit×Unit)×Unit)×Unit):Option (Int×Unit):=
 let a0:=d.1
 let a1:=d.2.1
 (XL N N ((a0,(a1,((List.length a0:Int),((0:Int),())))))).bind fun o3=>match o3 with
 | .inl d4=>
  some (d4.1,())
 | .inr (.inl d5)=>
  some ((-1:Int),())
def Azq:FSig:=⟨[(Ai,false),(AC,false)],[I],true,(HZ)⟩
def AB7:Ctx:={ tk:=Ac tks,ar:=Ac ars,fs:=Ac [(248,Azq)] }
def Aht (N:Nat) (d:List Int×(Unit×Int×(List Int×Unit)×Tab×(Unit×Unit)×Unit)×Unit):Option (Bool×Unit):=
 let a0:=d.1
 let a1:=d.2.1
 (HZ ((a0,(a1,())))).bind fun r1=>
 some ((decide (r1.1>=(0:Int)),()))
def Azz:FSig:=⟨[(Ai,false),(AC,false)],[.bool],true,(Aht 0)⟩
def Au9:Ctx:={ tk:=Ac tks,ar:=Ac ars,fs:=Ac [(127,Dp),(130,Oc),(214,Azz)],cs:=Ac [],fz:=fun t=>Nat.beq t 5||Nat.beq t 6||Nat.beq t 8||Nat.beq t 9 }
def TB (N:Nat) (d:(List Int×Unit)×Tab×Int×Int×(Unit×Unit)×Unit):Option (Bool×Unit):=
 let a0:=d.1
 let a1:=d.2.1
 let a2:=d.2.2.1
 let a3:=d.2.2.2.1
 let a4:=d.2.2.2.2.1
 ((IS 0) ((a0,(a2,())))).bind fun r1=>
 (D8 (r1.1,())).bind fun r2=>
 ((Aht 0) ((r2.1,(((),(a3,(a0,(a1,(a4,()))))),())))).bind fun r3=>
 some (r3.1,())
def Aqr:FSig:=⟨[(AA,false),(Ag,false),(I,false),(I,false),(Hh,false)],[.bool],true,(TB 0)⟩
def Axh:Ctx:={ tk:=Ac tks,ar:=Ac ars,fs:=Ac [(188,Qa),(191,Ad9),(229,Aqr)] }
abbrev Qj:=(List (List Int×Unit))×Int×List (Tab)×Int×Int×Int×Int×Int×Unit
abbrev Ov:=((List (List Int×Unit))×Int×List (Tab)×Int×Int×Unit)⊕Empty
def Ak1:AP:=[(0,.v AU),(3,.v I),(4,.own An 99),(5,.v I),(25,.v I),(26,.v I),(29,.v I),(30,.v I)]
def Akq:AJ:=[(.normal,[(0,.v AU),(3,.v I),(4,.own An 99),(25,.v I),(26,.v I)])]
def K3 (N:Nat) (back:Qj->Option Ov) (d:Qj):Option Ov:=
 let s0:=d.1
 let s3:=d.2.1
 let s4:=d.2.2.1
 let s5:=d.2.2.2.1
 let s25:=d.2.2.2.2.1
 let s26:=d.2.2.2.2.2.1
 let s29:=d.2.2.2.2.2.2.1
 let s30:=d.2.2.2.2.2.2.2.1
 if (decide (s30<s29))=true then
  (DP (([(-1:Int)],(s3,())))).bind fun r41=>
  if (Af s30 (List.length r41.1))=true then
  let x42:=List.set r41.1 s30.toNat (0:Int)
  if (Af s5 (List.length s4))=true then
  if (decide (List.length (at_ Ag s4 s5.toNat)+List.length ([x42])<=lim))=true then
  let x43:=(at_ Ag s4 s5.toNat)++([x42])
  if (Af s5 (List.length s4))=true then
  if (((Nat.beq s5.toNat s5.toNat)&&true))=true then
  let x44:=IntKind.wrap .i64 (s30+(1:Int))
  back ((s0,(s3,(List.set s4 s5.toNat x43,(s5,(s25,(s26,(s29,(x44,())))))))))
  else none
  else none
  else none
  else none
  else none
 else
  some (.inl ((s0,(s3,(s4,(s25,(s26,())))))))
def M6 (N:Nat):Nat->Qj->Option Ov
 | 0,_=>none
 | k+1,d=>K3 N (M6 N k) d
abbrev NS:=(List (List Int×Unit))×Int×List (Tab)×Int×Int×Unit
abbrev Oz:=((List (List Int×Unit))×Int×List (Tab)×Unit)⊕Empty
def Akh:AP:=[(0,.v AU),(3,.v I),(4,.own An 99),(25,.v I),(26,.v I)]
def Alq:AJ:=[(.normal,[(0,.v AU),(3,.v I),(4,.own An 99)])]
def Ld (N:Nat) (back:NS->Option Oz) (d:NS):Option Oz:=
 let s0:=d.1
 let s3:=d.2.1
 let s4:=d.2.2.1
 let s25:=d.2.2.2.1
 let s26:=d.2.2.2.2.1
 if (decide (s26<s25))=true then
  (M6 N N ((s0,(s3,(s4,(s26,(s25,(s26,(s3,((0:Int),())))))))))).bind fun o38=>match o38 with
  | .inl d39=>
   let x40:=IntKind.wrap .i64 (d39.2.2.2.2.1+(1:Int))
   back ((d39.1,(d39.2.1,(d39.2.2.1,(d39.2.2.2.1,(x40,()))))))
 else
  some (.inl ((s0,(s3,(s4,())))))
def NJ (N:Nat):Nat->NS->Option Oz
 | 0,_=>none
 | k+1,d=>Ld N (NJ N k) d
abbrev MK:=(List (List Int×Unit))×Int×List (Tab)×Int×Bool×(List (Int×Int×Int×Unit))×Int×(List Int×Unit)×Int×(List (List Int×Unit))×Int×Int×Int×Int×Int×Int×Unit
abbrev L9:=((List (List Int×Unit))×Int×List (Tab)×Int×Bool×(List (Int×Int×Int×Unit))×Int×(List Int×Unit)×(List (List Int×Unit))×Int×Int×Int×Int×Unit)⊕Empty
def Abq:AP:=[(0,.v AU),(3,.v I),(4,.own An 99),(8,.v I),(9,.v .bool),(10,.own FL 99),(11,.v I),(12,.box AA 0),(13,.v I),(54,.v AU),(55,.v I),(56,.v I),(61,.v I),(62,.v I),(65,.v I),(66,.v I)]
def Ac9:AJ:=[(.normal,[(0,.v AU),(3,.v I),(4,.own An 99),(8,.v I),(9,.v .bool),(10,.own FL 99),(11,.v I),(12,.box AA 0),(54,.v AU),(55,.v I),(56,.v I),(61,.v I),(62,.v I)])]
def I5 (N:Nat) (back:MK->Option L9) (d:MK):Option L9:=
 let s0:=d.1
 let s3:=d.2.1
 let s4:=d.2.2.1
 let s8:=d.2.2.2.1
 let s9:=d.2.2.2.2.1
 let s10:=d.2.2.2.2.2.1
 let s11:=d.2.2.2.2.2.2.1
 let s12:=d.2.2.2.2.2.2.2.1
 let s13:=d.2.2.2.2.2.2.2.2.1
 let s54:=d.2.2.2.2.2.2.2.2.2.1
 let s55:=d.2.2.2.2.2.2.2.2.2.2.1
 let s56:=d.2.2.2.2.2.2.2.2.2.2.2.1
 let s61:=d.2.2.2.2.2.2.2.2.2.2.2.2.1
 let s62:=d.2.2.2.2.2.2.2.2.2.2.2.2.2.1
 let s65:=d.2.2.2.2.2.2.2.2.2.2.2.2.2.2.1
 let s66:=d.2.2.2.2.2.2.2.2.2.2.2.2.2.2.2.1
 if (decide (s66<s65))=true then
  if (Af s11 (List.length s4))=true then
  if (Af s13 (List.length (at_ Ag s4 s11.toNat)))=true then
  if (Af s66 (List.length (at_ Ai (at_ Ag s4 s11.toNat) s13.toNat)))=true then
  if (decide (at_ I (at_ Ai (at_ Ag s4 s11.toNat) s13.toNat) s66.toNat<(0:Int)))=true then
   let x88:=IntKind.wrap .i64 (s11+(1:Int))
   if ((List.length s0:Int) != 0)=true then
   let x89:=x88.tmod (List.length s0:Int)
   if (Af x89 (List.length s4))=true then
   ((TB 0) ((s12,(at_ Ag s4 x89.toNat,(s13,(s66,(((),()),()))))))).bind fun r90=>
   if (r90.1)=true then
    if (decide (List.length s10+List.length ([(s11,(s13,(s66,())))])<=lim))=true then
    let x91:=s10++([(s11,(s13,(s66,())))])
    let x92:=IntKind.wrap .i64 (s66+(1:Int))
    back ((s0,(s3,(s4,(s8,(s9,(x91,(s11,(s12,(s13,(s54,(s55,(s56,(s61,(s62,(s65,(x92,())))))))))))))))))
    else none
   else
    let x93:=IntKind.wrap .i64 (s66+(1:Int))
    back ((s0,(s3,(s4,(s8,(s9,(s10,(s11,(s12,(s13,(s54,(s55,(s56,(s61,(s62,(s65,(x93,())))))))))))))))))
   else none
   else none
  else
   let x94:=IntKind.wrap .i64 (s66+(1:Int))
   back ((s0,(s3,(s4,(s8,(s9,(s10,(s11,(s12,(s13,(s54,(s55,(s56,(s61,(s62,(s65,(x94,())))))))))))))))))
  else none
  else none
  else none
 else
  some (.inl ((s0,(s3,(s4,(s8,(s9,(s10,(s11,(s12,(s54,(s55,(s56,(s61,(s62,())))))))))))))))
def JO (N:Nat):Nat->MK->Option L9
 | 0,_=>none
 | k+1,d=>I5 N (JO N k) d
abbrev PW:=(List (List Int×Unit))×Int×List (Tab)×Int×Bool×(List (Int×Int×Int×Unit))×Int×(List Int×Unit)×(List (List Int×Unit))×Int×Int×Int×Int×Unit
abbrev PA:=((List (List Int×Unit))×Int×List (Tab)×Int×Bool×(List (Int×Int×Int×Unit))×(List (List Int×Unit))×Int×Int×Unit)⊕Empty
def Ao9:AP:=[(0,.v AU),(3,.v I),(4,.own An 99),(8,.v I),(9,.v .bool),(10,.own FL 99),(11,.v I),(12,.box AA 0),(54,.v AU),(55,.v I),(56,.v I),(61,.v I),(62,.v I)]
def Al9:AJ:=[(.normal,[(0,.v AU),(3,.v I),(4,.own An 99),(8,.v I),(9,.v .bool),(10,.own FL 99),(54,.v AU),(55,.v I),(56,.v I)])]
def LA (N:Nat) (back:PW->Option PA) (d:PW):Option PA:=
 let s0:=d.1
 let s3:=d.2.1
 let s4:=d.2.2.1
 let s8:=d.2.2.2.1
 let s9:=d.2.2.2.2.1
 let s10:=d.2.2.2.2.2.1
 let s11:=d.2.2.2.2.2.2.1
 let s12:=d.2.2.2.2.2.2.2.1
 let s54:=d.2.2.2.2.2.2.2.2.1
 let s55:=d.2.2.2.2.2.2.2.2.2.1
 let s56:=d.2.2.2.2.2.2.2.2.2.2.1
 let s61:=d.2.2.2.2.2.2.2.2.2.2.2.1
 let s62:=d.2.2.2.2.2.2.2.2.2.2.2.2.1
 if (decide (s62<s61))=true then
  (JO N N ((s0,(s3,(s4,(s8,(s9,(s10,(s11,(s12,(s62,(s54,(s55,(s56,(s61,(s62,(s3,((0:Int),())))))))))))))))))).bind fun o85=>match o85 with
  | .inl d86=>
   let x87:=IntKind.wrap .i64 (d86.2.2.2.2.2.2.2.2.2.2.2.2.1+(1:Int))
   back ((d86.1,(d86.2.1,(d86.2.2.1,(d86.2.2.2.1,(d86.2.2.2.2.1,(d86.2.2.2.2.2.1,(d86.2.2.2.2.2.2.1,(d86.2.2.2.2.2.2.2.1,(d86.2.2.2.2.2.2.2.2.1,(d86.2.2.2.2.2.2.2.2.2.1,(d86.2.2.2.2.2.2.2.2.2.2.1,(d86.2.2.2.2.2.2.2.2.2.2.2.1,(x87,()))))))))))))))
 else
  some (.inl ((s0,(s3,(s4,(s8,(s9,(s10,(s54,(s55,(s56,())))))))))))
def NN (N:Nat):Nat->PW->Option PA
 | 0,_=>none
 | k+1,d=>LA N (NN N k) d
abbrev Pe:=(List (List Int×Unit))×Int×List (Tab)×Int×Bool×(List (Int×Int×Int×Unit))×(List (List Int×Unit))×Int×Int×Unit
abbrev Oq:=((List (List Int×Unit))×Int×List (Tab)×Int×Bool×(List (Int×Int×Int×Unit))×Unit)⊕Empty
def Anq:AP:=[(0,.v AU),(3,.v I),(4,.own An 99),(8,.v I),(9,.v .bool),(10,.own FL 99),(54,.v AU),(55,.v I),(56,.v I)]
def Anm:AJ:=[(.normal,[(0,.v AU),(3,.v I),(4,.own An 99),(8,.v I),(9,.v .bool),(10,.own FL 99)])]
def Ll (N:Nat) (back:Pe->Option Oq) (d:Pe):Option Oq:=
 let s0:=d.1
 let s3:=d.2.1
 let s4:=d.2.2.1
 let s8:=d.2.2.2.1
 let s9:=d.2.2.2.2.1
 let s10:=d.2.2.2.2.2.1
 let s54:=d.2.2.2.2.2.2.1
 let s55:=d.2.2.2.2.2.2.2.1
 let s56:=d.2.2.2.2.2.2.2.2.1
 if (decide (s56<s55))=true then
  if (Af s56 (List.length s54))=true then
  (NN N N ((s0,(s3,(s4,(s8,(s9,(s10,(s56,(at_ AA s54 s56.toNat,(s54,(s55,(s56,(s3,((0:Int),()))))))))))))))).bind fun o75=>match o75 with
  | .inl d76=>
   let x77:=IntKind.wrap .i64 (d76.2.2.2.2.2.2.2.2.1+(1:Int))
   back ((d76.1,(d76.2.1,(d76.2.2.1,(d76.2.2.2.1,(d76.2.2.2.2.1,(d76.2.2.2.2.2.1,(d76.2.2.2.2.2.2.1,(d76.2.2.2.2.2.2.2.1,(x77,()))))))))))
  else none
 else
  some (.inl ((s0,(s3,(s4,(s8,(s9,(s10,()))))))))
def MP (N:Nat):Nat->Pe->Option Oq
 | 0,_=>none
 | k+1,d=>Ll N (MP N k) d
abbrev Mo:=(List (List Int×Unit))×Int×List (Tab)×Int×Bool×(List (Int×Int×Int×Unit))×Int×Int×Unit
abbrev Ma:=((List (List Int×Unit))×Int×List (Tab)×Int×Bool×Unit)⊕Empty
def Abs:AP:=[(0,.v AU),(3,.v I),(4,.own An 99),(8,.v I),(9,.v .bool),(104,.own FL 99),(105,.v I),(106,.v I)]
def Abh:AJ:=[(.normal,[(0,.v AU),(3,.v I),(4,.own An 99),(8,.v I),(9,.v .bool)])]
def Jg (N:Nat) (back:Mo->Option Ma) (d:Mo):Option Ma:=
 let s0:=d.1
 let s3:=d.2.1
 let s4:=d.2.2.1
 let s8:=d.2.2.2.1
 let s9:=d.2.2.2.2.1
 let s104:=d.2.2.2.2.2.1
 let s105:=d.2.2.2.2.2.2.1
 let s106:=d.2.2.2.2.2.2.2.1
 if (decide (s106<s105))=true then
  if (Af s106 (List.length s104))=true then
  if (Af (at_ Do s104 s106.toNat).1 (List.length s4))=true then
  if (Af (at_ Do s104 s106.toNat).2.1 (List.length (at_ Ag s4 (at_ Do s104 s106.toNat).1.toNat)))=true then
  if (Af (at_ Do s104 s106.toNat).2.2.1 (List.length (at_ Ai (at_ Ag s4 (at_ Do s104 s106.toNat).1.toNat) (at_ Do s104 s106.toNat).2.1.toNat)))=true then
  let x95:=List.set s4 (at_ Do s104 s106.toNat).1.toNat (List.set (at_ Ag s4 (at_ Do s104 s106.toNat).1.toNat) (at_ Do s104 s106.toNat).2.1.toNat (List.set (at_ Ai (at_ Ag s4 (at_ Do s104 s106.toNat).1.toNat) (at_ Do s104 s106.toNat).2.1.toNat) (at_ Do s104 s106.toNat).2.2.1.toNat s8))
  let x96:=IntKind.wrap .i64 (s106+(1:Int))
  back ((s0,(s3,(x95,(s8,(true,(s104,(s105,(x96,())))))))))
  else none
  else none
  else none
  else none
 else
  some (.inl ((s0,(s3,(s4,(s8,(s9,())))))))
end Go.V.W
end
