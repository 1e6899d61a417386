/- What the law FnTimedGame leans on, part 5: an interpreter of the model as plain data, its soundness, the functions as it tells them, and their laws. -/
import Derived.Test.YtnieoolfkakmdaaGreatProg
import Derived.Test.YtnieoolfkakmdaaGreatVD
set_option linter.unusedVariables false
set_option linter.unusedSimpArgs false
set_option maxRecDepth 100000
noncomputable section
namespace Go.V.W
open Go.Proofs
abbrev I:Kd:=.int .i64
abbrev K_Su8:Kd:=.slice (.int .u8)
abbrev Ayh:Kd:=.pair (.int .u64) .unit
abbrev Apo:Kd:=.pair I Ayh
abbrev CO:Kd:=.pair K_Su8 Apo
abbrev AX:Kd:=.bx CO
abbrev Ai:Kd:=.slice I
abbrev AEm:Kd:=.pair I .unit
abbrev Am:Kd:=.pair I AEm
abbrev Cc:Kd:=.slice Am
abbrev Ajd:Kd:=.pair Cc .unit
abbrev Aj:Kd:=.pair I Ajd
abbrev Ayy:Kd:=.ssl Am
abbrev Ai1:Kd:=.pair Ayy .unit
abbrev Abf:Kd:=.pair I Ai1
abbrev Ag:Kd:=.slice Ai
abbrev Aih:Kd:=.pair Ag .unit
abbrev Zb:Kd:=.pair I Aih
abbrev B7:Kd:=.pair Abf Zb
abbrev Ae:Kd:=.pair Aj Zb
abbrev An:Kd:=.slice Ag
abbrev EW:Kd:=.bx Ae
abbrev LE:Kd:=.pair EW .unit
abbrev Bc:Kd:=.clo 168 .unit LE
abbrev AA:Kd:=.pair Ai .unit
abbrev AU:Kd:=.slice AA
abbrev EE:Kd:=.clo 228 .unit .unit
abbrev Pv:Kd:=.bx I
abbrev Afe:Kd:=.pair Pv .unit
abbrev C9:Kd:=.clo 227 .unit Afe
abbrev EU:Kd:=.clo 230 .unit Afe
abbrev KU:Kd:=.bx AA
abbrev QH:Kd:=.bx Ag
abbrev FX:Kd:=.bx EU
abbrev Nb:Kd:=.pair FX .unit
abbrev JC:Kd:=.pair QH Nb
abbrev GV:Kd:=.pair KU JC
abbrev FU:Kd:=.pair Pv GV
abbrev AB:Kd:=.clo 255 .unit FU
abbrev Hg:Kd:=.clo 233 .unit .unit
abbrev IX:Kd:=.bx Hg
abbrev T7:Kd:=.pair IX .unit
abbrev L4:Kd:=.pair QH T7
abbrev Ic:Kd:=.pair KU L4
abbrev G4:Kd:=.pair Pv Ic
abbrev AC:Kd:=.clo 255 .unit G4
abbrev Dl:Kd:=.pair I Am
abbrev FC:Kd:=.slice Dl
abbrev EG:Kd:=.clo 199 .unit .unit
abbrev FQ:Kd:=.clo 204 .unit .unit
abbrev AF3:Kd:=.ssl I
abbrev ACx:Kd:=.pair AF3 .unit
abbrev AE4:Kd:=.ssl Ai
abbrev Aeh:Kd:=.pair Ag Aih
abbrev UQ:Kd:=.pair AE4 Aeh
abbrev AE:Kd:=.pair ACx UQ
abbrev Bg:Kd:=.bx AE
abbrev Ec:Kd:=.bx Bg
abbrev HC:Kd:=.pair Ec Afe
abbrev A3:Kd:=.clo 243 .unit HC
abbrev Atc:Kd:=.pair AA .unit
abbrev Cz:Kd:=.clo 237 Atc .unit
def tks:List (Nat×Kd):=[(3,I),(4,.bool),(5,(.int .u8)),(22,K_Su8),(24,Cc),(26,Aj),(27,Ag),(36,Ai),(52,Am),(74,Ae),(75,An),(94,(.int .u64)),(96,CO),(107,AA),(118,AE),(151,AU),(187,FC),(188,Dl),(192,(.int .u64))]
def ars:List (Nat×Nat):=[(52,3),(188,3)]
def WV:Ctx:={ tk:=Ac tks,ar:=Ac ars,fs:=Ac [] }
def Ha (N:Nat) (d:List Int×Unit):Option (Bool×Unit):=
 let a0:=d.1
 some ((decide ((List.length a0:Int)>(65536:Int)),()))
def Ey (d:List Int×Unit):Bool×Unit:=
 let a0:=d.1
 ((decide ((List.length a0:Int)>(65536:Int)),()))
theorem Rm (N:Nat) (d):Ha N d=some (Ey d):=by
 unfold Ha Ey
 first
  | rfl
  | (dsimp only; (repeat' split)<;>rfl)
def Re:FSig:=⟨[(K_Su8,false)],[.bool],true,(fun d=>some (Ey d))⟩
def Ay3:Ctx:={ tk:=Ac tks,ar:=Ac ars,fs:=Ac [],lent:=fun t=>Nat.beq t 0 }
def QP (N:Nat) (d:(List Int×Int×Int×Unit)×Unit):Option (Int×(List Int×Int×Int×Unit)×Unit):=
 let a0:=d.1
 if (decide (a0.2.1<(List.length a0.1:Int)))=true then
  if (Af a0.2.1 (List.length a0.1))=true then
  let x1:=IntKind.wrap .i64 (at_ (.int .u8) a0.1 a0.2.1.toNat)
  let x2:=IntKind.wrap .i64 (a0.2.1+(1:Int))
  let x3:=IntKind.wrap .u64 (a0.2.2.1*(6364136223846793005:Int))
  let x4:=IntKind.wrap .u64 (x3+IntKind.wrap .u64 x1)
  let x5:=IntKind.wrap .u64 (x4+(462197:Int))
  if (decide (x2<=(List.length a0.1:Int)))=true then
   some ((x1,((a0.1,(x2,(x5,a0.2.2.2))),())))
  else
   if (decide (0<=(40:Int)))=true then
   let x6:=bits .and .u64 (shr .u64 x5 (40:Int)) (255:Int)
   some ((IntKind.wrap .i64 x6,((a0.1,(x2,(x5,a0.2.2.2))),())))
   else none
  else none
 else
  let x7:=IntKind.wrap .i64 (a0.2.1+(1:Int))
  let x8:=IntKind.wrap .u64 (a0.2.2.1*(6364136223846793005:Int))
  let x9:=IntKind.wrap .u64 (x8+IntKind.wrap .u64 (0:Int))
  let x10:=IntKind.wrap .u64 (x9+(462197:Int))
  if (decide (x7<=(List.length a0.1:Int)))=true then
   some (((0:Int),((a0.1,(x7,(x10,a0.2.2.2))),())))
  else
   if (decide (0<=(40:Int)))=true then
   let x11:=bits .and .u64 (shr .u64 x10 (40:Int)) (255:Int)
   some ((IntKind.wrap .i64 x11,((a0.1,(x7,(x10,a0.2.2.2))),())))
   else none
def Aqq:FSig:=⟨[(AX,true)],[I],true,(QP 0)⟩
def Axs:Ctx:={ tk:=Ac tks,ar:=Ac ars,fs:=Ac [(187,Aqq)],lent:=fun t=>Nat.beq t 0 }
def BT (N:Nat) (d:(List Int×Int×Int×Unit)×Int×Unit):Option (Int×(List Int×Int×Int×Unit)×Unit):=
 let a0:=d.1
 let a1:=d.2.1
 if (decide (a1<=(1:Int)))=true then
  some (((0:Int),(a0,())))
 else
  ((QP 0) (a0,())).bind fun r1=>
  if (decide (a1>(200:Int)))=true then
   let x2:=IntKind.wrap .i64 (r1.1*(256:Int))
   ((QP 0) (r1.2.1,())).bind fun r3=>
   let x4:=IntKind.wrap .i64 (x2+r3.1)
   if (a1 != 0)=true then
   some ((x4.tmod a1,(r3.2.1,())))
   else none
  else
   if (a1 != 0)=true then
   some ((r1.1.tmod a1,(r1.2.1,())))
   else none
def Ke:FSig:=⟨[(AX,true),(I,false)],[I],true,(BT 0)⟩
def Avr:Ctx:={ tk:=Ac tks,ar:=Ac ars,fs:=Ac [(91,Ke)],lent:=fun t=>Nat.beq t 0 }
def CD (N:Nat) (d:(List Int×Int×Int×Unit)×List Int×Unit):Option (Int×(List Int×Int×Int×Unit)×Unit):=
 let a0:=d.1
 let a1:=d.2.1
 ((BT 0) ((a0,((List.length a1:Int),())))).bind fun r1=>
 if (Af r1.1 (List.length a1))=true then
 some ((at_ I a1 r1.1.toNat,(r1.2.1,())))
 else none
def L3:FSig:=⟨[(AX,true),(Ai,false)],[I],true,(CD 0)⟩
def Aw1:Ctx:={ tk:=Ac tks,ar:=Ac ars,fs:=Ac [(91,Ke)],lent:=fun t=>Nat.beq t 0 }
def F1 (N:Nat) (d:(List Int×Int×Int×Unit)×Int×Unit):Option (Bool×(List Int×Int×Int×Unit)×Unit):=
 let a0:=d.1
 let a1:=d.2.1
 ((BT 0) ((a0,(a1,())))).bind fun r1=>
 some ((r1.1==(0:Int),(r1.2.1,())))
def Xt:FSig:=⟨[(AX,true),(I,false)],[.bool],true,(F1 0)⟩
def Ayo:Ctx:={ tk:=Ac tks,ar:=Ac ars,fs:=Ac [] }
def Ww (N:Nat) (d:Int×Int×Unit):Option (Int×Unit):=
 let a0:=d.1
 let a1:=d.2.1
 if (decide (a0<a1))=true then
  some (a0,())
 else
  some (a1,())
def Kk (d:Int×Int×Unit):Int×Unit:=
 let a0:=d.1
 let a1:=d.2.1
 if (decide (a0<a1))=true then
  (a0,())
 else
  (a1,())
theorem Adb (N:Nat) (d):Ww N d=some (Kk d):=by
 unfold Ww Kk
 first
  | rfl
  | (dsimp only; (repeat' split)<;>rfl)
def Aq5:FSig:=⟨[(I,false),(I,false)],[I],true,(fun d=>some (Kk d))⟩
def Apv:Ctx:={ tk:=Ac tks,ar:=Ac ars,fs:=Ac [] }
abbrev LU:=Int×Gr×Gr×Int×Unit
abbrev L1:=(Gr×Gr×Unit)⊕Empty
def Aa1:AP:=[(0,.v I),(2,.box Aj 99),(3,.box Aj 99),(4,.v I)]
def Aaj:AJ:=[(.normal,[(2,.box Aj 99),(3,.box Aj 99)])]
def Ep (N:Nat) (back:LU->Option L1) (d:LU):Option L1:=
 let s0:=d.1
 let s2:=d.2.1
 let s3:=d.2.2.1
 let s4:=d.2.2.2.1
 let x6:=IntKind.wrap .i64 (s4+(1:Int))
 if (decide (x6<s0))=true then
  let x7:=IntKind.wrap .i64 (s4+(1:Int))
  if (decide (List.length s3.2.1+List.length ([(s4,(x7,()))])<=lim))=true then
  let x8:=IntKind.wrap .i64 (s4+(1:Int))
  back ((s0,(s2,((s3.1,(s3.2.1++([(s4,(x7,()))]),s3.2.2)),(x8,())))))
  else none
 else
  some (.inl ((s2,(s3,()))))
def NS (N:Nat):Nat->LU->Option L1
 | 0,_=>none
 | k+1,d=>Ep N (NS N k) d
def Fs (N:Nat) (d:Int×Unit):Option (Gr×Unit):=
 let a0:=d.1
 (NS N N ((a0,(((0:Int),(([]:List (Int×Int×Unit)),())),((a0,(([]:List (Int×Int×Unit)),())),((0:Int),())))))).bind fun o4=>match o4 with
 | .inl d5=>
  some (d5.2.1,())
def Xi:FSig:=⟨[(I,false)],[Aj],true,(CX Fs Eo)⟩
def Av9:Ctx:={ tk:=Ac tks,ar:=Ac ars,fs:=Ac [] }
def V5 (N:Nat) (d:(Int×Int×Unit)×(Int×Int×Unit)×Unit):Option (Bool×Unit):=
 let a0:=d.1
 let a1:=d.2.1
 if (decide (a0.1<a1.1))=true then
  some (true,())
 else
  if (a0.1==a1.1)=true then
   some (decide (a0.2.1<a1.2.1),())
  else
   some (false,())
def Jk (d:(Int×Int×Unit)×(Int×Int×Unit)×Unit):Bool×Unit:=
 let a0:=d.1
 let a1:=d.2.1
 if (decide (a0.1<a1.1))=true then
  (true,())
 else
  if (a0.1==a1.1)=true then
   (decide (a0.2.1<a1.2.1),())
  else
   (false,())
theorem Aaq (N:Nat) (d):V5 N d=some (Jk d):=by
 unfold V5 Jk
 first
  | rfl
  | (dsimp only; (repeat' split)<;>rfl)
def Ae8:FSig:=⟨[(Am,false),(Am,false)],[.bool],true,(fun d=>some (Jk d))⟩
def UD:Ctx:={ tk:=Ac tks,ar:=Ac ars,fs:=Ac [(200,Ae8)] }
abbrev FW:=(List (Int×Int×Unit))×(Int×Int×Unit)×Int×Unit
abbrev F6:=((List (Int×Int×Unit))×(Int×Int×Unit)×Int×Unit)⊕Empty
def Rw:AP:=[(0,.v Cc),(3,.box Am 99),(5,.v I)]
def Rv:AJ:=[(.normal,[(0,.v Cc),(3,.box Am 99),(5,.v I)])]
def Dx (N:Nat) (back:FW->Option F6) (d:FW):Option F6:=
 let s0:=d.1
 let s3:=d.2.1
 let s5:=d.2.2.1
 if (decide (s5<(List.length s0:Int)))=true then
  if (Af s5 (List.length s0))=true then
  let r7:=Jk ((at_ Am s0 s5.toNat,(s3,())))
  if (r7.1)=true then
   let x8:=IntKind.wrap .i64 (s5+(1:Int))
   back ((s0,(s3,(x8,()))))
  else
   some (.inl ((s0,(s3,(s5,())))))
  else none
 else
  some (.inl ((s0,(s3,(s5,())))))
def Fy (N:Nat):Nat->FW->Option F6
 | 0,_=>none
 | k+1,d=>Dx N (Fy N k) d
def Gt (N:Nat) (d:(List (Int×Int×Unit))×(Int×Int×Unit)×Unit):Option ((List (Int×Int×Unit))×Unit):=
 let a0:=d.1
 let a1:=d.2.1
 (Fy N N ((a0,(a1,((0:Int),()))))).bind fun o3=>match o3 with
 | .inl d4=>
  if ((decide (0<=(0:Int))&&decide ((0:Int)<=d4.2.2.1)&&decide (d4.2.2.1<=(List.length d4.1:Int))))=true then
  if (decide (List.length ([]:List (Int×Int×Unit))+List.length (CY d4.1 (0:Int) d4.2.2.1)<=lim))=true then
  let x5:=([]:List (Int×Int×Unit))++(CY d4.1 (0:Int) d4.2.2.1)
  if (decide (List.length x5+List.length ([d4.2.1])<=lim))=true then
  if ((decide (0<=d4.2.2.1)&&decide (d4.2.2.1<=(List.length d4.1:Int))&&decide ((List.length d4.1:Int)<=(List.length d4.1:Int))))=true then
  let x6:=CY d4.1 d4.2.2.1 (List.length d4.1:Int)
  if (decide (List.length (x5++([d4.2.1]))+List.length x6<=lim))=true then
  some (((x5++([d4.2.1]))++x6,()))
  else none
  else none
  else none
  else none
  else none
def I3:FSig:=⟨[(Cc,false),(Am,false)],[Cc],true,(G8)⟩
def Av6:Ctx:={ tk:=Ac tks,ar:=Ac ars,fs:=Ac [(185,Xi),(186,I3)] }
def J3 (N:Nat) (d:Int×Unit):Option (Gr×Unit):=
 let a0:=d.1
 ((CX Fs Eo) (a0,())).bind fun r1=>
 let x2:=IntKind.wrap .i64 (a0-(1:Int))
 (G8 ((r1.1.2.1,(((0:Int),(x2,())),())))).bind fun r3=>
 some (((r1.1.1,(r3.1,r1.1.2.2)),()))
def Asv:FSig:=⟨[(I,false)],[Aj],true,(J3 0)⟩
def Ayx:Ctx:={ tk:=Ac tks,ar:=Ac ars,fs:=Ac [] }
abbrev N0:=Int×Gr×Gr×Int×Int×Unit
abbrev QS:=(Int×Gr×Gr×Int×Unit)⊕Empty
def Ai6:AP:=[(0,.v I),(2,.box Aj 99),(3,.box Aj 99),(4,.v I),(5,.v I)]
def Anp:AJ:=[(.normal,[(0,.v I),(2,.box Aj 99),(3,.box Aj 99),(4,.v I)])]
def Iv (N:Nat) (back:N0->Option QS) (d:N0):Option QS:=
 let s0:=d.1
 let s2:=d.2.1
 let s3:=d.2.2.1
 let s4:=d.2.2.2.1
 let s5:=d.2.2.2.2.1
 if (decide (s5<s0))=true then
  if (decide (List.length s3.2.1+List.length ([(s4,(s5,()))])<=lim))=true then
  let x13:=IntKind.wrap .i64 (s5+(1:Int))
  back ((s0,(s2,((s3.1,(s3.2.1++([(s4,(s5,()))]),s3.2.2)),(s4,(x13,()))))))
  else none
 else
  some (.inl ((s0,(s2,(s3,(s4,()))))))
def RS (N:Nat):Nat->N0->Option QS
 | 0,_=>none
 | k+1,d=>Iv N (RS N k) d
abbrev Oa:=Int×Gr×Gr×Int×Unit
abbrev Qt:=(Gr×Gr×Unit)⊕Empty
def Ans:AP:=[(0,.v I),(2,.box Aj 99),(3,.box Aj 99),(4,.v I)]
def Apd:AJ:=[(.normal,[(2,.box Aj 99),(3,.box Aj 99)])]
def HJ (N:Nat) (back:Oa->Option Qt) (d:Oa):Option Qt:=
 let s0:=d.1
 let s2:=d.2.1
 let s3:=d.2.2.1
 let s4:=d.2.2.2.1
 if (decide (s4<s0))=true then
  let x8:=IntKind.wrap .i64 (s4+(1:Int))
  (RS N N ((s0,(s2,(s3,(s4,(x8,()))))))).bind fun o10=>match o10 with
  | .inl d11=>
   let x12:=IntKind.wrap .i64 (d11.2.2.2.1+(1:Int))
   back ((d11.1,(d11.2.1,(d11.2.2.1,(x12,())))))
 else
  some (.inl ((s2,(s3,()))))
def RW (N:Nat):Nat->Oa->Option Qt
 | 0,_=>none
 | k+1,d=>HJ N (RW N k) d
def I5 (N:Nat) (d:Int×Unit):Option (Gr×Unit):=
 let a0:=d.1
 (RW N N ((a0,(((0:Int),(([]:List (Int×Int×Unit)),())),((a0,(([]:List (Int×Int×Unit)),())),((0:Int),())))))).bind fun o6=>match o6 with
 | .inl d7=>
  some (d7.2.1,())
def Au2:FSig:=⟨[(I,false)],[Aj],true,(CX I5 Eo)⟩
def Ar5:Ctx:={ tk:=Ac tks,ar:=Ac ars,fs:=Ac [] }
def Sz (N:Nat) (d:Int×Int×Unit):Option (Int×Unit):=
 let a0:=d.1
 let a1:=d.2.1
 if (decide (a0>a1))=true then
  some (a0,())
 else
  some (a1,())
def He (d:Int×Int×Unit):Int×Unit:=
 let a0:=d.1
 let a1:=d.2.1
 if (decide (a0>a1))=true then
  (a0,())
 else
  (a1,())
theorem Z7 (N:Nat) (d):Sz N d=some (He d):=by
 unfold Sz He
 first
  | rfl
  | (dsimp only; (repeat' split)<;>rfl)
def Su:FSig:=⟨[(I,false),(I,false)],[I],true,(fun d=>some (He d))⟩
def Ask:Ctx:={ tk:=Ac tks,ar:=Ac ars,fs:=Ac [] }
abbrev LZ:=Int×Int×Gr×Int×Unit
abbrev Mx:=(Bool×Unit)⊕Unit⊕Empty
def Aei:AP:=[(1,.v I),(2,.v I),(3,.box Aj 0),(7,.v I)]
def Adu:AJ:=[(.ret,[(6,.v .bool)]),(.normal,[])]
def IK (N:Nat) (back:LZ->Option Mx) (d:LZ):Option Mx:=
 let s1:=d.1
 let s2:=d.2.1
 let s3:=d.2.2.1
 let s7:=d.2.2.2.1
 if (decide (s7<(List.length s3.2.1:Int)))=true then
  if (Af s7 (List.length s3.2.1))=true then
  if ((at_ Am s3.2.1 s7.toNat).1==s1)=true then
   if ((at_ Am s3.2.1 s7.toNat).2.1==s2)=true then
    some (.inl (true,()))
   else
    if ((at_ Am s3.2.1 s7.toNat).1==s2)=true then
     if ((at_ Am s3.2.1 s7.toNat).2.1==s1)=true then
      some (.inl (true,()))
     else
      let x8:=IntKind.wrap .i64 (s7+(1:Int))
      back ((s1,(s2,(s3,(x8,())))))
    else
     let x9:=IntKind.wrap .i64 (s7+(1:Int))
     back ((s1,(s2,(s3,(x9,())))))
  else
   if ((at_ Am s3.2.1 s7.toNat).1==s2)=true then
    if ((at_ Am s3.2.1 s7.toNat).2.1==s1)=true then
     some (.inl (true,()))
    else
     let x10:=IntKind.wrap .i64 (s7+(1:Int))
     back ((s1,(s2,(s3,(x10,())))))
   else
    let x11:=IntKind.wrap .i64 (s7+(1:Int))
    back ((s1,(s2,(s3,(x11,())))))
  else none
 else
  some (.inr (.inl ()))
def MP (N:Nat):Nat->LZ->Option Mx
 | 0,_=>none
 | k+1,d=>IK N (MP N k) d
def R5 (N:Nat) (d:Gr×Int×Int×Unit):Option (Bool×Unit):=
 let a0:=d.1
 let a1:=d.2.1
 let a2:=d.2.2.1
 (MP N N ((a1,(a2,(a0,((0:Int),())))))).bind fun o5=>match o5 with
 | .inl d6=>
  some (d6.1,())
 | .inr (.inl d7)=>
  some (false,())
def WF:FSig:=⟨[(Aj,false),(I,false),(I,false)],[.bool],true,(FF)⟩
def Ayw:Ctx:={ tk:=Ac tks,ar:=Ac ars,fs:=Ac [(91,Ke),(133,L3)],lent:=fun t=>Nat.beq t 0,cs:=Ac [],gs:=Ac [],eqt:=inL [],md:={ gone:=[1],deep:=[] } }
def Cn (N:Nat) (d:(List Int×Int×Int×Unit)×Gr×Unit):Option (Gr×(List Int×Int×Int×Unit)×Gr×Unit):=
 let a0:=d.1
 let a1:=d.2.1
 ((BT 0) ((a0,((50:Int),())))).bind fun r1=>
 if (r1.1==(0:Int))=true then
  ((CD 0) ((r1.2.1,([(-1:Int),(8:Int),(9:Int),(0:Int),(4611686018427387904:Int)],())))).bind fun r2=>
  some (((r2.1,a1.2),(r2.2.1,(((0:Int),(([]:List (Int×Int×Unit)),())),()))))
 else
  if (r1.1==(1:Int))=true then
   ((BT 0) ((r1.2.1,((4:Int),())))).bind fun r3=>
   ((BT 0) ((r3.2.1,((9:Int),())))).bind fun r4=>
   let x5:=IntKind.wrap .i64 (r4.1-(1:Int))
   if (decide (List.length a1.2.1+List.length ([(r3.1,(x5,()))])<=lim))=true then
   let x6:=a1.2.1++([(r3.1,(x5,()))])
   some (((a1.1,(x6,a1.2.2)),(r4.2.1,(((0:Int),(([]:List (Int×Int×Unit)),())),()))))
   else none
  else
   if (r1.1==(2:Int))=true then
    if (decide ((List.length a1.2.1:Int)>(0:Int)))=true then
     ((BT 0) ((r1.2.1,((List.length a1.2.1:Int),())))).bind fun r7=>
     if (Af r7.1 (List.length a1.2.1))=true then
     if (decide (List.length a1.2.1+List.length ([at_ Am a1.2.1 r7.1.toNat])<=lim))=true then
     let x8:=a1.2.1++([at_ Am a1.2.1 r7.1.toNat])
     some (((a1.1,(x8,a1.2.2)),(r7.2.1,(((0:Int),(([]:List (Int×Int×Unit)),())),()))))
     else none
     else none
    else
     some ((a1,(r1.2.1,(((0:Int),(([]:List (Int×Int×Unit)),())),()))))
   else
    some ((a1,(r1.2.1,(((0:Int),(([]:List (Int×Int×Unit)),())),()))))
def As4:FSig:=⟨[(AX,true),(Aj,true)],[Aj],true,(Cn 0)⟩
def Av3:Ctx:={ tk:=Ac tks,ar:=Ac ars,fs:=Ac [(89,Xt),(90,Asv),(91,Ke),(133,L3),(185,Xi),(186,I3),(201,Su),(238,Aq5),(239,Au2),(240,WF)],lent:=fun t=>Nat.beq t 0,cs:=Ac [],gs:=Ac [(241,(As4,{ gone:=[1],deep:=[] }))],eqt:=inL [],md:=md0 }
abbrev Ou:=(List Int×Int×Int×Unit)×Gr×Int×Gr×Int×Bool×Int×Int×Unit
abbrev ON:=((List Int×Int×Int×Unit)×Gr×Int×Gr×Int×Bool×Int×Unit)⊕Empty
def Aiz:AP:=[(0,.box CO 0),(4,.box Aj 99),(5,.v I),(6,.box Aj 99),(7,.v I),(8,.v .bool),(9,.v I),(10,.v I)]
def Aj1:AJ:=[(.normal,[(0,.box CO 0),(4,.box Aj 99),(5,.v I),(6,.box Aj 99),(7,.v I),(8,.v .bool),(9,.v I)])]
def Ix (N:Nat) (back:Ou->Option ON) (d:Ou):Option ON:=
 let s0:=d.1
 let s4:=d.2.1
 let s5:=d.2.2.1
 let s6:=d.2.2.2.1
 let s7:=d.2.2.2.2.1
 let s8:=d.2.2.2.2.2.1
 let s9:=d.2.2.2.2.2.2.1
 let s10:=d.2.2.2.2.2.2.2.1
 if (decide (s10<s5))=true then
  ((BT 0) ((s0,(s7,())))).bind fun r77=>
  if (r77.1==(0:Int))=true then
   (G8 ((s6.2.1,((s9,(s10,())),())))).bind fun r78=>
   let x79:=IntKind.wrap .i64 (s10+(1:Int))
   back ((r77.2.1,(s4,(s5,((s6.1,(r78.1,s6.2.2)),(s7,(s8,(s9,(x79,())))))))))
  else
   let x80:=IntKind.wrap .i64 (s10+(1:Int))
   back ((r77.2.1,(s4,(s5,(s6,(s7,(s8,(s9,(x80,())))))))))
 else
  some (.inl ((s0,(s4,(s5,(s6,(s7,(s8,(s9,())))))))))
def RL (N:Nat):Nat->Ou->Option ON
 | 0,_=>none
 | k+1,d=>Ix N (RL N k) d
abbrev OC:=(List Int×Int×Int×Unit)×Gr×Int×Gr×Int×Bool×Int×Unit
abbrev OS:=((List Int×Int×Int×Unit)×Gr×Gr×Unit)⊕Empty
def Ajq:AP:=[(0,.box CO 0),(4,.box Aj 99),(5,.v I),(6,.box Aj 99),(7,.v I),(8,.v .bool),(9,.v I)]
def Aoi:AJ:=[(.normal,[(0,.box CO 0),(4,.box Aj 99),(6,.box Aj 99)])]
def HS (N:Nat) (back:OC->Option OS) (d:OC):Option OS:=
 let s0:=d.1
 let s4:=d.2.1
 let s5:=d.2.2.1
 let s6:=d.2.2.2.1
 let s7:=d.2.2.2.2.1
 let s8:=d.2.2.2.2.2.1
 let s9:=d.2.2.2.2.2.2.1
 if (decide (s9<s5))=true then
  let x62:=IntKind.wrap .i64 (s9+(1:Int))
  (RL N N ((s0,(s4,(s5,(s6,(s7,(s8,(s9,(x62,())))))))))).bind fun o67=>match o67 with
  | .inl d68=>
   let r69:=He ((d68.2.2.2.2.2.2.1,((1:Int),())))
   ((BT 0) ((d68.1,(r69.1,())))).bind fun r70=>
   if (decide (d68.2.2.2.2.2.2.1>(0:Int)))=true then
    if (!d68.2.2.2.2.2.1)=true then
     (FF ((d68.2.2.2.1,(d68.2.2.2.2.2.2.1,(r70.1,()))))).bind fun r71=>
     if (!r71.1)=true then
      (G8 ((d68.2.2.2.1.2.1,((r70.1,(d68.2.2.2.2.2.2.1,())),())))).bind fun r72=>
      let x73:=IntKind.wrap .i64 (d68.2.2.2.2.2.2.1+(1:Int))
      back ((r70.2.1,(d68.2.1,(d68.2.2.1,((d68.2.2.2.1.1,(r72.1,d68.2.2.2.1.2.2)),(d68.2.2.2.2.1,(d68.2.2.2.2.2.1,(x73,()))))))))
     else
      let x74:=IntKind.wrap .i64 (d68.2.2.2.2.2.2.1+(1:Int))
      back ((r70.2.1,(d68.2.1,(d68.2.2.1,(d68.2.2.2.1,(d68.2.2.2.2.1,(d68.2.2.2.2.2.1,(x74,()))))))))
    else
     let x75:=IntKind.wrap .i64 (d68.2.2.2.2.2.2.1+(1:Int))
     back ((r70.2.1,(d68.2.1,(d68.2.2.1,(d68.2.2.2.1,(d68.2.2.2.2.1,(d68.2.2.2.2.2.1,(x75,()))))))))
   else
    let x76:=IntKind.wrap .i64 (d68.2.2.2.2.2.2.1+(1:Int))
    back ((r70.2.1,(d68.2.1,(d68.2.2.1,(d68.2.2.2.1,(d68.2.2.2.2.1,(d68.2.2.2.2.2.1,(x76,()))))))))
 else
  some (.inl ((s0,(s4,(s6,())))))
def Hc (N:Nat):Nat->OC->Option OS
 | 0,_=>none
 | k+1,d=>HS N (Hc N k) d
def Mb (N:Nat) (d:(List Int×Int×Int×Unit)×Int×Unit):Option (Gr×(List Int×Int×Int×Unit)×Unit):=
 let a0:=d.1
 let a1:=d.2.1
 ((CD 0) ((a0,([(4:Int),(5:Int),(3:Int),(6:Int),(2:Int),(1:Int),(0:Int)],())))).bind fun r1=>
 if (decide (a1>(6:Int)))=true then
  ((F1 0) ((r1.2.1,((4:Int),())))).bind fun r2=>
  if (r2.1)=true then
   ((BT 0) ((r2.2.1,((2:Int),())))).bind fun r3=>
   let x4:=IntKind.wrap .i64 ((7:Int)+r3.1)
   let r5:=Kk ((x4,(a1,())))
   ((BT 0) ((r3.2.1,((8:Int),())))).bind fun r6=>
   if (r6.1==(0:Int))=true then
    ((CX Fs Eo) (r5.1,())).bind fun r7=>
    ((Cn 0) ((r6.2.1,(r7.1,())))).bind fun r8=>
    some ((r8.1,(r8.2.1,())))
   else
    if (r6.1==(1:Int))=true then
     if (decide (r5.1>(2:Int)))=true then
      ((J3 0) (r5.1,())).bind fun r9=>
      ((Cn 0) ((r6.2.1,(r9.1,())))).bind fun r10=>
      some ((r10.1,(r10.2.1,())))
     else
      ((Cn 0) ((r6.2.1,((r5.1,(([]:List (Int×Int×Unit)),())),())))).bind fun r11=>
      some ((r11.1,(r11.2.1,())))
    else
     if (r6.1==(2:Int))=true then
      ((CX I5 Eo) (r5.1,())).bind fun r12=>
      ((Cn 0) ((r6.2.1,(r12.1,())))).bind fun r13=>
      some ((r13.1,(r13.2.1,())))
     else
      ((CD 0) ((r6.2.1,([(3:Int),(4:Int),(6:Int)],())))).bind fun r14=>
      ((F1 0) ((r14.2.1,((6:Int),())))).bind fun r15=>
      (Hc N N ((r15.2.1,(((0:Int),(([]:List (Int×Int×Unit)),())),(r5.1,((r5.1,(([]:List (Int×Int×Unit)),())),(r14.1,(r15.1,((0:Int),()))))))))).bind fun o31=>match o31 with
      | .inl d32=>
       ((Cn 0) ((d32.1,(d32.2.2.1,())))).bind fun r33=>
       some ((r33.1,(r33.2.1,())))
  else
   let r34:=Kk ((r1.1,(a1,())))
   ((BT 0) ((r2.2.1,((8:Int),())))).bind fun r35=>
   if (r35.1==(0:Int))=true then
    ((CX Fs Eo) (r34.1,())).bind fun r36=>
    ((Cn 0) ((r35.2.1,(r36.1,())))).bind fun r37=>
    some ((r37.1,(r37.2.1,())))
   else
    if (r35.1==(1:Int))=true then
     if (decide (r34.1>(2:Int)))=true then
      ((J3 0) (r34.1,())).bind fun r38=>
      ((Cn 0) ((r35.2.1,(r38.1,())))).bind fun r39=>
      some ((r39.1,(r39.2.1,())))
     else
      ((Cn 0) ((r35.2.1,((r34.1,(([]:List (Int×Int×Unit)),())),())))).bind fun r40=>
      some ((r40.1,(r40.2.1,())))
    else
     if (r35.1==(2:Int))=true then
      ((CX I5 Eo) (r34.1,())).bind fun r41=>
      ((Cn 0) ((r35.2.1,(r41.1,())))).bind fun r42=>
      some ((r42.1,(r42.2.1,())))
     else
      ((CD 0) ((r35.2.1,([(3:Int),(4:Int),(6:Int)],())))).bind fun r43=>
      ((F1 0) ((r43.2.1,((6:Int),())))).bind fun r44=>
      (Hc N N ((r44.2.1,(((0:Int),(([]:List (Int×Int×Unit)),())),(r34.1,((r34.1,(([]:List (Int×Int×Unit)),())),(r43.1,(r44.1,((0:Int),()))))))))).bind fun o45=>match o45 with
      | .inl d46=>
       ((Cn 0) ((d46.1,(d46.2.2.1,())))).bind fun r47=>
       some ((r47.1,(r47.2.1,())))
 else
  let r48:=Kk ((r1.1,(a1,())))
  ((BT 0) ((r1.2.1,((8:Int),())))).bind fun r49=>
  if (r49.1==(0:Int))=true then
   ((CX Fs Eo) (r48.1,())).bind fun r50=>
   ((Cn 0) ((r49.2.1,(r50.1,())))).bind fun r51=>
   some ((r51.1,(r51.2.1,())))
  else
   if (r49.1==(1:Int))=true then
    if (decide (r48.1>(2:Int)))=true then
     ((J3 0) (r48.1,())).bind fun r52=>
     ((Cn 0) ((r49.2.1,(r52.1,())))).bind fun r53=>
     some ((r53.1,(r53.2.1,())))
    else
     ((Cn 0) ((r49.2.1,((r48.1,(([]:List (Int×Int×Unit)),())),())))).bind fun r54=>
     some ((r54.1,(r54.2.1,())))
   else
    if (r49.1==(2:Int))=true then
     ((CX I5 Eo) (r48.1,())).bind fun r55=>
     ((Cn 0) ((r49.2.1,(r55.1,())))).bind fun r56=>
     some ((r56.1,(r56.2.1,())))
    else
     ((CD 0) ((r49.2.1,([(3:Int),(4:Int),(6:Int)],())))).bind fun r57=>
     ((F1 0) ((r57.2.1,((6:Int),())))).bind fun r58=>
     (Hc N N ((r58.2.1,(((0:Int),(([]:List (Int×Int×Unit)),())),(r48.1,((r48.1,(([]:List (Int×Int×Unit)),())),(r57.1,(r58.1,((0:Int),()))))))))).bind fun o59=>match o59 with
     | .inl d60=>
      ((Cn 0) ((d60.1,(d60.2.2.1,())))).bind fun r61=>
      some ((r61.1,(r61.2.1,())))
def Aa3:FSig:=⟨[(AX,true),(I,false)],[Aj],true,(CX Mb KS)⟩
def Aw8:Ctx:={ tk:=Ac tks,ar:=Ac ars,fs:=Ac [(183,Aa3)],lent:=fun t=>Nat.beq t 0 }
def SN (N:Nat) (d:(List Int×Int×Int×Unit)×Unit):Option (Gr×(List Int×Int×Int×Unit)×Unit):=
 let a0:=d.1
 ((CX Mb KS) ((a0,((8:Int),())))).bind fun r1=>
 some ((r1.1,(r1.2.1,())))
def Aql:FSig:=⟨[(AX,true)],[Aj],true,(SN 0)⟩
def Asq:Ctx:={ tk:=Ac tks,ar:=Ac ars,fs:=Ac [] }
abbrev Ml:=Int×Int×List Int×Int×Unit
abbrev Mu:=(List Int×Unit)⊕Empty
def Aew:AP:=[(0,.v I),(1,.v I),(5,.own Ai 99),(6,.v I)]
def Abp:AJ:=[(.normal,[(5,.own Ai 99)])]
def Jg (N:Nat) (back:Ml->Option Mu) (d:Ml):Option Mu:=
 let s0:=d.1
 let s1:=d.2.1
 let s5:=d.2.2.1
 let s6:=d.2.2.2.1
 if (decide (s6<s0))=true then
  if (decide (0<=s6))=true then
  let x6:=bits .and .i64 (shr .i64 s1 s6) (1:Int)
  if (x6==(1:Int))=true then
   if (decide (List.length s5+List.length ([s6])<=lim))=true then
   let x7:=IntKind.wrap .i64 (s6+(1:Int))
   back ((s0,(s1,(s5++([s6]),(x7,())))))
   else none
  else
   let x8:=IntKind.wrap .i64 (s6+(1:Int))
   back ((s0,(s1,(s5,(x8,())))))
  else none
 else
  some (.inl (s5,()))
def Na (N:Nat):Nat->Ml->Option Mu
 | 0,_=>none
 | k+1,d=>Jg N (Na N k) d
def R6 (N:Nat) (d:Int×Int×Unit):Option (List Int×Unit):=
 let a0:=d.1
 let a1:=d.2.1
 (Na N N ((a0,(a1,(([]:List Int),((0:Int),())))))).bind fun o4=>match o4 with
 | .inl d5=>
  some (d5.1,())
def Ahq:FSig:=⟨[(I,false),(I,false)],[Ai],true,(Ip)⟩
def Az2:List (Nat×Kd):=[(3,I),(4,.bool),(5,(.int .u8)),(22,K_Su8),(24,Cc),(26,Aj),(27,Ag),(36,Ai),(52,Am),(74,B7),(94,(.int .u64)),(96,CO),(192,(.int .u64))]
def Azj:List (Nat×Nat):=[(52,3)]
def Avt:Ctx:={ tk:=Ac Az2,ar:=Ac Azj,fs:=Ac [(89,Xt),(91,Ke),(133,L3),(182,Aql),(183,Aa3),(226,Ahq)],lent:=fun t=>Nat.beq t 0 }
abbrev QA:=(List Int×Int×Int×Unit)×(Gr×Int×Tab×Unit)×Gr×(Gr×Int×Tab×Unit)×Int×Unit
abbrev Ps:=((List Int×Int×Int×Unit)×(Gr×Int×Tab×Unit)×(Gr×Int×Tab×Unit)×Unit)⊕Empty
def Ajn:AP:=[(0,.box CO 0),(2,.box B7 99),(3,.box Aj 0),(4,.box B7 99),(5,.v I)]
def Ajz:AJ:=[(.normal,[(0,.box CO 0),(2,.box B7 99),(4,.box B7 99)])]
def Hy (N:Nat) (back:QA->Option Ps) (d:QA):Option Ps:=
 let s0:=d.1
 let s2:=d.2.1
 let s3:=d.2.2.1
 let s4:=d.2.2.2.1
 let s5:=d.2.2.2.2.1
 if (decide (s5<(List.length s3.2.1:Int)))=true then
  ((BT 0) ((s0,((15:Int),())))).bind fun r29=>
  let x30:=IntKind.wrap .i64 ((1:Int)+r29.1)
  (Ip ((s4.2.1,(x30,())))).bind fun r31=>
  if ((List.length r31.1:Int)==(0:Int))=true then
   ((F1 0) ((r29.2.1,((4:Int),())))).bind fun r32=>
   if (!r32.1)=true then
    if (decide (List.length s4.2.2.1+List.length ([[(0:Int)]])<=lim))=true then
    let x33:=IntKind.wrap .i64 (s5+(1:Int))
    back ((r32.2.1,(s2,(s3,((s4.1,(s4.2.1,(s4.2.2.1++([[(0:Int)]]),s4.2.2.2))),(x33,()))))))
    else none
   else
    if (decide (List.length s4.2.2.1+List.length ([r31.1])<=lim))=true then
    let x34:=IntKind.wrap .i64 (s5+(1:Int))
    back ((r32.2.1,(s2,(s3,((s4.1,(s4.2.1,(s4.2.2.1++([r31.1]),s4.2.2.2))),(x34,()))))))
    else none
  else
   if (decide (List.length s4.2.2.1+List.length ([r31.1])<=lim))=true then
   let x35:=IntKind.wrap .i64 (s5+(1:Int))
   back ((r29.2.1,(s2,(s3,((s4.1,(s4.2.1,(s4.2.2.1++([r31.1]),s4.2.2.2))),(x35,()))))))
   else none
 else
  some (.inl ((s0,(s2,(s4,())))))
def IW (N:Nat):Nat->QA->Option Ps
 | 0,_=>none
 | k+1,d=>Hy N (IW N k) d
def Js (N:Nat) (d:(List Int×Int×Int×Unit)×Unit):Option ((Gr×Int×Tab×Unit)×(List Int×Int×Int×Unit)×Unit):=
 let a0:=d.1
 ((CX Mb KS) ((a0,((6:Int),())))).bind fun r1=>
 ((F1 0) ((r1.2.1,((8:Int),())))).bind fun r2=>
 if (r2.1)=true then
  ((SN 0) (r2.2.1,())).bind fun r3=>
  ((BT 0) ((r3.2.1,((4:Int),())))).bind fun r4=>
  let x5:=IntKind.wrap .i64 ((1:Int)+r4.1)
  (IW N N ((r4.2.1,((((0:Int),(([]:List (Int×Int×Unit)),())),((0:Int),(([]:Tab),()))),(r3.1,((r3.1,(x5,(([]:Tab),()))),((0:Int),()))))))).bind fun o13=>match o13 with
  | .inl d14=>
   ((BT 0) ((d14.1,((30:Int),())))).bind fun r15=>
   if (r15.1==(0:Int))=true then
    ((CD 0) ((r15.2.1,([(0:Int),(5:Int),(-1:Int)],())))).bind fun r16=>
    some (((d14.2.2.1.1,(r16.1,d14.2.2.1.2.2)),(r16.2.1,())))
   else
    if (r15.1==(1:Int))=true then
     if (decide (List.length d14.2.2.1.2.2.1+List.length ([[(0:Int)]])<=lim))=true then
     let x17:=d14.2.2.1.2.2.1++([[(0:Int)]])
     some (((d14.2.2.1.1,(d14.2.2.1.2.1,(x17,d14.2.2.1.2.2.2))),(r15.2.1,())))
     else none
    else
     if (r15.1==(2:Int))=true then
      if (decide ((List.length d14.2.2.1.2.2.1:Int)>(0:Int)))=true then
       if (Af (0:Int) (List.length d14.2.2.1.2.2.1))=true then
       ((CD 0) ((r15.2.1,([(4:Int),(0:Int),(-1:Int)],())))).bind fun r18=>
       if (decide (List.length (at_ Ai d14.2.2.1.2.2.1 (0:Int).toNat)+List.length ([r18.1])<=lim))=true then
       let x19:=(at_ Ai d14.2.2.1.2.2.1 (0:Int).toNat)++([r18.1])
       if (Af (0:Int) (List.length d14.2.2.1.2.2.1))=true then
       if (((Nat.beq (0:Int).toNat (0:Int).toNat)&&true))=true then
       some (((d14.2.2.1.1,(d14.2.2.1.2.1,(List.set d14.2.2.1.2.2.1 (0:Int).toNat x19,d14.2.2.1.2.2.2))),(r18.2.1,())))
       else none
       else none
       else none
       else none
      else
       some ((d14.2.2.1,(r15.2.1,())))
     else
      some ((d14.2.2.1,(r15.2.1,())))
 else
  ((BT 0) ((r2.2.1,((4:Int),())))).bind fun r20=>
  let x21:=IntKind.wrap .i64 ((1:Int)+r20.1)
  (IW N N ((r20.2.1,((((0:Int),(([]:List (Int×Int×Unit)),())),((0:Int),(([]:Tab),()))),(r1.1,((r1.1,(x21,(([]:Tab),()))),((0:Int),()))))))).bind fun o22=>match o22 with
  | .inl d23=>
   ((BT 0) ((d23.1,((30:Int),())))).bind fun r24=>
   if (r24.1==(0:Int))=true then
    ((CD 0) ((r24.2.1,([(0:Int),(5:Int),(-1:Int)],())))).bind fun r25=>
    some (((d23.2.2.1.1,(r25.1,d23.2.2.1.2.2)),(r25.2.1,())))
   else
    if (r24.1==(1:Int))=true then
     if (decide (List.length d23.2.2.1.2.2.1+List.length ([[(0:Int)]])<=lim))=true then
     let x26:=d23.2.2.1.2.2.1++([[(0:Int)]])
     some (((d23.2.2.1.1,(d23.2.2.1.2.1,(x26,d23.2.2.1.2.2.2))),(r24.2.1,())))
     else none
    else
     if (r24.1==(2:Int))=true then
      if (decide ((List.length d23.2.2.1.2.2.1:Int)>(0:Int)))=true then
       if (Af (0:Int) (List.length d23.2.2.1.2.2.1))=true then
       ((CD 0) ((r24.2.1,([(4:Int),(0:Int),(-1:Int)],())))).bind fun r27=>
       if (decide (List.length (at_ Ai d23.2.2.1.2.2.1 (0:Int).toNat)+List.length ([r27.1])<=lim))=true then
       let x28:=(at_ Ai d23.2.2.1.2.2.1 (0:Int).toNat)++([r27.1])
       if (Af (0:Int) (List.length d23.2.2.1.2.2.1))=true then
       if (((Nat.beq (0:Int).toNat (0:Int).toNat)&&true))=true then
       some (((d23.2.2.1.1,(d23.2.2.1.2.1,(List.set d23.2.2.1.2.2.1 (0:Int).toNat x28,d23.2.2.1.2.2.2))),(r27.2.1,())))
       else none
       else none
       else none
       else none
      else
       some ((d23.2.2.1,(r24.2.1,())))
     else
      some ((d23.2.2.1,(r24.2.1,())))
def Wo:FSig:=⟨[(AX,true)],[Ae],false,(CX Js Hf)⟩
def XQ:Ctx:={ tk:=Ac tks,ar:=Ac ars,fs:=Ac [] }
def G6 (N:Nat) (d:Int×Int×Int×Unit):Option (Bool×Unit):=
 let a0:=d.1
 let a1:=d.2.1
 let a2:=d.2.2.1
 if (decide (a0>=a1))=true then
  some (decide (a0<=a2),())
 else
  some (false,())
def Bl (d:Int×Int×Int×Unit):Bool×Unit:=
 let a0:=d.1
 let a1:=d.2.1
 let a2:=d.2.2.1
 if (decide (a0>=a1))=true then
  (decide (a0<=a2),())
 else
  (false,())
theorem Rs (N:Nat) (d):G6 N d=some (Bl d):=by
 unfold G6 Bl
 first
  | rfl
  | (dsimp only; (repeat' split)<;>rfl)
def De:FSig:=⟨[(I,false),(I,false),(I,false)],[.bool],true,(fun d=>some (Bl d))⟩
def Ayr:Ctx:={ tk:=Ac tks,ar:=Ac ars,fs:=Ac [(148,De)] }
abbrev Qx:=List Int×Int×Int×Int×Unit
abbrev P9:=(Bool×Unit)⊕Unit⊕Empty
def Ak3:AP:=[(0,.v Ai),(1,.v I),(2,.v I),(7,.v I)]
def Alv:AJ:=[(.ret,[(6,.v .bool)]),(.normal,[])]
def Lj (N:Nat) (back:Qx->Option P9) (d:Qx):Option P9:=
 let s0:=d.1
 let s1:=d.2.1
 let s2:=d.2.2.1
 let s7:=d.2.2.2.1
 if (decide (s7<(List.length s0:Int)))=true then
  if (Af s7 (List.length s0))=true then
  let r8:=Bl ((at_ I s0 s7.toNat,(s1,(s2,()))))
  if (!r8.1)=true then
   some (.inl (false,()))
  else
   if (decide (s7>(0:Int)))=true then
    let x9:=IntKind.wrap .i64 (s7-(1:Int))
    if (Af x9 (List.length s0))=true then
    if (Af s7 (List.length s0))=true then
    if (decide (at_ I s0 x9.toNat>=at_ I s0 s7.toNat))=true then
     some (.inl (false,()))
    else
     let x10:=IntKind.wrap .i64 (s7+(1:Int))
     back ((s0,(s1,(s2,(x10,())))))
    else none
    else none
   else
    let x11:=IntKind.wrap .i64 (s7+(1:Int))
    back ((s0,(s1,(s2,(x11,())))))
  else none
 else
  some (.inr (.inl ()))
def RY (N:Nat):Nat->Qx->Option P9
 | 0,_=>none
 | k+1,d=>Lj N (RY N k) d
def V1 (N:Nat) (d:List Int×Int×Int×Unit):Option (Bool×Unit):=
 let a0:=d.1
 let a1:=d.2.1
 let a2:=d.2.2.1
 (RY N N ((a0,(a1,(a2,((0:Int),())))))).bind fun o5=>match o5 with
 | .inl d6=>
  some (d6.1,())
 | .inr (.inl d7)=>
  some (true,())
def Ark:FSig:=⟨[(Ai,false),(I,false),(I,false)],[.bool],true,(GN)⟩
def Aqb:Ctx:={ tk:=Ac tks,ar:=Ac ars,fs:=Ac [(148,De),(200,Ae8)] }
abbrev Me:=Gr×Int×Unit
abbrev L2:=(Bool×Unit)⊕(Gr×Unit)⊕Empty
def Afh:AP:=[(1,.box Aj 0),(3,.v I)]
def Aas:AJ:=[(.ret,[(2,.v .bool)]),(.normal,[(1,.box Aj 0)])]
def I4 (N:Nat) (back:Me->Option L2) (d:Me):Option L2:=
 let s1:=d.1
 let s3:=d.2.1
 if (decide (s3<(List.length s1.2.1:Int)))=true then
  if (Af s3 (List.length s1.2.1))=true then
  let x13:=IntKind.wrap .i64 (s1.1-(1:Int))
  let r14:=Bl (((at_ Am s1.2.1 s3.toNat).1,((0:Int),(x13,()))))
  if (!r14.1)=true then
   some (.inl (false,()))
  else
   let x15:=IntKind.wrap .i64 (s1.1-(1:Int))
   let r16:=Bl (((at_ Am s1.2.1 s3.toNat).2.1,((0:Int),(x15,()))))
   if (!r16.1)=true then
    some (.inl (false,()))
   else
    if (decide ((at_ Am s1.2.1 s3.toNat).1>=(at_ Am s1.2.1 s3.toNat).2.1))=true then
     some (.inl (false,()))
    else
     if (decide (s3>(0:Int)))=true then
      let x17:=IntKind.wrap .i64 (s3-(1:Int))
      if (Af x17 (List.length s1.2.1))=true then
      let r18:=Jk ((at_ Am s1.2.1 x17.toNat,(at_ Am s1.2.1 s3.toNat,())))
      if (!r18.1)=true then
       some (.inl (false,()))
      else
       let x19:=IntKind.wrap .i64 (s3+(1:Int))
       back ((s1,(x19,())))
      else none
     else
      let x20:=IntKind.wrap .i64 (s3+(1:Int))
      back ((s1,(x20,())))
  else none
 else
  some (.inr (.inl (s1,())))
def M6 (N:Nat):Nat->Me->Option L2
 | 0,_=>none
 | k+1,d=>I4 N (M6 N k) d
def Sn (N:Nat) (d:Gr×Unit):Option (Bool×Unit):=
 let a0:=d.1
 (M6 N N ((a0,((0:Int),())))).bind fun o9=>match o9 with
 | .inl d10=>
  some (d10.1,())
 | .inr (.inl d11)=>
  let r12:=Bl ((d11.1.1,((0:Int),((8:Int),()))))
  some (r12.1,())
def Ag2:FSig:=⟨[(Aj,false)],[.bool],true,(C2)⟩
def Axh:Ctx:={ tk:=Ac tks,ar:=Ac ars,fs:=Ac [(115,Ag2),(148,De)] }
def Tq (N:Nat) (d:Gr×Int×Unit):Option (Bool×Unit):=
 let a0:=d.1
 let a1:=d.2.1
 (C2 (a0,())).bind fun r1=>
 if (r1.1)=true then
  if (decide (a0.1>(0:Int)))=true then
   let r2:=Bl ((a1,((1:Int),((3:Int),()))))
   some (r2.1,())
  else
   some (false,())
 else
  some (false,())
def Asy:FSig:=⟨[(Aj,false),(I,false)],[.bool],true,(Tq 0)⟩
def Aze:Ctx:={ tk:=Ac tks,ar:=Ac ars,fs:=Ac [(98,Asy),(148,De),(190,Ark)] }
abbrev QB:=(Gr×Int×Tab×Unit)×Int×Unit
abbrev Px:=(Bool×Unit)⊕((Gr×Int×Tab×Unit)×Unit)⊕Empty
def Ai4:AP:=[(1,.box Ae 0),(3,.v I)]
def Aj0:AJ:=[(.ret,[(2,.v .bool)]),(.normal,[(1,.box Ae 0)])]
def Ll (N:Nat) (back:QB->Option Px) (d:QB):Option Px:=
 let s1:=d.1
 let s3:=d.2.1
 if (decide (s3<(List.length s1.2.2.1:Int)))=true then
  if (Af s3 (List.length s1.2.2.1))=true then
  let x9:=IntKind.wrap .i64 (s1.2.1-(1:Int))
  (GN ((at_ Ai s1.2.2.1 s3.toNat,((0:Int),(x9,()))))).bind fun r10=>
  if (!r10.1)=true then
   some (.inl (false,()))
  else
   let x11:=IntKind.wrap .i64 (s3+(1:Int))
   back ((s1,(x11,())))
  else none
 else
  some (.inr (.inl (s1,())))
def Sf (N:Nat):Nat->QB->Option Px
 | 0,_=>none
 | k+1,d=>Ll N (Sf N k) d
def VR (N:Nat) (d:(Gr×Int×Tab×Unit)×Unit):Option (Bool×Unit):=
 let a0:=d.1
 (Sf N N ((a0,((0:Int),())))).bind fun o4=>match o4 with
 | .inl d5=>
  some (d5.1,())
 | .inr (.inl d6)=>
  ((Tq 0) ((d6.1.1,((1:Int),())))).bind fun r7=>
  if (r7.1)=true then
   let r8:=Bl ((d6.1.2.1,((1:Int),((4:Int),()))))
   if (r8.1)=true then
    some ((List.length d6.1.2.2.1:Int)==(List.length d6.1.1.2.1:Int),())
   else
    some (false,())
  else
   some (false,())
def SQ:FSig:=⟨[(Ae,false)],[.bool],true,(Dc)⟩
def UL:Ctx:={ tk:=Ac tks,ar:=Ac ars,fs:=Ac [] }
abbrev FS:=List Int×Int×Int×Unit
abbrev FZ:=(Bool×Unit)⊕Unit⊕Empty
def RG:AP:=[(0,.v Ai),(1,.v I),(5,.v I)]
def RH:AJ:=[(.ret,[(4,.v .bool)]),(.normal,[])]
def En (N:Nat) (back:FS->Option FZ) (d:FS):Option FZ:=
 let s0:=d.1
 let s1:=d.2.1
 let s5:=d.2.2.1
 if (decide (s5<(List.length s0:Int)))=true then
  if (Af s5 (List.length s0))=true then
  if (at_ I s0 s5.toNat==s1)=true then
   some (.inl (true,()))
  else
   let x5:=IntKind.wrap .i64 (s5+(1:Int))
   back ((s0,(s1,(x5,()))))
  else none
 else
  some (.inr (.inl ()))
def Fz (N:Nat):Nat->FS->Option FZ
 | 0,_=>none
 | k+1,d=>En N (Fz N k) d
def Gw (N:Nat) (d:List Int×Int×Unit):Option (Bool×Unit):=
 let a0:=d.1
 let a1:=d.2.1
 (Fz N N ((a0,(a1,((0:Int),()))))).bind fun o2=>match o2 with
 | .inl d3=>
  some (d3.1,())
 | .inr (.inl d4)=>
  some (false,())
def Nz:FSig:=⟨[(Ai,false),(I,false)],[.bool],true,(MX)⟩
def Azg:Ctx:={ tk:=Ac tks,ar:=Ac ars,fs:=Ac [(101,Nz)] }
abbrev Qb:=Int×(Gr×Int×Tab×Unit)×Gr×Gr×Int×Unit
abbrev Ph:=(Gr×Gr×Unit)⊕Empty
def Ali:AP:=[(1,.v I),(2,.box Ae 0),(4,.box Aj 99),(5,.box Aj 99),(6,.v I)]
def Ang:AJ:=[(.normal,[(4,.box Aj 99),(5,.box Aj 99)])]
def If (N:Nat) (back:Qb->Option Ph) (d:Qb):Option Ph:=
 let s1:=d.1
 let s2:=d.2.1
 let s4:=d.2.2.1
 let s5:=d.2.2.2.1
 let s6:=d.2.2.2.2.1
 if (decide (s6<(List.length s2.1.2.1:Int)))=true then
  if (Af s6 (List.length s2.2.2.1))=true then
  if (s2.2.1 != 0)=true then
  (MX ((at_ Ai s2.2.2.1 s6.toNat,(s1.tmod s2.2.1,())))).bind fun r7=>
  if (r7.1)=true then
   if (Af s6 (List.length s2.1.2.1))=true then
   if (decide (List.length s5.2.1+List.length ([at_ Am s2.1.2.1 s6.toNat])<=lim))=true then
   let x8:=s5.2.1++([at_ Am s2.1.2.1 s6.toNat])
   let x9:=IntKind.wrap .i64 (s6+(1:Int))
   back ((s1,(s2,(s4,((s5.1,(x8,s5.2.2)),(x9,()))))))
   else none
   else none
  else
   let x10:=IntKind.wrap .i64 (s6+(1:Int))
   back ((s1,(s2,(s4,(s5,(x10,()))))))
  else none
  else none
 else
  some (.inl ((s4,(s5,()))))
def Jq (N:Nat):Nat->Qb->Option Ph
 | 0,_=>none
 | k+1,d=>If N (Jq N k) d
def X2 (N:Nat) (d:(Gr×Int×Tab×Unit)×Int×Unit):Option (Gr×Unit):=
 let a0:=d.1
 let a1:=d.2.1
 (Jq N N ((a1,(a0,(((0:Int),(([]:List (Int×Int×Unit)),())),((a0.1.1,(([]:List (Int×Int×Unit)),())),((0:Int),()))))))).bind fun o5=>match o5 with
 | .inl d6=>
  some (d6.2.1,())
def Asf:FSig:=⟨[(Ae,false),(I,false)],[Aj],true,(GB)⟩
def Avb:Ctx:={ tk:=Ac tks,ar:=Ac ars,fs:=Ac [(240,WF)] }
abbrev Ov:=Int×Gr×List Int×Int×Unit
abbrev P7:=(List Int×Unit)⊕Empty
def Aos:AP:=[(1,.v I),(2,.box Aj 0),(5,.own Ai 99),(6,.v I)]
def Ama:AJ:=[(.normal,[(5,.own Ai 99)])]
def Kz (N:Nat) (back:Ov->Option P7) (d:Ov):Option P7:=
 let s1:=d.1
 let s2:=d.2.1
 let s5:=d.2.2.1
 let s6:=d.2.2.2.1
 if (decide (s6<s2.1))=true then
  (FF ((s2,(s1,(s6,()))))).bind fun r6=>
  if (r6.1)=true then
   if (decide (List.length s5+List.length ([s6])<=lim))=true then
   let x7:=IntKind.wrap .i64 (s6+(1:Int))
   back ((s1,(s2,(s5++([s6]),(x7,())))))
   else none
  else
   let x8:=IntKind.wrap .i64 (s6+(1:Int))
   back ((s1,(s2,(s5,(x8,())))))
 else
  some (.inl (s5,()))
def KL (N:Nat):Nat->Ov->Option P7
 | 0,_=>none
 | k+1,d=>Kz N (KL N k) d
def We (N:Nat) (d:Gr×Int×Unit):Option (List Int×Unit):=
 let a0:=d.1
 let a1:=d.2.1
 (KL N N ((a1,(a0,(([]:List Int),((0:Int),())))))).bind fun o4=>match o4 with
 | .inl d5=>
  some (d5.1,())
def Atk:FSig:=⟨[(Aj,false),(I,false)],[Ai],true,(DB)⟩
def Ayg:Ctx:={ tk:=Ac tks,ar:=Ac ars,fs:=Ac [],cs:=Ac [],gs:=Ac [],eqt:=inL [],md:={ gone:=[0],deep:=[] },cut:=fun t=>bif Nat.beq t 33 then 1 else 0 }
abbrev Om:=List Int×Int×Int×Unit
abbrev O7:=(List Int×Int×Int×Unit)⊕Empty
def Al9:AP:=[(0,.own Ai 1),(1,.v I),(5,.v I)]
def Ak1:AJ:=[(.normal,[(0,.own Ai 1),(1,.v I),(5,.v I)])]
def Ky (N:Nat) (back:Om->Option O7) (d:Om):Option O7:=
 let s0:=d.1
 let s1:=d.2.1
 let s5:=d.2.2.1
 if (decide (s5<(List.length s0:Int)))=true then
  if (Af s5 (List.length s0))=true then
  if (decide (at_ I s0 s5.toNat<s1))=true then
   let x8:=IntKind.wrap .i64 (s5+(1:Int))
   back ((s0,(s1,(x8,()))))
  else
   some (.inl ((s0,(s1,(s5,())))))
  else none
 else
  some (.inl ((s0,(s1,(s5,())))))
def K1 (N:Nat):Nat->Om->Option O7
 | 0,_=>none
 | k+1,d=>Ky N (K1 N k) d
def Xc (N:Nat) (d:List Int×Int×Unit):Option (List Int×List Int×Unit):=
 let a0:=d.1
 let a1:=d.2.1
 (K1 N N ((a0,(a1,((0:Int),()))))).bind fun o2=>match o2 with
 | .inl d3=>
  if (decide (d3.2.2.1<(List.length d3.1:Int)))=true then
   if (Af d3.2.2.1 (List.length d3.1))=true then
   if (at_ I d3.1 d3.2.2.1.toNat==d3.2.1)=true then
    some ((d3.1,(([]:List Int),())))
   else
    if ((decide (0<=(0:Int))&&decide ((0:Int)<=d3.2.2.1)&&decide (d3.2.2.1<=(List.length d3.1:Int))))=true then
    if (decide (List.length ([]:List Int)+List.length (CY d3.1 (0:Int) d3.2.2.1)<=lim))=true then
    let x4:=([]:List Int)++(CY d3.1 (0:Int) d3.2.2.1)
    if (decide (List.length x4+List.length ([d3.2.1])<=lim))=true then
    if ((decide (0<=d3.2.2.1)&&decide (d3.2.2.1<=(List.length d3.1:Int))&&decide ((List.length d3.1:Int)<=(List.length d3.1:Int))))=true then
    let x5:=CY d3.1 d3.2.2.1 (List.length d3.1:Int)
    if (decide (List.length (x4++([d3.2.1]))+List.length x5<=lim))=true then
    some (((x4++([d3.2.1]))++x5,(([]:List Int),())))
    else none
    else none
    else none
    else none
    else none
   else none
  else
   if ((decide (0<=(0:Int))&&decide ((0:Int)<=d3.2.2.1)&&decide (d3.2.2.1<=(List.length d3.1:Int))))=true then
   if (decide (List.length ([]:List Int)+List.length (CY d3.1 (0:Int) d3.2.2.1)<=lim))=true then
   let x6:=([]:List Int)++(CY d3.1 (0:Int) d3.2.2.1)
   if (decide (List.length x6+List.length ([d3.2.1])<=lim))=true then
   if ((decide (0<=d3.2.2.1)&&decide (d3.2.2.1<=(List.length d3.1:Int))&&decide ((List.length d3.1:Int)<=(List.length d3.1:Int))))=true then
   let x7:=CY d3.1 d3.2.2.1 (List.length d3.1:Int)
   if (decide (List.length (x6++([d3.2.1]))+List.length x7<=lim))=true then
   some (((x6++([d3.2.1]))++x7,(([]:List Int),())))
   else none
   else none
   else none
   else none
   else none
def As0:FSig:=⟨[(Ai,true),(I,false)],[Ai],true,(Ki)⟩
def Arg:Ctx:={ tk:=Ac tks,ar:=Ac ars,fs:=Ac [(208,Atk)],cs:=Ac [],gs:=Ac [(92,(As0,{ gone:=[0],deep:=[] }))],eqt:=inL [],md:=md0 }
def Jl (N:Nat) (d:Gr×Int×Unit):Option (List Int×Unit):=
 let a0:=d.1
 let a1:=d.2.1
 (DB ((a0,(a1,())))).bind fun r1=>
 (Ki ((r1.1,(a1,())))).bind fun r2=>
 some (r2.1,())
def Ag6:FSig:=⟨[(Aj,false),(I,false)],[Ai],true,(Jl 0)⟩
def Ays:Ctx:={ tk:=Ac tks,ar:=Ac ars,fs:=Ac [(124,Ag6),(231,Asf)] }
abbrev P4:=(Gr×Int×Tab×Unit)×List (Tab)×Int×Gr×Tab×Int×Unit
abbrev Qh:=((Gr×Int×Tab×Unit)×List (Tab)×Int×Tab×Unit)⊕Empty
def Ajm:AP:=[(1,.box Ae 0),(3,.own An 100),(4,.v I),(5,.box Aj 99),(6,.own Ag 100),(7,.v I)]
def Aje:AJ:=[(.normal,[(1,.box Ae 0),(3,.own An 100),(4,.v I),(6,.own Ag 100)])]
def K6 (N:Nat) (back:P4->Option Qh) (d:P4):Option Qh:=
 let s1:=d.1
 let s3:=d.2.1
 let s4:=d.2.2.1
 let s5:=d.2.2.2.1
 let s6:=d.2.2.2.2.1
 let s7:=d.2.2.2.2.2.1
 if (decide (s7<s5.1))=true then
  ((Jl 0) ((s5,(s7,())))).bind fun r15=>
  if (decide (List.length s6+List.length ([r15.1])<=lim))=true then
  let x16:=IntKind.wrap .i64 (s7+(1:Int))
  back ((s1,(s3,(s4,(s5,(s6++([r15.1]),(x16,())))))))
  else none
 else
  some (.inl ((s1,(s3,(s4,(s6,()))))))
def Nr (N:Nat):Nat->P4->Option Qh
 | 0,_=>none
 | k+1,d=>K6 N (Nr N k) d
abbrev Qd:=(Gr×Int×Tab×Unit)×List (Tab)×Int×Unit
abbrev PU:=(List (Tab)×Unit)⊕Empty
def Ajt:AP:=[(1,.box Ae 0),(3,.own An 100),(4,.v I)]
def Al4:AJ:=[(.normal,[(3,.own An 100)])]
def Lp (N:Nat) (back:Qd->Option PU) (d:Qd):Option PU:=
 let s1:=d.1
 let s3:=d.2.1
 let s4:=d.2.2.1
 if (decide (s4<s1.2.1))=true then
  (GB ((s1,(s4,())))).bind fun r9=>
  (Nr N N ((s1,(s3,(s4,(r9.1,(([]:Tab),((0:Int),())))))))).bind fun o12=>match o12 with
  | .inl d13=>
   if (decide (List.length d13.2.1+List.length ([d13.2.2.2.1])<=lim))=true then
   let x14:=IntKind.wrap .i64 (d13.2.2.1+(1:Int))
   back ((d13.1,(d13.2.1++([d13.2.2.2.1]),(x14,()))))
   else none
 else
  some (.inl (s3,()))
def Se (N:Nat):Nat->Qd->Option PU
 | 0,_=>none
 | k+1,d=>Lp N (Se N k) d
def Wx (N:Nat) (d:(Gr×Int×Tab×Unit)×Unit):Option (List (Tab)×Unit):=
 let a0:=d.1
 (Se N N ((a0,(([]:List (Tab)),((0:Int),()))))).bind fun o7=>match o7 with
 | .inl d8=>
  some (d8.1,())
def WZ:FSig:=⟨[(Ae,false)],[An],true,(Dp)⟩
def Au5:Ctx:={ tk:=Ac tks,ar:=Ac ars,fs:=Ac [] }
abbrev NZ:=Int×Int×List (Tab)×Int×Tab×Int×List Int×Int×Unit
abbrev PE:=(Int×Int×List (Tab)×Int×Tab×Int×List Int×Unit)⊕Empty
def Alm:AP:=[(0,.v I),(1,.v I),(5,.own An 100),(6,.v I),(7,.own Ag 100),(8,.v I),(9,.own Ai 99),(10,.v I)]
def Aji:AJ:=[(.normal,[(0,.v I),(1,.v I),(5,.own An 100),(6,.v I),(7,.own Ag 100),(8,.v I),(9,.own Ai 99)])]
def Lz (N:Nat) (back:NZ->Option PE) (d:NZ):Option PE:=
 let s0:=d.1
 let s1:=d.2.1
 let s5:=d.2.2.1
 let s6:=d.2.2.2.1
 let s7:=d.2.2.2.2.1
 let s8:=d.2.2.2.2.2.1
 let s9:=d.2.2.2.2.2.2.1
 let s10:=d.2.2.2.2.2.2.2.1
 if (decide (s10<s1))=true then
  if (s8==s10)=true then
   if (decide (List.length s9+List.length ([(0:Int)])<=lim))=true then
   let x28:=IntKind.wrap .i64 (s10+(1:Int))
   back ((s0,(s1,(s5,(s6,(s7,(s8,(s9++([(0:Int)]),(x28,())))))))))
   else none
  else
   if (decide (List.length s9+List.length ([(-1:Int)])<=lim))=true then
   let x29:=IntKind.wrap .i64 (s10+(1:Int))
   back ((s0,(s1,(s5,(s6,(s7,(s8,(s9++([(-1:Int)]),(x29,())))))))))
   else none
 else
  some (.inl ((s0,(s1,(s5,(s6,(s7,(s8,(s9,())))))))))
def Nx (N:Nat):Nat->NZ->Option PE
 | 0,_=>none
 | k+1,d=>Lz N (Nx N k) d
abbrev Pb:=Int×Int×List (Tab)×Int×Tab×Int×Unit
abbrev QN:=(Int×Int×List (Tab)×Int×Tab×Unit)⊕Empty
def Amp:AP:=[(0,.v I),(1,.v I),(5,.own An 100),(6,.v I),(7,.own Ag 100),(8,.v I)]
def Ao3:AJ:=[(.normal,[(0,.v I),(1,.v I),(5,.own An 100),(6,.v I),(7,.own Ag 100)])]
def KG (N:Nat) (back:Pb->Option QN) (d:Pb):Option QN:=
 let s0:=d.1
 let s1:=d.2.1
 let s5:=d.2.2.1
 let s6:=d.2.2.2.1
 let s7:=d.2.2.2.2.1
 let s8:=d.2.2.2.2.2.1
 if (decide (s8<s1))=true then
  (Nx N N ((s0,(s1,(s5,(s6,(s7,(s8,(([]:List Int),((0:Int),())))))))))).bind fun o24=>match o24 with
  | .inl d25=>
   if (decide (List.length d25.2.2.2.2.1+List.length ([d25.2.2.2.2.2.2.1])<=lim))=true then
   let x26:=d25.2.2.2.2.1++([d25.2.2.2.2.2.2.1])
   let x27:=IntKind.wrap .i64 (d25.2.2.2.2.2.1+(1:Int))
   back ((d25.1,(d25.2.1,(d25.2.2.1,(d25.2.2.2.1,(x26,(x27,())))))))
   else none
 else
  some (.inl ((s0,(s1,(s5,(s6,(s7,())))))))
def Nf (N:Nat):Nat->Pb->Option QN
 | 0,_=>none
 | k+1,d=>KG N (Nf N k) d
abbrev Qf:=Int×Int×List (Tab)×Int×Unit
abbrev P8:=(List (Tab)×Unit)⊕Empty
def Amy:AP:=[(0,.v I),(1,.v I),(5,.own An 100),(6,.v I)]
def Amn:AJ:=[(.normal,[(5,.own An 100)])]
def K7 (N:Nat) (back:Qf->Option P8) (d:Qf):Option P8:=
 let s0:=d.1
 let s1:=d.2.1
 let s5:=d.2.2.1
 let s6:=d.2.2.2.1
 if (decide (s6<s0))=true then
  (Nf N N ((s0,(s1,(s5,(s6,(([]:Tab),((0:Int),())))))))).bind fun o18=>match o18 with
  | .inl d19=>
   if (decide (List.length d19.2.2.1+List.length ([d19.2.2.2.2.1])<=lim))=true then
   let x20:=d19.2.2.1++([d19.2.2.2.2.1])
   let x21:=IntKind.wrap .i64 (d19.2.2.2.1+(1:Int))
   back ((d19.1,(d19.2.1,(x20,(x21,())))))
   else none
 else
  some (.inl (s5,()))
def Sh (N:Nat):Nat->Qf->Option P8
 | 0,_=>none
 | k+1,d=>K7 N (Sh N k) d
def XD (N:Nat) (d:Int×Int×Unit):Option (List (Tab)×Unit):=
 let a0:=d.1
 let a1:=d.2.1
 (Sh N N ((a0,(a1,(([]:List (Tab)),((0:Int),())))))).bind fun o10=>match o10 with
 | .inl d11=>
  some (d11.1,())
def Atn:FSig:=⟨[(I,false),(I,false)],[An],true,(Ev)⟩
def Aww:Ctx:={ tk:=Ac tks,ar:=Ac ars,fs:=Ac [(201,Su)] }
abbrev PW:=List (Tab)×Int×Int×Int×List Int×Int×Unit
abbrev PL:=(Int×Unit)⊕(Int×Unit)⊕Empty
def Aon:AP:=[(0,.v An),(2,.v I),(4,.v I),(11,.v I),(12,.v Ai),(13,.v I)]
def Akf:AJ:=[(.ret,[(10,.v I)]),(.normal,[(11,.v I)])]
def H0 (N:Nat) (back:PW->Option PL) (d:PW):Option PL:=
 let s0:=d.1
 let s2:=d.2.1
 let s4:=d.2.2.1
 let s11:=d.2.2.2.1
 let s12:=d.2.2.2.2.1
 let s13:=d.2.2.2.2.2.1
 if (Af s2 (List.length s0))=true then
 if (Af s4 (List.length (at_ Ag s0 s2.toNat)))=true then
 if (decide (s13<(List.length (at_ Ai (at_ Ag s0 s2.toNat) s4.toNat):Int)))=true then
  if (Af s2 (List.length s0))=true then
  if (Af s4 (List.length (at_ Ag s0 s2.toNat)))=true then
  if (Af s13 (List.length (at_ Ai (at_ Ag s0 s2.toNat) s4.toNat)))=true then
  if (Af (at_ I (at_ Ai (at_ Ag s0 s2.toNat) s4.toNat) s13.toNat) (List.length s12))=true then
  if (decide (at_ I s12 (at_ I (at_ Ai (at_ Ag s0 s2.toNat) s4.toNat) s13.toNat).toNat<(0:Int)))=true then
   some (.inl ((-1:Int),()))
  else
   let r8:=He ((s11,(at_ I s12 (at_ I (at_ Ai (at_ Ag s0 s2.toNat) s4.toNat) s13.toNat).toNat,())))
   let x9:=IntKind.wrap .i64 (s13+(1:Int))
   back ((s0,(s2,(s4,(r8.1,(s12,(x9,())))))))
  else none
  else none
  else none
  else none
 else
  some (.inr (.inl (s11,())))
 else none
 else none
def Ge (N:Nat):Nat->PW->Option PL
 | 0,_=>none
 | k+1,d=>H0 N (Ge N k) d
def W3 (N:Nat) (d:List (Tab)×List (Tab)×Int×Int×Int×Unit):Option (Int×Unit):=
 let a0:=d.1
 let a1:=d.2.1
 let a2:=d.2.2.1
 let a3:=d.2.2.2.1
 let a4:=d.2.2.2.2.1
 if (a3==a4)=true then
  some ((0:Int),())
 else
  let x1:=IntKind.wrap .i64 (a2+(1:Int))
  if ((List.length a0:Int) != 0)=true then
  let x2:=x1.tmod (List.length a0:Int)
  if (Af x2 (List.length a1))=true then
  if (Af a3 (List.length (at_ Ag a1 x2.toNat)))=true then
  (Ge N N ((a0,(a2,(a4,((0:Int),(at_ Ai (at_ Ag a1 x2.toNat) a3.toNat,((0:Int),())))))))).bind fun o5=>match o5 with
  | .inl d6=>
   some (d6.1,())
  | .inr (.inl d7)=>
   some (d7.1,())
  else none
  else none
  else none
def Wt:FSig:=⟨[(An,false),(An,false),(I,false),(I,false),(I,false)],[I],true,(CS)⟩
def Ar1:Ctx:={ tk:=Ac tks,ar:=Ac ars,fs:=Ac [(180,Wt)] }
abbrev MC:=List (Tab)×List (Tab)×Int×Int×Int×Int×Unit
abbrev L6:=(Bool×Unit)⊕Unit⊕Empty
def Ad8:AP:=[(0,.v An),(1,.v An),(2,.v I),(3,.v I),(4,.v I),(11,.v I)]
def Afc:AJ:=[(.ret,[(10,.v .bool)]),(.normal,[])]
def Jr (N:Nat) (back:MC->Option L6) (d:MC):Option L6:=
 let s0:=d.1
 let s1:=d.2.1
 let s2:=d.2.2.1
 let s3:=d.2.2.2.1
 let s4:=d.2.2.2.2.1
 let s11:=d.2.2.2.2.2.1
 if (Af s2 (List.length s0))=true then
 if (Af s3 (List.length (at_ Ag s0 s2.toNat)))=true then
 if (decide (s11<(List.length (at_ Ai (at_ Ag s0 s2.toNat) s3.toNat):Int)))=true then
  if (Af s2 (List.length s0))=true then
  if (Af s3 (List.length (at_ Ag s0 s2.toNat)))=true then
  if (Af s11 (List.length (at_ Ai (at_ Ag s0 s2.toNat) s3.toNat)))=true then
  (CS ((s0,(s1,(s2,(at_ I (at_ Ai (at_ Ag s0 s2.toNat) s3.toNat) s11.toNat,(s4,()))))))).bind fun r6=>
  if (decide (r6.1>=(0:Int)))=true then
   some (.inl (true,()))
  else
   let x7:=IntKind.wrap .i64 (s11+(1:Int))
   back ((s0,(s1,(s2,(s3,(s4,(x7,())))))))
  else none
  else none
  else none
 else
  some (.inr (.inl ()))
 else none
 else none
def NB (N:Nat):Nat->MC->Option L6
 | 0,_=>none
 | k+1,d=>Jr N (NB N k) d
def Sj (N:Nat) (d:List (Tab)×List (Tab)×Int×Int×Int×Unit):Option (Bool×Unit):=
 let a0:=d.1
 let a1:=d.2.1
 let a2:=d.2.2.1
 let a3:=d.2.2.2.1
 let a4:=d.2.2.2.2.1
 (NB N N ((a0,(a1,(a2,(a3,(a4,((0:Int),())))))))).bind fun o3=>match o3 with
 | .inl d4=>
  some (d4.1,())
 | .inr (.inl d5)=>
  some (false,())
def Ahh:FSig:=⟨[(An,false),(An,false),(I,false),(I,false),(I,false)],[.bool],true,(HF)⟩
def Awm:Ctx:={ tk:=Ac tks,ar:=Ac ars,fs:=Ac [(165,WZ),(234,Atn),(235,Ahh)] }
abbrev O8:=(Gr×Int×Tab×Unit)×List (Tab)×List (Tab)×Int×List (Tab)×Bool×Int×Int×Int×Unit
abbrev Q0:=((Gr×Int×Tab×Unit)×List (Tab)×List (Tab)×Int×List (Tab)×Bool×Int×Int×Unit)⊕Empty
def Alk:AP:=[(1,.box Ae 0),(3,.own An 99),(4,.own An 99),(5,.v I),(6,.own An 99),(7,.v .bool),(8,.v I),(9,.v I),(10,.v I)]
def Al2:AJ:=[(.normal,[(1,.box Ae 0),(3,.own An 99),(4,.own An 99),(5,.v I),(6,.own An 99),(7,.v .bool),(8,.v I),(9,.v I)])]
def Lq (N:Nat) (back:O8->Option Q0) (d:O8):Option Q0:=
 let s1:=d.1
 let s3:=d.2.1
 let s4:=d.2.2.1
 let s5:=d.2.2.2.1
 let s6:=d.2.2.2.2.1
 let s7:=d.2.2.2.2.2.1
 let s8:=d.2.2.2.2.2.2.1
 let s9:=d.2.2.2.2.2.2.2.1
 let s10:=d.2.2.2.2.2.2.2.2.1
 if (decide (s10<s1.1.1))=true then
  if (Af s8 (List.length s6))=true then
  if (Af s9 (List.length (at_ Ag s6 s8.toNat)))=true then
  if (Af s8 (List.length s4))=true then
  if (Af s9 (List.length (at_ Ag s4 s8.toNat)))=true then
  if (Af s10 (List.length (at_ Ai (at_ Ag s4 s8.toNat) s9.toNat)))=true then
  if (Af s10 (List.length (at_ Ai (at_ Ag s6 s8.toNat) s9.toNat)))=true then
  let x58:=List.set s6 s8.toNat (List.set (at_ Ag s6 s8.toNat) s9.toNat (List.set (at_ Ai (at_ Ag s6 s8.toNat) s9.toNat) s10.toNat (at_ I (at_ Ai (at_ Ag s4 s8.toNat) s9.toNat) s10.toNat)))
  if (Af s8 (List.length s4))=true then
  if (Af s9 (List.length (at_ Ag s4 s8.toNat)))=true then
  if (Af s10 (List.length (at_ Ai (at_ Ag s4 s8.toNat) s9.toNat)))=true then
  if (decide (at_ I (at_ Ai (at_ Ag s4 s8.toNat) s9.toNat) s10.toNat<(0:Int)))=true then
   (HF ((s3,(s4,(s8,(s9,(s10,()))))))).bind fun r59=>
   if (r59.1)=true then
    if (Af s8 (List.length x58))=true then
    if (Af s9 (List.length (at_ Ag x58 s8.toNat)))=true then
    if (Af s10 (List.length (at_ Ai (at_ Ag x58 s8.toNat) s9.toNat)))=true then
    let x60:=List.set x58 s8.toNat (List.set (at_ Ag x58 s8.toNat) s9.toNat (List.set (at_ Ai (at_ Ag x58 s8.toNat) s9.toNat) s10.toNat s5))
    let x61:=IntKind.wrap .i64 (s10+(1:Int))
    back ((s1,(s3,(s4,(s5,(x60,(true,(s8,(s9,(x61,()))))))))))
    else none
    else none
    else none
   else
    let x62:=IntKind.wrap .i64 (s10+(1:Int))
    back ((s1,(s3,(s4,(s5,(x58,(s7,(s8,(s9,(x62,()))))))))))
  else
   let x63:=IntKind.wrap .i64 (s10+(1:Int))
   back ((s1,(s3,(s4,(s5,(x58,(s7,(s8,(s9,(x63,()))))))))))
  else none
  else none
  else none
  else none
  else none
  else none
  else none
  else none
  else none
 else
  some (.inl ((s1,(s3,(s4,(s5,(s6,(s7,(s8,(s9,()))))))))))
def NO (N:Nat):Nat->O8->Option Q0
 | 0,_=>none
 | k+1,d=>Lq N (NO N k) d
abbrev PX:=(Gr×Int×Tab×Unit)×List (Tab)×List (Tab)×Int×List (Tab)×Bool×Int×Int×Unit
abbrev PJ:=((Gr×Int×Tab×Unit)×List (Tab)×List (Tab)×Int×List (Tab)×Bool×Int×Unit)⊕Empty
def Ant:AP:=[(1,.box Ae 0),(3,.own An 99),(4,.own An 99),(5,.v I),(6,.own An 99),(7,.v .bool),(8,.v I),(9,.v I)]
def Ao1:AJ:=[(.normal,[(1,.box Ae 0),(3,.own An 99),(4,.own An 99),(5,.v I),(6,.own An 99),(7,.v .bool),(8,.v I)])]
def K9 (N:Nat) (back:PX->Option PJ) (d:PX):Option PJ:=
 let s1:=d.1
 let s3:=d.2.1
 let s4:=d.2.2.1
 let s5:=d.2.2.2.1
 let s6:=d.2.2.2.2.1
 let s7:=d.2.2.2.2.2.1
 let s8:=d.2.2.2.2.2.2.1
 let s9:=d.2.2.2.2.2.2.2.1
 if (decide (s9<s1.1.1))=true then
  (NO N N ((s1,(s3,(s4,(s5,(s6,(s7,(s8,(s9,((0:Int),()))))))))))).bind fun o55=>match o55 with
  | .inl d56=>
   let x57:=IntKind.wrap .i64 (d56.2.2.2.2.2.2.2.1+(1:Int))
   back ((d56.1,(d56.2.1,(d56.2.2.1,(d56.2.2.2.1,(d56.2.2.2.2.1,(d56.2.2.2.2.2.1,(d56.2.2.2.2.2.2.1,(x57,())))))))))
 else
  some (.inl ((s1,(s3,(s4,(s5,(s6,(s7,(s8,())))))))))
def NF (N:Nat):Nat->PX->Option PJ
 | 0,_=>none
 | k+1,d=>K9 N (NF N k) d
abbrev QL:=(Gr×Int×Tab×Unit)×List (Tab)×List (Tab)×Int×List (Tab)×Bool×Int×Unit
abbrev Pd:=((Gr×Int×Tab×Unit)×List (Tab)×Int×List (Tab)×Bool×Unit)⊕Empty
def Als:AP:=[(1,.box Ae 0),(3,.own An 99),(4,.own An 99),(5,.v I),(6,.own An 99),(7,.v .bool),(8,.v I)]
def Apc:AJ:=[(.normal,[(1,.box Ae 0),(3,.own An 99),(5,.v I),(6,.own An 99),(7,.v .bool)])]
def Le (N:Nat) (back:QL->Option Pd) (d:QL):Option Pd:=
 let s1:=d.1
 let s3:=d.2.1
 let s4:=d.2.2.1
 let s5:=d.2.2.2.1
 let s6:=d.2.2.2.2.1
 let s7:=d.2.2.2.2.2.1
 let s8:=d.2.2.2.2.2.2.1
 if (decide (s8<s1.2.1))=true then
  (NF N N ((s1,(s3,(s4,(s5,(s6,(s7,(s8,((0:Int),())))))))))).bind fun o46=>match o46 with
  | .inl d47=>
   let x48:=IntKind.wrap .i64 (d47.2.2.2.2.2.2.1+(1:Int))
   back ((d47.1,(d47.2.1,(d47.2.2.1,(d47.2.2.2.1,(d47.2.2.2.2.1,(d47.2.2.2.2.2.1,(x48,()))))))))
 else
  some (.inl ((s1,(s3,(s5,(s6,(s7,())))))))
def Nm (N:Nat):Nat->QL->Option Pd
 | 0,_=>none
 | k+1,d=>Le N (Nm N k) d
abbrev Qq:=(Gr×Int×Tab×Unit)×List (Tab)×List (Tab)×Int×Unit
abbrev PY:=(List (Tab)×Unit)⊕Empty
def All:AP:=[(1,.box Ae 0),(3,.own An 99),(4,.own An 99),(5,.v I)]
def Anw:AJ:=[(.ret,[(2,.own An 99)])]
def Oy (N:Nat) (back:Qq->Option PY) (d:Qq):Option PY:=
 let s1:=d.1
 let s3:=d.2.1
 let s4:=d.2.2.1
 let s5:=d.2.2.2.1
 (Ev ((s1.2.1,(s1.1.1,())))).bind fun r21=>
 (Nm N N ((s1,(s3,(s4,(s5,(r21.1,(false,((0:Int),()))))))))).bind fun o34=>match o34 with
 | .inl d35=>
  if (!d35.2.2.2.2.1)=true then
   some (.inl (d35.2.2.2.1,()))
  else
   let x36:=IntKind.wrap .i64 (d35.2.2.1+(1:Int))
   back ((d35.1,(d35.2.1,(d35.2.2.2.1,(x36,())))))
def Nl (N:Nat):Nat->Qq->Option PY
 | 0,_=>none
 | k+1,d=>Oy N (Nl N k) d
def VK (N:Nat) (d:(Gr×Int×Tab×Unit)×Unit):Option (List (Tab)×Unit):=
 let a0:=d.1
 (Dp (a0,())).bind fun r1=>
 (Ev ((a0.2.1,(a0.1.1,())))).bind fun r2=>
 (Nl N N ((a0,(r1.1,(r2.1,((1:Int),())))))).bind fun o19=>match o19 with
 | .inl d20=>
  some (d20.1,())
def V3:FSig:=⟨[(Ae,false)],[An],true,(Dh)⟩
def Avu:Ctx:={ tk:=Ac tks,ar:=Ac ars,fs:=Ac [(163,SQ),(171,V3)] }
def Jh (N:Nat) (d:(Gr×Int×Tab×Unit)×Unit):Option (List (Tab)×Bool×Unit):=
 let a0:=d.1
 (Dc (a0,())).bind fun r1=>
 if (!r1.1)=true then
  some ((([]:List (Tab)),(false,())))
 else
  (Dh (a0,())).bind fun r2=>
  some ((r2.1,(true,())))
def Aey:FSig:=⟨[(Ae,false)],[An,.bool],true,(Jh 0)⟩
def Axp:Ctx:={ tk:=Ac tks,ar:=Ac ars,fs:=Ac [(78,Aey),(91,Ke),(133,L3),(160,Wo)],dm:=fun t=>Nat.beq t 97,cs:=Ac [],gs:=Ac [],eqt:=inL [],md:=md0,thin:=fun t=>Nat.beq t 97 }
def QU (N:Nat) (d:List Int×Unit):Option ((Gr×Int×Tab×Unit)×List (Tab)×Unit):=
 let a0:=d.1
 ((CX Js Hf) (((a0,((0:Int),((0:Int),()))),()))).bind fun r10=>
 ((Jh 0) (r10.1,())).bind fun r11=>
 if (decide ((List.length r11.1:Int)>(0:Int)))=true then
  ((BT 0) ((r10.2.1,((List.length r11.1:Int),())))).bind fun r12=>
  if (Af r12.1 (List.length r11.1))=true then
  ((BT 0) ((r12.2.1,((List.length (at_ Ag r11.1 r12.1.toNat):Int),())))).bind fun r13=>
  if (Af r12.1 (List.length r11.1))=true then
  if (Af r13.1 (List.length (at_ Ag r11.1 r12.1.toNat)))=true then
  ((BT 0) ((r13.2.1,((List.length (at_ Ai (at_ Ag r11.1 r12.1.toNat) r13.1.toNat):Int),())))).bind fun r14=>
  ((BT 0) ((r14.2.1,((8:Int),())))).bind fun r15=>
  if (r15.1==(0:Int))=true then
   if (Af r12.1 (List.length r11.1))=true then
   if (Af r13.1 (List.length (at_ Ag r11.1 r12.1.toNat)))=true then
   if (Af r12.1 (List.length r11.1))=true then
   if (Af r13.1 (List.length (at_ Ag r11.1 r12.1.toNat)))=true then
   if (Af r14.1 (List.length (at_ Ai (at_ Ag r11.1 r12.1.toNat) r13.1.toNat)))=true then
   ((CD 0) ((r15.2.1,([(1:Int),(-1:Int),(2:Int)],())))).bind fun r16=>
   let x17:=IntKind.wrap .i64 (at_ I (at_ Ai (at_ Ag r11.1 r12.1.toNat) r13.1.toNat) r14.1.toNat+r16.1)
   if (Af r14.1 (List.length (at_ Ai (at_ Ag r11.1 r12.1.toNat) r13.1.toNat)))=true then
   let x18:=List.set r11.1 r12.1.toNat (List.set (at_ Ag r11.1 r12.1.toNat) r13.1.toNat (List.set (at_ Ai (at_ Ag r11.1 r12.1.toNat) r13.1.toNat) r14.1.toNat x17))
   some ((r10.1,(x18,())))
   else none
   else none
   else none
   else none
   else none
   else none
  else
   if (r15.1==(1:Int))=true then
    if (Af r12.1 (List.length r11.1))=true then
    if (Af r13.1 (List.length (at_ Ag r11.1 r12.1.toNat)))=true then
    ((CD 0) ((r15.2.1,([(-2:Int),(-1:Int),(0:Int),(4611686018427387904:Int)],())))).bind fun r19=>
    if (Af r14.1 (List.length (at_ Ai (at_ Ag r11.1 r12.1.toNat) r13.1.toNat)))=true then
    let x20:=List.set r11.1 r12.1.toNat (List.set (at_ Ag r11.1 r12.1.toNat) r13.1.toNat (List.set (at_ Ai (at_ Ag r11.1 r12.1.toNat) r13.1.toNat) r14.1.toNat r19.1))
    some ((r10.1,(x20,())))
    else none
    else none
    else none
   else
    if (r15.1==(2:Int))=true then
     if ((decide (0<=(1:Int))&&decide ((1:Int)<=(List.length r11.1:Int))&&decide ((List.length r11.1:Int)<=(List.length r11.1:Int))))=true then
     let x21:=CY r11.1 (1:Int) (List.length r11.1:Int)
     some ((r10.1,(x21,())))
     else none
    else
     if (r15.1==(3:Int))=true then
      if (Af r12.1 (List.length r11.1))=true then
      if ((decide (0<=(1:Int))&&decide ((1:Int)<=(List.length (at_ Ag r11.1 r12.1.toNat):Int))&&decide ((List.length (at_ Ag r11.1 r12.1.toNat):Int)<=(List.length (at_ Ag r11.1 r12.1.toNat):Int))))=true then
      let x22:=CY (at_ Ag r11.1 r12.1.toNat) (1:Int) (List.length (at_ Ag r11.1 r12.1.toNat):Int)
      if (Af r12.1 (List.length r11.1))=true then
      let x23:=List.set r11.1 r12.1.toNat x22
      some ((r10.1,(x23,())))
      else none
      else none
      else none
     else
      some ((r10.1,(r11.1,())))
  else none
  else none
  else none
 else
  some ((r10.1,(r11.1,())))
def Arl:FSig:=⟨[(K_Su8,false)],[Ae,An],false,(QU 0)⟩
def Apq:Ctx:={ tk:=Ac tks,ar:=Ac ars,fs:=Ac [] }
def RN (N:Nat) (d:Int×Int×Int×Unit):Option (Bool×Unit):=
 let a0:=d.1
 let a1:=d.2.1
 let a2:=d.2.2.1
 if (decide (a0>=a1))=true then
  some (decide (a0<=a2),())
 else
  some (false,())
def EX (d:Int×Int×Int×Unit):Bool×Unit:=
 let a0:=d.1
 let a1:=d.2.1
 let a2:=d.2.2.1
 if (decide (a0>=a1))=true then
  (decide (a0<=a2),())
 else
  (false,())
theorem YJ (N:Nat) (d):RN N d=some (EX d):=by
 unfold RN EX
 first
  | rfl
  | (dsimp only; (repeat' split)<;>rfl)
def KW:FSig:=⟨[(I,false),(I,false),(I,false)],[.bool],true,(fun d=>some (EX d))⟩
def Azd:Ctx:={ tk:=Ac tks,ar:=Ac ars,fs:=Ac [] }
def Xn (N:Nat) (d:Int×Unit):Option (Bool×Unit):=
 let a0:=d.1
 some (a0 != a0,())
def JQ (d:Int×Unit):Bool×Unit:=
 let a0:=d.1
 (a0 != a0,())
theorem Abu (N:Nat) (d):Xn N d=some (JQ d):=by
 unfold Xn JQ
 first
  | rfl
  | (dsimp only; (repeat' split)<;>rfl)
def Atp:FSig:=⟨[(I,false)],[.bool],true,(fun d=>some (JQ d))⟩
def Axb:Ctx:={ tk:=Ac tks,ar:=Ac ars,fs:=Ac [(258,Atp)] }
def XW (N:Nat) (d:Int×Int×Unit):Option (Int×Unit):=
 let a0:=d.1
 let a1:=d.2.1
 let r1:=JQ (a0,())
 let r2:=JQ (a1,())
 if (r1.1)=true then
  if (r2.1)=true then
   some ((0:Int),())
  else
   some ((-1:Int),())
 else
  if (r2.1)=true then
   some ((1:Int),())
  else
   if (decide (a0<a1))=true then
    some ((-1:Int),())
   else
    if (decide (a0>a1))=true then
     some ((1:Int),())
    else
     some ((0:Int),())
def Qm (d:Int×Int×Unit):Int×Unit:=
 let a0:=d.1
 let a1:=d.2.1
 let r1:=JQ (a0,())
 let r2:=JQ (a1,())
 if (r1.1)=true then
  if (r2.1)=true then
   ((0:Int),())
  else
   ((-1:Int),())
 else
  if (r2.1)=true then
   ((1:Int),())
  else
   if (decide (a0<a1))=true then
    ((-1:Int),())
   else
    if (decide (a0>a1))=true then
     ((1:Int),())
    else
     ((0:Int),())
theorem Aa2 (N:Nat) (d):XW N d=some (Qm d):=by
 unfold XW Qm
 first
  | rfl
  | (dsimp only; (repeat' split)<;>rfl)
def Ati:FSig:=⟨[(I,false),(I,false)],[I],true,(fun d=>some (Qm d))⟩
def Axt:Ctx:={ tk:=Ac tks,ar:=Ac ars,fs:=Ac [(246,Ati)] }
abbrev P6:=List Int×List Int×List Int×Int×Int×Unit
abbrev O1:=(Int×Unit)⊕(List Int×List Int×Unit)⊕Empty
def Ai5:AP:=[(0,.v Ai),(1,.v Ai),(9,.v Ai),(10,.v I),(11,.v I)]
def Anq:AJ:=[(.ret,[(4,.v I)]),(.normal,[(0,.v Ai),(1,.v Ai)])]
def Il (N:Nat) (back:P6->Option O1) (d:P6):Option O1:=
 let s0:=d.1
 let s1:=d.2.1
 let s9:=d.2.2.1
 let s10:=d.2.2.2.1
 let s11:=d.2.2.2.2.1
 if (decide (s11<s10))=true then
  if (Af s11 (List.length s9))=true then
  if (decide (s11>=(List.length s1:Int)))=true then
   some (.inl ((1:Int),()))
  else
   if (Af s11 (List.length s1))=true then
   let r6:=Qm ((at_ I s9 s11.toNat,(at_ I s1 s11.toNat,())))
   if (r6.1 != (0:Int))=true then
    some (.inl (r6.1,()))
   else
    let x7:=IntKind.wrap .i64 (s11+(1:Int))
    back ((s0,(s1,(s9,(s10,(x7,()))))))
   else none
  else none
 else
  some (.inr (.inl ((s0,(s1,())))))
def IB (N:Nat):Nat->P6->Option O1
 | 0,_=>none
 | k+1,d=>Il N (IB N k) d
def XY (N:Nat) (d:List Int×List Int×Unit):Option (Int×Unit):=
 let a0:=d.1
 let a1:=d.2.1
 (IB N N ((a0,(a1,(a0,((List.length a0:Int),((0:Int),()))))))).bind fun o3=>match o3 with
 | .inl d4=>
  some (d4.1,())
 | .inr (.inl d5)=>
  if (decide ((List.length d5.1:Int)<(List.length d5.2.1:Int)))=true then
   some ((-1:Int),())
  else
   some ((0:Int),())
def Atr:FSig:=⟨[(Ai,false),(Ai,false)],[I],true,(EI)⟩
def Aqa:Ctx:={ tk:=Ac tks,ar:=Ac ars,fs:=Ac [(143,KW),(199,Atr)] }
abbrev Ma:=Gr×(List (Int×Int×Unit))×Int×Int×Unit
abbrev L8:=(Bool×Unit)⊕Unit⊕Empty
def Aau:AP:=[(1,.box Aj 0),(10,.v Cc),(11,.v I),(12,.v I)]
def Aci:AJ:=[(.ret,[(2,.v .bool)]),(.normal,[])]
def I8 (N:Nat) (back:Ma->Option L8) (d:Ma):Option L8:=
 let s1:=d.1
 let s10:=d.2.1
 let s11:=d.2.2.1
 let s12:=d.2.2.2.1
 if (decide (s12<s11))=true then
  if (Af s12 (List.length s10))=true then
  if (decide ((at_ Am s10 s12.toNat).1<(0:Int)))=true then
   some (.inl (false,()))
  else
   if (decide ((at_ Am s10 s12.toNat).1>=(at_ Am s10 s12.toNat).2.1))=true then
    some (.inl (false,()))
   else
    if (decide ((at_ Am s10 s12.toNat).2.1>=s1.1))=true then
     some (.inl (false,()))
    else
     if (decide (s12>(0:Int)))=true then
      let x9:=IntKind.wrap .i64 (s12-(1:Int))
      if (Af x9 (List.length s1.2.1))=true then
      (EI (([(at_ Am s1.2.1 x9.toNat).1,(at_ Am s1.2.1 x9.toNat).2.1],([(at_ Am s10 s12.toNat).1,(at_ Am s10 s12.toNat).2.1],())))).bind fun r10=>
      if (decide (r10.1>=(0:Int)))=true then
       some (.inl (false,()))
      else
       let x11:=IntKind.wrap .i64 (s12+(1:Int))
       back ((s1,(s10,(s11,(x11,())))))
      else none
     else
      let x12:=IntKind.wrap .i64 (s12+(1:Int))
      back ((s1,(s10,(s11,(x12,())))))
  else none
 else
  some (.inr (.inl ()))
def NV (N:Nat):Nat->Ma->Option L8
 | 0,_=>none
 | k+1,d=>I8 N (NV N k) d
def SH (N:Nat) (d:Gr×Unit):Option (Bool×Unit):=
 let a0:=d.1
 let r1:=EX ((a0.1,((0:Int),((8:Int),()))))
 if (!r1.1)=true then
  some (false,())
 else
  (NV N N ((a0,(a0.2.1,((List.length a0.2.1:Int),((0:Int),())))))).bind fun o6=>match o6 with
  | .inl d7=>
   some (d7.1,())
  | .inr (.inl d8)=>
   some (true,())
def No:FSig:=⟨[(Aj,false)],[.bool],true,(C2)⟩
def Ayj:Ctx:={ tk:=Ac tks,ar:=Ac ars,fs:=Ac [] }
abbrev Qv:=List Int×Int×Unit
abbrev Pu:=(Bool×Unit)⊕Unit⊕Empty
def Al8:AP:=[(0,.v Ai),(3,.v I)]
def Aiv:AJ:=[(.ret,[(2,.v .bool)]),(.normal,[])]
def Lt (N:Nat) (back:Qv->Option Pu) (d:Qv):Option Pu:=
 let s0:=d.1
 let s3:=d.2.1
 if (decide (s3<(List.length s0:Int)))=true then
  let x6:=IntKind.wrap .i64 (s3-(1:Int))
  if (Af x6 (List.length s0))=true then
  if (Af s3 (List.length s0))=true then
  if (decide (at_ I s0 x6.toNat>=at_ I s0 s3.toNat))=true then
   some (.inl (false,()))
  else
   let x7:=IntKind.wrap .i64 (s3+(1:Int))
   back ((s0,(x7,())))
  else none
  else none
 else
  some (.inr (.inl ()))
def So (N:Nat):Nat->Qv->Option Pu
 | 0,_=>none
 | k+1,d=>Lt N (So N k) d
def WT (N:Nat) (d:List Int×Unit):Option (Bool×Unit):=
 let a0:=d.1
 (So N N ((a0,((1:Int),())))).bind fun o3=>match o3 with
 | .inl d4=>
  some (d4.1,())
 | .inr (.inl d5)=>
  some (true,())
def Atx:FSig:=⟨[(Ai,false)],[.bool],true,(ES)⟩
def Avo:Ctx:={ tk:=Ac tks,ar:=Ac ars,fs:=Ac [(143,KW)] }
abbrev OH:=Int×Int×List Int×Int×Int×Unit
abbrev PO:=(Bool×Unit)⊕Unit⊕Empty
def Am8:AP:=[(1,.v I),(2,.v I),(9,.v Ai),(10,.v I),(11,.v I)]
def Alw:AJ:=[(.ret,[(6,.v .bool)]),(.normal,[])]
def Lo (N:Nat) (back:OH->Option PO) (d:OH):Option PO:=
 let s1:=d.1
 let s2:=d.2.1
 let s9:=d.2.2.1
 let s10:=d.2.2.2.1
 let s11:=d.2.2.2.2.1
 if (decide (s11<s10))=true then
  if (Af s11 (List.length s9))=true then
  let r6:=EX ((at_ I s9 s11.toNat,(s1,(s2,()))))
  if (!r6.1)=true then
   some (.inl (false,()))
  else
   let x7:=IntKind.wrap .i64 (s11+(1:Int))
   back ((s1,(s2,(s9,(s10,(x7,()))))))
  else none
 else
  some (.inr (.inl ()))
def RT (N:Nat):Nat->OH->Option PO
 | 0,_=>none
 | k+1,d=>Lo N (RT N k) d
def WQ (N:Nat) (d:List Int×Int×Int×Unit):Option (Bool×Unit):=
 let a0:=d.1
 let a1:=d.2.1
 let a2:=d.2.2.1
 (RT N N ((a1,(a2,(a0,((List.length a0:Int),((0:Int),()))))))).bind fun o3=>match o3 with
 | .inl d4=>
  some (d4.1,())
 | .inr (.inl d5)=>
  some (true,())
def Xq:FSig:=⟨[(Ai,false),(I,false),(I,false)],[.bool],true,(CL)⟩
def Axz:Ctx:={ tk:=Ac tks,ar:=Ac ars,fs:=Ac [(128,Xq),(169,Atx)] }
def XM (N:Nat) (d:List Int×(Gr×Int×Tab×Unit)×Unit):Option (Bool×Unit):=
 let a0:=d.1
 let a1:=d.2.1
 (ES (a0,())).bind fun r1=>
 if (!r1.1)=true then
  some (true,())
 else
  let x2:=IntKind.wrap .i64 (a1.2.1-(1:Int))
  (CL ((a0,((0:Int),(x2,()))))).bind fun r3=>
  some (!r3.1,())
def AAw:FSig:=⟨[(Ai,false),(EW,false)],[.bool],true,(XM 0)⟩
def Wv (d:List Int×(Unit×(Gr×Int×Tab×Unit)×Unit)×Unit):Option (Bool×Unit):=(XM 0) (d.1,d.2.1.2)
def Aho:FSig:=⟨[(Ai,false),(Bc,false)],[.bool],true,Wv⟩
def Axa:Ctx:={ tk:=Ac tks,ar:=Ac ars,fs:=Ac [],cs:=Ac [(168,Aho)] }
abbrev Ox:=Tab×(Unit×(Gr×Int×Tab×Unit)×Unit)×Int×Int×Unit
abbrev QZ:=(Int×Unit)⊕Unit⊕Empty
def Ao5:AP:=[(0,.v Ag),(1,.v Bc),(7,.v I),(8,.v I)]
def Amq:AJ:=[(.ret,[(4,.v I)]),(.normal,[])]
def KC (N:Nat) (back:Ox->Option QZ) (d:Ox):Option QZ:=
 let s0:=d.1
 let s1:=d.2.1
 let s7:=d.2.2.1
 let s8:=d.2.2.2.1
 if (decide (s8<s7))=true then
  if (Af s8 (List.length s0))=true then
  (Wv ((at_ Ai s0 s8.toNat,(s1,())))).bind fun r6=>
  if (r6.1)=true then
   some (.inl (s8,()))
  else
   let x7:=IntKind.wrap .i64 (s8+(1:Int))
   back ((s0,(s1,(s7,(x7,())))))
  else none
 else
  some (.inr (.inl ()))
def Si (N:Nat):Nat->Ox->Option QZ
 | 0,_=>none
 | k+1,d=>KC N (Si N k) d
def Pn (N:Nat) (d:Tab×(Unit×(Gr×Int×Tab×Unit)×Unit)×Unit):Option (Int×Unit):=
 let a0:=d.1
 let a1:=d.2.1
 (Si N N ((a0,(a1,((List.length a0:Int),((0:Int),())))))).bind fun o3=>match o3 with
 | .inl d4=>
  some (d4.1,())
 | .inr (.inl d5)=>
  some ((-1:Int),())
def Apy:FSig:=⟨[(Ag,false),(Bc,false)],[I],true,(HQ)⟩
def ACi:Ctx:={ tk:=Ac tks,ar:=Ac ars,fs:=Ac [(232,Apy)] }
def YQ (N:Nat) (d:Tab×(Unit×(Gr×Int×Tab×Unit)×Unit)×Unit):Option (Bool×Unit):=
 let a0:=d.1
 let a1:=d.2.1
 (HQ ((a0,(a1,())))).bind fun r1=>
 some ((decide (r1.1>=(0:Int)),()))
def Azi:FSig:=⟨[(Ag,false),(Bc,false)],[.bool],true,(YQ 0)⟩
def Av0:Ctx:={ tk:=Ac tks,ar:=Ac ars,fs:=Ac [(114,No),(143,KW),(167,Azi)],cs:=Ac [],fz:=fun t=>Nat.beq t 1 }
def Ho (N:Nat) (d:(Gr×Int×Tab×Unit)×Unit):Option (Bool×Unit):=
 let a0:=d.1
 (C2 (a0.1,())).bind fun r1=>
 if (!r1.1)=true then
  some (false,())
 else
  if (a0.1.1==(0:Int))=true then
   some (false,())
  else
   let r2:=EX ((a0.2.1,((1:Int),((4:Int),()))))
   if (!r2.1)=true then
    some (false,())
   else
    if ((List.length a0.2.2.1:Int) != (List.length a0.1.2.1:Int))=true then
     some (false,())
    else
     ((YQ 0) ((a0.2.2.1,(((),(a0,())),())))).bind fun r3=>
     some (!r3.1,())
def Ms:FSig:=⟨[(Ae,false)],[.bool],true,(Ho 0)⟩
def UR:Ctx:={ tk:=Ac tks,ar:=Ac ars,fs:=Ac [] }
abbrev F0:=(List Int×Unit)×(List Int×Unit)×(List (Int×Int×Unit))×Int×Int×Unit
abbrev F7:=((List Int×Unit)×(List Int×Unit)×Unit)⊕Empty
def RA:AP:=[(2,.box AA 99),(3,.box AA 99),(11,.v Cc),(12,.v I),(13,.v I)]
def RI:AJ:=[(.normal,[(2,.box AA 99),(3,.box AA 99)])]
def Du (N:Nat) (back:F0->Option F7) (d:F0):Option F7:=
 let s2:=d.1
 let s3:=d.2.1
 let s11:=d.2.2.1
 let s12:=d.2.2.2.1
 let s13:=d.2.2.2.2.1
 if (decide (s13<s12))=true then
  if (Af s13 (List.length s11))=true then
  if (Af (at_ Am s11 s13.toNat).1 (List.length s3.1))=true then
  if (decide (0<=(at_ Am s11 s13.toNat).2.1))=true then
  let x9:=shl .i64 (1:Int) (at_ Am s11 s13.toNat).2.1
  let x10:=bits .or .i64 (at_ I s3.1 (at_ Am s11 s13.toNat).1.toNat) x9
  if (Af (at_ Am s11 s13.toNat).1 (List.length s3.1))=true then
  if (Af (at_ Am s11 s13.toNat).2.1 (List.length (List.set s3.1 (at_ Am s11 s13.toNat).1.toNat x10)))=true then
  if (decide (0<=(at_ Am s11 s13.toNat).1))=true then
  let x11:=shl .i64 (1:Int) (at_ Am s11 s13.toNat).1
  let x12:=bits .or .i64 (at_ I (List.set s3.1 (at_ Am s11 s13.toNat).1.toNat x10) (at_ Am s11 s13.toNat).2.1.toNat) x11
  if (Af (at_ Am s11 s13.toNat).2.1 (List.length (List.set s3.1 (at_ Am s11 s13.toNat).1.toNat x10)))=true then
  let x13:=IntKind.wrap .i64 (s13+(1:Int))
  back ((s2,((List.set (List.set s3.1 (at_ Am s11 s13.toNat).1.toNat x10) (at_ Am s11 s13.toNat).2.1.toNat x12,s3.2),(s11,(s12,(x13,()))))))
  else none
  else none
  else none
  else none
  else none
  else none
  else none
 else
  some (.inl ((s2,(s3,()))))
def CR (N:Nat):Nat->F0->Option F7
 | 0,_=>none
 | k+1,d=>Du N (CR N k) d
def Gx (N:Nat) (d:Gr×Unit):Option ((List Int×Unit)×Unit):=
 let a0:=d.1
 if ((decide (0<=a0.1)&&decide (a0.1<=a0.1)&&decide (a0.1<=(lim:Int))))=true then
 let x1:=List.replicate a0.1.toNat (0:Int)
 (CR N N (((([]:List Int),()),((x1,()),(a0.2.1,((List.length a0.2.1:Int),((0:Int),()))))))).bind fun o7=>match o7 with
 | .inl d8=>
  some (d8.2.1,())
 else none
def Gq:FSig:=⟨[(Aj,false)],[AA],true,(Fu)⟩
def Aw5:Ctx:={ tk:=Ac tks,ar:=Ac ars,fs:=Ac [] }
abbrev Oq:=List Int×Int×Int×Int×Unit
abbrev OR:=(Int×Unit)⊕Unit⊕Empty
def Ak5:AP:=[(0,.v Ai),(1,.v I),(7,.v I),(8,.v I)]
def Alr:AJ:=[(.ret,[(4,.v I)]),(.normal,[])]
def KI (N:Nat) (back:Oq->Option OR) (d:Oq):Option OR:=
 let s0:=d.1
 let s1:=d.2.1
 let s7:=d.2.2.1
 let s8:=d.2.2.2.1
 if (decide (s8<s7))=true then
  if (Af s8 (List.length s0))=true then
  if (s1==at_ I s0 s8.toNat)=true then
   some (.inl (s8,()))
  else
   let x5:=IntKind.wrap .i64 (s8+(1:Int))
   back ((s0,(s1,(s7,(x5,())))))
  else none
 else
  some (.inr (.inl ()))
def SD (N:Nat):Nat->Oq->Option OR
 | 0,_=>none
 | k+1,d=>KI N (SD N k) d
def WM (N:Nat) (d:List Int×Int×Unit):Option (Int×Unit):=
 let a0:=d.1
 let a1:=d.2.1
 (SD N N ((a0,(a1,((List.length a0:Int),((0:Int),())))))).bind fun o2=>match o2 with
 | .inl d3=>
  some (d3.1,())
 | .inr (.inl d4)=>
  some ((-1:Int),())
def Apl:FSig:=⟨[(Ai,false),(I,false)],[I],true,(KT)⟩
def Ay4:Ctx:={ tk:=Ac tks,ar:=Ac ars,fs:=Ac [(211,Apl)] }
def ID (N:Nat) (d:List Int×Int×Unit):Option (Bool×Unit):=
 let a0:=d.1
 let a1:=d.2.1
 (KT ((a0,(a1,())))).bind fun r1=>
 some ((decide (r1.1>=(0:Int)),()))
def XN:FSig:=⟨[(Ai,false),(I,false)],[.bool],true,(ID 0)⟩
def Ayt:Ctx:={ tk:=Ac tks,ar:=Ac ars,fs:=Ac [(95,Gq),(129,XN)] }
abbrev PR:=(Gr×Int×Tab×Unit)×(List (List Int×Unit))×Int×Int×Int×(List (Int×Int×Unit))×Int×Int×Unit
abbrev OK:=((Gr×Int×Tab×Unit)×(List (List Int×Unit))×Int×Int×Unit)⊕Empty
def Ai2:AP:=[(1,.box Ae 0),(3,.own AU 99),(4,.v I),(11,.v I),(12,.v I),(25,.v Cc),(26,.v I),(27,.v I)]
def Akb:AJ:=[(.normal,[(1,.box Ae 0),(3,.own AU 99),(11,.v I),(12,.v I)])]
def HA (N:Nat) (back:PR->Option OK) (d:PR):Option OK:=
 let s1:=d.1
 let s3:=d.2.1
 let s4:=d.2.2.1
 let s11:=d.2.2.2.1
 let s12:=d.2.2.2.2.1
 let s25:=d.2.2.2.2.2.1
 let s26:=d.2.2.2.2.2.2.1
 let s27:=d.2.2.2.2.2.2.2.1
 if (decide (s27<s26))=true then
  if (Af s27 (List.length s25))=true then
  if (Af s27 (List.length s1.2.2.1))=true then
  ((ID 0) ((at_ Ai s1.2.2.1 s27.toNat,(s4,())))).bind fun r30=>
  if (r30.1)=true then
   if (Af s4 (List.length s3))=true then
   if (Af (at_ Am s25 s27.toNat).1 (List.length (at_ AA s3 s4.toNat).1))=true then
   if (decide (0<=(at_ Am s25 s27.toNat).2.1))=true then
   let x31:=shl .i64 (1:Int) (at_ Am s25 s27.toNat).2.1
   let x32:=bits .or .i64 (at_ I (at_ AA s3 s4.toNat).1 (at_ Am s25 s27.toNat).1.toNat) x31
   if (Af (at_ Am s25 s27.toNat).1 (List.length (at_ AA s3 s4.toNat).1))=true then
   let x33:=List.set s3 s4.toNat (List.set (at_ AA s3 s4.toNat).1 (at_ Am s25 s27.toNat).1.toNat x32,(at_ AA s3 s4.toNat).2)
   if (Af s4 (List.length x33))=true then
   if (Af (at_ Am s25 s27.toNat).2.1 (List.length (at_ AA x33 s4.toNat).1))=true then
   if (decide (0<=(at_ Am s25 s27.toNat).1))=true then
   let x34:=shl .i64 (1:Int) (at_ Am s25 s27.toNat).1
   let x35:=bits .or .i64 (at_ I (at_ AA x33 s4.toNat).1 (at_ Am s25 s27.toNat).2.1.toNat) x34
   if (Af (at_ Am s25 s27.toNat).2.1 (List.length (at_ AA x33 s4.toNat).1))=true then
   let x36:=List.set x33 s4.toNat (List.set (at_ AA x33 s4.toNat).1 (at_ Am s25 s27.toNat).2.1.toNat x35,(at_ AA x33 s4.toNat).2)
   let x37:=IntKind.wrap .i64 (s27+(1:Int))
   back ((s1,(x36,(s4,(s11,(s12,(s25,(s26,(x37,())))))))))
   else none
   else none
   else none
   else none
   else none
   else none
   else none
   else none
  else
   let x38:=IntKind.wrap .i64 (s27+(1:Int))
   back ((s1,(s3,(s4,(s11,(s12,(s25,(s26,(x38,())))))))))
  else none
  else none
 else
  some (.inl ((s1,(s3,(s11,(s12,()))))))
def Jc (N:Nat):Nat->PR->Option OK
 | 0,_=>none
 | k+1,d=>HA N (Jc N k) d
abbrev QQ:=(Gr×Int×Tab×Unit)×(List (List Int×Unit))×Int×Int×Unit
abbrev Og:=((List (List Int×Unit))×Unit)⊕Empty
def Apf:AP:=[(1,.box Ae 0),(3,.own AU 99),(11,.v I),(12,.v I)]
def Apj:AJ:=[(.normal,[(3,.own AU 99)])]
def Ls (N:Nat) (back:QQ->Option Og) (d:QQ):Option Og:=
 let s1:=d.1
 let s3:=d.2.1
 let s11:=d.2.2.1
 let s12:=d.2.2.2.1
 if (decide (s12<s11))=true then
  (Fu (((s1.1.1,(([]:List (Int×Int×Unit)),())),()))).bind fun r17=>
  if (Af s12 (List.length s3))=true then
  (Jc N N ((s1,(List.set s3 s12.toNat r17.1,(s12,(s11,(s12,(s1.1.2.1,((List.length s1.1.2.1:Int),((0:Int),())))))))))).bind fun o27=>match o27 with
  | .inl d28=>
   let x29:=IntKind.wrap .i64 (d28.2.2.2.1+(1:Int))
   back ((d28.1,(d28.2.1,(d28.2.2.1,(x29,())))))
  else none
 else
  some (.inl (s3,()))
def Lk (N:Nat):Nat->QQ->Option Og
 | 0,_=>none
 | k+1,d=>Ls N (Lk N k) d
def XI (N:Nat) (d:(Gr×Int×Tab×Unit)×Unit):Option ((List (List Int×Unit))×Unit):=
 let a0:=d.1
 if ((decide (0<=a0.2.1)&&decide (a0.2.1<=a0.2.1)&&decide (a0.2.1<=(lim:Int))))=true then
 let x1:=List.replicate a0.2.1.toNat (([]:List Int),())
 (Lk N N ((a0,(x1,((List.length x1:Int),((0:Int),())))))).bind fun o15=>match o15 with
 | .inl d16=>
  some (d16.1,())
 else none
def OV:FSig:=⟨[(Ae,false)],[AU],true,(Cp)⟩
def Axq:Ctx:={ tk:=Ac tks,ar:=Ac ars,fs:=Ac [] }
def X0 (N:Nat) (d:(List Int×Unit)×Unit):Option (Int×Unit):=
 let a0:=d.1
 some ((List.length a0.1:Int),())
def Fg (d:(List Int×Unit)×Unit):Int×Unit:=
 let a0:=d.1
 ((List.length a0.1:Int),())
theorem Ab7 (N:Nat) (d):X0 N d=some (Fg d):=by
 unfold X0 Fg
 first
  | rfl
  | (dsimp only; (repeat' split)<;>rfl)
def OG:FSig:=⟨[(AA,false)],[I],true,(fun d=>some (Fg d))⟩
def Aza:Ctx:={ tk:=Ac tks,ar:=Ac ars,fs:=Ac [] }
def WC (N:Nat) (d:Int×Unit):Option (Bool×Unit):=
 let a0:=d.1
 some ((decide (a0<(-1:Int)),()))
def Ue (d:Int×Unit):Bool×Unit:=
 let a0:=d.1
 ((decide (a0<(-1:Int)),()))
theorem Ace (N:Nat) (d):WC N d=some (Ue d):=by
 unfold WC Ue
 first
  | rfl
  | (dsimp only; (repeat' split)<;>rfl)
def ABe:FSig:=⟨[(I,false)],[.bool],true,(fun d=>some (Ue d))⟩
def Axi:Ctx:={ tk:=Ac tks,ar:=Ac ars,fs:=Ac [] }
def IS (N:Nat) (d:(List Int×Unit)×Int×Unit):Option (Int×Unit):=
 let a0:=d.1
 let a1:=d.2.1
 if (Af a1 (List.length a0.1))=true then
 if (decide (0<=a1))=true then
 let x1:=bits .or .i64 (at_ I a0.1 a1.toNat) (shl .i64 (1:Int) a1)
 some (x1,())
 else none
 else none
def QY:FSig:=⟨[(AA,false),(I,false)],[I],true,(IS 0)⟩
def Uy:Ctx:={ tk:=Ac tks,ar:=Ac ars,fs:=Ac [] }
abbrev F2:=Int×List Int×Int×Unit
abbrev F8:=(List Int×Unit)⊕Empty
def RC:AP:=[(0,.v I),(3,.own Ai 99),(4,.v I)]
def Rq:AJ:=[(.normal,[(3,.own Ai 99)])]
def Ds (N:Nat) (back:F2->Option F8) (d:F2):Option F8:=
 let s0:=d.1
 let s3:=d.2.1
 let s4:=d.2.2.1
 if (decide (0<=s4))=true then
 if (shr .i64 s0 s4 != (0:Int))=true then
  if (decide (0<=s4))=true then
  let x6:=bits .and .i64 (shr .i64 s0 s4) (1:Int)
  if (x6==(1:Int))=true then
   if (decide (List.length s3+List.length ([s4])<=lim))=true then
   let x7:=IntKind.wrap .i64 (s4+(1:Int))
   back ((s0,(s3++([s4]),(x7,()))))
   else none
  else
   let x8:=IntKind.wrap .i64 (s4+(1:Int))
   back ((s0,(s3,(x8,()))))
  else none
 else
  some (.inl (s3,()))
 else none
def DA (N:Nat):Nat->F2->Option F8
 | 0,_=>none
 | k+1,d=>Ds N (DA N k) d
def Gn (N:Nat) (d:Int×Unit):Option (List Int×Unit):=
 let a0:=d.1
 (DA N N ((a0,(([]:List Int),((0:Int),()))))).bind fun o4=>match o4 with
 | .inl d5=>
  some (d5.1,())
def Di:FSig:=⟨[(I,false)],[Ai],true,(D7)⟩
def Awn:Ctx:={ tk:=Ac tks,ar:=Ac ars,fs:=Ac [(127,Di),(130,QY)] }
abbrev Py:=List Int×Int×List Int×Int×Int×Unit
abbrev Qe:=(Int×Unit)⊕(Int×Unit)⊕Empty
def Alg:AP:=[(1,.v Ai),(7,.v I),(13,.own Ai 99),(14,.v I),(15,.v I)]
def Ait:AJ:=[(.ret,[(6,.v I)]),(.normal,[(7,.v I)])]
def KO (N:Nat) (back:Py->Option Qe) (d:Py):Option Qe:=
 let s1:=d.1
 let s7:=d.2.1
 let s13:=d.2.2.1
 let s14:=d.2.2.2.1
 let s15:=d.2.2.2.2.1
 if (decide (s15<s14))=true then
  if (Af s15 (List.length s13))=true then
  if (Af (at_ I s13 s15.toNat) (List.length s1))=true then
  if (decide (at_ I s1 (at_ I s13 s15.toNat).toNat<(0:Int)))=true then
   some (.inl ((-1:Int),()))
  else
   if (Af (at_ I s13 s15.toNat) (List.length s1))=true then
   let x8:=if s7<at_ I s1 (at_ I s13 s15.toNat).toNat then at_ I s1 (at_ I s13 s15.toNat).toNat else s7
   let x9:=IntKind.wrap .i64 (s15+(1:Int))
   back ((s1,(x8,(s13,(s14,(x9,()))))))
   else none
  else none
  else none
 else
  some (.inr (.inl (s7,())))
def Gf (N:Nat):Nat->Py->Option Qe
 | 0,_=>none
 | k+1,d=>KO N (Gf N k) d
def VI (N:Nat) (d:(List Int×Unit)×List Int×Int×Unit):Option (Int×Unit):=
 let a0:=d.1
 let a1:=d.2.1
 let a2:=d.2.2.1
 ((IS 0) ((a0,(a2,())))).bind fun r1=>
 (D7 (r1.1,())).bind fun r2=>
 (Gf N N ((a1,((0:Int),(r2.1,((List.length r2.1:Int),((0:Int),()))))))).bind fun o5=>match o5 with
 | .inl d6=>
  some (d6.1,())
 | .inr (.inl d7)=>
  some (d7.1,())
def TD:FSig:=⟨[(AA,false),(Ai,false),(I,false)],[I],true,(BG)⟩
def Xh (d:Int×(Unit×Unit)×Unit):Option (Bool×Unit):=(fun d=>some (Ue d)) (d.1,d.2.1.2)
def Ahj:FSig:=⟨[(I,false),(EE,false)],[.bool],true,Xh⟩
def Awx:Ctx:={ tk:=Ac tks,ar:=Ac ars,fs:=Ac [],cs:=Ac [(228,Ahj)] }
abbrev Qj:=List Int×(Unit×Unit)×Int×Int×Unit
abbrev Qy:=(Int×Unit)⊕Unit⊕Empty
def Akw:AP:=[(0,.v Ai),(1,.v EE),(7,.v I),(8,.v I)]
def Aot:AJ:=[(.ret,[(4,.v I)]),(.normal,[])]
def Lb (N:Nat) (back:Qj->Option Qy) (d:Qj):Option Qy:=
 let s0:=d.1
 let s1:=d.2.1
 let s7:=d.2.2.1
 let s8:=d.2.2.2.1
 if (decide (s8<s7))=true then
  if (Af s8 (List.length s0))=true then
  (Xh ((at_ I s0 s8.toNat,(s1,())))).bind fun r6=>
  if (r6.1)=true then
   some (.inl (s8,()))
  else
   let x7:=IntKind.wrap .i64 (s8+(1:Int))
   back ((s0,(s1,(s7,(x7,())))))
  else none
 else
  some (.inr (.inl ()))
def Sr (N:Nat):Nat->Qj->Option Qy
 | 0,_=>none
 | k+1,d=>Lb N (Sr N k) d
def Xf (N:Nat) (d:List Int×(Unit×Unit)×Unit):Option (Int×Unit):=
 let a0:=d.1
 let a1:=d.2.1
 (Sr N N ((a0,(a1,((List.length a0:Int),((0:Int),())))))).bind fun o3=>match o3 with
 | .inl d4=>
  some (d4.1,())
 | .inr (.inl d5)=>
  some ((-1:Int),())
def Aq8:FSig:=⟨[(Ai,false),(EE,false)],[I],true,(GO)⟩
def ADf:Ctx:={ tk:=Ac tks,ar:=Ac ars,fs:=Ac [(248,Aq8)] }
def Aic (N:Nat) (d:List Int×(Unit×Unit)×Unit):Option (Bool×Unit):=
 let a0:=d.1
 let a1:=d.2.1
 (GO ((a0,(a1,())))).bind fun r1=>
 some ((decide (r1.1>=(0:Int)),()))
def Az0:FSig:=⟨[(Ai,false),(EE,false)],[.bool],true,(Aic 0)⟩
def Ax6:Ctx:={ tk:=Ac tks,ar:=Ac ars,fs:=Ac [(214,Az0)] }
def Wr (N:Nat) (d:List Int×Int×Unit):Option (Bool×Unit):=
 let a0:=d.1
 let a1:=d.2.1
 if ((List.length a0:Int) != a1)=true then
  some (true,())
 else
  ((Aic 0) ((a0,(((),()),())))).bind fun r1=>
  some (r1.1,())
def ABv:FSig:=⟨[(Ai,false),(Pv,false)],[.bool],true,(Wr 0)⟩
def RV (d:List Int×(Unit×Int×Unit)×Unit):Option (Bool×Unit):=(Wr 0) (d.1,d.2.1.2)
def Ah0:FSig:=⟨[(Ai,false),(C9,false)],[.bool],true,RV⟩
def Awz:Ctx:={ tk:=Ac tks,ar:=Ac ars,fs:=Ac [],cs:=Ac [(227,Ah0)] }
abbrev QK:=Tab×(Unit×Int×Unit)×Int×Int×Unit
abbrev Qw:=(Int×Unit)⊕Unit⊕Empty
def Aov:AP:=[(0,.v Ag),(1,.v C9),(7,.v I),(8,.v I)]
def Aoo:AJ:=[(.ret,[(4,.v I)]),(.normal,[])]
def KB (N:Nat) (back:QK->Option Qw) (d:QK):Option Qw:=
 let s0:=d.1
 let s1:=d.2.1
 let s7:=d.2.2.1
 let s8:=d.2.2.2.1
 if (decide (s8<s7))=true then
  if (Af s8 (List.length s0))=true then
  (RV ((at_ Ai s0 s8.toNat,(s1,())))).bind fun r6=>
  if (r6.1)=true then
   some (.inl (s8,()))
  else
   let x7:=IntKind.wrap .i64 (s8+(1:Int))
   back ((s0,(s1,(s7,(x7,())))))
  else none
 else
  some (.inr (.inl ()))
def Sl (N:Nat):Nat->QK->Option Qw
 | 0,_=>none
 | k+1,d=>KB N (Sl N k) d
def Wp (N:Nat) (d:Tab×(Unit×Int×Unit)×Unit):Option (Int×Unit):=
 let a0:=d.1
 let a1:=d.2.1
 (Sl N N ((a0,(a1,((List.length a0:Int),((0:Int),())))))).bind fun o3=>match o3 with
 | .inl d4=>
  some (d4.1,())
 | .inr (.inl d5)=>
  some ((-1:Int),())
def Aqw:FSig:=⟨[(Ag,false),(C9,false)],[I],true,(GP)⟩
def ACd:Ctx:={ tk:=Ac tks,ar:=Ac ars,fs:=Ac [(232,Aqw)] }
def Ah8 (N:Nat) (d:Tab×(Unit×Int×Unit)×Unit):Option (Bool×Unit):=
 let a0:=d.1
 let a1:=d.2.1
 (GP ((a0,(a1,())))).bind fun r1=>
 some ((decide (r1.1>=(0:Int)),()))
def Az1:FSig:=⟨[(Ag,false),(C9,false)],[.bool],true,(Ah8 0)⟩
def Avz:Ctx:={ tk:=Ac tks,ar:=Ac ars,fs:=Ac [] }
def Xg (N:Nat) (d:Int×Int×Unit):Option (Bool×Unit):=
 let a0:=d.1
 let a1:=d.2.1
 some (decide (a0<a1),())
def SJ (d:Int×Int×Unit):Bool×Unit:=
 let a0:=d.1
 let a1:=d.2.1
 (decide (a0<a1),())
theorem Aa9 (N:Nat) (d):Xg N d=some (SJ d):=by
 unfold Xg SJ
 first
  | rfl
  | (dsimp only; (repeat' split)<;>rfl)
def ACz:FSig:=⟨[(I,false),(Pv,false)],[.bool],true,(fun d=>some (SJ d))⟩
def Wl (d:Int×(Unit×Int×Unit)×Unit):Option (Bool×Unit):=(fun d=>some (SJ d)) (d.1,d.2.1.2)
def Aio:FSig:=⟨[(I,false),(EU,false)],[.bool],true,Wl⟩
def Aw2:Ctx:={ tk:=Ac tks,ar:=Ac ars,fs:=Ac [(179,TD)],cs:=Ac [(230,Aio)],w1:=inL [99] }
def Wh (N:Nat) (d:Int×Int×(List Int×Unit)×Tab×(Unit×Int×Unit)×Unit):Option (Bool×Unit):=
 let a0:=d.1
 let a1:=d.2.1
 let a2:=d.2.2.1
 let a3:=d.2.2.2.1
 let a4:=d.2.2.2.2.1
 if (a0==a1)=true then
  some (true,())
 else
  if (Af a0 (List.length a3))=true then
  (BG ((a2,(at_ Ai a3 a0.toNat,(a1,()))))).bind fun r1=>
  if (decide (r1.1>=(0:Int)))=true then
   (Wl ((r1.1,(a4,())))).bind fun r2=>
   some (r2.1,())
  else
   some (false,())
  else none
def ADm:FSig:=⟨[(I,false),(Pv,false),(KU,false),(QH,false),(FX,false)],[.bool],true,(Wh 0)⟩
def R9 (d:Int×(Unit×Int×(List Int×Unit)×Tab×(Unit×Int×Unit)×Unit)×Unit):Option (Bool×Unit):=(Wh 0) (d.1,d.2.1.2)
def Ah9:FSig:=⟨[(I,false),(AB,false)],[.bool],true,R9⟩
def ABy:Ctx:={ tk:=Ac tks,ar:=Ac ars,fs:=Ac [],cs:=Ac [(255,Ah9)] }
abbrev Ua:=List Int×(Unit×Int×(List Int×Unit)×Tab×(Unit×Int×Unit)×Unit)×Int×Int×Unit
abbrev Th:=(Int×Unit)⊕Unit⊕Empty
def Arv:AP:=[(0,.v Ai),(1,.v AB),(7,.v I),(8,.v I)]
def Atj:AJ:=[(.ret,[(4,.v I)]),(.normal,[])]
def NQ (N:Nat) (back:Ua->Option Th) (d:Ua):Option Th:=
 let s0:=d.1
 let s1:=d.2.1
 let s7:=d.2.2.1
 let s8:=d.2.2.2.1
 if (decide (s8<s7))=true then
  if (Af s8 (List.length s0))=true then
  (R9 ((at_ I s0 s8.toNat,(s1,())))).bind fun r6=>
  if (r6.1)=true then
   some (.inl (s8,()))
  else
   let x7:=IntKind.wrap .i64 (s8+(1:Int))
   back ((s0,(s1,(s7,(x7,())))))
  else none
 else
  some (.inr (.inl ()))
def X3 (N:Nat):Nat->Ua->Option Th
 | 0,_=>none
 | k+1,d=>NQ N (X3 N k) d
def Aht (N:Nat) (d:List Int×(Unit×Int×(List Int×Unit)×Tab×(Unit×Int×Unit)×Unit)×Unit):Option (Int×Unit):=
 let a0:=d.1
 let a1:=d.2.1
 (X3 N N ((a0,(a1,((List.length a0:Int),((0:Int),())))))).bind fun o3=>match o3 with
 | .inl d4=>
  some (d4.1,())
 | .inr (.inl d5)=>
  some ((-1:Int),())
def Azy:FSig:=⟨[(Ai,false),(AB,false)],[I],true,(GJ)⟩
def AAn:Ctx:={ tk:=Ac tks,ar:=Ac ars,fs:=Ac [(248,Azy)] }
def Aiq (N:Nat) (d:List Int×(Unit×Int×(List Int×Unit)×Tab×(Unit×Int×Unit)×Unit)×Unit):Option (Bool×Unit):=
 let a0:=d.1
 let a1:=d.2.1
 (GJ ((a0,(a1,())))).bind fun r1=>
 some ((decide (r1.1>=(0:Int)),()))
def Azt:FSig:=⟨[(Ai,false),(AB,false)],[.bool],true,(Aiq 0)⟩
def Awo:Ctx:={ tk:=Ac tks,ar:=Ac ars,fs:=Ac [(127,Di),(130,QY),(214,Azt)],cs:=Ac [],fz:=fun t=>Nat.beq t 5||Nat.beq t 6||Nat.beq t 8||Nat.beq t 9 }
def OO (N:Nat) (d:(List Int×Unit)×Tab×Int×Int×(Unit×Int×Unit)×Unit):Option (Bool×Unit):=
 let a0:=d.1
 let a1:=d.2.1
 let a2:=d.2.2.1
 let a3:=d.2.2.2.1
 let a4:=d.2.2.2.2.1
 ((IS 0) ((a0,(a2,())))).bind fun r1=>
 (D7 (r1.1,())).bind fun r2=>
 ((Aiq 0) ((r2.1,(((),(a3,(a0,(a1,(a4,()))))),())))).bind fun r3=>
 some (r3.1,())
def Aua:FSig:=⟨[(AA,false),(Ag,false),(I,false),(I,false),(EU,false)],[.bool],true,(OO 0)⟩
def Av8:Ctx:={ tk:=Ac tks,ar:=Ac ars,fs:=Ac [(167,Az1),(188,OG),(229,Aua)],cs:=Ac [],fz:=fun t=>Nat.beq t 5||Nat.beq t 12 }
abbrev PB:=(List (List Int×Unit))×List (Tab)×Int×List (Tab)×Int×Int×Unit
abbrev O4:=(Bool×Unit)⊕((List (List Int×Unit))×List (Tab)×Int×Unit)⊕Empty
def Alq:AP:=[(0,.v AU),(1,.v An),(5,.sp I),(23,.v An),(24,.v I),(25,.v I)]
def Ao9:AJ:=[(.ret,[(4,.v .bool)]),(.normal,[(0,.v AU),(1,.v An),(5,.sp I)])]
def LB (N:Nat) (back:PB->Option O4) (d:PB):Option O4:=
 let s0:=d.1
 let s1:=d.2.1
 let s5:=d.2.2.1
 let s23:=d.2.2.2.1
 let s24:=d.2.2.2.2.1
 let s25:=d.2.2.2.2.2.1
 if (decide (s25<s24))=true then
  if (Af s25 (List.length s23))=true then
  if ((List.length (at_ Ag s23 s25.toNat):Int) != s5)=true then
   some (.inl (false,()))
  else
   ((Ah8 0) ((at_ Ag s23 s25.toNat,(((),(s5,())),())))).bind fun r26=>
   if (r26.1)=true then
    some (.inl (false,()))
   else
    let x27:=IntKind.wrap .i64 (s25+(1:Int))
    back ((s0,(s1,(s5,(s23,(s24,(x27,())))))))
  else none
 else
  some (.inr (.inl ((s0,(s1,(s5,()))))))
def SA (N:Nat):Nat->PB->Option O4
 | 0,_=>none
 | k+1,d=>LB N (SA N k) d
abbrev O0:=(List (List Int×Unit))×List (Tab)×Int×Int×(List Int×Unit)×Int×(List (List Int×Unit))×Int×Int×Int×Int×List Int×Int×Int×Unit
abbrev PQ:=(Bool×Unit)⊕((List (List Int×Unit))×List (Tab)×Int×Int×(List Int×Unit)×(List (List Int×Unit))×Int×Int×Int×Int×Unit)⊕Empty
def Aob:AP:=[(0,.v AU),(1,.v An),(5,.sp I),(8,.v I),(9,.box AA 0),(10,.v I),(39,.v AU),(40,.v I),(41,.v I),(46,.v I),(47,.v I),(56,.v Ai),(57,.v I),(58,.v I)]
def Aog:AJ:=[(.ret,[(4,.v .bool)]),(.normal,[(0,.v AU),(1,.v An),(5,.sp I),(8,.v I),(9,.box AA 0),(39,.v AU),(40,.v I),(41,.v I),(46,.v I),(47,.v I)])]
def KJ (N:Nat) (back:O0->Option PQ) (d:O0):Option PQ:=
 let s0:=d.1
 let s1:=d.2.1
 let s5:=d.2.2.1
 let s8:=d.2.2.2.1
 let s9:=d.2.2.2.2.1
 let s10:=d.2.2.2.2.2.1
 let s39:=d.2.2.2.2.2.2.1
 let s40:=d.2.2.2.2.2.2.2.1
 let s41:=d.2.2.2.2.2.2.2.2.1
 let s46:=d.2.2.2.2.2.2.2.2.2.1
 let s47:=d.2.2.2.2.2.2.2.2.2.2.1
 let s56:=d.2.2.2.2.2.2.2.2.2.2.2.1
 let s57:=d.2.2.2.2.2.2.2.2.2.2.2.2.1
 let s58:=d.2.2.2.2.2.2.2.2.2.2.2.2.2.1
 if (decide (s58<s57))=true then
  if (Af s58 (List.length s56))=true then
  let x56:=IntKind.wrap .i64 (s8+(1:Int))
  if ((List.length s0:Int) != 0)=true then
  let x57:=x56.tmod (List.length s0:Int)
  if (Af x57 (List.length s1))=true then
  if (at_ I s56 s58.toNat==(0:Int))=true then
   if (s10 != s58)=true then
    some (.inl (false,()))
   else
    if (decide (at_ I s56 s58.toNat>(0:Int)))=true then
     ((OO 0) ((s9,(at_ Ag s1 x57.toNat,(s10,(s58,(((),(at_ I s56 s58.toNat,())),()))))))).bind fun r58=>
     if (!r58.1)=true then
      some (.inl (false,()))
     else
      let x59:=IntKind.wrap .i64 (s58+(1:Int))
      back ((s0,(s1,(s5,(s8,(s9,(s10,(s39,(s40,(s41,(s46,(s47,(s56,(s57,(x59,())))))))))))))))
    else
     let x60:=IntKind.wrap .i64 (s58+(1:Int))
     back ((s0,(s1,(s5,(s8,(s9,(s10,(s39,(s40,(s41,(s46,(s47,(s56,(s57,(x60,())))))))))))))))
  else
   if (decide (at_ I s56 s58.toNat>(0:Int)))=true then
    ((OO 0) ((s9,(at_ Ag s1 x57.toNat,(s10,(s58,(((),(at_ I s56 s58.toNat,())),()))))))).bind fun r61=>
    if (!r61.1)=true then
     some (.inl (false,()))
    else
     let x62:=IntKind.wrap .i64 (s58+(1:Int))
     back ((s0,(s1,(s5,(s8,(s9,(s10,(s39,(s40,(s41,(s46,(s47,(s56,(s57,(x62,())))))))))))))))
   else
    let x63:=IntKind.wrap .i64 (s58+(1:Int))
    back ((s0,(s1,(s5,(s8,(s9,(s10,(s39,(s40,(s41,(s46,(s47,(s56,(s57,(x63,())))))))))))))))
  else none
  else none
  else none
 else
  some (.inr (.inl ((s0,(s1,(s5,(s8,(s9,(s39,(s40,(s41,(s46,(s47,())))))))))))))
def M0 (N:Nat):Nat->O0->Option PQ
 | 0,_=>none
 | k+1,d=>KJ N (M0 N k) d
abbrev O3:=(List (List Int×Unit))×List (Tab)×Int×Int×(List Int×Unit)×(List (List Int×Unit))×Int×Int×Int×Int×Unit
abbrev Qu:=(Bool×Unit)⊕((List (List Int×Unit))×List (Tab)×Int×(List (List Int×Unit))×Int×Int×Unit)⊕Empty
def Ajb:AP:=[(0,.v AU),(1,.v An),(5,.sp I),(8,.v I),(9,.box AA 0),(39,.v AU),(40,.v I),(41,.v I),(46,.v I),(47,.v I)]
def Alz:AJ:=[(.ret,[(4,.v .bool)]),(.normal,[(0,.v AU),(1,.v An),(5,.sp I),(39,.v AU),(40,.v I),(41,.v I)])]
def Ld (N:Nat) (back:O3->Option Qu) (d:O3):Option Qu:=
 let s0:=d.1
 let s1:=d.2.1
 let s5:=d.2.2.1
 let s8:=d.2.2.2.1
 let s9:=d.2.2.2.2.1
 let s39:=d.2.2.2.2.2.1
 let s40:=d.2.2.2.2.2.2.1
 let s41:=d.2.2.2.2.2.2.2.1
 let s46:=d.2.2.2.2.2.2.2.2.1
 let s47:=d.2.2.2.2.2.2.2.2.2.1
 if (decide (s47<s46))=true then
  if (Af s8 (List.length s1))=true then
  if (Af s47 (List.length (at_ Ag s1 s8.toNat)))=true then
  (M0 N N ((s0,(s1,(s5,(s8,(s9,(s47,(s39,(s40,(s41,(s46,(s47,(at_ Ai (at_ Ag s1 s8.toNat) s47.toNat,((List.length (at_ Ai (at_ Ag s1 s8.toNat) s47.toNat):Int),((0:Int),())))))))))))))))).bind fun o52=>match o52 with
  | .inl d53=>
   some (.inl (d53.1,()))
  | .inr (.inl d54)=>
   let x55:=IntKind.wrap .i64 (d54.2.2.2.2.2.2.2.2.2.1+(1:Int))
   back ((d54.1,(d54.2.1,(d54.2.2.1,(d54.2.2.2.1,(d54.2.2.2.2.1,(d54.2.2.2.2.2.1,(d54.2.2.2.2.2.2.1,(d54.2.2.2.2.2.2.2.1,(d54.2.2.2.2.2.2.2.2.1,(x55,())))))))))))
  else none
  else none
 else
  some (.inr (.inl ((s0,(s1,(s5,(s39,(s40,(s41,())))))))))
def M5 (N:Nat):Nat->O3->Option Qu
 | 0,_=>none
 | k+1,d=>Ld N (M5 N k) d
abbrev Qr:=(List (List Int×Unit))×List (Tab)×Int×(List (List Int×Unit))×Int×Int×Unit
abbrev QM:=(Bool×Unit)⊕Unit⊕Empty
def Ak9:AP:=[(0,.v AU),(1,.v An),(5,.sp I),(39,.v AU),(40,.v I),(41,.v I)]
def Ank:AJ:=[(.ret,[(4,.v .bool)]),(.normal,[])]
def KR (N:Nat) (back:Qr->Option QM) (d:Qr):Option QM:=
 let s0:=d.1
 let s1:=d.2.1
 let s5:=d.2.2.1
 let s39:=d.2.2.2.1
 let s40:=d.2.2.2.2.1
 let s41:=d.2.2.2.2.2.1
 if (decide (s41<s40))=true then
  if (Af s41 (List.length s39))=true then
  (M5 N N ((s0,(s1,(s5,(s41,(at_ AA s39 s41.toNat,(s39,(s40,(s41,(s5,((0:Int),())))))))))))).bind fun o40=>match o40 with
  | .inl d41=>
   some (.inl (d41.1,()))
  | .inr (.inl d42)=>
   let x43:=IntKind.wrap .i64 (d42.2.2.2.2.2.1+(1:Int))
   back ((d42.1,(d42.2.1,(d42.2.2.1,(d42.2.2.2.1,(d42.2.2.2.2.1,(x43,())))))))
  else none
 else
  some (.inr (.inl ()))
def M8 (N:Nat):Nat->Qr->Option QM
 | 0,_=>none
 | k+1,d=>KR N (M8 N k) d
def VS (N:Nat) (d:(List (List Int×Unit))×List (Tab)×Unit):Option (Bool×Unit):=
 let a0:=d.1
 let a1:=d.2.1
 if (Af (0:Int) (List.length a0))=true then
 let r1:=Fg (at_ AA a0 (0:Int).toNat,())
 if ((List.length a1:Int) != (List.length a0:Int))=true then
  some (false,())
 else
  (SA N N ((a0,(a1,(r1.1,(a1,((List.length a1:Int),((0:Int),())))))))).bind fun o4=>match o4 with
  | .inl d5=>
   some (d5.1,())
  | .inr (.inl d6)=>
   (M8 N N ((d6.1,(d6.2.1,(d6.2.2.1,(d6.1,((List.length d6.1:Int),((0:Int),())))))))).bind fun o23=>match o23 with
   | .inl d24=>
    some (d24.1,())
   | .inr (.inl d25)=>
    some (true,())
 else none
def Asb:FSig:=⟨[(AU,false),(An,false)],[.bool],true,(DP)⟩
def Avl:Ctx:={ tk:=Ac tks,ar:=Ac ars,fs:=Ac [(76,Ms),(161,Asb),(162,OV)] }
def Po (N:Nat) (d:(Gr×Int×Tab×Unit)×List (Tab)×Unit):Option (Bool×Bool×Unit):=
 let a0:=d.1
 let a1:=d.2.1
 ((Ho 0) (a0,())).bind fun r1=>
 if (!r1.1)=true then
  some ((false,(false,())))
 else
  (Cp (a0,())).bind fun r2=>
  (DP ((r2.1,(a1,())))).bind fun r3=>
  some ((r3.1,(true,())))
def Auo:FSig:=⟨[(Ae,false),(An,false)],[.bool,.bool],true,(Po 0)⟩
def Ap8:Ctx:={ tk:=Ac tks,ar:=Ac ars,fs:=Ac [] }
abbrev ML:=List (Tab)×(Gr×Int×Tab×Unit)×Int×Int×Int×Unit
abbrev L7:=(Bool×Unit)⊕(List (Tab)×(Gr×Int×Tab×Unit)×Int×Int×Unit)⊕Empty
def Abz:AP:=[(1,.v An),(2,.box Ae 0),(5,.v I),(6,.v I),(7,.v I)]
def Aeq:AJ:=[(.ret,[(4,.v .bool)]),(.normal,[(1,.v An),(2,.box Ae 0),(5,.v I),(6,.v I)])]
def IG (N:Nat) (back:ML->Option L7) (d:ML):Option L7:=
 let s1:=d.1
 let s2:=d.2.1
 let s5:=d.2.2.1
 let s6:=d.2.2.2.1
 let s7:=d.2.2.2.2.1
 if (Af s5 (List.length s1))=true then
 if (Af s6 (List.length (at_ Ag s1 s5.toNat)))=true then
 if (decide (s7<(List.length (at_ Ai (at_ Ag s1 s5.toNat) s6.toNat):Int)))=true then
  if (Af s5 (List.length s1))=true then
  if (Af s6 (List.length (at_ Ag s1 s5.toNat)))=true then
  if (Af s7 (List.length (at_ Ai (at_ Ag s1 s5.toNat) s6.toNat)))=true then
  if (decide (at_ I (at_ Ai (at_ Ag s1 s5.toNat) s6.toNat) s7.toNat<(-1:Int)))=true then
   some (.inl (false,()))
  else
   let x27:=IntKind.wrap .i64 (s7+(1:Int))
   back ((s1,(s2,(s5,(s6,(x27,()))))))
  else none
  else none
  else none
 else
  some (.inr (.inl ((s1,(s2,(s5,(s6,())))))))
 else none
 else none
def Kq (N:Nat):Nat->ML->Option L7
 | 0,_=>none
 | k+1,d=>IG N (Kq N k) d
abbrev LV:=List (Tab)×(Gr×Int×Tab×Unit)×Int×Int×Unit
abbrev LS:=(Bool×Unit)⊕(List (Tab)×(Gr×Int×Tab×Unit)×Int×Unit)⊕Empty
def Abi:AP:=[(1,.v An),(2,.box Ae 0),(5,.v I),(6,.v I)]
def Ae5:AJ:=[(.ret,[(4,.v .bool)]),(.normal,[(1,.v An),(2,.box Ae 0),(5,.v I)])]
def IT (N:Nat) (back:LV->Option LS) (d:LV):Option LS:=
 let s1:=d.1
 let s2:=d.2.1
 let s5:=d.2.2.1
 let s6:=d.2.2.2.1
 if (Af s5 (List.length s1))=true then
 if (decide (s6<(List.length (at_ Ag s1 s5.toNat):Int)))=true then
  if (Af s5 (List.length s1))=true then
  if (Af s6 (List.length (at_ Ag s1 s5.toNat)))=true then
  if ((List.length (at_ Ai (at_ Ag s1 s5.toNat) s6.toNat):Int) != s2.1.1)=true then
   some (.inl (false,()))
  else
   (Kq N N ((s1,(s2,(s5,(s6,((0:Int),()))))))).bind fun o23=>match o23 with
   | .inl d24=>
    some (.inl (d24.1,()))
   | .inr (.inl d25)=>
    let x26:=IntKind.wrap .i64 (d25.2.2.2.1+(1:Int))
    back ((d25.1,(d25.2.1,(d25.2.2.1,(x26,())))))
  else none
  else none
 else
  some (.inr (.inl ((s1,(s2,(s5,()))))))
 else none
def JP (N:Nat):Nat->LV->Option LS
 | 0,_=>none
 | k+1,d=>IT N (JP N k) d
abbrev Mk:=List (Tab)×(Gr×Int×Tab×Unit)×Int×Unit
abbrev My:=(Bool×Unit)⊕(List (Tab)×(Gr×Int×Tab×Unit)×Unit)⊕Empty
def Abv:AP:=[(1,.v An),(2,.box Ae 0),(5,.v I)]
def Aga:AJ:=[(.ret,[(4,.v .bool)]),(.normal,[(1,.v An),(2,.box Ae 0)])]
def I0 (N:Nat) (back:Mk->Option My) (d:Mk):Option My:=
 let s1:=d.1
 let s2:=d.2.1
 let s5:=d.2.2.1
 if (decide (s5<(List.length s1:Int)))=true then
  if (Af s5 (List.length s1))=true then
  if ((List.length (at_ Ag s1 s5.toNat):Int) != s2.1.1)=true then
   some (.inl (false,()))
  else
   (JP N N ((s1,(s2,(s5,((0:Int),())))))).bind fun o18=>match o18 with
   | .inl d19=>
    some (.inl (d19.1,()))
   | .inr (.inl d20)=>
    let x21:=IntKind.wrap .i64 (d20.2.2.1+(1:Int))
    back ((d20.1,(d20.2.1,(x21,()))))
  else none
 else
  some (.inr (.inl ((s1,(s2,())))))
def MT (N:Nat):Nat->Mk->Option My
 | 0,_=>none
 | k+1,d=>I0 N (MT N k) d
def R3 (N:Nat) (d:(Gr×Int×Tab×Unit)×List (Tab)×Unit):Option (Bool×Unit):=
 let a0:=d.1
 let a1:=d.2.1
 (MT N N ((a1,(a0,((0:Int),()))))).bind fun o10=>match o10 with
 | .inl d11=>
  some (d11.1,())
 | .inr (.inl d12)=>
  some ((List.length d12.1:Int)==d12.2.1.2.1,())
def Aik:FSig:=⟨[(Ae,false),(An,false)],[.bool],true,(Ij)⟩
def Axm:Ctx:={ tk:=Ac tks,ar:=Ac ars,fs:=Ac [(148,De),(180,Wt)] }
abbrev Qa:=List (Tab)×List (Tab)×Int×Int×Int×Int×Int×Unit
abbrev QI:=(Bool×Unit)⊕Unit⊕Empty
def Akp:AP:=[(0,.v An),(1,.v An),(2,.v I),(3,.v I),(4,.v I),(11,.v I),(12,.v I)]
def Amv:AJ:=[(.ret,[(10,.v .bool)]),(.normal,[])]
def Lh (N:Nat) (back:Qa->Option QI) (d:Qa):Option QI:=
 let s0:=d.1
 let s1:=d.2.1
 let s2:=d.2.2.1
 let s3:=d.2.2.2.1
 let s4:=d.2.2.2.2.1
 let s11:=d.2.2.2.2.2.1
 let s12:=d.2.2.2.2.2.2.1
 if (Af s2 (List.length s0))=true then
 if (Af s3 (List.length (at_ Ag s0 s2.toNat)))=true then
 if (decide (s12<(List.length (at_ Ai (at_ Ag s0 s2.toNat) s3.toNat):Int)))=true then
  if (Af s2 (List.length s0))=true then
  if (Af s3 (List.length (at_ Ag s0 s2.toNat)))=true then
  if (Af s12 (List.length (at_ Ai (at_ Ag s0 s2.toNat) s3.toNat)))=true then
  (CS ((s0,(s1,(s2,(at_ I (at_ Ai (at_ Ag s0 s2.toNat) s3.toNat) s12.toNat,(s4,()))))))).bind fun r8=>
  let x9:=IntKind.wrap .i64 (s11-(1:Int))
  let r10:=Bl ((r8.1,((0:Int),(x9,()))))
  if (r10.1)=true then
   some (.inl (true,()))
  else
   let x11:=IntKind.wrap .i64 (s12+(1:Int))
   back ((s0,(s1,(s2,(s3,(s4,(s11,(x11,()))))))))
  else none
  else none
  else none
 else
  some (.inr (.inl ()))
 else none
 else none
def RZ (N:Nat):Nat->Qa->Option QI
 | 0,_=>none
 | k+1,d=>Lh N (RZ N k) d
def XB (N:Nat) (d:List (Tab)×List (Tab)×Int×Int×Int×Unit):Option (Bool×Unit):=
 let a0:=d.1
 let a1:=d.2.1
 let a2:=d.2.2.1
 let a3:=d.2.2.2.1
 let a4:=d.2.2.2.2.1
 if (Af a2 (List.length a1))=true then
 if (Af a3 (List.length (at_ Ag a1 a2.toNat)))=true then
 if (Af a4 (List.length (at_ Ai (at_ Ag a1 a2.toNat) a3.toNat)))=true then
 if (decide (at_ I (at_ Ai (at_ Ag a1 a2.toNat) a3.toNat) a4.toNat<=(0:Int)))=true then
  if (decide (at_ I (at_ Ai (at_ Ag a1 a2.toNat) a3.toNat) a4.toNat<(0:Int)))=true then
   some (true,())
  else
   some (a3==a4,())
 else
  (RZ N N ((a0,(a1,(a2,(a3,(a4,(at_ I (at_ Ai (at_ Ag a1 a2.toNat) a3.toNat) a4.toNat,((0:Int),()))))))))).bind fun o5=>match o5 with
  | .inl d6=>
   some (d6.1,())
  | .inr (.inl d7)=>
   some (false,())
 else none
 else none
 else none
def Apn:FSig:=⟨[(An,false),(An,false),(I,false),(I,false),(I,false)],[.bool],true,(EP)⟩
def Awa:Ctx:={ tk:=Ac tks,ar:=Ac ars,fs:=Ac [(163,SQ),(164,Aik),(165,WZ),(166,Apn)] }
abbrev OA:=List (Tab)×List (Tab)×Int×Int×Int×Unit
abbrev Qs:=(Bool×Bool×Unit)⊕(List (Tab)×List (Tab)×Int×Int×Unit)⊕Empty
def Aj5:AP:=[(1,.v An),(6,.own An 99),(7,.v I),(8,.v I),(9,.v I)]
def Al0:AJ:=[(.ret,[(4,.v .bool),(5,.v .bool)]),(.normal,[(1,.v An),(6,.own An 99),(7,.v I),(8,.v I)])]
def KZ (N:Nat) (back:OA->Option Qs) (d:OA):Option Qs:=
 let s1:=d.1
 let s6:=d.2.1
 let s7:=d.2.2.1
 let s8:=d.2.2.2.1
 let s9:=d.2.2.2.2.1
 if (Af s7 (List.length s1))=true then
 if (Af s8 (List.length (at_ Ag s1 s7.toNat)))=true then
 if (decide (s9<(List.length (at_ Ai (at_ Ag s1 s7.toNat) s8.toNat):Int)))=true then
  (EP ((s6,(s1,(s7,(s8,(s9,()))))))).bind fun r33=>
  if (!r33.1)=true then
   some (.inl ((false,(true,()))))
  else
   let x34:=IntKind.wrap .i64 (s9+(1:Int))
   back ((s1,(s6,(s7,(s8,(x34,()))))))
 else
  some (.inr (.inl ((s1,(s6,(s7,(s8,())))))))
 else none
 else none
def NT (N:Nat):Nat->OA->Option Qs
 | 0,_=>none
 | k+1,d=>KZ N (NT N k) d
abbrev PS:=List (Tab)×List (Tab)×Int×Int×Unit
abbrev Pq:=(Bool×Bool×Unit)⊕(List (Tab)×List (Tab)×Int×Unit)⊕Empty
def Aj3:AP:=[(1,.v An),(6,.own An 99),(7,.v I),(8,.v I)]
def Ak7:AJ:=[(.ret,[(4,.v .bool),(5,.v .bool)]),(.normal,[(1,.v An),(6,.own An 99),(7,.v I)])]
def Lv (N:Nat) (back:PS->Option Pq) (d:PS):Option Pq:=
 let s1:=d.1
 let s6:=d.2.1
 let s7:=d.2.2.1
 let s8:=d.2.2.2.1
 if (Af s7 (List.length s1))=true then
 if (decide (s8<(List.length (at_ Ag s1 s7.toNat):Int)))=true then
  (NT N N ((s1,(s6,(s7,(s8,((0:Int),()))))))).bind fun o29=>match o29 with
  | .inl d30=>
   some (.inl ((d30.1,(d30.2.1,()))))
  | .inr (.inl d31)=>
   let x32:=IntKind.wrap .i64 (d31.2.2.2.1+(1:Int))
   back ((d31.1,(d31.2.1,(d31.2.2.1,(x32,())))))
 else
  some (.inr (.inl ((s1,(s6,(s7,()))))))
 else none
def NG (N:Nat):Nat->PS->Option Pq
 | 0,_=>none
 | k+1,d=>Lv N (NG N k) d
abbrev QD:=List (Tab)×List (Tab)×Int×Unit
abbrev OU:=(Bool×Bool×Unit)⊕Unit⊕Empty
def Aox:AP:=[(1,.v An),(6,.own An 99),(7,.v I)]
def Ak4:AJ:=[(.ret,[(4,.v .bool),(5,.v .bool)]),(.normal,[])]
def Lm (N:Nat) (back:QD->Option OU) (d:QD):Option OU:=
 let s1:=d.1
 let s6:=d.2.1
 let s7:=d.2.2.1
 if (decide (s7<(List.length s1:Int)))=true then
  (NG N N ((s1,(s6,(s7,((0:Int),())))))).bind fun o23=>match o23 with
  | .inl d24=>
   some (.inl ((d24.1,(d24.2.1,()))))
  | .inr (.inl d25)=>
   let x26:=IntKind.wrap .i64 (d25.2.2.1+(1:Int))
   back ((d25.1,(d25.2.1,(x26,()))))
 else
  some (.inr (.inl ()))
def Sy (N:Nat):Nat->QD->Option OU
 | 0,_=>none
 | k+1,d=>Lm N (Sy N k) d
def V2 (N:Nat) (d:(Gr×Int×Tab×Unit)×List (Tab)×Unit):Option (Bool×Bool×Unit):=
 let a0:=d.1
 let a1:=d.2.1
 (Dc (a0,())).bind fun r1=>
 if (!r1.1)=true then
  some ((false,(false,())))
 else
  (Ij ((a0,(a1,())))).bind fun r2=>
  if (!r2.1)=true then
   some ((false,(true,())))
  else
   (Dp (a0,())).bind fun r3=>
   (Sy N N ((a1,(r3.1,((0:Int),()))))).bind fun o14=>match o14 with
   | .inl d15=>
    some ((d15.1,(d15.2.1,())))
   | .inr (.inl d16)=>
    some ((true,(true,())))
def Ar2:FSig:=⟨[(Ae,false),(An,false)],[.bool,.bool],true,(D6)⟩
def Acj:FSig:=⟨[(Ai,false),(I,false)],[Ai],true,DV⟩
def Aye:Ctx:={ tk:=Ac tks,ar:=Ac ars,fs:=Ac [] }
def VU (N:Nat) (d:Int×Unit):Option (Bool×Unit):=
 let a0:=d.1
 some (true,())
def S6 (d:Int×Unit):Bool×Unit:=
 let a0:=d.1
 (true,())
theorem Aak (N:Nat) (d):VU N d=some (S6 d):=by
 unfold VU S6
 first
  | rfl
  | (dsimp only; (repeat' split)<;>rfl)
def AC6:FSig:=⟨[(I,false)],[.bool],true,(fun d=>some (S6 d))⟩
def VZ (d:Int×(Unit×Unit)×Unit):Option (Bool×Unit):=(fun d=>some (S6 d)) (d.1,d.2.1.2)
def Aim:FSig:=⟨[(I,false),(Hg,false)],[.bool],true,VZ⟩
def Ayu:Ctx:={ tk:=Ac tks,ar:=Ac ars,fs:=Ac [(179,TD)],cs:=Ac [(233,Aim)],w1:=inL [99] }
def XV (N:Nat) (d:Int×Int×(List Int×Unit)×Tab×(Unit×Unit)×Unit):Option (Bool×Unit):=
 let a0:=d.1
 let a1:=d.2.1
 let a2:=d.2.2.1
 let a3:=d.2.2.2.1
 let a4:=d.2.2.2.2.1
 if (a0==a1)=true then
  some (true,())
 else
  if (Af a0 (List.length a3))=true then
  (BG ((a2,(at_ Ai a3 a0.toNat,(a1,()))))).bind fun r1=>
  if (decide (r1.1>=(0:Int)))=true then
   (VZ ((r1.1,(a4,())))).bind fun r2=>
   some (r2.1,())
  else
   some (false,())
  else none
def ACb:FSig:=⟨[(I,false),(Pv,false),(KU,false),(QH,false),(IX,false)],[.bool],true,(XV 0)⟩
def Sd (d:Int×(Unit×Int×(List Int×Unit)×Tab×(Unit×Unit)×Unit)×Unit):Option (Bool×Unit):=(XV 0) (d.1,d.2.1.2)
def Ag0:FSig:=⟨[(I,false),(AC,false)],[.bool],true,Sd⟩
def AA9:Ctx:={ tk:=Ac tks,ar:=Ac ars,fs:=Ac [],cs:=Ac [(255,Ag0)] }
abbrev SU:=List Int×(Unit×Int×(List Int×Unit)×Tab×(Unit×Unit)×Unit)×Int×Int×Unit
abbrev TX:=(Int×Unit)⊕Unit⊕Empty
def Aux:AP:=[(0,.v Ai),(1,.v AC),(7,.v I),(8,.v I)]
def Aqx:AJ:=[(.ret,[(4,.v I)]),(.normal,[])]
def NH (N:Nat) (back:SU->Option TX) (d:SU):Option TX:=
 let s0:=d.1
 let s1:=d.2.1
 let s7:=d.2.2.1
 let s8:=d.2.2.2.1
 if (decide (s8<s7))=true then
  if (Af s8 (List.length s0))=true then
  (Sd ((at_ I s0 s8.toNat,(s1,())))).bind fun r6=>
  if (r6.1)=true then
   some (.inl (s8,()))
  else
   let x7:=IntKind.wrap .i64 (s8+(1:Int))
   back ((s0,(s1,(s7,(x7,())))))
  else none
 else
  some (.inr (.inl ()))
def X1 (N:Nat):Nat->SU->Option TX
 | 0,_=>none
 | k+1,d=>NH N (X1 N k) d
def Ah2 (N:Nat) (d:List Int×(Unit×Int×(List Int×Unit)×Tab×(Unit×Unit)×Unit)×Unit):Option (Int×Unit):=
 let a0:=d.1
 let a1:=d.2.1
 (X1 N N ((a0,(a1,((List.length a0:Int),((0:Int),())))))).bind fun o3=>match o3 with
 | .inl d4=>
  some (d4.1,())
 | .inr (.inl d5)=>
  some ((-1:Int),())
def Azv:FSig:=⟨[(Ai,false),(AC,false)],[I],true,(Io)⟩
def ADj:Ctx:={ tk:=Ac tks,ar:=Ac ars,fs:=Ac [(248,Azv)] }
def Aib (N:Nat) (d:List Int×(Unit×Int×(List Int×Unit)×Tab×(Unit×Unit)×Unit)×Unit):Option (Bool×Unit):=
 let a0:=d.1
 let a1:=d.2.1
 (Io ((a0,(a1,())))).bind fun r1=>
 some ((decide (r1.1>=(0:Int)),()))
def Azq:FSig:=⟨[(Ai,false),(AC,false)],[.bool],true,(Aib 0)⟩
def Ay0:Ctx:={ tk:=Ac tks,ar:=Ac ars,fs:=Ac [(127,Di),(130,QY),(214,Azq)],cs:=Ac [],fz:=fun t=>Nat.beq t 5||Nat.beq t 6||Nat.beq t 8||Nat.beq t 9 }
def TQ (N:Nat) (d:(List Int×Unit)×Tab×Int×Int×(Unit×Unit)×Unit):Option (Bool×Unit):=
 let a0:=d.1
 let a1:=d.2.1
 let a2:=d.2.2.1
 let a3:=d.2.2.2.1
 let a4:=d.2.2.2.2.1
 ((IS 0) ((a0,(a2,())))).bind fun r1=>
 (D7 (r1.1,())).bind fun r2=>
 ((Aib 0) ((r2.1,(((),(a3,(a0,(a1,(a4,()))))),())))).bind fun r3=>
 some (r3.1,())
def Aut:FSig:=⟨[(AA,false),(Ag,false),(I,false),(I,false),(Hg,false)],[.bool],true,(TQ 0)⟩
def Avc:Ctx:={ tk:=Ac tks,ar:=Ac ars,fs:=Ac [(188,OG),(191,Acj),(229,Aut)] }
abbrev Qo:=(List (List Int×Unit))×Int×List (Tab)×Int×Int×Int×Int×Int×Unit
abbrev Pi:=((List (List Int×Unit))×Int×List (Tab)×Int×Int×Unit)⊕Empty
def Akh:AP:=[(0,.v AU),(3,.v I),(4,.own An 99),(5,.v I),(25,.v I),(26,.v I),(29,.v I),(30,.v I)]
def Am3:AJ:=[(.normal,[(0,.v AU),(3,.v I),(4,.own An 99),(25,.v I),(26,.v I)])]
def K5 (N:Nat) (back:Qo->Option Pi) (d:Qo):Option Pi:=
 let s0:=d.1
 let s3:=d.2.1
 let s4:=d.2.2.1
 let s5:=d.2.2.2.1
 let s25:=d.2.2.2.2.1
 let s26:=d.2.2.2.2.2.1
 let s29:=d.2.2.2.2.2.2.1
 let s30:=d.2.2.2.2.2.2.2.1
 if (decide (s30<s29))=true then
  (DV (([(-1:Int)],(s3,())))).bind fun r41=>
  if (Af s30 (List.length r41.1))=true then
  let x42:=List.set r41.1 s30.toNat (0:Int)
  if (Af s5 (List.length s4))=true then
  if (decide (List.length (at_ Ag s4 s5.toNat)+List.length ([x42])<=lim))=true then
  let x43:=(at_ Ag s4 s5.toNat)++([x42])
  if (Af s5 (List.length s4))=true then
  if (((Nat.beq s5.toNat s5.toNat)&&true))=true then
  let x44:=IntKind.wrap .i64 (s30+(1:Int))
  back ((s0,(s3,(List.set s4 s5.toNat x43,(s5,(s25,(s26,(s29,(x44,())))))))))
  else none
  else none
  else none
  else none
  else none
 else
  some (.inl ((s0,(s3,(s4,(s25,(s26,())))))))
def NA (N:Nat):Nat->Qo->Option Pi
 | 0,_=>none
 | k+1,d=>K5 N (NA N k) d
abbrev Pz:=(List (List Int×Unit))×Int×List (Tab)×Int×Int×Unit
abbrev QF:=((List (List Int×Unit))×Int×List (Tab)×Unit)⊕Empty
def Aoh:AP:=[(0,.v AU),(3,.v I),(4,.own An 99),(25,.v I),(26,.v I)]
def Ajv:AJ:=[(.normal,[(0,.v AU),(3,.v I),(4,.own An 99)])]
def KP (N:Nat) (back:Pz->Option QF) (d:Pz):Option QF:=
 let s0:=d.1
 let s3:=d.2.1
 let s4:=d.2.2.1
 let s25:=d.2.2.2.1
 let s26:=d.2.2.2.2.1
 if (decide (s26<s25))=true then
  (NA N N ((s0,(s3,(s4,(s26,(s25,(s26,(s3,((0:Int),())))))))))).bind fun o38=>match o38 with
  | .inl d39=>
   let x40:=IntKind.wrap .i64 (d39.2.2.2.2.1+(1:Int))
   back ((d39.1,(d39.2.1,(d39.2.2.1,(d39.2.2.2.1,(x40,()))))))
 else
  some (.inl ((s0,(s3,(s4,())))))
def NK (N:Nat):Nat->Pz->Option QF
 | 0,_=>none
 | k+1,d=>KP N (NK N k) d
abbrev ME:=(List (List Int×Unit))×Int×List (Tab)×Int×Bool×(List (Int×Int×Int×Unit))×Int×(List Int×Unit)×Int×(List (List Int×Unit))×Int×Int×Int×Int×Int×Int×Unit
abbrev MH:=((List (List Int×Unit))×Int×List (Tab)×Int×Bool×(List (Int×Int×Int×Unit))×Int×(List Int×Unit)×(List (List Int×Unit))×Int×Int×Int×Int×Unit)⊕Empty
def Adc:AP:=[(0,.v AU),(3,.v I),(4,.own An 99),(8,.v I),(9,.v .bool),(10,.own FC 99),(11,.v I),(12,.box AA 0),(13,.v I),(54,.v AU),(55,.v I),(56,.v I),(61,.v I),(62,.v I),(65,.v I),(66,.v I)]
def Ab2:AJ:=[(.normal,[(0,.v AU),(3,.v I),(4,.own An 99),(8,.v I),(9,.v .bool),(10,.own FC 99),(11,.v I),(12,.box AA 0),(54,.v AU),(55,.v I),(56,.v I),(61,.v I),(62,.v I)])]
def Ja (N:Nat) (back:ME->Option MH) (d:ME):Option MH:=
 let s0:=d.1
 let s3:=d.2.1
 let s4:=d.2.2.1
 let s8:=d.2.2.2.1
 let s9:=d.2.2.2.2.1
 let s10:=d.2.2.2.2.2.1
 let s11:=d.2.2.2.2.2.2.1
 let s12:=d.2.2.2.2.2.2.2.1
 let s13:=d.2.2.2.2.2.2.2.2.1
 let s54:=d.2.2.2.2.2.2.2.2.2.1
 let s55:=d.2.2.2.2.2.2.2.2.2.2.1
 let s56:=d.2.2.2.2.2.2.2.2.2.2.2.1
 let s61:=d.2.2.2.2.2.2.2.2.2.2.2.2.1
 let s62:=d.2.2.2.2.2.2.2.2.2.2.2.2.2.1
 let s65:=d.2.2.2.2.2.2.2.2.2.2.2.2.2.2.1
 let s66:=d.2.2.2.2.2.2.2.2.2.2.2.2.2.2.2.1
 if (decide (s66<s65))=true then
  if (Af s11 (List.length s4))=true then
  if (Af s13 (List.length (at_ Ag s4 s11.toNat)))=true then
  if (Af s66 (List.length (at_ Ai (at_ Ag s4 s11.toNat) s13.toNat)))=true then
  if (decide (at_ I (at_ Ai (at_ Ag s4 s11.toNat) s13.toNat) s66.toNat<(0:Int)))=true then
   let x88:=IntKind.wrap .i64 (s11+(1:Int))
   if ((List.length s0:Int) != 0)=true then
   let x89:=x88.tmod (List.length s0:Int)
   if (Af x89 (List.length s4))=true then
   ((TQ 0) ((s12,(at_ Ag s4 x89.toNat,(s13,(s66,(((),()),()))))))).bind fun r90=>
   if (r90.1)=true then
    if (decide (List.length s10+List.length ([(s11,(s13,(s66,())))])<=lim))=true then
    let x91:=s10++([(s11,(s13,(s66,())))])
    let x92:=IntKind.wrap .i64 (s66+(1:Int))
    back ((s0,(s3,(s4,(s8,(s9,(x91,(s11,(s12,(s13,(s54,(s55,(s56,(s61,(s62,(s65,(x92,())))))))))))))))))
    else none
   else
    let x93:=IntKind.wrap .i64 (s66+(1:Int))
    back ((s0,(s3,(s4,(s8,(s9,(s10,(s11,(s12,(s13,(s54,(s55,(s56,(s61,(s62,(s65,(x93,())))))))))))))))))
   else none
   else none
  else
   let x94:=IntKind.wrap .i64 (s66+(1:Int))
   back ((s0,(s3,(s4,(s8,(s9,(s10,(s11,(s12,(s13,(s54,(s55,(s56,(s61,(s62,(s65,(x94,())))))))))))))))))
  else none
  else none
  else none
 else
  some (.inl ((s0,(s3,(s4,(s8,(s9,(s10,(s11,(s12,(s54,(s55,(s56,(s61,(s62,())))))))))))))))
def Ku (N:Nat):Nat->ME->Option MH
 | 0,_=>none
 | k+1,d=>Ja N (Ku N k) d
abbrev Ob:=(List (List Int×Unit))×Int×List (Tab)×Int×Bool×(List (Int×Int×Int×Unit))×Int×(List Int×Unit)×(List (List Int×Unit))×Int×Int×Int×Int×Unit
abbrev N4:=((List (List Int×Unit))×Int×List (Tab)×Int×Bool×(List (Int×Int×Int×Unit))×(List (List Int×Unit))×Int×Int×Unit)⊕Empty
def Am0:AP:=[(0,.v AU),(3,.v I),(4,.own An 99),(8,.v I),(9,.v .bool),(10,.own FC 99),(11,.v I),(12,.box AA 0),(54,.v AU),(55,.v I),(56,.v I),(61,.v I),(62,.v I)]
def Aj8:AJ:=[(.normal,[(0,.v AU),(3,.v I),(4,.own An 99),(8,.v I),(9,.v .bool),(10,.own FC 99),(54,.v AU),(55,.v I),(56,.v I)])]
def Ly (N:Nat) (back:Ob->Option N4) (d:Ob):Option N4:=
 let s0:=d.1
 let s3:=d.2.1
 let s4:=d.2.2.1
 let s8:=d.2.2.2.1
 let s9:=d.2.2.2.2.1
 let s10:=d.2.2.2.2.2.1
 let s11:=d.2.2.2.2.2.2.1
 let s12:=d.2.2.2.2.2.2.2.1
 let s54:=d.2.2.2.2.2.2.2.2.1
 let s55:=d.2.2.2.2.2.2.2.2.2.1
 let s56:=d.2.2.2.2.2.2.2.2.2.2.1
 let s61:=d.2.2.2.2.2.2.2.2.2.2.2.1
 let s62:=d.2.2.2.2.2.2.2.2.2.2.2.2.1
 if (decide (s62<s61))=true then
  (Ku N N ((s0,(s3,(s4,(s8,(s9,(s10,(s11,(s12,(s62,(s54,(s55,(s56,(s61,(s62,(s3,((0:Int),())))))))))))))))))).bind fun o85=>match o85 with
  | .inl d86=>
   let x87:=IntKind.wrap .i64 (d86.2.2.2.2.2.2.2.2.2.2.2.2.1+(1:Int))
   back ((d86.1,(d86.2.1,(d86.2.2.1,(d86.2.2.2.1,(d86.2.2.2.2.1,(d86.2.2.2.2.2.1,(d86.2.2.2.2.2.2.1,(d86.2.2.2.2.2.2.2.1,(d86.2.2.2.2.2.2.2.2.1,(d86.2.2.2.2.2.2.2.2.2.1,(d86.2.2.2.2.2.2.2.2.2.2.1,(d86.2.2.2.2.2.2.2.2.2.2.2.1,(x87,()))))))))))))))
 else
  some (.inl ((s0,(s3,(s4,(s8,(s9,(s10,(s54,(s55,(s56,())))))))))))
def Nw (N:Nat):Nat->Ob->Option N4
 | 0,_=>none
 | k+1,d=>Ly N (Nw N k) d
abbrev OY:=(List (List Int×Unit))×Int×List (Tab)×Int×Bool×(List (Int×Int×Int×Unit))×(List (List Int×Unit))×Int×Int×Unit
abbrev OZ:=((List (List Int×Unit))×Int×List (Tab)×Int×Bool×(List (Int×Int×Int×Unit))×Unit)⊕Empty
def Aph:AP:=[(0,.v AU),(3,.v I),(4,.own An 99),(8,.v I),(9,.v .bool),(10,.own FC 99),(54,.v AU),(55,.v I),(56,.v I)]
def Ano:AJ:=[(.normal,[(0,.v AU),(3,.v I),(4,.own An 99),(8,.v I),(9,.v .bool),(10,.own FC 99)])]
def Lx (N:Nat) (back:OY->Option OZ) (d:OY):Option OZ:=
 let s0:=d.1
 let s3:=d.2.1
 let s4:=d.2.2.1
 let s8:=d.2.2.2.1
 let s9:=d.2.2.2.2.1
 let s10:=d.2.2.2.2.2.1
 let s54:=d.2.2.2.2.2.2.1
 let s55:=d.2.2.2.2.2.2.2.1
 let s56:=d.2.2.2.2.2.2.2.2.1
 if (decide (s56<s55))=true then
  if (Af s56 (List.length s54))=true then
  (Nw N N ((s0,(s3,(s4,(s8,(s9,(s10,(s56,(at_ AA s54 s56.toNat,(s54,(s55,(s56,(s3,((0:Int),()))))))))))))))).bind fun o75=>match o75 with
  | .inl d76=>
   let x77:=IntKind.wrap .i64 (d76.2.2.2.2.2.2.2.2.1+(1:Int))
   back ((d76.1,(d76.2.1,(d76.2.2.1,(d76.2.2.2.1,(d76.2.2.2.2.1,(d76.2.2.2.2.2.1,(d76.2.2.2.2.2.2.1,(d76.2.2.2.2.2.2.2.1,(x77,()))))))))))
  else none
 else
  some (.inl ((s0,(s3,(s4,(s8,(s9,(s10,()))))))))
def Nv (N:Nat):Nat->OY->Option OZ
 | 0,_=>none
 | k+1,d=>Lx N (Nv N k) d
abbrev LR:=(List (List Int×Unit))×Int×List (Tab)×Int×Bool×(List (Int×Int×Int×Unit))×Int×Int×Unit
abbrev L5:=((List (List Int×Unit))×Int×List (Tab)×Int×Bool×Unit)⊕Empty
def Aal:AP:=[(0,.v AU),(3,.v I),(4,.own An 99),(8,.v I),(9,.v .bool),(104,.own FC 99),(105,.v I),(106,.v I)]
def Af0:AJ:=[(.normal,[(0,.v AU),(3,.v I),(4,.own An 99),(8,.v I),(9,.v .bool)])]
def IP (N:Nat) (back:LR->Option L5) (d:LR):Option L5:=
 let s0:=d.1
 let s3:=d.2.1
 let s4:=d.2.2.1
 let s8:=d.2.2.2.1
 let s9:=d.2.2.2.2.1
 let s104:=d.2.2.2.2.2.1
 let s105:=d.2.2.2.2.2.2.1
 let s106:=d.2.2.2.2.2.2.2.1
 if (decide (s106<s105))=true then
  if (Af s106 (List.length s104))=true then
  if (Af (at_ Dl s104 s106.toNat).1 (List.length s4))=true then
  if (Af (at_ Dl s104 s106.toNat).2.1 (List.length (at_ Ag s4 (at_ Dl s104 s106.toNat).1.toNat)))=true then
  if (Af (at_ Dl s104 s106.toNat).2.2.1 (List.length (at_ Ai (at_ Ag s4 (at_ Dl s104 s106.toNat).1.toNat) (at_ Dl s104 s106.toNat).2.1.toNat)))=true then
  let x95:=List.set s4 (at_ Dl s104 s106.toNat).1.toNat (List.set (at_ Ag s4 (at_ Dl s104 s106.toNat).1.toNat) (at_ Dl s104 s106.toNat).2.1.toNat (List.set (at_ Ai (at_ Ag s4 (at_ Dl s104 s106.toNat).1.toNat) (at_ Dl s104 s106.toNat).2.1.toNat) (at_ Dl s104 s106.toNat).2.2.1.toNat s8))
  let x96:=IntKind.wrap .i64 (s106+(1:Int))
  back ((s0,(s3,(x95,(s8,(true,(s104,(s105,(x96,())))))))))
  else none
  else none
  else none
  else none
 else
  some (.inl ((s0,(s3,(s4,(s8,(s9,())))))))
end Go.V.W
end
